/- What is proved here: a part of the proof that the statement of this claim holds (several texts of wip/, laid together). -/
import Derived.Test.YthdlghbibaoabaaGreatW3
namespace Go.Proofs.YthdlghbibaoabaaGreat.E
open Go
set_option linter.unusedVariables false
set_option maxRecDepth 100000
set_option linter.unusedSimpArgs false
set_option linter.unusedSectionVars false
noncomputable section
theorem must {d:Type}{c:Bool}{a b r:Option d}(h:c=true)(k:a=r):(cond c a b)=r:=by rw[h];exact k
theorem mu {d:Type}{c:Bool}{a b r:Option d}(k:a=r)(h:c=true:=by first|assumption|(simp_all<;>omega)):(cond c a b)=r:=must h k
theorem zdh {d:Type}{c:Bool}{a b r:Option d}(h:c=false)(k:b=r):(cond c a b)=r:=by rw[h];exact k
theorem br {f:Type}{c:Bool}{a b r:Option f}(d:c=true->a=r)(e:c=false->b=r):(cond c a b)=r:=by cases c;{exact e rfl};{exact d rfl}
theorem brN {f:Type}{c:Bool}{a b r:Option f}(d:c=false->a=r)(e:c=true->b=r):(cond (cond c false true) a b)=r:=by cases c;{exact d rfl};{exact e rfl}
theorem shr {a b:Type}{x:a}{f:a->Option b}{r:Option b}(h:f x=r):share x f=r:=h
theorem ziV {e:Type}{c p:Bool}{a b:Option e}(d:c=true):(cond c (cond (cond p false true) a b) none)=bif p then b else a:=by rw[d];cases p<;>rfl
attribute [simp] zL
@[simp] theorem zbaj {a:Type}(l:List a):(few (ln l)=true)↔l.length<=2147483648:=by unfold few ln;rw[decide_eq_true_iff];omega
@[simp] theorem zbc0 {a:Type}(l m:List a):(ap l m).length=l.length+m.length:=by simp[ap]
attribute [simp] zlU zf0
@[simp] theorem z8R (n:Nat)(k:IntKind)(x:Int):CVB n (.i k x)↔True:=⟨fun _=>trivial,fun _=>.i k x⟩
@[simp] theorem zbc4 (n:Nat)(x:Bool):CVB n (.b x)↔True:=⟨fun _=>trivial,fun _=>.b x⟩
theorem zk6 {n:Nat}{t:Ty}(l:List t.den):CVB n (.s t l)↔l.length<=n/\∀x∈l,∀c∈t.cells x,CVB n c:=⟨fun h=>h.inv,fun h=>.s t l h.1 h.2⟩
@[simp] theorem zZh (n:Nat)(l:List Int):CVB n (.s .int l)↔l.length<=n:=by rw[zk6];simp[Ty.cells]
@[simp] theorem zbbE (n:Nat)(l:List Int):CVB n (.s .u8 l)↔l.length<=n:=by rw[zk6];simp[Ty.cells]
@[simp] theorem z5Z (n:Nat)(l:List Bool):CVB n (.s .bool l)↔l.length<=n:=by rw[zk6];simp[Ty.cells]
@[simp] theorem z6b (n:Nat)(l:List Slot):CVB n (.s .slot l)↔l.length<=n:=by rw[zk6];simp[Ty.cells]
@[simp] theorem zbaa (n:Nat)(l:List Ins):CVB n (.s .ins l)↔l.length<=n:=by rw[zk6];simp[Ty.cells]
@[simp] theorem z3h (n:Nat)(l:List Entry):CVB n (.s .entry l)↔l.length<=n:=by rw[zk6];simp[Ty.cells]
@[simp] theorem z99 (n:Nat)(l:List GAct):CVB n (.s .act l)↔l.length<=n:=by rw[zk6];simp[Ty.cells]
@[simp] theorem z6c (n:Nat)(l:List Told):CVB n (.s .told l)↔l.length<=n:=by rw[zk6];simp[Ty.cells]
def SmM (m:List (List Int)):Prop:=m.length<=1048576/\∀x∈m,x.length<=1048576
def SmG (g:Guest):Prop:=g.Prog.length<=1048576/\g.Written.length<=1048576/\g.Live.length<=1048576/\g.Seen.length<=1048576
def zkh (l:List Guest):Prop:=l.length<=1048576/\∀x∈l,SmG x
def SmB (b:Bare):Prop:=SmM b.Memory/\zkh b.Guests/\b.Outs.length<=1048576
def z0e (l:List Bare):Prop:=l.length<=1048576/\∀x∈l,SmB x
theorem z7l:sm=1048576:=rfl
@[simp] theorem z0C (l:List Int):CVB sm (.s .int l)↔l.length<=1048576:=zZh sm l
@[simp] theorem zbcG (l:List Int):CVB sm (.s .u8 l)↔l.length<=1048576:=zbbE sm l
@[simp] theorem zXG (l:List Bool):CVB sm (.s .bool l)↔l.length<=1048576:=z5Z sm l
@[simp] theorem zXH (l:List Slot):CVB sm (.s .slot l)↔l.length<=1048576:=z6b sm l
@[simp] theorem zbch (l:List Ins):CVB sm (.s .ins l)↔l.length<=1048576:=zbaa sm l
@[simp] theorem zUt (l:List Entry):CVB sm (.s .entry l)↔l.length<=1048576:=z3h sm l
@[simp] theorem zbcg (l:List GAct):CVB sm (.s .act l)↔l.length<=1048576:=z99 sm l
@[simp] theorem zbb9 (l:List Told):CVB sm (.s .told l)↔l.length<=1048576:=z6c sm l
@[simp] theorem zpA (l:List (List Int)):CVB sm (.s (.sl .int) l)↔SmM l:=by rw[zk6];simp[Ty.cells,SmM,z7l]
@[simp] theorem z9M (g:Guest):(∀c∈Ty.cells .guest g,CVB sm c)↔SmG g:=by simp[Ty.cells,SmG,z7l]
@[simp] theorem zvo (l:List Guest):CVB sm (.s .guest l)↔zkh l:=by rw[zk6];simp only[z9M];rfl
@[simp] theorem z9L (b:Bare):(∀c∈Ty.cells .bare b,CVB sm c)↔SmB b:=by simp only[Ty.cells,qG,qO,or_false,vI,forall_eq,zpA,zvo,zZh,z8R,and_true];rfl
@[simp] theorem zbcK (l:List Bare):CVB sm (.s .bare l)↔z0e l:=by rw[zk6];simp only[z9L];rfl
@[simp] theorem zbc3 (a:List Ins)(b c:Int)(d e:List Slot)(f:Ctl)(g:Int)(h:GExit)(i:Bool)(j:List Int):SmG ⟨a,b,c,d,e,f,g,h,i,j⟩↔a.length<=1048576/\d.length<=1048576/\e.length<=1048576/\j.length<=1048576:=Iff.rfl
@[simp] theorem zbc2 (m:List (List Int))(g:List Guest)(o:List Int)(p:Int):SmB ⟨m,g,o,p⟩↔SmM m/\zkh g/\o.length<=1048576:=Iff.rfl
theorem zNj {m:List (List Int)}{i:Int}{x:List Int}(h:SmM m)(b:x.length<=1048576):SmM (up m i x):=by refine⟨by simpa using h.1,fun y a=>?_⟩;rcases qW a with a|rfl;{exact h.2 y a};{exact b}
theorem zFE {m:List Guest}{i:Int}{x:Guest}(h:zkh m)(b:SmG x):zkh (up m i x):=by refine⟨by simpa using h.1,fun y a=>?_⟩;rcases qW a with a|rfl;{exact h.2 y a};{exact b}
theorem zba0 {m:List Bare}{i:Int}{x:Bare}(h:z0e m)(b:SmB x):z0e (up m i x):=by refine⟨by simpa using h.1,fun y a=>?_⟩;rcases qW a with a|rfl;{exact h.2 y a};{exact b}
theorem z4O {l:List Guest}{i:Int}(h:zkh l)(a:hasB i (ln l)=true)(d:Guest):SmG (ix l i d):=h.2 _ (zbD a d)
theorem zbb3 {l:List (List Int)}{i:Int}(h:SmM l)(a:hasB i (ln l)=true)(d:List Int):(ix l i d).length<=1048576:=h.2 _ (zbD a d)
@[simp] theorem zbcy:SmG zC:=⟨by decide,by decide,by decide,by decide⟩
def win (x a b:Int):Bool:=ige x a&&ile x b
@[simp] theorem zTG (x a b:Int):zT x a b=win x a b:=rfl
@[simp] theorem zbc5 (x a b:Int):zcH x a b=win x a b:=rfl
@[simp] theorem zUY (i n:Int):inb i n=hasB i n:=rfl
attribute [simp] zka
@[simp] theorem zqh {a:Type}{l:List a}(h:l.length<=1048576)(i:Int):win i 0 (wsub .i64 (ln l) 1)=hasB i (ln l):=zDR (zcF h).1 i
theorem zJ6 {a:Type}{l:List a}(h:l.length<=big)(i:Int):win i 0 (wsub .i64 (ln l) 1)=hasB i (ln l):=zDR h i
theorem zfC {x a b:Int}:(win x a b=true)↔a<=x/\x<=b:=by unfold win ige ile;simp only[qD,decide_eq_true_iff]
theorem zbau (a b:Int):ilt a b = !ige a b:=by unfold ilt ige;by_cases h:a<b;{rw [qJ h,qL (by omega)];rfl};{rw [qL h,qJ (by omega)];rfl}
attribute [simp] zbu zgb zgo zla zgY zgZ ze5 zg0 zp2 zcv zfG
attribute [simp] zeh zc2 zfO zdF
attribute [simp] zfL zdj zfr zdJ
def zbi (a:Int):Int:=bif ilt a 0 then -1 else zXv .i64 a 4
def zdc (a:Int):Int:=bif ilt a 0 then -1 else zqi a 4
@[simp] abbrev zfW (a:Int):Bool:=true
@[simp] abbrev zcQ (a:Int):Int:=zbi a
def zyO:Run:=rF1 dI fun b=>(zfW b,[aI (zcQ b)])
def zCJ (N:Nat)(a0:Int):OA:=
 (cond (ilt a0 0) (some [(aI (-1))]) (oN (ine 4 0) (some [(aI (zXv .i64 a0 4))])))
theorem zO6 (a0:Int)(a:zfW a0=true):∃N,zCJ N a0=some [aI (zcQ a0)]:=by refine⟨0,?_⟩;unfold zCJ oN;refine br (fun _=>?_) (fun _=>must rfl ?_);all_goals first|rfl|(simp only [*,zcQ,zbi,cT,cF]<;>rfl)|simp_all[Ty.cells,zcQ,zbi]
theorem zIR:vM 255 zyO:=kF1 zfj zB zy zn (zq []) zO6
@[simp] abbrev ziy (a:Int):Bool:=true
@[simp] abbrev zd6 (a:Int):Int:=zdc a
def zyN:Run:=rF1 dI fun b=>(ziy b,[aI (zd6 b)])
def zCI (N:Nat)(a0:Int):OA:=
 (cond (ilt a0 0) (some [(aI (-1))]) (oN (ine 4 0) (some [(aI (zqi a0 4))])))
theorem zO5 (a0:Int)(a:ziy a0=true):∃N,zCI N a0=some [aI (zd6 a0)]:=by refine⟨0,?_⟩;unfold zCI oN;refine br (fun _=>?_) (fun _=>must rfl ?_);all_goals first|rfl|(simp only [*,zd6,zdc,cT,cF]<;>rfl)|simp_all[Ty.cells,zd6,zdc]
theorem zIQ:vM 256 zyN:=kF1 zfj zB zy zn (zq []) zO5
def zcc (w:Bool):Int:=bif w then 2 else 1
@[simp] abbrev ztc (w:Bool):Bool:=true
@[simp] abbrev zfa (w:Bool):Int:=zcc w
def zEr:Run:=rF1 dB fun b=>(ztc b,[aI (zfa b)])
def zKu (N:Nat)(a0:Bool):OA:=
 (cond a0 (some [(aI 2)]) (some [(aI 1)]))
theorem zVv (a0:Bool)(a:ztc a0=true):∃N,zKu N a0=some [aI (zfa a0)]:=by refine⟨0,?_⟩;unfold zKu;refine br (fun _=>?_) (fun _=>?_);all_goals first|rfl|(simp only [*,zfa,zcc,cT,cF]<;>rfl)|simp_all[Ty.cells,zfa,zcc]
theorem zOo:vM 291 zEr:=kF1 zfj zB zy zn (zq []) zVv
def zrx (p:Int)(w:Bool):GExit:=⟨1,p,w,0⟩
def zzF (n:Int):GExit:=⟨2,0,false,n⟩
def zyp (n:Int):GExit:=⟨3,0,false,n⟩
@[simp] abbrev zjA (p:Int)(w:Bool):Bool:=true
@[simp] abbrev zeU (p:Int)(w:Bool):GExit:=zrx p w
def zoh:Run:=rF2 dI dB fun b c=>(zjA b c,[.agg (zft (zeU b c))])
def zBa (N:Nat)(a0:Int)(a:Bool):OA:=
 (some [(.agg [(.i .i64 1),(.i .i64 a0),(.b a),(.i .i64 0)])])
theorem zMp (a0:Int)(a:Bool)(b:zjA a0 a=true):∃N,zBa N a0 a=some [.agg (zft (zeU a0 a))]:=by refine⟨0,?_⟩;unfold zBa;first|rfl|(simp only [*,zeU,cT,cF]<;>rfl)|simp_all[Ty.cells,zeU]
theorem zsL:vM 293 zoh:=kF2 zfj zB zy zn (zq []) zMp
@[simp] abbrev zov (n:Int):Bool:=true
@[simp] abbrev ze9 (n:Int):GExit:=zzF n
def zpX:Run:=rF1 dI fun b=>(zov b,[.agg (zft (ze9 b))])
def zCM (N:Nat)(a0:Int):OA:=
 (some [(.agg [(.i .i64 2),(.i .i64 0),(.b false),(.i .i64 a0)])])
theorem zO9 (a0:Int)(a:zov a0=true):∃N,zCM N a0=some [.agg (zft (ze9 a0))]:=by refine⟨0,?_⟩;unfold zCM;first|rfl|(simp only [*,ze9,cT,cF]<;>rfl)|simp_all[Ty.cells,ze9]
theorem zt1:vM 318 zpX:=kF1 zfj zB zy zn (zq []) zO9
@[simp] abbrev zq0 (n:Int):Bool:=true
@[simp] abbrev zfX (n:Int):GExit:=zyp n
def zsp:Run:=rF1 dI fun b=>(zq0 b,[.agg (zft (zfX b))])
def zGX (N:Nat)(a0:Int):OA:=
 (some [(.agg [(.i .i64 3),(.i .i64 0),(.b false),(.i .i64 a0)])])
theorem zSE (a0:Int)(a:zq0 a0=true):∃N,zGX N a0=some [.agg (zft (zfX a0))]:=by refine⟨0,?_⟩;unfold zGX;first|rfl|(simp only [*,zfX,cT,cF]<;>rfl)|simp_all[Ty.cells,zfX]
theorem zvE:vM 319 zsp:=kF1 zfj zB zy zn (zq []) zSE
def zgI (t x:Int):Bool:=bif win t 0 3 then (cond (win x 1 2) (ine (wand .i64 t x) 0) false) else false
@[simp] abbrev zh4 (t x:Int):Bool:=true
@[simp] abbrev zhJ (t x:Int):Bool:=zgI t x
def zBJ:Run:=rF2 dI dI fun b c=>(zh4 b c,[aB (zhJ b c)])
def zGP (N:Nat)(a0 a:Int):OA:=
 (oN (zN a0 0 3) (cond (zT a0 0 3) (oN (zN a 1 2) (cond (zT a 1 2) (some [(aB (ine (wand .i64 a0 a) 0))]) oF)) oF))
theorem zSv (a0 a:Int)(b:zh4 a0 a=true):∃N,zGP N a0 a=some [aB (zhJ a0 a)]:=by refine⟨0,?_⟩;unfold zGP oN;refine must rfl (br (fun _=>must rfl (br (fun _=>?_) (fun _=>?_))) (fun _=>?_));all_goals first|rfl|(simp only [*,zhJ,zgI,cT,cF]<;>rfl)|simp_all[Ty.cells,zhJ,zgI]
theorem zLx:vM 322 zBJ:=kF2 zfj zB zy zn (zq []) zSv
def zc3 (p:Int):Bool:=win p 0 255
@[simp] abbrev zfe (p:Int):Bool:=true
@[simp] abbrev zfd (p:Int):Bool:=zc3 p
def zEu:Run:=rF1 dI fun b=>(zfe b,[aB (zfd b)])
def zKA (N:Nat)(a0:Int):OA:=
 (oN (zN a0 0 255) (some [(aB (zT a0 0 255))]))
theorem zVB (a0:Int)(a:zfe a0=true):∃N,zKA N a0=some [aB (zfd a0)]:=by refine⟨0,?_⟩;unfold zKA oN;refine must rfl ?_;first|rfl|(simp only [*,zfd,zc3,cT,cF]<;>rfl)|simp_all[Ty.cells,zfd,zc3]
theorem zOr:vM 150 zEu:=kF1 zfj zB zy zn (zq []) zVB
@[simp] abbrev zsX (p:Int):Bool:=true
@[simp] abbrev zpJ (p:Int):Bool:=zc3 p
def zEe:Run:=rF1 dI fun b=>(zsX b,[aB (zpJ b)])
def zKf (N:Nat)(a0:Int):OA:=
 (oN (zcm a0 0 255) (some [(aB (zcH a0 0 255))]))
theorem zVe (a0:Int)(a:zsX a0=true):∃N,zKf N a0=some [aB (zpJ a0)]:=by refine⟨0,?_⟩;unfold zKf oN;refine must rfl ?_;first|rfl|(simp only [*,zpJ,zc3,cT,cF]<;>rfl)|simp_all[Ty.cells,zpJ,zc3]
theorem zOb:vM 259 zEe:=kF1 zfj zB zy zn (zq []) zVe
def zcs (l:List Ins)(p:Int):Ins:=bif hasB p (ln l) then ix l p zpk else ⟨7,0⟩
@[simp] abbrev zfp (l:List Ins)(p:Int):Bool:=true
@[simp] abbrev zfz (l:List Ins)(p:Int):Ins:=zcs l p
def zHJ:Run:=rF2 (dS .ins) dI fun b c=>(zfp b c,[aT .ins (zfz b c)])
def zQw (N:Nat)(a0:lI)(a:Int):OA:=
 (oN (zN a 0 (wsub .i64 (ln a0) 1)) (cond (nB (zT a 0 (wsub .i64 (ln a0) 1))) (some [(.agg [(.i .i64 7),(.i .i64 0)])]) (oN (inb a (ln a0)) (some [(.agg [(.i .i64 (ix a0 a zpk).Op),(.i .i64 (ix a0 a zpk).X)])]))))
theorem zX8 (a0:List Ins)(a:Int)(b:zb6 big [aS .ins a0,aI a])(d:zfp a0 a=true):∃N,zQw N a0 a=some [aT .ins (zfz a0 a)]:=by have c:=((zdg b).1 _ (qF.2 rfl)).len;have e:=zJ6 c;refine⟨0,?_⟩;unfold zQw oN nB;refine must rfl (brN (fun _=>?_) (fun _=>mu ?_));all_goals first|rfl|(simp only [*,zfz,zcs,cT,cF]<;>rfl)|simp_all[Ty.cells,zfz,zcs]
theorem zR2:vM 43 zHJ:=hF2 zfj zB zy zn (zq []) zX8
def zzk (w:Int):Int:=bif ieq w 5 then 1 else 2
def zdw (s:Slot)(n:Int):Bool:=bif zcV s noSlot then true else (cond (igt n 0) (cond (win s.Page 0 (wsub .i64 n 1)) (win s.Rights 1 3) false) false)
@[simp] abbrev ztg (s:Slot)(n:Int):Bool:=true
@[simp] abbrev zp8 (s:Slot)(n:Int):Bool:=zdw s n
def zEy:Run:=rF2 (dT .slot) dI fun b c=>(ztg b c,[aB (zp8 b c)])
def zKE (N:Nat)(a0:Slot)(a:Int):OA:=
 (oN zcv (cond (cond (ieq a0.Page zbu.Page) (ieq a0.Rights zbu.Rights) false) oT (oN (zN a0.Page 0 (wsub .i64 a 1)) (cond (zT a0.Page 0 (wsub .i64 a 1)) (cond (igt a 0) (oN (zN a0.Rights 1 3) (some [(aB (zT a0.Rights 1 3))])) oF) oF))))
theorem zVF (a0:Slot)(a:Int)(b:ztg a0 a=true):∃N,zKE N a0 a=some [aB (zp8 a0 a)]:=by refine⟨0,?_⟩;unfold zKE oN;refine must rfl (br (fun _=>?_) (fun _=>must rfl (br (fun _=>br (fun _=>must rfl ?_) (fun _=>?_)) (fun _=>?_))));all_goals first|rfl|(simp only [*,zp8,zdw,zcV,cT,cF]<;>rfl)|simp_all[Ty.cells,zp8,zdw,zcV]
theorem zOv:vM 223 zEy:=kF2 zfj zB zy zn (zq []) zVF
@[simp] abbrev zz9 (s:Slot)(n:Int):Bool:=true
@[simp] abbrev zt7 (s:Slot)(n:Int):Bool:=zdw s n
def zEg:Run:=rF2 (dT .slot) dI fun b c=>(zz9 b c,[aB (zt7 b c)])
def zKh (N:Nat)(a0:Slot)(a:Int):OA:=
 (oN zfG (cond (cond (ieq a0.Page zgb.Page) (ieq a0.Rights zgb.Rights) false) oT (cond (igt a 0) (oN (zcm a0.Page 0 (wsub .i64 a 1)) (cond (zcH a0.Page 0 (wsub .i64 a 1)) (oN (zcm a0.Rights 1 3) (some [(aB (zcH a0.Rights 1 3))])) oF)) oF)))
theorem zVg (a0:Slot)(a:Int)(b:zz9 a0 a=true):∃N,zKh N a0 a=some [aB (zt7 a0 a)]:=by refine⟨0,?_⟩;unfold zKh oN;refine must rfl (br (fun _=>?_) (fun _=>br (fun _=>must rfl (br (fun _=>must rfl ?_) (fun _=>?_))) (fun _=>?_)));all_goals first|rfl|(simp only [*,zt7,zdw,zcV,cT,cF]<;>rfl)|simp_all[Ty.cells,zt7,zdw,zcV]
theorem zOd:vM 310 zEg:=kF2 zfj zB zy zn (zq []) zVg
@[simp] abbrev zgd (l:List Slot):Bool:=pc (l.length<=2147483648)
@[simp] abbrev zeS (l:List Slot):List Slot:=l
def zv0:Run:=rF1 (dS .slot) fun b=>(zgd b,[aS .slot (zeS b)])
def zA1 (N:Nat)(a0:lS):OA:=
 (oN (few (ln (ap [] a0))) (some [(aS .slot (ap [] a0))]))
theorem zMf (a0:List Slot)(a:zgd a0=true):∃N,zA1 N a0=some [aS .slot (zeS a0)]:=by have b:=zL.1 a;refine⟨0,?_⟩;unfold zA1 oN;refine mu ?_;first|rfl|(simp only [*,zeS,cT,cF]<;>rfl)|simp_all[Ty.cells,zeS]
theorem zFM:vM 200 zv0:=kF1 zfj zB zy zn (zq []) zMf
@[simp] abbrev zt8 (l:List Ins):Bool:=pc (l.length<=2147483648)
@[simp] abbrev zn1 (l:List Ins):List Ins:=l
def zyI:Run:=rF1 (dS .ins) fun b=>(zt8 b,[aS .ins (zn1 b)])
def zCB (N:Nat)(a0:lI):OA:=
 (oN (few (ln (ap [] a0))) (some [(aS .ins (ap [] a0))]))
theorem zOZ (a0:List Ins)(a:zt8 a0=true):∃N,zCB N a0=some [aS .ins (zn1 a0)]:=by have b:=zL.1 a;refine⟨0,?_⟩;unfold zCB oN;refine mu ?_;first|rfl|(simp only [*,zn1,cT,cF]<;>rfl)|simp_all[Ty.cells,zn1]
theorem zIL:vM 268 zyI:=kF1 zfj zB zy zn (zq []) zOZ
def zhE (m:List (List Int))(p c:Int):Bool:=bif hasB p (ln m) then hasB c (ln (ix m p [])) else false
def cellAt (m:List (List Int))(p c:Int):Int:=bif zhE m p c then ix (ix m p []) c 0 else 0
def zbK (m:List (List Int))(p c v:Int):List (List Int):=bif zhE m p c then (cond (win v 0 99) (up m p (up (ix m p []) c v)) m) else m
theorem zAm (m:List (List Int))(p c:Int):(zhE m p c=true)↔hasB p (ln m)=true/\hasB c (ln (ix m p []))=true:=by unfold zhE;cases hasB p (ln m)<;>simp
theorem zbbD {n:Nat}{m:List (List Int)}(h:CVB n (.s (.sl .int) m)):m.length<=n/\∀p:Int,hasB p (ln m)=true->(ix m p []).length<=n :=
 ⟨h.len,fun p a=>(h.inv.2 _ (zbD a []) _ (qF.2 rfl)).len⟩
@[simp] abbrev ztj (m:List (List Int))(p c:Int):Bool:=true
@[simp] abbrev zqb (m:List (List Int))(p c:Int):Bool:=zhE m p c
def zED:Run:=rF3 (dS (.sl .int)) dI dI fun b c d=>(ztj b c d,[aB (zqb b c d)])
def zKJ (N:Nat)(a0:lM)(a b:Int):OA:=
 let c:=(wsub .i64 (ln (ix a0 a [])) 1); (oN (zN a 0 (wsub .i64 (ln a0) 1)) (cond (zT a 0 (wsub .i64 (ln a0) 1)) (oN (inb a (ln a0)) (oN (zN b 0 c) (some [(aB (zT b 0 c))]))) oF))
theorem zVK (a0:List (List Int))(a b:Int)(d:zb6 big [aS (.sl .int) a0,aI a,aI b])(f:ztj a0 a b=true):∃N,zKJ N a0 a b=some [aB (zqb a0 a b)]:=by
 have c:=zbbD ((zdg d).1 _ (qF.2 rfl));have g:=zJ6 c.1;have e:∀p i:Int,hasB p (ln a0)=true->win i 0 (wsub .i64 (ln (ix a0 p [])) 1)=hasB i (ln (ix a0 p [])):=fun p i h=>zJ6 (c.2 p h) i;refine⟨0,?_⟩;unfold zKJ oN;conv=>zeta
 refine must rfl (br (fun _=>mu (must rfl ?_)) (fun _=>?_));all_goals first|rfl|(simp only [*,zqb,zhE,cT,cF]<;>rfl)|simp_all[Ty.cells,zqb,zhE]
theorem zOB:vM 303 zED:=hF3 zfj zB zy zn (zq []) zVK
def z8s:zW:=[(47,zEk),(255,zyO),(256,zyN),(291,zEr),(293,zoh),(318,zpX),(319,zsp),(322,zBJ),(150,zEu),(259,zEe),(43,zHJ),(223,zEy),(310,zEg),(200,zv0),(268,zyI),(303,zED)]++ctrU
theorem zga:zK z8s:=zi zOh (zi zIR (zi zIQ (zi zOo (zi zsL (zi zt1 (zi zvE (zi zLx (zi zOr (zi zOb (zi zR2 (zi zOv (zi zOd (zi zFM (zi zIL (zi zOB zfj)))))))))))))))
@[simp] abbrev zta (m:List (List Int))(p c:Int):Bool:=true
@[simp] abbrev zm1 (m:List (List Int))(p c:Int):Int:=cellAt m p c
def zEl:Run:=rF3 (dS (.sl .int)) dI dI fun b c d=>(zta b c d,[aI (zm1 b c d)])
def zKm (N:Nat)(a0:lM)(a b:Int):OA:=
 (oN (ztj a0 a b) (cond (nB (zqb a0 a b)) (some [(aI 0)]) (oN (inb a (ln a0)) (oN (inb b (ln (ix a0 a []))) (some [(aI (ix (ix a0 a []) b 0))])))))
theorem zVm (a0:List (List Int))(a b:Int)(c:zta a0 a b=true):∃N,zKm N a0 a b=some [aI (zm1 a0 a b)]:=by have d:=(zAm a0 a b).1;refine⟨0,?_⟩;unfold zKm oN nB;refine must rfl (brN (fun _=>?_) (fun _=>mu (mu ?_)));all_goals first|rfl|(simp only [*,zm1,cellAt,cT,cF]<;>rfl)|simp_all[Ty.cells,zm1,cellAt]
theorem zOi:vM 257 zEl:=kF3 zga zB zy zn (zq []) zVm
def zcS (t:List Slot)(n p:Int):Bool:=bif t.all (fun s=>zdw s p) then ieq (ln t) n else false
@[simp] abbrev zmj (t:List Slot)(n p:Int):Bool:=true
@[simp] abbrev zhL (t:List Slot)(n p:Int):Bool:=zcS t n p
def zBV:Run:=rF3 (dS .slot) dI dI fun b c d=>(zmj b c d,[aB (zhL b c d)])
def zG4 (N:Nat)(a0:lS)(d e:Int):OA:=
 (iter (σ:=(Int×(Int×(Int×(lS×Unit))))) N (fun f a=>let b:=a.2.2.2.1;let c:=(ix b a.2.2.1 zQ); (cond (ilt a.2.2.1 (ln b)) (oN (inb a.2.2.1 (ln b)) (oN (ztg c a.2.1) (cond (nB (zp8 c a.2.1)) oF (f (a.1,(a.2.1,((zM .i64 a.2.2.1 1),(b,())))))))) (some [(aB (ieq (ln b) a.1))]))) (d,(e,(0,(a0,())))))
def zTh:FuncId->Nat->Option Tmpl:=zq [(148,0,{n:=25,tm:=[(0,.sl 0 []),(1,ti),(2,ti),(7,ti)],lo:=[],ro:=[(0,.slot,false)]})]
theorem zSL (a0:List Slot)(c a:Int)(h:zb6 big [aS .slot a0,aI c,aI a])(k:zmj a0 c a=true):∃N,zG4 N a0 c a=some [aB (zhL a0 c a)]:=by
 have g:(_:List _).length<=big:=((zdg h).1 _ (qF.2 rfl)).len;refine zcq fun N f=>?_;unfold zG4 oN nB;conv=>zeta
 refine(zbm a0 (fun i (t:Unit)=>(c,a,(i:Int),a0,())) _ (fun _ x (_:Unit) j=>bif (fun s=>zdw s a) x then j () else oF) (fun (t:Unit)=>(some [(.one (.b (ieq (ln a0) c)))])) (fun i d t rec=>?_) (fun t rec=>?_) _ () (f g)).trans ?_;{simp only [zbs d,zbe d,zbj d,zbh d g,cT];exact ziV rfl};{simp only [zbn,cF]};rw[zgG (fun s=>zdw s a)];refine br (fun e=>?_) (fun e=>?_);{first|rfl|(simp only [e,zhL,zcS,cT,cF]<;>rfl)|(simp_all [Ty.cells,zhL,zcS];done)};{first|rfl|(simp only [e,zhL,zcS,cT,cF]<;>rfl)|(simp_all [Ty.cells,zhL,zcS];done)}
theorem zLJ:vM 148 zBV:=hF3 zga zB zy zn zTh zSL
@[simp] abbrev zlX (t:List Slot)(n p:Int):Bool:=true
@[simp] abbrev zhz (t:List Slot)(n p:Int):Bool:=zcS t n p
def zBC:Run:=rF3 (dS .slot) dI dI fun b c d=>(zlX b c d,[aB (zhz b c d)])
def zGE (N:Nat)(a0:lS)(d e:Int):OA:=
 (iter (σ:=(Int×(Int×(Int×(Int×(lS×Unit)))))) N (fun f a=>let b:=a.2.2.2.2.1;let c:=(ix b a.2.2.2.1 zQ); (cond (ilt a.2.2.2.1 a.2.2.1) (oN (inb a.2.2.2.1 (ln b)) (oN (zz9 c a.2.1) (cond (nB (zt7 c a.2.1)) oF (f (a.1,(a.2.1,(a.2.2.1,((zM .i64 a.2.2.2.1 1),(b,()))))))))) (some [(aB (ieq (ln b) a.1))]))) (d,(e,((ln a0),(0,(a0,()))))))
def zTc:FuncId->Nat->Option Tmpl:=zq [(258,0,{n:=24,tm:=[(0,.sl 0 []),(1,ti),(2,ti),(9,.sl 0 []),(10,ti),(11,ti)],lo:=[],ro:=[(0,.slot,false)]})]
theorem zSk (a0:List Slot)(c a:Int)(h:zb6 big [aS .slot a0,aI c,aI a])(k:zlX a0 c a=true):∃N,zGE N a0 c a=some [aB (zhz a0 c a)]:=by
 have g:(_:List _).length<=big:=((zdg h).1 _ (qF.2 rfl)).len;refine zcq fun N f=>?_;unfold zGE oN nB;conv=>zeta
 refine(zbm a0 (fun i (t:Unit)=>(c,a,(ln a0),(i:Int),a0,())) _ (fun _ x (_:Unit) j=>bif (fun s=>zdw s a) x then j () else oF) (fun (t:Unit)=>(some [(.one (.b (ieq (ln a0) c)))])) (fun i d t rec=>?_) (fun t rec=>?_) _ () (f g)).trans ?_;{simp only [zbs d,zbe d,zbj d,zbh d g,cT];exact ziV rfl};{simp only [zbn,cF]};rw[zgG (fun s=>zdw s a)];refine br (fun e=>?_) (fun e=>?_);{first|rfl|(simp only [e,zhz,zcS,cT,cF]<;>rfl)|(simp_all [Ty.cells,zhz,zcS];done)};{first|rfl|(simp only [e,zhz,zcS,cT,cF]<;>rfl)|(simp_all [Ty.cells,zhz,zcS];done)}
theorem zLq:vM 258 zBC:=hF3 zga zB zy zn zTc zSk
def zcl (c:List Int):Bool:=bif c.all (fun x=>win x 0 99) then ieq (ln c) 4 else false
@[simp] abbrev zfJ (c:List Int):Bool:=true
@[simp] abbrev zfc (c:List Int):Bool:=zcl c
def zEt:Run:=rF1 (dS .int) fun b=>(zfJ b,[aB (zfc b)])
def zKz (N:Nat)(a0:List Int):OA:=
 (iter (σ:=(Int×((List Int)×Unit))) N (fun b a=>(cond (ilt a.1 (ln a.2.1)) (oN (inb a.1 (ln a.2.1)) (oN (zN (ix a.2.1 a.1 0) 0 99) (cond (nB (zT (ix a.2.1 a.1 0) 0 99)) oF (b ((zM .i64 a.1 1),(a.2.1,())))))) (some [(aB (ieq (ln a.2.1) 4))]))) (0,(a0,())))
def zXg:FuncId->Nat->Option Tmpl:=zq [(147,0,{n:=19,tm:=[(0,.sl 0 []),(3,ti)],lo:=[],ro:=[(0,.int,false)]})]
theorem zVA (a0:List Int)(f:zb6 big [aS .int a0])(h:zfJ a0=true):∃N,zKz N a0=some [aB (zfc a0)]:=by have e:(_:List _).length<=big:=((zdg f).1 _ (qF.2 rfl)).len;refine zcq fun N d=>?_;unfold zKz oN nB;refine(zbm a0 (fun i (t:Unit)=>((i:Int),a0,())) _ (fun _ x (_:Unit) g=>bif (fun x=>win x 0 99) x then g () else oF) (fun (t:Unit)=>(some [(.one (.b (ieq (ln a0) 4)))])) (fun i a t rec=>?_) (fun t rec=>?_) _ () (d e)).trans ?_;{simp only [zbs a,zbe a,zbj a,zbh a e,cT];exact ziV rfl};{simp only [zbn,cF]};rw[zgG (fun x=>win x 0 99)];refine br (fun c=>?_) (fun c=>?_);{first|rfl|(simp only [c,zfc,zcl,cT,cF]<;>rfl)|(simp_all [Ty.cells,zfc,zcl];done)};{first|rfl|(simp only [c,zfc,zcl,cT,cF]<;>rfl)|(simp_all [Ty.cells,zfc,zcl];done)}
theorem zOq:vM 147 zEt:=hF1 zga zB zy zn zXg zVA
@[simp] abbrev zhy (c:List Int):Bool:=true
@[simp] abbrev zgc (c:List Int):Bool:=zcl c
def zEd:Run:=rF1 (dS .int) fun b=>(zhy b,[aB (zgc b)])
def zKe (N:Nat)(a0:List Int):OA:=
 (iter (σ:=(Int×(Int×((List Int)×Unit)))) N (fun b a=>(cond (ilt a.2.1 a.1) (oN (inb a.2.1 (ln a.2.2.1)) (oN (zcm (ix a.2.2.1 a.2.1 0) 0 99) (cond (nB (zcH (ix a.2.2.1 a.2.1 0) 0 99)) oF (b (a.1,((zM .i64 a.2.1 1),(a.2.2.1,()))))))) (some [(aB (ieq (ln a.2.2.1) 4))]))) ((ln a0),(0,(a0,()))))
def zW8:FuncId->Nat->Option Tmpl:=zq [(203,0,{n:=18,tm:=[(0,.sl 0 []),(5,.sl 0 []),(6,ti),(7,ti)],lo:=[],ro:=[(0,.int,false)]})]
theorem zVd (a0:List Int)(f:zb6 big [aS .int a0])(h:zhy a0=true):∃N,zKe N a0=some [aB (zgc a0)]:=by have e:(_:List _).length<=big:=((zdg f).1 _ (qF.2 rfl)).len;refine zcq fun N d=>?_;unfold zKe oN nB;refine(zbm a0 (fun i (t:Unit)=>((ln a0),(i:Int),a0,())) _ (fun _ x (_:Unit) g=>bif (fun x=>win x 0 99) x then g () else oF) (fun (t:Unit)=>(some [(.one (.b (ieq (ln a0) 4)))])) (fun i a t rec=>?_) (fun t rec=>?_) _ () (d e)).trans ?_;{simp only [zbs a,zbe a,zbj a,zbh a e,cT];exact ziV rfl};{simp only [zbn,cF]};rw[zgG (fun x=>win x 0 99)];refine br (fun c=>?_) (fun c=>?_);{first|rfl|(simp only [c,zgc,zcl,cT,cF]<;>rfl)|(simp_all [Ty.cells,zgc,zcl];done)};{first|rfl|(simp only [c,zgc,zcl,cT,cF]<;>rfl)|(simp_all [Ty.cells,zgc,zcl];done)}
theorem zOa:vM 203 zEd:=hF1 zga zB zy zn zW8 zVd
def zdH (i:Ins):Bool:=bif (ieq i.Op 1||ieq i.Op 2||ieq i.Op 5||ieq i.Op 6) then win i.X 0 99 else (cond (ieq i.Op 3||ieq i.Op 4) (win i.X 0 15) (cond (ieq i.Op 7) (ieq i.X 0) (cond (ieq i.Op 8) (win i.X 0 11) false)))
@[simp] abbrev zEM (i:Ins):Bool:=true
@[simp] abbrev zy9 (i:Ins):Bool:=zdH i
def zHK:Run:=rF1 (dT .ins) fun b=>(zEM b,[aB (zy9 b)])
def zQx (N:Nat)(a0:Ins):OA:=
 let a:=(ieq a0.Op 4);let k:=(zN a0.X 0 99);let j:=(aB (zT a0.X 0 99));let i:=(ieq a0.Op 8);let h:=(ieq a0.Op 7);let g:=(ieq a0.Op 3);let f:=(zN a0.X 0 11);let e:=(zN a0.X 0 15);let d:=(aB (ieq a0.X 0));let c:=(aB (zT a0.X 0 11));let b:=(aB (zT a0.X 0 15)); (cond (ieq a0.Op 1) (cond (ieq a0.Op 1) (oN k (some [j])) (cond g (cond g (oN e (some [b])) (cond h (some [d]) (cond i (oN f (some [c])) oF))) (cond a (oN e (some [b])) (cond h (some [d]) (cond i (oN f (some [c])) oF))))) (cond (ieq a0.Op 2) (cond (ieq a0.Op 2) (oN k (some [j])) (cond g (cond g (oN e (some [b])) (cond h (some [d]) (cond i (oN f (some [c])) oF))) (cond a (oN e (some [b])) (cond h (some [d]) (cond i (oN f (some [c])) oF))))) (cond (ieq a0.Op 5) (cond (ieq a0.Op 5) (oN k (some [j])) (cond g (cond g (oN e (some [b])) (cond h (some [d]) (cond i (oN f (some [c])) oF))) (cond a (oN e (some [b])) (cond h (some [d]) (cond i (oN f (some [c])) oF))))) (cond (ieq a0.Op 6) (oN k (some [j])) (cond g (cond g (oN e (some [b])) (cond h (some [d]) (cond i (oN f (some [c])) oF))) (cond a (oN e (some [b])) (cond h (some [d]) (cond i (oN f (some [c])) oF))))))))
theorem zX9 (a0:Ins)(a:zEM a0=true):∃N,zQx N a0=some [aB (zy9 a0)]:=by
 refine⟨0,?_⟩;unfold zQx oN;conv=>zeta
 refine br (fun _=>br (fun _=>must rfl ?_) (fun _=>br (fun _=>br (fun _=>must rfl ?_) (fun _=>br (fun _=>?_) (fun _=>br (fun _=>must rfl ?_) (fun _=>?_)))) (fun _=>br (fun _=>must rfl ?_) (fun _=>br (fun _=>?_) (fun _=>br (fun _=>must rfl ?_) (fun _=>?_)))))) (fun _=>br (fun _=>br (fun _=>must rfl ?_) (fun _=>br (fun _=>br (fun _=>must rfl ?_) (fun _=>br (fun _=>?_) (fun _=>br (fun _=>must rfl ?_) (fun _=>?_)))) (fun _=>br (fun _=>must rfl ?_) (fun _=>br (fun _=>?_) (fun _=>br (fun _=>must rfl ?_) (fun _=>?_)))))) (fun _=>br (fun _=>br (fun _=>must rfl ?_) (fun _=>br (fun _=>br (fun _=>must rfl ?_) (fun _=>br (fun _=>?_) (fun _=>br (fun _=>must rfl ?_) (fun _=>?_)))) (fun _=>br (fun _=>must rfl ?_) (fun _=>br (fun _=>?_) (fun _=>br (fun _=>must rfl ?_) (fun _=>?_)))))) (fun _=>br (fun _=>must rfl ?_) (fun _=>br (fun _=>br (fun _=>must rfl ?_) (fun _=>br (fun _=>?_) (fun _=>br (fun _=>must rfl ?_) (fun _=>?_)))) (fun _=>br (fun _=>must rfl ?_) (fun _=>br (fun _=>?_) (fun _=>br (fun _=>must rfl ?_) (fun _=>?_))))))));all_goals first|rfl|(simp only [*,zy9,zdH,cT,cF]<;>rfl)|simp_all[Ty.cells,zy9,zdH]
theorem zR3:vM 282 zHK:=kF1 zga zB zy zn (zq []) zX9
@[simp] abbrev zDI (i:Ins):Bool:=true
@[simp] abbrev zyf (i:Ins):Bool:=zdH i
def zHD:Run:=rF1 (dT .ins) fun b=>(zDI b,[aB (zyf b)])
def zQp (N:Nat)(a0:Ins):OA:=
 let a:=(ieq a0.Op 4);let k:=(zcm a0.X 0 99);let j:=(aB (zcH a0.X 0 99));let i:=(ieq a0.Op 8);let h:=(ieq a0.Op 7);let g:=(ieq a0.Op 3);let f:=(zcm a0.X 0 11);let e:=(zcm a0.X 0 15);let d:=(aB (ieq a0.X 0));let c:=(aB (zcH a0.X 0 11));let b:=(aB (zcH a0.X 0 15)); (cond (ieq a0.Op 1) (cond (ieq a0.Op 1) (oN k (some [j])) (cond g (cond g (oN e (some [b])) (cond h (some [d]) (cond i (oN f (some [c])) oF))) (cond a (oN e (some [b])) (cond h (some [d]) (cond i (oN f (some [c])) oF))))) (cond (ieq a0.Op 2) (cond (ieq a0.Op 2) (oN k (some [j])) (cond g (cond g (oN e (some [b])) (cond h (some [d]) (cond i (oN f (some [c])) oF))) (cond a (oN e (some [b])) (cond h (some [d]) (cond i (oN f (some [c])) oF))))) (cond (ieq a0.Op 5) (cond (ieq a0.Op 5) (oN k (some [j])) (cond g (cond g (oN e (some [b])) (cond h (some [d]) (cond i (oN f (some [c])) oF))) (cond a (oN e (some [b])) (cond h (some [d]) (cond i (oN f (some [c])) oF))))) (cond (ieq a0.Op 6) (oN k (some [j])) (cond g (cond g (oN e (some [b])) (cond h (some [d]) (cond i (oN f (some [c])) oF))) (cond a (oN e (some [b])) (cond h (some [d]) (cond i (oN f (some [c])) oF))))))))
theorem zX0 (a0:Ins)(a:zDI a0=true):∃N,zQp N a0=some [aB (zyf a0)]:=by
 refine⟨0,?_⟩;unfold zQp oN;conv=>zeta
 refine br (fun _=>br (fun _=>must rfl ?_) (fun _=>br (fun _=>br (fun _=>must rfl ?_) (fun _=>br (fun _=>?_) (fun _=>br (fun _=>must rfl ?_) (fun _=>?_)))) (fun _=>br (fun _=>must rfl ?_) (fun _=>br (fun _=>?_) (fun _=>br (fun _=>must rfl ?_) (fun _=>?_)))))) (fun _=>br (fun _=>br (fun _=>must rfl ?_) (fun _=>br (fun _=>br (fun _=>must rfl ?_) (fun _=>br (fun _=>?_) (fun _=>br (fun _=>must rfl ?_) (fun _=>?_)))) (fun _=>br (fun _=>must rfl ?_) (fun _=>br (fun _=>?_) (fun _=>br (fun _=>must rfl ?_) (fun _=>?_)))))) (fun _=>br (fun _=>br (fun _=>must rfl ?_) (fun _=>br (fun _=>br (fun _=>must rfl ?_) (fun _=>br (fun _=>?_) (fun _=>br (fun _=>must rfl ?_) (fun _=>?_)))) (fun _=>br (fun _=>must rfl ?_) (fun _=>br (fun _=>?_) (fun _=>br (fun _=>must rfl ?_) (fun _=>?_)))))) (fun _=>br (fun _=>must rfl ?_) (fun _=>br (fun _=>br (fun _=>must rfl ?_) (fun _=>br (fun _=>?_) (fun _=>br (fun _=>must rfl ?_) (fun _=>?_)))) (fun _=>br (fun _=>must rfl ?_) (fun _=>br (fun _=>?_) (fun _=>br (fun _=>must rfl ?_) (fun _=>?_))))))));all_goals first|rfl|(simp only [*,zyf,zdH,cT,cF]<;>rfl)|simp_all[Ty.cells,zyf,zdH]
theorem zRV:vM 325 zHD:=kF1 zga zB zy zn (zq []) zX0
def zgU (e:GExit):Bool:=bif (ieq e.Kind 0||ieq e.Kind 4) then (ieq e.Page 0&&(!e.Write&&ieq e.N 0)) else (cond (ieq e.Kind 1) (win e.Page 0 3&&ieq e.N 0) (cond (ieq e.Kind 2||ieq e.Kind 3) (win e.N 0 99&&(ieq e.Page 0 && !e.Write)) false))
@[simp] theorem zbc1 (x:Bool):zhf x false = !x:=by cases x<;>rfl
attribute [simp] zcI
@[simp] abbrev zAx (e:GExit):Bool:=true
@[simp] abbrev zuE (e:GExit):Bool:=zgU e
def zEn:Run:=rF1 dE fun b=>(zAx b,[aB (zuE b)])
def zKo (N:Nat)(a0:GExit):OA:=
 let e:=(zT a0.N 0 99);let d:=(zN a0.N 0 99);let c:=(ieq a0.Kind 2);let a:=(ieq a0.Page 0);let b:=(aB (nB a0.Write));let f:=(aB (cond (ieq a0.Kind a0.Kind) (cond a (cond (zhf a0.Write false) (ieq a0.N 0) false) false) false)); (cond (ieq a0.Kind 0) (cond (ieq a0.Kind 0) (some [f]) (cond (ieq a0.Kind 1) (oN (zN a0.Page 0 3) (cond (zT a0.Page 0 3) (some [(aB (ieq a0.N 0))]) oF)) (cond c (cond c (oN d (cond e (cond a (some [b]) oF) oF)) oF) (cond (ieq a0.Kind 3) (oN d (cond e (cond a (some [b]) oF) oF)) oF)))) (cond (ieq a0.Kind 4) (some [f]) (cond (ieq a0.Kind 1) (oN (zN a0.Page 0 3) (cond (zT a0.Page 0 3) (some [(aB (ieq a0.N 0))]) oF)) (cond c (cond c (oN d (cond e (cond a (some [b]) oF) oF)) oF) (cond (ieq a0.Kind 3) (oN d (cond e (cond a (some [b]) oF) oF)) oF)))))
theorem zVo (a0:GExit)(a:zAx a0=true):∃N,zKo N a0=some [aB (zuE a0)]:=by
 refine⟨0,?_⟩;unfold zKo oN nB;conv=>zeta
 refine br (fun _=>br (fun _=>?_) (fun _=>br (fun _=>must rfl (br (fun _=>?_) (fun _=>?_))) (fun _=>br (fun _=>br (fun _=>must rfl (br (fun _=>br (fun _=>?_) (fun _=>?_)) (fun _=>?_))) (fun _=>?_)) (fun _=>br (fun _=>must rfl (br (fun _=>br (fun _=>?_) (fun _=>?_)) (fun _=>?_))) (fun _=>?_))))) (fun _=>br (fun _=>?_) (fun _=>br (fun _=>must rfl (br (fun _=>?_) (fun _=>?_))) (fun _=>br (fun _=>br (fun _=>must rfl (br (fun _=>br (fun _=>?_) (fun _=>?_)) (fun _=>?_))) (fun _=>?_)) (fun _=>br (fun _=>must rfl (br (fun _=>br (fun _=>?_) (fun _=>?_)) (fun _=>?_))) (fun _=>?_)))));all_goals first|rfl|(simp only [*,zuE,zgU,cT,cF]<;>rfl)|simp_all[Ty.cells,zuE,zgU]
theorem zOk:vM 226 zEn:=kF1 zga zB zy zn (zq []) zVo
@[simp] abbrev zz4 (e:GExit):Bool:=true
@[simp] abbrev zt5 (e:GExit):Bool:=zgU e
def zD8:Run:=rF1 dE fun b=>(zz4 b,[aB (zt5 b)])
def zJ8 (N:Nat)(a0:GExit):OA:=
 let f:=(zcH a0.N 0 99);let e:=(zcm a0.N 0 99);let d:=(ieq a0.Kind 2);let c:=(aB (ieq a0.N 0));let a:=(ieq a0.Page 0);let b:=(aB (nB a0.Write)); (cond (ieq a0.Kind 0) (cond (ieq a0.Kind 0) (cond a (cond (nB a0.Write) (some [c]) oF) oF) (cond (ieq a0.Kind 1) (oN (zcm a0.Page 0 3) (cond (zcH a0.Page 0 3) (some [c]) oF)) (cond d (cond d (oN e (cond f (cond a (some [b]) oF) oF)) oF) (cond (ieq a0.Kind 3) (oN e (cond f (cond a (some [b]) oF) oF)) oF)))) (cond (ieq a0.Kind 4) (cond a (cond (nB a0.Write) (some [c]) oF) oF) (cond (ieq a0.Kind 1) (oN (zcm a0.Page 0 3) (cond (zcH a0.Page 0 3) (some [c]) oF)) (cond d (cond d (oN e (cond f (cond a (some [b]) oF) oF)) oF) (cond (ieq a0.Kind 3) (oN e (cond f (cond a (some [b]) oF) oF)) oF)))))
theorem zU6 (a0:GExit)(a:zz4 a0=true):∃N,zJ8 N a0=some [aB (zt5 a0)]:=by
 refine⟨0,?_⟩;unfold zJ8 oN nB;conv=>zeta
 refine br (fun _=>br (fun _=>br (fun _=>brN (fun _=>?_) (fun _=>?_)) (fun _=>?_)) (fun _=>br (fun _=>must rfl (br (fun _=>?_) (fun _=>?_))) (fun _=>br (fun _=>br (fun _=>must rfl (br (fun _=>br (fun _=>?_) (fun _=>?_)) (fun _=>?_))) (fun _=>?_)) (fun _=>br (fun _=>must rfl (br (fun _=>br (fun _=>?_) (fun _=>?_)) (fun _=>?_))) (fun _=>?_))))) (fun _=>br (fun _=>br (fun _=>brN (fun _=>?_) (fun _=>?_)) (fun _=>?_)) (fun _=>br (fun _=>must rfl (br (fun _=>?_) (fun _=>?_))) (fun _=>br (fun _=>br (fun _=>must rfl (br (fun _=>br (fun _=>?_) (fun _=>?_)) (fun _=>?_))) (fun _=>?_)) (fun _=>br (fun _=>must rfl (br (fun _=>br (fun _=>?_) (fun _=>?_)) (fun _=>?_))) (fun _=>?_)))));all_goals first|rfl|(simp only [*,zt5,zgU,cT,cF]<;>rfl)|simp_all[Ty.cells,zt5,zgU]
theorem zN5:vM 313 zD8:=kF1 zga zB zy zn (zq []) zU6
def zkm (c:Ctl):List Int:=(cond (win c.Traps 0 3) [] [1])++((cond (win c.Post 0 255) [] [2])++((cond (ine c.Post 0) (cond c.Open [] [3]) [])++(cond (ieq c.Traps 2) (cond (ine c.Post 0) [4] []) [])))
@[simp] theorem zbcY {a:Type}(x:a)(l m:List a):ap (x::l) m=x::ap l m:=rfl
@[simp] abbrev zsy (c:Ctl):Bool:=true
@[simp] abbrev zmb (c:Ctl):List Int:=zkm c
def zv8:Run:=rF1 dC fun b=>(zsy b,[aS .int (zmb b)])
def zA9 (N:Nat)(a0:Ctl):OA:=
 let d:=(aS .int []);let j:=(ap (ap [] [2]) [4]);let i:=(ap (ap [] [1]) [4]);let h:=(aS .int (ap [] [2]));let g:=(aS .int (ap [] [1]));let f:=(ap (ap [] [2]) [3]);let e:=(ap (ap [] [1]) [3]);let b:=(ieq a0.Traps 2);let a:=(ine a0.Post 0);let c:=(ap (ap [] [1]) [2]);let k:=(aS .int c); (oN (zN a0.Traps 0 3) (cond (nB (zT a0.Traps 0 3)) (oN (few (ln (ap [] [1]))) (oN (zN a0.Post 0 255) (cond (nB (zT a0.Post 0 255)) (oN (few (ln c)) (cond a (cond (nB a0.Open) (oN (few (ln (ap c [3]))) (cond b (cond a (oN (few (ln (ap (ap c [3]) [4]))) (some [(aS .int (ap (ap c [3]) [4]))])) (some [(aS .int (ap c [3]))])) (some [(aS .int (ap c [3]))]))) (cond b (cond a (oN (few (ln (ap c [4]))) (some [(aS .int (ap c [4]))])) (some [k])) (some [k]))) (cond b (cond a (oN (few (ln (ap c [4]))) (some [(aS .int (ap c [4]))])) (some [k])) (some [k])))) (cond a (cond (nB a0.Open) (oN (few (ln e)) (cond b (cond a (oN (few (ln (ap e [4]))) (some [(aS .int (ap e [4]))])) (some [(aS .int e)])) (some [(aS .int e)]))) (cond b (cond a (oN (few (ln i)) (some [(aS .int i)])) (some [g])) (some [g]))) (cond b (cond a (oN (few (ln i)) (some [(aS .int i)])) (some [g])) (some [g])))))) (oN (zN a0.Post 0 255) (cond (nB (zT a0.Post 0 255)) (oN (few (ln (ap [] [2]))) (cond a (cond (nB a0.Open) (oN (few (ln f)) (cond b (cond a (oN (few (ln (ap f [4]))) (some [(aS .int (ap f [4]))])) (some [(aS .int f)])) (some [(aS .int f)]))) (cond b (cond a (oN (few (ln j)) (some [(aS .int j)])) (some [h])) (some [h]))) (cond b (cond a (oN (few (ln j)) (some [(aS .int j)])) (some [h])) (some [h])))) (cond a (cond (nB a0.Open) (oN (few (ln (ap [] [3]))) (cond b (cond a (oN (few (ln (ap (ap [] [3]) [4]))) (some [(aS .int (ap (ap [] [3]) [4]))])) (some [(aS .int (ap [] [3]))])) (some [(aS .int (ap [] [3]))]))) (cond b (cond a (oN (few (ln (ap [] [4]))) (some [(aS .int (ap [] [4]))])) (some [d])) (some [d]))) (cond b (cond a (oN (few (ln (ap [] [4]))) (some [(aS .int (ap [] [4]))])) (some [d])) (some [d])))))))
theorem zMo (a0:Ctl)(a:zsy a0=true):∃N,zA9 N a0=some [aS .int (zmb a0)]:=by
 refine⟨0,?_⟩;unfold zA9 oN nB;conv=>zeta
 refine must rfl (brN (fun _=>mu (must rfl (brN (fun _=>mu (br (fun _=>brN (fun _=>mu (br (fun _=>br (fun _=>mu ?_) (fun _=>?_)) (fun _=>?_))) (fun _=>br (fun _=>br (fun _=>mu ?_) (fun _=>?_)) (fun _=>?_))) (fun _=>br (fun _=>br (fun _=>mu ?_) (fun _=>?_)) (fun _=>?_)))) (fun _=>br (fun _=>brN (fun _=>mu (br (fun _=>br (fun _=>mu ?_) (fun _=>?_)) (fun _=>?_))) (fun _=>br (fun _=>br (fun _=>mu ?_) (fun _=>?_)) (fun _=>?_))) (fun _=>br (fun _=>br (fun _=>mu ?_) (fun _=>?_)) (fun _=>?_)))))) (fun _=>must rfl (brN (fun _=>mu (br (fun _=>brN (fun _=>mu (br (fun _=>br (fun _=>mu ?_) (fun _=>?_)) (fun _=>?_))) (fun _=>br (fun _=>br (fun _=>mu ?_) (fun _=>?_)) (fun _=>?_))) (fun _=>br (fun _=>br (fun _=>mu ?_) (fun _=>?_)) (fun _=>?_)))) (fun _=>br (fun _=>brN (fun _=>mu (br (fun _=>br (fun _=>mu ?_) (fun _=>?_)) (fun _=>?_))) (fun _=>br (fun _=>br (fun _=>mu ?_) (fun _=>?_)) (fun _=>?_))) (fun _=>br (fun _=>br (fun _=>mu ?_) (fun _=>?_)) (fun _=>?_))))));all_goals first|rfl|(simp only [*,zmb,zkm,cT,cF]<;>rfl)|simp_all[Ty.cells,zmb,zkm]
theorem zFU:vM 283 zv8:=kF1 zga zB zy zn (zq []) zMo
@[simp] abbrev zsc (c:Ctl):Bool:=true
@[simp] abbrev zlW (c:Ctl):List Int:=zkm c
def zvX:Run:=rF1 dC fun b=>(zsc b,[aS .int (zlW b)])
def zAY (N:Nat)(a0:Ctl):OA:=
 let d:=(aS .int []);let j:=(ap (ap [] [2]) [4]);let i:=(ap (ap [] [1]) [4]);let h:=(aS .int (ap [] [2]));let g:=(aS .int (ap [] [1]));let f:=(ap (ap [] [2]) [3]);let e:=(ap (ap [] [1]) [3]);let b:=(ieq a0.Traps 2);let a:=(ine a0.Post 0);let c:=(ap (ap [] [1]) [2]);let k:=(aS .int c); (oN (zcm a0.Traps 0 3) (cond (nB (zcH a0.Traps 0 3)) (oN (few (ln (ap [] [1]))) (oN (zcm a0.Post 0 255) (cond (nB (zcH a0.Post 0 255)) (oN (few (ln c)) (cond a (cond (nB a0.Open) (oN (few (ln (ap c [3]))) (cond b (cond a (oN (few (ln (ap (ap c [3]) [4]))) (some [(aS .int (ap (ap c [3]) [4]))])) (some [(aS .int (ap c [3]))])) (some [(aS .int (ap c [3]))]))) (cond b (cond a (oN (few (ln (ap c [4]))) (some [(aS .int (ap c [4]))])) (some [k])) (some [k]))) (cond b (cond a (oN (few (ln (ap c [4]))) (some [(aS .int (ap c [4]))])) (some [k])) (some [k])))) (cond a (cond (nB a0.Open) (oN (few (ln e)) (cond b (cond a (oN (few (ln (ap e [4]))) (some [(aS .int (ap e [4]))])) (some [(aS .int e)])) (some [(aS .int e)]))) (cond b (cond a (oN (few (ln i)) (some [(aS .int i)])) (some [g])) (some [g]))) (cond b (cond a (oN (few (ln i)) (some [(aS .int i)])) (some [g])) (some [g])))))) (oN (zcm a0.Post 0 255) (cond (nB (zcH a0.Post 0 255)) (oN (few (ln (ap [] [2]))) (cond a (cond (nB a0.Open) (oN (few (ln f)) (cond b (cond a (oN (few (ln (ap f [4]))) (some [(aS .int (ap f [4]))])) (some [(aS .int f)])) (some [(aS .int f)]))) (cond b (cond a (oN (few (ln j)) (some [(aS .int j)])) (some [h])) (some [h]))) (cond b (cond a (oN (few (ln j)) (some [(aS .int j)])) (some [h])) (some [h])))) (cond a (cond (nB a0.Open) (oN (few (ln (ap [] [3]))) (cond b (cond a (oN (few (ln (ap (ap [] [3]) [4]))) (some [(aS .int (ap (ap [] [3]) [4]))])) (some [(aS .int (ap [] [3]))])) (some [(aS .int (ap [] [3]))]))) (cond b (cond a (oN (few (ln (ap [] [4]))) (some [(aS .int (ap [] [4]))])) (some [d])) (some [d]))) (cond b (cond a (oN (few (ln (ap [] [4]))) (some [(aS .int (ap [] [4]))])) (some [d])) (some [d])))))))
theorem zMc (a0:Ctl)(a:zsc a0=true):∃N,zAY N a0=some [aS .int (zlW a0)]:=by
 refine⟨0,?_⟩;unfold zAY oN nB;conv=>zeta
 refine must rfl (brN (fun _=>mu (must rfl (brN (fun _=>mu (br (fun _=>brN (fun _=>mu (br (fun _=>br (fun _=>mu ?_) (fun _=>?_)) (fun _=>?_))) (fun _=>br (fun _=>br (fun _=>mu ?_) (fun _=>?_)) (fun _=>?_))) (fun _=>br (fun _=>br (fun _=>mu ?_) (fun _=>?_)) (fun _=>?_)))) (fun _=>br (fun _=>brN (fun _=>mu (br (fun _=>br (fun _=>mu ?_) (fun _=>?_)) (fun _=>?_))) (fun _=>br (fun _=>br (fun _=>mu ?_) (fun _=>?_)) (fun _=>?_))) (fun _=>br (fun _=>br (fun _=>mu ?_) (fun _=>?_)) (fun _=>?_)))))) (fun _=>must rfl (brN (fun _=>mu (br (fun _=>brN (fun _=>mu (br (fun _=>br (fun _=>mu ?_) (fun _=>?_)) (fun _=>?_))) (fun _=>br (fun _=>br (fun _=>mu ?_) (fun _=>?_)) (fun _=>?_))) (fun _=>br (fun _=>br (fun _=>mu ?_) (fun _=>?_)) (fun _=>?_)))) (fun _=>br (fun _=>brN (fun _=>mu (br (fun _=>br (fun _=>mu ?_) (fun _=>?_)) (fun _=>?_))) (fun _=>br (fun _=>br (fun _=>mu ?_) (fun _=>?_)) (fun _=>?_))) (fun _=>br (fun _=>br (fun _=>mu ?_) (fun _=>?_)) (fun _=>?_))))));all_goals first|rfl|(simp only [*,zlW,zkm,cT,cF]<;>rfl)|simp_all[Ty.cells,zlW,zkm]
theorem zFJ:vM 326 zvX:=kF1 zga zB zy zn (zq []) zMc
def zgl (p n:Int):Bool:=ieq (wand .i64 (zE5 .i64 p n) 1) 1
def scan (p:Int):Int:=bif zgl p 7 then 7 else (cond (zgl p 6) 6 (cond (zgl p 5) 5 (cond (zgl p 4) 4 (cond (zgl p 3) 3 (cond (zgl p 2) 2 (cond (zgl p 1) 1 (cond (zgl p 0) 0 (-1))))))))
theorem z6Z:∀n:Fin 256,-1<=scan (n.val:Int)/\scan (n.val:Int)<=7/\(0<=scan (n.val:Int)->wsub .i64 (n.val:Int) (zpj .i64 1 (scan (n.val:Int)))=zNK .i64 (n.val:Int) (zpj .i64 1 (scan (n.val:Int)))):=by decide +kernel
theorem z4c {P:Int->Prop}(h:∀n:Fin 256,P (n.val:Int)){x:Int}(a:0<=x)(b:x<=255):P x:=by have:=h ⟨x.toNat,by omega⟩;have e:((x.toNat:Nat):Int)=x:=(by omega);simpa [e] using this
def z8t:zW:=[(257,zEl),(148,zBV),(258,zBC),(147,zEt),(203,zEd),(282,zHK),(325,zHD),(226,zEn),(313,zD8),(283,zv8),(326,zvX)]++z8s
theorem zgS:zK z8t:=zi zOi (zi zLJ (zi zLq (zi zOq (zi zOa (zi zR3 (zi zRV (zi zOk (zi zN5 (zi zFU (zi zFJ zga))))))))))
def zha (m:List (List Int))(n:Int):Bool:=bif m.all zcl then ieq (ln m) n else false
@[simp] abbrev zrS (m:List (List Int))(n:Int):Bool:=true
@[simp] abbrev zlx (m:List (List Int))(n:Int):Bool:=zha m n
def zHL:Run:=rF2 (dS (.sl .int)) dI fun b c=>(zrS b c,[aB (zlx b c)])
def zQy (N:Nat)(a0:lM)(c:Int):OA:=
 (iter (σ:=(Int×(Int×(lM×Unit)))) N (fun d a=>let b:=a.2.2.1; (cond (ilt a.2.1 (ln b)) (oN (inb a.2.1 (ln b)) (oN (zfJ (ix b a.2.1 [])) (cond (nB (zfc (ix b a.2.1 []))) oF (d (a.1,((zM .i64 a.2.1 1),(b,()))))))) (some [(aB (ieq (ln b) a.1))]))) (c,(0,(a0,()))))
def zY2:FuncId->Nat->Option Tmpl:=zq [(86,0,{n:=22,tm:=[(0,.sl 0 []),(1,ti),(5,ti)],lo:=[],ro:=[(0,(.sl .int),false)]})]
theorem zYa (a0:List (List Int))(a:Int)(g:zb6 big [aS (.sl .int) a0,aI a])(j:zrS a0 a=true):∃N,zQy N a0 a=some [aB (zlx a0 a)]:=by
 have f:(_:List _).length<=big:=((zdg g).1 _ (qF.2 rfl)).len;refine zcq fun N e=>?_;unfold zQy oN nB;conv=>zeta
 refine(zbm a0 (fun i (t:Unit)=>(a,(i:Int),a0,())) _ (fun _ x (_:Unit) h=>bif (zcl) x then h () else oF) (fun (t:Unit)=>(some [(.one (.b (ieq (ln a0) a)))])) (fun i c t rec=>?_) (fun t rec=>?_) _ () (e f)).trans ?_;{simp only [zbs c,zbe c,zbj c,zbh c f,cT];exact ziV rfl};{simp only [zbn,cF]};rw[zgG (zcl)];refine br (fun d=>?_) (fun d=>?_);{first|rfl|(simp only [d,zlx,zha,cT,cF]<;>rfl)|(simp_all [Ty.cells,zlx,zha];done)};{first|rfl|(simp only [d,zlx,zha,cT,cF]<;>rfl)|(simp_all [Ty.cells,zlx,zha];done)}
theorem zR4:vM 86 zHL:=hF2 zgS zB zy zn zY2 zYa
@[simp] abbrev zDJ (m:List (List Int))(n:Int):Bool:=true
@[simp] abbrev zpI (m:List (List Int))(n:Int):Bool:=zha m n
def zHE:Run:=rF2 (dS (.sl .int)) dI fun b c=>(zDJ b c,[aB (zpI b c)])
def zQq (N:Nat)(a0:lM)(c:Int):OA:=
 (iter (σ:=(Int×(Int×(Int×(lM×Unit))))) N (fun d a=>let b:=a.2.2.2.1; (cond (ilt a.2.2.1 a.2.1) (oN (inb a.2.2.1 (ln b)) (oN (zhy (ix b a.2.2.1 [])) (cond (nB (zgc (ix b a.2.2.1 []))) oF (d (a.1,(a.2.1,((zM .i64 a.2.2.1 1),(b,())))))))) (some [(aB (ieq (ln b) a.1))]))) (c,((ln a0),(0,(a0,())))))
def zY0:FuncId->Nat->Option Tmpl:=zq [(170,0,{n:=21,tm:=[(0,.sl 0 []),(1,ti),(7,.sl 0 []),(8,ti),(9,ti)],lo:=[],ro:=[(0,(.sl .int),false)]})]
theorem zX1 (a0:List (List Int))(a:Int)(g:zb6 big [aS (.sl .int) a0,aI a])(j:zDJ a0 a=true):∃N,zQq N a0 a=some [aB (zpI a0 a)]:=by
 have f:(_:List _).length<=big:=((zdg g).1 _ (qF.2 rfl)).len;refine zcq fun N e=>?_;unfold zQq oN nB;conv=>zeta
 refine(zbm a0 (fun i (t:Unit)=>(a,(ln a0),(i:Int),a0,())) _ (fun _ x (_:Unit) h=>bif (zcl) x then h () else oF) (fun (t:Unit)=>(some [(.one (.b (ieq (ln a0) a)))])) (fun i c t rec=>?_) (fun t rec=>?_) _ () (e f)).trans ?_;{simp only [zbs c,zbe c,zbj c,zbh c f,cT];exact ziV rfl};{simp only [zbn,cF]};rw[zgG (zcl)];refine br (fun d=>?_) (fun d=>?_);{first|rfl|(simp only [d,zpI,zha,cT,cF]<;>rfl)|(simp_all [Ty.cells,zpI,zha];done)};{first|rfl|(simp only [d,zpI,zha,cT,cF]<;>rfl)|(simp_all [Ty.cells,zpI,zha];done)}
theorem zRW:vM 170 zHE:=hF2 zgS zB zy zn zY0 zX1
def zc4 (p:List Ins):Bool:=bif p.all zdH then win (ln p) 1 12 else false
@[simp] abbrev zAC (p:List Ins):Bool:=true
@[simp] abbrev zm5 (p:List Ins):Bool:=zc4 p
def zEv:Run:=rF1 (dS .ins) fun b=>(zAC b,[aB (zm5 b)])
def zKB (N:Nat)(a0:lI):OA:=
 (iter (σ:=(Int×(lI×Unit))) N (fun c a=>let b:=(ix a.2.1 a.1 zpk); (cond (ilt a.1 (ln a.2.1)) (oN (inb a.1 (ln a.2.1)) (oN (zEM b) (cond (nB (zy9 b)) oF (c ((zM .i64 a.1 1),(a.2.1,())))))) (oN (zN (ln a.2.1) 1 12) (some [(aB (zT (ln a.2.1) 1 12))])))) (0,(a0,())))
def zXh:FuncId->Nat->Option Tmpl:=zq [(224,0,{n:=19,tm:=[(0,.sl 0 []),(3,ti)],lo:=[],ro:=[(0,.ins,false)]})]
theorem zVC (a0:List Ins)(f:zb6 big [aS .ins a0])(h:zAC a0=true):∃N,zKB N a0=some [aB (zm5 a0)]:=by
 have e:(_:List _).length<=big:=((zdg f).1 _ (qF.2 rfl)).len;refine zcq fun N d=>?_;unfold zKB oN nB;conv=>zeta
 refine(zbm a0 (fun i (t:Unit)=>((i:Int),a0,())) _ (fun _ x (_:Unit) g=>bif (zdH) x then g () else oF) (fun (t:Unit)=>(cond (zN (ln a0) 1 12) (some [(.one (.b (zT (ln a0) 1 12)))]) none)) (fun i a t rec=>?_) (fun t rec=>?_) _ () (d e)).trans ?_;{simp only [zbs a,zbe a,zbj a,zbh a e,cT];exact ziV rfl};{simp only [zbn,cF]};rw[zgG (zdH)];refine br (fun c=>?_) (fun c=>?_);{refine must rfl ?_;first|rfl|(simp only [c,zm5,zc4,cT,cF]<;>rfl)|(simp_all [Ty.cells,zm5,zc4];done)};{first|rfl|(simp only [c,zm5,zc4,cT,cF]<;>rfl)|(simp_all [Ty.cells,zm5,zc4];done)}
theorem zOs:vM 224 zEv:=hF1 zgS zB zy zn zXh zVC
@[simp] abbrev zz8 (p:List Ins):Bool:=true
@[simp] abbrev zmU (p:List Ins):Bool:=zc4 p
def zEf:Run:=rF1 (dS .ins) fun b=>(zz8 b,[aB (zmU b)])
def zKg (N:Nat)(a0:lI):OA:=
 (iter (σ:=(Int×(Int×(lI×Unit)))) N (fun c a=>let b:=(ix a.2.2.1 a.2.1 zpk); (cond (ilt a.2.1 a.1) (oN (inb a.2.1 (ln a.2.2.1)) (oN (zDI b) (cond (nB (zyf b)) oF (c (a.1,((zM .i64 a.2.1 1),(a.2.2.1,()))))))) (oN (zcm (ln a.2.2.1) 1 12) (some [(aB (zcH (ln a.2.2.1) 1 12))])))) ((ln a0),(0,(a0,()))))
def zW9:FuncId->Nat->Option Tmpl:=zq [(311,0,{n:=18,tm:=[(0,.sl 0 []),(5,.sl 0 []),(6,ti),(7,ti)],lo:=[],ro:=[(0,.ins,false)]})]
theorem zVf (a0:List Ins)(f:zb6 big [aS .ins a0])(h:zz8 a0=true):∃N,zKg N a0=some [aB (zmU a0)]:=by
 have e:(_:List _).length<=big:=((zdg f).1 _ (qF.2 rfl)).len;refine zcq fun N d=>?_;unfold zKg oN nB;conv=>zeta
 refine(zbm a0 (fun i (t:Unit)=>((ln a0),(i:Int),a0,())) _ (fun _ x (_:Unit) g=>bif (zdH) x then g () else oF) (fun (t:Unit)=>(cond (zcm (ln a0) 1 12) (some [(.one (.b (zcH (ln a0) 1 12)))]) none)) (fun i a t rec=>?_) (fun t rec=>?_) _ () (d e)).trans ?_;{simp only [zbs a,zbe a,zbj a,zbh a e,cT];exact ziV rfl};{simp only [zbn,cF]};rw[zgG (zdH)];refine br (fun c=>?_) (fun c=>?_);{refine must rfl ?_;first|rfl|(simp only [c,zmU,zc4,cT,cF]<;>rfl)|(simp_all [Ty.cells,zmU,zc4];done)};{first|rfl|(simp only [c,zmU,zc4,cT,cF]<;>rfl)|(simp_all [Ty.cells,zmU,zc4];done)}
theorem zOc:vM 311 zEf:=hF1 zgS zB zy zn zW9 zVf
def zg7 (c:Ctl):Bool:=ieq (ln (zkm c)) 0
@[simp] abbrev zrP (c:Ctl):Bool:=true
@[simp] abbrev zp4 (c:Ctl):Bool:=zg7 c
def zHI:Run:=rF1 dC fun b=>(zrP b,[aB (zp4 b)])
def zQu (N:Nat)(a0:Ctl):OA:=
 (oN (zsy a0) (some [(aB (ieq (ln (zmb a0)) 0))]))
theorem zX6 (a0:Ctl)(a:zrP a0=true):∃N,zQu N a0=some [aB (zp4 a0)]:=by refine⟨0,?_⟩;unfold zQu oN;refine must rfl ?_;first|rfl|(simp only [*,zp4,zg7,cT,cF]<;>rfl)|simp_all[Ty.cells,zp4,zg7]
theorem zR1:vM 225 zHI:=kF1 zgS zB zy zn (zq []) zX6
@[simp] abbrev zDG (c:Ctl):Bool:=true
@[simp] abbrev zye (c:Ctl):Bool:=zg7 c
def zHC:Run:=rF1 dC fun b=>(zDG b,[aB (zye b)])
def zQn (N:Nat)(a0:Ctl):OA:=
 (oN (zsc a0) (some [(aB (ieq (ln (zlW a0)) 0))]))
theorem zXY (a0:Ctl)(a:zDG a0=true):∃N,zQn N a0=some [aB (zye a0)]:=by refine⟨0,?_⟩;unfold zQn oN;refine must rfl ?_;first|rfl|(simp only [*,zye,zg7,cT,cF]<;>rfl)|simp_all[Ty.cells,zye,zg7]
theorem zRU:vM 312 zHC:=kF1 zgS zB zy zn (zq []) zXY
def zdK (p:Int):Int:=bif zc3 p then scan p else -1
theorem zZ8 {x:Int}(a:0<=x)(b:x<=255):wcv .u64 x=x:=z4c (P:=fun x=>wcv .u64 x=x) (by decide +kernel) a b
@[simp] abbrev zth (p:Int):Bool:=true
@[simp] abbrev zm7 (p:Int):Int:=zdK p
def zEA:Run:=rF1 dI fun b=>(zth b,[aI (zm7 b)])
def zKG (N:Nat)(a0:Int):OA:=
 (iter (σ:=(Int×(Int×Unit))) N (fun b a=>(cond (ige a.2.1 0) (oN (zfe a.1) (cond (zfd a.1) (oN (ile 0 (wcv .u64 a.2.1)) (cond (ieq (wand .i64 (zE5 .i64 a.1 (wcv .u64 a.2.1)) 1) 1) (some [(aI a.2.1)]) (b (a.1,((wsub .i64 a.2.1 1),()))))) (some [(aI (-1))]))) (some [(aI (-1))]))) (a0,(7,())))
def zXj:FuncId->Nat->Option Tmpl:=zq [(114,0,{n:=19,tm:=[(0,ti),(3,ti)],lo:=[],ro:=[]})]
theorem zVH (a0:Int)(B:zth a0=true):∃N,zKG N a0=some [aI (zm7 a0)]:=by refine⟨10,?_⟩;unfold zKG oN;cases h:zc3 a0;{rw [zdo];refine must rfl ?_;refine must rfl ?_;refine zdh h ?_;simp[zdK,h]};{have b:zfd a0=true:=h;rw[zdo];refine must rfl (must rfl (must b (must rfl (br (fun q=>?_) (fun q=>?_)))));{have z:zgl a0 7=true:=q;simp[zdK,h,scan,z]};have a:zgl a0 7=false:=q;show iter 9 _ (a0,6,())=_;rw[zdo];refine must rfl (must rfl (must b (must rfl (br (fun p=>?_) (fun p=>?_)))));{have y:zgl a0 6=true:=p;simp[zdK,h,scan,y,a]};have c:zgl a0 6=false:=p;show iter 8 _ (a0,5,())=_;rw[zdo];refine must rfl (must rfl (must b (must rfl (br (fun n=>?_) (fun n=>?_)))));{have x:zgl a0 5=true:=n;simp[zdK,h,scan,x,a,c]};have d:zgl a0 5=false:=n;show iter 7 _ (a0,4,())=_;rw[zdo];refine must rfl (must rfl (must b (must rfl (br (fun m=>?_) (fun m=>?_)))));{have w:zgl a0 4=true:=m;simp[zdK,h,scan,w,a,c,d]};have e:zgl a0 4=false:=m;show iter 6 _ (a0,3,())=_;rw[zdo];refine must rfl (must rfl (must b (must rfl (br (fun l=>?_) (fun l=>?_)))));{have v:zgl a0 3=true:=l;simp[zdK,h,scan,v,a,c,d,e]};have f:zgl a0 3=false:=l;show iter 5 _ (a0,2,())=_;rw[zdo];refine must rfl (must rfl (must b (must rfl (br (fun k=>?_) (fun k=>?_)))));{have u:zgl a0 2=true:=k;simp[zdK,h,scan,u,a,c,d,e,f]};have g:zgl a0 2=false:=k;show iter 4 _ (a0,1,())=_;rw[zdo];refine must rfl (must rfl (must b (must rfl (br (fun j=>?_) (fun j=>?_)))));{have t:zgl a0 1=true:=j;simp[zdK,h,scan,t,a,c,d,e,f,g]};have r:zgl a0 1=false:=j;show iter 3 _ (a0,0,())=_;rw[zdo];refine must rfl (must rfl (must b (must rfl (br (fun i=>?_) (fun i=>?_)))));{have s:zgl a0 0=true:=i;simp[zdK,h,scan,s,a,c,d,e,f,g,r]};have A:zgl a0 0=false:=i;show iter 2 _ (a0,-1,())=_;rw[zdo];refine zdh rfl ?_;simp[zdK,h,scan,a,c,d,e,f,g,r,A]}
theorem zOx:vM 114 zEA:=kF1 zgS zB zy zn zXj zVH
theorem zbJ {c:Cur}{i k:Int}(h:zbd c)(a:0<=i):zbd ⟨c.b,i,k⟩:=⟨a,h.2⟩
theorem zZH {c:Cur}(h:zbd c){l:List Int}(a:l≠[]):zbk c l∈l:=(zzb (zeb h a)).2.2 (kR.2 a)
theorem zfu {c:Cur}(h:zbd c){n:Int}(a:0<n):0<=zk c n/\zk c n<n:=(zg1 (zby h n)).2.2 a
theorem zL8 {o x:Int}(h:(o=1\/o=2\/o=5\/o=6)/\0<=x/\x<=99\/(o=3\/o=4)/\0<=x/\x<=15\/o=8/\0<=x/\x<=11):zdH ⟨o,x⟩=true:=by have w:∀{a b:Int},a<=x->x<=b->win x a b=true:=fun c d=>(by simp only[win,ige,ile,qD,q0];exact⟨c,d⟩);rcases h with⟨h|h|h|h,c,d⟩|⟨h|h,c,d⟩|⟨h,c,d⟩<;>subst h<;>exact w c d
def zzq (N:Nat)(c:Cur)  : OA :=
 let d:=(zbk c [1,2,3,3,3,4,4,4,5,6,8]);let a:=({ (zba c [1,2,3,3,3,4,4,4,5,6,8]) with b:=c.b}:Cur); (share (oN (zx a 16) (some [(.agg [(.s .u8 c.b),(.i .i64 (zf a 16).i),(.i .i64 (zf a 16).h)]),(.agg [(.i .i64 d),(.i .i64 (zk a 16))])])) (fun f=>(share (cond (ieq d 8) (oN (zx a 4) (some [(.agg [(.s .u8 c.b),(.i .i64 (zf a 4).i),(.i .i64 (zf a 4).h)]),(.agg [(.i .i64 d),(.i .i64 (zk a 4))])])) (oN (zx a 100) (some [(.agg [(.s .u8 c.b),(.i .i64 (zf a 100).i),(.i .i64 (zf a 100).h)]),(.agg [(.i .i64 d),(.i .i64 (zk a 100))])]))) (fun e=>(oN (zbp c [1,2,3,3,3,4,4,4,5,6,8]) (cond (ieq d 3) (cond (ieq d 3) f e) (cond (ieq d 4) f e)))))))
def zra (c:Cur)(s:Cur)(a:Ins):Prop:=(∃N,zzq N c=some (AV.agg (zbS s)::[aT .ins a]))/\(s.b=c.b/\0<=s.i)/\(zdH a=true)
def zjk (c:Cur)  : Bool:=wC (zra c)
def zfN (c:Cur)  : Cur:=wS (zra c)
def zfA (c:Cur)  : Ins:=wV (zra c)
theorem zM5 {c:Cur}(h:zjk c=true):zra c (zfN c) (zfA c):=wG h
theorem zAH (c:Cur)  : 0<=(zfN c).i:=wP fun h=>h.2.1.2
theorem z1D (c:Cur)(h:∃N,Ends (wE (fun a=>aT .ins a) c.b fun a=>zdH a=true) (zzq N c)):zjk c=true:=wI (fun _ _ h=>h) h
def zBt:zdy:=rP0 fun c=>(zjk c,zfN c,[aT .ins (zfA c)])
theorem zOD:zbN Tryz.prog 281 [false,true,true] zBt:=hP0 zdC zU zWa zn (zq []) (fun _ h=>(zM5 h).1)
theorem zTw {c:Cur}(h:zbd c):zjk c=true:=by
 refine z1D c ⟨0,?_⟩;have p:([1,2,3,3,3,4,4,4,5,6,8]:List Int)≠[]:=(by simp);have q:=zZH h p;have f:zbd {zba c [1,2,3,3,3,4,4,4,5,6,8] with b:=c.b}:=zbJ h (zbT _ _);have t:=zfu f (n:=16) (by omega);have w:=zfu f (n:=4) (by omega);have m:=zfu f (n:=100) (by omega);unfold zzq oN;conv=>zeta
 generalize zbk c [1,2,3,3,3,4,4,4,5,6,8]=o at q;simp only[qG,qO,or_false]at q;have j:∀{n:Int},ieq o n=false->o≠n:=fun h e=>(by subst e;simp[ieq]at h);have k:∀{n:Int},ieq o n=true->o=n:=fun h=>by simpa [ieq] using h
 have L:∀(n:Int),0<n->(zdH ⟨o,zk {zba c [1,2,3,3,3,4,4,4,5,6,8] with b:=c.b} n⟩=true)->Ends (fun a=>∃s r,a=(AV.agg (zbS s)::[aT .ins r])/\(s.b=c.b/\0<=s.i)/\zdH r=true)
  (cond (zx {zba c [1,2,3,3,3,4,4,4,5,6,8] with b:=c.b} n) (some (AV.agg [.s .u8 c.b,.i .i64 (zf {zba c [1,2,3,3,3,4,4,4,5,6,8] with b:=c.b} n).i,.i .i64 (zf {zba c [1,2,3,3,3,4,4,4,5,6,8] with b:=c.b} n).h]::[.agg [.i .i64 o,.i .i64 (zk {zba c [1,2,3,3,3,4,4,4,5,6,8] with b:=c.b} n)]])) none):=
  fun n x u=>zu (zby f n) (zbH (aT .ins) (v:=⟨o,zk _ n⟩) (zD _ _) u)
 refine zu (zeb h p) (zbB (fun g=>zbB (fun _=>L 16 (by omega) (zL8 ?_)) (fun d=>absurd (k g) (j d))) (fun g=>zbB (fun d=>L 16 (by omega) (zL8 ?_)) (fun d=>zbB (fun l=>L 4 (by omega) (zL8 ?_)) (fun l=>L 100 (by omega) (zL8 ?_)))));{have:=k g;omega};{have:=k d;omega};{have:=k l;omega};{have:=j g;have:=j d;have:=j l;omega}
def z81:zcU:=[(281,([false,true,true],zBt))]++z8Z
theorem zWb:zb2 z81:=zcu zWa (by
 intro x a;simp only[qG,qO,or_false]at a;rcases a with rfl
 .exact zOD)
theorem zgR {x y:Int}(a:0<=x)(b:x<=1000000)(c:0<=y)(d:y<=1000000):zM .i64 x y=x+y:=ztB (by omega) (by omega)
theorem zkp {a:Type}{l:List a}(h:ln l<=1000000):few (ln l)=true:=qJ ⟨by unfold ln;omega,by omega⟩
theorem zg9 {a:Type}(l:List a)(x:a):ln (ap l [x])=ln l+1:=by simp[ln,ap]
def zwY (N:Nat)(c:Cur)  : OA :=
 (iter (σ:=(Int×(Int×(Int×(lI×((List Int)×Unit)))))) N (fun j d=>let e:=d.2.2.2.1;let f:=d.2.2.2.2.1;let g:=(⟨f,d.2.1,d.2.2.1⟩:Cur);let a:=({ (zf g 7) with b:=f}:Cur); (oN (zx g 7) (cond (ilt d.1 (zM .i64 2 (zk g 7))) (oN (zjk a) (oN (few (ln (ap e [(zfA a)]))) (j ((zM .i64 d.1 1),((zfN a).i,((zfN a).h,((ap e [(zfA a)]),(f,())))))))) (oN (zcT a 3) (cond (zc1 a 3) (oN (few (ln (ap e [(⟨7,0⟩:Ins)]))) (some [(.agg [(.s .u8 f),(.i .i64 (zO a 3).i),(.i .i64 (zO a 3).h)]),(aS .ins (ap e [(⟨7,0⟩:Ins)]))])) (oN (few (ln (ap e [(⟨8,0⟩:Ins)]))) (some [(.agg [(.s .u8 f),(.i .i64 (zO a 3).i),(.i .i64 (zO a 3).h)]),(aS .ins (ap e [(⟨8,0⟩:Ins)]))]))))))) (0,(c.i,(c.h,([],(c.b,()))))))
def zTl:FuncId->Nat->Option Tmpl:=zq [(273,0,{n:=29,tm:=[(0,.lp 0 0),(3,.sl 0 []),(4,ti)],lo:=[(0,[.sl 1 [],ti,ti])],ro:=[(0,.ins,true),(1,.u8,false)]})]
def zo0 (c:Cur)(s:Cur)(a:List Ins):Prop:=(∃N,zwY N c=some (AV.agg (zbS s)::[aS .ins a]))/\(s.b=c.b/\0<=s.i)/\(zc4 a=true)
def zgz (c:Cur)  : Bool:=wC (zo0 c)
def zY (c:Cur)  : Cur:=wS (zo0 c)
def zbY (c:Cur)  : List Ins:=wV (zo0 c)
theorem zrb {c:Cur}(h:zgz c=true):zo0 c (zY c) (zbY c):=wG h
theorem zh8 (c:Cur)  : 0<=(zY c).i:=wP fun h=>h.2.1.2
theorem zYF (c:Cur)(h:∃N,Ends (wE (fun a=>aS .ins a) c.b fun a=>zc4 a=true) (zwY N c)):zgz c=true:=wI (fun _ _ h=>h) h
def zyw:zdy:=rP0 fun c=>(zgz c,zY c,[aS .ins (zbY c)])
theorem zLS:zbN Tryz.prog 273 [false,true,true] zyw:=hP0 zdC zU zWb zn zTl (fun _ h=>(zrb h).1)
theorem zD2 {c:Cur}(h:zbd c):zgz c=true:=by
 refine zYF c ⟨9,?_⟩;unfold zwY oN;conv=>zeta
 refine zlV (fun n s=>s.1+(n:Int)=8/\0<=s.1/\0<=s.2.1/\(∀x∈s.2.2.2.1,zdH x=true)/\ln s.2.2.2.1=s.1/\s.2.2.2.2.1=c.b) ?_ 9 8 _ ⟨rfl,kS 0,h.1,by simp,rfl,rfl⟩ (by omega);rintro n ⟨t,i,k,l,b,u⟩ rec ⟨B,g,v,j,w,z⟩ f;dsimp only at B g v j w z ⊢;subst z;have a:zbd ⟨c.b,i,k⟩:=zbJ h v;have d:=zfu a (n:=7) (by omega);have A:=zgR (x:=2) (by omega) (by omega) d.1 (by omega);have m:zbd {zf ⟨c.b,i,k⟩ 7 with b:=c.b}:=zbJ h (zD _ _);have e:∀(y:Ins),zdH y=true->2<=t->zc4 (ap l [y])=true:=(by intro y C D;unfold zc4;rw[zg9,w];have:(ap l [y]).all zdH=true:=(by simp only[ap,List.all_append,kW,List.all_nil,vE,qD];exact⟨qM.2 j,C⟩);rw[this,cT];simp only[win,ige,ile,qD,q0];omega);refine zu (zby a 7) (zbB (fun p=>?_) (fun p=>?_));{have r:t<zM .i64 2 (zk ⟨c.b,i,k⟩ 7):=qE p;rw[A]at r;refine zu (zTw m) (zu (zkp (by rw[zg9];omega)) (f (n-1) _ (by omega) ⟨?_,?_,zAH _,?_,?_,rfl⟩));{show zM .i64 t 1+_=8;rw[zgR g (by omega) (by omega) (by omega)];omega};{show 0<=zM .i64 t 1;rw[zgR g (by omega) (by omega) (by omega)];omega};{intro x d;rcases jJ.1 d with d|d;{exact j x d};{rw [qF.1 d];exact(zM5 (zTw m)).2.2}};{show ln (ap l [_])=zM .i64 t 1;rw[zg9,zgR g (by omega) (by omega) (by omega)];omega}};{have q:¬ t<zM .i64 2 (zk ⟨c.b,i,k⟩ 7):=jW p;rw[A]at q;refine zu (ziw m 3) (zbB (fun _=>zu (zkp (by rw[zg9];omega)) (zbH (aS .ins) (zcg _ _) (e _ rfl (by omega)))) (fun _=>zu (zkp (by rw[zg9];omega)) (zbH (aS .ins) (zcg _ _) (e _ rfl (by omega)))))}
def z88:zcU:=[(273,([false,true,true],zyw))]++z81
theorem zWc:zb2 z88:=zcu zWb (by
 intro x a;simp only[qG,qO,or_false]at a;rcases a with rfl
 .exact zLS)
theorem zXs {f:Type}{c:Cur}(h:zbd c){P:f->Prop}{fc:Cur->Bool}{fs:Cur->Cur}{fv:Cur->f}(C:∀{c:Cur},zbd c->fc c=true)(D:∀c,0<=(fs c).i)(hg:∀{c:Cur},zbd c->P (fv c)){G:Ans->Prop}{R:Cur->List f->Ans}(B:∀s l,s.b=c.b->0<=s.i->1<=l.length->l.length<=2->(∀x∈l,P x)->G (R s l)){F:(Int×Int×Int×List f×List Int×Unit->OA)->Int×Int×Int×List f×List Int×Unit->OA}(A:∀rec t i k l,F rec (t,i,k,l,c.b,())=bif zx ⟨c.b,i,k⟩ 2 then (bif ilt t (zM .i64 1 (zk ⟨c.b,i,k⟩ 2)) then (bif fc { zf ⟨c.b,i,k⟩ 2 with b:=c.b } then (bif few (ln (ap l [fv { zf ⟨c.b,i,k⟩ 2 with b:=c.b }])) then
        rec (zM .i64 t 1,(fs {zf ⟨c.b,i,k⟩ 2 with b:=c.b}).i,(fs {zf ⟨c.b,i,k⟩ 2 with b:=c.b}).h,ap l [fv {zf ⟨c.b,i,k⟩ 2 with b:=c.b}],c.b,()) else none) else none) else some (R ⟨c.b,(zf ⟨c.b,i,k⟩ 2).i,(zf ⟨c.b,i,k⟩ 2).h⟩ l)) else none) :
 Ends G (iter 3 F (0,c.i,c.h,[],c.b,())):=by
 refine zlV (fun n s=>s.1+(n:Int)=2/\0<=s.1/\0<=s.2.1/\(∀x∈s.2.2.2.1,P x)/\ln s.2.2.2.1=s.1/\s.2.2.2.2.1=c.b) ?_ 3 2 _ ⟨rfl,kS 0,h.1,by simp,rfl,rfl⟩ (by omega)
 rintro n ⟨t,i,k,l,b,u⟩ rec ⟨z,m,p,g,q,r⟩ e
 dsimp only at z m p g q r
 subst r;rw[A];have a:zbd ⟨c.b,i,k⟩:=zbJ h p;have d:=zfu a (n:=2) (by omega)
 have w:=zgR (x:=1) (by omega) (by omega) d.1 (by omega)
 have v:zbd {zf ⟨c.b,i,k⟩ 2 with b:=c.b}:=zbJ h (zD _ _);refine zu (zby a 2) (zbB (fun j=>?_) (fun j=>?_))
 .have hlt:t<zM .i64 1 (zk ⟨c.b,i,k⟩ 2):=qE j;rw[w]at hlt;have E:=zgR (y:=1) m (by omega) (by omega) (by omega)
  refine zu (C v) (zu (zkp (by rw[zg9];omega)) (e (n-1) _ (by omega) ⟨?_,?_,D _,?_,?_,rfl⟩))
  .show zM .i64 t 1+_=2
   omega
  .show 0<=zM .i64 t 1
   omega
  .intro x d;rcases jJ.1 d with d|d
   .exact g x d
   .rw [qF.1 d];exact hg v
  .show ln (ap l [_])=zM .i64 t 1
   rw[zg9];omega
 .have hge:¬ t<zM .i64 1 (zk ⟨c.b,i,k⟩ 2):=jW j;rw[w]at hge;unfold ln at q;exact ztU (B _ l rfl (zD _ _) (by omega) (by omega) g)
def ztK (N:Nat)(c:Cur)  : OA :=
 (iter (σ:=(Int×(Int×(Int×(lP×((List Int)×Unit)))))) N (fun g a=>let f:=a.2.2.2.2.1;let e:=(⟨f,a.2.1,a.2.2.1⟩:Cur);let d:=({ (zf e 2) with b:=f}:Cur); (oN (zx e 2) (cond (ilt a.1 (zM .i64 1 (zk e 2))) (oN (zgz d) (oN (few (ln (ap a.2.2.2.1 [(zbY d)]))) (g ((zM .i64 a.1 1),((zY d).i,((zY d).h,((ap a.2.2.2.1 [(zbY d)]),(f,())))))))) (some [(.agg [(.s .u8 f),(.i .i64 (zf e 2).i),(.i .i64 (zf e 2).h)]),(aS (.sl .ins) a.2.2.2.1)])))) (0,(c.i,(c.h,([],(c.b,()))))))
def zQf:FuncId->Nat->Option Tmpl:=zq [(198,0,{n:=19,tm:=[(0,.lp 0 0),(3,.sl 0 []),(4,ti)],lo:=[(0,[.sl 1 [],ti,ti])],ro:=[(0,(.sl .ins),true),(1,.u8,false)]})]
def zmL (c:Cur)(s:Cur)(a:List (List Ins)):Prop:=(∃N,ztK N c=some (AV.agg (zbS s)::[aS (.sl .ins) a]))/\(s.b=c.b/\0<=s.i)/\(1<=a.length/\a.length<=2/\∀x∈a,zc4 x=true)
def ziI (c:Cur)  : Bool:=wC (zmL c)
def ziJ (c:Cur)  : Cur:=wS (zmL c)
def zo9 (c:Cur)  : List (List Ins):=wV (zmL c)
theorem zER {c:Cur}(h:ziI c=true):zmL c (ziJ c) (zo9 c):=wG h
theorem zWI (c:Cur)  : 0<=(ziJ c).i:=wP fun h=>h.2.1.2
theorem zWH (c:Cur)(h:∃N,Ends (wE (fun a=>aS (.sl .ins) a) c.b fun a=>1<=a.length/\a.length<=2/\∀x∈a,zc4 x=true) (ztK N c)):ziI c=true:=wI (fun _ _ h=>h) h
def zvV:zdy:=rP0 fun c=>(ziI c,ziJ c,[aS (.sl .ins) (zo9 c)])
theorem zJe:zbN Tryz.prog 198 [false,true,true] zvV:=hP0 zdC zU zWc zn zQf (fun _ h=>(zER h).1)
theorem zZJ {c:Cur}(h:zbd c):ziI c=true:=by
 refine zWH c ⟨3,?_⟩;unfold ztK oN;conv=>zeta
 exact zXs h (P:=fun x=>zc4 x=true) (fc:=zgz) (fs:=zY) (fv:=zbY) (R:=fun s l=>AV.agg (zbS s)::[aS (.sl .ins) l]) zD2 zh8 (fun h=>(zrb (zD2 h)).2.2) (fun s l d e a b f=>⟨s,l,rfl,⟨d,e⟩,a,b,f⟩) (fun rec t i k l=>rfl)
def z9a:zcU:=[(198,([false,true,true],zvV))]++z88
theorem zWd:zb2 z9a:=zcu zWc (by
 intro x a;simp only[qG,qO,or_false]at a;rcases a with rfl
 .exact zJe)
def zzv (N:Nat)(c:Cur)  : OA :=
 (iter (σ:=(Int×(Int×(Int×(lQ×((List Int)×Unit)))))) N (fun g a=>let f:=a.2.2.2.2.1;let e:=(⟨f,a.2.1,a.2.2.1⟩:Cur);let d:=({ (zf e 2) with b:=f}:Cur); (oN (zx e 2) (cond (ilt a.1 (zM .i64 1 (zk e 2))) (oN (ziI d) (oN (few (ln (ap a.2.2.2.1 [(zo9 d)]))) (g ((zM .i64 a.1 1),((ziJ d).i,((ziJ d).h,((ap a.2.2.2.1 [(zo9 d)]),(f,())))))))) (some [(.agg [(.s .u8 f),(.i .i64 (zf e 2).i),(.i .i64 (zf e 2).h)]),(aS (.sl (.sl .ins)) a.2.2.2.1)])))) (0,(c.i,(c.h,([],(c.b,()))))))
def zXn:FuncId->Nat->Option Tmpl:=zq [(121,0,{n:=19,tm:=[(0,.lp 0 0),(3,.sl 0 []),(4,ti)],lo:=[(0,[.sl 1 [],ti,ti])],ro:=[(0,(.sl (.sl .ins)),true),(1,.u8,false)]})]
def zrh (c:Cur)(s:Cur)(a:List (List (List Ins))):Prop:=(∃N,zzv N c=some (AV.agg (zbS s)::[aS (.sl (.sl .ins)) a]))/\(s.b=c.b/\0<=s.i)/\(1<=a.length/\a.length<=2/\∀p∈a,1<=p.length/\p.length<=2/\∀x∈p,zc4 x=true)
def zpa (c:Cur)  : Bool:=wC (zrh c)
def zlI (c:Cur)  : Cur:=wS (zrh c)
def zuU (c:Cur)  : List (List (List Ins)):=wV (zrh c)
theorem zM7 {c:Cur}(h:zpa c=true):zrh c (zlI c) (zuU c):=wG h
theorem z1P (c:Cur)  : 0<=(zlI c).i:=wP fun h=>h.2.1.2
theorem z1O (c:Cur)(h:∃N,Ends (wE (fun a=>aS (.sl (.sl .ins)) a) c.b fun a=>1<=a.length/\a.length<=2/\∀p∈a,1<=p.length/\p.length<=2/\∀x∈p,zc4 x=true) (zzv N c)):zpa c=true:=wI (fun _ _ h=>h) h
def zBy:zdy:=rP0 fun c=>(zpa c,zlI c,[aS (.sl (.sl .ins)) (zuU c)])
theorem zOI:zbN Tryz.prog 121 [false,true,true] zBy:=hP0 zdC zU zWd zn zXn (fun _ h=>(zM7 h).1)
theorem z7y {c:Cur}(h:zbd c):zpa c=true:=by
 refine z1O c ⟨3,?_⟩;unfold zzv oN;conv=>zeta
 exact zXs h (P:=fun p=>1<=p.length/\p.length<=2/\∀x∈p,zc4 x=true) (fc:=ziI) (fs:=ziJ) (fv:=zo9) (R:=fun s l=>AV.agg (zbS s)::[aS (.sl (.sl .ins)) l]) zZJ zWI (fun h=>(zER (zZJ h)).2.2) (fun s l d e a b f=>⟨s,l,rfl,⟨d,e⟩,a,b,f⟩) (fun rec t i k l=>rfl)
def z9b:zcU:=[(121,([false,true,true],zBy))]++z9a
theorem zWe:zb2 z9b:=zcu zWd (by
 intro x a;simp only[qG,qO,or_false]at a;rcases a with rfl
 .exact zOI)
theorem zFf {c:Type}{G:c->Prop}{x:Bool}{a b:Option c}(k:Ends G a)(h:x=true:=by first
 |exact zby (by first|assumption|exact zbJ (by assumption) (zD _ _)|exact zbJ (by assumption) (zcg _ _)|exact zbJ (by assumption) (zbT _ _)) _
 |exact ziw (by first|assumption|exact zbJ (by assumption) (zD _ _)|exact zbJ (by assumption) (zcg _ _)) _
 |exact zeb (by first|assumption|exact zbJ (by assumption) (zD _ _)) (by simp)):Ends G (cond x a b):=zu h k
def zzs (N:Nat)(c:Cur)  : OA :=
 let f:=(zk c 4);let j:=({ (zf c 4) with b:=c.b}:Cur);let e:=(zc1 j 4);let d:=(zO j 4);let a:=({d with b:=c.b}:Cur);let g:=({ (zO a 2) with b:=c.b}:Cur); (oN (zx c 4) (oN (zcT j 4) (cond (nB e) (cond (ine f 2) (oN (zcT a 2) (cond (zc1 a 2) (oN (zx g 256) (some [(.agg [(.s .u8 c.b),(.i .i64 (zf g 256).i),(.i .i64 (zf g 256).h)]),(.agg [(.i .i64 f),(.i .i64 (zk g 256)),(.b (nB e))])])) (some [(.agg [(.s .u8 c.b),(.i .i64 (zO a 2).i),(.i .i64 (zO a 2).h)]),(.agg [(.i .i64 f),(.i .i64 0),(.b (nB e))])]))) (some [(.agg [(.s .u8 c.b),(.i .i64 d.i),(.i .i64 d.h)]),(.agg [(.i .i64 f),(.i .i64 0),(.b (nB e))])])) (some [(.agg [(.s .u8 c.b),(.i .i64 d.i),(.i .i64 d.h)]),(.agg [(.i .i64 f),(.i .i64 0),(.b (nB e))])]))))
def zre (c:Cur)(s:Cur)(a:Ctl):Prop:=(∃N,zzs N c=some (AV.agg (zbS s)::[.agg (znM a)]))/\(s.b=c.b/\0<=s.i)/\(True)
def zjl (c:Cur)  : Bool:=wC (zre c)
def zcd (c:Cur)  : Cur:=wS (zre c)
def zcw (c:Cur)  : Ctl:=wV (zre c)
theorem z1H {c:Cur}(h:zjl c=true):zre c (zcd c) (zcw c):=wG h
theorem zAJ (c:Cur)  : 0<=(zcd c).i:=wP fun h=>h.2.1.2
theorem z1I (c:Cur)(h:∃N,Ends (wE (fun a=>.agg (znM a)) c.b fun a=>True) (zzs N c)):zjl c=true:=wI (fun _ _ h=>h) h
def zBv:zdy:=rP0 fun c=>(zjl c,zcd c,[.agg (znM (zcw c))])
theorem zOF:zbN Tryz.prog 169 [false,true,true] zBv:=hP0 zdC zU zWe zn (zq []) (fun _ h=>(z1H h).1)
theorem z0q {c:Cur}(h:zbd c):zjl c=true:=by
 refine z1I c ⟨0,?_⟩;unfold zzs oN nB;conv=>zeta
 refine zFf (zFf (zbB (fun _=>zbB (fun _=>zFf (zbB (fun _=>zFf (?_)) (fun _=>?_))) (fun _=>?_)) (fun _=>?_)));all_goals exact zbH (fun x=>AV.agg (znM x)) (v:=⟨_,_,_⟩) (by first|exact zD _ _|exact zcg _ _) trivial
def z9c:zcU:=[(169,([false,true,true],zBv))]++z9b
theorem zJE:zb2 z9c:=zcu zWe (by
 intro x a;simp only[qG,qO,or_false]at a;rcases a with rfl
 .exact zOF)
theorem zdL {c:Type}{G:c->Prop}{x:Bool}{a b:Option c}(k:Ends G a)(h:x=true:=by first
 |exact zby (by first|assumption|exact zbJ (by assumption) (zD _ _)|exact zbJ (by assumption) (zbT _ _)) _
 |exact zeb (by first|assumption|exact zbJ (by assumption) (zD _ _)) (by simp)
 |exact z0q (zbJ (by assumption) (zD _ _))):Ends G (cond x a b):=zu h k
def zzy (N:Nat)(c:Cur)  : OA :=
 let m:=({ (zf c 2) with b:=c.b}:Cur);let g:=(zk c 2);let f:=(zk m 2);let u:=({ (zf m 2) with b:=c.b}:Cur);let e:=(zf u 24);let d:=(zk u 24);let a:=({e with b:=c.b}:Cur);let j:=(zf a 8);let l:=({ (zf a 4) with b:=c.b}:Cur);let k:=({j with b:=c.b}:Cur);let t:=({ (zf a 16) with b:=c.b}:Cur);let r:=({ (zba a [16,17]) with b:=c.b}:Cur);let q:=({ (zba a [13,13,14,15]) with b:=c.b}:Cur);let p:=({ (zf k 4) with b:=c.b}:Cur);let n:=({ (zf l 8) with b:=c.b}:Cur); (share (oN (zbp a [13,13,14,15]) (oN (zx q 8) (some [(.agg [(.s .u8 c.b),(.i .i64 (zf q 8).i),(.i .i64 (zf q 8).h)]),(.agg [(.i .i64 (zbk a [13,13,14,15])),(.i .i64 g),(.i .i64 f),(.i .i64 (zk q 8)),(.i .i64 0),(.i .i64 0)])]))) (fun A=>(share (cond (ieq d 16) (oN (zbp a [16,17]) (oN (zx r 4) (some [(.agg [(.s .u8 c.b),(.i .i64 (zf r 4).i),(.i .i64 (zf r 4).h)]),(.agg [(.i .i64 (zbk a [16,17])),(.i .i64 g),(.i .i64 f),(.i .i64 (zk r 4)),(.i .i64 0),(.i .i64 0)])]))) (some [(.agg [(.s .u8 c.b),(.i .i64 e.i),(.i .i64 e.h)]),(.agg [(.i .i64 1),(.i .i64 g),(.i .i64 f),(.i .i64 0),(.i .i64 0),(.i .i64 0)])])) (fun z=>(share (oN (zx a 4) (oN (zx l 8) (oN (zbp n [3,3,1,2]) (some [(.agg [(.s .u8 c.b),(.i .i64 (zba n [3,3,1,2]).i),(.i .i64 (zba n [3,3,1,2]).h)]),(.agg [(.i .i64 2),(.i .i64 g),(.i .i64 f),(.i .i64 (zk a 4)),(.i .i64 (zk l 8)),(.i .i64 (zbk n [3,3,1,2]))])])))) (fun y=>(share (oN (zx a 4) (some [(.agg [(.s .u8 c.b),(.i .i64 (zf a 4).i),(.i .i64 (zf a 4).h)]),(.agg [(.i .i64 3),(.i .i64 g),(.i .i64 f),(.i .i64 (zk a 4)),(.i .i64 0),(.i .i64 0)])])) (fun x=>(share (cond (ieq d 7) (oN (zx a 8) (some [(.agg [(.s .u8 c.b),(.i .i64 j.i),(.i .i64 j.h)]),(.agg [(.i .i64 6),(.i .i64 g),(.i .i64 f),(.i .i64 (zk a 8)),(.i .i64 0),(.i .i64 0)])])) (cond (ieq d 8) (oN (zjl a) (cond ((zcw a).Open) (some [(.agg [(.s .u8 c.b),(.i .i64 (zcd a).i),(.i .i64 (zcd a).h)]),(.agg [(.i .i64 7),(.i .i64 g),(.i .i64 f),(.i .i64 (zcw a).Traps),(.i .i64 (zcw a).Post),(.i .i64 1)])]) (some [(.agg [(.s .u8 c.b),(.i .i64 (zcd a).i),(.i .i64 (zcd a).h)]),(.agg [(.i .i64 7),(.i .i64 g),(.i .i64 f),(.i .i64 (zcw a).Traps),(.i .i64 (zcw a).Post),(.i .i64 0)])]))) (cond (ieq d 9) (oN (zx a 8) (oN (zx k 4) (oN (zx p 100) (some [(.agg [(.s .u8 c.b),(.i .i64 (zf p 100).i),(.i .i64 (zf p 100).h)]),(.agg [(.i .i64 8),(.i .i64 g),(.i .i64 f),(.i .i64 (zk a 8)),(.i .i64 (zk k 4)),(.i .i64 (zk p 100))])])))) (cond (ieq d 10) (oN (zx a 8) (some [(.agg [(.s .u8 c.b),(.i .i64 j.i),(.i .i64 j.h)]),(.agg [(.i .i64 9),(.i .i64 g),(.i .i64 f),(.i .i64 (zk a 8)),(.i .i64 0),(.i .i64 0)])])) (cond (ieq d 11) (some [(.agg [(.s .u8 c.b),(.i .i64 e.i),(.i .i64 e.h)]),(.agg [(.i .i64 10),(.i .i64 g),(.i .i64 f),(.i .i64 0),(.i .i64 0),(.i .i64 0)])]) (cond (ieq d 12) (oN (zx a 16) (oN (zx t 100) (some [(.agg [(.s .u8 c.b),(.i .i64 (zf t 100).i),(.i .i64 (zf t 100).h)]),(.agg [(.i .i64 11),(.i .i64 g),(.i .i64 f),(.i .i64 (zk a 16)),(.i .i64 (zk t 100)),(.i .i64 0)])]))) (cond (ieq d 13) (oN (zx a 16) (some [(.agg [(.s .u8 c.b),(.i .i64 (zf a 16).i),(.i .i64 (zf a 16).h)]),(.agg [(.i .i64 12),(.i .i64 g),(.i .i64 f),(.i .i64 (zk a 16)),(.i .i64 0),(.i .i64 0)])])) (cond (ieq d 14) (cond (ieq d 14) A z) (cond (ieq d 15) A z))))))))) (fun v=>(share (cond (ieq d 4) (oN (zx a 100) (some [(.agg [(.s .u8 c.b),(.i .i64 (zf a 100).i),(.i .i64 (zf a 100).h)]),(.agg [(.i .i64 4),(.i .i64 g),(.i .i64 f),(.i .i64 (zk a 100)),(.i .i64 0),(.i .i64 0)])])) (cond (ieq d 5) (cond (ieq d 5) (some [(.agg [(.s .u8 c.b),(.i .i64 e.i),(.i .i64 e.h)]),(.agg [(.i .i64 5),(.i .i64 g),(.i .i64 f),(.i .i64 0),(.i .i64 0),(.i .i64 0)])]) v) (cond (ieq d 6) (some [(.agg [(.s .u8 c.b),(.i .i64 e.i),(.i .i64 e.h)]),(.agg [(.i .i64 5),(.i .i64 g),(.i .i64 f),(.i .i64 0),(.i .i64 0),(.i .i64 0)])]) v))) (fun w=>(share (cond (ieq d 2) (cond (ieq d 2) x w) (cond (ieq d 3) x w)) (fun B=>(oN (zx c 2) (oN (zx m 2) (oN (zx u 24) (cond (ieq d 0) (cond (ieq d 0) y B) (cond (ieq d 1) y B)))))))))))))))))))
def zrm (c:Cur)(s:Cur)(a:GAct):Prop:=(∃N,zzy N c=some (AV.agg (zbS s)::[aT .act a]))/\(s.b=c.b/\0<=s.i)/\(True)
def zjn (c:Cur)  : Bool:=wC (zrm c)
def zgq (c:Cur)  : Cur:=wS (zrm c)
def zqd (c:Cur)  : GAct:=wV (zrm c)
theorem z1R {c:Cur}(h:zjn c=true):zrm c (zgq c) (zqd c):=wG h
theorem z1T (c:Cur)  : 0<=(zgq c).i:=wP fun h=>h.2.1.2
theorem z1S (c:Cur)(h:∃N,Ends (wE (fun a=>aT .act a) c.b fun a=>True) (zzy N c)):zjn c=true:=wI (fun _ _ h=>h) h
def zBA:zdy:=rP0 fun c=>(zjn c,zgq c,[aT .act (zqd c)])
theorem zON:zbN Tryz.prog 93 [false,true,true] zBA:=hP0 zdC zU zJE zn (zq []) (fun _ h=>(z1R h).1)
theorem zbcc {c:Cur}(h:zbd c):zjn c=true:=by
 refine z1S c ⟨0,?_⟩;unfold zzy oN;conv=>zeta
 refine zmP (zdL (zdL (?_))) (fun _ g=>zmP (zbB (fun _=>zdL (zdL (?_))) (fun _=>?_)) (fun _ f=>zmP (zdL (zdL (zdL (?_)))) (fun _ e=>zmP (zdL (?_)) (fun _ d=>zmP (zbB (fun _=>zdL (?_)) (fun _=>zbB (fun _=>zdL (zbB (fun _=>?_) (fun _=>?_))) (fun _=>zbB (fun _=>zdL (zdL (zdL (?_)))) (fun _=>zbB (fun _=>zdL (?_)) (fun _=>zbB (fun _=>?_) (fun _=>zbB (fun _=>zdL (zdL (?_))) (fun _=>zbB (fun _=>zdL (?_)) (fun _=>zbB (fun _=>zbB (fun _=>g) (fun _=>f)) (fun _=>zbB (fun _=>g) (fun _=>f)))))))))) (fun _ a=>zmP (zbB (fun _=>zdL (?_)) (fun _=>zbB (fun _=>zbB (fun _=>?_) (fun _=>a)) (fun _=>zbB (fun _=>?_) (fun _=>a)))) (fun _ b=>zmP (zbB (fun _=>zbB (fun _=>d) (fun _=>b)) (fun _=>zbB (fun _=>d) (fun _=>b))) (fun _ i=>zdL (zdL (zdL (zbB (fun _=>zbB (fun _=>e) (fun _=>i)) (fun _=>zbB (fun _=>e) (fun _=>i))))))))))));all_goals exact zbH (aT .act) (v:=⟨_,_,_,_,_,_⟩) (by first|exact zD _ _|exact zbT _ _|exact zAJ _) trivial
def zkg (N:Nat)  : OA :=
 (iter (σ:=(Int×(lA×Unit))) N (fun e c=>(cond (ilt c.1 2) (iter (σ:=(Int×(Int×(lA×Unit)))) N (fun f b=>(cond (ilt b.2.1 2) (iter (σ:=(Int×(Int×(Int×(lA×Unit))))) N (fun g a=>let d:=(ap a.2.2.2.1 [(⟨2,a.1,a.2.1,a.2.2.1,(zM .i64 a.2.2.1 (zng .i64 3 a.2.1)),3⟩:GAct),(⟨3,a.1,a.2.1,a.2.2.1,0,0⟩:GAct)]); (cond (ilt a.2.2.1 3) (oN (few (ln d)) (g (a.1,(a.2.1,((zM .i64 a.2.2.1 1),(d,())))))) (f (a.1,((zM .i64 a.2.1 1),(a.2.2.2.1,())))))) (b.1,(b.2.1,(0,(b.2.2.1,()))))) (e ((zM .i64 b.1 1),(b.2.2.1,()))))) (c.1,(0,(c.2.1,())))) (some [(aS .act c.2.1)]))) (0,([],())))
def zQg:FuncId->Nat->Option Tmpl:=zq [(115,0,{n:=34,tm:=[(1,.sl 0 []),(2,ti)],lo:=[],ro:=[(0,.act,true)]}),(115,2,{n:=34,tm:=[(1,.sl 0 []),(2,ti),(3,ti)],lo:=[],ro:=[(0,.act,true)]}),(115,4,{n:=34,tm:=[(1,.sl 0 []),(2,ti),(3,ti),(4,ti)],lo:=[],ro:=[(0,.act,true)]})]
def zsC  (a:List GAct):Prop:=(∃N,zkg N=some [aS .act a])/\(a.length<=45)
def ziL  : Bool:=uC (T:=List GAct) (fun r=>zsC r)
def zWK  : List GAct:=uV (fun r=>zsC r)
def zto  : List GAct:=(zWK)
theorem zES  (h:ziL=true):zsC zto:=uG h
theorem zWJ  (h:∃N,Ends (fun a=>∃b,a=[aS .act b]/\(b.length<=45)) (zkg N)):ziL=true:=by obtain⟨N,a,e,b,rfl,h⟩:=h;exact zbg ⟨b,⟨N,e⟩,h⟩
def zy5:Run:=rF0 (ziL,[aS .act zto])
theorem zPs  (a:ziL=true):∃N,zkg N  = some [aS .act zto]:=by exact(zES a).1
theorem zJf:vM 115 zy5:=kF0 zdC zU zJE zn zQg zPs
def z2x:List GAct:=match zkg 10 with
 |some [.one (.s .act l)]=>l
 |_=>[]
theorem zZc:ziL=true:=zWJ ⟨10,_,(by kernel_rfl:zkg 10=some [aS .act z2x]),z2x,rfl,Nat.le_of_ble_eq_true (by kernel_rfl)⟩
def z9d:zcU:=[(93,([false,true,true],zBA))]++z9c
theorem zWf:zb2 z9d:=zcu zJE (by
 intro x a;simp only[qG,qO,or_false]at a;rcases a with rfl
 .exact zON)
def zbbw:zW:=[(115,zy5)]++zNS
theorem z2A:zK zbbw:=zi zJf zdC
theorem zRi {c:Cur}(h:zbd c){m:Int}(e:0<=m)(I:m<=1000){G:Ans->Prop}{R:Cur->List GAct->Ans}(C:∀s l,s.b=c.b->0<=s.i->ln l<=45+m->G (R s l)){F:(Int×Int×Int×Int×List GAct×List Int×Unit->OA)->Int×Int×Int×Int×List GAct×List Int×Unit->OA}(B:∀rec t i k l,F rec (m,t,i,k,l,c.b,())=bif zx ⟨c.b,i,k⟩ (zM .i64 m 1) then (bif ilt t (zk ⟨c.b,i,k⟩ (zM .i64 m 1)) then (bif zjn { zf ⟨c.b,i,k⟩ (zM .i64 m 1) with b:=c.b } then (bif few (ln (ap l [zqd { zf ⟨c.b,i,k⟩ (zM .i64 m 1) with b:=c.b }])) then
        rec (m,zM .i64 t 1,(zgq {zf ⟨c.b,i,k⟩ (zM .i64 m 1) with b:=c.b}).i,(zgq {zf ⟨c.b,i,k⟩ (zM .i64 m 1) with b:=c.b}).h,ap l [zqd {zf ⟨c.b,i,k⟩ (zM .i64 m 1) with b:=c.b}],c.b,()) else none) else none) else some (R ⟨c.b,(zf ⟨c.b,i,k⟩ (zM .i64 m 1)).i,(zf ⟨c.b,i,k⟩ (zM .i64 m 1)).h⟩ l)) else none){v H:Int}(f:0<=v){l0:List GAct}(D:l0.length<=45):Ends G (iter 1002 F (m,0,v,H,l0,c.b,())):=by
 refine zlV (fun n s=>s.1=m/\s.2.1+(n:Int)=1000/\0<=s.2.1/\0<=s.2.2.1/\(ln s.2.2.2.2.1<=45+s.2.1/\s.2.1<=m)/\s.2.2.2.2.2.1=c.b) ?_ 1002 1000 _ ⟨rfl,rfl,kS 0,f,⟨by unfold ln;show ((l0.length:Nat):Int)<=45+0;omega,e⟩,rfl⟩ (by omega)
 rintro n ⟨q,t,i,k,l,b,u⟩ rec ⟨e,w,g,j,⟨z,E⟩,p⟩ d
 dsimp only at e w g j z p E
 subst p;subst e;rw[B];have a:zbd ⟨c.b,i,k⟩:=zbJ h j;have K:=zgR (x:=q) (y:=1) (by omega) (by omega) (by omega) (by omega)
 have L:=zfu a (n:=zM .i64 q 1) (by omega)
 have A:zbd {zf ⟨c.b,i,k⟩ (zM .i64 q 1) with b:=c.b}:=zbJ h (zD _ _);refine zu (zby a _) (zbB (fun r=>?_) (fun r=>?_))
 .have hlt:t<zk ⟨c.b,i,k⟩ (zM .i64 q 1):=qE r;have J:=zgR (y:=1) g (by omega) (by omega) (by omega)
  refine zu (zbcc A) (zu (zkp (by rw[zg9];omega)) (d (n-1) _ (by omega) ⟨rfl,?_,?_,z1T _,⟨?_,?_⟩,rfl⟩))
  .show zM .i64 t 1+_=1000
   omega
  .show 0<=zM .i64 t 1
   omega
  .show ln (ap l [_])<=45+zM .i64 t 1
   rw[zg9];omega
  .show zM .i64 t 1<=q
   omega
 .refine ztU (C _ l rfl (zD _ _) ?_);omega
def zw5 (N:Nat)(c:Cur)(a0:Int):OA:=
 (oN (zcT c 5) (cond (nB (zc1 c 5)) (oN ziL (iter (σ:=(Int×(Int×(Int×(Int×(lA×((List Int)×Unit))))))) N (fun n a=>let l:=a.2.2.2.2.2.1;let f:=(zM .i64 a.1 1);let d:=(⟨l,a.2.2.1,a.2.2.2.1⟩:Cur);let j:=({ (zf d f) with b:=l}:Cur);let p:=(ap a.2.2.2.2.1 [(zqd j)]); (oN (zx d f) (cond (ilt a.2.1 (zk d f)) (oN (zjn j) (oN (few (ln p)) (n (a.1,((zM .i64 a.2.1 1),((zgq j).i,((zgq j).h,(p,(l,()))))))))) (some [(.agg [(.s .u8 l),(.i .i64 (zf d f).i),(.i .i64 (zf d f).h)]),(aS .act a.2.2.2.2.1)])))) (a0,(0,((zO c 5).i,((zO c 5).h,(zto,(c.b,())))))))) (iter (σ:=(Int×(Int×(Int×(Int×(lA×((List Int)×Unit))))))) N (fun n a=>let m:=a.2.2.2.2.2.1;let g:=(zM .i64 a.1 1);let e:=(⟨m,a.2.2.1,a.2.2.2.1⟩:Cur);let k:=({ (zf e g) with b:=m}:Cur);let q:=(ap a.2.2.2.2.1 [(zqd k)]); (oN (zx e g) (cond (ilt a.2.1 (zk e g)) (oN (zjn k) (oN (few (ln q)) (n (a.1,((zM .i64 a.2.1 1),((zgq k).i,((zgq k).h,(q,(m,()))))))))) (some [(.agg [(.s .u8 m),(.i .i64 (zf e g).i),(.i .i64 (zf e g).h)]),(aS .act a.2.2.2.2.1)])))) (a0,(0,((zO c 5).i,((zO c 5).h,([],(c.b,())))))))))
def zTp:FuncId->Nat->Option Tmpl:=zq [(53,0,{n:=26,tm:=[(0,.lp 0 0),(1,ti),(5,.sl 0 []),(6,ti)],lo:=[(0,[.sl 1 [],ti,ti])],ro:=[(0,.act,true),(1,.u8,false)]})]
def zpd (c:Cur)(a0:Int)(s:Cur)(a:List GAct):Prop:=(∃N,zw5 N c a0=some (AV.agg (zbS s)::[aS .act a]))/\(s.b=c.b/\0<=s.i)/\(ln a<=45+a0)
def zmr (c:Cur)(a0:Int):Bool:=wC (zpd c a0)
def zms (c:Cur)(a0:Int):Cur:=wS (zpd c a0)
def zrY (c:Cur)(a0:Int):List GAct:=wV (zpd c a0)
theorem zHZ {c:Cur}{a0:Int}(h:zmr c a0=true):zpd c a0 (zms c a0) (zrY c a0):=wG h
theorem zYP (c:Cur)(a0:Int):0<=(zms c a0).i:=wP fun h=>h.2.1.2
theorem zYO (c:Cur)(a0:Int)(h:∃N,Ends (wE (fun a=>aS .act a) c.b fun a=>ln a<=45+a0) (zw5 N c a0)):zmr c a0=true:=wI (fun _ _ h=>h) h
def zyA:zdy:=rP1 dI fun c b=>(zmr c b,zms c b,[aS .act (zrY c b)])
theorem zL6:zbN Tryz.prog 53 [false,true,true] zyA:=hP1 z2A zU zWf zn zTp (fun _ _ h=>(zHZ h).1)
theorem z2p {c:Cur}(h:zbd c){m:Int}(e:0<=m)(f:m<=1000):zmr c m=true:=by
 refine zYO c m ⟨1002,?_⟩;unfold zw5 oN nB;conv=>zeta
 have g:=zES zZc;exact zu (ziw h 5) (zbB (fun _=>zu zZc (zRi h e f (R:=fun s l=>AV.agg (zbS s)::[aS .act l]) (fun s l a b d=>⟨s,l,rfl,⟨a,b⟩,d⟩) (fun rec t i k l=>rfl) (zcg _ _) g.2)) (fun _=>zRi h e f (R:=fun s l=>AV.agg (zbS s)::[aS .act l]) (fun s l a b d=>⟨s,l,rfl,⟨a,b⟩,d⟩) (fun rec t i k l=>rfl) (zcg _ _) (jX _)))
def z9e:zcU:=[(53,([false,true,true],zyA))]++z9d
theorem zWg:zb2 z9e:=zcu zWf (by
 intro x a;simp only[qG,qO,or_false]at a;rcases a with rfl
 .exact zL6)
@[simp] abbrev zhY (l:List (List Int)):Bool:=pc (SmM l)
@[simp] abbrev zfn (l:List (List Int)):List (List Int):=l
def zBD:Run:=rF1 (dS (.sl .int)) fun b=>(zhY b,[aS (.sl .int) (zfn b)])
def zGF (N:Nat)(a0:lM):OA:=
 (iter (σ:=(Int×(Int×(lM×(lM×Unit))))) N (fun c a=>let b:=(ix a.2.2.2.1 a.2.1 []); (cond (ilt a.2.1 a.1) (oN (inb a.2.1 (ln a.2.2.2.1)) (oN (zdJ b) (oN (few (ln (ap a.2.2.1 [(zdF b)]))) (c (a.1,((zM .i64 a.2.1 1),((ap a.2.2.1 [(zdF b)]),(a.2.2.2.1,())))))))) (some [(aS (.sl .int) a.2.2.1)]))) ((ln a0),(0,([],(a0,())))))
def zTd:FuncId->Nat->Option Tmpl:=zq [(123,0,{n:=20,tm:=[(3,.sl 0 []),(7,.sl 1 []),(8,ti),(9,ti)],lo:=[],ro:=[(0,(.sl .int),true),(1,(.sl .int),false)]})]
theorem zSl (a0:List (List Int))(f:zhY a0=true):∃N,zGF N a0=some [aS (.sl .int) (zfn a0)]:=by
 have e:=zL.1 f;have d:=zcF e.1;refine zcq fun N c=>?_;unfold zGF oN;conv=>zeta
 refine(zbm a0 (fun i (t:lM)=>((ln a0),(i:Int),t,a0,())) _ (fun _ x a h=>bif zdJ x then (cond (few (ln (ap a [zdF x]))) (h (ap a [zdF x])) none) else none) (fun (t:lM)=>(some [(.one (.s (.sl .int) t))])) (fun i b t rec=>?_) (fun t rec=>?_) _ ([]) (c d.1)).trans ?_;{simp only [zbs b,zbe b,zbj b,zbh b d.1,cT]};{simp only [zbn,cF]};exact ziW zdJ zdF _ a0 0 [] (fun x g=>⟨by exact zbg (qU (e.2 x g) (by decide)),rfl⟩) (by simpa using d.2)
theorem zLr:vM 123 zBD:=kF1 zgS zB zy zn zTd zSl
@[simp] abbrev zjx (g:Guest):Bool:=pc (SmG g)
@[simp] abbrev zfH (g:Guest):Guest:=g
def zvZ:Run:=rF1 (dT .guest) fun b=>(zjx b,[aT .guest (zfH b)])
def zA0 (N:Nat)(a0:Guest):OA:=
 (oN (zt8 a0.Prog) (oN (zgd a0.Written) (oN (zgd a0.Live) (oN (zdJ a0.Seen) (some [(aT .guest ({a0 with Prog:=(zn1 a0.Prog),Written:=(zeS a0.Written),Live:=(zeS a0.Live),Seen:=(zdF a0.Seen)}:Guest))])))))
theorem zMe (a0:Guest)(a:zjx a0=true):∃N,zA0 N a0=some [aT .guest (zfH a0)]:=by have b:=zL.1 a;obtain⟨g,h,i,j⟩:=b;have c:a0.Prog.length<=2147483648:=(by omega);have d:a0.Written.length<=2147483648:=(by omega);have e:a0.Live.length<=2147483648:=(by omega);have f:a0.Seen.length<=2147483648:=(by omega);refine⟨0,?_⟩;unfold zA0 oN;refine mu (mu (mu (mu ?_)));first|rfl|(simp only [*,zfH,cT,cF]<;>rfl)|simp_all[Ty.cells,zfH]
theorem zFL:vM 178 zvZ:=kF1 zgS zB zy zn (zq []) zMe
def zfi (t:List Slot)(p n:Int):Bool:=bif ieq (zbz t p).Page (-1) then false else (cond (enough (zbz t p).Rights n) (win n 1 3) false)
def zcC (t:List Slot)(p n:Int):Int:=bif zfi t p n then (zbz t p).Page else -1
theorem z6Q {r:Int}(h:zcY r=true):0<=r/\r<=3:=zfC.1 h
theorem z0H {a n:Int}(h:enough a n=true):win n 1 3 = !ieq n 0:=by unfold enough at h;cases b:zcY a;{rw [b]at h;cases h};{cases c:zcY n;{rw [b,c]at h;cases h};{have:=z6Q c;have e:(win n 1 3=true)↔(!ieq n 0)=true:=(by rw[zfC];simp[ieq];omega);cases d:win n 1 3<;>cases f:(!ieq n 0)<;>simp_all}}
@[simp] abbrev zsB (t:List Slot)(p n:Int):Bool:=true
@[simp] abbrev zjE (t:List Slot)(p n:Int):Int:=zcC t p n
@[simp] abbrev zjF (t:List Slot)(p n:Int):Bool:=zfi t p n
def zwg:Run:=rF3 (dS .slot) dI dI fun b c d=>(zsB b c d,[aI (zjE b c d),aB (zjF b c d)])
def zBi (N:Nat)(a0:lS)(c b:Int):OA:=
 let a:=(zg0 a0 c); (oN (zjg a0 c) (cond (ieq a.Page (-1)) (some [(aI (-1)),(aB false)]) (oN (zgn a.Rights b) (cond (nB (zgZ a.Rights b)) (some [(aI (-1)),(aB false)]) (cond (ieq b 0) (some [(aI (-1)),(aB false)]) (some [(aI a.Page),(aB true)]))))))
theorem zMx (a0:List Slot)(a b:Int)(c:zsB a0 a b=true):∃N,zBi N a0 a b=some [aI (zjE a0 a b),aB (zjF a0 a b)]:=by
 have d:=@z0H (zbz a0 a).Rights b;refine⟨0,?_⟩;unfold zBi oN nB;conv=>zeta
 refine must rfl (br (fun _=>?_) (fun _=>must rfl (brN (fun _=>?_) (fun _=>br (fun _=>?_) (fun _=>?_)))));all_goals first|rfl|(simp only [*,zjE,zjF,zcC,zfi,cT,cF]<;>rfl)|simp_all[Ty.cells,zjE,zjF,zcC,zfi]
theorem zF2:vM 306 zwg:=kF3 zgS zB zy zn (zq []) zMx
def z8u:zW:=[(123,zBD),(178,zvZ),(306,zwg),(86,zHL),(170,zHE),(224,zEv),(311,zEf),(225,zHI),(312,zHC),(114,zEA)]++z8t
theorem zmO:zK z8u:=zi zLr (zi zFL (zi zF2 (zi zR4 (zi zRW (zi zOs (zi zOc (zi zR1 (zi zRU (zi zOx zgS)))))))))
@[simp] abbrev ziE (m:List (List Int))(p c v:Int):Bool:=pc (SmM m)
@[simp] abbrev zjh (m:List (List Int))(p c v:Int):List (List Int):=zbK m p c v
def zy2:Run:=rF4 (dS (.sl .int)) dI dI dI fun b c d e=>(ziE b c d e,[aS (.sl .int) (zjh b c d e)])
def zC0 (N:Nat)(a0:lM)(a c d:Int):OA:=
 let b:=(zeh a0); (oN (zfL a0) (oN (ztj a0 a c) (cond (zqb a0 a c) (oN (zN d 0 99) (cond (zT d 0 99) (oN (inb a (ln b)) (oN (inb c (ln (ix b a []))) (share (up b a (up (ix b a []) c d)) (fun e=>(some [(aS (.sl .int) e)]))))) (some [(aS (.sl .int) b)]))) (some [(aS (.sl .int) b)]))))
theorem zPp (a0:List (List Int))(a b c:Int)(d:ziE a0 a b c=true):∃N,zC0 N a0 a b c=some [aS (.sl .int) (zjh a0 a b c)]:=by
 have f:=zL.1 d;have e:=(zAm a0 a b).1;refine⟨0,?_⟩;unfold zC0 oN;conv=>zeta
 refine mu (must rfl (br (fun _=>must rfl (br (fun _=>mu (mu (shr ?_))) (fun _=>?_))) (fun _=>?_)));all_goals first|rfl|(simp only [*,zjh,zbK,cT,cF]<;>rfl)|simp_all[Ty.cells,zjh,zbK]
theorem zI6:vM 251 zy2:=kF4 zmO zB zy zn (zq []) zPp
def zic (g:Guest):Bool:=bif canRun g then (cond g.Ctl.Open (ige (zdK g.Pending) 0) false) else false
@[simp] abbrev zoM (g:Guest):Bool:=true
@[simp] abbrev zlB (g:Guest):Bool:=zic g
def zy1:Run:=rF1 (dT .guest) fun b=>(zoM b,[aB (zlB b)])
def zCZ (N:Nat)(a0:Guest):OA:=
 (oN (zs9 a0) (cond (zp2 a0) (cond a0.Ctl.Open (oN (zth a0.Pending) (some [(aB (ige (zm7 a0.Pending) 0))])) oF) oF))
theorem zPo (a0:Guest)(a:zoM a0=true):∃N,zCZ N a0=some [aB (zlB a0)]:=by refine⟨0,?_⟩;unfold zCZ oN;refine must rfl (br (fun _=>br (fun _=>must rfl ?_) (fun _=>?_)) (fun _=>?_));all_goals first|rfl|(simp only [*,zlB,zic,cT,cF]<;>rfl)|simp_all[Ty.cells,zlB,zic]
theorem zI5:vM 44 zy1:=kF1 zmO zB zy zn (zq []) zPo
def zjR (p:Int):Int:=bif ilt (zdK p) 0 then p else wsub .i64 p (zpj .i64 1 (zdK p))
def zua (p:Int):Int:=bif ilt (zdK p) 0 then -1 else zdK p
theorem z5a {p:Int}(h:ilt (zdK p) 0=false):wcv .u64 (zdK p)=zdK p/\ile 0 (zdK p)=true/\zNK .i64 p (zpj .i64 1 (zdK p))=wsub .i64 p (zpj .i64 1 (zdK p)):=by unfold zdK at *;cases a:zc3 p;{rw [a]at h;cases h};{simp only [a,cT]at h ⊢;obtain⟨c,d⟩:=zfC.1 a;have r:=z4c (P:=fun x=>-1<=scan x/\scan x<=7/\(0<=scan x->wsub .i64 x (zpj .i64 1 (scan x))=zNK .i64 x (zpj .i64 1 (scan x)))) z6Z c d;have b:0<=scan p:=(by unfold ilt at h;have:=jW h;omega);exact⟨zZ8 b (by omega),qJ b,(r.2.2 b).symm⟩}
@[simp] abbrev zq4 (p:Int):Bool:=true
@[simp] abbrev zj2 (p:Int):Int:=zjR p
@[simp] abbrev zj3 (p:Int):Int:=zua p
@[simp] abbrev zmk (p:Int):Bool:=!ilt (zdK p) 0
def zBW:Run:=rF1 dI fun b=>(zq4 b,[aI (zj2 b),aI (zj3 b),aB (zmk b)])
def zG5 (N:Nat)(a0:Int):OA:=
 (oN (zth a0) (cond (ilt (zm7 a0) 0) (some [(aI a0),(aI (-1)),(aB false)]) (oN (ile 0 (wcv .u64 (zm7 a0))) (some [(aI (wsub .i64 a0 (zpj .i64 1 (wcv .u64 (zm7 a0))))),(aI (zm7 a0)),(aB true)]))))
theorem zSM (a0:Int)(a:zq4 a0=true):∃N,zG5 N a0=some [aI (zj2 a0),aI (zj3 a0),aB (zmk a0)]:=by have b:=@z5a a0;refine⟨0,?_⟩;unfold zG5 oN;refine must rfl (br (fun _=>?_) (fun _=>mu ?_));all_goals first|rfl|(simp only [*,zj2,zj3,zmk,zjR,zua,cT,cF]<;>rfl)|simp_all[Ty.cells,zj2,zj3,zmk,zjR,zua]
theorem zLK:vM 287 zBW:=kF1 zmO zB zy zn (zq []) zSM
def saw (g:Guest)(n:Int):Guest:=bif ilt (ln g.Seen) 40 then {g with Seen:=ap g.Seen [n]} else g
@[simp] theorem zPT {g:Guest}(n:Int)(h:SmG g):SmG (saw g n):=by unfold saw;cases a:ilt (ln g.Seen) 40;{exact h};{have:=qE a;refine⟨h.1,h.2.1,h.2.2.1,?_⟩;simp[ln] at *;omega}
@[simp] abbrev zFB (g:Guest)(n:Int):Bool:=pc (SmG g)
@[simp] abbrev zAD (g:Guest)(n:Int):Guest:=saw g n
def zRD:Run:=rF2 (dT .guest) dI fun b c=>(zFB b c,[aT .guest (zAD b c)])
def zZa (N:Nat)(a0:Guest)(a:Int):OA:=
 (oN (zdj a0) (cond (ilt (ln (zc2 a0).Seen) 40) (oN (few (ln (ap (zc2 a0).Seen [a]))) (some [(aT .guest ({ (zc2 a0) with Seen:=(ap (zc2 a0).Seen [a])}:Guest))])) (some [(aT .guest (zc2 a0))])))
theorem z3O (a0:Guest)(a:Int)(b:zFB a0 a=true):∃N,zZa N a0 a=some [aT .guest (zAD a0 a)]:=by have c:=zL.1 b;have d:a0.Seen.length<=1048576:=c.2.2.2;refine⟨0,?_⟩;unfold zZa oN;refine mu (br (fun _=>mu ?_) (fun _=>?_));all_goals first|rfl|(simp only [*,zAD,saw,cT,cF]<;>rfl)|simp_all[Ty.cells,zAD,saw]
theorem zXW:vM 288 zRD:=kF2 zmO zB zy zn (zq []) z3O
def stopped (g:Guest)(e:GExit):Guest:={g with Exit:=e}
@[simp] theorem zbca {g:Guest}(e:GExit)(h:SmG g):SmG (stopped g e):=h
@[simp] abbrev zd0 (g:Guest)(e:GExit):Bool:=pc (SmG g)
@[simp] abbrev zdB (g:Guest)(e:GExit):Guest:=stopped g e
def zBU:Run:=rF2 (dT .guest) dE fun b c=>(zd0 b c,[aT .guest (zdB b c)])
def zG3 (N:Nat)(a0:Guest)(a:GExit):OA:=
 (oN (zdj a0) (some [(aT .guest ({ (zc2 a0) with Exit:=a}:Guest))]))
theorem zSK (a0:Guest)(a:GExit)(b:zd0 a0 a=true):∃N,zG3 N a0 a=some [aT .guest (zdB a0 a)]:=by have c:=zL.1 b;refine⟨0,?_⟩;unfold zG3 oN;refine mu ?_;first|rfl|(simp only [*,zdB,stopped,cT,cF]<;>rfl)|simp_all[Ty.cells,zdB,stopped]
theorem zLI:vM 292 zBU:=kF2 zmO zB zy zn (zq []) zSK
def zcb (g:Guest):Guest:=bif ige g.Pc 12 then {g with Pc:=12} else {g with Pc:=zM .i64 g.Pc 1}
@[simp] theorem zkZ {g:Guest}(h:SmG g):SmG (zcb g):=by unfold zcb;cases ige g.Pc 12<;>exact h
@[simp] abbrev zdV (g:Guest):Bool:=pc (SmG g)
@[simp] abbrev zf5 (g:Guest):Guest:=zcb g
def zHN:Run:=rF1 (dT .guest) fun b=>(zdV b,[aT .guest (zf5 b)])
def zQB (N:Nat)(a0:Guest):OA:=
 (oN (zdj a0) (cond (ige (zc2 a0).Pc 12) (some [(aT .guest ({ (zc2 a0) with Pc:=12}:Guest))]) (some [(aT .guest ({ (zc2 a0) with Pc:=(zM .i64 (zc2 a0).Pc 1)}:Guest))])))
theorem zYd (a0:Guest)(a:zdV a0=true):∃N,zQB N a0=some [aT .guest (zf5 a0)]:=by have b:=zL.1 a;refine⟨0,?_⟩;unfold zQB oN;refine mu (br (fun _=>?_) (fun _=>?_));all_goals first|rfl|(simp only [*,zf5,zcb,cT,cF]<;>rfl)|simp_all[Ty.cells,zf5,zcb]
theorem zR6:vM 289 zHN:=kF1 zmO zB zy zn (zq []) zYd
def z8v:zW:=[(251,zy2),(44,zy1),(287,zBW),(288,zRD),(292,zBU),(289,zHN)]++z8u
theorem ziY:zK z8v:=zi zI6 (zi zI5 (zi zLK (zi zXW (zi zLI (zi zR6 zmO)))))
def interrupted (g:Guest):Guest:=bif zic g then saw {g with Pending:=zjR g.Pending} (zM .i64 100 (zua g.Pending)) else g
@[simp] theorem zZU {g:Guest}(h:SmG g):SmG (interrupted g):=by unfold interrupted;cases zic g;{exact h};{exact zPT (g:={g with Pending:=zjR g.Pending}) _ h}
@[simp] abbrev zoE (g:Guest):Bool:=pc (SmG g)
@[simp] abbrev zjC (g:Guest):Guest:=interrupted g
def zsQ:Run:=rF1 (dT .guest) fun b=>(zoE b,[aT .guest (zjC b)])
def zvf (N:Nat)(a0:Guest):OA:=
 let b:=(zM .i64 100 (zj3 a0.Pending));let a:=({a0 with Pending:=(zj2 a0.Pending)}:Guest); (oN (zoM a0) (cond (nB (zlB a0)) (oN (zdj a0) (some [(aT .guest (zc2 a0))])) (oN (zq4 a0.Pending) (oN (zFB a b) (some [(aT .guest (zAD a b))])))))
theorem zGq (a0:Guest)(a:zoE a0=true):∃N,zvf N a0=some [aT .guest (zjC a0)]:=by
 have b:=zL.1 a;have c:_/\_/\_/\_:=b;refine⟨0,?_⟩;unfold zvf oN nB;conv=>zeta
 refine must rfl (brN (fun _=>mu ?_) (fun _=>must rfl (mu ?_)));all_goals first|rfl|(simp only [*,zjC,interrupted,cT,cF]<;>rfl)|simp_all[Ty.cells,zjC,interrupted]
theorem zCq:vM 235 zsQ:=kF1 ziY zB zy zn (zq []) zGq
def zyo (o:Int):Int:=bif ieq o 3 then 3 else (cond (ieq o 4) 4 (cond (ieq o 5) 5 (cond (ieq o 6) 6 (cond (ieq o 7) 7 2))))
def zbc (g:Guest):Int:=bif canRun g then (cond (zic g) 1 (zyo (zcs g.Prog g.Pc).Op)) else 0
@[simp] abbrev zex (g:Guest):Bool:=true
@[simp] abbrev zm8 (g:Guest):Int:=zbc g
def zEC:Run:=rF1 (dT .guest) fun b=>(zex b,[aI (zm8 b)])
def zKI (N:Nat)(a0:Guest):OA:=
 let a:=(zfz a0.Prog a0.Pc).Op; (oN (zs9 a0) (cond (nB (zp2 a0)) (some [(aI 0)]) (oN (zoM a0) (cond (zlB a0) (some [(aI 1)]) (oN (zfp a0.Prog a0.Pc) (cond (ieq a 3) (some [(aI 3)]) (cond (ieq a 4) (some [(aI 4)]) (cond (ieq a 5) (some [(aI 5)]) (cond (ieq a 6) (some [(aI 6)]) (cond (ieq a 7) (some [(aI 7)]) (some [(aI 2)])))))))))))
theorem zVJ (a0:Guest)(a:zex a0=true):∃N,zKI N a0=some [aI (zm8 a0)]:=by
 refine⟨0,?_⟩;unfold zKI oN nB;conv=>zeta
 refine must rfl (brN (fun _=>?_) (fun _=>must rfl (br (fun _=>?_) (fun _=>must rfl (br (fun _=>?_) (fun _=>br (fun _=>?_) (fun _=>br (fun _=>?_) (fun _=>br (fun _=>?_) (fun _=>br (fun _=>?_) (fun _=>?_))))))))));all_goals first|rfl|(simp only [*,zm8,zbc,zyo,cT,cF]<;>rfl)|simp_all[Ty.cells,zm8,zbc,zyo]
theorem zck:vM 234 zEC:=kF1 ziY zB zy zn (zq []) zVJ
def held (g:Guest):Guest:=zcb {g with Halted:=true}
@[simp] theorem zWQ {g:Guest}(h:SmG g):SmG (held g):=zkZ (g:={g with Halted:=true}) h
@[simp] abbrev zm3 (g:Guest):Bool:=pc (SmG g)
@[simp] abbrev zy8 (g:Guest):Guest:=held g
def zMZ:Run:=rF1 (dT .guest) fun b=>(zm3 b,[aT .guest (zy8 b)])
def zTL (N:Nat)(a0:Guest):OA:=
 let a:=({a0 with Halted:=true}:Guest); (oN (zdV a) (some [(aT .guest (zf5 a))]))
theorem z1f (a0:Guest)(a:zm3 a0=true):∃N,zTL N a0=some [aT .guest (zy8 a0)]:=by
 have b:=zL.1 a;have c:_/\_/\_/\_:=b;refine⟨0,?_⟩;unfold zTL oN;conv=>zeta
 refine mu ?_;first|rfl|(simp only [*,zy8,held,cT,cF]<;>rfl)|simp_all[Ty.cells,zy8,held]
theorem zUT:vM 301 zMZ:=kF1 ziY zB zy zn (zq []) z1f
@[simp] abbrev zAE (g:Guest):Bool:=pc (SmG g)
@[simp] abbrev zuQ (g:Guest):Guest:=zcb g
def zEz:Run:=rF1 (dT .guest) fun b=>(zAE b,[aT .guest (zuQ b)])
def zKF (N:Nat)(a0:Guest):OA:=
 (oN (zdV a0) (some [(aT .guest (zf5 a0))]))
theorem zVG (a0:Guest)(a:zAE a0=true):∃N,zKF N a0=some [aT .guest (zuQ a0)]:=by have b:=zL.1 a;refine⟨0,?_⟩;unfold zKF oN;refine mu ?_;first|rfl|(simp only [*,zuQ,cT,cF]<;>rfl)|simp_all[Ty.cells,zuQ]
theorem zOw:vM 294 zEz:=kF1 ziY zB zy zn (zq []) zVG
def loaded (g:Guest)(v:Int):Guest:=zcb (saw {g with A:=v} v)
@[simp] theorem zNh {g:Guest}(v:Int)(h:SmG g):SmG (loaded g v):=zkZ (zPT (g:={g with A:=v}) v h)
@[simp] abbrev zAz (g:Guest)(v:Int):Bool:=pc (SmG g)
@[simp] abbrev zuM (g:Guest)(v:Int):Guest:=loaded g v
def zEp:Run:=rF2 (dT .guest) dI fun b c=>(zAz b c,[aT .guest (zuM b c)])
def zKs (N:Nat)(a0:Guest)(a:Int):OA:=
 let b:=({a0 with A:=a}:Guest); (oN (zFB b a) (oN (zdV (zAD b a)) (some [(aT .guest (zf5 (zAD b a)))])))
theorem zVs (a0:Guest)(a:Int)(c:zAz a0 a=true):∃N,zKs N a0 a=some [aT .guest (zuM a0 a)]:=by
 have b:=zL.1 c;have e:_/\_/\_/\_:=b;have d:SmG (saw {a0 with A:=a} a):=zPT (g:={a0 with A:=a}) a b;refine⟨0,?_⟩;unfold zKs oN;conv=>zeta
 refine mu (mu ?_);first|rfl|(simp only [*,zuM,loaded,cT,cF]<;>rfl)|simp_all[Ty.cells,zuM,loaded]
theorem zOm:vM 295 zEp:=kF2 ziY zB zy zn (zq []) zVs
def zZ5 (g:Guest)(w:Int):Guest:=bif ieq w 5 then stopped g (zyp (zcs g.Prog g.Pc).X) else stopped g ⟨4,0,false,0⟩
@[simp] theorem zbcb {g:Guest}(w:Int)(h:SmG g):SmG (zZ5 g w):=by unfold zZ5;cases ieq w 5<;>exact h
def zde (g:Guest):Bool:=zc4 g.Prog&&(win g.A 0 99&&(win g.Pc 0 12&&(zcS g.Written 4 8&&(zcS g.Live 4 8&&(zg7 g.Ctl&&(zc3 g.Pending&&(zgU g.Exit&&ile (ln g.Seen) 40)))))))
@[simp] abbrev zmd (g:Guest):Bool:=true
@[simp] abbrev zkN (g:Guest):Bool:=zde g
def zBI:Run:=rF1 (dT .guest) fun b=>(zmd b,[aB (zkN b)])
def zGO (N:Nat)(a0:Guest):OA:=
 (oN (zAC a0.Prog) (cond (zm5 a0.Prog) (oN (zN a0.A 0 99) (cond (zT a0.A 0 99) (oN (zN a0.Pc 0 12) (cond (zT a0.Pc 0 12) (oN (zmj a0.Written 4 8) (cond (zhL a0.Written 4 8) (oN (zmj a0.Live 4 8) (cond (zhL a0.Live 4 8) (oN (zrP a0.Ctl) (cond (zp4 a0.Ctl) (oN (zfe a0.Pending) (cond (zfd a0.Pending) (oN (zAx a0.Exit) (cond (zuE a0.Exit) (some [(aB (ile (ln a0.Seen) 40))]) oF)) oF)) oF)) oF)) oF)) oF)) oF)) oF))
theorem zSu (a0:Guest)(a:zmd a0=true):∃N,zGO N a0=some [aB (zkN a0)]:=by refine⟨0,?_⟩;unfold zGO oN;refine must rfl (br (fun _=>must rfl (br (fun _=>must rfl (br (fun _=>must rfl (br (fun _=>must rfl (br (fun _=>must rfl (br (fun _=>must rfl (br (fun _=>must rfl (br (fun _=>?_) (fun _=>?_))) (fun _=>?_))) (fun _=>?_))) (fun _=>?_))) (fun _=>?_))) (fun _=>?_))) (fun _=>?_))) (fun _=>?_));all_goals first|rfl|(simp only [*,zkN,zde,cT,cF]<;>rfl)|simp_all[Ty.cells,zkN,zde]
theorem zLw:vM 149 zBI:=kF1 ziY zB zy zn (zq []) zSu
@[simp] abbrev zqx (g:Guest):Bool:=true
@[simp] abbrev znl (g:Guest):Bool:=zde g
def zBB:Run:=rF1 (dT .guest) fun b=>(zqx b,[aB (znl b)])
def zGC (N:Nat)(a0:Guest):OA:=
 (oN (zz8 a0.Prog) (cond (zmU a0.Prog) (oN (zcm a0.A 0 99) (cond (zcH a0.A 0 99) (oN (zcm a0.Pc 0 12) (cond (zcH a0.Pc 0 12) (oN (zlX a0.Written 4 8) (cond (zhz a0.Written 4 8) (oN (zlX a0.Live 4 8) (cond (zhz a0.Live 4 8) (oN (zDG a0.Ctl) (cond (zye a0.Ctl) (oN (zsX a0.Pending) (cond (zpJ a0.Pending) (oN (zz4 a0.Exit) (cond (zt5 a0.Exit) (some [(aB (ile (ln a0.Seen) 40))]) oF)) oF)) oF)) oF)) oF)) oF)) oF)) oF))
theorem zSi (a0:Guest)(a:zqx a0=true):∃N,zGC N a0=some [aB (znl a0)]:=by refine⟨0,?_⟩;unfold zGC oN;refine must rfl (br (fun _=>must rfl (br (fun _=>must rfl (br (fun _=>must rfl (br (fun _=>must rfl (br (fun _=>must rfl (br (fun _=>must rfl (br (fun _=>must rfl (br (fun _=>?_) (fun _=>?_))) (fun _=>?_))) (fun _=>?_))) (fun _=>?_))) (fun _=>?_))) (fun _=>?_))) (fun _=>?_))) (fun _=>?_));all_goals first|rfl|(simp only [*,znl,zde,cT,cF]<;>rfl)|simp_all[Ty.cells,znl,zde]
theorem zLp:vM 260 zBB:=kF1 ziY zB zy zn (zq []) zSi
@[simp] abbrev zlb (l:List Guest):Bool:=pc (zkh l)
@[simp] abbrev zkv (l:List Guest):List Guest:=l
def zup:Run:=rF1 (dS .guest) fun b=>(zlb b,[aS .guest (zkv b)])
def zxI (N:Nat)(a0:lG):OA:=
 (iter (σ:=(Int×(Int×(lG×(lG×Unit))))) N (fun c a=>let b:=(ix a.2.2.2.1 a.2.1 zC); (cond (ilt a.2.1 a.1) (oN (inb a.2.1 (ln a.2.2.2.1)) (oN (zjx b) (oN (few (ln (ap a.2.2.1 [(zfH b)]))) (c (a.1,((zM .i64 a.2.1 1),((ap a.2.2.1 [(zfH b)]),(a.2.2.2.1,())))))))) (some [(aS .guest a.2.2.1)]))) ((ln a0),(0,([],(a0,())))))
def zJY:FuncId->Nat->Option Tmpl:=zq [(201,0,{n:=20,tm:=[(3,.sl 0 []),(7,.sl 1 []),(8,ti),(9,ti)],lo:=[],ro:=[(0,.guest,true),(1,.guest,false)]})]
theorem zJl (a0:List Guest)(f:zlb a0=true):∃N,zxI N a0=some [aS .guest (zkv a0)]:=by
 have e:=zL.1 f;have d:=zcF e.1;refine zcq fun N c=>?_;unfold zxI oN;conv=>zeta
 refine(zbm a0 (fun i (t:lG)=>((ln a0),(i:Int),t,a0,())) _ (fun _ x a h=>bif zjx x then (cond (few (ln (ap a [zfH x]))) (h (ap a [zfH x])) none) else none) (fun (t:lG)=>(some [(.one (.s .guest t))])) (fun i b t rec=>?_) (fun t rec=>?_) _ ([]) (c d.1)).trans ?_;{simp only [zbs b,zbe b,zbj b,zbh b d.1,cT]};{simp only [zbn,cF]};exact ziW zjx zfH _ a0 0 [] (fun x g=>⟨by exact zbg (e.2 x g),rfl⟩) (by simpa using d.2)
theorem zDw:vM 201 zup:=kF1 ziY zB zy zn zJY zJl
def gAt (b:Bare)(i:Int):Guest:=bif hasB i (ln b.Guests) then ix b.Guests i zC else Ty.dflt .guest
@[simp] theorem zjN {b:Bare}(i:Int)(h:SmB b):SmG (gAt b i):=by unfold gAt;cases a:hasB i (ln b.Guests);{exact zbcy};{exact z4O h.2.1 a _}
def z8w:zW:=[(235,zsQ),(234,zEC),(301,zMZ),(294,zEz),(295,zEp),(149,zBI),(260,zBB),(201,zup)]++z8v
theorem zpz:zK z8w:=zi zCq (zi zck (zi zUT (zi zOw (zi zOm (zi zLw (zi zLp (zi zDw ziY)))))))
def plainly (g:Guest):Guest:=bif ine (zbc g) 2 then g else (cond (win g.A 0 99) (cond (win (zcs g.Prog g.Pc).X 0 99) (cond (ieq (zcs g.Prog g.Pc).Op 1) {zcb g with A:=(zcs g.Prog g.Pc).X} (cond (ieq (zcs g.Prog g.Pc).Op 2) {zcb g with A:=zqi (zM .i64 g.A (zcs g.Prog g.Pc).X) 100} (cond (ieq (zcs g.Prog g.Pc).Op 8) (cond (ieq g.A 0) {zcb g with Pc:=(zcs g.Prog g.Pc).X} (zcb g)) (zcb g)))) (zcb g)) (zcb g))
@[simp] theorem zbcr (g:Guest):(zcb g).Prog=g.Prog:=by unfold zcb;cases ige g.Pc 12<;>rfl
@[simp] theorem zbcZ (g:Guest):(zcb g).A=g.A:=by unfold zcb;cases ige g.Pc 12<;>rfl
@[simp] theorem zbbc (g:Guest):(zcb g).Written=g.Written:=by unfold zcb;cases ige g.Pc 12<;>rfl
@[simp] theorem zbcq (g:Guest):(zcb g).Live=g.Live:=by unfold zcb;cases ige g.Pc 12<;>rfl
@[simp] theorem zbcH (g:Guest):(zcb g).Ctl=g.Ctl:=by unfold zcb;cases ige g.Pc 12<;>rfl
@[simp] theorem zbbb (g:Guest):(zcb g).Pending=g.Pending:=by unfold zcb;cases ige g.Pc 12<;>rfl
@[simp] theorem zbcp (g:Guest):(zcb g).Exit=g.Exit:=by unfold zcb;cases ige g.Pc 12<;>rfl
@[simp] theorem zbbR (g:Guest):(zcb g).Halted=g.Halted:=by unfold zcb;cases ige g.Pc 12<;>rfl
@[simp] theorem zbcs (g:Guest):(zcb g).Seen=g.Seen:=by unfold zcb;cases ige g.Pc 12<;>rfl
@[simp] theorem zbcI (g:Guest)(x:Int):(zcb {g with A:=x}).Pc=(zcb g).Pc:=by unfold zcb;cases ige g.Pc 12<;>rfl
@[simp] theorem zH3 {g:Guest}(h:SmG g):SmG (plainly g):=by have a:=zkZ h;unfold plainly;cases ine (zbc g) 2;{cases win g.A 0 99;{exact a};{cases win (zcs g.Prog g.Pc).X 0 99;{exact a};{cases ieq (zcs g.Prog g.Pc).Op 1;{cases ieq (zcs g.Prog g.Pc).Op 2;{cases ieq (zcs g.Prog g.Pc).Op 8;{exact a};{cases ieq g.A 0<;>exact a}};{exact a}};{exact a}}}};{exact h}
@[simp] abbrev zxt (g:Guest):Bool:=pc (SmG g)
@[simp] abbrev zrV (g:Guest):Guest:=plainly g
def zBR:Run:=rF1 (dT .guest) fun b=>(zxt b,[aT .guest (zrV b)])
def zG0 (N:Nat)(a0:Guest):OA:=
 let h:=(ieq a0.A 0);let b:=(zdV a0);let a:=(aT .guest (zf5 a0));let c:=(zfz a0.Prog a0.Pc);let i:=({a0 with A:=c.X}:Guest);let g:=(ieq c.Op 8);let d:=(zT c.X 0 99);let f:=(aT .guest ({ (zc2 a0) with Pc:=c.X}:Guest));let e:=({a0 with A:=(zqi (zM .i64 a0.A c.X) 100)}:Guest); (oN (zex a0) (cond (ine (zm8 a0) 2) (oN (zdj a0) (some [(aT .guest (zc2 a0))])) (oN (zfp a0.Prog a0.Pc) (oN (zN a0.A 0 99) (cond (zT a0.A 0 99) (oN (zN c.X 0 99) (cond d (cond (ieq c.Op 1) (oN (zdV i) (some [(aT .guest (zf5 i))])) (cond d (cond (ieq c.Op 2) (oN (ine 100 0) (oN (zdV e) (some [(aT .guest (zf5 e))]))) (cond d (cond g (cond h (oN (zdj a0) (some [f])) (oN b (some [a]))) (oN b (some [a]))) (oN b (some [a])))) (cond d (cond g (cond h (oN (zdj a0) (some [f])) (oN b (some [a]))) (oN b (some [a]))) (oN b (some [a]))))) (cond d (cond (ieq c.Op 2) (oN (ine 100 0) (oN (zdV e) (some [(aT .guest (zf5 e))]))) (cond d (cond g (cond h (oN (zdj a0) (some [f])) (oN b (some [a]))) (oN b (some [a]))) (oN b (some [a])))) (cond d (cond g (cond h (oN (zdj a0) (some [f])) (oN b (some [a]))) (oN b (some [a]))) (oN b (some [a])))))) (oN b (some [a])))))))
theorem zSH (a0:Guest)(a:zxt a0=true):∃N,zG0 N a0=some [aT .guest (zrV a0)]:=by
 have b:=zL.1 a;have c:_/\_/\_/\_:=b;refine⟨0,?_⟩;unfold zG0 oN;conv=>zeta
 refine must rfl (br (fun _=>mu ?_) (fun _=>must rfl (must rfl (br (fun _=>must rfl (br (fun _=>br (fun _=>mu ?_) (fun _=>br (fun _=>br (fun _=>must rfl (mu ?_)) (fun _=>br (fun _=>br (fun _=>br (fun _=>mu ?_) (fun _=>mu ?_)) (fun _=>mu ?_)) (fun _=>mu ?_))) (fun _=>br (fun _=>br (fun _=>br (fun _=>mu ?_) (fun _=>mu ?_)) (fun _=>mu ?_)) (fun _=>mu ?_)))) (fun _=>br (fun _=>br (fun _=>must rfl (mu ?_)) (fun _=>br (fun _=>br (fun _=>br (fun _=>mu ?_) (fun _=>mu ?_)) (fun _=>mu ?_)) (fun _=>mu ?_))) (fun _=>br (fun _=>br (fun _=>br (fun _=>mu ?_) (fun _=>mu ?_)) (fun _=>mu ?_)) (fun _=>mu ?_))))) (fun _=>mu ?_)))));all_goals first|rfl|(simp only [*,zrV,plainly,cT,cF]<;>rfl)|simp_all[Ty.cells,zrV,plainly]
theorem zLF:vM 236 zBR:=kF1 zpz zB zy zn (zq []) zSH
def address (g:Guest):Int:=bif ine (zbc g) 3 then (cond (ine (zbc g) 4) (-1) ((zcs g.Prog g.Pc).X)) else (zcs g.Prog g.Pc).X
@[simp] abbrev zqI (g:Guest):Bool:=true
@[simp] abbrev ziQ (g:Guest):Int:=address g
def zBH:Run:=rF1 (dT .guest) fun b=>(zqI b,[aI (ziQ b)])
def zGJ (N:Nat)(a0:Guest):OA:=
 (oN (zex a0) (cond (ine (zm8 a0) 3) (cond (ine (zm8 a0) 4) (some [(aI (-1))]) (oN (zfp a0.Prog a0.Pc) (some [(aI (zfz a0.Prog a0.Pc).X)]))) (oN (zfp a0.Prog a0.Pc) (some [(aI (zfz a0.Prog a0.Pc).X)]))))
theorem zSp (a0:Guest)(a:zqI a0=true):∃N,zGJ N a0=some [aI (ziQ a0)]:=by refine⟨0,?_⟩;unfold zGJ oN;refine must rfl (br (fun _=>br (fun _=>?_) (fun _=>must rfl ?_)) (fun _=>must rfl ?_));all_goals first|rfl|(simp only [*,ziQ,address,cT,cF]<;>rfl)|simp_all[Ty.cells,ziQ,address]
theorem zLv:vM 290 zBH:=kF1 zpz zB zy zn (zq []) zSp
def zju (g:Guest)(t w:Int):Guest:=bif ieq w 6 then stopped g (zzF (zcs g.Prog g.Pc).X) else (cond (ieq w 5&&zgI t 1) (stopped g (zyp (zcs g.Prog g.Pc).X)) (cond (ieq w 7&&zgI t 2) (stopped g ⟨4,0,false,0⟩) (cond (ieq w 7) (held g) (zcb g))))
def zkf (t w:Int):Bool:=bif ieq w 6 then false else (cond (ieq w 5&&zgI t 1) false (cond (ieq w 7&&zgI t 2) false true))
@[simp] theorem zEV {g:Guest}(t w:Int)(h:SmG g):SmG (zju g t w):=by unfold zju;cases ieq w 6;{cases (ieq w 5&&zgI t 1);{cases (ieq w 7&&zgI t 2);{cases ieq w 7;{exact zkZ h};{exact zWQ h}};{exact h}};{exact h}};{exact h}
@[simp] abbrev zdM (g:Guest)(t w:Int):Bool:=pc (SmG g)
@[simp] abbrev zch (g:Guest)(t w:Int):Guest:=zju g t w
@[simp] abbrev zdk (g:Guest)(t w:Int):Bool:=zkf t w
def zB1:Run:=rF3 (dT .guest) dI dI fun b c d=>(zdM b c d,[aT .guest (zch b c d),aB (zdk b c d)])
def zHb (N:Nat)(a0:Guest)(b a:Int):OA:=
 let f:=(aT .guest (zf5 a0));let e:=(aT .guest (zy8 a0));let d:=(⟨4,0,false,0⟩:GExit);let c:=(zfz a0.Prog a0.Pc).X; (oN (zfp a0.Prog a0.Pc) (cond (ieq a 6) (oN (zov c) (oN (zd0 a0 (ze9 c)) (some [(aT .guest (zdB a0 (ze9 c))),(aB false)]))) (cond (ieq a 5) (oN (zh4 b 1) (cond (zhJ b 1) (oN (zq0 c) (oN (zd0 a0 (zfX c)) (some [(aT .guest (zdB a0 (zfX c))),(aB false)]))) (cond (ieq a 7) (oN (zh4 b 2) (cond (zhJ b 2) (oN (zd0 a0 d) (some [(aT .guest (zdB a0 d)),(aB false)])) (cond (ieq a 7) (oN (zm3 a0) (some [e,(aB true)])) (oN (zdV a0) (some [f,(aB true)]))))) (cond (ieq a 7) (oN (zm3 a0) (some [e,(aB true)])) (oN (zdV a0) (some [f,(aB true)])))))) (cond (ieq a 7) (oN (zh4 b 2) (cond (zhJ b 2) (oN (zd0 a0 d) (some [(aT .guest (zdB a0 d)),(aB false)])) (cond (ieq a 7) (oN (zm3 a0) (some [e,(aB true)])) (oN (zdV a0) (some [f,(aB true)]))))) (cond (ieq a 7) (oN (zm3 a0) (some [e,(aB true)])) (oN (zdV a0) (some [f,(aB true)])))))))
theorem zSS (a0:Guest)(a b:Int)(c:zdM a0 a b=true):∃N,zHb N a0 a b=some [aT .guest (zch a0 a b),aB (zdk a0 a b)]:=by
 have d:=zL.1 c;refine⟨0,?_⟩;unfold zHb oN;conv=>zeta
 refine must rfl (br (fun _=>must rfl (mu ?_)) (fun _=>br (fun _=>must rfl (br (fun _=>must rfl (mu ?_)) (fun _=>br (fun _=>must rfl (br (fun _=>mu ?_) (fun _=>br (fun _=>mu ?_) (fun _=>mu ?_)))) (fun _=>br (fun _=>mu ?_) (fun _=>mu ?_))))) (fun _=>br (fun _=>must rfl (br (fun _=>mu ?_) (fun _=>br (fun _=>mu ?_) (fun _=>mu ?_)))) (fun _=>br (fun _=>mu ?_) (fun _=>mu ?_)))));all_goals first|rfl|(simp only [*,zch,zdk,zju,zkf,cT,cF]<;>rfl)|simp_all[Ty.cells,zch,zdk,zju,zkf]
theorem zLX:vM 297 zB1:=kF3 zpz zB zy zn (zq []) zSS
def zca (b:Bare):Bool:=bif b.Guests.all zde then (zha b.Memory 8&&(win (ln b.Guests) 1 2&&(ile (ln b.Outs) 40&&zc3 b.Pending))) else false
@[simp] abbrev zor (b:Bare):Bool:=true
@[simp] abbrev zeC (b:Bare):Bool:=zca b
def zEj:Run:=rF1 (dT .bare) fun b=>(zor b,[aB (zeC b)])
def zKk (N:Nat)(a0:Bare):OA:=
 (iter (σ:=(Int×(Int×(lM×(lG×((List Int)×Unit)))))) N (fun c a=>let b:=a.2.2.2.1; (cond (ilt a.1 (ln b)) (oN (inb a.1 (ln b)) (oN (zmd (ix b a.1 zC)) (cond (nB (zkN (ix b a.1 zC))) oF (c ((zM .i64 a.1 1),(a.2.1,(a.2.2.1,(b,(a.2.2.2.2.1,()))))))))) (oN (zrS a.2.2.1 8) (cond (zlx a.2.2.1 8) (oN (zN (ln b) 1 2) (cond (zT (ln b) 1 2) (cond (ile (ln a.2.2.2.2.1) 40) (oN (zfe a.2.1) (some [(aB (zfd a.2.1))])) oF) oF)) oF)))) (0,(a0.Pending,(a0.Memory,(a0.Guests,(a0.Outs,()))))))
def zXb:FuncId->Nat->Option Tmpl:=zq [(304,0,{n:=38,tm:=[(1,.lp 0 0),(3,ti)],lo:=[(0,[.sl 0 [],.sl 1 [],.sl 2 [],ti])],ro:=[(0,(.sl .int),false),(1,.guest,false),(2,.int,false)]})]
theorem zVj (a0:Bare)(j:zb6 big [aT .bare a0])(l:zor a0=true):∃N,zKk N a0=some [aB (zeC a0)]:=by
 have h:(_:List _).length<=big:=((zdg j).1 (.s .guest a0.Guests) (by simp[AV.cvs,Ty.cells])).len;refine zcq fun N g=>?_;unfold zKk oN nB;conv=>zeta
 refine(zbm a0.Guests (fun i (t:Unit)=>((i:Int),a0.Pending,a0.Memory,a0.Guests,a0.Outs,())) _ (fun _ x (_:Unit) k=>bif (zde) x then k () else oF) (fun (t:Unit)=>(cond (zrS a0.Memory 8) (cond (zlx a0.Memory 8) (cond (zN (ln a0.Guests) 1 2) (cond (zT (ln a0.Guests) 1 2) (cond (ile (ln a0.Outs) 40) (cond (zfe a0.Pending) (some [(.one (.b (zfd a0.Pending)))]) none) oF) oF) none) oF) none)) (fun i e t rec=>?_) (fun t rec=>?_) _ () (g h)).trans ?_;{simp only [zbs e,zbe e,zbj e,zbh e h,cT];exact ziV rfl};{simp only [zbn,cF]};rw[zgG (zde)];refine br (fun a=>?_) (fun a=>?_);{refine must rfl ?_;refine br (fun c=>?_) (fun c=>?_);{refine must rfl ?_;refine br (fun d=>?_) (fun d=>?_);{refine br (fun f=>?_) (fun f=>?_);{refine must rfl ?_;first|rfl|(simp only [a,c,d,f,zeC,zca,cT,cF]<;>rfl)|(simp_all [Ty.cells,zeC,zca];done)};{first|rfl|(simp only [a,c,d,f,zeC,zca,cT,cF]<;>rfl)|(simp_all [Ty.cells,zeC,zca];done)}};{first|rfl|(simp only [a,c,d,zeC,zca,cT,cF]<;>rfl)|(simp_all [Ty.cells,zeC,zca];done)}};{first|rfl|(simp only [a,c,zeC,zca,cT,cF]<;>rfl)|(simp_all [Ty.cells,zeC,zca];done)}};{first|rfl|(simp only [a,zeC,zca,cT,cF]<;>rfl)|(simp_all [Ty.cells,zeC,zca];done)}
theorem zOg:vM 304 zEj:=hF1 zpz zB zy zn zXb zVj
@[simp] abbrev zeX (b:Bare):Bool:=pc (SmB b)
@[simp] abbrev zcr (b:Bare):Bare:=b
def zB0:Run:=rF1 (dT .bare) fun b=>(zeX b,[aT .bare (zcr b)])
def zHa (N:Nat)(a0:Bare):OA:=
 (oN (zfL a0.Memory) (oN (zfr a0.Guests) (oN (few (ln (ap [] a0.Outs))) (some [(aT .bare (⟨(zeh a0.Memory),(zfO a0.Guests),(ap [] a0.Outs),a0.Pending⟩:Bare))]))))
theorem zSR (a0:Bare)(a:zeX a0=true):∃N,zHa N a0=some [aT .bare (zcr a0)]:=by have b:=zL.1 a;have c:_/\_/\_:=b;refine⟨0,?_⟩;unfold zHa oN;refine mu (mu (mu ?_));first|rfl|(simp only [*,zcr,cT,cF]<;>rfl)|simp_all[Ty.cells,zcr]
theorem zLW:vM 298 zB0:=kF1 zpz zB zy zn (zq []) zSR
def z8x:zW:=[(236,zBR),(290,zBH),(297,zB1),(304,zEj),(298,zB0)]++z8w
theorem z5R:zK z8x:=zi zLF (zi zLv (zi zLX (zi zOg (zi zLW zpz))))
def zd7 (b:Bare)(i:Int)(x:Guest):Bare:={b with Guests:=up b.Guests i x}
def zod (b:Bare)(n:Int):Bare:=bif ilt (ln b.Outs) 40 then {b with Outs:=ap b.Outs [n]} else b
@[simp] theorem znb {b:Bare}{i:Int}{x:Guest}(h:SmB b)(a:SmG x):SmB (zd7 b i x):=⟨h.1,zFE h.2.1 a,h.2.2⟩
@[simp] theorem z16 {b:Bare}{n:Int}(h:SmB b):SmB (zod b n):=by unfold zod;cases a:ilt (ln b.Outs) 40;{exact h};{have:=qE a;refine⟨h.1,h.2.1,?_⟩;simp[ln] at *;omega}
@[simp] theorem zbcT (b:Bare)(n:Int):(zod b n).Guests=b.Guests:=by unfold zod;cases ilt (ln b.Outs) 40<;>rfl
@[simp] theorem zAS {m:List (List Int)}{p c v:Int}(h:SmM m):SmM (zbK m p c v):=by unfold zbK;cases a:zhE m p c;{exact h};{cases b:win v 0 99;{exact h};{exact zNj h (by simpa using zbb3 h ((zAm m p c).1 a).1 [])}}
def z0t:zW:=z8x
theorem ztQ:zK z0t:=z5R
def znB (b:Bare)(g:Int)(x:Guest)(w:Bool):Bare :=
 bif zfi x.Live (zbi (address x)) (zcc w) then
  (bif w then zd7 {b with Memory:=zbK b.Memory (zcC x.Live (zbi (address x)) (zcc w)) (zdc (address x)) x.A} g (zcb x)
  else zd7 b g (loaded x (cellAt b.Memory (zcC x.Live (zbi (address x)) (zcc w)) (zdc (address x)))))
 else zd7 b g (stopped x (zrx (zbi (address x)) w))
def zFF (b:Bare)(g:Int)(x:Guest)(w:Int):Bare :=
 zd7 (cond (cond (zkf x.Ctl.Traps w) (ieq w 5) false) (zod b (zcs x.Prog x.Pc).X) b) g (zju x x.Ctl.Traps w)
def stepped (b:Bare)(g:Int)(x:Guest)(w:Int):Bare :=
 bif ieq w 1 then zd7 b g (interrupted x) else (cond (ieq w 2) (zd7 b g (plainly x)) (cond (ieq w 3) (znB b g x false) (cond (ieq w 4) (znB b g x true) (zFF b g x w))))
def zk3 (b:Bare)(g:Int):Bool:=bif hasB g (ln b.Guests) then (cond (zca b) (!ieq (zbc (gAt b g)) 0) false) else false
def zhT (b:Bare)(g:Int):Bare:=bif zk3 b g then stepped b g (gAt b g) (zbc (gAt b g)) else b
@[simp] theorem zZT {b:Bare}{g:Int}{x:Guest}{w:Bool}(h:SmB b)(a:SmG x):SmB (znB b g x w):=by unfold znB;cases zfi x.Live (zbi (address x)) (zcc w);{exact znb h a};{cases w;{exact znb h (zNh _ a)};{exact⟨zAS h.1,zFE h.2.1 (zkZ a),h.2.2⟩}}
@[simp] theorem zbaZ {b:Bare}{g:Int}{x:Guest}{w:Int}(h:SmB b)(a:SmG x):SmB (zFF b g x w):=by unfold zFF;cases (cond (zkf x.Ctl.Traps w) (ieq w 5) false);{exact znb h (zEV _ _ a)};{exact znb (z16 h) (zEV _ _ a)}
@[simp] theorem zYY {b:Bare}{g:Int}{x:Guest}{w:Int}(h:SmB b)(a:SmG x):SmB (stepped b g x w):=by unfold stepped;cases ieq w 1;{cases ieq w 2;{cases ieq w 3;{cases ieq w 4;{exact zbaZ h a};{exact zZT h a}};{exact zZT h a}};{exact znb h (zH3 a)}};{exact znb h (zZU a)}
@[simp] theorem zbcV {b:Bare}{g:Int}(h:SmB b):SmB (zhT b g):=by unfold zhT;cases zk3 b g;{exact h};{exact zYY h (zjN g h)}
theorem zbcC (x:Guest):ieq (zbc x) 0=false->ieq (zbc x) 1=false->ieq (zbc x) 2=false->ieq (zbc x) 3=false->ieq (zbc x) 4=false->ieq (zbc x) 5=false->ieq (zbc x) 6=false->ieq (zbc x) 7=true:=by unfold zbc zyo;cases canRun x;{intro h;cases h};{cases zic x;{simp only [cT,cF];generalize (zcs x.Prog x.Pc).Op=o;cases ieq o 3<;>cases ieq o 4<;>cases ieq o 5<;>cases ieq o 6<;>cases ieq o 7<;>simp [ieq]};{intro _ h;cases h}}
def SmK (k:Kept):Prop:=k.Known.length<=1048576/\k.Slots.length<=1048576
def zC6 (l:List Kept):Prop:=l.length<=1048576/\∀x∈l,SmK x
def zeP (m:Mon):Prop:=m.Outer.length<=1048576/\SmM m.Out/\m.Dirty.length<=1048576/\zkh m.Guests/\m.Outs.length<=1048576/\zC6 m.Tables
def zrq (l:List Mon):Prop:=l.length<=1048576/\∀x∈l,zeP x
def SmH (h:Host):Prop:=SmM h.Memory/\zrq h.Mons/\h.Buffer.length<=1048576/\h.IoBuffer.length<=1048576
@[simp] theorem zxU (k:Kept):(∀c∈Ty.cells .kept k,CVB sm c)↔SmK k:=by simp[Ty.cells,SmK,z7l]
@[simp] theorem z6a (l:List Kept):CVB sm (.s .kept l)↔zC6 l:=by rw[zk6];simp only[zxU];rfl
@[simp] theorem zZe (m:Mon):(∀c∈Ty.cells .mon m,CVB sm c)↔zeP m:=by simp only[Ty.cells,qG,qO,or_false,vI,forall_eq,zpA,zvo,z6a,z0C,zXH,zXG,z8R,and_true,true_and];rfl
@[simp] theorem zbab (l:List Mon):CVB sm (.s .mon l)↔zrq l:=by rw[zk6];simp only[zZe];rfl
@[simp] theorem zV (h:Host):zci h↔SmH h:=by unfold zci;simp only[zbl,qG,qO,or_false,vI,forall_eq,zpA,zbab,zUt];rfl
theorem zbC {p:Prop}(h:p):pc p=true:=zbg h
theorem zzf {l:List Kept}{i:Int}{x:Kept}(h:zC6 l)(b:SmK x):zC6 (up l i x):=by refine⟨by simpa using h.1,fun y a=>?_⟩;rcases qW a with a|rfl;{exact h.2 y a};{exact b}
theorem ziT {l:List Mon}{i:Int}{x:Mon}(h:zrq l)(b:zeP x):zrq (up l i x):=by refine⟨by simpa using h.1,fun y a=>?_⟩;rcases qW a with a|rfl;{exact h.2 y a};{exact b}
theorem znj {a:Type}{l:List a}(h:l.length<=1048576):few (ln (ap [] l))=true:=by rw[zlU,zbaj];omega
@[simp] abbrev zbP (h:Host):Bool:=pc (zci h)
@[simp] abbrev zo (h:Host):Host:=h
def zB2:Run:=rF1 dH fun b=>(zbP b,[aH (zo b)])
def zHc (N:Nat)(a0:Host):OA:=
 (oN (zfL a0.Memory) (oN (few (ln (ap [] a0.Buffer))) (oN (few (ln (ap [] a0.IoBuffer))) (iter (σ:=(Int×(lM×(lN×(lE×(lE×(lM×(lN×(lE×(lE×(lM×(lN×(lE×(lE×Unit)))))))))))))) N (fun e a=>let d:=a.2.2.2.2.2.2.2.2.2.2.2.2.1;let c:=(ix a.2.2.1 a.1 zh);let b:=(ap a.2.2.2.2.2.2.2.2.2.2.1 [(zm9 c)]); (cond (ilt a.1 (ln a.2.2.1)) (oN (inb a.1 (ln a.2.2.1)) (oN (zjm c) (oN (few (ln b)) (e ((zM .i64 a.1 1),(a.2.1,(a.2.2.1,(a.2.2.2.1,(a.2.2.2.2.1,(a.2.2.2.2.2.1,(a.2.2.2.2.2.2.1,(a.2.2.2.2.2.2.2.1,(a.2.2.2.2.2.2.2.2.1,(a.2.2.2.2.2.2.2.2.2.1,(b,(a.2.2.2.2.2.2.2.2.2.2.2.1,(d,()))))))))))))))))) (some [(aH (⟨a.2.2.2.2.2.2.2.2.2.1,a.2.2.2.2.2.2.2.2.2.2.1,a.2.2.2.2.2.2.2.2.2.2.2.1,d⟩:Host))]))) (0,(a0.Memory,(a0.Mons,(a0.Buffer,(a0.IoBuffer,([],([],([],([],((zeh a0.Memory),([],((ap [] a0.Buffer),((ap [] a0.IoBuffer),())))))))))))))))))
def zTm:FuncId->Nat->Option Tmpl:=zq [(73,0,{n:=36,tm:=[(1,.lp 0 0),(2,.lp 1 0),(3,.lp 2 0),(4,ti)],lo:=[(0,[.sl 0 [],.sl 1 [],.sl 2 [],.sl 3 []]),(1,[.sl 4 [],.sl 5 [],.sl 6 [],.sl 7 []]),(2,[.sl 8 [],.sl 9 [],.sl 10 [],.sl 11 []])],ro:=[(0,(.sl .int),false),(1,.mon,false),(2,.entry,false),(3,.entry,false),(4,(.sl .int),true),(5,.mon,true),(6,.entry,true),(7,.entry,true),(8,(.sl .int),true),(9,.mon,true),(10,.entry,true),(11,.entry,true)]})]
theorem zST (a0:Host)(j:zbP a0=true):∃N,zHc N a0=some [aH (zo a0)]:=by
 obtain⟨f,e,g,h⟩:=(zV a0).1 (zL.1 j);have d:=zcF e.1;refine zcq fun N c=>?_;unfold zHc oN;conv=>zeta
 refine must (zbC ((zpA _).2 f)) (must (znj g) (must (znj h) ?_));refine(zbm a0.Mons (fun i (t:lN)=>((i:Int),a0.Memory,a0.Mons,a0.Buffer,a0.IoBuffer,[],[],[],[],(zeh a0.Memory),t,(ap [] a0.Buffer),(ap [] a0.IoBuffer),())) _ (fun _ x a l=>bif zjm x then (cond (few (ln (ap a [zm9 x]))) (l (ap a [zm9 x])) none) else none) (fun (t:lN)=>(some [(.agg (zbl (⟨(zeh a0.Memory),t,(ap [] a0.Buffer),(ap [] a0.IoBuffer)⟩:Host)))])) (fun i b t rec=>?_) (fun t rec=>?_) _ ([]) (c d.1)).trans ?_;{simp only [zbs b,zbe b,zbj b,zbh b d.1,cT]};{simp only [zbn,cF]};exact ziW zjm zm9 _ a0.Mons 0 [] (fun x k=>⟨zbC ((zZe x).2 (e.2 x k)),rfl⟩) (by simpa using d.2)
theorem zLY:vM 73 zB2:=kF1 ztQ zB zy zn zTm zST
@[simp] abbrev zgW (k:Kept):Bool:=pc (SmK k)
@[simp] abbrev zdG (k:Kept):Kept:=k
def zyH:Run:=rF1 (dT .kept) fun b=>(zgW b,[aT .kept (zdG b)])
def zCA (N:Nat)(a0:Kept):OA:=
 (oN (few (ln (ap [] a0.Known))) (oN (zgd a0.Slots) (some [(aT .kept (⟨(ap [] a0.Known),(zeS a0.Slots)⟩:Kept))])))
theorem zOY (a0:Kept)(a:zgW a0=true):∃N,zCA N a0=some [aT .kept (zdG a0)]:=by have b:=zL.1 a;obtain⟨e,f⟩:=b;have c:a0.Known.length<=2147483648:=(by omega);have d:a0.Slots.length<=2147483648:=(by omega);refine⟨0,?_⟩;unfold zCA oN;refine mu (mu ?_);first|rfl|(simp only [*,zdG,cT,cF]<;>rfl)|simp_all[Ty.cells,zdG]
theorem zIK:vM 202 zyH:=kF1 ztQ zB zy zn (zq []) zOY
def z8k:zW:=[(73,zB2),(202,zyH)]++z0t
theorem zUi:zK z8k:=zi zLY (zi zIK ztQ)
@[simp] abbrev zlY (m:Mon):Bool:=pc (zeP m)
@[simp] abbrev znm (m:Mon):Mon:=m
def zBE:Run:=rF1 (dT .mon) fun b=>(zlY b,[aT .mon (znm b)])
def zGG (N:Nat)(a0:Mon):OA:=
 (oN (zgd a0.Outer) (oN (zhY a0.Out) (oN (few (ln (ap [] a0.Dirty))) (oN (zlb a0.Guests) (oN (zdJ a0.Outs) (iter (σ:=(Int×(Int×(Int×(Int×(Int×(Int×(Int×(Int×(lK×(lK×(lS×(lM×(lB×(lG×((List Int)×(lS×(lM×(lB×(lG×((List Int)×(lK×Unit)))))))))))))))))))))) N (fun h a=>let g:=a.2.2.2.2.2.2.2.2.2.2.2.2.1;let f:=a.2.2.2.2.2.2.2.2.2.2.2.2.2.1;let e:=a.2.2.2.2.2.2.2.2.2.2.2.2.2.2.1;let d:=a.2.2.2.2.2.2.2.2.1;let c:=a.2.2.2.2.2.2.2.2.2.1;let b:=(ix c a.2.1 zep); (cond (ilt a.2.1 a.1) (oN (inb a.2.1 (ln c)) (oN (zgW b) (oN (few (ln (ap d [(zdG b)]))) (h (a.1,((zM .i64 a.2.1 1),(a.2.2.1,(a.2.2.2.1,(a.2.2.2.2.1,(a.2.2.2.2.2.1,(a.2.2.2.2.2.2.1,(a.2.2.2.2.2.2.2.1,((ap d [(zdG b)]),(c,(a.2.2.2.2.2.2.2.2.2.2.1,(a.2.2.2.2.2.2.2.2.2.2.2.1,(g,(f,(e,(a.2.2.2.2.2.2.2.2.2.2.2.2.2.2.2.1,(a.2.2.2.2.2.2.2.2.2.2.2.2.2.2.2.2.1,(a.2.2.2.2.2.2.2.2.2.2.2.2.2.2.2.2.2.1,(a.2.2.2.2.2.2.2.2.2.2.2.2.2.2.2.2.2.2.1,(a.2.2.2.2.2.2.2.2.2.2.2.2.2.2.2.2.2.2.2.1,(a.2.2.2.2.2.2.2.2.2.2.2.2.2.2.2.2.2.2.2.2.1,()))))))))))))))))))))))))) (some [(aT .mon (⟨a.2.2.2.2.2.2.2.2.2.2.1,a.2.2.2.2.2.2.2.2.2.2.2.1,g,f,e,a.2.2.1,a.2.2.2.1,d,a.2.2.2.2.1⟩:Mon))]))) ((ln a0.Tables),(0,(a0.Pending,(a0.Traps,(a0.Own,(0,(0,(0,([],(a0.Tables,((zeS a0.Outer),((zfn a0.Out),((ap [] a0.Dirty),((zkv a0.Guests),((zdF a0.Outs),([],([],([],([],([],([],())))))))))))))))))))))))))))
def zTe:FuncId->Nat->Option Tmpl:=zq [(124,0,{n:=44,tm:=[(1,.lp 0 0),(2,.lp 1 0),(3,.sl 0 []),(29,.sl 1 []),(30,ti),(31,ti)],lo:=[(0,[.sl 2 [],.sl 3 [],.sl 4 [],.sl 5 [],.sl 6 [],ti,ti,.sl 1 [],ti]),(1,[.sl 7 [],.sl 8 [],.sl 9 [],.sl 10 [],.sl 11 [],ti,ti,.sl 12 [],ti])],ro:=[(0,.kept,true),(1,.kept,false),(2,.slot,true),(3,(.sl .int),true),(4,.bool,true),(5,.guest,true),(6,.int,true),(7,.slot,true),(8,(.sl .int),true),(9,.bool,true),(10,.guest,true),(11,.int,true),(12,.kept,true)]})]
theorem zSm (a0:Mon)(n:zlY a0=true):∃N,zGG N a0=some [aT .mon (znm a0)]:=by
 obtain⟨r,k,l,m,s,e⟩:=zL.1 n;have d:=zcF e.1;refine zcq fun N c=>?_;unfold zGG oN;conv=>zeta
 have f:zgd a0.Outer=true:=(by simp;omega);have g:zhY a0.Out=true:=(by simp;exact k);have h:zlb a0.Guests=true:=(by simp;exact m);have j:zdJ a0.Outs=true:=(by simp;omega);refine must f (must g (must (znj l) (must h (must j ?_))));refine(zbm a0.Tables (fun i (t:lK)=>((ln a0.Tables),(i:Int),a0.Pending,a0.Traps,a0.Own,0,0,0,t,a0.Tables,(zeS a0.Outer),(zfn a0.Out),(ap [] a0.Dirty),(zkv a0.Guests),(zdF a0.Outs),[],[],[],[],[],[],())) _ (fun _ x a q=>bif zgW x then (cond (few (ln (ap a [zdG x]))) (q (ap a [zdG x])) none) else none) (fun (t:lK)=>(some [(.agg (Ty.cells .mon (⟨(zeS a0.Outer),(zfn a0.Out),(ap [] a0.Dirty),(zkv a0.Guests),(zdF a0.Outs),a0.Pending,a0.Traps,t,a0.Own⟩:Mon)))])) (fun i b t rec=>?_) (fun t rec=>?_) _ ([]) (c d.1)).trans ?_;{simp only [zbs b,zbe b,zbj b,zbh b d.1,cT]};{simp only [zbn,cF]};exact ziW zgW zdG _ a0.Tables 0 [] (fun x p=>⟨zbC (e.2 x p),rfl⟩) (by simpa using d.2)
theorem zLs:vM 124 zBE:=kF1 zUi zB zy zn zTe zSm
def z8l:zW:=[(124,zBE)]++z8k
theorem zzJ:zK z8l:=zi zLs zUi
@[simp] abbrev zkw (h:Host):Bool:=pc (zci h)
@[simp] abbrev zer (h:Host):Host:=h
def zyF:Run:=rF1 dH fun b=>(zkw b,[aH (zer b)])
def zCy (N:Nat)(a0:Host):OA:=
 (oN (zhY a0.Memory) (oN (few (ln (ap [] a0.Buffer))) (oN (few (ln (ap [] a0.IoBuffer))) (iter (σ:=(Int×(Int×(lN×(lM×(lN×(lE×(lE×(lM×(lN×(lE×(lE×Unit)))))))))))) N (fun d a=>let c:=(ix a.2.2.1 a.2.1 zh);let b:=(ap a.2.2.2.2.2.2.2.2.1 [(znm c)]); (cond (ilt a.2.1 a.1) (oN (inb a.2.1 (ln a.2.2.1)) (oN (zlY c) (oN (few (ln b)) (d (a.1,((zM .i64 a.2.1 1),(a.2.2.1,(a.2.2.2.1,(a.2.2.2.2.1,(a.2.2.2.2.2.1,(a.2.2.2.2.2.2.1,(a.2.2.2.2.2.2.2.1,(b,(a.2.2.2.2.2.2.2.2.2.1,(a.2.2.2.2.2.2.2.2.2.2.1,()))))))))))))))) (some [(aH (⟨a.2.2.2.2.2.2.2.1,a.2.2.2.2.2.2.2.2.1,a.2.2.2.2.2.2.2.2.2.1,a.2.2.2.2.2.2.2.2.2.2.1⟩:Host))]))) ((ln a0.Mons),(0,(a0.Mons,([],([],([],([],((zfn a0.Memory),([],((ap [] a0.Buffer),((ap [] a0.IoBuffer),())))))))))))))))
def zP2:FuncId->Nat->Option Tmpl:=zq [(68,0,{n:=34,tm:=[(2,.lp 0 0),(3,.lp 1 0),(19,.sl 0 []),(20,ti),(21,ti)],lo:=[(0,[.sl 1 [],.sl 2 [],.sl 3 [],.sl 4 []]),(1,[.sl 5 [],.sl 6 [],.sl 7 [],.sl 8 []])],ro:=[(0,.mon,false),(1,(.sl .int),true),(2,.mon,true),(3,.entry,true),(4,.entry,true),(5,(.sl .int),true),(6,.mon,true),(7,.entry,true),(8,.entry,true)]})]
theorem zOW (a0:Host)(k:zkw a0=true):∃N,zCy N a0=some [aH (zer a0)]:=by
 obtain⟨g,e,h,j⟩:=(zV a0).1 (zL.1 k);have d:=zcF e.1;refine zcq fun N c=>?_;unfold zCy oN;conv=>zeta
 have f:zhY a0.Memory=true:=(by simp;exact g);refine must f (must (znj h) (must (znj j) ?_));refine(zbm a0.Mons (fun i (t:lN)=>((ln a0.Mons),(i:Int),a0.Mons,[],[],[],[],(zfn a0.Memory),t,(ap [] a0.Buffer),(ap [] a0.IoBuffer),())) _ (fun _ x a m=>bif zlY x then (cond (few (ln (ap a [znm x]))) (m (ap a [znm x])) none) else none) (fun (t:lN)=>(some [(.agg (zbl (⟨(zfn a0.Memory),t,(ap [] a0.Buffer),(ap [] a0.IoBuffer)⟩:Host)))])) (fun i b t rec=>?_) (fun t rec=>?_) _ ([]) (c d.1)).trans ?_;{simp only [zbs b,zbe b,zbj b,zbh b d.1,cT]};{simp only [zbn,cF]};exact ziW zlY znm _ a0.Mons 0 [] (fun x l=>⟨zbC (e.2 x l),rfl⟩) (by simpa using d.2)
theorem zII:vM 68 zyF:=kF1 zzJ zB zy zn zP2 zOW
def allI {a:Type}(p:Nat->a->Bool):List a->Nat->Bool
 |[],_=>true
 |x::l,i=>p i x&&allI p l (i+1)
theorem zIC {a b:Type}(p:Nat->a->Bool)(r:Option b)(K:Unit->Option b):∀(l:List a) (i:Nat),goL (fun i x (_:Unit) k=>bif p i x then k () else r) K l i ()=bif allI p l i then K () else r
 |[],_=>rfl
 |x::l,i=>by simp only[goL,allI];cases p i x;{rfl};{simp only [cT,uH];exact zIC p r K l (i+1)}
theorem zQI {a:Type}(q:a->Bool)(l:List a)(d:a):∀(n i:Nat),i+n<=l.length->znG (fun j=>q (ix l (j:Int) d)) n i=((l.drop i).take n).all q
 | 0,i,_=>by simp[znG]
 |n+1,i,h=>by have b:i<l.length:=(by omega);rw[kL b,List.take_succ_cons,kW,<- zQI q l d n (i+1) (by omega)];simp only[znG,zbj b]
def sameKey (a b:Entry):Bool:=bif ieq a.Tag b.Tag then ieq a.Page b.Page else false
def alone (l:List Entry)(i:Nat)(x:Entry):Bool:=(l.take i).all fun y=>!sameKey x y
def zeQ (l:List Entry):Bool:=bif allI (alone l) l 0 then ile (ln l) 6 else false
theorem z6o {a:Type}{l:List a}{i:Nat}(h:i<=l.length):inr 0 (i:Int) (ln l)=true:=qJ (by simp only[ln];omega)
@[simp] abbrev znX (l:List Entry):Bool:=true
@[simp] abbrev znW (l:List Entry):Bool:=zeQ l
def zyC:Run:=rF1 (dS .entry) fun b=>(znX b,[aB (znW b)])
def zCw (N:Nat)(a0:lE):OA:=
 (iter (σ:=(Int×(Int×(lE×Unit)))) N (fun h b=>let c:=b.2.2.1;let e:=(ix c b.2.1 zeO); (cond (ilt b.2.1 b.1) (oN (inb b.2.1 (ln c)) (oN (inr 0 b.2.1 (ln c)) (iter (σ:=(Int×(Int×(Int×(Int×(Int×(Int×(Int×(Int×(lE×(lE×Unit))))))))))) N (fun i a=>let d:=a.2.2.2.1;let f:=a.2.2.2.2.2.2.2.2.2.1;let g:=(i (a.1,(a.2.1,(a.2.2.1,((zM .i64 d 1),(a.2.2.2.2.1,(a.2.2.2.2.2.1,(a.2.2.2.2.2.2.1,(a.2.2.2.2.2.2.2.1,(a.2.2.2.2.2.2.2.2.1,(f,()))))))))))); (cond (ilt d a.2.2.1) (oN (inb d (ln f)) (cond (ieq a.2.2.2.2.1 (ix f d zeO).Tag) (cond (ieq a.2.2.2.2.2.1 (ix f d zeO).Page) oF g) g)) (h (a.1,((zM .i64 a.2.1 1),(a.2.2.2.2.2.2.2.2.1,())))))) (b.1,(b.2.1,((ln (tk c b.2.1)),(0,(e.Tag,(e.Page,(e.Host,(e.Rights,(c,((tk c b.2.1),()))))))))))))) (some [(aB (ile (ln c) 6))]))) ((ln a0),(0,(a0,()))))
def zP1:FuncId->Nat->Option Tmpl:=zq [(172,0,{n:=39,tm:=[(0,.sl 0 []),(7,.sl 0 []),(8,ti),(9,ti)],lo:=[],ro:=[(0,.entry,false)]}),(172,2,{n:=39,tm:=[(0,.sl 0 []),(4,.lp 0 0),(7,.sl 0 []),(8,ti),(9,ti),(16,.sl 1 []),(17,ti),(18,ti)],lo:=[(0,[ti,ti,ti,ti])],ro:=[(0,.entry,false),(1,.entry,false)]})]
theorem zOT (a0:List Entry)(k:zb6 big [aS .entry a0])(l:znX a0=true):∃N,zCw N a0=some [aB (znW a0)]:=by
 have d:=(len0 k);refine zcq fun N c=>?_;unfold zCw oN;conv=>zeta
 refine(zbm a0 (fun i (t:Unit)=>((ln a0),(i:Int),a0,())) _ (fun i (x:Entry) (_:Unit) g=>bif alone a0 i x then g () else oF) (fun (t:Unit)=>(some [(.one (.b (ile (ln a0) 6)))])) (fun i a t rec=>?_) (fun t rec=>?_) _ () (c d)).trans ?_;{simp only [zbs a,zbe a,zbj a,zbh a d,cT];rw[z6o (Nat.le_of_lt a),cT];have h:(tk a0 (i:Int)).length<=big:=qU (by simp[tk];omega) d;refine(zbm (tk a0 (i:Int)) (fun j (u:Unit)=>((ln a0),(i:Int),(ln (tk a0 (i:Int))),(j:Int),a0[i].Tag,a0[i].Page,a0[i].Host,a0[i].Rights,a0,(tk a0 (i:Int)),())) _ (fun _ (y:Entry) (_:Unit) g=>bif !sameKey a0[i] y then g () else oF) (fun (u:Unit)=>(rec ((ln a0),((((i+1:Nat)):Int),(a0,()))))) (fun j f u e=>?_) (fun u e=>?_) _ () (c h)).trans ?_;{simp only [zbs f,zbe f,zbj f,zbh f h,cT,zbh a d];unfold sameKey;cases ieq a0[i].Tag (tk a0 (i:Int))[j].Tag<;>cases ieq a0[i].Page (tk a0 (i:Int))[j].Page<;>rfl};{simp only [zbn,cF,zbh a d]};rw[zgG (fun y=>!sameKey a0[i] y)];rfl};{simp only [zbn,cF]};rw[zIC (alone a0)];unfold znW zeQ;cases allI (alone a0) a0 0<;>rfl
theorem zIF:vM 172 zyC:=hF1 zzJ zB zy zn zP1 zOT
@[simp] abbrev zou (l:List Entry):Bool:=true
@[simp] abbrev zot (l:List Entry):Bool:=zeQ l
def zyP:Run:=rF1 (dS .entry) fun b=>(zou b,[aB (zot b)])
def zCL (N:Nat)(a0:lE):OA:=
 (iter (σ:=(Int×(lE×Unit))) N (fun f c=>(cond (ilt c.1 (ln c.2.1)) (iter (σ:=(Int×(Int×(lE×Unit)))) N (fun g a=>let b:=a.2.2.1;let e:=(ix b a.2.1 zeO);let d:=(g (a.1,((zM .i64 a.2.1 1),(b,())))); (cond (ilt a.2.1 a.1) (oN (inb a.1 (ln b)) (oN (inb a.2.1 (ln b)) (cond (ieq (ix b a.1 zeO).Tag e.Tag) (oN (inb a.1 (ln b)) (oN (inb a.2.1 (ln b)) (cond (ieq (ix b a.1 zeO).Page e.Page) oF d))) d))) (f ((zM .i64 a.1 1),(b,()))))) (c.1,(0,(c.2.1,())))) (some [(aB (ile (ln c.2.1) 6))]))) (0,(a0,())))
def zP7:FuncId->Nat->Option Tmpl:=zq [(88,0,{n:=43,tm:=[(0,.sl 0 []),(3,ti)],lo:=[],ro:=[(0,.entry,false)]}),(88,2,{n:=43,tm:=[(0,.sl 0 []),(3,ti),(4,ti)],lo:=[],ro:=[(0,.entry,false)]})]
theorem zO8 (a0:List Entry)(h:zb6 big [aS .entry a0])(k:zou a0=true):∃N,zCL N a0=some [aB (zot a0)]:=by
 have f:=(len0 h);refine zcq fun N c=>?_;unfold zCL oN;conv=>zeta
 refine(zbm a0 (fun i (t:Unit)=>((i:Int),a0,())) _ (fun i (x:Entry) (_:Unit) g=>bif alone a0 i x then g () else oF) (fun (t:Unit)=>(some [(.one (.b (ile (ln a0) 6)))])) (fun i a t rec=>?_) (fun t rec=>?_) _ () (c f)).trans ?_;{simp only [zbs a,zbe a,zbj a,zbh a f,cT];refine(zAf i (fun (j:Nat) (_:Unit)=>((i:Int),((j:Int),(a0,())))) _ (fun j (_:Unit) g=>bif !sameKey a0[i] (ix a0 (j:Int) zeO) then g () else oF) (fun _=>rec (((i+1:Nat):Int),(a0,()))) (fun j l u e=>?_) (fun u e=>?_) _ () (c (by omega))).trans ?_;{have d:j<a0.length:=(by omega);simp only[show ilt (j:Int) (i:Int)=true from qJ (by omega),zbe a,zbe d,zbj a,zbh d f,cT];unfold sameKey;cases ieq a0[i].Tag (ix a0 (j:Int) zeO).Tag<;>cases ieq a0[i].Page (ix a0 (j:Int) zeO).Page<;>rfl};{simp only [show ilt (i:Int) (i:Int)=false from qL (by omega),zbh a f,cF]};rw[zFo (fun j=>!sameKey a0[i] (ix a0 (j:Int) zeO)),zQI (fun y=>!sameKey a0[i] y) a0 _ i 0 (by omega)];rfl};{simp only [zbn,cF]};rw[zIC (alone a0)];unfold zot zeQ;cases allI (alone a0) a0 0<;>rfl
theorem zIS:vM 88 zyP:=hF1 zzJ zB zy zn zP7 zO8
def z8m:zW:=[(68,zyF),(88,zyP),(172,zyC)]++z8l
theorem zIt:zK z8m:=zi zII (zi zIS (zi zIF zzJ))
theorem zOO (a b:Int):igt a b = !ile a b:=by unfold igt ile;by_cases h:a<=b;{rw [qJ h,qL (by omega)];rfl};{rw [qL h,qJ (by omega)];rfl}
theorem stB {c M:Bool}{E:OA}(h:c=true->E=some [AV.one (.b M)]):(cond (cond c false true) (some [AV.one (.b false)]) E)=some [AV.one (.b (cond c M false))]:=by cases c;{rfl};{exact h rfl}
theorem stI {a b:Int}{M:Bool}{E:OA}(h:ieq a b=true->E=some [AV.one (.b M)]):(cond (ine a b) (some [AV.one (.b false)]) E)=some [AV.one (.b (cond (ieq a b) M false))]:=by rw[znn];cases c:ieq a b;{rfl};{exact h c}
theorem stG {a b:Int}{M:Bool}{E:OA}(h:ile a b=true->E=some [AV.one (.b M)]):(cond (igt a b) (some [AV.one (.b false)]) E)=some [AV.one (.b (cond (ile a b) M false))]:=by rw[zOO];cases c:ile a b;{rfl};{exact h c}
def zlh (s:Slot)(p:List Int):Bool:=bif zcV s noSlot then zcl p else (cond (enough s.Rights 1) (ile (ln p) 0) false)
def fits (m:Mon)(j:Nat):Bool:=zlh (ix m.Outer (j:Int) zQ) (ix m.Out (j:Int) [])
def zdP (m:Mon):Bool:=bif win (ln m.Guests) 1 2 then (cond (ieq (ln m.Tables) (ln m.Guests)) (cond (zcS m.Outer 8 12) (cond (ieq (ln m.Out) 8) (cond (ieq (ln m.Dirty) 8) (cond (ile (ln m.Outs) 40) (cond (zc3 m.Pending) (cond (win m.Traps 0 3) (cond (win m.Own 0 1000000000) (cond (m.Guests.all zde) (znG (fits m) 8 0) false) false) false) false) false) false) false) false) false) else false
theorem zr1 {t:List Slot}{n p:Int}(h:zcS t n p=true):ln t=n:=by unfold zcS at h;cases a:t.all (fun s=>zdw s p);{rw [a]at h;cases h};{rw [a]at h;exact qE h}
@[simp] abbrev zrH (m:Mon):Bool:=true
@[simp] abbrev ztu (m:Mon):Bool:=zdP m
def zHF:Run:=rF1 (dT .mon) fun b=>(zrH b,[aB (ztu b)])
def zQr (N:Nat)(a0:Mon):OA:=
 let g:=(ln a0.Guests); (oN (zcm g 1 2) (cond (nB (zcH g 1 2)) oF (cond (ine (ln a0.Tables) g) oF (oN (zlX a0.Outer 8 12) (cond (nB (zhz a0.Outer 8 12)) oF (cond (ine (ln a0.Out) 8) oF (cond (ine (ln a0.Dirty) 8) oF (cond (igt (ln a0.Outs) 40) oF (oN (zsX a0.Pending) (cond (nB (zpJ a0.Pending)) oF (oN (zcm a0.Traps 0 3) (cond (nB (zcH a0.Traps 0 3)) oF (oN (zcm a0.Own 0 1000000000) (cond (nB (zcH a0.Own 0 1000000000)) oF (iter (σ:=(Int×(Int×(Int×(Int×(Int×(lG×(lS×(lM×(lB×((List Int)×(lK×Unit)))))))))))) N (fun k a=>let h:=a.2.2.2.2.2.2.1;let f:=a.2.2.2.2.2.1;let j:=(ix f a.2.1 zC); (cond (ilt a.2.1 a.1) (oN (inb a.2.1 (ln f)) (oN (zqx j) (cond (nB (znl j)) oF (k (a.1,((zM .i64 a.2.1 1),(a.2.2.1,(a.2.2.2.1,(a.2.2.2.2.1,(f,(h,(a.2.2.2.2.2.2.2.1,(a.2.2.2.2.2.2.2.2.1,(a.2.2.2.2.2.2.2.2.2.1,(a.2.2.2.2.2.2.2.2.2.2.1,()))))))))))))))) (iter (σ:=(Int×(Int×(Int×(Int×(Int×(lS×(lM×(lB×(lG×((List Int)×(lK×Unit)))))))))))) N (fun l b=>let c:=b.2.1;let d:=b.2.2.2.2.2.2.1;let e:=(ix b.2.2.2.2.2.1 c zQ);let i:=(l (b.1,((zM .i64 c 1),(b.2.2.1,(b.2.2.2.1,(b.2.2.2.2.1,(b.2.2.2.2.2.1,(d,(b.2.2.2.2.2.2.2.1,(b.2.2.2.2.2.2.2.2.1,(b.2.2.2.2.2.2.2.2.2.1,(b.2.2.2.2.2.2.2.2.2.2.1,())))))))))))); (cond (ilt c b.1) (oN (inb c (ln b.2.2.2.2.2.1)) (oN zfG (cond (cond (ieq e.Page zgb.Page) (ieq e.Rights zgb.Rights) false) (oN (inb c (ln d)) (oN (zhy (ix d c [])) (cond (nB (zgc (ix d c []))) oF i))) (oN (zeq e.Rights 1) (cond (nB (ze5 e.Rights 1)) oF (oN (inb c (ln d)) (cond (igt (ln (ix d c [])) 0) oF i))))))) oT)) ((ln h),(0,(a.2.2.1,(a.2.2.2.1,(a.2.2.2.2.1,(h,(a.2.2.2.2.2.2.2.1,(a.2.2.2.2.2.2.2.2.1,(f,(a.2.2.2.2.2.2.2.2.2.1,(a.2.2.2.2.2.2.2.2.2.2.1,())))))))))))))) (g,(0,(a0.Pending,(a0.Traps,(a0.Own,(a0.Guests,(a0.Outer,(a0.Out,(a0.Dirty,(a0.Outs,(a0.Tables,()))))))))))))))))))))))))))
def zY1:FuncId->Nat->Option Tmpl:=zq [(173,0,{n:=106,tm:=[(1,.lp 0 0),(64,.sl 0 []),(65,ti),(66,ti)],lo:=[(0,[.sl 1 [],.sl 2 [],.sl 3 [],.sl 0 [],.sl 4 [],ti,ti,.sl 5 [],ti])],ro:=[(0,.guest,false),(1,.slot,false),(2,(.sl .int),false),(3,.bool,false),(4,.int,false),(5,.kept,false)]}),(173,2,{n:=106,tm:=[(1,.lp 0 0),(75,.sl 0 []),(76,ti),(77,ti)],lo:=[(0,[.sl 0 [],.sl 1 [],.sl 2 [],.sl 3 [],.sl 4 [],ti,ti,.sl 5 [],ti])],ro:=[(0,.slot,false),(1,(.sl .int),false),(2,.bool,false),(3,.guest,false),(4,.int,false),(5,.kept,false)]})]
theorem zX2 (a0:Mon)(k:zb6 big [aT .mon a0])(D:zrH a0=true):∃N,zQr N a0=some [aB (ztu a0)]:=by
 have hg:a0.Guests.length<=big:=((zdg k).1 (.s .guest a0.Guests) (by simp[AV.cvs,Ty.cells])).len;have l:a0.Outer.length<=big:=((zdg k).1 (.s .slot a0.Outer) (by simp[AV.cvs,Ty.cells])).len;refine zcq fun N c=>?_;unfold zQr ztu zdP oN nB;conv=>zeta
 refine must rfl (stB fun v=>stI fun w=>must rfl (stB fun q=>stI fun r=>stI fun y=>stG fun z=>must rfl (stB fun A=>must rfl (stB fun B=>must rfl (stB fun C=>?_)))));have n:=zr1 q;have p:ln a0.Out=8:=qE r;simp only[ln] at n p;refine(zbm a0.Guests (fun i (t:Unit)=>((ln a0.Guests),(i:Int),a0.Pending,a0.Traps,a0.Own,a0.Guests,a0.Outer,a0.Out,a0.Dirty,a0.Outs,a0.Tables,())) _ (fun _ (x:Guest) (_:Unit) f=>bif zde x then f () else oF) (fun (t:Unit)=>(iter (σ:=(Int×(Int×(Int×(Int×(Int×(lS×(lM×(lB×(lG×((List Int)×(lK×Unit)))))))))))) N (fun m a=>(cond (ilt a.2.1 a.1) (cond (inb a.2.1 (ln a.2.2.2.2.2.1)) (cond zfG (cond (cond (ieq (ix a.2.2.2.2.2.1 a.2.1 zQ).Page zgb.Page) (ieq (ix a.2.2.2.2.2.1 a.2.1 zQ).Rights zgb.Rights) false) (cond (inb a.2.1 (ln a.2.2.2.2.2.2.1)) (cond (zhy (ix a.2.2.2.2.2.2.1 a.2.1 [])) (cond (cond (zgc (ix a.2.2.2.2.2.2.1 a.2.1 [])) false true) oF (m (a.1,((zM .i64 a.2.1 1),(a.2.2.1,(a.2.2.2.1,(a.2.2.2.2.1,(a.2.2.2.2.2.1,(a.2.2.2.2.2.2.1,(a.2.2.2.2.2.2.2.1,(a.2.2.2.2.2.2.2.2.1,(a.2.2.2.2.2.2.2.2.2.1,(a.2.2.2.2.2.2.2.2.2.2.1,()))))))))))))) none) none) (cond (zeq (ix a.2.2.2.2.2.1 a.2.1 zQ).Rights 1) (cond (cond (ze5 (ix a.2.2.2.2.2.1 a.2.1 zQ).Rights 1) false true) oF (cond (inb a.2.1 (ln a.2.2.2.2.2.2.1)) (cond (igt (ln (ix a.2.2.2.2.2.2.1 a.2.1 [])) 0) oF (m (a.1,((zM .i64 a.2.1 1),(a.2.2.1,(a.2.2.2.1,(a.2.2.2.2.1,(a.2.2.2.2.2.1,(a.2.2.2.2.2.2.1,(a.2.2.2.2.2.2.2.1,(a.2.2.2.2.2.2.2.2.1,(a.2.2.2.2.2.2.2.2.2.1,(a.2.2.2.2.2.2.2.2.2.2.1,()))))))))))))) none)) none)) none) none) (some [(.one (.b true))]))) ((ln a0.Outer),(0,(a0.Pending,(a0.Traps,(a0.Own,(a0.Outer,(a0.Out,(a0.Dirty,(a0.Guests,(a0.Outs,(a0.Tables,()))))))))))))) (fun i g t rec=>?_) (fun t rec=>?_) _ () (c hg)).trans ?_;{simp only [zbs g,zbe g,zbj g,zbh g hg,cT];simp only[zqx,znl,cT];cases zde a0.Guests[i]<;>rfl};{simp only [zbn,cF]};rw[zgG zde];cases a0.Guests.all zde;{rfl};simp only[cT];refine(zbm a0.Outer (fun j (u:Unit)=>((ln a0.Outer),(j:Int),a0.Pending,a0.Traps,a0.Own,a0.Outer,a0.Out,a0.Dirty,a0.Guests,a0.Outs,a0.Tables,())) _ (fun j (_:Slot) (_:Unit) f=>bif fits a0 j then f () else oF) (fun (u:Unit)=>(some [(.one (.b true))])) (fun j d u e=>?_) (fun u e=>?_) _ () (c l)).trans ?_;{simp only [zbs d,zbe d,zbj d,zbh d l,cT];have h:j<a0.Out.length:=(by omega);simp only[zfG,zgb,zhy,zgc,zeq,ze5,zbe h,zOO,cT];unfold fits zlh;simp only[zbj d,zcV];cases ieq a0.Outer[j].Page noSlot.Page<;>cases ieq a0.Outer[j].Rights noSlot.Rights<;>cases enough a0.Outer[j].Rights 1<;>cases ile (ln (ix a0.Out (j:Int) [])) 0<;>cases zcl (ix a0.Out (j:Int) [])<;>rfl};{simp only [zbn,cF]};rw[zx1 (fun j (_:Unit) f=>bif fits a0 j then f () else oF),zFo (fits a0),show a0.Outer.length=8 by omega];cases znG (fits a0) 8 0<;>rfl
theorem zRX:vM 173 zHF:=hF1 zIt zB zy zn zY1 zX2
@[simp] abbrev zrU (m:Mon):Bool:=true
@[simp] abbrev ztz (m:Mon):Bool:=zdP m
def zHM:Run:=rF1 (dT .mon) fun b=>(zrU b,[aB (ztz b)])
def zQA (N:Nat)(a0:Mon):OA:=
 (oN (zN (ln a0.Guests) 1 2) (cond (nB (zT (ln a0.Guests) 1 2)) oF (cond (ine (ln a0.Tables) (ln a0.Guests)) oF (oN (zmj a0.Outer 8 12) (cond (nB (zhL a0.Outer 8 12)) oF (cond (ine (ln a0.Out) 8) oF (cond (ine (ln a0.Dirty) 8) oF (iter (σ:=(Int×(Int×(Int×(Int×(lS×(lM×(lB×(lG×((List Int)×(lK×Unit))))))))))) N (fun k b=>let c:=b.2.2.2.2.2.2.2.1; (cond (ilt b.1 (ln c)) (oN (inb b.1 (ln c)) (oN (zmd (ix c b.1 zC)) (cond (nB (zkN (ix c b.1 zC))) oF (k ((zM .i64 b.1 1),(b.2.1,(b.2.2.1,(b.2.2.2.1,(b.2.2.2.2.1,(b.2.2.2.2.2.1,(b.2.2.2.2.2.2.1,(c,(b.2.2.2.2.2.2.2.2.1,(b.2.2.2.2.2.2.2.2.2.1,())))))))))))))) (iter (σ:=(Int×(Int×(Int×(Int×(lS×(lM×(lB×(lG×((List Int)×(lK×Unit))))))))))) N (fun l a=>let g:=a.2.2.2.2.1;let h:=(inb a.1 (ln a.2.2.2.2.2.1));let d:=(ix a.2.2.2.2.2.1 a.1 []);let f:=(ix g a.1 zQ);let j:=(ieq f.Rights zbu.Rights);let i:=(ieq f.Page zbu.Page);let e:=(l ((zM .i64 a.1 1),(a.2.1,(a.2.2.1,(a.2.2.2.1,(g,(a.2.2.2.2.2.1,(a.2.2.2.2.2.2.1,(a.2.2.2.2.2.2.2.1,(a.2.2.2.2.2.2.2.2.1,(a.2.2.2.2.2.2.2.2.2.1,()))))))))))); (cond (ilt a.1 8) (oN (inb a.1 (ln g)) (oN zcv (cond (nB (cond i j false)) (oN h (cond (igt (ln d) 0) oF (oN (inb a.1 (ln g)) (oN (zgn f.Rights 1) (cond (nB (zgZ f.Rights 1)) oF (cond (nB (nB (cond i j false))) (oN h (oN (zfJ d) (cond (nB (zfc d)) oF e))) e)))))) (cond (nB (nB (cond i j false))) (oN h (oN (zfJ d) (cond (nB (zfc d)) oF e))) e)))) (cond (ile (ln a.2.2.2.2.2.2.2.2.1) 40) (oN (zfe a.2.1) (cond (zfd a.2.1) (oN (zN a.2.2.1 0 3) (cond (zT a.2.2.1 0 3) (oN (zN a.2.2.2.1 0 1000000000) (some [(aB (zT a.2.2.2.1 0 1000000000))])) oF)) oF)) oF))) (0,(b.2.1,(b.2.2.1,(b.2.2.2.1,(b.2.2.2.2.1,(b.2.2.2.2.2.1,(b.2.2.2.2.2.2.1,(c,(b.2.2.2.2.2.2.2.2.1,(b.2.2.2.2.2.2.2.2.2.1,()))))))))))))) (0,(a0.Pending,(a0.Traps,(a0.Own,(a0.Outer,(a0.Out,(a0.Dirty,(a0.Guests,(a0.Outs,(a0.Tables,()))))))))))))))))))
def zY3:FuncId->Nat->Option Tmpl:=zq [(89,0,{n:=115,tm:=[(1,.lp 0 0),(3,ti)],lo:=[(0,[.sl 0 [],.sl 1 [],.sl 2 [],.sl 3 [],.sl 4 [],ti,ti,.sl 5 [],ti])],ro:=[(0,.slot,false),(1,(.sl .int),false),(2,.bool,false),(3,.guest,false),(4,.int,false),(5,.kept,false)]}),(89,2,{n:=115,tm:=[(1,.lp 0 0),(4,ti)],lo:=[(0,[.sl 0 [],.sl 1 [],.sl 2 [],.sl 3 [],.sl 4 [],ti,ti,.sl 5 [],ti])],ro:=[(0,.slot,false),(1,(.sl .int),false),(2,.bool,false),(3,.guest,false),(4,.int,false),(5,.kept,false)]})]
theorem zYc (a0:Mon)(q:zb6 big [aT .mon a0])(z:zrU a0=true):∃N,zQA N a0=some [aB (ztz a0)]:=by
 have hg:a0.Guests.length<=big:=((zdg q).1 (.s .guest a0.Guests) (by simp[AV.cvs,Ty.cells])).len;refine zcq fun N c=>?_;unfold zQA ztz zdP oN nB;conv=>zeta
 refine must rfl (stB fun v=>stI fun w=>must rfl (stB fun n=>stI fun p=>stI fun y=>?_));have l:=zr1 n;have m:ln a0.Out=8:=qE p;simp only[ln] at l m;refine(zbm a0.Guests (fun i (t:Unit)=>((i:Int),a0.Pending,a0.Traps,a0.Own,a0.Outer,a0.Out,a0.Dirty,a0.Guests,a0.Outs,a0.Tables,())) _ (fun _ (x:Guest) (_:Unit) k=>bif zde x then k () else oF) (fun (t:Unit)=>(iter (σ:=(Int×(Int×(Int×(Int×(lS×(lM×(lB×(lG×((List Int)×(lK×Unit))))))))))) N (fun g a=>(cond (ilt a.1 8) (cond (inb a.1 (ln a.2.2.2.2.1)) (cond zcv (cond (cond (cond (ieq (ix a.2.2.2.2.1 a.1 zQ).Page zbu.Page) (ieq (ix a.2.2.2.2.1 a.1 zQ).Rights zbu.Rights) false) false true) (cond (inb a.1 (ln a.2.2.2.2.2.1)) (cond (igt (ln (ix a.2.2.2.2.2.1 a.1 [])) 0) oF (cond (inb a.1 (ln a.2.2.2.2.1)) (cond (zgn (ix a.2.2.2.2.1 a.1 zQ).Rights 1) (cond (cond (zgZ (ix a.2.2.2.2.1 a.1 zQ).Rights 1) false true) oF (cond (cond (cond (cond (ieq (ix a.2.2.2.2.1 a.1 zQ).Page zbu.Page) (ieq (ix a.2.2.2.2.1 a.1 zQ).Rights zbu.Rights) false) false true) false true) (cond (inb a.1 (ln a.2.2.2.2.2.1)) (cond (zfJ (ix a.2.2.2.2.2.1 a.1 [])) (cond (cond (zfc (ix a.2.2.2.2.2.1 a.1 [])) false true) oF (g ((zM .i64 a.1 1),(a.2.1,(a.2.2.1,(a.2.2.2.1,(a.2.2.2.2.1,(a.2.2.2.2.2.1,(a.2.2.2.2.2.2.1,(a.2.2.2.2.2.2.2.1,(a.2.2.2.2.2.2.2.2.1,(a.2.2.2.2.2.2.2.2.2.1,())))))))))))) none) none) (g ((zM .i64 a.1 1),(a.2.1,(a.2.2.1,(a.2.2.2.1,(a.2.2.2.2.1,(a.2.2.2.2.2.1,(a.2.2.2.2.2.2.1,(a.2.2.2.2.2.2.2.1,(a.2.2.2.2.2.2.2.2.1,(a.2.2.2.2.2.2.2.2.2.1,()))))))))))))) none) none)) none) (cond (cond (cond (cond (ieq (ix a.2.2.2.2.1 a.1 zQ).Page zbu.Page) (ieq (ix a.2.2.2.2.1 a.1 zQ).Rights zbu.Rights) false) false true) false true) (cond (inb a.1 (ln a.2.2.2.2.2.1)) (cond (zfJ (ix a.2.2.2.2.2.1 a.1 [])) (cond (cond (zfc (ix a.2.2.2.2.2.1 a.1 [])) false true) oF (g ((zM .i64 a.1 1),(a.2.1,(a.2.2.1,(a.2.2.2.1,(a.2.2.2.2.1,(a.2.2.2.2.2.1,(a.2.2.2.2.2.2.1,(a.2.2.2.2.2.2.2.1,(a.2.2.2.2.2.2.2.2.1,(a.2.2.2.2.2.2.2.2.2.1,())))))))))))) none) none) (g ((zM .i64 a.1 1),(a.2.1,(a.2.2.1,(a.2.2.2.1,(a.2.2.2.2.1,(a.2.2.2.2.2.1,(a.2.2.2.2.2.2.1,(a.2.2.2.2.2.2.2.1,(a.2.2.2.2.2.2.2.2.1,(a.2.2.2.2.2.2.2.2.2.1,()))))))))))))) none) none) (cond (ile (ln a.2.2.2.2.2.2.2.2.1) 40) (cond (zfe a.2.1) (cond (zfd a.2.1) (cond (zN a.2.2.1 0 3) (cond (zT a.2.2.1 0 3) (cond (zN a.2.2.2.1 0 1000000000) (some [(.one (.b (zT a.2.2.2.1 0 1000000000)))]) none) oF) none) oF) none) oF))) (0,(a0.Pending,(a0.Traps,(a0.Own,(a0.Outer,(a0.Out,(a0.Dirty,(a0.Guests,(a0.Outs,(a0.Tables,())))))))))))) (fun i f t rec=>?_) (fun t rec=>?_) _ () (c hg)).trans ?_;{simp only [zbs f,zbe f,zbj f,zbh f hg,cT];simp only[zmd,zkN,cT];cases zde a0.Guests[i]<;>rfl};{simp only [zbn,cF]};rw[zgG zde];cases A:a0.Guests.all zde;{simp only [cF];cases ile (ln a0.Outs) 40<;>cases zc3 a0.Pending<;>cases win a0.Traps 0 3<;>cases win a0.Own 0 1000000000<;>rfl};simp only[cT];refine(zAf 8 (fun j (u:Unit)=>((j:Int),a0.Pending,a0.Traps,a0.Own,a0.Outer,a0.Out,a0.Dirty,a0.Guests,a0.Outs,a0.Tables,())) _ (fun j (_:Unit) k=>bif fits a0 j then k () else oF) (fun (u:Unit)=>(cond (ile (ln a0.Outs) 40) (cond (zfe a0.Pending) (cond (zfd a0.Pending) (cond (zN a0.Traps 0 3) (cond (zT a0.Traps 0 3) (cond (zN a0.Own 0 1000000000) (some [(.one (.b (zT a0.Own 0 1000000000)))]) none) oF) none) oF) none) oF)) (fun j r u e=>?_) (fun u e=>?_) _ () (c (by decide))).trans ?_;{simp only [show ilt (j:Int) 8=true from qJ (by omega),zbh r (show 8<=big by decide),cT];have d:j<a0.Outer.length:=(by omega);have h:j<a0.Out.length:=(by omega);simp only[zcv,zbu,zfJ,zfc,zgn,zgZ,zbe d,zbe h,zOO,cT];unfold fits zlh;simp only[zbj d,zcV];cases ieq a0.Outer[j].Page noSlot.Page<;>cases ieq a0.Outer[j].Rights noSlot.Rights<;>cases enough a0.Outer[j].Rights 1<;>cases ile (ln (ix a0.Out (j:Int) [])) 0<;>cases zcl (ix a0.Out (j:Int) [])<;>rfl};{simp only [show ilt (((8:Nat)):Int) 8=false from qL (by omega),cF];rfl};rw[zFo (fits a0)];simp only[zfe,zfd,zN,zTG,cT];cases znG (fits a0) 8 0<;>cases ile (ln a0.Outs) 40<;>cases zc3 a0.Pending<;>cases win a0.Traps 0 3<;>cases win a0.Own 0 1000000000<;>rfl
theorem zR5:vM 89 zHM:=hF1 zIt zB zy zn zY3 zYc
def z8n:zW:=[(89,zHM),(173,zHF)]++z8m
theorem zIu:zK z8n:=zi zR5 (zi zRX zIt)
def zgk:List Slot->List Bool->Option (List Bool)
 |[],u=>some u
 |s::l,u=>bif ilt s.Page 0 then zgk l u else (cond (ix u s.Page false) none (zgk l (up u s.Page true)))
def zim:List Mon->List Bool->Bool
 |[],_=>true
 |m::l,u=>bif zdP m then (match zgk m.Outer u with|some a=>zim l a|none=>false) else false
def zbX (h:Host):Bool:=bif zha h.Memory 12 then (cond (win (ln h.Mons) 1 3) (cond (zeQ h.Buffer) (cond (zeQ h.IoBuffer) (zim h.Mons (rp 12 false)) false) false) false) else false
theorem zpi:∀(l:List Slot) (u a:List Bool),zgk l u=some a->a.length=u.length
 |[],u,a,h=>by cases h;rfl
 |s::l,u,a,h=>by simp only[zgk]at h;cases b:ilt s.Page 0;{rw [b]at h;cases c:ix u s.Page false;{rw [c]at h;simpa using zpi l _ a h};{rw [c]at h;cases h}};{rw [b]at h;exact zpi l u a h}
theorem zFD {t:List Slot}{n:Int}(h:zcS t n 12=true):∀s∈t,s.Page<12:=by intro s d;unfold zcS at h;cases b:t.all (fun s=>zdw s 12);{rw [b]at h;cases h};{have:=qM.1 b s d;unfold zdw at this;cases a:zcV s noSlot;{rw [a] at this;simp only[cF,show igt 12 0=true from rfl,cT] at this;cases c:win s.Page 0 (wsub .i64 12 1);{rw [c] at this;cases this};{have:=(zfC.1 c).2;rw[show wsub .i64 12 1=11 from rfl] at this;omega}};{unfold zcV at a;rw[qD]at a;have a:s.Page = -1:=qE a.1;omega}}
theorem zXt {s:Slot}{u:List Bool}(h:s.Page<12)(b:u.length=12)(a:ilt s.Page 0=false):inb s.Page (ln u)=true:=by have:=jW a;exact qJ (by simp only[ln];omega)
def ztN {a:Type}(r:Option a)(y:Slot)(u:List Bool)(κ:List Bool->Option a):Option a:=bif ilt y.Page 0 then κ u else (cond (inb y.Page (ln u)) (cond (ix u y.Page false) r (cond (inb y.Page (ln u)) (share (up u y.Page true) (fun b=>κ b)) none)) none)
theorem zzX {c:Type}(r:Option c)(K:List Bool->Option c):∀(l:List Slot) (i:Nat) (u:List Bool),(∀s∈l,s.Page<12)->u.length=12->
 goL (fun _ y u κ=>ztN r y u κ) K l i u=match zgk l u with|some f=>K f|none=>r
 |[],_,_,_,_=>rfl
 |s::l,i,u,h,b=>by simp only[goL,zgk,ztN];cases d:ilt s.Page 0;{have e:=zXt (h s (by simp)) b d;rw[e];cases ix u s.Page false;{simp only [cF,cT,share];exact zzX r K l (i+1) _ (fun s a=>h s (by simp[a])) (by simpa using b)};{rfl}};{simp only [cT];exact zzX r K l (i+1) u (fun s a=>h s (by simp[a])) b}
def z0j {a:Type}(r:Option a)(m:Mon)(u:List Bool)(κ:List Bool->Option a):Option a:=bif zdP m then goL (fun _ y u κ=>ztN r y u κ) κ m.Outer 0 u else r
theorem zc8 {c x:Bool}:((cond c x false)=true)↔c=true/\x=true:=by cases c<;>simp
theorem zl6 {m:Mon}(h:zdP m=true):zcS m.Outer 8 12=true:=by unfold zdP at h;simp only[zc8]at h;exact h.2.2.1
theorem zUI {K:Bool->OA}(k:List Bool->OA)(a:∀u,k u=K true):∀(l:List Mon) (i:Nat) (u:List Bool),u.length=12->
 goL (fun _ m u κ=>z0j (K false) m u κ) k l i u=K (zim l u)
 |[],_,u,_=>a u
 |m::l,i,u,b=>by simp only[goL,zim,z0j];cases c:zdP m;{rfl};{simp only [cT];have e:=zl6 c;rw[zzX _ _ _ _ _ (zFD e) b];cases d:zgk m.Outer u with|none=>rfl|some f=>exact zUI k a l (i+1) f ((zpi _ _ _ d).trans b)}
@[simp] abbrev znZ (h:Host):Bool:=true
@[simp] abbrev zpH (h:Host):Bool:=zbX h
def zEa:Run:=rF1 dH fun b=>(znZ b,[aB (zpH b)])
def zKb (N:Nat)(a0:Host):OA:=
 (oN (zDJ a0.Memory 12) (cond (nB (zpI a0.Memory 12)) oF (oN (zcm (ln a0.Mons) 1 3) (cond (nB (zcH (ln a0.Mons) 1 3)) oF (oN (znX a0.Buffer) (cond (nB (znW a0.Buffer)) oF (oN (znX a0.IoBuffer) (cond (nB (znW a0.IoBuffer)) oF (oN (cond (few 12) (ieq 12 12) false) (iter (σ:=(Int×(Int×(lB×(lN×Unit))))) N (fun j b=>let g:=(ix b.2.2.2.1 b.2.1 zh); (cond (ilt b.2.1 b.1) (oN (inb b.2.1 (ln b.2.2.2.1)) (oN (zrH g) (cond (nB (ztu g)) oF (iter (σ:=(Int×(Int×(Int×(Int×(Int×(lB×(lN×Unit)))))))) N (fun h a=>let e:=a.2.2.2.2.1;let f:=a.2.2.2.2.2.2.1;let i:=(ix f a.2.2.1 zh).Outer;let c:=a.2.2.2.2.2.1;let d:=(ix i e zQ).Page; (cond (ilt e a.2.2.2.1) (oN (inb e (ln i)) (cond (ilt d 0) (h (a.1,(a.2.1,(a.2.2.1,(a.2.2.2.1,((zM .i64 e 1),(c,(f,())))))))) (oN (inb d (ln c)) (cond (ix c d false) oF (oN (inb d (ln c)) (share (up c d true) (fun k=>(h (a.1,(a.2.1,(a.2.2.1,(a.2.2.2.1,((zM .i64 e 1),(k,(f,()))))))))))))))) (j (a.1,((zM .i64 a.2.1 1),(c,(f,()))))))) (b.1,(b.2.1,(b.2.1,((ln g.Outer),(0,(b.2.2.1,(b.2.2.2.1,()))))))))))) oT)) ((ln a0.Mons),(0,((rp 12 false),(a0.Mons,()))))))))))))))
def zW7:FuncId->Nat->Option Tmpl:=zq [(98,0,{n:=63,tm:=[(3,.sl 0 []),(33,.sl 1 []),(34,ti),(35,ti)],lo:=[],ro:=[(0,.bool,true),(1,.mon,false)]}),(98,2,{n:=63,tm:=[(3,.sl 0 []),(33,.sl 1 []),(34,ti),(35,ti),(43,.sl 1 [0]),(44,ti),(45,ti)],lo:=[],ro:=[(0,.bool,true),(1,.mon,false)]})]
theorem zU9 (a0:Host)(m:zb6 big [aH a0])(v:znZ a0=true):∃N,zKb N a0=some [aB (zpH a0)]:=by
 have k:CVB big (.s .mon a0.Mons):=(zdg m).1 _ (by simp[AV.cvs,zbl]);have f:=k.len;refine zcq fun N c=>?_;unfold zKb zpH zbX oN nB;conv=>zeta
 refine must rfl (stB fun n=>must rfl (stB fun p=>must rfl (stB fun q=>must rfl (stB fun r=>must rfl ?_))));refine(zbm a0.Mons (fun i (t:lB)=>((ln a0.Mons),(i:Int),t,a0.Mons,())) _ (fun _ (x:Mon) (u:List Bool) g=>z0j (oF) x u g) (fun (t:lB)=>(some [(.one (.b true))])) (fun i a t rec=>?_) (fun t rec=>?_) _ ((rp 12 false)) (c f)).trans ?_;{simp only [zbs a,zbe a,zbj a,zbh a f,cT];unfold z0j;cases h:zdP a0.Mons[i];{simp only [zrH,ztu,h,cT,cF]};simp only[zrH,ztu,h,cT,cF];have l:a0.Mons[i].Outer.length<=big:=(k.inv.2 _ (jG a) (.s .slot _) (by simp[Ty.cells])).len;refine(zbm a0.Mons[i].Outer (fun j (u:lB)=>((ln a0.Mons),(i:Int),(i:Int),(ln a0.Mons[i].Outer),(j:Int),u,a0.Mons,())) _ (fun _ (y:Slot) (u:List Bool) g=>ztN (oF) y u g) (fun (u:lB)=>(rec ((ln a0.Mons),((((i+1:Nat)):Int),(u,(a0.Mons,())))))) (fun j e u d=>?_) (fun u d=>?_) _ (t) (c l)).trans ?_;{simp only [zbs e,zbe e,zbj e,zbh e l,cT,zbe a,zbj a,zbh a f];rfl};{simp only [zbn,cF,zbe a,zbj a,zbh a f]};rfl};{simp only [zbn,cF]};exact zUI (K:=fun b=>some [AV.one (.b b)]) _ (fun _=>rfl) _ _ _ rfl
theorem zN7:vM 98 zEa:=hF1 zIu zB zy zn zW7 zU9
@[simp] abbrev zew (h:Host):Bool:=true
@[simp] abbrev zeD (h:Host):Bool:=zbX h
theorem zID {d:Type}(r:Option d)(k:List Bool->Option d)(m:Mon):∀(n i:Nat) (u:List Bool),(∀s∈m.Outer,s.Page<12)->u.length=12->i+n=m.Outer.length->
 goN (fun j u κ=>bif inb (j:Int) (ln m.Outer) then ztN r (ix m.Outer (j:Int) zQ) u κ else none) k n i u=goL (fun _ y u κ=>ztN r y u κ) k (m.Outer.drop i) i u
 | 0,i,u,_,_,h=>by have:i=m.Outer.length:=(by omega);subst this;simp[goN,goL]
 |n+1,i,u,b,c,h=>by have a:i<m.Outer.length:=(by omega);rw[kL a];simp only[goN,goL,zbe a,zbj a,cT,ztN];cases e:ilt m.Outer[i].Page 0;{rw [zXt (b _ (jG a)) c e];cases ix u m.Outer[i].Page false;{simp only [cF,cT,share];exact zID r k m n (i+1) _ b (by simpa using c) (by omega)};{rfl}};{simp only [cT];exact zID r k m n (i+1) u b c (by omega)}
def zux:Run:=rF1 dH fun b=>(zew b,[aB (zeD b)])
def zKr (N:Nat)(a0:Host):OA:=
 (oN (zrS a0.Memory 12) (cond (nB (zlx a0.Memory 12)) oF (oN (zN (ln a0.Mons) 1 3) (cond (nB (zT (ln a0.Mons) 1 3)) oF (oN (zou a0.Buffer) (cond (nB (zot a0.Buffer)) oF (oN (zou a0.IoBuffer) (cond (nB (zot a0.IoBuffer)) oF (oN (cond (few 12) (ieq 12 12) false) (iter (σ:=(Int×(lB×(lM×(lN×(lE×(lE×Unit))))))) N (fun p b=>let m:=(ix b.2.2.2.1 b.1 zh); (cond (ilt b.1 (ln b.2.2.2.1)) (oN (inb b.1 (ln b.2.2.2.1)) (oN (zrU m) (cond (nB (ztz m)) oF (iter (σ:=(Int×(Int×(lB×(lM×(lN×(lE×(lE×Unit)))))))) N (fun h a=>let j:=(zM .i64 a.2.1 1);let g:=a.2.2.2.2.2.1;let f:=a.2.2.2.2.2.2.1;let e:=a.2.2.1;let d:=a.2.2.2.2.1;let n:=(ix d a.1 zh).Outer;let l:=(h (a.1,(j,(e,(a.2.2.2.1,(d,(g,(f,()))))))));let c:=(ix n a.2.1 zQ).Page;let k:=(inb c (ln e)); (cond (ilt a.2.1 8) (oN (inb a.1 (ln d)) (oN (inb a.2.1 (ln n)) (cond (ige c 0) (oN k (cond (ix e c false) oF (cond (ige c 0) (oN k (share (up e c true) (fun i=>(h (a.1,(j,(i,(a.2.2.2.1,(d,(g,(f,()))))))))))) l))) (cond (ige c 0) (oN k (share (up e c true) (fun i=>(h (a.1,(j,(i,(a.2.2.2.1,(d,(g,(f,()))))))))))) l)))) (p ((zM .i64 a.1 1),(e,(a.2.2.2.1,(d,(g,(f,()))))))))) (b.1,(0,(b.2.1,(b.2.2.1,(b.2.2.2.1,(b.2.2.2.2.1,(b.2.2.2.2.2.1,()))))))))))) oT)) (0,((rp 12 false),(a0.Memory,(a0.Mons,(a0.Buffer,(a0.IoBuffer,()))))))))))))))))
def zXd:FuncId->Nat->Option Tmpl:=zq [(38,0,{n:=72,tm:=[(1,.lp 0 0),(3,.sl 0 []),(4,ti)],lo:=[(0,[.sl 1 [],.sl 2 [],.sl 3 [],.sl 4 []])],ro:=[(0,.bool,true),(1,(.sl .int),false),(2,.mon,false),(3,.entry,false),(4,.entry,false)]}),(38,2,{n:=72,tm:=[(1,.lp 0 0),(3,.sl 0 []),(4,ti),(5,ti)],lo:=[(0,[.sl 1 [],.sl 2 [],.sl 3 [],.sl 4 []])],ro:=[(0,.bool,true),(1,(.sl .int),false),(2,.mon,false),(3,.entry,false),(4,.entry,false)]})]
theorem zVr (a0:Host)(w:zb6 big [aH a0])(E:zew a0=true):∃N,zKr N a0=some [aB (zeD a0)]:=by
 have z:CVB big (.s .mon a0.Mons):=(zdg w).1 _ (by simp[AV.cvs,zbl]);have g:=z.len;refine zcq fun N d=>?_;unfold zKr zeD zbX oN nB;conv=>zeta
 refine must rfl (stB fun C=>must rfl (stB fun p=>must rfl (stB fun q=>must rfl (stB fun D=>must rfl ?_))));refine(zbm a0.Mons (fun i (t:lB)=>((i:Int),t,a0.Memory,a0.Mons,a0.Buffer,a0.IoBuffer,())) _ (fun _ (x:Mon) (u:List Bool) c=>bif zdP x then goN (fun j u c=>bif inb (j:Int) (ln x.Outer) then ztN (oF) (ix x.Outer (j:Int) zQ) u c else none) c 8 0 u else oF) (fun (t:lB)=>(some [(.one (.b true))])) (fun i a t rec=>?_) (fun t rec=>?_) _ ((rp 12 false)) (d g)).trans ?_;{simp only [zbs a,zbe a,zbj a,zbh a g,cT];cases r:zdP a0.Mons[i];{simp only [zrU,ztz,r,cT,cF]};simp only[zrU,ztz,r,cT,cF];refine(zAf 8 (fun j (u:lB)=>((i:Int),(j:Int),u,a0.Memory,a0.Mons,a0.Buffer,a0.IoBuffer,())) _ (fun j (u:List Bool) c=>bif inb (j:Int) (ln a0.Mons[i].Outer) then ztN (oF) (ix a0.Mons[i].Outer (j:Int) zQ) u c else none) (fun (u:lB)=>(rec ((((i+1:Nat)):Int),(u,(a0.Memory,(a0.Mons,(a0.Buffer,(a0.IoBuffer,())))))))) (fun j y u f=>?_) (fun u f=>?_) _ (t) (d (by decide))).trans ?_;{simp only [show ilt (j:Int) 8=true from qJ (by omega),zbh y (show 8<=big by decide),cT,zbe a,zbj a,zbh a g];unfold ztN;have e:ige (ix a0.Mons[i].Outer (j:Int) zQ).Page 0 = !ilt (ix a0.Mons[i].Outer (j:Int) zQ).Page 0:=(by rw[zbau,Bool.not_not]);simp only[e];cases ilt (ix a0.Mons[i].Outer (j:Int) zQ).Page 0<;>cases inb (j:Int) (ln a0.Mons[i].Outer)<;>cases inb (ix a0.Mons[i].Outer (j:Int) zQ).Page (ln u)<;>cases ix u (ix a0.Mons[i].Outer (j:Int) zQ).Page false<;>rfl};{simp only [show ilt (((8:Nat)):Int) 8=false from qL (by omega),cF,zbe a,zbj a,zbh a g]};rfl};{simp only [zbn,cF]};have n:∀(l:List Mon) (i:Nat) (u:List Bool),u.length=12->goL (fun _ (x:Mon) (u:List Bool) c=>bif zdP x then goN (fun j u c=>bif inb (j:Int) (ln x.Outer) then ztN (oF) (ix x.Outer (j:Int) zQ) u c else none) c 8 0 u else oF) (fun _=>oT) l i u=some [AV.one (.b (zim l u))]:=(by intro l;induction l with|nil=>intro i u _;rfl|cons m l A=>intro i u k;simp only[goL,zim];cases p:zdP m;{rfl};{have h:=zl6 p;have v:0+8=m.Outer.length:=(by have:=zr1 h;simp only[ln] at this;omega);simp only[cT];rw[zID _ _ m 8 0 u (zFD h) k v,vB,zzX _ _ _ _ _ (zFD h) k];cases q:zgk m.Outer u with|none=>rfl|some B=>exact A (i+1) B ((zpi _ _ _ q).trans k)});exact n _ _ _ rfl
theorem zx7:vM 38 zux:=hF1 zIu zB zy zn zXd zVr
def z8o:zW:=[(38,zux),(98,zEa)]++z8n
theorem zzK:zK z8o:=zi zx7 (zi zN7 zIu)
theorem z0Z {h:Host}(a:zbX h=true):(h.Mons.length:Int)<=3:=by unfold zbX at a;simp only[zc8]at a;exact(zfC.1 a.2.1).2
def zcJ (h:Host)(m:Int):Bool:=bif zbX h then hasB m (ln h.Mons) else false
def zbU (h:Host)(m p:Int):Bool:=bif zbX h then (cond (hasB m (ln h.Mons)) (hasB p 8) false) else false
theorem zQm {h:Host}(a:zbX h=true)(m:Int):win m 0 (wsub .i64 (ln h.Mons) 1)=hasB m (ln h.Mons):=zqh (by have:=z0Z a;omega) m
theorem win7 (p:Int):win p 0 7=hasB p 8:=by unfold win ige ile hasB;by_cases a:0<=p<;>by_cases b:p<8;{rw [qJ (p:=p≥0) (by omega),qJ (p:=p<=7) (by omega),qJ (p:=0<=p/\p<8) ⟨a,b⟩];rfl};{rw [qL (p:=p<=7) (by omega),qL (p:=0<=p/\p<8) (by omega)];simp};{rw [qL (p:=p≥0) (by omega),qL (p:=0<=p/\p<8) (by omega)];simp};{rw [qL (p:=p≥0) (by omega),qL (p:=0<=p/\p<8) (by omega)];simp}
@[simp] abbrev zfh (h:Host)(m:Int):Bool:=true
@[simp] abbrev zfg (h:Host)(m:Int):Bool:=zcJ h m
def zEG:Run:=rF2 dH dI fun b c=>(zfh b c,[aB (zfg b c)])
def zKM (N:Nat)(a0:Host)(a:Int):OA:=
 (oN (zew a0) (cond (zeD a0) (oN (zN a 0 (wsub .i64 (ln a0.Mons) 1)) (some [(aB (zT a 0 (wsub .i64 (ln a0.Mons) 1)))])) oF))
theorem zVO (a0:Host)(a:Int)(c:zfh a0 a=true):∃N,zKM N a0 a=some [aB (zfg a0 a)]:=by refine⟨0,?_⟩;unfold zKM zfg zcJ oN;cases b:zbX a0;{simp only [zew,zeD,b,cT,cF]};{simp only [zew,zeD,b,cT,zN,zTG,zQm b]}
theorem zOM:vM 239 zEG:=kF2 zzK zB zy zn (zq []) zVO
@[simp] abbrev zny (h:Host)(m p:Int):Bool:=true
@[simp] abbrev zhp (h:Host)(m p:Int):Bool:=zbU h m p
def zHS:Run:=rF3 dH dI dI fun b c d=>(zny b c d,[aB (zhp b c d)])
def zQG (N:Nat)(a0:Host)(a b:Int):OA:=
 (oN (zew a0) (cond (zeD a0) (oN (zN a 0 (wsub .i64 (ln a0.Mons) 1)) (cond (zT a 0 (wsub .i64 (ln a0.Mons) 1)) (oN (zN b 0 7) (some [(aB (zT b 0 7))])) oF)) oF))
theorem zYj (a0:Host)(a b:Int)(d:zny a0 a b=true):∃N,zQG N a0 a b=some [aB (zhp a0 a b)]:=by refine⟨0,?_⟩;unfold zQG zhp zbU oN;cases c:zbX a0;{simp only [zew,zeD,c,cT,cF]};{simp only [zew,zeD,c,cT,zN,zTG,zQm c,win7];cases hasB a (ln a0.Mons)<;>rfl}
theorem zSe:vM 74 zHS:=kF3 zzK zB zy zn (zq []) zYj
@[simp] abbrev zlZ (h:Host)(m p:Int):Bool:=true
@[simp] abbrev zhA (h:Host)(m p:Int):Bool:=zbU h m p
def zBF:Run:=rF3 dH dI dI fun b c d=>(zlZ b c d,[aB (zhA b c d)])
def zGH (N:Nat)(a0:Host)(a b:Int):OA:=
 (oN (znZ a0) (cond (zpH a0) (oN (zio a (ln a0.Mons)) (cond (zka a (ln a0.Mons)) (oN (zio b 8) (some [(aB (zka b 8))])) oF)) oF))
theorem zSn (a0:Host)(a b:Int)(d:zlZ a0 a b=true):∃N,zGH N a0 a b=some [aB (zhA a0 a b)]:=by refine⟨0,?_⟩;unfold zGH zhA zbU oN;cases c:zbX a0;{simp only [znZ,zpH,c,cT,cF]};{simp only [znZ,zpH,c,cT,zio,zka];cases hasB a (ln a0.Mons)<;>rfl}
theorem zLt:vM 69 zBF:=kF3 zzK zB zy zn (zq []) zSn
def z8p:zW:=[(239,zEG),(74,zHS),(69,zBF)]++z8o
theorem zUj:zK z8p:=zi zOM (zi zSe (zi zLt zzK))
def zdv (k:Kept)(p:Int):Bool:=bif hasB p (ln k.Known) then hasB p (ln k.Slots) else false
def zbR (k:Kept)(p:Int):Kept:=bif zdv k p then ⟨up k.Known p false,up k.Slots p noSlot⟩ else k
@[simp] theorem zph {k:Kept}{p:Int}(h:SmK k):SmK (zbR k p):=by unfold zbR;cases zdv k p;{exact h};{exact⟨by simpa using h.1,by simpa using h.2⟩}
theorem has_lt {p:Int}{n m:Int}(h:hasB p n=true):ilt p m=hasB p m:=by have h:=qE h;unfold ilt hasB;by_cases a:p<m;{rw [qJ a,qJ ⟨h.1,a⟩]};{rw [qL a,qL (by omega)]}
@[simp] abbrev zoY (k:Kept)(p:Int):Bool:=pc (SmK k)
@[simp] abbrev zh7 (k:Kept)(p:Int):Bool:=zdv k p
def zEE:Run:=rF2 (dT .kept) dI fun b c=>(zoY b c,[aB (zh7 b c)])
def zKK (N:Nat)(a0:Kept)(a:Int):OA:=
 (oN (zN a 0 (wsub .i64 (ln a0.Known) 1)) (cond (zT a 0 (wsub .i64 (ln a0.Known) 1)) (some [(aB (ilt a (ln a0.Slots)))]) oF))
theorem zVL (a0:Kept)(a:Int)(b:zoY a0 a=true):∃N,zKK N a0 a=some [aB (zh7 a0 a)]:=by have d:=zL.1 b;refine⟨0,?_⟩;unfold zKK zh7 zdv oN;simp only[zN,zTG,zqh d.1,cT];cases c:hasB a (ln a0.Known);{rfl};{simp only [cT,has_lt c]}
theorem zOC:vM 274 zEE:=kF2 zUj zB zy zn (zq []) zVL
def z8q:zW:=[(274,zEE)]++z8p
theorem zIv:zK z8q:=zi zOC zUj
@[simp] abbrev zlq (k:Kept)(p:Int):Bool:=pc (SmK k)
@[simp] abbrev zkM (k:Kept)(p:Int):Kept:=zbR k p
def zEo:Run:=rF2 (dT .kept) dI fun b c=>(zlq b c,[aT .kept (zkM b c)])
def zKp (N:Nat)(a0:Kept)(b:Int):OA:=
 let a:=(zdp a0); (oN (zfM a0) (oN (zoY a b) (cond (zh7 a b) (oN (inb b (ln a.Known)) (share (up a.Known b false) (fun c=>(oN zcv (oN (inb b (ln a.Slots)) (share (up a.Slots b zbu) (fun d=>(some [(aT .kept (⟨c,d⟩:Kept))])))))))) (some [(aT .kept a)]))))
theorem zVp (a0:Kept)(a:Int)(f:zlq a0 a=true):∃N,zKp N a0 a=some [aT .kept (zkM a0 a)]:=by
 have c:=zL.1 f;refine⟨0,?_⟩;unfold zKp zkM oN;conv=>zeta
 refine must (zbC ((zxU _).2 c)) (must (zbC c) ?_);unfold zbR;cases b:zdv a0 a;{simp only [zh7,zdp,b,cF]};{simp only [zh7,zdp,b,cT];unfold zdv at b;obtain⟨d,e⟩:=zc8.1 b;simp only[zUY,d,e,cT,share,zcv]}
theorem zOl:vM 208 zEo:=kF2 zIv zB zy zn (zq []) zVp
@[simp] abbrev zz5 (k:Kept)(p:Int):Bool:=pc (SmK k)
@[simp] abbrev zt6 (k:Kept)(p:Int):Kept:=zbR k p
def zD9:Run:=rF2 (dT .kept) dI fun b c=>(zz5 b c,[aT .kept (zt6 b c)])
def zJ9 (N:Nat)(a0:Kept)(a:Int):OA:=
 let b:=(zdG a0); (oN (zgW a0) (oN (zio a (ln a0.Known)) (cond (zka a (ln a0.Known)) (oN (zio a (ln a0.Slots)) (cond (zka a (ln a0.Slots)) (oN (inb a (ln b.Known)) (share (up b.Known a false) (fun c=>(oN zfG (oN (inb a (ln b.Slots)) (share (up b.Slots a zgb) (fun d=>(some [(aT .kept (⟨c,d⟩:Kept))])))))))) (some [(aT .kept b)]))) (some [(aT .kept b)]))))
theorem zU7 (a0:Kept)(a:Int)(b:zz5 a0 a=true):∃N,zJ9 N a0 a=some [aT .kept (zt6 a0 a)]:=by
 have c:=zL.1 b;refine⟨0,?_⟩;unfold zJ9 zt6 oN;conv=>zeta
 refine must (zbC c) (must rfl ?_);unfold zbR zdv;simp only[zka,zio,zdG,zUY,share,zfG,cT];cases hasB a (ln a0.Known);{rfl};{cases hasB a (ln a0.Slots)<;>rfl}
theorem zN6:vM 205 zD9:=kF2 zIv zB zy zn (zq []) zU7
def z8r:zW:=[(208,zEo),(205,zD9)]++z8q
theorem ztP:zK z8r:=zi zOl (zi zN6 zIv)
def zef (k:Kept)(l:List Int):Kept:=l.foldl zbR k
theorem zZY:∀(l:List Int) {k:Kept},SmK k->SmK (zef k l)
 |[],_,h=>h
 |p::l,k,h=>zZY l (zph (p:=p) h)
theorem zzW {a:Type}(K:List Bool×List Slot->Option a):∀(l:List Int) (i:Nat) (k:Kept),SmK k->
 goL (fun _ x (t:List Bool×List Slot) κ=>bif pc (SmK ⟨t.1,t.2⟩) then κ ((zbR ⟨t.1,t.2⟩ x).Known,(zbR ⟨t.1,t.2⟩ x).Slots) else none) K l i (k.Known,k.Slots)=K ((zef k l).Known,(zef k l).Slots)
 |[],_,_,_=>rfl
 |x::l,i,k,h=>by have e:pc (SmK ⟨k.Known,k.Slots⟩)=true:=zbC h;simp only[goL,e,cT];exact zzW K l (i+1) (zbR k x) (zph h)
def zE4 (l:List Slot)(p:Int):List Int:=idxs (fun (s:Slot)=>ieq s.Page p) l 0
def zhv (k:Kept)(l:List Slot)(p:Int):Kept:=zef k (zE4 l p)
theorem z7k {k:Kept}(l:List Slot)(p:Int)(h:SmK k):SmK (zhv k l p):=zZY _ h
@[simp] abbrev zlp (k:Kept)(l:List Slot)(p:Int):Bool:=pc (SmK k/\l.length<=1048576)
@[simp] abbrev zuF (k:Kept)(l:List Slot)(p:Int):Kept:=zhv k l p
def zut:Run:=rF3 (dT .kept) (dS .slot) dI fun b c d=>(zlp b c d,[aT .kept (zuF b c d)])
def zxP (N:Nat)(a0:Kept)(d:lS)(e:Int):OA:=
 (oN (zfM a0) (oN (zAF d e) (iter (σ:=(Int×((List Int)×(lB×(lS×(lB×(lS×Unit))))))) N (fun f a=>let c:=(ix a.2.1 a.1 0);let b:=(⟨a.2.2.1,a.2.2.2.1⟩:Kept); (cond (ilt a.1 (ln a.2.1)) (oN (inb a.1 (ln a.2.1)) (oN (zlq b c) (f ((zM .i64 a.1 1),(a.2.1,((zkM b c).Known,((zkM b c).Slots,(a.2.2.2.2.1,(a.2.2.2.2.2.1,()))))))))) (some [(aT .kept b)]))) (0,((zp9 d e),((zdp a0).Known,((zdp a0).Slots,([],([],())))))))))
def zJ2:FuncId->Nat->Option Tmpl:=zq [(134,0,{n:=27,tm:=[(3,.lp 0 0),(6,.lp 1 0),(7,.sl 0 []),(8,ti)],lo:=[(0,[.sl 1 [],.sl 2 []]),(1,[.sl 3 [],.sl 4 []])],ro:=[(0,.int,true),(1,.bool,true),(2,.slot,true),(3,.bool,true),(4,.slot,true)]})]
theorem zJt (a0:Kept)(a:List Slot)(b:Int)(h:zlp a0 a b=true):∃N,zxP N a0 a b=some [aT .kept (zuF a0 a b)]:=by
 obtain⟨g,e⟩:=zL.1 h;have f:(zp9 a b).length<=big:=qU (zAd _ a 0) (zcF e).1;refine zcq fun N d=>?_;unfold zxP oN;conv=>zeta
 refine must (zbC ((zxU _).2 g)) (must (zbC (by omega)) ?_);refine(zbm (zp9 a b) (fun i (t:lB×lS)=>((i:Int),(zp9 a b),t.1,t.2,[],[],())) _ (fun _ (x:Int) (t:List Bool×List Slot) j=>bif pc (SmK ⟨t.1,t.2⟩) then j ((zbR ⟨t.1,t.2⟩ x).Known,(zbR ⟨t.1,t.2⟩ x).Slots) else none) (fun (t:lB×lS)=>(some [(.agg (Ty.cells .kept (⟨t.1,t.2⟩:Kept)))])) (fun i c t rec=>?_) (fun t rec=>?_) _ ((zdp a0).Known,(zdp a0).Slots) (d f)).trans ?_;{simp only [zbs c,zbe c,zbj c,zbh c f,cT]};{simp only [zbn,cF]};exact zzW _ _ 0 a0 g
theorem zDB:vM 134 zut:=kF3 ztP zB zy zn zJ2 zJt
@[simp] abbrev zin (k:Kept)(l:List Slot)(p:Int):Bool:=pc (SmK k/\l.length<=1048576)
@[simp] abbrev znY (k:Kept)(l:List Slot)(p:Int):Kept:=zhv k l p
def zum:Run:=rF3 (dT .kept) (dS .slot) dI fun b c d=>(zin b c d,[aT .kept (znY b c d)])
def zxH (N:Nat)(a0:Kept)(c:lS)(d:Int):OA:=
 (oN (zgW a0) (oN (zAa c d) (iter (σ:=(Int×(Int×((List Int)×(lB×(lS×(lB×(lS×Unit)))))))) N (fun f a=>let e:=(ix a.2.2.1 a.2.1 0);let b:=(⟨a.2.2.2.2.2.1,a.2.2.2.2.2.2.1⟩:Kept); (cond (ilt a.2.1 a.1) (oN (inb a.2.1 (ln a.2.2.1)) (oN (zz5 b e) (f (a.1,((zM .i64 a.2.1 1),(a.2.2.1,(a.2.2.2.1,(a.2.2.2.2.1,((zt6 b e).Known,((zt6 b e).Slots,())))))))))) (some [(aT .kept b)]))) ((ln (zkt c d)),(0,((zkt c d),([],([],((zdG a0).Known,((zdG a0).Slots,()))))))))))
def zJX:FuncId->Nat->Option Tmpl:=zq [(129,0,{n:=25,tm:=[(6,.lp 0 0),(7,.lp 1 0),(14,.sl 0 []),(15,ti),(16,ti)],lo:=[(0,[.sl 1 [],.sl 2 []]),(1,[.sl 3 [],.sl 4 []])],ro:=[(0,.int,true),(1,.bool,true),(2,.slot,true),(3,.bool,true),(4,.slot,true)]})]
theorem zJk (a0:Kept)(a:List Slot)(b:Int)(h:zin a0 a b=true):∃N,zxH N a0 a b=some [aT .kept (znY a0 a b)]:=by
 obtain⟨g,e⟩:=zL.1 h;have f:(zkt a b).length<=big:=qU (zAd _ a 0) (zcF e).1;refine zcq fun N d=>?_;unfold zxH oN;conv=>zeta
 refine must (zbC g) (must (zbC (by omega)) ?_);refine(zbm (zkt a b) (fun i (t:lB×lS)=>((ln (zkt a b)),(i:Int),(zkt a b),[],[],t.1,t.2,())) _ (fun _ (x:Int) (t:List Bool×List Slot) j=>bif pc (SmK ⟨t.1,t.2⟩) then j ((zbR ⟨t.1,t.2⟩ x).Known,(zbR ⟨t.1,t.2⟩ x).Slots) else none) (fun (t:lB×lS)=>(some [(.agg (Ty.cells .kept (⟨t.1,t.2⟩:Kept)))])) (fun i c t rec=>?_) (fun t rec=>?_) _ ((zdG a0).Known,(zdG a0).Slots) (d f)).trans ?_;{simp only [zbs c,zbe c,zbj c,zbh c f,cT]};{simp only [zbn,cF]};exact zzW _ _ 0 a0 g
theorem zDv:vM 129 zum:=kF3 ztP zB zy zn zJX zJk
def flushed (l:List Entry)(p:Int):List Entry:=l.filter fun e=>!ieq e.Host p
theorem zHn (l:List Entry)(p:Int):(flushed l p).length<=l.length:=k9 _ _
theorem znT {b d:Type}(p:b->Bool)(K:List b->Option d):∀(l:List b) (i:Nat) (a:List b),a.length+l.length<=2147483648->
 goL (fun _ x a κ=>bif p x then (cond (few (ln (ap a [x]))) (κ (ap a [x])) none) else κ a) K l i a=K (a++l.filter p)
 |[],i,a,_=>by simp[goL]
 |x::l,i,a,h=>by simp only[qY]at h;simp only[goL];cases c:p x;{rw [cF,znT p K l (i+1) a (by omega),List.filter_cons_of_neg (by simp[c])]};{rw [cT,zgi (by simp[ap];omega),cT,znT p K l (i+1) _ (by simp[ap];omega),List.filter_cons_of_pos c];simp[ap]}
@[simp] abbrev zho (l:List Entry)(p:Int):Bool:=pc (l.length<=1048576)
@[simp] abbrev zqO (l:List Entry)(p:Int):List Entry:=flushed l p
def zwa:Run:=rF2 (dS .entry) dI fun b c=>(zho b c,[aS .entry (zqO b c)])
def zBc (N:Nat)(a0:lE)(e:Int):OA:=
 (iter (σ:=(Int×(Int×(lE×(lE×Unit))))) N (fun d a=>let b:=a.2.2.1;let c:=(ix b a.2.1 zeO); (cond (ilt a.2.1 (ln b)) (oN (inb a.2.1 (ln b)) (cond (ine c.Host a.1) (oN (inb a.2.1 (ln b)) (oN (few (ln (ap a.2.2.2.1 [c]))) (d (a.1,((zM .i64 a.2.1 1),(b,((ap a.2.2.2.1 [c]),()))))))) (d (a.1,((zM .i64 a.2.1 1),(b,(a.2.2.2.1,()))))))) (some [(aS .entry a.2.2.2.1)]))) (e,(0,(a0,([],())))))
def zNA:FuncId->Nat->Option Tmpl:=zq [(135,0,{n:=29,tm:=[(0,.sl 0 []),(1,ti),(5,.sl 1 []),(6,ti)],lo:=[],ro:=[(0,.entry,false),(1,.entry,true)]})]
theorem zMr (a0:List Entry)(a:Int)(g:zho a0 a=true):∃N,zBc N a0 a=some [aS .entry (zqO a0 a)]:=by
 have h:=zL.1 g;have d:=zcF h;refine zcq fun N c=>?_;unfold zBc oN;conv=>zeta
 refine(zbm a0 (fun i (t:lE)=>(a,(i:Int),a0,t,())) _ (fun _ (x:Entry) (t:List Entry) f=>bif !ieq x.Host a then (cond (few (ln (ap t [x]))) (f (ap t [x])) none) else f t) (fun (t:lE)=>(some [(.one (.s .entry t))])) (fun i b t rec=>?_) (fun t rec=>?_) _ ([]) (c d.1)).trans ?_;{simp only [zbs b,zbe b,zbj b,zbh b d.1,cT];rfl};{simp only [zbn,cF]};exact znT (fun e=>!ieq e.Host a) _ a0 0 [] (by simpa using d.2)
theorem zFW:vM 135 zwa:=kF2 ztP zB zy zn zNA zMr
@[simp] abbrev zdZ (l:List Entry)(p:Int):Bool:=pc (l.length<=1048576)
@[simp] abbrev zgu (l:List Entry)(p:Int):List Entry:=flushed l p
def zvY:Run:=rF2 (dS .entry) dI fun b c=>(zdZ b c,[aS .entry (zgu b c)])
def zAZ (N:Nat)(a0:lE)(e:Int):OA:=
 (iter (σ:=(Int×(Int×(Int×(lE×(lE×Unit)))))) N (fun d a=>let b:=a.2.2.2.2.1;let c:=(ix b a.2.1 zeO); (cond (ilt a.2.1 a.1) (oN (inb a.2.1 (ln b)) (cond (nB (ieq c.Host a.2.2.1)) (oN (few (ln (ap a.2.2.2.1 [c]))) (d (a.1,((zM .i64 a.2.1 1),(a.2.2.1,((ap a.2.2.2.1 [c]),(b,()))))))) (d (a.1,((zM .i64 a.2.1 1),(a.2.2.1,(a.2.2.2.1,(b,())))))))) (some [(aS .entry a.2.2.2.1)]))) ((ln a0),(0,(e,([],(a0,()))))))
def zNt:FuncId->Nat->Option Tmpl:=zq [(206,0,{n:=25,tm:=[(1,.fn 207 [0]),(5,.sl 0 []),(9,.sl 1 []),(10,ti),(11,ti)],lo:=[(0,[ti])],ro:=[(0,.entry,true),(1,.entry,false)]})]
theorem zMd (a0:List Entry)(a:Int)(g:zdZ a0 a=true):∃N,zAZ N a0 a=some [aS .entry (zgu a0 a)]:=by
 have h:=zL.1 g;have d:=zcF h;refine zcq fun N c=>?_;unfold zAZ oN nB;conv=>zeta
 refine(zbm a0 (fun i (t:lE)=>((ln a0),(i:Int),a,t,a0,())) _ (fun _ (x:Entry) (t:List Entry) f=>bif !ieq x.Host a then (cond (few (ln (ap t [x]))) (f (ap t [x])) none) else f t) (fun (t:lE)=>(some [(.one (.s .entry t))])) (fun i b t rec=>?_) (fun t rec=>?_) _ ([]) (c d.1)).trans ?_;{simp only [zbs b,zbe b,zbj b,zbh b d.1,cT];cases ieq a0[i].Host a<;>rfl};{simp only [zbn,cF]};exact znT (fun e=>!ieq e.Host a) _ a0 0 [] (by simpa using d.2)
theorem zFK:vM 130 zvY:=kF2 ztP zB zy zn zNt zMd
def z0s:zW:=[(134,zut),(129,zum),(135,zwa),(130,zvY)]++z8r
theorem zzL:zK z0s:=zi zDB (zi zDv (zi zFW (zi zFK ztP)))
def zjs (b:List Guest)(p:Int):Nat->List Kept->List Kept
 | 0,a=>a
 |n+1,a=>up (zjs b p n a) (n:Int) (zhv (ix (zjs b p n a) (n:Int) zep) (ix b (n:Int) zC).Live p)
theorem znd (b:List Guest)(p:Int):∀(n:Nat) (a:List Kept),(zjs b p n a).length=a.length
 | 0,_=>rfl
 |n+1,a=>by simp only[zjs,zf0];exact znd b p n a
theorem zr0 (b:List Guest)(p:Int):∀(n:Nat) (a:List Kept),n<=a.length->zC6 a->zC6 (zjs b p n a)
 | 0,_,_,h=>h
 |n+1,a,e,h=>by have d:=zr0 b p n a (by omega) h;have c:n<(zjs b p n a).length:=(by rw[znd];omega);exact zzf d (z7k _ _ (by rw[zbj c];exact d.2 _ (jG c)))
def zhj (x:Mon)(p:Int)(n:Nat):Mon:={x with Tables:=zjs x.Guests p n x.Tables}
theorem z4T {x:Mon}{p:Int}{n:Nat}(a:n<=x.Tables.length)(h:zeP x):zeP (zhj x p n):=⟨h.1,h.2.1,h.2.2.1,h.2.2.2.1,h.2.2.2.2.1,zr0 _ _ _ _ a h.2.2.2.2.2⟩
def zb8 (h:Host)(m p:Int)(s:Slot):Host :=
 bif ine (ix (ix h.Mons m zh).Outer p zQ).Page (-1)
 then ⟨h.Memory,up h.Mons m {zhj (ix h.Mons m zh) p (ix h.Mons m zh).Tables.length with Outer:=up (ix h.Mons m zh).Outer p s},flushed h.Buffer (ix (ix h.Mons m zh).Outer p zQ).Page,flushed h.IoBuffer (ix (ix h.Mons m zh).Outer p zQ).Page⟩
 else ⟨h.Memory,up h.Mons m {zhj (ix h.Mons m zh) p (ix h.Mons m zh).Tables.length with Outer:=up (ix h.Mons m zh).Outer p s},h.Buffer,h.IoBuffer⟩
def zbbe (h:Host)(m p:Int):Prop:=hasB m (ln h.Mons)=true/\hasB p (ln (ix h.Mons m zh).Outer)=true/\(ix h.Mons m zh).Tables.length<=(ix h.Mons m zh).Guests.length
@[simp] abbrev zeY (h:Host)(m p:Int)(s:Slot):Bool:=pc (zci h/\zbbe h m p)
@[simp] abbrev zgA (h:Host)(m p:Int)(s:Slot):Host:=zb8 h m p s
def zst:List AV->Option (Bool×List AV)
 |[.agg [.s (.sl .int) b,.s .mon c,.s .entry d,.s .entry e],.one (.i .i64 f),.one (.i .i64 g),.agg [.i .i64 h,.i .i64 j]]=>some ((zeY (⟨b,c,d,e⟩:Host) f g (⟨h,j⟩:Slot)),[aH (zgA (⟨b,c,d,e⟩:Host) f g (⟨h,j⟩:Slot))])
 |_=>none
def zw3 (N:Nat)(a0:Host)(g y:Int)(A:Slot):OA:=
 let u:=(ix a0.Mons g zh); (oN (inb g (ln a0.Mons)) (oN (inb y (ln u.Outer)) (iter (σ:=(Int×(Int×(Int×(Int×(Int×(Int×(Int×(Int×(Int×(Int×(Int×(Int×(Int×(Int×(Int×(lM×(lN×(lE×(lE×(lM×(lN×(lE×(lE×Unit)))))))))))))))))))))))) N (fun C a=>let d:=a.2.2.1;let m:=a.2.2.2.2.2.2.2.2.2.2.2.1;let l:=a.2.2.2.2.2.2.2.2.2.2.2.2.1;let k:=a.2.2.2.2.2.2.2.2.2.2.2.2.2.2.1;let j:=a.2.2.2.2.2.2.2.2.2.2.2.2.2.2.2.1;let f:=a.2.2.2.2.2.2.2.1;let e:=a.2.2.2.2.2.2.2.2.1;let c:=a.2.2.2.1;let v:=a.2.2.2.2.2.2.2.2.2.2.1;let x:=a.2.2.2.2.2.2.2.2.2.2.2.2.2.2.2.2.2.1;let w:=a.2.2.2.2.2.2.2.2.2.2.2.2.2.2.2.2.2.2.1;let n:=a.2.2.2.2.2.2.1;let q:=a.2.2.2.2.2.2.2.2.2.1;let i:=a.2.2.2.2.2.2.2.2.2.2.2.2.2.1;let p:=a.2.2.2.2.2.2.2.2.2.2.2.2.2.2.2.2.1;let t:=(ix p q zh).Guests;let s:=(ix t c zC).Live;let h:=(ix p n zh);let r:=(ix p i zh).Tables;let B:=(up p n ({h with Outer:=(up h.Outer a.2.1 (⟨a.2.2.2.2.1,a.2.2.2.2.2.1⟩:Slot))}:Mon)); (cond (ilt c (ln r)) (oN (inb c (ln r)) (oN (inb c (ln t)) (oN (zlp (ix r c zep) s a.2.1) (oN (inb c (ln r)) (share (up p i ({ (ix p i zh) with Tables:=(up r c (zuF (ix r c zep) s a.2.1))}:Mon)) (fun b=>(C (a.1,(a.2.1,(d,((zM .i64 c 1),(a.2.2.2.2.1,(a.2.2.2.2.2.1,(n,(f,(e,(q,(v,(m,(l,(i,(k,(j,(b,(x,(w,(a.2.2.2.2.2.2.2.2.2.2.2.2.2.2.2.2.2.2.2.1,(a.2.2.2.2.2.2.2.2.2.2.2.2.2.2.2.2.2.2.2.2.1,(a.2.2.2.2.2.2.2.2.2.2.2.2.2.2.2.2.2.2.2.2.2.1,(a.2.2.2.2.2.2.2.2.2.2.2.2.2.2.2.2.2.2.2.2.2.2.1,())))))))))))))))))))))))))))))) (cond (ine d (-1)) (oN (zho x d) (oN (zho w d) (oN (inb a.2.1 (ln h.Outer)) (share B (fun b=>(oN (inb a.1 (ln b)) (oN (cond (cond (cond (cond (cond (cond (ieq i a.1) true false) (cond (ieq v a.1) true false) false) (cond (ieq q a.1) true false) false) (cond (ieq e a.1) true false) false) (cond (ieq f a.1) true false) false) (cond (ieq n a.1) true false) false) (share (up b a.1 ({ (ix b n zh) with Out:=(ix b f zh).Out,Dirty:=(ix b e zh).Dirty,Guests:=(ix b q zh).Guests,Outs:=(ix b v zh).Outs,Pending:=m,Traps:=l,Tables:=(ix b i zh).Tables,Own:=k}:Mon)) (fun z=>(some [(aH (⟨j,z,(zqO x d),(zqO w d)⟩:Host))])))))))))) (oN (inb a.2.1 (ln h.Outer)) (share B (fun b=>(oN (inb a.1 (ln b)) (oN (cond (cond (cond (cond (cond (cond (ieq i a.1) true false) (cond (ieq v a.1) true false) false) (cond (ieq q a.1) true false) false) (cond (ieq e a.1) true false) false) (cond (ieq f a.1) true false) false) (cond (ieq n a.1) true false) false) (share (up b a.1 ({ (ix b n zh) with Out:=(ix b f zh).Out,Dirty:=(ix b e zh).Dirty,Guests:=(ix b q zh).Guests,Outs:=(ix b v zh).Outs,Pending:=m,Traps:=l,Tables:=(ix b i zh).Tables,Own:=k}:Mon)) (fun z=>(some [(aH (⟨j,z,x,w⟩:Host))]))))))))))) (g,(y,((ix u.Outer y zQ).Page,(0,(A.Page,(A.Rights,(g,(g,(g,(g,(g,(u.Pending,(u.Traps,(g,(u.Own,(a0.Memory,(a0.Mons,(a0.Buffer,(a0.IoBuffer,([],([],([],([],()))))))))))))))))))))))))))
def zTo:FuncId->Nat->Option Tmpl:=zq [(78,0,{n:=70,tm:=[(1,ti),(2,ti),(4,.lp 0 0),(7,.lp 1 0),(8,.lp 2 0),(9,.lp 3 0),(10,ti),(11,ti)],lo:=[(0,[.sl 0 [],.sl 1 [],.sl 2 [],.sl 3 []]),(1,[ti,ti]),(2,[.sl 4 [],.sl 5 [],.sl 6 [],.sl 7 []]),(3,[.sl 1 [0],.sl 1 [1],.sl 1 [2],.sl 1 [3],.sl 1 [4],ti,ti,.sl 1 [7],ti])],ro:=[(0,(.sl .int),true),(1,.mon,true),(2,.entry,true),(3,.entry,true),(4,(.sl .int),true),(5,.mon,true),(6,.entry,true),(7,.entry,true)]})]
theorem zV3 (N:Nat)(a0:Host)(a b:Int)(c:Slot):zFh (cQ z0s zpL zPK z2f) zTo N 12 78 [true,true,true,true,false,false,false,false] 1 1 [[0],[1],[2],[4],[7]] .mon [aH a0,aI a,aI b,aT .slot c]=zw3 N a0 a b c:=by kernel_rfl
theorem zSW (a0:Host)(e a:Int)(c:Slot)(C:zb6 big [aH a0,aI e,aI a,aT .slot c])(x:zeY a0 e a c=true):∃N,zw3 N a0 e a c=some [aH (zgA a0 e a c)]:=by
 obtain⟨A,f,r,B⟩:=zL.1 x;have j:=(zV a0).1 A;have q:zeP (ix a0.Mons e zh):=j.2.1.2 _ (zbD f _);obtain⟨k,rfl,p⟩:=zds (n:=a0.Mons.length) f;have w:=(zcF q.2.2.2.2.2.1).1;refine zcq fun N m=>?_;unfold zw3 oN;conv=>zeta
 refine must f (must r ?_);refine zyh (ix a0.Mons (k:Int) zh).Tables.length (fun i (t:List Mon)=>((k:Int),a,(ix (ix a0.Mons (k:Int) zh).Outer a zQ).Page,(i:Int),c.Page,c.Rights,(k:Int),(k:Int),(k:Int),(k:Int),(k:Int),(ix a0.Mons (k:Int) zh).Pending,(ix a0.Mons (k:Int) zh).Traps,(k:Int),(ix a0.Mons (k:Int) zh).Own,a0.Memory,t,a0.Buffer,a0.IoBuffer,[],[],[],[],())) _
  (fun i t=>t=up a0.Mons (k:Int) (zhj (ix a0.Mons (k:Int) zh) a i)) (fun _ _=>some [AV.agg (zbl (zb8 a0 (k:Int) a c))]) (fun i t rec s l z=>?_) (fun t rec l=>?_) _ 0 a0.Mons ?_ (jX _) ?_
 .subst l;have b:i<(zjs (ix a0.Mons (k:Int) zh).Guests a i (ix a0.Mons (k:Int) zh).Tables).length:=(by rw[znd];exact s);have d:i<(ix a0.Mons (k:Int) zh).Guests.length:=by omega
  have y:zlp (ix (zjs (ix a0.Mons (k:Int) zh).Guests a i (ix a0.Mons (k:Int) zh).Tables) (i:Int) zep) (ix (ix a0.Mons (k:Int) zh).Guests (i:Int) zC).Live a=true :=
   zbC ⟨by rw[zbj b];exact(zr0 _ _ _ _ (by omega) q.2.2.2.2.2).2 _ (jG b),by rw[zbj d];exact(q.2.2.2.1.2 _ (jG d)).2.2.1⟩
  simp only[zdq p,zrp,zhj,zbs b,zbe b,zbe d,y,cT,share,zbh s w];exact z _ rfl
 {subst l;simp only[zdq p,zrp,zf0,zhj,ln,znd,zcI,show ilt (((ix a0.Mons (k:Int) zh).Tables.length:Nat):Int) (((ix a0.Mons (k:Int) zh).Tables.length:Nat):Int)=false from qL (by omega),cT,cF,share];have g:inb (k:Int) ((a0.Mons.length:Nat):Int)=true:=f;have h:inb a (((ix a0.Mons (k:Int) zh).Outer.length:Nat):Int)=true:=r;have u:zho a0.Buffer (ix (ix a0.Mons (k:Int) zh).Outer a zQ).Page=true:=zbC j.2.2.1;have v:zho a0.IoBuffer (ix (ix a0.Mons (k:Int) zh).Outer a zQ).Page=true:=zbC j.2.2.2;simp only[g,h,u,v,cT];unfold zb8;cases ine (ix (ix a0.Mons (k:Int) zh).Outer a zQ).Page (-1)<;>rfl};{exact(zQi p _).symm};{exact m (by omega)}
theorem zL2:zdR Tryz.prog 78 [true,true,true,true,false,false,false,false] (some (1,1,[[0],[1],[2],[4],[7]])) zst:=by refine zk9 (kt:=.mon) (zf2 zzL zB zy zn) (ziZ (by kernel_rfl)) (by kernel_rfl) ?_;intro a g f e h;have c:=zih e;unfold zst at h;split at h;{obtain⟨d,rfl⟩:=zdW h;obtain⟨N,b⟩:=zSW _ _ _ _ (by exact c) d;exact⟨⟨_,rfl⟩,rfl,_,N,12,(zV3 N _ _ _ _ ).trans b⟩};{cases h}
def zW3:zfs:=[(78,([true,true,true,true,false,false,false,false],(some (1,1,[[0],[1],[2],[4],[7]])),zst))]++z2f
theorem zd9:zea zW3:=zqg zn (by
 intro x a;simp only[qG,qO,or_false]at a;rcases a with rfl
 .exact zL2)
def zNG (x:Mon)(p:Int):Mon:={x with Dirty:=up x.Dirty p false}
def grd (x:Mon)(p:Int):Mon:={x with Outer:=up x.Outer p ⟨(ix x.Outer p zQ).Page,1⟩}
def zlL (h:Host)(m p:Int):Host:={h with Mons:=up h.Mons m (zNG (ix h.Mons m zh) p)}
def znU (h:Host)(m p:Int):Host:=bif zbU h m p then (cond (zcV (ix (ix h.Mons m zh).Outer p zQ) noSlot) (zlL h m p) (zb8 (zlL h m p) m p ⟨(ix (ix h.Mons m zh).Outer p zQ).Page,1⟩)) else h
theorem zz1:∀(l:List Mon) (u:List Bool),zim l u=true->∀x∈l,zdP x=true
 |[],_,_,x,a=>by cases a
 |m::l,u,h,x,a=>by
  simp only[zim]at h;cases b:zdP m;{rw [b]at h;cases h}
  .rw [b]at h;simp only[cT]at h;cases c:zgk m.Outer u with
   |none=>rw[c]at h;cases h
   |some d =>rw[c]at h;rcases qG.1 a with rfl|a;{exact b};{exact zz1 l d h x a}
structure PageAt (h:Host) (m p:Int):Prop where
 hm:hasB m (ln h.Mons)=true
 hp:hasB p 8=true
 ok:zdP (ix h.Mons m zh)=true
 ho:(ix h.Mons m zh).Outer.length=8
 hd:(ix h.Mons m zh).Dirty.length=8
 ht:(ix h.Mons m zh).Tables.length=(ix h.Mons m zh).Guests.length
 hs:zcV (ix (ix h.Mons m zh).Outer p zQ) noSlot=ieq (ix (ix h.Mons m zh).Outer p zQ).Page (-1)
theorem zRI {s:Slot}{n:Int}(h:zdw s n=true):zcV s noSlot=ieq s.Page (-1):=by unfold zdw at h;cases a:zcV s noSlot;{rw [a]at h;cases d:ieq s.Page (-1);{rfl};{have e:s.Page = -1:=qE d;cases b:igt n 0;{rw [b]at h;cases h};{cases c:win s.Page 0 (wsub .i64 n 1);{rw [b,c]at h;cases h};{have:=(zfC.1 c).1;omega}}}};{unfold zcV at a;rw[qD]at a;exact a.1.symm}
theorem zAq {h:Host}{m p:Int}(d:zbU h m p=true):PageAt h m p:=by unfold zbU at d;simp only[zc8]at d;obtain⟨c,f,g⟩:=d;unfold zbX at c;simp only[zc8]at c;have b:=zz1 _ _ c.2.2.2.2 _ (zbD f zh);have a:=b;unfold zdP at a;simp only[zc8]at a;have i:(ix h.Mons m zh).Outer.length=8:=(by have:=zr1 a.2.2.1;simp only[ln] at this;omega);refine⟨f,g,b,i,?_,?_,?_⟩;{have:ln (ix h.Mons m zh).Dirty=8:=qE a.2.2.2.2.1;simp only[ln] at this;omega};{have:ln (ix h.Mons m zh).Tables=ln (ix h.Mons m zh).Guests:=qE a.2.1;simp only[ln] at this;omega};{have e:=a.2.2.1;unfold zcS at e;simp only[zc8]at e;have j:hasB p (ln (ix h.Mons m zh).Outer)=true:=(by rw[ln,i];exact g);exact zRI (qM.1 e.1 _ (zbD j _))}
theorem zWU {x:Mon}{p:Int}(h:zeP x):zeP (zNG x p):=⟨h.1,h.2.1,by simpa [zNG] using h.2.2.1,h.2.2.2⟩
theorem zAR {h:Host}{m p:Int}(b:hasB m (ln h.Mons)=true)(a:SmH h):SmH (zlL h m p):=⟨a.1,ziT a.2.1 (zWU (a.2.1.2 _ (zbD b _))),a.2.2⟩
theorem zH4 {h:Host}{m p:Int}{s:Slot}(d:hasB m (ln h.Mons)=true)(a:SmH h):SmH (zb8 h m p s):=by have c:=a.2.1.2 _ (zbD d zh);have e:=z4T (p:=p) (qZ _) c;have b:zrq (up h.Mons m {zhj (ix h.Mons m zh) p (ix h.Mons m zh).Tables.length with Outer:=up (ix h.Mons m zh).Outer p s}):=ziT a.2.1 ⟨by simpa using c.1,e.2⟩;unfold zb8;cases ine (ix (ix h.Mons m zh).Outer p zQ).Page (-1);{exact⟨a.1,b,a.2.2⟩};{exact⟨a.1,b,qU (zHn _ _) a.2.2.1,qU (zHn _ _) a.2.2.2⟩}
theorem zAU {h:Host}{m p:Int}(a:hasB m (ln h.Mons)=true):hasB m (ln (zlL h m p).Mons)=true:=by unfold zlL;simpa [ln] using a
theorem zRK {h:Host}{m p:Int}(a:SmH h):SmH (znU h m p):=by unfold znU;cases b:zbU h m p;{exact a};{have P:=zAq b;cases zcV (ix (ix h.Mons m zh).Outer p zQ) noSlot;{exact zH4 (zAU P.hm) (zAR P.hm a)};{exact zAR P.hm a}}
@[simp] abbrev zwj (h:Host)(m p:Int):Bool:=pc (zci h)
@[simp] abbrev znu (h:Host)(m p:Int):Host:=znU h m p
@[simp] abbrev zrQ (h:Host)(m p:Int):Bool:=zbU h m p
def zxj:Run:=rF3 dH dI dI fun b c d=>(zwj b c d,[aH (znu b c d),aB (zrQ b c d)])
def zQv (N:Nat)(a0:Host)(a b:Int):OA:=
 let c:=(zo a0);let g:=(ix c.Mons a zh); (oN (zbP a0) (oN (zny c a b) (cond (nB (zhp c a b)) (some [(aH c),(aB false)]) (oN (inb a (ln c.Mons)) (oN (inb b (ln g.Dirty)) (share (up c.Mons a ({g with Dirty:=(up g.Dirty b false)}:Mon)) (fun d=>let h:=(ix d a zh).Outer;let f:=({c with Mons:=d}:Host);let e:=(ix h b zQ);let i:=({e with Rights:=1}:Slot); (oN (inb a (ln d)) (oN (inb b (ln h)) (oN zcv (cond (cond (ieq e.Page zbu.Page) (ieq e.Rights zbu.Rights) false) (some [(aH f),(aB true)]) (oN (zeY f a b i) (some [(aH (zgA f a b i)),(aB true)])))))))))))))
theorem zX7 (a0:Host)(b a:Int)(i:zwj a0 b a=true):∃N,zQv N a0 b a=some [aH (znu a0 b a),aB (zrQ a0 b a)]:=by
 have f:=zL.1 i;have h:=(zV a0).1 f;refine⟨0,?_⟩;unfold zQv znu zrQ znU oN nB;conv=>zeta
 refine must (zbC f) (must rfl ?_);cases d:zbU a0 b a;{simp only [zhp,zo,d,cF,cT]};{have P:=zAq d;obtain⟨k,rfl,c⟩:=zds (n:=a0.Mons.length) P.hm;simp only[zhp,zo,d,cT,cF];have j:inb a (ln (ix a0.Mons (k:Int) zh).Dirty)=true:=(by rw[ln,P.hd];exact P.hp);have g:inb a (ln (ix a0.Mons (k:Int) zh).Outer)=true:=(by rw[ln,P.ho];exact P.hp);refine must P.hm (must j ?_);simp only[share,zdq c,g,cT,zcv,zbu];refine must (zAU (p:=a) P.hm) ?_;have e:∀s:Slot,zcV s noSlot=bif ieq s.Page noSlot.Page then ieq s.Rights noSlot.Rights else false:=fun s=>(by unfold zcV;cases ieq s.Page noSlot.Page<;>rfl);rw[<- e];cases zcV (ix (ix a0.Mons (k:Int) zh).Outer a zQ) noSlot;{refine zdh rfl (must (zbC ⟨(zV _).2 (zAR P.hm h),zAU (p:=a) P.hm,?_,?_⟩) rfl);{simp only [zdq c];exact g};{simp only [zdq c];exact kX P.ht}};{rfl}}
theorem zBp:vM 31 zxj:=kF3 zzL zB zy zd9 (zq []) zX7
@[simp] abbrev zDH (h:Host)(m p:Int):Bool:=pc (zci h)
@[simp] abbrev zvH (h:Host)(m p:Int):Host:=znU h m p
@[simp] abbrev zvI (h:Host)(m p:Int):Bool:=zbU h m p
def zxi:Run:=rF3 dH dI dI fun b c d=>(zDH b c d,[aH (zvH b c d),aB (zvI b c d)])
def zQo (N:Nat)(a0:Host)(a c:Int):OA:=
 let d:=(zer a0);let f:=(ix d.Mons a zh);let i:=(ix f.Outer c zQ); (oN (zkw a0) (oN (zlZ a0 a c) (cond (nB (zhA a0 a c)) (some [(aH d),(aB false)]) (oN (inb a (ln d.Mons)) (oN (inb c (ln f.Outer)) (cond (ine i.Page (-1)) (oN (inb c (ln f.Outer)) (share (up d.Mons a ({f with Outer:=(up f.Outer c ({i with Rights:=1}:Slot))}:Mon)) (fun j=>(oN (inb a (ln j)) (oN (cond (cond (cond (ieq a a) true false) (cond (cond (ieq a a) true false) (cond (cond (ieq a a) true false) (cond (cond (ieq a a) true false) (cond (cond (ieq a a) true false) (cond (ieq a a) (cond (cond (ieq c c) (ieq a a) false) (cond (cond (ieq a a) true false) (cond (cond (ieq a a) true false) (cond (cond (ieq a a) true false) (cond (ieq a a) (cond (cond (ieq c c) (ieq a a) false) (cond (cond (ieq c c) (ieq a a) false) true false) false) false) false) false) false) false) false) false) false) false) false) false) true false) (iter (σ:=(Int×(Int×(Int×(Int×(Int×(Int×(Int×(Int×(lN×(lM×(lN×(lE×(lE×(lM×(lE×(lE×(lM×(lN×(lE×(lE×Unit))))))))))))))))))))) N (fun u b=>let e:=b.2.2.2.2.1;let r:=b.2.2.2.2.2.2.2.2.1;let s:=b.2.2.2.2.2.2.2.2.2.2.2.2.2.1;let g:=b.2.2.2.1;let q:=b.2.2.2.2.2.2.2.2.2.2.2.2.2.2.1;let p:=b.2.2.2.2.2.2.2.2.2.2.2.2.2.2.2.1;let n:=(ix r a zh);let t:=(up r a ({n with Dirty:=(up n.Dirty c false)}:Mon));let h:=(ix r b.2.1 zh);let m:=(ix h.Tables g zep);let l:=(ix h.Guests g zC).Live; (cond (ilt g b.2.2.1) (oN (inb g (ln h.Tables)) (oN (inb g (ln h.Guests)) (oN (zin m l b.1) (oN (inb g (ln h.Tables)) (share (up r b.2.1 ({h with Tables:=(up h.Tables g (znY m l b.1))}:Mon)) (fun k=>(oN (cond (cond (cond (ieq a a) true false) (cond (cond (ieq a a) true false) (cond (cond (ieq a a) true false) (cond (cond (ieq a a) true false) (cond (cond (ieq a a) true false) (cond (ieq a a) (cond (cond (ieq c c) (ieq a a) false) (cond (cond (ieq a a) true false) (cond (cond (ieq a a) true false) (cond (cond (ieq a a) true false) (cond (ieq a a) (cond (cond (ieq c c) (ieq a a) false) (cond (cond (ieq c c) (ieq a a) false) true false) false) false) false) false) false) false) false) false) false) false) false) false) true false) (u (b.1,(b.2.1,(b.2.2.1,((zM .i64 g 1),(e,(b.2.2.2.2.2.1,(b.2.2.2.2.2.2.1,(b.2.2.2.2.2.2.2.1,(k,(b.2.2.2.2.2.2.2.2.2.1,(b.2.2.2.2.2.2.2.2.2.2.1,(b.2.2.2.2.2.2.2.2.2.2.2.1,(b.2.2.2.2.2.2.2.2.2.2.2.2.1,(s,(q,(p,(b.2.2.2.2.2.2.2.2.2.2.2.2.2.2.2.2.1,(b.2.2.2.2.2.2.2.2.2.2.2.2.2.2.2.2.2.1,(b.2.2.2.2.2.2.2.2.2.2.2.2.2.2.2.2.2.2.1,(b.2.2.2.2.2.2.2.2.2.2.2.2.2.2.2.2.2.2.2.1,())))))))))))))))))))))))))))) (cond (ine e (-1)) (oN (zdZ q e) (oN (zdZ p e) (oN (inb c (ln n.Dirty)) (share t (fun k=>(some [(aH (⟨s,k,(zgu q e),(zgu p e)⟩:Host)),(aB true)])))))) (oN (inb c (ln n.Dirty)) (share t (fun k=>(some [(aH (⟨s,k,q,p⟩:Host)),(aB true)]))))))) (c,(a,((ln (ix j a zh).Guests),(0,(i.Page,(i.Rights,(i.Page,(i.Rights,(j,(a0.Memory,(a0.Mons,(a0.Buffer,(a0.IoBuffer,(d.Memory,(d.Buffer,(d.IoBuffer,([],([],([],([],())))))))))))))))))))))))))) (oN (inb c (ln f.Dirty)) (share (up d.Mons a ({f with Dirty:=(up f.Dirty c false)}:Mon)) (fun j=>(some [(aH ({d with Mons:=j}:Host)),(aB true)]))))))))))
def zYZ:FuncId->Nat->Option Tmpl:=zq [(72,0,{n:=71,tm:=[(0,.lp 0 0),(2,ti),(7,.lp 1 0),(8,.ep 0 [] 0),(20,ti),(21,ti)],lo:=[(0,[.sl 5 [],.sl 0 [],.sl 6 [],.sl 7 []]),(1,[ti,ti]),(2,[.sl 1 [],.sl 2 [],.sl 3 [],.sl 4 []]),(3,[.sl 8 [],.sl 9 [],.sl 10 [],.sl 11 []]),(4,[ti,ti])],ro:=[(0,.mon,true),(1,(.sl .int),false),(2,.mon,false),(3,.entry,false),(4,.entry,false),(5,(.sl .int),true),(6,.entry,true),(7,.entry,true),(8,(.sl .int),true),(9,.mon,true),(10,.entry,true),(11,.entry,true)],sk:=[(0,0,0,.sl 1 []),(0,0,1,.sl 2 []),(0,0,2,.sl 3 []),(0,0,3,.sl 4 []),(0,3,0,.lp 2 0),(0,6,0,.lp 3 0),(0,10,0,.lp 4 0),(0,12,0,.sl 5 []),(0,12,2,.sl 6 []),(0,12,3,.sl 7 [])]})]
theorem zXZ (a0:Host)(c a:Int)(y:zDH a0 c a=true):∃N,zQo N a0 c a=some [aH (zvH a0 c a),aB (zvI a0 c a)]:=by
 have r:=zL.1 y;have j:=(zV a0).1 r;refine zcq fun N m=>?_;unfold zQo zvH zvI znU oN nB;conv=>zeta
 refine must (zbC r) (must rfl ?_);rw[show zhA a0 c a=zbU a0 c a from rfl];cases A:zbU a0 c a;{rfl}
 .have P:=zAq A;have q:zeP (ix a0.Mons c zh):=j.2.1.2 _ (zbD P.hm _);obtain⟨k,rfl,p⟩:=zds (n:=a0.Mons.length) P.hm;have s:inb a (ln (ix a0.Mons (k:Int) zh).Dirty)=true:=(by rw[ln,P.hd];exact P.hp);have u:inb a (ln (ix a0.Mons (k:Int) zh).Outer)=true:=(by rw[ln,P.ho];exact P.hp);have x:=(zcF q.2.2.2.2.2.1).1;refine zdh rfl ?_;rw[P.hs];refine must P.hm (must u ?_);cases g:ieq (ix (ix a0.Mons (k:Int) zh).Outer a zQ).Page (-1)
  .have hpg2:ine (ix (ix a0.Mons (k:Int) zh).Outer a zQ).Page (-1)=true:=(by rw[znn];exact congrArg not g);refine must hpg2 (must u ?_);simp only[share];refine must (by simp only[ln,zf0];exact P.hm) ?_
   simp only[zcI,cT,zer];refine zyh (ix a0.Mons (k:Int) zh).Guests.length (fun i (t:List Mon)=>(a,(k:Int),ln (ix (up a0.Mons (k:Int) (grd (ix a0.Mons (k:Int) zh) a)) (k:Int) zh).Guests,(i:Int),(ix (ix a0.Mons (k:Int) zh).Outer a zQ).Page,(ix (ix a0.Mons (k:Int) zh).Outer a zQ).Rights,(ix (ix a0.Mons (k:Int) zh).Outer a zQ).Page,(ix (ix a0.Mons (k:Int) zh).Outer a zQ).Rights,t,a0.Memory,a0.Mons,a0.Buffer,a0.IoBuffer,a0.Memory,a0.Buffer,a0.IoBuffer,[],[],[],[],())) _
    (fun i t=>t=up a0.Mons (k:Int) (zhj (grd (ix a0.Mons (k:Int) zh) a) a i)) (fun _ _=>some [AV.agg (zbl (zb8 (zlL a0 (k:Int) a) (k:Int) a ⟨(ix (ix a0.Mons (k:Int) zh).Outer a zQ).Page,1⟩)),AV.one (.b true)]) (fun i t rec e l B=>?_) (fun t rec l=>?_) _ 0 (up a0.Mons (k:Int) (grd (ix a0.Mons (k:Int) zh) a)) rfl (jX _) ?_
   .subst l;have f:i<(ix a0.Mons (k:Int) zh).Tables.length:=(by rw[P.ht];exact e);have d:i<(zjs (ix a0.Mons (k:Int) zh).Guests a i (ix a0.Mons (k:Int) zh).Tables).length:=by rw[znd];exact f
    have z:zin (ix (zjs (ix a0.Mons (k:Int) zh).Guests a i (ix a0.Mons (k:Int) zh).Tables) (i:Int) zep) (ix (ix a0.Mons (k:Int) zh).Guests (i:Int) zC).Live a=true :=
     zbC ⟨by rw[zbj d];exact(zr0 _ _ _ _ (by omega) q.2.2.2.2.2).2 _ (jG d),by rw[zbj e];exact(q.2.2.2.1.2 _ (jG e)).2.2.1⟩
    simp only[zdq p,zrp,zhj,grd,zbs e,zbe d,zbe e,z,cT,share,zbh f x];have h:=B _ rfl;simp only[zdq p,zhj,grd]at h;exact h
   {subst l;have v:zdZ a0.Buffer (ix (ix a0.Mons (k:Int) zh).Outer a zQ).Page=true:=zbC j.2.2.1;have w:zdZ a0.IoBuffer (ix (ix a0.Mons (k:Int) zh).Outer a zQ).Page=true:=zbC j.2.2.2;unfold zb8 zlL zNG;simp only[zdq p,zrp,zhj,grd,zbn,hpg2,v,w,s,P.ht,share,cT,cF]};{exact m (by rw[<- P.ht];omega)}
  {refine zdh (by rw[znn];exact congrArg not g) (must s ?_);rfl}
theorem zBn:vM 28 zxi:=kF3 zzL zB zy zd9 zYZ zXZ
def z2X:zW:=[(31,zxj),(28,zxi)]++z0s
theorem z2Y:zK z2X:=zi zBp (zi zBn zzL)
def z2Z:zW:=z2X
theorem zkn:zK z2Z:=z2Y
def zAp (o i t:Int):Int:=bif zgI i t then 1 else (cond (zgI o t) 2 0)
@[simp] abbrev zq1 (o i t:Int):Bool:=true
@[simp] abbrev znv (o i t:Int):Int:=zAp o i t
def zBQ:Run:=rF3 dI dI dI fun b c d=>(zq1 b c d,[aI (znv b c d)])
def zGY (N:Nat)(a0 b a:Int):OA:=
 (oN (zh4 b a) (cond (zhJ b a) (some [(aI 1)]) (oN (zh4 a0 a) (cond (zhJ a0 a) (some [(aI 2)]) (some [(aI 0)])))))
theorem zSF (a0 a b:Int)(c:zq1 a0 a b=true):∃N,zGY N a0 a b=some [aI (znv a0 a b)]:=by refine⟨0,?_⟩;unfold zGY oN;refine must rfl (br (fun _=>?_) (fun _=>must rfl (br (fun _=>?_) (fun _=>?_))));all_goals first|rfl|(simp only [*,znv,zAp,cT,cF]<;>rfl)|simp_all[Ty.cells,znv,zAp]
theorem zLE:vM 296 zBQ:=kF3 zkn zB zy zd9 (zq []) zSF
def zez (m g:Int):Int:=bif win m 0 2 then (cond (win g 0 1) (zM .i64 (zM .i64 1 g) (zng .i64 m 2)) 0) else 0
@[simp] abbrev zkP (m g:Int):Bool:=true
@[simp] abbrev ztA (m g:Int):Int:=zez m g
def zHP:Run:=rF2 dI dI fun b c=>(zkP b c,[aI (ztA b c)])
def zQD (N:Nat)(a0 a:Int):OA:=
 (oN (zN a0 0 2) (cond (nB (zT a0 0 2)) (some [(aI 0)]) (oN (zN a 0 1) (cond (nB (zT a 0 1)) (some [(aI 0)]) (some [(aI (zM .i64 (zM .i64 1 a) (zng .i64 a0 2)))])))))
theorem zYf (a0 a:Int)(b:zkP a0 a=true):∃N,zQD N a0 a=some [aI (ztA a0 a)]:=by refine⟨0,?_⟩;unfold zQD oN nB;refine must rfl (brN (fun _=>?_) (fun _=>must rfl (brN (fun _=>?_) (fun _=>?_))));all_goals first|rfl|(simp only [*,ztA,zez,cT,cF]<;>rfl)|simp_all[Ty.cells,ztA,zez]
theorem zR8:vM 245 zHP:=kF2 zkn zB zy zd9 (zq []) zYf
def zkx (k:Kept)(p:Int):Bool:=bif zdv k p then ix k.Known p false else false
def ze1 (k:Kept)(p:Int):Slot:=bif zkx k p then ix k.Slots p zQ else noSlot
@[simp] abbrev zFA (k:Kept)(p:Int):Bool:=pc (SmK k)
@[simp] abbrev zty (k:Kept)(p:Int):Slot:=ze1 k p
@[simp] abbrev zFz (k:Kept)(p:Int):Bool:=zkx k p
def zRC:Run:=rF2 (dT .kept) dI fun b c=>(zFA b c,[aT .slot (zty b c),aB (zFz b c)])
def zY9 (N:Nat)(a0:Kept)(a:Int):OA:=
 let b:=(ix a0.Slots a zQ); (oN (zoY a0 a) (cond (nB (zh7 a0 a)) (oN zcv (some [(.agg [(.i .i64 zbu.Page),(.i .i64 zbu.Rights)]),(aB false)])) (oN (inb a (ln a0.Known)) (cond (nB (ix a0.Known a false)) (oN zcv (some [(.agg [(.i .i64 zbu.Page),(.i .i64 zbu.Rights)]),(aB false)])) (oN (inb a (ln a0.Slots)) (some [(.agg [(.i .i64 b.Page),(.i .i64 b.Rights)]),(aB true)]))))))
theorem z3N (a0:Kept)(a:Int)(e:zFA a0 a=true):∃N,zY9 N a0 a=some [aT .slot (zty a0 a),aB (zFz a0 a)]:=by
 have f:=zL.1 e;refine⟨0,?_⟩;unfold zY9 zty zFz ze1 zkx oN nB;conv=>zeta
 refine must (zbC f) ?_;rw[show zh7 a0 a=zdv a0 a from rfl];cases b:zdv a0 a;{rfl};{unfold zdv at b;obtain⟨c,d⟩:=zc8.1 b;simp only[zJ c,zJ d,cT];cases ix a0.Known a false<;>rfl}
theorem zXV:vM 308 zRC:=kF2 zkn zB zy zd9 (zq []) z3N
def filled (k:Kept)(a b:List Slot)(p:Int):Kept:=bif zdv k p then (cond (hasB p (ln a)) ⟨up k.Known p true,up k.Slots p (zbv (ix a p zQ) b)⟩ k) else k
@[simp] theorem z19 {k:Kept}{a b:List Slot}{p:Int}(h:SmK k):SmK (filled k a b p):=by unfold filled;cases zdv k p;{exact h};{cases hasB p (ln a);{exact h};{exact⟨by simpa using h.1,by simpa using h.2⟩}}
@[simp] abbrev zJQ (k:Kept)(i o:List Slot)(p:Int):Bool:=pc (SmK k)
@[simp] abbrev zM1 (k:Kept)(i o:List Slot)(p:Int):Kept:=filled k i o p
def zMY:Run:=rF4 (dT .kept) (dS .slot) (dS .slot) dI fun b c d e=>(zJQ b c d e,[aT .kept (zM1 b c d e)])
def zTK (N:Nat)(a0:Kept)(c d:lS)(a:Int):OA:=
 let b:=(zdp a0); (oN (zfM a0) (oN (zoY b a) (cond (zh7 b a) (cond (ilt a (ln c)) (oN (inb a (ln b.Known)) (share (up b.Known a true) (fun e=>(oN (inb a (ln c)) (oN (zkc (ix c a zQ) d) (oN (inb a (ln b.Slots)) (share (up b.Slots a (zmz (ix c a zQ) d)) (fun f=>(some [(aT .kept (⟨e,f⟩:Kept))]))))))))) (some [(aT .kept b)])) (some [(aT .kept b)]))))
theorem z1e (a0:Kept)(b c:List Slot)(a:Int)(i:zJQ a0 b c a=true):∃N,zTK N a0 b c a=some [aT .kept (zM1 a0 b c a)]:=by
 have f:=zL.1 i;refine⟨0,?_⟩;unfold zTK zM1 filled oN;conv=>zeta
 refine must (zbC ((zxU _).2 f)) (must (zbC f) ?_);rw[show zh7 (zdp a0) a=zdv a0 a from rfl];cases e:zdv a0 a;{rfl};{unfold zdv at e;obtain⟨d,g⟩:=zc8.1 e;rw[has_lt d (m:=ln b)];cases h:hasB a (ln b);{rfl};{simp only [cT,zdp,zJ d,zJ g,zJ h,share,zkc];rfl}}
theorem zUS:vM 309 zMY:=kF4 zkn zB zy zd9 (zq []) z1e
theorem zUH {a b:Type}(p:a->Bool)(r:a->Option b)(K:Unit->Option b):∀(l:List a) (i:Nat),goL (fun _ x (_:Unit) k=>bif p x then r x else k ()) K l i ()=match l.find? p with|some x=>r x|none=>K ()
 |[],_=>rfl
 |x::l,i=>by simp only[goL];cases h:p x;{rw [List.find?_cons_of_neg (by simp[h])];exact zUH p r K l (i+1)};{rw [List.find?_cons_of_pos h];rfl}
def zFi (b:List Entry)(t p:Int):Option Entry:=b.find? fun e=>bif ieq e.Tag t then ieq e.Page p else false
@[simp] abbrev zmB (b:List Entry)(t p:Int):Bool:=true
@[simp] abbrev zmA (b:List Entry)(t p:Int):Entry:=(zFi b t p).getD ⟨0,0,0,0⟩
@[simp] abbrev zjB (b:List Entry)(t p:Int):Bool:=(zFi b t p).isSome
def zv9:Run:=rF3 (dS .entry) dI dI fun b c d=>(zmB b c d,[aT .entry (zmA b c d),aB (zjB b c d)])
def zBb (N:Nat)(a0:lE)(f g:Int):OA:=
 (iter (σ:=(Int×(Int×(Int×(Int×(Int×(Int×(Int×(lE×Unit))))))))) N (fun h a=>let c:=a.2.2.2.2.2.2.2.1;let d:=(inb a.2.2.1 (ln c));let e:=(h (a.1,(a.2.1,((zM .i64 a.2.2.1 1),(a.2.2.2.1,(a.2.2.2.2.1,(a.2.2.2.2.2.1,(a.2.2.2.2.2.2.1,(c,())))))))));let b:=(ix c a.2.2.1 zeO); (cond (ilt a.2.2.1 (ln c)) (oN d (cond (ieq b.Tag a.1) (oN d (cond (ieq b.Page a.2.1) (oN d (some [(.agg [(.i .i64 b.Tag),(.i .i64 b.Page),(.i .i64 b.Host),(.i .i64 b.Rights)]),(aB true)])) e)) e)) (some [(.agg [(.i .i64 0),(.i .i64 0),(.i .i64 0),(.i .i64 0)]),(aB false)]))) (f,(g,(0,(0,(0,(0,(0,(a0,())))))))))
def zNz:FuncId->Nat->Option Tmpl:=zq [(307,0,{n:=36,tm:=[(0,.sl 0 []),(1,ti),(2,ti),(6,.lp 0 0),(8,ti)],lo:=[(0,[ti,ti,ti,ti])],ro:=[(0,.entry,false)]})]
theorem zMq (a0:List Entry)(a c:Int)(h:zb6 big [aS .entry a0,aI a,aI c])(k:zmB a0 a c=true):∃N,zBb N a0 a c=some [aT .entry (zmA a0 a c),aB (zjB a0 a c)]:=by
 have g:=(len0 h);refine zcq fun N f=>?_;unfold zBb oN;conv=>zeta
 refine(zbm a0 (fun i (t:Unit)=>(a,c,(i:Int),0,0,0,0,a0,())) _ (fun _ (x:Entry) (_:Unit) j=>bif (cond (ieq x.Tag a) (ieq x.Page c) false) then (some [AV.agg (Ty.cells .entry x),AV.one (.b true)]) else j ()) (fun (t:Unit)=>(some [(.agg [(.i .i64 0),(.i .i64 0),(.i .i64 0),(.i .i64 0)]),(.one (.b false))])) (fun i d t rec=>?_) (fun t rec=>?_) _ () (f g)).trans ?_;{simp only [zbs d,zbe d,zbj d,zbh d g,cT];cases ieq a0[i].Tag a<;>cases ieq a0[i].Page c<;>rfl};{simp only [zbn,cF]};rw[zUH (fun e:Entry=>bif ieq e.Tag a then ieq e.Page c else false)];unfold zmA zjB zFi;cases a0.find? (fun e:Entry=>bif ieq e.Tag a then ieq e.Page c else false)<;>rfl
theorem zFV:vM 307 zv9:=hF3 zkn zB zy zd9 zNz zMq
def zDY (t p:Int)(e:Entry):Bool:=bif ine e.Tag t then true else ine e.Page p
def zcD (b:List Entry)(t p:Int):List Entry:=b.filter (zDY t p)
theorem zzR (b:List Entry)(t p:Int):(zcD b t p).length<=b.length:=k9 _ _
@[simp] abbrev zgg (b:List Entry)(t p:Int):Bool:=pc (b.length<=1048576)
@[simp] abbrev zmc (b:List Entry)(t p:Int):List Entry:=zcD b t p
def zwb:Run:=rF3 (dS .entry) dI dI fun b c d=>(zgg b c d,[aS .entry (zmc b c d)])
def zBd (N:Nat)(a0:lE)(h i:Int):OA:=
 (iter (σ:=(Int×(Int×(Int×(lE×(lE×Unit)))))) N (fun f a=>let b:=a.2.2.2.1;let c:=(inb a.2.2.1 (ln b));let d:=(ix b a.2.2.1 zeO);let e:=(ap a.2.2.2.2.1 [d]);let g:=(f (a.1,(a.2.1,((zM .i64 a.2.2.1 1),(b,(e,())))))); (cond (ilt a.2.2.1 (ln b)) (oN c (cond (ine d.Tag a.1) (oN c (oN (few (ln e)) g)) (oN c (cond (ine d.Page a.2.1) (oN c (oN (few (ln e)) g)) (f (a.1,(a.2.1,((zM .i64 a.2.2.1 1),(b,(a.2.2.2.2.1,())))))))))) (some [(aS .entry a.2.2.2.2.1)]))) (h,(i,(0,(a0,([],()))))))
def zNB:FuncId->Nat->Option Tmpl:=zq [(244,0,{n:=40,tm:=[(0,.sl 0 []),(1,ti),(2,ti),(7,.sl 1 []),(8,ti)],lo:=[],ro:=[(0,.entry,false),(1,.entry,true)]})]
theorem zMs (a0:List Entry)(a b:Int)(g:zgg a0 a b=true):∃N,zBd N a0 a b=some [aS .entry (zmc a0 a b)]:=by
 have h:=zL.1 g;have e:=zcF h;refine zcq fun N d=>?_;unfold zBd oN;conv=>zeta
 refine(zbm a0 (fun i (t:lE)=>(a,b,(i:Int),a0,t,())) _ (fun _ (x:Entry) (t:List Entry) f=>bif zDY a b x then (cond (few (ln (ap t [x]))) (f (ap t [x])) none) else f t) (fun (t:lE)=>(some [(.one (.s .entry t))])) (fun i c t rec=>?_) (fun t rec=>?_) _ ([]) (d e.1)).trans ?_;{simp only [zbs c,zbe c,zbj c,zbh c e.1,cT];unfold zDY;cases ine a0[i].Tag a<;>cases ine a0[i].Page b<;>rfl};{simp only [zbn,cF]};exact znT (zDY a b) _ a0 0 [] (by simpa using e.2)
theorem zFX:vM 244 zwb:=kF3 zkn zB zy zd9 zNB zMs
def z8z:zW:=[(296,zBQ),(245,zHP),(308,zRC),(309,zMY),(307,zv9),(244,zwb)]++z2Z
theorem zzM:zK z8z:=zi zLE (zi zR8 (zi zXV (zi zUS (zi zFV (zi zFX zkn)))))
def zpQ (b:List Entry)(e:Entry):List Entry:=bif igt (ln (ap (zcD b e.Tag e.Page) [e])) 6 then dp (ap (zcD b e.Tag e.Page) [e]) (wsub .i64 (ln (ap (zcD b e.Tag e.Page) [e])) 6) else ap (zcD b e.Tag e.Page) [e]
theorem zAu {b:List Entry}(e:Entry)(h:b.length<=1048576):(zpQ b e).length<=1048576/\(ap (zcD b e.Tag e.Page) [e]).length<=1048577:=by have d:=zzR b e.Tag e.Page;have c:(ap (zcD b e.Tag e.Page) [e]).length<=1048577:=(by simp[ap];omega);refine⟨?_,c⟩;unfold zpQ;cases a:igt (ln (ap (zcD b e.Tag e.Page) [e])) 6;{have a:=jW a;simp only[ln]at a;simp only[cF];omega};{simp only [cT,dp,vJ];have a:=qE a;have:wsub .i64 (ln (ap (zcD b e.Tag e.Page) [e])) 6=ln (ap (zcD b e.Tag e.Page) [e])-6:=zzn (by simp only[ln] at *;omega) (by simp only[ln] at *;omega);rw[this];simp only[ln] at *;omega}
@[simp] abbrev zkO (b:List Entry)(e:Entry):Bool:=pc (b.length<=1048576)
@[simp] abbrev zlA (b:List Entry)(e:Entry):List Entry:=zpQ b e
def zpZ:Run:=rF2 (dS .entry) (dT .entry) fun b c=>(zkO b c,[aS .entry (zlA b c)])
def zCU (N:Nat)(a0:lE)(b:Entry):OA:=
 let a:=(ap (zmc a0 b.Tag b.Page) [b]);let c:=(wsub .i64 (ln a) 6); (oN (zgg a0 b.Tag b.Page) (oN (few (ln a)) (cond (igt (ln a) 6) (oN (inr c (ln a) (ln a)) (oN (few (ln (ap [] (dp a c)))) (some [(aS .entry (ap [] (dp a c)))]))) (some [(aS .entry a)]))))
theorem zPh (a0:List Entry)(a:Entry)(g:zkO a0 a=true):∃N,zCU N a0 a=some [aS .entry (zlA a0 a)]:=by
 have d:=zL.1 g;obtain⟨b,f⟩:=zAu a d;refine⟨0,?_⟩;unfold zCU oN;conv=>zeta
 refine must (zbC d) (must (zgi (qU f (by decide:1048577<=2147483648))) ?_);unfold zlA zpQ at *;show _=some [AV.one (.s .entry (cond (igt (ln (ap (zcD a0 a.Tag a.Page) [a])) 6) (dp (ap (zcD a0 a.Tag a.Page) [a]) (wsub .i64 (ln (ap (zcD a0 a.Tag a.Page) [a])) 6)) (ap (zcD a0 a.Tag a.Page) [a])))];cases c:igt (ln (ap (zcD a0 a.Tag a.Page) [a])) 6;{rfl};{rw [c]at b;simp only[cT]at b;have c:=qE c;have e:wsub .i64 (ln (ap (zcD a0 a.Tag a.Page) [a])) 6=ln (ap (zcD a0 a.Tag a.Page) [a])-6:=zzn (by simp only[ln] at *;omega) (by simp only[ln] at *;omega);refine must rfl (must (qJ ?_) (must ?_ ?_));{show 0<=wsub .i64 (ln (ap (zcD a0 a.Tag a.Page) [a])) 6/\wsub .i64 (ln (ap (zcD a0 a.Tag a.Page) [a])) 6<=ln (ap (zcD a0 a.Tag a.Page) [a])/\ln (ap (zcD a0 a.Tag a.Page) [a])<=ln (ap (zcD a0 a.Tag a.Page) [a]);rw[e];simp only[ln] at *;omega};{exact znj b};{rw [zlU];rfl}}
theorem zt2:vM 220 zpZ:=kF2 zzM zB zy zd9 (zq []) zPh
def znS (l:List Slot)(p:Int):Option Nat:=l.findIdx? fun s=>ieq s.Page p
def zhF (p:Int):List Mon->Nat->Int×Int
 |[],_=>(-1,-1)
 |m::l,i=>match znS m.Outer p with|some k=>((i:Int),(k:Int))|none=>zhF p l (i+1)
def zbF (h:Host)(p:Int):Int×Int:=bif ilt p 0 then (-1,-1) else zhF p h.Mons 0
theorem zRb {a:Type}(p:Slot->Bool)(r:Nat->Option a)(K:Unit->Option a):∀(l:List Slot) (i:Nat),goL (fun j x (_:Unit) k=>bif p x then r j else k ()) K l i ()=match l.findIdx? p with|some k=>r (i+k)|none=>K ()
 |[],_=>rfl
 |x::l,i=>by simp only[goL];rw[List.findIdx?_cons];cases h:p x;{simp only [cF,kB,if_false];rw[zRb p r K l (i+1)];cases l.findIdx? p with|none=>rfl|some k=>simp only[Option.map_some];congr 1;omega};{rfl}
theorem zN1 {b:Type}(p:Int)(r:Int->Int->Option b):∀(l:List Mon) (i:Nat),goL (fun i (x:Mon) (_:Unit) κ=>goL (fun j (y:Slot) (_:Unit) a=>bif ieq y.Page p then r (i:Int) (j:Int) else a ()) (fun _=>κ ()) x.Outer 0 ()) (fun _=>r (-1) (-1)) l i ()=r (zhF p l i).1 (zhF p l i).2
 |[],_=>rfl
 |m::l,i=>by simp only[goL,zhF];rw[zRb (fun s=>ieq s.Page p) (fun j=>r (i:Int) (j:Int))];unfold znS;cases m.Outer.findIdx? (fun s=>ieq s.Page p) with|none=>exact zN1 p r l (i+1)|some k=>simp only[j4]
@[simp] abbrev zhw (h:Host)(p:Int):Bool:=true
@[simp] abbrev ze6 (h:Host)(p:Int):Int:=(zbF h p).1
@[simp] abbrev zf3 (h:Host)(p:Int):Int:=(zbF h p).2
def zlQ:Run:=rF2 dH dI fun b c=>(zhw b c,[aI (ze6 b c),aI (zf3 b c)])
def zu5 (N:Nat)(a0:Host)(f:Int):OA:=
 (cond (ilt f 0) (some [(aI (-1)),(aI (-1))]) (iter (σ:=(Int×(Int×(Int×(lN×Unit))))) N (fun h b=>let c:=b.2.2.1; (cond (ilt c b.2.1) (oN (inb c (ln b.2.2.2.1)) (iter (σ:=(Int×(Int×(Int×(Int×(Int×(Int×(Int×(lN×Unit))))))))) N (fun i a=>let e:=a.2.2.2.2.2.2.2.1;let g:=(ix e a.2.2.2.2.1 zh).Outer;let d:=a.2.2.2.2.2.2.1; (cond (ilt d a.2.2.2.2.2.1) (oN (inb d (ln g)) (cond (ieq (ix g d zQ).Page a.1) (some [(aI a.2.1),(aI d)]) (i (a.1,(a.2.1,(a.2.2.1,(a.2.2.2.1,(a.2.2.2.2.1,(a.2.2.2.2.2.1,((zM .i64 d 1),(e,()))))))))))) (h (a.1,(a.2.2.1,((zM .i64 a.2.2.2.1 1),(e,()))))))) (b.1,(c,(b.2.1,(c,(c,((ln (ix b.2.2.2.1 c zh).Outer),(0,(b.2.2.2.1,())))))))))) (some [(aI (-1)),(aI (-1))]))) (f,((ln a0.Mons),(0,(a0.Mons,()))))))
def zGA:FuncId->Nat->Option Tmpl:=zq [(35,0,{n:=36,tm:=[(1,ti),(13,.sl 0 []),(14,ti),(15,ti)],lo:=[],ro:=[(0,.mon,false)]}),(35,2,{n:=36,tm:=[(1,ti),(6,ti),(13,.sl 0 []),(14,ti),(15,ti),(21,.sl 0 [0]),(22,ti),(23,ti)],lo:=[],ro:=[(0,.mon,false)]})]
theorem zGf (a0:Host)(b:Int)(l:zb6 big [aH a0,aI b])(p:zhw a0 b=true):∃N,zu5 N a0 b=some [aI (ze6 a0 b),aI (zf3 a0 b)]:=by
 have h:CVB big (.s .mon a0.Mons):=(zdg l).1 _ (by simp[AV.cvs,zbl]);have g:=h.len;refine zcq fun N d=>?_;unfold zu5 ze6 zf3 zbF oN;conv=>zeta
 cases n:ilt b 0;{simp only [cF];refine(zbm a0.Mons (fun i (t:Unit)=>(b,(ln a0.Mons),(i:Int),a0.Mons,())) _ (fun i (x:Mon) (_:Unit) m=>goL (fun j (y:Slot) (_:Unit) a=>bif ieq y.Page b then some [AV.one (.i .i64 (i:Int)),AV.one (.i .i64 (j:Int))] else a ()) (fun _=>m ()) x.Outer 0 ()) (fun (t:Unit)=>(some [(.one (.i .i64 (-1))),(.one (.i .i64 (-1)))])) (fun i c t rec=>?_) (fun t rec=>?_) _ () (d g)).trans ?_;{simp only [zbs c,zbe c,zbj c,zbh c g,cT];have k:a0.Mons[i].Outer.length<=big:=(h.inv.2 _ (jG c) (.s .slot _) (by simp[Ty.cells])).len;refine(zbm a0.Mons[i].Outer (fun j (u:Unit)=>(b,(i:Int),(ln a0.Mons),(i:Int),(i:Int),(ln a0.Mons[i].Outer),(j:Int),a0.Mons,())) _ (fun j (y:Slot) (_:Unit) a=>bif ieq y.Page b then some [AV.one (.i .i64 (i:Int)),AV.one (.i .i64 (j:Int))] else a ()) (fun (u:Unit)=>(rec (b,((ln a0.Mons),((((i+1:Nat)):Int),(a0.Mons,())))))) (fun j f u e=>?_) (fun u e=>?_) _ () (d k)).trans ?_;{simp only [zbs f,zbe f,zbj f,zbh f k,cT,zbe c,zbj c,zbh c g]};{simp only [zbn,cF,zbe c,zbj c,zbh c g]};rfl};{simp only [zbn,cF]};exact zN1 b (fun i j=>some [AV.one (.i .i64 i),AV.one (.i .i64 j)]) a0.Mons 0};{rfl}
theorem zpl:vM 35 zlQ:=hF2 zzM zB zy zd9 zGA zGf
theorem z3y {a c b:Type}(r:Option b):∀(l:List a) (i:Nat) (t:c),goL (fun _ _ _ _=>r) (fun _=>r) l i t=r
 |[],_,_=>rfl
 |_::_,_,_=>rfl
@[simp] abbrev zhK (h:Host)(p:Int):Bool:=true
@[simp] abbrev zfb (h:Host)(p:Int):Int:=(zbF h p).1
@[simp] abbrev zf6 (h:Host)(p:Int):Int:=(zbF h p).2
def zlR:Run:=rF2 dH dI fun b c=>(zhK b c,[aI (zfb b c),aI (zf6 b c)])
def zvg (N:Nat)(a0:Host)(e:Int):OA:=
 (iter (σ:=(Int×(Int×(lM×(lN×(lE×(lE×Unit))))))) N (fun f b=>(cond (ilt b.2.1 (ln b.2.2.2.1)) (cond (ige b.1 0) (iter (σ:=(Int×(Int×(Int×(lM×(lN×(lE×(lE×Unit)))))))) N (fun g a=>let c:=a.2.2.2.2.1;let d:=(ix c a.2.1 zh).Outer; (oN (inb a.2.1 (ln c)) (cond (ilt a.2.2.1 (ln d)) (oN (inb a.2.1 (ln c)) (oN (inb a.2.2.1 (ln d)) (cond (ieq (ix d a.2.2.1 zQ).Page a.1) (some [(aI a.2.1),(aI a.2.2.1)]) (g (a.1,(a.2.1,((zM .i64 a.2.2.1 1),(a.2.2.2.1,(c,(a.2.2.2.2.2.1,(a.2.2.2.2.2.2.1,()))))))))))) (f (a.1,((zM .i64 a.2.1 1),(a.2.2.2.1,(c,(a.2.2.2.2.2.1,(a.2.2.2.2.2.2.1,())))))))))) (b.1,(b.2.1,(0,(b.2.2.1,(b.2.2.2.1,(b.2.2.2.2.1,(b.2.2.2.2.2.1,())))))))) (some [(aI (-1)),(aI (-1))])) (some [(aI (-1)),(aI (-1))]))) (e,(0,(a0.Memory,(a0.Mons,(a0.Buffer,(a0.IoBuffer,())))))))
def zGB:FuncId->Nat->Option Tmpl:=zq [(36,0,{n:=44,tm:=[(1,ti),(2,.lp 0 0),(6,ti)],lo:=[(0,[.sl 0 [],.sl 1 [],.sl 2 [],.sl 3 []])],ro:=[(0,(.sl .int),false),(1,.mon,false),(2,.entry,false),(3,.entry,false)]}),(36,2,{n:=44,tm:=[(1,ti),(2,.lp 0 0),(6,ti),(7,ti)],lo:=[(0,[.sl 0 [],.sl 1 [],.sl 2 [],.sl 3 []])],ro:=[(0,(.sl .int),false),(1,.mon,false),(2,.entry,false),(3,.entry,false)]})]
theorem zGr (a0:Host)(a:Int)(n:zb6 big [aH a0,aI a])(q:zhK a0 a=true):∃N,zvg N a0 a=some [aI (zfb a0 a),aI (zf6 a0 a)]:=by
 have l:CVB big (.s .mon a0.Mons):=(zdg n).1 _ (by simp[AV.cvs,zbl]);have k:=l.len;refine zcq fun N d=>?_;unfold zvg zfb zf6 zbF oN;conv=>zeta
 refine(zbm a0.Mons (fun i (t:Unit)=>(a,(i:Int),a0.Memory,a0.Mons,a0.Buffer,a0.IoBuffer,())) _ (fun i (x:Mon) (_:Unit) p=>bif ige a 0 then goL (fun j (y:Slot) (_:Unit) b=>bif ieq y.Page a then some [AV.one (.i .i64 (i:Int)),AV.one (.i .i64 (j:Int))] else b ()) (fun _=>p ()) x.Outer 0 () else some [AV.one (.i .i64 (-1)),AV.one (.i .i64 (-1))]) (fun (t:Unit)=>(some [(.one (.i .i64 (-1))),(.one (.i .i64 (-1)))])) (fun i c t rec=>?_) (fun t rec=>?_) _ () (d k)).trans ?_;{simp only [zbs c,zbe c,zbj c,zbh c k,cT];cases g:ige a 0;{rfl};have m:a0.Mons[i].Outer.length<=big:=(l.inv.2 _ (jG c) (.s .slot _) (by simp[Ty.cells])).len;simp only[cT];refine(zbm a0.Mons[i].Outer (fun j (_:Unit)=>(a,((i:Int),((j:Int),(a0.Memory,(a0.Mons,(a0.Buffer,(a0.IoBuffer,())))))))) _ (fun j (y:Slot) (_:Unit) b=>bif ieq y.Page a then some [AV.one (.i .i64 (i:Int)),AV.one (.i .i64 (j:Int))] else b ()) (fun _=>rec (a,(((i+1:Nat):Int),(a0.Memory,(a0.Mons,(a0.Buffer,(a0.IoBuffer,()))))))) (fun j f u e=>?_) (fun u e=>?_) _ () (d m)).trans ?_;{simp only [zbs f,zbe f,zbj f,zbh f m,cT,zbe c,zbj c]};{simp only [zbn,cF,cT,zbe c,zbj c,zbh c k]};rfl};{simp only [zbn,cF]};cases g:ige a 0;{have h:ilt a 0=true:=(by have:=jW g;exact qJ (by omega));rw[h];exact z3y _ _ _ _};{have h:ilt a 0=false:=(by have:=qE g;exact qL (by omega));rw[h];exact zN1 a (fun i j=>some [AV.one (.i .i64 i),AV.one (.i .i64 j)]) a0.Mons 0}
theorem zpn:vM 36 zlR:=hF2 zzM zB zy zd9 zGB zGr
def z8A:zW:=[(220,zpZ),(36,zlR),(35,zlQ)]++z8z
theorem ztR:zK z8A:=zi zt2 (zi zpn (zi zpl zzM))
def zb4 (h:Host):List Int:=zxb (fun i=>ilt (zbF h (i:Int)).1 0) h.Memory.length 0
@[simp] abbrev zjd (h:Host):Bool:=pc (h.Memory.length<=1048576)
@[simp] abbrev zee (h:Host):List Int:=zb4 h
def zuu:Run:=rF1 dH fun b=>(zjd b,[aS .int (zee b)])
def zKq (N:Nat)(a0:Host):OA:=
 (iter (σ:=(Int×((List Int)×(lM×(lN×(lE×(lE×Unit))))))) N (fun b a=>let c:=(⟨a.2.2.1,a.2.2.2.1,a.2.2.2.2.1,a.2.2.2.2.2.1⟩:Host); (cond (ilt a.1 (ln a.2.2.1)) (oN (zhK c a.1) (cond (ilt (zfb c a.1) 0) (oN (few (ln (ap a.2.1 [a.1]))) (b ((zM .i64 a.1 1),((ap a.2.1 [a.1]),(a.2.2.1,(a.2.2.2.1,(a.2.2.2.2.1,(a.2.2.2.2.2.1,())))))))) (b ((zM .i64 a.1 1),(a.2.1,(a.2.2.1,(a.2.2.2.1,(a.2.2.2.2.1,(a.2.2.2.2.2.1,()))))))))) (some [(aS .int a.2.1)]))) (0,([],(a0.Memory,(a0.Mons,(a0.Buffer,(a0.IoBuffer,())))))))
def zXc:FuncId->Nat->Option Tmpl:=zq [(24,0,{n:=28,tm:=[(1,.lp 0 0),(3,.sl 0 []),(4,ti)],lo:=[(0,[.sl 1 [],.sl 2 [],.sl 3 [],.sl 4 []])],ro:=[(0,.int,true),(1,(.sl .int),false),(2,.mon,false),(3,.entry,false),(4,.entry,false)]})]
theorem zVq (a0:Host)(e:zjd a0=true):∃N,zKq N a0=some [aS .int (zee a0)]:=by
 have f:=zL.1 e;have d:=zcF f;refine zcq fun N c=>?_;unfold zKq oN;conv=>zeta
 refine(zbm a0.Memory (fun i (t:(List Int))=>((i:Int),t,a0.Memory,a0.Mons,a0.Buffer,a0.IoBuffer,())) _ (fun i (_:List Int) (t:List Int) a=>bif ilt (zbF a0 (i:Int)).1 0 then (cond (few (ln (ap t [(i:Int)]))) (a (ap t [(i:Int)])) none) else a t) (fun (t:(List Int))=>(some [(.one (.s .int t))])) (fun i b t rec=>?_) (fun t rec=>?_) _ ([]) (c d.1)).trans ?_;{simp only [zbs b,zbe b,zbj b,zbh b d.1,cT]};{simp only [zbn,cF]};rw[zx1 (fun i (t:List Int) a=>bif ilt (zbF a0 (i:Int)).1 0 then (cond (few (ln (ap t [(i:Int)]))) (a (ap t [(i:Int)])) none) else a t)];exact zzY (fun i=>ilt (zbF a0 (i:Int)).1 0) _ _ 0 [] (by simpa using d.2)
theorem zx6:vM 24 zuu:=kF1 ztR zB zy zd9 zXc zVq
@[simp] abbrev zfF (h:Host):Bool:=pc (h.Memory.length<=1048576)
@[simp] abbrev zdT (h:Host):List Int:=zb4 h
def zun:Run:=rF1 dH fun b=>(zfF b,[aS .int (zdT b)])
def zKa (N:Nat)(a0:Host):OA:=
 (iter (σ:=(Int×(Int×((List Int)×(lM×(lN×(lE×(lE×Unit)))))))) N (fun c a=>let b:=a.2.2.2.2.2.2.1;let d:=(⟨a.2.2.2.1,a.2.2.2.2.1,a.2.2.2.2.2.1,b⟩:Host); (cond (ilt a.2.1 a.1) (oN (zhw d a.2.1) (cond (ilt (ze6 d a.2.1) 0) (oN (few (ln (ap a.2.2.1 [a.2.1]))) (c (a.1,((zM .i64 a.2.1 1),((ap a.2.2.1 [a.2.1]),(a.2.2.2.1,(a.2.2.2.2.1,(a.2.2.2.2.2.1,(b,()))))))))) (c (a.1,((zM .i64 a.2.1 1),(a.2.2.1,(a.2.2.2.1,(a.2.2.2.2.1,(a.2.2.2.2.2.1,(b,())))))))))) (some [(aS .int a.2.2.1)]))) ((ln a0.Memory),(0,([],(a0.Memory,(a0.Mons,(a0.Buffer,(a0.IoBuffer,()))))))))
def zW6:FuncId->Nat->Option Tmpl:=zq [(33,0,{n:=28,tm:=[(1,.lp 0 0),(3,.sl 0 []),(10,ti),(11,ti)],lo:=[(0,[.sl 1 [],.sl 2 [],.sl 3 [],.sl 4 []])],ro:=[(0,.int,true),(1,(.sl .int),false),(2,.mon,false),(3,.entry,false),(4,.entry,false)]})]
theorem zU8 (a0:Host)(e:zfF a0=true):∃N,zKa N a0=some [aS .int (zdT a0)]:=by
 have f:=zL.1 e;have d:=zcF f;refine zcq fun N c=>?_;unfold zKa oN;conv=>zeta
 refine(zbm a0.Memory (fun i (t:(List Int))=>((ln a0.Memory),(i:Int),t,a0.Memory,a0.Mons,a0.Buffer,a0.IoBuffer,())) _ (fun i (_:List Int) (t:List Int) a=>bif ilt (zbF a0 (i:Int)).1 0 then (cond (few (ln (ap t [(i:Int)]))) (a (ap t [(i:Int)])) none) else a t) (fun (t:(List Int))=>(some [(.one (.s .int t))])) (fun i b t rec=>?_) (fun t rec=>?_) _ ([]) (c d.1)).trans ?_;{simp only [zbs b,zbe b,zbj b,zbh b d.1,cT]};{simp only [zbn,cF]};rw[zx1 (fun i (t:List Int) a=>bif ilt (zbF a0 (i:Int)).1 0 then (cond (few (ln (ap t [(i:Int)]))) (a (ap t [(i:Int)])) none) else a t)];exact zzY (fun i=>ilt (zbF a0 (i:Int)).1 0) _ _ 0 [] (by simpa using d.2)
theorem zx4:vM 33 zun:=kF1 ztR zB zy zd9 zW6 zU8
def zg5 (m:List (List Int))(p:Int)(c:List Int):List (List Int):=bif hasB p (ln m) then (cond (zcl c) (up m p c) m) else m
@[simp] abbrev zkQ (m:List (List Int))(p:Int)(c:List Int):Bool:=pc (SmM m/\c.length<=1048576)
@[simp] abbrev zji (m:List (List Int))(p:Int)(c:List Int):List (List Int):=zg5 m p c
def zy3:Run:=rF3 (dS (.sl .int)) dI (dS .int) fun b c d=>(zkQ b c d,[aS (.sl .int) (zji b c d)])
def zC1 (N:Nat)(a0:lM)(a:Int)(b:List Int):OA:=
 (oN (zfL a0) (oN (zN a 0 (wsub .i64 (ln a0) 1)) (cond (zT a 0 (wsub .i64 (ln a0) 1)) (oN (zfJ b) (cond (zfc b) (oN (few (ln (ap [] b))) (oN (inb a (ln (zeh a0))) (share (up (zeh a0) a (ap [] b)) (fun c=>(some [(aS (.sl .int) c)]))))) (some [(aS (.sl .int) (zeh a0))]))) (some [(aS (.sl .int) (zeh a0))]))))
theorem zPq (a0:List (List Int))(a:Int)(b:List Int)(f:zkQ a0 a b=true):∃N,zC1 N a0 a b=some [aS (.sl .int) (zji a0 a b)]:=by obtain⟨d,c⟩:=zL.1 f;refine⟨0,?_⟩;unfold zC1 zji zg5 oN;refine must (zbC ((zpA _).2 d)) (must rfl ?_);rw[show zT a 0 (wsub .i64 (ln a0) 1)=hasB a (ln a0) from zqh d.1 a];cases e:hasB a (ln a0);{rfl};{simp only [cT,zfJ,zfc];cases g:zcl b;{rfl};{refine must rfl (must (znj c) (must (zJ e) ?_));rw[zlU];rfl}}
theorem zI7:vM 133 zy3:=kF3 ztR zB zy zd9 (zq []) zPq
@[simp] abbrev zku (m:List (List Int))(p:Int)(c:List Int):Bool:=pc (SmM m/\c.length<=1048576)
@[simp] abbrev zi5 (m:List (List Int))(p:Int)(c:List Int):List (List Int):=zg5 m p c
def zyE:Run:=rF3 (dS (.sl .int)) dI (dS .int) fun b c d=>(zku b c d,[aS (.sl .int) (zi5 b c d)])
def zCx (N:Nat)(a0:lM)(a:Int)(b:List Int):OA:=
 (oN (zhY a0) (oN (zio a (ln a0)) (cond (zka a (ln a0)) (oN (zhy b) (cond (zgc b) (oN (zdJ b) (oN (inb a (ln (zfn a0))) (share (up (zfn a0) a (zdF b)) (fun c=>(some [(aS (.sl .int) c)]))))) (some [(aS (.sl .int) (zfn a0))]))) (some [(aS (.sl .int) (zfn a0))]))))
theorem zOV (a0:List (List Int))(a:Int)(b:List Int)(e:zku a0 a b=true):∃N,zCx N a0 a b=some [aS (.sl .int) (zi5 a0 a b)]:=by obtain⟨f,c⟩:=zL.1 e;refine⟨0,?_⟩;unfold zCx zi5 zg5 oN;refine must (zbC f) (must rfl ?_);rw[show zka a (ln a0)=hasB a (ln a0) from rfl];cases d:hasB a (ln a0);{rfl};{simp only [cT,zhy,zgc];cases g:zcl b;{rfl};{refine must rfl (must (zbC (qU c (by decide))) (must (zJ d) rfl))}}
theorem zIH:vM 128 zyE:=kF3 ztR zB zy zd9 (zq []) zOV
def zqr:zW:=[(24,zuu),(33,zun),(133,zy3),(128,zyE)]++z8A
theorem zhU:zK zqr:=zi zx6 (zi zx4 (zi zI7 (zi zIH ztR)))
abbrev mZ:Mon:=Ty.dflt .mon
abbrev sZ:Slot:=Ty.dflt .slot
def ShM (x:Mon):Prop:=x.Outer.length=8/\x.Out.length=8/\x.Dirty.length=8/\x.Tables.length=x.Guests.length
def Shape (h:Host):Prop:=SmH h/\∀x∈h.Mons,ShM x
theorem zib {h:Host}{m:Int}{x:Mon}(a:Shape h)(c:zeP x)(d:ShM x):Shape {h with Mons:=up h.Mons m x}:=by refine⟨⟨a.1.1,ziT a.1.2.1 c,a.1.2.2⟩,fun y b=>?_⟩;rcases qW b with b|rfl;{exact a.2 y b};{exact d}
theorem zcy {h:Host}(b:Shape h){m:Int}(a:hasB m (ln h.Mons)=true):zeP (ix h.Mons m mZ)/\ShM (ix h.Mons m mZ):=⟨b.1.2.1.2 _ (zbD a _),b.2 _ (zbD a _)⟩
theorem zRG {h:Host}{b:List (List Int)}(a:Shape h)(c:SmM b):Shape {h with Memory:=b}:=⟨⟨c,a.1.2⟩,a.2⟩
theorem zsG {h:Host}{m p:Int}{s:Slot}(e:hasB m (ln h.Mons)=true)(b:Shape h):Shape (zb8 h m p s):=by refine⟨zH4 e b.1,?_⟩;obtain⟨_,a⟩:=zcy b e;have d:∀y∈up h.Mons m {zhj (ix h.Mons m mZ) p (ix h.Mons m mZ).Tables.length with Outer:=up (ix h.Mons m mZ).Outer p s},ShM y:=(by intro y c;rcases qW c with c|rfl;{exact b.2 y c};{exact⟨by simpa using a.1,a.2.1,a.2.2.1,by simpa [zhj,znd] using a.2.2.2⟩});unfold zb8;cases ine (ix (ix h.Mons m mZ).Outer p sZ).Page (-1)<;>exact d
theorem zfS (h:Host)(m p:Int)(s:Slot):(zb8 h m p s).Mons=up h.Mons m {zhj (ix h.Mons m mZ) p (ix h.Mons m mZ).Tables.length with Outer:=up (ix h.Mons m mZ).Outer p s}/\(zb8 h m p s).Memory=h.Memory:=by unfold zb8;cases ine (ix (ix h.Mons m mZ).Outer p sZ).Page (-1)<;>exact⟨rfl,rfl⟩
theorem zel {h:Host}{m k:Int}{x:Mon}(a:hasB m (ln h.Mons)=true):hasB m (ln (up h.Mons k x))=true:=by simpa [ln] using a
theorem zHr {h:Host}{m k p:Int}{s:Slot}(a:hasB m (ln h.Mons)=true):hasB m (ln (zb8 h k p s).Mons)=true:=by rw[(zfS h k p s).1];exact zel a
theorem zdu {b:Type}{l:List b}{p:Int}(h:l.length=8)(a:hasB p 8=true):hasB p (ln l)=true:=by rw[ln,h];exact a
def zAe (h:Host)(m p:Int)(s:Slot):Host :=
 bif ine s.Page (-1) then ⟨h.Memory,up h.Mons m (zhj (ix h.Mons m mZ) p (ix h.Mons m mZ).Guests.length),flushed h.Buffer s.Page,flushed h.IoBuffer s.Page⟩
 else ⟨h.Memory,up h.Mons m (zhj (ix h.Mons m mZ) p (ix h.Mons m mZ).Guests.length),h.Buffer,h.IoBuffer⟩
theorem zAQ {h:Host}{k:Nat}{p:Int}{s:Slot}(a:k<h.Mons.length)(b:(ix h.Mons (k:Int) mZ).Tables.length=(ix h.Mons (k:Int) mZ).Guests.length) :
 zAe {h with Mons:=up h.Mons (k:Int) {ix h.Mons (k:Int) mZ with Outer:=up (ix h.Mons (k:Int) mZ).Outer p s}} (k:Int) p (ix (ix h.Mons (k:Int) mZ).Outer p sZ)=zb8 h (k:Int) p s:=by
 unfold zb8 zAe;simp only[zdq a,zrp,zhj,b]
def z01 {a:Type}(m p:Int)(i:Nat)(t:List Mon)(κ:List Mon->Option a):Option a :=
 (cond (inb (i:Int) (ln (ix t m mZ).Tables)) (cond (inb (i:Int) (ln (ix t m mZ).Guests)) (cond (pc (SmK (ix (ix t m mZ).Tables (i:Int) zep)/\(ix (ix t m mZ).Guests (i:Int) zC).Live.length<=1048576)) (cond (inb (i:Int) (ln (ix t m mZ).Tables)) (κ (up t m ({ (ix t m mZ) with Tables:=(up (ix t m mZ).Tables (i:Int) (zhv (ix (ix t m mZ).Tables (i:Int) zep) (ix (ix t m mZ).Guests (i:Int) zC).Live p))}:Mon))) none) none) none) none)
theorem zZt {g:Type}{mons:List Mon}{k:Nat}(d:k<mons.length)(p:Int)(c:zeP (ix mons (k:Int) mZ))(f:(ix mons (k:Int) mZ).Tables.length=(ix mons (k:Int) mZ).Guests.length)(K:List Mon->Option g) :
 ∀(n i:Nat),i+n=(ix mons (k:Int) mZ).Guests.length->goN (fun i t κ=>z01 (k:Int) p i t κ) K n i (up mons (k:Int) (zhj (ix mons (k:Int) mZ) p i))=K (up mons (k:Int) (zhj (ix mons (k:Int) mZ) p (ix mons (k:Int) mZ).Guests.length))
 | 0,i,h=>by have:i=(ix mons (k:Int) mZ).Guests.length:=(by omega);subst this;rfl
 |n+1,i,h=>by
  have b:i<(ix mons (k:Int) mZ).Guests.length:=(by omega);have a:i<(zjs (ix mons (k:Int) mZ).Guests p i (ix mons (k:Int) mZ).Tables).length:=by rw[znd];omega
  have e:pc (SmK (ix (zjs (ix mons (k:Int) mZ).Guests p i (ix mons (k:Int) mZ).Tables) (i:Int) zep)/\(ix (ix mons (k:Int) mZ).Guests (i:Int) zC).Live.length<=1048576)=true :=
   zbC ⟨by rw[zbj a];exact(zr0 _ _ _ _ (by omega) c.2.2.2.2.2).2 _ (jG a),by rw[zbj b];exact(c.2.2.2.1.2 _ (jG b)).2.2.1⟩
  simp only[goN,z01,zdq d,zrp,zhj,zbe a,zbe b,e,cT];exact zZt d p c f K n (i+1) (by omega)
@[simp] abbrev zd4 (h:Host)(m p:Int)(s:Slot):Bool:=pc (Shape h/\hasB m (ln h.Mons)=true)
@[simp] abbrev zd5 (h:Host)(m p:Int)(s:Slot):Host:=zAe h m p s
def zlP:List CV->List AV->Option (Bool×List CV×List AV)
 |[.s (.sl .int) b,.s .mon c,.s .entry d,.s .entry e],[.one (.i .i64 f),.one (.i .i64 g),.agg [.i .i64 h,.i .i64 j]]=>some ((zd4 (⟨b,c,d,e⟩:Host) f g (⟨h,j⟩:Slot)),zbl (zd5 (⟨b,c,d,e⟩:Host) f g (⟨h,j⟩:Slot)),[])
 |_,_=>none
def zpr (N:Nat)(c:Host)(a0 m:Int)(j:Slot):OA:=
 (oN (inb a0 (ln c.Mons)) (iter (σ:=(Int×(Int×(Int×(Int×(Int×(Int×(lN×(lM×(lE×(lE×Unit))))))))))) N (fun n a=>let i:=a.2.2.2.2.2.2.2.1;let h:=a.2.2.2.2.2.2.1;let e:=a.2.2.2.2.1;let g:=a.2.2.2.2.2.2.2.2.1;let f:=a.2.2.2.2.2.2.2.2.2.1;let b:=a.2.2.2.1;let d:=(ix h a.2.1 zh);let l:=(ix d.Tables b zep);let k:=(ix d.Guests b zC).Live; (cond (ilt b a.2.2.1) (oN (inb b (ln d.Tables)) (oN (inb b (ln d.Guests)) (oN (zin l k a.1) (oN (inb b (ln d.Tables)) (share (up h a.2.1 ({d with Tables:=(up d.Tables b (znY l k a.1))}:Mon)) (fun p=>(n (a.1,(a.2.1,(a.2.2.1,((zM .i64 b 1),(e,(a.2.2.2.2.2.1,(p,(i,(g,(f,()))))))))))))))))) (cond (ine e (-1)) (oN (zdZ g e) (oN (zdZ f e) (some [(aH (⟨i,h,(zgu g e),(zgu f e)⟩:Host))]))) (some [(aH (⟨i,h,g,f⟩:Host))])))) (m,(a0,((ln (ix c.Mons a0 zh).Guests),(0,(j.Page,(j.Rights,(c.Mons,(c.Memory,(c.Buffer,(c.IoBuffer,()))))))))))))
def zJZ:FuncId->Nat->Option Tmpl:=zq [(72,0,{n:=71,tm:=[(0,.lp 0 0),(2,ti),(7,.lp 1 0),(8,.ep 0 [] 0),(20,ti),(21,ti)],lo:=[(0,[.sl 1 [],.sl 0 [],.sl 2 [],.sl 3 []]),(1,[ti,ti])],ro:=[(0,.mon,true),(1,(.sl .int),true),(2,.entry,true),(3,.entry,true)]})]
theorem zMD (N:Nat)(c:Host)(a0 a:Int)(b:Slot):znQ (cQ zqr zpL zPK zW3) zJZ N 12 72 [true,true,true,true] (zbl c) [aI a0,aI a,aT .slot b]=zpr N c a0 a b:=by kernel_rfl
theorem zJm (c:Host)(a0 b:Int)(a:Slot)(r:zb6 big (.agg (zbl c)::[aI a0,aI b,aT .slot a]))(q:zd4 c a0 b a=true):∃N,zpr N c a0 b a=some (.agg (zbl (zd5 c a0 b a))::[]):=by
 obtain⟨g,f⟩:=zL.1 q;obtain⟨j,p⟩:=zcy g f;have hg:(ix c.Mons a0 mZ).Guests.length<=big:=(zcF j.2.2.2.1.1).1;refine zcq fun N e=>?_;unfold zpr oN;conv=>zeta
 refine must (zJ f) ?_;refine(zbm ((ix c.Mons a0 zh).Guests) (fun i (t:lN)=>(b,a0,(ln (ix c.Mons a0 zh).Guests),(i:Int),a.Page,a.Rights,t,c.Memory,c.Buffer,c.IoBuffer,())) _ (fun i (x:Guest) (t:List Mon) h=>z01 a0 b i t h) (fun (t:lN)=>(cond (ine a.Page (-1)) (cond (zdZ c.Buffer a.Page) (cond (zdZ c.IoBuffer a.Page) (some [(.agg (zbl (⟨c.Memory,t,(zgu c.Buffer a.Page),(zgu c.IoBuffer a.Page)⟩:Host)))]) none) none) (some [(.agg (zbl (⟨c.Memory,t,c.Buffer,c.IoBuffer⟩:Host)))]))) (fun i d t rec=>?_) (fun t rec=>?_) _ (c.Mons) (e hg)).trans ?_;{simp only [zbs d,zbe d,zbj d,zbh d hg,cT];rfl};{simp only [zbn,cF]};obtain⟨k,rfl,l⟩:=zds (n:=c.Mons.length) f;rw[zx1 (fun i t h=>z01 (k:Int) b i t h)];have m:c.Mons=up c.Mons (k:Int) (zhj (ix c.Mons (k:Int) mZ) b 0):=(zQi l _).symm;refine(congrArg _ m).trans ((zZt l b j p.2.2.2 _ _ 0 (j4 _)).trans ?_);show (cond (ine a.Page (-1)) _ _)=some [AV.agg (zbl (zAe c (k:Int) b a))];unfold zAe;cases ine a.Page (-1);{rfl};{exact must rfl (must (zbC g.1.2.2.1) (must (zbC g.1.2.2.2) rfl))}
theorem zDx:zbN Tryz.prog 72 [true,true,true,true] zlP:=by refine zgJ (zf2 zhU zB zy zd9) (ziZ (by kernel_rfl)) ?_;intro g a b j i f h;have d:=zkj f;unfold zlP at h;split at h;{obtain⟨e,rfl,rfl⟩:=zmt h;obtain⟨N,c⟩:=zJm _ _ _ _ (by exact d) e;exact⟨rfl,_,N,12,(zMD N _ _ _ _ ).trans c⟩};{cases h}
def z1q:zcU:=[(72,([true,true,true,true],zlP))]++zPK
theorem zPL:zb2 z1q:=zcu zy (by
 intro x a;simp only[qG,qO,or_false]at a;rcases a with rfl
 .exact zDx)
def zet (h:Host)(m p:Int):Host:={h with Mons:=up h.Mons m {ix h.Mons m mZ with Out:=up (ix h.Mons m mZ).Out p (zcp h.Memory (ix (ix h.Mons m mZ).Outer p sZ).Page)}}
def zdl (h:Host)(m p:Int):Host:=zb8 (zet h m p) m p noSlot
theorem zWS {m:List (List Int)}{p:Int}(h:SmM m):(zcp m p).length<=1048576:=by unfold zcp;cases a:hasB p (ln m);{exact(by decide:zAW.length<=1048576)};{exact h.2 _ (zbD a _)}
theorem zxz {h:Host}{m p:Int}(c:Shape h)(d:hasB m (ln h.Mons)=true):Shape (zet h m p):=by obtain⟨a,b⟩:=zcy c d;exact zib c ⟨a.1,zNj a.2.1 (zWS c.1.1),a.2.2⟩ ⟨b.1,by simpa using b.2.1,b.2.2⟩
theorem zNb {h:Host}{m p:Int}(b:Shape h)(a:hasB m (ln h.Mons)=true):Shape (zdl h m p):=zsG (zel a) (zxz b a)
@[simp] abbrev ztn (h:Host)(m p:Int):Bool:=pc (Shape h/\hasB m (ln h.Mons)=true/\hasB p 8=true)
@[simp] abbrev zAN (h:Host)(m p:Int):Host:=zdl h m p
def zuD:List AV->Option (Bool×List AV)
 |[.agg [.s (.sl .int) b,.s .mon c,.s .entry d,.s .entry e],.one (.i .i64 f),.one (.i .i64 g)]=>some ((ztn (⟨b,c,d,e⟩:Host) f g),[aH (zAN (⟨b,c,d,e⟩:Host) f g)])
 |_=>none
def zzx (N:Nat)(a0:Host)(a b:Int):OA:=
 let c:=(ix a0.Mons a zh);let d:=(ix c.Outer b zQ).Page; (oN (inb a (ln a0.Mons)) (oN (inb a (ln a0.Mons)) (oN (inb b (ln c.Outer)) (oN (zjf a0.Memory d) (oN (inb b (ln c.Out)) (share (up a0.Mons a ({c with Out:=(up c.Out b (zm4 a0.Memory d))}:Mon)) (fun f=>let e:=({a0 with Mons:=f}:Host); (oN zcv (oN (zeY e a b zbu) (some [(aH (zgA e a b zbu))]))))))))))
theorem zYs (N:Nat)(a0:Host)(a b:Int):zFh (cQ zqr zpL z1q zW3) (zq []) N 12 76 [true,true,true,true,false,false] 1 1 [[0],[1],[2],[4],[7]] .mon [aH a0,aI a,aI b]=zzx N a0 a b:=by kernel_rfl
theorem zVN (a0:Host)(c b:Int)(l:zb6 big [aH a0,aI c,aI b])(i:ztn a0 c b=true):∃N,zzx N a0 c b=some [aH (zAN a0 c b)]:=by
 obtain⟨f,a,e⟩:=zL.1 i;obtain⟨j,d⟩:=zcy f a;obtain⟨k,rfl,g⟩:=zds (n:=a0.Mons.length) a;have h:=zxz (p:=b) f a;refine⟨0,?_⟩;unfold zzx oN;conv=>zeta
 refine must (zJ a) (must (zJ a) (must (zJ (zdu d.1 e)) (must (zbC ((zpA _).2 f.1.1)) (must (zJ (zdu d.2.1 e)) (shr (must rfl (must (zbC ⟨(zV _).2 h.1,zel a,?_,?_⟩) rfl)))))));{simp only [zdq g];exact zdu d.1 e};{simp only [zdq g];exact kX d.2.2.2}
theorem zOL:zdR Tryz.prog 76 [true,true,true,true,false,false] (some (1,1,[[0],[1],[2],[4],[7]])) zuD:=by refine zk9 (kt:=.mon) (zf2 zhU zB zPL zd9) (ziZ (by kernel_rfl)) (by kernel_rfl) ?_;intro a g f e h;have c:=zih e;unfold zuD at h;split at h;{obtain⟨d,rfl⟩:=zdW h;obtain⟨N,b⟩:=zVN _ _ _ (by exact c) d;exact⟨⟨_,rfl⟩,rfl,_,N,12,(zYs N _ _ _ ).trans b⟩};{cases h}
@[simp] abbrev zAb (h:Host)(m p:Int):Bool:=pc (Shape h/\hasB m (ln h.Mons)=true/\hasB p 8=true)
@[simp] abbrev zAc (h:Host)(m p:Int):Host:=zdl h m p
def zxf:List CV->List AV->Option (Bool×List CV×List AV)
 |[.s (.sl .int) b,.s .mon c,.s .entry d,.s .entry e],[.one (.i .i64 f),.one (.i .i64 g)]=>some ((zAb (⟨b,c,d,e⟩:Host) f g),zbl (zAc (⟨b,c,d,e⟩:Host) f g),[])
 |_,_=>none
def zIe (N:Nat)(c:Host)(a0 a:Int):OA:=
 let b:=(ix c.Mons a0 zh);let d:=(ix b.Outer a zQ); (oN (inb a0 (ln c.Mons)) (oN (inb a (ln b.Outer)) (oN (zz7 c.Memory d.Page) (oN (inb a (ln b.Out)) (share (up c.Mons a0 ({b with Out:=(up b.Out a (zz6 c.Memory d.Page))}:Mon)) (fun f=>let e:=(ix f a0 zh); (oN zfG (oN (inb a (ln e.Outer)) (share (up f a0 ({e with Outer:=(up e.Outer a zgb)}:Mon)) (fun h=>let g:=({c with Mons:=h}:Host); (oN (zd4 g a0 a d) (some [(aH (zd5 g a0 a d))]))))))))))))
theorem z4b (N:Nat)(c:Host)(a0 a:Int):znQ (cQ zqr zpL z1q zW3) (zq []) N 12 70 [true,true,true,true] (zbl c) [aI a0,aI a]=zIe N c a0 a:=by kernel_rfl
theorem z1c (c:Host)(a0 a:Int)(v:zb6 big (.agg (zbl c)::[aI a0,aI a]))(t:zAb c a0 a=true):∃N,zIe N c a0 a=some (.agg (zbl (zAc c a0 a))::[]):=by
 obtain⟨j,b,i⟩:=zL.1 t;obtain⟨u,e⟩:=zcy j b;obtain⟨k,rfl,g⟩:=zds (n:=c.Mons.length) b;have l:=zxz (p:=a) j b;have d:hasB (k:Int) (ln (zet c (k:Int) a).Mons)=true:=zel b;have h:k<(zet c (k:Int) a).Mons.length:=(by simpa [zet] using g);have f:ix (zet c (k:Int) a).Mons (k:Int) mZ={ix c.Mons (k:Int) mZ with Out:=up (ix c.Mons (k:Int) mZ).Out a (zcp c.Memory (ix (ix c.Mons (k:Int) mZ).Outer a sZ).Page)}:=zdq g _ _;have r:Shape {zet c (k:Int) a with Mons:=up (zet c (k:Int) a).Mons (k:Int) {ix (zet c (k:Int) a).Mons (k:Int) mZ with Outer:=up (ix (zet c (k:Int) a).Mons (k:Int) mZ).Outer a noSlot}}:=(by obtain⟨m,q⟩:=zcy l d;exact zib l ⟨by simpa using m.1,m.2⟩ ⟨by simpa using q.1,q.2⟩);refine⟨0,?_⟩;unfold zIe oN;conv=>zeta
 refine must (zJ b) (must (zJ (zdu e.1 i)) (must (zbC ((zpA _).2 j.1.1)) (must (zJ (zdu e.2.1 i)) (shr (must rfl (must ?_ (shr (must (zbC ⟨r,zel d⟩) ?_))))))));{rw [zdq g];exact zJ (zdu e.1 i)};{have:=zAQ (p:=a) (s:=noSlot) h (by rw[f];exact e.2.2.2);rw[f] at this;show some [AV.agg (zbl (zAe {zet c (k:Int) a with Mons:=up (zet c (k:Int) a).Mons (k:Int) {ix (zet c (k:Int) a).Mons (k:Int) mZ with Outer:=up (ix (zet c (k:Int) a).Mons (k:Int) mZ).Outer a noSlot}} (k:Int) a (ix (ix c.Mons (k:Int) mZ).Outer a sZ)))]=_;rw[f];exact congrArg (fun x=>some [AV.agg (zbl x)]) this}
theorem zUQ:zbN Tryz.prog 70 [true,true,true,true] zxf:=by refine zgJ (zf2 zhU zB zPL zd9) (ziZ (by kernel_rfl)) ?_;intro g a b j i f h;have d:=zkj f;unfold zxf at h;split at h;{obtain⟨e,rfl,rfl⟩:=zmt h;obtain⟨N,c⟩:=z1c _ _ _ (by exact d) e;exact⟨rfl,_,N,12,(z4b N _ _ _ ).trans c⟩};{cases h}
def z1r:zcU:=[(70,([true,true,true,true],zxf))]++z1q
theorem zPM:zb2 z1r:=zcu zPL (by
 intro x a;simp only[qG,qO,or_false]at a;rcases a with rfl
 .exact zUQ)
def z2g:zfs:=[(76,([true,true,true,true,false,false],(some (1,1,[[0],[1],[2],[4],[7]])),zuD))]++zW3
theorem zPZ:zea z2g:=zqg zd9 (by
 intro x a;simp only[qG,qO,or_false]at a;rcases a with rfl
 .exact zOL)
end
end Go.Proofs.YthdlghbibaoabaaGreat.E
