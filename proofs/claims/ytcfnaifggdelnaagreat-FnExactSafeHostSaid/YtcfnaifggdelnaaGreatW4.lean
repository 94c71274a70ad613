/- What is proved here: a part of the proof that the statement of this claim holds (several texts of wip/, laid together). -/
import Derived.Test.YtcfnaifggdelnaaGreatW3
namespace Go.Proofs.YtcfnaifggdelnaaGreat.E
open Go
set_option linter.unusedVariables false
set_option maxRecDepth 100000
set_option linter.unusedSimpArgs false
set_option linter.unusedSectionVars false
noncomputable section
def spS:List Slot->List Int->Option (List Int)
 | [],u=>some u
 | s :: l,u=>bif ieq s.Page (-1) then spS l u else (cond (u.any (fun z=>ieq z s.Page)) none (spS l (ap u [s.Page])))
def spM:List Mon->List Int->Bool
 | [],_=>true
 | m :: l,u=>match spS m.Outer u with
  | none=>false
  | some v=>spM l v
def ze0:List Mon->Nat
 | []=>0
 | m :: l=>m.Outer.length+ze0 l
theorem zxQ {x y:Int}:(ieq x y=true)↔x=y:=by simp [ieq]
theorem zBU (u:List Int)(p:Int):u.any (fun z=>ieq z p)=u.reverse.contains p:=by
 cases h:u.any (fun z=>ieq z p)
 ·have:¬ u.reverse.contains p=true:=fun hc=>by
   rw [List.any_eq_false] at h;have hm:p∈u:=by simpa using hc
   exact h p hm (by simp [ieq])
  cases hc:u.reverse.contains p
  ·rfl
  ·exact absurd hc this
 ·obtain ⟨z,hz,e⟩:=List.any_eq_true.1 h;rw [zxQ.1 e] at hz;simpa using hz
theorem zvP:∀(l:List Slot) (u:List Int),apS (pairs l) u.reverse=(spS l u).map List.reverse
 | [],u=>rfl
 | s :: l,u=>by
  show (if s.Page = -1 then apS (pairs l) u.reverse else if u.reverse.contains s.Page then none else apS (pairs l) (s.Page :: u.reverse))=_
  unfold spS;rw [zBU]
  by_cases h:s.Page = -1
  ·rw [if_pos h,zxQ.2 h,cT];exact zvP l u
  ·rw [if_neg h,show ieq s.Page (-1)=false from by simp [ieq,h],cF]
   cases hc:u.reverse.contains s.Page
   ·have:=zvP l (ap u [s.Page]);rw [show (ap u [s.Page]).reverse=s.Page :: u.reverse from by simp [ap]] at this
    simpa using this
   ·rfl
theorem zzT:∀(l:List Mon) (u:List Int),apM (l.map fun (m:Mon)=>pairs m.Outer) u.reverse=spM l u
 | [],u=>rfl
 | m :: l,u=>by
  show (match apS (pairs m.Outer) u.reverse with|none=>false|some v=>apM (l.map fun (m:Mon)=>pairs m.Outer) v)=_
  rw [zvP];unfold spM;cases spS m.Outer u with
  | none=>rfl
  | some v=>exact zzT l v
theorem zz6 (h:Host):zft h=spM h.Mons []:=zzT h.Mons []
theorem zC6 {l:List Slot}{j:Nat}(hj:j<l.length)(u:List Int):spS (l.drop j) u=bif ieq l[j].Page (-1) then spS (l.drop (j+1)) u else (cond (u.any (fun z=>ieq z l[j].Page)) none (spS (l.drop (j+1)) (ap u [l[j].Page]))):=by
 rw [List.drop_eq_getElem_cons hj];rfl
theorem zyY {l:List Mon}{i:Nat}(hi:i<l.length):ze0 (l.drop i)=l[i].Outer.length+ze0 (l.drop (i+1)):=by
 rw [List.drop_eq_getElem_cons hi];rfl
def zDC (x:Option (List Int))(l:List Mon):Option Ans:=some [AV.one (.b (match x with|none=>false|some v=>spM l v))]
def zyb (h:Host):Prop:=zdl h/\ze0 h.Mons<=16777216
@[simp,reducible] def zgf (h:Host):Bool:=pc (zyb h)
@[simp,reducible] def zjo (h:Host):Bool:=zft h
def zeO:List AV->Option (Bool×List AV)
 | [.agg [.s (.sl .int) c,.s .mon d,.s .entry e,.s .entry f]]=>some ((zgf (⟨c,d,e,f⟩:Host)),[.one (.b (zjo (⟨c,d,e,f⟩:Host)))])
 | _=>none
def zfN (N:Nat)(a0:Host):Option Ans :=
 (iter (σ:=(Int×((List Int)×((List (List Int))×((List Mon)×((List Entry)×((List Entry)×Unit))))))) N (fun r2 s3=>(cond (ilt s3.1 (ln s3.2.2.2.1)) (iter (σ:=(Int×(Int×((List Int)×((List (List Int))×((List Mon)×((List Entry)×((List Entry)×Unit)))))))) N (fun r4 s5=>(cond (inb s5.1 (ln s5.2.2.2.2.1)) (cond (ilt s5.2.1 (ln (ix s5.2.2.2.2.1 s5.1 zG).Outer)) (cond (inb s5.1 (ln s5.2.2.2.2.1)) (cond (inb s5.2.1 (ln (ix s5.2.2.2.2.1 s5.1 zG).Outer)) (cond (ieq (ix (ix s5.2.2.2.2.1 s5.1 zG).Outer s5.2.1 zB).Page (-1)) (r4 (s5.1,((zW .i64 s5.2.1 1),(s5.2.2.1,(s5.2.2.2.1,(s5.2.2.2.2.1,(s5.2.2.2.2.2.1,(s5.2.2.2.2.2.2.1,())))))))) (iter (σ:=(Int×(Int×(Int×(Int×((List Int)×((List (List Int))×((List Mon)×((List Entry)×((List Entry)×Unit)))))))))) N (fun r6 s7=>(cond (ilt s7.2.2.2.1 (ln s7.2.2.2.2.1)) (cond (inb s7.2.2.2.1 (ln s7.2.2.2.2.1)) (cond (ieq (ix s7.2.2.2.2.1 s7.2.2.2.1 0) s7.2.2.1) (some [(.one (.b false))]) (r6 (s7.1,(s7.2.1,(s7.2.2.1,((zW .i64 s7.2.2.2.1 1),(s7.2.2.2.2.1,(s7.2.2.2.2.2.1,(s7.2.2.2.2.2.2.1,(s7.2.2.2.2.2.2.2.1,(s7.2.2.2.2.2.2.2.2.1,()))))))))))) none) (cond (few (ln (ap s7.2.2.2.2.1 [s7.2.2.1]))) (r4 (s7.1,((zW .i64 s7.2.1 1),((ap s7.2.2.2.2.1 [s7.2.2.1]),(s7.2.2.2.2.2.1,(s7.2.2.2.2.2.2.1,(s7.2.2.2.2.2.2.2.1,(s7.2.2.2.2.2.2.2.2.1,())))))))) none))) (s5.1,(s5.2.1,((ix (ix s5.2.2.2.2.1 s5.1 zG).Outer s5.2.1 zB).Page,(0,(s5.2.2.1,(s5.2.2.2.1,(s5.2.2.2.2.1,(s5.2.2.2.2.2.1,(s5.2.2.2.2.2.2.1,()))))))))))) none) none) (r2 ((zW .i64 s5.1 1),(s5.2.2.1,(s5.2.2.2.1,(s5.2.2.2.2.1,(s5.2.2.2.2.2.1,(s5.2.2.2.2.2.2.1,())))))))) none)) (s3.1,(0,(s3.2.1,(s3.2.2.1,(s3.2.2.2.1,(s3.2.2.2.2.1,(s3.2.2.2.2.2.1,())))))))) (some [(.one (.b true))]))) (0,([],(a0.Memory,(a0.Mons,(a0.Buffer,(a0.IoBuffer,())))))))
def zpp:FuncId->Nat->Option Tmpl:=zx [(13,0,{ n:=55,tm:=[(1,.lp 0 0),(3,.sl 0 []),(4,.i .i64)],lo:=[(0,[.sl 1 [],.sl 2 [],.sl 3 [],.sl 4 []])],ro:=[(0,.int,true),(1,(.sl .int),false),(2,.mon,false),(3,.entry,false),(4,.entry,false)] }),(13,2,{ n:=55,tm:=[(1,.lp 0 0),(3,.sl 0 []),(4,.i .i64),(5,.i .i64)],lo:=[(0,[.sl 1 [],.sl 2 [],.sl 3 [],.sl 4 []])],ro:=[(0,.int,true),(1,(.sl .int),false),(2,.mon,false),(3,.entry,false),(4,.entry,false)] }),(13,4,{ n:=55,tm:=[(1,.lp 0 0),(3,.sl 0 []),(4,.i .i64),(5,.i .i64),(6,.i .i64),(7,.i .i64)],lo:=[(0,[.sl 1 [],.sl 2 [],.sl 3 [],.sl 4 []])],ro:=[(0,.int,true),(1,(.sl .int),false),(2,.mon,false),(3,.entry,false),(4,.entry,false)] })]
theorem zqr (N:Nat)(a0:Host):evalFn (cQ zmZ zba zK zL) zpp N 12 13 [.agg (zbn a0)]=zfN N a0:=by kernel_rfl
theorem zpb (a0:Host)(hb:zF big [.agg (zbn a0)])(hc:(zgf a0)=true):∃N,zfN N a0=some [.one (.b (zjo a0))]:=by
 obtain ⟨hs,hn⟩:=zbb.1 hc;have hl:=zd8 hs.mons.len;refine ⟨NN,?_⟩;have hNN:∀{n:Nat},n<=big->n<NN:=fun h=>zcs h;generalize NN=N at hNN ⊢;unfold zfN
 show _=some [AV.one (.b (zft a0))]
 rw [zz6];refine (zxU a0.Mons.length (fun i (t:List Int)=>((i:Int),(t,(a0.Memory,(a0.Mons,(a0.Buffer,(a0.IoBuffer,()))))))) _ (fun i t=>t.length+ze0 (a0.Mons.drop i)<=16777216) (fun i t=>some [AV.one (.b (spM (a0.Mons.drop i) t))]) (fun i t rec hi hI hr=>?_) (fun t rec hI=>?_) N 0 [] (by simpa using hn) (Nat.zero_le _) (hNN hl.1)).trans (by simp)
 ·have ho:a0.Mons[i].Outer.length<=1048576:=(hs.mons.inv.2 _ (List.getElem_mem hi) (.s .slot _) (by simp [Ty.cells])).len
  have hob:a0.Mons[i].Outer.length<=big:=by rw [zfO];omega
  rw [zyY hi] at hI;simp only [zbo hi,cT];refine (zxU a0.Mons[i].Outer.length (fun j (u:List Int)=>((i:Int),((j:Int),(u,(a0.Memory,(a0.Mons,(a0.Buffer,(a0.IoBuffer,())))))))) _ (fun j u=>u.length+(a0.Mons[i].Outer.length-j)+ze0 (a0.Mons.drop (i+1))<=16777216) (fun j u=>zDC (spS (a0.Mons[i].Outer.drop j) u) (a0.Mons.drop (i+1))) (fun j u rec1 hj hJ hr1=>?_) (fun u rec1 hJ=>?_) N 0 t (by omega) (Nat.zero_le _) (hNN hob)).trans ?_
  ·simp only [zU hi,zbd hi,zbo hj,zU hj,zbd hj,cT];rw [zC6 hj];have hw:=zZ hj hob;cases hp:ieq a0.Mons[i].Outer[j].Page (-1)
   ·simp only [cF];have hu:u.length<=big:=by rw [zfO];omega
    refine (zbj u (fun n (_:Unit)=>((i:Int),((j:Int),(a0.Mons[i].Outer[j].Page,((n:Int),(u,(a0.Memory,(a0.Mons,(a0.Buffer,(a0.IoBuffer,())))))))))) _ (fun _ z (_:Unit) κ=>bif ieq z a0.Mons[i].Outer[j].Page then some [AV.one (.b false)] else κ ()) (fun _=>rec1 ((i:Int),(((j+1:Nat):Int),(ap u [a0.Mons[i].Outer[j].Page],(a0.Memory,(a0.Mons,(a0.Buffer,(a0.IoBuffer,())))))))) (fun n hn' _ rec2=>?_) (fun _ rec2=>?_) N () (hNN hu)).trans ?_
    ·simp only [zbo hn',zU hn',zbd hn',zZ hn' hu,cT]
    ·simp only [zbe,cF,hw];rw [zet (by simp [ap];omega),cT]
    ·rw [zuz (fun z=>ieq z a0.Mons[i].Outer[j].Page),hr1 _ (by simp [ap];omega)]
     cases u.any (fun z=>ieq z a0.Mons[i].Outer[j].Page)<;>rfl
   ·simp only [cT,hw];exact hr1 u (by omega)
  ·simp only [zU hi,zbd hi,zbe,cT,cF,zZ hi hl.1,List.drop_length];exact hr u (by simpa using hJ)
  ·rw [List.drop_eq_getElem_cons hi];rfl
 ·simp only [zbe,cF,List.drop_length];rfl
theorem zm9:Holds Tryz.prog 13 zeO:=zk zfP zy zl zn (zA (by kernel_rfl)) fun avs rs hb h=>by
 unfold zeO at h;split at h
 ·obtain ⟨hc,rfl⟩:=zh h;exact (fin1 zpb zqr hc hb :)
 ·cases h
def canRun (g:Guest):Bool:=bif (ieq g.Exit.Kind 0&&(ieq g.Exit.Page 0&&(ze9 g.Exit.Write false&&ieq g.Exit.N 0))) then !g.Halted else false
theorem must {ρ:Type}{c:Bool}{a b r:Option ρ}(h:c=true)(k:a=r):(cond c a b)=r:=by rw [h];exact k
theorem br {ρ:Type}{c:Bool}{a b r:Option ρ}(h1:c=true->a=r)(h2:c=false->b=r):(cond c a b)=r:=by
 cases c
 ·exact h2 rfl
 ·exact h1 rfl
theorem brN {ρ:Type}{c:Bool}{a b r:Option ρ}(h1:c=false->a=r)(h2:c=true->b=r):(cond (cond c false true) a b)=r:=by
 cases c
 ·exact h1 rfl
 ·exact h2 rfl
theorem shr {α ρ:Type}{x:α}{f:α->Option ρ}{r:Option ρ}(h:f x=r):share x f=r:=h
theorem zdU {ρ:Type}{c p:Bool}{a b:Option ρ}(hc:c=true):(cond c (cond (cond p false true) a b) none)=bif p then b else a:=by
 rw [hc];cases p<;>rfl
attribute [simp] zbb
@[simp] theorem zDG {α:Type}(l:List α):(few (ln l)=true)↔l.length<=2147483648:=by
 unfold few ln;rw [decide_eq_true_iff];omega
@[simp] theorem zDJ {α:Type}(l m:List α):(ap l m).length=l.length+m.length:=by simp [ap]
attribute [simp] zCF zwc
@[simp] theorem zBF (n:Nat)(k:IntKind)(x:Int):CVB n (.i k x)↔True:=⟨fun _=>trivial,fun _=>.i k x⟩
@[simp] theorem zDN (n:Nat)(x:Bool):CVB n (.b x)↔True:=⟨fun _=>trivial,fun _=>.b x⟩
theorem zd9 {n:Nat}{t:Ty}(l:List t.den):CVB n (.s t l)↔l.length<=n/\∀x∈l,∀c∈t.cells x,CVB n c:=⟨fun h=>h.inv,fun h=>.s t l h.1 h.2⟩
@[simp] theorem zxJ (n:Nat)(l:List Int):CVB n (.s .int l)↔l.length<=n:=by rw [zd9];simp [Ty.cells]
@[simp] theorem zCO (n:Nat)(l:List Int):CVB n (.s .u8 l)↔l.length<=n:=by rw [zd9];simp [Ty.cells]
@[simp] theorem zAD (n:Nat)(l:List Bool):CVB n (.s .bool l)↔l.length<=n:=by rw [zd9];simp [Ty.cells]
@[simp] theorem zAF (n:Nat)(l:List Slot):CVB n (.s .slot l)↔l.length<=n:=by rw [zd9];simp [Ty.cells]
@[simp] theorem zB7 (n:Nat)(l:List Ins):CVB n (.s .ins l)↔l.length<=n:=by rw [zd9];simp [Ty.cells]
@[simp] theorem zzh (n:Nat)(l:List Entry):CVB n (.s .entry l)↔l.length<=n:=by rw [zd9];simp [Ty.cells]
@[simp] theorem zB6 (n:Nat)(l:List GAct):CVB n (.s .act l)↔l.length<=n:=by rw [zd9];simp [Ty.cells]
@[simp] theorem zAG (n:Nat)(l:List Told):CVB n (.s .told l)↔l.length<=n:=by rw [zd9];simp [Ty.cells]
def SmM (m:List (List Int)):Prop:=m.length<=1048576/\∀x∈m,x.length<=1048576
def SmG (g:Guest):Prop:=g.Prog.length<=1048576/\g.Written.length<=1048576/\g.Live.length<=1048576/\g.Seen.length<=1048576
def zoz (l:List Guest):Prop:=l.length<=1048576/\∀x∈l,SmG x
def SmB (b:Bare):Prop:=SmM b.Memory/\zoz b.Guests/\b.Outs.length<=1048576
def zDx (l:List Bare):Prop:=l.length<=1048576/\∀x∈l,SmB x
theorem zA2:sm=1048576:=rfl
@[simp] theorem zyp (l:List Int):CVB sm (.s .int l)↔l.length<=1048576:=zxJ sm l
@[simp] theorem zDu (l:List Int):CVB sm (.s .u8 l)↔l.length<=1048576:=zCO sm l
@[simp] theorem zwk (l:List Bool):CVB sm (.s .bool l)↔l.length<=1048576:=zAD sm l
@[simp] theorem zwl (l:List Slot):CVB sm (.s .slot l)↔l.length<=1048576:=zAF sm l
@[simp] theorem zDf (l:List Ins):CVB sm (.s .ins l)↔l.length<=1048576:=zB7 sm l
@[simp] theorem zut (l:List Entry):CVB sm (.s .entry l)↔l.length<=1048576:=zzh sm l
@[simp] theorem zDe (l:List GAct):CVB sm (.s .act l)↔l.length<=1048576:=zB6 sm l
@[simp] theorem zDa (l:List Told):CVB sm (.s .told l)↔l.length<=1048576:=zAG sm l
@[simp] theorem zqR (l:List (List Int)):CVB sm (.s (.sl .int) l)↔SmM l:=by rw [zd9];simp [Ty.cells,SmM,zA2]
@[simp] theorem zB0 (g:Guest):(∀c∈Ty.cells .guest g,CVB sm c)↔SmG g:=by simp [Ty.cells,SmG,zA2]
@[simp] theorem zsi (l:List Guest):CVB sm (.s .guest l)↔zoz l:=by rw [zd9];simp only [zB0];rfl
@[simp] theorem zBZ (b:Bare):(∀c∈Ty.cells .bare b,CVB sm c)↔SmB b:=by
 simp only [Ty.cells,List.mem_cons,List.not_mem_nil,or_false,forall_eq_or_imp,forall_eq,zqR,zsi,zxJ,zBF,and_true];rfl
@[simp] theorem zDy (l:List Bare):CVB sm (.s .bare l)↔zDx l:=by rw [zd9];simp only [zBZ];rfl
@[simp] theorem zDM (a:List Ins)(b c:Int)(d e:List Slot)(f:Ctl)(g:Int)(h:GExit)(i:Bool)(j:List Int):SmG ⟨a,b,c,d,e,f,g,h,i,j⟩↔a.length<=1048576/\d.length<=1048576/\e.length<=1048576/\j.length<=1048576:=Iff.rfl
@[simp] theorem zDL (m:List (List Int))(g:List Guest)(o:List Int)(p:Int):SmB ⟨m,g,o,p⟩↔SmM m/\zoz g/\o.length<=1048576:=Iff.rfl
theorem zC5 {m:List (List Int)}{i:Int}{x:List Int}(h:SmM m)(hx:x.length<=1048576):SmM (up m i x):=by
 refine ⟨by simpa using h.1,fun y hy=>?_⟩
 rcases List.mem_or_eq_of_mem_set hy with hy|rfl
 ·exact h.2 y hy
 ·exact hx
theorem zx4 {m:List Guest}{i:Int}{x:Guest}(h:zoz m)(hx:SmG x):zoz (up m i x):=by
 refine ⟨by simpa using h.1,fun y hy=>?_⟩
 rcases List.mem_or_eq_of_mem_set hy with hy|rfl
 ·exact h.2 y hy
 ·exact hx
theorem zC3 {l:List Guest}{i:Int}(h:zoz l)(hh:hasB i (ln l)=true)(d:Guest):SmG (ix l i d):=h.2 _ (zuC hh d)
theorem zC4 {l:List (List Int)}{i:Int}(h:SmM l)(hh:hasB i (ln l)=true)(d:List Int):(ix l i d).length<=1048576:=h.2 _ (zuC hh d)
@[simp] theorem zDp:SmG zbq:=⟨by decide,by decide,by decide,by decide⟩
def win (x a b:Int):Bool:=ige x a&&ile x b
@[simp] theorem zDs (x a b:Int):zJ x a b=win x a b:=rfl
@[simp] theorem zDO (x a b:Int):zN x a b=win x a b:=rfl
@[simp] theorem zDA (i n:Int):inb i n=hasB i n:=rfl
attribute [simp] zhD
@[simp] theorem zDI {α:Type}{l:List α}(h:l.length<=1048576)(i:Int):win i 0 (wsub .i64 (ln l) 1)=hasB i (ln l):=zzv (zd8 h).1 i
theorem zpq {x a b:Int}:(win x a b=true)↔a<=x/\x<=b:=by
 unfold win ige ile;simp only [Bool.and_eq_true,decide_eq_true_iff]
theorem zCe (a b:Int):ilt a b = !ige a b:=by
 unfold ilt ige
 by_cases h:a<b
 ·rw [decide_eq_true h,decide_eq_false (by omega)];rfl
 ·rw [decide_eq_false h,decide_eq_true (by omega)];rfl
attribute [simp] zbh zby zcF zcE zcT zcQ zd7 zd0 zcc zb9 zbP zbO
def zin (a:Int):Int:=bif ilt a 0 then -1 else zsa .i64 a 4
def zt8 (a:Int):Int:=bif ilt a 0 then -1 else zps a 4
def zqo (w:Bool):Int:=bif w then 2 else 1
def zzl (p:Int)(w:Bool):GExit:=⟨1,p,w,0⟩
def zz7 (n:Int):GExit:=⟨2,0,false,n⟩
def zxY (n:Int):GExit:=⟨3,0,false,n⟩
def zh2 (t x:Int):Bool:=bif win t 0 3 then (cond (win x 1 2) (ine (wand .i64 t x) 0) false) else false
def zdF (p:Int):Bool:=win p 0 255
@[simp,reducible] def zdE (p:Int):Bool:=true
@[simp,reducible] def zdD (p:Int):Bool:=zdF p
def zjg:List AV->Option (Bool×List AV)
 | [.one (.i .i64 c)]=>some ((zdE c),[.one (.b (zdD c))])
 | _=>none
def zlL (N:Nat)(a0:Int):Option Ans :=
 (cond (zC a0 0 255) (some [(.one (.b (zJ a0 0 255)))]) none)
theorem zxl (N:Nat)(a0:Int):evalFn (cQ zqO zbZ zK zL) (zx []) N 12 64 [.one (.i .i64 a0)]=zlL N a0:=by kernel_rfl
theorem zvg (a0:Int)(hb:zF big [.one (.i .i64 a0)])(hc:(zdE a0)=true):∃N,zlL N a0=some [.one (.b (zdD a0))]:=by
 refine ⟨0,?_⟩;unfold zlL;refine must rfl ?_
 first|rfl|(simp only [*,zdD,zdF,cT,cF]<;>rfl)|simp_all [Ty.cells,zdD,zdF]
theorem zrv:Holds Tryz.prog 64 zjg:=zk zkK zbs zl zn (zA (by kernel_rfl)) fun avs rs hb h=>by
 unfold zjg at h;split at h
 ·obtain ⟨hc,rfl⟩:=zh h;exact (fin1 zvg zxl hc hb :)
 ·cases h
@[simp,reducible] def zhB (p:Int):Bool:=true
@[simp,reducible] def zfT (p:Int):Bool:=zdF p
def ziO:List AV->Option (Bool×List AV)
 | [.one (.i .i64 c)]=>some ((zhB c),[.one (.b (zfT c))])
 | _=>none
def zlj (N:Nat)(a0:Int):Option Ans :=
 (cond (zH a0 0 255) (some [(.one (.b (zN a0 0 255)))]) none)
theorem zwQ (N:Nat)(a0:Int):evalFn (cQ zqO zbZ zK zL) (zx []) N 12 72 [.one (.i .i64 a0)]=zlj N a0:=by kernel_rfl
theorem zuK (a0:Int)(hb:zF big [.one (.i .i64 a0)])(hc:(zhB a0)=true):∃N,zlj N a0=some [.one (.b (zfT a0))]:=by
 refine ⟨0,?_⟩;unfold zlj;refine must rfl ?_
 first|rfl|(simp only [*,zfT,zdF,cT,cF]<;>rfl)|simp_all [Ty.cells,zfT,zdF]
theorem zq1:Holds Tryz.prog 72 ziO:=zk zkK zbs zl zn (zA (by kernel_rfl)) fun avs rs hb h=>by
 unfold ziO at h;split at h
 ·obtain ⟨hc,rfl⟩:=zh h;exact (fin1 zuK zwQ hc hb :)
 ·cases h
def zcV (l:List Ins)(p:Int):Ins:=bif hasB p (ln l) then ix l p zeo else ⟨7,0⟩
def zcU (s:Slot)(n:Int):Bool:=bif zcm s noSlot then true else (cond (igt n 0) (cond (win s.Page 0 (wsub .i64 n 1)) (win s.Rights 1 3) false) false)
@[simp,reducible] def zml (s:Slot)(n:Int):Bool:=true
@[simp,reducible] def zjq (s:Slot)(n:Int):Bool:=zcU s n
def zjj:List AV->Option (Bool×List AV)
 | [.agg [.i .i64 c,.i .i64 d],.one (.i .i64 e)]=>some ((zml (⟨c,d⟩:Slot) e),[.one (.b (zjq (⟨c,d⟩:Slot) e))])
 | _=>none
def zlO (N:Nat)(a0:Slot)(a1:Int):Option Ans :=
 (cond zbP (cond (cond (ieq a0.Page zbh.Page) (ieq a0.Rights zbh.Rights) false) (some [(.one (.b true))]) (cond (zC a0.Page 0 (wsub .i64 a1 1)) (cond (zJ a0.Page 0 (wsub .i64 a1 1)) (cond (igt a1 0) (cond (zC a0.Rights 1 3) (some [(.one (.b (zJ a0.Rights 1 3)))]) none) (some [(.one (.b false))])) (some [(.one (.b false))])) none)) none)
theorem zxo (N:Nat)(a0:Slot)(a1:Int):evalFn (cQ zqO zbZ zK zL) (zx []) N 12 83 [.agg (Ty.cells .slot a0),.one (.i .i64 a1)]=zlO N a0 a1:=by kernel_rfl
theorem zvj (a0:Slot)(a1:Int)(hb:zF big [.agg (Ty.cells .slot a0),.one (.i .i64 a1)])(hc:(zml a0 a1)=true):∃N,zlO N a0 a1=some [.one (.b (zjq a0 a1))]:=by
 refine ⟨0,?_⟩;unfold zlO;refine must rfl (br (fun _=>?_) (fun _=>must rfl (br (fun _=>br (fun _=>must rfl ?_) (fun _=>?_)) (fun _=>?_))))
 all_goals first|rfl|(simp only [*,zjq,zcU,zcm,cT,cF]<;>rfl)|simp_all [Ty.cells,zjq,zcU,zcm]
theorem zrz:Holds Tryz.prog 83 zjj:=zk zkK zbs zl zn (zA (by kernel_rfl)) fun avs rs hb h=>by
 unfold zjj at h;split at h
 ·obtain ⟨hc,rfl⟩:=zh h;exact (fin2 zvj zxo hc hb :)
 ·cases h
@[simp,reducible] def zl8 (s:Slot)(n:Int):Bool:=true
@[simp,reducible] def ziy (s:Slot)(n:Int):Bool:=zcU s n
def ziR:List AV->Option (Bool×List AV)
 | [.agg [.i .i64 c,.i .i64 d],.one (.i .i64 e)]=>some ((zl8 (⟨c,d⟩:Slot) e),[.one (.b (ziy (⟨c,d⟩:Slot) e))])
 | _=>none
def zlm (N:Nat)(a0:Slot)(a1:Int):Option Ans :=
 (cond zbO (cond (cond (ieq a0.Page zby.Page) (ieq a0.Rights zby.Rights) false) (some [(.one (.b true))]) (cond (igt a1 0) (cond (zH a0.Page 0 (wsub .i64 a1 1)) (cond (zN a0.Page 0 (wsub .i64 a1 1)) (cond (zH a0.Rights 1 3) (some [(.one (.b (zN a0.Rights 1 3)))]) none) (some [(.one (.b false))])) none) (some [(.one (.b false))]))) none)
theorem zwT (N:Nat)(a0:Slot)(a1:Int):evalFn (cQ zqO zbZ zK zL) (zx []) N 12 91 [.agg (Ty.cells .slot a0),.one (.i .i64 a1)]=zlm N a0 a1:=by kernel_rfl
theorem zuN (a0:Slot)(a1:Int)(hb:zF big [.agg (Ty.cells .slot a0),.one (.i .i64 a1)])(hc:(zl8 a0 a1)=true):∃N,zlm N a0 a1=some [.one (.b (ziy a0 a1))]:=by
 refine ⟨0,?_⟩;unfold zlm;refine must rfl (br (fun _=>?_) (fun _=>br (fun _=>must rfl (br (fun _=>must rfl ?_) (fun _=>?_))) (fun _=>?_)))
 all_goals first|rfl|(simp only [*,ziy,zcU,zcm,cT,cF]<;>rfl)|simp_all [Ty.cells,ziy,zcU,zcm]
theorem zq4:Holds Tryz.prog 91 ziR:=zk zkK zbs zl zn (zA (by kernel_rfl)) fun avs rs hb h=>by
 unfold ziR at h;split at h
 ·obtain ⟨hc,rfl⟩:=zh h;exact (fin2 zuN zwT hc hb :)
 ·cases h
def zno (m:List (List Int))(p c:Int):Bool:=bif hasB p (ln m) then hasB c (ln (ix m p [])) else false
def cellAt (m:List (List Int))(p c:Int):Int:=bif zno m p c then ix (ix m p []) c 0 else 0
def zpr (m:List (List Int))(p c v:Int):List (List Int):=bif zno m p c then (cond (win v 0 99) (up m p (up (ix m p []) c v)) m) else m
theorem zyB (m:List (List Int))(p c:Int):(zno m p c=true)↔hasB p (ln m)=true/\hasB c (ln (ix m p []))=true:=by
 unfold zno;cases hasB p (ln m)<;>simp
def zeA:zbg:=[(64,zjg),(72,ziO),(83,zjj),(91,ziR)]++zqO
theorem zcM:zbl zeA:=zi zrv (zi zq1 (zi zrz (zi zq4 zkK)))
def zbQ (t:List Slot)(n p:Int):Bool:=bif t.all (fun s=>zcU s p) then ieq (ln t) n else false
@[simp,reducible] def zex (t:List Slot)(n p:Int):Bool:=true
@[simp,reducible] def zdb (t:List Slot)(n p:Int):Bool:=zbQ t n p
def zhr:List AV->Option (Bool×List AV)
 | [.one (.s .slot c),.one (.i .i64 d),.one (.i .i64 e)]=>some ((zex c d e),[.one (.b (zdb c d e))])
 | _=>none
def zkc (N:Nat)(a0:List Slot)(a1 a2:Int):Option Ans :=
 (iter (σ:=(Int×(Int×(Int×((List Slot)×Unit))))) N (fun r4 s5=>(cond (ilt s5.2.2.1 (ln s5.2.2.2.1)) (cond (inb s5.2.2.1 (ln s5.2.2.2.1)) (cond (zml (ix s5.2.2.2.1 s5.2.2.1 zB) s5.2.1) (cond (cond (zjq (ix s5.2.2.2.1 s5.2.2.1 zB) s5.2.1) false true) (some [(.one (.b false))]) (r4 (s5.1,(s5.2.1,((zW .i64 s5.2.2.1 1),(s5.2.2.2.1,())))))) none) none) (some [(.one (.b (ieq (ln s5.2.2.2.1) s5.1)))]))) (a1,(a2,(0,(a0,())))))
def ztJ:FuncId->Nat->Option Tmpl:=zx [(60,0,{ n:=25,tm:=[(0,.sl 0 []),(1,.i .i64),(2,.i .i64),(7,.i .i64)],lo:=[],ro:=[(0,.slot,false)] })]
theorem zvJ (N:Nat)(a0:List Slot)(a1 a2:Int):evalFn (cQ zeA zbZ zK zL) ztJ N 12 60 [.one (.s .slot a0),.one (.i .i64 a1),.one (.i .i64 a2)]=zkc N a0 a1 a2:=by kernel_rfl
theorem zti (a0:List Slot)(a1 a2:Int)(hb:zF big [.one (.s .slot a0),.one (.i .i64 a1),.one (.i .i64 a2)])(hc:(zex a0 a1 a2)=true):∃N,zkc N a0 a1 a2=some [.one (.b (zdb a0 a1 a2))]:=by
 have hl:(_:List _).length<=big:=((zM hb).1 _ (List.mem_singleton.2 rfl)).len;refine ⟨NN,?_⟩;have hNN:∀{n:Nat},n<=big->n<NN:=fun h=>zcs h;generalize NN=N at hNN ⊢;unfold zkc;refine (zbj a0 (fun i (t:Unit)=>(a1,a2,(i:Int),a0,())) _ (fun _ x (_:Unit) κ=>bif (fun s=>zcU s a2) x then κ () else some [AV.one (.b false)]) (fun (t:Unit)=>(some [(.one (.b (ieq (ln a0) a1)))])) (fun i hi t rec=>?_) (fun t rec=>?_) _ () (hNN hl)).trans ?_
 ·simp only [zbo hi,zU hi,zbd hi,zZ hi hl,cT];exact zdU rfl
 ·simp only [zbe,cF]
 rw [zce (fun s=>zcU s a2)];refine br (fun h0=>?_) (fun h0=>?_)
 ·first|rfl|(simp only [h0,zdb,zbQ,cT,cF]<;>rfl)|(simp_all [Ty.cells,zdb,zbQ];done)
 ·first|rfl|(simp only [h0,zdb,zbQ,cT,cF]<;>rfl)|(simp_all [Ty.cells,zdb,zbQ];done)
theorem zqe:Holds Tryz.prog 60 zhr:=zk zcM zbs zl zn (zA (by kernel_rfl)) fun avs rs hb h=>by
 unfold zhr at h;split at h
 ·obtain ⟨hc,rfl⟩:=zh h;exact (zqT zti zvJ hc hb :)
 ·cases h
@[simp,reducible] def zev (t:List Slot)(n p:Int):Bool:=true
@[simp,reducible] def zc2 (t:List Slot)(n p:Int):Bool:=zbQ t n p
def zg8:List AV->Option (Bool×List AV)
 | [.one (.s .slot c),.one (.i .i64 d),.one (.i .i64 e)]=>some ((zev c d e),[.one (.b (zc2 c d e))])
 | _=>none
def zjU (N:Nat)(a0:List Slot)(a1 a2:Int):Option Ans :=
 (iter (σ:=(Int×(Int×(Int×(Int×((List Slot)×Unit)))))) N (fun r4 s5=>(cond (ilt s5.2.2.2.1 s5.2.2.1) (cond (inb s5.2.2.2.1 (ln s5.2.2.2.2.1)) (cond (zl8 (ix s5.2.2.2.2.1 s5.2.2.2.1 zB) s5.2.1) (cond (cond (ziy (ix s5.2.2.2.2.1 s5.2.2.2.1 zB) s5.2.1) false true) (some [(.one (.b false))]) (r4 (s5.1,(s5.2.1,(s5.2.2.1,((zW .i64 s5.2.2.2.1 1),(s5.2.2.2.2.1,()))))))) none) none) (some [(.one (.b (ieq (ln s5.2.2.2.2.1) s5.1)))]))) (a1,(a2,((ln a0),(0,(a0,()))))))
def zty:FuncId->Nat->Option Tmpl:=zx [(71,0,{ n:=24,tm:=[(0,.sl 0 []),(1,.i .i64),(2,.i .i64),(9,.sl 0 []),(10,.i .i64),(11,.i .i64)],lo:=[],ro:=[(0,.slot,false)] })]
theorem zvq (N:Nat)(a0:List Slot)(a1 a2:Int):evalFn (cQ zeA zbZ zK zL) zty N 12 71 [.one (.s .slot a0),.one (.i .i64 a1),.one (.i .i64 a2)]=zjU N a0 a1 a2:=by kernel_rfl
theorem zsW (a0:List Slot)(a1 a2:Int)(hb:zF big [.one (.s .slot a0),.one (.i .i64 a1),.one (.i .i64 a2)])(hc:(zev a0 a1 a2)=true):∃N,zjU N a0 a1 a2=some [.one (.b (zc2 a0 a1 a2))]:=by
 have hl:(_:List _).length<=big:=((zM hb).1 _ (List.mem_singleton.2 rfl)).len;refine ⟨NN,?_⟩;have hNN:∀{n:Nat},n<=big->n<NN:=fun h=>zcs h;generalize NN=N at hNN ⊢;unfold zjU;refine (zbj a0 (fun i (t:Unit)=>(a1,a2,(ln a0),(i:Int),a0,())) _ (fun _ x (_:Unit) κ=>bif (fun s=>zcU s a2) x then κ () else some [AV.one (.b false)]) (fun (t:Unit)=>(some [(.one (.b (ieq (ln a0) a1)))])) (fun i hi t rec=>?_) (fun t rec=>?_) _ () (hNN hl)).trans ?_
 ·simp only [zbo hi,zU hi,zbd hi,zZ hi hl,cT];exact zdU rfl
 ·simp only [zbe,cF]
 rw [zce (fun s=>zcU s a2)];refine br (fun h0=>?_) (fun h0=>?_)
 ·first|rfl|(simp only [h0,zc2,zbQ,cT,cF]<;>rfl)|(simp_all [Ty.cells,zc2,zbQ];done)
 ·first|rfl|(simp only [h0,zc2,zbQ,cT,cF]<;>rfl)|(simp_all [Ty.cells,zc2,zbQ];done)
theorem zpV:Holds Tryz.prog 71 zg8:=zk zcM zbs zl zn (zA (by kernel_rfl)) fun avs rs hb h=>by
 unfold zg8 at h;split at h
 ·obtain ⟨hc,rfl⟩:=zh h;exact (zqT zsW zvq hc hb :)
 ·cases h
def zck (c:List Int):Bool:=bif c.all (fun x=>win x 0 99) then ieq (ln c) 4 else false
@[simp,reducible] def zda (c:List Int):Bool:=true
@[simp,reducible] def zcA (c:List Int):Bool:=zck c
def zjf:List AV->Option (Bool×List AV)
 | [.one (.s .int c)]=>some ((zda c),[.one (.b (zcA c))])
 | _=>none
def zlK (N:Nat)(a0:List Int):Option Ans :=
 (iter (σ:=(Int×((List Int)×Unit))) N (fun r2 s3=>(cond (ilt s3.1 (ln s3.2.1)) (cond (inb s3.1 (ln s3.2.1)) (cond (zC (ix s3.2.1 s3.1 0) 0 99) (cond (cond (zJ (ix s3.2.1 s3.1 0) 0 99) false true) (some [(.one (.b false))]) (r2 ((zW .i64 s3.1 1),(s3.2.1,())))) none) none) (some [(.one (.b (ieq (ln s3.2.1) 4)))]))) (0,(a0,())))
def zv6:FuncId->Nat->Option Tmpl:=zx [(59,0,{ n:=19,tm:=[(0,.sl 0 []),(3,.i .i64)],lo:=[],ro:=[(0,.int,false)] })]
theorem zxk (N:Nat)(a0:List Int):evalFn (cQ zeA zbZ zK zL) zv6 N 12 59 [.one (.s .int a0)]=zlK N a0:=by kernel_rfl
theorem zvf (a0:List Int)(hb:zF big [.one (.s .int a0)])(hc:(zda a0)=true):∃N,zlK N a0=some [.one (.b (zcA a0))]:=by
 have hl:(_:List _).length<=big:=((zM hb).1 _ (List.mem_singleton.2 rfl)).len;refine ⟨NN,?_⟩;have hNN:∀{n:Nat},n<=big->n<NN:=fun h=>zcs h;generalize NN=N at hNN ⊢;unfold zlK;refine (zbj a0 (fun i (t:Unit)=>((i:Int),a0,())) _ (fun _ x (_:Unit) κ=>bif (fun x=>win x 0 99) x then κ () else some [AV.one (.b false)]) (fun (t:Unit)=>(some [(.one (.b (ieq (ln a0) 4)))])) (fun i hi t rec=>?_) (fun t rec=>?_) _ () (hNN hl)).trans ?_
 ·simp only [zbo hi,zU hi,zbd hi,zZ hi hl,cT];exact zdU rfl
 ·simp only [zbe,cF]
 rw [zce (fun x=>win x 0 99)];refine br (fun h0=>?_) (fun h0=>?_)
 ·first|rfl|(simp only [h0,zcA,zck,cT,cF]<;>rfl)|(simp_all [Ty.cells,zcA,zck];done)
 ·first|rfl|(simp only [h0,zcA,zck,cT,cF]<;>rfl)|(simp_all [Ty.cells,zcA,zck];done)
theorem zru:Holds Tryz.prog 59 zjf:=zk zcM zbs zl zn (zA (by kernel_rfl)) fun avs rs hb h=>by
 unfold zjf at h;split at h
 ·obtain ⟨hc,rfl⟩:=zh h;exact (fin1 zvf zxk hc hb :)
 ·cases h
@[simp,reducible] def zed (c:List Int):Bool:=true
@[simp,reducible] def zde (c:List Int):Bool:=zck c
def ziN:List AV->Option (Bool×List AV)
 | [.one (.s .int c)]=>some ((zed c),[.one (.b (zde c))])
 | _=>none
def zli (N:Nat)(a0:List Int):Option Ans :=
 (iter (σ:=(Int×(Int×((List Int)×Unit)))) N (fun r2 s3=>(cond (ilt s3.2.1 s3.1) (cond (inb s3.2.1 (ln s3.2.2.1)) (cond (zH (ix s3.2.2.1 s3.2.1 0) 0 99) (cond (cond (zN (ix s3.2.2.1 s3.2.1 0) 0 99) false true) (some [(.one (.b false))]) (r2 (s3.1,((zW .i64 s3.2.1 1),(s3.2.2.1,()))))) none) none) (some [(.one (.b (ieq (ln s3.2.2.1) 4)))]))) ((ln a0),(0,(a0,()))))
def zvV:FuncId->Nat->Option Tmpl:=zx [(70,0,{ n:=18,tm:=[(0,.sl 0 []),(5,.sl 0 []),(6,.i .i64),(7,.i .i64)],lo:=[],ro:=[(0,.int,false)] })]
theorem zwP (N:Nat)(a0:List Int):evalFn (cQ zeA zbZ zK zL) zvV N 12 70 [.one (.s .int a0)]=zli N a0:=by kernel_rfl
theorem zuJ (a0:List Int)(hb:zF big [.one (.s .int a0)])(hc:(zed a0)=true):∃N,zli N a0=some [.one (.b (zde a0))]:=by
 have hl:(_:List _).length<=big:=((zM hb).1 _ (List.mem_singleton.2 rfl)).len;refine ⟨NN,?_⟩;have hNN:∀{n:Nat},n<=big->n<NN:=fun h=>zcs h;generalize NN=N at hNN ⊢;unfold zli;refine (zbj a0 (fun i (t:Unit)=>((ln a0),(i:Int),a0,())) _ (fun _ x (_:Unit) κ=>bif (fun x=>win x 0 99) x then κ () else some [AV.one (.b false)]) (fun (t:Unit)=>(some [(.one (.b (ieq (ln a0) 4)))])) (fun i hi t rec=>?_) (fun t rec=>?_) _ () (hNN hl)).trans ?_
 ·simp only [zbo hi,zU hi,zbd hi,zZ hi hl,cT];exact zdU rfl
 ·simp only [zbe,cF]
 rw [zce (fun x=>win x 0 99)];refine br (fun h0=>?_) (fun h0=>?_)
 ·first|rfl|(simp only [h0,zde,zck,cT,cF]<;>rfl)|(simp_all [Ty.cells,zde,zck];done)
 ·first|rfl|(simp only [h0,zde,zck,cT,cF]<;>rfl)|(simp_all [Ty.cells,zde,zck];done)
theorem zq0:Holds Tryz.prog 70 ziN:=zk zcM zbs zl zn (zA (by kernel_rfl)) fun avs rs hb h=>by
 unfold ziN at h;split at h
 ·obtain ⟨hc,rfl⟩:=zh h;exact (fin1 zuJ zwP hc hb :)
 ·cases h
def zfl (i:Ins):Bool:=bif (ieq i.Op 1||ieq i.Op 2||ieq i.Op 5||ieq i.Op 6) then win i.X 0 99 else (cond (ieq i.Op 3||ieq i.Op 4) (win i.X 0 15) (cond (ieq i.Op 7) (ieq i.X 0) (cond (ieq i.Op 8) (win i.X 0 11) false)))
@[simp,reducible] def znu (i:Ins):Bool:=true
@[simp,reducible] def zla (i:Ins):Bool:=zfl i
def zkw:List AV->Option (Bool×List AV)
 | [.agg [.i .i64 c,.i .i64 d]]=>some ((znu (⟨c,d⟩:Ins)),[.one (.b (zla (⟨c,d⟩:Ins)))])
 | _=>none
def zmJ (N:Nat)(a0:Ins):Option Ans :=
 (cond (ieq a0.Op 1) (cond (ieq a0.Op 1) (cond (zC a0.X 0 99) (some [(.one (.b (zJ a0.X 0 99)))]) none) (cond (ieq a0.Op 3) (cond (ieq a0.Op 3) (cond (zC a0.X 0 15) (some [(.one (.b (zJ a0.X 0 15)))]) none) (cond (ieq a0.Op 7) (some [(.one (.b (ieq a0.X 0)))]) (cond (ieq a0.Op 8) (cond (zC a0.X 0 11) (some [(.one (.b (zJ a0.X 0 11)))]) none) (some [(.one (.b false))])))) (cond (ieq a0.Op 4) (cond (zC a0.X 0 15) (some [(.one (.b (zJ a0.X 0 15)))]) none) (cond (ieq a0.Op 7) (some [(.one (.b (ieq a0.X 0)))]) (cond (ieq a0.Op 8) (cond (zC a0.X 0 11) (some [(.one (.b (zJ a0.X 0 11)))]) none) (some [(.one (.b false))])))))) (cond (ieq a0.Op 2) (cond (ieq a0.Op 2) (cond (zC a0.X 0 99) (some [(.one (.b (zJ a0.X 0 99)))]) none) (cond (ieq a0.Op 3) (cond (ieq a0.Op 3) (cond (zC a0.X 0 15) (some [(.one (.b (zJ a0.X 0 15)))]) none) (cond (ieq a0.Op 7) (some [(.one (.b (ieq a0.X 0)))]) (cond (ieq a0.Op 8) (cond (zC a0.X 0 11) (some [(.one (.b (zJ a0.X 0 11)))]) none) (some [(.one (.b false))])))) (cond (ieq a0.Op 4) (cond (zC a0.X 0 15) (some [(.one (.b (zJ a0.X 0 15)))]) none) (cond (ieq a0.Op 7) (some [(.one (.b (ieq a0.X 0)))]) (cond (ieq a0.Op 8) (cond (zC a0.X 0 11) (some [(.one (.b (zJ a0.X 0 11)))]) none) (some [(.one (.b false))])))))) (cond (ieq a0.Op 5) (cond (ieq a0.Op 5) (cond (zC a0.X 0 99) (some [(.one (.b (zJ a0.X 0 99)))]) none) (cond (ieq a0.Op 3) (cond (ieq a0.Op 3) (cond (zC a0.X 0 15) (some [(.one (.b (zJ a0.X 0 15)))]) none) (cond (ieq a0.Op 7) (some [(.one (.b (ieq a0.X 0)))]) (cond (ieq a0.Op 8) (cond (zC a0.X 0 11) (some [(.one (.b (zJ a0.X 0 11)))]) none) (some [(.one (.b false))])))) (cond (ieq a0.Op 4) (cond (zC a0.X 0 15) (some [(.one (.b (zJ a0.X 0 15)))]) none) (cond (ieq a0.Op 7) (some [(.one (.b (ieq a0.X 0)))]) (cond (ieq a0.Op 8) (cond (zC a0.X 0 11) (some [(.one (.b (zJ a0.X 0 11)))]) none) (some [(.one (.b false))])))))) (cond (ieq a0.Op 6) (cond (zC a0.X 0 99) (some [(.one (.b (zJ a0.X 0 99)))]) none) (cond (ieq a0.Op 3) (cond (ieq a0.Op 3) (cond (zC a0.X 0 15) (some [(.one (.b (zJ a0.X 0 15)))]) none) (cond (ieq a0.Op 7) (some [(.one (.b (ieq a0.X 0)))]) (cond (ieq a0.Op 8) (cond (zC a0.X 0 11) (some [(.one (.b (zJ a0.X 0 11)))]) none) (some [(.one (.b false))])))) (cond (ieq a0.Op 4) (cond (zC a0.X 0 15) (some [(.one (.b (zJ a0.X 0 15)))]) none) (cond (ieq a0.Op 7) (some [(.one (.b (ieq a0.X 0)))]) (cond (ieq a0.Op 8) (cond (zC a0.X 0 11) (some [(.one (.b (zJ a0.X 0 11)))]) none) (some [(.one (.b false))])))))))))
theorem zyR (N:Nat)(a0:Ins):evalFn (cQ zeA zbZ zK zL) (zx []) N 12 100 [.agg (Ty.cells .ins a0)]=zmJ N a0:=by kernel_rfl
theorem zwF (a0:Ins)(hb:zF big [.agg (Ty.cells .ins a0)])(hc:(znu a0)=true):∃N,zmJ N a0=some [.one (.b (zla a0))]:=by
 refine ⟨0,?_⟩;unfold zmJ;refine br (fun _=>br (fun _=>must rfl ?_) (fun _=>br (fun _=>br (fun _=>must rfl ?_) (fun _=>br (fun _=>?_) (fun _=>br (fun _=>must rfl ?_) (fun _=>?_)))) (fun _=>br (fun _=>must rfl ?_) (fun _=>br (fun _=>?_) (fun _=>br (fun _=>must rfl ?_) (fun _=>?_)))))) (fun _=>br (fun _=>br (fun _=>must rfl ?_) (fun _=>br (fun _=>br (fun _=>must rfl ?_) (fun _=>br (fun _=>?_) (fun _=>br (fun _=>must rfl ?_) (fun _=>?_)))) (fun _=>br (fun _=>must rfl ?_) (fun _=>br (fun _=>?_) (fun _=>br (fun _=>must rfl ?_) (fun _=>?_)))))) (fun _=>br (fun _=>br (fun _=>must rfl ?_) (fun _=>br (fun _=>br (fun _=>must rfl ?_) (fun _=>br (fun _=>?_) (fun _=>br (fun _=>must rfl ?_) (fun _=>?_)))) (fun _=>br (fun _=>must rfl ?_) (fun _=>br (fun _=>?_) (fun _=>br (fun _=>must rfl ?_) (fun _=>?_)))))) (fun _=>br (fun _=>must rfl ?_) (fun _=>br (fun _=>br (fun _=>must rfl ?_) (fun _=>br (fun _=>?_) (fun _=>br (fun _=>must rfl ?_) (fun _=>?_)))) (fun _=>br (fun _=>must rfl ?_) (fun _=>br (fun _=>?_) (fun _=>br (fun _=>must rfl ?_) (fun _=>?_))))))))
 all_goals first|rfl|(simp only [*,zla,zfl,cT,cF]<;>rfl)|simp_all [Ty.cells,zla,zfl]
theorem zsP:Holds Tryz.prog 100 zkw:=zk zcM zbs zl zn (zA (by kernel_rfl)) fun avs rs hb h=>by
 unfold zkw at h;split at h
 ·obtain ⟨hc,rfl⟩:=zh h;exact (fin1 zwF zyR hc hb :)
 ·cases h
@[simp,reducible] def znb (i:Ins):Bool:=true
@[simp,reducible] def zkU (i:Ins):Bool:=zfl i
def zkk:List AV->Option (Bool×List AV)
 | [.agg [.i .i64 c,.i .i64 d]]=>some ((znb (⟨c,d⟩:Ins)),[.one (.b (zkU (⟨c,d⟩:Ins)))])
 | _=>none
def zmy (N:Nat)(a0:Ins):Option Ans :=
 (cond (ieq a0.Op 1) (cond (ieq a0.Op 1) (cond (zH a0.X 0 99) (some [(.one (.b (zN a0.X 0 99)))]) none) (cond (ieq a0.Op 3) (cond (ieq a0.Op 3) (cond (zH a0.X 0 15) (some [(.one (.b (zN a0.X 0 15)))]) none) (cond (ieq a0.Op 7) (some [(.one (.b (ieq a0.X 0)))]) (cond (ieq a0.Op 8) (cond (zH a0.X 0 11) (some [(.one (.b (zN a0.X 0 11)))]) none) (some [(.one (.b false))])))) (cond (ieq a0.Op 4) (cond (zH a0.X 0 15) (some [(.one (.b (zN a0.X 0 15)))]) none) (cond (ieq a0.Op 7) (some [(.one (.b (ieq a0.X 0)))]) (cond (ieq a0.Op 8) (cond (zH a0.X 0 11) (some [(.one (.b (zN a0.X 0 11)))]) none) (some [(.one (.b false))])))))) (cond (ieq a0.Op 2) (cond (ieq a0.Op 2) (cond (zH a0.X 0 99) (some [(.one (.b (zN a0.X 0 99)))]) none) (cond (ieq a0.Op 3) (cond (ieq a0.Op 3) (cond (zH a0.X 0 15) (some [(.one (.b (zN a0.X 0 15)))]) none) (cond (ieq a0.Op 7) (some [(.one (.b (ieq a0.X 0)))]) (cond (ieq a0.Op 8) (cond (zH a0.X 0 11) (some [(.one (.b (zN a0.X 0 11)))]) none) (some [(.one (.b false))])))) (cond (ieq a0.Op 4) (cond (zH a0.X 0 15) (some [(.one (.b (zN a0.X 0 15)))]) none) (cond (ieq a0.Op 7) (some [(.one (.b (ieq a0.X 0)))]) (cond (ieq a0.Op 8) (cond (zH a0.X 0 11) (some [(.one (.b (zN a0.X 0 11)))]) none) (some [(.one (.b false))])))))) (cond (ieq a0.Op 5) (cond (ieq a0.Op 5) (cond (zH a0.X 0 99) (some [(.one (.b (zN a0.X 0 99)))]) none) (cond (ieq a0.Op 3) (cond (ieq a0.Op 3) (cond (zH a0.X 0 15) (some [(.one (.b (zN a0.X 0 15)))]) none) (cond (ieq a0.Op 7) (some [(.one (.b (ieq a0.X 0)))]) (cond (ieq a0.Op 8) (cond (zH a0.X 0 11) (some [(.one (.b (zN a0.X 0 11)))]) none) (some [(.one (.b false))])))) (cond (ieq a0.Op 4) (cond (zH a0.X 0 15) (some [(.one (.b (zN a0.X 0 15)))]) none) (cond (ieq a0.Op 7) (some [(.one (.b (ieq a0.X 0)))]) (cond (ieq a0.Op 8) (cond (zH a0.X 0 11) (some [(.one (.b (zN a0.X 0 11)))]) none) (some [(.one (.b false))])))))) (cond (ieq a0.Op 6) (cond (zH a0.X 0 99) (some [(.one (.b (zN a0.X 0 99)))]) none) (cond (ieq a0.Op 3) (cond (ieq a0.Op 3) (cond (zH a0.X 0 15) (some [(.one (.b (zN a0.X 0 15)))]) none) (cond (ieq a0.Op 7) (some [(.one (.b (ieq a0.X 0)))]) (cond (ieq a0.Op 8) (cond (zH a0.X 0 11) (some [(.one (.b (zN a0.X 0 11)))]) none) (some [(.one (.b false))])))) (cond (ieq a0.Op 4) (cond (zH a0.X 0 15) (some [(.one (.b (zN a0.X 0 15)))]) none) (cond (ieq a0.Op 7) (some [(.one (.b (ieq a0.X 0)))]) (cond (ieq a0.Op 8) (cond (zH a0.X 0 11) (some [(.one (.b (zN a0.X 0 11)))]) none) (some [(.one (.b false))])))))))))
theorem zyF (N:Nat)(a0:Ins):evalFn (cQ zeA zbZ zK zL) (zx []) N 12 105 [.agg (Ty.cells .ins a0)]=zmy N a0:=by kernel_rfl
theorem zwt (a0:Ins)(hb:zF big [.agg (Ty.cells .ins a0)])(hc:(znb a0)=true):∃N,zmy N a0=some [.one (.b (zkU a0))]:=by
 refine ⟨0,?_⟩;unfold zmy;refine br (fun _=>br (fun _=>must rfl ?_) (fun _=>br (fun _=>br (fun _=>must rfl ?_) (fun _=>br (fun _=>?_) (fun _=>br (fun _=>must rfl ?_) (fun _=>?_)))) (fun _=>br (fun _=>must rfl ?_) (fun _=>br (fun _=>?_) (fun _=>br (fun _=>must rfl ?_) (fun _=>?_)))))) (fun _=>br (fun _=>br (fun _=>must rfl ?_) (fun _=>br (fun _=>br (fun _=>must rfl ?_) (fun _=>br (fun _=>?_) (fun _=>br (fun _=>must rfl ?_) (fun _=>?_)))) (fun _=>br (fun _=>must rfl ?_) (fun _=>br (fun _=>?_) (fun _=>br (fun _=>must rfl ?_) (fun _=>?_)))))) (fun _=>br (fun _=>br (fun _=>must rfl ?_) (fun _=>br (fun _=>br (fun _=>must rfl ?_) (fun _=>br (fun _=>?_) (fun _=>br (fun _=>must rfl ?_) (fun _=>?_)))) (fun _=>br (fun _=>must rfl ?_) (fun _=>br (fun _=>?_) (fun _=>br (fun _=>must rfl ?_) (fun _=>?_)))))) (fun _=>br (fun _=>must rfl ?_) (fun _=>br (fun _=>br (fun _=>must rfl ?_) (fun _=>br (fun _=>?_) (fun _=>br (fun _=>must rfl ?_) (fun _=>?_)))) (fun _=>br (fun _=>must rfl ?_) (fun _=>br (fun _=>?_) (fun _=>br (fun _=>must rfl ?_) (fun _=>?_))))))))
 all_goals first|rfl|(simp only [*,zkU,zfl,cT,cF]<;>rfl)|simp_all [Ty.cells,zkU,zfl]
theorem zsD:Holds Tryz.prog 105 zkk:=zk zcM zbs zl zn (zA (by kernel_rfl)) fun avs rs hb h=>by
 unfold zkk at h;split at h
 ·obtain ⟨hc,rfl⟩:=zh h;exact (fin1 zwt zyF hc hb :)
 ·cases h
def zis (e:GExit):Bool:=bif (ieq e.Kind 0||ieq e.Kind 4) then (ieq e.Page 0&&(!e.Write&&ieq e.N 0)) else (cond (ieq e.Kind 1) (win e.Page 0 3&&ieq e.N 0) (cond (ieq e.Kind 2||ieq e.Kind 3) (win e.N 0 99&&(ieq e.Page 0 && !e.Write)) false))
@[simp] theorem zDK (x:Bool):ze9 x false = !x:=by cases x<;>rfl
attribute [simp] zdf
@[simp,reducible] def zmh (e:GExit):Bool:=true
@[simp,reducible] def zjm (e:GExit):Bool:=zis e
def zjb:List AV->Option (Bool×List AV)
 | [.agg [.i .i64 c,.i .i64 d,.b e,.i .i64 f]]=>some ((zmh (⟨c,d,e,f⟩:GExit)),[.one (.b (zjm (⟨c,d,e,f⟩:GExit)))])
 | _=>none
def zlH (N:Nat)(a0:GExit):Option Ans :=
 (cond (ieq a0.Kind 0) (cond (ieq a0.Kind 0) (some [(.one (.b (cond (ieq a0.Kind a0.Kind) (cond (ieq a0.Page 0) (cond (ze9 a0.Write false) (ieq a0.N 0) false) false) false)))]) (cond (ieq a0.Kind 1) (cond (zC a0.Page 0 3) (cond (zJ a0.Page 0 3) (some [(.one (.b (ieq a0.N 0)))]) (some [(.one (.b false))])) none) (cond (ieq a0.Kind 2) (cond (ieq a0.Kind 2) (cond (zC a0.N 0 99) (cond (zJ a0.N 0 99) (cond (ieq a0.Page 0) (some [(.one (.b (cond a0.Write false true)))]) (some [(.one (.b false))])) (some [(.one (.b false))])) none) (some [(.one (.b false))])) (cond (ieq a0.Kind 3) (cond (zC a0.N 0 99) (cond (zJ a0.N 0 99) (cond (ieq a0.Page 0) (some [(.one (.b (cond a0.Write false true)))]) (some [(.one (.b false))])) (some [(.one (.b false))])) none) (some [(.one (.b false))]))))) (cond (ieq a0.Kind 4) (some [(.one (.b (cond (ieq a0.Kind a0.Kind) (cond (ieq a0.Page 0) (cond (ze9 a0.Write false) (ieq a0.N 0) false) false) false)))]) (cond (ieq a0.Kind 1) (cond (zC a0.Page 0 3) (cond (zJ a0.Page 0 3) (some [(.one (.b (ieq a0.N 0)))]) (some [(.one (.b false))])) none) (cond (ieq a0.Kind 2) (cond (ieq a0.Kind 2) (cond (zC a0.N 0 99) (cond (zJ a0.N 0 99) (cond (ieq a0.Page 0) (some [(.one (.b (cond a0.Write false true)))]) (some [(.one (.b false))])) (some [(.one (.b false))])) none) (some [(.one (.b false))])) (cond (ieq a0.Kind 3) (cond (zC a0.N 0 99) (cond (zJ a0.N 0 99) (cond (ieq a0.Page 0) (some [(.one (.b (cond a0.Write false true)))]) (some [(.one (.b false))])) (some [(.one (.b false))])) none) (some [(.one (.b false))]))))))
theorem zxg (N:Nat)(a0:GExit):evalFn (cQ zeA zbZ zK zL) (zx []) N 12 86 [.agg (zeC a0)]=zlH N a0:=by kernel_rfl
theorem zvb (a0:GExit)(hb:zF big [.agg (zeC a0)])(hc:(zmh a0)=true):∃N,zlH N a0=some [.one (.b (zjm a0))]:=by
 refine ⟨0,?_⟩;unfold zlH;refine br (fun _=>br (fun _=>?_) (fun _=>br (fun _=>must rfl (br (fun _=>?_) (fun _=>?_))) (fun _=>br (fun _=>br (fun _=>must rfl (br (fun _=>br (fun _=>?_) (fun _=>?_)) (fun _=>?_))) (fun _=>?_)) (fun _=>br (fun _=>must rfl (br (fun _=>br (fun _=>?_) (fun _=>?_)) (fun _=>?_))) (fun _=>?_))))) (fun _=>br (fun _=>?_) (fun _=>br (fun _=>must rfl (br (fun _=>?_) (fun _=>?_))) (fun _=>br (fun _=>br (fun _=>must rfl (br (fun _=>br (fun _=>?_) (fun _=>?_)) (fun _=>?_))) (fun _=>?_)) (fun _=>br (fun _=>must rfl (br (fun _=>br (fun _=>?_) (fun _=>?_)) (fun _=>?_))) (fun _=>?_)))))
 all_goals first|rfl|(simp only [*,zjm,zis,cT,cF]<;>rfl)|simp_all [Ty.cells,zjm,zis]
theorem zrp:Holds Tryz.prog 86 zjb:=zk zcM zbs zl zn (zA (by kernel_rfl)) fun avs rs hb h=>by
 unfold zjb at h;split at h
 ·obtain ⟨hc,rfl⟩:=zh h;exact (fin1 zvb zxg hc hb :)
 ·cases h
@[simp,reducible] def zl4 (e:GExit):Bool:=true
@[simp,reducible] def ziw (e:GExit):Bool:=zis e
def ziJ:List AV->Option (Bool×List AV)
 | [.agg [.i .i64 c,.i .i64 d,.b e,.i .i64 f]]=>some ((zl4 (⟨c,d,e,f⟩:GExit)),[.one (.b (ziw (⟨c,d,e,f⟩:GExit)))])
 | _=>none
def zlf (N:Nat)(a0:GExit):Option Ans :=
 (cond (ieq a0.Kind 0) (cond (ieq a0.Kind 0) (cond (ieq a0.Page 0) (cond (cond a0.Write false true) (some [(.one (.b (ieq a0.N 0)))]) (some [(.one (.b false))])) (some [(.one (.b false))])) (cond (ieq a0.Kind 1) (cond (zH a0.Page 0 3) (cond (zN a0.Page 0 3) (some [(.one (.b (ieq a0.N 0)))]) (some [(.one (.b false))])) none) (cond (ieq a0.Kind 2) (cond (ieq a0.Kind 2) (cond (zH a0.N 0 99) (cond (zN a0.N 0 99) (cond (ieq a0.Page 0) (some [(.one (.b (cond a0.Write false true)))]) (some [(.one (.b false))])) (some [(.one (.b false))])) none) (some [(.one (.b false))])) (cond (ieq a0.Kind 3) (cond (zH a0.N 0 99) (cond (zN a0.N 0 99) (cond (ieq a0.Page 0) (some [(.one (.b (cond a0.Write false true)))]) (some [(.one (.b false))])) (some [(.one (.b false))])) none) (some [(.one (.b false))]))))) (cond (ieq a0.Kind 4) (cond (ieq a0.Page 0) (cond (cond a0.Write false true) (some [(.one (.b (ieq a0.N 0)))]) (some [(.one (.b false))])) (some [(.one (.b false))])) (cond (ieq a0.Kind 1) (cond (zH a0.Page 0 3) (cond (zN a0.Page 0 3) (some [(.one (.b (ieq a0.N 0)))]) (some [(.one (.b false))])) none) (cond (ieq a0.Kind 2) (cond (ieq a0.Kind 2) (cond (zH a0.N 0 99) (cond (zN a0.N 0 99) (cond (ieq a0.Page 0) (some [(.one (.b (cond a0.Write false true)))]) (some [(.one (.b false))])) (some [(.one (.b false))])) none) (some [(.one (.b false))])) (cond (ieq a0.Kind 3) (cond (zH a0.N 0 99) (cond (zN a0.N 0 99) (cond (ieq a0.Page 0) (some [(.one (.b (cond a0.Write false true)))]) (some [(.one (.b false))])) (some [(.one (.b false))])) none) (some [(.one (.b false))]))))))
theorem zwL (N:Nat)(a0:GExit):evalFn (cQ zeA zbZ zK zL) (zx []) N 12 94 [.agg (zeC a0)]=zlf N a0:=by kernel_rfl
theorem zuF (a0:GExit)(hb:zF big [.agg (zeC a0)])(hc:(zl4 a0)=true):∃N,zlf N a0=some [.one (.b (ziw a0))]:=by
 refine ⟨0,?_⟩;unfold zlf;refine br (fun _=>br (fun _=>br (fun _=>brN (fun _=>?_) (fun _=>?_)) (fun _=>?_)) (fun _=>br (fun _=>must rfl (br (fun _=>?_) (fun _=>?_))) (fun _=>br (fun _=>br (fun _=>must rfl (br (fun _=>br (fun _=>?_) (fun _=>?_)) (fun _=>?_))) (fun _=>?_)) (fun _=>br (fun _=>must rfl (br (fun _=>br (fun _=>?_) (fun _=>?_)) (fun _=>?_))) (fun _=>?_))))) (fun _=>br (fun _=>br (fun _=>brN (fun _=>?_) (fun _=>?_)) (fun _=>?_)) (fun _=>br (fun _=>must rfl (br (fun _=>?_) (fun _=>?_))) (fun _=>br (fun _=>br (fun _=>must rfl (br (fun _=>br (fun _=>?_) (fun _=>?_)) (fun _=>?_))) (fun _=>?_)) (fun _=>br (fun _=>must rfl (br (fun _=>br (fun _=>?_) (fun _=>?_)) (fun _=>?_))) (fun _=>?_)))))
 all_goals first|rfl|(simp only [*,ziw,zis,cT,cF]<;>rfl)|simp_all [Ty.cells,ziw,zis]
theorem zqW:Holds Tryz.prog 94 ziJ:=zk zcM zbs zl zn (zA (by kernel_rfl)) fun avs rs hb h=>by
 unfold ziJ at h;split at h
 ·obtain ⟨hc,rfl⟩:=zh h;exact (fin1 zuF zwL hc hb :)
 ·cases h
def zdW (c:Ctl):List Int:=(cond (win c.Traps 0 3) [] [1])++((cond (win c.Post 0 255) [] [2])++((cond (ine c.Post 0) (cond c.Open [] [3]) [])++(cond (ieq c.Traps 2) (cond (ine c.Post 0) [4] []) [])))
@[simp] theorem zDF {α:Type}(x:α)(l m:List α):ap (x :: l) m=x :: ap l m:=rfl
@[simp,reducible] def zhs (c:Ctl):Bool:=true
@[simp,reducible] def zew (c:Ctl):List Int:=zdW c
def zfA:List AV->Option (Bool×List AV)
 | [.agg [.i .i64 c,.i .i64 d,.b e]]=>some ((zhs (⟨c,d,e⟩:Ctl)),[.one (.s .int (zew (⟨c,d,e⟩:Ctl)))])
 | _=>none
def zgY (N:Nat)(a0:Ctl):Option Ans :=
 (cond (zC a0.Traps 0 3) (cond (cond (zJ a0.Traps 0 3) false true) (cond (few (ln (ap [] [1]))) (cond (zC a0.Post 0 255) (cond (cond (zJ a0.Post 0 255) false true) (cond (few (ln (ap (ap [] [1]) [2]))) (cond (ine a0.Post 0) (cond (cond a0.Open false true) (cond (few (ln (ap (ap (ap [] [1]) [2]) [3]))) (cond (ieq a0.Traps 2) (cond (ine a0.Post 0) (cond (few (ln (ap (ap (ap (ap [] [1]) [2]) [3]) [4]))) (some [(.one (.s .int (ap (ap (ap (ap [] [1]) [2]) [3]) [4])))]) none) (some [(.one (.s .int (ap (ap (ap [] [1]) [2]) [3])))])) (some [(.one (.s .int (ap (ap (ap [] [1]) [2]) [3])))])) none) (cond (ieq a0.Traps 2) (cond (ine a0.Post 0) (cond (few (ln (ap (ap (ap [] [1]) [2]) [4]))) (some [(.one (.s .int (ap (ap (ap [] [1]) [2]) [4])))]) none) (some [(.one (.s .int (ap (ap [] [1]) [2])))])) (some [(.one (.s .int (ap (ap [] [1]) [2])))]))) (cond (ieq a0.Traps 2) (cond (ine a0.Post 0) (cond (few (ln (ap (ap (ap [] [1]) [2]) [4]))) (some [(.one (.s .int (ap (ap (ap [] [1]) [2]) [4])))]) none) (some [(.one (.s .int (ap (ap [] [1]) [2])))])) (some [(.one (.s .int (ap (ap [] [1]) [2])))]))) none) (cond (ine a0.Post 0) (cond (cond a0.Open false true) (cond (few (ln (ap (ap [] [1]) [3]))) (cond (ieq a0.Traps 2) (cond (ine a0.Post 0) (cond (few (ln (ap (ap (ap [] [1]) [3]) [4]))) (some [(.one (.s .int (ap (ap (ap [] [1]) [3]) [4])))]) none) (some [(.one (.s .int (ap (ap [] [1]) [3])))])) (some [(.one (.s .int (ap (ap [] [1]) [3])))])) none) (cond (ieq a0.Traps 2) (cond (ine a0.Post 0) (cond (few (ln (ap (ap [] [1]) [4]))) (some [(.one (.s .int (ap (ap [] [1]) [4])))]) none) (some [(.one (.s .int (ap [] [1])))])) (some [(.one (.s .int (ap [] [1])))]))) (cond (ieq a0.Traps 2) (cond (ine a0.Post 0) (cond (few (ln (ap (ap [] [1]) [4]))) (some [(.one (.s .int (ap (ap [] [1]) [4])))]) none) (some [(.one (.s .int (ap [] [1])))])) (some [(.one (.s .int (ap [] [1])))])))) none) none) (cond (zC a0.Post 0 255) (cond (cond (zJ a0.Post 0 255) false true) (cond (few (ln (ap [] [2]))) (cond (ine a0.Post 0) (cond (cond a0.Open false true) (cond (few (ln (ap (ap [] [2]) [3]))) (cond (ieq a0.Traps 2) (cond (ine a0.Post 0) (cond (few (ln (ap (ap (ap [] [2]) [3]) [4]))) (some [(.one (.s .int (ap (ap (ap [] [2]) [3]) [4])))]) none) (some [(.one (.s .int (ap (ap [] [2]) [3])))])) (some [(.one (.s .int (ap (ap [] [2]) [3])))])) none) (cond (ieq a0.Traps 2) (cond (ine a0.Post 0) (cond (few (ln (ap (ap [] [2]) [4]))) (some [(.one (.s .int (ap (ap [] [2]) [4])))]) none) (some [(.one (.s .int (ap [] [2])))])) (some [(.one (.s .int (ap [] [2])))]))) (cond (ieq a0.Traps 2) (cond (ine a0.Post 0) (cond (few (ln (ap (ap [] [2]) [4]))) (some [(.one (.s .int (ap (ap [] [2]) [4])))]) none) (some [(.one (.s .int (ap [] [2])))])) (some [(.one (.s .int (ap [] [2])))]))) none) (cond (ine a0.Post 0) (cond (cond a0.Open false true) (cond (few (ln (ap [] [3]))) (cond (ieq a0.Traps 2) (cond (ine a0.Post 0) (cond (few (ln (ap (ap [] [3]) [4]))) (some [(.one (.s .int (ap (ap [] [3]) [4])))]) none) (some [(.one (.s .int (ap [] [3])))])) (some [(.one (.s .int (ap [] [3])))])) none) (cond (ieq a0.Traps 2) (cond (ine a0.Post 0) (cond (few (ln (ap [] [4]))) (some [(.one (.s .int (ap [] [4])))]) none) (some [(.one (.s .int []))])) (some [(.one (.s .int []))]))) (cond (ieq a0.Traps 2) (cond (ine a0.Post 0) (cond (few (ln (ap [] [4]))) (some [(.one (.s .int (ap [] [4])))]) none) (some [(.one (.s .int []))])) (some [(.one (.s .int []))])))) none)) none)
theorem zrU (N:Nat)(a0:Ctl):evalFn (cQ zeA zbZ zK zL) (zx []) N 12 101 [.agg (zeq a0)]=zgY N a0:=by kernel_rfl
theorem zql (a0:Ctl)(hb:zF big [.agg (zeq a0)])(hc:(zhs a0)=true):∃N,zgY N a0=some [.one (.s .int (zew a0))]:=by
 refine ⟨0,?_⟩;unfold zgY;refine must rfl (brN (fun _=>must (by first|assumption|(simp_all<;>omega)) (must rfl (brN (fun _=>must (by first|assumption|(simp_all<;>omega)) (br (fun _=>brN (fun _=>must (by first|assumption|(simp_all<;>omega)) (br (fun _=>br (fun _=>must (by first|assumption|(simp_all<;>omega)) ?_) (fun _=>?_)) (fun _=>?_))) (fun _=>br (fun _=>br (fun _=>must (by first|assumption|(simp_all<;>omega)) ?_) (fun _=>?_)) (fun _=>?_))) (fun _=>br (fun _=>br (fun _=>must (by first|assumption|(simp_all<;>omega)) ?_) (fun _=>?_)) (fun _=>?_)))) (fun _=>br (fun _=>brN (fun _=>must (by first|assumption|(simp_all<;>omega)) (br (fun _=>br (fun _=>must (by first|assumption|(simp_all<;>omega)) ?_) (fun _=>?_)) (fun _=>?_))) (fun _=>br (fun _=>br (fun _=>must (by first|assumption|(simp_all<;>omega)) ?_) (fun _=>?_)) (fun _=>?_))) (fun _=>br (fun _=>br (fun _=>must (by first|assumption|(simp_all<;>omega)) ?_) (fun _=>?_)) (fun _=>?_)))))) (fun _=>must rfl (brN (fun _=>must (by first|assumption|(simp_all<;>omega)) (br (fun _=>brN (fun _=>must (by first|assumption|(simp_all<;>omega)) (br (fun _=>br (fun _=>must (by first|assumption|(simp_all<;>omega)) ?_) (fun _=>?_)) (fun _=>?_))) (fun _=>br (fun _=>br (fun _=>must (by first|assumption|(simp_all<;>omega)) ?_) (fun _=>?_)) (fun _=>?_))) (fun _=>br (fun _=>br (fun _=>must (by first|assumption|(simp_all<;>omega)) ?_) (fun _=>?_)) (fun _=>?_)))) (fun _=>br (fun _=>brN (fun _=>must (by first|assumption|(simp_all<;>omega)) (br (fun _=>br (fun _=>must (by first|assumption|(simp_all<;>omega)) ?_) (fun _=>?_)) (fun _=>?_))) (fun _=>br (fun _=>br (fun _=>must (by first|assumption|(simp_all<;>omega)) ?_) (fun _=>?_)) (fun _=>?_))) (fun _=>br (fun _=>br (fun _=>must (by first|assumption|(simp_all<;>omega)) ?_) (fun _=>?_)) (fun _=>?_))))))
 all_goals first|rfl|(simp only [*,zew,zdW,cT,cF]<;>rfl)|simp_all [Ty.cells,zew,zdW]
theorem znY:Holds Tryz.prog 101 zfA:=zk zcM zbs zl zn (zA (by kernel_rfl)) fun avs rs hb h=>by
 unfold zfA at h;split at h
 ·obtain ⟨hc,rfl⟩:=zh h;exact (fin1 zql zrU hc hb :)
 ·cases h
@[simp,reducible] def zg2 (c:Ctl):Bool:=true
@[simp,reducible] def zeu (c:Ctl):List Int:=zdW c
def zfu:List AV->Option (Bool×List AV)
 | [.agg [.i .i64 c,.i .i64 d,.b e]]=>some ((zg2 (⟨c,d,e⟩:Ctl)),[.one (.s .int (zeu (⟨c,d,e⟩:Ctl)))])
 | _=>none
def zgX (N:Nat)(a0:Ctl):Option Ans :=
 (cond (zH a0.Traps 0 3) (cond (cond (zN a0.Traps 0 3) false true) (cond (few (ln (ap [] [1]))) (cond (zH a0.Post 0 255) (cond (cond (zN a0.Post 0 255) false true) (cond (few (ln (ap (ap [] [1]) [2]))) (cond (ine a0.Post 0) (cond (cond a0.Open false true) (cond (few (ln (ap (ap (ap [] [1]) [2]) [3]))) (cond (ieq a0.Traps 2) (cond (ine a0.Post 0) (cond (few (ln (ap (ap (ap (ap [] [1]) [2]) [3]) [4]))) (some [(.one (.s .int (ap (ap (ap (ap [] [1]) [2]) [3]) [4])))]) none) (some [(.one (.s .int (ap (ap (ap [] [1]) [2]) [3])))])) (some [(.one (.s .int (ap (ap (ap [] [1]) [2]) [3])))])) none) (cond (ieq a0.Traps 2) (cond (ine a0.Post 0) (cond (few (ln (ap (ap (ap [] [1]) [2]) [4]))) (some [(.one (.s .int (ap (ap (ap [] [1]) [2]) [4])))]) none) (some [(.one (.s .int (ap (ap [] [1]) [2])))])) (some [(.one (.s .int (ap (ap [] [1]) [2])))]))) (cond (ieq a0.Traps 2) (cond (ine a0.Post 0) (cond (few (ln (ap (ap (ap [] [1]) [2]) [4]))) (some [(.one (.s .int (ap (ap (ap [] [1]) [2]) [4])))]) none) (some [(.one (.s .int (ap (ap [] [1]) [2])))])) (some [(.one (.s .int (ap (ap [] [1]) [2])))]))) none) (cond (ine a0.Post 0) (cond (cond a0.Open false true) (cond (few (ln (ap (ap [] [1]) [3]))) (cond (ieq a0.Traps 2) (cond (ine a0.Post 0) (cond (few (ln (ap (ap (ap [] [1]) [3]) [4]))) (some [(.one (.s .int (ap (ap (ap [] [1]) [3]) [4])))]) none) (some [(.one (.s .int (ap (ap [] [1]) [3])))])) (some [(.one (.s .int (ap (ap [] [1]) [3])))])) none) (cond (ieq a0.Traps 2) (cond (ine a0.Post 0) (cond (few (ln (ap (ap [] [1]) [4]))) (some [(.one (.s .int (ap (ap [] [1]) [4])))]) none) (some [(.one (.s .int (ap [] [1])))])) (some [(.one (.s .int (ap [] [1])))]))) (cond (ieq a0.Traps 2) (cond (ine a0.Post 0) (cond (few (ln (ap (ap [] [1]) [4]))) (some [(.one (.s .int (ap (ap [] [1]) [4])))]) none) (some [(.one (.s .int (ap [] [1])))])) (some [(.one (.s .int (ap [] [1])))])))) none) none) (cond (zH a0.Post 0 255) (cond (cond (zN a0.Post 0 255) false true) (cond (few (ln (ap [] [2]))) (cond (ine a0.Post 0) (cond (cond a0.Open false true) (cond (few (ln (ap (ap [] [2]) [3]))) (cond (ieq a0.Traps 2) (cond (ine a0.Post 0) (cond (few (ln (ap (ap (ap [] [2]) [3]) [4]))) (some [(.one (.s .int (ap (ap (ap [] [2]) [3]) [4])))]) none) (some [(.one (.s .int (ap (ap [] [2]) [3])))])) (some [(.one (.s .int (ap (ap [] [2]) [3])))])) none) (cond (ieq a0.Traps 2) (cond (ine a0.Post 0) (cond (few (ln (ap (ap [] [2]) [4]))) (some [(.one (.s .int (ap (ap [] [2]) [4])))]) none) (some [(.one (.s .int (ap [] [2])))])) (some [(.one (.s .int (ap [] [2])))]))) (cond (ieq a0.Traps 2) (cond (ine a0.Post 0) (cond (few (ln (ap (ap [] [2]) [4]))) (some [(.one (.s .int (ap (ap [] [2]) [4])))]) none) (some [(.one (.s .int (ap [] [2])))])) (some [(.one (.s .int (ap [] [2])))]))) none) (cond (ine a0.Post 0) (cond (cond a0.Open false true) (cond (few (ln (ap [] [3]))) (cond (ieq a0.Traps 2) (cond (ine a0.Post 0) (cond (few (ln (ap (ap [] [3]) [4]))) (some [(.one (.s .int (ap (ap [] [3]) [4])))]) none) (some [(.one (.s .int (ap [] [3])))])) (some [(.one (.s .int (ap [] [3])))])) none) (cond (ieq a0.Traps 2) (cond (ine a0.Post 0) (cond (few (ln (ap [] [4]))) (some [(.one (.s .int (ap [] [4])))]) none) (some [(.one (.s .int []))])) (some [(.one (.s .int []))]))) (cond (ieq a0.Traps 2) (cond (ine a0.Post 0) (cond (few (ln (ap [] [4]))) (some [(.one (.s .int (ap [] [4])))]) none) (some [(.one (.s .int []))])) (some [(.one (.s .int []))])))) none)) none)
theorem zrT (N:Nat)(a0:Ctl):evalFn (cQ zeA zbZ zK zL) (zx []) N 12 106 [.agg (zeq a0)]=zgX N a0:=by kernel_rfl
theorem zqk (a0:Ctl)(hb:zF big [.agg (zeq a0)])(hc:(zg2 a0)=true):∃N,zgX N a0=some [.one (.s .int (zeu a0))]:=by
 refine ⟨0,?_⟩;unfold zgX;refine must rfl (brN (fun _=>must (by first|assumption|(simp_all<;>omega)) (must rfl (brN (fun _=>must (by first|assumption|(simp_all<;>omega)) (br (fun _=>brN (fun _=>must (by first|assumption|(simp_all<;>omega)) (br (fun _=>br (fun _=>must (by first|assumption|(simp_all<;>omega)) ?_) (fun _=>?_)) (fun _=>?_))) (fun _=>br (fun _=>br (fun _=>must (by first|assumption|(simp_all<;>omega)) ?_) (fun _=>?_)) (fun _=>?_))) (fun _=>br (fun _=>br (fun _=>must (by first|assumption|(simp_all<;>omega)) ?_) (fun _=>?_)) (fun _=>?_)))) (fun _=>br (fun _=>brN (fun _=>must (by first|assumption|(simp_all<;>omega)) (br (fun _=>br (fun _=>must (by first|assumption|(simp_all<;>omega)) ?_) (fun _=>?_)) (fun _=>?_))) (fun _=>br (fun _=>br (fun _=>must (by first|assumption|(simp_all<;>omega)) ?_) (fun _=>?_)) (fun _=>?_))) (fun _=>br (fun _=>br (fun _=>must (by first|assumption|(simp_all<;>omega)) ?_) (fun _=>?_)) (fun _=>?_)))))) (fun _=>must rfl (brN (fun _=>must (by first|assumption|(simp_all<;>omega)) (br (fun _=>brN (fun _=>must (by first|assumption|(simp_all<;>omega)) (br (fun _=>br (fun _=>must (by first|assumption|(simp_all<;>omega)) ?_) (fun _=>?_)) (fun _=>?_))) (fun _=>br (fun _=>br (fun _=>must (by first|assumption|(simp_all<;>omega)) ?_) (fun _=>?_)) (fun _=>?_))) (fun _=>br (fun _=>br (fun _=>must (by first|assumption|(simp_all<;>omega)) ?_) (fun _=>?_)) (fun _=>?_)))) (fun _=>br (fun _=>brN (fun _=>must (by first|assumption|(simp_all<;>omega)) (br (fun _=>br (fun _=>must (by first|assumption|(simp_all<;>omega)) ?_) (fun _=>?_)) (fun _=>?_))) (fun _=>br (fun _=>br (fun _=>must (by first|assumption|(simp_all<;>omega)) ?_) (fun _=>?_)) (fun _=>?_))) (fun _=>br (fun _=>br (fun _=>must (by first|assumption|(simp_all<;>omega)) ?_) (fun _=>?_)) (fun _=>?_))))))
 all_goals first|rfl|(simp only [*,zeu,zdW,cT,cF]<;>rfl)|simp_all [Ty.cells,zeu,zdW]
theorem znX:Holds Tryz.prog 106 zfu:=zk zcM zbs zl zn (zA (by kernel_rfl)) fun avs rs hb h=>by
 unfold zfu at h;split at h
 ·obtain ⟨hc,rfl⟩:=zh h;exact (fin1 zqk zrT hc hb :)
 ·cases h
def zmV (p n:Int):Bool:=ieq (wand .i64 (zBb .i64 p n) 1) 1
def scan (p:Int):Int:=bif zmV p 7 then 7 else (cond (zmV p 6) 6 (cond (zmV p 5) 5 (cond (zmV p 4) 4 (cond (zmV p 3) 3 (cond (zmV p 2) 2 (cond (zmV p 1) 1 (cond (zmV p 0) 0 (-1))))))))
def zjy:zbg:=[(60,zhr),(71,zg8),(59,zjf),(70,ziN),(100,zkw),(105,zkk),(86,zjb),(94,ziJ),(101,zfA),(106,zfu)]++zeA
theorem zeI:zbl zjy:=zi zqe (zi zpV (zi zru (zi zq0 (zi zsP (zi zsD (zi zrp (zi zqW (zi znY (zi znX zcM)))))))))
def zeD (m:List (List Int))(n:Int):Bool:=bif m.all zck then ieq (ln m) n else false
@[simp,reducible] def znv (m:List (List Int))(n:Int):Bool:=true
@[simp,reducible] def zge (m:List (List Int))(n:Int):Bool:=zeD m n
def zkx:List AV->Option (Bool×List AV)
 | [.one (.s (.sl .int) c),.one (.i .i64 d)]=>some ((znv c d),[.one (.b (zge c d))])
 | _=>none
def zmK (N:Nat)(a0:List (List Int))(a1:Int):Option Ans :=
 (iter (σ:=(Int×(Int×((List (List Int))×Unit)))) N (fun r3 s4=>(cond (ilt s4.2.1 (ln s4.2.2.1)) (cond (inb s4.2.1 (ln s4.2.2.1)) (cond (zda (ix s4.2.2.1 s4.2.1 [])) (cond (cond (zcA (ix s4.2.2.1 s4.2.1 [])) false true) (some [(.one (.b false))]) (r3 (s4.1,((zW .i64 s4.2.1 1),(s4.2.2.1,()))))) none) none) (some [(.one (.b (ieq (ln s4.2.2.1) s4.1)))]))) (a1,(0,(a0,()))))
def zxz:FuncId->Nat->Option Tmpl:=zx [(28,0,{ n:=22,tm:=[(0,.sl 0 []),(1,.i .i64),(5,.i .i64)],lo:=[],ro:=[(0,(.sl .int),false)] })]
theorem zyS (N:Nat)(a0:List (List Int))(a1:Int):evalFn (cQ zjy zbZ zK zL) zxz N 12 28 [.one (.s (.sl .int) a0),.one (.i .i64 a1)]=zmK N a0 a1:=by kernel_rfl
theorem zwG (a0:List (List Int))(a1:Int)(hb:zF big [.one (.s (.sl .int) a0),.one (.i .i64 a1)])(hc:(znv a0 a1)=true):∃N,zmK N a0 a1=some [.one (.b (zge a0 a1))]:=by
 have hl:(_:List _).length<=big:=((zM hb).1 _ (List.mem_singleton.2 rfl)).len;refine ⟨NN,?_⟩;have hNN:∀{n:Nat},n<=big->n<NN:=fun h=>zcs h;generalize NN=N at hNN ⊢;unfold zmK;refine (zbj a0 (fun i (t:Unit)=>(a1,(i:Int),a0,())) _ (fun _ x (_:Unit) κ=>bif (zck) x then κ () else some [AV.one (.b false)]) (fun (t:Unit)=>(some [(.one (.b (ieq (ln a0) a1)))])) (fun i hi t rec=>?_) (fun t rec=>?_) _ () (hNN hl)).trans ?_
 ·simp only [zbo hi,zU hi,zbd hi,zZ hi hl,cT];exact zdU rfl
 ·simp only [zbe,cF]
 rw [zce (zck)];refine br (fun h0=>?_) (fun h0=>?_)
 ·first|rfl|(simp only [h0,zge,zeD,cT,cF]<;>rfl)|(simp_all [Ty.cells,zge,zeD];done)
 ·first|rfl|(simp only [h0,zge,zeD,cT,cF]<;>rfl)|(simp_all [Ty.cells,zge,zeD];done)
theorem zsQ:Holds Tryz.prog 28 zkx:=zk zeI zbs zl zn (zA (by kernel_rfl)) fun avs rs hb h=>by
 unfold zkx at h;split at h
 ·obtain ⟨hc,rfl⟩:=zh h;exact (fin2 zwG zyS hc hb :)
 ·cases h
@[simp,reducible] def znc (m:List (List Int))(n:Int):Bool:=true
@[simp,reducible] def zfS (m:List (List Int))(n:Int):Bool:=zeD m n
def zkl:List AV->Option (Bool×List AV)
 | [.one (.s (.sl .int) c),.one (.i .i64 d)]=>some ((znc c d),[.one (.b (zfS c d))])
 | _=>none
def zmz (N:Nat)(a0:List (List Int))(a1:Int):Option Ans :=
 (iter (σ:=(Int×(Int×(Int×((List (List Int))×Unit))))) N (fun r3 s4=>(cond (ilt s4.2.2.1 s4.2.1) (cond (inb s4.2.2.1 (ln s4.2.2.2.1)) (cond (zed (ix s4.2.2.2.1 s4.2.2.1 [])) (cond (cond (zde (ix s4.2.2.2.1 s4.2.2.1 [])) false true) (some [(.one (.b false))]) (r3 (s4.1,(s4.2.1,((zW .i64 s4.2.2.1 1),(s4.2.2.2.1,())))))) none) none) (some [(.one (.b (ieq (ln s4.2.2.2.1) s4.1)))]))) (a1,((ln a0),(0,(a0,())))))
def zxx:FuncId->Nat->Option Tmpl:=zx [(41,0,{ n:=21,tm:=[(0,.sl 0 []),(1,.i .i64),(7,.sl 0 []),(8,.i .i64),(9,.i .i64)],lo:=[],ro:=[(0,(.sl .int),false)] })]
theorem zyG (N:Nat)(a0:List (List Int))(a1:Int):evalFn (cQ zjy zbZ zK zL) zxx N 12 41 [.one (.s (.sl .int) a0),.one (.i .i64 a1)]=zmz N a0 a1:=by kernel_rfl
theorem zwu (a0:List (List Int))(a1:Int)(hb:zF big [.one (.s (.sl .int) a0),.one (.i .i64 a1)])(hc:(znc a0 a1)=true):∃N,zmz N a0 a1=some [.one (.b (zfS a0 a1))]:=by
 have hl:(_:List _).length<=big:=((zM hb).1 _ (List.mem_singleton.2 rfl)).len;refine ⟨NN,?_⟩;have hNN:∀{n:Nat},n<=big->n<NN:=fun h=>zcs h;generalize NN=N at hNN ⊢;unfold zmz;refine (zbj a0 (fun i (t:Unit)=>(a1,(ln a0),(i:Int),a0,())) _ (fun _ x (_:Unit) κ=>bif (zck) x then κ () else some [AV.one (.b false)]) (fun (t:Unit)=>(some [(.one (.b (ieq (ln a0) a1)))])) (fun i hi t rec=>?_) (fun t rec=>?_) _ () (hNN hl)).trans ?_
 ·simp only [zbo hi,zU hi,zbd hi,zZ hi hl,cT];exact zdU rfl
 ·simp only [zbe,cF]
 rw [zce (zck)];refine br (fun h0=>?_) (fun h0=>?_)
 ·first|rfl|(simp only [h0,zfS,zeD,cT,cF]<;>rfl)|(simp_all [Ty.cells,zfS,zeD];done)
 ·first|rfl|(simp only [h0,zfS,zeD,cT,cF]<;>rfl)|(simp_all [Ty.cells,zfS,zeD];done)
theorem zsE:Holds Tryz.prog 41 zkl:=zk zeI zbs zl zn (zA (by kernel_rfl)) fun avs rs hb h=>by
 unfold zkl at h;split at h
 ·obtain ⟨hc,rfl⟩:=zh h;exact (fin2 zwu zyG hc hb :)
 ·cases h
def zd6 (p:List Ins):Bool:=bif p.all zfl then win (ln p) 1 12 else false
@[simp,reducible] def zmk (p:List Ins):Bool:=true
@[simp,reducible] def zeP (p:List Ins):Bool:=zd6 p
def zjh:List AV->Option (Bool×List AV)
 | [.one (.s .ins c)]=>some ((zmk c),[.one (.b (zeP c))])
 | _=>none
def zlM (N:Nat)(a0:List Ins):Option Ans :=
 (iter (σ:=(Int×((List Ins)×Unit))) N (fun r2 s3=>(cond (ilt s3.1 (ln s3.2.1)) (cond (inb s3.1 (ln s3.2.1)) (cond (znu (ix s3.2.1 s3.1 zeo)) (cond (cond (zla (ix s3.2.1 s3.1 zeo)) false true) (some [(.one (.b false))]) (r2 ((zW .i64 s3.1 1),(s3.2.1,())))) none) none) (cond (zC (ln s3.2.1) 1 12) (some [(.one (.b (zJ (ln s3.2.1) 1 12)))]) none))) (0,(a0,())))
def zv7:FuncId->Nat->Option Tmpl:=zx [(84,0,{ n:=19,tm:=[(0,.sl 0 []),(3,.i .i64)],lo:=[],ro:=[(0,.ins,false)] })]
theorem zxm (N:Nat)(a0:List Ins):evalFn (cQ zjy zbZ zK zL) zv7 N 12 84 [.one (.s .ins a0)]=zlM N a0:=by kernel_rfl
theorem zvh (a0:List Ins)(hb:zF big [.one (.s .ins a0)])(hc:(zmk a0)=true):∃N,zlM N a0=some [.one (.b (zeP a0))]:=by
 have hl:(_:List _).length<=big:=((zM hb).1 _ (List.mem_singleton.2 rfl)).len;refine ⟨NN,?_⟩;have hNN:∀{n:Nat},n<=big->n<NN:=fun h=>zcs h;generalize NN=N at hNN ⊢;unfold zlM;refine (zbj a0 (fun i (t:Unit)=>((i:Int),a0,())) _ (fun _ x (_:Unit) κ=>bif (zfl) x then κ () else some [AV.one (.b false)]) (fun (t:Unit)=>(cond (zC (ln a0) 1 12) (some [(.one (.b (zJ (ln a0) 1 12)))]) none)) (fun i hi t rec=>?_) (fun t rec=>?_) _ () (hNN hl)).trans ?_
 ·simp only [zbo hi,zU hi,zbd hi,zZ hi hl,cT];exact zdU rfl
 ·simp only [zbe,cF]
 rw [zce (zfl)];refine br (fun h0=>?_) (fun h0=>?_)
 ·refine must rfl ?_
  first|rfl|(simp only [h0,zeP,zd6,cT,cF]<;>rfl)|(simp_all [Ty.cells,zeP,zd6];done)
 ·first|rfl|(simp only [h0,zeP,zd6,cT,cF]<;>rfl)|(simp_all [Ty.cells,zeP,zd6];done)
theorem zrx:Holds Tryz.prog 84 zjh:=zk zeI zbs zl zn (zA (by kernel_rfl)) fun avs rs hb h=>by
 unfold zjh at h;split at h
 ·obtain ⟨hc,rfl⟩:=zh h;exact (fin1 zvh zxm hc hb :)
 ·cases h
@[simp,reducible] def zl7 (p:List Ins):Bool:=true
@[simp,reducible] def zeJ (p:List Ins):Bool:=zd6 p
def ziP:List AV->Option (Bool×List AV)
 | [.one (.s .ins c)]=>some ((zl7 c),[.one (.b (zeJ c))])
 | _=>none
def zlk (N:Nat)(a0:List Ins):Option Ans :=
 (iter (σ:=(Int×(Int×((List Ins)×Unit)))) N (fun r2 s3=>(cond (ilt s3.2.1 s3.1) (cond (inb s3.2.1 (ln s3.2.2.1)) (cond (znb (ix s3.2.2.1 s3.2.1 zeo)) (cond (cond (zkU (ix s3.2.2.1 s3.2.1 zeo)) false true) (some [(.one (.b false))]) (r2 (s3.1,((zW .i64 s3.2.1 1),(s3.2.2.1,()))))) none) none) (cond (zH (ln s3.2.2.1) 1 12) (some [(.one (.b (zN (ln s3.2.2.1) 1 12)))]) none))) ((ln a0),(0,(a0,()))))
def zvW:FuncId->Nat->Option Tmpl:=zx [(92,0,{ n:=18,tm:=[(0,.sl 0 []),(5,.sl 0 []),(6,.i .i64),(7,.i .i64)],lo:=[],ro:=[(0,.ins,false)] })]
theorem zwR (N:Nat)(a0:List Ins):evalFn (cQ zjy zbZ zK zL) zvW N 12 92 [.one (.s .ins a0)]=zlk N a0:=by kernel_rfl
theorem zuL (a0:List Ins)(hb:zF big [.one (.s .ins a0)])(hc:(zl7 a0)=true):∃N,zlk N a0=some [.one (.b (zeJ a0))]:=by
 have hl:(_:List _).length<=big:=((zM hb).1 _ (List.mem_singleton.2 rfl)).len;refine ⟨NN,?_⟩;have hNN:∀{n:Nat},n<=big->n<NN:=fun h=>zcs h;generalize NN=N at hNN ⊢;unfold zlk;refine (zbj a0 (fun i (t:Unit)=>((ln a0),(i:Int),a0,())) _ (fun _ x (_:Unit) κ=>bif (zfl) x then κ () else some [AV.one (.b false)]) (fun (t:Unit)=>(cond (zH (ln a0) 1 12) (some [(.one (.b (zN (ln a0) 1 12)))]) none)) (fun i hi t rec=>?_) (fun t rec=>?_) _ () (hNN hl)).trans ?_
 ·simp only [zbo hi,zU hi,zbd hi,zZ hi hl,cT];exact zdU rfl
 ·simp only [zbe,cF]
 rw [zce (zfl)];refine br (fun h0=>?_) (fun h0=>?_)
 ·refine must rfl ?_
  first|rfl|(simp only [h0,zeJ,zd6,cT,cF]<;>rfl)|(simp_all [Ty.cells,zeJ,zd6];done)
 ·first|rfl|(simp only [h0,zeJ,zd6,cT,cF]<;>rfl)|(simp_all [Ty.cells,zeJ,zd6];done)
theorem zq2:Holds Tryz.prog 92 ziP:=zk zeI zbs zl zn (zA (by kernel_rfl)) fun avs rs hb h=>by
 unfold ziP at h;split at h
 ·obtain ⟨hc,rfl⟩:=zh h;exact (fin1 zuL zwR hc hb :)
 ·cases h
def zlV (c:Ctl):Bool:=ieq (ln (zdW c)) 0
@[simp,reducible] def znt (c:Ctl):Bool:=true
@[simp,reducible] def zk9 (c:Ctl):Bool:=zlV c
def zkv:List AV->Option (Bool×List AV)
 | [.agg [.i .i64 c,.i .i64 d,.b e]]=>some ((znt (⟨c,d,e⟩:Ctl)),[.one (.b (zk9 (⟨c,d,e⟩:Ctl)))])
 | _=>none
def zmI (N:Nat)(a0:Ctl):Option Ans :=
 (cond (zhs a0) (some [(.one (.b (ieq (ln (zew a0)) 0)))]) none)
theorem zyQ (N:Nat)(a0:Ctl):evalFn (cQ zjy zbZ zK zL) (zx []) N 12 85 [.agg (zeq a0)]=zmI N a0:=by kernel_rfl
theorem zwE (a0:Ctl)(hb:zF big [.agg (zeq a0)])(hc:(znt a0)=true):∃N,zmI N a0=some [.one (.b (zk9 a0))]:=by
 refine ⟨0,?_⟩;unfold zmI;refine must rfl ?_
 first|rfl|(simp only [*,zk9,zlV,cT,cF]<;>rfl)|simp_all [Ty.cells,zk9,zlV]
theorem zsO:Holds Tryz.prog 85 zkv:=zk zeI zbs zl zn (zA (by kernel_rfl)) fun avs rs hb h=>by
 unfold zkv at h;split at h
 ·obtain ⟨hc,rfl⟩:=zh h;exact (fin1 zwE zyQ hc hb :)
 ·cases h
@[simp,reducible] def zna (c:Ctl):Bool:=true
@[simp,reducible] def zkT (c:Ctl):Bool:=zlV c
def zkj:List AV->Option (Bool×List AV)
 | [.agg [.i .i64 c,.i .i64 d,.b e]]=>some ((zna (⟨c,d,e⟩:Ctl)),[.one (.b (zkT (⟨c,d,e⟩:Ctl)))])
 | _=>none
def zmx (N:Nat)(a0:Ctl):Option Ans :=
 (cond (zg2 a0) (some [(.one (.b (ieq (ln (zeu a0)) 0)))]) none)
theorem zyE (N:Nat)(a0:Ctl):evalFn (cQ zjy zbZ zK zL) (zx []) N 12 93 [.agg (zeq a0)]=zmx N a0:=by kernel_rfl
theorem zwr (a0:Ctl)(hb:zF big [.agg (zeq a0)])(hc:(zna a0)=true):∃N,zmx N a0=some [.one (.b (zkT a0))]:=by
 refine ⟨0,?_⟩;unfold zmx;refine must rfl ?_
 first|rfl|(simp only [*,zkT,zlV,cT,cF]<;>rfl)|simp_all [Ty.cells,zkT,zlV]
theorem zsC:Holds Tryz.prog 93 zkj:=zk zeI zbs zl zn (zA (by kernel_rfl)) fun avs rs hb h=>by
 unfold zkj at h;split at h
 ·obtain ⟨hc,rfl⟩:=zh h;exact (fin1 zwr zyE hc hb :)
 ·cases h
def znB (p:Int):Int:=bif zdF p then scan p else -1
def zwe (t:List Slot)(p n:Int):Bool:=bif ieq (zcl t p).Page (-1) then false else (cond (enough (zcl t p).Rights n) (win n 1 3) false)
def zz0 (t:List Slot)(p n:Int):Int:=bif zwe t p n then (zcl t p).Page else -1
def zBz:zbg:=[(28,zkx),(41,zkl),(84,zjh),(92,ziP),(85,zkv),(93,zkj)]++zjy
theorem zAx:zbl zBz:=zi zsQ (zi zsE (zi zrx (zi zq2 (zi zsO (zi zsC zeI)))))
def zpo (g:Guest):Bool:=bif canRun g then (cond g.Ctl.Open (ige (znB g.Pending) 0) false) else false
def zxS (p:Int):Int:=bif ilt (znB p) 0 then p else wsub .i64 p (zBa .i64 1 (znB p))
def zCR (p:Int):Int:=bif ilt (znB p) 0 then -1 else znB p
def saw (g:Guest)(n:Int):Guest:=bif ilt (ln g.Seen) 40 then { g with Seen:=ap g.Seen [n] } else g
@[simp] theorem zx3 {g:Guest}(n:Int)(h:SmG g):SmG (saw g n):=by
 unfold saw;cases h1:ilt (ln g.Seen) 40
 ·exact h
 ·have:=of_decide_eq_true h1;refine ⟨h.1,h.2.1,h.2.2.1,?_⟩;simp [ln] at *;omega
def stopped (g:Guest)(e:GExit):Guest:={ g with Exit:=e }
@[simp] theorem zDb {g:Guest}(e:GExit)(h:SmG g):SmG (stopped g e):=h
def zbu (g:Guest):Guest:=bif ige g.Pc 12 then { g with Pc:=12 } else { g with Pc:=zW .i64 g.Pc 1 }
@[simp] theorem zgW {g:Guest}(h:SmG g):SmG (zbu g):=by
 unfold zbu;cases ige g.Pc 12<;>exact h
def ztW:zbg:=zBz
theorem zoM:∀f run,zf ztW f=some run->Holds Tryz.prog f run:=zAx
def interrupted (g:Guest):Guest:=bif zpo g then saw { g with Pending:=zxS g.Pending } (zW .i64 100 (zCR g.Pending)) else g
@[simp] theorem zCx {g:Guest}(h:SmG g):SmG (interrupted g):=by
 unfold interrupted;cases zpo g
 ·exact h
 ·exact zx3 (g:={ g with Pending:=zxS g.Pending }) _ h
def zCX (o:Int):Int:=bif ieq o 3 then 3 else (cond (ieq o 4) 4 (cond (ieq o 5) 5 (cond (ieq o 6) 6 (cond (ieq o 7) 7 2))))
def zld (g:Guest):Int:=bif canRun g then (cond (zpo g) 1 (zCX (zcV g.Prog g.Pc).Op)) else 0
def held (g:Guest):Guest:=zbu { g with Halted:=true }
@[simp] theorem zA0 {g:Guest}(h:SmG g):SmG (held g):=zgW (g:={ g with Halted:=true }) h
def loaded (g:Guest)(v:Int):Guest:=zbu (saw { g with A:=v } v)
@[simp] theorem zy5 {g:Guest}(v:Int)(h:SmG g):SmG (loaded g v):=zgW (zx3 (g:={ g with A:=v }) v h)
def zx7 (g:Guest)(w:Int):Guest:=bif ieq w 5 then stopped g (zxY (zcV g.Prog g.Pc).X) else stopped g ⟨4,0,false,0⟩
@[simp] theorem zDc {g:Guest}(w:Int)(h:SmG g):SmG (zx7 g w):=by
 unfold zx7;cases ieq w 5<;>exact h
def zcf (g:Guest):Bool:=zd6 g.Prog&&(win g.A 0 99&&(win g.Pc 0 12&&(zbQ g.Written 4 8&&(zbQ g.Live 4 8&&(zlV g.Ctl&&(zdF g.Pending&&(zis g.Exit&&ile (ln g.Seen) 40)))))))
@[simp,reducible] def zgE (g:Guest):Bool:=true
@[simp,reducible] def ze1 (g:Guest):Bool:=zcf g
def zhq:List AV->Option (Bool×List AV)
 | [.agg [.s .ins c,.i .i64 d,.i .i64 e,.s .slot f,.s .slot g,.i .i64 h,.i .i64 j,.b k,.i .i64 l,.i .i64 m,.i .i64 n,.b o,.i .i64 p,.b q,.s .int r]]=>some ((zgE (⟨c,d,e,f,g,⟨h,j,k⟩,l,⟨m,n,o,p⟩,q,r⟩:Guest)),[.one (.b (ze1 (⟨c,d,e,f,g,⟨h,j,k⟩,l,⟨m,n,o,p⟩,q,r⟩:Guest)))])
 | _=>none
def zkb (N:Nat)(a0:Guest):Option Ans :=
 (cond (zmk a0.Prog) (cond (zeP a0.Prog) (cond (zC a0.A 0 99) (cond (zJ a0.A 0 99) (cond (zC a0.Pc 0 12) (cond (zJ a0.Pc 0 12) (cond (zex a0.Written 4 8) (cond (zdb a0.Written 4 8) (cond (zex a0.Live 4 8) (cond (zdb a0.Live 4 8) (cond (znt a0.Ctl) (cond (zk9 a0.Ctl) (cond (zdE a0.Pending) (cond (zdD a0.Pending) (cond (zmh a0.Exit) (cond (zjm a0.Exit) (some [(.one (.b (ile (ln a0.Seen) 40)))]) (some [(.one (.b false))])) none) (some [(.one (.b false))])) none) (some [(.one (.b false))])) none) (some [(.one (.b false))])) none) (some [(.one (.b false))])) none) (some [(.one (.b false))])) none) (some [(.one (.b false))])) none) (some [(.one (.b false))])) none)
theorem zvI (N:Nat)(a0:Guest):evalFn (cQ ztW zbZ zK zL) (zx []) N 12 61 [.agg (Ty.cells .guest a0)]=zkb N a0:=by kernel_rfl
theorem zth (a0:Guest)(hb:zF big [.agg (Ty.cells .guest a0)])(hc:(zgE a0)=true):∃N,zkb N a0=some [.one (.b (ze1 a0))]:=by
 refine ⟨0,?_⟩;unfold zkb;refine must rfl (br (fun _=>must rfl (br (fun _=>must rfl (br (fun _=>must rfl (br (fun _=>must rfl (br (fun _=>must rfl (br (fun _=>must rfl (br (fun _=>must rfl (br (fun _=>?_) (fun _=>?_))) (fun _=>?_))) (fun _=>?_))) (fun _=>?_))) (fun _=>?_))) (fun _=>?_))) (fun _=>?_))) (fun _=>?_))
 all_goals first|rfl|(simp only [*,ze1,zcf,cT,cF]<;>rfl)|simp_all [Ty.cells,ze1,zcf]
theorem zqd:Holds Tryz.prog 61 zhq:=zk zoM zbs zl zn (zA (by kernel_rfl)) fun avs rs hb h=>by
 unfold zhq at h;split at h
 ·obtain ⟨hc,rfl⟩:=zh h;exact (fin1 zth zvI hc hb :)
 ·cases h
@[simp,reducible] def zgo (g:Guest):Bool:=true
@[simp,reducible] def zeW (g:Guest):Bool:=zcf g
def zg7:List AV->Option (Bool×List AV)
 | [.agg [.s .ins c,.i .i64 d,.i .i64 e,.s .slot f,.s .slot g,.i .i64 h,.i .i64 j,.b k,.i .i64 l,.i .i64 m,.i .i64 n,.b o,.i .i64 p,.b q,.s .int r]]=>some ((zgo (⟨c,d,e,f,g,⟨h,j,k⟩,l,⟨m,n,o,p⟩,q,r⟩:Guest)),[.one (.b (zeW (⟨c,d,e,f,g,⟨h,j,k⟩,l,⟨m,n,o,p⟩,q,r⟩:Guest)))])
 | _=>none
def zjT (N:Nat)(a0:Guest):Option Ans :=
 (cond (zl7 a0.Prog) (cond (zeJ a0.Prog) (cond (zH a0.A 0 99) (cond (zN a0.A 0 99) (cond (zH a0.Pc 0 12) (cond (zN a0.Pc 0 12) (cond (zev a0.Written 4 8) (cond (zc2 a0.Written 4 8) (cond (zev a0.Live 4 8) (cond (zc2 a0.Live 4 8) (cond (zna a0.Ctl) (cond (zkT a0.Ctl) (cond (zhB a0.Pending) (cond (zfT a0.Pending) (cond (zl4 a0.Exit) (cond (ziw a0.Exit) (some [(.one (.b (ile (ln a0.Seen) 40)))]) (some [(.one (.b false))])) none) (some [(.one (.b false))])) none) (some [(.one (.b false))])) none) (some [(.one (.b false))])) none) (some [(.one (.b false))])) none) (some [(.one (.b false))])) none) (some [(.one (.b false))])) none) (some [(.one (.b false))])) none)
theorem zvp (N:Nat)(a0:Guest):evalFn (cQ ztW zbZ zK zL) (zx []) N 12 73 [.agg (Ty.cells .guest a0)]=zjT N a0:=by kernel_rfl
theorem zsV (a0:Guest)(hb:zF big [.agg (Ty.cells .guest a0)])(hc:(zgo a0)=true):∃N,zjT N a0=some [.one (.b (zeW a0))]:=by
 refine ⟨0,?_⟩;unfold zjT;refine must rfl (br (fun _=>must rfl (br (fun _=>must rfl (br (fun _=>must rfl (br (fun _=>must rfl (br (fun _=>must rfl (br (fun _=>must rfl (br (fun _=>must rfl (br (fun _=>?_) (fun _=>?_))) (fun _=>?_))) (fun _=>?_))) (fun _=>?_))) (fun _=>?_))) (fun _=>?_))) (fun _=>?_))) (fun _=>?_))
 all_goals first|rfl|(simp only [*,zeW,zcf,cT,cF]<;>rfl)|simp_all [Ty.cells,zeW,zcf]
theorem zpU:Holds Tryz.prog 73 zg7:=zk zoM zbs zl zn (zA (by kernel_rfl)) fun avs rs hb h=>by
 unfold zg7 at h;split at h
 ·obtain ⟨hc,rfl⟩:=zh h;exact (fin1 zsV zvp hc hb :)
 ·cases h
def gAt (b:Bare)(i:Int):Guest:=bif hasB i (ln b.Guests) then ix b.Guests i zbq else Ty.dflt .guest
@[simp] theorem zC2 {b:Bare}(i:Int)(h:SmB b):SmG (gAt b i):=by
 unfold gAt;cases hh:hasB i (ln b.Guests)
 ·exact zDp
 ·exact zC3 h.2.1 hh _
def zBA:zbg:=[(61,zhq),(73,zg7)]++ztW
theorem zAy:zbl zBA:=zi zqd (zi zpU zoM)
def plainly (g:Guest):Guest:=bif ine (zld g) 2 then g else (cond (win g.A 0 99) (cond (win (zcV g.Prog g.Pc).X 0 99) (cond (ieq (zcV g.Prog g.Pc).Op 1) { zbu g with A:=(zcV g.Prog g.Pc).X } (cond (ieq (zcV g.Prog g.Pc).Op 2) { zbu g with A:=zps (zW .i64 g.A (zcV g.Prog g.Pc).X) 100 } (cond (ieq (zcV g.Prog g.Pc).Op 8) (cond (ieq g.A 0) { zbu g with Pc:=(zcV g.Prog g.Pc).X } (zbu g)) (zbu g)))) (zbu g)) (zbu g))
@[simp] theorem zDj (g:Guest):(zbu g).Prog=g.Prog:=by
 unfold zbu;cases ige g.Pc 12<;>rfl
@[simp] theorem zDH (g:Guest):(zbu g).A=g.A:=by
 unfold zbu;cases ige g.Pc 12<;>rfl
@[simp] theorem zCC (g:Guest):(zbu g).Written=g.Written:=by
 unfold zbu;cases ige g.Pc 12<;>rfl
@[simp] theorem zDi (g:Guest):(zbu g).Live=g.Live:=by
 unfold zbu;cases ige g.Pc 12<;>rfl
@[simp] theorem zDv (g:Guest):(zbu g).Ctl=g.Ctl:=by
 unfold zbu;cases ige g.Pc 12<;>rfl
@[simp] theorem zCB (g:Guest):(zbu g).Pending=g.Pending:=by
 unfold zbu;cases ige g.Pc 12<;>rfl
@[simp] theorem zDh (g:Guest):(zbu g).Exit=g.Exit:=by
 unfold zbu;cases ige g.Pc 12<;>rfl
@[simp] theorem zCW (g:Guest):(zbu g).Halted=g.Halted:=by
 unfold zbu;cases ige g.Pc 12<;>rfl
@[simp] theorem zDk (g:Guest):(zbu g).Seen=g.Seen:=by
 unfold zbu;cases ige g.Pc 12<;>rfl
@[simp] theorem zDw (g:Guest)(x:Int):(zbu { g with A:=x }).Pc=(zbu g).Pc:=by
 unfold zbu;cases ige g.Pc 12<;>rfl
@[simp] theorem zxw {g:Guest}(h:SmG g):SmG (plainly g):=by
 have hm:=zgW h;unfold plainly;cases ine (zld g) 2
 ·cases win g.A 0 99
  ·exact hm
  ·cases win (zcV g.Prog g.Pc).X 0 99
   ·exact hm
   ·cases ieq (zcV g.Prog g.Pc).Op 1
    ·cases ieq (zcV g.Prog g.Pc).Op 2
     ·cases ieq (zcV g.Prog g.Pc).Op 8
      ·exact hm
      ·cases ieq g.A 0<;>exact hm
     ·exact hm
    ·exact hm
 ·exact h
def address (g:Guest):Int:=bif ine (zld g) 3 then (cond (ine (zld g) 4) (-1) ((zcV g.Prog g.Pc).X)) else (zcV g.Prog g.Pc).X
def zza (g:Guest)(t w:Int):Guest:=bif ieq w 6 then stopped g (zz7 (zcV g.Prog g.Pc).X) else (cond (ieq w 5&&zh2 t 1) (stopped g (zxY (zcV g.Prog g.Pc).X)) (cond (ieq w 7&&zh2 t 2) (stopped g ⟨4,0,false,0⟩) (cond (ieq w 7) (held g) (zbu g))))
def zBM (t w:Int):Bool:=bif ieq w 6 then false else (cond (ieq w 5&&zh2 t 1) false (cond (ieq w 7&&zh2 t 2) false true))
@[simp] theorem zsx {g:Guest}(t w:Int)(h:SmG g):SmG (zza g t w):=by
 unfold zza;cases ieq w 6
 ·cases (ieq w 5&&zh2 t 1)
  ·cases (ieq w 7&&zh2 t 2)
   ·cases ieq w 7
    ·exact zgW h
    ·exact zA0 h
   ·exact h
  ·exact h
 ·exact h
def zCH (b:Bare):Bool:=bif b.Guests.all zcf then (zeD b.Memory 8&&(win (ln b.Guests) 1 2&&(ile (ln b.Outs) 40&&zdF b.Pending))) else false
def zBB:zbg:=zBA
theorem zAz:∀f run,zf zBB f=some run->Holds Tryz.prog f run:=zAy
def zpl (b:Bare)(i:Int)(x:Guest):Bare:={ b with Guests:=up b.Guests i x }
def znq (b:Bare)(n:Int):Bare:=bif ilt (ln b.Outs) 40 then { b with Outs:=ap b.Outs [n] } else b
@[simp] theorem zgh {b:Bare}{i:Int}{x:Guest}(h:SmB b)(hx:SmG x):SmB (zpl b i x):=⟨h.1,zx4 h.2.1 hx,h.2.2⟩
@[simp] theorem zy4 {b:Bare}{n:Int}(h:SmB b):SmB (znq b n):=by
 unfold znq;cases h1:ilt (ln b.Outs) 40
 ·exact h
 ·have:=of_decide_eq_true h1;refine ⟨h.1,h.2.1,?_⟩;simp [ln] at *;omega
@[simp] theorem zDB (b:Bare)(n:Int):(znq b n).Guests=b.Guests:=by
 unfold znq;cases ilt (ln b.Outs) 40<;>rfl
@[simp] theorem zA1 {m:List (List Int)}{p c v:Int}(h:SmM m):SmM (zpr m p c v):=by
 unfold zpr;cases h1:zno m p c
 ·exact h
 ·cases h2:win v 0 99
  ·exact h
  ·exact zC5 h (by simpa using zC4 h ((zyB m p c).1 h1).1 [])
def zBC:zbg:=zBB
theorem zAA:∀f run,zf zBC f=some run->Holds Tryz.prog f run:=zAz
def znV (b:Bare)(g:Int)(x:Guest)(w:Bool):Bare :=
 bif zwe x.Live (zin (address x)) (zqo w) then
  (bif w then zpl { b with Memory:=zpr b.Memory (zz0 x.Live (zin (address x)) (zqo w)) (zt8 (address x)) x.A } g (zbu x)
  else zpl b g (loaded x (cellAt b.Memory (zz0 x.Live (zin (address x)) (zqo w)) (zt8 (address x)))))
 else zpl b g (stopped x (zzl (zin (address x)) w))
def zrY (b:Bare)(g:Int)(x:Guest)(w:Int):Bare :=
 zpl (cond (cond (zBM x.Ctl.Traps w) (ieq w 5) false) (znq b (zcV x.Prog x.Pc).X) b) g (zza x x.Ctl.Traps w)
def stepped (b:Bare)(g:Int)(x:Guest)(w:Int):Bare :=
 bif ieq w 1 then zpl b g (interrupted x) else (cond (ieq w 2) (zpl b g (plainly x)) (cond (ieq w 3) (znV b g x false) (cond (ieq w 4) (znV b g x true) (zrY b g x w))))
def zxE (b:Bare)(g:Int):Bool:=bif hasB g (ln b.Guests) then (cond (zCH b) (!ieq (zld (gAt b g)) 0) false) else false
def zuf (b:Bare)(g:Int):Bare:=bif zxE b g then stepped b g (gAt b g) (zld (gAt b g)) else b
@[simp] theorem zx2 {b:Bare}{g:Int}{x:Guest}{w:Bool}(h:SmB b)(hx:SmG x):SmB (znV b g x w):=by
 unfold znV;cases zwe x.Live (zin (address x)) (zqo w)
 ·exact zgh h hx
 ·cases w
  ·exact zgh h (zy5 _ hx)
  ·exact ⟨zA1 h.1,zx4 h.2.1 (zgW hx),h.2.2⟩
@[simp] theorem zCw {b:Bare}{g:Int}{x:Guest}{w:Int}(h:SmB b)(hx:SmG x):SmB (zrY b g x w):=by
 unfold zrY;cases (cond (zBM x.Ctl.Traps w) (ieq w 5) false)
 ·exact zgh h (zsx _ _ hx)
 ·exact zgh (zy4 h) (zsx _ _ hx)
@[simp] theorem zxv {b:Bare}{g:Int}{x:Guest}{w:Int}(h:SmB b)(hx:SmG x):SmB (stepped b g x w):=by
 unfold stepped;cases ieq w 1
 ·cases ieq w 2
  ·cases ieq w 3
   ·cases ieq w 4
    ·exact zCw h hx
    ·exact zx2 h hx
   ·exact zx2 h hx
  ·exact zgh h (zxw hx)
 ·exact zgh h (zCx hx)
@[simp] theorem zDD {b:Bare}{g:Int}(h:SmB b):SmB (zuf b g):=by
 unfold zuf;cases zxE b g
 ·exact h
 ·exact zxv h (zC2 g h)
def SmK (k:Kept):Prop:=k.Known.length<=1048576/\k.Slots.length<=1048576
def zCE (l:List Kept):Prop:=l.length<=1048576/\∀x∈l,SmK x
def zBe (m:Mon):Prop:=m.Outer.length<=1048576/\SmM m.Out/\m.Dirty.length<=1048576/\zoz m.Guests/\m.Outs.length<=1048576/\zCE m.Tables
def zzd (l:List Mon):Prop:=l.length<=1048576/\∀x∈l,zBe x
def SmH (h:Host):Prop:=SmM h.Memory/\zzd h.Mons/\h.Buffer.length<=1048576/\h.IoBuffer.length<=1048576
@[simp] theorem zB1 (k:Kept):(∀c∈Ty.cells .kept k,CVB sm c)↔SmK k:=by simp [Ty.cells,SmK,zA2]
@[simp] theorem zAE (l:List Kept):CVB sm (.s .kept l)↔zCE l:=by rw [zd9];simp only [zB1];rfl
@[simp] theorem zB2 (m:Mon):(∀c∈Ty.cells .mon m,CVB sm c)↔zBe m:=by
 simp only [Ty.cells,List.mem_cons,List.not_mem_nil,or_false,forall_eq_or_imp,forall_eq,zqR,zsi,zAE,zyp,zwl,zwk,zBF,and_true,true_and];rfl
@[simp] theorem zB8 (l:List Mon):CVB sm (.s .mon l)↔zzd l:=by rw [zd9];simp only [zB2];rfl
@[simp] theorem zDq (h:Host):zdl h↔SmH h:=by
 unfold zdl;simp only [zbn,List.mem_cons,List.not_mem_nil,or_false,forall_eq_or_imp,forall_eq,zqR,zB8,zut];rfl
def zBx:zbg:=zBC
theorem zAv:∀f run,zf zBx f=some run->Holds Tryz.prog f run:=zAA
def ztT:zbg:=zBx
theorem zoJ:∀f run,zf ztT f=some run->Holds Tryz.prog f run:=zAv
def allI {α:Type}(p:Nat->α->Bool):List α->Nat->Bool
 | [],_=>true
 | x :: l,i=>p i x&&allI p l (i+1)
theorem zoP {α ρ:Type}(p:Nat->α->Bool)(r:Option ρ)(K:Unit->Option ρ):∀(l:List α) (i:Nat),goL (fun i x (_:Unit) k=>bif p i x then k () else r) K l i ()=bif allI p l i then K () else r
 | [],_=>rfl
 | x :: l,i=>by
  simp only [goL,allI];cases p i x
  ·rfl
  ·simp only [cT,Bool.true_and];exact zoP p r K l (i+1)
theorem zse {α:Type}(q:α->Bool)(l:List α)(d:α):∀(n i:Nat),i+n<=l.length->zgZ (fun j=>q (ix l (j:Int) d)) n i=((l.drop i).take n).all q
 | 0,i,_=>by simp [zgZ]
 | n+1,i,h=>by
  have hi:i<l.length:=by omega
  rw [List.drop_eq_getElem_cons hi,List.take_succ_cons,List.all_cons,<- zse q l d n (i+1) (by omega)]
  simp only [zgZ,zbd hi]
def sameKey (a b:Entry):Bool:=bif ieq a.Tag b.Tag then ieq a.Page b.Page else false
def alone (l:List Entry)(i:Nat)(x:Entry):Bool:=(l.take i).all fun y=>!sameKey x y
def znG (l:List Entry):Bool:=bif allI (alone l) l 0 then ile (ln l) 6 else false
theorem zAM {α:Type}{l:List α}{i:Nat}(h:i<=l.length):inr 0 (i:Int) (ln l)=true:=decide_eq_true (by simp only [ln];omega)
@[simp,reducible] def zfg (l:List Entry):Bool:=true
@[simp,reducible] def zff (l:List Entry):Bool:=znG l
def zfZ:List AV->Option (Bool×List AV)
 | [.one (.s .entry c)]=>some ((zfg c),[.one (.b (zff c))])
 | _=>none
def zia (N:Nat)(a0:List Entry):Option Ans :=
 (iter (σ:=(Int×(Int×((List Entry)×Unit)))) N (fun r2 s3=>(cond (ilt s3.2.1 s3.1) (cond (inb s3.2.1 (ln s3.2.2.1)) (cond (inr 0 s3.2.1 (ln s3.2.2.1)) (iter (σ:=(Int×(Int×(Int×(Int×(Int×(Int×(Int×(Int×((List Entry)×((List Entry)×Unit))))))))))) N (fun r4 s5=>(cond (ilt s5.2.2.2.1 s5.2.2.1) (cond (inb s5.2.2.2.1 (ln s5.2.2.2.2.2.2.2.2.2.1)) (cond (ieq s5.2.2.2.2.1 (ix s5.2.2.2.2.2.2.2.2.2.1 s5.2.2.2.1 zq).Tag) (cond (ieq s5.2.2.2.2.2.1 (ix s5.2.2.2.2.2.2.2.2.2.1 s5.2.2.2.1 zq).Page) (some [(.one (.b false))]) (r4 (s5.1,(s5.2.1,(s5.2.2.1,((zW .i64 s5.2.2.2.1 1),(s5.2.2.2.2.1,(s5.2.2.2.2.2.1,(s5.2.2.2.2.2.2.1,(s5.2.2.2.2.2.2.2.1,(s5.2.2.2.2.2.2.2.2.1,(s5.2.2.2.2.2.2.2.2.2.1,())))))))))))) (r4 (s5.1,(s5.2.1,(s5.2.2.1,((zW .i64 s5.2.2.2.1 1),(s5.2.2.2.2.1,(s5.2.2.2.2.2.1,(s5.2.2.2.2.2.2.1,(s5.2.2.2.2.2.2.2.1,(s5.2.2.2.2.2.2.2.2.1,(s5.2.2.2.2.2.2.2.2.2.1,())))))))))))) none) (r2 (s5.1,((zW .i64 s5.2.1 1),(s5.2.2.2.2.2.2.2.2.1,())))))) (s3.1,(s3.2.1,((ln (tk s3.2.2.1 s3.2.1)),(0,((ix s3.2.2.1 s3.2.1 zq).Tag,((ix s3.2.2.1 s3.2.1 zq).Page,((ix s3.2.2.1 s3.2.1 zq).Host,((ix s3.2.2.1 s3.2.1 zq).Rights,(s3.2.2.1,((tk s3.2.2.1 s3.2.1),()))))))))))) none) none) (some [(.one (.b (ile (ln s3.2.2.1) 6)))]))) ((ln a0),(0,(a0,()))))
def zr2:FuncId->Nat->Option Tmpl:=zx [(43,0,{ n:=39,tm:=[(0,.sl 0 []),(7,.sl 0 []),(8,.i .i64),(9,.i .i64)],lo:=[],ro:=[(0,.entry,false)] }),(43,2,{ n:=39,tm:=[(0,.sl 0 []),(4,.lp 0 0),(7,.sl 0 []),(8,.i .i64),(9,.i .i64),(16,.sl 1 []),(17,.i .i64),(18,.i .i64)],lo:=[(0,[.i .i64,.i .i64,.i .i64,.i .i64])],ro:=[(0,.entry,false),(1,.entry,false)] })]
theorem ztj (N:Nat)(a0:List Entry):evalFn (cQ ztT zbZ zK zL) zr2 N 12 43 [.one (.s .entry a0)]=zia N a0:=by kernel_rfl
theorem zrE (a0:List Entry)(hb:zF big [.one (.s .entry a0)])(hc:(zfg a0)=true):∃N,zia N a0=some [.one (.b (zff a0))]:=by
 have hl:=((zM hb).1 _ (List.mem_singleton.2 rfl)).len;refine ⟨NN,?_⟩;have hNN:∀{n:Nat},n<=big->n<NN:=fun h=>zcs h;generalize NN=N at hNN ⊢;unfold zia;refine (zbj a0 (fun i (t:Unit)=>((ln a0),(i:Int),a0,())) _ (fun i (x:Entry) (_:Unit) κ=>bif alone a0 i x then κ () else some [AV.one (.b false)]) (fun (t:Unit)=>(some [(.one (.b (ile (ln a0) 6)))])) (fun i hi t rec=>?_) (fun t rec=>?_) _ () (hNN hl)).trans ?_
 ·simp only [zbo hi,zU hi,zbd hi,zZ hi hl,cT];rw [zAM (Nat.le_of_lt hi),cT];have hk:(tk a0 (i:Int)).length<=big:=Nat.le_trans (by simp [tk];omega) hl
  refine (zbj (tk a0 (i:Int)) (fun j (u:Unit)=>((ln a0),(i:Int),(ln (tk a0 (i:Int))),(j:Int),a0[i].Tag,a0[i].Page,a0[i].Host,a0[i].Rights,a0,(tk a0 (i:Int)),())) _ (fun _ (y:Entry) (_:Unit) κ=>bif !sameKey a0[i] y then κ () else some [AV.one (.b false)]) (fun (u:Unit)=>(rec ((ln a0),((((i+1:Nat)):Int),(a0,()))))) (fun j hj u rec1=>?_) (fun u rec1=>?_) _ () (hNN hk)).trans ?_
  ·simp only [zbo hj,zU hj,zbd hj,zZ hj hk,cT,zZ hi hl];unfold sameKey;cases ieq a0[i].Tag (tk a0 (i:Int))[j].Tag<;>cases ieq a0[i].Page (tk a0 (i:Int))[j].Page<;>rfl
  ·simp only [zbe,cF,zZ hi hl]
  rw [zce (fun y=>!sameKey a0[i] y)];rfl
 ·simp only [zbe,cF]
 rw [zoP (alone a0)];unfold zff znG;cases allI (alone a0) a0 0<;>rfl
theorem zoR:Holds Tryz.prog 43 zfZ:=zk zoJ zbs zl zn (zA (by kernel_rfl)) fun avs rs hb h=>by
 unfold zfZ at h;split at h
 ·obtain ⟨hc,rfl⟩:=zh h;exact (fin1 zrE ztj hc hb :)
 ·cases h
@[simp,reducible] def zfC (l:List Entry):Bool:=true
@[simp,reducible] def zfB (l:List Entry):Bool:=znG l
def zf9:List AV->Option (Bool×List AV)
 | [.one (.s .entry c)]=>some ((zfC c),[.one (.b (zfB c))])
 | _=>none
def zik (N:Nat)(a0:List Entry):Option Ans :=
 (iter (σ:=(Int×((List Entry)×Unit))) N (fun r2 s3=>(cond (ilt s3.1 (ln s3.2.1)) (iter (σ:=(Int×(Int×((List Entry)×Unit)))) N (fun r4 s5=>(cond (ilt s5.2.1 s5.1) (cond (inb s5.1 (ln s5.2.2.1)) (cond (inb s5.2.1 (ln s5.2.2.1)) (cond (ieq (ix s5.2.2.1 s5.1 zq).Tag (ix s5.2.2.1 s5.2.1 zq).Tag) (cond (inb s5.1 (ln s5.2.2.1)) (cond (inb s5.2.1 (ln s5.2.2.1)) (cond (ieq (ix s5.2.2.1 s5.1 zq).Page (ix s5.2.2.1 s5.2.1 zq).Page) (some [(.one (.b false))]) (r4 (s5.1,((zW .i64 s5.2.1 1),(s5.2.2.1,()))))) none) none) (r4 (s5.1,((zW .i64 s5.2.1 1),(s5.2.2.1,()))))) none) none) (r2 ((zW .i64 s5.1 1),(s5.2.2.1,()))))) (s3.1,(0,(s3.2.1,())))) (some [(.one (.b (ile (ln s3.2.1) 6)))]))) (0,(a0,())))
def zr8:FuncId->Nat->Option Tmpl:=zx [(30,0,{ n:=43,tm:=[(0,.sl 0 []),(3,.i .i64)],lo:=[],ro:=[(0,.entry,false)] }),(30,2,{ n:=43,tm:=[(0,.sl 0 []),(3,.i .i64),(4,.i .i64)],lo:=[],ro:=[(0,.entry,false)] })]
theorem ztt (N:Nat)(a0:List Entry):evalFn (cQ ztT zbZ zK zL) zr8 N 12 30 [.one (.s .entry a0)]=zik N a0:=by kernel_rfl
theorem zrO (a0:List Entry)(hb:zF big [.one (.s .entry a0)])(hc:(zfC a0)=true):∃N,zik N a0=some [.one (.b (zfB a0))]:=by
 have hl:=((zM hb).1 _ (List.mem_singleton.2 rfl)).len;refine ⟨NN,?_⟩;have hNN:∀{n:Nat},n<=big->n<NN:=fun h=>zcs h;generalize NN=N at hNN ⊢;unfold zik;refine (zbj a0 (fun i (t:Unit)=>((i:Int),a0,())) _ (fun i (x:Entry) (_:Unit) κ=>bif alone a0 i x then κ () else some [AV.one (.b false)]) (fun (t:Unit)=>(some [(.one (.b (ile (ln a0) 6)))])) (fun i hi t rec=>?_) (fun t rec=>?_) _ () (hNN hl)).trans ?_
 ·simp only [zbo hi,zU hi,zbd hi,zZ hi hl,cT];refine (zo6 i (fun (j:Nat) (_:Unit)=>((i:Int),((j:Int),(a0,())))) _ (fun j (_:Unit) κ=>bif !sameKey a0[i] (ix a0 (j:Int) zq) then κ () else some [AV.one (.b false)]) (fun _=>rec (((i+1:Nat):Int),(a0,()))) (fun j hj u rec1=>?_) (fun u rec1=>?_) _ () (hNN (by omega))).trans ?_
  ·have hj2:j<a0.length:=by omega
   simp only [show ilt (j:Int) (i:Int)=true from decide_eq_true (by omega),zU hi,zU hj2,zbd hi,zZ hj2 hl,cT]
   unfold sameKey;cases ieq a0[i].Tag (ix a0 (j:Int) zq).Tag<;>cases ieq a0[i].Page (ix a0 (j:Int) zq).Page<;>rfl
  ·simp only [show ilt (i:Int) (i:Int)=false from decide_eq_false (by omega),zZ hi hl,cF]
  rw [zh1 (fun j=>!sameKey a0[i] (ix a0 (j:Int) zq)),zse (fun y=>!sameKey a0[i] y) a0 _ i 0 (by omega)]
  rfl
 ·simp only [zbe,cF]
 rw [zoP (alone a0)];unfold zfB znG;cases allI (alone a0) a0 0<;>rfl
theorem zo1:Holds Tryz.prog 30 zf9:=zk zoJ zbs zl zn (zA (by kernel_rfl)) fun avs rs hb h=>by
 unfold zf9 at h;split at h
 ·obtain ⟨hc,rfl⟩:=zh h;exact (fin1 zrO ztt hc hb :)
 ·cases h
def ztU:zbg:=[(30,zf9),(43,zfZ)]++ztT
theorem zoK:zbl ztU:=zi zo1 (zi zoR zoJ)
theorem zrB (a b:Int):igt a b = !ile a b:=by
 unfold igt ile
 by_cases h:a<=b
 ·rw [decide_eq_true h,decide_eq_false (by omega)];rfl
 ·rw [decide_eq_false h,decide_eq_true (by omega)];rfl
theorem stB {c M:Bool}{E:Option Ans}(h:c=true->E=some [AV.one (.b M)]):(cond (cond c false true) (some [AV.one (.b false)]) E)=some [AV.one (.b (cond c M false))]:=by
 cases c
 ·rfl
 ·exact h rfl
theorem stI {a b:Int}{M:Bool}{E:Option Ans}(h:ieq a b=true->E=some [AV.one (.b M)]):(cond (ine a b) (some [AV.one (.b false)]) E)=some [AV.one (.b (cond (ieq a b) M false))]:=by
 rw [zCf];cases hh:ieq a b
 ·rfl
 ·exact h hh
theorem stG {a b:Int}{M:Bool}{E:Option Ans}(h:ile a b=true->E=some [AV.one (.b M)]):(cond (igt a b) (some [AV.one (.b false)]) E)=some [AV.one (.b (cond (ile a b) M false))]:=by
 rw [zrB];cases hh:ile a b
 ·rfl
 ·exact h hh
def zrW (s:Slot)(p:List Int):Bool:=bif zcm s noSlot then zck p else (cond (enough s.Rights 1) (ile (ln p) 0) false)
def fits (m:Mon)(j:Nat):Bool:=zrW (ix m.Outer (j:Int) zB) (ix m.Out (j:Int) [])
def zcW (m:Mon):Bool:=bif win (ln m.Guests) 1 2 then (cond (ieq (ln m.Tables) (ln m.Guests)) (cond (zbQ m.Outer 8 12) (cond (ieq (ln m.Out) 8) (cond (ieq (ln m.Dirty) 8) (cond (ile (ln m.Outs) 40) (cond (zdF m.Pending) (cond (win m.Traps 0 3) (cond (win m.Own 0 1000000000) (cond (m.Guests.all zcf) (zgZ (fits m) 8 0) false) false) false) false) false) false) false) false) false) else false
theorem zjS {t:List Slot}{n p:Int}(h:zbQ t n p=true):ln t=n:=by
 unfold zbQ at h;cases h1:t.all (fun s=>zcU s p)
 ·rw [h1] at h;cases h
 ·rw [h1] at h;exact of_decide_eq_true h
@[simp,reducible] def zgO (m:Mon):Bool:=true
@[simp,reducible] def zh3 (m:Mon):Bool:=zcW m
def zkm:List AV->Option (Bool×List AV)
 | [.agg [.s .slot c,.s (.sl .int) d,.s .bool e,.s .guest f,.s .int g,.i .i64 h,.i .i64 j,.s .kept k,.i .i64 l]]=>some ((zgO (⟨c,d,e,f,g,h,j,k,l⟩:Mon)),[.one (.b (zh3 (⟨c,d,e,f,g,h,j,k,l⟩:Mon)))])
 | _=>none
def zmA (N:Nat)(a0:Mon):Option Ans :=
 (cond (zH (ln a0.Guests) 1 2) (cond (cond (zN (ln a0.Guests) 1 2) false true) (some [(.one (.b false))]) (cond (ine (ln a0.Tables) (ln a0.Guests)) (some [(.one (.b false))]) (cond (zev a0.Outer 8 12) (cond (cond (zc2 a0.Outer 8 12) false true) (some [(.one (.b false))]) (cond (ine (ln a0.Out) 8) (some [(.one (.b false))]) (cond (ine (ln a0.Dirty) 8) (some [(.one (.b false))]) (cond (igt (ln a0.Outs) 40) (some [(.one (.b false))]) (cond (zhB a0.Pending) (cond (cond (zfT a0.Pending) false true) (some [(.one (.b false))]) (cond (zH a0.Traps 0 3) (cond (cond (zN a0.Traps 0 3) false true) (some [(.one (.b false))]) (cond (zH a0.Own 0 1000000000) (cond (cond (zN a0.Own 0 1000000000) false true) (some [(.one (.b false))]) (iter (σ:=(Int×(Int×(Int×(Int×(Int×((List Guest)×((List Slot)×((List (List Int))×((List Bool)×((List Int)×((List Kept)×Unit)))))))))))) N (fun r2 s3=>(cond (ilt s3.2.1 s3.1) (cond (inb s3.2.1 (ln s3.2.2.2.2.2.1)) (cond (zgo (ix s3.2.2.2.2.2.1 s3.2.1 zbq)) (cond (cond (zeW (ix s3.2.2.2.2.2.1 s3.2.1 zbq)) false true) (some [(.one (.b false))]) (r2 (s3.1,((zW .i64 s3.2.1 1),(s3.2.2.1,(s3.2.2.2.1,(s3.2.2.2.2.1,(s3.2.2.2.2.2.1,(s3.2.2.2.2.2.2.1,(s3.2.2.2.2.2.2.2.1,(s3.2.2.2.2.2.2.2.2.1,(s3.2.2.2.2.2.2.2.2.2.1,(s3.2.2.2.2.2.2.2.2.2.2.1,()))))))))))))) none) none) (iter (σ:=(Int×(Int×(Int×(Int×(Int×((List Slot)×((List (List Int))×((List Bool)×((List Guest)×((List Int)×((List Kept)×Unit)))))))))))) N (fun r4 s5=>(cond (ilt s5.2.1 s5.1) (cond (inb s5.2.1 (ln s5.2.2.2.2.2.1)) (cond zbO (cond (cond (ieq (ix s5.2.2.2.2.2.1 s5.2.1 zB).Page zby.Page) (ieq (ix s5.2.2.2.2.2.1 s5.2.1 zB).Rights zby.Rights) false) (cond (inb s5.2.1 (ln s5.2.2.2.2.2.2.1)) (cond (zed (ix s5.2.2.2.2.2.2.1 s5.2.1 [])) (cond (cond (zde (ix s5.2.2.2.2.2.2.1 s5.2.1 [])) false true) (some [(.one (.b false))]) (r4 (s5.1,((zW .i64 s5.2.1 1),(s5.2.2.1,(s5.2.2.2.1,(s5.2.2.2.2.1,(s5.2.2.2.2.2.1,(s5.2.2.2.2.2.2.1,(s5.2.2.2.2.2.2.2.1,(s5.2.2.2.2.2.2.2.2.1,(s5.2.2.2.2.2.2.2.2.2.1,(s5.2.2.2.2.2.2.2.2.2.2.1,()))))))))))))) none) none) (cond (zec (ix s5.2.2.2.2.2.1 s5.2.1 zB).Rights 1) (cond (cond (zd0 (ix s5.2.2.2.2.2.1 s5.2.1 zB).Rights 1) false true) (some [(.one (.b false))]) (cond (inb s5.2.1 (ln s5.2.2.2.2.2.2.1)) (cond (igt (ln (ix s5.2.2.2.2.2.2.1 s5.2.1 [])) 0) (some [(.one (.b false))]) (r4 (s5.1,((zW .i64 s5.2.1 1),(s5.2.2.1,(s5.2.2.2.1,(s5.2.2.2.2.1,(s5.2.2.2.2.2.1,(s5.2.2.2.2.2.2.1,(s5.2.2.2.2.2.2.2.1,(s5.2.2.2.2.2.2.2.2.1,(s5.2.2.2.2.2.2.2.2.2.1,(s5.2.2.2.2.2.2.2.2.2.2.1,()))))))))))))) none)) none)) none) none) (some [(.one (.b true))]))) ((ln s3.2.2.2.2.2.2.1),(0,(s3.2.2.1,(s3.2.2.2.1,(s3.2.2.2.2.1,(s3.2.2.2.2.2.2.1,(s3.2.2.2.2.2.2.2.1,(s3.2.2.2.2.2.2.2.2.1,(s3.2.2.2.2.2.1,(s3.2.2.2.2.2.2.2.2.2.1,(s3.2.2.2.2.2.2.2.2.2.2.1,())))))))))))))) ((ln a0.Guests),(0,(a0.Pending,(a0.Traps,(a0.Own,(a0.Guests,(a0.Outer,(a0.Out,(a0.Dirty,(a0.Outs,(a0.Tables,()))))))))))))) none)) none)) none))))) none))) none)
def zxy:FuncId->Nat->Option Tmpl:=zx [(44,0,{ n:=106,tm:=[(1,.lp 0 0),(64,.sl 0 []),(65,.i .i64),(66,.i .i64)],lo:=[(0,[.sl 1 [],.sl 2 [],.sl 3 [],.sl 0 [],.sl 4 [],.i .i64,.i .i64,.sl 5 [],.i .i64])],ro:=[(0,.guest,false),(1,.slot,false),(2,(.sl .int),false),(3,.bool,false),(4,.int,false),(5,.kept,false)] }),(44,2,{ n:=106,tm:=[(1,.lp 0 0),(75,.sl 0 []),(76,.i .i64),(77,.i .i64)],lo:=[(0,[.sl 0 [],.sl 1 [],.sl 2 [],.sl 3 [],.sl 4 [],.i .i64,.i .i64,.sl 5 [],.i .i64])],ro:=[(0,.slot,false),(1,(.sl .int),false),(2,.bool,false),(3,.guest,false),(4,.int,false),(5,.kept,false)] })]
theorem zyH (N:Nat)(a0:Mon):evalFn (cQ ztU zbZ zK zL) zxy N 12 44 [.agg (Ty.cells .mon a0)]=zmA N a0:=by kernel_rfl
theorem zwv (a0:Mon)(hb:zF big [.agg (Ty.cells .mon a0)])(hc:(zgO a0)=true):∃N,zmA N a0=some [.one (.b (zh3 a0))]:=by
 have hg:a0.Guests.length<=big:=((zM hb).1 (.s .guest a0.Guests) (by simp [AV.cvs,Ty.cells])).len
 have ho:a0.Outer.length<=big:=((zM hb).1 (.s .slot a0.Outer) (by simp [AV.cvs,Ty.cells])).len
 refine ⟨NN,?_⟩;have hNN:∀{n:Nat},n<=big->n<NN:=fun h=>zcs h;generalize NN=N at hNN ⊢;unfold zmA zh3 zcW;refine must rfl (stB fun h0=>stI fun h1=>must rfl (stB fun h2=>stI fun h3=>stI fun h4=>stG fun h5=>must rfl (stB fun h6=>must rfl (stB fun h7=>must rfl (stB fun h8=>?_)))));have e1:=zjS h2;have e3:ln a0.Out=8:=of_decide_eq_true h3;simp only [ln] at e1 e3;refine (zbj a0.Guests (fun i (t:Unit)=>((ln a0.Guests),(i:Int),a0.Pending,a0.Traps,a0.Own,a0.Guests,a0.Outer,a0.Out,a0.Dirty,a0.Outs,a0.Tables,())) _ (fun _ (x:Guest) (_:Unit) κ=>bif zcf x then κ () else some [AV.one (.b false)]) (fun (t:Unit)=>(iter (σ:=(Int×(Int×(Int×(Int×(Int×((List Slot)×((List (List Int))×((List Bool)×((List Guest)×((List Int)×((List Kept)×Unit)))))))))))) N (fun r4 s5=>(cond (ilt s5.2.1 s5.1) (cond (inb s5.2.1 (ln s5.2.2.2.2.2.1)) (cond zbO (cond (cond (ieq (ix s5.2.2.2.2.2.1 s5.2.1 zB).Page zby.Page) (ieq (ix s5.2.2.2.2.2.1 s5.2.1 zB).Rights zby.Rights) false) (cond (inb s5.2.1 (ln s5.2.2.2.2.2.2.1)) (cond (zed (ix s5.2.2.2.2.2.2.1 s5.2.1 [])) (cond (cond (zde (ix s5.2.2.2.2.2.2.1 s5.2.1 [])) false true) (some [(.one (.b false))]) (r4 (s5.1,((zW .i64 s5.2.1 1),(s5.2.2.1,(s5.2.2.2.1,(s5.2.2.2.2.1,(s5.2.2.2.2.2.1,(s5.2.2.2.2.2.2.1,(s5.2.2.2.2.2.2.2.1,(s5.2.2.2.2.2.2.2.2.1,(s5.2.2.2.2.2.2.2.2.2.1,(s5.2.2.2.2.2.2.2.2.2.2.1,()))))))))))))) none) none) (cond (zec (ix s5.2.2.2.2.2.1 s5.2.1 zB).Rights 1) (cond (cond (zd0 (ix s5.2.2.2.2.2.1 s5.2.1 zB).Rights 1) false true) (some [(.one (.b false))]) (cond (inb s5.2.1 (ln s5.2.2.2.2.2.2.1)) (cond (igt (ln (ix s5.2.2.2.2.2.2.1 s5.2.1 [])) 0) (some [(.one (.b false))]) (r4 (s5.1,((zW .i64 s5.2.1 1),(s5.2.2.1,(s5.2.2.2.1,(s5.2.2.2.2.1,(s5.2.2.2.2.2.1,(s5.2.2.2.2.2.2.1,(s5.2.2.2.2.2.2.2.1,(s5.2.2.2.2.2.2.2.2.1,(s5.2.2.2.2.2.2.2.2.2.1,(s5.2.2.2.2.2.2.2.2.2.2.1,()))))))))))))) none)) none)) none) none) (some [(.one (.b true))]))) ((ln a0.Outer),(0,(a0.Pending,(a0.Traps,(a0.Own,(a0.Outer,(a0.Out,(a0.Dirty,(a0.Guests,(a0.Outs,(a0.Tables,()))))))))))))) (fun i hi t rec=>?_) (fun t rec=>?_) _ () (hNN hg)).trans ?_
 ·simp only [zbo hi,zU hi,zbd hi,zZ hi hg,cT];simp only [zgo,zeW,cT];cases zcf a0.Guests[i]<;>rfl
 ·simp only [zbe,cF]
 rw [zce zcf];cases a0.Guests.all zcf
 ·rfl
 simp only [cT];refine (zbj a0.Outer (fun j (u:Unit)=>((ln a0.Outer),(j:Int),a0.Pending,a0.Traps,a0.Own,a0.Outer,a0.Out,a0.Dirty,a0.Guests,a0.Outs,a0.Tables,())) _ (fun j (_:Slot) (_:Unit) κ=>bif fits a0 j then κ () else some [AV.one (.b false)]) (fun (u:Unit)=>(some [(.one (.b true))])) (fun j hj u rec1=>?_) (fun u rec1=>?_) _ () (hNN ho)).trans ?_
 ·simp only [zbo hj,zU hj,zbd hj,zZ hj ho,cT];have hj2:j<a0.Out.length:=by omega
  simp only [zbO,zby,zed,zde,zec,zd0,zU hj2,zrB,cT];unfold fits zrW;simp only [zbd hj,zcm];cases ieq a0.Outer[j].Page noSlot.Page<;>cases ieq a0.Outer[j].Rights noSlot.Rights<;>cases enough a0.Outer[j].Rights 1<;>cases ile (ln (ix a0.Out (j:Int) [])) 0<;>cases zck (ix a0.Out (j:Int) [])<;>rfl
 ·simp only [zbe,cF]
 rw [znQ (fun j (_:Unit) κ=>bif fits a0 j then κ () else some [AV.one (.b false)]),zh1 (fits a0),show a0.Outer.length=8 by omega]
 cases zgZ (fits a0) 8 0<;>rfl
theorem zsF:Holds Tryz.prog 44 zkm:=zk zoK zbs zl zn (zA (by kernel_rfl)) fun avs rs hb h=>by
 unfold zkm at h;split at h
 ·obtain ⟨hc,rfl⟩:=zh h;exact (fin1 zwv zyH hc hb :)
 ·cases h
@[simp,reducible] def zgV (m:Mon):Bool:=true
@[simp,reducible] def zh8 (m:Mon):Bool:=zcW m
def zky:List AV->Option (Bool×List AV)
 | [.agg [.s .slot c,.s (.sl .int) d,.s .bool e,.s .guest f,.s .int g,.i .i64 h,.i .i64 j,.s .kept k,.i .i64 l]]=>some ((zgV (⟨c,d,e,f,g,h,j,k,l⟩:Mon)),[.one (.b (zh8 (⟨c,d,e,f,g,h,j,k,l⟩:Mon)))])
 | _=>none
def zmL (N:Nat)(a0:Mon):Option Ans :=
 (cond (zC (ln a0.Guests) 1 2) (cond (cond (zJ (ln a0.Guests) 1 2) false true) (some [(.one (.b false))]) (cond (ine (ln a0.Tables) (ln a0.Guests)) (some [(.one (.b false))]) (cond (zex a0.Outer 8 12) (cond (cond (zdb a0.Outer 8 12) false true) (some [(.one (.b false))]) (cond (ine (ln a0.Out) 8) (some [(.one (.b false))]) (cond (ine (ln a0.Dirty) 8) (some [(.one (.b false))]) (iter (σ:=(Int×(Int×(Int×(Int×((List Slot)×((List (List Int))×((List Bool)×((List Guest)×((List Int)×((List Kept)×Unit))))))))))) N (fun r2 s3=>(cond (ilt s3.1 (ln s3.2.2.2.2.2.2.2.1)) (cond (inb s3.1 (ln s3.2.2.2.2.2.2.2.1)) (cond (zgE (ix s3.2.2.2.2.2.2.2.1 s3.1 zbq)) (cond (cond (ze1 (ix s3.2.2.2.2.2.2.2.1 s3.1 zbq)) false true) (some [(.one (.b false))]) (r2 ((zW .i64 s3.1 1),(s3.2.1,(s3.2.2.1,(s3.2.2.2.1,(s3.2.2.2.2.1,(s3.2.2.2.2.2.1,(s3.2.2.2.2.2.2.1,(s3.2.2.2.2.2.2.2.1,(s3.2.2.2.2.2.2.2.2.1,(s3.2.2.2.2.2.2.2.2.2.1,())))))))))))) none) none) (iter (σ:=(Int×(Int×(Int×(Int×((List Slot)×((List (List Int))×((List Bool)×((List Guest)×((List Int)×((List Kept)×Unit))))))))))) N (fun r4 s5=>(cond (ilt s5.1 8) (cond (inb s5.1 (ln s5.2.2.2.2.1)) (cond zbP (cond (cond (cond (ieq (ix s5.2.2.2.2.1 s5.1 zB).Page zbh.Page) (ieq (ix s5.2.2.2.2.1 s5.1 zB).Rights zbh.Rights) false) false true) (cond (inb s5.1 (ln s5.2.2.2.2.2.1)) (cond (igt (ln (ix s5.2.2.2.2.2.1 s5.1 [])) 0) (some [(.one (.b false))]) (cond (inb s5.1 (ln s5.2.2.2.2.1)) (cond (zel (ix s5.2.2.2.2.1 s5.1 zB).Rights 1) (cond (cond (zd7 (ix s5.2.2.2.2.1 s5.1 zB).Rights 1) false true) (some [(.one (.b false))]) (cond (cond (cond (cond (ieq (ix s5.2.2.2.2.1 s5.1 zB).Page zbh.Page) (ieq (ix s5.2.2.2.2.1 s5.1 zB).Rights zbh.Rights) false) false true) false true) (cond (inb s5.1 (ln s5.2.2.2.2.2.1)) (cond (zda (ix s5.2.2.2.2.2.1 s5.1 [])) (cond (cond (zcA (ix s5.2.2.2.2.2.1 s5.1 [])) false true) (some [(.one (.b false))]) (r4 ((zW .i64 s5.1 1),(s5.2.1,(s5.2.2.1,(s5.2.2.2.1,(s5.2.2.2.2.1,(s5.2.2.2.2.2.1,(s5.2.2.2.2.2.2.1,(s5.2.2.2.2.2.2.2.1,(s5.2.2.2.2.2.2.2.2.1,(s5.2.2.2.2.2.2.2.2.2.1,())))))))))))) none) none) (r4 ((zW .i64 s5.1 1),(s5.2.1,(s5.2.2.1,(s5.2.2.2.1,(s5.2.2.2.2.1,(s5.2.2.2.2.2.1,(s5.2.2.2.2.2.2.1,(s5.2.2.2.2.2.2.2.1,(s5.2.2.2.2.2.2.2.2.1,(s5.2.2.2.2.2.2.2.2.2.1,()))))))))))))) none) none)) none) (cond (cond (cond (cond (ieq (ix s5.2.2.2.2.1 s5.1 zB).Page zbh.Page) (ieq (ix s5.2.2.2.2.1 s5.1 zB).Rights zbh.Rights) false) false true) false true) (cond (inb s5.1 (ln s5.2.2.2.2.2.1)) (cond (zda (ix s5.2.2.2.2.2.1 s5.1 [])) (cond (cond (zcA (ix s5.2.2.2.2.2.1 s5.1 [])) false true) (some [(.one (.b false))]) (r4 ((zW .i64 s5.1 1),(s5.2.1,(s5.2.2.1,(s5.2.2.2.1,(s5.2.2.2.2.1,(s5.2.2.2.2.2.1,(s5.2.2.2.2.2.2.1,(s5.2.2.2.2.2.2.2.1,(s5.2.2.2.2.2.2.2.2.1,(s5.2.2.2.2.2.2.2.2.2.1,())))))))))))) none) none) (r4 ((zW .i64 s5.1 1),(s5.2.1,(s5.2.2.1,(s5.2.2.2.1,(s5.2.2.2.2.1,(s5.2.2.2.2.2.1,(s5.2.2.2.2.2.2.1,(s5.2.2.2.2.2.2.2.1,(s5.2.2.2.2.2.2.2.2.1,(s5.2.2.2.2.2.2.2.2.2.1,()))))))))))))) none) none) (cond (ile (ln s5.2.2.2.2.2.2.2.2.1) 40) (cond (zdE s5.2.1) (cond (zdD s5.2.1) (cond (zC s5.2.2.1 0 3) (cond (zJ s5.2.2.1 0 3) (cond (zC s5.2.2.2.1 0 1000000000) (some [(.one (.b (zJ s5.2.2.2.1 0 1000000000)))]) none) (some [(.one (.b false))])) none) (some [(.one (.b false))])) none) (some [(.one (.b false))])))) (0,(s3.2.1,(s3.2.2.1,(s3.2.2.2.1,(s3.2.2.2.2.1,(s3.2.2.2.2.2.1,(s3.2.2.2.2.2.2.1,(s3.2.2.2.2.2.2.2.1,(s3.2.2.2.2.2.2.2.2.1,(s3.2.2.2.2.2.2.2.2.2.1,()))))))))))))) (0,(a0.Pending,(a0.Traps,(a0.Own,(a0.Outer,(a0.Out,(a0.Dirty,(a0.Guests,(a0.Outs,(a0.Tables,())))))))))))))) none))) none)
def zxA:FuncId->Nat->Option Tmpl:=zx [(31,0,{ n:=115,tm:=[(1,.lp 0 0),(3,.i .i64)],lo:=[(0,[.sl 0 [],.sl 1 [],.sl 2 [],.sl 3 [],.sl 4 [],.i .i64,.i .i64,.sl 5 [],.i .i64])],ro:=[(0,.slot,false),(1,(.sl .int),false),(2,.bool,false),(3,.guest,false),(4,.int,false),(5,.kept,false)] }),(31,2,{ n:=115,tm:=[(1,.lp 0 0),(4,.i .i64)],lo:=[(0,[.sl 0 [],.sl 1 [],.sl 2 [],.sl 3 [],.sl 4 [],.i .i64,.i .i64,.sl 5 [],.i .i64])],ro:=[(0,.slot,false),(1,(.sl .int),false),(2,.bool,false),(3,.guest,false),(4,.int,false),(5,.kept,false)] })]
theorem zyT (N:Nat)(a0:Mon):evalFn (cQ ztU zbZ zK zL) zxA N 12 31 [.agg (Ty.cells .mon a0)]=zmL N a0:=by kernel_rfl
theorem zwH (a0:Mon)(hb:zF big [.agg (Ty.cells .mon a0)])(hc:(zgV a0)=true):∃N,zmL N a0=some [.one (.b (zh8 a0))]:=by
 have hg:a0.Guests.length<=big:=((zM hb).1 (.s .guest a0.Guests) (by simp [AV.cvs,Ty.cells])).len
 refine ⟨NN,?_⟩;have hNN:∀{n:Nat},n<=big->n<NN:=fun h=>zcs h;generalize NN=N at hNN ⊢;unfold zmL zh8 zcW;refine must rfl (stB fun h0=>stI fun h1=>must rfl (stB fun h2=>stI fun h3=>stI fun h4=>?_));have e1:=zjS h2;have e3:ln a0.Out=8:=of_decide_eq_true h3;simp only [ln] at e1 e3;refine (zbj a0.Guests (fun i (t:Unit)=>((i:Int),a0.Pending,a0.Traps,a0.Own,a0.Outer,a0.Out,a0.Dirty,a0.Guests,a0.Outs,a0.Tables,())) _ (fun _ (x:Guest) (_:Unit) κ=>bif zcf x then κ () else some [AV.one (.b false)]) (fun (t:Unit)=>(iter (σ:=(Int×(Int×(Int×(Int×((List Slot)×((List (List Int))×((List Bool)×((List Guest)×((List Int)×((List Kept)×Unit))))))))))) N (fun r4 s5=>(cond (ilt s5.1 8) (cond (inb s5.1 (ln s5.2.2.2.2.1)) (cond zbP (cond (cond (cond (ieq (ix s5.2.2.2.2.1 s5.1 zB).Page zbh.Page) (ieq (ix s5.2.2.2.2.1 s5.1 zB).Rights zbh.Rights) false) false true) (cond (inb s5.1 (ln s5.2.2.2.2.2.1)) (cond (igt (ln (ix s5.2.2.2.2.2.1 s5.1 [])) 0) (some [(.one (.b false))]) (cond (inb s5.1 (ln s5.2.2.2.2.1)) (cond (zel (ix s5.2.2.2.2.1 s5.1 zB).Rights 1) (cond (cond (zd7 (ix s5.2.2.2.2.1 s5.1 zB).Rights 1) false true) (some [(.one (.b false))]) (cond (cond (cond (cond (ieq (ix s5.2.2.2.2.1 s5.1 zB).Page zbh.Page) (ieq (ix s5.2.2.2.2.1 s5.1 zB).Rights zbh.Rights) false) false true) false true) (cond (inb s5.1 (ln s5.2.2.2.2.2.1)) (cond (zda (ix s5.2.2.2.2.2.1 s5.1 [])) (cond (cond (zcA (ix s5.2.2.2.2.2.1 s5.1 [])) false true) (some [(.one (.b false))]) (r4 ((zW .i64 s5.1 1),(s5.2.1,(s5.2.2.1,(s5.2.2.2.1,(s5.2.2.2.2.1,(s5.2.2.2.2.2.1,(s5.2.2.2.2.2.2.1,(s5.2.2.2.2.2.2.2.1,(s5.2.2.2.2.2.2.2.2.1,(s5.2.2.2.2.2.2.2.2.2.1,())))))))))))) none) none) (r4 ((zW .i64 s5.1 1),(s5.2.1,(s5.2.2.1,(s5.2.2.2.1,(s5.2.2.2.2.1,(s5.2.2.2.2.2.1,(s5.2.2.2.2.2.2.1,(s5.2.2.2.2.2.2.2.1,(s5.2.2.2.2.2.2.2.2.1,(s5.2.2.2.2.2.2.2.2.2.1,()))))))))))))) none) none)) none) (cond (cond (cond (cond (ieq (ix s5.2.2.2.2.1 s5.1 zB).Page zbh.Page) (ieq (ix s5.2.2.2.2.1 s5.1 zB).Rights zbh.Rights) false) false true) false true) (cond (inb s5.1 (ln s5.2.2.2.2.2.1)) (cond (zda (ix s5.2.2.2.2.2.1 s5.1 [])) (cond (cond (zcA (ix s5.2.2.2.2.2.1 s5.1 [])) false true) (some [(.one (.b false))]) (r4 ((zW .i64 s5.1 1),(s5.2.1,(s5.2.2.1,(s5.2.2.2.1,(s5.2.2.2.2.1,(s5.2.2.2.2.2.1,(s5.2.2.2.2.2.2.1,(s5.2.2.2.2.2.2.2.1,(s5.2.2.2.2.2.2.2.2.1,(s5.2.2.2.2.2.2.2.2.2.1,())))))))))))) none) none) (r4 ((zW .i64 s5.1 1),(s5.2.1,(s5.2.2.1,(s5.2.2.2.1,(s5.2.2.2.2.1,(s5.2.2.2.2.2.1,(s5.2.2.2.2.2.2.1,(s5.2.2.2.2.2.2.2.1,(s5.2.2.2.2.2.2.2.2.1,(s5.2.2.2.2.2.2.2.2.2.1,()))))))))))))) none) none) (cond (ile (ln s5.2.2.2.2.2.2.2.2.1) 40) (cond (zdE s5.2.1) (cond (zdD s5.2.1) (cond (zC s5.2.2.1 0 3) (cond (zJ s5.2.2.1 0 3) (cond (zC s5.2.2.2.1 0 1000000000) (some [(.one (.b (zJ s5.2.2.2.1 0 1000000000)))]) none) (some [(.one (.b false))])) none) (some [(.one (.b false))])) none) (some [(.one (.b false))])))) (0,(a0.Pending,(a0.Traps,(a0.Own,(a0.Outer,(a0.Out,(a0.Dirty,(a0.Guests,(a0.Outs,(a0.Tables,())))))))))))) (fun i hi t rec=>?_) (fun t rec=>?_) _ () (hNN hg)).trans ?_
 ·simp only [zbo hi,zU hi,zbd hi,zZ hi hg,cT];simp only [zgE,ze1,cT];cases zcf a0.Guests[i]<;>rfl
 ·simp only [zbe,cF]
 rw [zce zcf];cases hq:a0.Guests.all zcf
 ·simp only [cF];cases ile (ln a0.Outs) 40<;>cases zdF a0.Pending<;>cases win a0.Traps 0 3<;>cases win a0.Own 0 1000000000<;>rfl
 simp only [cT];refine (zo6 8 (fun j (u:Unit)=>((j:Int),a0.Pending,a0.Traps,a0.Own,a0.Outer,a0.Out,a0.Dirty,a0.Guests,a0.Outs,a0.Tables,())) _ (fun j (_:Unit) κ=>bif fits a0 j then κ () else some [AV.one (.b false)]) (fun (u:Unit)=>(cond (ile (ln a0.Outs) 40) (cond (zdE a0.Pending) (cond (zdD a0.Pending) (cond (zC a0.Traps 0 3) (cond (zJ a0.Traps 0 3) (cond (zC a0.Own 0 1000000000) (some [(.one (.b (zJ a0.Own 0 1000000000)))]) none) (some [(.one (.b false))])) none) (some [(.one (.b false))])) none) (some [(.one (.b false))]))) (fun j hj u rec1=>?_) (fun u rec1=>?_) _ () (hNN (by decide))).trans ?_
 ·simp only [show ilt (j:Int) 8=true from decide_eq_true (by omega),zZ hj (show 8<=big by decide),cT]
  have hj1:j<a0.Outer.length:=by omega
  have hj2:j<a0.Out.length:=by omega
  simp only [zbP,zbh,zda,zcA,zel,zd7,zU hj1,zU hj2,zrB,cT];unfold fits zrW;simp only [zbd hj1,zcm];cases ieq a0.Outer[j].Page noSlot.Page<;>cases ieq a0.Outer[j].Rights noSlot.Rights<;>cases enough a0.Outer[j].Rights 1<;>cases ile (ln (ix a0.Out (j:Int) [])) 0<;>cases zck (ix a0.Out (j:Int) [])<;>rfl
 ·simp only [show ilt (((8:Nat)):Int) 8=false from decide_eq_false (by omega),cF]
  rfl
 rw [zh1 (fits a0)];simp only [zdE,zdD,zC,zDs,cT];cases zgZ (fits a0) 8 0<;>cases ile (ln a0.Outs) 40<;>cases zdF a0.Pending<;>cases win a0.Traps 0 3<;>cases win a0.Own 0 1000000000<;>rfl
theorem zsR:Holds Tryz.prog 31 zky:=zk zoK zbs zl zn (zA (by kernel_rfl)) fun avs rs hb h=>by
 unfold zky at h;split at h
 ·obtain ⟨hc,rfl⟩:=zh h;exact (fin1 zwH zyT hc hb :)
 ·cases h
def ztV:zbg:=[(31,zky),(44,zkm)]++ztU
theorem zoL:zbl ztV:=zi zsR (zi zsF zoK)
def zez:List Slot->List Bool->Option (List Bool)
 | [],u=>some u
 | s :: l,u=>bif ilt s.Page 0 then zez l u else (cond (ix u s.Page false) none (zez l (up u s.Page true)))
def zgN:List Mon->List Bool->Bool
 | [],_=>true
 | m :: l,u=>bif zcW m then (match zez m.Outer u with|some u'=>zgN l u'|none=>false) else false
def zcP (h:Host):Bool:=bif zeD h.Memory 12 then (cond (win (ln h.Mons) 1 3) (cond (znG h.Buffer) (cond (znG h.IoBuffer) (zgN h.Mons (rp 12 false)) false) false) false) else false
theorem zhY:∀(l:List Slot) (u u':List Bool),zez l u=some u'->u'.length=u.length
 | [],u,u',h=>by cases h;rfl
 | s :: l,u,u',h=>by
  simp only [zez] at h;cases h1:ilt s.Page 0
  ·rw [h1] at h;cases h2:ix u s.Page false
   ·rw [h2] at h;simpa using zhY l _ u' h
   ·rw [h2] at h;cases h
  ·rw [h1] at h;exact zhY l u u' h
theorem zrX {t:List Slot}{n:Int}(h:zbQ t n 12=true):∀s∈t,s.Page<12:=by
 intro s hs;unfold zbQ at h;cases h1:t.all (fun s=>zcU s 12)
 ·rw [h1] at h;cases h
 ·have:=List.all_eq_true.1 h1 s hs;unfold zcU at this;cases h2:zcm s noSlot
  ·rw [h2] at this;simp only [cF,show igt 12 0=true from rfl,cT] at this
   cases h3:win s.Page 0 (wsub .i64 12 1)
   ·rw [h3] at this;cases this
   ·have:=(zpq.1 h3).2;rw [show wsub .i64 12 1=11 from rfl] at this
    omega
  ·unfold zcm at h2;rw [Bool.and_eq_true] at h2;have h2:s.Page = -1:=of_decide_eq_true h2.1;omega
theorem zwd {s:Slot}{u:List Bool}(h:s.Page<12)(hu:u.length=12)(h0:ilt s.Page 0=false):inb s.Page (ln u)=true:=by
 have:=of_decide_eq_false h0;exact decide_eq_true (by simp only [ln];omega)
def zio {ρ:Type}(r:Option ρ)(y:Slot)(u:List Bool)(κ:List Bool->Option ρ):Option ρ:=bif ilt y.Page 0 then κ u else (cond (inb y.Page (ln u)) (cond (ix u y.Page false) r (cond (inb y.Page (ln u)) (share (up u y.Page true) (fun x6=>κ x6)) none)) none)
theorem zl3 {ρ:Type}(r:Option ρ)(K:List Bool->Option ρ):∀(l:List Slot) (i:Nat) (u:List Bool),(∀s∈l,s.Page<12)->u.length=12 ->
 goL (fun _ y u κ=>zio r y u κ) K l i u=match zez l u with|some u'=>K u'|none=>r
 | [],_,_,_,_=>rfl
 | s :: l,i,u,h,hu=>by
  simp only [goL,zez,zio];cases h1:ilt s.Page 0
  ·have hh:=zwd (h s (by simp)) hu h1
   rw [hh];cases ix u s.Page false
   ·simp only [cF,cT,share];exact zl3 r K l (i+1) _ (fun s hs=>h s (by simp [hs])) (by simpa using hu)
   ·rfl
  ·simp only [cT];exact zl3 r K l (i+1) u (fun s hs=>h s (by simp [hs])) hu
def zye {ρ:Type}(r:Option ρ)(m:Mon)(u:List Bool)(κ:List Bool->Option ρ):Option ρ:=bif zcW m then goL (fun _ y u κ=>zio r y u κ) κ m.Outer 0 u else r
theorem zkH {c x:Bool}:((cond c x false)=true)↔c=true/\x=true:=by
 cases c<;>simp
theorem zgA {m:Mon}(h:zcW m=true):zbQ m.Outer 8 12=true:=by
 unfold zcW at h;simp only [zkH] at h;exact h.2.2.1
theorem zuy {K:Bool->Option Ans}(k:List Bool->Option Ans)(hk:∀u,k u=K true):∀(l:List Mon) (i:Nat) (u:List Bool),u.length=12 ->
 goL (fun _ m u κ=>zye (K false) m u κ) k l i u=K (zgN l u)
 | [],_,u,_=>hk u
 | m :: l,i,u,hu=>by
  simp only [goL,zgN,zye];cases h1:zcW m
  ·rfl
  ·simp only [cT];have ht:=zgA h1;rw [zl3 _ _ _ _ _ (zrX ht) hu];cases h2:zez m.Outer u with
   | none=>rfl
   | some u'=>exact zuy k hk l (i+1) u' ((zhY _ _ _ h2).trans hu)
@[simp,reducible] def zl6 (h:Host):Bool:=true
@[simp,reducible] def zl5 (h:Host):Bool:=zcP h
def ziK:List AV->Option (Bool×List AV)
 | [.agg [.s (.sl .int) c,.s .mon d,.s .entry e,.s .entry f]]=>some ((zl6 (⟨c,d,e,f⟩:Host)),[.one (.b (zl5 (⟨c,d,e,f⟩:Host)))])
 | _=>none
def zlg (N:Nat)(a0:Host):Option Ans :=
 (cond (znc a0.Memory 12) (cond (cond (zfS a0.Memory 12) false true) (some [(.one (.b false))]) (cond (zH (ln a0.Mons) 1 3) (cond (cond (zN (ln a0.Mons) 1 3) false true) (some [(.one (.b false))]) (cond (zfg a0.Buffer) (cond (cond (zff a0.Buffer) false true) (some [(.one (.b false))]) (cond (zfg a0.IoBuffer) (cond (cond (zff a0.IoBuffer) false true) (some [(.one (.b false))]) (cond (cond (few 12) (ieq 12 12) false) (iter (σ:=(Int×(Int×((List Bool)×((List Mon)×Unit))))) N (fun r2 s3=>(cond (ilt s3.2.1 s3.1) (cond (inb s3.2.1 (ln s3.2.2.2.1)) (cond (zgO (ix s3.2.2.2.1 s3.2.1 zG)) (cond (cond (zh3 (ix s3.2.2.2.1 s3.2.1 zG)) false true) (some [(.one (.b false))]) (iter (σ:=(Int×(Int×(Int×(Int×(Int×((List Bool)×((List Mon)×Unit)))))))) N (fun r4 s5=>(cond (ilt s5.2.2.2.2.1 s5.2.2.2.1) (cond (inb s5.2.2.2.2.1 (ln (ix s5.2.2.2.2.2.2.1 s5.2.2.1 zG).Outer)) (cond (ilt (ix (ix s5.2.2.2.2.2.2.1 s5.2.2.1 zG).Outer s5.2.2.2.2.1 zB).Page 0) (r4 (s5.1,(s5.2.1,(s5.2.2.1,(s5.2.2.2.1,((zW .i64 s5.2.2.2.2.1 1),(s5.2.2.2.2.2.1,(s5.2.2.2.2.2.2.1,())))))))) (cond (inb (ix (ix s5.2.2.2.2.2.2.1 s5.2.2.1 zG).Outer s5.2.2.2.2.1 zB).Page (ln s5.2.2.2.2.2.1)) (cond (ix s5.2.2.2.2.2.1 (ix (ix s5.2.2.2.2.2.2.1 s5.2.2.1 zG).Outer s5.2.2.2.2.1 zB).Page false) (some [(.one (.b false))]) (cond (inb (ix (ix s5.2.2.2.2.2.2.1 s5.2.2.1 zG).Outer s5.2.2.2.2.1 zB).Page (ln s5.2.2.2.2.2.1)) (share (up s5.2.2.2.2.2.1 (ix (ix s5.2.2.2.2.2.2.1 s5.2.2.1 zG).Outer s5.2.2.2.2.1 zB).Page true) (fun x6=>(r4 (s5.1,(s5.2.1,(s5.2.2.1,(s5.2.2.2.1,((zW .i64 s5.2.2.2.2.1 1),(x6,(s5.2.2.2.2.2.2.1,())))))))))) none)) none)) none) (r2 (s5.1,((zW .i64 s5.2.1 1),(s5.2.2.2.2.2.1,(s5.2.2.2.2.2.2.1,()))))))) (s3.1,(s3.2.1,(s3.2.1,((ln (ix s3.2.2.2.1 s3.2.1 zG).Outer),(0,(s3.2.2.1,(s3.2.2.2.1,()))))))))) none) none) (some [(.one (.b true))]))) ((ln a0.Mons),(0,((rp 12 false),(a0.Mons,()))))) none)) none)) none)) none)) none)
def zvT:FuncId->Nat->Option Tmpl:=zx [(19,0,{ n:=63,tm:=[(3,.sl 0 []),(33,.sl 1 []),(34,.i .i64),(35,.i .i64)],lo:=[],ro:=[(0,.bool,true),(1,.mon,false)] }),(19,2,{ n:=63,tm:=[(3,.sl 0 []),(33,.sl 1 []),(34,.i .i64),(35,.i .i64),(43,.sl 1 [0]),(44,.i .i64),(45,.i .i64)],lo:=[],ro:=[(0,.bool,true),(1,.mon,false)] })]
theorem zwM (N:Nat)(a0:Host):evalFn (cQ ztV zbZ zK zL) zvT N 12 19 [.agg (zbn a0)]=zlg N a0:=by kernel_rfl
theorem zuG (a0:Host)(hb:zF big [.agg (zbn a0)])(hc:(zl6 a0)=true):∃N,zlg N a0=some [.one (.b (zl5 a0))]:=by
 have hm:CVB big (.s .mon a0.Mons):=(zM hb).1 _ (by simp [AV.cvs,zbn])
 have hl:=hm.len;refine ⟨NN,?_⟩;have hNN:∀{n:Nat},n<=big->n<NN:=fun h=>zcs h;generalize NN=N at hNN ⊢;unfold zlg zl5 zcP;refine must rfl (stB fun h0=>must rfl (stB fun h1=>must rfl (stB fun h2=>must rfl (stB fun h3=>must rfl ?_))));refine (zbj a0.Mons (fun i (t:(List Bool))=>((ln a0.Mons),(i:Int),t,a0.Mons,())) _ (fun _ (x:Mon) (u:List Bool) κ=>zye (some [AV.one (.b false)]) x u κ) (fun (t:(List Bool))=>(some [(.one (.b true))])) (fun i hi t rec=>?_) (fun t rec=>?_) _ ((rp 12 false)) (hNN hl)).trans ?_
 ·simp only [zbo hi,zU hi,zbd hi,zZ hi hl,cT];unfold zye;cases h4:zcW a0.Mons[i]
  ·simp only [zgO,zh3,h4,cT,cF]
  simp only [zgO,zh3,h4,cT,cF];have ho:a0.Mons[i].Outer.length<=big:=(hm.inv.2 _ (List.getElem_mem hi) (.s .slot _) (by simp [Ty.cells])).len
  refine (zbj a0.Mons[i].Outer (fun j (u:(List Bool))=>((ln a0.Mons),(i:Int),(i:Int),(ln a0.Mons[i].Outer),(j:Int),u,a0.Mons,())) _ (fun _ (y:Slot) (u:List Bool) κ=>zio (some [AV.one (.b false)]) y u κ) (fun (u:(List Bool))=>(rec ((ln a0.Mons),((((i+1:Nat)):Int),(u,(a0.Mons,())))))) (fun j hj u rec1=>?_) (fun u rec1=>?_) _ (t) (hNN ho)).trans ?_
  ·simp only [zbo hj,zU hj,zbd hj,zZ hj ho,cT,zU hi,zbd hi,zZ hi hl];rfl
  ·simp only [zbe,cF,zU hi,zbd hi,zZ hi hl]
  rfl
 ·simp only [zbe,cF]
 exact zuy (K:=fun b=>some [AV.one (.b b)]) _ (fun _=>rfl) _ _ _ rfl
theorem zqX:Holds Tryz.prog 19 ziK:=zk zoL zbs zl zn (zA (by kernel_rfl)) fun avs rs hb h=>by
 unfold ziK at h;split at h
 ·obtain ⟨hc,rfl⟩:=zh h;exact (fin1 zuG zwM hc hb :)
 ·cases h
@[simp,reducible] def zmj (h:Host):Bool:=true
@[simp,reducible] def zmi (h:Host):Bool:=zcP h
theorem zoQ {ρ:Type}(r:Option ρ)(k:List Bool->Option ρ)(m:Mon):∀(n i:Nat) (u:List Bool),(∀s∈m.Outer,s.Page<12)->u.length=12->i+n=m.Outer.length ->
 goN (fun j u κ=>bif inb (j:Int) (ln m.Outer) then zio r (ix m.Outer (j:Int) zB) u κ else none) k n i u=goL (fun _ y u κ=>zio r y u κ) k (m.Outer.drop i) i u
 | 0,i,u,_,_,h=>by
  have:i=m.Outer.length:=by omega
  subst this;simp [goN,goL]
 | n+1,i,u,hs,hu,h=>by
  have hi:i<m.Outer.length:=by omega
  rw [List.drop_eq_getElem_cons hi];simp only [goN,goL,zU hi,zbd hi,cT,zio];cases h1:ilt m.Outer[i].Page 0
  ·rw [zwd (hs _ (List.getElem_mem hi)) hu h1];cases ix u m.Outer[i].Page false
   ·simp only [cF,cT,share];exact zoQ r k m n (i+1) _ hs (by simpa using hu) (by omega)
   ·rfl
  ·simp only [cT];exact zoQ r k m n (i+1) u hs hu (by omega)
def zjc:List AV->Option (Bool×List AV)
 | [.agg [.s (.sl .int) c,.s .mon d,.s .entry e,.s .entry f]]=>some ((zmj (⟨c,d,e,f⟩:Host)),[.one (.b (zmi (⟨c,d,e,f⟩:Host)))])
 | _=>none
def zlI (N:Nat)(a0:Host):Option Ans :=
 (cond (znv a0.Memory 12) (cond (cond (zge a0.Memory 12) false true) (some [(.one (.b false))]) (cond (zC (ln a0.Mons) 1 3) (cond (cond (zJ (ln a0.Mons) 1 3) false true) (some [(.one (.b false))]) (cond (zfC a0.Buffer) (cond (cond (zfB a0.Buffer) false true) (some [(.one (.b false))]) (cond (zfC a0.IoBuffer) (cond (cond (zfB a0.IoBuffer) false true) (some [(.one (.b false))]) (cond (cond (few 12) (ieq 12 12) false) (iter (σ:=(Int×((List Bool)×((List (List Int))×((List Mon)×((List Entry)×((List Entry)×Unit))))))) N (fun r2 s3=>(cond (ilt s3.1 (ln s3.2.2.2.1)) (cond (inb s3.1 (ln s3.2.2.2.1)) (cond (zgV (ix s3.2.2.2.1 s3.1 zG)) (cond (cond (zh8 (ix s3.2.2.2.1 s3.1 zG)) false true) (some [(.one (.b false))]) (iter (σ:=(Int×(Int×((List Bool)×((List (List Int))×((List Mon)×((List Entry)×((List Entry)×Unit)))))))) N (fun r4 s5=>(cond (ilt s5.2.1 8) (cond (inb s5.1 (ln s5.2.2.2.2.1)) (cond (inb s5.2.1 (ln (ix s5.2.2.2.2.1 s5.1 zG).Outer)) (cond (ige (ix (ix s5.2.2.2.2.1 s5.1 zG).Outer s5.2.1 zB).Page 0) (cond (inb (ix (ix s5.2.2.2.2.1 s5.1 zG).Outer s5.2.1 zB).Page (ln s5.2.2.1)) (cond (ix s5.2.2.1 (ix (ix s5.2.2.2.2.1 s5.1 zG).Outer s5.2.1 zB).Page false) (some [(.one (.b false))]) (cond (ige (ix (ix s5.2.2.2.2.1 s5.1 zG).Outer s5.2.1 zB).Page 0) (cond (inb (ix (ix s5.2.2.2.2.1 s5.1 zG).Outer s5.2.1 zB).Page (ln s5.2.2.1)) (share (up s5.2.2.1 (ix (ix s5.2.2.2.2.1 s5.1 zG).Outer s5.2.1 zB).Page true) (fun x6=>(r4 (s5.1,((zW .i64 s5.2.1 1),(x6,(s5.2.2.2.1,(s5.2.2.2.2.1,(s5.2.2.2.2.2.1,(s5.2.2.2.2.2.2.1,())))))))))) none) (r4 (s5.1,((zW .i64 s5.2.1 1),(s5.2.2.1,(s5.2.2.2.1,(s5.2.2.2.2.1,(s5.2.2.2.2.2.1,(s5.2.2.2.2.2.2.1,())))))))))) none) (cond (ige (ix (ix s5.2.2.2.2.1 s5.1 zG).Outer s5.2.1 zB).Page 0) (cond (inb (ix (ix s5.2.2.2.2.1 s5.1 zG).Outer s5.2.1 zB).Page (ln s5.2.2.1)) (share (up s5.2.2.1 (ix (ix s5.2.2.2.2.1 s5.1 zG).Outer s5.2.1 zB).Page true) (fun x6=>(r4 (s5.1,((zW .i64 s5.2.1 1),(x6,(s5.2.2.2.1,(s5.2.2.2.2.1,(s5.2.2.2.2.2.1,(s5.2.2.2.2.2.2.1,())))))))))) none) (r4 (s5.1,((zW .i64 s5.2.1 1),(s5.2.2.1,(s5.2.2.2.1,(s5.2.2.2.2.1,(s5.2.2.2.2.2.1,(s5.2.2.2.2.2.2.1,())))))))))) none) none) (r2 ((zW .i64 s5.1 1),(s5.2.2.1,(s5.2.2.2.1,(s5.2.2.2.2.1,(s5.2.2.2.2.2.1,(s5.2.2.2.2.2.2.1,()))))))))) (s3.1,(0,(s3.2.1,(s3.2.2.1,(s3.2.2.2.1,(s3.2.2.2.2.1,(s3.2.2.2.2.2.1,()))))))))) none) none) (some [(.one (.b true))]))) (0,((rp 12 false),(a0.Memory,(a0.Mons,(a0.Buffer,(a0.IoBuffer,()))))))) none)) none)) none)) none)) none)
def zv4:FuncId->Nat->Option Tmpl:=zx [(12,0,{ n:=72,tm:=[(1,.lp 0 0),(3,.sl 0 []),(4,.i .i64)],lo:=[(0,[.sl 1 [],.sl 2 [],.sl 3 [],.sl 4 []])],ro:=[(0,.bool,true),(1,(.sl .int),false),(2,.mon,false),(3,.entry,false),(4,.entry,false)] }),(12,2,{ n:=72,tm:=[(1,.lp 0 0),(3,.sl 0 []),(4,.i .i64),(5,.i .i64)],lo:=[(0,[.sl 1 [],.sl 2 [],.sl 3 [],.sl 4 []])],ro:=[(0,.bool,true),(1,(.sl .int),false),(2,.mon,false),(3,.entry,false),(4,.entry,false)] })]
theorem zxh (N:Nat)(a0:Host):evalFn (cQ ztV zbZ zK zL) zv4 N 12 12 [.agg (zbn a0)]=zlI N a0:=by kernel_rfl
theorem zvc (a0:Host)(hb:zF big [.agg (zbn a0)])(hc:(zmj a0)=true):∃N,zlI N a0=some [.one (.b (zmi a0))]:=by
 have hm:CVB big (.s .mon a0.Mons):=(zM hb).1 _ (by simp [AV.cvs,zbn])
 have hl:=hm.len;refine ⟨NN,?_⟩;have hNN:∀{n:Nat},n<=big->n<NN:=fun h=>zcs h;generalize NN=N at hNN ⊢;unfold zlI zmi zcP;refine must rfl (stB fun h0=>must rfl (stB fun h1=>must rfl (stB fun h2=>must rfl (stB fun h3=>must rfl ?_))));refine (zbj a0.Mons (fun i (t:(List Bool))=>((i:Int),t,a0.Memory,a0.Mons,a0.Buffer,a0.IoBuffer,())) _ (fun _ (x:Mon) (u:List Bool) κ=>bif zcW x then goN (fun j u κ=>bif inb (j:Int) (ln x.Outer) then zio (some [AV.one (.b false)]) (ix x.Outer (j:Int) zB) u κ else none) κ 8 0 u else some [AV.one (.b false)]) (fun (t:(List Bool))=>(some [(.one (.b true))])) (fun i hi t rec=>?_) (fun t rec=>?_) _ ((rp 12 false)) (hNN hl)).trans ?_
 ·simp only [zbo hi,zU hi,zbd hi,zZ hi hl,cT];cases h4:zcW a0.Mons[i]
  ·simp only [zgV,zh8,h4,cT,cF]
  simp only [zgV,zh8,h4,cT,cF];refine (zo6 8 (fun j (u:(List Bool))=>((i:Int),(j:Int),u,a0.Memory,a0.Mons,a0.Buffer,a0.IoBuffer,())) _ (fun j (u:List Bool) κ=>bif inb (j:Int) (ln a0.Mons[i].Outer) then zio (some [AV.one (.b false)]) (ix a0.Mons[i].Outer (j:Int) zB) u κ else none) (fun (u:(List Bool))=>(rec ((((i+1:Nat)):Int),(u,(a0.Memory,(a0.Mons,(a0.Buffer,(a0.IoBuffer,())))))))) (fun j hj u rec1=>?_) (fun u rec1=>?_) _ (t) (hNN (by decide))).trans ?_
  ·simp only [show ilt (j:Int) 8=true from decide_eq_true (by omega),zZ hj (show 8<=big by decide),cT,zU hi,zbd hi,zZ hi hl]
   unfold zio;have e:ige (ix a0.Mons[i].Outer (j:Int) zB).Page 0 = !ilt (ix a0.Mons[i].Outer (j:Int) zB).Page 0:=by rw [zCe,Bool.not_not]
   simp only [e];cases ilt (ix a0.Mons[i].Outer (j:Int) zB).Page 0<;>cases inb (j:Int) (ln a0.Mons[i].Outer)<;>cases inb (ix a0.Mons[i].Outer (j:Int) zB).Page (ln u)<;>cases ix u (ix a0.Mons[i].Outer (j:Int) zB).Page false<;>rfl
  ·simp only [show ilt (((8:Nat)):Int) 8=false from decide_eq_false (by omega),cF,zU hi,zbd hi,zZ hi hl]
  rfl
 ·simp only [zbe,cF]
 have key:∀(l:List Mon) (i:Nat) (u:List Bool),u.length=12->goL (fun _ (x:Mon) (u:List Bool) κ=>bif zcW x then goN (fun j u κ=>bif inb (j:Int) (ln x.Outer) then zio (some [AV.one (.b false)]) (ix x.Outer (j:Int) zB) u κ else none) κ 8 0 u else some [AV.one (.b false)]) (fun _=>some [AV.one (.b true)]) l i u=some [AV.one (.b (zgN l u))]:=by
  intro l
  induction l with
  | nil=>intro i u _;rfl
  | cons m l ih =>
   intro i u hu;simp only [goL,zgN];cases h1:zcW m
   ·rfl
   ·have ht:=zgA h1;have e8:0+8=m.Outer.length:=by have:=zjS ht;simp only [ln] at this;omega
    simp only [cT];rw [zoQ _ _ m 8 0 u (zrX ht) hu e8,List.drop_zero,zl3 _ _ _ _ _ (zrX ht) hu];cases h2:zez m.Outer u with
    | none=>rfl
    | some u'=>exact ih (i+1) u' ((zhY _ _ _ h2).trans hu)
 exact key _ _ _ rfl
theorem zrq:Holds Tryz.prog 12 zjc:=zk zoL zbs zl zn (zA (by kernel_rfl)) fun avs rs hb h=>by
 unfold zjc at h;split at h
 ·obtain ⟨hc,rfl⟩:=zh h;exact (fin1 zvc zxh hc hb :)
 ·cases h
def zBy:zbg:=[(12,zjc),(19,ziK)]++ztV
theorem zAw:zbl zBy:=zi zrq (zi zqX zoL)
theorem zyw {h:Host}(hh:zcP h=true):(h.Mons.length:Int)<=3:=by
 unfold zcP at hh;simp only [zkH] at hh;exact (zpq.1 hh.2.1).2
def ztX:zbg:=[(13,zeO),(20,zeM),(14,zdk),(21,zdj),(15,zc9),(22,zc8)]++zBy
theorem zoN:zbl ztX:=zi zm9 (zi zm7 (zi zfJ (zi zfI (zi zfe (zi zfd zAw)))))
theorem zof:∀(l:List Mon) (u:List Bool),zgN l u=true->∀x∈l,zcW x=true
 | [],_,_,x,hx=>by cases hx
 | m :: l,u,h,x,hx=>by
  unfold zgN at h;cases hm:zcW m
  ·rw [hm] at h;cases h
  ·rw [hm] at h;simp only [cT] at h;cases hu:zez m.Outer u with
   | none=>rw [hu] at h;cases h
   | some u' =>
    rw [hu] at h;rcases List.mem_cons.1 hx with rfl|hx
    ·exact hm
    ·exact zof l u' h x hx
theorem zog {h:Host}(hh:zcP h=true):∀x∈h.Mons,zcW x=true:=by
 unfold zcP at hh;simp only [zkH] at hh;exact zof _ _ hh.2.2.2.2
theorem zAZ {t:List Slot}{n:Int}(h:zbQ t n 12=true):∀s∈t,-1<=s.Page/\s.Page<12:=by
 intro s hs;unfold zbQ at h;simp only [zkH] at h;have h2:=List.all_eq_true.1 h.1 s hs;unfold zcU at h2;cases h3:zcm s noSlot
 ·rw [h3] at h2;simp only [cF,zkH] at h2;have:=zpq.1 h2.2.1;rw [show wsub .i64 12 1=11 from rfl] at this
  omega
 ·unfold zcm at h3;rw [Bool.and_eq_true] at h3;have:s.Page = -1:=of_decide_eq_true h3.1;omega
theorem zss:∀l:List Mon,(∀x∈l,zcW x=true)->ze0 l=8*l.length
 | [],_=>rfl
 | m :: l,h=>by
  have h1:=zjS (zgA (h m (by simp)))
  have h2:=zss l (fun x hx=>h x (by simp [hx]))
  simp only [ze0,List.length_cons,h2,ln] at *;omega
theorem zsf {h:Host}(hs:zdl h)(hh:zcP h=true):zyb h:=by
 refine ⟨hs,?_⟩;rw [zss _ (zog hh)];have:=zyw hh;omega
theorem zst {h:Host}(hh:zcP h=true):zyc h:=by
 intro m hm s hs;have:=zAZ (zgA (zog hh m hm)) s hs;unfold wf64 Lit.wf;simp only [Bool.and_eq_true,decide_eq_true_iff];have h1:IntKind.i64.min = -9223372036854775808:=rfl;have h2:IntKind.i64.max=9223372036854775807:=rfl;rw [h1,h2];omega
def zgg (h:Host):Bool:=bif zcP h then (cond (zft h) (cond (zey h) (cond (zdn h h.Buffer) (zdn h h.IoBuffer) false) false) false) else false
@[simp,reducible] def zfD (h:Host):Bool:=pc (zdl h)
@[simp,reducible] def zem (h:Host):Bool:=zgg h
def zgb:List AV->Option (Bool×List AV)
 | [.agg [.s (.sl .int) c,.s .mon d,.s .entry e,.s .entry f]]=>some ((zfD (⟨c,d,e,f⟩:Host)),[.one (.b (zem (⟨c,d,e,f⟩:Host)))])
 | _=>none
def zil (N:Nat)(a0:Host):Option Ans :=
 (cond (zmj a0) (cond (zmi a0) (cond (zgf a0) (cond (zjo a0) (cond (zfF a0) (cond (zcZ a0) (cond (zdC a0 a0.Buffer) (cond (zcq a0 a0.Buffer) (cond (zdC a0 a0.IoBuffer) (some [(.one (.b (zcq a0 a0.IoBuffer)))]) none) (some [(.one (.b false))])) none) (some [(.one (.b false))])) none) (some [(.one (.b false))])) none) (some [(.one (.b false))])) none)
theorem ztv (N:Nat)(a0:Host):evalFn (cQ ztX zbZ zK zL) (zx []) N 12 5 [.agg (zbn a0)]=zil N a0:=by kernel_rfl
theorem zrQ (a0:Host)(hb:zF big [.agg (zbn a0)])(hc:(zfD a0)=true):∃N,zil N a0=some [.one (.b (zem a0))]:=by
 have hs:=zbb.1 hc;have hA:zcP a0=true->zyb a0:=zsf hs;have hP:zcP a0=true->zyc a0:=zst
 refine ⟨0,?_⟩;unfold zil;refine must rfl (br (fun _=>must (by first|assumption|(simp_all<;>omega)) (br (fun _=>must rfl (br (fun _=>must rfl (br (fun _=>must rfl ?_) (fun _=>?_))) (fun _=>?_))) (fun _=>?_))) (fun _=>?_))
 all_goals first|rfl|(simp only [*,zem,zgg,zcZ,zcq,cT,cF]<;>rfl)|simp_all [Ty.cells,zem,zgg,zcZ,zcq]
theorem zo3:Holds Tryz.prog 5 zgb:=zk zoN zbs zl zn (zA (by kernel_rfl)) fun avs rs hb h=>by
 unfold zgb at h;split at h
 ·obtain ⟨hc,rfl⟩:=zh h;exact (fin1 zrQ ztv hc hb :)
 ·cases h
@[simp,reducible] def zfh (h:Host):Bool:=pc (zdl h)
@[simp,reducible] def zee (h:Host):Bool:=zgg h
def zf1:List AV->Option (Bool×List AV)
 | [.agg [.s (.sl .int) c,.s .mon d,.s .entry e,.s .entry f]]=>some ((zfh (⟨c,d,e,f⟩:Host)),[.one (.b (zee (⟨c,d,e,f⟩:Host)))])
 | _=>none
def zib (N:Nat)(a0:Host):Option Ans :=
 (cond (zl6 a0) (cond (zl5 a0) (cond (zkV a0) (cond (znd a0) (cond (zfj a0) (cond (zcY a0) (cond (zdy a0 a0.Buffer) (cond (zcn a0 a0.Buffer) (cond (zdy a0 a0.IoBuffer) (some [(.one (.b (zcn a0 a0.IoBuffer)))]) none) (some [(.one (.b false))])) none) (some [(.one (.b false))])) none) (some [(.one (.b false))])) none) (some [(.one (.b false))])) none)
theorem ztl (N:Nat)(a0:Host):evalFn (cQ ztX zbZ zK zL) (zx []) N 12 7 [.agg (zbn a0)]=zib N a0:=by kernel_rfl
theorem zrG (a0:Host)(hb:zF big [.agg (zbn a0)])(hc:(zfh a0)=true):∃N,zib N a0=some [.one (.b (zee a0))]:=by
 have hs:=zbb.1 hc;have hA:zcP a0=true->zyb a0:=zsf hs;have hP:zcP a0=true->zyc a0:=zst
 refine ⟨0,?_⟩;unfold zib;refine must rfl (br (fun _=>must (by first|assumption|(simp_all<;>omega)) (br (fun _=>must rfl (br (fun _=>must rfl (br (fun _=>must rfl ?_) (fun _=>?_))) (fun _=>?_))) (fun _=>?_))) (fun _=>?_))
 all_goals first|rfl|(simp only [*,zee,zgg,zcY,zcn,cT,cF]<;>rfl)|simp_all [Ty.cells,zee,zgg,zcY,zcn]
theorem zoT:Holds Tryz.prog 7 zf1:=zk zoN zbs zl zn (zA (by kernel_rfl)) fun avs rs hb h=>by
 unfold zf1 at h;split at h
 ·obtain ⟨hc,rfl⟩:=zh h;exact (fin1 zrG ztl hc hb :)
 ·cases h
def zBD:zbg:=[(5,zgb),(7,zf1)]++ztX
theorem zAB:zbl zBD:=zi zo3 (zi zoT zoN)
theorem zvo {α β:Type}{f:α->β}{l:List α}{x:β}{xs:List β}(h:l.map f=x :: xs):∃a r,l=a :: r/\f a=x/\r.map f=xs:=by
 cases l with
 | nil=>cases h
 | cons a r =>
  simp only [List.map_cons,List.cons.injEq] at h;exact ⟨a,r,rfl,h.1,h.2⟩
theorem zC1 {a:AV}{tys:List CTy}(h:some a.sh=some (true,tys)):∃cs,a = .agg cs/\cs.map CV.ty=tys:=by
 cases a with
 | one c=>simp [AV.sh] at h
 | agg l =>
  simp only [AV.sh,Option.some.injEq,Prod.mk.injEq,true_and] at h;exact ⟨l,rfl,h⟩
theorem zCv {a:AV}(h:some a.sh=some (true,[.s (.sl .int),.s .mon,.s .entry,.s .entry])):∃x:Host,a = .agg (zbn x):=by
 obtain ⟨cs,rfl,hc⟩:=zC1 h;obtain ⟨m,r1,rfl,h1⟩:=ziG hc;obtain ⟨n,r2,rfl,h2⟩:=ziG h1;obtain ⟨b,r3,rfl,h3⟩:=ziG h2;obtain ⟨i,r4,rfl,h4⟩:=ziG h3;cases List.map_eq_nil_iff.1 h4;exact ⟨⟨m,n,b,i⟩,rfl⟩
section
open Go Go.ChangeShapes Go.WideShapes Go.ChangeAt
def zBE:zbg:=[(4,zfw),(6,zfx),(8,zfv)]++zBD
theorem zAC:zbl zBE:=zi zkQ (zi zkR (zi zkP zAB))
def zdQ (N:Nat)(a0:Host):Option Ans :=
 (cond (zhL a0 1048576) (cond (ilt (zdh a0 1048576) 0) (some [(.one (.b true))]) (cond (zei a0) (cond (zfD (zcR a0)) (cond (zei a0) (cond (zfh (zcR a0)) (cond (cond (ze9 (zee (zcR a0)) (zem (zcR a0))) false true) (some [(.one (.b false))]) (cond (zei a0) (cond (zhG (zcR a0) (zcR a0)) (cond (cond (ziA (zcR a0) (zcR a0)) false true) (some [(.one (.b false))]) (some [(.one (.b true))])) none) none)) none) none) none) none)) none)
theorem zme (N:Nat)(a0:Host):evalFn (cQ zBE zbZ zK zL) (zx []) N 12 3 [.agg (zbn a0)]=zdQ N a0:=by kernel_rfl
theorem zkG (a0:Host)(ho:∀c∈zo [.agg (zbn a0)],CVOk c):∃N,zdQ N a0=some [.one (.b true)]:=by
 have hb:zF big [.agg (zbn a0)]:=fun c hc=>CVB.of_ok (ho c hc);refine ⟨0,?_⟩;unfold zdQ;rw [zzV,cT];cases hz:ilt (zdh a0 1048576) 0
 ·obtain ⟨hs,_⟩:=zy9 (by omega) (by omega) hz
  have c1:zfD a0=true:=zO hs;have c2:zfh a0=true:=zO hs;simp only [zA7 hs,zzZ,zAH,zAI,c1,c2,cT,cF,zee,zem,zbG,Bool.not_true]
 ·rfl
theorem zju:Tryz.f3.params.toList.map (zbp Tryz.prog 4)=[some (true,[.s (.sl .int),.s .mon,.s .entry,.s .entry])]:=by kernel_rfl
theorem zhw:zxC 3 Tryz.f3.params.toList:=by
 refine zwh zAC zbs zl zn (zA (by kernel_rfl)) ?_
 intro avs hg;obtain ⟨h1,h2⟩:=hg;rw [zju] at h1;obtain ⟨v0,r0,rfl,e0,h1⟩:=zvo h1;cases List.map_eq_nil_iff.1 h1;obtain ⟨a0,rfl⟩:=zCv e0;obtain ⟨N,hN⟩:=zkG a0 h2;exact ⟨zx [],N,12,(zme N a0).trans hN⟩
theorem zkA (H:Type)(ds:List (DataW H))(h:ds.length=Tryz.f3.params.toList.length):Rows.fnExactSafeHostSpec.fn H ds={ results:=[.lit (.bool true)],args:=ds }:=by
 have hl:ds.length=1:=h.trans (by kernel_rfl)
 match ds,hl with
 | [d],_=>rfl
set_option maxRecDepth 100000 in
theorem ziF (os:Os)(started:os.Started)(H:Type)(enc:TypeId×Value->H) :
 ReturnsInHanded {} Tryz.checked os 3 .any (Rows.fnExactSafeHostSpec.pre6 enc Tryz.prog Tryz.f3 Rows.fnExactSafeHostRow.domain false) (Rows.fnExactSafeHostSpec.post enc Tryz.prog Tryz.f3 false true false false):=by
 refine returnsInHanded_of_change_shaped (C:=Tryz.checked) own started (by kernel_rfl) Tryz.func3
  (ChangeSpec.witness6 (enc:=enc) (C:=Tryz.checked) false ⟨#[],#[.agg #[.slice none 0 0,.slice none 0 0,.slice none 0 0,.slice none 0 0]],[]⟩ 8 (by kernel_rfl) (by kernel_rfl) (by kernel_rfl) (by kernel_rfl)) ?_
 intro W base args ds gs before hval hW _ hsz _ _;exact zqj (P:=Tryz.prog) zz9 zAO rfl zkA (by kernel_rfl) (B:=4) (by kernel_rfl) (by kernel_rfl) zhw W base args ds gs before hval hW hsz
theorem said_fnExactSafeHost:Rows.FnExactSafeHostSaid :=
 OpenClaim.holds_of_wide 3 Tryz.f3 rfl rfl rfl rfl rfl rfl rfl ⟨rfl,rfl,rfl,rfl,rfl⟩ rfl rfl rfl rfl rfl (by kernel_rfl) Tryz.func3 (by kernel_rfl)
  (of_decide_eq_true (by kernel_rfl)) (by unfold Func.isWrapper;first|(rw [if_pos (by decide +kernel)];kernel_rfl)|(rw [if_neg (by decide +kernel)];exact ⟨rfl,rfl⟩))
  (fun os started H enc _=>ziF os started H enc)
end
end
end Go.Proofs.YtcfnaifggdelnaaGreat.E
