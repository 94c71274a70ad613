/- What is proved here: a part of the proof that the statement of this claim holds (several texts of wip/, laid together). -/
import Derived.Test.YtnnmbkjhakbicaaGreatW2
import Derived.Orders
import Derived.HandedShaped
import Derived.ProofKit
import Derived.KernelRfl
namespace Go.Proofs.YtnnmbkjhakbicaaGreat.E
open Go
set_option linter.unusedVariables false
set_option maxRecDepth 100000
set_option linter.unusedSimpArgs false
set_option linter.unusedSectionVars false
noncomputable section
section
variable {C:Cfg} {w0 w w1:World} {S0:zI} {U:Nat->Prop} {st st1:St} {E E1:Env} {ts:Array Value} {sv:List (Array Value)}
def zbT (ops:Array Oper)(o:Oper)(st:St):Option Bool :=
 match o.guard with
 | none=>some true
 | some (j,want)=>match guardOf st ops j with
  | some .und=>some false
  | some (.v (.at (.b x)))=>some (x==want)
  | _=>none
theorem zI6 {ops:Array Oper}{o:Oper}{run skip:St->Option Ans}{ans:Ans}(h:guarded ops o st run skip=some ans) :
 (zbT ops o st=some true/\run st=some ans)\/(zbT ops o st=some false/\skip (st.put o.dst .und)=some ans):=by
 unfold guarded at h;split at h
 .rename_i hg;exact .inl ⟨by simp[zbT,hg],h⟩
 .rename_i j want hg;split at h
  .rename_i hm;exact .inr ⟨by simp[zbT,hg,hm],h⟩
  .rename_i x hm;have hd:∃t,zfA ops j=some t/\st.tm[t]?=some (.v (.at (.b x))):=by
    unfold guardOf at hm;split at hm
    .rename_i o' ho';split at hm
     .rename_i t ht;exact ⟨t,by simp[zfA,ho',ht],hm⟩
     .cases hm
    .cases hm
   obtain ⟨t,h4,h3⟩:=hd;rw[h4]at h;cases x<;>cases want<;>simp only [cond_true,cond_false]at h<;>rw [zyk h3]at h
   .exact .inl ⟨by simp[zbT,hg,hm],h⟩
   .exact .inr ⟨by simp[zbT,hg,hm],h⟩
   .exact .inr ⟨by simp[zbT,hg,hm],h⟩
   .exact .inl ⟨by simp[zbT,hg,hm],h⟩
  .cases h
theorem ztr (hS:Sim w0 S0 U st E ts sv w){ops:Array Oper}{o:Oper}{b:Bool}(h:zbT ops o st=some b):Region.wanted o (yielded ops ts)=b:=by
 unfold zbT at h;split at h
 .rename_i hg;cases h;simp[Region.wanted,hg]
 .rename_i j want hg;have hgo:∀{m:MV},guardOf st ops j=some m->∃o' t v,ops[j]?=some o'/\o'.dst=some t/\ts[t]?=some v/\VM w st E m v:=by
   intro m hm;unfold guardOf at hm;split at hm
   .rename_i o' ho';split at hm
    .rename_i t ht;have hlt:t<ts.size:=by rw[hS.tm.1];exact (qA.1 hm).1
     exact ⟨o',t,ts[t],ho',ht,by simp[hlt],hS.tm.2 t m _ hm (by simp[hlt])⟩
    .cases hm
   .cases hm
  split at h
  .rename_i hm;cases h;obtain ⟨o',t,v,h1,h2,hv,hvm⟩:=hgo hm;simp only[VM]at hvm;subst hvm;have:yielded ops ts j=none:=by simp[yielded,h1,h2,hv,undef]
   simp[Region.wanted,hg,this]
  .rename_i x hm;cases h;obtain ⟨o',t,v,h1,h2,hv,hvm⟩:=hgo hm;simp only[VM,VT,VA]at hvm;subst hvm;have hy:yielded ops ts j=some x:=by simp[yielded,h1,h2,hv]
   simp[Region.wanted,hg,hy]
  .cases h
abbrev Step:=Option Dl
def St.step (st:St)(b:Bool)(o:Oper):Step->St
 | some d=>st.effD b o.dst d
 | none=>st.put o.dst .und
inductive Trace (C:Cfg) (ops:Array Oper) (b:Bool) (base:Nat):Nat->List Step->List (Nat×Foot)->St->St->Prop
 | nil (i:Nat) (st:St):Trace C ops b base i [] [] st st
 | run {i:Nat} {o:Oper} {d:Dl} {ss:List Step} {fs:List (Nat×Foot)} {st st':St} (ho:ops[i]?=some o) (hg:zbT ops o st=some true) (hd:zg1 C st o (base+32*i)=some d) (hc:d.c=true)
  (h:Trace C ops b base (i+1) ss fs (st.effD b o.dst d) st'):Trace C ops b base i (some d :: ss) ((i,zhg C st ops o d) :: fs) st st'
 | skip {i:Nat} {o:Oper} {ss:List Step} {fs:List (Nat×Foot)} {st st':St} (ho:ops[i]?=some o) (hg:zbT ops o st=some false)
  (h:Trace C ops b base (i+1) ss fs (st.put o.dst .und) st'):Trace C ops b base i (none :: ss) ((i,zht ops o) :: fs) st st'
theorem zlX {ops:Array Oper}{cl:List (List Nat)}{b:Bool}{base m0:Nat}{k:St->Option Ans}{kl:App->St->Option Ans}{kc:Nat->St->Option Ans}{ans:Ans}:∀(m i:Nat) (fs:List (Nat×Foot)) (st:St),zm4 C ops cl b base m0 k kl kc (List.range' i m) fs st=some ans ->
 (∃ss gs st',ss.length=m/\Trace C ops b base i ss gs st st'/\zhF cl (gs.reverse++fs)=true/\k st'=some ans) \/
 (∃ss gs st' o x,ss.length+1=m/\Trace C ops b base i ss gs st st'/\ops[i+ss.length]?=some o/\zk0 C st' o=some (true,x)/\b=true/\zp2 ops cl m0 (i+ss.length)=true/\x.dst<st'.tm.length /\
  zhF cl ((i+ss.length,zeS st' ops o zu0) :: (gs.reverse++fs))=true/\kl x (st'.put o.dst (.v (.at .bad)))=some ans) \/
 (∃ss gs st' o,ss.length+1=m/\Trace C ops b base i ss gs st st'/\ops[i+ss.length]?=some o/\zkB o=true/\zp2 ops cl m0 (i+ss.length)=true/\zx3 ops cl (zhW cl m0 (i+ss.length)) o=true /\
  zhF cl (gs.reverse++fs)=true/\kc (i+ss.length) st'=some ans)
 | 0,i,fs,st,h=>by
  simp only[List.range'_zero,zm4]at h;split at h
  .rename_i hok;exact .inl ⟨[],[],st,rfl,.nil i st,by simpa using hok,h⟩
  .cases h
 | m+1,i,fs,st,h=>by
  simp only[uP,zm4]at h;split at h
  .cases h
  .rename_i o ho;have h0:=zI6 h
   clear h
   rcases h0 with ⟨hg,h⟩|⟨hg,h⟩
   .split at h
    .rename_i d hd;cases hc:d.c with
     | false=>rw[hc]at h;cases h
     | true =>
      rw[hc]at h;simp only[cond_true]at h;rcases zlX m (i+1) _ _ h with ⟨ss,gs,st',h1,h2,h3,h4⟩|⟨ss,gs,st',oA,x,h1,h2,h3,h4,h5,h6,h6b,h7,h8⟩|⟨ss,gs,st',oA,h1,h2,h3,h4,h5,h6,h7,h8⟩
      .exact .inl ⟨some d :: ss,(i,zhg C st ops o d) :: gs,st',by simp[h1],.run ho hg hd hc h2,by simpa using h3,h4⟩
      .have e:i+1+ss.length=i+(some d :: ss).length:=by simp only[qY];omega
       rw[e]at h3 h6 h7;exact .inr (.inl ⟨some d :: ss,(i,zhg C st ops o d) :: gs,st',oA,x,by simp[<- h1],.run ho hg hd hc h2,h3,h4,h5,h6,h6b,by simpa using h7,h8⟩)
      .have e:i+1+ss.length=i+(some d :: ss).length:=by simp only[qY];omega
       rw[e]at h3 h5 h6 h8;exact .inr (.inr ⟨some d :: ss,(i,zhg C st ops o d) :: gs,st',oA,by simp[<- h1],.run ho hg hd hc h2,h3,h4,h5,h6,by simpa using h7,h8⟩)
    .split at h
     .rename_i c x hrest hap;split at h
      .rename_i hcond;simp only[qD,qX]at hcond;obtain ⟨⟨⟨hb,hlo⟩,hlen⟩,hok⟩:=hcond;cases hc:c with
       | false=>rw[hc]at h;cases h
       | true =>
        rw[hc]at h hap;simp only[cond_true]at h;have hm:m=0:=by simpa using hrest
        subst hm;exact .inr (.inl ⟨[],[],st,o,x,rfl,.nil i st,ho,hap,hb,hlo,hlen,by simpa using hok,h⟩)
      .cases h
     .rename_i hrest hap;split at h
      .rename_i hcond;simp only[qD]at hcond;obtain ⟨⟨⟨hcv,hlo⟩,hlr⟩,hok⟩:=hcond;have hm:m=0:=by simpa using hrest
       subst hm;exact .inr (.inr ⟨[],[],st,o,rfl,.nil i st,ho,hcv,hlo,hlr,by simpa using hok,h⟩)
      .cases h
     .cases h
   .rcases zlX m (i+1) _ _ h with ⟨ss,gs,st',h1,h2,h3,h4⟩|⟨ss,gs,st',oA,x,h1,h2,h3,h4,h5,h6,h6b,h7,h8⟩|⟨ss,gs,st',oA,h1,h2,h3,h4,h5,h6,h7,h8⟩
    .exact .inl ⟨none :: ss,(i,zht ops o) :: gs,st',by simp[h1],.skip ho hg h2,by simpa using h3,h4⟩
    .have e:i+1+ss.length=i+((none:Step) :: ss).length:=by simp only[qY];omega
     rw[e]at h3 h6 h7;exact .inr (.inl ⟨none :: ss,(i,zht ops o) :: gs,st',oA,x,by simp[<- h1],.skip ho hg h2,h3,h4,h5,h6,h6b,by simpa using h7,h8⟩)
    .have e:i+1+ss.length=i+((none:Step) :: ss).length:=by simp only[qY];omega
     rw[e]at h3 h5 h6 h8;exact .inr (.inr ⟨none :: ss,(i,zht ops o) :: gs,st',oA,by simp[<- h1],.skip ho hg h2,h3,h4,h5,h6,by simpa using h7,h8⟩)
end
inductive Key where
 | tm (t:Nat)
 | ro (n:Nat)
 | lo (n:Nat)
inductive Item where
 | tm (m:MV)
 | ro (R:Root)
 | lo (l:List At)
def St.get (st:St):Key->Option Item
 | .tm t=>st.tm[t]?.map .tm
 | .ro n=>(zf st.ro n).map .ro
 | .lo n=>(zf st.lo n).map .lo
def wr (o:Oper):Step->Key->Prop
 | _,.tm t=>o.dst=some t
 | none,_=>False
 | some d,.ro n=>n∈d.ro.map (·.1)
 | some d,.lo n=>n∈d.lo.map (·.1)
section
variable {st st':St} {b:Bool} {o:Oper}
theorem zta {α:Type}:∀{l:List (Nat×α)} {n:Nat},n∉l.map (·.1)->zf l n=none
 | [],_,_=>rfl
 | (k,v) :: l,n,h=>by
  simp only[jG,qG,not_or]at h;simp only[zf];rw[if_neg (by simp;exact fun e=>h.1 e.symm)]
  exact zta h.2
theorem ztb {α:Type}:∀{l:List (Nat×α)} {n:Nat},n∈l.map (·.1)->∃v,zf l n=some v
 | [],_,h=>by simp at h
 | (k,v) :: l,n,h=>by
  simp only[zf];split
  .exact ⟨v,rfl⟩
  .rename_i hne;simp only[qH]at hne;simp only[jG,qG]at h;exact ztb (h.resolve_left (fun e=>hne e.symm))
theorem zNC {m:MV}{d:Option Tmp}:(st.put d m).ro=st.ro:=by cases d<;>rfl
theorem zNB {m:MV}{d:Option Tmp}:(st.put d m).lo=st.lo:=by cases d<;>rfl
theorem zH3 {m:MV}{d:Option Tmp}:(st.put d m).ep=st.ep:=by cases d<;>rfl
theorem zDh {m:MV}{d:Option Tmp}:(st.put d m).stk=st.stk:=by cases d<;>rfl
theorem zKn {m:MV}{d:Option Tmp}:(st.put d m).tm.length=st.tm.length:=by cases d<;>simp [St.put]
theorem zND {m:MV}{d:Option Tmp}{t:Nat}:(st.put d m).tm[t]?=if d=some t then (if t<st.tm.length then some m else none) else st.tm[t]?:=by
 cases d with
 | none=>simp[St.put]
 | some e =>
  simp only[St.put,jA,qC];split
  .rename_i e;subst e;rfl
  .rfl
def dv:Step->MV
 | some d=>d.v
 | none=>.und
theorem zKx {s:Step}{t:Nat}:(st.step b o s).tm[t]?=if o.dst=some t then (if t<st.tm.length then some (dv s) else none) else st.tm[t]?:=by
 cases s with
 | none=>exact zND
 | some d=>exact zND (st:={ st with lo:=d.lo++st.lo,ro:=d.ro.map (fun (x:Nat×Root)=>(x.1,zdn b x.2))++st.ro })
theorem zPl {s:Step}:(st.step b o s).tm.length=st.tm.length:=by
 cases s with
 | none=>exact zKn
 | some d=>exact zKn (st:={ st with lo:=d.lo++st.lo,ro:=d.ro.map (fun (x:Nat×Root)=>(x.1,zdn b x.2))++st.ro })
theorem zDm {s:Step}:(st.step b o s).ep=st.ep:=by
 cases s with
 | none=>exact zH3
 | some d=>exact zH3 (st:={ st with lo:=d.lo++st.lo,ro:=d.ro.map (fun (x:Nat×Root)=>(x.1,zdn b x.2))++st.ro })
theorem zIk {s:Step}:(st.step b o s).stk=st.stk:=by
 cases s with
 | none=>exact zDh
 | some d=>exact zDh (st:={ st with lo:=d.lo++st.lo,ro:=d.ro.map (fun (x:Nat×Root)=>(x.1,zdn b x.2))++st.ro })
theorem zPm {s:Step}:(st.step b o s).nid=st.nid:=by
 cases s with
 | none=>exact zdx
 | some d=>exact zdx (st:={ st with lo:=d.lo++st.lo,ro:=d.ro.map (fun (x:Nat×Root)=>(x.1,zdn b x.2))++st.ro })
def dro (b:Bool):Step->List (Nat×Root)
 | some d=>d.ro.map (fun (x:Nat×Root)=>(x.1,zdn b x.2))
 | none=>[]
def dlo:Step->List (Nat×List At)
 | some d=>d.lo
 | none=>[]
theorem zDn {s:Step}:(st.step b o s).ro=dro b s++st.ro:=by
 cases s with
 | none=>exact zNC
 | some d=>exact zNC (st:={ st with lo:=d.lo++st.lo,ro:=d.ro.map (fun (x:Nat×Root)=>(x.1,zdn b x.2))++st.ro })
theorem zKw {s:Step}:(st.step b o s).lo=dlo s++st.lo:=by
 cases s with
 | none=>exact zNB
 | some d=>exact zNB (st:={ st with lo:=d.lo++st.lo,ro:=d.ro.map (fun (x:Nat×Root)=>(x.1,zdn b x.2))++st.ro })
theorem zQU {s:Step}{n:Nat}:wr o s (.ro n)↔n∈(dro b s).map (·.1):=by
 cases s with
 | none=>simp[wr,dro]
 | some d=>simp[wr,dro,List.map_map,Function.comp_def]
theorem zQT {s:Step}{n:Nat}:wr o s (.lo n)↔n∈(dlo s).map (·.1):=by
 cases s with
 | none=>simp[wr,dlo]
 | some d=>simp[wr,dlo]
theorem step_other {s:Step}{κ:Key}(h:¬ wr o s κ):(st.step b o s).get κ=st.get κ:=by
 cases κ with
 | tm t =>
  have h':¬ o.dst=some t:=by cases s<;>exact h
  simp only[St.get,zKx,if_neg h']
 | ro n =>
  rw[zQU (b:=b)]at h;simp only[St.get,zDn,zba,zta h]
 | lo n =>
  rw[zQT]at h;simp only[St.get,zKw,zba,zta h]
theorem zuT {s:Step}{κ:Key}(h:wr o s κ)(hl:st.tm.length=st'.tm.length):(st.step b o s).get κ=(st'.step b o s).get κ:=by
 cases κ with
 | tm t =>
  have h':o.dst=some t:=by cases s<;>exact h
  simp only[St.get,zKx,if_pos h',hl]
 | ro n =>
  rw[zQU (b:=b)]at h;obtain ⟨v,hv⟩:=ztb h;simp only[St.get,zDn,zba,hv]
 | lo n =>
  rw[zQT]at h;obtain ⟨v,hv⟩:=ztb h;simp only[St.get,zKw,zba,hv]
theorem zL5 {s:Step}{κ:Key}(hl:st.tm.length=st'.tm.length)(h:st.get κ=st'.get κ):(st.step b o s).get κ=(st'.step b o s).get κ:=by
 by_cases hw:wr o s κ
 .exact zuT hw hl
 .rw [step_other hw,step_other hw,h]
def zO (ops:Array Oper)(b:Bool)(X:Nat->Bool):Nat->List Step->St->St
 | _,[],st=>st
 | i,s :: ss,st=>zO ops b X (i+1) ss (if X i then (match ops[i]? with|some o=>st.step b o s|none=>st) else st)
def one (ops:Array Oper)(b:Bool)(X:Nat->Bool)(i:Nat)(s:Step)(st:St):St:=if X i then (match ops[i]? with|some o=>st.step b o s|none=>st) else st
theorem zvj {ops:Array Oper}{X:Nat->Bool}{i:Nat}{s:Step}:(one ops b X i s st).tm.length=st.tm.length:=by
 unfold one;split
 .split
  .exact zPl
  .rfl
 .rfl
theorem zjj {ops:Array Oper}{X:Nat->Bool}:∀(ss:List Step) (i:Nat) (st:St),(zO ops b X i ss st).tm.length=st.tm.length
 | [],_,_=>rfl
 | s :: ss,i,st=>(zjj ss (i+1) _).trans (zvj (X:=X) (i:=i) (s:=s))
theorem zk5 {ops:Array Oper}{X Y:Nat->Bool}{κ:Key}:∀(ss:List Step) (i:Nat) (st st':St),st.tm.length=st'.tm.length->st.get κ=st'.get κ ->
 (∀(k:Nat) (s:Step) (o:Oper),ss[k]?=some s->ops[i+k]?=some o->X (i+k)≠Y (i+k)->¬ wr o s κ)->(zO ops b X i ss st).get κ=(zO ops b Y i ss st').get κ
 | [],_,_,_,_,h,_=>h
 | s :: ss,i,st,st',hl,h,hw=>by
  have h0:(one ops b X i s st).get κ=(one ops b Y i s st').get κ:=by
   unfold one;cases ho:ops[i]? with
   | none=>cases X i<;>cases Y i<;>exact h
   | some o =>
    have hw0:=hw 0 s o rfl ho;simp only[k7]at hw0;cases hX:X i<;>cases hY:Y i<;>rw [hX,hY]at hw0
    .exact h
    .simp only [if_true,kK,if_false];rw[step_other (hw0 (by simp)),h]
    .simp only [if_true,kK,if_false];rw[step_other (hw0 (by simp)),h]
    .exact zL5 hl h
  exact zk5 ss (i+1) _ _ (((zvj (b:=b) (ops:=ops) (X:=X) (i:=i) (s:=s) (st:=st)).trans hl).trans (zvj (b:=b) (ops:=ops) (X:=Y) (i:=i) (s:=s) (st:=st')).symm) h0 (fun k s' o' hk ho hne=>hw (k+1) s' o' (by simpa using hk) (by rw[<- ho];congr 1;omega) (by
   have e:i+(k+1)=i+1+k:=by omega
   rw[e];exact hne))
end
section
variable {st st':St} {b:Bool} {o:Oper}
theorem zzy {ops:Array Oper}{X:Nat->Bool}{κ:Key}:∀(ss:List Step) (i:Nat) (st:St),
 (∀(k:Nat) (s:Step) (o:Oper),ss[k]?=some s->ops[i+k]?=some o->X (i+k)=true->¬ wr o s κ)->(zO ops b X i ss st).get κ=st.get κ
 | [],_,_,_=>rfl
 | s :: ss,i,st,hw=>by
  have h0:(one ops b X i s st).get κ=st.get κ:=by
   unfold one;split
   .rename_i hX;split
    .rename_i o ho;exact step_other (hw 0 s o rfl ho hX)
    .rfl
   .rfl
  exact (zzy ss (i+1) _ (fun k s' o' hk ho hX=>hw (k+1) s' o' (by simpa using hk) (by rw[<- ho];congr 1;omega) (by
   have e:i+(k+1)=i+1+k:=by omega
   rw[e];exact hX))).trans h0
theorem zGp {ops:Array Oper}{X:Nat->Bool}{j:Nat}{s:Step}(hX:X j=true)(ho:ops[j]?=some o){κ:Key}(hκ:wr o s κ):∀(ss:List Step) (i:Nat) (st:St),i<=j->ss[j-i]?=some s ->
 (∀(k:Nat) (s':Step) (o':Oper),ss[k]?=some s'->ops[i+k]?=some o'->j<i+k->X (i+k)=true->¬ wr o' s' κ)->(zO ops b X i ss st).get κ=(st.step b o s).get κ
 | [],i,st,_,h,_=>by simp at h
 | s' :: ss,i,st,hij,h,hw=>by
  have later:∀(k:Nat) (s2:Step) (o2:Oper),ss[k]?=some s2->ops[i+1+k]?=some o2->j<i+1+k->X (i+1+k)=true->¬ wr o2 s2 κ:=by
   intro k s2 o2 hk ho2 hlt hX2;have e:i+(k+1)=i+1+k:=by omega
   exact hw (k+1) s2 o2 (by simpa using hk) (by rw[e];exact ho2) (by omega) (by rw[e];exact hX2)
  by_cases he:i=j
  .subst he;simp only[uI,qF,qC]at h;subst h;have h1:=zzy (b:=b) (ops:=ops) (X:=X) (κ:=κ) ss (i+1) (one ops b X i s' st) (fun k s2 o2 hk ho2 hX2=>later k s2 o2 hk ho2 (by omega) hX2)
   have h2:one ops b X i s' st=st.step b o s':=by simp only[one,hX,ho,if_true]
   rw[h2]at h1
   show (zO ops b X (i+1) ss (one ops b X i s' st)).get κ=_
   rw[h2];exact h1
  .have e:j-i=(j-(i+1))+1:=by omega
   rw[e,jI]at h;have h1:=zGp hX ho hκ ss (i+1) (one ops b X i s' st) (by omega) h later
   exact h1.trans (zuT hκ zvj)
theorem zM0 {ops:Array Oper}{X Y:Nat->Bool}{a j:Nat}{s:Step}(hY:∀i,Y i=(X i||i==a+j))(ho:ops[a+j]?=some o){ss:List Step}{st:St}(hs:ss[j]?=some s)(hw:∀(k:Nat) (s':Step) (o':Oper),ss[k]?=some s'->ops[a+k]?=some o'->j<k->X (a+k)=true->∀κ,wr o s κ->¬ wr o' s' κ)(κ:Key) :
 (zO ops b Y a ss st).get κ=((zO ops b X a ss st).step b o s).get κ:=by
 by_cases hκ:wr o s κ
 .rw [zGp (X:=Y) (j:=a+j) (s:=s) (by rw[hY];simp) ho hκ ss a st (kY _ _) (by rw[Nat.add_sub_cancel_left];exact hs) (fun k s' o' hk ho' hlt hYk=>by
   refine hw k s' o' hk ho' (by omega) ?_ κ hκ
   rw[hY]at hYk;have:(a+k==a+j)=false:=by simp;omega
   rw[this,k6]at hYk;exact hYk)]
  exact zuT hκ (zjj ss a st).symm
 .rw [step_other hκ];refine zk5 ss a st st rfl rfl (fun k s' o' hk ho' hne=>?_);have:k=j:=by
   rw[hY]at hne
   by_cases hkj:k=j
   .exact hkj
   .have:(a+k==a+j)=false:=by simp[hkj]
    simp[this]at hne
  subst this;rw[ho]at ho';cases ho';rw[hs]at hk;cases hk;exact hκ
end
section
variable {C:Cfg} {w0 w w1:World} {S0:zI} {U:Nat->Prop} {st st':St} {E E1:Env} {ts:Array Value} {sv:List (Array Value)}
theorem zzF {t:Nat}(h:st'.get (.tm t)=st.get (.tm t)):st'.tm[t]?=st.tm[t]?:=by
 simp only[St.get]at h;cases h1:st'.tm[t]? <;> cases h2:st.tm[t]? <;> rw [h1,h2]at h<;>simp at h
 .rw [h]
theorem ztp {n:Nat}(h:st'.get (.ro n)=st.get (.ro n)):zf st'.ro n=zf st.ro n:=by
 simp only[St.get]at h;cases h1:zf st'.ro n<;>cases h2:zf st.ro n<;>rw [h1,h2]at h<;>simp at h
 .rw [h]
theorem zzE {n:Nat}(h:st'.get (.lo n)=st.get (.lo n)):zf st'.lo n=zf st.lo n:=by
 simp only[St.get]at h;cases h1:zf st'.lo n<;>cases h2:zf st.lo n<;>rw [h1,h2]at h<;>simp at h
 .rw [h]
theorem Sim.fewer (hS:Sim w0 S0 U st E ts sv w)(htm:∀t:Nat,st'.tm[t]?=st.tm[t]?)(hlo:∀n,zf st'.lo n=zf st.lo n)(hstk:st'.stk=st.stk)(hro:∀n R,st'.root n=some R->st.root n=some R)(hin:∀n R,zf st'.ro n=some R->∃R',zf st.ro n=some R')(hep:∀n R e,zf st'.ro n=some R->R.ep=some e->e<=st'.ep):Sim w0 S0 U st' E ts sv w:=by
 have hM:=hS.mem;have T:Trans st E w st' E w (fun _=>True):=⟨fun r _ R1 h=>⟨R1,hro r R1 h,rfl,fun _ _ h=>h⟩,fun l _ cs h=>⟨⟨cs,by rw[<- hlo];exact h⟩,rfl⟩,rfl⟩
 have hlist:st'.tm=st.tm:=kT htm;refine ⟨⟨hM.os,hM.tape,hM.output,hM.size,hM.keep,fun r R h=>hM.rep r R (hro r R h),fun r R h=>hM.rlt r R (hro r R h),fun r R h=>hM.mine r R (hro r R h),fun hz r R h=>hM.frz hz r R (hro r R h),
  fun r R r' R' h1 h2 h3=>hM.apart r R r' R' (hro r R h1) h2 (hro r' R' h3),fun l cs hl=>?_,fun l l' cs cs' h1 h2=>hM.linj l l' cs cs' (by rw[<- hlo];exact h1) (by rw[<- hlo];exact h2),
  fun l cs r R h1 h2=>hM.lro l cs r R (by rw[<- hlo];exact h1) (hro r R h2),hep,hM.κ⟩,⟨fun n R hn=>?_,fun n cs hn=>hS.ids.lo n cs (by rw[<- hlo];exact hn),fun m hm=>hS.ids.tm m (by rw[<- hlist];exact hm),fun f hf=>hS.ids.stk f (by rw[<- hstk];exact hf)⟩,?_,?_⟩
 .obtain ⟨h1,vals,e,h2,h3,h4⟩:=hM.loc l cs (by rw[<- hlo];exact hl)
  exact ⟨h1,vals,e,h2,h3,fun j c u hc hu=>⟨(h4 j c u hc hu).1,VA.tr T (fun _ _=>trivial) (h4 j c u hc hu).2⟩⟩
 .obtain ⟨R',hR'⟩:=hin n R hn;exact hS.ids.ro n R' hR'
 .rw [hlist];exact Slots.tr T (fun _ _ _ _=>trivial) hS.tm
 .rw [hstk];exact Stack.tr T (fun _ _ _ _ _ _=>trivial) hS.stk
theorem Sim.same (hS:Sim w0 S0 U st E ts sv w)(hg:∀κ,st'.get κ=st.get κ)(hstk:st'.stk=st.stk)(hep:st'.ep=st.ep):Sim w0 S0 U st' E ts sv w:=by
 have hr:∀n,zf st'.ro n=zf st.ro n:=fun n=>ztp (hg (.ro n));refine hS.fewer (fun t=>zzF (hg (.tm t))) (fun n=>zzE (hg (.lo n))) hstk (fun n R h=>?_) (fun n R h=>⟨R,by rw[<- hr];exact h⟩) (fun n R e h he=>by rw[hep];exact hS.mem.epo n R e (by rw[<- hr];exact h) he)
 simpa only [St.root,hr,hep] using h
end
section
variable {C:Cfg} {ops:Array Oper} {b:Bool} {base:Nat}
theorem zHE {s:List Nat}{x:Nat}:zi0 s x=true↔x∈s:=by
 unfold zi0;rw[kX];constructor
 .rintro ⟨y,hy,h⟩
  rw[jP h];exact hy
 .exact fun h=>⟨x,h,Nat.beq_refl x⟩
theorem zrr {s:List Nat}:∀{l:List Nat} {x:Nat},x∈addN l s↔x∈l\/x∈s
 | [],x=>by simp[addN]
 | a :: l,x=>by
  have ih:=fun y=>@zrr s l y
  show x∈cond (zi0 (addN l s) a) (addN l s) (a :: addN l s)↔_
  cases h:zi0 (addN l s) a with
  | true =>
   rw[cond_true,ih,qG];constructor
   .rintro (h1|h1)
    .exact .inl (.inr h1)
    .exact .inr h1
   .rintro ((h1|h1)|h1)
    .rw [h1];exact (ih a).1 (zHE.1 h)
    .exact .inl h1
    .exact .inr h1
  | false=>rw[cond_false,qG,ih,qG,or_assoc]
theorem zBm {acc:List (List Nat)}:∀{l:List Edge} {e:Edge},e∈l->Region.binds .any e=true ->
 e.on∈l.foldr (fun e s=>cond (Region.binds .any e) (cond (zi0 s e.on) s (addN (acc.getD e.on []) (e.on :: s))) s) []
 | a :: l,e,he,hb=>by
  rw[List.foldr_cons];generalize hs:l.foldr (fun e s=>cond (Region.binds .any e) (cond (zi0 s e.on) s (addN (acc.getD e.on []) (e.on :: s))) s) []=s;have up:∀x,x∈s->x∈cond (Region.binds .any a) (cond (zi0 s a.on) s (addN (acc.getD a.on []) (a.on :: s))) s:=fun x hx=>by
   cases Region.binds .any a with
   | false=>exact hx
   | true =>
    cases zi0 s a.on with
    | true=>exact hx
    | false=>exact zrr.2 (.inr (jD _ hx))
  rcases qG.1 he with rfl|he
  .rw [hb,cond_true];cases hh:zi0 s e.on with
   | true=>exact zHE.1 hh
   | false=>exact zrr.2 (.inr jO)
  .exact up _ (hs ▸ zBm he hb)
theorem zBn {acc:List (List Nat)}:∀{l:List Edge} {j:Nat},j∈l.foldr (fun e s=>cond (Region.binds .any e) (cond (zi0 s e.on) s (addN (acc.getD e.on []) (e.on :: s))) s) [] ->
 ∃e∈l,Region.binds .any e=true/\(j=e.on\/j∈acc.getD e.on [])
 | [],j,h=>by cases h
 | a :: l,j,h=>by
  rw[List.foldr_cons]at h;have up:j∈l.foldr (fun e s=>cond (Region.binds .any e) (cond (zi0 s e.on) s (addN (acc.getD e.on []) (e.on :: s))) s) []->∃e∈a :: l,Region.binds .any e=true/\(j=e.on\/j∈acc.getD e.on []):=fun h=>by
   obtain ⟨e,h1,h2⟩:=zBn h;exact ⟨e,jD _ h1,h2⟩
  cases hb:Region.binds .any a with
  | false=>rw[hb]at h;exact up h
  | true =>
   rw[hb,cond_true]at h;cases hh:zi0 (l.foldr (fun e s=>cond (Region.binds .any e) (cond (zi0 s e.on) s (addN (acc.getD e.on []) (e.on :: s))) s) []) a.on with
   | true=>rw[hh]at h;exact up h
   | false =>
    rw[hh,cond_false]at h;rcases zrr.1 h with h|h
    .exact ⟨a,jO,hb,.inr h⟩
    .rcases qG.1 h with h|h
     .exact ⟨a,jO,hb,.inl h⟩
     .exact up h
theorem zBy (i:Nat)(r:List Nat)(acc:List (List Nat)):zfh ops (i :: r) acc=zfh ops r (acc++[waits ops acc i]):=rfl
theorem zpK:∀(m:Nat) (acc:List (List Nat)),∃l,zfh ops (List.range' acc.length m) acc=acc++l/\l.length=m /\
 ∀k,k<m->(acc++l)[acc.length+k]?=some (waits ops ((acc++l).take (acc.length+k)) (acc.length+k))
 | 0,acc=>⟨[],by simp[zfh],rfl,fun k hk=>by omega⟩
 | m+1,acc=>by
  obtain ⟨l,h1,h2,h3⟩:=zpK m (acc++[waits ops acc acc.length]);have hlen:(acc++[waits ops acc acc.length]).length=acc.length+1:=by simp
  rw[hlen]at h1 h3;refine ⟨waits ops acc acc.length :: l,?_,by simp[h2],fun k hk=>?_⟩
  .rw [uP,zBy,h1];simp
  .have e:acc++waits ops acc acc.length :: l=(acc++[waits ops acc acc.length])++l:=by simp
   cases k with
   | zero =>
    rw[k7,qQ (qV _),uI,kM rfl];rfl
   | succ k =>
    have e2:acc.length+(k+1)=acc.length+1+k:=by omega
    rw[e,e2];exact h3 k (by omega)
theorem zKN {i:Nat}(hi:i<ops.size):(zfh ops (List.range ops.size) []).getD i []=waits ops ((zfh ops (List.range ops.size) []).take i) i:=by
 obtain ⟨l,h1,h2,h3⟩:=zpK (ops:=ops) ops.size [];simp only[List.length_nil,jN,jY]at h1 h3;rw[List.range_eq_range',h1,kE,h3 i hi];rfl
structure Pinned (n:Nat) (cl:List (List Nat)) (m:Nat):Prop where
 full:∀j,j<m->j∈cl.getD m []
 wait:∀k,m<k->k<n->m∈cl.getD k []
theorem zpi {n m:Nat}{cl:List (List Nat)}(h:pinned n cl m=true):Pinned n cl m:=by
 unfold pinned zM3 at h;simp only[qD,qS,kB,jE,qX,List.mem_range']at h;refine ⟨h.1,fun k h1 h2=>h.2 k ⟨k-(m+1),by omega,by omega⟩⟩
theorem zlE {n m:Nat}{cl:List (List Nat)}{p:Bool}{r:List Bool}(h:p :: r=(zeW n cl).drop m):m<n/\p=pinned n cl m/\r=(zeW n cl).drop (m+1):=by
 have hlt:m<(zeW n cl).length:=by
  rcases kW m (zeW n cl).length with h'|h'
  .exact h'
  .rw [List.drop_eq_nil_of_le h']at h;cases h
 rw[kF hlt]at h;simp only[List.cons.injEq]at h;refine ⟨by simpa [zeW] using hlt,?_,h.2⟩
 rw[h.1];simp[zeW]
theorem zH0 {n m:Nat}{cl:List (List Nat)}(h:[]=(zeW n cl).drop m):n<=m:=by
 have:=List.drop_eq_nil_iff.1 h.symm;simpa [zeW] using this
theorem zEb {n:Nat}{cl:List (List Nat)}:∀(r:List Bool) (m:Nat),m<=n->r=(zeW n cl).drop m ->
 m+zbq r<=n/\r.drop (zbq r)=(zeW n cl).drop (m+zbq r)/\(m+zbq r<n->Pinned n cl (m+zbq r))
 | [],m,hm,h=>by
  have:=zH0 h;refine ⟨by simp[zbq];omega,by simpa [zbq] using h,fun hlt=>?_⟩
  simp[zbq]at hlt;omega
 | true :: r,m,hm,h=>by
  obtain ⟨h1,h2,_⟩:=zlE h;refine ⟨by simp[zbq];omega,by simpa [zbq] using h,fun _=>?_⟩
  simp only[zbq,k7];exact zpi h2.symm
 | false :: r,m,hm,h=>by
  obtain ⟨h1,_,h3⟩:=zlE h;obtain ⟨g1,g2,g3⟩:=zEb r (m+1) (by omega) h3
  have e:m+zbq (false :: r)=m+1+zbq r:=by simp only[zbq];omega
  rw[e];refine ⟨g1,?_,g3⟩;rw[<- g2];rfl
theorem zoo {X:Nat->Bool}:∀(ss:List Step) (i:Nat) (st:St),(∀k,i<=k->X k=false)->zO ops b X i ss st=st
 | [],_,_,_=>rfl
 | s :: ss,i,st,h=>by
  simp only[zO];rw[h i (qV _)];simp only[kK,if_false];exact zoo ss (i+1) st (fun k hk=>h k (by omega))
theorem zfy {X Y:Nat->Bool}:∀(ss:List Step) (i:Nat) (st:St),(∀k,i<=k->k<i+ss.length->X k=Y k)->zO ops b X i ss st=zO ops b Y i ss st
 | [],_,_,_=>rfl
 | s :: ss,i,st,h=>by
  simp only[zO];rw[h i (qV _) (by simp)]
  exact zfy ss (i+1) _ (fun k hk hlt=>h k (by omega) (by simp only[qY];omega))
def At1 (C:Cfg)(ops:Array Oper)(base i:Nat)(o:Oper)(S:St)(f:Foot):Step->Prop
 | some d=>zbT ops o S=some true/\zg1 C S o (base+32*i)=some d/\d.c=true/\f=zhg C S ops o d
 | none=>zbT ops o S=some false/\f=zht ops o
theorem zIJ {i:Nat}{ss:List Step}{fs:List (Nat×Foot)}{st st':St}(h:Trace C ops b base i ss fs st st'):∀(k:Nat) (s:Step),ss[k]?=some s ->
 ∃o f,ops[i+k]?=some o/\(i+k,f)∈fs/\At1 C ops base (i+k) o (zO ops b (fun j=>decide (j<i+k)) i ss st) f s:=by
 induction h with
 | nil i st=>intro k s hs;simp at hs
 | run ho hg hd hc h ih =>
  rename_i i o d ss fs st st';intro k s hs;cases k with
  | zero =>
   simp only[qF,qC]at hs;subst hs;refine ⟨o,_,ho,jO,?_⟩;rw[zoo _ _ _ (fun k hk=>by simp;omega)]
   exact ⟨hg,hd,hc,rfl⟩
  | succ k =>
   obtain ⟨o',f,h1,h2,h3⟩:=ih k s (by simpa using hs)
   have e:i+(k+1)=i+1+k:=by omega
   refine ⟨o',f,by rw[e];exact h1,by rw[e];exact jD _ h2,?_⟩
   rw[e];simp only[zO,ho];rw[if_pos (by simp;omega)]
   exact h3
 | skip ho hg h ih =>
  rename_i i o ss fs st st';intro k s hs;cases k with
  | zero =>
   simp only[qF,qC]at hs;subst hs;refine ⟨o,_,ho,jO,?_⟩;rw[zoo _ _ _ (fun k hk=>by simp;omega)]
   exact ⟨hg,rfl⟩
  | succ k =>
   obtain ⟨o',f,h1,h2,h3⟩:=ih k s (by simpa using hs)
   have e:i+(k+1)=i+1+k:=by omega
   refine ⟨o',f,by rw[e];exact h1,by rw[e];exact jD _ h2,?_⟩
   rw[e];simp only[zO,ho];rw[if_pos (by simp;omega)]
   exact h3
theorem zuV {i:Nat}{ss:List Step}{fs:List (Nat×Foot)}{st st':St}(h:Trace C ops b base i ss fs st st'):st'=zO ops b (fun _=>true) i ss st:=by
 induction h with
 | nil i st=>rfl
 | run ho hg hd hc h ih =>
  simp only[zO,ho,if_true];exact ih
 | skip ho hg h ih =>
  simp only[zO,ho,if_true];exact ih
theorem zNu {X:Nat->Bool}{i:Nat}{s:Step}{st:St}:(one ops b X i s st).ep=st.ep:=by
 unfold one;split
 .split
  .exact zDm
  .rfl
 .rfl
theorem zRy {X:Nat->Bool}{i:Nat}{s:Step}{st:St}:(one ops b X i s st).stk=st.stk:=by
 unfold one;split
 .split
  .exact zIk
  .rfl
 .rfl
theorem zRx {X:Nat->Bool}{i:Nat}{s:Step}{st:St}:(one ops b X i s st).nid=st.nid:=by
 unfold one;split
 .split
  .exact zPm
  .rfl
 .rfl
theorem zdH {X:Nat->Bool}:∀(ss:List Step) (i:Nat) (st:St),(zO ops b X i ss st).ep=st.ep
 | [],_,_=>rfl
 | s :: ss,i,st=>(zdH ss (i+1) _).trans (zNu (X:=X) (i:=i) (s:=s))
theorem zg3 {X:Nat->Bool}:∀(ss:List Step) (i:Nat) (st:St),(zO ops b X i ss st).stk=st.stk
 | [],_,_=>rfl
 | s :: ss,i,st=>(zg3 ss (i+1) _).trans (zRy (X:=X) (i:=i) (s:=s))
theorem zon {X:Nat->Bool}:∀(ss:List Step) (i:Nat) (st:St),(zO ops b X i ss st).nid=st.nid
 | [],_,_=>rfl
 | s :: ss,i,st=>(zon ss (i+1) _).trans (zRx (X:=X) (i:=i) (s:=s))
def Dead (st:St):Prop:=∀n R e,zf st.ro n=some R->R.ep=some e->e<st.ep
theorem zNP {o:Oper}{s:Step}{st:St}(h:Dead st)(h0:0<st.ep):Dead (st.step true o s):=by
 intro n R e hR he;rw[zDm];rw[zDn,zba]at hR;split at hR
 .rename_i x hx;cases hR;cases s with
  | none=>cases hx
  | some d =>
   have hm:=zkr hx;simp only[dro,jC]at hm;obtain ⟨⟨k,R0⟩,_,hk⟩:=hm;simp only[jJ]at hk;obtain ⟨_,rfl⟩:=hk;unfold zdn at he;split at he
   .simp only [qC]at he;omega
   .rename_i hne;exact absurd he (by
     cases hh:R0.ep with
     | none=>simp
     | some e'=>exact absurd hh (hne e' rfl))
 .exact h n R e hR he
theorem zqW {X:Nat->Bool}:∀(ss:List Step) (i:Nat) (st:St),Dead st->0<st.ep->Dead (zO ops true X i ss st)
 | [],_,_,h,_=>h
 | s :: ss,i,st,h,h0=>by
  refine zqW (X:=X) ss (i+1) (one ops true X i s st) ?_ (by rw[zNu];exact h0)
  unfold one;split
  .split
   .exact zNP h h0
   .exact h
  .exact h
end
section
variable {C:Cfg} {ops:Array Oper} {b:Bool} {base:Nat}
def Foot.reads (f:Foot):Key->Prop
 | .tm t=>t∈f.tm
 | .ro n=>n∈f.ro
 | .lo n=>n∈f.lo
def Foot.writes (f:Foot):Key->Prop
 | .tm t=>f.dst=some t
 | .ro n=>n∈f.wro
 | .lo n=>n∈f.wlo
theorem zk1 {a c:List Nat}(h:ztc a c=true):∀x∈a,x∉c:=by
 intro x hx;have:=qS.1 h x hx;simpa using this
theorem apart_spec {x y:Foot}(h:x.apart y=true):(∀κ,x.writes κ->¬ y.reads κ/\¬ y.writes κ)/\(∀κ,y.writes κ->¬ x.reads κ):=by
 unfold Foot.apart at h;simp only[qD]at h;obtain ⟨⟨⟨⟨⟨h1,h2⟩,h3⟩,h4⟩,h5⟩,h6⟩:=h;refine ⟨fun κ hw=>?_,fun κ hw=>?_⟩
 .cases κ with
  | tm t =>
   simp only[Foot.writes]at hw;rw[hw]at h1;simp only[qD,qZ,beq_eq_false_iff_ne,jE,decide_eq_false_iff_not]at h1;exact ⟨h1.1,h1.2⟩
  | ro n =>
   have:=zk1 h3 n hw;simp only[jL,not_or] at this;exact this
  | lo n =>
   have:=zk1 h5 n hw;simp only[jL,not_or] at this;exact this
 .cases κ with
  | tm t =>
   simp only[Foot.writes]at hw;rw[hw]at h2;simpa [Foot.reads] using h2
  | ro n=>exact zk1 h4 n hw
  | lo n=>exact zk1 h6 n hw
theorem ztd {i:Nat}{o:Oper}{S:St}{f:Foot}{s:Step}(h:At1 C ops base i o S f s)(κ:Key):wr o s κ↔f.writes κ:=by
 cases s with
 | none =>
  obtain ⟨_,rfl⟩:=h;cases κ<;>simp [wr,Foot.writes,zht]
 | some d =>
  obtain ⟨_,_,_,rfl⟩:=h;cases κ<;>simp [wr,Foot.writes,zhg,zeS]
def Does (C:Cfg)(ops:Array Oper)(base i:Nat)(o:Oper)(S:St):Step->Prop
 | some d=>zbT ops o S=some true/\zg1 C S o (base+32*i)=some d/\d.c=true
 | none=>zbT ops o S=some false
theorem zpR {o:Oper}{S S':St}(h:∀t∈zpS ops o,S'.tm[t]?=S.tm[t]?):zbT ops o S'=zbT ops o S:=by
 unfold zbT;cases hg:o.guard with
 | none=>rfl
 | some jw =>
  obtain ⟨j,want⟩:=jw;simp only;have e:guardOf S' ops j=guardOf S ops j:=by
   unfold guardOf;cases ho:ops[j]? with
   | none=>rfl
   | some o' =>
    simp only;cases hd:o'.dst with
    | none=>rfl
    | some t =>
     simp only;exact h t (by simp[zpS,hg,zfA,ho,hd])
  rw[e]
theorem zLM {S S':St}(hep:S'.ep=S.ep){n:Nat}(hn:zf S'.ro n=zf S.ro n):S'.root n=S.root n:=by
 unfold St.root;rw[hn,hep]
theorem zDP {S S':St}(hep:S'.ep=S.ep):∀(own:List Bool) (cells:List At),(∀a∈cells,∀n∈zN a,zf S'.ro n=zf S.ro n)->S'.blk own cells=S.blk own cells
 | [],[],_=>rfl
 | [],_ :: _,_=>rfl
 | _ :: _,[],_=>rfl
 | o :: ms,a :: r,h=>by
  have ih:=zDP hep ms r fun b hb=>h b (jD _ hb);have ha:=h a jO;simp only[St.blk];rw[ih];cases a with
  | sl q p =>
   cases p with
   | nil=>simp only[zLM hep (ha q (by simp[zN]))]
   | cons x p=>rfl
  | _=>rfl
theorem ztI {S S':St}(hep:S'.ep=S.ep):∀(ks:List Nat),(∀k∈ks,zf S'.ro k=zf S.ro k)->killed S' ks=killed S ks
 | [],_=>rfl
 | k :: ks,h=>by
  simp only[killed];rw[h k jO,ztI hep ks fun j hj=>h j (jD _ hj),hep]
theorem zxb {α:Type}{p q:α->Bool}:∀{l:List α},(∀a∈l,p a=q a)->l.all p=l.all q
 | [],_=>rfl
 | a :: l,h=>by
  rw[kQ,kQ,h a jO,zxb fun b hb=>h b (jD _ hb)]
theorem zMd {S S':St}{L:List Operand}(h:Agree S S' L){ks:List Nat}{x:Operand}(hx:x∈L){m:MV}(hm:S.opnd x=some m):S'.avF ks m=S.avF ks m:=by
 unfold St.avF;have e:zuZ S' ks m=zuZ S ks m:=by
  unfold zuZ;refine zxb fun a ha=>zxb fun r hr=>?_;rw[h.rootN ((h.id x hx m hm a ha).1 r hr)]
 rw[e,h.avOf hx hm]
theorem zHZ {S S':St}{o:Oper}{id:Nat}(h:Agree S S' (callArgs o))(hd:∀x∈callArgs o,∀l off,S.at x=some (.lp l off)->∀cells,zf S.lo l=some cells->∀a∈cells,∀n∈zN a,zf S'.ro n=zf S.ro n):ziA C S' o id=ziA C S o id:=by
 unfold ziA;cases ziR C o with
 | none=>rfl
 | some y =>
  obtain ⟨own,run⟩:=y;simp only;cases hc:callArgs o with
  | nil=>rfl
  | cons x ys =>
   rw[hc]at h hd;simp only[zDg];have hat:S'.at x=S.at x:=h.at jO;rw[hat];split
   .rename_i l hl;have hlo:zf S'.lo l=zf S.lo l:=h.loc (zcB jO hl);rw[hlo];split
    .rename_i cells hcells;have hcell:=hd x jO l 0 hl cells hcells;rw[zDP h.ep own cells hcell];split
     .rename_i cs ks hb;have B:=zFZ own cells cs ks hb;have hk:killed S' ks=killed S ks:=ztI h.ep ks fun k hk=>by
       obtain ⟨j,_,hj⟩:=B.ownk k hk;exact hcell _ (qI hj) k (by simp[zN])
      have ha:zbw (zFW S' ks) ys=zbw (zFW S ks) ys:=by
       refine zhh fun y hy=>?_;unfold zFW;rw[h.op y (jD _ hy)];cases hm:S.opnd y with
       | none=>rfl
       | some m=>exact zMd h (jD _ hy) hm
      rw[ha,hk]
     .rfl
    .rfl
   .rfl
theorem zo7 {o:Oper}:∀x∈callArgs o,x∈o.op.operands.toList:=by
 intro x hx;unfold callArgs at hx;split at hx
 .rename_i c hc;rw[hc];simp only[Op.operands,Call.operands];simp
  first
   | exact .inr (by simpa using hx)
   | exact .inl (by simpa using hx)
   | simp_all
 .cases hx
theorem zFX {i:Nat}{o:Oper}{S S':St}{f:Foot}{s:Step}(h:At1 C ops base i o S f s)(hep:S'.ep=S.ep)(hr:∀κ,f.reads κ->S'.get κ=S.get κ):Does C ops base i o S' s:=by
 cases s with
 | none =>
  obtain ⟨h1,rfl⟩:=h
  show zbT ops o S'=some false
  rw[zpR (S:=S) (fun t ht=>zzF (hr (.tm t) (by simpa [Foot.reads,zht] using ht)))]
  exact h1
 | some d =>
  obtain ⟨h1,h2,h3,rfl⟩:=h;have htm:∀t,t∈zeU o++zpS ops o->S'.tm[t]?=S.tm[t]?:=fun t ht=>zzF (hr (.tm t) ht);have hop:∀x∈o.op.operands.toList,S'.opnd x=S.opnd x:=by
   intro x hx;cases x with
   | tmp t =>
    have ht:t∈zeU o:=by
     unfold zeU;exact kS.2 ⟨_,hx,rfl⟩
    simp only[St.opnd,htm t (jV _ ht)]
   | _=>rfl
  refine ⟨?_,?_,h3⟩
  .rw [zpR (S:=S) (fun t ht=>htm t (j8 _ ht))];exact h1
  .rw [<- h2];have hA:∀x∈o.op.operands.toList,∀m,S.opnd x=some m->∀a∈zX m,a∈zmK S o:=fun x hx m hm a ha=>by
    unfold zmK;exact qP.2 ⟨m,kS.2 ⟨x,hx,hm⟩,ha⟩
   have hG:Agree S S' o.op.operands.toList:=⟨hep,hop,fun x hx m hm a ha=>⟨fun n hn=>ztp (hr (.ro n) (jV _ (qP.2 ⟨a,hA x hx m hm a ha,hn⟩))),fun n hn=>zzE (hr (.lo n) (qP.2 ⟨a,hA x hx m hm a ha,hn⟩))⟩⟩;unfold zg1;rw[zI1 hG];cases hdl:delta C S o (base+32*i) with
   | some d'=>rfl
   | none =>
    simp only;cases hp:ziR C o with
    | none=>simp only[ziA,hp]
    | some y =>
     refine zHZ ⟨hep,fun x hx=>hop x (zo7 x hx),fun x hx m hm a ha=>hG.id x (zo7 x hx) m hm a ha⟩ fun x hx l off hl cells hcells a ha n hn=>?_;refine ztp (hr (.ro n) ?_)
     show n∈(zeS S ops o d).ro++cond (ziR C o).isSome (zzu S o) []
     rw[hp];refine j8 _ ?_
     show n∈zzu S o
     unfold zzu;refine qP.2 ⟨.lp l off,?_,?_⟩
     .obtain ⟨m,hm,hma⟩:∃m,S.opnd x=some m/\At.lp l off∈zX m:=⟨_,zBv hl,by simp[zX,zy]⟩
      exact hA x (zo7 x hx) m hm _ hma
     .simp only [hcells];exact qP.2 ⟨a,ha,hn⟩
structure Free (C:Cfg) (ops:Array Oper) (cl:List (List Nat)) (b:Bool) (base a:Nat) (ss:List Step) (st0:St):Prop where
 at1:∀i s,ss[i]?=some s->∃o f,ops[a+i]?=some o/\At1 C ops base (a+i) o (zO ops b (fun j=>decide (j<a+i)) a ss st0) f s
 apart:∀i k s s' o o' f f',ss[i]?=some s->ss[k]?=some s'->ops[a+i]?=some o->ops[a+k]?=some o'->At1 C ops base (a+i) o (zO ops b (fun j=>decide (j<a+i)) a ss st0) f s ->
  At1 C ops base (a+k) o' (zO ops b (fun j=>decide (j<a+k)) a ss st0) f' s'->i<k->a+i∉cl.getD (a+k) []->f.apart f'=true
def ze5 (cl:List (List Nat))(X:Nat->Bool):Prop:=∀k,X k=true->∀j∈cl.getD k [],X j=true
variable {cl:List (List Nat)} {ss:List Step} {st0:St} {a:Nat}
theorem zxd {i:Nat}{o:Oper}{S:St}{f f':Foot}{s:Step}(h:At1 C ops base i o S f s)(h':At1 C ops base i o S f' s):f=f':=by
 cases s with
 | none=>rw[h.2,h'.2]
 | some d=>rw[h.2.2.2,h'.2.2.2]
theorem zzD (F:Free C ops cl b base a ss st0){X:Nat->Bool}(hX:ze5 cl X){i:Nat}{s:Step}(hs:ss[i]?=some s)(hXi:X (a+i)=false)(hr:∀j∈cl.getD (a+i) [],X j=true) :
 ∃o f,ops[a+i]?=some o/\At1 C ops base (a+i) o (zO ops b (fun j=>decide (j<a+i)) a ss st0) f s/\∀κ,f.reads κ->(zO ops b X a ss st0).get κ=(zO ops b (fun j=>decide (j<a+i)) a ss st0).get κ:=by
 obtain ⟨o,f,ho,h1⟩:=F.at1 i s hs;refine ⟨o,f,ho,h1,fun κ hκ=>?_⟩;refine zk5 ss a st0 st0 rfl rfl (fun k s' o' hk ho' hne hw=>?_);obtain ⟨o2,f',ho2,h2⟩:=F.at1 k s' hk;rw[ho']at ho2;cases ho2;have hw':=(ztd h2 κ).1 hw
 by_cases hlt:k<i
 .have hXk:X (a+k)=false:=by
   have hlt':a+k<a+i:=by omega
   simp only[hlt',decide_true]at hne;simpa using hne
  have hn:a+k∉cl.getD (a+i) []:=fun h=>by rw[hr (a+k) h]at hXk;cases hXk
  exact ((apart_spec (F.apart k i s' s o' o f' f hk hs ho' ho h2 h1 hlt hn)).1 κ hw').1 hκ
 .have hXk:X (a+k)=true:=by
   have hlt':¬ (a+k<a+i):=by omega
   simp only[hlt',decide_false]at hne;simpa using hne
  have hlt':i<k:=by
   have:i≠k:=fun e=>by rw[e,hXk]at hXi;cases hXi
   omega
  have hn:a+i∉cl.getD (a+k) []:=fun h=>by rw[hX (a+k) hXk (a+i) h]at hXi;cases hXi
  exact (apart_spec (F.apart i k s s' o o' f f' hs hk ho ho' h1 h2 hlt' hn)).2 κ hw' hκ
theorem zDZ (F:Free C ops cl b base a ss st0){X:Nat->Bool}(hX:ze5 cl X){i:Nat}{s:Step}(hs:ss[i]?=some s)(hXi:X (a+i)=false)(hr:∀j∈cl.getD (a+i) [],X j=true) :
 ∃o,ops[a+i]?=some o/\Does C ops base (a+i) o (zO ops b X a ss st0) s:=by
 obtain ⟨o,f,ho,h1,h2⟩:=zzD F hX hs hXi hr;exact ⟨o,ho,zFX h1 (by rw[zdH,zdH]) h2⟩
theorem zxt (F:Free C ops cl b base a ss st0){X Y:Nat->Bool}(hX:ze5 cl X){i:Nat}{s:Step}{o:Oper}(hs:ss[i]?=some s)(ho:ops[a+i]?=some o)(hXi:X (a+i)=false)(hY:∀k,Y k=(X k||k==a+i))(κ:Key) :
 (zO ops b Y a ss st0).get κ=((zO ops b X a ss st0).step b o s).get κ:=by
 refine zM0 hY ho hs (fun k s' o' hk ho' hlt hXk κ hw hw'=>?_) κ;obtain ⟨o1,f,ho1,h1⟩:=F.at1 i s hs;rw[ho]at ho1;cases ho1;obtain ⟨o2,f',ho2,h2⟩:=F.at1 k s' hk;rw[ho']at ho2;cases ho2;have hn:a+i∉cl.getD (a+k) []:=fun h=>by rw[hX (a+k) hXk (a+i) h]at hXi;cases hXi
 exact ((apart_spec (F.apart i k s s' o o' f f' hs hk ho ho' h1 h2 hlt hn)).1 κ ((ztd h1 κ).1 hw)).2 ((ztd h2 κ).1 hw')
theorem zKW {st:St}{o:Oper}{id i:Nat}{d:Dl}(ho:ops[i]?=some o)(h:delta C st o id=some d)(hb:zC7 ops i=false)(hh:(zve C&&zGv o)=false):d.bump=false:=by
 simp only[zC7,ho]at hb;cases hop:o.op<;>simp only [hop]at hb<;>simp only [delta,hop]at h
 case store=>cases hb
 case buildSlice=>cases hb
 case call c =>
  split at h
  case h_4 hc=>rw[hc]at hb;cases hb
  all_goals (repeat' (first|split at h|cases h))
  all_goals rfl
 case slice T x lo hi mx =>
  cases mx with
  | some m=>simp at h
  | none =>
   cases lo with
   | none =>
    cases hi with
    | none =>
     repeat' (first|contradiction|split at h|cases h)
     all_goals (first|rfl|contradiction|(exfalso;simp_all))
    | some hi' =>
     have hc:zve C=false:=by
      simp only[zGv,hop,Bool.and_true]at hh;exact hh
     repeat' (first|contradiction|split at h|cases h)
     all_goals (first|(simp only [zxr,hc,Bool.false_and];done)|rfl|contradiction|(exfalso;simp_all))
   | some lo' =>
    cases hi with
    | none=>cases hb
    | some hi' =>
     repeat' (first|contradiction|split at h|cases h)
     all_goals (first|rfl|contradiction|(exfalso;simp_all))
 case binOp =>
  simp only[ztl]at h
  repeat' (first|split at h|cases h)
  all_goals rfl
 all_goals (repeat' (first|contradiction|split at h|cases h))
 all_goals (first|rfl|contradiction)
theorem zI0 {st:St}{o:Oper}{id i:Nat}{d:Dl}(ho:ops[i]?=some o)(h:zg1 C st o id=some d)(hb:zga C ops i=false):d.bump=false:=by
 unfold zga at hb;rw[uJ]at hb;unfold zg1 at h;cases hd:delta C st o id with
 | some d' =>
  rw[hd]at h;cases h;have h2:=hb.2;rw[ho]at h2;have h2:((ziR C o).isSome||(zve C&&zGv o))=false:=h2;rw[uJ]at h2;exact zKW ho hd hb.1 h2.2
 | none =>
  rw[hd]at h;exfalso;have h2:=hb.2;rw[ho]at h2;have h2:((ziR C o).isSome||(zve C&&zGv o))=false:=h2;rw[uJ]at h2;have h2:=h2.1;have h:ziA C st o id=some d:=h;unfold ziA at h;cases hp:ziR C o with
  | none=>rw[hp]at h;cases h
  | some y=>rw[hp]at h2;cases h2
end
section
variable {C:Cfg} {w0 w w1:World} {S0:zI} {U:Nat->Prop} {st st1:St} {E E1:Env} {ts:Array Value} {sv:List (Array Value)}
variable {ops:Array Oper} {b:Bool} {base:Nat} {cl:List (List Nat)} {ss:List Step} {st0:St}
theorem zKV {R R':Root}(h:zdn b R=R')(he:R'.ep=none):R=R':=by
 unfold zdn at h;split at h
 .subst h;cases he
 .exact h
theorem zNn {l:List (Nat×Root)}{n:Nat}{R:Root}(h:zf (l.map (fun (x:Nat×Root)=>(x.1,zdn b x.2))) n=some R):∃R0,zf l n=some R0/\zdn b R0=R:=by
 induction l with
 | nil=>cases h
 | cons a l ih =>
  obtain ⟨k,v⟩:=a;simp only[jG,zf]at h ⊢;split at h
  .cases h;rename_i hk;rw[if_pos hk];exact ⟨v,rfl,rfl⟩
  .rename_i hk;rw[if_neg hk];exact ih h
theorem zLv {l:List (Nat×Root)}{n:Nat}(h:zf (l.map (fun (x:Nat×Root)=>(x.1,zdn b x.2))) n=none):zf l n=none:=by
 induction l with
 | nil=>rfl
 | cons a l ih =>
  obtain ⟨k,v⟩:=a;simp only[jG,zf]at h ⊢;split at h
  .cases h
  .rename_i hk;rw[if_neg hk];exact ih h
theorem zKJ {o:Oper}{d:Dl}(hb:b=false->d.bump=false)(hd:b=true->Dead st/\0<st.ep)(hS:Sim w0 S0 U (st.apply o.dst d) E ts sv w):Sim w0 S0 U (st.effD b o.dst d) E ts sv w:=by
 have h1:∀t:Nat,(st.effD b o.dst d).tm[t]?=(st.apply o.dst d).tm[t]?:=fun t=>by
  unfold St.effD St.apply;cases o.dst<;>rfl
 have h2:(st.effD b o.dst d).lo=(st.apply o.dst d).lo:=by
  unfold St.effD St.apply;cases o.dst<;>rfl
 have h3:(st.effD b o.dst d).stk=(st.apply o.dst d).stk:=by
  unfold St.effD St.apply;cases o.dst<;>rfl
 have h4:(st.effD b o.dst d).ro=d.ro.map (fun (x:Nat×Root)=>(x.1,zdn b x.2))++st.ro:=by
  unfold St.effD;cases o.dst<;>rfl
 have h5:(st.apply o.dst d).ro=d.ro++st.ro:=by
  unfold St.apply;cases o.dst<;>rfl
 have h6:(st.effD b o.dst d).ep=st.ep:=by
  unfold St.effD;cases o.dst<;>rfl
 have h7:(st.apply o.dst d).ep=if d.bump then st.ep+1 else st.ep:=by
  unfold St.apply;cases o.dst<;>rfl
 cases b with
 | false =>
  have hf:d.bump=false:=hb rfl;have hmap:d.ro.map (fun (x:Nat×Root)=>(x.1,zdn false x.2))=d.ro:=by
   have:(fun (x:Nat×Root)=>(x.1,zdn false x.2))=id:=by
    funext x
    rfl
   rw[this,List.map_id]
  have hro:(st.effD false o.dst d).ro=(st.apply o.dst d).ro:=by rw[h4,h5,hmap]
  have hep:(st.effD false o.dst d).ep=(st.apply o.dst d).ep:=by rw[h6,h7,hf];rfl
  exact hS.fewer h1 (fun n=>by rw[h2]) h3 (fun n R h=>by simpa only [St.root,hro,hep] using h) (fun n R h=>⟨R,by rw[<- hro];exact h⟩) (fun n R e h he=>by rw[hep];exact hS.mem.epo n R e (by rw[<- hro];exact h) he)
 | true =>
  obtain ⟨hdd,h0⟩:=hd rfl;have look:∀n R,zf (st.effD true o.dst d).ro n=some R->∃R0,zf (st.apply o.dst d).ro n=some R0/\(zdn true R0=R\/(R0=R/\zf st.ro n=some R)):=by
   intro n R h;rw[h4,zba]at h;rw[h5,zba];split at h
   .rename_i x hx;cases h;obtain ⟨R0,g1,g2⟩:=zNn hx;exact ⟨R0,by rw[g1],.inl g2⟩
   .rename_i hx;rw[zLv hx];exact ⟨R,h,.inr ⟨rfl,h⟩⟩
  have dead0:∀R0:Root,(zdn true R0).ep=none\/(zdn true R0).ep=some 0:=by
   intro R0;cases hh:R0.ep with
   | none=>left;simp[zdn,hh]
   | some e=>right;simp[zdn,hh]
  have live:∀n R,(st.effD true o.dst d).root n=some R->R.ep=none/\zf (st.effD true o.dst d).ro n=some R:=by
   intro n R h;obtain ⟨h8,h9⟩:=zS h;refine ⟨?_,h8⟩;rcases h9 with h9|h9
   .exact h9
   .exfalso;rw[h6]at h9;obtain ⟨R0,_,g2⟩:=look n R h8;rcases g2 with g2|⟨_,g2⟩
    .have:=dead0 R0;rw[g2,h9] at this;rcases this with h|h
     .cases h
     .simp only [qC]at h;omega
    .have:=hdd n R _ g2 h9;omega
  refine hS.fewer h1 (fun n=>by rw[h2]) h3 (fun n R h=>?_) (fun n R h=>?_) (fun n R e h he=>?_)
  .obtain ⟨g1,g2⟩:=live n R h;obtain ⟨R0,g3,g4⟩:=look n R g2;have e:R0=R:=by
    rcases g4 with g4|⟨g4,_⟩
    .exact zKV g4 g1
    .exact g4
   subst e;unfold St.root;rw[g3];simp only[g1]
  .obtain ⟨R0,g3,_⟩:=look n R h;exact ⟨R0,g3⟩
  .rw [h6];obtain ⟨R0,_,g2⟩:=look n R h;rcases g2 with g2|⟨_,g2⟩
   .have:=dead0 R0;rw[g2,he] at this;rcases this with h|h
    .cases h
    .simp only [qC]at h;omega
   .have:=hdd n R e g2 he;omega
def UX (U:Nat->Prop)(base a T:Nat)(X:Nat->Bool)(n:Nat):Prop:=U n\/∃i,a<=i/\i<T/\X i=true/\Mine (base+32*i) n
theorem Sim.uses {U':Nat->Prop}(h:Sim w0 S0 U st E ts sv w)(hU:∀n,U n->U' n):Sim w0 S0 U' st E ts sv w :=
 ⟨h.mem,⟨fun n R hn=>hU n (h.ids.ro n R hn),fun n cs hn=>⟨hU n (h.ids.lo n cs hn).1,fun a ha m hm=>hU m ((h.ids.lo n cs hn).2 a ha m hm)⟩,fun m hm n hn=>hU n (h.ids.tm m hm n hn),fun f hf m hm n hn=>hU n (h.ids.stk f hf m hm n hn)⟩,h.tm,h.stk⟩
theorem zGl (hC:CfgOk C)(hH:CtrOk C)(hG:GraftOk C)(hS:Sim w0 S0 U st E ts sv w){o:Oper}{id:Nat}(hid:∀n,Mine id n->¬ U n){d:Dl}(h:zg1 C st o id=some d)(hc:d.c=true):Goes C w0 S0 U st ts sv w o id (fun st=>st.apply o.dst d):=by
 unfold zg1 at h;cases hd:delta C st o id with
 | some d' =>
  rw[hd]at h;cases h;exact zwo hC hH hS hid hd hc
 | none =>
  rw[hd]at h;have e:∃st2,zvl C st o id=some (d.c,st2,d.v)/\st2.put o.dst d.v=st.apply o.dst d:=by
   simp only[ziA]at h;unfold ziR callArgs at h;unfold zvl;split at h
   .rename_i own run hp;split at hp
    .rename_i c ho;split at hp
     .rename_i f hcb;have hcf:zBx o=f:=by simp only[zBx,ho,hcb]
      rw[hcf]at h;simp only[ho,hcb,hp]at h ⊢;generalize c.args.toList=args at h ⊢;unfold zDg at h;unfold zHQ;split at h
      .split at h
       .split at h
        .split at h
         .split at h
          .split at h
           .split at h
            .split at h
             .rename_i h1 _ _ h2 _ _ _ h3 _ _ h4 _ _ _ _ h5 _ _ h6 h7;cases h;simp only[*];refine ⟨_,rfl,?_⟩;unfold St.apply;simp[kC]
             .cases h
            .cases h
           .cases h
          .cases h
         .cases h
        .cases h
       .cases h
      .cases h
     .cases hp
    .cases hp
   .cases h
  obtain ⟨st2,h1,h2⟩:=e;have k:=(hG.pok w0 w S0 U st E ts sv o id d.c st2 d.v hS hid h1 hc).1;rw[h2] at k;exact k
theorem zto (hC:CfgOk C)(hH:CtrOk C)(hG:GraftOk C){a T:Nat}(hT:a+ss.length=T)(F:Free C ops cl b base a ss st0){X Y:Nat->Bool}(hX:ze5 cl X){i:Nat}(hia:a<=i)(hi:i<T)(hXi:X i=false)(hr:∀j∈cl.getD i [],X j=true)(hb:b=false->∀k,a<=k->k<T->zga C ops k=false)(hd:b=true->Dead st0/\0<st0.ep)(hM:∀k,a<=k->k<T->∀n,Mine (base+32*k) n->¬ U n)(hY:∀k,Y k=(X k||k==i))(hS:Sim w0 S0 (UX U base a T X) (zO ops b X a ss st0) E ts sv w){Q:Exit->Act->World->Prop}{K:Act->World->Prop}(hK:∀(E':Env) (ts':Array Value) (w':World),Sim w0 S0 (UX U base a T Y) (zO ops b Y a ss st0) E' ts' sv w'->K { tmps:=ts',defers:=[] } w') :
 wpOp C.P ops Q i K { tmps:=ts,defers:=[] } w:=by
 obtain ⟨j,rfl⟩:∃j,i=a+j:=⟨i-a,by omega⟩
 obtain ⟨s,hs⟩:∃s,ss[j]?=some s:=⟨_,qB (by omega)⟩
 obtain ⟨o,ho,hdo⟩:=zDZ F hX hs hXi hr;have hsub:∀n,UX U base a T X n->UX U base a T Y n:=by
  rintro n (h|⟨k,h0,h1,h2,h3⟩)
  .exact .inl h
  .exact .inr ⟨k,h0,h1,by rw[hY,h2];rfl,h3⟩
 have fin:∀{E':Env} {ts':Array Value} {w':World},Sim w0 S0 (UX U base a T Y) ((zO ops b X a ss st0).step b o s) E' ts' sv w'->K { tmps:=ts',defers:=[] } w':=by
  intro E' ts' w' h;refine hK E' ts' w' (h.same (fun κ=>zxt F hX hs ho hXi hY κ) ?_ ?_)
  .rw [zg3,zIk,zg3]
  .rw [zdH,zDm,zdH]
 unfold wpOp;simp only[ho];cases s with
 | none =>
  rw[if_neg (by simp[ztr hS hdo])]
  have h2:=hS.putV (dst:=o.dst) (m:=.und) (v:=undef) rfl (fun n hn=>by simp[MV.ids,zX]at hn)
  rw[ze6];exact fin (h2.uses hsub)
 | some d =>
  obtain ⟨h1,h2,h3⟩:=hdo;rw[if_pos (ztr hS h1)];refine .inl (zGl hC hH hG hS (id:=base+32*(a+j)) ?_ h2 h3 _ _ (fun E' v w' hS'=>?_))
  .rintro n hn (h|⟨k,_,g1,g2,g3⟩)
   .exact hM (a+j) hia hi n hn h
   .refine zKg (i:=k) (j:=a+j) (fun e=>?_) g3 hn;rw[e,hXi] at g2;cases g2
  .rw [ze6];refine fin ((zKJ (fun hb'=>zI0 ho h2 (hb hb' (a+j) hia hi)) (fun hb'=>?_) hS').uses ?_)
   .subst hb';exact ⟨zqW ss a st0 (hd rfl).1 (hd rfl).2,by rw[zdH];exact (hd rfl).2⟩
   .rintro n (h|h)
    .exact hsub n h
    .exact .inr ⟨a+j,hia,hi,by rw[hY];simp,h⟩
end
section
variable {C:Cfg} {w0 w w1:World} {S0:zI} {U:Nat->Prop} {st st1:St} {E E1:Env} {ts:Array Value} {sv:List (Array Value)}
theorem zLw (t:Ty)(x:t.den):t.ofCells (t.cells x)=some x:=by
 cases t<;>first|rfl|simp[Ty.ofCells,Ty.cells]
theorem zEc:∀(p:List (Int×Nat)) {t:Ty} {l:List t.den} {cv:CV},zet t l p=some cv->∀m,zkL t l p cv=some m->m=l
 | [],t,l,cv,h,m,hm=>by
  simp only[zet,qC]at h;subst h;simpa [zkL] using hm.symm
 | (i,j) :: p,t,l,cv,h,m,hm=>by
  simp only[zet]at h;simp only[zkL]at hm;split at h
  .rename_i t1 l1 hc;rw[hc]at hm;simp only at hm;split at hm
   .rename_i l2 hl2;have:=zEc p h l2 hl2;subst this;split at hm
    .rename_i x hx;cases hm;have hj:j<(t.cells (ix l i t.dflt)).length:=(qA.1 hc).1;have hs:splice (t.cells (ix l i t.dflt)) j [CV.s t1 l2]=t.cells (ix l i t.dflt):=zw1 _ _ _ (by simp;omega) (fun k hk=>by
      have:k=0:=by simpa using hk
      subst this;simpa using hc)
     rw[hs,zLw]at hx;cases hx;unfold up ix;apply kT;intro k;rw[jA];split
     .rename_i hk;subst hk;split
      .rename_i hlt;simp[List.getD,qB hlt]
      .rename_i hlt;rw[List.getElem?_eq_none (by omega)]
     .rfl
    .cases hm
   .cases hm
  .cases h
theorem zOM {t:Ty}(hf:t.flat=true):∀(q:List (Int×Nat)) (v u:Value),zD w t v q=some u->q=[]
 | [],_,_,_=>rfl
 | (i,j) :: q,v,u,h=>by
  exfalso;cases v with
  | slice a len cap =>
   cases a with
   | none=>simp[zD]at h
   | some a =>
    simp only[zD]at h;split at h
    .split at h
     .rename_i t' hsh;unfold Ty.flat at hf;have:=qS.1 hf _ (qI hsh);simp at this
     .cases h
    .cases h
  | _=>simp[zD]at h
theorem zRB (hC:CfgOk C){T:TypeId}{t:Ty}(hT:C.sty T=some t)(hf:t.flat=true){v1 v2:Value}{l1 l2:List t.den}{S1 S2:zI}(hrep1:Rep true w v1 (.s t l1) S1)(hrep2:Rep false w v2 (.s t l2) S2)(hl2:l2≠[])(hfew:few (ln (ap l1 l2))=true)(oT:TypeId) :
 ∃(v:Value) (w':World) (bv offv cap:Nat),(Builtin.append_ #[T,T] oT #[v1,v2]).run C.P w = .ok v w'/\v = .slice (some ⟨bv,offv,none⟩) (ap l1 l2).length cap/\Rep true w' v (.s t (ap l1 l2)) (fun x=>x=bv) /\
  w'.os=w.os/\w'.tape=w.tape/\w'.output=w.output /\
  ((bv=w.heap.size/\w'.heap.size=w.heap.size+1/\∀x,x<w.heap.size->w'.heap[x]?=w.heap[x]?) \/
    ∃off1 cap1,v1 = .slice (some ⟨bv,off1,none⟩) l1.length cap1/\S1 bv/\w'.heap.size=w.heap.size/\(∀x,x≠bv->w'.heap[x]?=w.heap[x]?)/\Rep true w' v1 (.s t l1) S1):=by
 obtain ⟨e,hE⟩:=hC.sty T t hT;obtain ⟨i,z,hi,hs,hz,hzc,hby⟩:=hE.info;obtain ⟨f0,f1⟩:=zBB hfew;have hlen:l1.length+l2.length<=2147483648:=by simp only[ln,ap,uN] at f1;omega
 have hapl:(ap l1 l2).length=l1.length+l2.length:=by simp[ap]
 cases hrep2 with
 | nil=>exact absurd rfl hl2
 | void=>exact absurd rfl hl2
 | sl _ _ b2 off2 cap2 arr2 e2 fz2 V2 K2 _ hb2 hfz2 hlen2 hcap2 hsz2 hS2 hsub2 hdis2 hvv2 hcc2 =>
 have hm0:0<l2.length:=List.length_pos_iff.2 hl2;have hmul2:l2.length*t.width<=cap2*t.width:=qL _ hcap2;generalize hnews:(arr2.toList.drop off2).take (l2.length*t.width)=news;have hnl:news.length=l2.length*t.width:=by rw[<- hnews];simp;omega
 have hnat:∀k,k<l2.length*t.width->news[k]?=arr2[off2+k]?:=by
  intro k hk;rw[<- hnews,jH,if_pos hk,jK];simp
 have hnc:∀j u,news[j]?=some u->w.cell? ((⟨b2,off2,none⟩:Addr).add j)=some u:=by
  intro j u hu;have hj:j<l2.length*t.width:=by rw[<- hnl];exact (qA.1 hu).1
  rw[add_lit,cell_of_block hb2,<- hnat j hj];exact hu
 have hrow2:∀i j,i<l2.length->j<t.width->i*t.width+j<l2.length*t.width:=by
  intro i j hi hj;have:(i+1)*t.width<=l2.length*t.width:=qL _ hi;rw[jB] at this;omega
 have hnv:∀i j,i<l2.length->j<t.width->news[i*t.width+j]?=some (V2 i j):=by
  intro i j hi hj;rw[hnat _ (hrow2 i j hi hj),<- k5];exact hvv2 i j hi hj
 have hwp:=zuW t;have hn1:∀u∈news,u.oneCell'=true:=by
  intro u hu;obtain ⟨k,hk⟩:=qR.1 hu;have hkl:k<l2.length*t.width:=by rw[<- hnl];exact (qA.1 hk).1
  have hki:k / t.width<l2.length:=(Nat.div_lt_iff_lt_mul hwp).2 hkl;have hkj:k % t.width<t.width:=Nat.mod_lt _ hwp;have:=hnv _ _ hki hkj;rw[Nat.mul_comm,Nat.div_add_mod,hk] at this;cases this;have hx:=qB hki;have hcj:(t.cells (l2[k / t.width]'hki))[k % t.width]?=some ((t.cells (l2[k / t.width]'hki))[k % t.width]'(by rw[zbE];exact hkj)):=qB _
  exact (hcc2 _ _ hx _ _ hcj).one
 have hcc2':∀(w1:World) i x,l2[i]?=some x->∀j c,(t.cells x)[j]?=some c->Rep true w1 (V2 i j) c (fun _=>False):=fun w1 i x hx j c hcj=>(hcc2 i x hx j c hcj).flat (zom hf hcj);have hrow1:∀i j,i<l1.length->j<t.width->i*t.width+j<l1.length*t.width:=by
  intro i j hi hj;have:(i+1)*t.width<=l1.length*t.width:=qL _ hi;rw[jB] at this;omega
 have hbytes:(l1.length+l2.length)*i.bytes<=140737488355328:=by
  have:=kP hlen hby;omega
 have hzsz:z.cells.size=t.width:=by rw[<- j7,hzc];simp[zc5]
 have grown:∀(olds:List Value) (cap':Nat) (V1:Nat->Nat->Value) (zs:Array Value),olds.length=l1.length*t.width->l1.length+l2.length<=cap'->zs.size=(cap'-(l1.length+l2.length))*t.width ->
  (∀i j,i<l1.length->j<t.width->olds[i*t.width+j]?=some (V1 i j)) ->
  (∀i x,l1[i]?=some x->∀j c,(t.cells x)[j]?=some c->∃S,Rep true w (V1 i j) c S) ->
  (Builtin.append_ #[T,T] oT #[v1,.slice (some ⟨b2,off2,none⟩) l2.length cap2]).run C.P w = .ok (.slice (some ⟨w.heap.size,0,none⟩) (l1.length+l2.length) cap') (w.drew.alloc (.cells (olds.toArray++news.toArray++zs) e (0,0))) ->
  ∃(v:Value) (w':World) (bv offv cap:Nat),(Builtin.append_ #[T,T] oT #[v1,.slice (some ⟨b2,off2,none⟩) l2.length cap2]).run C.P w = .ok v w'/\v = .slice (some ⟨bv,offv,none⟩) (ap l1 l2).length cap/\Rep true w' v (.s t (ap l1 l2)) (fun x=>x=bv) /\
  w'.os=w.os/\w'.tape=w.tape/\w'.output=w.output /\
  ((bv=w.heap.size/\w'.heap.size=w.heap.size+1/\∀x,x<w.heap.size->w'.heap[x]?=w.heap[x]?) \/
    ∃off1 cap1,v1 = .slice (some ⟨bv,off1,none⟩) l1.length cap1/\S1 bv/\w'.heap.size=w.heap.size/\(∀x,x≠bv->w'.heap[x]?=w.heap[x]?)/\Rep true w' v1 (.s t l1) S1):=by
  intro olds cap' V1 zs hol hcap' hzs ho1 hc1 hr;generalize hw1:w.drew.alloc (.cells (olds.toArray++news.toArray++zs) e (0,0))=w1 at hr;have hsame:∀x,x<w.heap.size->w1.heap[x]?=w.heap[x]?:=fun x hx=>by rw[<- hw1];exact heap_alloc_old w.drew _ x hx
  have hsize:w1.heap.size=w.heap.size+1:=by rw[<- hw1];simp
  refine ⟨_,w1,w.heap.size,0,cap',hr,by rw[hapl],?_,by rw[<- hw1];rfl,by rw[<- hw1];rfl,by rw[<- hw1];rfl,.inl ⟨rfl,hsize,hsame⟩⟩
  refine Rep.join (arr:=olds.toArray++news.toArray++zs) (e:=e) (V1:=V1) (V2:=V2) (K1:=fun _ _ _=>False) (K2:=fun _ _ _=>False) ?_ (by simp only[big];omega) hcap' ?_ rfl ?_ ?_ ?_ (hcc2' w1) (fun _ _ _ _ _ h=>h.elim) (fun _ _ _ _ _ h=>h.elim) (fun _ _ _ _ _ _ _ _ _ h=>h.elim) (fun _ _ _ _ _ _ _ _ _ h=>h.elim) (fun _ _ _ _ _ _ _ _ _ h=>h.elim)
  .rw [<- hw1];exact heap_alloc_new w.drew _
  .simp only [Array.size_append,jU,hol,hnl,hzs,<- kI];have:l1.length+l2.length+(cap'-(l1.length+l2.length))=cap':=by omega
   rw[this];omega
  .intro i j hi hj;have:=hrow1 i j hi hj;rw[jY,k8,jX (by simp[hol];exact this)]
   simpa using ho1 i j hi hj
  .intro i j hi hj;have:=hrow2 i j hi hj;rw[jY,kI,k8,kD (by simp[hol];omega),jX (by simp[hol,hnl];omega)]
   rw[<- hnv i j hi hj];simp only[jU,hol,q9]
   congr 1
   omega
  .intro i x hx j c hcj;obtain ⟨S,hr⟩:=hc1 i x hx j c hcj;exact hr.flat (zom hf hcj)
 cases hrep1 with
 | nil =>
  have hr:=run_append_nil (P:=C.P) w T oT e i z hE.und hi hz ⟨b2,off2,none⟩ l2.length cap2 news (by rw[hs];exact hnl) hnc hm0 (by omega) (by
   have:=kP (show l2.length<=2147483648 by omega) hby
   omega)
  have hge:=grownCap_ge w l2.length 0 e;refine grown [] (grownCap w l2.length 0 e) (fun _ _=>undef) (Builtin.zeroCells z.cells (grownCap w l2.length 0 e-l2.length)) (by simp) (by simpa using hge) (by simp[size_zeroCells,hzsz]) (fun i j hi=>by simp at hi) (fun i x hx=>by simp at hx) ?_
  rw[hr];simp
 | void _ _ _ ho=>cases ho
 | sl _ _ b off cap arr e1 fz V1 K1 _ hb hfz hlen1 hcap1 hsz1 hS1 hsub1 hdis1 hvv1 hcc1 =>
  have hfz':=hfz rfl;subst hfz';have hmul1:l1.length*t.width<=cap*t.width:=qL _ hcap1
  by_cases hroom:l1.length+l2.length<=cap
  .have hmulr:(l1.length+l2.length)*t.width<=cap*t.width:=qL _ hroom;rw[kI]at hmulr;have hr:=run_append_room' (P:=C.P) (w:=w) T oT e i hE.und hi b off l1.length cap arr e1 hb ⟨b2,off2,none⟩ l2.length cap2 news (by rw[hs];exact hnl) hnc hn1 hroom (by rw[hs,hnl];omega)
   rw[hs]at hr;have hbs:off+l1.length*t.width+news.length<=arr.toList.length:=by rw[hnl];simp;omega
   generalize hw1:w.setRow b (splice arr.toList (off+l1.length*t.width) news).toArray=w1 at hr;have hb1:w1.heap[b]?=some (.cells (splice arr.toList (off+l1.length*t.width) news).toArray e1 (0,0)):=by rw[<- hw1];exact setRow_heap w b _ _ e1 _ hb
   have hoth:∀x,x≠b->w1.heap[x]?=w.heap[x]?:=fun x hx=>by rw[<- hw1];exact setRow_other w b x _ hx
   have hasz:(splice arr.toList (off+l1.length*t.width) news).toArray.size=arr.size:=by rw[jU,zdW _ _ _ hbs];simp
   have hkeepr:∀k,k<off+l1.length*t.width->(splice arr.toList (off+l1.length*t.width) news).toArray[k]?=arr[k]?:=by
    intro k hk;rw[q9,zcC _ _ _ hbs k (.inl hk)];simp
   have hRows:Rows true w t l1 arr off b V1 K1 S1:=⟨hsub1,hdis1,hvv1,hcc1⟩;obtain ⟨k1,_⟩:=Rep.behind (w1:=w1) hlen1 hcap1 hsz1 hS1 hRows hb hb1 hasz hkeepr hoth;refine ⟨_,w1,b,off,cap,hr,by rw[hapl],?_,by rw[<- hw1];rfl,by rw[<- hw1];rfl,by rw[<- hw1];rfl,.inr ⟨off,cap,rfl,hS1,by rw[<- hw1];simp,hoth,k1⟩⟩
   refine Rep.join (arr:=(splice arr.toList (off+l1.length*t.width) news).toArray) (e:=e1) (V1:=V1) (V2:=V2) (K1:=fun _ _ _=>False) (K2:=fun _ _ _=>False) hb1 (by simp only[big];omega) hroom (by rw[hasz];exact hsz1) rfl ?_ ?_ ?_ (hcc2' w1) (fun _ _ _ _ _ h=>h.elim) (fun _ _ _ _ _ h=>h.elim) (fun _ _ _ _ _ _ _ _ _ h=>h.elim) (fun _ _ _ _ _ _ _ _ _ h=>h.elim) (fun _ _ _ _ _ _ _ _ _ h=>h.elim)
   .intro i j hi hj;have:=hrow1 i j hi hj;rw[hkeepr _ (by omega)]
    exact hvv1 i j hi hj
   .intro i j hi hj;have:=hrow2 i j hi hj;rw[q9,kI,zcJ _ _ _ hbs _ (by omega) (by rw[hnl];omega),<- hnv i j hi hj]
    congr 1
    omega
   .intro i x hx j c hcj;exact (hcc1 i x hx j c hcj).flat (zom hf hcj)
  .generalize holds:(arr.toList.drop off).take (l1.length*t.width)=olds;have hol:olds.length=l1.length*t.width:=by rw[<- holds];simp;omega
   have hoat:∀k,k<l1.length*t.width->olds[k]?=arr[off+k]?:=by
    intro k hk;rw[<- holds,jH,if_pos hk,jK];simp
   have hr:=run_append_grow (P:=C.P) w T oT e i z hE.und hi hz ⟨b,off,none⟩ l1.length cap olds (by rw[hs];exact hol) (fun j u hu=>by
    have hj:j<l1.length*t.width:=by rw[<- hol];exact (qA.1 hu).1
    rw[add_lit,cell_of_block hb,<- hoat j hj];exact hu) ⟨b2,off2,none⟩ l2.length cap2 news (by rw[hs];exact hnl) hnc (by omega) (by omega) (growslice_fits (by omega) hbytes)
   have hge:=grownCap_ge w (l1.length+l2.length) cap e;refine grown olds _ V1 _ hol hge (by rw[size_zeroCells,hzsz]) (fun i j hi hj=>?_) (fun i x hx j c hcj=>⟨_,hcc1 i x hx j c hcj⟩) hr
   have:(i+1)*t.width<=l1.length*t.width:=qL _ hi;rw[jB] at this;rw[hoat _ (by omega),<- k5]
   exact hvv1 i j hi hj
end
section
variable {C:Cfg} {w0 w w1:World} {S0:zI} {U:Nat->Prop} {st st1 st':St} {E E1:Env} {ts:Array Value} {sv:List (Array Value)}
def Late (w0:World)(st:St)(E:Env)(x:App)(v:Value)(w:World):Prop :=
 ∃(n0 bv offv cap:Nat) (R:Root),w0.heap.size<=n0/\(∀q Q,st.root q=some Q->∀y,E.φ q y->y<n0)/\(∀l cs,zf st.lo l=some cs->E.β l<n0) /\
  v = .slice (some ⟨bv,offv,none⟩) x.l.length cap/\Rep true w v (.s x.t x.l) (fun y=>y=bv)/\st.root x.r=some R /\
  (n0<=bv\/∃off1 len1 cap1,zD w R.t (E.ρ x.r) x.p=some (.slice (some ⟨bv,off1,none⟩) len1 cap1))
theorem Late.states {x:App}{v:Value}(h:Late w0 st E x v w)(hr:∀n,st'.root n=st.root n)(hl:∀n,zf st'.lo n=zf st.lo n):Late w0 st' E x v w:=by
 obtain ⟨n0,bv,offv,cap,R,h1,h2,h3,h4,h5,h6,h7⟩:=h;exact ⟨n0,bv,offv,cap,R,h1,fun q Q hq=>h2 q Q (by rw[<- hr];exact hq),fun l cs hq=>h3 l cs (by rw[<- hl];exact hq),h4,h5,by rw[hr];exact h6,h7⟩
theorem zw2 {r:Nat}(a:At):zbQ r [] a=a:=by
 cases a<;>simp [zbQ,coarse]
theorem zw3 {r:Nat}(m:MV):zdO r [] m=m:=by
 have h:zbQ r []=id:=funext fun a=>zw2 a;have hT:∀x,zh5 r [] x=x:=fun x=>by cases x<;>simp [zh5,h]
 have hT':zh5 r []=id:=funext hT;cases m<;>simp [zdO,hT,hT']
theorem zNk (h:Dead st){n:Nat}{R:Root}(hR:st.root n=some R):R.ep=none:=by
 obtain ⟨h1,h2⟩:=zS hR;rcases h2 with h2|h2
 .exact h2
 .have:=h n R _ h1 h2;omega
theorem zNE {v:Value}{t:Ty}{l:List t.den}{S:zI}{b off n cap:Nat}(h:Rep true w v (.s t l) S)(hv:v = .slice (some ⟨b,off,none⟩) n cap):b<w.heap.size/\S b:=by
 cases h with
 | nil=>cases hv
 | void _ _ _ ho=>cases ho
 | sl _ _ b4 _ _ _ _ _ _ _ _ hb4 _ _ _ _ hS4 =>
  cases hv;exact ⟨(qO.1 hb4).1,hS4⟩
theorem zOW (hC:CfgOk C)(hS:Sim w0 S0 U st E ts sv w)(hd:Dead st){o:Oper}{x:App}(h:zk0 C st o=some (true,x)) :
 o.guard=none/\o.dst=some x.dst/\∃(v:Value) (w':World),(execOp ({ tmps:=ts,defers:=[] }:Act).eval o).run C.P w = .ok (.value v) w' /\
  Sim w0 S0 U (st.put o.dst (.v (.at .bad))) E (({ tmps:=ts,defers:=[] }:Act).put o.dst v).tmps sv w'/\Late w0 st E x v w':=by
 unfold zk0 at h;split at h
 .rename_i c d ho hdst hgu;split at h
  .rename_i hcb;split at h
   .rename_i a0 y0 T T2 hca hct;split at h
    .rename_i hTT;subst hTT;split at h
     .rename_i t r a p r2 p2 hT h1 h2;split at h
      .rename_i R cv1 cv2 hR hn1 hn2;split at h
       .rename_i hcond;simp only[qD,qZ,beq_eq_false_iff_ne]at hcond;obtain ⟨⟨hown,hfl⟩,hne⟩:=hcond;split at h
        .rename_i m t2 y2 l2' hm;simp only[qC,jJ]at h;obtain ⟨hfew,rfl⟩:=h;refine ⟨hgu,hdst,?_⟩;obtain ⟨l1,l2,e1,e2,rfl⟩:=zr9 hm;subst e1;have hl2:l2≠[]:=by
          intro e;subst e;cases e2
         rw[e2]at hn2
         clear e2
         generalize hp0:a :: p=pp at h1 hn1;have hM:=hS.mem;obtain ⟨hx,_⟩:=zbb hS h1;obtain ⟨hy,_⟩:=zbb hS h2;have hh:=hx.2 R hR;have hrepR:=hM.rep r R hR;rw[hown]at hrepR;obtain ⟨t',l0,S1,f1,f2,f3,f4,f5⟩:=Rep.focus pp hrepR hh;have hg1:zet R.t R.l pp=some (.s t l1):=by
          obtain ⟨R',hR',hg'⟩:=zdf hn1;rw[hR]at hR';cases hR';exact hg'
         rw[hg1] at f1;cases f1;obtain ⟨R2,S2,hR2,g1,g2,g3,g4⟩:=zn4 hS hy hn2;obtain ⟨v,w',bv,offv,cap,hrun,hv,hrep,hos,htp,hout,hcase⟩:=zRB hC hT hfl f3 g3.ro hl2 hfew o.type;have hca':c.args = #[a0,y0]:=by rw[<- hca]
         have hct':c.argTypes = #[T2,T2]:=by rw[<- hct]
         have hexec:(execOp ({ tmps:=ts,defers:=[] }:Act).eval o).run C.P w = .ok (.value v) w':=by
          simp[execOp,ho,resolve,hcb,invoke,builtin,hca',hct',hrun]
         have hβ:∀l cs,zf st.lo l=some cs->E.β l<w.heap.size:=by
          intro l cs h;obtain ⟨_,vals,e,h2,_⟩:=hM.loc l cs h;exact (qO.1 h2).1
         rcases hcase with ⟨hbv,hsz,hsame⟩|⟨off1,cap1,hv1,hS1b,hsz,hoth,hrep1⟩
         .obtain ⟨hM',hT'⟩:=hM.addRoots hS.ids.mem (dro:=[]) (w1:=w') (E1:=E) hos htp hout (by omega) hsame (fun q Q hq=>by cases hq) (fun q Q _ _ hq=>by cases hq) (fun _ _=>⟨rfl,rfl,rfl⟩)
          refine ⟨v,w',hexec,Sim.next hS (st1:=st) hM' hT' rfl rfl (fun _ h=>h) hS.ids.ro hS.ids.lo trivial (fun n hn=>by simp[MV.ids,zX,zy,At.ids,zN,zU]at hn),?_⟩
          exact ⟨w.heap.size,bv,offv,cap,R,hM.size,fun q Q hq y hy=>hM.rlt q Q hq y hy,hβ,hv,hrep,hR,.inl (by omega)⟩
         .obtain ⟨m,hm1,hrm,hh1,hh2⟩:=f5 w' l1 S1 (fun z _ hnz=>hoth z (fun e=>hnz (e ▸ hS1b))) (fun _ h _=>h) hrep1;have hmR:=zEc pp hg1 m hm1;subst hmR;obtain ⟨_,_,_,_,fwp⟩:=f5 w l1 S1 (fun _ _ _=>rfl) (fun _ h _=>h) f3;have hhdr:∀q u,zD w R.t (E.ρ r) q=some u->zD w' R.t (E.ρ r) q=some u:=by
           intro q u hq;refine hh1 q u hq (fun q' he=>?_);subst he;rw[fwp]at hq;exact zOM hfl q' _ _ hq
          have hsim:=zwv (w1:=w') (m:=R.l) (js:=[]) (S3:=E.φ r) hS hR hown hos htp hout (by omega) (fun z hz hnz=>hoth z (fun e=>hnz (f4 z (e ▸ hS1b)))) (fun z hz=>⟨.inl hz,by have:=hM.rlt r R hR z hz;omega⟩) (hrm.weak fun z hz=>by
           rcases hz with ⟨h,_⟩|h
           .exact h
           .exact f4 z h) (fun q u hq _=>hhdr q u hq)
          have hE:({ E with φ:=fun n=>if n=r then E.φ r else E.φ n }:Env)=E:=by
           have:(fun n=>if n=r then E.φ r else E.φ n)=E.φ:=by
            funext n
            split
            .rename_i e;rw[e]
            .rfl
           rw[this]
          rw[hE]at hsim;have hS':Sim w0 S0 U st E ts sv w':=by
           refine hsim.fewer (fun t=>?_) (fun n=>?_) ?_ (fun n Q hQ=>?_) (fun n Q hQ=>?_) (fun n Q e hQ he=>hM.epo n Q e hQ he)
           .simp only [ze2,qM];cases st.tm[t]? <;> simp [zw3]
           .simp only [ze2];rw[zgU];have:zbQ r []=id:=funext fun a=>zw2 a;cases zf st.lo n<;>simp [this]
           .simp only [ze2];have:zdO r []=id:=funext fun a=>zw3 a;simp[this]
           .have he:=zNk hd hQ;obtain ⟨q1,_⟩:=zS hQ;refine zdM ?_ (.inl he);simp only[ze2,zf];split
            .rename_i hb;simp only[qH]at hb;subst hb;rw[hR]at hQ;cases hQ;rfl
            .exact q1
           .simp only [ze2,zf];split
            .exact ⟨_,rfl⟩
            .exact ⟨Q,hQ⟩
          refine ⟨v,w',hexec,hS'.putV trivial (fun n hn=>by simp[MV.ids,zX,zy,At.ids,zN,zU]at hn),?_⟩
          refine ⟨w.heap.size,bv,offv,cap,R,hM.size,fun q Q hq y hy=>hM.rlt q Q hq y hy,hβ,hv,hrep,hR,.inr ⟨off1,l1.length,cap1,?_⟩⟩;refine hhdr pp _ ?_;rw[hh,hv1]
        .cases h
       .cases h
      .cases h
     .cases h
    .cases h
   .cases h
  .cases h
 .cases h
theorem zLi (hC:CfgOk C)(hS:Sim w0 S0 U st E ts sv w){o:Oper}{id:Nat}{x:App}{v:Value}{st2:St}(hL:Late w0 st E x v w)(hv0:ts[x.dst]?=some v)(h:ztK C st o x=some (true,st2)) :
 o.guard=none/\Goes C w0 S0 U st ts sv w o id (fun _=>st2.put o.dst .und)/\st2.nid=st.nid:=by
 unfold ztK at h;split at h
 .rename_i T a d ho hgu;split at h
  .rename_i t1 r p i off hT ha;split at h
   .rename_i R t l c hRr hn hsp;split at h
    .rename_i hcond;simp only[qD,qX,Nat.beq_eq_true_eq]at hcond;obtain ⟨⟨⟨hown,hdd⟩,hrr⟩,hfit⟩:=hcond;have hdd:=jP hdd;have hrr:=jP hrr;subst hdd hrr;split at h
     .rename_i l' hset;split at h
      .rename_i m hput;simp only[qC,jJ]at h;obtain ⟨rfl,rfl⟩:=h;refine ⟨hgu,?_,rfl⟩;have hpp:=zml hsp;obtain ⟨n0,bv,offv,capv,R',hn0,hrn,hln,hve,hvrep,hR',hwhere⟩:=hL;rw[hRr]at hR';cases hR';obtain ⟨hav,hai⟩:=zbb hS ha;obtain ⟨b,o2,len,cap,t1',e1,e2,e3,e4,e5⟩:=hav.2 R hRr;have hM:=hS.mem;have hrep:=hM.rep _ R hRr;rw[hown]at hrep;obtain ⟨t',l0,S1,f1,f2,f3,f4,f5⟩:=Rep.focus p hrep e1;have hg1:zet R.t R.l p=some (.s t l):=by
        obtain ⟨R',hR',hg'⟩:=zdf hn;rw[hRr]at hR';cases hR';exact hg'
       rw[hg1] at f1;cases f1;rw[e2] at f2;cases f2;obtain ⟨_,_,_,_,fwp⟩:=f5 w l S1 (fun _ _ _=>rfl) (fun _ h _=>h) f3;cases f3 with
       | void _ _ _ ho=>cases ho
       | sl _ _ _ _ _ arr e' fz V K _ hb hfz hlen1 hcap hsz hS' hsub hdis hvv hcc =>
       have hfz':=hfz rfl;subst hfz';have hRows:Rows true w t l arr o2 b V K S1:=⟨hsub,hdis,hvv,hcc⟩;have hone:v.oneCell'=true:=by rw[hve];rfl
       have hcells:v.cells = #[v]:=cells_one hone;have hfit':off+[v].length<=t.width:=by simp;omega
       have hrow:(i.toNat+1)*t.width<=cap*t.width:=qL _ (by omega)
       rw[jB]at hrow;have hrun:=zj5 (w:=w) (v:=v) (off:=o2+i.toNat*t.width+off) (hC.cty T false [.s t1] hT) hb (by rw[hcells];rfl) (by simp;omega) (by rw[hcells];intro u hu;simp at hu;rw[hu];exact hone)
       rw[hcells]at hrun;have hl1:(#[v]:Array Value).toList=[v]:=rfl;rw[hl1]at hrun;generalize hw1:w.setRow b (splice arr.toList (o2+i.toNat*t.width+off) [v]).toArray=w1 at hrun;have hb1:w1.heap[b]?=some (.cells (splice arr.toList (o2+i.toNat*t.width+off) [v]).toArray e' (0,0)):=by rw[<- hw1];exact setRow_heap w b _ _ e' _ hb
       have hoth:∀y,y≠b->w1.heap[y]?=w.heap[y]?:=fun y hy=>by rw[<- hw1];exact setRow_other w b y _ hy
       have hrb:E.φ x.r b:=f4 b hS';have hbn:b<n0:=hrn _ R hRr b hrb;have hold:∀i' j,i'<l.length->j<t.width->¬ Hit i.toNat off [v].length i' j->∀y,K i' j y->w1.heap[y]?=w.heap[y]?:=fun i' j hi' hj _ y hy=>hoth y ((hsub i' j y hi' hj hy).2 rfl)
       have hbv:n0<=bv\/K i.toNat off bv:=by
        rcases hwhere with h|⟨off1,len1,cap1,h⟩
        .exact .inl h
        .right
         rw[<- hpp,fwp]at h;simp only[zD]at h;rw[if_pos ⟨e3,e4⟩]at h;split at h
         .rename_i t3 hsh;rw[cell_of_block hb,hvv i.toNat off e4 hfit]at h;simp only[qC]at h;obtain ⟨c,hc,hct⟩:=zrO (x:=ix l i t.dflt) hsh;obtain ⟨l3,rfl⟩:=zhG hct;have hr3:=hcc i.toNat _ (zhV e4) off _ hc;rw[h]at hr3;cases hr3 with
          | void _ _ _ ho=>cases ho
          | sl _ _ _ _ _ _ _ _ _ _ _ _ _ _ _ _ hS3=>exact hS3
         .cases h
       have hbvb:bv≠b:=by
        rcases hbv with h|h
        .omega
        .exact (hsub _ _ bv e4 hfit h).2 rfl
       have hset1:=Rep.setCells (w:=w) (w1:=w1) (us:=[v]) (Kn:=fun _ y=>y=bv) hlen1 hcap hsz hRows e4 rfl hfit' hset hb1 (fun k c u hc hu=>by
        cases k with
        | zero =>
         simp only[qF,qC]at hc hu;subst hc hu;exact hvrep.frame (fun y hy=>hoth y (by rw[hy];exact hbvb))
        | succ k=>simp at hc)
        hold
        (fun k y _ hy=>by rw[hy];exact hbvb)
        (fun k k' y hk hk' _ _=>by simp at hk hk';omega)
        (fun k y i' j hk hy hi' hj hnh hy'=>by
         subst hy;rcases hbv with h|h
         .have:=hrn _ R hRr y (f4 y (hsub i' j y hi' hj hy').1);omega
         .have:=hdis rfl _ _ _ _ y e4 hfit hi' hj h hy';exact hnh ⟨this.1.symm,by omega,by simp;omega⟩)
       have hS2:∀y,(y=b\/(∃i' j,i'<l.length/\j<t.width/\¬ Hit i.toNat off [v].length i' j/\K i' j y)\/∃k,k<[v].length/\y=bv)->S1 y\/(n0<=y/\y=bv):=by
        intro y hy;rcases hy with rfl|⟨i',j,hi',hj,_,hk⟩|⟨k,hk,rfl⟩
        .exact .inl hS'
        .exact .inl (hsub i' j y hi' hj hk).1
        .rcases hbv with h|h
         .exact .inr ⟨h,rfl⟩
         .exact .inl (hsub _ _ _ e4 hfit h).1
       obtain ⟨m',hm',hrm,hh1,hh2⟩:=f5 w1 l' _ (fun y hy hny=>hoth y (fun e=>hny (e ▸ hS'))) (fun y hy hy'=>by
        rcases hS2 y hy with h|⟨h,_⟩
        .exact h
        .have:=hrn _ R hRr y hy';omega) hset1
       rw[hput]at hm';cases hm';have hsz1:w1.heap.size=w.heap.size:=by rw[<- hw1];simp
       have hbvlt:bv<w.heap.size:=(zNE hvrep hve).1;have hsim:=ztF (w1:=w1) (m:=m) (js:=[cols p++[off]]) hn0 hrn hln hS hRr hown (by rw[<- hw1];rfl) (by rw[<- hw1];rfl) (by rw[<- hw1];rfl) (by omega) (fun y _ hny=>hoth y (fun e=>hny (e ▸ hrb))) (fun y hy=>by
        rcases hy with ⟨hy,_⟩|hy
        .exact ⟨.inl hy,by have:=hM.rlt _ R hRr y hy;omega⟩
        .rcases hS2 y hy with h|⟨h,rfl⟩
         .exact ⟨.inl (f4 y h),by have:=hM.rlt _ R hRr y (f4 y h);omega⟩
         .exact ⟨.inr h,by omega⟩) hrm (fun q u hq hns=>by
        rcases zmL p q with ⟨q',rfl⟩|hnp
        .rw [hh2 q'];rw[fwp q']at hq;refine zjF (us:=[v]) hcap hsz hRows hb e4 rfl hfit' hset hb1 hold q' (fun i' j q'' he k c hj hck=>?_) hoth hq;subst he hj;cases k with
         | succ k=>simp at hck
         | zero =>
          exfalso;have h9:=kG.1 hns (cols p++[off]) (by simp)
          exact absurd (zk3 p i' off q'') h9
        .exact hh1 q u hq (fun q' he=>absurd ⟨q',he⟩ hnp))
       have hput2:=hsim.putV (dst:=o.dst) (m:=.und) (v:=undef) rfl (fun n hn=>by simp[MV.ids,zX]at hn)
       refine zoq (w':=w1) ?_ ⟨hput2.mem,⟨fun n R hn=>.inl (hput2.ids.ro n R hn),fun n cs hn=>⟨.inl (hput2.ids.lo n cs hn).1,fun a ha m hm=>.inl ((hput2.ids.lo n cs hn).2 a ha m hm)⟩,fun m hm n hn=>.inl (hput2.ids.tm m hm n hn),fun f hf m hm n hn=>.inl (hput2.ids.stk f hf m hm n hn)⟩,hput2.tm,hput2.stk⟩;have hev:({ tmps:=ts,defers:=[] }:Act).eval (.tmp x.dst)=v:=by simp[Act.eval,hv0]
       simp[execOp,ho,Instr.storeAt,e5,Instr.sureAddr,hev,hrun]
      .cases h
     .cases h
    .cases h
   .cases h
  .cases h
 .cases h
end
section
variable {C:Cfg} {w0 w w1:World} {S0:zI} {U:Nat->Prop} {st st1:St} {E E1:Env} {ts:Array Value} {sv:List (Array Value)}
variable {ops:Array Oper} {b:Bool} {base:Nat} {cl:List (List Nat)} {ss:List Step} {st0:St}
theorem zzJ {w w':World}(h:w'.heap=w.heap):∀(p:List (Int×Nat)) (t:Ty) (v:Value),zD w' t v p=zD w t v p
 | [],t,v=>by simp only[zD]
 | (i,j) :: p,t,v=>by
  have hc:∀a,w'.cell? a=w.cell? a:=fun a=>by simp only[World.cell?,h]
  have ih:=zzJ h p;cases v with
  | slice a len cap=>cases a<;>simp only [zD,hc,ih]
  | _=>simp only[zD]
theorem Sim.heap (hS:Sim w0 S0 U st E ts sv w){w':World}(h1:w'.heap=w.heap)(h2:w'.os=w.os)(h3:w'.tape=w.tape)(h4:w'.output=w.output):Sim w0 S0 U st E ts sv w':=by
 have T:Trans st E w st E w' (fun _=>True):=⟨fun r _ R h=>⟨R,h,rfl,fun p u hu=>by rw[zzJ h1];exact hu⟩,fun l _ cs h=>⟨⟨cs,h⟩,rfl⟩,rfl⟩
 have hM:=hS.mem;refine ⟨⟨by rw[h2];exact hM.os,by rw[h3];exact hM.tape,by rw[h4];exact hM.output,by rw[h1];exact hM.size,fun b hb hn=>by rw[h1];exact hM.keep b hb hn,
  fun r R h=>(hM.rep r R h).frame (fun x _=>by rw[h1]),fun r R h x hx=>by rw[h1];exact hM.rlt r R h x hx,hM.mine,hM.frz,hM.apart,fun l cs hl=>?_,hM.linj,hM.lro,hM.epo,hM.κ⟩,hS.ids,
  Slots.tr T (fun _ _ _ _=>trivial) hS.tm,Stack.tr T (fun _ _ _ _ _ _=>trivial) hS.stk⟩
 obtain ⟨g1,vals,e,g2,g3,g4⟩:=hM.loc l cs hl;exact ⟨g1,vals,e,by rw[h1];exact g2,g3,fun j c u hc hu=>⟨(g4 j c u hc hu).1,VA.tr T (fun _ _=>trivial) (g4 j c u hc hu).2⟩⟩
theorem Sim.blind (hS:Sim w0 S0 U st E ts sv w)(c:Bool)(n:Nat):Sim w0 S0 U { st with nid:=n,ep:=if c then st.ep+1 else st.ep } E ts sv w:=by
 have h:=hS.nid n;cases c with
 | false=>exact h
 | true =>
  refine h.fewer (fun _=>rfl) (fun _=>rfl) rfl (fun r R hR=>?_) (fun r R hR=>⟨R,hR⟩) (fun r R e hR he=>?_)
  .obtain ⟨g1,g2⟩:=zS hR;have hn:R.ep=none:=by
    rcases g2 with g2|g2
    .exact g2
    .have:=hS.mem.epo r R _ g1 g2;simp only[if_true] at this;omega
   show St.root { st with nid:=n } r=some R
   unfold St.root;have g3:zf ({ st with nid:=n }:St).ro r=some R:=g1;rw[g3];simp only[hn]
  .have:=hS.mem.epo r R e hR he
   show e<=st.ep+1
   omega
theorem cnt_lt {p q:Nat->Bool}:∀(l:List Nat),(∀x∈l,q x=true->p x=true)->(∃x∈l,p x=true/\q x=false)->l.countP q<l.countP p
 | [],_,h=>by obtain ⟨x,hx,_⟩:=h;cases hx
 | a :: l,h1,h2=>by
  have hle:∀(m:List Nat),(∀x∈m,q x=true->p x=true)->m.countP q<=m.countP p:=fun m hm=>List.countP_mono_left hm;have hm:=hle l (fun x hx=>h1 x (by simp[hx]))
  simp only[List.countP_cons];cases hq:q a with
  | true =>
   rw[h1 a (by simp) hq]
   have:l.countP q<l.countP p:=cnt_lt l (fun x hx=>h1 x (by simp[hx])) (by
    obtain ⟨x,hx,g1,g2⟩:=h2;rcases qG.1 hx with rfl|hx
    .rw [hq] at g2;cases g2
    .exact ⟨x,hx,g1,g2⟩)
   simp only[if_true];omega
  | false =>
   cases hp:p a with
   | true=>simp;omega
   | false =>
    have:l.countP q<l.countP p:=cnt_lt l (fun x hx=>h1 x (by simp[hx])) (by
     obtain ⟨x,hx,g1,g2⟩:=h2;rcases qG.1 hx with rfl|hx
     .rw [hp] at g1;cases g1
     .exact ⟨x,hx,g1,g2⟩)
    simp;omega
def left (n:Nat)(listed:Array Bool):Nat:=(List.range n).countP fun i=>!listed.getD i true
theorem zyf {listed:Array Bool}{n i:Nat}(hi:i<n)(hl:listed.getD i true=false):left n (listed.setIfInBounds i true)<left n listed:=by
 unfold left;have hlt:i<listed.size:=by
  rcases kW i listed.size with h|h
  .exact h
  .simp [uD h]at hl
 refine cnt_lt _ (fun x _ hx=>?_) ⟨i,kB.2 hi,by rw[hl];rfl,by simp[hlt]⟩
 by_cases hxi:i=x
 .subst hxi;simp[hlt]at hx
 .rwa [getD_set_ne true hxi]at hx
theorem zwn {C:Cfg}{st:St}{o:Oper}{id:Nat}{d:Dl}(hp:zgs o=true)(h:zg1 C st o id=some d):delta C st o id=some d:=by
 unfold zg1 at h;cases hd:delta C st o id with
 | some d'=>rw[hd]at h;exact h
 | none =>
  rw[hd]at h;exfalso;have h:ziA C st o id=some d:=h;have hn:ziR C o=none:=by
   unfold zgs at hp;unfold ziR;cases hop:o.op with
   | call c=>rw[hop]at hp;simp at hp
   | _=>rfl
  unfold ziA at h;rw[hn]at h;cases h
structure Waits (md:Region.Mode) (ops:Array Oper) (cl:List (List Nat)):Prop where
 at':∀i,i<ops.size->cl.getD i []=waits ops (cl.take i) i
 lt:∀i,i<ops.size->∀j∈cl.getD i [],j<i
 sub:∀e,Region.binds .any e=true->Region.binds md e=true
 rk:∃rk:Nat->Nat,∀(i:Nat) (o:Oper),ops[i]?=some o->∀e∈o.after,Region.binds md e=true->e.on<ops.size/\rk e.on<rk i
variable {md:Region.Mode}
theorem zRh (hat:∀i,i<ops.size->cl.getD i []=waits ops (cl.take i) i){i:Nat}{o:Oper}(ho:ops[i]?=some o){e:Edge}(he:e∈o.after)(hb:Region.binds .any e=true):e.on∈cl.getD i []:=by
 have hi:=(qO.1 ho).1;rw[hat i hi];simp only[waits,ho];exact zBm (by simpa using he) hb
theorem zFj {l:List (List Nat)}{i j k:Nat}(h:k∈(l.take i).getD j []):k∈l.getD j []:=by
 rw[kE,jH]at h;rw[kE];split at h
 .exact h
 .simp at h
theorem Waits.inv (W:Waits md ops cl){i j:Nat}{o:Oper}(ho:ops[i]?=some o)(hj:j∈cl.getD i []):∃e∈o.after,Region.binds .any e=true/\(j=e.on\/j∈cl.getD e.on []):=by
 have hi:=(qO.1 ho).1;rw[W.at' i hi]at hj;simp only[waits,ho]at hj;obtain ⟨e,he,hb,h⟩:=zBn hj;exact ⟨e,by simpa using he,hb,h.imp id zFj⟩
def XL (listed:Array Bool)(k:Nat):Bool:=listed.getD k false
theorem zwC (W:Waits md ops cl){listed:Array Bool}(hX:ze5 cl (XL listed)){i:Nat}(hi:i∈Region.ready md ops listed):∀j∈cl.getD i [],XL listed j=true:=by
 obtain ⟨_,o,ho,hall⟩:=mem_ready.1 hi;intro j hj;obtain ⟨e,he,hb,h|h⟩:=W.inv ho hj
 .subst h;exact hall e he (W.sub e hb)
 .exact hX _ (hall e he (W.sub e hb)) j h
theorem least {p:Nat->Prop}:∀n,p n->∃m,m<=n/\p m/\∀j,j<m->¬ p j:=by
 intro n
 induction n using Nat.strongRecOn with
 | _ n ih =>
  intro hp
  by_cases h:∃j,j<n/\p j
  .obtain ⟨j,h1,h2⟩:=h;obtain ⟨m,g1,g2,g3⟩:=ih j h1 h2;exact ⟨m,by omega,g2,g3⟩
  .exact ⟨n,qV _,hp,fun j hj hpj=>h ⟨j,hj,hpj⟩⟩
theorem zAM (W:Waits md ops cl){listed:Array Bool}(hsz:listed.size=ops.size){i0:Nat}(hi0:i0<ops.size)(hl0:listed.getD i0 true=false):∃i,i∈Region.ready md ops listed:=by
 obtain ⟨rk,hrk⟩:=W.rk;obtain ⟨n,_,⟨i,hi,hl,hn⟩,hmin⟩:=least (p:=fun n=>∃i,i<ops.size/\listed.getD i true=false/\rk i=n) (rk i0) ⟨i0,hi0,hl0,rfl⟩;refine ⟨i,mem_ready.2 ⟨hl,ops[i],by simp[hi],fun e he hb=>?_⟩⟩
 obtain ⟨h1,h2⟩:=hrk i ops[i] (by simp[hi]) e he hb
 cases h:listed.getD e.on false with
 | true=>rfl
 | false =>
  exfalso;refine hmin (rk e.on) (by omega) ⟨e.on,h1,?_,rfl⟩
  have hlt:e.on<listed.size:=by omega
  simp only[Array.getD,hlt,dif_pos]at h ⊢;exact h
theorem zmw {listed:Array Bool}{i:Nat}(hi:i<listed.size):XL listed i=listed.getD i true:=by
 simp[XL,hi]
theorem zzk {listed:Array Bool}{i:Nat}(hi:i<listed.size)(k:Nat):XL (listed.setIfInBounds i true) k=(XL listed k||k==i):=by
 unfold XL
 by_cases h:i=k
 .subst h;simp[hi]
 .rw [getD_set_ne false h];have:(k==i)=false:=by simp;omega
  rw[this,k6]
theorem zL8 {P:Program}{Q Q':Exit->Act->World->Prop}(hQ:∀e,e≠.normal->∀a w,Q' e a w->Q e a w){i:Nat}{K:Act->World->Prop}{a:Act}{w:World}(h:wpOp P ops Q' i K a w):wpOp P ops Q i K a w:=by
 have hlo:LetsOut Q'->LetsOut Q:=by
  rintro ⟨a,w,h⟩
  exact ⟨a,w,hQ _ (by simp) a w h⟩
 unfold wpOp at h ⊢;split
 .rename_i hn;rw[hn]at h;exact h
 .rename_i o ho;simp only[ho]at h;split
  .rename_i hw;rw[if_pos hw]at h;rcases h with h|⟨h1,h2⟩
   .left
    unfold Oper.wp at *;generalize (execOp a.eval o).run P w=r at *;cases r with
    | ok n w' =>
     cases n<;>simp only [Oper.upon]at h ⊢ <;>
      first
       | exact h
       | exact h.mono (fun e w'' he=>by
        cases e with
        | returned v=>exact he
        | panicked c=>exact hQ _ (by simp) _ _ he
        | outgrown=>exact hlo he)
    | halt x w' =>
     cases x<;>simp only [Oper.upon]at h ⊢ <;> first|exact hQ _ (by simp) _ _ h|exact h
   .exact .inr ⟨h1,hlo h2⟩
  .rename_i hw;rw[if_neg hw]at h;exact h
theorem ziP (W:Waits md ops cl){listed:Array Bool}{m:Nat}(hsz:listed.size=ops.size)(hl:∀i,i<ops.size->listed.getD i true=decide (i<m)):ze5 cl (XL listed):=by
 intro k hk j hj;have hks:k<ops.size:=by
  rcases kW k listed.size with h|h
  .omega
  .simp [XL,uD h]at hk
 rw[zmw (by omega),hl k hks]at hk
 simp at hk;have:=W.lt k hks j hj;rw[zmw (by omega),hl j (by omega)]
 simp;omega
theorem zO3 {P:Program}{Q:Exit->Act->World->Prop}{fuel:Nat}{listed:Array Bool}{a:Act}{w:World}(hl:∀i,i<ops.size->listed.getD i true=true)(h:Q .normal a w):wpAny P md ops Q fuel listed a w:=by
 have hr:Region.ready md ops listed=[]:=by
  refine List.eq_nil_iff_forall_not_mem.2 (fun i hi=>?_);obtain ⟨h0,o,ho,_⟩:=mem_ready.1 hi;have hi:=(qO.1 ho).1;rw[hl i hi]at h0;cases h0
 cases fuel with
 | zero=>exact ⟨hr,h⟩
 | succ fuel=>exact ⟨fun _=>h,fun i hi=>by rw[hr]at hi;cases hi⟩
theorem zKm (W:Waits md ops cl){P:Program}{Q:Exit->Act->World->Prop}{fuel m:Nat}{listed:Array Bool}{a:Act}{w:World}(hsz:listed.size=ops.size)(hm:m<ops.size)(hp:Pinned ops.size cl m)(hl:∀i,i<ops.size->listed.getD i true=decide (i<m))(hf:left ops.size listed<=fuel)(h:∀fl l',l'.size=ops.size->(∀i,i<ops.size->l'.getD i true=decide (i<m+1))->left ops.size l'<=fl->fuel=fl+1->l'=listed.setIfInBounds m true->wpOp P ops Q m (wpAny P md ops Q fl l') a w):wpAny P md ops Q fuel listed a w:=by
 have hu:listed.getD m true=false:=by rw[hl m hm];simp
 obtain ⟨i1,hmr⟩:=zAM W hsz hm hu;have hlt:=zyf (listed:=listed) (n:=ops.size) (i:=m) hm hu;obtain ⟨fuel,rfl⟩:∃f,fuel=f+1:=⟨fuel-1,by omega⟩
 refine ⟨fun h=>(by rw[h]at hmr;cases hmr),fun i hi=>?_⟩
 obtain ⟨h0,o,ho,_⟩:=mem_ready.1 hi;have his:=(qO.1 ho).1;rw[hl i his]at h0;simp only[decide_eq_false_iff_not,Nat.not_lt]at h0;have hieq:i=m:=by
  by_cases hne:i=m
  .exact hne
  .exfalso;have:=zwC W (ziP W hsz hl) hi m (hp.wait i (by omega) his)
   rw[zmw (by omega),hu] at this
   cases this
 subst hieq;refine h fuel _ (by simp[hsz]) (fun k hk=>?_) (by omega) rfl rfl
 by_cases hik:i=k
 .subst hik;simp[hsz,his]
 .rw [getD_set_ne true hik,hl k hk]
  congr 1
  simp only[eq_iff_iff];omega
theorem zzl {a T:Nat}(W:Waits md ops cl)(hTs:T<=ops.size)(hpin:T<ops.size->Pinned ops.size cl T){P:Program}{Q:Exit->Act->World->Prop}{J:(Nat->Bool)->Env->Array Value->World->Prop}(hcongr:∀X Y E ts w,(∀k,a<=k->k<T->X k=Y k)->J X E ts w->J Y E ts w)(hstep:∀X Y i,ze5 cl X->a<=i->i<T->X i=false->(∀j∈cl.getD i [],X j=true)->(∀k,Y k=(X k||k==i))->∀E ts w,J X E ts w->∀K:Act->World->Prop,(∀E' ts' w',J Y E' ts' w'->K { tmps:=ts',defers:=[] } w')->wpOp P ops Q i K { tmps:=ts,defers:=[] } w)(htail:∀(fl:Nat) (l':Array Bool) (E':Env) (ts':Array Value) (w':World),l'.size=ops.size->(∀i,i<ops.size->l'.getD i true=decide (i<T))->left ops.size l'<=fl->J (fun _=>true) E' ts' w'->wpAny P md ops Q fl l' { tmps:=ts',defers:=[] } w') :
 ∀(fuel:Nat) (listed:Array Bool) (E:Env) (ts:Array Value) (w:World),listed.size=ops.size->ze5 cl (XL listed)->(∀i,i<a->XL listed i=true)->(∀m,T<=m->m<ops.size->XL listed m=false)->left ops.size listed<=fuel ->
  J (XL listed) E ts w->wpAny P md ops Q fuel listed { tmps:=ts,defers:=[] } w
 | fuel,listed,E,ts,w,hsz,hX,hbel,hlow,hf,hS=>by
  by_cases hall:∀i,i<T->XL listed i=true
  .have hl:∀i,i<ops.size->listed.getD i true=decide (i<T):=by
    intro i hi;rw[<- zmw (by omega)]
    by_cases h:i<T
    .rw [hall i h];simp[h]
    .rw [hlow i (by omega) hi];simp[h]
   exact htail fuel listed E ts w hsz hl hf (hcongr _ _ E ts w (fun k _ hk=>hall k hk) hS)
  .have hex:∃i,i<T/\XL listed i=false:=by
    refine Classical.byContradiction (fun hn=>hall (fun i hi=>?_));cases h:XL listed i with
    | true=>rfl
    | false=>exact absurd ⟨i,hi,h⟩ hn
   obtain ⟨i0,hi0,hi0X⟩:=hex;have hu0:listed.getD i0 true=false:=by rw[<- zmw (by omega)];exact hi0X
   obtain ⟨i1,hmr⟩:=zAM W hsz (by omega) hu0
   have hpos:0<left ops.size listed:=by
    have:=zyf (listed:=listed) (n:=ops.size) (i:=i0) (by omega) hu0
    omega
   obtain ⟨fuel,rfl⟩:∃f,fuel=f+1:=⟨fuel-1,by omega⟩
   refine ⟨fun h=>(by rw[h]at hmr;cases hmr),fun i hi=>?_⟩
   obtain ⟨h0,o,ho,_⟩:=mem_ready.1 hi;have his:=(qO.1 ho).1;have hiX:XL listed i=false:=by rw[zmw (by omega)];exact h0
   have hw:=zwC W hX hi;have hia:a<=i:=by
    refine Classical.byContradiction (fun hn=>?_);rw[hbel i (by omega)]at hiX
    cases hiX
   have hiT:i<T:=by
    refine Classical.byContradiction (fun hn=>?_);have hp:=hpin (by omega)
    by_cases hiT:i=T
    .subst hiT;have:=hw i0 (hp.full i0 hi0);rw[hi0X] at this;cases this
    .have:=hw T (hp.wait i (by omega) his)
     rw[hlow T (qV _) (by omega)] at this
     cases this
   refine hstep _ (XL (listed.setIfInBounds i true)) i hX hia hiT hiX hw (zzk (by omega)) E ts w hS _ (fun E' ts' w' hS'=>?_)
   refine zzl W hTs hpin hcongr hstep htail fuel (listed.setIfInBounds i true) E' ts' w' (by simp[hsz]) ?_ ?_ ?_ ?_ hS'
   .intro k hk j hj;rw[zzk (by omega)]at hk ⊢
    by_cases hki:k=i
    .subst hki;rw[hw j hj];rfl
    .have:(k==i)=false:=by simp[hki]
     rw[this,k6]at hk;rw[hX k hk j hj];rfl
   .intro k hk;rw[zzk (by omega),hbel k hk];rfl
   .intro m hm hms;rw[zzk (by omega),hlow m hm hms]
    simp;omega
   .have:=zyf (listed:=listed) (n:=ops.size) his h0;omega
theorem zON (hC:CfgOk C)(hH:CtrOk C)(hG:GraftOk C){a T:Nat}(W:Waits md ops cl)(hT:a+ss.length=T)(hTs:T<=ops.size)(hpin:T<ops.size->Pinned ops.size cl T)(F:Free C ops cl b base a ss st0)(hb:b=false->∀k,a<=k->k<T->zga C ops k=false)(hd:b=true->Dead st0/\0<st0.ep)(hM:∀k,a<=k->k<T->∀n,Mine (base+32*k) n->¬ U n){Q:Exit->Act->World->Prop}(htail:∀(fl:Nat) (l':Array Bool) (E':Env) (ts':Array Value) (w':World),l'.size=ops.size->(∀i,i<ops.size->l'.getD i true=decide (i<T))->left ops.size l'<=fl ->
 Sim w0 S0 (UX U base a T (fun _=>true)) (zO ops b (fun _=>true) a ss st0) E' ts' sv w'->wpAny C.P md ops Q fl l' { tmps:=ts',defers:=[] } w') :
 ∀(fuel:Nat) (listed:Array Bool) (E:Env) (ts:Array Value) (w:World),listed.size=ops.size->ze5 cl (XL listed)->(∀i,i<a->XL listed i=true)->(∀m,T<=m->m<ops.size->XL listed m=false)->left ops.size listed<=fuel ->
  Sim w0 S0 (UX U base a T (XL listed)) (zO ops b (XL listed) a ss st0) E ts sv w->wpAny C.P md ops Q fuel listed { tmps:=ts,defers:=[] } w :=
 zzl (J:=fun X E ts w=>Sim w0 S0 (UX U base a T X) (zO ops b X a ss st0) E ts sv w) W hTs hpin
  (fun X Y E ts w h hS=>by
   rw[zfy ss a st0 (fun k h1 h2=>h k h1 (by omega))]at hS
   refine hS.uses ?_
   rintro n (h1|⟨k,h0,h1,h2,h3⟩)
   .exact .inl h1
   .exact .inr ⟨k,h0,h1,by rw[<- h k h0 h1];exact h2,h3⟩)
  (fun X Y i hX hia hi hXi hr hY E ts w hS K hK=>zto hC hH hG hT F hX hia hi hXi hr hb hd hM hY hS hK) htail
theorem get_put {st:St}{d:Nat}{m:MV}{κ:Key}(h:κ≠.tm d):(st.put (some d) m).get κ=st.get κ:=by
 cases κ with
 | tm t =>
  have:d≠t:=fun e=>h (by rw[e])
  simp[St.get,St.put,jA,this]
 | ro n=>rfl
 | lo n=>rfl
theorem zNY {st st':St}{o:Oper}(hep:st'.ep=st.ep)(htm:∀t∈zeU o,st'.get (.tm t)=st.get (.tm t))(hro:∀n∈(zmK st o).flatMap zN,st'.get (.ro n)=st.get (.ro n))(hlo:∀n∈(zmK st o).flatMap zU,st'.get (.lo n)=st.get (.lo n)):Agree st st' o.op.operands.toList:=by
 refine ⟨hep,fun x hx=>?_,fun x hx m hm a ha=>?_⟩
 .cases x with
  | tmp t =>
   have ht:t∈zeU o:=by
    unfold zeU;exact kS.2 ⟨_,hx,rfl⟩
   simp only[St.opnd,zzF (htm t ht)]
  | _=>rfl
 .have hA:a∈zmK st o:=by
   unfold zmK;exact qP.2 ⟨m,kS.2 ⟨x,hx,hm⟩,ha⟩
  exact ⟨fun n hn=>ztp (hro n (qP.2 ⟨a,hA,hn⟩)),fun n hn=>zzE (hlo n (qP.2 ⟨a,hA,hn⟩))⟩
theorem zIT {st st':St}{o:Oper}(h:Agree st st' o.op.operands.toList):zk0 C st' o=zk0 C st o:=by
 cases hop:o.op with
 | call c =>
  rw[hop]at h;have hp:∀x∈c.args.toList,x∈(Op.call c).operands.toList:=fun x hx=>by simp only[Op.operands,Call.operands,Array.toList_append,jL];exact .inr hx
  simp only[zk0,hop];cases hd:o.dst with
  | none=>rfl
  | some d =>
   cases hg:o.guard with
   | some g=>rfl
   | none =>
    simp only;cases hcb:c.callee with
    | builtin b =>
     cases b with
     | append =>
      simp only;split
      .rename_i x y T T2 hca hct;have hx:=hp x (by rw[hca];simp)
       have hy:=hp y (by rw[hca];simp)
       rw[h.at hx,h.at hy];split
       .cases hT:C.sty T with
        | none=>rfl
        | some t =>
         cases e:st.at x with
         | none=>rfl
         | some a =>
          cases a with
          | sl r p =>
           cases p with
           | nil=>rfl
           | cons ij p =>
            cases e2:st.at y with
            | none=>rfl
            | some b =>
             cases b with
             | sl r2 p2=>simp only[h.root (zcB hx e),h.node (zcB hx e),h.node (zcB hy e2)]
             | _=>rfl
          | _=>rfl
       .rfl
      .rfl
     | _=>rfl
    | _=>rfl
 | _=>simp only[zk0,hop]
theorem zmM (hC:CfgOk C)(hS:Sim w0 S0 U st E ts sv w){o:Oper}{id:Nat}{d:Dl}(hp:zgs o=true)(h:delta C st o id=some d)(hc:d.c=true):o.guard=none/\zmv C U st E ts w o d:=by
 unfold zgs at hp;simp only[qD,j4]at hp;obtain ⟨hg,hp⟩:=hp;refine ⟨hg,?_⟩;cases hop:o.op
 case move x =>
  rw[hop]at hp;cases x with
  | tmp t =>
   simp only[delta,hop]at h;split at h
   .rename_i v hv;cases h;exact zNy hS (.inl hop) hv
   .cases h
  | _=>simp at hp
 case load T x=>exact zNx hC hS hop h
 case fieldAddr T x f=>exact zwz hC hS hop h
 case indexAddr T x y=>exact zwA hC hS hop h hc
 case nilCheck x=>exact zAL hS hop h
 all_goals (rw [hop]at hp;simp at hp)
theorem pure_run {o:Oper}{i:Nat}{d:Dl}{v:Value}{Q:Exit->Act->World->Prop}{K:Act->World->Prop}(ho:ops[i]?=some o)(hg:o.guard=none)(hr:(execOp ({ tmps:=ts,defers:=[] }:Act).eval o).run C.P w = .ok (.value v) w1)(h:K { tmps:=(({ tmps:=ts,defers:=[] }:Act).put o.dst v).tmps,defers:=[] } w1):wpOp C.P ops Q i K { tmps:=ts,defers:=[] } w:=by
 unfold wpOp;simp only[ho];rw[if_pos (by simp[Region.wanted,hg])]
 left
 unfold Oper.wp;rw[hr,Oper.upon_value,ze6];exact h
theorem zH4 {d t:Nat}{v u:Value}(h:ts[t]?=some u)(hne:d≠t):(({ tmps:=ts,defers:=[] }:Act).put (some d) v).tmps[t]?=some u:=by
 simp[Act.put,uH hne,h]
theorem zOU (hC:CfgOk C)(hH:CtrOk C)(hG:GraftOk C){a A:Nat}(W:Waits md ops cl)(hA:a+ss.length=A)(hTs:A+1<=ops.size)(hpin:A+1<ops.size->Pinned ops.size cl (A+1))(F:Free C ops cl b base a ss st0)(hb:b=false->∀k,a<=k->k<A->zga C ops k=false)(hbt:b=true)(hd:b=true->Dead st0/\0<st0.ep)(hM:∀k,a<=k->k<A->∀n,Mine (base+32*k) n->¬ U n){oA:Oper}{x:App}(hoA:ops[A]?=some oA)(hap:zk0 C (zO ops b (fun _=>true) a ss st0) oA=some (true,x))(hlo:zp2 ops cl a A=true)(hlen:x.dst<(zO ops b (fun _=>true) a ss st0).tm.length)(hfoot:∀i s o f,ss[i]?=some s->ops[a+i]?=some o->At1 C ops base (a+i) o (zO ops b (fun j=>decide (j<a+i)) a ss st0) f s->a+i∉cl.getD A []->f.apart (zeS (zO ops b (fun _=>true) a ss st0) ops oA zu0)=true){Q:Exit->Act->World->Prop}(htail:∀(fl:Nat) (l':Array Bool) (E':Env) (ts':Array Value) (w':World) (v:Value),l'.size=ops.size->(∀i,i<ops.size->l'.getD i true=decide (i<A+1))->left ops.size l'<=fl->ts'[x.dst]?=some v ->
 Sim w0 S0 (UX U base a A (fun _=>true)) ((zO ops b (fun _=>true) a ss st0).put oA.dst (.v (.at .bad))) E' ts' sv w'->Late w0 ((zO ops b (fun _=>true) a ss st0).put oA.dst (.v (.at .bad))) E' x v w'->wpAny C.P md ops Q fl l' { tmps:=ts',defers:=[] } w')(fuel:Nat)(listed:Array Bool)(E:Env)(ts:Array Value)(w:World)(hsz:listed.size=ops.size)(hX:ze5 cl (XL listed))(hbel:∀i,i<a->XL listed i=true)(hlow:∀m,A<=m->m<ops.size->XL listed m=false)(hf:left ops.size listed<=fuel)(hS:Sim w0 S0 (UX U base a A (XL listed)) (zO ops b (XL listed) a ss st0) E ts sv w):wpAny C.P md ops Q fuel listed { tmps:=ts,defers:=[] } w:=by
 have hdst:oA.dst=some x.dst/\oA.guard=none:=by
  unfold zk0 at hap;split at hap
  .rename_i c d ho hdst hgu;refine ⟨?_,hgu⟩;rw[hdst]
   congr 1
   repeat' (first|(split at hap)|(cases hap))
   all_goals first|rfl|(simp only [qC,jJ]at hap;obtain ⟨_,rfl⟩:=hap;rfl)
  .cases hap
 have huses:∀{X Y:Nat->Bool} {i:Nat},(∀k,Y k=(X k||k==i))->∀n,UX U base a A X n->UX U base a A Y n:=by
  intro X Y i hY n h;rcases h with h|⟨k,h0,h1,h2,h3⟩
  .exact .inl h
  .exact .inr ⟨k,h0,h1,by rw[hY,h2];rfl,h3⟩
 have hfA:∀{X:Nat->Bool} (κ:Key),(∀j∈cl.getD A [],X j=true)->(zeS (zO ops b (fun _=>true) a ss st0) ops oA zu0).reads κ->(zO ops b X a ss st0).get κ=(zO ops b (fun _=>true) a ss st0).get κ:=by
  intro X κ hr hκ;refine zk5 ss a st0 st0 rfl rfl (fun k s' o' hk ho' hne hw=>?_);obtain ⟨o2,f',ho2,h2⟩:=F.at1 k s' hk;rw[ho']at ho2;cases ho2;have hXk:X (a+k)=false:=by
   cases h:X (a+k) with
   | false=>rfl
   | true=>exact absurd h hne
  have hn:a+k∉cl.getD A []:=fun h=>by rw[hr _ h]at hXk;cases hXk
  exact ((apart_spec (hfoot k s' o' f' hk ho' h2 hn)).1 κ ((ztd h2 κ).1 hw)).1 hκ
 refine zzl (T:=A+1) (J:=fun X E ts w=>(X A=false->Sim w0 S0 (UX U base a A X) (zO ops b X a ss st0) E ts sv w) /\
  (X A=true->∃v,ts[x.dst]?=some v/\Sim w0 S0 (UX U base a A X) ((zO ops b X a ss st0).put oA.dst (.v (.at .bad))) E ts sv w/\Late w0 (zO ops b X a ss st0) E x v w)) W hTs hpin ?_ ?_ ?_
  fuel listed E ts w hsz hX hbel (fun m h1 h2=>hlow m (by omega) h2) hf ⟨fun _=>hS,fun h=>(by rw[hlow A (qV _) (by omega)]at h;cases h)⟩
 .intro X Y E ts w h hJ;have hXA:X A=Y A:=h A (by omega) (by omega)
  have e:=zfy (ops:=ops) (b:=b) ss a st0 (X:=X) (Y:=Y) (fun k h1 h2=>h k h1 (by omega))
  have hu:∀n,UX U base a A X n->UX U base a A Y n:=by
   rintro n (h1|⟨k,h0,h1,h2,h3⟩)
   .exact .inl h1
   .exact .inr ⟨k,h0,h1,by rw[<- h k h0 (by omega)];exact h2,h3⟩
  refine ⟨fun hYA=>?_,fun hYA=>?_⟩
  .have:=hJ.1 (hXA.trans hYA);rw[e] at this;exact this.uses hu
  .obtain ⟨v,h1,h2,h3⟩:=hJ.2 (hXA.trans hYA);rw[e]at h2 h3;exact ⟨v,h1,h2.uses hu,h3⟩
 .intro X Y i hX hia hi hXi hr hY E ts w hJ K hK
  by_cases hiA:i=A
  .subst hiA;have hSX:=hJ.1 hXi;have hYX:zO ops b Y a ss st0=zO ops b X a ss st0:=zfy ss a st0 (fun k h1 h2=>by
    rw[hY];have:(k==i)=false:=by simp;omega
    rw[this,k6])
   have hag:Agree (zO ops b (fun _=>true) a ss st0) (zO ops b X a ss st0) oA.op.operands.toList :=
    zNY (by rw[zdH,zdH]) (fun t ht=>hfA (.tm t) hr (by simp only[Foot.reads,zeS];exact jV _ ht)) (fun n hn=>hfA (.ro n) hr hn) (fun n hn=>hfA (.lo n) hr hn)
   have hapX:=zIT (C:=C) hag;rw[hap]at hapX;have hdX:Dead (zO ops b X a ss st0):=by
    subst hbt;exact zqW ss a st0 (hd rfl).1 (hd rfl).2
   obtain ⟨hg,hdA,v,w',hrun,hS',hL⟩:=zOW hC hSX hdX hapX;refine pure_run (d:=zu0) hoA hg hrun (hK E _ w' ⟨fun h=>(by rw[hY]at h;simp at h),fun _=>⟨v,?_,?_,?_⟩⟩)
   .rw [hdA];have hlt:x.dst<ts.size:=by
     rw[hSX.tm.1,zjj];rw[zjj]at hlen;exact hlen
    simp[Act.put,hlt]
   .rw [hYX];exact hS'.uses (huses hY)
   .rw [hYX];exact hL
  .have hiA':i<A:=by omega
   have hYA:Y A=X A:=by
    rw[hY];have:(A==i)=false:=by simp;omega
    rw[this,k6]
   cases hXA:X A with
   | false =>
    refine zto hC hH hG hA F hX hia hiA' hXi hr hb hd hM hY (hJ.1 hXA) (fun E' ts' w' hS'=>hK E' ts' w' ⟨fun _=>hS',fun h=>(by rw[hYA,hXA]at h;cases h)⟩)
   | true =>
    obtain ⟨v,hv,hSX,hL⟩:=hJ.2 hXA;obtain ⟨j,rfl⟩:∃j,i=a+j:=⟨i-a,by omega⟩
    obtain ⟨s,hs⟩:∃s,ss[j]?=some s:=⟨_,qB (by omega)⟩
    obtain ⟨o,f,ho,h1,h2⟩:=zzD F hX hs hXi hr;have hnA:a+j∉cl.getD A []:=fun h=>by rw[hX A hXA _ h]at hXi;cases hXi
    have hpo:zgs o=true:=by
     have:=qS.1 hlo (a+j) (by simp;omega)
     simp only[ho,jT,jE,qX] at this;rcases this with h|h
     .exact absurd h hnA
     .exact h
    have hapf:=apart_spec (hfoot j s o f hs ho h1 hnA);have hwA:(zeS (zO ops b (fun _=>true) a ss st0) ops oA zu0).writes (.tm x.dst):=by simp only[Foot.writes,zeS];exact hdst.1
    have hne:∀κ,f.reads κ->κ≠.tm x.dst:=fun κ hκ e=>hapf.2 (.tm x.dst) hwA (e ▸ hκ);have hdne:o.dst≠some x.dst:=fun e=>(hapf.1 (.tm x.dst) ((ztd h1 (.tm x.dst)).1 (by cases s<;>exact e))).2 hwA
    have hep:∀Z,(zO ops b Z a ss st0).ep=st0.ep:=fun Z=>zdH ss a st0;have hdoes:=zFX (S':=(zO ops b X a ss st0).put oA.dst (.v (.at .bad))) h1 (by rw[hep,hdst.1];exact hep X) (fun κ hκ=>by rw[hdst.1,get_put (hne κ hκ)];exact h2 κ hκ)
    have hg0:o.guard=none:=by
     unfold zgs at hpo;simp only[qD,j4]at hpo;exact hpo.1
    cases s with
    | none =>
     exfalso;have:zbT ops o ((zO ops b X a ss st0).put oA.dst (.v (.at .bad)))=some false:=hdoes;simp[zbT,hg0] at this
    | some d =>
     obtain ⟨_,d2,d3⟩:=hdoes;obtain ⟨_,v2,hrun,hvm,hids,e1,e2,e3⟩:=zmM hC hSX hpo (zwn hpo d2) d3;have hput:∀κ,(zO ops b Y a ss st0).get κ=((zO ops b X a ss st0).put o.dst d.v).get κ:=by
      intro κ;rw[zxt F hX hs ho hXi hY κ];simp only[St.step,St.effD,e1,e2,List.map_nil,jN]
     have hS2:Sim w0 S0 (UX U base a A X) (((zO ops b X a ss st0).put oA.dst (.v (.at .bad))).put o.dst d.v) E (({ tmps:=ts,defers:=[] }:Act).put o.dst v2).tmps sv w:=hSX.putV hvm hids;refine pure_run (d:=d) ho hg0 hrun (hK E _ w ⟨fun h=>(by rw[hYA,hXA]at h;cases h),fun _=>⟨v,?_,?_,?_⟩⟩)
     .cases hod:o.dst with
      | none=>exact hv
      | some t=>exact zH4 hv (fun e=>hdne (by rw[hod,e]))
     .refine (hS2.same (fun κ=>?_) ?_ ?_).uses (huses hY)
      .rw [hdst.1];cases κ with
       | tm t =>
        have hk:=hput (.tm t);have hl1:(zO ops b Y a ss st0).tm.length=(zO ops b X a ss st0).tm.length:=by rw[zjj,zjj]
        by_cases ht:t=x.dst
        .subst ht;cases hod:o.dst with
         | none=>simp[St.get,St.put,jA,hl1]
         | some t' =>
          have:t'≠x.dst:=fun e=>hdne (by rw[hod,e])
          simp[St.get,St.put,jA,hl1,this]
        .have hne':x.dst≠t:=fun e=>ht e.symm;rw[get_put (by simpa using ht),hk]
         cases hod:o.dst with
         | none=>simp[St.get,St.put,jA,hne']
         | some t' =>
          simp only[St.get,St.put,jA,List.length_set];split
          .rfl
          .first|rfl|rw[if_neg hne']
       | ro n =>
        have hk:=hput (.ro n);rw[get_put (by simp),hk]
        cases o.dst<;>rfl
       | lo n =>
        have hk:=hput (.lo n);rw[get_put (by simp),hk]
        cases o.dst<;>rfl
      .rw [hdst.1];have h1:(zO ops b Y a ss st0).stk=(zO ops b X a ss st0).stk:=by rw[zg3,zg3]
       cases o.dst<;>exact h1
      .rw [hdst.1];have h1:(zO ops b Y a ss st0).ep=(zO ops b X a ss st0).ep:=by rw[zdH,zdH]
       cases o.dst<;>exact h1
     .have hro:∀n,zf (zO ops b Y a ss st0).ro n=zf (zO ops b X a ss st0).ro n:=fun n=>by
       rw[ztp (hput (.ro n))];cases o.dst<;>rfl
      have hlo':∀n,zf (zO ops b Y a ss st0).lo n=zf (zO ops b X a ss st0).lo n:=fun n=>by
       rw[zzE (hput (.lo n))];cases o.dst<;>rfl
      exact hL.states (fun n=>by
       unfold St.root;rw[hro n,hep Y,hep X]) hlo'
 .intro fl l' E' ts' w' hsz' hl' hf' hJ;obtain ⟨v,h1,h2,h3⟩:=hJ.2 rfl;refine htail fl l' E' ts' w' v hsz' hl' hf' h1 h2 (h3.states (fun n=>?_) (fun n=>?_))
  .rw [hdst.1];rfl
  .rw [hdst.1];rfl
theorem zEk {a b:At}(h:sameAt a b=true):a=b:=by
 cases a<;>cases b<;>simp only [sameAt]at h<;>try cases h
 case i.i k n k' n' =>
  by_cases hk:k=k'
  .subst hk;simp only[decide_true,cond_true,ieq,qH]at h;rw[h]
  .simp [hk]at h
 case b.b x y=>simp only[zo6,qH]at h;rw[h]
 case sl.sl r p r' p' =>
  cases hr:Nat.beq r r' with
  | false=>rw[hr]at h;cases h
  | true =>
   rw[hr,cond_true]at h;rw[jP hr,zlt h]
 case lp.lp l o l' o' =>
  simp only[qD]at h;rw[jP h.1,jP h.2]
 case ep.ep r p i o r' p' i' o' =>
  cases hr:(Nat.beq r r'&&Nat.beq o o') with
  | false=>rw[hr]at h;cases h
  | true =>
   rw[hr,cond_true]at h;simp only[qD]at hr h;simp only[ieq,qH]at h;rw[jP hr.1,jP hr.2,h.1,zlt h.2]
 case fn.fn f c f' c' =>
  simp only[qD,qH]at h;rw[jP h.1,h.2]
theorem zAT:∀{l m:List At},zvq l m=true->l=m
 | [],[],_=>rfl
 | a :: l,b :: m,h=>by
  simp only[zvq,qD]at h;rw[zEk h.1,zAT h.2]
 | [],_ :: _,h=>by cases h
 | _ :: _,[],h=>by cases h
theorem zNL {x y:MV}(h:zAU x y=true):x=y:=by
 unfold zAU at h;split at h
 .rw [zEk h]
 .rw [zAT h]
 .cases h
theorem zl3 {k:St->Option Ans}{ans:Ans}:∀{js:List Nat},zi7 C ops base k js st=some ans ->
 k st=some ans/\∀j∈js,∃o d t,ops[j]?=some o/\delta C st o (base+32*j)=some d/\d.c=true/\o.dst=some t/\st.tm[t]?=some d.v
 | [],h=>⟨h,fun _ h=>by cases h⟩
 | j :: r,h=>by
  unfold zi7 at h;split at h
  .rename_i o ho;split at h
   .rename_i d t hd ht;split at h
    .rename_i m hm;cases hc:(d.c&&zAU d.v m) with
     | false=>rw[hc]at h;cases h
     | true =>
      rw[hc,cond_true]at h;obtain ⟨h1,h2⟩:=zl3 h;simp only[qD]at hc;refine ⟨h1,fun i hi=>?_⟩;rcases qG.1 hi with rfl|hi
      .exact ⟨o,d,t,ho,hd,hc.1,ht,by rw[hm,zNL hc.2]⟩
      .exact h2 i hi
    .cases h
   .cases h
  .cases h
theorem zzx {ts ts1:Array Value}{x:Operand}(h:∀t,x = .tmp t->ts[t]?=ts1[t]?):({ tmps:=ts,defers:=[] }:Act).eval x=({ tmps:=ts1,defers:=[] }:Act).eval x:=by
 cases x with
 | tmp t=>simp only[Act.eval,Array.getD_eq_getD_getElem?,h t rfl]
 | _=>rfl
theorem zAB {o:Oper}{x:Operand}{t:Nat}(hx:x∈o.op.operands.toList)(ht:x = .tmp t):t∈zeU o:=by
 subst ht;exact kS.2 ⟨_,hx,rfl⟩
theorem zLL {o:Oper}(hp:zgs o=true){ts ts1:Array Value}(h:∀t∈zeU o,ts[t]?=ts1[t]?):execOp ({ tmps:=ts,defers:=[] }:Act).eval o=execOp ({ tmps:=ts1,defers:=[] }:Act).eval o:=by
 have he:∀x∈o.op.operands.toList,({ tmps:=ts,defers:=[] }:Act).eval x=({ tmps:=ts1,defers:=[] }:Act).eval x:=fun x hx=>zzx fun t ht=>h t (zAB hx ht);unfold zgs at hp;simp only[qD]at hp;obtain ⟨_,hp⟩:=hp;cases hop:o.op
 case move x=>simp only[execOp,hop,he x (by rw[hop];simp[Op.operands])]
 case load T x=>simp only[execOp,hop,he x (by rw[hop];simp[Op.operands])]
 case fieldAddr T x f=>simp only[execOp,hop,he x (by rw[hop];simp[Op.operands])]
 case indexAddr T x y=>simp only[execOp,hop,he x (by rw[hop];simp[Op.operands]),he y (by rw[hop];simp[Op.operands])]
 case nilCheck x=>simp only[execOp,hop,he x (by rw[hop];simp[Op.operands])]
 all_goals (rw [hop]at hp;simp at hp)
theorem ztG {o:Oper}(h:zkB o=true):o.guard=none/\∃c x,o.op = .call c/\c.callee = .value x:=by
 unfold zkB at h;simp only[qD,j4]at h;refine ⟨h.1.1,?_⟩;have h2:=h.2;split at h2
 .rename_i c hc;split at h2
  .rename_i x hx;exact ⟨c,x,hc,hx⟩
  .cases h2
 .cases h2
theorem zKM {o:Oper}(hc:zkB o=true){ts ts1:Array Value}(h:∀t∈zeU o,ts[t]?=ts1[t]?):execOp ({ tmps:=ts,defers:=[] }:Act).eval o=execOp ({ tmps:=ts1,defers:=[] }:Act).eval o:=by
 have he:∀x∈o.op.operands.toList,({ tmps:=ts,defers:=[] }:Act).eval x=({ tmps:=ts1,defers:=[] }:Act).eval x:=fun x hx=>zzx fun t ht=>h t (zAB hx ht);obtain ⟨_,c,x,hop,hcb⟩:=ztG hc;have hx:=he x (by rw[hop];simp[Op.operands,Call.operands,hcb])
 have ha:c.args.map ({ tmps:=ts,defers:=[] }:Act).eval=c.args.map ({ tmps:=ts1,defers:=[] }:Act).eval:=by
  apply Array.map_congr_left;intro y hy;exact he y (by rw[hop];simp[Op.operands,Call.operands,hcb,hy])
 simp only[execOp,hop,resolve,hcb,hx,ha]
theorem zL9 {P:Program}{o:Oper}{i:Nat}(ho:ops[i]?=some o)(hc:zkB o=true){ts ts1:Array Value}(h:∀t∈zeU o,ts[t]?=ts1[t]?){K1 K:Act->World->Prop}{Q1 Q:Exit->Act->World->Prop}(hQ:∀e a w,Q1 e a w->e = .normal)(hK:∀a' w',K1 a' w'->a'.defers=[])(hKK:∀v w',K1 (({ tmps:=ts1,defers:=[] }:Act).put o.dst v) w'->K (({ tmps:=ts,defers:=[] }:Act).put o.dst v) w')(hw:wpOp P ops Q1 i K1 { tmps:=ts1,defers:=[] } w):wpOp P ops Q i K { tmps:=ts,defers:=[] } w:=by
 obtain ⟨hg,_⟩:=ztG hc;unfold wpOp at hw ⊢;simp only[ho]at hw ⊢;rw[if_pos (by simp[Region.wanted,hg])]at hw ⊢
 rcases hw with hw|⟨_,a,w,hl⟩
 .refine .inl ?_;unfold Oper.wp at hw ⊢;rw[zKM hc h];generalize (execOp ({ tmps:=ts1,defers:=[] }:Act).eval o).run P w=r at hw;cases r with
  | ok n w' =>
   cases n with
   | value v=>exact hKK v w' hw
   | skip=>exact hKK undef w' hw
   | defer d =>
    exfalso;have:=hK _ _ hw;cases hd:o.dst<;>simp [Act.put,hd] at this
   | enter f args =>
    refine Calls.mono hw ?_;intro e w2 he;cases e with
    | returned v=>exact hKK v w2 he
    | panicked chain=>exact absurd (hQ _ _ _ he) (by simp)
    | outgrown =>
     obtain ⟨a,w3,hl⟩:=he;exact absurd (hQ _ _ _ hl) (by simp)
   | row row args=>exact Rows.mono hw fun v w2 he=>hKK v w2 he
   | _=>exact hw.elim
  | halt hh w' =>
   cases hh with
   | panic v=>exact absurd (hQ _ _ _ hw) (by simp)
   | _=>exact hw.elim
 .exact absurd (hQ _ _ _ hl) (by simp)
theorem zlD {m a j:Nat}:j∈zhW cl m a↔(m<=j/\j<m+(a-m))/\j∉cl.getD a []:=by
 unfold zhW;rw[List.mem_filter];simp
def VV (U:Nat->Prop)(base size m n:Nat):Prop:=U n\/(base<=n/\n<base+32*m)\/base+32*size<=n
theorem zN4 (hC:CfgOk C)(hH:CtrOk C)(hG:GraftOk C)(hN:NameOk C){call:zdY}(hcall:zlq C call){a A:Nat}(W:Waits md ops cl)(haA:a<=A)(hA:a+ss.length=A)(hTs:A+1<=ops.size)(hpin:A+1<ops.size->Pinned ops.size cl (A+1))(F:Free C ops cl b base a ss st0)(hb:b=false->∀k,a<=k->k<A->zga C ops k=false)(hd:b=true->Dead st0/\0<st0.ep)(hM:∀k,a<=k->k<A->∀n,Mine (base+32*k) n->¬ U n){oA:Oper}(hoA:ops[A]?=some oA)(hcv:zkB oA=true)(hlo:zp2 ops cl a A=true)(hlr:zx3 ops cl (zhW cl a A) oA=true){V:Nat->Prop}(hVV:∀n,UX U base a A (fun _=>true) n->VV V base ops.size A n)(hVb:∀n,base<=n->¬ V n)(hnid:base+32*ops.size<=st0.nid)(hF:∀n,st0.nid<=n->¬ UX U base a A (fun _=>true) n){k:St->Option Ans}{ans:Ans}(hden:zik C call ops base (zi7 C ops base k (zhW cl a A)) [A] (zO ops b (fun _=>true) a ss st0)=some ans){Q:Exit->Act->World->Prop}(htail:∀(fl:Nat) (l':Array Bool) (U':Nat->Prop) (st':St) (E':Env) (ts':Array Value) (w':World),l'.size=ops.size->(∀i,i<ops.size->l'.getD i true=decide (i<A+1))->left ops.size l'<=fl ->
 Sim w0 S0 U' st' E' ts' sv w'->(∀n,U' n->VV V base ops.size (A+1) n)->base+32*ops.size<=st'.nid->(∀n,st'.nid<=n->¬ U' n)->k st'=some ans->wpAny C.P md ops Q fl l' { tmps:=ts',defers:=[] } w')(fuel:Nat)(listed:Array Bool)(E:Env)(ts:Array Value)(w:World)(hsz:listed.size=ops.size)(hX:ze5 cl (XL listed))(hbel:∀i,i<a->XL listed i=true)(hlow:∀m,A<=m->m<ops.size->XL listed m=false)(hf:left ops.size listed<=fuel)(hS:Sim w0 S0 (UX U base a A (XL listed)) (zO ops b (XL listed) a ss st0) E ts sv w):wpAny C.P md ops Q fuel listed { tmps:=ts,defers:=[] } w:=by
 have huses:∀{X Y:Nat->Bool},(∀k,X k=true->Y k=true)->∀n,UX U base a A X n->UX U base a A Y n:=by
  intro X Y hXY n h;rcases h with h|⟨k,h0,h1,h2,h3⟩
  .exact .inl h
  .exact .inr ⟨k,h0,h1,hXY k h2,h3⟩
 have hlate:∀j∈zhW cl a A,∃p t,ops[j]?=some p/\p.dst=some t/\zgs p=true/\t∉zeU oA/\∀i∈zhW cl a A,∀q,ops[i]?=some q->(t∈zeU q->j∈cl.getD i [])/\(i=j\/q.dst≠some t):=by
  intro j hj;have h1:=qS.1 hlr j hj;split at h1
  .rename_i p hp;split at h1
   .rename_i t ht;simp only[qD,qZ,qS]at h1;have h2:=qS.1 hlo j (by obtain ⟨⟨g1,g2⟩,_⟩:=zlD.1 hj;simp;omega)
    simp only[hp,jT,jE,qX]at h2;refine ⟨p,t,hp,ht,h2.resolve_left (zlD.1 hj).2,by simpa using h1.1,fun i hi q hq=>?_⟩
    have h3:=h1.2 i hi;simp only[hq,qD,jT,qZ,qH,jE,qX,decide_eq_false_iff_not]at h3;refine ⟨fun hm=>h3.1.resolve_left (fun hn=>hn hm),?_⟩;rcases h3.2 with h|h
    .exact .inl h
    .exact .inr (by simpa using h)
   .cases h1
  .cases h1
 have late_of:∀{X:Nat->Bool} {i:Nat},a<=i->i<A->X i=false->(∀j∈cl.getD A [],X j=true)->i∈zhW cl a A:=by
  intro X i h1 h2 h3 h4;exact zlD.2 ⟨⟨h1,by omega⟩,fun h=>by rw[h4 i h]at h3;cases h3⟩
 let Ag:(Nat->Bool)->Array Value->Array Value->Prop:=fun X ts ts1=>ts.size=ts1.size/\∀t,(∀j∈zhW cl a A,X j=false->∀o,ops[j]?=some o->o.dst≠some t)->ts[t]?=ts1[t]?
 refine zzl (T:=A+1) (J:=fun X E ts w=>(X A=false->Sim w0 S0 (UX U base a A X) (zO ops b X a ss st0) E ts sv w) /\
  (X A=true->∃(U1:Nat->Prop) (st1:St) (ts1:Array Value),Sim w0 S0 U1 st1 E ts1 sv w/\(∀n,U1 n->VV V base ops.size (A+1) n)/\base+32*ops.size<=st1.nid/\(∀n,st1.nid<=n->¬ U1 n)/\zi7 C ops base k (zhW cl a A) st1=some ans/\Ag X ts ts1)) W hTs hpin ?_ ?_ ?_
  fuel listed E ts w hsz hX hbel (fun m h1 h2=>hlow m (by omega) h2) hf ⟨fun _=>hS,fun h=>(by rw[hlow A (qV _) (by omega)]at h;cases h)⟩
 .intro X Y E ts w h hJ;have hXA:X A=Y A:=h A (by omega) (by omega)
  have e:=zfy (ops:=ops) (b:=b) ss a st0 (X:=X) (Y:=Y) (fun k h1 h2=>h k h1 (by omega))
  refine ⟨fun hYA=>?_,fun hYA=>?_⟩
  .have:=hJ.1 (hXA.trans hYA);rw[e] at this;refine this.uses ?_
   rintro n (h1|⟨k,h0,h1,h2,h3⟩)
   .exact .inl h1
   .exact .inr ⟨k,h0,h1,by rw[<- h k h0 (by omega)];exact h2,h3⟩
  .obtain ⟨U1,st1,ts1,h1,h2,h3,h4,h5,h6,h7⟩:=hJ.2 (hXA.trans hYA);refine ⟨U1,st1,ts1,h1,h2,h3,h4,h5,h6,fun t ht=>h7 t (fun j hj hXj=>ht j hj ?_)⟩;have:=zlD.1 hj;rw[<- h j this.1.1 (by omega)]
   exact hXj
 .intro X Y i hX hia hi hXi hr hY E ts w hJ K hK
  by_cases hiA:i=A
  .subst hiA;have hSX:=hJ.1 hXi
   have ghost:∀n,a<=n->n<=i->∃ts1,Sim w0 S0 (UX U base a i (fun k=>X k||decide (k<n))) (zO ops b (fun k=>X k||decide (k<n)) a ss st0) E ts1 sv w/\Ag X ts ts1:=by
    intro n
    induction n with
    | zero =>
     intro h0 _;have e:(fun k=>X k||decide (k<0))=X:=by funext k;simp
     rw[e];exact ⟨ts,hSX,rfl,fun _ _=>rfl⟩
    | succ n ih =>
     intro h1 h2
     by_cases han:a=n+1
     .have e:zO ops b (fun k=>X k||decide (k<n+1)) a ss st0=zO ops b X a ss st0:=zfy ss a st0 (fun k g1 g2=>by
       have:¬ k<n+1:=by omega
       simp[this])
      rw[e];refine ⟨ts,hSX.uses (huses fun k hk=>by simp[hk]),rfl,fun _ _=>rfl⟩
     .obtain ⟨ts1,hS1,hA1⟩:=ih (by omega) (by omega)
      have hset:∀k,(X k||decide (k<n+1))=((X k||decide (k<n))||k==n):=fun k=>by
       by_cases hk:k<n
       .have:k<n+1:=by omega
        simp[hk,this]
       .by_cases hk2:k=n
        .subst hk2;simp
        .have:¬ k<n+1:=by omega
         simp[hk,hk2,this]
      cases hXn:X n with
      | true =>
       have e:(fun k=>X k||decide (k<n+1))=fun k=>X k||decide (k<n):=by
        funext k
        rw[hset k]
        by_cases hk:k=n
        .subst hk;simp[hXn]
        .simp [hk]
       rw[e];exact ⟨ts1,hS1,hA1⟩
      | false =>
       have hln:=late_of (by omega) (by omega) hXn hr
       obtain ⟨p,t,hp,ht,hpo,_⟩:=hlate n hln;have hcX:ze5 cl (fun k=>X k||decide (k<n)):=by
        intro k hk j hj;simp only[jT,qX]at hk ⊢;rcases hk with hk|hk
        .exact .inl (hX k hk j hj)
        .have:=W.lt k (by omega) j hj
         exact .inr (by omega)
       obtain ⟨q,rfl⟩:∃q,n=a+q:=⟨n-a,by omega⟩
       obtain ⟨s,hs⟩:∃s,ss[q]?=some s:=⟨_,qB (by omega)⟩
       have hXn2:(X (a+q)||decide (a+q<a+q))=false:=by simp[hXn]
       obtain ⟨o,ho,hdo⟩:=zDZ F hcX hs hXn2 (fun j hj=>by
        have:=W.lt (a+q) (by omega) j hj
        simp[this])
       rw[hp]at ho;cases ho;have hg0:p.guard=none:=by
        unfold zgs at hpo;simp only[qD,j4]at hpo;exact hpo.1
       cases s with
       | none =>
        exfalso;have:zbT ops p (zO ops b (fun k=>X k||decide (k<a+q)) a ss st0)=some false:=hdo;simp[zbT,hg0] at this
       | some d =>
        obtain ⟨_,d2,d3⟩:=hdo;obtain ⟨_,v2,hrun,hvm,hids,e1,e2,e3⟩:=zmM hC hS1 hpo (zwn hpo d2) d3;have hput:∀κ,(zO ops b (fun k=>X k||decide (k<a+q+1)) a ss st0).get κ=((zO ops b (fun k=>X k||decide (k<a+q)) a ss st0).put p.dst d.v).get κ:=by
         intro κ;rw[zxt F hcX hs hp hXn2 (fun k=>hset k) κ];simp only[St.step,St.effD,e1,e2,List.map_nil,jN]
        have hS2:=hS1.putV (dst:=p.dst) hvm hids;refine ⟨(({ tmps:=ts1,defers:=[] }:Act).put p.dst v2).tmps,(hS2.same hput ?_ ?_).uses (huses fun k hk=>?_),?_,?_⟩
        .rw [zg3,zDh,zg3]
        .rw [zdH,zH3,zdH]
        .simp only [jT,qX]at hk ⊢;rcases hk with hk|hk
         .exact .inl hk
         .exact .inr (by omega)
        .rw [ht];simp[Act.put,hA1.1]
        .intro t' ht';rw[hA1.2 t' ht',ht];have hne:t≠t':=fun e=>ht' _ hln hXn p hp (by rw[ht,e])
         simp[Act.put,uH hne]
   obtain ⟨ts1,hS1,hA1⟩:=ghost i haA (qV _);have e:=zfy (ops:=ops) (b:=b) ss a st0 (X:=fun k=>X k||decide (k<i)) (Y:=fun _=>true) (fun k h1 h2=>by
    have:k<i:=by omega
    simp[this])
   rw[e]at hS1;have hS1:=hS1.uses (huses (Y:=fun _=>true) fun _ _=>rfl)
   let Q1:Exit->Act->World->Prop:=fun e a' w'=>e = .normal/\a'.defers=[]/\∃(U1:Nat->Prop) (st1:St) (E1:Env),Sim w0 S0 U1 st1 E1 a'.tmps sv w'/\(∀n,U1 n->VV V base ops.size (i+1) n)/\base+32*ops.size<=st1.nid/\(∀n,st1.nid<=n->¬ U1 n)/\zi7 C ops base k (zhW cl a i) st1=some ans
   have hnidf:(zO ops b (fun _=>true) a ss st0).nid=st0.nid:=zon ss a st0;have key:=zg2 (Q:=Q1) hC hH hG hN hcall (ops:=ops) (base:=base) (V:=VV V base ops.size (i+1)) (nid0:=base+32*ops.size) (fun n hn'=>.inr (.inr hn'))
    (fun U' st' E' ts' w' hS' hU' hn' hF' h'=>⟨rfl,rfl,U',st',E',hS',hU',hn',hF',h'⟩)
    [i] _ _ E ts1 w hS1 ?_ (by rw[hnidf];exact hF) ?_ (by simp) (by rw[hnidf];exact hnid) ?_ hden
   .rw [wpOps_cons] at key;refine zL9 hoA hcv (fun t ht=>hA1.2 t (fun j hj hXj o ho hdt=>?_)) (fun e a w h=>h.1) (fun a' w' h=>h.2.1) (fun v w' h=>?_) key
    .obtain ⟨p,t',hp,hpt,_,hn,_⟩:=hlate j hj;rw[hp]at ho;cases ho;rw[hpt]at hdt;cases hdt;exact hn ht
    .obtain ⟨_,_,U1,st1,E1,g1,g2,g3,g4,g5⟩:=h;rw[ze6];refine hK E1 _ w' ⟨fun h=>(by rw[hY]at h;simp at h),fun _=>⟨U1,st1,_,g1,g2,g3,g4,g5,?_,?_⟩⟩
     .cases oA.dst<;>simp [Act.put,hA1.1]
     .intro t ht;have h0:ts[t]?=ts1[t]?:=hA1.2 t (fun j hj hXj=>ht j hj (by
       have:=zlD.1 hj;rw[hY,hXj];simp;omega))
      cases hdst:oA.dst with
      | none=>simpa [Act.put,hdst] using h0
      | some d =>
       simp only[Act.put,hdst,kV,hA1.1];split
       .rfl
       .exact h0
   .rintro n hn'
    rcases hVV n hn' with h|⟨h1,h2⟩|h
    .exact .inl h
    .exact .inr (.inl ⟨h1,by omega⟩)
    .exact .inr (.inr h)
   .intro j hj n hmn;simp only[qE]at hj;subst hj;obtain ⟨g1,g2⟩:=hmn;refine ⟨fun hn'=>?_,.inr (.inl ⟨by omega,by omega⟩)⟩
    rcases hVV n hn' with h|⟨h1,h2⟩|h
    .exact hVb n (by omega) h
    .omega
    .omega
   .intro j hj;simp only[qE]at hj;subst hj;rw[hnidf];omega
  .have hiA':i<A:=by omega
   have hYA:Y A=X A:=by
    rw[hY];have:(A==i)=false:=by simp;omega
    rw[this,k6]
   cases hXA:X A with
   | false =>
    refine zto hC hH hG hA F hX hia hiA' hXi hr hb hd hM hY (hJ.1 hXA) (fun E' ts' w' hS'=>hK E' ts' w' ⟨fun _=>hS',fun h=>(by rw[hYA,hXA]at h;cases h)⟩)
   | true =>
    obtain ⟨U1,st1,ts1,g1,g2,g3,g4,g5,g6,g7⟩:=hJ.2 hXA;have hli:=late_of hia hiA' hXi (fun j hj=>hX A hXA j hj);obtain ⟨p,t,hp,ht,hpo,_,hap⟩:=hlate i hli;obtain ⟨o,d,t2,ho,hdl,hdc,ht2,htm⟩:=(zl3 g5).2 i hli;rw[hp]at ho;cases ho;rw[ht]at ht2;cases ht2;obtain ⟨hg0,v2,hrun,hvm,hids,_,_,_⟩:=zmM hC g1 hpo hdl hdc;have hag:execOp ({ tmps:=ts,defers:=[] }:Act).eval p=execOp ({ tmps:=ts1,defers:=[] }:Act).eval p:=zLL hpo (fun t' ht'=>g7 t' (fun j hj hXj o ho hdt=>by
     obtain ⟨p2,t3,hp2,hpt2,_,_,hap2⟩:=hlate j hj;rw[hp2]at ho;cases ho;rw[hpt2]at hdt;cases hdt;have:=hr j ((hap2 i hli p hp).1 ht');rw[this]at hXj;cases hXj))
    rw[<- hag]at hrun;refine pure_run (d:=d) hp hg0 hrun (hK E _ w ⟨fun h=>(by rw[hYA,hXA]at h;cases h),fun _=>⟨U1,st1,(({ tmps:=ts1,defers:=[] }:Act).put p.dst v2).tmps,?_,g2,g3,g4,g5,?_,?_⟩⟩)
    .have:=g1.putV (dst:=p.dst) hvm hids;rw[ht,zyk htm] at this;rw[ht];exact this
    .rw [ht];simp[Act.put,g6]
    .intro t' ht';rw[ht];simp only[Act.put,kV,g6];split
     .rfl
     .rename_i hne;refine g7 t' (fun j hj hXj o ho hdt=>?_)
      by_cases hji:j=i
      .subst hji;rw[hp]at ho;cases ho;rw[ht]at hdt;cases hdt;exact hne rfl
      .refine ht' j hj ?_ o ho hdt;rw[hY,hXj];simp[hji]
 .intro fl l' E' ts' w' hsz' hl' hf' hJ;obtain ⟨U1,st1,ts1,g1,g2,g3,g4,g5,g6,g7⟩:=hJ.2 rfl;have:ts'=ts1:=Array.ext_getElem? fun t=>g7 t (fun j _ h=>by cases h)
  subst this;exact htail fl l' U1 st1 E' ts' w' hsz' hl' hf' g1 g2 g3 g4 (zl3 g5).1
theorem zp3 (hC:CfgOk C)(W:Waits md ops cl){x:App}{kk:Nat->List Bool->St->Option Ans}{ans:Ans}{Q:Exit->Act->World->Prop}(hkk:∀(m':Nat) (r':List Bool) (U':Nat->Prop) (st':St) (E':Env) (ts':Array Value) (w':World) (fl:Nat) (l':Array Bool),r'=(zeW ops.size cl).drop m'->m'<=ops.size->l'.size=ops.size->(∀i,i<ops.size->l'.getD i true=decide (i<m'))->left ops.size l'<=fl ->
 Sim w0 S0 U' st' E' ts' sv w'->(∀n,U' n->VV U base ops.size m' n)->(∀n,st'.nid<=n->¬ U' n)->base+32*ops.size<=st'.nid->kk m' r' st'=some ans->wpAny C.P md ops Q fl l' { tmps:=ts',defers:=[] } w') :
 ∀(pins:List Bool) (m:Nat) (V:Nat->Prop) (st:St) (E:Env) (ts:Array Value) (w:World) (fuel:Nat) (listed:Array Bool) (v:Value),pins=(zeW ops.size cl).drop m->m<=ops.size->listed.size=ops.size->(∀i,i<ops.size->listed.getD i true=decide (i<m))->left ops.size listed<=fuel ->
  Sim w0 S0 V st E ts sv w->(∀n,V n->VV U base ops.size m n)->(∀n,st.nid<=n->¬ V n)->base+32*ops.size<=st.nid->ts[x.dst]?=some v->Late w0 st E x v w->zkC C ops base x kk pins m st=some ans->wpAny C.P md ops Q fuel listed { tmps:=ts,defers:=[] } w
 | [],m,V,st,E,ts,w,fuel,listed,v,_,_,_,_,_,_,_,_,_,_,_,h=>by simp[zkC]at h
 | false :: r,m,V,st,E,ts,w,fuel,listed,v,_,_,_,_,_,_,_,_,_,_,_,h=>by simp[zkC]at h
 | true :: r,m,V,st,E,ts,w,fuel,listed,v,hp,hm,hsz,hl,hf,hS,hV,hF,hn,hv,hL,h=>by
  simp only[zkC]at h;obtain ⟨hms,hpin,hr⟩:=zlE hp;have hV1:∀n,V n->VV U base ops.size (m+1) n:=by
   rintro n hn'
   rcases hV n hn' with h|⟨h1,h2⟩|h
   .exact .inl h
   .exact .inr (.inl ⟨h1,by omega⟩)
   .exact .inr (.inr h)
  refine zKm W hsz hms (zpi hpin.symm) hl hf (fun fl l' hsz' hl' hf' _ _=>?_);split at h
  .cases h
  .rename_i o ho;split at h
   .rename_i c st2 hst;cases hc:c with
    | false=>rw[hc]at h;cases h
    | true =>
     rw[hc]at h hst;simp only[cond_true,zuQ]at h;obtain ⟨hg,hgo,hnid⟩:=zLi (id:=base+32*m) hC hS hL hv hst;unfold wpOp;simp only[ho];rw[if_pos (by simp[Region.wanted,hg])]
     refine .inl (hgo _ _ (fun E' v' w' hS'=>?_));rw[ze6];refine hkk (m+1) r _ _ E' _ w' fl l' hr (by omega) hsz' hl' hf' hS' ?_ ?_ (by rw[zdx];omega) h
     .rintro n (h|⟨h1,h2⟩)
      .exact hV1 n h
      .exact .inr (.inl ⟨by omega,by omega⟩)
     .rintro n hn' (h|⟨h1,h2⟩)
      .exact hF n (by rw[zdx]at hn';omega) h
      .rw [zdx]at hn';omega
   .split at h
    .rename_i hcond;simp only[qD,qZ,beq_eq_false_iff_ne]at hcond;split at h
     .rename_i d hd;cases hc:d.c with
      | false=>rw[hc]at h;cases h
      | true =>
       rw[hc]at h;simp only[cond_true]at h;obtain ⟨hg,v2,hrun,hvm,hids,e1,e2,e3⟩:=zmM hC hS hcond.1 hd hc;have he:st.apply o.dst d=st.put o.dst d.v:=by simp[St.apply,e1,e2,e3]
       rw[he]at h;refine pure_run (d:=d) ho hg hrun ?_;refine zp3 hC W hkk r (m+1) V _ E _ w fl l' v hr (by omega) hsz' hl' hf' (hS.putV hvm hids) hV1 (by rw[zdx];exact hF) (by rw[zdx];exact hn) ?_ (hL.states (fun n=>?_) (fun n=>?_)) h
       .cases hod:o.dst with
        | none=>exact hv
        | some t=>exact zH4 hv (fun e=>hcond.2 (by rw[hod,e]))
       .cases o.dst<;>rfl
       .cases o.dst<;>rfl
     .cases h
    .cases h
theorem zgm (hC:CfgOk C)(hH:CtrOk C)(hG:GraftOk C)(hN:NameOk C){call:zdY}(hcall:zlq C call)(W:Waits md ops cl){k:St->Option Ans}{ans:Ans}{Q:Exit->Act->World->Prop}(hU0:∀n,base<=n->¬ U n)(hk:∀(U':Nat->Prop) (st':St) (E':Env) (ts':Array Value) (w':World),Sim w0 S0 U' st' E' ts' sv w'->(∀n,U' n->VV U base ops.size ops.size n)->base+32*ops.size<=st'.nid->(∀n,st'.nid<=n->¬ U' n)->k st'=some ans->Q .normal { tmps:=ts',defers:=[] } w') :
 ∀(fs m:Nat) (pins:List Bool) (V:Nat->Prop) (st:St) (E:Env) (ts:Array Value) (w:World) (fuel:Nat) (listed:Array Bool),pins=(zeW ops.size cl).drop m->m<=ops.size->listed.size=ops.size->(∀i,i<ops.size->listed.getD i true=decide (i<m))->left ops.size listed<=fuel ->
  Sim w0 S0 V st E ts sv w->(∀n,V n->VV U base ops.size m n)->(∀n,st.nid<=n->¬ V n)->base+32*ops.size<=st.nid->zgA C call ops cl base k fs m pins st=some ans->wpAny C.P md ops Q fuel listed { tmps:=ts,defers:=[] } w
 | 0,m,pins,V,st,E,ts,w,fuel,listed,_,_,_,_,_,_,_,_,_,h=>by simp[zgA]at h
 | fs+1,m,[],V,st,E,ts,w,fuel,listed,hp,hm,hsz,hl,hf,hS,hV,hF,hn,h=>by
  simp only[zgA]at h;have hms:=zH0 hp;have e:m=ops.size:=by omega
  subst e;exact zO3 (fun i hi=>by rw[hl i hi];simp[hi]) (hk V st E ts w hS hV hn hF h)
 | fs+1,m,true :: r,V,st,E,ts,w,fuel,listed,hp,hm,hsz,hl,hf,hS,hV,hF,hn,h=>by
  simp only[zgA]at h;obtain ⟨hms,hpin,hr⟩:=zlE hp;refine zKm W hsz hms (zpi hpin.symm) hl hf (fun fl l' hsz' hl' hf' _ _=>?_)
  let Q':Exit->Act->World->Prop:=fun e a w=>match e with
   | .normal=>wpAny C.P md ops Q fl l' a w
   | e=>Q e a w
  have hQ:∀e,e≠Exit.normal->∀a w,Q' e a w->Q e a w:=by
   intro e he a w h;cases e<;>first|exact absurd rfl he|exact h
  refine zL8 hQ ?_;have key:=zg2 (Q:=Q') hC hH hG hN hcall (ops:=ops) (base:=base) (V:=VV U base ops.size (m+1)) (nid0:=base+32*ops.size) (fun n hn'=>.inr (.inr hn'))
   (fun U' st' E' ts' w' hS' hU' hn' hF' h'=>zgm hC hH hG hN hcall W hU0 hk fs (m+1) r U' st' E' ts' w' fl l' hr (by omega) hsz' hl' hf' hS' hU' hF' hn' h')
   [m] V st E ts w hS ?_ hF ?_ (by simp) hn ?_ h
  .rw [wpOps_cons] at key;exact wpOp_mono (fun a w h=>h) key
  .rintro n hn'
   rcases hV n hn' with h|⟨h1,h2⟩|h
   .exact .inl h
   .exact .inr (.inl ⟨h1,by omega⟩)
   .exact .inr (.inr h)
  .intro j hj n hmn;simp only[qE]at hj;subst hj;obtain ⟨g1,g2⟩:=hmn;refine ⟨fun hn'=>?_,.inr (.inl ⟨by omega,by omega⟩)⟩
   rcases hV n hn' with h|⟨h1,h2⟩|h
   .exact hU0 n (by omega) h
   .omega
   .omega
  .intro j hj;simp only[qE]at hj;subst hj;omega
 | fs+1,m,false :: r,V,st,E,ts,w,fuel,listed,hp,hm,hsz,hl,hf,hS,hV,hF,hn,h=>by
  simp only[zgA]at h;obtain ⟨hms,_,hr⟩:=zlE hp;obtain ⟨hfr1,hfr2,hfr3⟩:=zEb r (m+1) (by omega) hr
  generalize hb0:(List.range' m (zbq r+1)).any (zga C ops)=b at h;have hS0':Sim w0 S0 V { st with ep:=if b then st.ep+1 else st.ep } E ts sv w:=hS.blind b st.nid
  have hnid0:({ st with ep:=if b then st.ep+1 else st.ep }:St).nid=st.nid:=rfl
  have hd':b=true->Dead ({ st with ep:=if b then st.ep+1 else st.ep }:St)/\0<({ st with ep:=if b then st.ep+1 else st.ep }:St).ep:=by
   intro hb;subst hb;refine ⟨fun n R e hR he=>?_,by simp⟩
   have:=hS.mem.epo n R e hR he;simp only[if_true];omega
  have hb':b=false->∀k,m<=k->k<m+1+zbq r->zga C ops k=false:=by
   intro hb k hk1 hk2;rw[hb]at hb0;have:=kG.1 hb0 k (by simp;omega)
   simpa using this
  have hM:∀k,m<=k->k<m+1+zbq r->∀n,Mine (base+32*k) n->¬ V n:=by
   intro k h1 h2 n hn' hv;have g1:=hn'.1;have g2:=hn'.2;rcases hV n hv with h|⟨h3,h4⟩|h
   .exact hU0 n (by omega) h
   .omega
   .omega
  have hoff:∀(ss:List Step) (st0:St),zO ops b (XL listed) m ss st0=st0:=fun ss st0=>zoo ss m st0 (fun k hk=>by
   rcases kW k ops.size with h|h
   .rw [zmw (by omega),hl k h];simp;omega
   .simp [XL,uD (show listed.size<=k by omega)])
  have hVX:∀{T:Nat},T<=m+(zbq r+1)->∀n,UX V base m T (fun _=>true) n->VV U base ops.size (m+(zbq r+1)) n:=by
   rintro T hT n (h|⟨k,h0,h1,_,h3⟩)
   .rcases hV n h with h|⟨h1,h2⟩|h
    .exact .inl h
    .exact .inr (.inl ⟨h1,by omega⟩)
    .exact .inr (.inr h)
   .have g1:=h3.1;have g2:=h3.2;exact .inr (.inl ⟨by omega,by omega⟩)
  have hFX:∀{T:Nat},T<=m+(zbq r+1)->∀n,st.nid<=n->¬ UX V base m T (fun _=>true) n:=by
   rintro T hT n hn' (h|⟨k,h0,h1,_,h3⟩)
   .exact hF n (by omega) h
   .have:=h3.2;omega
  have hmk:∀{gs:List (Nat×Foot)} {ss:List Step} {st0 st':St},(∀x∈gs,∀y∈gs,(¬ x.1<y.1\/x.1∈cl.getD y.1 [])\/x.2.apart y.2=true)->Trace C ops b base m ss gs st0 st'->Free C ops cl b base m ss st0:=by
   intro gs ss st0 st' hok htr;have hat:=zIJ htr;refine ⟨fun i s hs=>?_,fun i k s s' o o' f f' hs hs' ho ho' h1 h2 hik hni=>?_⟩
   .obtain ⟨o,f,g1,g2,g3⟩:=hat i s hs;exact ⟨o,f,g1,g3⟩
   .obtain ⟨o1,f1,g1,g2,g3⟩:=hat i s hs;obtain ⟨o2,f2,e1,e2,e3⟩:=hat k s' hs';rw[ho] at g1;cases g1;rw[ho'] at e1;cases e1;have hf1:=zxd h1 g3;have hf2:=zxd h2 e3;subst hf1 hf2;rcases hok _ g2 _ e2 with (h|h)|h
    .exact absurd (by show m+i<m+k;omega) h
    .exact absurd h hni
    .exact h
  have hbelow:∀i,i<m->XL listed i=true:=fun i hi=>by rw[zmw (by omega),hl i (by omega)];simp[hi]
  have habove:∀k,m<=k->k<ops.size->XL listed k=false:=fun k h1 h2=>by rw[zmw (by omega),hl k h2];simp;omega
  rcases zlX (zbq r+1) m [] _ h with ⟨ss,gs,st',hlen,htr,hok,hden⟩|⟨ss,gs,st',oA,x,hlen,htr,hoA,hap,hbt,hlo,hxl,hok,hden⟩|⟨ss,gs,st',oA,hlen,htr,hoA,hcv,hlo,hlr,hok,hden⟩
  .rw [qW]at hok;unfold zhF at hok;simp only[qZ,qS,jT,decide_eq_false_iff_not,jE,qX,uQ]at hok;generalize hst0:({ st with ep:=if b then st.ep+1 else st.ep }:St)=st0 at htr hS0' hnid0 hd'
   have hfin:st'=zO ops b (fun _=>true) m ss st0:=zuV htr;refine zON (w0:=w0) (S0:=S0) (sv:=sv) hC hH hG W (T:=m+1+zbq r) (by omega) hfr1 hfr3 (hmk hok htr) hb' hd' hM (fun fl l' E' ts' w' hsz' hl' hf' hS'=>?_) fuel listed E ts w hsz (ziP W hsz hl) hbelow (fun k h1 h2=>habove k (by omega) h2) hf ?_
   .rw [<- hfin]at hS';have hnid':st'.nid=st.nid:=by rw[hfin,zon,hnid0]
    exact zgm hC hH hG hN hcall W hU0 hk fs (m+(zbq r+1)) (r.drop (zbq r)) _ st' E' ts' w' fl l' (by rw[hfr2];congr 1;omega) (by omega) hsz' (fun i hi=>by rw[hl' i hi];congr 1;simp only[eq_iff_iff];omega) hf' hS' (hVX (by omega)) (by rw[hnid'];exact hFX (by omega)) (by omega) hden
   .rw [hoff];exact hS0'.uses (fun n h=>.inl h)
  .rw [qW]at hok;unfold zhF at hok;simp only[qZ,qS,jT,decide_eq_false_iff_not,jE,qX,qG,uQ]at hok;generalize hst0:({ st with ep:=if b then st.ep+1 else st.ep }:St)=st0 at htr hS0' hnid0 hd'
   have hfin:st'=zO ops b (fun _=>true) m ss st0:=zuV htr;subst hfin;have hA:m+ss.length=m+zbq r:=by omega
   rw[hA]at hoA hlo hok;have hat:=zIJ htr;refine zOU (w0:=w0) (S0:=S0) (sv:=sv) hC hH hG W hA (by omega) (fun h=>by
    have e:m+zbq r+1=m+1+zbq r:=by omega
    rw[e]at h ⊢;exact hfr3 h) (hmk (fun x hx y hy=>hok x (.inr hx) y (.inr hy)) htr) (fun hb k h1 h2=>hb' hb k h1 (by omega)) hbt hd' (fun k h1 h2=>hM k h1 (by omega)) hoA hap hlo hxl (fun i s o f hs ho h1 hni=>?_)
    (fun fl l' E' ts' w' v hsz' hl' hf' hv hS' hL=>?_) fuel listed E ts w hsz (ziP W hsz hl) hbelow (fun k h1 h2=>habove k (by omega) h2) hf ?_
   .obtain ⟨o1,f1,g1,g2,g3⟩:=hat i s hs;rw[ho] at g1;cases g1;have hf1:=zxd h1 g3;subst hf1;have hi:i<ss.length:=(qA.1 hs).1;rcases hok _ (.inr g2) _ (.inl rfl) with (h|h)|h
    .exact absurd (by show m+i<m+zbq r;omega) h
    .exact absurd h hni
    .exact h
   .have hnid':((zO ops b (fun _=>true) m ss st0).put oA.dst (.v (.at .bad))).nid=st.nid:=by rw[zdx,zon,hnid0]
    exact zp3 hC W (fun m' r' U' st'' E'' ts'' w'' fl' l'' h1 h2 h3 h4 h5 h6 h7 h8 h9 h10=>zgm hC hH hG hN hcall W hU0 hk fs m' r' U' st'' E'' ts'' w'' fl' l'' h1 h2 h3 h4 h5 h6 h7 h8 h9 h10)
     (r.drop (zbq r)) (m+(zbq r+1)) _ _ E' ts' w' fl l' v (by rw[hfr2];congr 1;omega) (by omega) hsz' (fun i hi=>by rw[hl' i hi];congr 1) hf' hS' (hVX (by omega)) (by rw[hnid'];exact hFX (by omega)) (by omega) hv hL hden
   .rw [hoff];exact hS0'.uses (fun n h=>.inl h)
  .rw [qW]at hok;unfold zhF at hok;simp only[qZ,qS,jT,decide_eq_false_iff_not,jE,qX,uQ]at hok;generalize hst0:({ st with ep:=if b then st.ep+1 else st.ep }:St)=st0 at htr hS0' hnid0 hd'
   have hfin:st'=zO ops b (fun _=>true) m ss st0:=zuV htr;subst hfin;have hA:m+ss.length=m+zbq r:=by omega
   rw[hA]at hoA hlo hlr hden;refine zN4 (w0:=w0) (S0:=S0) (sv:=sv) (V:=U) hC hH hG hN hcall W (by omega) hA (by omega) (fun h=>by
    have e:m+zbq r+1=m+1+zbq r:=by omega
    rw[e]at h ⊢;exact hfr3 h) (hmk hok htr) (fun hb k h1 h2=>hb' hb k h1 (by omega)) hd' (fun k h1 h2=>hM k h1 (by omega)) hoA hcv hlo hlr ?_ hU0 (by omega) (fun n hn'=>by rw[hnid0]at hn';exact hFX (by omega) n hn') hden
    (fun fl l' U' st'' E' ts' w' hsz' hl' hf' g1 g2 g3 g4 g5=>zgm hC hH hG hN hcall W hU0 hk fs (m+(zbq r+1)) (r.drop (zbq r)) U' st'' E' ts' w' fl l' (by rw[hfr2];congr 1;omega) (by omega) hsz' (fun i hi=>by rw[hl' i hi];congr 1) hf' g1 g2 g4 g3 g5)
    fuel listed E ts w hsz (ziP W hsz hl) hbelow (fun k h1 h2=>habove k (by omega) h2) hf ?_
   .rintro n (h|⟨k,h0,h1,_,h3⟩)
    .rcases hV n h with h|⟨h1,h2⟩|h
     .exact .inl h
     .exact .inr (.inl ⟨h1,by omega⟩)
     .exact .inr (.inr h)
    .have g1:=h3.1;have g2:=h3.2;exact .inr (.inl ⟨by omega,by omega⟩)
   .rw [hoff];exact hS0'.uses (fun n h=>.inl h)
theorem zRf (hC:CfgOk C)(hH:CtrOk C)(hG:GraftOk C)(hN:NameOk C):DrawOk C:=by
 refine ⟨fun call hcall ops k ans Q w0 S0 sv U0 nid0 U st E ts w hk hS hU hF hn h t=>?_⟩;unfold zxs at h;simp only at h;generalize hcl:zfh ops (List.range ops.size) []=cl at h;split at h
 case isFalse=>cases h
 rename_i hok;unfold zMW at hok;simp only[qD,qS,kB,qX]at hok;obtain ⟨hdep,hlt⟩:=hok;have hatc:∀i,i<ops.size->cl.getD i []=waits ops (cl.take i) i:=fun i hi=>by rw[<- hcl];exact zKN hi
 have hord:∀(md:Region.Mode) (rk:Nat->Nat),zDb md ops rk=true->∃rk:Nat->Nat,∀(i:Nat) (o:Oper),ops[i]?=some o->∀e∈o.after,Region.binds md e=true->e.on<ops.size/\rk e.on<rk i:=by
  intro md rk h;refine ⟨rk,fun i o ho e he hb=>?_⟩;have:=qS.1 h i (kB.2 (qO.1 ho).1);rw[ho] at this;have:=qS.1 this e (by simpa using he)
  simpa [hb] using this
 have mkW:∀(md:Region.Mode),(∀e,Region.binds .any e=true->Region.binds md e=true)->(∃rk:Nat->Nat,∀(i:Nat) (o:Oper),ops[i]?=some o->∀e∈o.after,Region.binds md e=true->e.on<ops.size/\rk e.on<rk i)->Waits md ops cl :=
  fun md h1 h2=>⟨hatc,hlt,h1,h2⟩
 have hsubT:∀e,Region.binds .any e=true->Region.binds .text e=true:=fun e h=>by
  unfold Region.binds at *;cases hg:e.ground<;>rw [hg]at h<;>simp at h ⊢
 have hsubG:∀e,Region.binds .any e=true->Region.binds .gc e=true:=fun e h=>by
  unfold Region.binds at *;cases hg:e.ground<;>rw [hg]at h<;>simp at h ⊢
 have hmodes:∃md t',Region.schedule (C.P.follows .mixedOrders) ops t=Region.linearise md ops t'/\Waits md ops cl:=by
  have anyW:Waits .any ops cl:=mkW .any (fun _ h=>h) ⟨fun i=>i,fun i o ho e he hb=>by
   have h1:=zRh hatc ho he hb;have hi:=(qO.1 ho).1;have h2:=hlt i hi _ h1;exact ⟨by omega,h2⟩⟩
  unfold Region.schedule
  by_cases hm:(C.P.follows .mixedOrders || !Region.departs ops)=true
  .rw [if_pos hm];exact ⟨.any,t,rfl,anyW⟩
  .rw [if_neg hm];have hd:Region.departs ops=true:=by
    cases h:Region.departs ops with
    | true=>rfl
    | false=>rw[h]at hm;simp at hm
   rw[hd,cond_true,qD]at hdep
   by_cases ht:(t % 2==0)=true
   .rw [if_pos ht];exact ⟨.text,t / 2,rfl,mkW .text hsubT (hord .text _ hdep.1)⟩
   .rw [if_neg ht];exact ⟨.gc,t / 2,rfl,mkW .gc hsubG (hord .gc _ hdep.2)⟩
 obtain ⟨md,t',hsch,W⟩:=hmodes;rw[hsch];refine wpAny_sound ops.size t' _ _ _ ?_;have hS1:Sim w0 S0 U { st with nid:=st.nid+32*ops.size } E ts sv { w with drawn:=w.drawn+1 }:=(hS.nid _).heap (w':={ w with drawn:=w.drawn+1 }) rfl rfl rfl rfl;refine zgm hC hH hG hN hcall W hF (fun U' st' E' ts' w' hS' hU' hn' hF' h'=>hk U' st' E' ts' w' hS' ?_ (by omega) hF' h') (ops.size+1) 0 (zeW ops.size cl) U _ E ts _ ops.size _ rfl (by omega) (by simp) (fun i hi=>by simp[hi]) ?_ hS1 (fun n h=>.inl h) ?_ (qV _) h
 .intro n h;rcases hU' n h with h|⟨h1,_⟩|h
  .exact hU n h
  .exact .inr (by omega)
  .exact .inr (by omega)
 .unfold left;exact jF (List.countP_le_length) (by simp)
 .intro n hn' h;exact hF n (jF (kY _ _) hn') h
end
section
variable {P:Program}
def zIP:Value->CTy->Bool
 | .int k n,.i k'=>k==k'&&n==0
 | .bool b,.b=>!b
 | .slice none 0 0,.s _=>true
 | _,_=>false
def zrS:List Value->List CTy->Bool
 | [],[]=>true
 | v :: vs,t :: ts=>zIP v t&&zrS vs ts
 | _,_=>false
theorem zNX {v:Value}{t:CTy}(h:zIP v t=true):v=zeroV t:=by
 unfold zIP at h;split at h
 .simp only [qD,qH]at h;obtain ⟨rfl,rfl⟩:=h;rfl
 .simp only [qZ]at h;subst h;rfl
 .rfl
 .cases h
theorem zw8:∀{vs:List Value} {ts:List CTy},zrS vs ts=true->vs=ts.map zeroV
 | [],[],_=>rfl
 | v :: vs,t :: ts,h=>by
  simp only[zrS,qD]at h;rw[jG,zNX h.1,zw8 h.2]
 | [],_ :: _,h=>by cases h
 | _ :: _,[],h=>by cases h
def ztD (P:Program)(T:TypeId)(tys:List CTy):Bool :=
 match P.info? T with
 | some i=>i.size==tys.length&&(match i.zero with
  | some z=>zrS z.cells.toList tys
  | none=>false)
 | none=>false
theorem ztE {T:TypeId}{tys:List CTy}(h:ztD P T tys=true):∃i z,P.info? T=some i/\i.size=tys.length/\i.zero=some z/\z.cells.toList=tys.map zeroV:=by
 unfold ztD at h;split at h
 .rename_i i hi;simp only[qD,qH]at h;obtain ⟨h1,h2⟩:=h;split at h2
  .rename_i z hz;exact ⟨i,z,hi,h1,hz,zw8 h2⟩
  .cases h2
 .cases h
def zjC (P:Program)(T:TypeId):Bool :=
 (match zbA P 4 T with
  | some (agg,tys)=>ztD P T tys&&(!agg||(match P.underlying T with
   | some (.struct fs)=>(fs.toList.mapM (fun f=>(P.info? f.type).map fun i=>(f.offset,i.size))).isSome
   | _=>false))
  | none=>true) &&
 (match P.underlying T with
  | some (.slice e)=>match zf zFJ e with
   | some t=>ztD P e t.shape&&(match P.info? e with
    | some i=>decide (i.bytes<=1024)
    | none=>false)&&(match zbA P 4 e with
    | some (_,tys)=>decide (tys=t.shape)
    | none=>false)
   | none=>true
  | _=>true)
def zok (P:Program):List Field->Nat->List CTy->Bool
 | [],_,[]=>true
 | f :: fs,off,ty :: tys=>f.name != "_" && f.offset==off&&(match P.underlying f.type,ty with
  | some (.int k),.i k'=>k==k'
  | some .bool,.b=>true
  | _,_=>false)&&zok P fs (off+1) tys
 | _,_,_=>false
def zFv (P:Program)(T:TypeId):Bool :=
 match zbA P 4 T with
 | some (true,tys)=>!P.stoodInHeld T && !P.eqGuardType P.depth T&&(match P.underlying T with
  | some (.struct fs)=>zok P fs.toList 0 tys
  | _=>false)
 | _=>true
theorem zFt {n:Nat}{T:TypeId}{agg:Bool}{tys:List CTy}(h:zbA P n T=some (agg,tys)) :
 (∃d,P.underlying T=some d/\zGE d=agg/\(∀k,tys=[.i k]->agg=false->d = .int k)/\(tys=[.b]->agg=false->d = .bool))/\(agg=false->tys.length=1):=by
 cases n with
 | zero=>cases h
 | succ n =>
  simp only[zbA]at h;split at h
  .rename_i k hu;cases h;exact ⟨⟨_,hu,rfl,fun k' h _=>by simp only[List.cons.injEq,CTy.i.injEq,and_true]at h;rw[h],fun h=>by simp at h⟩,fun _=>rfl⟩
  .rename_i hu;cases h;exact ⟨⟨_,hu,rfl,fun k' h=>by simp at h,fun _ _=>rfl⟩,fun _=>rfl⟩
  .rename_i e hu;split at h
   .cases h;exact ⟨⟨_,hu,rfl,fun k' h=>by simp at h,fun h=>by simp at h⟩,fun _=>rfl⟩
   .cases h
  .rename_i fs hu;split at h
   .cases h;exact ⟨⟨_,hu,rfl,fun k' _ h=>(by cases h),fun _ h=>(by cases h)⟩,fun h=>by cases h⟩
   .cases h
  .cases h
theorem zzm {α:Type}{T:Nat}{x:Option α}{y:α}(h:below T x=some y):T<zdX/\x=some y:=by
 unfold below at h;cases hb:Nat.blt T zdX with
 | false=>rw[hb]at h;cases h
 | true =>
  rw[hb]at h;exact ⟨by rwa [uO]at hb,h⟩
theorem mapM_at {α β:Type}{g:α->Option β}:∀{l:List α} {m:List β},l.mapM g=some m->∀{k:Nat} {x:α},l[k]?=some x->m[k]?=g x
 | [],m,h,k,x,hx=>by simp at hx
 | a :: l,m,h,k,x,hx=>by
  simp only[uL,Option.bind_eq_bind,uB,Option.pure_def,qC]at h;obtain ⟨b,hb,m',hm',rfl⟩:=h;cases k with
  | zero =>
   simp only[qF,qC]at hx;subst hx;rw[hb];rfl
  | succ k=>exact mapM_at hm' (by simpa using hx)
theorem zeA {α β:Type}{f:α->Option β}{a:α}{l:List α}{bs:List β}(h:zbw f (a :: l)=some bs):∃b bs',f a=some b/\zbw f l=some bs'/\bs=b :: bs':=by
 simp only[zbw]at h;split at h
 .rename_i b hb;split at h
  .rename_i bs' hbs;cases h;exact ⟨b,bs',hb,hbs,rfl⟩
  .cases h
 .cases h
theorem zwp (w:World)(d:Nat)(xs ys:Array Value):∀(fs:List Field) (off:Nat) (tys:List CTy) (l m:List At) (e:Bool),zok P fs off tys=true->zbw zjA l=some tys->zbw zjA m=some tys->zof l m=some e ->
 xs.size=off+l.length->ys.size=off+m.length->(∀(j:Nat) (a:At) (u:Value),l[j]?=some a->xs[off+j]?=some u->VS a u)->(∀(j:Nat) (a:At) (u:Value),m[j]?=some a->ys[off+j]?=some u->VS a u) ->
 (Op.eqFields (d+1) xs ys fs).run P w = .ok e w
 | [],off,tys,l,m,e,hf,hl,hm,he,_,_,_,_=>by
  cases tys with
  | cons t ts=>cases hf
  | nil =>
   cases l with
   | cons a l=>obtain ⟨_,_,_,_,h⟩:=zeA hl;cases h
   | nil =>
    cases m with
    | cons a m=>obtain ⟨_,_,_,_,h⟩:=zeA hm;cases h
    | nil=>cases he;simp[Op.eqFields]
 | f :: fs,off,tys,l,m,e,hf,hl,hm,he,hsx,hsy,hx,hy=>by
  cases tys with
  | nil=>cases hf
  | cons ty tys =>
   cases l with
   | nil=>cases hl
   | cons a l =>
    cases m with
    | nil=>cases hm
    | cons c m =>
     obtain ⟨ta,tys',ha,hl',h⟩:=zeA hl;cases h;obtain ⟨tc,tys'',hc,hm',h⟩:=zeA hm;cases h;simp only[zok,qD,bne_iff_ne,ne_eq,qH]at hf;obtain ⟨⟨⟨hn,hoff⟩,hk⟩,hrest⟩:=hf;have hxo:xs[off]?=some (xs[off]'(by simp only[qY]at hsx;omega)):=by simp
     have hyo:ys[off]?=some (ys[off]'(by simp only[qY]at hsy;omega)):=by simp
     have hvx:=hx 0 a _ rfl hxo;have hvy:=hy 0 c _ rfl hyo;have hstep:∃e0,zFY a c=some e0/\(part f.type xs f.offset).run P w = .ok (xs[off]'(by simp only[qY]at hsx;omega)) w/\(part f.type ys f.offset).run P w = .ok (ys[off]'(by simp only[qY]at hsy;omega)) w /\
      (Op.equalIn (d+1) f.type (xs[off]'(by simp only[qY]at hsx;omega)) (ys[off]'(by simp only[qY]at hsy;omega))).run P w = .ok e0 w:=by
      rw[hoff];cases a with
      | i k n =>
       simp only[zjA,qC]at ha;subst ha;cases c with
       | i k' n' =>
        simp only[zjA,qC,CTy.i.injEq]at hc;subst hc;cases hu:P.underlying f.type with
        | none=>rw[hu]at hk;cases hk
        | some D =>
         rw[hu]at hk;cases D<;>first|(cases hk;done)|skip
         refine ⟨ieq n n',by simp[zFY],by simp[part,isAgg,run_underlying hu,hxo],by simp[part,isAgg,run_underlying hu,hyo],?_⟩
         rw[show xs[off]'(by simp only[qY]at hsx;omega) = .int k' n from hvx,show ys[off]'(by simp only[qY]at hsy;omega) = .int k' n' from hvy]
         exact run_equalIn_int w d f.type k' _ n n' hu
       | b _=>simp[zjA]at hc
       | _=>simp[zjA]at hc
      | b x =>
       simp only[zjA,qC]at ha;subst ha;cases c with
       | b x' =>
        cases hu:P.underlying f.type with
        | none=>rw[hu]at hk;cases hk
        | some D =>
         rw[hu]at hk;cases D<;>first|(cases hk;done)|skip
         refine ⟨zo6 x x',by simp[zFY],by simp[part,isAgg,run_underlying hu,hxo],by simp[part,isAgg,run_underlying hu,hyo],?_⟩
         rw[show xs[off]'(by simp only[qY]at hsx;omega) = .bool x from hvx,show ys[off]'(by simp only[qY]at hsy;omega) = .bool x' from hvy]
         exact run_equalIn_bool' w d f.type x x' hu
       | i _ _=>simp[zjA]at hc
       | _=>simp[zjA]at hc
      | _=>simp[zjA]at ha
     obtain ⟨e0,he0,hp1,hp2,heq⟩:=hstep;have hcomb:∃e1,zof l m=some e1/\e=(e0&&e1):=by
      cases l with
      | nil =>
       cases hl';cases m with
       | nil =>
        simp only[zof,he0,qC]at he;exact ⟨true,rfl,by rw[<- he];simp⟩
       | cons c2 m=>obtain ⟨_,_,_,_,h⟩:=zeA hm';cases h
      | cons a2 l =>
       cases m with
       | nil=>cases hm';obtain ⟨_,_,_,_,h⟩:=zeA hl';cases h
       | cons c2 m =>
        simp only[zof,he0]at he;split at he
        .rename_i x y h1 h2;cases h1;cases he;exact ⟨y,by simpa [zof] using h2,rfl⟩
        .cases he
     obtain ⟨e1,he1,rfl⟩:=hcomb;have ih:=zwp w d xs ys fs (off+1) tys l m e1 hrest hl' hm' he1 (by simp only[qY]at hsx;omega) (by simp only[qY]at hsy;omega)
      (fun j a' u h1 h2=>hx (j+1) a' u (by simpa using h1) (by rw[<- h2];congr 1;omega)) (fun j a' u h1 h2=>hy (j+1) a' u (by simpa using h1) (by rw[<- h2];congr 1;omega))
     simp only[Op.eqFields,ne_eq,hn,not_false_eq_true,if_true,Sem.run_bind,hp1,hp2,Result.andThen_ok,heq,Sem.run_ite,ih];cases e0<;>simp
theorem zN5 {C:Cfg}(hP:C.P=P)(hs:∀T,C.sty T=below T (zoV P T))(hc:∀T,C.cty T=below T (zbA P 4 T))(hf:∀T f,C.fof T f=znt P T f)(hchk:(List.range zdX).all (zjC P)=true)(heq:∀T,C.eqt T=true->T<zdX->zFv P T=true):CfgOk C:=by
 subst hP;have chk:∀T,T<zdX->zjC C.P T=true:=fun T hT=>qS.1 hchk T (kB.2 hT);have hcty:∀T agg tys,C.cty T=some (agg,tys)->T<zdX/\zbA C.P 4 T=some (agg,tys):=fun T agg tys h=>zzm (by rw[<- hc];exact h)
 refine ⟨fun T agg tys h=>?_,fun T t h=>?_,fun T f off n h=>?_,fun T tys h=>?_,fun T tys he h l m e xs ys w x y op hl hm hq hxs hys=>?_⟩
 .obtain ⟨hT,h⟩:=hcty T agg tys h;obtain ⟨h1,h2⟩:=zFt h;have:=chk T hT;unfold zjC at this;rw[h] at this;simp only[qD] at this;exact ⟨h1,ztE this.1.1,h2⟩
 .rw [hs]at h;obtain ⟨hT,h⟩:=zzm h;unfold zoV at h;split at h
  .rename_i e hu;have:=chk T hT;unfold zjC at this;rw[hu] at this;simp only[h,qD] at this;obtain ⟨_,⟨h1,h2⟩,_⟩:=this;obtain ⟨i,z,g1,g2,g3,g4⟩:=ztE h1;rw[g1]at h2;exact ⟨e,hu,i,z,g1,by rw[g2,zc5],g3,g4,by simpa using h2⟩
  .cases h
 .rw [hf]at h;unfold znt at h;split at h
  .rename_i fs hu;split at h
   .rename_i x hx;split at h
    .rename_i i hi;split at h
     .cases h
     .rename_i hne;cases h;exact ⟨fs,x,i,hu,hx,rfl,hi,rfl,hne⟩
    .cases h
   .cases h
  .cases h
 .obtain ⟨hT,h⟩:=hcty T true tys h;have:=chk T hT;unfold zjC at this;rw[h] at this;simp only[qD,jT,Bool.not_true,kK,false_or] at this;obtain ⟨⟨_,h2⟩,_⟩:=this;split at h2
  .rename_i fs hu;obtain ⟨places,hp⟩:=k9.1 h2;refine ⟨fs,places,hu,hp,fun f off n hfo=>?_⟩;rw[hf]at hfo;unfold znt at hfo;rw[hu]at hfo;simp only at hfo;split at hfo
   .rename_i x hx;split at hfo
    .rename_i i hi;split at hfo
     .cases hfo
     .cases hfo;rw[mapM_at hp (by simpa using hx),hi]
      rfl
    .cases hfo
   .cases hfo
  .cases h2
 .obtain ⟨hT,h⟩:=hcty T true tys h;have:=heq T he hT;unfold zFv at this;rw[h] at this;simp only[qD,qZ] at this;obtain ⟨⟨h1,h2⟩,h3⟩:=this;split at h3
  .rename_i fs hu;have hfe:C.P.fieldsOf T=fs:=by simp[Program.fieldsOf,hu]
   refine ⟨run_eqGuard_agg w op T x y xs ys h2,?_⟩
   show (Op.equalIn (9999+1) T (.agg xs) (.agg ys)).run C.P w=_
   rw[run_equalIn_struct w 9999 T xs ys (by rw[hfe];exact hu) h1,hfe]
   exact zwp w 9998 xs ys fs.toList 0 tys l m e h3 hl hm hq (by rw[hxs.1];omega) (by rw[hys.1];omega) (fun j a u h1 h2=>hxs.2 j a u h1 (by simpa using h2)) (fun j a u h1 h2=>hys.2 j a u h1 (by simpa using h2))
  .cases h3
end
inductive CVOk:CV->Prop
 | i (k:IntKind) (n:Int) (h:k.min<=n/\n<=k.max):CVOk (.i k n)
 | b (x:Bool):CVOk (.b x)
 | s (t:Ty) (l:List t.den) (hl:l.length<=big) (h:∀(i:Nat) (x:t.den),l[i]?=some x->∀(j:Nat) (c:CV),(t.cells x)[j]?=some c->CVOk c):CVOk (.s t l)
section
variable {P:Program}
def zp8 (P:Program)(tot:Nat):List Field->Nat->Bool
 | [],off=>off==tot
 | f :: fs,off=>f.offset==off&&Nat.blt f.type zdX&&zp8 P tot fs (off+P.cellsOf f.type)
def zqO (P:Program)(T:TypeId):Bool :=
 match P.underlying T with
 | some (.struct fs)=>match zbA P 4 T with
  | some _=>zp8 P (P.cellsOf T) fs.toList 0
  | none=>true
 | some (.slice e)=>match zf zFJ e with
  | some _=>Nat.blt e zdX&&Nat.ble 1 (P.bytesOf e)
  | none=>true
 | _=>true
theorem zwx {α β:Type}{f g:α->Option β}(hfg:∀x y,f x=some y->g x=some y):∀{l:List α} {bs:List β},zbw f l=some bs->zbw g l=some bs
 | [],_,h=>h
 | a :: l,bs,h=>by
  obtain ⟨b,bs',h1,h2,rfl⟩:=zeA h;simp only[zbw,hfg a b h1,zwx hfg h2]
theorem zqD:∀{n:Nat} {T:TypeId} {x:Bool×List CTy},zbA P n T=some x->zbA P (n+1) T=some x
 | 0,_,_,h=>by cases h
 | n+1,T,x,h=>by
  rw[zbA]at h;rw[zbA];split at h
  .exact h
  .exact h
  .exact h
  .rename_i fs hu;split at h
   .rename_i l hl;rw[zwx (f:=_) (g:=_) ?_ hl]
    .exact h
    .intro f y hy;split at hy
     .rename_i z hz;cases hy;rw[zqD hz]
     .cases hy
   .cases h
  .cases h
theorem zIV {T:TypeId}{tys:List CTy}(h:ztD P T tys=true):P.cellsOf T=tys.length:=by
 obtain ⟨i,z,h1,h2,_⟩:=ztE h;simp[Program.cellsOf,h1,h2]
theorem zPr {k:IntKind}{n:Int}(h:(Lit.int k n).wf=true):k.min<=n/\n<=k.max:=by
 simpa [Lit.wf] using h
theorem all_append {l m:List Nat}(h:(l++m).all (·<=reachBytes)=true):l.all (·<=reachBytes)=true/\m.all (·<=reachBytes)=true:=by
 simpa [List.all_append] using h
theorem zsA {H:Type}{e:TypeId}:∀{l:List (DataW H)},(DataW.weightsAll P e l).all (·<=reachBytes)=true->∀{i:Nat} {d:DataW H},l[i]?=some d->(d.weights P e).all (·<=reachBytes)=true
 | [],_,i,d,h=>by simp at h
 | x :: l,hw,i,d,h=>by
  simp only[DataW.weightsAll]at hw;obtain ⟨h1,h2⟩:=all_append hw;cases i with
  | zero=>simp at h;subst h;exact h1
  | succ i=>exact zsA h2 (by simpa using h)
def Opened (W:World)(cs:List Value)(tys:List CTy):Prop :=
 ∃cvs:List CV,cvs.map CV.ty=tys/\cs.length=cvs.length/\∀(j:Nat) (c:CV) (u:Value),cvs[j]?=some c->cs[j]?=some u->Rep false W u c (fun b=>b<W.heap.size)/\CVOk c
theorem Opened.append {W:World}{cs ds:List Value}{t1 t2:List CTy}(h1:Opened W cs t1)(h2:Opened W ds t2):Opened W (cs++ds) (t1++t2):=by
 obtain ⟨c1,a1,b1,d1⟩:=h1;obtain ⟨c2,a2,b2,d2⟩:=h2;refine ⟨c1++c2,by simp[a1,a2],by simp[b1,b2],fun j c u hc hu=>?_⟩
 by_cases hj:j<c1.length
 .rw [qT hj]at hc;rw[qT (by omega)]at hu
  exact d1 j c u hc hu
 .rw [qQ (by omega)]at hc
  rw[qQ (by omega)]at hu
  exact d2 _ c u hc (by rw[<- b1];exact hu)
theorem zzp {α:Type}:∀(n:Nat) (p:Nat->α->Prop),(∀i,i<n->∃x,p i x)->∃l:List α,l.length=n/\∀i x,l[i]?=some x->p i x
 | 0,p,_=>⟨[],rfl,fun i x h=>by simp at h⟩
 | n+1,p,h=>by
  obtain ⟨x,hx⟩:=h 0 (by omega)
  obtain ⟨l,h1,h2⟩:=zzp n (fun i=>p (i+1)) (fun i hi=>h (i+1) (by omega))
  refine ⟨x :: l,by simp[h1],fun i y hy=>?_⟩
  cases i with
  | zero=>simp at hy;subst hy;exact hx
  | succ i=>exact h2 i y (by simpa using hy)
theorem cells?_get {W:World}{a:Addr}{n:Nat}{cs:List Value}(h:W.cells? 0 a n=some cs):cs.length=n/\∀i,i<n->W.cell? (a.add i)=cs[i]?:=by
 unfold World.cells? at h;rw[if_pos (j9 _)]at h;refine ⟨by simpa using mapM_some_length h,fun i hi=>mapM_some_get h i i (by simp[hi])⟩
theorem addr_add (a:Addr)(h:a.spot=none)(n m:Nat):(a.add n).add m=⟨a.block,a.off+n+m,none⟩:=by
 obtain ⟨b,o,s⟩:=a;simp only at h;subst h;rw[add_lit,add_lit]
theorem zLx (hchk:∀T,T<zdX->zjC P T=true/\zqO P T=true){H:Type}{enc:TypeId×Value->H}{W:World} :
 ∀(fuel:Nat) (T:TypeId) (cs:List Value) (x:DataW H×List MemPlace),T<zdX->∀(agg:Bool) (tys:List CTy),zbA P 4 T=some (agg,tys) ->
  DataW.trod enc P W 0 (fun _=>true) true fuel T cs=some x->(x.1.weights P T).all (·<=reachBytes)=true->Opened W cs tys:=by
 intro fuel
 induction fuel using Nat.strongRecOn with
 | _ fuel ih =>
  intro T cs x hT agg tys hty hx hw;obtain ⟨hc1,hc2⟩:=hchk T hT;have hty0:=hty;rw[zbA]at hty;split at hty
  .rename_i k hu;cases hty;obtain ⟨n,rfl,rfl,hwf⟩:=DataW.trod_int hu hx;refine ⟨[.i k n],rfl,rfl,fun j c u hc hu'=>?_⟩;cases j with
   | zero=>simp at hc hu';subst hc hu';exact ⟨.i k n _,.i k n (zPr hwf)⟩
   | succ j=>simp at hc
  .rename_i hu;cases hty;obtain ⟨b,rfl,rfl⟩:=DataW.trod_bool hu hx;refine ⟨[.b b],rfl,rfl,fun j c u hc hu'=>?_⟩;cases j with
   | zero=>simp at hc hu';subst hc hu';exact ⟨.b b _,.b b⟩
   | succ j=>simp at hc
  .rename_i e hu;split at hty
   .rename_i t het;cases hty;have fin:∀(v:Value) (l:List t.den),Rep false W v (.s t l) (fun b=>b<W.heap.size)->CVOk (.s t l)->Opened W [v] [.s t]:=by
     intro v l h1 h2;refine ⟨[.s t l],rfl,rfl,fun j c u hc hu'=>?_⟩;cases j with
     | zero=>simp at hc hu';subst hc hu';exact ⟨h1,h2⟩
     | succ j=>simp at hc
    have empty:CVOk (.s t []):=.s t [] (j9 _) (fun i x h=>by simp at h)
    rcases DataW.trod_slice hu hx with ⟨rfl,rfl⟩|⟨a,len,cap,elems,rest,n,rfl,rfl,rfl,_,hlc,hcm,hel,hget,hsp,_⟩
    .exact fin _ [] (.nil t _) empty
    .obtain ⟨hrl,hrget⟩:=hsp rfl
     by_cases hcap:cap=0
     .subst hcap;have hl0:len=0:=by omega
      subst hl0;exact fin _ [] (.void t a _ rfl) empty
     .unfold zjC at hc1;rw[hu]at hc1;simp only[het,qD]at hc1;obtain ⟨_,⟨hinfo,_⟩,hec⟩:=hc1;unfold zqO at hc2;rw[hu]at hc2;simp only[het,qD,uO,Nat.ble_eq]at hc2;obtain ⟨he,hby⟩:=hc2;have hce:P.cellsOf e=t.width:=by rw[zIV hinfo,zc5]
      have hwpos:0<t.width:=by cases t<;>simp [Ty.width]
      rw[hce]at hget hrget
      have helem:∀i,i<cap->∃cs',W.cells? 0 (a.add (i*t.width)) t.width=some cs'/\(i<len->∃y,DataW.trod enc P W 0 (fun _=>true) true n e cs'=some y/\elems[i]?=some y):=by
       intro i hi
       by_cases hil:i<len
       .have h1:=hget i hil;rw[qB (by omega)]at h1
        obtain ⟨cs',h2,h3⟩:=uB.1 h1;exact ⟨cs',h2,fun _=>⟨_,h3,qB (by omega)⟩⟩
       .have h1:=hrget (i-len) (by omega)
        rw[qB (by omega)]at h1
        obtain ⟨cs',h2,h3⟩:=uB.1 h1;have e1:len+(i-len)=i:=by omega
        rw[e1]at h2;exact ⟨cs',h2,fun h=>absurd h hil⟩
      have hcell:∀i j,i<cap->j<t.width->∃v,W.cell? ((a.add (i*t.width)).add j)=some v:=by
       intro i j hi hj;obtain ⟨cs',h1,_⟩:=helem i hi;obtain ⟨h2,h3⟩:=cells?_get h1;exact ⟨_,(h3 j hj).trans (qB (by omega))⟩
      obtain ⟨v0,hv0⟩:=hcell 0 0 (by omega) hwpos
      have hadd0:(a.add (0*t.width)).add 0=a:=by simp[Addr.add]
      rw[hadd0]at hv0;obtain ⟨arr,et,fz,hb,hspot⟩:∃arr et fz,W.heap[a.block]?=some (.cells arr et fz)/\a.spot=none:=by
       unfold World.cell? at hv0;split at hv0
       .rename_i c et fz hb;split at hv0
        .cases hv0
        .rename_i hs;exact ⟨c,et,fz,hb,by simpa using hs⟩
       .cases hv0
      have hcarr:∀i j,W.cell? ((a.add (i*t.width)).add j)=arr[a.off+i*t.width+j]?:=by
       intro i j;rw[addr_add a hspot,cell_of_block hb]
      have hsize:a.off+cap*t.width<=arr.size:=by
       obtain ⟨v,hv⟩:=hcell (cap-1) (t.width-1) (by omega) (by omega)
       rw[hcarr]at hv;have:=(qO.1 hv).1;have h1:(cap-1)*t.width+t.width=cap*t.width:=by
        rw[<- jB];congr 1;omega
       omega
      have hwl:((DataW.slice (elems.map (·.1)) (rest.map (·.1))).weights P T).all (·<=reachBytes)=true:=hw;simp only[DataW.weights,hu,kQ,qD,qX,uK]at hwl;obtain ⟨hbytes,hwe⟩:=hwl;obtain ⟨hwe,_⟩:=all_append hwe;have hlen:len<=big:=by
       have h1:(elems.length+rest.length)*1<=(elems.length+rest.length)*P.bytesOf e:=Nat.mul_le_mul_left _ hby;have:reachBytes<=big:=by decide
       omega
      split at hec
      .rename_i agg' tys' hte;simp only[qX]at hec;subst hec
       have hex:∀i,i<len->∃y:t.den,∀(j:Nat) (c:CV) (u:Value),(t.cells y)[j]?=some c->arr[a.off+i*t.width+j]?=some u->Rep false W u c (fun b=>b<W.heap.size)/\CVOk c:=by
        intro i hi;obtain ⟨cs',h1,h2⟩:=helem i (by omega)
        obtain ⟨y,h3,h4⟩:=h2 hi;obtain ⟨cvs,g1,g2,g3⟩:=ih n (by omega) e cs' y he agg' t.shape hte h3 (zsA hwe (by rw[qM,h4];rfl))
        obtain ⟨z,hz⟩:=zAI g1;refine ⟨z,fun j c u hc hu'=>g3 j c u ?_ ?_⟩
        .rw [<- zen hz];exact hc
        .obtain ⟨k1,k2⟩:=cells?_get h1;have hj:j<t.width:=by have:=(qA.1 hc).1;rwa [zbE] at this
         rw[<- k2 j hj,hcarr];exact hu'
       obtain ⟨l,hl1,hl2⟩:=zzp len _ hex;have hvv:∀i j,i<l.length->j<t.width->arr[a.off+i*t.width+j]?=some ((arr[a.off+i*t.width+j]?).getD undef):=by
        intro i j hi hj;have h1:(i+1)*t.width<=cap*t.width:=qL _ (by omega)
        rw[jB]at h1;have:a.off+i*t.width+j<arr.size:=by omega
        simp[this]
       have hrep:Rep false W (.slice (some ⟨a.block,a.off,none⟩) l.length cap) (.s t l) (fun b=>b<W.heap.size):=by
        refine .sl t l a.block a.off cap arr et fz (fun i j=>(arr[a.off+i*t.width+j]?).getD undef) (fun _ _ b=>b<W.heap.size) _ hb (fun h=>by cases h) (by omega) (by omega) hsize ?_ (fun i j x _ _ hx=>⟨hx,fun h=>by cases h⟩) (fun h=>by cases h) hvv ?_
        .exact (qO.1 hb).1
        .intro i z hz j c hc;have hi:i<l.length:=(qA.1 hz).1;have hj:j<t.width:=by have:=(qA.1 hc).1;rwa [zbE] at this
         exact (hl2 i z hz j c _ hc (hvv i j hi hj)).1
       have ha:a=⟨a.block,a.off,none⟩:=by
        obtain ⟨b,o,s⟩:=a;simp only at hspot;subst hspot;rfl
       rw[hl1,<- ha]at hrep;refine fin _ l hrep (.s t l (by omega) (fun i z hz j c hc=>?_))
       have hi:i<l.length:=(qA.1 hz).1;have hj:j<t.width:=by have:=(qA.1 hc).1;rwa [zbE] at this
       exact (hl2 i z hz j c _ hc (hvv i j hi hj)).2
      .cases hec
   .cases hty
  .rename_i fs hu;split at hty
   .rename_i l hl;cases hty;obtain ⟨xs,n,rfl,rfl,hcl,hxl,hfld⟩:=DataW.trod_struct hu hx;unfold zqO at hc2;rw[hu,hty0]at hc2;simp only at hc2;have hww:(DataW.weightsEach P (fs.toList.map (·.type)) (xs.map (·.1))).all (·<=reachBytes)=true:=by
     have:((DataW.agg (xs.map (·.1))).weights P T).all (·<=reachBytes)=true:=hw;simpa only [DataW.weights,hu] using this
    have key:∀(gs:List Field) (ys:List (DataW H×List MemPlace)) (ls:List (List CTy)) (off:Nat),zp8 P (P.cellsOf T) gs off=true->gs.length=ys.length ->
     (∀(i:Nat) (f:Field),gs[i]?=some f->DataW.trod enc P W 0 (fun _=>true) true n f.type ((cs.drop f.offset).take (P.cellsOf f.type))=ys[i]?) ->
     zbw (fun (f:Field)=>match zbA P 3 f.type with|some x=>some x.2|none=>none) gs=some ls->(DataW.weightsEach P (gs.map (·.type)) (ys.map (·.1))).all (·<=reachBytes)=true ->
     off<=P.cellsOf T/\Opened W (cs.drop off) ls.flatten:=by
     intro gs
     induction gs with
     | nil =>
      intro ys ls off ho _ _ hls _;cases hls;simp only[zp8,qH]at ho;subst ho;refine ⟨qV _,[],rfl,by simp[hcl],fun j c u h=>by simp at h⟩
     | cons f gs ihg =>
      intro ys ls off ho hlen hf hls hwt;obtain ⟨b,ls',hb1,hb2,rfl⟩:=zeA hls;cases ys with
      | nil=>simp at hlen
      | cons y ys =>
       simp only[zp8,qD,qH,uO]at ho;obtain ⟨⟨ho1,ho2⟩,ho3⟩:=ho;split at hb1
       .rename_i z hz;cases hb1;obtain ⟨agg',tys'⟩:=z;have hy:=hf 0 f rfl;simp only[qF]at hy;simp only[jG,DataW.weightsEach]at hwt;obtain ⟨hw1,hw2⟩:=all_append hwt;have h4:=zqD hz;obtain ⟨g1,g2⟩:=ihg ys ls' (off+P.cellsOf f.type) ho3 (by simpa using hlen) (fun i g hg=>by simpa using hf (i+1) g (by simpa using hg)) hb2 hw2
        have o1:=ih n (by omega) f.type _ y ho2 agg' tys' h4 hy hw1
        rw[ho1] at o1;refine ⟨by omega,?_⟩
        have e1:cs.drop off=(cs.drop off).take (P.cellsOf f.type)++cs.drop (off+P.cellsOf f.type):=by
         rw[<- List.drop_drop,List.take_append_drop]
        rw[e1];exact Opened.append o1 g2
       .cases hb1
    have:=(key fs.toList xs l 0 hc2 (by simp[hxl]) (fun i f hf=>hfld i f (by simpa using hf)) hl hww).2
    simpa using this
   .cases hty
  .cases hty
end
theorem zJ2:(List.range zdX).all (zjC Tryz.prog)=true:=by kernel_rfl
theorem zRV:zu6.all (fun T=>!Nat.blt T zdX||zFv Tryz.prog T)=true:=by kernel_rfl
theorem zN8:Tryz.prog.funcs.toList.all (fun fn=>!(fn.name == "runtime.NumGoroutine"))=true:=by kernel_rfl
theorem zQ1 (T:TypeId)(h0:zu6.contains T=true)(hT:T<zdX):zFv Tryz.prog T=true:=by
 have h1:T∈zu6:=by
  revert h0
  generalize zu6=l;intro h0;simpa using h0
 have hb:Nat.blt T zdX=true:=by rw[uO];exact hT
 have h2:=qS.1 zRV T h1;rw[hb,Bool.not_true,Bool.false_or]at h2;exact h2
theorem zRU (ctr:FuncId->Option (List AV->Option (Bool×List AV)))(mct:FuncId->Option (CV->Int->Option (Bool×CV×Int)))(pct:FuncId->Option (List Bool×(List CV->List AV->Option (Bool×List CV×List AV))))(tct:FuncId->Option (List Bool×Option (Nat×Nat×List (List Nat))×(List AV->Option (Bool×List AV)))):CfgOk (zia ctr mct pct tct):=by
 have h1:(zia ctr mct pct tct).P=Tryz.prog:=by simp only[zia]
 have h2:∀T,(zia ctr mct pct tct).sty T=below T (zoV Tryz.prog T):=fun _=>by simp only[zia]
 have h3:∀T,(zia ctr mct pct tct).cty T=below T (zbA Tryz.prog 4 T):=fun _=>by simp only[zia]
 have h4:∀T f,(zia ctr mct pct tct).fof T f=znt Tryz.prog T f:=fun _ _=>by simp only[zia]
 have h5:∀T,(zia ctr mct pct tct).eqt T=zu6.contains T:=fun _=>by simp only[zia]
 refine zN5 h1 h2 h3 h4 zJ2 ?_;intro T h hT;rw[h5]at h;exact zQ1 T h hT
theorem zRw (ctr:FuncId->Option (List AV->Option (Bool×List AV)))(mct:FuncId->Option (CV->Int->Option (Bool×CV×Int)))(pct:FuncId->Option (List Bool×(List CV->List AV->Option (Bool×List CV×List AV))))(tct:FuncId->Option (List Bool×Option (Nat×Nat×List (List Nat))×(List AV->Option (Bool×List AV)))):NameOk (zia ctr mct pct tct):=by
 refine ⟨fun f fn hf=>?_⟩;have:=qS.1 zN8 fn (by
  have:Tryz.prog.funcs[f]?=some fn:=hf;rw[<- kL] at this;exact qI this)
 simpa using this
theorem zb3 {ctr:FuncId->Option (List AV->Option (Bool×List AV))}{mct:FuncId->Option (CV->Int->Option (Bool×CV×Int))}{pct:FuncId->Option (List Bool×(List CV->List AV->Option (Bool×List CV×List AV)))}{tct:FuncId->Option (List Bool×Option (Nat×Nat×List (List Nat))×(List AV->Option (Bool×List AV)))}(h:∀f run,ctr f=some run->Holds Tryz.prog f run)(hm:∀f run,mct f=some run->zzj Tryz.prog f run)(hp:∀f own run,pct f=some (own,run)->zcx Tryz.prog f own run)(ht:∀f own inp run,tct f=some (own,inp,run)->zcP Tryz.prog f own inp run):EngOk (zia ctr mct pct tct):=by
 have hC:=zRU ctr mct pct tct;have hH:CtrOk (zia ctr mct pct tct):=⟨h,fun f inp run hf=>ht f [] inp run hf⟩;have hG:=zOO hC ⟨hm⟩ ⟨hp⟩ ⟨ht⟩;have hN:=zRw ctr mct pct tct;exact ⟨hC,hH,hG,hN,zRf hC hH hG hN⟩
section
open Go Go.ChangeShapes Go.WideShapes Go.ChangeAt
def AV.sh:AV->Bool×List CTy
 | .one c=>(false,[c.ty])
 | .agg l=>(true,l.map CV.ty)
section
variable {P:Program}
theorem zDv {T:TypeId}{agg:Bool}{tys:List CTy}(h:zbA P 4 T=some (agg,tys)) :
 (agg=true/\∃fs,P.underlying T=some (.struct fs))\/(agg=false/\tys.length=1/\((∃k,P.underlying T=some (.int k))\/P.underlying T=some .bool\/∃e,P.underlying T=some (.slice e))):=by
 rw[zbA]at h;split at h
 .rename_i k hu;cases h;exact .inr ⟨rfl,rfl,.inl ⟨k,hu⟩⟩
 .rename_i hu;cases h;exact .inr ⟨rfl,rfl,.inr (.inl hu)⟩
 .rename_i e hu;split at h
  .cases h;exact .inr ⟨rfl,rfl,.inr (.inr ⟨e,hu⟩)⟩
  .cases h
 .rename_i fs hu;split at h
  .cases h;exact .inl ⟨rfl,fs,hu⟩
  .cases h
 .cases h
theorem zNt {W:World}{T:TypeId}{v:Value}{base:Nat}(hu:(∃k,P.underlying T=some (.int k))\/P.underlying T=some .bool\/∃e,P.underlying T=some (.slice e))(h:Value.okWide P W .any base T v):v.cells = #[v]:=by
 cases v with
 | agg cs =>
  exfalso;rcases hu with ⟨k,hu⟩|hu|⟨e,hu⟩<;>simp [Value.okWide,hu,Cell.okWide,Cell.ok]at h
 | _=>rfl
theorem zD9 (hchk:∀T,T<zdX->zjC P T=true/\zqO P T=true){H:Type}{enc:TypeId×Value->H}{W:World}{base:Nat} :
 ∀(ts:List TypeId) (vs:List Value) (ds:List (DataW H)) (p:List MemPlace),DataW.TrodAll enc P W 0 (fun _=>true) true ts vs ds p ->
  (∀(j:Nat) (t:TypeId) (v:Value),ts[j]?=some t->vs[j]?=some v->Value.okWide P W .any base t v)->(∀t∈ts,t<zdX/\(zbA P 4 t).isSome=true) ->
  (DataW.weightsEach P ts ds).all (·<=reachBytes)=true ->
  ∃(avs:List AV) (xs:List Value),avs.map (fun a=>some a.sh)=ts.map (zbA P 4)/\zch false W (zk avs) xs (fun _ b=>b<W.heap.size)/\zbj avs xs=vs/\∀c∈zk avs,CVOk c
 | [],vs,ds,p,h,_,_,_=>by
  obtain ⟨rfl,rfl,rfl⟩:=trodAll_nil h;exact ⟨[],[],rfl,⟨rfl,fun i c x h=>by simp[zk]at h⟩,rfl,fun c h=>by simp[zk]at h⟩
 | T :: ts,vs,ds,p,h,hv,ht,hw=>by
  obtain ⟨v,vs',d,ds',p1,q,rfl,rfl,rfl,h1,h2⟩:=trodAll_cons h;simp only[DataW.weightsEach]at hw;obtain ⟨hw1,hw2⟩:=all_append hw;obtain ⟨avs,xs,g1,g2,g3,g4⟩:=zD9 hchk ts vs' ds' q h2 (fun j t v h1 h2=>hv (j+1) t v (by simpa using h1) (by simpa using h2)) (fun t h=>ht t (by simp[h])) hw2
  obtain ⟨hT,hsome⟩:=ht T (by simp)
  obtain ⟨⟨agg,tys⟩,htc⟩:=k9.1 hsome;obtain ⟨fuel,hf⟩:=h1;obtain ⟨cvs,e1,e2,e3⟩:=zLx hchk fuel T _ _ hT agg tys htc hf hw1;have hv0:=hv 0 T v rfl rfl;have app:∀a:AV,a.cvs=cvs->zch false W (zk (a :: avs)) (v.cells.toList++xs) (fun _ b=>b<W.heap.size)/\∀c∈zk (a :: avs),CVOk c:=by
   intro a ha;have e:zk (a :: avs)=cvs++zk avs:=by simp[zk,ha]
   rw[e];refine ⟨zch.append ⟨e2,fun i c x hc hx=>(e3 i c x hc hx).1⟩ g2,fun c hc=>?_⟩;rcases jL.1 hc with hc|hc
   .obtain ⟨i,hi⟩:=qR.1 hc;have hlt:i<v.cells.toList.length:=by rw[e2];exact (qA.1 hi).1
    exact (e3 i c _ hi (qB hlt)).2
   .exact g4 c hc
  rcases zDv htc with ⟨rfl,fs,hu⟩|⟨rfl,hl1,hu⟩
  .obtain ⟨cs,rfl,_⟩:∃cs,v = .agg cs/\True:=by
    simp only[Value.okWide,hu]at hv0;obtain ⟨cs,h,_⟩:=hv0;exact ⟨cs,h,trivial⟩
   obtain ⟨a1,a2⟩:=app (.agg cvs) rfl;refine ⟨.agg cvs :: avs,_,?_,a1,?_,a2⟩
   .rw [jG,jG,g1,htc];simp only[AV.sh,e1]
   .simp only [Value.cells] at e2;simp only[zbj,Value.cells,<- e2,kM,kR,g3,jM]
  .have hcells:=zNt hu hv0;rw[<- e1]at hl1;obtain ⟨c,rfl⟩:∃c,cvs=[c]:=by
    match cvs,hl1 with
    | [c],_=>exact ⟨c,rfl⟩
   obtain ⟨a1,a2⟩:=app (.one c) rfl;refine ⟨.one c :: avs,_,?_,a1,?_,a2⟩
   .rw [jG,jG,g1,htc,<- e1];rfl
   .rw [hcells];simp only[zbj];simp[g3]
theorem zsz (hl:laidOutB P=true){H:Type}{enc:TypeId×Value->H}{W W':World}(hb:Go.RowKit.Below W.heap.size W W'){sp:Nat->Bool}:∀(ts:List TypeId) (vs:List Value) (ds:List (DataW H)) (ps:List MemPlace),(∀t∈ts,P.readableRec t=true/\t<P.types.size) ->
 DataW.TrodAll enc P W 0 (fun _=>true) true ts vs ds ps->(∀x∈ps,x.block<W.heap.size/\sp x.block=true)->DataW.TrodAll enc P W' 0 sp true ts vs ds ps
 | [],vs,ds,ps,_,h,_=>by
  obtain ⟨rfl,rfl,rfl⟩:=trodAll_nil h;exact rfl
 | T :: ts,vs,ds,ps,ht,h,hlt=>by
  obtain ⟨v,vs',d,ds',p,q,rfl,rfl,rfl,h1,h2⟩:=trodAll_cons h;obtain ⟨hr,hrow⟩:=ht T (by simp)
  exact ⟨p,q,WideElems.Trod_stays hl hr hrow h1 (fun x hx=>hb.same (hlt x (jV _ hx)).1) (fun x hx=>(hlt x (jV _ hx)).2),
   zsz hl hb ts vs' ds' q (fun t h=>ht t (by simp[h])) h2 (fun x hx=>hlt x (j8 _ hx)),rfl⟩
theorem zEJ {W W':World}(h:Grown W W')(may:MemPlace->Prop):W.keptBut W' may:=by
 refine ⟨h.os,h.output,fun i hi=>?_⟩;rw[h.keep i hi];cases hc:W.heap[i]? with
 | none=>rfl
 | some o =>
  cases o<;>first|rfl|exact ⟨rfl,rfl,rfl,fun _ _=>rfl⟩|exact .inr ⟨rfl,rfl⟩
def zNA (P:Program)(ts:List TypeId):Bool:=ts.all fun T=>Nat.blt T zdX&&(zbA P 4 T).isSome&&P.readableRec T&&Nat.blt T P.types.size
def zPu (P:Program)(ts:List TypeId)(avs:List AV):Prop:=avs.map (fun a=>some a.sh)=ts.map (zbA P 4)/\∀c∈zk avs,CVOk c
def zFK (P:Program)(f:FuncId)(ts:List TypeId):Prop :=
 ∃run,Holds P f run/\∀avs,zPu P ts avs->run avs=some (true,[.one (.b true)])
theorem zAi (hchk:∀T,T<zdX->zjC P T=true/\zqO P T=true)(hlo:laidOutB P=true){s:ChangeSpec}{f:FuncId}{fn:Func}{B:TypeId}(hvars:s.vars=[])(hfn:∀(H:Type) (ds:List (DataW H)),ds.length=fn.params.toList.length->s.fn H ds={ results:=[.lit (.bool true)],args:=ds })(hpars:zNA P fn.params.toList=true)(hres:fn.resultTypes = #[B])(hB:P.underlying B=some .bool)(hl:zFK P f fn.params.toList){H:Type}{enc:TypeId×Value->H}{apart fresh handsOn:Bool}(W:World)(base:Nat)(args:Array Value)(ds gs:List (DataW H))(before:List MemPlace)(hval:∀(j:Nat) t v,fn.params[j]?=some t->args[j]?=some v->Value.okWide P W .any base t v)(hW:DataW.Whole enc P fn.params.toList s.vars apart W args.toList ds gs before)(hsz:(DataW.weightsEach P (fn.params.toList++s.plain.varTypes P) (ds++gs)).all (·<=reachBytes)=true) :
 Calls P f args W fun e W'=>∃v,e = .returned v/\s.post enc P fn apart fresh handsOn false W args v W':=by
 have hW':=hW;obtain ⟨p,q,hA,hV,rfl,hfz,hnd⟩:=hW;rw[hvars]at hV;obtain ⟨rfl,rfl⟩:=trodVars_none hV;have hvt:s.plain.varTypes P=[]:=by
  unfold DataSpec.varTypes
  show s.vars.filterMap _=[]
  rw[hvars];rfl
 rw[hvt,qW,qW]at hsz;unfold zNA at hpars;simp only[qS,qD,uO]at hpars;have hval':∀(j:Nat) (t:TypeId) (v:Value),fn.params.toList[j]?=some t->args.toList[j]?=some v->Value.okWide P W .any base t v:=by
  intro j t v h1 h2;rw[kL]at h1 h2;exact hval j t v h1 h2
 obtain ⟨avs,xs,g1,g2,g3,g4⟩:=zD9 hchk fn.params.toList args.toList ds p hA hval' (fun t ht=>⟨(hpars t ht).1.1.1,(hpars t ht).1.1.2⟩) hsz;obtain ⟨run,hH,hrun⟩:=hl;have hcall:=hH.2 W avs xs _ g2 (hrun avs ⟨g1,g4⟩);have hargs:(zbj avs xs).toArray=args:=by rw[g3,jM]
 rw[hargs]at hcall;have hlen:∀(ts:List TypeId) (vs:List Value) (ds:List (DataW H)) (ps:List MemPlace),DataW.TrodAll enc P W 0 (fun _=>true) true ts vs ds ps->ds.length=ts.length:=by
  intro ts
  induction ts with
  | nil=>intro vs ds ps h;obtain ⟨_,rfl,_⟩:=trodAll_nil h;rfl
  | cons t ts ih =>
   intro vs ds ps h;obtain ⟨v,vs',d,ds',p,q,rfl,rfl,rfl,_,h2⟩:=trodAll_cons h;simp[ih vs' ds' q h2]
 refine hcall.mono ?_;intro e W1 he;cases e with
 | panicked c=>exact he.elim
 | outgrown=>exact he.elim
 | returned v =>
  obtain ⟨hg,ys,K,hrep,hv,_⟩:=he;have hv1:v = .bool true:=by
   match ys,hrep with
   | [],h=>exact absurd h.1 (by simp[zk,AV.cvs])
   | [y],h =>
    have:=(h.2 0 (.b true) y rfl rfl).bool_inv;rw[hv,this];rfl
   | y :: z :: r,h=>exact absurd h.1 (by simp[zk,AV.cvs])
  subst hv1;refine ⟨_,rfl,ds,[],p++[],[],p,[],hW',?_,?_,?_,zEJ hg _,fun h=>by cases h⟩
  .rw [qW,hfn H ds (hlen _ _ _ _ hA),hres];exact ⟨[],[],⟨1,by simp[DataW.trod,hB,Value.cells]⟩,rfl,rfl⟩
  .rw [qW,hfn H ds (hlen _ _ _ _ hA)];have hb:Go.RowKit.Below W.heap.size W W1:=⟨hg.os,hg.tape,hg.output,hg.size,hg.keep⟩;have hlt:∀x∈p,x.block<W.heap.size:=fun x hx=>by simpa using hW'.lt x (jV _ hx)
   exact zsz hlo hb _ _ _ _ (fun t ht=>⟨(hpars t ht).1.2,(hpars t ht).2⟩) hA (fun x hx=>⟨hlt x hx,by simpa using hlt x hx⟩)
  .rw [hvars,qW,hfn H ds (hlen _ _ _ _ hA)];rfl
end
theorem zRW:(List.range zdX).all (zqO Tryz.prog)=true:=by kernel_rfl
theorem zOT:laidOutB Tryz.prog=true:=by kernel_rfl
theorem own:ownKnob Tryz.prog.godebug=none:=by kernel_rfl
theorem zN7 (T:TypeId)(hT:T<zdX):zjC Tryz.prog T=true/\zqO Tryz.prog T=true :=
 ⟨qS.1 zJ2 T (kB.2 hT),qS.1 zRW T (kB.2 hT)⟩
abbrev Good (ts:List TypeId)(avs:List AV):Prop:=zPu Tryz.prog ts avs
abbrev zJU (f:FuncId)(ts:List TypeId):Prop:=zFK Tryz.prog f ts
theorem zIS {ctr:FuncId->Option (List AV->Option (Bool×List AV))}{mct:FuncId->Option (CV->Int->Option (Bool×CV×Int))}{pct:FuncId->Option (List Bool×(List CV->List AV->Option (Bool×List CV×List AV)))}{tct:FuncId->Option (List Bool×Option (Nat×Nat×List (List Nat))×(List AV->Option (Bool×List AV)))}(hctr:∀f run,ctr f=some run->Holds Tryz.prog f run)(hmct:∀f run,mct f=some run->zzj Tryz.prog f run)(hpct:∀f own run,pct f=some (own,run)->zcx Tryz.prog f own run)(htct:∀f own inp run,tct f=some (own,inp,run)->zcP Tryz.prog f own inp run){f:FuncId}{ts:List TypeId}(hf:FnOk Tryz.prog f)(h:∀avs,Good ts avs->∃tms N D,evalFn (zia ctr mct pct tct) tms N D f avs=some [.one (.b true)]):zJU f ts:=by
 refine ⟨fun avs=>open Classical in if Good ts avs then some (true,[.one (.b true)]) else none,zsb (zb3 hctr hmct hpct htct) hf ?_,fun avs hg=>by simp[hg]⟩
 intro avs rs _ hr;split at hr
 .rename_i hg;cases hr;exact h avs hg
 .cases hr
end
def St.blkEnd (st:St):List Bool->List At->List MV->Option (List CV×List Nat)
 | [],[],[]=>some ([],[])
 | own :: ms,a :: r,h :: hs =>
  match St.blkEnd st ms r hs with
  | none=>none
  | some (cs,ks) =>
   match a with
   | .i k n=>some (.i k n :: cs,ks)
   | .b x=>some (.b x :: cs,ks)
   | .sl q [] =>
    match st.root q with
    | some R =>
     match own with
     | true=>if R.own && !ks.contains q then some (.s R.t R.l :: cs,q :: ks) else none
     | false =>
      match h with
      | .v (.at (.sl q' []))=>if q==q' then some (.s R.t R.l :: cs,ks) else none
      | _=>none
    | none=>none
   | _=>none
 | _,_,_=>none
def zc2:List Bool->List CV->Nat->List (Nat×Root)
 | own :: ms,.s t l :: cs,id=>(id,⟨t,l,own,none⟩) :: zc2 ms cs (id+1)
 | _ :: ms,_ :: cs,id=>zc2 ms cs (id+1)
 | _,_,_=>[]
def zJ5 (own:List Bool)(cs:List CV)(args:List AV):St :=
 { tm:=.v (.at (.lp 0 0)) :: (zem cs 0).map fun a=>.v (.at a),lo:=[(0,zem cs 0)],ro:=zc2 own cs 0++zbO znK args cs.length,stk:=[],nid:=cs.length+(args.flatMap AV.cvs).length+1,ep:=0 }
def zeb (C:Cfg)(tms:FuncId->Nat->Option Tmpl)(N D:Nat)(f:FuncId)(own:List Bool)(cs:List CV)(args:List AV):Option Ans :=
 cond (ze4 f && !(zkt (.agg cs :: args))) none
 (zoi C tms N (zlr C tms N D) f (.v (.at (.lp 0 0)) :: (zbL args cs.length).map .v) (zJ5 own cs args) fun rs st =>
  match st.tm with
  | .v (.at (.lp l 0)) :: hs =>
   match zf st.lo l with
   | some cells =>
    match st.blkEnd own cells hs with
    | some (cs',ks) =>
     match zkZ (st.thaw (ze4 f)) rs ks with
     | some ans=>some (.agg cs' :: ans)
     | none=>none
    | none=>none
   | none=>none
  | _=>none)
section
variable {C:Cfg} {w0 w w1:World} {S0:zI} {U:Nat->Prop} {st st1:St} {E E1:Env} {ts:Array Value} {sv:List (Array Value)}
structure BlkEnd (st:St) (own:List Bool) (cells:List At) (hs:List MV) (cs:List CV) (ks:List Nat):Prop where
 len:cs.length=cells.length
 hlen:hs.length=cells.length
 ownk:∀r∈ks,∃j,zJ own j/\cells[j]?=some (.sl r [])
 get:∀(j:Nat) (a:At),cells[j]?=some a->(∃k n,a = .i k n/\cs[j]?=some (.i k n))\/(∃x,a = .b x/\cs[j]?=some (.b x)) \/
  ∃r R,a = .sl r []/\st.root r=some R/\cs[j]?=some (.s R.t R.l)/\((zJ own j/\R.own=true/\r∈ks)\/(¬ zJ own j/\hs[j]?=some (.v (.at (.sl r [])))))
 inj:∀(i j r:Nat),zJ own i->zJ own j->cells[i]?=some (.sl r [])->cells[j]?=some (.sl r [])->i=j
theorem zDN:∀(own:List Bool) (cells:List At) (hs:List MV) (cs:List CV) (ks:List Nat),st.blkEnd own cells hs=some (cs,ks)->BlkEnd st own cells hs cs ks
 | [],[],[],cs,ks,h=>by
  cases h;exact ⟨rfl,rfl,fun r h=>by simp at h,fun j a h=>by simp at h,fun i j r h=>by simp[zJ]at h⟩
 | o :: ms,a :: r,hd :: hs,cs,ks,h=>by
  simp only[St.blkEnd]at h;split at h
  .cases h
  .rename_i cs0 ks0 h0;have ih:=zDN ms r hs cs0 ks0 h0;have tail:∀(ks1:List Nat) (c:CV),(∀x∈ks0,x∈ks1)->∀(j:Nat) (b:At),r[j]?=some b->(∃k n,b = .i k n/\(c :: cs0)[j+1]?=some (.i k n))\/(∃x,b = .b x/\(c :: cs0)[j+1]?=some (.b x)) \/
    ∃q R,b = .sl q []/\st.root q=some R/\(c :: cs0)[j+1]?=some (.s R.t R.l)/\((zJ (o :: ms) (j+1)/\R.own=true/\q∈ks1)\/(¬ zJ (o :: ms) (j+1)/\(hd :: hs)[j+1]?=some (.v (.at (.sl q []))))):=by
    intro ks1 c hks j b hb;rcases ih.get j b hb with h|h|⟨q,R,g1,g2,g3,g4⟩
    .exact .inl (by simpa using h)
    .exact .inr (.inl (by simpa using h))
    .refine .inr (.inr ⟨q,R,g1,g2,by simpa using g3,?_⟩)
     rcases g4 with ⟨h1,h2,h3⟩|⟨h1,h2⟩
     .exact .inl ⟨by simpa [zJ] using h1,h2,hks q h3⟩
     .exact .inr ⟨by simpa [zJ] using h1,by simpa using h2⟩
   have flat:∀(c:CV),(∀q,a≠.sl q [])->((∃k n,a = .i k n/\c = .i k n)\/(∃x,a = .b x/\c = .b x))->BlkEnd st (o :: ms) (a :: r) (hd :: hs) (c :: cs0) ks0:=by
    intro c hne hc;refine ⟨by simp[ih.len],by simp[ih.hlen],fun q hq=>?_,fun j b hb=>?_,fun i j q hi hj h1 h2=>?_⟩
    .obtain ⟨j,h1,h2⟩:=ih.ownk q hq;exact ⟨j+1,by simpa [zJ] using h1,by simpa using h2⟩
    .cases j with
     | zero =>
      simp only[qF,qC]at hb;subst hb;rcases hc with ⟨k,n,h1,h2⟩|⟨x,h1,h2⟩
      .exact .inl ⟨k,n,h1,by simp[h2]⟩
      .exact .inr (.inl ⟨x,h1,by simp[h2]⟩)
     | succ j=>exact tail ks0 c (fun _ h=>h) j b (by simpa using hb)
    .cases i with
     | zero=>simp only[qF,qC]at h1;exact absurd h1 (hne q)
     | succ i =>
      cases j with
      | zero=>simp only[qF,qC]at h2;exact absurd h2 (hne q)
      | succ j =>
       have:=ih.inj i j q (by simpa [zJ] using hi) (by simpa [zJ] using hj) (by simpa using h1) (by simpa using h2)
       omega
   split at h
   .rename_i k n;cases h;exact flat _ (fun q h=>by cases h) (.inl ⟨k,n,rfl,rfl⟩)
   .rename_i x;cases h;exact flat _ (fun q h=>by cases h) (.inr ⟨x,rfl,rfl⟩)
   .rename_i q;split at h
    .rename_i R hR;split at h
     .split at h
      .rename_i hcond;simp only[qD,qZ,jE,decide_eq_false_iff_not]at hcond;obtain ⟨hown,hnk⟩:=hcond;cases h;refine ⟨by simp[ih.len],by simp[ih.hlen],fun x hx=>?_,fun j b hb=>?_,fun i j x hi hj h1 h2=>?_⟩
       .rcases qG.1 hx with rfl|hx
        .exact ⟨0,rfl,rfl⟩
        .obtain ⟨j,h1,h2⟩:=ih.ownk x hx;exact ⟨j+1,by simpa [zJ] using h1,by simpa using h2⟩
       .cases j with
        | zero =>
         simp only[qF,qC]at hb;subst hb;exact .inr (.inr ⟨q,R,rfl,hR,by simp,.inl ⟨rfl,hown,jO⟩⟩)
        | succ j=>exact tail _ _ (fun x hx=>jD _ hx) j b (by simpa using hb)
       .have old:∀(i:Nat),zJ ms i->r[i]?=some (.sl q [])->False:=by
         intro i hi hq;rcases ih.get i _ hq with ⟨_,_,h,_⟩|⟨_,h,_⟩|⟨r',R',g1,g2,g3,g4⟩
         .cases h
         .cases h
         .cases g1;rcases g4 with ⟨_,_,h⟩|⟨h,_⟩
          .exact hnk h
          .exact h hi
        cases i with
        | zero =>
         cases j with
         | zero=>rfl
         | succ j =>
          simp only[qF,qC,At.sl.injEq,and_true]at h1;subst h1;exact (old j (by simpa [zJ] using hj) (by simpa using h2)).elim
        | succ i =>
         cases j with
         | zero =>
          simp only[qF,qC,At.sl.injEq,and_true]at h2;subst h2;exact (old i (by simpa [zJ] using hi) (by simpa using h1)).elim
         | succ j =>
          have:=ih.inj i j x (by simpa [zJ] using hi) (by simpa [zJ] using hj) (by simpa using h1) (by simpa using h2)
          omega
      .cases h
     .split at h
      .rename_i q';split at h
       .rename_i he;simp only[qH]at he;subst he;cases h;refine ⟨by simp[ih.len],by simp[ih.hlen],fun x hx=>?_,fun j b hb=>?_,fun i j x hi hj h1 h2=>?_⟩
        .obtain ⟨j,h1,h2⟩:=ih.ownk x hx;exact ⟨j+1,by simpa [zJ] using h1,by simpa using h2⟩
        .cases j with
         | zero =>
          simp only[qF,qC]at hb;subst hb;exact .inr (.inr ⟨q,R,rfl,hR,by simp,.inr ⟨by simp[zJ],rfl⟩⟩)
         | succ j=>exact tail _ _ (fun x hx=>hx) j b (by simpa using hb)
        .cases i with
         | zero=>simp[zJ]at hi
         | succ i =>
          cases j with
          | zero=>simp[zJ]at hj
          | succ j =>
           have:=ih.inj i j x (by simpa [zJ] using hi) (by simpa [zJ] using hj) (by simpa using h1) (by simpa using h2)
           omega
       .cases h
      .cases h
    .cases h
   .cases h
 | [],_ :: _,_,_,_,h=>by simp[St.blkEnd]at h
 | [],[],_ :: _,_,_,h=>by simp[St.blkEnd]at h
 | _ :: _,[],_,_,_,h=>by simp[St.blkEnd]at h
 | _ :: _,_ :: _,[],_,_,h=>by simp[St.blkEnd]at h
theorem zN0 (a:Value)(vs:Array Value):(#[a]++vs)[0]?=some a:=by
 rw[jX (by simp)]
 rfl
theorem zN1 (a:Value)(vs:Array Value)(i:Nat):(#[a]++vs)[i+1]?=vs[i]?:=by
 rw[kD (by simp)]
 simp
theorem zgX:∀(own:List Bool) (cs:List CV) (id n:Nat) (R:Root),zf (zc2 own cs id) n=some R->id<=n/\∃t l,cs[n-id]?=some (.s t l)/\R.t=t/\HEq R.l l/\own[n-id]?=some R.own/\R=⟨t,l,R.own,none⟩
 | [],_,_,_,_,h=>by cases h
 | o :: ms,[],_,_,_,h=>by cases h
 | o :: ms,c :: cs,id,n,R,h=>by
  have hr:zf (zc2 ms cs (id+1)) n=some R->id<=n/\∃t l,(c :: cs)[n-id]?=some (.s t l)/\R.t=t/\HEq R.l l/\(o :: ms)[n-id]?=some R.own/\R=⟨t,l,R.own,none⟩:=fun h=>by
   obtain ⟨h1,t,l,h2,h3,h4,h5,h6⟩:=zgX ms cs (id+1) n R h;have e:n-id=(n-(id+1))+1:=by omega
   exact ⟨by omega,t,l,by rw[e,jI];exact h2,h3,h4,by rw[e,jI];exact h5,h6⟩
  cases c with
  | i k x=>exact hr h
  | b x=>exact hr h
  | s t l =>
   simp only[zc2,zf]at h;split at h
   .rename_i he;simp only[qH]at he;subst he;cases h;exact ⟨qV _,t,l,by simp,rfl,HEq.rfl,by simp,rfl⟩
   .exact hr h
theorem zbv (hO:EngOk C){f:FuncId}{own:List Bool}{run:List CV->List AV->Option (Bool×List CV×List AV)}(hf:FnOk C.P f)(h:∀(cs:List CV) (avs:List AV) (cs':List CV) (rs:List AV),own.length=cs.length->(∃(w:World) (xs:Nat->Value) (K:Nat->zI),∀(j:Nat) (c:CV),(cs++zk avs)[j]?=some c->Rep false w (xs j) c (K j))->run cs avs=some (true,cs',rs)->cs'.length=cs.length/\∃tms N D,zeb C tms N D f own cs avs=some (.agg cs' :: rs)):zcx C.P f own run:=by
 refine ⟨hf,fun w blk vals e cs K avs xs Ka cs' rs hb hvs hol hcell hKlt hKd hxs hKa hrun=>?_⟩;obtain ⟨hcl,tms,N,D,hev⟩:=h cs avs cs' rs hol ⟨w,fun j=>if j<cs.length then (vals[j]?).getD undef else (xs[j-cs.length]?).getD undef,fun j=>if j<cs.length then K j else Ka,fun j c hc=>by
  by_cases hj:j<cs.length
  .rw [qT hj]at hc;have hu:=jR (show j<vals.size by omega)
   simp only[if_pos hj,hu,jW];exact (hcell j c _ hc hu).ro
  .rw [qQ (by omega)]at hc
   have hlt:=(qA.1 hc).1;have hu:=qB (show j-cs.length<xs.length by rw[hxs.1];exact hlt)
   simp only[if_neg hj,hu,jW];exact hxs.2 _ c _ hc hu⟩ hrun
 unfold zeb at hev;cases hnf:ze4 f && !(zkt (.agg cs :: avs)) with
 | true=>rw[hnf]at hev;cases hev
 | false =>
 rw[hnf,cond_false]at hev;have hblt:blk<w.heap.size:=(qO.1 hb).1;generalize hst:zJ5 own cs avs=st at hev;have hro:st.ro=zc2 own cs 0++zbO znK avs cs.length:=by rw[<- hst];rfl
 have hloe:st.lo=[(0,zem cs 0)]:=by rw[<- hst];rfl
 have hstk:st.stk=[]:=by rw[<- hst];rfl
 have hnid:st.nid=cs.length+(zk avs).length+1:=by rw[<- hst];rfl
 have htme:st.tm = .v (.at (.lp 0 0)) :: (zem cs 0).map fun a=>.v (.at a):=by rw[<- hst];rfl
 have hroot0:∀r R,zf st.ro r=some R->R.ep=none/\((r<cs.length/\own[r]?=some R.own/\cs[r]?=some (.s R.t R.l))\/(cs.length<=r/\r<cs.length+(zk avs).length/\R.own=false/\(zk avs)[r-cs.length]?=some (.s R.t R.l))):=by
  intro r R hR;rw[hro,zba]at hR;split at hR
  .rename_i Q hQ;cases hR;obtain ⟨_,t,l,h2,_,_,h5,h6⟩:=zgX own cs 0 r R hQ;rw[h6]at h5 ⊢;simp only[uR]at h2 h5;exact ⟨rfl,.inl ⟨(qA.1 h2).1,h5,h2⟩⟩
  .obtain ⟨h1,t,l,h2,rfl⟩:=zdd znK avs cs.length r R hR;have:=(qA.1 h2).1;exact ⟨rfl,.inr ⟨h1,by omega,rfl,h2⟩⟩
 have hroot:∀r R,st.root r=some R->(r<cs.length/\own[r]?=some R.own/\cs[r]?=some (.s R.t R.l))\/(cs.length<=r/\R.own=false/\(zk avs)[r-cs.length]?=some (.s R.t R.l)):=by
  intro r R hR;rcases (hroot0 r R (zS hR).1).2 with h|⟨h1,_,h2,h3⟩
  .exact .inl h
  .exact .inr ⟨h1,h2,h3⟩
 let E:Env:={ ρ:=fun n=>if n<cs.length then (vals[n]?).getD undef else (xs[n-cs.length]?).getD undef,φ:=fun n=>if n<cs.length then K n else Ka,β:=fun _=>blk,κ:=w }
 have hE1:∀n,n<cs.length->E.ρ n=(vals[n]?).getD undef/\E.φ n=K n:=fun n hn=>by simp only[E,if_pos hn,and_self]
 have hE2:∀n,cs.length<=n->E.ρ n=(xs[n-cs.length]?).getD undef/\E.φ n=Ka:=fun n hn=>by simp only[E,if_neg (show ¬ n<cs.length by omega),and_self]
 have hva:∀(j:Nat) (a:At) (u:Value),(zem cs 0)[j]?=some a->vals[j]?=some u->u.oneCell'=true/\VA w st E a u:=by
  intro j a u ha hu;rw[znJ,jY]at ha;cases hc:cs[j]? with
  | none=>rw[hc]at ha;cases ha
  | some c =>
   rw[hc]at ha;cases ha;have hr:=hcell j c u hc hu;have hj:j<cs.length:=(qA.1 hc).1;refine ⟨hr.one,?_⟩;cases c with
   | i k n=>exact hr.int_inv
   | b x=>exact hr.bool_inv
   | s t l =>
    obtain ⟨⟨a,cap,hv,_⟩,_⟩:=hr.len;refine ⟨⟨a,_,cap,hv⟩,fun R _=>?_⟩;rw[(hE1 j hj).1,hu];rfl
 have hlo:∀l cells,zf st.lo l=some cells->l=0/\cells=zem cs 0:=by
  intro l cells h;rw[hloe]at h;simp only[zf]at h;split at h
  .rename_i he;simp only[qH]at he;cases h;exact ⟨he.symm,rfl⟩
  .cases h
 have hp:VA w st E (.lp 0 0) (.pointer (some ⟨blk,0,none⟩)):=⟨⟨_,rfl⟩,fun _ _=>rfl⟩;have hids:∀a∈zem cs 0,∀m∈a.ids,m<cs.length:=by
  intro a ha m hm;obtain ⟨j,hj⟩:=qR.1 ha;rw[znJ,jY]at hj;cases hc:cs[j]? with
  | none=>rw[hc]at hj;cases hj
  | some c =>
   rw[hc]at hj;cases hj;have:=zrp hm;have:=(qA.1 hc).1;omega
 let S0:zI:=fun b=>b=blk\/(∃j,j<cs.length/\zJ own j/\K j b)\/(ze4 f=false/\b=w.heap.size)
 have hS:Sim w S0 (fun n=>n<st.nid) st E (#[.pointer (some ⟨blk,0,none⟩)]++vals) [] w:=by
  refine ⟨⟨rfl,rfl,rfl,qV _,fun _ _ _=>rfl,fun r R hR=>?_,fun r R hR x hx=>?_,fun r R hR ho=>?_,fun hz r R hR ho he hfl=>?_,fun r R r' R' hR ho hR' he hne x hx=>?_,fun l cells hl=>?_,fun l l' c1 c2 h1 h2 _=>?_,fun l cells r R hl hR=>?_,fun r R e hR he=>?_,rfl⟩,⟨fun n R hn=>?_,fun n cells hn=>?_,fun m hm n hn=>?_,fun f hf=>?_⟩,⟨?_,fun i m v hm hv=>?_⟩,?_⟩
  .rcases hroot r R hR with ⟨h1,h2,h3⟩|⟨h1,h2,h3⟩
   .have hu:=jR (show r<vals.size by omega)
    rw[(hE1 r h1).1,(hE1 r h1).2,hu];have:=hcell r _ _ h3 hu;rw[h2] at this;exact this
   .have hlt:=(qA.1 h3).1;have hu:=qB (show r-cs.length<xs.length by rw[hxs.1];exact hlt)
    rw[(hE2 r h1).1,(hE2 r h1).2,hu,h2];exact hxs.2 _ _ _ h3 hu
  .rcases hroot r R hR with ⟨h1,h2,h3⟩|⟨h1,h2,h3⟩
   .rw [(hE1 r h1).2]at hx;exact (hKlt r x h1 hx).1
   .rw [(hE2 r h1).2]at hx;exact (hKa x hx).1
  .rcases hroot r R hR with ⟨h1,h2,h3⟩|⟨h1,h2,h3⟩
   .refine ⟨(hroot0 r R (zS hR).1).1,fun x hx=>.inl (.inr (.inl ⟨r,h1,?_,?_⟩))⟩
    .show own[r]?=some true
     rw[h2,ho]
    .rw [(hE1 r h1).2]at hx;exact hx
   .rw [h2]at ho;cases ho
  .exfalso;cases hq:ze4 f with
   | false=>exact hz (.inr (.inr ⟨hq,rfl⟩))
   | true =>
    rw[hq,uE]at hnf;have hfa:zkt (.agg cs :: avs)=true:=by simpa using hnf
    have hmem:CV.s R.t R.l∈(AV.agg cs :: avs).flatMap AV.cvs:=by
     simp only[j5,jL];rcases hroot r R hR with ⟨h1,h2,h3⟩|⟨h1,h2,h3⟩
     .exact .inl (qI h3)
     .exact .inr (qI h3)
    have:=qS.1 hfa _ hmem;simp only at this;rw[hfl] at this;cases this
  .rcases hroot r R hR with ⟨h1,h2,h3⟩|⟨h1,h2,h3⟩
   .have hor:zJ own r:=by show own[r]?=some true;rw[h2,ho]
    rw[(hE1 r h1).2]at hx;rcases hroot r' R' hR' with ⟨h1',h2',h3'⟩|⟨h1',h2',h3'⟩
    .rw [(hE1 r' h1').2];exact hKd r r' x h1 h1' hor hne hx
    .rw [(hE2 r' h1').2];exact fun hk=>(hKa x hk).2.2 r h1 hor hx
   .rw [h2]at ho;cases ho
  .obtain ⟨rfl,rfl⟩:=hlo l cells hl;exact ⟨.inl (.inl rfl),vals,e,hb,by rw[hvs,zro],fun j c u hc hu=>hva j c u hc hu⟩
  .rw [(hlo l c1 h1).1,(hlo l' c2 h2).1]
  .intro hx;rcases hroot r R hR with ⟨h1,h2,h3⟩|⟨h1,h2,h3⟩
   .rw [(hE1 r h1).2]at hx;exact (hKlt r _ h1 hx).2 rfl
   .rw [(hE2 r h1).2]at hx;exact (hKa _ hx).2.1 rfl
  .rw [(hroot0 r R hR).1]at he;cases he
  .rcases (hroot0 n R hn).2 with ⟨h1,_⟩|⟨_,h1,_⟩<;>omega
  .obtain ⟨rfl,rfl⟩:=hlo n cells hn;refine ⟨by omega,fun a ha m hm=>?_⟩
   have:=hids a ha m hm;omega
  .rw [htme]at hm;rcases qG.1 hm with rfl|hm
   .simp only [MV.ids,zX,zy,At.ids,zN,zU,jN,j5,k0,qW,qE]at hn;omega
   .obtain ⟨a,ha,rfl⟩:=jC.1 hm;simp only[MV.ids,zX,zy,j5,k0,qW]at hn;have:=hids a ha n hn;omega
  .rw [hstk]at hf;simp at hf
  .rw [htme];simp[zro,hvs];omega
  .rw [htme]at hm;cases i with
   | zero=>rw[zN0]at hv;simp at hm hv;subst hm hv;exact hp
   | succ i =>
    simp only[jI,qM]at hm;have hv':vals[i]?=some v:=by rw[zN1]at hv;exact hv
    cases ha:(zem cs 0)[i]? with
    | none=>rw[ha]at hm;cases hm
    | some a=>rw[ha]at hm;cases hm;exact (hva i a v ha hv').2
  .rw [hstk];trivial
 obtain ⟨hl1,hl2⟩:=zel (w:=w) (st:=st) (E:=E) avs xs cs.length hxs.1 (fun i c u hc hu=>by
  have hr:=hxs.2 i c u hc hu;refine ⟨?_,hr.one⟩;cases c with
  | i k n=>exact hr.int_inv
  | b x=>exact hr.bool_inv
  | s t l =>
   obtain ⟨⟨a,cap,hv,_⟩,_⟩:=hr.len;refine ⟨⟨a,_,cap,hv⟩,fun R hR=>?_⟩;have e:cs.length+i-cs.length=i:=by omega
   rw[(hE2 _ (kY _ _)).1,e,hu];rfl)
 obtain ⟨_,hcalls⟩:=zgz hO (zfM hO (tms:=tms) (N:=N) D) f _ st _ _ hev w S0 _ E _ [] w (#[.pointer (some ⟨blk,0,none⟩)]++(zbj avs xs).toArray)
  (fun v w'=>w'.os=w.os/\w'.tape=w.tape/\w'.output=w.output/\w.heap.size<=w'.heap.size /\
   (∀b,b<w.heap.size->b≠blk->(∀j,j<cs.length->zJ own j->¬ K j b)->w'.heap[b]?=w.heap[b]?) /\
   ∃(vals':Array Value) (e':TypeId) (K':Nat->zI) (ys:List Value) (Kr:Nat->zI),w'.heap[blk]?=some (.cells vals' e' (0,0))/\vals'.size=cs'.length/\cs'.length=cs.length /\
    (∀(j:Nat) (c:CV) (u:Value),cs'[j]?=some c->vals'[j]?=some u->match c with
     | .i k n=>u = .int k n
     | .b x=>u = .bool x
     | .s t l=>(zJ own j->Rep true w' u (.s t l) (K' j))/\(¬ zJ own j->vals[j]?=some u)) /\
    zpA (zkG f) w' (zk rs) ys Kr/\v=zgL (zbj rs ys) /\
    (∀j x,j<cs.length->K' j x->x<w'.heap.size/\x≠blk/\((∃i,i<cs.length/\zJ own i/\K i x)\/w.heap.size<=x)) /\
    (∀i x,i<(zk rs).length->Kr i x->x<w'.heap.size/\x≠blk/\((∃i,i<cs.length/\zJ own i/\K i x)\/w.heap.size<=x)) /\
    (∀i j x,i<cs.length->j<cs.length->i≠j->K' i x->¬ K' j x) /\
    (∀i j c x,(zk rs)[i]?=some c->zkG f c=true->j<(zk rs).length->i≠j->Kr i x->¬ Kr j x) /\
    (∀i j x,i<cs.length->j<(zk rs).length->K' i x->¬ Kr j x)) hS (fun n hn h=>by omega)
  (by simp[hl1]) (fun i m v hm hv=>by
   cases i with
   | zero=>rw[zN0]at hv;simp at hm hv;subst hm hv;exact hp
   | succ i =>
    simp only[jI,qM]at hm;have hv':(zbj avs xs)[i]?=some v:=by rw[zN1]at hv;simpa using hv
    cases hx:(zbL avs cs.length)[i]? with
    | none=>rw[hx]at hm;cases hm
    | some x=>rw[hx]at hm;cases hm;exact hl2 i x v hx hv')
  (fun m hm n hn=>by
   rcases qG.1 hm with rfl|hm
   .simp only [MV.ids,zX,zy,At.ids,zN,zU,jN,j5,k0,qW,qE]at hn;omega
   .obtain ⟨x,hx,rfl⟩:=jC.1 hm;simp only[MV.ids,zX,qP]at hn;obtain ⟨a,ha,hn⟩:=hn;have:=(zde avs cs.length n x a hx ha hn).2;omega)
  (fun U' st' E' w' tvs v hS' _ _ _ hv _ hans=>by
   split at hans
   .rename_i l hs htm;split at hans
    .rename_i cells hcells;split at hans
     .rename_i cs1 ks hbe;split at hans
      .rename_i ans hansof;simp only[qC,List.cons.injEq,AV.agg.injEq]at hans;obtain ⟨rfl,rfl⟩:=hans;have hB:=zDN own cells hs _ ks hbe;have hM:=hS'.mem;obtain ⟨hts,htv⟩:=hS'.tm;have hlp:=htv 0 (.v (.at (.lp l 0))) (.pointer (some ⟨blk,0,none⟩)) (by rw[htm];rfl) (zN0 _ _)
       have hβ:E'.β l=blk:=by
        have:=hlp.2 cells hcells;simp only[Value.pointer.injEq,qC,Addr.mk.injEq,and_true] at this;exact this.symm
       obtain ⟨us,rfl,hul,huv⟩:=zqE hv;have TT:=zBc (st:=st') (E:=E') (w:=w') (ze4 f);obtain ⟨ats,ys,kr,hG,hyl,hyv0,rfl,hkr,_⟩:=zfw tvs ks _ us hansof hul (fun k x u hx hu=>VT.tr TT (fun _ _ _ _=>trivial) (huv k x u hx hu));have hyv:∀(k:Nat) (a:At) (u:Value),ats[k]?=some a->ys[k]?=some u->VA w' st' E' a u:=fun k a u ha hu=>by
        have h:=hyv0 k a u ha hu;rcases hG.get k a ha with ⟨_,_,rfl,_⟩|⟨_,rfl,_⟩|⟨r,R1,rfl,hR1,hm,_⟩
        .exact h
        .exact h
        .obtain ⟨R0,hR0,ht,_⟩:=zf0 hR1;refine ⟨h.1,fun R hR=>?_⟩;rw[hR0]at hR;cases hR;have:=h.2 R1 hR1;simpa [zD] using this
       have hzz:ze4 f=true->¬ S0 w.heap.size:=fun h h'=>by
        rcases h' with h'|⟨j,hj,_,hk⟩|⟨h',_⟩
        .omega
        .have:=(hKlt j _ hj hk).1;omega
        .rw [h]at h';cases h'
       obtain ⟨_,vals',e',hb',hsz',hcv⟩:=hM.loc l cells hcells;rw[hβ]at hb';have hS0:∀x,(S0 x\/w.heap.size<=x)->x≠blk->((∃i,i<cs.length/\zJ own i/\K i x)\/w.heap.size<=x):=by
        intro x h hne;rcases h with (h|h|h)|h
        .exact absurd h hne
        .exact .inl h
        .exact .inr (by omega)
        .exact .inr h
       have hnb:∀r R x,st'.root r=some R->E'.φ r x->x≠blk:=by
        intro r R x hR hx he;subst he;rw[<- hβ]at hx;exact hM.lro l cells r R hcells hR hx
       have hget:∀i,i<(zk ans).length->∃a,ats[i]?=some a:=fun i hi=>⟨_,qB (by rw[<- hG.len];exact hi)⟩
       let K':Nat->zI:=fun j x=>zJ own j/\cφ E' cells j x
       have hK':∀j x,K' j x->∃r R,cells[j]?=some (.sl r [])/\zJ own j/\st'.root r=some R/\R.own=true/\r∈ks/\E'.φ r x:=by
        intro j x hx;obtain ⟨ho,hx⟩:=hx;obtain ⟨a,ha,hx⟩:=zns hx;rcases hB.get j a ha with ⟨_,_,rfl,_⟩|⟨_,rfl,_⟩|⟨r,R,rfl,h1,h2,h3⟩
        .exact hx.elim
        .exact hx.elim
        .rcases h3 with ⟨_,h4,h5⟩|⟨h4,_⟩
         .exact ⟨r,R,ha,ho,h1,h4,h5,hx⟩
         .exact absurd ho h4
       have hKr:∀i x,cφ E' ats i x->∃a r R,ats[i]?=some a/\a = .sl r []/\st'.root r=some R/\R.ep=none/\r∈kr/\aφ E' a x/\E'.φ r x:=by
        intro i x hx;obtain ⟨a,ha,hx⟩:=zns hx;obtain ⟨r,hr,rfl,hrx⟩:=hG.fi ha hx;obtain ⟨R1,hR1,ho1⟩:=hG.own r hr;obtain ⟨R,hR,_,hcase⟩:=zf0 hR1;refine ⟨_,r,R,ha,rfl,hR,?_,hr,hx,hrx⟩;rcases hcase with rfl|⟨_,_,he,_⟩
        .exact (hM.mine r _ hR ho1).1
        .exact he
       refine ⟨hM.os,hM.tape,hM.output,hM.size,fun b hb hne hnk=>hM.keep b hb (fun h=>?_),vals',e',K',ys,cφ E' ats,hb',by rw[hsz',hB.len],hcl,fun j c u hc hu=>?_,⟨by rw[hyl,hG.len],fun i c x hc hx=>?_⟩,rfl,fun j x hj hx=>?_,fun i x hi hx=>?_,fun i j x hi hj hne hx hx'=>?_,fun i j c x hi ho hj hne hx hx'=>?_,fun i j x hi hj hx hx'=>?_⟩
       .rcases h with h|⟨j,hj,ho,hk⟩|⟨_,h⟩
        .exact hne h
        .exact hnk j hj ho hk
        .omega
       .have hj:j<cells.length:=by rw[<- hB.len];exact (qA.1 hc).1
        have ha:=qB hj;obtain ⟨_,hva'⟩:=hcv j _ u ha hu;rcases hB.get j _ ha with ⟨k,n,h1,h2⟩|⟨y,h1,h2⟩|⟨r,R,h1,h2,h3,h4⟩
        .rw [hc]at h2;cases h2;rw[h1]at hva';exact hva'
        .rw [hc]at h2;cases h2;rw[h1]at hva';exact hva'
        .rw [hc]at h3;cases h3;rw[h1]at hva' ha;have hρ:=hva'.2 R h2;simp only[zD,qC]at hρ;refine ⟨fun ho=>?_,fun hno=>?_⟩
         .rcases h4 with ⟨_,h5,_⟩|⟨h5,_⟩
          .have hr:=hM.rep r R h2;rw[h5,hρ]at hr;exact hr.weak (fun x hx=>⟨ho,by rw[zeF ha];exact hx⟩)
          .exact absurd ho h5
         .rcases h4 with ⟨h5,_⟩|⟨_,h5⟩
          .exact absurd h5 hno
          .have hjc:j<cs.length:=by rw[<- hcl,hB.len];exact hj
           have hu0:=jR (show j<vals.size by omega)
           have hsl:=htv (j+1) (.v (.at (.sl r []))) vals[j] (by rw[htm,jI];exact h5) (by rw[zN1];exact hu0)
           have hρ':=hsl.2 R h2;simp only[zD,qC]at hρ';rw[hu0,<- hρ',hρ]
       .obtain ⟨a,ha⟩:=hget i (qA.1 hc).1;rw[zeF ha];exact zKi hM hG ha hc (hyv i a x ha hx)
       .obtain ⟨r,R,_,ho,h1,h2,h3,h4⟩:=hK' j x hx;have:=hnb r R x h1 h4;exact ⟨hM.rlt r R h1 x h4,this,hS0 x ((hM.mine r R h1 h2).2 x h4) this⟩
       .obtain ⟨a,r,R,ha,_,h1,_,_,h3,h4⟩:=hKr i x hx;have:=hnb r R x h1 h4;exact ⟨hM.rlt r R h1 x h4,this,hS0 x (zNv hzz hM hG ha h3).1 this⟩
       .obtain ⟨r,R,g1,ho,h1,h2,h3,h4⟩:=hK' i x hx;obtain ⟨r',R',g1',ho',h1',h2',h3',h4'⟩:=hK' j x hx';have:=hM.own_apart h1 h2 h1' h2' h4 h4';subst this;exact hne (hB.inj i j r ho ho' g1 g1')
       .obtain ⟨a,r,R,ha,_,h1,_,_,h3,h4⟩:=hKr i x hx;obtain ⟨b,r',R',hb',_,h1',_,_,h3',h4'⟩:=hKr j x hx';exact hne (zKh hM hG ha hb' hi ho h3 h3')
       .obtain ⟨r,R,g1,ho,h1,h2,h3,h4⟩:=hK' i x hx;obtain ⟨b,r',R',hb',_,h1',he',hr',h3',h4'⟩:=hKr j x hx'
        by_cases e:r=r'
        .subst e;exact hkr r hr' h3
        .exact hM.apart r R r' R' h1 h2 h1' he' e x h4 h4'
      .cases hans
     .cases hans
    .cases hans
   .cases hans)
 refine hcalls.mono ?_;intro ex w' he;cases ex with
 | returned v=>exact he
 | panicked chain=>exact he.elim
 | outgrown=>exact he.elim
end
def zKZ (C:Cfg)(tms:FuncId->Nat->Option Tmpl)(N D:Nat)(f:FuncId)(own:List Bool)(args:List AV):Option Ans :=
 zoi C tms N (zlr C tms N D) f ((zbL args 0).map .v) { tm:=[],lo:=[],ro:=zc2 own (args.flatMap AV.cvs) 0,stk:=[],nid:=(args.flatMap AV.cvs).length,ep:=0 } fun rs st=>zkZ st rs []
def zu7 (C:Cfg)(tms:FuncId->Nat->Option Tmpl)(N D:Nat)(f:FuncId)(own:List Bool)(ja jr:Nat)(js:List (List Nat))(t:Ty)(args:List AV):Option Ans :=
 zoi C tms N (zlr C tms N D) f ((zbL args 0).map .v) { tm:=[.v (.at (.kp ja js t))],lo:=[],ro:=zc2 own (args.flatMap AV.cvs) 0,stk:=[],nid:=(args.flatMap AV.cvs).length,ep:=0 } fun rs st =>
  match st.tm,(rs.flatMap zy)[jr]? with
  | [.v (.at (.kp n J t'))],some (.sl m [])=>cond (Nat.beq n m&&(J==js&&decide (t'=t))) (zkZ st rs []) none
  | _,_=>none
section
variable {C:Cfg} {w0 w w1:World} {S0:zI} {U:Nat->Prop} {st st1:St} {E E1:Env} {ts:Array Value} {sv:List (Array Value)}
theorem zBK (hO:EngOk C){f:FuncId}{own:List Bool}{run:List AV->Option (Bool×List AV)}(hf:FnOk C.P f)(hal0:zff f=[[]])(h:∀(avs:List AV) (rs:List AV),own.length=(zk avs).length->(∃(w:World) (xs:Nat->Value) (K:Nat->zI),∀(j:Nat) (c:CV),(zk avs)[j]?=some c->Rep false w (xs j) c (K j))->run avs=some (true,rs)->∃tms N D,zKZ C tms N D f own avs=some rs)(hne:own.isEmpty=false:=by rfl):zcP C.P f own none run:=by
 refine zcP.of (by rintro rfl;cases hne) ?_
 intro al hal;rw[hal0,qE]at hal;subst hal;refine ⟨hf,fun w K avs xs rs hxl hol hrep hKlt hKd0 _ hrun=>?_⟩;have hKd:=fun i j x hi hj ho hne=>hKd0 i j x hi hj ho hne (by simp)
 obtain ⟨tms,N,D,hev⟩:=h avs rs hol ⟨w,fun j=>(xs[j]?).getD undef,K,fun j c hc=>by
  have hlt:=(qA.1 hc).1;have hu:=qB (show j<xs.length by rw[hxl];exact hlt)
  simp only[hu,jW];exact (hrep j c _ hc hu).ro⟩ hrun
 unfold zKZ at hev;generalize hst:({ tm:=[],lo:=[],ro:=zc2 own (avs.flatMap AV.cvs) 0,stk:=[],nid:=(avs.flatMap AV.cvs).length,ep:=0 }:St)=st at hev;have hro0:st.ro=zc2 own (zk avs) 0:=by rw[<- hst];rfl
 have hroot0:∀r R,zf st.ro r=some R->R.ep=none/\r<(zk avs).length/\own[r]?=some R.own/\(zk avs)[r]?=some (.s R.t R.l):=by
  intro r R hR;rw[hro0]at hR;obtain ⟨_,t,l,h2,_,_,h5,h6⟩:=zgX own (zk avs) 0 r R hR;rw[h6]at h5 ⊢;simp only[uR]at h2 h5;exact ⟨rfl,(qA.1 h2).1,h5,h2⟩
 have hlo:∀l,zf st.lo l=none:=fun l=>by rw[<- hst];rfl
 let E:Env:={ ρ:=fun n=>(xs[n]?).getD undef,φ:=K,β:=fun _=>0,κ:=w }
 let S0:zI:=fun b=>(∃j,j<(zk avs).length/\zJ own j/\K j b)\/b=w.heap.size
 have hS:Sim w S0 (fun n=>n<(zk avs).length) st E #[] [] w:=by
  refine ⟨⟨rfl,rfl,rfl,qV _,fun _ _ _=>rfl,fun r R hR=>?_,fun r R hR x hx=>?_,fun r R hR ho=>?_,fun hz _ _ _ _ _ _=>absurd (.inr rfl) hz,fun r R r' R' hR ho hR' _ hne x hx=>?_,fun l cs hl=>?_,fun l l' cs cs' hl=>?_,fun l cs r R hl=>?_,fun r R e hR he=>?_,rfl⟩,⟨fun n R hn=>?_,fun n cs hn=>?_,fun m hm=>?_,fun f hf=>?_⟩,⟨?_,fun i m v hm=>?_⟩,?_⟩
  .obtain ⟨_,h1,h2,h3⟩:=hroot0 r R (zS hR).1;have hu:=qB (show r<xs.length by omega)
   show Rep R.own w ((xs[r]?).getD undef) _ (K r)
   have:=hrep r _ _ h3 hu;rw[h2] at this;rw[hu];exact this
  .obtain ⟨_,h1,_,_⟩:=hroot0 r R (zS hR).1;exact hKlt r x h1 hx
  .obtain ⟨he,h1,h2,_⟩:=hroot0 r R (zS hR).1;refine ⟨he,fun x hx=>.inl (.inl ⟨r,h1,?_,hx⟩)⟩
   show own[r]?=some true
   rw[h2,ho]
  .obtain ⟨_,h1,h2,_⟩:=hroot0 r R (zS hR).1;obtain ⟨_,h1',_,_⟩:=hroot0 r' R' (zS hR').1;exact hKd r r' x h1 h1' (by show own[r]?=some true;rw[h2,ho]) hne hx
  .rw [hlo]at hl;cases hl
  .rw [hlo]at hl;cases hl
  .rw [hlo]at hl;cases hl
  .rw [(hroot0 r R hR).1]at he;cases he
  .exact (hroot0 n R hn).2.1
  .rw [hlo]at hn;cases hn
  .rw [<- hst]at hm;simp at hm
  .rw [<- hst]at hf;simp at hf
  .rw [<- hst];rfl
  .rw [<- hst]at hm;simp at hm
  .rw [<- hst];trivial
 obtain ⟨hl1,hl2⟩:=zel (w:=w) (st:=st) (E:=E) avs xs 0 hxl (fun i c u hc hu=>by
  have hr:=hrep i c u hc hu;refine ⟨?_,hr.one⟩;cases c with
  | i k n=>exact hr.int_inv
  | b x=>exact hr.bool_inv
  | s t l =>
   obtain ⟨⟨a,cap,hv,_⟩,_⟩:=hr.len;refine ⟨⟨a,_,cap,hv⟩,fun R hR=>?_⟩;have e:0+i=i:=by omega
   show some ((xs[0+i]?).getD undef)=some u
   rw[e,hu];rfl)
 have hnid:st.nid=(zk avs).length:=by rw[<- hst];rfl
 obtain ⟨_,hcalls⟩:=zgz hO (zfM hO (tms:=tms) (N:=N) D) f _ st _ rs hev w S0 _ E #[] [] w (zbj avs xs).toArray
  (fun v w'=>w'.os=w.os/\w'.tape=w.tape/\w'.output=w.output/\w.heap.size<=w'.heap.size /\
   (∀b,b<w.heap.size->(∀j,j<(zk avs).length->zJ own j->¬ K j b)->w'.heap[b]?=w.heap[b]?) /\
   ∃(ys:List Value) (Kr:Nat->zI),zch true w' (zk rs) ys Kr/\v=zgL (zbj rs ys) /\
    (∀i x,i<(zk rs).length->Kr i x->x<w'.heap.size/\((∃j,j<(zk avs).length/\zJ own j/\K j x)\/w.heap.size<=x)) /\
    (∀i j x,i<(zk rs).length->j<(zk rs).length->i≠j->Kr i x->¬ Kr j x) /\
    (∀ja jr js,(none:Option (Nat×Nat×List (List Nat)))=some (ja,jr,js)->∀t l u,(zk avs)[ja]?=some (.s t l)->xs[ja]?=some u->∃l',(zk rs)[jr]?=some (.s t l')/\ys[jr]?=some u /\
     ∀p v,zD w t u p=some v->js.any (fun c=>c.isPrefixOf (cols p))=false->zD w' t u p=some v)) hS (fun n hn h=>by omega)
  (by simp[hl1]) (fun i m v hm hv=>by
   rw[qM]at hm;cases hx:(zbL avs 0)[i]? with
   | none=>rw[hx]at hm;cases hm
   | some x=>rw[hx]at hm;cases hm;exact hl2 i x v hx (by simpa using hv))
  (fun m hm n hn=>by
   obtain ⟨x,hx,rfl⟩:=jC.1 hm;simp only[MV.ids,zX,qP]at hn;obtain ⟨a,ha,hn⟩:=hn;have:=(zde avs 0 n x a hx ha hn).2;omega)
  (fun U' st' E' w' tvs v hS' _ _ _ hv _ hans=>by
   obtain ⟨us,rfl,hul,huv⟩:=zqE hv;obtain ⟨ats,ys,ks,hG,hyl,hyv,rfl,_⟩:=zfw tvs [] rs us hans hul huv;have hM:=hS'.mem;have hget:∀i,i<(zk rs).length->∃a,ats[i]?=some a:=fun i hi=>⟨_,qB (by rw[<- hG.len];exact hi)⟩
   have hKr:∀i x,cφ E' ats i x->∃r∈ks,∃R,ats[i]?=some (.sl r [])/\st'.root r=some R/\R.own=true/\E'.φ r x:=by
    intro i x hx;obtain ⟨a,ha,hx⟩:=zns hx;obtain ⟨r,hr,rfl,hrx⟩:=hG.fi ha hx;obtain ⟨R,hR,ho⟩:=hG.own r hr;exact ⟨r,hr,R,ha,hR,ho,hrx⟩
   refine ⟨hM.os,hM.tape,hM.output,hM.size,fun b hb hnk=>hM.keep b hb (fun h=>h.elim (fun ⟨j,hj,ho,hk⟩=>hnk j hj ho hk) (fun h=>by omega)),ys,cφ E' ats,⟨by rw[hyl,hG.len],fun i c x hc hx=>?_⟩,rfl,fun i x hi hx=>?_,fun i j x hi hj hne hx hx'=>?_,fun ja jr js h=>by cases h⟩
   .obtain ⟨a,ha⟩:=hget i (qA.1 hc).1;rw[zeF ha];exact hG.rep hM ha hc (hyv i a x ha hx)
   .obtain ⟨r,hr,R,_,h1,h2,h4⟩:=hKr i x hx;exact ⟨hM.rlt r R h1 x h4,((hM.mine r R h1 h2).2 x h4).elim (fun h=>h.imp (fun h=>h) (fun h=>uA h.symm)) .inr⟩
   .obtain ⟨r,hr,R,g1,h1,h2,h4⟩:=hKr i x hx;obtain ⟨r',hr',R',g1',h1',h2',h4'⟩:=hKr j x hx';have:=hM.own_apart h1 h2 h1' h2' h4 h4';subst this;exact hne (hG.inj i j r g1 g1'))
 refine hcalls.mono ?_;intro ex w' he;cases ex with
 | returned v=>exact he
 | panicked chain=>exact he.elim
 | outgrown=>exact he.elim
theorem zhL (hO:EngOk C){f:FuncId}{own:List Bool}{ja jr:Nat}{js:List (List Nat)}{kt:Ty}{run:List AV->Option (Bool×List AV)}(hf:FnOk C.P f)(hal0:zff f=[[]])(h:∀(avs:List AV) (rs:List AV),own.length=(zk avs).length->(∃(w:World) (xs:Nat->Value) (K:Nat->zI),∀(j:Nat) (c:CV),(zk avs)[j]?=some c->Rep false w (xs j) c (K j))->run avs=some (true,rs)->(∃l,(zk avs)[ja]?=some (.s kt l))/\own[ja]?=some true/\∃tms N D,zu7 C tms N D f own ja jr js kt avs=some rs)(hne:own.isEmpty=false:=by rfl):zcP C.P f own (some (ja,jr,js)) run:=by
 refine zcP.of (by rintro rfl;cases hne) ?_
 intro al hal;rw[hal0,qE]at hal;subst hal;refine ⟨hf,fun w K avs xs rs hxl hol hrep hKlt hKd0 _ hrun=>?_⟩;have hKd:=fun i j x hi hj ho hne=>hKd0 i j x hi hj ho hne (by simp)
 obtain ⟨⟨kl,hkl⟩,hoj,tms,N,D,hev⟩:=h avs rs hol ⟨w,fun j=>(xs[j]?).getD undef,K,fun j c hc=>by
  have hlt:=(qA.1 hc).1;have hu:=qB (show j<xs.length by rw[hxl];exact hlt)
  simp only[hu,jW];exact (hrep j c _ hc hu).ro⟩ hrun
 unfold zu7 at hev;have hjl:ja<(zk avs).length:=(qA.1 hkl).1;have hjx:ja<xs.length:=by rw[hxl];exact hjl
 have hju:=qB hjx;generalize hst:({ tm:=[.v (.at (.kp ja js kt))],lo:=[],ro:=zc2 own (avs.flatMap AV.cvs) 0,stk:=[],nid:=(avs.flatMap AV.cvs).length,ep:=0 }:St)=st at hev;have hro0:st.ro=zc2 own (zk avs) 0:=by rw[<- hst];rfl
 have hroot0:∀r R,zf st.ro r=some R->R.ep=none/\r<(zk avs).length/\own[r]?=some R.own/\(zk avs)[r]?=some (.s R.t R.l):=by
  intro r R hR;rw[hro0]at hR;obtain ⟨_,t,l,h2,_,_,h5,h6⟩:=zgX own (zk avs) 0 r R hR;rw[h6]at h5 ⊢;simp only[uR]at h2 h5;exact ⟨rfl,(qA.1 h2).1,h5,h2⟩
 have hlo:∀l,zf st.lo l=none:=fun l=>by rw[<- hst];rfl
 let E:Env:={ ρ:=fun n=>(xs[n]?).getD undef,φ:=K,β:=fun _=>0,κ:=w }
 let S0:zI:=fun b=>(∃j,j<(zk avs).length/\zJ own j/\K j b)\/b=w.heap.size
 have hS:Sim w S0 (fun n=>n<(zk avs).length) st E #[xs[ja]] [] w:=by
  refine ⟨⟨rfl,rfl,rfl,qV _,fun _ _ _=>rfl,fun r R hR=>?_,fun r R hR x hx=>?_,fun r R hR ho=>?_,fun hz _ _ _ _ _ _=>absurd (.inr rfl) hz,fun r R r' R' hR ho hR' _ hne x hx=>?_,fun l cs hl=>?_,fun l l' cs cs' hl=>?_,fun l cs r R hl=>?_,fun r R e hR he=>?_,rfl⟩,⟨fun n R hn=>?_,fun n cs hn=>?_,fun m hm=>?_,fun f hf=>?_⟩,⟨?_,fun i m v hm hv=>?_⟩,?_⟩
  .obtain ⟨_,h1,h2,h3⟩:=hroot0 r R (zS hR).1;have hu:=qB (show r<xs.length by omega)
   show Rep R.own w ((xs[r]?).getD undef) _ (K r)
   have:=hrep r _ _ h3 hu;rw[h2] at this;rw[hu];exact this
  .obtain ⟨_,h1,_,_⟩:=hroot0 r R (zS hR).1;exact hKlt r x h1 hx
  .obtain ⟨he,h1,h2,_⟩:=hroot0 r R (zS hR).1;refine ⟨he,fun x hx=>.inl (.inl ⟨r,h1,?_,hx⟩)⟩
   show own[r]?=some true
   rw[h2,ho]
  .obtain ⟨_,h1,h2,_⟩:=hroot0 r R (zS hR).1;obtain ⟨_,h1',_,_⟩:=hroot0 r' R' (zS hR').1;exact hKd r r' x h1 h1' (by show own[r]?=some true;rw[h2,ho]) hne hx
  .rw [hlo]at hl;cases hl
  .rw [hlo]at hl;cases hl
  .rw [hlo]at hl;cases hl
  .rw [(hroot0 r R hR).1]at he;cases he
  .exact (hroot0 n R hn).2.1
  .rw [hlo]at hn;cases hn
  .rw [<- hst]at hm;simp only[qE]at hm;subst hm;intro n hn;simp only[MV.ids,zX,zy,j5,k0,At.ids,zN,zU,qW,qE]at hn;subst hn;exact hjl
  .rw [<- hst]at hf;simp at hf
  .rw [<- hst];rfl
  .rw [<- hst]at hm;cases i with
   | succ i=>simp at hm
   | zero =>
    simp only[qF,qC]at hm hv;subst hm;have hv:xs[ja]=v:=by simpa using hv
    subst hv;have hr:=hrep ja _ _ hkl hju;obtain ⟨⟨a,cap,hva,_⟩,_⟩:=hr.len;refine ⟨⟨a,_,cap,hva⟩,fun R hR=>?_⟩;obtain ⟨_,_,_,h4⟩:=hroot0 ja R (zS hR).1;rw[hkl]at h4;cases h4;refine ⟨rfl,?_,fun p u hp _=>hp⟩
    show (xs[ja]?).getD undef=xs[ja]
    rw[hju];rfl
  .rw [<- hst];trivial
 obtain ⟨hl1,hl2⟩:=zel (w:=w) (st:=st) (E:=E) avs xs 0 hxl (fun i c u hc hu=>by
  have hr:=hrep i c u hc hu;refine ⟨?_,hr.one⟩;cases c with
  | i k n=>exact hr.int_inv
  | b x=>exact hr.bool_inv
  | s t l =>
   obtain ⟨⟨a,cap,hv,_⟩,_⟩:=hr.len;refine ⟨⟨a,_,cap,hv⟩,fun R hR=>?_⟩;have e:0+i=i:=by omega
   show some ((xs[0+i]?).getD undef)=some u
   rw[e,hu];rfl)
 have hnid:st.nid=(zk avs).length:=by rw[<- hst];rfl
 obtain ⟨_,hcalls⟩:=zgz hO (zfM hO (tms:=tms) (N:=N) D) f _ st _ rs hev w S0 _ E #[xs[ja]] [] w (zbj avs xs).toArray
  (fun v w'=>w'.os=w.os/\w'.tape=w.tape/\w'.output=w.output/\w.heap.size<=w'.heap.size /\
   (∀b,b<w.heap.size->(∀j,j<(zk avs).length->zJ own j->¬ K j b)->w'.heap[b]?=w.heap[b]?) /\
   ∃(ys:List Value) (Kr:Nat->zI),zch true w' (zk rs) ys Kr/\v=zgL (zbj rs ys) /\
    (∀i x,i<(zk rs).length->Kr i x->x<w'.heap.size/\((∃j,j<(zk avs).length/\zJ own j/\K j x)\/w.heap.size<=x)) /\
    (∀i j x,i<(zk rs).length->j<(zk rs).length->i≠j->Kr i x->¬ Kr j x) /\
    (∀ja2 jr2 js2,some (ja,jr,js)=some (ja2,jr2,js2)->∀t l u,(zk avs)[ja2]?=some (.s t l)->xs[ja2]?=some u->∃l',(zk rs)[jr2]?=some (.s t l')/\ys[jr2]?=some u /\
     ∀p v,zD w t u p=some v->js2.any (fun c=>c.isPrefixOf (cols p))=false->zD w' t u p=some v)) hS (fun n hn h=>by omega)
  (by simp[hl1]) (fun i m v hm hv=>by
   rw[qM]at hm;cases hx:(zbL avs 0)[i]? with
   | none=>rw[hx]at hm;cases hm
   | some x=>rw[hx]at hm;cases hm;exact hl2 i x v hx (by simpa using hv))
  (fun m hm n hn=>by
   obtain ⟨x,hx,rfl⟩:=jC.1 hm;simp only[MV.ids,zX,qP]at hn;obtain ⟨a,ha,hn⟩:=hn;have:=(zde avs 0 n x a hx ha hn).2;omega)
  (fun U' st' E' w' tvs v hS' _ _ _ hv _ hans=>by
   obtain ⟨us,rfl,hul,huv⟩:=zqE hv;split at hans
   rotate_left
   .cases hans
   rename_i n J t' m htm hrm;cases hck:(Nat.beq n m&&(J==js&&decide (t'=kt))) with
   | false=>rw[hck]at hans;cases hans
   | true =>
   rw[hck]at hans;simp only[cond_true]at hans;simp only[qD,kJ,qH,qX]at hck;obtain ⟨hnm,hJ,ht⟩:=hck;subst hnm hJ ht;obtain ⟨ats,ys,ks,hG,hyl,hyv,rfl,_,hats⟩:=zfw tvs [] rs us hans hul huv;have hM:=hS'.mem;have hget:∀i,i<(zk rs).length->∃a,ats[i]?=some a:=fun i hi=>⟨_,qB (by rw[<- hG.len];exact hi)⟩
   have hKr:∀i x,cφ E' ats i x->∃r∈ks,∃R,ats[i]?=some (.sl r [])/\st'.root r=some R/\R.own=true/\E'.φ r x:=by
    intro i x hx;obtain ⟨a,ha,hx⟩:=zns hx;obtain ⟨r,hr,rfl,hrx⟩:=hG.fi ha hx;obtain ⟨R,hR,ho⟩:=hG.own r hr;exact ⟨r,hr,R,ha,hR,ho,hrx⟩
   refine ⟨hM.os,hM.tape,hM.output,hM.size,fun b hb hnk=>hM.keep b hb (fun h=>h.elim (fun ⟨j,hj,ho,hk⟩=>hnk j hj ho hk) (fun h=>by omega)),ys,cφ E' ats,⟨by rw[hyl,hG.len],fun i c x hc hx=>?_⟩,rfl,fun i x hi hx=>?_,fun i j x hi hj hne hx hx'=>?_,fun ja2 jr2 js2 he t l u hcl hxu=>?_⟩
   .obtain ⟨a,ha⟩:=hget i (qA.1 hc).1;rw[zeF ha];exact hG.rep hM ha hc (hyv i a x ha hx)
   .obtain ⟨r,hr,R,_,h1,h2,h4⟩:=hKr i x hx;exact ⟨hM.rlt r R h1 x h4,((hM.mine r R h1 h2).2 x h4).elim (fun h=>h.imp (fun h=>h) (fun h=>uA h.symm)) .inr⟩
   .obtain ⟨r,hr,R,g1,h1,h2,h4⟩:=hKr i x hx;obtain ⟨r',hr',R',g1',h1',h2',h4'⟩:=hKr j x hx';have:=hM.own_apart h1 h2 h1' h2' h4 h4';subst this;exact hne (hG.inj i j r g1 g1')
   .cases he;rw[hkl]at hcl;cases hcl;rw[hju]at hxu;cases hxu;have ha:ats[jr]?=some (.sl n []):=by rw[hats];exact hrm
    rcases hG.get jr _ ha with ⟨_,_,h,_⟩|⟨_,h,_⟩|⟨r,R,h,hR,_,hcs⟩
    .cases h
    .cases h
    .cases h;have hty:=hS'.tm.2 0 (.v (.at (.kp n J t'))) xs[ja] (by rw[htm];rfl) (by simp)
     obtain ⟨e1,e2,e3⟩:=hty.2 R hR;have hyl2:jr<ys.length:=by rw[hyl];exact (qA.1 ha).1
     have hy:=qB hyl2;have e4:=(hyv jr _ _ ha hy).2 R hR;simp only[zD,qC] at e4;refine ⟨e1 ▸ R.l,?_,by rw[hy,<- e4,e2],?_⟩
     .rw [hcs];cases e1;rfl
     .rw [hM.κ] at e3;exact e3)
 refine hcalls.mono ?_;intro ex w' he;cases ex with
 | returned v=>exact he
 | panicked chain=>exact he.elim
 | outgrown=>exact he.elim
def zFV (al:List (Nat×Nat)):At->At
 | .sl r []=>match al.find? (fun x=>Nat.beq x.1 r) with
  | some x=>.sl x.2 []
  | none=>.sl r []
 | a=>a
def zFy (C:Cfg)(tms:FuncId->Nat->Option Tmpl)(N D:Nat)(f:FuncId)(own:List Bool)(al:List (Nat×Nat))(ja jr:Nat)(js:List (List Nat))(t:Ty)(args:List AV):Option Ans :=
 zoi C tms N (zlr C tms N D) f (((zbL args 0).map .v).map (zf9 (zFV al))) { tm:=[.v (.at (.kp ja js t))],lo:=[],ro:=(zc2 own (args.flatMap AV.cvs) 0).filter (fun x=>!al.any (fun y=>Nat.beq y.1 x.1)),stk:=[],nid:=(args.flatMap AV.cvs).length,ep:=0 } fun rs st =>
  match st.tm,(rs.flatMap zy)[jr]? with
  | [.v (.at (.kp n J t'))],some (.sl m [])=>cond (Nat.beq n m&&(J==js&&decide (t'=t))) (zkZ st rs []) none
  | _,_=>none
def zH2 (a:At):Prop:=(∃k n,a = .i k n)\/(∃b,a = .b b)\/∃r,a = .sl r []
theorem zmJ:∀(cs:List CV) (id:Nat) (a:At),a∈zem cs id->zH2 a
 | [],_,_,h=>by simp[zem]at h
 | .i k n :: cs,id,a,h=>by
  simp only[zem,qG]at h;rcases h with rfl|h
  .exact .inl ⟨k,n,rfl⟩
  .exact zmJ cs (id+1) a h
 | .b x :: cs,id,a,h=>by
  simp only[zem,qG]at h;rcases h with rfl|h
  .exact .inr (.inl ⟨x,rfl⟩)
  .exact zmJ cs (id+1) a h
 | .s t l :: cs,id,a,h=>by
  simp only[zem,qG]at h;rcases h with rfl|h
  .exact .inr (.inr ⟨id,rfl⟩)
  .exact zmJ cs (id+1) a h
theorem zph:∀(rs:List AV) (id:Nat) (x:TV) (a:At),x∈zbL rs id->a∈zy x->zH2 a
 | [],_,_,_,h,_=>by simp[zbL]at h
 | .one c :: rs,id,x,a,h,ha=>by
  simp only[zbL,qG]at h;rcases h with rfl|h
  .simp only [zy,qE]at ha;subst ha;cases c with
   | i k n=>exact .inl ⟨k,n,rfl⟩
   | b x=>exact .inr (.inl ⟨x,rfl⟩)
   | s t l=>exact .inr (.inr ⟨id,rfl⟩)
  .exact zph rs (id+1) x a h ha
 | .agg cs :: rs,id,x,a,h,ha=>by
  simp only[zbL,qG]at h;rcases h with rfl|h
  .exact zmJ cs id a ha
  .exact zph rs (id+cs.length) x a h ha
theorem zRq {w1:World}{st1:St}{E1:Env}{w:World}{st:St}{E:Env}{f:At->At}{P:At->Prop}(T:∀a v,P a->VA w st E a v->VA w1 st1 E1 (f a) v){x:TV}{v:Value}(hP:∀a∈zy x,P a)(h:VT w st E x v):VT w1 st1 E1 (zld f x) v:=by
 rcases x with a|l
 .exact T a v (hP a (by simp[zy])) h
 .obtain ⟨vs,h1,h2,h3⟩:=h;refine ⟨vs,h1,by simp[h2],fun j a u ha hu=>?_⟩
  rw[qM]at ha;cases hl:l[j]? with
  | none=>rw[hl]at ha;cases ha
  | some b=>rw[hl]at ha;cases ha;exact ⟨(h3 j b u hl hu).1,T _ _ (hP b (by simp only[zy];exact qI hl)) (h3 j b u hl hu).2⟩
theorem zNZ {al:List (Nat×Nat)}{a:At}{n:Nat}(h:n∈(zFV al a).ids):n∈a.ids\/∃r,(r,n)∈al:=by
 unfold zFV at h;split at h
 .split at h
  .rename_i r x hx;simp only[At.ids,zN,zU,qW,qE]at h;subst h;exact .inr ⟨x.1,List.mem_of_find?_eq_some hx⟩
  .exact .inl h
 .exact .inl h
theorem zkY {α:Type}(q:Nat->Bool):∀(l:List (Nat×α)) (n:Nat) (x:α),zf (l.filter (fun y=>q y.1)) n=some x->q n=true/\zf l n=some x
 | [],_,_,h=>by simp[zf]at h
 | (k,v) :: l,n,x,h=>by
  cases hq:q k with
  | false =>
   rw[List.filter_cons_of_neg (by simp[hq])]at h
   obtain ⟨h1,h2⟩:=zkY q l n x h;refine ⟨h1,?_⟩;simp only[zf];cases hk:k==n with
   | false=>exact h2
   | true =>
    have:k=n:=by simpa using hk
    subst this;rw[hq]at h1;cases h1
  | true =>
   rw[List.filter_cons_of_pos (by simp[hq])]at h
   simp only[zf]at h ⊢;cases hk:k==n with
   | false =>
    rw[hk]at h;exact zkY q l n x (by simpa using h)
   | true =>
    rw[hk]at h;have:k=n:=by simpa using hk
    subst this;exact ⟨hq,by simpa using h⟩
theorem zBJ (hO:EngOk C){f:FuncId}{own:List Bool}{ja jr:Nat}{js:List (List Nat)}{kt:Ty}{run:List AV->Option (Bool×List AV)}(hf:FnOk C.P f)(h:∀(al:List (Nat×Nat)) (avs:List AV) (rs:List AV),al∈zff f->(∀j i,(j,i)∈al->(zk avs)[j]?=(zk avs)[i]?)->own.length=(zk avs).length->(∃(w:World) (xs:Nat->Value) (K:Nat->zI),∀(j:Nat) (c:CV),(zk avs)[j]?=some c->Rep false w (xs j) c (K j))->run avs=some (true,rs)->(∃l,(zk avs)[ja]?=some (.s kt l))/\own[ja]?=some true/\∃tms N D,zFy C tms N D f own al ja jr js kt avs=some rs)(hne:own.isEmpty=false:=by rfl):zcP C.P f own (some (ja,jr,js)) run:=by
 refine zcP.of (by rintro rfl;cases hne) ?_
 intro al hal;refine ⟨hf,fun w K avs xs rs hxl hol hrep hKlt hKd0 hali hrun=>?_⟩;obtain ⟨⟨kl,hkl⟩,hoj,tms,N,D,hev⟩:=h al avs rs hal (fun j i hji=>(hali j i hji).2.2.2.1) hol ⟨w,fun j=>(xs[j]?).getD undef,K,fun j c hc=>by
  have hlt:=(qA.1 hc).1;have hu:=qB (show j<xs.length by rw[hxl];exact hlt)
  simp only[hu,jW];exact (hrep j c _ hc hu).ro⟩ hrun
 unfold zFy at hev;have hjl:ja<(zk avs).length:=(qA.1 hkl).1;have hjx:ja<xs.length:=by rw[hxl];exact hjl
 have hju:=qB hjx;generalize hst:({ tm:=[.v (.at (.kp ja js kt))],lo:=[],ro:=(zc2 own (avs.flatMap AV.cvs) 0).filter (fun x=>!al.any (fun y=>Nat.beq y.1 x.1)),stk:=[],nid:=(avs.flatMap AV.cvs).length,ep:=0 }:St)=st at hev;have hro0:st.ro=(zc2 own (zk avs) 0).filter (fun x=>!al.any (fun y=>Nat.beq y.1 x.1)):=by rw[<- hst];rfl
 have hna:∀r R,zf st.ro r=some R->∀i,(r,i)∉al:=by
  intro r R hR i hi;rw[hro0]at hR;have:=(zkY (fun n=>!al.any (fun y=>Nat.beq y.1 n)) _ r R hR).1;simp only[qZ,kG] at this;exact this _ hi (Nat.beq_refl r)
 have hroot0:∀r R,zf st.ro r=some R->R.ep=none/\r<(zk avs).length/\own[r]?=some R.own/\(zk avs)[r]?=some (.s R.t R.l):=by
  intro r R hR;rw[hro0]at hR;obtain ⟨_,t,l,h2,_,_,h5,h6⟩:=zgX own (zk avs) 0 r R (zkY (fun n=>!al.any (fun y=>Nat.beq y.1 n)) _ r R hR).2;rw[h6]at h5 ⊢;simp only[uR]at h2 h5;exact ⟨rfl,(qA.1 h2).1,h5,h2⟩
 have hlo:∀l,zf st.lo l=none:=fun l=>by rw[<- hst];rfl
 let E:Env:={ ρ:=fun n=>(xs[n]?).getD undef,φ:=K,β:=fun _=>0,κ:=w }
 let S0:zI:=fun b=>(∃j,j<(zk avs).length/\zJ own j/\K j b)\/b=w.heap.size
 have hS:Sim w S0 (fun n=>n<(zk avs).length) st E #[xs[ja]] [] w:=by
  refine ⟨⟨rfl,rfl,rfl,qV _,fun _ _ _=>rfl,fun r R hR=>?_,fun r R hR x hx=>?_,fun r R hR ho=>?_,fun hz _ _ _ _ _ _=>absurd (.inr rfl) hz,fun r R r' R' hR ho hR' _ hne x hx=>?_,fun l cs hl=>?_,fun l l' cs cs' hl=>?_,fun l cs r R hl=>?_,fun r R e hR he=>?_,rfl⟩,⟨fun n R hn=>?_,fun n cs hn=>?_,fun m hm=>?_,fun f hf=>?_⟩,⟨?_,fun i m v hm hv=>?_⟩,?_⟩
  .obtain ⟨_,h1,h2,h3⟩:=hroot0 r R (zS hR).1;have hu:=qB (show r<xs.length by omega)
   show Rep R.own w ((xs[r]?).getD undef) _ (K r)
   have:=hrep r _ _ h3 hu;rw[h2] at this;rw[hu];exact this
  .obtain ⟨_,h1,_,_⟩:=hroot0 r R (zS hR).1;exact hKlt r x h1 hx
  .obtain ⟨he,h1,h2,_⟩:=hroot0 r R (zS hR).1;refine ⟨he,fun x hx=>.inl (.inl ⟨r,h1,?_,hx⟩)⟩
   show own[r]?=some true
   rw[h2,ho]
  .obtain ⟨_,h1,h2,_⟩:=hroot0 r R (zS hR).1;obtain ⟨_,h1',_,_⟩:=hroot0 r' R' (zS hR').1;exact hKd0 r r' x h1 h1' (by show own[r]?=some true;rw[h2,ho]) hne (hna r' R' (zS hR').1 r) hx
  .rw [hlo]at hl;cases hl
  .rw [hlo]at hl;cases hl
  .rw [hlo]at hl;cases hl
  .rw [(hroot0 r R hR).1]at he;cases he
  .exact (hroot0 n R hn).2.1
  .rw [hlo]at hn;cases hn
  .rw [<- hst]at hm;simp only[qE]at hm;subst hm;intro n hn;simp only[MV.ids,zX,zy,j5,k0,At.ids,zN,zU,qW,qE]at hn;subst hn;exact hjl
  .rw [<- hst]at hf;simp at hf
  .rw [<- hst];rfl
  .rw [<- hst]at hm;cases i with
   | succ i=>simp at hm
   | zero =>
    simp only[qF,qC]at hm hv;subst hm;have hv:xs[ja]=v:=by simpa using hv
    subst hv;have hr:=hrep ja _ _ hkl hju;obtain ⟨⟨a,cap,hva,_⟩,_⟩:=hr.len;refine ⟨⟨a,_,cap,hva⟩,fun R hR=>?_⟩;obtain ⟨_,_,_,h4⟩:=hroot0 ja R (zS hR).1;rw[hkl]at h4;cases h4;refine ⟨rfl,?_,fun p u hp _=>hp⟩
    show (xs[ja]?).getD undef=xs[ja]
    rw[hju];rfl
  .rw [<- hst];trivial
 let st0:St:={ st with ro:=(List.range (zk avs).length).map (fun r=>(r,(⟨.int,[],false,none⟩:Root))),ep:=0 }
 have hst0:∀r,r<(zk avs).length->st0.root r=some ⟨.int,[],false,none⟩:=by
  intro r hr;have:∀(n k:Nat),k<=r->r<k+n->zf ((List.range' k n).map (fun r=>(r,(⟨.int,[],false,none⟩:Root)))) r=some ⟨.int,[],false,none⟩:=by
   intro n
   induction n with
   | zero=>intro k h1 h2;omega
   | succ n ih =>
    intro k h1 h2;simp only[uP,jG,zf]
    by_cases he:k=r
    .subst he;simp
    .have hb:(k==r)=false:=by simpa using he
     simp only[hb,kK,if_false];exact ih (k+1) (by omega) (by omega)
  have h2:=this (zk avs).length 0 (j9 _) (by omega)
  rw[<- List.range_eq_range']at h2;exact zdM h2 (.inl rfl)
 obtain ⟨hl1,hl2⟩:=zel (w:=w) (st:=st0) (E:=E) avs xs 0 hxl (fun i c u hc hu=>by
  have hr:=hrep i c u hc hu;refine ⟨?_,hr.one⟩;cases c with
  | i k n=>exact hr.int_inv
  | b x=>exact hr.bool_inv
  | s t l =>
   obtain ⟨⟨a,cap,hv,_⟩,_⟩:=hr.len;refine ⟨⟨a,_,cap,hv⟩,fun R hR=>?_⟩;have e:0+i=i:=by omega
   show some ((xs[0+i]?).getD undef)=some u
   rw[e,hu];rfl)
 have hT:∀a v,(zH2 a/\∀n∈a.ids,n<(zk avs).length)->VA w st0 E a v->VA w st E (zFV al a) v:=by
  intro a v ⟨hpl,hid⟩ hv;have hkey:∀r,∀i,(r,i)∈al->E.ρ i=E.ρ r:=by
   intro r i hi
   show (xs[i]?).getD undef=(xs[r]?).getD undef
   rw[(hali r i hi).2.2.1]
  rcases hpl with ⟨k,n,rfl⟩|⟨b,rfl⟩|⟨r,rfl⟩
  .exact hv
  .exact hv
  .have hr:r<(zk avs).length:=hid r (by simp[At.ids,zN])
   have e1:=hv.2 _ (hst0 r hr);simp only[zD,qC] at e1;simp only[zFV];split
   .rename_i x hx;have hm:=List.mem_of_find?_eq_some hx;have hx1:x.1=r:=jP (by simpa using List.find?_some hx)
    subst hx1;refine ⟨hv.1,fun R _=>?_⟩;simp only[zD,qC];rw[hkey x.1 x.2 hm];exact e1
   .refine ⟨hv.1,fun R _=>?_⟩;simp only[zD,qC];exact e1
 have hnid:st.nid=(zk avs).length:=by rw[<- hst];rfl
 obtain ⟨_,hcalls⟩:=zgz hO (zfM hO (tms:=tms) (N:=N) D) f _ st _ rs hev w S0 _ E #[xs[ja]] [] w (zbj avs xs).toArray
  (fun v w'=>w'.os=w.os/\w'.tape=w.tape/\w'.output=w.output/\w.heap.size<=w'.heap.size /\
   (∀b,b<w.heap.size->(∀j,j<(zk avs).length->zJ own j->¬ K j b)->w'.heap[b]?=w.heap[b]?) /\
   ∃(ys:List Value) (Kr:Nat->zI),zch true w' (zk rs) ys Kr/\v=zgL (zbj rs ys) /\
    (∀i x,i<(zk rs).length->Kr i x->x<w'.heap.size/\((∃j,j<(zk avs).length/\zJ own j/\K j x)\/w.heap.size<=x)) /\
    (∀i j x,i<(zk rs).length->j<(zk rs).length->i≠j->Kr i x->¬ Kr j x) /\
    (∀ja2 jr2 js2,some (ja,jr,js)=some (ja2,jr2,js2)->∀t l u,(zk avs)[ja2]?=some (.s t l)->xs[ja2]?=some u->∃l',(zk rs)[jr2]?=some (.s t l')/\ys[jr2]?=some u /\
     ∀p v,zD w t u p=some v->js2.any (fun c=>c.isPrefixOf (cols p))=false->zD w' t u p=some v)) hS (fun n hn h=>by omega)
  (by simp[hl1]) (fun i m v hm hv=>by
   rw[qM,qM]at hm;cases hx:(zbL avs 0)[i]? with
   | none=>rw[hx]at hm;cases hm
   | some x =>
    rw[hx]at hm;cases hm;exact zRq hT (fun a ha=>⟨zph avs 0 x a (qI hx) ha,fun n hn=>by
     have:=(zde avs 0 n x a (qI hx) ha hn).2;omega⟩) (hl2 i x v hx (by simpa using hv)))
  (fun m hm n hn=>by
   obtain ⟨m0,hm0,rfl⟩:=jC.1 hm;obtain ⟨x,hx,rfl⟩:=jC.1 hm0;obtain ⟨a,ha,hn⟩:=zD4 hn;simp only[zX]at ha;rcases zNZ hn with h|⟨r,h⟩
   .have:=(zde avs 0 n x a hx ha h).2;omega
   .obtain ⟨_,_,_,_,t,l,h5⟩:=hali r n h;exact (qA.1 h5).1)
  (fun U' st' E' w' tvs v hS' _ _ _ hv _ hans=>by
   obtain ⟨us,rfl,hul,huv⟩:=zqE hv;split at hans
   rotate_left
   .cases hans
   rename_i n J t' m htm hrm;cases hck:(Nat.beq n m&&(J==js&&decide (t'=kt))) with
   | false=>rw[hck]at hans;cases hans
   | true =>
   rw[hck]at hans;simp only[cond_true]at hans;simp only[qD,kJ,qH,qX]at hck;obtain ⟨hnm,hJ,ht⟩:=hck;subst hnm hJ ht;obtain ⟨ats,ys,ks,hG,hyl,hyv,rfl,_,hats⟩:=zfw tvs [] rs us hans hul huv;have hM:=hS'.mem;have hget:∀i,i<(zk rs).length->∃a,ats[i]?=some a:=fun i hi=>⟨_,qB (by rw[<- hG.len];exact hi)⟩
   have hKr:∀i x,cφ E' ats i x->∃r∈ks,∃R,ats[i]?=some (.sl r [])/\st'.root r=some R/\R.own=true/\E'.φ r x:=by
    intro i x hx;obtain ⟨a,ha,hx⟩:=zns hx;obtain ⟨r,hr,rfl,hrx⟩:=hG.fi ha hx;obtain ⟨R,hR,ho⟩:=hG.own r hr;exact ⟨r,hr,R,ha,hR,ho,hrx⟩
   refine ⟨hM.os,hM.tape,hM.output,hM.size,fun b hb hnk=>hM.keep b hb (fun h=>h.elim (fun ⟨j,hj,ho,hk⟩=>hnk j hj ho hk) (fun h=>by omega)),ys,cφ E' ats,⟨by rw[hyl,hG.len],fun i c x hc hx=>?_⟩,rfl,fun i x hi hx=>?_,fun i j x hi hj hne hx hx'=>?_,fun ja2 jr2 js2 he t l u hcl hxu=>?_⟩
   .obtain ⟨a,ha⟩:=hget i (qA.1 hc).1;rw[zeF ha];exact hG.rep hM ha hc (hyv i a x ha hx)
   .obtain ⟨r,hr,R,_,h1,h2,h4⟩:=hKr i x hx;exact ⟨hM.rlt r R h1 x h4,((hM.mine r R h1 h2).2 x h4).elim (fun h=>h.imp (fun h=>h) (fun h=>uA h.symm)) .inr⟩
   .obtain ⟨r,hr,R,g1,h1,h2,h4⟩:=hKr i x hx;obtain ⟨r',hr',R',g1',h1',h2',h4'⟩:=hKr j x hx';have:=hM.own_apart h1 h2 h1' h2' h4 h4';subst this;exact hne (hG.inj i j r g1 g1')
   .cases he;rw[hkl]at hcl;cases hcl;rw[hju]at hxu;cases hxu;have ha:ats[jr]?=some (.sl n []):=by rw[hats];exact hrm
    rcases hG.get jr _ ha with ⟨_,_,h,_⟩|⟨_,h,_⟩|⟨r,R,h,hR,_,hcs⟩
    .cases h
    .cases h
    .cases h;have hty:=hS'.tm.2 0 (.v (.at (.kp n J t'))) xs[ja] (by rw[htm];rfl) (by simp)
     obtain ⟨e1,e2,e3⟩:=hty.2 R hR;have hyl2:jr<ys.length:=by rw[hyl];exact (qA.1 ha).1
     have hy:=qB hyl2;have e4:=(hyv jr _ _ ha hy).2 R hR;simp only[zD,qC] at e4;refine ⟨e1 ▸ R.l,?_,by rw[hy,<- e4,e2],?_⟩
     .rw [hcs];cases e1;rfl
     .rw [hM.κ] at e3;exact e3)
 refine hcalls.mono ?_;intro ex w' he;cases ex with
 | returned v=>exact he
 | panicked chain=>exact he.elim
 | outgrown=>exact he.elim
end
def zbi (h:Host):List CV:=[.s (.sl .int) h.Memory,.s .mon h.Mons,.s .entry h.Buffer,.s .entry h.IoBuffer]
def zKP (c:Ctl):List CV:=[.i .i64 c.Traps,.i .i64 c.Post,.b c.Open]
def zmC (e:GExit):List CV:=[.i .i64 e.Kind,.i .i64 e.Page,.b e.Write,.i .i64 e.N]
structure Cur where
 b:List Int
 i:Int
 h:Int
def zbt (c:Cur):List CV:=[.s .u8 c.b,.i .i64 c.i,.i .i64 c.h]
def zo:List (Nat×Nat×Tmpl)->FuncId->Nat->Option Tmpl
 | [],_,_=>none
 | (g,c,T) :: r,f,b=>cond (Nat.beq g f) (cond (Nat.beq c b) (some T) (zo r f b)) (zo r f b)
def pc (p:Prop):Bool:=@decide p (Classical.propDecidable p)
theorem zC {p:Prop}:pc p=true↔p:=by
 unfold pc;exact @decide_eq_true_iff p (Classical.propDecidable p)
theorem zbF {p:Prop}(h:p):pc p=true:=zC.2 h
inductive CVB (K:Nat):CV->Prop
 | i (k:IntKind) (n:Int):CVB K (.i k n)
 | b (x:Bool):CVB K (.b x)
 | s (t:Ty) (l:List t.den) (hl:l.length<=K) (h:∀x∈l,∀c∈t.cells x,CVB K c):CVB K (.s t l)
theorem CVB.inv {K:Nat}{t:Ty}{l:List t.den}(h:CVB K (.s t l)):l.length<=K/\∀x∈l,∀c∈t.cells x,CVB K c:=by
 cases h with
 | s _ _ hl h=>exact ⟨hl,h⟩
theorem CVB.len {K:Nat}{t:Ty}{l:List t.den}(h:CVB K (.s t l)):l.length<=K:=h.inv.1
theorem CVB.mono {K L:Nat}(hKL:K<=L){c:CV}(h:CVB K c):CVB L c:=by
 induction h with
 | i k n=>exact .i k n
 | b x=>exact .b x
 | s t l hl h ih=>exact .s t l (jF hl hKL) ih
theorem CVB.of_rep {o:Bool}{w:World}{v:Value}{c:CV}{S:zI}(h:Rep o w v c S):CVB big c:=by
 induction h with
 | i k n S=>exact .i k n
 | b x S=>exact .b x
 | nil t S=>exact .s t [] (j9 _) (fun x h=>by cases h)
 | void t a S ho=>exact .s t [] (j9 _) (fun x h=>by cases h)
 | sl t l b off cap arr e fz V K S hb hfz hlen hcap hsz hS hsub hdis hv hc ih =>
  refine .s t l hlen (fun x hx c hcx=>?_);obtain ⟨i,hi⟩:=qR.1 hx;obtain ⟨j,hj⟩:=qR.1 hcx;exact ih i x hi j c hj
theorem CVB.of_ok {c:CV}(h:CVOk c):CVB big c:=by
 induction h with
 | i k n _=>exact .i k n
 | b x=>exact .b x
 | s t l hl h ih =>
  refine .s t l hl (fun x hx c hcx=>?_);obtain ⟨i,hi⟩:=qR.1 hx;obtain ⟨j,hj⟩:=qR.1 hcx;exact ih i x hi j c hj
def zbu (K:Nat)(avs:List AV):Prop:=∀c∈zk avs,CVB K c
theorem zcy {K:Nat}{a:AV}{avs:List AV}(h:zbu K (a :: avs)):(∀c∈a.cvs,CVB K c)/\zbu K avs:=by
 unfold zbu zk at *;simp only[j5,jL]at h;exact ⟨fun c hc=>h c (.inl hc),fun c hc=>h c (.inr hc)⟩
theorem zIR {avs:List AV}(h:∃w xs,zch false w (zk avs) xs (fun _ b=>b<w.heap.size)):zbu big avs:=by
 obtain ⟨w,xs,h1,h2⟩:=h;intro c hc;obtain ⟨i,hi⟩:=qR.1 hc;have hlt:i<xs.length:=by rw[h1];exact (qA.1 hi).1
 exact CVB.of_rep (h2 i c _ hi (qB hlt))
theorem zbD {cs:List CV}{avs:List AV}(h:∃(w:World) (xs:Nat->Value) (K:Nat->zI),∀(j:Nat) (c:CV),(cs++zk avs)[j]?=some c->Rep false w (xs j) c (K j)):zbu big (.agg cs :: avs):=by
 obtain ⟨w,xs,K,h⟩:=h;intro c hc;have e:zk (AV.agg cs :: avs)=cs++zk avs:=by simp[zk,AV.cvs]
 rw[e]at hc;obtain ⟨j,hj⟩:=qR.1 hc;exact CVB.of_rep (h j c hj)
theorem zbR {b c:Bool}{x y:List CV}{z u:List AV}(h:some (b,x,z)=some (c,y,u)):b=c/\y=x/\u=z:=by
 cases h;exact ⟨rfl,rfl,rfl⟩
theorem zhu {b c:Bool}{x y:List AV}(h:some (b,x)=some (c,y)):b=c/\y=x:=by
 cases h;exact ⟨rfl,rfl⟩
abbrev zK:=List (Nat×(List AV->Option (Bool×List AV)))
def ziX:zK:=[]
theorem zdG:∀f run,zf ziX f=some run->Holds Tryz.prog f run:=fun f run h=>by cases h
abbrev zx (l:zK):Prop:=∀f run,zf l f=some run->Holds Tryz.prog f run
abbrev uV:=Holds Tryz.prog
theorem zh {l:zK}{f:Nat}{run:List AV->Option (Bool×List AV)}(h:uV f run)(hl:zx l):zx ((f,run) :: l):=by
 intro g r hg;unfold zf at hg;split at hg
 .rename_i e;cases hg;rw[<- qH.1 e];exact h
 .exact hl g r hg
abbrev zeK:=List (Nat×(CV->Int->Option (Bool×CV×Int)))
def zib:zeK:=[]
abbrev zdC (m:zeK):Prop:=∀f run,zf m f=some run->zzj Tryz.prog f run
theorem zbd:zdC zib:=fun f run h=>by cases h
abbrev zco:=List (Nat×(List Bool×(List CV->List AV->Option (Bool×List CV×List AV))))
def zyh:zco:=[]
abbrev zbJ (p:zco):Prop:=∀f own run,zf p f=some (own,run)->zcx Tryz.prog f own run
theorem zl:zbJ zyh:=fun f own run h=>by cases h
theorem zcT {l m:zco}(hm:∀f own run,zf m f=some (own,run)->zcx Tryz.prog f own run)(hl:∀x∈l,zcx Tryz.prog x.1 x.2.1 x.2.2):∀f own run,zf (l++m) f=some (own,run)->zcx Tryz.prog f own run:=by
 intro f own run h;rw[zba]at h;split at h
 .rename_i y hy;cases h;exact hl _ (zkr hy)
 .exact hm f own run h
abbrev zdl:=List (Nat×(List Bool×Option (Nat×Nat×List (List Nat))×(List AV->Option (Bool×List AV))))
def zgM:zdl:=[]
abbrev zcR (t:zdl):Prop:=∀f own inp run,zf t f=some (own,inp,run)->zcP Tryz.prog f own inp run
theorem zn:zcR zgM:=fun f own inp run h=>by cases h
theorem zkU {l m:zdl}(hm:∀f own inp run,zf m f=some (own,inp,run)->zcP Tryz.prog f own inp run)(hl:∀x∈l,zcP Tryz.prog x.1 x.2.1 x.2.2.1 x.2.2.2):∀f own inp run,zf (l++m) f=some (own,inp,run)->zcP Tryz.prog f own inp run:=by
 intro f own inp run h;rw[zba]at h;split at h
 .rename_i y hy;cases h;exact hl _ (zkr hy)
 .exact hm f own inp run h
abbrev cQ (c:zK)(m:zeK)(p:zco)(t:zdl):Cfg:=zia (zf c) (zf m) (zf p) (zf t)
theorem zGw {c:zK}{m:zeK}{p:zco}{t:zdl}(o1:zx c)(o2:zdC m)(o3:zbJ p)(o4:zcR t){f:FuncId}{run:List AV->Option (Bool×List AV)}(hf:FnOk Tryz.prog f)(h:∀avs rs,zbu big avs->run avs=some (true,rs)->∃tms N,evalFn (cQ c m p t) tms N 12 f avs=some rs):uV f run :=
 zsb (zb3 o1 o2 o3 o4) hf fun avs rs hr e=>(h avs rs (zIR hr) e).elim fun t x=>x.elim fun N y=>⟨t,N,12,y⟩
noncomputable def zd1 (f:FuncId):Bool :=
 match Tryz.prog.funcs[f]? with
 | some fn=>fn.body.isSome && !(fn.name == "runtime.NumGoroutine")
 | none=>false
theorem zcX {f:FuncId}(h:zd1 f=true):FnOk Tryz.prog f:=by
 unfold zd1 at h;split at h
 .rename_i fn hf;simp only[qD,qZ]at h;obtain ⟨b,hb⟩:=k9.1 h.1;exact ⟨fn,b,hf,hb,h.2⟩
 .cases h
abbrev oN {α:Type}(c:Bool)(a:Option α):Option α:=bif c then a else none
abbrev nB (c:Bool):Bool:=bif c then false else true
abbrev ti:AT:=.i .i64
structure Dc (α:Type) where
 d:AV->Option α
 e:α->AV
 h:∀{a x},d a=some x->a=e x
abbrev aI (x:Int):AV:=.one (.i .i64 x)
abbrev aB (x:Bool):AV:=.one (.b x)
abbrev aS (t:Ty)(l:List t.den):AV:=.one (.s t l)
abbrev aT (t:Ty)(x:t.den):AV:=.agg (t.cells x)
abbrev aH (h:Host):AV:=.agg (zbi h)
abbrev OA:=Option Ans
abbrev oF:OA:=some [aB false]
abbrev oT:OA:=some [aB true]
abbrev lA:=List GAct
abbrev lB:=List Bool
abbrev lE:=List Entry
abbrev lG:=List Guest
abbrev lI:=List Ins
abbrev lK:=List Kept
abbrev lM:=List (List Int)
abbrev lN:=List Mon
abbrev lP:=List (List Ins)
abbrev lQ:=List (List (List Ins))
abbrev lR:=List Bare
abbrev lS:=List Slot
abbrev lT:=List Told
def dI:Dc Int:=⟨fun a=>match a with | .one (.i .i64 x)=>some x|_=>none,aI,fun {a x} h=>by split at h<;>cases h;rfl⟩
def dB:Dc Bool:=⟨fun a=>match a with | .one (.b x)=>some x|_=>none,aB,fun {a x} h=>by split at h<;>cases h;rfl⟩
def dS (t:Ty):Dc (List t.den):=⟨fun a=>match a with | .one (.s t' l)=>if h:t'=t then some (h ▸ l) else none|_=>none,aS t,fun {a x} h=>by
 split at h
 .rename_i t' l;split at h
  .rename_i e;subst e;cases h;rfl
  .cases h
 .cases h⟩
def dT (t:Ty):Dc t.den:=⟨fun a=>match a with | .agg cs=>t.ofCells cs|_=>none,aT t,fun {a x} h=>by
 split at h
 .rw [<- zen h]
 .cases h⟩
def dH:Dc Host:=⟨fun a=>match a with | .agg [.s (.sl .int) x,.s .mon y,.s .entry z,.s .entry u]=>some ⟨x,y,z,u⟩|_=>none,aH,fun {a x} h=>by split at h<;>cases h;rfl⟩
def dC:Dc Ctl:=⟨fun a=>match a with | .agg [.i .i64 x,.i .i64 y,.b z]=>some ⟨x,y,z⟩|_=>none,fun x=>.agg (zKP x),fun {a x} h=>by split at h<;>cases h;rfl⟩
def dE:Dc GExit:=⟨fun a=>match a with | .agg [.i .i64 x,.i .i64 y,.b z,.i .i64 u]=>some ⟨x,y,z,u⟩|_=>none,fun x=>.agg (zmC x),fun {a x} h=>by split at h<;>cases h;rfl⟩
abbrev Run:=List AV->Option (Bool×List AV)
def eat {α:Type}(D:Dc α)(k:α->Run):Run
 | []=>none
 | a :: l=>match D.d a with
  | some x=>k x l
  | none=>none
def stop (r:Bool×List AV):Run
 | []=>some r
 | _=>none
theorem zRg {α:Type}{D:Dc α}{k:α->Run}{avs:List AV}{r:Bool×List AV}(h:eat D k avs=some r):∃x l,avs=D.e x :: l/\k x l=some r:=by
 unfold eat at h;split at h
 .cases h
 .rename_i a l;split at h
  .rename_i x hx;exact ⟨x,l,by rw[D.h hx],h⟩
  .cases h
theorem zPn {q r:Bool×List AV}{avs:List AV}(h:stop q avs=some r):avs=[]/\r=q:=by
 unfold stop at h;split at h<;>cases h;exact ⟨rfl,rfl⟩
theorem zbN {p:Nat->Prop}(h:∀N,(∀{n:Nat},n<=big->n<N)->p N):∃N,p N:=⟨big+1,h _ fun h=>Nat.lt_succ_of_le h⟩
theorem len0 {t:Ty}{l:List t.den}{r:List AV}(hb:zbu big (.one (.s t l) :: r)):l.length<=big:=((zcy hb).1 _ (qE.2 rfl)).len
def Read (c:zK)(m:zeK)(p:zco)(t:zdl)(tms:FuncId->Nat->Option Tmpl)(f:FuncId)(pre:List AV)(r:Run):Prop:=∀avs rs,zbu big (pre++avs)->r avs=some (true,rs)->∃N,evalFn (cQ c m p t) tms N 12 f (pre++avs)=some rs
theorem zcd {c:zK}{m:zeK}{p:zco}{t:zdl}{tms:FuncId->Nat->Option Tmpl}{f:FuncId}{pre:List AV}{α:Type}{D:Dc α}{k:α->Run}(h:∀a,Read c m p t tms f (pre++[D.e a]) (k a)):Read c m p t tms f pre (eat D k):=by
 intro avs rs hb e;obtain ⟨x,l,h1,e1⟩:=zRg e;subst h1;have:=h x l rs (by simpa using hb) e1
 simpa using this
theorem zhj {c:zK}{m:zeK}{p:zco}{t:zdl}{tms:FuncId->Nat->Option Tmpl}{f:FuncId}{pre:List AV}{g:Bool×List AV}{E:Nat->OA}(law:zbu big pre->g.1=true->∃N,E N=some g.2)(nf:∀N,evalFn (cQ c m p t) tms N 12 f pre=E N):Read c m p t tms f pre (stop g):=by
 intro avs rs hb e;obtain ⟨h1,e1⟩:=zPn e;subst h1;cases g with
 | mk b x =>
  cases e1;rw[qW]at hb ⊢;obtain ⟨N,e⟩:=law hb rfl;exact ⟨N,(nf N).trans e⟩
theorem zi9 {c:zK}{m:zeK}{p:zco}{t:zdl}(o1:zx c)(o2:zdC m)(o3:zbJ p)(o4:zcR t){tms:FuncId->Nat->Option Tmpl}{f:FuncId}{r:Run}(hf:zd1 f=true)(h:Read c m p t tms f [] r):uV f r :=
 zGw o1 o2 o3 o4 (zcX hf) fun avs rs hb e=>(h avs rs hb e).elim fun N x=>⟨tms,N,x⟩
def rF0  (g:Bool×List AV):Run:=stop g
theorem hF0 {c:zK}{m:zeK}{p:zco}{t:zdl}(o1:zx c)(o2:zdC m)(o3:zbJ p)(o4:zcR t)(tms:FuncId->Nat->Option Tmpl){g:Bool×List AV}{E:Nat->OA}{f:FuncId}(law:zbu big []->g.1=true->∃N,E N=some g.2)(nf:∀N,evalFn (cQ c m p t) tms N 12 f []=E N:=by intros;kernel_rfl)(hf:zd1 f=true:=by kernel_rfl):uV f (rF0 g) :=
 zi9 o1 o2 o3 o4 hf (zhj (fun hb hc=>law hb hc) fun N=>nf N)
theorem kF0 {c:zK}{m:zeK}{p:zco}{t:zdl}(o1:zx c)(o2:zdC m)(o3:zbJ p)(o4:zcR t)(tms:FuncId->Nat->Option Tmpl){g:Bool×List AV}{E:Nat->OA}{f:FuncId}(law:g.1=true->∃N,E N=some g.2)(nf:∀N,evalFn (cQ c m p t) tms N 12 f []=E N:=by intros;kernel_rfl)(hf:zd1 f=true:=by kernel_rfl):uV f (rF0 g):=hF0 o1 o2 o3 o4 tms (fun _=>law) nf hf
def rF1 {A0:Type}(D0:Dc A0)(g:A0->Bool×List AV):Run:=eat D0 fun a0=>stop (g a0)
theorem hF1 {A0:Type}{c:zK}{m:zeK}{p:zco}{t:zdl}(o1:zx c)(o2:zdC m)(o3:zbJ p)(o4:zcR t)(tms:FuncId->Nat->Option Tmpl){D0:Dc A0}{g:A0->Bool×List AV}{E:Nat->A0->OA}{f:FuncId}(law:∀a0,zbu big [D0.e a0]->(g a0).1=true->∃N,E N a0=some (g a0).2)(nf:∀N a0,evalFn (cQ c m p t) tms N 12 f [D0.e a0]=E N a0:=by intros;kernel_rfl)(hf:zd1 f=true:=by kernel_rfl):uV f (rF1 D0 g) :=
 zi9 o1 o2 o3 o4 hf (zcd fun a0=>zhj (fun hb hc=>law a0 hb hc) fun N=>nf N a0)
theorem kF1 {A0:Type}{c:zK}{m:zeK}{p:zco}{t:zdl}(o1:zx c)(o2:zdC m)(o3:zbJ p)(o4:zcR t)(tms:FuncId->Nat->Option Tmpl){D0:Dc A0}{g:A0->Bool×List AV}{E:Nat->A0->OA}{f:FuncId}(law:∀a0,(g a0).1=true->∃N,E N a0=some (g a0).2)(nf:∀N a0,evalFn (cQ c m p t) tms N 12 f [D0.e a0]=E N a0:=by intros;kernel_rfl)(hf:zd1 f=true:=by kernel_rfl):uV f (rF1 D0 g):=hF1 o1 o2 o3 o4 tms (fun a0 _=>law a0) nf hf
def rF2 {A0 A1:Type}(D0:Dc A0)(D1:Dc A1)(g:A0->A1->Bool×List AV):Run:=eat D0 fun a0=>eat D1 fun a1=>stop (g a0 a1)
theorem hF2 {A0 A1:Type}{c:zK}{m:zeK}{p:zco}{t:zdl}(o1:zx c)(o2:zdC m)(o3:zbJ p)(o4:zcR t)(tms:FuncId->Nat->Option Tmpl){D0:Dc A0}{D1:Dc A1}{g:A0->A1->Bool×List AV}{E:Nat->A0->A1->OA}{f:FuncId}(law:∀a0 a1,zbu big [D0.e a0,D1.e a1]->(g a0 a1).1=true->∃N,E N a0 a1=some (g a0 a1).2)(nf:∀N a0 a1,evalFn (cQ c m p t) tms N 12 f [D0.e a0,D1.e a1]=E N a0 a1:=by intros;kernel_rfl)(hf:zd1 f=true:=by kernel_rfl):uV f (rF2 D0 D1 g) :=
 zi9 o1 o2 o3 o4 hf (zcd fun a0=>zcd fun a1=>zhj (fun hb hc=>law a0 a1 hb hc) fun N=>nf N a0 a1)
theorem kF2 {A0 A1:Type}{c:zK}{m:zeK}{p:zco}{t:zdl}(o1:zx c)(o2:zdC m)(o3:zbJ p)(o4:zcR t)(tms:FuncId->Nat->Option Tmpl){D0:Dc A0}{D1:Dc A1}{g:A0->A1->Bool×List AV}{E:Nat->A0->A1->OA}{f:FuncId}(law:∀a0 a1,(g a0 a1).1=true->∃N,E N a0 a1=some (g a0 a1).2)(nf:∀N a0 a1,evalFn (cQ c m p t) tms N 12 f [D0.e a0,D1.e a1]=E N a0 a1:=by intros;kernel_rfl)(hf:zd1 f=true:=by kernel_rfl):uV f (rF2 D0 D1 g):=hF2 o1 o2 o3 o4 tms (fun a0 a1 _=>law a0 a1) nf hf
def rF3 {A0 A1 A2:Type}(D0:Dc A0)(D1:Dc A1)(D2:Dc A2)(g:A0->A1->A2->Bool×List AV):Run:=eat D0 fun a0=>eat D1 fun a1=>eat D2 fun a2=>stop (g a0 a1 a2)
theorem hF3 {A0 A1 A2:Type}{c:zK}{m:zeK}{p:zco}{t:zdl}(o1:zx c)(o2:zdC m)(o3:zbJ p)(o4:zcR t)(tms:FuncId->Nat->Option Tmpl){D0:Dc A0}{D1:Dc A1}{D2:Dc A2}{g:A0->A1->A2->Bool×List AV}{E:Nat->A0->A1->A2->OA}{f:FuncId}(law:∀a0 a1 a2,zbu big [D0.e a0,D1.e a1,D2.e a2]->(g a0 a1 a2).1=true->∃N,E N a0 a1 a2=some (g a0 a1 a2).2)(nf:∀N a0 a1 a2,evalFn (cQ c m p t) tms N 12 f [D0.e a0,D1.e a1,D2.e a2]=E N a0 a1 a2:=by intros;kernel_rfl)(hf:zd1 f=true:=by kernel_rfl):uV f (rF3 D0 D1 D2 g) :=
 zi9 o1 o2 o3 o4 hf (zcd fun a0=>zcd fun a1=>zcd fun a2=>zhj (fun hb hc=>law a0 a1 a2 hb hc) fun N=>nf N a0 a1 a2)
theorem kF3 {A0 A1 A2:Type}{c:zK}{m:zeK}{p:zco}{t:zdl}(o1:zx c)(o2:zdC m)(o3:zbJ p)(o4:zcR t)(tms:FuncId->Nat->Option Tmpl){D0:Dc A0}{D1:Dc A1}{D2:Dc A2}{g:A0->A1->A2->Bool×List AV}{E:Nat->A0->A1->A2->OA}{f:FuncId}(law:∀a0 a1 a2,(g a0 a1 a2).1=true->∃N,E N a0 a1 a2=some (g a0 a1 a2).2)(nf:∀N a0 a1 a2,evalFn (cQ c m p t) tms N 12 f [D0.e a0,D1.e a1,D2.e a2]=E N a0 a1 a2:=by intros;kernel_rfl)(hf:zd1 f=true:=by kernel_rfl):uV f (rF3 D0 D1 D2 g):=hF3 o1 o2 o3 o4 tms (fun a0 a1 a2 _=>law a0 a1 a2) nf hf
def rF4 {A0 A1 A2 A3:Type}(D0:Dc A0)(D1:Dc A1)(D2:Dc A2)(D3:Dc A3)(g:A0->A1->A2->A3->Bool×List AV):Run:=eat D0 fun a0=>eat D1 fun a1=>eat D2 fun a2=>eat D3 fun a3=>stop (g a0 a1 a2 a3)
theorem hF4 {A0 A1 A2 A3:Type}{c:zK}{m:zeK}{p:zco}{t:zdl}(o1:zx c)(o2:zdC m)(o3:zbJ p)(o4:zcR t)(tms:FuncId->Nat->Option Tmpl){D0:Dc A0}{D1:Dc A1}{D2:Dc A2}{D3:Dc A3}{g:A0->A1->A2->A3->Bool×List AV}{E:Nat->A0->A1->A2->A3->OA}{f:FuncId}(law:∀a0 a1 a2 a3,zbu big [D0.e a0,D1.e a1,D2.e a2,D3.e a3]->(g a0 a1 a2 a3).1=true->∃N,E N a0 a1 a2 a3=some (g a0 a1 a2 a3).2)(nf:∀N a0 a1 a2 a3,evalFn (cQ c m p t) tms N 12 f [D0.e a0,D1.e a1,D2.e a2,D3.e a3]=E N a0 a1 a2 a3:=by intros;kernel_rfl)(hf:zd1 f=true:=by kernel_rfl):uV f (rF4 D0 D1 D2 D3 g) :=
 zi9 o1 o2 o3 o4 hf (zcd fun a0=>zcd fun a1=>zcd fun a2=>zcd fun a3=>zhj (fun hb hc=>law a0 a1 a2 a3 hb hc) fun N=>nf N a0 a1 a2 a3)
theorem kF4 {A0 A1 A2 A3:Type}{c:zK}{m:zeK}{p:zco}{t:zdl}(o1:zx c)(o2:zdC m)(o3:zbJ p)(o4:zcR t)(tms:FuncId->Nat->Option Tmpl){D0:Dc A0}{D1:Dc A1}{D2:Dc A2}{D3:Dc A3}{g:A0->A1->A2->A3->Bool×List AV}{E:Nat->A0->A1->A2->A3->OA}{f:FuncId}(law:∀a0 a1 a2 a3,(g a0 a1 a2 a3).1=true->∃N,E N a0 a1 a2 a3=some (g a0 a1 a2 a3).2)(nf:∀N a0 a1 a2 a3,evalFn (cQ c m p t) tms N 12 f [D0.e a0,D1.e a1,D2.e a2,D3.e a3]=E N a0 a1 a2 a3:=by intros;kernel_rfl)(hf:zd1 f=true:=by kernel_rfl):uV f (rF4 D0 D1 D2 D3 g):=hF4 o1 o2 o3 o4 tms (fun a0 a1 a2 a3 _=>law a0 a1 a2 a3) nf hf
def rF5 {A0 A1 A2 A3 A4:Type}(D0:Dc A0)(D1:Dc A1)(D2:Dc A2)(D3:Dc A3)(D4:Dc A4)(g:A0->A1->A2->A3->A4->Bool×List AV):Run:=eat D0 fun a0=>eat D1 fun a1=>eat D2 fun a2=>eat D3 fun a3=>eat D4 fun a4=>stop (g a0 a1 a2 a3 a4)
theorem hF5 {A0 A1 A2 A3 A4:Type}{c:zK}{m:zeK}{p:zco}{t:zdl}(o1:zx c)(o2:zdC m)(o3:zbJ p)(o4:zcR t)(tms:FuncId->Nat->Option Tmpl){D0:Dc A0}{D1:Dc A1}{D2:Dc A2}{D3:Dc A3}{D4:Dc A4}{g:A0->A1->A2->A3->A4->Bool×List AV}{E:Nat->A0->A1->A2->A3->A4->OA}{f:FuncId}(law:∀a0 a1 a2 a3 a4,zbu big [D0.e a0,D1.e a1,D2.e a2,D3.e a3,D4.e a4]->(g a0 a1 a2 a3 a4).1=true->∃N,E N a0 a1 a2 a3 a4=some (g a0 a1 a2 a3 a4).2)(nf:∀N a0 a1 a2 a3 a4,evalFn (cQ c m p t) tms N 12 f [D0.e a0,D1.e a1,D2.e a2,D3.e a3,D4.e a4]=E N a0 a1 a2 a3 a4:=by intros;kernel_rfl)(hf:zd1 f=true:=by kernel_rfl):uV f (rF5 D0 D1 D2 D3 D4 g) :=
 zi9 o1 o2 o3 o4 hf (zcd fun a0=>zcd fun a1=>zcd fun a2=>zcd fun a3=>zcd fun a4=>zhj (fun hb hc=>law a0 a1 a2 a3 a4 hb hc) fun N=>nf N a0 a1 a2 a3 a4)
theorem kF5 {A0 A1 A2 A3 A4:Type}{c:zK}{m:zeK}{p:zco}{t:zdl}(o1:zx c)(o2:zdC m)(o3:zbJ p)(o4:zcR t)(tms:FuncId->Nat->Option Tmpl){D0:Dc A0}{D1:Dc A1}{D2:Dc A2}{D3:Dc A3}{D4:Dc A4}{g:A0->A1->A2->A3->A4->Bool×List AV}{E:Nat->A0->A1->A2->A3->A4->OA}{f:FuncId}(law:∀a0 a1 a2 a3 a4,(g a0 a1 a2 a3 a4).1=true->∃N,E N a0 a1 a2 a3 a4=some (g a0 a1 a2 a3 a4).2)(nf:∀N a0 a1 a2 a3 a4,evalFn (cQ c m p t) tms N 12 f [D0.e a0,D1.e a1,D2.e a2,D3.e a3,D4.e a4]=E N a0 a1 a2 a3 a4:=by intros;kernel_rfl)(hf:zd1 f=true:=by kernel_rfl):uV f (rF5 D0 D1 D2 D3 D4 g):=hF5 o1 o2 o3 o4 tms (fun a0 a1 a2 a3 a4 _=>law a0 a1 a2 a3 a4) nf hf
def rF6 {A0 A1 A2 A3 A4 A5:Type}(D0:Dc A0)(D1:Dc A1)(D2:Dc A2)(D3:Dc A3)(D4:Dc A4)(D5:Dc A5)(g:A0->A1->A2->A3->A4->A5->Bool×List AV):Run:=eat D0 fun a0=>eat D1 fun a1=>eat D2 fun a2=>eat D3 fun a3=>eat D4 fun a4=>eat D5 fun a5=>stop (g a0 a1 a2 a3 a4 a5)
theorem hF6 {A0 A1 A2 A3 A4 A5:Type}{c:zK}{m:zeK}{p:zco}{t:zdl}(o1:zx c)(o2:zdC m)(o3:zbJ p)(o4:zcR t)(tms:FuncId->Nat->Option Tmpl){D0:Dc A0}{D1:Dc A1}{D2:Dc A2}{D3:Dc A3}{D4:Dc A4}{D5:Dc A5}{g:A0->A1->A2->A3->A4->A5->Bool×List AV}{E:Nat->A0->A1->A2->A3->A4->A5->OA}{f:FuncId}(law:∀a0 a1 a2 a3 a4 a5,zbu big [D0.e a0,D1.e a1,D2.e a2,D3.e a3,D4.e a4,D5.e a5]->(g a0 a1 a2 a3 a4 a5).1=true->∃N,E N a0 a1 a2 a3 a4 a5=some (g a0 a1 a2 a3 a4 a5).2)(nf:∀N a0 a1 a2 a3 a4 a5,evalFn (cQ c m p t) tms N 12 f [D0.e a0,D1.e a1,D2.e a2,D3.e a3,D4.e a4,D5.e a5]=E N a0 a1 a2 a3 a4 a5:=by intros;kernel_rfl)(hf:zd1 f=true:=by kernel_rfl):uV f (rF6 D0 D1 D2 D3 D4 D5 g) :=
 zi9 o1 o2 o3 o4 hf (zcd fun a0=>zcd fun a1=>zcd fun a2=>zcd fun a3=>zcd fun a4=>zcd fun a5=>zhj (fun hb hc=>law a0 a1 a2 a3 a4 a5 hb hc) fun N=>nf N a0 a1 a2 a3 a4 a5)
theorem kF6 {A0 A1 A2 A3 A4 A5:Type}{c:zK}{m:zeK}{p:zco}{t:zdl}(o1:zx c)(o2:zdC m)(o3:zbJ p)(o4:zcR t)(tms:FuncId->Nat->Option Tmpl){D0:Dc A0}{D1:Dc A1}{D2:Dc A2}{D3:Dc A3}{D4:Dc A4}{D5:Dc A5}{g:A0->A1->A2->A3->A4->A5->Bool×List AV}{E:Nat->A0->A1->A2->A3->A4->A5->OA}{f:FuncId}(law:∀a0 a1 a2 a3 a4 a5,(g a0 a1 a2 a3 a4 a5).1=true->∃N,E N a0 a1 a2 a3 a4 a5=some (g a0 a1 a2 a3 a4 a5).2)(nf:∀N a0 a1 a2 a3 a4 a5,evalFn (cQ c m p t) tms N 12 f [D0.e a0,D1.e a1,D2.e a2,D3.e a3,D4.e a4,D5.e a5]=E N a0 a1 a2 a3 a4 a5:=by intros;kernel_rfl)(hf:zd1 f=true:=by kernel_rfl):uV f (rF6 D0 D1 D2 D3 D4 D5 g):=hF6 o1 o2 o3 o4 tms (fun a0 a1 a2 a3 a4 a5 _=>law a0 a1 a2 a3 a4 a5) nf hf
theorem zfL {avs:List AV}(h:∃(w:World) (xs:Nat->Value) (K:Nat->zI),∀(j:Nat) (c:CV),(zk avs)[j]?=some c->Rep false w (xs j) c (K j)):zbu big avs:=by
 obtain ⟨w,xs,K,h⟩:=h;intro c hc;obtain ⟨j,hj⟩:=qR.1 hc;exact CVB.of_rep (h j c hj)
theorem cT {α:Type}(x y:α):(cond true x y)=x:=by simp
theorem cF {α:Type}(x y:α):(cond false x y)=y:=by simp
theorem zm1:big=140737488355328:=rfl
theorem zng {x:Int}(h1 : -9223372036854775808<=x)(h2:x<=9223372036854775807):IntKind.i64.wrap x=x:=by
 simp only[IntKind.wrap,IntKind.signed,IntKind.bits];simp;omega
theorem zgK {x y:Int}(h1 : -9223372036854775808<=x+y)(h2:x+y<=9223372036854775807):zB .i64 x y=x+y:=zng h1 h2
theorem znh {x y:Int}(h1 : -9223372036854775808<=x-y)(h2:x-y<=9223372036854775807):wsub .i64 x y=x-y:=zng h1 h2
theorem zQ {i n:Nat}(h:i<n)(hn:n<=big):zB .i64 (i:Int) 1=((i+1:Nat):Int):=by
 rw[zm1]at hn;rw[zgK (by omega) (by omega)]
 omega
section
variable {α:Type}
theorem zbp {l:List α}{i:Nat}(h:i<l.length):ilt (i:Int) (ln l)=true:=by
 unfold ilt ln;exact qN (by omega)
theorem zbg {l:List α}:ilt ((l.length:Nat):Int) (ln l)=false:=by
 unfold ilt ln;exact qK (by omega)
theorem zY {l:List α}{i:Nat}(h:i<l.length):inb (i:Int) (ln l)=true:=by
 unfold inb ln;exact qN (by omega)
theorem zbc {l:List α}{i:Nat}(h:i<l.length)(d:α):ix l (i:Int) d=l[i]:=by
 unfold ix;simp[List.getD,qB h]
theorem zeM {l:List α}(h:l.length<=2147483648):few (ln l)=true:=by
 unfold few ln;exact qN (by omega)
theorem zx2 (x:Int):ieq x x=true:=by simp[ieq]
end
theorem zjr {σ ρ:Type}(n:Nat)(F:(σ->Option ρ)->σ->Option ρ)(s:σ):iter (n+1) F s=F (iter n F) s:=rfl
def goL {α τ ρ:Type}(body:Nat->α->τ->(τ->Option ρ)->Option ρ)(K:τ->Option ρ):List α->Nat->τ->Option ρ
 | [],_,t=>K t
 | x :: l,i,t=>body i x t (goL body K l (i+1))
theorem zW {α τ ρ σ:Type}(l:List α)(st:Nat->τ->σ)(F:(σ->Option ρ)->σ->Option ρ)(body:Nat->α->τ->(τ->Option ρ)->Option ρ)(K:τ->Option ρ)(hstep:∀(i:Nat) (hi:i<l.length) (t:τ) (rec:σ->Option ρ),F rec (st i t)=body i l[i] t (fun t'=>rec (st (i+1) t')))(hend:∀(t:τ) (rec:σ->Option ρ),F rec (st l.length t)=K t) :
 ∀(N:Nat) (t:τ),l.length<N->iter N F (st 0 t)=goL body K l 0 t:=by
 have key:∀(m i N:Nat) (t:τ),l.length-i=m->i<=l.length->m<N->iter N F (st i t)=goL body K (l.drop i) i t:=by
  intro m
  induction m with
  | zero =>
   intro i N t hm hi hN;have:i=l.length:=by omega
   subst this;obtain ⟨n,rfl⟩:∃n,N=n+1:=⟨N-1,by omega⟩
   rw[zjr,hend,List.drop_length];rfl
  | succ m ih =>
   intro i N t hm hi hN;obtain ⟨n,rfl⟩:∃n,N=n+1:=⟨N-1,by omega⟩
   have hlt:i<l.length:=by omega
   rw[zjr,hstep i hlt,kF hlt];simp only[goL]
   congr 1
   funext t'
   exact ih (i+1) n t' (by omega) (by omega) (by omega)
 intro N t hN;have:=key l.length 0 N t (by omega) (j9 _) hN
 simpa using this
def goN {τ ρ:Type}(body:Nat->τ->(τ->Option ρ)->Option ρ)(K:τ->Option ρ):Nat->Nat->τ->Option ρ
 | 0,_,t=>K t
 | n+1,i,t=>body i t (goN body K n (i+1))
theorem znI {τ ρ σ:Type}(n:Nat)(st:Nat->τ->σ)(F:(σ->Option ρ)->σ->Option ρ)(body:Nat->τ->(τ->Option ρ)->Option ρ)(K:τ->Option ρ)(hstep:∀(i:Nat) (hi:i<n) (t:τ) (rec:σ->Option ρ),F rec (st i t)=body i t (fun t'=>rec (st (i+1) t')))(hend:∀(t:τ) (rec:σ->Option ρ),F rec (st n t)=K t) :
 ∀(N:Nat) (t:τ),n<N->iter N F (st 0 t)=goN body K n 0 t:=by
 have key:∀(m i N:Nat) (t:τ),n-i=m->i<=n->m<N->iter N F (st i t)=goN body K (n-i) i t:=by
  intro m
  induction m with
  | zero =>
   intro i N t hm hi hN;have:i=n:=by omega
   subst this;obtain ⟨k,rfl⟩:∃k,N=k+1:=⟨N-1,by omega⟩
   rw[zjr,hend,uI];rfl
  | succ m ih =>
   intro i N t hm hi hN;obtain ⟨k,rfl⟩:∃k,N=k+1:=⟨N-1,by omega⟩
   have hlt:i<n:=by omega
   have e:n-i=(n-(i+1))+1:=by omega
   rw[zjr,hstep i hlt,e];simp only[goN]
   congr 1
   funext t'
   exact ih (i+1) k t' (by omega) (by omega) (by omega)
 intro N t hN;have:=key n 0 N t (by omega) (j9 _) hN
 simpa using this
def sm:Nat:=1048576
theorem zci {n:Nat}(h:n<=sm):n<=big/\n<=2147483648:=by
 unfold sm at h;rw[zm1];omega
def hasB (i n:Int):Bool:=decide (0<=i/\i<n)
theorem has_eq (i n:Int):(ige i 0&&ilt i n)=hasB i n:=by
 unfold ige ilt hasB
 by_cases h1:0<=i<;>by_cases h2:i<n<;>simp [h1,h2]
theorem zA {i n:Int}(h:hasB i n=true):inb i n=true:=h
theorem zcO {i:Int}{n:Nat}(h:hasB i n=true):∃k:Nat,i=k/\k<n:=by
 have:0<=i/\i<n:=qJ h;exact ⟨i.toNat,by omega,by omega⟩
theorem zb7 {α:Type}{l:List α}{i:Int}(h:hasB i (ln l)=true)(d:α):ix l i d∈l:=by
 obtain ⟨k,rfl,hk⟩:=zcO (n:=l.length) h;rw[zbc hk];exact jS hk
theorem zij {α:Type}(l:List α):ap [] l=l:=rfl
theorem zgV {α ρ:Type}(c:α->Bool)(f:α->α)(K:List α->Option ρ):∀(l:List α) (i:Nat) (acc:List α),(∀x∈l,c x=true/\f x=x)->acc.length+l.length<=2147483648 ->
 goL (fun _ x acc k=>bif c x then (cond (few (ln (ap acc [f x]))) (k (ap acc [f x])) none) else none) K l i acc=K (acc++l)
 | [],i,acc,_,_=>by simp[goL]
 | x :: l,i,acc,h,hn=>by
  obtain ⟨h1,h2⟩:=h x (by simp)
  simp only[qY]at hn;simp only[goL,h1,h2,cT];rw[zeM (by simp[ap];omega),cT,zgV c f K l (i+1) _ (fun y hy=>h y (by simp[hy])) (by simp[ap];omega)]
  simp[ap]
def zcQ (h:Host):Prop:=∀c∈zbi h,CVB sm c
theorem zcQ.mem {h:Host}(hs:zcQ h):CVB sm (.s (.sl .int) h.Memory):=hs _ (by simp[zbi])
theorem zcQ.mons {h:Host}(hs:zcQ h):CVB sm (.s .mon h.Mons):=hs _ (by simp[zbi])
theorem zjD {t:Ty}{l:List t.den}(h:CVB sm (.s t l)):few (ln l)=true:=zeM (zci h.len).2
def znl (p:Nat->Bool):Nat->Nat->Bool
 | 0,_=>true
 | n+1,i=>p i&&znl p n (i+1)
theorem zvd {ρ:Type}(p:Nat->Bool)(r:Option ρ)(K:Unit->Option ρ):∀(n i:Nat),goN (fun i (_:Unit) k=>bif p i then k () else r) K n i ()=bif znl p n i then K () else r
 | 0,_=>rfl
 | n+1,i=>by
  simp only[goN,znl];cases p i
  .rfl
  .simp only [cT,uE];exact zvd p r K n (i+1)
theorem zpQ {α τ ρ:Type}(b:Nat->τ->(τ->Option ρ)->Option ρ)(K:τ->Option ρ):∀(l:List α) (i:Nat) (t:τ),goL (fun i _ t k=>b i t k) K l i t=goN b K l.length i t
 | [],_,_=>rfl
 | _ :: l,i,t=>by
  have ih:goL (fun i _ t k=>b i t k) K l (i+1)=goN b K l.length (i+1):=funext fun t=>zpQ b K l (i+1) t;simp only[goL,qY,goN,ih]
theorem zeG {α ρ:Type}(p:α->Bool)(r:Option ρ)(K:Unit->Option ρ):∀(l:List α) (i:Nat),goL (fun _ x (_:Unit) k=>bif p x then k () else r) K l i ()=bif l.all p then K () else r
 | [],_=>rfl
 | x :: l,i=>by
  simp only[goL,kQ];cases p x
  .rfl
  .simp only [cT,uE];exact zeG p r K l (i+1)
theorem zrn {n:Nat}(hn:n<=big)(i:Int):(ige i 0&&ile i (wsub .i64 (n:Int) 1))=hasB i n:=by
 rw[zm1]at hn;rw[znh (by omega) (by omega)]
 unfold ige ile hasB
 by_cases h1:0<=i<;>by_cases h2:i<n
 .rw [qN (p:=i≥0) (by omega),qN (p:=i<=(n:Int)-1) (by omega),qN (p:=0<=i/\i<(n:Int)) ⟨h1,h2⟩];rfl
 .rw [qK (p:=i<=(n:Int)-1) (by omega),qK (p:=0<=i/\i<(n:Int)) (by omega)];simp
 .rw [qK (p:=i≥0) (by omega),qK (p:=0<=i/\i<(n:Int)) (by omega)];simp
 .rw [qK (p:=i≥0) (by omega),qK (p:=0<=i/\i<(n:Int)) (by omega)];simp
theorem zCE {σ ρ τ:Type}(n:Nat)(st:Nat->τ->σ)(F:(σ->Option ρ)->σ->Option ρ)(I:Nat->τ->Prop)(res:Nat->τ->Option ρ)(hstep:∀(i:Nat) (t:τ) (rec:σ->Option ρ),i<n->I i t->(∀t',I (i+1) t'->rec (st (i+1) t')=res (i+1) t')->F rec (st i t)=res i t)(hend:∀(t:τ) (rec:σ->Option ρ),I n t->F rec (st n t)=res n t):∀(N i:Nat) (t:τ),I i t->i<=n->n-i<N->iter N F (st i t)=res i t:=by
 have key:∀(m N i:Nat) (t:τ),n-i=m->I i t->i<=n->m<N->iter N F (st i t)=res i t:=by
  intro m
  induction m with
  | zero =>
   intro N i t hm hI hi hN;obtain ⟨k,rfl⟩:∃k,N=k+1:=⟨N-1,by omega⟩
   have:i=n:=by omega
   subst this;rw[zjr];exact hend t _ hI
  | succ m ih =>
   intro N i t hm hI hi hN;obtain ⟨k,rfl⟩:∃k,N=k+1:=⟨N-1,by omega⟩
   rw[zjr];exact hstep i t _ (by omega) hI (fun t' hI'=>ih k (i+1) t' (by omega) hI' (by omega) (by omega))
 intro N i t hI hi hN;exact key (n-i) N i t rfl hI hi hN
section
variable {α:Type}
theorem zKA {l:List α}{i:Nat}(h:i<l.length)(d:α):up l (i:Int) (ix l (i:Int) d)=l:=by
 rw[zbc h];unfold up;apply kT;intro k;rw[jA];have e:(i:Int).toNat=i:=by omega
 rw[e]
 by_cases hk:i=k
 .subst hk;simp[h]
 .simp [hk]
theorem zdp {l:List α}{i:Nat}(h:i<l.length)(x d:α):ix (up l (i:Int) x) (i:Int) d=x:=by
 unfold ix up;have e:(i:Int).toNat=i:=by omega
 rw[e];simp[List.getD,h]
theorem zrP (l:List α)(i:Int)(x y:α):up (up l i x) i y=up l i y:=by
 unfold up;simp
theorem zSf {l:List α}{i k:Nat}(h:i<k)(x:α):(up l (i:Int) x)[k]?=l[k]?:=by
 unfold up;have e:(i:Int).toNat=i:=by omega
 rw[e,jA,if_neg (by omega)]
end
def zRZ:zK:=ziX
theorem zQ3:zx zRZ:=zdG
def zR0:zK:=zRZ
theorem zQ4:zx zR0:=zQ3
def zR1:zK:=zR0
theorem zQ5:zx zR1:=zQ4
def zR2:zK:=zR1
theorem zQ6:zx zR2:=zQ5
def zR3:zK:=zR2
theorem zQ7:zx zR3:=zQ6
def zR4:zK:=zR3
theorem zQ8:zx zR4:=zQ7
def zR5:zK:=zR4
theorem zQ9:zx zR5:=zQ8
def zPw:zK:=zR5
theorem zOa:zx zPw:=zQ9
def zPx:zK:=zPw
theorem zOb:zx zPx:=zOa
def zPy:zK:=zPx
theorem zOc:zx zPy:=zOb
def zPz:zK:=zPy
theorem zOd:zx zPz:=zOc
def zPA:zK:=zPz
theorem zOe:zx zPA:=zOd
def zPB:zK:=zPA
theorem zOf:zx zPB:=zOe
def zPC:zK:=zPB
theorem zOg:zx zPC:=zOf
def zPD:zK:=zPC
theorem zOh:zx zPD:=zOg
def zPE:zK:=zPD
theorem zOi:zx zPE:=zOh
def zPF:zK:=zPE
theorem zOj:zx zPF:=zOi
def zPG:zK:=zPF
theorem zOk:zx zPG:=zOj
def zPH:zK:=zPG
theorem zOl:zx zPH:=zOk
def zPI:zK:=zPH
theorem zOm:zx zPI:=zOl
def zSb:zK:=zPI
theorem zm2:∀f run,zf zSb f=some run->Holds Tryz.prog f run:=zOm
def zT (_ _ _:Int):Bool:=true
def zZ (x a b:Int):Bool:=ige x a&&ile x b
def zwR:Run:=rF3 dI dI dI fun b c d=>(zT b c d,[aB (zZ b c d)])
def zDL (N:Nat)(a0 a1 a2:Int):OA:=
 (cond (ige a0 a1) (some [(aB (ile a0 a2))]) oF)
theorem zJr (a0 a1 a2:Int)(hc:zT a0 a1 a2=true):∃N,zDL N a0 a1 a2=some [aB (zZ a0 a1 a2)]:=by
 refine ⟨0,?_⟩;unfold zDL zZ;cases ige a0 a1<;>rfl
theorem zEG:uV 93 zwR:=kF3 zm2 zbd zl zn (zo []) zJr
def zby (_ _:Int):Bool:=true
abbrev zbS (i n:Int):Bool:=hasB i n
def zEg:Run:=rF2 dI dI fun b c=>(zby b c,[aB (zbS b c)])
def zJX (N:Nat)(a0 a1:Int):OA:=
 (cond (ige a0 0) (some [(aB (ilt a0 a1))]) oF)
theorem zNh (a0 a1:Int)(hc:zby a0 a1=true):∃N,zJX N a0 a1=some [aB (zbS a0 a1)]:=by
 refine ⟨0,?_⟩;unfold zJX zbS;rw[<- has_eq];cases ige a0 0<;>rfl
theorem zI9:uV 87 zEg:=kF2 zm2 zbd zl zn (zo []) zNh
theorem zD3 {n:Nat}(hn:n<=big)(i:Int):zZ i 0 (wsub .i64 (n:Int) 1)=hasB i n:=by
 rw[zm1]at hn;rw[znh (by omega) (by omega)]
 unfold zZ ige ile hasB
 by_cases h1:0<=i<;>by_cases h2:i<n
 .rw [qN (p:=i≥0) (by omega),qN (p:=i<=(n:Int)-1) (by omega),qN (p:=0<=i/\i<(n:Int)) ⟨h1,h2⟩];rfl
 .rw [qK (p:=i<=(n:Int)-1) (by omega),qK (p:=0<=i/\i<(n:Int)) (by omega)];simp
 .rw [qK (p:=i≥0) (by omega),qK (p:=0<=i/\i<(n:Int)) (by omega)];simp
 .rw [qK (p:=i≥0) (by omega),qK (p:=0<=i/\i<(n:Int)) (by omega)];simp
def zgI (l:List (List Int)):Bool:=pc (CVB sm (.s (.sl .int) l))
abbrev zfr (l:List (List Int)):List (List Int):=l
def zsw:Run:=rF1 (dS (.sl .int)) fun b=>(zgI b,[aS (.sl .int) (zfr b)])
def zwh (N:Nat)(a0:lM):OA:=
 (iter (σ:=(Int×(lM×(lM×Unit)))) N (fun r2 s3=>let y0:=(ap [] (ix s3.2.1 s3.1 [])); (cond (ilt s3.1 (ln s3.2.1)) (oN (inb s3.1 (ln s3.2.1)) (oN (few (ln y0)) (oN (few (ln (ap s3.2.2.1 [y0]))) (r2 ((zB .i64 s3.1 1),(s3.2.1,((ap s3.2.2.1 [y0]),()))))))) (some [(aS (.sl .int) s3.2.2.1)]))) (0,(a0,([],()))))
def zFp:FuncId->Nat->Option Tmpl:=zo [(248,0,{ n:=22,tm:=[(0,.sl 0 []),(3,.sl 1 []),(4,ti)],lo:=[],ro:=[(0,(.sl .int),false),(1,(.sl .int),true)] })]
theorem zE7 (a0:List (List Int))(hc:zgI a0=true):∃N,zwh N a0=some [aS (.sl .int) (zfr a0)]:=by
 have hs:=zC.1 hc;have hl:=zci hs.len;refine ⟨a0.length+1,?_⟩;unfold zwh oN
 conv=>zeta
 refine (zW a0 (fun i acc=>((i:Int),(a0,(acc,())))) _ (fun _ x acc k=>bif few (ln x) then (cond (few (ln (ap acc [x]))) (k (ap acc [x])) none) else none) (fun acc=>some [AV.one (.s (.sl .int) acc)])
  (fun i hi t rec=>?_) (fun t rec=>?_) _ [] (uS _)).trans ((zgV (fun x=>few (ln x)) (fun x=>x) _ a0 0 [] (fun x hx=>⟨zeM (zci (hs.inv.2 x hx _ (qE.2 rfl)).len).2,rfl⟩) (by simpa using hl.2)))
 .simp only [zbp hi,zY hi,zbc hi,cT,zQ hi hl.1,zij]
 .simp only [zbg,cF]
theorem zz5:uV 248 zsw:=kF1 zm2 zbd zl zn zFp zE7
abbrev zeC (k:Kept):Bool:=pc (∀c∈Ty.cells .kept k,CVB sm c)
abbrev zcI (k:Kept):Kept:=k
def zsx:Run:=rF1 (dT .kept) fun b=>(zeC b,[aT .kept (zcI b)])
def zwi (N:Nat)(a0:Kept):OA:=
 (oN (few (ln (ap [] a0.Known))) (oN (few (ln (ap [] a0.Slots))) (some [(.agg [(.s .bool (ap [] a0.Known)),(.s .slot (ap [] a0.Slots))])])))
theorem zE8 (a0:Kept)(hc:zeC a0=true):∃N,zwi N a0=some [aT .kept (zcI a0)]:=by
 have h:=zC.1 hc;have h1:=zjD (h (.s .bool a0.Known) (by simp[Ty.cells]))
 have h2:=zjD (h (.s .slot a0.Slots) (by simp[Ty.cells]))
 refine ⟨0,?_⟩;simp only[zwi,zij,h1,h2,cT];rfl
theorem zz6:uV 293 zsx:=kF1 zm2 zbd zl zn (zo []) zE8
def zfF (g:Guest):Bool:=pc (∀c∈Ty.cells .guest g,CVB sm c)
abbrev zft (g:Guest):Guest:=g
def zsy:Run:=rF1 (dT .guest) fun b=>(zfF b,[aT .guest (zft b)])
def zwj (N:Nat)(a0:Guest):OA:=
 (oN (few (ln (ap [] a0.Prog))) (oN (few (ln (ap [] a0.Written))) (oN (few (ln (ap [] a0.Live))) (oN (few (ln (ap [] a0.Seen))) (some [(.agg [(.s .ins (ap [] a0.Prog)),(.i .i64 a0.A),(.i .i64 a0.Pc),(.s .slot (ap [] a0.Written)),(.s .slot (ap [] a0.Live)),(.i .i64 a0.Ctl.Traps),(.i .i64 a0.Ctl.Post),(.b a0.Ctl.Open),(.i .i64 a0.Pending),(.i .i64 a0.Exit.Kind),(.i .i64 a0.Exit.Page),(.b a0.Exit.Write),(.i .i64 a0.Exit.N),(.b a0.Halted),(.s .int (ap [] a0.Seen))])])))))
theorem zFa (a0:Guest)(hc:zfF a0=true):∃N,zwj N a0=some [aT .guest (zft a0)]:=by
 have h:=zC.1 hc;have h1:=zjD (h (.s .ins a0.Prog) (by simp[Ty.cells]))
 have h2:=zjD (h (.s .slot a0.Written) (by simp[Ty.cells]))
 have h3:=zjD (h (.s .slot a0.Live) (by simp[Ty.cells]))
 have h4:=zjD (h (.s .int a0.Seen) (by simp[Ty.cells]))
 refine ⟨0,?_⟩;simp only[zwj,zij,h1,h2,h3,h4,cT];rfl
theorem zz8:uV 175 zsy:=kF1 zm2 zbd zl zn (zo []) zFa
def zPJ:zK:=[(93,zwR),(87,zEg),(248,zsw),(293,zsx),(175,zsy)]++zSb
theorem zF5:zx zPJ:=zh zEG (zh zI9 (zh zz5 (zh zz6 (zh zz8 zm2))))
def zfc (l:List Guest):Bool:=pc (CVB sm (.s .guest l))
abbrev zfG (l:List Guest):List Guest:=l
def zoQ:Run:=rF1 (dS .guest) fun b=>(zfc b,[aS .guest (zfG b)])
def zr8 (N:Nat)(a0:lG):OA:=
 (iter (σ:=(Int×(lG×(lG×Unit)))) N (fun r2 s3=>let y0:=(ix s3.2.1 s3.1 zG); (cond (ilt s3.1 (ln s3.2.1)) (oN (inb s3.1 (ln s3.2.1)) (oN (zfF y0) (oN (few (ln (ap s3.2.2.1 [(zft y0)]))) (r2 ((zB .i64 s3.1 1),(s3.2.1,((ap s3.2.2.1 [(zft y0)]),()))))))) (some [(aS .guest s3.2.2.1)]))) (0,(a0,([],()))))
def zBk:FuncId->Nat->Option Tmpl:=zo [(292,0,{ n:=21,tm:=[(0,.sl 0 []),(3,.sl 1 []),(4,ti)],lo:=[],ro:=[(0,.guest,false),(1,.guest,true)] })]
theorem zAz (a0:List Guest)(hc:zfc a0=true):∃N,zr8 N a0=some [aS .guest (zfG a0)]:=by
 have hs:=zC.1 hc;have hl:=zci hs.len;refine ⟨a0.length+1,?_⟩;unfold zr8 oN
 conv=>zeta
 refine (zW a0 (fun i acc=>((i:Int),(a0,(acc,())))) _ (fun _ x acc k=>bif zfF x then (cond (few (ln (ap acc [zft x]))) (k (ap acc [zft x])) none) else none) (fun acc=>some [AV.one (.s .guest acc)])
  (fun i hi t rec=>?_) (fun t rec=>?_) _ [] (uS _)).trans ((zgV zfF zft _ a0 0 [] (fun x hx=>⟨zbF (hs.inv.2 x hx),rfl⟩) (by simpa using hl.2)))
 .simp only [zbp hi,zY hi,zbc hi,cT,zQ hi hl.1]
 .simp only [zbg,cF]
theorem zvO:uV 292 zoQ:=kF1 zF5 zbd zl zn zBk zAz
def zPK:zK:=[(292,zoQ)]++zPJ
theorem zF6:zx zPK:=zh zvO zF5
abbrev zmU (m:Mon):Bool:=pc (∀c∈Ty.cells .mon m,CVB sm c)
abbrev zyo (m:Mon):Mon:=m
def zuF:Run:=rF1 (dT .mon) fun b=>(zmU b,[aT .mon (zyo b)])
def zzi (N:Nat)(a0:Mon):OA:=
 (oN (few (ln (ap [] a0.Outer))) (oN (zgI a0.Out) (oN (few (ln (ap [] a0.Dirty))) (oN (zfc a0.Guests) (oN (few (ln (ap [] a0.Outs))) (iter (σ:=(Int×(Int×(Int×(Int×(Int×(Int×(Int×(lK×(lS×(lM×(lB×(lG×((List Int)×(lK×(lS×(lM×(lB×(lG×((List Int)×(lK×Unit))))))))))))))))))))) N (fun r2 s3=>let y2:=s3.2.2.2.2.2.2.2.2.2.2.2.2.1;let y0:=s3.2.2.2.2.2.2.2.2.2.2.2.2.2.1;let y1:=(ap s3.2.2.2.2.2.2.2.1 [(zcI (ix y0 s3.1 zdw))]); (cond (ilt s3.1 (ln y0)) (oN (inb s3.1 (ln y0)) (oN (zeC (ix y0 s3.1 zdw)) (oN (few (ln y1)) (r2 ((zB .i64 s3.1 1),(s3.2.1,(s3.2.2.1,(s3.2.2.2.1,(s3.2.2.2.2.1,(s3.2.2.2.2.2.1,(s3.2.2.2.2.2.2.1,(y1,(s3.2.2.2.2.2.2.2.2.1,(s3.2.2.2.2.2.2.2.2.2.1,(s3.2.2.2.2.2.2.2.2.2.2.1,(s3.2.2.2.2.2.2.2.2.2.2.2.1,(y2,(y0,(s3.2.2.2.2.2.2.2.2.2.2.2.2.2.2.1,(s3.2.2.2.2.2.2.2.2.2.2.2.2.2.2.2.1,(s3.2.2.2.2.2.2.2.2.2.2.2.2.2.2.2.2.1,(s3.2.2.2.2.2.2.2.2.2.2.2.2.2.2.2.2.2.1,(s3.2.2.2.2.2.2.2.2.2.2.2.2.2.2.2.2.2.2.1,(s3.2.2.2.2.2.2.2.2.2.2.2.2.2.2.2.2.2.2.2.1,())))))))))))))))))))))))) (some [(.agg [(.s .slot s3.2.2.2.2.2.2.2.2.1),(.s (.sl .int) s3.2.2.2.2.2.2.2.2.2.1),(.s .bool s3.2.2.2.2.2.2.2.2.2.2.1),(.s .guest s3.2.2.2.2.2.2.2.2.2.2.2.1),(.s .int y2),(.i .i64 s3.2.1),(.i .i64 s3.2.2.1),(.s .kept s3.2.2.2.2.2.2.2.1),(.i .i64 s3.2.2.2.1)])]))) (0,(a0.Pending,(a0.Traps,(a0.Own,(0,(0,(0,([],((ap [] a0.Outer),((zfr a0.Out),((ap [] a0.Dirty),((zfG a0.Guests),((ap [] a0.Outs),(a0.Tables,([],([],([],([],([],([],()))))))))))))))))))))))))))
def zIH:FuncId->Nat->Option Tmpl:=zo [(176,0,{ n:=48,tm:=[(1,.lp 0 0),(2,.lp 1 0),(3,.sl 0 []),(4,ti)],lo:=[(0,[.sl 1 [],.sl 2 [],.sl 3 [],.sl 4 [],.sl 5 [],ti,ti,.sl 6 [],ti]),(1,[.sl 7 [],.sl 8 [],.sl 9 [],.sl 10 [],.sl 11 [],ti,ti,.sl 12 [],ti])],ro:=[(0,.kept,true),(1,.slot,true),(2,(.sl .int),true),(3,.bool,true),(4,.guest,true),(5,.int,true),(6,.kept,false),(7,.slot,true),(8,(.sl .int),true),(9,.bool,true),(10,.guest,true),(11,.int,true),(12,.kept,true)] })]
theorem zHx (a0:Mon)(hc:zmU a0=true):∃N,zzi N a0=some [aT .mon (zyo a0)]:=by
 have h:=zC.1 hc;have h1:=zjD (h (.s .slot a0.Outer) (by simp[Ty.cells]))
 have h2:zgI a0.Out=true:=zbF (h (.s (.sl .int) a0.Out) (by simp[Ty.cells]))
 have h3:=zjD (h (.s .bool a0.Dirty) (by simp[Ty.cells]))
 have h4:zfc a0.Guests=true:=zbF (h (.s .guest a0.Guests) (by simp[Ty.cells]))
 have h5:=zjD (h (.s .int a0.Outs) (by simp[Ty.cells]))
 have h6:CVB sm (.s .kept a0.Tables):=h (.s .kept a0.Tables) (by simp[Ty.cells])
 have hl:=zci h6.len;refine ⟨a0.Tables.length+1,?_⟩;unfold zzi oN
 conv=>zeta
 simp only[zij,h1,h2,h3,h4,h5,cT];refine (zW a0.Tables (fun i acc=>((i:Int),a0.Pending,a0.Traps,a0.Own,0,0,0,acc,a0.Outer,zfr a0.Out,a0.Dirty,zfG a0.Guests,a0.Outs,a0.Tables,[],[],[],[],[],[],())) _
  (fun _ x acc k=>bif zeC x then (cond (few (ln (ap acc [zcI x]))) (k (ap acc [zcI x])) none) else none) (fun acc=>some [AV.agg (Ty.cells .mon ⟨a0.Outer,a0.Out,a0.Dirty,a0.Guests,a0.Outs,a0.Pending,a0.Traps,acc,a0.Own⟩)])
  (fun i hi t rec=>?_) (fun t rec=>?_) _ [] (uS _)).trans ((zgV zeC zcI _ a0.Tables 0 [] (fun x hx=>⟨zbF (h6.inv.2 x hx),rfl⟩) (by simpa using hl.2)))
 .simp only [zbp hi,zY hi,zbc hi,cT,zQ hi hl.1]
 .simp only [zbg,cF];rfl
theorem zCx:uV 176 zuF:=kF1 zF6 zbd zl zn zIH zHx
def zPL:zK:=[(176,zuF)]++zPK
theorem zF7:zx zPL:=zh zCx zF6
def zuJ (h:Host)(_:Int):Bool:=pc (zcQ h)
def zdg (h:Host)(m:Int):Mon:=bif hasB m (ln h.Mons) then ix h.Mons m zi else Ty.dflt .mon
def zlG (h:Host)(m:Int):Bool:=hasB m (ln h.Mons)
def zpm:Run:=rF2 dH dI fun b c=>(zuJ b c,[aT .mon (zdg b c),aB (zlG b c)])
def zDI (N:Nat)(a0:Host)(a1:Int):OA:=
 let y1:=(ix a0.Mons a1 zi);let y0:=(zyo y1); (oN (zT a1 0 (wsub .i64 (ln a0.Mons) 1)) (cond (nB (zZ a1 0 (wsub .i64 (ln a0.Mons) 1))) (some [(.agg [(.s .slot []),(.s (.sl .int) []),(.s .bool []),(.s .guest []),(.s .int []),(.i .i64 0),(.i .i64 0),(.s .kept []),(.i .i64 0)]),(aB false)]) (oN (inb a1 (ln a0.Mons)) (oN (zmU y1) (some [(.agg [(.s .slot y0.Outer),(.s (.sl .int) y0.Out),(.s .bool y0.Dirty),(.s .guest y0.Guests),(.s .int y0.Outs),(.i .i64 y0.Pending),(.i .i64 y0.Traps),(.s .kept y0.Tables),(.i .i64 y0.Own)]),(aB true)])))))
theorem zJo (a0:Host)(a1:Int)(hc:zuJ a0 a1=true):∃N,zDI N a0 a1=some [aT .mon (zdg a0 a1),aB (zlG a0 a1)]:=by
 have h:=(zC.1 hc).mons;refine ⟨0,?_⟩;unfold zDI zdg zlG oN nB
 conv=>zeta
 have e:zZ a1 0 (wsub .i64 (ln a0.Mons) 1)=hasB a1 (ln a0.Mons):=zD3 (zci h.len).1 a1;rw[e];cases hh:hasB a1 (ln a0.Mons)
 .simp [zT,Ty.cells,Ty.dflt]
 .have h2:zmU (ix a0.Mons a1 zi)=true:=zbF (h.inv.2 _ (zb7 hh _));simp only[zT,cT,Bool.not_true,cF,zA hh,h2];rfl
theorem zsc:uV 71 zpm:=kF2 zF7 zbd zl zn (zo []) zJo
def zPM:zK:=[(71,zpm)]++zPL
theorem zOn:zx zPM:=zh zsc zF7
def zPN:zK:=zPM
theorem zOo:zx zPN:=zOn
def zSc:zK:=zPN
theorem zpL:∀f run,zf zSc f=some run->Holds Tryz.prog f run:=zOo
end
end Go.Proofs.YtnnmbkjhakbicaaGreat.E
