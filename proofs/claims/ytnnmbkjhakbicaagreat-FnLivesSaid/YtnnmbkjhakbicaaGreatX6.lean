/- What is proved here: a part of the proof that the statement of this claim holds (several texts of wip/, laid together). -/
import Derived.Test.YtnnmbkjhakbicaaGreatX5
namespace Go.Proofs.YtnnmbkjhakbicaaGreat.E
open Go
set_option linter.constructorNameAsVariable false
set_option linter.unusedVariables false
set_option maxRecDepth 100000
set_option linter.unusedSimpArgs false
set_option linter.unusedSectionVars false
noncomputable section
def gOf (h:Host)(m g:Int):Guest:=ix (ix h.Mons m mZ).Guests g gZ
def zhH (h:Host)(m g:Int)(x:Guest):Host:={h with Mons:=up h.Mons m {ix h.Mons m mZ with Guests:=up (ix h.Mons m mZ).Guests g x}}
def zkv (h:Host)(m g:Int)(x:Guest)(w:Bool):Host×Int×Bool:=lookOf h h.Buffer m g (zcj<|address x) (zgM w) false
def zks (L:Host×Int×Bool)(m g:Int)(x:Guest)(w:Bool):Host :=
 bif L.2.2 then (cond w (zhH {L.1 with Memory:=zfs L.1.Memory L.2.1 (zgO<|address x) x.A} m g<|zb3 x)<|zhH L.1 m g<|loaded x<|cellAt L.1.Memory L.2.1<|zgO<|address x)
 else zhH L.1 m g (stopped x<|zB9 (zcj<|address x) w)
def owned (h:Host)(m:Int):Host:=bif ilt (ix h.Mons m mZ).Own 1000000000 then {h with Mons:=up h.Mons m {ix h.Mons m mZ with Own:=zG .i64 (ix h.Mons m mZ).Own 1}} else h
def zmO (h:Host)(m n:Int):Host:=bif ilt (ln (ix h.Mons m mZ).Outs) 40 then {h with Mons:=up h.Mons m {ix h.Mons m mZ with Outs:=ap (ix h.Mons m mZ).Outs [n]}} else h
def zhx (h:Host)(m:Int)(x:Guest)(w:Int):Host:=bif (cond (ine w 6) (ieq (zo8 (ix h.Mons m mZ).Traps x.Ctl.Traps<|zgw w) 2) false) then owned h m else h
def zlI (h:Host)(m:Int)(x:Guest)(w:Int):Host:=bif (cond (zjx x.Ctl.Traps w) (ieq w 5) false) then zmO h m (zeO x.Prog x.Pc).X else h
def zmu (h:Host)(m g:Int)(x:Guest)(w:Int):Host:=zhH (zlI (zhx h m x w) m x w) m g (zhy x x.Ctl.Traps w)
def zMh (h:Host)(m g:Int)(x:Guest)(w:Int):Host×Bool :=
 bif ieq w 0 then (h,false) else (bif ieq w 1 then (zhH h m g<|interrupted x,true) else (bif ieq w 2 then (zhH h m g<|plainly x,true) else
  (cond (cond (ieq w 3) true<|ieq w 4) (zks (zkv h m g x<|ieq w 4) m g x<|ieq w 4,true) (zmu h m g x w,true))))
def zcu (h:Host)(m g:Int):Host×Bool:=bif zcn h m g then zMh h m g (gOf h m g) (zM<|gOf h m g) else (h,false)
def zeJ (x:Host×Bool):List AV:=[.agg<|zbb x.1,.one<|.b x.2]
theorem zlW {h:Host}{m g:Int}(b:SmH h)(a:hasB m (ln h.Mons)=true)(hg:hasB g (ln (ix h.Mons m mZ).Guests)=true):SmG (gOf h m g):=(b.2.1.2 _<|zbz a _).2.2.2.1.2 _ (zbz hg _)
theorem zZ5 {h:Host}{m g:Int}{x:Guest}(c:Shape h)(d:hasB m (ln h.Mons)=true)(e:SmG x):Shape (zhH h m g x):=by obtain⟨a,b⟩:=zcr c d;exact zkp c ⟨a.1,a.2.1,a.2.2.1,zDJ a.2.2.2.1 e,a.2.2.2.2⟩ ⟨b.1,b.2.1,b.2.2.1,by simpa using b.2.2.2⟩
theorem z8F (o i t:Int):ieq (zo8 o i t) 1=zeo i t:=by unfold zo8;cases zeo i t;{cases zeo o t<;>rfl};{rfl}
theorem z8G {o i t:Int}(h:zeo i t=true):ieq (zo8 o i t) 2=false:=by unfold zo8;rw[h];rfl
theorem zp5 {h:Host}{m:Int}(b:hasB m (ln h.Mons)=true)(x:Mon):ix (up h.Mons m x) m mZ=x:=by obtain⟨k,rfl,a⟩:=zd8 (n:=h.Mons.length) b;exact zdE a _ _
@[simp] abbrev zcb (h:Host)(m g:Int):Host:=(zcu h m g).1
@[simp] abbrev zch (h:Host)(m g:Int):Bool:=(zcu h m g).2
theorem zS1 {a:Type}{l:List a}{x:a}(h:ilt (ln l) 40=true):few (ln<|ap l [x])=true:=by have:=qD h;simp only[ln] at this;exact zev (by simp[ap];omega)
theorem zYx {h:Host}{m:Int}{x:Guest}{w:Int}(a:(cond (zjx x.Ctl.Traps w) (ieq w 5) false)=false):zlI h m x w=h:=by unfold zlI;rw[a];rfl
theorem zQ3 {h:Host}{m:Int}{x:Guest}{w:Int}(a:ilt (ln (ix h.Mons m mZ).Outs) 40=false):zlI h m x w=h:=by unfold zlI zmO;rw[a];cases (cond (zjx x.Ctl.Traps w) (ieq w 5) false)<;>rfl
theorem zVX {h:Host}{m:Int}{x:Guest}{w:Int}(a:zjx x.Ctl.Traps w=true)(b:ieq w 5=true)(c:ilt (ln (ix h.Mons m mZ).Outs) 40=true):zlI h m x w={h with Mons:=up h.Mons m {ix h.Mons m mZ with Outs:=ap (ix h.Mons m mZ).Outs [(zeO x.Prog x.Pc).X]}}:=by unfold zlI zmO;rw[a,b,c];rfl
theorem zMo {h:Host}{m:Int}{x:Guest}{w:Int}(a:zjx x.Ctl.Traps w=false):zlI h m x w=h:=zYx (by rw[a];rfl)
theorem zDe {h:Host}{m:Int}{x:Guest}{w:Int}(a:ieq w 5=false):zlI h m x w=h:=zYx (by rw[a];cases zjx x.Ctl.Traps w<;>rfl)
theorem zK8 (a:Int):(cond (ieq a a) true false)=true:=by rw[zuH];rfl
theorem zjN {h:Host}{m g:Int}(a:zcn h m g=false):zcu h m g=(h,false):=by unfold zcu;rw[a];rfl
theorem zkq {h:Host}{m g:Int}(a:zcn h m g=true):zcu h m g=zMh h m g (gOf h m g) (zM<|gOf h m g):=by unfold zcu;rw[a];rfl
theorem znU {a b:Bool}(h:(cond a b false)=true):a=true/\b=true:=by cases a;{cases h};{exact⟨rfl,h⟩}
theorem zku {a b:Bool}(c:a=true)(d:b=true):(cond a b false)=true:=by rw[c];exact d
theorem zYA {h:Host}{m:Int}{x:Guest}{w:Int}(b:ine w 6=true)(a:ieq (zo8 (ix h.Mons m mZ).Traps x.Ctl.Traps<|zgw w) 2=true)(c:ilt (ix h.Mons m mZ).Own 1000000000=true):zhx h m x w={h with Mons:=up h.Mons m {ix h.Mons m mZ with Own:=zG .i64 (ix h.Mons m mZ).Own 1}}:=by unfold zhx owned;rw[b,a,c];rfl
theorem zYy {h:Host}{m:Int}{x:Guest}{w:Int}(a:ieq (zo8 (ix h.Mons m mZ).Traps x.Ctl.Traps<|zgw w) 2=false):zhx h m x w=h:=by unfold zhx;rw[a];cases ine w 6<;>rfl
theorem zYz {h:Host}{m:Int}{x:Guest}{w:Int}(a:ilt (ix h.Mons m mZ).Own 1000000000=false):zhx h m x w=h:=by unfold zhx owned;rw[a];cases (cond (ine w 6) (ieq (zo8 (ix h.Mons m mZ).Traps x.Ctl.Traps<|zgw w) 2) false)<;>rfl
theorem z7B {h:Host}{m:Int}{x:Guest}:zhx h m x 6=h:=rfl
theorem zpn {h a:Host}{m g:Int}{x:Guest}{w:Int}(e:zhx h m x w=a):zmu h m g x w=zhH (zlI a m x w) m g (zhy x x.Ctl.Traps w):=by unfold zmu;rw[e]
theorem z4e (x:Guest):ieq (zM x) 0=true\/ieq (zM x) 1=true\/ieq (zM x) 2=true\/ieq (zM x) 3=true\/ieq (zM x) 4=true\/ieq (zM x) 5=true\/ieq (zM x) 6=true\/ieq (zM x) 7=true:=by cases a:ieq (zM x) 0;{cases b:ieq (zM x) 1;{cases c:ieq (zM x) 2;{cases d:ieq (zM x) 3;{cases e:ieq (zM x) 4;{cases f:ieq (zM x) 5;{cases g:ieq (zM x) 6;{exact .inr (.inr<|.inr<|.inr<|.inr<|.inr<|.inr<|zTb x a b c d e f g)};{exact .inr (.inr<|.inr<|.inr<|.inr<|.inr (.inl rfl))}};{exact .inr (.inr<|.inr<|.inr<|.inr (.inl rfl))}};{exact .inr (.inr<|.inr<|.inr (.inl rfl))}};{exact .inr (.inr<|.inr (.inl rfl))}};{exact .inr (.inr (.inl rfl))}};{exact .inr (.inl rfl)}};{exact .inl rfl}
abbrev zAh (x:Guest):Bool:=bif zbo x then ieq (zM x) 0 else false
def zqy:List AV->Option (Bool×List AV)
 |[.agg [.s .ins c,.i .i64 d,.i .i64 e,.s .slot f,.s .slot g,.i .i64 h,.i .i64 j,.b k,.i .i64 l,.i .i64 m,.i .i64 n,.b o,.i .i64 p,.b q,.s .int r]]=>some (zAh (⟨c,d,e,f,g,⟨h,j,k⟩,l,⟨m,n,o,p⟩,q,r⟩:Guest),[.one<|.i .i64 0])
 |_=>none
theorem zEg:vF 206 zqy:=by refine⟨zcm.1,λw b g j a h=>?_⟩;unfold zqy at h;split at h;{obtain⟨f,rfl⟩:=zds h;obtain⟨d,e⟩:=znU f;exact zcm.2 w _ g _ a (congr (congrArg (λc v=>some (c,[AV.one<|CV.i .i64 v])) d) (qD e))};{cases h}
def z6A:zY:=[(206,zqy)]++zop
theorem zYT:zK z6A:=zf zEg zi4
@[simp] abbrev zwk (h:Host)(m g:Int):Bool:=bif zcY h m g then ieq (zM<|gOf h m g) 0 else false
def zED:Run:=rF3 dH dI dI λb c d=>(zwk b c d,[aH<|zcb b c d,aB<|zch b c d])
def zvi (N:Nat)(d:Host)(b c:Int):OA:=
 let a:=zi d;let e:=(ix a.Mons b zh).Guests; (oN (zL d)<|oN (zcY a b c)<|cond (nB<|zk5 a b c) (some [aH a,aB false])<|oN (inb b<|ln a.Mons)<|oN (inb c<|ln e)<|oN (zAh<|ix e c zu)<|some [aH a,aB false])
abbrev zAi (x:Guest):Bool:=bif zbo x then ieq (zM x) 1 else false
def zqz:List AV->Option (Bool×List AV)
 |[.agg [.s .ins c,.i .i64 d,.i .i64 e,.s .slot f,.s .slot g,.i .i64 h,.i .i64 j,.b k,.i .i64 l,.i .i64 m,.i .i64 n,.b o,.i .i64 p,.b q,.s .int r]]=>some (zAi (⟨c,d,e,f,g,⟨h,j,k⟩,l,⟨m,n,o,p⟩,q,r⟩:Guest),[.one<|.i .i64 1])
 |_=>none
theorem zEh:vF 206 zqz:=by refine⟨zcm.1,λw b g j a h=>?_⟩;unfold zqz at h;split at h;{obtain⟨f,rfl⟩:=zds h;obtain⟨d,e⟩:=znU f;exact zcm.2 w _ g _ a (congr (congrArg (λc v=>some (c,[AV.one<|CV.i .i64 v])) d) (qD e))};{cases h}
def z6B:zY:=[(206,zqz)]++zop
theorem zYU:zK z6B:=zf zEh zi4
@[simp] abbrev zwl (h:Host)(m g:Int):Bool:=bif zcY h m g then ieq (zM<|gOf h m g) 1 else false
def zEE:Run:=rF3 dH dI dI λb c d=>(zwl b c d,[aH<|zcb b c d,aB<|zch b c d])
def zvj (N:Nat)(f:Host)(b c:Int):OA:=
 let a:=zi f;let d:=ix a.Mons b zh;let e:=ix d.Guests c zu; (oN (zL f)<|oN (zcY a b c)<|cond (nB<|zk5 a b c) (some [aH a,aB false])<|oN (inb b<|ln a.Mons)<|oN (inb c<|ln d.Guests)<|oN (zAi e)<|oN (inb b<|ln a.Mons)<|oN (zF e)<|oN (inb c<|ln d.Guests)<|share (up a.Mons b ({d with Guests:=(up d.Guests c<|zey e)}:Mon)) λg=>some [aH ({a with Mons:=g}:Host),aB true])
abbrev zAj (x:Guest):Bool:=bif zbo x then ieq (zM x) 2 else false
def zqA:List AV->Option (Bool×List AV)
 |[.agg [.s .ins c,.i .i64 d,.i .i64 e,.s .slot f,.s .slot g,.i .i64 h,.i .i64 j,.b k,.i .i64 l,.i .i64 m,.i .i64 n,.b o,.i .i64 p,.b q,.s .int r]]=>some (zAj (⟨c,d,e,f,g,⟨h,j,k⟩,l,⟨m,n,o,p⟩,q,r⟩:Guest),[.one<|.i .i64 2])
 |_=>none
theorem zEi:vF 206 zqA:=by refine⟨zcm.1,λw b g j a h=>?_⟩;unfold zqA at h;split at h;{obtain⟨f,rfl⟩:=zds h;obtain⟨d,e⟩:=znU f;exact zcm.2 w _ g _ a (congr (congrArg (λc v=>some (c,[AV.one<|CV.i .i64 v])) d) (qD e))};{cases h}
def z6C:zY:=[(206,zqA)]++zop
theorem zYV:zK z6C:=zf zEi zi4
@[simp] abbrev zwm (h:Host)(m g:Int):Bool:=bif zcY h m g then ieq (zM<|gOf h m g) 2 else false
def zEF:Run:=rF3 dH dI dI λb c d=>(zwm b c d,[aH<|zcb b c d,aB<|zch b c d])
def zvk (N:Nat)(f:Host)(b c:Int):OA:=
 let a:=zi f;let d:=ix a.Mons b zh;let e:=ix d.Guests c zu; (oN (zL f)<|oN (zcY a b c)<|cond (nB<|zk5 a b c) (some [aH a,aB false])<|oN (inb b<|ln a.Mons)<|oN (inb c<|ln d.Guests)<|oN (zAj e)<|oN (inb b<|ln a.Mons)<|oN (zF e)<|oN (inb c<|ln d.Guests)<|share (up a.Mons b ({d with Guests:=(up d.Guests c<|zhC e)}:Mon)) λg=>some [aH ({a with Mons:=g}:Host),aB true])
abbrev zAk (x:Guest):Bool:=bif zbo x then ieq (zM x) 3 else false
def zqB:List AV->Option (Bool×List AV)
 |[.agg [.s .ins c,.i .i64 d,.i .i64 e,.s .slot f,.s .slot g,.i .i64 h,.i .i64 j,.b k,.i .i64 l,.i .i64 m,.i .i64 n,.b o,.i .i64 p,.b q,.s .int r]]=>some (zAk (⟨c,d,e,f,g,⟨h,j,k⟩,l,⟨m,n,o,p⟩,q,r⟩:Guest),[.one<|.i .i64 3])
 |_=>none
theorem zEj:vF 206 zqB:=by refine⟨zcm.1,λw b g j a h=>?_⟩;unfold zqB at h;split at h;{obtain⟨f,rfl⟩:=zds h;obtain⟨d,e⟩:=znU f;exact zcm.2 w _ g _ a (congr (congrArg (λc v=>some (c,[AV.one<|CV.i .i64 v])) d) (qD e))};{cases h}
def z6D:zY:=[(206,zqB)]++zop
theorem zYW:zK z6D:=zf zEj zi4
@[simp] abbrev zwn (h:Host)(m g:Int):Bool:=bif zcY h m g then ieq (zM<|gOf h m g) 3 else false
def zEG:Run:=rF3 dH dI dI λb c d=>(zwn b c d,[aH<|zcb b c d,aB<|zch b c d])
def zvl (N:Nat)(m:Host)(a b:Int):OA:=
 let c:=zi m;let n:=(ix c.Mons a zh).Guests;let h:=ix n b zu;let f:=zgG h;let g:=zbm f;let l:=zma c c.Buffer a b g (zco false) false;let d:=zgd c c.Buffer a b g (zco false) false;let e:=ix d.Mons a zh;let j:=ix e.Guests b zu;let i:=({h with Prog:=j.Prog,Written:=j.Written,Live:=j.Live,Seen:=j.Seen}:Guest); (oN (zL m)<|oN (zcY c a b)<|cond (nB<|zk5 c a b) (some [aH c,aB false])<|oN (inb a<|ln c.Mons)<|oN (inb b<|ln n)<|oN (zAk h)<|oN (zbo h)<|oN (zbi f)<|oN (ziq false)<|oN (zmb c c.Buffer a b g (zco false) false)<|cond (nB<|ziJ c c.Buffer a b g (zco false) false) (oN (inb a<|ln d.Mons)<|oN (zbi f)<|oN (zfQ g false)<|oN (zbZ i<|zej g false)<|oN (inb b<|ln e.Guests)<|share (up d.Mons a ({e with Guests:=(up e.Guests b<|zca i<|zej g false)}:Mon)) λk=>some [aH ({d with Mons:=k}:Host),aB true])<|oN (inb a<|ln d.Mons)<|oN (zbi f)<|oN (zdO d.Memory l<|zbX f)<|oN (zj0 i<|zeV d.Memory l<|zbX f)<|oN (inb b<|ln e.Guests)<|share (up d.Mons a ({e with Guests:=(up e.Guests b<|zjq i<|zeV d.Memory l<|zbX f)}:Mon)) λk=>some [aH ({d with Mons:=k}:Host),aB true])
abbrev zAl (x:Guest):Bool:=bif zbo x then ieq (zM x) 4 else false
def zqC:List AV->Option (Bool×List AV)
 |[.agg [.s .ins c,.i .i64 d,.i .i64 e,.s .slot f,.s .slot g,.i .i64 h,.i .i64 j,.b k,.i .i64 l,.i .i64 m,.i .i64 n,.b o,.i .i64 p,.b q,.s .int r]]=>some (zAl (⟨c,d,e,f,g,⟨h,j,k⟩,l,⟨m,n,o,p⟩,q,r⟩:Guest),[.one<|.i .i64 4])
 |_=>none
theorem zEk:vF 206 zqC:=by refine⟨zcm.1,λw b g j a h=>?_⟩;unfold zqC at h;split at h;{obtain⟨f,rfl⟩:=zds h;obtain⟨d,e⟩:=znU f;exact zcm.2 w _ g _ a (congr (congrArg (λc v=>some (c,[AV.one<|CV.i .i64 v])) d) (qD e))};{cases h}
def z6E:zY:=[(206,zqC)]++zop
theorem zYX:zK z6E:=zf zEk zi4
@[simp] abbrev zwo (h:Host)(m g:Int):Bool:=bif zcY h m g then ieq (zM<|gOf h m g) 4 else false
def zEH:Run:=rF3 dH dI dI λb c d=>(zwo b c d,[aH<|zcb b c d,aB<|zch b c d])
def zvm (N:Nat)(l:Host)(a b:Int):OA:=
 let c:=zi l;let n:=(ix c.Mons a zh).Guests;let g:=ix n b zu;let h:=zgG g;let f:=zbm h;let m:=zma c c.Buffer a b f (zco true) false;let d:=zgd c c.Buffer a b f (zco true) false;let e:=ix d.Mons a zh;let j:=ix e.Guests b zu;let i:=({g with Prog:=j.Prog,Written:=j.Written,Live:=j.Live,Seen:=j.Seen}:Guest); (oN (zL l)<|oN (zcY c a b)<|cond (nB<|zk5 c a b) (some [aH c,aB false])<|oN (inb a<|ln c.Mons)<|oN (inb b<|ln n)<|oN (zAl g)<|oN (zbo g)<|oN (zbi h)<|oN (ziq true)<|oN (zmb c c.Buffer a b f (zco true) false)<|cond (nB<|ziJ c c.Buffer a b f (zco true) false) (oN (inb a<|ln d.Mons)<|oN (zbi h)<|oN (zfQ f true)<|oN (zbZ i<|zej f true)<|oN (inb b<|ln e.Guests)<|share (up d.Mons a ({e with Guests:=(up e.Guests b<|zca i<|zej f true)}:Mon)) λk=>some [aH ({d with Mons:=k}:Host),aB true])<|oN (zbi h)<|oN (zcL d.Memory m (zbX h) g.A)<|oN (inb a<|ln d.Mons)<|oN (zF i)<|oN (inb b<|ln e.Guests)<|share (up d.Mons a ({e with Guests:=(up e.Guests b<|zbO i)}:Mon)) λk=>some [aH ({d with Memory:=(zcS d.Memory m (zbX h) g.A),Mons:=k}:Host),aB true])
abbrev zAm (x:Guest):Bool:=bif zbo x then ieq (zM x) 5 else false
def zqD:List AV->Option (Bool×List AV)
 |[.agg [.s .ins c,.i .i64 d,.i .i64 e,.s .slot f,.s .slot g,.i .i64 h,.i .i64 j,.b k,.i .i64 l,.i .i64 m,.i .i64 n,.b o,.i .i64 p,.b q,.s .int r]]=>some (zAm (⟨c,d,e,f,g,⟨h,j,k⟩,l,⟨m,n,o,p⟩,q,r⟩:Guest),[.one<|.i .i64 5])
 |_=>none
theorem zEl:vF 206 zqD:=by refine⟨zcm.1,λw b g j a h=>?_⟩;unfold zqD at h;split at h;{obtain⟨f,rfl⟩:=zds h;obtain⟨d,e⟩:=znU f;exact zcm.2 w _ g _ a (congr (congrArg (λc v=>some (c,[AV.one<|CV.i .i64 v])) d) (qD e))};{cases h}
def z6F:zY:=[(206,zqD)]++zop
theorem zYY:zK z6F:=zf zEl zi4
@[simp] abbrev zwp (h:Host)(m g:Int):Bool:=bif zcY h m g then ieq (zM<|gOf h m g) 5 else false
def zEI:Run:=rF3 dH dI dI λb c d=>(zwp b c d,[aH<|zcb b c d,aB<|zch b c d])
def zvn (N:Nat)(x:Host)(a e:Int):OA:=
 let d:=zi x;let f:=inb a<|ln d.Mons;let g:=ix d.Mons a zh;let j:=inb e<|ln g.Guests;let c:=ix g.Guests e zu;let w:=ap g.Outs [(zdr c.Prog c.Pc).X];let s:=up d.Mons a ({g with Outs:=w}:Mon);let h:=c.Ctl.Traps;let v:=up d.Mons a ({g with Guests:=(up g.Guests e<|zci c h 5)}:Mon); (oN (zL x)<|oN (zcY d a e)<|cond (nB<|zk5 d a e) (some [aH d,aB false])<|oN f<|oN j<|oN (zAm c)<|oN f<|oN (zok g.Traps h 1)<|cond (ieq (zlh g.Traps h 1) 2) (oN f<|cond (ilt g.Own 1000000000) (oN f<|oN f<|share (up d.Mons a ({g with Own:=(zG .i64 g.Own 1)}:Mon)) (λb=>let k:=inb a<|ln b;let l:=ix b a zh;let q:=ix l.Guests e zu;let t:=ap l.Outs [(zdr q.Prog c.Pc).X];let u:=({c with Prog:=q.Prog,Written:=q.Written,Live:=q.Live,Seen:=q.Seen}:Guest);let r:=up b a ({l with Guests:=(up l.Guests e<|zci u h 5)}:Mon); (oN (zdW u h 5)<|cond (zdj u h 5) (oN k<|cond (ilt (ln l.Outs) 40) (oN k<|oN (zdi q.Prog c.Pc)<|oN (few<|ln t)<|oN k<|oN (cond (ieq a a) true false)<|share (up b a ({l with Outs:=t}:Mon)) (λi=>let m:=ix i a zh; (oN (inb a<|ln i)<|oN (inb e<|ln m.Guests)<|share (up i a ({m with Guests:=(up m.Guests e<|zci u h 5)}:Mon)) λy=>some [aH ({d with Mons:=y}:Host),aB true])))<|oN k<|oN (inb e<|ln l.Guests)<|share r λi=>some [aH ({d with Mons:=i}:Host),aB true])<|oN k<|oN (inb e<|ln l.Guests)<|share r λi=>some [aH ({d with Mons:=i}:Host),aB true])))<|oN (zdW c h 5)<|cond (zdj c h 5) (oN f<|cond (ilt (ln g.Outs) 40) (oN f<|oN (zdi c.Prog c.Pc)<|oN (few<|ln w)<|oN f<|oN (cond (ieq a a) true false)<|share s (λb=>let n:=ix b a zh; (oN (inb a<|ln b)<|oN (inb e<|ln n.Guests)<|share (up b a ({n with Guests:=(up n.Guests e<|zci c h 5)}:Mon)) λi=>some [aH ({d with Mons:=i}:Host),aB true])))<|oN f<|oN j<|share v λb=>some [aH ({d with Mons:=b}:Host),aB true])<|oN f<|oN j<|share v λb=>some [aH ({d with Mons:=b}:Host),aB true])<|oN (zdW c h 5)<|cond (zdj c h 5) (oN f<|cond (ilt (ln g.Outs) 40) (oN f<|oN (zdi c.Prog c.Pc)<|oN (few<|ln w)<|oN f<|oN (cond (ieq a a) true false)<|share s (λb=>let p:=ix b a zh; (oN (inb a<|ln b)<|oN (inb e<|ln p.Guests)<|share (up b a ({p with Guests:=(up p.Guests e<|zci c h 5)}:Mon)) λi=>some [aH ({d with Mons:=i}:Host),aB true])))<|oN f<|oN j<|share v λb=>some [aH ({d with Mons:=b}:Host),aB true])<|oN f<|oN j<|share v λb=>some [aH ({d with Mons:=b}:Host),aB true])
abbrev zAn (x:Guest):Bool:=bif zbo x then ieq (zM x) 6 else false
def zqE:List AV->Option (Bool×List AV)
 |[.agg [.s .ins c,.i .i64 d,.i .i64 e,.s .slot f,.s .slot g,.i .i64 h,.i .i64 j,.b k,.i .i64 l,.i .i64 m,.i .i64 n,.b o,.i .i64 p,.b q,.s .int r]]=>some (zAn (⟨c,d,e,f,g,⟨h,j,k⟩,l,⟨m,n,o,p⟩,q,r⟩:Guest),[.one<|.i .i64 6])
 |_=>none
theorem zEm:vF 206 zqE:=by refine⟨zcm.1,λw b g j a h=>?_⟩;unfold zqE at h;split at h;{obtain⟨f,rfl⟩:=zds h;obtain⟨d,e⟩:=znU f;exact zcm.2 w _ g _ a (congr (congrArg (λc v=>some (c,[AV.one<|CV.i .i64 v])) d) (qD e))};{cases h}
def z6G:zY:=[(206,zqE)]++zop
theorem zYZ:zK z6G:=zf zEm zi4
@[simp] abbrev zwq (h:Host)(m g:Int):Bool:=bif zcY h m g then ieq (zM<|gOf h m g) 6 else false
def zEJ:Run:=rF3 dH dI dI λb c d=>(zwq b c d,[aH<|zcb b c d,aB<|zch b c d])
def zvo (N:Nat)(i:Host)(c d:Int):OA:=
 let a:=zi i;let g:=inb c<|ln a.Mons;let e:=ix a.Mons c zh;let h:=inb d<|ln e.Guests;let b:=ix e.Guests d zu;let j:=up a.Mons c ({e with Guests:=(up e.Guests d<|zci b b.Ctl.Traps 6)}:Mon); (oN (zL i)<|oN (zcY a c d)<|cond (nB<|zk5 a c d) (some [aH a,aB false])<|oN g<|oN h<|oN (zAn b)<|oN (zdW b b.Ctl.Traps 6)<|cond (zdj b b.Ctl.Traps 6) (oN g<|oN h<|share j λf=>some [aH ({a with Mons:=f}:Host),aB true])<|oN g<|oN h<|share j λf=>some [aH ({a with Mons:=f}:Host),aB true])
abbrev zAo (x:Guest):Bool:=bif zbo x then ieq (zM x) 7 else false
def zqF:List AV->Option (Bool×List AV)
 |[.agg [.s .ins c,.i .i64 d,.i .i64 e,.s .slot f,.s .slot g,.i .i64 h,.i .i64 j,.b k,.i .i64 l,.i .i64 m,.i .i64 n,.b o,.i .i64 p,.b q,.s .int r]]=>some (zAo (⟨c,d,e,f,g,⟨h,j,k⟩,l,⟨m,n,o,p⟩,q,r⟩:Guest),[.one<|.i .i64 7])
 |_=>none
theorem zEn:vF 206 zqF:=by refine⟨zcm.1,λw b g j a h=>?_⟩;unfold zqF at h;split at h;{obtain⟨f,rfl⟩:=zds h;obtain⟨d,e⟩:=znU f;exact zcm.2 w _ g _ a (congr (congrArg (λc v=>some (c,[AV.one<|CV.i .i64 v])) d) (qD e))};{cases h}
def z6H:zY:=[(206,zqF)]++zop
theorem zY0:zK z6H:=zf zEn zi4
@[simp] abbrev zwr (h:Host)(m g:Int):Bool:=bif zcY h m g then ieq (zM<|gOf h m g) 7 else false
def zEK:Run:=rF3 dH dI dI λb c d=>(zwr b c d,[aH<|zcb b c d,aB<|zch b c d])
def zvp (N:Nat)(q:Host)(c e:Int):OA:=
 let a:=zi q;let g:=inb c<|ln a.Mons;let f:=ix a.Mons c zh;let k:=inb e<|ln f.Guests;let h:=ix f.Guests e zu;let d:=h.Ctl.Traps;let l:=up a.Mons c ({f with Guests:=(up f.Guests e<|zci h d 7)}:Mon); (oN (zL q)<|oN (zcY a c e)<|cond (nB<|zk5 a c e) (some [aH a,aB false])<|oN g<|oN k<|oN (zAo h)<|oN g<|oN (zok f.Traps d 2)<|cond (ieq (zlh f.Traps d 2) 2) (oN g<|cond (ilt f.Own 1000000000) (oN g<|oN g<|share (up a.Mons c ({f with Own:=(zG .i64 f.Own 1)}:Mon)) (λb=>let j:=ix b c zh;let m:=ix j.Guests e zu;let p:=({h with Prog:=m.Prog,Written:=m.Written,Live:=m.Live,Seen:=m.Seen}:Guest);let i:=up b c ({j with Guests:=(up j.Guests e<|zci p d 7)}:Mon); (oN (zdW p d 7)<|cond (zdj p d 7) (oN (inb c<|ln b)<|oN (inb e<|ln j.Guests)<|share i λn=>some [aH ({a with Mons:=n}:Host),aB true])<|oN (inb c<|ln b)<|oN (inb e<|ln j.Guests)<|share i λn=>some [aH ({a with Mons:=n}:Host),aB true])))<|oN (zdW h d 7)<|cond (zdj h d 7) (oN g<|oN k<|share l λb=>some [aH ({a with Mons:=b}:Host),aB true])<|oN g<|oN k<|share l λb=>some [aH ({a with Mons:=b}:Host),aB true])<|oN (zdW h d 7)<|cond (zdj h d 7) (oN g<|oN k<|share l λb=>some [aH ({a with Mons:=b}:Host),aB true])<|oN g<|oN k<|share l λb=>some [aH ({a with Mons:=b}:Host),aB true])
theorem zEs (a:Host)(b c:Int)(e:zwk a b c=true):∃N,zvi N a b c=some [aH<|zcb a b c,aB<|zch a b c]:=by
 obtain⟨e,i⟩:=znU e;have f:=(zJ a).1 (zB.1 e);refine⟨0,?_⟩;show _=some (zeJ<|zcu a b c);unfold zvi oN nB;conv=>zeta
 refine must (zbp<|(zJ _).2 f) (must (zbp<|(zJ _).2 f)<|brN (λd=>?_) λd=>?_);{rw [zjN d];rfl};obtain⟨k,g,h⟩:=zdc d;have l:=zlW f g h;have j:zM (gOf a b c)=0:=qD i;rw[zkq d,j];refine must (zy g) (must (zy h)<|must (zku rfl i) ?_);rfl
theorem zqX:vF 129 zED:=kF3 zYT zl zbs zh2 (zq []) zEs
theorem zEt (a:Host)(b c:Int)(g:zwl a b c=true):∃N,zvj N a b c=some [aH<|zcb a b c,aB<|zch a b c]:=by
 obtain⟨g,i⟩:=znU g;have h:=(zJ a).1 (zB.1 g);refine⟨0,?_⟩;show _=some (zeJ<|zcu a b c);unfold zvj oN nB;conv=>zeta
 refine must (zbp<|(zJ _).2 h) (must (zbp<|(zJ _).2 h)<|brN (λd=>?_) λd=>?_);{rw [zjN d];rfl};obtain⟨l,e,f⟩:=zdc d;have k:=zlW h e f;have j:zM (gOf a b c)=1:=qD i;rw[zkq d,j];refine must (zy e) (must (zy f)<|must (zku rfl i) ?_);show _=some (zeJ (zhH a b c<|interrupted<|gOf a b c,true));exact must (zy e) (must (zbp k) (must (zy f) rfl))
theorem zAx:vF 129 zEE:=kF3 zYU zl zbs zh2 (zq []) zEt
theorem zEu (a:Host)(b c:Int)(g:zwm a b c=true):∃N,zvk N a b c=some [aH<|zcb a b c,aB<|zch a b c]:=by
 obtain⟨g,i⟩:=znU g;have h:=(zJ a).1 (zB.1 g);refine⟨0,?_⟩;show _=some (zeJ<|zcu a b c);unfold zvk oN nB;conv=>zeta
 refine must (zbp<|(zJ _).2 h) (must (zbp<|(zJ _).2 h)<|brN (λd=>?_) λd=>?_);{rw [zjN d];rfl};obtain⟨l,e,f⟩:=zdc d;have k:=zlW h e f;have j:zM (gOf a b c)=2:=qD i;rw[zkq d,j];refine must (zy e) (must (zy f)<|must (zku rfl i) ?_);show _=some (zeJ (zhH a b c<|plainly<|gOf a b c,true));exact must (zy e) (must (zbp k) (must (zy f) rfl))
theorem zAy:vF 129 zEF:=kF3 zYV zl zbs zh2 (zq []) zEu
theorem zEv (a:Host)(c d:Int)(j:zwn a c d=true):∃N,zvl N a c d=some [aH<|zcb a c d,aB<|zch a c d]:=by
 obtain⟨j,m⟩:=znU j;have f:=(zJ a).1 (zB.1 j);refine⟨0,?_⟩;show _=some (zeJ<|zcu a c d);unfold zvl oN nB;conv=>zeta
 refine must (zbp<|(zJ _).2 f) (must (zbp<|(zJ _).2 f)<|brN (λe=>?_) λe=>?_);{rw [zjN e];rfl};obtain⟨r,g,i⟩:=zdc e;have n:=zlW f g i;have q:zM (gOf a c d)=3:=qD m;rw[zkq e,q];refine must (zy g) (must (zy i)<|must (zku rfl m) ?_);show _=some (zeJ (zks (zkv a c d (gOf a c d) false) c d (gOf a c d) false,true));have k:=ztX (b:=a.Buffer) (page:=zcj (address<|gOf a c d)) (need:=zgM false) (io:=false) f e;have F:=zno k g i;have p:(ix (ix (zgd (zi a) (zi a).Buffer c d (zbm<|zgG<|ix (ix (zi a).Mons c zh).Guests d zu) (zco false) false).Mons c zh).Guests d zu)=(ix (ix (zi a).Mons c zh).Guests d zu):=congrArg (λl=>ix l d gZ) (zJZ k.gs c);rw[p];unfold zks;refine must rfl (must rfl (must rfl (must (zbp<|(zJ _).2 f)<|brN (λh=>?_) λh=>?_)));{rw [show (zkv a c d (gOf a c d) false).2.2=false from h];exact must (zy F.hm) (must rfl (must rfl (must (zbp n) (must (zy F.hg) rfl))))};{rw [show (zkv a c d (gOf a c d) false).2.2=true from h];exact must (zy F.hm) (must rfl (must rfl (must (zbp n) (must (zy F.hg) rfl))))}
theorem zAz:vF 129 zEG:=kF3 zYW zl zbs zh2 (zq []) zEv
theorem zEw (a:Host)(c d:Int)(j:zwo a c d=true):∃N,zvm N a c d=some [aH<|zcb a c d,aB<|zch a c d]:=by
 obtain⟨j,m⟩:=znU j;have f:=(zJ a).1 (zB.1 j);refine⟨0,?_⟩;show _=some (zeJ<|zcu a c d);unfold zvm oN nB;conv=>zeta
 refine must (zbp<|(zJ _).2 f) (must (zbp<|(zJ _).2 f)<|brN (λe=>?_) λe=>?_);{rw [zjN e];rfl};obtain⟨r,g,i⟩:=zdc e;have n:=zlW f g i;have q:zM (gOf a c d)=4:=qD m;rw[zkq e,q];refine must (zy g) (must (zy i)<|must (zku rfl m) ?_);show _=some (zeJ (zks (zkv a c d (gOf a c d) true) c d (gOf a c d) true,true));have k:=ztX (b:=a.Buffer) (page:=zcj (address<|gOf a c d)) (need:=zgM true) (io:=false) f e;have F:=zno k g i;have p:(ix (ix (zgd (zi a) (zi a).Buffer c d (zbm<|zgG<|ix (ix (zi a).Mons c zh).Guests d zu) (zco true) false).Mons c zh).Guests d zu)=(ix (ix (zi a).Mons c zh).Guests d zu):=congrArg (λl=>ix l d gZ) (zJZ k.gs c);rw[p];unfold zks;refine must rfl (must rfl (must rfl (must (zbp<|(zJ _).2 f)<|brN (λh=>?_) λh=>?_)));{rw [show (zkv a c d (gOf a c d) true).2.2=false from h];exact must (zy F.hm) (must rfl (must rfl (must (zbp n) (must (zy F.hg) rfl))))};{rw [show (zkv a c d (gOf a c d) true).2.2=true from h];exact must rfl (must (zbp k.shape.1.1)<|must (zy F.hm)<|must (zbp n) (must (zy F.hg) rfl))}
theorem zAA:vF 129 zEH:=kF3 zYX zl zbs zh2 (zq []) zEw
theorem z5w {c:Host}{a d:Int}(k:SmG (gOf c a d))(f:hasB a (ln c.Mons)=true)(i:hasB d (ln (ix c.Mons a mZ).Guests)=true) :
 (cond (zdW (ix (ix (zi c).Mons a zh).Guests d zu) (ix (ix (zi c).Mons a zh).Guests d zu).Ctl.Traps 5) (cond (zdj (ix (ix (zi c).Mons a zh).Guests d zu) (ix (ix (zi c).Mons a zh).Guests d zu).Ctl.Traps 5) (cond (inb a<|ln (zi c).Mons) (cond (ilt (ln (ix (zi c).Mons a zh).Outs) 40) (cond (inb a<|ln (zi c).Mons) (cond (zdi (ix (ix (zi c).Mons a zh).Guests d zu).Prog (ix (ix (zi c).Mons a zh).Guests d zu).Pc) (cond (few<|ln<|ap (ix (zi c).Mons a zh).Outs [(zdr (ix (ix (zi c).Mons a zh).Guests d zu).Prog (ix (ix (zi c).Mons a zh).Guests d zu).Pc).X]) (cond (inb a<|ln (zi c).Mons) (cond (cond (ieq a a) true false) (share (up (zi c).Mons a ({ (ix (zi c).Mons a zh) with Outs:=(ap (ix (zi c).Mons a zh).Outs [(zdr (ix (ix (zi c).Mons a zh).Guests d zu).Prog (ix (ix (zi c).Mons a zh).Guests d zu).Pc).X])}:Mon)) λe=>cond (inb a<|ln e) (cond (inb d<|ln (ix e a zh).Guests) (share (up e a ({ (ix e a zh) with Guests:=(up (ix e a zh).Guests d<|zci (ix (ix (zi c).Mons a zh).Guests d zu) (ix (ix (zi c).Mons a zh).Guests d zu).Ctl.Traps 5)}:Mon)) λl=>some [.agg<|zbb ({ (zi c) with Mons:=l}:Host),.one<|.b true]) none) none) none) none) none) none) none)<|cond (inb a<|ln (zi c).Mons) (cond (inb d<|ln (ix (zi c).Mons a zh).Guests) (share (up (zi c).Mons a ({ (ix (zi c).Mons a zh) with Guests:=(up (ix (zi c).Mons a zh).Guests d<|zci (ix (ix (zi c).Mons a zh).Guests d zu) (ix (ix (zi c).Mons a zh).Guests d zu).Ctl.Traps 5)}:Mon)) λe=>some [.agg<|zbb ({ (zi c) with Mons:=e}:Host),.one<|.b true]) none) none) none)<|cond (inb a<|ln (zi c).Mons) (cond (inb d<|ln (ix (zi c).Mons a zh).Guests) (share (up (zi c).Mons a ({ (ix (zi c).Mons a zh) with Guests:=(up (ix (zi c).Mons a zh).Guests d<|zci (ix (ix (zi c).Mons a zh).Guests d zu) (ix (ix (zi c).Mons a zh).Guests d zu).Ctl.Traps 5)}:Mon)) λe=>some [.agg<|zbb ({ (zi c) with Mons:=e}:Host),.one<|.b true]) none) none) none)=some (zeJ (zhH (zlI c a (gOf c a d) 5) a d<|zhy (gOf c a d) (gOf c a d).Ctl.Traps 5,true)):=by
 refine must (zbp k) (br (λj=>must (zy f) (br (λg=>?_) λg=>?_)) λj=>?_)
 .rw [zVX (h:=c) (m:=a) (x:=gOf c a d) (w:=5) j rfl g];refine must (zy f) (must rfl (must (zS1 g)<|must (zy f)<|must (zK8 _)<|shr<|must (zy<|zfm f) (must ?_ rfl)));rw[zp5 f];exact zy i
 .rw [zQ3 (h:=c) (m:=a) (x:=gOf c a d) (w:=5) g];exact must (zy f) (must (zy i) rfl)
 .rw [zMo (h:=c) (m:=a) (x:=gOf c a d) (w:=5) j];exact must (zy f) (must (zy i) rfl)
theorem z9l {f:Host}{d:List Mon}{a c:Int}(n:SmG (gOf f a c))(i:hasB a (ln d)=true)(k:hasB c (ln (ix d a mZ).Guests)=true)(e:(ix (ix d a zh).Guests c zu)=gOf f a c) :
 (cond (zdW ({ (ix (ix (zi f).Mons a zh).Guests c zu) with Prog:=(ix (ix d a zh).Guests c zu).Prog,Written:=(ix (ix d a zh).Guests c zu).Written,Live:=(ix (ix d a zh).Guests c zu).Live,Seen:=(ix (ix d a zh).Guests c zu).Seen}:Guest) (ix (ix (zi f).Mons a zh).Guests c zu).Ctl.Traps 5) (cond (zdj ({ (ix (ix (zi f).Mons a zh).Guests c zu) with Prog:=(ix (ix d a zh).Guests c zu).Prog,Written:=(ix (ix d a zh).Guests c zu).Written,Live:=(ix (ix d a zh).Guests c zu).Live,Seen:=(ix (ix d a zh).Guests c zu).Seen}:Guest) (ix (ix (zi f).Mons a zh).Guests c zu).Ctl.Traps 5) (cond (inb a<|ln d) (cond (ilt (ln (ix d a zh).Outs) 40) (cond (inb a<|ln d) (cond (zdi (ix (ix d a zh).Guests c zu).Prog (ix (ix (zi f).Mons a zh).Guests c zu).Pc) (cond (few<|ln<|ap (ix d a zh).Outs [(zdr (ix (ix d a zh).Guests c zu).Prog (ix (ix (zi f).Mons a zh).Guests c zu).Pc).X]) (cond (inb a<|ln d) (cond (cond (ieq a a) true false) (share (up d a ({ (ix d a zh) with Outs:=(ap (ix d a zh).Outs [(zdr (ix (ix d a zh).Guests c zu).Prog (ix (ix (zi f).Mons a zh).Guests c zu).Pc).X])}:Mon)) λg=>cond (inb a<|ln g) (cond (inb c<|ln (ix g a zh).Guests) (share (up g a ({ (ix g a zh) with Guests:=(up (ix g a zh).Guests c<|zci ({ (ix (ix (zi f).Mons a zh).Guests c zu) with Prog:=(ix (ix d a zh).Guests c zu).Prog,Written:=(ix (ix d a zh).Guests c zu).Written,Live:=(ix (ix d a zh).Guests c zu).Live,Seen:=(ix (ix d a zh).Guests c zu).Seen}:Guest) (ix (ix (zi f).Mons a zh).Guests c zu).Ctl.Traps 5)}:Mon)) λp=>some [.agg<|zbb ({ (zi f) with Mons:=p}:Host),.one<|.b true]) none) none) none) none) none) none) none)<|cond (inb a<|ln d) (cond (inb c<|ln (ix d a zh).Guests) (share (up d a ({ (ix d a zh) with Guests:=(up (ix d a zh).Guests c<|zci ({ (ix (ix (zi f).Mons a zh).Guests c zu) with Prog:=(ix (ix d a zh).Guests c zu).Prog,Written:=(ix (ix d a zh).Guests c zu).Written,Live:=(ix (ix d a zh).Guests c zu).Live,Seen:=(ix (ix d a zh).Guests c zu).Seen}:Guest) (ix (ix (zi f).Mons a zh).Guests c zu).Ctl.Traps 5)}:Mon)) λg=>some [.agg<|zbb ({ (zi f) with Mons:=g}:Host),.one<|.b true]) none) none) none)<|cond (inb a<|ln d) (cond (inb c<|ln (ix d a zh).Guests) (share (up d a ({ (ix d a zh) with Guests:=(up (ix d a zh).Guests c<|zci ({ (ix (ix (zi f).Mons a zh).Guests c zu) with Prog:=(ix (ix d a zh).Guests c zu).Prog,Written:=(ix (ix d a zh).Guests c zu).Written,Live:=(ix (ix d a zh).Guests c zu).Live,Seen:=(ix (ix d a zh).Guests c zu).Seen}:Guest) (ix (ix (zi f).Mons a zh).Guests c zu).Ctl.Traps 5)}:Mon)) λg=>some [.agg<|zbb ({ (zi f) with Mons:=g}:Host),.one<|.b true]) none) none) none)=some (zeJ (zhH (zlI {f with Mons:=d} a (gOf f a c) 5) a c<|zhy (gOf f a c) (gOf f a c).Ctl.Traps 5,true)):=by
 rw[e];refine must (zbp n) (br (λl=>must (zy i) (br (λj=>?_) λj=>?_)) λl=>?_)
 .rw [zVX (h:={f with Mons:=d}) (m:=a) (x:=gOf f a c) (w:=5) l rfl j];refine must (zy i) (must rfl (must (zS1 j)<|must (zy i)<|must (zK8 _)<|shr<|must (zy<|zfm (h:={f with Mons:=d}) i) (must ?_ rfl)));rw[zp5 (h:={f with Mons:=d}) i];exact zy k
 .rw [zQ3 (h:={f with Mons:=d}) (m:=a) (x:=gOf f a c) (w:=5) j];exact must (zy i) (must (zy k) rfl)
 .rw [zMo (h:={f with Mons:=d}) (m:=a) (x:=gOf f a c) (w:=5) l];exact must (zy i) (must (zy k) rfl)
theorem zEx (b:Host)(a c:Int)(j:zwp b a c=true):∃N,zvn N b a c=some [aH<|zcb b a c,aB<|zch b a c]:=by
 obtain⟨j,p⟩:=znU j;have k:=(zJ b).1 (zB.1 j);refine⟨0,?_⟩;show _=some (zeJ<|zcu b a c);unfold zvn oN nB;conv=>zeta
 refine must (zbp<|(zJ _).2 k) (must (zbp<|(zJ _).2 k)<|brN (λf=>?_) λf=>?_);{rw [zjN f];rfl};obtain⟨r,d,e⟩:=zdc f;have l:=zlW k d e;have q:zM (gOf b a c)=5:=qD p;rw[zkq f,q];refine must (zy d) (must (zy e)<|must (zku rfl p) ?_);show _=some (zeJ (zmu b a c (gOf b a c) 5,true));refine must (zy d) (must rfl (br (λg=>must (zy d) (br (λi=>must (zy d) (must (zy d)<|shr ?_)) λi=>?_)) λg=>?_));{rw [zpn (zYA (h:=b) (m:=a) (x:=gOf b a c) (w:=5) rfl g i)];have n:=zp5 d {ix b.Mons a mZ with Own:=zG .i64 (ix b.Mons a mZ).Own 1};refine z9l l (zfm d) ?_ ?_;{show hasB c (ln (ix (up b.Mons a _) a mZ).Guests)=true;rw[n];exact e};{show ix (ix (up b.Mons a _) a mZ).Guests c gZ=_;rw[n];rfl}};{rw [zpn<|zYz (h:=b) (m:=a) (x:=gOf b a c) (w:=5) i];exact z5w l d e};{rw [zpn<|zYy (h:=b) (m:=a) (x:=gOf b a c) (w:=5) g];exact z5w l d e}
theorem zAB:vF 129 zEI:=kF3 zYY zl zbs zh2 (zq []) zEx
theorem zEy (a:Host)(b c:Int)(g:zwq a b c=true):∃N,zvo N a b c=some [aH<|zcb a b c,aB<|zch a b c]:=by
 obtain⟨g,j⟩:=znU g;have i:=(zJ a).1 (zB.1 g);refine⟨0,?_⟩;show _=some (zeJ<|zcu a b c);unfold zvo oN nB;conv=>zeta
 refine must (zbp<|(zJ _).2 i) (must (zbp<|(zJ _).2 i)<|brN (λf=>?_) λf=>?_);{rw [zjN f];rfl};obtain⟨p,d,e⟩:=zdc f;have n:=zlW i d e;have l:zM (gOf a b c)=6:=qD j;rw[zkq f,l];refine must (zy d) (must (zy e)<|must (zku rfl j) ?_);show _=some (zeJ (zmu a b c (gOf a b c) 6,true));rw[zpn<|z7B (h:=a) (m:=b) (x:=gOf a b c),zDe (w:=6) rfl];exact must (zbp n) (br (λk=>must (zy d) (must (zy e) rfl)) λk=>must (zy d) (must (zy e) rfl))
theorem zAC:vF 129 zEJ:=kF3 zYZ zl zbs zh2 (zq []) zEy
theorem z5x {a:Host}{c d:Int}(i:SmG (gOf a c d))(f:hasB c (ln a.Mons)=true)(g:hasB d (ln (ix a.Mons c mZ).Guests)=true) :
 (cond (zdW (ix (ix (zi a).Mons c zh).Guests d zu) (ix (ix (zi a).Mons c zh).Guests d zu).Ctl.Traps 7) (cond (zdj (ix (ix (zi a).Mons c zh).Guests d zu) (ix (ix (zi a).Mons c zh).Guests d zu).Ctl.Traps 7) (cond (inb c<|ln (zi a).Mons) (cond (inb d<|ln (ix (zi a).Mons c zh).Guests) (share (up (zi a).Mons c ({ (ix (zi a).Mons c zh) with Guests:=(up (ix (zi a).Mons c zh).Guests d<|zci (ix (ix (zi a).Mons c zh).Guests d zu) (ix (ix (zi a).Mons c zh).Guests d zu).Ctl.Traps 7)}:Mon)) λe=>some [.agg<|zbb ({ (zi a) with Mons:=e}:Host),.one<|.b true]) none) none)<|cond (inb c<|ln (zi a).Mons) (cond (inb d<|ln (ix (zi a).Mons c zh).Guests) (share (up (zi a).Mons c ({ (ix (zi a).Mons c zh) with Guests:=(up (ix (zi a).Mons c zh).Guests d<|zci (ix (ix (zi a).Mons c zh).Guests d zu) (ix (ix (zi a).Mons c zh).Guests d zu).Ctl.Traps 7)}:Mon)) λe=>some [.agg<|zbb ({ (zi a) with Mons:=e}:Host),.one<|.b true]) none) none) none)=some (zeJ (zhH a c d<|zhy (gOf a c d) (gOf a c d).Ctl.Traps 7,true)):=
 must (zbp i) (br (λh=>must (zy f) (must (zy g) rfl)) λh=>must (zy f) (must (zy g) rfl))
theorem z9m {f:Host}{d:List Mon}{a c:Int}(k:SmG (gOf f a c))(h:hasB a (ln d)=true)(i:hasB c (ln (ix d a mZ).Guests)=true)(e:(ix (ix d a zh).Guests c zu)=gOf f a c) :
 (cond (zdW ({ (ix (ix (zi f).Mons a zh).Guests c zu) with Prog:=(ix (ix d a zh).Guests c zu).Prog,Written:=(ix (ix d a zh).Guests c zu).Written,Live:=(ix (ix d a zh).Guests c zu).Live,Seen:=(ix (ix d a zh).Guests c zu).Seen}:Guest) (ix (ix (zi f).Mons a zh).Guests c zu).Ctl.Traps 7) (cond (zdj ({ (ix (ix (zi f).Mons a zh).Guests c zu) with Prog:=(ix (ix d a zh).Guests c zu).Prog,Written:=(ix (ix d a zh).Guests c zu).Written,Live:=(ix (ix d a zh).Guests c zu).Live,Seen:=(ix (ix d a zh).Guests c zu).Seen}:Guest) (ix (ix (zi f).Mons a zh).Guests c zu).Ctl.Traps 7) (cond (inb a<|ln d) (cond (inb c<|ln (ix d a zh).Guests) (share (up d a ({ (ix d a zh) with Guests:=(up (ix d a zh).Guests c<|zci ({ (ix (ix (zi f).Mons a zh).Guests c zu) with Prog:=(ix (ix d a zh).Guests c zu).Prog,Written:=(ix (ix d a zh).Guests c zu).Written,Live:=(ix (ix d a zh).Guests c zu).Live,Seen:=(ix (ix d a zh).Guests c zu).Seen}:Guest) (ix (ix (zi f).Mons a zh).Guests c zu).Ctl.Traps 7)}:Mon)) λg=>some [.agg<|zbb ({ (zi f) with Mons:=g}:Host),.one<|.b true]) none) none)<|cond (inb a<|ln d) (cond (inb c<|ln (ix d a zh).Guests) (share (up d a ({ (ix d a zh) with Guests:=(up (ix d a zh).Guests c<|zci ({ (ix (ix (zi f).Mons a zh).Guests c zu) with Prog:=(ix (ix d a zh).Guests c zu).Prog,Written:=(ix (ix d a zh).Guests c zu).Written,Live:=(ix (ix d a zh).Guests c zu).Live,Seen:=(ix (ix d a zh).Guests c zu).Seen}:Guest) (ix (ix (zi f).Mons a zh).Guests c zu).Ctl.Traps 7)}:Mon)) λg=>some [.agg<|zbb ({ (zi f) with Mons:=g}:Host),.one<|.b true]) none) none) none)=some (zeJ (zhH {f with Mons:=d} a c<|zhy (gOf f a c) (gOf f a c).Ctl.Traps 7,true)):=by
 rw[e];exact must (zbp k) (br (λj=>must (zy h) (must (zy i) rfl)) λj=>must (zy h) (must (zy i) rfl))
theorem zEz (b:Host)(a c:Int)(j:zwr b a c=true):∃N,zvp N b a c=some [aH<|zcb b a c,aB<|zch b a c]:=by
 obtain⟨j,p⟩:=znU j;have k:=(zJ b).1 (zB.1 j);refine⟨0,?_⟩;show _=some (zeJ<|zcu b a c);unfold zvp oN nB;conv=>zeta
 refine must (zbp<|(zJ _).2 k) (must (zbp<|(zJ _).2 k)<|brN (λf=>?_) λf=>?_);{rw [zjN f];rfl};obtain⟨r,d,e⟩:=zdc f;have l:=zlW k d e;have q:zM (gOf b a c)=7:=qD p;rw[zkq f,q];refine must (zy d) (must (zy e)<|must (zku rfl p) ?_);show _=some (zeJ (zmu b a c (gOf b a c) 7,true));refine must (zy d) (must rfl (br (λg=>must (zy d) (br (λi=>must (zy d) (must (zy d)<|shr ?_)) λi=>?_)) λg=>?_));{rw [zpn (zYA (h:=b) (m:=a) (x:=gOf b a c) (w:=7) rfl g i),zDe (w:=7) rfl];have n:=zp5 d {ix b.Mons a mZ with Own:=zG .i64 (ix b.Mons a mZ).Own 1};refine z9m l (zfm d) ?_ ?_;{show hasB c (ln (ix (up b.Mons a _) a mZ).Guests)=true;rw[n];exact e};{show ix (ix (up b.Mons a _) a mZ).Guests c gZ=_;rw[n];rfl}};{rw [zpn<|zYz (h:=b) (m:=a) (x:=gOf b a c) (w:=7) i,zDe (w:=7) rfl];exact z5x l d e};{rw [zpn<|zYy (h:=b) (m:=a) (x:=gOf b a c) (w:=7) g,zDe (w:=7) rfl];exact z5x l d e}
theorem zAD:vF 129 zEK:=kF3 zY0 zl zbs zh2 (zq []) zEz
def zrn:List AV->Option (Bool×List AV)
 |[.agg [.s (.sl .int) b,.s .mon c,.s .entry d,.s .entry e],.one<|.i .i64 f,.one<|.i .i64 g]=>some (zcY (⟨b,c,d,e⟩:Host) f g,[aH<|zcb (⟨b,c,d,e⟩:Host) f g,aB<|zch (⟨b,c,d,e⟩:Host) f g])
 |_=>none
theorem zHH:vF 129 zrn:=by refine⟨zqX.1,λw m l n g h=>?_⟩;unfold zrn at h;split at h;{rename_i a b d f i j;obtain⟨k,rfl⟩:=zds h;rcases z4e (gOf (⟨a,b,d,f⟩:Host) i j) with e|e|e|e|e|e|e|e;{exact zqX.2 w _ l _ g (congrArg (λc=>some (c,zeJ<|zcu (⟨a,b,d,f⟩:Host) i j))<|zku k e)};{exact zAx.2 w _ l _ g (congrArg (λc=>some (c,zeJ<|zcu (⟨a,b,d,f⟩:Host) i j))<|zku k e)};{exact zAy.2 w _ l _ g (congrArg (λc=>some (c,zeJ<|zcu (⟨a,b,d,f⟩:Host) i j))<|zku k e)};{exact zAz.2 w _ l _ g (congrArg (λc=>some (c,zeJ<|zcu (⟨a,b,d,f⟩:Host) i j))<|zku k e)};{exact zAA.2 w _ l _ g (congrArg (λc=>some (c,zeJ<|zcu (⟨a,b,d,f⟩:Host) i j))<|zku k e)};{exact zAB.2 w _ l _ g (congrArg (λc=>some (c,zeJ<|zcu (⟨a,b,d,f⟩:Host) i j))<|zku k e)};{exact zAC.2 w _ l _ g (congrArg (λc=>some (c,zeJ<|zcu (⟨a,b,d,f⟩:Host) i j))<|zku k e)};{exact zAD.2 w _ l _ g (congrArg (λc=>some (c,zeJ<|zcu (⟨a,b,d,f⟩:Host) i j))<|zku k e)}};{cases h}
@[simp] abbrev ztv (h:Host)(m g b a:Int)(c:Bool):Bool:=pc (zdJ h)
@[simp] abbrev zts (h:Host)(m g b a:Int)(c:Bool):Host:=(lookOf h (ztl h c) m g b a c).1
@[simp] abbrev ztt (h:Host)(m g b a:Int)(c:Bool):Int:=(lookOf h (ztl h c) m g b a c).2.1
@[simp] abbrev ztu (h:Host)(m g b a:Int)(c:Bool):Bool:=(lookOf h (ztl h c) m g b a c).2.2
def zC0:Run:=rF6 dH dI dI dI dI dB λb c d e f g=>(ztv b c d e f g,[aH<|zts b c d e f g,aI<|ztt b c d e f g,aB<|ztu b c d e f g])
abbrev zTe (b:lM)(c:lN)(d:lE)(e:lE)(a:Int)(g:Int)(f:Int):Mon :=
 (ix (zf2 (⟨b,c,d,e⟩:Host) a g f).Mons a zh)
def zsJ (N:Nat)(d:Int)(e:Int)(b:Int)(f:Int)(g:lM)(h:lN)(c:lE)(a:lE):OA:=
 let i:=(⟨e,d,b,f⟩:Entry); (oN (zjr a i)<|some [aH (⟨g,h,c,zis a i⟩:Host),aI b,aB true])
def zt9 (N:Nat)(d:lM)(e:lN)(f:lE)(g:lE)(b:Int)(i:Int)(h:Int)(a:Int)(c:Int)(s:(Int×Int×Int×Int×lM×lN×lE×lE×lM×lN×lE×lE×Unit)->OA)(k:Int)(l:lM)(m:lN)(n:lE)(p:lE):OA:=
 let x:=(⟨d,e,f,g⟩:Host);let r:=zf2 x b i h;let j:=zTe d e f g b i h;let w:=ix j.Tables a zdC;let u:=(ix j.Guests a zu).Live; (oN (zhw x b i h)<|oN (inb b<|ln r.Mons)<|oN (inb a<|ln j.Tables)<|oN (inb a<|ln j.Guests)<|oN (zu4 w u j.Outer c)<|oN (inb a<|ln j.Tables)<|share (up r.Mons b ({j with Tables:=(up j.Tables a<|zu3 w u j.Outer c)}:Mon)) (λq=>let v:=(ix q b zh).Tables;let t:=ix v a zdC; (oN (inb a<|ln v)<|oN (zxr t c)<|s (c,k,(zjM t c).Page,(zjM t c).Rights,l,m,n,p,r.Memory,q,r.Buffer,r.IoBuffer,()))))
def zpK (N:Nat)(a:lN)(g:Int)(h:Int)(b:Int)(c:lM)(d:lE)(e:lE)(p:Int)(f:Int)(n:(Int×Int×Int×Int×lM×lN×lE×lE×lM×lN×lE×lE×Unit)->OA)(i:Int)(j:lM)(k:lN)(l:lE)(m:lE):OA:=
 let r:=zt9 N c a d e g p f h b n i j k l m;let s:=ix (ix a g zh).Tables h zdC;let q:=zjM s b; (cond (nB<|zpB s b) r<|cond (ieq q.Page<|-1) r<|oN (zZ q.Rights f)<|cond (nB<|zcW q.Rights f) r<|n (b,i,q.Page,q.Rights,j,k,l,m,c,a,d,e,()))
def zsK (N:Nat)(c:Int)(d:Int)(e:Int)(i:Int)(j:Int)(k:Int)(l:lM)(m:lN)(n:lE)(p:lE)(f:lM)(b:lN)(g:lE)(h:lE):OA:=
 let r:=(ix b c zh).Tables; (oN (inb c<|ln b)<|oN (inb d<|ln r)<|oN (zxr (ix r d zdC) e)<|share (λ(a:(Int×Int×Int×Int×lM×lN×lE×lE×lM×lN×lE×lE×Unit))=>zsJ N a.1 a.2.1 a.2.2.1 a.2.2.2.1 a.2.2.2.2.2.2.2.2.1 a.2.2.2.2.2.2.2.2.2.1 a.2.2.2.2.2.2.2.2.2.2.1 a.2.2.2.2.2.2.2.2.2.2.2.1) λq=>zpK N b c d e f g h j i q k l m n p)
def zsL (N:Nat)(d:Int)(e:Int)(b:Int)(f:Int)(g:lM)(h:lN)(a:lE)(c:lE):OA:=
 let i:=(⟨e,d,b,f⟩:Entry); (oN (zjr a i)<|some [aH (⟨g,h,zis a i,c⟩:Host),aI b,aB true])
def zsM (N:Nat)(c:Int)(d:Int)(e:Int)(i:Int)(j:Int)(k:Int)(l:lM)(m:lN)(n:lE)(p:lE)(f:lM)(b:lN)(g:lE)(h:lE):OA:=
 let r:=(ix b c zh).Tables; (oN (inb c<|ln b)<|oN (inb d<|ln r)<|oN (zxr (ix r d zdC) e)<|share (λ(a:(Int×Int×Int×Int×lM×lN×lE×lE×lM×lN×lE×lE×Unit))=>zsL N a.1 a.2.1 a.2.2.1 a.2.2.2.1 a.2.2.2.2.2.2.2.2.1 a.2.2.2.2.2.2.2.2.2.1 a.2.2.2.2.2.2.2.2.2.2.1 a.2.2.2.2.2.2.2.2.2.2.2.1) λq=>zpK N b c d e f g h j i q k l m n p)
def zsN (N:Nat)(f:Int)(g:Int)(c:Int)(e:Int)(r:Bool)(j:Int)(k:lM)(l:lN)(m:lE)(n:lE)(h:lM)(i:lN)(a:lE)(b:lE):OA:=
 let u:=aH (⟨h,i,a,b⟩:Host);let p:=zk1 f g;let t:=zgH a p c;let s:=zgH b p c; (cond r (oN (zhQ f g)<|share (λ(d:(Int×Int×Int×Int×Int×Int×lM×lN×lE×lE×lM×lN×lE×lE×Unit))=>zsK N d.1 d.2.1 d.2.2.1 d.2.2.2.1 d.2.2.2.2.1 d.2.2.2.2.2.1 d.2.2.2.2.2.2.1 d.2.2.2.2.2.2.2.1 d.2.2.2.2.2.2.2.2.1 d.2.2.2.2.2.2.2.2.2.1 d.2.2.2.2.2.2.2.2.2.2.1 d.2.2.2.2.2.2.2.2.2.2.2.1 d.2.2.2.2.2.2.2.2.2.2.2.2.1 d.2.2.2.2.2.2.2.2.2.2.2.2.2.1) λq=>oN (zia b p c)<|cond (zfR b p c) (oN (zZ s.Rights e)<|cond (zcW s.Rights e) (some [u,aI s.Host,aB true])<|q (f,g,c,e,j,p,k,l,m,n,h,i,a,b,()))<|q (f,g,c,e,j,p,k,l,m,n,h,i,a,b,()))<|oN (zhQ f g)<|share (λ(d:(Int×Int×Int×Int×Int×Int×lM×lN×lE×lE×lM×lN×lE×lE×Unit))=>zsM N d.1 d.2.1 d.2.2.1 d.2.2.2.1 d.2.2.2.2.1 d.2.2.2.2.2.1 d.2.2.2.2.2.2.1 d.2.2.2.2.2.2.2.1 d.2.2.2.2.2.2.2.2.1 d.2.2.2.2.2.2.2.2.2.1 d.2.2.2.2.2.2.2.2.2.2.1 d.2.2.2.2.2.2.2.2.2.2.2.1 d.2.2.2.2.2.2.2.2.2.2.2.2.1 d.2.2.2.2.2.2.2.2.2.2.2.2.2.1) λq=>oN (zia a p c)<|cond (zfR a p c) (oN (zZ t.Rights e)<|cond (zcW t.Rights e) (some [u,aI t.Host,aB true])<|q (f,g,c,e,j,p,k,l,m,n,h,i,a,b,()))<|q (f,g,c,e,j,p,k,l,m,n,h,i,a,b,()))
def zsO (N:Nat)(c:Int)(i:Int)(d:Int)(b:Int)(m:Bool)(n:lM)(p:lN)(j:lE)(k:lE)(e:lM)(a:lN)(f:lE)(g:lE)(l:lG):OA:=
 let s:=ix a c zh;let r:=(ix l i zu).Live;let q:=zdG r d b; (oN (inb i<|ln l)<|oN (zew r d b)<|cond (nB<|zc7 r d b) (some [aH (⟨e,a,f,g⟩:Host),aI<|-1,aB false])<|share (λ(h:(Int×Int×Int×Int×Bool×Int×lM×lN×lE×lE×lM×lN×lE×lE×Unit))=>zsN N h.1 h.2.1 h.2.2.1 h.2.2.2.1 h.2.2.2.2.1 h.2.2.2.2.2.1 h.2.2.2.2.2.2.1 h.2.2.2.2.2.2.2.1 h.2.2.2.2.2.2.2.2.1 h.2.2.2.2.2.2.2.2.2.1 h.2.2.2.2.2.2.2.2.2.2.1 h.2.2.2.2.2.2.2.2.2.2.2.1 h.2.2.2.2.2.2.2.2.2.2.2.2.1 h.2.2.2.2.2.2.2.2.2.2.2.2.2.1) λt=>cond (ieq b 2) (oN (inb c<|ln a)<|oN (inb q<|ln s.Dirty)<|share (up a c ({s with Dirty:=(up s.Dirty q true)}:Mon)) λu=>t (c,i,d,b,m,q,n,p,j,k,e,u,f,g,()))<|t (c,i,d,b,m,q,n,p,j,k,e,a,f,g,()))
def zI2 (N:Nat)(d:Host)(e f:Int)(h g:Int)(i:Bool):OA:=
 let c:=zi d;let a:=zcz d e; (oN (zL d)<|oN (zcV d e)<|share (λ(b:(Int×Int×Int×Int×Bool×Int×Int×Int×lM×lN×lE×lE×lM×lN×lE×lE×lS×lM×lB×lG×(List Int)×lK×Unit))=>zsO N b.1 b.2.1 b.2.2.1 b.2.2.2.1 b.2.2.2.2.1 b.2.2.2.2.2.2.2.2.1 b.2.2.2.2.2.2.2.2.2.1 b.2.2.2.2.2.2.2.2.2.2.1 b.2.2.2.2.2.2.2.2.2.2.2.1 b.2.2.2.2.2.2.2.2.2.2.2.2.1 b.2.2.2.2.2.2.2.2.2.2.2.2.2.1 b.2.2.2.2.2.2.2.2.2.2.2.2.2.2.1 b.2.2.2.2.2.2.2.2.2.2.2.2.2.2.2.1 b.2.2.2.2.2.2.2.2.2.2.2.2.2.2.2.2.2.2.2.1) λj=>oN (zb2 d)<|cond (nB<|zb0 d) (some [aH c,aI<|-1,aB false])<|cond (nB<|zmJ d e) (some [aH c,aI<|-1,aB false])<|oN (zZ f<|ln a.Guests)<|cond (nB<|zbH f<|ln a.Guests) (some [aH c,aI<|-1,aB false])<|cond (ine g 1) (cond (ine g 2) (some [aH c,aI<|-1,aB false])<|j (e,f,h,g,i,a.Pending,a.Traps,a.Own,[],[],[],[],c.Memory,c.Mons,c.Buffer,c.IoBuffer,a.Outer,a.Out,a.Dirty,a.Guests,a.Outs,a.Tables,()))<|j (e,f,h,g,i,a.Pending,a.Traps,a.Own,[],[],[],[],c.Memory,c.Mons,c.Buffer,c.IoBuffer,a.Outer,a.Out,a.Dirty,a.Guests,a.Outs,a.Tables,()))
def zV8:=zq [(280,999999,{n:=0,tm:=[],lo:=[],ro:=[]}),(280,1007055,{n:=200,tm:=[(1,ti),(2,ti),(3,ti),(4,ti),(5,.b),(12,.lp 0 0),(15,.lp 1 0),(16,.lp 2 0)],lo:=[(0,[.sl 0 [],.sl 1 [],.sl 2 [],.sl 3 []]),(1,[.sl 4 [],.sl 5 [],.sl 6 [],.sl 7 []]),(2,[.sl 8 [],.sl 9 [],.sl 10 [],.sl 11 [],.sl 12 [],ti,ti,.sl 13 [],ti])],ro:=[(0,.sl .int,true),(1,.mon,true),(2,.entry,true),(3,.entry,true),(4,.sl .int,true),(5,.mon,true),(6,.entry,true),(7,.entry,true),(8,.slot,true),(9,.sl .int,true),(10,.bool,true),(11,.guest,true),(12,.int,true),(13,.kept,true)]}),(280,1005039,{n:=200,tm:=[(1,ti),(2,ti),(3,ti),(4,ti),(5,.b),(12,.lp 0 0),(15,.lp 1 0),(18,ti)],lo:=[(0,[.sl 0 [],.sl 1 [],.sl 2 [],.sl 3 []]),(1,[.sl 4 [],.sl 5 [],.sl 6 [],.sl 7 []])],ro:=[(0,.sl .int,true),(1,.mon,true),(2,.entry,true),(3,.entry,true),(4,.sl .int,true),(5,.mon,true),(6,.entry,true),(7,.entry,true)]}),(280,1009019,{n:=200,tm:=[(1,ti),(2,ti),(3,ti),(4,ti),(12,.lp 0 0),(15,.lp 1 0),(18,ti),(20,.lp 1 3),(21,ti)],lo:=[(0,[.sl 0 [],.sl 1 [],.sl 2 [],.sl 3 []]),(1,[.sl 4 [],.sl 5 [],.sl 6 [],.sl 7 []])],ro:=[(0,.sl .int,true),(1,.mon,true),(2,.entry,true),(3,.entry,true),(4,.sl .int,true),(5,.mon,true),(6,.entry,true),(7,.entry,true)]}),(280,1011005,{n:=200,tm:=[(3,ti),(12,.lp 0 0),(15,.lp 1 0),(20,.lp 1 3),(21,ti),(24,.lp 2 0)],lo:=[(0,[.sl 0 [],.sl 1 [],.sl 2 [],.sl 3 []]),(1,[.sl 4 [],.sl 5 [],.sl 6 [],.sl 7 []]),(2,[ti,ti])],ro:=[(0,.sl .int,true),(1,.mon,true),(2,.entry,true),(3,.entry,true),(4,.sl .int,true),(5,.mon,true),(6,.entry,true),(7,.entry,true)]}),(280,1001009019,{n:=200,tm:=[(1,ti),(2,ti),(3,ti),(4,ti),(12,.lp 0 0),(15,.lp 1 0),(18,ti),(20,.lp 1 2),(21,ti)],lo:=[(0,[.sl 0 [],.sl 1 [],.sl 2 [],.sl 3 []]),(1,[.sl 4 [],.sl 5 [],.sl 6 [],.sl 7 []])],ro:=[(0,.sl .int,true),(1,.mon,true),(2,.entry,true),(3,.entry,true),(4,.sl .int,true),(5,.mon,true),(6,.entry,true),(7,.entry,true)]}),(280,1001011005,{n:=200,tm:=[(3,ti),(12,.lp 0 0),(15,.lp 1 0),(20,.lp 1 2),(21,ti),(24,.lp 2 0)],lo:=[(0,[.sl 0 [],.sl 1 [],.sl 2 [],.sl 3 []]),(1,[.sl 4 [],.sl 5 [],.sl 6 [],.sl 7 []]),(2,[ti,ti])],ro:=[(0,.sl .int,true),(1,.mon,true),(2,.entry,true),(3,.entry,true),(4,.sl .int,true),(5,.mon,true),(6,.entry,true),(7,.entry,true)]})]
theorem z5C {N:Nat}{r:Host}{m g a:Int}(b:r.IoBuffer.length<=1048576) :
 zsJ N a (ziu m g) (zgP (zdn r m g) a).Page (zgP (zdn r m g) a).Rights r.Memory r.Mons r.Buffer r.IoBuffer=some (zlw<|zf5 r m g a true):=by
 unfold zsJ oN
 conv=>zeta
 exact must (zbp b) rfl
theorem z5E {N:Nat}{r:Host}{m g a:Int}(b:r.Buffer.length<=1048576) :
 zsL N a (ziu m g) (zgP (zdn r m g) a).Page (zgP (zdn r m g) a).Rights r.Memory r.Mons r.Buffer r.IoBuffer=some (zlw<|zf5 r m g a false):=by
 unfold zsL oN
 conv=>zeta
 exact must (zbp b) rfl
theorem z3r {N:Nat}{r:Host}{m g a b q:Int}{R:OA}{r10}{u5 u6 u7 u8 u9}(A:LookAt r m g q b)(c:r10 (a,u5,(zgP (zdn (zdD (mended r m q b) m g a) m g) a).Page,(zgP (zdn (zdD (mended r m q b) m g a) m g) a).Rights,u6,u7,u8,u9,(zdD (mended r m q b) m g a).Memory,(zdD (mended r m q b) m g a).Mons,(zdD (mended r m q b) m g a).Buffer,(zdD (mended r m q b) m g a).IoBuffer,())=R) :
 zt9 N r.Memory r.Mons r.Buffer r.IoBuffer m q b g a r10 u5 u6 u7 u8 u9=R:=by
 have M:=zno A.kp A.hm A.hg;have F:=zno (A.fill a) A.hm A.hg;unfold zt9 oN
 conv=>zeta
 exact must (zbp A.mend) (must (zy M.hm)<|must (zy M.ht)<|must (zy M.hg)<|must (zbp M.hk)<|must (zy M.ht)<|shr<|must (zy F.ht) (must rfl c))
theorem z8B {N:Nat}{r:Host}{m g a b q:Int}{c:Bool}{r10}{u5 u6 u7 u8 u9}(A:LookAt r m g q b)(h:r10 (a,u5,(zgP (zdn (zdD (mended r m q b) m g a) m g) a).Page,(zgP (zdn (zdD (mended r m q b) m g a) m g) a).Rights,u6,u7,u8,u9,(zdD (mended r m q b) m g a).Memory,(zdD (mended r m q b) m g a).Mons,(zdD (mended r m q b) m g a).Buffer,(zdD (mended r m q b) m g a).IoBuffer,())=some (zlw<|zf5 (zdD (mended r m q b) m g a) m g a c))(i:r10 (a,u5,(zgP (zdn r m g) a).Page,(zgP (zdn r m g) a).Rights,u6,u7,u8,u9,r.Memory,r.Mons,r.Buffer,r.IoBuffer,())=some (zlw<|zf5 r m g a c)) :
 zpK N r.Mons m g a r.Memory r.Buffer r.IoBuffer q b r10 u5 u6 u7 u8 u9=some (zlw<|cond (zfM r m g a b) (zf5 (zdD (mended r m q b) m g a) m g a c)<|zf5 r m g a c):=by
 unfold zpK oN nB
 conv=>zeta
 refine brN (λd=>?_) (λd=>br (λe=>?_) λe=>must rfl (brN (λf=>?_) λf=>?_))
 .rw [ztY<|zYr d];exact z3r A h
 .rw [ztY<|zYs e];exact z3r A h
 .rw [ztY<|zYt f];exact z3r A h
 .rw [zYa<|zYu d e f];exact i
theorem z5D {N:Nat}{r:Host}{m g a b q:Int}{u6 u7 u8 u9}(A:LookAt r m g q b) :
 zsK N m g a b q (ziu m g) u6 u7 u8 u9 r.Memory r.Mons r.Buffer r.IoBuffer=some (zlw<|cond (zfM r m g a b) (zf5 (zdD (mended r m q b) m g a) m g a true)<|zf5 r m g a true):=by
 have M:=zno ⟨A.fit.1,rfl⟩ A.hm A.hg;have F:=zno (A.fill a) A.hm A.hg;unfold zsK oN
 conv=>zeta
 exact must (zy M.hm) (must (zy M.ht) (must rfl (shr<|z8B A (z5C (r:=zdD (mended r m q b) m g a) (m:=m) (g:=g) F.hi)<|z5C (r:=r) (m:=m) (g:=g) M.hi)))
theorem z5F {N:Nat}{r:Host}{m g a b q:Int}{u6 u7 u8 u9}(A:LookAt r m g q b) :
 zsM N m g a b q (ziu m g) u6 u7 u8 u9 r.Memory r.Mons r.Buffer r.IoBuffer=some (zlw<|cond (zfM r m g a b) (zf5 (zdD (mended r m q b) m g a) m g a false)<|zf5 r m g a false):=by
 have M:=zno ⟨A.fit.1,rfl⟩ A.hm A.hg;have F:=zno (A.fill a) A.hm A.hg;unfold zsM oN
 conv=>zeta
 exact must (zy M.hm) (must (zy M.ht) (must rfl (shr<|z8B A (z5E (r:=zdD (mended r m q b) m g a) (m:=m) (g:=g) F.hb)<|z5E (r:=r) (m:=m) (g:=g) M.hb)))
theorem z5G {N:Nat}{r:Host}{m g b a q:Int}{e:Bool}{u6 u7 u8 u9}(A:LookAt r m g q a) :
 zsN N m g b a e q u6 u7 u8 u9 r.Memory r.Mons r.Buffer r.IoBuffer=some (zlw<|zjX r (ztl r e) m g b a q e):=by
 unfold zsN oN
 conv=>zeta
 cases e
 .show _=some (zlw<|zjX r r.Buffer m g b a q false)
  refine zbA rfl (must rfl (shr (must rfl (br (λc=>must rfl (br (λd=>?_) λd=>?_)) λc=>?_))))
  .rw [zDA<|zps c d];rfl
  .rw [zpx<|zps c d];exact z5F A
  .rw [zpx<|zDw c];exact z5F A
 .show _=some (zlw<|zjX r r.IoBuffer m g b a q true)
  refine must rfl (must rfl (shr (must rfl (br (λc=>must rfl (br (λd=>?_) λd=>?_)) λc=>?_))))
  .rw [zDA<|zps c d];rfl
  .rw [zpx<|zps c d];exact z5D A
  .rw [zpx<|zDw c];exact z5D A
theorem z9g (r:Host)(m q:Int)(a:Bool):ztl (zb1 r m q) a=ztl r a:=by cases a<;>rfl
theorem z5H {N:Nat}{r:Host}{m g b a:Int}{c:Bool}{z1 z2 z3 z4}(k:SmH r)(hg:zcn r m g=true)(h:zi9 a=true) :
 zsO N m g b a c z1 z2 z3 z4 r.Memory r.Mons r.Buffer r.IoBuffer (ix r.Mons m mZ).Guests=some (zlw (lookOf r (ztl r c) m g b a c)):=by
 obtain⟨l,f,i⟩:=zdc hg;unfold zsO oN nB
 conv=>zeta
 refine must (zy i) (must rfl (brN (fun e=>?_) (fun e=>?_)))
 .have:zb8 r m g b a=false:=by
   unfold zb8;rw[hg,h,show zie (zea r m g) b a=false from e];rfl
  rw[ziU this];rfl
 .have hl:zb8 r m g b a=true:=by
   unfold zb8;rw[hg,h,show zie (zea r m g) b a=true from e];rfl
  obtain⟨A,B⟩:=zCM k hl;rw[zIj hl];have j:hasB (zde (zea r m g) b a) (ln (ix r.Mons m mZ).Dirty)=true:=zdX (zcr A.fit.1 f).2.2.2.1 A.hq;refine shr (br (fun d=>?_) (fun d=>?_))
  .rw [d]
   show _=some (zlw (zjX (zb1 r m (zde (zea r m g) b a)) (ztl r c) m g b a (zde (zea r m g) b a) c))
   rw[<- z9g r m (zde (zea r m g) b a) c];exact must (zy f) (must (zy j) (shr (z5G (r:=zb1 r m (zde (zea r m g) b a)) B)))
  .rw [d];exact z5G A
theorem zUC (a:Host)(b d:Int)(e c:Int)(f:Bool)(s:ztv a b d e c f=true):∃N,zI2 N a b d e c f=some [aH<|zts a b d e c f,aI<|ztt a b d e c f,aB<|ztu a b d e c f]:=by
 have i:=(zJ a).1 (zB.1 s);refine⟨0,?_⟩;show _=some (zlw<|lookOf a (ztl a f) b d e c f);unfold zI2 oN nB;conv=>zeta
 refine must (zbp<|(zJ _).2 i) (must (zbp<|(zJ _).2 i)<|shr (must rfl (brN (λj=>?_) λj=>?_)));{rw [ziU<|zpy<|zM4 j];rfl};refine brN (λg=>?_) (λg=>?_);{rw [ziU<|zpy<|zM5 g];rfl};have q:zcz a b=ix a.Mons b mZ:=(by unfold zcz;rw[show hasB b (ln a.Mons)=true from g];rfl);rw[q];refine must rfl (brN (λk=>?_) λk=>?_);{rw [ziU<|zpy<|zM6 k];rfl};have hg:=zM7 j g k;have m:∀{n:Int},zi9 n=false->zb8 a b d e n=false:=λ{n} h=>(by unfold zb8;rw[hg,h];rfl);rw[zjE,zjE];cases l:ieq c 1;{cases p:ieq c 2;{have:zi9 c=false:=(by unfold zi9;rw[l,p];rfl);rw[ziU<|m this];rfl};{exact z5H (r:=a) i hg (by unfold zi9;rw[l,p];rfl)}};{exact z5H (r:=a) i hg (by unfold zi9;rw[l];rfl)}
theorem zND:vF 280 zC0:=kF6 zi4 zl zbs zh2 zV8 zUC
def z5m:zY:=[(280,zC0),(129,zrn)]++zop
theorem zTM:zK z5m:=zf zND (zf zHH zi4)
@[simp] abbrev zlr (h:Host)(m g b a:Int):Bool:=pc (zdJ h)
@[simp] abbrev ztq (h:Host)(m g page need:Int):Host:=(lookOf h h.Buffer m g page need false).1
@[simp] abbrev ztr (h:Host)(m g page need:Int):Int:=(lookOf h h.Buffer m g page need false).2.1
@[simp] abbrev zyJ (h:Host)(m g b a:Int):Bool:=(lookOf h h.Buffer m g b a false).2.2
def zCX:Run:=rF5 dH dI dI dI dI λb c d e f=>(zlr b c d e f,[aH<|ztq b c d e f,aI<|ztr b c d e f,aB<|zyJ b c d e f])
def zIP (N:Nat)(a:Host)(b c:Int)(d e:Int):OA:=
 (oN (ztv a b c d e false)<|some [aH<|zts a b c d e false,aI<|ztt a b c d e false,aB<|ztu a b c d e false])
theorem zUo (a:Host)(b c:Int)(d e:Int)(f:zlr a b c d e=true):∃N,zIP N a b c d e=some [aH<|ztq a b c d e,aI<|ztr a b c d e,aB<|zyJ a b c d e]:=by refine⟨0,?_⟩;unfold zIP oN;exact must f rfl
theorem zNl:vF 163 zCX:=kF5 zTM zl zbs zh2 (zq []) zUo
def z5n:zY:=[(163,zCX)]++z5m
theorem z3b:zK z5n:=zf zNl zTM
def z0X:zY:=[(174,zkS)]++z5n
theorem zQt:zK z0X:=zf zuv z3b
def zxO:Run:=rF3 dH dI dI λb c d=>(zcY b c d,[aH<|zcb b c d,aB<|zch b c d])
abbrev ziM (a:Host)(b c:Int):Int :=
 (zgG<|ix (zcz a b).Guests c zu)
abbrev zdk (a:Host)(b c:Int):Int :=
 (zg3<|ix (zcz a b).Guests c zu)
abbrev zwW (a:Host)(b c:Int):Host :=
 (ztq a b c (zbm<|ziM a b c)<|zco<|ieq (zdk a b c) 4)
abbrev ziL (a:Host)(b c:Int):Guest :=
 (ix (ix (zi a).Mons b zh).Guests c zu)
abbrev zm6 (c:lN)(a b:Int):Guest :=
 (ix (ix c a zh).Guests b zu)
abbrev zwX (a:Host)(b c:Int):Int :=
 (ztr a b c (zbm<|ziM a b c)<|zco<|ieq (zdk a b c) 4)
def zm7 (N:Nat)(f:Host)(c d:Int):OA:=
 let j:=zwX f c d;let h:=ieq (zdk f c d) 4;let a:=ziM f c d;let b:=zwW f c d;let k:=inb c<|ln b.Mons;let e:=ix (zcz f c).Guests d zu;let g:=ix b.Mons c zh;let l:=inb d<|ln g.Guests; (oN (zbi a)<|oN (ziq h)<|oN (zlr f c d (zbm a)<|zco h)<|cond (nB<|zyJ f c d (zbm a)<|zco h) (oN (zbi a)<|oN (zfQ (zbm a) h)<|oN (zbZ e<|zej (zbm a) h)<|oN k<|oN l<|share (up b.Mons c ({g with Guests:=(up g.Guests d<|zca e<|zej (zbm a) h)}:Mon)) λi=>some [aH ({b with Mons:=i}:Host),aB true])<|cond h (oN (zbi a)<|oN (zcL b.Memory j (zbX a) e.A)<|oN (zF e)<|oN k<|oN l<|share (up b.Mons c ({g with Guests:=(up g.Guests d<|zbO e)}:Mon)) λi=>some [aH ({b with Memory:=(zcS b.Memory j (zbX a) e.A),Mons:=i}:Host),aB true])<|oN (zbi a)<|oN (zdO b.Memory j<|zbX a)<|oN (zj0 e<|zeV b.Memory j<|zbX a)<|oN k<|oN l<|share (up b.Mons c ({g with Guests:=(up g.Guests d<|zjq e<|zeV b.Memory j<|zbX a)}:Mon)) λi=>some [aH ({b with Mons:=i}:Host),aB true])
def zm8 (N:Nat)(f:Host)(a b:Int)(d:lN):OA:=
 let c:=zm6 d a b;let e:=ix d a zh;let g:=({ (ziL f a b) with Prog:=c.Prog,Written:=c.Written,Live:=c.Live,Seen:=c.Seen}:Guest); (oN (zF g)<|oN (inb b<|ln e.Guests)<|share (up d a ({e with Guests:=(up e.Guests b<|zbO g)}:Mon)) λh=>some [aH ({ (zi f) with Mons:=h}:Host),aB true])
def zm9 (N:Nat)(e:Host)(a d:Int):OA:=
 let g:=(zi e).Mons;let c:=ziL e a d;let b:=ix g a zh;let h:=ap b.Outs [(zdr c.Prog c.Pc).X]; (cond (ieq (zdk e a d) 7) (oN (zF c)<|oN (inb d<|ln b.Guests)<|share (up g a ({b with Guests:=(up b.Guests d<|zji c)}:Mon)) λf=>some [aH ({ (zi e) with Mons:=f}:Host),aB true])<|cond (ilt (ln b.Outs) 40) (oN (zdi c.Prog c.Pc)<|oN (few<|ln h)<|oN (cond (ieq a a) true false)<|share (up g a ({b with Outs:=h}:Mon)) λf=>zm8 N e a d f)<|oN (zF c)<|oN (inb d<|ln b.Guests)<|share (up g a ({b with Guests:=(up b.Guests d<|zbO c)}:Mon)) λf=>some [aH ({ (zi e) with Mons:=f}:Host),aB true])
def zna (N:Nat)(a:Int)(g:Host)(b:Int):OA:=
 let f:=zi g;let j:=zdk g a b;let d:=ziL g a b;let c:=ix f.Mons a zh;let l:=zlh c.Traps d.Ctl.Traps<|zi7 j; (oN (inb a<|ln f.Mons)<|oN (inb b<|ln c.Guests)<|oN (zpZ j)<|oN (zok c.Traps d.Ctl.Traps<|zi7 j)<|cond (ieq l 1) (oN (zn7 d j)<|oN (inb b<|ln c.Guests)<|share (up f.Mons a ({c with Guests:=(up c.Guests b<|zle d j)}:Mon)) λe=>some [aH ({f with Mons:=e}:Host),aB true])<|cond (ieq l 2) (cond (ilt c.Own 1000000000) (share (up f.Mons a ({c with Own:=(zG .i64 c.Own 1)}:Mon)) (λe=>let i:=ix e a zh;let h:=zm6 e a b;let k:=ap i.Outs [(zdr h.Prog d.Pc).X];let q:=({d with Prog:=h.Prog,Written:=h.Written,Live:=h.Live,Seen:=h.Seen}:Guest); (cond (ieq j 7) (oN (zF q)<|oN (inb b<|ln i.Guests)<|share (up e a ({i with Guests:=(up i.Guests b<|zji q)}:Mon)) λm=>some [aH ({f with Mons:=m}:Host),aB true])<|cond (ilt (ln i.Outs) 40) (oN (zdi h.Prog d.Pc)<|oN (few<|ln k)<|oN (cond (ieq a a) true false)<|share (up e a ({i with Outs:=k}:Mon)) (λm=>let p:=ix m a zh;let n:=ix p.Guests b zu;let r:=({d with Prog:=n.Prog,Written:=n.Written,Live:=n.Live,Seen:=n.Seen}:Guest); (oN (zF r)<|oN (inb b<|ln p.Guests)<|share (up m a ({p with Guests:=(up p.Guests b<|zbO r)}:Mon)) λs=>some [aH ({f with Mons:=s}:Host),aB true])))<|zm8 N g a b e)))<|zm9 N g a b)<|zm9 N g a b)
def zkB (N:Nat)(a:Host)(b c:Int):OA:=
 (oN (zcV a b)<|oN (zbF (zdT a b) c)<|oN (inb b<|ln (zi a).Mons)<|share (up (zi a).Mons b ({ (ix (zi a).Mons b zh) with Guests:=(zeU (zdT a b) c).Guests}:Mon)) λd=>some [aH ({ (zi a) with Mons:=d}:Host),aB true])
def zgN (N:Nat)(a:Host)(b c:Int):OA:=
 let d:=zdk a b c; (cond (ieq d 5) (cond (ieq d 5) (zna N b a c)<|zkB N a b c)<|cond (ieq d 7) (zna N b a c)<|zkB N a b c)
def zAX (N:Nat)(a:Host)(c b:Int):OA:=
 let f:=aH<|zi a;let e:=zdk a c b;let d:=(zcz a c).Guests;let g:=ix d b zu; (oN (zL a)<|oN (zcV a c)<|oN (zb2 a)<|cond (nB<|zb0 a) (some [f,aB false])<|cond (nB<|zmJ a c) (some [f,aB false])<|oN (zZ b<|ln d)<|cond (nB<|zbH b<|ln d) (some [f,aB false])<|oN (inb b<|ln d)<|oN (zbo g)<|cond (ieq e 0) (some [f,aB false])<|oN (inb b<|ln d)<|oN (zbo g)<|oN (zbo g)<|cond (ieq e 3) (cond (ieq e 3) (zm7 N a c b)<|zgN N a c b)<|cond (ieq e 4) (zm7 N a c b)<|zgN N a c b)
theorem zU6 {h:Host}{m:Int}(a:hasB m (ln h.Mons)=true):zcz h m=ix h.Mons m mZ:=by unfold zcz;rw[a];rfl
theorem z8x {N:Nat}{a:Host}{c d:Int}(l:SmH a)(p:zcn a c d=true) :
 zm7 N a c d=some (zeJ (zks (zkv a c d (gOf a c d)<|ieq (zM<|gOf a c d) 4) c d (gOf a c d)<|ieq (zM<|gOf a c d) 4,true)):=by
 obtain⟨s,i,n⟩:=zdc p;have m:=zlW l i n;have k:=ztX (b:=a.Buffer) (page:=zcj (address<|gOf a c d)) (need:=zgM (ieq (zM<|gOf a c d) 4)) (io:=false) l p;have F:=zno k i n;have g:=zU6 i;have e:zdk a c d=zM (gOf a c d):=by show zg3 (ix (zcz a c).Guests d gZ)=_;rw[g];rfl
 have f:ziM a c d=address (gOf a c d):=by show zgG (ix (zcz a c).Guests d gZ)=_;rw[g];rfl
 have q:zwW a c d=(zkv a c d (gOf a c d)<|ieq (zM<|gOf a c d) 4).1:=by show ztq a c d (zbm<|ziM a c d) (zco<|ieq (zdk a c d) 4)=_;rw[e,f];rfl
 have r:zwX a c d=(zkv a c d (gOf a c d)<|ieq (zM<|gOf a c d) 4).2.1:=by show ztr a c d (zbm<|ziM a c d) (zco<|ieq (zdk a c d) 4)=_;rw[e,f];rfl
 unfold zm7 oN nB
 conv=>zeta
 rw[q,e,f,r,g];unfold zks;refine must rfl (must rfl (must (zbp<|(zJ _).2 l)<|brN (λh=>?_) λh=>?_))
 .rw [show (zkv a c d (gOf a c d)<|ieq (zM<|gOf a c d) 4).2.2=false from h]
  exact must rfl (must rfl (must (zbp m)<|must (zy F.hm) (must (zy F.hg) rfl)))
 .rw [show (zkv a c d (gOf a c d)<|ieq (zM<|gOf a c d) 4).2.2=true from h]
  refine br (λj=>?_) (λj=>?_)
  .have kk:=k.shape.1.1;rw[j] at F kk ⊢;exact must rfl (must (zbp kk)<|must (zbp m)<|must (zy F.hm) (must (zy F.hg) rfl))
  .rw [j] at F ⊢;exact must rfl (must rfl (must (zbp m)<|must (zy F.hm) (must (zy F.hg) rfl)))
theorem z9K {N:Nat}{c:Host}{d:List Mon}{a b:Int}(g:SmG (gOf c a b))(f:hasB b (ln (ix d a mZ).Guests)=true)(e:zm6 d a b=ziL c a b) :
 zm8 N c a b d=some (zeJ (zhH {c with Mons:=d} a b<|zb3<|gOf c a b,true)):=by
 unfold zm8 oN
 conv=>zeta
 rw[e];exact must (zbp g) (must (zy f) rfl)
def leftG (x:Guest)(w:Int):Guest:=bif ieq w 7 then held x else zb3 x
def zyT (h:Host)(m:Int)(x:Guest)(w:Int):Host:=bif ieq w 7 then h else zmO h m (zeO x.Prog x.Pc).X
theorem zxD {h:Host}{m:Int}{x:Guest}{w:Int}(a:ieq w 7=true):leftG x w=held x/\zyT h m x w=h:=by unfold leftG zyT;rw[a];exact⟨rfl,rfl⟩
theorem zn8 {h:Host}{m:Int}{x:Guest}{w:Int}(a:ieq w 7=false):leftG x w=zb3 x/\zyT h m x w=zmO h m (zeO x.Prog x.Pc).X:=by unfold leftG zyT;rw[a];exact⟨rfl,rfl⟩
theorem zYg {h:Host}{m n:Int}(a:ilt (ln (ix h.Mons m mZ).Outs) 40=true):zmO h m n={h with Mons:=up h.Mons m {ix h.Mons m mZ with Outs:=ap (ix h.Mons m mZ).Outs [n]}}:=by unfold zmO;rw[a];rfl
theorem zYf {h:Host}{m n:Int}(a:ilt (ln (ix h.Mons m mZ).Outs) 40=false):zmO h m n=h:=by unfold zmO;rw[a];rfl
theorem z9L {N:Nat}{b:Host}{a c:Int}(k:SmH b)(g:hasB a (ln b.Mons)=true)(e:hasB c (ln (ix b.Mons a mZ).Guests)=true)(j:zdk b a c=zM (gOf b a c)) :
 zm9 N b a c=some (zeJ (zhH (zyT b a (gOf b a c)<|zM<|gOf b a c) a c<|leftG (gOf b a c)<|zM<|gOf b a c,true)):=by
 have i:=zlW k g e;unfold zm9 oN
 conv=>zeta
 rw[j];refine br (λd=>?_) (λd=>br (λf=>?_) λf=>?_)
 .rw [(zxD (x:=gOf b a c) (h:=b) (m:=a) d).1,(zxD (x:=gOf b a c) d).2];exact must (zbp i) (must (zy e) rfl)
 .rw [(zn8 (x:=gOf b a c) (h:=b) (m:=a) d).1,(zn8 (x:=gOf b a c) d).2,zYg f];refine must rfl (must (zS1 f)<|must (zK8 _)<|shr<|z9K i ?_ ?_)
  .rw [zp5 g];exact e
  .show ix (ix (up b.Mons a _) a mZ).Guests c gZ=_
   rw[zp5 g]
 .rw [(zn8 (x:=gOf b a c) (h:=b) (m:=a) d).1,(zn8 (x:=gOf b a c) d).2,zYf f];exact must (zbp i) (must (zy e) rfl)
theorem z8R {h:Host}{m g:Int}{x:Guest}{w:Int}(d:ieq w 6=false)(c:ieq w 5=false->ieq w 6=false->ieq w 7=true)(e:zeo x.Ctl.Traps (zgw w)=false):zmu h m g x w=zhH (zyT (zhx h m x w) m x w) m g (leftG x w):=by unfold zmu;cases b:ieq w 7;{have a:ieq w 5=true:=(by cases a:ieq w 5;{have:=c a d;rw[b] at this;cases this};{rfl});obtain⟨f,i⟩:=tr3 x x.Ctl.Traps w d b e a;rw[(zn8 (x:=x) (h:=zhx h m x w) (m:=m) b).1,(zn8 (x:=x) b).2,f];unfold zlI;rw[i,a];rfl};{have a:ieq w 5=false:=(by have:w=7:=qD b;rw[this];rfl);rw[(zxD (x:=x) (h:=zhx h m x w) (m:=m) b).1,(zxD (x:=x) b).2,tr4 x x.Ctl.Traps w d c e a,zDe a]}
theorem z9O {f:Host}{d:List Mon}{a c:Int}(h:SmG (gOf f a c))(g:hasB c (ln (ix d a mZ).Guests)=true)(e:(ix (ix d a zh).Guests c zu)=gOf f a c) :
 (cond (zF ({ (ix (ix (zi f).Mons a zh).Guests c zu) with Prog:=(ix (ix d a zh).Guests c zu).Prog,Written:=(ix (ix d a zh).Guests c zu).Written,Live:=(ix (ix d a zh).Guests c zu).Live,Seen:=(ix (ix d a zh).Guests c zu).Seen}:Guest)) (cond (inb c<|ln (ix d a zh).Guests) (share (up d a ({ (ix d a zh) with Guests:=(up (ix d a zh).Guests c<|zbO ({ (ix (ix (zi f).Mons a zh).Guests c zu) with Prog:=(ix (ix d a zh).Guests c zu).Prog,Written:=(ix (ix d a zh).Guests c zu).Written,Live:=(ix (ix d a zh).Guests c zu).Live,Seen:=(ix (ix d a zh).Guests c zu).Seen}:Guest))}:Mon)) λi=>some [.agg<|zbb ({ (zi f) with Mons:=i}:Host),.one<|.b true]) none) none)=some (zeJ (zhH {f with Mons:=d} a c<|zb3<|gOf f a c,true)):=by
 rw[e];exact must (zbp h) (must (zy g) rfl)
theorem z9N {f:Host}{d:List Mon}{a c:Int}(l:SmG (gOf f a c))(n:hasB a (ln d)=true)(k:hasB c (ln (ix d a mZ).Guests)=true)(e:(ix (ix d a zh).Guests c zu)=gOf f a c) :
 (cond (ieq (zM<|gOf f a c) 7) (cond (zF ({ (ix (ix (zi f).Mons a zh).Guests c zu) with Prog:=(ix (ix d a zh).Guests c zu).Prog,Written:=(ix (ix d a zh).Guests c zu).Written,Live:=(ix (ix d a zh).Guests c zu).Live,Seen:=(ix (ix d a zh).Guests c zu).Seen}:Guest)) (cond (inb c<|ln (ix d a zh).Guests) (share (up d a ({ (ix d a zh) with Guests:=(up (ix d a zh).Guests c<|zji ({ (ix (ix (zi f).Mons a zh).Guests c zu) with Prog:=(ix (ix d a zh).Guests c zu).Prog,Written:=(ix (ix d a zh).Guests c zu).Written,Live:=(ix (ix d a zh).Guests c zu).Live,Seen:=(ix (ix d a zh).Guests c zu).Seen}:Guest))}:Mon)) λg=>some [.agg<|zbb ({ (zi f) with Mons:=g}:Host),.one<|.b true]) none) none)<|cond (ilt (ln (ix d a zh).Outs) 40) (cond (zdi (ix (ix d a zh).Guests c zu).Prog (ix (ix (zi f).Mons a zh).Guests c zu).Pc) (cond (few<|ln<|ap (ix d a zh).Outs [(zdr (ix (ix d a zh).Guests c zu).Prog (ix (ix (zi f).Mons a zh).Guests c zu).Pc).X]) (cond (cond (ieq a a) true false) (share (up d a ({ (ix d a zh) with Outs:=(ap (ix d a zh).Outs [(zdr (ix (ix d a zh).Guests c zu).Prog (ix (ix (zi f).Mons a zh).Guests c zu).Pc).X])}:Mon)) λg=>cond (zF ({ (ix (ix (zi f).Mons a zh).Guests c zu) with Prog:=(ix (ix g a zh).Guests c zu).Prog,Written:=(ix (ix g a zh).Guests c zu).Written,Live:=(ix (ix g a zh).Guests c zu).Live,Seen:=(ix (ix g a zh).Guests c zu).Seen}:Guest)) (cond (inb c<|ln (ix g a zh).Guests) (share (up g a ({ (ix g a zh) with Guests:=(up (ix g a zh).Guests c<|zbO ({ (ix (ix (zi f).Mons a zh).Guests c zu) with Prog:=(ix (ix g a zh).Guests c zu).Prog,Written:=(ix (ix g a zh).Guests c zu).Written,Live:=(ix (ix g a zh).Guests c zu).Live,Seen:=(ix (ix g a zh).Guests c zu).Seen}:Guest))}:Mon)) λp=>some [.agg<|zbb ({ (zi f) with Mons:=p}:Host),.one<|.b true]) none) none) none) none) none)<|cond (zF ({ (ix (ix (zi f).Mons a zh).Guests c zu) with Prog:=(ix (ix d a zh).Guests c zu).Prog,Written:=(ix (ix d a zh).Guests c zu).Written,Live:=(ix (ix d a zh).Guests c zu).Live,Seen:=(ix (ix d a zh).Guests c zu).Seen}:Guest)) (cond (inb c<|ln (ix d a zh).Guests) (share (up d a ({ (ix d a zh) with Guests:=(up (ix d a zh).Guests c<|zbO ({ (ix (ix (zi f).Mons a zh).Guests c zu) with Prog:=(ix (ix d a zh).Guests c zu).Prog,Written:=(ix (ix d a zh).Guests c zu).Written,Live:=(ix (ix d a zh).Guests c zu).Live,Seen:=(ix (ix d a zh).Guests c zu).Seen}:Guest))}:Mon)) λg=>some [.agg<|zbb ({ (zi f) with Mons:=g}:Host),.one<|.b true]) none) none)=some (zeJ (zhH (zyT {f with Mons:=d} a (gOf f a c)<|zM<|gOf f a c) a c<|leftG (gOf f a c)<|zM<|gOf f a c,true)):=by
 rw[e];refine br (λi=>?_) (λi=>br (λj=>?_) λj=>?_)
 .rw [(zxD (x:=gOf f a c) (h:={f with Mons:=d}) (m:=a) i).1,(zxD (x:=gOf f a c) i).2];exact must (zbp l) (must (zy k) rfl)
 .rw [(zn8 (x:=gOf f a c) (h:={f with Mons:=d}) (m:=a) i).1,(zn8 (x:=gOf f a c) i).2,zYg (h:={f with Mons:=d}) j];refine must rfl (must (zS1 j)<|must (zK8 _)<|shr<|z9O l ?_ ?_)
  .rw [zp5 (h:={f with Mons:=d}) n];exact k
  .show ix (ix (up d a _) a mZ).Guests c gZ=_
   rw[zp5 (h:={f with Mons:=d}) n];exact e
 .rw [(zn8 (x:=gOf f a c) (h:={f with Mons:=d}) (m:=a) i).1,(zn8 (x:=gOf f a c) i).2,zYf (h:={f with Mons:=d}) j];exact must (zbp l) (must (zy k) rfl)
theorem tf (b:Bool):b=false\/b=true:=by cases b<;>simp
theorem z9M {N:Nat}{a:Host}{b c:Int}(r:SmH a)(d:hasB b (ln a.Mons)=true)(e:hasB c (ln (ix a.Mons b mZ).Guests)=true)(q:zdk a b c=zM (gOf a b c))(l:ieq (zM<|gOf a b c) 6=false)(f:ieq (zM<|gOf a b c) 5=false->ieq (zM<|gOf a b c) 6=false->ieq (zM<|gOf a b c) 7=true) :
 zna N b a c=some (zeJ (zmu a b c (gOf a b c)<|zM<|gOf a b c,true)):=by
 have s:=zlW r d e;have n:=z9L (N:=N) r d e q;have g:ine (zM<|gOf a b c) 6=true:=by rw[zjE,l];rfl
 unfold zna oN
 conv=>zeta
 rw[q];refine must (zy d) (must (zy e) (must rfl (must rfl ?_)));rw[show ieq (zlh (ix a.Mons b zh).Traps (ziL a b c).Ctl.Traps<|zi7<|zM<|gOf a b c) 1=zeo (gOf a b c).Ctl.Traps (zgw<|zM<|gOf a b c) from z8F _ _ _]
 refine br (λh=>?_) (λh=>?_)
 .obtain⟨e1,e2⟩:=tr2 (gOf a b c) (gOf a b c).Ctl.Traps _ l f h;have i:zhx a b (gOf a b c) (zM<|gOf a b c)=a:=by unfold zhx;rw[g,z8G h];rfl
  unfold zmu;rw[i,zMo e2,e1];exact must (zbp s) (must (zy e) rfl)
 .rw [z8R l f h];have i:zhx a b (gOf a b c) (zM<|gOf a b c)=bif ieq (zo8 (ix a.Mons b mZ).Traps (gOf a b c).Ctl.Traps<|zgw<|zM<|gOf a b c) 2 then owned a b else a:=by unfold zhx;rw[g];rfl
  rw[i];refine br (λm=>?_) (λm=>?_)
  .rw [show ieq (zo8 (ix a.Mons b mZ).Traps (gOf a b c).Ctl.Traps<|zgw<|zM<|gOf a b c) 2=true from m]
   simp only[cT];unfold owned;refine br (λk=>?_) (λk=>?_)
   rotate_left
   .rw [k];exact n
   rw[k];refine shr ?_;have p:=zp5 d {ix a.Mons b mZ with Own:=zG .i64 (ix a.Mons b mZ).Own 1};have j:hasB b (ln<|up a.Mons b {ix a.Mons b mZ with Own:=zG .i64 (ix a.Mons b mZ).Own 1})=true:=zfm d;have t:zm6 (up a.Mons b {ix a.Mons b mZ with Own:=zG .i64 (ix a.Mons b mZ).Own 1}) b c=ziL a b c:=by show ix (ix (up a.Mons b _) b mZ).Guests c gZ=_;rw[p]
   refine z9N s j ?_ t;rw[p];exact e
  .rw [show ieq (zo8 (ix a.Mons b mZ).Traps (gOf a b c).Ctl.Traps<|zgw<|zM<|gOf a b c) 2=false from m]
   exact n
theorem z3n {N:Nat}{a:Host}{b c:Int}(r:SmH a)(q:zcn a b c=true)(m:ieq (zM<|gOf a b c) 0=false){y:Guest}{o:List Int}(s:(stepped (zS a b) c (gOf a b c)<|zM<|gOf a b c).Guests=up (ix a.Mons b mZ).Guests c y)(p:SmB (zS a b)) :
 zkB N a b c=some (zeJ (zhH a b c y,true)):=by
 obtain⟨k,f,l⟩:=zdc q;have g:=zrG k f;have i:(zS a b).Guests=(ix a.Mons b mZ).Guests:=by unfold zS;rw[f];rfl
 have e:hasB c (ln (zS a b).Guests)=true:=by rw[i];exact l
 have h:gAt (zS a b) c=gOf a b c:=by unfold gAt;rw[e,i];rfl
 have d:zlY (zS a b) c=true:=by unfold zlY;rw[e,g,h,m];rfl
 have j:zi2 (zS a b) c=stepped (zS a b) c (gOf a b c) (zM<|gOf a b c):=by unfold zi2;rw[d,h];rfl
 have n:(zeU (zdT a b) c).Guests=up (ix a.Mons b mZ).Guests c y:=by show (zi2 (zS a b) c).Guests=_;rw[j,s]
 unfold zkB oN;rw[n];exact must (zbp<|(zJ _).2 r) (must (zbp p) (must (zy f) rfl))
theorem zet {h:Host}{m:Int}(g:SmH h)(f:hasB m (ln h.Mons)=true):SmB (zS h m):=by
 have b:=g.2.1.2 _ (zbz f mZ);have e:∀(d:List (List Int)) (q:Int),SmM d->(zkQ d q).length<=1048576:=λd q h=>zVN h;have c:∀p:Int,(zjb h m p).length<=1048576:=by intro p;unfold zjb;cases hasB m (ln h.Mons);{exact(by decide:zzh.length<=1048576)};{cases hasB p 8;{exact(by decide:zzh.length<=1048576)};{simp only [cT];cases ine (ze3 (ix h.Mons m zh).Outer p).Page (-1);{exact e _ _ b.2.1};{exact e _ _ g.1}}}
 have j:∀(n i:Nat),∀x∈zjc h m n i,x.length<=1048576:=by
  intro n
  induction n with
  |zero=>intro i x a;cases a
  |succ n k=>intro i x a;rcases qH.1 a with rfl|a;{exact c _};{exact k (i+1) x a}
 unfold zS;rw[f];exact⟨⟨by show (zjc h m 8 0).length<=1048576;rw[zyY];decide,j 8 0⟩,b.2.2.2.1,b.2.2.2.2.1⟩
theorem zwI (b:Bare)(g:Int)(x:Guest):(zfr b g x).Guests=up b.Guests g x:=rfl
theorem zOw (a:Host)(b c:Int)(q:zbt big [aH a,aI b,aI c])(B:zcY a b c=true):∃N,zAX N a b c=some [aH (zcb a b c),aB (zch a b c)]:=by
 have g:=(zJ a).1 (zB.1 B);refine⟨0,?_⟩;show _=some (zeJ (zcu a b c));unfold zAX oN nB;conv=>zeta
 refine must (zbp ((zJ _).2 g)) (must (zbp ((zJ _).2 g)) (must rfl (brN (fun u=>?_) (fun u=>brN (fun l=>?_) (fun l=>?_)))));{rw [zjN (zM4 u)];rfl};{rw [zjN (zM5 l)];rfl};have y:=zU6 (h:=a) (m:=b) l;have n:zdk a b c=zM (gOf a b c):=(by show zg3 (ix (zcz a b).Guests c gZ)=_;rw[y];rfl);rw[y,n];refine must rfl (brN (fun p=>?_) (fun p=>?_));{rw [zjN (zM6 p)];rfl};have j:=zM7 u l p;have s:hasB b (ln a.Mons)=true:=l;have t:hasB c (ln (ix a.Mons b mZ).Guests)=true:=p;have q:=zet g s;have r:(zS a b).Guests=(ix a.Mons b mZ).Guests:=(by unfold zS;rw[s];rfl);rw[zkq j];unfold zMh;refine must (zy t) (must rfl (br (fun d=>?_) (fun d=>must (zy t) (must rfl (must rfl (br (fun i=>must i ?_) (fun i=>br (fun k=>?_) (fun k=>?_))))))));{rw [d];rfl};{have e:zM (gOf a b c)=3:=qD i;have T:=z8x (N:=0) g j;rw[T];rw[e];rfl};{have e:zM (gOf a b c)=4:=qD k;have T:=z8x (N:=0) g j;rw[T];rw[e];rfl}
 .have fin:∀{R:Host×Bool},zgN 0 a b c=some (zeJ R)->R=(bif ieq (zM (gOf a b c)) 0 then (a,false) else (bif ieq (zM (gOf a b c)) 1 then (zhH a b c (interrupted (gOf a b c)),true) else (bif ieq (zM (gOf a b c)) 2 then (zhH a b c (plainly (gOf a b c)),true) else
   (cond (cond (ieq (zM (gOf a b c)) 3) true (ieq (zM (gOf a b c)) 4)) (zks (zkv a b c (gOf a b c) (ieq (zM (gOf a b c)) 4)) b c (gOf a b c) (ieq (zM (gOf a b c)) 4),true) (zmu a b c (gOf a b c) (zM (gOf a b c)),true)))))->zgN 0 a b c=_:=fun h e=>h.trans (congrArg (fun x=>some (zeJ x)) e)
  have w:ieq (zM (gOf a b c)) 5=false->ieq (zM (gOf a b c)) 7=false->zgN 0 a b c=zkB 0 a b c:=by
   intro v A;unfold zgN;conv=>zeta
   rw[n];exact zbA v (zbA A rfl)
  rcases tf (ieq (zM (gOf a b c)) 1) with f|f
  .rcases tf (ieq (zM (gOf a b c)) 2) with w2|w2
   .rcases tf (ieq (zM (gOf a b c)) 6) with w6|w6
    .have h57:ieq (zM (gOf a b c)) 5=false->ieq (zM (gOf a b c)) 6=false->ieq (zM (gOf a b c)) 7=true:=fun v z=>zTb _ d f w2 i k v z;have T:=z9M (N:=0) g s t n w6 h57;refine fin (R:=(zmu a b c (gOf a b c) (zM (gOf a b c)),true)) ?_ (by rw[d,f,w2,i,k];rfl);unfold zgN;conv=>zeta
     rw[n];cases C:ieq (zM (gOf a b c)) 5;{exact zbA rfl (must (h57 C w6) T)};{exact must rfl (must rfl T)}
    {have e:zM (gOf a b c)=6:=qD w6;refine fin (R:=(zhH a b c (zhy (gOf a b c) (gOf a b c).Ctl.Traps (zM (gOf a b c))),true)) ?_ ?_;{rw [w (by rw[e];rfl) (by rw[e];rfl)];refine z3n (o:=[]) g j d ?_ q;unfold stepped zpF;rw[f,w2,i,k,(tr1 (gOf a b c) (gOf a b c).Ctl.Traps _ w6).2];show (zfr (zS a b) c _).Guests=_;rw[zwI,r]};{rw [d,f,w2,i,k];unfold zmu zhx;rw[zMo (tr1 (gOf a b c) (gOf a b c).Ctl.Traps _ w6).2,zjE,w6];rfl}}
   {have e:zM (gOf a b c)=2:=qD w2;refine fin (R:=(zhH a b c (plainly (gOf a b c)),true)) ?_ (by rw[d,f,w2];rfl);rw[w (by rw[e];rfl) (by rw[e];rfl)];refine z3n (o:=[]) g j d ?_ q;unfold stepped;rw[f,w2];show (zfr (zS a b) c _).Guests=_;rw[zwI,r]}
  {have e:zM (gOf a b c)=1:=qD f;refine fin (R:=(zhH a b c (interrupted (gOf a b c)),true)) ?_ (by rw[d,f];rfl);rw[w (by rw[e];rfl) (by rw[e];rfl)];refine z3n (o:=[]) g j d ?_ q;unfold stepped;rw[f];show (zfr (zS a b) c _).Guests=_;rw[zwI,r]}
theorem zHc:vF 69 zxO:=hF3 zQt zl zbs zh2 (zq []) zOw
def z5o:zY:=[(69,zxO)]++z0X
theorem z3c:zK z5o:=zf zHc zQt
def z5p:zY:=[(193,zjH),(143,zjH)]++z5o
theorem z3d:zK z5p:=zf zvR (zf zvW z3c)
def cnt (l:List Mon):List Nat:=l.map λx=>x.Guests.length
theorem z7W {l a:List Mon}(h:zeT a=zeT l):cnt a=cnt l:=by have e:∀l:List Mon,cnt l=(zeT l).map List.length:=λl=>(by simp[cnt,zeT]);rw[e,e,h]
theorem zTw {l:List Mon}{m:Int}{x:Mon}(b:hasB m (ln l)=true)(c:x.Guests.length=(ix l m mZ).Guests.length):cnt (up l m x)=cnt l:=by obtain⟨k,rfl,a⟩:=zd8 (n:=l.length) b;unfold cnt up;rw[List.map_set,kC,c,zX a];have:=@uT _ (l.map λx=>x.Guests.length) k (by simpa using a);simpa using this
theorem z6r {l a:List Mon}(h:cnt a=cnt l):a.length=l.length:=by have:=congrArg List.length h;simpa [cnt] using this
theorem z7X {l b:List Mon}(h:cnt b=cnt l)(m:Int):(ix b m mZ).Guests.length=(ix l m mZ).Guests.length:=by have a:(cnt b)[m.toNat]?=(cnt l)[m.toNat]?:=(by rw[h]);unfold cnt at a;rw[qO,qO]at a;unfold ix;simp only[kE];cases c:b[m.toNat]? <;> cases d:l[m.toNat]? <;> rw [c,d]at a<;>simp at a ⊢;exact a
theorem z7f (h:Host)(m p:Int):(zg5 h m p).Memory=h.Memory:=(zhE (zhg h m p) m p noSlot).2
theorem z7e (h:Host):(zeb h).Memory=h.Memory:=by unfold zeb;cases ieq (ln<|zdl h) 0;{rfl};{exact z7f _ _ _}
theorem z7d (m:List (List Int))(p:Int)(c:List Int):(zm4 m p c).length=m.length:=by unfold zm4;cases hasB p (ln m);{rfl};{cases zdB c;{rfl};{simp}}
theorem z7b (m:List (List Int))(p c v:Int):(zfs m p c v).length=m.length:=by unfold zfs;cases zkN m p c;{rfl};{cases zk v 0 99;{rfl};{simp}}
theorem zZy (h:Host)(m p:Int):(fetched h m p).Memory.length=h.Memory.length:=by unfold fetched zmB;rw[(zhE _ _ _ _).2];unfold landing;rw[z7d,z7e]
theorem zU5 (h:Host)(m p n:Int):(znp h m p n).Memory=h.Memory:=by unfold znp;cases ieq (wand .i64 n 2) 0;{unfold opened;cases ieq (wand .i64 (ix (ix (zb1 h m p).Mons m mZ).Outer p sZ).Rights 2) 0;{rfl};{exact(zhE _ _ _ _).2}};{rfl}
theorem z1B (h:Host)(m p n:Int):(mended h m p n).Memory.length=h.Memory.length:=by unfold mended;cases ieq (ix (ix h.Mons m mZ).Outer p sZ).Page (-1);{exact congrArg List.length (zU5 _ _ _ _)};{exact(congrArg List.length<|zU5 _ _ _ _).trans (zZy _ _ _)}
theorem z1C (h:Host)(m g p:Int)(a:Bool):(zS4 h m g p a).Memory=h.Memory:=by cases a<;>rfl
theorem z3z (h:Host)(b:List Entry)(m g c a q:Int)(d:Bool):(zjX h b m g c a q d).1.Memory.length=h.Memory.length:=by unfold zjX;cases zl1 b m g c a;{cases zfM h m g c a;{exact congrArg List.length (z1C _ _ _ _ _)};{exact(congrArg List.length<|z1C _ _ _ _ _).trans (z1B h m q a)}};{rfl}
theorem z7c (h:Host)(b:List Entry)(m g page need:Int)(io:Bool):(lookOf h b m g page need io).1.Memory.length=h.Memory.length:=by unfold lookOf;cases zb8 h m g page need;{rfl};{simp only [cT];rw[z3z];cases ieq need 2<;>rfl}
structure Keep (h r:Host):Prop where
 shape:Shape r
 cnt:cnt r.Mons=cnt h.Mons
 mem:r.Memory.length=h.Memory.length
theorem Keep.has {h r:Host}(k:Keep h r){m:Int}(a:hasB m (ln h.Mons)=true):hasB m (ln r.Mons)=true:=by rw[ln,z6r k.cnt];exact a
theorem Keep.hg {h r:Host}(k:Keep h r){m g:Int}(hg:hasB g (ln (ix h.Mons m mZ).Guests)=true):hasB g (ln (ix r.Mons m mZ).Guests)=true:=by rw[ln,z7X k.cnt];exact hg
theorem Keep.trans {a b c:Host}(h:Keep a b)(k:Keep b c):Keep a c:=⟨k.shape,k.cnt.trans h.cnt,k.mem.trans h.mem⟩
theorem Keep.rfl' {h:Host}(a:Shape h):Keep h h:=⟨a,rfl,rfl⟩
theorem zpv {h:Host}{m g:Int}{x:Guest}(b:Shape h)(a:hasB m (ln h.Mons)=true)(c:SmG x):Keep h (zhH h m g x):=⟨zZ5 b a c,zTw a (by simp),rfl⟩
theorem zCy {h:Host}{b:List Entry}{m g page need:Int}{io:Bool}(c:SmH h)(a:zcn h m g=true):Keep h (lookOf h b m g page need io).1:=by have k:=ztX (b:=b) (page:=page) (need:=need) (io:=io) c a;exact⟨k.shape,z7W k.gs,z7c _ _ _ _ _ _ _⟩
theorem z1m {h:Host}{p c v:Int}(a:Shape h):Keep h {h with Memory:=zfs h.Memory p c v}:=⟨zQZ a<|zpj a.1.1,rfl,z7b _ _ _ _⟩
theorem zZm {h:Host}{m:Int}(a:Shape h)(b:hasB m (ln h.Mons)=true):Keep h (owned h m):=by obtain⟨c,d⟩:=zcr a b;unfold owned;cases ilt (ix h.Mons m mZ).Own 1000000000;{exact Keep.rfl' a};{exact⟨zkp a c d,zTw b rfl,rfl⟩}
theorem zZl {h:Host}{m n:Int}(b:Shape h)(c:hasB m (ln h.Mons)=true):Keep h (zmO h m n):=by obtain⟨a,d⟩:=zcr b c;unfold zmO;cases e:ilt (ln (ix h.Mons m mZ).Outs) 40;{exact Keep.rfl' b};{have f:=qD e;simp only[ln]at f;refine⟨zkp b ⟨a.1,a.2.1,a.2.2.1,a.2.2.2.1,?_,a.2.2.2.2.2⟩ d,zTw c rfl,rfl⟩;simp[ap];omega}
theorem z1p {h:Host}{m g:Int}{x:Guest}{w:Int}(d:Shape h)(b:hasB m (ln h.Mons)=true)(e:SmG x):Keep h (zmu h m g x w):=by have a:Keep h (zhx h m x w):=(by unfold zhx;cases (cond (ine w 6) (ieq (zo8 (ix h.Mons m mZ).Traps x.Ctl.Traps<|zgw w) 2) false);{exact Keep.rfl' d};{exact zZm d b});have f:Keep (zhx h m x w) (zlI (zhx h m x w) m x w):=(by unfold zlI;cases (cond (zjx x.Ctl.Traps w) (ieq w 5) false);{exact Keep.rfl' a.shape};{exact zZl a.shape (a.has b)});have c:=a.trans f;exact c.trans (zpv c.shape (c.has b)<|zDa _ _ e)
theorem z1o {h:Host}{m g:Int}(f:SmH h)(e:zcn h m g=true):Keep h (zcu h m g).1:=by obtain⟨l,a,n⟩:=zdc e;have d:=zlW f a n;have i:=(ze9 f l).1;rw[zkq e];unfold zMh;cases ieq (zM<|gOf h m g) 0;{cases ieq (zM<|gOf h m g) 1;{cases ieq (zM<|gOf h m g) 2;{cases (cond (ieq (zM<|gOf h m g) 3) true<|ieq (zM<|gOf h m g) 4);{exact z1p i a d};{have k:=zCy (b:=h.Buffer) (page:=zcj (address<|gOf h m g)) (need:=zgM (ieq (zM<|gOf h m g) 4)) (io:=false) f e;show Keep h (zks (zkv h m g (gOf h m g)<|ieq (zM<|gOf h m g) 4) m g (gOf h m g)<|ieq (zM<|gOf h m g) 4);unfold zks;cases (zkv h m g (gOf h m g)<|ieq (zM<|gOf h m g) 4).2.2;{exact k.trans (zpv k.shape (k.has a) d)};{cases ieq (zM<|gOf h m g) 4;{have k:=zCy (b:=h.Buffer) (page:=zcj (address<|gOf h m g)) (need:=zgM false) (io:=false) f e;exact k.trans (zpv k.shape (k.has a)<|zMd _ d)};{have k:=zCy (b:=h.Buffer) (page:=zcj (address<|gOf h m g)) (need:=zgM true) (io:=false) f e;have q:=z1m (p:=(zkv h m g (gOf h m g) true).2.1) (c:=zgO (address<|gOf h m g)) (v:=(gOf h m g).A) k.shape;have j:=k.trans q;exact j.trans (zpv j.shape (j.has a)<|zlm d)}}}};{exact zpv i a (zGt d)}};{exact zpv i a (zYo d)}};{exact Keep.rfl' i}
structure Same (h r:Host):Prop where
 sm:SmH r
 cnt:cnt r.Mons=cnt h.Mons
 mem:r.Memory.length=h.Memory.length
 st:r=h\/Shape r
theorem Same.rfl' {h:Host}(a:SmH h):Same h h:=⟨a,rfl,rfl,.inl rfl⟩
theorem Same.trans {a b c:Host}(h:Same a b)(k:Same b c):Same a c:=⟨k.sm,k.cnt.trans h.cnt,k.mem.trans h.mem,by
 rcases k.st with e|e
 .rw [e];exact h.st
 .exact .inr e⟩
theorem z2d {h:Host}(m g:Int)(b:SmH h):Same h (zcu h m g).1:=by cases a:zcn h m g;{rw [zjN a];exact Same.rfl' b};{have k:=z1o b a;exact⟨k.shape.1,k.cnt,k.mem,.inr k.shape⟩}
def zTG:zY:=[(95,zjL),(62,zjL),(96,zhY),(64,zhY),(97,zgW),(79,zgW),(98,zgZ),(196,zgZ),(99,zgX),(197,zgX),(100,zjJ),(198,zjJ),(102,ziX),(199,ziX),(104,zjI),(201,zjI),(105,zjK),(202,zjK),(106,zgY),(203,zgY),(103,ziY),(200,ziY),(58,zkT),(83,zkT)]++z5p
theorem zBT:zK zTG:=zf zvV (zf zvQ<|zf ztf<|zf ztc<|zf zst<|zf zsq<|zf zsv<|zf zss<|zf zsu<|zf zsr<|zf zvT<|zf zvO<|zf zuA<|zf zut<|zf zvS<|zf zvN<|zf zvU<|zf zvP<|zf zuC<|zf zo3<|zf zuB<|zf zuu<|zf zxq<|zf zxp z3d)
def zdd (x:Mon):Bare:=⟨zuN,x.Guests,x.Outs,x.Pending⟩
def zyh (x:Mon)(b:Bare):Mon:={x with Guests:=b.Guests,Pending:=b.Pending}
def zcy (h:Host)(m:Int)(b:Bare):Host:={h with Mons:=up h.Mons m (zyh (ix h.Mons m mZ) b)}
@[simp] abbrev zfK (x:Mon):Bool:=pc (zft x)
@[simp] abbrev zbI (x:Mon):Bare:=zdd x
def zAf:Run:=rF1 (dT .mon) λb=>(zfK b,[aT .bare<|zbI b])
def zFM (N:Nat)(a:Mon):OA:=
 (oN (zho 8)<|oN (zgK a.Guests)<|oN (few<|ln<|ap [] a.Outs)<|some [aT .bare (⟨zdF 8,zhv a.Guests,ap [] a.Outs,a.Pending⟩:Bare)])
theorem zSB (a:Mon)(c:zfK a=true):∃N,zFM N a=some [aT .bare<|zbI a]:=by have b:=zB.1 c;refine⟨0,?_⟩;unfold zFM oN;exact must rfl (must (zN<|(zvC _).2 b.2.2.2.1) (must (zpq b.2.2.2.2.1) rfl))
theorem zK4:vF 258 zAf:=kF1 zBT zl zbs zh2 (zq []) zSB
@[simp] abbrev zfJ (h:Host)(m:Int)(b:Bare):Bool:=pc (hasB m (ln h.Mons)=true/\zoV b.Guests)
@[simp] abbrev ziK (h:Host)(m:Int)(b:Bare):Host:=zcy h m b
theorem zMJ {l:List Mon}{m:Int}(a:hasB m (ln l)=true)(b:Bare):inb m (ln<|up l m {ix l m mZ with Guests:=b.Guests})=true/\
 up (up l m {ix l m mZ with Guests:=b.Guests}) m {ix (up l m {ix l m mZ with Guests:=b.Guests}) m mZ with Pending:=b.Pending}=up l m (zyh (ix l m mZ) b):=by
 obtain⟨k,rfl,c⟩:=zd8 (n:=l.length) a;refine⟨zy (by rw[ln,zf4];exact a),?_⟩
 rw[zqV,zdE c];rfl
def zs6:List AV->Option (Bool×List AV)
 |[.agg [.s (.sl .int) b,.s .mon c,.s .entry d,.s .entry e],.one<|.i .i64 f,.agg [.s (.sl .int) g,.s .guest h,.s .int j,.i .i64 k]]=>some (zfJ (⟨b,c,d,e⟩:Host) f (⟨g,h,j,k⟩:Bare),[aH<|ziK (⟨b,c,d,e⟩:Host) f (⟨g,h,j,k⟩:Bare)])
 |_=>none
def zwC (N:Nat)(b:Host)(a:Int)(c:Bare):OA:=
 (oN (zgK c.Guests)<|oN (inb a<|ln b.Mons)<|share (up b.Mons a ({ (ix b.Mons a zh) with Guests:=(zhv c.Guests)}:Mon)) λd=>oN (inb a<|ln d)<|share (up d a ({ (ix d a zh) with Pending:=c.Pending}:Mon)) λe=>some [aH ({b with Mons:=e}:Host)])
theorem zVb (N:Nat)(a:Host)(b:Int)(c:Bare):zY6 (cQ zTG znW zZI z4d) (zq []) N 12 259 [true,true,true,true,false,false,false,false,false] [aH a,aI b,aT .bare c]=zwC N a b c:=by kernel_rfl
theorem zSA (b:Host)(c:Int)(a:Bare)(i:zbt big [aH b,aI c,aT .bare a])(h:zfJ b c a=true):∃N,zwC N b c a=some [aH<|ziK b c a]:=by obtain⟨d,hg⟩:=zB.1 h;obtain⟨f,g⟩:=zMJ d a;refine⟨0,?_⟩;unfold zwC oN;refine must (zN<|(zvC _).2 hg) (must (zy d)<|shr<|must f<|shr ?_);have e:zhv a.Guests=a.Guests:=rfl;rw[e];show some [AV.agg<|zbb {b with Mons:=_}]=some [AV.agg<|zbb {b with Mons:=_}];rw[show zh=mZ from rfl,g]
theorem zK3:zeK Tryz.prog 259 [true,true,true,true,false,false,false,false,false] none zs6:=by refine zM9 (zhW zBT zl zbs zh2) (zij (by kernel_rfl)) (by kernel_rfl) ?_;intro a g f e h;have c:=zkC e;unfold zs6 at h;split at h;{obtain⟨d,rfl⟩:=zds h;obtain⟨N,b⟩:=zSA _ _ _ (by exact c) d;exact⟨_,N,12,(zVb N _ _ _ ).trans b⟩};{cases h}
def z0D:zY:=[(258,zAf)]++zTG
theorem zeR:zK z0D:=zf zK4 zBT
def z9A:zfS:=[(259,[true,true,true,true,false,false,false,false,false],none,zs6)]++z4d
theorem zbC:zeL z9A:=zpm zh2 (by
 intro x a;simp only[qH,qY,or_false]at a;rcases a with rfl
 .exact zK3)
def z5X (h:Host)(m:Int)(c:Bool)(B:Bare)(ok:Bool)(a b:Host->Ans):OA:=
 bif zL h then (cond (zb2 h) (cond (cond (zb0 h) false true) (some<|a h)<|cond (zZ m<|ln h.Mons) (cond (cond (zbH m<|ln h.Mons) false true) (some<|a h)<|cond (zcV h m) (cond c (cond ok (cond (zcM B.Guests) (cond (inb m<|ln h.Mons) (share (up h.Mons m {ix h.Mons m mZ with Guests:=B.Guests}) λx=>cond (inb m<|ln x) (share (up x m {ix x m mZ with Pending:=B.Pending}) λy=>some (b {h with Mons:=y})) none) none) none)<|some<|b h) none) none) none) none) else none
def z6c (h:Host)(m:Int)(a:Bool)(B:Bare)(b c:Host->Ans):OA:=
 bif zL h then (cond (zgu h m) (cond (cond (zgt h m) false true) (some<|b h)<|cond (inb m<|ln h.Mons) (cond (zfK<|ix h.Mons m mZ) (cond a (cond (zfJ h m B) (some<|c<|zcy h m B) none) none) none) none) none) else none
theorem zbn {h:Host}{m:Int}:(zcc h m=true)↔zbP h=true/\hasB m (ln h.Mons)=true:=by unfold zcc;cases zbP h<;>simp
theorem zpb {h:Host}{m:Int}{cB:Bool}{B:Bare}{ok:Bool}{o0 o1:Host->Ans}(l:SmH h)(k:zcc h m=true->cB=true)(j:zcc h m=true->SmB B)(c:zcc h m=true->ok=false->zcy h m B=h) :
 z5X h m cB B ok o0 o1=some (cond (zcc h m) (o1<|zcy h m B)<|o0 h):=by
 have i:zdJ h:=(zJ h).2 l;unfold z5X;refine must (zN i) (must rfl ?_);rw[show zb0 h=zbP h from rfl]
 have g:zbP h=true->hasB m (ln h.Mons)=true->cB=true:=λa b=>k (zbn.2 ⟨a,b⟩);have f:zbP h=true->hasB m (ln h.Mons)=true->SmB B:=λa b=>j (zbn.2 ⟨a,b⟩);unfold zcc at c ⊢;cases e:zbP h
 .rfl
 .refine zbA rfl (must rfl ?_);rw[show zbH m (ln h.Mons)=hasB m (ln h.Mons) from rfl]
  rw[e]at c;cases d:hasB m (ln h.Mons)
  .rfl
  .rw [d]at c;refine zbA rfl (must (zbp i)<|must (g e d) ?_);cases ok
   .simp only [cT,cF,c rfl rfl]
   .obtain⟨e1,e2⟩:=zMJ d B;refine must rfl (must (zN (f e d).2.1)<|must (zy d)<|shr<|must e1<|shr ?_)
    show some (o1 {h with Mons:=_})=_
    rw[e2];rfl
theorem zpo {h:Host}{m:Int}{cB:Bool}{B:Bare}{o0 o1:Host->Ans}(c:SmH h)(e:zcc h m=true->cB=true)(d:zcc h m=true->SmB B):z6c h m cB B o0 o1=some (cond (zcc h m) (o1<|zcy h m B)<|o0 h):=by unfold z6c;refine must (zN<|(zJ h).2 c) (must rfl ?_);rw[show zgt h m=zcc h m from rfl];cases a:zcc h m;{rfl};{have b:=(zbn.1 a).2;exact zbA rfl (must (zy b)<|must (zN<|c.2.1.2 _<|zbz b _)<|must (e a) (must (zN ⟨b,(d a).2.1⟩) rfl))}
structure SameB (b c:Bare):Prop where
 g:b.Guests=c.Guests
 p:b.Pending=c.Pending
 o:zb7 b=zb7 c
theorem SameB.at {b c:Bare}(h:SameB b c)(g:Int):gAt b g=gAt c g:=by unfold gAt;rw[h.g]
theorem SameB.has {b c:Bare}(h:SameB b c)(g:Int):zbK b g=zbK c g:=by unfold zbK;rw[h.g,h.o]
theorem back_eq {h:Host}{m:Int}{b c:Bare}(hg:b.Guests=c.Guests)(a:b.Pending=c.Pending):zcy h m b=zcy h m c:=by unfold zcy zyh;rw[hg,a]
theorem zq3 {b c:Bare}(a:SameB b c)(h:Host)(m g:Int)(k:Bool)(x:Guest):zcy h m (chg b g k x)=zcy h m (chg c g k x):=by unfold chg;rw[a.has];cases (cond (zbK c g) k false);{exact back_eq a.g a.p};{exact back_eq (by simp only[cT,zfr,a.g]) a.p}
theorem znd {b c:Bare}(a:SameB b c)(g:Int)(k:Bool):zce b g k=zce c g k:=by unfold zce;rw[a.has]
theorem zla {h:Host}{m:Int}(a:hasB m (ln h.Mons)=true):zcy h m (zS h m)=h:=by unfold zcy zyh zS;rw[a,cT];simp only;rw[zWo a]
theorem zll {h:Host}{m:Int}(b:zcc h m=true)(d:zb7 (zdd<|ix h.Mons m mZ)=true):SameB (zdd<|ix h.Mons m mZ) (zS h m):=by obtain⟨c,a⟩:=zbn.1 b;refine⟨?_,?_,d.trans (zrG c a).symm⟩<;>unfold zS zdd<;>rw [a]<;>rfl
theorem z7a:zlu zuN 8=true:=by decide
theorem zpH {h:Host}{m:Int}(b:zcc h m=true):zb7 (zdd<|ix h.Mons m mZ)=true:=by obtain⟨c,a⟩:=zbn.1 b;have:=zrG c a;unfold zS at this;rw[a,cT] at this;unfold zb7 at this ⊢;simp only[zdd,z7a] at *;simp_all
theorem zfT {x:Mon}(h:zft x):SmB (zdd x):=⟨show SmM zuN from ⟨by decide,by decide⟩,h.2.2.2.1,h.2.2.2.2.1⟩
theorem zuh {b:Bare}{g:Int}{k:Bool}{x:Guest}(h:zce b g k=false):chg b g k x=b:=by unfold chg;unfold zce at h;rw[h];rfl
def zgm (h:Host)(m:Int)(b:Bare):Host:=bif zcc h m then zcy h m b else h
def zf6 (h:Host)(m:Int)(ok:Bool):Bool:=bif zcc h m then ok else false
@[simp] abbrev zf9 (h:Host)(m:Int)(g p:Int)(s:Slot):Host:=zgm h m (zcF (zS h m) g p s)
@[simp] abbrev zhf (h:Host)(m:Int)(g p:Int)(s:Slot):Bool:=zf6 h m (zcQ (zS h m) g p s)
@[simp] abbrev zeC (h:Host)(m:Int)(g v:Int):Host:=zgm h m (zbL (zS h m) g v)
@[simp] abbrev zfd (h:Host)(m:Int)(g v:Int):Bool:=zf6 h m (zbS (zS h m) g v)
@[simp] abbrev zeE (h:Host)(m:Int)(g:Int):Host:=zgm h m (zbN (zS h m) g)
@[simp] abbrev zff (h:Host)(m:Int)(g:Int):Bool:=zf6 h m (zbU (zS h m) g)
@[simp] abbrev zeD (h:Host)(m:Int)(g n:Int):Host:=zgm h m (zbM (zS h m) g n)
@[simp] abbrev zfe (h:Host)(m:Int)(g n:Int):Bool:=zf6 h m (zbT (zS h m) g n)
@[simp] abbrev zhd (h:Host)(m:Int)(g:Int)(x:Ctl):Host:=zgm h m (zcl (zS h m) g x)
@[simp] abbrev zhe (h:Host)(m:Int)(g:Int)(x:Ctl):Bool:=zf6 h m (zct (zS h m) g x)
@[simp] abbrev zfE (h:Host)(m:Int)(n:Int):Host:=zgm h m (zcw (zS h m) n)
@[simp] abbrev zgl (h:Host)(m:Int)(n:Int):Bool:=zf6 h m (zcK (zS h m) n)
@[simp] abbrev zf8 (h:Host)(m:Int):Host:=zgm h m (zcs<|zS h m)
@[simp] abbrev zhb (h:Host)(m:Int):Int:=bif zcc h m then zdh (zS h m) else -1
@[simp] abbrev zhc (h:Host)(m:Int):Bool:=zf6 h m (zcD<|zS h m)
@[simp] abbrev zfO (h:Host)(m g p:Int):Bool:=zf6 h m (zce (zS h m) g<|hasB p 4)
def zoo (b:Bare)(a:GAct):Bare:=bif ieq a.Kind 1 then zi2 b a.G else (cond (ieq a.Kind 2) (chg b a.G (zC8 a.X ⟨a.Y,a.Z⟩)<|zy5 (gAt b a.G) a.X ⟨a.Y,a.Z⟩)<|cond (ieq a.Kind 3) (chg b a.G (hasB a.X 4)<|zjT (gAt b a.G) a.X)<|cond (ieq a.Kind 4) (chg b a.G (zBL (gAt b a.G) a.X)<|zBM (gAt b a.G) a.X)<|cond (ieq a.Kind 5) (chg b a.G (zCT<|gAt b a.G)<|zCV<|gAt b a.G)<|cond (ieq a.Kind 6) (chg b a.G (zjY (gAt b a.G).Pending a.X)<|zo6 (gAt b a.G) a.X)<|cond (ieq a.Kind 7) (chg b a.G (zrI ⟨a.X,a.Y,ieq a.Z 1⟩)<|zMW (gAt b a.G) ⟨a.X,a.Y,ieq a.Z 1⟩)<|cond (ieq a.Kind 8) (znr b a.X a.Y a.Z)<|cond (ieq a.Kind 9) (zns b a.X)<|cond (ieq a.Kind 10) (zoW b)<|cond (ieq a.Kind 11) (zB7 b a.G a.X a.Y)<|b)
def zvv (b:Bare)(a:GAct):Told:=bif ieq a.Kind 1 then ⟨zlY b a.G,0⟩ else (cond (ieq a.Kind 2) ⟨zce b a.G<|zC8 a.X ⟨a.Y,a.Z⟩,0⟩<|cond (ieq a.Kind 3) ⟨zce b a.G<|hasB a.X 4,0⟩<|cond (ieq a.Kind 4) ⟨zce b a.G<|zBL (gAt b a.G) a.X,0⟩<|cond (ieq a.Kind 5) ⟨zce b a.G<|zCT<|gAt b a.G,0⟩<|cond (ieq a.Kind 6) ⟨zce b a.G<|zjY (gAt b a.G).Pending a.X,0⟩<|cond (ieq a.Kind 7) ⟨zce b a.G<|zrI ⟨a.X,a.Y,ieq a.Z 1⟩,0⟩<|cond (ieq a.Kind 8) ⟨zlP b a.X a.Y a.Z,0⟩<|cond (ieq a.Kind 9) ⟨ziV b a.X,0⟩<|cond (ieq a.Kind 10) ⟨zpM b,zye b⟩<|cond (ieq a.Kind 11) ⟨zvF b a.G a.X a.Y,0⟩<|⟨zhV b a.G a.X 1,zmi b a.G a.X⟩)
def zfu (l:List Bare)(a:GAct):List Bare:=bif zk a.Kind 1 17 then (cond (zk a.Kind 13 17) l<|cond (hasB a.M<|ln l) (up l a.M<|zoo (ix l a.M zcO) a) l) else l
def zfv (l:List Bare)(a:GAct):Told:=bif zk a.Kind 1 17 then (cond (zk a.Kind 13 17) ⟨false,0⟩<|cond (hasB a.M<|ln l) (zvv (ix l a.M zcO) a)<|cond (ieq a.Kind 10) ⟨false,-1⟩ ⟨false,0⟩) else ⟨false,0⟩
def znu:List GAct->List Bare×List Told->List Bare×List Told
 |[],u=>u
 |a::l,u=>znu l (zfu u.1 a,ap u.2 [zfv u.1 a])
def zrU (ps:List (List<|List Ins))(l:List GAct):List Bare×List Told:=znu (l.take 80) ((ps.take 3).map zhT,[])
def zgB:List GAct->List Told->List Told
 |a::l,t::ts=>bif zk a.Kind 13 17 then zgB l ts else t::zgB l ts
 |_,_=>[]
def zek:List GAct->List GAct
 |[]=>[]
 |a::l=>bif zk a.Kind 13 17 then zek l else a::zek l
def zyt:List GAct->List Bare->List Bare
 |[],L=>L
 |a::l,L=>zyt l (zfu L a)
def zwv:List GAct->List Bare->List Told
 |[],_=>[]
 |a::l,L=>zfv L a::zwv l (zfu L a)
theorem zZN:∀(l:List GAct) (L:List Bare) (t:List Told),znu l (L,t)=(zyt l L,t++zwv l L)
 |[],L,t=>by simp[znu,zyt,zwv]
 |a::l,L,t=>by show znu l (zfu L a,t++[zfv L a])=_;rw[zZN l];simp[zyt,zwv]
theorem zZE {a:GAct}(h:zk a.Kind 13 17=true)(L:List Bare):zfu L a=L:=by unfold zfu;rw[h];cases zk a.Kind 1 17<;>rfl
theorem zyM:∀(l:List GAct) (L:List Bare),zyt (zek l) L=zyt l L/\zwv (zek l) L=zgB l (zwv l L)
 |[],_=>⟨rfl,rfl⟩
 |a::l,L=>by cases h:zk a.Kind 13 17 with|true=>obtain⟨b,c⟩:=zyM l L;simp only[zek,zyt,zwv,zgB,h,cond_true,zZE h];exact⟨b,c⟩|false=>obtain⟨b,c⟩:=zyM l (zfu L a);simp only[zek,zyt,zwv,zgB,h,cond_false];exact⟨b,by rw[c]⟩
theorem zuI:∀l:List GAct,(zek l).length<=l.length
 |[]=>qW _
 |a::l=>by have:=zuI l;simp only[zek];cases zk a.Kind 13 17<;>simp<;>omega
theorem zZu {ps:List (List<|List Ins)}{l:List GAct}(h:l.length<=80):(zrU ps<|zek l).1=(zrU ps l).1/\(zrU ps<|zek l).2=zgB l (zrU ps l).2:=by unfold zrU;rw[kP h,kP<|qX (zuI l) h,zZN,zZN];obtain⟨a,b⟩:=zyM l ((ps.take 3).map zhT);simp only[jM];exact⟨a,b⟩
theorem zTr (L:List Bare)(a:GAct):(zfu L a).length=L.length:=by unfold zfu;cases zk a.Kind 1 17 with|false=>rfl|true=>(cases zk a.Kind 13 17 with|true=>rfl|false=>(cases hasB a.M (ln L) with|false=>rfl|true=>simp[up]))
theorem zFS:∀(l:List GAct) (L:List Bare),(zyt l L).length=L.length
 |[],_=>rfl
 |a::l,L=>(zFS l<|zfu L a).trans (zTr L a)
theorem zXc (ps:List (List<|List Ins))(l:List GAct):(zrU ps l).1.length=min 3 ps.length:=by unfold zrU;rw[zZN,zFS];simp
theorem zyz {b:Type}(K:List GAct->Option b):∀(l:List GAct) (i:Nat) (t:List GAct),t.length+l.length<=2147483648->
 goL (λ_ (x:GAct) (t:List GAct) a=>bif (cond (zk x.Kind 13 17) false true) then (cond (few<|ln<|ap t [x]) (a<|ap t [x]) none) else a t) K l i t=K (t++zek l)
 |[],i,t,_=>by simp[goL,zek]
 |x::l,i,t,h=>by simp only[qV]at h;simp only[goL,zek];cases c:zk x.Kind 13 17 with|true=>rw[cT,cF,zyz K l (i+1) t (by omega)];rfl|false=>rw[cF,cT,zev (by simp[ap];omega),cT,zyz K l (i+1) _ (by simp[ap];omega)];simp[ap]
def z03:zY:=[(53,zgE),(48,zgE)]++zTz
theorem zpp:zK z03:=zf zpU (zf zpT zen)
theorem zCd {e:Type}(a:List Told)(R:List Told->Option e):∀(l:List GAct) (i:Nat) (t:List Told),t.length+l.length<=2147483648->
 goL (λi (x:GAct) (t:List Told) d=>bif ilt (i:Int) (ln a) then (cond (cond (zk x.Kind 13 17) false true) (cond (inb (i:Int)<|ln a) (cond (few<|ln<|ap t [ix a (i:Int) zlX]) (d<|ap t [ix a (i:Int) zlX]) none) none)<|d t) else R t) R l i t=R (t++zgB l (a.drop i))
 |[],i,t,_=>by cases a.drop i<;>simp [goL,zgB]
 |x::l,i,t,h=>by
  simp only[qV]at h;simp only[goL];by_cases b:i<a.length;{rw [zbf b,cT,jZ b];cases c:zk x.Kind 13 17 with|true=>rw[cT,cF,zCd a R l (i+1) t (by omega)];simp only[zgB,c,cT]|false=>rw[cF,cT,zO b,cT,zev (by simp[ap];omega),cT,zCd a R l (i+1) _ (by simp[ap];omega),zX b];simp only[zgB,c,cF,ap,j4,List.singleton_append]};{rw [show ilt (i:Int) (ln a)=false from qI (by unfold ln;omega),cF,kO (by omega)];simp[zgB]}
def zlT (x:List GAct)(_:List Told):Bool:=pc (x.length<=1048576)
abbrev ziF (x:List GAct)(y:List Told):List Told:=zgB x y
def zms:Run:=rF2 (dS .act) (dS .told) λb c=>(zlT b c,[aS .told<|ziF b c])
def zzK (N:Nat)(e:lA)(f:lT):OA:=
 (iter (σ:=(Int×lA×lT×lT×Unit)) N (λb a=>let d:=(ix a.2.1 a.1 ziv).Kind;let c:=ap a.2.2.2.1 [ix a.2.2.1 a.1 zlX]; (cond (ilt a.1<|ln a.2.1) (cond (ilt a.1<|ln a.2.2.1) (oN (inb a.1<|ln a.2.1)<|oN (zhn d)<|cond (nB<|zhO d) (oN (inb a.1<|ln a.2.2.1)<|oN (few<|ln c)<|b (zG .i64 a.1 1,a.2.1,a.2.2.1,c,()))<|b (zG .i64 a.1 1,a.2.1,a.2.2.1,a.2.2.2.1,()))<|some [aS .told a.2.2.2.1])<|some [aS .told a.2.2.2.1])) (0,e,f,[],()))
def zMH:=zq [(19,0,{n:=35,tm:=[(0,.sl 0 []),(1,.sl 1 []),(5,.sl 2 []),(6,ti)],lo:=[],ro:=[(0,.act,false),(1,.told,false),(2,.told,true)]})]
theorem zv1 (b:List GAct)(a:List Told)(j:zbt big [aS .act b,aS .told a])(h:zlT b a=true):∃N,zzK N b a=some [aS .told<|ziF b a]:=by
 have f:=zB.1 h;have e:b.length<=big:=qX f (by decide);refine zbG λN d=>?_;unfold zzK oN nB;conv=>zeta
 refine(zW b (λi (t:lT)=>((i:Int),b,a,t,())) _ (λi (x:GAct) (t:List Told) g=>bif ilt (i:Int) (ln a) then (cond (cond (zk x.Kind 13 17) false true) (cond (inb (i:Int)<|ln a) (cond (few<|ln<|ap t [ix a (i:Int) zlX]) (g<|ap t [ix a (i:Int) zlX]) none) none)<|g t) else some [AV.one<|.s .told t]) (λ(t:lT)=>some [.one<|.s .told t]) (λi c t rec=>?_) (λt rec=>?_) _ ([])<|d e).trans ?_;{simp only [zbf c,zO c,zX c,zV c e,cT]};{simp only [zbc,cF]};rw[zCd a _ b 0 [] (by simpa using qX f (by decide))];rfl
theorem zEe:vF 19 zms:=hF2 zpp zbk zn zo zMH zv1
def zMv:=zq [(18,0,{n:=35,tm:=[(0,.sl 0 []),(1,.sl 1 []),(5,.sl 2 []),(6,ti)],lo:=[],ro:=[(0,.act,false),(1,.told,false),(2,.told,true)]})]
theorem zDV:vF 18 zms:=hF2 zpp zbk zn zo zMv zv1
def zh0 (x:List GAct):Bool:=pc (x.length<=1048576)
abbrev zgJ (x:List GAct):List GAct:=zek x
def zkA:Run:=rF1 (dS .act) λb=>(zh0 b,[aS .act<|zgJ b])
def zvs (N:Nat)(d:lA):OA:=
 (iter (σ:=(Int×lA×lA×Unit)) N (λc a=>let b:=ix a.2.1 a.1 ziv; (cond (ilt a.1<|ln a.2.1) (oN (inb a.1<|ln a.2.1)<|oN (zhn b.Kind)<|cond (nB<|zhO b.Kind) (oN (inb a.1<|ln a.2.1)<|oN (few<|ln<|ap a.2.2.1 [b])<|c (zG .i64 a.1 1,a.2.1,ap a.2.2.1 [b],()))<|c (zG .i64 a.1 1,a.2.1,a.2.2.1,()))<|some [aS .act a.2.2.1])) (0,d,[],()))
def zEP:=zq [(22,0,{n:=27,tm:=[(0,.sl 0 []),(3,.sl 1 []),(4,ti)],lo:=[],ro:=[(0,.act,false),(1,.act,true)]})]
theorem zEC (a:List GAct)(g:zh0 a=true):∃N,zvs N a=some [aS .act<|zgJ a]:=by
 have e:=zB.1 g;have d:a.length<=big:=qX e (by decide);refine zbG λN c=>?_;unfold zvs oN nB;conv=>zeta
 refine(zW a (λi (t:lA)=>((i:Int),a,t,())) _ (λ_ (x:GAct) (t:List GAct) f=>bif (cond (zk x.Kind 13 17) false true) then (cond (few<|ln<|ap t [x]) (f<|ap t [x]) none) else f t) (λ(t:lA)=>some [.one<|.s .act t]) (λi b t rec=>?_) (λt rec=>?_) _ ([])<|c d).trans ?_;{simp only [zbf b,zO b,zX b,zV b d,cT]};{simp only [zbc,cF]};rw[zyz _ a 0 [] (by simpa using qX e (by decide))];rfl
theorem zAG:vF 22 zkA:=kF1 zpp zbk zn zo zEP zEC
def zvg (N:Nat)(c:lA):OA:=
 (iter (σ:=(Int×Int×lA×lA×Unit)) N (λd a=>let b:=ix a.2.2.2.1 a.2.1 ziv; (cond (ilt a.2.1 a.1) (oN (inb a.2.1<|ln a.2.2.2.1)<|oN (zhn b.Kind)<|cond (nB<|zhO b.Kind) (oN (few<|ln<|ap a.2.2.1 [b])<|d (a.1,zG .i64 a.2.1 1,ap a.2.2.1 [b],a.2.2.2.1,()))<|d (a.1,zG .i64 a.2.1 1,a.2.2.1,a.2.2.2.1,()))<|some [aS .act a.2.2.1])) (ln c,0,[],c,()))
def zEN:=zq [(13,0,{n:=23,tm:=[(3,.sl 0 []),(7,.sl 1 []),(8,ti),(9,ti)],lo:=[],ro:=[(0,.act,true),(1,.act,false)]})]
theorem zEr (a:List GAct)(g:zh0 a=true):∃N,zvg N a=some [aS .act<|zgJ a]:=by
 have e:=zB.1 g;have d:a.length<=big:=qX e (by decide);refine zbG λN c=>?_;unfold zvg oN nB;conv=>zeta
 refine(zW a (λi (t:lA)=>(ln a,(i:Int),t,a,())) _ (λ_ (x:GAct) (t:List GAct) f=>bif (cond (zk x.Kind 13 17) false true) then (cond (few<|ln<|ap t [x]) (f<|ap t [x]) none) else f t) (λ(t:lA)=>some [.one<|.s .act t]) (λi b t rec=>?_) (λt rec=>?_) _ ([])<|c d).trans ?_;{simp only [zbf b,zO b,zX b,zV b d,cT]};{simp only [zbc,cF]};rw[zyz _ a 0 [] (by simpa using qX e (by decide))];rfl
theorem zAv:vF 13 zkA:=kF1 zpp zbk zn zo zEN zEr
theorem zX6 {a e:Type}(m:List a)(d:a)(K:Unit->Option e)(b:Option e):∀(l:List a) (i:Nat),i+l.length=m.length->
 goL (λi (x:a) (_:Unit) f=>bif pc (x=ix m (i:Int) d) then f () else b) K l i ()=bif pc (l=m.drop i) then K () else b
 |[],i,h=>by simp only[goL];rw[zN (by rw[kO (by simp only[kT]at h;omega)]),cT]
 |x::l,i,h=>by simp only[qV]at h;have c:i<m.length:=(by omega);simp only[goL];rw[zX6 m d K b l (i+1) (by omega),jZ c,zX c,zh7<|Iff.of_eq<|List.cons.injEq x l m[i]<|m.drop<|i+1,<- pcA];cases pc (x=m[i]) with|true=>rw[cT,cT]|false=>rw[cF,cF,cF]
def zbQ (N:Nat)(b c:lT):OA:=
 (cond (ine (ln b)<|ln c) oF<|iter (σ:=(Int×Int×lT×lT×Unit)) N (λf a=>let e:=ix a.2.2.1 a.2.1 zlX;let d:=ix a.2.2.2.1 a.2.1 zlX; (cond (ilt a.2.1 a.1) (oN (inb a.2.1<|ln a.2.2.1)<|oN (inb a.2.1<|ln a.2.2.2.1)<|cond (nB<|cond (zkD e.Ok d.Ok) (ieq e.N d.N) false) oF<|f (a.1,zG .i64 a.2.1 1,a.2.2.1,a.2.2.2.1,())) oT)) (ln b,0,b,c,()))
def zem:=zq [(54,0,{n:=26,tm:=[(0,.sl 0 []),(1,.sl 1 []),(12,ti),(13,ti)],lo:=[],ro:=[(0,.told,false),(1,.told,false)]})]
theorem zel (a c:List Told)(k:zbt big [aS .told a,aS .told c])(m:zex a c=true):∃N,zbQ N a c=some [aB<|zfD a c]:=by
 have j:a.length<=big:=len0 k;rcases Nat.decEq a.length c.length with f|f
 .refine⟨0,?_⟩;unfold zbQ oN nB;conv=>zeta
  exact must (zjV (by unfold ln;omega)) (zkF λe=>f (by rw[e]))
 refine zbG λN g=>?_;unfold zbQ oN nB;conv=>zeta
 have h:ine (ln a) (ln c)=false:=(by unfold ln;rw[f];exact zgj _);refine zbA h ?_;refine(zW a (λi (t:Unit)=>(ln a,(i:Int),a,c,())) _ (λi (x:Told) (_:Unit) l=>bif pc (x=ix c (i:Int) zlX) then l () else oF) (λ(t:Unit)=>some [.one<|.b true]) (λi d t rec=>?_) (λt rec=>?_) _ ()<|g j).trans ?_;{simp only [zbf d,zO d,zX d,zV d j,cT];simp only[zO d,zO<|f ▸ d,zX d,pcI,pcN,pcB,pcA,zkR,cT,cF];first|exact ziO _|exact zgR _};{simp only [zbc,cF]};refine(zX6 c zlX _ _ a 0 (by omega)).trans ?_;exact ziN _
theorem zeh:vF 54 zgn:=hF2 zpp zbk zn zo zem zel
def z8i:zY:=[(54,zgn)]++z03
theorem z04:zK z8i:=zf zeh zpp
def zA1 (N:Nat)(a b:lT):OA:=
 (oN (zex a b)<|some [aB<|zfD a b])
theorem zOA (a b:List Told)(c:zex a b=true):∃N,zA1 N a b=some [aB<|zfD a b]:=by refine⟨0,?_⟩;unfold zA1 oN;exact must rfl rfl
theorem zHh:vF 20 zgn:=kF2 z04 zbk zn zo (zq []) zOA
def Ends {b:Type}(G:b->Prop)(o:Option b):Prop:=∃a,o=some a/\G a
section
variable {ρ:Type} {G:ρ->Prop}
theorem zbh {c:Bool}{a b:Option ρ}(h:c=true)(k:Ends G a):Ends G (cond c a b):=by rw[h];exact k
theorem zq5 {c:Bool}{a b:Option ρ}(h:c=false)(k:Ends G b):Ends G (cond c a b):=by rw[h];exact k
theorem zdb {c:Bool}{a b:Option ρ}(d:c=true->Ends G a)(e:c=false->Ends G b):Ends G (cond c a b):=by cases c;{exact e rfl};{exact d rfl}
theorem zo0 {x:Option ρ}{f:Option ρ->Option ρ}(h:Ends G x)(k:∀t,Ends G t->Ends G (f t)):Ends G (share x f):=k x h
theorem zJL {a:ρ}(h:G a):Ends G (some a):=⟨a,rfl,h⟩
theorem zsk {b:Type}{F:(b->Option ρ)->b->Option ρ}(I:Nat->b->Prop)(h:∀n s rec,I n s->(∀k a,k<n->I k a->Ends G (rec a))->Ends G (F rec s)):∀(N n:Nat) (s:b),I n s->n<N->Ends G (iter N F s)
 | 0,n,s,_,c=>absurd c (Nat.not_lt_zero n)
 |N+1,n,s,d,c=>h n s (iter N F) d λk a f e=>zsk I h N k a e (by omega)
theorem z6R {G:Ans->Prop}{o:OA}{r:Ans}(h:Ends (λa=>a=r) o):o=some r:=by obtain⟨a,b,c⟩:=h;rw[b,c]
end
instance:Inhabited Cur:=⟨⟨[],0,0⟩⟩
def uC {T:Type}(ok:T->Prop):Bool:=pc (∃v,ok v)
def uV {T:Type}[Nonempty T](ok:T->Prop):T:=Classical.epsilon ok
theorem uG {T:Type}[Nonempty T]{ok:T->Prop}(h:uC ok=true):ok (uV ok):=Classical.epsilon_spec (zB.1 h)
def wC {T:Type}(ok:Cur->T->Prop):Bool:=uC λr:Cur×T=>ok r.1 r.2
def wS {T:Type}[Nonempty T](ok:Cur->T->Prop):Cur:=bif wC ok then (uV λr:Cur×T=>ok r.1 r.2).1 else ⟨[],0,0⟩
def wV {T:Type}[Nonempty T](ok:Cur->T->Prop):T:=(uV λr:Cur×T=>ok r.1 r.2).2
theorem wG {T:Type}[Nonempty T]{ok:Cur->T->Prop}(h:wC ok=true):ok (wS ok) (wV ok):=by unfold wS wV;rw[h,cT];exact uG h
theorem wP {T:Type}[Nonempty T]{ok:Cur->T->Prop}(k:∀{s v},ok s v->0<=s.i):0<=(wS ok).i:=by cases h:wC ok with|false=>unfold wS;rw[h];exact kM 0|true=>exact k (wG h)
abbrev wE {T:Type}(e:T->AV)(b:List Int)(c:T->Prop):Ans->Prop:=λa=>∃s d,a=(AV.agg (zf7 s)::[e d])/\(s.b=b/\0<=s.i)/\c d
theorem wI {T:Type}{ok:Cur->T->Prop}{E:Nat->OA}{d:T->AV}{b:List Int}{c:T->Prop}(k:∀s v,((∃N,E N=some (AV.agg (zf7 s)::[d v]))/\(s.b=b/\0<=s.i)/\c v)->ok s v)(h:∃N,Ends (wE d b c)<|E N):wC ok=true:=by obtain⟨N,a,e,s,v,rfl,h⟩:=h;exact zN ⟨(s,v),k s v ⟨⟨N,e⟩,h⟩⟩
abbrev zmw:=List CV->List AV->Option (Bool×List CV×List AV)
abbrev zGF:=List AV->Option (Bool×List CV×List AV)
def pR (k:Cur->zGF):zmw
 |[.s .u8 b,.i .i64 i,.i .i64 h],a=>k ⟨b,i,h⟩ a
 |_,_=>none
def z3E {b:Type}(D:Dc b)(k:b->zGF):zGF
 |[]=>none
 |a::l=>match D.d a with
  |some x=>k x l
  |none=>none
def zS3 (r:Bool×Cur×List AV):zGF
 |[]=>some (r.1,zf7 r.2.1,r.2.2)
 |_=>none
theorem z8H {k:Cur->zGF}{b:List CV}{a:List AV}{r:Bool×List CV×List AV}(h:pR k b a=some r):∃c,b=zf7 c/\k c a=some r:=by unfold pR at h;split at h;{exact⟨_,rfl,h⟩};{cases h}
theorem z3F {c:Type}{D:Dc c}{k:c->zGF}{b:List AV}{r:Bool×List CV×List AV}(h:z3E D k b=some r):∃x l,b=D.e x::l/\k x l=some r:=by unfold z3E at h;split at h;{cases h};{rename_i a l;split at h;{rename_i x d;exact⟨x,l,by rw[D.h d],h⟩};{cases h}}
theorem zQP {q:Bool×Cur×List AV}{b:Bool}{c:List CV}{d a:List AV}(h:zS3 q a=some (b,c,d)):a=[]/\q.1=b/\c=zf7 q.2.1/\d=q.2.2:=by unfold zS3 at h;split at h<;>cases h;exact⟨rfl,rfl,rfl,rfl⟩
section
variable {c:zY} {m:zif} {p:zdR} {t:zfS} (o1:zK c) (o2:zgf m) (o3:zcI p) (o4:zeL t) (tms:FuncId->Nat->Option Tmpl) {f:FuncId}
include o1 o2 o3 o4
theorem hPx {k:Cur->zGF}(j:zfV f=true)(h:∀x b a d,k x b=some (true,a,d)->a.length=3/\∃N,zrL (cQ c m p t) tms N 12 f [false,true,true] (zf7 x) b=some (.agg a::d)):zdA Tryz.prog f [false,true,true] (pR k):=by refine ziR (zhW o1 o2 o3 o4) (zij j) ?_;intro l b a d n q e;obtain⟨x,rfl,e⟩:=z8H e;obtain⟨g,N,i⟩:=h x b a d e;exact⟨g,tms,N,12,i⟩
def rP0 (g:Cur->Bool×Cur×List AV):zmw:=pR λc=>zS3 (g c)
theorem hP0 {g:Cur->Bool×Cur×List AV}{E:Nat->Cur->OA}(a:∀x,(g x).1=true->∃N,E N x=some (.agg (zf7 (g x).2.1)::(g x).2.2))(k:∀N x,zrL (cQ c m p t) tms N 12 f [false,true,true] (zf7 x) []=E N x:=by intros;kernel_rfl)(j:zfV f=true:=by kernel_rfl):zdA Tryz.prog f [false,true,true] (rP0 g):=
 hPx o1 o2 o3 o4 tms j λx b d l e=>by obtain⟨rfl,i,rfl,rfl⟩:=zQP e;obtain⟨N,h⟩:=a x i;exact⟨rfl,N,(k N x).trans h⟩
def rP1 {A:Type}(D:Dc A)(g:Cur->A->Bool×Cur×List AV):zmw:=pR λc=>z3E D λa=>zS3 (g c a)
theorem hP1 {A:Type}{D:Dc A}{g:Cur->A->Bool×Cur×List AV}{E:Nat->Cur->A->OA}(b:∀x a,(g x a).1=true->∃N,E N x a=some (.agg (zf7 (g x a).2.1)::(g x a).2.2))(q:∀N x a,zrL (cQ c m p t) tms N 12 f [false,true,true] (zf7 x) [D.e a]=E N x a:=by intros;kernel_rfl)(n:zfV f=true:=by kernel_rfl):zdA Tryz.prog f [false,true,true] (rP1 D g):=
 hPx o1 o2 o3 o4 tms n λx d i r e=>by obtain⟨a,l,rfl,j⟩:=z3F e;obtain⟨rfl,k,rfl,rfl⟩:=zQP j;obtain⟨N,h⟩:=b x a k;exact⟨rfl,N,(q N x a).trans h⟩
end
instance:Inhabited Ins:=⟨⟨0,0⟩⟩
instance:Inhabited GAct:=⟨⟨0,0,0,0,0,0⟩⟩
instance:Inhabited Ctl:=⟨⟨0,0,false⟩⟩
instance:Inhabited Host:=⟨⟨[],[],[],[]⟩⟩
def zcZ (c:Cur):Prop:=0<=c.i/\c.b.length<=big
theorem zii {T:Type}(d:T->AV){c:T->Prop}{b:List Int}{x y:Int}{v:T}(h:0<=x)(g:c v):Ends (λa=>∃s e,a=(AV.agg (zf7 s)::[d e])/\(s.b=b/\0<=s.i)/\c e) (some (AV.agg [.s .u8 b,.i .i64 x,.i .i64 y]::[d v])):=
 ⟨_,rfl,⟨b,x,y⟩,v,rfl,⟨rfl,h⟩,g⟩
def zwx (N:Nat)(c:Cur)  : OA :=
 let a:=zG .i64 (zm5 .i64 c.h 6364136223846793005) 1442695040888963407;let d:=wand .i64 (z4h .i64 (zk9 .i64 a 33)<|zk9 .i64 a 45) 255; (oN (ile 0 33)<|oN (ile 0 45)<|cond (ilt c.i<|ln c.b) (oN (inb c.i<|ln c.b)<|some [.agg [.s .u8 c.b,.i .i64<|zG .i64 c.i 1,.i .i64 a],aI<|wand .i64 (zG .i64 d<|wcv .i64<|ix c.b c.i 0) 255])<|some [.agg [.s .u8 c.b,.i .i64 c.i,.i .i64 a],aI d])
def zqJ (c:Cur)(s:Cur)(a:Int):Prop:=(∃N,zwx N c=some (AV.agg (zf7 s)::[aI a]))/\(s.b=c.b/\0<=s.i)/\(0<=a/\a<=255)
def ze7 (c:Cur)  : Bool:=wC (zqJ c)
def zdx (c:Cur)  : Cur:=wS (zqJ c)
def zhR (c:Cur)  : Int:=wV (zqJ c)
theorem zol {c:Cur}(h:ze7 c=true):zqJ c (zdx c) (zhR c):=wG h
theorem zom (c:Cur)  : 0<=(zdx c).i:=wP λh=>h.2.1.2
theorem zXp (c:Cur)(h:∃N,Ends (wE (λa=>aI a) c.b λa=>0<=a/\a<=255)<|zwx N c):ze7 c=true:=wI (λ_ _ h=>h) h
def zxG:zmw:=rP0 λc=>(ze7 c,zdx c,[aI<|zhR c])
theorem zKQ:zdA Tryz.prog 107 [false,true,true] zxG:=hP0 zen zbk zn zo (zq []) (λ_ h=>(zol h).1)
theorem zQ5 {x m:Int}(c:0<=m)(d:m<9223372036854775808):0<=wand .i64 x m/\wand .i64 x m<=m:=by have b:(BitVec.ofInt 64 m).toNat=m.toNat:=(by rw[BitVec.toNat_ofInt];omega);have a:(BitVec.ofInt 64 x &&& BitVec.ofInt 64 m).toNat<=m.toNat:=(by rw[BitVec.toNat_and,b];exact Nat.and_le_right);unfold wand;show 0<=IntKind.wrap .i64 ((BitVec.ofInt 64 x &&& BitVec.ofInt 64 m).toNat:Int)/\IntKind.wrap .i64 ((BitVec.ofInt 64 x &&& BitVec.ofInt 64 m).toNat:Int)<=m;rw[zt5 (by omega) (by omega)];omega
@[simp] theorem zJG {c:Cur}(h:zcZ c):ze7 c=true:=by
 refine zXp c ⟨0,?_⟩;unfold zwx oN;conv=>zeta
 refine zbh rfl (zbh rfl (zdb (λa=>zbh (qL ⟨h.1,qD a⟩) (zii aI ?_<|zQ5 (by omega) (by omega))) λ_=>zii aI h.1 (zQ5 (by omega) (by omega))));have d:c.i<ln c.b:=qD a;have e:=h.2;have f:=h.1;rw[ztQ]at e;unfold ln at d;rw[zpI (by omega) (by omega)];omega
def z5I:zdR:=[(107,[false,true,true],zxG)]++zyZ
theorem zVe:zcI z5I:=zeI zn (by
 intro x a;simp only[qH,qY,or_false]at a;rcases a with rfl
 .exact zKQ)
theorem zGU {b:List Int}{i h:Int}(a:0<=i)(c:b.length<=big):zcZ ⟨b,i,h⟩:=⟨a,c⟩
theorem zYD {x n:Int}(a:0<=x)(b:0<n):0<=zrx x n/\zrx x n<n:=by unfold zrx;exact⟨Int.tmod_nonneg _ a,Int.tmod_lt_of_pos _ b⟩
def zua (N:Nat)(c:Cur)(a:Int):OA:=
 let f:=({ (zdx c) with b:=c.b}:Cur);let e:=({ (zdx f) with b:=c.b}:Cur);let d:=({ (zdx e) with b:=c.b}:Cur); (cond (ile a 0) (some [.agg [.s .u8 c.b,.i .i64 c.i,.i .i64 c.h],aI 0])<|cond (ile a 256) (oN (ze7 c)<|oN (ine a 0)<|some [.agg [.s .u8 c.b,.i .i64 (zdx c).i,.i .i64 (zdx c).h],aI<|zrx (zhR c) a])<|oN (ze7 c)<|oN (ze7 f)<|oN (ze7 e)<|oN (ze7 d)<|oN (ine a 0)<|some [.agg [.s .u8 c.b,.i .i64 (zdx d).i,.i .i64 (zdx d).h],aI<|zrx (zG .i64 (zG .i64 (zG .i64 (zm5 .i64 (zhR c) 16777216)<|zm5 .i64 (zhR f) 65536)<|zm5 .i64 (zhR e) 256)<|zhR d) a])
def zoS (c:Cur)(a:Int)(s:Cur)(d:Int):Prop:=(∃N,zua N c a=some (AV.agg (zf7 s)::[aI d]))/\(s.b=c.b/\0<=s.i)/\(0<a->0<=d/\d<a)
def zbl (c:Cur)(a:Int):Bool:=wC (zoS c a)
def zC (c:Cur)(a:Int):Cur:=wS (zoS c a)
def zbg (c:Cur)(a:Int):Int:=wV (zoS c a)
theorem zu6 {c:Cur}{a:Int}(h:zbl c a=true):zoS c a (zC c a) (zbg c a):=wG h
theorem zb4 (c:Cur)(a:Int):0<=(zC c a).i:=wP λh=>h.2.1.2
theorem zVA (c:Cur)(a:Int)(h:∃N,Ends (wE (λd=>aI d) c.b λd=>0<a->0<=d/\d<a)<|zua N c a):zbl c a=true:=wI (λ_ _ h=>h) h
def zv7:zmw:=rP1 dI λc b=>(zbl c b,zC c b,[aI<|zbg c b])
theorem zHQ:zdA Tryz.prog 44 [false,true,true] zv7:=hP1 zen zbk zVe zo (zq []) (λ_ _ h=>(zu6 h).1)
theorem zgQ {c:Cur}(h:zcZ c)(n:Int):zbl c n=true:=by
 refine zVA c n ⟨0,?_⟩;have f:=zJG h;have k:ze7 {zdx c with b:=c.b}=true:=zJG (zGU (zom _) h.2);have l:ze7 {zdx {zdx c with b:=c.b} with b:=c.b}=true:=zJG (zGU (zom _) h.2);have m:ze7 {zdx {zdx {zdx c with b:=c.b} with b:=c.b} with b:=c.b}=true:=zJG (zGU (zom _) h.2);have i:=(zol f).2.2;have q:=(zol k).2.2;have r:=(zol l).2.2;have s:=(zol m).2.2;unfold zua oN;conv=>zeta
 refine zdb (λd=>zii aI h.1 λu=>absurd (qD d) (by omega)) (λd=>?_);have u:¬ n<=0:=qM d;have j:ine n 0=true:=(by simp[ine];omega);refine zdb (λt=>zbh f (zbh j<|zii aI (zom _) λe=>zYD i.1 e)) (λt=>?_);refine zbh f (zbh k<|zbh l<|zbh m<|zbh j<|zii aI (zom _) λe=>zYD ?_ e);generalize zhR c=a at i;generalize zhR _=g at q;generalize zhR _=p at r;generalize zhR _=z at s;have v:zm5 .i64 a 16777216=a*16777216:=zt5 (by omega) (by omega);have w:zm5 .i64 g 65536=g*65536:=zt5 (by omega) (by omega);have y:zm5 .i64 p 256=p*256:=zt5 (by omega) (by omega);rw[v,w,y,zpI (x:=a*16777216) (by omega) (by omega),zpI (x:=a*16777216+g*65536) (by omega) (by omega),zpI (by omega) (by omega)];omega
def z5J:zdR:=[(44,[false,true,true],zv7)]++z5I
theorem zIl:zcI z5J:=zeI zVe (by
 intro x a;simp only[qH,qY,or_false]at a;rcases a with rfl
 .exact zHQ)
def zwy (N:Nat)(c:Cur)(a:Int):OA:=
 (oN (zbl c a)<|some [.agg [.s .u8 c.b,.i .i64 (zC c a).i,.i .i64 (zC c a).h],aB<|ieq (zbg c a) 0])
def zqK (c:Cur)(a:Int)(s:Cur)(d:Bool):Prop:=(∃N,zwy N c a=some (AV.agg (zf7 s)::[aB d]))/\(s.b=c.b/\0<=s.i)/\(True)
def zeG (c:Cur)(a:Int):Bool:=wC (zqK c a)
def zcT (c:Cur)(a:Int):Cur:=wS (zqK c a)
def zhS (c:Cur)(a:Int):Bool:=wV (zqK c a)
theorem zXq {c:Cur}{a:Int}(h:zeG c a=true):zqK c a (zcT c a) (zhS c a):=wG h
theorem zgb (c:Cur)(a:Int):0<=(zcT c a).i:=wP λh=>h.2.1.2
theorem zXr (c:Cur)(a:Int)(h:∃N,Ends (wE (λd=>aB d) c.b λd=>True)<|zwy N c a):zeG c a=true:=wI (λ_ _ h=>h) h
def zxH:zmw:=rP1 dI λc b=>(zeG c b,zcT c b,[aB<|zhS c b])
theorem zKR:zdA Tryz.prog 47 [false,true,true] zxH:=hP1 zen zbk zIl zo (zq []) (λ_ _ h=>(zXq h).1)
theorem zxF {c:Cur}(h:zcZ c)(n:Int):zeG c n=true:=by refine zXr c n ⟨0,?_⟩;unfold zwy oN;exact zbh (zgQ h _) (zii aB (zb4 _ _) trivial)
def zq1 (N:Nat)(c:Cur)(a:List Int):OA:=
 (oN (zbl c<|ln a)<|oN (inb (zbg c<|ln a)<|ln a)<|some [.agg [.s .u8 c.b,.i .i64 (zC c<|ln a).i,.i .i64 (zC c<|ln a).h],aI<|ix a (zbg c<|ln a) 0])
def zmt (c:Cur)(a:List Int)(s:Cur)(d:Int):Prop:=(∃N,zq1 N c a=some (AV.agg (zf7 s)::[aI d]))/\(s.b=c.b/\0<=s.i)/\(0<a.length->d∈a)
def zef (c:Cur)(a:List Int):Bool:=wC (zmt c a)
def zcd (c:Cur)(a:List Int):Cur:=wS (zmt c a)
def zee (c:Cur)(a:List Int):Int:=wV (zmt c a)
theorem zx2 {c:Cur}{a:List Int}(h:zef c a=true):zmt c a (zcd c a) (zee c a):=wG h
theorem zg4 (c:Cur)(a:List Int):0<=(zcd c a).i:=wP λh=>h.2.1.2
theorem zPo (c:Cur)(a:List Int)(h:∃N,Ends (wE (λd=>aI d) c.b λd=>0<a.length->d∈a)<|zq1 N c a):zef c a=true:=wI (λ_ _ h=>h) h
def zth:zmw:=rP1 (dS .int) λc b=>(zef c b,zcd c b,[aI<|zee c b])
theorem zCt:zdA Tryz.prog 110 [false,true,true] zth:=hP1 zen zbk zIl zo (zq []) (λ_ _ h=>(zx2 h).1)
theorem zuS {c:Cur}(h:zcZ c){l:List Int}(b:l≠[]):zef c l=true:=by refine zPo c l ⟨0,?_⟩;have d:0<ln l:=(by unfold ln;have:=uJ.2 b;omega);have g:=(zu6<|zgQ h<|ln l).2.2 d;have a:inb (zbg c<|ln l) (ln l)=true:=qL ⟨g.1,g.2⟩;unfold zq1 oN;exact zbh (zgQ h _) (zbh a<|zii aI (zb4 _ _) λ_=>zbz a 0)
def z5K:zdR:=[(47,[false,true,true],zxH),(110,[false,true,true],zth)]++z5J
theorem zVf:zcI z5K:=zeI zIl (by
 intro x a;simp only[qH,qY,or_false]at a;rcases a with rfl|rfl
 .exact zKR
 .exact zCt)
theorem zeu {c:Cur}{i k:Int}(h:zcZ c)(a:0<=i):zcZ ⟨c.b,i,k⟩:=⟨a,h.2⟩
theorem z7k {c:Cur}(h:zcZ c){l:List Int}(a:l≠[]):zee c l∈l:=(zx2<|zuS h a).2.2 (uJ.2 a)
theorem zmz {c:Cur}(h:zcZ c){n:Int}(a:0<n):0<=zbg c n/\zbg c n<n:=(zu6<|zgQ h n).2.2 a
theorem zK9 {o x:Int}(h:(o=1\/o=2\/o=5\/o=6)/\0<=x/\x<=99\/(o=3\/o=4)/\0<=x/\x<=15\/o=8/\0<=x/\x<=11):zjW ⟨o,x⟩=true:=by have w:∀{a b:Int},a<=x->x<=b->zk x a b=true:=λc d=>(by simp only[zk,ige,ile,qE,qZ];exact⟨c,d⟩);rcases h with⟨h|h|h|h,c,d⟩|⟨h|h,c,d⟩|⟨h,c,d⟩<;>subst h<;>exact w c d
def zx8 (N:Nat)(c:Cur)  : OA :=
 let d:=zee c [1,2,3,3,3,4,4,4,5,6,8];let a:=({ (zcd c [1,2,3,3,3,4,4,4,5,6,8]) with b:=c.b}:Cur); (share (oN (zbl a 16)<|some [.agg [.s .u8 c.b,.i .i64 (zC a 16).i,.i .i64 (zC a 16).h],.agg [.i .i64 d,.i .i64<|zbg a 16]]) λf=>share (cond (ieq d 8) (oN (zbl a 4)<|some [.agg [.s .u8 c.b,.i .i64 (zC a 4).i,.i .i64 (zC a 4).h],.agg [.i .i64 d,.i .i64<|zbg a 4]])<|oN (zbl a 100)<|some [.agg [.s .u8 c.b,.i .i64 (zC a 100).i,.i .i64 (zC a 100).h],.agg [.i .i64 d,.i .i64<|zbg a 100]]) λe=>oN (zef c [1,2,3,3,3,4,4,4,5,6,8])<|cond (ieq d 3) (cond (ieq d 3) f e)<|cond (ieq d 4) f e)
def zr6 (c:Cur)(s:Cur)(a:Ins):Prop:=(∃N,zx8 N c=some (AV.agg (zf7 s)::[aT .ins a]))/\(s.b=c.b/\0<=s.i)/\(zjW a=true)
def zqL (c:Cur)  : Bool:=wC (zr6 c)
def zqM (c:Cur)  : Cur:=wS (zr6 c)
def zy4 (c:Cur)  : Ins:=wV (zr6 c)
theorem zL2 {c:Cur}(h:zqL c=true):zr6 c (zqM c) (zy4 c):=wG h
theorem zZP (c:Cur)  : 0<=(zqM c).i:=wP λh=>h.2.1.2
theorem zZO (c:Cur)(h:∃N,Ends (wE (λa=>aT .ins a) c.b λa=>zjW a=true)<|zx8 N c):zqL c=true:=wI (λ_ _ h=>h) h
def zzZ:zmw:=rP0 λc=>(zqL c,zqM c,[aT .ins<|zy4 c])
theorem zN5:zdA Tryz.prog 351 [false,true,true] zzZ:=hP0 zen zbk zVf zo (zq []) (λ_ h=>(zL2 h).1)
theorem z5y {c:Cur}(h:zcZ c):zqL c=true:=by
 refine zZO c ⟨0,?_⟩;have p:([1,2,3,3,3,4,4,4,5,6,8]:List Int)≠[]:=(by simp);have q:=z7k h p;have f:zcZ {zcd c [1,2,3,3,3,4,4,4,5,6,8] with b:=c.b}:=zeu h (zg4 _ _);have t:=zmz f (n:=16) (by omega);have w:=zmz f (n:=4) (by omega);have m:=zmz f (n:=100) (by omega);unfold zx8 oN;conv=>zeta
 generalize zee c [1,2,3,3,3,4,4,4,5,6,8]=o at q;simp only[qH,qY,or_false]at q;have j:∀{n:Int},ieq o n=false->o≠n:=λh e=>(by subst e;simp[ieq]at h);have k:∀{n:Int},ieq o n=true->o=n:=λh=>by simpa [ieq] using h
 have L:∀(n:Int),0<n->(zjW ⟨o,zbg {zcd c [1,2,3,3,3,4,4,4,5,6,8] with b:=c.b} n⟩=true)->Ends (λa=>∃s r,a=(AV.agg (zf7 s)::[aT .ins r])/\(s.b=c.b/\0<=s.i)/\zjW r=true)
  (cond (zbl {zcd c [1,2,3,3,3,4,4,4,5,6,8] with b:=c.b} n) (some (AV.agg [.s .u8 c.b,.i .i64 (zC {zcd c [1,2,3,3,3,4,4,4,5,6,8] with b:=c.b} n).i,.i .i64 (zC {zcd c [1,2,3,3,3,4,4,4,5,6,8] with b:=c.b} n).h]::[.agg [.i .i64 o,.i .i64<|zbg {zcd c [1,2,3,3,3,4,4,4,5,6,8] with b:=c.b} n]])) none):=
  λn x u=>zbh (zgQ f n) (zii (aT .ins) (v:=⟨o,zbg _ n⟩) (zb4 _ _) u)
 refine zbh (zuS h p) (zdb (λg=>zdb (λ_=>L 16 (by omega) (zK9 ?_)) λd=>absurd (k g) (j d)) λg=>zdb (λd=>L 16 (by omega) (zK9 ?_)) λd=>zdb (λl=>L 4 (by omega) (zK9 ?_)) λl=>L 100 (by omega) (zK9 ?_));{have:=k g;omega};{have:=k d;omega};{have:=k l;omega};{have:=j g;have:=j d;have:=j l;omega}
def z5L:zdR:=[(351,[false,true,true],zzZ)]++z5K
theorem zVg:zcI z5L:=zeI zVf (by
 intro x a;simp only[qH,qY,or_false]at a;rcases a with rfl
 .exact zN5)
theorem zpJ {x y:Int}(a:0<=x)(b:x<=1000000)(c:0<=y)(d:y<=1000000):zG .i64 x y=x+y:=zpI (by omega) (by omega)
theorem zsm {a:Type}{l:List a}(h:ln l<=1000000):few (ln l)=true:=qL ⟨by unfold ln;omega,by omega⟩
theorem zmh {a:Type}(l:List a)(x:a):ln (ap l [x])=ln l+1:=by simp[ln,ap]
def zwz (N:Nat)(c:Cur)  : OA :=
 (iter (σ:=(Int×Int×Int×lI×(List Int)×Unit)) N (λj d=>let e:=d.2.2.2.1;let f:=d.2.2.2.2.1;let g:=(⟨f,d.2.1,d.2.2.1⟩:Cur);let a:=({ (zC g 7) with b:=f}:Cur); (oN (zbl g 7)<|cond (ilt d.1<|zG .i64 2<|zbg g 7) (oN (zqL a)<|oN (few<|ln<|ap e [zy4 a])<|j (zG .i64 d.1 1,(zqM a).i,(zqM a).h,ap e [zy4 a],f,()))<|oN (zeG a 3)<|cond (zhS a 3) (oN (few<|ln<|ap e [(⟨7,0⟩:Ins)])<|some [.agg [.s .u8 f,.i .i64 (zcT a 3).i,.i .i64 (zcT a 3).h],aS .ins<|ap e [(⟨7,0⟩:Ins)]])<|oN (few<|ln<|ap e [(⟨8,0⟩:Ins)])<|some [.agg [.s .u8 f,.i .i64 (zcT a 3).i,.i .i64 (zcT a 3).h],aS .ins<|ap e [(⟨8,0⟩:Ins)]])) (0,c.i,c.h,[],c.b,()))
def zSQ:=zq [(300,0,{n:=29,tm:=[(0,.lp 0 0),(3,.sl 0 []),(4,ti)],lo:=[(0,[.sl 1 [],ti,ti])],ro:=[(0,.ins,true),(1,.u8,false)]})]
def zqN (c:Cur)(s:Cur)(a:List Ins):Prop:=(∃N,zwz N c=some (AV.agg (zf7 s)::[aS .ins a]))/\(s.b=c.b/\0<=s.i)/\(zeP a=true)
def zl7 (c:Cur)  : Bool:=wC (zqN c)
def zl8 (c:Cur)  : Cur:=wS (zqN c)
def zsE (c:Cur)  : List Ins:=wV (zqN c)
theorem zGl {c:Cur}(h:zl7 c=true):zqN c (zl8 c) (zsE c):=wG h
theorem zXt (c:Cur)  : 0<=(zl8 c).i:=wP λh=>h.2.1.2
theorem zXs (c:Cur)(h:∃N,Ends (wE (λa=>aS .ins a) c.b λa=>zeP a=true)<|zwz N c):zl7 c=true:=wI (λ_ _ h=>h) h
def zxI:zmw:=rP0 λc=>(zl7 c,zl8 c,[aS .ins<|zsE c])
theorem zKU:zdA Tryz.prog 300 [false,true,true] zxI:=hP0 zen zbk zVg zo zSQ (λ_ h=>(zGl h).1)
theorem z1S {c:Cur}(h:zcZ c):zl7 c=true:=by
 refine zXs c ⟨9,?_⟩;unfold zwz oN;conv=>zeta
 refine zsk (λn s=>s.1+(n:Int)=8/\0<=s.1/\0<=s.2.1/\(∀x∈s.2.2.2.1,zjW x=true)/\ln s.2.2.2.1=s.1/\s.2.2.2.2.1=c.b) ?_ 9 8 _ ⟨rfl,kM 0,h.1,by simp,rfl,rfl⟩ (by omega);rintro n ⟨t,i,k,l,b,u⟩ rec ⟨B,g,v,j,w,z⟩ f;dsimp only at B g v j w z ⊢;subst z;have a:zcZ ⟨c.b,i,k⟩:=zeu h v;have d:=zmz a (n:=7) (by omega);have A:=zpJ (x:=2) (by omega) (by omega) d.1 (by omega);have m:zcZ {zC ⟨c.b,i,k⟩ 7 with b:=c.b}:=zeu h (zb4 _ _);have e:∀(y:Ins),zjW y=true->2<=t->zeP (ap l [y])=true:=(by intro y C D;unfold zeP;rw[zmh,w];have:(ap l [y]).all zjW=true:=(by simp only[ap,List.all_append,kW,List.all_nil,u0,qE];exact⟨qQ.2 j,C⟩);rw[this,cT];simp only[zk,ige,ile,qE,qZ];omega);refine zbh (zgQ a 7) (zdb (λp=>?_) λp=>?_);{have r:t<zG .i64 2 (zbg ⟨c.b,i,k⟩ 7):=qD p;rw[A]at r;refine zbh (z5y m) (zbh (zsm (by rw[zmh];omega))<|f (n-1) _ (by omega) ⟨?_,?_,zZP _,?_,?_,rfl⟩);{show zG .i64 t 1+_=8;rw[zpJ g (by omega) (by omega) (by omega)];omega};{show 0<=zG .i64 t 1;rw[zpJ g (by omega) (by omega) (by omega)];omega};{intro x d;rcases jS.1 d with d|d;{exact j x d};{rw [qF.1 d];exact(zL2<|z5y m).2.2}};{show ln (ap l [_])=zG .i64 t 1;rw[zmh,zpJ g (by omega) (by omega) (by omega)];omega}};{have q:¬ t<zG .i64 2 (zbg ⟨c.b,i,k⟩ 7):=qM p;rw[A]at q;refine zbh (zxF m 3) (zdb (λ_=>zbh (zsm (by rw[zmh];omega)) (zii (aS .ins) (zgb _ _) (e _ rfl (by omega)))) λ_=>zbh (zsm (by rw[zmh];omega)) (zii (aS .ins) (zgb _ _) (e _ rfl (by omega))))}
def z5M:zdR:=[(300,[false,true,true],zxI)]++z5L
theorem zVh:zcI z5M:=zeI zVg (by
 intro x a;simp only[qH,qY,or_false]at a;rcases a with rfl
 .exact zKU)
theorem zWn {f:Type}{c:Cur}(h:zcZ c){P:f->Prop}{fc:Cur->Bool}{fs:Cur->Cur}{fv:Cur->f}(C:∀{c:Cur},zcZ c->fc c=true)(D:∀c,0<=(fs c).i)(hg:∀{c:Cur},zcZ c->P (fv c)){G:Ans->Prop}{R:Cur->List f->Ans}(B:∀s l,s.b=c.b->0<=s.i->1<=l.length->l.length<=2->(∀x∈l,P x)->G (R s l)){F:(Int×Int×Int×List f×List Int×Unit->OA)->Int×Int×Int×List f×List Int×Unit->OA}(A:∀rec t i k l,F rec (t,i,k,l,c.b,())=bif zbl ⟨c.b,i,k⟩ 2 then (bif ilt t (zG .i64 1 (zbg ⟨c.b,i,k⟩ 2)) then (bif fc { zC ⟨c.b,i,k⟩ 2 with b:=c.b } then (bif few (ln (ap l [fv { zC ⟨c.b,i,k⟩ 2 with b:=c.b }])) then
        rec (zG .i64 t 1,(fs {zC ⟨c.b,i,k⟩ 2 with b:=c.b}).i,(fs {zC ⟨c.b,i,k⟩ 2 with b:=c.b}).h,ap l [fv {zC ⟨c.b,i,k⟩ 2 with b:=c.b}],c.b,()) else none) else none) else some (R ⟨c.b,(zC ⟨c.b,i,k⟩ 2).i,(zC ⟨c.b,i,k⟩ 2).h⟩ l)) else none) :
 Ends G (iter 3 F (0,c.i,c.h,[],c.b,())):=by
 refine zsk (fun n s=>s.1+(n:Int)=2/\0<=s.1/\0<=s.2.1/\(∀x∈s.2.2.2.1,P x)/\ln s.2.2.2.1=s.1/\s.2.2.2.2.1=c.b) ?_ 3 2 _ ⟨rfl,kM 0,h.1,by simp,rfl,rfl⟩ (by omega)
 rintro n ⟨t,i,k,l,b,u⟩ rec ⟨z,m,p,g,q,r⟩ e
 dsimp only at z m p g q r
 subst r;rw[A];have a:zcZ ⟨c.b,i,k⟩:=zeu h p;have d:=zmz a (n:=2) (by omega)
 have w:=zpJ (x:=1) (by omega) (by omega) d.1 (by omega)
 have v:zcZ {zC ⟨c.b,i,k⟩ 2 with b:=c.b}:=zeu h (zb4 _ _);refine zbh (zgQ a 2) (zdb (fun j=>?_) (fun j=>?_))
 .have hlt:t<zG .i64 1 (zbg ⟨c.b,i,k⟩ 2):=qD j;rw[w]at hlt;have E:=zpJ (y:=1) m (by omega) (by omega) (by omega)
  refine zbh (C v) (zbh (zsm (by rw[zmh];omega)) (e (n-1) _ (by omega) ⟨?_,?_,D _,?_,?_,rfl⟩))
  .show zG .i64 t 1+_=2
   omega
  .show 0<=zG .i64 t 1
   omega
  .intro x d;rcases jS.1 d with d|d
   .exact g x d
   .rw [qF.1 d];exact hg v
  .show ln (ap l [_])=zG .i64 t 1
   rw[zmh];omega
 .have hge:¬ t<zG .i64 1 (zbg ⟨c.b,i,k⟩ 2):=qM j;rw[w]at hge;unfold ln at q;exact zJL (B _ l rfl (zb4 _ _) (by omega) (by omega) g)
def zue (N:Nat)(c:Cur)  : OA :=
 (iter (σ:=(Int×Int×Int×lP×(List Int)×Unit)) N (λg a=>let f:=a.2.2.2.2.1;let e:=(⟨f,a.2.1,a.2.2.1⟩:Cur);let d:=({ (zC e 2) with b:=f}:Cur); (oN (zbl e 2)<|cond (ilt a.1<|zG .i64 1<|zbg e 2) (oN (zl7 d)<|oN (few<|ln<|ap a.2.2.2.1 [zsE d])<|g (zG .i64 a.1 1,(zl8 d).i,(zl8 d).h,ap a.2.2.2.1 [zsE d],f,()))<|some [.agg [.s .u8 f,.i .i64 (zC e 2).i,.i .i64 (zC e 2).h],aS (.sl .ins) a.2.2.2.1])) (0,c.i,c.h,[],c.b,()))
def zPO:=zq [(191,0,{n:=19,tm:=[(0,.lp 0 0),(3,.sl 0 []),(4,ti)],lo:=[(0,[.sl 1 [],ti,ti])],ro:=[(0,.sl .ins,true),(1,.u8,false)]})]
def zoT (c:Cur)(s:Cur)(a:List (List Ins)):Prop:=(∃N,zue N c=some (AV.agg (zf7 s)::[aS (.sl .ins) a]))/\(s.b=c.b/\0<=s.i)/\(1<=a.length/\a.length<=2/\∀x∈a,zeP x=true)
def zk2 (c:Cur)  : Bool:=wC (zoT c)
def zk3 (c:Cur)  : Cur:=wS (zoT c)
def zqP (c:Cur)  : List (List Ins):=wV (zoT c)
theorem zC6 {c:Cur}(h:zk2 c=true):zoT c (zk3 c) (zqP c):=wG h
theorem zVC (c:Cur)  : 0<=(zk3 c).i:=wP λh=>h.2.1.2
theorem zVB (c:Cur)(h:∃N,Ends (wE (λa=>aS (.sl .ins) a) c.b λa=>1<=a.length/\a.length<=2/\∀x∈a,zeP x=true)<|zue N c):zk2 c=true:=wI (λ_ _ h=>h) h
def zv8:zmw:=rP0 λc=>(zk2 c,zk3 c,[aS (.sl .ins)<|zqP c])
theorem zHR:zdA Tryz.prog 191 [false,true,true] zv8:=hP0 zen zbk zVh zo zPO (λ_ h=>(zC6 h).1)
theorem zYk {c:Cur}(h:zcZ c):zk2 c=true:=by
 refine zVB c ⟨3,?_⟩;unfold zue oN;conv=>zeta
 exact zWn h (P:=λx=>zeP x=true) (fc:=zl7) (fs:=zl8) (fv:=zsE) (R:=λs l=>AV.agg (zf7 s)::[aS (.sl .ins) l]) z1S zXt (λh=>(zGl<|z1S h).2.2) (λs l d e a b f=>⟨s,l,rfl,⟨d,e⟩,a,b,f⟩) (λrec t i k l=>rfl)
def z5N:zdR:=[(191,[false,true,true],zv8)]++z5M
theorem zVi:zcI z5N:=zeI zVh (by
 intro x a;simp only[qH,qY,or_false]at a;rcases a with rfl
 .exact zHR)
def zya (N:Nat)(c:Cur)  : OA :=
 (iter (σ:=(Int×Int×Int×lQ×(List Int)×Unit)) N (λg a=>let f:=a.2.2.2.2.1;let e:=(⟨f,a.2.1,a.2.2.1⟩:Cur);let d:=({ (zC e 2) with b:=f}:Cur); (oN (zbl e 2)<|cond (ilt a.1<|zG .i64 1<|zbg e 2) (oN (zk2 d)<|oN (few<|ln<|ap a.2.2.2.1 [zqP d])<|g (zG .i64 a.1 1,(zk3 d).i,(zk3 d).h,ap a.2.2.2.1 [zqP d],f,()))<|some [.agg [.s .u8 f,.i .i64 (zC e 2).i,.i .i64 (zC e 2).h],aS (.sl<|.sl .ins) a.2.2.2.1])) (0,c.i,c.h,[],c.b,()))
def zWi:=zq [(81,0,{n:=19,tm:=[(0,.lp 0 0),(3,.sl 0 []),(4,ti)],lo:=[(0,[.sl 1 [],ti,ti])],ro:=[(0,.sl<|.sl .ins,true),(1,.u8,false)]})]
def zr8 (c:Cur)(s:Cur)(a:List (List<|List Ins)):Prop:=(∃N,zya N c=some (AV.agg (zf7 s)::[aS (.sl<|.sl .ins) a]))/\(s.b=c.b/\0<=s.i)/\(1<=a.length/\a.length<=2/\∀p∈a,1<=p.length/\p.length<=2/\∀x∈p,zeP x=true)
def znP (c:Cur)  : Bool:=wC (zr8 c)
def zj3 (c:Cur)  : Cur:=wS (zr8 c)
def zu7 (c:Cur)  : List (List<|List Ins):=wV (zr8 c)
theorem zL3 {c:Cur}(h:znP c=true):zr8 c (zj3 c) (zu7 c):=wG h
theorem zZU (c:Cur)  : 0<=(zj3 c).i:=wP λh=>h.2.1.2
theorem zZT (c:Cur)(h:∃N,Ends (wE (λa=>aS (.sl<|.sl .ins) a) c.b λa=>1<=a.length/\a.length<=2/\∀p∈a,1<=p.length/\p.length<=2/\∀x∈p,zeP x=true)<|zya N c):znP c=true:=wI (λ_ _ h=>h) h
def zz1:zmw:=rP0 λc=>(znP c,zj3 c,[aS (.sl<|.sl .ins)<|zu7 c])
theorem zN7:zdA Tryz.prog 81 [false,true,true] zz1:=hP0 zen zbk zVi zo zWi (λ_ h=>(zL3 h).1)
theorem z4k {c:Cur}(h:zcZ c):znP c=true:=by
 refine zZT c ⟨3,?_⟩;unfold zya oN;conv=>zeta
 exact zWn h (P:=λp=>1<=p.length/\p.length<=2/\∀x∈p,zeP x=true) (fc:=zk2) (fs:=zk3) (fv:=zqP) (R:=λs l=>AV.agg (zf7 s)::[aS (.sl<|.sl .ins) l]) zYk zVC (λh=>(zC6<|zYk h).2.2) (λs l d e a b f=>⟨s,l,rfl,⟨d,e⟩,a,b,f⟩) (λrec t i k l=>rfl)
def z5O:zdR:=[(81,[false,true,true],zz1)]++z5N
theorem zVj:zcI z5O:=zeI zVi (by
 intro x a;simp only[qH,qY,or_false]at a;rcases a with rfl
 .exact zN7)
theorem zDp {c:Type}{G:c->Prop}{x:Bool}{a b:Option c}(k:Ends G a)(h:x=true:=by first
 |exact zgQ (by first|assumption|exact zeu (by assumption) (zb4 _ _)|exact zeu (by assumption) (zgb _ _)|exact zeu (by assumption) (zg4 _ _)) _
 |exact zxF (by first|assumption|exact zeu (by assumption) (zb4 _ _)|exact zeu (by assumption) (zgb _ _)) _
 |exact zuS (by first|assumption|exact zeu (by assumption) (zb4 _ _)) (by simp)):Ends G (cond x a b):=zbh h k
def zx9 (N:Nat)(c:Cur)  : OA :=
 let f:=zbg c 4;let j:=({ (zC c 4) with b:=c.b}:Cur);let e:=zhS j 4;let d:=zcT j 4;let a:=({d with b:=c.b}:Cur);let g:=({ (zcT a 2) with b:=c.b}:Cur); (oN (zbl c 4)<|oN (zeG j 4)<|cond (nB e) (cond (ine f 2) (oN (zeG a 2)<|cond (zhS a 2) (oN (zbl g 256)<|some [.agg [.s .u8 c.b,.i .i64 (zC g 256).i,.i .i64 (zC g 256).h],.agg [.i .i64 f,.i .i64<|zbg g 256,.b<|nB e]])<|some [.agg [.s .u8 c.b,.i .i64 (zcT a 2).i,.i .i64 (zcT a 2).h],.agg [.i .i64 f,.i .i64 0,.b<|nB e]])<|some [.agg [.s .u8 c.b,.i .i64 d.i,.i .i64 d.h],.agg [.i .i64 f,.i .i64 0,.b<|nB e]])<|some [.agg [.s .u8 c.b,.i .i64 d.i,.i .i64 d.h],.agg [.i .i64 f,.i .i64 0,.b<|nB e]])
def zr7 (c:Cur)(s:Cur)(a:Ctl):Prop:=(∃N,zx9 N c=some (AV.agg (zf7 s)::[.agg<|zym a]))/\(s.b=c.b/\0<=s.i)/\(True)
def zqO (c:Cur)  : Bool:=wC (zr7 c)
def zlG (c:Cur)  : Cur:=wS (zr7 c)
def zpd (c:Cur)  : Ctl:=wV (zr7 c)
theorem zZQ {c:Cur}(h:zqO c=true):zr7 c (zlG c) (zpd c):=wG h
theorem zZS (c:Cur)  : 0<=(zlG c).i:=wP λh=>h.2.1.2
theorem zZR (c:Cur)(h:∃N,Ends (wE (λa=>.agg (zym a)) c.b λa=>True)<|zx9 N c):zqO c=true:=wI (λ_ _ h=>h) h
def zz0:zmw:=rP0 λc=>(zqO c,zlG c,[.agg<|zym<|zpd c])
theorem zN6:zdA Tryz.prog 233 [false,true,true] zz0:=hP0 zen zbk zVj zo (zq []) (λ_ h=>(zZQ h).1)
theorem z9h {c:Cur}(h:zcZ c):zqO c=true:=by
 refine zZR c ⟨0,?_⟩;unfold zx9 oN nB;conv=>zeta
 refine zDp (zDp<|zdb (λ_=>zdb (λ_=>zDp (zdb (λ_=>zDp (?_)) λ_=>?_)) λ_=>?_) λ_=>?_);all_goals exact zii (λx=>AV.agg (zym x)) (v:=⟨_,_,_⟩) (by first|exact zb4 _ _|exact zgb _ _) trivial
def z5P:zdR:=[(233,[false,true,true],zz0)]++z5O
theorem zIm:zcI z5P:=zeI zVj (by
 intro x a;simp only[qH,qY,or_false]at a;rcases a with rfl
 .exact zN6)
theorem zeA {c:Type}{G:c->Prop}{x:Bool}{a b:Option c}(k:Ends G a)(h:x=true:=by first
 |exact zgQ (by first|assumption|exact zeu (by assumption) (zb4 _ _)|exact zeu (by assumption) (zg4 _ _)) _
 |exact zuS (by first|assumption|exact zeu (by assumption) (zb4 _ _)) (by simp)
 |exact z9h (zeu (by assumption)<|zb4 _ _)):Ends G (cond x a b):=zbh h k
def zyc (N:Nat)(c:Cur)  : OA :=
 let m:=({ (zC c 2) with b:=c.b}:Cur);let g:=zbg c 2;let f:=zbg m 2;let u:=({ (zC m 2) with b:=c.b}:Cur);let e:=zC u 24;let d:=zbg u 24;let a:=({e with b:=c.b}:Cur);let j:=zC a 8;let l:=({ (zC a 4) with b:=c.b}:Cur);let k:=({j with b:=c.b}:Cur);let t:=({ (zC a 16) with b:=c.b}:Cur);let r:=({ (zcd a [16,17]) with b:=c.b}:Cur);let q:=({ (zcd a [13,13,14,15]) with b:=c.b}:Cur);let p:=({ (zC k 4) with b:=c.b}:Cur);let n:=({ (zC l 8) with b:=c.b}:Cur); (share (oN (zef a [13,13,14,15])<|oN (zbl q 8)<|some [.agg [.s .u8 c.b,.i .i64 (zC q 8).i,.i .i64 (zC q 8).h],.agg [.i .i64<|zee a [13,13,14,15],.i .i64 g,.i .i64 f,.i .i64<|zbg q 8,.i .i64 0,.i .i64 0]]) λA=>share (cond (ieq d 16) (oN (zef a [16,17])<|oN (zbl r 4)<|some [.agg [.s .u8 c.b,.i .i64 (zC r 4).i,.i .i64 (zC r 4).h],.agg [.i .i64<|zee a [16,17],.i .i64 g,.i .i64 f,.i .i64<|zbg r 4,.i .i64 0,.i .i64 0]])<|some [.agg [.s .u8 c.b,.i .i64 e.i,.i .i64 e.h],.agg [.i .i64 1,.i .i64 g,.i .i64 f,.i .i64 0,.i .i64 0,.i .i64 0]]) λz=>share (oN (zbl a 4)<|oN (zbl l 8)<|oN (zef n [3,3,1,2])<|some [.agg [.s .u8 c.b,.i .i64 (zcd n [3,3,1,2]).i,.i .i64 (zcd n [3,3,1,2]).h],.agg [.i .i64 2,.i .i64 g,.i .i64 f,.i .i64<|zbg a 4,.i .i64<|zbg l 8,.i .i64<|zee n [3,3,1,2]]]) λy=>share (oN (zbl a 4)<|some [.agg [.s .u8 c.b,.i .i64 (zC a 4).i,.i .i64 (zC a 4).h],.agg [.i .i64 3,.i .i64 g,.i .i64 f,.i .i64<|zbg a 4,.i .i64 0,.i .i64 0]]) λx=>share (cond (ieq d 7) (oN (zbl a 8)<|some [.agg [.s .u8 c.b,.i .i64 j.i,.i .i64 j.h],.agg [.i .i64 6,.i .i64 g,.i .i64 f,.i .i64<|zbg a 8,.i .i64 0,.i .i64 0]])<|cond (ieq d 8) (oN (zqO a)<|cond ((zpd a).Open) (some [.agg [.s .u8 c.b,.i .i64 (zlG a).i,.i .i64 (zlG a).h],.agg [.i .i64 7,.i .i64 g,.i .i64 f,.i .i64 (zpd a).Traps,.i .i64 (zpd a).Post,.i .i64 1]])<|some [.agg [.s .u8 c.b,.i .i64 (zlG a).i,.i .i64 (zlG a).h],.agg [.i .i64 7,.i .i64 g,.i .i64 f,.i .i64 (zpd a).Traps,.i .i64 (zpd a).Post,.i .i64 0]])<|cond (ieq d 9) (oN (zbl a 8)<|oN (zbl k 4)<|oN (zbl p 100)<|some [.agg [.s .u8 c.b,.i .i64 (zC p 100).i,.i .i64 (zC p 100).h],.agg [.i .i64 8,.i .i64 g,.i .i64 f,.i .i64<|zbg a 8,.i .i64<|zbg k 4,.i .i64<|zbg p 100]])<|cond (ieq d 10) (oN (zbl a 8)<|some [.agg [.s .u8 c.b,.i .i64 j.i,.i .i64 j.h],.agg [.i .i64 9,.i .i64 g,.i .i64 f,.i .i64<|zbg a 8,.i .i64 0,.i .i64 0]])<|cond (ieq d 11) (some [.agg [.s .u8 c.b,.i .i64 e.i,.i .i64 e.h],.agg [.i .i64 10,.i .i64 g,.i .i64 f,.i .i64 0,.i .i64 0,.i .i64 0]])<|cond (ieq d 12) (oN (zbl a 16)<|oN (zbl t 100)<|some [.agg [.s .u8 c.b,.i .i64 (zC t 100).i,.i .i64 (zC t 100).h],.agg [.i .i64 11,.i .i64 g,.i .i64 f,.i .i64<|zbg a 16,.i .i64<|zbg t 100,.i .i64 0]])<|cond (ieq d 13) (oN (zbl a 16)<|some [.agg [.s .u8 c.b,.i .i64 (zC a 16).i,.i .i64 (zC a 16).h],.agg [.i .i64 12,.i .i64 g,.i .i64 f,.i .i64<|zbg a 16,.i .i64 0,.i .i64 0]])<|cond (ieq d 14) (cond (ieq d 14) A z)<|cond (ieq d 15) A z) λv=>share (cond (ieq d 4) (oN (zbl a 100)<|some [.agg [.s .u8 c.b,.i .i64 (zC a 100).i,.i .i64 (zC a 100).h],.agg [.i .i64 4,.i .i64 g,.i .i64 f,.i .i64<|zbg a 100,.i .i64 0,.i .i64 0]])<|cond (ieq d 5) (cond (ieq d 5) (some [.agg [.s .u8 c.b,.i .i64 e.i,.i .i64 e.h],.agg [.i .i64 5,.i .i64 g,.i .i64 f,.i .i64 0,.i .i64 0,.i .i64 0]]) v)<|cond (ieq d 6) (some [.agg [.s .u8 c.b,.i .i64 e.i,.i .i64 e.h],.agg [.i .i64 5,.i .i64 g,.i .i64 f,.i .i64 0,.i .i64 0,.i .i64 0]]) v) λw=>share (cond (ieq d 2) (cond (ieq d 2) x w)<|cond (ieq d 3) x w) λB=>oN (zbl c 2)<|oN (zbl m 2)<|oN (zbl u 24)<|cond (ieq d 0) (cond (ieq d 0) y B)<|cond (ieq d 1) y B)
def zr9 (c:Cur)(s:Cur)(a:GAct):Prop:=(∃N,zyc N c=some (AV.agg (zf7 s)::[aT .act a]))/\(s.b=c.b/\0<=s.i)/\(True)
def zj5 (c:Cur)  : Bool:=wC (zr9 c)
def zcU (c:Cur)  : Cur:=wS (zr9 c)
def zcB (c:Cur)  : GAct:=wV (zr9 c)
theorem zZV {c:Cur}(h:zj5 c=true):zr9 c (zcU c) (zcB c):=wG h
theorem zL4 (c:Cur)  : 0<=(zcU c).i:=wP λh=>h.2.1.2
theorem zZW (c:Cur)(h:∃N,Ends (wE (λa=>aT .act a) c.b λa=>True)<|zyc N c):zj5 c=true:=wI (λ_ _ h=>h) h
def zz2:zmw:=rP0 λc=>(zj5 c,zcU c,[aT .act<|zcB c])
theorem zOb:zdA Tryz.prog 108 [false,true,true] zz2:=hP0 zen zbk zIm zo (zq []) (λ_ h=>(zZV h).1)
theorem z4j {c:Cur}(h:zcZ c):zj5 c=true:=by
 refine zZW c ⟨0,?_⟩;unfold zyc oN;conv=>zeta
 refine zo0 (zeA<|zeA<|?_) (λ_ g=>zo0 (zdb (λ_=>zeA (zeA<|?_)) λ_=>?_) λ_ f=>zo0 (zeA<|zeA<|zeA<|?_) λ_ e=>zo0 (zeA<|?_) λ_ d=>zo0 (zdb (λ_=>zeA (?_)) λ_=>zdb (λ_=>zeA (zdb (λ_=>?_) λ_=>?_)) λ_=>zdb (λ_=>zeA (zeA<|zeA<|?_)) λ_=>zdb (λ_=>zeA (?_)) λ_=>zdb (λ_=>?_) λ_=>zdb (λ_=>zeA (zeA<|?_)) λ_=>zdb (λ_=>zeA (?_)) λ_=>zdb (λ_=>zdb (λ_=>g) λ_=>f) λ_=>zdb (λ_=>g) λ_=>f) λ_ a=>zo0 (zdb (λ_=>zeA (?_)) λ_=>zdb (λ_=>zdb (λ_=>?_) λ_=>a) λ_=>zdb (λ_=>?_) λ_=>a) λ_ b=>zo0 (zdb (λ_=>zdb (λ_=>d) λ_=>b) λ_=>zdb (λ_=>d) λ_=>b) λ_ i=>zeA (zeA<|zeA<|zdb (λ_=>zdb (λ_=>e) λ_=>i) λ_=>zdb (λ_=>e) λ_=>i));all_goals exact zii (aT .act) (v:=⟨_,_,_,_,_,_⟩) (by first|exact zb4 _ _|exact zg4 _ _|exact zZS _) trivial
def zmv (N:Nat)  : OA :=
 (iter (σ:=(Int×lA×Unit)) N (λe c=>cond (ilt c.1 2) (iter (σ:=(Int×Int×lA×Unit)) N (λf b=>cond (ilt b.2.1 2) (iter (σ:=(Int×Int×Int×lA×Unit)) N (λg a=>let d:=ap a.2.2.2.1 [(⟨2,a.1,a.2.1,a.2.2.1,zG .i64 a.2.2.1<|zm5 .i64 3 a.2.1,3⟩:GAct),(⟨3,a.1,a.2.1,a.2.2.1,0,0⟩:GAct)]; (cond (ilt a.2.2.1 3) (oN (few<|ln d)<|g (a.1,a.2.1,zG .i64 a.2.2.1 1,d,()))<|f (a.1,zG .i64 a.2.1 1,a.2.2.2.1,()))) (b.1,b.2.1,0,b.2.2.1,()))<|e (zG .i64 b.1 1,b.2.2.1,())) (c.1,0,c.2.1,()))<|some [aS .act c.2.1]) (0,[],()))
def zPQ:=zq [(192,0,{n:=34,tm:=[(1,.sl 0 []),(2,ti)],lo:=[],ro:=[(0,.act,true)]}),(192,2,{n:=34,tm:=[(1,.sl 0 []),(2,ti),(3,ti)],lo:=[],ro:=[(0,.act,true)]}),(192,4,{n:=34,tm:=[(1,.sl 0 []),(2,ti),(3,ti),(4,ti)],lo:=[],ro:=[(0,.act,true)]})]
def zs7  (a:List GAct):Prop:=(∃N,zmv N=some [aS .act a])/\(a.length<=45)
def zk6  : Bool:=uC (T:=List GAct) (λr=>zs7 r)
def zVE  : List GAct:=uV (λr=>zs7 r)
def ztP  : List GAct:=(zVE)
theorem zC7  (h:zk6=true):zs7 ztP:=uG h
theorem zVD  (h:∃N,Ends (λa=>∃b,a=[aS .act b]/\(b.length<=45))<|zmv N):zk6=true:=by obtain⟨N,a,e,b,rfl,h⟩:=h;exact zN ⟨b,⟨N,e⟩,h⟩
def zxZ:Run:=rF0 (zk6,[aS .act ztP])
theorem zPa  (a:zk6=true):∃N,zmv N  = some [aS .act ztP]:=by exact(zC7 a).1
theorem zHT:vF 192 zxZ:=kF0 zen zbk zIm zo zPQ zPa
def z0q:List GAct:=match zmv 10 with
 |some [.one<|.s .act l]=>l
 |_=>[]
theorem zXW:zk6=true:=zVD ⟨10,_,(by kernel_rfl:zmv 10=some [aS .act z0q]),z0q,rfl,Nat.le_of_ble_eq_true (by kernel_rfl)⟩
def z5Q:zdR:=[(108,[false,true,true],zz2)]++z5P
theorem zVk:zcI z5Q:=zeI zIm (by
 intro x a;simp only[qH,qY,or_false]at a;rcases a with rfl
 .exact zOb)
def z8g:zY:=[(192,zxZ)]++zTz
theorem z0y:zK z8g:=zf zHT zen
theorem zQH {c:Cur}(h:zcZ c){m:Int}(e:0<=m)(J:m<=1000){G:Ans->Prop}{R:Cur->List GAct->Ans}(D:∀s l,s.b=c.b->0<=s.i->ln l<=45+m->G (R s l)){F:(Int×Int×Int×Int×List GAct×List Int×Unit->OA)->Int×Int×Int×Int×List GAct×List Int×Unit->OA}(C:∀rec t i k l,F rec (m,t,i,k,l,c.b,())=bif zbl ⟨c.b,i,k⟩ (zG .i64 m 1) then (bif ilt t (zbg ⟨c.b,i,k⟩ (zG .i64 m 1)) then (bif zj5 { zC ⟨c.b,i,k⟩ (zG .i64 m 1) with b:=c.b } then (bif few (ln (ap l [zcB { zC ⟨c.b,i,k⟩ (zG .i64 m 1) with b:=c.b }])) then
        rec (m,zG .i64 t 1,(zcU {zC ⟨c.b,i,k⟩ (zG .i64 m 1) with b:=c.b}).i,(zcU {zC ⟨c.b,i,k⟩ (zG .i64 m 1) with b:=c.b}).h,ap l [zcB {zC ⟨c.b,i,k⟩ (zG .i64 m 1) with b:=c.b}],c.b,()) else none) else none) else some (R ⟨c.b,(zC ⟨c.b,i,k⟩ (zG .i64 m 1)).i,(zC ⟨c.b,i,k⟩ (zG .i64 m 1)).h⟩ l)) else none){w I:Int}(f:0<=w){g:List GAct}(E:g.length<=45):Ends G (iter 1002 F (m,0,w,I,g,c.b,())):=by
 refine zsk (fun n s=>s.1=m/\s.2.1+(n:Int)=1000/\0<=s.2.1/\0<=s.2.2.1/\(ln s.2.2.2.2.1<=45+s.2.1/\s.2.1<=m)/\s.2.2.2.2.2.1=c.b) ?_ 1002 1000 _ ⟨rfl,rfl,kM 0,f,⟨by unfold ln;show ((g.length:Nat):Int)<=45+0;omega,e⟩,rfl⟩ (by omega)
 rintro n ⟨q,t,i,k,l,b,u⟩ rec ⟨e,z,j,p,⟨A,H⟩,r⟩ d
 dsimp only at e z j p A r H
 subst r;subst e;rw[C];have a:zcZ ⟨c.b,i,k⟩:=zeu h p;have L:=zpJ (x:=q) (y:=1) (by omega) (by omega) (by omega) (by omega)
 have M:=zmz a (n:=zG .i64 q 1) (by omega)
 have B:zcZ {zC ⟨c.b,i,k⟩ (zG .i64 q 1) with b:=c.b}:=zeu h (zb4 _ _);refine zbh (zgQ a _) (zdb (fun v=>?_) (fun v=>?_))
 .have hlt:t<zbg ⟨c.b,i,k⟩ (zG .i64 q 1):=qD v;have K:=zpJ (y:=1) j (by omega) (by omega) (by omega)
  refine zbh (z4j B) (zbh (zsm (by rw[zmh];omega)) (d (n-1) _ (by omega) ⟨rfl,?_,?_,zL4 _,⟨?_,?_⟩,rfl⟩))
  .show zG .i64 t 1+_=1000
   omega
  .show 0<=zG .i64 t 1
   omega
  .show ln (ap l [_])<=45+zG .i64 t 1
   rw[zmh];omega
  .show zG .i64 t 1<=q
   omega
 .refine zJL (D _ l rfl (zb4 _ _) ?_);omega
def zwD (N:Nat)(c:Cur)(p:Int):OA:=
 (oN (zeG c 5)<|cond (nB<|zhS c 5) (oN zk6<|iter (σ:=(Int×Int×Int×Int×lA×(List Int)×Unit)) N (λn a=>let l:=a.2.2.2.2.2.1;let f:=zG .i64 a.1 1;let d:=(⟨l,a.2.2.1,a.2.2.2.1⟩:Cur);let j:=({ (zC d f) with b:=l}:Cur);let q:=ap a.2.2.2.2.1 [zcB j]; (oN (zbl d f)<|cond (ilt a.2.1<|zbg d f) (oN (zj5 j)<|oN (few<|ln q)<|n (a.1,zG .i64 a.2.1 1,(zcU j).i,(zcU j).h,q,l,()))<|some [.agg [.s .u8 l,.i .i64 (zC d f).i,.i .i64 (zC d f).h],aS .act a.2.2.2.2.1])) (p,0,(zcT c 5).i,(zcT c 5).h,ztP,c.b,()))<|iter (σ:=(Int×Int×Int×Int×lA×(List Int)×Unit)) N (λn a=>let m:=a.2.2.2.2.2.1;let g:=zG .i64 a.1 1;let e:=(⟨m,a.2.2.1,a.2.2.2.1⟩:Cur);let k:=({ (zC e g) with b:=m}:Cur);let r:=ap a.2.2.2.2.1 [zcB k]; (oN (zbl e g)<|cond (ilt a.2.1<|zbg e g) (oN (zj5 k)<|oN (few<|ln r)<|n (a.1,zG .i64 a.2.1 1,(zcU k).i,(zcU k).h,r,m,()))<|some [.agg [.s .u8 m,.i .i64 (zC e g).i,.i .i64 (zC e g).h],aS .act a.2.2.2.2.1])) (p,0,(zcT c 5).i,(zcT c 5).h,[],c.b,()))
def zST:=zq [(82,0,{n:=26,tm:=[(0,.lp 0 0),(1,ti),(5,.sl 0 []),(6,ti)],lo:=[(0,[.sl 1 [],ti,ti])],ro:=[(0,.act,true),(1,.u8,false)]})]
def zqR (c:Cur)(a:Int)(s:Cur)(d:List GAct):Prop:=(∃N,zwD N c a=some (AV.agg (zf7 s)::[aS .act d]))/\(s.b=c.b/\0<=s.i)/\(ln d<=45+a)
def zmc (c:Cur)(a:Int):Bool:=wC (zqR c a)
def zmd (c:Cur)(a:Int):Cur:=wS (zqR c a)
def zpD (c:Cur)(a:Int):List GAct:=wV (zqR c a)
theorem zGm {c:Cur}{a:Int}(h:zmc c a=true):zqR c a (zmd c a) (zpD c a):=wG h
theorem zXv (c:Cur)(a:Int):0<=(zmd c a).i:=wP λh=>h.2.1.2
theorem zXu (c:Cur)(a:Int)(h:∃N,Ends (wE (λd=>aS .act d) c.b λd=>ln d<=45+a)<|zwD N c a):zmc c a=true:=wI (λ_ _ h=>h) h
def zxJ:zmw:=rP1 dI λc b=>(zmc c b,zmd c b,[aS .act<|zpD c b])
theorem zK5:zdA Tryz.prog 82 [false,true,true] zxJ:=hP1 z0y zbk zVk zo zST (λ_ _ h=>(zGm h).1)
theorem z0m {c:Cur}(h:zcZ c){m:Int}(e:0<=m)(f:m<=1000):zmc c m=true:=by
 refine zXu c m ⟨1002,?_⟩;unfold zwD oN nB;conv=>zeta
 have g:=zC7 zXW;exact zbh (zxF h 5) (zdb (λ_=>zbh zXW (zQH h e f (R:=λs l=>AV.agg (zf7 s)::[aS .act l]) (λs l a b d=>⟨s,l,rfl,⟨a,b⟩,d⟩) (λrec t i k l=>rfl) (zgb _ _) g.2)) λ_=>zQH h e f (R:=λs l=>AV.agg (zf7 s)::[aS .act l]) (λs l a b d=>⟨s,l,rfl,⟨a,b⟩,d⟩) (λrec t i k l=>rfl) (zgb _ _) (jX _))
def z5R:zdR:=[(82,[false,true,true],zxJ)]++z5Q
theorem z3I:zcI z5R:=zeI zVk (by
 intro x a;simp only[qH,qY,or_false]at a;rcases a with rfl
 .exact zK5)
theorem z1R {b c:Bare}(a:SameB b c)(n:Int):(zns b n).Guests=(zns c n).Guests/\(zns b n).Pending=(zns c n).Pending/\ziV b n=ziV c n:=by have e:ziV b n=ziV c n:=(by unfold ziV;rw[a.o]);unfold zns;rw[e];cases ziV c n;{exact⟨a.g,a.p,rfl⟩};{unfold zLV;rw[a.g];cases ieq (ln<|zfp c.Guests n) 0;{exact⟨by simp only[cT,cF],by simp only[cT,cF,a.p],rfl⟩};{exact⟨by simp only[cT,a.g],by simp only[cT,a.p],rfl⟩}}
theorem z1Q {b:Bare}{n:Int}(h:ziV b n=false):zns b n=b:=by unfold zns;rw[h];rfl
theorem z2u {b c:Bare}(a:SameB b c):(zoW b).Guests=(zoW c).Guests/\(zoW b).Pending=(zoW c).Pending/\zye b=zye c/\zpM b=zpM c:=by unfold zoW zye zpM;rw[a.o,a.p];cases zb7 c;{exact⟨a.g,a.p,rfl,rfl⟩};{exact⟨a.g,rfl,rfl,rfl⟩}
theorem z2t {b:Bare}(h:zpM b=false):zoW b=b:=by unfold zoW;unfold zpM at h;cases c:zb7 b;{rfl};{rw [c]at h;have a:ilt (zd1 b.Pending) 0=true:=(by simpa using h);unfold ziS;simp only[a,cT]}
theorem zQ1 {b:Bare}{n:Int}(h:SmB b):SmB (zns b n):=by unfold zns;cases ziV b n;{exact h};{unfold zLV;cases ieq (ln<|zfp b.Guests n) 0;{exact⟨h.1,(zDb _ zy1 h.2.1).1,h.2.2⟩};{exact h}}
theorem zVI {b:Bare}(h:SmB b):SmB (zoW b):=by unfold zoW;cases zb7 b;{exact h};{exact h}
theorem ztR {H a:Host}{x y:Bool}(c:H=a)(d:x=y):some [AV.agg<|zbb H,AV.one<|.b x]=some [AV.agg<|zbb a,AV.one<|.b y]:=by rw[c,d]
theorem z6s {H a:Host}{n k:Int}{x y:Bool}(c:H=a)(d:n=k)(e:x=y):some [AV.agg<|zbb H,AV.one<|.i .i64 n,AV.one<|.b x]=some [AV.agg<|zbb a,AV.one<|.i .i64 k,AV.one<|.b y]:=by rw[c,d,e]
theorem zPr {b:Bare}(g p:Int)(s:Slot)(a:SmB b):SmB (zcF b g p s):=zh1 a (zIy _ _<|zfn _ a)
theorem z3D {b:Bare}(g p:Int)(s:Slot)(a:zcQ b g p s=false):zcF b g p s=b:=zuh a
theorem z3P {b c:Bare}(a:SameB b c)(h:Host)(m:Int)(g p:Int)(s:Slot):zcy h m (zcF b g p s)=zcy h m (zcF c g p s)/\zcQ b g p s=zcQ c g p s:=by have e:=a.at g;simp only[zcF,zcQ,e];exact⟨zq3 a _ _ _ _ _,znd a _ _⟩
@[simp] abbrev zoi (h:Host)(m:Int)(g p:Int)(s:Slot):Bool:=pc (zdJ h)
def zoI:Run:=rF5 dH dI dI dI (dT .slot) λb c d e f=>(zoi b c d e f,[aH<|zf9 b c d e f,aB<|zhf b c d e f])
def zFw (N:Nat)(g:Host)(b d e:Int)(f:Slot):OA:=
 let a:=zi g;let c:=ix a.Mons b zh; (oN (zL g)<|oN (zgu a b)<|cond (nB<|zgt a b) (some [aH a,aB false])<|oN (inb b<|ln a.Mons)<|oN (zfK c)<|oN (zhk (zbI c) d e f)<|oN (zfJ a b<|zcF (zbI c) d e f)<|some [aH<|ziK a b<|zcF (zbI c) d e f,aB<|zcQ (zbI c) d e f])
theorem zSj (a:Host)(c d e:Int)(f:Slot)(n:zoi a c d e f=true):∃N,zFw N a c d e f=some [aH<|zf9 a c d e f,aB<|zhf a c d e f]:=by
 have i:=(zJ a).1 (zB.1 n);refine⟨0,?_⟩;have j:=zpo (h:=a) (m:=c) (cB:=zhk (zdd<|ix a.Mons c mZ) d e f) (B:=zcF (zdd<|ix a.Mons c mZ) d e f) (o0:=λH=>[.agg<|zbb H,.one<|.b false]) (o1:=λH=>[.agg<|zbb H,.one<|.b<|zcQ (zdd<|ix a.Mons c mZ) d e f]) i
  (λg=>zN (zfT<|i.2.1.2 _<|zbz (zbn.1 g).2 _)) (λg=>zPr _ _ _ (zfT<|i.2.1.2 _<|zbz (zbn.1 g).2 _))
 refine(show zFw 0 a c d e f=_ from j).trans ?_;unfold zf9 zhf zgm zf6;cases g:zcc a c;{rfl};{obtain⟨k,l⟩:=z3P (zll g<|zpH g) a c d e f;simp only[cT];exact ztR k l}
theorem zKG:vF 130 zoI:=kF5 zeR zl zbs zbC (zq []) zSj
def zE3 (N:Nat)(b:Host)(a d e:Int)(f:Slot):OA:=
 let c:=zi b;let h:=zdT b a;let j:=zcF h d e f;let i:=zcQ h d e f; (oN (zL b)<|oN (zb2 b)<|cond (nB<|zb0 b) (some [aH c,aB false])<|oN (zZ a<|ln b.Mons)<|cond (nB<|zbH a<|ln b.Mons) (some [aH c,aB false])<|oN (zcV b a)<|oN (zhk h d e f)<|cond i (oN (zcM j.Guests)<|oN (inb a<|ln c.Mons)<|share (up c.Mons a ({ (ix c.Mons a zh) with Guests:=(zdm j.Guests)}:Mon)) λg=>oN (inb a<|ln g)<|share (up g a ({ (ix g a zh) with Pending:=j.Pending}:Mon)) λk=>some [aH ({c with Mons:=k}:Host),aB i])<|some [aH c,aB i])
theorem zRR (a:Host)(c d e:Int)(f:Slot)(k:zoi a c d e f=true):∃N,zE3 N a c d e f=some [aH<|zf9 a c d e f,aB<|zhf a c d e f]:=by
 have i:=(zJ a).1 (zB.1 k);refine⟨0,?_⟩;have j:=zpb (h:=a) (m:=c) (cB:=zhk (zS a c) d e f) (B:=zcF (zS a c) d e f) (ok:=zcQ (zS a c) d e f) (o0:=λH=>[.agg<|zbb H,.one<|.b false]) (o1:=λH=>[.agg<|zbb H,.one<|.b<|zcQ (zS a c) d e f]) i
  (λg=>zN (zet i (zbn.1 g).2)) (λg=>zPr _ _ _ (zet i (zbn.1 g).2)) (λg l=>(congrArg (zcy a c)<|z3D _ _ _ l).trans (zla (zbn.1 g).2))
 refine(show zE3 0 a c d e f=_ from j).trans ?_;unfold zf9 zhf zgm zf6;cases zcc a c<;>rfl
theorem zKe:vF 26 zoI:=kF5 zeR zl zbs zbC (zq []) zRR
theorem zy7 {b:Bare}(g v:Int)(a:SmB b):SmB (zbL b g v):=zh1 a (zVK _<|zfn _ a)
theorem zXe {b:Bare}(g v:Int)(a:zbS b g v=false):zbL b g v=b:=zuh a
theorem zXB {b c:Bare}(a:SameB b c)(h:Host)(m:Int)(g v:Int):zcy h m (zbL b g v)=zcy h m (zbL c g v)/\zbS b g v=zbS c g v:=by have e:=a.at g;simp only[zbL,zbS,e];exact⟨zq3 a _ _ _ _ _,znd a _ _⟩
@[simp] abbrev zkW (h:Host)(m:Int)(g v:Int):Bool:=pc (zdJ h)
def zlz:Run:=rF4 dH dI dI dI λb c d e=>(zkW b c d e,[aH<|zeC b c d e,aB<|zfd b c d e])
def zxd (N:Nat)(f:Host)(b d e:Int):OA:=
 let a:=zi f;let c:=ix a.Mons b zh; (oN (zL f)<|oN (zgu a b)<|cond (nB<|zgt a b) (some [aH a,aB false])<|oN (inb b<|ln a.Mons)<|oN (zfK c)<|oN (zfg (zbI c) d e)<|oN (zfJ a b<|zbL (zbI c) d e)<|some [aH<|ziK a b<|zbL (zbI c) d e,aB<|zbS (zbI c) d e])
theorem zId (a:Host)(c d e:Int)(l:zkW a c d e=true):∃N,zxd N a c d e=some [aH<|zeC a c d e,aB<|zfd a c d e]:=by
 have g:=(zJ a).1 (zB.1 l);refine⟨0,?_⟩;have i:=zpo (h:=a) (m:=c) (cB:=zfg (zdd<|ix a.Mons c mZ) d e) (B:=zbL (zdd<|ix a.Mons c mZ) d e) (o0:=λH=>[.agg<|zbb H,.one<|.b false]) (o1:=λH=>[.agg<|zbb H,.one<|.b<|zbS (zdd<|ix a.Mons c mZ) d e]) g
  (λf=>zN (zfT<|g.2.1.2 _<|zbz (zbn.1 f).2 _)) (λf=>zy7 _ _ (zfT<|g.2.1.2 _<|zbz (zbn.1 f).2 _))
 refine(show zxd 0 a c d e=_ from i).trans ?_;unfold zeC zfd zgm zf6;cases f:zcc a c;{rfl};{obtain⟨j,k⟩:=zXB (zll f<|zpH f) a c d e;simp only[cT];exact ztR j k}
theorem zCq:vF 132 zlz:=kF4 zeR zl zbs zbC (zq []) zId
def zw2 (N:Nat)(b:Host)(a c d:Int):OA:=
 let f:=zi b;let e:=zdT b a; (oN (zL b)<|oN (zb2 b)<|cond (nB<|zb0 b) (some [aH f,aB false])<|oN (zZ a<|ln b.Mons)<|cond (nB<|zbH a<|ln b.Mons) (some [aH f,aB false])<|oN (zcV b a)<|oN (zfg e c d)<|cond (zbS e c d) (oN (zcM (zbL e c d).Guests)<|oN (inb a<|ln f.Mons)<|share (up f.Mons a ({ (ix f.Mons a zh) with Guests:=(zdm (zbL e c d).Guests)}:Mon)) λg=>oN (inb a<|ln g)<|share (up g a ({ (ix g a zh) with Pending:=(zbL e c d).Pending}:Mon)) λh=>some [aH ({f with Mons:=h}:Host),aB<|zbS e c d])<|some [aH f,aB<|zbS e c d])
theorem zH2 (a:Host)(c d e:Int)(j:zkW a c d e=true):∃N,zw2 N a c d e=some [aH<|zeC a c d e,aB<|zfd a c d e]:=by
 have g:=(zJ a).1 (zB.1 j);refine⟨0,?_⟩;have i:=zpb (h:=a) (m:=c) (cB:=zfg (zS a c) d e) (B:=zbL (zS a c) d e) (ok:=zbS (zS a c) d e) (o0:=λH=>[.agg<|zbb H,.one<|.b false]) (o1:=λH=>[.agg<|zbb H,.one<|.b<|zbS (zS a c) d e]) g
  (λf=>zN (zet g (zbn.1 f).2)) (λf=>zy7 _ _ (zet g (zbn.1 f).2)) (λf k=>(congrArg (zcy a c)<|zXe _ _ k).trans (zla (zbn.1 f).2))
 refine(show zw2 0 a c d e=_ from i).trans ?_;unfold zeC zfd zgm zf6;cases zcc a c<;>rfl
theorem zCh:vF 35 zlz:=kF4 zeR zl zbs zbC (zq []) zH2
theorem zy9 {b:Bare}(g:Int)(a:SmB b):SmB (zbN b g):=zh1 a (zVM<|zfn _ a)
theorem zXg {b:Bare}(g:Int)(a:zbU b g=false):zbN b g=b:=zuh a
theorem zXD {b c:Bare}(a:SameB b c)(h:Host)(m:Int)(g:Int):zcy h m (zbN b g)=zcy h m (zbN c g)/\zbU b g=zbU c g:=by have e:=a.at g;simp only[zbN,zbU,e];exact⟨zq3 a _ _ _ _ _,znd a _ _⟩
@[simp] abbrev zkY (h:Host)(m:Int)(g:Int):Bool:=pc (zdJ h)
def zlB:Run:=rF3 dH dI dI λb c d=>(zkY b c d,[aH<|zeE b c d,aB<|zff b c d])
def zxf (N:Nat)(e:Host)(b d:Int):OA:=
 let a:=zi e;let c:=ix a.Mons b zh; (oN (zL e)<|oN (zgu a b)<|cond (nB<|zgt a b) (some [aH a,aB false])<|oN (inb b<|ln a.Mons)<|oN (zfK c)<|oN (zbF (zbI c) d)<|oN (zfJ a b<|zbN (zbI c) d)<|some [aH<|ziK a b<|zbN (zbI c) d,aB<|zbU (zbI c) d])
theorem zIf (a:Host)(c d:Int)(k:zkY a c d=true):∃N,zxf N a c d=some [aH<|zeE a c d,aB<|zff a c d]:=by
 have f:=(zJ a).1 (zB.1 k);refine⟨0,?_⟩;have g:=zpo (h:=a) (m:=c) (cB:=zbF (zdd<|ix a.Mons c mZ) d) (B:=zbN (zdd<|ix a.Mons c mZ) d) (o0:=λH=>[.agg<|zbb H,.one<|.b false]) (o1:=λH=>[.agg<|zbb H,.one<|.b<|zbU (zdd<|ix a.Mons c mZ) d]) f
  (λe=>zN (zfT<|f.2.1.2 _<|zbz (zbn.1 e).2 _)) (λe=>zy9 _ (zfT<|f.2.1.2 _<|zbz (zbn.1 e).2 _))
 refine(show zxf 0 a c d=_ from g).trans ?_;unfold zeE zff zgm zf6;cases e:zcc a c;{rfl};{obtain⟨i,j⟩:=zXD (zll e<|zpH e) a c d;simp only[cT];exact ztR i j}
theorem zCs:vF 133 zlB:=kF3 zeR zl zbs zbC (zq []) zIf
def zw4 (N:Nat)(b:Host)(a c:Int):OA:=
 let e:=zi b;let d:=zdT b a; (oN (zL b)<|oN (zb2 b)<|cond (nB<|zb0 b) (some [aH e,aB false])<|oN (zZ a<|ln b.Mons)<|cond (nB<|zbH a<|ln b.Mons) (some [aH e,aB false])<|oN (zcV b a)<|oN (zbF d c)<|cond (zbU d c) (oN (zcM (zbN d c).Guests)<|oN (inb a<|ln e.Mons)<|share (up e.Mons a ({ (ix e.Mons a zh) with Guests:=(zdm (zbN d c).Guests)}:Mon)) λf=>oN (inb a<|ln f)<|share (up f a ({ (ix f a zh) with Pending:=(zbN d c).Pending}:Mon)) λg=>some [aH ({e with Mons:=g}:Host),aB<|zbU d c])<|some [aH e,aB<|zbU d c])
theorem zH4 (a:Host)(c d:Int)(i:zkY a c d=true):∃N,zw4 N a c d=some [aH<|zeE a c d,aB<|zff a c d]:=by
 have f:=(zJ a).1 (zB.1 i);refine⟨0,?_⟩;have g:=zpb (h:=a) (m:=c) (cB:=zbF (zS a c) d) (B:=zbN (zS a c) d) (ok:=zbU (zS a c) d) (o0:=λH=>[.agg<|zbb H,.one<|.b false]) (o1:=λH=>[.agg<|zbb H,.one<|.b<|zbU (zS a c) d]) f
  (λe=>zN (zet f (zbn.1 e).2)) (λe=>zy9 _ (zet f (zbn.1 e).2)) (λe j=>(congrArg (zcy a c)<|zXg _ j).trans (zla (zbn.1 e).2))
 refine(show zw4 0 a c d=_ from g).trans ?_;unfold zeE zff zgm zf6;cases zcc a c<;>rfl
theorem zCj:vF 113 zlB:=kF3 zeR zl zbs zbC (zq []) zH4
theorem zy8 {b:Bare}(g n:Int)(a:SmB b):SmB (zbM b g n):=zh1 a (zfn (b:=b) _ a)
theorem zXf {b:Bare}(g n:Int)(a:zbT b g n=false):zbM b g n=b:=zuh a
theorem zXC {b c:Bare}(a:SameB b c)(h:Host)(m:Int)(g n:Int):zcy h m (zbM b g n)=zcy h m (zbM c g n)/\zbT b g n=zbT c g n:=by have e:=a.at g;simp only[zbM,zbT,e];exact⟨zq3 a _ _ _ _ _,znd a _ _⟩
@[simp] abbrev zkX (h:Host)(m:Int)(g n:Int):Bool:=pc (zdJ h)
def zlA:Run:=rF4 dH dI dI dI λb c d e=>(zkX b c d e,[aH<|zeD b c d e,aB<|zfe b c d e])
def zxe (N:Nat)(f:Host)(b d e:Int):OA:=
 let a:=zi f;let c:=ix a.Mons b zh; (oN (zL f)<|oN (zgu a b)<|cond (nB<|zgt a b) (some [aH a,aB false])<|oN (inb b<|ln a.Mons)<|oN (zfK c)<|oN (zfh (zbI c) d e)<|oN (zfJ a b<|zbM (zbI c) d e)<|some [aH<|ziK a b<|zbM (zbI c) d e,aB<|zbT (zbI c) d e])
theorem zIe (a:Host)(c d e:Int)(l:zkX a c d e=true):∃N,zxe N a c d e=some [aH<|zeD a c d e,aB<|zfe a c d e]:=by
 have g:=(zJ a).1 (zB.1 l);refine⟨0,?_⟩;have i:=zpo (h:=a) (m:=c) (cB:=zfh (zdd<|ix a.Mons c mZ) d e) (B:=zbM (zdd<|ix a.Mons c mZ) d e) (o0:=λH=>[.agg<|zbb H,.one<|.b false]) (o1:=λH=>[.agg<|zbb H,.one<|.b<|zbT (zdd<|ix a.Mons c mZ) d e]) g
  (λf=>zN (zfT<|g.2.1.2 _<|zbz (zbn.1 f).2 _)) (λf=>zy8 _ _ (zfT<|g.2.1.2 _<|zbz (zbn.1 f).2 _))
 refine(show zxe 0 a c d e=_ from i).trans ?_;unfold zeD zfe zgm zf6;cases f:zcc a c;{rfl};{obtain⟨j,k⟩:=zXC (zll f<|zpH f) a c d e;simp only[cT];exact ztR j k}
theorem zCr:vF 134 zlA:=kF4 zeR zl zbs zbC (zq []) zIe
def zw3 (N:Nat)(b:Host)(a c d:Int):OA:=
 let f:=zi b;let e:=zdT b a; (oN (zL b)<|oN (zb2 b)<|cond (nB<|zb0 b) (some [aH f,aB false])<|oN (zZ a<|ln b.Mons)<|cond (nB<|zbH a<|ln b.Mons) (some [aH f,aB false])<|oN (zcV b a)<|oN (zfh e c d)<|cond (zbT e c d) (oN (zcM (zbM e c d).Guests)<|oN (inb a<|ln f.Mons)<|share (up f.Mons a ({ (ix f.Mons a zh) with Guests:=(zdm (zbM e c d).Guests)}:Mon)) λg=>oN (inb a<|ln g)<|share (up g a ({ (ix g a zh) with Pending:=(zbM e c d).Pending}:Mon)) λh=>some [aH ({f with Mons:=h}:Host),aB<|zbT e c d])<|some [aH f,aB<|zbT e c d])
theorem zH3 (a:Host)(c d e:Int)(j:zkX a c d e=true):∃N,zw3 N a c d e=some [aH<|zeD a c d e,aB<|zfe a c d e]:=by
 have g:=(zJ a).1 (zB.1 j);refine⟨0,?_⟩;have i:=zpb (h:=a) (m:=c) (cB:=zfh (zS a c) d e) (B:=zbM (zS a c) d e) (ok:=zbT (zS a c) d e) (o0:=λH=>[.agg<|zbb H,.one<|.b false]) (o1:=λH=>[.agg<|zbb H,.one<|.b<|zbT (zS a c) d e]) g
  (λf=>zN (zet g (zbn.1 f).2)) (λf=>zy8 _ _ (zet g (zbn.1 f).2)) (λf k=>(congrArg (zcy a c)<|zXf _ _ k).trans (zla (zbn.1 f).2))
 refine(show zw3 0 a c d e=_ from i).trans ?_;unfold zeD zfe zgm zf6;cases zcc a c<;>rfl
theorem zCi:vF 114 zlA:=kF4 zeR zl zbs zbC (zq []) zH3
theorem zPq {b:Bare}(g:Int)(x:Ctl)(a:SmB b):SmB (zcl b g x):=zh1 a (zfn (b:=b) _ a)
theorem z3C {b:Bare}(g:Int)(x:Ctl)(a:zct b g x=false):zcl b g x=b:=zuh a
theorem z3O {b c:Bare}(a:SameB b c)(h:Host)(m:Int)(g:Int)(x:Ctl):zcy h m (zcl b g x)=zcy h m (zcl c g x)/\zct b g x=zct c g x:=by have e:=a.at g;simp only[zcl,zct,e];exact⟨zq3 a _ _ _ _ _,znd a _ _⟩
@[simp] abbrev zof (h:Host)(m:Int)(g:Int)(x:Ctl):Bool:=pc (zdJ h)
def zoF:Run:=rF4 dH dI dI dC λb c d e=>(zof b c d e,[aH<|zhd b c d e,aB<|zhe b c d e])
def zFt (N:Nat)(f:Host)(b d:Int)(e:Ctl):OA:=
 let a:=zi f;let c:=ix a.Mons b zh; (oN (zL f)<|oN (zgu a b)<|cond (nB<|zgt a b) (some [aH a,aB false])<|oN (inb b<|ln a.Mons)<|oN (zfK c)<|oN (zhh (zbI c) d e)<|oN (zfJ a b<|zcl (zbI c) d e)<|some [aH<|ziK a b<|zcl (zbI c) d e,aB<|zct (zbI c) d e])
theorem zSg (a:Host)(c d:Int)(e:Ctl)(l:zof a c d e=true):∃N,zFt N a c d e=some [aH<|zhd a c d e,aB<|zhe a c d e]:=by
 have g:=(zJ a).1 (zB.1 l);refine⟨0,?_⟩;have i:=zpo (h:=a) (m:=c) (cB:=zhh (zdd<|ix a.Mons c mZ) d e) (B:=zcl (zdd<|ix a.Mons c mZ) d e) (o0:=λH=>[.agg<|zbb H,.one<|.b false]) (o1:=λH=>[.agg<|zbb H,.one<|.b<|zct (zdd<|ix a.Mons c mZ) d e]) g
  (λf=>zN (zfT<|g.2.1.2 _<|zbz (zbn.1 f).2 _)) (λf=>zPq _ _ (zfT<|g.2.1.2 _<|zbz (zbn.1 f).2 _))
 refine(show zFt 0 a c d e=_ from i).trans ?_;unfold zhd zhe zgm zf6;cases f:zcc a c;{rfl};{obtain⟨j,k⟩:=z3O (zll f<|zpH f) a c d e;simp only[cT];exact ztR j k}
theorem zKD:vF 135 zoF:=kF4 zeR zl zbs zbC (zq []) zSg
def zE0 (N:Nat)(b:Host)(a c:Int)(d:Ctl):OA:=
 let f:=zi b;let e:=zdT b a; (oN (zL b)<|oN (zb2 b)<|cond (nB<|zb0 b) (some [aH f,aB false])<|oN (zZ a<|ln b.Mons)<|cond (nB<|zbH a<|ln b.Mons) (some [aH f,aB false])<|oN (zcV b a)<|oN (zhh e c d)<|cond (zct e c d) (oN (zcM (zcl e c d).Guests)<|oN (inb a<|ln f.Mons)<|share (up f.Mons a ({ (ix f.Mons a zh) with Guests:=(zdm (zcl e c d).Guests)}:Mon)) λg=>oN (inb a<|ln g)<|share (up g a ({ (ix g a zh) with Pending:=(zcl e c d).Pending}:Mon)) λh=>some [aH ({f with Mons:=h}:Host),aB<|zct e c d])<|some [aH f,aB<|zct e c d])
theorem zRO (a:Host)(c d:Int)(e:Ctl)(j:zof a c d e=true):∃N,zE0 N a c d e=some [aH<|zhd a c d e,aB<|zhe a c d e]:=by
 have g:=(zJ a).1 (zB.1 j);refine⟨0,?_⟩;have i:=zpb (h:=a) (m:=c) (cB:=zhh (zS a c) d e) (B:=zcl (zS a c) d e) (ok:=zct (zS a c) d e) (o0:=λH=>[.agg<|zbb H,.one<|.b false]) (o1:=λH=>[.agg<|zbb H,.one<|.b<|zct (zS a c) d e]) g
  (λf=>zN (zet g (zbn.1 f).2)) (λf=>zPq _ _ (zet g (zbn.1 f).2)) (λf k=>(congrArg (zcy a c)<|z3C _ _ k).trans (zla (zbn.1 f).2))
 refine(show zE0 0 a c d e=_ from i).trans ?_;unfold zhd zhe zgm zf6;cases zcc a c<;>rfl
theorem zKb:vF 115 zoF:=kF4 zeR zl zbs zbC (zq []) zRO
theorem zIw {b:Bare}(n:Int)(a:SmB b):SmB (zcw b n):=zQ1 a
theorem z1G {b:Bare}(n:Int)(a:zcK b n=false):zcw b n=b:=z1Q a
theorem z2c {b c:Bare}(f:SameB b c)(h:Host)(m n:Int):zcy h m (zcw b n)=zcy h m (zcw c n)/\zcK b n=zcK c n:=by obtain⟨a,d,e⟩:=z1R f n;exact⟨back_eq a d,e⟩
@[simp] abbrev zmX (h:Host)(m:Int)(n:Int):Bool:=pc (zdJ h)
def znD:Run:=rF3 dH dI dI λb c d=>(zmX b c d,[aH<|zfE b c d,aB<|zgl b c d])
def zBv (N:Nat)(e:Host)(b d:Int):OA:=
 let a:=zi e;let c:=ix a.Mons b zh; (oN (zL e)<|oN (zgu a b)<|cond (nB<|zgt a b) (some [aH a,aB false])<|oN (inb b<|ln a.Mons)<|oN (zfK c)<|oN (zcR (zbI c) d)<|oN (zfJ a b<|zcw (zbI c) d)<|some [aH<|ziK a b<|zcw (zbI c) d,aB<|zcK (zbI c) d])
theorem zO0 (a:Host)(c d:Int)(k:zmX a c d=true):∃N,zBv N a c d=some [aH<|zfE a c d,aB<|zgl a c d]:=by
 have f:=(zJ a).1 (zB.1 k);refine⟨0,?_⟩;have g:=zpo (h:=a) (m:=c) (cB:=zcR (zdd<|ix a.Mons c mZ) d) (B:=zcw (zdd<|ix a.Mons c mZ) d) (o0:=λH=>[.agg<|zbb H,.one<|.b false]) (o1:=λH=>[.agg<|zbb H,.one<|.b<|zcK (zdd<|ix a.Mons c mZ) d]) f
  (λe=>zN (zfT<|f.2.1.2 _<|zbz (zbn.1 e).2 _)) (λe=>zIw _ (zfT<|f.2.1.2 _<|zbz (zbn.1 e).2 _))
 refine(show zBv 0 a c d=_ from g).trans ?_;unfold zfE zgl zgm zf6;cases e:zcc a c;{rfl};{obtain⟨i,j⟩:=z2c (zll e<|zpH e) a c d;simp only[cT];exact ztR i j}
theorem zHF:vF 137 znD:=kF3 zeR zl zbs zbC (zq []) zO0
def zAV (N:Nat)(b:Host)(a c:Int):OA:=
 let e:=zi b;let d:=zdT b a; (oN (zL b)<|oN (zb2 b)<|cond (nB<|zb0 b) (some [aH e,aB false])<|oN (zZ a<|ln b.Mons)<|cond (nB<|zbH a<|ln b.Mons) (some [aH e,aB false])<|oN (zcV b a)<|oN (zcR d c)<|cond (zcK d c) (oN (zcM (zcw d c).Guests)<|oN (inb a<|ln e.Mons)<|share (up e.Mons a ({ (ix e.Mons a zh) with Guests:=(zdm (zcw d c).Guests)}:Mon)) λf=>oN (inb a<|ln f)<|share (up f a ({ (ix f a zh) with Pending:=(zcw d c).Pending}:Mon)) λg=>some [aH ({e with Mons:=g}:Host),aB<|zcK d c])<|some [aH e,aB<|zcK d c])
theorem zOu (a:Host)(c d:Int)(i:zmX a c d=true):∃N,zAV N a c d=some [aH<|zfE a c d,aB<|zgl a c d]:=by
 have f:=(zJ a).1 (zB.1 i);refine⟨0,?_⟩;have g:=zpb (h:=a) (m:=c) (cB:=zcR (zS a c) d) (B:=zcw (zS a c) d) (ok:=zcK (zS a c) d) (o0:=λH=>[.agg<|zbb H,.one<|.b false]) (o1:=λH=>[.agg<|zbb H,.one<|.b<|zcK (zS a c) d]) f
  (λe=>zN (zet f (zbn.1 e).2)) (λe=>zIw _ (zet f (zbn.1 e).2)) (λe j=>(congrArg (zcy a c)<|z1G _ j).trans (zla (zbn.1 e).2))
 refine(show zAV 0 a c d=_ from g).trans ?_;unfold zfE zgl zgm zf6;cases zcc a c<;>rfl
theorem zHa:vF 118 znD:=kF3 zeR zl zbs zbC (zq []) zOu
theorem zPp {b:Bare}(a:SmB b):SmB (zcs b):=zVI a
theorem z3B {b:Bare}(a:zcD b=false):zcs b=b:=z2t a
theorem z3N {b c:Bare}(g:SameB b c)(h:Host)(m:Int):zcy h m (zcs b)=zcy h m (zcs c)/\zdh b=zdh c/\zcD b=zcD c:=by obtain⟨a,d,e,f⟩:=z2u g;exact⟨back_eq a d,e,f⟩
def zoD:Run:=rF2 dH dI λb c=>(zcV b c,[aH<|zf8 b c,aI<|zhb b c,aB<|zhc b c])
def zFr (N:Nat)(d:Host)(b:Int):OA:=
 let a:=zi d;let c:=ix a.Mons b zh; (oN (zL d)<|oN (zgu a b)<|cond (nB<|zgt a b) (some [aH a,aI<|-1,aB false])<|oN (inb b<|ln a.Mons)<|oN (zfK c)<|oN (zQ<|zbI c)<|oN (zfJ a b<|zcs<|zbI c)<|some [aH<|ziK a b<|zcs<|zbI c,aI<|zdh<|zbI c,aB<|zcD<|zbI c])
theorem zSe (a:Host)(c:Int)(l:zcV a c=true):∃N,zFr N a c=some [aH<|zf8 a c,aI<|zhb a c,aB<|zhc a c]:=by
 have e:=(zJ a).1 (zB.1 l);refine⟨0,?_⟩;have f:=zpo (h:=a) (m:=c) (cB:=zQ (zdd<|ix a.Mons c mZ)) (B:=zcs (zdd<|ix a.Mons c mZ)) (o0:=λH=>[.agg<|zbb H,.one<|.i .i64<|-1,.one<|.b false]) (o1:=λH=>[.agg<|zbb H,.one<|.i .i64<|zdh<|zdd<|ix a.Mons c mZ,.one<|.b<|zcD<|zdd<|ix a.Mons c mZ]) e
  (λd=>zN (zfT<|e.2.1.2 _<|zbz (zbn.1 d).2 _)) (λd=>zPp (zfT<|e.2.1.2 _<|zbz (zbn.1 d).2 _))
 refine(show zFr 0 a c=_ from f).trans ?_;unfold zf8 zhb zhc zgm zf6;cases d:zcc a c;{rfl};{obtain⟨g,j,k⟩:=z3N (zll d<|zpH d) a c;simp only[cT];exact z6s g j k}
theorem zKB:vF 138 zoD:=kF2 zeR zl zbs zbC (zq []) zSe
def zEY (N:Nat)(c:Host)(a:Int):OA:=
 let d:=zi c;let b:=zdT c a; (oN (zL c)<|oN (zb2 c)<|cond (nB<|zb0 c) (some [aH d,aI<|-1,aB false])<|oN (zZ a<|ln c.Mons)<|cond (nB<|zbH a<|ln c.Mons) (some [aH d,aI<|-1,aB false])<|oN (zcV c a)<|oN (zQ b)<|cond (zcD b) (oN (zcM (zcs b).Guests)<|oN (inb a<|ln d.Mons)<|share (up d.Mons a ({ (ix d.Mons a zh) with Guests:=(zdm (zcs b).Guests)}:Mon)) λe=>oN (inb a<|ln e)<|share (up e a ({ (ix e a zh) with Pending:=(zcs b).Pending}:Mon)) λf=>some [aH ({d with Mons:=f}:Host),aI<|zdh b,aB<|zcD b])<|some [aH d,aI<|zdh b,aB<|zcD b])
theorem zRM (a:Host)(c:Int)(g:zcV a c=true):∃N,zEY N a c=some [aH<|zf8 a c,aI<|zhb a c,aB<|zhc a c]:=by
 have e:=(zJ a).1 (zB.1 g);refine⟨0,?_⟩;have f:=zpb (h:=a) (m:=c) (cB:=zQ (zS a c)) (B:=zcs (zS a c)) (ok:=zcD (zS a c)) (o0:=λH=>[.agg<|zbb H,.one<|.i .i64<|-1,.one<|.b false]) (o1:=λH=>[.agg<|zbb H,.one<|.i .i64<|zdh<|zS a c,.one<|.b<|zcD<|zS a c]) e
  (λd=>zN (zet e (zbn.1 d).2)) (λd=>zPp (zet e (zbn.1 d).2)) (λd j=>(congrArg (zcy a c)<|z3B j).trans (zla (zbn.1 d).2))
 refine(show zEY 0 a c=_ from f).trans ?_;unfold zf8 zhb zhc zgm zf6;cases zcc a c<;>rfl
theorem zJ9:vF 119 zoD:=kF2 zeR zl zbs zbC (zq []) zRM
def z0E:zY:=[(130,zoI),(26,zoI),(132,zlz),(35,zlz),(133,zlB),(113,zlB),(134,zlA),(114,zlA),(135,zoF),(115,zoF),(137,znD),(118,znD),(138,zoD),(119,zoD)]++z0D
theorem zmD:zK z0E:=zf zKG (zf zKe<|zf zCq<|zf zCh<|zf zCs<|zf zCj<|zf zCr<|zf zCi<|zf zKD<|zf zKb<|zf zHF<|zf zHa<|zf zKB<|zf zJ9 zeR)
def zpg (h:Host)(m t:Int):Host:=bif zbP h then (cond (hasB m<|ln h.Mons) (cond (zk t 0 3) {h with Mons:=up h.Mons m {ix h.Mons m mZ with Traps:=t}} h) h) else h
def zqT (h:Host)(m t:Int):Bool:=bif zbP h then (cond (hasB m<|ln h.Mons) (zk t 0 3) false) else false
@[simp] abbrev zm0 (h:Host)(m t:Int):Bool:=pc (zdJ h)
@[simp] abbrev zhP (h:Host)(m t:Int):Host:=zpg h m t
@[simp] abbrev zjs (h:Host)(m t:Int):Bool:=zqT h m t
def znI:Run:=rF3 dH dI dI λb c d=>(zm0 b c d,[aH<|zhP b c d,aB<|zjs b c d])
def zBz (N:Nat)(d:Host)(b c:Int):OA:=
 let a:=zi d; (oN (zL d)<|oN (zb2 a)<|cond (nB<|zb0 a) (some [aH a,aB false])<|oN (zD b 0<|wsub .i64 (ln a.Mons) 1)<|cond (nB<|zk b 0<|wsub .i64 (ln a.Mons) 1) (some [aH a,aB false])<|oN (zD c 0 3)<|cond (nB<|zk c 0 3) (some [aH a,aB false])<|oN (inb b<|ln a.Mons)<|share (up a.Mons b ({ (ix a.Mons b zh) with Traps:=c}:Mon)) λe=>some [aH ({a with Mons:=e}:Host),aB true])
theorem zO4 (a:Host)(b c:Int)(d:zm0 a b c=true):∃N,zBz N a b c=some [aH<|zhP a b c,aB<|zjs a b c]:=by
 have g:=(zJ a).1 (zB.1 d);refine⟨0,?_⟩;unfold zBz zhP zjs zpg zqT oN nB;conv=>zeta
 refine must d (must rfl ?_);rw[show zb0 (zi a)=zbP a from rfl];cases e:zbP a;{rfl};{refine zbA rfl (must rfl ?_);rw[show zk b 0 (wsub .i64 (ln (zi a).Mons) 1)=hasB b (ln a.Mons) from zPT e b];cases f:hasB b (ln a.Mons);{rfl};{refine zbA rfl (must rfl ?_);rw[show zk c 0 3=zk c 0 3 from rfl];cases h:zk c 0 3;{rfl};{exact zbA rfl (must (zy f) rfl)}}}
theorem zHL:vF 252 znI:=kF3 zmD zl zbs zbC (zq []) zO4
def zA2 (N:Nat)(b:Host)(c d:Int):OA:=
 let a:=zi b; (oN (zL b)<|oN (zb2 b)<|cond (nB<|zb0 b) (some [aH a,aB false])<|oN (zZ c<|ln b.Mons)<|cond (nB<|zbH c<|ln b.Mons) (some [aH a,aB false])<|oN (zD d 0 3)<|cond (nB<|zk d 0 3) (some [aH a,aB false])<|oN (inb c<|ln a.Mons)<|share (up a.Mons c ({ (ix a.Mons c zh) with Traps:=d}:Mon)) λe=>some [aH ({a with Mons:=e}:Host),aB true])
theorem zOB (a:Host)(b c:Int)(d:zm0 a b c=true):∃N,zA2 N a b c=some [aH<|zhP a b c,aB<|zjs a b c]:=by
 have g:=(zJ a).1 (zB.1 d);refine⟨0,?_⟩;unfold zA2 zhP zjs zpg zqT oN nB;conv=>zeta
 refine must d (must rfl ?_);rw[show zb0 a=zbP a from rfl];cases f:zbP a;{rfl};{refine zbA rfl (must rfl ?_);rw[show zbH b (ln a.Mons)=hasB b (ln a.Mons) from rfl];cases e:hasB b (ln a.Mons);{rfl};{refine zbA rfl (must rfl ?_);rw[show zk c 0 3=zk c 0 3 from rfl];cases h:zk c 0 3;{rfl};{exact zbA rfl (must (zy e) rfl)}}}
theorem zHi:vF 125 znI:=kF3 zmD zl zbs zbC (zq []) zOB
theorem ziC {h:Host}{m p:Int}:(zb6 h m p=true)↔zbP h=true/\hasB m (ln h.Mons)=true/\hasB p 8=true:=by unfold zb6;cases zbP h<;>cases hasB m (ln h.Mons)<;>simp
def zkw (h:Host)(m p:Int):Bool:=ieq (ix (ix h.Mons m mZ).Outer p sZ).Page (-1)
def zri (h:Host)(m p:Int):Host:=bif zb6 h m p then (cond (zkw h m p) h<|zg5 h m p) else h
def zsz (h:Host)(m p:Int):Bool:=bif zb6 h m p then !zkw h m p else false
def zuQ (h:Host)(m p:Int):Host:=bif zb6 h m p then (cond (zkw h m p) (fetched h m p) h) else h
def zuR (h:Host)(m p:Int):Bool:=bif zb6 h m p then zkw h m p else false
@[simp] abbrev ziG (h:Host)(m p:Int):Host:=zri h m p
@[simp] abbrev zkl (h:Host)(m p:Int):Bool:=zsz h m p
@[simp] abbrev zj2 (h:Host)(m p:Int):Host:=zuQ h m p
@[simp] abbrev zlD (h:Host)(m p:Int):Bool:=zuR h m p
theorem zLN {h:Host}(f:SmH h)(c:zbP h=true){m p:Int}(d:hasB m (ln h.Mons)=true)(e:hasB p 8=true) :
 (cond (ieq (ix (ix h.Mons m mZ).Outer p sZ).Page<|-1) (ieq (ix (ix h.Mons m mZ).Outer p sZ).Rights 0) false)=zkw h m p:=by
 have a:=(ztC (ziw c _<|zbz d mZ) e).no;unfold zdP at a;unfold zkw;rw[<- a];cases b:ieq (ix (ix h.Mons m mZ).Outer p sZ).Page (-1)<;>simp [noSlot,b]
theorem zv4 {h:Host}(d:SmH h)(a:zbP h=true){m p:Int}(b:hasB m (ln h.Mons)=true)(c:hasB p 8=true):inb p (ln (ix h.Mons m mZ).Outer)=true :=
 zy (by rw[ln,((ze9 d a).1.2 _ (zbz b mZ)).1];exact c)
def zoM:Run:=rF3 dH dI dI λb c d=>(zeH b c d,[aH<|ziG b c d,aB<|zkl b c d])
def zFA (N:Nat)(e:Host)(c b:Int):OA:=
 let a:=zi e;let d:=(ix a.Mons c zh).Outer; (oN (zL e)<|oN (ziH a c b)<|cond (nB<|zdY a c b) (some [aH a,aB false])<|oN (inb c<|ln a.Mons)<|oN (inb b<|ln d)<|oN zbE<|cond (cond (ieq (ix d b zT).Page zbj.Page) (ieq (ix d b zT).Rights zbj.Rights) false) (some [aH a,aB false])<|oN (zj4 a c b)<|some [aH<|zm1 a c b,aB true])
theorem zSl (a:Host)(b c:Int)(h:zeH a b c=true):∃N,zFA N a b c=some [aH<|ziG a b c,aB<|zkl a b c]:=by
 have g:=(zJ a).1 (zB.1 h);refine⟨0,?_⟩;unfold zFA ziG zkl zri zsz oN nB;conv=>zeta
 refine must h (must rfl ?_);rw[show zdY (zi a) b c=zb6 a b c from rfl];cases i:zb6 a b c;{rfl};{obtain⟨e,d,f⟩:=ziC.1 i;refine zbA rfl (must (zy d)<|must (zv4 g e d f) (must rfl ?_));rw[show (cond (ieq (ix (ix (zi a).Mons b zh).Outer c zT).Page zbj.Page) (ieq (ix (ix (zi a).Mons b zh).Outer c zT).Rights zbj.Rights) false)=zkw a b c from zLN g e d f];cases j:zkw a b c;{exact zbA rfl (must (zN ⟨(ze9 g e).1,d,f⟩) rfl)};{rfl}}
theorem zKK:vF 249 zoM:=kF3 zmD zl zbs zbC (zq []) zSl
def zE4 (N:Nat)(a:Host)(b c:Int):OA:=
 let d:=(ix a.Mons b zh).Outer; (oN (zL a)<|oN (ziH a b c)<|cond (nB<|zdY a b c) (some [aH<|zi a,aB false])<|oN (inb b<|ln a.Mons)<|oN (inb c<|ln d)<|cond (ieq (ix d c zT).Page<|-1) (some [aH<|zi a,aB false])<|oN (zj4 (zi a) b c)<|some [aH<|zm1 (zi a) b c,aB true])
theorem zRT (a:Host)(b c:Int)(e:zeH a b c=true):∃N,zE4 N a b c=some [aH<|ziG a b c,aB<|zkl a b c]:=by
 have h:=(zJ a).1 (zB.1 e);refine⟨0,?_⟩;unfold zE4 ziG zkl zri zsz oN nB;conv=>zeta
 refine must e (must rfl ?_);rw[show zdY a b c=zb6 a b c from rfl];cases i:zb6 a b c;{rfl};{obtain⟨f,d,g⟩:=ziC.1 i;refine zbA rfl (must (zy d)<|must (zv4 h f d g) ?_);rw[show ieq (ix (ix a.Mons b zh).Outer c zT).Page (-1)=zkw a b c from rfl];cases j:zkw a b c;{exact zbA rfl (must (zN ⟨(ze9 h f).1,d,g⟩) rfl)};{rfl}}
theorem zKi:vF 122 zoM:=kF3 zmD zl zbs zbC (zq []) zRT
def zqo:Run:=rF3 dH dI dI λb c d=>(zeH b c d,[aH<|zj2 b c d,aB<|zlD b c d])
def zJg (N:Nat)(e:Host)(c b:Int):OA:=
 let a:=zi e;let d:=(ix a.Mons c zh).Outer; (oN (zL e)<|oN (ziH a c b)<|cond (nB<|zdY a c b) (some [aH a,aB false])<|oN (inb c<|ln a.Mons)<|oN (inb b<|ln d)<|oN zbE<|cond (nB<|cond (ieq (ix d b zT).Page zbj.Page) (ieq (ix d b zT).Rights zbj.Rights) false) (some [aH a,aB false])<|oN (zlk a c b)<|some [aH<|zl9 a c b,aB true])
theorem zUN (a:Host)(b c:Int)(h:zeH a b c=true):∃N,zJg N a b c=some [aH<|zj2 a b c,aB<|zlD a b c]:=by
 have g:=(zJ a).1 (zB.1 h);refine⟨0,?_⟩;unfold zJg zj2 zlD zuQ zuR oN nB;conv=>zeta
 refine must h (must rfl ?_);rw[show zdY (zi a) b c=zb6 a b c from rfl];cases i:zb6 a b c;{rfl};{obtain⟨e,d,f⟩:=ziC.1 i;refine zbA rfl (must (zy d)<|must (zv4 g e d f) (must rfl ?_));rw[show (cond (ieq (ix (ix (zi a).Mons b zh).Outer c zT).Page zbj.Page) (ieq (ix (ix (zi a).Mons b zh).Outer c zT).Rights zbj.Rights) false)=zkw a b c from zLN g e d f];cases j:zkw a b c;{rfl};{exact zbA rfl (must (zN ⟨ze9 g e,d,f⟩) rfl)}}
theorem zNT:vF 250 zqo:=kF3 zmD zl zbs zbC (zq []) zUN
def zIS (N:Nat)(a:Host)(b c:Int):OA:=
 let d:=(ix a.Mons b zh).Outer; (oN (zL a)<|oN (ziH a b c)<|cond (nB<|zdY a b c) (some [aH<|zi a,aB false])<|oN (inb b<|ln a.Mons)<|oN (inb c<|ln d)<|cond (ine (ix d c zT).Page<|-1) (some [aH<|zi a,aB false])<|oN (zlk (zi a) b c)<|some [aH<|zl9 (zi a) b c,aB true])
theorem zUs (a:Host)(b c:Int)(e:zeH a b c=true):∃N,zIS N a b c=some [aH<|zj2 a b c,aB<|zlD a b c]:=by
 have h:=(zJ a).1 (zB.1 e);refine⟨0,?_⟩;unfold zIS zj2 zlD zuQ zuR oN nB;conv=>zeta
 refine must e (must rfl ?_);rw[show zdY a b c=zb6 a b c from rfl];cases i:zb6 a b c;{rfl};{obtain⟨f,d,g⟩:=ziC.1 i;refine zbA rfl (must (zy d)<|must (zv4 h f d g) ?_);rw[show ine (ix (ix a.Mons b zh).Outer c zT).Page (-1) = !zkw a b c from zjE _ _];cases j:zkw a b c;{rfl};{exact zbA rfl (must (zN ⟨ze9 h f,d,g⟩) rfl)}}
theorem zNq:vF 123 zqo:=kF3 zmD zl zbs zbC (zq []) zUs
def z0F:zY:=[(252,znI),(125,znI),(249,zoM),(122,zoM),(250,zqo),(123,zqo)]++z0E
theorem zBU:zK z0F:=zf zHL (zf zHi<|zf zKK<|zf zKi<|zf zNT<|zf zNq zmD)
theorem zZ9 {x:Mon}{b:Bare}(h:zft x)(a:zoV b.Guests):zft (zyh x b):=⟨h.1,h.2.1,h.2.2.1,a,h.2.2.2.2⟩
theorem zza {h:Host}{m:Int}{b:Bare}(a:SmH h)(d:hasB m (ln h.Mons)=true)(c:zoV b.Guests):SmH (zcy h m b):=
 ⟨a.1,zj7 a.2.1<|zZ9 (a.2.1.2 _<|zbz d _) c,a.2.2⟩
theorem zGI {h:Host}{m:Int}(b:Bare)(a:hasB m (ln h.Mons)=true):hasB m (ln (zcy h m b).Mons)=true:=by show hasB m (ln<|up h.Mons m _)=true;rw[ln,zf4];exact a
theorem z6k {h:Host}{m:Int}(b:Bare)(c:hasB m (ln h.Mons)=true):ix (zcy h m b).Mons m mZ=zyh (ix h.Mons m mZ) b:=by obtain⟨k,rfl,a⟩:=zd8 (n:=h.Mons.length) c;exact zdE a _ _
def z1b (h:Host)(m g p:Int):Host:=⟨h.Memory,up h.Mons m {ix h.Mons m mZ with Tables:=up (ix h.Mons m mZ).Tables g (zd6 (ix (ix h.Mons m mZ).Tables g kZ) p)},zdZ h.Buffer (ziu m g) p,zdZ h.IoBuffer (ziu m g) p⟩
def z1a (H:Host)(m g p:Int)(o:Host->Ans):OA:=
 bif inb m (ln H.Mons) then (bif inb m (ln H.Mons) then (bif inb g (ln (ix H.Mons m mZ).Tables) then (bif zcx (ix (ix H.Mons m mZ).Tables g kZ) p then (bif inb g (ln (ix H.Mons m mZ).Tables) then (share (up H.Mons m {ix H.Mons m mZ with Tables:=up (ix H.Mons m mZ).Tables g (zd6 (ix (ix H.Mons m mZ).Tables g kZ) p)}) λx=>
  (cond (zhQ m g) (cond (zdI H.Buffer (ziu m g) p) (cond (zhQ m g) (cond (zdI H.IoBuffer (ziu m g) p) (some<|o ⟨H.Memory,x,zdZ H.Buffer (ziu m g) p,zdZ H.IoBuffer (ziu m g) p⟩) none) none) none) none)) else none) else none) else none) else none) else none
theorem zQx {H:Host}{m g p:Int}{o:Host->Ans}(b:SmH H)(a:hasB m (ln H.Mons)=true)(hg:hasB g (ln (ix H.Mons m mZ).Tables)=true):z1a H m g p o=some (o<|z1b H m g p):=by have c:=b.2.1.2 _ (zbz a mZ);unfold z1a;exact must (zy a) (must (zy a)<|must (zy hg)<|must (zN<|c.2.2.2.2.2.2 _<|zbz hg _)<|must (zy hg)<|shr (must rfl (must (zN b.2.2.1) (must rfl (must (zN b.2.2.2) rfl)))))
def zmH (h:Host)(m g p:Int):Host:=bif zcc h m then (cond (zce (zS h m) g<|hasB p 4) (z1b (zcy h m<|chg (zS h m) g (hasB p 4)<|zjT (gAt (zS h m) g) p) m g p) h) else h
@[simp] abbrev zlS (h:Host)(m g p:Int):Bool:=pc (zdJ h)
@[simp] abbrev zgI (h:Host)(m g p:Int):Host:=zmH h m g p
theorem zXE {h:Host}{m:Int}(a:hasB m (ln h.Mons)=true):(zS h m).Guests=(ix h.Mons m mZ).Guests:=by unfold zS;rw[a];rfl
theorem zCa {h:Host}{m g:Int}{k:Bool}(i:SmH h)(e:zcc h m=true)(b:Bare)(a:zce (zS h m) g k=true):hasB g (ln (ix (zcy h m b).Mons m mZ).Tables)=true:=by obtain⟨f,c⟩:=zbn.1 e;rw[z6k b c];show hasB g (ln (ix h.Mons m mZ).Tables)=true;rw[ln,((ze9 i f).1.2 _ (zbz c mZ)).2.2.2,<- zXE c];unfold zce at a;cases d:zbK (zS h m) g;{rw [d]at a;cases a};{exact(zdv.1 d).2}
def zmr:Run:=rF4 dH dI dI dI λb c d e=>(zlS b c d e,[aH<|zgI b c d e,aB<|zfO b c d e])
def zzJ (N:Nat)(i:Host)(a b c:Int):OA:=
 let h:=zk1 a b;let e:=zi i;let g:=ix e.Mons a zh;let d:=ziK e a<|zcp (zbI g) b c;let f:=ix d.Mons a zh;let j:=ix f.Tables b zdC; (oN (zL i)<|oN (zgu e a)<|cond (nB<|zgt e a) (some [aH e,aB false])<|oN (inb a<|ln e.Mons)<|oN (zfK g)<|oN (zh9 (zbI g) b c)<|cond (nB<|zdH (zbI g) b c) (some [aH e,aB false])<|oN (zfJ e a<|zcp (zbI g) b c)<|oN (inb a<|ln d.Mons)<|oN (inb a<|ln d.Mons)<|oN (inb b<|ln f.Tables)<|oN (zcx j c)<|oN (inb b<|ln f.Tables)<|share (up d.Mons a ({f with Tables:=(up f.Tables b<|zed j c)}:Mon)) λk=>oN (zhQ a b)<|oN (zdI d.Buffer h c)<|oN (zhQ a b)<|oN (zdI d.IoBuffer h c)<|some [aH (⟨d.Memory,k,ze6 d.Buffer h c,ze6 d.IoBuffer h c⟩:Host),aB true])
theorem zLC (a:Host)(c d e:Int)(j:zbt big [aH a,aI c,aI d,aI e])(q:zlS a c d e=true):∃N,zzJ N a c d e=some [aH<|zgI a c d e,aB<|zfO a c d e]:=by
 have k:=(zJ a).1 (zB.1 q);refine⟨0,?_⟩;unfold zzJ zgI zfO zmH zf6 oN nB;conv=>zeta
 refine must q (must rfl ?_);rw[show zgt (zi a) c=zcc a c from rfl];cases h:zcc a c;{rfl};{obtain⟨v,f⟩:=zbn.1 h;have r:=k.2.1.2 _ (zbz f mZ);have l:=zfT r;have i:=zll h (zpH h);have u:zce (zdd<|ix a.Mons c mZ) d (hasB e 4)=zce (zS a c) d (hasB e 4):=znd i _ _;have s:zcy a c (zcp (zdd<|ix a.Mons c mZ) d e)=zcy a c (chg (zS a c) d (hasB e 4)<|zjT (gAt (zS a c) d) e):=(by rw[<- i.at];exact zq3 i _ _ _ _ _);refine zbA rfl (must (zy f)<|must (zN r)<|must (zN l) ?_);rw[show zdH (zbI<|ix (zi a).Mons c zh) d e=zce (zS a c) d (hasB e 4) from u];cases t:zce (zS a c) d (hasB e 4);{rfl};{have j:SmB (zcp (zdd<|ix a.Mons c mZ) d e):=zh1 l (zqU _<|zfn _ l);refine zbA rfl (must (zN ⟨f,j.2.1⟩) ?_);have n:=zQx (H:=zcy a c (zcp (zdd<|ix a.Mons c mZ) d e)) (m:=c) (g:=d) (p:=e) (o:=λH=>[.agg<|zbb H,.one<|.b true]) (zza k f j.2.1) (zGI _ f) (zCa k h _ t);refine(show _=_ from n).trans ?_;rw[s];rfl}}
theorem zEd:vF 131 zmr:=hF4 zBU zl zbs zbC (zq []) zLC
def zzo (N:Nat)(e:Host)(a d c:Int):OA:=
 let l:=zhQ a d;let m:=zcp (zdT e a) d c;let f:=zk1 a d;let b:=zi e;let n:=inb a<|ln b.Mons;let g:=zdH (zdT e a) d c;let h:=ix b.Mons a zh;let q:=ix h.Tables d zdC; (oN (zL e)<|oN (zb2 e)<|cond (nB<|zb0 e) (some [aH b,aB false])<|oN (zZ a<|ln e.Mons)<|cond (nB<|zbH a<|ln e.Mons) (some [aH b,aB false])<|oN (zcV e a)<|oN (zh9 (zdT e a) d c)<|cond g (oN (zcM m.Guests)<|oN n<|share (up b.Mons a ({h with Guests:=(zdm m.Guests)}:Mon)) λi=>oN (inb a<|ln i)<|share (up i a ({ (ix i a zh) with Pending:=m.Pending}:Mon)) (λj=>let k:=ix j a zh;let p:=ix k.Tables d zdC; (cond g (oN (inb a<|ln j)<|oN (inb a<|ln j)<|oN (inb d<|ln k.Tables)<|oN (zcx p c)<|oN (inb d<|ln k.Tables)<|share (up j a ({k with Tables:=(up k.Tables d<|zed p c)}:Mon)) λr=>oN l<|oN (zdI b.Buffer f c)<|oN l<|oN (zdI b.IoBuffer f c)<|some [aH (⟨b.Memory,r,ze6 b.Buffer f c,ze6 b.IoBuffer f c⟩:Host),aB g])<|some [aH ({b with Mons:=j}:Host),aB g])))<|cond g (oN n<|oN n<|oN (inb d<|ln h.Tables)<|oN (zcx q c)<|oN (inb d<|ln h.Tables)<|share (up b.Mons a ({h with Tables:=(up h.Tables d<|zed q c)}:Mon)) λi=>oN l<|oN (zdI b.Buffer f c)<|oN l<|oN (zdI b.IoBuffer f c)<|some [aH (⟨b.Memory,i,ze6 b.Buffer f c,ze6 b.IoBuffer f c⟩:Host),aB g])<|some [aH b,aB g])
theorem zLi (a:Host)(c d e:Int)(h:zbt big [aH a,aI c,aI d,aI e])(i:zlS a c d e=true):∃N,zzo N a c d e=some [aH<|zgI a c d e,aB<|zfO a c d e]:=by
 have k:=(zJ a).1 (zB.1 i);refine⟨0,?_⟩;unfold zzo zgI zfO zmH zf6 oN nB;conv=>zeta
 refine must i (must rfl ?_);rw[show zb0 a=zbP a from rfl];cases j:zbP a;{unfold zcc;rw[j];rfl};{refine zbA rfl (must rfl ?_);rw[show zbH c (ln a.Mons)=hasB c (ln a.Mons) from rfl];cases f:hasB c (ln a.Mons);{unfold zcc;rw[j,f];rfl};{have q:zcc a c=true:=zbn.2 ⟨j,f⟩;have l:=zet k f;have h:SmB (zcp (zS a c) d e):=zh1 l (zqU _<|zfn _ l);rw[q];refine zbA rfl (must i<|must (zN l) ?_);rw[show zdH (zdT a c) d e=zce (zS a c) d (hasB e 4) from rfl];cases t:zce (zS a c) d (hasB e 4);{rfl};{obtain⟨r,s⟩:=zMJ f (zcp (zS a c) d e);refine must rfl (must (zN h.2.1)<|must (zy f)<|shr<|must r<|shr ?_);rw[show zh=mZ from rfl,s];have n:=zQx (H:=zcy a c (zcp (zS a c) d e)) (m:=c) (g:=d) (p:=e) (o:=λH=>[.agg<|zbb H,.one<|.b true]) (zza k f h.2.1) (zGI _ f) (zCa k q _ t);exact must rfl (show _=_ from n)}}}
theorem zDU:vF 27 zmr:=hF4 zBU zl zbs zbC (zq []) zLi
def z0G:zY:=[(131,zmr),(27,zmr)]++z0F
theorem zBV:zK z0G:=zf zEd (zf zDU zBU)
def zVs (h:Host)(m p c v:Int):Host:={mended h m p 2 with Memory:=zfs (mended h m p 2).Memory (ix (ix (mended h m p 2).Mons m mZ).Outer p sZ).Page c v}
def zeM (h:Host)(m p c v:Int):Bool:=bif zb6 h m p then (cond (hasB c 4) (zk v 0 99) false) else false
def zo4 (h:Host)(m p c v:Int):Host:=bif zeM h m p c v then zVs h m p c v else h
@[simp] abbrev zmW (h:Host)(m p c v:Int):Bool:=pc (zdJ h)
@[simp] abbrev zjl (h:Host)(m p c v:Int):Host:=zo4 h m p c v
@[simp] abbrev zjm (h:Host)(m p c v:Int):Bool:=zeM h m p c v
def z5V (H:Host)(m p c v:Int)(o:Host->Ans):OA:=
 bif pc (zTm H m p 2) then (cond (inb m<|ln (mended H m p 2).Mons) (cond (inb p<|ln (ix (mended H m p 2).Mons m mZ).Outer) (cond (pc<|SmM (mended H m p 2).Memory) (some<|o<|zVs H m p c v) none) none) none) else none
theorem zVr {h:Host}{m p c v:Int}{o:Host->Ans}(j:SmH h)(i:zb6 h m p=true):z5V h m p c v o=some (o<|zVs h m p c v):=by obtain⟨g,b,a⟩:=ziC.1 i;have f:=ze9 j g;obtain⟨d,e⟩:=zu9 (n:=2) f b a;unfold z5V;refine must (zN ⟨f,b,a,.inr rfl,ztC (ziw g _<|zbz b mZ) a⟩) (must (zy e)<|must (zy ?_) (must (zN d.1.1) rfl));rw[ln,(d.2 _<|zbz e mZ).1];exact a
def znC:Run:=rF5 dH dI dI dI dI λb c d e f=>(zmW b c d e f,[aH<|zjl b c d e f,aB<|zjm b c d e f])
def zBu (N:Nat)(g:Host)(b c:Int)(e f:Int):OA:=
 let a:=zi g;let d:=zf2 a b c 2;let h:=(ix d.Mons b zh).Outer;let i:=(ix h c zT).Page; (oN (zL g)<|oN (ziH a b c)<|cond (nB<|zdY a b c) (some [aH a,aB false])<|oN (zD e 0 3)<|cond (nB<|zk e 0 3) (some [aH a,aB false])<|oN (zD f 0 99)<|cond (nB<|zk f 0 99) (some [aH a,aB false])<|oN (zhw a b c 2)<|oN (inb b<|ln d.Mons)<|oN (inb c<|ln h)<|oN (zcL d.Memory i e f)<|some [aH ({d with Memory:=(zcS d.Memory i e f)}:Host),aB true])
theorem zOZ (d:Host)(f g:Int)(a e:Int)(i:zmW d f g a e=true):∃N,zBu N d f g a e=some [aH<|zjl d f g a e,aB<|zjm d f g a e]:=by
 have k:=(zJ d).1 (zB.1 i);refine⟨0,?_⟩;unfold zBu zjl zjm zo4 zeM oN nB;conv=>zeta
 refine must i (must rfl ?_);rw[show zdY (zi d) f g=zb6 d f g from rfl];cases j:zb6 d f g;{rfl};{refine zbA rfl (must rfl ?_);rw[show zk a 0 3=hasB a 4 from z8T a];cases l:hasB a 4;{rfl};{refine zbA rfl (must rfl ?_);rw[show zk e 0 99=zk e 0 99 from rfl];cases m:zk e 0 99;{rfl};{have h:=zVr (c:=a) (v:=e) (o:=λH=>[.agg<|zbb H,.one<|.b true]) k j;exact zbA rfl (show _=_ from h)}}}
theorem zHE:vF 136 znC:=kF5 zBV zl zbs zbC (zq []) zOZ
theorem z1P {h:Host}{m p c v:Int}(a:hasB m (ln h.Mons)=true):zcy h m (znr (zS h m) p c v)=h:=by have e:zcy h m (znr (zS h m) p c v)=zcy h m (zS h m):=(by refine back_eq ?_ ?_<;>unfold znr<;>cases zlP (zS h m) p c v<;>rfl);rw[e];exact zla a
theorem z7l {h:Host}{m p c v:Int}(a:zbP h=true)(b:hasB m (ln h.Mons)=true):zlP (zS h m) p c v=zeM h m p c v:=by unfold zlP zeM zDF zb6;rw[zrG a b,a,b];cases hasB p 8<;>rfl
def zAU (N:Nat)(c:Host)(a b:Int)(e f:Int):OA:=
 let l:=zec (zdT c a) b e f;let d:=zi c;let i:=zf2 d a b 2;let n:=(ix i.Mons a zh).Outer;let q:=(ix n b zT).Page;let g:=zeW (zdT c a) b e f; (oN (zL c)<|oN (zb2 c)<|cond (nB<|zb0 c) (some [aH d,aB false])<|oN (zZ a<|ln c.Mons)<|cond (nB<|zbH a<|ln c.Mons) (some [aH d,aB false])<|oN (zcV c a)<|oN (zkU (zdT c a) b e f)<|cond g (oN (zcM l.Guests)<|oN (inb a<|ln d.Mons)<|share (up d.Mons a ({ (ix d.Mons a zh) with Guests:=(zdm l.Guests)}:Mon)) λj=>oN (inb a<|ln j)<|share (up j a ({ (ix j a zh) with Pending:=l.Pending}:Mon)) (λr=>let k:=({d with Mons:=r}:Host);let h:=zf2 k a b 2;let m:=(ix h.Mons a zh).Outer;let p:=(ix m b zT).Page; (cond g (oN (zhw k a b 2)<|oN (inb a<|ln h.Mons)<|oN (inb b<|ln m)<|oN (zcL h.Memory p e f)<|some [aH ({h with Memory:=(zcS h.Memory p e f)}:Host),aB g])<|some [aH k,aB g])))<|cond g (oN (zhw d a b 2)<|oN (inb a<|ln i.Mons)<|oN (inb b<|ln n)<|oN (zcL i.Memory q e f)<|some [aH ({i with Memory:=(zcS i.Memory q e f)}:Host),aB g])<|some [aH d,aB g])
theorem zOt (a:Host)(d e:Int)(f g:Int)(p:zbt big [aH a,aI d,aI e,aI f,aI g])(k:zmW a d e f g=true):∃N,zAU N a d e f g=some [aH<|zjl a d e f g,aB<|zjm a d e f g]:=by
 have q:=(zJ a).1 (zB.1 k);refine⟨0,?_⟩;unfold zAU zjl zjm zo4 oN nB;conv=>zeta
 refine must k (must rfl ?_);rw[show zb0 a=zbP a from rfl];cases m:zbP a;{unfold zeM zb6;rw[m];rfl};{refine zbA rfl (must rfl ?_);rw[show zbH d (ln a.Mons)=hasB d (ln a.Mons) from rfl];cases h:hasB d (ln a.Mons);{unfold zeM zb6;rw[m,h];rfl};{have i:=zet q h;have p:SmB (zec (zS a d) e f g):=(by show SmB (znr _ _ _ _);unfold znr;cases zlP (zS a d) e f g;{exact i};{exact⟨zpj i.1,i.2⟩});refine zbA rfl (must k<|must (zN i) ?_);rw[show zeW (zdT a d) e f g=zeM a d e f g from z7l m h];cases l:zeM a d e f g;{rfl};{have t:zb6 a d e=true:=(by unfold zeM at l;cases u:zb6 a d e;{rw [u]at l;cases l};{rfl});obtain⟨r,s⟩:=zMJ h (zec (zS a d) e f g);refine must rfl (must (zN p.2.1)<|must (zy h)<|shr<|must r<|shr ?_);rw[show zh=mZ from rfl,s];have j:({zi a with Mons:=up (zi a).Mons d (zyh (ix (zi a).Mons d mZ)<|zec (zS a d) e f g)}:Host)=a:=z1P h;have n:=zVr (c:=f) (v:=g) (o:=λH=>[.agg<|zbb H,.one<|.b true]) q t;refine must rfl ?_;rw[j];exact(show _=_ from n)}}}
theorem zG9:vF 117 znC:=hF5 zBV zl zbs zbC (zq []) zOt
def z0H:zY:=[(136,znC),(117,znC)]++z0G
theorem zQp:zK z0H:=zf zHE (zf zG9 zBV)
@[simp] abbrev zpX (h:Host)(m g b a:Int):Host:=(lookOf h h.IoBuffer m g b a true).1
@[simp] abbrev zkH (h:Host)(m g b a:Int):Int:=(lookOf h h.IoBuffer m g b a true).2.1
@[simp] abbrev zkI (h:Host)(m g b a:Int):Bool:=(lookOf h h.IoBuffer m g b a true).2.2
def zxP:Run:=rF5 dH dI dI dI dI λb c d e f=>(zlr b c d e f,[aH<|zpX b c d e f,aI<|zkH b c d e f,aB<|zkI b c d e f])
def zAY (N:Nat)(a:Host)(b c:Int)(d e:Int):OA:=
 (oN (ztv a b c d e true)<|some [aH<|zts a b c d e true,aI<|ztt a b c d e true,aB<|ztu a b c d e true])
theorem zOx (a:Host)(b c:Int)(d e:Int)(f:zlr a b c d e=true):∃N,zAY N a b c d e=some [aH<|zpX a b c d e,aI<|zkH a b c d e,aB<|zkI a b c d e]:=by refine⟨0,?_⟩;unfold zAY oN;exact must f rfl
theorem zHd:vF 242 zxP:=kF5 zQp zl zbs zbC (zq []) zOx
def z0I:zY:=[(242,zxP)]++z0H
theorem zsj:zK z0I:=zf zHd zQp
theorem zLG (h:Host)(b:List Entry)(m g c a:Int)(e:Bool):(lookOf h b m g c a e).2.2=zb8 h m g c a:=by cases d:zb8 h m g c a;{rw [ziU d]};{rw [zIj d];unfold zjX zf5;generalize zl1 b m g c a=x;cases x;{generalize zfM _ m g c a=y;cases y<;>rfl};{rfl}}
theorem zYb {h:Host}{m g c a:Int}(b:List Entry)(i:Bool)(f:SmH h)(d:zb8 h m g c a=true):SmM (lookOf h b m g c a i).1.Memory:=by have hg:zcn h m g=true:=(by unfold zb8 at d;cases e:zcn h m g;{rw [e]at d;cases d};{rfl});exact(ztX f hg).shape.1.1
def zOg (h:Host)(m g a n:Int):Host×Int×Bool:=lookOf h h.IoBuffer m g (zcj a) n true
def zlb (h:Host)(m g a v:Int):Bool:=bif zk a 0 15 then (cond (zk v 0 99) (zb8 h m g (zcj a) 2) false) else false
def zq9 (h:Host)(m g a v:Int):Host:=bif zlb h m g a v then { (zOg h m g a 2).1 with Memory:=zfs (zOg h m g a 2).1.Memory (zOg h m g a 2).2.1 (zgO a) v} else h
def zil (h:Host)(m g a:Int):Bool:=bif zk a 0 15 then zb8 h m g (zcj a) 1 else false
def zo5 (h:Host)(m g a:Int):Host:=bif zil h m g a then (zOg h m g a 1).1 else h
def zsw (h:Host)(m g a:Int):Int:=bif zil h m g a then cellAt (zOg h m g a 1).1.Memory (zOg h m g a 1).2.1 (zgO a) else 0
@[simp] abbrev zog (h:Host)(m g a v:Int):Bool:=pc (zdJ h)
@[simp] abbrev zki (h:Host)(m g a v:Int):Host:=zq9 h m g a v
@[simp] abbrev zkj (h:Host)(m g a v:Int):Bool:=zlb h m g a v
@[simp] abbrev zmY (h:Host)(m g a:Int):Bool:=pc (zdJ h)
@[simp] abbrev zhN (h:Host)(m g a:Int):Host:=zo5 h m g a
@[simp] abbrev zjn (h:Host)(m g a:Int):Int:=zsw h m g a
@[simp] abbrev zjo (h:Host)(m g a:Int):Bool:=zil h m g a
def zoG:Run:=rF5 dH dI dI dI dI λb c d e f=>(zog b c d e f,[aH<|zki b c d e f,aB<|zkj b c d e f])
def zFu (N:Nat)(g:Host)(c d:Int)(a e:Int):OA:=
 let b:=zi g;let h:=zma b b.IoBuffer c d (zbm a) 2 true;let f:=zgd b b.IoBuffer c d (zbm a) 2 true; (oN (zL g)<|oN (zD a 0 15)<|cond (nB<|zk a 0 15) (some [aH b,aB false])<|oN (zD e 0 99)<|cond (nB<|zk e 0 99) (some [aH b,aB false])<|oN (zbi a)<|oN (zmb b b.IoBuffer c d (zbm a) 2 true)<|cond (nB<|ziJ b b.IoBuffer c d (zbm a) 2 true) (some [aH f,aB false])<|oN (zbi a)<|oN (zcL f.Memory h (zbX a) e)<|some [aH ({f with Memory:=(zcS f.Memory h (zbX a) e)}:Host),aB true])
theorem zSh (a:Host)(c d:Int)(b e:Int)(f:zog a c d b e=true):∃N,zFu N a c d b e=some [aH<|zki a c d b e,aB<|zkj a c d b e]:=by
 have h:=(zJ a).1 (zB.1 f);refine⟨0,?_⟩;unfold zFu zki zkj zq9 zlb oN nB;conv=>zeta
 refine must f (must rfl ?_);rw[show zk b 0 15=zk b 0 15 from rfl];cases i:zk b 0 15;{rfl};{refine zbA rfl (must rfl ?_);rw[show zk e 0 99=zk e 0 99 from rfl];cases j:zk e 0 99;{rfl};{refine zbA rfl (must rfl (must f ?_));rw[show ziJ (zi a) (zi a).IoBuffer c d (zbm b) 2 true=zb8 a c d (zcj b) 2 from zLG _ _ _ _ _ _ _];cases g:zb8 a c d (zcj b) 2;{rw [show zgd (zi a) (zi a).IoBuffer c d (zbm b) 2 true=a from congrArg Prod.fst (ziU g)];rfl};{exact zbA rfl (must rfl (must (zN<|zYb a.IoBuffer true h g) rfl))}}}
theorem zKE:vF 139 zoG:=kF5 zsj zl zbs zbC (zq []) zSh
def zE1 (N:Nat)(a:Host)(c d:Int)(b e:Int):OA:=
 let f:=zpX a c d (zbm b) 2; (oN (zbi b)<|oN (zlr a c d (zbm b) 2)<|oN (zD b 0 15)<|cond (nB<|zk b 0 15) (oN (zL a)<|some [aH<|zi a,aB false])<|oN (zD e 0 99)<|cond (nB<|zk e 0 99) (oN (zL a)<|some [aH<|zi a,aB false])<|cond (nB<|zkI a c d (zbm b) 2) (oN (zL a)<|some [aH<|zi a,aB false])<|oN (zbi b)<|oN (zcL f.Memory (zkH a c d (zbm b) 2) (zbX b) e)<|some [aH ({f with Memory:=(zcS f.Memory (zkH a c d (zbm b) 2) (zbX b) e)}:Host),aB true])
theorem zRP (b:Host)(c d:Int)(a e:Int)(f:zog b c d a e=true):∃N,zE1 N b c d a e=some [aH<|zki b c d a e,aB<|zkj b c d a e]:=by
 have h:=(zJ b).1 (zB.1 f);refine⟨0,?_⟩;unfold zE1 zki zkj zq9 zlb oN nB;conv=>zeta
 refine must rfl (must f (must rfl ?_));rw[show zk a 0 15=zk a 0 15 from rfl];cases i:zk a 0 15;{exact must rfl (must f rfl)};{refine zbA rfl (must rfl ?_);rw[show zk e 0 99=zk e 0 99 from rfl];cases j:zk e 0 99;{exact must rfl (must f rfl)};{refine zbA rfl ?_;rw[show zkI b c d (zbm a) 2=zb8 b c d (zcj a) 2 from zLG _ _ _ _ _ _ _];cases g:zb8 b c d (zcj a) 2;{exact must rfl (must f rfl)};{exact zbA rfl (must rfl (must (zN<|zYb b.IoBuffer true h g) rfl))}}}
theorem zKc:vF 120 zoG:=kF5 zsj zl zbs zbC (zq []) zRP
def znE:Run:=rF4 dH dI dI dI λb c d e=>(zmY b c d e,[aH<|zhN b c d e,aI<|zjn b c d e,aB<|zjo b c d e])
def zBw (N:Nat)(f:Host)(c d a:Int):OA:=
 let b:=zi f;let g:=zma b b.IoBuffer c d (zbm a) 1 true;let e:=zgd b b.IoBuffer c d (zbm a) 1 true; (oN (zL f)<|oN (zD a 0 15)<|cond (nB<|zk a 0 15) (some [aH b,aI 0,aB false])<|oN (zbi a)<|oN (zmb b b.IoBuffer c d (zbm a) 1 true)<|cond (nB<|ziJ b b.IoBuffer c d (zbm a) 1 true) (some [aH e,aI 0,aB false])<|oN (zbi a)<|oN (zdO e.Memory g<|zbX a)<|some [aH e,aI<|zeV e.Memory g<|zbX a,aB true])
theorem zO1 (a:Host)(c d b:Int)(e:zmY a c d b=true):∃N,zBw N a c d b=some [aH<|zhN a c d b,aI<|zjn a c d b,aB<|zjo a c d b]:=by
 have h:=(zJ a).1 (zB.1 e);refine⟨0,?_⟩;unfold zBw zhN zjn zjo zo5 zsw zil oN nB;conv=>zeta
 refine must e (must rfl ?_);rw[show zk b 0 15=zk b 0 15 from rfl];cases g:zk b 0 15;{rfl};{refine zbA rfl (must rfl (must e ?_));rw[show ziJ (zi a) (zi a).IoBuffer c d (zbm b) 1 true=zb8 a c d (zcj b) 1 from zLG _ _ _ _ _ _ _];cases f:zb8 a c d (zcj b) 1;{rw [show zgd (zi a) (zi a).IoBuffer c d (zbm b) 1 true=a from congrArg Prod.fst (ziU f)];rfl};{exact zbA rfl (must rfl (must rfl rfl))}}
theorem zHG:vF 140 znE:=kF4 zsj zl zbs zbC (zq []) zO1
def zAW (N:Nat)(b:Host)(c d a:Int):OA:=
 let e:=zpX b c d (zbm a) 1; (oN (zbi a)<|oN (zlr b c d (zbm a) 1)<|oN (zD a 0 15)<|cond (nB<|zk a 0 15) (oN (zL b)<|some [aH<|zi b,aI 0,aB false])<|cond (nB<|zkI b c d (zbm a) 1) (oN (zL b)<|some [aH<|zi b,aI 0,aB false])<|oN (zbi a)<|oN (zdO e.Memory (zkH b c d (zbm a) 1)<|zbX a)<|some [aH e,aI<|zeV e.Memory (zkH b c d (zbm a) 1)<|zbX a,aB true])
theorem zOv (b:Host)(c d a:Int)(e:zmY b c d a=true):∃N,zAW N b c d a=some [aH<|zhN b c d a,aI<|zjn b c d a,aB<|zjo b c d a]:=by
 have h:=(zJ b).1 (zB.1 e);refine⟨0,?_⟩;unfold zAW zhN zjn zjo zo5 zsw zil oN nB;conv=>zeta
 refine must rfl (must e (must rfl ?_));rw[show zk a 0 15=zk a 0 15 from rfl];cases f:zk a 0 15;{exact must rfl (must e rfl)};{refine zbA rfl ?_;rw[show zkI b c d (zbm a) 1=zb8 b c d (zcj a) 1 from zLG _ _ _ _ _ _ _];cases g:zb8 b c d (zcj a) 1;{exact must rfl (must e rfl)};{exact zbA rfl (must rfl (must rfl rfl))}}
theorem zHb:vF 121 znE:=kF4 zsj zl zbs zbC (zq []) zOv
def z0J:zY:=[(139,zoG),(120,zoG),(140,znE),(121,znE)]++z0I
theorem z0K:zK z0J:=zf zKE (zf zKc<|zf zHG<|zf zHb zsj)
def z0L:zY:=[(144,zro),(195,znw),(90,ziZ),(84,ziZ)]++z0J
theorem zBW:zK z0L:=zf zuF (zf zuy<|zf zuD<|zf zuw z0K)
def zpw:Kept:=⟨rp 4 false,zlV⟩
@[simp] abbrev zoj (n:Int):Bool:=ieq n 4
@[simp] abbrev zmZ (n:Int):Kept:=zpw
def zoJ:Run:=rF1 dI λb=>(zoj b,[aT .kept<|zmZ b])
def zWv (N:Nat)(b:Int):OA:=
 let a:=ln<|zit b; (oN (zk0 b)<|oN (cond (few a) (ieq a a) false)<|some [aT .kept (⟨rp a false,zit b⟩:Kept)])
theorem zSk (a:Int)(b:zoj a=true):∃N,zWv N a=some [aT .kept<|zmZ a]:=by refine⟨0,?_⟩;have h:a=4:=qD b;subst h;change _=_;kernel_rfl
theorem zKH:vF 145 zoJ:=kF1 zBW zl zbs zbC (zq []) zSk
def zWu (N:Nat)(a:Int):OA:=
 let b:=zix a 0 24; (oN (zkh a 0 24)<|oN (cond (few b) (ieq b b) false)<|oN (zkK a)<|some [aT .kept (⟨rp b false,zin a⟩:Kept)])
theorem zRS (a:Int)(b:zoj a=true):∃N,zWu N a=some [aT .kept<|zmZ a]:=by refine⟨0,?_⟩;have h:a=4:=qD b;subst h;change _=_;kernel_rfl
theorem zKf:vF 234 zoJ:=kF1 zBW zl zbs zbC (zq []) zRS
def z0M:zY:=[(145,zoJ),(234,zoJ)]++z0L
theorem zBX:zK z0M:=zf zKH (zf zKf zBW)
def zVH:List Slot:=List.replicate 8 ⟨-1,0⟩
def zkO (a:List (List Ins)):Mon:=⟨zVH,zuN,rp 8 false,(a.take 2).map zdS,[],0,0,(a.take 2).map λ_=>zpw,0⟩
theorem zQI {c a b m:Type}(f:c->a)(g:c->b)(K:List a×List b->Option m):∀(l:List c) (i:Nat) (u:List a×List b),u.1.length+l.length<=2147483648->u.2.length+l.length<=2147483648->
 goL (λ(_:Nat) x (u:List a×List b) k=>bif few (ln<|ap u.1 [f x]) then (cond (few<|ln<|ap u.2 [g x]) (k (ap u.1 [f x],ap u.2 [g x])) none) else none) K l i u=K (u.1++l.map f,u.2++l.map g)
 |[],i,u,_,_=>by simp[goL]
 |x::l,i,u,h,j=>by simp only[qV]at h j;have d:few (ln<|ap u.1 [f x])=true:=zev (by simp[ap];omega);have e:few (ln<|ap u.2 [g x])=true:=zev (by simp[ap];omega);simp only[goL,d,e,cT];rw[zQI f g K l (i+1) _ (by simp[ap];omega) (by simp[ap];omega)];simp[ap]
theorem zLH {d a b q:Type}(m:Nat)(f:d->a)(g:d->b)(K:List a×List b->Option q):∀(l:List d) (i:Nat) (u:List a×List b),u.1.length+l.length<=2147483648->u.2.length+l.length<=2147483648->
 goL (λ(i:Nat) x (u:List a×List b) k=>bif ilt (i:Int) (m:Int) then (cond (few<|ln<|ap u.1 [f x]) (cond (few<|ln<|ap u.2 [g x]) (k (ap u.1 [f x],ap u.2 [g x])) none) none) else K u) K l i u=K (u.1++(l.take<|m-i).map f,u.2++(l.take<|m-i).map g)
 |[],i,u,_,_=>by simp[goL]
 |x::l,i,u,n,p=>by simp only[qV]at n p;have e:few (ln<|ap u.1 [f x])=true:=zev (by simp[ap];omega);have j:few (ln<|ap u.2 [g x])=true:=zev (by simp[ap];omega);by_cases h:i<m;{have c:ilt (i:Int) (m:Int)=true:=qL (by omega);simp only[goL,c,e,j,cT];rw[zLH m f g K l (i+1) _ (by simp[ap];omega) (by simp[ap];omega)];rw[show m-i=m-(i+1)+1 by omega];simp[ap]};{have c:ilt (i:Int) (m:Int)=false:=qI (by omega);simp only[goL,c,cF];rw[show m-i=0 by omega];simp}
def zU7 (u:List Guest×List Kept):OA:=some [AV.agg<|Ty.cells .mon (⟨zVH,zuN,rp 8 false,u.1,[],0,0,u.2,0⟩:Mon)]
@[simp] abbrev zu5 (a:List (List Ins)):Mon:=zkO a
def zqk:Run:=rF1 (dS<|.sl .ins) λb=>(zei b,[aT .mon<|zu5 b])
def zJd (N:Nat)(k:lP):OA:=
 (oN (zk0 8)<|oN (zho 8)<|oN (cond (few 8) (ieq 8 8) false)<|iter (σ:=(Int×Int×Int×Int×Int×Int×Int×lP×lS×lM×lB×lG×(List Int)×lK×lS×lM×lB×lG×(List Int)×lK×Unit)) N (λl a=>let j:=a.2.2.2.2.2.2.2.2.2.2.2.2.2.2.1;let i:=a.2.2.2.2.2.2.2.2.2.2.2.2.2.2.2.1;let h:=a.2.2.2.2.2.2.2.2.2.2.2.2.2.2.2.2.1;let g:=a.2.2.2.2.2.2.2.2.2.2.2.2.2.2.2.2.2.1;let f:=a.2.2.2.2.2.2.2.2.2.2.2.2.2.2.2.2.2.2.1;let b:=a.2.2.2.2.2.2.2.1;let c:=a.2.2.2.2.2.2.2.2.2.2.2.2.2.2.2.2.2.2.2.1;let e:=ap g [zgq<|ix b a.1 []];let d:=aT .mon (⟨j,i,h,g,f,a.2.2.2.2.1,a.2.2.2.2.2.1,c,a.2.2.2.2.2.2.1⟩:Mon); (cond (ilt a.1<|ln b) (cond (ilt a.1 2) (oN (inb a.1<|ln b)<|oN (zeZ<|ix b a.1 [])<|oN (few<|ln e)<|oN (zoj 4)<|oN (few<|ln<|ap c [zmZ 4])<|l (zG .i64 a.1 1,a.2.1,a.2.2.1,a.2.2.2.1,a.2.2.2.2.1,a.2.2.2.2.2.1,a.2.2.2.2.2.2.1,b,a.2.2.2.2.2.2.2.2.1,a.2.2.2.2.2.2.2.2.2.1,a.2.2.2.2.2.2.2.2.2.2.1,a.2.2.2.2.2.2.2.2.2.2.2.1,a.2.2.2.2.2.2.2.2.2.2.2.2.1,a.2.2.2.2.2.2.2.2.2.2.2.2.2.1,j,i,h,e,f,ap c [zmZ 4],()))<|some [d])<|some [d])) (0,0,0,0,0,0,0,k,[],[],[],[],[],[],zit 8,zdF 8,rp 8 false,[],[],[],()))
def zWd:=zq [(59,0,{n:=36,tm:=[(0,.sl 0 []),(2,.lp 0 0),(3,.lp 1 0),(4,ti)],lo:=[(0,[.sl 1 [],.sl 2 [],.sl 3 [],.sl 4 [],.sl 5 [],ti,ti,.sl 6 [],ti]),(1,[.sl 7 [],.sl 8 [],.sl 9 [],.sl 10 [],.sl 11 [],ti,ti,.sl 12 [],ti])],ro:=[(0,.sl .ins,false),(1,.slot,true),(2,.sl .int,true),(3,.bool,true),(4,.guest,true),(5,.int,true),(6,.kept,true),(7,.slot,true),(8,.sl .int,true),(9,.bool,true),(10,.guest,true),(11,.int,true),(12,.kept,true)]})]
theorem zUL (a:List lI)(f:zei a=true):∃N,zJd N a=some [aT .mon<|zu5 a]:=by
 have e:=zB.1 f;have c:=zbV e.1;refine zbG λN d=>?_;unfold zJd oN;conv=>zeta
 refine must rfl (must rfl (must rfl ?_));refine(zW a (λi (t:lG×lK)=>((i:Int),0,0,0,0,0,0,a,[],[],[],[],[],[],zit 8,zdF 8,rp 8 false,t.1,[],t.2,())) _ (λi (x:List Ins) (u:List Guest×List Kept) h=>bif ilt (i:Int) ((2:Nat):Int) then (cond (few<|ln<|ap u.1 [zdS x]) (cond (few<|ln<|ap u.2 [zpw]) (h (ap u.1 [zdS x],ap u.2 [zpw])) none) none) else zU7 u) (λ(t:lG×lK)=>some [.agg<|Ty.cells .mon (⟨zit 8,zdF 8,rp 8 false,t.1,[],0,0,t.2,0⟩:Mon)]) (λi b t rec=>?_) (λt rec=>?_) _ ([],[])<|d c.1).trans ?_;{simp only [zbf b,zO b,zX b,zV b c.1,cT];have g:zeZ a[i]=true:=zN (e.2 _<|jA b);simp only[g,cT];rfl};{simp only [zbc,cF]};exact zLH 2 zdS (λ_=>zpw) zU7 a 0 ([],[]) (by simpa using c.2) (by simpa using c.2)
theorem zNP:vF 59 zqk:=kF1 zBX zl zbs zbC zWd zUL
def zIQ (N:Nat)(b:lP):OA:=
 let e:=zcJ (ln b) 2; (oN (zkK 8)<|oN (zho 8)<|oN (cond (few 8) (ieq 8 8) false)<|oN (inr 0 e<|ln b)<|iter (σ:=(Int×Int×Int×Int×Int×Int×Int×Int×lP×lS×lM×lB×lG×(List Int)×lK×lS×lM×lB×lG×(List Int)×lK×Unit)) N (λl a=>let k:=a.2.2.2.2.2.2.2.2.2.2.2.2.2.2.2.1;let j:=a.2.2.2.2.2.2.2.2.2.2.2.2.2.2.2.2.1;let i:=a.2.2.2.2.2.2.2.2.2.2.2.2.2.2.2.2.2.1;let h:=a.2.2.2.2.2.2.2.2.2.2.2.2.2.2.2.2.2.2.1;let g:=a.2.2.2.2.2.2.2.2.2.2.2.2.2.2.2.2.2.2.2.1;let c:=a.2.2.2.2.2.2.2.2.1;let d:=a.2.2.2.2.2.2.2.2.2.2.2.2.2.2.2.2.2.2.2.2.1;let f:=ap h [zgq<|ix c a.2.1 []]; (cond (ilt a.2.1 a.1) (oN (inb a.2.1<|ln c)<|oN (zeZ<|ix c a.2.1 [])<|oN (few<|ln f)<|oN (zoj 4)<|oN (few<|ln<|ap d [zmZ 4])<|l (a.1,zG .i64 a.2.1 1,a.2.2.1,a.2.2.2.1,a.2.2.2.2.1,a.2.2.2.2.2.1,a.2.2.2.2.2.2.1,a.2.2.2.2.2.2.2.1,c,a.2.2.2.2.2.2.2.2.2.1,a.2.2.2.2.2.2.2.2.2.2.1,a.2.2.2.2.2.2.2.2.2.2.2.1,a.2.2.2.2.2.2.2.2.2.2.2.2.1,a.2.2.2.2.2.2.2.2.2.2.2.2.2.1,a.2.2.2.2.2.2.2.2.2.2.2.2.2.2.1,k,j,i,f,g,ap d [zmZ 4],()))<|some [aT .mon (⟨k,j,i,h,g,a.2.2.2.2.2.1,a.2.2.2.2.2.2.1,d,a.2.2.2.2.2.2.2.1⟩:Mon)])) (ln<|tk b e,0,0,0,0,0,0,0,tk b e,[],[],[],[],[],[],zin 8,zdF 8,rp 8 false,[],[],[],()))
def zV3:=zq [(112,0,{n:=35,tm:=[(2,.lp 0 0),(3,.lp 1 0),(14,.sl 0 []),(15,ti),(16,ti)],lo:=[(0,[.sl 1 [],.sl 2 [],.sl 3 [],.sl 4 [],.sl 5 [],ti,ti,.sl 6 [],ti]),(1,[.sl 7 [],.sl 8 [],.sl 9 [],.sl 10 [],.sl 11 [],ti,ti,.sl 12 [],ti])],ro:=[(0,.sl .ins,false),(1,.slot,true),(2,.sl .int,true),(3,.bool,true),(4,.guest,true),(5,.int,true),(6,.kept,true),(7,.slot,true),(8,.sl .int,true),(9,.bool,true),(10,.guest,true),(11,.int,true),(12,.kept,true)]})]
theorem zUq (a:List lI)(j:zei a=true):∃N,zIQ N a=some [aT .mon<|zu5 a]:=by
 have f:=zB.1 j;have m:=zbV f.1;have h:=zx5 a 2;have g:tk a (zcJ (ln a) 2)=a.take 2:=h.1;have d:(tk a<|zcJ (ln a) 2).length<=1048576:=(by rw[g];exact qX (by simp;omega) f.1);have b:=(zbV d).1;refine zbG λN e=>?_;unfold zIQ oN;conv=>zeta
 refine must rfl (must rfl (must rfl (must h.2 ?_)));refine(zW (tk a<|zcJ (ln a) 2) (λi (t:lG×lK)=>(ln<|tk a<|zcJ (ln a) 2,(i:Int),0,0,0,0,0,0,tk a<|zcJ (ln a) 2,[],[],[],[],[],[],zin 8,zdF 8,rp 8 false,t.1,[],t.2,())) _ (λ_ (x:List Ins) (u:List Guest×List Kept) l=>bif few (ln<|ap u.1 [zdS x]) then (cond (few<|ln<|ap u.2 [zpw]) (l (ap u.1 [zdS x],ap u.2 [zpw])) none) else none) (λ(t:lG×lK)=>some [.agg<|Ty.cells .mon (⟨zin 8,zdF 8,rp 8 false,t.1,[],0,0,t.2,0⟩:Mon)]) (λi c t rec=>?_) (λt rec=>?_) _ ([],[])<|e b).trans ?_;{simp only [zbf c,zO c,zX c,zV c b,cT];have k:zeZ (tk a<|zcJ (ln a) 2)[i]=true:=zN (f.2 _<|zMq<|jA c);simp only[k,cT];rfl};{simp only [zbc,cF]};refine(zQI zdS (λ_=>zpw) zU7 _ 0 ([],[]) (by simp only[kT];omega) (by simp only[kT];omega)).trans ?_;rw[g];rfl
theorem zNm:vF 112 zqk:=kF1 zBX zl zbs zbC zV3 zUq
def z0N:zY:=[(59,zqk),(112,zqk)]++z0M
theorem zBY:zK z0N:=zf zNP (zf zNm zBX)
def zZw:List (List Int):=List.replicate 12 [0,0,0,0]
def znk (a:List (List<|List Ins)):Host:=⟨zZw,(a.take 3).map zkO,[],[]⟩
def zrB (ps:List (List<|List Ins)):Prop:=ps.length<=1048576/\∀p∈ps,z2s p
@[simp] abbrev zoh (a:List (List<|List Ins)):Bool:=pc (zrB a)
@[simp] abbrev zdM (a:List (List<|List Ins)):Host:=znk a
def zOd (t:List Mon):OA:=some [AV.agg<|zbb ⟨zZw,t,[],[]⟩]
def zoH:Run:=rF1 (dS<|.sl<|.sl .ins) λb=>(zoh b,[aH<|zdM b])
def zFv (N:Nat)(d:lQ):OA:=
 (oN (zho 12)<|iter (σ:=(Int×lQ×lM×lN×lE×lE×lM×lN×lE×lE×Unit)) N (λe a=>let c:=ap a.2.2.2.2.2.2.2.1 [zu5<|ix a.2.1 a.1 []];let b:=aH (⟨a.2.2.2.2.2.2.1,a.2.2.2.2.2.2.2.1,a.2.2.2.2.2.2.2.2.1,a.2.2.2.2.2.2.2.2.2.1⟩:Host); (cond (ilt a.1<|ln a.2.1) (cond (ilt a.1 3) (oN (inb a.1<|ln a.2.1)<|oN (zei<|ix a.2.1 a.1 [])<|oN (few<|ln c)<|e (zG .i64 a.1 1,a.2.1,a.2.2.1,a.2.2.2.1,a.2.2.2.2.1,a.2.2.2.2.2.1,a.2.2.2.2.2.2.1,c,a.2.2.2.2.2.2.2.2.1,a.2.2.2.2.2.2.2.2.2.1,()))<|some [b])<|some [b])) (0,d,[],[],[],[],zdF 12,[],[],[],()))
def zSN:=zq [(25,0,{n:=28,tm:=[(0,.sl 0 []),(2,.lp 0 0),(3,.lp 1 0),(4,ti)],lo:=[(0,[.sl 1 [],.sl 2 [],.sl 3 [],.sl 4 []]),(1,[.sl 5 [],.sl 6 [],.sl 7 [],.sl 8 []])],ro:=[(0,.sl<|.sl .ins,false),(1,.sl .int,true),(2,.mon,true),(3,.entry,true),(4,.entry,true),(5,.sl .int,true),(6,.mon,true),(7,.entry,true),(8,.entry,true)]})]
theorem zSi (a:List lP)(f:zoh a=true):∃N,zFv N a=some [aH<|zdM a]:=by
 have e:=zB.1 f;have d:=zbV e.1;refine zbG λN c=>?_;unfold zFv oN;conv=>zeta
 refine must rfl ?_;refine(zW a (λi (t:lN)=>((i:Int),a,[],[],[],[],zdF 12,t,[],[],())) _ (λi (x:List lI) (t:List Mon) h=>bif ilt (i:Int) ((3:Nat):Int) then (cond (few<|ln<|ap t [zkO x]) (h<|ap t [zkO x]) none) else zOd t) (λ(t:lN)=>some [.agg<|zbb (⟨zdF 12,t,[],[]⟩:Host)]) (λi b t rec=>?_) (λt rec=>?_) _ ([])<|c d.1).trans ?_;{simp only [zbf b,zO b,zX b,zV b d.1,cT];have g:zei a[i]=true:=zN (e.2 _<|jA b);simp only[g,cT];rfl};{simp only [zbc,cF]};exact zv2 3 zkO zOd a 0 [] (by simpa using d.2)
theorem zKF:vF 25 zoH:=kF1 zBY zl zbs zbC zSN zSi
def zE2 (N:Nat)(b:lQ):OA:=
 let c:=zcJ (ln b) 3; (oN (zho 12)<|oN (inr 0 c<|ln b)<|iter (σ:=(Int×Int×lQ×lM×lN×lE×lE×lM×lN×lE×lE×Unit)) N (λe a=>let d:=ap a.2.2.2.2.2.2.2.2.1 [zu5<|ix a.2.2.1 a.2.1 []]; (cond (ilt a.2.1 a.1) (oN (inb a.2.1<|ln a.2.2.1)<|oN (zei<|ix a.2.2.1 a.2.1 [])<|oN (few<|ln d)<|e (a.1,zG .i64 a.2.1 1,a.2.2.1,a.2.2.2.1,a.2.2.2.2.1,a.2.2.2.2.2.1,a.2.2.2.2.2.2.1,a.2.2.2.2.2.2.2.1,d,a.2.2.2.2.2.2.2.2.2.1,a.2.2.2.2.2.2.2.2.2.2.1,()))<|some [aH (⟨a.2.2.2.2.2.2.2.1,a.2.2.2.2.2.2.2.2.1,a.2.2.2.2.2.2.2.2.2.1,a.2.2.2.2.2.2.2.2.2.2.1⟩:Host)])) (ln<|tk b c,0,tk b c,[],[],[],[],zdF 12,[],[],[],()))
def zSI:=zq [(49,0,{n:=27,tm:=[(2,.lp 0 0),(3,.lp 1 0),(12,.sl 0 []),(13,ti),(14,ti)],lo:=[(0,[.sl 1 [],.sl 2 [],.sl 3 [],.sl 4 []]),(1,[.sl 5 [],.sl 6 [],.sl 7 [],.sl 8 []])],ro:=[(0,.sl<|.sl .ins,false),(1,.sl .int,true),(2,.mon,true),(3,.entry,true),(4,.entry,true),(5,.sl .int,true),(6,.mon,true),(7,.entry,true),(8,.entry,true)]})]
theorem zRQ (a:List lP)(j:zoh a=true):∃N,zE2 N a=some [aH<|zdM a]:=by
 have g:=zB.1 j;have h:=zx5 a 3;have f:tk a (zcJ (ln a) 3)=a.take 3:=h.1;have d:(tk a<|zcJ (ln a) 3).length<=1048576:=(by rw[f];exact qX (by simp;omega) g.1);have b:=(zbV d).1;refine zbG λN e=>?_;unfold zE2 oN;conv=>zeta
 refine must rfl (must h.2 ?_);refine(zW (tk a<|zcJ (ln a) 3) (λi (t:lN)=>(ln<|tk a<|zcJ (ln a) 3,(i:Int),tk a<|zcJ (ln a) 3,[],[],[],[],zdF 12,t,[],[],())) _ (λ_ (x:List lI) (t:List Mon) l=>bif few (ln<|ap t [zkO x]) then l (ap t [zkO x]) else none) (λ(t:lN)=>some [.agg<|zbb (⟨zdF 12,t,[],[]⟩:Host)]) (λi c t rec=>?_) (λt rec=>?_) _ ([])<|e b).trans ?_;{simp only [zbf c,zO c,zX c,zV c b,cT];have k:zei (tk a<|zcJ (ln a) 3)[i]=true:=zN (g.2 _<|zMq<|jA c);simp only[k,cT]};{simp only [zbc,cF]};refine(zyU zkO zOd _ 0 [] (by simp only[kT];omega)).trans ?_;rw[f];rfl
theorem zKd:vF 49 zoH:=kF1 zBY zl zbs zbC zSI zRQ
def z0O:zY:=[(25,zoH),(49,zoH)]++z0N
theorem zBZ:zK z0O:=zf zKF (zf zKd zBY)
def ztV:Nat->Nat->Kept->Kept
 | 0,_,k=>k
 |n+1,i,k=>ztV n (i+1) (zd6 k (i:Int))
def zng (k:Kept):Kept:=ztV k.Known.length 0 k
theorem zZc (k:Kept)(p:Int):(zd6 k p).Known.length=k.Known.length:=by unfold zd6;cases zfc k p;{rfl};{exact zf4 _ _ _}
theorem zse:∀(n i:Nat) (k:Kept),SmK k->SmK (ztV n i k)
 | 0,_,_,h=>h
 |n+1,i,k,h=>zse n (i+1) _ (znQ h)
@[simp] abbrev zoe (k:Kept):Kept:=zng k
theorem zFX {b d:Type}(K:List Bool×List Slot->Option d):∀(l:List b) (i:Nat) (k:Kept),SmK k->
 goL (λ(i:Nat) _ (t:List Bool×List Slot) c=>bif zcx ⟨t.1,t.2⟩ (i:Int) then c ((zed ⟨t.1,t.2⟩ (i:Int)).Known,(zed ⟨t.1,t.2⟩ (i:Int)).Slots) else none) K l i (k.Known,k.Slots)=K ((ztV l.length i k).Known,(ztV l.length i k).Slots)
 |[],_,_,_=>rfl
 |x::l,i,k,h=>by have a:zcx ⟨k.Known,k.Slots⟩ (i:Int)=true:=zN h;simp only[goL,a,cT];exact zFX K l (i+1) (zd6 k (i:Int)) (znQ h)
def zmj:Run:=rF1 (dT .kept) λb=>(zdL b,[aT .kept<|zoe b])
def zzn (N:Nat)(b:Kept):OA:=
 (oN (zdL b)<|iter (σ:=(Int×Int×lB×lS×lB×lS×Unit)) N (λd a=>let c:=(⟨a.2.2.2.2.1,a.2.2.2.2.2.1⟩:Kept); (cond (ilt a.2.1 a.1) (oN (zcx c a.2.1)<|d (a.1,zG .i64 a.2.1 1,a.2.2.1,a.2.2.2.1,(zed c a.2.1).Known,(zed c a.2.1).Slots,()))<|some [aT .kept c])) (ln b.Known,0,[],[],(zcP b).Known,(zcP b).Slots,()))
def zMu:=zq [(247,0,{n:=18,tm:=[(2,.lp 0 0),(3,.lp 1 0),(9,ti),(10,ti)],lo:=[(0,[.sl 0 [],.sl 1 []]),(1,[.sl 2 [],.sl 3 []])],ro:=[(0,.bool,true),(1,.slot,true),(2,.bool,true),(3,.slot,true)]})]
theorem zLh (a:Kept)(f:zdL a=true):∃N,zzn N a=some [aT .kept<|zoe a]:=by
 have d:=zB.1 f;have e:=zbV d.1;refine zbG λN c=>?_;unfold zzn oN;conv=>zeta
 refine must (zN d) ?_;refine(zW a.Known (λi (t:lB×lS)=>(ln a.Known,(i:Int),[],[],t.1,t.2,())) _ (λi (x:Bool) (t:List Bool×List Slot) g=>bif zcx ⟨t.1,t.2⟩ (i:Int) then g ((zed ⟨t.1,t.2⟩ (i:Int)).Known,(zed ⟨t.1,t.2⟩ (i:Int)).Slots) else none) (λ(t:lB×lS)=>some [.agg<|Ty.cells .kept (⟨t.1,t.2⟩:Kept)]) (λi b t rec=>?_) (λt rec=>?_) _ ((zcP a).Known,(zcP a).Slots)<|c e.1).trans ?_;{simp only [zbf b,zO b,zX b,zV b e.1,cT]};{simp only [zbc,cF]};exact zFX _ a.Known 0 a d
theorem zDT:vF 247 zmj:=kF1 zBZ zl zbs zbC zMu zLh
def zzI (N:Nat)(c:Kept):OA:=
 (oN (zhu c)<|iter (σ:=(Int×lB×lS×lB×lS×Unit)) N (λd a=>let b:=(⟨a.2.1,a.2.2.1⟩:Kept); (cond (ilt a.1<|ln a.2.1) (oN (zcx b a.1)<|d (zG .i64 a.1 1,(zed b a.1).Known,(zed b a.1).Slots,a.2.2.2.1,a.2.2.2.2.1,()))<|some [aT .kept b])) (0,(zd4 c).Known,(zd4 c).Slots,[],[],()))
def zMG:=zq [(333,0,{n:=17,tm:=[(1,.lp 0 0),(2,.lp 1 0),(3,ti)],lo:=[(0,[.sl 0 [],.sl 1 []]),(1,[.sl 2 [],.sl 3 []])],ro:=[(0,.bool,true),(1,.slot,true),(2,.bool,true),(3,.slot,true)]})]
theorem zLA (a:Kept)(g:zdL a=true):∃N,zzI N a=some [aT .kept<|zoe a]:=by
 have d:=zB.1 g;have f:=zbV d.1;refine zbG λN c=>?_;unfold zzI oN;conv=>zeta
 refine must (zbp<|(zxh _).2 d) ?_;refine(zrb a.Known.length (λi (k:Kept)=>((i:Int),k.Known,k.Slots,[],[],())) _ (λi k=>SmK k/\k.Known.length=a.Known.length) (λi k=>some [AV.agg<|Ty.cells .kept<|ztV (a.Known.length-i) i k]) (λi k rec e b h=>?_) (λk rec b=>?_) N 0 a ⟨d,rfl⟩ (jX _)<|c f.1).trans rfl;{refine must (zbf (by rw[b.2];exact e)) (must (zN b.1) ?_);have q:=h (zd6 k (i:Int)) ⟨znQ b.1,by rw[zZc];exact b.2⟩;rw[show a.Known.length-i=a.Known.length-(i+1)+1 by omega];rw[zV e f.1];exact q};{refine zbA (by show ilt (a.Known.length:Int) (ln k.Known)=false;rw[ln,b.2];exact qI (by omega)) ?_;rw[kQ];rfl}
theorem zEc:vF 333 zmj:=kF1 zBZ zl zbs zbC zMG zLA
def z0P:zY:=[(333,zmj),(247,zmj)]++z0O
theorem zQq:zK z0P:=zf zEc (zf zDT zBZ)
def zYN:Nat->Nat->List Kept->List Kept
 | 0,_,l=>l
 |n+1,j,l=>zYN n (j+1) (up l (j:Int)<|zng<|ix l (j:Int) kZ)
def zDm (x:Mon)(n j:Nat):Mon:={x with Tables:=zYN n j x.Tables}
def zBP:Nat->Nat->List Mon->List Mon
 | 0,_,t=>t
 |n+1,i,t=>zBP n (i+1) (up t (i:Int)<|zDm (ix t (i:Int) mZ) (ix t (i:Int) mZ).Tables.length 0)
def cold (h:Host):Host:=⟨h.Memory,zBP h.Mons.length 0 h.Mons,[],[]⟩
theorem zMe:∀(n j:Nat) (l:List Kept),j+n<=l.length->zBI l->zBI (zYN n j l)
 | 0,_,_,_,h=>h
 |n+1,j,l,b,h=>by have a:j<l.length:=(by omega);refine zMe n (j+1) _ (by rw[zf4];omega) (zt4 h<|zse _ _ _ ?_);rw[zX a];exact h.2 _ (jA a)
theorem zzc {x:Mon}(h:zft x){n j:Nat}(a:j+n<=x.Tables.length):zft (zDm x n j):=⟨h.1,h.2.1,h.2.2.1,h.2.2.2.1,h.2.2.2.2.1,zMe n j _ a h.2.2.2.2.2⟩
@[simp] abbrev zx1 (h:Host):Host:=cold h
def ztI:Run:=rF1 dH λb=>(zL b,[aH<|zx1 b])
def zTh (N:Nat)(d:Host):OA:=
 (oN (zL d)<|iter (σ:=(Int×lM×lN×lE×lE×lM×lN×lE×lE×Unit)) N (λg b=>cond (ilt b.1<|ln b.2.2.1) (iter (σ:=(Int×Int×lM×lN×lE×lE×lM×lN×lE×lE×Unit)) N (λh a=>let e:=inb a.1<|ln a.2.2.2.1;let c:=ix a.2.2.2.1 a.1 zh;let f:=ix c.Tables a.2.1 zdC; (oN e<|cond (ilt a.2.1<|ln c.Tables) (oN e<|oN e<|oN (inb a.2.1<|ln c.Tables)<|oN (zdL f)<|oN (inb a.2.1<|ln c.Tables)<|share (up a.2.2.2.1 a.1 ({c with Tables:=(up c.Tables a.2.1<|zoe f)}:Mon)) λi=>h (a.1,zG .i64 a.2.1 1,a.2.2.1,i,a.2.2.2.2.1,a.2.2.2.2.2.1,a.2.2.2.2.2.2.1,a.2.2.2.2.2.2.2.1,a.2.2.2.2.2.2.2.2.1,a.2.2.2.2.2.2.2.2.2.1,()))<|g (zG .i64 a.1 1,a.2.2.1,a.2.2.2.1,a.2.2.2.2.1,a.2.2.2.2.2.1,a.2.2.2.2.2.2.1,a.2.2.2.2.2.2.2.1,a.2.2.2.2.2.2.2.2.1,a.2.2.2.2.2.2.2.2.2.1,()))) (b.1,0,b.2.1,b.2.2.1,b.2.2.2.1,b.2.2.2.2.1,b.2.2.2.2.2.1,b.2.2.2.2.2.2.1,b.2.2.2.2.2.2.2.1,b.2.2.2.2.2.2.2.2.1,()))<|some [aH (⟨b.2.1,b.2.2.1,[],[]⟩:Host)]) (0,(zi d).Memory,(zi d).Mons,(zi d).Buffer,(zi d).IoBuffer,[],[],[],[],()))
def z0i:=zq [(253,0,{n:=48,tm:=[(1,.lp 0 0),(2,.lp 1 0),(3,ti)],lo:=[(0,[.sl 0 [],.sl 1 [],.sl 2 [],.sl 3 []]),(1,[.sl 4 [],.sl 5 [],.sl 6 [],.sl 7 []])],ro:=[(0,.sl .int,true),(1,.mon,true),(2,.entry,true),(3,.entry,true),(4,.sl .int,true),(5,.mon,true),(6,.entry,true),(7,.entry,true)]}),(253,2,{n:=48,tm:=[(1,.lp 0 0),(2,.lp 1 0),(3,ti),(4,ti)],lo:=[(0,[.sl 0 [],.sl 1 [],.sl 2 [],.sl 3 []]),(1,[.sl 4 [],.sl 5 [],.sl 6 [],.sl 7 []])],ro:=[(0,.sl .int,true),(1,.mon,true),(2,.entry,true),(3,.entry,true),(4,.sl .int,true),(5,.mon,true),(6,.entry,true),(7,.entry,true)]})]
theorem zZs (a:Host)(m:zL a=true):∃N,zTh N a=some [aH<|zx1 a]:=by
 have v:=(zJ a).1 (zB.1 m);have s:=zbV v.2.1.1;refine zbG λN f=>?_;unfold zTh oN;conv=>zeta
 refine must m ?_;refine(zrb a.Mons.length (λi (t:List Mon)=>((i:Int),a.Memory,t,a.Buffer,a.IoBuffer,[],[],[],[],())) _ (λi t=>zpL t/\t.length=a.Mons.length) (λi t=>some [AV.agg<|zbb ⟨a.Memory,zBP (a.Mons.length-i) i t,[],[]⟩]) (λi t rec n e x=>?_) (λt rec e=>?_) N 0 a.Mons ⟨v.2.1,rfl⟩ (jX _)<|f s.1).trans rfl
 .have hit:i<t.length:=(by rw[e.2];exact n);have l:zft (ix t (i:Int) mZ):=by rw[zX hit];exact e.1.2 _ (jA hit)
  have r:=zbV l.2.2.2.2.2.1;refine must (zbf hit) ?_;refine(zrb (ix t (i:Int) mZ).Tables.length (λj (u:List Mon)=>((i:Int),(j:Int),a.Memory,u,a.Buffer,a.IoBuffer,[],[],[],[],()))
   _ (λj u=>u.length=t.length/\zft (ix u (i:Int) mZ)/\(ix u (i:Int) mZ).Tables.length=(ix t (i:Int) mZ).Tables.length)
   (λj u=>rec (((i+1:Nat):Int),a.Memory,up u (i:Int)<|zDm (ix u (i:Int) mZ) ((ix t (i:Int) mZ).Tables.length-j) j,a.Buffer,a.IoBuffer,[],[],[],[],()))
   (λj u h p c k=>?_) (λu h c=>?_) N 0 t ⟨rfl,l,rfl⟩ (jX _) (f r.1)).trans ?_
  .have b:i<u.length:=(by rw[c.1];exact hit);have d:j<(ix u (i:Int) mZ).Tables.length:=(by rw[c.2.2];exact p);have g:SmK (ix (ix u (i:Int) mZ).Tables (j:Int) kZ):=by rw[zX d];exact c.2.1.2.2.2.2.2.2 _ (jA d)
   refine must (zO b) (must (zbf d)<|must (zO b)<|must (zO b)<|must (zO d)<|must (zN g)<|must (zO d)<|shr ?_);have w:zft {ix u (i:Int) mZ with Tables:=up (ix u (i:Int) mZ).Tables (j:Int) (zng<|ix (ix u (i:Int) mZ).Tables (j:Int) kZ)} :=
    ⟨c.2.1.1,c.2.1.2.1,c.2.1.2.2.1,c.2.1.2.2.2.1,c.2.1.2.2.2.2.1,zt4 c.2.1.2.2.2.2.2<|zse _ _ _ g⟩
   have q:=k (up u (i:Int) {ix u (i:Int) mZ with Tables:=up (ix u (i:Int) mZ).Tables (j:Int) (zng<|ix (ix u (i:Int) mZ).Tables (j:Int) kZ)}) ⟨by rw[zf4];exact c.1,by rw[zdE b];exact w,by rw[zdE b];simp only[zf4];exact c.2.2⟩;rw[zV p r.1];refine q.trans ?_;rw[zdE b,zqV,show (ix t (i:Int) mZ).Tables.length-j=(ix t (i:Int) mZ).Tables.length-(j+1)+1 by omega];rfl
  {have b:i<u.length:=(by rw[c.1];exact hit);refine must (zO b) (zbA (by show ilt ((ix t (i:Int) mZ).Tables.length:Int) (ln (ix u (i:Int) mZ).Tables)=false;rw[ln,c.2.2];exact qI (by omega)) ?_);rw[zV n s.1,kQ];show rec (_,a.Memory,u,_)=rec (_,a.Memory,up u (i:Int)<|ix u (i:Int) mZ,_);rw[zDM b]};{have q:=x (up t (i:Int)<|zDm (ix t (i:Int) mZ) (ix t (i:Int) mZ).Tables.length 0) ⟨zj7 e.1<|zzc l (by omega),by rw[zf4];exact e.2⟩;refine q.trans ?_;rw[show a.Mons.length-i=a.Mons.length-(i+1)+1 by omega];rfl}
 {refine zbA (by show ilt (a.Mons.length:Int) (ln t)=false;rw[ln,e.2];exact qI (by omega)) ?_;rw[kQ];rfl}
theorem zT5:vF 253 ztI:=kF1 zQq zl zbs zbC z0i zZs
def z0Q:zY:=[(253,ztI)]++z0P
theorem zQr:zK z0Q:=zf zT5 zQq
end
end Go.Proofs.YtnnmbkjhakbicaaGreat.E
