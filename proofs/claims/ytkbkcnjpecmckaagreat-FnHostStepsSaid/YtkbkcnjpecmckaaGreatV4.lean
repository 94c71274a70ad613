/- What is proved here: a part of the proof that the statement of this claim holds (several texts of wip/, laid together). -/
import Derived.Test.YtkbkcnjpecmckaaGreatV3
namespace Go.Proofs.YtkbkcnjpecmckaaGreat.E
open Go
set_option linter.defProp false
set_option linter.constructorNameAsVariable false
set_option linter.unusedVariables false
set_option maxRecDepth 100000
set_option linter.unusedSimpArgs false
set_option linter.unusedSectionVars false
noncomputable section
def hE (h:Host):(⟨h.Memory,h.Mons,h.Buffer,h.IoBuffer⟩:Host)=h:=rfl
def idxs {a:Type}(p:a->Bool):List a->Nat->LI
 |[],_=>[]
 |x::l,i=>bif p x then (i:Int)::idxs p l (i+1) else idxs p l (i+1)
def zAZ {a:Type}(p:a->Bool):∀(l:List a) (i:Nat),(idxs p l i).length<=l.length
 |[],_=>qZ _
 |x::l,i=>by have:=zAZ p l (i+1);simp only[idxs];cases p x<;>simp<;>omega
def zvs {b c:Type}(p:b->Bool)(K:LI->Option c):∀(l:List b) (i:Nat) (a:LI),a.length+l.length<=2147483648->
 goL (λi x a k=>bif p x then (cond (few<|ln<|ap a [(i:Int)]) (k<|ap a [(i:Int)]) none) else k a) K l i a=K (a++idxs p l i)
 |[],i,a,_=>by simp[goL,idxs]
 |x::l,i,a,h=>by simp only[qV]at h;simp only[goL,idxs];cases p x;{simp only [cF];exact zvs p K l (i+1) a (by omega)};{simp only [cT];rw[zfP (by simp[ap];omega),cT,zvs p K l (i+1) _ (by simp[ap];omega)];simp[ap]}
def zyc (p:Nat->Bool):Nat->Nat->LI
 | 0,_=>[]
 |n+1,i=>bif p i then (i:Int)::zyc p n (i+1) else zyc p n (i+1)
def zAL {b:Type}(p:Nat->Bool)(K:LI->Option b):∀(n i:Nat) (a:LI),a.length+n<=2147483648->
 goN (λi a k=>bif p i then (cond (few<|ln<|ap a [(i:Int)]) (k<|ap a [(i:Int)]) none) else k a) K n i a=K (a++zyc p n i)
 | 0,i,a,_=>by simp[goN,zyc]
 |n+1,i,a,h=>by simp only[goN,zyc];cases p i;{simp only [cF];exact zAL p K n (i+1) a (by omega)};{simp only [cT];rw[zfP (by simp[ap];omega),cT,zAL p K n (i+1) _ (by simp[ap];omega)];simp[ap]}
abbrev zqL (l:List Slot)(_:Int):Bool:=pc (l.length<=2147483648)
abbrev zgT (l:List Slot)(p:Int):LI:=idxs (λ(s:Slot)=>ieq s.Page p) l 0
def zqp:Run:=rF2 (dS .slot) dI λb c=>(zqL b c,[aS .int<|zgT b c])
def zLz (N:Nat)(c:lS)(d:Int):OA:=
 (iter (σ:=(Int×Int×lS×LI×Unit)) N (λb a=>cond (ilt a.2.1<|ln a.2.2.1) (oN (inb a.2.1<|ln a.2.2.1)<|cond (ieq (ix a.2.2.1 a.2.1 zX).Page a.1) (oN (few<|ln<|ap a.2.2.2.1 [a.2.1])<|b (a.1,zM .i64 a.2.1 1,a.2.2.1,ap a.2.2.2.1 [a.2.1],()))<|b (a.1,zM .i64 a.2.1 1,a.2.2.1,a.2.2.2.1,()))<|some [aS .int a.2.2.2.1]) (d,0,c,[],()))
def zYx:=zq [(351,0,{n:=26,tm:=[(0,.sl 0 []),(1,ti),(5,.sl 1 []),(6,ti)],lo:=[],ro:=[(0,.slot,false),(1,.int,true)]})]
def zWW (b:List Slot)(a:Int)(g:zbL big [aS .slot b,aI a])(h:zqL b a=true):∃N,zLz N b a=some [aS .int<|zgT b a]:=by have e:=len0 g;have j:=zO.1 h;refine zcg λN d=>?_;unfold zLz oN;refine(zbj b (λi (t:LI)=>(a,(i:Int),b,t,())) _ (λi (x:Slot) (t:LI) f=>bif ieq x.Page a then (cond (few<|ln<|ap t [(i:Int)]) (f<|ap t [(i:Int)]) none) else f t) (λ(t:LI)=>some [.one<|.s .int t]) (λi c t rec=>?_) (λt rec=>?_) _ ([])<|d e).trans ?_;{simp only [zbr c,zZ c,zbk c,zba c e,cT]};{simp only [zbl,cF]};exact zvs (λ(s:Slot)=>ieq s.Page a) _ _ 0 [] (by simpa using j)
def zPQ:vM 351 zqp:=hF2 zOQ zU zo zn zYx zWW
def zK7 (N:Nat)(d:lS)(f:Int):OA:=
 (iter (σ:=(Int×Int×Int×LI×lS×Unit)) N (λe a=>let c:=a.2.2.2.2.1;let b:=a.2.2.1; (cond (ilt b a.2.1) (oN (inb b<|ln c)<|cond (ieq (ix c b zX).Page a.1) (oN (few<|ln<|ap a.2.2.2.1 [b])<|e (a.1,a.2.1,zM .i64 b 1,ap a.2.2.2.1 [b],c,()))<|e (a.1,a.2.1,zM .i64 b 1,a.2.2.2.1,c,()))<|some [aS .int a.2.2.2.1])) (f,ln d,0,[],d,()))
def zYl:=zq [(347,0,{n:=26,tm:=[(1,ti),(5,.sl 0 []),(9,.sl 1 []),(10,ti),(11,ti)],lo:=[],ro:=[(0,.int,true),(1,.slot,false)]})]
def zWz (a:List Slot)(b:Int)(g:zbL big [aS .slot a,aI b])(h:zqL a b=true):∃N,zK7 N a b=some [aS .int<|zgT a b]:=by
 have e:=len0 g;have j:=zO.1 h;refine zcg λN d=>?_;unfold zK7 oN;conv=>zeta
 refine(zbj a (λi (t:LI)=>(b,ln a,(i:Int),t,a,())) _ (λi (x:Slot) (t:LI) f=>bif ieq x.Page b then (cond (few<|ln<|ap t [(i:Int)]) (f<|ap t [(i:Int)]) none) else f t) (λ(t:LI)=>some [.one<|.s .int t]) (λi c t rec=>?_) (λt rec=>?_) _ ([])<|d e).trans ?_;{simp only [zbr c,zZ c,zbk c,zba c e,cT]};{simp only [zbl,cF]};exact zvs (λ(s:Slot)=>ieq s.Page b) _ _ 0 [] (by simpa using j)
def zPq:vM 347 zqp:=hF2 zOQ zU zo zn zYl zWz
def z9J:zY:=[(351,zqp),(347,zqp)]++ctrW
def z7t:zS z9J:=zh zPQ (zh zPq zOQ)
def z9K:zY:=z9J
def z7u:zS z9K:=z7t
def z9L:zY:=z9K
def zVw:zS z9L:=z7u
def zm3 (x y:Int):ine x y = !ieq x y:=rfl
def zee (l:LI):Bool:=pc (l.length<=2147483648)
abbrev zec (l:LI):LI:=l
def zzG:Run:=rF1 (dS .int) λb=>(zee b,[aS .int<|zec b])
def zDa (N:Nat)(a:LI):OA:=
 (oN (few<|ln<|ap [] a)<|some [aS .int<|ap [] a])
def zQm (a:LI)(b:zee a=true):∃N,zDa N a=some [aS .int<|zec a]:=by refine⟨0,?_⟩;unfold zDa oN;rw[znP,zfP<|zO.1 b,cT]
def zJm:vM 198 zzG:=kF1 zVw zU zo zn (zq []) zQm
def z9M:zY:=[(198,zzG)]++z9L
def zIT:zS z9M:=zh zJm zVw
def zBw:LI:=rp 4 0
def zcN (m:List LI)(p:Int):LI:=bif hasB p (ln m) then ix m p [] else zBw
def zfg (m:List LI)(_:Int):Bool:=pc (CVB sm<|.s (.sl .int) m)
def zgS (m:List LI)(p:Int):LI:=zcN m p
def z6c {m:List LI}{p:Int}(b:CVB sm (.s (.sl .int) m))(a:hasB p (ln m)=true):(ix m p []).length<=2147483648 :=
 (zcJ (b.inv.2 _ (zbK a ([]:LI)) (.s .int _) (qF.2 rfl)).len).2
def zqi:Run:=rF2 (dS<|.sl .int) dI λb c=>(zfg b c,[aS .int<|zgS b c])
def zLm (N:Nat)(a:lM)(b:Int):OA:=
 (oN (zL b 0<|wsub .i64 (ln a) 1)<|cond (nB<|zk b 0<|wsub .i64 (ln a) 1) (oN (cond (few 4) (ieq 4 4) false)<|some [aS .int<|rp 4 0])<|oN (inb b<|ln a)<|oN (few<|ln<|ap []<|ix a b [])<|some [aS .int<|ap []<|ix a b []])
def zWL (b:List LI)(a:Int)(f:zfg b a=true):∃N,zLm N b a=some [aS .int<|zgS b a]:=by have d:=zO.1 f;refine⟨0,?_⟩;unfold zLm zgS zcN oN nB;have e:zk a 0 (wsub .i64 (ln b) 1)=hasB a (ln b):=zpQ (zcJ d.len).1 a;rw[e];cases c:hasB a (ln b);{rfl};{simp only [zL,cT,cF,zB c,znP,zfP<|z6c d c]}
def zPE:vM 176 zqi:=kF2 zIT zU zo zn (zq []) zWL
def zKX (N:Nat)(a:lM)(b:Int):OA:=
 (oN (zby b<|ln a)<|cond (nB<|zdk b<|ln a) (oN (cond (few 4) (ieq 4 4) false)<|some [aS .int<|rp 4 0])<|oN (inb b<|ln a)<|oN (zee<|ix a b [])<|some [aS .int<|zec<|ix a b []])
def zWq (a:List LI)(b:Int)(d:zfg a b=true):∃N,zKX N a b=some [aS .int<|zgS a b]:=by have e:=zO.1 d;refine⟨0,?_⟩;unfold zKX zgS zcN zdk oN nB;cases c:hasB b (ln a);{rfl};{simp only [zby,cT,cF,zB c,show zee (ix a b [])=true from zbd (z6c e c),zec]}
def zPf:vM 174 zqi:=kF2 zIT zU zo zn (zq []) zWq
def z9N:zY:=[(176,zqi),(174,zqi)]++z9M
def zIU:zS z9N:=zh zPE (zh zPf zIT)
def zcH (h:Host)(m p:Int):LI :=
 bif hasB m (ln h.Mons) then (cond (hasB p 8) (cond (ine (zbE (ix h.Mons m zi).Outer p).Page<|-1) (zcN h.Memory (zbE (ix h.Mons m zi).Outer p).Page)<|zcN (ix h.Mons m zi).Out p) zBw) else zBw
def has8 (p:Int):zk p 0 7=hasB p 8:=by unfold zk ige ile hasB;by_cases a:0<=p<;>by_cases b:p<8;{rw [qI (p:=p≥0) (by omega),qI (p:=p<=7) (by omega),qI (p:=0<=p/\p<8) ⟨a,b⟩];rfl};{rw [qJ (p:=p<=7) (by omega),qJ (p:=0<=p/\p<8) (by omega)];simp};{rw [qJ (p:=p≥0) (by omega),qJ (p:=0<=p/\p<8) (by omega)];simp};{rw [qJ (p:=p≥0) (by omega),qJ (p:=0<=p/\p<8) (by omega)];simp}
def zqH (h:Host)(_ _:Int):Bool:=pc (zdm h)
def zoZ (h:Host)(m p:Int):LI:=zcH h m p
def zkm:Run:=rF3 dH dI dI λb c d=>(zqH b c d,[aS .int<|zoZ b c d])
def zLo (N:Nat)(a:Host)(c b:Int):OA:=
 let d:=ix a.Mons c zi;let e:=(zer d.Outer b).Page; (oN (zL c 0<|wsub .i64 (ln a.Mons) 1)<|cond (nB<|zk c 0<|wsub .i64 (ln a.Mons) 1) (oN (cond (few 4) (ieq 4 4) false)<|some [aS .int<|rp 4 0])<|oN (zL b 0 7)<|cond (nB<|zk b 0 7) (oN (cond (few 4) (ieq 4 4) false)<|some [aS .int<|rp 4 0])<|oN (inb c<|ln a.Mons)<|oN (zfh d.Outer b)<|cond (ine e<|-1) (oN (zfg a.Memory e)<|some [aS .int<|zgS a.Memory e])<|oN (zfg d.Out b)<|some [aS .int<|zgS d.Out b])
def zWN (a:Host)(b c:Int)(g:zqH a b c=true):∃N,zLo N a b c=some [aS .int<|zoZ a b c]:=by
 have d:=zO.1 g;refine⟨0,?_⟩;unfold zLo zoZ zcH oN nB;conv=>zeta
 have e:zk b 0 (wsub .i64 (ln a.Mons) 1)=hasB b (ln a.Mons):=zpQ (zcJ d.mons.len).1 b;rw[e,has8];cases f:hasB b (ln a.Mons);{rfl};{cases i:hasB c 8;{rfl};{have h:CVB sm (.s (.sl .int) (ix a.Mons b zi).Out):=d.mons.inv.2 _ (zbK f zi) (.s (.sl .int) _) (by simp[Ty.cells]);simp only[zL,cT,cF,zB f,zfh,zer,show ∀p,zfg a.Memory p=true from λp=>zbd d.mem,show ∀p,zfg (ix a.Mons b zi).Out p=true from λp=>zbd h,zgS];cases ine (zbE (ix a.Mons b zi).Outer c).Page (-1)<;>rfl}}
def zrz:vM 65 zkm:=kF3 zIU zU zo zn (zq []) zWN
def zKY (N:Nat)(a:Host)(c b:Int):OA:=
 let d:=ix a.Mons c zi;let e:=(zer d.Outer b).Page; (oN (zby c<|ln a.Mons)<|cond (nB<|zdk c<|ln a.Mons) (oN (cond (few 4) (ieq 4 4) false)<|some [aS .int<|rp 4 0])<|oN (zby b 8)<|cond (nB<|zdk b 8) (oN (cond (few 4) (ieq 4 4) false)<|some [aS .int<|rp 4 0])<|oN (inb c<|ln a.Mons)<|oN (zfh d.Outer b)<|cond (ine e<|-1) (oN (zfg a.Memory e)<|some [aS .int<|zgS a.Memory e])<|oN (zfg d.Out b)<|some [aS .int<|zgS d.Out b])
def zWr (a:Host)(b c:Int)(f:zqH a b c=true):∃N,zKY N a b c=some [aS .int<|zoZ a b c]:=by
 have e:=zO.1 f;refine⟨0,?_⟩;unfold zKY zoZ zcH zdk oN nB;conv=>zeta
 cases d:hasB b (ln a.Mons);{rfl};{cases h:hasB c 8;{rfl};{have g:CVB sm (.s (.sl .int) (ix a.Mons b zi).Out):=e.mons.inv.2 _ (zbK d zi) (.s (.sl .int) _) (by simp[Ty.cells]);simp only[zby,cT,cF,zB d,zfh,zer,show ∀p,zfg a.Memory p=true from λp=>zbd e.mem,show ∀p,zfg (ix a.Mons b zi).Out p=true from λp=>zbd g,zgS];cases ine (zbE (ix a.Mons b zi).Outer c).Page (-1)<;>rfl}}
def zPg:vM 64 zkm:=kF3 zIU zU zo zn (zq []) zWr
def z9O:zY:=[(65,zkm),(64,zkm)]++z9N
def z7v:zS z9O:=zh zrz (zh zPg zIU)
def z9P:zY:=z9O
def z7w:zS z9P:=z7v
def ctrV:zY:=z9P
def zbbB:∀f a,zy ctrV f=some a->Holds Tryz.prog f a:=z7w
def ctrU:zY:=ctrV
def zdC:zS ctrU:=zbbB
def zpX:zhS:=z8n
def zA:zge zpX:=zU
def canRun (g:Guest):Bool:=bif (ieq g.Exit.Kind 0&&(ieq g.Exit.Page 0&&(zj0 g.Exit.Write false&&ieq g.Exit.N 0))) then !g.Halted else false
def zkZ (_:Guest):Bool:=true
abbrev zjC (g:Guest):Bool:=canRun g
def ziK:Run:=rF1 (dT .guest) λb=>(zkZ b,[aB<|zjC b])
def zLb (N:Nat)(a:Guest):OA:=
 (cond (cond (ieq a.Exit.Kind 0) (cond (ieq a.Exit.Page 0) (cond (zj0 a.Exit.Write false) (ieq a.Exit.N 0) false) false) false) (some [aB<|nB a.Halted]) oF)
def zEC (a:Guest)(b:zbL big [aT .guest a])(c:zkZ a=true):∃N,zLb N a=some [aB<|zjC a]:=by refine⟨0,?_⟩;unfold zLb zjC canRun nB;cases ieq a.Exit.Kind 0<;>cases ieq a.Exit.Page 0<;>cases zj0 a.Exit.Write false<;>cases ieq a.Exit.N 0<;>simp
def zry:vM 250 ziK:=hF1 zrr zU zo zn (zq []) zEC
def zy8:vM 229 ziK:=hF1 zrr zU zo zn (zq []) zEC
def z9C:zY:=[(250,ziK),(229,ziK)]++z7K
def zVu:zS z9C:=zh zry (zh zy8 zrr)
def zxl:List Guest->Nat->LI
 |[],_=>[]
 |g::l,i=>bif canRun g then (i:Int)::zxl l (i+1) else zxl l (i+1)
def zFV {b:Type}(K:LI->Option b):∀(l:List Guest) (i:Nat) (a:LI),a.length+l.length<=2147483648->
 goL (λi g a k=>bif canRun g then (cond (few<|ln<|ap a [(i:Int)]) (k<|ap a [(i:Int)]) none) else k a) K l i a=K (a++zxl l i)
 |[],i,a,_=>by simp[goL,zxl]
 |g::l,i,a,h=>by simp only[qV]at h;simp only[goL,zxl];cases canRun g;{simp only [cF];exact zFV K l (i+1) a (by omega)};{simp only [cT];rw[zfP (by simp[ap];omega),cT,zFV K l (i+1) _ (by simp[ap];omega)];simp[ap]}
def zmc (l:List Guest):Bool:=pc (l.length<=sm)
def zkQ (l:List Guest):LI:=zxl l 0
def zzJ:Run:=rF1 (dS .guest) λb=>(zmc b,[aS .int<|zkQ b])
def zDe (N:Nat)(b:lG):OA:=
 (iter (σ:=(Int×Int×LI×lG×Unit)) N (λc a=>let d:=ix a.2.2.2.1 a.2.1 zu; (cond (ilt a.2.1 a.1) (oN (inb a.2.1<|ln a.2.2.2.1)<|oN (zkZ d)<|cond (zjC d) (oN (few<|ln<|ap a.2.2.1 [a.2.1])<|c (a.1,zM .i64 a.2.1 1,ap a.2.2.1 [a.2.1],a.2.2.2.1,()))<|c (a.1,zM .i64 a.2.1 1,a.2.2.1,a.2.2.2.1,()))<|some [aS .int a.2.2.1])) (ln b,0,[],b,()))
def zRe:=zq [(150,0,{n:=22,tm:=[(3,.sl 0 []),(7,.sl 1 []),(8,ti),(9,ti)],lo:=[],ro:=[(0,.int,true),(1,.guest,false)]})]
def zQp (b:List Guest)(e:zmc b=true):∃N,zDe N b=some [aS .int<|zkQ b]:=by
 have d:=zcJ (zO.1 e);refine⟨NN,?_⟩;unfold zDe oN;conv=>zeta
 refine(zbj b (λi a=>(ln b,(i:Int),a,b,())) _ (λi g a k=>bif canRun g then (cond (few<|ln<|ap a [(i:Int)]) (k<|ap a [(i:Int)]) none) else k a) (λa=>some [AV.one<|.s .int a])
  (λi c t rec=>?_) (λt rec=>?_) _ [] (z1s d.1)).trans (zFV _ b 0 [] (by simpa using d.2))
 {simp only [zbr c,zZ c,zbk c,zkZ,zjC,cT,zba c d.1]};{simp only [zbl,cF]}
def zJp:vM 150 zzJ:=kF1 zVu zU zo zn zRe zQp
def zbdN:zY:=[(150,zzJ)]++z9C
def z7r:zS zbdN:=zh zJp zVu
def zj7 (h:Host):Bool:=pc (zdm h)
def ziC (h:Host):List LI:=h.Mons.map λm=>zxl m.Guests 0
def zkW:Run:=rF1 dH λb=>(zj7 b,[aS (.sl .int)<|ziC b])
def zyG (N:Nat)(c:Host):OA:=
 (iter (σ:=(Int×Int×lM×lN×Unit)) N (λd a=>let b:=(ix a.2.2.2.1 a.2.1 zi).Guests; (cond (ilt a.2.1 a.1) (oN (inb a.2.1<|ln a.2.2.2.1)<|oN (zmc b)<|oN (few<|ln<|ap a.2.2.1 [zkQ b])<|d (a.1,zM .i64 a.2.1 1,ap a.2.2.1 [zkQ b],a.2.2.2.1,()))<|some [aS (.sl .int) a.2.2.1])) (ln c.Mons,0,[],c.Mons,()))
def zKE:=zq [(49,0,{n:=22,tm:=[(3,.sl 0 []),(8,.sl 1 []),(9,ti),(10,ti)],lo:=[],ro:=[(0,.sl .int,true),(1,.mon,false)]})]
def zJW (b:Host)(e:zj7 b=true):∃N,zyG N b=some [aS (.sl .int)<|ziC b]:=by
 have h:=(zO.1 e).mons;have d:=zcJ h.len;refine⟨NN,?_⟩;unfold zyG oN;conv=>zeta
 refine(zbj b.Mons (λi a=>(ln b.Mons,(i:Int),a,b.Mons,())) _ (λi x a k=>bif zmc x.Guests then (cond (few<|ln<|ap a [zkQ x.Guests]) (k<|ap a [zkQ x.Guests]) none) else none) (λa=>some [AV.one<|.s (.sl .int) a])
  (λi c t rec=>?_) (λt rec=>?_) _ [] (z1s d.1)).trans (zOL (λx=>zmc x.Guests) (λx=>zkQ x.Guests) _ b.Mons 0 [] (λx f=>zbd (h.inv.2 x f (.s .guest x.Guests) (by simp[Ty.cells])).len) (by simpa using d.2))
 {simp only [zbr c,zZ c,zbk c,cT,zba c d.1]};{simp only [zbl,cF]}
def zEf:vM 49 zkW:=kF1 z7r zU zo zn zKE zJW
def must {d:Type}{c:Bool}{a b r:Option d}(h:c=true)(k:a=r):(cond c a b)=r:=by rw[h];exact k
def mu {d:Type}{c:Bool}{a b r:Option d}(k:a=r)(h:c=true:=by first|assumption|(simp_all<;>omega)):(cond c a b)=r:=must h k
def zda {d:Type}{c:Bool}{a b r:Option d}(h:c=false)(k:b=r):(cond c a b)=r:=by rw[h];exact k
def br {f:Type}{c:Bool}{a b r:Option f}(d:c=true->a=r)(e:c=false->b=r):(cond c a b)=r:=by cases c;{exact e rfl};{exact d rfl}
def brN {f:Type}{c:Bool}{a b r:Option f}(d:c=false->a=r)(e:c=true->b=r):(cond (cond c false true) a b)=r:=by cases c;{exact d rfl};{exact e rfl}
def shr {a b:Type}{x:a}{f:a->Option b}{r:Option b}(h:f x=r):share x f=r:=h
def zjy {e:Type}{c p:Bool}{a b:Option e}(d:c=true):(cond c (cond (cond p false true) a b) none)=bif p then b else a:=by rw[d];cases p<;>rfl
attribute [simp] zO
@[simp] def zbbM {a:Type}(l:List a):(few (ln l)=true)↔l.length<=2147483648:=by unfold few ln;rw[decide_eq_true_iff];omega
@[simp] def zbeE {a:Type}(l m:List a):(ap l m).length=l.length+m.length:=by simp[ap]
attribute [simp] znP zhR
@[simp] def zbap (n:Nat)(k:IntKind)(x:Int):CVB n (.i k x)↔True:=⟨λ_=>trivial,λ_=>.i k x⟩
@[simp] def zbeI (n:Nat)(x:Bool):CVB n (.b x)↔True:=⟨λ_=>trivial,λ_=>.b x⟩
def zmX {n:Nat}{t:Ty}(l:List t.den):CVB n (.s t l)↔l.length<=n/\∀x∈l,∀c∈t.cells x,CVB n c:=⟨λh=>h.inv,λh=>.s t l h.1 h.2⟩
@[simp] def z0s (n:Nat)(l:LI):CVB n (.s .int l)↔l.length<=n:=by rw[zmX];simp[Ty.cells]
@[simp] def zbc3 (n:Nat)(l:LI):CVB n (.s .u8 l)↔l.length<=n:=by rw[zmX];simp[Ty.cells]
@[simp] def z7L (n:Nat)(l:List Bool):CVB n (.s .bool l)↔l.length<=n:=by rw[zmX];simp[Ty.cells]
@[simp] def z7N (n:Nat)(l:List Slot):CVB n (.s .slot l)↔l.length<=n:=by rw[zmX];simp[Ty.cells]
@[simp] def zbbD (n:Nat)(l:List Ins):CVB n (.s .ins l)↔l.length<=n:=by rw[zmX];simp[Ty.cells]
@[simp] def z4L (n:Nat)(l:List Entry):CVB n (.s .entry l)↔l.length<=n:=by rw[zmX];simp[Ty.cells]
@[simp] def zbbC (n:Nat)(l:List GAct):CVB n (.s .act l)↔l.length<=n:=by rw[zmX];simp[Ty.cells]
@[simp] def z7O (n:Nat)(l:List Told):CVB n (.s .told l)↔l.length<=n:=by rw[zmX];simp[Ty.cells]
def SmM (m:List LI):Prop:=m.length<=1048576/\∀x∈m,x.length<=1048576
def SmG (g:Guest):Prop:=g.Prog.length<=1048576/\g.Written.length<=1048576/\g.Live.length<=1048576/\g.Seen.length<=1048576
def zl0 (l:List Guest):Prop:=l.length<=1048576/\∀x∈l,SmG x
def SmB (b:Bare):Prop:=SmM b.Memory/\zl0 b.Guests/\b.Outs.length<=1048576
def z1t (l:List Bare):Prop:=l.length<=1048576/\∀x∈l,SmB x
def z8X:sm=1048576:=rfl
@[simp] def z1U (l:LI):CVB sm (.s .int l)↔l.length<=1048576:=z0s sm l
@[simp] def zbeh (l:LI):CVB sm (.s .u8 l)↔l.length<=1048576:=zbc3 sm l
@[simp] def zYV (l:List Bool):CVB sm (.s .bool l)↔l.length<=1048576:=z7L sm l
@[simp] def zYW (l:List Slot):CVB sm (.s .slot l)↔l.length<=1048576:=z7N sm l
@[simp] def zbdT (l:List Ins):CVB sm (.s .ins l)↔l.length<=1048576:=zbbD sm l
@[simp] def zVG (l:List Entry):CVB sm (.s .entry l)↔l.length<=1048576:=z4L sm l
@[simp] def zbdS (l:List GAct):CVB sm (.s .act l)↔l.length<=1048576:=zbbC sm l
@[simp] def zbdH (l:List Told):CVB sm (.s .told l)↔l.length<=1048576:=z7O sm l
@[simp] def zrt (l:List LI):CVB sm (.s (.sl .int) l)↔SmM l:=by rw[zmX];simp[Ty.cells,SmM,z8X]
@[simp] def zbbh (g:Guest):(∀c∈Ty.cells .guest g,CVB sm c)↔SmG g:=by simp[Ty.cells,SmG,z8X]
@[simp] def zwN (l:List Guest):CVB sm (.s .guest l)↔zl0 l:=by rw[zmX];simp only[zbbh];rfl
@[simp] def zbbg (b:Bare):(∀c∈Ty.cells .bare b,CVB sm c)↔SmB b:=by simp only[Ty.cells,qG,qO,or_false,vI,forall_eq,zrt,zwN,z0s,zbap,and_true];rfl
@[simp] def zbek (l:List Bare):CVB sm (.s .bare l)↔z1t l:=by rw[zmX];simp only[zbbg];rfl
@[simp] def zbeH (a:List Ins)(b c:Int)(d e:List Slot)(f:Ctl)(g:Int)(h:GExit)(i:Bool)(j:LI):SmG ⟨a,b,c,d,e,f,g,h,i,j⟩↔a.length<=1048576/\d.length<=1048576/\e.length<=1048576/\j.length<=1048576:=Iff.rfl
@[simp] def zbeG (m:List LI)(g:List Guest)(o:LI)(p:Int):SmB ⟨m,g,o,p⟩↔SmM m/\zl0 g/\o.length<=1048576:=Iff.rfl
def zOe {m:List LI}{i:Int}{x:LI}(h:SmM m)(b:x.length<=1048576):SmM (up m i x):=by refine⟨by simpa using h.1,λy a=>?_⟩;rcases qX a with a|rfl;{exact h.2 y a};{exact b}
def zF6 {m:List Guest}{i:Int}{x:Guest}(h:zl0 m)(b:SmG x):zl0 (up m i x):=by refine⟨by simpa using h.1,λy a=>?_⟩;rcases qX a with a|rfl;{exact h.2 y a};{exact b}
def zbcq {m:List Bare}{i:Int}{x:Bare}(h:z1t m)(b:SmB x):z1t (up m i x):=by refine⟨by simpa using h.1,λy a=>?_⟩;rcases qX a with a|rfl;{exact h.2 y a};{exact b}
def zOb {l:List Guest}{i:Int}(h:zl0 l)(a:hasB i (ln l)=true)(d:Guest):SmG (ix l i d):=h.2 _ (zbK a d)
def zbdz {l:List LI}{i:Int}(h:SmM l)(a:hasB i (ln l)=true)(d:LI):(ix l i d).length<=1048576:=h.2 _ (zbK a d)
@[simp] def zbea:SmG zu:=⟨by decide,by decide,by decide,by decide⟩
@[simp] def zUZ (x a b:Int):zk x a b=zk x a b:=rfl
@[simp] def zWc (i n:Int):inb i n=hasB i n:=rfl
attribute [simp] zdk
@[simp] def zr3 {a:Type}{l:List a}(h:l.length<=1048576)(i:Int):zk i 0 (wsub .i64 (ln l) 1)=hasB i (ln l):=zEz (zcJ h).1 i
def zKP {a:Type}{l:List a}(h:l.length<=big)(i:Int):zk i 0 (wsub .i64 (ln l) 1)=hasB i (ln l):=zEz h i
def zfL {x a b:Int}:(zk x a b=true)↔a<=x/\x<=b:=by unfold zk ige ile;simp only[qE,decide_eq_true_iff]
def zbbT (a b:Int):ilt a b = !ige a b:=by unfold ilt ige;by_cases h:a<b;{rw [qI h,qJ (by omega)];rfl};{rw [qJ h,qI (by omega)];rfl}
attribute [simp] zbc zbc zg7 zg7 zhn zhn zcZ zcZ zer zer zjC zjC zbI zbI
attribute [simp] zfq zdg zhc zec
attribute [simp] zg9 zdH zgG zee
def zbo (a:Int):Int:=bif ilt a 0 then -1 else zRz .i64 a 4
def zdJ (a:Int):Int:=bif ilt a 0 then -1 else zo9 a 4
@[simp] abbrev zbz (a:Int):Bool:=true
@[simp] abbrev zb0 (a:Int):Int:=zbo a
def znf:Run:=rF1 dI λb=>(zbz b,[aI<|zb0 b])
def zDm (N:Nat)(a:Int):OA:=
 (cond (ilt a 0) (some [aI<|-1])<|oN (ine 4 0)<|some [aI<|zRz .i64 a 4])
def zzj (a:Int)(b:zbL big [aI a])(c:zbz a=true):∃N,zDm N a=some [aI<|zb0 a]:=by refine⟨0,?_⟩;unfold zDm oN;refine br (λ_=>?_) (λ_=>must rfl ?_);all_goals first|rfl|(simp only [*,zb0,zbo,cT,cF]<;>rfl)|simp_all[Ty.cells,zb0,zbo]
def zJw:vM 160 znf:=hF1 zdC zA zo zn (zq []) zzj
def zJd:vM 131 znf:=hF1 zdC zA zo zn (zq []) zzj
@[simp] abbrev zdc (a:Int):Int:=zdJ a
def zne:Run:=rF1 dI λb=>(zbz b,[aI<|zdc b])
def zDl (N:Nat)(a:Int):OA:=
 (cond (ilt a 0) (some [aI<|-1])<|oN (ine 4 0)<|some [aI<|zo9 a 4])
def zzi (a:Int)(b:zbL big [aI a])(c:zbz a=true):∃N,zDl N a=some [aI<|zdc a]:=by refine⟨0,?_⟩;unfold zDl oN;refine br (λ_=>?_) (λ_=>must rfl ?_);all_goals first|rfl|(simp only [*,zdc,zdJ,cT,cF]<;>rfl)|simp_all[Ty.cells,zdc,zdJ]
def zJv:vM 165 zne:=hF1 zdC zA zo zn (zq []) zzi
def zJc:vM 136 zne:=hF1 zdC zA zo zn (zq []) zzi
def zcc (w:Bool):Int:=bif w then 2 else 1
@[simp] abbrev zhX (w:Bool):Bool:=true
@[simp] abbrev zcF (w:Bool):Int:=zcc w
def zqh:Run:=rF1 dB λb=>(zhX b,[aI<|zcF b])
def zLl (N:Nat)(a:Bool):OA:=
 (cond a (some [aI 2])<|some [aI 1])
def zEI (a:Bool)(b:zbL big [aB a])(c:zhX a=true):∃N,zLl N a=some [aI<|zcF a]:=by refine⟨0,?_⟩;unfold zLl;refine br (λ_=>?_) (λ_=>?_);all_goals first|rfl|(simp only [*,zcF,zcc,cT,cF]<;>rfl)|simp_all[Ty.cells,zcF,zcc]
def zPD:vM 161 zqh:=hF1 zdC zA zo zn (zq []) zEI
def zPd:vM 132 zqh:=hF1 zdC zA zo zn (zq []) zEI
def zs8 (p:Int)(w:Bool):GExit:=⟨1,p,w,0⟩
def zvj (n:Int):GExit:=⟨2,0,false,n⟩
def zzs (n:Int):GExit:=⟨3,0,false,n⟩
@[simp] abbrev zfa (p:Int)(w:Bool):Bool:=true
@[simp] abbrev zdF (p:Int)(w:Bool):GExit:=zs8 p w
def zjn:Run:=rF2 dI dB λb c=>(zfa b c,[.agg<|zgI<|zdF b c])
def zBN (N:Nat)(a:Int)(c:Bool):OA:=
 (some [.agg [.i .i64 1,.i .i64 a,.b c,.i .i64 0]])
def zw8 (a:Int)(b:Bool)(c:zbL big [aI a,aB b])(d:zfa a b=true):∃N,zBN N a b=some [.agg<|zgI<|zdF a b]:=by refine⟨0,?_⟩;unfold zBN;first|rfl|(simp only [*,zdF,cT,cF]<;>rfl)|simp_all[Ty.cells,zdF]
def zuf:vM 163 zjn:=hF2 zdC zA zo zn (zq []) zw8
def zGb:vM 134 zjn:=hF2 zdC zA zo zn (zq []) zw8
@[simp] abbrev ze1 (n:Int):Bool:=true
@[simp] abbrev zeN (n:Int):GExit:=zvj n
def zkk:Run:=rF1 dI λb=>(ze1 b,[.agg<|zgI<|zeN b])
def zDq (N:Nat)(a:Int):OA:=
 (some [.agg [.i .i64 2,.i .i64 0,.b false,.i .i64 a]])
def zzk (a:Int)(b:zbL big [aI a])(c:ze1 a=true):∃N,zDq N a=some [.agg<|zgI<|zeN a]:=by refine⟨0,?_⟩;unfold zDq;first|rfl|(simp only [*,zeN,cT,cF]<;>rfl)|simp_all[Ty.cells,zeN]
def zvA:vM 264 zkk:=hF1 zdC zA zo zn (zq []) zzk
def zJf:vM 247 zkk:=hF1 zdC zA zo zn (zq []) zzk
@[simp] abbrev zfV (n:Int):GExit:=zzs n
def zlm:Run:=rF1 dI λb=>(ze1 b,[.agg<|zgI<|zfV b])
def zHw (N:Nat)(a:Int):OA:=
 (some [.agg [.i .i64 3,.i .i64 0,.b false,.i .i64 a]])
def zB2 (a:Int)(b:zbL big [aI a])(c:ze1 a=true):∃N,zHw N a=some [.agg<|zgI<|zfV a]:=by refine⟨0,?_⟩;unfold zHw;first|rfl|(simp only [*,zfV,cT,cF]<;>rfl)|simp_all[Ty.cells,zfV]
def zw4:vM 266 zlm:=hF1 zdC zA zo zn (zq []) zB2
def zMj:vM 312 zlm:=hF1 zdC zA zo zn (zq []) zB2
def zd5 (t x:Int):Bool:=bif zk t 0 3 then (cond (zk x 1 2) (ine (wand .i64 t x) 0) false) else false
def zba6 (x:Int):zk x 1 2=(ieq x 1||ieq x 2):=by have h:(zk x 1 2=true)↔(ieq x 1||ieq x 2)=true:=(by rw[zfL];simp only[ieq,kB,qL];omega);cases a:zk x 1 2<;>cases b:(ieq x 1||ieq x 2)<;>simp_all
@[simp] abbrev zf6 (t x:Int):Bool:=true
@[simp] abbrev zfp (t x:Int):Bool:=zd5 t x
def zos:Run:=rF2 dI dI λb c=>(zf6 b c,[aB<|zfp b c])
def zHo (N:Nat)(a b:Int):OA:=
 (oN (zL a 0 3)<|cond (zk a 0 3) (oN (zL b 1 2)<|cond (zk b 1 2) (some [aB<|ine (wand .i64 a b) 0]) oF) oF)
def zTU (a b:Int)(c:zf6 a b=true):∃N,zHo N a b=some [aB<|zfp a b]:=by refine⟨0,?_⟩;unfold zHo oN;refine must rfl (br (λ_=>must rfl (br (λ_=>?_) λ_=>?_)) λ_=>?_);all_goals first|rfl|(simp only [*,zfp,zd5,cT,cF]<;>rfl)|simp_all[Ty.cells,zfp,zd5]
def zMv:vM 265 zos:=kF2 zdC zA zo zn (zq []) zTU
def zG8 (N:Nat)(a b:Int):OA:=
 let c:=aB<|ine (wand .i64 a b) 0; (oN (zL a 0 3)<|cond (zk a 0 3) (cond (ieq b 1) (some [c])<|cond (ieq b 2) (some [c]) oF) oF)
def zTG (a b:Int)(c:zf6 a b=true):∃N,zG8 N a b=some [aB<|zfp a b]:=by
 refine⟨0,?_⟩;unfold zG8 oN;conv=>zeta
 refine must rfl (br (λ_=>br (λ_=>?_) λ_=>br (λ_=>?_) λ_=>?_) λ_=>?_);all_goals first|rfl|(simp only [*,zfp,zd5,zba6,cT,cF]<;>rfl)|simp_all[Ty.cells,zfp,zd5,zba6]
def zMi:vM 248 zos:=kF2 zdC zA zo zn (zq []) zTG
def zdU (p:Int):Bool:=zk p 0 255
@[simp] abbrev zcj (p:Int):Bool:=true
@[simp] abbrev zeJ (p:Int):Bool:=zdU p
def zqk:Run:=rF1 dI λb=>(zcj b,[aB<|zeJ b])
def zLq (N:Nat)(a:Int):OA:=
 (oN (zL a 0 255)<|some [aB<|zk a 0 255])
def zEK (a:Int)(b:zbL big [aI a])(c:zcj a=true):∃N,zLq N a=some [aB<|zeJ a]:=by refine⟨0,?_⟩;unfold zLq oN;refine must rfl ?_;first|rfl|(simp only [*,zeJ,zdU,cT,cF]<;>rfl)|simp_all[Ty.cells,zeJ,zdU]
def zPH:vM 115 zqk:=hF1 zdC zA zo zn (zq []) zEK
def zPi:vM 106 zqk:=hF1 zdC zA zo zn (zq []) zEK
def zcp (l:List Ins)(p:Int):Ins:=bif hasB p (ln l) then ix l p zsY else ⟨7,0⟩
@[simp] abbrev zdp (l:List Ins)(p:Int):Bool:=true
@[simp] abbrev zdD (l:List Ins)(p:Int):Ins:=zcp l p
def zsp:Run:=rF2 (dS .ins) dI λb c=>(zdp b c,[aT .ins<|zdD b c])
def zRM (N:Nat)(a:lI)(b:Int):OA:=
 (oN (zL b 0<|wsub .i64 (ln a) 1)<|cond (nB<|zk b 0<|wsub .i64 (ln a) 1) (some [.agg [.i .i64 7,.i .i64 0]])<|oN (inb b<|ln a)<|some [.agg [.i .i64 (ix a b zsY).Op,.i .i64 (ix a b zsY).X]])
def zZr (a:List Ins)(b:Int)(c:zbL big [aS .ins a,aI b])(e:zdp a b=true):∃N,zRM N a b=some [aT .ins<|zdD a b]:=by have d:=((zcK c).1 _ (qF.2 rfl)).len;have f:=zKP d;refine⟨0,?_⟩;unfold zRM oN nB;refine must rfl (brN (λ_=>?_) λ_=>mu ?_);all_goals first|rfl|(simp only [*,zdD,zcp,cT,cF]<;>rfl)|simp_all[Ty.cells,zdD,zcp]
def zTo:vM 171 zsp:=hF2 zdC zA zo zn (zq []) zZr
def zRA (N:Nat)(a:lI)(b:Int):OA:=
 (oN (zby b<|ln a)<|cond (nB<|zdk b<|ln a) (some [.agg [.i .i64 7,.i .i64 0]])<|oN (inb b<|ln a)<|some [.agg [.i .i64 (ix a b zsY).Op,.i .i64 (ix a b zsY).X]])
def zZf (a:List Ins)(b:Int)(c:zdp a b=true):∃N,zRA N a b=some [aT .ins<|zdD a b]:=by refine⟨0,?_⟩;unfold zRA oN nB;refine must rfl (brN (λ_=>?_) λ_=>mu ?_);all_goals first|rfl|(simp only [*,zdD,zcp,cT,cF]<;>rfl)|simp_all[Ty.cells,zdD,zcp]
def zTb:vM 231 zsp:=kF2 zdC zA zo zn (zq []) zZf
def zfX (w:Int):Int:=bif ieq w 5 then 1 else 2
@[simp] abbrev zpM (w:Int):Bool:=true
@[simp] abbrev ziE (w:Int):Int:=zfX w
def zE6:Run:=rF1 dI λb=>(zpM b,[aI<|ziE b])
def zK9 (N:Nat)(a:Int):OA:=
 (cond (ieq a 5) (some [aI 1])<|some [aI 2])
def zWB (a:Int)(b:zpM a=true):∃N,zK9 N a=some [aI<|ziE a]:=by refine⟨0,?_⟩;unfold zK9;refine br (λ_=>?_) (λ_=>?_);all_goals first|rfl|(simp only [*,ziE,zfX,cT,cF]<;>rfl)|simp_all[Ty.cells,ziE,zfX]
def zPt:vM 237 zE6:=kF1 zdC zA zo zn (zq []) zWB
def zen (s:Slot)(n:Int):Bool:=bif zc1 s noSlot then true else (cond (igt n 0) (cond (zk s.Page 0<|wsub .i64 n 1) (zk s.Rights 1 3) false) false)
@[simp] abbrev znp (s:Slot)(n:Int):Bool:=true
@[simp] abbrev zjE (s:Slot)(n:Int):Bool:=zen s n
def zqo:Run:=rF2 (dT .slot) dI λb c=>(znp b c,[aB<|zjE b c])
def zLv (N:Nat)(a:Slot)(b:Int):OA:=
 (oN zbI<|cond (cond (ieq a.Page zbc.Page) (ieq a.Rights zbc.Rights) false) oT<|oN (zL a.Page 0<|wsub .i64 b 1)<|cond (zk a.Page 0<|wsub .i64 b 1) (cond (igt b 0) (oN (zL a.Rights 1 3)<|some [aB<|zk a.Rights 1 3]) oF) oF)
def zWT (a:Slot)(b:Int)(c:znp a b=true):∃N,zLv N a b=some [aB<|zjE a b]:=by refine⟨0,?_⟩;unfold zLv oN;refine must rfl (br (λ_=>?_) λ_=>must rfl (br (λ_=>br (λ_=>must rfl ?_) λ_=>?_) λ_=>?_));all_goals first|rfl|(simp only [*,zjE,zen,zc1,cT,cF]<;>rfl)|simp_all[Ty.cells,zjE,zen,zc1]
def zPM:vM 220 zqo:=kF2 zdC zA zo zn (zq []) zWT
def zK5 (N:Nat)(a:Slot)(b:Int):OA:=
 (oN zbI<|cond (cond (ieq a.Page zbc.Page) (ieq a.Rights zbc.Rights) false) oT<|cond (igt b 0) (oN (zL a.Page 0<|wsub .i64 b 1)<|cond (zk a.Page 0<|wsub .i64 b 1) (oN (zL a.Rights 1 3)<|some [aB<|zk a.Rights 1 3]) oF) oF)
def zWx (a:Slot)(b:Int)(c:znp a b=true):∃N,zK5 N a b=some [aB<|zjE a b]:=by refine⟨0,?_⟩;unfold zK5 oN;refine must rfl (br (λ_=>?_) λ_=>br (λ_=>must rfl (br (λ_=>must rfl ?_) λ_=>?_)) λ_=>?_);all_goals first|rfl|(simp only [*,zjE,zen,zc1,cT,cF]<;>rfl)|simp_all[Ty.cells,zjE,zen,zc1]
def zPn:vM 215 zqo:=kF2 zdC zA zo zn (zq []) zWx
@[simp] abbrev zhD (l:List Slot):Bool:=pc (l.length<=2147483648)
@[simp] abbrev zf1 (l:List Slot):List Slot:=l
def zxo:Run:=rF1 (dS .slot) λb=>(zhD b,[aS .slot<|zf1 b])
def zBF (N:Nat)(a:lS):OA:=
 (oN (few<|ln<|ap [] a)<|some [aS .slot<|ap [] a])
def zNi (a:List Slot)(b:zhD a=true):∃N,zBF N a=some [aS .slot<|zf1 a]:=by have c:=zO.1 b;refine⟨0,?_⟩;unfold zBF oN;refine mu ?_;first|rfl|(simp only [*,zf1,cT,cF]<;>rfl)|simp_all[Ty.cells,zf1]
def zGj:vM 195 zxo:=kF1 zdC zA zo zn (zq []) zNi
@[simp] abbrev zvF (l:List Ins):Bool:=pc (l.length<=2147483648)
@[simp] abbrev zpL (l:List Ins):List Ins:=l
def zzI:Run:=rF1 (dS .ins) λb=>(zvF b,[aS .ins<|zpL b])
def zDc (N:Nat)(a:lI):OA:=
 (oN (few<|ln<|ap [] a)<|some [aS .ins<|ap [] a])
def zQo (a:List Ins)(b:zvF a=true):∃N,zDc N a=some [aS .ins<|zpL a]:=by have c:=zO.1 b;refine⟨0,?_⟩;unfold zDc oN;refine mu ?_;first|rfl|(simp only [*,zpL,cT,cF]<;>rfl)|simp_all[Ty.cells,zpL]
def zJo:vM 185 zzI:=kF1 zdC zA zo zn (zq []) zQo
def zgJ (m:List LI)(p c:Int):Bool:=bif hasB p (ln m) then hasB c (ln<|ix m p []) else false
def cellAt (m:List LI)(p c:Int):Int:=bif zgJ m p c then ix (ix m p []) c 0 else 0
def zbQ (m:List LI)(p c v:Int):List LI:=bif zgJ m p c then (cond (zk v 0 99) (up m p<|up (ix m p []) c v) m) else m
def zA7 (m:List LI)(p c:Int):(zgJ m p c=true)↔hasB p (ln m)=true/\hasB c (ln<|ix m p [])=true:=by unfold zgJ;cases hasB p (ln m)<;>simp
def zbc2 {n:Nat}{m:List LI}(h:CVB n (.s (.sl .int) m)):m.length<=n/\∀p:Int,hasB p (ln m)=true->(ix m p []).length<=n :=
 ⟨h.len,λp a=>(h.inv.2 _ (zbK a []) _ (qF.2 rfl)).len⟩
@[simp] abbrev zeQ (m:List LI)(p c:Int):Bool:=true
@[simp] abbrev zrU (m:List LI)(p c:Int):Bool:=zgJ m p c
def zFb:Run:=rF3 (dS<|.sl .int) dI dI λb c d=>(zeQ b c d,[aB<|zrU b c d])
def zLB (N:Nat)(a:lM)(b c:Int):OA:=
 let d:=wsub .i64 (ln<|ix a b []) 1; (oN (zL b 0<|wsub .i64 (ln a) 1)<|cond (zk b 0<|wsub .i64 (ln a) 1) (oN (inb b<|ln a)<|oN (zL c 0 d)<|some [aB<|zk c 0 d]) oF)
def zWX (a:List LI)(b c:Int)(e:zbL big [aS (.sl .int) a,aI b,aI c])(g:zeQ a b c=true):∃N,zLB N a b c=some [aB<|zrU a b c]:=by
 have d:=zbc2 ((zcK e).1 _ (qF.2 rfl));have j:=zKP d.1;have f:∀p i:Int,hasB p (ln a)=true->zk i 0 (wsub .i64 (ln<|ix a p []) 1)=hasB i (ln<|ix a p []):=λp i h=>zKP (d.2 p h) i;refine⟨0,?_⟩;unfold zLB oN;conv=>zeta
 refine must rfl (br (λ_=>mu (must rfl ?_)) λ_=>?_);all_goals first|rfl|(simp only [*,zrU,zgJ,cT,cF]<;>rfl)|simp_all[Ty.cells,zrU,zgJ]
def zPT:vM 263 zFb:=hF3 zdC zA zo zn (zq []) zWX
@[simp] abbrev zgl (m:List LI)(p c:Int):Int:=cellAt m p c
def zmr:Run:=rF3 (dS<|.sl .int) dI dI λb c d=>(zeQ b c d,[aI<|zgl b c d])
def zKR (N:Nat)(a:lM)(b c:Int):OA:=
 let d:=ix a b []; (oN (zby b<|ln a)<|cond (nB<|zdk b<|ln a) (some [aI 0])<|oN (inb b<|ln a)<|oN (zby c<|ln d)<|cond (nB<|zdk c<|ln d) (some [aI 0])<|oN (inb b<|ln a)<|oN (inb c<|ln d)<|some [aI<|ix d c 0])
def zWk (a:List LI)(b c:Int)(d:zeQ a b c=true):∃N,zKR N a b c=some [aI<|zgl a b c]:=by
 refine⟨0,?_⟩;unfold zKR oN nB;conv=>zeta
 refine must rfl (brN (λ_=>?_) λ_=>mu (must rfl (brN (λ_=>?_) λ_=>mu (mu ?_))));all_goals first|rfl|(simp only [*,zgl,cellAt,zgJ,cT,cF]<;>rfl)|simp_all[Ty.cells,zgl,cellAt,zgJ]
def zO5:vM 139 zmr:=kF3 zdC zA zo zn (zq []) zWk
def z1K:zY:=[(250,ziK),(229,ziK),(160,znf),(131,znf),(165,zne),(136,zne),(161,zqh),(132,zqh),(163,zjn),(134,zjn),(264,zkk),(247,zkk),(266,zlm),(312,zlm),(265,zos),(248,zos),(115,zqk),(106,zqk),(171,zsp),(231,zsp),(237,zE6),(220,zqo),(215,zqo),(195,zxo),(185,zzI),(263,zFb),(139,zmr)]++ctrU
def zgM:zS z1K:=zh zry (zh zy8<|zh zJw<|zh zJd<|zh zJv<|zh zJc<|zh zPD<|zh zPd<|zh zuf<|zh zGb<|zh zvA<|zh zJf<|zh zw4<|zh zMj<|zh zMv<|zh zMi<|zh zPH<|zh zPi<|zh zTo<|zh zTb<|zh zPt<|zh zPM<|zh zPn<|zh zGj<|zh zJo<|zh zPT<|zh zO5 zdC)
def zLc (N:Nat)(a:lM)(b c:Int):OA:=
 (oN (zeQ a b c)<|cond (nB<|zrU a b c) (some [aI 0])<|oN (inb b<|ln a)<|oN (inb c<|ln<|ix a b [])<|some [aI<|ix (ix a b []) c 0])
def zWD (a:List LI)(b c:Int)(d:zeQ a b c=true):∃N,zLc N a b c=some [aI<|zgl a b c]:=by have e:=(zA7 a b c).1;refine⟨0,?_⟩;unfold zLc oN nB;refine must rfl (brN (λ_=>?_) λ_=>mu (mu ?_));all_goals first|rfl|(simp only [*,zgl,cellAt,cT,cF]<;>rfl)|simp_all[Ty.cells,zgl,cellAt]
def zy9:vM 168 zmr:=kF3 zgM zA zo zn (zq []) zWD
def zdj (t:List Slot)(n p:Int):Bool:=bif t.all (λs=>zen s p) then ieq (ln t) n else false
@[simp] abbrev zjF (t:List Slot)(n p:Int):Bool:=true
@[simp] abbrev ze4 (t:List Slot)(n p:Int):Bool:=zdj t n p
def zov:Run:=rF3 (dS .slot) dI dI λb c d=>(zjF b c d,[aB<|ze4 b c d])
def zHC (N:Nat)(d:lS)(e f:Int):OA:=
 (iter (σ:=(Int×Int×Int×lS×Unit)) N (λg a=>let b:=a.2.2.2.1;let c:=ix b a.2.2.1 zX; (cond (ilt a.2.2.1<|ln b) (oN (inb a.2.2.1<|ln b)<|oN (znp c a.2.1)<|cond (nB<|zjE c a.2.1) oF<|g (a.1,a.2.1,zM .i64 a.2.2.1 1,b,()))<|some [aB<|ieq (ln b) a.1])) (e,f,0,d,()))
def zUA:=zq [(111,0,{n:=25,tm:=[(0,.sl 0 []),(1,ti),(2,ti),(7,ti)],lo:=[],ro:=[(0,.slot,false)]})]
def zT7 (a:List Slot)(d c:Int)(j:zbL big [aS .slot a,aI d,aI c])(l:zjF a d c=true):∃N,zHC N a d c=some [aB<|ze4 a d c]:=by
 have h:(_:List _).length<=big:=((zcK j).1 _ (qF.2 rfl)).len;refine zcg λN g=>?_;unfold zHC oN nB;conv=>zeta
 refine(zbj a (λi (t:Unit)=>(d,c,(i:Int),a,())) _ (λ_ x (_:Unit) k=>bif (λs=>zen s c) x then k () else oF) (λ(t:Unit)=>some [.one<|.b<|ieq (ln a) d]) (λi e t rec=>?_) (λt rec=>?_) _ ()<|g h).trans ?_;{simp only [zbr e,zZ e,zbk e,zba e h,cT];exact zjy rfl};{simp only [zbl,cF]};rw[zgu λs=>zen s c];refine br (λf=>?_) (λf=>?_);{first|rfl|(simp only [f,ze4,zdj,cT,cF]<;>rfl)|(simp_all [Ty.cells,ze4,zdj];done)};{first|rfl|(simp only [f,ze4,zdj,cT,cF]<;>rfl)|(simp_all [Ty.cells,ze4,zdj];done)}
def zMH:vM 111 zov:=hF3 zgM zA zo zn zUA zT7
def zHb (N:Nat)(c:lS)(e f:Int):OA:=
 (iter (σ:=(Int×Int×Int×Int×lS×Unit)) N (λg a=>let b:=a.2.2.2.2.1;let d:=ix b a.2.2.2.1 zX; (cond (ilt a.2.2.2.1 a.2.2.1) (oN (inb a.2.2.2.1<|ln b)<|oN (znp d a.2.1)<|cond (nB<|zjE d a.2.1) oF<|g (a.1,a.2.1,a.2.2.1,zM .i64 a.2.2.2.1 1,b,()))<|some [aB<|ieq (ln b) a.1])) (e,f,ln c,0,c,()))
def zUw:=zq [(105,0,{n:=24,tm:=[(0,.sl 0 []),(1,ti),(2,ti),(9,.sl 0 []),(10,ti),(11,ti)],lo:=[],ro:=[(0,.slot,false)]})]
def zTJ (a:List Slot)(d c:Int)(j:zbL big [aS .slot a,aI d,aI c])(l:zjF a d c=true):∃N,zHb N a d c=some [aB<|ze4 a d c]:=by
 have h:(_:List _).length<=big:=((zcK j).1 _ (qF.2 rfl)).len;refine zcg λN g=>?_;unfold zHb oN nB;conv=>zeta
 refine(zbj a (λi (t:Unit)=>(d,c,ln a,(i:Int),a,())) _ (λ_ x (_:Unit) k=>bif (λs=>zen s c) x then k () else oF) (λ(t:Unit)=>some [.one<|.b<|ieq (ln a) d]) (λi e t rec=>?_) (λt rec=>?_) _ ()<|g h).trans ?_;{simp only [zbr e,zZ e,zbk e,zba e h,cT];exact zjy rfl};{simp only [zbl,cF]};rw[zgu λs=>zen s c];refine br (λf=>?_) (λf=>?_);{first|rfl|(simp only [f,ze4,zdj,cT,cF]<;>rfl)|(simp_all [Ty.cells,ze4,zdj];done)};{first|rfl|(simp only [f,ze4,zdj,cT,cF]<;>rfl)|(simp_all [Ty.cells,ze4,zdj];done)}
def zMn:vM 105 zov:=hF3 zgM zA zo zn zUw zTJ
def zcI (c:LI):Bool:=bif c.all (λx=>zk x 0 99) then ieq (ln c) 4 else false
@[simp] abbrev zdV (c:LI):Bool:=true
@[simp] abbrev zdf (c:LI):Bool:=zcI c
def zqj:Run:=rF1 (dS .int) λb=>(zdV b,[aB<|zdf b])
def zLp (N:Nat)(b:LI):OA:=
 (iter (σ:=(Int×LI×Unit)) N (λc a=>cond (ilt a.1<|ln a.2.1) (oN (inb a.1<|ln a.2.1)<|oN (zL (ix a.2.1 a.1 0) 0 99)<|cond (nB<|zk (ix a.2.1 a.1 0) 0 99) oF<|c (zM .i64 a.1 1,a.2.1,()))<|some [aB<|ieq (ln a.2.1) 4]) (0,b,()))
def zYt:=zq [(114,0,{n:=19,tm:=[(0,.sl 0 []),(3,ti)],lo:=[],ro:=[(0,.int,false)]})]
def zWO (a:LI)(g:zbL big [aS .int a])(j:zdV a=true):∃N,zLp N a=some [aB<|zdf a]:=by have f:(_:List _).length<=big:=((zcK g).1 _ (qF.2 rfl)).len;refine zcg λN e=>?_;unfold zLp oN nB;refine(zbj a (λi (t:Unit)=>((i:Int),a,())) _ (λ_ x (_:Unit) h=>bif (λx=>zk x 0 99) x then h () else oF) (λ(t:Unit)=>some [.one<|.b<|ieq (ln a) 4]) (λi c t rec=>?_) (λt rec=>?_) _ ()<|e f).trans ?_;{simp only [zbr c,zZ c,zbk c,zba c f,cT];exact zjy rfl};{simp only [zbl,cF]};rw[zgu λx=>zk x 0 99];refine br (λd=>?_) (λd=>?_);{first|rfl|(simp only [d,zdf,zcI,cT,cF]<;>rfl)|(simp_all [Ty.cells,zdf,zcI];done)};{first|rfl|(simp only [d,zdf,zcI,cT,cF]<;>rfl)|(simp_all [Ty.cells,zdf,zcI];done)}
def zPG:vM 114 zqj:=hF1 zgM zA zo zn zYt zWO
def zKZ (N:Nat)(b:LI):OA:=
 (iter (σ:=(Int×Int×LI×Unit)) N (λc a=>cond (ilt a.2.1 a.1) (oN (inb a.2.1<|ln a.2.2.1)<|oN (zL (ix a.2.2.1 a.2.1 0) 0 99)<|cond (nB<|zk (ix a.2.2.1 a.2.1 0) 0 99) oF<|c (a.1,zM .i64 a.2.1 1,a.2.2.1,()))<|some [aB<|ieq (ln a.2.2.1) 4]) (ln b,0,b,()))
def zYi:=zq [(109,0,{n:=18,tm:=[(0,.sl 0 []),(5,.sl 0 []),(6,ti),(7,ti)],lo:=[],ro:=[(0,.int,false)]})]
def zWs (a:LI)(g:zbL big [aS .int a])(j:zdV a=true):∃N,zKZ N a=some [aB<|zdf a]:=by have f:(_:List _).length<=big:=((zcK g).1 _ (qF.2 rfl)).len;refine zcg λN e=>?_;unfold zKZ oN nB;refine(zbj a (λi (t:Unit)=>(ln a,(i:Int),a,())) _ (λ_ x (_:Unit) h=>bif (λx=>zk x 0 99) x then h () else oF) (λ(t:Unit)=>some [.one<|.b<|ieq (ln a) 4]) (λi c t rec=>?_) (λt rec=>?_) _ ()<|e f).trans ?_;{simp only [zbr c,zZ c,zbk c,zba c f,cT];exact zjy rfl};{simp only [zbl,cF]};rw[zgu λx=>zk x 0 99];refine br (λd=>?_) (λd=>?_);{first|rfl|(simp only [d,zdf,zcI,cT,cF]<;>rfl)|(simp_all [Ty.cells,zdf,zcI];done)};{first|rfl|(simp only [d,zdf,zcI,cT,cF]<;>rfl)|(simp_all [Ty.cells,zdf,zcI];done)}
def zPh:vM 109 zqj:=hF1 zgM zA zo zn zYi zWs
def zeS (i:Ins):Bool:=bif (ieq i.Op 1||ieq i.Op 2||ieq i.Op 5||ieq i.Op 6) then zk i.X 0 99 else (cond (ieq i.Op 3||ieq i.Op 4) (zk i.X 0 15)<|cond (ieq i.Op 7) (ieq i.X 0)<|cond (ieq i.Op 8) (zk i.X 0 11) false)
@[simp] abbrev zxH (i:Ins):Bool:=true
@[simp] abbrev zu1 (i:Ins):Bool:=zeS i
def zsq:Run:=rF1 (dT .ins) λb=>(zxH b,[aB<|zu1 b])
def zRN (N:Nat)(a:Ins):OA:=
 let b:=ieq a.Op 4;let l:=zL a.X 0 99;let k:=aB<|zk a.X 0 99;let j:=ieq a.Op 8;let i:=ieq a.Op 7;let h:=ieq a.Op 3;let g:=zL a.X 0 11;let f:=zL a.X 0 15;let e:=aB<|ieq a.X 0;let d:=aB<|zk a.X 0 11;let c:=aB<|zk a.X 0 15; (cond (ieq a.Op 1) (cond (ieq a.Op 1) (oN l<|some [k])<|cond h (cond h (oN f<|some [c])<|cond i (some [e])<|cond j (oN g<|some [d]) oF)<|cond b (oN f<|some [c])<|cond i (some [e])<|cond j (oN g<|some [d]) oF)<|cond (ieq a.Op 2) (cond (ieq a.Op 2) (oN l<|some [k])<|cond h (cond h (oN f<|some [c])<|cond i (some [e])<|cond j (oN g<|some [d]) oF)<|cond b (oN f<|some [c])<|cond i (some [e])<|cond j (oN g<|some [d]) oF)<|cond (ieq a.Op 5) (cond (ieq a.Op 5) (oN l<|some [k])<|cond h (cond h (oN f<|some [c])<|cond i (some [e])<|cond j (oN g<|some [d]) oF)<|cond b (oN f<|some [c])<|cond i (some [e])<|cond j (oN g<|some [d]) oF)<|cond (ieq a.Op 6) (oN l<|some [k])<|cond h (cond h (oN f<|some [c])<|cond i (some [e])<|cond j (oN g<|some [d]) oF)<|cond b (oN f<|some [c])<|cond i (some [e])<|cond j (oN g<|some [d]) oF)
def zH2 (a:Ins)(b:zbL big [aT .ins a])(c:zxH a=true):∃N,zRN N a=some [aB<|zu1 a]:=by
 refine⟨0,?_⟩;unfold zRN oN;conv=>zeta
 refine br (λ_=>br (λ_=>must rfl ?_) λ_=>br (λ_=>br (λ_=>must rfl ?_) λ_=>br (λ_=>?_) λ_=>br (λ_=>must rfl ?_) λ_=>?_) λ_=>br (λ_=>must rfl ?_) λ_=>br (λ_=>?_) λ_=>br (λ_=>must rfl ?_) λ_=>?_) (λ_=>br (λ_=>br (λ_=>must rfl ?_) λ_=>br (λ_=>br (λ_=>must rfl ?_) λ_=>br (λ_=>?_) λ_=>br (λ_=>must rfl ?_) λ_=>?_) λ_=>br (λ_=>must rfl ?_) λ_=>br (λ_=>?_) λ_=>br (λ_=>must rfl ?_) λ_=>?_) λ_=>br (λ_=>br (λ_=>must rfl ?_) λ_=>br (λ_=>br (λ_=>must rfl ?_) λ_=>br (λ_=>?_) λ_=>br (λ_=>must rfl ?_) λ_=>?_) λ_=>br (λ_=>must rfl ?_) λ_=>br (λ_=>?_) λ_=>br (λ_=>must rfl ?_) λ_=>?_) λ_=>br (λ_=>must rfl ?_) λ_=>br (λ_=>br (λ_=>must rfl ?_) λ_=>br (λ_=>?_) λ_=>br (λ_=>must rfl ?_) λ_=>?_) λ_=>br (λ_=>must rfl ?_) λ_=>br (λ_=>?_) λ_=>br (λ_=>must rfl ?_) λ_=>?_);all_goals first|rfl|(simp only [*,zu1,zeS,cT,cF]<;>rfl)|simp_all[Ty.cells,zu1,zeS]
def zTp:vM 293 zsq:=hF1 zgM zA zo zn (zq []) zH2
def zTc:vM 291 zsq:=hF1 zgM zA zo zn (zq []) zH2
def zji (e:GExit):Bool:=bif (ieq e.Kind 0||ieq e.Kind 4) then (ieq e.Page 0&&(!e.Write&&ieq e.N 0)) else (cond (ieq e.Kind 1) (zk e.Page 0 3&&ieq e.N 0)<|cond (ieq e.Kind 2||ieq e.Kind 3) (zk e.N 0 99&&(ieq e.Page 0 && !e.Write)) false)
@[simp] def zbeF (x:Bool):zj0 x false = !x:=by cases x<;>rfl
attribute [simp] zeZ
@[simp] abbrev zuD (e:GExit):Bool:=true
@[simp] abbrev zmw (e:GExit):Bool:=zji e
def zqd:Run:=rF1 dE λb=>(zuD b,[aB<|zmw b])
def zLe (N:Nat)(a:GExit):OA:=
 let f:=zk a.N 0 99;let e:=zL a.N 0 99;let d:=ieq a.Kind 2;let b:=ieq a.Page 0;let c:=aB<|nB a.Write;let g:=aB<|cond (ieq a.Kind a.Kind) (cond b (cond (zj0 a.Write false) (ieq a.N 0) false) false) false; (cond (ieq a.Kind 0) (cond (ieq a.Kind 0) (some [g])<|cond (ieq a.Kind 1) (oN (zL a.Page 0 3)<|cond (zk a.Page 0 3) (some [aB<|ieq a.N 0]) oF)<|cond d (cond d (oN e<|cond f (cond b (some [c]) oF) oF) oF)<|cond (ieq a.Kind 3) (oN e<|cond f (cond b (some [c]) oF) oF) oF)<|cond (ieq a.Kind 4) (some [g])<|cond (ieq a.Kind 1) (oN (zL a.Page 0 3)<|cond (zk a.Page 0 3) (some [aB<|ieq a.N 0]) oF)<|cond d (cond d (oN e<|cond f (cond b (some [c]) oF) oF) oF)<|cond (ieq a.Kind 3) (oN e<|cond f (cond b (some [c]) oF) oF) oF)
def zWE (a:GExit)(b:zuD a=true):∃N,zLe N a=some [aB<|zmw a]:=by
 refine⟨0,?_⟩;unfold zLe oN nB;conv=>zeta
 refine br (λ_=>br (λ_=>?_) λ_=>br (λ_=>must rfl (br (λ_=>?_) λ_=>?_)) λ_=>br (λ_=>br (λ_=>must rfl (br (λ_=>br (λ_=>?_) λ_=>?_) λ_=>?_)) λ_=>?_) λ_=>br (λ_=>must rfl (br (λ_=>br (λ_=>?_) λ_=>?_) λ_=>?_)) λ_=>?_) (λ_=>br (λ_=>?_) λ_=>br (λ_=>must rfl (br (λ_=>?_) λ_=>?_)) λ_=>br (λ_=>br (λ_=>must rfl (br (λ_=>br (λ_=>?_) λ_=>?_) λ_=>?_)) λ_=>?_) λ_=>br (λ_=>must rfl (br (λ_=>br (λ_=>?_) λ_=>?_) λ_=>?_)) λ_=>?_);all_goals first|rfl|(simp only [*,zmw,zji,cT,cF]<;>rfl)|simp_all[Ty.cells,zmw,zji]
def zPx:vM 223 zqd:=kF1 zgM zA zo zn (zq []) zWE
def zKS (N:Nat)(a:GExit):OA:=
 let g:=zk a.N 0 99;let f:=zL a.N 0 99;let e:=ieq a.Kind 2;let d:=aB<|ieq a.N 0;let b:=ieq a.Page 0;let c:=aB<|nB a.Write; (cond (ieq a.Kind 0) (cond (ieq a.Kind 0) (cond b (cond (nB a.Write) (some [d]) oF) oF)<|cond (ieq a.Kind 1) (oN (zL a.Page 0 3)<|cond (zk a.Page 0 3) (some [d]) oF)<|cond e (cond e (oN f<|cond g (cond b (some [c]) oF) oF) oF)<|cond (ieq a.Kind 3) (oN f<|cond g (cond b (some [c]) oF) oF) oF)<|cond (ieq a.Kind 4) (cond b (cond (nB a.Write) (some [d]) oF) oF)<|cond (ieq a.Kind 1) (oN (zL a.Page 0 3)<|cond (zk a.Page 0 3) (some [d]) oF)<|cond e (cond e (oN f<|cond g (cond b (some [c]) oF) oF) oF)<|cond (ieq a.Kind 3) (oN f<|cond g (cond b (some [c]) oF) oF) oF)
def zWl (a:GExit)(b:zuD a=true):∃N,zKS N a=some [aB<|zmw a]:=by
 refine⟨0,?_⟩;unfold zKS oN nB;conv=>zeta
 refine br (λ_=>br (λ_=>br (λ_=>brN (λ_=>?_) λ_=>?_) λ_=>?_) λ_=>br (λ_=>must rfl (br (λ_=>?_) λ_=>?_)) λ_=>br (λ_=>br (λ_=>must rfl (br (λ_=>br (λ_=>?_) λ_=>?_) λ_=>?_)) λ_=>?_) λ_=>br (λ_=>must rfl (br (λ_=>br (λ_=>?_) λ_=>?_) λ_=>?_)) λ_=>?_) (λ_=>br (λ_=>br (λ_=>brN (λ_=>?_) λ_=>?_) λ_=>?_) λ_=>br (λ_=>must rfl (br (λ_=>?_) λ_=>?_)) λ_=>br (λ_=>br (λ_=>must rfl (br (λ_=>br (λ_=>?_) λ_=>?_) λ_=>?_)) λ_=>?_) λ_=>br (λ_=>must rfl (br (λ_=>br (λ_=>?_) λ_=>?_) λ_=>?_)) λ_=>?_);all_goals first|rfl|(simp only [*,zmw,zji,cT,cF]<;>rfl)|simp_all[Ty.cells,zmw,zji]
def zO7:vM 218 zqd:=kF1 zgM zA zo zn (zq []) zWl
def zwL (c:Ctl):LI:=(cond (zk c.Traps 0 3) [] [1])++((cond (zk c.Post 0 255) [] [2])++((cond (ine c.Post 0) (cond c.Open [] [3]) [])++(cond (ieq c.Traps 2) (cond (ine c.Post 0) [4] []) [])))
@[simp] def zbeC {a:Type}(x:a)(l m:List a):ap (x::l) m=x::ap l m:=rfl
@[simp] abbrev zgD (c:Ctl):Bool:=true
@[simp] abbrev zn6 (c:Ctl):LI:=zwL c
def zlT:Run:=rF1 dC λb=>(zgD b,[aS .int<|zn6 b])
def zBM (N:Nat)(b:Ctl):OA:=
 let e:=aS .int [];let k:=ap (ap [] [2]) [4];let j:=ap (ap [] [1]) [4];let i:=aS .int<|ap [] [2];let h:=aS .int<|ap [] [1];let g:=ap (ap [] [2]) [3];let f:=ap (ap [] [1]) [3];let c:=ieq b.Traps 2;let a:=ine b.Post 0;let d:=ap (ap [] [1]) [2];let l:=aS .int d; (oN (zL b.Traps 0 3)<|cond (nB<|zk b.Traps 0 3) (oN (few<|ln<|ap [] [1])<|oN (zL b.Post 0 255)<|cond (nB<|zk b.Post 0 255) (oN (few<|ln d)<|cond a (cond (nB b.Open) (oN (few<|ln<|ap d [3])<|cond c (cond a (oN (few<|ln<|ap (ap d [3]) [4])<|some [aS .int<|ap (ap d [3]) [4]])<|some [aS .int<|ap d [3]])<|some [aS .int<|ap d [3]])<|cond c (cond a (oN (few<|ln<|ap d [4])<|some [aS .int<|ap d [4]])<|some [l])<|some [l])<|cond c (cond a (oN (few<|ln<|ap d [4])<|some [aS .int<|ap d [4]])<|some [l])<|some [l])<|cond a (cond (nB b.Open) (oN (few<|ln f)<|cond c (cond a (oN (few<|ln<|ap f [4])<|some [aS .int<|ap f [4]])<|some [aS .int f])<|some [aS .int f])<|cond c (cond a (oN (few<|ln j)<|some [aS .int j])<|some [h])<|some [h])<|cond c (cond a (oN (few<|ln j)<|some [aS .int j])<|some [h])<|some [h])<|oN (zL b.Post 0 255)<|cond (nB<|zk b.Post 0 255) (oN (few<|ln<|ap [] [2])<|cond a (cond (nB b.Open) (oN (few<|ln g)<|cond c (cond a (oN (few<|ln<|ap g [4])<|some [aS .int<|ap g [4]])<|some [aS .int g])<|some [aS .int g])<|cond c (cond a (oN (few<|ln k)<|some [aS .int k])<|some [i])<|some [i])<|cond c (cond a (oN (few<|ln k)<|some [aS .int k])<|some [i])<|some [i])<|cond a (cond (nB b.Open) (oN (few<|ln<|ap [] [3])<|cond c (cond a (oN (few<|ln<|ap (ap [] [3]) [4])<|some [aS .int<|ap (ap [] [3]) [4]])<|some [aS .int<|ap [] [3]])<|some [aS .int<|ap [] [3]])<|cond c (cond a (oN (few<|ln<|ap [] [4])<|some [aS .int<|ap [] [4]])<|some [e])<|some [e])<|cond c (cond a (oN (few<|ln<|ap [] [4])<|some [aS .int<|ap [] [4]])<|some [e])<|some [e])
def zw7 (a:Ctl)(b:zbL big [.agg<|znF a])(c:zgD a=true):∃N,zBM N a=some [aS .int<|zn6 a]:=by
 refine⟨0,?_⟩;unfold zBM oN nB;conv=>zeta
 refine must rfl (brN (λ_=>mu (must rfl (brN (λ_=>mu (br (λ_=>brN (λ_=>mu (br (λ_=>br (λ_=>mu ?_) λ_=>?_) λ_=>?_)) λ_=>br (λ_=>br (λ_=>mu ?_) λ_=>?_) λ_=>?_) λ_=>br (λ_=>br (λ_=>mu ?_) λ_=>?_) λ_=>?_)) λ_=>br (λ_=>brN (λ_=>mu (br (λ_=>br (λ_=>mu ?_) λ_=>?_) λ_=>?_)) λ_=>br (λ_=>br (λ_=>mu ?_) λ_=>?_) λ_=>?_) λ_=>br (λ_=>br (λ_=>mu ?_) λ_=>?_) λ_=>?_))) λ_=>must rfl (brN (λ_=>mu (br (λ_=>brN (λ_=>mu (br (λ_=>br (λ_=>mu ?_) λ_=>?_) λ_=>?_)) λ_=>br (λ_=>br (λ_=>mu ?_) λ_=>?_) λ_=>?_) λ_=>br (λ_=>br (λ_=>mu ?_) λ_=>?_) λ_=>?_)) λ_=>br (λ_=>brN (λ_=>mu (br (λ_=>br (λ_=>mu ?_) λ_=>?_) λ_=>?_)) λ_=>br (λ_=>br (λ_=>mu ?_) λ_=>?_) λ_=>?_) λ_=>br (λ_=>br (λ_=>mu ?_) λ_=>?_) λ_=>?_));all_goals first|rfl|(simp only [*,zn6,zwL,cT,cF]<;>rfl)|simp_all[Ty.cells,zn6,zwL]
def zGo:vM 294 zlT:=hF1 zgM zA zo zn (zq []) zw7
def zGa:vM 292 zlT:=hF1 zgM zA zo zn (zq []) zw7
def len8tab:ByteArray:=⟨⟨[0,1,2,2,3,3,3,3,4,4,4,4,4,4,4,4,5,5,5,5,5,5,5,5,5,5,5,5,5,5,5,5,6,6,6,6,6,6,6,6,6,6,6,6,6,6,6,6,6,6,6,6,6,6,6,6,6,6,6,6,6,6,6,6,7,7,7,7,7,7,7,7,7,7,7,7,7,7,7,7,7,7,7,7,7,7,7,7,7,7,7,7,7,7,7,7,7,7,7,7,7,7,7,7,7,7,7,7,7,7,7,7,7,7,7,7,7,7,7,7,7,7,7,7,7,7,7,7,8,8,8,8,8,8,8,8,8,8,8,8,8,8,8,8,8,8,8,8,8,8,8,8,8,8,8,8,8,8,8,8,8,8,8,8,8,8,8,8,8,8,8,8,8,8,8,8,8,8,8,8,8,8,8,8,8,8,8,8,8,8,8,8,8,8,8,8,8,8,8,8,8,8,8,8,8,8,8,8,8,8,8,8,8,8,8,8,8,8,8,8,8,8,8,8,8,8,8,8,8,8,8,8,8,8,8,8,8,8,8,8,8,8,8,8,8,8,8,8,8,8,8,8,8,8,8,8]⟩⟩
def zhT (p n:Int):Bool:=ieq (wand .i64 (zld .i64 p n) 1) 1
def scan (p:Int):Int:=bif zhT p 7 then 7 else (cond (zhT p 6) 6<|cond (zhT p 5) 5<|cond (zhT p 4) 4<|cond (zhT p 3) 3<|cond (zhT p 2) 2<|cond (zhT p 1) 1<|cond (zhT p 0) 0<|-1)
def z8L:∀n:Fin 256,zM .i64 0 (wcv .i64<|byteAt len8tab<|wcv .u8 (n.val:Int))=scan (n.val:Int)+1:=by decide +kernel
def zXU:∀n:Fin 256,-1<=scan (n.val:Int)/\scan (n.val:Int)<=7/\(0<=scan (n.val:Int)->wsub .i64 (n.val:Int) (zmM .i64 1<|scan (n.val:Int))=zBv .i64 (n.val:Int) (zmM .i64 1<|scan (n.val:Int))):=by decide +kernel
def zET {P:Int->Prop}(h:∀n:Fin 256,P (n.val:Int)){x:Int}(a:0<=x)(b:x<=255):P x:=by have:=h ⟨x.toNat,by omega⟩;have e:((x.toNat:Nat):Int)=x:=(by omega);simpa [e] using this
def znM (x:Int):Bool:=pc (0<=x/\x<=255)
def zjx (x:Int):Int:=scan x+1
def zi1:LW
 |[.one<|.i .u64 b]=>some (znM b,[aI<|zjx b])
 |_=>none
def znB (N:Nat)(a:Int):OA:=
 let d:=zld .u64 a 16;let b:=zld .u64 a 32;let c:=zld .u64 b 16; (cond (ige a 4294967296) (oN (ile 0 32)<|cond (ige b 65536) (oN (ile 0 16)<|cond (ige c 256) (oN (ile 0 8)<|oN (inb (wcv .u8<|zld .u64 c 8) 256)<|some [aI<|zM .i64 (zM .i64 (zM .i64 32 16) 8)<|wcv .i64<|byteAt len8tab<|wcv .u8<|zld .u64 c 8])<|oN (inb (wcv .u8 c) 256)<|some [aI<|zM .i64 (zM .i64 32 16)<|wcv .i64<|byteAt len8tab<|wcv .u8 c])<|cond (ige b 256) (oN (ile 0 8)<|oN (inb (wcv .u8<|zld .u64 b 8) 256)<|some [aI<|zM .i64 (zM .i64 32 8)<|wcv .i64<|byteAt len8tab<|wcv .u8<|zld .u64 b 8])<|oN (inb (wcv .u8 b) 256)<|some [aI<|zM .i64 32<|wcv .i64<|byteAt len8tab<|wcv .u8 b])<|cond (ige a 65536) (oN (ile 0 16)<|cond (ige d 256) (oN (ile 0 8)<|oN (inb (wcv .u8<|zld .u64 d 8) 256)<|some [aI<|zM .i64 (zM .i64 (zM .i64 0 16) 8)<|wcv .i64<|byteAt len8tab<|wcv .u8<|zld .u64 d 8])<|oN (inb (wcv .u8 d) 256)<|some [aI<|zM .i64 (zM .i64 0 16)<|wcv .i64<|byteAt len8tab<|wcv .u8 d])<|cond (ige a 256) (oN (ile 0 8)<|oN (inb (wcv .u8<|zld .u64 a 8) 256)<|some [aI<|zM .i64 (zM .i64 0 8)<|wcv .i64<|byteAt len8tab<|wcv .u8<|zld .u64 a 8])<|oN (inb (wcv .u8 a) 256)<|some [aI<|zM .i64 0<|wcv .i64<|byteAt len8tab<|wcv .u8 a])
def zES (N:Nat)(a:Int):evalFn (cQ z1K zpX zKi zYb) (zq []) N 12 352 [.one<|.i .u64 a]=znB N a:=by kernel_rfl
def zCY (a:Int)(g:zbL big [.one<|.i .u64 a])(f:znM a=true):∃N,znB N a=some [aI<|zjx a]:=by
 obtain⟨b,c⟩:=zO.1 f;refine⟨0,?_⟩;unfold znB oN;conv=>zeta
 refine zda (qJ (by omega)) ?_;refine zda (qJ (by omega)) ?_;refine zda (qJ (by omega)) ?_;have e:inb (wcv .u8 a) 256=true:=zET (P:=λx=>inb (wcv .u8 x) 256=true) (by decide +kernel) b c;refine must e ?_;have d:=zET (P:=λx=>zM .i64 0 (wcv .i64<|byteAt len8tab<|wcv .u8 x)=scan x+1) z8L b c;rw[d];rfl
def zpf:vM 352 zi1:=zV1 zgM zA zo zn (zjT (by kernel_rfl)) λa d b h=>by unfold zi1 at h;split at h;{obtain⟨c,rfl⟩:=zeF h;exact(zCY _ b c).elim λN e=>⟨zq [],N,(zES N _).trans e⟩};{cases h}
def z95:zY:=[(168,zmr),(111,zov),(105,zov),(114,zqj),(109,zqj),(293,zsq),(291,zsq),(223,zqd),(218,zqd),(294,zlT),(292,zlT),(352,zi1)]++z1K
def zgN:zS z95:=zh zy9 (zh zMH<|zh zMn<|zh zPG<|zh zPh<|zh zTp<|zh zTc<|zh zPx<|zh zO7<|zh zGo<|zh zGa<|zh zpf zgM)
def zjl (m:List LI)(n:Int):Bool:=bif m.all zcI then ieq (ln m) n else false
@[simp] abbrev zjs (m:List LI)(n:Int):Bool:=true
@[simp] abbrev zfU (m:List LI)(n:Int):Bool:=zjl m n
def zsr:Run:=rF2 (dS<|.sl .int) dI λb c=>(zjs b c,[aB<|zfU b c])
def zRO (N:Nat)(c:lM)(d:Int):OA:=
 (iter (σ:=(Int×Int×lM×Unit)) N (λe a=>let b:=a.2.2.1; (cond (ilt a.2.1<|ln b) (oN (inb a.2.1<|ln b)<|oN (zdV<|ix b a.2.1 [])<|cond (nB<|zdf<|ix b a.2.1 []) oF<|e (a.1,zM .i64 a.2.1 1,b,()))<|some [aB<|ieq (ln b) a.1])) (d,0,c,()))
def z0b:=zq [(118,0,{n:=22,tm:=[(0,.sl 0 []),(1,ti),(5,ti)],lo:=[],ro:=[(0,.sl .int,false)]})]
def zZs (a:List LI)(c:Int)(h:zbL big [aS (.sl .int) a,aI c])(k:zjs a c=true):∃N,zRO N a c=some [aB<|zfU a c]:=by
 have g:(_:List _).length<=big:=((zcK h).1 _ (qF.2 rfl)).len;refine zcg λN f=>?_;unfold zRO oN nB;conv=>zeta
 refine(zbj a (λi (t:Unit)=>(c,(i:Int),a,())) _ (λ_ x (_:Unit) j=>bif (zcI) x then j () else oF) (λ(t:Unit)=>some [.one<|.b<|ieq (ln a) c]) (λi d t rec=>?_) (λt rec=>?_) _ ()<|f g).trans ?_;{simp only [zbr d,zZ d,zbk d,zba d g,cT];exact zjy rfl};{simp only [zbl,cF]};rw[zgu<|zcI];refine br (λe=>?_) (λe=>?_);{first|rfl|(simp only [e,zfU,zjl,cT,cF]<;>rfl)|(simp_all [Ty.cells,zfU,zjl];done)};{first|rfl|(simp only [e,zfU,zjl,cT,cF]<;>rfl)|(simp_all [Ty.cells,zfU,zjl];done)}
def zTq:vM 118 zsr:=hF2 zgN zA zo zn z0b zZs
def zRB (N:Nat)(c:lM)(d:Int):OA:=
 (iter (σ:=(Int×Int×Int×lM×Unit)) N (λe a=>let b:=a.2.2.2.1; (cond (ilt a.2.2.1 a.2.1) (oN (inb a.2.2.1<|ln b)<|oN (zdV<|ix b a.2.2.1 [])<|cond (nB<|zdf<|ix b a.2.2.1 []) oF<|e (a.1,a.2.1,zM .i64 a.2.2.1 1,b,()))<|some [aB<|ieq (ln b) a.1])) (d,ln c,0,c,()))
def zZ9:=zq [(116,0,{n:=21,tm:=[(0,.sl 0 []),(1,ti),(7,.sl 0 []),(8,ti),(9,ti)],lo:=[],ro:=[(0,.sl .int,false)]})]
def zZg (a:List LI)(c:Int)(h:zbL big [aS (.sl .int) a,aI c])(k:zjs a c=true):∃N,zRB N a c=some [aB<|zfU a c]:=by
 have g:(_:List _).length<=big:=((zcK h).1 _ (qF.2 rfl)).len;refine zcg λN f=>?_;unfold zRB oN nB;conv=>zeta
 refine(zbj a (λi (t:Unit)=>(c,ln a,(i:Int),a,())) _ (λ_ x (_:Unit) j=>bif (zcI) x then j () else oF) (λ(t:Unit)=>some [.one<|.b<|ieq (ln a) c]) (λi d t rec=>?_) (λt rec=>?_) _ ()<|f g).trans ?_;{simp only [zbr d,zZ d,zbk d,zba d g,cT];exact zjy rfl};{simp only [zbl,cF]};rw[zgu<|zcI];refine br (λe=>?_) (λe=>?_);{first|rfl|(simp only [e,zfU,zjl,cT,cF]<;>rfl)|(simp_all [Ty.cells,zfU,zjl];done)};{first|rfl|(simp only [e,zfU,zjl,cT,cF]<;>rfl)|(simp_all [Ty.cells,zfU,zjl];done)}
def zTd:vM 116 zsr:=hF2 zgN zA zo zn zZ9 zZg
def zdI (p:List Ins):Bool:=bif p.all zeS then zk (ln p) 1 12 else false
@[simp] abbrev zuI (p:List Ins):Bool:=true
@[simp] abbrev zhJ (p:List Ins):Bool:=zdI p
def zql:Run:=rF1 (dS .ins) λb=>(zuI b,[aB<|zhJ b])
def zLr (N:Nat)(c:lI):OA:=
 (iter (σ:=(Int×lI×Unit)) N (λd a=>let b:=ix a.2.1 a.1 zsY; (cond (ilt a.1<|ln a.2.1) (oN (inb a.1<|ln a.2.1)<|oN (zxH b)<|cond (nB<|zu1 b) oF<|d (zM .i64 a.1 1,a.2.1,()))<|oN (zL (ln a.2.1) 1 12)<|some [aB<|zk (ln a.2.1) 1 12])) (0,c,()))
def zYu:=zq [(221,0,{n:=19,tm:=[(0,.sl 0 []),(3,ti)],lo:=[],ro:=[(0,.ins,false)]})]
def zWP (a:List Ins)(g:zbL big [aS .ins a])(j:zuI a=true):∃N,zLr N a=some [aB<|zhJ a]:=by
 have f:(_:List _).length<=big:=((zcK g).1 _ (qF.2 rfl)).len;refine zcg λN e=>?_;unfold zLr oN nB;conv=>zeta
 refine(zbj a (λi (t:Unit)=>((i:Int),a,())) _ (λ_ x (_:Unit) h=>bif (zeS) x then h () else oF) (λ(t:Unit)=>cond (zL (ln a) 1 12) (some [.one<|.b<|zk (ln a) 1 12]) none) (λi c t rec=>?_) (λt rec=>?_) _ ()<|e f).trans ?_;{simp only [zbr c,zZ c,zbk c,zba c f,cT];exact zjy rfl};{simp only [zbl,cF]};rw[zgu<|zeS];refine br (λd=>?_) (λd=>?_);{refine must rfl ?_;first|rfl|(simp only [d,zhJ,zdI,cT,cF]<;>rfl)|(simp_all [Ty.cells,zhJ,zdI];done)};{first|rfl|(simp only [d,zhJ,zdI,cT,cF]<;>rfl)|(simp_all [Ty.cells,zhJ,zdI];done)}
def zPI:vM 221 zql:=hF1 zgN zA zo zn zYu zWP
def zK1 (N:Nat)(b:lI):OA:=
 (iter (σ:=(Int×Int×lI×Unit)) N (λd a=>let c:=ix a.2.2.1 a.2.1 zsY; (cond (ilt a.2.1 a.1) (oN (inb a.2.1<|ln a.2.2.1)<|oN (zxH c)<|cond (nB<|zu1 c) oF<|d (a.1,zM .i64 a.2.1 1,a.2.2.1,()))<|oN (zL (ln a.2.2.1) 1 12)<|some [aB<|zk (ln a.2.2.1) 1 12])) (ln b,0,b,()))
def zYj:=zq [(216,0,{n:=18,tm:=[(0,.sl 0 []),(5,.sl 0 []),(6,ti),(7,ti)],lo:=[],ro:=[(0,.ins,false)]})]
def zWt (a:List Ins)(g:zbL big [aS .ins a])(j:zuI a=true):∃N,zK1 N a=some [aB<|zhJ a]:=by
 have f:(_:List _).length<=big:=((zcK g).1 _ (qF.2 rfl)).len;refine zcg λN e=>?_;unfold zK1 oN nB;conv=>zeta
 refine(zbj a (λi (t:Unit)=>(ln a,(i:Int),a,())) _ (λ_ x (_:Unit) h=>bif (zeS) x then h () else oF) (λ(t:Unit)=>cond (zL (ln a) 1 12) (some [.one<|.b<|zk (ln a) 1 12]) none) (λi c t rec=>?_) (λt rec=>?_) _ ()<|e f).trans ?_;{simp only [zbr c,zZ c,zbk c,zba c f,cT];exact zjy rfl};{simp only [zbl,cF]};rw[zgu<|zeS];refine br (λd=>?_) (λd=>?_);{refine must rfl ?_;first|rfl|(simp only [d,zhJ,zdI,cT,cF]<;>rfl)|(simp_all [Ty.cells,zhJ,zdI];done)};{first|rfl|(simp only [d,zhJ,zdI,cT,cF]<;>rfl)|(simp_all [Ty.cells,zhJ,zdI];done)}
def zPj:vM 216 zql:=hF1 zgN zA zo zn zYj zWt
def zmV (c:Ctl):Bool:=ieq (ln<|zwL c) 0
@[simp] abbrev zrO (c:Ctl):Bool:=zmV c
def zso:Run:=rF1 dC λb=>(zgD b,[aB<|zrO b])
def zRK (N:Nat)(a:Ctl):OA:=
 (oN (zgD a)<|some [aB<|ieq (ln<|zn6 a) 0])
def zH1 (a:Ctl)(b:zbL big [.agg<|znF a])(c:zgD a=true):∃N,zRK N a=some [aB<|zrO a]:=by refine⟨0,?_⟩;unfold zRK oN;refine must rfl ?_;first|rfl|(simp only [*,zrO,zmV,cT,cF]<;>rfl)|simp_all[Ty.cells,zrO,zmV]
def zTm:vM 222 zso:=hF1 zgN zA zo zn (zq []) zH1
def zTa:vM 217 zso:=hF1 zgN zA zo zn (zq []) zH1
def zeg (p:Int):Int:=bif zdU p then scan p else -1
def zRx {x:Int}(a:0<=x)(b:x<=255):wcv .u64 x=x:=zET (P:=λx=>wcv .u64 x=x) (by decide +kernel) a b
@[simp] abbrev zhC (p:Int):Int:=zeg p
def zp5:Run:=rF1 dI λb=>(zcj b,[aI<|zhC b])
def zK6 (N:Nat)(a:Int):OA:=
 (oN (zcj a)<|cond (nB<|zeJ a) (some [aI<|-1])<|oN (znM<|wcv .u64 a)<|some [aI<|wsub .i64 (zjx<|wcv .u64 a) 1])
def zWy (a:Int)(d:zcj a=true):∃N,zK6 N a=some [aI<|zhC a]:=by refine⟨0,?_⟩;unfold zK6 oN nB;refine must rfl ?_;cases h:zdU a;{refine must (by simp[h]) ?_;simp[zeg,h]};{obtain⟨b,c⟩:=zfL.1 h;have r:=zET (P:=λx=>-1<=scan x/\scan x<=7/\(0<=scan x->wsub .i64 x (zmM .i64 1<|scan x)=zBv .i64 x (zmM .i64 1<|scan x))) zXU b c;refine zda (by simp[h]) ?_;rw[zRx b c];refine must (zbd ⟨b,c⟩) ?_;have e:wsub .i64 (zjx a) 1=scan a:=(by unfold zjx;rw[zr4 (by omega) (by omega)];omega);rw[e];simp[zeg,h]}
def zPp:vM 306 zp5:=kF1 zgN zA zo zn (zq []) zWy
def zLy (N:Nat)(b:Int):OA:=
 (iter (σ:=(Int×Int×Unit)) N (λc a=>cond (ige a.2.1 0) (oN (zcj a.1)<|cond (zeJ a.1) (oN (ile 0<|wcv .u64 a.2.1)<|cond (ieq (wand .i64 (zld .i64 a.1<|wcv .u64 a.2.1) 1) 1) (some [aI a.2.1])<|c (a.1,wsub .i64 a.2.1 1,()))<|some [aI<|-1])<|some [aI<|-1]) (b,7,()))
def zYw:=zq [(314,0,{n:=19,tm:=[(0,ti),(3,ti)],lo:=[],ro:=[]})]
def zWV (a:Int)(C:zcj a=true):∃N,zLy N a=some [aI<|zhC a]:=by refine⟨10,?_⟩;unfold zLy oN;cases h:zdU a;{rw [zd9];refine must rfl ?_;refine must rfl ?_;refine zda h ?_;simp[zeg,h]};{have c:zeJ a=true:=h;rw[zd9];refine must rfl (must rfl (must c (must rfl (br (λr=>?_) λr=>?_))));{have A:zhT a 7=true:=r;simp[zeg,h,scan,A]};have b:zhT a 7=false:=r;show iter 9 _ (a,6,())=_;rw[zd9];refine must rfl (must rfl (must c (must rfl (br (λq=>?_) λq=>?_))));{have z:zhT a 6=true:=q;simp[zeg,h,scan,z,b]};have d:zhT a 6=false:=q;show iter 8 _ (a,5,())=_;rw[zd9];refine must rfl (must rfl (must c (must rfl (br (λp=>?_) λp=>?_))));{have y:zhT a 5=true:=p;simp[zeg,h,scan,y,b,d]};have e:zhT a 5=false:=p;show iter 7 _ (a,4,())=_;rw[zd9];refine must rfl (must rfl (must c (must rfl (br (λn=>?_) λn=>?_))));{have x:zhT a 4=true:=n;simp[zeg,h,scan,x,b,d,e]};have f:zhT a 4=false:=n;show iter 6 _ (a,3,())=_;rw[zd9];refine must rfl (must rfl (must c (must rfl (br (λm=>?_) λm=>?_))));{have w:zhT a 3=true:=m;simp[zeg,h,scan,w,b,d,e,f]};have g:zhT a 3=false:=m;show iter 5 _ (a,2,())=_;rw[zd9];refine must rfl (must rfl (must c (must rfl (br (λl=>?_) λl=>?_))));{have v:zhT a 2=true:=l;simp[zeg,h,scan,v,b,d,e,f,g]};have i:zhT a 2=false:=l;show iter 4 _ (a,1,())=_;rw[zd9];refine must rfl (must rfl (must c (must rfl (br (λk=>?_) λk=>?_))));{have u:zhT a 1=true:=k;simp[zeg,h,scan,u,b,d,e,f,g,i]};have s:zhT a 1=false:=k;show iter 3 _ (a,0,())=_;rw[zd9];refine must rfl (must rfl (must c (must rfl (br (λj=>?_) λj=>?_))));{have t:zhT a 0=true:=j;simp[zeg,h,scan,t,b,d,e,f,g,i,s]};have B:zhT a 0=false:=j;show iter 2 _ (a,-1,())=_;rw[zd9];refine zda rfl ?_;simp[zeg,h,scan,b,d,e,f,g,i,s,B]}
def zPP:vM 314 zp5:=kF1 zgN zA zo zn zYw zWV
def zbS {c:Cur}{i k:Int}(h:zbi c)(a:0<=i):zbi ⟨c.b,i,k⟩:=⟨a,h.2⟩
def z0U {c:Cur}(h:zbi c){l:LI}(a:l≠[]):zbs c l∈l:=(zz3<|zfv h a).2.2 (kR.2 a)
def zgg {c:Cur}(h:zbi c){n:Int}(a:0<n):0<=zx c n/\zx c n<n:=(ziS<|zbF h n).2.2 a
def zM7 {o x:Int}(h:(o=1\/o=2\/o=5\/o=6)/\0<=x/\x<=99\/(o=3\/o=4)/\0<=x/\x<=15\/o=8/\0<=x/\x<=11):zeS ⟨o,x⟩=true:=by have w:∀{a b:Int},a<=x->x<=b->zk x a b=true:=λc d=>(by simp only[zk,ige,ile,qE,q0];exact⟨c,d⟩);rcases h with⟨h|h|h|h,c,d⟩|⟨h|h,c,d⟩|⟨h,c,d⟩<;>subst h<;>exact w c d
def zAf (N:Nat)(c:Cur)  : OA :=
 let d:=zbs c [1,2,3,3,3,4,4,4,5,6,8];let a:=({ (zbg c [1,2,3,3,3,4,4,4,5,6,8]) with b:=c.b}:Cur); (share (oN (zD a 16)<|some [.agg [.s .u8 c.b,.i .i64 (zf a 16).i,.i .i64 (zf a 16).h],.agg [.i .i64 d,.i .i64<|zx a 16]]) λf=>share (cond (ieq d 8) (oN (zD a 4)<|some [.agg [.s .u8 c.b,.i .i64 (zf a 4).i,.i .i64 (zf a 4).h],.agg [.i .i64 d,.i .i64<|zx a 4]])<|oN (zD a 100)<|some [.agg [.s .u8 c.b,.i .i64 (zf a 100).i,.i .i64 (zf a 100).h],.agg [.i .i64 d,.i .i64<|zx a 100]]) λe=>oN (zbA c [1,2,3,3,3,4,4,4,5,6,8])<|cond (ieq d 3) (cond (ieq d 3) f e)<|cond (ieq d 4) f e)
def zsI (c:Cur)(s:Cur)(a:Ins):Prop:=(∃N,zAf N c=some (AV.agg (zb4 s)::[aT .ins a]))/\(s.b=c.b/\0<=s.i)/\(zeS a=true)
def zk5 (c:Cur)  : Bool:=wC (zsI c)
def zhb (c:Cur)  : Cur:=wS (zsI c)
def zgV (c:Cur)  : Ins:=wV (zsI c)
def zN0 {c:Cur}(h:zk5 c=true):zsI c (zhb c) (zgV c):=wG h
def zBi (c:Cur)  : 0<=(zhb c).i:=wP λh=>h.2.1.2
def z3c (c:Cur)(h:∃N,Ends (wE (λa=>aT .ins a) c.b λa=>zeS a=true)<|zAf N c):zk5 c=true:=wI (λ_ _ h=>h) h
def zB6:zek:=rP0 λc=>(zk5 c,zhb c,[aT .ins<|zgV c])
def zPV:zbW Tryz.prog 275 [false,true,true] zB6:=hP0 zdv zU zXi zn (zq []) (λ_ h=>(zN0 h).1)
def zUO {c:Cur}(h:zbi c):zk5 c=true:=by
 refine z3c c ⟨0,?_⟩;have p:([1,2,3,3,3,4,4,4,5,6,8]:LI)≠[]:=(by simp);have q:=z0U h p;have f:zbi {zbg c [1,2,3,3,3,4,4,4,5,6,8] with b:=c.b}:=zbS h (zb6 _ _);have t:=zgg f (n:=16) (by omega);have w:=zgg f (n:=4) (by omega);have m:=zgg f (n:=100) (by omega);unfold zAf oN;conv=>zeta
 generalize zbs c [1,2,3,3,3,4,4,4,5,6,8]=o at q;simp only[qG,qO,or_false]at q;have j:∀{n:Int},ieq o n=false->o≠n:=λh e=>(by subst e;simp[ieq]at h);have k:∀{n:Int},ieq o n=true->o=n:=λh=>by simpa [ieq] using h
 have L:∀(n:Int),0<n->(zeS ⟨o,zx {zbg c [1,2,3,3,3,4,4,4,5,6,8] with b:=c.b} n⟩=true)->Ends (λa=>∃s r,a=(AV.agg (zb4 s)::[aT .ins r])/\(s.b=c.b/\0<=s.i)/\zeS r=true)
  (cond (zD {zbg c [1,2,3,3,3,4,4,4,5,6,8] with b:=c.b} n) (some (AV.agg [.s .u8 c.b,.i .i64 (zf {zbg c [1,2,3,3,3,4,4,4,5,6,8] with b:=c.b} n).i,.i .i64 (zf {zbg c [1,2,3,3,3,4,4,4,5,6,8] with b:=c.b} n).h]::[.agg [.i .i64 o,.i .i64<|zx {zbg c [1,2,3,3,3,4,4,4,5,6,8] with b:=c.b} n]])) none):=
  λn x u=>zC (zbF f n) (zbP (aT .ins) (v:=⟨o,zx _ n⟩) (zI _ _) u)
 refine zC (zfv h p) (zbJ (λg=>zbJ (λ_=>L 16 (by omega) (zM7 ?_)) λd=>absurd (k g) (j d)) λg=>zbJ (λd=>L 16 (by omega) (zM7 ?_)) λd=>zbJ (λl=>L 4 (by omega) (zM7 ?_)) λl=>L 100 (by omega) (zM7 ?_));{have:=k g;omega};{have:=k d;omega};{have:=k l;omega};{have:=j g;have:=j d;have:=j l;omega}
def zbaD:zc3:=[(275,[false,true,true],zB6)]++zbaC
def zXj:zcd zbaD:=zcP zXi (by
 intro x a;simp only[qG,qO,or_false]at a;rcases a with rfl
 .exact zPV)
def ziu {x y:Int}(a:0<=x)(b:x<=1000000)(c:0<=y)(d:y<=1000000):zM .i64 x y=x+y:=zr2 (by omega) (by omega)
def zlf {a:Type}{l:List a}(h:ln l<=1000000):few (ln l)=true:=qI ⟨by unfold ln;omega,by omega⟩
def zhW {a:Type}(l:List a)(x:a):ln (ap l [x])=ln l+1:=by simp[ln,ap]
def zxV (N:Nat)(c:Cur)  : OA :=
 (iter (σ:=(Int×Int×Int×lI×LI×Unit)) N (λj d=>let e:=d.2.2.2.1;let f:=d.2.2.2.2.1;let g:=(⟨f,d.2.1,d.2.2.1⟩:Cur);let a:=({ (zf g 7) with b:=f}:Cur); (oN (zD g 7)<|cond (ilt d.1<|zM .i64 2<|zx g 7) (oN (zk5 a)<|oN (few<|ln<|ap e [zgV a])<|j (zM .i64 d.1 1,(zhb a).i,(zhb a).h,ap e [zgV a],f,()))<|oN (zde a 3)<|cond (zdq a 3) (oN (few<|ln<|ap e [(⟨7,0⟩:Ins)])<|some [.agg [.s .u8 f,.i .i64 (zV a 3).i,.i .i64 (zV a 3).h],aS .ins<|ap e [(⟨7,0⟩:Ins)]])<|oN (few<|ln<|ap e [(⟨8,0⟩:Ins)])<|some [.agg [.s .u8 f,.i .i64 (zV a 3).i,.i .i64 (zV a 3).h],aS .ins<|ap e [(⟨8,0⟩:Ins)]])) (0,c.i,c.h,[],c.b,()))
def zUD:=zq [(181,0,{n:=29,tm:=[(0,.lp 0 0),(3,.sl 0 []),(4,ti)],lo:=[(0,[.sl 1 [],ti,ti])],ro:=[(0,.ins,true),(1,.u8,false)]})]
def zqY (c:Cur)(s:Cur)(a:List Ins):Prop:=(∃N,zxV N c=some (AV.agg (zb4 s)::[aS .ins a]))/\(s.b=c.b/\0<=s.i)/\(zdI a=true)
def zib (c:Cur)  : Bool:=wC (zqY c)
def zbe (c:Cur)  : Cur:=wS (zqY c)
def zce (c:Cur)  : List Ins:=wV (zqY c)
def zsJ {c:Cur}(h:zib c=true):zqY c (zbe c) (zce c):=wG h
def zjJ (c:Cur)  : 0<=(zbe c).i:=wP λh=>h.2.1.2
def zZP (c:Cur)(h:∃N,Ends (wE (λa=>aS .ins a) c.b λa=>zdI a=true)<|zxV N c):zib c=true:=wI (λ_ _ h=>h) h
def zzA:zek:=rP0 λc=>(zib c,zbe c,[aS .ins<|zce c])
def zMQ:zbW Tryz.prog 181 [false,true,true] zzA:=hP0 zdv zU zXj zn zUD (λ_ h=>(zsJ h).1)
def zEY {c:Cur}(h:zbi c):zib c=true:=by
 refine zZP c ⟨9,?_⟩;unfold zxV oN;conv=>zeta
 refine zl6 (λn s=>s.1+(n:Int)=8/\0<=s.1/\0<=s.2.1/\(∀x∈s.2.2.2.1,zeS x=true)/\ln s.2.2.2.1=s.1/\s.2.2.2.2.1=c.b) ?_ 9 8 _ ⟨rfl,kS 0,h.1,by simp,rfl,rfl⟩ (by omega);rintro n ⟨t,i,k,l,b,u⟩ rec ⟨B,g,v,j,w,z⟩ f;dsimp only at B g v j w z ⊢;subst z;have a:zbi ⟨c.b,i,k⟩:=zbS h v;have d:=zgg a (n:=7) (by omega);have A:=ziu (x:=2) (by omega) (by omega) d.1 (by omega);have m:zbi {zf ⟨c.b,i,k⟩ 7 with b:=c.b}:=zbS h (zI _ _);have e:∀(y:Ins),zeS y=true->2<=t->zdI (ap l [y])=true:=(by intro y C D;unfold zdI;rw[zhW,w];have:(ap l [y]).all zeS=true:=(by simp only[ap,List.all_append,kW,List.all_nil,vC,qE];exact⟨qM.2 j,C⟩);rw[this,cT];simp only[zk,ige,ile,qE,q0];omega);refine zC (zbF a 7) (zbJ (λp=>?_) λp=>?_);{have r:t<zM .i64 2 (zx ⟨c.b,i,k⟩ 7):=qD p;rw[A]at r;refine zC (zUO m) (zC (zlf (by rw[zhW];omega))<|f (n-1) _ (by omega) ⟨?_,?_,zBi _,?_,?_,rfl⟩);{show zM .i64 t 1+_=8;rw[ziu g (by omega) (by omega) (by omega)];omega};{show 0<=zM .i64 t 1;rw[ziu g (by omega) (by omega) (by omega)];omega};{intro x d;rcases jJ.1 d with d|d;{exact j x d};{rw [qF.1 d];exact(zN0<|zUO m).2.2}};{show ln (ap l [_])=zM .i64 t 1;rw[zhW,ziu g (by omega) (by omega) (by omega)];omega}};{have q:¬ t<zM .i64 2 (zx ⟨c.b,i,k⟩ 7):=jP p;rw[A]at q;refine zC (zkj m 3) (zbJ (λ_=>zC (zlf (by rw[zhW];omega)) (zbP (aS .ins) (zcw _ _) (e _ rfl (by omega)))) λ_=>zC (zlf (by rw[zhW];omega)) (zbP (aS .ins) (zcw _ _) (e _ rfl (by omega))))}
def zbaE:zc3:=[(181,[false,true,true],zzA)]++zbaD
def zXk:zcd zbaE:=zcP zXj (by
 intro x a;simp only[qG,qO,or_false]at a;rcases a with rfl
 .exact zMQ)
def zYF {f:Type}{c:Cur}(h:zbi c){P:f->Prop}{fc:Cur->Bool}{fs:Cur->Cur}{fv:Cur->f}(C:∀{c:Cur},zbi c->fc c=true)(D:∀c,0<=(fs c).i)(hg:∀{c:Cur},zbi c->P (fv c)){G:Ans->Prop}{R:Cur->List f->Ans}(B:∀s l,s.b=c.b->0<=s.i->1<=l.length->l.length<=2->(∀x∈l,P x)->G (R s l)){F:(Int×Int×Int×List f×LI×Unit->OA)->Int×Int×Int×List f×LI×Unit->OA}(A:∀rec t i k l,F rec (t,i,k,l,c.b,())=bif zD ⟨c.b,i,k⟩ 2 then (bif ilt t (zM .i64 1 (zx ⟨c.b,i,k⟩ 2)) then (bif fc { zf ⟨c.b,i,k⟩ 2 with b:=c.b } then (bif few (ln (ap l [fv { zf ⟨c.b,i,k⟩ 2 with b:=c.b }])) then
        rec (zM .i64 t 1,(fs {zf ⟨c.b,i,k⟩ 2 with b:=c.b}).i,(fs {zf ⟨c.b,i,k⟩ 2 with b:=c.b}).h,ap l [fv {zf ⟨c.b,i,k⟩ 2 with b:=c.b}],c.b,()) else none) else none) else some (R ⟨c.b,(zf ⟨c.b,i,k⟩ 2).i,(zf ⟨c.b,i,k⟩ 2).h⟩ l)) else none) :
 Ends G (iter 3 F (0,c.i,c.h,[],c.b,())):=by
 refine zl6 (fun n s=>s.1+(n:Int)=2/\0<=s.1/\0<=s.2.1/\(∀x∈s.2.2.2.1,P x)/\ln s.2.2.2.1=s.1/\s.2.2.2.2.1=c.b) ?_ 3 2 _ ⟨rfl,kS 0,h.1,by simp,rfl,rfl⟩ (by omega)
 rintro n ⟨t,i,k,l,b,u⟩ rec ⟨z,m,p,g,q,r⟩ e
 dsimp only at z m p g q r
 subst r;rw[A];have a:zbi ⟨c.b,i,k⟩:=zbS h p;have d:=zgg a (n:=2) (by omega)
 have w:=ziu (x:=1) (by omega) (by omega) d.1 (by omega)
 have v:zbi {zf ⟨c.b,i,k⟩ 2 with b:=c.b}:=zbS h (zI _ _);refine zC (zbF a 2) (zbJ (fun j=>?_) (fun j=>?_))
 .have hlt:t<zM .i64 1 (zx ⟨c.b,i,k⟩ 2):=qD j;rw[w]at hlt;have E:=ziu (y:=1) m (by omega) (by omega) (by omega)
  refine zC (C v) (zC (zlf (by rw[zhW];omega)) (e (n-1) _ (by omega) ⟨?_,?_,D _,?_,?_,rfl⟩))
  .show zM .i64 t 1+_=2
   omega
  .show 0<=zM .i64 t 1
   omega
  .intro x d;rcases jJ.1 d with d|d
   .exact g x d
   .rw [qF.1 d];exact hg v
  .show ln (ap l [_])=zM .i64 t 1
   rw[zhW];omega
 .have hge:¬ t<zM .i64 1 (zx ⟨c.b,i,k⟩ 2):=jP j;rw[w]at hge;unfold ln at q;exact znQ (B _ l rfl (zI _ _) (by omega) (by omega) g)
def zve (N:Nat)(c:Cur)  : OA :=
 (iter (σ:=(Int×Int×Int×lP×LI×Unit)) N (λg a=>let f:=a.2.2.2.2.1;let e:=(⟨f,a.2.1,a.2.2.1⟩:Cur);let d:=({ (zf e 2) with b:=f}:Cur); (oN (zD e 2)<|cond (ilt a.1<|zM .i64 1<|zx e 2) (oN (zib d)<|oN (few<|ln<|ap a.2.2.2.1 [zce d])<|g (zM .i64 a.1 1,(zbe d).i,(zbe d).h,ap a.2.2.2.1 [zce d],f,()))<|some [.agg [.s .u8 f,.i .i64 (zf e 2).i,.i .i64 (zf e 2).h],aS (.sl .ins) a.2.2.2.1])) (0,c.i,c.h,[],c.b,()))
def zRq:=zq [(74,0,{n:=19,tm:=[(0,.lp 0 0),(3,.sl 0 []),(4,ti)],lo:=[(0,[.sl 1 [],ti,ti])],ro:=[(0,.sl .ins,true),(1,.u8,false)]})]
def zoE (c:Cur)(s:Cur)(a:List (List Ins)):Prop:=(∃N,zve N c=some (AV.agg (zb4 s)::[aS (.sl .ins) a]))/\(s.b=c.b/\0<=s.i)/\(1<=a.length/\a.length<=2/\∀x∈a,zdI x=true)
def zku (c:Cur)  : Bool:=wC (zoE c)
def zkv (c:Cur)  : Cur:=wS (zoE c)
def zq7 (c:Cur)  : List (List Ins):=wV (zoE c)
def zFj {c:Cur}(h:zku c=true):zoE c (zkv c) (zq7 c):=wG h
def zXR (c:Cur)  : 0<=(zkv c).i:=wP λh=>h.2.1.2
def zXQ (c:Cur)(h:∃N,Ends (wE (λa=>aS (.sl .ins) a) c.b λa=>1<=a.length/\a.length<=2/\∀x∈a,zdI x=true)<|zve N c):zku c=true:=wI (λ_ _ h=>h) h
def zxj:zek:=rP0 λc=>(zku c,zkv c,[aS (.sl .ins)<|zq7 c])
def zJQ:zbW Tryz.prog 74 [false,true,true] zxj:=hP0 zdv zU zXk zn zRq (λ_ h=>(zFj h).1)
def z0W {c:Cur}(h:zbi c):zku c=true:=by
 refine zXQ c ⟨3,?_⟩;unfold zve oN;conv=>zeta
 exact zYF h (P:=λx=>zdI x=true) (fc:=zib) (fs:=zbe) (fv:=zce) (R:=λs l=>AV.agg (zb4 s)::[aS (.sl .ins) l]) zEY zjJ (λh=>(zsJ<|zEY h).2.2) (λs l d e a b f=>⟨s,l,rfl,⟨d,e⟩,a,b,f⟩) (λrec t i k l=>rfl)
def zbaF:zc3:=[(74,[false,true,true],zxj)]++zbaE
def zXl:zcd zbaF:=zcP zXk (by
 intro x a;simp only[qG,qO,or_false]at a;rcases a with rfl
 .exact zJQ)
def zAk (N:Nat)(c:Cur)  : OA :=
 (iter (σ:=(Int×Int×Int×lQ×LI×Unit)) N (λg a=>let f:=a.2.2.2.2.1;let e:=(⟨f,a.2.1,a.2.2.1⟩:Cur);let d:=({ (zf e 2) with b:=f}:Cur); (oN (zD e 2)<|cond (ilt a.1<|zM .i64 1<|zx e 2) (oN (zku d)<|oN (few<|ln<|ap a.2.2.2.1 [zq7 d])<|g (zM .i64 a.1 1,(zkv d).i,(zkv d).h,ap a.2.2.2.1 [zq7 d],f,()))<|some [.agg [.s .u8 f,.i .i64 (zf e 2).i,.i .i64 (zf e 2).h],aS (.sl<|.sl .ins) a.2.2.2.1])) (0,c.i,c.h,[],c.b,()))
def zYA:=zq [(72,0,{n:=19,tm:=[(0,.lp 0 0),(3,.sl 0 []),(4,ti)],lo:=[(0,[.sl 1 [],ti,ti])],ro:=[(0,.sl<|.sl .ins,true),(1,.u8,false)]})]
def zsO (c:Cur)(s:Cur)(a:List (List<|List Ins)):Prop:=(∃N,zAk N c=some (AV.agg (zb4 s)::[aS (.sl<|.sl .ins) a]))/\(s.b=c.b/\0<=s.i)/\(1<=a.length/\a.length<=2/\∀p∈a,1<=p.length/\p.length<=2/\∀x∈p,zdI x=true)
def zq8 (c:Cur)  : Bool:=wC (zsO c)
def znx (c:Cur)  : Cur:=wS (zsO c)
def zwi (c:Cur)  : List (List<|List Ins):=wV (zsO c)
def zN2 {c:Cur}(h:zq8 c=true):zsO c (znx c) (zwi c):=wG h
def z3o (c:Cur)  : 0<=(znx c).i:=wP λh=>h.2.1.2
def z3n (c:Cur)(h:∃N,Ends (wE (λa=>aS (.sl<|.sl .ins) a) c.b λa=>1<=a.length/\a.length<=2/\∀p∈a,1<=p.length/\p.length<=2/\∀x∈p,zdI x=true)<|zAk N c):zq8 c=true:=wI (λ_ _ h=>h) h
def zCb:zek:=rP0 λc=>(zq8 c,znx c,[aS (.sl<|.sl .ins)<|zwi c])
def zP0:zbW Tryz.prog 72 [false,true,true] zCb:=hP0 zdv zU zXl zn zYA (λ_ h=>(zN2 h).1)
def z9i {c:Cur}(h:zbi c):zq8 c=true:=by
 refine z3n c ⟨3,?_⟩;unfold zAk oN;conv=>zeta
 exact zYF h (P:=λp=>1<=p.length/\p.length<=2/\∀x∈p,zdI x=true) (fc:=zku) (fs:=zkv) (fv:=zq7) (R:=λs l=>AV.agg (zb4 s)::[aS (.sl<|.sl .ins) l]) z0W zXR (λh=>(zFj<|z0W h).2.2) (λs l d e a b f=>⟨s,l,rfl,⟨d,e⟩,a,b,f⟩) (λrec t i k l=>rfl)
def zbaG:zc3:=[(72,[false,true,true],zCb)]++zbaF
def zXm:zcd zbaG:=zcP zXl (by
 intro x a;simp only[qG,qO,or_false]at a;rcases a with rfl
 .exact zP0)
def zFN {c:Type}{G:c->Prop}{x:Bool}{a b:Option c}(k:Ends G a)(h:x=true:=by first
 |exact zbF (by first|assumption|exact zbS (by assumption) (zI _ _)|exact zbS (by assumption) (zcw _ _)|exact zbS (by assumption) (zb6 _ _)) _
 |exact zkj (by first|assumption|exact zbS (by assumption) (zI _ _)|exact zbS (by assumption) (zcw _ _)) _
 |exact zfv (by first|assumption|exact zbS (by assumption) (zI _ _)) (by simp)):Ends G (cond x a b):=zC h k
def zAh (N:Nat)(c:Cur)  : OA :=
 let f:=zx c 4;let j:=({ (zf c 4) with b:=c.b}:Cur);let e:=zdq j 4;let d:=zV j 4;let a:=({d with b:=c.b}:Cur);let g:=({ (zV a 2) with b:=c.b}:Cur); (oN (zD c 4)<|oN (zde j 4)<|cond (nB e) (cond (ine f 2) (oN (zde a 2)<|cond (zdq a 2) (oN (zD g 256)<|some [.agg [.s .u8 c.b,.i .i64 (zf g 256).i,.i .i64 (zf g 256).h],.agg [.i .i64 f,.i .i64<|zx g 256,.b<|nB e]])<|some [.agg [.s .u8 c.b,.i .i64 (zV a 2).i,.i .i64 (zV a 2).h],.agg [.i .i64 f,.i .i64 0,.b<|nB e]])<|some [.agg [.s .u8 c.b,.i .i64 d.i,.i .i64 d.h],.agg [.i .i64 f,.i .i64 0,.b<|nB e]])<|some [.agg [.s .u8 c.b,.i .i64 d.i,.i .i64 d.h],.agg [.i .i64 f,.i .i64 0,.b<|nB e]])
def zsL (c:Cur)(s:Cur)(a:Ctl):Prop:=(∃N,zAh N c=some (AV.agg (zb4 s)::[.agg<|znF a]))/\(s.b=c.b/\0<=s.i)/\(True)
def zk6 (c:Cur)  : Bool:=wC (zsL c)
def zcs (c:Cur)  : Cur:=wS (zsL c)
def zcQ (c:Cur)  : Ctl:=wV (zsL c)
def z3g {c:Cur}(h:zk6 c=true):zsL c (zcs c) (zcQ c):=wG h
def zBk (c:Cur)  : 0<=(zcs c).i:=wP λh=>h.2.1.2
def z3h (c:Cur)(h:∃N,Ends (wE (λa=>.agg (znF a)) c.b λa=>True)<|zAh N c):zk6 c=true:=wI (λ_ _ h=>h) h
def zB8:zek:=rP0 λc=>(zk6 c,zcs c,[.agg<|znF<|zcQ c])
def zPX:zbW Tryz.prog 320 [false,true,true] zB8:=hP0 zdv zU zXm zn (zq []) (λ_ h=>(z3g h).1)
def z1G {c:Cur}(h:zbi c):zk6 c=true:=by
 refine z3h c ⟨0,?_⟩;unfold zAh oN nB;conv=>zeta
 refine zFN (zFN<|zbJ (λ_=>zbJ (λ_=>zFN (zbJ (λ_=>zFN (?_)) λ_=>?_)) λ_=>?_) λ_=>?_);all_goals exact zbP (λx=>AV.agg (znF x)) (v:=⟨_,_,_⟩) (by first|exact zI _ _|exact zcw _ _) trivial
def zbaH:zc3:=[(320,[false,true,true],zB8)]++zbaG
def zKk:zcd zbaH:=zcP zXm (by
 intro x a;simp only[qG,qO,or_false]at a;rcases a with rfl
 .exact zPX)
def zeA {c:Type}{G:c->Prop}{x:Bool}{a b:Option c}(k:Ends G a)(h:x=true:=by first
 |exact zbF (by first|assumption|exact zbS (by assumption) (zI _ _)|exact zbS (by assumption) (zb6 _ _)) _
 |exact zfv (by first|assumption|exact zbS (by assumption) (zI _ _)) (by simp)
 |exact z1G (zbS (by assumption)<|zI _ _)):Ends G (cond x a b):=zC h k
def zAn (N:Nat)(c:Cur)  : OA :=
 let m:=({ (zf c 2) with b:=c.b}:Cur);let g:=zx c 2;let f:=zx m 2;let u:=({ (zf m 2) with b:=c.b}:Cur);let e:=zf u 24;let d:=zx u 24;let a:=({e with b:=c.b}:Cur);let j:=zf a 8;let l:=({ (zf a 4) with b:=c.b}:Cur);let k:=({j with b:=c.b}:Cur);let t:=({ (zf a 16) with b:=c.b}:Cur);let r:=({ (zbg a [16,17]) with b:=c.b}:Cur);let q:=({ (zbg a [13,13,14,15]) with b:=c.b}:Cur);let p:=({ (zf k 4) with b:=c.b}:Cur);let n:=({ (zf l 8) with b:=c.b}:Cur); (share (oN (zbA a [13,13,14,15])<|oN (zD q 8)<|some [.agg [.s .u8 c.b,.i .i64 (zf q 8).i,.i .i64 (zf q 8).h],.agg [.i .i64<|zbs a [13,13,14,15],.i .i64 g,.i .i64 f,.i .i64<|zx q 8,.i .i64 0,.i .i64 0]]) λA=>share (cond (ieq d 16) (oN (zbA a [16,17])<|oN (zD r 4)<|some [.agg [.s .u8 c.b,.i .i64 (zf r 4).i,.i .i64 (zf r 4).h],.agg [.i .i64<|zbs a [16,17],.i .i64 g,.i .i64 f,.i .i64<|zx r 4,.i .i64 0,.i .i64 0]])<|some [.agg [.s .u8 c.b,.i .i64 e.i,.i .i64 e.h],.agg [.i .i64 1,.i .i64 g,.i .i64 f,.i .i64 0,.i .i64 0,.i .i64 0]]) λz=>share (oN (zD a 4)<|oN (zD l 8)<|oN (zbA n [3,3,1,2])<|some [.agg [.s .u8 c.b,.i .i64 (zbg n [3,3,1,2]).i,.i .i64 (zbg n [3,3,1,2]).h],.agg [.i .i64 2,.i .i64 g,.i .i64 f,.i .i64<|zx a 4,.i .i64<|zx l 8,.i .i64<|zbs n [3,3,1,2]]]) λy=>share (oN (zD a 4)<|some [.agg [.s .u8 c.b,.i .i64 (zf a 4).i,.i .i64 (zf a 4).h],.agg [.i .i64 3,.i .i64 g,.i .i64 f,.i .i64<|zx a 4,.i .i64 0,.i .i64 0]]) λx=>share (cond (ieq d 7) (oN (zD a 8)<|some [.agg [.s .u8 c.b,.i .i64 j.i,.i .i64 j.h],.agg [.i .i64 6,.i .i64 g,.i .i64 f,.i .i64<|zx a 8,.i .i64 0,.i .i64 0]])<|cond (ieq d 8) (oN (zk6 a)<|cond ((zcQ a).Open) (some [.agg [.s .u8 c.b,.i .i64 (zcs a).i,.i .i64 (zcs a).h],.agg [.i .i64 7,.i .i64 g,.i .i64 f,.i .i64 (zcQ a).Traps,.i .i64 (zcQ a).Post,.i .i64 1]])<|some [.agg [.s .u8 c.b,.i .i64 (zcs a).i,.i .i64 (zcs a).h],.agg [.i .i64 7,.i .i64 g,.i .i64 f,.i .i64 (zcQ a).Traps,.i .i64 (zcQ a).Post,.i .i64 0]])<|cond (ieq d 9) (oN (zD a 8)<|oN (zD k 4)<|oN (zD p 100)<|some [.agg [.s .u8 c.b,.i .i64 (zf p 100).i,.i .i64 (zf p 100).h],.agg [.i .i64 8,.i .i64 g,.i .i64 f,.i .i64<|zx a 8,.i .i64<|zx k 4,.i .i64<|zx p 100]])<|cond (ieq d 10) (oN (zD a 8)<|some [.agg [.s .u8 c.b,.i .i64 j.i,.i .i64 j.h],.agg [.i .i64 9,.i .i64 g,.i .i64 f,.i .i64<|zx a 8,.i .i64 0,.i .i64 0]])<|cond (ieq d 11) (some [.agg [.s .u8 c.b,.i .i64 e.i,.i .i64 e.h],.agg [.i .i64 10,.i .i64 g,.i .i64 f,.i .i64 0,.i .i64 0,.i .i64 0]])<|cond (ieq d 12) (oN (zD a 16)<|oN (zD t 100)<|some [.agg [.s .u8 c.b,.i .i64 (zf t 100).i,.i .i64 (zf t 100).h],.agg [.i .i64 11,.i .i64 g,.i .i64 f,.i .i64<|zx a 16,.i .i64<|zx t 100,.i .i64 0]])<|cond (ieq d 13) (oN (zD a 16)<|some [.agg [.s .u8 c.b,.i .i64 (zf a 16).i,.i .i64 (zf a 16).h],.agg [.i .i64 12,.i .i64 g,.i .i64 f,.i .i64<|zx a 16,.i .i64 0,.i .i64 0]])<|cond (ieq d 14) (cond (ieq d 14) A z)<|cond (ieq d 15) A z) λv=>share (cond (ieq d 4) (oN (zD a 100)<|some [.agg [.s .u8 c.b,.i .i64 (zf a 100).i,.i .i64 (zf a 100).h],.agg [.i .i64 4,.i .i64 g,.i .i64 f,.i .i64<|zx a 100,.i .i64 0,.i .i64 0]])<|cond (ieq d 5) (cond (ieq d 5) (some [.agg [.s .u8 c.b,.i .i64 e.i,.i .i64 e.h],.agg [.i .i64 5,.i .i64 g,.i .i64 f,.i .i64 0,.i .i64 0,.i .i64 0]]) v)<|cond (ieq d 6) (some [.agg [.s .u8 c.b,.i .i64 e.i,.i .i64 e.h],.agg [.i .i64 5,.i .i64 g,.i .i64 f,.i .i64 0,.i .i64 0,.i .i64 0]]) v) λw=>share (cond (ieq d 2) (cond (ieq d 2) x w)<|cond (ieq d 3) x w) λB=>oN (zD c 2)<|oN (zD m 2)<|oN (zD u 24)<|cond (ieq d 0) (cond (ieq d 0) y B)<|cond (ieq d 1) y B)
def zsU (c:Cur)(s:Cur)(a:GAct):Prop:=(∃N,zAn N c=some (AV.agg (zb4 s)::[aT .act a]))/\(s.b=c.b/\0<=s.i)/\(True)
def zk9 (c:Cur)  : Bool:=wC (zsU c)
def zh0 (c:Cur)  : Cur:=wS (zsU c)
def zrV (c:Cur)  : GAct:=wV (zsU c)
def z3q {c:Cur}(h:zk9 c=true):zsU c (zh0 c) (zrV c):=wG h
def z3s (c:Cur)  : 0<=(zh0 c).i:=wP λh=>h.2.1.2
def z3r (c:Cur)(h:∃N,Ends (wE (λa=>aT .act a) c.b λa=>True)<|zAn N c):zk9 c=true:=wI (λ_ _ h=>h) h
def zCd:zek:=rP0 λc=>(zk9 c,zh0 c,[aT .act<|zrV c])
def zP5:zbW Tryz.prog 288 [false,true,true] zCd:=hP0 zdv zU zKk zn (zq []) (λ_ h=>(z3q h).1)
def zbdK {c:Cur}(h:zbi c):zk9 c=true:=by
 refine z3r c ⟨0,?_⟩;unfold zAn oN;conv=>zeta
 refine zoK (zeA<|zeA<|?_) (λ_ g=>zoK (zbJ (λ_=>zeA (zeA<|?_)) λ_=>?_) λ_ f=>zoK (zeA<|zeA<|zeA<|?_) λ_ e=>zoK (zeA<|?_) λ_ d=>zoK (zbJ (λ_=>zeA (?_)) λ_=>zbJ (λ_=>zeA (zbJ (λ_=>?_) λ_=>?_)) λ_=>zbJ (λ_=>zeA (zeA<|zeA<|?_)) λ_=>zbJ (λ_=>zeA (?_)) λ_=>zbJ (λ_=>?_) λ_=>zbJ (λ_=>zeA (zeA<|?_)) λ_=>zbJ (λ_=>zeA (?_)) λ_=>zbJ (λ_=>zbJ (λ_=>g) λ_=>f) λ_=>zbJ (λ_=>g) λ_=>f) λ_ a=>zoK (zbJ (λ_=>zeA (?_)) λ_=>zbJ (λ_=>zbJ (λ_=>?_) λ_=>a) λ_=>zbJ (λ_=>?_) λ_=>a) λ_ b=>zoK (zbJ (λ_=>zbJ (λ_=>d) λ_=>b) λ_=>zbJ (λ_=>d) λ_=>b) λ_ i=>zeA (zeA<|zeA<|zbJ (λ_=>zbJ (λ_=>e) λ_=>i) λ_=>zbJ (λ_=>e) λ_=>i));all_goals exact zbP (aT .act) (v:=⟨_,_,_,_,_,_⟩) (by first|exact zI _ _|exact zb6 _ _|exact zBk _) trivial
def zlZ (N:Nat)  : OA :=
 (iter (σ:=(Int×lA×Unit)) N (λe c=>cond (ilt c.1 2) (iter (σ:=(Int×Int×lA×Unit)) N (λf b=>cond (ilt b.2.1 2) (iter (σ:=(Int×Int×Int×lA×Unit)) N (λg a=>let d:=ap a.2.2.2.1 [(⟨2,a.1,a.2.1,a.2.2.1,zM .i64 a.2.2.1<|zmL .i64 3 a.2.1,3⟩:GAct),(⟨3,a.1,a.2.1,a.2.2.1,0,0⟩:GAct)]; (cond (ilt a.2.2.1 3) (oN (few<|ln d)<|g (a.1,a.2.1,zM .i64 a.2.2.1 1,d,()))<|f (a.1,zM .i64 a.2.1 1,a.2.2.2.1,()))) (b.1,b.2.1,0,b.2.2.1,()))<|e (zM .i64 b.1 1,b.2.2.1,())) (c.1,0,c.2.1,()))<|some [aS .act c.2.1]) (0,[],()))
def zRr:=zq [(287,0,{n:=34,tm:=[(1,.sl 0 []),(2,ti)],lo:=[],ro:=[(0,.act,true)]}),(287,2,{n:=34,tm:=[(1,.sl 0 []),(2,ti),(3,ti)],lo:=[],ro:=[(0,.act,true)]}),(287,4,{n:=34,tm:=[(1,.sl 0 []),(2,ti),(3,ti),(4,ti)],lo:=[],ro:=[(0,.act,true)]})]
def zt3  (a:List GAct):Prop:=(∃N,zlZ N=some [aS .act a])/\(a.length<=45)
def zkx  : Bool:=uC (T:=List GAct) (λr=>zt3 r)
def zXT  : List GAct:=uV (λr=>zt3 r)
def zuN  : List GAct:=(zXT)
def zFk  (h:zkx=true):zt3 zuN:=uG h
def zXS  (h:∃N,Ends (λa=>∃b,a=[aS .act b]/\(b.length<=45))<|zlZ N):zkx=true:=by obtain⟨N,a,e,b,rfl,h⟩:=h;exact zbd ⟨b,⟨N,e⟩,h⟩
def zzY:Run:=rF0 (zkx,[aS .act zuN])
def zQO  (a:zkx=true):∃N,zlZ N  = some [aS .act zuN]:=by exact(zFk a).1
def zJR:vM 287 zzY:=kF0 zdv zU zKk zn zRr zQO
def z4a:List GAct:=match zlZ 10 with
 |some [.one<|.s .act l]=>l
 |_=>[]
def z0n:zkx=true:=zXS ⟨10,_,(by kernel_rfl:zlZ 10=some [aS .act z4a]),z4a,rfl,Nat.le_of_ble_eq_true (by kernel_rfl)⟩
def zbaI:zc3:=[(288,[false,true,true],zCd)]++zbaH
def zXn:zcd zbaI:=zcP zKk (by
 intro x a;simp only[qG,qO,or_false]at a;rcases a with rfl
 .exact zP5)
def zbcT:zY:=[(287,zzY)]++zx8
def z4d:zS zbcT:=zh zJR zdv
def zSz {c:Cur}(h:zbi c){m:Int}(e:0<=m)(J:m<=1000){G:Ans->Prop}{R:Cur->List GAct->Ans}(D:∀s l,s.b=c.b->0<=s.i->ln l<=45+m->G (R s l)){F:(Int×Int×Int×Int×List GAct×LI×Unit->OA)->Int×Int×Int×Int×List GAct×LI×Unit->OA}(C:∀rec t i k l,F rec (m,t,i,k,l,c.b,())=bif zD ⟨c.b,i,k⟩ (zM .i64 m 1) then (bif ilt t (zx ⟨c.b,i,k⟩ (zM .i64 m 1)) then (bif zk9 { zf ⟨c.b,i,k⟩ (zM .i64 m 1) with b:=c.b } then (bif few (ln (ap l [zrV { zf ⟨c.b,i,k⟩ (zM .i64 m 1) with b:=c.b }])) then
        rec (m,zM .i64 t 1,(zh0 {zf ⟨c.b,i,k⟩ (zM .i64 m 1) with b:=c.b}).i,(zh0 {zf ⟨c.b,i,k⟩ (zM .i64 m 1) with b:=c.b}).h,ap l [zrV {zf ⟨c.b,i,k⟩ (zM .i64 m 1) with b:=c.b}],c.b,()) else none) else none) else some (R ⟨c.b,(zf ⟨c.b,i,k⟩ (zM .i64 m 1)).i,(zf ⟨c.b,i,k⟩ (zM .i64 m 1)).h⟩ l)) else none){w I:Int}(f:0<=w){g:List GAct}(E:g.length<=45):Ends G (iter 1002 F (m,0,w,I,g,c.b,())):=by
 refine zl6 (fun n s=>s.1=m/\s.2.1+(n:Int)=1000/\0<=s.2.1/\0<=s.2.2.1/\(ln s.2.2.2.2.1<=45+s.2.1/\s.2.1<=m)/\s.2.2.2.2.2.1=c.b) ?_ 1002 1000 _ ⟨rfl,rfl,kS 0,f,⟨by unfold ln;show ((g.length:Nat):Int)<=45+0;omega,e⟩,rfl⟩ (by omega)
 rintro n ⟨q,t,i,k,l,b,u⟩ rec ⟨e,z,j,p,⟨A,H⟩,r⟩ d
 dsimp only at e z j p A r H
 subst r;subst e;rw[C];have a:zbi ⟨c.b,i,k⟩:=zbS h p;have L:=ziu (x:=q) (y:=1) (by omega) (by omega) (by omega) (by omega)
 have M:=zgg a (n:=zM .i64 q 1) (by omega)
 have B:zbi {zf ⟨c.b,i,k⟩ (zM .i64 q 1) with b:=c.b}:=zbS h (zI _ _);refine zC (zbF a _) (zbJ (fun v=>?_) (fun v=>?_))
 .have hlt:t<zx ⟨c.b,i,k⟩ (zM .i64 q 1):=qD v;have K:=ziu (y:=1) j (by omega) (by omega) (by omega)
  refine zC (zbdK B) (zC (zlf (by rw[zhW];omega)) (d (n-1) _ (by omega) ⟨rfl,?_,?_,z3s _,⟨?_,?_⟩,rfl⟩))
  .show zM .i64 t 1+_=1000
   omega
  .show 0<=zM .i64 t 1
   omega
  .show ln (ap l [_])<=45+zM .i64 t 1
   rw[zhW];omega
  .show zM .i64 t 1<=q
   omega
 .refine znQ (D _ l rfl (zI _ _) ?_);omega
def zx2 (N:Nat)(c:Cur)(p:Int):OA:=
 (oN (zde c 5)<|cond (nB<|zdq c 5) (oN zkx<|iter (σ:=(Int×Int×Int×Int×lA×LI×Unit)) N (λn a=>let l:=a.2.2.2.2.2.1;let f:=zM .i64 a.1 1;let d:=(⟨l,a.2.2.1,a.2.2.2.1⟩:Cur);let j:=({ (zf d f) with b:=l}:Cur);let q:=ap a.2.2.2.2.1 [zrV j]; (oN (zD d f)<|cond (ilt a.2.1<|zx d f) (oN (zk9 j)<|oN (few<|ln q)<|n (a.1,zM .i64 a.2.1 1,(zh0 j).i,(zh0 j).h,q,l,()))<|some [.agg [.s .u8 l,.i .i64 (zf d f).i,.i .i64 (zf d f).h],aS .act a.2.2.2.2.1])) (p,0,(zV c 5).i,(zV c 5).h,zuN,c.b,()))<|iter (σ:=(Int×Int×Int×Int×lA×LI×Unit)) N (λn a=>let m:=a.2.2.2.2.2.1;let g:=zM .i64 a.1 1;let e:=(⟨m,a.2.2.1,a.2.2.2.1⟩:Cur);let k:=({ (zf e g) with b:=m}:Cur);let r:=ap a.2.2.2.2.1 [zrV k]; (oN (zD e g)<|cond (ilt a.2.1<|zx e g) (oN (zk9 k)<|oN (few<|ln r)<|n (a.1,zM .i64 a.2.1 1,(zh0 k).i,(zh0 k).h,r,m,()))<|some [.agg [.s .u8 m,.i .i64 (zf e g).i,.i .i64 (zf e g).h],aS .act a.2.2.2.2.1])) (p,0,(zV c 5).i,(zV c 5).h,[],c.b,()))
def zUG:=zq [(204,0,{n:=26,tm:=[(0,.lp 0 0),(1,ti),(5,.sl 0 []),(6,ti)],lo:=[(0,[.sl 1 [],ti,ti])],ro:=[(0,.act,true),(1,.u8,false)]})]
def zra (c:Cur)(a:Int)(s:Cur)(d:List GAct):Prop:=(∃N,zx2 N c a=some (AV.agg (zb4 s)::[aS .act d]))/\(s.b=c.b/\0<=s.i)/\(ln d<=45+a)
def zoh (c:Cur)(a:Int):Bool:=wC (zra c a)
def zoi (c:Cur)(a:Int):Cur:=wS (zra c a)
def ztv (c:Cur)(a:Int):List GAct:=wV (zra c a)
def zIs {c:Cur}{a:Int}(h:zoh c a=true):zra c a (zoi c a) (ztv c a):=wG h
def zZZ (c:Cur)(a:Int):0<=(zoi c a).i:=wP λh=>h.2.1.2
def zZY (c:Cur)(a:Int)(h:∃N,Ends (wE (λd=>aS .act d) c.b λd=>ln d<=45+a)<|zx2 N c a):zoh c a=true:=wI (λ_ _ h=>h) h
def zzE:zek:=rP1 dI λc b=>(zoh c b,zoi c b,[aS .act<|ztv c b])
def zM3:zbW Tryz.prog 204 [false,true,true] zzE:=hP1 z4d zU zXn zn zUG (λ_ _ h=>(zIs h).1)
def z3Q {c:Cur}(h:zbi c){m:Int}(e:0<=m)(f:m<=1000):zoh c m=true:=by
 refine zZY c m ⟨1002,?_⟩;unfold zx2 oN nB;conv=>zeta
 have g:=zFk z0n;exact zC (zkj h 5) (zbJ (λ_=>zC z0n (zSz h e f (R:=λs l=>AV.agg (zb4 s)::[aS .act l]) (λs l a b d=>⟨s,l,rfl,⟨a,b⟩,d⟩) (λrec t i k l=>rfl) (zcw _ _) g.2)) λ_=>zSz h e f (R:=λs l=>AV.agg (zb4 s)::[aS .act l]) (λs l a b d=>⟨s,l,rfl,⟨a,b⟩,d⟩) (λrec t i k l=>rfl) (zcw _ _) (jW _))
def zbaJ:zc3:=[(204,[false,true,true],zzE)]++zbaI
def zXo:zcd zbaJ:=zcP zXn (by
 intro x a;simp only[qG,qO,or_false]at a;rcases a with rfl
 .exact zM3)
@[simp] abbrev zgZ (l:List LI):Bool:=pc (SmM l)
@[simp] abbrev zd8 (l:List LI):List LI:=l
def zCe:Run:=rF1 (dS<|.sl .int) λb=>(zgZ b,[aS (.sl .int)<|zd8 b])
def zHd (N:Nat)(c:lM):OA:=
 (iter (σ:=(Int×Int×lM×lM×Unit)) N (λd a=>let b:=ix a.2.2.2.1 a.2.1 []; (cond (ilt a.2.1 a.1) (oN (inb a.2.1<|ln a.2.2.2.1)<|oN (zee b)<|oN (few<|ln<|ap a.2.2.1 [zec b])<|d (a.1,zM .i64 a.2.1 1,ap a.2.2.1 [zec b],a.2.2.2.1,()))<|some [aS (.sl .int) a.2.2.1])) (ln c,0,[],c,()))
def zUx:=zq [(196,0,{n:=20,tm:=[(3,.sl 0 []),(7,.sl 1 []),(8,ti),(9,ti)],lo:=[],ro:=[(0,.sl .int,true),(1,.sl .int,false)]})]
def zTL (a:List LI)(g:zgZ a=true):∃N,zHd N a=some [aS (.sl .int)<|zd8 a]:=by
 have f:=zO.1 g;have e:=zcJ f.1;refine zcg λN d=>?_;unfold zHd oN;conv=>zeta
 refine(zbj a (λi (t:lM)=>(ln a,(i:Int),t,a,())) _ (λ_ x b j=>bif zee x then (cond (few<|ln<|ap b [zec x]) (j<|ap b [zec x]) none) else none) (λ(t:lM)=>some [.one<|.s (.sl .int) t]) (λi c t rec=>?_) (λt rec=>?_) _ ([])<|d e.1).trans ?_;{simp only [zbr c,zZ c,zbk c,zba c e.1,cT]};{simp only [zbl,cF]};exact zkJ zee zec _ a 0 [] (λx h=>⟨by exact zbd (qU (f.2 x h) (by decide)),rfl⟩) (by simpa using e.2)
def zMp:vM 196 zCe:=kF1 zgN zA zo zn zUx zTL
@[simp] abbrev zQ (g:Guest):Bool:=pc (SmG g)
@[simp] abbrev zcV (g:Guest):Guest:=g
def zxn:Run:=rF1 (dT .guest) λb=>(zQ b,[aT .guest<|zcV b])
def zBE (N:Nat)(a:Guest):OA:=
 (oN (zvF a.Prog)<|oN (zhD a.Written)<|oN (zhD a.Live)<|oN (zee a.Seen)<|some [aT .guest ({a with Prog:=(zpL a.Prog),Written:=(zf1 a.Written),Live:=(zf1 a.Live),Seen:=(zec a.Seen)}:Guest)])
def zNh (a:Guest)(b:zQ a=true):∃N,zBE N a=some [aT .guest<|zcV a]:=by have c:=zO.1 b;obtain⟨h,i,j,k⟩:=c;have d:a.Prog.length<=2147483648:=(by omega);have e:a.Written.length<=2147483648:=(by omega);have f:a.Live.length<=2147483648:=(by omega);have g:a.Seen.length<=2147483648:=(by omega);refine⟨0,?_⟩;unfold zBE oN;refine mu (mu<|mu<|mu ?_);first|rfl|(simp only [*,zcV,cT,cF]<;>rfl)|simp_all[Ty.cells,zcV]
def zGi:vM 233 zxn:=kF1 zgN zA zo zn (zq []) zNh
def ze6 (t:List Slot)(p n:Int):Bool:=bif ieq (zbE t p).Page (-1) then false else (cond (enough (zbE t p).Rights n) (zk n 1 3) false)
def zco (t:List Slot)(p n:Int):Int:=bif ze6 t p n then (zbE t p).Page else -1
def z8C {r:Int}(h:zd1 r=true):0<=r/\r<=3:=zfL.1 h
def z1Z {a n:Int}(h:enough a n=true):zk n 1 3 = !ieq n 0:=by unfold enough at h;cases b:zd1 a;{rw [b]at h;cases h};{cases c:zd1 n;{rw [b,c]at h;cases h};{have:=z8C c;have e:(zk n 1 3=true)↔(!ieq n 0)=true:=(by rw[zfL];simp[ieq];omega);cases d:zk n 1 3<;>cases f:(!ieq n 0)<;>simp_all}}
@[simp] abbrev zfB (t:List Slot)(p n:Int):Bool:=true
@[simp] abbrev zeu (t:List Slot)(p n:Int):Int:=zco t p n
@[simp] abbrev zdL (t:List Slot)(p n:Int):Bool:=ze6 t p n
def zlS:Run:=rF3 (dS .slot) dI dI λb c d=>(zfB b c d,[aI<|zeu b c d,aB<|zdL b c d])
def zBC (N:Nat)(c:lS)(d a:Int):OA:=
 let b:=zer c d; (oN (zfh c d)<|cond (ieq b.Page<|-1) (some [aI<|-1,aB false])<|oN (zby b.Rights a)<|cond (nB<|zcZ b.Rights a) (some [aI<|-1,aB false])<|oN (zL a 1 3)<|cond (nB<|zk a 1 3) (some [aI<|-1,aB false])<|some [aI b.Page,aB true])
def zNf (a:List Slot)(b c:Int)(d:zfB a b c=true):∃N,zBC N a b c=some [aI<|zeu a b c,aB<|zdL a b c]:=by
 refine⟨0,?_⟩;unfold zBC oN nB;conv=>zeta
 refine must rfl (br (λ_=>?_) λ_=>must rfl (brN (λ_=>?_) λ_=>must rfl (brN (λ_=>?_) λ_=>?_)));all_goals first|rfl|(simp only [*,zeu,zdL,zco,ze6,cT,cF]<;>rfl)|simp_all[Ty.cells,zeu,zdL,zco,ze6]
def zGg:vM 246 zlS:=kF3 zgN zA zo zn (zq []) zNf
def zBU (N:Nat)(c:lS)(d b:Int):OA:=
 let a:=zer c d; (oN (zfh c d)<|cond (ieq a.Page<|-1) (some [aI<|-1,aB false])<|oN (zby a.Rights b)<|cond (nB<|zcZ a.Rights b) (some [aI<|-1,aB false])<|cond (ieq b 0) (some [aI<|-1,aB false])<|some [aI a.Page,aB true])
def zNx (a:List Slot)(b c:Int)(d:zfB a b c=true):∃N,zBU N a b c=some [aI<|zeu a b c,aB<|zdL a b c]:=by
 have e:=@z1Z (zbE a b).Rights c;refine⟨0,?_⟩;unfold zBU oN nB;conv=>zeta
 refine must rfl (br (λ_=>?_) λ_=>must rfl (brN (λ_=>?_) λ_=>br (λ_=>?_) λ_=>?_));all_goals first|rfl|(simp only [*,zeu,zdL,zco,ze6,cT,cF]<;>rfl)|simp_all[Ty.cells,zeu,zdL,zco,ze6]
def zGv:vM 159 zlS:=kF3 zgN zA zo zn (zq []) zNx
def z96:zY:=[(352,zi1),(196,zCe),(233,zxn),(159,zlS),(246,zlS),(118,zsr),(116,zsr),(221,zql),(216,zql),(222,zso),(217,zso),(314,zp5),(306,zp5)]++z95
def zgO:zS z96:=zh zpf (zh zMp<|zh zGi<|zh zGv<|zh zGg<|zh zTq<|zh zTd<|zh zPI<|zh zPj<|zh zTm<|zh zTa<|zh zPP<|zh zPp zgN)
@[simp] abbrev zey (m:List LI)(p c v:Int):Bool:=pc (SmM m)
@[simp] abbrev zeP (m:List LI)(p c v:Int):List LI:=zbQ m p c v
def znj:Run:=rF4 (dS<|.sl .int) dI dI dI λb c d e=>(zey b c d e,[aS (.sl .int)<|zeP b c d e])
def zDD (N:Nat)(c:lM)(a d e:Int):OA:=
 let b:=zfq c; (oN (zg9 c)<|oN (zeQ c a d)<|cond (zrU c a d) (oN (zL e 0 99)<|cond (zk e 0 99) (oN (inb a<|ln b)<|oN (inb d<|ln<|ix b a [])<|share (up b a<|up (ix b a []) d e) λf=>some [aS (.sl .int) f])<|some [aS (.sl .int) b])<|some [aS (.sl .int) b])
def zQL (a:List LI)(b c d:Int)(e:zey a b c d=true):∃N,zDD N a b c d=some [aS (.sl .int)<|zeP a b c d]:=by
 have g:=zO.1 e;have f:=(zA7 a b c).1;refine⟨0,?_⟩;unfold zDD oN;conv=>zeta
 refine mu (must rfl (br (λ_=>must rfl (br (λ_=>mu (mu<|shr ?_)) λ_=>?_)) λ_=>?_));all_goals first|rfl|(simp only [*,zeP,zbQ,cT,cF]<;>rfl)|simp_all[Ty.cells,zeP,zbQ]
def zJI:vM 164 znj:=kF4 zgO zA zo zn (zq []) zQL
def zC6 (N:Nat)(a:lM)(b c d:Int):OA:=
 let e:=aS (.sl .int)<|zd8 a; (oN (zgZ a)<|oN (zby b<|ln a)<|cond (zdk b<|ln a) (oN (inb b<|ln a)<|oN (zby c<|ln<|ix a b [])<|cond (zdk c<|ln<|ix a b []) (oN (zL d 0 99)<|cond (zk d 0 99) (oN (inb b<|ln<|zd8 a)<|oN (inb c<|ln<|ix (zd8 a) b [])<|share (up (zd8 a) b<|up (ix (zd8 a) b []) c d) λf=>some [aS (.sl .int) f])<|some [e])<|some [e])<|some [e])
def zQi (a:List LI)(b c d:Int)(e:zey a b c d=true):∃N,zC6 N a b c d=some [aS (.sl .int)<|zeP a b c d]:=by
 have f:=zO.1 e;refine⟨0,?_⟩;unfold zC6 oN;conv=>zeta
 refine mu (must rfl (br (λ_=>mu (must rfl (br (λ_=>must rfl (br (λ_=>mu (mu<|shr ?_)) λ_=>?_)) λ_=>?_))) λ_=>?_));all_goals first|rfl|(simp only [*,zeP,zbQ,zgJ,cT,cF]<;>rfl)|simp_all[Ty.cells,zeP,zbQ,zgJ]
def zJj:vM 135 znj:=kF4 zgO zA zo zn (zq []) zQi
def zjP (g:Guest):Bool:=bif canRun g then (cond g.Ctl.Open (ige (zeg g.Pending) 0) false) else false
@[simp] abbrev zbp (g:Guest):Bool:=true
@[simp] abbrev zk3 (g:Guest):Bool:=zjP g
def zni:Run:=rF1 (dT .guest) λb=>(zbp b,[aB<|zk3 b])
def zDC (N:Nat)(a:Guest):OA:=
 (oN (zkZ a)<|cond (zjC a) (cond a.Ctl.Open (oN (zcj a.Pending)<|some [aB<|ige (zhC a.Pending) 0]) oF) oF)
def zzm (a:Guest)(b:zbL big [aT .guest a])(c:zbp a=true):∃N,zDC N a=some [aB<|zk3 a]:=by refine⟨0,?_⟩;unfold zDC oN;refine must rfl (br (λ_=>br (λ_=>must rfl ?_) λ_=>?_) λ_=>?_);all_goals first|rfl|(simp only [*,zk3,zjP,cT,cF]<;>rfl)|simp_all[Ty.cells,zk3,zjP]
def zJH:vM 251 zni:=hF1 zgO zA zo zn (zq []) zzm
def zJi:vM 230 zni:=hF1 zgO zA zo zn (zq []) zzm
def zi6 (p:Int):Int:=bif ilt (zeg p) 0 then p else wsub .i64 p (zmM .i64 1<|zeg p)
def zpO (p:Int):Int:=bif ilt (zeg p) 0 then -1 else zeg p
def zS2 {p:Int}(h:ilt (zeg p) 0=false):wcv .u64 (zeg p)=zeg p/\ile 0 (zeg p)=true/\zBv .i64 p (zmM .i64 1<|zeg p)=wsub .i64 p (zmM .i64 1<|zeg p):=by unfold zeg at *;cases a:zdU p;{rw [a]at h;cases h};{simp only [a,cT]at h ⊢;obtain⟨c,d⟩:=zfL.1 a;have r:=zET (P:=λx=>-1<=scan x/\scan x<=7/\(0<=scan x->wsub .i64 x (zmM .i64 1<|scan x)=zBv .i64 x (zmM .i64 1<|scan x))) zXU c d;have b:0<=scan p:=(by unfold ilt at h;have:=jP h;omega);exact⟨zRx b (by omega),qI b,(r.2.2 b).symm⟩}
@[simp] abbrev zf7 (p:Int):Int:=zi6 p
@[simp] abbrev zf8 (p:Int):Int:=zpO p
@[simp] abbrev zia (p:Int):Bool:=!ilt (zeg p) 0
def zow:Run:=rF1 dI λb=>(zcj b,[aI<|zf7 b,aI<|zf8 b,aB<|zia b])
def zHD (N:Nat)(a:Int):OA:=
 (oN (zcj a)<|cond (ilt (zhC a) 0) (some [aI a,aI<|-1,aB false])<|oN (ile 0<|wcv .u64<|zhC a)<|some [aI<|wsub .i64 a<|zmM .i64 1<|wcv .u64<|zhC a,aI<|zhC a,aB true])
def zT8 (a:Int)(b:zcj a=true):∃N,zHD N a=some [aI<|zf7 a,aI<|zf8 a,aB<|zia a]:=by have c:=@zS2 a;refine⟨0,?_⟩;unfold zHD oN;refine must rfl (br (λ_=>?_) λ_=>mu ?_);all_goals first|rfl|(simp only [*,zf7,zf8,zia,zi6,zpO,cT,cF]<;>rfl)|simp_all[Ty.cells,zf7,zf8,zia,zi6,zpO]
def zMI:vM 253 zow:=kF1 zgO zA zo zn (zq []) zT8
def zHc (N:Nat)(a:Int):OA:=
 (oN (zcj a)<|cond (ilt (zhC a) 0) (some [aI a,aI<|-1,aB false])<|oN (ile 0<|zhC a)<|some [aI<|zBv .i64 a<|zmM .i64 1<|zhC a,aI<|zhC a,aB true])
def zTK (a:Int)(b:zcj a=true):∃N,zHc N a=some [aI<|zf7 a,aI<|zf8 a,aB<|zia a]:=by have c:=@zS2 a;refine⟨0,?_⟩;unfold zHc oN;refine must rfl (br (λ_=>?_) λ_=>mu ?_);all_goals first|rfl|(simp only [*,zf7,zf8,zia,zi6,zpO,cT,cF]<;>rfl)|simp_all[Ty.cells,zf7,zf8,zia,zi6,zpO]
def zMo:vM 313 zow:=kF1 zgO zA zo zn (zq []) zTK
def saw (g:Guest)(n:Int):Guest:=bif ilt (ln g.Seen) 40 then {g with Seen:=ap g.Seen [n]} else g
@[simp] def zQ6 {g:Guest}(n:Int)(h:SmG g):SmG (saw g n):=by unfold saw;cases a:ilt (ln g.Seen) 40;{exact h};{have:=qD a;refine⟨h.1,h.2.1,h.2.2.1,?_⟩;simp[ln] at *;omega}
@[simp] abbrev zu3 (g:Guest)(n:Int):Bool:=pc (SmG g)
@[simp] abbrev zqI (g:Guest)(n:Int):Guest:=saw g n
def zxv:Run:=rF2 (dT .guest) dI λb c=>(zu3 b c,[aT .guest<|zqI b c])
def z0l (N:Nat)(a:Guest)(b:Int):OA:=
 (oN (zdH a)<|cond (ilt (ln (zdg a).Seen) 40) (oN (few<|ln<|ap (zdg a).Seen [b])<|some [aT .guest ({ (zdg a) with Seen:=(ap (zdg a).Seen [b])}:Guest)])<|some [aT .guest<|zdg a])
def z5u (a:Guest)(b:Int)(c:zu3 a b=true):∃N,z0l N a b=some [aT .guest<|zqI a b]:=by have d:=zO.1 c;have e:a.Seen.length<=1048576:=d.2.2.2;refine⟨0,?_⟩;unfold z0l oN;refine mu (br (λ_=>mu ?_) λ_=>?_);all_goals first|rfl|(simp only [*,zqI,saw,cT,cF]<;>rfl)|simp_all[Ty.cells,zqI,saw]
def zZc:vM 254 zxv:=kF2 zgO zA zo zn (zq []) z5u
def z0h (N:Nat)(a:Guest)(b:Int):OA:=
 (oN (zQ a)<|cond (ilt (ln a.Seen) 40) (oN (few<|ln<|ap (zcV a).Seen [b])<|some [aT .guest ({ (zcV a) with Seen:=(ap (zcV a).Seen [b])}:Guest)])<|some [aT .guest<|zcV a])
def z5q (a:Guest)(b:Int)(c:zu3 a b=true):∃N,z0h N a b=some [aT .guest<|zqI a b]:=by have d:=zO.1 c;have e:a.Seen.length<=1048576:=d.2.2.2;refine⟨0,?_⟩;unfold z0h oN;refine mu (br (λ_=>mu ?_) λ_=>?_);all_goals first|rfl|(simp only [*,zqI,saw,cT,cF]<;>rfl)|simp_all[Ty.cells,zqI,saw]
def zY8:vM 235 zxv:=kF2 zgO zA zo zn (zq []) z5q
def stopped (g:Guest)(e:GExit):Guest:={g with Exit:=e}
@[simp] def zbdI {g:Guest}(e:GExit)(h:SmG g):SmG (stopped g e):=h
@[simp] abbrev zcv (g:Guest)(e:GExit):Bool:=pc (SmG g)
@[simp] abbrev zcr (g:Guest)(e:GExit):Guest:=stopped g e
def zou:Run:=rF2 (dT .guest) dE λb c=>(zcv b c,[aT .guest<|zcr b c])
def zHB (N:Nat)(a:Guest)(b:GExit):OA:=
 (oN (zdH a)<|some [aT .guest ({ (zdg a) with Exit:=b}:Guest)])
def zT6 (a:Guest)(b:GExit)(c:zcv a b=true):∃N,zHB N a b=some [aT .guest<|zcr a b]:=by have d:=zO.1 c;refine⟨0,?_⟩;unfold zHB oN;refine mu ?_;first|rfl|(simp only [*,zcr,stopped,cT,cF]<;>rfl)|simp_all[Ty.cells,zcr,stopped]
def zMG:vM 162 zou:=kF2 zgO zA zo zn (zq []) zT6
def zHa (N:Nat)(a:Guest)(b:GExit):OA:=
 (oN (zQ a)<|some [aT .guest ({ (zcV a) with Exit:=b}:Guest)])
def zTI (a:Guest)(b:GExit)(c:zcv a b=true):∃N,zHa N a b=some [aT .guest<|zcr a b]:=by have d:=zO.1 c;refine⟨0,?_⟩;unfold zHa oN;refine mu ?_;first|rfl|(simp only [*,zcr,stopped,cT,cF]<;>rfl)|simp_all[Ty.cells,zcr,stopped]
def zMm:vM 133 zou:=kF2 zgO zA zo zn (zq []) zTI
def zca (g:Guest):Guest:=bif ige g.Pc 12 then {g with Pc:=12} else {g with Pc:=zM .i64 g.Pc 1}
@[simp] def zmI {g:Guest}(h:SmG g):SmG (zca g):=by unfold zca;cases ige g.Pc 12<;>exact h
@[simp] abbrev zci (g:Guest):Guest:=zca g
def zh5:Run:=rF1 (dT .guest) λb=>(zQ b,[aT .guest<|zci b])
def zRR (N:Nat)(a:Guest):OA:=
 (oN (zdH a)<|cond (ige (zdg a).Pc 12) (some [aT .guest ({ (zdg a) with Pc:=12}:Guest)])<|some [aT .guest ({ (zdg a) with Pc:=(zM .i64 (zdg a).Pc 1)}:Guest)])
def zZv (a:Guest)(b:zQ a=true):∃N,zRR N a=some [aT .guest<|zci a]:=by have c:=zO.1 b;refine⟨0,?_⟩;unfold zRR oN;refine mu (br (λ_=>?_) λ_=>?_);all_goals first|rfl|(simp only [*,zci,zca,cT,cF]<;>rfl)|simp_all[Ty.cells,zci,zca]
def zTs:vM 255 zh5:=kF1 zgO zA zo zn (zq []) zZv
def zRE (N:Nat)(a:Guest):OA:=
 (oN (zQ a)<|cond (ige a.Pc 12) (some [aT .guest ({ (zcV a) with Pc:=12}:Guest)])<|some [aT .guest ({ (zcV a) with Pc:=(zM .i64 a.Pc 1)}:Guest)])
def zZj (a:Guest)(b:zQ a=true):∃N,zRE N a=some [aT .guest<|zci a]:=by have c:=zO.1 b;refine⟨0,?_⟩;unfold zRE oN;refine mu (br (λ_=>?_) λ_=>?_);all_goals first|rfl|(simp only [*,zci,zca,cT,cF]<;>rfl)|simp_all[Ty.cells,zci,zca]
def zTf:vM 234 zh5:=kF1 zgO zA zo zn (zq []) zZj
def z97:zY:=[(164,znj),(135,znj),(251,zni),(230,zni),(253,zow),(313,zow),(254,zxv),(235,zxv),(162,zou),(133,zou),(255,zh5),(234,zh5)]++z96
def zeV:zS z97:=zh zJI (zh zJj<|zh zJH<|zh zJi<|zh zMI<|zh zMo<|zh zZc<|zh zY8<|zh zMG<|zh zMm<|zh zTs<|zh zTf zgO)
def interrupted (g:Guest):Guest:=bif zjP g then saw {g with Pending:=zi6 g.Pending} (zM .i64 100<|zpO g.Pending) else g
@[simp] def z06 {g:Guest}(h:SmG g):SmG (interrupted g):=by unfold interrupted;cases zjP g;{exact h};{exact zQ6 (g:={g with Pending:=zi6 g.Pending}) _ h}
@[simp] abbrev zex (g:Guest):Guest:=interrupted g
def zjW:Run:=rF1 (dT .guest) λb=>(zQ b,[aT .guest<|zex b])
def zwC (N:Nat)(a:Guest):OA:=
 let c:=zM .i64 100<|zf8 a.Pending;let b:=({a with Pending:=(zf7 a.Pending)}:Guest); (oN (zbp a)<|cond (nB<|zk3 a) (oN (zdH a)<|some [aT .guest<|zdg a])<|oN (zcj a.Pending)<|oN (zu3 b c)<|some [aT .guest<|zqI b c])
def zGS (a:Guest)(b:zQ a=true):∃N,zwC N a=some [aT .guest<|zex a]:=by
 have c:=zO.1 b;have d:_/\_/\_/\_:=c;refine⟨0,?_⟩;unfold zwC oN nB;conv=>zeta
 refine must rfl (brN (λ_=>mu ?_) λ_=>must rfl (mu ?_));all_goals first|rfl|(simp only [*,zex,interrupted,cT,cF]<;>rfl)|simp_all[Ty.cells,zex,interrupted]
def zCU:vM 144 zjW:=kF1 zeV zA zo zn (zq []) zGS
def zwq (N:Nat)(a:Guest):OA:=
 let c:=zM .i64 100<|zf8 a.Pending;let b:=({a with Pending:=(zf7 a.Pending)}:Guest); (oN (zbp a)<|cond (nB<|zk3 a) (oN (zQ a)<|some [aT .guest<|zcV a])<|oN (zcj a.Pending)<|oN (zu3 b c)<|some [aT .guest<|zqI b c])
def zGI (a:Guest)(b:zQ a=true):∃N,zwq N a=some [aT .guest<|zex a]:=by
 have c:=zO.1 b;have d:_/\_/\_/\_:=c;refine⟨0,?_⟩;unfold zwq oN nB;conv=>zeta
 refine must rfl (brN (λ_=>mu ?_) λ_=>must rfl (mu ?_));all_goals first|rfl|(simp only [*,zex,interrupted,cT,cF]<;>rfl)|simp_all[Ty.cells,zex,interrupted]
def zCK:vM 244 zjW:=kF1 zeV zA zo zn (zq []) zGI
def zzr (o:Int):Int:=bif ieq o 3 then 3 else (cond (ieq o 4) 4<|cond (ieq o 5) 5<|cond (ieq o 6) 6<|cond (ieq o 7) 7 2)
def zN (g:Guest):Int:=bif canRun g then (cond (zjP g) 1<|zzr (zcp g.Prog g.Pc).Op) else 0
@[simp] abbrev zgU (g:Guest):Int:=zN g
def zqq:Run:=rF1 (dT .guest) λb=>(zbp b,[aI<|zgU b])
def zLA (N:Nat)(a:Guest):OA:=
 let b:=(zdD a.Prog a.Pc).Op; (oN (zkZ a)<|cond (nB<|zjC a) (some [aI 0])<|oN (zbp a)<|cond (zk3 a) (some [aI 1])<|oN (zdp a.Prog a.Pc)<|cond (ieq b 3) (some [aI 3])<|cond (ieq b 4) (some [aI 4])<|cond (ieq b 5) (some [aI 5])<|cond (ieq b 6) (some [aI 6])<|cond (ieq b 7) (some [aI 7])<|some [aI 2])
def zEM (a:Guest)(b:zbL big [aT .guest a])(c:zbp a=true):∃N,zLA N a=some [aI<|zgU a]:=by
 refine⟨0,?_⟩;unfold zLA oN nB;conv=>zeta
 refine must rfl (brN (λ_=>?_) λ_=>must rfl (br (λ_=>?_) λ_=>must rfl (br (λ_=>?_) λ_=>br (λ_=>?_) λ_=>br (λ_=>?_) λ_=>br (λ_=>?_) λ_=>br (λ_=>?_) λ_=>?_)));all_goals first|rfl|(simp only [*,zgU,zN,zzr,cT,cF]<;>rfl)|simp_all[Ty.cells,zgU,zN,zzr]
def zcz:vM 143 zqq:=hF1 zeV zA zo zn (zq []) zEM
def zPr:vM 128 zqq:=hF1 zeV zA zo zn (zq []) zEM
def held (g:Guest):Guest:=zca {g with Halted:=true}
@[simp] def zXZ {g:Guest}(h:SmG g):SmG (held g):=zmI (g:={g with Halted:=true}) h
@[simp] abbrev zln (g:Guest):Guest:=held g
def zuC:Run:=rF1 (dT .guest) λb=>(zQ b,[aT .guest<|zln b])
def zU5 (N:Nat)(b:Guest):OA:=
 let a:=({b with Halted:=true}:Guest); (oN (zQ a)<|some [aT .guest<|zci a])
def zNu (a:Guest)(d:zbL big [aT .guest a])(b:zQ a=true):∃N,zU5 N a=some [aT .guest<|zln a]:=by
 have c:=zO.1 b;have e:_/\_/\_/\_:=c;refine⟨0,?_⟩;unfold zU5 oN;conv=>zeta
 refine mu ?_;first|rfl|(simp only [*,zln,held,cT,cF]<;>rfl)|simp_all[Ty.cells,zln,held]
def zV8:vM 267 zuC:=hF1 zeV zA zo zn (zq []) zNu
def zV3:vM 239 zuC:=hF1 zeV zA zo zn (zq []) zNu
def zLw (N:Nat)(a:Guest):OA:=
 (oN (zQ a)<|some [aT .guest<|zci a])
def zEL (a:Guest)(c:zbL big [aT .guest a])(b:zQ a=true):∃N,zLw N a=some [aT .guest<|zci a]:=by have d:=zO.1 b;refine⟨0,?_⟩;unfold zLw oN;refine mu ?_;first|rfl|(simp only [*,zci,cT,cF]<;>rfl)|simp_all[Ty.cells,zci]
def zPN:vM 166 zh5:=hF1 zeV zA zo zn (zq []) zEL
def zPo:vM 137 zh5:=hF1 zeV zA zo zn (zq []) zEL
def loaded (g:Guest)(v:Int):Guest:=zca (saw {g with A:=v} v)
@[simp] def zOc {g:Guest}(v:Int)(h:SmG g):SmG (loaded g v):=zmI (zQ6 (g:={g with A:=v}) v h)
@[simp] abbrev zjr (g:Guest)(v:Int):Bool:=pc (SmG g)
@[simp] abbrev ziR (g:Guest)(v:Int):Guest:=loaded g v
def zqg:Run:=rF2 (dT .guest) dI λb c=>(zjr b c,[aT .guest<|ziR b c])
def zLj (N:Nat)(c:Guest)(a:Int):OA:=
 let b:=({c with A:=a}:Guest); (oN (zu3 b a)<|oN (zQ<|zqI b a)<|some [aT .guest<|zci<|zqI b a])
def zEH (b:Guest)(a:Int)(e:zbL big [aT .guest b,aI a])(d:zjr b a=true):∃N,zLj N b a=some [aT .guest<|ziR b a]:=by
 have c:=zO.1 d;have h:_/\_/\_/\_:=c;have f:SmG (saw {b with A:=a} a):=zQ6 (g:={b with A:=a}) a c;refine⟨0,?_⟩;unfold zLj oN;conv=>zeta
 refine mu (mu ?_);first|rfl|(simp only [*,ziR,loaded,cT,cF]<;>rfl)|simp_all[Ty.cells,ziR,loaded]
def zPB:vM 167 zqg:=hF2 zeV zA zo zn (zq []) zEH
def zPb:vM 138 zqg:=hF2 zeV zA zo zn (zq []) zEH
def zr0 (g:Guest)(w:Int):Guest:=bif ieq w 5 then stopped g (zzs (zcp g.Prog g.Pc).X) else stopped g ⟨4,0,false,0⟩
@[simp] def zbdJ {g:Guest}(w:Int)(h:SmG g):SmG (zr0 g w):=by unfold zr0;cases ieq w 5<;>exact h
@[simp] abbrev znR (g:Guest)(w:Int):Bool:=pc (SmG g)
@[simp] abbrev zkA (g:Guest)(w:Int):Guest:=zr0 g w
def zCg:Run:=rF2 (dT .guest) dI λb c=>(znR b c,[aT .guest<|zkA b c])
def zHf (N:Nat)(a:Guest)(c:Int):OA:=
 let b:=(zdD a.Prog a.Pc).X; (cond (ieq c 5) (oN (zdp a.Prog a.Pc)<|oN (ze1 b)<|oN (zcv a<|zfV b)<|some [aT .guest<|zcr a<|zfV b])<|oN (zcv a (⟨4,0,false,0⟩:GExit))<|some [aT .guest<|zcr a (⟨4,0,false,0⟩:GExit)])
def zTN (a:Guest)(b:Int)(c:znR a b=true):∃N,zHf N a b=some [aT .guest<|zkA a b]:=by
 have d:=zO.1 c;refine⟨0,?_⟩;unfold zHf oN;conv=>zeta
 refine br (λ_=>must rfl (must rfl (mu ?_))) (λ_=>mu ?_);all_goals first|rfl|(simp only [*,zkA,zr0,cT,cF]<;>rfl)|simp_all[Ty.cells,zkA,zr0]
def zMr:vM 238 zCg:=kF2 zeV zA zo zn (zq []) zTN
def zd4 (g:Guest):Bool:=zdI g.Prog&&(zk g.A 0 99&&(zk g.Pc 0 12&&(zdj g.Written 4 8&&(zdj g.Live 4 8&&(zmV g.Ctl&&(zdU g.Pending&&(zji g.Exit&&ile (ln g.Seen) 40)))))))
@[simp] abbrev zh7 (g:Guest):Bool:=zd4 g
def zor:Run:=rF1 (dT .guest) λb=>(zbp b,[aB<|zh7 b])
def zHn (N:Nat)(a:Guest):OA:=
 (oN (zuI a.Prog)<|cond (zhJ a.Prog) (oN (zL a.A 0 99)<|cond (zk a.A 0 99) (oN (zL a.Pc 0 12)<|cond (zk a.Pc 0 12) (oN (zjF a.Written 4 8)<|cond (ze4 a.Written 4 8) (oN (zjF a.Live 4 8)<|cond (ze4 a.Live 4 8) (oN (zgD a.Ctl)<|cond (zrO a.Ctl) (oN (zcj a.Pending)<|cond (zeJ a.Pending) (oN (zuD a.Exit)<|cond (zmw a.Exit) (some [aB<|ile (ln a.Seen) 40]) oF) oF) oF) oF) oF) oF) oF) oF)
def zB1 (a:Guest)(b:zbL big [aT .guest a])(c:zbp a=true):∃N,zHn N a=some [aB<|zh7 a]:=by refine⟨0,?_⟩;unfold zHn oN;refine must rfl (br (λ_=>must rfl (br (λ_=>must rfl (br (λ_=>must rfl (br (λ_=>must rfl (br (λ_=>must rfl (br (λ_=>must rfl (br (λ_=>must rfl (br (λ_=>?_) λ_=>?_)) λ_=>?_)) λ_=>?_)) λ_=>?_)) λ_=>?_)) λ_=>?_)) λ_=>?_)) λ_=>?_);all_goals first|rfl|(simp only [*,zh7,zd4,cT,cF]<;>rfl)|simp_all[Ty.cells,zh7,zd4]
def zMu:vM 112 zor:=hF1 zeV zA zo zn (zq []) zB1
def zMh:vM 107 zor:=hF1 zeV zA zo zn (zq []) zB1
@[simp] abbrev zj9 (l:List Guest):Bool:=pc (zl0 l)
@[simp] abbrev zj8 (l:List Guest):List Guest:=l
def zvU:Run:=rF1 (dS .guest) λb=>(zj9 b,[aS .guest<|zj8 b])
def zyH (N:Nat)(c:lG):OA:=
 (iter (σ:=(Int×Int×lG×lG×Unit)) N (λd a=>let b:=ix a.2.2.2.1 a.2.1 zu; (cond (ilt a.2.1 a.1) (oN (inb a.2.1<|ln a.2.2.2.1)<|oN (zQ b)<|oN (few<|ln<|ap a.2.2.1 [zcV b])<|d (a.1,zM .i64 a.2.1 1,ap a.2.2.1 [zcV b],a.2.2.2.1,()))<|some [aS .guest a.2.2.1])) (ln c,0,[],c,()))
def zKF:=zq [(197,0,{n:=20,tm:=[(3,.sl 0 []),(7,.sl 1 []),(8,ti),(9,ti)],lo:=[],ro:=[(0,.guest,true),(1,.guest,false)]})]
def zJX (a:List Guest)(g:zj9 a=true):∃N,zyH N a=some [aS .guest<|zj8 a]:=by
 have f:=zO.1 g;have e:=zcJ f.1;refine zcg λN d=>?_;unfold zyH oN;conv=>zeta
 refine(zbj a (λi (t:lG)=>(ln a,(i:Int),t,a,())) _ (λ_ x b j=>bif zQ x then (cond (few<|ln<|ap b [zcV x]) (j<|ap b [zcV x]) none) else none) (λ(t:lG)=>some [.one<|.s .guest t]) (λi c t rec=>?_) (λt rec=>?_) _ ([])<|d e.1).trans ?_;{simp only [zbr c,zZ c,zbk c,zba c e.1,cT]};{simp only [zbl,cF]};exact zkJ zQ zcV _ a 0 [] (λx h=>⟨by exact zbd (f.2 x h),rfl⟩) (by simpa using e.2)
def zEg:vM 197 zvU:=kF1 zeV zA zo zn zKF zJX
def gAt (b:Bare)(i:Int):Guest:=bif hasB i (ln b.Guests) then ix b.Guests i zu else Ty.dflt .guest
@[simp] def zjv {b:Bare}(i:Int)(h:SmB b):SmG (gAt b i):=by unfold gAt;cases a:hasB i (ln b.Guests);{exact zbea};{exact zOb h.2.1 a _}
@[simp] abbrev zn7 (b:Bare)(i:Int):Bool:=pc (SmB b)
@[simp] abbrev zg4 (b:Bare)(i:Int):Guest:=gAt b i
@[simp] abbrev zg5 (b:Bare)(i:Int):Bool:=hasB i (ln b.Guests)
def zll:Run:=rF2 (dT .bare) dI λb c=>(zn7 b c,[aT .guest<|zg4 b c,aB<|zg5 b c])
def zHm (N:Nat)(a:Bare)(b:Int):OA:=
 let c:=ix a.Guests b zu; (oN (zL b 0<|wsub .i64 (ln a.Guests) 1)<|cond (nB<|zk b 0<|wsub .i64 (ln a.Guests) 1) (some [aT .guest (⟨[],0,0,[],[],⟨0,0,false⟩,0,⟨0,0,false,0⟩,false,[]⟩:Guest),aB false])<|oN (inb b<|ln a.Guests)<|oN (zdH c)<|some [aT .guest<|zdg c,aB true])
def zTT (a:Bare)(b:Int)(d:zn7 a b=true):∃N,zHm N a b=some [aT .guest<|zg4 a b,aB<|zg5 a b]:=by
 have c:=zO.1 d;have e:a.Guests.length<=1048576:=c.2.1.1;have f:hasB b (ln a.Guests)=true->SmG (ix a.Guests b zu):=λh=>zOb c.2.1 h _;refine⟨0,?_⟩;unfold zHm oN nB;conv=>zeta
 refine must rfl (brN (λ_=>?_) λ_=>mu (mu ?_));all_goals first|rfl|(simp only [*,zg4,zg5,gAt,Ty.dflt,cT,cF]<;>rfl)|simp_all[Ty.cells,zg4,zg5,gAt,Ty.dflt]
def zw1:vM 156 zll:=kF2 zeV zA zo zn (zq []) zTT
def zG7 (N:Nat)(a:Bare)(b:Int):OA:=
 let c:=ix a.Guests b zu; (oN (zby b<|ln a.Guests)<|cond (nB<|zdk b<|ln a.Guests) (some [aT .guest (⟨[],0,0,[],[],⟨0,0,false⟩,0,⟨0,0,false,0⟩,false,[]⟩:Guest),aB false])<|oN (inb b<|ln a.Guests)<|oN (zQ c)<|some [aT .guest<|zcV c,aB true])
def zTF (a:Bare)(b:Int)(d:zn7 a b=true):∃N,zG7 N a b=some [aT .guest<|zg4 a b,aB<|zg5 a b]:=by
 have c:=zO.1 d;have e:a.Guests.length<=1048576:=c.2.1.1;have f:hasB b (ln a.Guests)=true->SmG (ix a.Guests b zu):=λh=>zOb c.2.1 h _;refine⟨0,?_⟩;unfold zG7 oN nB;conv=>zeta
 refine must rfl (brN (λ_=>?_) λ_=>mu (mu ?_));all_goals first|rfl|(simp only [*,zg4,zg5,gAt,Ty.dflt,cT,cF]<;>rfl)|simp_all[Ty.cells,zg4,zg5,gAt,Ty.dflt]
def zMg:vM 240 zll:=kF2 zeV zA zo zn (zq []) zTF
def z98:zY:=[(144,zjW),(244,zjW),(143,zqq),(128,zqq),(267,zuC),(239,zuC),(166,zh5),(137,zh5),(167,zqg),(138,zqg),(238,zCg),(112,zor),(107,zor),(197,zvU),(156,zll),(240,zll)]++z97
def zjA:zS z98:=zh zCU (zh zCK<|zh zcz<|zh zPr<|zh zV8<|zh zV3<|zh zPN<|zh zPo<|zh zPB<|zh zPb<|zh zMr<|zh zMu<|zh zMh<|zh zEg<|zh zw1<|zh zMg zeV)
def plainly (g:Guest):Guest:=bif ine (zN g) 2 then g else (cond (zk g.A 0 99) (cond (zk (zcp g.Prog g.Pc).X 0 99) (cond (ieq (zcp g.Prog g.Pc).Op 1) {zca g with A:=(zcp g.Prog g.Pc).X}<|cond (ieq (zcp g.Prog g.Pc).Op 2) {zca g with A:=zo9 (zM .i64 g.A (zcp g.Prog g.Pc).X) 100}<|cond (ieq (zcp g.Prog g.Pc).Op 8) (cond (ieq g.A 0) {zca g with Pc:=(zcp g.Prog g.Pc).X}<|zca g)<|zca g)<|zca g)<|zca g)
@[simp] def zbd3 (g:Guest):(zca g).Prog=g.Prog:=by unfold zca;cases ige g.Pc 12<;>rfl
@[simp] def zbeD (g:Guest):(zca g).A=g.A:=by unfold zca;cases ige g.Pc 12<;>rfl
@[simp] def zbcz (g:Guest):(zca g).Written=g.Written:=by unfold zca;cases ige g.Pc 12<;>rfl
@[simp] def zbd2 (g:Guest):(zca g).Live=g.Live:=by unfold zca;cases ige g.Pc 12<;>rfl
@[simp] def zbei (g:Guest):(zca g).Ctl=g.Ctl:=by unfold zca;cases ige g.Pc 12<;>rfl
@[simp] def zbcy (g:Guest):(zca g).Pending=g.Pending:=by unfold zca;cases ige g.Pc 12<;>rfl
@[simp] def zbd1 (g:Guest):(zca g).Exit=g.Exit:=by unfold zca;cases ige g.Pc 12<;>rfl
@[simp] def zbdl (g:Guest):(zca g).Halted=g.Halted:=by unfold zca;cases ige g.Pc 12<;>rfl
@[simp] def zbd4 (g:Guest):(zca g).Seen=g.Seen:=by unfold zca;cases ige g.Pc 12<;>rfl
@[simp] def zbej (g:Guest)(x:Int):(zca {g with A:=x}).Pc=(zca g).Pc:=by unfold zca;cases ige g.Pc 12<;>rfl
@[simp] def zIw {g:Guest}(h:SmG g):SmG (plainly g):=by have a:=zmI h;unfold plainly;cases ine (zN g) 2;{cases zk g.A 0 99;{exact a};{cases zk (zcp g.Prog g.Pc).X 0 99;{exact a};{cases ieq (zcp g.Prog g.Pc).Op 1;{cases ieq (zcp g.Prog g.Pc).Op 2;{cases ieq (zcp g.Prog g.Pc).Op 8;{exact a};{cases ieq g.A 0<;>exact a}};{exact a}};{exact a}}}};{exact h}
@[simp] abbrev zhi (g:Guest):Guest:=plainly g
def zop:Run:=rF1 (dT .guest) λb=>(zQ b,[aT .guest<|zhi b])
def zG9 (N:Nat)(a:Guest):OA:=
 let c:=aT .guest<|zci a;let b:=zdD a.Prog a.Pc; (oN (zbp a)<|cond (ine (zgU a) 2) (oN (zQ a)<|some [aT .guest<|zcV a])<|oN (zdp a.Prog a.Pc)<|oN (zQ a)<|oN (zL a.A 0 99)<|cond (nB<|zk a.A 0 99) (some [c])<|oN (zL b.X 0 99)<|cond (nB<|zk b.X 0 99) (some [c])<|cond (ieq b.Op 1) (some [aT .guest ({ (zci a) with A:=b.X}:Guest)])<|cond (ieq b.Op 2) (oN (ine 100 0)<|some [aT .guest ({ (zci a) with A:=(zo9 (zM .i64 a.A b.X) 100)}:Guest)])<|cond (ieq b.Op 8) (cond (ieq a.A 0) (some [aT .guest ({ (zci a) with Pc:=b.X}:Guest)])<|some [c])<|some [c])
def zTH (a:Guest)(b:zQ a=true):∃N,zG9 N a=some [aT .guest<|zhi a]:=by
 have c:=zO.1 b;refine⟨0,?_⟩;unfold zG9 oN nB;conv=>zeta
 refine must rfl (br (λ_=>mu ?_) λ_=>must rfl (mu (must rfl (brN (λ_=>?_) λ_=>must rfl (brN (λ_=>?_) λ_=>br (λ_=>?_) λ_=>br (λ_=>must rfl ?_) λ_=>br (λ_=>br (λ_=>?_) λ_=>?_) λ_=>?_)))));all_goals first|rfl|(simp only [*,zhi,plainly,cT,cF]<;>rfl)|simp_all[Ty.cells,zhi,plainly]
def zMl:vM 245 zop:=kF1 zjA zA zo zn (zq []) zTH
def zHz (N:Nat)(a:Guest):OA:=
 let i:=ieq a.A 0;let c:=zQ a;let b:=aT .guest<|zci a;let d:=zdD a.Prog a.Pc;let j:=({a with A:=d.X}:Guest);let h:=ieq d.Op 8;let e:=zk d.X 0 99;let g:=aT .guest ({ (zdg a) with Pc:=d.X}:Guest);let f:=({a with A:=(zo9 (zM .i64 a.A d.X) 100)}:Guest); (oN (zbp a)<|cond (ine (zgU a) 2) (oN (zdH a)<|some [aT .guest<|zdg a])<|oN (zdp a.Prog a.Pc)<|oN (zL a.A 0 99)<|cond (zk a.A 0 99) (oN (zL d.X 0 99)<|cond e (cond (ieq d.Op 1) (oN (zQ j)<|some [aT .guest<|zci j])<|cond e (cond (ieq d.Op 2) (oN (ine 100 0)<|oN (zQ f)<|some [aT .guest<|zci f])<|cond e (cond h (cond i (oN (zdH a)<|some [g])<|oN c<|some [b])<|oN c<|some [b])<|oN c<|some [b])<|cond e (cond h (cond i (oN (zdH a)<|some [g])<|oN c<|some [b])<|oN c<|some [b])<|oN c<|some [b])<|cond e (cond (ieq d.Op 2) (oN (ine 100 0)<|oN (zQ f)<|some [aT .guest<|zci f])<|cond e (cond h (cond i (oN (zdH a)<|some [g])<|oN c<|some [b])<|oN c<|some [b])<|oN c<|some [b])<|cond e (cond h (cond i (oN (zdH a)<|some [g])<|oN c<|some [b])<|oN c<|some [b])<|oN c<|some [b])<|oN c<|some [b])
def zT4 (a:Guest)(b:zQ a=true):∃N,zHz N a=some [aT .guest<|zhi a]:=by
 have c:=zO.1 b;have d:_/\_/\_/\_:=c;refine⟨0,?_⟩;unfold zHz oN;conv=>zeta
 refine must rfl (br (λ_=>mu ?_) λ_=>must rfl (must rfl (br (λ_=>must rfl (br (λ_=>br (λ_=>mu ?_) λ_=>br (λ_=>br (λ_=>must rfl (mu ?_)) λ_=>br (λ_=>br (λ_=>br (λ_=>mu ?_) λ_=>mu ?_) λ_=>mu ?_) λ_=>mu ?_) λ_=>br (λ_=>br (λ_=>br (λ_=>mu ?_) λ_=>mu ?_) λ_=>mu ?_) λ_=>mu ?_) λ_=>br (λ_=>br (λ_=>must rfl (mu ?_)) λ_=>br (λ_=>br (λ_=>br (λ_=>mu ?_) λ_=>mu ?_) λ_=>mu ?_) λ_=>mu ?_) λ_=>br (λ_=>br (λ_=>br (λ_=>mu ?_) λ_=>mu ?_) λ_=>mu ?_) λ_=>mu ?_)) λ_=>mu ?_)));all_goals first|rfl|(simp only [*,zhi,plainly,cT,cF]<;>rfl)|simp_all[Ty.cells,zhi,plainly]
def zME:vM 145 zop:=kF1 zjA zA zo zn (zq []) zT4
def address (g:Guest):Int:=bif ine (zN g) 3 then (cond (ine (zN g) 4) (-1)<|(zcp g.Prog g.Pc).X) else (zcp g.Prog g.Pc).X
@[simp] abbrev zgC (g:Guest):Int:=address g
def zoq:Run:=rF1 (dT .guest) λb=>(zbp b,[aI<|zgC b])
def zHh (N:Nat)(a:Guest):OA:=
 (oN (zbp a)<|cond (ine (zgU a) 3) (cond (ine (zgU a) 4) (some [aI<|-1])<|oN (zdp a.Prog a.Pc)<|some [aI (zdD a.Prog a.Pc).X])<|oN (zdp a.Prog a.Pc)<|some [aI (zdD a.Prog a.Pc).X])
def zB0 (a:Guest)(b:zbL big [aT .guest a])(c:zbp a=true):∃N,zHh N a=some [aI<|zgC a]:=by refine⟨0,?_⟩;unfold zHh oN;refine must rfl (br (λ_=>br (λ_=>?_) λ_=>must rfl ?_) λ_=>must rfl ?_);all_goals first|rfl|(simp only [*,zgC,address,cT,cF]<;>rfl)|simp_all[Ty.cells,zgC,address]
def zMt:vM 158 zoq:=hF1 zjA zA zo zn (zq []) zB0
def zMf:vM 129 zoq:=hF1 zjA zA zo zn (zq []) zB0
def zfY (g:Guest)(t w:Int):Guest:=bif ieq w 6 then stopped g (zvj (zcp g.Prog g.Pc).X) else (cond (ieq w 5&&zd5 t 1) (stopped g<|zzs (zcp g.Prog g.Pc).X)<|cond (ieq w 7&&zd5 t 2) (stopped g ⟨4,0,false,0⟩)<|cond (ieq w 7) (held g)<|zca g)
def zhz (t w:Int):Bool:=bif ieq w 6 then false else (cond (ieq w 5&&zd5 t 1) false<|cond (ieq w 7&&zd5 t 2) false true)
@[simp] def zFp {g:Guest}(t w:Int)(h:SmG g):SmG (zfY g t w):=by unfold zfY;cases ieq w 6;{cases (ieq w 5&&zd5 t 1);{cases (ieq w 7&&zd5 t 2);{cases ieq w 7;{exact zmI h};{exact zXZ h}};{exact h}};{exact h}};{exact h}
@[simp] abbrev zd2 (g:Guest)(t w:Int):Bool:=pc (SmG g)
@[simp] abbrev zcq (g:Guest)(t w:Int):Guest:=zfY g t w
@[simp] abbrev zdr (g:Guest)(t w:Int):Bool:=zhz t w
def zCt:Run:=rF3 (dT .guest) dI dI λb c d=>(zd2 b c d,[aT .guest<|zcq b c d,aB<|zdr b c d])
def zHI (N:Nat)(a:Guest)(c b:Int):OA:=
 let g:=aT .guest<|zci a;let f:=aT .guest<|zln a;let e:=(⟨4,0,false,0⟩:GExit);let d:=(zdD a.Prog a.Pc).X; (oN (zdp a.Prog a.Pc)<|cond (ieq b 6) (oN (ze1 d)<|oN (zcv a<|zeN d)<|some [aT .guest<|zcr a<|zeN d,aB false])<|cond (ieq b 5) (oN (zf6 c 1)<|cond (zfp c 1) (oN (ze1 d)<|oN (zcv a<|zfV d)<|some [aT .guest<|zcr a<|zfV d,aB false])<|cond (ieq b 7) (oN (zf6 c 2)<|cond (zfp c 2) (oN (zcv a e)<|some [aT .guest<|zcr a e,aB false])<|cond (ieq b 7) (oN (zQ a)<|some [f,aB true])<|oN (zQ a)<|some [g,aB true])<|cond (ieq b 7) (oN (zQ a)<|some [f,aB true])<|oN (zQ a)<|some [g,aB true])<|cond (ieq b 7) (oN (zf6 c 2)<|cond (zfp c 2) (oN (zcv a e)<|some [aT .guest<|zcr a e,aB false])<|cond (ieq b 7) (oN (zQ a)<|some [f,aB true])<|oN (zQ a)<|some [g,aB true])<|cond (ieq b 7) (oN (zQ a)<|some [f,aB true])<|oN (zQ a)<|some [g,aB true])
def zUd (a:Guest)(b c:Int)(d:zd2 a b c=true):∃N,zHI N a b c=some [aT .guest<|zcq a b c,aB<|zdr a b c]:=by
 have e:=zO.1 d;refine⟨0,?_⟩;unfold zHI oN;conv=>zeta
 refine must rfl (br (λ_=>must rfl (mu ?_)) λ_=>br (λ_=>must rfl (br (λ_=>must rfl (mu ?_)) λ_=>br (λ_=>must rfl (br (λ_=>mu ?_) λ_=>br (λ_=>mu ?_) λ_=>mu ?_)) λ_=>br (λ_=>mu ?_) λ_=>mu ?_)) λ_=>br (λ_=>must rfl (br (λ_=>mu ?_) λ_=>br (λ_=>mu ?_) λ_=>mu ?_)) λ_=>br (λ_=>mu ?_) λ_=>mu ?_);all_goals first|rfl|(simp only [*,zcq,zdr,zfY,zhz,cT,cF]<;>rfl)|simp_all[Ty.cells,zcq,zdr,zfY,zhz]
def zMV:vM 169 zCt:=kF3 zjA zA zo zn (zq []) zUd
def zbY (b:Bare):Bool:=bif b.Guests.all zd4 then (zjl b.Memory 8&&(zk (ln b.Guests) 1 2&&(ile (ln b.Outs) 40&&zdU b.Pending))) else false
@[simp] abbrev zjo (b:Bare):Bool:=true
@[simp] abbrev zcU (b:Bare):Bool:=zbY b
def zqb:Run:=rF1 (dT .bare) λb=>(zjo b,[aB<|zcU b])
def zLa (N:Nat)(c:Bare):OA:=
 (iter (σ:=(Int×Int×lM×lG×LI×Unit)) N (λd a=>let b:=a.2.2.2.1; (cond (ilt a.1<|ln b) (oN (inb a.1<|ln b)<|oN (zbp<|ix b a.1 zu)<|cond (nB<|zh7<|ix b a.1 zu) oF<|d (zM .i64 a.1 1,a.2.1,a.2.2.1,b,a.2.2.2.2.1,()))<|oN (zjs a.2.2.1 8)<|cond (zfU a.2.2.1 8) (oN (zL (ln b) 1 2)<|cond (zk (ln b) 1 2) (cond (ile (ln a.2.2.2.2.1) 40) (oN (zcj a.2.1)<|some [aB<|zeJ a.2.1]) oF) oF) oF)) (0,c.Pending,c.Memory,c.Guests,c.Outs,()))
def zYn:=zq [(157,0,{n:=38,tm:=[(1,.lp 0 0),(3,ti)],lo:=[(0,[.sl 0 [],.sl 1 [],.sl 2 [],ti])],ro:=[(0,.sl .int,false),(1,.guest,false),(2,.int,false)]})]
def zWC (a:Bare)(k:zbL big [aT .bare a])(m:zjo a=true):∃N,zLa N a=some [aB<|zcU a]:=by
 have j:(_:List _).length<=big:=((zcK k).1 (.s .guest a.Guests) (by simp[AV.cvs,Ty.cells])).len;refine zcg λN h=>?_;unfold zLa oN nB;conv=>zeta
 refine(zbj a.Guests (λi (t:Unit)=>((i:Int),a.Pending,a.Memory,a.Guests,a.Outs,())) _ (λ_ x (_:Unit) l=>bif (zd4) x then l () else oF) (λ(t:Unit)=>cond (zjs a.Memory 8) (cond (zfU a.Memory 8) (cond (zL (ln a.Guests) 1 2) (cond (zk (ln a.Guests) 1 2) (cond (ile (ln a.Outs) 40) (cond (zcj a.Pending) (some [.one<|.b<|zeJ a.Pending]) none) oF) oF) none) oF) none) (λi f t rec=>?_) (λt rec=>?_) _ ()<|h j).trans ?_;{simp only [zbr f,zZ f,zbk f,zba f j,cT];exact zjy rfl};{simp only [zbl,cF]};rw[zgu<|zd4];refine br (λc=>?_) (λc=>?_);{refine must rfl ?_;refine br (λd=>?_) (λd=>?_);{refine must rfl ?_;refine br (λe=>?_) (λe=>?_);{refine br (λg=>?_) (λg=>?_);{refine must rfl ?_;first|rfl|(simp only [c,d,e,g,zcU,zbY,cT,cF]<;>rfl)|(simp_all [Ty.cells,zcU,zbY];done)};{first|rfl|(simp only [c,d,e,g,zcU,zbY,cT,cF]<;>rfl)|(simp_all [Ty.cells,zcU,zbY];done)}};{first|rfl|(simp only [c,d,e,zcU,zbY,cT,cF]<;>rfl)|(simp_all [Ty.cells,zcU,zbY];done)}};{first|rfl|(simp only [c,d,zcU,zbY,cT,cF]<;>rfl)|(simp_all [Ty.cells,zcU,zbY];done)}};{first|rfl|(simp only [c,zcU,zbY,cT,cF]<;>rfl)|(simp_all [Ty.cells,zcU,zbY];done)}
def zPv:vM 157 zqb:=hF1 zjA zA zo zn zYn zWC
def zKQ (N:Nat)(b:Bare):OA:=
 (iter (σ:=(Int×Int×Int×lG×lM×LI×Unit)) N (λe a=>let c:=a.2.2.2.1;let d:=ix c a.2.1 zu; (cond (ilt a.2.1 a.1) (oN (inb a.2.1<|ln c)<|oN (zbp d)<|cond (nB<|zh7 d) oF<|e (a.1,zM .i64 a.2.1 1,a.2.2.1,c,a.2.2.2.2.1,a.2.2.2.2.2.1,()))<|oN (zjs a.2.2.2.2.1 8)<|cond (zfU a.2.2.2.2.1 8) (oN (zL (ln c) 1 2)<|cond (zk (ln c) 1 2) (cond (ile (ln a.2.2.2.2.2.1) 40) (oN (zcj a.2.2.1)<|some [aB<|zeJ a.2.2.1]) oF) oF) oF)) (ln b.Guests,0,b.Pending,b.Guests,b.Memory,b.Outs,()))
def zYf:=zq [(241,0,{n:=36,tm:=[(1,.lp 0 0),(6,.sl 0 []),(7,ti),(8,ti)],lo:=[(0,[.sl 1 [],.sl 0 [],.sl 2 [],ti])],ro:=[(0,.guest,false),(1,.sl .int,false),(2,.int,false)]})]
def zWj (a:Bare)(k:zbL big [aT .bare a])(m:zjo a=true):∃N,zKQ N a=some [aB<|zcU a]:=by
 have j:(_:List _).length<=big:=((zcK k).1 (.s .guest a.Guests) (by simp[AV.cvs,Ty.cells])).len;refine zcg λN h=>?_;unfold zKQ oN nB;conv=>zeta
 refine(zbj a.Guests (λi (t:Unit)=>(ln a.Guests,(i:Int),a.Pending,a.Guests,a.Memory,a.Outs,())) _ (λ_ x (_:Unit) l=>bif (zd4) x then l () else oF) (λ(t:Unit)=>cond (zjs a.Memory 8) (cond (zfU a.Memory 8) (cond (zL (ln a.Guests) 1 2) (cond (zk (ln a.Guests) 1 2) (cond (ile (ln a.Outs) 40) (cond (zcj a.Pending) (some [.one<|.b<|zeJ a.Pending]) none) oF) oF) none) oF) none) (λi f t rec=>?_) (λt rec=>?_) _ ()<|h j).trans ?_;{simp only [zbr f,zZ f,zbk f,zba f j,cT];exact zjy rfl};{simp only [zbl,cF]};rw[zgu<|zd4];refine br (λc=>?_) (λc=>?_);{refine must rfl ?_;refine br (λd=>?_) (λd=>?_);{refine must rfl ?_;refine br (λe=>?_) (λe=>?_);{refine br (λg=>?_) (λg=>?_);{refine must rfl ?_;first|rfl|(simp only [c,d,e,g,zcU,zbY,cT,cF]<;>rfl)|(simp_all [Ty.cells,zcU,zbY];done)};{first|rfl|(simp only [c,d,e,g,zcU,zbY,cT,cF]<;>rfl)|(simp_all [Ty.cells,zcU,zbY];done)}};{first|rfl|(simp only [c,d,e,zcU,zbY,cT,cF]<;>rfl)|(simp_all [Ty.cells,zcU,zbY];done)}};{first|rfl|(simp only [c,d,zcU,zbY,cT,cF]<;>rfl)|(simp_all [Ty.cells,zcU,zbY];done)}};{first|rfl|(simp only [c,zcU,zbY,cT,cF]<;>rfl)|(simp_all [Ty.cells,zcU,zbY];done)}
def zO4:vM 241 zqb:=hF1 zjA zA zo zn zYf zWj
@[simp] abbrev zcl (b:Bare):Bool:=pc (SmB b)
@[simp] abbrev zbu (b:Bare):Bare:=b
def znd:Run:=rF1 (dT .bare) λb=>(zcl b,[aT .bare<|zbu b])
def zC8 (N:Nat)(a:Bare):OA:=
 (oN (zgZ a.Memory)<|oN (zj9 a.Guests)<|oN (zee a.Outs)<|some [aT .bare (⟨zd8 a.Memory,zj8 a.Guests,zec a.Outs,a.Pending⟩:Bare)])
def zQk (a:Bare)(b:zcl a=true):∃N,zC8 N a=some [aT .bare<|zbu a]:=by have c:=zO.1 b;have d:_/\_/\_:=c;refine⟨0,?_⟩;unfold zC8 oN;refine mu (mu<|mu ?_);first|rfl|(simp only [*,zbu,cT,cF]<;>rfl)|simp_all[Ty.cells,zbu]
def zJl:vM 242 znd:=kF1 zjA zA zo zn (zq []) zQk
def zHH (N:Nat)(a:Bare):OA:=
 (oN (zg9 a.Memory)<|oN (zgG a.Guests)<|oN (few<|ln<|ap [] a.Outs)<|some [aT .bare (⟨zfq a.Memory,zhc a.Guests,ap [] a.Outs,a.Pending⟩:Bare)])
def zUc (a:Bare)(b:zcl a=true):∃N,zHH N a=some [aT .bare<|zbu a]:=by have c:=zO.1 b;have d:_/\_/\_:=c;refine⟨0,?_⟩;unfold zHH oN;refine mu (mu<|mu ?_);first|rfl|(simp only [*,zbu,cT,cF]<;>rfl)|simp_all[Ty.cells,zbu]
def zMU:vM 155 znd:=kF1 zjA zA zo zn (zq []) zUc
def z99:zY:=[(145,zop),(245,zop),(158,zoq),(129,zoq),(169,zCt),(157,zqb),(241,zqb),(242,znd),(155,znd)]++z98
def zAz:zS z99:=zh zME (zh zMl<|zh zMt<|zh zMf<|zh zMV<|zh zPv<|zh zO4<|zh zJl<|zh zMU zjA)
def zd3 (b:Bare)(i:Int)(x:Guest):Bare:={b with Guests:=up b.Guests i x}
def zmK (b:Bare)(i:Int)(x:Guest):Bare:=bif hasB i (ln b.Guests) then zd3 b i x else b
def ziJ (b:Bare)(n:Int):Bare:=bif ilt (ln b.Outs) 40 then {b with Outs:=ap b.Outs [n]} else b
@[simp] def zo4 {b:Bare}{i:Int}{x:Guest}(h:SmB b)(a:SmG x):SmB (zd3 b i x):=⟨h.1,zF6 h.2.1 a,h.2.2⟩
@[simp] def zN9 {b:Bare}{n:Int}(h:SmB b):SmB (ziJ b n):=by unfold ziJ;cases a:ilt (ln b.Outs) 40;{exact h};{have:=qD a;refine⟨h.1,h.2.1,?_⟩;simp[ln] at *;omega}
@[simp] def zbex (b:Bare)(n:Int):(ziJ b n).Guests=b.Guests:=by unfold ziJ;cases ilt (ln b.Outs) 40<;>rfl
@[simp] def zBr {m:List LI}{p c v:Int}(h:SmM m):SmM (zbQ m p c v):=by unfold zbQ;cases a:zgJ m p c;{exact h};{cases b:zk v 0 99;{exact h};{exact zOe h (by simpa using zbdz h ((zA7 m p c).1 a).1 [])}}
@[simp] abbrev zcS (b:Bare)(i:Int)(x:Guest):Bool:=pc (SmB b/\SmG x)
@[simp] abbrev zei (b:Bare)(i:Int)(x:Guest):Bare:=zmK b i x
def zxm:Run:=rF3 (dT .bare) dI (dT .guest) λb c d=>(zcS b c d,[aT .bare<|zei b c d])
def zBD (N:Nat)(a:Bare)(b:Int)(c:Guest):OA:=
 (oN (zcl a)<|oN (zby b<|ln a.Guests)<|cond (zdk b<|ln a.Guests) (oN (zQ c)<|oN (inb b<|ln (zbu a).Guests)<|share (up (zbu a).Guests b<|zcV c) λd=>some [aT .bare ({ (zbu a) with Guests:=d}:Bare)])<|some [aT .bare<|zbu a])
def zNg (a:Bare)(b:Int)(c:Guest)(d:zcS a b c=true):∃N,zBD N a b c=some [aT .bare<|zei a b c]:=by have e:=zO.1 d;refine⟨0,?_⟩;unfold zBD oN;refine mu (must rfl (br (λ_=>mu (mu<|shr ?_)) λ_=>?_));all_goals first|rfl|(simp only [*,zei,zmK,zd3,cT,cF]<;>rfl)|simp_all[Ty.cells,zei,zmK,zd3]
def zGh:vM 243 zxm:=kF3 zAz zA zo zn (zq []) zNg
@[simp] abbrev zeO (b:Bare)(n:Int):Bool:=pc (SmB b)
@[simp] abbrev zjD (b:Bare)(n:Int):Bare:=ziJ b n
def zqm:Run:=rF2 (dT .bare) dI λb c=>(zeO b c,[aT .bare<|zjD b c])
def zLs (N:Nat)(a:Bare)(b:Int):OA:=
 (oN (zcl a)<|cond (ilt (ln (zbu a).Outs) 40) (oN (few<|ln<|ap (zbu a).Outs [b])<|some [aT .bare ({ (zbu a) with Outs:=(ap (zbu a).Outs [b])}:Bare)])<|some [aT .bare<|zbu a])
def zWQ (a:Bare)(b:Int)(c:zeO a b=true):∃N,zLs N a b=some [aT .bare<|zjD a b]:=by have d:=zO.1 c;have e:a.Outs.length<=1048576:=d.2.2;refine⟨0,?_⟩;unfold zLs oN;refine mu (br (λ_=>mu ?_) λ_=>?_);all_goals first|rfl|(simp only [*,zjD,ziJ,cT,cF]<;>rfl)|simp_all[Ty.cells,zjD,ziJ]
def zPJ:vM 170 zqm:=kF2 zAz zA zo zn (zq []) zWQ
def zK2 (N:Nat)(a:Bare)(b:Int):OA:=
 (oN (zcl a)<|cond (ilt (ln a.Outs) 40) (oN (few<|ln<|ap (zbu a).Outs [b])<|some [aT .bare ({ (zbu a) with Outs:=(ap (zbu a).Outs [b])}:Bare)])<|some [aT .bare<|zbu a])
def zWu (a:Bare)(b:Int)(c:zeO a b=true):∃N,zK2 N a b=some [aT .bare<|zjD a b]:=by have d:=zO.1 c;have e:a.Outs.length<=1048576:=d.2.2;refine⟨0,?_⟩;unfold zK2 oN;refine mu (br (λ_=>mu ?_) λ_=>?_);all_goals first|rfl|(simp only [*,zjD,ziJ,cT,cF]<;>rfl)|simp_all[Ty.cells,zjD,ziJ]
def zPk:vM 249 zqm:=kF2 zAz zA zo zn (zq []) zWu
def z1L:zY:=[(243,zxm),(170,zqm),(249,zqm)]++z99
def zoJ:zS z1L:=zh zGh (zh zPJ<|zh zPk zAz)
def zjb (b:Bare)(g:Int)(x:Guest)(w:Bool):Bare :=
 bif ze6 x.Live (zbo<|address x) (zcc w) then
  (bif w then zd3 {b with Memory:=zbQ b.Memory (zco x.Live (zbo<|address x)<|zcc w) (zdJ<|address x) x.A} g (zca x)
  else zd3 b g (loaded x<|cellAt b.Memory (zco x.Live (zbo<|address x)<|zcc w)<|zdJ<|address x))
 else zd3 b g (stopped x<|zs8 (zbo<|address x) w)
def znA (b:Bare)(g:Int)(x:Guest)(w:Int):Bare :=
 zd3 (cond (cond (zhz x.Ctl.Traps w) (ieq w 5) false) (ziJ b (zcp x.Prog x.Pc).X) b) g (zfY x x.Ctl.Traps w)
def stepped (b:Bare)(g:Int)(x:Guest)(w:Int):Bare :=
 bif ieq w 1 then zd3 b g (interrupted x) else (cond (ieq w 2) (zd3 b g<|plainly x)<|cond (ieq w 3) (zjb b g x false)<|cond (ieq w 4) (zjb b g x true)<|znA b g x w)
def tr1 (x:Guest)(t w:Int):ieq w 6=true->zfY x t w=stopped x (zvj (zcp x.Prog x.Pc).X)/\zhz t w=false:=by intro h;simp[zfY,zhz,h]
def tr2 (x:Guest)(t w:Int):ieq w 6=false->(ieq w 5=false->ieq w 6=false->ieq w 7=true)->zd5 t (zfX w)=true->zfY x t w=zr0 x w/\zhz t w=false:=by intro b c h;unfold zfY zhz zr0 zfX at *;cases a:ieq w 5<;>simp_all
def tr3 (x:Guest)(t w:Int):ieq w 6=false->ieq w 7=false->zd5 t (zfX w)=false->ieq w 5=true->zfY x t w=zca x/\zhz t w=true:=by intro b c h a;unfold zfY zhz zfX at *;simp_all
def tr4 (x:Guest)(t w:Int):ieq w 6=false->(ieq w 5=false->ieq w 6=false->ieq w 7=true)->zd5 t (zfX w)=false->ieq w 5=false->zfY x t w=held x:=by intro b c h a;unfold zfY zfX at *;simp_all
def zfN (b:Bare)(g:Int):Bool:=bif hasB g (ln b.Guests) then (cond (zbY b) (!ieq (zN<|gAt b g) 0) false) else false
def zeG (b:Bare)(g:Int):Bare:=bif zfN b g then stepped b g (gAt b g) (zN<|gAt b g) else b
@[simp] def z05 {b:Bare}{g:Int}{x:Guest}{w:Bool}(h:SmB b)(a:SmG x):SmB (zjb b g x w):=by unfold zjb;cases ze6 x.Live (zbo<|address x) (zcc w);{exact zo4 h a};{cases w;{exact zo4 h (zOc _ a)};{exact⟨zBr h.1,zF6 h.2.1<|zmI a,h.2.2⟩}}
@[simp] def zbcp {b:Bare}{g:Int}{x:Guest}{w:Int}(h:SmB b)(a:SmG x):SmB (znA b g x w):=by unfold znA;cases (cond (zhz x.Ctl.Traps w) (ieq w 5) false);{exact zo4 h (zFp _ _ a)};{exact zo4 (zN9 h) (zFp _ _ a)}
@[simp] def zZ8 {b:Bare}{g:Int}{x:Guest}{w:Int}(h:SmB b)(a:SmG x):SmB (stepped b g x w):=by unfold stepped;cases ieq w 1;{cases ieq w 2;{cases ieq w 3;{cases ieq w 4;{exact zbcp h a};{exact z05 h a}};{exact z05 h a}};{exact zo4 h (zIw a)}};{exact zo4 h (z06 a)}
@[simp] def zbeA {b:Bare}{g:Int}(h:SmB b):SmB (zeG b g):=by unfold zeG;cases zfN b g;{exact h};{exact zZ8 h (zjv g h)}
def zUY (x:Guest):ieq (zN x) 0=false->ieq (zN x) 1=false->ieq (zN x) 2=false->ieq (zN x) 3=false->ieq (zN x) 4=false->ieq (zN x) 5=false->ieq (zN x) 6=false->ieq (zN x) 7=true:=by unfold zN zzr;cases canRun x;{intro h;cases h};{cases zjP x;{simp only [cT,cF];generalize (zcp x.Prog x.Pc).Op=o;cases ieq o 3<;>cases ieq o 4<;>cases ieq o 5<;>cases ieq o 6<;>cases ieq o 7<;>simp [ieq]};{intro _ h;cases h}}
def zP7 {x:Int}{a b:Int}(h:ieq x a=true)(c:ieq a b=false):ieq x b=false:=by have:x=a:=(by simpa [ieq] using h);rw[this];exact c
@[simp] abbrev zc4 (b:Bare)(g:Int):Bool:=pc (SmB b)
@[simp] abbrev zeX (b:Bare)(g:Int):Bare:=zeG b g
@[simp] abbrev zhh (b:Bare)(g:Int):Bool:=zfN b g
def zir:Run:=rF2 (dT .bare) dI λb c=>(zc4 b c,[aT .bare<|zeX b c,aB<|zhh b c])
def zC1 (N:Nat)(b:Bare)(c:Int):OA:=
 let g:=b.Memory;let l:=aT .bare<|zbu b;let a:=zg4 b c;let k:=a.Ctl.Traps;let t:=aT .bare<|zei b c<|zln a;let d:=zgU a;let r:=aT .bare<|zei b c<|zkA a d;let i:=zgC a;let f:=zdc i;let e:=zb0 i;let h:=ieq d 4;let w:=zdF e h;let p:=aT .bare<|zei b c<|zcr a w;let j:=(zdD a.Prog a.Pc).X;let u:=zcS (zjD b j) c<|zci a;let n:=aT .bare<|zei (zjD b j) c<|zci a;let x:=zcr a<|zeN j;let m:=zeu a.Live e<|zcF h;let v:=zgl g m f;let q:=aT .bare<|zei b c<|ziR a v;let y:=({b with Memory:=(zeP g m f a.A)}:Bare);let s:=aT .bare<|zei y c<|zci a; (oN (zn7 b c)<|oN (zbp a)<|oN (zjo b)<|cond (nB<|zcU b) (oN (zcl b)<|some [l,aB false])<|cond (nB<|zg5 b c) (oN (zcl b)<|some [l,aB false])<|cond (ieq d 0) (oN (zcl b)<|some [l,aB false])<|oN (zbp a)<|oN (zdp a.Prog a.Pc)<|cond (ieq d 1) (oN (zQ a)<|oN (zcS b c<|zex a)<|some [aT .bare<|zei b c<|zex a,aB true])<|cond (ieq d 2) (oN (zQ a)<|oN (zcS b c<|zhi a)<|some [aT .bare<|zei b c<|zhi a,aB true])<|cond (ieq d 3) (cond (ieq d 3) (oN (zbz i)<|oN (zhX h)<|oN (zfB a.Live e<|zcF h)<|cond (nB<|zdL a.Live e<|zcF h) (oN (zbz i)<|oN (zfa e h)<|oN (zcv a w)<|oN (zcS b c<|zcr a w)<|some [p,aB true])<|cond h (oN (zbz i)<|oN (zey g m f a.A)<|oN (zQ a)<|oN (zcS y c<|zci a)<|some [s,aB true])<|oN (zbz i)<|oN (zeQ g m f)<|oN (zjr a v)<|oN (zcS b c<|ziR a v)<|some [q,aB true])<|cond (ieq d 6) (oN (ze1 j)<|oN (zcv a<|zeN j)<|oN (zcS b c x)<|some [aT .bare<|zei b c x,aB true])<|oN (zpM d)<|oN (zf6 k<|ziE d)<|cond (zfp k<|ziE d) (oN (znR a d)<|oN (zcS b c<|zkA a d)<|some [r,aB true])<|cond (ieq d 5) (oN (zeO b j)<|oN (zQ a)<|oN u<|some [n,aB true])<|oN (zQ a)<|oN (zcS b c<|zln a)<|some [t,aB true])<|cond h (oN (zbz i)<|oN (zhX h)<|oN (zfB a.Live e<|zcF h)<|cond (nB<|zdL a.Live e<|zcF h) (oN (zbz i)<|oN (zfa e h)<|oN (zcv a w)<|oN (zcS b c<|zcr a w)<|some [p,aB true])<|cond h (oN (zbz i)<|oN (zey g m f a.A)<|oN (zQ a)<|oN (zcS y c<|zci a)<|some [s,aB true])<|oN (zbz i)<|oN (zeQ g m f)<|oN (zjr a v)<|oN (zcS b c<|ziR a v)<|some [q,aB true])<|cond (ieq d 6) (oN (ze1 j)<|oN (zcv a<|zeN j)<|oN (zcS b c x)<|some [aT .bare<|zei b c x,aB true])<|oN (zpM d)<|oN (zf6 k<|ziE d)<|cond (zfp k<|ziE d) (oN (znR a d)<|oN (zcS b c<|zkA a d)<|some [r,aB true])<|cond (ieq d 5) (oN (zeO b j)<|oN (zQ a)<|oN u<|some [n,aB true])<|oN (zQ a)<|oN (zcS b c<|zln a)<|some [t,aB true])
def zQd (a:Bare)(b:Int)(f:zc4 a b=true):∃N,zC1 N a b=some [aT .bare<|zeX a b,aB<|zhh a b]:=by
 have c:=zO.1 f;have j:=zjv b c;have k:_/\_/\_:=c;have hg:a.Guests.length<=1048576:=c.2.1.1;have g:=zUY (gAt a b);have d:ieq (zN<|gAt a b) 3=true->ieq (zN<|gAt a b) 4=false:=λh=>zP7 h rfl;have e:ieq (zN<|gAt a b) 5=true->ieq (zN<|gAt a b) 7=false:=λh=>zP7 h rfl;have l:=tr1 (gAt a b) (gAt a b).Ctl.Traps (zN<|gAt a b);have m:=tr2 (gAt a b) (gAt a b).Ctl.Traps (zN<|gAt a b);have p:=tr3 (gAt a b) (gAt a b).Ctl.Traps (zN<|gAt a b);have q:=tr4 (gAt a b) (gAt a b).Ctl.Traps (zN<|gAt a b);have i:∀n,SmB (ziJ a n):=λn=>zN9 c;refine⟨0,?_⟩;unfold zC1 oN nB;conv=>zeta
 refine mu (must rfl (must rfl (brN (λ_=>mu ?_) λ_=>brN (λ_=>mu ?_) λ_=>br (λ_=>mu ?_) λ_=>must rfl (must rfl (br (λ_=>mu (mu ?_)) λ_=>br (λ_=>mu (mu ?_)) λ_=>br (λ_=>br (λ_=>must rfl (must rfl (must rfl (brN (λ_=>must rfl (must rfl (mu<|mu ?_))) λ_=>br (λ_=>must rfl (mu<|mu<|mu ?_)) λ_=>must rfl (must rfl (mu<|mu ?_)))))) λ_=>br (λ_=>must rfl (mu<|mu ?_)) λ_=>must rfl (must rfl (br (λ_=>mu (mu ?_)) λ_=>br (λ_=>mu (mu<|mu ?_)) λ_=>mu (mu ?_)))) λ_=>br (λ_=>must rfl (must rfl (must rfl (brN (λ_=>must rfl (must rfl (mu<|mu ?_))) λ_=>br (λ_=>must rfl (mu<|mu<|mu ?_)) λ_=>must rfl (must rfl (mu<|mu ?_)))))) λ_=>br (λ_=>must rfl (mu<|mu ?_)) λ_=>must rfl (must rfl (br (λ_=>mu (mu ?_)) λ_=>br (λ_=>mu (mu<|mu ?_)) λ_=>mu (mu ?_))))))));all_goals first|rfl|(simp only [*,zeX,zhh,zeG,zfN,stepped,zjb,znA,zmK,zcc,cT,cF]<;>rfl)|simp_all[Ty.cells,zeX,zhh,zeG,zfN,stepped,zjb,znA,zmK,zcc]
def zvu:vM 141 zir:=kF2 zoJ zA zo zn (zq []) zQd
def zDo (N:Nat)(v:Bare)(f:Int):OA:=
 let c:=zbu v;let h:=c.Memory;let e:=c.Guests;let k:=inb f<|ln e;let a:=zg4 c f;let l:=a.Ctl.Traps;let q:=(zdD a.Prog a.Pc).X;let j:=zgU a;let u:=zcq a l j;let n:=up e f u;let r:=zjD c q;let m:=zgC a;let g:=zdc m;let d:=zb0 m;let i:=ieq j 4;let s:=up e f<|zcr a<|zdF d i;let p:=zeu a.Live d<|zcF i;let t:=zgl h p g; (oN (zcl v)<|oN (zn7 c f)<|oN (zbp a)<|cond (nB<|zg5 c f) (some [aT .bare c,aB false])<|oN (zjo c)<|cond (nB<|zcU c) (some [aT .bare c,aB false])<|cond (ieq j 0) (some [aT .bare c,aB false])<|cond (ieq j 1) (oN (zQ a)<|oN k<|share (up e f<|zex a) λb=>some [aT .bare ({c with Guests:=b}:Bare),aB true])<|cond (ieq j 2) (oN (zQ a)<|oN k<|share (up e f<|zhi a) λb=>some [aT .bare ({c with Guests:=b}:Bare),aB true])<|cond (ieq j 3) (cond (ieq j 3) (oN (zbp a)<|oN (zbz m)<|oN (zhX i)<|oN (zfB a.Live d<|zcF i)<|cond (nB<|zdL a.Live d<|zcF i) (oN (zbz m)<|oN (zfa d i)<|oN (zcv a<|zdF d i)<|oN k<|share s λb=>some [aT .bare ({c with Guests:=b}:Bare),aB true])<|cond i (oN (zbz m)<|oN (zey h p g a.A)<|oN (zQ a)<|oN k<|share (up e f<|zci a) λb=>some [aT .bare ({c with Memory:=(zeP h p g a.A),Guests:=b}:Bare),aB true])<|oN (zbz m)<|oN (zeQ h p g)<|oN (zjr a t)<|oN k<|share (up e f<|ziR a t) λb=>some [aT .bare ({c with Guests:=b}:Bare),aB true])<|oN (zd2 a l j)<|cond (zdr a l j) (cond (ieq j 5) (oN (zdp a.Prog a.Pc)<|oN (zeO c q)<|oN (inb f<|ln r.Guests)<|share (up r.Guests f u) λb=>some [aT .bare ({r with Guests:=b}:Bare),aB true])<|oN k<|share n λb=>some [aT .bare ({c with Guests:=b}:Bare),aB true])<|oN k<|share n λb=>some [aT .bare ({c with Guests:=b}:Bare),aB true])<|cond i (oN (zbp a)<|oN (zbz m)<|oN (zhX i)<|oN (zfB a.Live d<|zcF i)<|cond (nB<|zdL a.Live d<|zcF i) (oN (zbz m)<|oN (zfa d i)<|oN (zcv a<|zdF d i)<|oN k<|share s λb=>some [aT .bare ({c with Guests:=b}:Bare),aB true])<|cond i (oN (zbz m)<|oN (zey h p g a.A)<|oN (zQ a)<|oN k<|share (up e f<|zci a) λb=>some [aT .bare ({c with Memory:=(zeP h p g a.A),Guests:=b}:Bare),aB true])<|oN (zbz m)<|oN (zeQ h p g)<|oN (zjr a t)<|oN k<|share (up e f<|ziR a t) λb=>some [aT .bare ({c with Guests:=b}:Bare),aB true])<|oN (zd2 a l j)<|cond (zdr a l j) (cond (ieq j 5) (oN (zdp a.Prog a.Pc)<|oN (zeO c q)<|oN (inb f<|ln r.Guests)<|share (up r.Guests f u) λb=>some [aT .bare ({r with Guests:=b}:Bare),aB true])<|oN k<|share n λb=>some [aT .bare ({c with Guests:=b}:Bare),aB true])<|oN k<|share n λb=>some [aT .bare ({c with Guests:=b}:Bare),aB true])
def zQx (a:Bare)(b:Int)(e:zc4 a b=true):∃N,zDo N a b=some [aT .bare<|zeX a b,aB<|zhh a b]:=by
 have c:=zO.1 e;have g:=zjv b c;have i:_/\_/\_:=c;have hg:a.Guests.length<=1048576:=c.2.1.1;have f:=zUY (gAt a b);have d:ieq (zN<|gAt a b) 3=true->ieq (zN<|gAt a b) 4=false:=λh=>zP7 h rfl;refine⟨0,?_⟩;unfold zDo oN nB;conv=>zeta
 refine mu (mu (must rfl (brN (λ_=>?_) λ_=>must rfl (brN (λ_=>?_) λ_=>br (λ_=>?_) λ_=>br (λ_=>mu (mu<|shr ?_)) λ_=>br (λ_=>mu (mu<|shr ?_)) λ_=>br (λ_=>br (λ_=>must rfl (must rfl (must rfl (must rfl (brN (λ_=>must rfl (must rfl (mu<|mu<|shr ?_))) λ_=>br (λ_=>must rfl (mu<|mu<|mu<|shr ?_)) λ_=>must rfl (must rfl (mu<|mu<|shr ?_))))))) λ_=>mu (br (λ_=>br (λ_=>must rfl (mu<|mu<|shr ?_)) λ_=>mu (shr ?_)) λ_=>mu (shr ?_))) λ_=>br (λ_=>must rfl (must rfl (must rfl (must rfl (brN (λ_=>must rfl (must rfl (mu<|mu<|shr ?_))) λ_=>br (λ_=>must rfl (mu<|mu<|mu<|shr ?_)) λ_=>must rfl (must rfl (mu<|mu<|shr ?_))))))) λ_=>mu (br (λ_=>br (λ_=>must rfl (mu<|mu<|shr ?_)) λ_=>mu (shr ?_)) λ_=>mu (shr ?_))))));all_goals first|rfl|(simp only [*,zeX,zhh,zeG,zfN,stepped,zjb,znA,zmK,zcc,zd3,cT,cF]<;>rfl)|simp_all[Ty.cells,zeX,zhh,zeG,zfN,stepped,zjb,znA,zmK,zcc,zd3]
def zvz:vM 52 zir:=kF2 zoJ zA zo zn (zq []) zQx
def SmK (k:Kept):Prop:=k.Known.length<=1048576/\k.Slots.length<=1048576
def zDK (l:List Kept):Prop:=l.length<=1048576/\∀x∈l,SmK x
def zgf (m:Mon):Prop:=m.Outer.length<=1048576/\SmM m.Out/\m.Dirty.length<=1048576/\zl0 m.Guests/\m.Outs.length<=1048576/\zDK m.Tables
def zsZ (l:List Mon):Prop:=l.length<=1048576/\∀x∈l,zgf x
def SmH (h:Host):Prop:=SmM h.Memory/\zsZ h.Mons/\h.Buffer.length<=1048576/\h.IoBuffer.length<=1048576
@[simp] def zyW (k:Kept):(∀c∈Ty.cells .kept k,CVB sm c)↔SmK k:=by simp[Ty.cells,SmK,z8X]
@[simp] def z7M (l:List Kept):CVB sm (.s .kept l)↔zDK l:=by rw[zmX];simp only[zyW];rfl
@[simp] def z0p (m:Mon):(∀c∈Ty.cells .mon m,CVB sm c)↔zgf m:=by simp only[Ty.cells,qG,qO,or_false,vI,forall_eq,zrt,zwN,z7M,z1U,zYW,zYV,zbap,and_true,true_and];rfl
@[simp] def zbbE (l:List Mon):CVB sm (.s .mon l)↔zsZ l:=by rw[zmX];simp only[z0p];rfl
@[simp] def zT (h:Host):zdm h↔SmH h:=by unfold zdm;simp only[zbn,qG,qO,or_false,vI,forall_eq,zrt,zbbE,zVG];rfl
def zbq {p:Prop}(h:p):pc p=true:=zbd h
def zz6 {l:List Kept}{i:Int}{x:Kept}(h:zDK l)(b:SmK x):zDK (up l i x):=by refine⟨by simpa using h.1,λy a=>?_⟩;rcases qX a with a|rfl;{exact h.2 y a};{exact b}
def zkF {l:List Mon}{i:Int}{x:Mon}(h:zsZ l)(b:zgf x):zsZ (up l i x):=by refine⟨by simpa using h.1,λy a=>?_⟩;rcases qX a with a|rfl;{exact h.2 y a};{exact b}
def zpc {a:Type}{l:List a}(h:l.length<=1048576):few (ln<|ap [] l)=true:=by rw[znP,zbbM];omega
@[simp] abbrev zbt (h:Host):Bool:=pc (zdm h)
@[simp] abbrev zl (h:Host):Host:=h
def zi7:Run:=rF1 dH λb=>(zbt b,[aH<|zl b])
def zHJ (N:Nat)(b:Host):OA:=
 (oN (zg9 b.Memory)<|oN (few<|ln<|ap [] b.Buffer)<|oN (few<|ln<|ap [] b.IoBuffer)<|iter (σ:=(Int×lM×lN×lE×lE×lM×lN×lE×lE×lM×lN×lE×lE×Unit)) N (λf a=>let e:=a.2.2.2.2.2.2.2.2.2.2.2.2.1;let d:=ix a.2.2.1 a.1 zi;let c:=ap a.2.2.2.2.2.2.2.2.2.2.1 [zo0 d]; (cond (ilt a.1<|ln a.2.2.1) (oN (inb a.1<|ln a.2.2.1)<|oN (zk7 d)<|oN (few<|ln c)<|f (zM .i64 a.1 1,a.2.1,a.2.2.1,a.2.2.2.1,a.2.2.2.2.1,a.2.2.2.2.2.1,a.2.2.2.2.2.2.1,a.2.2.2.2.2.2.2.1,a.2.2.2.2.2.2.2.2.1,a.2.2.2.2.2.2.2.2.2.1,c,a.2.2.2.2.2.2.2.2.2.2.2.1,e,()))<|some [aH (⟨a.2.2.2.2.2.2.2.2.2.1,a.2.2.2.2.2.2.2.2.2.2.1,a.2.2.2.2.2.2.2.2.2.2.2.1,e⟩:Host)])) (0,b.Memory,b.Mons,b.Buffer,b.IoBuffer,[],[],[],[],zfq b.Memory,[],ap [] b.Buffer,ap [] b.IoBuffer,()))
def zUE:=zq [(96,0,{n:=36,tm:=[(1,.lp 0 0),(2,.lp 1 0),(3,.lp 2 0),(4,ti)],lo:=[(0,[.sl 0 [],.sl 1 [],.sl 2 [],.sl 3 []]),(1,[.sl 4 [],.sl 5 [],.sl 6 [],.sl 7 []]),(2,[.sl 8 [],.sl 9 [],.sl 10 [],.sl 11 []])],ro:=[(0,.sl .int,false),(1,.mon,false),(2,.entry,false),(3,.entry,false),(4,.sl .int,true),(5,.mon,true),(6,.entry,true),(7,.entry,true),(8,.sl .int,true),(9,.mon,true),(10,.entry,true),(11,.entry,true)]})]
def zUe (a:Host)(k:zbt a=true):∃N,zHJ N a=some [aH<|zl a]:=by
 obtain⟨g,f,h,j⟩:=(zT a).1 (zO.1 k);have e:=zcJ f.1;refine zcg λN d=>?_;unfold zHJ oN;conv=>zeta
 refine must (zbq<|(zrt _).2 g) (must (zpc h)<|must (zpc j) ?_);refine(zbj a.Mons (λi (t:lN)=>((i:Int),a.Memory,a.Mons,a.Buffer,a.IoBuffer,[],[],[],[],zfq a.Memory,t,ap [] a.Buffer,ap [] a.IoBuffer,())) _ (λ_ x b m=>bif zk7 x then (cond (few<|ln<|ap b [zo0 x]) (m<|ap b [zo0 x]) none) else none) (λ(t:lN)=>some [.agg<|zbn (⟨zfq a.Memory,t,ap [] a.Buffer,ap [] a.IoBuffer⟩:Host)]) (λi c t rec=>?_) (λt rec=>?_) _ ([])<|d e.1).trans ?_;{simp only [zbr c,zZ c,zbk c,zba c e.1,cT]};{simp only [zbl,cF]};exact zkJ zk7 zo0 _ a.Mons 0 [] (λx l=>⟨zbq<|(z0p x).2 (f.2 x l),rfl⟩) (by simpa using e.2)
def zw5:vM 96 zi7:=kF1 zoJ zA zo zn zUE zUe
@[simp] abbrev zeY (k:Kept):Bool:=pc (SmK k)
@[simp] abbrev zdT (k:Kept):Kept:=k
def zzH:Run:=rF1 (dT .kept) λb=>(zeY b,[aT .kept<|zdT b])
def zDb (N:Nat)(a:Kept):OA:=
 (oN (few<|ln<|ap [] a.Known)<|oN (zhD a.Slots)<|some [aT .kept (⟨ap [] a.Known,zf1 a.Slots⟩:Kept)])
def zQn (a:Kept)(b:zeY a=true):∃N,zDb N a=some [aT .kept<|zdT a]:=by have c:=zO.1 b;obtain⟨f,g⟩:=c;have d:a.Known.length<=2147483648:=(by omega);have e:a.Slots.length<=2147483648:=(by omega);refine⟨0,?_⟩;unfold zDb oN;refine mu (mu ?_);first|rfl|(simp only [*,zdT,cT,cF]<;>rfl)|simp_all[Ty.cells,zdT]
def zJn:vM 199 zzH:=kF1 zoJ zA zo zn (zq []) zQn
def z9V:zY:=[(96,zi7),(199,zzH)]++z1L
def zVz:zS z9V:=zh zw5 (zh zJn zoJ)
@[simp] abbrev zlB (m:Mon):Bool:=pc (zgf m)
@[simp] abbrev zmb (m:Mon):Mon:=m
def zCf:Run:=rF1 (dT .mon) λb=>(zlB b,[aT .mon<|zmb b])
def zHe (N:Nat)(b:Mon):OA:=
 (oN (zhD b.Outer)<|oN (zgZ b.Out)<|oN (few<|ln<|ap [] b.Dirty)<|oN (zj9 b.Guests)<|oN (zee b.Outs)<|iter (σ:=(Int×Int×Int×Int×Int×Int×Int×Int×lK×lK×lS×lM×lB×lG×LI×lS×lM×lB×lG×LI×lK×Unit)) N (λi a=>let h:=a.2.2.2.2.2.2.2.2.2.2.2.2.1;let g:=a.2.2.2.2.2.2.2.2.2.2.2.2.2.1;let f:=a.2.2.2.2.2.2.2.2.2.2.2.2.2.2.1;let e:=a.2.2.2.2.2.2.2.2.1;let d:=a.2.2.2.2.2.2.2.2.2.1;let c:=ix d a.2.1 zdz; (cond (ilt a.2.1 a.1) (oN (inb a.2.1<|ln d)<|oN (zeY c)<|oN (few<|ln<|ap e [zdT c])<|i (a.1,zM .i64 a.2.1 1,a.2.2.1,a.2.2.2.1,a.2.2.2.2.1,a.2.2.2.2.2.1,a.2.2.2.2.2.2.1,a.2.2.2.2.2.2.2.1,ap e [zdT c],d,a.2.2.2.2.2.2.2.2.2.2.1,a.2.2.2.2.2.2.2.2.2.2.2.1,h,g,f,a.2.2.2.2.2.2.2.2.2.2.2.2.2.2.2.1,a.2.2.2.2.2.2.2.2.2.2.2.2.2.2.2.2.1,a.2.2.2.2.2.2.2.2.2.2.2.2.2.2.2.2.2.1,a.2.2.2.2.2.2.2.2.2.2.2.2.2.2.2.2.2.2.1,a.2.2.2.2.2.2.2.2.2.2.2.2.2.2.2.2.2.2.2.1,a.2.2.2.2.2.2.2.2.2.2.2.2.2.2.2.2.2.2.2.2.1,()))<|some [aT .mon (⟨a.2.2.2.2.2.2.2.2.2.2.1,a.2.2.2.2.2.2.2.2.2.2.2.1,h,g,f,a.2.2.1,a.2.2.2.1,e,a.2.2.2.2.1⟩:Mon)])) (ln b.Tables,0,b.Pending,b.Traps,b.Own,0,0,0,[],b.Tables,zf1 b.Outer,zd8 b.Out,ap [] b.Dirty,zj8 b.Guests,zec b.Outs,[],[],[],[],[],[],()))
def zUy:=zq [(92,0,{n:=44,tm:=[(1,.lp 0 0),(2,.lp 1 0),(3,.sl 0 []),(29,.sl 1 []),(30,ti),(31,ti)],lo:=[(0,[.sl 2 [],.sl 3 [],.sl 4 [],.sl 5 [],.sl 6 [],ti,ti,.sl 1 [],ti]),(1,[.sl 7 [],.sl 8 [],.sl 9 [],.sl 10 [],.sl 11 [],ti,ti,.sl 12 [],ti])],ro:=[(0,.kept,true),(1,.kept,false),(2,.slot,true),(3,.sl .int,true),(4,.bool,true),(5,.guest,true),(6,.int,true),(7,.slot,true),(8,.sl .int,true),(9,.bool,true),(10,.guest,true),(11,.int,true),(12,.kept,true)]})]
def zTM (a:Mon)(p:zlB a=true):∃N,zHe N a=some [aT .mon<|zmb a]:=by
 obtain⟨s,l,m,n,u,f⟩:=zO.1 p;have e:=zcJ f.1;refine zcg λN d=>?_;unfold zHe oN;conv=>zeta
 have g:zhD a.Outer=true:=(by simp;omega);have h:zgZ a.Out=true:=(by simp;exact l);have j:zj9 a.Guests=true:=(by simp;exact n);have k:zee a.Outs=true:=(by simp;omega);refine must g (must h<|must (zpc m)<|must j<|must k ?_);refine(zbj a.Tables (λi (t:lK)=>(ln a.Tables,(i:Int),a.Pending,a.Traps,a.Own,0,0,0,t,a.Tables,zf1 a.Outer,zd8 a.Out,ap [] a.Dirty,zj8 a.Guests,zec a.Outs,[],[],[],[],[],[],())) _ (λ_ x b r=>bif zeY x then (cond (few<|ln<|ap b [zdT x]) (r<|ap b [zdT x]) none) else none) (λ(t:lK)=>some [.agg<|Ty.cells .mon (⟨zf1 a.Outer,zd8 a.Out,ap [] a.Dirty,zj8 a.Guests,zec a.Outs,a.Pending,a.Traps,t,a.Own⟩:Mon)]) (λi c t rec=>?_) (λt rec=>?_) _ ([])<|d e.1).trans ?_;{simp only [zbr c,zZ c,zbk c,zba c e.1,cT]};{simp only [zbl,cF]};exact zkJ zeY zdT _ a.Tables 0 [] (λx q=>⟨zbq<|f.2 x q,rfl⟩) (by simpa using e.2)
def zMq:vM 92 zCf:=kF1 zVz zA zo zn zUy zTM
def z9W:zY:=[(92,zCf)]++z9V
def zAy:zS z9W:=zh zMq zVz
def zC9 (N:Nat)(b:Host):OA:=
 (oN (zgZ b.Memory)<|oN (few<|ln<|ap [] b.Buffer)<|oN (few<|ln<|ap [] b.IoBuffer)<|iter (σ:=(Int×Int×lN×lM×lN×lE×lE×lM×lN×lE×lE×Unit)) N (λe a=>let d:=ix a.2.2.1 a.2.1 zi;let c:=ap a.2.2.2.2.2.2.2.2.1 [zmb d]; (cond (ilt a.2.1 a.1) (oN (inb a.2.1<|ln a.2.2.1)<|oN (zlB d)<|oN (few<|ln c)<|e (a.1,zM .i64 a.2.1 1,a.2.2.1,a.2.2.2.1,a.2.2.2.2.1,a.2.2.2.2.2.1,a.2.2.2.2.2.2.1,a.2.2.2.2.2.2.2.1,c,a.2.2.2.2.2.2.2.2.2.1,a.2.2.2.2.2.2.2.2.2.2.1,()))<|some [aH (⟨a.2.2.2.2.2.2.2.1,a.2.2.2.2.2.2.2.2.1,a.2.2.2.2.2.2.2.2.2.1,a.2.2.2.2.2.2.2.2.2.2.1⟩:Host)])) (ln b.Mons,0,b.Mons,[],[],[],[],zd8 b.Memory,[],ap [] b.Buffer,ap [] b.IoBuffer,()))
def zRd:=zq [(99,0,{n:=34,tm:=[(2,.lp 0 0),(3,.lp 1 0),(19,.sl 0 []),(20,ti),(21,ti)],lo:=[(0,[.sl 1 [],.sl 2 [],.sl 3 [],.sl 4 []]),(1,[.sl 5 [],.sl 6 [],.sl 7 [],.sl 8 []])],ro:=[(0,.mon,false),(1,.sl .int,true),(2,.mon,true),(3,.entry,true),(4,.entry,true),(5,.sl .int,true),(6,.mon,true),(7,.entry,true),(8,.entry,true)]})]
def zQl (a:Host)(l:zbt a=true):∃N,zC9 N a=some [aH<|zl a]:=by
 obtain⟨h,f,j,k⟩:=(zT a).1 (zO.1 l);have e:=zcJ f.1;refine zcg λN d=>?_;unfold zC9 oN;conv=>zeta
 have g:zgZ a.Memory=true:=(by simp;exact h);refine must g (must (zpc j)<|must (zpc k) ?_);refine(zbj a.Mons (λi (t:lN)=>(ln a.Mons,(i:Int),a.Mons,[],[],[],[],zd8 a.Memory,t,ap [] a.Buffer,ap [] a.IoBuffer,())) _ (λ_ x b n=>bif zlB x then (cond (few<|ln<|ap b [zmb x]) (n<|ap b [zmb x]) none) else none) (λ(t:lN)=>some [.agg<|zbn (⟨zd8 a.Memory,t,ap [] a.Buffer,ap [] a.IoBuffer⟩:Host)]) (λi c t rec=>?_) (λt rec=>?_) _ ([])<|d e.1).trans ?_;{simp only [zbr c,zZ c,zbk c,zba c e.1,cT]};{simp only [zbl,cF]};exact zkJ zlB zmb _ a.Mons 0 [] (λx m=>⟨zbq<|f.2 x m,rfl⟩) (by simpa using e.2)
def zvw:vM 99 zi7:=kF1 zAy zA zo zn zRd zQl
def allI {a:Type}(p:Nat->a->Bool):List a->Nat->Bool
 |[],_=>true
 |x::l,i=>p i x&&allI p l (i+1)
def zI8 {a b:Type}(p:Nat->a->Bool)(r:Option b)(K:Unit->Option b):∀(l:List a) (i:Nat),goL (λi x (_:Unit) k=>bif p i x then k () else r) K l i ()=bif allI p l i then K () else r
 |[],_=>rfl
 |x::l,i=>by simp only[goL,allI];cases p i x;{rfl};{simp only [cT,uZ];exact zI8 p r K l (i+1)}
def zRZ {a:Type}(q:a->Bool)(l:List a)(d:a):∀(n i:Nat),i+n<=l.length->znC (λj=>q (ix l (j:Int) d)) n i=((l.drop i).take n).all q
 | 0,i,_=>by simp[znC]
 |n+1,i,h=>by have b:i<l.length:=(by omega);rw[j6 b,List.take_succ_cons,kW,<- zRZ q l d n (i+1) (by omega)];simp only[znC,zbk b]
def sameKey (a b:Entry):Bool:=bif ieq a.Tag b.Tag then ieq a.Page b.Page else false
def alone (l:List Entry)(i:Nat)(x:Entry):Bool:=(l.take i).all λy=>!sameKey x y
def zgh (l:List Entry):Bool:=bif allI (alone l) l 0 then ile (ln l) 6 else false
def z7Z {a:Type}{l:List a}{i:Nat}(h:i<=l.length):inr 0 (i:Int) (ln l)=true:=qI (by simp only[ln];omega)
@[simp] abbrev ziB (l:List Entry):Bool:=true
@[simp] abbrev zhV (l:List Entry):Bool:=zgh l
def znb:Run:=rF1 (dS .entry) λb=>(ziB b,[aB<|zhV b])
def zC2 (N:Nat)(g:lE):OA:=
 (iter (σ:=(Int×Int×lE×Unit)) N (λi b=>let c:=b.2.2.1;let e:=ix c b.2.1 zeR; (cond (ilt b.2.1 b.1) (oN (inb b.2.1<|ln c)<|oN (inr 0 b.2.1<|ln c)<|iter (σ:=(Int×Int×Int×Int×Int×Int×Int×Int×lE×lE×Unit)) N (λj a=>let d:=a.2.2.2.1;let f:=a.2.2.2.2.2.2.2.2.2.1;let h:=j (a.1,a.2.1,a.2.2.1,zM .i64 d 1,a.2.2.2.2.1,a.2.2.2.2.2.1,a.2.2.2.2.2.2.1,a.2.2.2.2.2.2.2.1,a.2.2.2.2.2.2.2.2.1,f,()); (cond (ilt d a.2.2.1) (oN (inb d<|ln f)<|cond (ieq a.2.2.2.2.1 (ix f d zeR).Tag) (cond (ieq a.2.2.2.2.2.1 (ix f d zeR).Page) oF h) h)<|i (a.1,zM .i64 a.2.1 1,a.2.2.2.2.2.2.2.2.1,()))) (b.1,b.2.1,ln<|tk c b.2.1,0,e.Tag,e.Page,e.Host,e.Rights,c,tk c b.2.1,()))<|some [aB<|ile (ln c) 6])) (ln g,0,g,()))
def zRc:=zq [(117,0,{n:=39,tm:=[(0,.sl 0 []),(7,.sl 0 []),(8,ti),(9,ti)],lo:=[],ro:=[(0,.entry,false)]}),(117,2,{n:=39,tm:=[(0,.sl 0 []),(4,.lp 0 0),(7,.sl 0 []),(8,ti),(9,ti),(16,.sl 1 []),(17,ti),(18,ti)],lo:=[(0,[ti,ti,ti,ti])],ro:=[(0,.entry,false),(1,.entry,false)]})]
def zQe (a:List Entry)(l:zbL big [aS .entry a])(m:ziB a=true):∃N,zC2 N a=some [aB<|zhV a]:=by
 have e:=len0 l;refine zcg λN d=>?_;unfold zC2 oN;conv=>zeta
 refine(zbj a (λi (t:Unit)=>(ln a,(i:Int),a,())) _ (λi (x:Entry) (_:Unit) h=>bif alone a i x then h () else oF) (λ(t:Unit)=>some [.one<|.b<|ile (ln a) 6]) (λi c t rec=>?_) (λt rec=>?_) _ ()<|d e).trans ?_;{simp only [zbr c,zZ c,zbk c,zba c e,cT];rw[z7Z<|Nat.le_of_lt c,cT];have k:(tk a (i:Int)).length<=big:=qU (by simp[tk];omega) e;refine(zbj (tk a (i:Int)) (λj (u:Unit)=>(ln a,(i:Int),ln<|tk a (i:Int),(j:Int),a[i].Tag,a[i].Page,a[i].Host,a[i].Rights,a,tk a (i:Int),())) _ (λ_ (y:Entry) (_:Unit) h=>bif !sameKey a[i] y then h () else oF) (λ(u:Unit)=>rec (ln a,((i+1:Nat):Int),a,())) (λj g u f=>?_) (λu f=>?_) _ ()<|d k).trans ?_;{simp only [zbr g,zZ g,zbk g,zba g k,cT,zba c e];unfold sameKey;cases ieq a[i].Tag (tk a (i:Int))[j].Tag<;>cases ieq a[i].Page (tk a (i:Int))[j].Page<;>rfl};{simp only [zbl,cF,zba c e]};rw[zgu λy=>!sameKey a[i] y];rfl};{simp only [zbl,cF]};rw[zI8<|alone a];unfold zhV zgh;cases allI (alone a) a 0<;>rfl
def zJe:vM 117 znb:=hF1 zAy zA zo zn zRc zQe
def zDp (N:Nat)(f:lE):OA:=
 (iter (σ:=(Int×lE×Unit)) N (λg c=>cond (ilt c.1<|ln c.2.1) (iter (σ:=(Int×Int×lE×Unit)) N (λh a=>let b:=a.2.2.1;let e:=ix b a.2.1 zeR;let d:=h (a.1,zM .i64 a.2.1 1,b,()); (cond (ilt a.2.1 a.1) (oN (inb a.1<|ln b)<|oN (inb a.2.1<|ln b)<|cond (ieq (ix b a.1 zeR).Tag e.Tag) (oN (inb a.1<|ln b)<|oN (inb a.2.1<|ln b)<|cond (ieq (ix b a.1 zeR).Page e.Page) oF d) d)<|g (zM .i64 a.1 1,b,()))) (c.1,0,c.2.1,()))<|some [aB<|ile (ln c.2.1) 6]) (0,f,()))
def zRj:=zq [(119,0,{n:=43,tm:=[(0,.sl 0 []),(3,ti)],lo:=[],ro:=[(0,.entry,false)]}),(119,2,{n:=43,tm:=[(0,.sl 0 []),(3,ti),(4,ti)],lo:=[],ro:=[(0,.entry,false)]})]
def zQy (a:List Entry)(k:zbL big [aS .entry a])(l:ziB a=true):∃N,zDp N a=some [aB<|zhV a]:=by
 have g:=len0 k;refine zcg λN d=>?_;unfold zDp oN;conv=>zeta
 refine(zbj a (λi (t:Unit)=>((i:Int),a,())) _ (λi (x:Entry) (_:Unit) h=>bif alone a i x then h () else oF) (λ(t:Unit)=>some [.one<|.b<|ile (ln a) 6]) (λi c t rec=>?_) (λt rec=>?_) _ ()<|d g).trans ?_;{simp only [zbr c,zZ c,zbk c,zba c g,cT];refine(zvH i (λ(j:Nat) (_:Unit)=>((i:Int),(j:Int),a,())) _ (λj (_:Unit) h=>bif !sameKey a[i] (ix a (j:Int) zeR) then h () else oF) (λ_=>rec (((i+1:Nat):Int),a,())) (λj m u f=>?_) (λu f=>?_) _ ()<|d (by omega)).trans ?_;{have e:j<a.length:=(by omega);simp only[show ilt (j:Int) (i:Int)=true from qI (by omega),zZ c,zZ e,zbk c,zba e g,cT];unfold sameKey;cases ieq a[i].Tag (ix a (j:Int) zeR).Tag<;>cases ieq a[i].Page (ix a (j:Int) zeR).Page<;>rfl};{simp only [show ilt (i:Int) (i:Int)=false from qJ (by omega),zba c g,cF]};rw[zy4 λj=>!sameKey a[i] (ix a (j:Int) zeR),zRZ (λy=>!sameKey a[i] y) a _ i 0 (by omega)];rfl};{simp only [zbl,cF]};rw[zI8<|alone a];unfold zhV zgh;cases allI (alone a) a 0<;>rfl
def zJx:vM 119 znb:=hF1 zAy zA zo zn zRj zQy
def z9X:zY:=[(99,zi7),(119,znb),(117,znb)]++z9W
def zIX:zS z9X:=zh zvw (zh zJx<|zh zJe zAy)
def zP8 (a b:Int):igt a b = !ile a b:=by unfold igt ile;by_cases h:a<=b;{rw [qI h,qJ (by omega)];rfl};{rw [qJ h,qI (by omega)];rfl}
def stB {c M:Bool}{E:OA}(h:c=true->E=some [AV.one<|.b M]):(cond (cond c false true) (some [AV.one<|.b false]) E)=some [AV.one<|.b<|cond c M false]:=by cases c;{rfl};{exact h rfl}
def stI {a b:Int}{M:Bool}{E:OA}(h:ieq a b=true->E=some [AV.one<|.b M]):(cond (ine a b) (some [AV.one<|.b false]) E)=some [AV.one<|.b<|cond (ieq a b) M false]:=by rw[zm3];cases c:ieq a b;{rfl};{exact h c}
def stG {a b:Int}{M:Bool}{E:OA}(h:ile a b=true->E=some [AV.one<|.b M]):(cond (igt a b) (some [AV.one<|.b false]) E)=some [AV.one<|.b<|cond (ile a b) M false]:=by rw[zP8];cases c:ile a b;{rfl};{exact h c}
def zm8 (s:Slot)(p:LI):Bool:=bif zc1 s noSlot then zcI p else (cond (enough s.Rights 1) (ile (ln p) 0) false)
def fits (m:Mon)(j:Nat):Bool:=zm8 (ix m.Outer (j:Int) zX) (ix m.Out (j:Int) [])
def zeq (m:Mon):Bool:=bif zk (ln m.Guests) 1 2 then (cond (ieq (ln m.Tables)<|ln m.Guests) (cond (zdj m.Outer 8 12) (cond (ieq (ln m.Out) 8) (cond (ieq (ln m.Dirty) 8) (cond (ile (ln m.Outs) 40) (cond (zdU m.Pending) (cond (zk m.Traps 0 3) (cond (zk m.Own 0 1000000000) (cond (m.Guests.all zd4) (znC (fits m) 8 0) false) false) false) false) false) false) false) false) false) else false
def zps {t:List Slot}{n p:Int}(h:zdj t n p=true):ln t=n:=by unfold zdj at h;cases a:t.all (λs=>zen s p);{rw [a]at h;cases h};{rw [a]at h;exact qD h}
@[simp] abbrev zjj (m:Mon):Bool:=true
@[simp] abbrev zj6 (m:Mon):Bool:=zeq m
def zsn:Run:=rF1 (dT .mon) λb=>(zjj b,[aB<|zj6 b])
def zRD (N:Nat)(a:Mon):OA:=
 let h:=ln a.Guests; (oN (zL h 1 2)<|cond (nB<|zk h 1 2) oF<|cond (ine (ln a.Tables) h) oF<|oN (zjF a.Outer 8 12)<|cond (nB<|ze4 a.Outer 8 12) oF<|cond (ine (ln a.Out) 8) oF<|cond (ine (ln a.Dirty) 8) oF<|cond (igt (ln a.Outs) 40) oF<|oN (zcj a.Pending)<|cond (nB<|zeJ a.Pending) oF<|oN (zL a.Traps 0 3)<|cond (nB<|zk a.Traps 0 3) oF<|oN (zL a.Own 0 1000000000)<|cond (nB<|zk a.Own 0 1000000000) oF<|iter (σ:=(Int×Int×Int×Int×Int×lG×lS×lM×lB×LI×lK×Unit)) N (λl b=>let i:=b.2.2.2.2.2.2.1;let g:=b.2.2.2.2.2.1;let k:=ix g b.2.1 zu; (cond (ilt b.2.1 b.1) (oN (inb b.2.1<|ln g)<|oN (zbp k)<|cond (nB<|zh7 k) oF<|l (b.1,zM .i64 b.2.1 1,b.2.2.1,b.2.2.2.1,b.2.2.2.2.1,g,i,b.2.2.2.2.2.2.2.1,b.2.2.2.2.2.2.2.2.1,b.2.2.2.2.2.2.2.2.2.1,b.2.2.2.2.2.2.2.2.2.2.1,()))<|iter (σ:=(Int×Int×Int×Int×Int×lS×lM×lB×lG×LI×lK×Unit)) N (λm c=>let d:=c.2.1;let e:=c.2.2.2.2.2.2.1;let f:=ix c.2.2.2.2.2.1 d zX;let j:=m (c.1,zM .i64 d 1,c.2.2.1,c.2.2.2.1,c.2.2.2.2.1,c.2.2.2.2.2.1,e,c.2.2.2.2.2.2.2.1,c.2.2.2.2.2.2.2.2.1,c.2.2.2.2.2.2.2.2.2.1,c.2.2.2.2.2.2.2.2.2.2.1,()); (cond (ilt d c.1) (oN (inb d<|ln c.2.2.2.2.2.1)<|oN zbI<|cond (cond (ieq f.Page zbc.Page) (ieq f.Rights zbc.Rights) false) (oN (inb d<|ln e)<|oN (zdV<|ix e d [])<|cond (nB<|zdf<|ix e d []) oF j)<|oN (zby f.Rights 1)<|cond (nB<|zcZ f.Rights 1) oF<|oN (inb d<|ln e)<|cond (igt (ln<|ix e d []) 0) oF j) oT)) (ln i,0,b.2.2.1,b.2.2.2.1,b.2.2.2.2.1,i,b.2.2.2.2.2.2.2.1,b.2.2.2.2.2.2.2.2.1,g,b.2.2.2.2.2.2.2.2.2.1,b.2.2.2.2.2.2.2.2.2.2.1,()))) (h,0,a.Pending,a.Traps,a.Own,a.Guests,a.Outer,a.Out,a.Dirty,a.Outs,a.Tables,()))
def z0a:=zq [(25,0,{n:=106,tm:=[(1,.lp 0 0),(64,.sl 0 []),(65,ti),(66,ti)],lo:=[(0,[.sl 1 [],.sl 2 [],.sl 3 [],.sl 0 [],.sl 4 [],ti,ti,.sl 5 [],ti])],ro:=[(0,.guest,false),(1,.slot,false),(2,.sl .int,false),(3,.bool,false),(4,.int,false),(5,.kept,false)]}),(25,2,{n:=106,tm:=[(1,.lp 0 0),(75,.sl 0 []),(76,ti),(77,ti)],lo:=[(0,[.sl 0 [],.sl 1 [],.sl 2 [],.sl 3 [],.sl 4 [],ti,ti,.sl 5 [],ti])],ro:=[(0,.slot,false),(1,.sl .int,false),(2,.bool,false),(3,.guest,false),(4,.int,false),(5,.kept,false)]})]
def zZi (a:Mon)(l:zbL big [aT .mon a])(E:zjj a=true):∃N,zRD N a=some [aB<|zj6 a]:=by
 have hg:a.Guests.length<=big:=((zcK l).1 (.s .guest a.Guests) (by simp[AV.cvs,Ty.cells])).len;have m:a.Outer.length<=big:=((zcK l).1 (.s .slot a.Outer) (by simp[AV.cvs,Ty.cells])).len;refine zcg λN d=>?_;unfold zRD zj6 zeq oN nB;conv=>zeta
 refine must rfl (stB λw=>stI λy=>must rfl (stB λr=>stI λv=>stI λz=>stG λA=>must rfl (stB λB=>must rfl (stB λC=>must rfl (stB λD=>?_)))));have p:=zps r;have q:ln a.Out=8:=qD v;simp only[ln] at p q;refine(zbj a.Guests (λi (t:Unit)=>(ln a.Guests,(i:Int),a.Pending,a.Traps,a.Own,a.Guests,a.Outer,a.Out,a.Dirty,a.Outs,a.Tables,())) _ (λ_ (x:Guest) (_:Unit) g=>bif zd4 x then g () else oF) (λ(t:Unit)=>iter (σ:=(Int×Int×Int×Int×Int×lS×lM×lB×lG×LI×lK×Unit)) N (λn c=>cond (ilt c.2.1 c.1) (cond (inb c.2.1<|ln c.2.2.2.2.2.1) (cond zbI (cond (cond (ieq (ix c.2.2.2.2.2.1 c.2.1 zX).Page zbc.Page) (ieq (ix c.2.2.2.2.2.1 c.2.1 zX).Rights zbc.Rights) false) (cond (inb c.2.1<|ln c.2.2.2.2.2.2.1) (cond (zdV<|ix c.2.2.2.2.2.2.1 c.2.1 []) (cond (cond (zdf<|ix c.2.2.2.2.2.2.1 c.2.1 []) false true) oF<|n (c.1,zM .i64 c.2.1 1,c.2.2.1,c.2.2.2.1,c.2.2.2.2.1,c.2.2.2.2.2.1,c.2.2.2.2.2.2.1,c.2.2.2.2.2.2.2.1,c.2.2.2.2.2.2.2.2.1,c.2.2.2.2.2.2.2.2.2.1,c.2.2.2.2.2.2.2.2.2.2.1,())) none) none)<|cond (zby (ix c.2.2.2.2.2.1 c.2.1 zX).Rights 1) (cond (cond (zcZ (ix c.2.2.2.2.2.1 c.2.1 zX).Rights 1) false true) oF<|cond (inb c.2.1<|ln c.2.2.2.2.2.2.1) (cond (igt (ln<|ix c.2.2.2.2.2.2.1 c.2.1 []) 0) oF<|n (c.1,zM .i64 c.2.1 1,c.2.2.1,c.2.2.2.1,c.2.2.2.2.1,c.2.2.2.2.2.1,c.2.2.2.2.2.2.1,c.2.2.2.2.2.2.2.1,c.2.2.2.2.2.2.2.2.1,c.2.2.2.2.2.2.2.2.2.1,c.2.2.2.2.2.2.2.2.2.2.1,())) none) none) none) none)<|some [.one<|.b true]) (ln a.Outer,0,a.Pending,a.Traps,a.Own,a.Outer,a.Out,a.Dirty,a.Guests,a.Outs,a.Tables,())) (λi h t rec=>?_) (λt rec=>?_) _ ()<|d hg).trans ?_;{simp only [zbr h,zZ h,zbk h,zba h hg,cT];simp only[zbp,zh7,cT];cases zd4 a.Guests[i]<;>rfl};{simp only [zbl,cF]};rw[zgu zd4];cases a.Guests.all zd4;{rfl};simp only[cT];refine(zbj a.Outer (λj (u:Unit)=>(ln a.Outer,(j:Int),a.Pending,a.Traps,a.Own,a.Outer,a.Out,a.Dirty,a.Guests,a.Outs,a.Tables,())) _ (λj (_:Slot) (_:Unit) g=>bif fits a j then g () else oF) (λ(u:Unit)=>some [.one<|.b true]) (λj e u f=>?_) (λu f=>?_) _ ()<|d m).trans ?_;{simp only [zbr e,zZ e,zbk e,zba e m,cT];have k:j<a.Out.length:=(by omega);simp only[zbI,zbc,zdV,zdf,zby,zcZ,zZ k,zP8,cT];unfold fits zm8;simp only[zbk e,zc1];cases ieq a.Outer[j].Page noSlot.Page<;>cases ieq a.Outer[j].Rights noSlot.Rights<;>cases enough a.Outer[j].Rights 1<;>cases ile (ln<|ix a.Out (j:Int) []) 0<;>cases zcI (ix a.Out (j:Int) [])<;>rfl};{simp only [zbl,cF]};rw[zuU λj (_:Unit) g=>bif fits a j then g () else oF,zy4<|fits a,show a.Outer.length=8 by omega];cases znC (fits a) 8 0<;>rfl
def zTe:vM 25 zsn:=hF1 zIX zA zo zn z0a zZi
def zRQ (N:Nat)(c:Mon):OA:=
 (oN (zL (ln c.Guests) 1 2)<|cond (nB<|zk (ln c.Guests) 1 2) oF<|cond (ine (ln c.Tables)<|ln c.Guests) oF<|oN (zjF c.Outer 8 12)<|cond (nB<|ze4 c.Outer 8 12) oF<|cond (ine (ln c.Out) 8) oF<|cond (ine (ln c.Dirty) 8) oF<|iter (σ:=(Int×Int×Int×Int×lS×lM×lB×lG×LI×lK×Unit)) N (λl b=>let d:=b.2.2.2.2.2.2.2.1; (cond (ilt b.1<|ln d) (oN (inb b.1<|ln d)<|oN (zbp<|ix d b.1 zu)<|cond (nB<|zh7<|ix d b.1 zu) oF<|l (zM .i64 b.1 1,b.2.1,b.2.2.1,b.2.2.2.1,b.2.2.2.2.1,b.2.2.2.2.2.1,b.2.2.2.2.2.2.1,d,b.2.2.2.2.2.2.2.2.1,b.2.2.2.2.2.2.2.2.2.1,()))<|iter (σ:=(Int×Int×Int×Int×lS×lM×lB×lG×LI×lK×Unit)) N (λm a=>let h:=a.2.2.2.2.1;let i:=inb a.1<|ln a.2.2.2.2.2.1;let e:=ix a.2.2.2.2.2.1 a.1 [];let g:=ix h a.1 zX;let k:=ieq g.Rights zbc.Rights;let j:=ieq g.Page zbc.Page;let f:=m (zM .i64 a.1 1,a.2.1,a.2.2.1,a.2.2.2.1,h,a.2.2.2.2.2.1,a.2.2.2.2.2.2.1,a.2.2.2.2.2.2.2.1,a.2.2.2.2.2.2.2.2.1,a.2.2.2.2.2.2.2.2.2.1,()); (cond (ilt a.1 8) (oN (inb a.1<|ln h)<|oN zbI<|cond (nB<|cond j k false) (oN i<|cond (igt (ln e) 0) oF<|oN (inb a.1<|ln h)<|oN (zby g.Rights 1)<|cond (nB<|zcZ g.Rights 1) oF<|cond (nB<|nB<|cond j k false) (oN i<|oN (zdV e)<|cond (nB<|zdf e) oF f) f)<|cond (nB<|nB<|cond j k false) (oN i<|oN (zdV e)<|cond (nB<|zdf e) oF f) f)<|cond (ile (ln a.2.2.2.2.2.2.2.2.1) 40) (oN (zcj a.2.1)<|cond (zeJ a.2.1) (oN (zL a.2.2.1 0 3)<|cond (zk a.2.2.1 0 3) (oN (zL a.2.2.2.1 0 1000000000)<|some [aB<|zk a.2.2.2.1 0 1000000000]) oF) oF) oF)) (0,b.2.1,b.2.2.1,b.2.2.2.1,b.2.2.2.2.1,b.2.2.2.2.2.1,b.2.2.2.2.2.2.1,d,b.2.2.2.2.2.2.2.2.1,b.2.2.2.2.2.2.2.2.2.1,()))) (0,c.Pending,c.Traps,c.Own,c.Outer,c.Out,c.Dirty,c.Guests,c.Outs,c.Tables,()))
def z0c:=zq [(26,0,{n:=115,tm:=[(1,.lp 0 0),(3,ti)],lo:=[(0,[.sl 0 [],.sl 1 [],.sl 2 [],.sl 3 [],.sl 4 [],ti,ti,.sl 5 [],ti])],ro:=[(0,.slot,false),(1,.sl .int,false),(2,.bool,false),(3,.guest,false),(4,.int,false),(5,.kept,false)]}),(26,2,{n:=115,tm:=[(1,.lp 0 0),(4,ti)],lo:=[(0,[.sl 0 [],.sl 1 [],.sl 2 [],.sl 3 [],.sl 4 [],ti,ti,.sl 5 [],ti])],ro:=[(0,.slot,false),(1,.sl .int,false),(2,.bool,false),(3,.guest,false),(4,.int,false),(5,.kept,false)]})]
def zZu (c:Mon)(r:zbL big [aT .mon c])(A:zjj c=true):∃N,zRQ N c=some [aB<|zj6 c]:=by
 have hg:c.Guests.length<=big:=((zcK r).1 (.s .guest c.Guests) (by simp[AV.cvs,Ty.cells])).len;refine zcg λN d=>?_;unfold zRQ zj6 zeq oN nB;conv=>zeta
 refine must rfl (stB λw=>stI λy=>must rfl (stB λp=>stI λq=>stI λz=>?_));have m:=zps p;have n:ln c.Out=8:=qD q;simp only[ln] at m n;refine(zbj c.Guests (λi (t:Unit)=>((i:Int),c.Pending,c.Traps,c.Own,c.Outer,c.Out,c.Dirty,c.Guests,c.Outs,c.Tables,())) _ (λ_ (x:Guest) (_:Unit) l=>bif zd4 x then l () else oF) (λ(t:Unit)=>iter (σ:=(Int×Int×Int×Int×lS×lM×lB×lG×LI×lK×Unit)) N (λh a=>cond (ilt a.1 8) (cond (inb a.1<|ln a.2.2.2.2.1) (cond zbI (cond (cond (cond (ieq (ix a.2.2.2.2.1 a.1 zX).Page zbc.Page) (ieq (ix a.2.2.2.2.1 a.1 zX).Rights zbc.Rights) false) false true) (cond (inb a.1<|ln a.2.2.2.2.2.1) (cond (igt (ln<|ix a.2.2.2.2.2.1 a.1 []) 0) oF<|cond (inb a.1<|ln a.2.2.2.2.1) (cond (zby (ix a.2.2.2.2.1 a.1 zX).Rights 1) (cond (cond (zcZ (ix a.2.2.2.2.1 a.1 zX).Rights 1) false true) oF<|cond (cond (cond (cond (ieq (ix a.2.2.2.2.1 a.1 zX).Page zbc.Page) (ieq (ix a.2.2.2.2.1 a.1 zX).Rights zbc.Rights) false) false true) false true) (cond (inb a.1<|ln a.2.2.2.2.2.1) (cond (zdV<|ix a.2.2.2.2.2.1 a.1 []) (cond (cond (zdf<|ix a.2.2.2.2.2.1 a.1 []) false true) oF<|h (zM .i64 a.1 1,a.2.1,a.2.2.1,a.2.2.2.1,a.2.2.2.2.1,a.2.2.2.2.2.1,a.2.2.2.2.2.2.1,a.2.2.2.2.2.2.2.1,a.2.2.2.2.2.2.2.2.1,a.2.2.2.2.2.2.2.2.2.1,())) none) none)<|h (zM .i64 a.1 1,a.2.1,a.2.2.1,a.2.2.2.1,a.2.2.2.2.1,a.2.2.2.2.2.1,a.2.2.2.2.2.2.1,a.2.2.2.2.2.2.2.1,a.2.2.2.2.2.2.2.2.1,a.2.2.2.2.2.2.2.2.2.1,())) none) none) none)<|cond (cond (cond (cond (ieq (ix a.2.2.2.2.1 a.1 zX).Page zbc.Page) (ieq (ix a.2.2.2.2.1 a.1 zX).Rights zbc.Rights) false) false true) false true) (cond (inb a.1<|ln a.2.2.2.2.2.1) (cond (zdV<|ix a.2.2.2.2.2.1 a.1 []) (cond (cond (zdf<|ix a.2.2.2.2.2.1 a.1 []) false true) oF<|h (zM .i64 a.1 1,a.2.1,a.2.2.1,a.2.2.2.1,a.2.2.2.2.1,a.2.2.2.2.2.1,a.2.2.2.2.2.2.1,a.2.2.2.2.2.2.2.1,a.2.2.2.2.2.2.2.2.1,a.2.2.2.2.2.2.2.2.2.1,())) none) none)<|h (zM .i64 a.1 1,a.2.1,a.2.2.1,a.2.2.2.1,a.2.2.2.2.1,a.2.2.2.2.2.1,a.2.2.2.2.2.2.1,a.2.2.2.2.2.2.2.1,a.2.2.2.2.2.2.2.2.1,a.2.2.2.2.2.2.2.2.2.1,())) none) none)<|cond (ile (ln a.2.2.2.2.2.2.2.2.1) 40) (cond (zcj a.2.1) (cond (zeJ a.2.1) (cond (zL a.2.2.1 0 3) (cond (zk a.2.2.1 0 3) (cond (zL a.2.2.2.1 0 1000000000) (some [.one<|.b<|zk a.2.2.2.1 0 1000000000]) none) oF) none) oF) none) oF) (0,c.Pending,c.Traps,c.Own,c.Outer,c.Out,c.Dirty,c.Guests,c.Outs,c.Tables,())) (λi g t rec=>?_) (λt rec=>?_) _ ()<|d hg).trans ?_;{simp only [zbr g,zZ g,zbk g,zba g hg,cT];simp only[zbp,zh7,cT];cases zd4 c.Guests[i]<;>rfl};{simp only [zbl,cF]};rw[zgu zd4];cases B:c.Guests.all zd4;{simp only [cF];cases ile (ln c.Outs) 40<;>cases zdU c.Pending<;>cases zk c.Traps 0 3<;>cases zk c.Own 0 1000000000<;>rfl};simp only[cT];refine(zvH 8 (λj (u:Unit)=>((j:Int),c.Pending,c.Traps,c.Own,c.Outer,c.Out,c.Dirty,c.Guests,c.Outs,c.Tables,())) _ (λj (_:Unit) l=>bif fits c j then l () else oF) (λ(u:Unit)=>cond (ile (ln c.Outs) 40) (cond (zcj c.Pending) (cond (zeJ c.Pending) (cond (zL c.Traps 0 3) (cond (zk c.Traps 0 3) (cond (zL c.Own 0 1000000000) (some [.one<|.b<|zk c.Own 0 1000000000]) none) oF) none) oF) none) oF) (λj v u f=>?_) (λu f=>?_) _ ()<|d (by decide)).trans ?_;{simp only [show ilt (j:Int) 8=true from qI (by omega),zba v (show 8<=big by decide),cT];have e:j<c.Outer.length:=(by omega);have k:j<c.Out.length:=(by omega);simp only[zbI,zbc,zdV,zdf,zby,zcZ,zZ e,zZ k,zP8,cT];unfold fits zm8;simp only[zbk e,zc1];cases ieq c.Outer[j].Page noSlot.Page<;>cases ieq c.Outer[j].Rights noSlot.Rights<;>cases enough c.Outer[j].Rights 1<;>cases ile (ln<|ix c.Out (j:Int) []) 0<;>cases zcI (ix c.Out (j:Int) [])<;>rfl};{simp only [show ilt ((8:Nat):Int) 8=false from qJ (by omega),cF];rfl};rw[zy4<|fits c];simp only[zcj,zeJ,zL,zUZ,cT];cases znC (fits c) 8 0<;>cases ile (ln c.Outs) 40<;>cases zdU c.Pending<;>cases zk c.Traps 0 3<;>cases zk c.Own 0 1000000000<;>rfl
def zTr:vM 26 zsn:=hF1 zIX zA zo zn z0c zZu
def z9Y:zY:=[(26,zsn),(25,zsn)]++z9X
def zIY:zS z9Y:=zh zTr (zh zTe zIX)
def zht:List Slot->List Bool->Option (List Bool)
 |[],u=>some u
 |s::l,u=>bif ilt s.Page 0 then zht l u else (cond (ix u s.Page false) none<|zht l<|up u s.Page true)
def ziA:List Mon->List Bool->Bool
 |[],_=>true
 |m::l,u=>bif zeq m then (match zht m.Outer u with|some a=>ziA l a|none=>false) else false
def zb2 (h:Host):Bool:=bif zjl h.Memory 12 then (cond (zk (ln h.Mons) 1 3) (cond (zgh h.Buffer) (cond (zgh h.IoBuffer) (ziA h.Mons<|rp 12 false) false) false) false) else false
def zre:∀(l:List Slot) (u a:List Bool),zht l u=some a->a.length=u.length
 |[],u,a,h=>by cases h;rfl
 |s::l,u,a,h=>by simp only[zht]at h;cases b:ilt s.Page 0;{rw [b]at h;cases c:ix u s.Page false;{rw [c]at h;simpa using zre l _ a h};{rw [c]at h;cases h}};{rw [b]at h;exact zre l u a h}
def zF5 {t:List Slot}{n:Int}(h:zdj t n 12=true):∀s∈t,s.Page<12:=by intro s d;unfold zdj at h;cases b:t.all (λs=>zen s 12);{rw [b]at h;cases h};{have:=qM.1 b s d;unfold zen at this;cases a:zc1 s noSlot;{rw [a] at this;simp only[cF,show igt 12 0=true from rfl,cT] at this;cases c:zk s.Page 0 (wsub .i64 12 1);{rw [c] at this;cases this};{have:=(zfL.1 c).2;rw[show wsub .i64 12 1=11 from rfl] at this;omega}};{unfold zc1 at a;rw[qE]at a;have a:s.Page = -1:=qD a.1;omega}}
def zYH {s:Slot}{u:List Bool}(h:s.Page<12)(b:u.length=12)(a:ilt s.Page 0=false):inb s.Page (ln u)=true:=by have:=jP a;exact qI (by simp only[ln];omega)
def zvi {a:Type}(r:Option a)(y:Slot)(u:List Bool)(b:List Bool->Option a):Option a:=bif ilt y.Page 0 then b u else (cond (inb y.Page<|ln u) (cond (ix u y.Page false) r<|cond (inb y.Page<|ln u) (share (up u y.Page true) λc=>b c) none) none)
def zAK {c:Type}(r:Option c)(K:List Bool->Option c):∀(l:List Slot) (i:Nat) (u:List Bool),(∀s∈l,s.Page<12)->u.length=12->
 goL (λ_ y u g=>zvi r y u g) K l i u=match zht l u with|some f=>K f|none=>r
 |[],_,_,_,_=>rfl
 |s::l,i,u,h,b=>by simp only[goL,zht,zvi];cases d:ilt s.Page 0;{have e:=zYH (h s (by simp)) b d;rw[e];cases ix u s.Page false;{simp only [cF,cT,share];exact zAK r K l (i+1) _ (λs a=>h s (by simp[a])) (by simpa using b)};{rfl}};{simp only [cT];exact zAK r K l (i+1) u (λs a=>h s (by simp[a])) b}
def z1z {b:Type}(r:Option b)(m:Mon)(u:List Bool)(a:List Bool->Option b):Option b:=bif zeq m then goL (λ_ y u a=>zvi r y u a) a m.Outer 0 u else r
def zdu {c x:Bool}:((cond c x false)=true)↔c=true/\x=true:=by cases c<;>simp
def zlD {m:Mon}(h:zeq m=true):zdj m.Outer 8 12=true:=by unfold zeq at h;simp only[zdu]at h;exact h.2.2.1
def zVT {K:Bool->OA}(k:List Bool->OA)(a:∀u,k u=K true):∀(l:List Mon) (i:Nat) (u:List Bool),u.length=12->
 goL (λ_ m u g=>z1z (K false) m u g) k l i u=K (ziA l u)
 |[],_,u,_=>a u
 |m::l,i,u,b=>by simp only[goL,ziA,z1z];cases c:zeq m;{rfl};{simp only [cT];have e:=zlD c;rw[zAK _ _ _ _ _ (zF5 e) b];cases d:zht m.Outer u with|none=>rfl|some f=>exact zVT k a l (i+1) f ((zre _ _ _ d).trans b)}
@[simp] abbrev zeb (h:Host):Bool:=true
@[simp] abbrev zdZ (h:Host):Bool:=zb2 h
def zms:Run:=rF1 dH λb=>(zeb b,[aB<|zdZ b])
def zKV (N:Nat)(c:Host):OA:=
 (oN (zjs c.Memory 12)<|cond (nB<|zfU c.Memory 12) oF<|oN (zL (ln c.Mons) 1 3)<|cond (nB<|zk (ln c.Mons) 1 3) oF<|oN (ziB c.Buffer)<|cond (nB<|zhV c.Buffer) oF<|oN (ziB c.IoBuffer)<|cond (nB<|zhV c.IoBuffer) oF<|oN (cond (few 12) (ieq 12 12) false)<|iter (σ:=(Int×Int×lB×lN×Unit)) N (λk b=>let h:=ix b.2.2.2.1 b.2.1 zi; (cond (ilt b.2.1 b.1) (oN (inb b.2.1<|ln b.2.2.2.1)<|oN (zjj h)<|cond (nB<|zj6 h) oF<|iter (σ:=(Int×Int×Int×Int×Int×lB×lN×Unit)) N (λi a=>let f:=a.2.2.2.2.1;let g:=a.2.2.2.2.2.2.1;let j:=(ix g a.2.2.1 zi).Outer;let d:=a.2.2.2.2.2.1;let e:=(ix j f zX).Page; (cond (ilt f a.2.2.2.1) (oN (inb f<|ln j)<|cond (ilt e 0) (i (a.1,a.2.1,a.2.2.1,a.2.2.2.1,zM .i64 f 1,d,g,()))<|oN (inb e<|ln d)<|cond (ix d e false) oF<|oN (inb e<|ln d)<|share (up d e true) λl=>i (a.1,a.2.1,a.2.2.1,a.2.2.2.1,zM .i64 f 1,l,g,()))<|k (a.1,zM .i64 a.2.1 1,d,g,()))) (b.1,b.2.1,b.2.1,ln h.Outer,0,b.2.2.1,b.2.2.2.1,())) oT)) (ln c.Mons,0,rp 12 false,c.Mons,()))
def zYh:=zq [(27,0,{n:=63,tm:=[(3,.sl 0 []),(33,.sl 1 []),(34,ti),(35,ti)],lo:=[],ro:=[(0,.bool,true),(1,.mon,false)]}),(27,2,{n:=63,tm:=[(3,.sl 0 []),(33,.sl 1 []),(34,ti),(35,ti),(43,.sl 1 [0]),(44,ti),(45,ti)],lo:=[],ro:=[(0,.bool,true),(1,.mon,false)]})]
def zWo (a:Host)(n:zbL big [aH a])(w:zeb a=true):∃N,zKV N a=some [aB<|zdZ a]:=by
 have l:CVB big (.s .mon a.Mons):=(zcK n).1 _ (by simp[AV.cvs,zbn]);have g:=l.len;refine zcg λN d=>?_;unfold zKV zdZ zb2 oN nB;conv=>zeta
 refine must rfl (stB λp=>must rfl (stB λq=>must rfl (stB λr=>must rfl (stB λv=>must rfl ?_))));refine(zbj a.Mons (λi (t:lB)=>(ln a.Mons,(i:Int),t,a.Mons,())) _ (λ_ (x:Mon) (u:List Bool) h=>z1z (oF) x u h) (λ(t:lB)=>some [.one<|.b true]) (λi c t rec=>?_) (λt rec=>?_) _ (rp 12 false)<|d g).trans ?_;{simp only [zbr c,zZ c,zbk c,zba c g,cT];unfold z1z;cases k:zeq a.Mons[i];{simp only [zjj,zj6,k,cT,cF]};simp only[zjj,zj6,k,cT,cF];have m:a.Mons[i].Outer.length<=big:=(l.inv.2 _ (jG c) (.s .slot _) (by simp[Ty.cells])).len;refine(zbj a.Mons[i].Outer (λj (u:lB)=>(ln a.Mons,(i:Int),(i:Int),ln a.Mons[i].Outer,(j:Int),u,a.Mons,())) _ (λ_ (y:Slot) (u:List Bool) h=>zvi (oF) y u h) (λ(u:lB)=>rec (ln a.Mons,((i+1:Nat):Int),u,a.Mons,())) (λj f u e=>?_) (λu e=>?_) _ (t)<|d m).trans ?_;{simp only [zbr f,zZ f,zbk f,zba f m,cT,zZ c,zbk c,zba c g];rfl};{simp only [zbl,cF,zZ c,zbk c,zba c g]};rfl};{simp only [zbl,cF]};exact zVT (K:=λb=>some [AV.one<|.b b]) _ (λ_=>rfl) _ _ _ rfl
def zPa:vM 27 zms:=hF1 zIY zA zo zn zYh zWo
def zJa {e:Type}(r:Option e)(k:List Bool->Option e)(m:Mon):∀(n i:Nat) (u:List Bool),(∀s∈m.Outer,s.Page<12)->u.length=12->i+n=m.Outer.length->
 goN (λj u d=>bif inb (j:Int) (ln m.Outer) then zvi r (ix m.Outer (j:Int) zX) u d else none) k n i u=goL (λ_ y u d=>zvi r y u d) k (m.Outer.drop i) i u
 | 0,i,u,_,_,h=>by have:i=m.Outer.length:=(by omega);subst this;simp[goN,goL]
 |n+1,i,u,b,c,h=>by have a:i<m.Outer.length:=(by omega);rw[j6 a];simp only[goN,goL,zZ a,zbk a,cT,zvi];cases f:ilt m.Outer[i].Page 0;{rw [zYH (b _<|jG a) c f];cases ix u m.Outer[i].Page false;{simp only [cF,cT,share];exact zJa r k m n (i+1) _ b (by simpa using c) (by omega)};{rfl}};{simp only [cT];exact zJa r k m n (i+1) u b c (by omega)}
def zLh (N:Nat)(b:Host):OA:=
 (oN (zjs b.Memory 12)<|cond (nB<|zfU b.Memory 12) oF<|oN (zL (ln b.Mons) 1 3)<|cond (nB<|zk (ln b.Mons) 1 3) oF<|oN (ziB b.Buffer)<|cond (nB<|zhV b.Buffer) oF<|oN (ziB b.IoBuffer)<|cond (nB<|zhV b.IoBuffer) oF<|oN (cond (few 12) (ieq 12 12) false)<|iter (σ:=(Int×lB×lM×lN×lE×lE×Unit)) N (λq c=>let n:=ix c.2.2.2.1 c.1 zi; (cond (ilt c.1<|ln c.2.2.2.1) (oN (inb c.1<|ln c.2.2.2.1)<|oN (zjj n)<|cond (nB<|zj6 n) oF<|iter (σ:=(Int×Int×lB×lM×lN×lE×lE×Unit)) N (λi a=>let k:=zM .i64 a.2.1 1;let h:=a.2.2.2.2.2.1;let g:=a.2.2.2.2.2.2.1;let f:=a.2.2.1;let e:=a.2.2.2.2.1;let p:=(ix e a.1 zi).Outer;let m:=i (a.1,k,f,a.2.2.2.1,e,h,g,());let d:=(ix p a.2.1 zX).Page;let l:=inb d<|ln f; (cond (ilt a.2.1 8) (oN (inb a.1<|ln e)<|oN (inb a.2.1<|ln p)<|cond (ige d 0) (oN l<|cond (ix f d false) oF<|cond (ige d 0) (oN l<|share (up f d true) λj=>i (a.1,k,j,a.2.2.2.1,e,h,g,())) m)<|cond (ige d 0) (oN l<|share (up f d true) λj=>i (a.1,k,j,a.2.2.2.1,e,h,g,())) m)<|q (zM .i64 a.1 1,f,a.2.2.2.1,e,h,g,()))) (c.1,0,c.2.1,c.2.2.1,c.2.2.2.1,c.2.2.2.2.1,c.2.2.2.2.2.1,())) oT)) (0,rp 12 false,b.Memory,b.Mons,b.Buffer,b.IoBuffer,()))
def zYp:=zq [(28,0,{n:=72,tm:=[(1,.lp 0 0),(3,.sl 0 []),(4,ti)],lo:=[(0,[.sl 1 [],.sl 2 [],.sl 3 [],.sl 4 []])],ro:=[(0,.bool,true),(1,.sl .int,false),(2,.mon,false),(3,.entry,false),(4,.entry,false)]}),(28,2,{n:=72,tm:=[(1,.lp 0 0),(3,.sl 0 []),(4,ti),(5,ti)],lo:=[(0,[.sl 1 [],.sl 2 [],.sl 3 [],.sl 4 []])],ro:=[(0,.bool,true),(1,.sl .int,false),(2,.mon,false),(3,.entry,false),(4,.entry,false)]})]
def zWH (a:Host)(y:zbL big [aH a])(F:zeb a=true):∃N,zLh N a=some [aB<|zdZ a]:=by
 have A:CVB big (.s .mon a.Mons):=(zcK y).1 _ (by simp[AV.cvs,zbn]);have h:=A.len;refine zcg λN f=>?_;unfold zLh zdZ zb2 oN nB;conv=>zeta
 refine must rfl (stB λD=>must rfl (stB λq=>must rfl (stB λr=>must rfl (stB λE=>must rfl ?_))));refine(zbj a.Mons (λi (t:lB)=>((i:Int),t,a.Memory,a.Mons,a.Buffer,a.IoBuffer,())) _ (λ_ (x:Mon) (u:List Bool) d=>bif zeq x then goN (λj u d=>bif inb (j:Int) (ln x.Outer) then zvi (oF) (ix x.Outer (j:Int) zX) u d else none) d 8 0 u else oF) (λ(t:lB)=>some [.one<|.b true]) (λi c t rec=>?_) (λt rec=>?_) _ (rp 12 false)<|f h).trans ?_;{simp only [zbr c,zZ c,zbk c,zba c h,cT];cases v:zeq a.Mons[i];{simp only [zjj,zj6,v,cT,cF]};simp only[zjj,zj6,v,cT,cF];refine(zvH 8 (λj (u:lB)=>((i:Int),(j:Int),u,a.Memory,a.Mons,a.Buffer,a.IoBuffer,())) _ (λj (u:List Bool) d=>bif inb (j:Int) (ln a.Mons[i].Outer) then zvi (oF) (ix a.Mons[i].Outer (j:Int) zX) u d else none) (λ(u:lB)=>rec (((i+1:Nat):Int),u,a.Memory,a.Mons,a.Buffer,a.IoBuffer,())) (λj z u g=>?_) (λu g=>?_) _ (t)<|f (by decide)).trans ?_;{simp only [show ilt (j:Int) 8=true from qI (by omega),zba z (show 8<=big by decide),cT,zZ c,zbk c,zba c h];unfold zvi;have e:ige (ix a.Mons[i].Outer (j:Int) zX).Page 0 = !ilt (ix a.Mons[i].Outer (j:Int) zX).Page 0:=(by rw[zbbT,Bool.not_not]);simp only[e];cases ilt (ix a.Mons[i].Outer (j:Int) zX).Page 0<;>cases inb (j:Int) (ln a.Mons[i].Outer)<;>cases inb (ix a.Mons[i].Outer (j:Int) zX).Page (ln u)<;>cases ix u (ix a.Mons[i].Outer (j:Int) zX).Page false<;>rfl};{simp only [show ilt ((8:Nat):Int) 8=false from qJ (by omega),cF,zZ c,zbk c,zba c h]};rfl};{simp only [zbl,cF]};have p:∀(l:List Mon) (i:Nat) (u:List Bool),u.length=12->goL (λ_ (x:Mon) (u:List Bool) d=>bif zeq x then goN (λj u d=>bif inb (j:Int) (ln x.Outer) then zvi (oF) (ix x.Outer (j:Int) zX) u d else none) d 8 0 u else oF) (λ_=>oT) l i u=some [AV.one<|.b<|ziA l u]:=(by intro l;induction l with|nil=>intro i u _;rfl|cons m l B=>intro i u n;simp only[goL,ziA];cases q:zeq m;{rfl};{have k:=zlD q;have w:0+8=m.Outer.length:=(by have:=zps k;simp only[ln] at this;omega);simp only[cT];rw[zJa _ _ m 8 0 u (zF5 k) n w,List.drop_zero,zAK _ _ _ _ _ (zF5 k) n];cases r:zht m.Outer u with|none=>rfl|some C=>exact B (i+1) C ((zre _ _ _ r).trans n)});exact p _ _ _ rfl
def zzb:vM 28 zms:=hF1 zIY zA zo zn zYp zWH
def z9Z:zY:=[(28,zms),(27,zms)]++z9Y
def zIZ:zS z9Z:=zh zzb (zh zPa zIY)
def zM4 {h:Host}(a:zb2 h=true):(h.Mons.length:Int)<=3:=by unfold zb2 at a;simp only[zdu]at a;exact(zfL.1 a.2.1).2
def zc9 (h:Host)(m:Int):Bool:=bif zb2 h then hasB m (ln h.Mons) else false
def zcW (h:Host)(m p:Int):Bool:=bif zb2 h then (cond (hasB m<|ln h.Mons) (hasB p 8) false) else false
def zRy {h:Host}(a:zb2 h=true)(m:Int):zk m 0 (wsub .i64 (ln h.Mons) 1)=hasB m (ln h.Mons):=zr3 (by have:=zM4 a;omega) m
@[simp] abbrev zgt (h:Host)(m:Int):Bool:=true
@[simp] abbrev zgs (h:Host)(m:Int):Bool:=zc9 h m
def zFe:Run:=rF2 dH dI λb c=>(zgt b c,[aB<|zgs b c])
def zLE (N:Nat)(a:Host)(b:Int):OA:=
 (oN (zeb a)<|cond (zdZ a) (oN (zL b 0<|wsub .i64 (ln a.Mons) 1)<|some [aB<|zk b 0<|wsub .i64 (ln a.Mons) 1]) oF)
def zW1 (a:Host)(b:Int)(d:zgt a b=true):∃N,zLE N a b=some [aB<|zgs a b]:=by refine⟨0,?_⟩;unfold zLE zgs zc9 oN;cases c:zb2 a;{simp only [zeb,zdZ,c,cT,cF]};{simp only [zeb,zdZ,c,cT,zL,zUZ,zRy c]}
def zP4:vM 360 zFe:=kF2 zIZ zA zo zn (zq []) zW1
@[simp] abbrev zpq (h:Host)(m p:Int):Bool:=true
@[simp] abbrev zgz (h:Host)(m p:Int):Bool:=zcW h m p
def zIk:Run:=rF3 dH dI dI λb c d=>(zpq b c d,[aB<|zgz b c d])
def zRX (N:Nat)(a:Host)(b c:Int):OA:=
 (oN (zeb a)<|cond (zdZ a) (oN (zL b 0<|wsub .i64 (ln a.Mons) 1)<|cond (zk b 0<|wsub .i64 (ln a.Mons) 1) (oN (zL c 0 7)<|some [aB<|zk c 0 7]) oF) oF)
def zZB (a:Host)(b c:Int)(e:zpq a b c=true):∃N,zRX N a b c=some [aB<|zgz a b c]:=by refine⟨0,?_⟩;unfold zRX zgz zcW oN;cases d:zb2 a;{simp only [zeb,zdZ,d,cT,cF]};{simp only [zeb,zdZ,d,cT,zL,zUZ,zRy d,has8];cases hasB b (ln a.Mons)<;>rfl}
def zTB:vM 124 zIk:=kF3 zIZ zA zo zn (zq []) zZB
def z90:zY:=[(360,zFe),(124,zIk)]++z9Z
def zVA:zS z90:=zh zP4 (zh zTB zIZ)
def zdM (k:Kept)(p:Int):Bool:=bif hasB p (ln k.Known) then hasB p (ln k.Slots) else false
def zb8 (k:Kept)(p:Int):Kept:=bif zdM k p then ⟨up k.Known p false,up k.Slots p noSlot⟩ else k
@[simp] def zrd {k:Kept}{p:Int}(h:SmK k):SmK (zb8 k p):=by unfold zb8;cases zdM k p;{exact h};{exact⟨by simpa using h.1,by simpa using h.2⟩}
def has_lt {p:Int}{n m:Int}(h:hasB p n=true):ilt p m=hasB p m:=by have h:=qD h;unfold ilt hasB;by_cases a:p<m;{rw [qI a,qI ⟨h.1,a⟩]};{rw [qJ a,qJ (by omega)]}
@[simp] abbrev zdY (k:Kept)(p:Int):Bool:=pc (SmK k)
@[simp] abbrev zjI (k:Kept)(p:Int):Bool:=zdM k p
def zFc:Run:=rF2 (dT .kept) dI λb c=>(zdY b c,[aB<|zjI b c])
def zLC (N:Nat)(a:Kept)(b:Int):OA:=
 (oN (zL b 0<|wsub .i64 (ln a.Known) 1)<|cond (zk b 0<|wsub .i64 (ln a.Known) 1) (some [aB<|ilt b<|ln a.Slots]) oF)
def zWY (a:Kept)(b:Int)(c:zdY a b=true):∃N,zLC N a b=some [aB<|zjI a b]:=by have e:=zO.1 c;refine⟨0,?_⟩;unfold zLC zjI zdM oN;simp only[zL,zUZ,zr3 e.1,cT];cases d:hasB b (ln a.Known);{rfl};{simp only [cT,has_lt d]}
def zPU:vM 323 zFc:=kF2 zVA zA zo zn (zq []) zWY
def z92:zY:=[(323,zFc)]++z90
def zI0:zS z92:=zh zPU zVA
@[simp] abbrev zhI (k:Kept)(p:Int):Kept:=zb8 k p
def zqe:Run:=rF2 (dT .kept) dI λb c=>(zdY b c,[aT .kept<|zhI b c])
def zLf (N:Nat)(c:Kept)(b:Int):OA:=
 let a:=zea c; (oN (zha c)<|oN (zdY a b)<|cond (zjI a b) (oN (inb b<|ln a.Known)<|share (up a.Known b false) λd=>oN zbI<|oN (inb b<|ln a.Slots)<|share (up a.Slots b zbc) λe=>some [aT .kept (⟨d,e⟩:Kept)])<|some [aT .kept a])
def zWF (a:Kept)(b:Int)(g:zdY a b=true):∃N,zLf N a b=some [aT .kept<|zhI a b]:=by
 have d:=zO.1 g;refine⟨0,?_⟩;unfold zLf zhI oN;conv=>zeta
 refine must (zbq<|(zyW _).2 d) (must (zbq d) ?_);unfold zb8;cases c:zdM a b;{simp only [zjI,zea,c,cF]};{simp only [zjI,zea,c,cT];unfold zdM at c;obtain⟨e,f⟩:=zdu.1 c;simp only[zWc,e,f,cT,share,zbI]}
def zPy:vM 274 zqe:=kF2 zI0 zA zo zn (zq []) zWF
def zKT (N:Nat)(b:Kept)(a:Int):OA:=
 let c:=zdT b; (oN (zeY b)<|oN (zby a<|ln b.Known)<|cond (zdk a<|ln b.Known) (oN (zby a<|ln b.Slots)<|cond (zdk a<|ln b.Slots) (oN (inb a<|ln c.Known)<|share (up c.Known a false) λd=>oN zbI<|oN (inb a<|ln c.Slots)<|share (up c.Slots a zbc) λe=>some [aT .kept (⟨d,e⟩:Kept)])<|some [aT .kept c])<|some [aT .kept c])
def zWm (a:Kept)(b:Int)(c:zdY a b=true):∃N,zKT N a b=some [aT .kept<|zhI a b]:=by
 have d:=zO.1 c;refine⟨0,?_⟩;unfold zKT zhI oN;conv=>zeta
 refine must (zbq d) (must rfl ?_);unfold zb8 zdM;simp only[zdk,zby,zdT,zWc,share,zbI,cT];cases hasB b (ln a.Known);{rfl};{cases hasB b (ln a.Slots)<;>rfl}
def zO8:vM 348 zqe:=kF2 zI0 zA zo zn (zq []) zWm
def z94:zY:=[(274,zqe),(348,zqe)]++z92
def zvk:zS z94:=zh zPy (zh zO8 zI0)
def zfn (k:Kept)(l:LI):Kept:=l.foldl zb8 k
def z09:∀(l:LI) {k:Kept},SmK k->SmK (zfn k l)
 |[],_,h=>h
 |p::l,k,h=>z09 l (zrd (p:=p) h)
def zAJ {b:Type}(K:List Bool×List Slot->Option b):∀(l:LI) (i:Nat) (k:Kept),SmK k->
 goL (λ_ x (t:List Bool×List Slot) a=>bif pc (SmK ⟨t.1,t.2⟩) then a ((zb8 ⟨t.1,t.2⟩ x).Known,(zb8 ⟨t.1,t.2⟩ x).Slots) else none) K l i (k.Known,k.Slots)=K ((zfn k l).Known,(zfn k l).Slots)
 |[],_,_,_=>rfl
 |x::l,i,k,h=>by have e:pc (SmK ⟨k.Known,k.Slots⟩)=true:=zbq h;simp only[goL,e,cT];exact zAJ K l (i+1) (zb8 k x) (zrd h)
def zFD (l:List Slot)(p:Int):LI:=idxs (λ(s:Slot)=>ieq s.Page p) l 0
def zkM (k:Kept)(l:List Slot)(p:Int):Kept:=zfn k (zFD l p)
def z8W {k:Kept}(l:List Slot)(p:Int)(h:SmK k):SmK (zkM k l p):=z09 _ h
@[simp] abbrev zit (k:Kept)(l:List Slot)(p:Int):Bool:=pc (SmK k/\l.length<=1048576)
@[simp] abbrev zmx (k:Kept)(l:List Slot)(p:Int):Kept:=zkM k l p
def zkY:Run:=rF3 (dT .kept) (dS .slot) dI λb c d=>(zit b c d,[aT .kept<|zmx b c d])
def zyO (N:Nat)(c:Kept)(e:lS)(f:Int):OA:=
 (oN (zha c)<|oN (zqL e f)<|iter (σ:=(Int×LI×lB×lS×lB×lS×Unit)) N (λg a=>let d:=ix a.2.1 a.1 0;let b:=(⟨a.2.2.1,a.2.2.2.1⟩:Kept); (cond (ilt a.1<|ln a.2.1) (oN (inb a.1<|ln a.2.1)<|oN (zdY b d)<|g (zM .i64 a.1 1,a.2.1,(zhI b d).Known,(zhI b d).Slots,a.2.2.2.2.1,a.2.2.2.2.2.1,()))<|some [aT .kept b])) (0,zgT e f,(zea c).Known,(zea c).Slots,[],[],()))
def zKJ:=zq [(304,0,{n:=27,tm:=[(3,.lp 0 0),(6,.lp 1 0),(7,.sl 0 []),(8,ti)],lo:=[(0,[.sl 1 [],.sl 2 []]),(1,[.sl 3 [],.sl 4 []])],ro:=[(0,.int,true),(1,.bool,true),(2,.slot,true),(3,.bool,true),(4,.slot,true)]})]
def zJ4 (b:Kept)(a:List Slot)(c:Int)(j:zit b a c=true):∃N,zyO N b a c=some [aT .kept<|zmx b a c]:=by
 obtain⟨h,f⟩:=zO.1 j;have g:(zgT a c).length<=big:=qU (zAZ _ a 0) (zcJ f).1;refine zcg λN e=>?_;unfold zyO oN;conv=>zeta
 refine must (zbq<|(zyW _).2 h) (must (zbq (by omega)) ?_);refine(zbj (zgT a c) (λi (t:lB×lS)=>((i:Int),zgT a c,t.1,t.2,[],[],())) _ (λ_ (x:Int) (t:List Bool×List Slot) k=>bif pc (SmK ⟨t.1,t.2⟩) then k ((zb8 ⟨t.1,t.2⟩ x).Known,(zb8 ⟨t.1,t.2⟩ x).Slots) else none) (λ(t:lB×lS)=>some [.agg<|Ty.cells .kept (⟨t.1,t.2⟩:Kept)]) (λi d t rec=>?_) (λt rec=>?_) _ ((zea b).Known,(zea b).Slots)<|e g).trans ?_;{simp only [zbr d,zZ d,zbk d,zba d g,cT]};{simp only [zbl,cF]};exact zAJ _ _ 0 b h
def zEl:vM 304 zkY:=kF3 zvk zA zo zn zKJ zJ4
def zyF (N:Nat)(c:Kept)(d:lS)(e:Int):OA:=
 (oN (zeY c)<|oN (zqL d e)<|iter (σ:=(Int×Int×LI×lB×lS×lB×lS×Unit)) N (λg a=>let f:=ix a.2.2.1 a.2.1 0;let b:=(⟨a.2.2.2.2.2.1,a.2.2.2.2.2.2.1⟩:Kept); (cond (ilt a.2.1 a.1) (oN (inb a.2.1<|ln a.2.2.1)<|oN (zdY b f)<|g (a.1,zM .i64 a.2.1 1,a.2.2.1,a.2.2.2.1,a.2.2.2.2.1,(zhI b f).Known,(zhI b f).Slots,()))<|some [aT .kept b])) (ln<|zgT d e,0,zgT d e,[],[],(zdT c).Known,(zdT c).Slots,()))
def zKD:=zq [(298,0,{n:=25,tm:=[(6,.lp 0 0),(7,.lp 1 0),(14,.sl 0 []),(15,ti),(16,ti)],lo:=[(0,[.sl 1 [],.sl 2 []]),(1,[.sl 3 [],.sl 4 []])],ro:=[(0,.int,true),(1,.bool,true),(2,.slot,true),(3,.bool,true),(4,.slot,true)]})]
def zJV (c:Kept)(a:List Slot)(b:Int)(j:zit c a b=true):∃N,zyF N c a b=some [aT .kept<|zmx c a b]:=by
 obtain⟨h,f⟩:=zO.1 j;have g:(zgT a b).length<=big:=qU (zAZ _ a 0) (zcJ f).1;refine zcg λN e=>?_;unfold zyF oN;conv=>zeta
 refine must (zbq h) (must (zbq (by omega)) ?_);refine(zbj (zgT a b) (λi (t:lB×lS)=>(ln<|zgT a b,(i:Int),zgT a b,[],[],t.1,t.2,())) _ (λ_ (x:Int) (t:List Bool×List Slot) k=>bif pc (SmK ⟨t.1,t.2⟩) then k ((zb8 ⟨t.1,t.2⟩ x).Known,(zb8 ⟨t.1,t.2⟩ x).Slots) else none) (λ(t:lB×lS)=>some [.agg<|Ty.cells .kept (⟨t.1,t.2⟩:Kept)]) (λi d t rec=>?_) (λt rec=>?_) _ ((zdT c).Known,(zdT c).Slots)<|e g).trans ?_;{simp only [zbr d,zZ d,zbk d,zba d g,cT]};{simp only [zbl,cF]};exact zAJ _ _ 0 c h
def zEe:vM 298 zkY:=kF3 zvk zA zo zn zKD zJV
def flushed (l:List Entry)(p:Int):List Entry:=l.filter λe=>!ieq e.Host p
def zHT (l:List Entry)(p:Int):(flushed l p).length<=l.length:=k9 _ _
def zm0 {b e:Type}(p:b->Bool)(K:List b->Option e):∀(l:List b) (i:Nat) (a:List b),a.length+l.length<=2147483648->
 goL (λ_ x a d=>bif p x then (cond (few<|ln<|ap a [x]) (d<|ap a [x]) none) else d a) K l i a=K (a++l.filter p)
 |[],i,a,_=>by simp[goL]
 |x::l,i,a,h=>by simp only[qV]at h;simp only[goL];cases c:p x;{rw [cF,zm0 p K l (i+1) a (by omega),List.filter_cons_of_neg (by simp[c])]};{rw [cT,zfP (by simp[ap];omega),cT,zm0 p K l (i+1) _ (by simp[ap];omega),List.filter_cons_of_pos c];simp[ap]}
@[simp] abbrev zew (l:List Entry)(p:Int):Bool:=pc (l.length<=1048576)
@[simp] abbrev zg3 (l:List Entry)(p:Int):List Entry:=flushed l p
def zlV:Run:=rF2 (dS .entry) dI λb c=>(zew b c,[aS .entry<|zg3 b c])
def zBP (N:Nat)(e:lE)(f:Int):OA:=
 (iter (σ:=(Int×Int×lE×lE×Unit)) N (λd a=>let b:=a.2.2.1;let c:=ix b a.2.1 zeR; (cond (ilt a.2.1<|ln b) (oN (inb a.2.1<|ln b)<|cond (ine c.Host a.1) (oN (inb a.2.1<|ln b)<|oN (few<|ln<|ap a.2.2.2.1 [c])<|d (a.1,zM .i64 a.2.1 1,b,ap a.2.2.2.1 [c],()))<|d (a.1,zM .i64 a.2.1 1,b,a.2.2.2.1,()))<|some [aS .entry a.2.2.2.1])) (f,0,e,[],()))
def zOz:=zq [(305,0,{n:=29,tm:=[(0,.sl 0 []),(1,ti),(5,.sl 1 []),(6,ti)],lo:=[],ro:=[(0,.entry,false),(1,.entry,true)]})]
def zNr (a:List Entry)(b:Int)(h:zew a b=true):∃N,zBP N a b=some [aS .entry<|zg3 a b]:=by
 have j:=zO.1 h;have f:=zcJ j;refine zcg λN d=>?_;unfold zBP oN;conv=>zeta
 refine(zbj a (λi (t:lE)=>(b,(i:Int),a,t,())) _ (λ_ (x:Entry) (t:List Entry) g=>bif !ieq x.Host b then (cond (few<|ln<|ap t [x]) (g<|ap t [x]) none) else g t) (λ(t:lE)=>some [.one<|.s .entry t]) (λi c t rec=>?_) (λt rec=>?_) _ ([])<|d f.1).trans ?_;{simp only [zbr c,zZ c,zbk c,zba c f.1,cT];rfl};{simp only [zbl,cF]};exact zm0 (λe=>!ieq e.Host b) _ a 0 [] (by simpa using f.2)
def zGq:vM 305 zlV:=kF2 zvk zA zo zn zOz zNr
def zBz (N:Nat)(d:lE)(f:Int):OA:=
 (iter (σ:=(Int×Int×Int×lE×lE×Unit)) N (λe a=>let b:=a.2.2.2.2.1;let c:=ix b a.2.1 zeR; (cond (ilt a.2.1 a.1) (oN (inb a.2.1<|ln b)<|cond (nB<|ieq c.Host a.2.2.1) (oN (few<|ln<|ap a.2.2.2.1 [c])<|e (a.1,zM .i64 a.2.1 1,a.2.2.1,ap a.2.2.2.1 [c],b,()))<|e (a.1,zM .i64 a.2.1 1,a.2.2.1,a.2.2.2.1,b,()))<|some [aS .entry a.2.2.2.1])) (ln d,0,f,[],d,()))
def zOr:=zq [(349,0,{n:=25,tm:=[(1,.fn 350 [0]),(5,.sl 0 []),(9,.sl 1 []),(10,ti),(11,ti)],lo:=[(0,[ti])],ro:=[(0,.entry,true),(1,.entry,false)]})]
def zNc (a:List Entry)(b:Int)(h:zew a b=true):∃N,zBz N a b=some [aS .entry<|zg3 a b]:=by
 have j:=zO.1 h;have f:=zcJ j;refine zcg λN d=>?_;unfold zBz oN nB;conv=>zeta
 refine(zbj a (λi (t:lE)=>(ln a,(i:Int),b,t,a,())) _ (λ_ (x:Entry) (t:List Entry) g=>bif !ieq x.Host b then (cond (few<|ln<|ap t [x]) (g<|ap t [x]) none) else g t) (λ(t:lE)=>some [.one<|.s .entry t]) (λi c t rec=>?_) (λt rec=>?_) _ ([])<|d f.1).trans ?_;{simp only [zbr c,zZ c,zbk c,zba c f.1,cT];cases ieq a[i].Host b<;>rfl};{simp only [zbl,cF]};exact zm0 (λe=>!ieq e.Host b) _ a 0 [] (by simpa using f.2)
def zGd:vM 299 zlV:=kF2 zvk zA zo zn zOr zNc
def z1J:zY:=[(304,zkY),(298,zkY),(305,zlV),(299,zlV)]++z94
def zI1:zS z1J:=zh zEl (zh zEe<|zh zGq<|zh zGd zvk)
def zmJ (b:List Guest)(p:Int):Nat->List Kept->List Kept
 | 0,a=>a
 |n+1,a=>up (zmJ b p n a) (n:Int) (zkM (ix (zmJ b p n a) (n:Int) zdz) (ix b (n:Int) zu).Live p)
def zrY (b:List Guest)(p:Int):∀(n:Nat) (a:List Kept),(zmJ b p n a).length=a.length
 | 0,_=>rfl
 |n+1,a=>by simp only[zmJ,zhR];exact zrY b p n a
def zxO (b:List Guest)(p:Int):∀(n:Nat) (a:List Kept),n<=a.length->zDK a->zDK (zmJ b p n a)
 | 0,_,_,h=>h
 |n+1,a,e,h=>by have d:=zxO b p n a (by omega) h;have c:n<(zmJ b p n a).length:=(by rw[zrY];omega);exact zz6 d (z8W _ _ (by rw[zbk c];exact d.2 _ (jG c)))
def zlL (x:Mon)(p:Int)(n:Nat):Mon:={x with Tables:=zmJ x.Guests p n x.Tables}
def z6A {x:Mon}{p:Int}{n:Nat}(a:n<=x.Tables.length)(h:zgf x):zgf (zlL x p n):=⟨h.1,h.2.1,h.2.2.1,h.2.2.2.1,h.2.2.2.2.1,zxO _ _ _ _ a h.2.2.2.2.2⟩
def zcC (h:Host)(m p:Int)(s:Slot):Host :=
 bif ine (ix (ix h.Mons m zi).Outer p zX).Page (-1)
 then ⟨h.Memory,up h.Mons m {zlL (ix h.Mons m zi) p (ix h.Mons m zi).Tables.length with Outer:=up (ix h.Mons m zi).Outer p s},flushed h.Buffer (ix (ix h.Mons m zi).Outer p zX).Page,flushed h.IoBuffer (ix (ix h.Mons m zi).Outer p zX).Page⟩
 else ⟨h.Memory,up h.Mons m {zlL (ix h.Mons m zi) p (ix h.Mons m zi).Tables.length with Outer:=up (ix h.Mons m zi).Outer p s},h.Buffer,h.IoBuffer⟩
def zbcB (h:Host)(m p:Int):Prop:=hasB m (ln h.Mons)=true/\hasB p (ln (ix h.Mons m zi).Outer)=true/\(ix h.Mons m zi).Tables.length<=(ix h.Mons m zi).Guests.length
@[simp] abbrev zgb (h:Host)(m p:Int)(s:Slot):Bool:=pc (zdm h/\zbcB h m p)
@[simp] abbrev zie (h:Host)(m p:Int)(s:Slot):Host:=zcC h m p s
def ztY:LW
 |[.agg [.s (.sl .int) b,.s .mon c,.s .entry d,.s .entry e],.one<|.i .i64 f,.one<|.i .i64 g,.agg [.i .i64 h,.i .i64 j]]=>some (zgb (⟨b,c,d,e⟩:Host) f g (⟨h,j⟩:Slot),[aH<|zie (⟨b,c,d,e⟩:Host) f g (⟨h,j⟩:Slot)])
 |_=>none
def zx0 (N:Nat)(p:Host)(g z:Int)(B:Slot):OA:=
 let v:=ix p.Mons g zi; (oN (inb g<|ln p.Mons)<|oN (inb z<|ln v.Outer)<|iter (σ:=(Int×Int×Int×Int×Int×Int×Int×Int×Int×Int×Int×Int×Int×Int×Int×lM×lN×lE×lE×lM×lN×lE×lE×Unit)) N (λD a=>let d:=a.2.2.1;let m:=a.2.2.2.2.2.2.2.2.2.2.2.1;let l:=a.2.2.2.2.2.2.2.2.2.2.2.2.1;let k:=a.2.2.2.2.2.2.2.2.2.2.2.2.2.2.1;let j:=a.2.2.2.2.2.2.2.2.2.2.2.2.2.2.2.1;let f:=a.2.2.2.2.2.2.2.1;let e:=a.2.2.2.2.2.2.2.2.1;let c:=a.2.2.2.1;let w:=a.2.2.2.2.2.2.2.2.2.2.1;let y:=a.2.2.2.2.2.2.2.2.2.2.2.2.2.2.2.2.2.1;let x:=a.2.2.2.2.2.2.2.2.2.2.2.2.2.2.2.2.2.2.1;let n:=a.2.2.2.2.2.2.1;let r:=a.2.2.2.2.2.2.2.2.2.1;let i:=a.2.2.2.2.2.2.2.2.2.2.2.2.2.1;let q:=a.2.2.2.2.2.2.2.2.2.2.2.2.2.2.2.2.1;let u:=(ix q r zi).Guests;let t:=(ix u c zu).Live;let h:=ix q n zi;let s:=(ix q i zi).Tables;let C:=up q n ({h with Outer:=(up h.Outer a.2.1 (⟨a.2.2.2.2.1,a.2.2.2.2.2.1⟩:Slot))}:Mon); (cond (ilt c<|ln s) (oN (inb c<|ln s)<|oN (inb c<|ln u)<|oN (zit (ix s c zdz) t a.2.1)<|oN (inb c<|ln s)<|share (up q i ({ (ix q i zi) with Tables:=(up s c<|zmx (ix s c zdz) t a.2.1)}:Mon)) λb=>D (a.1,a.2.1,d,zM .i64 c 1,a.2.2.2.2.1,a.2.2.2.2.2.1,n,f,e,r,w,m,l,i,k,j,b,y,x,a.2.2.2.2.2.2.2.2.2.2.2.2.2.2.2.2.2.2.2.1,a.2.2.2.2.2.2.2.2.2.2.2.2.2.2.2.2.2.2.2.2.1,a.2.2.2.2.2.2.2.2.2.2.2.2.2.2.2.2.2.2.2.2.2.1,a.2.2.2.2.2.2.2.2.2.2.2.2.2.2.2.2.2.2.2.2.2.2.1,()))<|cond (ine d<|-1) (oN (zew y d)<|oN (zew x d)<|oN (inb a.2.1<|ln h.Outer)<|share C λb=>oN (inb a.1<|ln b)<|oN (cond (cond (cond (cond (cond (cond (ieq i a.1) true false) (cond (ieq w a.1) true false) false) (cond (ieq r a.1) true false) false) (cond (ieq e a.1) true false) false) (cond (ieq f a.1) true false) false) (cond (ieq n a.1) true false) false)<|share (up b a.1 ({ (ix b n zi) with Out:=(ix b f zi).Out,Dirty:=(ix b e zi).Dirty,Guests:=(ix b r zi).Guests,Outs:=(ix b w zi).Outs,Pending:=m,Traps:=l,Tables:=(ix b i zi).Tables,Own:=k}:Mon)) λA=>some [aH (⟨j,A,zg3 y d,zg3 x d⟩:Host)])<|oN (inb a.2.1<|ln h.Outer)<|share C λb=>oN (inb a.1<|ln b)<|oN (cond (cond (cond (cond (cond (cond (ieq i a.1) true false) (cond (ieq w a.1) true false) false) (cond (ieq r a.1) true false) false) (cond (ieq e a.1) true false) false) (cond (ieq f a.1) true false) false) (cond (ieq n a.1) true false) false)<|share (up b a.1 ({ (ix b n zi) with Out:=(ix b f zi).Out,Dirty:=(ix b e zi).Dirty,Guests:=(ix b r zi).Guests,Outs:=(ix b w zi).Outs,Pending:=m,Traps:=l,Tables:=(ix b i zi).Tables,Own:=k}:Mon)) λA=>some [aH (⟨j,A,y,x⟩:Host)])) (g,z,(ix v.Outer z zX).Page,0,B.Page,B.Rights,g,g,g,g,g,v.Pending,v.Traps,g,v.Own,p.Memory,p.Mons,p.Buffer,p.IoBuffer,[],[],[],[],()))
def zUF:=zq [(228,0,{n:=70,tm:=[(1,ti),(2,ti),(4,.lp 0 0),(7,.lp 1 0),(8,.lp 2 0),(9,.lp 3 0),(10,ti),(11,ti)],lo:=[(0,[.sl 0 [],.sl 1 [],.sl 2 [],.sl 3 []]),(1,[ti,ti]),(2,[.sl 4 [],.sl 5 [],.sl 6 [],.sl 7 []]),(3,[.sl 1 [0],.sl 1 [1],.sl 1 [2],.sl 1 [3],.sl 1 [4],ti,ti,.sl 1 [7],ti])],ro:=[(0,.sl .int,true),(1,.mon,true),(2,.entry,true),(3,.entry,true),(4,.sl .int,true),(5,.mon,true),(6,.entry,true),(7,.entry,true)]})]
def zXb (N:Nat)(a:Host)(b c:Int)(d:Slot):zFP (cQ z1J zpX zKi zYb) zUF N 12 228 [true,true,true,true,false,false,false,false] 1 1 [[0],[1],[2],[4],[7]] .mon [aH a,aI b,aI c,aT .slot d]=zx0 N a b c d:=by kernel_rfl
def zUg (a:Host)(f b:Int)(d:Slot)(D:zbL big [aH a,aI f,aI b,aT .slot d])(y:zgb a f b d=true):∃N,zx0 N a f b d=some [aH<|zie a f b d]:=by
 obtain⟨B,g,s,C⟩:=zO.1 y;have l:=(zT a).1 B;have r:zgf (ix a.Mons f zi):=l.2.1.2 _ (zbK g _);obtain⟨k,rfl,q⟩:=zeo (n:=a.Mons.length) g;have x:=(zcJ r.2.2.2.2.2.1).1;refine zcg λN p=>?_;unfold zx0 oN;conv=>zeta
 refine must g (must s ?_);refine zuV (ix a.Mons (k:Int) zi).Tables.length (λi (t:List Mon)=>((k:Int),b,(ix (ix a.Mons (k:Int) zi).Outer b zX).Page,(i:Int),d.Page,d.Rights,(k:Int),(k:Int),(k:Int),(k:Int),(k:Int),(ix a.Mons (k:Int) zi).Pending,(ix a.Mons (k:Int) zi).Traps,(k:Int),(ix a.Mons (k:Int) zi).Own,a.Memory,t,a.Buffer,a.IoBuffer,[],[],[],[],())) _
  (λi t=>t=up a.Mons (k:Int) (zlL (ix a.Mons (k:Int) zi) b i)) (λ_ _=>some [AV.agg<|zbn<|zcC a (k:Int) b d]) (λi t rec u m A=>?_) (λt rec m=>?_) _ 0 a.Mons ?_ (jW _) ?_
 .subst m;have c:i<(zmJ (ix a.Mons (k:Int) zi).Guests b i (ix a.Mons (k:Int) zi).Tables).length:=(by rw[zrY];exact u);have e:i<(ix a.Mons (k:Int) zi).Guests.length:=by omega
  have z:zit (ix (zmJ (ix a.Mons (k:Int) zi).Guests b i (ix a.Mons (k:Int) zi).Tables) (i:Int) zdz) (ix (ix a.Mons (k:Int) zi).Guests (i:Int) zu).Live b=true :=
   zbq ⟨by rw[zbk c];exact(zxO _ _ _ _ (by omega) r.2.2.2.2.2).2 _ (jG c),by rw[zbk e];exact(r.2.2.2.1.2 _<|jG e).2.2.1⟩
  simp only[zez q,zxQ,zlL,zbr c,zZ c,zZ e,z,cT,share,zba u x];exact A _ rfl
 {subst m;simp only[zez q,zxQ,zhR,zlL,ln,zrY,zeZ,show ilt (((ix a.Mons (k:Int) zi).Tables.length:Nat):Int) (((ix a.Mons (k:Int) zi).Tables.length:Nat):Int)=false from qJ (by omega),cT,cF,share];have h:inb (k:Int) ((a.Mons.length:Nat):Int)=true:=g;have j:inb b (((ix a.Mons (k:Int) zi).Outer.length:Nat):Int)=true:=s;have v:zew a.Buffer (ix (ix a.Mons (k:Int) zi).Outer b zX).Page=true:=zbq l.2.2.1;have w:zew a.IoBuffer (ix (ix a.Mons (k:Int) zi).Outer b zX).Page=true:=zbq l.2.2.2;simp only[h,j,v,w,cT];unfold zcC;cases ine (ix (ix a.Mons (k:Int) zi).Outer b zX).Page (-1)<;>rfl};{exact(zRt q _).symm};{exact p (by omega)}
def zMY:zeU Tryz.prog 228 [true,true,true,true,false,false,false,false] (some (1,1,[[0],[1],[2],[4],[7]])) ztY:=by refine zm2 (kt:=.mon) (zhv zI1 zA zo zn) (zjT (by kernel_rfl)) (by kernel_rfl) ?_;intro a g f e h;have c:=zjZ e;unfold ztY at h;split at h;{obtain⟨d,rfl⟩:=zeF h;obtain⟨N,b⟩:=zUg _ _ _ _ (by exact c) d;exact⟨⟨_,rfl⟩,rfl,_,N,12,(zXb N _ _ _ _ ).trans b⟩};{cases h}
def zYc:zfZ:=[(228,[true,true,true,true,false,false,false,false],some (1,1,[[0],[1],[2],[4],[7]]),ztY)]++zYb
def zdQ:zeK zYc:=zrZ zn (by
 intro x a;simp only[qG,qO,or_false]at a;rcases a with rfl
 .exact zMY)
def zYG (x:Mon)(p:Int):Mon:={x with Dirty:=up x.Dirty p false}
def zr1 (h:Host)(m p:Int):Host:={h with Mons:=up h.Mons m (zYG (ix h.Mons m zi) p)}
def zvt (h:Host)(m p:Int):Host:=bif zcW h m p then (cond (zc1 (ix (ix h.Mons m zi).Outer p zX) noSlot) (zr1 h m p)<|zcC (zr1 h m p) m p ⟨(ix (ix h.Mons m zi).Outer p zX).Page,1⟩) else h
def zAQ:∀(l:List Mon) (u:List Bool),ziA l u=true->∀x∈l,zeq x=true
 |[],_,_,x,a=>by cases a
 |m::l,u,h,x,a=>by
  simp only[ziA]at h;cases b:zeq m;{rw [b]at h;cases h}
  .rw [b]at h;simp only[cT]at h;cases c:zht m.Outer u with
   |none=>rw[c]at h;cases h
   |some d =>rw[c]at h;rcases qG.1 a with rfl|a;{exact b};{exact zAQ l d h x a}
structure PageAt (h:Host) (m p:Int):Prop where
 hm:hasB m (ln h.Mons)=true
 hp:hasB p 8=true
 ok:zeq (ix h.Mons m zi)=true
 ho:(ix h.Mons m zi).Outer.length=8
 hd:(ix h.Mons m zi).Dirty.length=8
 ht:(ix h.Mons m zi).Tables.length=(ix h.Mons m zi).Guests.length
 hs:zc1 (ix (ix h.Mons m zi).Outer p zX) noSlot=ieq (ix (ix h.Mons m zi).Outer p zX).Page (-1)
def zSZ {s:Slot}{n:Int}(h:zen s n=true):zc1 s noSlot=ieq s.Page (-1):=by unfold zen at h;cases a:zc1 s noSlot;{rw [a]at h;cases d:ieq s.Page (-1);{rfl};{have e:s.Page = -1:=qD d;cases b:igt n 0;{rw [b]at h;cases h};{cases c:zk s.Page 0 (wsub .i64 n 1);{rw [b,c]at h;cases h};{have:=(zfL.1 c).1;omega}}}};{unfold zc1 at a;rw[qE]at a;exact a.1.symm}
def zNL {h:Host}{m p:Int}(d:zcW h m p=true):PageAt h m p:=by unfold zcW at d;simp only[zdu]at d;obtain⟨c,f,g⟩:=d;unfold zb2 at c;simp only[zdu]at c;have b:=zAQ _ _ c.2.2.2.2 _ (zbK f zi);have a:=b;unfold zeq at a;simp only[zdu]at a;have i:(ix h.Mons m zi).Outer.length=8:=(by have:=zps a.2.2.1;simp only[ln] at this;omega);refine⟨f,g,b,i,?_,?_,?_⟩;{have:ln (ix h.Mons m zi).Dirty=8:=qD a.2.2.2.2.1;simp only[ln] at this;omega};{have:ln (ix h.Mons m zi).Tables=ln (ix h.Mons m zi).Guests:=qD a.2.1;simp only[ln] at this;omega};{have e:=a.2.2.1;unfold zdj at e;simp only[zdu]at e;have j:hasB p (ln (ix h.Mons m zi).Outer)=true:=(by rw[ln,i];exact g);exact zSZ (qM.1 e.1 _<|zbK j _)}
def zX2 {x:Mon}{p:Int}(h:zgf x):zgf (zYG x p):=⟨h.1,h.2.1,by simpa [zYG] using h.2.2.1,h.2.2.2⟩
def zBq {h:Host}{m p:Int}(b:hasB m (ln h.Mons)=true)(a:SmH h):SmH (zr1 h m p):=⟨a.1,zkF a.2.1<|zX2<|a.2.1.2 _<|zbK b _,a.2.2⟩
def zIx {h:Host}{m p:Int}{s:Slot}(d:hasB m (ln h.Mons)=true)(a:SmH h):SmH (zcC h m p s):=by have c:=a.2.1.2 _ (zbK d zi);have e:=z6A (p:=p) (qZ _) c;have b:zsZ (up h.Mons m {zlL (ix h.Mons m zi) p (ix h.Mons m zi).Tables.length with Outer:=up (ix h.Mons m zi).Outer p s}):=zkF a.2.1 ⟨by simpa using c.1,e.2⟩;unfold zcC;cases ine (ix (ix h.Mons m zi).Outer p zX).Page (-1);{exact⟨a.1,b,a.2.2⟩};{exact⟨a.1,b,qU (zHT _ _) a.2.2.1,qU (zHT _ _) a.2.2.2⟩}
def zBt {h:Host}{m p:Int}(a:hasB m (ln h.Mons)=true):hasB m (ln (zr1 h m p).Mons)=true:=by unfold zr1;simpa [ln] using a
def z6w {h:Host}{m p:Int}(a:SmH h):SmH (zvt h m p):=by unfold zvt;cases b:zcW h m p;{exact a};{have P:=zNL b;cases zc1 (ix (ix h.Mons m zi).Outer p zX) noSlot;{exact zIx (zBt P.hm) (zBq P.hm a)};{exact zBq P.hm a}}
@[simp] abbrev zjq (h:Host)(m p:Int):Bool:=pc (zdm h)
@[simp] abbrev zxy (h:Host)(m p:Int):Host:=zvt h m p
def zIg:Run:=rF3 dH dI dI λb c d=>(zjq b c d,[aH<|zxy b c d,aB<|zgz b c d])
def zRL (N:Nat)(h:Host)(a b:Int):OA:=
 let c:=zl h;let g:=ix c.Mons a zi; (oN (zbt h)<|oN (zpq c a b)<|cond (nB<|zgz c a b) (some [aH c,aB false])<|oN (inb a<|ln c.Mons)<|oN (inb b<|ln g.Dirty)<|share (up c.Mons a ({g with Dirty:=(up g.Dirty b false)}:Mon)) (λd=>let i:=(ix d a zi).Outer;let f:=({c with Mons:=d}:Host);let e:=ix i b zX;let j:=({e with Rights:=1}:Slot); (oN (inb a<|ln d)<|oN (inb b<|ln i)<|oN zbI<|cond (cond (ieq e.Page zbc.Page) (ieq e.Rights zbc.Rights) false) (some [aH f,aB true])<|oN (zgb f a b j)<|some [aH<|zie f a b j,aB true])))
def zZq (a:Host)(c b:Int)(j:zjq a c b=true):∃N,zRL N a c b=some [aH<|zxy a c b,aB<|zgz a c b]:=by
 have g:=zO.1 j;have i:=(zT a).1 g;refine⟨0,?_⟩;unfold zRL zxy zgz zvt oN nB;conv=>zeta
 refine must (zbq g) (must rfl ?_);cases f:zcW a c b;{simp only [zgz,zl,f,cF,cT]};{have P:=zNL f;obtain⟨k,rfl,d⟩:=zeo (n:=a.Mons.length) P.hm;simp only[zgz,zl,f,cT,cF];have l:inb b (ln (ix a.Mons (k:Int) zi).Dirty)=true:=(by rw[ln,P.hd];exact P.hp);have h:inb b (ln (ix a.Mons (k:Int) zi).Outer)=true:=(by rw[ln,P.ho];exact P.hp);refine must P.hm (must l ?_);simp only[share,zez d,h,cT,zbI,zbc];refine must (zBt (p:=b) P.hm) ?_;have e:∀s:Slot,zc1 s noSlot=bif ieq s.Page noSlot.Page then ieq s.Rights noSlot.Rights else false:=λs=>(by unfold zc1;cases ieq s.Page noSlot.Page<;>rfl);rw[<- e];cases zc1 (ix (ix a.Mons (k:Int) zi).Outer b zX) noSlot;{refine zda rfl (must (zbq ⟨(zT _).2 (zBq P.hm i),zBt (p:=b) P.hm,?_,?_⟩) rfl);{simp only [zez d];exact h};{simp only [zez d];exact kX P.ht}};{rfl}}
def zTn:vM 359 zIg:=kF3 zI1 zA zo zdQ (zq []) zZq
def z4B:zY:=[(359,zIg)]++z1J
def z4C:zS z4B:=zh zTn zI1
def z4D:zY:=z4B
def zfO:zS z4D:=z4C
end
end Go.Proofs.YtkbkcnjpecmckaaGreat.E
