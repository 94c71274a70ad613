/- What is proved here: a part of the proof that the statement of this claim holds (several texts of wip/, laid together). -/
import Derived.Test.YthhbajmehldikaaGreatY3
namespace Go.Proofs.YthhbajmehldikaaGreat.E
open Go
set_option linter.constructorNameAsVariable false
set_option linter.unusedVariables false
set_option maxRecDepth 100000
set_option linter.unusedSimpArgs false
set_option linter.unusedSectionVars false
noncomputable section
def noSlot:Slot:=⟨-1,0⟩
def zbE:Bool:=true
abbrev zbc:Slot:=noSlot
def zlM:Run:=rF0 (zbE,[aT .slot zbc])
def z0f (N:Nat)  : OA :=
 (some [(.agg [(.i .i64 (-1)),(.i .i64 0)])])
theorem zDq  (a:zbU big []) (b:zbE=true):∃N,z0f N  = some [aT .slot zbc]:=by exact⟨0,rfl⟩
theorem zxW:vT 100 zlM:=hF0 zxM zQ zx zo (zq []) zDq
theorem zN0:vT 202 zlM:=hF0 zxM zQ zx zo (zq []) zDq
theorem zN9:vT 143 zrp:=hF3 zxM zQ zx zo (zq []) zGZ
def z8n:zZ:=[(100,zlM),(202,zlM),(143,zrp)]++ctrY
theorem zHO:zN z8n:=zh zxW (zh zN0 (zh zN9 zxM))
def zdK (r:Int):Bool:=ige r 0&&ile r 3
def zdF (_:Int):Bool:=true
abbrev zgB (r:Int):Bool:=zdK r
def zmt:Run:=rF1 dI fun b=>(zdF b,[aB (zgB b)])
def zTO (N:Nat)(a:Int):OA:=
 (oN (zM a 0 3) (some [(aB (zk a 0 3))]))
theorem zx5 (a:Int)(b:zbU big [aI a])(c:zdF a=true):∃N,zTO N a=some [aB (zgB a)]:=by exact⟨0,rfl⟩
theorem zIz:vT 286 zmt:=hF1 zHO zQ zx zo (zq []) zx5
theorem zIc:vT 276 zmt:=hF1 zHO zQ zx zo (zq []) zx5
def z8o:zZ:=[(286,zmt),(276,zmt)]++z8n
theorem znM:zN z8o:=zh zIz (zh zIc zHO)
def zen (a b:Int):Int:=bif zdK a then (cond (zdK b) (wand .i64 a b) 0) else 0
abbrev zgQ (a b:Int):Int:=zen a b
def zj7:Run:=rF2 dI dI fun b c=>(zbQ b c,[aI (zgQ b c)])
def zxC (N:Nat)(a b:Int):OA:=
 (oN (zdF a) (cond (nB (zgB a)) (some [(aI 0)]) (oN (zdF b) (cond (nB (zgB b)) (some [(aI 0)]) (some [(aI (wand .i64 a b))])))))
theorem zuE (a b:Int)(c:zbU big [aI a,aI b])(d:zbQ a b=true):∃N,zxC N a b=some [aI (zgQ a b)]:=by refine⟨0,?_⟩;unfold zxC zgQ zen zgB oN nB;cases zdK a<;>cases zdK b<;>rfl
theorem zC5:vT 290 zj7:=hF2 znM zQ zx zo (zq []) zuE
theorem zCY:vT 318 zj7:=hF2 znM zQ zx zo (zq []) zuE
def enough (a b:Int):Bool:=bif zdK a then (cond (zdK b) (ieq (wand .i64 a b) b) false) else false
abbrev zcO (a b:Int):Bool:=enough a b
def zo7:Run:=rF2 dI dI fun b c=>(zbQ b c,[aB (zcO b c)])
def zJ0 (N:Nat)(b a:Int):OA:=
 (oN (zdF b) (cond (zgB b) (oN (zdF a) (cond (zgB a) (some [(aB (ieq (wand .i64 b a) a))]) oF)) oF))
theorem zDo (a b:Int)(c:zbU big [aI a,aI b])(d:zbQ a b=true):∃N,zJ0 N a b=some [aB (zcO a b)]:=by refine⟨0,?_⟩;unfold zJ0 zcO enough zgB oN;cases zdK a<;>cases zdK b<;>rfl
theorem zOd:vT 222 zo7:=hF2 znM zQ zx zo (zq []) zDo
theorem zNV:vT 209 zo7:=hF2 znM zQ zx zo (zq []) zDo
def zbC (t:List Slot)(p:Int):Slot:=bif hasB p (ln t) then ix t p zU else noSlot
def zfR (_:List Slot)(_:Int):Bool:=true
abbrev zey (t:List Slot)(p:Int):Slot:=zbC t p
def zpg:Run:=rF2 (dS .slot) dI fun b c=>(zfR b c,[aT .slot (zey b c)])
def zKh (N:Nat)(a:lS)(b:Int):OA:=
 (oN (zM b 0 (wsub .i64 (ln a) 1)) (cond (nB (zk b 0 (wsub .i64 (ln a) 1))) (oN zbE (some [(.agg [(.i .i64 zbc.Page),(.i .i64 zbc.Rights)])])) (oN (inb b (ln a)) (some [(.agg [(.i .i64 (ix a b zU).Page),(.i .i64 (ix a b zU).Rights)])]))))
theorem zVD (b:List Slot)(a:Int)(c:zbU big [aS .slot b,aI a])(g:zfR b a=true):∃N,zKh N b a=some [aT .slot (zey b a)]:=by have f:=(len0 c);refine⟨0,?_⟩;unfold zKh zey zbC oN nB;have e:zk a 0 (wsub .i64 (ln b) 1)=hasB a (ln b):=zoT f a;rw[e];cases d:hasB a (ln b);{rfl};{rw [zF d];rfl}
theorem zOs:vT 25 zpg:=hF2 znM zQ zx zo (zq []) zVD
def zJT (N:Nat)(a:lS)(b:Int):OA:=
 (oN (zbQ b (ln a)) (cond (nB (zeW b (ln a))) (oN zbE (some [(.agg [(.i .i64 zbc.Page),(.i .i64 zbc.Rights)])])) (oN (inb b (ln a)) (some [(.agg [(.i .i64 (ix a b zU).Page),(.i .i64 (ix a b zU).Rights)])]))))
theorem zVf (a:List Slot)(b:Int)(d:zfR a b=true):∃N,zJT N a b=some [aT .slot (zey a b)]:=by refine⟨0,?_⟩;unfold zJT zey zbC zeW oN nB;cases c:hasB b (ln a);{rfl};{rw [zF c];rfl}
theorem zN5:vT 200 zpg:=kF2 znM zQ zx zo (zq []) zVf
def z8p:zZ:=[(290,zj7),(318,zj7),(222,zo7),(209,zo7),(25,zpg),(200,zpg)]++z8o
theorem zql:zN z8p:=zh zC5 (zh zCY (zh zOd (zh zNV (zh zOs (zh zN5 znM)))))
def zcQ (a b:Slot):Bool:=ieq a.Page b.Page&&ieq a.Rights b.Rights
def below' (a b:Slot):Bool:=bif zcQ a noSlot then true else (cond (ieq a.Page b.Page) (enough b.Rights a.Rights) false)
def zwt (_ _:Slot):Bool:=true
def zyP (a b:Slot):Bool:=below' a b
def zHa:Run:=rF2 (dT .slot) (dT .slot) fun b c=>(zwt b c,[aB (zyP b c)])
def zQo (N:Nat)(a:Slot)(b:Slot):OA:=
 (oN zbE (cond (cond (ieq a.Page zbc.Page) (ieq a.Rights zbc.Rights) false) oT (cond (ieq a.Page b.Page) (oN (zbQ b.Rights a.Rights) (some [(aB (zcO b.Rights a.Rights))])) oF)))
theorem zX8 (a:Slot)(b:Slot)(c:zwt a b=true):∃N,zQo N a b=some [aB (zyP a b)]:=by refine⟨0,?_⟩;unfold zQo zyP below' zcQ zbc oN;cases ieq a.Page noSlot.Page<;>cases ieq a.Rights noSlot.Rights<;>cases ieq a.Page b.Page<;>rfl
theorem zRW:vT 233 zHa:=kF2 zql zQ zx zo (zq []) zX8
def zbx (s:Slot)(a:List Slot):Slot :=
 bif ieq s.Page (-1) then noSlot else (cond (ieq (zbC a s.Page).Page (-1)) noSlot (cond (ieq (zen s.Rights (zbC a s.Page).Rights) 0) noSlot ⟨(zbC a s.Page).Page,zen s.Rights (zbC a s.Page).Rights⟩))
def zdX (_:Slot)(_:List Slot):Bool:=true
def zec (s:Slot)(a:List Slot):Slot:=zbx s a
def zi8:Run:=rF2 (dT .slot) (dS .slot) fun b c=>(zdX b c,[aT .slot (zec b c)])
def zvq (N:Nat)(a:Slot)(c:lS):OA:=
 let b:=(zey c a.Page); (oN (zfR c a.Page) (oN (zbQ a.Rights b.Rights) (cond (ieq a.Page (-1)) (oN zbE (some [(.agg [(.i .i64 zbc.Page),(.i .i64 zbc.Rights)])])) (cond (ieq b.Page (-1)) (oN zbE (some [(.agg [(.i .i64 zbc.Page),(.i .i64 zbc.Rights)])])) (cond (ieq (zgQ a.Rights b.Rights) 0) (oN zbE (some [(.agg [(.i .i64 zbc.Page),(.i .i64 zbc.Rights)])])) (some [(.agg [(.i .i64 b.Page),(.i .i64 (zgQ a.Rights b.Rights))])]))))))
theorem zta (a:Slot)(b:List Slot)(c:zbU big [aT .slot a,aS .slot b])(d:zdX a b=true):∃N,zvq N a b=some [aT .slot (zec a b)]:=by
 refine⟨0,?_⟩;unfold zvq zec zbx zey zgQ oN;conv=>zeta
 cases ieq a.Page (-1)<;>cases ieq (zbC b a.Page).Page (-1)<;>cases ieq (zen a.Rights (zbC b a.Page).Rights) 0<;>rfl
theorem zBJ:vT 232 zi8:=hF2 zql zQ zx zo (zq []) zta
theorem zBH:vT 285 zi8:=hF2 zql zQ zx zo (zq []) zta
def zcE (x:Int):Int:=bif (ige x 1&&ile x 6) then zQi .i64 (wsub .i64 x 1) 2 else -1
def zdm (x:Int):Int:=bif (ige x 1&&ile x 6) then zp9 (wsub .i64 x 1) 2 else -1
def zvd (x:Int):Int:=zcE x
def zDU:Run:=rF1 dI fun b=>(zdF b,[aI (zvd b)])
def zKk (N:Nat)(a:Int):OA:=
 (oN (zM a 1 6) (cond (nB (zk a 1 6)) (some [(aI (-1))]) (oN (ine 2 0) (some [(aI (zQi .i64 (wsub .i64 a 1) 2))]))))
theorem zVG (a:Int)(b:zdF a=true):∃N,zKk N a=some [aI (zvd a)]:=by refine⟨0,?_⟩;unfold zKk zvd zcE zk oN nB;cases ige a 1&&ile a 6<;>rfl
theorem zOv:vT 230 zDU:=kF1 zql zQ zx zo (zq []) zVG
def zpD (x:Int):Int:=zdm x
def zyI:Run:=rF1 dI fun b=>(zdF b,[aI (zpD b)])
def zCq (N:Nat)(a:Int):OA:=
 (oN (zM a 1 6) (cond (nB (zk a 1 6)) (some [(aI (-1))]) (oN (ine 2 0) (some [(aI (zp9 (wsub .i64 a 1) 2))]))))
theorem zPs (a:Int)(b:zdF a=true):∃N,zCq N a=some [aI (zpD a)]:=by refine⟨0,?_⟩;unfold zCq zpD zdm zk oN nB;cases ige a 1&&ile a 6<;>rfl
theorem zIF:vT 231 zyI:=kF1 zql zQ zx zo (zq []) zPs
def z8q:zZ:=[(233,zHa),(232,zi8),(285,zi8),(230,zDU),(231,zyI)]++z8p
theorem zUd:zN z8q:=zh zRW (zh zBJ (zh zBH (zh zOv (zh zIF zql))))
def zqw (k:Kept)(a b:List Slot)(i:Nat):Bool :=
 zcQ (ix k.Slots i zU) (cond (ix k.Known i false) (zbx (ix a i zU) b) noSlot)
def zlw (k:Kept)(a b:List Slot):Bool :=
 bif ine (ln k.Known) (ln a) then false else (cond (ine (ln k.Slots) (ln a)) false (zmL (zqw k a b) a.length 0))
theorem zOQ {a b:Type}{l:List a}{m:List b}(h:ine (ln l) (ln m)=false):l.length=m.length:=by have:(ln l==ln m)=true:=(by simpa [ine,bne] using h);have:=eq_of_beq this;simp only[ln] at this;omega
def ztA (_:Kept)(_ _:List Slot):Bool:=true
def zu7 (k:Kept)(a b:List Slot):Bool:=zlw k a b
def zDO:Run:=rF3 (dT .kept) (dS .slot) (dS .slot) fun b c d=>(ztA b c d,[aB (zu7 b c d)])
def zJ5 (N:Nat)(b:Kept)(e h:lS):OA:=
 (cond (ine (ln b.Known) (ln e)) oF (cond (ine (ln b.Slots) (ln e)) oF (iter (σ:=(Int×(lS×(lS×(lB×(lS×Unit)))))) N (fun i a=>let d:=a.2.2.2.2.1;let f:=(ix a.2.1 a.1 zU);let g:=(i ((zL .i64 a.1 1),(a.2.1,(a.2.2.1,(a.2.2.2.1,(d,()))))));let c:=(ix d a.1 zU); (cond (ilt a.1 (ln a.2.1)) (oN zbE (oN (inb a.1 (ln a.2.2.2.1)) (cond (ix a.2.2.2.1 a.1 false) (oN (inb a.1 (ln a.2.1)) (oN (zdX f a.2.2.1) (oN (inb a.1 (ln d)) (cond (nB (cond (ieq c.Page (zec f a.2.2.1).Page) (ieq c.Rights (zec f a.2.2.1).Rights) false)) oF g)))) (oN (inb a.1 (ln d)) (cond (nB (cond (ieq c.Page zbc.Page) (ieq c.Rights zbc.Rights) false)) oF g))))) oT)) (0,(e,(h,(b.Known,(b.Slots,()))))))))
def zXg:FuncId->Nat->Option Tmpl:=zq [(229,0,{n:=48,tm:=[(1,.sl 0 []),(2,.sl 1 []),(3,.lp 0 0),(7,ti)],lo:=[(0,[.sl 2 [],.sl 3 []])],ro:=[(0,.slot,false),(1,.slot,false),(2,.bool,false),(3,.slot,false)]})]
theorem zVr (a:Kept)(c d:List Slot)(p:zbU big [aT .kept a,aS .slot c,aS .slot d])(q:ztA a c d=true):∃N,zJ5 N a c d=some [aB (zu7 a c d)]:=by
 have h:=((zcF (zcF p).2).1 _ (qF.2 rfl)).len;refine zb6 fun N f=>?_;unfold zJ5 zu7 zlw oN nB;conv=>zeta
 cases m:ine (ln a.Known) (ln c);{cases n:ine (ln a.Slots) (ln c);{have j:=zOQ m;have k:=zOQ n;simp only[cF];refine(zbk c (fun i (t:Unit)=>((i:Int),c,d,a.Known,a.Slots,())) _ (fun i _ (_:Unit) g=>bif zqw a c d i then g () else oF) (fun (t:Unit)=>(some [(.one (.b true))])) (fun i e t rec=>?_) (fun t rec=>?_) _ () (f h)).trans ?_;{simp only [zbn e,zT e,zbd e,zY e h,cT];simp only[zT (l:=a.Known) (i:=i) (j ▸ e),zT (l:=a.Slots) (i:=i) (k ▸ e),zbE,zdX,cT,zqw,zcQ,zec,zbc,zbd e];cases ix a.Known (↑i) false;{simp only [cF];cases ieq (ix a.Slots (↑i) zU).Page noSlot.Page<;>cases ieq (ix a.Slots (↑i) zU).Rights noSlot.Rights<;>rfl};{simp only [cT];generalize zbx c[i] d=z;cases ieq (ix a.Slots (↑i) zU).Page z.Page<;>cases ieq (ix a.Slots (↑i) zU).Rights z.Rights<;>rfl}};{simp only [zbh,cF]};rw[ztT (fun i t g=>bif zqw a c d i then g () else oF),zxQ];cases zmL (zqw a c d) c.length 0<;>rfl};{rfl}};{rfl}
theorem zOh:vT 229 zDO:=hF3 zUd zQ zx zo zXg zVr
def z8r:zZ:=[(229,zDO)]++z8q
theorem zHP:zN z8r:=zh zOh zUd
def zkn (a:List Slot)(b:List Kept):List Guest->Nat->Bool
 |[],_=>true
 |g::l,i=>bif ilt (i:Int) (ln b) then (cond (zlw (ix b (i:Int) zcN) g.Live a) (zkn a b l (i+1)) false) else true
theorem zK4 {e:Type}(a:List Slot)(b:List Kept)(r c:Option e):∀(l:List Guest) (i:Nat),
 goL (fun i g (_:Unit) d=>bif ilt (i:Int) (ln b) then (cond (zlw (ix b (i:Int) zcN) g.Live a) (d ()) r) else c) (fun _=>c) l i ()=bif zkn a b l i then c else r
 |[],_=>rfl
 |g::l,i=>by simp only[goL,zkn];cases ilt (i:Int) (ln b);{rfl};{cases zlw (ix b (i:Int) zcN) g.Live a;{rfl};{exact zK4 a b r c l (i+1)}}
theorem zbaS {i:Nat}{a:Type}{l:List a}(h:ilt (i:Int) (ln l)=true):inb (i:Int) (ln l)=true:=by have:=qE h;exact qI ⟨by omega,this⟩
def tablesOf (m:Mon):Bool:=zkn m.Outer m.Tables m.Guests 0
def zi2 (h:Host):Bool:=h.Mons.all tablesOf
def zpC (_:Host):Bool:=true
def zim (h:Host):Bool:=zi2 h
def zmQ:Run:=rF1 dH fun b=>(zpC b,[aB (zim b)])
def zvB (N:Nat)(e:Host):OA:=
 (iter (σ:=(Int×(lM×(lN×(lE×(lE×Unit)))))) N (fun n b=>let h:=(ix b.2.2.1 b.1 zi); (cond (ilt b.1 (ln b.2.2.1)) (oN (inb b.1 (ln b.2.2.1)) (iter (σ:=(Int×(Int×(Int×(Int×(Int×(Int×(Int×(Int×(Int×(Int×(Int×(lM×(lN×(lE×(lE×Unit)))))))))))))))) N (fun p a=>let l:=a.2.2.2.2.2.2.2.2.2.2.2.2.2.1;let k:=a.2.2.2.2.2.2.2.2.2.2.2.2.2.2.1;let c:=a.2.1;let d:=a.2.2.2.2.2.2.2.2.2.2.2.2.1;let j:=(ix d a.2.2.1 zi).Outer;let g:=(ix d a.2.2.2.2.2.1 zi).Guests;let m:=(ix g c zG).Live;let i:=(n ((zL .i64 a.1 1),(a.2.2.2.2.2.2.2.2.2.2.2.1,(d,(l,(k,()))))));let f:=(ix d a.2.2.2.2.2.2.2.2.2.1 zi).Tables; (cond (ilt c (ln g)) (cond (ilt c (ln f)) (oN (inb c (ln f)) (oN (inb c (ln g)) (oN (ztA (ix f c zcN) m j) (cond (nB (zu7 (ix f c zcN) m j)) oF (p (a.1,((zL .i64 c 1),(a.2.2.1,(a.2.2.2.1,(a.2.2.2.2.1,(a.2.2.2.2.2.1,(a.2.2.2.2.2.2.1,(a.2.2.2.2.2.2.2.1,(a.2.2.2.2.2.2.2.2.1,(a.2.2.2.2.2.2.2.2.2.1,(a.2.2.2.2.2.2.2.2.2.2.1,(a.2.2.2.2.2.2.2.2.2.2.2.1,(d,(l,(k,())))))))))))))))))))) i) i)) (b.1,(0,(b.1,(b.1,(b.1,(b.1,(b.1,(h.Pending,(h.Traps,(b.1,(h.Own,(b.2.1,(b.2.2.1,(b.2.2.2.1,(b.2.2.2.2.1,()))))))))))))))))) oT)) (0,(e.Memory,(e.Mons,(e.Buffer,(e.IoBuffer,()))))))
def zFZ:FuncId->Nat->Option Tmpl:=zq [(130,0,{n:=47,tm:=[(1,.lp 0 0),(3,ti)],lo:=[(0,[.sl 0 [],.sl 1 [],.sl 2 [],.sl 3 []])],ro:=[(0,(.sl .int),false),(1,.mon,false),(2,.entry,false),(3,.entry,false)]}),(130,2,{n:=47,tm:=[(1,.lp 0 0),(3,ti),(4,.lp 1 0),(5,ti)],lo:=[(0,[.sl 0 [],.sl 1 [],.sl 2 [],.sl 3 []]),(1,[.sl 1 [0],.sl 1 [1],.sl 1 [2],.sl 1 [3],.sl 1 [4],ti,ti,.sl 1 [7],ti])],ro:=[(0,(.sl .int),false),(1,.mon,false),(2,.entry,false),(3,.entry,false)]})]
theorem zFN (a:Host)(n:zbU big [aH a])(q:zpC a=true):∃N,zvB N a=some [aB (zim a)]:=by
 have m:CVB big (.s .mon a.Mons):=(zcF n).1 _ (by simp[AV.cvs,zbq]);have k:=m.len;refine zb6 fun N d=>?_;unfold zvB oN nB;conv=>zeta
 refine(zbk a.Mons (fun i (t:Unit)=>((i:Int),a.Memory,a.Mons,a.Buffer,a.IoBuffer,())) _ (fun _ (x:Mon) (_:Unit) l=>bif tablesOf x then l () else oF) (fun (t:Unit)=>(some [(.one (.b true))])) (fun i c t rec=>?_) (fun t rec=>?_) _ () (d k)).trans ?_;{simp only [zbn c,zT c,zbd c,zY c k,cT];have e:a.Mons[i].Guests.length<=big:=(m.inv.2 _ (q9 c) (.s .guest _) (by simp[Ty.cells])).len;refine(zbk a.Mons[i].Guests (fun j (u:Unit)=>((i:Int),(j:Int),(i:Int),(i:Int),(i:Int),(i:Int),(i:Int),a.Mons[i].Pending,a.Mons[i].Traps,(i:Int),a.Mons[i].Own,a.Memory,a.Mons,a.Buffer,a.IoBuffer,())) _ (fun j (g:Guest) (_:Unit) l=>bif ilt (j:Int) (ln a.Mons[i].Tables) then (cond (zlw (ix a.Mons[i].Tables (j:Int) zcN) g.Live a.Mons[i].Outer) (l ()) (oF)) else rec ((((i+1:Nat)):Int),(a.Memory,(a.Mons,(a.Buffer,(a.IoBuffer,())))))) (fun (u:Unit)=>(rec ((((i+1:Nat)):Int),(a.Memory,(a.Mons,(a.Buffer,(a.IoBuffer,()))))))) (fun j h u f=>?_) (fun u f=>?_) _ () (d e)).trans ?_;{simp only [zbn h,zT h,zbd h,zY h e,cT,zT c,zbd c,zY c k];cases p:ilt (j:Int) (ln a.Mons[i].Tables);{rfl};{simp only [cT,zbaS p,ztA,zu7];cases zlw (ix a.Mons[i].Tables (↑j) zcN) a.Mons[i].Guests[j].Live a.Mons[i].Outer<;>rfl}};{simp only [zbh,cF,zT c,zbd c,zY c k]};exact zK4 _ _ _ _ _ _};{simp only [zbh,cF]};rw[zgi];unfold zim zi2;cases a.Mons.all tablesOf<;>rfl
theorem zqc:vT 130 zmQ:=hF1 zHP zQ zx zo zFZ zFN
def zcy (h:Host)(e:Entry):Bool :=
 bif hasB (zcE e.Tag) (ln h.Mons) then (bif hasB (zdm e.Tag) (ln (ix h.Mons (zcE e.Tag) zi).Guests) then
  below' ⟨e.Host,e.Rights⟩ (zbx (zbC (ix (ix h.Mons (zcE e.Tag) zi).Guests (zdm e.Tag) zG).Live e.Page) (ix h.Mons (zcE e.Tag) zi).Outer) else false) else false
def zgK (h:Host)(b:List Entry):Bool:=b.all (zcy h)
def zj9 (_:Host)(_:List Entry):Bool:=true
def zgm (h:Host)(b:List Entry):Bool:=zgK h b
def zlL:Run:=rF2 dH (dS .entry) fun b c=>(zj9 b c,[aB (zgm b c)])
def zt3 (N:Nat)(f:Host)(m:lE):OA:=
 (iter (σ:=(Int×(lE×(lM×(lN×(lE×(lE×Unit))))))) N (fun n a=>let e:=a.2.2.2.1;let d:=(inb a.1 (ln a.2.1));let b:=(ix a.2.1 a.1 zer);let l:=(⟨b.Host,b.Rights⟩:Slot);let h:=(zpD b.Tag);let g:=(zvd b.Tag);let i:=(inb g (ln e));let c:=(ix e g zi);let k:=(ix c.Guests h zG).Live;let j:=(zey k b.Page); (cond (ilt a.1 (ln a.2.1)) (oN d (oN (zdF b.Tag) (oN d (oN (zdF b.Tag) (oN (zM g 0 (wsub .i64 (ln e) 1)) (cond (nB (zk g 0 (wsub .i64 (ln e) 1))) oF (oN i (oN (zM h 0 (wsub .i64 (ln c.Guests) 1)) (cond (nB (zk h 0 (wsub .i64 (ln c.Guests) 1))) oF (oN i (oN (inb h (ln c.Guests)) (oN d (oN (zfR k b.Page) (oN i (oN (zdX j c.Outer) (oN d (oN d (oN (zwt l (zec j c.Outer)) (cond (nB (zyP l (zec j c.Outer))) oF (n ((zL .i64 a.1 1),(a.2.1,(a.2.2.1,(e,(a.2.2.2.2.1,(a.2.2.2.2.2.1,())))))))))))))))))))))))))) oT)) (0,(m,(f.Memory,(f.Mons,(f.Buffer,(f.IoBuffer,())))))))
def zEl:FuncId->Nat->Option Tmpl:=zq [(131,0,{n:=84,tm:=[(1,.sl 0 []),(2,.lp 0 0),(5,ti)],lo:=[(0,[.sl 1 [],.sl 2 [],.sl 3 [],.sl 4 []])],ro:=[(0,.entry,false),(1,(.sl .int),false),(2,.mon,false),(3,.entry,false),(4,.entry,false)]})]
theorem zDp (a:Host)(b:List Entry)(g:zbU big [aH a,aS .entry b])(p:zj9 a b=true):∃N,zt3 N a b=some [aB (zgm a b)]:=by
 have l:CVB big (.s .mon a.Mons):=(zcF g).1 _ (by simp[AV.cvs,zbq]);have j:=((zcF (zcF g).2).1 _ (qF.2 rfl)).len;refine⟨NN,?_⟩;unfold zt3 oN nB;conv=>zeta
 refine(zbk b (fun i (_:Unit)=>((i:Int),(b,(a.Memory,(a.Mons,(a.Buffer,(a.IoBuffer,()))))))) _ (fun _ (x:Entry) (_:Unit) k=>bif zcy a x then k () else oF) (fun _=>oT)
  (fun i c t rec=>?_) (fun t rec=>?_) _ () (zbcD j)).trans ?_
 {simp only [zbn c,zT c,zbd c,cT,zdF,zvd,zdF,zpD,zM,zfR,zey,zdX,zec,zwt,zyP,zY c j];unfold zcy;generalize b[i]=e;have m:zk (zcE e.Tag) 0 (wsub .i64 (ln a.Mons) 1)=hasB (zcE e.Tag) (ln a.Mons):=zoT l.len _;rw[m];cases h:hasB (zcE e.Tag) (ln a.Mons);{rfl};{have d:(ix a.Mons (zcE e.Tag) zi).Guests.length<=big:=(l.inv.2 _ (zbG h zi) (.s .guest _) (by simp[Ty.cells])).len;have n:zk (zdm e.Tag) 0 (wsub .i64 (ln (ix a.Mons (zcE e.Tag) zi).Guests) 1)=hasB (zdm e.Tag) (ln (ix a.Mons (zcE e.Tag) zi).Guests):=zoT d _;rw[zF h,n];cases f:hasB (zdm e.Tag) (ln (ix a.Mons (zcE e.Tag) zi).Guests);{rfl};{rw [zF f];simp only[cT,jL,cF];cases below' ⟨e.Host,e.Rights⟩ (zbx (zbC (ix (ix a.Mons (zcE e.Tag) zi).Guests (zdm e.Tag) zG).Live e.Page) (ix a.Mons (zcE e.Tag) zi).Outer)<;>rfl}}};{simp only [zbh,cF]};{rw [zgi];unfold zgm zgK;cases b.all (zcy a)<;>rfl}
theorem zoQ:vT 131 zlL:=hF2 zHP zQ zx zo zEl zDp
def z8s:zZ:=[(130,zmQ),(131,zlL)]++z8r
theorem z6h:zN z8s:=zh zqc (zh zoQ zHP)
def ctrW:zZ:=z8s
theorem zNL:∀f a,zn ctrW f=some a->Holds Tryz.prog f a:=z6h
theorem hE (h:Host):(⟨h.Memory,h.Mons,h.Buffer,h.IoBuffer⟩:Host)=h:=rfl
def idxs {a:Type}(p:a->Bool):List a->Nat->List Int
 |[],_=>[]
 |x::l,i=>bif p x then (i:Int)::idxs p l (i+1) else idxs p l (i+1)
theorem zzH {a:Type}(p:a->Bool):∀(l:List a) (i:Nat),(idxs p l i).length<=l.length
 |[],_=>qY _
 |x::l,i=>by have:=zzH p l (i+1);simp only[idxs];cases p x<;>simp<;>omega
theorem zus {b c:Type}(p:b->Bool)(K:List Int->Option c):∀(l:List b) (i:Nat) (a:List Int),a.length+l.length<=2147483648->
 goL (fun i x a k=>bif p x then (cond (few (ln (ap a [(i:Int)]))) (k (ap a [(i:Int)])) none) else k a) K l i a=K (a++idxs p l i)
 |[],i,a,_=>by simp[goL,idxs]
 |x::l,i,a,h=>by simp only[qX]at h;simp only[goL,idxs];cases p x;{simp only [cF];exact zus p K l (i+1) a (by omega)};{simp only [cT];rw[zge (by simp[ap];omega),cT,zus p K l (i+1) _ (by simp[ap];omega)];simp[ap]}
def zw7 (p:Nat->Bool):Nat->Nat->List Int
 | 0,_=>[]
 |n+1,i=>bif p i then (i:Int)::zw7 p n (i+1) else zw7 p n (i+1)
theorem zzB {b:Type}(p:Nat->Bool)(K:List Int->Option b):∀(n i:Nat) (a:List Int),a.length+n<=2147483648->
 goN (fun i a k=>bif p i then (cond (few (ln (ap a [(i:Int)]))) (k (ap a [(i:Int)])) none) else k a) K n i a=K (a++zw7 p n i)
 | 0,i,a,_=>by simp[goN,zw7]
 |n+1,i,a,h=>by simp only[goN,zw7];cases p i;{simp only [cF];exact zzB p K n (i+1) a (by omega)};{simp only [cT];rw[zge (by simp[ap];omega),cT,zzB p K n (i+1) _ (by simp[ap];omega)];simp[ap]}
abbrev zpE (l:List Slot)(_:Int):Bool:=pc (l.length<=2147483648)
abbrev zgp (l:List Slot)(p:Int):List Int:=idxs (fun (s:Slot)=>ieq s.Page p) l 0
def zpi:Run:=rF2 (dS .slot) dI fun b c=>(zpE b c,[aS .int (zgp b c)])
def zKm (N:Nat)(c:lS)(d:Int):OA:=
 (iter (σ:=(Int×(Int×(lS×((List Int)×Unit))))) N (fun b a=>(cond (ilt a.2.1 (ln a.2.2.1)) (oN (inb a.2.1 (ln a.2.2.1)) (cond (ieq (ix a.2.2.1 a.2.1 zU).Page a.1) (oN (few (ln (ap a.2.2.2.1 [a.2.1]))) (b (a.1,((zL .i64 a.2.1 1),(a.2.2.1,((ap a.2.2.2.1 [a.2.1]),())))))) (b (a.1,((zL .i64 a.2.1 1),(a.2.2.1,(a.2.2.2.1,()))))))) (some [(aS .int a.2.2.2.1)]))) (d,(0,(c,([],())))))
def zXn:FuncId->Nat->Option Tmpl:=zq [(317,0,{n:=26,tm:=[(0,.sl 0 []),(1,ti),(5,.sl 1 []),(6,ti)],lo:=[],ro:=[(0,.slot,false),(1,.int,true)]})]
theorem zVI (b:List Slot)(a:Int)(g:zbU big [aS .slot b,aI a])(h:zpE b a=true):∃N,zKm N b a=some [aS .int (zgp b a)]:=by have e:=(len0 g);have j:=zO.1 h;refine zb6 fun N d=>?_;unfold zKm oN;refine(zbk b (fun i (t:(List Int))=>(a,(i:Int),b,t,())) _ (fun i (x:Slot) (t:List Int) f=>bif ieq x.Page a then (cond (few (ln (ap t [(i:Int)]))) (f (ap t [(i:Int)])) none) else f t) (fun (t:(List Int))=>(some [(.one (.s .int t))])) (fun i c t rec=>?_) (fun t rec=>?_) _ ([]) (d e)).trans ?_;{simp only [zbn c,zT c,zbd c,zY c e,cT]};{simp only [zbh,cF]};exact zus (fun (s:Slot)=>ieq s.Page a) _ _ 0 [] (by simpa using j)
theorem zOx:vT 317 zpi:=hF2 zNL zQ zx zo zXn zVI
def zJV (N:Nat)(d:lS)(f:Int):OA:=
 (iter (σ:=(Int×(Int×(Int×((List Int)×(lS×Unit)))))) N (fun e a=>let c:=a.2.2.2.2.1;let b:=a.2.2.1; (cond (ilt b a.2.1) (oN (inb b (ln c)) (cond (ieq (ix c b zU).Page a.1) (oN (few (ln (ap a.2.2.2.1 [b]))) (e (a.1,(a.2.1,((zL .i64 b 1),((ap a.2.2.2.1 [b]),(c,()))))))) (e (a.1,(a.2.1,((zL .i64 b 1),(a.2.2.2.1,(c,())))))))) (some [(aS .int a.2.2.2.1)]))) (f,((ln d),(0,([],(d,()))))))
def zXb:FuncId->Nat->Option Tmpl:=zq [(315,0,{n:=26,tm:=[(1,ti),(5,.sl 0 []),(9,.sl 1 []),(10,ti),(11,ti)],lo:=[],ro:=[(0,.int,true),(1,.slot,false)]})]
theorem zVh (a:List Slot)(b:Int)(g:zbU big [aS .slot a,aI b])(h:zpE a b=true):∃N,zJV N a b=some [aS .int (zgp a b)]:=by
 have e:=(len0 g);have j:=zO.1 h;refine zb6 fun N d=>?_;unfold zJV oN;conv=>zeta
 refine(zbk a (fun i (t:(List Int))=>(b,(ln a),(i:Int),t,a,())) _ (fun i (x:Slot) (t:List Int) f=>bif ieq x.Page b then (cond (few (ln (ap t [(i:Int)]))) (f (ap t [(i:Int)])) none) else f t) (fun (t:(List Int))=>(some [(.one (.s .int t))])) (fun i c t rec=>?_) (fun t rec=>?_) _ ([]) (d e)).trans ?_;{simp only [zbn c,zT c,zbd c,zY c e,cT]};{simp only [zbh,cF]};exact zus (fun (s:Slot)=>ieq s.Page b) _ _ 0 [] (by simpa using j)
theorem zN7:vT 315 zpi:=hF2 zNL zQ zx zo zXb zVh
def z8t:zZ:=[(317,zpi),(315,zpi)]++ctrW
theorem z6i:zN z8t:=zh zOx (zh zN7 zNL)
def z8u:zZ:=z8t
theorem z6j:zN z8u:=z6i
def z8v:zZ:=z8u
theorem zHQ:zN z8v:=z6j
def all2 {a:Type}(b:a->a->Bool):List a->List a->Bool
 |[],[]=>true
 |x::l,y::m=>b x y&&all2 b l m
 |_,_=>false
theorem zTT {a:Type}(b:a->a->Bool):∀(l m:List a),l.length≠m.length->all2 b l m=false
 |[],[],h=>absurd rfl h
 |[],_::_,_=>rfl
 |_::_,[],_=>rfl
 |x::l,y::m,h=>by simp only[all2,zTT b l m (by simpa using h),Bool.and_false]
theorem zUI {c g:Type}(e:c->c->Bool)(d:c)(b:List c)(r:Option g)(K:Unit->Option g):∀(a:List c) (i:Nat),a.length+i=b.length->
 goL (fun i x (_:Unit) k=>bif e x (ix b (i:Int) d) then k () else r) K a i ()=bif all2 e a (b.drop i) then K () else r
 |[],i,h=>by have:b.drop i=[]:=List.drop_eq_nil_of_le (by simp at h;omega);rw[this];rfl
 |x::a,i,h=>by simp only[qX]at h;have f:i<b.length:=(by omega);rw[jW f];simp only[goL,all2,zbd f];cases e x b[i];{rfl};{simp only [cT,uK];exact zUI e d b r K a (i+1) (by omega)}
theorem zbcb {a b:Type}{l:List a}{m:List b}(h:ine (ln l) (ln m)=true):l.length≠m.length:=by intro e;simp only[ine,ln,e,bne_self_eq_false]at h;cases h
theorem zoh (x y:Int):ine x y = !ieq x y:=rfl
def eqI (a b:List Int):Bool:=all2 ieq a b
def zdh (_ _:List Int):Bool:=true
def ziF (a b:List Int):Bool:=eqI a b
def zsR:Run:=rF2 (dS .int) (dS .int) fun b c=>(zdh b c,[aB (ziF b c)])
def zq0 (N:Nat)(b c:List Int):OA:=
 (cond (ine (ln b) (ln c)) oF (iter (σ:=(Int×((List Int)×((List Int)×Unit)))) N (fun d a=>(cond (ilt a.1 (ln a.2.1)) (oN (inb a.1 (ln a.2.1)) (oN (inb a.1 (ln a.2.2.1)) (cond (ine (ix a.2.1 a.1 0) (ix a.2.2.1 a.1 0)) oF (d ((zL .i64 a.1 1),(a.2.1,(a.2.2.1,()))))))) oT)) (0,(b,(c,())))))
def zTk:FuncId->Nat->Option Tmpl:=zq [(293,0,{n:=26,tm:=[(0,.sl 0 []),(1,.sl 1 []),(5,ti)],lo:=[],ro:=[(0,.int,false),(1,.int,false)]})]
theorem zSM (c a:List Int)(j:zbU big [aS .int c,aS .int a])(m:zdh c a=true):∃N,zq0 N c a=some [aB (ziF c a)]:=by have h:=(len0 j);refine zb6 fun N f=>?_;unfold zq0 ziF eqI oN;cases g:ine (ln c) (ln a);{have e:=zOQ g;rw[cF];refine(zbk c (fun i (t:Unit)=>((i:Int),c,a,())) _ (fun i (x:Int) (_:Unit) k=>bif ieq x (ix a (i:Int) 0) then k () else oF) (fun (t:Unit)=>(some [(.one (.b true))])) (fun i d t rec=>?_) (fun t rec=>?_) _ () (f h)).trans ?_;{simp only [zbn d,zT d,zbd d,zY d h,cT];simp only[zT (l:=a) (i:=i) (e ▸ d),cT,zoh];cases ieq c[i] (ix a (↑i) 0)<;>rfl};{simp only [zbh,cF]};rw[zUI ieq 0 a _ _ c 0 (by simpa using e),vH];cases all2 ieq c a<;>rfl};{rw [zTT _ _ _ (zbcb g)];rfl}
theorem zv1:vT 293 zsR:=hF2 zHQ zQ zx zo zTk zSM
def zeb (l:List Int):Bool:=pc (l.length<=2147483648)
abbrev zd6 (l:List Int):List Int:=l
def zyo:Run:=rF1 (dS .int) fun b=>(zeb b,[aS .int (zd6 b)])
def zB1 (N:Nat)(a:List Int):OA:=
 (oN (few (ln (ap [] a))) (some [(aS .int (ap [] a))]))
theorem zOZ (a:List Int)(b:zeb a=true):∃N,zB1 N a=some [aS .int (zd6 a)]:=by refine⟨0,?_⟩;unfold zB1 oN;rw[zmU,zge (zO.1 b),cT]
theorem zIf:vT 271 zyo:=kF1 zHQ zQ zx zo (zq []) zOZ
def z8w:zZ:=[(293,zsR),(271,zyo)]++z8v
theorem zHR:zN z8w:=zh zv1 (zh zIf zHQ)
def zAo:List Int:=rp 4 0
def zcB (m:List (List Int))(p:Int):List Int:=bif hasB p (ln m) then ix m p [] else zAo
def zhj (m:List (List Int))(_:Int):Bool:=pc (CVB sm (.s (.sl .int) m))
def ziT (m:List (List Int))(p:Int):List Int:=zcB m p
theorem z4I {m:List (List Int)}{p:Int}(b:CVB sm (.s (.sl .int) m))(a:hasB p (ln m)=true):(ix m p []).length<=2147483648 :=
 (zcv (b.inv.2 _ (zbG a ([]:List Int)) (.s .int _) (qF.2 rfl)).len).2
def zpc:Run:=rF2 (dS (.sl .int)) dI fun b c=>(zhj b c,[aS .int (ziT b c)])
def zKa (N:Nat)(a:lM)(b:Int):OA:=
 (oN (zM b 0 (wsub .i64 (ln a) 1)) (cond (nB (zk b 0 (wsub .i64 (ln a) 1))) (oN (cond (few 4) (ieq 4 4) false) (some [(aS .int (rp 4 0))])) (oN (inb b (ln a)) (oN (few (ln (ap [] (ix a b [])))) (some [(aS .int (ap [] (ix a b [])))])))))
theorem zVx (b:List (List Int))(a:Int)(f:zhj b a=true):∃N,zKa N b a=some [aS .int (ziT b a)]:=by have d:=zO.1 f;refine⟨0,?_⟩;unfold zKa ziT zcB oN nB;have e:zk a 0 (wsub .i64 (ln b) 1)=hasB a (ln b):=zoT (zcv d.len).1 a;rw[e];cases c:hasB a (ln b);{rfl};{simp only [zM,cT,cF,zF c,zmU,zge (z4I d c)]}
theorem zOm:vT 117 zpc:=kF2 zHR zQ zx zo (zq []) zVx
def zJQ (N:Nat)(a:lM)(b:Int):OA:=
 (oN (zbQ b (ln a)) (cond (nB (zeW b (ln a))) (oN (cond (few 4) (ieq 4 4) false) (some [(aS .int (rp 4 0))])) (oN (inb b (ln a)) (oN (zeb (ix a b [])) (some [(aS .int (zd6 (ix a b [])))])))))
theorem zVc (a:List (List Int))(b:Int)(d:zhj a b=true):∃N,zJQ N a b=some [aS .int (ziT a b)]:=by have e:=zO.1 d;refine⟨0,?_⟩;unfold zJQ ziT zcB zeW oN nB;cases c:hasB b (ln a);{rfl};{simp only [zbQ,cT,cF,zF c,show zeb (ix a b [])=true from zbm (z4I e c),zd6]}
theorem zN1:vT 307 zpc:=kF2 zHR zQ zx zo (zq []) zVc
def z8x:zZ:=[(117,zpc),(307,zpc)]++z8w
theorem zUe:zN z8x:=zh zOm (zh zN1 zHR)
def zcK (h:Host)(m p:Int):List Int :=
 bif hasB m (ln h.Mons) then (cond (hasB p 8) (cond (ine (zbC (ix h.Mons m zi).Outer p).Page (-1)) (zcB h.Memory (zbC (ix h.Mons m zi).Outer p).Page) (zcB (ix h.Mons m zi).Out p)) zAo) else zAo
theorem has8 (p:Int):zk p 0 7=hasB p 8:=by unfold zk ige ile hasB;by_cases a:0<=p<;>by_cases b:p<8;{rw [qI (p:=p≥0) (by omega),qI (p:=p<=7) (by omega),qI (p:=0<=p/\p<8) ⟨a,b⟩];rfl};{rw [qL (p:=p<=7) (by omega),qL (p:=0<=p/\p<8) (by omega)];simp};{rw [qL (p:=p≥0) (by omega),qL (p:=0<=p/\p<8) (by omega)];simp};{rw [qL (p:=p≥0) (by omega),qL (p:=0<=p/\p<8) (by omega)];simp}
def zz6 (h:Host)(_ _:Int):Bool:=pc (zcY h)
def zz5 (h:Host)(m p:Int):List Int:=zcK h m p
def zuV:Run:=rF3 dH dI dI fun b c d=>(zz6 b c d,[aS .int (zz5 b c d)])
def zKc (N:Nat)(a:Host)(c b:Int):OA:=
 let d:=(ix a.Mons c zi);let e:=(zey d.Outer b).Page; (oN (zM c 0 (wsub .i64 (ln a.Mons) 1)) (cond (nB (zk c 0 (wsub .i64 (ln a.Mons) 1))) (oN (cond (few 4) (ieq 4 4) false) (some [(aS .int (rp 4 0))])) (oN (zM b 0 7) (cond (nB (zk b 0 7)) (oN (cond (few 4) (ieq 4 4) false) (some [(aS .int (rp 4 0))])) (oN (inb c (ln a.Mons)) (oN (zfR d.Outer b) (cond (ine e (-1)) (oN (zhj a.Memory e) (some [(aS .int (ziT a.Memory e))])) (oN (zhj d.Out b) (some [(aS .int (ziT d.Out b))])))))))))
theorem zVz (a:Host)(b c:Int)(g:zz6 a b c=true):∃N,zKc N a b c=some [aS .int (zz5 a b c)]:=by
 have d:=zO.1 g;refine⟨0,?_⟩;unfold zKc zz5 zcK oN nB;conv=>zeta
 have e:zk b 0 (wsub .i64 (ln a.Mons) 1)=hasB b (ln a.Mons):=zoT (zcv d.mons.len).1 b;rw[e,has8];cases f:hasB b (ln a.Mons);{rfl};{cases i:hasB c 8;{rfl};{have h:CVB sm (.s (.sl .int) (ix a.Mons b zi).Out):=d.mons.inv.2 _ (zbG f zi) (.s (.sl .int) _) (by simp[Ty.cells]);simp only[zM,cT,cF,zF f,zfR,zey,show ∀p,zhj a.Memory p=true from fun p=>zbm d.mem,show ∀p,zhj (ix a.Mons b zi).Out p=true from fun p=>zbm h,ziT];cases ine (zbC (ix a.Mons b zi).Outer c).Page (-1)<;>rfl}}
theorem zxX:vT 34 zuV:=kF3 zUe zQ zx zo (zq []) zVz
def z8y:zZ:=[(34,zuV)]++z8x
theorem z6k:zN z8y:=zh zxX zUe
def z8z:zZ:=z8y
theorem z6l:zN z8z:=z6k
def ctrV:zZ:=z8z
theorem zbaz:∀f a,zn ctrV f=some a->Holds Tryz.prog f a:=z6l
def ctrU:zZ:=ctrV
theorem zfX:zN ctrU:=zbaz
def zqy:zhc:=z6X
theorem zC:zfD zqy:=zQ
def canRun (g:Guest):Bool:=bif (ieq g.Exit.Kind 0&&(ieq g.Exit.Page 0&&(ziL g.Exit.Write false&&ieq g.Exit.N 0))) then !g.Halted else false
def zty (_:Guest):Bool:=true
abbrev zqK (g:Guest):Bool:=canRun g
def zDM:Run:=rF1 (dT .guest) fun b=>(zty b,[aB (zqK b)])
def zJY (N:Nat)(a:Guest):OA:=
 (cond (cond (ieq a.Exit.Kind 0) (cond (ieq a.Exit.Page 0) (cond (ziL a.Exit.Write false) (ieq a.Exit.N 0) false) false) false) (some [(aB (nB a.Halted))]) oF)
theorem zVk (a:Guest)(b:zty a=true):∃N,zJY N a=some [aB (zqK a)]:=by refine⟨0,?_⟩;unfold zJY zqK canRun nB;cases ieq a.Exit.Kind 0<;>cases ieq a.Exit.Page 0<;>cases ziL a.Exit.Write false<;>cases ieq a.Exit.N 0<;>simp
theorem zOb:vT 345 zDM:=kF1 zxM zQ zx zo (zq []) zVk
theorem must {d:Type}{c:Bool}{a b r:Option d}(h:c=true)(k:a=r):(cond c a b)=r:=by rw[h];exact k
theorem mu {d:Type}{c:Bool}{a b r:Option d}(k:a=r)(h:c=true:=by first|assumption|(simp_all<;>omega)):(cond c a b)=r:=must h k
theorem zdU {d:Type}{c:Bool}{a b r:Option d}(h:c=false)(k:b=r):(cond c a b)=r:=by rw[h];exact k
theorem br {f:Type}{c:Bool}{a b r:Option f}(d:c=true->a=r)(e:c=false->b=r):(cond c a b)=r:=by cases c;{exact e rfl};{exact d rfl}
theorem brN {f:Type}{c:Bool}{a b r:Option f}(d:c=false->a=r)(e:c=true->b=r):(cond (cond c false true) a b)=r:=by cases c;{exact d rfl};{exact e rfl}
theorem shr {a b:Type}{x:a}{f:a->Option b}{r:Option b}(h:f x=r):share x f=r:=h
theorem zjP {e:Type}{c p:Bool}{a b:Option e}(d:c=true):(cond c (cond (cond p false true) a b) none)=bif p then b else a:=by rw[d];cases p<;>rfl
attribute [simp] zO
@[simp] theorem zbaK {a:Type}(l:List a):(few (ln l)=true)↔l.length<=2147483648:=by unfold few ln;rw[decide_eq_true_iff];omega
@[simp] theorem zbdv {a:Type}(l m:List a):(ap l m).length=l.length+m.length:=by simp[ap]
attribute [simp] zmU zfW
@[simp] theorem z9k (n:Nat)(k:IntKind)(x:Int):CVB n (.i k x)↔True:=⟨fun _=>trivial,fun _=>.i k x⟩
@[simp] theorem zbdz (n:Nat)(x:Bool):CVB n (.b x)↔True:=⟨fun _=>trivial,fun _=>.b x⟩
theorem zmb {n:Nat}{t:Ty}(l:List t.den):CVB n (.s t l)↔l.length<=n/\∀x∈l,∀c∈t.cells x,CVB n c:=⟨fun h=>h.inv,fun h=>.s t l h.1 h.2⟩
@[simp] theorem zZf (n:Nat)(l:List Int):CVB n (.s .int l)↔l.length<=n:=by rw[zmb];simp[Ty.cells]
@[simp] theorem zbb1 (n:Nat)(l:List Int):CVB n (.s .u8 l)↔l.length<=n:=by rw[zmb];simp[Ty.cells]
@[simp] theorem z6v (n:Nat)(l:List Bool):CVB n (.s .bool l)↔l.length<=n:=by rw[zmb];simp[Ty.cells]
@[simp] theorem z6x (n:Nat)(l:List Slot):CVB n (.s .slot l)↔l.length<=n:=by rw[zmb];simp[Ty.cells]
@[simp] theorem zbaB (n:Nat)(l:List Ins):CVB n (.s .ins l)↔l.length<=n:=by rw[zmb];simp[Ty.cells]
@[simp] theorem z3t (n:Nat)(l:List Entry):CVB n (.s .entry l)↔l.length<=n:=by rw[zmb];simp[Ty.cells]
@[simp] theorem zbaA (n:Nat)(l:List GAct):CVB n (.s .act l)↔l.length<=n:=by rw[zmb];simp[Ty.cells]
@[simp] theorem z6y (n:Nat)(l:List Told):CVB n (.s .told l)↔l.length<=n:=by rw[zmb];simp[Ty.cells]
def SmM (m:List (List Int)):Prop:=m.length<=1048576/\∀x∈m,x.length<=1048576
def SmG (g:Guest):Prop:=g.Prog.length<=1048576/\g.Written.length<=1048576/\g.Live.length<=1048576/\g.Seen.length<=1048576
def zlg (l:List Guest):Prop:=l.length<=1048576/\∀x∈l,SmG x
def SmB (b:Bare):Prop:=SmM b.Memory/\zlg b.Guests/\b.Outs.length<=1048576
def z0i (l:List Bare):Prop:=l.length<=1048576/\∀x∈l,SmB x
theorem z7G:sm=1048576:=rfl
@[simp] theorem z0H (l:List Int):CVB sm (.s .int l)↔l.length<=1048576:=zZf sm l
@[simp] theorem zbdc (l:List Int):CVB sm (.s .u8 l)↔l.length<=1048576:=zbb1 sm l
@[simp] theorem zXK (l:List Bool):CVB sm (.s .bool l)↔l.length<=1048576:=z6v sm l
@[simp] theorem zXL (l:List Slot):CVB sm (.s .slot l)↔l.length<=1048576:=z6x sm l
@[simp] theorem zbcM (l:List Ins):CVB sm (.s .ins l)↔l.length<=1048576:=zbaB sm l
@[simp] theorem zUw (l:List Entry):CVB sm (.s .entry l)↔l.length<=1048576:=z3t sm l
@[simp] theorem zbcL (l:List GAct):CVB sm (.s .act l)↔l.length<=1048576:=zbaA sm l
@[simp] theorem zbcA (l:List Told):CVB sm (.s .told l)↔l.length<=1048576:=z6y sm l
@[simp] theorem zqo (l:List (List Int)):CVB sm (.s (.sl .int) l)↔SmM l:=by rw[zmb];simp[Ty.cells,SmM,z7G]
@[simp] theorem zbaf (g:Guest):(∀c∈Ty.cells .guest g,CVB sm c)↔SmG g:=by simp[Ty.cells,SmG,z7G]
@[simp] theorem zvJ (l:List Guest):CVB sm (.s .guest l)↔zlg l:=by rw[zmb];simp only[zbaf];rfl
@[simp] theorem zbae (b:Bare):(∀c∈Ty.cells .bare b,CVB sm c)↔SmB b:=by simp only[Ty.cells,qG,qN,or_false,vO,forall_eq,zqo,zvJ,zZf,z9k,and_true];rfl
@[simp] theorem zbdg (l:List Bare):CVB sm (.s .bare l)↔z0i l:=by rw[zmb];simp only[zbae];rfl
@[simp] theorem zbdy (a:List Ins)(b c:Int)(d e:List Slot)(f:Ctl)(g:Int)(h:GExit)(i:Bool)(j:List Int):SmG ⟨a,b,c,d,e,f,g,h,i,j⟩↔a.length<=1048576/\d.length<=1048576/\e.length<=1048576/\j.length<=1048576:=Iff.rfl
@[simp] theorem zbdx (m:List (List Int))(g:List Guest)(o:List Int)(p:Int):SmB ⟨m,g,o,p⟩↔SmM m/\zlg g/\o.length<=1048576:=Iff.rfl
theorem zNa {m:List (List Int)}{i:Int}{x:List Int}(h:SmM m)(b:x.length<=1048576):SmM (up m i x):=by refine⟨by simpa using h.1,fun y a=>?_⟩;rcases qT a with a|rfl;{exact h.2 y a};{exact b}
theorem zEW {m:List Guest}{i:Int}{x:Guest}(h:zlg m)(b:SmG x):zlg (up m i x):=by refine⟨by simpa using h.1,fun y a=>?_⟩;rcases qT a with a|rfl;{exact h.2 y a};{exact b}
theorem zbbn {m:List Bare}{i:Int}{x:Bare}(h:z0i m)(b:SmB x):z0i (up m i x):=by refine⟨by simpa using h.1,fun y a=>?_⟩;rcases qT a with a|rfl;{exact h.2 y a};{exact b}
theorem z5g {l:List Guest}{i:Int}(h:zlg l)(a:hasB i (ln l)=true)(d:Guest):SmG (ix l i d):=h.2 _ (zbG a d)
theorem zbct {l:List (List Int)}{i:Int}(h:SmM l)(a:hasB i (ln l)=true)(d:List Int):(ix l i d).length<=1048576:=h.2 _ (zbG a d)
@[simp] theorem zbc3:SmG zG:=⟨by decide,by decide,by decide,by decide⟩
@[simp] theorem zTG (x a b:Int):zk x a b=zk x a b:=rfl
@[simp] theorem zUZ (i n:Int):inb i n=hasB i n:=rfl
attribute [simp] zeW
@[simp] theorem zqZ {a:Type}{l:List a}(h:l.length<=1048576)(i:Int):zk i 0 (wsub .i64 (ln l) 1)=hasB i (ln l):=zDm (zcv h).1 i
theorem zJK {a:Type}{l:List a}(h:l.length<=big)(i:Int):zk i 0 (wsub .i64 (ln l) 1)=hasB i (ln l):=zDm h i
theorem zgs {x a b:Int}:(zk x a b=true)↔a<=x/\x<=b:=by unfold zk ige ile;simp only[qD,decide_eq_true_iff]
theorem zbaR (a b:Int):ilt a b = !ige a b:=by unfold ilt ige;by_cases h:a<b;{rw [qI h,qL (by omega)];rfl};{rw [qL h,qI (by omega)];rfl}
attribute [simp] zbc zbc zgB zgB zgQ zgQ zcO zcO zey zey zqK zbE zbE
attribute [simp] zeX zdi zgG zd6
attribute [simp] zgD zdL zgb zeb
def zbp (a:Int):Int:=bif ilt a 0 then -1 else zQi .i64 a 4
def zdu (a:Int):Int:=bif ilt a 0 then -1 else zp9 a 4
@[simp] abbrev zdD (a:Int):Bool:=true
@[simp] abbrev zc4 (a:Int):Int:=zbp a
def zyw:Run:=rF1 dI fun b=>(zdD b,[aI (zc4 b)])
def zB9 (N:Nat)(a:Int):OA:=
 (cond (ilt a 0) (some [(aI (-1))]) (oN (ine 4 0) (some [(aI (zQi .i64 a 4))])))
theorem zO8 (a:Int)(b:zdD a=true):∃N,zB9 N a=some [aI (zc4 a)]:=by refine⟨0,?_⟩;unfold zB9 oN;refine br (fun _=>?_) (fun _=>must rfl ?_);all_goals first|rfl|(simp only [*,zc4,zbp,cT,cF]<;>rfl)|simp_all[Ty.cells,zc4,zbp]
theorem zIo:vT 145 zyw:=kF1 zfX zC zx zo (zq []) zO8
@[simp] abbrev zeM (a:Int):Int:=zdu a
def zyv:Run:=rF1 dI fun b=>(zdD b,[aI (zeM b)])
def zB8 (N:Nat)(a:Int):OA:=
 (cond (ilt a 0) (some [(aI (-1))]) (oN (ine 4 0) (some [(aI (zp9 a 4))])))
theorem zO7 (a:Int)(b:zdD a=true):∃N,zB8 N a=some [aI (zeM a)]:=by refine⟨0,?_⟩;unfold zB8 oN;refine br (fun _=>?_) (fun _=>must rfl ?_);all_goals first|rfl|(simp only [*,zeM,zdu,cT,cF]<;>rfl)|simp_all[Ty.cells,zeM,zdu]
theorem zIn:vT 146 zyv:=kF1 zfX zC zx zo (zq []) zO7
def zcg (w:Bool):Int:=bif w then 2 else 1
@[simp] abbrev ztC (w:Bool):Bool:=true
@[simp] abbrev zfQ (w:Bool):Int:=zcg w
def zDR:Run:=rF1 dB fun b=>(ztC b,[aI (zfQ b)])
def zJ9 (N:Nat)(a:Bool):OA:=
 (cond a (some [(aI 2)]) (some [(aI 1)]))
theorem zVw (a:Bool)(b:ztC a=true):∃N,zJ9 N a=some [aI (zfQ a)]:=by refine⟨0,?_⟩;unfold zJ9;refine br (fun _=>?_) (fun _=>?_);all_goals first|rfl|(simp only [*,zfQ,zcg,cT,cF]<;>rfl)|simp_all[Ty.cells,zfQ,zcg]
theorem zOl:vT 350 zDR:=kF1 zfX zC zx zo (zq []) zVw
def zr5 (p:Int)(w:Bool):GExit:=⟨1,p,w,0⟩
def zzi (n:Int):GExit:=⟨2,0,false,n⟩
def zya (n:Int):GExit:=⟨3,0,false,n⟩
@[simp] abbrev zkB (p:Int)(w:Bool):Bool:=true
@[simp] abbrev zfy (p:Int)(w:Bool):GExit:=zr5 p w
def zo9:Run:=rF2 dI dB fun b c=>(zkB b c,[.agg (zgd (zfy b c))])
def zAE (N:Nat)(a:Int)(c:Bool):OA:=
 (some [(.agg [(.i .i64 1),(.i .i64 a),(.b c),(.i .i64 0)])])
theorem zMh (a:Int)(b:Bool)(c:zkB a b=true):∃N,zAE N a b=some [.agg (zgd (zfy a b))]:=by refine⟨0,?_⟩;unfold zAE;first|rfl|(simp only [*,zfy,cT,cF]<;>rfl)|simp_all[Ty.cells,zfy]
theorem zs9:vT 260 zo9:=kF2 zfX zC zx zo (zq []) zMh
@[simp] abbrev zgR (n:Int):Bool:=true
@[simp] abbrev zfO (n:Int):GExit:=zzi n
def zqH:Run:=rF1 dI fun b=>(zgR b,[.agg (zgd (zfO b))])
def zCc (N:Nat)(a:Int):OA:=
 (some [(.agg [(.i .i64 2),(.i .i64 0),(.b false),(.i .i64 a)])])
theorem zPb (a:Int)(b:zgR a=true):∃N,zCc N a=some [.agg (zgd (zfO a))]:=by refine⟨0,?_⟩;unfold zCc;first|rfl|(simp only [*,zfO,cT,cF]<;>rfl)|simp_all[Ty.cells,zfO]
theorem zuw:vT 261 zqH:=kF1 zfX zC zx zo (zq []) zPb
@[simp] abbrev zgS (n:Int):GExit:=zya n
def zsQ:Run:=rF1 dI fun b=>(zgR b,[.agg (zgd (zgS b))])
def zGm (N:Nat)(a:Int):OA:=
 (some [(.agg [(.i .i64 3),(.i .i64 0),(.b false),(.i .i64 a)])])
theorem zSC (a:Int)(b:zgR a=true):∃N,zGm N a=some [.agg (zgd (zgS a))]:=by refine⟨0,?_⟩;unfold zGm;first|rfl|(simp only [*,zgS,cT,cF]<;>rfl)|simp_all[Ty.cells,zgS]
theorem zv0:vT 262 zsQ:=kF1 zfX zC zx zo (zq []) zSC
def zhI (t x:Int):Bool:=bif zk t 0 3 then (cond (zk x 1 2) (ine (wand .i64 t x) 0) false) else false
@[simp] abbrev ziR (t x:Int):Bool:=true
@[simp] abbrev ziC (t x:Int):Bool:=zhI t x
def zA8:Run:=rF2 dI dI fun b c=>(ziR b c,[aB (ziC b c)])
def zGc (N:Nat)(a b:Int):OA:=
 (oN (zM a 0 3) (cond (zk a 0 3) (oN (zM b 1 2) (cond (zk b 1 2) (some [(aB (ine (wand .i64 a b) 0))]) oF)) oF))
theorem zSr (a b:Int)(c:ziR a b=true):∃N,zGc N a b=some [aB (ziC a b)]:=by refine⟨0,?_⟩;unfold zGc oN;refine must rfl (br (fun _=>must rfl (br (fun _=>?_) (fun _=>?_))) (fun _=>?_));all_goals first|rfl|(simp only [*,ziC,zhI,cT,cF]<;>rfl)|simp_all[Ty.cells,ziC,zhI]
theorem zLk:vT 355 zA8:=kF2 zfX zC zx zo (zq []) zSr
def zdQ (p:Int):Bool:=zk p 0 255
@[simp] abbrev zc5 (p:Int):Bool:=true
@[simp] abbrev zfk (p:Int):Bool:=zdQ p
def zpe:Run:=rF1 dI fun b=>(zc5 b,[aB (zfk b)])
def zKe (N:Nat)(a:Int):OA:=
 (oN (zM a 0 255) (some [(aB (zk a 0 255))]))
theorem zDr (a:Int)(b:zbU big [aI a])(c:zc5 a=true):∃N,zKe N a=some [aB (zfk a)]:=by refine⟨0,?_⟩;unfold zKe oN;refine must rfl ?_;first|rfl|(simp only [*,zfk,zdQ,cT,cF]<;>rfl)|simp_all[Ty.cells,zfk,zdQ]
theorem zOp:vT 264 zpe:=hF1 zfX zC zx zo (zq []) zDr
theorem zN3:vT 263 zpe:=hF1 zfX zC zx zo (zq []) zDr
def zcA (l:List Ins)(p:Int):Ins:=bif hasB p (ln l) then ix l p ztN else ⟨7,0⟩
@[simp] abbrev zf9 (l:List Ins)(p:Int):Bool:=true
@[simp] abbrev zgn (l:List Ins)(p:Int):Ins:=zcA l p
def zHd:Run:=rF2 (dS .ins) dI fun b c=>(zf9 b c,[aT .ins (zgn b c)])
def zQs (N:Nat)(a:lI)(b:Int):OA:=
 (oN (zM b 0 (wsub .i64 (ln a) 1)) (cond (nB (zk b 0 (wsub .i64 (ln a) 1))) (some [(.agg [(.i .i64 7),(.i .i64 0)])]) (oN (inb b (ln a)) (some [(.agg [(.i .i64 (ix a b ztN).Op),(.i .i64 (ix a b ztN).X)])]))))
theorem zYb (a:List Ins)(b:Int)(c:zbU big [aS .ins a,aI b])(e:zf9 a b=true):∃N,zQs N a b=some [aT .ins (zgn a b)]:=by have d:=((zcF c).1 _ (qF.2 rfl)).len;have f:=zJK d;refine⟨0,?_⟩;unfold zQs oN nB;refine must rfl (brN (fun _=>?_) (fun _=>mu ?_));all_goals first|rfl|(simp only [*,zgn,zcA,cT,cF]<;>rfl)|simp_all[Ty.cells,zgn,zcA]
theorem zR0:vT 347 zHd:=hF2 zfX zC zx zo (zq []) zYb
def zyZ (w:Int):Int:=bif ieq w 5 then 1 else 2
def zd2 (s:Slot)(n:Int):Bool:=bif zcQ s noSlot then true else (cond (igt n 0) (cond (zk s.Page 0 (wsub .i64 n 1)) (zk s.Rights 1 3) false) false)
@[simp] abbrev zmy (s:Slot)(n:Int):Bool:=true
@[simp] abbrev ziU (s:Slot)(n:Int):Bool:=zd2 s n
def zph:Run:=rF2 (dT .slot) dI fun b c=>(zmy b c,[aB (ziU b c)])
def zKi (N:Nat)(a:Slot)(b:Int):OA:=
 (oN zbE (cond (cond (ieq a.Page zbc.Page) (ieq a.Rights zbc.Rights) false) oT (oN (zM a.Page 0 (wsub .i64 b 1)) (cond (zk a.Page 0 (wsub .i64 b 1)) (cond (igt b 0) (oN (zM a.Rights 1 3) (some [(aB (zk a.Rights 1 3))])) oF) oF))))
theorem zVE (a:Slot)(b:Int)(c:zmy a b=true):∃N,zKi N a b=some [aB (ziU a b)]:=by refine⟨0,?_⟩;unfold zKi oN;refine must rfl (br (fun _=>?_) (fun _=>must rfl (br (fun _=>br (fun _=>must rfl ?_) (fun _=>?_)) (fun _=>?_))));all_goals first|rfl|(simp only [*,ziU,zd2,zcQ,cT,cF]<;>rfl)|simp_all[Ty.cells,ziU,zd2,zcQ]
theorem zOt:vT 171 zph:=kF2 zfX zC zx zo (zq []) zVE
def zJU (N:Nat)(a:Slot)(b:Int):OA:=
 (oN zbE (cond (cond (ieq a.Page zbc.Page) (ieq a.Rights zbc.Rights) false) oT (cond (igt b 0) (oN (zM a.Page 0 (wsub .i64 b 1)) (cond (zk a.Page 0 (wsub .i64 b 1)) (oN (zM a.Rights 1 3) (some [(aB (zk a.Rights 1 3))])) oF)) oF)))
theorem zVg (a:Slot)(b:Int)(c:zmy a b=true):∃N,zJU N a b=some [aB (ziU a b)]:=by refine⟨0,?_⟩;unfold zJU oN;refine must rfl (br (fun _=>?_) (fun _=>br (fun _=>must rfl (br (fun _=>must rfl ?_) (fun _=>?_))) (fun _=>?_)));all_goals first|rfl|(simp only [*,ziU,zd2,zcQ,cT,cF]<;>rfl)|simp_all[Ty.cells,ziU,zd2,zcQ]
theorem zN6:vT 164 zph:=kF2 zfX zC zx zo (zq []) zVg
@[simp] abbrev zg6 (l:List Slot):Bool:=pc (l.length<=2147483648)
@[simp] abbrev zfv (l:List Slot):List Slot:=l
def zwl:Run:=rF1 (dS .slot) fun b=>(zg6 b,[aS .slot (zfv b)])
def zAw (N:Nat)(a:lS):OA:=
 (oN (few (ln (ap [] a))) (some [(aS .slot (ap [] a))]))
theorem zL8 (a:List Slot)(b:zg6 a=true):∃N,zAw N a=some [aS .slot (zfv a)]:=by have c:=zO.1 b;refine⟨0,?_⟩;unfold zAw oN;refine mu ?_;first|rfl|(simp only [*,zfv,cT,cF]<;>rfl)|simp_all[Ty.cells,zfv]
theorem zE9:vT 258 zwl:=kF1 zfX zC zx zo (zq []) zL8
@[simp] abbrev zuA (l:List Ins):Bool:=pc (l.length<=2147483648)
@[simp] abbrev zoR (l:List Ins):List Ins:=l
def zyq:Run:=rF1 (dS .ins) fun b=>(zuA b,[aS .ins (zoR b)])
def zB3 (N:Nat)(a:lI):OA:=
 (oN (few (ln (ap [] a))) (some [(aS .ins (ap [] a))]))
theorem zO1 (a:List Ins)(b:zuA a=true):∃N,zB3 N a=some [aS .ins (zoR a)]:=by have c:=zO.1 b;refine⟨0,?_⟩;unfold zB3 oN;refine mu ?_;first|rfl|(simp only [*,zoR,cT,cF]<;>rfl)|simp_all[Ty.cells,zoR]
theorem zIh:vT 308 zyq:=kF1 zfX zC zx zo (zq []) zO1
def ziw (m:List (List Int))(p c:Int):Bool:=bif hasB p (ln m) then hasB c (ln (ix m p [])) else false
def cellAt (m:List (List Int))(p c:Int):Int:=bif ziw m p c then ix (ix m p []) c 0 else 0
def zbO (m:List (List Int))(p c v:Int):List (List Int):=bif ziw m p c then (cond (zk v 0 99) (up m p (up (ix m p []) c v)) m) else m
theorem zzR (m:List (List Int))(p c:Int):(ziw m p c=true)↔hasB p (ln m)=true/\hasB c (ln (ix m p []))=true:=by unfold ziw;cases hasB p (ln m)<;>simp
theorem zbb0 {n:Nat}{m:List (List Int)}(h:CVB n (.s (.sl .int) m)):m.length<=n/\∀p:Int,hasB p (ln m)=true->(ix m p []).length<=n :=
 ⟨h.len,fun p a=>(h.inv.2 _ (zbG a []) _ (qF.2 rfl)).len⟩
@[simp] abbrev ziE (m:List (List Int))(p c:Int):Bool:=true
@[simp] abbrev zqS (m:List (List Int))(p c:Int):Bool:=ziw m p c
def zDX:Run:=rF3 (dS (.sl .int)) dI dI fun b c d=>(ziE b c d,[aB (zqS b c d)])
def zKo (N:Nat)(a:lM)(b c:Int):OA:=
 let d:=(wsub .i64 (ln (ix a b [])) 1); (oN (zM b 0 (wsub .i64 (ln a) 1)) (cond (zk b 0 (wsub .i64 (ln a) 1)) (oN (inb b (ln a)) (oN (zM c 0 d) (some [(aB (zk c 0 d))]))) oF))
theorem zVK (a:List (List Int))(b c:Int)(e:zbU big [aS (.sl .int) a,aI b,aI c])(g:ziE a b c=true):∃N,zKo N a b c=some [aB (zqS a b c)]:=by
 have d:=zbb0 ((zcF e).1 _ (qF.2 rfl));have j:=zJK d.1;have f:∀p i:Int,hasB p (ln a)=true->zk i 0 (wsub .i64 (ln (ix a p [])) 1)=hasB i (ln (ix a p [])):=fun p i h=>zJK (d.2 p h) i;refine⟨0,?_⟩;unfold zKo oN;conv=>zeta
 refine must rfl (br (fun _=>mu (must rfl ?_)) (fun _=>?_));all_goals first|rfl|(simp only [*,zqS,ziw,cT,cF]<;>rfl)|simp_all[Ty.cells,zqS,ziw]
theorem zOA:vT 214 zDX:=hF3 zfX zC zx zo (zq []) zVK
def z8O:zZ:=[(345,zDM),(145,zyw),(146,zyv),(350,zDR),(260,zo9),(261,zqH),(262,zsQ),(355,zA8),(264,zpe),(263,zpe),(347,zHd),(171,zph),(164,zph),(258,zwl),(308,zyq),(214,zDX)]++ctrU
theorem zg4:zN z8O:=zh zOb (zh zIo (zh zIn (zh zOl (zh zs9 (zh zuw (zh zv0 (zh zLk (zh zOp (zh zN3 (zh zR0 (zh zOt (zh zN6 (zh zE9 (zh zIh (zh zOA zfX)))))))))))))))
@[simp] abbrev zn0 (m:List (List Int))(p c:Int):Int:=cellAt m p c
def zDN:Run:=rF3 (dS (.sl .int)) dI dI fun b c d=>(ziE b c d,[aI (zn0 b c d)])
def zJZ (N:Nat)(a:lM)(b c:Int):OA:=
 (oN (ziE a b c) (cond (nB (zqS a b c)) (some [(aI 0)]) (oN (inb b (ln a)) (oN (inb c (ln (ix a b []))) (some [(aI (ix (ix a b []) c 0))])))))
theorem zVm (a:List (List Int))(b c:Int)(d:ziE a b c=true):∃N,zJZ N a b c=some [aI (zn0 a b c)]:=by have e:=(zzR a b c).1;refine⟨0,?_⟩;unfold zJZ oN nB;refine must rfl (brN (fun _=>?_) (fun _=>mu (mu ?_)));all_goals first|rfl|(simp only [*,zn0,cellAt,cT,cF]<;>rfl)|simp_all[Ty.cells,zn0,cellAt]
theorem zOc:vT 119 zDN:=kF3 zg4 zC zx zo (zq []) zVm
def zdc (t:List Slot)(n p:Int):Bool:=bif t.all (fun s=>zd2 s p) then ieq (ln t) n else false
@[simp] abbrev ziV (t:List Slot)(n p:Int):Bool:=true
@[simp] abbrev zez (t:List Slot)(n p:Int):Bool:=zdc t n p
def zny:Run:=rF3 (dS .slot) dI dI fun b c d=>(ziV b c d,[aB (zez b c d)])
def zGt (N:Nat)(d:lS)(e f:Int):OA:=
 (iter (σ:=(Int×(Int×(Int×(lS×Unit))))) N (fun g a=>let b:=a.2.2.2.1;let c:=(ix b a.2.2.1 zU); (cond (ilt a.2.2.1 (ln b)) (oN (inb a.2.2.1 (ln b)) (oN (zmy c a.2.1) (cond (nB (ziU c a.2.1)) oF (g (a.1,(a.2.1,((zL .i64 a.2.2.1 1),(b,())))))))) (some [(aB (ieq (ln b) a.1))]))) (e,(f,(0,(d,())))))
def zTi:FuncId->Nat->Option Tmpl:=zq [(288,0,{n:=25,tm:=[(0,.sl 0 []),(1,ti),(2,ti),(7,ti)],lo:=[],ro:=[(0,.slot,false)]})]
theorem zSJ (a:List Slot)(d c:Int)(j:zbU big [aS .slot a,aI d,aI c])(l:ziV a d c=true):∃N,zGt N a d c=some [aB (zez a d c)]:=by
 have h:(_:List _).length<=big:=((zcF j).1 _ (qF.2 rfl)).len;refine zb6 fun N g=>?_;unfold zGt oN nB;conv=>zeta
 refine(zbk a (fun i (t:Unit)=>(d,c,(i:Int),a,())) _ (fun _ x (_:Unit) k=>bif (fun s=>zd2 s c) x then k () else oF) (fun (t:Unit)=>(some [(.one (.b (ieq (ln a) d)))])) (fun i e t rec=>?_) (fun t rec=>?_) _ () (g h)).trans ?_;{simp only [zbn e,zT e,zbd e,zY e h,cT];exact zjP rfl};{simp only [zbh,cF]};rw[zgi (fun s=>zd2 s c)];refine br (fun f=>?_) (fun f=>?_);{first|rfl|(simp only [f,zez,zdc,cT,cF]<;>rfl)|(simp_all [Ty.cells,zez,zdc];done)};{first|rfl|(simp only [f,zez,zdc,cT,cF]<;>rfl)|(simp_all [Ty.cells,zez,zdc];done)}
theorem zLz:vT 288 zny:=hF3 zg4 zC zx zo zTi zSJ
def zF2 (N:Nat)(c:lS)(e f:Int):OA:=
 (iter (σ:=(Int×(Int×(Int×(Int×(lS×Unit)))))) N (fun g a=>let b:=a.2.2.2.2.1;let d:=(ix b a.2.2.2.1 zU); (cond (ilt a.2.2.2.1 a.2.2.1) (oN (inb a.2.2.2.1 (ln b)) (oN (zmy d a.2.1) (cond (nB (ziU d a.2.1)) oF (g (a.1,(a.2.1,(a.2.2.1,((zL .i64 a.2.2.2.1 1),(b,()))))))))) (some [(aB (ieq (ln b) a.1))]))) (e,(f,((ln c),(0,(c,()))))))
def zTb:FuncId->Nat->Option Tmpl:=zq [(306,0,{n:=24,tm:=[(0,.sl 0 []),(1,ti),(2,ti),(9,.sl 0 []),(10,ti),(11,ti)],lo:=[],ro:=[(0,.slot,false)]})]
theorem zSi (a:List Slot)(d c:Int)(j:zbU big [aS .slot a,aI d,aI c])(l:ziV a d c=true):∃N,zF2 N a d c=some [aB (zez a d c)]:=by
 have h:(_:List _).length<=big:=((zcF j).1 _ (qF.2 rfl)).len;refine zb6 fun N g=>?_;unfold zF2 oN nB;conv=>zeta
 refine(zbk a (fun i (t:Unit)=>(d,c,(ln a),(i:Int),a,())) _ (fun _ x (_:Unit) k=>bif (fun s=>zd2 s c) x then k () else oF) (fun (t:Unit)=>(some [(.one (.b (ieq (ln a) d)))])) (fun i e t rec=>?_) (fun t rec=>?_) _ () (g h)).trans ?_;{simp only [zbn e,zT e,zbd e,zY e h,cT];exact zjP rfl};{simp only [zbh,cF]};rw[zgi (fun s=>zd2 s c)];refine br (fun f=>?_) (fun f=>?_);{first|rfl|(simp only [f,zez,zdc,cT,cF]<;>rfl)|(simp_all [Ty.cells,zez,zdc];done)};{first|rfl|(simp only [f,zez,zdc,cT,cF]<;>rfl)|(simp_all [Ty.cells,zez,zdc];done)}
theorem zLe:vT 306 zny:=hF3 zg4 zC zx zo zTb zSi
def zcu (c:List Int):Bool:=bif c.all (fun x=>zk x 0 99) then ieq (ln c) 4 else false
@[simp] abbrev zdE (c:List Int):Bool:=true
@[simp] abbrev zc7 (c:List Int):Bool:=zcu c
def zpd:Run:=rF1 (dS .int) fun b=>(zdE b,[aB (zc7 b)])
def zKd (N:Nat)(b:List Int):OA:=
 (iter (σ:=(Int×((List Int)×Unit))) N (fun c a=>(cond (ilt a.1 (ln a.2.1)) (oN (inb a.1 (ln a.2.1)) (oN (zM (ix a.2.1 a.1 0) 0 99) (cond (nB (zk (ix a.2.1 a.1 0) 0 99)) oF (c ((zL .i64 a.1 1),(a.2.1,())))))) (some [(aB (ieq (ln a.2.1) 4))]))) (0,(b,())))
def zXj:FuncId->Nat->Option Tmpl:=zq [(287,0,{n:=19,tm:=[(0,.sl 0 []),(3,ti)],lo:=[],ro:=[(0,.int,false)]})]
theorem zVA (a:List Int)(g:zbU big [aS .int a])(j:zdE a=true):∃N,zKd N a=some [aB (zc7 a)]:=by have f:(_:List _).length<=big:=((zcF g).1 _ (qF.2 rfl)).len;refine zb6 fun N e=>?_;unfold zKd oN nB;refine(zbk a (fun i (t:Unit)=>((i:Int),a,())) _ (fun _ x (_:Unit) h=>bif (fun x=>zk x 0 99) x then h () else oF) (fun (t:Unit)=>(some [(.one (.b (ieq (ln a) 4)))])) (fun i c t rec=>?_) (fun t rec=>?_) _ () (e f)).trans ?_;{simp only [zbn c,zT c,zbd c,zY c f,cT];exact zjP rfl};{simp only [zbh,cF]};rw[zgi (fun x=>zk x 0 99)];refine br (fun d=>?_) (fun d=>?_);{first|rfl|(simp only [d,zc7,zcu,cT,cF]<;>rfl)|(simp_all [Ty.cells,zc7,zcu];done)};{first|rfl|(simp only [d,zc7,zcu,cT,cF]<;>rfl)|(simp_all [Ty.cells,zc7,zcu];done)}
theorem zOo:vT 287 zpd:=hF1 zg4 zC zx zo zXj zVA
def zJR (N:Nat)(b:List Int):OA:=
 (iter (σ:=(Int×(Int×((List Int)×Unit)))) N (fun c a=>(cond (ilt a.2.1 a.1) (oN (inb a.2.1 (ln a.2.2.1)) (oN (zM (ix a.2.2.1 a.2.1 0) 0 99) (cond (nB (zk (ix a.2.2.1 a.2.1 0) 0 99)) oF (c (a.1,((zL .i64 a.2.1 1),(a.2.2.1,()))))))) (some [(aB (ieq (ln a.2.2.1) 4))]))) ((ln b),(0,(b,()))))
def zW9:FuncId->Nat->Option Tmpl:=zq [(305,0,{n:=18,tm:=[(0,.sl 0 []),(5,.sl 0 []),(6,ti),(7,ti)],lo:=[],ro:=[(0,.int,false)]})]
theorem zVd (a:List Int)(g:zbU big [aS .int a])(j:zdE a=true):∃N,zJR N a=some [aB (zc7 a)]:=by have f:(_:List _).length<=big:=((zcF g).1 _ (qF.2 rfl)).len;refine zb6 fun N e=>?_;unfold zJR oN nB;refine(zbk a (fun i (t:Unit)=>((ln a),(i:Int),a,())) _ (fun _ x (_:Unit) h=>bif (fun x=>zk x 0 99) x then h () else oF) (fun (t:Unit)=>(some [(.one (.b (ieq (ln a) 4)))])) (fun i c t rec=>?_) (fun t rec=>?_) _ () (e f)).trans ?_;{simp only [zbn c,zT c,zbd c,zY c f,cT];exact zjP rfl};{simp only [zbh,cF]};rw[zgi (fun x=>zk x 0 99)];refine br (fun d=>?_) (fun d=>?_);{first|rfl|(simp only [d,zc7,zcu,cT,cF]<;>rfl)|(simp_all [Ty.cells,zc7,zcu];done)};{first|rfl|(simp only [d,zc7,zcu,cT,cF]<;>rfl)|(simp_all [Ty.cells,zc7,zcu];done)}
theorem zN2:vT 305 zpd:=hF1 zg4 zC zx zo zW9 zVd
def zes (i:Ins):Bool:=bif (ieq i.Op 1||ieq i.Op 2||ieq i.Op 5||ieq i.Op 6) then zk i.X 0 99 else (cond (ieq i.Op 3||ieq i.Op 4) (zk i.X 0 15) (cond (ieq i.Op 7) (ieq i.X 0) (cond (ieq i.Op 8) (zk i.X 0 11) false)))
@[simp] abbrev zwD (i:Ins):Bool:=true
@[simp] abbrev ztY (i:Ins):Bool:=zes i
def zrl:Run:=rF1 (dT .ins) fun b=>(zwD b,[aB (ztY b)])
def zQt (N:Nat)(a:Ins):OA:=
 let b:=(ieq a.Op 4);let l:=(zM a.X 0 99);let k:=(aB (zk a.X 0 99));let j:=(ieq a.Op 8);let i:=(ieq a.Op 7);let h:=(ieq a.Op 3);let g:=(zM a.X 0 11);let f:=(zM a.X 0 15);let e:=(aB (ieq a.X 0));let d:=(aB (zk a.X 0 11));let c:=(aB (zk a.X 0 15)); (cond (ieq a.Op 1) (cond (ieq a.Op 1) (oN l (some [k])) (cond h (cond h (oN f (some [c])) (cond i (some [e]) (cond j (oN g (some [d])) oF))) (cond b (oN f (some [c])) (cond i (some [e]) (cond j (oN g (some [d])) oF))))) (cond (ieq a.Op 2) (cond (ieq a.Op 2) (oN l (some [k])) (cond h (cond h (oN f (some [c])) (cond i (some [e]) (cond j (oN g (some [d])) oF))) (cond b (oN f (some [c])) (cond i (some [e]) (cond j (oN g (some [d])) oF))))) (cond (ieq a.Op 5) (cond (ieq a.Op 5) (oN l (some [k])) (cond h (cond h (oN f (some [c])) (cond i (some [e]) (cond j (oN g (some [d])) oF))) (cond b (oN f (some [c])) (cond i (some [e]) (cond j (oN g (some [d])) oF))))) (cond (ieq a.Op 6) (oN l (some [k])) (cond h (cond h (oN f (some [c])) (cond i (some [e]) (cond j (oN g (some [d])) oF))) (cond b (oN f (some [c])) (cond i (some [e]) (cond j (oN g (some [d])) oF))))))))
theorem zGY (a:Ins)(b:zbU big [aT .ins a])(c:zwD a=true):∃N,zQt N a=some [aB (ztY a)]:=by
 refine⟨0,?_⟩;unfold zQt oN;conv=>zeta
 refine br (fun _=>br (fun _=>must rfl ?_) (fun _=>br (fun _=>br (fun _=>must rfl ?_) (fun _=>br (fun _=>?_) (fun _=>br (fun _=>must rfl ?_) (fun _=>?_)))) (fun _=>br (fun _=>must rfl ?_) (fun _=>br (fun _=>?_) (fun _=>br (fun _=>must rfl ?_) (fun _=>?_)))))) (fun _=>br (fun _=>br (fun _=>must rfl ?_) (fun _=>br (fun _=>br (fun _=>must rfl ?_) (fun _=>br (fun _=>?_) (fun _=>br (fun _=>must rfl ?_) (fun _=>?_)))) (fun _=>br (fun _=>must rfl ?_) (fun _=>br (fun _=>?_) (fun _=>br (fun _=>must rfl ?_) (fun _=>?_)))))) (fun _=>br (fun _=>br (fun _=>must rfl ?_) (fun _=>br (fun _=>br (fun _=>must rfl ?_) (fun _=>br (fun _=>?_) (fun _=>br (fun _=>must rfl ?_) (fun _=>?_)))) (fun _=>br (fun _=>must rfl ?_) (fun _=>br (fun _=>?_) (fun _=>br (fun _=>must rfl ?_) (fun _=>?_)))))) (fun _=>br (fun _=>must rfl ?_) (fun _=>br (fun _=>br (fun _=>must rfl ?_) (fun _=>br (fun _=>?_) (fun _=>br (fun _=>must rfl ?_) (fun _=>?_)))) (fun _=>br (fun _=>must rfl ?_) (fun _=>br (fun _=>?_) (fun _=>br (fun _=>must rfl ?_) (fun _=>?_))))))));all_goals first|rfl|(simp only [*,ztY,zes,cT,cF]<;>rfl)|simp_all[Ty.cells,ztY,zes]
theorem zR1:vT 330 zrl:=hF1 zg4 zC zx zo (zq []) zGY
theorem zRP:vT 329 zrl:=hF1 zg4 zC zx zo (zq []) zGY
def zit (e:GExit):Bool:=bif (ieq e.Kind 0||ieq e.Kind 4) then (ieq e.Page 0&&(!e.Write&&ieq e.N 0)) else (cond (ieq e.Kind 1) (zk e.Page 0 3&&ieq e.N 0) (cond (ieq e.Kind 2||ieq e.Kind 3) (zk e.N 0 99&&(ieq e.Page 0 && !e.Write)) false))
@[simp] theorem zbdw (x:Bool):ziL x false = !x:=by cases x<;>rfl
attribute [simp] zde
@[simp] abbrev ztz (e:GExit):Bool:=true
@[simp] abbrev zlN (e:GExit):Bool:=zit e
def zo8:Run:=rF1 dE fun b=>(ztz b,[aB (zlN b)])
def zJ1 (N:Nat)(a:GExit):OA:=
 let f:=(zk a.N 0 99);let e:=(zM a.N 0 99);let d:=(ieq a.Kind 2);let b:=(ieq a.Page 0);let c:=(aB (nB a.Write));let g:=(aB (cond (ieq a.Kind a.Kind) (cond b (cond (ziL a.Write false) (ieq a.N 0) false) false) false)); (cond (ieq a.Kind 0) (cond (ieq a.Kind 0) (some [g]) (cond (ieq a.Kind 1) (oN (zM a.Page 0 3) (cond (zk a.Page 0 3) (some [(aB (ieq a.N 0))]) oF)) (cond d (cond d (oN e (cond f (cond b (some [c]) oF) oF)) oF) (cond (ieq a.Kind 3) (oN e (cond f (cond b (some [c]) oF) oF)) oF)))) (cond (ieq a.Kind 4) (some [g]) (cond (ieq a.Kind 1) (oN (zM a.Page 0 3) (cond (zk a.Page 0 3) (some [(aB (ieq a.N 0))]) oF)) (cond d (cond d (oN e (cond f (cond b (some [c]) oF) oF)) oF) (cond (ieq a.Kind 3) (oN e (cond f (cond b (some [c]) oF) oF)) oF)))))
theorem zVn (a:GExit)(b:ztz a=true):∃N,zJ1 N a=some [aB (zlN a)]:=by
 refine⟨0,?_⟩;unfold zJ1 oN nB;conv=>zeta
 refine br (fun _=>br (fun _=>?_) (fun _=>br (fun _=>must rfl (br (fun _=>?_) (fun _=>?_))) (fun _=>br (fun _=>br (fun _=>must rfl (br (fun _=>br (fun _=>?_) (fun _=>?_)) (fun _=>?_))) (fun _=>?_)) (fun _=>br (fun _=>must rfl (br (fun _=>br (fun _=>?_) (fun _=>?_)) (fun _=>?_))) (fun _=>?_))))) (fun _=>br (fun _=>?_) (fun _=>br (fun _=>must rfl (br (fun _=>?_) (fun _=>?_))) (fun _=>br (fun _=>br (fun _=>must rfl (br (fun _=>br (fun _=>?_) (fun _=>?_)) (fun _=>?_))) (fun _=>?_)) (fun _=>br (fun _=>must rfl (br (fun _=>br (fun _=>?_) (fun _=>?_)) (fun _=>?_))) (fun _=>?_)))));all_goals first|rfl|(simp only [*,zlN,zit,cT,cF]<;>rfl)|simp_all[Ty.cells,zlN,zit]
theorem zOe:vT 320 zo8:=kF1 zg4 zC zx zo (zq []) zVn
def zJL (N:Nat)(a:GExit):OA:=
 let g:=(zk a.N 0 99);let f:=(zM a.N 0 99);let e:=(ieq a.Kind 2);let d:=(aB (ieq a.N 0));let b:=(ieq a.Page 0);let c:=(aB (nB a.Write)); (cond (ieq a.Kind 0) (cond (ieq a.Kind 0) (cond b (cond (nB a.Write) (some [d]) oF) oF) (cond (ieq a.Kind 1) (oN (zM a.Page 0 3) (cond (zk a.Page 0 3) (some [d]) oF)) (cond e (cond e (oN f (cond g (cond b (some [c]) oF) oF)) oF) (cond (ieq a.Kind 3) (oN f (cond g (cond b (some [c]) oF) oF)) oF)))) (cond (ieq a.Kind 4) (cond b (cond (nB a.Write) (some [d]) oF) oF) (cond (ieq a.Kind 1) (oN (zM a.Page 0 3) (cond (zk a.Page 0 3) (some [d]) oF)) (cond e (cond e (oN f (cond g (cond b (some [c]) oF) oF)) oF) (cond (ieq a.Kind 3) (oN f (cond g (cond b (some [c]) oF) oF)) oF)))))
theorem zU7 (a:GExit)(b:ztz a=true):∃N,zJL N a=some [aB (zlN a)]:=by
 refine⟨0,?_⟩;unfold zJL oN nB;conv=>zeta
 refine br (fun _=>br (fun _=>br (fun _=>brN (fun _=>?_) (fun _=>?_)) (fun _=>?_)) (fun _=>br (fun _=>must rfl (br (fun _=>?_) (fun _=>?_))) (fun _=>br (fun _=>br (fun _=>must rfl (br (fun _=>br (fun _=>?_) (fun _=>?_)) (fun _=>?_))) (fun _=>?_)) (fun _=>br (fun _=>must rfl (br (fun _=>br (fun _=>?_) (fun _=>?_)) (fun _=>?_))) (fun _=>?_))))) (fun _=>br (fun _=>br (fun _=>brN (fun _=>?_) (fun _=>?_)) (fun _=>?_)) (fun _=>br (fun _=>must rfl (br (fun _=>?_) (fun _=>?_))) (fun _=>br (fun _=>br (fun _=>must rfl (br (fun _=>br (fun _=>?_) (fun _=>?_)) (fun _=>?_))) (fun _=>?_)) (fun _=>br (fun _=>must rfl (br (fun _=>br (fun _=>?_) (fun _=>?_)) (fun _=>?_))) (fun _=>?_)))));all_goals first|rfl|(simp only [*,zlN,zit,cT,cF]<;>rfl)|simp_all[Ty.cells,zlN,zit]
theorem zNW:vT 312 zo8:=kF1 zg4 zC zx zo (zq []) zU7
def zvG (c:Ctl):List Int:=(cond (zk c.Traps 0 3) [] [1])++((cond (zk c.Post 0 255) [] [2])++((cond (ine c.Post 0) (cond c.Open [] [3]) [])++(cond (ieq c.Traps 2) (cond (ine c.Post 0) [4] []) [])))
@[simp] theorem zbdt {a:Type}(x:a)(l m:List a):ap (x::l) m=x::ap l m:=rfl
@[simp] abbrev zf7 (c:Ctl):Bool:=true
@[simp] abbrev zm9 (c:Ctl):List Int:=zvG c
def zk8:Run:=rF1 dC fun b=>(zf7 b,[aS .int (zm9 b)])
def zAD (N:Nat)(b:Ctl):OA:=
 let e:=(aS .int []);let k:=(ap (ap [] [2]) [4]);let j:=(ap (ap [] [1]) [4]);let i:=(aS .int (ap [] [2]));let h:=(aS .int (ap [] [1]));let g:=(ap (ap [] [2]) [3]);let f:=(ap (ap [] [1]) [3]);let c:=(ieq b.Traps 2);let a:=(ine b.Post 0);let d:=(ap (ap [] [1]) [2]);let l:=(aS .int d); (oN (zM b.Traps 0 3) (cond (nB (zk b.Traps 0 3)) (oN (few (ln (ap [] [1]))) (oN (zM b.Post 0 255) (cond (nB (zk b.Post 0 255)) (oN (few (ln d)) (cond a (cond (nB b.Open) (oN (few (ln (ap d [3]))) (cond c (cond a (oN (few (ln (ap (ap d [3]) [4]))) (some [(aS .int (ap (ap d [3]) [4]))])) (some [(aS .int (ap d [3]))])) (some [(aS .int (ap d [3]))]))) (cond c (cond a (oN (few (ln (ap d [4]))) (some [(aS .int (ap d [4]))])) (some [l])) (some [l]))) (cond c (cond a (oN (few (ln (ap d [4]))) (some [(aS .int (ap d [4]))])) (some [l])) (some [l])))) (cond a (cond (nB b.Open) (oN (few (ln f)) (cond c (cond a (oN (few (ln (ap f [4]))) (some [(aS .int (ap f [4]))])) (some [(aS .int f)])) (some [(aS .int f)]))) (cond c (cond a (oN (few (ln j)) (some [(aS .int j)])) (some [h])) (some [h]))) (cond c (cond a (oN (few (ln j)) (some [(aS .int j)])) (some [h])) (some [h])))))) (oN (zM b.Post 0 255) (cond (nB (zk b.Post 0 255)) (oN (few (ln (ap [] [2]))) (cond a (cond (nB b.Open) (oN (few (ln g)) (cond c (cond a (oN (few (ln (ap g [4]))) (some [(aS .int (ap g [4]))])) (some [(aS .int g)])) (some [(aS .int g)]))) (cond c (cond a (oN (few (ln k)) (some [(aS .int k)])) (some [i])) (some [i]))) (cond c (cond a (oN (few (ln k)) (some [(aS .int k)])) (some [i])) (some [i])))) (cond a (cond (nB b.Open) (oN (few (ln (ap [] [3]))) (cond c (cond a (oN (few (ln (ap (ap [] [3]) [4]))) (some [(aS .int (ap (ap [] [3]) [4]))])) (some [(aS .int (ap [] [3]))])) (some [(aS .int (ap [] [3]))]))) (cond c (cond a (oN (few (ln (ap [] [4]))) (some [(aS .int (ap [] [4]))])) (some [e])) (some [e]))) (cond c (cond a (oN (few (ln (ap [] [4]))) (some [(aS .int (ap [] [4]))])) (some [e])) (some [e])))))))
theorem zv6 (a:Ctl)(b:zbU big [.agg (zmO a)])(c:zf7 a=true):∃N,zAD N a=some [aS .int (zm9 a)]:=by
 refine⟨0,?_⟩;unfold zAD oN nB;conv=>zeta
 refine must rfl (brN (fun _=>mu (must rfl (brN (fun _=>mu (br (fun _=>brN (fun _=>mu (br (fun _=>br (fun _=>mu ?_) (fun _=>?_)) (fun _=>?_))) (fun _=>br (fun _=>br (fun _=>mu ?_) (fun _=>?_)) (fun _=>?_))) (fun _=>br (fun _=>br (fun _=>mu ?_) (fun _=>?_)) (fun _=>?_)))) (fun _=>br (fun _=>brN (fun _=>mu (br (fun _=>br (fun _=>mu ?_) (fun _=>?_)) (fun _=>?_))) (fun _=>br (fun _=>br (fun _=>mu ?_) (fun _=>?_)) (fun _=>?_))) (fun _=>br (fun _=>br (fun _=>mu ?_) (fun _=>?_)) (fun _=>?_)))))) (fun _=>must rfl (brN (fun _=>mu (br (fun _=>brN (fun _=>mu (br (fun _=>br (fun _=>mu ?_) (fun _=>?_)) (fun _=>?_))) (fun _=>br (fun _=>br (fun _=>mu ?_) (fun _=>?_)) (fun _=>?_))) (fun _=>br (fun _=>br (fun _=>mu ?_) (fun _=>?_)) (fun _=>?_)))) (fun _=>br (fun _=>brN (fun _=>mu (br (fun _=>br (fun _=>mu ?_) (fun _=>?_)) (fun _=>?_))) (fun _=>br (fun _=>br (fun _=>mu ?_) (fun _=>?_)) (fun _=>?_))) (fun _=>br (fun _=>br (fun _=>mu ?_) (fun _=>?_)) (fun _=>?_))))));all_goals first|rfl|(simp only [*,zm9,zvG,cT,cF]<;>rfl)|simp_all[Ty.cells,zm9,zvG]
theorem zFh:vT 266 zk8:=hF1 zg4 zC zx zo (zq []) zv6
theorem zE2:vT 265 zk8:=hF1 zg4 zC zx zo (zq []) zv6
def zhd (p n:Int):Bool:=ieq (wand .i64 (zEr .i64 p n) 1) 1
def scan (p:Int):Int:=bif zhd p 7 then 7 else (cond (zhd p 6) 6 (cond (zhd p 5) 5 (cond (zhd p 4) 4 (cond (zhd p 3) 3 (cond (zhd p 2) 2 (cond (zhd p 1) 1 (cond (zhd p 0) 0 (-1))))))))
theorem z7v:∀n:Fin 256,-1<=scan (n.val:Int)/\scan (n.val:Int)<=7/\(0<=scan (n.val:Int)->wsub .i64 (n.val:Int) (zqa .i64 1 (scan (n.val:Int)))=zNC .i64 (n.val:Int) (zqa .i64 1 (scan (n.val:Int)))):=by decide +kernel
theorem z4o {P:Int->Prop}(h:∀n:Fin 256,P (n.val:Int)){x:Int}(a:0<=x)(b:x<=255):P x:=by have:=h ⟨x.toNat,by omega⟩;have e:((x.toNat:Nat):Int)=x:=(by omega);simpa [e] using this
def z8P:zZ:=[(119,zDN),(288,zny),(306,zny),(287,zpd),(305,zpd),(330,zrl),(329,zrl),(320,zo8),(312,zo8),(266,zk8),(265,zk8)]++z8O
theorem zg5:zN z8P:=zh zOc (zh zLz (zh zLe (zh zOo (zh zN2 (zh zR1 (zh zRP (zh zOe (zh zNW (zh zFh (zh zE2 zg4))))))))))
def zix (m:List (List Int))(n:Int):Bool:=bif m.all zcu then ieq (ln m) n else false
@[simp] abbrev zlP (m:List (List Int))(n:Int):Bool:=true
@[simp] abbrev zgo (m:List (List Int))(n:Int):Bool:=zix m n
def zrm:Run:=rF2 (dS (.sl .int)) dI fun b c=>(zlP b c,[aB (zgo b c)])
def zQu (N:Nat)(c:lM)(d:Int):OA:=
 (iter (σ:=(Int×(Int×(lM×Unit)))) N (fun e a=>let b:=a.2.2.1; (cond (ilt a.2.1 (ln b)) (oN (inb a.2.1 (ln b)) (oN (zdE (ix b a.2.1 [])) (cond (nB (zc7 (ix b a.2.1 []))) oF (e (a.1,((zL .i64 a.2.1 1),(b,()))))))) (some [(aB (ieq (ln b) a.1))]))) (d,(0,(c,()))))
def zYZ:FuncId->Nat->Option Tmpl:=zq [(226,0,{n:=22,tm:=[(0,.sl 0 []),(1,ti),(5,ti)],lo:=[],ro:=[(0,(.sl .int),false)]})]
theorem zYc (a:List (List Int))(c:Int)(h:zbU big [aS (.sl .int) a,aI c])(k:zlP a c=true):∃N,zQu N a c=some [aB (zgo a c)]:=by
 have g:(_:List _).length<=big:=((zcF h).1 _ (qF.2 rfl)).len;refine zb6 fun N f=>?_;unfold zQu oN nB;conv=>zeta
 refine(zbk a (fun i (t:Unit)=>(c,(i:Int),a,())) _ (fun _ x (_:Unit) j=>bif (zcu) x then j () else oF) (fun (t:Unit)=>(some [(.one (.b (ieq (ln a) c)))])) (fun i d t rec=>?_) (fun t rec=>?_) _ () (f g)).trans ?_;{simp only [zbn d,zT d,zbd d,zY d g,cT];exact zjP rfl};{simp only [zbh,cF]};rw[zgi (zcu)];refine br (fun e=>?_) (fun e=>?_);{first|rfl|(simp only [e,zgo,zix,cT,cF]<;>rfl)|(simp_all [Ty.cells,zgo,zix];done)};{first|rfl|(simp only [e,zgo,zix,cT,cF]<;>rfl)|(simp_all [Ty.cells,zgo,zix];done)}
theorem zR2:vT 226 zrm:=hF2 zg5 zC zx zo zYZ zYc
def zQj (N:Nat)(c:lM)(d:Int):OA:=
 (iter (σ:=(Int×(Int×(Int×(lM×Unit))))) N (fun e a=>let b:=a.2.2.2.1; (cond (ilt a.2.2.1 a.2.1) (oN (inb a.2.2.1 (ln b)) (oN (zdE (ix b a.2.2.1 [])) (cond (nB (zc7 (ix b a.2.2.1 []))) oF (e (a.1,(a.2.1,((zL .i64 a.2.2.1 1),(b,())))))))) (some [(aB (ieq (ln b) a.1))]))) (d,((ln c),(0,(c,())))))
def zYX:FuncId->Nat->Option Tmpl:=zq [(252,0,{n:=21,tm:=[(0,.sl 0 []),(1,ti),(7,.sl 0 []),(8,ti),(9,ti)],lo:=[],ro:=[(0,(.sl .int),false)]})]
theorem zX2 (a:List (List Int))(c:Int)(h:zbU big [aS (.sl .int) a,aI c])(k:zlP a c=true):∃N,zQj N a c=some [aB (zgo a c)]:=by
 have g:(_:List _).length<=big:=((zcF h).1 _ (qF.2 rfl)).len;refine zb6 fun N f=>?_;unfold zQj oN nB;conv=>zeta
 refine(zbk a (fun i (t:Unit)=>(c,(ln a),(i:Int),a,())) _ (fun _ x (_:Unit) j=>bif (zcu) x then j () else oF) (fun (t:Unit)=>(some [(.one (.b (ieq (ln a) c)))])) (fun i d t rec=>?_) (fun t rec=>?_) _ () (f g)).trans ?_;{simp only [zbn d,zT d,zbd d,zY d g,cT];exact zjP rfl};{simp only [zbh,cF]};rw[zgi (zcu)];refine br (fun e=>?_) (fun e=>?_);{first|rfl|(simp only [e,zgo,zix,cT,cF]<;>rfl)|(simp_all [Ty.cells,zgo,zix];done)};{first|rfl|(simp only [e,zgo,zix,cT,cF]<;>rfl)|(simp_all [Ty.cells,zgo,zix];done)}
theorem zRQ:vT 252 zrm:=hF2 zg5 zC zx zo zYX zX2
def zds (p:List Ins):Bool:=bif p.all zes then zk (ln p) 1 12 else false
@[simp] abbrev ztF (p:List Ins):Bool:=true
@[simp] abbrev zha (p:List Ins):Bool:=zds p
def zpf:Run:=rF1 (dS .ins) fun b=>(ztF b,[aB (zha b)])
def zKf (N:Nat)(c:lI):OA:=
 (iter (σ:=(Int×(lI×Unit))) N (fun d a=>let b:=(ix a.2.1 a.1 ztN); (cond (ilt a.1 (ln a.2.1)) (oN (inb a.1 (ln a.2.1)) (oN (zwD b) (cond (nB (ztY b)) oF (d ((zL .i64 a.1 1),(a.2.1,())))))) (oN (zM (ln a.2.1) 1 12) (some [(aB (zk (ln a.2.1) 1 12))])))) (0,(c,())))
def zXk:FuncId->Nat->Option Tmpl:=zq [(319,0,{n:=19,tm:=[(0,.sl 0 []),(3,ti)],lo:=[],ro:=[(0,.ins,false)]})]
theorem zVB (a:List Ins)(g:zbU big [aS .ins a])(j:ztF a=true):∃N,zKf N a=some [aB (zha a)]:=by
 have f:(_:List _).length<=big:=((zcF g).1 _ (qF.2 rfl)).len;refine zb6 fun N e=>?_;unfold zKf oN nB;conv=>zeta
 refine(zbk a (fun i (t:Unit)=>((i:Int),a,())) _ (fun _ x (_:Unit) h=>bif (zes) x then h () else oF) (fun (t:Unit)=>(cond (zM (ln a) 1 12) (some [(.one (.b (zk (ln a) 1 12)))]) none)) (fun i c t rec=>?_) (fun t rec=>?_) _ () (e f)).trans ?_;{simp only [zbn c,zT c,zbd c,zY c f,cT];exact zjP rfl};{simp only [zbh,cF]};rw[zgi (zes)];refine br (fun d=>?_) (fun d=>?_);{refine must rfl ?_;first|rfl|(simp only [d,zha,zds,cT,cF]<;>rfl)|(simp_all [Ty.cells,zha,zds];done)};{first|rfl|(simp only [d,zha,zds,cT,cF]<;>rfl)|(simp_all [Ty.cells,zha,zds];done)}
theorem zOq:vT 319 zpf:=hF1 zg5 zC zx zo zXk zVB
def zJS (N:Nat)(b:lI):OA:=
 (iter (σ:=(Int×(Int×(lI×Unit)))) N (fun d a=>let c:=(ix a.2.2.1 a.2.1 ztN); (cond (ilt a.2.1 a.1) (oN (inb a.2.1 (ln a.2.2.1)) (oN (zwD c) (cond (nB (ztY c)) oF (d (a.1,((zL .i64 a.2.1 1),(a.2.2.1,()))))))) (oN (zM (ln a.2.2.1) 1 12) (some [(aB (zk (ln a.2.2.1) 1 12))])))) ((ln b),(0,(b,()))))
def zXa:FuncId->Nat->Option Tmpl:=zq [(311,0,{n:=18,tm:=[(0,.sl 0 []),(5,.sl 0 []),(6,ti),(7,ti)],lo:=[],ro:=[(0,.ins,false)]})]
theorem zVe (a:List Ins)(g:zbU big [aS .ins a])(j:ztF a=true):∃N,zJS N a=some [aB (zha a)]:=by
 have f:(_:List _).length<=big:=((zcF g).1 _ (qF.2 rfl)).len;refine zb6 fun N e=>?_;unfold zJS oN nB;conv=>zeta
 refine(zbk a (fun i (t:Unit)=>((ln a),(i:Int),a,())) _ (fun _ x (_:Unit) h=>bif (zes) x then h () else oF) (fun (t:Unit)=>(cond (zM (ln a) 1 12) (some [(.one (.b (zk (ln a) 1 12)))]) none)) (fun i c t rec=>?_) (fun t rec=>?_) _ () (e f)).trans ?_;{simp only [zbn c,zT c,zbd c,zY c f,cT];exact zjP rfl};{simp only [zbh,cF]};rw[zgi (zes)];refine br (fun d=>?_) (fun d=>?_);{refine must rfl ?_;first|rfl|(simp only [d,zha,zds,cT,cF]<;>rfl)|(simp_all [Ty.cells,zha,zds];done)};{first|rfl|(simp only [d,zha,zds,cT,cF]<;>rfl)|(simp_all [Ty.cells,zha,zds];done)}
theorem zN4:vT 311 zpf:=hF1 zg5 zC zx zo zXa zVe
def zl9 (c:Ctl):Bool:=ieq (ln (zvG c)) 0
@[simp] abbrev zqM (c:Ctl):Bool:=zl9 c
def zrk:Run:=rF1 dC fun b=>(zf7 b,[aB (zqM b)])
def zQq (N:Nat)(a:Ctl):OA:=
 (oN (zf7 a) (some [(aB (ieq (ln (zm9 a)) 0))]))
theorem zGX (a:Ctl)(b:zbU big [.agg (zmO a)])(c:zf7 a=true):∃N,zQq N a=some [aB (zqM a)]:=by refine⟨0,?_⟩;unfold zQq oN;refine must rfl ?_;first|rfl|(simp only [*,zqM,zl9,cT,cF]<;>rfl)|simp_all[Ty.cells,zqM,zl9]
theorem zRY:vT 192 zrk:=hF1 zg5 zC zx zo (zq []) zGX
theorem zRO:vT 190 zrk:=hF1 zg5 zC zx zo (zq []) zGX
def zee (p:Int):Int:=bif zdQ p then scan p else -1
theorem z0c {x:Int}(a:0<=x)(b:x<=255):wcv .u64 x=x:=z4o (P:=fun x=>wcv .u64 x=x) (by decide +kernel) a b
@[simp] abbrev zn2 (p:Int):Int:=zee p
def zDV:Run:=rF1 dI fun b=>(zc5 b,[aI (zn2 b)])
def zKl (N:Nat)(b:Int):OA:=
 (iter (σ:=(Int×(Int×Unit))) N (fun c a=>(cond (ige a.2.1 0) (oN (zc5 a.1) (cond (zfk a.1) (oN (ile 0 (wcv .u64 a.2.1)) (cond (ieq (wand .i64 (zEr .i64 a.1 (wcv .u64 a.2.1)) 1) 1) (some [(aI a.2.1)]) (c (a.1,((wsub .i64 a.2.1 1),()))))) (some [(aI (-1))]))) (some [(aI (-1))]))) (b,(7,())))
def zXm:FuncId->Nat->Option Tmpl:=zq [(297,0,{n:=19,tm:=[(0,ti),(3,ti)],lo:=[],ro:=[]})]
theorem zVH (a:Int)(C:zc5 a=true):∃N,zKl N a=some [aI (zn2 a)]:=by refine⟨10,?_⟩;unfold zKl oN;cases h:zdQ a;{rw [zdR];refine must rfl ?_;refine must rfl ?_;refine zdU h ?_;simp[zee,h]};{have c:zfk a=true:=h;rw[zdR];refine must rfl (must rfl (must c (must rfl (br (fun r=>?_) (fun r=>?_)))));{have A:zhd a 7=true:=r;simp[zee,h,scan,A]};have b:zhd a 7=false:=r;show iter 9 _ (a,6,())=_;rw[zdR];refine must rfl (must rfl (must c (must rfl (br (fun q=>?_) (fun q=>?_)))));{have z:zhd a 6=true:=q;simp[zee,h,scan,z,b]};have d:zhd a 6=false:=q;show iter 8 _ (a,5,())=_;rw[zdR];refine must rfl (must rfl (must c (must rfl (br (fun p=>?_) (fun p=>?_)))));{have y:zhd a 5=true:=p;simp[zee,h,scan,y,b,d]};have e:zhd a 5=false:=p;show iter 7 _ (a,4,())=_;rw[zdR];refine must rfl (must rfl (must c (must rfl (br (fun n=>?_) (fun n=>?_)))));{have x:zhd a 4=true:=n;simp[zee,h,scan,x,b,d,e]};have f:zhd a 4=false:=n;show iter 6 _ (a,3,())=_;rw[zdR];refine must rfl (must rfl (must c (must rfl (br (fun m=>?_) (fun m=>?_)))));{have w:zhd a 3=true:=m;simp[zee,h,scan,w,b,d,e,f]};have g:zhd a 3=false:=m;show iter 5 _ (a,2,())=_;rw[zdR];refine must rfl (must rfl (must c (must rfl (br (fun l=>?_) (fun l=>?_)))));{have v:zhd a 2=true:=l;simp[zee,h,scan,v,b,d,e,f,g]};have i:zhd a 2=false:=l;show iter 4 _ (a,1,())=_;rw[zdR];refine must rfl (must rfl (must c (must rfl (br (fun k=>?_) (fun k=>?_)))));{have u:zhd a 1=true:=k;simp[zee,h,scan,u,b,d,e,f,g,i]};have s:zhd a 1=false:=k;show iter 3 _ (a,0,())=_;rw[zdR];refine must rfl (must rfl (must c (must rfl (br (fun j=>?_) (fun j=>?_)))));{have t:zhd a 0=true:=j;simp[zee,h,scan,t,b,d,e,f,g,i,s]};have B:zhd a 0=false:=j;show iter 2 _ (a,-1,())=_;rw[zdR];refine zdU rfl ?_;simp[zee,h,scan,b,d,e,f,g,i,s,B]}
theorem zOw:vT 297 zDV:=kF1 zg5 zC zx zo zXm zVH
theorem zbM {c:Cur}{i k:Int}(h:zbj c)(a:0<=i):zbj ⟨c.b,i,k⟩:=⟨a,h.2⟩
theorem zZK {c:Cur}(h:zbj c){l:List Int}(a:l≠[]):zbo c l∈l:=(zyT (zew h a)).2.2 (kS.2 a)
theorem zgg {c:Cur}(h:zbj c){n:Int}(a:0<n):0<=zl c n/\zl c n<n:=(zh1 (zbD h n)).2.2 a
theorem zLY {o x:Int}(h:(o=1\/o=2\/o=5\/o=6)/\0<=x/\x<=99\/(o=3\/o=4)/\0<=x/\x<=15\/o=8/\0<=x/\x<=11):zes ⟨o,x⟩=true:=by have w:∀{a b:Int},a<=x->x<=b->zk x a b=true:=fun c d=>(by simp only[zk,ige,ile,qD,q0];exact⟨c,d⟩);rcases h with⟨h|h|h|h,c,d⟩|⟨h|h,c,d⟩|⟨h,c,d⟩<;>subst h<;>exact w c d
def zy4 (N:Nat)(c:Cur)  : OA :=
 let d:=(zbo c [1,2,3,3,3,4,4,4,5,6,8]);let a:=({ (zba c [1,2,3,3,3,4,4,4,5,6,8]) with b:=c.b}:Cur); (share (oN (zA a 16) (some [(.agg [(.s .u8 c.b),(.i .i64 (zf a 16).i),(.i .i64 (zf a 16).h)]),(.agg [(.i .i64 d),(.i .i64 (zl a 16))])])) (fun f=>(share (cond (ieq d 8) (oN (zA a 4) (some [(.agg [(.s .u8 c.b),(.i .i64 (zf a 4).i),(.i .i64 (zf a 4).h)]),(.agg [(.i .i64 d),(.i .i64 (zl a 4))])])) (oN (zA a 100) (some [(.agg [(.s .u8 c.b),(.i .i64 (zf a 100).i),(.i .i64 (zf a 100).h)]),(.agg [(.i .i64 d),(.i .i64 (zl a 100))])]))) (fun e=>(oN (zbs c [1,2,3,3,3,4,4,4,5,6,8]) (cond (ieq d 3) (cond (ieq d 3) f e) (cond (ieq d 4) f e)))))))
def zrH (c:Cur)(s:Cur)(a:Ins):Prop:=(∃N,zy4 N c=some (AV.agg (zbY s)::[aT .ins a]))/\(s.b=c.b/\0<=s.i)/\(zes a=true)
def zke (c:Cur)  : Bool:=wC (zrH c)
def zgF (c:Cur)  : Cur:=wS (zrH c)
def zgq (c:Cur)  : Ins:=wV (zrH c)
theorem zMT {c:Cur}(h:zke c=true):zrH c (zgF c) (zgq c):=wG h
theorem zAa (c:Cur)  : 0<=(zgF c).i:=wP fun h=>h.2.1.2
theorem z1O (c:Cur)(h:∃N,Ends (wE (fun a=>aT .ins a) c.b fun a=>zes a=true) (zy4 N c)):zke c=true:=wI (fun _ _ h=>h) h
def zAV:zdH:=rP0 fun c=>(zke c,zgF c,[aT .ins (zgq c)])
theorem zOC:zbL Tryz.prog 304 [false,true,true] zAV:=hP0 zdk zQ zV5 zo (zq []) (fun _ h=>(zMT h).1)
theorem zTw {c:Cur}(h:zbj c):zke c=true:=by
 refine z1O c ⟨0,?_⟩;have p:([1,2,3,3,3,4,4,4,5,6,8]:List Int)≠[]:=(by simp);have q:=zZK h p;have f:zbj {zba c [1,2,3,3,3,4,4,4,5,6,8] with b:=c.b}:=zbM h (zbX _ _);have t:=zgg f (n:=16) (by omega);have w:=zgg f (n:=4) (by omega);have m:=zgg f (n:=100) (by omega);unfold zy4 oN;conv=>zeta
 generalize zbo c [1,2,3,3,3,4,4,4,5,6,8]=o at q;simp only[qG,qN,or_false]at q;have j:∀{n:Int},ieq o n=false->o≠n:=fun h e=>(by subst e;simp[ieq]at h);have k:∀{n:Int},ieq o n=true->o=n:=fun h=>by simpa [ieq] using h
 have L:∀(n:Int),0<n->(zes ⟨o,zl {zba c [1,2,3,3,3,4,4,4,5,6,8] with b:=c.b} n⟩=true)->Ends (fun a=>∃s r,a=(AV.agg (zbY s)::[aT .ins r])/\(s.b=c.b/\0<=s.i)/\zes r=true)
  (cond (zA {zba c [1,2,3,3,3,4,4,4,5,6,8] with b:=c.b} n) (some (AV.agg [.s .u8 c.b,.i .i64 (zf {zba c [1,2,3,3,3,4,4,4,5,6,8] with b:=c.b} n).i,.i .i64 (zf {zba c [1,2,3,3,3,4,4,4,5,6,8] with b:=c.b} n).h]::[.agg [.i .i64 o,.i .i64 (zl {zba c [1,2,3,3,3,4,4,4,5,6,8] with b:=c.b} n)]])) none):=
  fun n x u=>zy (zbD f n) (zbI (aT .ins) (v:=⟨o,zl _ n⟩) (zI _ _) u)
 refine zy (zew h p) (zbH (fun g=>zbH (fun _=>L 16 (by omega) (zLY ?_)) (fun d=>absurd (k g) (j d))) (fun g=>zbH (fun d=>L 16 (by omega) (zLY ?_)) (fun d=>zbH (fun l=>L 4 (by omega) (zLY ?_)) (fun l=>L 100 (by omega) (zLY ?_)))));{have:=k g;omega};{have:=k d;omega};{have:=k l;omega};{have:=j g;have:=j d;have:=j l;omega}
def z9z:zcR:=[(304,([false,true,true],zAV))]++z9y
theorem zV6:zb7 z9z:=zcs zV5 (by
 intro x a;simp only[qG,qN,or_false]at a;rcases a with rfl
 .exact zOC)
theorem zhO {x y:Int}(a:0<=x)(b:x<=1000000)(c:0<=y)(d:y<=1000000):zL .i64 x y=x+y:=zqY (by omega) (by omega)
theorem zln {a:Type}{l:List a}(h:ln l<=1000000):few (ln l)=true:=qI ⟨by unfold ln;omega,by omega⟩
theorem zh7 {a:Type}(l:List a)(x:a):ln (ap l [x])=ln l+1:=by simp[ln,ap]
def zwU (N:Nat)(c:Cur)  : OA :=
 (iter (σ:=(Int×(Int×(Int×(lI×((List Int)×Unit)))))) N (fun j d=>let e:=d.2.2.2.1;let f:=d.2.2.2.2.1;let g:=(⟨f,d.2.1,d.2.2.1⟩:Cur);let a:=({ (zf g 7) with b:=f}:Cur); (oN (zA g 7) (cond (ilt d.1 (zL .i64 2 (zl g 7))) (oN (zke a) (oN (few (ln (ap e [(zgq a)]))) (j ((zL .i64 d.1 1),((zgF a).i,((zgF a).h,((ap e [(zgq a)]),(f,())))))))) (oN (zcT a 3) (cond (zc9 a 3) (oN (few (ln (ap e [(⟨7,0⟩:Ins)]))) (some [(.agg [(.s .u8 f),(.i .i64 (zS a 3).i),(.i .i64 (zS a 3).h)]),(aS .ins (ap e [(⟨7,0⟩:Ins)]))])) (oN (few (ln (ap e [(⟨8,0⟩:Ins)]))) (some [(.agg [(.s .u8 f),(.i .i64 (zS a 3).i),(.i .i64 (zS a 3).h)]),(aS .ins (ap e [(⟨8,0⟩:Ins)]))]))))))) (0,(c.i,(c.h,([],(c.b,()))))))
def zTm:FuncId->Nat->Option Tmpl:=zq [(302,0,{n:=29,tm:=[(0,.lp 0 0),(3,.sl 0 []),(4,ti)],lo:=[(0,[.sl 1 [],ti,ti])],ro:=[(0,.ins,true),(1,.u8,false)]})]
def zpR (c:Cur)(s:Cur)(a:List Ins):Prop:=(∃N,zwU N c=some (AV.agg (zbY s)::[aS .ins a]))/\(s.b=c.b/\0<=s.i)/\(zds a=true)
def zhx (c:Cur)  : Bool:=wC (zpR c)
def zbe (c:Cur)  : Cur:=wS (zpR c)
def zb8 (c:Cur)  : List Ins:=wV (zpR c)
theorem zrI {c:Cur}(h:zhx c=true):zpR c (zbe c) (zb8 c):=wG h
theorem ziZ (c:Cur)  : 0<=(zbe c).i:=wP fun h=>h.2.1.2
theorem zYC (c:Cur)(h:∃N,Ends (wE (fun a=>aS .ins a) c.b fun a=>zds a=true) (zwU N c)):zhx c=true:=wI (fun _ _ h=>h) h
def zyh:zdH:=rP0 fun c=>(zhx c,zbe c,[aS .ins (zb8 c)])
theorem zLI:zbL Tryz.prog 302 [false,true,true] zyh:=hP0 zdk zQ zV6 zo zTm (fun _ h=>(zrI h).1)
theorem zDE {c:Cur}(h:zbj c):zhx c=true:=by
 refine zYC c ⟨9,?_⟩;unfold zwU oN;conv=>zeta
 refine zmW (fun n s=>s.1+(n:Int)=8/\0<=s.1/\0<=s.2.1/\(∀x∈s.2.2.2.1,zes x=true)/\ln s.2.2.2.1=s.1/\s.2.2.2.2.1=c.b) ?_ 9 8 _ ⟨rfl,kU 0,h.1,by simp,rfl,rfl⟩ (by omega);rintro n ⟨t,i,k,l,b,u⟩ rec ⟨B,g,v,j,w,z⟩ f;dsimp only at B g v j w z ⊢;subst z;have a:zbj ⟨c.b,i,k⟩:=zbM h v;have d:=zgg a (n:=7) (by omega);have A:=zhO (x:=2) (by omega) (by omega) d.1 (by omega);have m:zbj {zf ⟨c.b,i,k⟩ 7 with b:=c.b}:=zbM h (zI _ _);have e:∀(y:Ins),zes y=true->2<=t->zds (ap l [y])=true:=(by intro y C D;unfold zds;rw[zh7,w];have:(ap l [y]).all zes=true:=(by simp only[ap,List.all_append,k5,List.all_nil,vK,qD];exact⟨qJ.2 j,C⟩);rw[this,cT];simp only[zk,ige,ile,qD,q0];omega);refine zy (zbD a 7) (zbH (fun p=>?_) (fun p=>?_));{have r:t<zL .i64 2 (zl ⟨c.b,i,k⟩ 7):=qE p;rw[A]at r;refine zy (zTw m) (zy (zln (by rw[zh7];omega)) (f (n-1) _ (by omega) ⟨?_,?_,zAa _,?_,?_,rfl⟩));{show zL .i64 t 1+_=8;rw[zhO g (by omega) (by omega) (by omega)];omega};{show 0<=zL .i64 t 1;rw[zhO g (by omega) (by omega) (by omega)];omega};{intro x d;rcases jK.1 d with d|d;{exact j x d};{rw [qF.1 d];exact(zMT (zTw m)).2.2}};{show ln (ap l [_])=zL .i64 t 1;rw[zh7,zhO g (by omega) (by omega) (by omega)];omega}};{have q:¬ t<zL .i64 2 (zl ⟨c.b,i,k⟩ 7):=jY p;rw[A]at q;refine zy (zjn m 3) (zbH (fun _=>zy (zln (by rw[zh7];omega)) (zbI (aS .ins) (zcm _ _) (e _ rfl (by omega)))) (fun _=>zy (zln (by rw[zh7];omega)) (zbI (aS .ins) (zcm _ _) (e _ rfl (by omega)))))}
def z9A:zcR:=[(302,([false,true,true],zyh))]++z9z
theorem zV7:zb7 z9A:=zcs zV6 (by
 intro x a;simp only[qG,qN,or_false]at a;rcases a with rfl
 .exact zLI)
theorem zXv {f:Type}{c:Cur}(h:zbj c){P:f->Prop}{fc:Cur->Bool}{fs:Cur->Cur}{fv:Cur->f}(C:∀{c:Cur},zbj c->fc c=true)(D:∀c,0<=(fs c).i)(hg:∀{c:Cur},zbj c->P (fv c)){G:Ans->Prop}{R:Cur->List f->Ans}(B:∀s l,s.b=c.b->0<=s.i->1<=l.length->l.length<=2->(∀x∈l,P x)->G (R s l)){F:(Int×Int×Int×List f×List Int×Unit->OA)->Int×Int×Int×List f×List Int×Unit->OA}(A:∀rec t i k l,F rec (t,i,k,l,c.b,())=bif zA ⟨c.b,i,k⟩ 2 then (bif ilt t (zL .i64 1 (zl ⟨c.b,i,k⟩ 2)) then (bif fc { zf ⟨c.b,i,k⟩ 2 with b:=c.b } then (bif few (ln (ap l [fv { zf ⟨c.b,i,k⟩ 2 with b:=c.b }])) then
        rec (zL .i64 t 1,(fs {zf ⟨c.b,i,k⟩ 2 with b:=c.b}).i,(fs {zf ⟨c.b,i,k⟩ 2 with b:=c.b}).h,ap l [fv {zf ⟨c.b,i,k⟩ 2 with b:=c.b}],c.b,()) else none) else none) else some (R ⟨c.b,(zf ⟨c.b,i,k⟩ 2).i,(zf ⟨c.b,i,k⟩ 2).h⟩ l)) else none) :
 Ends G (iter 3 F (0,c.i,c.h,[],c.b,())):=by
 refine zmW (fun n s=>s.1+(n:Int)=2/\0<=s.1/\0<=s.2.1/\(∀x∈s.2.2.2.1,P x)/\ln s.2.2.2.1=s.1/\s.2.2.2.2.1=c.b) ?_ 3 2 _ ⟨rfl,kU 0,h.1,by simp,rfl,rfl⟩ (by omega)
 rintro n ⟨t,i,k,l,b,u⟩ rec ⟨z,m,p,g,q,r⟩ e
 dsimp only at z m p g q r
 subst r;rw[A];have a:zbj ⟨c.b,i,k⟩:=zbM h p;have d:=zgg a (n:=2) (by omega)
 have w:=zhO (x:=1) (by omega) (by omega) d.1 (by omega)
 have v:zbj {zf ⟨c.b,i,k⟩ 2 with b:=c.b}:=zbM h (zI _ _);refine zy (zbD a 2) (zbH (fun j=>?_) (fun j=>?_))
 .have hlt:t<zL .i64 1 (zl ⟨c.b,i,k⟩ 2):=qE j;rw[w]at hlt;have E:=zhO (y:=1) m (by omega) (by omega) (by omega)
  refine zy (C v) (zy (zln (by rw[zh7];omega)) (e (n-1) _ (by omega) ⟨?_,?_,D _,?_,?_,rfl⟩))
  .show zL .i64 t 1+_=2
   omega
  .show 0<=zL .i64 t 1
   omega
  .intro x d;rcases jK.1 d with d|d
   .exact g x d
   .rw [qF.1 d];exact hg v
  .show ln (ap l [_])=zL .i64 t 1
   rw[zh7];omega
 .have hge:¬ t<zL .i64 1 (zl ⟨c.b,i,k⟩ 2):=jY j;rw[w]at hge;unfold ln at q;exact zuo (B _ l rfl (zI _ _) (by omega) (by omega) g)
def zua (N:Nat)(c:Cur)  : OA :=
 (iter (σ:=(Int×(Int×(Int×(lP×((List Int)×Unit)))))) N (fun g a=>let f:=a.2.2.2.2.1;let e:=(⟨f,a.2.1,a.2.2.1⟩:Cur);let d:=({ (zf e 2) with b:=f}:Cur); (oN (zA e 2) (cond (ilt a.1 (zL .i64 1 (zl e 2))) (oN (zhx d) (oN (few (ln (ap a.2.2.2.1 [(zb8 d)]))) (g ((zL .i64 a.1 1),((zbe d).i,((zbe d).h,((ap a.2.2.2.1 [(zb8 d)]),(f,())))))))) (some [(.agg [(.s .u8 f),(.i .i64 (zf e 2).i),(.i .i64 (zf e 2).h)]),(aS (.sl .ins) a.2.2.2.1)])))) (0,(c.i,(c.h,([],(c.b,()))))))
def zQb:FuncId->Nat->Option Tmpl:=zq [(299,0,{n:=19,tm:=[(0,.lp 0 0),(3,.sl 0 []),(4,ti)],lo:=[(0,[.sl 1 [],ti,ti])],ro:=[(0,(.sl .ins),true),(1,.u8,false)]})]
def znH (c:Cur)(s:Cur)(a:List (List Ins)):Prop:=(∃N,zua N c=some (AV.agg (zbY s)::[aS (.sl .ins) a]))/\(s.b=c.b/\0<=s.i)/\(1<=a.length/\a.length<=2/\∀x∈a,zds x=true)
def zjE (c:Cur)  : Bool:=wC (znH c)
def zjF (c:Cur)  : Cur:=wS (znH c)
def zp0 (c:Cur)  : List (List Ins):=wV (znH c)
theorem zD7 {c:Cur}(h:zjE c=true):znH c (zjF c) (zp0 c):=wG h
theorem zWE (c:Cur)  : 0<=(zjF c).i:=wP fun h=>h.2.1.2
theorem zWD (c:Cur)(h:∃N,Ends (wE (fun a=>aS (.sl .ins) a) c.b fun a=>1<=a.length/\a.length<=2/\∀x∈a,zds x=true) (zua N c)):zjE c=true:=wI (fun _ _ h=>h) h
def zwi:zdH:=rP0 fun c=>(zjE c,zjF c,[aS (.sl .ins) (zp0 c)])
theorem zIP:zbL Tryz.prog 299 [false,true,true] zwi:=hP0 zdk zQ zV7 zo zQb (fun _ h=>(zD7 h).1)
theorem zZM {c:Cur}(h:zbj c):zjE c=true:=by
 refine zWD c ⟨3,?_⟩;unfold zua oN;conv=>zeta
 exact zXv h (P:=fun x=>zds x=true) (fc:=zhx) (fs:=zbe) (fv:=zb8) (R:=fun s l=>AV.agg (zbY s)::[aS (.sl .ins) l]) zDE ziZ (fun h=>(zrI (zDE h)).2.2) (fun s l d e a b f=>⟨s,l,rfl,⟨d,e⟩,a,b,f⟩) (fun rec t i k l=>rfl)
def z9B:zcR:=[(299,([false,true,true],zwi))]++z9A
theorem zV8:zb7 z9B:=zcs zV7 (by
 intro x a;simp only[qG,qN,or_false]at a;rcases a with rfl
 .exact zIP)
def zy9 (N:Nat)(c:Cur)  : OA :=
 (iter (σ:=(Int×(Int×(Int×(lQ×((List Int)×Unit)))))) N (fun g a=>let f:=a.2.2.2.2.1;let e:=(⟨f,a.2.1,a.2.2.1⟩:Cur);let d:=({ (zf e 2) with b:=f}:Cur); (oN (zA e 2) (cond (ilt a.1 (zL .i64 1 (zl e 2))) (oN (zjE d) (oN (few (ln (ap a.2.2.2.1 [(zp0 d)]))) (g ((zL .i64 a.1 1),((zjF d).i,((zjF d).h,((ap a.2.2.2.1 [(zp0 d)]),(f,())))))))) (some [(.agg [(.s .u8 f),(.i .i64 (zf e 2).i),(.i .i64 (zf e 2).h)]),(aS (.sl (.sl .ins)) a.2.2.2.1)])))) (0,(c.i,(c.h,([],(c.b,()))))))
def zXq:FuncId->Nat->Option Tmpl:=zq [(241,0,{n:=19,tm:=[(0,.lp 0 0),(3,.sl 0 []),(4,ti)],lo:=[(0,[.sl 1 [],ti,ti])],ro:=[(0,(.sl (.sl .ins)),true),(1,.u8,false)]})]
def zrO (c:Cur)(s:Cur)(a:List (List (List Ins))):Prop:=(∃N,zy9 N c=some (AV.agg (zbY s)::[aS (.sl (.sl .ins)) a]))/\(s.b=c.b/\0<=s.i)/\(1<=a.length/\a.length<=2/\∀p∈a,1<=p.length/\p.length<=2/\∀x∈p,zds x=true)
def zp2 (c:Cur)  : Bool:=wC (zrO c)
def zmG (c:Cur)  : Cur:=wS (zrO c)
def zvh (c:Cur)  : List (List (List Ins)):=wV (zrO c)
theorem zMX {c:Cur}(h:zp2 c=true):zrO c (zmG c) (zvh c):=wG h
theorem z15 (c:Cur)  : 0<=(zmG c).i:=wP fun h=>h.2.1.2
theorem z14 (c:Cur)(h:∃N,Ends (wE (fun a=>aS (.sl (.sl .ins)) a) c.b fun a=>1<=a.length/\a.length<=2/\∀p∈a,1<=p.length/\p.length<=2/\∀x∈p,zds x=true) (zy9 N c)):zp2 c=true:=wI (fun _ _ h=>h) h
def zA1:zdH:=rP0 fun c=>(zp2 c,zmG c,[aS (.sl (.sl .ins)) (zvh c)])
theorem zOI:zbL Tryz.prog 241 [false,true,true] zA1:=hP0 zdk zQ zV8 zo zXq (fun _ h=>(zMX h).1)
theorem z7T {c:Cur}(h:zbj c):zp2 c=true:=by
 refine z14 c ⟨3,?_⟩;unfold zy9 oN;conv=>zeta
 exact zXv h (P:=fun p=>1<=p.length/\p.length<=2/\∀x∈p,zds x=true) (fc:=zjE) (fs:=zjF) (fv:=zp0) (R:=fun s l=>AV.agg (zbY s)::[aS (.sl (.sl .ins)) l]) zZM zWE (fun h=>(zD7 (zZM h)).2.2) (fun s l d e a b f=>⟨s,l,rfl,⟨d,e⟩,a,b,f⟩) (fun rec t i k l=>rfl)
def z9C:zcR:=[(241,([false,true,true],zA1))]++z9B
theorem zV9:zb7 z9C:=zcs zV8 (by
 intro x a;simp only[qG,qN,or_false]at a;rcases a with rfl
 .exact zOI)
theorem zEA {c:Type}{G:c->Prop}{x:Bool}{a b:Option c}(k:Ends G a)(h:x=true:=by first
 |exact zbD (by first|assumption|exact zbM (by assumption) (zI _ _)|exact zbM (by assumption) (zcm _ _)|exact zbM (by assumption) (zbX _ _)) _
 |exact zjn (by first|assumption|exact zbM (by assumption) (zI _ _)|exact zbM (by assumption) (zcm _ _)) _
 |exact zew (by first|assumption|exact zbM (by assumption) (zI _ _)) (by simp)):Ends G (cond x a b):=zy h k
def zy6 (N:Nat)(c:Cur)  : OA :=
 let f:=(zl c 4);let j:=({ (zf c 4) with b:=c.b}:Cur);let e:=(zc9 j 4);let d:=(zS j 4);let a:=({d with b:=c.b}:Cur);let g:=({ (zS a 2) with b:=c.b}:Cur); (oN (zA c 4) (oN (zcT j 4) (cond (nB e) (cond (ine f 2) (oN (zcT a 2) (cond (zc9 a 2) (oN (zA g 256) (some [(.agg [(.s .u8 c.b),(.i .i64 (zf g 256).i),(.i .i64 (zf g 256).h)]),(.agg [(.i .i64 f),(.i .i64 (zl g 256)),(.b (nB e))])])) (some [(.agg [(.s .u8 c.b),(.i .i64 (zS a 2).i),(.i .i64 (zS a 2).h)]),(.agg [(.i .i64 f),(.i .i64 0),(.b (nB e))])]))) (some [(.agg [(.s .u8 c.b),(.i .i64 d.i),(.i .i64 d.h)]),(.agg [(.i .i64 f),(.i .i64 0),(.b (nB e))])])) (some [(.agg [(.s .u8 c.b),(.i .i64 d.i),(.i .i64 d.h)]),(.agg [(.i .i64 f),(.i .i64 0),(.b (nB e))])]))))
def zrK (c:Cur)(s:Cur)(a:Ctl):Prop:=(∃N,zy6 N c=some (AV.agg (zbY s)::[.agg (zmO a)]))/\(s.b=c.b/\0<=s.i)/\(True)
def zkf (c:Cur)  : Bool:=wC (zrK c)
def zch (c:Cur)  : Cur:=wS (zrK c)
def zcD (c:Cur)  : Ctl:=wV (zrK c)
theorem z1S {c:Cur}(h:zkf c=true):zrK c (zch c) (zcD c):=wG h
theorem zAc (c:Cur)  : 0<=(zch c).i:=wP fun h=>h.2.1.2
theorem z1T (c:Cur)(h:∃N,Ends (wE (fun a=>.agg (zmO a)) c.b fun a=>True) (zy6 N c)):zkf c=true:=wI (fun _ _ h=>h) h
def zAX:zdH:=rP0 fun c=>(zkf c,zch c,[.agg (zmO (zcD c))])
theorem zOE:zbL Tryz.prog 189 [false,true,true] zAX:=hP0 zdk zQ zV9 zo (zq []) (fun _ h=>(z1S h).1)
theorem z0v {c:Cur}(h:zbj c):zkf c=true:=by
 refine z1T c ⟨0,?_⟩;unfold zy6 oN nB;conv=>zeta
 refine zEA (zEA (zbH (fun _=>zbH (fun _=>zEA (zbH (fun _=>zEA (?_)) (fun _=>?_))) (fun _=>?_)) (fun _=>?_)));all_goals exact zbI (fun x=>AV.agg (zmO x)) (v:=⟨_,_,_⟩) (by first|exact zI _ _|exact zcm _ _) trivial
def z9D:zcR:=[(189,([false,true,true],zAX))]++z9C
theorem zJi:zb7 z9D:=zcs zV9 (by
 intro x a;simp only[qG,qN,or_false]at a;rcases a with rfl
 .exact zOE)
theorem zef {c:Type}{G:c->Prop}{x:Bool}{a b:Option c}(k:Ends G a)(h:x=true:=by first
 |exact zbD (by first|assumption|exact zbM (by assumption) (zI _ _)|exact zbM (by assumption) (zbX _ _)) _
 |exact zew (by first|assumption|exact zbM (by assumption) (zI _ _)) (by simp)
 |exact z0v (zbM (by assumption) (zI _ _))):Ends G (cond x a b):=zy h k
def zzc (N:Nat)(c:Cur)  : OA :=
 let m:=({ (zf c 2) with b:=c.b}:Cur);let g:=(zl c 2);let f:=(zl m 2);let u:=({ (zf m 2) with b:=c.b}:Cur);let e:=(zf u 24);let d:=(zl u 24);let a:=({e with b:=c.b}:Cur);let j:=(zf a 8);let l:=({ (zf a 4) with b:=c.b}:Cur);let k:=({j with b:=c.b}:Cur);let t:=({ (zf a 16) with b:=c.b}:Cur);let r:=({ (zba a [16,17]) with b:=c.b}:Cur);let q:=({ (zba a [13,13,14,15]) with b:=c.b}:Cur);let p:=({ (zf k 4) with b:=c.b}:Cur);let n:=({ (zf l 8) with b:=c.b}:Cur); (share (oN (zbs a [13,13,14,15]) (oN (zA q 8) (some [(.agg [(.s .u8 c.b),(.i .i64 (zf q 8).i),(.i .i64 (zf q 8).h)]),(.agg [(.i .i64 (zbo a [13,13,14,15])),(.i .i64 g),(.i .i64 f),(.i .i64 (zl q 8)),(.i .i64 0),(.i .i64 0)])]))) (fun A=>(share (cond (ieq d 16) (oN (zbs a [16,17]) (oN (zA r 4) (some [(.agg [(.s .u8 c.b),(.i .i64 (zf r 4).i),(.i .i64 (zf r 4).h)]),(.agg [(.i .i64 (zbo a [16,17])),(.i .i64 g),(.i .i64 f),(.i .i64 (zl r 4)),(.i .i64 0),(.i .i64 0)])]))) (some [(.agg [(.s .u8 c.b),(.i .i64 e.i),(.i .i64 e.h)]),(.agg [(.i .i64 1),(.i .i64 g),(.i .i64 f),(.i .i64 0),(.i .i64 0),(.i .i64 0)])])) (fun z=>(share (oN (zA a 4) (oN (zA l 8) (oN (zbs n [3,3,1,2]) (some [(.agg [(.s .u8 c.b),(.i .i64 (zba n [3,3,1,2]).i),(.i .i64 (zba n [3,3,1,2]).h)]),(.agg [(.i .i64 2),(.i .i64 g),(.i .i64 f),(.i .i64 (zl a 4)),(.i .i64 (zl l 8)),(.i .i64 (zbo n [3,3,1,2]))])])))) (fun y=>(share (oN (zA a 4) (some [(.agg [(.s .u8 c.b),(.i .i64 (zf a 4).i),(.i .i64 (zf a 4).h)]),(.agg [(.i .i64 3),(.i .i64 g),(.i .i64 f),(.i .i64 (zl a 4)),(.i .i64 0),(.i .i64 0)])])) (fun x=>(share (cond (ieq d 7) (oN (zA a 8) (some [(.agg [(.s .u8 c.b),(.i .i64 j.i),(.i .i64 j.h)]),(.agg [(.i .i64 6),(.i .i64 g),(.i .i64 f),(.i .i64 (zl a 8)),(.i .i64 0),(.i .i64 0)])])) (cond (ieq d 8) (oN (zkf a) (cond ((zcD a).Open) (some [(.agg [(.s .u8 c.b),(.i .i64 (zch a).i),(.i .i64 (zch a).h)]),(.agg [(.i .i64 7),(.i .i64 g),(.i .i64 f),(.i .i64 (zcD a).Traps),(.i .i64 (zcD a).Post),(.i .i64 1)])]) (some [(.agg [(.s .u8 c.b),(.i .i64 (zch a).i),(.i .i64 (zch a).h)]),(.agg [(.i .i64 7),(.i .i64 g),(.i .i64 f),(.i .i64 (zcD a).Traps),(.i .i64 (zcD a).Post),(.i .i64 0)])]))) (cond (ieq d 9) (oN (zA a 8) (oN (zA k 4) (oN (zA p 100) (some [(.agg [(.s .u8 c.b),(.i .i64 (zf p 100).i),(.i .i64 (zf p 100).h)]),(.agg [(.i .i64 8),(.i .i64 g),(.i .i64 f),(.i .i64 (zl a 8)),(.i .i64 (zl k 4)),(.i .i64 (zl p 100))])])))) (cond (ieq d 10) (oN (zA a 8) (some [(.agg [(.s .u8 c.b),(.i .i64 j.i),(.i .i64 j.h)]),(.agg [(.i .i64 9),(.i .i64 g),(.i .i64 f),(.i .i64 (zl a 8)),(.i .i64 0),(.i .i64 0)])])) (cond (ieq d 11) (some [(.agg [(.s .u8 c.b),(.i .i64 e.i),(.i .i64 e.h)]),(.agg [(.i .i64 10),(.i .i64 g),(.i .i64 f),(.i .i64 0),(.i .i64 0),(.i .i64 0)])]) (cond (ieq d 12) (oN (zA a 16) (oN (zA t 100) (some [(.agg [(.s .u8 c.b),(.i .i64 (zf t 100).i),(.i .i64 (zf t 100).h)]),(.agg [(.i .i64 11),(.i .i64 g),(.i .i64 f),(.i .i64 (zl a 16)),(.i .i64 (zl t 100)),(.i .i64 0)])]))) (cond (ieq d 13) (oN (zA a 16) (some [(.agg [(.s .u8 c.b),(.i .i64 (zf a 16).i),(.i .i64 (zf a 16).h)]),(.agg [(.i .i64 12),(.i .i64 g),(.i .i64 f),(.i .i64 (zl a 16)),(.i .i64 0),(.i .i64 0)])])) (cond (ieq d 14) (cond (ieq d 14) A z) (cond (ieq d 15) A z))))))))) (fun v=>(share (cond (ieq d 4) (oN (zA a 100) (some [(.agg [(.s .u8 c.b),(.i .i64 (zf a 100).i),(.i .i64 (zf a 100).h)]),(.agg [(.i .i64 4),(.i .i64 g),(.i .i64 f),(.i .i64 (zl a 100)),(.i .i64 0),(.i .i64 0)])])) (cond (ieq d 5) (cond (ieq d 5) (some [(.agg [(.s .u8 c.b),(.i .i64 e.i),(.i .i64 e.h)]),(.agg [(.i .i64 5),(.i .i64 g),(.i .i64 f),(.i .i64 0),(.i .i64 0),(.i .i64 0)])]) v) (cond (ieq d 6) (some [(.agg [(.s .u8 c.b),(.i .i64 e.i),(.i .i64 e.h)]),(.agg [(.i .i64 5),(.i .i64 g),(.i .i64 f),(.i .i64 0),(.i .i64 0),(.i .i64 0)])]) v))) (fun w=>(share (cond (ieq d 2) (cond (ieq d 2) x w) (cond (ieq d 3) x w)) (fun B=>(oN (zA c 2) (oN (zA m 2) (oN (zA u 24) (cond (ieq d 0) (cond (ieq d 0) y B) (cond (ieq d 1) y B)))))))))))))))))))
def zrV (c:Cur)(s:Cur)(a:GAct):Prop:=(∃N,zzc N c=some (AV.agg (zbY s)::[aT .act a]))/\(s.b=c.b/\0<=s.i)/\(True)
def zki (c:Cur)  : Bool:=wC (zrV c)
def zhm (c:Cur)  : Cur:=wS (zrV c)
def zqT (c:Cur)  : GAct:=wV (zrV c)
theorem z19 {c:Cur}(h:zki c=true):zrV c (zhm c) (zqT c):=wG h
theorem z2c (c:Cur)  : 0<=(zhm c).i:=wP fun h=>h.2.1.2
theorem z2a (c:Cur)(h:∃N,Ends (wE (fun a=>aT .act a) c.b fun a=>True) (zzc N c)):zki c=true:=wI (fun _ _ h=>h) h
def zA3:zdH:=rP0 fun c=>(zki c,zhm c,[aT .act (zqT c)])
theorem zON:zbL Tryz.prog 301 [false,true,true] zA3:=hP0 zdk zQ zJi zo (zq []) (fun _ h=>(z19 h).1)
theorem zbcE {c:Cur}(h:zbj c):zki c=true:=by
 refine z2a c ⟨0,?_⟩;unfold zzc oN;conv=>zeta
 refine znO (zef (zef (?_))) (fun _ g=>znO (zbH (fun _=>zef (zef (?_))) (fun _=>?_)) (fun _ f=>znO (zef (zef (zef (?_)))) (fun _ e=>znO (zef (?_)) (fun _ d=>znO (zbH (fun _=>zef (?_)) (fun _=>zbH (fun _=>zef (zbH (fun _=>?_) (fun _=>?_))) (fun _=>zbH (fun _=>zef (zef (zef (?_)))) (fun _=>zbH (fun _=>zef (?_)) (fun _=>zbH (fun _=>?_) (fun _=>zbH (fun _=>zef (zef (?_))) (fun _=>zbH (fun _=>zef (?_)) (fun _=>zbH (fun _=>zbH (fun _=>g) (fun _=>f)) (fun _=>zbH (fun _=>g) (fun _=>f)))))))))) (fun _ a=>znO (zbH (fun _=>zef (?_)) (fun _=>zbH (fun _=>zbH (fun _=>?_) (fun _=>a)) (fun _=>zbH (fun _=>?_) (fun _=>a)))) (fun _ b=>znO (zbH (fun _=>zbH (fun _=>d) (fun _=>b)) (fun _=>zbH (fun _=>d) (fun _=>b))) (fun _ i=>zef (zef (zef (zbH (fun _=>zbH (fun _=>e) (fun _=>i)) (fun _=>zbH (fun _=>e) (fun _=>i))))))))))));all_goals exact zbI (aT .act) (v:=⟨_,_,_,_,_,_⟩) (by first|exact zI _ _|exact zbX _ _|exact zAc _) trivial
def zlf (N:Nat)  : OA :=
 (iter (σ:=(Int×(lA×Unit))) N (fun e c=>(cond (ilt c.1 2) (iter (σ:=(Int×(Int×(lA×Unit)))) N (fun f b=>(cond (ilt b.2.1 2) (iter (σ:=(Int×(Int×(Int×(lA×Unit))))) N (fun g a=>let d:=(ap a.2.2.2.1 [(⟨2,a.1,a.2.1,a.2.2.1,(zL .i64 a.2.2.1 (zmR .i64 3 a.2.1)),3⟩:GAct),(⟨3,a.1,a.2.1,a.2.2.1,0,0⟩:GAct)]); (cond (ilt a.2.2.1 3) (oN (few (ln d)) (g (a.1,(a.2.1,((zL .i64 a.2.2.1 1),(d,())))))) (f (a.1,((zL .i64 a.2.1 1),(a.2.2.2.1,())))))) (b.1,(b.2.1,(0,(b.2.2.1,()))))) (e ((zL .i64 b.1 1),(b.2.2.1,()))))) (c.1,(0,(c.2.1,())))) (some [(aS .act c.2.1)]))) (0,([],())))
def zQc:FuncId->Nat->Option Tmpl:=zq [(300,0,{n:=34,tm:=[(1,.sl 0 []),(2,ti)],lo:=[],ro:=[(0,.act,true)]}),(300,2,{n:=34,tm:=[(1,.sl 0 []),(2,ti),(3,ti)],lo:=[],ro:=[(0,.act,true)]}),(300,4,{n:=34,tm:=[(1,.sl 0 []),(2,ti),(3,ti),(4,ti)],lo:=[],ro:=[(0,.act,true)]})]
def zsZ  (a:List GAct):Prop:=(∃N,zlf N=some [aS .act a])/\(a.length<=45)
def zjH  : Bool:=uC (T:=List GAct) (fun r=>zsZ r)
def zWI  : List GAct:=uV (fun r=>zsZ r)
def ztL  : List GAct:=(zWI)
theorem zEa  (h:zjH=true):zsZ ztL:=uG h
theorem zWH  (h:∃N,Ends (fun a=>∃b,a=[aS .act b]/\(b.length<=45)) (zlf N)):zjH=true:=by obtain⟨N,a,e,b,rfl,h⟩:=h;exact zbm ⟨b,⟨N,e⟩,h⟩
def zyM:Run:=rF0 (zjH,[aS .act ztL])
theorem zPx  (a:zjH=true):∃N,zlf N  = some [aS .act ztL]:=by exact(zEa a).1
theorem zIR:vT 300 zyM:=kF0 zdk zQ zJi zo zQc zPx
def z2M:List GAct:=match zlf 10 with
 |some [.one (.s .act l)]=>l
 |_=>[]
theorem zZa:zjH=true:=zWH ⟨10,_,(by kernel_rfl:zlf 10=some [aS .act z2M]),z2M,rfl,Nat.le_of_ble_eq_true (by kernel_rfl)⟩
def z9E:zcR:=[(301,([false,true,true],zA3))]++z9D
theorem zWa:zb7 z9E:=zcs zJi (by
 intro x a;simp only[qG,qN,or_false]at a;rcases a with rfl
 .exact zON)
def zbbS:zZ:=[(300,zyM)]++zzm
theorem z2P:zN zbbS:=zh zIR zdk
theorem zRg {c:Cur}(h:zbj c){m:Int}(e:0<=m)(J:m<=1000){G:Ans->Prop}{R:Cur->List GAct->Ans}(D:∀s l,s.b=c.b->0<=s.i->ln l<=45+m->G (R s l)){F:(Int×Int×Int×Int×List GAct×List Int×Unit->OA)->Int×Int×Int×Int×List GAct×List Int×Unit->OA}(C:∀rec t i k l,F rec (m,t,i,k,l,c.b,())=bif zA ⟨c.b,i,k⟩ (zL .i64 m 1) then (bif ilt t (zl ⟨c.b,i,k⟩ (zL .i64 m 1)) then (bif zki { zf ⟨c.b,i,k⟩ (zL .i64 m 1) with b:=c.b } then (bif few (ln (ap l [zqT { zf ⟨c.b,i,k⟩ (zL .i64 m 1) with b:=c.b }])) then
        rec (m,zL .i64 t 1,(zhm {zf ⟨c.b,i,k⟩ (zL .i64 m 1) with b:=c.b}).i,(zhm {zf ⟨c.b,i,k⟩ (zL .i64 m 1) with b:=c.b}).h,ap l [zqT {zf ⟨c.b,i,k⟩ (zL .i64 m 1) with b:=c.b}],c.b,()) else none) else none) else some (R ⟨c.b,(zf ⟨c.b,i,k⟩ (zL .i64 m 1)).i,(zf ⟨c.b,i,k⟩ (zL .i64 m 1)).h⟩ l)) else none){w I:Int}(f:0<=w){g:List GAct}(E:g.length<=45):Ends G (iter 1002 F (m,0,w,I,g,c.b,())):=by
 refine zmW (fun n s=>s.1=m/\s.2.1+(n:Int)=1000/\0<=s.2.1/\0<=s.2.2.1/\(ln s.2.2.2.2.1<=45+s.2.1/\s.2.1<=m)/\s.2.2.2.2.2.1=c.b) ?_ 1002 1000 _ ⟨rfl,rfl,kU 0,f,⟨by unfold ln;show ((g.length:Nat):Int)<=45+0;omega,e⟩,rfl⟩ (by omega)
 rintro n ⟨q,t,i,k,l,b,u⟩ rec ⟨e,z,j,p,⟨A,H⟩,r⟩ d
 dsimp only at e z j p A r H
 subst r;subst e;rw[C];have a:zbj ⟨c.b,i,k⟩:=zbM h p;have L:=zhO (x:=q) (y:=1) (by omega) (by omega) (by omega) (by omega)
 have M:=zgg a (n:=zL .i64 q 1) (by omega)
 have B:zbj {zf ⟨c.b,i,k⟩ (zL .i64 q 1) with b:=c.b}:=zbM h (zI _ _);refine zy (zbD a _) (zbH (fun v=>?_) (fun v=>?_))
 .have hlt:t<zl ⟨c.b,i,k⟩ (zL .i64 q 1):=qE v;have K:=zhO (y:=1) j (by omega) (by omega) (by omega)
  refine zy (zbcE B) (zy (zln (by rw[zh7];omega)) (d (n-1) _ (by omega) ⟨rfl,?_,?_,z2c _,⟨?_,?_⟩,rfl⟩))
  .show zL .i64 t 1+_=1000
   omega
  .show 0<=zL .i64 t 1
   omega
  .show ln (ap l [_])<=45+zL .i64 t 1
   rw[zh7];omega
  .show zL .i64 t 1<=q
   omega
 .refine zuo (D _ l rfl (zI _ _) ?_);omega
def zw1 (N:Nat)(c:Cur)(p:Int):OA:=
 (oN (zcT c 5) (cond (nB (zc9 c 5)) (oN zjH (iter (σ:=(Int×(Int×(Int×(Int×(lA×((List Int)×Unit))))))) N (fun n a=>let l:=a.2.2.2.2.2.1;let f:=(zL .i64 a.1 1);let d:=(⟨l,a.2.2.1,a.2.2.2.1⟩:Cur);let j:=({ (zf d f) with b:=l}:Cur);let q:=(ap a.2.2.2.2.1 [(zqT j)]); (oN (zA d f) (cond (ilt a.2.1 (zl d f)) (oN (zki j) (oN (few (ln q)) (n (a.1,((zL .i64 a.2.1 1),((zhm j).i,((zhm j).h,(q,(l,()))))))))) (some [(.agg [(.s .u8 l),(.i .i64 (zf d f).i),(.i .i64 (zf d f).h)]),(aS .act a.2.2.2.2.1)])))) (p,(0,((zS c 5).i,((zS c 5).h,(ztL,(c.b,())))))))) (iter (σ:=(Int×(Int×(Int×(Int×(lA×((List Int)×Unit))))))) N (fun n a=>let m:=a.2.2.2.2.2.1;let g:=(zL .i64 a.1 1);let e:=(⟨m,a.2.2.1,a.2.2.2.1⟩:Cur);let k:=({ (zf e g) with b:=m}:Cur);let r:=(ap a.2.2.2.2.1 [(zqT k)]); (oN (zA e g) (cond (ilt a.2.1 (zl e g)) (oN (zki k) (oN (few (ln r)) (n (a.1,((zL .i64 a.2.1 1),((zhm k).i,((zhm k).h,(r,(m,()))))))))) (some [(.agg [(.s .u8 m),(.i .i64 (zf e g).i),(.i .i64 (zf e g).h)]),(aS .act a.2.2.2.2.1)])))) (p,(0,((zS c 5).i,((zS c 5).h,([],(c.b,())))))))))
def zTp:FuncId->Nat->Option Tmpl:=zq [(242,0,{n:=26,tm:=[(0,.lp 0 0),(1,ti),(5,.sl 0 []),(6,ti)],lo:=[(0,[.sl 1 [],ti,ti])],ro:=[(0,.act,true),(1,.u8,false)]})]
def zp5 (c:Cur)(a:Int)(s:Cur)(d:List GAct):Prop:=(∃N,zw1 N c a=some (AV.agg (zbY s)::[aS .act d]))/\(s.b=c.b/\0<=s.i)/\(ln d<=45+a)
def znl (c:Cur)(a:Int):Bool:=wC (zp5 c a)
def znm (c:Cur)(a:Int):Cur:=wS (zp5 c a)
def zsq (c:Cur)(a:Int):List GAct:=wV (zp5 c a)
theorem zHo {c:Cur}{a:Int}(h:znl c a=true):zp5 c a (znm c a) (zsq c a):=wG h
theorem zYN (c:Cur)(a:Int):0<=(znm c a).i:=wP fun h=>h.2.1.2
theorem zYM (c:Cur)(a:Int)(h:∃N,Ends (wE (fun d=>aS .act d) c.b fun d=>ln d<=45+a) (zw1 N c a)):znl c a=true:=wI (fun _ _ h=>h) h
def zym:zdH:=rP1 dI fun c b=>(znl c b,znm c b,[aS .act (zsq c b)])
theorem zLV:zbL Tryz.prog 242 [false,true,true] zym:=hP1 z2P zQ zWa zo zTp (fun _ _ h=>(zHo h).1)
theorem z2D {c:Cur}(h:zbj c){m:Int}(e:0<=m)(f:m<=1000):znl c m=true:=by
 refine zYM c m ⟨1002,?_⟩;unfold zw1 oN nB;conv=>zeta
 have g:=zEa zZa;exact zy (zjn h 5) (zbH (fun _=>zy zZa (zRg h e f (R:=fun s l=>AV.agg (zbY s)::[aS .act l]) (fun s l a b d=>⟨s,l,rfl,⟨a,b⟩,d⟩) (fun rec t i k l=>rfl) (zcm _ _) g.2)) (fun _=>zRg h e f (R:=fun s l=>AV.agg (zbY s)::[aS .act l]) (fun s l a b d=>⟨s,l,rfl,⟨a,b⟩,d⟩) (fun rec t i k l=>rfl) (zcm _ _) (jQ _)))
def z9F:zcR:=[(242,([false,true,true],zym))]++z9E
theorem zWb:zb7 z9F:=zcs zWa (by
 intro x a;simp only[qG,qN,or_false]at a;rcases a with rfl
 .exact zLV)
@[simp] abbrev ziO (l:List (List Int)):Bool:=pc (SmM l)
@[simp] abbrev zf5 (l:List (List Int)):List (List Int):=l
def zA4:Run:=rF1 (dS (.sl .int)) fun b=>(ziO b,[aS (.sl .int) (zf5 b)])
def zF3 (N:Nat)(c:lM):OA:=
 (iter (σ:=(Int×(Int×(lM×(lM×Unit))))) N (fun d a=>let b:=(ix a.2.2.2.1 a.2.1 []); (cond (ilt a.2.1 a.1) (oN (inb a.2.1 (ln a.2.2.2.1)) (oN (zeb b) (oN (few (ln (ap a.2.2.1 [(zd6 b)]))) (d (a.1,((zL .i64 a.2.1 1),((ap a.2.2.1 [(zd6 b)]),(a.2.2.2.1,())))))))) (some [(aS (.sl .int) a.2.2.1)]))) ((ln c),(0,([],(c,())))))
def zTc:FuncId->Nat->Option Tmpl:=zq [(211,0,{n:=20,tm:=[(3,.sl 0 []),(7,.sl 1 []),(8,ti),(9,ti)],lo:=[],ro:=[(0,(.sl .int),true),(1,(.sl .int),false)]})]
theorem zSj (a:List (List Int))(g:ziO a=true):∃N,zF3 N a=some [aS (.sl .int) (zf5 a)]:=by
 have f:=zO.1 g;have e:=zcv f.1;refine zb6 fun N d=>?_;unfold zF3 oN;conv=>zeta
 refine(zbk a (fun i (t:lM)=>((ln a),(i:Int),t,a,())) _ (fun _ x b j=>bif zeb x then (cond (few (ln (ap b [zd6 x]))) (j (ap b [zd6 x])) none) else none) (fun (t:lM)=>(some [(.one (.s (.sl .int) t))])) (fun i c t rec=>?_) (fun t rec=>?_) _ ([]) (d e.1)).trans ?_;{simp only [zbn c,zT c,zbd c,zY c e.1,cT]};{simp only [zbh,cF]};exact zjQ zeb zd6 _ a 0 [] (fun x h=>⟨by exact zbm (qV (f.2 x h) (by decide)),rfl⟩) (by simpa using e.2)
theorem zLf:vT 211 zA4:=kF1 zg5 zC zx zo zTc zSj
@[simp] abbrev zbr (g:Guest):Bool:=pc (SmG g)
@[simp] abbrev zgw (g:Guest):Guest:=g
def zwk:Run:=rF1 (dT .guest) fun b=>(zbr b,[aT .guest (zgw b)])
def zAv (N:Nat)(a:Guest):OA:=
 (oN (zuA a.Prog) (oN (zg6 a.Written) (oN (zg6 a.Live) (oN (zeb a.Seen) (some [(aT .guest ({a with Prog:=(zoR a.Prog),Written:=(zfv a.Written),Live:=(zfv a.Live),Seen:=(zd6 a.Seen)}:Guest))])))))
theorem zL7 (a:Guest)(b:zbr a=true):∃N,zAv N a=some [aT .guest (zgw a)]:=by have c:=zO.1 b;obtain⟨h,i,j,k⟩:=c;have d:a.Prog.length<=2147483648:=(by omega);have e:a.Written.length<=2147483648:=(by omega);have f:a.Live.length<=2147483648:=(by omega);have g:a.Seen.length<=2147483648:=(by omega);refine⟨0,?_⟩;unfold zAv oN;refine mu (mu (mu (mu ?_)));first|rfl|(simp only [*,zgw,cT,cF]<;>rfl)|simp_all[Ty.cells,zgw]
theorem zE8:vT 256 zwk:=kF1 zg5 zC zx zo (zq []) zL7
def zeB (t:List Slot)(p n:Int):Bool:=bif ieq (zbC t p).Page (-1) then false else (cond (enough (zbC t p).Rights n) (zk n 1 3) false)
def zbZ (t:List Slot)(p n:Int):Int:=bif zeB t p n then (zbC t p).Page else -1
theorem z7m {r:Int}(h:zdK r=true):0<=r/\r<=3:=zgs.1 h
theorem z0M {a n:Int}(h:enough a n=true):zk n 1 3 = !ieq n 0:=by unfold enough at h;cases b:zdK a;{rw [b]at h;cases h};{cases c:zdK n;{rw [b,c]at h;cases h};{have:=z7m c;have e:(zk n 1 3=true)↔(!ieq n 0)=true:=(by rw[zgs];simp[ieq];omega);cases d:zk n 1 3<;>cases f:(!ieq n 0)<;>simp_all}}
@[simp] abbrev zkt (t:List Slot)(p n:Int):Bool:=true
@[simp] abbrev ze9 (t:List Slot)(p n:Int):Int:=zbZ t p n
@[simp] abbrev zfa (t:List Slot)(p n:Int):Bool:=zeB t p n
def zk4:Run:=rF3 (dS .slot) dI dI fun b c d=>(zkt b c d,[aI (ze9 b c d),aB (zfa b c d)])
def zAu (N:Nat)(c:lS)(d a:Int):OA:=
 let b:=(zey c d); (oN (zfR c d) (cond (ieq b.Page (-1)) (some [(aI (-1)),(aB false)]) (oN (zbQ b.Rights a) (cond (nB (zcO b.Rights a)) (some [(aI (-1)),(aB false)]) (oN (zM a 1 3) (cond (nB (zk a 1 3)) (some [(aI (-1)),(aB false)]) (some [(aI b.Page),(aB true)])))))))
theorem zL6 (a:List Slot)(b c:Int)(d:zkt a b c=true):∃N,zAu N a b c=some [aI (ze9 a b c),aB (zfa a b c)]:=by
 refine⟨0,?_⟩;unfold zAu oN nB;conv=>zeta
 refine must rfl (br (fun _=>?_) (fun _=>must rfl (brN (fun _=>?_) (fun _=>must rfl (brN (fun _=>?_) (fun _=>?_))))));all_goals first|rfl|(simp only [*,ze9,zfa,zbZ,zeB,cT,cF]<;>rfl)|simp_all[Ty.cells,ze9,zfa,zbZ,zeB]
theorem zE7:vT 216 zk4:=kF3 zg5 zC zx zo (zq []) zL6
def zAL (N:Nat)(c:lS)(d b:Int):OA:=
 let a:=(zey c d); (oN (zfR c d) (cond (ieq a.Page (-1)) (some [(aI (-1)),(aB false)]) (oN (zbQ a.Rights b) (cond (nB (zcO a.Rights b)) (some [(aI (-1)),(aB false)]) (cond (ieq b 0) (some [(aI (-1)),(aB false)]) (some [(aI a.Page),(aB true)]))))))
theorem zMp (a:List Slot)(b c:Int)(d:zkt a b c=true):∃N,zAL N a b c=some [aI (ze9 a b c),aB (zfa a b c)]:=by
 have e:=@z0M (zbC a b).Rights c;refine⟨0,?_⟩;unfold zAL oN nB;conv=>zeta
 refine must rfl (br (fun _=>?_) (fun _=>must rfl (brN (fun _=>?_) (fun _=>br (fun _=>?_) (fun _=>?_)))));all_goals first|rfl|(simp only [*,ze9,zfa,zbZ,zeB,cT,cF]<;>rfl)|simp_all[Ty.cells,ze9,zfa,zbZ,zeB]
theorem zFp:vT 221 zk4:=kF3 zg5 zC zx zo (zq []) zMp
def z8Q:zZ:=[(211,zA4),(256,zwk),(221,zk4),(216,zk4),(226,zrm),(252,zrm),(319,zpf),(311,zpf),(192,zrk),(190,zrk),(297,zDV)]++z8P
theorem znN:zN z8Q:=zh zLf (zh zE8 (zh zFp (zh zE7 (zh zR2 (zh zRQ (zh zOq (zh zN4 (zh zRY (zh zRO (zh zOw zg5))))))))))
@[simp] abbrev zjA (m:List (List Int))(p c v:Int):Bool:=pc (SmM m)
@[simp] abbrev zkc (m:List (List Int))(p c v:Int):List (List Int):=zbO m p c v
def zyK:Run:=rF4 (dS (.sl .int)) dI dI dI fun b c d e=>(zjA b c d e,[aS (.sl .int) (zkc b c d e)])
def zCs (N:Nat)(c:lM)(a d e:Int):OA:=
 let b:=(zeX c); (oN (zgD c) (oN (ziE c a d) (cond (zqS c a d) (oN (zM e 0 99) (cond (zk e 0 99) (oN (inb a (ln b)) (oN (inb d (ln (ix b a []))) (share (up b a (up (ix b a []) d e)) (fun f=>(some [(aS (.sl .int) f)]))))) (some [(aS (.sl .int) b)]))) (some [(aS (.sl .int) b)]))))
theorem zPu (a:List (List Int))(b c d:Int)(e:zjA a b c d=true):∃N,zCs N a b c d=some [aS (.sl .int) (zkc a b c d)]:=by
 have g:=zO.1 e;have f:=(zzR a b c).1;refine⟨0,?_⟩;unfold zCs oN;conv=>zeta
 refine mu (must rfl (br (fun _=>must rfl (br (fun _=>mu (mu (shr ?_))) (fun _=>?_))) (fun _=>?_)));all_goals first|rfl|(simp only [*,zkc,zbO,cT,cF]<;>rfl)|simp_all[Ty.cells,zkc,zbO]
theorem zIH:vT 116 zyK:=kF4 znN zC zx zo (zq []) zPu
def zi3 (g:Guest):Bool:=bif canRun g then (cond g.Ctl.Open (ige (zee g.Pending) 0) false) else false
@[simp] abbrev zbR (g:Guest):Bool:=true
@[simp] abbrev zmz (g:Guest):Bool:=zi3 g
def zyJ:Run:=rF1 (dT .guest) fun b=>(zbR b,[aB (zmz b)])
def zCr (N:Nat)(a:Guest):OA:=
 (oN (zty a) (cond (zqK a) (cond a.Ctl.Open (oN (zc5 a.Pending) (some [(aB (ige (zn2 a.Pending) 0))])) oF) oF))
theorem zPt (a:Guest)(b:zbR a=true):∃N,zCr N a=some [aB (zmz a)]:=by refine⟨0,?_⟩;unfold zCr oN;refine must rfl (br (fun _=>br (fun _=>must rfl ?_) (fun _=>?_)) (fun _=>?_));all_goals first|rfl|(simp only [*,zmz,zi3,cT,cF]<;>rfl)|simp_all[Ty.cells,zmz,zi3]
theorem zIG:vT 346 zyJ:=kF1 znN zC zx zo (zq []) zPt
def zkO (p:Int):Int:=bif ilt (zee p) 0 then p else wsub .i64 p (zqa .i64 1 (zee p))
def zuC (p:Int):Int:=bif ilt (zee p) 0 then -1 else zee p
theorem z5v {p:Int}(h:ilt (zee p) 0=false):wcv .u64 (zee p)=zee p/\ile 0 (zee p)=true/\zNC .i64 p (zqa .i64 1 (zee p))=wsub .i64 p (zqa .i64 1 (zee p)):=by unfold zee at *;cases a:zdQ p;{rw [a]at h;cases h};{simp only [a,cT]at h ⊢;obtain⟨c,d⟩:=zgs.1 a;have r:=z4o (P:=fun x=>-1<=scan x/\scan x<=7/\(0<=scan x->wsub .i64 x (zqa .i64 1 (scan x))=zNC .i64 x (zqa .i64 1 (scan x)))) z7v c d;have b:0<=scan p:=(by unfold ilt at h;have:=jY h;omega);exact⟨z0c b (by omega),qI b,(r.2.2 b).symm⟩}
@[simp] abbrev zkU (p:Int):Int:=zkO p
@[simp] abbrev zkV (p:Int):Int:=zuC p
@[simp] abbrev zne (p:Int):Bool:=!ilt (zee p) 0
def zBl:Run:=rF1 dI fun b=>(zc5 b,[aI (zkU b),aI (zkV b),aB (zne b)])
def zGu (N:Nat)(a:Int):OA:=
 (oN (zc5 a) (cond (ilt (zn2 a) 0) (some [(aI a),(aI (-1)),(aB false)]) (oN (ile 0 (wcv .u64 (zn2 a))) (some [(aI (wsub .i64 a (zqa .i64 1 (wcv .u64 (zn2 a))))),(aI (zn2 a)),(aB true)]))))
theorem zSK (a:Int)(b:zc5 a=true):∃N,zGu N a=some [aI (zkU a),aI (zkV a),aB (zne a)]:=by have c:=@z5v a;refine⟨0,?_⟩;unfold zGu oN;refine must rfl (br (fun _=>?_) (fun _=>mu ?_));all_goals first|rfl|(simp only [*,zkU,zkV,zne,zkO,zuC,cT,cF]<;>rfl)|simp_all[Ty.cells,zkU,zkV,zne,zkO,zuC]
theorem zLA:vT 239 zBl:=kF1 znN zC zx zo (zq []) zSK
def saw (g:Guest)(n:Int):Guest:=bif ilt (ln g.Seen) 40 then {g with Seen:=ap g.Seen [n]} else g
@[simp] theorem zPS {g:Guest}(n:Int)(h:SmG g):SmG (saw g n):=by unfold saw;cases a:ilt (ln g.Seen) 40;{exact h};{have:=qE a;refine⟨h.1,h.2.1,h.2.2.1,?_⟩;simp[ln] at *;omega}
@[simp] abbrev zER (g:Guest)(n:Int):Bool:=pc (SmG g)
@[simp] abbrev zz8 (g:Guest)(n:Int):Guest:=saw g n
def zRA:Run:=rF2 (dT .guest) dI fun b c=>(zER b c,[aT .guest (zz8 b c)])
def zY8 (N:Nat)(a:Guest)(b:Int):OA:=
 (oN (zdL a) (cond (ilt (ln (zdi a).Seen) 40) (oN (few (ln (ap (zdi a).Seen [b]))) (some [(aT .guest ({ (zdi a) with Seen:=(ap (zdi a).Seen [b])}:Guest))])) (some [(aT .guest (zdi a))])))
theorem z4b (a:Guest)(b:Int)(c:zER a b=true):∃N,zY8 N a b=some [aT .guest (zz8 a b)]:=by have d:=zO.1 c;have e:a.Seen.length<=1048576:=d.2.2.2;refine⟨0,?_⟩;unfold zY8 oN;refine mu (br (fun _=>mu ?_) (fun _=>?_));all_goals first|rfl|(simp only [*,zz8,saw,cT,cF]<;>rfl)|simp_all[Ty.cells,zz8,saw]
theorem zXZ:vT 348 zRA:=kF2 znN zC zx zo (zq []) z4b
def stopped (g:Guest)(e:GExit):Guest:={g with Exit:=e}
@[simp] theorem zbcB {g:Guest}(e:GExit)(h:SmG g):SmG (stopped g e):=h
@[simp] abbrev zeF (g:Guest)(e:GExit):Bool:=pc (SmG g)
@[simp] abbrev zd1 (g:Guest)(e:GExit):Guest:=stopped g e
def zBk:Run:=rF2 (dT .guest) dE fun b c=>(zeF b c,[aT .guest (zd1 b c)])
def zGs (N:Nat)(a:Guest)(b:GExit):OA:=
 (oN (zdL a) (some [(aT .guest ({ (zdi a) with Exit:=b}:Guest))]))
theorem zSI (a:Guest)(b:GExit)(c:zeF a b=true):∃N,zGs N a b=some [aT .guest (zd1 a b)]:=by have d:=zO.1 c;refine⟨0,?_⟩;unfold zGs oN;refine mu ?_;first|rfl|(simp only [*,zd1,stopped,cT,cF]<;>rfl)|simp_all[Ty.cells,zd1,stopped]
theorem zLy:vT 181 zBk:=kF2 znN zC zx zo (zq []) zSI
def zcj (g:Guest):Guest:=bif ige g.Pc 12 then {g with Pc:=12} else {g with Pc:=zL .i64 g.Pc 1}
@[simp] theorem zl0 {g:Guest}(h:SmG g):SmG (zcj g):=by unfold zcj;cases ige g.Pc 12<;>exact h
@[simp] abbrev ze0 (g:Guest):Guest:=zcj g
def zrn:Run:=rF1 (dT .guest) fun b=>(zbr b,[aT .guest (ze0 b)])
def zQx (N:Nat)(a:Guest):OA:=
 (oN (zdL a) (cond (ige (zdi a).Pc 12) (some [(aT .guest ({ (zdi a) with Pc:=12}:Guest))]) (some [(aT .guest ({ (zdi a) with Pc:=(zL .i64 (zdi a).Pc 1)}:Guest))])))
theorem zYf (a:Guest)(b:zbr a=true):∃N,zQx N a=some [aT .guest (ze0 a)]:=by have c:=zO.1 b;refine⟨0,?_⟩;unfold zQx oN;refine mu (br (fun _=>?_) (fun _=>?_));all_goals first|rfl|(simp only [*,ze0,zcj,cT,cF]<;>rfl)|simp_all[Ty.cells,ze0,zcj]
theorem zR4:vT 180 zrn:=kF1 znN zC zx zo (zq []) zYf
def z8R:zZ:=[(116,zyK),(346,zyJ),(239,zBl),(348,zRA),(181,zBk),(180,zrn)]++z8Q
theorem zjT:zN z8R:=zh zIH (zh zIG (zh zLA (zh zXZ (zh zLy (zh zR4 znN)))))
def interrupted (g:Guest):Guest:=bif zi3 g then saw {g with Pending:=zkO g.Pending} (zL .i64 100 (zuC g.Pending)) else g
@[simp] theorem zZU {g:Guest}(h:SmG g):SmG (interrupted g):=by unfold interrupted;cases zi3 g;{exact h};{exact zPS (g:={g with Pending:=zkO g.Pending}) _ h}
@[simp] abbrev zkC (g:Guest):Guest:=interrupted g
def ztd:Run:=rF1 (dT .guest) fun b=>(zbr b,[aT .guest (zkC b)])
def zvz (N:Nat)(a:Guest):OA:=
 let c:=(zL .i64 100 (zkV a.Pending));let b:=({a with Pending:=(zkU a.Pending)}:Guest); (oN (zbR a) (cond (nB (zmz a)) (oN (zdL a) (some [(aT .guest (zdi a))])) (oN (zc5 a.Pending) (oN (zER b c) (some [(aT .guest (zz8 b c))])))))
theorem zFL (a:Guest)(b:zbr a=true):∃N,zvz N a=some [aT .guest (zkC a)]:=by
 have c:=zO.1 b;have d:_/\_/\_/\_:=c;refine⟨0,?_⟩;unfold zvz oN nB;conv=>zeta
 refine must rfl (brN (fun _=>mu ?_) (fun _=>must rfl (mu ?_)));all_goals first|rfl|(simp only [*,zkC,interrupted,cT,cF]<;>rfl)|simp_all[Ty.cells,zkC,interrupted]
theorem zBR:vT 341 ztd:=kF1 zjT zC zx zo (zq []) zFL
def zx9 (o:Int):Int:=bif ieq o 3 then 3 else (cond (ieq o 4) 4 (cond (ieq o 5) 5 (cond (ieq o 6) 6 (cond (ieq o 7) 7 2))))
def zbi (g:Guest):Int:=bif canRun g then (cond (zi3 g) 1 (zx9 (zcA g.Prog g.Pc).Op)) else 0
@[simp] abbrev zn3 (g:Guest):Int:=zbi g
def zDW:Run:=rF1 (dT .guest) fun b=>(zbR b,[aI (zn3 b)])
def zKn (N:Nat)(a:Guest):OA:=
 let b:=(zgn a.Prog a.Pc).Op; (oN (zty a) (cond (nB (zqK a)) (some [(aI 0)]) (oN (zbR a) (cond (zmz a) (some [(aI 1)]) (oN (zf9 a.Prog a.Pc) (cond (ieq b 3) (some [(aI 3)]) (cond (ieq b 4) (some [(aI 4)]) (cond (ieq b 5) (some [(aI 5)]) (cond (ieq b 6) (some [(aI 6)]) (cond (ieq b 7) (some [(aI 7)]) (some [(aI 2)])))))))))))
theorem zVJ (a:Guest)(b:zbR a=true):∃N,zKn N a=some [aI (zn3 a)]:=by
 refine⟨0,?_⟩;unfold zKn oN nB;conv=>zeta
 refine must rfl (brN (fun _=>?_) (fun _=>must rfl (br (fun _=>?_) (fun _=>must rfl (br (fun _=>?_) (fun _=>br (fun _=>?_) (fun _=>br (fun _=>?_) (fun _=>br (fun _=>?_) (fun _=>br (fun _=>?_) (fun _=>?_))))))))));all_goals first|rfl|(simp only [*,zn3,zbi,zx9,cT,cF]<;>rfl)|simp_all[Ty.cells,zn3,zbi,zx9]
theorem zcp:vT 340 zDW:=kF1 zjT zC zx zo (zq []) zVJ
def held (g:Guest):Guest:=zcj {g with Halted:=true}
@[simp] theorem zWO {g:Guest}(h:SmG g):SmG (held g):=zl0 (g:={g with Halted:=true}) h
@[simp] abbrev zyR (g:Guest):Guest:=held g
def zMP:Run:=rF1 (dT .guest) fun b=>(zbr b,[aT .guest (zyR b)])
def zTN (N:Nat)(b:Guest):OA:=
 let a:=({b with Halted:=true}:Guest); (oN (zbr a) (some [(aT .guest (ze0 a))]))
theorem z1l (a:Guest)(b:zbr a=true):∃N,zTN N a=some [aT .guest (zyR a)]:=by
 have c:=zO.1 b;have d:_/\_/\_/\_:=c;refine⟨0,?_⟩;unfold zTN oN;conv=>zeta
 refine mu ?_;first|rfl|(simp only [*,zyR,held,cT,cF]<;>rfl)|simp_all[Ty.cells,zyR,held]
theorem zUV:vT 184 zMP:=kF1 zjT zC zx zo (zq []) z1l
def zKj (N:Nat)(a:Guest):OA:=
 (oN (zbr a) (some [(aT .guest (ze0 a))]))
theorem zVF (a:Guest)(b:zbr a=true):∃N,zKj N a=some [aT .guest (ze0 a)]:=by have c:=zO.1 b;refine⟨0,?_⟩;unfold zKj oN;refine mu ?_;first|rfl|(simp only [*,ze0,cT,cF]<;>rfl)|simp_all[Ty.cells,ze0]
theorem zOu:vT 351 zrn:=kF1 zjT zC zx zo (zq []) zVF
def loaded (g:Guest)(v:Int):Guest:=zcj (saw {g with A:=v} v)
@[simp] theorem zM8 {g:Guest}(v:Int)(h:SmG g):SmG (loaded g v):=zl0 (zPS (g:={g with A:=v}) v h)
@[simp] abbrev zz4 (g:Guest)(v:Int):Bool:=pc (SmG g)
@[simp] abbrev zu8 (g:Guest)(v:Int):Guest:=loaded g v
def zDP:Run:=rF2 (dT .guest) dI fun b c=>(zz4 b c,[aT .guest (zu8 b c)])
def zJ6 (N:Nat)(c:Guest)(a:Int):OA:=
 let b:=({c with A:=a}:Guest); (oN (zER b a) (oN (zbr (zz8 b a)) (some [(aT .guest (ze0 (zz8 b a)))])))
theorem zVs (b:Guest)(a:Int)(d:zz4 b a=true):∃N,zJ6 N b a=some [aT .guest (zu8 b a)]:=by
 have c:=zO.1 d;have f:_/\_/\_/\_:=c;have e:SmG (saw {b with A:=a} a):=zPS (g:={b with A:=a}) a c;refine⟨0,?_⟩;unfold zJ6 oN;conv=>zeta
 refine mu (mu ?_);first|rfl|(simp only [*,zu8,loaded,cT,cF]<;>rfl)|simp_all[Ty.cells,zu8,loaded]
theorem zOi:vT 352 zDP:=kF2 zjT zC zx zo (zq []) zVs
def zZ9 (g:Guest)(w:Int):Guest:=bif ieq w 5 then stopped g (zya (zcA g.Prog g.Pc).X) else stopped g ⟨4,0,false,0⟩
@[simp] theorem zbcC {g:Guest}(w:Int)(h:SmG g):SmG (zZ9 g w):=by unfold zZ9;cases ieq w 5<;>exact h
def zd3 (g:Guest):Bool:=zds g.Prog&&(zk g.A 0 99&&(zk g.Pc 0 12&&(zdc g.Written 4 8&&(zdc g.Live 4 8&&(zl9 g.Ctl&&(zdQ g.Pending&&(zit g.Exit&&ile (ln g.Seen) 40)))))))
@[simp] abbrev ziB (g:Guest):Bool:=zd3 g
def znx:Run:=rF1 (dT .guest) fun b=>(zbR b,[aB (ziB b)])
def zGb (N:Nat)(a:Guest):OA:=
 (oN (ztF a.Prog) (cond (zha a.Prog) (oN (zM a.A 0 99) (cond (zk a.A 0 99) (oN (zM a.Pc 0 12) (cond (zk a.Pc 0 12) (oN (ziV a.Written 4 8) (cond (zez a.Written 4 8) (oN (ziV a.Live 4 8) (cond (zez a.Live 4 8) (oN (zf7 a.Ctl) (cond (zqM a.Ctl) (oN (zc5 a.Pending) (cond (zfk a.Pending) (oN (ztz a.Exit) (cond (zlN a.Exit) (some [(aB (ile (ln a.Seen) 40))]) oF)) oF)) oF)) oF)) oF)) oF)) oF)) oF))
theorem zAS (a:Guest)(b:zbU big [aT .guest a])(c:zbR a=true):∃N,zGb N a=some [aB (ziB a)]:=by refine⟨0,?_⟩;unfold zGb oN;refine must rfl (br (fun _=>must rfl (br (fun _=>must rfl (br (fun _=>must rfl (br (fun _=>must rfl (br (fun _=>must rfl (br (fun _=>must rfl (br (fun _=>must rfl (br (fun _=>?_) (fun _=>?_))) (fun _=>?_))) (fun _=>?_))) (fun _=>?_))) (fun _=>?_))) (fun _=>?_))) (fun _=>?_))) (fun _=>?_));all_goals first|rfl|(simp only [*,ziB,zd3,cT,cF]<;>rfl)|simp_all[Ty.cells,ziB,zd3]
theorem zLj:vT 289 znx:=hF1 zjT zC zx zo (zq []) zAS
theorem zLb:vT 272 znx:=hF1 zjT zC zx zo (zq []) zAS
@[simp] abbrev zmh (l:List Guest):Bool:=pc (zlg l)
@[simp] abbrev zlu (l:List Guest):List Guest:=l
def zuO:Run:=rF1 (dS .guest) fun b=>(zmh b,[aS .guest (zlu b)])
def zxx (N:Nat)(c:lG):OA:=
 (iter (σ:=(Int×(Int×(lG×(lG×Unit))))) N (fun d a=>let b:=(ix a.2.2.2.1 a.2.1 zG); (cond (ilt a.2.1 a.1) (oN (inb a.2.1 (ln a.2.2.2.1)) (oN (zbr b) (oN (few (ln (ap a.2.2.1 [(zgw b)]))) (d (a.1,((zL .i64 a.2.1 1),((ap a.2.2.1 [(zgw b)]),(a.2.2.2.1,())))))))) (some [(aS .guest a.2.2.1)]))) ((ln c),(0,([],(c,())))))
def zJB:FuncId->Nat->Option Tmpl:=zq [(162,0,{n:=20,tm:=[(3,.sl 0 []),(7,.sl 1 []),(8,ti),(9,ti)],lo:=[],ro:=[(0,.guest,true),(1,.guest,false)]})]
theorem zIX (a:List Guest)(g:zmh a=true):∃N,zxx N a=some [aS .guest (zlu a)]:=by
 have f:=zO.1 g;have e:=zcv f.1;refine zb6 fun N d=>?_;unfold zxx oN;conv=>zeta
 refine(zbk a (fun i (t:lG)=>((ln a),(i:Int),t,a,())) _ (fun _ x b j=>bif zbr x then (cond (few (ln (ap b [zgw x]))) (j (ap b [zgw x])) none) else none) (fun (t:lG)=>(some [(.one (.s .guest t))])) (fun i c t rec=>?_) (fun t rec=>?_) _ ([]) (d e.1)).trans ?_;{simp only [zbn c,zT c,zbd c,zY c e.1,cT]};{simp only [zbh,cF]};exact zjQ zbr zgw _ a 0 [] (fun x h=>⟨by exact zbm (f.2 x h),rfl⟩) (by simpa using e.2)
theorem zC1:vT 162 zuO:=kF1 zjT zC zx zo zJB zIX
def gAt (b:Bare)(i:Int):Guest:=bif hasB i (ln b.Guests) then ix b.Guests i zG else Ty.dflt .guest
@[simp] theorem zkK {b:Bare}(i:Int)(h:SmB b):SmG (gAt b i):=by unfold gAt;cases a:hasB i (ln b.Guests);{exact zbc3};{exact z5g h.2.1 a _}
def z8S:zZ:=[(341,ztd),(340,zDW),(184,zMP),(351,zrn),(352,zDP),(289,znx),(272,znx),(162,zuO)]++z8R
theorem zqn:zN z8S:=zh zBR (zh zcp (zh zUV (zh zOu (zh zOi (zh zLj (zh zLb (zh zC1 zjT)))))))
def plainly (g:Guest):Guest:=bif ine (zbi g) 2 then g else (cond (zk g.A 0 99) (cond (zk (zcA g.Prog g.Pc).X 0 99) (cond (ieq (zcA g.Prog g.Pc).Op 1) {zcj g with A:=(zcA g.Prog g.Pc).X} (cond (ieq (zcA g.Prog g.Pc).Op 2) {zcj g with A:=zp9 (zL .i64 g.A (zcA g.Prog g.Pc).X) 100} (cond (ieq (zcA g.Prog g.Pc).Op 8) (cond (ieq g.A 0) {zcj g with Pc:=(zcA g.Prog g.Pc).X} (zcj g)) (zcj g)))) (zcj g)) (zcj g))
@[simp] theorem zbcW (g:Guest):(zcj g).Prog=g.Prog:=by unfold zcj;cases ige g.Pc 12<;>rfl
@[simp] theorem zbdu (g:Guest):(zcj g).A=g.A:=by unfold zcj;cases ige g.Pc 12<;>rfl
@[simp] theorem zbbx (g:Guest):(zcj g).Written=g.Written:=by unfold zcj;cases ige g.Pc 12<;>rfl
@[simp] theorem zbcV (g:Guest):(zcj g).Live=g.Live:=by unfold zcj;cases ige g.Pc 12<;>rfl
@[simp] theorem zbdd (g:Guest):(zcj g).Ctl=g.Ctl:=by unfold zcj;cases ige g.Pc 12<;>rfl
@[simp] theorem zbbw (g:Guest):(zcj g).Pending=g.Pending:=by unfold zcj;cases ige g.Pc 12<;>rfl
@[simp] theorem zbcU (g:Guest):(zcj g).Exit=g.Exit:=by unfold zcj;cases ige g.Pc 12<;>rfl
@[simp] theorem zbci (g:Guest):(zcj g).Halted=g.Halted:=by unfold zcj;cases ige g.Pc 12<;>rfl
@[simp] theorem zbcX (g:Guest):(zcj g).Seen=g.Seen:=by unfold zcj;cases ige g.Pc 12<;>rfl
@[simp] theorem zbde (g:Guest)(x:Int):(zcj {g with A:=x}).Pc=(zcj g).Pc:=by unfold zcj;cases ige g.Pc 12<;>rfl
@[simp] theorem zHs {g:Guest}(h:SmG g):SmG (plainly g):=by have a:=zl0 h;unfold plainly;cases ine (zbi g) 2;{cases zk g.A 0 99;{exact a};{cases zk (zcA g.Prog g.Pc).X 0 99;{exact a};{cases ieq (zcA g.Prog g.Pc).Op 1;{cases ieq (zcA g.Prog g.Pc).Op 2;{cases ieq (zcA g.Prog g.Pc).Op 8;{exact a};{cases ieq g.A 0<;>exact a}};{exact a}};{exact a}}}};{exact h}
@[simp] abbrev zso (g:Guest):Guest:=plainly g
def zBi:Run:=rF1 (dT .guest) fun b=>(zbr b,[aT .guest (zso b)])
def zGp (N:Nat)(a:Guest):OA:=
 let i:=(ieq a.A 0);let c:=(zbr a);let b:=(aT .guest (ze0 a));let d:=(zgn a.Prog a.Pc);let j:=({a with A:=d.X}:Guest);let h:=(ieq d.Op 8);let e:=(zk d.X 0 99);let g:=(aT .guest ({ (zdi a) with Pc:=d.X}:Guest));let f:=({a with A:=(zp9 (zL .i64 a.A d.X) 100)}:Guest); (oN (zbR a) (cond (ine (zn3 a) 2) (oN (zdL a) (some [(aT .guest (zdi a))])) (oN (zf9 a.Prog a.Pc) (oN (zM a.A 0 99) (cond (zk a.A 0 99) (oN (zM d.X 0 99) (cond e (cond (ieq d.Op 1) (oN (zbr j) (some [(aT .guest (ze0 j))])) (cond e (cond (ieq d.Op 2) (oN (ine 100 0) (oN (zbr f) (some [(aT .guest (ze0 f))]))) (cond e (cond h (cond i (oN (zdL a) (some [g])) (oN c (some [b]))) (oN c (some [b]))) (oN c (some [b])))) (cond e (cond h (cond i (oN (zdL a) (some [g])) (oN c (some [b]))) (oN c (some [b]))) (oN c (some [b]))))) (cond e (cond (ieq d.Op 2) (oN (ine 100 0) (oN (zbr f) (some [(aT .guest (ze0 f))]))) (cond e (cond h (cond i (oN (zdL a) (some [g])) (oN c (some [b]))) (oN c (some [b]))) (oN c (some [b])))) (cond e (cond h (cond i (oN (zdL a) (some [g])) (oN c (some [b]))) (oN c (some [b]))) (oN c (some [b])))))) (oN c (some [b])))))))
theorem zSF (a:Guest)(b:zbr a=true):∃N,zGp N a=some [aT .guest (zso a)]:=by
 have c:=zO.1 b;have d:_/\_/\_/\_:=c;refine⟨0,?_⟩;unfold zGp oN;conv=>zeta
 refine must rfl (br (fun _=>mu ?_) (fun _=>must rfl (must rfl (br (fun _=>must rfl (br (fun _=>br (fun _=>mu ?_) (fun _=>br (fun _=>br (fun _=>must rfl (mu ?_)) (fun _=>br (fun _=>br (fun _=>br (fun _=>mu ?_) (fun _=>mu ?_)) (fun _=>mu ?_)) (fun _=>mu ?_))) (fun _=>br (fun _=>br (fun _=>br (fun _=>mu ?_) (fun _=>mu ?_)) (fun _=>mu ?_)) (fun _=>mu ?_)))) (fun _=>br (fun _=>br (fun _=>must rfl (mu ?_)) (fun _=>br (fun _=>br (fun _=>br (fun _=>mu ?_) (fun _=>mu ?_)) (fun _=>mu ?_)) (fun _=>mu ?_))) (fun _=>br (fun _=>br (fun _=>br (fun _=>mu ?_) (fun _=>mu ?_)) (fun _=>mu ?_)) (fun _=>mu ?_))))) (fun _=>mu ?_)))));all_goals first|rfl|(simp only [*,zso,plainly,cT,cF]<;>rfl)|simp_all[Ty.cells,zso,plainly]
theorem zLv:vT 342 zBi:=kF1 zqn zC zx zo (zq []) zSF
def address (g:Guest):Int:=bif ine (zbi g) 3 then (cond (ine (zbi g) 4) (-1) ((zcA g.Prog g.Pc).X)) else (zcA g.Prog g.Pc).X
@[simp] abbrev zjM (g:Guest):Int:=address g
def zA7:Run:=rF1 (dT .guest) fun b=>(zbR b,[aI (zjM b)])
def zF6 (N:Nat)(a:Guest):OA:=
 (oN (zbR a) (cond (ine (zn3 a) 3) (cond (ine (zn3 a) 4) (some [(aI (-1))]) (oN (zf9 a.Prog a.Pc) (some [(aI (zgn a.Prog a.Pc).X)]))) (oN (zf9 a.Prog a.Pc) (some [(aI (zgn a.Prog a.Pc).X)]))))
theorem zSm (a:Guest)(b:zbR a=true):∃N,zF6 N a=some [aI (zjM a)]:=by refine⟨0,?_⟩;unfold zF6 oN;refine must rfl (br (fun _=>br (fun _=>?_) (fun _=>must rfl ?_)) (fun _=>must rfl ?_));all_goals first|rfl|(simp only [*,zjM,address,cT,cF]<;>rfl)|simp_all[Ty.cells,zjM,address]
theorem zLi:vT 349 zA7:=kF1 zqn zC zx zo (zq []) zSm
def zkp (g:Guest)(t w:Int):Guest:=bif ieq w 6 then stopped g (zzi (zcA g.Prog g.Pc).X) else (cond (ieq w 5&&zhI t 1) (stopped g (zya (zcA g.Prog g.Pc).X)) (cond (ieq w 7&&zhI t 2) (stopped g ⟨4,0,false,0⟩) (cond (ieq w 7) (held g) (zcj g))))
def zle (t w:Int):Bool:=bif ieq w 6 then false else (cond (ieq w 5&&zhI t 1) false (cond (ieq w 7&&zhI t 2) false true))
@[simp] theorem zEe {g:Guest}(t w:Int)(h:SmG g):SmG (zkp g t w):=by unfold zkp;cases ieq w 6;{cases (ieq w 5&&zhI t 1);{cases (ieq w 7&&zhI t 2);{cases ieq w 7;{exact zl0 h};{exact zWO h}};{exact h}};{exact h}};{exact h}
@[simp] abbrev zej (g:Guest)(t w:Int):Bool:=pc (SmG g)
@[simp] abbrev zcn (g:Guest)(t w:Int):Guest:=zkp g t w
@[simp] abbrev zdM (g:Guest)(t w:Int):Bool:=zle t w
def zBq:Run:=rF3 (dT .guest) dI dI fun b c d=>(zej b c d,[aT .guest (zcn b c d),aB (zdM b c d)])
def zGz (N:Nat)(a:Guest)(c b:Int):OA:=
 let g:=(aT .guest (ze0 a));let f:=(aT .guest (zyR a));let e:=(⟨4,0,false,0⟩:GExit);let d:=(zgn a.Prog a.Pc).X; (oN (zf9 a.Prog a.Pc) (cond (ieq b 6) (oN (zgR d) (oN (zeF a (zfO d)) (some [(aT .guest (zd1 a (zfO d))),(aB false)]))) (cond (ieq b 5) (oN (ziR c 1) (cond (ziC c 1) (oN (zgR d) (oN (zeF a (zgS d)) (some [(aT .guest (zd1 a (zgS d))),(aB false)]))) (cond (ieq b 7) (oN (ziR c 2) (cond (ziC c 2) (oN (zeF a e) (some [(aT .guest (zd1 a e)),(aB false)])) (cond (ieq b 7) (oN (zbr a) (some [f,(aB true)])) (oN (zbr a) (some [g,(aB true)]))))) (cond (ieq b 7) (oN (zbr a) (some [f,(aB true)])) (oN (zbr a) (some [g,(aB true)])))))) (cond (ieq b 7) (oN (ziR c 2) (cond (ziC c 2) (oN (zeF a e) (some [(aT .guest (zd1 a e)),(aB false)])) (cond (ieq b 7) (oN (zbr a) (some [f,(aB true)])) (oN (zbr a) (some [g,(aB true)]))))) (cond (ieq b 7) (oN (zbr a) (some [f,(aB true)])) (oN (zbr a) (some [g,(aB true)])))))))
theorem zSQ (a:Guest)(b c:Int)(d:zej a b c=true):∃N,zGz N a b c=some [aT .guest (zcn a b c),aB (zdM a b c)]:=by
 have e:=zO.1 d;refine⟨0,?_⟩;unfold zGz oN;conv=>zeta
 refine must rfl (br (fun _=>must rfl (mu ?_)) (fun _=>br (fun _=>must rfl (br (fun _=>must rfl (mu ?_)) (fun _=>br (fun _=>must rfl (br (fun _=>mu ?_) (fun _=>br (fun _=>mu ?_) (fun _=>mu ?_)))) (fun _=>br (fun _=>mu ?_) (fun _=>mu ?_))))) (fun _=>br (fun _=>must rfl (br (fun _=>mu ?_) (fun _=>br (fun _=>mu ?_) (fun _=>mu ?_)))) (fun _=>br (fun _=>mu ?_) (fun _=>mu ?_)))));all_goals first|rfl|(simp only [*,zcn,zdM,zkp,zle,cT,cF]<;>rfl)|simp_all[Ty.cells,zcn,zdM,zkp,zle]
theorem zLN:vT 354 zBq:=kF3 zqn zC zx zo (zq []) zSQ
def zcf (b:Bare):Bool:=bif b.Guests.all zd3 then (zix b.Memory 8&&(zk (ln b.Guests) 1 2&&(ile (ln b.Outs) 40&&zdQ b.Pending))) else false
@[simp] abbrev zps (b:Bare):Bool:=true
@[simp] abbrev zfj (b:Bare):Bool:=zcf b
def zDL:Run:=rF1 (dT .bare) fun b=>(zps b,[aB (zfj b)])
def zJX (N:Nat)(c:Bare):OA:=
 (iter (σ:=(Int×(Int×(lM×(lG×((List Int)×Unit)))))) N (fun d a=>let b:=a.2.2.2.1; (cond (ilt a.1 (ln b)) (oN (inb a.1 (ln b)) (oN (zbR (ix b a.1 zG)) (cond (nB (ziB (ix b a.1 zG))) oF (d ((zL .i64 a.1 1),(a.2.1,(a.2.2.1,(b,(a.2.2.2.2.1,()))))))))) (oN (zlP a.2.2.1 8) (cond (zgo a.2.2.1 8) (oN (zM (ln b) 1 2) (cond (zk (ln b) 1 2) (cond (ile (ln a.2.2.2.2.1) 40) (oN (zc5 a.2.1) (some [(aB (zfk a.2.1))])) oF) oF)) oF)))) (0,(c.Pending,(c.Memory,(c.Guests,(c.Outs,()))))))
def zXd:FuncId->Nat->Option Tmpl:=zq [(236,0,{n:=38,tm:=[(1,.lp 0 0),(3,ti)],lo:=[(0,[.sl 0 [],.sl 1 [],.sl 2 [],ti])],ro:=[(0,(.sl .int),false),(1,.guest,false),(2,.int,false)]})]
theorem zVj (a:Bare)(k:zbU big [aT .bare a])(m:zps a=true):∃N,zJX N a=some [aB (zfj a)]:=by
 have j:(_:List _).length<=big:=((zcF k).1 (.s .guest a.Guests) (by simp[AV.cvs,Ty.cells])).len;refine zb6 fun N h=>?_;unfold zJX oN nB;conv=>zeta
 refine(zbk a.Guests (fun i (t:Unit)=>((i:Int),a.Pending,a.Memory,a.Guests,a.Outs,())) _ (fun _ x (_:Unit) l=>bif (zd3) x then l () else oF) (fun (t:Unit)=>(cond (zlP a.Memory 8) (cond (zgo a.Memory 8) (cond (zM (ln a.Guests) 1 2) (cond (zk (ln a.Guests) 1 2) (cond (ile (ln a.Outs) 40) (cond (zc5 a.Pending) (some [(.one (.b (zfk a.Pending)))]) none) oF) oF) none) oF) none)) (fun i f t rec=>?_) (fun t rec=>?_) _ () (h j)).trans ?_;{simp only [zbn f,zT f,zbd f,zY f j,cT];exact zjP rfl};{simp only [zbh,cF]};rw[zgi (zd3)];refine br (fun c=>?_) (fun c=>?_);{refine must rfl ?_;refine br (fun d=>?_) (fun d=>?_);{refine must rfl ?_;refine br (fun e=>?_) (fun e=>?_);{refine br (fun g=>?_) (fun g=>?_);{refine must rfl ?_;first|rfl|(simp only [c,d,e,g,zfj,zcf,cT,cF]<;>rfl)|(simp_all [Ty.cells,zfj,zcf];done)};{first|rfl|(simp only [c,d,e,g,zfj,zcf,cT,cF]<;>rfl)|(simp_all [Ty.cells,zfj,zcf];done)}};{first|rfl|(simp only [c,d,e,zfj,zcf,cT,cF]<;>rfl)|(simp_all [Ty.cells,zfj,zcf];done)}};{first|rfl|(simp only [c,d,zfj,zcf,cT,cF]<;>rfl)|(simp_all [Ty.cells,zfj,zcf];done)}};{first|rfl|(simp only [c,zfj,zcf,cT,cF]<;>rfl)|(simp_all [Ty.cells,zfj,zcf];done)}
theorem zOa:vT 236 zDL:=hF1 zqn zC zx zo zXd zVj
@[simp] abbrev zdY (b:Bare):Bool:=pc (SmB b)
@[simp] abbrev zcw (b:Bare):Bare:=b
def zBp:Run:=rF1 (dT .bare) fun b=>(zdY b,[aT .bare (zcw b)])
def zGy (N:Nat)(a:Bare):OA:=
 (oN (zgD a.Memory) (oN (zgb a.Guests) (oN (few (ln (ap [] a.Outs))) (some [(aT .bare (⟨(zeX a.Memory),(zgG a.Guests),(ap [] a.Outs),a.Pending⟩:Bare))]))))
theorem zSP (a:Bare)(b:zdY a=true):∃N,zGy N a=some [aT .bare (zcw a)]:=by have c:=zO.1 b;have d:_/\_/\_:=c;refine⟨0,?_⟩;unfold zGy oN;refine mu (mu (mu ?_));first|rfl|(simp only [*,zcw,cT,cF]<;>rfl)|simp_all[Ty.cells,zcw]
theorem zLM:vT 169 zBp:=kF1 zqn zC zx zo (zq []) zSP
def z8T:zZ:=[(342,zBi),(349,zA7),(354,zBq),(236,zDL),(169,zBp)]++z8S
theorem z6o:zN z8T:=zh zLv (zh zLi (zh zLN (zh zOa (zh zLM zqn))))
def zeO (b:Bare)(i:Int)(x:Guest):Bare:={b with Guests:=up b.Guests i x}
def zo3 (b:Bare)(n:Int):Bare:=bif ilt (ln b.Outs) 40 then {b with Outs:=ap b.Outs [n]} else b
@[simp] theorem zn8 {b:Bare}{i:Int}{x:Guest}(h:SmB b)(a:SmG x):SmB (zeO b i x):=⟨h.1,zEW h.2.1 a,h.2.2⟩
@[simp] theorem z2l {b:Bare}{n:Int}(h:SmB b):SmB (zo3 b n):=by unfold zo3;cases a:ilt (ln b.Outs) 40;{exact h};{have:=qE a;refine⟨h.1,h.2.1,?_⟩;simp[ln] at *;omega}
@[simp] theorem zbdo (b:Bare)(n:Int):(zo3 b n).Guests=b.Guests:=by unfold zo3;cases ilt (ln b.Outs) 40<;>rfl
@[simp] theorem zAj {m:List (List Int)}{p c v:Int}(h:SmM m):SmM (zbO m p c v):=by unfold zbO;cases a:ziw m p c;{exact h};{cases b:zk v 0 99;{exact h};{exact zNa h (by simpa using zbct h ((zzR m p c).1 a).1 [])}}
def z0y:zZ:=z8T
theorem zuj:zN z0y:=z6o
def zov (b:Bare)(g:Int)(x:Guest)(w:Bool):Bare :=
 bif zeB x.Live (zbp (address x)) (zcg w) then
  (bif w then zeO {b with Memory:=zbO b.Memory (zbZ x.Live (zbp (address x)) (zcg w)) (zdu (address x)) x.A} g (zcj x)
  else zeO b g (loaded x (cellAt b.Memory (zbZ x.Live (zbp (address x)) (zcg w)) (zdu (address x)))))
 else zeO b g (stopped x (zr5 (zbp (address x)) w))
def zEX (b:Bare)(g:Int)(x:Guest)(w:Int):Bare :=
 zeO (cond (cond (zle x.Ctl.Traps w) (ieq w 5) false) (zo3 b (zcA x.Prog x.Pc).X) b) g (zkp x x.Ctl.Traps w)
def stepped (b:Bare)(g:Int)(x:Guest)(w:Int):Bare :=
 bif ieq w 1 then zeO b g (interrupted x) else (cond (ieq w 2) (zeO b g (plainly x)) (cond (ieq w 3) (zov b g x false) (cond (ieq w 4) (zov b g x true) (zEX b g x w))))
def zl7 (b:Bare)(g:Int):Bool:=bif hasB g (ln b.Guests) then (cond (zcf b) (!ieq (zbi (gAt b g)) 0) false) else false
def ziK (b:Bare)(g:Int):Bare:=bif zl7 b g then stepped b g (gAt b g) (zbi (gAt b g)) else b
@[simp] theorem zZT {b:Bare}{g:Int}{x:Guest}{w:Bool}(h:SmB b)(a:SmG x):SmB (zov b g x w):=by unfold zov;cases zeB x.Live (zbp (address x)) (zcg w);{exact zn8 h a};{cases w;{exact zn8 h (zM8 _ a)};{exact⟨zAj h.1,zEW h.2.1 (zl0 a),h.2.2⟩}}
@[simp] theorem zbbm {b:Bare}{g:Int}{x:Guest}{w:Int}(h:SmB b)(a:SmG x):SmB (zEX b g x w):=by unfold zEX;cases (cond (zle x.Ctl.Traps w) (ieq w 5) false);{exact zn8 h (zEe _ _ a)};{exact zn8 (z2l h) (zEe _ _ a)}
@[simp] theorem zYW {b:Bare}{g:Int}{x:Guest}{w:Int}(h:SmB b)(a:SmG x):SmB (stepped b g x w):=by unfold stepped;cases ieq w 1;{cases ieq w 2;{cases ieq w 3;{cases ieq w 4;{exact zbbm h a};{exact zZT h a}};{exact zZT h a}};{exact zn8 h (zHs a)}};{exact zn8 h (zZU a)}
@[simp] theorem zbdr {b:Bare}{g:Int}(h:SmB b):SmB (ziK b g):=by unfold ziK;cases zl7 b g;{exact h};{exact zYW h (zkK g h)}
theorem zbc8 (x:Guest):ieq (zbi x) 0=false->ieq (zbi x) 1=false->ieq (zbi x) 2=false->ieq (zbi x) 3=false->ieq (zbi x) 4=false->ieq (zbi x) 5=false->ieq (zbi x) 6=false->ieq (zbi x) 7=true:=by unfold zbi zx9;cases canRun x;{intro h;cases h};{cases zi3 x;{simp only [cT,cF];generalize (zcA x.Prog x.Pc).Op=o;cases ieq o 3<;>cases ieq o 4<;>cases ieq o 5<;>cases ieq o 6<;>cases ieq o 7<;>simp [ieq]};{intro _ h;cases h}}
def SmK (k:Kept):Prop:=k.Known.length<=1048576/\k.Slots.length<=1048576
def zCz (l:List Kept):Prop:=l.length<=1048576/\∀x∈l,SmK x
def zeT (m:Mon):Prop:=m.Outer.length<=1048576/\SmM m.Out/\m.Dirty.length<=1048576/\zlg m.Guests/\m.Outs.length<=1048576/\zCz m.Tables
def zoE (l:List Mon):Prop:=l.length<=1048576/\∀x∈l,zeT x
def SmH (h:Host):Prop:=SmM h.Memory/\zoE h.Mons/\h.Buffer.length<=1048576/\h.IoBuffer.length<=1048576
@[simp] theorem zxJ (k:Kept):(∀c∈Ty.cells .kept k,CVB sm c)↔SmK k:=by simp[Ty.cells,SmK,z7G]
@[simp] theorem z6w (l:List Kept):CVB sm (.s .kept l)↔zCz l:=by rw[zmb];simp only[zxJ];rfl
@[simp] theorem zZc (m:Mon):(∀c∈Ty.cells .mon m,CVB sm c)↔zeT m:=by simp only[Ty.cells,qG,qN,or_false,vO,forall_eq,zqo,zvJ,z6w,z0H,zXL,zXK,z9k,and_true,true_and];rfl
@[simp] theorem zbaC (l:List Mon):CVB sm (.s .mon l)↔zoE l:=by rw[zmb];simp only[zZc];rfl
@[simp] theorem zX (h:Host):zcY h↔SmH h:=by unfold zcY;simp only[zbq,qG,qN,or_false,vO,forall_eq,zqo,zbaC,zUw];rfl
theorem zby {p:Prop}(h:p):pc p=true:=zbm h
theorem ztZ {l:List Kept}{i:Int}{x:Kept}(h:zCz l)(b:SmK x):zCz (up l i x):=by refine⟨by simpa using h.1,fun y a=>?_⟩;rcases qT a with a|rfl;{exact h.2 y a};{exact b}
theorem ziH {l:List Mon}{i:Int}{x:Mon}(h:zoE l)(b:zeT x):zoE (up l i x):=by refine⟨by simpa using h.1,fun y a=>?_⟩;rcases qT a with a|rfl;{exact h.2 y a};{exact b}
theorem zod {a:Type}{l:List a}(h:l.length<=1048576):few (ln (ap [] l))=true:=by rw[zmU,zbaK];omega
@[simp] abbrev zV (h:Host):Bool:=pc (zcY h)
@[simp] abbrev zu (h:Host):Host:=h
def zkA:Run:=rF1 dH fun b=>(zV b,[aH (zu b)])
def zGA (N:Nat)(b:Host):OA:=
 (oN (zgD b.Memory) (oN (few (ln (ap [] b.Buffer))) (oN (few (ln (ap [] b.IoBuffer))) (iter (σ:=(Int×(lM×(lN×(lE×(lE×(lM×(lN×(lE×(lE×(lM×(lN×(lE×(lE×Unit)))))))))))))) N (fun f a=>let e:=a.2.2.2.2.2.2.2.2.2.2.2.2.1;let d:=(ix a.2.2.1 a.1 zi);let c:=(ap a.2.2.2.2.2.2.2.2.2.2.1 [(zn5 d)]); (cond (ilt a.1 (ln a.2.2.1)) (oN (inb a.1 (ln a.2.2.1)) (oN (zkg d) (oN (few (ln c)) (f ((zL .i64 a.1 1),(a.2.1,(a.2.2.1,(a.2.2.2.1,(a.2.2.2.2.1,(a.2.2.2.2.2.1,(a.2.2.2.2.2.2.1,(a.2.2.2.2.2.2.2.1,(a.2.2.2.2.2.2.2.2.1,(a.2.2.2.2.2.2.2.2.2.1,(c,(a.2.2.2.2.2.2.2.2.2.2.2.1,(e,()))))))))))))))))) (some [(aH (⟨a.2.2.2.2.2.2.2.2.2.1,a.2.2.2.2.2.2.2.2.2.2.1,a.2.2.2.2.2.2.2.2.2.2.2.1,e⟩:Host))]))) (0,(b.Memory,(b.Mons,(b.Buffer,(b.IoBuffer,([],([],([],([],((zeX b.Memory),([],((ap [] b.Buffer),((ap [] b.IoBuffer),())))))))))))))))))
def zTn:FuncId->Nat->Option Tmpl:=zq [(73,0,{n:=36,tm:=[(1,.lp 0 0),(2,.lp 1 0),(3,.lp 2 0),(4,ti)],lo:=[(0,[.sl 0 [],.sl 1 [],.sl 2 [],.sl 3 []]),(1,[.sl 4 [],.sl 5 [],.sl 6 [],.sl 7 []]),(2,[.sl 8 [],.sl 9 [],.sl 10 [],.sl 11 []])],ro:=[(0,(.sl .int),false),(1,.mon,false),(2,.entry,false),(3,.entry,false),(4,(.sl .int),true),(5,.mon,true),(6,.entry,true),(7,.entry,true),(8,(.sl .int),true),(9,.mon,true),(10,.entry,true),(11,.entry,true)]})]
theorem zSR (a:Host)(k:zV a=true):∃N,zGA N a=some [aH (zu a)]:=by
 obtain⟨g,f,h,j⟩:=(zX a).1 (zO.1 k);have e:=zcv f.1;refine zb6 fun N d=>?_;unfold zGA oN;conv=>zeta
 refine must (zby ((zqo _).2 g)) (must (zod h) (must (zod j) ?_));refine(zbk a.Mons (fun i (t:lN)=>((i:Int),a.Memory,a.Mons,a.Buffer,a.IoBuffer,[],[],[],[],(zeX a.Memory),t,(ap [] a.Buffer),(ap [] a.IoBuffer),())) _ (fun _ x b m=>bif zkg x then (cond (few (ln (ap b [zn5 x]))) (m (ap b [zn5 x])) none) else none) (fun (t:lN)=>(some [(.agg (zbq (⟨(zeX a.Memory),t,(ap [] a.Buffer),(ap [] a.IoBuffer)⟩:Host)))])) (fun i c t rec=>?_) (fun t rec=>?_) _ ([]) (d e.1)).trans ?_;{simp only [zbn c,zT c,zbd c,zY c e.1,cT]};{simp only [zbh,cF]};exact zjQ zkg zn5 _ a.Mons 0 [] (fun x l=>⟨zby ((zZc x).2 (f.2 x l)),rfl⟩) (by simpa using e.2)
theorem zv2:vT 73 zkA:=kF1 zuj zC zx zo zTn zSR
@[simp] abbrev zdC (k:Kept):Bool:=pc (SmK k)
@[simp] abbrev zcS (k:Kept):Kept:=k
def zyp:Run:=rF1 (dT .kept) fun b=>(zdC b,[aT .kept (zcS b)])
def zB2 (N:Nat)(a:Kept):OA:=
 (oN (few (ln (ap [] a.Known))) (oN (zg6 a.Slots) (some [(aT .kept (⟨(ap [] a.Known),(zfv a.Slots)⟩:Kept))])))
theorem zO0 (a:Kept)(b:zdC a=true):∃N,zB2 N a=some [aT .kept (zcS a)]:=by have c:=zO.1 b;obtain⟨f,g⟩:=c;have d:a.Known.length<=2147483648:=(by omega);have e:a.Slots.length<=2147483648:=(by omega);refine⟨0,?_⟩;unfold zB2 oN;refine mu (mu ?_);first|rfl|(simp only [*,zcS,cT,cF]<;>rfl)|simp_all[Ty.cells,zcS]
theorem zIg:vT 201 zyp:=kF1 zuj zC zx zo (zq []) zO0
def z8F:zZ:=[(73,zkA),(201,zyp)]++z0y
theorem zUj:zN z8F:=zh zv2 (zh zIg zuj)
@[simp] abbrev zkN (m:Mon):Bool:=pc (zeT m)
@[simp] abbrev zlv (m:Mon):Mon:=m
def zA5:Run:=rF1 (dT .mon) fun b=>(zkN b,[aT .mon (zlv b)])
def zF4 (N:Nat)(b:Mon):OA:=
 (oN (zg6 b.Outer) (oN (ziO b.Out) (oN (few (ln (ap [] b.Dirty))) (oN (zmh b.Guests) (oN (zeb b.Outs) (iter (σ:=(Int×(Int×(Int×(Int×(Int×(Int×(Int×(Int×(lK×(lK×(lS×(lM×(lB×(lG×((List Int)×(lS×(lM×(lB×(lG×((List Int)×(lK×Unit)))))))))))))))))))))) N (fun i a=>let h:=a.2.2.2.2.2.2.2.2.2.2.2.2.1;let g:=a.2.2.2.2.2.2.2.2.2.2.2.2.2.1;let f:=a.2.2.2.2.2.2.2.2.2.2.2.2.2.2.1;let e:=a.2.2.2.2.2.2.2.2.1;let d:=a.2.2.2.2.2.2.2.2.2.1;let c:=(ix d a.2.1 zcN); (cond (ilt a.2.1 a.1) (oN (inb a.2.1 (ln d)) (oN (zdC c) (oN (few (ln (ap e [(zcS c)]))) (i (a.1,((zL .i64 a.2.1 1),(a.2.2.1,(a.2.2.2.1,(a.2.2.2.2.1,(a.2.2.2.2.2.1,(a.2.2.2.2.2.2.1,(a.2.2.2.2.2.2.2.1,((ap e [(zcS c)]),(d,(a.2.2.2.2.2.2.2.2.2.2.1,(a.2.2.2.2.2.2.2.2.2.2.2.1,(h,(g,(f,(a.2.2.2.2.2.2.2.2.2.2.2.2.2.2.2.1,(a.2.2.2.2.2.2.2.2.2.2.2.2.2.2.2.2.1,(a.2.2.2.2.2.2.2.2.2.2.2.2.2.2.2.2.2.1,(a.2.2.2.2.2.2.2.2.2.2.2.2.2.2.2.2.2.2.1,(a.2.2.2.2.2.2.2.2.2.2.2.2.2.2.2.2.2.2.2.1,(a.2.2.2.2.2.2.2.2.2.2.2.2.2.2.2.2.2.2.2.2.1,()))))))))))))))))))))))))) (some [(aT .mon (⟨a.2.2.2.2.2.2.2.2.2.2.1,a.2.2.2.2.2.2.2.2.2.2.2.1,h,g,f,a.2.2.1,a.2.2.2.1,e,a.2.2.2.2.1⟩:Mon))]))) ((ln b.Tables),(0,(b.Pending,(b.Traps,(b.Own,(0,(0,(0,([],(b.Tables,((zfv b.Outer),((zf5 b.Out),((ap [] b.Dirty),((zlu b.Guests),((zd6 b.Outs),([],([],([],([],([],([],())))))))))))))))))))))))))))
def zTd:FuncId->Nat->Option Tmpl:=zq [(225,0,{n:=44,tm:=[(1,.lp 0 0),(2,.lp 1 0),(3,.sl 0 []),(29,.sl 1 []),(30,ti),(31,ti)],lo:=[(0,[.sl 2 [],.sl 3 [],.sl 4 [],.sl 5 [],.sl 6 [],ti,ti,.sl 1 [],ti]),(1,[.sl 7 [],.sl 8 [],.sl 9 [],.sl 10 [],.sl 11 [],ti,ti,.sl 12 [],ti])],ro:=[(0,.kept,true),(1,.kept,false),(2,.slot,true),(3,(.sl .int),true),(4,.bool,true),(5,.guest,true),(6,.int,true),(7,.slot,true),(8,(.sl .int),true),(9,.bool,true),(10,.guest,true),(11,.int,true),(12,.kept,true)]})]
theorem zSk (a:Mon)(p:zkN a=true):∃N,zF4 N a=some [aT .mon (zlv a)]:=by
 obtain⟨s,l,m,n,u,f⟩:=zO.1 p;have e:=zcv f.1;refine zb6 fun N d=>?_;unfold zF4 oN;conv=>zeta
 have g:zg6 a.Outer=true:=(by simp;omega);have h:ziO a.Out=true:=(by simp;exact l);have j:zmh a.Guests=true:=(by simp;exact n);have k:zeb a.Outs=true:=(by simp;omega);refine must g (must h (must (zod m) (must j (must k ?_))));refine(zbk a.Tables (fun i (t:lK)=>((ln a.Tables),(i:Int),a.Pending,a.Traps,a.Own,0,0,0,t,a.Tables,(zfv a.Outer),(zf5 a.Out),(ap [] a.Dirty),(zlu a.Guests),(zd6 a.Outs),[],[],[],[],[],[],())) _ (fun _ x b r=>bif zdC x then (cond (few (ln (ap b [zcS x]))) (r (ap b [zcS x])) none) else none) (fun (t:lK)=>(some [(.agg (Ty.cells .mon (⟨(zfv a.Outer),(zf5 a.Out),(ap [] a.Dirty),(zlu a.Guests),(zd6 a.Outs),a.Pending,a.Traps,t,a.Own⟩:Mon)))])) (fun i c t rec=>?_) (fun t rec=>?_) _ ([]) (d e.1)).trans ?_;{simp only [zbn c,zT c,zbd c,zY c e.1,cT]};{simp only [zbh,cF]};exact zjQ zdC zcS _ a.Tables 0 [] (fun x q=>⟨zby (f.2 x q),rfl⟩) (by simpa using e.2)
theorem zLg:vT 225 zA5:=kF1 zUj zC zx zo zTd zSk
def z8G:zZ:=[(225,zA5)]++z8F
theorem zzn:zN z8G:=zh zLg zUj
def zB0 (N:Nat)(b:Host):OA:=
 (oN (ziO b.Memory) (oN (few (ln (ap [] b.Buffer))) (oN (few (ln (ap [] b.IoBuffer))) (iter (σ:=(Int×(Int×(lN×(lM×(lN×(lE×(lE×(lM×(lN×(lE×(lE×Unit)))))))))))) N (fun e a=>let d:=(ix a.2.2.1 a.2.1 zi);let c:=(ap a.2.2.2.2.2.2.2.2.1 [(zlv d)]); (cond (ilt a.2.1 a.1) (oN (inb a.2.1 (ln a.2.2.1)) (oN (zkN d) (oN (few (ln c)) (e (a.1,((zL .i64 a.2.1 1),(a.2.2.1,(a.2.2.2.1,(a.2.2.2.2.1,(a.2.2.2.2.2.1,(a.2.2.2.2.2.2.1,(a.2.2.2.2.2.2.2.1,(c,(a.2.2.2.2.2.2.2.2.2.1,(a.2.2.2.2.2.2.2.2.2.2.1,()))))))))))))))) (some [(aH (⟨a.2.2.2.2.2.2.2.1,a.2.2.2.2.2.2.2.2.1,a.2.2.2.2.2.2.2.2.2.1,a.2.2.2.2.2.2.2.2.2.2.1⟩:Host))]))) ((ln b.Mons),(0,(b.Mons,([],([],([],([],((zf5 b.Memory),([],((ap [] b.Buffer),((ap [] b.IoBuffer),())))))))))))))))
def zPY:FuncId->Nat->Option Tmpl:=zq [(123,0,{n:=34,tm:=[(2,.lp 0 0),(3,.lp 1 0),(19,.sl 0 []),(20,ti),(21,ti)],lo:=[(0,[.sl 1 [],.sl 2 [],.sl 3 [],.sl 4 []]),(1,[.sl 5 [],.sl 6 [],.sl 7 [],.sl 8 []])],ro:=[(0,.mon,false),(1,(.sl .int),true),(2,.mon,true),(3,.entry,true),(4,.entry,true),(5,(.sl .int),true),(6,.mon,true),(7,.entry,true),(8,.entry,true)]})]
theorem zOY (a:Host)(l:zV a=true):∃N,zB0 N a=some [aH (zu a)]:=by
 obtain⟨h,f,j,k⟩:=(zX a).1 (zO.1 l);have e:=zcv f.1;refine zb6 fun N d=>?_;unfold zB0 oN;conv=>zeta
 have g:ziO a.Memory=true:=(by simp;exact h);refine must g (must (zod j) (must (zod k) ?_));refine(zbk a.Mons (fun i (t:lN)=>((ln a.Mons),(i:Int),a.Mons,[],[],[],[],(zf5 a.Memory),t,(ap [] a.Buffer),(ap [] a.IoBuffer),())) _ (fun _ x b n=>bif zkN x then (cond (few (ln (ap b [zlv x]))) (n (ap b [zlv x])) none) else none) (fun (t:lN)=>(some [(.agg (zbq (⟨(zf5 a.Memory),t,(ap [] a.Buffer),(ap [] a.IoBuffer)⟩:Host)))])) (fun i c t rec=>?_) (fun t rec=>?_) _ ([]) (d e.1)).trans ?_;{simp only [zbn c,zT c,zbd c,zY c e.1,cT]};{simp only [zbh,cF]};exact zjQ zkN zlv _ a.Mons 0 [] (fun x m=>⟨zby (f.2 x m),rfl⟩) (by simpa using e.2)
theorem zIe:vT 123 zkA:=kF1 zzn zC zx zo zPY zOY
def allI {a:Type}(p:Nat->a->Bool):List a->Nat->Bool
 |[],_=>true
 |x::l,i=>p i x&&allI p l (i+1)
theorem zH6 {a b:Type}(p:Nat->a->Bool)(r:Option b)(K:Unit->Option b):∀(l:List a) (i:Nat),goL (fun i x (_:Unit) k=>bif p i x then k () else r) K l i ()=bif allI p l i then K () else r
 |[],_=>rfl
 |x::l,i=>by simp only[goL,allI];cases p i x;{rfl};{simp only [cT,uK];exact zH6 p r K l (i+1)}
theorem zQE {a:Type}(q:a->Bool)(l:List a)(d:a):∀(n i:Nat),i+n<=l.length->zmL (fun j=>q (ix l (j:Int) d)) n i=((l.drop i).take n).all q
 | 0,i,_=>by simp[zmL]
 |n+1,i,h=>by have b:i<l.length:=(by omega);rw[jW b,List.take_succ_cons,k5,<- zQE q l d n (i+1) (by omega)];simp only[zmL,zbd b]
def sameKey (a b:Entry):Bool:=bif ieq a.Tag b.Tag then ieq a.Page b.Page else false
def alone (l:List Entry)(i:Nat)(x:Entry):Bool:=(l.take i).all fun y=>!sameKey x y
def zfE (l:List Entry):Bool:=bif allI (alone l) l 0 then ile (ln l) 6 else false
theorem z6K {a:Type}{l:List a}{i:Nat}(h:i<=l.length):inr 0 (i:Int) (ln l)=true:=qI (by simp only[ln];omega)
@[simp] abbrev zhT (l:List Entry):Bool:=true
@[simp] abbrev zhf (l:List Entry):Bool:=zfE l
def zmp:Run:=rF1 (dS .entry) fun b=>(zhT b,[aB (zhf b)])
def zBW (N:Nat)(g:lE):OA:=
 (iter (σ:=(Int×(Int×(lE×Unit)))) N (fun i b=>let c:=b.2.2.1;let e:=(ix c b.2.1 zer); (cond (ilt b.2.1 b.1) (oN (inb b.2.1 (ln c)) (oN (inr 0 b.2.1 (ln c)) (iter (σ:=(Int×(Int×(Int×(Int×(Int×(Int×(Int×(Int×(lE×(lE×Unit))))))))))) N (fun j a=>let d:=a.2.2.2.1;let f:=a.2.2.2.2.2.2.2.2.2.1;let h:=(j (a.1,(a.2.1,(a.2.2.1,((zL .i64 d 1),(a.2.2.2.2.1,(a.2.2.2.2.2.1,(a.2.2.2.2.2.2.1,(a.2.2.2.2.2.2.2.1,(a.2.2.2.2.2.2.2.2.1,(f,()))))))))))); (cond (ilt d a.2.2.1) (oN (inb d (ln f)) (cond (ieq a.2.2.2.2.1 (ix f d zer).Tag) (cond (ieq a.2.2.2.2.2.1 (ix f d zer).Page) oF h) h)) (i (a.1,((zL .i64 a.2.1 1),(a.2.2.2.2.2.2.2.2.1,())))))) (b.1,(b.2.1,((ln (tk c b.2.1)),(0,(e.Tag,(e.Page,(e.Host,(e.Rights,(c,((tk c b.2.1),()))))))))))))) (some [(aB (ile (ln c) 6))]))) ((ln g),(0,(g,()))))
def zPX:FuncId->Nat->Option Tmpl:=zq [(253,0,{n:=39,tm:=[(0,.sl 0 []),(7,.sl 0 []),(8,ti),(9,ti)],lo:=[],ro:=[(0,.entry,false)]}),(253,2,{n:=39,tm:=[(0,.sl 0 []),(4,.lp 0 0),(7,.sl 0 []),(8,ti),(9,ti),(16,.sl 1 []),(17,ti),(18,ti)],lo:=[(0,[ti,ti,ti,ti])],ro:=[(0,.entry,false),(1,.entry,false)]})]
theorem zOU (a:List Entry)(l:zbU big [aS .entry a])(m:zhT a=true):∃N,zBW N a=some [aB (zhf a)]:=by
 have e:=(len0 l);refine zb6 fun N d=>?_;unfold zBW oN;conv=>zeta
 refine(zbk a (fun i (t:Unit)=>((ln a),(i:Int),a,())) _ (fun i (x:Entry) (_:Unit) h=>bif alone a i x then h () else oF) (fun (t:Unit)=>(some [(.one (.b (ile (ln a) 6)))])) (fun i c t rec=>?_) (fun t rec=>?_) _ () (d e)).trans ?_;{simp only [zbn c,zT c,zbd c,zY c e,cT];rw[z6K (Nat.le_of_lt c),cT];have k:(tk a (i:Int)).length<=big:=qV (by simp[tk];omega) e;refine(zbk (tk a (i:Int)) (fun j (u:Unit)=>((ln a),(i:Int),(ln (tk a (i:Int))),(j:Int),a[i].Tag,a[i].Page,a[i].Host,a[i].Rights,a,(tk a (i:Int)),())) _ (fun _ (y:Entry) (_:Unit) h=>bif !sameKey a[i] y then h () else oF) (fun (u:Unit)=>(rec ((ln a),((((i+1:Nat)):Int),(a,()))))) (fun j g u f=>?_) (fun u f=>?_) _ () (d k)).trans ?_;{simp only [zbn g,zT g,zbd g,zY g k,cT,zY c e];unfold sameKey;cases ieq a[i].Tag (tk a (i:Int))[j].Tag<;>cases ieq a[i].Page (tk a (i:Int))[j].Page<;>rfl};{simp only [zbh,cF,zY c e]};rw[zgi (fun y=>!sameKey a[i] y)];rfl};{simp only [zbh,cF]};rw[zH6 (alone a)];unfold zhf zfE;cases allI (alone a) a 0<;>rfl
theorem zIa:vT 253 zmp:=hF1 zzn zC zx zo zPX zOU
def zCb (N:Nat)(f:lE):OA:=
 (iter (σ:=(Int×(lE×Unit))) N (fun g c=>(cond (ilt c.1 (ln c.2.1)) (iter (σ:=(Int×(Int×(lE×Unit)))) N (fun h a=>let b:=a.2.2.1;let e:=(ix b a.2.1 zer);let d:=(h (a.1,((zL .i64 a.2.1 1),(b,())))); (cond (ilt a.2.1 a.1) (oN (inb a.1 (ln b)) (oN (inb a.2.1 (ln b)) (cond (ieq (ix b a.1 zer).Tag e.Tag) (oN (inb a.1 (ln b)) (oN (inb a.2.1 (ln b)) (cond (ieq (ix b a.1 zer).Page e.Page) oF d))) d))) (g ((zL .i64 a.1 1),(b,()))))) (c.1,(0,(c.2.1,())))) (some [(aB (ile (ln c.2.1) 6))]))) (0,(f,())))
def zP3:FuncId->Nat->Option Tmpl:=zq [(227,0,{n:=43,tm:=[(0,.sl 0 []),(3,ti)],lo:=[],ro:=[(0,.entry,false)]}),(227,2,{n:=43,tm:=[(0,.sl 0 []),(3,ti),(4,ti)],lo:=[],ro:=[(0,.entry,false)]})]
theorem zPa (a:List Entry)(k:zbU big [aS .entry a])(l:zhT a=true):∃N,zCb N a=some [aB (zhf a)]:=by
 have g:=(len0 k);refine zb6 fun N d=>?_;unfold zCb oN;conv=>zeta
 refine(zbk a (fun i (t:Unit)=>((i:Int),a,())) _ (fun i (x:Entry) (_:Unit) h=>bif alone a i x then h () else oF) (fun (t:Unit)=>(some [(.one (.b (ile (ln a) 6)))])) (fun i c t rec=>?_) (fun t rec=>?_) _ () (d g)).trans ?_;{simp only [zbn c,zT c,zbd c,zY c g,cT];refine(zzJ i (fun (j:Nat) (_:Unit)=>((i:Int),((j:Int),(a,())))) _ (fun j (_:Unit) h=>bif !sameKey a[i] (ix a (j:Int) zer) then h () else oF) (fun _=>rec (((i+1:Nat):Int),(a,()))) (fun j m u f=>?_) (fun u f=>?_) _ () (d (by omega))).trans ?_;{have e:j<a.length:=(by omega);simp only[show ilt (j:Int) (i:Int)=true from qI (by omega),zT c,zT e,zbd c,zY e g,cT];unfold sameKey;cases ieq a[i].Tag (ix a (j:Int) zer).Tag<;>cases ieq a[i].Page (ix a (j:Int) zer).Page<;>rfl};{simp only [show ilt (i:Int) (i:Int)=false from qL (by omega),zY c g,cF]};rw[zxQ (fun j=>!sameKey a[i] (ix a (j:Int) zer)),zQE (fun y=>!sameKey a[i] y) a _ i 0 (by omega)];rfl};{simp only [zbh,cF]};rw[zH6 (alone a)];unfold zhf zfE;cases allI (alone a) a 0<;>rfl
theorem zIp:vT 227 zmp:=hF1 zzn zC zx zo zP3 zPa
def z8H:zZ:=[(123,zkA),(227,zmp),(253,zmp)]++z8G
theorem zHT:zN z8H:=zh zIe (zh zIp (zh zIa zzn))
theorem zOO (a b:Int):igt a b = !ile a b:=by unfold igt ile;by_cases h:a<=b;{rw [qI h,qL (by omega)];rfl};{rw [qL h,qI (by omega)];rfl}
theorem stB {c M:Bool}{E:OA}(h:c=true->E=some [AV.one (.b M)]):(cond (cond c false true) (some [AV.one (.b false)]) E)=some [AV.one (.b (cond c M false))]:=by cases c;{rfl};{exact h rfl}
theorem stI {a b:Int}{M:Bool}{E:OA}(h:ieq a b=true->E=some [AV.one (.b M)]):(cond (ine a b) (some [AV.one (.b false)]) E)=some [AV.one (.b (cond (ieq a b) M false))]:=by rw[zoh];cases c:ieq a b;{rfl};{exact h c}
theorem stG {a b:Int}{M:Bool}{E:OA}(h:ile a b=true->E=some [AV.one (.b M)]):(cond (igt a b) (some [AV.one (.b false)]) E)=some [AV.one (.b (cond (ile a b) M false))]:=by rw[zOO];cases c:ile a b;{rfl};{exact h c}
def zml (s:Slot)(p:List Int):Bool:=bif zcQ s noSlot then zcu p else (cond (enough s.Rights 1) (ile (ln p) 0) false)
def fits (m:Mon)(j:Nat):Bool:=zml (ix m.Outer (j:Int) zU) (ix m.Out (j:Int) [])
def zd7 (m:Mon):Bool:=bif zk (ln m.Guests) 1 2 then (cond (ieq (ln m.Tables) (ln m.Guests)) (cond (zdc m.Outer 8 12) (cond (ieq (ln m.Out) 8) (cond (ieq (ln m.Dirty) 8) (cond (ile (ln m.Outs) 40) (cond (zdQ m.Pending) (cond (zk m.Traps 0 3) (cond (zk m.Own 0 1000000000) (cond (m.Guests.all zd3) (zmL (fits m) 8 0) false) false) false) false) false) false) false) false) false) else false
theorem zow {t:List Slot}{n p:Int}(h:zdc t n p=true):ln t=n:=by unfold zdc at h;cases a:t.all (fun s=>zd2 s p);{rw [a]at h;cases h};{rw [a]at h;exact qE h}
@[simp] abbrev ziu (m:Mon):Bool:=true
@[simp] abbrev zjc (m:Mon):Bool:=zd7 m
def zrj:Run:=rF1 (dT .mon) fun b=>(ziu b,[aB (zjc b)])
def zQl (N:Nat)(a:Mon):OA:=
 let h:=(ln a.Guests); (oN (zM h 1 2) (cond (nB (zk h 1 2)) oF (cond (ine (ln a.Tables) h) oF (oN (ziV a.Outer 8 12) (cond (nB (zez a.Outer 8 12)) oF (cond (ine (ln a.Out) 8) oF (cond (ine (ln a.Dirty) 8) oF (cond (igt (ln a.Outs) 40) oF (oN (zc5 a.Pending) (cond (nB (zfk a.Pending)) oF (oN (zM a.Traps 0 3) (cond (nB (zk a.Traps 0 3)) oF (oN (zM a.Own 0 1000000000) (cond (nB (zk a.Own 0 1000000000)) oF (iter (σ:=(Int×(Int×(Int×(Int×(Int×(lG×(lS×(lM×(lB×((List Int)×(lK×Unit)))))))))))) N (fun l b=>let i:=b.2.2.2.2.2.2.1;let g:=b.2.2.2.2.2.1;let k:=(ix g b.2.1 zG); (cond (ilt b.2.1 b.1) (oN (inb b.2.1 (ln g)) (oN (zbR k) (cond (nB (ziB k)) oF (l (b.1,((zL .i64 b.2.1 1),(b.2.2.1,(b.2.2.2.1,(b.2.2.2.2.1,(g,(i,(b.2.2.2.2.2.2.2.1,(b.2.2.2.2.2.2.2.2.1,(b.2.2.2.2.2.2.2.2.2.1,(b.2.2.2.2.2.2.2.2.2.2.1,()))))))))))))))) (iter (σ:=(Int×(Int×(Int×(Int×(Int×(lS×(lM×(lB×(lG×((List Int)×(lK×Unit)))))))))))) N (fun m c=>let d:=c.2.1;let e:=c.2.2.2.2.2.2.1;let f:=(ix c.2.2.2.2.2.1 d zU);let j:=(m (c.1,((zL .i64 d 1),(c.2.2.1,(c.2.2.2.1,(c.2.2.2.2.1,(c.2.2.2.2.2.1,(e,(c.2.2.2.2.2.2.2.1,(c.2.2.2.2.2.2.2.2.1,(c.2.2.2.2.2.2.2.2.2.1,(c.2.2.2.2.2.2.2.2.2.2.1,())))))))))))); (cond (ilt d c.1) (oN (inb d (ln c.2.2.2.2.2.1)) (oN zbE (cond (cond (ieq f.Page zbc.Page) (ieq f.Rights zbc.Rights) false) (oN (inb d (ln e)) (oN (zdE (ix e d [])) (cond (nB (zc7 (ix e d []))) oF j))) (oN (zbQ f.Rights 1) (cond (nB (zcO f.Rights 1)) oF (oN (inb d (ln e)) (cond (igt (ln (ix e d [])) 0) oF j))))))) oT)) ((ln i),(0,(b.2.2.1,(b.2.2.2.1,(b.2.2.2.2.1,(i,(b.2.2.2.2.2.2.2.1,(b.2.2.2.2.2.2.2.2.1,(g,(b.2.2.2.2.2.2.2.2.2.1,(b.2.2.2.2.2.2.2.2.2.2.1,())))))))))))))) (h,(0,(a.Pending,(a.Traps,(a.Own,(a.Guests,(a.Outer,(a.Out,(a.Dirty,(a.Outs,(a.Tables,()))))))))))))))))))))))))))
def zYY:FuncId->Nat->Option Tmpl:=zq [(254,0,{n:=106,tm:=[(1,.lp 0 0),(64,.sl 0 []),(65,ti),(66,ti)],lo:=[(0,[.sl 1 [],.sl 2 [],.sl 3 [],.sl 0 [],.sl 4 [],ti,ti,.sl 5 [],ti])],ro:=[(0,.guest,false),(1,.slot,false),(2,(.sl .int),false),(3,.bool,false),(4,.int,false),(5,.kept,false)]}),(254,2,{n:=106,tm:=[(1,.lp 0 0),(75,.sl 0 []),(76,ti),(77,ti)],lo:=[(0,[.sl 0 [],.sl 1 [],.sl 2 [],.sl 3 [],.sl 4 [],ti,ti,.sl 5 [],ti])],ro:=[(0,.slot,false),(1,(.sl .int),false),(2,.bool,false),(3,.guest,false),(4,.int,false),(5,.kept,false)]})]
theorem zX4 (a:Mon)(l:zbU big [aT .mon a])(E:ziu a=true):∃N,zQl N a=some [aB (zjc a)]:=by
 have hg:a.Guests.length<=big:=((zcF l).1 (.s .guest a.Guests) (by simp[AV.cvs,Ty.cells])).len;have m:a.Outer.length<=big:=((zcF l).1 (.s .slot a.Outer) (by simp[AV.cvs,Ty.cells])).len;refine zb6 fun N d=>?_;unfold zQl zjc zd7 oN nB;conv=>zeta
 refine must rfl (stB fun w=>stI fun y=>must rfl (stB fun r=>stI fun v=>stI fun z=>stG fun A=>must rfl (stB fun B=>must rfl (stB fun C=>must rfl (stB fun D=>?_)))));have p:=zow r;have q:ln a.Out=8:=qE v;simp only[ln] at p q;refine(zbk a.Guests (fun i (t:Unit)=>((ln a.Guests),(i:Int),a.Pending,a.Traps,a.Own,a.Guests,a.Outer,a.Out,a.Dirty,a.Outs,a.Tables,())) _ (fun _ (x:Guest) (_:Unit) g=>bif zd3 x then g () else oF) (fun (t:Unit)=>(iter (σ:=(Int×(Int×(Int×(Int×(Int×(lS×(lM×(lB×(lG×((List Int)×(lK×Unit)))))))))))) N (fun n c=>(cond (ilt c.2.1 c.1) (cond (inb c.2.1 (ln c.2.2.2.2.2.1)) (cond zbE (cond (cond (ieq (ix c.2.2.2.2.2.1 c.2.1 zU).Page zbc.Page) (ieq (ix c.2.2.2.2.2.1 c.2.1 zU).Rights zbc.Rights) false) (cond (inb c.2.1 (ln c.2.2.2.2.2.2.1)) (cond (zdE (ix c.2.2.2.2.2.2.1 c.2.1 [])) (cond (cond (zc7 (ix c.2.2.2.2.2.2.1 c.2.1 [])) false true) oF (n (c.1,((zL .i64 c.2.1 1),(c.2.2.1,(c.2.2.2.1,(c.2.2.2.2.1,(c.2.2.2.2.2.1,(c.2.2.2.2.2.2.1,(c.2.2.2.2.2.2.2.1,(c.2.2.2.2.2.2.2.2.1,(c.2.2.2.2.2.2.2.2.2.1,(c.2.2.2.2.2.2.2.2.2.2.1,()))))))))))))) none) none) (cond (zbQ (ix c.2.2.2.2.2.1 c.2.1 zU).Rights 1) (cond (cond (zcO (ix c.2.2.2.2.2.1 c.2.1 zU).Rights 1) false true) oF (cond (inb c.2.1 (ln c.2.2.2.2.2.2.1)) (cond (igt (ln (ix c.2.2.2.2.2.2.1 c.2.1 [])) 0) oF (n (c.1,((zL .i64 c.2.1 1),(c.2.2.1,(c.2.2.2.1,(c.2.2.2.2.1,(c.2.2.2.2.2.1,(c.2.2.2.2.2.2.1,(c.2.2.2.2.2.2.2.1,(c.2.2.2.2.2.2.2.2.1,(c.2.2.2.2.2.2.2.2.2.1,(c.2.2.2.2.2.2.2.2.2.2.1,()))))))))))))) none)) none)) none) none) (some [(.one (.b true))]))) ((ln a.Outer),(0,(a.Pending,(a.Traps,(a.Own,(a.Outer,(a.Out,(a.Dirty,(a.Guests,(a.Outs,(a.Tables,()))))))))))))) (fun i h t rec=>?_) (fun t rec=>?_) _ () (d hg)).trans ?_;{simp only [zbn h,zT h,zbd h,zY h hg,cT];simp only[zbR,ziB,cT];cases zd3 a.Guests[i]<;>rfl};{simp only [zbh,cF]};rw[zgi zd3];cases a.Guests.all zd3;{rfl};simp only[cT];refine(zbk a.Outer (fun j (u:Unit)=>((ln a.Outer),(j:Int),a.Pending,a.Traps,a.Own,a.Outer,a.Out,a.Dirty,a.Guests,a.Outs,a.Tables,())) _ (fun j (_:Slot) (_:Unit) g=>bif fits a j then g () else oF) (fun (u:Unit)=>(some [(.one (.b true))])) (fun j e u f=>?_) (fun u f=>?_) _ () (d m)).trans ?_;{simp only [zbn e,zT e,zbd e,zY e m,cT];have k:j<a.Out.length:=(by omega);simp only[zbE,zbc,zdE,zc7,zbQ,zcO,zT k,zOO,cT];unfold fits zml;simp only[zbd e,zcQ];cases ieq a.Outer[j].Page noSlot.Page<;>cases ieq a.Outer[j].Rights noSlot.Rights<;>cases enough a.Outer[j].Rights 1<;>cases ile (ln (ix a.Out (j:Int) [])) 0<;>cases zcu (ix a.Out (j:Int) [])<;>rfl};{simp only [zbh,cF]};rw[ztT (fun j (_:Unit) g=>bif fits a j then g () else oF),zxQ (fits a),show a.Outer.length=8 by omega];cases zmL (fits a) 8 0<;>rfl
theorem zRS:vT 254 zrj:=hF1 zHT zC zx zo zYY zX4
def zQw (N:Nat)(c:Mon):OA:=
 (oN (zM (ln c.Guests) 1 2) (cond (nB (zk (ln c.Guests) 1 2)) oF (cond (ine (ln c.Tables) (ln c.Guests)) oF (oN (ziV c.Outer 8 12) (cond (nB (zez c.Outer 8 12)) oF (cond (ine (ln c.Out) 8) oF (cond (ine (ln c.Dirty) 8) oF (iter (σ:=(Int×(Int×(Int×(Int×(lS×(lM×(lB×(lG×((List Int)×(lK×Unit))))))))))) N (fun l b=>let d:=b.2.2.2.2.2.2.2.1; (cond (ilt b.1 (ln d)) (oN (inb b.1 (ln d)) (oN (zbR (ix d b.1 zG)) (cond (nB (ziB (ix d b.1 zG))) oF (l ((zL .i64 b.1 1),(b.2.1,(b.2.2.1,(b.2.2.2.1,(b.2.2.2.2.1,(b.2.2.2.2.2.1,(b.2.2.2.2.2.2.1,(d,(b.2.2.2.2.2.2.2.2.1,(b.2.2.2.2.2.2.2.2.2.1,())))))))))))))) (iter (σ:=(Int×(Int×(Int×(Int×(lS×(lM×(lB×(lG×((List Int)×(lK×Unit))))))))))) N (fun m a=>let h:=a.2.2.2.2.1;let i:=(inb a.1 (ln a.2.2.2.2.2.1));let e:=(ix a.2.2.2.2.2.1 a.1 []);let g:=(ix h a.1 zU);let k:=(ieq g.Rights zbc.Rights);let j:=(ieq g.Page zbc.Page);let f:=(m ((zL .i64 a.1 1),(a.2.1,(a.2.2.1,(a.2.2.2.1,(h,(a.2.2.2.2.2.1,(a.2.2.2.2.2.2.1,(a.2.2.2.2.2.2.2.1,(a.2.2.2.2.2.2.2.2.1,(a.2.2.2.2.2.2.2.2.2.1,()))))))))))); (cond (ilt a.1 8) (oN (inb a.1 (ln h)) (oN zbE (cond (nB (cond j k false)) (oN i (cond (igt (ln e) 0) oF (oN (inb a.1 (ln h)) (oN (zbQ g.Rights 1) (cond (nB (zcO g.Rights 1)) oF (cond (nB (nB (cond j k false))) (oN i (oN (zdE e) (cond (nB (zc7 e)) oF f))) f)))))) (cond (nB (nB (cond j k false))) (oN i (oN (zdE e) (cond (nB (zc7 e)) oF f))) f)))) (cond (ile (ln a.2.2.2.2.2.2.2.2.1) 40) (oN (zc5 a.2.1) (cond (zfk a.2.1) (oN (zM a.2.2.1 0 3) (cond (zk a.2.2.1 0 3) (oN (zM a.2.2.2.1 0 1000000000) (some [(aB (zk a.2.2.2.1 0 1000000000))])) oF)) oF)) oF))) (0,(b.2.1,(b.2.2.1,(b.2.2.2.1,(b.2.2.2.2.1,(b.2.2.2.2.2.1,(b.2.2.2.2.2.2.1,(d,(b.2.2.2.2.2.2.2.2.1,(b.2.2.2.2.2.2.2.2.2.1,()))))))))))))) (0,(c.Pending,(c.Traps,(c.Own,(c.Outer,(c.Out,(c.Dirty,(c.Guests,(c.Outs,(c.Tables,()))))))))))))))))))
def zY0:FuncId->Nat->Option Tmpl:=zq [(228,0,{n:=115,tm:=[(1,.lp 0 0),(3,ti)],lo:=[(0,[.sl 0 [],.sl 1 [],.sl 2 [],.sl 3 [],.sl 4 [],ti,ti,.sl 5 [],ti])],ro:=[(0,.slot,false),(1,(.sl .int),false),(2,.bool,false),(3,.guest,false),(4,.int,false),(5,.kept,false)]}),(228,2,{n:=115,tm:=[(1,.lp 0 0),(4,ti)],lo:=[(0,[.sl 0 [],.sl 1 [],.sl 2 [],.sl 3 [],.sl 4 [],ti,ti,.sl 5 [],ti])],ro:=[(0,.slot,false),(1,(.sl .int),false),(2,.bool,false),(3,.guest,false),(4,.int,false),(5,.kept,false)]})]
theorem zYe (c:Mon)(r:zbU big [aT .mon c])(A:ziu c=true):∃N,zQw N c=some [aB (zjc c)]:=by
 have hg:c.Guests.length<=big:=((zcF r).1 (.s .guest c.Guests) (by simp[AV.cvs,Ty.cells])).len;refine zb6 fun N d=>?_;unfold zQw zjc zd7 oN nB;conv=>zeta
 refine must rfl (stB fun w=>stI fun y=>must rfl (stB fun p=>stI fun q=>stI fun z=>?_));have m:=zow p;have n:ln c.Out=8:=qE q;simp only[ln] at m n;refine(zbk c.Guests (fun i (t:Unit)=>((i:Int),c.Pending,c.Traps,c.Own,c.Outer,c.Out,c.Dirty,c.Guests,c.Outs,c.Tables,())) _ (fun _ (x:Guest) (_:Unit) l=>bif zd3 x then l () else oF) (fun (t:Unit)=>(iter (σ:=(Int×(Int×(Int×(Int×(lS×(lM×(lB×(lG×((List Int)×(lK×Unit))))))))))) N (fun h a=>(cond (ilt a.1 8) (cond (inb a.1 (ln a.2.2.2.2.1)) (cond zbE (cond (cond (cond (ieq (ix a.2.2.2.2.1 a.1 zU).Page zbc.Page) (ieq (ix a.2.2.2.2.1 a.1 zU).Rights zbc.Rights) false) false true) (cond (inb a.1 (ln a.2.2.2.2.2.1)) (cond (igt (ln (ix a.2.2.2.2.2.1 a.1 [])) 0) oF (cond (inb a.1 (ln a.2.2.2.2.1)) (cond (zbQ (ix a.2.2.2.2.1 a.1 zU).Rights 1) (cond (cond (zcO (ix a.2.2.2.2.1 a.1 zU).Rights 1) false true) oF (cond (cond (cond (cond (ieq (ix a.2.2.2.2.1 a.1 zU).Page zbc.Page) (ieq (ix a.2.2.2.2.1 a.1 zU).Rights zbc.Rights) false) false true) false true) (cond (inb a.1 (ln a.2.2.2.2.2.1)) (cond (zdE (ix a.2.2.2.2.2.1 a.1 [])) (cond (cond (zc7 (ix a.2.2.2.2.2.1 a.1 [])) false true) oF (h ((zL .i64 a.1 1),(a.2.1,(a.2.2.1,(a.2.2.2.1,(a.2.2.2.2.1,(a.2.2.2.2.2.1,(a.2.2.2.2.2.2.1,(a.2.2.2.2.2.2.2.1,(a.2.2.2.2.2.2.2.2.1,(a.2.2.2.2.2.2.2.2.2.1,())))))))))))) none) none) (h ((zL .i64 a.1 1),(a.2.1,(a.2.2.1,(a.2.2.2.1,(a.2.2.2.2.1,(a.2.2.2.2.2.1,(a.2.2.2.2.2.2.1,(a.2.2.2.2.2.2.2.1,(a.2.2.2.2.2.2.2.2.1,(a.2.2.2.2.2.2.2.2.2.1,()))))))))))))) none) none)) none) (cond (cond (cond (cond (ieq (ix a.2.2.2.2.1 a.1 zU).Page zbc.Page) (ieq (ix a.2.2.2.2.1 a.1 zU).Rights zbc.Rights) false) false true) false true) (cond (inb a.1 (ln a.2.2.2.2.2.1)) (cond (zdE (ix a.2.2.2.2.2.1 a.1 [])) (cond (cond (zc7 (ix a.2.2.2.2.2.1 a.1 [])) false true) oF (h ((zL .i64 a.1 1),(a.2.1,(a.2.2.1,(a.2.2.2.1,(a.2.2.2.2.1,(a.2.2.2.2.2.1,(a.2.2.2.2.2.2.1,(a.2.2.2.2.2.2.2.1,(a.2.2.2.2.2.2.2.2.1,(a.2.2.2.2.2.2.2.2.2.1,())))))))))))) none) none) (h ((zL .i64 a.1 1),(a.2.1,(a.2.2.1,(a.2.2.2.1,(a.2.2.2.2.1,(a.2.2.2.2.2.1,(a.2.2.2.2.2.2.1,(a.2.2.2.2.2.2.2.1,(a.2.2.2.2.2.2.2.2.1,(a.2.2.2.2.2.2.2.2.2.1,()))))))))))))) none) none) (cond (ile (ln a.2.2.2.2.2.2.2.2.1) 40) (cond (zc5 a.2.1) (cond (zfk a.2.1) (cond (zM a.2.2.1 0 3) (cond (zk a.2.2.1 0 3) (cond (zM a.2.2.2.1 0 1000000000) (some [(.one (.b (zk a.2.2.2.1 0 1000000000)))]) none) oF) none) oF) none) oF))) (0,(c.Pending,(c.Traps,(c.Own,(c.Outer,(c.Out,(c.Dirty,(c.Guests,(c.Outs,(c.Tables,())))))))))))) (fun i g t rec=>?_) (fun t rec=>?_) _ () (d hg)).trans ?_;{simp only [zbn g,zT g,zbd g,zY g hg,cT];simp only[zbR,ziB,cT];cases zd3 c.Guests[i]<;>rfl};{simp only [zbh,cF]};rw[zgi zd3];cases B:c.Guests.all zd3;{simp only [cF];cases ile (ln c.Outs) 40<;>cases zdQ c.Pending<;>cases zk c.Traps 0 3<;>cases zk c.Own 0 1000000000<;>rfl};simp only[cT];refine(zzJ 8 (fun j (u:Unit)=>((j:Int),c.Pending,c.Traps,c.Own,c.Outer,c.Out,c.Dirty,c.Guests,c.Outs,c.Tables,())) _ (fun j (_:Unit) l=>bif fits c j then l () else oF) (fun (u:Unit)=>(cond (ile (ln c.Outs) 40) (cond (zc5 c.Pending) (cond (zfk c.Pending) (cond (zM c.Traps 0 3) (cond (zk c.Traps 0 3) (cond (zM c.Own 0 1000000000) (some [(.one (.b (zk c.Own 0 1000000000)))]) none) oF) none) oF) none) oF)) (fun j v u f=>?_) (fun u f=>?_) _ () (d (by decide))).trans ?_;{simp only [show ilt (j:Int) 8=true from qI (by omega),zY v (show 8<=big by decide),cT];have e:j<c.Outer.length:=(by omega);have k:j<c.Out.length:=(by omega);simp only[zbE,zbc,zdE,zc7,zbQ,zcO,zT e,zT k,zOO,cT];unfold fits zml;simp only[zbd e,zcQ];cases ieq c.Outer[j].Page noSlot.Page<;>cases ieq c.Outer[j].Rights noSlot.Rights<;>cases enough c.Outer[j].Rights 1<;>cases ile (ln (ix c.Out (j:Int) [])) 0<;>cases zcu (ix c.Out (j:Int) [])<;>rfl};{simp only [show ilt (((8:Nat)):Int) 8=false from qL (by omega),cF];rfl};rw[zxQ (fits c)];simp only[zc5,zfk,zM,zTG,cT];cases zmL (fits c) 8 0<;>cases ile (ln c.Outs) 40<;>cases zdQ c.Pending<;>cases zk c.Traps 0 3<;>cases zk c.Own 0 1000000000<;>rfl
theorem zR3:vT 228 zrj:=hF1 zHT zC zx zo zY0 zYe
def z8I:zZ:=[(228,zrj),(254,zrj)]++z8H
theorem zHU:zN z8I:=zh zR3 (zh zRS zHT)
def zgX:List Slot->List Bool->Option (List Bool)
 |[],u=>some u
 |s::l,u=>bif ilt s.Page 0 then zgX l u else (cond (ix u s.Page false) none (zgX l (up u s.Page true)))
def zhS:List Mon->List Bool->Bool
 |[],_=>true
 |m::l,u=>bif zd7 m then (match zgX m.Outer u with|some a=>zhS l a|none=>false) else false
def zb2 (h:Host):Bool:=bif zix h.Memory 12 then (cond (zk (ln h.Mons) 1 3) (cond (zfE h.Buffer) (cond (zfE h.IoBuffer) (zhS h.Mons (rp 12 false)) false) false) false) else false
theorem zp8:∀(l:List Slot) (u a:List Bool),zgX l u=some a->a.length=u.length
 |[],u,a,h=>by cases h;rfl
 |s::l,u,a,h=>by simp only[zgX]at h;cases b:ilt s.Page 0;{rw [b]at h;cases c:ix u s.Page false;{rw [c]at h;simpa using zp8 l _ a h};{rw [c]at h;cases h}};{rw [b]at h;exact zp8 l u a h}
theorem zEV {t:List Slot}{n:Int}(h:zdc t n 12=true):∀s∈t,s.Page<12:=by intro s d;unfold zdc at h;cases b:t.all (fun s=>zd2 s 12);{rw [b]at h;cases h};{have:=qJ.1 b s d;unfold zd2 at this;cases a:zcQ s noSlot;{rw [a] at this;simp only[cF,show igt 12 0=true from rfl,cT] at this;cases c:zk s.Page 0 (wsub .i64 12 1);{rw [c] at this;cases this};{have:=(zgs.1 c).2;rw[show wsub .i64 12 1=11 from rfl] at this;omega}};{unfold zcQ at a;rw[qD]at a;have a:s.Page = -1:=qE a.1;omega}}
theorem zXx {s:Slot}{u:List Bool}(h:s.Page<12)(b:u.length=12)(a:ilt s.Page 0=false):inb s.Page (ln u)=true:=by have:=jY a;exact qI (by simp only[ln];omega)
def zuh {a:Type}(r:Option a)(y:Slot)(u:List Bool)(b:List Bool->Option a):Option a:=bif ilt y.Page 0 then b u else (cond (inb y.Page (ln u)) (cond (ix u y.Page false) r (cond (inb y.Page (ln u)) (share (up u y.Page true) (fun c=>b c)) none)) none)
theorem zzA {c:Type}(r:Option c)(K:List Bool->Option c):∀(l:List Slot) (i:Nat) (u:List Bool),(∀s∈l,s.Page<12)->u.length=12->
 goL (fun _ y u g=>zuh r y u g) K l i u=match zgX l u with|some f=>K f|none=>r
 |[],_,_,_,_=>rfl
 |s::l,i,u,h,b=>by simp only[goL,zgX,zuh];cases d:ilt s.Page 0;{have e:=zXx (h s (by simp)) b d;rw[e];cases ix u s.Page false;{simp only [cF,cT,share];exact zzA r K l (i+1) _ (fun s a=>h s (by simp[a])) (by simpa using b)};{rfl}};{simp only [cT];exact zzA r K l (i+1) u (fun s a=>h s (by simp[a])) b}
def z0n {b:Type}(r:Option b)(m:Mon)(u:List Bool)(a:List Bool->Option b):Option b:=bif zd7 m then goL (fun _ y u a=>zuh r y u a) a m.Outer 0 u else r
theorem zdj {c x:Bool}:((cond c x false)=true)↔c=true/\x=true:=by cases c<;>simp
theorem zkQ {m:Mon}(h:zd7 m=true):zdc m.Outer 8 12=true:=by unfold zd7 at h;simp only[zdj]at h;exact h.2.2.1
theorem zUJ {K:Bool->OA}(k:List Bool->OA)(a:∀u,k u=K true):∀(l:List Mon) (i:Nat) (u:List Bool),u.length=12->
 goL (fun _ m u g=>z0n (K false) m u g) k l i u=K (zhS l u)
 |[],_,u,_=>a u
 |m::l,i,u,b=>by simp only[goL,zhS,z0n];cases c:zd7 m;{rfl};{simp only [cT];have e:=zkQ c;rw[zzA _ _ _ _ _ (zEV e) b];cases d:zgX m.Outer u with|none=>rfl|some f=>exact zUJ k a l (i+1) f ((zp8 _ _ _ d).trans b)}
@[simp] abbrev zeo (h:Host):Bool:=true
@[simp] abbrev zel (h:Host):Bool:=zb2 h
def zlJ:Run:=rF1 dH fun b=>(zeo b,[aB (zel b)])
def zJO (N:Nat)(c:Host):OA:=
 (oN (zlP c.Memory 12) (cond (nB (zgo c.Memory 12)) oF (oN (zM (ln c.Mons) 1 3) (cond (nB (zk (ln c.Mons) 1 3)) oF (oN (zhT c.Buffer) (cond (nB (zhf c.Buffer)) oF (oN (zhT c.IoBuffer) (cond (nB (zhf c.IoBuffer)) oF (oN (cond (few 12) (ieq 12 12) false) (iter (σ:=(Int×(Int×(lB×(lN×Unit))))) N (fun k b=>let h:=(ix b.2.2.2.1 b.2.1 zi); (cond (ilt b.2.1 b.1) (oN (inb b.2.1 (ln b.2.2.2.1)) (oN (ziu h) (cond (nB (zjc h)) oF (iter (σ:=(Int×(Int×(Int×(Int×(Int×(lB×(lN×Unit)))))))) N (fun i a=>let f:=a.2.2.2.2.1;let g:=a.2.2.2.2.2.2.1;let j:=(ix g a.2.2.1 zi).Outer;let d:=a.2.2.2.2.2.1;let e:=(ix j f zU).Page; (cond (ilt f a.2.2.2.1) (oN (inb f (ln j)) (cond (ilt e 0) (i (a.1,(a.2.1,(a.2.2.1,(a.2.2.2.1,((zL .i64 f 1),(d,(g,())))))))) (oN (inb e (ln d)) (cond (ix d e false) oF (oN (inb e (ln d)) (share (up d e true) (fun l=>(i (a.1,(a.2.1,(a.2.2.1,(a.2.2.2.1,((zL .i64 f 1),(l,(g,()))))))))))))))) (k (a.1,((zL .i64 a.2.1 1),(d,(g,()))))))) (b.1,(b.2.1,(b.2.1,((ln h.Outer),(0,(b.2.2.1,(b.2.2.2.1,()))))))))))) oT)) ((ln c.Mons),(0,((rp 12 false),(c.Mons,()))))))))))))))
def zW8:FuncId->Nat->Option Tmpl:=zq [(159,0,{n:=63,tm:=[(3,.sl 0 []),(33,.sl 1 []),(34,ti),(35,ti)],lo:=[],ro:=[(0,.bool,true),(1,.mon,false)]}),(159,2,{n:=63,tm:=[(3,.sl 0 []),(33,.sl 1 []),(34,ti),(35,ti),(43,.sl 1 [0]),(44,ti),(45,ti)],lo:=[],ro:=[(0,.bool,true),(1,.mon,false)]})]
theorem zVa (a:Host)(n:zbU big [aH a])(w:zeo a=true):∃N,zJO N a=some [aB (zel a)]:=by
 have l:CVB big (.s .mon a.Mons):=(zcF n).1 _ (by simp[AV.cvs,zbq]);have g:=l.len;refine zb6 fun N d=>?_;unfold zJO zel zb2 oN nB;conv=>zeta
 refine must rfl (stB fun p=>must rfl (stB fun q=>must rfl (stB fun r=>must rfl (stB fun v=>must rfl ?_))));refine(zbk a.Mons (fun i (t:lB)=>((ln a.Mons),(i:Int),t,a.Mons,())) _ (fun _ (x:Mon) (u:List Bool) h=>z0n (oF) x u h) (fun (t:lB)=>(some [(.one (.b true))])) (fun i c t rec=>?_) (fun t rec=>?_) _ ((rp 12 false)) (d g)).trans ?_;{simp only [zbn c,zT c,zbd c,zY c g,cT];unfold z0n;cases k:zd7 a.Mons[i];{simp only [ziu,zjc,k,cT,cF]};simp only[ziu,zjc,k,cT,cF];have m:a.Mons[i].Outer.length<=big:=(l.inv.2 _ (q9 c) (.s .slot _) (by simp[Ty.cells])).len;refine(zbk a.Mons[i].Outer (fun j (u:lB)=>((ln a.Mons),(i:Int),(i:Int),(ln a.Mons[i].Outer),(j:Int),u,a.Mons,())) _ (fun _ (y:Slot) (u:List Bool) h=>zuh (oF) y u h) (fun (u:lB)=>(rec ((ln a.Mons),((((i+1:Nat)):Int),(u,(a.Mons,())))))) (fun j f u e=>?_) (fun u e=>?_) _ (t) (d m)).trans ?_;{simp only [zbn f,zT f,zbd f,zY f m,cT,zT c,zbd c,zY c g];rfl};{simp only [zbh,cF,zT c,zbd c,zY c g]};rfl};{simp only [zbh,cF]};exact zUJ (K:=fun b=>some [AV.one (.b b)]) _ (fun _=>rfl) _ _ _ rfl
theorem zNZ:vT 159 zlJ:=hF1 zHU zC zx zo zW8 zVa
theorem zH8 {e:Type}(r:Option e)(k:List Bool->Option e)(m:Mon):∀(n i:Nat) (u:List Bool),(∀s∈m.Outer,s.Page<12)->u.length=12->i+n=m.Outer.length->
 goN (fun j u d=>bif inb (j:Int) (ln m.Outer) then zuh r (ix m.Outer (j:Int) zU) u d else none) k n i u=goL (fun _ y u d=>zuh r y u d) k (m.Outer.drop i) i u
 | 0,i,u,_,_,h=>by have:i=m.Outer.length:=(by omega);subst this;simp[goN,goL]
 |n+1,i,u,b,c,h=>by have a:i<m.Outer.length:=(by omega);rw[jW a];simp only[goN,goL,zT a,zbd a,cT,zuh];cases f:ilt m.Outer[i].Page 0;{rw [zXx (b _ (q9 a)) c f];cases ix u m.Outer[i].Page false;{simp only [cF,cT,share];exact zH8 r k m n (i+1) _ b (by simpa using c) (by omega)};{rfl}};{simp only [cT];exact zH8 r k m n (i+1) u b c (by omega)}
def zJ4 (N:Nat)(b:Host):OA:=
 (oN (zlP b.Memory 12) (cond (nB (zgo b.Memory 12)) oF (oN (zM (ln b.Mons) 1 3) (cond (nB (zk (ln b.Mons) 1 3)) oF (oN (zhT b.Buffer) (cond (nB (zhf b.Buffer)) oF (oN (zhT b.IoBuffer) (cond (nB (zhf b.IoBuffer)) oF (oN (cond (few 12) (ieq 12 12) false) (iter (σ:=(Int×(lB×(lM×(lN×(lE×(lE×Unit))))))) N (fun q c=>let n:=(ix c.2.2.2.1 c.1 zi); (cond (ilt c.1 (ln c.2.2.2.1)) (oN (inb c.1 (ln c.2.2.2.1)) (oN (ziu n) (cond (nB (zjc n)) oF (iter (σ:=(Int×(Int×(lB×(lM×(lN×(lE×(lE×Unit)))))))) N (fun i a=>let k:=(zL .i64 a.2.1 1);let h:=a.2.2.2.2.2.1;let g:=a.2.2.2.2.2.2.1;let f:=a.2.2.1;let e:=a.2.2.2.2.1;let p:=(ix e a.1 zi).Outer;let m:=(i (a.1,(k,(f,(a.2.2.2.1,(e,(h,(g,()))))))));let d:=(ix p a.2.1 zU).Page;let l:=(inb d (ln f)); (cond (ilt a.2.1 8) (oN (inb a.1 (ln e)) (oN (inb a.2.1 (ln p)) (cond (ige d 0) (oN l (cond (ix f d false) oF (cond (ige d 0) (oN l (share (up f d true) (fun j=>(i (a.1,(k,(j,(a.2.2.2.1,(e,(h,(g,()))))))))))) m))) (cond (ige d 0) (oN l (share (up f d true) (fun j=>(i (a.1,(k,(j,(a.2.2.2.1,(e,(h,(g,()))))))))))) m)))) (q ((zL .i64 a.1 1),(f,(a.2.2.2.1,(e,(h,(g,()))))))))) (c.1,(0,(c.2.1,(c.2.2.1,(c.2.2.2.1,(c.2.2.2.2.1,(c.2.2.2.2.2.1,()))))))))))) oT)) (0,((rp 12 false),(b.Memory,(b.Mons,(b.Buffer,(b.IoBuffer,()))))))))))))))))
def zXf:FuncId->Nat->Option Tmpl:=zq [(128,0,{n:=72,tm:=[(1,.lp 0 0),(3,.sl 0 []),(4,ti)],lo:=[(0,[.sl 1 [],.sl 2 [],.sl 3 [],.sl 4 []])],ro:=[(0,.bool,true),(1,(.sl .int),false),(2,.mon,false),(3,.entry,false),(4,.entry,false)]}),(128,2,{n:=72,tm:=[(1,.lp 0 0),(3,.sl 0 []),(4,ti),(5,ti)],lo:=[(0,[.sl 1 [],.sl 2 [],.sl 3 [],.sl 4 []])],ro:=[(0,.bool,true),(1,(.sl .int),false),(2,.mon,false),(3,.entry,false),(4,.entry,false)]})]
theorem zVq (a:Host)(y:zbU big [aH a])(F:zeo a=true):∃N,zJ4 N a=some [aB (zel a)]:=by
 have A:CVB big (.s .mon a.Mons):=(zcF y).1 _ (by simp[AV.cvs,zbq]);have h:=A.len;refine zb6 fun N f=>?_;unfold zJ4 zel zb2 oN nB;conv=>zeta
 refine must rfl (stB fun D=>must rfl (stB fun q=>must rfl (stB fun r=>must rfl (stB fun E=>must rfl ?_))));refine(zbk a.Mons (fun i (t:lB)=>((i:Int),t,a.Memory,a.Mons,a.Buffer,a.IoBuffer,())) _ (fun _ (x:Mon) (u:List Bool) d=>bif zd7 x then goN (fun j u d=>bif inb (j:Int) (ln x.Outer) then zuh (oF) (ix x.Outer (j:Int) zU) u d else none) d 8 0 u else oF) (fun (t:lB)=>(some [(.one (.b true))])) (fun i c t rec=>?_) (fun t rec=>?_) _ ((rp 12 false)) (f h)).trans ?_;{simp only [zbn c,zT c,zbd c,zY c h,cT];cases v:zd7 a.Mons[i];{simp only [ziu,zjc,v,cT,cF]};simp only[ziu,zjc,v,cT,cF];refine(zzJ 8 (fun j (u:lB)=>((i:Int),(j:Int),u,a.Memory,a.Mons,a.Buffer,a.IoBuffer,())) _ (fun j (u:List Bool) d=>bif inb (j:Int) (ln a.Mons[i].Outer) then zuh (oF) (ix a.Mons[i].Outer (j:Int) zU) u d else none) (fun (u:lB)=>(rec ((((i+1:Nat)):Int),(u,(a.Memory,(a.Mons,(a.Buffer,(a.IoBuffer,())))))))) (fun j z u g=>?_) (fun u g=>?_) _ (t) (f (by decide))).trans ?_;{simp only [show ilt (j:Int) 8=true from qI (by omega),zY z (show 8<=big by decide),cT,zT c,zbd c,zY c h];unfold zuh;have e:ige (ix a.Mons[i].Outer (j:Int) zU).Page 0 = !ilt (ix a.Mons[i].Outer (j:Int) zU).Page 0:=(by rw[zbaR,Bool.not_not]);simp only[e];cases ilt (ix a.Mons[i].Outer (j:Int) zU).Page 0<;>cases inb (j:Int) (ln a.Mons[i].Outer)<;>cases inb (ix a.Mons[i].Outer (j:Int) zU).Page (ln u)<;>cases ix u (ix a.Mons[i].Outer (j:Int) zU).Page false<;>rfl};{simp only [show ilt (((8:Nat)):Int) 8=false from qL (by omega),cF,zT c,zbd c,zY c h]};rfl};{simp only [zbh,cF]};have p:∀(l:List Mon) (i:Nat) (u:List Bool),u.length=12->goL (fun _ (x:Mon) (u:List Bool) d=>bif zd7 x then goN (fun j u d=>bif inb (j:Int) (ln x.Outer) then zuh (oF) (ix x.Outer (j:Int) zU) u d else none) d 8 0 u else oF) (fun _=>oT) l i u=some [AV.one (.b (zhS l u))]:=(by intro l;induction l with|nil=>intro i u _;rfl|cons m l B=>intro i u n;simp only[goL,zhS];cases q:zd7 m;{rfl};{have k:=zkQ q;have w:0+8=m.Outer.length:=(by have:=zow k;simp only[ln] at this;omega);simp only[cT];rw[zH8 _ _ m 8 0 u (zEV k) n w,vH,zzA _ _ _ _ _ (zEV k) n];cases r:zgX m.Outer u with|none=>rfl|some C=>exact B (i+1) C ((zp8 _ _ _ r).trans n)});exact p _ _ _ rfl
theorem zxU:vT 128 zlJ:=hF1 zHU zC zx zo zXf zVq
def z8J:zZ:=[(128,zlJ),(159,zlJ)]++z8I
theorem zHV:zN z8J:=zh zxU (zh zNZ zHU)
theorem zLW {h:Host}(a:zb2 h=true):(h.Mons.length:Int)<=3:=by unfold zb2 at a;simp only[zdj]at a;exact(zgs.1 a.2.1).2
def zc2 (h:Host)(m:Int):Bool:=bif zb2 h then hasB m (ln h.Mons) else false
def zcH (h:Host)(m p:Int):Bool:=bif zb2 h then (cond (hasB m (ln h.Mons)) (hasB p 8) false) else false
theorem zQh {h:Host}(a:zb2 h=true)(m:Int):zk m 0 (wsub .i64 (ln h.Mons) 1)=hasB m (ln h.Mons):=zqZ (by have:=zLW a;omega) m
@[simp] abbrev zfV (h:Host)(m:Int):Bool:=true
@[simp] abbrev zfU (h:Host)(m:Int):Bool:=zc2 h m
def zD0:Run:=rF2 dH dI fun b c=>(zfV b c,[aB (zfU b c)])
def zKr (N:Nat)(a:Host)(b:Int):OA:=
 (oN (zeo a) (cond (zel a) (oN (zM b 0 (wsub .i64 (ln a.Mons) 1)) (some [(aB (zk b 0 (wsub .i64 (ln a.Mons) 1)))])) oF))
theorem zVO (a:Host)(b:Int)(d:zfV a b=true):∃N,zKr N a b=some [aB (zfU a b)]:=by refine⟨0,?_⟩;unfold zKr zfU zc2 oN;cases c:zb2 a;{simp only [zeo,zel,c,cT,cF]};{simp only [zeo,zel,c,cT,zM,zTG,zQh c]}
theorem zOM:vT 74 zD0:=kF2 zHV zC zx zo (zq []) zVO
@[simp] abbrev zot (h:Host)(m p:Int):Bool:=true
@[simp] abbrev zf1 (h:Host)(m p:Int):Bool:=zcH h m p
def zHg:Run:=rF3 dH dI dI fun b c d=>(zot b c d,[aB (zf1 b c d)])
def zQC (N:Nat)(a:Host)(b c:Int):OA:=
 (oN (zeo a) (cond (zel a) (oN (zM b 0 (wsub .i64 (ln a.Mons) 1)) (cond (zk b 0 (wsub .i64 (ln a.Mons) 1)) (oN (zM c 0 7) (some [(aB (zk c 0 7))])) oF)) oF))
theorem zYk (a:Host)(b c:Int)(e:zot a b c=true):∃N,zQC N a b c=some [aB (zf1 a b c)]:=by refine⟨0,?_⟩;unfold zQC zf1 zcH oN;cases d:zb2 a;{simp only [zeo,zel,d,cT,cF]};{simp only [zeo,zel,d,cT,zM,zTG,zQh d,has8];cases hasB b (ln a.Mons)<;>rfl}
theorem zSc:vT 114 zHg:=kF3 zHV zC zx zo (zq []) zYk
def z8K:zZ:=[(74,zD0),(114,zHg)]++z8J
theorem zUk:zN z8K:=zh zOM (zh zSc zHV)
def zdb (k:Kept)(p:Int):Bool:=bif hasB p (ln k.Known) then hasB p (ln k.Slots) else false
def zbN (k:Kept)(p:Int):Kept:=bif zdb k p then ⟨up k.Known p false,up k.Slots p noSlot⟩ else k
@[simp] theorem zmI {k:Kept}{p:Int}(h:SmK k):SmK (zbN k p):=by unfold zbN;cases zdb k p;{exact h};{exact⟨by simpa using h.1,by simpa using h.2⟩}
theorem has_lt {p:Int}{n m:Int}(h:hasB p n=true):ilt p m=hasB p m:=by have h:=qE h;unfold ilt hasB;by_cases a:p<m;{rw [qI a,qI ⟨h.1,a⟩]};{rw [qL a,qL (by omega)]}
@[simp] abbrev zcU (k:Kept)(p:Int):Bool:=pc (SmK k)
@[simp] abbrev ziY (k:Kept)(p:Int):Bool:=zdb k p
def zDY:Run:=rF2 (dT .kept) dI fun b c=>(zcU b c,[aB (ziY b c)])
def zKp (N:Nat)(a:Kept)(b:Int):OA:=
 (oN (zM b 0 (wsub .i64 (ln a.Known) 1)) (cond (zk b 0 (wsub .i64 (ln a.Known) 1)) (some [(aB (ilt b (ln a.Slots)))]) oF))
theorem zVL (a:Kept)(b:Int)(c:zcU a b=true):∃N,zKp N a b=some [aB (ziY a b)]:=by have e:=zO.1 c;refine⟨0,?_⟩;unfold zKp ziY zdb oN;simp only[zM,zTG,zqZ e.1,cT];cases d:hasB b (ln a.Known);{rfl};{simp only [cT,has_lt d]}
theorem zOB:vT 118 zDY:=kF2 zUk zC zx zo (zq []) zVL
def z8L:zZ:=[(118,zDY)]++z8K
theorem zHW:zN z8L:=zh zOB zUk
@[simp] abbrev zem (k:Kept)(p:Int):Kept:=zbN k p
def zpa:Run:=rF2 (dT .kept) dI fun b c=>(zcU b c,[aT .kept (zem b c)])
def zJ2 (N:Nat)(c:Kept)(b:Int):OA:=
 let a:=(zdS c); (oN (zgE c) (oN (zcU a b) (cond (ziY a b) (oN (inb b (ln a.Known)) (share (up a.Known b false) (fun d=>(oN zbE (oN (inb b (ln a.Slots)) (share (up a.Slots b zbc) (fun e=>(some [(aT .kept (⟨d,e⟩:Kept))])))))))) (some [(aT .kept a)]))))
theorem zVo (a:Kept)(b:Int)(g:zcU a b=true):∃N,zJ2 N a b=some [aT .kept (zem a b)]:=by
 have d:=zO.1 g;refine⟨0,?_⟩;unfold zJ2 zem oN;conv=>zeta
 refine must (zby ((zxJ _).2 d)) (must (zby d) ?_);unfold zbN;cases c:zdb a b;{simp only [ziY,zdS,c,cF]};{simp only [ziY,zdS,c,cT];unfold zdb at c;obtain⟨e,f⟩:=zdj.1 c;simp only[zUZ,e,f,cT,share,zbE]}
theorem zOf:vT 108 zpa:=kF2 zHW zC zx zo (zq []) zVo
def zJM (N:Nat)(b:Kept)(a:Int):OA:=
 let c:=(zcS b); (oN (zdC b) (oN (zbQ a (ln b.Known)) (cond (zeW a (ln b.Known)) (oN (zbQ a (ln b.Slots)) (cond (zeW a (ln b.Slots)) (oN (inb a (ln c.Known)) (share (up c.Known a false) (fun d=>(oN zbE (oN (inb a (ln c.Slots)) (share (up c.Slots a zbc) (fun e=>(some [(aT .kept (⟨d,e⟩:Kept))])))))))) (some [(aT .kept c)]))) (some [(aT .kept c)]))))
theorem zU8 (a:Kept)(b:Int)(c:zcU a b=true):∃N,zJM N a b=some [aT .kept (zem a b)]:=by
 have d:=zO.1 c;refine⟨0,?_⟩;unfold zJM zem oN;conv=>zeta
 refine must (zby d) (must rfl ?_);unfold zbN zdb;simp only[zeW,zbQ,zcS,zUZ,share,zbE,cT];cases hasB b (ln a.Known);{rfl};{cases hasB b (ln a.Slots)<;>rfl}
theorem zNX:vT 104 zpa:=kF2 zHW zC zx zo (zq []) zU8
def z8M:zZ:=[(108,zpa),(104,zpa)]++z8L
theorem zui:zN z8M:=zh zOf (zh zNX zHW)
def zeU (k:Kept)(l:List Int):Kept:=l.foldl zbN k
theorem zZY:∀(l:List Int) {k:Kept},SmK k->SmK (zeU k l)
 |[],_,h=>h
 |p::l,k,h=>zZY l (zmI (p:=p) h)
theorem zzy {b:Type}(K:List Bool×List Slot->Option b):∀(l:List Int) (i:Nat) (k:Kept),SmK k->
 goL (fun _ x (t:List Bool×List Slot) a=>bif pc (SmK ⟨t.1,t.2⟩) then a ((zbN ⟨t.1,t.2⟩ x).Known,(zbN ⟨t.1,t.2⟩ x).Slots) else none) K l i (k.Known,k.Slots)=K ((zeU k l).Known,(zeU k l).Slots)
 |[],_,_,_=>rfl
 |x::l,i,k,h=>by have e:pc (SmK ⟨k.Known,k.Slots⟩)=true:=zby h;simp only[goL,e,cT];exact zzy K l (i+1) (zbN k x) (zmI h)
def zEq (l:List Slot)(p:Int):List Int:=idxs (fun (s:Slot)=>ieq s.Page p) l 0
def zjV (k:Kept)(l:List Slot)(p:Int):Kept:=zeU k (zEq l p)
theorem z7F {k:Kept}(l:List Slot)(p:Int)(h:SmK k):SmK (zjV k l p):=zZY _ h
@[simp] abbrev zhM (k:Kept)(l:List Slot)(p:Int):Bool:=pc (SmK k/\l.length<=1048576)
@[simp] abbrev zlO (k:Kept)(l:List Slot)(p:Int):Kept:=zjV k l p
def zj8:Run:=rF3 (dT .kept) (dS .slot) dI fun b c d=>(zhM b c d,[aT .kept (zlO b c d)])
def zxD (N:Nat)(c:Kept)(e:lS)(f:Int):OA:=
 (oN (zgE c) (oN (zpE e f) (iter (σ:=(Int×((List Int)×(lB×(lS×(lB×(lS×Unit))))))) N (fun g a=>let d:=(ix a.2.1 a.1 0);let b:=(⟨a.2.2.1,a.2.2.2.1⟩:Kept); (cond (ilt a.1 (ln a.2.1)) (oN (inb a.1 (ln a.2.1)) (oN (zcU b d) (g ((zL .i64 a.1 1),(a.2.1,((zem b d).Known,((zem b d).Slots,(a.2.2.2.2.1,(a.2.2.2.2.2.1,()))))))))) (some [(aT .kept b)]))) (0,((zgp e f),((zdS c).Known,((zdS c).Slots,([],([],())))))))))
def zJF:FuncId->Nat->Option Tmpl:=zq [(283,0,{n:=27,tm:=[(3,.lp 0 0),(6,.lp 1 0),(7,.sl 0 []),(8,ti)],lo:=[(0,[.sl 1 [],.sl 2 []]),(1,[.sl 3 [],.sl 4 []])],ro:=[(0,.int,true),(1,.bool,true),(2,.slot,true),(3,.bool,true),(4,.slot,true)]})]
theorem zI5 (b:Kept)(a:List Slot)(c:Int)(j:zhM b a c=true):∃N,zxD N b a c=some [aT .kept (zlO b a c)]:=by
 obtain⟨h,f⟩:=zO.1 j;have g:(zgp a c).length<=big:=qV (zzH _ a 0) (zcv f).1;refine zb6 fun N e=>?_;unfold zxD oN;conv=>zeta
 refine must (zby ((zxJ _).2 h)) (must (zby (by omega)) ?_);refine(zbk (zgp a c) (fun i (t:lB×lS)=>((i:Int),(zgp a c),t.1,t.2,[],[],())) _ (fun _ (x:Int) (t:List Bool×List Slot) k=>bif pc (SmK ⟨t.1,t.2⟩) then k ((zbN ⟨t.1,t.2⟩ x).Known,(zbN ⟨t.1,t.2⟩ x).Slots) else none) (fun (t:lB×lS)=>(some [(.agg (Ty.cells .kept (⟨t.1,t.2⟩:Kept)))])) (fun i d t rec=>?_) (fun t rec=>?_) _ ((zdS b).Known,(zdS b).Slots) (e g)).trans ?_;{simp only [zbn d,zT d,zbd d,zY d g,cT]};{simp only [zbh,cF]};exact zzy _ _ 0 b h
theorem zC8:vT 283 zj8:=kF3 zui zC zx zo zJF zI5
def zxw (N:Nat)(c:Kept)(d:lS)(e:Int):OA:=
 (oN (zdC c) (oN (zpE d e) (iter (σ:=(Int×(Int×((List Int)×(lB×(lS×(lB×(lS×Unit)))))))) N (fun g a=>let f:=(ix a.2.2.1 a.2.1 0);let b:=(⟨a.2.2.2.2.2.1,a.2.2.2.2.2.2.1⟩:Kept); (cond (ilt a.2.1 a.1) (oN (inb a.2.1 (ln a.2.2.1)) (oN (zcU b f) (g (a.1,((zL .i64 a.2.1 1),(a.2.2.1,(a.2.2.2.1,(a.2.2.2.2.1,((zem b f).Known,((zem b f).Slots,())))))))))) (some [(aT .kept b)]))) ((ln (zgp d e)),(0,((zgp d e),([],([],((zcS c).Known,((zcS c).Slots,()))))))))))
def zJA:FuncId->Nat->Option Tmpl:=zq [(277,0,{n:=25,tm:=[(6,.lp 0 0),(7,.lp 1 0),(14,.sl 0 []),(15,ti),(16,ti)],lo:=[(0,[.sl 1 [],.sl 2 []]),(1,[.sl 3 [],.sl 4 []])],ro:=[(0,.int,true),(1,.bool,true),(2,.slot,true),(3,.bool,true),(4,.slot,true)]})]
theorem zIW (c:Kept)(a:List Slot)(b:Int)(j:zhM c a b=true):∃N,zxw N c a b=some [aT .kept (zlO c a b)]:=by
 obtain⟨h,f⟩:=zO.1 j;have g:(zgp a b).length<=big:=qV (zzH _ a 0) (zcv f).1;refine zb6 fun N e=>?_;unfold zxw oN;conv=>zeta
 refine must (zby h) (must (zby (by omega)) ?_);refine(zbk (zgp a b) (fun i (t:lB×lS)=>((ln (zgp a b)),(i:Int),(zgp a b),[],[],t.1,t.2,())) _ (fun _ (x:Int) (t:List Bool×List Slot) k=>bif pc (SmK ⟨t.1,t.2⟩) then k ((zbN ⟨t.1,t.2⟩ x).Known,(zbN ⟨t.1,t.2⟩ x).Slots) else none) (fun (t:lB×lS)=>(some [(.agg (Ty.cells .kept (⟨t.1,t.2⟩:Kept)))])) (fun i d t rec=>?_) (fun t rec=>?_) _ ((zcS c).Known,(zcS c).Slots) (e g)).trans ?_;{simp only [zbn d,zT d,zbd d,zY d g,cT]};{simp only [zbh,cF]};exact zzy _ _ 0 c h
theorem zC0:vT 277 zj8:=kF3 zui zC zx zo zJA zIW
def flushed (l:List Entry)(p:Int):List Entry:=l.filter fun e=>!ieq e.Host p
theorem zGO (l:List Entry)(p:Int):(flushed l p).length<=l.length:=uD _ _
theorem zme {b e:Type}(p:b->Bool)(K:List b->Option e):∀(l:List b) (i:Nat) (a:List b),a.length+l.length<=2147483648->
 goL (fun _ x a d=>bif p x then (cond (few (ln (ap a [x]))) (d (ap a [x])) none) else d a) K l i a=K (a++l.filter p)
 |[],i,a,_=>by simp[goL]
 |x::l,i,a,h=>by simp only[qX]at h;simp only[goL];cases c:p x;{rw [cF,zme p K l (i+1) a (by omega),List.filter_cons_of_neg (by simp[c])]};{rw [cT,zge (by simp[ap];omega),cT,zme p K l (i+1) _ (by simp[ap];omega),List.filter_cons_of_pos c];simp[ap]}
@[simp] abbrev zed (l:List Entry)(p:Int):Bool:=pc (l.length<=1048576)
@[simp] abbrev zgz (l:List Entry)(p:Int):List Entry:=flushed l p
def zla:Run:=rF2 (dS .entry) dI fun b c=>(zed b c,[aS .entry (zgz b c)])
def zAG (N:Nat)(e:lE)(f:Int):OA:=
 (iter (σ:=(Int×(Int×(lE×(lE×Unit))))) N (fun d a=>let b:=a.2.2.1;let c:=(ix b a.2.1 zer); (cond (ilt a.2.1 (ln b)) (oN (inb a.2.1 (ln b)) (cond (ine c.Host a.1) (oN (inb a.2.1 (ln b)) (oN (few (ln (ap a.2.2.2.1 [c]))) (d (a.1,((zL .i64 a.2.1 1),(b,((ap a.2.2.2.1 [c]),()))))))) (d (a.1,((zL .i64 a.2.1 1),(b,(a.2.2.2.1,()))))))) (some [(aS .entry a.2.2.2.1)]))) (f,(0,(e,([],())))))
def zNt:FuncId->Nat->Option Tmpl:=zq [(284,0,{n:=29,tm:=[(0,.sl 0 []),(1,ti),(5,.sl 1 []),(6,ti)],lo:=[],ro:=[(0,.entry,false),(1,.entry,true)]})]
theorem zMj (a:List Entry)(b:Int)(h:zed a b=true):∃N,zAG N a b=some [aS .entry (zgz a b)]:=by
 have j:=zO.1 h;have f:=zcv j;refine zb6 fun N d=>?_;unfold zAG oN;conv=>zeta
 refine(zbk a (fun i (t:lE)=>(b,(i:Int),a,t,())) _ (fun _ (x:Entry) (t:List Entry) g=>bif !ieq x.Host b then (cond (few (ln (ap t [x]))) (g (ap t [x])) none) else g t) (fun (t:lE)=>(some [(.one (.s .entry t))])) (fun i c t rec=>?_) (fun t rec=>?_) _ ([]) (d f.1)).trans ?_;{simp only [zbn c,zT c,zbd c,zY c f.1,cT];rfl};{simp only [zbh,cF]};exact zme (fun e=>!ieq e.Host b) _ a 0 [] (by simpa using f.2)
theorem zFj:vT 284 zla:=kF2 zui zC zx zo zNt zMj
def zAr (N:Nat)(d:lE)(f:Int):OA:=
 (iter (σ:=(Int×(Int×(Int×(lE×(lE×Unit)))))) N (fun e a=>let b:=a.2.2.2.2.1;let c:=(ix b a.2.1 zer); (cond (ilt a.2.1 a.1) (oN (inb a.2.1 (ln b)) (cond (nB (ieq c.Host a.2.2.1)) (oN (few (ln (ap a.2.2.2.1 [c]))) (e (a.1,((zL .i64 a.2.1 1),(a.2.2.1,((ap a.2.2.2.1 [c]),(b,()))))))) (e (a.1,((zL .i64 a.2.1 1),(a.2.2.1,(a.2.2.2.1,(b,())))))))) (some [(aS .entry a.2.2.2.1)]))) ((ln d),(0,(f,([],(d,()))))))
def zNk:FuncId->Nat->Option Tmpl:=zq [(203,0,{n:=25,tm:=[(1,.fn 316 [0]),(5,.sl 0 []),(9,.sl 1 []),(10,ti),(11,ti)],lo:=[(0,[ti])],ro:=[(0,.entry,true),(1,.entry,false)]})]
theorem zL3 (a:List Entry)(b:Int)(h:zed a b=true):∃N,zAr N a b=some [aS .entry (zgz a b)]:=by
 have j:=zO.1 h;have f:=zcv j;refine zb6 fun N d=>?_;unfold zAr oN nB;conv=>zeta
 refine(zbk a (fun i (t:lE)=>((ln a),(i:Int),b,t,a,())) _ (fun _ (x:Entry) (t:List Entry) g=>bif !ieq x.Host b then (cond (few (ln (ap t [x]))) (g (ap t [x])) none) else g t) (fun (t:lE)=>(some [(.one (.s .entry t))])) (fun i c t rec=>?_) (fun t rec=>?_) _ ([]) (d f.1)).trans ?_;{simp only [zbn c,zT c,zbd c,zY c f.1,cT];cases ieq a[i].Host b<;>rfl};{simp only [zbh,cF]};exact zme (fun e=>!ieq e.Host b) _ a 0 [] (by simpa using f.2)
theorem zE4:vT 278 zla:=kF2 zui zC zx zo zNk zL3
def z0x:zZ:=[(283,zj8),(277,zj8),(284,zla),(278,zla)]++z8M
theorem zHX:zN z0x:=zh zC8 (zh zC0 (zh zFj (zh zE4 zui)))
def zl1 (b:List Guest)(p:Int):Nat->List Kept->List Kept
 | 0,a=>a
 |n+1,a=>up (zl1 b p n a) (n:Int) (zjV (ix (zl1 b p n a) (n:Int) zcN) (ix b (n:Int) zG).Live p)
theorem zqW (b:List Guest)(p:Int):∀(n:Nat) (a:List Kept),(zl1 b p n a).length=a.length
 | 0,_=>rfl
 |n+1,a=>by simp only[zl1,zfW];exact zqW b p n a
theorem zwM (b:List Guest)(p:Int):∀(n:Nat) (a:List Kept),n<=a.length->zCz a->zCz (zl1 b p n a)
 | 0,_,_,h=>h
 |n+1,a,e,h=>by have d:=zwM b p n a (by omega) h;have c:n<(zl1 b p n a).length:=(by rw[zqW];omega);exact ztZ d (z7F _ _ (by rw[zbd c];exact d.2 _ (q9 c)))
def zkZ (x:Mon)(p:Int)(n:Nat):Mon:={x with Tables:=zl1 x.Guests p n x.Tables}
theorem z5m {x:Mon}{p:Int}{n:Nat}(a:n<=x.Tables.length)(h:zeT x):zeT (zkZ x p n):=⟨h.1,h.2.1,h.2.2.1,h.2.2.2.1,h.2.2.2.2.1,zwM _ _ _ _ a h.2.2.2.2.2⟩
def zcq (h:Host)(m p:Int)(s:Slot):Host :=
 bif ine (ix (ix h.Mons m zi).Outer p zU).Page (-1)
 then ⟨h.Memory,up h.Mons m {zkZ (ix h.Mons m zi) p (ix h.Mons m zi).Tables.length with Outer:=up (ix h.Mons m zi).Outer p s},flushed h.Buffer (ix (ix h.Mons m zi).Outer p zU).Page,flushed h.IoBuffer (ix (ix h.Mons m zi).Outer p zU).Page⟩
 else ⟨h.Memory,up h.Mons m {zkZ (ix h.Mons m zi) p (ix h.Mons m zi).Tables.length with Outer:=up (ix h.Mons m zi).Outer p s},h.Buffer,h.IoBuffer⟩
def zbbz (h:Host)(m p:Int):Prop:=hasB m (ln h.Mons)=true/\hasB p (ln (ix h.Mons m zi).Outer)=true/\(ix h.Mons m zi).Tables.length<=(ix h.Mons m zi).Guests.length
@[simp] abbrev zfA (h:Host)(m p:Int)(s:Slot):Bool:=pc (zcY h/\zbbz h m p)
@[simp] abbrev zhA (h:Host)(m p:Int)(s:Slot):Host:=zcq h m p s
def zsU:List AV->Option (Bool×List AV)
 |[.agg [.s (.sl .int) b,.s .mon c,.s .entry d,.s .entry e],.one (.i .i64 f),.one (.i .i64 g),.agg [.i .i64 h,.i .i64 j]]=>some ((zfA (⟨b,c,d,e⟩:Host) f g (⟨h,j⟩:Slot)),[aH (zhA (⟨b,c,d,e⟩:Host) f g (⟨h,j⟩:Slot))])
 |_=>none
def zwZ (N:Nat)(p:Host)(g z:Int)(B:Slot):OA:=
 let v:=(ix p.Mons g zi); (oN (inb g (ln p.Mons)) (oN (inb z (ln v.Outer)) (iter (σ:=(Int×(Int×(Int×(Int×(Int×(Int×(Int×(Int×(Int×(Int×(Int×(Int×(Int×(Int×(Int×(lM×(lN×(lE×(lE×(lM×(lN×(lE×(lE×Unit)))))))))))))))))))))))) N (fun D a=>let d:=a.2.2.1;let m:=a.2.2.2.2.2.2.2.2.2.2.2.1;let l:=a.2.2.2.2.2.2.2.2.2.2.2.2.1;let k:=a.2.2.2.2.2.2.2.2.2.2.2.2.2.2.1;let j:=a.2.2.2.2.2.2.2.2.2.2.2.2.2.2.2.1;let f:=a.2.2.2.2.2.2.2.1;let e:=a.2.2.2.2.2.2.2.2.1;let c:=a.2.2.2.1;let w:=a.2.2.2.2.2.2.2.2.2.2.1;let y:=a.2.2.2.2.2.2.2.2.2.2.2.2.2.2.2.2.2.1;let x:=a.2.2.2.2.2.2.2.2.2.2.2.2.2.2.2.2.2.2.1;let n:=a.2.2.2.2.2.2.1;let r:=a.2.2.2.2.2.2.2.2.2.1;let i:=a.2.2.2.2.2.2.2.2.2.2.2.2.2.1;let q:=a.2.2.2.2.2.2.2.2.2.2.2.2.2.2.2.2.1;let u:=(ix q r zi).Guests;let t:=(ix u c zG).Live;let h:=(ix q n zi);let s:=(ix q i zi).Tables;let C:=(up q n ({h with Outer:=(up h.Outer a.2.1 (⟨a.2.2.2.2.1,a.2.2.2.2.2.1⟩:Slot))}:Mon)); (cond (ilt c (ln s)) (oN (inb c (ln s)) (oN (inb c (ln u)) (oN (zhM (ix s c zcN) t a.2.1) (oN (inb c (ln s)) (share (up q i ({ (ix q i zi) with Tables:=(up s c (zlO (ix s c zcN) t a.2.1))}:Mon)) (fun b=>(D (a.1,(a.2.1,(d,((zL .i64 c 1),(a.2.2.2.2.1,(a.2.2.2.2.2.1,(n,(f,(e,(r,(w,(m,(l,(i,(k,(j,(b,(y,(x,(a.2.2.2.2.2.2.2.2.2.2.2.2.2.2.2.2.2.2.2.1,(a.2.2.2.2.2.2.2.2.2.2.2.2.2.2.2.2.2.2.2.2.1,(a.2.2.2.2.2.2.2.2.2.2.2.2.2.2.2.2.2.2.2.2.2.1,(a.2.2.2.2.2.2.2.2.2.2.2.2.2.2.2.2.2.2.2.2.2.2.1,())))))))))))))))))))))))))))))) (cond (ine d (-1)) (oN (zed y d) (oN (zed x d) (oN (inb a.2.1 (ln h.Outer)) (share C (fun b=>(oN (inb a.1 (ln b)) (oN (cond (cond (cond (cond (cond (cond (ieq i a.1) true false) (cond (ieq w a.1) true false) false) (cond (ieq r a.1) true false) false) (cond (ieq e a.1) true false) false) (cond (ieq f a.1) true false) false) (cond (ieq n a.1) true false) false) (share (up b a.1 ({ (ix b n zi) with Out:=(ix b f zi).Out,Dirty:=(ix b e zi).Dirty,Guests:=(ix b r zi).Guests,Outs:=(ix b w zi).Outs,Pending:=m,Traps:=l,Tables:=(ix b i zi).Tables,Own:=k}:Mon)) (fun A=>(some [(aH (⟨j,A,(zgz y d),(zgz x d)⟩:Host))])))))))))) (oN (inb a.2.1 (ln h.Outer)) (share C (fun b=>(oN (inb a.1 (ln b)) (oN (cond (cond (cond (cond (cond (cond (ieq i a.1) true false) (cond (ieq w a.1) true false) false) (cond (ieq r a.1) true false) false) (cond (ieq e a.1) true false) false) (cond (ieq f a.1) true false) false) (cond (ieq n a.1) true false) false) (share (up b a.1 ({ (ix b n zi) with Out:=(ix b f zi).Out,Dirty:=(ix b e zi).Dirty,Guests:=(ix b r zi).Guests,Outs:=(ix b w zi).Outs,Pending:=m,Traps:=l,Tables:=(ix b i zi).Tables,Own:=k}:Mon)) (fun A=>(some [(aH (⟨j,A,y,x⟩:Host))]))))))))))) (g,(z,((ix v.Outer z zU).Page,(0,(B.Page,(B.Rights,(g,(g,(g,(g,(g,(v.Pending,(v.Traps,(g,(v.Own,(p.Memory,(p.Mons,(p.Buffer,(p.IoBuffer,([],([],([],([],()))))))))))))))))))))))))))
def zTo:FuncId->Nat->Option Tmpl:=zq [(213,0,{n:=70,tm:=[(1,ti),(2,ti),(4,.lp 0 0),(7,.lp 1 0),(8,.lp 2 0),(9,.lp 3 0),(10,ti),(11,ti)],lo:=[(0,[.sl 0 [],.sl 1 [],.sl 2 [],.sl 3 []]),(1,[ti,ti]),(2,[.sl 4 [],.sl 5 [],.sl 6 [],.sl 7 []]),(3,[.sl 1 [0],.sl 1 [1],.sl 1 [2],.sl 1 [3],.sl 1 [4],ti,ti,.sl 1 [7],ti])],ro:=[(0,(.sl .int),true),(1,.mon,true),(2,.entry,true),(3,.entry,true),(4,(.sl .int),true),(5,.mon,true),(6,.entry,true),(7,.entry,true)]})]
theorem zVX (N:Nat)(a:Host)(b c:Int)(d:Slot):zEC (cQ z0x zqy zPI zW2) zTo N 12 213 [true,true,true,true,false,false,false,false] 1 1 [[0],[1],[2],[4],[7]] .mon [aH a,aI b,aI c,aT .slot d]=zwZ N a b c d:=by kernel_rfl
theorem zST (a:Host)(f b:Int)(d:Slot)(D:zbU big [aH a,aI f,aI b,aT .slot d])(y:zfA a f b d=true):∃N,zwZ N a f b d=some [aH (zhA a f b d)]:=by
 obtain⟨B,g,s,C⟩:=zO.1 y;have l:=(zX a).1 B;have r:zeT (ix a.Mons f zi):=l.2.1.2 _ (zbG g _);obtain⟨k,rfl,q⟩:=zd4 (n:=a.Mons.length) g;have x:=(zcv r.2.2.2.2.2.1).1;refine zb6 fun N p=>?_;unfold zwZ oN;conv=>zeta
 refine must g (must s ?_);refine zif (ix a.Mons (k:Int) zi).Tables.length (fun i (t:List Mon)=>((k:Int),b,(ix (ix a.Mons (k:Int) zi).Outer b zU).Page,(i:Int),d.Page,d.Rights,(k:Int),(k:Int),(k:Int),(k:Int),(k:Int),(ix a.Mons (k:Int) zi).Pending,(ix a.Mons (k:Int) zi).Traps,(k:Int),(ix a.Mons (k:Int) zi).Own,a.Memory,t,a.Buffer,a.IoBuffer,[],[],[],[],())) _
  (fun i t=>t=up a.Mons (k:Int) (zkZ (ix a.Mons (k:Int) zi) b i)) (fun _ _=>some [AV.agg (zbq (zcq a (k:Int) b d))]) (fun i t rec u m A=>?_) (fun t rec m=>?_) _ 0 a.Mons ?_ (jQ _) ?_
 .subst m;have c:i<(zl1 (ix a.Mons (k:Int) zi).Guests b i (ix a.Mons (k:Int) zi).Tables).length:=(by rw[zqW];exact u);have e:i<(ix a.Mons (k:Int) zi).Guests.length:=by omega
  have z:zhM (ix (zl1 (ix a.Mons (k:Int) zi).Guests b i (ix a.Mons (k:Int) zi).Tables) (i:Int) zcN) (ix (ix a.Mons (k:Int) zi).Guests (i:Int) zG).Live b=true :=
   zby ⟨by rw[zbd c];exact(zwM _ _ _ _ (by omega) r.2.2.2.2.2).2 _ (q9 c),by rw[zbd e];exact(r.2.2.2.1.2 _ (q9 e)).2.2.1⟩
  simp only[zdT q,ztM,zkZ,zbn c,zT c,zT e,z,cT,share,zY u x];exact A _ rfl
 {subst m;simp only[zdT q,ztM,zfW,zkZ,ln,zqW,zde,show ilt (((ix a.Mons (k:Int) zi).Tables.length:Nat):Int) (((ix a.Mons (k:Int) zi).Tables.length:Nat):Int)=false from qL (by omega),cT,cF,share];have h:inb (k:Int) ((a.Mons.length:Nat):Int)=true:=g;have j:inb b (((ix a.Mons (k:Int) zi).Outer.length:Nat):Int)=true:=s;have v:zed a.Buffer (ix (ix a.Mons (k:Int) zi).Outer b zU).Page=true:=zby l.2.2.1;have w:zed a.IoBuffer (ix (ix a.Mons (k:Int) zi).Outer b zU).Page=true:=zby l.2.2.2;simp only[h,j,v,w,cT];unfold zcq;cases ine (ix (ix a.Mons (k:Int) zi).Outer b zU).Page (-1)<;>rfl};{exact(zE1 q _).symm};{exact p (by omega)}
theorem zLR:zeu Tryz.prog 213 [true,true,true,true,false,false,false,false] (some (1,1,[[0],[1],[2],[4],[7]])) zsU:=by refine zmg (kt:=.mon) (zgZ zHX zC zx zo) (zjU (by kernel_rfl)) (by kernel_rfl) ?_;intro a g f e h;have c:=zi9 e;unfold zsU at h;split at h;{obtain⟨d,rfl⟩:=zeA h;obtain⟨N,b⟩:=zST _ _ _ _ (by exact c) d;exact⟨⟨_,rfl⟩,rfl,_,N,12,(zVX N _ _ _ _ ).trans b⟩};{cases h}
def zW3:zfh:=[(213,([true,true,true,true,false,false,false,false],(some (1,1,[[0],[1],[2],[4],[7]])),zsU))]++zW2
theorem zdO:zd9 zW3:=zoa zo (by
 intro x a;simp only[qG,qN,or_false]at a;rcases a with rfl
 .exact zLR)
def zXw (x:Mon)(p:Int):Mon:={x with Dirty:=up x.Dirty p false}
def zqX (h:Host)(m p:Int):Host:={h with Mons:=up h.Mons m (zXw (ix h.Mons m zi) p)}
def zut (h:Host)(m p:Int):Host:=bif zcH h m p then (cond (zcQ (ix (ix h.Mons m zi).Outer p zU) noSlot) (zqX h m p) (zcq (zqX h m p) m p ⟨(ix (ix h.Mons m zi).Outer p zU).Page,1⟩)) else h
theorem zzE:∀(l:List Mon) (u:List Bool),zhS l u=true->∀x∈l,zd7 x=true
 |[],_,_,x,a=>by cases a
 |m::l,u,h,x,a=>by
  simp only[zhS]at h;cases b:zd7 m;{rw [b]at h;cases h}
  .rw [b]at h;simp only[cT]at h;cases c:zgX m.Outer u with
   |none=>rw[c]at h;cases h
   |some d =>rw[c]at h;rcases qG.1 a with rfl|a;{exact b};{exact zzE l d h x a}
structure PageAt (h:Host) (m p:Int):Prop where
 hm:hasB m (ln h.Mons)=true
 hp:hasB p 8=true
 ok:zd7 (ix h.Mons m zi)=true
 ho:(ix h.Mons m zi).Outer.length=8
 hd:(ix h.Mons m zi).Dirty.length=8
 ht:(ix h.Mons m zi).Tables.length=(ix h.Mons m zi).Guests.length
 hs:zcQ (ix (ix h.Mons m zi).Outer p zU) noSlot=ieq (ix (ix h.Mons m zi).Outer p zU).Page (-1)
theorem zRF {s:Slot}{n:Int}(h:zd2 s n=true):zcQ s noSlot=ieq s.Page (-1):=by unfold zd2 at h;cases a:zcQ s noSlot;{rw [a]at h;cases d:ieq s.Page (-1);{rfl};{have e:s.Page = -1:=qE d;cases b:igt n 0;{rw [b]at h;cases h};{cases c:zk s.Page 0 (wsub .i64 n 1);{rw [b,c]at h;cases h};{have:=(zgs.1 c).1;omega}}}};{unfold zcQ at a;rw[qD]at a;exact a.1.symm}
theorem zMF {h:Host}{m p:Int}(d:zcH h m p=true):PageAt h m p:=by unfold zcH at d;simp only[zdj]at d;obtain⟨c,f,g⟩:=d;unfold zb2 at c;simp only[zdj]at c;have b:=zzE _ _ c.2.2.2.2 _ (zbG f zi);have a:=b;unfold zd7 at a;simp only[zdj]at a;have i:(ix h.Mons m zi).Outer.length=8:=(by have:=zow a.2.2.1;simp only[ln] at this;omega);refine⟨f,g,b,i,?_,?_,?_⟩;{have:ln (ix h.Mons m zi).Dirty=8:=qE a.2.2.2.2.1;simp only[ln] at this;omega};{have:ln (ix h.Mons m zi).Tables=ln (ix h.Mons m zi).Guests:=qE a.2.1;simp only[ln] at this;omega};{have e:=a.2.2.1;unfold zdc at e;simp only[zdj]at e;have j:hasB p (ln (ix h.Mons m zi).Outer)=true:=(by rw[ln,i];exact g);exact zRF (qJ.1 e.1 _ (zbG j _))}
theorem zWS {x:Mon}{p:Int}(h:zeT x):zeT (zXw x p):=⟨h.1,h.2.1,by simpa [zXw] using h.2.2.1,h.2.2.2⟩
theorem zAi {h:Host}{m p:Int}(b:hasB m (ln h.Mons)=true)(a:SmH h):SmH (zqX h m p):=⟨a.1,ziH a.2.1 (zWS (a.2.1.2 _ (zbG b _))),a.2.2⟩
theorem zHt {h:Host}{m p:Int}{s:Slot}(d:hasB m (ln h.Mons)=true)(a:SmH h):SmH (zcq h m p s):=by have c:=a.2.1.2 _ (zbG d zi);have e:=z5m (p:=p) (qY _) c;have b:zoE (up h.Mons m {zkZ (ix h.Mons m zi) p (ix h.Mons m zi).Tables.length with Outer:=up (ix h.Mons m zi).Outer p s}):=ziH a.2.1 ⟨by simpa using c.1,e.2⟩;unfold zcq;cases ine (ix (ix h.Mons m zi).Outer p zU).Page (-1);{exact⟨a.1,b,a.2.2⟩};{exact⟨a.1,b,qV (zGO _ _) a.2.2.1,qV (zGO _ _) a.2.2.2⟩}
theorem zAm {h:Host}{m p:Int}(a:hasB m (ln h.Mons)=true):hasB m (ln (zqX h m p).Mons)=true:=by unfold zqX;simpa [ln] using a
theorem z5i {h:Host}{m p:Int}(a:SmH h):SmH (zut h m p):=by unfold zut;cases b:zcH h m p;{exact a};{have P:=zMF b;cases zcQ (ix (ix h.Mons m zi).Outer p zU) noSlot;{exact zHt (zAm P.hm) (zAi P.hm a)};{exact zAi P.hm a}}
@[simp] abbrev ziA (h:Host)(m p:Int):Bool:=pc (zcY h)
@[simp] abbrev zwu (h:Host)(m p:Int):Host:=zut h m p
def zHc:Run:=rF3 dH dI dI fun b c d=>(ziA b c d,[aH (zwu b c d),aB (zf1 b c d)])
def zQr (N:Nat)(h:Host)(a b:Int):OA:=
 let c:=(zu h);let g:=(ix c.Mons a zi); (oN (zV h) (oN (zot c a b) (cond (nB (zf1 c a b)) (some [(aH c),(aB false)]) (oN (inb a (ln c.Mons)) (oN (inb b (ln g.Dirty)) (share (up c.Mons a ({g with Dirty:=(up g.Dirty b false)}:Mon)) (fun d=>let i:=(ix d a zi).Outer;let f:=({c with Mons:=d}:Host);let e:=(ix i b zU);let j:=({e with Rights:=1}:Slot); (oN (inb a (ln d)) (oN (inb b (ln i)) (oN zbE (cond (cond (ieq e.Page zbc.Page) (ieq e.Rights zbc.Rights) false) (some [(aH f),(aB true)]) (oN (zfA f a b j) (some [(aH (zhA f a b j)),(aB true)])))))))))))))
theorem zYa (a:Host)(c b:Int)(j:ziA a c b=true):∃N,zQr N a c b=some [aH (zwu a c b),aB (zf1 a c b)]:=by
 have g:=zO.1 j;have i:=(zX a).1 g;refine⟨0,?_⟩;unfold zQr zwu zf1 zut oN nB;conv=>zeta
 refine must (zby g) (must rfl ?_);cases f:zcH a c b;{simp only [zf1,zu,f,cF,cT]};{have P:=zMF f;obtain⟨k,rfl,d⟩:=zd4 (n:=a.Mons.length) P.hm;simp only[zf1,zu,f,cT,cF];have l:inb b (ln (ix a.Mons (k:Int) zi).Dirty)=true:=(by rw[ln,P.hd];exact P.hp);have h:inb b (ln (ix a.Mons (k:Int) zi).Outer)=true:=(by rw[ln,P.ho];exact P.hp);refine must P.hm (must l ?_);simp only[share,zdT d,h,cT,zbE,zbc];refine must (zAm (p:=b) P.hm) ?_;have e:∀s:Slot,zcQ s noSlot=bif ieq s.Page noSlot.Page then ieq s.Rights noSlot.Rights else false:=fun s=>(by unfold zcQ;cases ieq s.Page noSlot.Page<;>rfl);rw[<- e];cases zcQ (ix (ix a.Mons (k:Int) zi).Outer b zU) noSlot;{refine zdU rfl (must (zby ⟨(zX _).2 (zAi P.hm i),zAm (p:=b) P.hm,?_,?_⟩) rfl);{simp only [zdT d];exact h};{simp only [zdT d];exact k7 P.ht}};{rfl}}
theorem zRZ:vT 337 zHc:=kF3 zHX zC zx zdO (zq []) zYa
def z3j:zZ:=[(337,zHc)]++z0x
theorem z3k:zN z3j:=zh zRZ zHX
def z3l:zZ:=z3j
theorem zf2:zN z3l:=z3k
def zzU (o i t:Int):Int:=bif zhI i t then 1 else (cond (zhI o t) 2 0)
@[simp] abbrev zry (o i t:Int):Bool:=true
@[simp] abbrev zop (o i t:Int):Int:=zzU o i t
def zBg:Run:=rF3 dI dI dI fun b c d=>(zry b c d,[aI (zop b c d)])
def zGn (N:Nat)(b c a:Int):OA:=
 (oN (ziR c a) (cond (ziC c a) (some [(aI 1)]) (oN (ziR b a) (cond (ziC b a) (some [(aI 2)]) (some [(aI 0)])))))
theorem zSD (a b c:Int)(d:zry a b c=true):∃N,zGn N a b c=some [aI (zop a b c)]:=by refine⟨0,?_⟩;unfold zGn oN;refine must rfl (br (fun _=>?_) (fun _=>must rfl (br (fun _=>?_) (fun _=>?_))));all_goals first|rfl|(simp only [*,zop,zzU,cT,cF]<;>rfl)|simp_all[Ty.cells,zop,zzU]
theorem zLt:vT 353 zBg:=kF3 zf2 zC zx zdO (zq []) zSD
theorem has3 (p:Int):hasB p 3=zk p 0 2:=by unfold hasB zk ige ile;by_cases a:0<=p<;>by_cases b:p<3;{rw [qI (p:=0<=p/\p<3) ⟨a,b⟩,qI (p:=p≥0) a,qI (p:=p<=2) (by omega)];rfl};{rw [qL (p:=0<=p/\p<3) (by omega),qL (p:=p<=2) (by omega)];simp};{rw [qL (p:=0<=p/\p<3) (by omega),qL (p:=p≥0) (by omega)];simp};{rw [qL (p:=0<=p/\p<3) (by omega),qL (p:=p≥0) (by omega)];simp}
theorem has2 (p:Int):hasB p 2=zk p 0 1:=by unfold hasB zk ige ile;by_cases a:0<=p<;>by_cases b:p<2;{rw [qI (p:=0<=p/\p<2) ⟨a,b⟩,qI (p:=p≥0) a,qI (p:=p<=1) (by omega)];rfl};{rw [qL (p:=0<=p/\p<2) (by omega),qL (p:=p<=1) (by omega)];simp};{rw [qL (p:=0<=p/\p<2) (by omega),qL (p:=p≥0) (by omega)];simp};{rw [qL (p:=0<=p/\p<2) (by omega),qL (p:=p≥0) (by omega)];simp}
def zd8 (m g:Int):Int:=bif zk m 0 2 then (cond (zk g 0 1) (zL .i64 (zL .i64 1 g) (zmR .i64 m 2)) 0) else 0
@[simp] abbrev zhw (m g:Int):Bool:=true
@[simp] abbrev zkT (m g:Int):Int:=zd8 m g
def zro:Run:=rF2 dI dI fun b c=>(zhw b c,[aI (zkT b c)])
def zQz (N:Nat)(a b:Int):OA:=
 (oN (zM a 0 2) (cond (nB (zk a 0 2)) (some [(aI 0)]) (oN (zM b 0 1) (cond (nB (zk b 0 1)) (some [(aI 0)]) (some [(aI (zL .i64 (zL .i64 1 b) (zmR .i64 a 2)))])))))
theorem zYh (a b:Int)(c:zhw a b=true):∃N,zQz N a b=some [aI (zkT a b)]:=by refine⟨0,?_⟩;unfold zQz oN nB;refine must rfl (brN (fun _=>?_) (fun _=>must rfl (brN (fun _=>?_) (fun _=>?_))));all_goals first|rfl|(simp only [*,zkT,zd8,cT,cF]<;>rfl)|simp_all[Ty.cells,zkT,zd8]
theorem zR6:vT 37 zro:=kF2 zf2 zC zx zdO (zq []) zYh
def zQm (N:Nat)(a b:Int):OA:=
 (oN (zbQ a 3) (cond (nB (zeW a 3)) (some [(aI 0)]) (oN (zbQ b 2) (cond (nB (zeW b 2)) (some [(aI 0)]) (some [(aI (zL .i64 (zL .i64 1 b) (zmR .i64 a 2)))])))))
theorem zX5 (a b:Int)(c:zhw a b=true):∃N,zQm N a b=some [aI (zkT a b)]:=by refine⟨0,?_⟩;unfold zQm oN nB;refine must rfl (brN (fun _=>?_) (fun _=>must rfl (brN (fun _=>?_) (fun _=>?_))));all_goals first|rfl|(simp only [*,zkT,zd8,has3,has2,cT,cF]<;>rfl)|simp_all[Ty.cells,zkT,zd8,has3,has2]
theorem zRT:vT 106 zro:=kF2 zf2 zC zx zdO (zq []) zX5
def zkv (k:Kept)(p:Int):Bool:=bif zdb k p then ix k.Known p false else false
def zdZ (k:Kept)(p:Int):Slot:=bif zkv k p then ix k.Slots p zU else noSlot
@[simp] abbrev zik (k:Kept)(p:Int):Slot:=zdZ k p
@[simp] abbrev zoo (k:Kept)(p:Int):Bool:=zkv k p
def zRz:Run:=rF2 (dT .kept) dI fun b c=>(zcU b c,[aT .slot (zik b c),aB (zoo b c)])
def zY7 (N:Nat)(a:Kept)(b:Int):OA:=
 let c:=(ix a.Slots b zU); (oN (zcU a b) (cond (nB (ziY a b)) (oN zbE (some [(.agg [(.i .i64 zbc.Page),(.i .i64 zbc.Rights)]),(aB false)])) (oN (inb b (ln a.Known)) (cond (nB (ix a.Known b false)) (oN zbE (some [(.agg [(.i .i64 zbc.Page),(.i .i64 zbc.Rights)]),(aB false)])) (oN (inb b (ln a.Slots)) (some [(.agg [(.i .i64 c.Page),(.i .i64 c.Rights)]),(aB true)]))))))
theorem z4a (a:Kept)(b:Int)(f:zcU a b=true):∃N,zY7 N a b=some [aT .slot (zik a b),aB (zoo a b)]:=by
 have g:=zO.1 f;refine⟨0,?_⟩;unfold zY7 zik zoo zdZ zkv oN nB;conv=>zeta
 refine must (zby g) ?_;rw[show ziY a b=zdb a b from rfl];cases c:zdb a b;{rfl};{unfold zdb at c;obtain⟨d,e⟩:=zdj.1 c;simp only[zF d,zF e,cT];cases ix a.Known b false<;>rfl}
theorem zXY:vT 35 zRz:=kF2 zf2 zC zx zdO (zq []) z4a
@[simp] abbrev zx0 (k:Kept)(p:Int):Bool:=true
def zRw:Run:=rF2 (dT .kept) dI fun b c=>(zx0 b c,[aT .slot (zik b c),aB (zoo b c)])
def zY4 (N:Nat)(a:Kept)(b:Int):OA:=
 let c:=(ix a.Slots b zU); (oN (zbQ b (ln a.Known)) (cond (nB (zeW b (ln a.Known))) (oN zbE (some [(.agg [(.i .i64 zbc.Page),(.i .i64 zbc.Rights)]),(aB false)])) (oN (zbQ b (ln a.Slots)) (cond (nB (zeW b (ln a.Slots))) (oN zbE (some [(.agg [(.i .i64 zbc.Page),(.i .i64 zbc.Rights)]),(aB false)])) (oN (inb b (ln a.Known)) (cond (nB (ix a.Known b false)) (oN zbE (some [(.agg [(.i .i64 zbc.Page),(.i .i64 zbc.Rights)]),(aB false)])) (oN (inb b (ln a.Slots)) (some [(.agg [(.i .i64 c.Page),(.i .i64 c.Rights)]),(aB true)]))))))))
theorem z3X (a:Kept)(b:Int)(e:zx0 a b=true):∃N,zY4 N a b=some [aT .slot (zik a b),aB (zoo a b)]:=by
 refine⟨0,?_⟩;unfold zY4 zik zoo zdZ zkv zdb oN nB;conv=>zeta
 rw[show zeW b (ln a.Known)=hasB b (ln a.Known) from rfl,show zeW b (ln a.Slots)=hasB b (ln a.Slots) from rfl];cases c:hasB b (ln a.Known);{rfl};{cases d:hasB b (ln a.Slots);{rfl};{simp only [zbQ,zF c,zF d,cT];cases ix a.Known b false<;>rfl}}
theorem zXV:vT 218 zRw:=kF2 zf2 zC zx zdO (zq []) z3X
def filled (k:Kept)(a b:List Slot)(p:Int):Kept:=bif zdb k p then (cond (hasB p (ln a)) ⟨up k.Known p true,up k.Slots p (zbx (ix a p zU) b)⟩ k) else k
@[simp] theorem z2o {k:Kept}{a b:List Slot}{p:Int}(h:SmK k):SmK (filled k a b p):=by unfold filled;cases zdb k p;{exact h};{cases hasB p (ln a);{exact h};{exact⟨by simpa using h.1,by simpa using h.2⟩}}
@[simp] abbrev zuZ (k:Kept)(i o:List Slot)(p:Int):Bool:=pc (SmK k)
@[simp] abbrev zuY (k:Kept)(i o:List Slot)(p:Int):Kept:=filled k i o p
def ztx:Run:=rF4 (dT .kept) (dS .slot) (dS .slot) dI fun b c d e=>(zuZ b c d e,[aT .kept (zuY b c d e)])
def zTM (N:Nat)(d:Kept)(c e:lS)(a:Int):OA:=
 let b:=(zdS d); (oN (zgE d) (oN (zcU b a) (cond (ziY b a) (cond (ilt a (ln c)) (oN (inb a (ln b.Known)) (share (up b.Known a true) (fun f=>(oN (inb a (ln c)) (oN (zdX (ix c a zU) e) (oN (inb a (ln b.Slots)) (share (up b.Slots a (zec (ix c a zU) e)) (fun g=>(some [(aT .kept (⟨f,g⟩:Kept))]))))))))) (some [(aT .kept b)])) (some [(aT .kept b)]))))
theorem z1k (b:Kept)(c d:List Slot)(a:Int)(j:zuZ b c d a=true):∃N,zTM N b c d a=some [aT .kept (zuY b c d a)]:=by
 have g:=zO.1 j;refine⟨0,?_⟩;unfold zTM zuY filled oN;conv=>zeta
 refine must (zby ((zxJ _).2 g)) (must (zby g) ?_);rw[show ziY (zdS b) a=zdb b a from rfl];cases f:zdb b a;{rfl};{unfold zdb at f;obtain⟨e,h⟩:=zdj.1 f;rw[has_lt e (m:=ln c)];cases i:hasB a (ln c);{rfl};{simp only [cT,zdS,zF e,zF h,zF i,share,zdX];rfl}}
theorem zUU:vT 223 ztx:=kF4 zf2 zC zx zdO (zq []) z1k
def zTK (N:Nat)(c:Kept)(d e:lS)(a:Int):OA:=
 let b:=(zcS c); (oN (zdC c) (oN (zbQ a (ln c.Known)) (cond (zeW a (ln c.Known)) (oN (zbQ a (ln c.Slots)) (cond (zeW a (ln c.Slots)) (oN (zbQ a (ln d)) (cond (zeW a (ln d)) (oN (inb a (ln b.Known)) (share (up b.Known a true) (fun f=>(oN (inb a (ln d)) (oN (zdX (ix d a zU) e) (oN (inb a (ln b.Slots)) (share (up b.Slots a (zec (ix d a zU) e)) (fun g=>(some [(aT .kept (⟨f,g⟩:Kept))]))))))))) (some [(aT .kept b)]))) (some [(aT .kept b)]))) (some [(aT .kept b)]))))
theorem z1g (b:Kept)(c d:List Slot)(a:Int)(h:zuZ b c d a=true):∃N,zTK N b c d a=some [aT .kept (zuY b c d a)]:=by
 have i:=zO.1 h;refine⟨0,?_⟩;unfold zTK zuY filled zdb oN;conv=>zeta
 refine must (zby i) ?_;simp only[zeW,zbQ,zcS,cT];cases e:hasB a (ln b.Known);{rfl};{cases f:hasB a (ln b.Slots);{rfl};{cases g:hasB a (ln c);{rfl};{simp only [cT,zF e,zF f,zF g,share,zdX];rfl}}}
theorem zUR:vT 219 ztx:=kF4 zf2 zC zx zdO (zq []) z1g
theorem zH7 {a b:Type}(p:a->Bool)(r:a->Option b)(K:Unit->Option b):∀(l:List a) (i:Nat),goL (fun _ x (_:Unit) k=>bif p x then r x else k ()) K l i ()=match l.find? p with|some x=>r x|none=>K ()
 |[],_=>rfl
 |x::l,i=>by simp only[goL];cases h:p x;{rw [List.find?_cons_of_neg (by simp[h])];exact zH7 p r K l (i+1)};{rw [List.find?_cons_of_pos h];rfl}
def zzs (b:List Entry)(t p:Int):Option Entry:=b.find? fun e=>bif ieq e.Tag t then ieq e.Page p else false
@[simp] abbrev zg9 (b:List Entry)(t p:Int):Bool:=true
@[simp] abbrev zf8 (b:List Entry)(t p:Int):Entry:=(zzs b t p).getD ⟨0,0,0,0⟩
@[simp] abbrev zfe (b:List Entry)(t p:Int):Bool:=(zzs b t p).isSome
def zk9:Run:=rF3 (dS .entry) dI dI fun b c d=>(zg9 b c d,[aT .entry (zf8 b c d),aB (zfe b c d)])
def zAF (N:Nat)(f:lE)(g h:Int):OA:=
 (iter (σ:=(Int×(Int×(Int×(Int×(Int×(Int×(Int×(lE×Unit))))))))) N (fun j a=>let c:=a.2.2.2.2.2.2.2.1;let d:=(inb a.2.2.1 (ln c));let e:=(j (a.1,(a.2.1,((zL .i64 a.2.2.1 1),(a.2.2.2.1,(a.2.2.2.2.1,(a.2.2.2.2.2.1,(a.2.2.2.2.2.2.1,(c,())))))))));let b:=(ix c a.2.2.1 zer); (cond (ilt a.2.2.1 (ln c)) (oN d (cond (ieq b.Tag a.1) (oN d (cond (ieq b.Page a.2.1) (oN d (some [(.agg [(.i .i64 b.Tag),(.i .i64 b.Page),(.i .i64 b.Host),(.i .i64 b.Rights)]),(aB true)])) e)) e)) (some [(.agg [(.i .i64 0),(.i .i64 0),(.i .i64 0),(.i .i64 0)]),(aB false)]))) (g,(h,(0,(0,(0,(0,(0,(f,())))))))))
def zNs:FuncId->Nat->Option Tmpl:=zq [(36,0,{n:=36,tm:=[(0,.sl 0 []),(1,ti),(2,ti),(6,.lp 0 0),(8,ti)],lo:=[(0,[ti,ti,ti,ti])],ro:=[(0,.entry,false)]})]
theorem zMi (a:List Entry)(c d:Int)(j:zbU big [aS .entry a,aI c,aI d])(l:zg9 a c d=true):∃N,zAF N a c d=some [aT .entry (zf8 a c d),aB (zfe a c d)]:=by
 have h:=(len0 j);refine zb6 fun N g=>?_;unfold zAF oN;conv=>zeta
 refine(zbk a (fun i (t:Unit)=>(c,d,(i:Int),0,0,0,0,a,())) _ (fun _ (x:Entry) (_:Unit) k=>bif (cond (ieq x.Tag c) (ieq x.Page d) false) then (some [AV.agg (Ty.cells .entry x),AV.one (.b true)]) else k ()) (fun (t:Unit)=>(some [(.agg [(.i .i64 0),(.i .i64 0),(.i .i64 0),(.i .i64 0)]),(.one (.b false))])) (fun i f t rec=>?_) (fun t rec=>?_) _ () (g h)).trans ?_;{simp only [zbn f,zT f,zbd f,zY f h,cT];cases ieq a[i].Tag c<;>cases ieq a[i].Page d<;>rfl};{simp only [zbh,cF]};rw[zH7 (fun e:Entry=>bif ieq e.Tag c then ieq e.Page d else false)];unfold zf8 zfe zzs;cases a.find? (fun e:Entry=>bif ieq e.Tag c then ieq e.Page d else false)<;>rfl
theorem zFi:vT 36 zk9:=hF3 zf2 zC zx zdO zNs zMi
def zAq (N:Nat)(d:lE)(f g:Int):OA:=
 (iter (σ:=(Int×(Int×(Int×(Int×(Int×(Int×(Int×(Int×(lE×Unit)))))))))) N (fun h a=>let c:=a.2.2.2.2.2.2.2.2.1;let e:=(h (a.1,(a.2.1,(a.2.2.1,((zL .i64 a.2.2.2.1 1),(a.2.2.2.2.1,(a.2.2.2.2.2.1,(a.2.2.2.2.2.2.1,(a.2.2.2.2.2.2.2.1,(c,()))))))))));let b:=(ix c a.2.2.2.1 zer); (cond (ilt a.2.2.2.1 a.2.2.1) (oN (inb a.2.2.2.1 (ln c)) (cond (ieq b.Tag a.1) (cond (ieq b.Page a.2.1) (some [(.agg [(.i .i64 b.Tag),(.i .i64 b.Page),(.i .i64 b.Host),(.i .i64 b.Rights)]),(aB true)]) e) e)) (some [(.agg [(.i .i64 0),(.i .i64 0),(.i .i64 0),(.i .i64 0)]),(aB false)]))) (f,(g,((ln d),(0,(0,(0,(0,(0,(d,()))))))))))
def zNj:FuncId->Nat->Option Tmpl:=zq [(217,0,{n:=29,tm:=[(1,ti),(2,ti),(6,.lp 0 0),(10,.sl 0 []),(11,ti),(12,ti)],lo:=[(0,[ti,ti,ti,ti])],ro:=[(0,.entry,false)]})]
theorem zL2 (a:List Entry)(c d:Int)(j:zbU big [aS .entry a,aI c,aI d])(l:zg9 a c d=true):∃N,zAq N a c d=some [aT .entry (zf8 a c d),aB (zfe a c d)]:=by
 have h:=(len0 j);refine zb6 fun N g=>?_;unfold zAq oN;conv=>zeta
 refine(zbk a (fun i (t:Unit)=>(c,d,(ln a),(i:Int),0,0,0,0,a,())) _ (fun _ (x:Entry) (_:Unit) k=>bif (cond (ieq x.Tag c) (ieq x.Page d) false) then (some [AV.agg (Ty.cells .entry x),AV.one (.b true)]) else k ()) (fun (t:Unit)=>(some [(.agg [(.i .i64 0),(.i .i64 0),(.i .i64 0),(.i .i64 0)]),(.one (.b false))])) (fun i f t rec=>?_) (fun t rec=>?_) _ () (g h)).trans ?_;{simp only [zbn f,zT f,zbd f,zY f h,cT];cases ieq a[i].Tag c<;>cases ieq a[i].Page d<;>rfl};{simp only [zbh,cF]};rw[zH7 (fun e:Entry=>bif ieq e.Tag c then ieq e.Page d else false)];unfold zf8 zfe zzs;cases a.find? (fun e:Entry=>bif ieq e.Tag c then ieq e.Page d else false)<;>rfl
theorem zE3:vT 217 zk9:=hF3 zf2 zC zx zdO zNj zL2
def zsh (t p:Int)(e:Entry):Bool:=bif ine e.Tag t then true else ine e.Page p
def zcJ (b:List Entry)(t p:Int):List Entry:=b.filter (zsh t p)
theorem zzt (b:List Entry)(t p:Int):(zcJ b t p).length<=b.length:=uD _ _
@[simp] abbrev zff (b:List Entry)(t p:Int):Bool:=pc (b.length<=1048576)
@[simp] abbrev zht (b:List Entry)(t p:Int):List Entry:=zcJ b t p
def zlb:Run:=rF3 (dS .entry) dI dI fun b c d=>(zff b c d,[aS .entry (zht b c d)])
def zAH (N:Nat)(h:lE)(i j:Int):OA:=
 (iter (σ:=(Int×(Int×(Int×(lE×(lE×Unit)))))) N (fun f a=>let b:=a.2.2.2.1;let c:=(inb a.2.2.1 (ln b));let d:=(ix b a.2.2.1 zer);let e:=(ap a.2.2.2.2.1 [d]);let g:=(f (a.1,(a.2.1,((zL .i64 a.2.2.1 1),(b,(e,())))))); (cond (ilt a.2.2.1 (ln b)) (oN c (cond (ine d.Tag a.1) (oN c (oN (few (ln e)) g)) (oN c (cond (ine d.Page a.2.1) (oN c (oN (few (ln e)) g)) (f (a.1,(a.2.1,((zL .i64 a.2.2.1 1),(b,(a.2.2.2.2.1,())))))))))) (some [(aS .entry a.2.2.2.2.1)]))) (i,(j,(0,(h,([],()))))))
def zNu:FuncId->Nat->Option Tmpl:=zq [(109,0,{n:=40,tm:=[(0,.sl 0 []),(1,ti),(2,ti),(7,.sl 1 []),(8,ti)],lo:=[],ro:=[(0,.entry,false),(1,.entry,true)]})]
theorem zMk (a:List Entry)(b c:Int)(h:zff a b c=true):∃N,zAH N a b c=some [aS .entry (zht a b c)]:=by
 have j:=zO.1 h;have f:=zcv j;refine zb6 fun N e=>?_;unfold zAH oN;conv=>zeta
 refine(zbk a (fun i (t:lE)=>(b,c,(i:Int),a,t,())) _ (fun _ (x:Entry) (t:List Entry) g=>bif zsh b c x then (cond (few (ln (ap t [x]))) (g (ap t [x])) none) else g t) (fun (t:lE)=>(some [(.one (.s .entry t))])) (fun i d t rec=>?_) (fun t rec=>?_) _ ([]) (e f.1)).trans ?_;{simp only [zbn d,zT d,zbd d,zY d f.1,cT];unfold zsh;cases ine a[i].Tag b<;>cases ine a[i].Page c<;>rfl};{simp only [zbh,cF]};exact zme (zsh b c) _ a 0 [] (by simpa using f.2)
theorem zFk:vT 109 zlb:=kF3 zf2 zC zx zdO zNu zMk
def zAs (N:Nat)(e:lE)(h i:Int):OA:=
 (iter (σ:=(Int×(Int×(Int×(Int×(lE×(lE×Unit))))))) N (fun f a=>let b:=a.2.2.2.2.2.1;let c:=(ix b a.2.1 zer);let d:=(ap a.2.2.2.2.1 [c]);let g:=(f (a.1,((zL .i64 a.2.1 1),(a.2.2.1,(a.2.2.2.1,(d,(b,()))))))); (cond (ilt a.2.1 a.1) (oN (inb a.2.1 (ln b)) (cond (ieq c.Tag a.2.2.1) (cond (nB (ieq c.Page a.2.2.2.1)) (oN (few (ln d)) g) (f (a.1,((zL .i64 a.2.1 1),(a.2.2.1,(a.2.2.2.1,(a.2.2.2.2.1,(b,())))))))) (oN (few (ln d)) g))) (some [(aS .entry a.2.2.2.2.1)]))) ((ln e),(0,(h,(i,([],(e,())))))))
def zNl:FuncId->Nat->Option Tmpl:=zq [(203,0,{n:=25,tm:=[(1,.fn 204 [0,1]),(5,.sl 0 []),(9,.sl 1 []),(10,ti),(11,ti)],lo:=[(0,[ti]),(1,[ti])],ro:=[(0,.entry,true),(1,.entry,false)]})]
theorem zL4 (a:List Entry)(b c:Int)(h:zff a b c=true):∃N,zAs N a b c=some [aS .entry (zht a b c)]:=by
 have j:=zO.1 h;have f:=zcv j;refine zb6 fun N e=>?_;unfold zAs oN nB;conv=>zeta
 refine(zbk a (fun i (t:lE)=>((ln a),(i:Int),b,c,t,a,())) _ (fun _ (x:Entry) (t:List Entry) g=>bif zsh b c x then (cond (few (ln (ap t [x]))) (g (ap t [x])) none) else g t) (fun (t:lE)=>(some [(.one (.s .entry t))])) (fun i d t rec=>?_) (fun t rec=>?_) _ ([]) (e f.1)).trans ?_;{simp only [zbn d,zT d,zbd d,zY d f.1,cT];unfold zsh;simp only[zoh];cases ieq a[i].Tag b<;>cases ieq a[i].Page c<;>rfl};{simp only [zbh,cF]};exact zme (zsh b c) _ a 0 [] (by simpa using f.2)
theorem zE5:vT 105 zlb:=kF3 zf2 zC zx zdO zNl zL4
def z8U:zZ:=[(353,zBg),(37,zro),(106,zro),(35,zRz),(218,zRw),(223,ztx),(219,ztx),(36,zk9),(217,zk9),(109,zlb),(105,zlb)]++z3l
theorem zuk:zN z8U:=zh zLt (zh zR6 (zh zRT (zh zXY (zh zXV (zh zUU (zh zUR (zh zFi (zh zE3 (zh zFk (zh zE5 zf2))))))))))
def zo2 (b:List Entry)(e:Entry):List Entry:=bif igt (ln (ap (zcJ b e.Tag e.Page) [e])) 6 then dp (ap (zcJ b e.Tag e.Page) [e]) (wsub .i64 (ln (ap (zcJ b e.Tag e.Page) [e])) 6) else ap (zcJ b e.Tag e.Page) [e]
theorem zuN {b:List Entry}(e:Entry)(h:b.length<=1048576):(zo2 b e).length<=1048576/\(ap (zcJ b e.Tag e.Page) [e]).length<=1048577:=by have d:=zzt b e.Tag e.Page;have c:(ap (zcJ b e.Tag e.Page) [e]).length<=1048577:=(by simp[ap];omega);refine⟨?_,c⟩;unfold zo2;cases a:igt (ln (ap (zcJ b e.Tag e.Page) [e])) 6;{have a:=jY a;simp only[ln]at a;simp only[cF];omega};{simp only [cT,dp,vP];have a:=qE a;have:wsub .i64 (ln (ap (zcJ b e.Tag e.Page) [e])) 6=ln (ap (zcJ b e.Tag e.Page) [e])-6:=zt1 (by simp only[ln] at *;omega) (by simp only[ln] at *;omega);rw[this];simp only[ln] at *;omega}
@[simp] abbrev zgT (b:List Entry)(e:Entry):Bool:=pc (b.length<=1048576)
@[simp] abbrev zgA (b:List Entry)(e:Entry):List Entry:=zo2 b e
def zjq:Run:=rF2 (dS .entry) (dT .entry) fun b c=>(zgT b c,[aS .entry (zgA b c)])
def zCl (N:Nat)(d:lE)(b:Entry):OA:=
 let a:=(ap (zht d b.Tag b.Page) [b]);let c:=(wsub .i64 (ln a) 6); (oN (zff d b.Tag b.Page) (oN (few (ln a)) (cond (igt (ln a) 6) (oN (inr c (ln a) (ln a)) (oN (few (ln (ap [] (dp a c)))) (some [(aS .entry (ap [] (dp a c)))]))) (some [(aS .entry a)]))))
theorem zPl (b:List Entry)(a:Entry)(h:zgT b a=true):∃N,zCl N b a=some [aS .entry (zgA b a)]:=by
 have f:=zO.1 h;obtain⟨c,g⟩:=zuN a f;refine⟨0,?_⟩;unfold zCl oN;conv=>zeta
 refine must (zby f) (must (zge (qV g (by decide:1048577<=2147483648))) ?_);unfold zgA zo2 at *;show _=some [AV.one (.s .entry (cond (igt (ln (ap (zcJ b a.Tag a.Page) [a])) 6) (dp (ap (zcJ b a.Tag a.Page) [a]) (wsub .i64 (ln (ap (zcJ b a.Tag a.Page) [a])) 6)) (ap (zcJ b a.Tag a.Page) [a])))];cases d:igt (ln (ap (zcJ b a.Tag a.Page) [a])) 6;{rfl};{rw [d]at c;simp only[cT]at c;have d:=qE d;have e:wsub .i64 (ln (ap (zcJ b a.Tag a.Page) [a])) 6=ln (ap (zcJ b a.Tag a.Page) [a])-6:=zt1 (by simp only[ln] at *;omega) (by simp only[ln] at *;omega);refine must rfl (must (qI ?_) (must ?_ ?_));{show 0<=wsub .i64 (ln (ap (zcJ b a.Tag a.Page) [a])) 6/\wsub .i64 (ln (ap (zcJ b a.Tag a.Page) [a])) 6<=ln (ap (zcJ b a.Tag a.Page) [a])/\ln (ap (zcJ b a.Tag a.Page) [a])<=ln (ap (zcJ b a.Tag a.Page) [a]);rw[e];simp only[ln] at *;omega};{exact zod c};{rw [zmU];rfl}}
theorem zux:vT 224 zjq:=kF2 zuk zC zx zdO (zq []) zPl
def zBY (N:Nat)(c:lE)(a:Entry):OA:=
 let b:=(ap (zht c a.Tag a.Page) [a]);let d:=(imax 0 (wsub .i64 (ln b) 6)); (oN (zff c a.Tag a.Page) (oN (few (ln b)) (oN (inr d (ln b) (ln b)) (some [(aS .entry (dp b d))]))))
theorem zOW (b:List Entry)(a:Entry)(h:zgT b a=true):∃N,zBY N b a=some [aS .entry (zgA b a)]:=by
 have g:=zO.1 h;obtain⟨_,f⟩:=zuN a g;refine⟨0,?_⟩;unfold zBY zgA zo2 oN;conv=>zeta
 simp only[zht];generalize ap (zcJ b a.Tag a.Page) [a]=l at f ⊢;refine must (zby g) (must (zge (qV f (by decide:1048577<=2147483648))) ?_);have e:wsub .i64 (ln l) 6=ln l-6:=zt1 (by simp only[ln] at *;omega) (by simp only[ln] at *;omega);rw[e];cases c:igt (ln l) 6;{have c:=jY c;have d:imax 0 (ln l-6)=0:=(by unfold imax;rw[if_neg (by omega)]);rw[d];exact must (qI (by simp only[ln];omega)) (by simp[dp])};{have c:=qE c;have d:imax 0 (ln l-6)=ln l-6:=(by unfold imax;rw[if_pos (by omega)]);rw[d];exact must (qI (by simp only[ln] at *;omega)) rfl}
theorem zIb:vT 220 zjq:=kF2 zuk zC zx zdO (zq []) zOW
def zoO (l:List Slot)(p:Int):Option Nat:=l.findIdx? fun s=>ieq s.Page p
def ziy (p:Int):List Mon->Nat->Int×Int
 |[],_=>(-1,-1)
 |m::l,i=>match zoO m.Outer p with|some k=>((i:Int),(k:Int))|none=>ziy p l (i+1)
def zbK (h:Host)(p:Int):Int×Int:=bif ilt p 0 then (-1,-1) else ziy p h.Mons 0
theorem zRb {a:Type}(p:Slot->Bool)(r:Nat->Option a)(K:Unit->Option a):∀(l:List Slot) (i:Nat),goL (fun j x (_:Unit) k=>bif p x then r j else k ()) K l i ()=match l.findIdx? p with|some k=>r (i+k)|none=>K ()
 |[],_=>rfl
 |x::l,i=>by simp only[goL];rw[List.findIdx?_cons];cases h:p x;{simp only [cF,kF,if_false];rw[zRb p r K l (i+1)];cases l.findIdx? p with|none=>rfl|some k=>simp only[Option.map_some];congr 1;omega};{rfl}
theorem zNS {c:Type}(p:Int)(r:Int->Int->Option c):∀(l:List Mon) (i:Nat),goL (fun i (x:Mon) (_:Unit) b=>goL (fun j (y:Slot) (_:Unit) a=>bif ieq y.Page p then r (i:Int) (j:Int) else a ()) (fun _=>b ()) x.Outer 0 ()) (fun _=>r (-1) (-1)) l i ()=r (ziy p l i).1 (ziy p l i).2
 |[],_=>rfl
 |m::l,i=>by simp only[goL,ziy];rw[zRb (fun s=>ieq s.Page p) (fun j=>r (i:Int) (j:Int))];unfold zoO;cases m.Outer.findIdx? (fun s=>ieq s.Page p) with|none=>exact zNS p r l (i+1)|some k=>simp only[jZ]
@[simp] abbrev zfK (h:Host)(p:Int):Bool:=true
@[simp] abbrev zdB (h:Host)(p:Int):Int:=(zbK h p).1
@[simp] abbrev zep (h:Host)(p:Int):Int:=(zbK h p).2
def zi7:Run:=rF2 dH dI fun b c=>(zfK b c,[aI (zdB b c),aI (zep b c)])
def zvp (N:Nat)(f:Host)(g:Int):OA:=
 (cond (ilt g 0) (some [(aI (-1)),(aI (-1))]) (iter (σ:=(Int×(Int×(Int×(lN×Unit))))) N (fun i b=>let c:=b.2.2.1; (cond (ilt c b.2.1) (oN (inb c (ln b.2.2.2.1)) (iter (σ:=(Int×(Int×(Int×(Int×(Int×(Int×(Int×(lN×Unit))))))))) N (fun j a=>let e:=a.2.2.2.2.2.2.2.1;let h:=(ix e a.2.2.2.2.1 zi).Outer;let d:=a.2.2.2.2.2.2.1; (cond (ilt d a.2.2.2.2.2.1) (oN (inb d (ln h)) (cond (ieq (ix h d zU).Page a.1) (some [(aI a.2.1),(aI d)]) (j (a.1,(a.2.1,(a.2.2.1,(a.2.2.2.1,(a.2.2.2.2.1,(a.2.2.2.2.2.1,((zL .i64 d 1),(e,()))))))))))) (i (a.1,(a.2.2.1,((zL .i64 a.2.2.2.1 1),(e,()))))))) (b.1,(c,(b.2.1,(c,(c,((ln (ix b.2.2.2.1 c zi).Outer),(0,(b.2.2.2.1,())))))))))) (some [(aI (-1)),(aI (-1))]))) (g,((ln f.Mons),(0,(f.Mons,()))))))
def zFX:FuncId->Nat->Option Tmpl:=zq [(313,0,{n:=36,tm:=[(1,ti),(13,.sl 0 []),(14,ti),(15,ti)],lo:=[],ro:=[(0,.mon,false)]}),(313,2,{n:=36,tm:=[(1,ti),(6,ti),(13,.sl 0 []),(14,ti),(15,ti),(21,.sl 0 [0]),(22,ti),(23,ti)],lo:=[],ro:=[(0,.mon,false)]})]
theorem zFC (a:Host)(c:Int)(m:zbU big [aH a,aI c])(q:zfK a c=true):∃N,zvp N a c=some [aI (zdB a c),aI (zep a c)]:=by
 have k:CVB big (.s .mon a.Mons):=(zcF m).1 _ (by simp[AV.cvs,zbq]);have h:=k.len;refine zb6 fun N e=>?_;unfold zvp zdB zep zbK oN;conv=>zeta
 cases p:ilt c 0;{simp only [cF];refine(zbk a.Mons (fun i (t:Unit)=>(c,(ln a.Mons),(i:Int),a.Mons,())) _ (fun i (x:Mon) (_:Unit) n=>goL (fun j (y:Slot) (_:Unit) b=>bif ieq y.Page c then some [AV.one (.i .i64 (i:Int)),AV.one (.i .i64 (j:Int))] else b ()) (fun _=>n ()) x.Outer 0 ()) (fun (t:Unit)=>(some [(.one (.i .i64 (-1))),(.one (.i .i64 (-1)))])) (fun i d t rec=>?_) (fun t rec=>?_) _ () (e h)).trans ?_;{simp only [zbn d,zT d,zbd d,zY d h,cT];have l:a.Mons[i].Outer.length<=big:=(k.inv.2 _ (q9 d) (.s .slot _) (by simp[Ty.cells])).len;refine(zbk a.Mons[i].Outer (fun j (u:Unit)=>(c,(i:Int),(ln a.Mons),(i:Int),(i:Int),(ln a.Mons[i].Outer),(j:Int),a.Mons,())) _ (fun j (y:Slot) (_:Unit) b=>bif ieq y.Page c then some [AV.one (.i .i64 (i:Int)),AV.one (.i .i64 (j:Int))] else b ()) (fun (u:Unit)=>(rec (c,((ln a.Mons),((((i+1:Nat)):Int),(a.Mons,())))))) (fun j g u f=>?_) (fun u f=>?_) _ () (e l)).trans ?_;{simp only [zbn g,zT g,zbd g,zY g l,cT,zT d,zbd d,zY d h]};{simp only [zbh,cF,zT d,zbd d,zY d h]};rfl};{simp only [zbh,cF]};exact zNS c (fun i j=>some [AV.one (.i .i64 i),AV.one (.i .i64 j)]) a.Mons 0};{rfl}
theorem zBI:vT 313 zi7:=hF2 zuk zC zx zdO zFX zFC
theorem z3J {a c b:Type}(r:Option b):∀(l:List a) (i:Nat) (t:c),goL (fun _ _ _ _=>r) (fun _=>r) l i t=r
 |[],_,_=>rfl
 |_::_,_,_=>rfl
def zvA (N:Nat)(d:Host)(f:Int):OA:=
 (iter (σ:=(Int×(Int×(lM×(lN×(lE×(lE×Unit))))))) N (fun g b=>(cond (ilt b.2.1 (ln b.2.2.2.1)) (cond (ige b.1 0) (iter (σ:=(Int×(Int×(Int×(lM×(lN×(lE×(lE×Unit)))))))) N (fun h a=>let c:=a.2.2.2.2.1;let e:=(ix c a.2.1 zi).Outer; (oN (inb a.2.1 (ln c)) (cond (ilt a.2.2.1 (ln e)) (oN (inb a.2.1 (ln c)) (oN (inb a.2.2.1 (ln e)) (cond (ieq (ix e a.2.2.1 zU).Page a.1) (some [(aI a.2.1),(aI a.2.2.1)]) (h (a.1,(a.2.1,((zL .i64 a.2.2.1 1),(a.2.2.2.1,(c,(a.2.2.2.2.2.1,(a.2.2.2.2.2.2.1,()))))))))))) (g (a.1,((zL .i64 a.2.1 1),(a.2.2.2.1,(c,(a.2.2.2.2.2.1,(a.2.2.2.2.2.2.1,())))))))))) (b.1,(b.2.1,(0,(b.2.2.1,(b.2.2.2.1,(b.2.2.2.2.1,(b.2.2.2.2.2.1,())))))))) (some [(aI (-1)),(aI (-1))])) (some [(aI (-1)),(aI (-1))]))) (f,(0,(d.Memory,(d.Mons,(d.Buffer,(d.IoBuffer,())))))))
def zFY:FuncId->Nat->Option Tmpl:=zq [(280,0,{n:=44,tm:=[(1,ti),(2,.lp 0 0),(6,ti)],lo:=[(0,[.sl 0 [],.sl 1 [],.sl 2 [],.sl 3 []])],ro:=[(0,(.sl .int),false),(1,.mon,false),(2,.entry,false),(3,.entry,false)]}),(280,2,{n:=44,tm:=[(1,ti),(2,.lp 0 0),(6,ti),(7,ti)],lo:=[(0,[.sl 0 [],.sl 1 [],.sl 2 [],.sl 3 []])],ro:=[(0,(.sl .int),false),(1,.mon,false),(2,.entry,false),(3,.entry,false)]})]
theorem zFM (a:Host)(b:Int)(p:zbU big [aH a,aI b])(r:zfK a b=true):∃N,zvA N a b=some [aI (zdB a b),aI (zep a b)]:=by
 have m:CVB big (.s .mon a.Mons):=(zcF p).1 _ (by simp[AV.cvs,zbq]);have l:=m.len;refine zb6 fun N e=>?_;unfold zvA zdB zep zbK oN;conv=>zeta
 refine(zbk a.Mons (fun i (t:Unit)=>(b,(i:Int),a.Memory,a.Mons,a.Buffer,a.IoBuffer,())) _ (fun i (x:Mon) (_:Unit) q=>bif ige b 0 then goL (fun j (y:Slot) (_:Unit) c=>bif ieq y.Page b then some [AV.one (.i .i64 (i:Int)),AV.one (.i .i64 (j:Int))] else c ()) (fun _=>q ()) x.Outer 0 () else some [AV.one (.i .i64 (-1)),AV.one (.i .i64 (-1))]) (fun (t:Unit)=>(some [(.one (.i .i64 (-1))),(.one (.i .i64 (-1)))])) (fun i d t rec=>?_) (fun t rec=>?_) _ () (e l)).trans ?_;{simp only [zbn d,zT d,zbd d,zY d l,cT];cases h:ige b 0;{rfl};have n:a.Mons[i].Outer.length<=big:=(m.inv.2 _ (q9 d) (.s .slot _) (by simp[Ty.cells])).len;simp only[cT];refine(zbk a.Mons[i].Outer (fun j (_:Unit)=>(b,((i:Int),((j:Int),(a.Memory,(a.Mons,(a.Buffer,(a.IoBuffer,())))))))) _ (fun j (y:Slot) (_:Unit) c=>bif ieq y.Page b then some [AV.one (.i .i64 (i:Int)),AV.one (.i .i64 (j:Int))] else c ()) (fun _=>rec (b,(((i+1:Nat):Int),(a.Memory,(a.Mons,(a.Buffer,(a.IoBuffer,()))))))) (fun j g u f=>?_) (fun u f=>?_) _ () (e n)).trans ?_;{simp only [zbn g,zT g,zbd g,zY g n,cT,zT d,zbd d]};{simp only [zbh,cF,cT,zT d,zbd d,zY d l]};rfl};{simp only [zbh,cF]};cases h:ige b 0;{have k:ilt b 0=true:=(by have:=jY h;exact qI (by omega));rw[k];exact z3J _ _ _ _};{have k:ilt b 0=false:=(by have:=qE h;exact qL (by omega));rw[k];exact zNS b (fun i j=>some [AV.one (.i .i64 i),AV.one (.i .i64 j)]) a.Mons 0}
theorem zBS:vT 280 zi7:=hF2 zuk zC zx zdO zFY zFM
def z8V:zZ:=[(224,zjq),(220,zjq),(280,zi7),(313,zi7)]++z8U
theorem zul:zN z8V:=zh zux (zh zIb (zh zBS (zh zBI zuk)))
def zco (h:Host):List Int:=zw7 (fun i=>ilt (zbK h (i:Int)).1 0) h.Memory.length 0
@[simp] abbrev zfP (h:Host):Bool:=pc (h.Memory.length<=1048576)
@[simp] abbrev zcW (h:Host):List Int:=zco h
def zpb:Run:=rF1 dH fun b=>(zfP b,[aS .int (zcW b)])
def zJ3 (N:Nat)(b:Host):OA:=
 (iter (σ:=(Int×((List Int)×(lM×(lN×(lE×(lE×Unit))))))) N (fun c a=>let d:=(⟨a.2.2.1,a.2.2.2.1,a.2.2.2.2.1,a.2.2.2.2.2.1⟩:Host); (cond (ilt a.1 (ln a.2.2.1)) (oN (zfK d a.1) (cond (ilt (zdB d a.1) 0) (oN (few (ln (ap a.2.1 [a.1]))) (c ((zL .i64 a.1 1),((ap a.2.1 [a.1]),(a.2.2.1,(a.2.2.2.1,(a.2.2.2.2.1,(a.2.2.2.2.2.1,())))))))) (c ((zL .i64 a.1 1),(a.2.1,(a.2.2.1,(a.2.2.2.1,(a.2.2.2.2.1,(a.2.2.2.2.2.1,()))))))))) (some [(aS .int a.2.1)]))) (0,([],(b.Memory,(b.Mons,(b.Buffer,(b.IoBuffer,())))))))
def zXe:FuncId->Nat->Option Tmpl:=zq [(279,0,{n:=28,tm:=[(1,.lp 0 0),(3,.sl 0 []),(4,ti)],lo:=[(0,[.sl 1 [],.sl 2 [],.sl 3 [],.sl 4 []])],ro:=[(0,.int,true),(1,(.sl .int),false),(2,.mon,false),(3,.entry,false),(4,.entry,false)]})]
theorem zVp (a:Host)(f:zfP a=true):∃N,zJ3 N a=some [aS .int (zcW a)]:=by
 have g:=zO.1 f;have e:=zcv g;refine zb6 fun N d=>?_;unfold zJ3 oN;conv=>zeta
 refine(zbk a.Memory (fun i (t:(List Int))=>((i:Int),t,a.Memory,a.Mons,a.Buffer,a.IoBuffer,())) _ (fun i (_:List Int) (t:List Int) b=>bif ilt (zbK a (i:Int)).1 0 then (cond (few (ln (ap t [(i:Int)]))) (b (ap t [(i:Int)])) none) else b t) (fun (t:(List Int))=>(some [(.one (.s .int t))])) (fun i c t rec=>?_) (fun t rec=>?_) _ ([]) (d e.1)).trans ?_;{simp only [zbn c,zT c,zbd c,zY c e.1,cT]};{simp only [zbh,cF]};rw[ztT (fun i (t:List Int) b=>bif ilt (zbK a (i:Int)).1 0 then (cond (few (ln (ap t [(i:Int)]))) (b (ap t [(i:Int)])) none) else b t)];exact zzB (fun i=>ilt (zbK a (i:Int)).1 0) _ _ 0 [] (by simpa using e.2)
theorem zOg:vT 279 zpb:=kF1 zul zC zx zdO zXe zVp
def zJN (N:Nat)(b:Host):OA:=
 (iter (σ:=(Int×(Int×((List Int)×(lM×(lN×(lE×(lE×Unit)))))))) N (fun d a=>let c:=a.2.2.2.2.2.2.1;let e:=(⟨a.2.2.2.1,a.2.2.2.2.1,a.2.2.2.2.2.1,c⟩:Host); (cond (ilt a.2.1 a.1) (oN (zfK e a.2.1) (cond (ilt (zdB e a.2.1) 0) (oN (few (ln (ap a.2.2.1 [a.2.1]))) (d (a.1,((zL .i64 a.2.1 1),((ap a.2.2.1 [a.2.1]),(a.2.2.2.1,(a.2.2.2.2.1,(a.2.2.2.2.2.1,(c,()))))))))) (d (a.1,((zL .i64 a.2.1 1),(a.2.2.1,(a.2.2.2.1,(a.2.2.2.2.1,(a.2.2.2.2.2.1,(c,())))))))))) (some [(aS .int a.2.2.1)]))) ((ln b.Memory),(0,([],(b.Memory,(b.Mons,(b.Buffer,(b.IoBuffer,()))))))))
def zW7:FuncId->Nat->Option Tmpl:=zq [(273,0,{n:=28,tm:=[(1,.lp 0 0),(3,.sl 0 []),(10,ti),(11,ti)],lo:=[(0,[.sl 1 [],.sl 2 [],.sl 3 [],.sl 4 []])],ro:=[(0,.int,true),(1,(.sl .int),false),(2,.mon,false),(3,.entry,false),(4,.entry,false)]})]
theorem zU9 (a:Host)(f:zfP a=true):∃N,zJN N a=some [aS .int (zcW a)]:=by
 have g:=zO.1 f;have e:=zcv g;refine zb6 fun N d=>?_;unfold zJN oN;conv=>zeta
 refine(zbk a.Memory (fun i (t:(List Int))=>((ln a.Memory),(i:Int),t,a.Memory,a.Mons,a.Buffer,a.IoBuffer,())) _ (fun i (_:List Int) (t:List Int) b=>bif ilt (zbK a (i:Int)).1 0 then (cond (few (ln (ap t [(i:Int)]))) (b (ap t [(i:Int)])) none) else b t) (fun (t:(List Int))=>(some [(.one (.s .int t))])) (fun i c t rec=>?_) (fun t rec=>?_) _ ([]) (d e.1)).trans ?_;{simp only [zbn c,zT c,zbd c,zY c e.1,cT]};{simp only [zbh,cF]};rw[ztT (fun i (t:List Int) b=>bif ilt (zbK a (i:Int)).1 0 then (cond (few (ln (ap t [(i:Int)]))) (b (ap t [(i:Int)])) none) else b t)];exact zzB (fun i=>ilt (zbK a (i:Int)).1 0) _ _ 0 [] (by simpa using e.2)
theorem zNY:vT 273 zpb:=kF1 zul zC zx zdO zW7 zU9
def zi4 (m:List (List Int))(p:Int)(c:List Int):List (List Int):=bif hasB p (ln m) then (cond (zcu c) (up m p c) m) else m
@[simp] abbrev zfS (m:List (List Int))(p:Int)(c:List Int):Bool:=pc (SmM m/\c.length<=1048576)
@[simp] abbrev zeN (m:List (List Int))(p:Int)(c:List Int):List (List Int):=zi4 m p c
def zmu:Run:=rF3 (dS (.sl .int)) dI (dS .int) fun b c d=>(zfS b c d,[aS (.sl .int) (zeN b c d)])
def zCt (N:Nat)(a:lM)(b:Int)(c:List Int):OA:=
 (oN (zgD a) (oN (zM b 0 (wsub .i64 (ln a) 1)) (cond (zk b 0 (wsub .i64 (ln a) 1)) (oN (zdE c) (cond (zc7 c) (oN (few (ln (ap [] c))) (oN (inb b (ln (zeX a))) (share (up (zeX a) b (ap [] c)) (fun d=>(some [(aS (.sl .int) d)]))))) (some [(aS (.sl .int) (zeX a))]))) (some [(aS (.sl .int) (zeX a))]))))
theorem zPv (b:List (List Int))(a:Int)(c:List Int)(g:zfS b a c=true):∃N,zCt N b a c=some [aS (.sl .int) (zeN b a c)]:=by obtain⟨e,d⟩:=zO.1 g;refine⟨0,?_⟩;unfold zCt zeN zi4 oN;refine must (zby ((zqo _).2 e)) (must rfl ?_);rw[show zk a 0 (wsub .i64 (ln b) 1)=hasB a (ln b) from zqZ e.1 a];cases f:hasB a (ln b);{rfl};{simp only [cT,zdE,zc7];cases h:zcu c;{rfl};{refine must rfl (must (zod d) (must (zF f) ?_));rw[zmU];rfl}}
theorem zII:vT 282 zmu:=kF3 zul zC zx zdO (zq []) zPv
def zBZ (N:Nat)(a:lM)(b:Int)(c:List Int):OA:=
 (oN (ziO a) (oN (zbQ b (ln a)) (cond (zeW b (ln a)) (oN (zdE c) (cond (zc7 c) (oN (zeb c) (oN (inb b (ln (zf5 a))) (share (up (zf5 a) b (zd6 c)) (fun d=>(some [(aS (.sl .int) d)]))))) (some [(aS (.sl .int) (zf5 a))]))) (some [(aS (.sl .int) (zf5 a))]))))
theorem zOX (a:List (List Int))(b:Int)(c:List Int)(f:zfS a b c=true):∃N,zBZ N a b c=some [aS (.sl .int) (zeN a b c)]:=by obtain⟨g,d⟩:=zO.1 f;refine⟨0,?_⟩;unfold zBZ zeN zi4 oN;refine must (zby g) (must rfl ?_);rw[show zeW b (ln a)=hasB b (ln a) from rfl];cases e:hasB b (ln a);{rfl};{simp only [cT,zdE,zc7];cases h:zcu c;{rfl};{refine must rfl (must (zby (qV d (by decide))) (must (zF e) rfl))}}
theorem zId:vT 275 zmu:=kF3 zul zC zx zdO (zq []) zOX
def zq8:zZ:=[(279,zpb),(273,zpb),(282,zmu),(275,zmu)]++z8V
theorem zhP:zN zq8:=zh zOg (zh zNY (zh zII (zh zId zul)))
end
end Go.Proofs.YthhbajmehldikaaGreat.E
