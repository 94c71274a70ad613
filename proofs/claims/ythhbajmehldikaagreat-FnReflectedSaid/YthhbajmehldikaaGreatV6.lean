/- What is proved here: a part of the proof that the statement of this claim holds (several texts of wip/, laid together). -/
import Derived.Test.YthhbajmehldikaaGreatV5
import Derived.WalkKit
import Derived.Tactics2
import Derived.Deep.RegionWith
import Derived.Laws.Rows
namespace Go.Proofs.YthhbajmehldikaaGreat.E
open Go
set_option linter.constructorNameAsVariable false
set_option linter.unusedVariables false
set_option maxRecDepth 100000
set_option linter.unusedSimpArgs false
set_option linter.unusedSectionVars false
noncomputable section
def z5V:zW:=[(194,zru),(195,zmT)]++z5T
theorem zTw:zL z5V:=zh zvR (zh zoq z5U)
def zkU:Kept:=⟨rp 4 false,zmo⟩
@[simp] abbrev zzj (n:Int):Bool:=ieq n 4
@[simp] abbrev zyv (n:Int):Kept:=zkU
def zDI:Run:=rF1 dI fun b=>(zzj b,[aT .kept (zyv b)])
def zZ8 (N:Nat)(b:Int):OA:=
 let a:=(ln (zg4 b)); (oN (zjx b) (oN (cond (few a) (ieq a a) false) (some [(aT .kept (⟨(rp a false),(zg4 b)⟩:Kept))])))
theorem zVj (a:Int)(b:zzj a=true):∃N,zZ8 N a=some [aT .kept (zyv a)]:=by refine⟨0,?_⟩;have h:a=4:=qE b;subst h;change _=_;kernel_rfl
theorem zOh:vM 196 zDI:=kF1 zTw zx zb2 zcF (zq []) zVj
def z5W:zW:=[(196,zDI)]++z5V
theorem zTx:zL z5W:=zh zOh zTw
def zwL:List Slot:=List.replicate 8 ⟨-1,0⟩
def zgW (a:List (List Ins)):Mon:=⟨zwL,zSi,rp 8 false,(a.take 2).map zeO,[],0,0,(a.take 2).map (fun _=>zkU),0⟩
theorem zPb {d a b q:Type}(m:Nat)(f:d->a)(g:d->b)(K:List a×List b->Option q):∀(l:List d) (i:Nat) (u:List a×List b),u.1.length+l.length<=2147483648->u.2.length+l.length<=2147483648->
 goL (fun (i:Nat) x (u:List a×List b) k=>bif ilt (i:Int) (m:Int) then (cond (few (ln (ap u.1 [f x]))) (cond (few (ln (ap u.2 [g x]))) (k (ap u.1 [f x],ap u.2 [g x])) none) none) else K u) K l i u=K (u.1++(l.take (m-i)).map f,u.2++(l.take (m-i)).map g)
 |[],i,u,_,_=>by simp[goL]
 |x::l,i,u,n,p=>by simp only[q0]at n p;have e:few (ln (ap u.1 [f x]))=true:=zhA (by simp[ap];omega);have j:few (ln (ap u.2 [g x]))=true:=zhA (by simp[ap];omega);by_cases h:i<m;{have c:ilt (i:Int) (m:Int)=true:=qJ (by omega);simp only[goL,c,e,j,cT];rw[zPb m f g K l (i+1) _ (by simp[ap];omega) (by simp[ap];omega)];rw[show m-i=m-(i+1)+1 by omega];simp[ap]};{have c:ilt (i:Int) (m:Int)=false:=qM (by omega);simp only[goL,c,cF];rw[show m-i=0 by omega];simp}
def z7f (u:List Guest×List Kept):OA:=some [AV.agg (Ty.cells .mon (⟨zwL,zSi,rp 8 false,u.1,[],0,0,u.2,0⟩:Mon))]
@[simp] abbrev zuX (a:List (List Ins)):Bool:=pc (SmPs a)
@[simp] abbrev zMr (a:List (List Ins)):Mon:=zgW a
def zGq:Run:=rF1 (dS (.sl .ins)) fun b=>(zuX b,[aT .mon (zMr b)])
def zM6 (N:Nat)(k:lP):OA:=
 (oN (zjx 8) (oN (zqd 8) (oN (cond (few 8) (ieq 8 8) false) (iter (σ:=(Int×(Int×(Int×(Int×(Int×(Int×(Int×(lP×(lS×(lM×(lB×(lG×((List Int)×(lK×(lS×(lM×(lB×(lG×((List Int)×(lK×Unit))))))))))))))))))))) N (fun l a=>let j:=a.2.2.2.2.2.2.2.2.2.2.2.2.2.2.1;let i:=a.2.2.2.2.2.2.2.2.2.2.2.2.2.2.2.1;let h:=a.2.2.2.2.2.2.2.2.2.2.2.2.2.2.2.2.1;let g:=a.2.2.2.2.2.2.2.2.2.2.2.2.2.2.2.2.2.1;let f:=a.2.2.2.2.2.2.2.2.2.2.2.2.2.2.2.2.2.2.1;let b:=a.2.2.2.2.2.2.2.1;let c:=a.2.2.2.2.2.2.2.2.2.2.2.2.2.2.2.2.2.2.2.1;let e:=(ap g [(zcq (ix b a.1 []))]);let d:=(aT .mon (⟨j,i,h,g,f,a.2.2.2.2.1,a.2.2.2.2.2.1,c,a.2.2.2.2.2.2.1⟩:Mon)); (cond (ilt a.1 (ln b)) (cond (ilt a.1 2) (oN (inb a.1 (ln b)) (oN (zjs (ix b a.1 [])) (oN (few (ln e)) (oN (zzj 4) (oN (few (ln (ap c [(zyv 4)]))) (l ((zM .i64 a.1 1),(a.2.1,(a.2.2.1,(a.2.2.2.1,(a.2.2.2.2.1,(a.2.2.2.2.2.1,(a.2.2.2.2.2.2.1,(b,(a.2.2.2.2.2.2.2.2.1,(a.2.2.2.2.2.2.2.2.2.1,(a.2.2.2.2.2.2.2.2.2.2.1,(a.2.2.2.2.2.2.2.2.2.2.2.1,(a.2.2.2.2.2.2.2.2.2.2.2.2.1,(a.2.2.2.2.2.2.2.2.2.2.2.2.2.1,(j,(i,(h,(e,(f,((ap c [(zyv 4)]),())))))))))))))))))))))))))) (some [d])) (some [d]))) (0,(0,(0,(0,(0,(0,(0,(k,([],([],([],([],([],([],((zg4 8),((zka 8),((rp 8 false),([],([],([],()))))))))))))))))))))))))
def zZM:FuncId->Nat->Option Tmpl:=zq [(95,0,{n:=36,tm:=[(0,.sl 0 []),(2,.lp 0 0),(3,.lp 1 0),(4,ti)],lo:=[(0,[.sl 1 [],.sl 2 [],.sl 3 [],.sl 4 [],.sl 5 [],ti,ti,.sl 6 [],ti]),(1,[.sl 7 [],.sl 8 [],.sl 9 [],.sl 10 [],.sl 11 [],ti,ti,.sl 12 [],ti])],ro:=[(0,(.sl .ins),false),(1,.slot,true),(2,(.sl .int),true),(3,.bool,true),(4,.guest,true),(5,.int,true),(6,.kept,true),(7,.slot,true),(8,(.sl .int),true),(9,.bool,true),(10,.guest,true),(11,.int,true),(12,.kept,true)]})]
theorem zX0 (a:List lI)(f:zuX a=true):∃N,zM6 N a=some [aT .mon (zMr a)]:=by
 have e:=zK.1 f;have c:=zc2 e.1;refine zcp fun N d=>?_;unfold zM6 oN;conv=>zeta
 refine must rfl (must rfl (must rfl ?_));refine(zbo a (fun i (t:lG×lK)=>((i:Int),0,0,0,0,0,0,a,[],[],[],[],[],[],(zg4 8),(zka 8),(rp 8 false),t.1,[],t.2,())) _ (fun i (x:List Ins) (u:List Guest×List Kept) h=>bif ilt (i:Int) ((2:Nat):Int) then (cond (few (ln (ap u.1 [zeO x]))) (cond (few (ln (ap u.2 [zkU]))) (h (ap u.1 [zeO x],ap u.2 [zkU])) none) none) else z7f u) (fun (t:lG×lK)=>(some [(.agg (Ty.cells .mon (⟨(zg4 8),(zka 8),(rp 8 false),t.1,[],0,0,t.2,0⟩:Mon)))])) (fun i b t rec=>?_) (fun t rec=>?_) _ ([],[]) (d c.1)).trans ?_;{simp only [zbG b,zbi b,zbp b,zbj b c.1,cT];have g:zjs a[i]=true:=zY (e.2 _ (jL b));simp only[g,cT];rfl};{simp only [zbw,cF]};exact zPb 2 zeO (fun _=>zkU) z7f a 0 ([],[]) (by simpa using c.2) (by simpa using c.2)
theorem zQ2:vM 95 zGq:=kF1 zTx zx zb2 zcF zZM zX0
def z5X:zW:=[(95,zGq)]++z5W
theorem zTy:zL z5X:=zh zQ2 zTx
def z4g:List (List Int):=List.replicate 12 [0,0,0,0]
def zfQ (a:List (List (List Ins))):Host:=⟨z4g,(a.take 3).map zgW,[],[]⟩
def zHe (a:List (List (List Ins))):Prop:=a.length<=1048576/\∀p∈a,SmPs p
@[simp] abbrev zsn (a:List (List (List Ins))):Bool:=pc (zHe a)
@[simp] abbrev zd8 (a:List (List (List Ins))):Host:=zfQ a
def z2f (t:List Mon):OA:=some [AV.agg (zbf ⟨z4g,t,[],[]⟩)]
def zt7:Run:=rF1 (dS (.sl (.sl .ins))) fun b=>(zsn b,[aH (zd8 b)])
def zJe (N:Nat)(d:lQ):OA:=
 (oN (zqd 12) (iter (σ:=(Int×(lQ×(lM×(lN×(lE×(lE×(lM×(lN×(lE×(lE×Unit))))))))))) N (fun e a=>let c:=(ap a.2.2.2.2.2.2.2.1 [(zMr (ix a.2.1 a.1 []))]);let b:=(aH (⟨a.2.2.2.2.2.2.1,a.2.2.2.2.2.2.2.1,a.2.2.2.2.2.2.2.2.1,a.2.2.2.2.2.2.2.2.2.1⟩:Host)); (cond (ilt a.1 (ln a.2.1)) (cond (ilt a.1 3) (oN (inb a.1 (ln a.2.1)) (oN (zuX (ix a.2.1 a.1 [])) (oN (few (ln c)) (e ((zM .i64 a.1 1),(a.2.1,(a.2.2.1,(a.2.2.2.1,(a.2.2.2.2.1,(a.2.2.2.2.2.1,(a.2.2.2.2.2.2.1,(c,(a.2.2.2.2.2.2.2.2.1,(a.2.2.2.2.2.2.2.2.2.1,())))))))))))))) (some [b])) (some [b]))) (0,(d,([],([],([],([],((zka 12),([],([],([],()))))))))))))
def zVT:FuncId->Nat->Option Tmpl:=zq [(23,0,{n:=28,tm:=[(0,.sl 0 []),(2,.lp 0 0),(3,.lp 1 0),(4,ti)],lo:=[(0,[.sl 1 [],.sl 2 [],.sl 3 [],.sl 4 []]),(1,[.sl 5 [],.sl 6 [],.sl 7 [],.sl 8 []])],ro:=[(0,(.sl (.sl .ins)),false),(1,(.sl .int),true),(2,.mon,true),(3,.entry,true),(4,.entry,true),(5,(.sl .int),true),(6,.mon,true),(7,.entry,true),(8,.entry,true)]})]
theorem zVg (a:List lP)(f:zsn a=true):∃N,zJe N a=some [aH (zd8 a)]:=by
 have e:=zK.1 f;have d:=zc2 e.1;refine zcp fun N c=>?_;unfold zJe oN;conv=>zeta
 refine must rfl ?_;refine(zbo a (fun i (t:lN)=>((i:Int),a,[],[],[],[],(zka 12),t,[],[],())) _ (fun i (x:List lI) (t:List Mon) h=>bif ilt (i:Int) ((3:Nat):Int) then (cond (few (ln (ap t [zgW x]))) (h (ap t [zgW x])) none) else z2f t) (fun (t:lN)=>(some [(.agg (zbf (⟨(zka 12),t,[],[]⟩:Host)))])) (fun i b t rec=>?_) (fun t rec=>?_) _ ([]) (c d.1)).trans ?_;{simp only [zbG b,zbi b,zbp b,zbj b d.1,cT];have g:zuX a[i]=true:=zY (e.2 _ (jL b));simp only[g,cT];rfl};{simp only [zbw,cF]};exact zTU 3 zgW z2f a 0 [] (by simpa using d.2)
theorem zxs:vM 23 zt7:=kF1 zTy zx zb2 zcF zVT zVg
def z5Y:zW:=[(23,zt7)]++z5X
theorem zTz:zL z5Y:=zh zxs zTy
def zjg:Nat->Nat->Kept->Kept
 | 0,_,k=>k
 |n+1,i,k=>zjg n (i+1) (zbX k (i:Int))
def zjV (k:Kept):Kept:=zjg k.Known.length 0 k
theorem z3F (k:Kept)(p:Int):(zbX k p).Known.length=k.Known.length:=by unfold zbX;cases zdC k p;{rfl};{exact zgX _ _ _}
theorem zzr:∀(n i:Nat) (k:Kept),SmK k->SmK (zjg n i k)
 | 0,_,_,h=>h
 |n+1,i,k,h=>zzr n (i+1) _ (zqL h)
@[simp] abbrev zuj (k:Kept):Bool:=pc (SmK k)
@[simp] abbrev zze (k:Kept):Kept:=zjV k
def zxZ:Run:=rF1 (dT .kept) fun b=>(zuj b,[aT .kept (zze b)])
def zC9 (N:Nat)(c:Kept):OA:=
 (oN (zgl c) (iter (σ:=(Int×(lB×(lS×(lB×(lS×Unit)))))) N (fun d a=>let b:=(⟨a.2.1,a.2.2.1⟩:Kept); (cond (ilt a.1 (ln a.2.1)) (oN (zmY b a.1) (d ((zM .i64 a.1 1),((zma b a.1).Known,((zma b a.1).Slots,(a.2.2.2.1,(a.2.2.2.2.1,()))))))) (some [(aT .kept b)]))) (0,((zds c).Known,((zds c).Slots,([],([],())))))))
def zQe:FuncId->Nat->Option Tmpl:=zq [(125,0,{n:=17,tm:=[(1,.lp 0 0),(2,.lp 1 0),(3,ti)],lo:=[(0,[.sl 0 [],.sl 1 []]),(1,[.sl 2 [],.sl 3 []])],ro:=[(0,.bool,true),(1,.slot,true),(2,.bool,true),(3,.slot,true)]})]
theorem zO7 (a:Kept)(g:zuj a=true):∃N,zC9 N a=some [aT .kept (zze a)]:=by
 have d:=zK.1 g;have f:=zc2 d.1;refine zcp fun N c=>?_;unfold zC9 oN;conv=>zeta
 refine must (zbJ ((zzR _).2 d)) ?_;refine(zHz a.Known.length (fun i (k:Kept)=>((i:Int),(k.Known,(k.Slots,([],([],())))))) _ (fun i k=>SmK k/\k.Known.length=a.Known.length) (fun i k=>some [AV.agg (Ty.cells .kept (zjg (a.Known.length-i) i k))]) (fun i k rec e b h=>?_) (fun k rec b=>?_) N 0 a ⟨d,rfl⟩ (j4 _) (c f.1)).trans rfl;{refine must (zbG (by rw[b.2];exact e)) (must (zY b.1) ?_);have q:=h (zbX k (i:Int)) ⟨zqL b.1,by rw[z3F];exact b.2⟩;rw[show a.Known.length-i=a.Known.length-(i+1)+1 by omega];rw[zbj e f.1];exact q};{refine zdH (by show ilt (a.Known.length:Int) (ln k.Known)=false;rw[ln,b.2];exact qM (by omega)) ?_;rw[k8];rfl}
theorem zH9:vM 125 zxZ:=kF1 zTz zx zb2 zcF zQe zO7
def z5Z:zW:=[(125,zxZ)]++z5Y
theorem zTA:zL z5Z:=zh zH9 zTz
def zw3:Nat->Nat->List Kept->List Kept
 | 0,_,l=>l
 |n+1,j,l=>zw3 n (j+1) (up l (j:Int) (zjV (ix l (j:Int) kZ)))
def zw4 (x:Mon)(n j:Nat):Mon:={x with Tables:=zw3 n j x.Tables}
def zpm:Nat->Nat->List Mon->List Mon
 | 0,_,t=>t
 |n+1,i,t=>zpm n (i+1) (up t (i:Int) (zw4 (ix t (i:Int) mZ) (ix t (i:Int) mZ).Tables.length 0))
def cold (h:Host):Host:=⟨h.Memory,zpm h.Mons.length 0 h.Mons,[],[]⟩
theorem zPV:∀(n j:Nat) (l:List Kept),j+n<=l.length->zEX l->zEX (zw3 n j l)
 | 0,_,_,_,h=>h
 |n+1,j,l,b,h=>by have a:j<l.length:=(by omega);refine zPV n (j+1) _ (by rw[zgX];omega) (zA7 h (zzr _ _ _ ?_));rw[zbp a];exact h.2 _ (jL a)
theorem zPX {x:Mon}(h:zfp x){n j:Nat}(a:j+n<=x.Tables.length):zfp (zw4 x n j):=⟨h.1,h.2.1,h.2.2.1,h.2.2.2.1,h.2.2.2.2.1,zPV n j _ a h.2.2.2.2.2⟩
@[simp] abbrev zMp (h:Host):Bool:=pc (zcc h)
@[simp] abbrev zYY (h:Host):Host:=cold h
def zPA:Run:=rF1 dH fun b=>(zMp b,[aH (zYY b)])
def zWm (N:Nat)(d:Host):OA:=
 (oN (zbV d) (iter (σ:=(Int×(lM×(lN×(lE×(lE×(lM×(lN×(lE×(lE×Unit)))))))))) N (fun g b=>(cond (ilt b.1 (ln b.2.2.1)) (iter (σ:=(Int×(Int×(lM×(lN×(lE×(lE×(lM×(lN×(lE×(lE×Unit))))))))))) N (fun h a=>let e:=(inb a.1 (ln a.2.2.2.1));let c:=(ix a.2.2.2.1 a.1 zi);let f:=(ix c.Tables a.2.1 zfO); (oN e (cond (ilt a.2.1 (ln c.Tables)) (oN e (oN e (oN (inb a.2.1 (ln c.Tables)) (oN (zuj f) (oN (inb a.2.1 (ln c.Tables)) (share (up a.2.2.2.1 a.1 ({c with Tables:=(up c.Tables a.2.1 (zze f))}:Mon)) (fun i=>(h (a.1,((zM .i64 a.2.1 1),(a.2.2.1,(i,(a.2.2.2.2.1,(a.2.2.2.2.2.1,(a.2.2.2.2.2.2.1,(a.2.2.2.2.2.2.2.1,(a.2.2.2.2.2.2.2.2.1,(a.2.2.2.2.2.2.2.2.2.1,())))))))))))))))))) (g ((zM .i64 a.1 1),(a.2.2.1,(a.2.2.2.1,(a.2.2.2.2.1,(a.2.2.2.2.2.1,(a.2.2.2.2.2.2.1,(a.2.2.2.2.2.2.2.1,(a.2.2.2.2.2.2.2.2.1,(a.2.2.2.2.2.2.2.2.2.1,()))))))))))))) (b.1,(0,(b.2.1,(b.2.2.1,(b.2.2.2.1,(b.2.2.2.2.1,(b.2.2.2.2.2.1,(b.2.2.2.2.2.2.1,(b.2.2.2.2.2.2.2.1,(b.2.2.2.2.2.2.2.2.1,()))))))))))) (some [(aH (⟨b.2.1,b.2.2.1,[],[]⟩:Host))]))) (0,((zu d).Memory,((zu d).Mons,((zu d).Buffer,((zu d).IoBuffer,([],([],([],([],())))))))))))
def z5p:FuncId->Nat->Option Tmpl:=zq [(46,0,{n:=48,tm:=[(1,.lp 0 0),(2,.lp 1 0),(3,ti)],lo:=[(0,[.sl 0 [],.sl 1 [],.sl 2 [],.sl 3 []]),(1,[.sl 4 [],.sl 5 [],.sl 6 [],.sl 7 []])],ro:=[(0,(.sl .int),true),(1,.mon,true),(2,.entry,true),(3,.entry,true),(4,(.sl .int),true),(5,.mon,true),(6,.entry,true),(7,.entry,true)]}),(46,2,{n:=48,tm:=[(1,.lp 0 0),(2,.lp 1 0),(3,ti),(4,ti)],lo:=[(0,[.sl 0 [],.sl 1 [],.sl 2 [],.sl 3 []]),(1,[.sl 4 [],.sl 5 [],.sl 6 [],.sl 7 []])],ro:=[(0,(.sl .int),true),(1,.mon,true),(2,.entry,true),(3,.entry,true),(4,(.sl .int),true),(5,.mon,true),(6,.entry,true),(7,.entry,true)]})]
theorem z4d (a:Host)(m:zMp a=true):∃N,zWm N a=some [aH (zYY a)]:=by
 have v:=(zT a).1 (zK.1 m);have s:=zc2 v.2.1.1;refine zcp fun N f=>?_;unfold zWm oN;conv=>zeta
 refine must m ?_;refine(zHz a.Mons.length (fun i (t:List Mon)=>((i:Int),(a.Memory,(t,(a.Buffer,(a.IoBuffer,([],([],([],([],())))))))))) _ (fun i t=>zsO t/\t.length=a.Mons.length) (fun i t=>some [AV.agg (zbf ⟨a.Memory,zpm (a.Mons.length-i) i t,[],[]⟩)]) (fun i t rec n e x=>?_) (fun t rec e=>?_) N 0 a.Mons ⟨v.2.1,rfl⟩ (j4 _) (f s.1)).trans rfl
 .have hit:i<t.length:=(by rw[e.2];exact n);have l:zfp (ix t (i:Int) mZ):=by rw[zbp hit];exact e.1.2 _ (jL hit)
  have r:=zc2 l.2.2.2.2.2.1;refine must (zbG hit) ?_;refine(zHz (ix t (i:Int) mZ).Tables.length (fun j (u:List Mon)=>((i:Int),((j:Int),(a.Memory,(u,(a.Buffer,(a.IoBuffer,([],([],([],([],())))))))))))
   _ (fun j u=>u.length=t.length/\zfp (ix u (i:Int) mZ)/\(ix u (i:Int) mZ).Tables.length=(ix t (i:Int) mZ).Tables.length)
   (fun j u=>rec (((i+1:Nat):Int),(a.Memory,(up u (i:Int) (zw4 (ix u (i:Int) mZ) ((ix t (i:Int) mZ).Tables.length-j) j),(a.Buffer,(a.IoBuffer,([],([],([],([],()))))))))))
   (fun j u h p c k=>?_) (fun u h c=>?_) N 0 t ⟨rfl,l,rfl⟩ (j4 _) (f r.1)).trans ?_
  .have b:i<u.length:=(by rw[c.1];exact hit);have d:j<(ix u (i:Int) mZ).Tables.length:=(by rw[c.2.2];exact p);have g:SmK (ix (ix u (i:Int) mZ).Tables (j:Int) kZ):=by rw[zbp d];exact c.2.1.2.2.2.2.2.2 _ (jL d)
   refine must (zbi b) (must (zbG d) (must (zbi b) (must (zbi b) (must (zbi d) (must (zY g) (must (zbi d) (shr ?_)))))));have w:zfp {ix u (i:Int) mZ with Tables:=up (ix u (i:Int) mZ).Tables (j:Int) (zjV (ix (ix u (i:Int) mZ).Tables (j:Int) kZ))} :=
    ⟨c.2.1.1,c.2.1.2.1,c.2.1.2.2.1,c.2.1.2.2.2.1,c.2.1.2.2.2.2.1,zA7 c.2.1.2.2.2.2.2 (zzr _ _ _ g)⟩
   have q:=k (up u (i:Int) {ix u (i:Int) mZ with Tables:=up (ix u (i:Int) mZ).Tables (j:Int) (zjV (ix (ix u (i:Int) mZ).Tables (j:Int) kZ))}) ⟨by rw[zgX];exact c.1,by rw[zdR b];exact w,by rw[zdR b];simp only[zgX];exact c.2.2⟩;rw[zbj p r.1];refine q.trans ?_;rw[zdR b,zyG,show (ix t (i:Int) mZ).Tables.length-j=(ix t (i:Int) mZ).Tables.length-(j+1)+1 by omega];rfl
  {have b:i<u.length:=(by rw[c.1];exact hit);refine must (zbi b) (zdH (by show ilt ((ix t (i:Int) mZ).Tables.length:Int) (ln (ix u (i:Int) mZ).Tables)=false;rw[ln,c.2.2];exact qM (by omega)) ?_);rw[zbj n s.1,k8];show rec (_,(a.Memory,(u,_)))=rec (_,(a.Memory,(up u (i:Int) (ix u (i:Int) mZ),_)));rw[zST b]};{have q:=x (up t (i:Int) (zw4 (ix t (i:Int) mZ) (ix t (i:Int) mZ).Tables.length 0)) ⟨zjO e.1 (zPX l (by omega)),by rw[zgX];exact e.2⟩;refine q.trans ?_;rw[show a.Mons.length-i=a.Mons.length-(i+1)+1 by omega];rfl}
 {refine zdH (by show ilt (a.Mons.length:Int) (ln t)=false;rw[ln,e.2];exact qM (by omega)) ?_;rw[k8];rfl}
theorem zXm:vM 46 zPA:=kF1 zTA zx zb2 zcF z5p z4d
def z6a:zW:=[(46,zPA)]++z5Z
theorem z6b:zL z6a:=zh zXm zTA
def z6c:zW:=z6a
theorem zTB:zL z6c:=z6b
theorem zD6:∀(n i:Nat) (t:List Mon),i+n<=t.length->zsO t->zsO (zpm n i t)
 | 0,_,_,_,h=>h
 |n+1,i,t,b,h=>by have a:i<t.length:=(by omega);refine zD6 n (i+1) _ (by rw[zgX];omega) (zjO h (zPX ?_ (by omega)));rw[zbp a];exact h.2 _ (jL a)
theorem zbaj {h:Host}(a:SmH h):SmH (cold h):=⟨a.1,zD6 _ _ _ (by omega) a.2.1,by simp[cold],by simp[cold]⟩
theorem zmp {h:Host}{m:Int}{b:Bare}(c:SmH h)(d:zcb h m=true->SmB b):SmH (zdi h m b):=by unfold zdi;cases a:zcb h m;{exact c};{exact zMu c (zbq.1 a).2 (d a).2.1}
theorem z7X {h:Host}{m g p:Int}(c:SmH h):SmH (zlP h m g p):=by unfold zlP;cases e:zcb h m;{exact c};{cases l:zbE (zB h m) g (hasB p 4);{exact c};{have d:=(zbq.1 e).2;have f:=zfM c d;have k:SmB (chg (zB h m) g (hasB p 4) (zdP (gAt (zB h m) g) p)):=zrH f (zPS _ (zgC _ f));have b:=zMu c d k.2.1;have i:=zWA (chg (zB h m) g (hasB p 4) (zdP (gAt (zB h m) g) p)) d;have j:=zTI c e (chg (zB h m) g (hasB p 4) (zdP (gAt (zB h m) g) p)) l;have a:=b.2.1.2 _ (zbA i mZ);simp only[cT];exact⟨b.1,zjO b.2.1 ⟨a.1,a.2.1,a.2.2.1,a.2.2.2.1,a.2.2.2.2.1,zA7 a.2.2.2.2.2 (zqL (a.2.2.2.2.2.2 _ (zbA j _)))⟩,qU (zBG _ _ _) b.2.2.1,qU (zBG _ _ _) b.2.2.2⟩}}
theorem zbak {h:Host}{m p c v:Int}(e:SmH h):SmH (zor h m p c v):=by unfold zor;cases a:zfu h m p c v;{exact e};{have f:zcz h m p=true:=(by unfold zfu at a;cases b:zcz h m p;{rw [b]at a;cases a};{rfl});obtain⟨g,i,b⟩:=zkV.1 f;have d:=(zwJ (n:=2) (zft e g) i b).1.1;exact⟨zCK d.1,d.2⟩}
theorem zYn {h:Host}{m g c a:Int}(b:List Entry)(i:Bool)(f:SmH h)(d:zcd h m g c a=true):SmH (lookOf h b m g c a i).1:=by have hg:zb0 h m g=true:=(by unfold zcd at d;cases e:zb0 h m g;{rw [e]at d;cases d};{rfl});exact(zAa f hg).shape.1
theorem zbdH {h:Host}{m g a v:Int}(e:SmH h):SmH (zq3 h m g a v):=by unfold zq3;cases b:zg6 h m g a v;{exact e};{have f:zcd h m g (zbk a) 2=true:=(by unfold zg6 at b;cases c:win a 0 15;{rw [c]at b;cases b};{cases d:win v 0 99;{rw [c,d]at b;cases b};{rw [c,d]at b;exact b}});have c:=zYn h.IoBuffer true e f;exact⟨zCK c.1,c.2⟩}
theorem zbal {h:Host}{m g a:Int}(d:SmH h):SmH (zos h m g a):=by unfold zos;cases b:zgg h m g a;{exact d};{have e:zcd h m g (zbk a) 1=true:=(by unfold zgg at b;cases c:win a 0 15;{rw [c]at b;cases b};{rw [c]at b;exact b});exact zYn h.IoBuffer true d e}
theorem zbdI {h:Host}{m p:Int}(a:SmH h):SmH (zrg h m p):=by unfold zrg;cases b:zcz h m p;{exact a};{obtain⟨c,d,e⟩:=zkV.1 b;cases zlk h m p;{exact(zPQ (zft a c).1 d).1};{exact a}}
theorem zbeK {h:Host}{m p:Int}(a:SmH h):SmH (zv5 h m p):=by unfold zv5;cases b:zcz h m p;{exact a};{obtain⟨c,d,e⟩:=zkV.1 b;cases zlk h m p;{exact a};{exact(zkI (zft a c) d e).1.1}}
theorem z8b {h:Host}{m t:Int}(a:SmH h):SmH (zkm h m t):=by unfold zkm;cases zb1 h;{exact a};{cases c:hasB m (ln h.Mons);{exact a};{cases win t 0 3;{exact a};{have b:zfp (ix h.Mons m mZ):=a.2.1.2 _ (zbA c mZ);exact⟨a.1,zjO a.2.1 ⟨b.1,b.2.1,b.2.2.1,b.2.2.2.1,b.2.2.2.2.1,b.2.2.2.2.2⟩,a.2.2⟩}}}
def zvZ (h:Host)(a:GAct):Host:=bif ieq a.Kind 1 then (zbF h a.M a.G).1 else (cond (ieq a.Kind 2) (z00 h a.M a.G a.X ⟨a.Y,a.Z⟩) (cond (ieq a.Kind 3) (zlP h a.M a.G a.X) (cond (ieq a.Kind 4) (zSa h a.M a.G a.X) (cond (ieq a.Kind 5) (zSe h a.M a.G) (cond (ieq a.Kind 6) (zSc h a.M a.G a.X) (cond (ieq a.Kind 7) (z0Y h a.M a.G ⟨a.X,a.Y,ieq a.Z 1⟩) (cond (ieq a.Kind 8) (zor h a.M a.X a.Y a.Z) (cond (ieq a.Kind 9) (zYp h a.M a.X) (cond (ieq a.Kind 10) (z0V h a.M) (cond (ieq a.Kind 11) (zq3 h a.M a.G a.X a.Y) (zos h a.M a.G a.X)))))))))))
def zFC (h:Host)(a:GAct):Told:=bif ieq a.Kind 1 then ⟨(zbF h a.M a.G).2,0⟩ else (cond (ieq a.Kind 2) ⟨z01 h a.M a.G a.X ⟨a.Y,a.Z⟩,0⟩ (cond (ieq a.Kind 3) ⟨zVE h a.M a.G a.X,0⟩ (cond (ieq a.Kind 4) ⟨zSb h a.M a.G a.X,0⟩ (cond (ieq a.Kind 5) ⟨zSf h a.M a.G,0⟩ (cond (ieq a.Kind 6) ⟨zSd h a.M a.G a.X,0⟩ (cond (ieq a.Kind 7) ⟨z0Z h a.M a.G ⟨a.X,a.Y,ieq a.Z 1⟩,0⟩ (cond (ieq a.Kind 8) ⟨zfu h a.M a.X a.Y a.Z,0⟩ (cond (ieq a.Kind 9) ⟨zYq h a.M a.X,0⟩ (cond (ieq a.Kind 10) ⟨z0X h a.M,z0W h a.M⟩ (cond (ieq a.Kind 11) ⟨zg6 h a.M a.G a.X a.Y,0⟩ (⟨zgg h a.M a.G a.X,zti h a.M a.G a.X⟩)))))))))))
def znG (h:Host)(a:GAct):Host:=bif ieq a.Kind 13 then zrg h a.M a.X else (cond (ieq a.Kind 14) (zv5 h a.M a.X) (cond (ieq a.Kind 15) (zvN h a.M a.X) (cond (ieq a.Kind 16) (zkm h a.M a.X) (cold h))))
def zPl (h:Host)(a:GAct):Told:=bif ieq a.Kind 13 then ⟨zFS h a.M a.X,0⟩ else (cond (ieq a.Kind 14) ⟨zMc h a.M a.X,0⟩ (cond (ieq a.Kind 15) ⟨zcz h a.M a.X,0⟩ (cond (ieq a.Kind 16) ⟨zCE h a.M a.X,0⟩ (⟨true,0⟩))))
def zev (h:Host)(a:GAct):Host:=bif win a.Kind 1 17 then (cond (win a.Kind 13 17) (znG h a) (zvZ h a)) else h
def zjY (h:Host)(a:GAct):Told:=bif win a.Kind 1 17 then (cond (win a.Kind 13 17) (zPl h a) (zFC h a)) else ⟨false,0⟩
theorem z8a {h:Host}{a:GAct}(b:SmH h):SmH (znG h a):=by unfold znG;cases ieq a.Kind 13;{cases ieq a.Kind 14;{cases ieq a.Kind 15;{cases ieq a.Kind 16;{exact zbaj b};{exact z8b b}};{exact z7Y b}};{exact zbeK b}};{exact zbdI b}
theorem z7Z {h:Host}{a:GAct}(c:SmH h):SmH (zvZ h a):=by have d:zcb h a.M=true->SmB (zB h a.M):=fun b=>zfM c (zbq.1 b).2;unfold zvZ;cases ieq a.Kind 1;{cases ieq a.Kind 2;{cases ieq a.Kind 3;{cases ieq a.Kind 4;{cases ieq a.Kind 5;{cases ieq a.Kind 6;{cases ieq a.Kind 7;{cases ieq a.Kind 8;{cases ieq a.Kind 9;{cases ieq a.Kind 10;{cases ieq a.Kind 11;{exact zbal c};{exact zbdH c}};{exact zmp c (fun b=>z2x (d b))}};{exact zmp c (fun b=>zZj _ (d b))}};{exact zbak c}};{exact zmp c (fun b=>zSx _ _ (d b))}};{exact zmp c (fun b=>zCH _ _ (d b))}};{exact zmp c (fun b=>zCI _ (d b))}};{exact zmp c (fun b=>zCG _ _ (d b))}};{exact z7X c}};{exact zmp c (fun b=>zHN _ _ _ (d b))}};{exact(z7O a.M a.G c).sm}
theorem z2A {h:Host}{a:GAct}(b:SmH h):SmH (zev h a):=by unfold zev;cases win a.Kind 1 17;{exact b};{cases win a.Kind 13 17;{exact z7Z b};{exact z8a b}}
@[simp] abbrev zwH (h:Host)(a:GAct):Bool:=pc (zcc h)
@[simp] abbrev zmm (h:Host)(a:GAct):Host:=znG h a
@[simp] abbrev zjG (h:Host)(a:GAct):Told:=zPl h a
def zAY:Run:=rF2 dH (dT .act) fun b c=>(zwH b c,[aH (zmm b c),aT .told (zjG b c)])
def zEW (N:Nat)(c:Host)(a:GAct):OA:=
 (cond (ieq a.Kind 13) (oN (zzk c a.M a.X) (some [(aH (zsr c a.M a.X)),(.agg [(.b (zss c a.M a.X)),(.i .i64 0)])])) (cond (ieq a.Kind 14) (oN (zCp c a.M a.X) (some [(aH (zuZ c a.M a.X)),(.agg [(.b (zu0 c a.M a.X)),(.i .i64 0)])])) (cond (ieq a.Kind 15) (oN (zGM c a.M a.X) (some [(aH (zx5 c a.M a.X)),(.agg [(.b (zx6 c a.M a.X)),(.i .i64 0)])])) (cond (ieq a.Kind 16) (oN (zwz c a.M a.X) (some [(aH (zqe c a.M a.X)),(.agg [(.b (zqf c a.M a.X)),(.i .i64 0)])])) (oN (zMp c) (some [(aH (zYY c)),(.agg [(.b true),(.i .i64 0)])]))))))
theorem zR7 (a:Host)(b:GAct)(c:zwH a b=true):∃N,zEW N a b=some [aH (zmm a b),aT .told (zjG a b)]:=by have d:=zK.1 c;refine⟨0,?_⟩;unfold zEW oN;refine br (fun _=>mu ?_) (fun _=>br (fun _=>mu ?_) (fun _=>br (fun _=>mu ?_) (fun _=>br (fun _=>mu ?_) (fun _=>mu ?_))));all_goals first|rfl|(simp only [*,zmm,zjG,znG,zPl,cT,cF]<;>rfl)|simp_all[Ty.cells,zmm,zjG,znG,zPl]
theorem zLG:vM 325 zAY:=kF2 zTB zx zb2 zcF (zq []) zR7
def z6d:zW:=[(325,zAY),(323,zJ1),(324,zDH),(327,zJ2)]++z6c
theorem zTC:zL z6d:=zh zLG (zh zUw (zh zOg (zh zUx zTB)))
@[simp] abbrev zsj (h:Host)(a:GAct):Bool:=pc (zcc h)
@[simp] abbrev znM (h:Host)(a:GAct):Host:=zev h a
@[simp] abbrev znN (h:Host)(a:GAct):Told:=zjY h a
def zt5:Run:=rF2 dH (dT .act) fun b c=>(zsj b c,[aH (znM b c),aT .told (znN b c)])
def zJb (N:Nat)(c:Host)(a:GAct):OA:=
 let d:=(⟨a.Y,a.Z⟩:Slot); (oN (zGH a) (cond (nB (zAZ a)) (oN (zbV c) (some [(aH (zu c)),(.agg [(.b false),(.i .i64 0)])])) (oN (zzi a.Kind) (cond (ztx a.Kind) (oN (zwH c a) (some [(aH (zmm c a)),(.agg [(.b (zjG c a).Ok),(.i .i64 (zjG c a).N)])])) (cond (ieq a.Kind 1) (oN (zeD c a.M a.G) (some [(aH (zGO c a.M a.G)),(.agg [(.b (zGP c a.M a.G)),(.i .i64 0)])])) (cond (ieq a.Kind 2) (oN (zso c a.M a.G a.X d) (some [(aH (znP c a.M a.G a.X d)),(.agg [(.b (znQ c a.M a.G a.X d)),(.i .i64 0)])])) (cond (ieq a.Kind 3) (oN (zuk c a.M a.G a.X) (some [(aH (zoc c a.M a.G a.X)),(.agg [(.b (zod c a.M a.G a.X)),(.i .i64 0)])])) (cond (ieq a.Kind 4) (oN (zm0 c a.M a.G a.X) (some [(aH (zhs c a.M a.G a.X)),(.agg [(.b (zjt c a.M a.G a.X)),(.i .i64 0)])])) (cond (ieq a.Kind 5) (oN (zm2 c a.M a.G) (some [(aH (zhu c a.M a.G)),(.agg [(.b (zjv c a.M a.G)),(.i .i64 0)])])) (cond (ieq a.Kind 6) (oN (zm1 c a.M a.G a.X) (some [(aH (zht c a.M a.G a.X)),(.agg [(.b (zju c a.M a.G a.X)),(.i .i64 0)])])) (cond (ieq a.Kind 7) (oN (zGI a) (oN (zsk c a.M a.G (zry a)) (some [(aH (zk0 c a.M a.G (zry a))),(.agg [(.b (znO c a.M a.G (zry a))),(.i .i64 0)])]))) (cond (ieq a.Kind 8) (oN (zwt c a.M a.X a.Y a.Z) (some [(aH (zp5 c a.M a.X a.Y a.Z)),(.agg [(.b (zp6 c a.M a.X a.Y a.Z)),(.i .i64 0)])])) (cond (ieq a.Kind 9) (oN (zwu c a.M a.X) (some [(aH (zp7 c a.M a.X)),(.agg [(.b (zp8 c a.M a.X)),(.i .i64 0)])])) (cond (ieq a.Kind 10) (oN (zzg c a.M) (some [(aH (zsg c a.M)),(.agg [(.b (zsi c a.M)),(.i .i64 (zsh c a.M))])])) (cond (ieq a.Kind 11) (oN (zzh c a.M a.G a.X a.Y) (some [(aH (zsl c a.M a.G a.X a.Y)),(.agg [(.b (zsm c a.M a.G a.X a.Y)),(.i .i64 0)])])) (oN (zwv c a.M a.G a.X) (some [(aH (zp9 c a.M a.G a.X)),(.agg [(.b (zqb c a.M a.G a.X)),(.i .i64 (zqa c a.M a.G a.X))])])))))))))))))))))
theorem zVd (a:Host)(b:GAct)(c:zsj a b=true):∃N,zJb N a b=some [aH (znM a b),aT .told (znN a b)]:=by
 have d:=zK.1 c;refine⟨0,?_⟩;unfold zJb oN nB;conv=>zeta
 refine must rfl (brN (fun _=>mu ?_) (fun _=>must rfl (br (fun _=>mu ?_) (fun _=>br (fun _=>mu ?_) (fun _=>br (fun _=>mu ?_) (fun _=>br (fun _=>mu ?_) (fun _=>br (fun _=>mu ?_) (fun _=>br (fun _=>mu ?_) (fun _=>br (fun _=>mu ?_) (fun _=>br (fun _=>must rfl (mu ?_)) (fun _=>br (fun _=>mu ?_) (fun _=>br (fun _=>mu ?_) (fun _=>br (fun _=>mu ?_) (fun _=>br (fun _=>mu ?_) (fun _=>mu ?_)))))))))))))));all_goals first|rfl|(simp only [*,znM,znN,zev,zjY,zvZ,zFC,cT,cF]<;>rfl)|simp_all[Ty.cells,znM,znN,zev,zjY,zvZ,zFC]
theorem zxq:vM 298 zt5:=kF2 zTC zx zb2 zcF (zq []) zVd
def z6e:zW:=[(298,zt5)]++z6d
theorem zTD:zL z6e:=zh zxq zTC
def zFY:List GAct->Host×List Told->Host×List Told
 |[],u=>u
 |a::l,u=>zFY l (zev u.1 a,ap u.2 [zjY u.1 a])
def zBS (a:List (List (List Ins)))(l:List GAct):Host×List Told:=zFY (l.take 80) (zfQ a,[])
abbrev HSt:Type:=(List Told)×(List (List Int))×(List Mon)×(List Entry)×(List Entry)
def hOf (t:HSt):Host:=⟨t.2.1,t.2.2.1,t.2.2.2.1,t.2.2.2.2⟩
def tOf (u:Host×List Told):HSt:=(u.2,u.1.Memory,u.1.Mons,u.1.Buffer,u.1.IoBuffer)
def zCa (t:HSt):OA:=some [AV.agg (zbf (hOf t)),AV.one (.s .told t.1)]
theorem zSz {e:List (List (List Ins))}(h:zHe e):SmH (zfQ e):=by refine⟨show SmM z4g from ⟨by decide,by decide⟩,⟨?_,?_⟩,by simp[zfQ],by simp[zfQ]⟩;{simp only [zfQ,uM,vK];omega};{intro x d;simp only[zfQ,jE]at d;obtain⟨p,f,rfl⟩:=d;have b:=h.2 p (jU f);refine⟨show zwL.length<=1048576 by decide,show SmM zSi from ⟨by decide,by decide⟩,show (rp 8 false).length<=1048576 by decide,⟨?_,?_⟩,by simp[zgW],⟨?_,?_⟩⟩;{simp only [zgW,uM,vK];omega};{intro y a;simp only[zgW,jE]at a;obtain⟨q,c,rfl⟩:=a;exact⟨b.2 q (jU c),show zmo.length<=1048576 by decide,show zmo.length<=1048576 by decide,by simp[zeO]⟩};{simp only [zgW,uM,vK];omega};{intro y a;simp only[zgW,jE]at a;obtain⟨q,c,rfl⟩:=a;exact⟨show (rp 4 false).length<=1048576 by decide,show zmo.length<=1048576 by decide⟩}}
theorem zJL {c:Host->GAct->Bool}(d:∀h a,SmH h->c h a=true)(m:Nat):∀(l:List GAct) (i:Nat) (u:Host×List Told),SmH u.1->u.2.length+l.length<=2147483648->
 goL (fun (i:Nat) x (t:HSt) n=>bif ilt (i:Int) (m:Int) then (cond (c (hOf t) x) (cond (few (ln (ap t.1 [zjY (hOf t) x]))) (n (ap t.1 [zjY (hOf t) x],(zev (hOf t) x).Memory,(zev (hOf t) x).Mons,(zev (hOf t) x).Buffer,(zev (hOf t) x).IoBuffer)) none) none) else zCa t) zCa l i (tOf u)=zCa (tOf (zFY (l.take (m-i)) u))
 |[],i,u,_,_=>by simp[goL,zFY]
 |a::l,i,u,e,k=>by simp only[q0]at k;have g:few (ln (ap u.2 [zjY u.1 a]))=true:=zhA (by simp[ap];omega);have j:hOf (tOf u)=u.1:=rfl;have f:(tOf u).1=u.2:=rfl;by_cases h:i<m;{have b:ilt (i:Int) (m:Int)=true:=qJ (by omega);simp only[goL,b,j,f,g,d _ _ e,cT];refine(zJL d m l (i+1) (zev u.1 a,ap u.2 [zjY u.1 a]) (z2A e) (by simp[ap];omega)).trans ?_;rw[show m-i=m-(i+1)+1 by omega];rfl};{have b:ilt (i:Int) (m:Int)=false:=qM (by omega);simp only[goL,b,cF];rw[show m-i=0 by omega];rfl}
@[simp] abbrev zwr (a:List (List (List Ins)))(l:List GAct):Bool:=pc (zHe a/\l.length<=1048576)
@[simp] abbrev zwq (a:List (List (List Ins)))(l:List GAct):Host:=(zBS a l).1
@[simp] abbrev zGN (a:List (List (List Ins)))(l:List GAct):List Told:=(zBS a l).2
def zAM:Run:=rF2 (dS (.sl (.sl .ins))) (dS .act) fun b c=>(zwr b c,[aH (zwq b c),aS .told (zGN b c)])
def zEI (N:Nat)(b:lQ)(g:lA):OA:=
 (oN (zsn b) (iter (σ:=(Int×(lA×(lT×(lM×(lN×(lE×(lE×(lM×(lN×(lE×(lE×Unit)))))))))))) N (fun h a=>let e:=(ix a.2.1 a.1 zbfl);let c:=(⟨a.2.2.2.2.2.2.2.1,a.2.2.2.2.2.2.2.2.1,a.2.2.2.2.2.2.2.2.2.1,a.2.2.2.2.2.2.2.2.2.2.1⟩:Host);let f:=(ap a.2.2.1 [(znN c e)]);let d:=(znM c e); (cond (ilt a.1 (ln a.2.1)) (cond (ilt a.1 80) (oN (inb a.1 (ln a.2.1)) (oN (zsj c e) (oN (few (ln f)) (h ((zM .i64 a.1 1),(a.2.1,(f,(a.2.2.2.1,(a.2.2.2.2.1,(a.2.2.2.2.2.1,(a.2.2.2.2.2.2.1,(d.Memory,(d.Mons,(d.Buffer,(d.IoBuffer,()))))))))))))))) (some [(aH c),(aS .told a.2.2.1)])) (some [(aH c),(aS .told a.2.2.1)]))) (0,(g,([],([],([],([],([],((zd8 b).Memory,((zd8 b).Mons,((zd8 b).Buffer,((zd8 b).IoBuffer,())))))))))))))
def zSL:FuncId->Nat->Option Tmpl:=zq [(240,0,{n:=39,tm:=[(1,.sl 0 []),(4,.lp 0 0),(6,.lp 1 0),(7,.sl 1 []),(8,ti)],lo:=[(0,[.sl 2 [],.sl 3 [],.sl 4 [],.sl 5 []]),(1,[.sl 6 [],.sl 7 [],.sl 8 [],.sl 9 []])],ro:=[(0,.act,false),(1,.told,true),(2,(.sl .int),true),(3,.mon,true),(4,.entry,true),(5,.entry,true),(6,(.sl .int),true),(7,.mon,true),(8,.entry,true),(9,.entry,true)]})]
theorem zRT (b:List lP)(c:List GAct)(k:zwr b c=true):∃N,zEI N b c=some [aH (zwq b c),aS .told (zGN b c)]:=by
 obtain⟨j,g⟩:=zK.1 k;have f:=zc2 g;refine zcp fun N e=>?_;unfold zEI oN;conv=>zeta
 refine must (zY j) ?_;refine(zbo c (fun i (t:lT×lM×lN×lE×lE)=>((i:Int),c,t.1,[],[],[],[],t.2.1,t.2.2.1,t.2.2.2.1,t.2.2.2.2,())) _ (fun i (x:GAct) (t:HSt) m=>bif ilt (i:Int) ((80:Nat):Int) then (cond (zsj (hOf t) x) (cond (few (ln (ap t.1 [zjY (hOf t) x]))) (m (ap t.1 [zjY (hOf t) x],(zev (hOf t) x).Memory,(zev (hOf t) x).Mons,(zev (hOf t) x).Buffer,(zev (hOf t) x).IoBuffer)) none) none) else zCa t) (fun (t:lT×lM×lN×lE×lE)=>(some [(.agg (zbf (⟨t.2.1,t.2.2.1,t.2.2.2.1,t.2.2.2.2⟩:Host))),(.one (.s .told t.1))])) (fun i d t rec=>?_) (fun t rec=>?_) _ ([],(zd8 b).Memory,(zd8 b).Mons,(zd8 b).Buffer,(zd8 b).IoBuffer) (e f.1)).trans ?_;{simp only [zbG d,zbi d,zbp d,zbj d f.1,cT];rfl};{simp only [zbw,cF]};exact zJL (fun h a l=>zY ((zT h).2 l)) 80 c 0 (zfQ b,[]) (zSz j) (by simpa using f.2)
theorem zLm:vM 240 zAM:=kF2 zTD zx zb2 zcF zSL zRT
def zWT:zW:=[(240,zAM)]++z6e
theorem zJB:zL zWT:=zh zLm zTD
def z2R (h:Host):Prop:=∃a l,zHe a/\(1<=a.length/\∀p∈a,1<=p.length/\∀x∈p,zc6 x=true)/\h=(zBS a l).1
theorem zMl {p:List Ins}(h:zc6 p=true):p.length<=12:=by unfold zc6 at h;cases a:p.all zdO with|false=>rw[a]at h;cases h|true=>rw[a,cT]at h;have b:=(zge.1 h).2;unfold ln at b;omega
def zyQ (N:Nat)(c:Cur)  : OA :=
 let a:=({ (zne c) with b:=c.b}:Cur); (oN (zqE c) (oN (zn0 a 20) (oN (zwr (zwF c) (ztE a 20)) (some [(.agg [(.s .u8 c.b),(.i .i64 (zn1 a 20).i),(.i .i64 (zn1 a 20).h)]),(aH (zwq (zwF c) (ztE a 20)))]))))
def zqG (c:Cur)(s:Cur)(a:Host):Prop:=(∃N,zyQ N c=some (AV.agg (zbU s)::[aH a]))/\(s.b=c.b/\0<=s.i)/\(z2R a)
def znY (c:Cur)  : Bool:=wC (zqG c)
def zi9 (c:Cur)  : Cur:=wS (zqG c)
def ztD (c:Cur)  : Host:=wV (zqG c)
theorem zKk {c:Cur}(h:znY c=true):zqG c (zi9 c) (ztD c):=wG h
theorem z1s (c:Cur)  : 0<=(zi9 c).i:=wP fun h=>h.2.1.2
theorem z1r (c:Cur)(h:∃N,Ends (wE (fun a=>aH a) c.b fun a=>z2R a) (zyQ N c)):znY c=true:=wI (fun _ _ h=>h) h
def zAs:zdk:=rP0 fun c=>(znY c,zi9 c,[aH (ztD c)])
theorem zOE:zbM Tryz.prog 149 [false,true,true] zAs:=hP0 zJB zU zYK zn (zq []) (fun _ h=>(zKk h).1)
theorem z6J {c:Cur}(h:zbd c):znY c=true:=by
 refine z1r c ⟨0,?_⟩;have e:zbd {zne c with b:=c.b}:=zbL h (z4S _);have a:=(zPM (zbaz h)).2.2;have f:=(zKl (z5v e (m:=20) (by omega) (by omega))).2.2;unfold zyQ oN;conv=>zeta
 have i:(ztE {zne c with b:=c.b} 20).length<=65:=by unfold ln at f;omega
 have S:zHe (zwF c):=⟨by omega,fun p d=>by
  have g:=a.2.2 p d;exact⟨by omega,fun x j=>by have:=zMl (g.2.2 x j);omega⟩⟩
 exact zo (zbaz h) (zo (z5v e (by omega) (by omega)) (zo (zY ⟨S,qU i (by decide)⟩) (zbB aH (z1u _ _) ⟨_,_,S,⟨a.1,fun p d=>⟨(a.2.2 p d).1,(a.2.2 p d).2.2⟩⟩,rfl⟩)))
def zbbV:zcL:=[(149,([false,true,true],zAs))]++zbbU
theorem zMf:zb8 zbbV:=zcr zYK (by
 intro x a;simp only[qG,qN,or_false]at a;rcases a with rfl
 .exact zOE)
def z5H:zW:=zWT
theorem z5I:zL z5H:=zJB
instance:Inhabited Slot:=⟨⟨0,0⟩⟩
instance:Inhabited Entry:=⟨⟨0,0,0,0⟩⟩
instance:Inhabited GExit:=⟨⟨0,0,false,0⟩⟩
instance:Inhabited Guest:=⟨⟨[],0,0,[],[],⟨0,0,false⟩,0,⟨0,0,false,0⟩,false,[]⟩⟩
theorem zw2 {c:Cur}(h:zbd c){n m:Int}(a:0<n)(b:n<=m):inb (zk c n) m=true:=by have:=zfZ h a;exact qJ (by omega)
theorem zE5 {c:Cur}(h:zbd c){n m:Int}(a:0<n)(b:n<=m+1):inr 0 (zk c n) m=true:=by have:=zfZ h a;exact qJ (by omega)
theorem zFM {a:Type}(l:List a)(n:Int):(tk l n).length<=l.length:=by simp[tk];omega
theorem zgV {a:Type}(l:List a)(n:Int)(x:a):(up l n x).length=l.length:=by simp[up]
theorem z9E {a:Type}(l:List a)(n:Int):ln (tk l n)<=ln l:=by have:=zFM l n;unfold ln;omega
theorem z9F {a:Type}(l:List a)(n:Int)(x:a):ln (up l n x)=ln l:=by unfold ln;rw[zgV]
def I64 (x:Int):Prop:=-9223372036854775808<=x/\x<=9223372036854775807
theorem zYv {f:Type}{c:Cur}(h:zbd c){P:f->Prop}{m:Int}(r:0<=m)(I:m<=1000){fc:Cur->Bool}{fs:Cur->Cur}{fv:Cur->f}(z:∀{c:Cur},zbd c->fc c=true)(C:∀c,0<=(fs c).i)(hg:∀{c:Cur},zbd c->P (fv c)){G:Ans->Prop}{R:Cur->List f->Ans}(w:∀s l,s.b=c.b->0<=s.i->ln l=m->(∀x∈l,P x)->G (R s l)){j:Type}(S:Int->Int×Int×List f->j){F:(j->OA)->j->OA}(v:∀rec t i k l,F rec (S t (i,k,l))=bif ilt t m then (cond (fc ⟨c.b,i,k⟩) (cond (few (ln (ap l [fv ⟨c.b,i,k⟩]))) (rec (S (zM .i64 t 1) ((fs ⟨c.b,i,k⟩).i,(fs ⟨c.b,i,k⟩).h,ap l [fv ⟨c.b,i,k⟩]))) none) none) else some (R ⟨c.b,i,k⟩ l)):Ends G (iter 1002 F (S 0 (c.i,c.h,[]))):=by refine zns (fun n s=>∃t i k l,s=S t (i,k,l)/\t+(n:Int)=1000/\0<=t/\t<=m/\0<=i/\(∀x∈l,P x)/\ln l=t) ?_ 1002 1000 _ ⟨0,c.i,c.h,[],rfl,rfl,kS 0,r,h.1,by simp,rfl⟩ (by omega);rintro n s rec ⟨t,i,k,l,rfl,D,u,E,p,q,H⟩ d;rw[v];have a:zbd ⟨c.b,i,k⟩:=zbL h p;refine zbC (fun g=>?_) (fun g=>?_);{have B:t<m:=qE g;have J:=zhv (y:=1) u (by omega) (by omega) (by omega);refine zo (z a) (zo (zlL (by rw[zhO];omega)) (d (n-1) _ (by omega) ⟨_,_,_,_,rfl,by omega,by omega,by omega,C _,?_,by rw[zhO];omega⟩));intro x e;rcases jJ.1 e with e|e;{exact q x e};{rw [qF.1 e];exact hg a}};{have A:¬ t<m:=jV g;exact zvI (w _ l rfl p (by omega) q)}
def ztI (N:Nat)(c:Cur)  : OA :=
 let a:=(zV c [3,3,1,2,0,3,1,(-1),4,9223372036854775807]); (oN (zbl c [3,3,1,2,0,3,1,(-1),4,9223372036854775807]) (some [(.agg [(.s .u8 c.b),(.i .i64 a.i),(.i .i64 a.h)]),(aI (zbh c [3,3,1,2,0,3,1,(-1),4,9223372036854775807]))]))
def zm8 (c:Cur)(s:Cur)(a:Int):Prop:=(∃N,ztI N c=some (AV.agg (zbU s)::[aI a]))/\(s.b=c.b/\0<=s.i)/\(True)
def zkC (c:Cur)  : Bool:=wC (zm8 c)
def zkD (c:Cur)  : Cur:=wS (zm8 c)
def zsu (c:Cur)  : Int:=wV (zm8 c)
theorem zVF {c:Cur}(h:zkC c=true):zm8 c (zkD c) (zsu c):=wG h
theorem zVH (c:Cur)  : 0<=(zkD c).i:=wP fun h=>h.2.1.2
theorem zVG (c:Cur)(h:∃N,Ends (wE (fun a=>aI a) c.b fun a=>True) (ztI N c)):zkC c=true:=wI (fun _ _ h=>h) h
def zv9:zdk:=rP0 fun c=>(zkC c,zkD c,[aI (zsu c)])
theorem zIk:zbM Tryz.prog 158 [false,true,true] zv9:=hP0 zdw zU zMf zn (zq []) (fun _ h=>(zVF h).1)
theorem z95 {c:Cur}(h:zbd c):zkC c=true:=by
 refine zVG c ⟨0,?_⟩;unfold ztI oN;conv=>zeta
 exact zo (zd2 h (by simp)) (zbB aI (zbO _ _) trivial)
def zbbW:zcL:=[(158,([false,true,true],zv9))]++zbbV
theorem zYL:zb8 zbbW:=zcr zMf (by
 intro x a;simp only[qG,qN,or_false]at a;rcases a with rfl
 .exact zIk)
def zba6:zW:=[(100,zwk),(260,zpQ),(261,zrq),(262,zt9)]++zKK
theorem zdY:zL zba6:=zh zz4 (zh zuw (zh zvP (zh zxu zdw)))
def zyL (N:Nat)(c:Cur)(d:Int):OA:=
 let e:=({ (zO c 5) with b:=c.b}:Cur);let a:=({ (zf e d) with b:=c.b}:Cur); (oN (zcI c 5) (cond (zcT c 5) (oN zcx (some [(.agg [(.s .u8 c.b),(.i .i64 (zO c 5).i),(.i .i64 (zO c 5).h)]),(.agg [(.i .i64 zbv.Page),(.i .i64 zbv.Rights)])])) (oN (zA e d) (oN (zbl a [3,3,3,1,2]) (some [(.agg [(.s .u8 c.b),(.i .i64 (zV a [3,3,3,1,2]).i),(.i .i64 (zV a [3,3,3,1,2]).h)]),(.agg [(.i .i64 (zk e d)),(.i .i64 (zbh a [3,3,3,1,2]))])])))))
def zqo (c:Cur)(a:Int)(s:Cur)(d:Slot):Prop:=(∃N,zyL N c a=some (AV.agg (zbU s)::[aT .slot d]))/\(s.b=c.b/\0<=s.i)/\((0<a->a<=1000->I64 d.Page))
def zi4 (c:Cur)(a:Int):Bool:=wC (zqo c a)
def zgj (c:Cur)(a:Int):Cur:=wS (zqo c a)
def zfW (c:Cur)(a:Int):Slot:=wV (zqo c a)
theorem zzm {c:Cur}{a:Int}(h:zi4 c a=true):zqo c a (zgj c a) (zfW c a):=wG h
theorem zKg (c:Cur)(a:Int):0<=(zgj c a).i:=wP fun h=>h.2.1.2
theorem z1h (c:Cur)(a:Int)(h:∃N,Ends (wE (fun d=>aT .slot d) c.b fun d=>(0<a->a<=1000->I64 d.Page)) (zyL N c a)):zi4 c a=true:=wI (fun _ _ h=>h) h
def zAm:zdk:=rP1 dI fun c b=>(zi4 c b,zgj c b,[aT .slot (zfW c b)])
theorem zOs:zbM Tryz.prog 157 [false,true,true] zAm:=hP1 zdY zU zYL zn (zq []) (fun _ _ h=>(zzm h).1)
theorem zPR {c:Cur}(h:zbd c)(a:Int):zi4 c a=true:=by
 refine z1h c a ⟨0,?_⟩;unfold zyL oN;conv=>zeta
 have d:zbd {zO c 5 with b:=c.b}:=zbL h (zb7 _ _);have g:zbd {zf {zO c 5 with b:=c.b} a with b:=c.b}:=zbL h (zF _ _);refine zo (zio h 5) (zbC (fun _=>zo rfl (zbB (aT .slot) (v:=⟨_,_⟩) (zb7 _ _) (fun _ _=>?_))) (fun _=>zo (zbz d a) (zo (zd2 g (by simp)) (zbB (aT .slot) (v:=⟨_,_⟩) (zbO _ _) (fun e f=>?_)))));{exact⟨by decide,by decide⟩};{have:=zfZ d e;exact⟨Int.le_trans (by decide) this.1,Int.le_trans (vL this.2) (by omega)⟩}
def zbbX:zcL:=[(157,([false,true,true],zAm))]++zbbW
theorem zMg:zb8 zbbX:=zcr zYL (by
 intro x a;simp only[qG,qN,or_false]at a;rcases a with rfl
 .exact zOs)
def zBg (N:Nat)(c:Cur)(a:Int):OA:=
 let e:=({ (zgj c a) with b:=c.b}:Cur);let d:=({ (zf e 12) with b:=c.b}:Cur);let f:=(zV d [(-1),(-2),a,9223372036854775807,(-9223372036854775808)]); (oN (zi4 c a) (oN (zA e 12) (cond (ieq (zk e 12) 0) (oN (zbl d [(-1),(-2),a,9223372036854775807,(-9223372036854775808)]) (some [(.agg [(.s .u8 c.b),(.i .i64 f.i),(.i .i64 f.h)]),(.agg [(.i .i64 (zbh d [(-1),(-2),a,9223372036854775807,(-9223372036854775808)])),(.i .i64 (zfW c a).Rights)])])) (cond (ieq (zk e 12) 1) (oN (zkC d) (some [(.agg [(.s .u8 c.b),(.i .i64 (zkD d).i),(.i .i64 (zkD d).h)]),(.agg [(.i .i64 (zfW c a).Page),(.i .i64 (zsu d))])])) (some [(.agg [(.s .u8 c.b),(.i .i64 (zf e 12).i),(.i .i64 (zf e 12).h)]),(.agg [(.i .i64 (zfW c a).Page),(.i .i64 (zfW c a).Rights)])])))))
def zsv (c:Cur)(a:Int)(s:Cur)(d:Slot):Prop:=(∃N,zBg N c a=some (AV.agg (zbU s)::[aT .slot d]))/\(s.b=c.b/\0<=s.i)/\((0<a->a<=1000->I64 d.Page))
def zkf (c:Cur)(a:Int):Bool:=wC (zsv c a)
def zqm (c:Cur)(a:Int):Cur:=wS (zsv c a)
def zoT (c:Cur)(a:Int):Slot:=wV (zsv c a)
theorem zPH {c:Cur}{a:Int}(h:zkf c a=true):zsv c a (zqm c a) (zoT c a):=wG h
theorem z4z (c:Cur)(a:Int):0<=(zqm c a).i:=wP fun h=>h.2.1.2
theorem z4y (c:Cur)(a:Int)(h:∃N,Ends (wE (fun d=>aT .slot d) c.b fun d=>(0<a->a<=1000->I64 d.Page)) (zBg N c a)):zkf c a=true:=wI (fun _ _ h=>h) h
def zDh:zdk:=rP1 dI fun c b=>(zkf c b,zqm c b,[aT .slot (zoT c b)])
theorem zRe:zbM Tryz.prog 69 [false,true,true] zDh:=hP1 zdY zU zMg zn (zq []) (fun _ _ h=>(zPH h).1)
theorem zE0 {c:Cur}(h:zbd c)(a:Int):zkf c a=true:=by
 refine z4y c a ⟨0,?_⟩;unfold zBg oN;conv=>zeta
 have d:zbd {zgj c a with b:=c.b}:=zbL h (zKg _ _);have f:zbd {zf {zgj c a with b:=c.b} 12 with b:=c.b}:=zbL h (zF _ _);have g:=(zzm (zPR h a)).2.2;refine zo (zPR h a) (zo (zbz d 12) (zbC (fun _=>zo (zd2 f (by simp)) (zbB (aT .slot) (v:=⟨zbh _ _,(zfW c a).Rights⟩) (zbO _ _) (fun e i=>?_))) (fun _=>zbC (fun _=>zo (z95 f) (zbB (aT .slot) (v:=⟨(zfW c a).Page,zsu _⟩) (zVH _) (fun e d=>g e d))) (fun _=>zbB (aT .slot) (v:=⟨(zfW c a).Page,(zfW c a).Rights⟩) (zF _ _) (fun e d=>g e d)))));have j:=z2r f (l:=[-1,-2,a,9223372036854775807,-9223372036854775808]) (by simp);simp only[qG,qN,or_false]at j;unfold I64;dsimp only;omega
def zvs (N:Nat)(c:Cur)(g j:Int):OA:=
 (iter (σ:=(Int×(Int×(Int×(Int×(Int×(lS×((List Int)×Unit)))))))) N (fun k a=>let e:=a.2.2.2.2.2.2.1;let d:=(⟨e,a.2.2.2.1,a.2.2.2.2.1⟩:Cur);let f:=(ap a.2.2.2.2.2.1 [(zfW d a.2.1)]); (cond (ilt a.2.2.1 a.1) (oN (zi4 d a.2.1) (oN (few (ln f)) (k (a.1,(a.2.1,((zM .i64 a.2.2.1 1),((zgj d a.2.1).i,((zgj d a.2.1).h,(f,(e,())))))))))) (some [(.agg [(.s .u8 e),(.i .i64 a.2.2.2.1),(.i .i64 a.2.2.2.2.1)]),(aS .slot a.2.2.2.2.2.1)]))) (g,(j,(0,(c.i,(c.h,([],(c.b,()))))))))
def zSO:FuncId->Nat->Option Tmpl:=zq [(244,0,{n:=22,tm:=[(0,.lp 0 0),(1,ti),(2,ti),(7,.sl 0 []),(8,ti)],lo:=[(0,[.sl 1 [],ti,ti])],ro:=[(0,.slot,true),(1,.u8,false)]})]
def zof (c:Cur)(a:Int)(d:Int)(s:Cur)(e:List Slot):Prop:=(∃N,zvs N c a d=some (AV.agg (zbU s)::[aS .slot e]))/\(s.b=c.b/\0<=s.i)/\((0<=a->a<=1000->ln e=a/\(0<d->d<=1000->∀s∈e,I64 s.Page)))
def zhJ (c:Cur)(a:Int)(b:Int):Bool:=wC (zof c a b)
def zJ (c:Cur)(a:Int)(b:Int):Cur:=wS (zof c a b)
def zdj (c:Cur)(a:Int)(b:Int):List Slot:=wV (zof c a b)
theorem zwB {c:Cur}{a:Int}{b:Int}(h:zhJ c a b=true):zof c a b (zJ c a b) (zdj c a b):=wG h
theorem zhK (c:Cur)(a:Int)(b:Int):0<=(zJ c a b).i:=wP fun h=>h.2.1.2
theorem zY1 (c:Cur)(a:Int)(d:Int)(h:∃N,Ends (wE (fun e=>aS .slot e) c.b fun e=>(0<=a->a<=1000->ln e=a/\(0<d->d<=1000->∀s∈e,I64 s.Page))) (zvs N c a d)):zhJ c a d=true:=wI (fun _ _ h=>h) h
def zxC:zdk:=rP2 dI dI fun c b d=>(zhJ c b d,zJ c b d,[aS .slot (zdj c b d)])
theorem zLy:zbM Tryz.prog 244 [false,true,true] zxC:=hP2 zdY zU zMg zn zSO (fun _ _ _ h=>(zwB h).1)
theorem zA9 {c:Cur}(h:zbd c){d:Int}(g:0<=d)(j:d<=1000)(a:Int):zhJ c d a=true:=by
 refine zY1 c d a ⟨1002,?_⟩;unfold zvs oN;conv=>zeta
 exact zYv h (P:=fun s=>0<a->a<=1000->I64 s.Page) g j (fc:=fun c=>zi4 c a) (fs:=fun c=>zgj c a) (fv:=fun c=>zfW c a) (R:=fun s l=>AV.agg (zbU s)::[aS .slot l]) (fun h=>zPR h a) (fun c=>zKg c a) (fun h=>(zzm (zPR h a)).2.2) (fun s l m n p q=>⟨s,l,rfl,⟨m,n⟩,fun _ _=>⟨p,fun e f s r=>q s r e f⟩⟩) ((fun i t=>(d,a,(i:Int),t.1,t.2.1,t.2.2,c.b,())):Int->Int×Int×List Slot->_) (fun rec t i k l=>rfl)
theorem zbdO {c:Cur}(h:zbd c){n m:Int}(a:0<=n)(b:n<=1000)(d:0<m)(e:m<=1000):ln (zdj c n m)=n/\∀s∈zdj c n m,I64 s.Page:=by have g:=(zwB (zA9 h a b m)).2.2 a b;exact⟨g.1,g.2 d e⟩
def zbbY:zcL:=[(69,([false,true,true],zDh)),(244,([false,true,true],zxC))]++zbbX
theorem zMh:zb8 zbbY:=zcr zMg (by
 intro x a;simp only[qG,qN,or_false]at a;rcases a with rfl|rfl
 .exact zRe
 .exact zLy)
def zpf (N:Nat)(c:Cur)(a d:Int):OA:=
 let g:=(zdj c a d);let f:=({ (zJ c a d) with b:=c.b}:Cur);let e:=({ (zf f 8) with b:=c.b}:Cur);let k:=(zk e a);let j:=({ (zf e a) with b:=c.b}:Cur); (oN (zhJ c a d) (oN (zA f 8) (cond (ieq (zk f 8) 0) (oN (zA e a) (oN (zkf j d) (oN (inb k (ln g)) (share (up g k (zoT j d)) (fun l=>(some [(.agg [(.s .u8 c.b),(.i .i64 (zqm j d).i),(.i .i64 (zqm j d).h)]),(aS .slot l)])))))) (cond (ieq (zk f 8) 1) (oN (zA e a) (oN (inr 0 k (ln g)) (some [(.agg [(.s .u8 c.b),(.i .i64 (zf e a).i),(.i .i64 (zf e a).h)]),(aS .slot (tk g k))]))) (some [(.agg [(.s .u8 c.b),(.i .i64 (zf f 8).i),(.i .i64 (zf f 8).h)]),(aS .slot g)])))))
def zke (c:Cur)(a:Int)(d:Int)(s:Cur)(e:List Slot):Prop:=(∃N,zpf N c a d=some (AV.agg (zbU s)::[aS .slot e]))/\(s.b=c.b/\0<=s.i)/\((0<a->a<=1000->ln e<=a/\(0<d->d<=1000->∀s∈e,I64 s.Page)))
def zfI (c:Cur)(a:Int)(b:Int):Bool:=wC (zke c a b)
def zgM (c:Cur)(a:Int)(b:Int):Cur:=wS (zke c a b)
def zeM (c:Cur)(a:Int)(b:Int):List Slot:=wV (zke c a b)
theorem zqk {c:Cur}{a:Int}{b:Int}(h:zfI c a b=true):zke c a b (zgM c a b) (zeM c a b):=wG h
theorem zql (c:Cur)(a:Int)(b:Int):0<=(zgM c a b).i:=wP fun h=>h.2.1.2
theorem zPG (c:Cur)(a:Int)(d:Int)(h:∃N,Ends (wE (fun e=>aS .slot e) c.b fun e=>(0<a->a<=1000->ln e<=a/\(0<d->d<=1000->∀s∈e,I64 s.Page))) (zpf N c a d)):zfI c a d=true:=wI (fun _ _ h=>h) h
def ztr:zdk:=rP2 dI dI fun c b d=>(zfI c b d,zgM c b d,[aS .slot (zeM c b d)])
theorem zEm:zbM Tryz.prog 151 [false,true,true] ztr:=hP2 zdY zU zMh zn (zq []) (fun _ _ _ h=>(zqk h).1)
theorem zpi {c:Cur}(h:zbd c){n:Int}(a:0<n)(j:n<=1000)(m:Int):zfI c n m=true:=by
 refine zPG c n m ⟨0,?_⟩;unfold zpf oN;conv=>zeta
 have l:zbd {zJ c n m with b:=c.b}:=zbL h (zhK _ _ _);have i:zbd {zf {zJ c n m with b:=c.b} 8 with b:=c.b}:=zbL h (zF _ _);have k:zbd {zf {zf {zJ c n m with b:=c.b} 8 with b:=c.b} n with b:=c.b}:=zbL h (zF _ _);have g:=(zwB (zA9 h (vL a) j m)).2.2 (vL a) j;generalize zdj c n m=T at g;refine zo (zA9 h (vL a) j m) (zo (zbz l 8) (zbC (fun _=>zo (zbz i n) (zo (zE0 k m) (zo (zw2 i a (by omega)) (zkM (zbB (aS .slot) (z4z _ _) (fun _ _=>⟨by rw[z9F];omega,fun e f s d=>?_⟩)))))) (fun _=>zbC (fun _=>zo (zbz i n) (zo (zE5 i a (by omega)) (zbB (aS .slot) (zF _ _) (fun _ _=>⟨?_,fun e f s d=>g.2 e f s (jU d)⟩)))) (fun _=>zbB (aS .slot) (zF _ _) (fun _ _=>⟨by omega,g.2⟩)))));{rcases qY d with d|rfl;{exact g.2 e f s d};{exact(zPH (zE0 k m)).2.2 e f}};{have:=z9E T;exact Int.le_trans (this _) (by omega)}
def zyM (N:Nat)(c:Cur)  : OA :=
 (iter (σ:=(Int×(Int×(Int×((List Int)×((List Int)×Unit)))))) N (fun f a=>let d:=(⟨a.2.2.2.2.1,a.2.1,a.2.2.1⟩:Cur);let e:=(ap a.2.2.2.1 [(zk d 100)]); (cond (ilt a.1 4) (oN (zA d 100) (oN (few (ln e)) (f ((zM .i64 a.1 1),((zf d 100).i,((zf d 100).h,(e,(a.2.2.2.2.1,())))))))) (some [(.agg [(.s .u8 a.2.2.2.2.1),(.i .i64 a.2.1),(.i .i64 a.2.2.1)]),(aS .int a.2.2.2.1)]))) (0,(c.i,(c.h,([],(c.b,()))))))
def zVW:FuncId->Nat->Option Tmpl:=zq [(245,0,{n:=16,tm:=[(0,.lp 0 0),(3,.sl 0 []),(4,ti)],lo:=[(0,[.sl 1 [],ti,ti])],ro:=[(0,.int,true),(1,.u8,false)]})]
def zqq (c:Cur)(s:Cur)(a:List Int):Prop:=(∃N,zyM N c=some (AV.agg (zbU s)::[aS .int a]))/\(s.b=c.b/\0<=s.i)/\(a.length=4)
def zi5 (c:Cur)  : Bool:=wC (zqq c)
def zfk (c:Cur)  : Cur:=wS (zqq c)
def zo8 (c:Cur)  : List Int:=wV (zqq c)
theorem zzn {c:Cur}(h:zi5 c=true):zqq c (zfk c) (zo8 c):=wG h
theorem zKh (c:Cur)  : 0<=(zfk c).i:=wP fun h=>h.2.1.2
theorem z1i (c:Cur)(h:∃N,Ends (wE (fun a=>aS .int a) c.b fun a=>a.length=4) (zyM N c)):zi5 c=true:=wI (fun _ _ h=>h) h
def zAn:zdk:=rP0 fun c=>(zi5 c,zfk c,[aS .int (zo8 c)])
theorem zOu:zbM Tryz.prog 245 [false,true,true] zAn:=hP0 zdY zU zMh zn zVW (fun _ h=>(zzn h).1)
theorem zPr {c:Cur}(h:zbd c):zi5 c=true:=by
 refine z1i c ⟨1002,?_⟩;unfold zyM oN;conv=>zeta
 exact zYv h (P:=fun _=>True) (m:=4) (by omega) (by omega) (fc:=fun c=>zA c 100) (fs:=fun c=>zf c 100) (fv:=fun c=>zk c 100) (R:=fun s l=>AV.agg (zbU s)::[aS .int l]) (fun h=>zbz h _) (fun c=>zF c _) (fun _=>trivial) (fun s l a d e f=>⟨s,l,rfl,⟨a,d⟩,by unfold ln at e;omega⟩) ((fun i t=>((i:Int),t.1,t.2.1,t.2.2,c.b,())):Int->Int×Int×List Int->_) (fun rec t i k l=>rfl)
def zbbZ:zcL:=[(151,([false,true,true],ztr)),(245,([false,true,true],zAn))]++zbbY
theorem zMi:zb8 zbbZ:=zcr zMh (by
 intro x a;simp only[qG,qN,or_false]at a;rcases a with rfl|rfl
 .exact zEm
 .exact zOu)
def zBh (N:Nat)(c:Cur)(f:Int):OA:=
 (iter (σ:=(Int×(Int×(Int×(Int×(lM×((List Int)×Unit))))))) N (fun g a=>let d:=(⟨a.2.2.2.2.2.1,a.2.2.1,a.2.2.2.1⟩:Cur);let e:=(ap a.2.2.2.2.1 [(zo8 d)]); (cond (ilt a.2.1 a.1) (oN (zi5 d) (oN (few (ln e)) (g (a.1,((zM .i64 a.2.1 1),((zfk d).i,((zfk d).h,(e,(a.2.2.2.2.2.1,()))))))))) (some [(.agg [(.s .u8 a.2.2.2.2.2.1),(.i .i64 a.2.2.1),(.i .i64 a.2.2.2.1)]),(aS (.sl .int) a.2.2.2.2.1)]))) (f,(0,(c.i,(c.h,([],(c.b,())))))))
def zZS:FuncId->Nat->Option Tmpl:=zq [(251,0,{n:=19,tm:=[(0,.lp 0 0),(1,ti),(5,.sl 0 []),(6,ti)],lo:=[(0,[.sl 1 [],ti,ti])],ro:=[(0,(.sl .int),true),(1,.u8,false)]})]
def zsy (c:Cur)(a:Int)(s:Cur)(d:List (List Int)):Prop:=(∃N,zBh N c a=some (AV.agg (zbU s)::[aS (.sl .int) d]))/\(s.b=c.b/\0<=s.i)/\((0<=a->a<=1000->ln d=a/\∀r∈d,r.length=4))
def ziK (c:Cur)(a:Int):Bool:=wC (zsy c a)
def zm9 (c:Cur)(a:Int):Cur:=wS (zsy c a)
def zwC (c:Cur)(a:Int):List (List Int):=wV (zsy c a)
theorem zCx {c:Cur}{a0:Int}(h:ziK c a0=true):zsy c a0 (zm9 c a0) (zwC c a0):=wG h
theorem z4D (c:Cur)(a0:Int):0<=(zm9 c a0).i:=wP fun h=>h.2.1.2
theorem z4C (c:Cur)(a:Int)(h:∃N,Ends (wE (fun d=>aS (.sl .int) d) c.b fun d=>(0<=a->a<=1000->ln d=a/\∀r∈d,r.length=4)) (zBh N c a)):ziK c a=true:=wI (fun _ _ h=>h) h
def zDi:zdk:=rP1 dI fun c b=>(ziK c b,zm9 c b,[aS (.sl .int) (zwC c b)])
theorem zz7:zbM Tryz.prog 251 [false,true,true] zDi:=hP1 zdY zU zMi zn zZS (fun _ _ h=>(zCx h).1)
theorem zbe4 {c:Cur}(h:zbd c){a0:Int}(a:0<=a0)(d:a0<=1000):ziK c a0=true:=by
 refine z4C c a0 ⟨1002,?_⟩;unfold zBh oN;conv=>zeta
 exact zYv h (P:=fun r=>r.length=4) a d (fc:=zi5) (fs:=zfk) (fv:=zo8) (R:=fun s l=>AV.agg (zbU s)::[aS (.sl .int) l]) zPr zKh (fun h=>(zzn (zPr h)).2.2) (fun s l e f g j=>⟨s,l,rfl,⟨e,f⟩,fun _ _=>⟨g,j⟩⟩) ((fun i t=>(a0,(i:Int),t.1,t.2.1,t.2.2,c.b,())):Int->Int×Int×List (List Int)->_) (fun rec t i k l=>rfl)
def zvt (N:Nat)(c:Cur)  : OA :=
 let d:=(zo8 c);let e:=({ (zfk c) with b:=c.b}:Cur);let f:=(zf e 6);let a:=({f with b:=c.b}:Cur);let g:=({ (zf a 4) with b:=c.b}:Cur); (oN (zi5 c) (oN (zA e 6) (cond (ieq (zk e 6) 0) (oN (zA a 4) (oN (inr 0 (zk a 4) (ln d)) (some [(.agg [(.s .u8 c.b),(.i .i64 (zf a 4).i),(.i .i64 (zf a 4).h)]),(aS .int (tk d (zk a 4)))]))) (cond (ieq (zk e 6) 1) (oN (zA a 4) (oN (zbl g [(-1),99,100]) (oN (inb (zk a 4) (ln d)) (share (up d (zk a 4) (zbh g [(-1),99,100])) (fun j=>(some [(.agg [(.s .u8 c.b),(.i .i64 (zV g [(-1),99,100]).i),(.i .i64 (zV g [(-1),99,100]).h)]),(aS .int j)])))))) (cond (ieq (zk e 6) 2) (oN (few (ln (ap d [1]))) (some [(.agg [(.s .u8 c.b),(.i .i64 f.i),(.i .i64 f.h)]),(aS .int (ap d [1]))])) (some [(.agg [(.s .u8 c.b),(.i .i64 f.i),(.i .i64 f.h)]),(aS .int d)]))))))
def zog (c:Cur)(s:Cur)(a:List Int):Prop:=(∃N,zvt N c=some (AV.agg (zbU s)::[aS .int a]))/\(s.b=c.b/\0<=s.i)/\(a.length<=5)
def zmf (c:Cur)  : Bool:=wC (zog c)
def zmg (c:Cur)  : Cur:=wS (zog c)
def zu4 (c:Cur)  : List Int:=wV (zog c)
theorem zGT {c:Cur}(h:zmf c=true):zog c (zmg c) (zu4 c):=wG h
theorem zY3 (c:Cur)  : 0<=(zmg c).i:=wP fun h=>h.2.1.2
theorem zY2 (c:Cur)(h:∃N,Ends (wE (fun a=>aS .int a) c.b fun a=>a.length<=5) (zvt N c)):zmf c=true:=wI (fun _ _ h=>h) h
def zxD:zdk:=rP0 fun c=>(zmf c,zmg c,[aS .int (zu4 c)])
theorem zLz:zbM Tryz.prog 152 [false,true,true] zxD:=hP0 zdY zU zMi zn (zq []) (fun _ h=>(zGT h).1)
theorem z1U {c:Cur}(h:zbd c):zmf c=true:=by
 refine zY2 c ⟨0,?_⟩;unfold zvt oN;conv=>zeta
 have e:zbd {zfk c with b:=c.b}:=zbL h (zKh _);have a:zbd {zf {zfk c with b:=c.b} 6 with b:=c.b}:=zbL h (zF _ _);have f:zbd {zf {zf {zfk c with b:=c.b} 6 with b:=c.b} 4 with b:=c.b}:=zbL h (zF _ _);have g:=(zzn (zPr h)).2.2;generalize zo8 c=T at g;have d:ln T=4:=(by unfold ln;omega);refine zo (zPr h) (zo (zbz e 6) (zbC (fun _=>zo (zbz a 4) (zo (zE5 a (by omega) (by omega)) (zbB (aS .int) (zF _ _) (qU (zFM T _) (by omega))))) (fun _=>zbC (fun _=>zo (zbz a 4) (zo (zd2 f (by simp)) (zo (zw2 a (by omega) (by omega)) (zkM (zbB (aS .int) (zbO _ _) (by rw[zgV];omega)))))) (fun _=>zbC (fun _=>zo (zlL (by rw[zhO];omega)) (zbB (aS .int) (zF _ _) ?_)) (fun _=>zbB (aS .int) (zF _ _) (by omega))))));simp[ap];omega
def zbb0:zcL:=[(251,([false,true,true],zDi)),(152,([false,true,true],zxD))]++zbbZ
theorem zYM:zb8 zbb0:=zcr zMi (by
 intro x a;simp only[qG,qN,or_false]at a;rcases a with rfl|rfl
 .exact zz7
 .exact zLz)
def ztK (N:Nat)(c:Cur)  : OA :=
 let d:=({ (zgm c) with b:=c.b}:Cur);let a:=({ (zf d 10) with b:=c.b}:Cur);let e:=(zV a [(-1),0,12,15,16,99,100,9223372036854775807]); (oN (zkg c) (oN (zA d 10) (cond (ieq (zk d 10) 0) (oN (zA a 11) (some [(.agg [(.s .u8 c.b),(.i .i64 (zf a 11).i),(.i .i64 (zf a 11).h)]),(.agg [(.i .i64 (wsub .i64 (zk a 11) 1)),(.i .i64 (zgc c).X)])])) (cond (ieq (zk d 10) 1) (oN (zbl a [(-1),0,12,15,16,99,100,9223372036854775807]) (some [(.agg [(.s .u8 c.b),(.i .i64 e.i),(.i .i64 e.h)]),(.agg [(.i .i64 (zgc c).Op),(.i .i64 (zbh a [(-1),0,12,15,16,99,100,9223372036854775807]))])])) (some [(.agg [(.s .u8 c.b),(.i .i64 (zf d 10).i),(.i .i64 (zf d 10).h)]),(.agg [(.i .i64 (zgc c).Op),(.i .i64 (zgc c).X)])])))))
def znc (c:Cur)(s:Cur)(a:Ins):Prop:=(∃N,ztK N c=some (AV.agg (zbU s)::[aT .ins a]))/\(s.b=c.b/\0<=s.i)/\(True)
def zkG (c:Cur)  : Bool:=wC (znc c)
def zkH (c:Cur)  : Cur:=wS (znc c)
def zzo (c:Cur)  : Ins:=wV (znc c)
theorem zVK {c:Cur}(h:zkG c=true):znc c (zkH c) (zzo c):=wG h
theorem zVM (c:Cur)  : 0<=(zkH c).i:=wP fun h=>h.2.1.2
theorem zVL (c:Cur)(h:∃N,Ends (wE (fun a=>aT .ins a) c.b fun a=>True) (ztK N c)):zkG c=true:=wI (fun _ _ h=>h) h
def zwb:zdk:=rP0 fun c=>(zkG c,zkH c,[aT .ins (zzo c)])
theorem zIm:zbM Tryz.prog 303 [false,true,true] zwb:=hP0 zdY zU zYM zn (zq []) (fun _ h=>(zVK h).1)
theorem z8t {c:Cur}(h:zbd c):zkG c=true:=by
 refine zVL c ⟨0,?_⟩;unfold ztK oN;conv=>zeta
 have d:zbd {zgm c with b:=c.b}:=zbL h (zCy _);have a:zbd {zf {zgm c with b:=c.b} 10 with b:=c.b}:=zbL h (zF _ _);exact zo (zV8 h) (zo (zbz d 10) (zbC (fun _=>zo (zbz a 11) (zbB (aT .ins) (v:=⟨wsub .i64 _ 1,(zgc c).X⟩) (zF _ _) trivial)) (fun _=>zbC (fun _=>zo (zd2 a (by simp)) (zbB (aT .ins) (v:=⟨(zgc c).Op,zbh _ _⟩) (zbO _ _) trivial)) (fun _=>zbB (aT .ins) (v:=zgc c) (zF _ _) trivial))))
def zbb1:zcL:=[(303,([false,true,true],zwb))]++zbb0
theorem zCi:zb8 zbb1:=zcr zYM (by
 intro x a;simp only[qG,qN,or_false]at a;rcases a with rfl
 .exact zIm)
def zqR (N:Nat)(c:Cur)  : OA :=
 let e:=(zb4 c);let g:=({ (zba c) with b:=c.b}:Cur);let k:=(zf g 8);let d:=({k with b:=c.b}:Cur); (oN (zhe c) (oN (zA g 8) (cond (ieq (zk g 8) 0) (oN (zkG d) (oN (inb 0 (ln e)) (share (up e 0 (zzo d)) (fun m=>(some [(.agg [(.s .u8 c.b),(.i .i64 (zkH d).i),(.i .i64 (zkH d).h)]),(aS .ins m)]))))) (cond (ieq (zk g 8) 1) (iter (σ:=(Int×(Int×(lI×((List Int)×Unit))))) N (fun l a=>let j:=(⟨a.2.2.2.1,a.1,a.2.1⟩:Cur);let f:=({ (zf j 2) with b:=a.2.2.2.1}:Cur); (oN (zA j 2) (cond (ilt (ln a.2.2.1) (zM .i64 12 (zk j 2))) (oN (zkg f) (oN (few (ln (ap a.2.2.1 [(zgc f)]))) (l ((zgm f).i,((zgm f).h,((ap a.2.2.1 [(zgc f)]),(a.2.2.2.1,()))))))) (some [(.agg [(.s .u8 a.2.2.2.1),(.i .i64 (zf j 2).i),(.i .i64 (zf j 2).h)]),(aS .ins a.2.2.1)])))) (k.i,(k.h,(e,(c.b,()))))) (cond (ieq (zk g 8) 2) (oN (zA d 2) (oN (inr 0 (zk d 2) (ln e)) (some [(.agg [(.s .u8 c.b),(.i .i64 (zf d 2).i),(.i .i64 (zf d 2).h)]),(aS .ins (tk e (zk d 2)))]))) (some [(.agg [(.s .u8 c.b),(.i .i64 k.i),(.i .i64 k.h)]),(aS .ins e)]))))))
def zMC:FuncId->Nat->Option Tmpl:=zq [(247,1,{n:=34,tm:=[(0,.lp 0 0),(3,.sl 0 [])],lo:=[(0,[.sl 1 [],ti,ti])],ro:=[(0,.ins,true),(1,.u8,false)]})]
def zly (c:Cur)(s:Cur)(a:List Ins):Prop:=(∃N,zqR N c=some (AV.agg (zbU s)::[aS .ins a]))/\(s.b=c.b/\0<=s.i)/\(a.length<=13)
def zjz (c:Cur)  : Bool:=wC (zly c)
def zjA (c:Cur)  : Cur:=wS (zly c)
def zqs (c:Cur)  : List Ins:=wV (zly c)
theorem zA4 {c:Cur}(h:zjz c=true):zly c (zjA c) (zqs c):=wG h
theorem zSw (c:Cur)  : 0<=(zjA c).i:=wP fun h=>h.2.1.2
theorem zSv (c:Cur)(h:∃N,Ends (wE (fun a=>aS .ins a) c.b fun a=>a.length<=13) (zqR N c)):zjz c=true:=wI (fun _ _ h=>h) h
def zuy:zdk:=rP0 fun c=>(zjz c,zjA c,[aS .ins (zqs c)])
theorem zFw:zbM Tryz.prog 247 [false,true,true] zuy:=hP0 zdY zU zCi zn zMC (fun _ h=>(zA4 h).1)
theorem zTm {c:Cur}(h:zbd c):zjz c=true:=by
 refine zSv c ⟨1002,?_⟩;unfold zqR oN;conv=>zeta
 have B:zbd {zba c with b:=c.b}:=zbL h (zi7 _);have q:zbd {zf {zba c with b:=c.b} 8 with b:=c.b}:=zbL h (zF _ _);have g:=(zsB (zFU h)).2.2;have p:=zMl g;have j:1<=(zb4 c).length:=(by unfold zc6 at g;cases d:(zb4 c).all zdO with|false=>rw[d] at g;cases g|true=>rw[d,cT] at g;have:=(zge.1 g).1;unfold ln at this;omega);generalize zb4 c=T at p j;have y:1<=ln T/\ln T<=12:=(by unfold ln;omega);have e:(2:Int)<=ln T+1:=(by omega);refine zo (zFU h) (zo (zbz B 8) (zbC (fun _=>zo (z8t q) (zo (qJ (by omega)) (zkM (zbB (aS .ins) (zVM _) (by rw[zgV];omega))))) (fun _=>zbC (fun _=>?_) (fun _=>zbC (fun _=>zo (zbz q 2) (zo (zE5 q (n:=2) (by omega) e) (zbB (aS .ins) (zF _ _) (qU (zFM T _) (by omega))))) (fun _=>zbB (aS .ins) (zF _ _) (by omega))))));{refine zns (fun n s=>s.2.2.1.length+n=13/\0<=s.1/\s.2.2.2.1=c.b) ?_ 1002 (13-T.length) _ ⟨by dsimp only;omega,zF _ _,rfl⟩ (by omega);rintro n ⟨i,k,l,b,u⟩ rec ⟨v,r,t⟩ m;dsimp only at v r t ⊢;subst t;have a:zbd ⟨c.b,i,k⟩:=zbL h r;have A:=zfZ a (n:=2) (by omega);have z:=zhv (x:=12) (by omega) (by omega) A.1 (by omega);have w:zbd {zf ⟨c.b,i,k⟩ 2 with b:=c.b}:=zbL h (zF _ _);refine zo (zbz a 2) (zbC (fun d=>?_) (fun d=>?_));{have f:ln l<zM .i64 12 (zk ⟨c.b,i,k⟩ 2):=qE d;rw[z]at f;unfold ln at f;exact zo (zV8 w) (zo (zlL (by rw[zhO];unfold ln;omega)) (m (n-1) _ (by omega) ⟨by simp[ap];omega,zCy _,rfl⟩))};{exact zbB (aS .ins) (zF _ _) (by omega)}}
def zBj (N:Nat)(c:Cur)  : OA :=
 let a:=(zcy c);let e:=({ (zcg c) with b:=c.b}:Cur);let f:=(zf e 8);let d:=({f with b:=c.b}:Cur);let g:=(zV d [(-1),255,256,9223372036854775807]); (oN (zki c) (oN (zA e 8) (cond (ieq (zk e 8) 0) (oN (zbl d [(-1),2,3,4]) (some [(.agg [(.s .u8 c.b),(.i .i64 (zV d [(-1),2,3,4]).i),(.i .i64 (zV d [(-1),2,3,4]).h)]),(.agg [(.i .i64 (zbh d [(-1),2,3,4])),(.i .i64 a.Post),(.b a.Open)])])) (cond (ieq (zk e 8) 1) (oN (zbl d [(-1),255,256,9223372036854775807]) (some [(.agg [(.s .u8 c.b),(.i .i64 g.i),(.i .i64 g.h)]),(.agg [(.i .i64 a.Traps),(.i .i64 (zbh d [(-1),255,256,9223372036854775807])),(.b a.Open)])])) (cond (ieq (zk e 8) 2) (some [(.agg [(.s .u8 c.b),(.i .i64 f.i),(.i .i64 f.h)]),(.agg [(.i .i64 a.Traps),(.i .i64 a.Post),(.b (nB a.Open))])]) (some [(.agg [(.s .u8 c.b),(.i .i64 f.i),(.i .i64 f.h)]),(.agg [(.i .i64 a.Traps),(.i .i64 a.Post),(.b a.Open)])]))))))
def zsC (c:Cur)(s:Cur)(a:Ctl):Prop:=(∃N,zBj N c=some (AV.agg (zbU s)::[.agg (zk8 a)]))/\(s.b=c.b/\0<=s.i)/\(True)
def zkh (c:Cur)  : Bool:=wC (zsC c)
def zqv (c:Cur)  : Cur:=wS (zsC c)
def zwE (c:Cur)  : Ctl:=wV (zsC c)
theorem z4F {c:Cur}(h:zkh c=true):zsC c (zqv c) (zwE c):=wG h
theorem z4H (c:Cur)  : 0<=(zqv c).i:=wP fun h=>h.2.1.2
theorem z4G (c:Cur)(h:∃N,Ends (wE (fun a=>.agg (zk8 a)) c.b fun a=>True) (zBj N c)):zkh c=true:=wI (fun _ _ h=>h) h
def zDk:zdk:=rP0 fun c=>(zkh c,zqv c,[.agg (zk8 (zwE c))])
theorem zRj:zbM Tryz.prog 90 [false,true,true] zDk:=hP0 zdY zU zCi zn (zq []) (fun _ h=>(z4F h).1)
theorem zWv {c:Cur}(h:zbd c):zkh c=true:=by
 refine z4G c ⟨0,?_⟩;unfold zBj oN nB;conv=>zeta
 have d:zbd {zcg c with b:=c.b}:=zbL h (zCz _);have a:zbd {zf {zcg c with b:=c.b} 8 with b:=c.b}:=zbL h (zF _ _);exact zo (z3g h) (zo (zbz d 8) (zbC (fun _=>zo (zd2 a (by simp)) (zbB (fun x=>AV.agg (zk8 x)) (v:=⟨zbh _ _,(zcy c).Post,(zcy c).Open⟩) (zbO _ _) trivial)) (fun _=>zbC (fun _=>zo (zd2 a (by simp)) (zbB (fun x=>AV.agg (zk8 x)) (v:=⟨(zcy c).Traps,zbh _ _,(zcy c).Open⟩) (zbO _ _) trivial)) (fun _=>zbC (fun _=>zbB (fun x=>AV.agg (zk8 x)) (v:=⟨(zcy c).Traps,(zcy c).Post,bif (zcy c).Open then false else true⟩) (zF _ _) trivial) (fun _=>zbB (fun x=>AV.agg (zk8 x)) (v:=(zcy c)) (zF _ _) trivial)))))
def zyO (N:Nat)(c:Cur)  : OA :=
 let f:=(zf c 5);let d:=({f with b:=c.b}:Cur);let j:=(zf d 100);let a:=(zk d 100);let e:=({ (zf d 4) with b:=c.b}:Cur);let g:=(zfj (zk d 4) (zcT e 2)); (oN (zA c 5) (cond (ieq (zk c 5) 0) (oN (zA d 4) (oN (zcI e 2) (oN (zkx (zk d 4) (zcT e 2)) (some [(.agg [(.s .u8 c.b),(.i .i64 (zO e 2).i),(.i .i64 (zO e 2).h)]),(.agg [(.i .i64 g.Kind),(.i .i64 g.Page),(.b g.Write),(.i .i64 g.N)])])))) (cond (ieq (zk c 5) 1) (oN (zA d 100) (oN (zp4 a) (some [(.agg [(.s .u8 c.b),(.i .i64 j.i),(.i .i64 j.h)]),(.agg [(.i .i64 (zfA a).Kind),(.i .i64 (zfA a).Page),(.b (zfA a).Write),(.i .i64 (zfA a).N)])]))) (cond (ieq (zk c 5) 2) (oN (zA d 100) (oN (zsp a) (some [(.agg [(.s .u8 c.b),(.i .i64 j.i),(.i .i64 j.h)]),(.agg [(.i .i64 (zgy a).Kind),(.i .i64 (zgy a).Page),(.b (zgy a).Write),(.i .i64 (zgy a).N)])]))) (cond (ieq (zk c 5) 3) (some [(.agg [(.s .u8 c.b),(.i .i64 f.i),(.i .i64 f.h)]),(.agg [(.i .i64 4),(.i .i64 0),(.b false),(.i .i64 0)])]) (some [(.agg [(.s .u8 c.b),(.i .i64 f.i),(.i .i64 f.h)]),(.agg [(.i .i64 0),(.i .i64 0),(.b false),(.i .i64 0)])]))))))
def zqy (c:Cur)(s:Cur)(a:GExit):Prop:=(∃N,zyO N c=some (AV.agg (zbU s)::[.agg (zfg a)]))/\(s.b=c.b/\0<=s.i)/\(True)
def zhf (c:Cur)  : Bool:=wC (zqy c)
def zef (c:Cur)  : Cur:=wS (zqy c)
def zb5 (c:Cur)  : GExit:=wV (zqy c)
theorem z1k {c:Cur}(h:zhf c=true):zqy c (zef c) (zb5 c):=wG h
theorem zsF (c:Cur)  : 0<=(zef c).i:=wP fun h=>h.2.1.2
theorem z1l (c:Cur)(h:∃N,Ends (wE (fun a=>.agg (zfg a)) c.b fun a=>True) (zyO N c)):zhf c=true:=wI (fun _ _ h=>h) h
def zAp:zdk:=rP0 fun c=>(zhf c,zef c,[.agg (zfg (zb5 c))])
theorem zOx:zbM Tryz.prog 175 [false,true,true] zAp:=hP0 zdY zU zCi zn (zq []) (fun _ h=>(z1k h).1)
theorem zNL {c:Cur}(h:zbd c):zhf c=true:=by
 refine z1l c ⟨0,?_⟩;unfold zyO oN;conv=>zeta
 have a:zbd {zf c 5 with b:=c.b}:=zbL h (zF _ _);have d:zbd {zf {zf c 5 with b:=c.b} 4 with b:=c.b}:=zbL h (zF _ _);exact zo (zbz h 5) (zbC (fun _=>zo (zbz a 4) (zo (zio d 2) (zo rfl (zbB (fun x=>AV.agg (zfg x)) (v:=zfj _ _) (zb7 _ _) trivial)))) (fun _=>zbC (fun _=>zo (zbz a 100) (zo rfl (zbB (fun x=>AV.agg (zfg x)) (v:=zfA _) (zF _ _) trivial))) (fun _=>zbC (fun _=>zo (zbz a 100) (zo rfl (zbB (fun x=>AV.agg (zfg x)) (v:=zgy _) (zF _ _) trivial))) (fun _=>zbC (fun _=>zbB (fun x=>AV.agg (zfg x)) (v:=⟨4,0,false,0⟩) (zF _ _) trivial) (fun _=>zbB (fun x=>AV.agg (zfg x)) (v:=⟨0,0,false,0⟩) (zF _ _) trivial)))))
def zbb2:zcL:=[(247,([false,true,true],zuy)),(90,([false,true,true],zDk)),(175,([false,true,true],zAp))]++zbb1
theorem zow:zb8 zbb2:=zcr zCi (by
 intro x a;simp only[qG,qN,or_false]at a;rcases a with rfl|rfl|rfl
 .exact zFw
 .exact zRj
 .exact zOx)
def zBl (N:Nat)(c:Cur)  : OA :=
 let a:=(zb5 c);let e:=({ (zef c) with b:=c.b}:Cur);let d:=({ (zf e 8) with b:=c.b}:Cur); (oN (zhf c) (oN (zA e 8) (cond (ieq (zk e 8) 0) (oN (zA d 7) (some [(.agg [(.s .u8 c.b),(.i .i64 (zf d 7).i),(.i .i64 (zf d 7).h)]),(.agg [(.i .i64 (wsub .i64 (zk d 7) 1)),(.i .i64 a.Page),(.b a.Write),(.i .i64 a.N)])])) (cond (ieq (zk e 8) 1) (oN (zbl d [(-1),3,4]) (some [(.agg [(.s .u8 c.b),(.i .i64 (zV d [(-1),3,4]).i),(.i .i64 (zV d [(-1),3,4]).h)]),(.agg [(.i .i64 a.Kind),(.i .i64 (zbh d [(-1),3,4])),(.b a.Write),(.i .i64 a.N)])])) (cond (ieq (zk e 8) 2) (oN (zbl d [(-1),99,100]) (some [(.agg [(.s .u8 c.b),(.i .i64 (zV d [(-1),99,100]).i),(.i .i64 (zV d [(-1),99,100]).h)]),(.agg [(.i .i64 a.Kind),(.i .i64 a.Page),(.b a.Write),(.i .i64 (zbh d [(-1),99,100]))])])) (some [(.agg [(.s .u8 c.b),(.i .i64 (zf e 8).i),(.i .i64 (zf e 8).h)]),(.agg [(.i .i64 a.Kind),(.i .i64 a.Page),(.b a.Write),(.i .i64 a.N)])]))))))
def zsE (c:Cur)(s:Cur)(a:GExit):Prop:=(∃N,zBl N c=some (AV.agg (zbU s)::[.agg (zfg a)]))/\(s.b=c.b/\0<=s.i)/\(True)
def zqw (c:Cur)  : Bool:=wC (zsE c)
def zqx (c:Cur)  : Cur:=wS (zsE c)
def zCA (c:Cur)  : GExit:=wV (zsE c)
theorem z4K {c:Cur}(h:zqw c=true):zsE c (zqx c) (zCA c):=wG h
theorem z4M (c:Cur)  : 0<=(zqx c).i:=wP fun h=>h.2.1.2
theorem z4L (c:Cur)(h:∃N,Ends (wE (fun a=>.agg (zfg a)) c.b fun a=>True) (zBl N c)):zqw c=true:=wI (fun _ _ h=>h) h
def zDm:zdk:=rP0 fun c=>(zqw c,zqx c,[.agg (zfg (zCA c))])
theorem zRl:zbM Tryz.prog 249 [false,true,true] zDm:=hP0 zdY zU zow zn (zq []) (fun _ h=>(z4K h).1)
theorem z5w {c:Cur}(h:zbd c):zqw c=true:=by
 refine z4L c ⟨0,?_⟩;unfold zBl oN;conv=>zeta
 have d:zbd {zef c with b:=c.b}:=zbL h (zsF _);have a:zbd {zf {zef c with b:=c.b} 8 with b:=c.b}:=zbL h (zF _ _);exact zo (zNL h) (zo (zbz d 8) (zbC (fun _=>zo (zbz a 7) (zbB (fun x=>AV.agg (zfg x)) (v:=⟨wsub .i64 _ 1,(zb5 c).Page,(zb5 c).Write,(zb5 c).N⟩) (zF _ _) trivial)) (fun _=>zbC (fun _=>zo (zd2 a (by simp)) (zbB (fun x=>AV.agg (zfg x)) (v:=⟨(zb5 c).Kind,zbh _ _,(zb5 c).Write,(zb5 c).N⟩) (zbO _ _) trivial)) (fun _=>zbC (fun _=>zo (zd2 a (by simp)) (zbB (fun x=>AV.agg (zfg x)) (v:=⟨(zb5 c).Kind,(zb5 c).Page,(zb5 c).Write,zbh _ _⟩) (zbO _ _) trivial)) (fun _=>zbB (fun x=>AV.agg (zfg x)) (v:=(zb5 c)) (zF _ _) trivial)))))
def zyP (N:Nat)(c:Cur)  : OA :=
 let a:=({ (zf c 256) with b:=c.b}:Cur);let d:=({ (zf a 256) with b:=c.b}:Cur);let e:=(zV d [0,1,128,255,(zk c 256),(zk a 256),(-1),256,9223372036854775807]); (oN (zA c 256) (oN (zA a 256) (oN (zbl d [0,1,128,255,(zk c 256),(zk a 256),(-1),256,9223372036854775807]) (some [(.agg [(.s .u8 c.b),(.i .i64 e.i),(.i .i64 e.h)]),(aI (zbh d [0,1,128,255,(zk c 256),(zk a 256),(-1),256,9223372036854775807]))]))))
def zqz (c:Cur)(s:Cur)(a:Int):Prop:=(∃N,zyP N c=some (AV.agg (zbU s)::[aI a]))/\(s.b=c.b/\0<=s.i)/\(True)
def znW (c:Cur)  : Bool:=wC (zqz c)
def znX (c:Cur)  : Cur:=wS (zqz c)
def zyx (c:Cur)  : Int:=wV (zqz c)
theorem z1m {c:Cur}(h:znW c=true):zqz c (znX c) (zyx c):=wG h
theorem z1p (c:Cur)  : 0<=(znX c).i:=wP fun h=>h.2.1.2
theorem z1o (c:Cur)(h:∃N,Ends (wE (fun a=>aI a) c.b fun a=>True) (zyP N c)):znW c=true:=wI (fun _ _ h=>h) h
def zAq:zdk:=rP0 fun c=>(znW c,znX c,[aI (zyx c)])
theorem zOy:zbM Tryz.prog 248 [false,true,true] zAq:=hP0 zdY zU zow zn (zq []) (fun _ h=>(z1m h).1)
theorem zbeB {c:Cur}(h:zbd c):znW c=true:=by
 refine z1o c ⟨0,?_⟩;unfold zyP oN;conv=>zeta
 have a:zbd {zf c 256 with b:=c.b}:=zbL h (zF _ _);have d:zbd {zf {zf c 256 with b:=c.b} 256 with b:=c.b}:=zbL h (zF _ _);exact zo (zbz h 256) (zo (zbz a 256) (zo (zd2 d (by simp)) (zbB aI (zbO _ _) trivial)))
def zvv (N:Nat)(c:Cur)  : OA :=
 let a:=(zV c [0,1,2,3,0,1,(-1),4,9223372036854775807]); (oN (zbl c [0,1,2,3,0,1,(-1),4,9223372036854775807]) (some [(.agg [(.s .u8 c.b),(.i .i64 a.i),(.i .i64 a.h)]),(aI (zbh c [0,1,2,3,0,1,(-1),4,9223372036854775807]))]))
def zoi (c:Cur)(s:Cur)(a:Int):Prop:=(∃N,zvv N c=some (AV.agg (zbU s)::[aI a]))/\(s.b=c.b/\0<=s.i)/\(True)
def zmh (c:Cur)  : Bool:=wC (zoi c)
def zmi (c:Cur)  : Cur:=wS (zoi c)
def zu6 (c:Cur)  : Int:=wV (zoi c)
theorem zY6 {c:Cur}(h:zmh c=true):zoi c (zmi c) (zu6 c):=wG h
theorem zY8 (c:Cur)  : 0<=(zmi c).i:=wP fun h=>h.2.1.2
theorem zY7 (c:Cur)(h:∃N,Ends (wE (fun a=>aI a) c.b fun a=>True) (zvv N c)):zmh c=true:=wI (fun _ _ h=>h) h
def zxF:zdk:=rP0 fun c=>(zmh c,zmi c,[aI (zu6 c)])
theorem zLB:zbM Tryz.prog 155 [false,true,true] zxF:=hP0 zdY zU zow zn (zq []) (fun _ h=>(zY6 h).1)
theorem zbdQ {c:Cur}(h:zbd c):zmh c=true:=by
 refine zY7 c ⟨0,?_⟩;unfold zvv oN;conv=>zeta
 exact zo (zd2 h (by simp)) (zbB aI (zbO _ _) trivial)
def zET (N:Nat)(c:Cur)  : OA :=
 let a:=(zV c [0,0,1,1,2,(-1),9223372036854775807]); (oN (zbl c [0,0,1,1,2,(-1),9223372036854775807]) (some [(.agg [(.s .u8 c.b),(.i .i64 a.i),(.i .i64 a.h)]),(aI (zbh c [0,0,1,1,2,(-1),9223372036854775807]))]))
def zu7 (c:Cur)(s:Cur)(a:Int):Prop:=(∃N,zET N c=some (AV.agg (zbU s)::[aI a]))/\(s.b=c.b/\0<=s.i)/\(True)
def zex (c:Cur)  : Bool:=wC (zu7 c)
def zmk (c:Cur)  : Cur:=wS (zu7 c)
def zh2 (c:Cur)  : Int:=wV (zu7 c)
theorem z7H {c:Cur}(h:zex c=true):zu7 c (zmk c) (zh2 c):=wG h
theorem zyy (c:Cur)  : 0<=(zmk c).i:=wP fun h=>h.2.1.2
theorem z7I (c:Cur)(h:∃N,Ends (wE (fun a=>aI a) c.b fun a=>True) (zET N c)):zex c=true:=wI (fun _ _ h=>h) h
def zFV:zdk:=rP0 fun c=>(zex c,zmk c,[aI (zh2 c)])
theorem zUI:zbM Tryz.prog 67 [false,true,true] zFV:=hP0 zdY zU zow zn (zq []) (fun _ h=>(z7H h).1)
theorem zE2 {c:Cur}(h:zbd c):zex c=true:=by
 refine z7I c ⟨0,?_⟩;unfold zET oN;conv=>zeta
 exact zo (zd2 h (by simp)) (zbB aI (zbO _ _) trivial)
def zyK (N:Nat)(c:Cur)  : OA :=
 let a:=(zV c [0,1,2,3,3,4,7,8,(-1),9223372036854775807,(-9223372036854775808)]); (oN (zbl c [0,1,2,3,3,4,7,8,(-1),9223372036854775807,(-9223372036854775808)]) (some [(.agg [(.s .u8 c.b),(.i .i64 a.i),(.i .i64 a.h)]),(aI (zbh c [0,1,2,3,3,4,7,8,(-1),9223372036854775807,(-9223372036854775808)]))]))
def zqn (c:Cur)(s:Cur)(a:Int):Prop:=(∃N,zyK N c=some (AV.agg (zbU s)::[aI a]))/\(s.b=c.b/\0<=s.i)/\(True)
def zk4 (c:Cur)  : Bool:=wC (zqn c)
def zsw (c:Cur)  : Cur:=wS (zqn c)
def zyw (c:Cur)  : Int:=wV (zqn c)
theorem z1e {c:Cur}(h:zk4 c=true):zqn c (zsw c) (zyw c):=wG h
theorem z1g (c:Cur)  : 0<=(zsw c).i:=wP fun h=>h.2.1.2
theorem z1f (c:Cur)(h:∃N,Ends (wE (fun a=>aI a) c.b fun a=>True) (zyK N c)):zk4 c=true:=wI (fun _ _ h=>h) h
def zAl:zdk:=rP0 fun c=>(zk4 c,zsw c,[aI (zyw c)])
theorem zOr:zbM Tryz.prog 68 [false,true,true] zAl:=hP0 zdY zU zow zn (zq []) (fun _ h=>(z1e h).1)
theorem zbdt {c:Cur}(h:zbd c):zk4 c=true:=by
 refine z1f c ⟨0,?_⟩;unfold zyK oN;conv=>zeta
 exact zo (zd2 h (by simp)) (zbB aI (zbO _ _) trivial)
def zvu (N:Nat)(c:Cur)  : OA :=
 let e:=({ (zf c 3) with b:=c.b}:Cur);let d:=({ (zf e 4) with b:=c.b}:Cur);let a:=({ (zf d 6) with b:=c.b}:Cur); (oN (zA c 3) (oN (zA e 4) (oN (zA d 6) (oN (zA a 3) (some [(.agg [(.s .u8 c.b),(.i .i64 (zf a 3).i),(.i .i64 (zf a 3).h)]),(.agg [(.i .i64 (zM .i64 1 (zk c 3))),(.i .i64 (zk e 4)),(.i .i64 (zk d 6)),(.i .i64 (zM .i64 1 (zk a 3)))])])))))
def zoh (c:Cur)(s:Cur)(a:Entry):Prop:=(∃N,zvu N c=some (AV.agg (zbU s)::[aT .entry a]))/\(s.b=c.b/\0<=s.i)/\(True)
def zhL (c:Cur)  : Bool:=wC (zoh c)
def zgA (c:Cur)  : Cur:=wS (zoh c)
def znb (c:Cur)  : Entry:=wV (zoh c)
theorem zY4 {c:Cur}(h:zhL c=true):zoh c (zgA c) (znb c):=wG h
theorem zwD (c:Cur)  : 0<=(zgA c).i:=wP fun h=>h.2.1.2
theorem zY5 (c:Cur)(h:∃N,Ends (wE (fun a=>aT .entry a) c.b fun a=>True) (zvu N c)):zhL c=true:=wI (fun _ _ h=>h) h
def zxE:zdk:=rP0 fun c=>(zhL c,zgA c,[aT .entry (znb c)])
theorem zLA:zbM Tryz.prog 250 [false,true,true] zxE:=hP0 zdY zU zow zn (zq []) (fun _ h=>(zY4 h).1)
theorem zQu {c:Cur}(h:zbd c):zhL c=true:=by
 refine zY5 c ⟨0,?_⟩;unfold zvu oN;conv=>zeta
 have a:zbd {zf c 3 with b:=c.b}:=zbL h (zF _ _);have d:zbd {zf {zf c 3 with b:=c.b} 4 with b:=c.b}:=zbL h (zF _ _);have e:zbd {zf {zf {zf c 3 with b:=c.b} 4 with b:=c.b} 6 with b:=c.b}:=zbL h (zF _ _);exact zo (zbz h 3) (zo (zbz a 4) (zo (zbz d 6) (zo (zbz e 3) (zbB (aT .entry) (v:=⟨_,_,_,_⟩) (zF _ _) trivial))))
def zbb3:zcL:=[(249,([false,true,true],zDm)),(248,([false,true,true],zAq)),(155,([false,true,true],zxF)),(67,([false,true,true],zFV)),(68,([false,true,true],zAl)),(250,([false,true,true],zxE))]++zbb2
theorem z9X:zb8 zbb3:=zcr zow (by
 intro x a;simp only[qG,qN,or_false]at a;rcases a with rfl|rfl|rfl|rfl|rfl|rfl
 .exact zRl
 .exact zOy
 .exact zLB
 .exact zUI
 .exact zOr
 .exact zLA)
section
open Go Go.RowKit
structure Cw (w0:World) (blk:Nat) (u:Value) (c:Cur) (w:World):Prop where
 os:w.os=w0.os
 tape:w.tape=w0.tape
 output:w.output=w0.output
 size:w0.heap.size<=w.heap.size
 keep:∀b,b<w0.heap.size->b≠blk->w.heap[b]?=w0.heap[b]?
 cur:∃e,w.heap[blk]?=some (.cells #[u,.int .i64 c.i,.int .i64 c.h] e (0,0))
theorem Cw.trans {g w1 h:World}{blk:Nat}{u:Value}{i d:Cur}(a:Cw g blk u i w1)(c:Cw w1 blk u d h):Cw g blk u d h :=
 ⟨c.os.trans a.os,c.tape.trans a.tape,c.output.trans a.output,qU a.size c.size,fun b e f=>(c.keep b (jK e a.size) f).trans (a.keep b e f),c.cur⟩
theorem Cw.drew {a w:World}{blk:Nat}{u:Value}{c:Cur}(h:Cw a blk u c w):Cw a blk u c w.drew:=⟨h.os,h.tape,h.output,h.size,h.keep,h.cur⟩
theorem Cw.at (w:World)(blk:Nat)(u:Value)(c:Cur)(h:∃e,w.heap[blk]?=some (.cells #[u,.int .i64 c.i,.int .i64 c.h] e (0,0))):Cw w blk u c w:=⟨rfl,rfl,rfl,qW _,fun _ _ _=>rfl,h⟩
theorem Cw.alloc {d w:World}{blk:Nat}{u:Value}{c:Cur}(h:Cw d blk u c w)(a:blk<w.heap.size)(o:Obj):Cw d blk u c (w.alloc o):=
 ⟨h.os,h.tape,h.output,qU h.size (by simp),fun b a g=>(heap_alloc_old w o (jK a h.size)).trans (h.keep b a g),by obtain⟨e,f⟩:=h.cur;exact⟨e,(heap_alloc_old w o a).trans f⟩⟩
theorem Cw.lt {b w:World}{blk:Nat}{u:Value}{c:Cur}(h:Cw b blk u c w):blk<w.heap.size:=by obtain⟨e,a⟩:=h.cur;exact(qQ.1 a).1
theorem zKU {P:Program}{f:FuncId}{y:List CV->List AV->Option (Bool×List CV×List AV)}(V:zbM P f [false,true,true] y){w:World}{blk:Nat}{u:Value}{c c2:Cur}{z:zX}(q:∃e,w.heap[blk]?=some (.cells #[u,.int .i64 c.i,.int .i64 c.h] e (0,0)))(hu:Rep false w u (.s .u8 c.b) z)(W:∀x,z x->x<w.heap.size/\x≠blk){avs rs:List AV}{xs:List Value}{Ka:zX}(l:zdh false w (zC avs) xs (fun _=>Ka))(p:∀x,Ka x->x<w.heap.size/\x≠blk)(hr:y (zbU c) avs=some (true,zbU c2,rs)) :
 Calls P f (#[.pointer (some ⟨blk,0,none⟩)]++(zbW avs xs).toArray) w fun e B=>∃C A,e = .returned (zj9 (zbW rs C))/\Cw w blk u c2 B/\zvc (zpG f) B (zC rs) C A/\(∀i x,i<(zC rs).length->A i x->w.heap.size<=x/\x<B.heap.size):=by
 obtain⟨e,Y⟩:=q;refine(V.2 w blk _ e (zbU c) (fun j x=>j=0/\z x) avs xs Ka (zbU c2) rs Y rfl rfl ?_ ?_ ?_ l ?_ hr).mono ?_
 .intro j cv v m k
  match j,m,k with
  | 0,m,k=>cases m;cases k;exact hu.weak (fun x l=>⟨rfl,l⟩)
  | 1,m,k=>cases m;cases k;exact .i _ _ _
  | 2,m,k=>cases m;cases k;exact .i _ _ _
  |j+3,m,k=>simp[zbU]at m
 .intro j x _ l;exact W x l.2
 .intro i j x r t n hne l hx2;have:i=0:=l.1;subst this;simp[zbc]at n
 .intro x l;refine⟨(p x l).1,(p x l).2,fun j t n d=>?_⟩;have:j=0:=d.1;subst this;simp[zbc]at n
 .intro E B hp;cases E with
  |panicked _=>exact hp.elim
  |outgrown=>exact hp.elim
  |returned v=>
   obtain⟨Q,R,S,T,U,a,G,K',C,A,I,L,g3,F,M,N,g7,O,g9,J,K⟩:=hp;have g:∀i x,i<(zbU c).length->zbc [false,true,true] i->¬ ((fun (j:Nat) x=>j=0/\z x) i x):=by intro i x r n d;have:i=0:=d.1;subst this;simp[zbc]at n
   have k:a = #[u,.int .i64 c2.i,.int .i64 c2.h]:=by
    have hs:a.size=3:=L;have D:=(F 0 _ (a[0]'(by omega)) rfl (jH _)).2 (by simp[zbc]);have H:=F 1 _ (a[1]'(by omega)) rfl (jH _);have E:=F 2 _ (a[2]'(by omega)) rfl (jH _);have D:u=a[0]'(by omega):=(by simpa using D);apply Array.ext;{exact hs}
    .intro i r hi2
     match i,r with
     | 0,_=>exact D.symm
     | 1,_=>exact H
     | 2,_=>exact E
     |i+3,h=>omega
   subst k;refine⟨C,A,by rw[N],⟨Q,R,S,T,fun b X Z=>U b X Z (fun j t n d=>g j b t n d),G,I⟩,M,fun i x r d=>?_⟩;obtain⟨k1,k2,k3⟩:=O i x r d;rcases k3 with⟨j,t,n,d⟩|d;{exact absurd d (g j x t n)};{exact⟨d,k1⟩}
def zet (c:Cur):List (List Int):=zwC c 3
def zB4 (c:Cur):Cur:={zm9 c 3 with b:=c.b}
def z3Y (c:Cur):Int:=zk (zB4 c) 8
def zhN (c:Cur):Cur:={zf (zB4 c) 8 with b:=c.b}
def z3X (c:Cur):Int:=zk (zhN c) 3
def zuO (c:Cur):Cur:={zf (zhN c) 3 with b:=c.b}
def l04n (c:Cur):Int:=zk (zuO c) 4
def z3V (c:Cur):Cur:={zf (zuO c) 4 with b:=c.b}
def zv2 (c:Cur):Int:=zbh (zhN c) [-1,100]
def z3W (c:Cur):Cur:={zV (zhN c) [-1,100] with b:=c.b}
def zpg (_:Nat)(c:Cur):OA:=
 bif ziK c 3 then (bif zA (zB4 c) 8 then (bif ieq (z3Y c) 0 then (cond (zA (zhN c) 3) (cond (zA (zuO c) 4) (some (AV.agg (zbU (z3V c))::[aS (.sl .int) (up (zet c) (z3X c) (tk (ix (zet c) 0 []) (l04n c)))])) none) none)
  else (bif ieq (z3Y c) 1 then (cond (zbl (zhN c) [-1,100]) (some (AV.agg (zbU (z3W c))::[aS (.sl .int) (up (zet c) 1 (up (ix (zet c) 1 []) 2 (zv2 c)))])) none)
  else (cond (ieq (z3Y c) 2) (cond (zA (zhN c) 3) (some (AV.agg (zbU (zuO c))::[aS (.sl .int) (tk (zet c) (z3X c))])) none) (some (AV.agg (zbU (zhN c))::[aS (.sl .int) (zet c)]))))) else none) else none
def zsx (c:Cur)(s:Cur)(a:List (List Int)):Prop:=(∃N,zpg N c=some (AV.agg (zbU s)::[aS (.sl .int) a]))/\(s.b=c.b/\0<=s.i)/\(a.length<=3/\∀r∈a,r.length<=4)
def zqp (c:Cur)  : Bool:=wC (zsx c)
def ziJ (c:Cur)  : Cur:=wS (zsx c)
def zrC (c:Cur)  : List (List Int):=wV (zsx c)
theorem zPI {c:Cur}(h:zqp c=true):zsx c (ziJ c) (zrC c):=wG h
theorem z4B (c:Cur)  : 0<=(ziJ c).i:=wP fun h=>h.2.1.2
theorem z4A (c:Cur)(h:∃N,Ends (wE (fun a=>aS (.sl .int) a) c.b fun a=>a.length<=3/\∀r∈a,r.length<=4) (zpg N c)):zqp c=true:=wI (fun _ _ h=>h) h
def ztU:zdk:=rP0 fun c=>(zqp c,ziJ c,[aS (.sl .int) (zrC c)])
theorem z9M {w:World}{blk:Nat}{u:Value}{c:Cur}{l:zX}{n:Int}(g:∃e,w.heap[blk]?=some (.cells #[u,.int .i64 c.i,.int .i64 c.h] e (0,0)))(t:Rep false w u (.s .u8 c.b) l)(q:∀x,l x->x<w.heap.size/\x≠blk)(r:ziK c n=true) :
 Calls Tryz.prog 251 #[.pointer (some ⟨blk,0,none⟩),.int .i64 n] w fun e k=>∃v j,e = .returned v/\Cw w blk u {zm9 c n with b:=c.b} k/\Rep true k v (.s (.sl .int) (zwC c n)) j/\(∀x,j x->w.heap.size<=x/\x<k.heap.size):=by
 have:=zKU (c:=c) (c2:=zm9 c n) zz7 g t q (avs:=[.one (.i .i64 n)]) (rs:=[aS (.sl .int) (zwC c n)]) (xs:=[.int .i64 n]) (Ka:=fun _=>False) ⟨rfl,fun i A x a d=>by
  match i,a,d with
  | 0,a,d=>cases a;cases d;exact .i _ _ _
  |i+1,a,d=>simp at d⟩ (fun x d=>d.elim) (by show some (ziK ⟨c.b,c.i,c.h⟩ n,_,_)=_;rw[show (⟨c.b,c.i,c.h⟩:Cur)=c from rfl,r])
 refine Calls.mono this ?_
 rintro e k ⟨z,j,rfl,f,m,p⟩
 match z,m.1 with
 |[y],_=>exact⟨y,j 0,rfl,⟨f.os,f.tape,f.output,f.size,f.keep,f.cur⟩,m.2 0 _ y rfl rfl,fun x d=>p 0 x (by simp[zC,AV.cvs]) d⟩
theorem zuI {w:World}{blk:Nat}{u:Value}{c:Cur}{j:zX}{n:Int}(g:∃e,w.heap[blk]?=some (.cells #[u,.int .i64 c.i,.int .i64 c.h] e (0,0)))(r:Rep false w u (.s .u8 c.b) j)(p:∀x,j x->x<w.heap.size/\x≠blk)(q:zA c n=true) :
 Calls Tryz.prog 150 #[.pointer (some ⟨blk,0,none⟩),.int .i64 n] w fun e l=>e = .returned (.int .i64 (zk c n))/\Cw w blk u {zf c n with b:=c.b} l:=by
 have:=zKU (c:=c) (c2:=zf c n) zvS g r p (avs:=[.one (.i .i64 n)]) (rs:=[aI (zk c n)]) (xs:=[.int .i64 n]) (Ka:=fun _=>False) ⟨rfl,fun i z x a d=>by
  match i,a,d with
  | 0,a,d=>cases a;cases d;exact .i _ _ _
  |i+1,a,d=>simp at d⟩ (fun x d=>d.elim) (by show some (zA ⟨c.b,c.i,c.h⟩ n,_,_)=_;rw[show (⟨c.b,c.i,c.h⟩:Cur)=c from rfl,q])
 refine Calls.mono this ?_
 rintro e l ⟨t,v,rfl,f,k,A⟩
 match t,k.1,k.2 with
 |[y],_,m=>have:=(m 0 _ y rfl rfl).int_inv;subst this;exact⟨rfl,f.os,f.tape,f.output,f.size,f.keep,f.cur⟩
theorem z7w {w:World}{blk:Nat}{u:Value}{c:Cur}{k:zX}{l:List Int}{v:Value}{Ka:zX}(f:∃e,w.heap[blk]?=some (.cells #[u,.int .i64 c.i,.int .i64 c.h] e (0,0)))(t:Rep false w u (.s .u8 c.b) k)(q:∀x,k x->x<w.heap.size/\x≠blk)(r:zbl c l=true)(z:Rep false w v (.s .int l) Ka)(j:∀x,Ka x->x<w.heap.size/\x≠blk) :
 Calls Tryz.prog 86 #[.pointer (some ⟨blk,0,none⟩),v] w fun e n=>e = .returned (.int .i64 (zbh c l))/\Cw w blk u {zV c l with b:=c.b} n:=by
 have:=zKU (c:=c) (c2:=zV c l) zth f t q (avs:=[.one (.s .int l)]) (rs:=[aI (zbh c l)]) (xs:=[v]) (Ka:=Ka) ⟨rfl,fun i C x a g=>by
  match i,a,g with
  | 0,a,g=>cases a;cases g;exact z
  |i+1,a,g=>simp at g⟩ j (by show some (zbl ⟨c.b,c.i,c.h⟩ l,_,_)=_;rw[show (⟨c.b,c.i,c.h⟩:Cur)=c from rfl,r])
 refine Calls.mono this ?_
 rintro e n ⟨A,B,rfl,d,m,D⟩
 match A,m.1,m.2 with
 |[y],_,p=>have:=(p 0 _ y rfl rfl).int_inv;subst this;exact⟨rfl,d.os,d.tape,d.output,d.size,d.keep,d.cur⟩
theorem z7C {w:World}{v:Value}{l:List (List Int)}{K:zX}(h:Rep true w v (.s (.sl .int) l) K)(n:l.length=3):∃(b off cap:Nat) (arr:Array Value) (e:TypeId) (V:Nat->Value) (c:Nat->zX),v = .slice (some ⟨b,off,none⟩) 3 cap/\w.heap[b]?=some (.cells arr e (0,0))/\3<=cap/\off+cap<=arr.size/\K b/\
 (∀i x,i<3->c i x->K x/\x≠b)/\(∀i g x,i<3->g<3->c i x->c g x->i=g)/\(∀i,i<3->arr[off+i]?=some (V i))/\∀i x,l[i]?=some x->Rep true w (V i) (.s .int x) (c i):=by
 cases h with
 |nil=>simp at n
 |void _ _ _ B=>cases B
 |sl _ _ b off cap arr e E V c _ y k r p f u a d C z=>have:=k rfl;subst this;have t:Ty.width (.sl .int)=1:=rfl;rw[t,uZ]at f;refine⟨b,off,cap,arr,e,fun i=>V i 0,fun i=>c i 0,by rw[n],y,by omega,f,u,fun i x q j=>⟨(a i 0 x (by omega) (by decide) j).1,(a i 0 x (by omega) (by decide) j).2 rfl⟩,fun i g x q A j m=>(d rfl i 0 g 0 x (by omega) (by decide) (by omega) (by decide) j m).1,fun i q=>?_,fun i x D=>z i x D 0 _ rfl⟩;have:=C i 0 (by omega) (by decide);rwa [t,uZ,jY] at this
theorem zYX {w:World}{v:Value}{l:List Int}{K:zX}(h:Rep true w v (.s .int l) K)(d:l.length=4):∃(b off cap:Nat) (arr:Array Value) (e:TypeId),v = .slice (some ⟨b,off,none⟩) 4 cap/\w.heap[b]?=some (.cells arr e (0,0))/\4<=cap/\off+cap<=arr.size/\K b/\
 ∀i x,l[i]?=some x->arr[off+i]?=some (.int .i64 x):=by
 cases h with
 |nil=>simp at d
 |void _ _ _ u=>cases u
 |sl _ _ b off cap arr e A V z _ q c j f a p k g y r=>have:=c rfl;subst this;have m:Ty.width .int=1:=rfl;rw[m,uZ]at a;refine⟨b,off,cap,arr,e,by rw[d],q,by omega,a,p,fun i x n=>?_⟩;have t:i<l.length:=(qA.1 n).1;have:=y i 0 t (by decide);rw[m,uZ,jY] at this;rw[this,(r i x n 0 (.i .i64 x) rfl).int_inv]
theorem zMn {o:Bool}{w:World}{b off cap:Nat}{arr:Array Value}{e:TypeId}(g:w.heap[b]?=some (.cells arr e (0,0))){l:List Int}(r:l.length<=1000)(c:l.length<=cap)(m:off+cap<=arr.size)(n:∀i x,l[i]?=some x->arr[off+i]?=some (.int .i64 x)):Rep o w (.slice (some ⟨b,off,none⟩) l.length cap) (.s .int l) (fun x=>x=b):=by
 refine .sl .int l b off cap arr e (0,0) (fun i j=>.int .i64 (l.getD i 0)) (fun _ _ _=>False) _ g (fun _=>rfl) (by rw[zqV];omega) c (by show off+cap*1<=arr.size;omega) rfl (fun i j x _ _ h=>h.elim) (fun _ i j t u x _ _ _ _ h=>h.elim) (fun i j f k=>?_) (fun i x p j q a=>?_);{have d:j=0:=(by have:j<1:=k;omega);subst d;have:=n i _ (qB f);show arr[off+i*1+0]?=_;rw[uZ,jY,this];simp[List.getD,qB f]}
 .match j,a with
  | 0,a=>cases a;have:l.getD i 0=x:=(by simp[List.getD,p]);show Rep o w (.int .i64 (l.getD i 0)) _ _;rw[this];exact .i _ _ _
  |j+1,a=>simp[Ty.cells]at a
theorem zMo {w:World}{b off cap:Nat}{arr:Array Value}{e:TypeId}(n:w.heap[b]?=some (.cells arr e (0,0))){l:List (List Int)}(A:l.length<=1000)(c:l.length<=cap)(t:off+cap<=arr.size)(V:Nat->Value){K:zX}(f:K b)(u:∀i,i<l.length->arr[off+i]?=some (V i))(r:∀i x,l[i]?=some x->∃d,Rep false w (V i) (.s .int x) d/\∀y,d y->K y):Rep false w (.slice (some ⟨b,off,none⟩) l.length cap) (.s (.sl .int) l) K:=by
 refine .sl (.sl .int) l b off cap arr e (0,0) (fun i _=>V i) (fun _ _=>K) _ n (fun _=>rfl) (by rw[zqV];omega) c (by show off+cap*1<=arr.size;omega) f (fun i j x _ _ h=>⟨h,fun h=>by cases h⟩) (fun h=>by cases h) (fun i j p q=>?_) (fun i x v j z a=>?_);{have g:j=0:=(by have:j<1:=q;omega);subst g;show arr[off+i*1+0]?=_;rw[uZ,jY];exact u i p}
 .match j,a with
  | 0,a=>cases a;obtain⟨d,k,m⟩:=r i x v;exact k.weak m
  |j+1,a=>simp[Ty.cells]at a
theorem zxe {w:World}{b o:Nat}{arr:Array Value}{e:TypeId}(a:w.heap[b]?=some (.cells arr e (0,0))):w.frozen? ⟨b,o,none⟩=false:=by simp[World.frozen?,a]
set_option maxHeartbeats 3000000 in
theorem z0w {w:World}{blk:Nat}{u:Value}{c:Cur}{K0:zX}{r:Ans}(N:Nat)(b5:∃e,w.heap[blk]?=some (.cells #[u,.int .i64 c.i,.int .i64 c.h] e (0,0)))(hu:Rep false w u (.s .u8 c.b) K0)(hK:∀x,K0 x->x<w.heap.size/\x≠blk)(hE:zpg N c=some r) :
 Calls Tryz.prog 156 #[.pointer (some ⟨blk,0,none⟩)] w fun e p=>∃c2 l v Kr,r=AV.agg (zbU c2)::[aS (.sl .int) l]/\e = .returned v/\Cw w blk u c2 p/\Rep false p v (.s (.sl .int) l) Kr/\(∀x,Kr x->w.heap.size<=x/\x<p.heap.size):=by
 unfold zpg at hE;cases hm:ziK c 3 with
 |false=>rw[hm]at hE;cases hE
 |true=>
 cases K:zA (zB4 c) 8 with
 |false=>rw[hm,K]at hE;cases hE
 |true=>
 rw[hm,K,cT,cT]at hE;have a7:∀{p:World} {O:Cur},Cw w blk u O p->O.b=c.b->Rep false p u (.s .u8 O.b) K0/\∀x,K0 x->x<p.heap.size/\x≠blk:=by intro p O h e;rw[e];exact⟨hu.frame (fun x d=>h.keep x (hK x d).1 (hK x d).2),fun x d=>⟨jK (hK x d).1 h.size,(hK x d).2⟩⟩
 have hM:=(zCx hm).2.2 (by omega) (by omega)
 have a8:(zet c).length=3:=by have:=hM.1;unfold ln at this;unfold zet;omega
 have h5:=(zhI K).2.2 (by omega)
 obtain⟨k,hk⟩:∃k,zk (zB4 c) 8=k:=⟨_,rfl⟩;have f1:z3Y c=k:=hk;rw[f1]at hE
 go_enter Tryz.func156,Tryz.ntmps156
 go_wp2_with fail
 refine(z9M b5 hu hK hm).mono ?_
 rintro e L ⟨v,K1,rfl,F,b3,m⟩
 have b3:Rep true L v (.s (.sl .int) (zet c)) K1:=b3;have F:Cw w blk u (zB4 c) L:=F;obtain⟨E,t,a3,d7,e0,V,Kc,rfl,c3,g9,d1,Z,G,e9,hV,c1⟩:=z7C b3 a8;have h3:blk<w.heap.size:=by obtain⟨e,he⟩:=b5;exact(qQ.1 he).1
 have e5:E≠blk:=by have:=(m E Z).1;omega
 have cellAt:∀{p:World} {O:Cur},Cw L blk u O p->p.heap[E]?=some (.cells d7 e0 (0,0)):=fun h=>(h.keep E (m E Z).2 e5).trans c3
 go_wp2_with fail
 obtain⟨g1,f2⟩:=a7 F rfl;refine(zuI F.cur g1 f2 K).mono ?_;rw[hk]
 rintro e X ⟨rfl,B⟩
 have B:Cw L blk u (zhN c) X:=B;obtain⟨g2,f3⟩:=a7 (F.trans B) rfl;have g0:=B.size;have g8:w.heap.size<=E/\E<L.heap.size:=m E Z
 have b2:∀{p:World} (i:Nat) (x:List Int),(∀b,Kc i b->b<L.heap.size->b≠blk->b≠E->p.heap[b]?=L.heap[b]?)->i<3->(zet c)[i]?=some x->Rep false p (V i) (.s .int x) (Kc i)/\∀y,Kc i y->w.heap.size<=y/\y<L.heap.size:=by intro p i x hf P d;refine⟨((c1 i x d).frame (fun y S=>?_)).ro,fun y S=>m y (G i y P S).1⟩;have:=m y (G i y P S).1;exact hf y S this.2 (by omega) (G i y P S).2
 go_wp2_with fail
 .have h0:ieq k 0=true:=by assumption
  rw[h0,cT]at hE;cases J:zA (zhN c) 3 with
  |false=>rw[J]at hE;cases hE
  |true=>
  cases b4:zA (zuO c) 4 with
  |false=>rw[J,b4]at hE;cases hE
  |true=>
   rw[J,b4,cT,cT]at hE;have hj:=(zhI J).2.2 (by omega);obtain⟨j,a0⟩:=uU hj.1;have c8:z3X c=(j:Int):=a0;have hn:=(zhI b4).2.2 (by omega);obtain⟨n,c9⟩:=uU hn.1;have f8:l04n c=(n:Int):=c9;rw[c8,f8]at hE;rw[a0]at hj;rw[c9]at hn;have e6:j<3:=(by omega);have h6:n<4:=(by omega);obtain⟨R0,c0⟩:∃R0,(zet c)[0]?=some R0:=⟨_,qB (by omega)⟩;have e2:R0.length=4:=hM.2 R0 (qI c0);obtain⟨f,a,g,T,e1,f0,c4,c6,a9,D,W⟩:=zYX (c1 0 R0 c0) e2;have Q:∀{p:World} {O:Cur},Cw L blk u O p->p.cell? ⟨E,t,none⟩=some (.slice (some ⟨f,a,none⟩) 4 g):=fun h=>(by have:=hV 0 (by omega);rw[jY,f0] at this;rw[cell_of_block (cellAt h)];exact this);have b7:∀{p:World} {O:Cur},Cw L blk u O p->p.cell? ⟨E,t+j,none⟩=some (V j)/\p.frozen? ⟨E,t+j,none⟩=false:=fun h=>by rw[cell_of_block (cellAt h)];exact⟨hV j e6,zxe (cellAt h)⟩
   have d8:∀{I:World},Cw L blk u (z3V c) I->∃c2 l v Kr,r=AV.agg (zbU c2)::[aS (.sl .int) l]/\Ending.returned (.slice (some ⟨E,t,none⟩) 3 a3) = .returned v/\Cw w blk u c2 (I.setCell ⟨E,t+j,none⟩ (.slice (some ⟨f,a,none⟩) n g))/\Rep false (I.setCell ⟨E,t+j,none⟩ (.slice (some ⟨f,a,none⟩) n g)) v (.s (.sl .int) l) Kr/\
    (∀x,Kr x->w.heap.size<=x/\x<(I.setCell ⟨E,t+j,none⟩ (.slice (some ⟨f,a,none⟩) n g)).heap.size):=by
    intro I h4;have hz:=h4.size;have a6:=m f (G 0 f (by omega) D).1
    have U:f≠blk:=by omega
    have a5:f≠E:=(G 0 f (by omega) D).2
    have ho:∀b,b≠E->(I.setCell ⟨E,t+j,none⟩ (.slice (some ⟨f,a,none⟩) n g)).heap[b]?=I.heap[b]?:=fun b K=>heap_setCell_other I _ b _ K;have d0:=heap_setCell_same I E (t+j) d7 e0 (.slice (some ⟨f,a,none⟩) n g) (cellAt h4);have A:=F.trans h4;refine⟨_,_,_,K1,(Option.some.inj hE).symm,rfl,⟨A.os,A.tape,A.output,by rw[World.size_setCell];exact A.size,fun b K hn=>(ho b (by omega)).trans (A.keep b K hn),by obtain⟨e,he⟩:=A.cur;exact⟨e,(ho blk (fun h=>e5 h.symm)).trans he⟩⟩,?_,fun x d=>⟨(m x d).1,by rw[World.size_setCell];have:=m x d;omega⟩⟩
    have c7:ix (zet c) 0 []=R0:=by unfold ix;simp[List.getD,c0]
    have a1:(up (zet c) (j:Int) (tk (ix (zet c) 0 []) (n:Int))).length=3:=by rw[zgV];exact a8
    have:=zMo d0 (l:=up (zet c) (j:Int) (tk (ix (zet c) 0 []) (n:Int))) (by omega) (cap:=a3) (off:=t) (by omega) (by simpa using d1) (fun i=>if i=j then .slice (some ⟨f,a,none⟩) n g else V i) Z (fun i P=>by
     rw[a1]at P;rw[kF]
     by_cases M:i=j
     .subst M;rw[if_pos rfl,if_pos (by omega),if_pos rfl]
     .rw [if_neg (by omega),if_neg M]
      exact hV i P) (fun i x d=>by
     have P:i<3:=by rw[<- a1];exact(qA.1 d).1
     unfold up at d;rw[q9]at d
     by_cases M:i=j
     .subst M;rw[kH,if_pos rfl,if_pos (by omega),c7]at d
      cases d;refine⟨fun x=>x=f,?_,fun y S=>by rw[S];exact(G 0 f (by omega) D).1⟩
      have hl:(tk R0 (n:Int)).length=n:=by simp[tk];omega
      have:=zMn (o:=false) (w:=I.setCell ⟨E,t+i,none⟩ (.slice (some ⟨f,a,none⟩) n g)) (b:=f) (off:=a) (cap:=g) (arr:=T) (e:=e1) ((ho f a5).trans ((h4.keep f a6.2 U).trans c4)) (l:=tk R0 (n:Int)) (by omega) (by omega) a9 (fun q z hq=>by
       unfold tk at hq;rw[jI]at hq;split at hq
       .exact W q z hq
       .cases hq)
      rw[hl] at this;rw[if_pos rfl];exact this
     .rw [kH,if_neg (by omega)]at d
      rw[if_neg M];exact⟨Kc i,(b2 i x (fun b _ K hn c3=>(ho b c3).trans (h4.keep b K hn)) P d).1,fun y S=>(G i y P S).1⟩)
    rw[a1] at this;exact this
   have Y:Cw L blk u (zhN c) X.drew:=B.drew;obtain⟨e8,e7⟩:=a7 (F.trans Y) rfl;have d2:=Q Y
   go_region_with (first
    |(go_at_call_of 150 (Value.int IntKind.i64 3);refine(zuI (c:=zhN c) (n:=3) Y.cur e8 e7 J).mono ?_;rw[a0];rintro e w3 ⟨rfl,H⟩;have H:Cw X.drew blk u (zuO c) w3:=H;have C:=Y.trans H;have d3:=Q C;obtain⟨g3,f4⟩:=a7 (F.trans C) rfl)
    |(go_at_call_of 150 (Value.int IntKind.i64 4);refine(zuI (c:=zuO c) (n:=4) C.cur g3 f4 b4).mono ?_;rw[c9];rintro e I ⟨rfl,b8⟩;have b8:Cw w3 blk u (z3V c) I:=b8;have b9:=C.trans b8;have d4:=Q b9;obtain⟨d5,d6⟩:=b7 b9))
   (all_goals go_wp2);(all_goals go_ret);all_goals exact d8 b9
 .have h0:ieq k 0=false:=by assumption
  have h1:ieq k 1=true:=by assumption
  rw[h0,h1,cF,cT]at hE;cases c5:zbl (zhN c) [-1,100] with
  |false=>rw[c5]at hE;cases hE
  |true=>
   rw[c5,cT]at hE;obtain⟨R1,a4⟩:∃R1,(zet c)[1]?=some R1:=⟨_,qB (by omega)⟩;have e3:R1.length=4:=hM.2 R1 (qI a4);obtain⟨f,a,g,T,e1,e4,c4,c6,a9,D,W⟩:=zYX (c1 1 R1 a4) e3;have a6:=m f (G 1 f (by omega) D).1;have U:f≠blk:=(by omega);have a5:f≠E:=(G 1 f (by omega) D).2;have R:∀{p:World} {O:Cur},Cw L blk u O p->p.cell? ⟨E,t+1,none⟩=some (.slice (some ⟨f,a,none⟩) 4 g):=fun h=>(by have:=hV 1 (by omega);rw[e4] at this;rw[cell_of_block (cellAt h)];exact this);have a2:∀{p:World} {O:Cur},Cw L blk u O p->p.heap[f]?=some (.cells T e1 (0,0)):=fun h=>(h.keep f a6.2 U).trans c4;have b6:∀{p:World} {O:Cur},Cw L blk u O p->p.cell? ⟨f,a+2,none⟩=some (.int .i64 R1[2])/\p.frozen? ⟨f,a+2,none⟩=false:=fun h=>by rw[cell_of_block (a2 h)];exact⟨W 2 _ (qB (by omega)),zxe (a2 h)⟩
   have Y:Cw L blk u (zhN c) X.drew:=B.drew;have d2:=R Y;have d9:∀{I:World},Cw L blk u (z3W c) I->∃c2 l v Kr,r=AV.agg (zbU c2)::[aS (.sl .int) l]/\Ending.returned (.slice (some ⟨E,t,none⟩) 3 a3) = .returned v/\Cw w blk u c2 (I.setCell ⟨f,a+2,none⟩ (.int .i64 (zv2 c)))/\Rep false (I.setCell ⟨f,a+2,none⟩ (.int .i64 (zv2 c))) v (.s (.sl .int) l) Kr/\
    (∀x,Kr x->w.heap.size<=x/\x<(I.setCell ⟨f,a+2,none⟩ (.int .i64 (zv2 c))).heap.size):=by
    intro I h4;have hz:=h4.size;have ho:∀b,b≠f->(I.setCell ⟨f,a+2,none⟩ (.int .i64 (zv2 c))).heap[b]?=I.heap[b]?:=fun b K=>heap_setCell_other I _ b _ K;have d0:=heap_setCell_same I f (a+2) T e1 (.int .i64 (zv2 c)) (a2 h4);have A:=F.trans h4;refine⟨_,_,_,K1,(Option.some.inj hE).symm,rfl,⟨A.os,A.tape,A.output,by rw[World.size_setCell];exact A.size,fun b K hn=>(ho b (by omega)).trans (A.keep b K hn),by obtain⟨e,he⟩:=A.cur;exact⟨e,(ho blk (fun h=>U h.symm)).trans he⟩⟩,?_,fun x d=>⟨(m x d).1,by rw[World.size_setCell];have:=m x d;omega⟩⟩
    have c7:ix (zet c) 1 []=R1:=by unfold ix;show (zet c).getD 1 []=R1;simp[List.getD,a4]
    have a1:(up (zet c) 1 (up (ix (zet c) 1 []) 2 (zv2 c))).length=3:=by rw[zgV];exact a8
    have:=zMo ((ho E (fun h=>a5 h.symm)).trans (cellAt h4)) (l:=up (zet c) 1 (up (ix (zet c) 1 []) 2 (zv2 c))) (by omega) (cap:=a3) (off:=t) (by omega) d1 V Z (fun i P=>hV i (by omega)) (fun i x d=>by
     have P:i<3:=by rw[<- a1];exact(qA.1 d).1
     unfold up at d;rw[q9]at d
     by_cases M:i=1
     .subst M;rw[show (1:Int).toNat=1 from rfl,if_pos rfl,if_pos (by omega),c7]at d
      cases d;refine⟨fun x=>x=f,?_,fun y S=>by rw[S];exact(G 1 f (by omega) D).1⟩
      have hl:(List.set R1 (2:Int).toNat (zv2 c)).length=4:=by simp;omega
      have:=zMn (o:=false) (w:=I.setCell ⟨f,a+2,none⟩ (.int .i64 (zv2 c))) (b:=f) (off:=a) (cap:=g) d0 (l:=List.set R1 (2:Int).toNat (zv2 c)) (by omega) (by omega) (by simpa using a9) (fun q z hq=>by
       rw[q9]at hq;rw[kF]
       by_cases f9:q=2
       .subst f9;rw[show (2:Int).toNat=2 from rfl,if_pos rfl,if_pos (by omega)]at hq
        cases hq;rw[if_pos rfl,if_pos (by omega)]
       .rw [show (2:Int).toNat=2 from rfl,if_neg (by omega)]at hq
        rw[if_neg (by omega)]
        exact W q z hq)
      rw[hl] at this;rw[e4];exact this
     .rw [show (1:Int).toNat=1 from rfl,if_neg (by omega)]at d
      refine⟨Kc i,(b2 i x (fun b f6 K hn g7=>?_) P d).1,fun y S=>(G i y P S).1⟩;exact(ho b (fun e=>M (e9 i 1 b P (by omega) f6 (by rw[e];exact D)))).trans (h4.keep b K hn))
    rw[a1] at this;exact this
   have hA:Cw L blk u (zhN c) (X.alloc (Obj.cells #[Value.int .i64 (-1),Value.int .i64 100] 3)).drew:=(B.alloc B.lt _).drew;obtain⟨g4,f5⟩:=a7 (F.trans hA) rfl;have dA:=R hA;have g5:Rep false (X.alloc (Obj.cells #[Value.int .i64 (-1),Value.int .i64 100] 3)).drew (.slice (some ⟨X.heap.size,0,none⟩) 2 2) (.s .int [-1,100]) (fun x=>x=X.heap.size):=by
    have hh:(X.alloc (Obj.cells #[Value.int .i64 (-1),Value.int .i64 100] 3)).drew.heap[X.heap.size]?=some (.cells #[Value.int .i64 (-1),Value.int .i64 100] 3 (0,0)):=heap_alloc_new X _;exact zMn (o:=false) hh (l:=[-1,100]) (cap:=2) (off:=0) (by decide) (by decide) (by decide) (fun i x d=>by
     match i,d with
     | 0,d=>cases d;rfl
     | 1,d=>cases d;rfl
     |i+2,d=>simp at d)
   go_region_with (first
    |(go_at_call_of 86 (Value.slice (some ⟨X.heap.size,0,none⟩) 2 2);refine(z7w (c:=zhN c) (l:=[-1,100]) hA.cur g4 f5 c5 g5 (fun x d=>by rw[d];exact⟨by simp,Nat.ne_of_gt B.lt⟩)).mono ?_;rintro e w3 ⟨rfl,H⟩;have H:Cw (X.alloc (Obj.cells #[Value.int .i64 (-1),Value.int .i64 100] 3)).drew blk u (z3W c) w3:=H;have C:=hA.trans H;have d3:=R C;obtain⟨d4,d5⟩:=b6 C))
   (all_goals go_wp2);(all_goals go_ret);all_goals exact d9 C
 .have h0:ieq k 0=false:=by assumption
  have h1:ieq k 1=false:=by assumption
  have h2:ieq k 2=true:=by assumption
  rw[h0,h1,h2,cF,cF,cT]at hE;cases J:zA (zhN c) 3 with
  |false=>rw[J]at hE;cases hE
  |true=>
   rw[J,cT]at hE;have hj:=(zhI J).2.2 (by omega);obtain⟨j,a0⟩:=uU hj.1;have c8:z3X c=(j:Int):=a0;rw[c8]at hE;refine(zuI B.cur g2 f3 J).mono ?_;rw[a0];rintro e w3 ⟨rfl,H⟩;have H:Cw X blk u (zuO c) w3:=H;go_wp2;go_ret;have e6:j<3:=(by omega);have f7:(tk (zet c) (j:Int)).length=j:=(by simp[tk];omega);have C:=B.trans H;refine⟨_,_,_,K1,(Option.some.inj hE).symm,rfl,F.trans C,?_,fun x d=>⟨(m x d).1,by have:=m x d;have:=C.size;omega⟩⟩
   have:=zMo (cellAt C) (l:=tk (zet c) (j:Int)) (by omega) (cap:=a3) (off:=t) (by omega) d1 V Z (fun i P=>hV i (by omega)) (fun i x d=>by
    have P:i<(tk (zet c) (j:Int)).length:=(qA.1 d).1;have g6:(zet c)[i]?=some x:=by unfold tk at d;rw[jI]at d;split at d;{exact d};{cases d}
    exact⟨Kc i,(b2 i x (fun b _ K hn _=>C.keep b K hn) (by omega) g6).1,fun y S=>(G i y (by omega) S).1⟩)
   rw[f7] at this;exact this
 .have h0:ieq k 0=false:=by assumption
  have h1:ieq k 1=false:=by assumption
  have h2:ieq k 2=false:=by assumption
  rw[h0,h1,h2,cF,cF,cF]at hE
  go_ret
  exact⟨_,_,_,K1,(Option.some.inj hE).symm,rfl,F.trans B,(b3.frame (fun x d=>B.keep x (m x d).2 (by have:=m x d;omega))).ro,fun x d=>⟨(m x d).1,by have:=m x d;omega⟩⟩
theorem zXx {c:Cur}(h:zbd c):zqp c=true:=by
 refine z4A c ⟨0,?_⟩;unfold zpg;have t:=zbe4 h (a0:=3) (by omega) (by omega);have y:zbd (zB4 c):=zbL h (z4D _ _);have k:zbd (zhN c):=zbL h (zF _ _);have z:zbd (zuO c):=zbL h (zF _ _);have p:=(zCx t).2.2 (by omega) (by omega);have A:(zet c).length=3:=(by have:=p.1;unfold ln at this;unfold zet;omega);have f:∀r∈zet c,r.length<=4:=fun r f=>kY (p.2 r f);have u:∀n,(ix (zet c) n []).length<=4:=(by intro n;unfold ix List.getD;cases e:(zet c)[n.toNat]? with|none=>simp|some r=>exact f r (qI e));have g:∀(n:Int) (r:List Int),r.length<=4->∀q∈up (zet c) n r,q.length<=4:=by intro n r j q e;rcases qY e with e|rfl;{exact f q e};{exact j}
 have d:∀(s:Cur) (l:List (List Int)),s.b=c.b->0<=s.i->l.length<=3->(∀r∈l,r.length<=4)->Ends (fun a=>∃s m,a=(AV.agg (zbU s)::[aS (.sl .int) m])/\(s.b=c.b/\0<=s.i)/\(m.length<=3/\∀r∈m,r.length<=4)) (some (AV.agg (zbU s)::[aS (.sl .int) l])):=
  fun s l v w x j=>⟨_,rfl,s,l,rfl,⟨v,w⟩,x,j⟩
 exact zo t (zo (zbz y 8) (zbC (fun _=>zo (zbz k 3) (zo (zbz z 4) (d _ _ rfl (zF _ _) (by rw[zgV];omega) (g _ _ (qU (zFM _ _) (u _))))))
  (fun _=>zbC (fun _=>zo (zd2 k (by simp)) (d _ _ rfl (zbO _ _) (by rw[zgV];omega) (g _ _ (by rw[zgV];exact u _)))) (fun _=>zbC (fun _=>zo (zbz k 3) (d _ _ rfl (zF _ _) (qU (zFM _ _) (by omega)) (fun r e=>f r (jU e)))) (fun _=>d _ _ rfl (zF _ _) (by omega) f)))))
theorem zRf:zbM Tryz.prog 156 [false,true,true] ztU:=by
 refine⟨zjU (by kernel_rfl),?_⟩;intro w blk d e cs K T xs Ka U rs D P a4 k A X n W g;unfold ztU rP0 at g;obtain⟨⟨p,q,r⟩,rfl,g⟩:=z7r g;obtain⟨rfl,R,rfl,rfl⟩:=zxz g;dsimp only at R ⊢;have hs:d.size=3:=P;have M:xs=[]:=List.eq_nil_of_length_eq_zero n.1;subst M;obtain⟨N,hE⟩:=(zPI R).1;have v1:=(k 1 _ (d[1]'(by omega)) rfl (jH _)).int_inv;have v2:=(k 2 _ (d[2]'(by omega)) rfl (jH _)).int_inv
 have m:d = #[d[0]'(by omega),.int .i64 q,.int .i64 r]:=by
  apply Array.ext;{exact hs}
  .intro i E hi2
   match i,E with
   | 0,_=>rfl
   | 1,_=>exact v1
   | 2,_=>exact v2
   |i+3,h=>omega
 have hu:=k 0 _ (d[0]'(by omega)) rfl (jH _);have f:Rep false w (d[0]'(by omega)) (.s .u8 p) (K 0):=hu;generalize d[0]'(by omega)=u at m f;subst m;refine(z0w (c:=⟨p,q,r⟩) (u:=u) (K0:=K 0) N ⟨e,D⟩ f (fun x n=>A 0 x (show 0<3 by decide) n) hE).mono ?_;rintro e2 w' ⟨z,l,v,S,hr,rfl,y,Y,t⟩;have B:AV.agg (zbU (ziJ ⟨p,q,r⟩))::[aS (.sl .int) (zrC ⟨p,q,r⟩)]=AV.agg (zbU z)::[aS (.sl .int) l]:=hr;simp only[List.cons.injEq,AV.agg.injEq,AV.one.injEq,and_true]at B;obtain⟨C,I⟩:=B;have I:zrC ⟨p,q,r⟩=l:=(by cases I;rfl);subst I;have O:ziJ ⟨p,q,r⟩=z:=(by have C:=C;simp only[zbU,List.cons.injEq,CV.s.injEq,CV.i.injEq,true_and,and_true,heq_eq_eq]at C;obtain⟨F,G,H⟩:=C;generalize ziJ ⟨p,q,r⟩=s at F G H;obtain⟨a1,a2,a3⟩:=s;obtain⟨b1,b2,b3⟩:=z;simp only at F G H;rw[F,G,H]);rw[O];obtain⟨V,J⟩:=y.cur;refine⟨y.os,y.tape,y.output,y.size,fun b D hn _=>y.keep b D hn,#[u,.int .i64 z.i,.int .i64 z.h],V,fun _ _=>False,[v],fun _=>S,J,rfl,rfl,?_,⟨rfl,fun i Q x a n=>?_⟩,rfl,fun j x _ h=>h.elim,fun i x E L=>⟨(t x L).2,?_,.inr (t x L).1⟩,fun i j x _ _ _ h=>h.elim,?_,fun i j x _ _ h=>h.elim⟩
 .intro j Q u' a f
  match j,a,f with
  | 0,a,f=>cases a;exact⟨fun h=>by simp[zbc]at h,fun _=>f⟩
  | 1,a,f=>cases a;cases f;rfl
  | 2,a,f=>cases a;cases f;rfl
  |j+3,a,f=>simp[zbU]at a
 .match i,a,n with
  | 0,a,n=>cases a;cases n;exact Y
  |i+1,a,n=>simp at n
 {have:=(qQ.1 D).1;have:=(t x L).1;omega};{intro i j Q x E ho Z a0 _;have h1:i<1:=(qA.1 E).1;have h2:j<1:=Z;omega}
def zbb4:zcL:=[(156,([false,true,true],ztU))]++zbb3
theorem zYN:zb8 zbb4:=zcr z9X (by
 intro x a;simp only[qG,qN,or_false]at a;rcases a with rfl
 .exact zRf)
end
def zbeU:zW:=[(195,zmT),(224,zrt)]++zba6
theorem zKO:zL zbeU:=zh zoq (zh zvQ zdY)
theorem zHk {g:Type}{c e:Cur}(h:zbd c)(j:0<=e.i){P:g->Prop}{q:Int}(A:0<q)(M:q<=1000){fc:Cur->Bool}{fs:Cur->Cur}{fv:Cur->g}(E:∀{c:Cur},zbd c->fc c=true)(H:∀c,0<=(fs c).i)(hg:∀{c:Cur},zbd c->P (fv c)){G:Ans->Prop}{l0:List g}{z:Nat}(O:l0.length<=z)(I:z<=1000)(m:∀x∈l0,P x){p:Type}(S:Nat->Int×Int×Int×List g->p){F:(p->OA)->p->OA}(D:∀rec t i k l,∃r,F rec (S 0 (t,i,k,l))=(bif zA ⟨c.b,i,k⟩ q then (bif ilt t (zk ⟨c.b,i,k⟩ q) then (bif fc { zf ⟨c.b,i,k⟩ q with b:=c.b } then (bif few (ln (ap l [fv { zf ⟨c.b,i,k⟩ q with b:=c.b }])) then
        rec (S 0 (zM .i64 t 1,(fs {zf ⟨c.b,i,k⟩ q with b:=c.b}).i,(fs {zf ⟨c.b,i,k⟩ q with b:=c.b}).h,ap l [fv {zf ⟨c.b,i,k⟩ q with b:=c.b}])) else none) else none) else some r) else none)/\(ln l<=z+q->(∀x∈l,P x)->G r)):Ends G (iter 1002 F (S 0 (0,e.i,e.h,l0))):=by
 refine zns (fun n s=>∃t i k l,s=S 0 (t,i,k,l)/\t+(n:Int)=1000/\0<=t/\t<=q/\0<=i/\(∀x∈l,P x)/\ln l<=z+t) ?_ 1002 1000 _ ⟨0,e.i,e.h,l0,rfl,rfl,kS 0,by omega,j,m,by unfold ln;omega⟩ (by omega)
 rintro n s rec ⟨t,i,k,l,rfl,J,B,K,C,u,L⟩ f
 obtain⟨r,hF1,hF2⟩:=D rec t i k l;rw[hF1];have a:zbd ⟨c.b,i,k⟩:=zbL h C;have d:=zfZ a A;have v:zbd {zf ⟨c.b,i,k⟩ q with b:=c.b}:=zbL h (zF _ _);refine zo (zbz a _) (zbC (fun w=>?_) (fun w=>?_))
 .have hlt:t<zk ⟨c.b,i,k⟩ q:=qE w;have N:=zhv (y:=1) B (by omega) (by omega) (by omega)
  refine zo (E v) (zo (zlL (by rw[zhO];omega)) (f (n-1) _ (by omega) ⟨_,_,_,_,rfl,by omega,by omega,by omega,H _,?_,by rw[zhO];omega⟩))
  intro x d;rcases jJ.1 d with d|d
  .exact u x d
  .rw [qF.1 d];exact hg v
 .exact zvI (hF2 (by omega) u)
theorem zbep {c d:Cur}(h:zbd c)(f:0<=d.i){m q x:Int}(t:0<q)(g:0<=m)(D:m+q<=1000){G:Ans->Prop}{l0:List Int}(B:ln l0<=m+q){j:Type}(S:Nat->Int×Int×List Int->j){F:(j->OA)->j->OA}(w:∀rec i k l,∃r,F rec (S 0 (i,k,l))=(bif zA ⟨c.b,i,k⟩ q then (bif ilt (ln l) (zM .i64 m (zk ⟨c.b,i,k⟩ q)) then (bif few (ln (ap l [x])) then
        rec (S 0 ((zf ⟨c.b,i,k⟩ q).i,(zf ⟨c.b,i,k⟩ q).h,ap l [x])) else none) else some r) else none)/\(ln l<=m+q->G r)):Ends G (iter 1002 F (S 0 (d.i,d.h,l0))):=by
 refine zns (fun n s=>∃i k l,s=S 0 (i,k,l)/\ln l+(n:Int)=1000/\0<=i/\ln l<=m+q) ?_ 1002 (1000-ln l0).toNat _ ⟨d.i,d.h,l0,rfl,by unfold ln at *;omega,f,B⟩ (by unfold ln at *;omega)
 rintro n s rec ⟨i,k,l,rfl,C,u,v⟩ e
 obtain⟨r,hF1,hF2⟩:=w rec i k l;rw[hF1];have a:zbd ⟨c.b,i,k⟩:=zbL h u;have A:=zfZ a t;have z:=zhv (x:=m) (y:=zk ⟨c.b,i,k⟩ q) g (by omega) A.1 (by omega)
 refine zo (zbz a _) (zbC (fun p=>?_) (fun p=>?_))
 .have hlt:ln l<zM .i64 m (zk ⟨c.b,i,k⟩ q):=qE p;rw[z]at hlt;exact zo (zlL (by rw[zhO];omega)) (e (n-1) _ (by unfold ln at *;omega) ⟨_,_,_,rfl,by rw[zhO];omega,zF _ _,by rw[zhO];omega⟩)
 .exact zvI (hF2 v)
def GuS (g:Guest):Prop:=g.Prog.length<=13/\g.Written.length<=4/\g.Live.length<=4/\g.Seen.length<=50
theorem zG4 {c:Cur}(h:zbd c):(zdj c 4 8).length<=4:=by have:=(zbdO h (n:=4) (m:=8) (by omega) (by omega) (by omega) (by omega)).1;unfold ln at this;omega
def zvw (N:Nat)(c:Cur)  : OA :=
 let C:=({ (zba c) with b:=c.b}:Cur);let v:=(zdj C 4 8);let d:=(zcq (zb4 c));let y9:=({ (zJ C 4 8) with b:=c.b}:Cur);let x:=(zdj y9 4 8);let y2:=({ (zJ y9 4 8) with b:=c.b}:Cur);let w:=(zk y2 100);let B:=({ (zf y2 100) with b:=c.b}:Cur);let y:=(zk B 4);let y0:=({ (zf B 4) with b:=c.b}:Cur);let I:=({ (zcg y0) with b:=c.b}:Cur);let e:=(zcy y0);let A:=({ (zO I 3) with b:=c.b}:Cur);let H:=({ (zf A 256) with b:=c.b}:Cur);let r:=({ (zO A 4) with b:=c.b}:Cur);let u:=({ (zef r) with b:=c.b}:Cur);let q:=({ (zO H 4) with b:=c.b}:Cur);let t:=({ (zef q) with b:=c.b}:Cur); (oN (zhe c) (oN (zjs (zb4 c)) (oN (zhJ C 4 8) (oN (zhJ y9 4 8) (oN (zA y2 100) (oN (zA B 4) (oN (zki y0) (oN (zcI I 3) (cond (zcT I 3) (oN (zA A 256) (oN (zcI H 4) (cond (zcT H 4) (oN (zhf q) (oN (zcI t 12) (iter (σ:=(Int×(Int×(Int×(Int×(Int×(Int×(Int×(Bool×(Int×(Int×(Int×(Bool×(Int×(Bool×(Int×(Int×(Int×(Int×(Bool×(Int×(Int×(Int×(Bool×(Int×(Bool×((List Int)×(lI×(lS×(lS×((List Int)×(lI×(lS×(lS×((List Int)×Unit))))))))))))))))))))))))))))))))))) N (fun z a=>let d6:=a.2.2.2.2.2.2.2.2.2.2.2.2.2.2.1;let d2:=a.2.2.2.2.2.2.2.2.2.2.2.2.2.2.2.1;let c8:=a.2.2.2.2.2.2.2.2.2.2.2.2.2.2.2.2.1;let c4:=a.2.2.2.2.2.2.2.2.2.2.2.2.2.2.2.2.2.1;let c0:=a.2.2.2.2.2.2.2.2.2.2.2.2.2.2.2.2.2.2.1;let b6:=a.2.2.2.2.2.2.2.2.2.2.2.2.2.2.2.2.2.2.2.1;let b2:=a.2.2.2.2.2.2.2.2.2.2.2.2.2.2.2.2.2.2.2.2.1;let a8:=a.2.2.2.2.2.2.2.2.2.2.2.2.2.2.2.2.2.2.2.2.2.1;let a4:=a.2.2.2.2.2.2.2.2.2.2.2.2.2.2.2.2.2.2.2.2.2.2.1;let a0:=a.2.2.2.2.2.2.2.2.2.2.2.2.2.2.2.2.2.2.2.2.2.2.2.1;let W:=a.2.2.2.2.2.2.2.2.2.2.2.2.2.2.2.2.2.2.2.2.2.2.2.2.1;let S:=a.2.2.2.2.2.2.2.2.2.2.2.2.2.2.2.2.2.2.2.2.2.2.2.2.2.2.2.2.2.2.1;let O:=a.2.2.2.2.2.2.2.2.2.2.2.2.2.2.2.2.2.2.2.2.2.2.2.2.2.2.2.2.2.2.2.1;let J:=a.2.2.2.2.2.2.2.2.2.2.2.2.2.2.2.2.2.2.2.2.2.2.2.2.2.2.2.2.2.2.2.2.1;let D:=a.2.2.2.2.2.2.2.2.2.2.2.2.2.2.2.2.2.2.2.2.2.2.2.2.2.2.2.2.2.2.2.2.2.1;let y4:=a.2.2.2.2.2.2.2.2.2.2.2.2.2.2.2.2.2.2.2.2.2.2.2.2.2.1;let l:=(⟨y4,a.2.1,a.2.2.1⟩:Cur);let f:=({ (zf l 4) with b:=y4}:Cur); (oN (zA l 4) (cond (ilt a.1 (zk l 4)) (oN (zA f 100) (oN (few (ln (ap D [(zk f 100)]))) (z ((zM .i64 a.1 1),((zf f 100).i,((zf f 100).h,(a.2.2.2.1,(a.2.2.2.2.1,(a.2.2.2.2.2.1,(a.2.2.2.2.2.2.1,(a.2.2.2.2.2.2.2.1,(a.2.2.2.2.2.2.2.2.1,(a.2.2.2.2.2.2.2.2.2.1,(a.2.2.2.2.2.2.2.2.2.2.1,(a.2.2.2.2.2.2.2.2.2.2.2.1,(a.2.2.2.2.2.2.2.2.2.2.2.2.1,(a.2.2.2.2.2.2.2.2.2.2.2.2.2.1,(d6,(d2,(c8,(c4,(c0,(b6,(b2,(a8,(a4,(a0,(W,(y4,(a.2.2.2.2.2.2.2.2.2.2.2.2.2.2.2.2.2.2.2.2.2.2.2.2.2.2.1,(a.2.2.2.2.2.2.2.2.2.2.2.2.2.2.2.2.2.2.2.2.2.2.2.2.2.2.2.1,(a.2.2.2.2.2.2.2.2.2.2.2.2.2.2.2.2.2.2.2.2.2.2.2.2.2.2.2.2.1,(a.2.2.2.2.2.2.2.2.2.2.2.2.2.2.2.2.2.2.2.2.2.2.2.2.2.2.2.2.2.1,(S,(O,(J,((ap D [(zk f 100)]),()))))))))))))))))))))))))))))))))))))) (some [(.agg [(.s .u8 y4),(.i .i64 (zf l 4).i),(.i .i64 (zf l 4).h)]),(aT .guest (⟨S,d6,d2,O,J,⟨c8,c4,c0⟩,b6,⟨b2,a8,a4,a0⟩,W,D⟩:Guest))])))) (0,((zO t 12).i,((zO t 12).h,(0,(0,(0,(0,(false,(0,(0,(0,(false,(0,(false,(w,(y,(e.Traps,(e.Post,(e.Open,((zk A 256),((zb5 q).Kind,((zb5 q).Page,((zb5 q).Write,((zb5 q).N,((zcT t 12),(c.b,([],([],([],([],(d.Prog,(v,(x,(d.Seen,()))))))))))))))))))))))))))))))))))))) (oN (zcI q 12) (iter (σ:=(Int×(Int×(Int×(Int×(Int×(Int×(Int×(Bool×(Int×(Int×(Int×(Bool×(Int×(Bool×(Int×(Int×(Int×(Int×(Bool×(Int×(Int×(Int×(Bool×(Int×(Bool×((List Int)×(lI×(lS×(lS×((List Int)×(lI×(lS×(lS×((List Int)×Unit))))))))))))))))))))))))))))))))))) N (fun z a=>let d7:=a.2.2.2.2.2.2.2.2.2.2.2.2.2.2.1;let d3:=a.2.2.2.2.2.2.2.2.2.2.2.2.2.2.2.1;let c9:=a.2.2.2.2.2.2.2.2.2.2.2.2.2.2.2.2.1;let c5:=a.2.2.2.2.2.2.2.2.2.2.2.2.2.2.2.2.2.1;let c1:=a.2.2.2.2.2.2.2.2.2.2.2.2.2.2.2.2.2.2.1;let b7:=a.2.2.2.2.2.2.2.2.2.2.2.2.2.2.2.2.2.2.2.1;let b3:=a.2.2.2.2.2.2.2.2.2.2.2.2.2.2.2.2.2.2.2.2.1;let a9:=a.2.2.2.2.2.2.2.2.2.2.2.2.2.2.2.2.2.2.2.2.2.1;let a5:=a.2.2.2.2.2.2.2.2.2.2.2.2.2.2.2.2.2.2.2.2.2.2.1;let a1:=a.2.2.2.2.2.2.2.2.2.2.2.2.2.2.2.2.2.2.2.2.2.2.2.1;let X:=a.2.2.2.2.2.2.2.2.2.2.2.2.2.2.2.2.2.2.2.2.2.2.2.2.1;let T:=a.2.2.2.2.2.2.2.2.2.2.2.2.2.2.2.2.2.2.2.2.2.2.2.2.2.2.2.2.2.2.1;let P:=a.2.2.2.2.2.2.2.2.2.2.2.2.2.2.2.2.2.2.2.2.2.2.2.2.2.2.2.2.2.2.2.1;let K:=a.2.2.2.2.2.2.2.2.2.2.2.2.2.2.2.2.2.2.2.2.2.2.2.2.2.2.2.2.2.2.2.2.1;let E:=a.2.2.2.2.2.2.2.2.2.2.2.2.2.2.2.2.2.2.2.2.2.2.2.2.2.2.2.2.2.2.2.2.2.1;let y5:=a.2.2.2.2.2.2.2.2.2.2.2.2.2.2.2.2.2.2.2.2.2.2.2.2.2.1;let m:=(⟨y5,a.2.1,a.2.2.1⟩:Cur);let g:=({ (zf m 4) with b:=y5}:Cur); (oN (zA m 4) (cond (ilt a.1 (zk m 4)) (oN (zA g 100) (oN (few (ln (ap E [(zk g 100)]))) (z ((zM .i64 a.1 1),((zf g 100).i,((zf g 100).h,(a.2.2.2.1,(a.2.2.2.2.1,(a.2.2.2.2.2.1,(a.2.2.2.2.2.2.1,(a.2.2.2.2.2.2.2.1,(a.2.2.2.2.2.2.2.2.1,(a.2.2.2.2.2.2.2.2.2.1,(a.2.2.2.2.2.2.2.2.2.2.1,(a.2.2.2.2.2.2.2.2.2.2.2.1,(a.2.2.2.2.2.2.2.2.2.2.2.2.1,(a.2.2.2.2.2.2.2.2.2.2.2.2.2.1,(d7,(d3,(c9,(c5,(c1,(b7,(b3,(a9,(a5,(a1,(X,(y5,(a.2.2.2.2.2.2.2.2.2.2.2.2.2.2.2.2.2.2.2.2.2.2.2.2.2.2.1,(a.2.2.2.2.2.2.2.2.2.2.2.2.2.2.2.2.2.2.2.2.2.2.2.2.2.2.2.1,(a.2.2.2.2.2.2.2.2.2.2.2.2.2.2.2.2.2.2.2.2.2.2.2.2.2.2.2.2.1,(a.2.2.2.2.2.2.2.2.2.2.2.2.2.2.2.2.2.2.2.2.2.2.2.2.2.2.2.2.2.1,(T,(P,(K,((ap E [(zk g 100)]),()))))))))))))))))))))))))))))))))))))) (some [(.agg [(.s .u8 y5),(.i .i64 (zf m 4).i),(.i .i64 (zf m 4).h)]),(aT .guest (⟨T,d7,d3,P,K,⟨c9,c5,c1⟩,b7,⟨b3,a9,a5,a1⟩,X,E⟩:Guest))])))) (0,((zO q 12).i,((zO q 12).h,(0,(0,(0,(0,(false,(0,(0,(0,(false,(0,(false,(w,(y,(e.Traps,(e.Post,(e.Open,((zk A 256),(d.Exit.Kind,(d.Exit.Page,(d.Exit.Write,(d.Exit.N,((zcT q 12),(c.b,([],([],([],([],(d.Prog,(v,(x,(d.Seen,()))))))))))))))))))))))))))))))))))))))) (oN (zcI A 4) (cond (zcT A 4) (oN (zhf r) (oN (zcI u 12) (iter (σ:=(Int×(Int×(Int×(Int×(Int×(Int×(Int×(Bool×(Int×(Int×(Int×(Bool×(Int×(Bool×(Int×(Int×(Int×(Int×(Bool×(Int×(Int×(Int×(Bool×(Int×(Bool×((List Int)×(lI×(lS×(lS×((List Int)×(lI×(lS×(lS×((List Int)×Unit))))))))))))))))))))))))))))))))))) N (fun z a=>let d8:=a.2.2.2.2.2.2.2.2.2.2.2.2.2.2.1;let d4:=a.2.2.2.2.2.2.2.2.2.2.2.2.2.2.2.1;let d0:=a.2.2.2.2.2.2.2.2.2.2.2.2.2.2.2.2.1;let c6:=a.2.2.2.2.2.2.2.2.2.2.2.2.2.2.2.2.2.1;let c2:=a.2.2.2.2.2.2.2.2.2.2.2.2.2.2.2.2.2.2.1;let b8:=a.2.2.2.2.2.2.2.2.2.2.2.2.2.2.2.2.2.2.2.1;let b4:=a.2.2.2.2.2.2.2.2.2.2.2.2.2.2.2.2.2.2.2.2.1;let b0:=a.2.2.2.2.2.2.2.2.2.2.2.2.2.2.2.2.2.2.2.2.2.1;let a6:=a.2.2.2.2.2.2.2.2.2.2.2.2.2.2.2.2.2.2.2.2.2.2.1;let a2:=a.2.2.2.2.2.2.2.2.2.2.2.2.2.2.2.2.2.2.2.2.2.2.2.1;let Y:=a.2.2.2.2.2.2.2.2.2.2.2.2.2.2.2.2.2.2.2.2.2.2.2.2.1;let U:=a.2.2.2.2.2.2.2.2.2.2.2.2.2.2.2.2.2.2.2.2.2.2.2.2.2.2.2.2.2.2.1;let Q:=a.2.2.2.2.2.2.2.2.2.2.2.2.2.2.2.2.2.2.2.2.2.2.2.2.2.2.2.2.2.2.2.1;let L:=a.2.2.2.2.2.2.2.2.2.2.2.2.2.2.2.2.2.2.2.2.2.2.2.2.2.2.2.2.2.2.2.2.1;let F:=a.2.2.2.2.2.2.2.2.2.2.2.2.2.2.2.2.2.2.2.2.2.2.2.2.2.2.2.2.2.2.2.2.2.1;let y6:=a.2.2.2.2.2.2.2.2.2.2.2.2.2.2.2.2.2.2.2.2.2.2.2.2.2.1;let n:=(⟨y6,a.2.1,a.2.2.1⟩:Cur);let j:=({ (zf n 4) with b:=y6}:Cur); (oN (zA n 4) (cond (ilt a.1 (zk n 4)) (oN (zA j 100) (oN (few (ln (ap F [(zk j 100)]))) (z ((zM .i64 a.1 1),((zf j 100).i,((zf j 100).h,(a.2.2.2.1,(a.2.2.2.2.1,(a.2.2.2.2.2.1,(a.2.2.2.2.2.2.1,(a.2.2.2.2.2.2.2.1,(a.2.2.2.2.2.2.2.2.1,(a.2.2.2.2.2.2.2.2.2.1,(a.2.2.2.2.2.2.2.2.2.2.1,(a.2.2.2.2.2.2.2.2.2.2.2.1,(a.2.2.2.2.2.2.2.2.2.2.2.2.1,(a.2.2.2.2.2.2.2.2.2.2.2.2.2.1,(d8,(d4,(d0,(c6,(c2,(b8,(b4,(b0,(a6,(a2,(Y,(y6,(a.2.2.2.2.2.2.2.2.2.2.2.2.2.2.2.2.2.2.2.2.2.2.2.2.2.2.1,(a.2.2.2.2.2.2.2.2.2.2.2.2.2.2.2.2.2.2.2.2.2.2.2.2.2.2.2.1,(a.2.2.2.2.2.2.2.2.2.2.2.2.2.2.2.2.2.2.2.2.2.2.2.2.2.2.2.2.1,(a.2.2.2.2.2.2.2.2.2.2.2.2.2.2.2.2.2.2.2.2.2.2.2.2.2.2.2.2.2.1,(U,(Q,(L,((ap F [(zk j 100)]),()))))))))))))))))))))))))))))))))))))) (some [(.agg [(.s .u8 y6),(.i .i64 (zf n 4).i),(.i .i64 (zf n 4).h)]),(aT .guest (⟨U,d8,d4,Q,L,⟨d0,c6,c2⟩,b8,⟨b4,b0,a6,a2⟩,Y,F⟩:Guest))])))) (0,((zO u 12).i,((zO u 12).h,(0,(0,(0,(0,(false,(0,(0,(0,(false,(0,(false,(w,(y,(e.Traps,(e.Post,(e.Open,(d.Pending,((zb5 r).Kind,((zb5 r).Page,((zb5 r).Write,((zb5 r).N,((zcT u 12),(c.b,([],([],([],([],(d.Prog,(v,(x,(d.Seen,()))))))))))))))))))))))))))))))))))))) (oN (zcI r 12) (iter (σ:=(Int×(Int×(Int×(Int×(Int×(Int×(Int×(Bool×(Int×(Int×(Int×(Bool×(Int×(Bool×(Int×(Int×(Int×(Int×(Bool×(Int×(Int×(Int×(Bool×(Int×(Bool×((List Int)×(lI×(lS×(lS×((List Int)×(lI×(lS×(lS×((List Int)×Unit))))))))))))))))))))))))))))))))))) N (fun z a=>let d9:=a.2.2.2.2.2.2.2.2.2.2.2.2.2.2.1;let d5:=a.2.2.2.2.2.2.2.2.2.2.2.2.2.2.2.1;let d1:=a.2.2.2.2.2.2.2.2.2.2.2.2.2.2.2.2.1;let c7:=a.2.2.2.2.2.2.2.2.2.2.2.2.2.2.2.2.2.1;let c3:=a.2.2.2.2.2.2.2.2.2.2.2.2.2.2.2.2.2.2.1;let b9:=a.2.2.2.2.2.2.2.2.2.2.2.2.2.2.2.2.2.2.2.1;let b5:=a.2.2.2.2.2.2.2.2.2.2.2.2.2.2.2.2.2.2.2.2.1;let b1:=a.2.2.2.2.2.2.2.2.2.2.2.2.2.2.2.2.2.2.2.2.2.1;let a7:=a.2.2.2.2.2.2.2.2.2.2.2.2.2.2.2.2.2.2.2.2.2.2.1;let a3:=a.2.2.2.2.2.2.2.2.2.2.2.2.2.2.2.2.2.2.2.2.2.2.2.1;let Z:=a.2.2.2.2.2.2.2.2.2.2.2.2.2.2.2.2.2.2.2.2.2.2.2.2.1;let V:=a.2.2.2.2.2.2.2.2.2.2.2.2.2.2.2.2.2.2.2.2.2.2.2.2.2.2.2.2.2.2.1;let R:=a.2.2.2.2.2.2.2.2.2.2.2.2.2.2.2.2.2.2.2.2.2.2.2.2.2.2.2.2.2.2.2.1;let M:=a.2.2.2.2.2.2.2.2.2.2.2.2.2.2.2.2.2.2.2.2.2.2.2.2.2.2.2.2.2.2.2.2.1;let G:=a.2.2.2.2.2.2.2.2.2.2.2.2.2.2.2.2.2.2.2.2.2.2.2.2.2.2.2.2.2.2.2.2.2.1;let y7:=a.2.2.2.2.2.2.2.2.2.2.2.2.2.2.2.2.2.2.2.2.2.2.2.2.2.1;let p:=(⟨y7,a.2.1,a.2.2.1⟩:Cur);let k:=({ (zf p 4) with b:=y7}:Cur); (oN (zA p 4) (cond (ilt a.1 (zk p 4)) (oN (zA k 100) (oN (few (ln (ap G [(zk k 100)]))) (z ((zM .i64 a.1 1),((zf k 100).i,((zf k 100).h,(a.2.2.2.1,(a.2.2.2.2.1,(a.2.2.2.2.2.1,(a.2.2.2.2.2.2.1,(a.2.2.2.2.2.2.2.1,(a.2.2.2.2.2.2.2.2.1,(a.2.2.2.2.2.2.2.2.2.1,(a.2.2.2.2.2.2.2.2.2.2.1,(a.2.2.2.2.2.2.2.2.2.2.2.1,(a.2.2.2.2.2.2.2.2.2.2.2.2.1,(a.2.2.2.2.2.2.2.2.2.2.2.2.2.1,(d9,(d5,(d1,(c7,(c3,(b9,(b5,(b1,(a7,(a3,(Z,(y7,(a.2.2.2.2.2.2.2.2.2.2.2.2.2.2.2.2.2.2.2.2.2.2.2.2.2.2.1,(a.2.2.2.2.2.2.2.2.2.2.2.2.2.2.2.2.2.2.2.2.2.2.2.2.2.2.2.1,(a.2.2.2.2.2.2.2.2.2.2.2.2.2.2.2.2.2.2.2.2.2.2.2.2.2.2.2.2.1,(a.2.2.2.2.2.2.2.2.2.2.2.2.2.2.2.2.2.2.2.2.2.2.2.2.2.2.2.2.2.1,(V,(R,(M,((ap G [(zk k 100)]),()))))))))))))))))))))))))))))))))))))) (some [(.agg [(.s .u8 y7),(.i .i64 (zf p 4).i),(.i .i64 (zf p 4).h)]),(aT .guest (⟨V,d9,d5,R,M,⟨d1,c7,c3⟩,b9,⟨b5,b1,a7,a3⟩,Z,G⟩:Guest))])))) (0,((zO r 12).i,((zO r 12).h,(0,(0,(0,(0,(false,(0,(0,(0,(false,(0,(false,(w,(y,(e.Traps,(e.Post,(e.Open,(d.Pending,(d.Exit.Kind,(d.Exit.Page,(d.Exit.Write,(d.Exit.N,((zcT r 12),(c.b,([],([],([],([],(d.Prog,(v,(x,(d.Seen,())))))))))))))))))))))))))))))))))))))))))))))))
def zSP:FuncId->Nat->Option Tmpl:=zq [(246,0,{n:=50,tm:=[(0,.lp 0 0),(2,.lp 1 0),(3,.lp 2 0),(4,ti)],lo:=[(0,[.sl 0 [],ti,ti]),(1,[.sl 1 [],ti,ti,.sl 2 [],.sl 3 [],ti,ti,.b,ti,ti,ti,.b,ti,.b,.sl 4 []]),(2,[.sl 5 [],ti,ti,.sl 6 [],.sl 7 [],ti,ti,.b,ti,ti,ti,.b,ti,.b,.sl 8 []])],ro:=[(0,.u8,false),(1,.ins,true),(2,.slot,true),(3,.slot,true),(4,.int,true),(5,.ins,true),(6,.slot,true),(7,.slot,true),(8,.int,true)]})]
def zoj (c:Cur)(s:Cur)(a:Guest):Prop:=(∃N,zvw N c=some (AV.agg (zbU s)::[aT .guest a]))/\(s.b=c.b/\0<=s.i)/\(GuS a/\a.Seen.length<=4)
def zmj (c:Cur)  : Bool:=wC (zoj c)
def zjB (c:Cur)  : Cur:=wS (zoj c)
def zca (c:Cur)  : Guest:=wV (zoj c)
theorem zGU {c:Cur}(h:zmj c=true):zoj c (zjB c) (zca c):=wG h
theorem zZa (c:Cur)  : 0<=(zjB c).i:=wP fun h=>h.2.1.2
theorem zY9 (c:Cur)(h:∃N,Ends (wE (fun a=>aT .guest a) c.b fun a=>GuS a/\a.Seen.length<=4) (zvw N c)):zmj c=true:=wI (fun _ _ h=>h) h
def zxG:zdk:=rP0 fun c=>(zmj c,zjB c,[aT .guest (zca c)])
theorem zLC:zbM Tryz.prog 246 [false,true,true] zxG:=hP0 zKO zU zYN zn zSP (fun _ h=>(zGU h).1)
theorem zW4 {c:Cur}(h:zbd c):zmj c=true:=by
 refine zY9 c ⟨1002,?_⟩;unfold zvw oN;conv=>zeta
 have f:=zFU h;have j:=zMl (zsB f).2.2;have e:zjs (zb4 c)=true:=zY (by omega);have q:∀{s:Cur},0<=s.i->zbd {s with b:=c.b}:=fun g=>zbL h g;have d:GuS ⟨zb4 c,0,0,[],[],⟨0,0,false⟩,0,⟨0,0,false,0⟩,false,[]⟩:=⟨by dsimp only;omega,by simp,by simp,by simp⟩
 refine zo f (zo e (zo (zA9 (q (zi7 _)) (by omega) (by omega) _) (zo (zA9 (q (zhK _ _ _)) (by omega) (by omega) _) (zo (zbz (q (zhK _ _ _)) _) (zo (zbz (q (zF _ _)) _) (zo (z3g (q (zF _ _))) (zo (zio (q (zCz _)) _)
  (zbC (fun _=>zo (zbz (q (zb7 _ _)) _) (zo (zio (q (zF _ _)) _) (zbC (fun _=>zo (zNL (q (zb7 _ _))) (zo (zio (q (zsF _)) _) ?_)) (fun _=>zo (zio (q (zb7 _ _)) _) ?_))))
   (fun _=>zo (zio (q (zb7 _ _)) _) (zbC (fun _=>zo (zNL (q (zb7 _ _))) (zo (zio (q (zsF _)) _) ?_)) (fun _=>zo (zio (q (zb7 _ _)) _) ?_)))))))))))
 .exact zHk h (zb7 _ _) (P:=fun _=>True) (q:=4) (by omega) (by omega) (fc:=fun c=>zA c 100) (fs:=fun c=>zf c 100) (fv:=fun c=>zk c 100) (fun h=>zbz h _) (fun c=>zF c _) (fun _=>trivial) (z:=0) (l0:=(zcq (zb4 c)).Seen) (qW 0) (by omega) (by simp) ((fun _ t=>(t.1,t.2.1,t.2.2.1,0,0,0,0,false,0,0,0,false,0,false,(zk ({ (zJ ({ (zJ ({ (zba c) with b:=c.b }:Cur) 4 8) with b:=c.b }:Cur) 4 8) with b:=c.b }:Cur) 100),(zk ({ (zf ({ (zJ ({ (zJ ({ (zba c) with b:=c.b }:Cur) 4 8) with b:=c.b }:Cur) 4 8) with b:=c.b }:Cur) 100) with b:=c.b }:Cur) 4),(zcy ({ (zf ({ (zf ({ (zJ ({ (zJ ({ (zba c) with b:=c.b }:Cur) 4 8) with b:=c.b }:Cur) 4 8) with b:=c.b }:Cur) 100) with b:=c.b }:Cur) 4) with b:=c.b }:Cur)).Traps,(zcy ({ (zf ({ (zf ({ (zJ ({ (zJ ({ (zba c) with b:=c.b }:Cur) 4 8) with b:=c.b }:Cur) 4 8) with b:=c.b }:Cur) 100) with b:=c.b }:Cur) 4) with b:=c.b }:Cur)).Post,(zcy ({ (zf ({ (zf ({ (zJ ({ (zJ ({ (zba c) with b:=c.b }:Cur) 4 8) with b:=c.b }:Cur) 4 8) with b:=c.b }:Cur) 100) with b:=c.b }:Cur) 4) with b:=c.b }:Cur)).Open,(zk ({ (zO ({ (zcg ({ (zf ({ (zf ({ (zJ ({ (zJ ({ (zba c) with b:=c.b }:Cur) 4 8) with b:=c.b }:Cur) 4 8) with b:=c.b }:Cur) 100) with b:=c.b }:Cur) 4) with b:=c.b }:Cur)) with b:=c.b }:Cur) 3) with b:=c.b }:Cur) 256),(zb5 ({ (zO ({ (zf ({ (zO ({ (zcg ({ (zf ({ (zf ({ (zJ ({ (zJ ({ (zba c) with b:=c.b }:Cur) 4 8) with b:=c.b }:Cur) 4 8) with b:=c.b }:Cur) 100) with b:=c.b }:Cur) 4) with b:=c.b }:Cur)) with b:=c.b }:Cur) 3) with b:=c.b }:Cur) 256) with b:=c.b }:Cur) 4) with b:=c.b }:Cur)).Kind,(zb5 ({ (zO ({ (zf ({ (zO ({ (zcg ({ (zf ({ (zf ({ (zJ ({ (zJ ({ (zba c) with b:=c.b }:Cur) 4 8) with b:=c.b }:Cur) 4 8) with b:=c.b }:Cur) 100) with b:=c.b }:Cur) 4) with b:=c.b }:Cur)) with b:=c.b }:Cur) 3) with b:=c.b }:Cur) 256) with b:=c.b }:Cur) 4) with b:=c.b }:Cur)).Page,(zb5 ({ (zO ({ (zf ({ (zO ({ (zcg ({ (zf ({ (zf ({ (zJ ({ (zJ ({ (zba c) with b:=c.b }:Cur) 4 8) with b:=c.b }:Cur) 4 8) with b:=c.b }:Cur) 100) with b:=c.b }:Cur) 4) with b:=c.b }:Cur)) with b:=c.b }:Cur) 3) with b:=c.b }:Cur) 256) with b:=c.b }:Cur) 4) with b:=c.b }:Cur)).Write,(zb5 ({ (zO ({ (zf ({ (zO ({ (zcg ({ (zf ({ (zf ({ (zJ ({ (zJ ({ (zba c) with b:=c.b }:Cur) 4 8) with b:=c.b }:Cur) 4 8) with b:=c.b }:Cur) 100) with b:=c.b }:Cur) 4) with b:=c.b }:Cur)) with b:=c.b }:Cur) 3) with b:=c.b }:Cur) 256) with b:=c.b }:Cur) 4) with b:=c.b }:Cur)).N,(zcT ({ (zef ({ (zO ({ (zf ({ (zO ({ (zcg ({ (zf ({ (zf ({ (zJ ({ (zJ ({ (zba c) with b:=c.b }:Cur) 4 8) with b:=c.b }:Cur) 4 8) with b:=c.b }:Cur) 100) with b:=c.b }:Cur) 4) with b:=c.b }:Cur)) with b:=c.b }:Cur) 3) with b:=c.b }:Cur) 256) with b:=c.b }:Cur) 4) with b:=c.b }:Cur)) with b:=c.b }:Cur) 12),c.b,[],[],[],[],(zcq (zb4 c)).Prog,(zdj ({ (zba c) with b:=c.b }:Cur) 4 8),(zdj ({ (zJ ({ (zba c) with b:=c.b }:Cur) 4 8) with b:=c.b }:Cur) 4 8),t.2.2.2,())):Nat->Int×Int×Int×List Int->_)
   (fun rec t i k l=>⟨_,rfl,fun a _=>⟨⟨_,_,_⟩,_,rfl,⟨rfl,zF _ _⟩,⟨⟨d.1,zG4 (q (zi7 _)),zG4 (q (zhK _ _ _)),by unfold ln at a;dsimp only;omega⟩,by unfold ln at a;dsimp only;omega⟩⟩⟩)
 .exact zHk h (zb7 _ _) (P:=fun _=>True) (q:=4) (by omega) (by omega) (fc:=fun c=>zA c 100) (fs:=fun c=>zf c 100) (fv:=fun c=>zk c 100) (fun h=>zbz h _) (fun c=>zF c _) (fun _=>trivial) (z:=0) (l0:=(zcq (zb4 c)).Seen) (qW 0) (by omega) (by simp) ((fun _ t=>(t.1,t.2.1,t.2.2.1,0,0,0,0,false,0,0,0,false,0,false,(zk ({ (zJ ({ (zJ ({ (zba c) with b:=c.b }:Cur) 4 8) with b:=c.b }:Cur) 4 8) with b:=c.b }:Cur) 100),(zk ({ (zf ({ (zJ ({ (zJ ({ (zba c) with b:=c.b }:Cur) 4 8) with b:=c.b }:Cur) 4 8) with b:=c.b }:Cur) 100) with b:=c.b }:Cur) 4),(zcy ({ (zf ({ (zf ({ (zJ ({ (zJ ({ (zba c) with b:=c.b }:Cur) 4 8) with b:=c.b }:Cur) 4 8) with b:=c.b }:Cur) 100) with b:=c.b }:Cur) 4) with b:=c.b }:Cur)).Traps,(zcy ({ (zf ({ (zf ({ (zJ ({ (zJ ({ (zba c) with b:=c.b }:Cur) 4 8) with b:=c.b }:Cur) 4 8) with b:=c.b }:Cur) 100) with b:=c.b }:Cur) 4) with b:=c.b }:Cur)).Post,(zcy ({ (zf ({ (zf ({ (zJ ({ (zJ ({ (zba c) with b:=c.b }:Cur) 4 8) with b:=c.b }:Cur) 4 8) with b:=c.b }:Cur) 100) with b:=c.b }:Cur) 4) with b:=c.b }:Cur)).Open,(zk ({ (zO ({ (zcg ({ (zf ({ (zf ({ (zJ ({ (zJ ({ (zba c) with b:=c.b }:Cur) 4 8) with b:=c.b }:Cur) 4 8) with b:=c.b }:Cur) 100) with b:=c.b }:Cur) 4) with b:=c.b }:Cur)) with b:=c.b }:Cur) 3) with b:=c.b }:Cur) 256),(zcq (zb4 c)).Exit.Kind,(zcq (zb4 c)).Exit.Page,(zcq (zb4 c)).Exit.Write,(zcq (zb4 c)).Exit.N,(zcT ({ (zO ({ (zf ({ (zO ({ (zcg ({ (zf ({ (zf ({ (zJ ({ (zJ ({ (zba c) with b:=c.b }:Cur) 4 8) with b:=c.b }:Cur) 4 8) with b:=c.b }:Cur) 100) with b:=c.b }:Cur) 4) with b:=c.b }:Cur)) with b:=c.b }:Cur) 3) with b:=c.b }:Cur) 256) with b:=c.b }:Cur) 4) with b:=c.b }:Cur) 12),c.b,[],[],[],[],(zcq (zb4 c)).Prog,(zdj ({ (zba c) with b:=c.b }:Cur) 4 8),(zdj ({ (zJ ({ (zba c) with b:=c.b }:Cur) 4 8) with b:=c.b }:Cur) 4 8),t.2.2.2,())):Nat->Int×Int×Int×List Int->_)
   (fun rec t i k l=>⟨_,rfl,fun a _=>⟨⟨_,_,_⟩,_,rfl,⟨rfl,zF _ _⟩,⟨⟨d.1,zG4 (q (zi7 _)),zG4 (q (zhK _ _ _)),by unfold ln at a;dsimp only;omega⟩,by unfold ln at a;dsimp only;omega⟩⟩⟩)
 .exact zHk h (zb7 _ _) (P:=fun _=>True) (q:=4) (by omega) (by omega) (fc:=fun c=>zA c 100) (fs:=fun c=>zf c 100) (fv:=fun c=>zk c 100) (fun h=>zbz h _) (fun c=>zF c _) (fun _=>trivial) (z:=0) (l0:=(zcq (zb4 c)).Seen) (qW 0) (by omega) (by simp) ((fun _ t=>(t.1,t.2.1,t.2.2.1,0,0,0,0,false,0,0,0,false,0,false,(zk ({ (zJ ({ (zJ ({ (zba c) with b:=c.b }:Cur) 4 8) with b:=c.b }:Cur) 4 8) with b:=c.b }:Cur) 100),(zk ({ (zf ({ (zJ ({ (zJ ({ (zba c) with b:=c.b }:Cur) 4 8) with b:=c.b }:Cur) 4 8) with b:=c.b }:Cur) 100) with b:=c.b }:Cur) 4),(zcy ({ (zf ({ (zf ({ (zJ ({ (zJ ({ (zba c) with b:=c.b }:Cur) 4 8) with b:=c.b }:Cur) 4 8) with b:=c.b }:Cur) 100) with b:=c.b }:Cur) 4) with b:=c.b }:Cur)).Traps,(zcy ({ (zf ({ (zf ({ (zJ ({ (zJ ({ (zba c) with b:=c.b }:Cur) 4 8) with b:=c.b }:Cur) 4 8) with b:=c.b }:Cur) 100) with b:=c.b }:Cur) 4) with b:=c.b }:Cur)).Post,(zcy ({ (zf ({ (zf ({ (zJ ({ (zJ ({ (zba c) with b:=c.b }:Cur) 4 8) with b:=c.b }:Cur) 4 8) with b:=c.b }:Cur) 100) with b:=c.b }:Cur) 4) with b:=c.b }:Cur)).Open,(zcq (zb4 c)).Pending,(zb5 ({ (zO ({ (zO ({ (zcg ({ (zf ({ (zf ({ (zJ ({ (zJ ({ (zba c) with b:=c.b }:Cur) 4 8) with b:=c.b }:Cur) 4 8) with b:=c.b }:Cur) 100) with b:=c.b }:Cur) 4) with b:=c.b }:Cur)) with b:=c.b }:Cur) 3) with b:=c.b }:Cur) 4) with b:=c.b }:Cur)).Kind,(zb5 ({ (zO ({ (zO ({ (zcg ({ (zf ({ (zf ({ (zJ ({ (zJ ({ (zba c) with b:=c.b }:Cur) 4 8) with b:=c.b }:Cur) 4 8) with b:=c.b }:Cur) 100) with b:=c.b }:Cur) 4) with b:=c.b }:Cur)) with b:=c.b }:Cur) 3) with b:=c.b }:Cur) 4) with b:=c.b }:Cur)).Page,(zb5 ({ (zO ({ (zO ({ (zcg ({ (zf ({ (zf ({ (zJ ({ (zJ ({ (zba c) with b:=c.b }:Cur) 4 8) with b:=c.b }:Cur) 4 8) with b:=c.b }:Cur) 100) with b:=c.b }:Cur) 4) with b:=c.b }:Cur)) with b:=c.b }:Cur) 3) with b:=c.b }:Cur) 4) with b:=c.b }:Cur)).Write,(zb5 ({ (zO ({ (zO ({ (zcg ({ (zf ({ (zf ({ (zJ ({ (zJ ({ (zba c) with b:=c.b }:Cur) 4 8) with b:=c.b }:Cur) 4 8) with b:=c.b }:Cur) 100) with b:=c.b }:Cur) 4) with b:=c.b }:Cur)) with b:=c.b }:Cur) 3) with b:=c.b }:Cur) 4) with b:=c.b }:Cur)).N,(zcT ({ (zef ({ (zO ({ (zO ({ (zcg ({ (zf ({ (zf ({ (zJ ({ (zJ ({ (zba c) with b:=c.b }:Cur) 4 8) with b:=c.b }:Cur) 4 8) with b:=c.b }:Cur) 100) with b:=c.b }:Cur) 4) with b:=c.b }:Cur)) with b:=c.b }:Cur) 3) with b:=c.b }:Cur) 4) with b:=c.b }:Cur)) with b:=c.b }:Cur) 12),c.b,[],[],[],[],(zcq (zb4 c)).Prog,(zdj ({ (zba c) with b:=c.b }:Cur) 4 8),(zdj ({ (zJ ({ (zba c) with b:=c.b }:Cur) 4 8) with b:=c.b }:Cur) 4 8),t.2.2.2,())):Nat->Int×Int×Int×List Int->_)
   (fun rec t i k l=>⟨_,rfl,fun a _=>⟨⟨_,_,_⟩,_,rfl,⟨rfl,zF _ _⟩,⟨⟨d.1,zG4 (q (zi7 _)),zG4 (q (zhK _ _ _)),by unfold ln at a;dsimp only;omega⟩,by unfold ln at a;dsimp only;omega⟩⟩⟩)
 .exact zHk h (zb7 _ _) (P:=fun _=>True) (q:=4) (by omega) (by omega) (fc:=fun c=>zA c 100) (fs:=fun c=>zf c 100) (fv:=fun c=>zk c 100) (fun h=>zbz h _) (fun c=>zF c _) (fun _=>trivial) (z:=0) (l0:=(zcq (zb4 c)).Seen) (qW 0) (by omega) (by simp) ((fun _ t=>(t.1,t.2.1,t.2.2.1,0,0,0,0,false,0,0,0,false,0,false,(zk ({ (zJ ({ (zJ ({ (zba c) with b:=c.b }:Cur) 4 8) with b:=c.b }:Cur) 4 8) with b:=c.b }:Cur) 100),(zk ({ (zf ({ (zJ ({ (zJ ({ (zba c) with b:=c.b }:Cur) 4 8) with b:=c.b }:Cur) 4 8) with b:=c.b }:Cur) 100) with b:=c.b }:Cur) 4),(zcy ({ (zf ({ (zf ({ (zJ ({ (zJ ({ (zba c) with b:=c.b }:Cur) 4 8) with b:=c.b }:Cur) 4 8) with b:=c.b }:Cur) 100) with b:=c.b }:Cur) 4) with b:=c.b }:Cur)).Traps,(zcy ({ (zf ({ (zf ({ (zJ ({ (zJ ({ (zba c) with b:=c.b }:Cur) 4 8) with b:=c.b }:Cur) 4 8) with b:=c.b }:Cur) 100) with b:=c.b }:Cur) 4) with b:=c.b }:Cur)).Post,(zcy ({ (zf ({ (zf ({ (zJ ({ (zJ ({ (zba c) with b:=c.b }:Cur) 4 8) with b:=c.b }:Cur) 4 8) with b:=c.b }:Cur) 100) with b:=c.b }:Cur) 4) with b:=c.b }:Cur)).Open,(zcq (zb4 c)).Pending,(zcq (zb4 c)).Exit.Kind,(zcq (zb4 c)).Exit.Page,(zcq (zb4 c)).Exit.Write,(zcq (zb4 c)).Exit.N,(zcT ({ (zO ({ (zO ({ (zcg ({ (zf ({ (zf ({ (zJ ({ (zJ ({ (zba c) with b:=c.b }:Cur) 4 8) with b:=c.b }:Cur) 4 8) with b:=c.b }:Cur) 100) with b:=c.b }:Cur) 4) with b:=c.b }:Cur)) with b:=c.b }:Cur) 3) with b:=c.b }:Cur) 4) with b:=c.b }:Cur) 12),c.b,[],[],[],[],(zcq (zb4 c)).Prog,(zdj ({ (zba c) with b:=c.b }:Cur) 4 8),(zdj ({ (zJ ({ (zba c) with b:=c.b }:Cur) 4 8) with b:=c.b }:Cur) 4 8),t.2.2.2,())):Nat->Int×Int×Int×List Int->_)
   (fun rec t i k l=>⟨_,rfl,fun a _=>⟨⟨_,_,_⟩,_,rfl,⟨rfl,zF _ _⟩,⟨⟨d.1,zG4 (q (zi7 _)),zG4 (q (zhK _ _ _)),by unfold ln at a;dsimp only;omega⟩,by unfold ln at a;dsimp only;omega⟩⟩⟩)
def zbb5:zcL:=[(246,([false,true,true],zxG))]++zbb4
theorem zMj:zb8 zbb5:=zcr zYN (by
 intro x a;simp only[qG,qN,or_false]at a;rcases a with rfl
 .exact zLC)
def zBm (N:Nat)(c:Cur)  : OA :=
 let e:=(zca c);let B:=({ (zjB c) with b:=c.b}:Cur);let f:=(zf B 14);let j:=(zk B 14);let d:=({f with b:=c.b}:Cur);let g:=(zgM d 4 8);let p:=(zV d [(-1),12,13,9223372036854775807]); (oN (zmj c) (oN (zA B 14) (cond (ieq j 0) (oN (zjz d) (some [(.agg [(.s .u8 c.b),(.i .i64 (zjA d).i),(.i .i64 (zjA d).h)]),(aT .guest ({e with Prog:=(zqs d)}:Guest))])) (cond (ieq j 1) (oN (zbl d [(-1),100]) (some [(.agg [(.s .u8 c.b),(.i .i64 (zV d [(-1),100]).i),(.i .i64 (zV d [(-1),100]).h)]),(aT .guest ({e with A:=(zbh d [(-1),100])}:Guest))])) (cond (ieq j 2) (oN (zbl d [(-1),12,13,9223372036854775807]) (some [(.agg [(.s .u8 c.b),(.i .i64 p.i),(.i .i64 p.h)]),(aT .guest ({e with Pc:=(zbh d [(-1),12,13,9223372036854775807])}:Guest))])) (cond (ieq j 3) (oN (zfI d 4 8) (some [(.agg [(.s .u8 c.b),(.i .i64 g.i),(.i .i64 g.h)]),(aT .guest ({e with Live:=(zeM d 4 8)}:Guest))])) (cond (ieq j 4) (oN (zkh d) (some [(.agg [(.s .u8 c.b),(.i .i64 (zqv d).i),(.i .i64 (zqv d).h)]),(aT .guest ({e with Ctl:=(zwE d)}:Guest))])) (cond (ieq j 5) (oN (znW d) (some [(.agg [(.s .u8 c.b),(.i .i64 (znX d).i),(.i .i64 (znX d).h)]),(aT .guest ({e with Pending:=(zyx d)}:Guest))])) (cond (ieq j 6) (oN (zqw d) (some [(.agg [(.s .u8 c.b),(.i .i64 (zqx d).i),(.i .i64 (zqx d).h)]),(aT .guest ({e with Exit:=(zCA d)}:Guest))])) (cond (ieq j 7) (iter (σ:=(Int×(Int×(Int×(Int×(Int×(Int×(Bool×(Int×(Int×(Int×(Bool×(Int×(Bool×(Int×(Int×(Int×(Int×(Bool×(Int×(Int×(Int×(Bool×(Int×(Bool×((List Int)×(lI×(lS×(lS×((List Int)×(lI×(lS×(lS×((List Int)×Unit)))))))))))))))))))))))))))))))))) N (fun G a=>let y:=a.2.2.2.2.2.2.2.2.2.2.2.2.2.1;let x:=a.2.2.2.2.2.2.2.2.2.2.2.2.2.2.1;let w:=a.2.2.2.2.2.2.2.2.2.2.2.2.2.2.2.1;let v:=a.2.2.2.2.2.2.2.2.2.2.2.2.2.2.2.2.1;let u:=a.2.2.2.2.2.2.2.2.2.2.2.2.2.2.2.2.2.1;let t:=a.2.2.2.2.2.2.2.2.2.2.2.2.2.2.2.2.2.2.1;let r:=a.2.2.2.2.2.2.2.2.2.2.2.2.2.2.2.2.2.2.2.1;let q:=a.2.2.2.2.2.2.2.2.2.2.2.2.2.2.2.2.2.2.2.2.1;let n:=a.2.2.2.2.2.2.2.2.2.2.2.2.2.2.2.2.2.2.2.2.2.1;let m:=a.2.2.2.2.2.2.2.2.2.2.2.2.2.2.2.2.2.2.2.2.2.2.1;let l:=a.2.2.2.2.2.2.2.2.2.2.2.2.2.2.2.2.2.2.2.2.2.2.2.1;let F:=a.2.2.2.2.2.2.2.2.2.2.2.2.2.2.2.2.2.2.2.2.2.2.2.2.2.2.2.2.2.1;let E:=a.2.2.2.2.2.2.2.2.2.2.2.2.2.2.2.2.2.2.2.2.2.2.2.2.2.2.2.2.2.2.1;let D:=a.2.2.2.2.2.2.2.2.2.2.2.2.2.2.2.2.2.2.2.2.2.2.2.2.2.2.2.2.2.2.2.1;let C:=a.2.2.2.2.2.2.2.2.2.2.2.2.2.2.2.2.2.2.2.2.2.2.2.2.1;let z:=a.2.2.2.2.2.2.2.2.2.2.2.2.2.2.2.2.2.2.2.2.2.2.2.2.2.2.2.2.2.2.2.2.1;let k:=(⟨C,a.1,a.2.1⟩:Cur); (oN (zA k 3) (cond (ilt (ln z) (zM .i64 39 (zk k 3))) (oN (few (ln (ap z [1]))) (G ((zf k 3).i,((zf k 3).h,(a.2.2.1,(a.2.2.2.1,(a.2.2.2.2.1,(a.2.2.2.2.2.1,(a.2.2.2.2.2.2.1,(a.2.2.2.2.2.2.2.1,(a.2.2.2.2.2.2.2.2.1,(a.2.2.2.2.2.2.2.2.2.1,(a.2.2.2.2.2.2.2.2.2.2.1,(a.2.2.2.2.2.2.2.2.2.2.2.1,(a.2.2.2.2.2.2.2.2.2.2.2.2.1,(y,(x,(w,(v,(u,(t,(r,(q,(n,(m,(l,(C,(a.2.2.2.2.2.2.2.2.2.2.2.2.2.2.2.2.2.2.2.2.2.2.2.2.2.1,(a.2.2.2.2.2.2.2.2.2.2.2.2.2.2.2.2.2.2.2.2.2.2.2.2.2.2.1,(a.2.2.2.2.2.2.2.2.2.2.2.2.2.2.2.2.2.2.2.2.2.2.2.2.2.2.2.1,(a.2.2.2.2.2.2.2.2.2.2.2.2.2.2.2.2.2.2.2.2.2.2.2.2.2.2.2.2.1,(F,(E,(D,((ap z [1]),()))))))))))))))))))))))))))))))))))) (some [(.agg [(.s .u8 C),(.i .i64 (zf k 3).i),(.i .i64 (zf k 3).h)]),(aT .guest (⟨F,y,x,E,D,⟨w,v,u⟩,t,⟨r,q,n,m⟩,l,z⟩:Guest))])))) (f.i,(f.h,(0,(0,(0,(0,(false,(0,(0,(0,(false,(0,(false,(e.A,(e.Pc,(e.Ctl.Traps,(e.Ctl.Post,(e.Ctl.Open,(e.Pending,(e.Exit.Kind,(e.Exit.Page,(e.Exit.Write,(e.Exit.N,(e.Halted,(c.b,([],([],([],([],(e.Prog,(e.Written,(e.Live,(e.Seen,())))))))))))))))))))))))))))))))))) (cond (ieq j 8) (oN (zfI d 4 8) (some [(.agg [(.s .u8 c.b),(.i .i64 g.i),(.i .i64 g.h)]),(aT .guest ({e with Written:=(zeM d 4 8)}:Guest))])) (some [(.agg [(.s .u8 c.b),(.i .i64 f.i),(.i .i64 f.h)]),(aT .guest e)]))))))))))))
def zZT:FuncId->Nat->Option Tmpl:=zq [(153,1,{n:=65,tm:=[(0,.lp 0 0),(2,.lp 1 0),(3,.lp 2 0)],lo:=[(0,[.sl 0 [],ti,ti]),(1,[.sl 1 [],ti,ti,.sl 2 [],.sl 3 [],ti,ti,.b,ti,ti,ti,.b,ti,.b,.sl 4 []]),(2,[.sl 5 [],ti,ti,.sl 6 [],.sl 7 [],ti,ti,.b,ti,ti,ti,.b,ti,.b,.sl 8 []])],ro:=[(0,.u8,false),(1,.ins,true),(2,.slot,true),(3,.slot,true),(4,.int,true),(5,.ins,true),(6,.slot,true),(7,.slot,true),(8,.int,true)]})]
def zsG (c:Cur)(s:Cur)(a:Guest):Prop:=(∃N,zBm N c=some (AV.agg (zbU s)::[aT .guest a]))/\(s.b=c.b/\0<=s.i)/\(GuS a)
def zqA (c:Cur)  : Bool:=wC (zsG c)
def zqB (c:Cur)  : Cur:=wS (zsG c)
def zCB (c:Cur)  : Guest:=wV (zsG c)
theorem zPK {c:Cur}(h:zqA c=true):zsG c (zqB c) (zCB c):=wG h
theorem z4O (c:Cur)  : 0<=(zqB c).i:=wP fun h=>h.2.1.2
theorem z4N (c:Cur)(h:∃N,Ends (wE (fun a=>aT .guest a) c.b fun a=>GuS a) (zBm N c)):zqA c=true:=wI (fun _ _ h=>h) h
def zDn:zdk:=rP0 fun c=>(zqA c,zqB c,[aT .guest (zCB c)])
theorem zRm:zbM Tryz.prog 153 [false,true,true] zDn:=hP0 zKO zU zMj zn zZT (fun _ h=>(zPK h).1)
theorem zNs {c:Cur}(h:zbd c):zqA c=true:=by
 refine z4N c ⟨1002,?_⟩;unfold zBm oN;conv=>zeta
 have q:∀{s:Cur},0<=s.i->zbd {s with b:=c.b}:=fun r=>zbL h r;have a:zbd {zf {zjB c with b:=c.b} 14 with b:=c.b}:=q (zF _ _);obtain⟨⟨d,e,f,g⟩,w⟩:=(zGU (zW4 h)).2.2;have p:(zeM {zf {zjB c with b:=c.b} 14 with b:=c.b} 4 8).length<=4:=by have:=((zqk (zpi a (n:=4) (by omega) (by omega) 8)).2.2 (by omega) (by omega)).1;unfold ln at this;omega
 have j:=(zA4 (zTm a)).2.2;refine zo (zW4 h) (zo (zbz (q (zZa _)) _) (zbC (fun _=>zo (zTm a) (zbB (aT .guest) (v:={zca c with Prog:=zqs _}) (zSw _) ⟨j,e,f,g⟩))
  (fun _=>zbC (fun _=>zo (zd2 a (by simp)) (zbB (aT .guest) (v:={zca c with A:=zbh _ _}) (zbO _ _) ⟨d,e,f,g⟩))
  (fun _=>zbC (fun _=>zo (zd2 a (by simp)) (zbB (aT .guest) (v:={zca c with Pc:=zbh _ _}) (zbO _ _) ⟨d,e,f,g⟩))
  (fun _=>zbC (fun _=>zo (zpi a (by omega) (by omega) _) (zbB (aT .guest) (v:={zca c with Live:=zeM _ _ _}) (zql _ _ _) ⟨d,e,p,g⟩))
  (fun _=>zbC (fun _=>zo (zWv a) (zbB (aT .guest) (v:={zca c with Ctl:=zwE _}) (z4H _) ⟨d,e,f,g⟩))
  (fun _=>zbC (fun _=>zo (zbeB a) (zbB (aT .guest) (v:={zca c with Pending:=zyx _}) (z1p _) ⟨d,e,f,g⟩))
  (fun _=>zbC (fun _=>zo (z5w a) (zbB (aT .guest) (v:={zca c with Exit:=zCA _}) (z4M _) ⟨d,e,f,g⟩))
  (fun _=>zbC (fun _=>?_)
  (fun _=>zbC (fun _=>zo (zpi a (by omega) (by omega) _) (zbB (aT .guest) (v:={zca c with Written:=zeM _ _ _}) (zql _ _ _) ⟨d,p,f,g⟩))
  (fun _=>zbB (aT .guest) (v:=zca c) (zF _ _) ⟨d,e,f,g⟩)))))))))))
 exact zbep h (zF _ _) (m:=39) (q:=3) (x:=1) (by omega) (by omega) (by omega) (l0:=(zca c).Seen) (by unfold ln;omega) ((fun _ t=>(t.1,t.2.1,0,0,0,0,false,0,0,0,false,0,false,(zca c).A,(zca c).Pc,(zca c).Ctl.Traps,(zca c).Ctl.Post,(zca c).Ctl.Open,(zca c).Pending,(zca c).Exit.Kind,(zca c).Exit.Page,(zca c).Exit.Write,(zca c).Exit.N,(zca c).Halted,c.b,[],[],[],[],(zca c).Prog,(zca c).Written,(zca c).Live,t.2.2,())):Nat->Int×Int×List Int->_)
  (fun rec i k l=>⟨_,rfl,fun u=>⟨⟨_,_,_⟩,_,rfl,⟨rfl,zF _ _⟩,⟨d,e,f,by unfold ln at u;dsimp only;omega⟩⟩⟩)
theorem zbdu (b:List Entry)(e:Entry)(h:b.length<=1048576):(zrj b e).length<=6:=by have c:=(zCk e h).2;unfold zrj;generalize ap (zcG b e.Tag e.Page) [e]=l at c;cases a:igt (ln l) 6 with|false=>have:¬ ln l>6:=jV a;rw[cF];unfold ln at this;omega|true=>rw[cT,zBf (by unfold ln;omega) (by unfold ln;omega)];have:ln l>6:=qE a;simp only[dp,vJ];unfold ln at *;omega
def ztJ (N:Nat)(c:Cur)  : OA :=
 (iter (σ:=(Int×(Int×(Int×(lE×((List Int)×Unit)))))) N (fun l d=>let e:=d.2.2.2.2.1;let j:=(⟨e,d.2.1,d.2.2.1⟩:Cur);let a:=({ (zf j 9) with b:=e}:Cur);let g:=({ (zO a 8) with b:=e}:Cur);let f:=({ (zgA g) with b:=e}:Cur);let k:=(ap d.2.2.2.1 [(znb g),(znb f)]); (oN (zA j 9) (cond (ilt d.1 (zk j 9)) (oN (zhL a) (oN (zmc d.2.2.2.1 (znb a)) (l ((zM .i64 d.1 1),((zgA a).i,((zgA a).h,((zm5 d.2.2.2.1 (znb a)),(e,())))))))) (oN (zcI a 8) (cond (zcT a 8) (oN (zhL g) (oN (zhL f) (oN (few (ln k)) (some [(.agg [(.s .u8 e),(.i .i64 (zgA f).i),(.i .i64 (zgA f).h)]),(aS .entry k)])))) (some [(.agg [(.s .u8 e),(.i .i64 (zO a 8).i),(.i .i64 (zO a 8).h)]),(aS .entry d.2.2.2.1)])))))) (0,(c.i,(c.h,([],(c.b,()))))))
def zQf:FuncId->Nat->Option Tmpl:=zq [(154,0,{n:=26,tm:=[(0,.lp 0 0),(3,.sl 0 []),(4,ti)],lo:=[(0,[.sl 1 [],ti,ti])],ro:=[(0,.entry,true),(1,.u8,false)]})]
def zna (c:Cur)(s:Cur)(a:List Entry):Prop:=(∃N,ztJ N c=some (AV.agg (zbU s)::[aS .entry a]))/\(s.b=c.b/\0<=s.i)/\(a.length<=8)
def zkE (c:Cur)  : Bool:=wC (zna c)
def zkF (c:Cur)  : Cur:=wS (zna c)
def zsz (c:Cur)  : List Entry:=wV (zna c)
theorem zD5 {c:Cur}(h:zkE c=true):zna c (zkF c) (zsz c):=wG h
theorem zVJ (c:Cur)  : 0<=(zkF c).i:=wP fun h=>h.2.1.2
theorem zVI (c:Cur)(h:∃N,Ends (wE (fun a=>aS .entry a) c.b fun a=>a.length<=8) (ztJ N c)):zkE c=true:=wI (fun _ _ h=>h) h
def zwa:zdk:=rP0 fun c=>(zkE c,zkF c,[aS .entry (zsz c)])
theorem zIl:zbM Tryz.prog 154 [false,true,true] zwa:=hP0 zKO zU zMj zn zQf (fun _ h=>(zD5 h).1)
theorem zWD {c:Cur}(h:zbd c):zkE c=true:=by
 refine zVI c ⟨1002,?_⟩;unfold ztJ oN;conv=>zeta
 refine zns (fun n s=>∃t i k l,s=(((fun _ t=>(t.1,t.2.1,t.2.2.1,t.2.2.2,c.b,())):Nat->Int×Int×Int×List Entry->_) 0 (t,i,k,l))/\t+(n:Int)=10/\0<=t/\0<=i/\l.length<=6) ?_ 1002 10 _ ⟨0,c.i,c.h,[],rfl,rfl,kS 0,h.1,by simp⟩ (by omega);rintro n s rec ⟨t,i,k,l,rfl,p,g,j,r⟩ d;dsimp only;have a:zbd ⟨c.b,i,k⟩:=zbL h j;have v:=zfZ a (n:=9) (by omega);have q:∀{s:Cur},0<=s.i->zbd {s with b:=c.b}:=fun f=>zbL h f;refine zo (zbz a 9) (zbC (fun e=>?_) (fun e=>?_));{have m:t<zk ⟨c.b,i,k⟩ 9:=qE e;have u:=zhv (y:=1) g (by omega) (by omega) (by omega);exact zo (zQu (q (zF _ _))) (zo (zY (by omega)) (d (n-1) _ (by omega) ⟨zM .i64 t 1,_,_,_,rfl,by omega,by omega,zwD _,zbdu _ _ (by omega)⟩))};{refine zo (zio (q (zF _ _)) 8) (zbC (fun _=>zo (zQu (q (zb7 _ _))) (zo (zQu (q (zwD _))) (zo (zlL ?_) (zbB (aS .entry) (zwD _) ?_)))) (fun _=>zbB (aS .entry) (zb7 _ _) (by omega)));{simp only [ln,ap,kD,q0,uK];omega};{simp only [ap,kD,q0,uK];omega}}
def zbb6:zcL:=[(153,([false,true,true],zDn)),(154,([false,true,true],zwa))]++zbb5
theorem zYO:zb8 zbb6:=zcr zMj (by
 intro x a;simp only[qG,qN,or_false]at a;rcases a with rfl|rfl
 .exact zRm
 .exact zIl)
def zNt (b:Bare)(a:GAct):Bare:=bif ieq a.Kind 1 then ziO b a.G else (cond (ieq a.Kind 2) (chg b a.G (znn a.X ⟨a.Y,a.Z⟩) (zrF (gAt b a.G) a.X ⟨a.Y,a.Z⟩)) (cond (ieq a.Kind 3) (chg b a.G (hasB a.X 4) (zdP (gAt b a.G) a.X)) (cond (ieq a.Kind 4) (chg b a.G (znk (gAt b a.G) a.X) (zqT (gAt b a.G) a.X)) (cond (ieq a.Kind 5) (chg b a.G (zpJ (gAt b a.G)) (zrn (gAt b a.G))) (cond (ieq a.Kind 6) (chg b a.G (zeq (gAt b a.G).Pending a.X) (zk9 (gAt b a.G) a.X)) (cond (ieq a.Kind 7) (chg b a.G (zgE ⟨a.X,a.Y,ieq a.Z 1⟩) (zyY (gAt b a.G) ⟨a.X,a.Y,ieq a.Z 1⟩)) (cond (ieq a.Kind 8) (zWa b a.X a.Y a.Z) (cond (ieq a.Kind 9) (zj8 b a.X) (cond (ieq a.Kind 10) (zni b) (cond (ieq a.Kind 11) (z3w b a.G a.X a.Y) (b)))))))))))
def zNu (b:Bare)(a:GAct):Told:=bif ieq a.Kind 1 then ⟨zmv b a.G,0⟩ else (cond (ieq a.Kind 2) ⟨zbE b a.G (znn a.X ⟨a.Y,a.Z⟩),0⟩ (cond (ieq a.Kind 3) ⟨zbE b a.G (hasB a.X 4),0⟩ (cond (ieq a.Kind 4) ⟨zbE b a.G (znk (gAt b a.G) a.X),0⟩ (cond (ieq a.Kind 5) ⟨zbE b a.G (zpJ (gAt b a.G)),0⟩ (cond (ieq a.Kind 6) ⟨zbE b a.G (zeq (gAt b a.G).Pending a.X),0⟩ (cond (ieq a.Kind 7) ⟨zbE b a.G (zgE ⟨a.X,a.Y,ieq a.Z 1⟩),0⟩ (cond (ieq a.Kind 8) ⟨zAi b a.X a.Y a.Z,0⟩ (cond (ieq a.Kind 9) ⟨ze6 b a.X,0⟩ (cond (ieq a.Kind 10) ⟨zms b,ztN b⟩ (cond (ieq a.Kind 11) ⟨zBF b a.G a.X a.Y,0⟩ (⟨zpn b a.G a.X 1,zWe b a.G a.X⟩)))))))))))
def zNv (l:List Bare)(a:GAct):List Bare:=bif win a.Kind 1 17 then (cond (win a.Kind 13 17) l (cond (hasB a.M (ln l)) (up l a.M (zNt (ix l a.M zZ5) a)) l)) else l
def z2W (l:List Bare)(a:GAct):Told:=bif win a.Kind 1 17 then (cond (win a.Kind 13 17) ⟨false,0⟩ (cond (hasB a.M (ln l)) (zNu (ix l a.M zZ5) a) (cond (ieq a.Kind 10) ⟨false,-1⟩ ⟨false,0⟩))) else ⟨false,0⟩
theorem zG {i n:Int}:hasB i n=true↔0<=i/\i<n:=by unfold hasB;exact decide_eq_true_iff
theorem zcJ {x a b:Int}:win x a b=true↔a<=x/\x<=b:=by simp[win,ige,ile]
theorem zbs {x y:Int}:ieq x y=true↔x=y:=by simp[ieq]
theorem zHx {x y:Int}:ine x y=true↔x≠y:=by simp[ine]
theorem zbZ {x y:Int}:ieq x y=false↔x≠y:=by simp[ieq]
theorem zce {a b:Bool}:(cond a b false)=true↔a=true/\b=true:=by cases a<;>simp
theorem zbQ {a:Type}(l:List a)(i:Int)(x:a):(up l i x).length=l.length:=by simp[up]
theorem zdI {a:Type}(l:List a)(i:Int)(x:a):ln (up l i x)=ln l:=by simp[up,ln]
theorem zB2 {a:Type}{l:List a}{i:Int}(h:hasB i (ln l)=true)(d:a):∃k:Nat,∃b:k<l.length,i=(k:Int)/\ix l i d=l[k]:=by rw[zG]at h;unfold ln at h;refine⟨i.toNat,by omega,by omega,?_⟩;simp[ix,List.getD,qB (show i.toNat<l.length by omega)]
theorem znz {a:Type}{l:List a}{k:Nat}(h:k<l.length)(d:a):ix l (k:Int) d=l[k]:=by simp[ix,List.getD,qB h]
theorem zmL {a:Type}{l:List a}{i:Int}(h:hasB i (ln l)=true)(d:a):ix l i d∈l:=by obtain⟨k,b,_,e⟩:=zB2 h d;rw[e];exact jL b
theorem zYt {a:Type}{l:List a}{x:a}(h:x∈l)(d:a):∃i,hasB i (ln l)=true/\ix l i d=x:=by obtain⟨k,b,e⟩:=List.mem_iff_getElem.1 h;exact⟨(k:Int),zG.2 (by unfold ln;omega),(znz b d).trans e⟩
theorem zbg {a:Type}{l:List a}{i:Int}(h:hasB i (ln l)=true)(x d:a):ix (up l i x) i d=x:=by rw[zG]at h;unfold ln at h;simp[ix,up,List.getD,show i.toNat<l.length by omega]
theorem zbt {a:Type}{l:List a}{i j:Int}(b:0<=i)(c:0<=j)(h:i≠j)(x d:a):ix (up l i x) j d=ix l j d:=by have:i.toNat≠j.toNat:=(by omega);simp[ix,up,List.getD,q9,this]
theorem z8l {a:Type}(l:List a)(i:Int)(x y:a):up (up l i x) i y=up l i y:=by simp[up]
theorem zR8 {a:Type}{l m:List a}(d:a)(h:l.length=m.length)(e:∀i,hasB i (ln l)=true->ix l i d=ix m i d):l=m:=by refine List.ext_getElem h fun k b c=>?_;have:=e (k:Int) (zG.2 (by unfold ln;omega));rwa [znz b,znz c] at this
theorem zMD {a:Type}{l:List a}{i:Int}(h:hasB i (ln l)=true)(d:a):up l i (ix l i d)=l:=by obtain⟨k,b,rfl,e⟩:=zB2 h d;rw[e];simp[up]
def cPg (x:Mon)(q:Int):Nat:=x.Outer.countP fun s=>ieq s.Page q
def zfh (l:List Mon)(q:Int):Nat:=(l.map fun x=>cPg x q).sum
theorem zTr {a:Type}(P:a->Bool){l:List a}{i:Int}(h:hasB i (ln l)=true)(x d:a):(up l i x).countP P+(if P (ix l i d) then 1 else 0)=l.countP P+(if P x then 1 else 0):=by
 obtain⟨k,b,rfl,e⟩:=zB2 h d;rw[e];simp only[up,kH,List.countP_set b];have:(if P l[k]=true then 1 else 0)<=l.countP P:=by
  split
  .rename_i hp;exact List.countP_pos_iff.2 ⟨l[k],jL b,hp⟩
  .omega
 omega
theorem zA8 {l:List Mon}{m:Int}(h:hasB m (ln l)=true)(x:Mon)(q:Int):zfh (up l m x) q+cPg (ix l m mZ) q=zfh l q+cPg x q:=by obtain⟨k,a,rfl,e⟩:=zB2 h mZ;rw[e];clear h e;unfold up;simp only[kH];induction l generalizing k with|nil=>simp at a|cons y l b=>(cases k with|zero=>simp[zfh];omega|succ k=>have:=b k (by simpa using a);simp[zfh] at this ⊢;omega)
theorem zKG {l:List Mon}{m p:Int}(a:hasB m (ln l)=true)(b:hasB p (ln (ix l m mZ).Outer)=true):1<=zfh l (ix (ix l m mZ).Outer p sZ).Page:=by have d:1<=cPg (ix l m mZ) (ix (ix l m mZ).Outer p sZ).Page:=List.countP_pos_iff.2 ⟨_,zmL b sZ,by simp[ieq]⟩;have:=zA8 a (⟨[],[],[],[],[],0,0,[],0⟩:Mon) (ix (ix l m mZ).Outer p sZ).Page;have c:cPg (⟨[],[],[],[],[],0,0,[],0⟩:Mon) (ix (ix l m mZ).Outer p sZ).Page=0:=rfl;omega
theorem z8x {l:List Mon}{m p n k:Int}{q:Int}(b:hasB m (ln l)=true)(v:hasB p (ln (ix l m mZ).Outer)=true)(u:hasB n (ln l)=true)(f:hasB k (ln (ix l n mZ).Outer)=true)(z:(ix (ix l m mZ).Outer p sZ).Page=q)(t:(ix (ix l n mZ).Outer k sZ).Page=q)(h:zfh l q<=1):m=n/\p=k:=by have c:=zG.1 b;have d:=zG.1 u;have i:=zG.1 v;have g:=zG.1 f;have B:¬ ieq q (q+1)=true:=(by simp[ieq];omega);obtain⟨y,r⟩:∃y:Mon,y.Outer=up (ix l m mZ).Outer p ⟨q+1,0⟩:=⟨{ix l m mZ with Outer:=up (ix l m mZ).Outer p ⟨q+1,0⟩},rfl⟩;have x:=zTr (fun s=>ieq s.Page q) v (⟨q+1,0⟩:Slot) sZ;simp only[z,show ieq q q=true by simp[ieq],show ieq (q+1) q=false by simp[ieq];omega,if_true,kE,if_false] at x;have C:=zA8 b y q;simp only[cPg,r] at C;have D:zfh (up l m y) q=0:=(by omega);apply Classical.byContradiction;intro A;have w:1<=zfh (up l m y) q:=(by by_cases a:m=n;{subst a;have j:p≠k:=fun e=>A ⟨rfl,e⟩;have:=zKG (l:=up l m y) (m:=m) (p:=k) (by rw[zdI];exact b) (by rw[zbg b,r,zdI];exact f);rw[zbg b,r,zbt i.1 g.1 j,t] at this;exact this};{have:=zKG (l:=up l m y) (m:=n) (p:=k) (by rw[zdI];exact u) (by rw[zbt c.1 d.1 a];exact f);rw[zbt c.1 d.1 a,t] at this;exact this});omega
theorem zvB {a b c:Bool}:(cond a b c)=true↔(a=true/\b=true)\/(a=false/\c=true):=by cases a<;>simp
def SOk (s:Slot):Prop:=s=noSlot\/(0<=s.Page/\s.Page<=11/\1<=s.Rights/\s.Rights<=3)
theorem zZi {a b:Slot}(c:a.Page=b.Page)(d:a.Rights=b.Rights):a=b:=by cases a;cases b;simp_all
theorem zqI {a b:Slot}:zcW a b=true↔a=b:=by simp only[zcW,qD,zbs];exact⟨fun h=>zZi h.1 h.2,fun h=>by rw[h];exact⟨rfl,rfl⟩⟩
theorem ztF {a b:Slot}:zcW a b=false↔a≠b:=by rw[<- Bool.not_eq_true,zqI]
theorem z2w {s:Slot}:zdD s 12=true↔SOk s:=by unfold zdD SOk;rw[zvB,zqI,ztF];have:wsub .i64 12 1=11:=(by decide);simp only[this,zvB,zcJ];simp[igt];constructor;{rintro (h|⟨h,⟨a,b⟩,c⟩);{exact .inl h};{exact .inr ⟨a,b,c⟩}};{intro h;by_cases d:s=noSlot;{exact .inl d};{rcases h with h|⟨a,b,c⟩;{exact .inl h};{exact .inr ⟨d,⟨a,b⟩,c⟩}}}
theorem SOk.none {s:Slot}(h:SOk s)(a:s.Page = -1):s=noSlot:=by rcases h with h|h;{exact h};{omega}
theorem SOk.pos {s:Slot}(h:SOk s)(a:s.Page≠-1):0<=s.Page/\s.Page<=11/\1<=s.Rights/\s.Rights<=3:=by rcases h with h|h;{rw [h]at a;exact absurd rfl a};{exact h}
structure MOk (x:Mon):Prop where
 g1:1<=x.Guests.length
 g2:x.Guests.length<=2
 gt:x.Tables.length=x.Guests.length
 o8:x.Outer.length=8
 sl:∀s∈x.Outer,SOk s
 u8:x.Out.length=8
 d8:x.Dirty.length=8
 outs:x.Outs.length<=40
 pend:zc5 x.Pending=true
 tr:win x.Traps 0 3=true
 own:win x.Own 0 1000000000=true
 gs:∀g∈x.Guests,zc3 g=true
 fit:∀p,hasB p 8=true->zmQ (ix x.Outer p sZ) (ix x.Out p [])=true
theorem zWu {P:Nat->Bool}:∀{n i:Nat},zph P n i=true↔∀j,i<=j->j<i+n->P j=true
 | 0,i=>by simp[zph];intro j a b;omega
 |n+1,i=>by rw[zph,qD,zWu];constructor;{rintro⟨a,b⟩ j c d;by_cases e:j=i;{rw [e];exact a};{exact b j (by omega) (by omega)}};{intro h;exact⟨h i (by omega) (by omega),fun j a b=>h j (by omega) (by omega)⟩}
theorem zsM {t:List Slot}{n p:Int}:zcS t n p=true↔(∀s∈t,zdD s p=true)/\ln t=n:=by unfold zcS;rw[zce,qL,zbs]
theorem zbdf {x:Mon}:zd3 x=true↔MOk x:=by unfold zd3;simp only[zce,zcJ,zbs,zsM,zWu,qL,ile,qX];constructor;{rintro⟨⟨g,i⟩,m,⟨k,l⟩,n,q,r,e,a,b,c,d⟩;unfold ln at *;refine⟨by omega,by omega,by omega,by omega,fun s f=>z2w.1 (k s f),by omega,by omega,by omega,e,zcJ.2 a,zcJ.2 b,c,fun p t=>?_⟩;have u:=zG.1 t;have:=d p.toNat (by omega) (by omega);unfold fits at this;rwa [show ((p.toNat:Nat):Int)=p by omega] at this};{intro h;obtain⟨g,i,m,k,l,n,q,r,e,a,b,c,d⟩:=h;unfold ln;exact⟨⟨by omega,by omega⟩,by omega,⟨fun s f=>z2w.2 (l s f),by omega⟩,by omega,by omega,by omega,e,zcJ.1 a,zcJ.1 b,c,fun j g i=>d (j:Int) (zG.2 (by omega))⟩}
theorem zBw (o:List Slot)(s:Slot)(q:Int):(s::o).countP (fun s=>ieq s.Page q)=o.countP (fun s=>ieq s.Page q)+if s.Page=q then 1 else 0:=by rw[vF];simp[ieq]
theorem zCQ:∀{o:List Slot} {u:List Bool},(∀s∈o,s.Page<u.length)->
 (∀c,zgY o u=some c↔(∀q,0<=q->o.countP (fun s=>ieq s.Page q)+(if ix u q false then 1 else 0)<=1)/\
  c=(o.foldl (fun u s=>bif ilt s.Page 0 then u else up u s.Page true) u))
 |[],u,h,c=>by simp[zgY];exact⟨fun h=>⟨fun q _=>by split<;>omega,h.symm⟩,fun h=>h.2.symm⟩
 |s::o,u,h,c=>by
  unfold zgY;by_cases g:s.Page<0;{have b:ilt s.Page 0=true:=qJ g;rw[b,cond_true,zCQ (fun y d=>h y (qZ _ d))];simp only[uL,b,cond_true];refine and_congr (forall_congr' fun q=>forall_congr' fun f=>?_) Iff.rfl;have e:(if s.Page=q then 1 else 0)=0:=if_neg (by omega);rw[zBw,e,jY]};{have b:ilt s.Page 0=false:=qM g;have k:=h s jC;have j:hasB s.Page (ln u)=true:=zG.2 ⟨by omega,by unfold ln;omega⟩;rw[b,cond_false];cases i:ix u s.Page false with|true=>rw[cond_true];constructor;{intro h;cases h};{rintro⟨h,_⟩;have:=h s.Page (by omega);rw[zBw,if_pos rfl,i] at this;simp at this}|false=>rw[cond_false,zCQ (fun y d=>by rw[zbQ];exact h y (qZ _ d))];simp only[uL,b,cond_false];refine and_congr (forall_congr' fun q=>forall_congr' fun f=>?_) Iff.rfl;rw[zBw];by_cases a:s.Page=q;{subst a;rw[zbg j,i];simp};{rw [zbt (by omega) f a,if_neg a,jY]}}
theorem zME:∀(o:List Slot) (u:List Bool),(o.foldl (fun u s=>bif ilt s.Page 0 then u else up u s.Page true) u).length=u.length
 |[],u=>rfl
 |s::o,u=>by rw[uL,zME];cases ilt s.Page 0<;>simp [zbQ]
theorem zSU:∀(o:List Slot) (u:List Bool) (q:Int),0<=q->(∀s∈o,s.Page<u.length)->(ix (o.foldl (fun u s=>bif ilt s.Page 0 then u else up u s.Page true) u) q false=true↔ix u q false=true\/1<=o.countP (fun s=>ieq s.Page q))
 |[],u,q,b,h=>by simp
 |s::o,u,q,b,h=>by
  rw[uL,zSU _ _ q b (fun y f=>by have:=h y (qZ _ f);cases ilt s.Page 0<;>simpa [zbQ] using this),zBw];by_cases c:s.Page<0;{rw [show ilt s.Page 0=true from qJ c,cond_true,if_neg (by omega),jY]};{rw [show ilt s.Page 0=false from qM c,cond_false];have e:=h s jC;have d:hasB s.Page (ln u)=true:=zG.2 ⟨by omega,by unfold ln;omega⟩;by_cases a:s.Page=q;{subst a;rw[zbg d];simp};{rw [zbt (by omega) b a,if_neg a,jY]}}
theorem zBR:∀{l:List Mon} {u:List Bool},u.length=12->(zjh l u=true↔(∀x∈l,MOk x)/\∀q,0<=q->zfh l q+(if l≠[]/\ix u q false then 1 else 0)<=1)
 |[],u,c=>by simp[zjh,zfh]
 |x::l,u,c=>by
  unfold zjh;rw[zce,zbdf];constructor;{rintro⟨f,b⟩;have k:∀s∈x.Outer,s.Page<u.length:=fun s n=>(by rcases f.sl s n with h|h;{rw [h,c];decide};{rw [c];omega});split at b;{rename_i B d;obtain⟨g,rfl⟩:=(zCQ k B).1 d;rw[zBR (by rw[zME,c])]at b;obtain⟨v,w⟩:=b;refine⟨by simpa using ⟨f,v⟩,fun q a=>?_⟩;have z:=g q a;have i:=w q a;have m:=zSU x.Outer u q a k;simp only[zfh,jD,uJ]at i ⊢;unfold cPg at i ⊢;simp only[ne_eq,reduceCtorEq,not_false_eq_true,true_and];by_cases r:l=[];{subst r;simpa using z};{simp only [r,ne_eq,not_false_eq_true,true_and]at i;by_cases j:ix (x.Outer.foldl (fun u s=>bif ilt s.Page 0 then u else up u s.Page true) u) q false=true;{rw [if_pos j]at i;omega};{rw [if_neg j]at i;have p:¬ (ix u q false=true\/1<=x.Outer.countP (fun s=>ieq s.Page q)):=fun e=>j (m.2 e);rw[not_or]at p;rw[if_neg p.1];omega}}};{cases b}}
  .rintro⟨f,b⟩;have t:MOk x:=f x jC;refine⟨t,?_⟩;have k:∀s∈x.Outer,s.Page<u.length:=fun s n=>by rcases t.sl s n with h|h;{rw [h,c];decide};{rw [c];omega}
   have d:=(zCQ k _).2 ⟨fun q a=>by
    have:=b q a;simp only[zfh,jD,uJ,ne_eq,reduceCtorEq,not_false_eq_true,true_and] at this;unfold cPg at this;omega,rfl⟩
   rw[d];simp only;rw[zBR (by rw[zME,c])];refine⟨fun y A=>f y (qZ _ A),fun q a=>?_⟩;have g:=b q a;have m:=zSU x.Outer u q a k;simp only[zfh,jD,uJ,ne_eq,reduceCtorEq,not_false_eq_true,true_and]at g ⊢;unfold cPg at g ⊢;split;{rename_i j;rcases m.1 j.2 with h|h;{rw [if_pos h]at g;omega};{omega}};{omega}
structure HOk (h:Host):Prop where
 m12:h.Memory.length=12
 pgs:∀c∈h.Memory,zcn c=true
 n1:1<=h.Mons.length
 n3:h.Mons.length<=3
 b1:zff h.Buffer=true
 b2:zff h.IoBuffer=true
 mons:∀x∈h.Mons,MOk x
 uq:∀q,0<=q->zfh h.Mons q<=1
theorem zkN {h:Host}:zb1 h=true↔HOk h:=by unfold zb1 zhP;simp only[zce,zcJ,zbs,qL];rw[zBR (by simp[rp])];have g:∀q,ix (rp 12 false) q false=false:=fun q=>(by unfold ix rp;rw[kB,kG];split<;>rfl);simp only[g,kE,and_false,if_false,jY];unfold ln;constructor;{rintro⟨⟨e,f⟩,⟨i,j⟩,a,b,c,d⟩;exact⟨by omega,e,by omega,by omega,a,b,c,d⟩};{rintro⟨e,f,i,j,a,b,c,d⟩;exact⟨⟨f,by omega⟩,⟨by omega,by omega⟩,a,b,c,d⟩}
theorem HOk.mon {h:Host}(H:HOk h){m:Int}(a:hasB m (ln h.Mons)=true):MOk (ix h.Mons m mZ):=H.mons _ (zmL a _)
theorem MOk.hasO {x:Mon}(H:MOk x){p:Int}(a:hasB p 8=true):hasB p (ln x.Outer)=true:=by rw[ln,H.o8];exact a
theorem MOk.hasU {x:Mon}(H:MOk x){p:Int}(a:hasB p 8=true):hasB p (ln x.Out)=true:=by rw[ln,H.u8];exact a
theorem MOk.hasD {x:Mon}(H:MOk x){p:Int}(a:hasB p 8=true):hasB p (ln x.Dirty)=true:=by rw[ln,H.d8];exact a
theorem MOk.slot {x:Mon}(H:MOk x){p:Int}(a:hasB p 8=true):SOk (ix x.Outer p sZ):=H.sl _ (zmL (H.hasO a) _)
theorem HOk.uniq {h:Host}(H:HOk h){m p n k q:Int}(a:hasB m (ln h.Mons)=true)(f:hasB p 8=true)(b:hasB n (ln h.Mons)=true)(e:hasB k 8=true)(c:(ix (ix h.Mons m mZ).Outer p sZ).Page=q)(d:(ix (ix h.Mons n mZ).Outer k sZ).Page=q)(g:0<=q):m=n/\p=k :=
 z8x a ((H.mon a).hasO f) b ((H.mon b).hasO e) c d (H.uq q g)
theorem HOk.up {h:Host}(H:HOk h){m:Int}(k:hasB m (ln h.Mons)=true){x:Mon}(l:MOk x){a:Host}(e:a.Mons=up h.Mons m x)(d:a.Memory.length=12)(f:∀c∈a.Memory,zcn c=true)(i:zff a.Buffer=true)(j:zff a.IoBuffer=true)(n:∀q,0<=q->cPg x q<=cPg (ix h.Mons m mZ) q\/zfh h.Mons q=0/\cPg x q<=1):HOk a:=by refine⟨d,f,by rw[e,zbQ];exact H.n1,by rw[e,zbQ];exact H.n3,i,j,fun y b=>?_,fun q g=>?_⟩;{rw [e]at b;unfold E.up at b;rcases qY b with h|h;{exact H.mons y h};{rw [h];exact l}};{rw [e];have p:=zA8 k x q;have r:=H.uq q g;have s:=n q g;omega}
structure KOk (k:Kept) (inner outer:List Slot):Prop where
 l1:k.Known.length=inner.length
 l2:k.Slots.length=inner.length
 at':∀i,hasB i (ln inner)=true->ix k.Slots i sZ=bif ix k.Known i false then zbx (ix inner i sZ) outer else noSlot
def TOk (x:Mon):Prop:=∀g,hasB g (ln x.Guests)=true->KOk (ix x.Tables g kZ) (ix x.Guests g gZ).Live x.Outer
structure Rt (h:Host):Prop where
 t:∀m,hasB m (ln h.Mons)=true->TOk (ix h.Mons m mZ)
 e1:∀e∈h.Buffer,zcY h e=true
 e2:∀e∈h.IoBuffer,zcY h e=true
structure Safe (h:Host):Prop where
 ok:HOk h
 rt:Rt h
theorem zsR {a b:Slot}:below' a b=true↔a=noSlot\/(a.Page=b.Page/\enough b.Rights a.Rights=true):=by unfold below';rw[zvB,zqI,ztF,zce,zbs];by_cases h:a=noSlot<;>simp [h]
theorem z8m (x:Int):wand .i64 0 x=0:=by unfold wand;have:(BitVec.ofInt 64 0 &&& BitVec.ofInt 64 x)=0#64:=(by rw[show BitVec.ofInt 64 0=0#64 from rfl,BitVec.zero_and]);show IntKind.wrap .i64 ((BitVec.ofInt 64 0 &&& BitVec.ofInt 64 x).toNat:Int)=0;rw[this];rfl
theorem z8w {a:Slot}(h:below' a noSlot=true):a=noSlot:=by rcases zsR.1 h with h|⟨c,b⟩;{exact h};{refine zZi c ?_;unfold enough at b;rw[show noSlot.Rights=0 from rfl,z8m]at b;simp only[zce,zbs]at b;exact b.2.2.symm}
theorem zfS {h:Host}{e:Entry}:zcY h e=true↔hasB (zdp e.Tag) (ln h.Mons)=true/\hasB (zeb e.Tag) (ln (ix h.Mons (zdp e.Tag) mZ).Guests)=true/\
 below' ⟨e.Host,e.Rights⟩ (zbx (zbu (ix (ix h.Mons (zdp e.Tag) mZ).Guests (zeb e.Tag) gZ).Live e.Page) (ix h.Mons (zdp e.Tag) mZ).Outer)=true:=by
 unfold zcY;rw[zce,zce]
theorem zUf {o:List Slot}{p q:Int}{s:Slot}(a:0<=p)(h:q≠p):zbu (up o p s) q=zbu o q:=by unfold zbu;rw[zdI];cases b:hasB q (ln o) with|false=>rfl|true=>rw[cond_true,cond_true,zbt a (zG.1 b).1 (Ne.symm h)]
theorem zNF {s:Slot}{o:List Slot}{p:Int}{t:Slot}(a:0<=p)(h:s.Page≠p):zbx s (up o p t)=zbx s o:=by unfold zbx;rw[zUf a h]
theorem z3c {s:Slot}{o:List Slot}:zbx s o=noSlot\/(zbx s o).Page=(zbu o s.Page).Page:=by unfold zbx;cases ieq s.Page (-1)<;>cases ieq (zbu o s.Page).Page (-1)<;>cases ieq (zd0 s.Rights (zbu o s.Page).Rights) 0<;>simp
theorem zlN (k:Kept)(q:Int):(zbX k q).Known.length=k.Known.length/\(zbX k q).Slots.length=k.Slots.length:=by unfold zbX;cases zdC k q<;>simp [zbQ]
theorem zDe:∀(l:List Int) (k:Kept),(zeu k l).Known.length=k.Known.length/\(zeu k l).Slots.length=k.Slots.length
 |[],k=>⟨rfl,rfl⟩
 |q::l,k=>by have a:=zDe l (zbX k q);have b:=zlN k q;exact⟨a.1.trans b.1,a.2.trans b.2⟩
theorem zyZ {k:Kept}{q i:Int}(d:k.Known.length=k.Slots.length)(b:hasB i (ln k.Known)=true) :
 ix (zbX k q).Known i false=(cond (ieq q i) false (ix k.Known i false))/\ix (zbX k q).Slots i sZ=(cond (ieq q i) noSlot (ix k.Slots i sZ)):=by
 have c:hasB i (ln k.Slots)=true:=by unfold ln at b ⊢;rwa [<- d]
 unfold zbX zdC
 by_cases e:q=i
 .subst e;simp only[b,c,cond_true,ieq,beq_self_eq_true];exact⟨zbg b _ _,zbg c _ _⟩
 .rw [show ieq q i=false from zbZ.2 e]
  by_cases a:hasB q (ln k.Known)=true
  .have hq':hasB q (ln k.Slots)=true:=by unfold ln at a ⊢;rwa [<- d]
   simp only[a,hq',cond_true,cond_false];exact⟨zbt (zG.1 a).1 (zG.1 b).1 e _ _,zbt (zG.1 a).1 (zG.1 b).1 e _ _⟩
  .rw [Bool.not_eq_true]at a;simp[a]
theorem zFk:∀(l:List Int) {k:Kept} {i:Int},k.Known.length=k.Slots.length->hasB i (ln k.Known)=true->
 (i∈l->ix (zeu k l).Known i false=false/\ix (zeu k l).Slots i sZ=noSlot)/\
 (i∉l->ix (zeu k l).Known i false=ix k.Known i false/\ix (zeu k l).Slots i sZ=ix k.Slots i sZ)
 |[],k,i,d,c=>⟨fun h=>by simp at h,fun _=>⟨rfl,rfl⟩⟩
 |q::l,k,i,d,c=>by have b:=zlN k q;have g:=zyZ (q:=q) d c;have f:=zFk l (k:=zbX k q) (i:=i) (by rw[b.1,b.2,d]) (by unfold ln at c ⊢;rwa [b.1]);show (_->ix (zeu (zbX k q) l).Known i false=_/\ix (zeu (zbX k q) l).Slots i sZ=_)/\(_->ix (zeu (zbX k q) l).Known i false=_/\ix (zeu (zbX k q) l).Slots i sZ=_);by_cases a:i∈l;{refine⟨fun _=>f.1 a,fun h=>absurd (qZ _ a) h⟩};{rw [(f.2 a).1,(f.2 a).2,g.1,g.2];by_cases e:q=i;{subst e;simp[ieq]};{rw [zbZ.2 e];simp[a,Ne.symm e]}}
theorem zLL {e:Type}{P:e->Bool}{d:e}:∀{l:List e} {n:Nat} {i:Int},i∈idxs P l n↔∃k:Nat,∃h:k<l.length,i=((n+k:Nat):Int)/\P l[k]=true
 |[],n,i=>by simp[idxs]
 |x::l,n,i=>by
  have g:=@zLL e P d l (n+1) i;unfold idxs;constructor
  .intro h;cases f:P x with
   |true=>rw[f,cond_true,qG]at h;rcases h with h|h;{exact⟨0,by simp,by simpa using h,f⟩};{obtain⟨k,c,b,a⟩:=g.1 h;exact⟨k+1,by simpa using c,by rw[b];congr 1;omega,by simpa using a⟩}
   |false=>rw[f,cond_false]at h;obtain⟨k,c,b,a⟩:=g.1 h;exact⟨k+1,by simpa using c,by rw[b];congr 1;omega,by simpa using a⟩
  {rintro⟨k,c,b,a⟩;cases k with|zero=>simp only[List.getElem_cons_zero]at a;rw[a,cond_true,b];exact jC|succ k=>have:=g.2 ⟨k,by simpa using c,by rw[b];congr 1;omega,by simpa using a⟩;cases P x;{exact this};{exact qZ _ this}}
theorem zZ3 {l:List Slot}{p i:Int}:i∈zHb l p↔hasB i (ln l)=true/\(ix l i sZ).Page=p:=by unfold zHb;rw[zLL (d:=sZ)];constructor;{rintro⟨k,a,rfl,c⟩;rw[j6,znz a];exact⟨zG.2 (by unfold ln;omega),zbs.1 c⟩};{rintro⟨a,b⟩;obtain⟨k,f,rfl,e⟩:=zB2 a sZ;exact⟨k,f,by simp,by rw[e]at b;exact zbs.2 b⟩}
theorem z3S {k:Kept}{a b:List Slot}(h:KOk k a b){p:Int}(j:0<=p)(s:Slot):KOk (zid k a p) a (up b p s):=by have g:=zDe (zHb a p) k;refine⟨g.1.trans h.l1,g.2.trans h.l2,fun i d=>?_⟩;have e:hasB i (ln k.Known)=true:=(by unfold ln at d ⊢;rwa [h.l1]);have f:=zFk (zHb a p) (by rw[h.l1,h.l2]) e;unfold zid;by_cases c:(ix a i sZ).Page=p;{have:=f.1 (zZ3.2 ⟨d,c⟩);rw[this.1,this.2];rfl};{have:=f.2 (fun h=>c (zZ3.1 h).2);rw[this.1,this.2,h.at' i d,zNF j c]}
theorem zG5 (b:List Guest)(p:Int):∀(n:Nat) (a:List Kept),(zmq b p n a).length=a.length
 | 0,a=>rfl
 |n+1,a=>by rw[zmq,zbQ,zG5 b p n]
theorem zSC (b:List Guest)(p:Int):∀(n:Nat) (a:List Kept),n<=a.length->∀i,0<=i->ix (zmq b p n a) i kZ=if i<n then zid (ix a i kZ) (ix b i gZ).Live p else ix a i kZ
 | 0,a,_,i,c=>by rw[if_neg (by omega)];rfl
 |n+1,a,d,i,c=>by rw[zmq];by_cases e:i=n;{subst e;rw[zbg (by rw[ln,zG5];exact zG.2 (by omega)),if_pos (by omega),zSC b p n a (by omega) _ c,if_neg (by omega)]};{rw [zbt (by omega) c (Ne.symm e),zSC b p n a (by omega) i c];by_cases h:i<n;{rw [if_pos h,if_pos (by omega)]};{rw [if_neg h,if_neg (by omega)]}}
def zkn (x:Mon)(p:Int)(s:Slot):Mon:={zld x p x.Tables.length with Outer:=up x.Outer p s}
theorem z7V {x:Mon}(h:TOk x)(c:x.Tables.length=x.Guests.length){p:Int}(b:0<=p)(s:Slot):TOk (zkn x p s):=by intro g hg;have a:hasB g (ln x.Guests)=true:=hg;show KOk (ix (zmq x.Guests p x.Tables.length x.Tables) g kZ) (ix x.Guests g gZ).Live (up x.Outer p s);rw[zSC _ _ _ _ (qW _) _ (zG.1 a).1,if_pos (by have:=zG.1 a;unfold ln at this;omega)];exact z3S (h g a) b s
theorem zuq (h:Host)(m p:Int)(s:Slot):(zco h m p s).Mons=up h.Mons m (zkn (ix h.Mons m mZ) p s):=by unfold zco;cases ine (ix (ix h.Mons m zi).Outer p zZ).Page (-1)<;>rfl
theorem zzq (h:Host)(m p:Int)(s:Slot):(zco h m p s).Memory=h.Memory:=by unfold zco;cases ine (ix (ix h.Mons m zi).Outer p zZ).Page (-1)<;>rfl
theorem zUh (h:Host)(m p:Int)(s:Slot):(zco h m p s).Buffer=(cond (ieq (ix (ix h.Mons m mZ).Outer p sZ).Page (-1)) h.Buffer (flushed h.Buffer (ix (ix h.Mons m mZ).Outer p sZ).Page))/\
 (zco h m p s).IoBuffer=(cond (ieq (ix (ix h.Mons m mZ).Outer p sZ).Page (-1)) h.IoBuffer (flushed h.IoBuffer (ix (ix h.Mons m mZ).Outer p sZ).Page)):=by
 unfold zco
 by_cases e:(ix (ix h.Mons m zi).Outer p zZ).Page = -1
 .rw [show ine (ix (ix h.Mons m zi).Outer p zZ).Page (-1)=false by simp[ine,e],show ieq (ix (ix h.Mons m mZ).Outer p sZ).Page (-1)=true from zbs.2 e]
  exact⟨rfl,rfl⟩
 .rw [show ine (ix (ix h.Mons m zi).Outer p zZ).Page (-1)=true from zHx.2 e,show ieq (ix (ix h.Mons m mZ).Outer p sZ).Page (-1)=false from zbZ.2 e]
  exact⟨rfl,rfl⟩
theorem zNJ {h k:Host}{m p:Int}{s:Slot}(n:hasB m (ln h.Mons)=true)(q:hasB p (ln (ix h.Mons m mZ).Outer)=true){x:Mon}(u:k.Mons=up h.Mons m x)(t:x.Guests=(ix h.Mons m mZ).Guests)(v:x.Outer=up (ix h.Mons m mZ).Outer p s){e:Entry}(w:zcY h e=true)(c:(ix (ix h.Mons m mZ).Outer p sZ).Page = -1\/e.Host≠(ix (ix h.Mons m mZ).Outer p sZ).Page):zcY k e=true:=by obtain⟨f,g,b⟩:=zfS.1 w;rw[zfS,u,zdI];refine⟨f,?_⟩;by_cases l:m=zdp e.Tag;{rw [<- l]at f g b ⊢;rw[zbg n,t,v];refine⟨g,?_⟩;by_cases j:(zbu (ix (ix h.Mons m mZ).Guests (zeb e.Tag) gZ).Live e.Page).Page=p;{have a:zbx (zbu (ix (ix h.Mons m mZ).Guests (zeb e.Tag) gZ).Live e.Page) (ix h.Mons m mZ).Outer=noSlot\/e.Host≠(zbx (zbu (ix (ix h.Mons m mZ).Guests (zeb e.Tag) gZ).Live e.Page) (ix h.Mons m mZ).Outer).Page:=(by rcases z3c (s:=zbu (ix (ix h.Mons m mZ).Guests (zeb e.Tag) gZ).Live e.Page) (o:=(ix h.Mons m mZ).Outer) with d|d;{exact .inl d};{rw [j]at d;have r:zbu (ix h.Mons m mZ).Outer p=ix (ix h.Mons m mZ).Outer p sZ:=(by unfold zbu;rw[q];rfl);rw[r]at d;rcases c with c|c;{left;unfold zbx;rw[j,r,c,show ieq (-1) (-1)=true from rfl];cases ieq p (-1)<;>rfl};{exact .inr (by rw[d];exact c)}});have i:(⟨e.Host,e.Rights⟩:Slot)=noSlot:=(by rcases a with a|a;{rw [a]at b;exact z8w b};{rcases zsR.1 b with h|h;{exact h};{exact absurd h.1 a}});rw[i];exact zsR.2 (.inl rfl)};{rw [zNF (zG.1 q).1 j];exact b}};{rw [zbt (zG.1 n).1 (zG.1 f).1 l];exact⟨g,b⟩}
theorem zCl {h:Host}(H:Rt h){m p:Int}(d:hasB m (ln h.Mons)=true)(q:hasB p (ln (ix h.Mons m mZ).Outer)=true)(u:(ix h.Mons m mZ).Tables.length=(ix h.Mons m mZ).Guests.length)(s:Slot):Rt (zco h m p s):=by have c:=zUh h m p s;have i:=zuq h m p s;have f:∀(b:List Entry),(∀e∈b,zcY h e=true)->∀e∈(cond (ieq (ix (ix h.Mons m mZ).Outer p sZ).Page (-1)) b (flushed b (ix (ix h.Mons m mZ).Outer p sZ).Page)),zcY (zco h m p s) e=true:=(by intro b c e a;by_cases n:(ix (ix h.Mons m mZ).Outer p sZ).Page = -1;{rw [zbs.2 n,cond_true]at a;exact zNJ d q i rfl rfl (c e a) (.inl n)};{rw [zbZ.2 n,cond_false]at a;obtain⟨j,l⟩:=List.mem_filter.1 a;exact zNJ d q i rfl rfl (c e j) (.inr (by simpa [ieq] using l))});refine⟨fun k g=>?_,fun e a=>f _ H.e1 e (by rwa [c.1]at a),fun e a=>f _ H.e2 e (by rwa [c.2]at a)⟩;rw[i]at g ⊢;rw[zdI]at g;by_cases r:m=k;{subst r;rw[zbg d];exact z7V (H.t m d) u (zG.1 q).1 s};{rw [zbt (zG.1 d).1 (zG.1 g).1 r];exact H.t k g}
theorem zTl:∀(l a:List Entry),allI (alone (a++l)) l a.length=true↔(∀x∈l,∀y∈a,sameKey x y=false)/\l.Pairwise (fun y x=>sameKey x y=false)
 |[],a=>by simp[allI]
 |x::l,a=>by have g:=zTl l (a++[x]);rw[kC,List.singleton_append,kD,k9] at g;rw[allI,qD,g,List.pairwise_cons];have h:alone (a++x::l) a.length x=true↔∀y∈a,sameKey x y=false:=(by unfold alone;rw[kN rfl,qL];simp);rw[h];constructor;{rintro⟨d,e,f⟩;refine⟨fun z c y b=>?_,fun z c=>e z c x (by simp),f⟩;rcases qG.1 c with rfl|c;{exact d y b};{exact e z c y (by simp[b])}};{rintro⟨d,e,f⟩;refine⟨fun y b=>d x (by simp) y b,fun z c y b=>?_,f⟩;rcases jJ.1 b with b|b;{exact d z (by simp[c]) y b};{rw [qF.1 b];exact e z c}}
theorem zHh {l:List Entry}:zff l=true↔l.Pairwise (fun y x=>sameKey x y=false)/\l.length<=6:=by unfold zff;have:=zTl l [];simp only[jP,uK] at this;have a:ile (ln l) 6=true↔l.length<=6:=(by rw[ile,qX,ln];omega);rw[zce,this,a];simp
theorem zBv {l:List Entry}(h:zff l=true)(P:Entry->Bool):zff (l.filter P)=true:=by rw[zHh]at h ⊢;exact⟨h.1.sublist List.filter_sublist,qU (uA _ _) h.2⟩
theorem zJy {l:List Entry}(h:zff l=true)(p:Int):zff (flushed l p)=true:=zBv h _
theorem zWE {x x':Mon}{p:Int}(a:hasB p (ln x.Outer)=true){s:Slot}(h:x'.Outer=up x.Outer p s)(q:Int):cPg x' q+(if (ix x.Outer p sZ).Page=q then 1 else 0)=cPg x q+(if s.Page=q then 1 else 0):=by have:=zTr (fun s=>ieq s.Page q) a s sZ;simp only[zbs] at this;unfold cPg;rw[h];exact this
theorem zq0 {s:Slot}(d:SOk s){c:List Int}:zmQ s c=true↔(s.Page = -1->zcn c=true)/\(s.Page≠-1->enough s.Rights 1=true/\c=[]):=by unfold zmQ;by_cases e:s=noSlot;{rw [zqI.2 e,cond_true,e];simp[noSlot]};{rw [ztF.2 e,cond_false,zce];have:s.Page≠-1:=fun h=>e (d.none h);have b:ile (ln c) 0=true↔c=[]:=(by rw[ile,qX,ln,<- uS];omega);rw[b];exact⟨fun h=>⟨fun a=>absurd a this,fun _=>h⟩,fun h=>h.2 this⟩}
structure Chg (x x':Mon) (p:Int) (s:Slot) (c:List Int):Prop where
 o:x'.Outer=up x.Outer p s
 u:x'.Out=up x.Out p c
 g:x'.Guests=x.Guests
 t:x'.Tables.length=x.Tables.length
 d:x'.Dirty.length=x.Dirty.length
 a1:x'.Outs=x.Outs
 a2:x'.Pending=x.Pending
 a3:x'.Traps=x.Traps
 a4:x'.Own=x.Own
theorem MOk.chg {x i:Mon}(H:MOk x){p:Int}(a:hasB p 8=true){s:Slot}{c:List Int}(k:Chg x i p s c)(l:SOk s)(j:zmQ s c=true):MOk i:=by refine⟨by rw[k.g];exact H.g1,by rw[k.g];exact H.g2,by rw[k.t,k.g];exact H.gt,by rw[k.o,zbQ];exact H.o8,fun y f=>?_,by rw[k.u,zbQ];exact H.u8,by rw[k.d];exact H.d8,by rw[k.a1];exact H.outs,by rw[k.a2];exact H.pend,by rw[k.a3];exact H.tr,by rw[k.a4];exact H.own,by rw[k.g];exact H.gs,fun q b=>?_⟩;{rw [k.o]at f;rcases qY f with h|h;{exact H.sl y h};{rw [h];exact l}};{rw [k.o,k.u];by_cases e:p=q;{subst e;rw[zbg (H.hasO a),zbg (H.hasU a)];exact j};{rw [zbt (zG.1 a).1 (zG.1 b).1 e,zbt (zG.1 a).1 (zG.1 b).1 e];exact H.fit q b}}
structure Like (h r:Host):Prop where
 len:r.Mons.length=h.Mons.length
 g:∀i,hasB i (ln h.Mons)=true->(ix r.Mons i mZ).Guests=(ix h.Mons i mZ).Guests
 o:∀i,hasB i (ln h.Mons)=true->(ix r.Mons i mZ).Outs=(ix h.Mons i mZ).Outs
 p:∀i,hasB i (ln h.Mons)=true->(ix r.Mons i mZ).Pending=(ix h.Mons i mZ).Pending
 tr:∀i,hasB i (ln h.Mons)=true->(ix r.Mons i mZ).Traps=(ix h.Mons i mZ).Traps
 ow:∀i,hasB i (ln h.Mons)=true->(ix r.Mons i mZ).Own=(ix h.Mons i mZ).Own
 pg:∀i k,hasB i (ln h.Mons)=true->hasB k 8=true->zcm r i k=zcm h i k
theorem Like.refl (h:Host):Like h h:=⟨rfl,fun _ _=>rfl,fun _ _=>rfl,fun _ _=>rfl,fun _ _=>rfl,fun _ _=>rfl,fun _ _ _ _=>rfl⟩
theorem Like.trans {a b c:Host}(x:Like a b)(y:Like b c):Like a c:=by have k:∀i,hasB i (ln a.Mons)=true->hasB i (ln b.Mons)=true:=fun i e=>(by unfold ln at e ⊢;rwa [x.len]);exact⟨y.len.trans x.len,fun i h=>(y.g i (k i h)).trans (x.g i h),fun i h=>(y.o i (k i h)).trans (x.o i h),fun i h=>(y.p i (k i h)).trans (x.p i h),fun i h=>(y.tr i (k i h)).trans (x.tr i h),fun i h=>(y.ow i (k i h)).trans (x.ow i h),fun i q h d=>(y.pg i q (k i h) d).trans (x.pg i q h d)⟩
theorem Like.has {h r:Host}(k:Like h r){i:Int}:hasB i (ln r.Mons)=hasB i (ln h.Mons):=by unfold ln;rw[k.len]
theorem zr7 {h r:Host}{m:Int}:∀(n i:Nat),(∀k:Nat,i<=k->k<i+n->zcm r m (k:Int)=zcm h m (k:Int))->zcw r m n i=zcw h m n i
 | 0,i,_=>rfl
 |n+1,i,h=>by rw[zcw,zcw,h i (by omega) (by omega),zr7 n (i+1) (fun k a b=>h k (by omega) (by omega))]
theorem Like.seen {h r:Host}(k:Like h r)(m:Int):zB r m=zB h m:=by unfold zB;rw[k.has];cases a:hasB m (ln h.Mons) with|false=>rfl|true=>simp only[cond_true];rw[k.g m a,k.o m a,k.p m a,zr7 8 0 (fun j b c=>k.pg m j a (zG.2 (by omega)))]
theorem zo5 {h:Host}{m p:Int}(a:hasB m (ln h.Mons)=true)(c:hasB p 8=true)(b:hasB p (ln (ix h.Mons m mZ).Outer)=true) :
 zcm h m p=bif ieq (ix (ix h.Mons m mZ).Outer p sZ).Page (-1) then zct (ix h.Mons m mZ).Out p else zct h.Memory (ix (ix h.Mons m mZ).Outer p sZ).Page:=by
 unfold zcm;have:zbu (ix h.Mons m mZ).Outer p=ix (ix h.Mons m mZ).Outer p sZ:=by unfold zbu;rw[b];rfl
 rw[a,c,cond_true,cond_true,this]
 by_cases e:(ix (ix h.Mons m mZ).Outer p sZ).Page = -1
 .rw [zbs.2 e,show ine (ix (ix h.Mons m mZ).Outer p sZ).Page (-1)=false by simp[ine,e]];rfl
 .rw [zbZ.2 e,show ine (ix (ix h.Mons m mZ).Outer p sZ).Page (-1)=true from zHx.2 e];rfl
theorem zl3 {m:List (List Int)}{p:Int}(h:hasB p (ln m)=true):zct m p=ix m p []:=by unfold zct;rw[h];rfl
theorem zT1 {m:List (List Int)}(h:∀c∈m,zcn c=true)(p:Int):zcn (zct m p)=true:=by unfold zct;cases a:hasB p (ln m) with|false=>rfl|true=>exact h _ (zmL a _)
theorem zyE {h r:Host}(H:HOk h){m p:Int}(b:hasB m (ln h.Mons)=true)(i:hasB p 8=true){x:Mon}{s:Slot}{c:List Int}(n:r.Mons=up h.Mons m x)(k:Chg (ix h.Mons m mZ) x p s c)(u:SOk s)(t:zmQ s c=true)(f:r.Memory.length=12)(g:∀c∈r.Memory,zcn c=true)(j:zff r.Buffer=true)(l:zff r.IoBuffer=true)(v:0<=s.Page->s.Page=(ix (ix h.Mons m mZ).Outer p sZ).Page\/zfh h.Mons s.Page=0):HOk r:=by refine H.up b ((H.mon b).chg i k u t) n f g j l fun q z=>?_;have d:=zWE ((H.mon b).hasO i) k.o q;by_cases e:s.Page=q;{have a:=v (by omega);rw[if_pos e]at d;rcases a with a|a;{rw [if_pos (by omega)]at d;left;omega};{right;rw[e] at a;refine⟨a,?_⟩;have:=zA8 b x q;have y:cPg (ix h.Mons m mZ) q<=zfh h.Mons q:=(by have:=zA8 b (⟨[],[],[],[],[],0,0,[],0⟩:Mon) q;have w:cPg (⟨[],[],[],[],[],0,0,[],0⟩:Mon) q=0:=rfl;omega);omega}};{rw [if_neg e]at d;left;split at d<;>omega}
theorem zxx {h r:Host}(H:HOk h){m p:Int}(a:hasB m (ln h.Mons)=true)(y:hasB p 8=true){x:Mon}{s:Slot}{c:List Int}(n:r.Mons=up h.Mons m x)(k:Chg (ix h.Mons m mZ) x p s c)(B:(cond (ieq s.Page (-1)) c (zct r.Memory s.Page))=zcm h m p)(f:∀i q,hasB i (ln h.Mons)=true->hasB q 8=true->¬ (i=m/\q=p)->(ix (ix h.Mons i mZ).Outer q sZ).Page≠-1->zct r.Memory (ix (ix h.Mons i mZ).Outer q sZ).Page=zct h.Memory (ix (ix h.Mons i mZ).Outer q sZ).Page):Like h r:=by have l:=(zG.1 a).1;have t:=(zG.1 y).1;have e:∀{C:Type} (F:Mon->C),F x=F (ix h.Mons m mZ)->∀i,hasB i (ln h.Mons)=true->F (ix r.Mons i mZ)=F (ix h.Mons i mZ):=(by intro C F D i d;rw[n];by_cases e:m=i;{subst e;rw[zbg a];exact D};{rw [zbt l (zG.1 d).1 e]});refine⟨by rw[n,zbQ],e Mon.Guests k.g,e Mon.Outs k.a1,e Mon.Pending k.a2,e Mon.Traps k.a3,e Mon.Own k.a4,fun i q d b=>?_⟩;have A:hasB i (ln r.Mons)=true:=(by rw[n,zdI];exact d);have w:=(H.mon d).hasO b;have z:hasB q (ln (ix r.Mons i mZ).Outer)=true:=(by rw[n];by_cases e:m=i;{subst e;rw[zbg a,k.o,zdI];exact w};{rw [zbt l (zG.1 d).1 e];exact w});rw[zo5 A b z];by_cases e:m=i;{subst e;rw[n,zbg a,k.o,k.u];by_cases v:p=q;{subst v;rw[zbg ((H.mon a).hasO y),<- B];cases ieq s.Page (-1);{rfl};{rw [cond_true,cond_true,zl3 (by rw[zdI];exact(H.mon a).hasU y),zbg ((H.mon a).hasU y)]}};{rw [zbt t (zG.1 b).1 v,zo5 a b w];by_cases j:(ix (ix h.Mons m mZ).Outer q sZ).Page = -1;{rw [zbs.2 j,cond_true,cond_true,zl3 (by rw[zdI];exact(H.mon a).hasU b),zl3 ((H.mon a).hasU b),zbt t (zG.1 b).1 v]};{rw [zbZ.2 j,cond_false,cond_false,f m q a b (fun h=>v h.2.symm) j]}}};{rw [n,zbt l (zG.1 d).1 e,zo5 d b w];by_cases j:(ix (ix h.Mons i mZ).Outer q sZ).Page = -1;{rw [zbs.2 j,cond_true,cond_true]};{rw [zbZ.2 j,cond_false,cond_false,f i q d b (fun h=>e h.1.symm) j]}}
structure Op (h r:Host):Prop where
 ok:HOk r
 like:Like h r
 rt:Rt h->Rt r
theorem Op.refl {h:Host}(H:HOk h):Op h h:=⟨H,Like.refl h,id⟩
theorem Op.trans {a b c:Host}(x:Op a b)(y:Op b c):Op a c:=⟨y.ok,x.like.trans y.like,fun h=>y.rt (x.rt h)⟩
theorem Op.safe {h r:Host}(k:Op h r)(s:Safe h):Safe r:=⟨k.ok,k.rt s.rt⟩
theorem zPw {h r:Host}(H:Rt h){m:Int}(l:hasB m (ln h.Mons)=true){x:Mon}(u:r.Mons=up h.Mons m x)(q:r.Buffer=h.Buffer)(s:r.IoBuffer=h.IoBuffer)(y:x.Guests.length=(ix h.Mons m mZ).Guests.length)(w:∀g,hasB g (ln (ix h.Mons m mZ).Guests)=true->(ix x.Guests g gZ).Live=(ix (ix h.Mons m mZ).Guests g gZ).Live)(z:x.Tables=(ix h.Mons m mZ).Tables)(v:x.Outer=(ix h.Mons m mZ).Outer):Rt r:=by have d:=(zG.1 l).1;have hg:∀g,hasB g (ln x.Guests)=hasB g (ln (ix h.Mons m mZ).Guests):=fun g=>(by unfold ln;rw[y]);have f:∀e,zcY h e=true->zcY r e=true:=(by intro e c;obtain⟨n,i,p⟩:=zfS.1 c;rw[zfS,u,zdI];refine⟨n,?_⟩;by_cases b:m=zdp e.Tag;{rw [<- b]at n i p ⊢;rw[zbg l,hg,w _ i,v];exact⟨i,p⟩};{rw [zbt d (zG.1 n).1 b];exact⟨i,p⟩});refine⟨fun k j=>?_,fun e c=>f e (H.e1 e (by rwa [q]at c)),fun e c=>f e (H.e2 e (by rwa [s]at c))⟩;rw[u]at j ⊢;rw[zdI]at j;by_cases b:m=k;{subst b;rw[zbg l];intro g a;rw[hg]at a;rw[z,w g a,v];exact H.t m l g a};{rw [zbt d (zG.1 j).1 b];exact H.t k j}
theorem zqJ {h a:Host}{m p:Int}{s:Slot}{x:Mon}(b:hasB m (ln h.Mons)=true)(e:a.Mons=up h.Mons m x):(zco a m p s).Mons=up h.Mons m (zkn x p s):=by rw[zuq,e,zbg b,z8l]
theorem zE6 {x a:Mon}{p:Int}{s:Slot}{c:List Int}(h:a.Outer=x.Outer)(j:a.Out=up x.Out p c)(hg:a.Guests=x.Guests)(i:a.Tables=x.Tables)(g:a.Dirty.length=x.Dirty.length)(b:a.Outs=x.Outs)(d:a.Pending=x.Pending)(e:a.Traps=x.Traps)(f:a.Own=x.Own):Chg x (zkn a p s) p s c :=
 ⟨by show up a.Outer p s=_;rw[h],j,hg,by show (zmq a.Guests p a.Tables.length a.Tables).length=_;rw[zG5,i],g,b,d,e,f⟩
theorem zwM {h:Host}{m p:Int}{s:Slot}(a:zff h.Buffer=true)(b:zff h.IoBuffer=true):zff (zco h m p s).Buffer=true/\zff (zco h m p s).IoBuffer=true:=by have:=zUh h m p s;rw[this.1,this.2];cases ieq (ix (ix h.Mons m mZ).Outer p sZ).Page (-1);{exact⟨zJy a _,zJy b _⟩};{exact⟨a,b⟩}
theorem hasM {h:Host}(H:HOk h){s:Slot}(b:SOk s)(a:s.Page≠-1):hasB s.Page (ln h.Memory)=true:=by have:=b.pos a;exact zG.2 ⟨this.1,by unfold ln;rw[H.m12];omega⟩
theorem z2m {h:Host}(H:HOk h){m p:Int}(b:hasB m (ln h.Mons)=true)(c:hasB p 8=true)(l:(ix (ix h.Mons m mZ).Outer p sZ).Page≠-1):Op h (zdn h m p):=by
 have X:=H.mon b;have f:(zdn h m p).Mons=up h.Mons m (zkn {ix h.Mons m mZ with Out:=up (ix h.Mons m mZ).Out p (zct h.Memory (ix (ix h.Mons m mZ).Outer p sZ).Page)} p noSlot):=zqJ b rfl;have k:Chg (ix h.Mons m mZ) (zkn {ix h.Mons m mZ with Out:=up (ix h.Mons m mZ).Out p (zct h.Memory (ix (ix h.Mons m mZ).Outer p sZ).Page)} p noSlot) p noSlot (zct h.Memory (ix (ix h.Mons m mZ).Outer p sZ).Page):=zE6 rfl rfl rfl rfl rfl rfl rfl rfl rfl;have a:(zdn h m p).Memory=h.Memory:=zzq _ _ _ _;have g:=zwM (h:=zeJ h m p) (m:=m) (p:=p) (s:=noSlot) H.b1 H.b2;refine⟨zyE H b c f k (.inl rfl) ((zq0 (.inl rfl)).2 ⟨fun _=>zT1 H.pgs _,fun h=>absurd rfl h⟩) (by rw[a];exact H.m12) (by rw[a];exact H.pgs) g.1 g.2 (fun h=>absurd h (by decide)),
  zxx H b c f k ?_ (fun i q _ _ _ _=>by rw[a]),fun R=>?_⟩
 {rw [zo5 b c (X.hasO c),zbZ.2 l];rfl};{have j:Rt (zeJ h m p):=zPw (x:={ix h.Mons m mZ with Out:=up (ix h.Mons m mZ).Out p (zct h.Memory (ix (ix h.Mons m mZ).Outer p sZ).Page)}) R b rfl rfl rfl rfl (fun _ _=>rfl) rfl rfl;have d:hasB m (ln (zeJ h m p).Mons)=true:=(by show hasB m (ln (up h.Mons m _))=true;rw[zdI];exact b);have e:ix (zeJ h m p).Mons m mZ={ix h.Mons m mZ with Out:=up (ix h.Mons m mZ).Out p (zct h.Memory (ix (ix h.Mons m mZ).Outer p sZ).Page)}:=zbg b _ _;exact zCl j d (by rw[e];exact X.hasO c) (by rw[e];exact X.gt) noSlot}
theorem zJF {o:List Slot}{q:Int}:zpq o q=none↔o.countP (fun s=>ieq s.Page q)=0:=by unfold zpq;rw[List.findIdx?_eq_none_iff,u5];simp
theorem z0n {o:List Slot}{q:Int}{k:Nat}(h:zpq o q=some k):∃a:k<o.length,o[k].Page=q:=by unfold zpq at h;rw[uY]at h;obtain⟨a,b,_⟩:=h;exact⟨a,zbs.1 b⟩
theorem zCe {q:Int}:∀(l:List Mon) (i:Nat),((ziq q l i).1<0↔zfh l q=0)/\(¬ (ziq q l i).1<0->∃a b:Nat,∃f:a<l.length,∃g:b<l[a].Outer.length,ziq q l i=(((i+a:Nat):Int),(b:Int))/\l[a].Outer[b].Page=q)
 |[],i=>⟨by simp[ziq,zfh],fun h=>absurd (show (-1:Int)<0 by decide) h⟩
 |x::l,i=>by have j:=zCe (q:=q) l (i+1);unfold ziq;split;{rename_i k c;obtain⟨m,n⟩:=z0n c;refine⟨⟨fun h=>by simp at h;omega,fun h=>?_⟩,fun _=>⟨0,k,by simp,m,by simp,n⟩⟩;exfalso;simp only[zfh,jD,uJ]at h;have d:x.Outer.countP (fun s=>ieq s.Page q)=0:=(by unfold cPg at h;omega);rw[zJF.2 d]at c;cases c};{rename_i c;have d:=zJF.1 c;refine⟨?_,fun h=>?_⟩;{rw [j.1];simp only[zfh,jD,uJ];unfold cPg;omega};{obtain⟨a,b,f,g,e,p⟩:=j.2 h;exact⟨a+1,b,by simpa using f,by simpa using g,by rw[e];simp;omega,by simpa using p⟩}}
theorem zMa {h:Host}{q:Int}(a:0<=q):(zbH h q).1<0↔zfh h.Mons q=0:=by unfold zbH;rw[show ilt q 0=false from qM (by omega),cond_false];exact(zCe h.Mons 0).1
theorem z9U {h:Host}(H:HOk h){q:Int}(j:0<=q)(c:¬ (zbH h q).1<0):hasB (zbH h q).1 (ln h.Mons)=true/\hasB (zbH h q).2 8=true/\(ix (ix h.Mons (zbH h q).1 mZ).Outer (zbH h q).2 sZ).Page=q:=by unfold zbH at c ⊢;rw[show ilt q 0=false from qM (by omega),cond_false]at c ⊢;obtain⟨a,b,d,f,e,g⟩:=(zCe h.Mons 0).2 c;rw[e,j6];have i:=(H.mons _ (jL d)).o8;exact⟨zG.2 (by unfold ln;simp;omega),zG.2 (by simp;omega),by rw[znz d,znz f];exact g⟩
theorem zXr {P:Nat->Bool}:∀{n i:Nat} {q:Int},q∈zy5 P n i↔∃k:Nat,q=(k:Int)/\i<=k/\k<i+n/\P k=true
 | 0,i,q=>by simp[zy5];intro k _ _ _;omega
 |n+1,i,q=>by
  have d:=@zXr P n (i+1) q;unfold zy5;constructor
  .intro h;cases c:P i with
   |true=>rw[c,cond_true,qG]at h;rcases h with h|h;{exact⟨i,h,by omega,by omega,c⟩};{obtain⟨k,a,f,g,b⟩:=d.1 h;exact⟨k,a,by omega,by omega,b⟩}
   |false=>rw[c,cond_false]at h;obtain⟨k,a,f,g,b⟩:=d.1 h;exact⟨k,a,by omega,by omega,b⟩
  {rintro⟨k,a,f,g,b⟩;by_cases e:k=i;{subst e;rw[b,cond_true,a];exact jC};{have:=d.2 ⟨k,a,by omega,by omega,b⟩;cases P i;{exact this};{exact qZ _ this}}}
theorem zKZ {h:Host}{q:Int}:q∈zch h↔hasB q (ln h.Memory)=true/\zfh h.Mons q=0:=by unfold zch;rw[zXr];constructor;{rintro⟨k,rfl,b,c,d⟩;exact⟨zG.2 (by unfold ln;omega),(zMa (by omega)).1 (qE d)⟩};{rintro⟨b,c⟩;have a:=zG.1 b;unfold ln at a;refine⟨q.toNat,by omega,by omega,by omega,?_⟩;rw[show ((q.toNat:Nat):Int)=q by omega];exact qJ ((zMa a.1).2 c)}
theorem z3H {h:Host}(a:zch h≠[]):hasB (ix (zch h) 0 0) (ln h.Memory)=true/\zfh h.Mons (ix (zch h) 0 0)=0:=by refine zKZ.1 (zmL (zG.2 ⟨by omega,?_⟩) 0);unfold ln;have:=kR.2 a;omega
structure But (h r:Host) (m p:Int):Prop where
 ne:∀i k,hasB i (ln h.Mons)=true->hasB k 8=true->¬ (i=m/\k=p)->ix (ix r.Mons i mZ).Outer k sZ=ix (ix h.Mons i mZ).Outer k sZ
theorem zKF {h r:Host}{m p:Int}(a:hasB m (ln h.Mons)=true)(j:hasB p 8=true){x:Mon}{s:Slot}(b:r.Mons=up h.Mons m x)(g:x.Outer=up (ix h.Mons m mZ).Outer p s):But h r m p:=by refine⟨fun i k d f c=>?_⟩;rw[b];by_cases e:m=i;{subst e;rw[zbg a,g,zbt (zG.1 j).1 (zG.1 f).1 (fun e=>c ⟨rfl,e.symm⟩)]};{rw [zbt (zG.1 a).1 (zG.1 d).1 e]}
theorem z7P {h:Host}(H:HOk h){m p:Int}(a:hasB m (ln h.Mons)=true)(c:hasB p 8=true):But h (zdn h m p) m p/\ix (ix (zdn h m p).Mons m mZ).Outer p sZ=noSlot:=by have b:(zdn h m p).Mons=up h.Mons m (zkn {ix h.Mons m mZ with Out:=up (ix h.Mons m mZ).Out p (zct h.Memory (ix (ix h.Mons m mZ).Outer p sZ).Page)} p noSlot):=zqJ a rfl;refine⟨zKF a c b rfl,?_⟩;rw[b,zbg a];exact zbg ((H.mon a).hasO c) _ _
structure Roomy (h r:Host):Prop where
 op:Op h r
 free:zch r≠[]
 sl:∀i k,hasB i (ln h.Mons)=true->hasB k 8=true->ix (ix r.Mons i mZ).Outer k sZ=ix (ix h.Mons i mZ).Outer k sZ\/ix (ix r.Mons i mZ).Outer k sZ=noSlot
 dirt:∀i,(ix r.Mons i mZ).Dirty=(ix h.Mons i mZ).Dirty
theorem zQt {h r:Host}{m:Int}(c:hasB m (ln h.Mons)=true){x:Mon}(a:r.Mons=up h.Mons m x)(b:x.Dirty=(ix h.Mons m mZ).Dirty)(i:Int):(ix r.Mons i mZ).Dirty=(ix h.Mons i mZ).Dirty:=by
 rw[a];by_cases e:i.toNat=m.toNat
 {have:∀l:List Mon,ix l i mZ=ix l m mZ:=fun l=>(by unfold ix;rw[e]);rw[this,this,zbg c,b]};{unfold ix up;simp[List.getD,q9,Ne.symm e]}
theorem roomy {h:Host}(H:HOk h):Roomy h (zc7 h):=by unfold zc7;by_cases b:zch h=[];{rw [show ieq (ln (zch h)) 0=true by rw[b];rfl,cond_true];have p:¬ (zbH h 0).1<0:=fun d=>(by have:(0:Int)∈zch h:=zKZ.2 ⟨zG.2 (by unfold ln;rw[H.m12];omega),(zMa (by omega)).1 d⟩;rw[b] at this;cases this);obtain⟨a,c,f⟩:=z9U H (by omega) p;have k:=z2m H a c (by rw[f];decide);have j:=z7P H a c;refine⟨k,fun d=>?_,fun i q g r=>?_,fun i=>zQt (x:=zkn {ix h.Mons (zbH h 0).1 mZ with Out:=up (ix h.Mons (zbH h 0).1 mZ).Out (zbH h 0).2 (zct h.Memory (ix (ix h.Mons (zbH h 0).1 mZ).Outer (zbH h 0).2 sZ).Page)} (zbH h 0).2 noSlot) a (zqJ a rfl) rfl i⟩;{have:(0:Int)∈zch (zdn h (zbH h 0).1 (zbH h 0).2):=(by refine zKZ.2 ⟨zG.2 (by unfold ln;rw[k.ok.m12];omega),?_⟩;have n:(zdn h (zbH h 0).1 (zbH h 0).2).Mons=up h.Mons (zbH h 0).1 (zkn {ix h.Mons (zbH h 0).1 mZ with Out:=up (ix h.Mons (zbH h 0).1 mZ).Out (zbH h 0).2 (zct h.Memory (ix (ix h.Mons (zbH h 0).1 mZ).Outer (zbH h 0).2 sZ).Page)} (zbH h 0).2 noSlot):=zqJ a rfl;have l:=zA8 a (zkn {ix h.Mons (zbH h 0).1 mZ with Out:=up (ix h.Mons (zbH h 0).1 mZ).Out (zbH h 0).2 (zct h.Memory (ix (ix h.Mons (zbH h 0).1 mZ).Outer (zbH h 0).2 sZ).Page)} (zbH h 0).2 noSlot) 0;rw[<- n] at l;have m:=zWE (x':=zkn {ix h.Mons (zbH h 0).1 mZ with Out:=up (ix h.Mons (zbH h 0).1 mZ).Out (zbH h 0).2 (zct h.Memory (ix (ix h.Mons (zbH h 0).1 mZ).Outer (zbH h 0).2 sZ).Page)} (zbH h 0).2 noSlot) ((H.mon a).hasO c) (s:=noSlot) rfl 0;rw[if_pos f,if_neg (by decide)] at m;have t:=H.uq 0 (by omega);omega);rw[d] at this;cases this};{by_cases e:i=(zbH h 0).1/\q=(zbH h 0).2;{rw [e.1,e.2];exact .inr j.2};{exact .inl (j.1.ne i q g r e)}}};{have:ieq (ln (zch h)) 0=false:=zbZ.2 (by unfold ln;have:=kR.2 b;omega);rw[this,cond_false];exact⟨Op.refl H,b,fun i k g u=>.inl rfl,fun _=>rfl⟩}
theorem z1K {m:List (List Int)}{p:Int}{c:List Int}(b:hasB p (ln m)=true)(a:zcn c=true):zhM m p c=up m p c:=by unfold zhM;rw[b,a];rfl
theorem zFR {m:List (List Int)}{p q:Int}{c:List Int}(a:0<=p)(h:q≠p):zct (up m p c) q=zct m q:=by unfold zct;rw[zdI];cases b:hasB q (ln m) with|false=>rfl|true=>rw[cond_true,cond_true,zbt a (zG.1 b).1 (Ne.symm h)]
theorem zFQ {m:List (List Int)}{p:Int}{c:List Int}(a:hasB p (ln m)=true):zct (up m p c) p=c:=by rw[zl3 (by rw[zdI];exact a),zbg a]
theorem z4n {h:Host}(H:HOk h){m p a:Int}(d:hasB m (ln h.Mons)=true)(f:hasB p 8=true)(z:(ix (ix h.Mons m mZ).Outer p sZ).Page = -1)(u:hasB a (ln h.Memory)=true)(B:zfh h.Mons a=0) :
 Op h (zeS h m p a)/\But h (zeS h m p a) m p/\ix (ix (zeS h m p a).Mons m mZ).Outer p sZ=⟨a,3⟩/\∀i,(ix (zeS h m p a).Mons i mZ).Dirty=(ix h.Mons i mZ).Dirty:=by
 have X:=H.mon d;have g:=zG.1 u;unfold ln at g;rw[H.m12]at g;have l:(zeS h m p a).Mons=up h.Mons m (zkn {ix h.Mons m mZ with Out:=up (ix h.Mons m mZ).Out p []} p ⟨a,3⟩):=zqJ d rfl;have k:Chg (ix h.Mons m mZ) (zkn {ix h.Mons m mZ with Out:=up (ix h.Mons m mZ).Out p []} p ⟨a,3⟩) p ⟨a,3⟩ []:=zE6 rfl rfl rfl rfl rfl rfl rfl rfl rfl;have j:=((zq0 (X.slot f)).1 (X.fit p f)).1 z;have b:(zeS h m p a).Memory=up h.Memory a (ix (ix h.Mons m mZ).Out p []):=by show (zco (landing h m p a) m p ⟨a,3⟩).Memory=_;rw[zzq];exact z1K u j
 have A:SOk ⟨a,3⟩:=.inr ⟨g.1,by show a<=11;omega,by show (1:Int)<=3;omega,by show (3:Int)<=3;omega⟩
 have w:=zwM (h:=landing h m p a) (m:=m) (p:=p) (s:=⟨a,3⟩) H.b1 H.b2;refine⟨⟨zyE H d f l k A ((zq0 A).2 ⟨fun h=>absurd h (by show a≠-1;omega),fun _=>⟨show enough 3 1=true by decide,rfl⟩⟩) (by rw[b,zbQ];exact H.m12) (fun c r=>?_) w.1 w.2 (fun _=>.inr B),
  zxx H d f l k ?_ (fun i q y D r C=>?_),fun R=>?_⟩,zKF d f l rfl,?_,fun i=>zQt (x:=zkn {ix h.Mons m mZ with Out:=up (ix h.Mons m mZ).Out p []} p ⟨a,3⟩) d l rfl i⟩
 .rw [b]at r;rcases qY r with n|n
  .exact H.pgs c n
  .rw [n];exact j
 .rw [zo5 d f (X.hasO f),zbs.2 z,cond_true,zl3 (X.hasU f)];rw[show ieq (⟨a,3⟩:Slot).Page (-1)=false from zbZ.2 (by show a≠-1;omega),cond_false,b]
  exact zFQ u
 .rw [b];refine zFR g.1 (fun e=>?_);have:=zKG y ((H.mon y).hasO D);rw[e] at this;omega
 .have R1:Rt (landing h m p a):=zPw (x:={ix h.Mons m mZ with Out:=up (ix h.Mons m mZ).Out p []}) R d rfl rfl rfl rfl (fun _ _=>rfl) rfl rfl;have t:hasB m (ln (landing h m p a).Mons)=true:=by show hasB m (ln (up h.Mons m _))=true;rw[zdI];exact d
  have v:ix (landing h m p a).Mons m mZ={ix h.Mons m mZ with Out:=up (ix h.Mons m mZ).Out p []}:=zbg d _ _;exact zCl R1 t (by rw[v];exact X.hasO f) (by rw[v];exact X.gt) _
 .rw [l,zbg d];exact zbg (X.hasO f) _ _
theorem zPk {h:Host}(H:HOk h){m p:Int}(f:hasB m (ln h.Mons)=true)(g:hasB p 8=true)(k:(ix (ix h.Mons m mZ).Outer p sZ).Page = -1) :
 Op h (fetched h m p)/\(∃e,0<=e/\e<=11/\ix (ix (fetched h m p).Mons m mZ).Outer p sZ=⟨e,3⟩)/\∀i,(ix (fetched h m p).Mons i mZ).Dirty=(ix h.Mons i mZ).Dirty:=by
 have R:=roomy H;have c:hasB m (ln (zc7 h).Mons)=true:=by rw[R.op.like.has];exact f
 have d:(ix (ix (zc7 h).Mons m mZ).Outer p sZ).Page = -1:=by rcases R.sl m p f g with b|b<;>rw [b];{exact k};{rfl}
 obtain⟨b,j⟩:=z3H R.free;obtain⟨l,r,n,q⟩:=z4n R.op.ok c g d b j;have a:=zG.1 b;unfold ln at a;rw[R.op.ok.m12]at a;exact⟨R.op.trans l,⟨_,a.1,by omega,n⟩,fun i=>(q i).trans (R.dirt i)⟩
theorem zpb {o:List Slot}{p:Int}(h:hasB p (ln o)=true):zbu o p=ix o p sZ:=by unfold zbu;rw[h];rfl
theorem zl4 {h:Host}(H:HOk h){m p:Int}(a:hasB m (ln h.Mons)=true)(b:hasB p 8=true) :
 (cond (ieq (ix (ix h.Mons m mZ).Outer p sZ).Page (-1)) (ix (ix h.Mons m mZ).Out p []) (zct h.Memory (ix (ix h.Mons m mZ).Outer p sZ).Page))=zcm h m p:=by
 rw[zo5 a b ((H.mon a).hasO b),zl3 ((H.mon a).hasU b)]
structure Mark (x y:Mon):Prop where
 o:y.Outer=x.Outer
 u:y.Out=x.Out
 g:y.Guests=x.Guests
 t:y.Tables=x.Tables
 d:y.Dirty.length=x.Dirty.length
 a1:y.Outs=x.Outs
 a2:y.Pending=x.Pending
 a3:y.Traps=x.Traps
 a4:y.Own=x.Own
theorem z2l {h:Host}(H:HOk h){m:Int}(b:hasB m (ln h.Mons)=true){y:Mon}(k:Mark (ix h.Mons m mZ) y):Op h {h with Mons:=up h.Mons m y}/\∀i q,ix (ix (up h.Mons m y) i mZ).Outer q sZ=ix (ix h.Mons i mZ).Outer q sZ:=by
 have X:=H.mon b;have a:hasB 0 8=true:=(by decide);have c:Chg (ix h.Mons m mZ) y 0 (ix (ix h.Mons m mZ).Outer 0 sZ) (ix (ix h.Mons m mZ).Out 0 []):=⟨by rw[zMD (X.hasO a),k.o],by rw[zMD (X.hasU a),k.u],k.g,by rw[k.t],k.d,k.a1,k.a2,k.a3,k.a4⟩
 refine⟨⟨zyE H b a rfl c (X.slot a) (X.fit 0 a) H.m12 H.pgs H.b1 H.b2 (fun _=>.inl rfl),zxx H b a rfl c (zl4 H b a) (fun _ _ _ _ _ _=>rfl),
  fun R=>zPw R b rfl rfl rfl (by rw[k.g]) (fun g _=>by rw[k.g]) k.t k.o⟩,fun i q=>?_⟩
 by_cases e:i.toNat=m.toNat
 {have:∀l:List Mon,ix l i mZ=ix l m mZ:=fun l=>(by unfold ix;rw[e]);rw[this,this,zbg b,k.o]};{have:ix (up h.Mons m y) i mZ=ix h.Mons i mZ:=(by unfold ix up;simp[List.getD,q9,Ne.symm e]);rw[this]}
theorem zPj {h:Host}(H:HOk h){m:Int}(a:hasB m (ln h.Mons)=true)(p:Int):Op h (zbK h m p)/\∀i q,ix (ix (zbK h m p).Mons i mZ).Outer q sZ=ix (ix h.Mons i mZ).Outer q sZ :=
 z2l H a ⟨rfl,rfl,rfl,rfl,zbQ _ _ _,rfl,rfl,rfl,rfl⟩
theorem z7o {h:Host}(H:HOk h){m:Int}(a:hasB m (ln h.Mons)=true)(p:Int):Op h (zrK h m p)/\∀i q,ix (ix (zrK h m p).Mons i mZ).Outer q sZ=ix (ix h.Mons i mZ).Outer q sZ :=
 z2l H a ⟨rfl,rfl,rfl,rfl,zbQ _ _ _,rfl,rfl,rfl,rfl⟩
theorem rights {r:Int}(a:1<=r)(b:r<=3):r=1\/r=2\/r=3:=by omega
theorem MOk.enough1 {x:Mon}(X:MOk x){p:Int}(a:hasB p 8=true)(d:(ix x.Outer p sZ).Page≠-1):(ix x.Outer p sZ).Rights=1\/(ix x.Outer p sZ).Rights=3:=by have b:=(((zq0 (X.slot a)).1 (X.fit p a)).2 d).1;have c:=(X.slot a).pos d;rcases rights c.2.2.1 c.2.2.2 with e|e|e;{exact .inl e};{rw [e]at b;exact absurd b (by decide)};{exact .inr e}
theorem zTY {h:Host}(H:HOk h){m p:Int}(c:hasB m (ln h.Mons)=true)(b:hasB p 8=true)(g:(ix (ix h.Mons m mZ).Outer p sZ).Page≠-1){r:Int}(n:r=1\/r=3) :
 Op h (zco h m p ⟨(ix (ix h.Mons m mZ).Outer p sZ).Page,r⟩)/\But h (zco h m p ⟨(ix (ix h.Mons m mZ).Outer p sZ).Page,r⟩) m p/\
  ix (ix (zco h m p ⟨(ix (ix h.Mons m mZ).Outer p sZ).Page,r⟩).Mons m mZ).Outer p sZ=⟨(ix (ix h.Mons m mZ).Outer p sZ).Page,r⟩/\∀i,(ix (zco h m p ⟨(ix (ix h.Mons m mZ).Outer p sZ).Page,r⟩).Mons i mZ).Dirty=(ix h.Mons i mZ).Dirty:=by
 have X:=H.mon c;have d:=(X.slot b).pos g;have e:=zuq h m p ⟨(ix (ix h.Mons m mZ).Outer p sZ).Page,r⟩;have k:Chg (ix h.Mons m mZ) (zkn (ix h.Mons m mZ) p ⟨(ix (ix h.Mons m mZ).Outer p sZ).Page,r⟩) p ⟨(ix (ix h.Mons m mZ).Outer p sZ).Page,r⟩ (ix (ix h.Mons m mZ).Out p []):=
  zE6 rfl (zMD (X.hasU b) _).symm rfl rfl rfl rfl rfl rfl rfl
 have l:SOk ⟨(ix (ix h.Mons m mZ).Outer p sZ).Page,r⟩:=.inr ⟨d.1,d.2.1,by show 1<=r;omega,by show r<=3;omega⟩
 have f:=((zq0 (X.slot b)).1 (X.fit p b)).2 g;have j:=zwM (h:=h) (m:=m) (p:=p) (s:=⟨(ix (ix h.Mons m mZ).Outer p sZ).Page,r⟩) H.b1 H.b2;have a:=zzq h m p ⟨(ix (ix h.Mons m mZ).Outer p sZ).Page,r⟩;refine⟨⟨zyE H c b e k l ((zq0 l).2 ⟨fun h=>absurd h g,fun _=>⟨?_,f.2⟩⟩) (by rw[a];exact H.m12) (by rw[a];exact H.pgs) j.1 j.2 (fun _=>.inl rfl),
  zxx H c b e k (by rw[a];exact zl4 H c b) (fun i q _ _ _ _=>by rw[a]),fun R=>zCl R c (X.hasO b) X.gt _⟩,zKF c b e rfl,?_,fun i=>zQt c e rfl i⟩
 .show enough r 1=true
  rcases n with rfl|rfl<;>decide
 .rw [e,zbg c];exact zbg (X.hasO b) _ _
structure Mended (h r:Host) (m p n:Int):Prop where
 op:Op h r
 inn:(ix (ix r.Mons m mZ).Outer p sZ).Page≠-1
 ri:ieq (wand .i64 n 2) 0=false->(ix (ix r.Mons m mZ).Outer p sZ).Rights=3
 dt:ieq (wand .i64 n 2) 0=false->ix (ix r.Mons m mZ).Dirty p false=true
 d0:ieq (wand .i64 n 2) 0=true->(ix r.Mons m mZ).Dirty=(ix h.Mons m mZ).Dirty
 dk:∀k,hasB k 8=true->k≠p->ix (ix r.Mons m mZ).Dirty k false=ix (ix h.Mons m mZ).Dirty k false
 dm:∀i,hasB i (ln h.Mons)=true->i≠m->(ix r.Mons i mZ).Dirty=(ix h.Mons i mZ).Dirty
theorem zYz {h:Host}(H:HOk h){m p:Int}(n:Int)(c:hasB m (ln h.Mons)=true)(g:hasB p 8=true)(v:(ix (ix h.Mons m mZ).Outer p sZ).Page≠-1):Mended h (zj6 h m p n) m p n:=by
 unfold zj6;cases s:ieq (wand .i64 n 2) 0 with
 |true=>exact⟨Op.refl H,v,fun e=>(Bool.noConfusion (s.symm.trans e)),fun e=>(Bool.noConfusion (s.symm.trans e)),fun _=>rfl,fun _ _ _=>rfl,fun _ _ _=>rfl⟩
 |false=>rw[cond_false];obtain⟨f,C⟩:=zPj H c p;have d:hasB m (ln (zbK h m p).Mons)=true:=(by rw[f.like.has];exact c);have a:(ix (ix (zbK h m p).Mons m mZ).Outer p sZ).Page≠-1:=(by rw[C];exact v);have u:(ix (zbK h m p).Mons m mZ).Dirty=up (ix h.Mons m mZ).Dirty p true:=(by show (ix (up h.Mons m _) m mZ).Dirty=_;rw[zbg c]);have l:∀i,hasB i (ln h.Mons)=true->i≠m->(ix (zbK h m p).Mons i mZ).Dirty=(ix h.Mons i mZ).Dirty:=fun i q b=>(by show (ix (up h.Mons m _) i mZ).Dirty=_;rw[zbt (zG.1 c).1 (zG.1 q).1 (Ne.symm b)]);have A:=(f.ok.mon d).enough1 g a;have t:∀r:Host,(∀i,(ix r.Mons i mZ).Dirty=(ix (zbK h m p).Mons i mZ).Dirty)->Op (zbK h m p) r->(ix (ix r.Mons m mZ).Outer p sZ).Page≠-1->(ix (ix r.Mons m mZ).Outer p sZ).Rights=3->Mended h r m p n:=(by intro r j x y z;refine⟨f.trans x,y,fun _=>z,fun _=>?_,fun e=>(Bool.noConfusion (s.symm.trans e)),fun k B b=>?_,fun i q b=>by rw[j,l i q b]⟩;{rw [j,u,zbg ((H.mon c).hasD g)]};{rw [j,u,zbt (zG.1 g).1 (zG.1 B).1 (Ne.symm b)]});unfold opened;rcases A with e|e;{rw [e,show ieq (wand .i64 1 2) 0=true by decide,cond_true];obtain⟨D,F,w,E⟩:=zTY f.ok d g a (r:=3) (.inr rfl);exact t _ E D (by rw[w];exact a) (by rw[w])};{rw [e,show ieq (wand .i64 3 2) 0=false by decide,cond_false];exact t _ (fun _=>rfl) (Op.refl f.ok) a e}
theorem zTX {h:Host}(H:HOk h){m p:Int}(n:Int)(c:hasB m (ln h.Mons)=true)(d:hasB p 8=true):Mended h (mended h m p n) m p n:=by unfold mended;by_cases e:(ix (ix h.Mons m mZ).Outer p sZ).Page = -1;{rw [zbs.2 e,cond_true];obtain⟨a,⟨q,r,s,l⟩,f⟩:=zPk H c d e;have K:=zYz a.ok n (by rw[a.like.has];exact c) d (by rw[l];show q≠-1;omega);exact⟨a.trans K.op,K.inn,K.ri,K.dt,fun e=>by rw[K.d0 e,f],fun k j b=>by rw[K.dk k j b,f],fun i g b=>by rw[K.dm i (by rw[a.like.has];exact g) b,f]⟩};{rw [zbZ.2 e,cond_false];exact zYz H n c d e}
theorem zpH {h:Host}{m p:Int}:zcz h m p=true↔HOk h/\hasB m (ln h.Mons)=true/\hasB p 8=true:=by unfold zcz;rw[zce,zce,zkN]
theorem z4o {h:Host}(H:HOk h)(m p:Int):Op h (zrg h m p):=by unfold zrg;cases a:zcz h m p with|false=>exact Op.refl H|true=>obtain⟨_,b,c⟩:=zpH.1 a;rw[cond_true];unfold zlk;by_cases e:(ix (ix h.Mons m mZ).Outer p sZ).Page = -1;{rw [zbs.2 e];exact Op.refl H};{rw [zbZ.2 e];exact z2m H b c e}
theorem z7n {h:Host}(H:HOk h)(m p:Int):Op h (zv5 h m p):=by unfold zv5;cases a:zcz h m p with|false=>exact Op.refl H|true=>obtain⟨_,b,c⟩:=zpH.1 a;rw[cond_true];unfold zlk;by_cases e:(ix (ix h.Mons m mZ).Outer p sZ).Page = -1;{rw [zbs.2 e];exact(zPk H b c e).1};{rw [zbZ.2 e];exact Op.refl H}
theorem z7m {h:Host}(H:HOk h)(m p:Int):Op h (zvN h m p):=by unfold zvN;cases g:zcz h m p with|false=>exact Op.refl H|true=>obtain⟨_,b,c⟩:=zpH.1 g;rw[cond_true];obtain⟨a,d⟩:=z7o H b p;(cases e:zcW (ix (ix h.Mons m zi).Outer p zZ) noSlot with|true=>exact a|false=>rw[cond_false];have i:(ix (ix h.Mons m mZ).Outer p sZ).Page≠-1:=fun f=>ztF.1 e (((H.mon b).slot c).none f);have:=zTY a.ok (m:=m) (p:=p) (by rw[a.like.has];exact b) c (by rw[d];exact i) (r:=1) (.inl rfl);rw[d m p] at this;exact a.trans this.1)
structure KeepP (x y:Mon):Prop where
 o:y.Outer=x.Outer
 u:y.Out=x.Out
theorem zPq {h r:Host}{m:Int}(b:hasB m (ln h.Mons)=true){y:Mon}(c:r.Mons=up h.Mons m y)(a:r.Memory=h.Memory)(k:KeepP (ix h.Mons m mZ) y)(i q:Int):zcm r i q=zcm h i q:=by unfold zcm;rw[c,zdI,a];cases d:hasB i (ln h.Mons) with|false=>rfl|true=>by_cases e:m=i;{subst e;rw[zbg b,k.o,k.u]};{rw [zbt (zG.1 b).1 (zG.1 d).1 e]}
theorem zwI {h r:Host}{m:Int}(b:hasB m (ln h.Mons)=true){y:Mon}(c:r.Mons=up h.Mons m y)(a:r.Memory=h.Memory)(k:KeepP (ix h.Mons m mZ) y)(i:Int) :
 zB r i=bif ieq i m then ⟨(zB h i).Memory,y.Guests,y.Outs,y.Pending⟩ else zB h i:=by
 have f:zcw r i 8 0=zcw h i 8 0:=zr7 8 0 (fun j _ _=>zPq b c a k i j);unfold zB;rw[f,c,zdI]
 by_cases e:i=m
 .subst e;rw[b,zbs.2 rfl,zbg b];rfl
 .rw [zbZ.2 e,cond_false];cases d:hasB i (ln h.Mons) with
  |false=>rfl
  |true=>rw[zbt (zG.1 b).1 (zG.1 d).1 (Ne.symm e)]
theorem zlZ {x y:Mon}(X:MOk x)(k:KeepP x y)(g:y.Guests.length=x.Guests.length)(t:y.Tables.length=x.Tables.length)(d:y.Dirty.length=x.Dirty.length)(o:y.Outs.length<=40)(p:zc5 y.Pending=true)(tr:win y.Traps 0 3=true)(b:win y.Own 0 1000000000=true)(a:∀g∈y.Guests,zc3 g=true):MOk y :=
 ⟨by rw[g];exact X.g1,by rw[g];exact X.g2,by rw[t,g];exact X.gt,by rw[k.o];exact X.o8,by rw[k.o];exact X.sl,by rw[k.u];exact X.u8,by rw[d];exact X.d8,o,p,tr,b,a,by rw[k.o,k.u];exact X.fit⟩
theorem zXh {h:Host}(H:HOk h){m:Int}(a:hasB m (ln h.Mons)=true){y:Mon}(k:KeepP (ix h.Mons m mZ) y)(b:MOk y):HOk {h with Mons:=up h.Mons m y} :=
 H.up a b rfl H.m12 H.pgs H.b1 H.b2 fun q _=>.inl (by unfold cPg;rw[k.o];exact qW _)
theorem zyA {h:Host}(S:Safe h){m:Int}(a:hasB m (ln h.Mons)=true){y:Mon}(k:KeepP (ix h.Mons m mZ) y)(d:MOk y)(hg:y.Guests.length=(ix h.Mons m mZ).Guests.length)(c:∀g,hasB g (ln (ix h.Mons m mZ).Guests)=true->(ix y.Guests g gZ).Live=(ix (ix h.Mons m mZ).Guests g gZ).Live)(b:y.Tables=(ix h.Mons m mZ).Tables):Safe {h with Mons:=up h.Mons m y} :=
 ⟨zXh S.ok a k d,zPw S.rt a rfl rfl rfl hg c b k.o⟩
theorem zVN {h:Host}(S:Safe h)(m t:Int):Safe (zkm h m t)/\∀i,zB (zkm h m t) i=zB h i:=by
 unfold zkm;rw[zkN.2 S.ok,cond_true];cases a:hasB m (ln h.Mons) with
 |false=>exact⟨S,fun _=>rfl⟩
 |true=>
  cases b:win t 0 3 with
  |false=>exact⟨S,fun _=>rfl⟩
  |true=>have X:=S.ok.mon a;have k:KeepP (ix h.Mons m mZ) {ix h.Mons m mZ with Traps:=t}:=⟨rfl,rfl⟩;refine⟨zyA S a k (zlZ X k rfl rfl rfl X.outs X.pend b X.own X.gs) rfl (fun _ _=>rfl) rfl,fun i=>?_⟩;rw[cond_true,cond_true];refine(zwI (h:=h) (r:={h with Mons:=up h.Mons m {ix h.Mons m mZ with Traps:=t}}) a rfl rfl k i).trans ?_;by_cases e:i=m;{subst e;rw[zbs.2 rfl,cond_true];unfold zB;rw[a];rfl};{rw [zbZ.2 e];rfl}
theorem zJI:∀(n i:Nat) (k:Kept),(zjg n i k).Known.length=k.Known.length/\(zjg n i k).Slots.length=k.Slots.length
 | 0,i,k=>⟨rfl,rfl⟩
 |n+1,i,k=>by have a:=zJI n (i+1) (zbX k (i:Int));have b:=zlN k (i:Int);exact⟨a.1.trans b.1,a.2.trans b.2⟩
theorem zNR:∀(n i:Nat) (k:Kept),k.Known.length=k.Slots.length->∀j,hasB j (ln k.Known)=true->
 ((i:Int)<=j/\j<((i+n:Nat):Int)->ix (zjg n i k).Known j false=false/\ix (zjg n i k).Slots j sZ=noSlot)/\
 (¬ ((i:Int)<=j/\j<((i+n:Nat):Int))->ix (zjg n i k).Known j false=ix k.Known j false/\ix (zjg n i k).Slots j sZ=ix k.Slots j sZ)
 | 0,i,k,_,j,_=>⟨fun h=>by omega,fun _=>⟨rfl,rfl⟩⟩
 |n+1,i,k,g,j,f=>by have b:=zlN k (i:Int);have d:=zyZ (q:=(i:Int)) g f;have c:=zNR n (i+1) (zbX k (i:Int)) (by rw[b.1,b.2,g]) j (by unfold ln at f ⊢;rwa [b.1]);rw[zjg];by_cases a:((i+1:Nat):Int)<=j/\j<((i+1+n:Nat):Int);{exact⟨fun _=>c.1 a,fun h=>absurd (by omega) h⟩};{rw [(c.2 a).1,(c.2 a).2,d.1,d.2];by_cases e:(i:Int)=j;{rw [zbs.2 e];exact⟨fun _=>⟨rfl,rfl⟩,fun h=>absurd (by omega) h⟩};{rw [zbZ.2 e];exact⟨fun h=>absurd (by omega) a,fun _=>⟨rfl,rfl⟩⟩}}
theorem zUO {k:Kept}{a b:List Slot}(h:KOk k a b):KOk (zjV k) a b:=by have e:=zJI k.Known.length 0 k;refine⟨e.1.trans h.l1,e.2.trans h.l2,fun i f=>?_⟩;have c:hasB i (ln k.Known)=true:=(by unfold ln at f ⊢;rwa [h.l1]);have d:=zG.1 c;unfold ln at d;have:=(zNR k.Known.length 0 k (by rw[h.l1,h.l2]) i c).1 ⟨by omega,by omega⟩;unfold zjV;rw[this.1,this.2];rfl
theorem zNE:∀(n j:Nat) (l:List Kept),(zw3 n j l).length=l.length
 | 0,_,_=>rfl
 |n+1,j,l=>by rw[zw3,zNE n,zbQ]
theorem zWI:∀(n j:Nat) (l:List Kept),j+n<=l.length->∀g,0<=g->ix (zw3 n j l) g kZ=if (j:Int)<=g/\g<((j+n:Nat):Int) then zjV (ix l g kZ) else ix l g kZ
 | 0,j,l,_,g,hg=>by rw[if_neg (by omega)];rfl
 |n+1,j,l,a,g,hg=>by rw[zw3,zWI n (j+1) _ (by rw[zbQ];omega) g hg];by_cases e:(j:Int)=g;{subst e;rw[if_neg (by omega),if_pos (by omega),zbg (zG.2 ⟨by omega,by unfold ln;omega⟩)]};{rw [zbt (by omega) hg e];by_cases h:((j+1:Nat):Int)<=g/\g<((j+1+n:Nat):Int);{rw [if_pos h,if_pos (by omega)]};{rw [if_neg h,if_neg (by omega)]}}
theorem zND:∀(n i:Nat) (l:List Mon),(zpm n i l).length=l.length
 | 0,_,_=>rfl
 |n+1,i,l=>by rw[zpm,zND n,zbQ]
theorem zTq:∀(n i:Nat) (l:List Mon),i+n<=l.length->∀m,0<=m->ix (zpm n i l) m mZ=if (i:Int)<=m/\m<((i+n:Nat):Int) then zw4 (ix l m mZ) (ix l m mZ).Tables.length 0 else ix l m mZ
 | 0,i,l,_,m,a=>by rw[if_neg (by omega)];rfl
 |n+1,i,l,b,m,a=>by rw[zpm,zTq n (i+1) _ (by rw[zbQ];omega) m a];by_cases e:(i:Int)=m;{subst e;rw[if_neg (by omega),if_pos (by omega),zbg (zG.2 ⟨by omega,by unfold ln;omega⟩)]};{rw [zbt (by omega) a e];by_cases h:((i+1:Nat):Int)<=m/\m<((i+1+n:Nat):Int);{rw [if_pos h,if_pos (by omega)]};{rw [if_neg h,if_neg (by omega)]}}
theorem z8D (h:Host){m:Int}(a:hasB m (ln h.Mons)=true):ix (cold h).Mons m mZ=zw4 (ix h.Mons m mZ) (ix h.Mons m mZ).Tables.length 0:=by have:=zG.1 a;unfold ln at this;show ix (zpm h.Mons.length 0 h.Mons) m mZ=_;rw[zTq _ _ _ (by omega) m this.1,if_pos (by omega)]
theorem zzT (h:Host):(cold h).Mons.length=h.Mons.length:=zND _ _ _
theorem zKI (h:Host)(m:Int):hasB m (ln (cold h).Mons)=hasB m (ln h.Mons):=by unfold ln;rw[zzT]
theorem zbcq {l a:List Mon}(d:a.length=l.length)(h:∀m,hasB m (ln l)=true->(ix a m mZ).Outer=(ix l m mZ).Outer)(q:Int):zfh a q=zfh l q:=by have:a.map (fun x=>cPg x q)=l.map (fun x=>cPg x q):=(by refine List.ext_getElem (by simp[d]) fun k b c=>?_;simp only[uM]at b c;have:=h (k:Int) (zG.2 ⟨by omega,by unfold ln;omega⟩);rw[znz b,znz c] at this;simp[cPg,this]);unfold zfh;rw[this]
theorem zbdq {h:Host}(H:HOk h):Op h (cold h):=by have c:∀m,hasB m (ln h.Mons)=true->ix (cold h).Mons m mZ=zw4 (ix h.Mons m mZ) (ix h.Mons m mZ).Tables.length 0:=fun m a=>z8D h a;have n:∀i q,zcm (cold h) i q=zcm h i q:=(by intro i q;unfold zcm;rw[zKI];cases b:hasB i (ln h.Mons) with|false=>rfl|true=>rw[c i b];rfl);refine⟨⟨H.m12,H.pgs,by rw[zzT];exact H.n1,by rw[zzT];exact H.n3,rfl,rfl,fun y s=>?_,fun q r=>?_⟩,⟨zzT h,fun i b=>by rw[c i b];rfl,fun i b=>by rw[c i b];rfl,fun i b=>by rw[c i b];rfl,fun i b=>by rw[c i b];rfl,fun i b=>by rw[c i b];rfl,fun i k _ _=>n i k⟩,fun R=>⟨fun m a=>?_,fun e j=>(by cases j),fun e j=>(by cases j)⟩⟩;{obtain⟨m,a,rfl⟩:=zYt s mZ;rw[zKI]at a;rw[c m a];have X:=H.mon a;have k:KeepP (ix h.Mons m mZ) (zw4 (ix h.Mons m mZ) (ix h.Mons m mZ).Tables.length 0):=⟨rfl,rfl⟩;exact zlZ X k rfl (zNE _ _ _) rfl X.outs X.pend X.tr X.own X.gs};{rw [zbcq (l:=h.Mons) (zzT h) (fun m a=>by rw[c m a];rfl)];exact H.uq q r};{rw [zKI]at a;rw[c m a];have X:=H.mon a;intro g hg;show KOk (ix (zw3 (ix h.Mons m mZ).Tables.length 0 (ix h.Mons m mZ).Tables) g kZ) (ix (ix h.Mons m mZ).Guests g gZ).Live (ix h.Mons m mZ).Outer;have d:hasB g (ln (ix h.Mons m mZ).Guests)=true:=hg;have f:=zG.1 d;unfold ln at f;have p:=X.gt;rw[zWI _ _ _ (by omega) g f.1,if_pos (by omega)];exact zUO (R.t m a g d)}
theorem zZw {m g:Int}(c:win m 0 2=true)(hg:win g 0 1=true):zdp (zeN m g)=m/\zeb (zeN m g)=g/\1<=zeN m g/\zeN m g<=6:=by have d:=zcJ.1 c;have e:=zcJ.1 hg;have a:m=0\/m=1\/m=2:=(by omega);have b:g=0\/g=1:=(by omega);rcases a with rfl|rfl|rfl<;>rcases b with rfl|rfl<;>decide
theorem HOk.tag {h:Host}(H:HOk h){m g:Int}(a:hasB m (ln h.Mons)=true)(hg:hasB g (ln (ix h.Mons m mZ).Guests)=true):win m 0 2=true/\win g 0 1=true:=by have b:=zG.1 a;have c:=zG.1 hg;have d:=H.n3;have e:=(H.mon a).g2;unfold ln at b c;exact⟨zcJ.2 (by omega),zcJ.2 (by omega)⟩
theorem zgw {r:Int}:zc0 r=true↔r=0\/r=1\/r=2\/r=3:=by unfold zc0 ige ile;rw[qD,qX,qX];omega
theorem zsV {a b:Int}(h:enough a b=true):zc0 a=true/\zc0 b=true:=by unfold enough at h;rw[zce,zce]at h;exact⟨h.1,h.2.1⟩
theorem zW5 {a b c:Int}(d:enough a b=true)(e:enough b c=true):enough a c=true:=by have f:=zgw.1 (zsV d).1;have g:=zgw.1 (zsV d).2;have h:=zgw.1 (zsV e).2;rcases f with rfl|rfl|rfl|rfl<;>rcases g with rfl|rfl|rfl|rfl<;>rcases h with rfl|rfl|rfl|rfl<;>revert d e<;>decide
theorem z0e {a b n:Int}(g:n=1\/n=2)(c:enough a n=true)(d:enough b n=true):zd0 a b≠0/\enough (zd0 a b) n=true:=by have e:=zgw.1 (zsV c).1;have f:=zgw.1 (zsV d).1;rcases g with rfl|rfl<;>rcases e with rfl|rfl|rfl|rfl<;>rcases f with rfl|rfl|rfl|rfl<;>revert c d<;>decide
theorem both_ok (a b:Int):zc0 (zd0 a b)=true:=by
 unfold zd0;cases c:zc0 a with
 |false=>rfl
 |true=>
  cases d:zc0 b with
  |false=>rfl
  |true=>have c:=zgw.1 c;have d:=zgw.1 d;rcases c with rfl|rfl|rfl|rfl<;>rcases d with rfl|rfl|rfl|rfl<;>decide
theorem z0l {a:Int}(h:zc0 a=true):enough a a=true:=by rcases zgw.1 h with rfl|rfl|rfl|rfl<;>decide
theorem zrU {n:Int}(a:n=1\/n=2):enough 0 n=false:=by rcases a with rfl|rfl<;>decide
theorem z3d {s:Slot}{o:List Slot}(a:s.Page≠-1)(b:(zbu o s.Page).Page≠-1):zbx s o=bif ieq (zd0 s.Rights (zbu o s.Page).Rights) 0 then noSlot else ⟨(zbu o s.Page).Page,zd0 s.Rights (zbu o s.Page).Rights⟩:=by unfold zbx;rw[zbZ.2 a,zbZ.2 b];rfl
theorem zqX {s:Slot}{o:List Slot}{n:Int}(c:n=1\/n=2)(h:enough (zbx s o).Rights n=true):s.Page≠-1/\(zbu o s.Page).Page≠-1/\(zbx s o).Page=(zbu o s.Page).Page:=by unfold zbx at h ⊢;by_cases a:s.Page = -1;{rw [zbs.2 a,cond_true]at h;rw[show noSlot.Rights=0 from rfl,zrU c]at h;cases h};{rw [zbZ.2 a,cond_false]at h ⊢;by_cases b:(zbu o s.Page).Page = -1;{rw [zbs.2 b,cond_true]at h;rw[show noSlot.Rights=0 from rfl,zrU c]at h;cases h};{rw [zbZ.2 b,cond_false]at h ⊢;by_cases d:zd0 s.Rights (zbu o s.Page).Rights=0;{rw [zbs.2 d,cond_true]at h;rw[show noSlot.Rights=0 from rfl,zrU c]at h;cases h};{rw [zbZ.2 d];exact⟨a,b,rfl⟩}}}
theorem zWJ {s:Slot}{o:List Slot}{n:Int}(e:n=1\/n=2)(a:s.Page≠-1)(b:(zbu o s.Page).Page≠-1)(c:enough s.Rights n=true)(d:enough (zbu o s.Page).Rights n=true) :
 (zbx s o).Page=(zbu o s.Page).Page/\enough (zbx s o).Rights n=true:=by
 have:=z0e e c d;rw[z3d a b,zbZ.2 this.1];exact⟨rfl,this.2⟩
theorem z3e (s:Slot)(o:List Slot):zc0 (zbx s o).Rights=true:=by unfold zbx;cases ieq s.Page (-1)<;>cases ieq (zbu o s.Page).Page (-1)<;>cases ieq (zd0 s.Rights (zbu o s.Page).Rights) 0<;>first|rfl|exact both_ok _ _
theorem zBH {b:List Entry}{t p:Int}{e:Entry}:e∈zcG b t p↔e∈b/\¬ (e.Tag=t/\e.Page=p):=by unfold zcG;rw[List.mem_filter];refine and_congr Iff.rfl ?_;unfold zFP;by_cases h:e.Tag=t;{rw [show ine e.Tag t=false by simp[ine,h],cond_false,zHx];simp[h]};{rw [zHx.2 h];simp[h]}
theorem z92 {b:List Entry}{e x:Entry}(h:x∈zrj b e):x∈b\/x=e:=by unfold zrj ap at h;have:x∈zcG b e.Tag e.Page++[e]:=(by cases a:igt (ln (zcG b e.Tag e.Page++[e])) 6 with|true=>rw[a,cond_true]at h;exact kM h|false=>rw[a,cond_false]at h;exact h);rcases jJ.1 this with h|h;{exact .inl (zBH.1 h).1};{exact .inr (qF.1 h)}
theorem zbfk {n:Nat}(h:n<=100):wsub .i64 (n:Int) 6=(n:Int)-6:=by unfold wsub IntKind.wrap;simp[IntKind.signed,IntKind.bits];omega
theorem z1S {b:List Entry}(h:zff b=true)(e:Entry):zff (zrj b e)=true:=by have c:=zHh.1 h;have k:(zcG b e.Tag e.Page).length<=6:=qU (uA _ _) c.2;have d:(zcG b e.Tag e.Page++[e]).Pairwise (fun y x=>sameKey x y=false):=(by rw[List.pairwise_append];refine⟨c.1.sublist List.filter_sublist,List.pairwise_singleton _ _,fun x i y j=>?_⟩;rw[qF.1 j];have:=(zBH.1 i).2;unfold sameKey;by_cases a:e.Tag=x.Tag;{rw [zbs.2 a,cond_true,zbZ];exact fun f=>this ⟨a.symm,f.symm⟩};{rw [zbZ.2 a];rfl});unfold zrj ap;cases g:igt (ln (zcG b e.Tag e.Page++[e])) 6 with|true=>rw[cond_true,zHh];refine⟨d.sublist (List.drop_sublist _ _),?_⟩;unfold dp ln;rw[kD,k9,zbfk (by omega),vJ,kD,k9];omega|false=>rw[cond_false,zHh];refine⟨d,?_⟩;have:=jV g;unfold ln at this;omega
theorem z6W {h r:Host}{m:Int}(c:hasB m (ln h.Mons)=true){y:Mon}(b:r.Mons=up h.Mons m y)(a:r.Memory=h.Memory)(k:KeepP (ix h.Mons m mZ) y)(g:y.Guests=(ix h.Mons m mZ).Guests)(o:y.Outs=(ix h.Mons m mZ).Outs)(p:y.Pending=(ix h.Mons m mZ).Pending)(t:y.Traps=(ix h.Mons m mZ).Traps)(w:y.Own=(ix h.Mons m mZ).Own):Like h r:=by have e:∀{d:Type} (F:Mon->d),F y=F (ix h.Mons m mZ)->∀i,hasB i (ln h.Mons)=true->F (ix r.Mons i mZ)=F (ix h.Mons i mZ):=(by intro d F f i j;rw[b];by_cases e:m=i;{subst e;rw[zbg c];exact f};{rw [zbt (zG.1 c).1 (zG.1 j).1 e]});exact⟨by rw[b,zbQ],e Mon.Guests g,e Mon.Outs o,e Mon.Pending p,e Mon.Traps t,e Mon.Own w,fun i q _ _=>zPq c b a k i q⟩
theorem z96 {h:Host}(R:Rt h){m g:Int}(d:hasB m (ln h.Mons)=true)(r:hasB g (ln (ix h.Mons m mZ).Tables)=true){k:Kept}(u:KOk k (ix (ix h.Mons m mZ).Guests g gZ).Live (ix h.Mons m mZ).Outer) :
 Rt {h with Mons:=up h.Mons m {ix h.Mons m mZ with Tables:=up (ix h.Mons m mZ).Tables g k}}:=by
 have f:∀e,zcY h e=true->zcY {h with Mons:=up h.Mons m {ix h.Mons m mZ with Tables:=up (ix h.Mons m mZ).Tables g k}} e=true:=by intro e b;obtain⟨l,n,p⟩:=zfS.1 b;rw[zfS];show hasB (zdp e.Tag) (ln (up h.Mons m _))=true/\hasB (zeb e.Tag) (ln (ix (up h.Mons m _) (zdp e.Tag) mZ).Guests)=true/\below' _ (zbx (zbu (ix (ix (up h.Mons m _) (zdp e.Tag) mZ).Guests (zeb e.Tag) gZ).Live e.Page) (ix (up h.Mons m _) (zdp e.Tag) mZ).Outer)=true;rw[zdI];refine⟨l,?_⟩;by_cases a:m=zdp e.Tag;{rw [<- a]at l n p ⊢;rw[zbg d];exact⟨n,p⟩};{rw [zbt (zG.1 d).1 (zG.1 l).1 a];exact⟨n,p⟩}
 refine⟨fun i s=>?_,fun e b=>f e (R.e1 e b),fun e b=>f e (R.e2 e b)⟩
 show TOk (ix (up h.Mons m _) i mZ)
 have c:hasB i (ln h.Mons)=true:=by have:hasB i (ln (up h.Mons m {ix h.Mons m mZ with Tables:=up (ix h.Mons m mZ).Tables g k}))=true:=s;rwa [zdI] at this
 by_cases a:m=i
 .subst a;rw[zbg d];intro j q
  by_cases e:g=j
  .subst e
   show KOk (ix (up _ g k) g kZ) _ _
   rw[zbg r];exact u
  .show KOk (ix (up _ g k) j kZ) _ _
   rw[zbt (zG.1 r).1 (zG.1 q).1 e];exact R.t m d j q
 .rw [zbt (zG.1 d).1 (zG.1 c).1 a];exact R.t i c
theorem z9R {h:Host}(H:HOk h){m g:Int}(a:hasB m (ln h.Mons)=true)(c:hasB g (ln (ix h.Mons m mZ).Tables)=true){k:Kept}(b:Rt h->KOk k (ix (ix h.Mons m mZ).Guests g gZ).Live (ix h.Mons m mZ).Outer) :
 Op h {h with Mons:=up h.Mons m {ix h.Mons m mZ with Tables:=up (ix h.Mons m mZ).Tables g k}}:=by
 have X:=H.mon a;have kp:KeepP (ix h.Mons m mZ) {ix h.Mons m mZ with Tables:=up (ix h.Mons m mZ).Tables g k}:=⟨rfl,rfl⟩;exact⟨zXh H a kp (zlZ X kp rfl (zbQ _ _ _) rfl X.outs X.pend X.tr X.own X.gs),z6W (y:={ix h.Mons m mZ with Tables:=up (ix h.Mons m mZ).Tables g k}) a rfl rfl kp rfl rfl rfl rfl rfl,fun R=>z96 R a c (b R)⟩
theorem zON {k:Kept}{a b:List Slot}(h:KOk k a b)(p:Int):KOk (filled k a b p) a b:=by unfold filled zdC;cases d:hasB p (ln k.Known) with|false=>exact h|true=>have f:hasB p (ln k.Slots)=true:=(by unfold ln at d ⊢;rw[h.l2,<- h.l1];exact d);have g:hasB p (ln a)=true:=(by unfold ln at d ⊢;rw[<- h.l1];exact d);rw[cond_true,f,cond_true,g,cond_true];refine⟨by rw[zbQ];exact h.l1,by rw[zbQ];exact h.l2,fun i c=>?_⟩;by_cases e:p=i;{subst e;show ix (up _ p _) p sZ=bif ix (up _ p true) p false then _ else _;rw[zbg f,zbg d];rfl};{show ix (up _ p _) i sZ=bif ix (up _ p true) i false then _ else _;rw[zbt (zG.1 f).1 (zG.1 c).1 e,zbt (zG.1 f).1 (zG.1 c).1 e];exact h.at' i c}
theorem zbdr {h:Host}(H:HOk h){m g:Int}(b:hasB m (ln h.Mons)=true)(hg:hasB g (ln (ix h.Mons m mZ).Guests)=true)(a:Int):Op h (zdM h m g a):=
 z9R H b (by unfold ln;rw[(H.mon b).gt];exact hg) fun R=>zON (R.t m b g hg) a
theorem z5y {k:Kept}{a b:List Slot}(h:KOk k a b){p:Int}(c:hasB p (ln a)=true):zfq k p=bif ix k.Known p false then zbx (ix a p sZ) b else noSlot:=by have d:hasB p (ln k.Known)=true:=(by unfold ln at c ⊢;rw[h.l1];exact c);have e:hasB p (ln k.Slots)=true:=(by unfold ln at c ⊢;rw[h.l2];exact c);unfold zfq zlX zdC;rw[d,e,cond_true,cond_true,h.at' p c];cases ix k.Known p false<;>rfl
theorem z2V {k:Kept}{a b:List Slot}(h:KOk k a b){p:Int}(c:hasB p (ln a)=true):zfq (filled k a b p) p=zbx (ix a p sZ) b:=by rw[z5y (zON h p) c];have d:hasB p (ln k.Known)=true:=(by unfold ln at c ⊢;rw[h.l1];exact c);have e:hasB p (ln k.Slots)=true:=(by unfold ln at c ⊢;rw[h.l2];exact c);have:ix (filled k a b p).Known p false=true:=(by unfold filled zdC;rw[d,e,c];exact zbg d _ _);rw[this];rfl
theorem zbeA {h:Host}(H:HOk h){m g a:Int}(i:Bool)(n:Rt h->zcY h (zV6 h m g a)=true):Op h (zxJ h m g a i):=by have f:∀(j k:List Entry),Like h ⟨h.Memory,h.Mons,j,k⟩:=fun _ _=>⟨rfl,fun _ _=>rfl,fun _ _=>rfl,fun _ _=>rfl,fun _ _=>rfl,fun _ _=>rfl,fun _ _ _ _=>rfl⟩;have d:∀(b:List Entry),(∀e∈b,zcY h e=true)->Rt h->∀e∈zrj b (zV6 h m g a),zcY h e=true:=(by intro b l R e c;rcases z92 c with c|c;{exact l e c};{rw [c];exact n R});unfold zxJ;cases i;{exact⟨⟨H.m12,H.pgs,H.n1,H.n3,z1S H.b1 _,H.b2,H.mons,H.uq⟩,f _ _,fun R=>⟨R.t,fun e c=>d _ R.e1 R e c,R.e2⟩⟩};{exact⟨⟨H.m12,H.pgs,H.n1,H.n3,H.b1,z1S H.b2 _,H.mons,H.uq⟩,f _ _,fun R=>⟨R.t,R.e1,fun e c=>d _ R.e2 R e c⟩⟩}
theorem z9q {b:List Entry}{t p:Int}{e:Entry}(h:zHp b t p=some e):e∈b/\e.Tag=t/\e.Page=p:=by unfold zHp at h;have a:=List.find?_some h;rw[zce,zbs,zbs]at a;exact⟨uN h,a⟩
theorem zkt {h:Host}{m g:Int}:zb0 h m g=true↔HOk h/\hasB m (ln h.Mons)=true/\hasB g (ln (ix h.Mons m mZ).Guests)=true:=by unfold zb0;rw[zce,zce,zkN]
structure GOk (x:Guest):Prop where
 prog:zc6 x.Prog=true
 a:win x.A 0 99=true
 pc:win x.Pc 0 12=true
 w:zcS x.Written 4 8=true
 l:zcS x.Live 4 8=true
 ctl:zgE x.Ctl=true
 pend:zc5 x.Pending=true
 ex:zhz x.Exit=true
 seen:ile (ln x.Seen) 40=true
theorem zvg {x:Guest}:zc3 x=true↔GOk x:=by unfold zc3;simp only[qD];exact⟨fun⟨a,b,c,d,e,f,g,h,i⟩=>⟨a,b,c,d,e,f,g,h,i⟩,fun⟨a,b,c,d,e,f,g,h,i⟩=>⟨a,b,c,d,e,f,g,h,i⟩⟩
theorem z7U {s:Slot}:zdD s 8=true↔s=noSlot\/(0<=s.Page/\s.Page<=7/\1<=s.Rights/\s.Rights<=3):=by unfold zdD;rw[zvB,zqI,ztF];have:wsub .i64 8 1=7:=(by decide);simp only[this,zvB,zcJ];simp[igt];constructor;{rintro (h|⟨h,⟨a,b⟩,c⟩);{exact .inl h};{exact .inr ⟨a,b,c⟩}};{intro h;by_cases d:s=noSlot;{exact .inl d};{rcases h with h|⟨a,b,c⟩;{exact .inl h};{exact .inr ⟨d,⟨a,b⟩,c⟩}}}
theorem HOk.guest {h:Host}(H:HOk h){m g:Int}(a:hasB m (ln h.Mons)=true)(hg:hasB g (ln (ix h.Mons m mZ).Guests)=true):GOk (ix (ix h.Mons m mZ).Guests g gZ):=zvg.1 ((H.mon a).gs _ (zmL hg _))
structure Walked (l:List Slot) (p n q:Int):Prop where
 hp:hasB p (ln l)=true
 pg:(ix l p sZ).Page=q
 q8:hasB q 8=true
 en:enough (ix l p sZ).Rights n=true
theorem walked {x:Guest}(X:GOk x){p n:Int}(a:zfN x.Live p n=true):Walked x.Live p n (zcE x.Live p n):=by have e:zcE x.Live p n=(zbu x.Live p).Page:=(by unfold zcE;rw[a];rfl);unfold zfN at a;by_cases b:(zbu x.Live p).Page = -1;{rw [zbs.2 b]at a;cases a};{rw [zbZ.2 b,cond_false,zce]at a;have c:hasB p (ln x.Live)=true:=(by cases c:hasB p (ln x.Live) with|true=>rfl|false=>exact absurd (by unfold zbu;rw[c];rfl) b);rw[zpb c] at e b a;rw[e];have d:=z7U.1 ((zsM.1 X.l).1 _ (zmL c sZ));refine⟨c,rfl,?_,a.1⟩;rcases d with d|d;{rw [d]at b;exact absurd rfl b};{exact zG.2 (by omega)}}
structure Looked (h r:Host) (m g page need q host:Int):Prop where
 op:Op h r
 inn:(ix (ix r.Mons m mZ).Outer q sZ).Page=host
 ne:host≠-1
 en:enough (zbx (ix (ix (ix h.Mons m mZ).Guests g gZ).Live page sZ) (ix r.Mons m mZ).Outer).Rights need=true
 cp:(zbx (ix (ix (ix h.Mons m mZ).Guests g gZ).Live page sZ) (ix r.Mons m mZ).Outer).Page=host
 dk:∀k,hasB k 8=true->k≠q->ix (ix r.Mons m mZ).Dirty k false=ix (ix h.Mons m mZ).Dirty k false
 dq:need=2->ix (ix r.Mons m mZ).Dirty q false=true
 d1:need=1->(ix r.Mons m mZ).Dirty=(ix h.Mons m mZ).Dirty
 dm:∀i,hasB i (ln h.Mons)=true->i≠m->(ix r.Mons i mZ).Dirty=(ix h.Mons i mZ).Dirty
theorem zTO {h:Host}(S:Safe h){m g a b q:Int}(f:hasB m (ln h.Mons)=true)(hg:hasB g (ln (ix h.Mons m mZ).Guests)=true)(l:b=1\/b=2)(W:Walked (ix (ix h.Mons m mZ).Guests g gZ).Live a b q)(c:Bool)(d:zfq (zcB h m g) a=zbx (ix (ix (ix h.Mons m mZ).Guests g gZ).Live a sZ) (ix h.Mons m mZ).Outer)(i:enough (zfq (zcB h m g) a).Rights b=true) :
 Op h (zim h m g a c).1/\(zim h m g a c).2=((ix (ix h.Mons m mZ).Outer q sZ).Page,true)/\(ix (ix h.Mons m mZ).Outer q sZ).Page≠-1/\(zim h m g a c).1.Mons=h.Mons:=by
 rw[d]at i;have e:=zqX l i;rw[W.pg,zpb ((S.ok.mon f).hasO W.q8)]at e;refine⟨zbeA S.ok c fun R=>?_,?_,e.2.1,?_⟩
 .obtain⟨t1,t2⟩:=S.ok.tag f hg;obtain⟨j,k,_⟩:=zZw t1 t2;rw[zfS]
  show hasB (zdp (zeN m g)) _=true/\hasB (zeb (zeN m g)) (ln (ix h.Mons (zdp (zeN m g)) mZ).Guests)=true/\below' ⟨(zfq (zcB h m g) a).Page,(zfq (zcB h m g) a).Rights⟩ (zbx (zbu (ix (ix h.Mons (zdp (zeN m g)) mZ).Guests (zeb (zeN m g)) gZ).Live a) (ix h.Mons (zdp (zeN m g)) mZ).Outer)=true
  rw[j,k,zpb W.hp,d];exact⟨f,hg,zsR.2 (.inr ⟨rfl,z0l (z3e _ _)⟩)⟩
 .show ((zfq (zcB h m g) a).Page,true)=_
  rw[d,e.2.2]
 .show (zxJ h m g a c).Mons=_
  unfold zxJ;cases c<;>rfl
theorem zYm {h:Host}(S:Safe h){m g page need q:Int}(x:hasB m (ln h.Mons)=true)(hg:hasB g (ln (ix h.Mons m mZ).Guests)=true)(D:need=1\/need=2)(W:Walked (ix (ix h.Mons m mZ).Guests g gZ).Live page need q)(N:Bool){b:List Entry}(hb:∀e∈b,zcY h e=true)(hd:need=2->ix (ix h.Mons m mZ).Dirty q false=true) :
 Looked h (zil h b m g page need q N).1 m g page need q (zil h b m g page need q N).2.1/\(zil h b m g page need q N).2.2=true:=by
 have X:=S.ok.mon x;have r:=W.q8;have L:=zpb (X.hasO W.q8);unfold zil;cases K:zhW b m g page need with
 |true=>
  rw[cond_true];unfold zhW at K;cases B:zsY b m g page with
  |none=>rw[B]at K;cases K
  |some e=>rw[B]at K;have A:enough e.Rights need=true:=K;obtain⟨f1,f2,f3⟩:=z9q B;obtain⟨t1,t2⟩:=S.ok.tag x hg;obtain⟨b1,b2,_⟩:=zZw t1 t2;obtain⟨_,_,v⟩:=zfS.1 (hb e f1);rw[f2,b1,b2,f3,zpb W.hp]at v;have T:(⟨e.Host,e.Rights⟩:Slot)≠noSlot:=fun f=>(by have:e.Rights=0:=congrArg Slot.Rights f;rw[this,zrU D]at A;cases A);rcases zsR.1 v with v|⟨v,h4⟩;{exact absurd v T};{have h5:=zW5 h4 A;have f:=zqX D h5;rw[W.pg,L]at f;have O:e.Host=_:=v;refine⟨⟨Op.refl S.ok,f.2.2.symm.trans v.symm,?_,h5,v.symm,fun _ _ _=>rfl,hd,fun _=>rfl,fun _ _ _=>rfl⟩,rfl⟩;show e.Host≠-1;rw[O,f.2.2];exact f.2.1}
 |false=>
  rw[cond_false];have P:=S.rt.t m x g hg;cases y:zfb h m g page need with
  |false=>rw[cond_false];have E:ix (zcB h m g).Known page false=true/\enough (zfq (zcB h m g) page).Rights need=true:=(by unfold zfb at y;cases n:zlX (zcB h m g) page with|false=>rw[n]at y;cases y|true=>rw[n,cond_true]at y;refine⟨?_,?_⟩;{unfold zlX at n;cases hh:zdC (zcB h m g) page with|false=>rw[hh]at n;cases n|true=>rw[hh]at n;exact n};{cases hz:ieq (zfq (zcB h m g) page).Page (-1) with|true=>rw[hz]at y;cases y|false=>rw[hz]at y;simpa using y});have H:zfq (zcB h m g) page=zbx (ix (ix (ix h.Mons m mZ).Guests g gZ).Live page sZ) (ix h.Mons m mZ).Outer:=(by have Z:=z5y P W.hp;have h1:ix (ix (ix h.Mons m mZ).Tables g kZ).Known page false=true:=E.1;rw[h1]at Z;exact Z);obtain⟨U,V,Y,d⟩:=zTO S x hg D W N H E.2;rw[V];have J:=E.2;rw[H]at J;have f:=zqX D J;rw[W.pg,L]at f;exact⟨⟨U,by rw[d],Y,by rw[d];exact J,by rw[d];exact f.2.2,fun _ _ _=>by rw[d],fun e=>by rw[d];exact hd e,fun _=>by rw[d],fun _ _ _=>by rw[d]⟩,rfl⟩
  |true=>
   rw[cond_true];have M:=zTX S.ok (m:=m) (p:=q) need x r;have c:hasB m (ln (mended h m q need).Mons)=true:=(by rw[M.op.like.has];exact x);have C:(ix (mended h m q need).Mons m mZ).Guests=(ix h.Mons m mZ).Guests:=M.op.like.g m x;have l:hasB g (ln (ix (mended h m q need).Mons m mZ).Guests)=true:=(by rw[C];exact hg);have G:Safe (mended h m q need):=M.op.safe S;have F:=zbdr G.ok c l page;have S2:Safe (zdM (mended h m q need) m g page):=F.safe G;have R:hasB m (ln (zdM (mended h m q need) m g page).Mons)=true:=(by rw[F.like.has];exact c);have u:ix (zdM (mended h m q need) m g page).Mons m mZ={ix (mended h m q need).Mons m mZ with Tables:=up (ix (mended h m q need).Mons m mZ).Tables g (filled (zcB (mended h m q need) m g) (zcO (mended h m q need) m g) (ix (mended h m q need).Mons m mZ).Outer page)}:=zbg c _ _;have Q:hasB g (ln (ix (zdM (mended h m q need) m g page).Mons m mZ).Guests)=true:=(by rw[u];exact l);have w:(ix (zdM (mended h m q need) m g page).Mons m mZ).Guests=(ix h.Mons m mZ).Guests:=(by rw[u];exact C);have W2:Walked (ix (ix (zdM (mended h m q need) m g page).Mons m mZ).Guests g gZ).Live page need q:=(by rw[w];exact W);have H:zfq (zcB (zdM (mended h m q need) m g page) m g) page=zbx (ix (ix (ix (zdM (mended h m q need) m g page).Mons m mZ).Guests g gZ).Live page sZ) (ix (zdM (mended h m q need) m g page).Mons m mZ).Outer:=(by have:zcB (zdM (mended h m q need) m g page) m g=filled (zcB (mended h m q need) m g) (zcO (mended h m q need) m g) (ix (mended h m q need).Mons m mZ).Outer page:=(by unfold zcB;rw[u];exact zbg (by unfold ln;rw[(G.ok.mon c).gt];exact l) _ _);rw[this];refine(z2V (p:=page) (G.rt.t m c g l) (by rw[C];exact W.hp)).trans ?_;rw[u]);have z:(ix (zdM (mended h m q need) m g page).Mons m mZ).Outer=(ix (mended h m q need).Mons m mZ).Outer:=by rw[u]
   have j:=zpb ((G.ok.mon c).hasO r);have a:=zWJ (s:=ix (ix (ix h.Mons m mZ).Guests g gZ).Live page sZ) (o:=(ix (mended h m q need).Mons m mZ).Outer) D (by rw[W.pg];have:=zG.1 r;omega) (by rw[W.pg,j];exact M.inn) W.en (by
    rw[W.pg,j];rcases D with rfl|rfl
    .rcases (G.ok.mon c).enough1 r M.inn with e|e<;>rw [e]<;>decide
    .rw [M.ri (by decide)];decide)
   have J:enough (zfq (zcB (zdM (mended h m q need) m g page) m g) page).Rights need=true:=(by rw[H,w,z];exact a.2);obtain⟨U,V,Y,d⟩:=zTO S2 R Q D W2 N H J;rw[V];have I:=a.1;rw[W.pg,j]at I;refine⟨⟨(M.op.trans F).trans U,by rw[d],Y,by rw[d,z];exact a.2,by rw[d,z];exact I,fun k n f=>?_,fun e=>?_,fun e=>?_,fun i hi f=>?_⟩,rfl⟩;{rw [d,u];exact M.dk k n f};{rw [d,u];exact M.dt (by rw[e];decide)};{rw [d,u];exact M.d0 (by rw[e];decide)};{rw [d];show (ix (up (mended h m q need).Mons m _) i mZ).Dirty=_;rw[zbt (zG.1 x).1 (zG.1 hi).1 (Ne.symm f)];exact M.dm i hi f}
theorem zJN {n:Int}:zku n=true↔n=1\/n=2:=by unfold zku;by_cases h:n=1;{rw [zbs.2 h];simp[h]};{rw [zbZ.2 h,cond_false,zbs];simp[h]}
theorem zr3 {h:Host}{m g page need:Int}:zcd h m g page need=true↔zb0 h m g=true/\(need=1\/need=2)/\zfN (zcO h m g) page need=true:=by unfold zcd;rw[zce,zce,zJN]
theorem zTQ {h:Host}(S:Safe h){m g page need:Int}(j:Bool)(t:zcd h m g page need=true){b:List Entry}(r:∀e∈b,zcY h e=true) :
 Looked h (lookOf h b m g page need j).1 m g page need (zcE (zcO h m g) page need) (lookOf h b m g page need j).2.1/\(lookOf h b m g page need j).2.2=true:=by
 obtain⟨w,A,B⟩:=zr3.1 t;obtain⟨_,a,hg⟩:=zkt.1 w;have W:=walked (S.ok.guest a hg) B;unfold lookOf;rw[t,cond_true];rcases A with rfl|rfl
 .rw [show ieq 1 2=false by decide,cond_false]
  exact zYm S a hg (.inl rfl) W j r (fun e=>absurd e (by decide))
 .rw [show ieq 2 2=true by decide,cond_true]
  obtain⟨d,C⟩:=zPj S.ok a (zcE (zcO h m g) page 2);have p:hasB m (ln (zbK h m (zcE (zcO h m g) page 2)).Mons)=true:=by rw[d.like.has];exact a
  have f:ix (zbK h m (zcE (zcO h m g) page 2)).Mons m mZ={ix h.Mons m mZ with Dirty:=up (ix h.Mons m mZ).Dirty (zcE (zcO h m g) page 2) true}:=zbg a _ _;have x:=(S.ok.mon a).hasD W.q8;obtain⟨L,y⟩:=zYm (d.safe S) p (g:=g) (page:=page) (need:=2) (q:=zcE (zcO h m g) page 2) (by rw[f];exact hg) (.inr rfl) (by rw[f];exact W) j (b:=b) (fun e z=>by
   obtain⟨l,u,v⟩:=zfS.1 (r e z);rw[zfS];have n:hasB (zdp e.Tag) (ln (zbK h m (zcE (zcO h m g) page 2)).Mons)=true:=by rw[d.like.has];exact l
   refine⟨n,by rw[d.like.g _ l];exact u,?_⟩
   rw[d.like.g _ l];have:(ix (zbK h m (zcE (zcO h m g) page 2)).Mons (zdp e.Tag) mZ).Outer=(ix h.Mons (zdp e.Tag) mZ).Outer:=by show (ix (up h.Mons m _) _ mZ).Outer=_;by_cases c:m=zdp e.Tag;{rw [<- c,zbg a]};{rw [zbt (zG.1 a).1 (zG.1 l).1 c]}
   rw[this];exact v) (fun _=>by rw[f];exact zbg x _ _)
  refine⟨⟨d.trans L.op,L.inn,L.ne,?_,?_,fun k s c=>?_,L.dq,fun e=>absurd e (by decide),fun i n c=>?_⟩,y⟩
  .have:=L.en;rw[f] at this;exact this
  .have:=L.cp;rw[f] at this;exact this
  .rw [L.dk k s c,f];exact zbt (zG.1 W.q8).1 (zG.1 s).1 (Ne.symm c) _ _
  .rw [L.dm i (by rw[d.like.has];exact n) c]
   show (ix (up h.Mons m _) i mZ).Dirty=_
   rw[zbt (zG.1 a).1 (zG.1 n).1 (Ne.symm c)]
theorem zSV {x y:Int}(a : -9223372036854775808<=x+y)(b:x+y<=9223372036854775807):zM .i64 x y=x+y:=by unfold zM;simp only[IntKind.wrap,IntKind.signed,IntKind.bits];simp;omega
theorem zNM {n:Nat}{P:Int->Prop}(h:∀i:Fin n,P ((i.val:Nat):Int)){x:Int}(a:0<=x)(b:x<n):P x:=by have:=h ⟨x.toNat,by omega⟩;simpa [show ((x.toNat:Nat):Int)=x by omega] using this
theorem zYQ {p:Int}:zc5 p=true↔0<=p/\p<=255:=by unfold zc5;exact zcJ
theorem zT4 {p:Int}(h:zc5 p=true):zc5 (zkT p)=true:=by have a:=zYQ.1 h;exact zNM (n:=256) (P:=fun x=>zc5 (zkT x)=true) (by decide +kernel) a.1 (by omega)
theorem zT3 {p:Int}(h:zc5 p=true)(n:Int):zc5 (zn8 p n)=true:=by unfold zn8 zeq;rw[h,cond_true];cases e:win n 0 7 with|false=>exact h|true=>rw[cond_true];have b:=zYQ.1 h;have a:=zcJ.1 e;exact zNM (n:=256) (P:=fun x=>∀k,0<=k->k<(8:Int)->zc5 (wor .i64 x (zoZ .i64 1 k))=true) (fun i k c d=>zNM (n:=8) (P:=fun k=>zc5 (wor .i64 ((i.val:Nat):Int) (zoZ .i64 1 k))=true) (by revert i;decide +kernel) c d) b.1 (by omega) n a.1 (by omega)
structure GKeep (x y:Guest):Prop where
 ok:GOk y
 live:y.Live=x.Live
theorem z3J {x:Guest}(X:GOk x){c:Int}(b:win c 0 12=true):GOk {x with Pc:=c}:=⟨X.prog,X.a,b,X.w,X.l,X.ctl,X.pend,X.ex,X.seen⟩
theorem z3I {x:Guest}(X:GOk x){c:Int}(a:win c 0 99=true):GOk {x with A:=c}:=⟨X.prog,a,X.pc,X.w,X.l,X.ctl,X.pend,X.ex,X.seen⟩
theorem zjW {x:Guest}(X:GOk x):GKeep x (zb3 x):=by unfold zb3;have a:=zcJ.1 X.pc;cases h:ige x.Pc 12 with|true=>exact⟨z3J X (by decide),rfl⟩|false=>have:¬ x.Pc≥12:=jV h;refine⟨z3J X ?_,rfl⟩;rw[zSV (by omega) (by omega)];exact zcJ.2 (by omega)
theorem zXb {x:Guest}(X:GOk x)(n:Int):GKeep x (saw x n):=by unfold saw;cases h:ilt (ln x.Seen) 40 with|false=>exact⟨X,rfl⟩|true=>have:ln x.Seen<40:=qE h;refine⟨⟨X.prog,X.a,X.pc,X.w,X.l,X.ctl,X.pend,X.ex,qJ ?_⟩,rfl⟩;unfold ln ap at *;simp;omega
theorem zjX {x:Guest}(X:GOk x){e:GExit}(b:zhz e=true):GKeep x (stopped x e):=⟨⟨X.prog,X.a,X.pc,X.w,X.l,X.ctl,X.pend,b,X.seen⟩,rfl⟩
theorem z2d {x:Guest}(X:GOk x){p:Int}(b:zc5 p=true):GKeep x {x with Pending:=p}:=⟨⟨X.prog,X.a,X.pc,X.w,X.l,X.ctl,b,X.ex,X.seen⟩,rfl⟩
theorem z19 {x:Guest}(X:GOk x)(b:Bool):GKeep x {x with Halted:=b}:=⟨⟨X.prog,X.a,X.pc,X.w,X.l,X.ctl,X.pend,X.ex,X.seen⟩,rfl⟩
theorem z2a {x:Guest}(X:GOk x):GKeep x (held x):=⟨(zjW (z19 X true).ok).ok,(zjW (z19 X true).ok).live⟩
theorem z6E {x:Guest}(X:GOk x){v:Int}(c:win v 0 99=true):GKeep x (loaded x v):=by have a:=zXb (z3I X c) v;have b:=zjW a.ok;exact⟨b.ok,b.live.trans a.live⟩
theorem zQx {x:Guest}(X:GOk x):GKeep x (interrupted x):=by unfold interrupted;cases zjb x with|false=>exact⟨X,rfl⟩|true=>have a:=z2d X (zT4 X.pend);rw[cond_true];exact⟨(zXb a.ok _).ok,(zXb a.ok _).live⟩
theorem zMk {p:List Ins}(h:zc6 p=true)(i:Int):zdO (zcv p i)=true:=by unfold zcv;cases a:hasB i (ln p) with|false=>rfl|true=>unfold zc6 at h;rw[zce,qL]at h;exact h.1 _ (zmL a _)
theorem zbet {i:Ins}(h:zdO i=true)(a:i.Op=3\/i.Op=4):0<=i.X/\i.X<=15:=by unfold zdO at h;rcases a with e|e<;>rw [e]at h<;>exact zcJ.1 h
theorem z6L {i:Ins}(h:zdO i=true)(a:i.Op=5\/i.Op=6):0<=i.X/\i.X<=99:=by unfold zdO at h;rcases a with e|e<;>rw [e]at h<;>exact zcJ.1 h
theorem zbe2 {i:Ins}(h:zdO i=true)(a:i.Op=8):0<=i.X/\i.X<=11:=by unfold zdO at h;rw[a]at h;exact zcJ.1 h
theorem zbe1 {i:Ins}(h:zdO i=true)(a:i.Op=1):0<=i.X/\i.X<=99:=by unfold zdO at h;rw[a]at h;exact zcJ.1 h
theorem z3K {x:Guest}(X:GOk x):GKeep x (plainly x):=by have M:=zjW X;have b:=zMk X.prog x.Pc;unfold plainly;cases ine (zbe x) 2 with|true=>exact⟨X,rfl⟩|false=>rw[cond_false];(cases win x.A 0 99 with|false=>exact M|true=>rw[cond_true];(cases win (zcv x.Prog x.Pc).X 0 99 with|false=>exact M|true=>rw[cond_true];by_cases c:(zcv x.Prog x.Pc).Op=1;{rw [zbs.2 c,cond_true];exact⟨z3I M.ok (zcJ.2 (zbe1 b c)),M.live⟩};{rw [zbZ.2 c,cond_false];by_cases d:(zcv x.Prog x.Pc).Op=2;{rw [zbs.2 d,cond_true];refine⟨z3I M.ok ?_,M.live⟩;have f:=zcJ.1 X.a;have i:0<=(zcv x.Prog x.Pc).X/\(zcv x.Prog x.Pc).X<=99:=(by unfold zdO at b;rw[d]at b;exact zcJ.1 b);rw[zcJ];unfold zrM;rw[zSV (by omega) (by omega)];have g:=Int.tmod_nonneg (a:=x.A+(zcv x.Prog x.Pc).X) 100 (by omega);have h:=Int.tmod_lt_of_pos (x.A+(zcv x.Prog x.Pc).X) (show (0:Int)<100 by omega);omega};{rw [zbZ.2 d,cond_false];by_cases e:(zcv x.Prog x.Pc).Op=8;{rw [zbs.2 e,cond_true];cases ieq x.A 0 with|true=>have:=zbe2 b e;exact⟨z3J M.ok (zcJ.2 (by omega)),M.live⟩|false=>exact M};{rw [zbZ.2 e];exact M}}}))
theorem zuS {c:List Int}:zcn c=true↔(∀x∈c,win x 0 99=true)/\ln c=4:=by unfold zcn;rw[zce,qL,zbs]
theorem znH (h:Host)(m:Int):∀(n i:Nat),(zcw h m n i).length=n
 | 0,_=>rfl
 |n+1,i=>by rw[zcw,q0,znH h m n]
theorem zPs (h:Host)(m:Int):∀(n i k:Nat) (a:k<(zcw h m n i).length),(zcw h m n i)[k]=zcm h m ((i+k:Nat):Int)
 | 0,i,k,a=>by simp[zcw]at a
 |n+1,i,k,a=>by cases k with|zero=>rfl|succ k=>have:=zPs h m n (i+1) k (by simpa [zcw] using a);simp only[zcw,List.getElem_cons_succ];rw[this];congr 1;omega
theorem zrh {h:Host}{m q:Int}(b:hasB q 8=true)(d:List Int):ix (zcw h m 8 0) q d=zcm h m q:=by have c:=zG.1 b;have a:q.toNat<(zcw h m 8 0).length:=(by rw[znH];omega);have:=znz a d;rw[show ((q.toNat:Nat):Int)=q by omega] at this;rw[this,zPs];congr 1;omega
theorem zv6 (h:Host)(m:Int):ln (zcw h m 8 0)=8:=by unfold ln;rw[znH];rfl
theorem zCg {h:Host}(H:HOk h){m p:Int}(b:hasB m (ln h.Mons)=true)(a:hasB p 8=true):zcn (zcm h m p)=true:=by have X:=H.mon b;rw[<- zl4 H b a];by_cases e:(ix (ix h.Mons m mZ).Outer p sZ).Page = -1;{rw [zbs.2 e];exact((zq0 (X.slot a)).1 (X.fit p a)).1 e};{rw [zbZ.2 e];exact zT1 H.pgs _}
theorem zA6 {h:Host}(H:HOk h){m:Int}(b:hasB m (ln h.Mons)=true):zbS (zB h m)=true:=by have X:=H.mon b;unfold zB;rw[b,cond_true];unfold zbS zhP;rw[zce,qL];refine⟨X.gs,?_⟩;simp only[qD,zce,qL,zbs,zcJ];refine⟨⟨fun c d=>?_,zv6 h m⟩,⟨?_,?_⟩,?_,X.pend⟩;{obtain⟨i,a,rfl⟩:=zYt d [];rw[zv6]at a;rw[zrh a];exact zCg H b a};{unfold ln;have:=X.g1;omega};{unfold ln;have:=X.g2;omega};{unfold ile ln;have:=X.outs;exact qJ (by omega)}
structure SimT (h r:Host) (m:Int) (f:Bare->Bare):Prop where
 safe:Safe r
 seen:∀i,zB r i=bif ieq i m then f (zB h i) else zB h i
 len:r.Mons.length=h.Mons.length
theorem SimT.trans {a b c:Host}{m:Int}{f g:Bare->Bare}(x:SimT a b m f)(y:SimT b c m g):SimT a c m (fun t=>g (f t)):=by refine⟨y.safe,fun i=>?_,y.len.trans x.len⟩;rw[y.seen i,x.seen i];cases ieq i m<;>rfl
theorem Op.sim {h r:Host}(k:Op h r)(S:Safe h)(m:Int):SimT h r m id:=⟨k.safe S,fun i=>by rw[k.like.seen i];cases ieq i m<;>rfl,k.like.len⟩
theorem SimT.congr {h r:Host}{m:Int}{f g:Bare->Bare}(x:SimT h r m f)(e:f (zB h m)=g (zB h m)):SimT h r m g:=by refine⟨x.safe,fun i=>?_,x.len⟩;rw[x.seen i];by_cases a:i=m;{subst a;rw[zbs.2 rfl,cond_true,cond_true,e]};{rw [zbZ.2 a];rfl}
theorem SimT.has {h r:Host}{m:Int}{f:Bare->Bare}(x:SimT h r m f)(i:Int):hasB i (ln r.Mons)=hasB i (ln h.Mons):=by unfold ln;rw[x.len]
theorem SimT.refl {h:Host}(S:Safe h)(m:Int):SimT h h m id:=⟨S,fun i=>by cases ieq i m<;>rfl,rfl⟩
theorem zyB {h:Host}(S:Safe h){m q a:Int}(l:hasB m (ln h.Mons)=true)(f:hasB q 8=true)(J:(ix (ix h.Mons m mZ).Outer q sZ).Page=a)(y:a≠-1)(c v:Int) :
 SimT h {h with Memory:=zbN h.Memory a c v} m (fun b=>{b with Memory:=zbN b.Memory q c v})/\cellAt h.Memory a c=cellAt (zB h m).Memory q c:=by
 have H:=S.ok;have X:=H.mon l;have N:=X.slot f;have E:=hasM H N (by rw[J];exact y)
 rw[J]at E;have z:ix h.Memory a []=zcm h m q:=by have:=zl4 H l f;rw[J,zbZ.2 y,cond_false,zl3 E] at this;exact this
 have n:ln (zcm h m q)=4:=(zuS.1 (zCg H l f)).2;have d:(zB h m).Memory=zcw h m 8 0:=by unfold zB;rw[l];rfl
 have C:zin h.Memory a c=hasB c 4:=by unfold zin;rw[E,cond_true,z,n]
 have D:zin (zcw h m 8 0) q c=hasB c 4:=by unfold zin;rw[zv6,f,cond_true,zrh f,n]
 have u:cellAt h.Memory a c=cellAt (zB h m).Memory q c:=by rw[d];unfold cellAt;rw[C,D,z,zrh f]
 refine⟨?_,u⟩;cases A:hasB c 4 with
 |false=>have s:zbN h.Memory a c v=h.Memory:=(by unfold zbN;rw[C,A];rfl);rw[s];refine(SimT.refl S m).congr ?_;show zB h m={zB h m with Memory:=zbN (zB h m).Memory q c v};rw[d];have B:zbN (zcw h m 8 0) q c v=zcw h m 8 0:=(by unfold zbN;rw[D,A];rfl);rw[B,<- d]
 |true=>
  cases K:win v 0 99 with
  |false=>have s:zbN h.Memory a c v=h.Memory:=(by unfold zbN;rw[C,A,K];rfl);rw[s];refine(SimT.refl S m).congr ?_;show zB h m={zB h m with Memory:=zbN (zB h m).Memory q c v};rw[d];have B:zbN (zcw h m 8 0) q c v=zcw h m 8 0:=(by unfold zbN;rw[D,A,K];rfl);rw[B,<- d]
  |true=>have s:zbN h.Memory a c v=up h.Memory a (up (zcm h m q) c v):=(by unfold zbN;rw[C,A,K,z];rfl);have B:zbN (zcw h m 8 0) q c v=up (zcw h m 8 0) q (up (zcm h m q) c v):=(by unfold zbN;rw[D,A,K,zrh f];rfl);have G:zcn (up (zcm h m q) c v)=true:=(by have:=zuS.1 (zCg H l f);rw[zuS,zdI];refine⟨fun x O=>?_,this.2⟩;rcases qY O with h|h;{exact this.1 x h};{rw [h];exact K});have P:=(zG.1 E).1;have L:HOk {h with Memory:=zbN h.Memory a c v}:=(by rw[s];refine⟨by show (up _ _ _).length=12;rw[zbQ];exact H.m12,fun x O=>?_,H.n1,H.n3,H.b1,H.b2,H.mons,H.uq⟩;rcases qY O with h|h;{exact H.pgs x h};{rw [h];exact G});refine⟨⟨L,⟨S.rt.t,S.rt.e1,S.rt.e2⟩⟩,fun i=>?_,rfl⟩;have r:∀i k,hasB i (ln h.Mons)=true->hasB k 8=true->¬ (i=m/\k=q)->zcm {h with Memory:=zbN h.Memory a c v} i k=zcm h i k:=(by intro i k w g I;rw[<- zl4 L (m:=i) (p:=k) w g,<- zl4 H w g];show (cond (ieq (ix (ix h.Mons i mZ).Outer k sZ).Page (-1)) _ (zct (zbN h.Memory a c v) _))=_;by_cases e:(ix (ix h.Mons i mZ).Outer k sZ).Page = -1;{rw [zbs.2 e];rfl};{rw [zbZ.2 e,cond_false,cond_false,s];exact zFR P (fun e=>I (H.uniq w g l f e J P))});have F:zcm {h with Memory:=zbN h.Memory a c v} m q=up (zcm h m q) c v:=(by rw[<- zl4 L (m:=m) (p:=q) l f];show (cond (ieq (ix (ix h.Mons m mZ).Outer q sZ).Page (-1)) _ (zct (zbN h.Memory a c v) (ix (ix h.Mons m mZ).Outer q sZ).Page))=_;rw[J,zbZ.2 y,cond_false,s];exact zFQ E);by_cases w:i=m;{subst w;rw[zbs.2 rfl,cond_true];unfold zB;show (cond (hasB i (ln h.Mons)) _ _)=_;rw[l,cond_true,cond_true];show Bare.mk (zcw {h with Memory:=zbN h.Memory a c v} i 8 0) _ _ _=Bare.mk (zbN (zcw h i 8 0) q c v) _ _ _;congr 1;rw[B];refine zR8 [] (by rw[zbQ,znH,znH]) fun k g=>?_;rw[zv6]at g;rw[zrh g];by_cases e:q=k;{subst e;rw[zbg (by rw[zv6];exact f),F]};{rw [zbt (zG.1 f).1 (zG.1 g).1 e,zrh g];exact r i k l g (fun h=>e h.2.symm)}};{rw [zbZ.2 w,cond_false];unfold zB;show (cond (hasB i (ln h.Mons)) _ _)=_;cases M:hasB i (ln h.Mons) with|false=>rfl|true=>rw[cond_true,cond_true];show Bare.mk (zcw {h with Memory:=zbN h.Memory a c v} i 8 0) _ _ _=_;rw[zr7 8 0 (fun j C D=>r i (j:Int) M (zG.2 (by omega)) (fun h=>w h.1))]}
theorem zrG {h:Host}(S:Safe h){m g:Int}(a:hasB m (ln h.Mons)=true)(hg:hasB g (ln (ix h.Mons m mZ).Guests)=true){y:Guest}(k:GKeep (gOf h m g) y):SimT h (zl6 h m g y) m (fun b=>zdZ b g y):=by have X:=S.ok.mon a;have kp:KeepP (ix h.Mons m mZ) {ix h.Mons m mZ with Guests:=up (ix h.Mons m mZ).Guests g y}:=⟨rfl,rfl⟩;refine⟨zyA S a kp (zlZ X kp (zbQ _ _ _) rfl rfl X.outs X.pend X.tr X.own fun z d=>?_) (zbQ _ _ _) (fun j c=>?_) rfl,fun i=>?_,zbQ _ _ _⟩;{rcases qY d with h|h;{exact X.gs z h};{rw [h];exact zvg.2 k.ok}};{show (ix (up (ix h.Mons m mZ).Guests g y) j gZ).Live=_;by_cases e:g=j;{subst e;rw[zbg hg];exact k.live};{rw [zbt (zG.1 hg).1 (zG.1 c).1 e]}};{refine(zwI (h:=h) (r:=zl6 h m g y) a rfl rfl kp i).trans ?_;by_cases e:i=m;{subst e;rw[zbs.2 rfl,cond_true,cond_true];unfold zdZ zB;rw[a];rfl};{rw [zbZ.2 e];rfl}}
theorem zZh {h:Host}(S:Safe h){m:Int}(a:hasB m (ln h.Mons)=true){y:Mon}(kp:KeepP (ix h.Mons m mZ) y)(d:MOk y)(hg:y.Guests=(ix h.Mons m mZ).Guests)(c:y.Tables=(ix h.Mons m mZ).Tables) :
 SimT h {h with Mons:=up h.Mons m y} m (fun b=>{b with Outs:=y.Outs,Pending:=y.Pending}):=by
 refine⟨zyA S a kp d (by rw[hg]) (fun j _=>by rw[hg]) c,fun i=>?_,zbQ _ _ _⟩
 refine(zwI (h:=h) (r:={h with Mons:=up h.Mons m y}) a rfl rfl kp i).trans ?_
 by_cases e:i=m
 .subst e;rw[zbs.2 rfl,cond_true,cond_true];unfold zB;rw[a,hg];rfl
 .rw [zbZ.2 e];rfl
theorem zfo {h:Host}{m:Int}(a:hasB m (ln h.Mons)=true):zB h m=⟨zcw h m 8 0,(ix h.Mons m mZ).Guests,(ix h.Mons m mZ).Outs,(ix h.Mons m mZ).Pending⟩:=by unfold zB;rw[a];rfl
theorem z7R {h:Host}(S:Safe h){m:Int}(a:hasB m (ln h.Mons)=true):SimT h (owned h m) m id:=by unfold owned;cases b:ilt (ix h.Mons m mZ).Own 1000000000 with|false=>exact SimT.refl S m|true=>rw[cond_true];have X:=S.ok.mon a;have d:=zcJ.1 X.own;have c:(ix h.Mons m mZ).Own<1000000000:=qE b;have kp:KeepP (ix h.Mons m mZ) {ix h.Mons m mZ with Own:=zM .i64 (ix h.Mons m mZ).Own 1}:=⟨rfl,rfl⟩;refine(zZh S a kp (zlZ X kp rfl rfl rfl X.outs X.pend X.tr ?_ X.gs) rfl rfl).congr ?_;{show win (zM .i64 (ix h.Mons m mZ).Own 1) 0 1000000000=true;rw[zSV (by omega) (by omega),zcJ];omega};{rw [zfo a];rfl}
theorem z5d {h:Host}(S:Safe h){m:Int}(a:hasB m (ln h.Mons)=true)(n:Int):SimT h (zpF h m n) m (fun b=>zpI b n):=by unfold zpF;have X:=S.ok.mon a;cases c:ilt (ln (ix h.Mons m mZ).Outs) 40 with|false=>refine(SimT.refl S m).congr ?_;rw[zfo a];unfold zpI;rw[c];rfl|true=>rw[cond_true];have d:ln (ix h.Mons m mZ).Outs<40:=qE c;have kp:KeepP (ix h.Mons m mZ) {ix h.Mons m mZ with Outs:=ap (ix h.Mons m mZ).Outs [n]}:=⟨rfl,rfl⟩;refine(zZh S a kp (zlZ X kp rfl rfl rfl ?_ X.pend X.tr X.own X.gs) rfl rfl).congr ?_;{show (ap (ix h.Mons m mZ).Outs [n]).length<=40;unfold ln ap at *;simp;omega};{rw [zfo a];unfold zpI;rw[c];rfl}
end
end Go.Proofs.YthhbajmehldikaaGreat.E
