/- What is proved here: a part of the proof that the statement of this claim holds (several texts of wip/, laid together). -/
import Derived.Test.YtdaahiceaagpdaaGreatW5
namespace Go.Proofs.YtdaahiceaagpdaaGreat.E
open Go
set_option linter.unusedVariables false
set_option maxRecDepth 100000
set_option linter.unusedSimpArgs false
set_option linter.unusedSectionVars false
noncomputable section
def z1u:zO:=[(243,zpS),(244,zpQ)]++z1s
theorem zQg:zG z1u:=zh ztL (zh ztK z1t)
def zjN:Kept:=⟨rp 4 false,zkX⟩
@[simp] abbrev zwG (n:Int):Bool:=ieq n 4
@[simp] abbrev zv1 (n:Int):Kept:=zjN
def zAu:Run:=rF1 dI fun b=>(zwG b,[aT .kept (zv1 b)])
def zWF (N:Nat)(a0:Int):OA:=
 let y0:=(ln (zgE a0)); (oN (ziE a0) (oN (cond (few y0) (ieq y0 y0) false) (some [(aT .kept (⟨(rp y0 false),(zgE a0)⟩:Kept))])))
theorem zR1 (a0:Int)(hc:zwG a0=true):∃N,zWF N a0=some [aT .kept (zv1 a0)]:=by
 refine ⟨0,?_⟩;have h:a0=4:=qE hc;subst h
 change _=_
 kernel_rfl
theorem zK1:vJ 245 zAu:=kF1 zQg zk zbT zcY (zq []) zR1
def z1v:zO:=[(245,zAu)]++z1u
theorem zQh:zG z1v:=zh zK1 zQg
def zuB:List Slot:=List.replicate 8 ⟨-1,0⟩
def zgu (ps:List (List Ins)):Mon:=⟨zuB,zO8,rp 8 false,(ps.take 2).map zeE,[],0,0,(ps.take 2).map (fun _=>zjN),0⟩
theorem zLU {α β γ ρ:Type}(m:Nat)(f:α->β)(g:α->γ)(K:List β×List γ->Option ρ):∀(l:List α) (i:Nat) (u:List β×List γ),u.1.length+l.length<=2147483648->u.2.length+l.length<=2147483648 ->
 goL (fun (i:Nat) x (u:List β×List γ) k=>bif ilt (i:Int) (m:Int) then (cond (few (ln (ap u.1 [f x]))) (cond (few (ln (ap u.2 [g x]))) (k (ap u.1 [f x],ap u.2 [g x])) none) none) else K u) K l i u=K (u.1++(l.take (m-i)).map f,u.2++(l.take (m-i)).map g)
 | [],i,u,_,_=>by simp[goL]
 | x :: l,i,u,h1,h2=>by
  simp only[qW]at h1 h2;have e1:few (ln (ap u.1 [f x]))=true:=zgt (by simp[ap];omega)
  have e2:few (ln (ap u.2 [g x]))=true:=zgt (by simp[ap];omega)
  by_cases h:i<m
  .have hi:ilt (i:Int) (m:Int)=true:=qJ (by omega)
   simp only[goL,hi,e1,e2,cT];rw[zLU m f g K l (i+1) _ (by simp[ap];omega) (by simp[ap];omega)]
   rw[show m-i=m-(i+1)+1 by omega]
   simp[ap]
  .have hi:ilt (i:Int) (m:Int)=false:=qG (by omega)
   simp only[goL,hi,cF];rw[show m-i=0 by omega]
   simp
def z2z (u:List Guest×List Kept):OA:=some [AV.agg (Ty.cells .mon (⟨zuB,zO8,rp 8 false,u.1,[],0,0,u.2,0⟩:Mon))]
@[simp] abbrev zsN (ps:List (List Ins)):Bool:=pc (z81 ps)
@[simp] abbrev zIQ (ps:List (List Ins)):Mon:=zgu ps
def zDm:Run:=rF1 (dS (.sl .ins)) fun b=>(zsN b,[aT .mon (zIQ b)])
def zJG (N:Nat)(a0:lP):OA:=
 (oN (ziE 8) (oN (zo2 8) (oN (cond (few 8) (ieq 8 8) false) (iter (σ:=(Int×(Int×(Int×(Int×(Int×(Int×(Int×(lP×(lS×(lM×(lB×(lG×((List Int)×(lK×(lS×(lM×(lB×(lG×((List Int)×(lK×Unit))))))))))))))))))))) N (fun r2 s3=>let y8:=s3.2.2.2.2.2.2.2.2.2.2.2.2.2.2.1;let y7:=s3.2.2.2.2.2.2.2.2.2.2.2.2.2.2.2.1;let y6:=s3.2.2.2.2.2.2.2.2.2.2.2.2.2.2.2.2.1;let y5:=s3.2.2.2.2.2.2.2.2.2.2.2.2.2.2.2.2.2.1;let y4:=s3.2.2.2.2.2.2.2.2.2.2.2.2.2.2.2.2.2.2.1;let y3:=s3.2.2.2.2.2.2.2.1;let y2:=s3.2.2.2.2.2.2.2.2.2.2.2.2.2.2.2.2.2.2.2.1;let y1:=(ap y5 [(zoS (ix y3 s3.1 []))]);let y0:=(aT .mon (⟨y8,y7,y6,y5,y4,s3.2.2.2.2.1,s3.2.2.2.2.2.1,y2,s3.2.2.2.2.2.2.1⟩:Mon)); (cond (ilt s3.1 (ln y3)) (cond (ilt s3.1 2) (oN (inb s3.1 (ln y3)) (oN (zoT (ix y3 s3.1 [])) (oN (few (ln y1)) (oN (zwG 4) (oN (few (ln (ap y2 [(zv1 4)]))) (r2 ((zI .i64 s3.1 1),(s3.2.1,(s3.2.2.1,(s3.2.2.2.1,(s3.2.2.2.2.1,(s3.2.2.2.2.2.1,(s3.2.2.2.2.2.2.1,(y3,(s3.2.2.2.2.2.2.2.2.1,(s3.2.2.2.2.2.2.2.2.2.1,(s3.2.2.2.2.2.2.2.2.2.2.1,(s3.2.2.2.2.2.2.2.2.2.2.2.1,(s3.2.2.2.2.2.2.2.2.2.2.2.2.1,(s3.2.2.2.2.2.2.2.2.2.2.2.2.2.1,(y8,(y7,(y6,(y1,(y4,((ap y2 [(zv1 4)]),())))))))))))))))))))))))))) (some [y0])) (some [y0]))) (0,(0,(0,(0,(0,(0,(0,(a0,([],([],([],([],([],([],((zgE 8),((zjf 8),((rp 8 false),([],([],([],()))))))))))))))))))))))))
def zWn:FuncId->Nat->Option Tmpl:=zq [(186,0,{ n:=36,tm:=[(0,.sl 0 []),(2,.lp 0 0),(3,.lp 1 0),(4,ti)],lo:=[(0,[.sl 1 [],.sl 2 [],.sl 3 [],.sl 4 [],.sl 5 [],ti,ti,.sl 6 [],ti]),(1,[.sl 7 [],.sl 8 [],.sl 9 [],.sl 10 [],.sl 11 [],ti,ti,.sl 12 [],ti])],ro:=[(0,(.sl .ins),false),(1,.slot,true),(2,(.sl .int),true),(3,.bool,true),(4,.guest,true),(5,.int,true),(6,.kept,true),(7,.slot,true),(8,(.sl .int),true),(9,.bool,true),(10,.guest,true),(11,.int,true),(12,.kept,true)] })]
theorem zUI (a0:List lI)(hc:zsN a0=true):∃N,zJG N a0=some [aT .mon (zIQ a0)]:=by
 have hs:=zF.1 hc;have hl:=zcJ hs.1;refine zce fun N hNN=>?_;unfold zJG oN
 conv=>zeta
 refine must rfl (must rfl (must rfl ?_));refine (zbd a0 (fun i (t:lG×lK)=>((i:Int),0,0,0,0,0,0,a0,[],[],[],[],[],[],(zgE 8),(zjf 8),(rp 8 false),t.1,[],t.2,())) _ (fun i (x:List Ins) (u:List Guest×List Kept) κ=>bif ilt (i:Int) ((2:Nat):Int) then (cond (few (ln (ap u.1 [zeE x]))) (cond (few (ln (ap u.2 [zjN]))) (κ (ap u.1 [zeE x],ap u.2 [zjN])) none) none) else z2z u) (fun (t:lG×lK)=>(some [(.agg (Ty.cells .mon (⟨(zgE 8),(zjf 8),(rp 8 false),t.1,[],0,0,t.2,0⟩:Mon)))])) (fun i hi t rec=>?_) (fun t rec=>?_) _ ([],[]) (hNN hl.1)).trans ?_
 .simp only [zbx hi,zbb hi,zbg hi,zZ hi hl.1,cT];have hx:zoT a0[i]=true:=zU (hs.2 _ (jH hi));simp only[hx,cT];rfl
 .simp only [zbp,cF]
 exact zLU 2 zeE (fun _=>zjN) z2z a0 0 ([],[]) (by simpa using hl.2) (by simpa using hl.2)
theorem zNQ:vJ 186 zDm:=kF1 zQh zk zbT zcY zWn zUI
def z1w:zO:=[(186,zDm)]++z1v
theorem zQi:zG z1w:=zh zNQ zQh
def z0a:List (List Int):=List.replicate 12 [0,0,0,0]
def zfi (ps:List (List (List Ins))):Host:=⟨z0a,(ps.take 3).map zgu,[],[]⟩
def zJ0 (ps:List (List (List Ins))):Prop:=ps.length<=1048576/\∀p∈ps,z81 p
@[simp] abbrev zwD (ps:List (List (List Ins))):Bool:=pc (zJ0 ps)
@[simp] abbrev zgL (ps:List (List (List Ins))):Host:=zfi ps
def zYv (t:List Mon):OA:=some [AV.agg (zbc ⟨z0a,t,[],[]⟩)]
def zAr:Run:=rF1 (dS (.sl (.sl .ins))) fun b=>(zwD b,[aH (zgL b)])
def zFV (N:Nat)(a0:lQ):OA:=
 (oN (zo2 12) (iter (σ:=(Int×(lQ×(lM×(lN×(lE×(lE×(lM×(lN×(lE×(lE×Unit))))))))))) N (fun r2 s3=>let y1:=(ap s3.2.2.2.2.2.2.2.1 [(zIQ (ix s3.2.1 s3.1 []))]);let y0:=(aH (⟨s3.2.2.2.2.2.2.1,s3.2.2.2.2.2.2.2.1,s3.2.2.2.2.2.2.2.2.1,s3.2.2.2.2.2.2.2.2.2.1⟩:Host)); (cond (ilt s3.1 (ln s3.2.1)) (cond (ilt s3.1 3) (oN (inb s3.1 (ln s3.2.1)) (oN (zsN (ix s3.2.1 s3.1 [])) (oN (few (ln y1)) (r2 ((zI .i64 s3.1 1),(s3.2.1,(s3.2.2.1,(s3.2.2.2.1,(s3.2.2.2.2.1,(s3.2.2.2.2.2.1,(s3.2.2.2.2.2.2.1,(y1,(s3.2.2.2.2.2.2.2.2.1,(s3.2.2.2.2.2.2.2.2.2.1,())))))))))))))) (some [y0])) (some [y0]))) (0,(a0,([],([],([],([],((zjf 12),([],([],([],()))))))))))))
def zSz:FuncId->Nat->Option Tmpl:=zq [(144,0,{ n:=28,tm:=[(0,.sl 0 []),(2,.lp 0 0),(3,.lp 1 0),(4,ti)],lo:=[(0,[.sl 1 [],.sl 2 [],.sl 3 [],.sl 4 []]),(1,[.sl 5 [],.sl 6 [],.sl 7 [],.sl 8 []])],ro:=[(0,(.sl (.sl .ins)),false),(1,(.sl .int),true),(2,.mon,true),(3,.entry,true),(4,.entry,true),(5,(.sl .int),true),(6,.mon,true),(7,.entry,true),(8,.entry,true)] })]
theorem zRY (a0:List lP)(hc:zwD a0=true):∃N,zFV N a0=some [aH (zgL a0)]:=by
 have hs:=zF.1 hc;have hl:=zcJ hs.1;refine zce fun N hNN=>?_;unfold zFV oN
 conv=>zeta
 refine must rfl ?_;refine (zbd a0 (fun i (t:lN)=>((i:Int),a0,[],[],[],[],(zjf 12),t,[],[],())) _ (fun i (x:List lI) (t:List Mon) κ=>bif ilt (i:Int) ((3:Nat):Int) then (cond (few (ln (ap t [zgu x]))) (κ (ap t [zgu x])) none) else zYv t) (fun (t:lN)=>(some [(.agg (zbc (⟨(zjf 12),t,[],[]⟩:Host)))])) (fun i hi t rec=>?_) (fun t rec=>?_) _ ([]) (hNN hl.1)).trans ?_
 .simp only [zbx hi,zbb hi,zbg hi,zZ hi hl.1,cT];have hx:zsN a0[i]=true:=zU (hs.2 _ (jH hi));simp only[hx,cT];rfl
 .simp only [zbp,cF]
 exact zQB 3 zgu zYv a0 0 [] (by simpa using hl.2)
theorem zKX:vJ 144 zAr:=kF1 zQi zk zbT zcY zSz zRY
def z1x:zO:=[(144,zAr)]++z1w
theorem zQj:zG z1x:=zh zKX zQi
def zil:Nat->Nat->Kept->Kept
 | 0,_,k=>k
 | n+1,i,k=>zil n (i+1) (zbK k (i:Int))
def ziZ (k:Kept):Kept:=zil k.Known.length 0 k
theorem zZM (k:Kept)(p:Int):(zbK k p).Known.length=k.Known.length:=by
 unfold zbK;cases zc8 k p
 .rfl
 .exact zgv _ _ _
theorem zwO:∀(n i:Nat) (k:Kept),SmK k->SmK (zil n i k)
 | 0,_,_,h=>h
 | n+1,i,k,h=>zwO n (i+1) _ (zpf h)
@[simp] abbrev zsc (k:Kept):Bool:=pc (SmK k)
@[simp] abbrev zwz (k:Kept):Kept:=ziZ k
def zvx:Run:=rF1 (dT .kept) fun b=>(zsc b,[aT .kept (zwz b)])
def zzZ (N:Nat)(a0:Kept):OA:=
 (oN (zfT a0) (iter (σ:=(Int×(lB×(lS×(lB×(lS×Unit)))))) N (fun r2 s3=>let y0:=(⟨s3.2.1,s3.2.2.1⟩:Kept); (cond (ilt s3.1 (ln s3.2.1)) (oN (zlE y0 s3.1) (r2 ((zI .i64 s3.1 1),((zkK y0 s3.1).Known,((zkK y0 s3.1).Slots,(s3.2.2.2.1,(s3.2.2.2.2.1,()))))))) (some [(aT .kept y0)]))) (0,((zdq a0).Known,((zdq a0).Slots,([],([],())))))))
def zMT:FuncId->Nat->Option Tmpl:=zq [(291,0,{ n:=17,tm:=[(1,.lp 0 0),(2,.lp 1 0),(3,ti)],lo:=[(0,[.sl 0 [],.sl 1 []]),(1,[.sl 2 [],.sl 3 []])],ro:=[(0,.bool,true),(1,.slot,true),(2,.bool,true),(3,.slot,true)] })]
theorem zLQ (a0:Kept)(hc:zsc a0=true):∃N,zzZ N a0=some [aT .kept (zwz a0)]:=by
 have hs:=zF.1 hc;have hl:=zcJ hs.1;refine zce fun N hNN=>?_;unfold zzZ oN
 conv=>zeta
 refine must (zbe ((zw8 _).2 hs)) ?_;refine (zEq a0.Known.length (fun i (k:Kept)=>((i:Int),(k.Known,(k.Slots,([],([],())))))) _ (fun i k=>SmK k/\k.Known.length=a0.Known.length) (fun i k=>some [AV.agg (Ty.cells .kept (zil (a0.Known.length-i) i k))]) (fun i k rec hi hI hr=>?_) (fun k rec hI=>?_) N 0 a0 ⟨hs,rfl⟩ (jV _) (hNN hl.1)).trans rfl
 .refine must (zbx (by rw[hI.2];exact hi)) (must (zU hI.1) ?_)
  have q:=hr (zbK k (i:Int)) ⟨zpf hI.1,by rw[zZM];exact hI.2⟩
  rw[show a0.Known.length-i=a0.Known.length-(i+1)+1 by omega]
  rw[zZ hi hl.1];exact q
 .refine zcB (by show ilt (a0.Known.length:Int) (ln k.Known)=false;rw[ln,hI.2];exact qG (by omega)) ?_
  rw[uA];rfl
theorem zEW:vJ 291 zvx:=kF1 zQj zk zbT zcY zMT zLQ
def z1y:zO:=[(291,zvx)]++z1x
theorem zQk:zG z1y:=zh zEW zQj
def zuV:Nat->Nat->List Kept->List Kept
 | 0,_,l=>l
 | n+1,j,l=>zuV n (j+1) (up l (j:Int) (ziZ (ix l (j:Int) kZ)))
def zuW (x:Mon)(n j:Nat):Mon:={ x with Tables:=zuV n j x.Tables }
def zn4:Nat->Nat->List Mon->List Mon
 | 0,_,t=>t
 | n+1,i,t=>zn4 n (i+1) (up t (i:Int) (zuW (ix t (i:Int) mZ) (ix t (i:Int) mZ).Tables.length 0))
def cold (h:Host):Host:=⟨h.Memory,zn4 h.Mons.length 0 h.Mons,[],[]⟩
theorem zMA:∀(n j:Nat) (l:List Kept),j+n<=l.length->zBM l->zBM (zuV n j l)
 | 0,_,_,_,h=>h
 | n+1,j,l,hn,h=>by
  have hj:j<l.length:=by omega
  refine zMA n (j+1) _ (by rw[zgv];omega) (zyh h (zwO _ _ _ ?_))
  rw[zbg hj];exact h.2 _ (jH hj)
theorem zMC {x:Mon}(h:zfr x){n j:Nat}(hn:j+n<=x.Tables.length):zfr (zuW x n j):=⟨h.1,h.2.1,h.2.2.1,h.2.2.2.1,h.2.2.2.2.1,zMA n j _ hn h.2.2.2.2.2⟩
@[simp] abbrev zIO (h:Host):Bool:=pc (zb2 h)
@[simp] abbrev zVJ (h:Host):Host:=cold h
def zMk:Run:=rF1 dH fun b=>(zIO b,[aH (zVJ b)])
def zS3 (N:Nat)(a0:Host):OA:=
 (oN (zbG a0) (iter (σ:=(Int×(lM×(lN×(lE×(lE×(lM×(lN×(lE×(lE×Unit)))))))))) N (fun r2 s3=>(cond (ilt s3.1 (ln s3.2.2.1)) (iter (σ:=(Int×(Int×(lM×(lN×(lE×(lE×(lM×(lN×(lE×(lE×Unit))))))))))) N (fun r4 s5=>let y1:=(inb s5.1 (ln s5.2.2.2.1));let y0:=(ix s5.2.2.2.1 s5.1 zf);let y2:=(ix y0.Tables s5.2.1 zez); (oN y1 (cond (ilt s5.2.1 (ln y0.Tables)) (oN y1 (oN y1 (oN (inb s5.2.1 (ln y0.Tables)) (oN (zsc y2) (oN (inb s5.2.1 (ln y0.Tables)) (share (up s5.2.2.2.1 s5.1 ({ y0 with Tables:=(up y0.Tables s5.2.1 (zwz y2)) }:Mon)) (fun x6=>(r4 (s5.1,((zI .i64 s5.2.1 1),(s5.2.2.1,(x6,(s5.2.2.2.2.1,(s5.2.2.2.2.2.1,(s5.2.2.2.2.2.2.1,(s5.2.2.2.2.2.2.2.1,(s5.2.2.2.2.2.2.2.2.1,(s5.2.2.2.2.2.2.2.2.2.1,())))))))))))))))))) (r2 ((zI .i64 s5.1 1),(s5.2.2.1,(s5.2.2.2.1,(s5.2.2.2.2.1,(s5.2.2.2.2.2.1,(s5.2.2.2.2.2.2.1,(s5.2.2.2.2.2.2.2.1,(s5.2.2.2.2.2.2.2.2.1,(s5.2.2.2.2.2.2.2.2.2.1,()))))))))))))) (s3.1,(0,(s3.2.1,(s3.2.2.1,(s3.2.2.2.1,(s3.2.2.2.2.1,(s3.2.2.2.2.2.1,(s3.2.2.2.2.2.2.1,(s3.2.2.2.2.2.2.2.1,(s3.2.2.2.2.2.2.2.2.1,()))))))))))) (some [(aH (⟨s3.2.1,s3.2.2.1,[],[]⟩:Host))]))) (0,((zu a0).Memory,((zu a0).Mons,((zu a0).Buffer,((zu a0).IoBuffer,([],([],([],([],())))))))))))
def z0Y:FuncId->Nat->Option Tmpl:=zq [(250,0,{ n:=48,tm:=[(1,.lp 0 0),(2,.lp 1 0),(3,ti)],lo:=[(0,[.sl 0 [],.sl 1 [],.sl 2 [],.sl 3 []]),(1,[.sl 4 [],.sl 5 [],.sl 6 [],.sl 7 []])],ro:=[(0,(.sl .int),true),(1,.mon,true),(2,.entry,true),(3,.entry,true),(4,(.sl .int),true),(5,.mon,true),(6,.entry,true),(7,.entry,true)] }),(250,2,{ n:=48,tm:=[(1,.lp 0 0),(2,.lp 1 0),(3,ti),(4,ti)],lo:=[(0,[.sl 0 [],.sl 1 [],.sl 2 [],.sl 3 []]),(1,[.sl 4 [],.sl 5 [],.sl 6 [],.sl 7 []])],ro:=[(0,(.sl .int),true),(1,.mon,true),(2,.entry,true),(3,.entry,true),(4,(.sl .int),true),(5,.mon,true),(6,.entry,true),(7,.entry,true)] })]
theorem zZ7 (a0:Host)(hc:zIO a0=true):∃N,zS3 N a0=some [aH (zVJ a0)]:=by
 have hs:=(zK a0).1 (zF.1 hc);have hl:=zcJ hs.2.1.1;refine zce fun N hNN=>?_;unfold zS3 oN
 conv=>zeta
 refine must hc ?_;refine (zEq a0.Mons.length (fun i (t:List Mon)=>((i:Int),(a0.Memory,(t,(a0.Buffer,(a0.IoBuffer,([],([],([],([],())))))))))) _ (fun i t=>zq5 t/\t.length=a0.Mons.length) (fun i t=>some [AV.agg (zbc ⟨a0.Memory,zn4 (a0.Mons.length-i) i t,[],[]⟩)]) (fun i t rec hi hI hr=>?_) (fun t rec hI=>?_) N 0 a0.Mons ⟨hs.2.1,rfl⟩ (jV _) (hNN hl.1)).trans rfl
 .have hit:i<t.length:=by rw[hI.2];exact hi
  have hx:zfr (ix t (i:Int) mZ):=by rw[zbg hit];exact hI.1.2 _ (jH hit)
  have hk:=zcJ hx.2.2.2.2.2.1;refine must (zbx hit) ?_;refine (zEq (ix t (i:Int) mZ).Tables.length (fun j (u:List Mon)=>((i:Int),((j:Int),(a0.Memory,(u,(a0.Buffer,(a0.IoBuffer,([],([],([],([],())))))))))))
   _ (fun j u=>u.length=t.length/\zfr (ix u (i:Int) mZ)/\(ix u (i:Int) mZ).Tables.length=(ix t (i:Int) mZ).Tables.length)
   (fun j u=>rec (((i+1:Nat):Int),(a0.Memory,(up u (i:Int) (zuW (ix u (i:Int) mZ) ((ix t (i:Int) mZ).Tables.length-j) j),(a0.Buffer,(a0.IoBuffer,([],([],([],([],()))))))))))
   (fun j u rec1 hj hJ hr1=>?_) (fun u rec1 hJ=>?_) N 0 t ⟨rfl,hx,rfl⟩ (jV _) (hNN hk.1)).trans ?_
  .have hiu:i<u.length:=by rw[hJ.1];exact hit
   have hju:j<(ix u (i:Int) mZ).Tables.length:=by rw[hJ.2.2];exact hj
   have hkj:SmK (ix (ix u (i:Int) mZ).Tables (j:Int) kZ):=by rw[zbg hju];exact hJ.2.1.2.2.2.2.2.2 _ (jH hju)
   refine must (zbb hiu) (must (zbx hju) (must (zbb hiu) (must (zbb hiu) (must (zbb hju) (must (zU hkj) (must (zbb hju) (shr ?_)))))));have hn:zfr { ix u (i:Int) mZ with Tables:=up (ix u (i:Int) mZ).Tables (j:Int) (ziZ (ix (ix u (i:Int) mZ).Tables (j:Int) kZ)) } :=
    ⟨hJ.2.1.1,hJ.2.1.2.1,hJ.2.1.2.2.1,hJ.2.1.2.2.2.1,hJ.2.1.2.2.2.2.1,zyh hJ.2.1.2.2.2.2.2 (zwO _ _ _ hkj)⟩
   have q:=hr1 (up u (i:Int) { ix u (i:Int) mZ with Tables:=up (ix u (i:Int) mZ).Tables (j:Int) (ziZ (ix (ix u (i:Int) mZ).Tables (j:Int) kZ)) }) ⟨by rw[zgv];exact hJ.1,by rw[zdN hiu];exact hn,by rw[zdN hiu];simp only[zgv];exact hJ.2.2⟩
   rw[zZ hj hk.1];refine q.trans ?_;rw[zdN hiu,zv8,show (ix t (i:Int) mZ).Tables.length-j=(ix t (i:Int) mZ).Tables.length-(j+1)+1 by omega]
   rfl
  .have hiu:i<u.length:=by rw[hJ.1];exact hit
   refine must (zbb hiu) (zcB (by show ilt ((ix t (i:Int) mZ).Tables.length:Int) (ln (ix u (i:Int) mZ).Tables)=false;rw[ln,hJ.2.2];exact qG (by omega)) ?_)
   rw[zZ hi hl.1,uA]
   show rec (_,(a0.Memory,(u,_)))=rec (_,(a0.Memory,(up u (i:Int) (ix u (i:Int) mZ),_)))
   rw[zPA hiu]
  .have q:=hr (up t (i:Int) (zuW (ix t (i:Int) mZ) (ix t (i:Int) mZ).Tables.length 0)) ⟨ziV hI.1 (zMC hx (by omega)),by rw[zgv];exact hI.2⟩
   refine q.trans ?_;rw[show a0.Mons.length-i=a0.Mons.length-(i+1)+1 by omega]
   rfl
 .refine zcB (by show ilt (a0.Mons.length:Int) (ln t)=false;rw[ln,hI.2];exact qG (by omega)) ?_
  rw[uA];rfl
theorem zTW:vJ 250 zMk:=kF1 zQk zk zbT zcY z0Y zZ7
def z1z:zO:=[(250,zMk)]++z1y
theorem z1A:zG z1z:=zh zTW zQk
def z1B:zO:=z1z
theorem zQl:zG z1B:=z1A
theorem zAS:∀(n i:Nat) (t:List Mon),i+n<=t.length->zq5 t->zq5 (zn4 n i t)
 | 0,_,_,_,h=>h
 | n+1,i,t,hn,h=>by
  have hi:i<t.length:=by omega
  refine zAS n (i+1) _ (by rw[zgv];omega) (ziV h (zMC ?_ (by omega)))
  rw[zbg hi];exact h.2 _ (jH hi)
theorem z5t {h:Host}(hs:SmH h):SmH (cold h):=⟨hs.1,zAS _ _ _ (by omega) hs.2.1,by simp[cold],by simp[cold]⟩
theorem znu {h:Host}{m:Int}{b:Bare}(hs:SmH h)(hb:zcw h m=true->SmB b):SmH (zeB h m b):=by
 unfold zeB;cases h0:zcw h m
 .exact hs
 .exact zIV hs (zcp.1 h0).2 (hb h0).2.1
theorem z3j {h:Host}{m g p:Int}(hs:SmH h):SmH (zko h m g p):=by
 unfold zko;cases h0:zcw h m
 .exact hs
 .cases hk:zbU (zy h m) g (hasB p 4)
  .exact hs
  .have hm:=(zcp.1 h0).2;have hv:=zIU hs hm;have hb:SmB (chg (zy h m) g (hasB p 4) (zdK (gAt (zy h m) g) p)):=zp6 hv (zMy _ (ziJ _ hv));have h1:=zIV hs hm hb.2.1;have h2:=zTg (chg (zy h m) g (hasB p 4) (zdK (gAt (zy h m) g) p)) hm;have h3:=zQs hs h0 (chg (zy h m) g (hasB p 4) (zdK (gAt (zy h m) g) p)) hk;have hx:=h1.2.1.2 _ (zbu h2 mZ);simp only[cT];exact ⟨h1.1,ziV h1.2.1 ⟨hx.1,hx.2.1,hx.2.2.1,hx.2.2.2.1,hx.2.2.2.2.1,zyh hx.2.2.2.2.2 (zpf (hx.2.2.2.2.2.2 _ (zbu h3 _)))⟩,jD (zyz _ _ _) h1.2.2.1,jD (zyz _ _ _) h1.2.2.2⟩
theorem z5u {h:Host}{m p c v:Int}(hs:SmH h):SmH (zm3 h m p c v):=by
 unfold zm3;cases hf:ze0 h m p c v
 .exact hs
 .have h0:zci h m p=true:=by
   unfold ze0 at hf;cases hp:zci h m p
   .rw [hp]at hf;cases hf
   .rfl
  obtain ⟨hh,hm,hp⟩:=zjR.1 h0;have h1:=(zuz (n:=2) (zeZ hs hh) hm hp).1.1;exact ⟨zzA h1.1,h1.2⟩
theorem zU9 {h:Host}{m g page need:Int}(b:List Entry)(io:Bool)(hs:SmH h)(hl:zbJ h m g page need=true):SmH (lookOf h b m g page need io).1:=by
 have hg:zbE h m g=true:=by
  unfold zbJ at hl;cases h1:zbE h m g
  .rw [h1]at hl;cases hl
  .rfl
 exact (ztf hs hg).shape.1
theorem z8S {h:Host}{m g a v:Int}(hs:SmH h):SmH (zpu h m g a v):=by
 unfold zpu;cases hf:zgG h m g a v
 .exact hs
 .have hl:zbJ h m g (zW a) 2=true:=by
   unfold zgG at hf;cases h1:win a 0 15
   .rw [h1]at hf;cases hf
   .cases h2:win v 0 99
    .rw [h1,h2]at hf;cases hf
    .rw [h1,h2]at hf;exact hf
  have h1:=zU9 h.IoBuffer true hs hl;exact ⟨zzA h1.1,h1.2⟩
theorem z5v {h:Host}{m g a:Int}(hs:SmH h):SmH (zm4 h m g a):=by
 unfold zm4;cases hf:zfM h m g a
 .exact hs
 .have hl:zbJ h m g (zW a) 1=true:=by
   unfold zfM at hf;cases h1:win a 0 15
   .rw [h1]at hf;cases hf
   .rw [h1]at hf;exact hf
  exact zU9 h.IoBuffer true hs hl
theorem z8T {h:Host}{m p:Int}(hs:SmH h):SmH (zpC h m p):=by
 unfold zpC;cases h0:zci h m p
 .exact hs
 .obtain ⟨hh,hm,hp⟩:=zjR.1 h0;cases zj9 h m p
  .exact (zMt (zeZ hs hh).1 hm).1
  .exact hs
theorem z9T {h:Host}{m p:Int}(hs:SmH h):SmH (ztZ h m p):=by
 unfold ztZ;cases h0:zci h m p
 .exact hs
 .obtain ⟨hh,hm,hp⟩:=zjR.1 h0;cases zj9 h m p
  .exact hs
  .exact (zjF (zeZ hs hh) hm hp).1.1
theorem zDX {h:Host}{m t:Int}(hs:SmH h):SmH (zbn h m t):=by
 unfold zbn;cases zbQ h
 .exact hs
 .cases hm:hasB m (ln h.Mons)
  .exact hs
  .cases win t 0 3
   .exact hs
   .have hx:zfr (ix h.Mons m mZ):=hs.2.1.2 _ (zbu hm mZ);exact ⟨hs.1,ziV hs.2.1 ⟨hx.1,hx.2.1,hx.2.2.1,hx.2.2.2.1,hx.2.2.2.2.1,hx.2.2.2.2.2⟩,hs.2.2⟩
def ztT (h:Host)(a:GAct):Host:=bif ieq a.Kind 1 then (zS h a.M a.G).1 else (cond (ieq a.Kind 2) (zXx h a.M a.G a.X ⟨a.Y,a.Z⟩) (cond (ieq a.Kind 3) (zko h a.M a.G a.X) (cond (ieq a.Kind 4) (zO1 h a.M a.G a.X) (cond (ieq a.Kind 5) (zO5 h a.M a.G) (cond (ieq a.Kind 6) (zO3 h a.M a.G a.X) (cond (ieq a.Kind 7) (zXv h a.M a.G ⟨a.X,a.Y,ieq a.Z 1⟩) (cond (ieq a.Kind 8) (zm3 h a.M a.X a.Y a.Z) (cond (ieq a.Kind 9) (zVa h a.M a.X) (cond (ieq a.Kind 10) (zXs h a.M) (cond (ieq a.Kind 11) (zpu h a.M a.G a.X a.Y) (zm4 h a.M a.G a.X)))))))))))
def zCs (h:Host)(a:GAct):Told:=bif ieq a.Kind 1 then ⟨(zS h a.M a.G).2,0⟩ else (cond (ieq a.Kind 2) ⟨zXy h a.M a.G a.X ⟨a.Y,a.Z⟩,0⟩ (cond (ieq a.Kind 3) ⟨zSq h a.M a.G a.X,0⟩ (cond (ieq a.Kind 4) ⟨zO2 h a.M a.G a.X,0⟩ (cond (ieq a.Kind 5) ⟨zO6 h a.M a.G,0⟩ (cond (ieq a.Kind 6) ⟨zO4 h a.M a.G a.X,0⟩ (cond (ieq a.Kind 7) ⟨zXw h a.M a.G ⟨a.X,a.Y,ieq a.Z 1⟩,0⟩ (cond (ieq a.Kind 8) ⟨ze0 h a.M a.X a.Y a.Z,0⟩ (cond (ieq a.Kind 9) ⟨zVb h a.M a.X,0⟩ (cond (ieq a.Kind 10) ⟨zXu h a.M,zXt h a.M⟩ (cond (ieq a.Kind 11) ⟨zgG h a.M a.G a.X a.Y,0⟩ (⟨zfM h a.M a.G a.X,zrj h a.M a.G a.X⟩)))))))))))
def zmu (h:Host)(a:GAct):Host:=bif ieq a.Kind 13 then zpC h a.M a.X else (cond (ieq a.Kind 14) (ztZ h a.M a.X) (cond (ieq a.Kind 15) (ztE h a.M a.X) (cond (ieq a.Kind 16) (zbn h a.M a.X) (cold h))))
def zL4 (h:Host)(a:GAct):Told:=bif ieq a.Kind 13 then ⟨zCH h a.M a.X,0⟩ else (cond (ieq a.Kind 14) ⟨zIH h a.M a.X,0⟩ (cond (ieq a.Kind 15) ⟨zci h a.M a.X,0⟩ (cond (ieq a.Kind 16) ⟨zjl h a.M a.X,0⟩ (⟨true,0⟩))))
def zeo (h:Host)(a:GAct):Host:=bif win a.Kind 1 17 then (cond (win a.Kind 13 17) (zmu h a) (ztT h a)) else h
def zi2 (h:Host)(a:GAct):Told:=bif win a.Kind 1 17 then (cond (win a.Kind 13 17) (zL4 h a) (zCs h a)) else ⟨false,0⟩
theorem z3m {h:Host}{a:GAct}(hs:SmH h):SmH (zmu h a):=by
 unfold zmu;cases ieq a.Kind 13
 .cases ieq a.Kind 14
  .cases ieq a.Kind 15
   .cases ieq a.Kind 16
    .exact z5t hs
    .exact zDX hs
   .exact z3k hs
  .exact z9T hs
 .exact z8T hs
theorem z3l {h:Host}{a:GAct}(hs:SmH h):SmH (ztT h a):=by
 have hv:zcw h a.M=true->SmB (zy h a.M):=fun h0=>zIU hs (zcp.1 h0).2;unfold ztT;cases ieq a.Kind 1
 .cases ieq a.Kind 2
  .cases ieq a.Kind 3
   .cases ieq a.Kind 4
    .cases ieq a.Kind 5
     .cases ieq a.Kind 6
      .cases ieq a.Kind 7
       .cases ieq a.Kind 8
        .cases ieq a.Kind 9
         .cases ieq a.Kind 10
          .cases ieq a.Kind 11
           .exact z5v hs
           .exact z8S hs
          .exact znu hs (fun h0=>zYM (hv h0))
         .exact znu hs (fun h0=>zVU _ (hv h0))
        .exact z5u hs
       .exact znu hs (fun h0=>zYN _ _ (hv h0))
      .exact znu hs (fun h0=>zMv _ _ (hv h0))
     .exact znu hs (fun h0=>zMw _ (hv h0))
    .exact znu hs (fun h0=>zMu _ _ (hv h0))
   .exact z3j hs
  .exact znu hs (fun h0=>zYO _ _ _ (hv h0))
 .exact (zDS a.M a.G hs).sm
theorem zYR {h:Host}{a:GAct}(hs:SmH h):SmH (zeo h a):=by
 unfold zeo;cases win a.Kind 1 17
 .exact hs
 .cases win a.Kind 13 17
  .exact z3l hs
  .exact z3m hs
@[simp] abbrev zux (h:Host)(a:GAct):Bool:=pc (zb2 h)
@[simp] abbrev zkV (h:Host)(a:GAct):Host:=zmu h a
@[simp] abbrev ziI (h:Host)(a:GAct):Told:=zL4 h a
def zx8:Run:=rF2 dH (dT .act) fun b c=>(zux b c,[aH (zkV b c),aT .told (ziI b c)])
def zBL (N:Nat)(a0:Host)(a1:GAct):OA:=
 (cond (ieq a1.Kind 13) (oN (zwI a0 a1.M a1.X) (some [(aH (zqS a0 a1.M a1.X)),(.agg [(.b (zqT a0 a1.M a1.X)),(.i .i64 0)])])) (cond (ieq a1.Kind 14) (oN (zzm a0 a1.M a1.X) (some [(aH (zsP a0 a1.M a1.X)),(.agg [(.b (zsQ a0 a1.M a1.X)),(.i .i64 0)])])) (cond (ieq a1.Kind 15) (oN (zDJ a0 a1.M a1.X) (some [(aH (zvB a0 a1.M a1.X)),(.agg [(.b (zvC a0 a1.M a1.X)),(.i .i64 0)])])) (cond (ieq a1.Kind 16) (oN (zut a0 a1.M a1.X) (some [(aH (zo5 a0 a1.M a1.X)),(.agg [(.b (zo6 a0 a1.M a1.X)),(.i .i64 0)])])) (oN (zIO a0) (some [(aH (zVJ a0)),(.agg [(.b true),(.i .i64 0)])]))))))
theorem zOZ (a0:Host)(a1:GAct)(hc:zux a0 a1=true):∃N,zBL N a0 a1=some [aH (zkV a0 a1),aT .told (ziI a0 a1)]:=by
 have hs:=zF.1 hc;refine ⟨0,?_⟩;unfold zBL oN;refine br (fun _=>mu ?_) (fun _=>br (fun _=>mu ?_) (fun _=>br (fun _=>mu ?_) (fun _=>br (fun _=>mu ?_) (fun _=>mu ?_))))
 all_goals first|rfl|(simp only [*,zkV,ziI,zmu,zL4,cT,cF]<;>rfl)|simp_all[Ty.cells,zkV,ziI,zmu,zL4]
theorem zIf:vJ 189 zx8:=kF2 zQl zk zbT zcY (zq []) zOZ
def z1C:zO:=[(189,zx8),(187,zGH),(188,zAt),(197,zGI)]++z1B
theorem zQm:zG z1C:=zh zIf (zh zRi (zh zKZ (zh zRj zQl)))
@[simp] abbrev zqK (h:Host)(a:GAct):Bool:=pc (zb2 h)
@[simp] abbrev zmA (h:Host)(a:GAct):Host:=zeo h a
@[simp] abbrev zmB (h:Host)(a:GAct):Told:=zi2 h a
def zAo:Run:=rF2 dH (dT .act) fun b c=>(zqK b c,[aH (zmA b c),aT .told (zmB b c)])
def zFS (N:Nat)(a0:Host)(a1:GAct):OA:=
 let y0:=(⟨a1.Y,a1.Z⟩:Slot); (oN (zDF a1) (cond (nB (zx9 a1)) (oN (zbG a0) (some [(aH (zu a0)),(.agg [(.b false),(.i .i64 0)])])) (oN (zwF a1.Kind) (cond (zru a1.Kind) (oN (zux a0 a1) (some [(aH (zkV a0 a1)),(.agg [(.b (ziI a0 a1).Ok),(.i .i64 (ziI a0 a1).N)])])) (cond (ieq a1.Kind 1) (oN (zet a0 a1.M a1.G) (some [(aH (zDL a0 a1.M a1.G)),(.agg [(.b (zDM a0 a1.M a1.G)),(.i .i64 0)])])) (cond (ieq a1.Kind 2) (oN (zwE a0 a1.M a1.G a1.X y0) (some [(aH (zqP a0 a1.M a1.G a1.X y0)),(.agg [(.b (zqQ a0 a1.M a1.G a1.X y0)),(.i .i64 0)])])) (cond (ieq a1.Kind 3) (oN (zsd a0 a1.M a1.G a1.X) (some [(aH (zmV a0 a1.M a1.G a1.X)),(.agg [(.b (zmW a0 a1.M a1.G a1.X)),(.i .i64 0)])])) (cond (ieq a1.Kind 4) (oN (zpX a0 a1.M a1.G a1.X) (some [(aH (zlG a0 a1.M a1.G a1.X)),(.agg [(.b (zlH a0 a1.M a1.G a1.X)),(.i .i64 0)])])) (cond (ieq a1.Kind 5) (oN (zpZ a0 a1.M a1.G) (some [(aH (zlK a0 a1.M a1.G)),(.agg [(.b (zlL a0 a1.M a1.G)),(.i .i64 0)])])) (cond (ieq a1.Kind 6) (oN (zpY a0 a1.M a1.G a1.X) (some [(aH (zlI a0 a1.M a1.G a1.X)),(.agg [(.b (zlJ a0 a1.M a1.G a1.X)),(.i .i64 0)])])) (cond (ieq a1.Kind 7) (oN (zDG a1) (oN (zwB a0 a1.M a1.G (zpV a1)) (some [(aH (zqL a0 a1.M a1.G (zpV a1))),(.agg [(.b (zqM a0 a1.M a1.G (zpV a1))),(.i .i64 0)])]))) (cond (ieq a1.Kind 8) (oN (zuo a0 a1.M a1.X a1.Y a1.Z) (some [(aH (zoU a0 a1.M a1.X a1.Y a1.Z)),(.agg [(.b (zoV a0 a1.M a1.X a1.Y a1.Z)),(.i .i64 0)])])) (cond (ieq a1.Kind 9) (oN (zup a0 a1.M a1.X) (some [(aH (zoW a0 a1.M a1.X)),(.agg [(.b (zoX a0 a1.M a1.X)),(.i .i64 0)])])) (cond (ieq a1.Kind 10) (oN (zwA a0 a1.M) (some [(aH (zqH a0 a1.M)),(.agg [(.b (zqJ a0 a1.M)),(.i .i64 (zqI a0 a1.M))])])) (cond (ieq a1.Kind 11) (oN (zwC a0 a1.M a1.G a1.X a1.Y) (some [(aH (zqN a0 a1.M a1.G a1.X a1.Y)),(.agg [(.b (zqO a0 a1.M a1.G a1.X a1.Y)),(.i .i64 0)])])) (oN (zuq a0 a1.M a1.G a1.X) (some [(aH (zoY a0 a1.M a1.G a1.X)),(.agg [(.b (zo0 a0 a1.M a1.G a1.X)),(.i .i64 (zoZ a0 a1.M a1.G a1.X))])])))))))))))))))))
theorem zRV (a0:Host)(a1:GAct)(hc:zqK a0 a1=true):∃N,zFS N a0 a1=some [aH (zmA a0 a1),aT .told (zmB a0 a1)]:=by
 have hs:=zF.1 hc;refine ⟨0,?_⟩;unfold zFS oN nB
 conv=>zeta
 refine must rfl (brN (fun _=>mu ?_) (fun _=>must rfl (br (fun _=>mu ?_) (fun _=>br (fun _=>mu ?_) (fun _=>br (fun _=>mu ?_) (fun _=>br (fun _=>mu ?_) (fun _=>br (fun _=>mu ?_) (fun _=>br (fun _=>mu ?_) (fun _=>br (fun _=>mu ?_) (fun _=>br (fun _=>must rfl (mu ?_)) (fun _=>br (fun _=>mu ?_) (fun _=>br (fun _=>mu ?_) (fun _=>br (fun _=>mu ?_) (fun _=>br (fun _=>mu ?_) (fun _=>mu ?_)))))))))))))))
 all_goals first|rfl|(simp only [*,zmA,zmB,zeo,zi2,ztT,zCs,cT,cF]<;>rfl)|simp_all[Ty.cells,zmA,zmB,zeo,zi2,ztT,zCs]
theorem zKU:vJ 145 zAo:=kF2 zQm zk zbT zcY (zq []) zRV
def z1D:zO:=[(145,zAo)]++z1C
theorem zQn:zG z1D:=zh zKU zQm
def zCK:List GAct->Host×List Told->Host×List Told
 | [],u=>u
 | a :: l,u=>zCK l (zeo u.1 a,ap u.2 [zi2 u.1 a])
def zyL (ps:List (List (List Ins)))(l:List GAct):Host×List Told:=zCK (l.take 80) (zfi ps,[])
abbrev HSt:Type:=(List Told)×(List (List Int))×(List Mon)×(List Entry)×(List Entry)
def hOf (t:HSt):Host:=⟨t.2.1,t.2.2.1,t.2.2.2.1,t.2.2.2.2⟩
def tOf (u:Host×List Told):HSt:=(u.2,u.1.Memory,u.1.Mons,u.1.Buffer,u.1.IoBuffer)
def zy9 (t:HSt):OA:=some [AV.agg (zbc (hOf t)),AV.one (.s .told t.1)]
theorem zYS {ps:List (List (List Ins))}(h:zJ0 ps):SmH (zfi ps):=by
 refine ⟨show SmM z0a from ⟨by decide,by decide⟩,⟨?_,?_⟩,by simp[zfi],by simp[zfi]⟩
 .simp only [zfi,uN,vI];omega
 .intro x hx;simp only[zfi,jB]at hx;obtain ⟨p,hp,rfl⟩:=hx;have hps:=h.2 p (jY hp);refine ⟨show zuB.length<=1048576 by decide,show SmM zO8 from ⟨by decide,by decide⟩,show (rp 8 false).length<=1048576 by decide,⟨?_,?_⟩,by simp[zgu],⟨?_,?_⟩⟩
  .simp only [zgu,uN,vI];omega
  .intro y hy;simp only[zgu,jB]at hy;obtain ⟨q,hq,rfl⟩:=hy;exact ⟨hps.2 q (jY hq),show zkX.length<=1048576 by decide,show zkX.length<=1048576 by decide,by simp[zeE]⟩
  .simp only [zgu,uN,vI];omega
  .intro y hy;simp only[zgu,jB]at hy;obtain ⟨q,hq,rfl⟩:=hy;exact ⟨show (rp 4 false).length<=1048576 by decide,show zkX.length<=1048576 by decide⟩
theorem zGp {c:Host->GAct->Bool}(hc:∀h a,SmH h->c h a=true)(m:Nat):∀(l:List GAct) (i:Nat) (u:Host×List Told),SmH u.1->u.2.length+l.length<=2147483648 ->
 goL (fun (i:Nat) x (t:HSt) κ=>bif ilt (i:Int) (m:Int) then (cond (c (hOf t) x) (cond (few (ln (ap t.1 [zi2 (hOf t) x]))) (κ (ap t.1 [zi2 (hOf t) x],(zeo (hOf t) x).Memory,(zeo (hOf t) x).Mons,(zeo (hOf t) x).Buffer,(zeo (hOf t) x).IoBuffer)) none) none) else zy9 t) zy9 l i (tOf u)=zy9 (tOf (zCK (l.take (m-i)) u))
 | [],i,u,_,_=>by simp[goL,zCK]
 | a :: l,i,u,hs,hn=>by
  simp only[qW]at hn;have hf:few (ln (ap u.2 [zi2 u.1 a]))=true:=zgt (by simp[ap];omega)
  have hh:hOf (tOf u)=u.1:=rfl;have h2:(tOf u).1=u.2:=rfl
  by_cases h:i<m
  .have hi:ilt (i:Int) (m:Int)=true:=qJ (by omega)
   simp only[goL,hi,hh,h2,hf,hc _ _ hs,cT];refine (zGp hc m l (i+1) (zeo u.1 a,ap u.2 [zi2 u.1 a]) (zYR hs) (by simp[ap];omega)).trans ?_
   rw[show m-i=m-(i+1)+1 by omega]
   rfl
  .have hi:ilt (i:Int) (m:Int)=false:=qG (by omega)
   simp only[goL,hi,cF];rw[show m-i=0 by omega]
   rfl
@[simp] abbrev zun (ps:List (List (List Ins)))(l:List GAct):Bool:=pc (zJ0 ps/\l.length<=1048576)
@[simp] abbrev zum (ps:List (List (List Ins)))(l:List GAct):Host:=(zyL ps l).1
@[simp] abbrev zDK (ps:List (List (List Ins)))(l:List GAct):List Told:=(zyL ps l).2
def zxV:Run:=rF2 (dS (.sl (.sl .ins))) (dS .act) fun b c=>(zun b c,[aH (zum b c),aS .told (zDK b c)])
def zBz (N:Nat)(a0:lQ)(a1:lA):OA:=
 (oN (zwD a0) (iter (σ:=(Int×(lA×(lT×(lM×(lN×(lE×(lE×(lM×(lN×(lE×(lE×Unit)))))))))))) N (fun r3 s4=>let y1:=(ix s4.2.1 s4.1 zbav);let y0:=(⟨s4.2.2.2.2.2.2.2.1,s4.2.2.2.2.2.2.2.2.1,s4.2.2.2.2.2.2.2.2.2.1,s4.2.2.2.2.2.2.2.2.2.2.1⟩:Host);let y3:=(ap s4.2.2.1 [(zmB y0 y1)]);let y2:=(zmA y0 y1); (cond (ilt s4.1 (ln s4.2.1)) (cond (ilt s4.1 80) (oN (inb s4.1 (ln s4.2.1)) (oN (zqK y0 y1) (oN (few (ln y3)) (r3 ((zI .i64 s4.1 1),(s4.2.1,(y3,(s4.2.2.2.1,(s4.2.2.2.2.1,(s4.2.2.2.2.2.1,(s4.2.2.2.2.2.2.1,(y2.Memory,(y2.Mons,(y2.Buffer,(y2.IoBuffer,()))))))))))))))) (some [(aH y0),(aS .told s4.2.2.1)])) (some [(aH y0),(aS .told s4.2.2.1)]))) (0,(a1,([],([],([],([],([],((zgL a0).Memory,((zgL a0).Mons,((zgL a0).Buffer,((zgL a0).IoBuffer,())))))))))))))
def zPu:FuncId->Nat->Option Tmpl:=zq [(85,0,{ n:=39,tm:=[(1,.sl 0 []),(4,.lp 0 0),(6,.lp 1 0),(7,.sl 1 []),(8,ti)],lo:=[(0,[.sl 2 [],.sl 3 [],.sl 4 [],.sl 5 []]),(1,[.sl 6 [],.sl 7 [],.sl 8 [],.sl 9 []])],ro:=[(0,.act,false),(1,.told,true),(2,(.sl .int),true),(3,.mon,true),(4,.entry,true),(5,.entry,true),(6,(.sl .int),true),(7,.mon,true),(8,.entry,true),(9,.entry,true)] })]
theorem zOJ (a0:List lP)(a1:List GAct)(hc:zun a0 a1=true):∃N,zBz N a0 a1=some [aH (zum a0 a1),aS .told (zDK a0 a1)]:=by
 obtain ⟨hs,hl1⟩:=zF.1 hc;have hl:=zcJ hl1;refine zce fun N hNN=>?_;unfold zBz oN
 conv=>zeta
 refine must (zU hs) ?_;refine (zbd a1 (fun i (t:lT×lM×lN×lE×lE)=>((i:Int),a1,t.1,[],[],[],[],t.2.1,t.2.2.1,t.2.2.2.1,t.2.2.2.2,())) _ (fun i (x:GAct) (t:HSt) κ=>bif ilt (i:Int) ((80:Nat):Int) then (cond (zqK (hOf t) x) (cond (few (ln (ap t.1 [zi2 (hOf t) x]))) (κ (ap t.1 [zi2 (hOf t) x],(zeo (hOf t) x).Memory,(zeo (hOf t) x).Mons,(zeo (hOf t) x).Buffer,(zeo (hOf t) x).IoBuffer)) none) none) else zy9 t) (fun (t:lT×lM×lN×lE×lE)=>(some [(.agg (zbc (⟨t.2.1,t.2.2.1,t.2.2.2.1,t.2.2.2.2⟩:Host))),(.one (.s .told t.1))])) (fun i hi t rec=>?_) (fun t rec=>?_) _ ([],(zgL a0).Memory,(zgL a0).Mons,(zgL a0).Buffer,(zgL a0).IoBuffer) (hNN hl.1)).trans ?_
 .simp only [zbx hi,zbb hi,zbg hi,zZ hi hl.1,cT];rfl
 .simp only [zbp,cF]
 exact zGp (fun h a hh=>zU ((zK h).2 hh)) 80 a1 0 (zfi a0,[]) (zYS hs) (by simpa using hl.2)
theorem zHZ:vJ 85 zxV:=kF2 zQn zk zbT zcY zPu zOJ
def zHo:zO:=[(85,zxV)]++z1D
theorem zwh:zG zHo:=zh zHZ zQn
def zJ3 (b:Bare)(a:GAct):Bare:=bif ieq a.Kind 1 then zei b a.G else (cond (ieq a.Kind 2) (chg b a.G (zsh a.X ⟨a.Y,a.Z⟩) (zzw (gAt b a.G) a.X ⟨a.Y,a.Z⟩)) (cond (ieq a.Kind 3) (chg b a.G (hasB a.X 4) (zdK (gAt b a.G) a.X)) (cond (ieq a.Kind 4) (chg b a.G (zrN (gAt b a.G) a.X) (zwc (gAt b a.G) a.X)) (cond (ieq a.Kind 5) (chg b a.G (zwv (gAt b a.G)) (zww (gAt b a.G))) (cond (ieq a.Kind 6) (chg b a.G (zgb (gAt b a.G).Pending a.X) (znb (gAt b a.G) a.X)) (cond (ieq a.Kind 7) (chg b a.G (zhm ⟨a.X,a.Y,ieq a.Z 1⟩) (zHj (gAt b a.G) ⟨a.X,a.Y,ieq a.Z 1⟩)) (cond (ieq a.Kind 8) (zSP b a.X a.Y a.Z) (cond (ieq a.Kind 9) (zjd b a.X) (cond (ieq a.Kind 10) (zlW b) (cond (ieq a.Kind 11) (zZD b a.G a.X a.Y) (b)))))))))))
def zJ4 (b:Bare)(a:GAct):Told:=bif ieq a.Kind 1 then ⟨zgf b a.G,0⟩ else (cond (ieq a.Kind 2) ⟨zbU b a.G (zsh a.X ⟨a.Y,a.Z⟩),0⟩ (cond (ieq a.Kind 3) ⟨zbU b a.G (hasB a.X 4),0⟩ (cond (ieq a.Kind 4) ⟨zbU b a.G (zrN (gAt b a.G) a.X),0⟩ (cond (ieq a.Kind 5) ⟨zbU b a.G (zwv (gAt b a.G)),0⟩ (cond (ieq a.Kind 6) ⟨zbU b a.G (zgb (gAt b a.G).Pending a.X),0⟩ (cond (ieq a.Kind 7) ⟨zbU b a.G (zhm ⟨a.X,a.Y,ieq a.Z 1⟩),0⟩ (cond (ieq a.Kind 8) ⟨zxx b a.X a.Y a.Z,0⟩ (cond (ieq a.Kind 9) ⟨zeM b a.X,0⟩ (cond (ieq a.Kind 10) ⟨zk9 b,zrM b⟩ (cond (ieq a.Kind 11) ⟨zyy b a.G a.X a.Y,0⟩ (⟨zn5 b a.G a.X 1,zST b a.G a.X⟩)))))))))))
def zJ5 (l:List Bare)(a:GAct):List Bare:=bif win a.Kind 1 17 then (cond (win a.Kind 13 17) l (cond (hasB a.M (ln l)) (up l a.M (zJ3 (ix l a.M zWC) a)) l)) else l
def zZe (l:List Bare)(a:GAct):Told:=bif win a.Kind 1 17 then (cond (win a.Kind 13 17) ⟨false,0⟩ (cond (hasB a.M (ln l)) (zJ4 (ix l a.M zWC) a) (cond (ieq a.Kind 10) ⟨false,-1⟩ ⟨false,0⟩))) else ⟨false,0⟩
theorem zB {i n:Int}:hasB i n=true↔0<=i/\i<n:=by unfold hasB;exact decide_eq_true_iff
theorem zco {x a b:Int}:win x a b=true↔a<=x/\x<=b:=by simp[win,ige,ile]
theorem zbi {x y:Int}:ieq x y=true↔x=y:=by simp[ieq]
theorem ztd {x y:Int}:ine x y=true↔x≠y:=by simp[ine]
theorem zbO {x y:Int}:ieq x y=false↔x≠y:=by simp[ieq]
theorem zb0 {a b:Bool}:(cond a b false)=true↔a=true/\b=true:=by cases a<;>simp
theorem zbB {α:Type}(l:List α)(i:Int)(x:α):(up l i x).length=l.length:=by simp[up]
theorem zc5 {α:Type}(l:List α)(i:Int)(x:α):ln (up l i x)=ln l:=by simp[up,ln]
theorem zy4 {α:Type}{l:List α}{i:Int}(h:hasB i (ln l)=true)(d:α):∃k:Nat,∃hk:k<l.length,i=(k:Int)/\ix l i d=l[k]:=by
 rw[zB]at h;unfold ln at h;refine ⟨i.toNat,by omega,by omega,?_⟩
 simp[ix,List.getD,qB (show i.toNat<l.length by omega)]
theorem zmm {α:Type}{l:List α}{k:Nat}(h:k<l.length)(d:α):ix l (k:Int) d=l[k]:=by
 simp[ix,List.getD,qB h]
theorem zlp {α:Type}{l:List α}{i:Int}(h:hasB i (ln l)=true)(d:α):ix l i d∈l:=by
 obtain ⟨k,hk,_,e⟩:=zy4 h d;rw[e];exact jH hk
theorem zVe {α:Type}{l:List α}{x:α}(h:x∈l)(d:α):∃i,hasB i (ln l)=true/\ix l i d=x:=by
 obtain ⟨k,hk,e⟩:=List.mem_iff_getElem.1 h;exact ⟨(k:Int),zB.2 (by unfold ln;omega),(zmm hk d).trans e⟩
theorem zX {α:Type}{l:List α}{i:Int}(h:hasB i (ln l)=true)(x d:α):ix (up l i x) i d=x:=by
 rw[zB]at h;unfold ln at h;simp[ix,up,List.getD,show i.toNat<l.length by omega]
theorem zbm {α:Type}{l:List α}{i j:Int}(hi:0<=i)(hj:0<=j)(h:i≠j)(x d:α):ix (up l i x) j d=ix l j d:=by
 have:i.toNat≠j.toNat:=by omega
 simp[ix,up,List.getD,jE,this]
theorem z3t {α:Type}(l:List α)(i:Int)(x y:α):up (up l i x) i y=up l i y:=by simp[up]
theorem zO0 {α:Type}{l m:List α}(d:α)(h:l.length=m.length)(e:∀i,hasB i (ln l)=true->ix l i d=ix m i d):l=m:=by
 refine List.ext_getElem h fun k h1 h2=>?_;have:=e (k:Int) (zB.2 (by unfold ln;omega))
 rwa [zmm h1,zmm h2] at this
theorem zI3 {α:Type}{l:List α}{i:Int}(h:hasB i (ln l)=true)(d:α):up l i (ix l i d)=l:=by
 obtain ⟨k,hk,rfl,e⟩:=zy4 h d;rw[e];simp[up]
def cPg (x:Mon)(q:Int):Nat:=x.Outer.countP fun s=>ieq s.Page q
def zeQ (l:List Mon)(q:Int):Nat:=(l.map fun x=>cPg x q).sum
theorem zQc {α:Type}(P:α->Bool){l:List α}{i:Int}(h:hasB i (ln l)=true)(x d:α):(up l i x).countP P+(if P (ix l i d) then 1 else 0)=l.countP P+(if P x then 1 else 0):=by
 obtain ⟨k,hk,rfl,e⟩:=zy4 h d;rw[e];simp only[up,kV,List.countP_set hk];have:(if P l[k]=true then 1 else 0)<=l.countP P:=by
  split
  .rename_i hp;exact List.countP_pos_iff.2 ⟨l[k],jH hk,hp⟩
  .omega
 omega
theorem zyi {l:List Mon}{m:Int}(h:hasB m (ln l)=true)(x:Mon)(q:Int):zeQ (up l m x) q+cPg (ix l m mZ) q=zeQ l q+cPg x q:=by
 obtain ⟨k,hk,rfl,e⟩:=zy4 h mZ;rw[e]
 clear h e
 unfold up;simp only[kV]
 induction l generalizing k with
 | nil=>simp at hk
 | cons y l ih =>
  cases k with
  | zero=>simp[zeQ];omega
  | succ k =>
   have:=ih k (by simpa using hk)
   simp[zeQ] at this ⊢;omega
theorem zHf {l:List Mon}{m p:Int}(hm:hasB m (ln l)=true)(hp:hasB p (ln (ix l m mZ).Outer)=true):1<=zeQ l (ix (ix l m mZ).Outer p sZ).Page:=by
 have h1:1<=cPg (ix l m mZ) (ix (ix l m mZ).Outer p sZ).Page:=List.countP_pos_iff.2 ⟨_,zlp hp sZ,by simp[ieq]⟩
 have:=zyi hm (⟨[],[],[],[],[],0,0,[],0⟩:Mon) (ix (ix l m mZ).Outer p sZ).Page;have e0:cPg (⟨[],[],[],[],[],0,0,[],0⟩:Mon) (ix (ix l m mZ).Outer p sZ).Page=0:=rfl;omega
theorem z3D {l:List Mon}{m p n k:Int}{q:Int}(hm:hasB m (ln l)=true)(hp:hasB p (ln (ix l m mZ).Outer)=true)(hn:hasB n (ln l)=true)(hk:hasB k (ln (ix l n mZ).Outer)=true)(e1:(ix (ix l m mZ).Outer p sZ).Page=q)(e2:(ix (ix l n mZ).Outer k sZ).Page=q)(h:zeQ l q<=1):m=n/\p=k:=by
 have hm':=zB.1 hm;have hn':=zB.1 hn;have hp':=zB.1 hp;have hk':=zB.1 hk;have hne:¬ ieq q (q+1)=true:=by simp[ieq];omega
 obtain ⟨y,hy⟩:∃y:Mon,y.Outer=up (ix l m mZ).Outer p ⟨q+1,0⟩:=⟨{ ix l m mZ with Outer:=up (ix l m mZ).Outer p ⟨q+1,0⟩ },rfl⟩;have c1:=zQc (fun s=>ieq s.Page q) hp (⟨q+1,0⟩:Slot) sZ;simp only[e1,show ieq q q=true by simp[ieq],show ieq (q+1) q=false by simp[ieq];omega,if_true,kA,if_false] at c1
 have s1:=zyi hm y q;simp only[cPg,hy] at s1;have hz:zeQ (up l m y) q=0:=by omega
 apply Classical.byContradiction;intro hc;have hpos:1<=zeQ (up l m y) q:=by
  by_cases hmn:m=n
  .subst hmn;have hpk:p≠k:=fun e=>hc ⟨rfl,e⟩;have:=zHf (l:=up l m y) (m:=m) (p:=k) (by rw[zc5];exact hm) (by rw[zX hm,hy,zc5];exact hk)
   rw[zX hm,hy,zbm hp'.1 hk'.1 hpk,e2] at this;exact this
  .have:=zHf (l:=up l m y) (m:=n) (p:=k) (by rw[zc5];exact hn) (by rw[zbm hm'.1 hn'.1 hmn];exact hk)
   rw[zbm hm'.1 hn'.1 hmn,e2] at this;exact this
 omega
theorem zts {a b c:Bool}:(cond a b c)=true↔(a=true/\b=true)\/(a=false/\c=true):=by cases a<;>simp
def SOk (s:Slot):Prop:=s=noSlot\/(0<=s.Page/\s.Page<=11/\1<=s.Rights/\s.Rights<=3)
theorem zVT {a b:Slot}(h1:a.Page=b.Page)(h2:a.Rights=b.Rights):a=b:=by
 cases a;cases b;simp_all
theorem zpd {a b:Slot}:zcI a b=true↔a=b:=by
 simp only[zcI,qD,zbi];exact ⟨fun h=>zVT h.1 h.2,fun h=>by rw[h];exact ⟨rfl,rfl⟩⟩
theorem zrA {a b:Slot}:zcI a b=false↔a≠b:=by
 rw[<- Bool.not_eq_true,zpd]
theorem zYL {s:Slot}:zdC s 12=true↔SOk s:=by
 unfold zdC SOk;rw[zts,zpd,zrA];have:wsub .i64 12 1=11:=by decide
 simp only[this,zts,zco];simp[igt];constructor
 .rintro (h|⟨h,⟨h1,h2⟩,h3⟩)
  .exact .inl h
  .exact .inr ⟨h1,h2,h3⟩
 .intro h
  by_cases hs:s=noSlot
  .exact .inl hs
  .rcases h with h|⟨h1,h2,h3⟩
   .exact .inl h
   .exact .inr ⟨hs,⟨h1,h2⟩,h3⟩
theorem SOk.none {s:Slot}(h:SOk s)(hp:s.Page = -1):s=noSlot:=by
 rcases h with h|h
 .exact h
 .omega
theorem SOk.pos {s:Slot}(h:SOk s)(hp:s.Page≠-1):0<=s.Page/\s.Page<=11/\1<=s.Rights/\s.Rights<=3:=by
 rcases h with h|h
 .rw [h]at hp;exact absurd rfl hp
 .exact h
structure MOk (x:Mon):Prop where
 g1:1<=x.Guests.length
 g2:x.Guests.length<=2
 gt:x.Tables.length=x.Guests.length
 o8:x.Outer.length=8
 sl:∀s∈x.Outer,SOk s
 u8:x.Out.length=8
 d8:x.Dirty.length=8
 outs:x.Outs.length<=40
 pend:zcR x.Pending=true
 tr:win x.Traps 0 3=true
 own:win x.Own 0 1000000000=true
 gs:∀g∈x.Guests,zcV g=true
 fit:∀p,hasB p 8=true->zlw (ix x.Outer p sZ) (ix x.Out p [])=true
theorem zTd {P:Nat->Bool}:∀{n i:Nat},zn1 P n i=true↔∀j,i<=j->j<i+n->P j=true
 | 0,i=>by simp[zn1];intro j h1 h2;omega
 | n+1,i=>by
  rw[zn1,qD,zTd];constructor
  .rintro ⟨h1,h2⟩ j hj1 hj2
   by_cases e:j=i
   .rw [e];exact h1
   .exact h2 j (by omega) (by omega)
  .intro h;exact ⟨h i (by omega) (by omega),fun j h1 h2=>h j (by omega) (by omega)⟩
theorem zq2 {t:List Slot}{n p:Int}:zcF t n p=true↔(∀s∈t,zdC s p=true)/\ln t=n:=by
 unfold zcF;rw[zb0,qM,zbi]
theorem z8r {x:Mon}:zdW x=true↔MOk x:=by
 unfold zdW;simp only[zb0,zco,zbi,zq2,zTd,qM,ile,qU];constructor
 .rintro ⟨⟨h1,h2⟩,h3,⟨h4,h5⟩,h6,h7,h8,h9,h10,h11,h12,h13⟩
  unfold ln at *;refine ⟨by omega,by omega,by omega,by omega,fun s hs=>zYL.1 (h4 s hs),by omega,by omega,by omega,h9,zco.2 h10,zco.2 h11,h12,fun p hp=>?_⟩
  have hp':=zB.1 hp;have:=h13 p.toNat (by omega) (by omega)
  unfold fits at this
  rwa [show ((p.toNat:Nat):Int)=p by omega] at this
 .intro h;obtain ⟨h1,h2,h3,h4,h5,h6,h7,h8,h9,h10,h11,h12,h13⟩:=h;unfold ln;exact ⟨⟨by omega,by omega⟩,by omega,⟨fun s hs=>zYL.2 (h5 s hs),by omega⟩,by omega,by omega,by omega,h9,zco.1 h10,zco.1 h11,h12,fun j h1 h2=>h13 (j:Int) (zB.2 (by omega))⟩
theorem zyr (o:List Slot)(s:Slot)(q:Int):(s :: o).countP (fun s=>ieq s.Page q)=o.countP (fun s=>ieq s.Page q)+if s.Page=q then 1 else 0:=by
 rw[vD];simp[ieq]
theorem zzD:∀{o:List Slot} {u:List Bool},(∀s∈o,s.Page<u.length) ->
 (∀u',zgw o u=some u'↔(∀q,0<=q->o.countP (fun s=>ieq s.Page q)+(if ix u q false then 1 else 0)<=1) /\
  u'=(o.foldl (fun u s=>bif ilt s.Page 0 then u else up u s.Page true) u))
 | [],u,h,u'=>by
  simp[zgw];exact ⟨fun h=>⟨fun q _=>by split<;>omega,h.symm⟩,fun h=>h.2.symm⟩
 | s :: o,u,h,u'=>by
  unfold zgw
  by_cases hs:s.Page<0
  .have hl:ilt s.Page 0=true:=qJ hs;rw[hl,cond_true,zzD (fun y hy=>h y (qY _ hy))];simp only[uM,hl,cond_true];refine and_congr (forall_congr' fun q=>forall_congr' fun hq=>?_) Iff.rfl;have e:(if s.Page=q then 1 else 0)=0:=if_neg (by omega)
   rw[zyr,e,kF]
  .have hl:ilt s.Page 0=false:=qG hs;have hlt:=h s jO;have hb:hasB s.Page (ln u)=true:=zB.2 ⟨by omega,by unfold ln;omega⟩
   rw[hl,cond_false];cases hu:ix u s.Page false with
   | true =>
    rw[cond_true];constructor
    .intro h;cases h
    .rintro ⟨h,_⟩
     have:=h s.Page (by omega)
     rw[zyr,if_pos rfl,hu] at this;simp at this
   | false =>
    rw[cond_false,zzD (fun y hy=>by rw[zbB];exact h y (qY _ hy))]
    simp only[uM,hl,cond_false];refine and_congr (forall_congr' fun q=>forall_congr' fun hq=>?_) Iff.rfl;rw[zyr]
    by_cases hq2:s.Page=q
    .subst hq2;rw[zX hb,hu];simp
    .rw [zbm (by omega) hq hq2,if_neg hq2,kF]
theorem zI4:∀(o:List Slot) (u:List Bool),(o.foldl (fun u s=>bif ilt s.Page 0 then u else up u s.Page true) u).length=u.length
 | [],u=>rfl
 | s :: o,u=>by
  rw[uM,zI4];cases ilt s.Page 0<;>simp [zbB]
theorem zPB:∀(o:List Slot) (u:List Bool) (q:Int),0<=q->(∀s∈o,s.Page<u.length)->(ix (o.foldl (fun u s=>bif ilt s.Page 0 then u else up u s.Page true) u) q false=true↔ix u q false=true\/1<=o.countP (fun s=>ieq s.Page q))
 | [],u,q,hq,h=>by simp
 | s :: o,u,q,hq,h=>by
  rw[uM,zPB _ _ q hq (fun y hy=>by have:=h y (qY _ hy);cases ilt s.Page 0<;>simpa [zbB] using this),zyr]
  by_cases hs:s.Page<0
  .rw [show ilt s.Page 0=true from qJ hs,cond_true,if_neg (by omega),kF]
  .rw [show ilt s.Page 0=false from qG hs,cond_false]
   have hlt:=h s jO;have hb:hasB s.Page (ln u)=true:=zB.2 ⟨by omega,by unfold ln;omega⟩
   by_cases hq2:s.Page=q
   .subst hq2;rw[zX hb];simp
   .rw [zbm (by omega) hq hq2,if_neg hq2,kF]
theorem zyK:∀{l:List Mon} {u:List Bool},u.length=12->(zin l u=true↔(∀x∈l,MOk x)/\∀q,0<=q->zeQ l q+(if l≠[]/\ix u q false then 1 else 0)<=1)
 | [],u,hu=>by simp[zin,zeQ]
 | x :: l,u,hu=>by
  unfold zin;rw[zb0,z8r];constructor
  .rintro ⟨h1,h2⟩
   have hp:∀s∈x.Outer,s.Page<u.length:=fun s hs=>by
    rcases h1.sl s hs with h|h
    .rw [h,hu];decide
    .rw [hu];omega
   split at h2
   .rename_i u' hu';obtain ⟨h3,rfl⟩:=(zzD hp u').1 hu';rw[zyK (by rw[zI4,hu])]at h2
    obtain ⟨h4,h5⟩:=h2;refine ⟨by simpa using ⟨h1,h4⟩,fun q hq=>?_⟩
    have h6:=h3 q hq;have h7:=h5 q hq;have h8:=zPB x.Outer u q hq hp;simp only[zeQ,jC,uK]at h7 ⊢;unfold cPg at h7 ⊢;simp only[ne_eq,reduceCtorEq,not_false_eq_true,true_and]
    by_cases hl:l=[]
    .subst hl;simpa using h6
    .simp only [hl,ne_eq,not_false_eq_true,true_and]at h7
     by_cases hc:ix (x.Outer.foldl (fun u s=>bif ilt s.Page 0 then u else up u s.Page true) u) q false=true
     .rw [if_pos hc]at h7;omega
     .rw [if_neg hc]at h7;have h9:¬ (ix u q false=true\/1<=x.Outer.countP (fun s=>ieq s.Page q)):=fun e=>hc (h8.2 e);rw[not_or]at h9;rw[if_neg h9.1];omega
   .cases h2
  .rintro ⟨h1,h2⟩
   have hx:MOk x:=h1 x jO;refine ⟨hx,?_⟩;have hp:∀s∈x.Outer,s.Page<u.length:=fun s hs=>by
    rcases hx.sl s hs with h|h
    .rw [h,hu];decide
    .rw [hu];omega
   have hu':=(zzD hp _).2 ⟨fun q hq=>by
    have:=h2 q hq;simp only[zeQ,jC,uK,ne_eq,reduceCtorEq,not_false_eq_true,true_and] at this;unfold cPg at this;omega,rfl⟩
   rw[hu'];simp only;rw[zyK (by rw[zI4,hu])]
   refine ⟨fun y hy=>h1 y (qY _ hy),fun q hq=>?_⟩;have h3:=h2 q hq;have h8:=zPB x.Outer u q hq hp;simp only[zeQ,jC,uK,ne_eq,reduceCtorEq,not_false_eq_true,true_and]at h3 ⊢;unfold cPg at h3 ⊢;split
   .rename_i hc;rcases h8.1 hc.2 with h|h
    .rw [if_pos h]at h3;omega
    .omega
   .omega
structure HOk (h:Host):Prop where
 m12:h.Memory.length=12
 pgs:∀c∈h.Memory,zca c=true
 n1:1<=h.Mons.length
 n3:h.Mons.length<=3
 b1:zeO h.Buffer=true
 b2:zeO h.IoBuffer=true
 mons:∀x∈h.Mons,MOk x
 uq:∀q,0<=q->zeQ h.Mons q<=1
theorem zim {h:Host}:zbQ h=true↔HOk h:=by
 unfold zbQ zho;simp only[zb0,zco,zbi,qM];rw[zyK (by simp[rp])]
 have h0:∀q,ix (rp 12 false) q false=false:=fun q=>by
  unfold ix rp;rw[j7,kC];split<;>rfl
 simp only[h0,kA,and_false,if_false,kF];unfold ln;constructor
 .rintro ⟨⟨h1,h2⟩,⟨h3,h4⟩,h5,h6,h7,h8⟩
  exact ⟨by omega,h1,by omega,by omega,h5,h6,h7,h8⟩
 .rintro ⟨h1,h2,h3,h4,h5,h6,h7,h8⟩
  exact ⟨⟨h2,by omega⟩,⟨by omega,by omega⟩,h5,h6,h7,h8⟩
theorem HOk.mon {h:Host}(H:HOk h){m:Int}(hm:hasB m (ln h.Mons)=true):MOk (ix h.Mons m mZ):=H.mons _ (zlp hm _)
theorem MOk.hasO {x:Mon}(H:MOk x){p:Int}(hp:hasB p 8=true):hasB p (ln x.Outer)=true:=by rw[ln,H.o8];exact hp
theorem MOk.hasU {x:Mon}(H:MOk x){p:Int}(hp:hasB p 8=true):hasB p (ln x.Out)=true:=by rw[ln,H.u8];exact hp
theorem MOk.hasD {x:Mon}(H:MOk x){p:Int}(hp:hasB p 8=true):hasB p (ln x.Dirty)=true:=by rw[ln,H.d8];exact hp
theorem MOk.slot {x:Mon}(H:MOk x){p:Int}(hp:hasB p 8=true):SOk (ix x.Outer p sZ):=H.sl _ (zlp (H.hasO hp) _)
theorem HOk.uniq {h:Host}(H:HOk h){m p n k q:Int}(hm:hasB m (ln h.Mons)=true)(hp:hasB p 8=true)(hn:hasB n (ln h.Mons)=true)(hk:hasB k 8=true)(e1:(ix (ix h.Mons m mZ).Outer p sZ).Page=q)(e2:(ix (ix h.Mons n mZ).Outer k sZ).Page=q)(hq:0<=q):m=n/\p=k :=
 z3D hm ((H.mon hm).hasO hp) hn ((H.mon hn).hasO hk) e1 e2 (H.uq q hq)
theorem HOk.up {h:Host}(H:HOk h){m:Int}(hm:hasB m (ln h.Mons)=true){x:Mon}(hx:MOk x){h':Host}(e:h'.Mons=up h.Mons m x)(m12:h'.Memory.length=12)(pgs:∀c∈h'.Memory,zca c=true)(b1:zeO h'.Buffer=true)(b2:zeO h'.IoBuffer=true)(uq:∀q,0<=q->cPg x q<=cPg (ix h.Mons m mZ) q\/zeQ h.Mons q=0/\cPg x q<=1):HOk h':=by
 refine ⟨m12,pgs,by rw[e,zbB];exact H.n1,by rw[e,zbB];exact H.n3,b1,b2,fun y hy=>?_,fun q hq=>?_⟩
 .rw [e]at hy;unfold E.up at hy;rcases qZ hy with h|h
  .exact H.mons y h
  .rw [h];exact hx
 .rw [e];have h1:=zyi hm x q;have h2:=H.uq q hq;have h3:=uq q hq;omega
structure KOk (k:Kept) (inner outer:List Slot):Prop where
 l1:k.Known.length=inner.length
 l2:k.Slots.length=inner.length
 at':∀i,hasB i (ln inner)=true->ix k.Slots i sZ=bif ix k.Known i false then zbh (ix inner i sZ) outer else noSlot
def TOk (x:Mon):Prop:=∀g,hasB g (ln x.Guests)=true->KOk (ix x.Tables g kZ) (ix x.Guests g gZ).Live x.Outer
structure Rt (h:Host):Prop where
 t:∀m,hasB m (ln h.Mons)=true->TOk (ix h.Mons m mZ)
 e1:∀e∈h.Buffer,zcA h e=true
 e2:∀e∈h.IoBuffer,zcA h e=true
structure Safe (h:Host):Prop where
 ok:HOk h
 rt:Rt h
theorem zq7 {a b:Slot}:below' a b=true↔a=noSlot\/(a.Page=b.Page/\enough b.Rights a.Rights=true):=by
 unfold below';rw[zts,zpd,zrA,zb0,zbi]
 by_cases h:a=noSlot<;>simp [h]
theorem zQ3 (x:Int):wand .i64 0 x=0:=by
 unfold wand;have:(BitVec.ofInt 64 0 &&& BitVec.ofInt 64 x)=0#64:=by
  rw[show BitVec.ofInt 64 0=0#64 from rfl,BitVec.zero_and]
 show IntKind.wrap .i64 ((BitVec.ofInt 64 0 &&& BitVec.ofInt 64 x).toNat:Int)=0
 rw[this];rfl
theorem z3C {a:Slot}(h:below' a noSlot=true):a=noSlot:=by
 rcases zq7.1 h with h|⟨h1,h2⟩
 .exact h
 .refine zVT h1 ?_;unfold enough at h2;rw[show noSlot.Rights=0 from rfl,zQ3]at h2
  simp only[zb0,zbi]at h2;exact h2.2.2.symm
theorem zfm {h:Host}{e:Entry}:zcA h e=true↔hasB (zdm e.Tag) (ln h.Mons)=true/\hasB (zd4 e.Tag) (ln (ix h.Mons (zdm e.Tag) mZ).Guests)=true /\
 below' ⟨e.Host,e.Rights⟩ (zbh (zbk (ix (ix h.Mons (zdm e.Tag) mZ).Guests (zd4 e.Tag) gZ).Live e.Page) (ix h.Mons (zdm e.Tag) mZ).Outer)=true:=by
 unfold zcA;rw[zb0,zb0]
theorem zQX {o:List Slot}{p q:Int}{s:Slot}(hp:0<=p)(h:q≠p):zbk (up o p s) q=zbk o q:=by
 unfold zbk;rw[zc5];cases hq:hasB q (ln o) with
 | false=>rfl
 | true=>rw[cond_true,cond_true,zbm hp (zB.1 hq).1 (Ne.symm h)]
theorem zKd {s:Slot}{o:List Slot}{p:Int}{t:Slot}(hp:0<=p)(h:s.Page≠p):zbh s (up o p t)=zbh s o:=by
 unfold zbh;rw[zQX hp h]
theorem zZk {s:Slot}{o:List Slot}:zbh s o=noSlot\/(zbh s o).Page=(zbk o s.Page).Page:=by
 unfold zbh;cases ieq s.Page (-1)<;>cases ieq (zbk o s.Page).Page (-1)<;>cases ieq (zda s.Rights (zbk o s.Page).Rights) 0<;>simp
theorem zkm (k:Kept)(q:Int):(zbK k q).Known.length=k.Known.length/\(zbK k q).Slots.length=k.Slots.length:=by
 unfold zbK;cases zc8 k q<;>simp [zbB]
theorem zz4:∀(l:List Int) (k:Kept),(zen k l).Known.length=k.Known.length/\(zen k l).Slots.length=k.Slots.length
 | [],k=>⟨rfl,rfl⟩
 | q :: l,k=>by
  have h1:=zz4 l (zbK k q);have h2:=zkm k q;exact ⟨h1.1.trans h2.1,h1.2.trans h2.2⟩
theorem zwi {k:Kept}{q i:Int}(hl:k.Known.length=k.Slots.length)(hi:hasB i (ln k.Known)=true) :
 ix (zbK k q).Known i false=(cond (ieq q i) false (ix k.Known i false))/\ix (zbK k q).Slots i sZ=(cond (ieq q i) noSlot (ix k.Slots i sZ)):=by
 have hi':hasB i (ln k.Slots)=true:=by unfold ln at hi ⊢;rwa [<- hl]
 unfold zbK zc8
 by_cases e:q=i
 .subst e;simp only[hi,hi',cond_true,ieq,beq_self_eq_true];exact ⟨zX hi _ _,zX hi' _ _⟩
 .rw [show ieq q i=false from zbO.2 e]
  by_cases hq:hasB q (ln k.Known)=true
  .have hq':hasB q (ln k.Slots)=true:=by unfold ln at hq ⊢;rwa [<- hl]
   simp only[hq,hq',cond_true,cond_false];exact ⟨zbm (zB.1 hq).1 (zB.1 hi).1 e _ _,zbm (zB.1 hq).1 (zB.1 hi).1 e _ _⟩
  .rw [Bool.not_eq_true]at hq;simp[hq]
theorem zB6:∀(l:List Int) {k:Kept} {i:Int},k.Known.length=k.Slots.length->hasB i (ln k.Known)=true ->
 (i∈l->ix (zen k l).Known i false=false/\ix (zen k l).Slots i sZ=noSlot) /\
 (i∉l->ix (zen k l).Known i false=ix k.Known i false/\ix (zen k l).Slots i sZ=ix k.Slots i sZ)
 | [],k,i,hl,hi=>⟨fun h=>by simp at h,fun _=>⟨rfl,rfl⟩⟩
 | q :: l,k,i,hl,hi=>by
  have h2:=zkm k q;have h3:=zwi (q:=q) hl hi;have ih:=zB6 l (k:=zbK k q) (i:=i) (by rw[h2.1,h2.2,hl]) (by unfold ln at hi ⊢;rwa [h2.1])
  show (_->ix (zen (zbK k q) l).Known i false=_/\ix (zen (zbK k q) l).Slots i sZ=_)/\(_->ix (zen (zbK k q) l).Known i false=_/\ix (zen (zbK k q) l).Slots i sZ=_)
  by_cases hm:i∈l
  .refine ⟨fun _=>ih.1 hm,fun h=>absurd (qY _ hm) h⟩
  .rw [(ih.2 hm).1,(ih.2 hm).2,h3.1,h3.2]
   by_cases e:q=i
   .subst e;simp[ieq]
   .rw [zbO.2 e];simp[hm,Ne.symm e]
theorem zIl {α:Type}{P:α->Bool}{d:α}:∀{l:List α} {n:Nat} {i:Int},i∈idxs P l n↔∃k:Nat,∃h:k<l.length,i=((n+k:Nat):Int)/\P l[k]=true
 | [],n,i=>by simp[idxs]
 | x :: l,n,i=>by
  have ih:=@zIl α P d l (n+1) i;unfold idxs;constructor
  .intro h;cases hx:P x with
   | true =>
    rw[hx,cond_true,qI]at h;rcases h with h|h
    .exact ⟨0,by simp,by simpa using h,hx⟩
    .obtain ⟨k,h1,h2,h3⟩:=ih.1 h;exact ⟨k+1,by simpa using h1,by rw[h2];congr 1;omega,by simpa using h3⟩
   | false =>
    rw[hx,cond_false]at h;obtain ⟨k,h1,h2,h3⟩:=ih.1 h;exact ⟨k+1,by simpa using h1,by rw[h2];congr 1;omega,by simpa using h3⟩
  .rintro ⟨k,h1,h2,h3⟩
   cases k with
   | zero =>
    simp only[List.getElem_cons_zero]at h3;rw[h3,cond_true,h2];exact jO
   | succ k =>
    have:=ih.2 ⟨k,by simpa using h1,by rw[h2];congr 1;omega,by simpa using h3⟩
    cases P x
    .exact this
    .exact qY _ this
theorem zWB {l:List Slot}{p i:Int}:i∈zD7 l p↔hasB i (ln l)=true/\(ix l i sZ).Page=p:=by
 unfold zD7;rw[zIl (d:=sZ)];constructor
 .rintro ⟨k,h1,rfl,h3⟩
  rw[jZ,zmm h1];exact ⟨zB.2 (by unfold ln;omega),zbi.1 h3⟩
 .rintro ⟨h1,h2⟩
  obtain ⟨k,hk,rfl,e⟩:=zy4 h1 sZ;exact ⟨k,hk,by simp,by rw[e]at h2;exact zbi.2 h2⟩
theorem zZZ {k:Kept}{inner outer:List Slot}(h:KOk k inner outer){p:Int}(hp:0<=p)(s:Slot):KOk (zhG k inner p) inner (up outer p s):=by
 have hl:=zz4 (zD7 inner p) k;refine ⟨hl.1.trans h.l1,hl.2.trans h.l2,fun i hi=>?_⟩;have hi':hasB i (ln k.Known)=true:=by unfold ln at hi ⊢;rwa [h.l1]
 have ha:=zB6 (zD7 inner p) (by rw[h.l1,h.l2]) hi'
 unfold zhG
 by_cases hc:(ix inner i sZ).Page=p
 .have:=ha.1 (zWB.2 ⟨hi,hc⟩);rw[this.1,this.2];rfl
 .have:=ha.2 (fun h=>hc (zWB.1 h).2);rw[this.1,this.2,h.at' i hi,zKd hp hc]
theorem zD0 (gs:List Guest)(p:Int):∀(n:Nat) (ts:List Kept),(zkZ gs p n ts).length=ts.length
 | 0,ts=>rfl
 | n+1,ts=>by rw[zkZ,zbB,zD0 gs p n]
theorem zPl (gs:List Guest)(p:Int):∀(n:Nat) (ts:List Kept),n<=ts.length->∀i,0<=i->ix (zkZ gs p n ts) i kZ=if i<n then zhG (ix ts i kZ) (ix gs i gZ).Live p else ix ts i kZ
 | 0,ts,_,i,hi=>by rw[if_neg (by omega)];rfl
 | n+1,ts,hn,i,hi=>by
  rw[zkZ]
  by_cases e:i=n
  .subst e;rw[zX (by rw[ln,zD0];exact zB.2 (by omega)),if_pos (by omega),zPl gs p n ts (by omega) _ hi,if_neg (by omega)]
  .rw [zbm (by omega) hi (Ne.symm e),zPl gs p n ts (by omega) i hi]
   by_cases h:i<n
   .rw [if_pos h,if_pos (by omega)]
   .rw [if_neg h,if_neg (by omega)]
def zjm (x:Mon)(p:Int)(s:Slot):Mon:={ zj5 x p x.Tables.length with Outer:=up x.Outer p s }
theorem z3h {x:Mon}(h:TOk x)(ht:x.Tables.length=x.Guests.length){p:Int}(hp:0<=p)(s:Slot):TOk (zjm x p s):=by
 intro g hg;have hg':hasB g (ln x.Guests)=true:=hg
 show KOk (ix (zkZ x.Guests p x.Tables.length x.Tables) g kZ) (ix x.Guests g gZ).Live (up x.Outer p s)
 rw[zPl _ _ _ _ (qV _) _ (zB.1 hg').1,if_pos (by have:=zB.1 hg';unfold ln at this;omega)]
 exact zZZ (h g hg') hp s
theorem zsk (h:Host)(m p:Int)(s:Slot):(zcb h m p s).Mons=up h.Mons m (zjm (ix h.Mons m mZ) p s):=by
 unfold zcb;cases ine (ix (ix h.Mons m zf).Outer p zN).Page (-1)<;>rfl
theorem zwN (h:Host)(m p:Int)(s:Slot):(zcb h m p s).Memory=h.Memory:=by
 unfold zcb;cases ine (ix (ix h.Mons m zf).Outer p zN).Page (-1)<;>rfl
theorem zQZ (h:Host)(m p:Int)(s:Slot):(zcb h m p s).Buffer=(cond (ieq (ix (ix h.Mons m mZ).Outer p sZ).Page (-1)) h.Buffer (flushed h.Buffer (ix (ix h.Mons m mZ).Outer p sZ).Page)) /\
 (zcb h m p s).IoBuffer=(cond (ieq (ix (ix h.Mons m mZ).Outer p sZ).Page (-1)) h.IoBuffer (flushed h.IoBuffer (ix (ix h.Mons m mZ).Outer p sZ).Page)):=by
 unfold zcb
 by_cases e:(ix (ix h.Mons m zf).Outer p zN).Page = -1
 .rw [show ine (ix (ix h.Mons m zf).Outer p zN).Page (-1)=false by simp[ine,e],show ieq (ix (ix h.Mons m mZ).Outer p sZ).Page (-1)=true from zbi.2 e]
  exact ⟨rfl,rfl⟩
 .rw [show ine (ix (ix h.Mons m zf).Outer p zN).Page (-1)=true from ztd.2 e,show ieq (ix (ix h.Mons m mZ).Outer p sZ).Page (-1)=false from zbO.2 e]
  exact ⟨rfl,rfl⟩
theorem zKl {h h':Host}{m p:Int}{s:Slot}(hm:hasB m (ln h.Mons)=true)(hp:hasB p (ln (ix h.Mons m mZ).Outer)=true){x:Mon}(hM:h'.Mons=up h.Mons m x)(hG:x.Guests=(ix h.Mons m mZ).Guests)(hO:x.Outer=up (ix h.Mons m mZ).Outer p s){e:Entry}(he:zcA h e=true)(hn:(ix (ix h.Mons m mZ).Outer p sZ).Page = -1\/e.Host≠(ix (ix h.Mons m mZ).Outer p sZ).Page):zcA h' e=true:=by
 obtain ⟨h1,h2,h3⟩:=zfm.1 he;rw[zfm,hM,zc5];refine ⟨h1,?_⟩
 by_cases hc:m=zdm e.Tag
 .rw [<- hc]at h1 h2 h3 ⊢;rw[zX hm,hG,hO];refine ⟨h2,?_⟩
  by_cases hq:(zbk (ix (ix h.Mons m mZ).Guests (zd4 e.Tag) gZ).Live e.Page).Page=p
  .have key:zbh (zbk (ix (ix h.Mons m mZ).Guests (zd4 e.Tag) gZ).Live e.Page) (ix h.Mons m mZ).Outer=noSlot\/e.Host≠(zbh (zbk (ix (ix h.Mons m mZ).Guests (zd4 e.Tag) gZ).Live e.Page) (ix h.Mons m mZ).Outer).Page:=by
    rcases zZk (s:=zbk (ix (ix h.Mons m mZ).Guests (zd4 e.Tag) gZ).Live e.Page) (o:=(ix h.Mons m mZ).Outer) with hz|hz
    .exact .inl hz
    .rw [hq]at hz;have hs:zbk (ix h.Mons m mZ).Outer p=ix (ix h.Mons m mZ).Outer p sZ:=by unfold zbk;rw[hp];rfl
     rw[hs]at hz;rcases hn with hn|hn
     .left
      unfold zbh;rw[hq,hs,hn,show ieq (-1) (-1)=true from rfl]
      cases ieq p (-1)<;>rfl
     .exact .inr (by rw[hz];exact hn)
   have hno:(⟨e.Host,e.Rights⟩:Slot)=noSlot:=by
    rcases key with key|key
    .rw [key]at h3;exact z3C h3
    .rcases zq7.1 h3 with h|h
     .exact h
     .exact absurd h.1 key
   rw[hno];exact zq7.2 (.inl rfl)
  .rw [zKd (zB.1 hp).1 hq];exact h3
 .rw [zbm (zB.1 hm).1 (zB.1 h1).1 hc];exact ⟨h2,h3⟩
theorem zzi {h:Host}(H:Rt h){m p:Int}(hm:hasB m (ln h.Mons)=true)(hp:hasB p (ln (ix h.Mons m mZ).Outer)=true)(ht:(ix h.Mons m mZ).Tables.length=(ix h.Mons m mZ).Guests.length)(s:Slot):Rt (zcb h m p s):=by
 have hb:=zQZ h m p s;have hM:=zsk h m p s;have key:∀(b:List Entry),(∀e∈b,zcA h e=true)->∀e∈(cond (ieq (ix (ix h.Mons m mZ).Outer p sZ).Page (-1)) b (flushed b (ix (ix h.Mons m mZ).Outer p sZ).Page)),zcA (zcb h m p s) e=true:=by
  intro b hb e he
  by_cases ho:(ix (ix h.Mons m mZ).Outer p sZ).Page = -1
  .rw [zbi.2 ho,cond_true]at he;exact zKl hm hp hM rfl rfl (hb e he) (.inl ho)
  .rw [zbO.2 ho,cond_false]at he;obtain ⟨he1,he2⟩:=List.mem_filter.1 he;exact zKl hm hp hM rfl rfl (hb e he1) (.inr (by simpa [ieq] using he2))
 refine ⟨fun k hk=>?_,fun e he=>key _ H.e1 e (by rwa [hb.1]at he),fun e he=>key _ H.e2 e (by rwa [hb.2]at he)⟩
 rw[hM]at hk ⊢;rw[zc5]at hk
 by_cases hc:m=k
 .subst hc;rw[zX hm];exact z3h (H.t m hm) ht (zB.1 hp).1 s
 .rw [zbm (zB.1 hm).1 (zB.1 hk).1 hc];exact H.t k hk
theorem zP8:∀(l pre:List Entry),allI (alone (pre++l)) l pre.length=true↔(∀x∈l,∀y∈pre,sameKey x y=false)/\l.Pairwise (fun y x=>sameKey x y=false)
 | [],pre=>by simp[allI]
 | x :: l,pre=>by
  have ih:=zP8 l (pre++[x]);rw[kD,List.singleton_append,kP,uY] at ih;rw[allI,qD,ih,List.pairwise_cons];have h1:alone (pre++x :: l) pre.length x=true↔∀y∈pre,sameKey x y=false:=by
   unfold alone;rw[kS rfl,qM];simp
  rw[h1];constructor
  .rintro ⟨h2,h3,h4⟩
   refine ⟨fun z hz y hy=>?_,fun z hz=>h3 z hz x (by simp),h4⟩
   rcases qI.1 hz with rfl|hz
   .exact h2 y hy
   .exact h3 z hz y (by simp[hy])
  .rintro ⟨h2,h3,h4⟩
   refine ⟨fun y hy=>h2 x (by simp) y hy,fun z hz y hy=>?_,h4⟩
   rcases jK.1 hy with hy|hy
   .exact h2 z (by simp[hz]) y hy
   .rw [qF.1 hy];exact h3 z hz
theorem zEb {l:List Entry}:zeO l=true↔l.Pairwise (fun y x=>sameKey x y=false)/\l.length<=6:=by
 unfold zeO;have:=zP8 l [];simp only[jN,List.length_nil] at this;have h0:ile (ln l) 6=true↔l.length<=6:=by
  rw[ile,qU,ln];omega
 rw[zb0,this,h0];simp
theorem zyq {l:List Entry}(h:zeO l=true)(P:Entry->Bool):zeO (l.filter P)=true:=by
 rw[zEb]at h ⊢;exact ⟨h.1.sublist List.filter_sublist,jD (uC _ _) h.2⟩
theorem zGe {l:List Entry}(h:zeO l=true)(p:Int):zeO (flushed l p)=true:=zyq h _
theorem zTi {x x':Mon}{p:Int}(hp:hasB p (ln x.Outer)=true){s:Slot}(h:x'.Outer=up x.Outer p s)(q:Int):cPg x' q+(if (ix x.Outer p sZ).Page=q then 1 else 0)=cPg x q+(if s.Page=q then 1 else 0):=by
 have:=zQc (fun s=>ieq s.Page q) hp s sZ;simp only[zbi] at this;unfold cPg;rw[h];exact this
theorem zps {s:Slot}(hs:SOk s){c:List Int}:zlw s c=true↔(s.Page = -1->zca c=true)/\(s.Page≠-1->enough s.Rights 1=true/\c=[]):=by
 unfold zlw
 by_cases e:s=noSlot
 .rw [zpd.2 e,cond_true,e];simp[noSlot]
 .rw [zrA.2 e,cond_false,zb0];have:s.Page≠-1:=fun h=>e (hs.none h);have h0:ile (ln c) 0=true↔c=[]:=by
   rw[ile,qU,ln,<- List.length_eq_zero_iff];omega
  rw[h0];exact ⟨fun h=>⟨fun h'=>absurd h' this,fun _=>h⟩,fun h=>h.2 this⟩
structure Chg (x x':Mon) (p:Int) (s:Slot) (c:List Int):Prop where
 o:x'.Outer=up x.Outer p s
 u:x'.Out=up x.Out p c
 g:x'.Guests=x.Guests
 t:x'.Tables.length=x.Tables.length
 d:x'.Dirty.length=x.Dirty.length
 a1:x'.Outs=x.Outs
 a2:x'.Pending=x.Pending
 a3:x'.Traps=x.Traps
 a4:x'.Own=x.Own
theorem MOk.chg {x x':Mon}(H:MOk x){p:Int}(hp:hasB p 8=true){s:Slot}{c:List Int}(k:Chg x x' p s c)(hs:SOk s)(hf:zlw s c=true):MOk x':=by
 refine ⟨by rw[k.g];exact H.g1,by rw[k.g];exact H.g2,by rw[k.t,k.g];exact H.gt,by rw[k.o,zbB];exact H.o8,fun y hy=>?_,by rw[k.u,zbB];exact H.u8,by rw[k.d];exact H.d8,by rw[k.a1];exact H.outs,by rw[k.a2];exact H.pend,by rw[k.a3];exact H.tr,by rw[k.a4];exact H.own,by rw[k.g];exact H.gs,fun q hq=>?_⟩
 .rw [k.o]at hy;rcases qZ hy with h|h
  .exact H.sl y h
  .rw [h];exact hs
 .rw [k.o,k.u]
  by_cases e:p=q
  .subst e;rw[zX (H.hasO hp),zX (H.hasU hp)];exact hf
  .rw [zbm (zB.1 hp).1 (zB.1 hq).1 e,zbm (zB.1 hp).1 (zB.1 hq).1 e];exact H.fit q hq
structure Like (h r:Host):Prop where
 len:r.Mons.length=h.Mons.length
 g:∀i,hasB i (ln h.Mons)=true->(ix r.Mons i mZ).Guests=(ix h.Mons i mZ).Guests
 o:∀i,hasB i (ln h.Mons)=true->(ix r.Mons i mZ).Outs=(ix h.Mons i mZ).Outs
 p:∀i,hasB i (ln h.Mons)=true->(ix r.Mons i mZ).Pending=(ix h.Mons i mZ).Pending
 tr:∀i,hasB i (ln h.Mons)=true->(ix r.Mons i mZ).Traps=(ix h.Mons i mZ).Traps
 ow:∀i,hasB i (ln h.Mons)=true->(ix r.Mons i mZ).Own=(ix h.Mons i mZ).Own
 pg:∀i k,hasB i (ln h.Mons)=true->hasB k 8=true->zb9 r i k=zb9 h i k
theorem Like.refl (h:Host):Like h h:=⟨rfl,fun _ _=>rfl,fun _ _=>rfl,fun _ _=>rfl,fun _ _=>rfl,fun _ _=>rfl,fun _ _ _ _=>rfl⟩
theorem Like.trans {a b c:Host}(x:Like a b)(y:Like b c):Like a c:=by
 have k:∀i,hasB i (ln a.Mons)=true->hasB i (ln b.Mons)=true:=fun i hi=>by unfold ln at hi ⊢;rwa [x.len]
 exact ⟨y.len.trans x.len,fun i h=>(y.g i (k i h)).trans (x.g i h),fun i h=>(y.o i (k i h)).trans (x.o i h),fun i h=>(y.p i (k i h)).trans (x.p i h),fun i h=>(y.tr i (k i h)).trans (x.tr i h),fun i h=>(y.ow i (k i h)).trans (x.ow i h),fun i q h hq=>(y.pg i q (k i h) hq).trans (x.pg i q h hq)⟩
theorem Like.has {h r:Host}(k:Like h r){i:Int}:hasB i (ln r.Mons)=hasB i (ln h.Mons):=by unfold ln;rw[k.len]
theorem zqy {h r:Host}{m:Int}:∀(n i:Nat),(∀k:Nat,i<=k->k<i+n->zb9 r m (k:Int)=zb9 h m (k:Int))->zch r m n i=zch h m n i
 | 0,i,_=>rfl
 | n+1,i,h=>by
  rw[zch,zch,h i (by omega) (by omega),zqy n (i+1) (fun k h1 h2=>h k (by omega) (by omega))]
theorem Like.seen {h r:Host}(k:Like h r)(m:Int):zy r m=zy h m:=by
 unfold zy;rw[k.has];cases hm:hasB m (ln h.Mons) with
 | false=>rfl
 | true =>
  simp only[cond_true];rw[k.g m hm,k.o m hm,k.p m hm,zqy 8 0 (fun j h1 h2=>k.pg m j hm (zB.2 (by omega)))]
theorem znJ {h:Host}{m p:Int}(hm:hasB m (ln h.Mons)=true)(hp:hasB p 8=true)(ho:hasB p (ln (ix h.Mons m mZ).Outer)=true) :
 zb9 h m p=bif ieq (ix (ix h.Mons m mZ).Outer p sZ).Page (-1) then zcd (ix h.Mons m mZ).Out p else zcd h.Memory (ix (ix h.Mons m mZ).Outer p sZ).Page:=by
 unfold zb9;have:zbk (ix h.Mons m mZ).Outer p=ix (ix h.Mons m mZ).Outer p sZ:=by unfold zbk;rw[ho];rfl
 rw[hm,hp,cond_true,cond_true,this]
 by_cases e:(ix (ix h.Mons m mZ).Outer p sZ).Page = -1
 .rw [zbi.2 e,show ine (ix (ix h.Mons m mZ).Outer p sZ).Page (-1)=false by simp[ine,e]];rfl
 .rw [zbO.2 e,show ine (ix (ix h.Mons m mZ).Outer p sZ).Page (-1)=true from ztd.2 e];rfl
theorem zkF {m:List (List Int)}{p:Int}(h:hasB p (ln m)=true):zcd m p=ix m p []:=by unfold zcd;rw[h];rfl
theorem zQI {m:List (List Int)}(h:∀c∈m,zca c=true)(p:Int):zca (zcd m p)=true:=by
 unfold zcd;cases hp:hasB p (ln m) with
 | false=>rfl
 | true=>exact h _ (zlp hp _)
theorem zv7 {h r:Host}(H:HOk h){m p:Int}(hm:hasB m (ln h.Mons)=true)(hp:hasB p 8=true){x:Mon}{s:Slot}{c:List Int}(hM:r.Mons=up h.Mons m x)(k:Chg (ix h.Mons m mZ) x p s c)(hs:SOk s)(hf:zlw s c=true)(m12:r.Memory.length=12)(pgs:∀c∈r.Memory,zca c=true)(b1:zeO r.Buffer=true)(b2:zeO r.IoBuffer=true)(uq:0<=s.Page->s.Page=(ix (ix h.Mons m mZ).Outer p sZ).Page\/zeQ h.Mons s.Page=0):HOk r:=by
 refine H.up hm ((H.mon hm).chg hp k hs hf) hM m12 pgs b1 b2 fun q hq=>?_;have h1:=zTi ((H.mon hm).hasO hp) k.o q
 by_cases e:s.Page=q
 .have e2:=uq (by omega)
  rw[if_pos e]at h1;rcases e2 with e2|e2
  .rw [if_pos (by omega)]at h1;left;omega
  .right
   rw[e] at e2;refine ⟨e2,?_⟩;have:=zyi hm x q;have h4:cPg (ix h.Mons m mZ) q<=zeQ h.Mons q:=by
    have:=zyi hm (⟨[],[],[],[],[],0,0,[],0⟩:Mon) q;have e0:cPg (⟨[],[],[],[],[],0,0,[],0⟩:Mon) q=0:=rfl;omega
   omega
 .rw [if_neg e]at h1
  left
  split at h1<;>omega
theorem zvc {h r:Host}(H:HOk h){m p:Int}(hm:hasB m (ln h.Mons)=true)(hp:hasB p 8=true){x:Mon}{s:Slot}{c:List Int}(hM:r.Mons=up h.Mons m x)(k:Chg (ix h.Mons m mZ) x p s c)(hpg:(cond (ieq s.Page (-1)) c (zcd r.Memory s.Page))=zb9 h m p)(hmem:∀i q,hasB i (ln h.Mons)=true->hasB q 8=true->¬ (i=m/\q=p)->(ix (ix h.Mons i mZ).Outer q sZ).Page≠-1->zcd r.Memory (ix (ix h.Mons i mZ).Outer q sZ).Page=zcd h.Memory (ix (ix h.Mons i mZ).Outer q sZ).Page):Like h r:=by
 have hm0:=(zB.1 hm).1;have hp0:=(zB.1 hp).1;have e:∀{α:Type} (F:Mon->α),F x=F (ix h.Mons m mZ)->∀i,hasB i (ln h.Mons)=true->F (ix r.Mons i mZ)=F (ix h.Mons i mZ):=by
  intro α F hF i hi;rw[hM]
  by_cases e:m=i
  .subst e;rw[zX hm];exact hF
  .rw [zbm hm0 (zB.1 hi).1 e]
 refine ⟨by rw[hM,zbB],e Mon.Guests k.g,e Mon.Outs k.a1,e Mon.Pending k.a2,e Mon.Traps k.a3,e Mon.Own k.a4,fun i q hi hq=>?_⟩
 have hi':hasB i (ln r.Mons)=true:=by rw[hM,zc5];exact hi
 have hO:=(H.mon hi).hasO hq;have hO':hasB q (ln (ix r.Mons i mZ).Outer)=true:=by
  rw[hM]
  by_cases e:m=i
  .subst e;rw[zX hm,k.o,zc5];exact hO
  .rw [zbm hm0 (zB.1 hi).1 e];exact hO
 rw[znJ hi' hq hO']
 by_cases e:m=i
 .subst e;rw[hM,zX hm,k.o,k.u]
  by_cases e2:p=q
  .subst e2;rw[zX ((H.mon hm).hasO hp),<- hpg];cases ieq s.Page (-1)
   .rfl
   .rw [cond_true,cond_true,zkF (by rw[zc5];exact (H.mon hm).hasU hp),zX ((H.mon hm).hasU hp)]
  .rw [zbm hp0 (zB.1 hq).1 e2,znJ hm hq hO]
   by_cases e3:(ix (ix h.Mons m mZ).Outer q sZ).Page = -1
   .rw [zbi.2 e3,cond_true,cond_true,zkF (by rw[zc5];exact (H.mon hm).hasU hq),zkF ((H.mon hm).hasU hq),zbm hp0 (zB.1 hq).1 e2]
   .rw [zbO.2 e3,cond_false,cond_false,hmem m q hm hq (fun h=>e2 h.2.symm) e3]
 .rw [hM,zbm hm0 (zB.1 hi).1 e,znJ hi hq hO]
  by_cases e3:(ix (ix h.Mons i mZ).Outer q sZ).Page = -1
  .rw [zbi.2 e3,cond_true,cond_true]
  .rw [zbO.2 e3,cond_false,cond_false,hmem i q hi hq (fun h=>e h.1.symm) e3]
structure Op (h r:Host):Prop where
 ok:HOk r
 like:Like h r
 rt:Rt h->Rt r
theorem Op.refl {h:Host}(H:HOk h):Op h h:=⟨H,Like.refl h,id⟩
theorem Op.trans {a b c:Host}(x:Op a b)(y:Op b c):Op a c:=⟨y.ok,x.like.trans y.like,fun h=>y.rt (x.rt h)⟩
theorem Op.safe {h r:Host}(k:Op h r)(s:Safe h):Safe r:=⟨k.ok,k.rt s.rt⟩
theorem zMf {h r:Host}(H:Rt h){m:Int}(hm:hasB m (ln h.Mons)=true){x:Mon}(hM:r.Mons=up h.Mons m x)(hb1:r.Buffer=h.Buffer)(hb2:r.IoBuffer=h.IoBuffer)(hl:x.Guests.length=(ix h.Mons m mZ).Guests.length)(hv:∀g,hasB g (ln (ix h.Mons m mZ).Guests)=true->(ix x.Guests g gZ).Live=(ix (ix h.Mons m mZ).Guests g gZ).Live)(ht:x.Tables=(ix h.Mons m mZ).Tables)(ho:x.Outer=(ix h.Mons m mZ).Outer):Rt r:=by
 have hm0:=(zB.1 hm).1;have hg:∀g,hasB g (ln x.Guests)=hasB g (ln (ix h.Mons m mZ).Guests):=fun g=>by unfold ln;rw[hl]
 have key:∀e,zcA h e=true->zcA r e=true:=by
  intro e he;obtain ⟨h1,h2,h3⟩:=zfm.1 he;rw[zfm,hM,zc5];refine ⟨h1,?_⟩
  by_cases hc:m=zdm e.Tag
  .rw [<- hc]at h1 h2 h3 ⊢;rw[zX hm,hg,hv _ h2,ho];exact ⟨h2,h3⟩
  .rw [zbm hm0 (zB.1 h1).1 hc];exact ⟨h2,h3⟩
 refine ⟨fun k hk=>?_,fun e he=>key e (H.e1 e (by rwa [hb1]at he)),fun e he=>key e (H.e2 e (by rwa [hb2]at he))⟩
 rw[hM]at hk ⊢;rw[zc5]at hk
 by_cases hc:m=k
 .subst hc;rw[zX hm];intro g hgg;rw[hg]at hgg;rw[ht,hv g hgg,ho];exact H.t m hm g hgg
 .rw [zbm hm0 (zB.1 hk).1 hc];exact H.t k hk
theorem zpe {h h1:Host}{m p:Int}{s:Slot}{x:Mon}(hm:hasB m (ln h.Mons)=true)(e:h1.Mons=up h.Mons m x):(zcb h1 m p s).Mons=up h.Mons m (zjm x p s):=by
 rw[zsk,e,zX hm,z3t]
theorem zBT {x x1:Mon}{p:Int}{s:Slot}{c:List Int}(ho:x1.Outer=x.Outer)(hu:x1.Out=up x.Out p c)(hg:x1.Guests=x.Guests)(ht:x1.Tables=x.Tables)(hd:x1.Dirty.length=x.Dirty.length)(h1:x1.Outs=x.Outs)(h2:x1.Pending=x.Pending)(h3:x1.Traps=x.Traps)(h4:x1.Own=x.Own):Chg x (zjm x1 p s) p s c :=
 ⟨by show up x1.Outer p s=_;rw[ho],hu,hg,by show (zkZ x1.Guests p x1.Tables.length x1.Tables).length=_;rw[zD0,ht],hd,h1,h2,h3,h4⟩
theorem zuC {h:Host}{m p:Int}{s:Slot}(h1:zeO h.Buffer=true)(h2:zeO h.IoBuffer=true):zeO (zcb h m p s).Buffer=true/\zeO (zcb h m p s).IoBuffer=true:=by
 have:=zQZ h m p s;rw[this.1,this.2];cases ieq (ix (ix h.Mons m mZ).Outer p sZ).Page (-1)
 .exact ⟨zGe h1 _,zGe h2 _⟩
 .exact ⟨h1,h2⟩
theorem hasM {h:Host}(H:HOk h){s:Slot}(hs:SOk s)(hp:s.Page≠-1):hasB s.Page (ln h.Memory)=true:=by
 have:=hs.pos hp;exact zB.2 ⟨this.1,by unfold ln;rw[H.m12];omega⟩
theorem zYD {h:Host}(H:HOk h){m p:Int}(hm:hasB m (ln h.Mons)=true)(hp:hasB p 8=true)(hn:(ix (ix h.Mons m mZ).Outer p sZ).Page≠-1):Op h (zdk h m p):=by
 have X:=H.mon hm;have hM:(zdk h m p).Mons=up h.Mons m (zjm { ix h.Mons m mZ with Out:=up (ix h.Mons m mZ).Out p (zcd h.Memory (ix (ix h.Mons m mZ).Outer p sZ).Page) } p noSlot):=zpe hm rfl;have k:Chg (ix h.Mons m mZ) (zjm { ix h.Mons m mZ with Out:=up (ix h.Mons m mZ).Out p (zcd h.Memory (ix (ix h.Mons m mZ).Outer p sZ).Page) } p noSlot) p noSlot (zcd h.Memory (ix (ix h.Mons m mZ).Outer p sZ).Page):=zBT rfl rfl rfl rfl rfl rfl rfl rfl rfl;have hmem:(zdk h m p).Memory=h.Memory:=zwN _ _ _ _;have hb:=zuC (h:=zeA h m p) (m:=m) (p:=p) (s:=noSlot) H.b1 H.b2;refine ⟨zv7 H hm hp hM k (.inl rfl) ((zps (.inl rfl)).2 ⟨fun _=>zQI H.pgs _,fun h=>absurd rfl h⟩) (by rw[hmem];exact H.m12) (by rw[hmem];exact H.pgs) hb.1 hb.2 (fun h=>absurd h (by decide)),
  zvc H hm hp hM k ?_ (fun i q _ _ _ _=>by rw[hmem]),fun R=>?_⟩
 .rw [znJ hm hp (X.hasO hp),zbO.2 hn];rfl
 .have R1:Rt (zeA h m p):=zMf (x:={ ix h.Mons m mZ with Out:=up (ix h.Mons m mZ).Out p (zcd h.Memory (ix (ix h.Mons m mZ).Outer p sZ).Page) }) R hm rfl rfl rfl rfl (fun _ _=>rfl) rfl rfl;have hm1:hasB m (ln (zeA h m p).Mons)=true:=by show hasB m (ln (up h.Mons m _))=true;rw[zc5];exact hm
  have e1:ix (zeA h m p).Mons m mZ={ ix h.Mons m mZ with Out:=up (ix h.Mons m mZ).Out p (zcd h.Memory (ix (ix h.Mons m mZ).Outer p sZ).Page) }:=zX hm _ _;exact zzi R1 hm1 (by rw[e1];exact X.hasO hp) (by rw[e1];exact X.gt) noSlot
theorem zGj {o:List Slot}{q:Int}:zn7 o q=none↔o.countP (fun s=>ieq s.Page q)=0:=by
 unfold zn7;rw[List.findIdx?_eq_none_iff,u2];simp
theorem zWR {o:List Slot}{q:Int}{k:Nat}(h:zn7 o q=some k):∃hk:k<o.length,o[k].Page=q:=by
 unfold zn7 at h;rw[uW]at h;obtain ⟨hk,h1,_⟩:=h;exact ⟨hk,zbi.1 h1⟩
theorem zzc {q:Int}:∀(l:List Mon) (i:Nat),((zhL q l i).1<0↔zeQ l q=0)/\(¬ (zhL q l i).1<0->∃a b:Nat,∃ha:a<l.length,∃hb:b<l[a].Outer.length,zhL q l i=(((i+a:Nat):Int),(b:Int))/\l[a].Outer[b].Page=q)
 | [],i=>⟨by simp[zhL,zeQ],fun h=>absurd (show (-1:Int)<0 by decide) h⟩
 | x :: l,i=>by
  have ih:=zzc (q:=q) l (i+1);unfold zhL;split
  .rename_i k hk;obtain ⟨h1,h2⟩:=zWR hk;refine ⟨⟨fun h=>by simp at h;omega,fun h=>?_⟩,fun _=>⟨0,k,by simp,h1,by simp,h2⟩⟩
   exfalso;simp only[zeQ,jC,uK]at h;have h3:x.Outer.countP (fun s=>ieq s.Page q)=0:=by unfold cPg at h;omega
   rw[zGj.2 h3]at hk;cases hk
  .rename_i hk;have h3:=zGj.1 hk;refine ⟨?_,fun h=>?_⟩
   .rw [ih.1];simp only[zeQ,jC,uK];unfold cPg;omega
   .obtain ⟨a,b,ha,hb,e,hp⟩:=ih.2 h;exact ⟨a+1,b,by simpa using ha,by simpa using hb,by rw[e];simp;omega,by simpa using hp⟩
theorem zIG {h:Host}{q:Int}(hq:0<=q):(zbw h q).1<0↔zeQ h.Mons q=0:=by
 unfold zbw;rw[show ilt q 0=false from qG (by omega),cond_false]
 exact (zzc h.Mons 0).1
theorem z4V {h:Host}(H:HOk h){q:Int}(hq:0<=q)(hn:¬ (zbw h q).1<0):hasB (zbw h q).1 (ln h.Mons)=true/\hasB (zbw h q).2 8=true/\(ix (ix h.Mons (zbw h q).1 mZ).Outer (zbw h q).2 sZ).Page=q:=by
 unfold zbw at hn ⊢;rw[show ilt q 0=false from qG (by omega),cond_false]at hn ⊢
 obtain ⟨a,b,ha,hb,e,hp⟩:=(zzc h.Mons 0).2 hn;rw[e,jZ];have h8:=(H.mons _ (jH ha)).o8;exact ⟨zB.2 (by unfold ln;simp;omega),zB.2 (by simp;omega),by rw[zmm ha,zmm hb];exact hp⟩
theorem zT0 {P:Nat->Bool}:∀{n i:Nat} {q:Int},q∈zwp P n i↔∃k:Nat,q=(k:Int)/\i<=k/\k<i+n/\P k=true
 | 0,i,q=>by simp[zwp];intro k _ _ _;omega
 | n+1,i,q=>by
  have ih:=@zT0 P n (i+1) q;unfold zwp;constructor
  .intro h;cases hx:P i with
   | true =>
    rw[hx,cond_true,qI]at h;rcases h with h|h
    .exact ⟨i,h,by omega,by omega,hx⟩
    .obtain ⟨k,h1,h2,h3,h4⟩:=ih.1 h;exact ⟨k,h1,by omega,by omega,h4⟩
   | false =>
    rw[hx,cond_false]at h;obtain ⟨k,h1,h2,h3,h4⟩:=ih.1 h;exact ⟨k,h1,by omega,by omega,h4⟩
  .rintro ⟨k,h1,h2,h3,h4⟩
   by_cases e:k=i
   .subst e;rw[h4,cond_true,h1];exact jO
   .have:=ih.2 ⟨k,h1,by omega,by omega,h4⟩
    cases P i
    .exact this
    .exact qY _ this
theorem zHy {h:Host}{q:Int}:q∈zb3 h↔hasB q (ln h.Memory)=true/\zeQ h.Mons q=0:=by
 unfold zb3;rw[zT0];constructor
 .rintro ⟨k,rfl,h1,h2,h3⟩
  exact ⟨zB.2 (by unfold ln;omega),(zIG (by omega)).1 (qE h3)⟩
 .rintro ⟨h1,h2⟩
  have h1':=zB.1 h1;unfold ln at h1';refine ⟨q.toNat,by omega,by omega,by omega,?_⟩
  rw[show ((q.toNat:Nat):Int)=q by omega]
  exact qJ ((zIG h1'.1).2 h2)
theorem zZO {h:Host}(hn:zb3 h≠[]):hasB (ix (zb3 h) 0 0) (ln h.Memory)=true/\zeQ h.Mons (ix (zb3 h) 0 0)=0:=by
 refine zHy.1 (zlp (zB.2 ⟨by omega,?_⟩) 0)
 unfold ln;have:=kL.2 hn;omega
structure But (h r:Host) (m p:Int):Prop where
 ne:∀i k,hasB i (ln h.Mons)=true->hasB k 8=true->¬ (i=m/\k=p)->ix (ix r.Mons i mZ).Outer k sZ=ix (ix h.Mons i mZ).Outer k sZ
theorem zHe {h r:Host}{m p:Int}(hm:hasB m (ln h.Mons)=true)(hp:hasB p 8=true){x:Mon}{s:Slot}(hM:r.Mons=up h.Mons m x)(ho:x.Outer=up (ix h.Mons m mZ).Outer p s):But h r m p:=by
 refine ⟨fun i k hi hk hc=>?_⟩;rw[hM]
 by_cases e:m=i
 .subst e;rw[zX hm,ho,zbm (zB.1 hp).1 (zB.1 hk).1 (fun e=>hc ⟨rfl,e.symm⟩)]
 .rw [zbm (zB.1 hm).1 (zB.1 hi).1 e]
theorem z3b {h:Host}(H:HOk h){m p:Int}(hm:hasB m (ln h.Mons)=true)(hp:hasB p 8=true):But h (zdk h m p) m p/\ix (ix (zdk h m p).Mons m mZ).Outer p sZ=noSlot:=by
 have hM:(zdk h m p).Mons=up h.Mons m (zjm { ix h.Mons m mZ with Out:=up (ix h.Mons m mZ).Out p (zcd h.Memory (ix (ix h.Mons m mZ).Outer p sZ).Page) } p noSlot):=zpe hm rfl;refine ⟨zHe hm hp hM rfl,?_⟩;rw[hM,zX hm];exact zX ((H.mon hm).hasO hp) _ _
structure Roomy (h r:Host):Prop where
 op:Op h r
 free:zb3 r≠[]
 sl:∀i k,hasB i (ln h.Mons)=true->hasB k 8=true->ix (ix r.Mons i mZ).Outer k sZ=ix (ix h.Mons i mZ).Outer k sZ\/ix (ix r.Mons i mZ).Outer k sZ=noSlot
 dirt:∀i,(ix r.Mons i mZ).Dirty=(ix h.Mons i mZ).Dirty
theorem zM4 {h r:Host}{m:Int}(hm:hasB m (ln h.Mons)=true){x:Mon}(hM:r.Mons=up h.Mons m x)(hd:x.Dirty=(ix h.Mons m mZ).Dirty)(i:Int):(ix r.Mons i mZ).Dirty=(ix h.Mons i mZ).Dirty:=by
 rw[hM]
 by_cases e:i.toNat=m.toNat
 .have:∀l:List Mon,ix l i mZ=ix l m mZ:=fun l=>by unfold ix;rw[e]
  rw[this,this,zX hm,hd]
 .unfold ix up;simp[List.getD,jE,Ne.symm e]
theorem roomy {h:Host}(H:HOk h):Roomy h (zcX h):=by
 unfold zcX
 by_cases hf:zb3 h=[]
 .rw [show ieq (ln (zb3 h)) 0=true by rw[hf];rfl,cond_true]
  have hn:¬ (zbw h 0).1<0:=fun hc=>by
   have:(0:Int)∈zb3 h:=zHy.2 ⟨zB.2 (by unfold ln;rw[H.m12];omega),(zIG (by omega)).1 hc⟩
   rw[hf] at this;cases this
  obtain ⟨h1,h2,h3⟩:=z4V H (by omega) hn
  have k:=zYD H h1 h2 (by rw[h3];decide)
  have hs:=z3b H h1 h2;refine ⟨k,fun hc=>?_,fun i q hi hq=>?_,fun i=>zM4 (x:=zjm { ix h.Mons (zbw h 0).1 mZ with Out:=up (ix h.Mons (zbw h 0).1 mZ).Out (zbw h 0).2 (zcd h.Memory (ix (ix h.Mons (zbw h 0).1 mZ).Outer (zbw h 0).2 sZ).Page) } (zbw h 0).2 noSlot) h1 (zpe h1 rfl) rfl i⟩
  .have:(0:Int)∈zb3 (zdk h (zbw h 0).1 (zbw h 0).2):=by
    refine zHy.2 ⟨zB.2 (by unfold ln;rw[k.ok.m12];omega),?_⟩
    have hM:(zdk h (zbw h 0).1 (zbw h 0).2).Mons=up h.Mons (zbw h 0).1 (zjm { ix h.Mons (zbw h 0).1 mZ with Out:=up (ix h.Mons (zbw h 0).1 mZ).Out (zbw h 0).2 (zcd h.Memory (ix (ix h.Mons (zbw h 0).1 mZ).Outer (zbw h 0).2 sZ).Page) } (zbw h 0).2 noSlot):=zpe h1 rfl;have c1:=zyi h1 (zjm { ix h.Mons (zbw h 0).1 mZ with Out:=up (ix h.Mons (zbw h 0).1 mZ).Out (zbw h 0).2 (zcd h.Memory (ix (ix h.Mons (zbw h 0).1 mZ).Outer (zbw h 0).2 sZ).Page) } (zbw h 0).2 noSlot) 0;rw[<- hM] at c1;have c2:=zTi (x':=zjm { ix h.Mons (zbw h 0).1 mZ with Out:=up (ix h.Mons (zbw h 0).1 mZ).Out (zbw h 0).2 (zcd h.Memory (ix (ix h.Mons (zbw h 0).1 mZ).Outer (zbw h 0).2 sZ).Page) } (zbw h 0).2 noSlot) ((H.mon h1).hasO h2) (s:=noSlot) rfl 0;rw[if_pos h3,if_neg (by decide)] at c2
    have c3:=H.uq 0 (by omega)
    omega
   rw[hc] at this;cases this
  .by_cases e:i=(zbw h 0).1/\q=(zbw h 0).2
   .rw [e.1,e.2];exact .inr hs.2
   .exact .inl (hs.1.ne i q hi hq e)
 .have:ieq (ln (zb3 h)) 0=false:=zbO.2 (by unfold ln;have:=kL.2 hf;omega)
  rw[this,cond_false];exact ⟨Op.refl H,hf,fun i k hi hk=>.inl rfl,fun _=>rfl⟩
theorem zX5 {m:List (List Int)}{p:Int}{c:List Int}(hp:hasB p (ln m)=true)(hc:zca c=true):zhl m p c=up m p c:=by unfold zhl;rw[hp,hc];rfl
theorem zCG {m:List (List Int)}{p q:Int}{c:List Int}(hp:0<=p)(h:q≠p):zcd (up m p c) q=zcd m q:=by
 unfold zcd;rw[zc5];cases hq:hasB q (ln m) with
 | false=>rfl
 | true=>rw[cond_true,cond_true,zbm hp (zB.1 hq).1 (Ne.symm h)]
theorem zCF {m:List (List Int)}{p:Int}{c:List Int}(hp:hasB p (ln m)=true):zcd (up m p c) p=c:=by rw[zkF (by rw[zc5];exact hp),zX hp]
theorem z0g {h:Host}(H:HOk h){m p to:Int}(hm:hasB m (ln h.Mons)=true)(hp:hasB p 8=true)(hn:(ix (ix h.Mons m mZ).Outer p sZ).Page = -1)(ht:hasB to (ln h.Memory)=true)(hf:zeQ h.Mons to=0) :
 Op h (zeJ h m p to)/\But h (zeJ h m p to) m p/\ix (ix (zeJ h m p to).Mons m mZ).Outer p sZ=⟨to,3⟩/\∀i,(ix (zeJ h m p to).Mons i mZ).Dirty=(ix h.Mons i mZ).Dirty:=by
 have X:=H.mon hm;have ht':=zB.1 ht;unfold ln at ht';rw[H.m12]at ht';have hM:(zeJ h m p to).Mons=up h.Mons m (zjm { ix h.Mons m mZ with Out:=up (ix h.Mons m mZ).Out p [] } p ⟨to,3⟩):=zpe hm rfl;have k:Chg (ix h.Mons m mZ) (zjm { ix h.Mons m mZ with Out:=up (ix h.Mons m mZ).Out p [] } p ⟨to,3⟩) p ⟨to,3⟩ []:=zBT rfl rfl rfl rfl rfl rfl rfl rfl rfl;have hfit:=((zps (X.slot hp)).1 (X.fit p hp)).1 hn;have hmem:(zeJ h m p to).Memory=up h.Memory to (ix (ix h.Mons m mZ).Out p []):=by
  show (zcb (landing h m p to) m p ⟨to,3⟩).Memory=_
  rw[zwN];exact zX5 ht hfit
 have hs:SOk ⟨to,3⟩:=.inr ⟨ht'.1,by show to<=11;omega,by show (1:Int)<=3;omega,by show (3:Int)<=3;omega⟩
 have hb:=zuC (h:=landing h m p to) (m:=m) (p:=p) (s:=⟨to,3⟩) H.b1 H.b2;refine ⟨⟨zv7 H hm hp hM k hs ((zps hs).2 ⟨fun h=>absurd h (by show to≠-1;omega),fun _=>⟨show enough 3 1=true by decide,rfl⟩⟩) (by rw[hmem,zbB];exact H.m12) (fun c hc=>?_) hb.1 hb.2 (fun _=>.inr hf),
  zvc H hm hp hM k ?_ (fun i q hi hq hc hne=>?_),fun R=>?_⟩,zHe hm hp hM rfl,?_,fun i=>zM4 (x:=zjm { ix h.Mons m mZ with Out:=up (ix h.Mons m mZ).Out p [] } p ⟨to,3⟩) hm hM rfl i⟩
 .rw [hmem]at hc;rcases qZ hc with h1|h1
  .exact H.pgs c h1
  .rw [h1];exact hfit
 .rw [znJ hm hp (X.hasO hp),zbi.2 hn,cond_true,zkF (X.hasU hp)];rw[show ieq (⟨to,3⟩:Slot).Page (-1)=false from zbO.2 (by show to≠-1;omega),cond_false,hmem]
  exact zCF ht
 .rw [hmem];refine zCG ht'.1 (fun e=>?_);have:=zHf hi ((H.mon hi).hasO hq);rw[e] at this;omega
 .have R1:Rt (landing h m p to):=zMf (x:={ ix h.Mons m mZ with Out:=up (ix h.Mons m mZ).Out p [] }) R hm rfl rfl rfl rfl (fun _ _=>rfl) rfl rfl;have hm1:hasB m (ln (landing h m p to).Mons)=true:=by show hasB m (ln (up h.Mons m _))=true;rw[zc5];exact hm
  have e1:ix (landing h m p to).Mons m mZ={ ix h.Mons m mZ with Out:=up (ix h.Mons m mZ).Out p [] }:=zX hm _ _;exact zzi R1 hm1 (by rw[e1];exact X.hasO hp) (by rw[e1];exact X.gt) _
 .rw [hM,zX hm];exact zX (X.hasO hp) _ _
theorem zL3 {h:Host}(H:HOk h){m p:Int}(hm:hasB m (ln h.Mons)=true)(hp:hasB p 8=true)(hn:(ix (ix h.Mons m mZ).Outer p sZ).Page = -1) :
 Op h (fetched h m p)/\(∃to,0<=to/\to<=11/\ix (ix (fetched h m p).Mons m mZ).Outer p sZ=⟨to,3⟩)/\∀i,(ix (fetched h m p).Mons i mZ).Dirty=(ix h.Mons i mZ).Dirty:=by
 have R:=roomy H;have hm1:hasB m (ln (zcX h).Mons)=true:=by rw[R.op.like.has];exact hm
 have hn1:(ix (ix (zcX h).Mons m mZ).Outer p sZ).Page = -1:=by
  rcases R.sl m p hm hp with h1|h1<;>rw [h1]
  .exact hn
  .rfl
 obtain ⟨h1,h2⟩:=zZO R.free;obtain ⟨k1,k2,k3,k4⟩:=z0g R.op.ok hm1 hp hn1 h1 h2;have h1':=zB.1 h1;unfold ln at h1';rw[R.op.ok.m12]at h1';exact ⟨R.op.trans k1,⟨_,h1'.1,by omega,k3⟩,fun i=>(k4 i).trans (R.dirt i)⟩
theorem znQ {o:List Slot}{p:Int}(h:hasB p (ln o)=true):zbk o p=ix o p sZ:=by unfold zbk;rw[h];rfl
theorem zkG {h:Host}(H:HOk h){m p:Int}(hm:hasB m (ln h.Mons)=true)(hp:hasB p 8=true) :
 (cond (ieq (ix (ix h.Mons m mZ).Outer p sZ).Page (-1)) (ix (ix h.Mons m mZ).Out p []) (zcd h.Memory (ix (ix h.Mons m mZ).Outer p sZ).Page))=zb9 h m p:=by
 rw[znJ hm hp ((H.mon hm).hasO hp),zkF ((H.mon hm).hasU hp)]
structure Mark (x y:Mon):Prop where
 o:y.Outer=x.Outer
 u:y.Out=x.Out
 g:y.Guests=x.Guests
 t:y.Tables=x.Tables
 d:y.Dirty.length=x.Dirty.length
 a1:y.Outs=x.Outs
 a2:y.Pending=x.Pending
 a3:y.Traps=x.Traps
 a4:y.Own=x.Own
theorem zYC {h:Host}(H:HOk h){m:Int}(hm:hasB m (ln h.Mons)=true){y:Mon}(k:Mark (ix h.Mons m mZ) y):Op h { h with Mons:=up h.Mons m y }/\∀i q,ix (ix (up h.Mons m y) i mZ).Outer q sZ=ix (ix h.Mons i mZ).Outer q sZ:=by
 have X:=H.mon hm;have h0:hasB 0 8=true:=by decide
 have c:Chg (ix h.Mons m mZ) y 0 (ix (ix h.Mons m mZ).Outer 0 sZ) (ix (ix h.Mons m mZ).Out 0 []):=⟨by rw[zI3 (X.hasO h0),k.o],by rw[zI3 (X.hasU h0),k.u],k.g,by rw[k.t],k.d,k.a1,k.a2,k.a3,k.a4⟩
 refine ⟨⟨zv7 H hm h0 rfl c (X.slot h0) (X.fit 0 h0) H.m12 H.pgs H.b1 H.b2 (fun _=>.inl rfl),zvc H hm h0 rfl c (zkG H hm h0) (fun _ _ _ _ _ _=>rfl),
  fun R=>zMf R hm rfl rfl rfl (by rw[k.g]) (fun g _=>by rw[k.g]) k.t k.o⟩,fun i q=>?_⟩
 by_cases e:i.toNat=m.toNat
 .have:∀l:List Mon,ix l i mZ=ix l m mZ:=fun l=>by unfold ix;rw[e]
  rw[this,this,zX hm,k.o]
 .have:ix (up h.Mons m y) i mZ=ix h.Mons i mZ:=by
   unfold ix up;simp[List.getD,jE,Ne.symm e]
  rw[this]
theorem zL2 {h:Host}(H:HOk h){m:Int}(hm:hasB m (ln h.Mons)=true)(p:Int):Op h (zbt h m p)/\∀i q,ix (ix (zbt h m p).Mons i mZ).Outer q sZ=ix (ix h.Mons i mZ).Outer q sZ :=
 zYC H hm ⟨rfl,rfl,rfl,rfl,zbB _ _ _,rfl,rfl,rfl,rfl⟩
theorem z2H {h:Host}(H:HOk h){m:Int}(hm:hasB m (ln h.Mons)=true)(p:Int):Op h (zqb h m p)/\∀i q,ix (ix (zqb h m p).Mons i mZ).Outer q sZ=ix (ix h.Mons i mZ).Outer q sZ :=
 zYC H hm ⟨rfl,rfl,rfl,rfl,zbB _ _ _,rfl,rfl,rfl,rfl⟩
theorem rights {r:Int}(h0:1<=r)(h3:r<=3):r=1\/r=2\/r=3:=by omega
theorem MOk.enough1 {x:Mon}(X:MOk x){p:Int}(hp:hasB p 8=true)(hn:(ix x.Outer p sZ).Page≠-1):(ix x.Outer p sZ).Rights=1\/(ix x.Outer p sZ).Rights=3:=by
 have h1:=(((zps (X.slot hp)).1 (X.fit p hp)).2 hn).1;have h2:=(X.slot hp).pos hn;rcases rights h2.2.2.1 h2.2.2.2 with e|e|e
 .exact .inl e
 .rw [e]at h1;exact absurd h1 (by decide)
 .exact .inr e
theorem zQF {h:Host}(H:HOk h){m p:Int}(hm:hasB m (ln h.Mons)=true)(hp:hasB p 8=true)(hn:(ix (ix h.Mons m mZ).Outer p sZ).Page≠-1){r:Int}(hr:r=1\/r=3) :
 Op h (zcb h m p ⟨(ix (ix h.Mons m mZ).Outer p sZ).Page,r⟩)/\But h (zcb h m p ⟨(ix (ix h.Mons m mZ).Outer p sZ).Page,r⟩) m p /\
  ix (ix (zcb h m p ⟨(ix (ix h.Mons m mZ).Outer p sZ).Page,r⟩).Mons m mZ).Outer p sZ=⟨(ix (ix h.Mons m mZ).Outer p sZ).Page,r⟩/\∀i,(ix (zcb h m p ⟨(ix (ix h.Mons m mZ).Outer p sZ).Page,r⟩).Mons i mZ).Dirty=(ix h.Mons i mZ).Dirty:=by
 have X:=H.mon hm;have hpos:=(X.slot hp).pos hn;have hM:=zsk h m p ⟨(ix (ix h.Mons m mZ).Outer p sZ).Page,r⟩;have k:Chg (ix h.Mons m mZ) (zjm (ix h.Mons m mZ) p ⟨(ix (ix h.Mons m mZ).Outer p sZ).Page,r⟩) p ⟨(ix (ix h.Mons m mZ).Outer p sZ).Page,r⟩ (ix (ix h.Mons m mZ).Out p []) :=
  zBT rfl (zI3 (X.hasU hp) _).symm rfl rfl rfl rfl rfl rfl rfl
 have hs:SOk ⟨(ix (ix h.Mons m mZ).Outer p sZ).Page,r⟩:=.inr ⟨hpos.1,hpos.2.1,by show 1<=r;omega,by show r<=3;omega⟩
 have hfit:=((zps (X.slot hp)).1 (X.fit p hp)).2 hn;have hb:=zuC (h:=h) (m:=m) (p:=p) (s:=⟨(ix (ix h.Mons m mZ).Outer p sZ).Page,r⟩) H.b1 H.b2;have hmem:=zwN h m p ⟨(ix (ix h.Mons m mZ).Outer p sZ).Page,r⟩;refine ⟨⟨zv7 H hm hp hM k hs ((zps hs).2 ⟨fun h=>absurd h hn,fun _=>⟨?_,hfit.2⟩⟩) (by rw[hmem];exact H.m12) (by rw[hmem];exact H.pgs) hb.1 hb.2 (fun _=>.inl rfl),
  zvc H hm hp hM k (by rw[hmem];exact zkG H hm hp) (fun i q _ _ _ _=>by rw[hmem]),fun R=>zzi R hm (X.hasO hp) X.gt _⟩,zHe hm hp hM rfl,?_,fun i=>zM4 hm hM rfl i⟩
 .show enough r 1=true
  rcases hr with rfl|rfl<;>decide
 .rw [hM,zX hm];exact zX (X.hasO hp) _ _
structure Mended (h r:Host) (m p n:Int):Prop where
 op:Op h r
 inn:(ix (ix r.Mons m mZ).Outer p sZ).Page≠-1
 ri:ieq (wand .i64 n 2) 0=false->(ix (ix r.Mons m mZ).Outer p sZ).Rights=3
 dt:ieq (wand .i64 n 2) 0=false->ix (ix r.Mons m mZ).Dirty p false=true
 d0:ieq (wand .i64 n 2) 0=true->(ix r.Mons m mZ).Dirty=(ix h.Mons m mZ).Dirty
 dk:∀k,hasB k 8=true->k≠p->ix (ix r.Mons m mZ).Dirty k false=ix (ix h.Mons m mZ).Dirty k false
 dm:∀i,hasB i (ln h.Mons)=true->i≠m->(ix r.Mons i mZ).Dirty=(ix h.Mons i mZ).Dirty
theorem zVr {h:Host}(H:HOk h){m p:Int}(n:Int)(hm:hasB m (ln h.Mons)=true)(hp:hasB p 8=true)(hn:(ix (ix h.Mons m mZ).Outer p sZ).Page≠-1):Mended h (zjb h m p n) m p n:=by
 unfold zjb;cases hw:ieq (wand .i64 n 2) 0 with
 | true=>exact ⟨Op.refl H,hn,fun e=>(Bool.noConfusion (hw.symm.trans e)),fun e=>(Bool.noConfusion (hw.symm.trans e)),fun _=>rfl,fun _ _ _=>rfl,fun _ _ _=>rfl⟩
 | false =>
  rw[cond_false];obtain ⟨k1,k2⟩:=zL2 H hm p;have hm1:hasB m (ln (zbt h m p).Mons)=true:=by rw[k1.like.has];exact hm
  have hn1:(ix (ix (zbt h m p).Mons m mZ).Outer p sZ).Page≠-1:=by rw[k2];exact hn
  have hd:(ix (zbt h m p).Mons m mZ).Dirty=up (ix h.Mons m mZ).Dirty p true:=by
   show (ix (up h.Mons m _) m mZ).Dirty=_
   rw[zX hm]
  have hd2:∀i,hasB i (ln h.Mons)=true->i≠m->(ix (zbt h m p).Mons i mZ).Dirty=(ix h.Mons i mZ).Dirty:=fun i hi hc=>by
   show (ix (up h.Mons m _) i mZ).Dirty=_
   rw[zbm (zB.1 hm).1 (zB.1 hi).1 (Ne.symm hc)]
  have he:=(k1.ok.mon hm1).enough1 hp hn1;have hD:∀r:Host,(∀i,(ix r.Mons i mZ).Dirty=(ix (zbt h m p).Mons i mZ).Dirty)->Op (zbt h m p) r->(ix (ix r.Mons m mZ).Outer p sZ).Page≠-1->(ix (ix r.Mons m mZ).Outer p sZ).Rights=3->Mended h r m p n:=by
   intro r h1 h2 h3 h4;refine ⟨k1.trans h2,h3,fun _=>h4,fun _=>?_,fun e=>(Bool.noConfusion (hw.symm.trans e)),fun k hk hc=>?_,fun i hi hc=>by rw[h1,hd2 i hi hc]⟩
   .rw [h1,hd,zX ((H.mon hm).hasD hp)]
   .rw [h1,hd,zbm (zB.1 hp).1 (zB.1 hk).1 (Ne.symm hc)]
  unfold opened;rcases he with e|e
  .rw [e,show ieq (wand .i64 1 2) 0=true by decide,cond_true]
   obtain ⟨o1,o2,o3,o4⟩:=zQF k1.ok hm1 hp hn1 (r:=3) (.inr rfl);exact hD _ o4 o1 (by rw[o3];exact hn1) (by rw[o3])
  .rw [e,show ieq (wand .i64 3 2) 0=false by decide,cond_false]
   exact hD _ (fun _=>rfl) (Op.refl k1.ok) hn1 e
theorem zQE {h:Host}(H:HOk h){m p:Int}(n:Int)(hm:hasB m (ln h.Mons)=true)(hp:hasB p 8=true):Mended h (mended h m p n) m p n:=by
 unfold mended
 by_cases e:(ix (ix h.Mons m mZ).Outer p sZ).Page = -1
 .rw [zbi.2 e,cond_true];obtain ⟨k1,⟨to,t1,t2,t3⟩,k3⟩:=zL3 H hm hp e;have K:=zVr k1.ok n (by rw[k1.like.has];exact hm) hp (by rw[t3];show to≠-1;omega)
  exact ⟨k1.trans K.op,K.inn,K.ri,K.dt,fun e=>by rw[K.d0 e,k3],fun k hk hc=>by rw[K.dk k hk hc,k3],fun i hi hc=>by rw[K.dm i (by rw[k1.like.has];exact hi) hc,k3]⟩
 .rw [zbO.2 e,cond_false];exact zVr H n hm hp e
theorem zoz {h:Host}{m p:Int}:zci h m p=true↔HOk h/\hasB m (ln h.Mons)=true/\hasB p 8=true:=by
 unfold zci;rw[zb0,zb0,zim]
theorem z0h {h:Host}(H:HOk h)(m p:Int):Op h (zpC h m p):=by
 unfold zpC;cases hh:zci h m p with
 | false=>exact Op.refl H
 | true =>
  obtain ⟨_,hm,hp⟩:=zoz.1 hh;rw[cond_true];unfold zj9
  by_cases e:(ix (ix h.Mons m mZ).Outer p sZ).Page = -1
  .rw [zbi.2 e];exact Op.refl H
  .rw [zbO.2 e];exact zYD H hm hp e
theorem z2G {h:Host}(H:HOk h)(m p:Int):Op h (ztZ h m p):=by
 unfold ztZ;cases hh:zci h m p with
 | false=>exact Op.refl H
 | true =>
  obtain ⟨_,hm,hp⟩:=zoz.1 hh;rw[cond_true];unfold zj9
  by_cases e:(ix (ix h.Mons m mZ).Outer p sZ).Page = -1
  .rw [zbi.2 e];exact (zL3 H hm hp e).1
  .rw [zbO.2 e];exact Op.refl H
theorem z2F {h:Host}(H:HOk h)(m p:Int):Op h (ztE h m p):=by
 unfold ztE;cases hh:zci h m p with
 | false=>exact Op.refl H
 | true =>
  obtain ⟨_,hm,hp⟩:=zoz.1 hh;rw[cond_true];obtain ⟨k1,k2⟩:=z2H H hm p;cases e:zcI (ix (ix h.Mons m zf).Outer p zN) noSlot with
  | true=>exact k1
  | false =>
   rw[cond_false];have hn:(ix (ix h.Mons m mZ).Outer p sZ).Page≠-1:=fun h1=>zrA.1 e (((H.mon hm).slot hp).none h1);have:=zQF k1.ok (m:=m) (p:=p) (by rw[k1.like.has];exact hm) hp (by rw[k2];exact hn) (r:=1) (.inl rfl)
   rw[k2 m p] at this;exact k1.trans this.1
structure KeepP (x y:Mon):Prop where
 o:y.Outer=x.Outer
 u:y.Out=x.Out
theorem zL9 {h r:Host}{m:Int}(hm:hasB m (ln h.Mons)=true){y:Mon}(hM:r.Mons=up h.Mons m y)(hmem:r.Memory=h.Memory)(k:KeepP (ix h.Mons m mZ) y)(i q:Int):zb9 r i q=zb9 h i q:=by
 unfold zb9;rw[hM,zc5,hmem];cases hi:hasB i (ln h.Mons) with
 | false=>rfl
 | true =>
  by_cases e:m=i
  .subst e;rw[zX hm,k.o,k.u]
  .rw [zbm (zB.1 hm).1 (zB.1 hi).1 e]
theorem zuy {h r:Host}{m:Int}(hm:hasB m (ln h.Mons)=true){y:Mon}(hM:r.Mons=up h.Mons m y)(hmem:r.Memory=h.Memory)(k:KeepP (ix h.Mons m mZ) y)(i:Int) :
 zy r i=bif ieq i m then ⟨(zy h i).Memory,y.Guests,y.Outs,y.Pending⟩ else zy h i:=by
 have hp:zch r i 8 0=zch h i 8 0:=zqy 8 0 (fun j _ _=>zL9 hm hM hmem k i j);unfold zy;rw[hp,hM,zc5]
 by_cases e:i=m
 .subst e;rw[hm,zbi.2 rfl,zX hm];rfl
 .rw [zbO.2 e,cond_false];cases hi:hasB i (ln h.Mons) with
  | false=>rfl
  | true=>rw[zbm (zB.1 hm).1 (zB.1 hi).1 (Ne.symm e)]
theorem zkB {x y:Mon}(X:MOk x)(k:KeepP x y)(g:y.Guests.length=x.Guests.length)(t:y.Tables.length=x.Tables.length)(d:y.Dirty.length=x.Dirty.length)(o:y.Outs.length<=40)(p:zcR y.Pending=true)(tr:win y.Traps 0 3=true)(ow:win y.Own 0 1000000000=true)(gs:∀g∈y.Guests,zcV g=true):MOk y :=
 ⟨by rw[g];exact X.g1,by rw[g];exact X.g2,by rw[t,g];exact X.gt,by rw[k.o];exact X.o8,by rw[k.o];exact X.sl,by rw[k.u];exact X.u8,by rw[d];exact X.d8,o,p,tr,ow,gs,by rw[k.o,k.u];exact X.fit⟩
theorem zTQ {h:Host}(H:HOk h){m:Int}(hm:hasB m (ln h.Mons)=true){y:Mon}(k:KeepP (ix h.Mons m mZ) y)(hy:MOk y):HOk { h with Mons:=up h.Mons m y } :=
 H.up hm hy rfl H.m12 H.pgs H.b1 H.b2 fun q _=>.inl (by unfold cPg;rw[k.o];exact qV _)
theorem zv3 {h:Host}(S:Safe h){m:Int}(hm:hasB m (ln h.Mons)=true){y:Mon}(k:KeepP (ix h.Mons m mZ) y)(hy:MOk y)(hg:y.Guests.length=(ix h.Mons m mZ).Guests.length)(hv:∀g,hasB g (ln (ix h.Mons m mZ).Guests)=true->(ix y.Guests g gZ).Live=(ix (ix h.Mons m mZ).Guests g gZ).Live)(ht:y.Tables=(ix h.Mons m mZ).Tables):Safe { h with Mons:=up h.Mons m y } :=
 ⟨zTQ S.ok hm k hy,zMf S.rt hm rfl rfl rfl hg hv ht k.o⟩
theorem zsf {h:Host}(S:Safe h)(m t:Int):Safe (zbn h m t)/\∀i,zy (zbn h m t) i=zy h i:=by
 unfold zbn;rw[zim.2 S.ok,cond_true];cases hm:hasB m (ln h.Mons) with
 | false=>exact ⟨S,fun _=>rfl⟩
 | true =>
  cases ht:win t 0 3 with
  | false=>exact ⟨S,fun _=>rfl⟩
  | true =>
   have X:=S.ok.mon hm;have k:KeepP (ix h.Mons m mZ) { ix h.Mons m mZ with Traps:=t }:=⟨rfl,rfl⟩;refine ⟨zv3 S hm k (zkB X k rfl rfl rfl X.outs X.pend ht X.own X.gs) rfl (fun _ _=>rfl) rfl,fun i=>?_⟩;rw[cond_true,cond_true];refine (zuy (h:=h) (r:={ h with Mons:=up h.Mons m { ix h.Mons m mZ with Traps:=t } }) hm rfl rfl k i).trans ?_
   by_cases e:i=m
   .subst e;rw[zbi.2 rfl,cond_true];unfold zy;rw[hm];rfl
   .rw [zbO.2 e];rfl
theorem zGm:∀(n i:Nat) (k:Kept),(zil n i k).Known.length=k.Known.length/\(zil n i k).Slots.length=k.Slots.length
 | 0,i,k=>⟨rfl,rfl⟩
 | n+1,i,k=>by
  have h1:=zGm n (i+1) (zbK k (i:Int));have h2:=zkm k (i:Int);exact ⟨h1.1.trans h2.1,h1.2.trans h2.2⟩
theorem zKs:∀(n i:Nat) (k:Kept),k.Known.length=k.Slots.length->∀j,hasB j (ln k.Known)=true ->
 ((i:Int)<=j/\j<((i+n:Nat):Int)->ix (zil n i k).Known j false=false/\ix (zil n i k).Slots j sZ=noSlot) /\
 (¬ ((i:Int)<=j/\j<((i+n:Nat):Int))->ix (zil n i k).Known j false=ix k.Known j false/\ix (zil n i k).Slots j sZ=ix k.Slots j sZ)
 | 0,i,k,_,j,_=>⟨fun h=>by omega,fun _=>⟨rfl,rfl⟩⟩
 | n+1,i,k,hl,j,hj=>by
  have h2:=zkm k (i:Int);have h3:=zwi (q:=(i:Int)) hl hj;have ih:=zKs n (i+1) (zbK k (i:Int)) (by rw[h2.1,h2.2,hl]) j (by unfold ln at hj ⊢;rwa [h2.1])
  rw[zil]
  by_cases hc:((i+1:Nat):Int)<=j/\j<((i+1+n:Nat):Int)
  .exact ⟨fun _=>ih.1 hc,fun h=>absurd (by omega) h⟩
  .rw [(ih.2 hc).1,(ih.2 hc).2,h3.1,h3.2]
   by_cases e:(i:Int)=j
   .rw [zbi.2 e];exact ⟨fun _=>⟨rfl,rfl⟩,fun h=>absurd (by omega) h⟩
   .rw [zbO.2 e];exact ⟨fun h=>absurd (by omega) hc,fun _=>⟨rfl,rfl⟩⟩
theorem zRy {k:Kept}{inner outer:List Slot}(h:KOk k inner outer):KOk (ziZ k) inner outer:=by
 have hl:=zGm k.Known.length 0 k;refine ⟨hl.1.trans h.l1,hl.2.trans h.l2,fun i hi=>?_⟩;have hi':hasB i (ln k.Known)=true:=by unfold ln at hi ⊢;rwa [h.l1]
 have hi2:=zB.1 hi';unfold ln at hi2;have:=(zKs k.Known.length 0 k (by rw[h.l1,h.l2]) i hi').1 ⟨by omega,by omega⟩
 unfold ziZ;rw[this.1,this.2];rfl
theorem zKc:∀(n j:Nat) (l:List Kept),(zuV n j l).length=l.length
 | 0,_,_=>rfl
 | n+1,j,l=>by rw[zuV,zKc n,zbB]
theorem zTm:∀(n j:Nat) (l:List Kept),j+n<=l.length->∀g,0<=g->ix (zuV n j l) g kZ=if (j:Int)<=g/\g<((j+n:Nat):Int) then ziZ (ix l g kZ) else ix l g kZ
 | 0,j,l,_,g,hg=>by rw[if_neg (by omega)];rfl
 | n+1,j,l,hl,g,hg=>by
  rw[zuV,zTm n (j+1) _ (by rw[zbB];omega) g hg]
  by_cases e:(j:Int)=g
  .subst e;rw[if_neg (by omega),if_pos (by omega),zX (zB.2 ⟨by omega,by unfold ln;omega⟩)]
  .rw [zbm (by omega) hg e]
   by_cases h:((j+1:Nat):Int)<=g/\g<((j+1+n:Nat):Int)
   .rw [if_pos h,if_pos (by omega)]
   .rw [if_neg h,if_neg (by omega)]
theorem zKb:∀(n i:Nat) (l:List Mon),(zn4 n i l).length=l.length
 | 0,_,_=>rfl
 | n+1,i,l=>by rw[zn4,zKb n,zbB]
theorem zQb:∀(n i:Nat) (l:List Mon),i+n<=l.length->∀m,0<=m->ix (zn4 n i l) m mZ=if (i:Int)<=m/\m<((i+n:Nat):Int) then zuW (ix l m mZ) (ix l m mZ).Tables.length 0 else ix l m mZ
 | 0,i,l,_,m,hm=>by rw[if_neg (by omega)];rfl
 | n+1,i,l,hl,m,hm=>by
  rw[zn4,zQb n (i+1) _ (by rw[zbB];omega) m hm]
  by_cases e:(i:Int)=m
  .subst e;rw[if_neg (by omega),if_pos (by omega),zX (zB.2 ⟨by omega,by unfold ln;omega⟩)]
  .rw [zbm (by omega) hm e]
   by_cases h:((i+1:Nat):Int)<=m/\m<((i+1+n:Nat):Int)
   .rw [if_pos h,if_pos (by omega)]
   .rw [if_neg h,if_neg (by omega)]
theorem z3J (h:Host){m:Int}(hm:hasB m (ln h.Mons)=true):ix (cold h).Mons m mZ=zuW (ix h.Mons m mZ) (ix h.Mons m mZ).Tables.length 0:=by
 have:=zB.1 hm;unfold ln at this
 show ix (zn4 h.Mons.length 0 h.Mons) m mZ=_
 rw[zQb _ _ _ (by omega) m this.1,if_pos (by omega)]
theorem zxa (h:Host):(cold h).Mons.length=h.Mons.length:=zKb _ _ _
theorem zHh (h:Host)(m:Int):hasB m (ln (cold h).Mons)=hasB m (ln h.Mons):=by unfold ln;rw[zxa]
theorem z7y {l l':List Mon}(hl:l'.length=l.length)(h:∀m,hasB m (ln l)=true->(ix l' m mZ).Outer=(ix l m mZ).Outer)(q:Int):zeQ l' q=zeQ l q:=by
 have:l'.map (fun x=>cPg x q)=l.map (fun x=>cPg x q):=by
  refine List.ext_getElem (by simp[hl]) fun k h1 h2=>?_
  simp only[uN]at h1 h2;have:=h (k:Int) (zB.2 ⟨by omega,by unfold ln;omega⟩)
  rw[zmm h1,zmm h2] at this;simp[cPg,this]
 unfold zeQ;rw[this]
theorem z8C {h:Host}(H:HOk h):Op h (cold h):=by
 have hx:∀m,hasB m (ln h.Mons)=true->ix (cold h).Mons m mZ=zuW (ix h.Mons m mZ) (ix h.Mons m mZ).Tables.length 0:=fun m hm=>z3J h hm;have hpg:∀i q,zb9 (cold h) i q=zb9 h i q:=by
  intro i q;unfold zb9;rw[zHh];cases hi:hasB i (ln h.Mons) with
  | false=>rfl
  | true=>rw[hx i hi];rfl
 refine ⟨⟨H.m12,H.pgs,by rw[zxa];exact H.n1,by rw[zxa];exact H.n3,rfl,rfl,fun y hy=>?_,fun q hq=>?_⟩,⟨zxa h,fun i hi=>by rw[hx i hi];rfl,fun i hi=>by rw[hx i hi];rfl,fun i hi=>by rw[hx i hi];rfl,fun i hi=>by rw[hx i hi];rfl,fun i hi=>by rw[hx i hi];rfl,fun i k _ _=>hpg i k⟩,fun R=>⟨fun m hm=>?_,fun e he=>(by cases he),fun e he=>(by cases he)⟩⟩
 .obtain ⟨m,hm,rfl⟩:=zVe hy mZ;rw[zHh]at hm;rw[hx m hm];have X:=H.mon hm;have k:KeepP (ix h.Mons m mZ) (zuW (ix h.Mons m mZ) (ix h.Mons m mZ).Tables.length 0):=⟨rfl,rfl⟩;exact zkB X k rfl (zKc _ _ _) rfl X.outs X.pend X.tr X.own X.gs
 .rw [z7y (l:=h.Mons) (zxa h) (fun m hm=>by rw[hx m hm];rfl)]
  exact H.uq q hq
 .rw [zHh]at hm;rw[hx m hm];have X:=H.mon hm;intro g hg
  show KOk (ix (zuV (ix h.Mons m mZ).Tables.length 0 (ix h.Mons m mZ).Tables) g kZ) (ix (ix h.Mons m mZ).Guests g gZ).Live (ix h.Mons m mZ).Outer
  have hg':hasB g (ln (ix h.Mons m mZ).Guests)=true:=hg;have hg2:=zB.1 hg';unfold ln at hg2;have hgt:=X.gt;rw[zTm _ _ _ (by omega) g hg2.1,if_pos (by omega)]
  exact zRy (R.t m hm g hg')
theorem zV6 {m g:Int}(hm:win m 0 2=true)(hg:win g 0 1=true):zdm (zdF m g)=m/\zd4 (zdF m g)=g/\1<=zdF m g/\zdF m g<=6:=by
 have h1:=zco.1 hm;have h2:=zco.1 hg;have e1:m=0\/m=1\/m=2:=by omega
 have e2:g=0\/g=1:=by omega
 rcases e1 with rfl|rfl|rfl<;>rcases e2 with rfl|rfl<;>decide
theorem HOk.tag {h:Host}(H:HOk h){m g:Int}(hm:hasB m (ln h.Mons)=true)(hg:hasB g (ln (ix h.Mons m mZ).Guests)=true):win m 0 2=true/\win g 0 1=true:=by
 have h1:=zB.1 hm;have h2:=zB.1 hg;have h3:=H.n3;have h4:=(H.mon hm).g2;unfold ln at h1 h2;exact ⟨zco.2 (by omega),zco.2 (by omega)⟩
theorem zgc {r:Int}:zcx r=true↔r=0\/r=1\/r=2\/r=3:=by
 unfold zcx ige ile;rw[qD,qU,qU];omega
theorem zra {a b:Int}(h:enough a b=true):zcx a=true/\zcx b=true:=by
 unfold enough at h;rw[zb0,zb0]at h;exact ⟨h.1,h.2.1⟩
theorem zTE {a b c:Int}(h1:enough a b=true)(h2:enough b c=true):enough a c=true:=by
 have ha:=zgc.1 (zra h1).1;have hb:=zgc.1 (zra h1).2;have hc:=zgc.1 (zra h2).2;rcases ha with rfl|rfl|rfl|rfl<;>rcases hb with rfl|rfl|rfl|rfl<;>rcases hc with rfl|rfl|rfl|rfl<;>revert h1 h2<;>decide
theorem zWK {a b n:Int}(hn:n=1\/n=2)(h1:enough a n=true)(h2:enough b n=true):zda a b≠0/\enough (zda a b) n=true:=by
 have ha:=zgc.1 (zra h1).1;have hb:=zgc.1 (zra h2).1;rcases hn with rfl|rfl<;>rcases ha with rfl|rfl|rfl|rfl<;>rcases hb with rfl|rfl|rfl|rfl<;>revert h1 h2<;>decide
theorem both_ok (a b:Int):zcx (zda a b)=true:=by
 unfold zda;cases ha:zcx a with
 | false=>rfl
 | true =>
  cases hb:zcx b with
  | false=>rfl
  | true =>
   have ha:=zgc.1 ha;have hb:=zgc.1 hb;rcases ha with rfl|rfl|rfl|rfl<;>rcases hb with rfl|rfl|rfl|rfl<;>decide
theorem zWP {a:Int}(h:zcx a=true):enough a a=true:=by
 rcases zgc.1 h with rfl|rfl|rfl|rfl<;>decide
theorem zqj {n:Int}(hn:n=1\/n=2):enough 0 n=false:=by rcases hn with rfl|rfl<;>decide
theorem zZl {s:Slot}{o:List Slot}(h1:s.Page≠-1)(h2:(zbk o s.Page).Page≠-1):zbh s o=bif ieq (zda s.Rights (zbk o s.Page).Rights) 0 then noSlot else ⟨(zbk o s.Page).Page,zda s.Rights (zbk o s.Page).Rights⟩:=by
 unfold zbh;rw[zbO.2 h1,zbO.2 h2];rfl
theorem zpp {s:Slot}{o:List Slot}{n:Int}(hn:n=1\/n=2)(h:enough (zbh s o).Rights n=true):s.Page≠-1/\(zbk o s.Page).Page≠-1/\(zbh s o).Page=(zbk o s.Page).Page:=by
 unfold zbh at h ⊢
 by_cases e1:s.Page = -1
 .rw [zbi.2 e1,cond_true]at h;rw[show noSlot.Rights=0 from rfl,zqj hn]at h;cases h
 .rw [zbO.2 e1,cond_false]at h ⊢
  by_cases e2:(zbk o s.Page).Page = -1
  .rw [zbi.2 e2,cond_true]at h;rw[show noSlot.Rights=0 from rfl,zqj hn]at h;cases h
  .rw [zbO.2 e2,cond_false]at h ⊢
   by_cases e3:zda s.Rights (zbk o s.Page).Rights=0
   .rw [zbi.2 e3,cond_true]at h;rw[show noSlot.Rights=0 from rfl,zqj hn]at h;cases h
   .rw [zbO.2 e3];exact ⟨e1,e2,rfl⟩
theorem zTn {s:Slot}{o:List Slot}{n:Int}(hn:n=1\/n=2)(h1:s.Page≠-1)(h2:(zbk o s.Page).Page≠-1)(h3:enough s.Rights n=true)(h4:enough (zbk o s.Page).Rights n=true) :
 (zbh s o).Page=(zbk o s.Page).Page/\enough (zbh s o).Rights n=true:=by
 have:=zWK hn h3 h4;rw[zZl h1 h2,zbO.2 this.1];exact ⟨rfl,this.2⟩
theorem zZm (s:Slot)(o:List Slot):zcx (zbh s o).Rights=true:=by
 unfold zbh;cases ieq s.Page (-1)<;>cases ieq (zbk o s.Page).Page (-1)<;>cases ieq (zda s.Rights (zbk o s.Page).Rights) 0<;>first|rfl|exact both_ok _ _
theorem zyA {b:List Entry}{t p:Int}{e:Entry}:e∈zcr b t p↔e∈b/\¬ (e.Tag=t/\e.Page=p):=by
 unfold zcr;rw[List.mem_filter];refine and_congr Iff.rfl ?_;unfold zrp
 by_cases h:e.Tag=t
 .rw [show ine e.Tag t=false by simp[ine,h],cond_false,ztd];simp[h]
 .rw [ztd.2 h];simp[h]
theorem z5e {b:List Entry}{e x:Entry}(h:x∈zpJ b e):x∈b\/x=e:=by
 unfold zpJ ap at h;have:x∈zcr b e.Tag e.Page++[e]:=by
  cases hc:igt (ln (zcr b e.Tag e.Page++[e])) 6 with
  | true=>rw[hc,cond_true]at h;exact kJ h
  | false=>rw[hc,cond_false]at h;exact h
 rcases jK.1 this with h|h
 .exact .inl (zyA.1 h).1
 .exact .inr (qF.1 h)
theorem zbau {n:Nat}(h:n<=100):wsub .i64 (n:Int) 6=(n:Int)-6:=by
 unfold wsub IntKind.wrap;simp[IntKind.signed,IntKind.bits];omega
theorem zYg {b:List Entry}(h:zeO b=true)(e:Entry):zeO (zpJ b e)=true:=by
 have h1:=zEb.1 h;have hl:(zcr b e.Tag e.Page).length<=6:=jD (uC _ _) h1.2;have hp:(zcr b e.Tag e.Page++[e]).Pairwise (fun y x=>sameKey x y=false):=by
  rw[List.pairwise_append];refine ⟨h1.1.sublist List.filter_sublist,List.pairwise_singleton _ _,fun x hx y hy=>?_⟩;rw[qF.1 hy];have:=(zyA.1 hx).2;unfold sameKey
  by_cases e1:e.Tag=x.Tag
  .rw [zbi.2 e1,cond_true,zbO];exact fun e2=>this ⟨e1.symm,e2.symm⟩
  .rw [zbO.2 e1];rfl
 unfold zpJ ap;cases hc:igt (ln (zcr b e.Tag e.Page++[e])) 6 with
 | true =>
  rw[cond_true,zEb];refine ⟨hp.sublist (List.drop_sublist _ _),?_⟩;unfold dp ln;rw[kP,uY,zbau (by omega),List.length_drop,kP,uY]
  omega
 | false =>
  rw[cond_false,zEb];refine ⟨hp,?_⟩;have:=jT hc;unfold ln at this;omega
theorem z2q {h r:Host}{m:Int}(hm:hasB m (ln h.Mons)=true){y:Mon}(hM:r.Mons=up h.Mons m y)(hmem:r.Memory=h.Memory)(k:KeepP (ix h.Mons m mZ) y)(g:y.Guests=(ix h.Mons m mZ).Guests)(o:y.Outs=(ix h.Mons m mZ).Outs)(p:y.Pending=(ix h.Mons m mZ).Pending)(t:y.Traps=(ix h.Mons m mZ).Traps)(w:y.Own=(ix h.Mons m mZ).Own):Like h r:=by
 have e:∀{α:Type} (F:Mon->α),F y=F (ix h.Mons m mZ)->∀i,hasB i (ln h.Mons)=true->F (ix r.Mons i mZ)=F (ix h.Mons i mZ):=by
  intro α F hF i hi;rw[hM]
  by_cases e:m=i
  .subst e;rw[zX hm];exact hF
  .rw [zbm (zB.1 hm).1 (zB.1 hi).1 e]
 exact ⟨by rw[hM,zbB],e Mon.Guests g,e Mon.Outs o,e Mon.Pending p,e Mon.Traps t,e Mon.Own w,fun i q _ _=>zL9 hm hM hmem k i q⟩
theorem z5g {h:Host}(R:Rt h){m g:Int}(hm:hasB m (ln h.Mons)=true)(ht:hasB g (ln (ix h.Mons m mZ).Tables)=true){k:Kept}(hk:KOk k (ix (ix h.Mons m mZ).Guests g gZ).Live (ix h.Mons m mZ).Outer) :
 Rt { h with Mons:=up h.Mons m { ix h.Mons m mZ with Tables:=up (ix h.Mons m mZ).Tables g k } }:=by
 have key:∀e,zcA h e=true->zcA { h with Mons:=up h.Mons m { ix h.Mons m mZ with Tables:=up (ix h.Mons m mZ).Tables g k } } e=true:=by
  intro e he;obtain ⟨h1,h2,h3⟩:=zfm.1 he;rw[zfm]
  show hasB (zdm e.Tag) (ln (up h.Mons m _))=true/\hasB (zd4 e.Tag) (ln (ix (up h.Mons m _) (zdm e.Tag) mZ).Guests)=true/\below' _ (zbh (zbk (ix (ix (up h.Mons m _) (zdm e.Tag) mZ).Guests (zd4 e.Tag) gZ).Live e.Page) (ix (up h.Mons m _) (zdm e.Tag) mZ).Outer)=true
  rw[zc5];refine ⟨h1,?_⟩
  by_cases hc:m=zdm e.Tag
  .rw [<- hc]at h1 h2 h3 ⊢;rw[zX hm];exact ⟨h2,h3⟩
  .rw [zbm (zB.1 hm).1 (zB.1 h1).1 hc];exact ⟨h2,h3⟩
 refine ⟨fun i hi=>?_,fun e he=>key e (R.e1 e he),fun e he=>key e (R.e2 e he)⟩
 show TOk (ix (up h.Mons m _) i mZ)
 have hi':hasB i (ln h.Mons)=true:=by
  have:hasB i (ln (up h.Mons m { ix h.Mons m mZ with Tables:=up (ix h.Mons m mZ).Tables g k }))=true:=hi
  rwa [zc5] at this
 by_cases hc:m=i
 .subst hc;rw[zX hm];intro j hj
  by_cases e:g=j
  .subst e
   show KOk (ix (up _ g k) g kZ) _ _
   rw[zX ht];exact hk
  .show KOk (ix (up _ g k) j kZ) _ _
   rw[zbm (zB.1 ht).1 (zB.1 hj).1 e];exact R.t m hm j hj
 .rw [zbm (zB.1 hm).1 (zB.1 hi').1 hc];exact R.t i hi'
theorem z4R {h:Host}(H:HOk h){m g:Int}(hm:hasB m (ln h.Mons)=true)(ht:hasB g (ln (ix h.Mons m mZ).Tables)=true){k:Kept}(hk:Rt h->KOk k (ix (ix h.Mons m mZ).Guests g gZ).Live (ix h.Mons m mZ).Outer) :
 Op h { h with Mons:=up h.Mons m { ix h.Mons m mZ with Tables:=up (ix h.Mons m mZ).Tables g k } }:=by
 have X:=H.mon hm;have kp:KeepP (ix h.Mons m mZ) { ix h.Mons m mZ with Tables:=up (ix h.Mons m mZ).Tables g k }:=⟨rfl,rfl⟩;exact ⟨zTQ H hm kp (zkB X kp rfl (zbB _ _ _) rfl X.outs X.pend X.tr X.own X.gs),z2q (y:={ ix h.Mons m mZ with Tables:=up (ix h.Mons m mZ).Tables g k }) hm rfl rfl kp rfl rfl rfl rfl rfl,fun R=>z5g R hm ht (hk R)⟩
theorem zLu {k:Kept}{inner outer:List Slot}(h:KOk k inner outer)(p:Int):KOk (filled k inner outer p) inner outer:=by
 unfold filled zc8;cases h1:hasB p (ln k.Known) with
 | false=>exact h
 | true =>
  have hs:hasB p (ln k.Slots)=true:=by unfold ln at h1 ⊢;rw[h.l2,<- h.l1];exact h1
  have hi:hasB p (ln inner)=true:=by unfold ln at h1 ⊢;rw[<- h.l1];exact h1
  rw[cond_true,hs,cond_true,hi,cond_true];refine ⟨by rw[zbB];exact h.l1,by rw[zbB];exact h.l2,fun i hi'=>?_⟩
  by_cases e:p=i
  .subst e
   show ix (up _ p _) p sZ=bif ix (up _ p true) p false then _ else _
   rw[zX hs,zX h1];rfl
  .show ix (up _ p _) i sZ=bif ix (up _ p true) i false then _ else _
   rw[zbm (zB.1 hs).1 (zB.1 hi').1 e,zbm (zB.1 hs).1 (zB.1 hi').1 e];exact h.at' i hi'
theorem z8D {h:Host}(H:HOk h){m g:Int}(hm:hasB m (ln h.Mons)=true)(hg:hasB g (ln (ix h.Mons m mZ).Guests)=true)(page:Int):Op h (zcc h m g page) :=
 z4R H hm (by unfold ln;rw[(H.mon hm).gt];exact hg) fun R=>zLu (R.t m hm g hg) page
theorem z07 {k:Kept}{inner outer:List Slot}(h:KOk k inner outer){p:Int}(hp:hasB p (ln inner)=true):zdy k p=bif ix k.Known p false then zbh (ix inner p sZ) outer else noSlot:=by
 have h1:hasB p (ln k.Known)=true:=by unfold ln at hp ⊢;rw[h.l1];exact hp
 have h2:hasB p (ln k.Slots)=true:=by unfold ln at hp ⊢;rw[h.l2];exact hp
 unfold zdy zit zc8;rw[h1,h2,cond_true,cond_true,h.at' p hp];cases ix k.Known p false<;>rfl
theorem zZd {k:Kept}{inner outer:List Slot}(h:KOk k inner outer){p:Int}(hp:hasB p (ln inner)=true):zdy (filled k inner outer p) p=zbh (ix inner p sZ) outer:=by
 rw[z07 (zLu h p) hp];have h1:hasB p (ln k.Known)=true:=by unfold ln at hp ⊢;rw[h.l1];exact hp
 have h2:hasB p (ln k.Slots)=true:=by unfold ln at hp ⊢;rw[h.l2];exact hp
 have:ix (filled k inner outer p).Known p false=true:=by
  unfold filled zc8;rw[h1,h2,hp];exact zX h1 _ _
 rw[this];rfl
theorem z9L {h:Host}(H:HOk h){m g page:Int}(io:Bool)(he:Rt h->zcA h (zSJ h m g page)=true):Op h (zve h m g page io):=by
 have hl:∀(b1 b2:List Entry),Like h ⟨h.Memory,h.Mons,b1,b2⟩:=fun _ _=>⟨rfl,fun _ _=>rfl,fun _ _=>rfl,fun _ _=>rfl,fun _ _=>rfl,fun _ _=>rfl,fun _ _ _ _=>rfl⟩;have key:∀(b:List Entry),(∀e∈b,zcA h e=true)->Rt h->∀e∈zpJ b (zSJ h m g page),zcA h e=true:=by
  intro b hb R e hx;rcases z5e hx with hx|hx
  .exact hb e hx
  .rw [hx];exact he R
 unfold zve;cases io
 .exact ⟨⟨H.m12,H.pgs,H.n1,H.n3,zYg H.b1 _,H.b2,H.mons,H.uq⟩,hl _ _,fun R=>⟨R.t,fun e hx=>key _ R.e1 R e hx,R.e2⟩⟩
 .exact ⟨⟨H.m12,H.pgs,H.n1,H.n3,H.b1,zYg H.b2 _,H.mons,H.uq⟩,hl _ _,fun R=>⟨R.t,R.e1,fun e hx=>key _ R.e2 R e hx⟩⟩
theorem z4v {b:List Entry}{t p:Int}{e:Entry}(h:zsy b t p=some e):e∈b/\e.Tag=t/\e.Page=p:=by
 unfold zsy at h;have h1:=List.find?_some h;rw[zb0,zbi,zbi]at h1;exact ⟨uO h,h1⟩
theorem zjq {h:Host}{m g:Int}:zbE h m g=true↔HOk h/\hasB m (ln h.Mons)=true/\hasB g (ln (ix h.Mons m mZ).Guests)=true:=by
 unfold zbE;rw[zb0,zb0,zim]
structure GOk (x:Guest):Prop where
 prog:zc6 x.Prog=true
 a:win x.A 0 99=true
 pc:win x.Pc 0 12=true
 w:zcF x.Written 4 8=true
 l:zcF x.Live 4 8=true
 ctl:zhm x.Ctl=true
 pend:zcR x.Pending=true
 ex:zg9 x.Exit=true
 seen:ile (ln x.Seen) 40=true
theorem zta {x:Guest}:zcV x=true↔GOk x:=by
 unfold zcV;simp only[qD];exact ⟨fun ⟨a,b,c,d,e,f,g,h,i⟩=>⟨a,b,c,d,e,f,g,h,i⟩,fun ⟨a,b,c,d,e,f,g,h,i⟩=>⟨a,b,c,d,e,f,g,h,i⟩⟩
theorem z3g {s:Slot}:zdC s 8=true↔s=noSlot\/(0<=s.Page/\s.Page<=7/\1<=s.Rights/\s.Rights<=3):=by
 unfold zdC;rw[zts,zpd,zrA];have:wsub .i64 8 1=7:=by decide
 simp only[this,zts,zco];simp[igt];constructor
 .rintro (h|⟨h,⟨h1,h2⟩,h3⟩)
  .exact .inl h
  .exact .inr ⟨h1,h2,h3⟩
 .intro h
  by_cases hs:s=noSlot
  .exact .inl hs
  .rcases h with h|⟨h1,h2,h3⟩
   .exact .inl h
   .exact .inr ⟨hs,⟨h1,h2⟩,h3⟩
theorem HOk.guest {h:Host}(H:HOk h){m g:Int}(hm:hasB m (ln h.Mons)=true)(hg:hasB g (ln (ix h.Mons m mZ).Guests)=true):GOk (ix (ix h.Mons m mZ).Guests g gZ):=zta.1 ((H.mon hm).gs _ (zlp hg _))
structure Walked (l:List Slot) (p n q:Int):Prop where
 hp:hasB p (ln l)=true
 pg:(ix l p sZ).Page=q
 q8:hasB q 8=true
 en:enough (ix l p sZ).Rights n=true
theorem walked {x:Guest}(X:GOk x){p n:Int}(hw:zdU x.Live p n=true):Walked x.Live p n (zbY x.Live p n):=by
 have e:zbY x.Live p n=(zbk x.Live p).Page:=by unfold zbY;rw[hw];rfl
 unfold zdU at hw
 by_cases h1:(zbk x.Live p).Page = -1
 .rw [zbi.2 h1]at hw;cases hw
 .rw [zbO.2 h1,cond_false,zb0]at hw;have hp:hasB p (ln x.Live)=true:=by
   cases hp:hasB p (ln x.Live) with
   | true=>rfl
   | false=>exact absurd (by unfold zbk;rw[hp];rfl) h1
  rw[znQ hp] at e h1 hw;rw[e];have hs:=z3g.1 ((zq2.1 X.l).1 _ (zlp hp sZ));refine ⟨hp,rfl,?_,hw.1⟩;rcases hs with hs|hs
  .rw [hs]at h1;exact absurd rfl h1
  .exact zB.2 (by omega)
structure Looked (h r:Host) (m g page need q host:Int):Prop where
 op:Op h r
 inn:(ix (ix r.Mons m mZ).Outer q sZ).Page=host
 ne:host≠-1
 en:enough (zbh (ix (ix (ix h.Mons m mZ).Guests g gZ).Live page sZ) (ix r.Mons m mZ).Outer).Rights need=true
 cp:(zbh (ix (ix (ix h.Mons m mZ).Guests g gZ).Live page sZ) (ix r.Mons m mZ).Outer).Page=host
 dk:∀k,hasB k 8=true->k≠q->ix (ix r.Mons m mZ).Dirty k false=ix (ix h.Mons m mZ).Dirty k false
 dq:need=2->ix (ix r.Mons m mZ).Dirty q false=true
 d1:need=1->(ix r.Mons m mZ).Dirty=(ix h.Mons m mZ).Dirty
 dm:∀i,hasB i (ln h.Mons)=true->i≠m->(ix r.Mons i mZ).Dirty=(ix h.Mons i mZ).Dirty
theorem zQx {h:Host}(S:Safe h){m g page need q:Int}(hm:hasB m (ln h.Mons)=true)(hg:hasB g (ln (ix h.Mons m mZ).Guests)=true)(hn:need=1\/need=2)(W:Walked (ix (ix h.Mons m mZ).Guests g gZ).Live page need q)(io:Bool)(ha:zdy (zbP h m g) page=zbh (ix (ix (ix h.Mons m mZ).Guests g gZ).Live page sZ) (ix h.Mons m mZ).Outer)(he:enough (zdy (zbP h m g) page).Rights need=true) :
 Op h (zed h m g page io).1/\(zed h m g page io).2=((ix (ix h.Mons m mZ).Outer q sZ).Page,true)/\(ix (ix h.Mons m mZ).Outer q sZ).Page≠-1/\(zed h m g page io).1.Mons=h.Mons:=by
 rw[ha]at he;have hc:=zpp hn he;rw[W.pg,znQ ((S.ok.mon hm).hasO W.q8)]at hc;refine ⟨z9L S.ok io fun R=>?_,?_,hc.2.1,?_⟩
 .obtain ⟨t1,t2⟩:=S.ok.tag hm hg;obtain ⟨b1,b2,_⟩:=zV6 t1 t2;rw[zfm]
  show hasB (zdm (zdF m g)) _=true/\hasB (zd4 (zdF m g)) (ln (ix h.Mons (zdm (zdF m g)) mZ).Guests)=true/\below' ⟨(zdy (zbP h m g) page).Page,(zdy (zbP h m g) page).Rights⟩ (zbh (zbk (ix (ix h.Mons (zdm (zdF m g)) mZ).Guests (zd4 (zdF m g)) gZ).Live page) (ix h.Mons (zdm (zdF m g)) mZ).Outer)=true
  rw[b1,b2,znQ W.hp,ha];exact ⟨hm,hg,zq7.2 (.inr ⟨rfl,zWP (zZm _ _)⟩)⟩
 .show ((zdy (zbP h m g) page).Page,true)=_
  rw[ha,hc.2.2]
 .show (zve h m g page io).Mons=_
  unfold zve;cases io<;>rfl
theorem zU8 {h:Host}(S:Safe h){m g page need q:Int}(hm:hasB m (ln h.Mons)=true)(hg:hasB g (ln (ix h.Mons m mZ).Guests)=true)(hn:need=1\/need=2)(W:Walked (ix (ix h.Mons m mZ).Guests g gZ).Live page need q)(io:Bool){b:List Entry}(hb:∀e∈b,zcA h e=true)(hd:need=2->ix (ix h.Mons m mZ).Dirty q false=true) :
 Looked h (zfQ h b m g page need q io).1 m g page need q (zfQ h b m g page need q io).2.1/\(zfQ h b m g page need q io).2.2=true:=by
 have X:=S.ok.mon hm;have hq8:=W.q8;have hsl:=znQ (X.hasO W.q8);unfold zfQ;cases hf:zht b m g page need with
 | true =>
  rw[cond_true];unfold zht at hf;cases hfb:zrd b m g page with
  | none=>rw[hfb]at hf;cases hf
  | some e =>
   rw[hfb]at hf;have hf':enough e.Rights need=true:=hf;obtain ⟨f1,f2,f3⟩:=z4v hfb;obtain ⟨t1,t2⟩:=S.ok.tag hm hg;obtain ⟨b1,b2,_⟩:=zV6 t1 t2;obtain ⟨_,_,h3⟩:=zfm.1 (hb e f1);rw[f2,b1,b2,f3,znQ W.hp]at h3;have hne:(⟨e.Host,e.Rights⟩:Slot)≠noSlot:=fun hc=>by
    have:e.Rights=0:=congrArg Slot.Rights hc;rw[this,zqj hn]at hf';cases hf'
   rcases zq7.1 h3 with h3|⟨h3,h4⟩
   .exact absurd h3 hne
   .have h5:=zTE h4 hf';have hc:=zpp hn h5;rw[W.pg,hsl]at hc;have h3':e.Host=_:=h3;refine ⟨⟨Op.refl S.ok,hc.2.2.symm.trans h3.symm,?_,h5,h3.symm,fun _ _ _=>rfl,hd,fun _=>rfl,fun _ _ _=>rfl⟩,rfl⟩
    show e.Host≠-1
    rw[h3',hc.2.2];exact hc.2.1
 | false =>
  rw[cond_false];have hKO:=S.rt.t m hm g hg;cases hs:zd3 h m g page need with
  | false =>
   rw[cond_false];have hs':ix (zbP h m g).Known page false=true/\enough (zdy (zbP h m g) page).Rights need=true:=by
    unfold zd3 at hs;cases hk:zit (zbP h m g) page with
    | false=>rw[hk]at hs;cases hs
    | true =>
     rw[hk,cond_true]at hs;refine ⟨?_,?_⟩
     .unfold zit at hk;cases hh:zc8 (zbP h m g) page with
      | false=>rw[hh]at hk;cases hk
      | true=>rw[hh]at hk;exact hk
     .cases hz:ieq (zdy (zbP h m g) page).Page (-1) with
      | true=>rw[hz]at hs;cases hs
      | false=>rw[hz]at hs;simpa using hs
   have ha:zdy (zbP h m g) page=zbh (ix (ix (ix h.Mons m mZ).Guests g gZ).Live page sZ) (ix h.Mons m mZ).Outer:=by
    have h0:=z07 hKO W.hp;have h1:ix (ix (ix h.Mons m mZ).Tables g kZ).Known page false=true:=hs'.1;rw[h1]at h0;exact h0
   obtain ⟨o1,o2,o3,o4⟩:=zQx S hm hg hn W io ha hs'.2;rw[o2];have he:=hs'.2;rw[ha]at he;have hc:=zpp hn he;rw[W.pg,hsl]at hc;exact ⟨⟨o1,by rw[o4],o3,by rw[o4];exact he,by rw[o4];exact hc.2.2,fun _ _ _=>by rw[o4],fun e=>by rw[o4];exact hd e,fun _=>by rw[o4],fun _ _ _=>by rw[o4]⟩,rfl⟩
  | true =>
   rw[cond_true];have M:=zQE S.ok (m:=m) (p:=q) need hm hq8;have hm1:hasB m (ln (mended h m q need).Mons)=true:=by rw[M.op.like.has];exact hm
   have hgs:(ix (mended h m q need).Mons m mZ).Guests=(ix h.Mons m mZ).Guests:=M.op.like.g m hm;have hg1:hasB g (ln (ix (mended h m q need).Mons m mZ).Guests)=true:=by rw[hgs];exact hg
   have S1:Safe (mended h m q need):=M.op.safe S;have F:=z8D S1.ok hm1 hg1 page;have S2:Safe (zcc (mended h m q need) m g page):=F.safe S1;have hm2:hasB m (ln (zcc (mended h m q need) m g page).Mons)=true:=by rw[F.like.has];exact hm1
   have e2:ix (zcc (mended h m q need) m g page).Mons m mZ={ ix (mended h m q need).Mons m mZ with Tables:=up (ix (mended h m q need).Mons m mZ).Tables g (filled (zbP (mended h m q need) m g) (zb8 (mended h m q need) m g) (ix (mended h m q need).Mons m mZ).Outer page) }:=zX hm1 _ _;have hg2:hasB g (ln (ix (zcc (mended h m q need) m g page).Mons m mZ).Guests)=true:=by rw[e2];exact hg1
   have hgs2:(ix (zcc (mended h m q need) m g page).Mons m mZ).Guests=(ix h.Mons m mZ).Guests:=by rw[e2];exact hgs
   have W2:Walked (ix (ix (zcc (mended h m q need) m g page).Mons m mZ).Guests g gZ).Live page need q:=by rw[hgs2];exact W
   have ha:zdy (zbP (zcc (mended h m q need) m g page) m g) page=zbh (ix (ix (ix (zcc (mended h m q need) m g page).Mons m mZ).Guests g gZ).Live page sZ) (ix (zcc (mended h m q need) m g page).Mons m mZ).Outer:=by
    have:zbP (zcc (mended h m q need) m g page) m g=filled (zbP (mended h m q need) m g) (zb8 (mended h m q need) m g) (ix (mended h m q need).Mons m mZ).Outer page:=by
     unfold zbP;rw[e2];exact zX (by unfold ln;rw[(S1.ok.mon hm1).gt];exact hg1) _ _
    rw[this];refine (zZd (p:=page) (S1.rt.t m hm1 g hg1) (by rw[hgs];exact W.hp)).trans ?_
    rw[e2]
   have hOu:(ix (zcc (mended h m q need) m g page).Mons m mZ).Outer=(ix (mended h m q need).Mons m mZ).Outer:=by rw[e2]
   have hsl1:=znQ ((S1.ok.mon hm1).hasO hq8);have hfull:=zTn (s:=ix (ix (ix h.Mons m mZ).Guests g gZ).Live page sZ) (o:=(ix (mended h m q need).Mons m mZ).Outer) hn (by rw[W.pg];have:=zB.1 hq8;omega) (by rw[W.pg,hsl1];exact M.inn) W.en (by
    rw[W.pg,hsl1];rcases hn with rfl|rfl
    .rcases (S1.ok.mon hm1).enough1 hq8 M.inn with e|e<;>rw [e]<;>decide
    .rw [M.ri (by decide)];decide)
   have he:enough (zdy (zbP (zcc (mended h m q need) m g page) m g) page).Rights need=true:=by
    rw[ha,hgs2,hOu];exact hfull.2
   obtain ⟨o1,o2,o3,o4⟩:=zQx S2 hm2 hg2 hn W2 io ha he;rw[o2];have hcp:=hfull.1;rw[W.pg,hsl1]at hcp;refine ⟨⟨(M.op.trans F).trans o1,by rw[o4],o3,by rw[o4,hOu];exact hfull.2,by rw[o4,hOu];exact hcp,fun k hk hc=>?_,fun e=>?_,fun e=>?_,fun i hi hc=>?_⟩,rfl⟩
   .rw [o4,e2];exact M.dk k hk hc
   .rw [o4,e2];exact M.dt (by rw[e];decide)
   .rw [o4,e2];exact M.d0 (by rw[e];decide)
   .rw [o4]
    show (ix (up (mended h m q need).Mons m _) i mZ).Dirty=_
    rw[zbm (zB.1 hm).1 (zB.1 hi).1 (Ne.symm hc)];exact M.dm i hi hc
theorem zGr {n:Int}:zfw n=true↔n=1\/n=2:=by
 unfold zfw
 by_cases h:n=1
 .rw [zbi.2 h];simp[h]
 .rw [zbO.2 h,cond_false,zbi];simp[h]
theorem zqr {h:Host}{m g page need:Int}:zbJ h m g page need=true↔zbE h m g=true/\(need=1\/need=2)/\zdU (zb8 h m g) page need=true:=by
 unfold zbJ;rw[zb0,zb0,zGr]
theorem zCB {h:Host}(S:Safe h){m g page need:Int}(io:Bool)(hl:zbJ h m g page need=true){b:List Entry}(hb:∀e∈b,zcA h e=true) :
 Looked h (lookOf h b m g page need io).1 m g page need (zbY (zb8 h m g) page need) (lookOf h b m g page need io).2.1/\(lookOf h b m g page need io).2.2=true:=by
 obtain ⟨h1,hn,hw⟩:=zqr.1 hl;obtain ⟨_,hm,hg⟩:=zjq.1 h1;have W:=walked (S.ok.guest hm hg) hw;unfold lookOf;rw[hl,cond_true];rcases hn with rfl|rfl
 .rw [show ieq 1 2=false by decide,cond_false]
  exact zU8 S hm hg (.inl rfl) W io hb (fun e=>absurd e (by decide))
 .rw [show ieq 2 2=true by decide,cond_true]
  obtain ⟨k1,k2⟩:=zL2 S.ok hm (zbY (zb8 h m g) page 2);have hm1:hasB m (ln (zbt h m (zbY (zb8 h m g) page 2)).Mons)=true:=by rw[k1.like.has];exact hm
  have e1:ix (zbt h m (zbY (zb8 h m g) page 2)).Mons m mZ={ ix h.Mons m mZ with Dirty:=up (ix h.Mons m mZ).Dirty (zbY (zb8 h m g) page 2) true }:=zX hm _ _;have hD:=(S.ok.mon hm).hasD W.q8;obtain ⟨L,hL⟩:=zU8 (k1.safe S) hm1 (g:=g) (page:=page) (need:=2) (q:=zbY (zb8 h m g) page 2) (by rw[e1];exact hg) (.inr rfl) (by rw[e1];exact W) io (b:=b) (fun e he=>by
   obtain ⟨a1,a2,a3⟩:=zfm.1 (hb e he);rw[zfm];have hi:hasB (zdm e.Tag) (ln (zbt h m (zbY (zb8 h m g) page 2)).Mons)=true:=by rw[k1.like.has];exact a1
   refine ⟨hi,by rw[k1.like.g _ a1];exact a2,?_⟩
   rw[k1.like.g _ a1];have:(ix (zbt h m (zbY (zb8 h m g) page 2)).Mons (zdm e.Tag) mZ).Outer=(ix h.Mons (zdm e.Tag) mZ).Outer:=by
    show (ix (up h.Mons m _) _ mZ).Outer=_
    by_cases hc:m=zdm e.Tag
    .rw [<- hc,zX hm]
    .rw [zbm (zB.1 hm).1 (zB.1 a1).1 hc]
   rw[this];exact a3) (fun _=>by rw[e1];exact zX hD _ _)
  refine ⟨⟨k1.trans L.op,L.inn,L.ne,?_,?_,fun k hk hc=>?_,L.dq,fun e=>absurd e (by decide),fun i hi hc=>?_⟩,hL⟩
  .have:=L.en;rw[e1] at this;exact this
  .have:=L.cp;rw[e1] at this;exact this
  .rw [L.dk k hk hc,e1];exact zbm (zB.1 W.q8).1 (zB.1 hk).1 (Ne.symm hc) _ _
  .rw [L.dm i (by rw[k1.like.has];exact hi) hc]
   show (ix (up h.Mons m _) i mZ).Dirty=_
   rw[zbm (zB.1 hm).1 (zB.1 hi).1 (Ne.symm hc)]
theorem zPC {x y:Int}(h1 : -9223372036854775808<=x+y)(h2:x+y<=9223372036854775807):zI .i64 x y=x+y:=by
 unfold zI;simp only[IntKind.wrap,IntKind.signed,IntKind.bits];simp;omega
theorem zKn {n:Nat}{P:Int->Prop}(h:∀i:Fin n,P ((i.val:Nat):Int)){x:Int}(h0:0<=x)(h1:x<n):P x:=by
 have:=h ⟨x.toNat,by omega⟩
 simpa [show ((x.toNat:Nat):Int)=x by omega] using this
theorem zVB {p:Int}:zcR p=true↔0<=p/\p<=255:=by unfold zcR;exact zco
theorem zQL {p:Int}(h:zcR p=true):zcR (zgW p)=true:=by
 have h':=zVB.1 h;exact zKn (n:=256) (P:=fun x=>zcR (zgW x)=true) (by decide +kernel) h'.1 (by omega)
theorem zQK {p:Int}(h:zcR p=true)(n:Int):zcR (zsJ p n)=true:=by
 unfold zsJ zgb;rw[h,cond_true];cases hn:win n 0 7 with
 | false=>exact h
 | true =>
  rw[cond_true];have h':=zVB.1 h;have hn':=zco.1 hn;exact zKn (n:=256) (P:=fun x=>∀k,0<=k->k<(8:Int)->zcR (wor .i64 x (zk1 .i64 1 k))=true) (fun i k h0 h1=>zKn (n:=8) (P:=fun k=>zcR (wor .i64 ((i.val:Nat):Int) (zk1 .i64 1 k))=true) (by revert i;decide +kernel) h0 h1) h'.1 (by omega) n hn'.1 (by omega)
structure GKeep (x y:Guest):Prop where
 ok:GOk y
 live:y.Live=x.Live
theorem zZQ {x:Guest}(X:GOk x){c:Int}(hc:win c 0 12=true):GOk { x with Pc:=c }:=⟨X.prog,X.a,hc,X.w,X.l,X.ctl,X.pend,X.ex,X.seen⟩
theorem zZP {x:Guest}(X:GOk x){c:Int}(hc:win c 0 99=true):GOk { x with A:=c }:=⟨X.prog,hc,X.pc,X.w,X.l,X.ctl,X.pend,X.ex,X.seen⟩
theorem zi0 {x:Guest}(X:GOk x):GKeep x (zbH x):=by
 unfold zbH;have hp:=zco.1 X.pc;cases h:ige x.Pc 12 with
 | true=>exact ⟨zZQ X (by decide),rfl⟩
 | false =>
  have:¬ x.Pc≥12:=jT h;refine ⟨zZQ X ?_,rfl⟩;rw[zPC (by omega) (by omega)]
  exact zco.2 (by omega)
theorem zTK {x:Guest}(X:GOk x)(n:Int):GKeep x (saw x n):=by
 unfold saw;cases h:ilt (ln x.Seen) 40 with
 | false=>exact ⟨X,rfl⟩
 | true =>
  have:ln x.Seen<40:=qE h;refine ⟨⟨X.prog,X.a,X.pc,X.w,X.l,X.ctl,X.pend,X.ex,qJ ?_⟩,rfl⟩;unfold ln ap at *;simp;omega
theorem zi1 {x:Guest}(X:GOk x){e:GExit}(he:zg9 e=true):GKeep x (stopped x e):=⟨⟨X.prog,X.a,X.pc,X.w,X.l,X.ctl,X.pend,he,X.seen⟩,rfl⟩
theorem zYt {x:Guest}(X:GOk x){p:Int}(hp:zcR p=true):GKeep x { x with Pending:=p }:=⟨⟨X.prog,X.a,X.pc,X.w,X.l,X.ctl,hp,X.ex,X.seen⟩,rfl⟩
theorem zYq {x:Guest}(X:GOk x)(b:Bool):GKeep x { x with Halted:=b }:=⟨⟨X.prog,X.a,X.pc,X.w,X.l,X.ctl,X.pend,X.ex,X.seen⟩,rfl⟩
theorem zYr {x:Guest}(X:GOk x):GKeep x (held x):=⟨(zi0 (zYq X true).ok).ok,(zi0 (zYq X true).ok).live⟩
theorem z14 {x:Guest}(X:GOk x){v:Int}(hv:win v 0 99=true):GKeep x (loaded x v):=by
 have h1:=zTK (zZP X hv) v;have h2:=zi0 h1.ok;exact ⟨h2.ok,h2.live.trans h1.live⟩
theorem zM7 {x:Guest}(X:GOk x):GKeep x (interrupted x):=by
 unfold interrupted;cases zfL x with
 | false=>exact ⟨X,rfl⟩
 | true =>
  have h1:=zYt X (zQL X.pend);rw[cond_true];exact ⟨(zTK h1.ok _).ok,(zTK h1.ok _).live⟩
theorem zIM {p:List Ins}(h:zc6 p=true)(i:Int):zdM (zbW p i)=true:=by
 unfold zbW;cases hi:hasB i (ln p) with
 | false=>rfl
 | true =>
  unfold zc6 at h;rw[zb0,qM]at h;exact h.1 _ (zlp hi _)
theorem z9E {i:Ins}(h:zdM i=true)(h3:i.Op=3\/i.Op=4):0<=i.X/\i.X<=15:=by
 unfold zdM at h;rcases h3 with e|e<;>rw [e]at h<;>exact zco.1 h
theorem z2c {i:Ins}(h:zdM i=true)(h3:i.Op=5\/i.Op=6):0<=i.X/\i.X<=99:=by
 unfold zdM at h;rcases h3 with e|e<;>rw [e]at h<;>exact zco.1 h
theorem zbaf {i:Ins}(h:zdM i=true)(h3:i.Op=8):0<=i.X/\i.X<=11:=by
 unfold zdM at h;rw[h3]at h;exact zco.1 h
theorem zbae {i:Ins}(h:zdM i=true)(h3:i.Op=1):0<=i.X/\i.X<=99:=by
 unfold zdM at h;rw[h3]at h;exact zco.1 h
theorem zZR {x:Guest}(X:GOk x):GKeep x (plainly x):=by
 have M:=zi0 X;have hi:=zIM X.prog x.Pc;unfold plainly;cases ine (zC x) 2 with
 | true=>exact ⟨X,rfl⟩
 | false =>
  rw[cond_false];cases win x.A 0 99 with
  | false=>exact M
  | true =>
   rw[cond_true];cases win (zbW x.Prog x.Pc).X 0 99 with
   | false=>exact M
   | true =>
    rw[cond_true]
    by_cases e1:(zbW x.Prog x.Pc).Op=1
    .rw [zbi.2 e1,cond_true];exact ⟨zZP M.ok (zco.2 (zbae hi e1)),M.live⟩
    .rw [zbO.2 e1,cond_false]
     by_cases e2:(zbW x.Prog x.Pc).Op=2
     .rw [zbi.2 e2,cond_true];refine ⟨zZP M.ok ?_,M.live⟩;have h1:=zco.1 X.a;have hx:0<=(zbW x.Prog x.Pc).X/\(zbW x.Prog x.Pc).X<=99:=by
       unfold zdM at hi;rw[e2]at hi;exact zco.1 hi
      rw[zco];unfold ziK;rw[zPC (by omega) (by omega)]
      have h5:=Int.tmod_nonneg (a:=x.A+(zbW x.Prog x.Pc).X) 100 (by omega)
      have h6:=Int.tmod_lt_of_pos (x.A+(zbW x.Prog x.Pc).X) (show (0:Int)<100 by omega)
      omega
     .rw [zbO.2 e2,cond_false]
      by_cases e8:(zbW x.Prog x.Pc).Op=8
      .rw [zbi.2 e8,cond_true];cases ieq x.A 0 with
       | true =>
        have:=zbaf hi e8;exact ⟨zZQ M.ok (zco.2 (by omega)),M.live⟩
       | false=>exact M
      .rw [zbO.2 e8];exact M
theorem zsI {c:List Int}:zca c=true↔(∀x∈c,win x 0 99=true)/\ln c=4:=by
 unfold zca;rw[zb0,qM,zbi]
theorem zmv (h:Host)(m:Int):∀(n i:Nat),(zch h m n i).length=n
 | 0,_=>rfl
 | n+1,i=>by rw[zch,qW,zmv h m n]
theorem zMa (h:Host)(m:Int):∀(n i k:Nat) (hk:k<(zch h m n i).length),(zch h m n i)[k]=zb9 h m ((i+k:Nat):Int)
 | 0,i,k,hk=>by simp[zch]at hk
 | n+1,i,k,hk=>by
  cases k with
  | zero=>rfl
  | succ k =>
   have:=zMa h m n (i+1) k (by simpa [zch] using hk)
   simp only[zch,List.getElem_cons_succ];rw[this]
   congr 1
   omega
theorem zpD {h:Host}{m q:Int}(hq:hasB q 8=true)(d:List Int):ix (zch h m 8 0) q d=zb9 h m q:=by
 have hq':=zB.1 hq;have hk:q.toNat<(zch h m 8 0).length:=by rw[zmv];omega
 have:=zmm hk d;rw[show ((q.toNat:Nat):Int)=q by omega] at this
 rw[this,zMa]
 congr 1
 omega
theorem zt0 (h:Host)(m:Int):ln (zch h m 8 0)=8:=by unfold ln;rw[zmv];rfl
theorem zzd {h:Host}(H:HOk h){m p:Int}(hm:hasB m (ln h.Mons)=true)(hp:hasB p 8=true):zca (zb9 h m p)=true:=by
 have X:=H.mon hm;rw[<- zkG H hm hp]
 by_cases e:(ix (ix h.Mons m mZ).Outer p sZ).Page = -1
 .rw [zbi.2 e];exact ((zps (X.slot hp)).1 (X.fit p hp)).1 e
 .rw [zbO.2 e];exact zQI H.pgs _
theorem zyg {h:Host}(H:HOk h){m:Int}(hm:hasB m (ln h.Mons)=true):zbC (zy h m)=true:=by
 have X:=H.mon hm;unfold zy;rw[hm,cond_true];unfold zbC zho;rw[zb0,qM];refine ⟨X.gs,?_⟩;simp only[qD,zb0,qM,zbi,zco];refine ⟨⟨fun c hc=>?_,zt0 h m⟩,⟨?_,?_⟩,?_,X.pend⟩
 .obtain ⟨i,hi,rfl⟩:=zVe hc [];rw[zt0]at hi;rw[zpD hi];exact zzd H hm hi
 .unfold ln;have:=X.g1;omega
 .unfold ln;have:=X.g2;omega
 .unfold ile ln;have:=X.outs;exact qJ (by omega)
structure SimT (h r:Host) (m:Int) (f:Bare->Bare):Prop where
 safe:Safe r
 seen:∀i,zy r i=bif ieq i m then f (zy h i) else zy h i
 len:r.Mons.length=h.Mons.length
theorem SimT.trans {a b c:Host}{m:Int}{f g:Bare->Bare}(x:SimT a b m f)(y:SimT b c m g):SimT a c m (fun t=>g (f t)):=by
 refine ⟨y.safe,fun i=>?_,y.len.trans x.len⟩;rw[y.seen i,x.seen i];cases ieq i m<;>rfl
theorem Op.sim {h r:Host}(k:Op h r)(S:Safe h)(m:Int):SimT h r m id:=⟨k.safe S,fun i=>by rw[k.like.seen i];cases ieq i m<;>rfl,k.like.len⟩
theorem SimT.congr {h r:Host}{m:Int}{f g:Bare->Bare}(x:SimT h r m f)(e:f (zy h m)=g (zy h m)):SimT h r m g:=by
 refine ⟨x.safe,fun i=>?_,x.len⟩;rw[x.seen i]
 by_cases hi:i=m
 .subst hi;rw[zbi.2 rfl,cond_true,cond_true,e]
 .rw [zbO.2 hi];rfl
theorem SimT.has {h r:Host}{m:Int}{f:Bare->Bare}(x:SimT h r m f)(i:Int):hasB i (ln r.Mons)=hasB i (ln h.Mons):=by unfold ln;rw[x.len]
theorem SimT.refl {h:Host}(S:Safe h)(m:Int):SimT h h m id:=⟨S,fun i=>by cases ieq i m<;>rfl,rfl⟩
theorem zv4 {h:Host}(S:Safe h){m q host:Int}(hm:hasB m (ln h.Mons)=true)(hq:hasB q 8=true)(hs:(ix (ix h.Mons m mZ).Outer q sZ).Page=host)(hne:host≠-1)(c v:Int) :
 SimT h { h with Memory:=zbv h.Memory host c v } m (fun b=>{ b with Memory:=zbv b.Memory q c v })/\cellAt h.Memory host c=cellAt (zy h m).Memory q c:=by
 have H:=S.ok;have X:=H.mon hm;have hsl:=X.slot hq;have hM:=hasM H hsl (by rw[hs];exact hne)
 rw[hs]at hM;have hpg:ix h.Memory host []=zb9 h m q:=by
  have:=zkG H hm hq;rw[hs,zbO.2 hne,cond_false,zkF hM] at this;exact this
 have hlen:ln (zb9 h m q)=4:=(zsI.1 (zzd H hm hq)).2;have hmem:(zy h m).Memory=zch h m 8 0:=by unfold zy;rw[hm];rfl
 have h1:zfv h.Memory host c=hasB c 4:=by unfold zfv;rw[hM,cond_true,hpg,hlen]
 have h2:zfv (zch h m 8 0) q c=hasB c 4:=by unfold zfv;rw[zt0,hq,cond_true,zpD hq,hlen]
 have hcell:cellAt h.Memory host c=cellAt (zy h m).Memory q c:=by
  rw[hmem];unfold cellAt;rw[h1,h2,hpg,zpD hq]
 refine ⟨?_,hcell⟩;cases hc:hasB c 4 with
 | false =>
  have e1:zbv h.Memory host c v=h.Memory:=by unfold zbv;rw[h1,hc];rfl
  rw[e1];refine (SimT.refl S m).congr ?_
  show zy h m={ zy h m with Memory:=zbv (zy h m).Memory q c v }
  rw[hmem];have e2:zbv (zch h m 8 0) q c v=zch h m 8 0:=by unfold zbv;rw[h2,hc];rfl
  rw[e2,<- hmem]
 | true =>
  cases hv:win v 0 99 with
  | false =>
   have e1:zbv h.Memory host c v=h.Memory:=by unfold zbv;rw[h1,hc,hv];rfl
   rw[e1];refine (SimT.refl S m).congr ?_
   show zy h m={ zy h m with Memory:=zbv (zy h m).Memory q c v }
   rw[hmem];have e2:zbv (zch h m 8 0) q c v=zch h m 8 0:=by unfold zbv;rw[h2,hc,hv];rfl
   rw[e2,<- hmem]
  | true =>
   have e1:zbv h.Memory host c v=up h.Memory host (up (zb9 h m q) c v):=by unfold zbv;rw[h1,hc,hv,hpg];rfl
   have e2:zbv (zch h m 8 0) q c v=up (zch h m 8 0) q (up (zb9 h m q) c v):=by unfold zbv;rw[h2,hc,hv,zpD hq];rfl
   have hnew:zca (up (zb9 h m q) c v)=true:=by
    have:=zsI.1 (zzd H hm hq);rw[zsI,zc5];refine ⟨fun x hx=>?_,this.2⟩;rcases qZ hx with h|h
    .exact this.1 x h
    .rw [h];exact hv
   have h0:=(zB.1 hM).1;have hH:HOk { h with Memory:=zbv h.Memory host c v }:=by
    rw[e1];refine ⟨by show (up _ _ _).length=12;rw[zbB];exact H.m12,fun x hx=>?_,H.n1,H.n3,H.b1,H.b2,H.mons,H.uq⟩
    rcases qZ hx with h|h
    .exact H.pgs x h
    .rw [h];exact hnew
   refine ⟨⟨hH,⟨S.rt.t,S.rt.e1,S.rt.e2⟩⟩,fun i=>?_,rfl⟩;have hne':∀i k,hasB i (ln h.Mons)=true->hasB k 8=true->¬ (i=m/\k=q)->zb9 { h with Memory:=zbv h.Memory host c v } i k=zb9 h i k:=by
    intro i k hi hk hnot;rw[<- zkG hH (m:=i) (p:=k) hi hk,<- zkG H hi hk]
    show (cond (ieq (ix (ix h.Mons i mZ).Outer k sZ).Page (-1)) _ (zcd (zbv h.Memory host c v) _))=_
    by_cases e:(ix (ix h.Mons i mZ).Outer k sZ).Page = -1
    .rw [zbi.2 e];rfl
    .rw [zbO.2 e,cond_false,cond_false,e1];exact zCG h0 (fun e=>hnot (H.uniq hi hk hm hq e hs h0))
   have heq':zb9 { h with Memory:=zbv h.Memory host c v } m q=up (zb9 h m q) c v:=by
    rw[<- zkG hH (m:=m) (p:=q) hm hq]
    show (cond (ieq (ix (ix h.Mons m mZ).Outer q sZ).Page (-1)) _ (zcd (zbv h.Memory host c v) (ix (ix h.Mons m mZ).Outer q sZ).Page))=_
    rw[hs,zbO.2 hne,cond_false,e1];exact zCF hM
   by_cases hi:i=m
   .subst hi;rw[zbi.2 rfl,cond_true];unfold zy
    show (cond (hasB i (ln h.Mons)) _ _)=_
    rw[hm,cond_true,cond_true]
    show Bare.mk (zch { h with Memory:=zbv h.Memory host c v } i 8 0) _ _ _=Bare.mk (zbv (zch h i 8 0) q c v) _ _ _
    congr 1
    rw[e2];refine zO0 [] (by rw[zbB,zmv,zmv]) fun k hk=>?_
    rw[zt0]at hk;rw[zpD hk]
    by_cases e:q=k
    .subst e;rw[zX (by rw[zt0];exact hq),heq']
    .rw [zbm (zB.1 hq).1 (zB.1 hk).1 e,zpD hk];exact hne' i k hm hk (fun h=>e h.2.symm)
   .rw [zbO.2 hi,cond_false];unfold zy
    show (cond (hasB i (ln h.Mons)) _ _)=_
    cases hi2:hasB i (ln h.Mons) with
    | false=>rfl
    | true =>
     rw[cond_true,cond_true]
     show Bare.mk (zch { h with Memory:=zbv h.Memory host c v } i 8 0) _ _ _=_
     rw[zqy 8 0 (fun j h1 h2=>hne' i (j:Int) hi2 (zB.2 (by omega)) (fun h=>hi h.1))]
theorem zp5 {h:Host}(S:Safe h){m g:Int}(hm:hasB m (ln h.Mons)=true)(hg:hasB g (ln (ix h.Mons m mZ).Guests)=true){y:Guest}(k:GKeep (gOf h m g) y):SimT h (ze2 h m g y) m (fun b=>zdB b g y):=by
 have X:=S.ok.mon hm;have kp:KeepP (ix h.Mons m mZ) { ix h.Mons m mZ with Guests:=up (ix h.Mons m mZ).Guests g y }:=⟨rfl,rfl⟩;refine ⟨zv3 S hm kp (zkB X kp (zbB _ _ _) rfl rfl X.outs X.pend X.tr X.own fun z hz=>?_) (zbB _ _ _) (fun j hj=>?_) rfl,fun i=>?_,zbB _ _ _⟩
 .rcases qZ hz with h|h
  .exact X.gs z h
  .rw [h];exact zta.2 k.ok
 .show (ix (up (ix h.Mons m mZ).Guests g y) j gZ).Live=_
  by_cases e:g=j
  .subst e;rw[zX hg];exact k.live
  .rw [zbm (zB.1 hg).1 (zB.1 hj).1 e]
 .refine (zuy (h:=h) (r:=ze2 h m g y) hm rfl rfl kp i).trans ?_
  by_cases e:i=m
  .subst e;rw[zbi.2 rfl,cond_true,cond_true];unfold zdB zy;rw[hm];rfl
  .rw [zbO.2 e];rfl
theorem zVS {h:Host}(S:Safe h){m:Int}(hm:hasB m (ln h.Mons)=true){y:Mon}(kp:KeepP (ix h.Mons m mZ) y)(hy:MOk y)(hg:y.Guests=(ix h.Mons m mZ).Guests)(ht:y.Tables=(ix h.Mons m mZ).Tables) :
 SimT h { h with Mons:=up h.Mons m y } m (fun b=>{ b with Outs:=y.Outs,Pending:=y.Pending }):=by
 refine ⟨zv3 S hm kp hy (by rw[hg]) (fun j _=>by rw[hg]) ht,fun i=>?_,zbB _ _ _⟩
 refine (zuy (h:=h) (r:={ h with Mons:=up h.Mons m y }) hm rfl rfl kp i).trans ?_
 by_cases e:i=m
 .subst e;rw[zbi.2 rfl,cond_true,cond_true];unfold zy;rw[hm,hg];rfl
 .rw [zbO.2 e];rfl
theorem zeW {h:Host}{m:Int}(hm:hasB m (ln h.Mons)=true):zy h m=⟨zch h m 8 0,(ix h.Mons m mZ).Guests,(ix h.Mons m mZ).Outs,(ix h.Mons m mZ).Pending⟩:=by
 unfold zy;rw[hm];rfl
theorem z3d {h:Host}(S:Safe h){m:Int}(hm:hasB m (ln h.Mons)=true):SimT h (owned h m) m id:=by
 unfold owned;cases hc:ilt (ix h.Mons m mZ).Own 1000000000 with
 | false=>exact SimT.refl S m
 | true =>
  rw[cond_true];have X:=S.ok.mon hm;have ho:=zco.1 X.own;have hlt:(ix h.Mons m mZ).Own<1000000000:=qE hc;have kp:KeepP (ix h.Mons m mZ) { ix h.Mons m mZ with Own:=zI .i64 (ix h.Mons m mZ).Own 1 }:=⟨rfl,rfl⟩;refine (zVS S hm kp (zkB X kp rfl rfl rfl X.outs X.pend X.tr ?_ X.gs) rfl rfl).congr ?_
  .show win (zI .i64 (ix h.Mons m mZ).Own 1) 0 1000000000=true
   rw[zPC (by omega) (by omega),zco];omega
  .rw [zeW hm];rfl
theorem z0O {h:Host}(S:Safe h){m:Int}(hm:hasB m (ln h.Mons)=true)(n:Int):SimT h (zfx h m n) m (fun b=>ziy b n):=by
 unfold zfx;have X:=S.ok.mon hm;cases hc:ilt (ln (ix h.Mons m mZ).Outs) 40 with
 | false =>
  refine (SimT.refl S m).congr ?_;rw[zeW hm];unfold ziy;rw[hc];rfl
 | true =>
  rw[cond_true];have hlt:ln (ix h.Mons m mZ).Outs<40:=qE hc;have kp:KeepP (ix h.Mons m mZ) { ix h.Mons m mZ with Outs:=ap (ix h.Mons m mZ).Outs [n] }:=⟨rfl,rfl⟩;refine (zVS S hm kp (zkB X kp rfl rfl rfl ?_ X.pend X.tr X.own X.gs) rfl rfl).congr ?_
  .show (ap (ix h.Mons m mZ).Outs [n]).length<=40
   unfold ln ap at *;simp;omega
  .rw [zeW hm];unfold ziy;rw[hc];rfl
theorem ztC {h:Host}{m g:Int}(hm:hasB m (ln h.Mons)=true)(hg:hasB g (ln (ix h.Mons m mZ).Guests)=true):gAt (zy h m) g=gOf h m g:=by
 rw[zeW hm];unfold gAt
 show (cond (hasB g (ln (ix h.Mons m mZ).Guests)) _ _)=_
 rw[hg];rfl
theorem zPD {x:Guest}(h:zC x=3\/zC x=4\/zC x=5\/zC x=6):(zbW x.Prog x.Pc).Op=zC x:=by
 unfold zC at h ⊢;cases hc:canRun x with
 | false=>simp[hc]at h
 | true =>
  simp only[hc,cond_true]at h ⊢;cases ht:zfL x with
  | true=>simp[ht]at h
  | false =>
   simp only[ht,cond_false]at h ⊢;unfold zro at h ⊢
   by_cases e3:(zbW x.Prog x.Pc).Op=3
   .rw [e3];rfl
   .rw [zbO.2 e3,cond_false]at h ⊢
    by_cases e4:(zbW x.Prog x.Pc).Op=4
    .rw [e4];rfl
    .rw [zbO.2 e4,cond_false]at h ⊢
     by_cases e5:(zbW x.Prog x.Pc).Op=5
     .rw [e5];rfl
     .rw [zbO.2 e5,cond_false]at h ⊢
      by_cases e6:(zbW x.Prog x.Pc).Op=6
      .rw [e6];rfl
      .rw [zbO.2 e6,cond_false]at h ⊢;cases h7:ieq (zbW x.Prog x.Pc).Op 7<;>simp [h7]at h
theorem z7u {x:Guest}(X:GOk x){w:Int}(hw:zC x=w)(h:w=3\/w=4):0<=address x/\address x<=15:=by
 have e:address x=(zbW x.Prog x.Pc).X:=by
  unfold address;rcases h with e|e
  .rw [hw,e];rfl
  .rw [hw,e];rfl
 rw[e];exact z9E (zIM X.prog _) (by rw[zPD (by omega),hw];exact h)
theorem z7v {a:Int}(h0:0<=a)(h1:a<=15):win (zW a) 0 3=true/\hasB (zcG a) 4=true :=
 zKn (n:=16) (P:=fun a=>win (zW a) 0 3=true/\hasB (zcG a) 4=true) (by decide) h0 (by omega)
theorem zZG {p:Int}(h:win p 0 3=true)(w:Bool):zg9 (znx p w)=true:=by
 unfold zg9 znx;simp[ieq,h]
theorem z1R {n:Int}(h:win n 0 99=true):zg9 (zpn n)=true:=by
 unfold zg9 zpn;simp[ieq,h]
theorem z4u {n:Int}(h:win n 0 99=true):zg9 (ztk n)=true:=by
 unfold zg9 ztk;simp[ieq,h]
theorem z4A {x:Guest}(X:GOk x)(t:Int){w:Int}(hw:zC x=w):GKeep x (zeP x t w):=by
 have hi:=zIM X.prog x.Pc;unfold zeP
 by_cases e6:w=6
 .rw [zbi.2 e6];exact zi1 X (z1R (zco.2 (z2c hi (by rw[zPD (by omega),hw];omega))))
 .rw [zbO.2 e6,cond_false]
  by_cases e5:w=5
  .rw [zbi.2 e5];cases zcL t 1 with
   | true=>exact zi1 X (z4u (zco.2 (z2c hi (by rw[zPD (by omega),hw];omega))))
   | false=>rw[e5];exact zi0 X
  .rw [zbO.2 e5];rw[Bool.false_and,cond_false];cases hc:(ieq w 7&&zcL t 2) with
   | true=>exact zi1 X rfl
   | false =>
    rw[cond_false];cases ieq w 7
    .exact zi0 X
    .exact zYr X
theorem zYz {α:Type}(g:Int):hasB g (ln ([]:List α))=false:=by
 cases h:hasB g (ln ([]:List α)) with
 | false=>rfl
 | true=>have:=zB.1 h;simp[ln] at this;omega
theorem z3F {m:List (List Int)}(h:∀c∈m,zca c=true)(p c:Int):win (cellAt m p c) 0 99=true:=by
 unfold cellAt zfv;cases hp:hasB p (ln m) with
 | false=>rfl
 | true =>
  rw[cond_true];cases hc:hasB c (ln (ix m p [])) with
  | false=>rfl
  | true =>
   rw[cond_true];exact (zsI.1 (h _ (zlp hp []))).1 _ (zlp hc 0)
theorem HOk.seenG {h:Host}(H:HOk h){m g:Int}(hm:hasB m (ln h.Mons)=true)(hg:hasB g (ln (ix h.Mons m mZ).Guests)=true):GOk (gOf h m g):=H.guest hm hg
theorem zV3 {h:Host}(S:Safe h){m g:Int}(hm:hasB m (ln h.Mons)=true)(hg:hasB g (ln (ix h.Mons m mZ).Guests)=true)(w:Bool)(hw:zC (gOf h m g)=bif w then 4 else 3) :
 SimT h (zff (zhn h m g (gOf h m g) w) m g (gOf h m g) w) m (fun b=>zj3 b g (gOf h m g) w):=by
 have X:=S.ok.seenG hm hg;have ha:=z7u X hw (by cases w<;>simp)
 have hap:=z7v ha.1 ha.2;have hn:zbM w=1\/zbM w=2:=by cases w<;>simp [zbM]
 unfold zff zhn;cases hl:zbJ h m g (zW (address (gOf h m g))) (zbM w) with
 | false =>
  have e:lookOf h h.Buffer m g (zW (address (gOf h m g))) (zbM w) false=(h,-1,false):=by unfold lookOf;rw[hl];rfl
  have hw2:zdU (gOf h m g).Live (zW (address (gOf h m g))) (zbM w)=false:=by
   cases hc:zdU (gOf h m g).Live (zW (address (gOf h m g))) (zbM w) with
   | false=>rfl
   | true=>exact Bool.noConfusion (hl.symm.trans (zqr.2 ⟨zjq.2 ⟨S.ok,hm,hg⟩,hn,hc⟩))
  rw[e];refine (zp5 S hm hg (zi1 X (zZG hap.1 w))).congr ?_;unfold zj3;rw[hw2];rfl
 | true =>
  obtain ⟨L,hL⟩:=zCB S false hl S.rt.e1;obtain ⟨_,_,hwk⟩:=zqr.1 hl;have hwk':zdU (gOf h m g).Live (zW (address (gOf h m g))) (zbM w)=true:=hwk;have W:=walked X hwk;rw[hL,cond_true];have S1:=L.op.safe S;have hm1:hasB m (ln (lookOf h h.Buffer m g (zW (address (gOf h m g))) (zbM w) false).1.Mons)=true:=by rw[L.op.like.has];exact hm
  have hgs:=L.op.like.g m hm;have q8:hasB (zbY (zb8 h m g) (zW (address (gOf h m g))) (zbM w)) 8=true:=W.q8;obtain ⟨k1,k2⟩:=zv4 S1 hm1 q8 L.inn L.ne (zcG (address (gOf h m g))) (gOf h m g).A;rw[L.op.like.seen m] at k2;cases w with
  | true =>
   rw[cond_true];have k0:=L.op.sim S m;have hmm:hasB m (ln ({ (lookOf h h.Buffer m g (zW (address (gOf h m g))) (zbM true) false).1 with Memory:=zbv (lookOf h h.Buffer m g (zW (address (gOf h m g))) (zbM true) false).1.Memory (lookOf h h.Buffer m g (zW (address (gOf h m g))) (zbM true) false).2.1 (zcG (address (gOf h m g))) (gOf h m g).A }:Host).Mons)=true:=hm1;have hgg:hasB g (ln (ix ({ (lookOf h h.Buffer m g (zW (address (gOf h m g))) (zbM true) false).1 with Memory:=zbv (lookOf h h.Buffer m g (zW (address (gOf h m g))) (zbM true) false).1.Memory (lookOf h h.Buffer m g (zW (address (gOf h m g))) (zbM true) false).2.1 (zcG (address (gOf h m g))) (gOf h m g).A }:Host).Mons m mZ).Guests)=true:=by
    show hasB g (ln (ix (lookOf h h.Buffer m g (zW (address (gOf h m g))) (zbM true) false).1.Mons m mZ).Guests)=true
    rw[hgs];exact hg
   have kk:GKeep (gOf { (lookOf h h.Buffer m g (zW (address (gOf h m g))) (zbM true) false).1 with Memory:=zbv (lookOf h h.Buffer m g (zW (address (gOf h m g))) (zbM true) false).1.Memory (lookOf h h.Buffer m g (zW (address (gOf h m g))) (zbM true) false).2.1 (zcG (address (gOf h m g))) (gOf h m g).A } m g) (zbH (gOf h m g)):=by
    have:gOf { (lookOf h h.Buffer m g (zW (address (gOf h m g))) (zbM true) false).1 with Memory:=zbv (lookOf h h.Buffer m g (zW (address (gOf h m g))) (zbM true) false).1.Memory (lookOf h h.Buffer m g (zW (address (gOf h m g))) (zbM true) false).2.1 (zcG (address (gOf h m g))) (gOf h m g).A } m g=gOf h m g:=by
     show ix (ix (lookOf h h.Buffer m g (zW (address (gOf h m g))) (zbM true) false).1.Mons m mZ).Guests g gZ=_
     rw[hgs];rfl
    rw[this];exact zi0 X
   refine ((k0.trans k1).trans (zp5 k1.safe hmm hgg kk)).congr ?_;unfold zj3;rw[hwk'];rfl
  | false =>
   rw[cond_false];have k0:=L.op.sim S m;have hgg:hasB g (ln (ix (lookOf h h.Buffer m g (zW (address (gOf h m g))) (zbM false) false).1.Mons m mZ).Guests)=true:=by rw[hgs];exact hg
   have kk:GKeep (gOf (lookOf h h.Buffer m g (zW (address (gOf h m g))) (zbM false) false).1 m g) (loaded (gOf h m g) (cellAt (lookOf h h.Buffer m g (zW (address (gOf h m g))) (zbM false) false).1.Memory (lookOf h h.Buffer m g (zW (address (gOf h m g))) (zbM false) false).2.1 (zcG (address (gOf h m g))))):=by
    have:gOf (lookOf h h.Buffer m g (zW (address (gOf h m g))) (zbM false) false).1 m g=gOf h m g:=by
     show ix (ix (lookOf h h.Buffer m g (zW (address (gOf h m g))) (zbM false) false).1.Mons m mZ).Guests g gZ=_
     rw[hgs];rfl
    rw[this];exact z14 X (z3F S1.ok.pgs _ _)
   refine (k0.trans (zp5 S1 hm1 hgg kk)).congr ?_;unfold zj3;rw[hwk',k2];rfl
theorem z4z {h r:Host}{m g:Int}(e:(ix r.Mons m mZ).Guests=(ix h.Mons m mZ).Guests):gOf r m g=gOf h m g:=by unfold gOf;rw[e]
theorem z8E (h:Host)(m:Int)(hm:hasB m (ln h.Mons)=true):(ix (owned h m).Mons m mZ).Guests=(ix h.Mons m mZ).Guests:=by
 unfold owned;cases ilt (ix h.Mons m mZ).Own 1000000000 with
 | false=>rfl
 | true=>show (ix (up h.Mons m _) m mZ).Guests=_;rw[zX hm]
theorem z4S (h:Host)(m n:Int)(hm:hasB m (ln h.Mons)=true):(ix (zfx h m n).Mons m mZ).Guests=(ix h.Mons m mZ).Guests:=by
 unfold zfx;cases ilt (ln (ix h.Mons m mZ).Outs) 40 with
 | false=>rfl
 | true=>show (ix (up h.Mons m _) m mZ).Guests=_;rw[zX hm]
theorem z3f {h:Host}(S:Safe h){m:Int}(hm:hasB m (ln h.Mons)=true)(x:Guest)(w:Int):SimT h (zcW h m x w) m id/\(ix (zcW h m x w).Mons m mZ).Guests=(ix h.Mons m mZ).Guests:=by
 unfold zcW;cases (cond (ine w 6) (ieq (zh4 (ix h.Mons m mZ).Traps x.Ctl.Traps (zdL w)) 2) false) with
 | false=>exact ⟨SimT.refl S m,rfl⟩
 | true=>exact ⟨z3d S hm,z8E h m hm⟩
theorem z3e {h:Host}(S:Safe h){m:Int}(hm:hasB m (ln h.Mons)=true)(x:Guest)(w:Int):SimT h (zfs h m x w) m (fun b=>bif (cond (zfg x.Ctl.Traps w) (ieq w 5) false) then ziy b (zbW x.Prog x.Pc).X else b)/\(ix (zfs h m x w).Mons m mZ).Guests=(ix h.Mons m mZ).Guests:=by
 unfold zfs;cases (cond (zfg x.Ctl.Traps w) (ieq w 5) false) with
 | false=>exact ⟨SimT.refl S m,rfl⟩
 | true=>exact ⟨z0O S hm _,z4S h m _ hm⟩
theorem zDU {h:Host}(S:Safe h){m g:Int}(hm:hasB m (ln h.Mons)=true)(hg:hasB g (ln (ix h.Mons m mZ).Guests)=true){w:Int}(hw:zC (gOf h m g)=w) :
 SimT h (zhV h m g (gOf h m g) w) m (fun b=>zp7 b g (gOf h m g) w):=by
 have X:=S.ok.seenG hm hg;obtain ⟨k0,e0⟩:=z3f S hm (gOf h m g) w;have hm0:hasB m (ln (zcW h m (gOf h m g) w).Mons)=true:=by rw[k0.has];exact hm
 obtain ⟨k1,e1⟩:=z3e k0.safe hm0 (gOf h m g) w;have hm1:hasB m (ln (zfs (zcW h m (gOf h m g) w) m (gOf h m g) w).Mons)=true:=by rw[k1.has];exact hm0
 have hg1:hasB g (ln (ix (zfs (zcW h m (gOf h m g) w) m (gOf h m g) w).Mons m mZ).Guests)=true:=by rw[e1,e0];exact hg
 have kk:GKeep (gOf (zfs (zcW h m (gOf h m g) w) m (gOf h m g) w) m g) (zeP (gOf h m g) (gOf h m g).Ctl.Traps w):=by
  rw[z4z (e1.trans e0)];exact z4A X _ hw
 exact ((k0.trans k1).trans (zp5 k1.safe hm1 hg1 kk)).congr rfl
theorem z00 (x:Guest):zC x=0\/zC x=1\/zC x=2\/zC x=3\/zC x=4\/zC x=5\/zC x=6\/zC x=7:=by
 unfold zC zro;cases canRun x<;>cases zfL x<;>cases ieq (zbW x.Prog x.Pc).Op 3<;>cases ieq (zbW x.Prog x.Pc).Op 4<;>cases ieq (zbW x.Prog x.Pc).Op 5<;>cases ieq (zbW x.Prog x.Pc).Op 6<;>cases ieq (zbW x.Prog x.Pc).Op 7<;>simp
theorem zTk {h:Host}(H:HOk h)(m g:Int):zgf (zy h m) g=bif zbE h m g then !ieq (zC (gOf h m g)) 0 else false:=by
 unfold zgf zbE;rw[zim.2 H,cond_true];cases hm:hasB m (ln h.Mons) with
 | false =>
  have:(zy h m).Guests=[]:=by unfold zy;rw[hm];rfl
  rw[this,zYz];rfl
 | true =>
  rw[cond_true,zyg H hm,cond_true];have:(zy h m).Guests=(ix h.Mons m mZ).Guests:=by rw[zeW hm]
  rw[this];cases hg:hasB g (ln (ix h.Mons m mZ).Guests) with
  | false=>rfl
  | true=>rw[cond_true,cond_true,ztC hm hg]
theorem step_ok {h:Host}(S:Safe h)(m g:Int):SimT h (zS h m g).1 m (fun b=>zei b g)/\(zS h m g).2=zgf (zy h m) g:=by
 have hc:=zTk S.ok m g;unfold zS;cases hh:zbE h m g with
 | false =>
  rw[hh,cond_false]at hc;refine ⟨(SimT.refl S m).congr ?_,hc.symm⟩;unfold zei;rw[hc];rfl
 | true =>
  rw[hh,cond_true]at hc;rw[cond_true];obtain ⟨_,hm,hg⟩:=zjq.1 hh;have X:=S.ok.seenG hm hg;have hgs:=ztC hm hg;have hf:∀w,zC (gOf h m g)=w->w≠0->zei (zy h m) g=stepped (zy h m) g (gOf h m g) w:=by
   intro w hw h0;unfold zei;rw[hc,hw,zbO.2 h0,hgs,hw];rfl
  rcases z00 (gOf h m g) with e|e|e|e|e|e|e|e
  .rw [e];rw[e]at hc;refine ⟨(SimT.refl S m).congr ?_,hc.symm⟩;unfold zei;rw[hc];rfl
  .rw [e]at hc ⊢;exact ⟨(zp5 S hm hg (zM7 X)).congr (hf 1 e (by decide)).symm,hc.symm⟩
  .rw [e]at hc ⊢;exact ⟨(zp5 S hm hg (zZR X)).congr (hf 2 e (by decide)).symm,hc.symm⟩
  .rw [e]at hc ⊢;exact ⟨(zV3 S hm hg false e).congr (hf 3 e (by decide)).symm,hc.symm⟩
  .rw [e]at hc ⊢;exact ⟨(zV3 S hm hg true e).congr (hf 4 e (by decide)).symm,hc.symm⟩
  .rw [e]at hc ⊢;exact ⟨(zDU S hm hg e).congr (hf 5 e (by decide)).symm,hc.symm⟩
  .rw [e]at hc ⊢;exact ⟨(zDU S hm hg e).congr (hf 6 e (by decide)).symm,hc.symm⟩
  .rw [e]at hc ⊢;exact ⟨(zDU S hm hg e).congr (hf 7 e (by decide)).symm,hc.symm⟩
structure BackOk (b c:Bare):Prop where
 m:c.Memory=b.Memory
 o:c.Outs=b.Outs
 n:c.Guests.length=b.Guests.length
 g:∀j,hasB j (ln b.Guests)=true->GKeep (ix b.Guests j gZ) (ix c.Guests j gZ)
 p:zcR b.Pending=true->zcR c.Pending=true
theorem z5n {h:Host}(S:Safe h){m:Int}(hm:hasB m (ln h.Mons)=true){c:Bare}(k:BackOk (zy h m) c):SimT h (zcZ h m c) m (fun _=>c):=by
 have X:=S.ok.mon hm;have hf:=zeW hm;have hG:(zy h m).Guests=(ix h.Mons m mZ).Guests:=by rw[hf]
 have hn:c.Guests.length=(ix h.Mons m mZ).Guests.length:=by rw[k.n,hG]
 have hg:∀j,hasB j (ln (ix h.Mons m mZ).Guests)=true->GKeep (ix (ix h.Mons m mZ).Guests j gZ) (ix c.Guests j gZ):=fun j hj=>by
  have:=k.g j (by rw[hG];exact hj)
  rwa [hG] at this
 have kp:KeepP (ix h.Mons m mZ) (zuU (ix h.Mons m mZ) c):=⟨rfl,rfl⟩;have hp:zcR c.Pending=true:=k.p (by rw[hf];exact X.pend)
 refine ⟨zv3 S hm kp (zkB X kp hn rfl rfl X.outs hp X.tr X.own fun z hz=>?_) hn (fun j hj=>(hg j hj).live) rfl,fun i=>?_,zbB _ _ _⟩
 .obtain ⟨j,hj,rfl⟩:=zVe hz gZ;exact zta.2 (hg j (by unfold ln at hj ⊢;rw[<- hn];exact hj)).ok
 .refine (zuy (h:=h) (r:=zcZ h m c) hm rfl rfl kp i).trans ?_
  by_cases e:i=m
  .subst e;rw[zbi.2 rfl,cond_true,cond_true]
   show Bare.mk (zy h i).Memory c.Guests (ix h.Mons i mZ).Outs c.Pending=c
   have h1:=k.m;have h2:=k.o;rw[hf]at h2;cases c
   simp_all
  .rw [zbO.2 e];rfl
theorem seen_none {h:Host}{m:Int}(hm:hasB m (ln h.Mons)=false):zy h m=⟨[],[],[],0⟩:=by unfold zy;rw[hm];rfl
theorem zti:zbC ⟨[],[],[],0⟩=false:=by decide
theorem ztr {b:Bare}(h:zbC b=false)(g:Int):zb1 b g=false:=by unfold zb1;rw[h];rfl
theorem zhE {b:Bare}(h:zbC b=true):BackOk b b:=⟨rfl,rfl,rfl,fun j hj=>⟨zta.1 (by
 unfold zbC at h;rw[zb0,qM]at h;exact h.1 _ (zlp hj _)),rfl⟩,id⟩
theorem z1a {b:Bare}(h:zbC b=true){g:Int}(hg:hasB g (ln b.Guests)=true){y:Guest}(k:GKeep (gAt b g) y):BackOk b (zdB b g y):=by
 have e:gAt b g=ix b.Guests g gZ:=by unfold gAt;rw[hg];rfl
 refine ⟨rfl,rfl,zbB _ _ _,fun j hj=>?_,id⟩
 show GKeep _ (ix (up b.Guests g y) j gZ)
 by_cases hc:g=j
 .subst hc;rw[zX hg,<- e];exact k
 .rw [zbm (zB.1 hg).1 (zB.1 hj).1 hc];exact (zhE h).g j hj
theorem zq6 {b:Bare}(h:zbC b=true){g:Int}{c:Bool}{y:Guest}(k:hasB g (ln b.Guests)=true->c=true->GOk (gAt b g)->GKeep (gAt b g) y):BackOk b (chg b g c y):=by
 unfold chg zb1;rw[h,cond_true];cases hg:hasB g (ln b.Guests) with
 | false=>exact zhE h
 | true =>
  rw[cond_true];cases c with
  | false=>exact zhE h
  | true =>
   refine z1a h hg (k hg rfl ?_);have:=(zhE h).g g hg;unfold gAt;rw[hg];exact this.ok
theorem zpK {h:Host}(S:Safe h)(m:Int){F:Bare->Bare}(hF:∀b,zbC b=true->BackOk b (F b))(h0:F ⟨[],[],[],0⟩=⟨[],[],[],0⟩):SimT h (zeB h m (F (zy h m))) m F:=by
 unfold zeB zcw;rw[zim.2 S.ok,cond_true];cases hm:hasB m (ln h.Mons) with
 | false =>
  refine (SimT.refl S m).congr ?_;rw[seen_none hm];exact h0.symm
 | true=>exact (z5n S hm (hF _ (zyg S.ok hm))).congr rfl
theorem zkI {h:Host}(S:Safe h)(m:Int){t:Bare->Bool}(h0:t ⟨[],[],[],0⟩=false):zdX h m (t (zy h m))=t (zy h m):=by
 unfold zdX zcw;rw[zim.2 S.ok,cond_true];cases hm:hasB m (ln h.Mons) with
 | false=>rw[cond_false,seen_none hm,h0]
 | true=>rfl
theorem zpo (g:Int)(c:Bool)(y:Guest):chg ⟨[],[],[],0⟩ g c y=⟨[],[],[],0⟩:=by unfold chg;rw[ztr zti];rfl
theorem ziY (g:Int)(c:Bool):zbU ⟨[],[],[],0⟩ g c=false:=by unfold zbU;rw[ztr zti];rfl
theorem zV5 {t:List Slot}{n q:Int}(h:zcF t n q=true){p:Int}{s:Slot}(hs:zdC s q=true):zcF (zd5 t p s) n q=true:=by
 unfold zd5;cases hasB p (ln t) with
 | false=>exact h
 | true =>
  rw[cond_true];rw[zq2]at h ⊢;rw[zc5];refine ⟨fun x hx=>?_,h.2⟩;rcases qZ hx with h1|h1
  .exact h.1 x h1
  .rw [h1];exact hs
theorem z8l {x:Guest}(X:GOk x){p:Int}{s:Slot}(h:zsh p s=true):GKeep x (zzw x p s):=by
 unfold zsh at h;rw[zb0]at h;exact ⟨⟨X.prog,X.a,X.pc,zV5 X.w h.2,X.l,X.ctl,X.pend,X.ex,X.seen⟩,rfl⟩
theorem z8i {x:Guest}(X:GOk x){v:Int}(h:zrN x v=true):GKeep x (zwc x v):=by
 unfold zrN at h;rw[zb0]at h;unfold zwc;cases ieq x.Exit.Kind 2 with
 | true =>
  rw[cond_true];have h1:=zi1 (zZP X h.1) (e:=zkD) rfl;have h2:=zi0 h1.ok;exact ⟨h2.ok,h2.live⟩
 | false =>
  rw[cond_false];have h1:=zi1 X (e:=zkD) rfl;have h2:=zi0 h1.ok;exact ⟨h2.ok,h2.live.trans h1.live⟩
theorem z8k {x:Guest}(X:GOk x):GKeep x (zww x):=by
 unfold zww;have h1:=zi1 X (e:=zkD) rfl;cases ieq x.Exit.Kind 1 with
 | true=>exact h1
 | false =>
  have h2:=zYr h1.ok;exact ⟨h2.ok,h2.live.trans h1.live⟩
theorem zYs {x:Guest}(X:GOk x)(n:Int):GKeep x (znb x n):=zYt X (zQK X.pend n)
theorem z8j {x:Guest}(X:GOk x){c:Ctl}(h:zhm c=true):GKeep x (zHj x c):=⟨⟨X.prog,X.a,X.pc,X.w,X.l,h,X.pend,X.ex,X.seen⟩,rfl⟩
theorem zBS (n:Int):∀(ks:List Int) (b:Bare) (l:List Guest),(∀k∈ks,hasB k (ln b.Guests)=true)->BackOk b { b with Guests:=l }->BackOk b { b with Guests:=zlx n ks l }
 | [],b,l,_,h=>h
 | k :: ks,b,l,hk,h=>by
  show BackOk b { b with Guests:=zlx n ks (zEu n l k) }
  refine zBS n ks b _ (fun j hj=>hk j (qY _ hj)) ⟨h.m,h.o,by show (up l k _).length=_;rw[zbB];exact h.n,fun j hj=>?_,h.p⟩
  show GKeep _ (ix (up l k _) j gZ)
  have hl:l.length=b.Guests.length:=h.n;have hkl:hasB k (ln l)=true:=by unfold ln;rw[hl];exact hk k jO
  by_cases e:k=j
  .subst e;rw[zX hkl];have h1:=h.g k hj;have h2:=zYs h1.ok n;exact ⟨h2.ok,h2.live.trans h1.live⟩
  .rw [zbm (zB.1 hkl).1 (zB.1 hj).1 e];exact h.g j hj
theorem zZf {b:Bare}(h:zbC b=true)(n:Int):BackOk b (zjd b n):=by
 unfold zjd zeM zEv;rw[h,cond_true];cases hasB n 8 with
 | false=>exact zhE h
 | true =>
  rw[cond_true];cases ieq (ln (zd1 b.Guests n)) 0 with
  | true =>
   have:=zhE h;exact ⟨rfl,rfl,rfl,this.g,fun hp=>zQK hp n⟩
  | false =>
   rw[cond_false];refine zBS n _ b b.Guests (fun k hk=>?_) (zhE h);unfold zd1 at hk;obtain ⟨j,hj,rfl,_⟩:=(zIl (d:=gZ)).1 hk;exact zB.2 ⟨by omega,by unfold ln;omega⟩
theorem z09 {b:Bare}(h:zbC b=true):BackOk b (zlW b):=by
 unfold zlW;rw[h,cond_true];exact ⟨rfl,rfl,rfl,(zhE h).g,fun hp=>zQL hp⟩
theorem z5c {h:Host}(S:Safe h)(m p c v:Int):SimT h (zm3 h m p c v) m (fun b=>zSP b p c v)/\ze0 h m p c v=zxx (zy h m) p c v:=by
 have e:ze0 h m p c v=zxx (zy h m) p c v:=by
  unfold ze0 zxx zci z7h;rw[zim.2 S.ok,cond_true];cases hm:hasB m (ln h.Mons) with
  | false=>rw[seen_none hm,zti];rfl
  | true=>rw[zyg S.ok hm,cond_true];rfl
 refine ⟨?_,e⟩;unfold zm3;cases hc:ze0 h m p c v with
 | false =>
  refine (SimT.refl S m).congr ?_;unfold zSP;rw[<- e,hc];rfl
 | true =>
  rw[cond_true];have hc':=hc;unfold ze0 at hc';rw[zb0,zb0]at hc';obtain ⟨h1,_,_⟩:=hc';obtain ⟨_,hm,hp⟩:=zoz.1 h1;have M:=zQE S.ok (m:=m) (p:=p) 2 hm hp;have k0:=M.op.sim S m;have hm1:hasB m (ln (mended h m p 2).Mons)=true:=by rw[k0.has];exact hm
  obtain ⟨k1,_⟩:=zv4 k0.safe hm1 hp rfl M.inn c v;refine (k0.trans k1).congr ?_;unfold zSP;rw[<- e,hc];rfl
theorem z2t {h:Host}(S:Safe h)(m g page need:Int):zbJ h m g page need=(cond (zb1 (zy h m) g) (cond (zfw need) (zdU (gAt (zy h m) g).Live page need) false) false):=by
 have e:zbE h m g=zb1 (zy h m) g:=by
  unfold zbE zb1;rw[zim.2 S.ok,cond_true];cases hm:hasB m (ln h.Mons) with
  | false=>rw[seen_none hm,zti,cond_false,cond_false]
  | true =>
   rw[cond_true,zyg S.ok hm,cond_true];have:(zy h m).Guests=(ix h.Mons m mZ).Guests:=by rw[zeW hm]
   rw[this]
 unfold zbJ;rw[<- e];cases hg:zbE h m g with
 | false=>rw[cond_false,cond_false]
 | true =>
  obtain ⟨_,hm,hg⟩:=zjq.1 hg;have:(gAt (zy h m) g).Live=zb8 h m g:=by rw[ztC hm hg];rfl
  rw[this]
theorem zHx {h:Host}(S:Safe h)(m g a n:Int)(hn:n=1\/n=2):zn5 (zy h m) g a n=bif win a 0 15 then zbJ h m g (zW a) n else false:=by
 rw[z2t S];unfold zn5;rw[zGr.2 hn,cond_true];cases zb1 (zy h m) g<;>cases win a 0 15<;>rfl
theorem zTD {h:Host}(S:Safe h){m g a n:Int}(hn:n=1\/n=2)(hd:zn5 (zy h m) g a n=true) :
 Looked h (zCu h m g a n).1 m g (zW a) n (zEe (zy h m) g a n) (zCu h m g a n).2.1/\hasB m (ln h.Mons)=true/\hasB (zEe (zy h m) g a n) 8=true:=by
 rw[zHx S m g a n hn,zb0]at hd;obtain ⟨L,_⟩:=zCB S true hd.2 S.rt.e2;obtain ⟨h1,_,hw⟩:=zqr.1 hd.2;obtain ⟨_,hm,hg⟩:=zjq.1 h1;have e:zEe (zy h m) g a n=zbY (zb8 h m g) (zW a) n:=by
  unfold zEe;rw[ztC hm hg];rfl
 rw[e];exact ⟨L,hm,(walked (S.ok.guest hm hg) hw).q8⟩
theorem z9z {h:Host}(S:Safe h)(m g a v:Int):SimT h (zpu h m g a v) m (fun b=>zZD b g a v)/\zgG h m g a v=zyy (zy h m) g a v:=by
 have e:zgG h m g a v=zyy (zy h m) g a v:=by
  unfold zgG zyy;rw[zHx S m g a 2 (.inr rfl)];cases win a 0 15<;>cases win v 0 99<;>cases zbJ h m g (zW a) 2<;>rfl
 refine ⟨?_,e⟩;unfold zpu;cases hc:zgG h m g a v with
 | false =>
  refine (SimT.refl S m).congr ?_;unfold zZD;rw[<- e,hc];rfl
 | true =>
  rw[cond_true];have hd:zn5 (zy h m) g a 2=true:=by
   have:=e.symm.trans hc;unfold zyy at this;exact (zb0.1 this).1
  obtain ⟨L,hm,hq⟩:=zTD S (.inr rfl) hd;have k0:=L.op.sim S m;obtain ⟨k1,_⟩:=zv4 k0.safe (by rw[k0.has];exact hm) hq L.inn L.ne (zcG a) v
  refine (k0.trans k1).congr ?_;unfold zZD;rw[<- e,hc];rfl
theorem z8G {h:Host}(S:Safe h)(m g a:Int):SimT h (zm4 h m g a) m id/\zfM h m g a=zn5 (zy h m) g a 1/\zrj h m g a=zST (zy h m) g a:=by
 have e:zfM h m g a=zn5 (zy h m) g a 1:=by
  unfold zfM;rw[zHx S m g a 1 (.inl rfl)]
 unfold zm4 zrj zST;rw[e];cases hd:zn5 (zy h m) g a 1 with
 | false=>exact ⟨SimT.refl S m,rfl,rfl⟩
 | true =>
  obtain ⟨L,hm,hq⟩:=zTD S (.inl rfl) hd;have k0:=L.op.sim S m;obtain ⟨_,k2⟩:=zv4 k0.safe (by rw[k0.has];exact hm) hq L.inn L.ne (zcG a) 0
  rw[L.op.like.seen m] at k2;exact ⟨k0,rfl,k2⟩
theorem z2e {k:Kept}{inner outer:List Slot}(h:KOk k inner outer)(p:Int)(s:Slot):KOk (zbK k p) (zd5 inner p s) outer:=by
 have hl:=zkm k p;have hw:(zd5 inner p s).length=inner.length:=by unfold zd5;cases hasB p (ln inner)<;>simp [zbB]
 refine ⟨by rw[hl.1,hw,h.l1],by rw[hl.2,hw,h.l2],fun i hi=>?_⟩
 have hi1:hasB i (ln inner)=true:=by unfold ln at hi ⊢;rwa [<- hw]
 have hi':hasB i (ln k.Known)=true:=by unfold ln at hi1 ⊢;rwa [h.l1]
 have ha:=zwi (q:=p) (by rw[h.l1,h.l2]) hi'
 rw[ha.1,ha.2]
 by_cases e:p=i
 .subst e;rw[zbi.2 rfl];rfl
 .rw [zbO.2 e,cond_false,cond_false,h.at' i hi1];have:ix (zd5 inner p s) i sZ=ix inner i sZ:=by
   unfold zd5;cases hp:hasB p (ln inner) with
   | false=>rfl
   | true=>exact zbm (zB.1 hp).1 (zB.1 hi1).1 e _ _
  rw[this]
theorem z9V {t m g:Int}(h1:zdm t=m)(h2:zd4 t=g)(hm:0<=m):t=zdF m g:=by
 subst h1;subst h2
 by_cases h:1<=t/\t<=6
 .have e:t=1\/t=2\/t=3\/t=4\/t=5\/t=6:=by omega
  rcases e with rfl|rfl|rfl|rfl|rfl|rfl<;>decide
 .exfalso;have:zdm t = -1:=by
   unfold zdm ige ile;rw[show (decide (t≥1)&&decide (t<=6))=false by simp;omega];rfl
  omega
theorem zXY {t:List Slot}{p q:Int}{s:Slot}(h:q≠p):zbk (zd5 t p s) q=zbk t q:=by
 unfold zd5;cases hp:hasB p (ln t) with
 | false=>rfl
 | true=>exact zQX (zB.1 hp).1 h
theorem z5o {t:List Slot}(h:zcF t 4 8=true)(p:Int):zdC (zbk t p) 8=true:=by
 unfold zbk;cases hp:hasB p (ln t) with
 | false=>rfl
 | true=>exact (zq2.1 h).1 _ (zlp hp _)
theorem z1Z {x:Guest}(X:GOk x)(p:Int):GOk (zdK x p):=⟨X.prog,X.a,X.pc,X.w,zV5 X.l (z5o X.w p),X.ctl,X.pend,X.ex,X.seen⟩
theorem z4x {h:Host}(S:Safe h)(m g p:Int):SimT h (zko h m g p) m (fun b=>chg b g (hasB p 4) (zdK (gAt b g) p))/\zdX h m (zbU (zy h m) g (hasB p 4))=zbU (zy h m) g (hasB p 4):=by
 refine ⟨?_,zkI S m (t:=fun b=>zbU b g (hasB p 4)) (ziY g _)⟩;unfold zko zcw;rw[zim.2 S.ok,cond_true];cases hm:hasB m (ln h.Mons) with
 | false =>
  refine (SimT.refl S m).congr ?_;rw[seen_none hm,zpo];rfl
 | true =>
  rw[cond_true];cases hc:zbU (zy h m) g (hasB p 4) with
  | false =>
   refine (SimT.refl S m).congr ?_
   show zy h m=chg (zy h m) g (hasB p 4) (zdK (gAt (zy h m) g) p)
   have hc':=hc;unfold zbU at hc';unfold chg;rw[hc'];rfl
  | true =>
   rw[cond_true];have hc':=hc;unfold zbU zb1 at hc';rw[zyg S.ok hm,cond_true,zb0,zeW hm]at hc';have hg:hasB g (ln (ix h.Mons m mZ).Guests)=true:=hc'.1;have X:=S.ok.mon hm;have G:=S.ok.seenG hm hg;have e1:chg (zy h m) g (hasB p 4) (zdK (gAt (zy h m) g) p)=zdB (zy h m) g (zdK (gOf h m g) p):=by
    have h1:=hc;unfold zbU at h1;unfold chg;rw[h1,ztC hm hg];rfl
   rw[e1];have htg:hasB g (ln (ix h.Mons m mZ).Tables)=true:=by unfold ln;rw[X.gt];exact hg
   have hM:(zB5 (zcZ h m (zdB (zy h m) g (zdK (gOf h m g) p))) m g p).Mons=up h.Mons m { ix h.Mons m mZ with Guests:=up (ix h.Mons m mZ).Guests g (zdK (gOf h m g) p),Tables:=up (ix h.Mons m mZ).Tables g (zbK (ix (ix h.Mons m mZ).Tables g kZ) p) }:=by
    show up (up h.Mons m _) m _=_
    rw[z3t];have e2:ix (zcZ h m (zdB (zy h m) g (zdK (gOf h m g) p))).Mons m mZ=zuU (ix h.Mons m mZ) (zdB (zy h m) g (zdK (gOf h m g) p)):=zX hm _ _;rw[e2];unfold zuU zdB;rw[zeW hm]
   have kp:KeepP (ix h.Mons m mZ) { ix h.Mons m mZ with Guests:=up (ix h.Mons m mZ).Guests g (zdK (gOf h m g) p),Tables:=up (ix h.Mons m mZ).Tables g (zbK (ix (ix h.Mons m mZ).Tables g kZ) p) }:=⟨rfl,rfl⟩;have hy:MOk { ix h.Mons m mZ with Guests:=up (ix h.Mons m mZ).Guests g (zdK (gOf h m g) p),Tables:=up (ix h.Mons m mZ).Tables g (zbK (ix (ix h.Mons m mZ).Tables g kZ) p) }:=zkB X kp (zbB _ _ _) (zbB _ _ _) rfl X.outs X.pend X.tr X.own fun z hz=>by
    rcases qZ hz with h|h
    .exact X.gs z h
    .rw [h];exact zta.2 (z1Z G p)
   have hH:HOk (zB5 (zcZ h m (zdB (zy h m) g (zdK (gOf h m g) p))) m g p):=S.ok.up hm hy hM S.ok.m12 S.ok.pgs (zyq S.ok.b1 _) (zyq S.ok.b2 _) fun q _=>.inl (qV _);have key:∀b:List Entry,(∀e∈b,zcA h e=true)->∀e∈zcr b (zdF m g) p,zcA (zB5 (zcZ h m (zdB (zy h m) g (zdK (gOf h m g) p))) m g p) e=true:=by
    intro b hb e he;obtain ⟨he1,he2⟩:=zyA.1 he;obtain ⟨h1,h2,h3⟩:=zfm.1 (hb e he1);rw[zfm,hM,zc5];refine ⟨h1,?_⟩
    by_cases hcm:m=zdm e.Tag
    .rw [<- hcm]at h1 h2 h3 ⊢;rw[zX hm]
     show hasB (zd4 e.Tag) (ln (up _ _ _))=true/\below' _ (zbh (zbk (ix (up (ix h.Mons m mZ).Guests g _) (zd4 e.Tag) gZ).Live e.Page) (ix h.Mons m mZ).Outer)=true
     rw[zc5];refine ⟨h2,?_⟩
     by_cases hcg:g=zd4 e.Tag
     .rw [<- hcg]at h2 h3 ⊢;rw[zX hg];have hne:e.Page≠p:=fun hp=>he2 ⟨z9V hcm.symm hcg.symm (zB.1 hm).1,hp⟩
      show below' _ (zbh (zbk (zd5 (gOf h m g).Live p _) e.Page) _)=true
      rw[zXY hne];exact h3
     .rw [zbm (zB.1 hg).1 (zB.1 h2).1 hcg];exact h3
    .rw [zbm (zB.1 hm).1 (zB.1 h1).1 hcm];exact ⟨h2,h3⟩
   refine ⟨⟨hH,⟨fun i hi=>?_,key _ S.rt.e1,key _ S.rt.e2⟩⟩,fun i=>?_,by rw[hM,zbB]⟩
   .rw [hM]at hi ⊢;rw[zc5]at hi
    by_cases hcm:m=i
    .subst hcm;rw[zX hm];intro j hj
     show KOk (ix (up (ix h.Mons m mZ).Tables g _) j kZ) (ix (up (ix h.Mons m mZ).Guests g _) j gZ).Live (ix h.Mons m mZ).Outer
     have hj':hasB j (ln (ix h.Mons m mZ).Guests)=true:=by
      have:hasB j (ln (up (ix h.Mons m mZ).Guests g (zdK (gOf h m g) p)))=true:=hj
      rwa [zc5] at this
     by_cases e:g=j
     .subst e;rw[zX htg,zX hg];exact z2e (S.rt.t m hm g hg) p _
     .rw [zbm (zB.1 hg).1 (zB.1 hj').1 e,zbm (zB.1 hg).1 (zB.1 hj').1 e];exact S.rt.t m hm j hj'
    .rw [zbm (zB.1 hm).1 (zB.1 hi).1 hcm];exact S.rt.t i hi
   .refine (zuy (h:=h) hm hM rfl kp i).trans ?_
    by_cases e:i=m
    .subst e;rw[zbi.2 rfl,cond_true,cond_true,e1,zeW hm];rfl
    .rw [zbO.2 e];rfl
theorem zQ7 (g:Int):zei ⟨[],[],[],0⟩ g=⟨[],[],[],0⟩/\zgf ⟨[],[],[],0⟩ g=false:=by
 have:zgf ⟨[],[],[],0⟩ g=false:=by unfold zgf;rw[zYz];rfl
 refine ⟨?_,this⟩;unfold zei;rw[this];rfl
theorem z4C {h:Host}(S:Safe h)(a:GAct):SimT h (ztT h a) a.M (fun b=>zJ3 b a)/\zCs h a=zJ4 (zy h a.M) a:=by
 have hn:=zti;unfold ztT zCs zJ3 zJ4;cases ieq a.Kind 1 with
 | true =>
  obtain ⟨k,e⟩:=step_ok S a.M a.G;exact ⟨k,by rw[cond_true,cond_true,e]⟩
 | false =>
  simp only[cond_false];cases ieq a.Kind 2 with
  | true =>
   exact ⟨zpK S a.M (F:=fun b=>chg b a.G (zsh a.X ⟨a.Y,a.Z⟩) (zzw (gAt b a.G) a.X ⟨a.Y,a.Z⟩)) (fun b hb=>zq6 hb fun _ hc G=>z8l G hc) (zpo _ _ _),
    congrArg (fun t=>Told.mk t 0) (zkI S a.M (t:=fun b=>zbU b a.G (zsh a.X ⟨a.Y,a.Z⟩)) (ziY _ _))⟩
  | false =>
   simp only[cond_false];cases ieq a.Kind 3 with
   | true =>
    obtain ⟨k,e⟩:=z4x S a.M a.G a.X;exact ⟨k,congrArg (fun t=>Told.mk t 0) e⟩
   | false =>
    simp only[cond_false];cases ieq a.Kind 4 with
    | true =>
     exact ⟨zpK S a.M (F:=fun b=>chg b a.G (zrN (gAt b a.G) a.X) (zwc (gAt b a.G) a.X)) (fun b hb=>zq6 hb fun _ hc G=>z8i G hc) (zpo _ _ _),
      congrArg (fun t=>Told.mk t 0) (zkI S a.M (t:=fun b=>zbU b a.G (zrN (gAt b a.G) a.X)) (ziY _ _))⟩
    | false =>
     simp only[cond_false];cases ieq a.Kind 5 with
     | true =>
      exact ⟨zpK S a.M (F:=fun b=>chg b a.G (zwv (gAt b a.G)) (zww (gAt b a.G))) (fun b hb=>zq6 hb fun _ _ G=>z8k G) (zpo _ _ _),
       congrArg (fun t=>Told.mk t 0) (zkI S a.M (t:=fun b=>zbU b a.G (zwv (gAt b a.G))) (ziY _ _))⟩
     | false =>
      simp only[cond_false];cases ieq a.Kind 6 with
      | true =>
       exact ⟨zpK S a.M (F:=fun b=>chg b a.G (zgb (gAt b a.G).Pending a.X) (znb (gAt b a.G) a.X)) (fun b hb=>zq6 hb fun _ _ G=>zYs G _) (zpo _ _ _),
        congrArg (fun t=>Told.mk t 0) (zkI S a.M (t:=fun b=>zbU b a.G (zgb (gAt b a.G).Pending a.X)) (ziY _ _))⟩
      | false =>
       simp only[cond_false];cases ieq a.Kind 7 with
       | true =>
        exact ⟨zpK S a.M (F:=fun b=>chg b a.G (zhm ⟨a.X,a.Y,ieq a.Z 1⟩) (zHj (gAt b a.G) ⟨a.X,a.Y,ieq a.Z 1⟩)) (fun b hb=>zq6 hb fun _ hc G=>z8j G hc) (zpo _ _ _),
         congrArg (fun t=>Told.mk t 0) (zkI S a.M (t:=fun b=>zbU b a.G (zhm ⟨a.X,a.Y,ieq a.Z 1⟩)) (ziY _ _))⟩
       | false =>
        simp only[cond_false];cases ieq a.Kind 8 with
        | true =>
         obtain ⟨k,e⟩:=z5c S a.M a.X a.Y a.Z;exact ⟨k,congrArg (fun t=>Told.mk t 0) e⟩
        | false =>
         simp only[cond_false];cases ieq a.Kind 9 with
         | true =>
          exact ⟨zpK S a.M (F:=fun b=>zjd b a.X) (fun b hb=>zZf hb _) (by unfold zjd zeM;rw[hn];rfl),
           congrArg (fun t=>Told.mk t 0) (zkI S a.M (t:=fun b=>zeM b a.X) (by unfold zeM;rw[hn];rfl))⟩
         | false =>
          simp only[cond_false];cases ieq a.Kind 10 with
          | true =>
           refine ⟨zpK S a.M (F:=zlW) (fun b hb=>z09 hb) (by unfold zlW;rw[hn];rfl),?_⟩
           have e:=zkI S a.M (t:=zk9) (by unfold zk9;rw[hn];rfl)
           show Told.mk (zdX h a.M (zk9 (zy h a.M))) (cond (zcw h a.M) (zrM (zy h a.M)) (-1))=⟨zk9 (zy h a.M),zrM (zy h a.M)⟩
           rw[e]
           congr 1
           unfold zcw;rw[zim.2 S.ok,cond_true];cases hm:hasB a.M (ln h.Mons) with
           | true=>rfl
           | false=>rw[seen_none hm];unfold zrM;rw[hn];rfl
          | false =>
           simp only[cond_false];cases ieq a.Kind 11 with
           | true =>
            obtain ⟨k,e⟩:=z9z S a.M a.G a.X a.Y;exact ⟨k,congrArg (fun t=>Told.mk t 0) e⟩
           | false =>
            obtain ⟨k,e1,e2⟩:=z8G S a.M a.G a.X;exact ⟨k,by simp only[cond_false];rw[e1,e2]⟩
theorem z4T {h:Host}(S:Safe h)(a:GAct):Safe (zmu h a)/\(∀i,zy (zmu h a) i=zy h i)/\(zmu h a).Mons.length=h.Mons.length:=by
 unfold zmu;have k:∀r,Op h r->Safe r/\(∀i,zy r i=zy h i)/\r.Mons.length=h.Mons.length:=fun r k=>⟨k.safe S,fun i=>k.like.seen i,k.like.len⟩;cases ieq a.Kind 13 with
 | true=>exact k _ (z0h S.ok _ _)
 | false =>
  simp only[cond_false];cases ieq a.Kind 14 with
  | true=>exact k _ (z2G S.ok _ _)
  | false =>
   simp only[cond_false];cases ieq a.Kind 15 with
   | true=>exact k _ (z2F S.ok _ _)
   | false =>
    simp only[cond_false];cases ieq a.Kind 16 with
    | true =>
     obtain ⟨h1,h2⟩:=zsf S a.M a.X;refine ⟨h1,h2,?_⟩;simp only[cond_true];unfold zbn;cases zbQ h<;>cases hasB a.M (ln h.Mons)<;>cases win a.X 0 3<;>first|rfl|exact zbB _ _ _
    | false=>exact k _ (z8C S.ok)
def zj8 (a:GAct):Bool:=bif win a.Kind 1 17 then !win a.Kind 13 17 else false
theorem z04 {h:Host}(S:Safe h)(a:GAct):Safe (zeo h a)/\(zeo h a).Mons.length=h.Mons.length /\
 (∀i,zy (zeo h a) i=bif (cond (zj8 a) (ieq i a.M) false) then zJ3 (zy h i) a else zy h i)/\(zj8 a=true->zi2 h a=zJ4 (zy h a.M) a):=by
 unfold zeo zi2 zj8;cases win a.Kind 1 17 with
 | false=>exact ⟨S,rfl,fun _=>rfl,fun e=>by cases e⟩
 | true =>
  simp only[cond_true];cases win a.Kind 13 17 with
  | true =>
   obtain ⟨h1,h2,h3⟩:=z4T S a;exact ⟨h1,h3,fun i=>by simp only[cond_true,kB,cond_false];exact h2 i,fun e=>by cases e⟩
  | false =>
   obtain ⟨k,e⟩:=z4C S a;exact ⟨k.safe,k.len,fun i=>by simp only[cond_false,kM,cond_true];exact k.seen i,fun _=>e⟩
def zdx (h:Host):List Bare:=(List.range h.Mons.length).map fun (i:Nat)=>zy h (i:Int)
theorem zjH (h:Host):(zdx h).length=h.Mons.length:=by simp[zdx]
theorem zl9 (h:Host)(m:Int):hasB m (ln (zdx h))=hasB m (ln h.Mons):=by unfold ln;rw[zjH]
theorem zla {h:Host}{m:Int}(hm:hasB m (ln h.Mons)=true)(d:Bare):ix (zdx h) m d=zy h m:=by
 have hm':=zB.1 hm;unfold ln at hm';have hk:m.toNat<(zdx h).length:=by rw[zjH];omega
 have:=zmm hk d;rw[show ((m.toNat:Nat):Int)=m by omega] at this
 rw[this];simp[zdx,show max m 0=m by omega]
theorem zZb {h r:Host}(hl:r.Mons.length=h.Mons.length)(e:∀i,zy r i=zy h i):zdx r=zdx h:=by
 unfold zdx;rw[hl];exact List.map_congr_left fun i _=>e _
theorem zWH {h:Host}(S:Safe h)(a:GAct):zdx (zeo h a)=zJ5 (zdx h) a/\(zj8 a=true->zi2 h a=zZe (zdx h) a):=by
 obtain ⟨_,hl,hs,ht⟩:=z04 S a;have key:zj8 a=true->zdx (zeo h a)=(cond (hasB a.M (ln h.Mons)) (up (zdx h) a.M (zJ3 (zy h a.M) a)) (zdx h)):=by
  intro hi;rw[hi]at hs;cases hm:hasB a.M (ln h.Mons) with
  | false =>
   rw[cond_false];refine zO0 ⟨[],[],[],0⟩ (by rw[zjH,zjH,hl]) fun i hi'=>?_
   rw[zl9]at hi';rw[zla hi'];have hi2:hasB i (ln h.Mons)=true:=by unfold ln at hi' ⊢;rwa [<- hl]
   rw[zla hi2,hs i];have:ieq i a.M=false:=zbO.2 fun e=>by rw[e,hm]at hi2;cases hi2
   rw[this];rfl
  | true =>
   rw[cond_true];refine zO0 ⟨[],[],[],0⟩ (by rw[zbB,zjH,zjH,hl]) fun i hi'=>?_
   rw[zl9]at hi';rw[zla hi',hs i];have hi2:hasB i (ln h.Mons)=true:=by unfold ln at hi' ⊢;rwa [<- hl]
   by_cases e:i=a.M
   .rw [e,zbi.2 rfl,zX (by rw[zl9];exact hm)];rfl
   .rw [zbO.2 e,zbm (zB.1 hm).1 (zB.1 hi2).1 (Ne.symm e),zla hi2];rfl
 have e2:zj8 a=false->zdx (zeo h a)=zdx h:=fun hi=>zZb hl fun i=>by rw[hs i,hi];rfl
 have ke:zj8 a=true->win a.Kind 1 17=true/\win a.Kind 13 17=false:=by
  intro hi;unfold zj8 at hi;cases h1:win a.Kind 1 17<;>cases h2:win a.Kind 13 17<;>rw [h1,h2]at hi<;>first|exact ⟨rfl,rfl⟩|cases hi
 constructor
 .unfold zJ5;cases hi:zj8 a with
  | true =>
   obtain ⟨h1,h2⟩:=ke hi;rw[h1,h2,cond_true,cond_false,zl9,key hi];cases hm:hasB a.M (ln h.Mons) with
   | true=>rw[cond_true,cond_true,zla hm]
   | false=>rfl
  | false =>
   rw[e2 hi];unfold zj8 at hi;cases h1:win a.Kind 1 17 with
   | false=>rfl
   | true =>
    cases h2:win a.Kind 13 17 with
    | true=>rfl
    | false=>rw[h1,h2]at hi;cases hi
 .intro hi;rw[ht hi];obtain ⟨h1,h2⟩:=ke hi;unfold zZe;rw[h1,h2,cond_true,cond_false,zl9];cases hm:hasB a.M (ln h.Mons) with
  | true=>rw[cond_true,zla hm]
  | false =>
   rw[cond_false,seen_none hm];have hs1:=(zQ7 a.G).2;have hn:=zti;unfold zJ4;simp only[hs1,ziY];unfold zxx zeM zk9 zrM zyy zST zn5;simp only[hn,ztr hn,cond_false];cases h10:ieq a.Kind 10 with
   | true =>
    have:a.Kind=10:=zbi.1 h10;rw[this];rfl
   | false =>
    cases ieq a.Kind 1<;>cases ieq a.Kind 2<;>cases ieq a.Kind 3<;>cases ieq a.Kind 4<;>cases ieq a.Kind 5<;>cases ieq a.Kind 6<;>cases ieq a.Kind 7<;>cases ieq a.Kind 8<;>cases ieq a.Kind 9<;>cases ieq a.Kind 11<;>rfl
def zLs:List GAct->List Told->List Told
 | a :: l,t :: ts=>bif zj8 a then t :: zLs l ts else zLs l ts
 | _,_=>[]
structure Live (u:Host×List Told) (v:List Bare×List Told):Prop where
 safe:Safe u.1
 seen:zdx u.1=v.1
def zD3:List GAct->Host->List Told
 | [],_=>[]
 | a :: l,h=>zi2 h a :: zD3 l (zeo h a)
def z3s:List GAct->List Bare->List Told
 | [],_=>[]
 | a :: l,b=>zZe b a :: z3s l (zJ5 b a)
def zuZ:List GAct->Host->Host
 | [],h=>h
 | a :: l,h=>zuZ l (zeo h a)
def z4t:List GAct->List Bare->List Bare
 | [],b=>b
 | a :: l,b=>z4t l (zJ5 b a)
theorem zYK:∀(l:List GAct) (u:Host×List Told),zCK l u=(zuZ l u.1,u.2++zD3 l u.1)
 | [],u=>by simp[zCK,zuZ,zD3]
 | a :: l,u=>by rw[zCK,zYK l];simp[zuZ,zD3,ap]
theorem z1Q:∀(l:List GAct) {h:Host},Safe h->Safe (zuZ l h)/\zdx (zuZ l h)=z4t l (zdx h)/\zLs l (zD3 l h)=zLs l (z3s l (zdx h))/\(zuZ l h).Mons.length=h.Mons.length
 | [],h,S=>⟨S,rfl,rfl,rfl⟩
 | a :: l,h,S=>by
  have h1:=z04 S a;have h2:=zWH S a;obtain ⟨e1,e2,e3,e4⟩:=z1Q l h1.1;refine ⟨e1,by show zdx (zuZ l (zeo h a))=z4t l (zJ5 (zdx h) a);rw[e2,h2.1],?_,e4.trans h1.2.1⟩
  show (cond (zj8 a) _ _)=(cond (zj8 a) _ _)
  cases hi:zj8 a with
  | false=>rw[cond_false,cond_false,e3,h2.1]
  | true=>rw[cond_true,cond_true,e3,h2.1,h2.2 hi]
theorem cz8 (q:Int)(hq:0<=q):zuB.countP (fun s=>ieq s.Page q)=0:=by
 rw[u2];intro s hs;have:=(uQ.1 hs).2;rw[this]
 show ¬ ieq (-1) q=true
 rw[zbi];omega
theorem zWU {p:List Ins}(h:zc6 p=true):GOk (zeE p):=⟨h,rfl,rfl,rfl,rfl,rfl,rfl,rfl,rfl⟩
theorem z2A {ps:List (List Ins)}(h1:1<=ps.length)(h:∀p∈ps,zc6 p=true):MOk (zgu ps):=by
 have e8:∀s∈zuB,s=noSlot:=fun s hs=>(uQ.1 hs).2;refine ⟨?_,?_,?_,rfl,fun s hs=>.inl (e8 s hs),rfl,rfl,jV _,rfl,rfl,rfl,fun g hg=>?_,fun p hp=>?_⟩
 .show 1<=((ps.take 2).map zeE).length
  simp;omega
 .show ((ps.take 2).map zeE).length<=2
  simp;omega
 .show ((ps.take 2).map (fun _=>zjN)).length=((ps.take 2).map zeE).length
  simp
 .obtain ⟨p,hp,rfl⟩:=jB.1 hg;exact zta.2 (zWU (h p (jY hp)))
 .have hp':=zB.1 hp;have e:p=0\/p=1\/p=2\/p=3\/p=4\/p=5\/p=6\/p=7:=by omega
  rcases e with rfl|rfl|rfl|rfl|rfl|rfl|rfl|rfl<;>rfl
def z7t (ps:List (List (List Ins))):Prop:=1<=ps.length/\∀p∈ps,1<=p.length/\∀x∈p,zc6 x=true
theorem zZU {ps:List (List (List Ins))}(h:z7t ps):Safe (zfi ps):=by
 have hmem:∀x∈(zfi ps).Mons,∃p∈ps,x=zgu p:=fun x hx=>by
  obtain ⟨p,hp,rfl⟩:=jB.1 hx;exact ⟨p,jY hp,rfl⟩
 have hO:∀x∈(zfi ps).Mons,x.Outer=zuB:=fun x hx=>by
  obtain ⟨p,_,rfl⟩:=hmem x hx;rfl
 have H:HOk (zfi ps):=by
  refine ⟨rfl,fun c hc=>?_,?_,?_,rfl,rfl,fun x hx=>?_,fun q hq=>?_⟩
  .have:c=[0,0,0,0]:=(uQ.1 hc).2;rw[this];rfl
  .show 1<=((ps.take 3).map zgu).length
   have:=h.1;simp;omega
  .show ((ps.take 3).map zgu).length<=3
   simp;omega
  .obtain ⟨p,hp,rfl⟩:=hmem x hx;exact z2A (h.2 p hp).1 (h.2 p hp).2
  .have:zeQ (zfi ps).Mons q=0:=by
    unfold zeQ;have:(zfi ps).Mons.map (fun x=>cPg x q)=(zfi ps).Mons.map (fun _=>0):=List.map_congr_left fun x hx=>by
     unfold cPg;rw[hO x hx];exact cz8 q hq
    rw[this];generalize (zfi ps).Mons=l
    induction l with
    | nil=>rfl
    | cons x l ih=>rw[jC,uK,ih]
   omega
 refine ⟨H,fun m hm g hg=>?_,fun e he=>(by cases he),fun e he=>(by cases he)⟩
 obtain ⟨p,hp,e⟩:=hmem _ (zlp hm mZ);rw[e]at hg ⊢;have hg1:hasB g (ln ((p.take 2).map zeE))=true:=hg;have ht:ix (zgu p).Tables g kZ=zjN:=by
  have:hasB g (ln ((p.take 2).map (fun _=>zjN)))=true:=by
   unfold ln at hg1 ⊢;simpa using hg1
  obtain ⟨k,hk,_,e2⟩:=zy4 this kZ
  show ix ((p.take 2).map (fun _=>zjN)) g kZ=_
  rw[e2];simp
 have hl:(ix (zgu p).Guests g gZ).Live=zkX:=by
  obtain ⟨k,hk,_,e2⟩:=zy4 hg1 gZ
  show (ix ((p.take 2).map zeE) g gZ).Live=_
  rw[e2];simp[zeE]
 rw[ht,hl]
 show KOk zjN zkX zuB
 refine ⟨rfl,rfl,fun i hi=>?_⟩;have hi':=zB.1 hi;have:ln zkX=4:=rfl;rw[this]at hi';have e4:i=0\/i=1\/i=2\/i=3:=by omega
 rcases e4 with rfl|rfl|rfl|rfl<;>rfl
def z6Q:zO:=[(68,zqA),(69,zug)]++zlZ
theorem z4k:zG z6Q:=zh zrQ (zh zxl zd8)
def z6R:zO:=z6Q
theorem z4l:zG z6R:=z4k
def z6S:zO:=z6R
theorem z4m:zG z6S:=z4l
def z6T:zO:=z6S
theorem z4n:zG z6T:=z4m
def z99:zO:=z6T
theorem z4o:zG z99:=z4n
@[simp] abbrev zsR (h:Host)(m:Int):Bool:=pc (zb2 h)
@[simp] abbrev znn (h:Host)(m:Int):Bare:=zy h m
def zDu:Run:=rF2 dH dI fun b c=>(zsR b c,[aT .bare (znn b c)])
def zJO (N:Nat)(a0:Host)(a1:Int):OA:=
 (oN (zDO a0 a1) (cond (nB (zrx a0 a1)) (some [(aT .bare (⟨[],[],[],0⟩:Bare))]) (iter (σ:=(Int×(Int×(Int×(Int×(lM×(lN×(lE×(lE×(lM×(lG×((List Int)×(lM×(lG×((List Int)×Unit))))))))))))))) N (fun r3 s4=>let y3:=s4.2.2.2.2.2.2.2.2.2.2.2.2.1;let y2:=s4.2.2.2.2.2.2.2.2.2.2.2.2.2.1;let y0:=(⟨s4.2.2.2.2.1,s4.2.2.2.2.2.1,s4.2.2.2.2.2.2.1,s4.2.2.2.2.2.2.2.1⟩:Host);let y1:=(ap s4.2.2.2.2.2.2.2.2.2.2.2.1 [(zzn y0 s4.1 s4.2.1)]); (cond (ilt s4.2.1 8) (oN (zzo y0 s4.1 s4.2.1) (oN (few (ln y1)) (r3 (s4.1,((zI .i64 s4.2.1 1),(s4.2.2.1,(s4.2.2.2.1,(s4.2.2.2.2.1,(s4.2.2.2.2.2.1,(s4.2.2.2.2.2.2.1,(s4.2.2.2.2.2.2.2.1,(s4.2.2.2.2.2.2.2.2.1,(s4.2.2.2.2.2.2.2.2.2.1,(s4.2.2.2.2.2.2.2.2.2.2.1,(y1,(y3,(y2,()))))))))))))))))) (some [(aT .bare (⟨s4.2.2.2.2.2.2.2.2.2.2.2.1,y3,y2,s4.2.2.2.1⟩:Bare))]))) (a1,(0,(0,((zeN a0 a1).Pending,(a0.Memory,(a0.Mons,(a0.Buffer,(a0.IoBuffer,([],([],([],([],((zeN a0 a1).Guests,((zeN a0 a1).Outs,())))))))))))))))))
def zWq:FuncId->Nat->Option Tmpl:=zq [(20,0,{ n:=39,tm:=[(1,ti),(2,.lp 0 0),(4,.lp 1 0),(7,.lp 2 0),(8,ti)],lo:=[(0,[.sl 0 [],.sl 1 [],.sl 2 [],.sl 3 []]),(1,[.sl 4 [],.sl 5 [],.sl 6 [],ti]),(2,[.sl 7 [],.sl 8 [],.sl 9 [],ti])],ro:=[(0,(.sl .int),false),(1,.mon,false),(2,.entry,false),(3,.entry,false),(4,(.sl .int),true),(5,.guest,true),(6,.int,true),(7,(.sl .int),true),(8,.guest,true),(9,.int,true)] })]
theorem zUR (a0:Host)(a1:Int)(hc:zsR a0 a1=true):∃N,zJO N a0 a1=some [aT .bare (znn a0 a1)]:=by
 have hs:=zF.1 hc;refine zce fun N hNN=>?_;unfold zJO znn zy oN nB
 conv=>zeta
 refine must (zbe hs) ?_;rw[show zrx a0 a1=hasB a1 (ln a0.Mons) from rfl]
 cases hh:hasB a1 (ln a0.Mons)
 .rfl
 .refine zcB rfl ?_;refine (ztU 8 (fun i (t:lM)=>(a1,(i:Int),0,(zeN a0 a1).Pending,a0.Memory,a0.Mons,a0.Buffer,a0.IoBuffer,[],[],[],t,(zeN a0 a1).Guests,(zeN a0 a1).Outs,())) _ (fun i (acc:List (List Int)) κ=>bif few (ln (ap acc [zb9 a0 a1 (i:Int)])) then κ (ap acc [zb9 a0 a1 (i:Int)]) else none) (fun (t:lM)=>(some [(.agg (Ty.cells .bare (⟨t,(zeN a0 a1).Guests,(zeN a0 a1).Outs,(zeN a0 a1).Pending⟩:Bare)))])) (fun i hi t rec=>?_) (fun t rec=>?_) _ ([]) (hNN (by decide))).trans ?_
  .simp only [show ilt (i:Int) 8=true from qJ (by omega),zZ hi (show 8<=big by decide),cT]
   exact must (zbe hs) rfl
  .simp only [show ilt (((8:Nat)):Int) 8=false from qG (by omega),cF]
  rw[zB8 a0 a1 _ 8 0 [] (by decide)]
  simp only[zeN,hh,cT,jN]
theorem zNY:vJ 20 zDu:=kF2 z4o zbo zl zo zWq zUR
def z9p:zO:=[(51,zwx),(68,zqA)]++zlZ
theorem z1H:zG z9p:=zh zz5 (zh zrQ zd8)
@[simp] abbrev ziO (h:Host)(m:Int):Bool:=pc (zb2 h)
@[simp] abbrev zfF (h:Host)(m:Int):Int:=(zb7 h m).Own
def zGF:Run:=rF2 dH dI fun b c=>(ziO b c,[aI (zfF b c)])
def zPP (N:Nat)(a0:Host)(a1:Int):OA:=
 (oN (znC a0 a1) (some [(aI (zb7 a0 a1).Own)]))
theorem zW8 (a0:Host)(a1:Int)(hc:ziO a0 a1=true):∃N,zPP N a0 a1=some [aI (zfF a0 a1)]:=by
 have hs:=zF.1 hc;refine ⟨0,?_⟩;unfold zPP oN;exact must (zbe hs) rfl
theorem zRf:vJ 21 zGF:=kF2 z1H zbo zl zo (zq []) zW8
structure Clear (h:Host) (m p:Int):Prop where
 d:ix (ix h.Mons m mZ).Dirty p false=false
 s:(ix (ix h.Mons m mZ).Outer p sZ).Page≠-1->(ix (ix h.Mons m mZ).Outer p sZ).Rights=1/\(∀e∈h.Buffer,e.Host≠(ix (ix h.Mons m mZ).Outer p sZ).Page)/\(∀e∈h.IoBuffer,e.Host≠(ix (ix h.Mons m mZ).Outer p sZ).Page) /\
  ∀g i,hasB g (ln (ix h.Mons m mZ).Guests)=true->hasB i (ln (ix (ix h.Mons m mZ).Guests g gZ).Live)=true->(ix (ix (ix h.Mons m mZ).Guests g gZ).Live i sZ).Page=p->ix (ix (ix h.Mons m mZ).Tables g kZ).Known i false=false
def zeG (h:Host)(m:Int):Int:=(ix h.Mons m mZ).Own
def trN (h:Host)(m:Int):Int:=(ix h.Mons m mZ).Traps
def zTa (h r:Host)(m:Int):Prop:=zeG r m=zeG h m\/(trN h m≠0/\zeG r m=zeG h m+1)
theorem zL6 {h:Host}{m:Int}(hm:hasB m (ln h.Mons)=true){x:Mon}{me:List (List Int)}{b c:List Entry}:zeG ⟨me,up h.Mons m x,b,c⟩ m=x.Own:=by
 unfold zeG
 show (ix (up h.Mons m x) m mZ).Own=_
 rw[zX hm]
theorem ztY {h:Host}{m:Int}(hm:hasB m (ln h.Mons)=true)(g:Int)(x:Guest):zeG (ze2 h m g x) m=zeG h m:=zL6 hm
theorem zXE {L:Host×Int×Bool}{m:Int}(hm:hasB m (ln L.1.Mons)=true)(g:Int)(x:Guest)(w:Bool):zeG (zff L m g x w) m=zeG L.1 m:=by
 unfold zff;cases L.2.2 with
 | false=>exact ztY hm g _
 | true =>
  cases w with
  | true=>exact zL6 hm
  | false=>exact ztY hm g _
theorem z4U {h:Host}(S:Safe h){m:Int}(hm:hasB m (ln h.Mons)=true)(g page need:Int)(io:Bool){b:List Entry}(hb:∀e∈b,zcA h e=true) :
 zeG (lookOf h b m g page need io).1 m=zeG h m/\hasB m (ln (lookOf h b m g page need io).1.Mons)=true:=by
 cases hl:zbJ h m g page need with
 | false=>unfold lookOf;rw[hl];exact ⟨rfl,hm⟩
 | true =>
  have k:=(zCB S io hl hb).1.op.like;exact ⟨k.ow m hm,by rw[k.has];exact hm⟩
theorem z4W {h:Host}{m:Int}(hm:hasB m (ln h.Mons)=true)(ho:zeG h m<=1000000000)(h0:0<=zeG h m)(g:Int)(x:Guest)(w:Int):zTa h (zhV h m g x w) m:=by
 have k0:zTa h (zcW h m x w) m/\hasB m (ln (zcW h m x w).Mons)=true:=by
  unfold zcW;cases hc:(cond (ine w 6) (ieq (zh4 (ix h.Mons m mZ).Traps x.Ctl.Traps (zdL w)) 2) false) with
  | false=>exact ⟨.inl rfl,hm⟩
  | true =>
   show zTa h (owned h m) m/\hasB m (ln (owned h m).Mons)=true
   unfold owned;cases hl:ilt (ix h.Mons m mZ).Own 1000000000 with
   | false=>exact ⟨.inl rfl,hm⟩
   | true =>
    refine ⟨.inr ⟨fun e=>?_,?_⟩,by rw[cond_true];show hasB m (ln (up h.Mons m _))=true;rw[zc5];exact hm⟩
    .unfold trN at e;rw[e]at hc;cases h6:ine w 6 with
     | false=>rw[h6]at hc;cases hc
     | true =>
      rw[h6,cond_true]at hc;unfold zh4 at hc;have hz:zcL 0 (zdL w)=false:=by
       unfold zcL;have:wand .i64 0 (zdL w)=0:=zQ3 _;rw[this];cases win (zdL w) 1 2<;>rfl
      rw[hz]at hc;cases hh:zcL x.Ctl.Traps (zdL w)<;>rw [hh]at hc<;>exact absurd hc (by decide)
    .have hlt:(ix h.Mons m mZ).Own<1000000000:=qE hl;rw[cond_true]
     show zeG ⟨_,up h.Mons m _,_,_⟩ m=_
     rw[zL6 hm];unfold zeG at h0 ⊢;exact zlU (by omega) (by omega)
 unfold zhV zfs;have k1:zeG (cond (cond (zfg x.Ctl.Traps w) (ieq w 5) false) (zfx (zcW h m x w) m (zbW x.Prog x.Pc).X) (zcW h m x w)) m=zeG (zcW h m x w) m/\hasB m (ln (cond (cond (zfg x.Ctl.Traps w) (ieq w 5) false) (zfx (zcW h m x w) m (zbW x.Prog x.Pc).X) (zcW h m x w)).Mons)=true:=by
  cases (cond (zfg x.Ctl.Traps w) (ieq w 5) false) with
  | false=>exact ⟨rfl,k0.2⟩
  | true =>
   rw[cond_true];unfold zfx;cases ilt (ln (ix (zcW h m x w).Mons m mZ).Outs) 40 with
   | false=>exact ⟨rfl,k0.2⟩
   | true =>
    refine ⟨zL6 k0.2,?_⟩;rw[cond_true]
    show hasB m (ln (up (zcW h m x w).Mons m _))=true
    rw[zc5];exact k0.2
 unfold zTa;rw[ztY k1.2,k1.1];exact k0.1
theorem zVs {h:Host}(S:Safe h){m:Int}(hm:hasB m (ln h.Mons)=true)(g:Int):zTa h (zS h m g).1 m:=by
 have ho:=zco.1 (S.ok.mon hm).own;unfold zS;cases zbE h m g with
 | false=>exact .inl rfl
 | true =>
  rw[cond_true];unfold zDY;cases ieq (zC (gOf h m g)) 0 with
  | true=>exact .inl rfl
  | false =>
   rw[cond_false];cases ieq (zC (gOf h m g)) 1 with
   | true=>exact .inl (ztY hm g _)
   | false =>
    rw[cond_false];cases ieq (zC (gOf h m g)) 2 with
    | true=>exact .inl (ztY hm g _)
    | false =>
     rw[cond_false];cases (cond (ieq (zC (gOf h m g)) 3) true (ieq (zC (gOf h m g)) 4)) with
     | true =>
      rw[cond_true];obtain ⟨k1,k2⟩:=z4U S hm g (zW (address (gOf h m g))) (zbM (ieq (zC (gOf h m g)) 4)) false S.rt.e1;exact .inl ((zXE k2 g _ _).trans k1)
     | false=>exact z4W hm ho.2 ho.1 g _ _
theorem silent {h:Host}(S:Safe h){m:Int}(hm:hasB m (ln h.Mons)=true)(g:Int) :
 zjl h m 3=true/\(zS (zbn h m 3) m g).2=(zS (zbn h m 0) m g).2/\zy (zS (zbn h m 3) m g).1 m=zy (zS (zbn h m 0) m g).1 m /\
 zeG (zS (zbn h m 0) m g).1 m=zeG (zbn h m 0) m/\zeG (zbn h m 3) m<=zeG (zS (zbn h m 3) m g).1 m/\zeG (zS (zbn h m 3) m g).1 m<=zeG (zbn h m 3) m+1 /\
 (0<=zeG (zbn h m 3) m/\zeG (zbn h m 3) m<=1000000000)/\hasB m (ln (zbn h m 3).Mons)=true/\hasB m (ln (zbn h m 0).Mons)=true/\hasB m (ln (zS (zbn h m 3) m g).1.Mons)=true/\hasB m (ln (zS (zbn h m 0) m g).1.Mons)=true:=by
 have hO:zbQ h=true:=zim.2 S.ok;obtain ⟨S3,e3⟩:=zsf S m 3;obtain ⟨S0,e0⟩:=zsf S m 0;have d3:zbn h m 3={ h with Mons:=up h.Mons m { ix h.Mons m mZ with Traps:=3 } }:=by unfold zbn;rw[hO,hm];rfl
 have d0:zbn h m 0={ h with Mons:=up h.Mons m { ix h.Mons m mZ with Traps:=0 } }:=by unfold zbn;rw[hO,hm];rfl
 have hm3:hasB m (ln (zbn h m 3).Mons)=true:=by rw[d3];show hasB m (ln (up h.Mons m _))=true;rw[zc5];exact hm
 have hm0:hasB m (ln (zbn h m 0).Mons)=true:=by rw[d0];show hasB m (ln (up h.Mons m _))=true;rw[zc5];exact hm
 obtain ⟨s3,t3⟩:=step_ok S3 m g;obtain ⟨s0,t0⟩:=step_ok S0 m g;have k3:=zVs S3 hm3 g;have k0:=zVs S0 hm0 g;have ht:trN (zbn h m 0) m=0:=by
  rw[d0];unfold trN
  show (ix (up h.Mons m _) m mZ).Traps=0
  rw[zX hm]
 have w3:=zco.1 (S3.ok.mon hm3).own;refine ⟨by unfold zjl;rw[hO,hm];rfl,by rw[t3,t0,e3,e0],by rw[s3.seen,s0.seen,zbi.2 rfl,e3,e0],?_,?_,?_,w3,hm3,hm0,by rw[s3.has];exact hm3,by rw[s0.has];exact hm0⟩
 .rcases k0 with k|⟨k,_⟩
  .exact k
  .exact absurd ht k
 .rcases k3 with k|⟨_,k⟩<;>omega
 .rcases k3 with k|⟨_,k⟩<;>omega
def zf8 (x y:List Int):Bool:=pc (x=y)
def zgB (_ _:List Int):Bool:=true
def zxP:Run:=rF2 (dS .int) (dS .int) fun b c=>(zf8 b c,[aB (zgB b c)])
def zBs (N:Nat)(a0 a1:List Int):OA:=
 (cond (ine (ln a0) (ln a1)) oF (iter (σ:=(Int×((List Int)×((List Int)×Unit)))) N (fun r3 s4=>(cond (ilt s4.1 (ln s4.2.1)) (oN (inb s4.1 (ln s4.2.1)) (oN (inb s4.1 (ln s4.2.2.1)) (cond (ine (ix s4.2.1 s4.1 0) (ix s4.2.2.1 s4.1 0)) oF (r3 ((zI .i64 s4.1 1),(s4.2.1,(s4.2.2.1,()))))))) oT)) (0,(a0,(a1,())))))
def zPq:FuncId->Nat->Option Tmpl:=zq [(67,0,{ n:=26,tm:=[(0,.sl 0 []),(1,.sl 1 []),(5,ti)],lo:=[],ro:=[(0,.int,false),(1,.int,false)] })]
theorem zOB (a0 a1:List Int)(hb:zbN big [aS .int a0,aS .int a1])(hc:zf8 a0 a1=true):∃N,zBs N a0 a1=some [aB (zgB a0 a1)]:=by
 have:=zF.1 hc;subst this;have hl:=(len0 hb);refine ⟨a0.length+1,?_⟩;unfold zBs oN;rw[zgq];refine zxd a0 zbaw _ _ hl (fun i hi rec=>?_) (fun rec=>?_) (kH _)
 .simp only [zbx hi,zbb hi,zbg hi,zII,zgq,zhe,ziL,cT,cF,kB,kM]
 .simp only [zbp,cF,zgB]
theorem zHT:vJ 67 zxP:=hF2 zd8 zbo zl zo zPq zOB
def zjv (x y:List Slot):Bool:=pc (x=y)
def zjO (_ _:List Slot):Bool:=true
def zvr:Run:=rF2 (dS .slot) (dS .slot) fun b c=>(zjv b c,[aB (zjO b c)])
def zzS (N:Nat)(a0 a1:lS):OA:=
 (cond (ine (ln a0) (ln a1)) oF (iter (σ:=(Int×(lS×(lS×Unit)))) N (fun r3 s4=>let y1:=(ix s4.2.1 s4.1 zN);let y0:=(ix s4.2.2.1 s4.1 zN); (cond (ilt s4.1 (ln s4.2.1)) (oN (inb s4.1 (ln s4.2.1)) (oN (inb s4.1 (ln s4.2.2.1)) (cond (nB (cond (ieq y1.Page y0.Page) (ieq y1.Rights y0.Rights) false)) oF (r3 ((zI .i64 s4.1 1),(s4.2.1,(s4.2.2.1,()))))))) oT)) (0,(a0,(a1,())))))
def zMP:FuncId->Nat->Option Tmpl:=zq [(162,0,{ n:=26,tm:=[(0,.sl 0 []),(1,.sl 1 []),(5,ti)],lo:=[],ro:=[(0,.slot,false),(1,.slot,false)] })]
theorem zLJ (a0 a1:List Slot)(hb:zbN big [aS .slot a0,aS .slot a1])(hc:zjv a0 a1=true):∃N,zzS N a0 a1=some [aB (zjO a0 a1)]:=by
 have:=zF.1 hc;subst this;have hl:=(len0 hb);refine ⟨a0.length+1,?_⟩;unfold zzS oN nB
 conv=>zeta
 rw[zgq];refine zxd a0 zN _ _ hl (fun i hi rec=>?_) (fun rec=>?_) (kH _)
 .simp only [zbx hi,zbb hi,zbg hi,zII,zgq,zhe,ziL,cT,cF,kB,kM]
 .simp only [zbp,cF,zjO]
theorem zEQ:vJ 162 zvr:=hF2 zd8 zbo zl zo zMP zLJ
def zou (x y:List Ins):Bool:=pc (x=y)
def zot (_ _:List Ins):Bool:=true
def zxO:Run:=rF2 (dS .ins) (dS .ins) fun b c=>(zou b c,[aB (zot b c)])
def zBr (N:Nat)(a0 a1:lI):OA:=
 (cond (ine (ln a0) (ln a1)) oF (iter (σ:=(Int×(lI×(lI×Unit)))) N (fun r3 s4=>let y1:=(ix s4.2.1 s4.1 zq3);let y0:=(ix s4.2.2.1 s4.1 zq3); (cond (ilt s4.1 (ln s4.2.1)) (oN (inb s4.1 (ln s4.2.1)) (oN (inb s4.1 (ln s4.2.2.1)) (cond (nB (cond (ieq y1.Op y0.Op) (ieq y1.X y0.X) false)) oF (r3 ((zI .i64 s4.1 1),(s4.2.1,(s4.2.2.1,()))))))) oT)) (0,(a0,(a1,())))))
def zPp:FuncId->Nat->Option Tmpl:=zq [(177,0,{ n:=26,tm:=[(0,.sl 0 []),(1,.sl 1 []),(5,ti)],lo:=[],ro:=[(0,.ins,false),(1,.ins,false)] })]
theorem zOA (a0 a1:List Ins)(hb:zbN big [aS .ins a0,aS .ins a1])(hc:zou a0 a1=true):∃N,zBr N a0 a1=some [aB (zot a0 a1)]:=by
 have:=zF.1 hc;subst this;have hl:=(len0 hb);refine ⟨a0.length+1,?_⟩;unfold zBr oN nB
 conv=>zeta
 rw[zgq];refine zxd a0 zq3 _ _ hl (fun i hi rec=>?_) (fun rec=>?_) (kH _)
 .simp only [zbx hi,zbb hi,zbg hi,zII,zgq,zhe,ziL,cT,cF,kB,kM]
 .simp only [zbp,cF,zot]
theorem zHS:vJ 177 zxO:=hF2 zd8 zbo zl zo zPp zOA
def z1J:zO:=[(67,zxP),(162,zvr),(177,zxO)]++zlZ
theorem zB2:zG z1J:=zh zHT (zh zEQ (zh zHS zd8))
def zmP (x y:List (List Int)):Bool:=pc (x=y)
def zmo (_ _:List (List Int)):Bool:=true
def zvq:Run:=rF2 (dS (.sl .int)) (dS (.sl .int)) fun b c=>(zmP b c,[aB (zmo b c)])
def zzR (N:Nat)(a0:lM)(a1:lM):OA:=
 (cond (ine (ln a0) (ln a1)) oF (iter (σ:=(Int×(lM×(lM×Unit)))) N (fun r3 s4=>(cond (ilt s4.1 (ln s4.2.1)) (oN (inb s4.1 (ln s4.2.1)) (oN (inb s4.1 (ln s4.2.2.1)) (oN (zf8 (ix s4.2.1 s4.1 []) (ix s4.2.2.1 s4.1 [])) (cond (nB (zgB (ix s4.2.1 s4.1 []) (ix s4.2.2.1 s4.1 []))) oF (r3 ((zI .i64 s4.1 1),(s4.2.1,(s4.2.2.1,())))))))) oT)) (0,(a0,(a1,())))))
def zMO:FuncId->Nat->Option Tmpl:=zq [(37,0,{ n:=27,tm:=[(0,.sl 0 []),(1,.sl 1 []),(5,ti)],lo:=[],ro:=[(0,(.sl .int),false),(1,(.sl .int),false)] })]
theorem zLI (a0:List (List Int))(a1:List (List Int))(hb:zbN big [aS (.sl .int) a0,aS (.sl .int) a1])(hc:zmP a0 a1=true):∃N,zzR N a0 a1=some [aB (zmo a0 a1)]:=by
 have:=zF.1 hc;subst this;have hl:=(len0 hb);refine ⟨a0.length+1,?_⟩;unfold zzR oN nB;rw[zgq];refine zxd a0 (Ty.dflt (.sl .int)) _ _ hl (fun i hi rec=>?_) (fun rec=>?_) (kH _)
 .simp only [zbx hi,zbb hi,zbg hi,zf8,zgB,zII,zgq,zhe,ziL,cT,cF,kB,kM]
 .simp only [zbp,cF,zmo]
theorem zEP:vJ 37 zvq:=hF2 zB2 zbo zl zo zMO zLI
def zmO (x y:Guest):Bool:=pc (x=y)
def zmn (_ _:Guest):Bool:=true
def zvp:Run:=rF2 (dT .guest) (dT .guest) fun b c=>(zmO b c,[aB (zmn b c)])
def zzQ (N:Nat)(a0 a1:Guest):OA:=
 (oN (zou a0.Prog a1.Prog) (cond (zot a0.Prog a1.Prog) (cond (ieq a0.A a1.A) (cond (ieq a0.Pc a1.Pc) (oN (zjv a0.Written a1.Written) (cond (zjO a0.Written a1.Written) (oN (zjv a0.Live a1.Live) (cond (zjO a0.Live a1.Live) (cond (cond (ieq a0.Ctl.Traps a1.Ctl.Traps) (cond (ieq a0.Ctl.Post a1.Ctl.Post) (ziX a0.Ctl.Open a1.Ctl.Open) false) false) (cond (ieq a0.Pending a1.Pending) (cond (cond (ieq a0.Exit.Kind a1.Exit.Kind) (cond (ieq a0.Exit.Page a1.Exit.Page) (cond (ziX a0.Exit.Write a1.Exit.Write) (ieq a0.Exit.N a1.Exit.N) false) false) false) (cond (ziX a0.Halted a1.Halted) (oN (zf8 a0.Seen a1.Seen) (some [(aB (zgB a0.Seen a1.Seen))])) oF) oF) oF) oF) oF)) oF)) oF) oF) oF))
theorem zLH (a0 a1:Guest)(hc:zmO a0 a1=true):∃N,zzQ N a0 a1=some [aB (zmn a0 a1)]:=by
 have:=zF.1 hc;subst this;refine ⟨0,?_⟩;simp only[zzQ,zou,zot,zjv,zjO,zf8,zgB,zII,zgq,zhe,ziL,cT,cF,kB,kM,zmn]
theorem zEO:vJ 135 zvp:=kF2 zB2 zbo zl zo (zq []) zLH
def z1K:zO:=[(37,zvq),(135,zvp)]++z1J
theorem zQp:zG z1K:=zh zEP (zh zEO zB2)
def zlr (x y:List Guest):Bool:=pc (x=y)
def zkA (_ _:List Guest):Bool:=true
def zt5:Run:=rF2 (dS .guest) (dS .guest) fun b c=>(zlr b c,[aB (zkA b c)])
def zwZ (N:Nat)(a0 a1:lG):OA:=
 (cond (ine (ln a0) (ln a1)) oF (iter (σ:=(Int×(lG×(lG×Unit)))) N (fun r3 s4=>let y1:=(ix s4.2.1 s4.1 zi);let y0:=(ix s4.2.2.1 s4.1 zi); (cond (ilt s4.1 (ln s4.2.1)) (oN (inb s4.1 (ln s4.2.1)) (oN (inb s4.1 (ln s4.2.2.1)) (oN (zmO y1 y0) (cond (nB (zmn y1 y0)) oF (r3 ((zI .i64 s4.1 1),(s4.2.1,(s4.2.2.1,())))))))) oT)) (0,(a0,(a1,())))))
def zI0:FuncId->Nat->Option Tmpl:=zq [(66,0,{ n:=27,tm:=[(0,.sl 0 []),(1,.sl 1 []),(5,ti)],lo:=[],ro:=[(0,.guest,false),(1,.guest,false)] })]
theorem zIr (a0 a1:List Guest)(hb:zbN big [aS .guest a0,aS .guest a1])(hc:zlr a0 a1=true):∃N,zwZ N a0 a1=some [aB (zkA a0 a1)]:=by
 have:=zF.1 hc;subst this;have hl:=(len0 hb);refine ⟨a0.length+1,?_⟩;unfold zwZ oN nB
 conv=>zeta
 rw[zgq];refine zxd a0 zi _ _ hl (fun i hi rec=>?_) (fun rec=>?_) (kH _)
 .simp only [zbx hi,zbb hi,zbg hi,zmO,zmn,zII,zgq,zhe,ziL,cT,cF,kB,kM]
 .simp only [zbp,cF,zkA]
theorem zCf:vJ 66 zt5:=hF2 zQp zbo zl zo zI0 zIr
def z9q:zO:=[(66,zt5)]++z1K
theorem z1L:zG z9q:=zh zCf zQp
def ztV (x y:Bare):Bool:=pc (x=y)
def zsF (_ _:Bare):Bool:=true
def zxN:Run:=rF2 (dT .bare) (dT .bare) fun b c=>(ztV b c,[aB (zsF b c)])
def zBq (N:Nat)(a0 a1:Bare):OA:=
 (oN (zmP a0.Memory a1.Memory) (cond (zmo a0.Memory a1.Memory) (oN (zlr a0.Guests a1.Guests) (cond (zkA a0.Guests a1.Guests) (oN (zf8 a0.Outs a1.Outs) (cond (zgB a0.Outs a1.Outs) (some [(aB (ieq a0.Pending a1.Pending))]) oF)) oF)) oF))
theorem zOz (a0 a1:Bare)(hc:ztV a0 a1=true):∃N,zBq N a0 a1=some [aB (zsF a0 a1)]:=by
 have:=zF.1 hc;subst this;refine ⟨0,?_⟩;simp only[zBq,zmP,zmo,zlr,zkA,zf8,zgB,zII,zgq,zhe,ziL,cT,cF,kB,kM,zsF]
theorem zHR:vJ 19 zxN:=kF2 z1L zbo zl zo (zq []) zOz
def Ends {ρ:Type}(G:ρ->Prop)(o:Option ρ):Prop:=∃a,o=some a/\G a
section
variable {ρ:Type} {G:ρ->Prop}
theorem zbq {c:Bool}{a b:Option ρ}(h:c=true)(k:Ends G a):Ends G (cond c a b):=by rw[h];exact k
theorem zdn {c:Bool}{a b:Option ρ}(h1:c=true->Ends G a)(h2:c=false->Ends G b):Ends G (cond c a b):=by
 cases c
 .exact h2 rfl
 .exact h1 rfl
theorem zm1 {x:Option ρ}{f:Option ρ->Option ρ}(h:Ends G x)(k:∀t,Ends G t->Ends G (f t)):Ends G (share x f):=k x h
theorem zKj {a:ρ}(h:G a):Ends G (some a):=⟨a,rfl,h⟩
theorem zxc {σ:Type}{F:(σ->Option ρ)->σ->Option ρ}(I:Nat->σ->Prop)(h:∀n s rec,I n s->(∀k s',k<n->I k s'->Ends G (rec s'))->Ends G (F rec s)):∀(N n:Nat) (s:σ),I n s->n<N->Ends G (iter N F s)
 | 0,n,s,_,hn=>absurd hn (Nat.not_lt_zero n)
 | N+1,n,s,hI,hn=>h n s (iter N F) hI fun k s' hk hs=>zxc I h N k s' hs (by omega)
theorem z8f {G:Ans->Prop}{o:OA}{r:Ans}(h:Ends (fun a=>a=r) o):o=some r:=by
 obtain ⟨a,h1,h2⟩:=h;rw[h1,h2]
end
instance:Inhabited Cur:=⟨⟨[],0,0⟩⟩
instance:Inhabited Ins:=⟨⟨0,0⟩⟩
instance:Inhabited GAct:=⟨⟨0,0,0,0,0,0⟩⟩
instance:Inhabited Ctl:=⟨⟨0,0,false⟩⟩
instance:Inhabited Host:=⟨⟨[],[],[],[]⟩⟩
def zdI (c:Cur):Prop:=0<=c.i/\c.b.length<=big
theorem zlf {T:Type}(av:T->AV){good:T->Prop}{b:List Int}{x y:Int}{v:T}(h:0<=x)(g:good v):Ends (fun a=>∃s v0,a=(AV.agg (zbI s) :: [av v0])/\(s.b=b/\0<=s.i)/\good v0) (some (AV.agg [.s .u8 b,.i .i64 x,.i .i64 y] :: [av v])) :=
 ⟨_,rfl,⟨b,x,y⟩,v,rfl,⟨rfl,h⟩,g⟩
def zl4 (N:Nat)(c:Cur)  : OA :=
 let y0:=(zI .i64 (zl2 .i64 c.h 6364136223846793005) 1442695040888963407);let y1:=(wand .i64 (z5I .i64 (zjn .i64 y0 33) (zjn .i64 y0 45)) 255); (oN (ile 0 33) (oN (ile 0 45) (cond (ilt c.i (ln c.b)) (oN (inb c.i (ln c.b)) (some [(.agg [(.s .u8 c.b),(.i .i64 (zI .i64 c.i 1)),(.i .i64 y0)]),(aI (wand .i64 (zI .i64 y1 (wcv .i64 (ix c.b c.i 0))) 255))])) (some [(.agg [(.s .u8 c.b),(.i .i64 c.i),(.i .i64 y0)]),(aI y1)]))))
theorem zVh (N:Nat)(c:Cur)  : zgz (cQ zlZ znd zIJ zk0) (zq []) N 12 88 [false,true,true] (zbI c) []=zl4 N c:=by kernel_rfl
def zkO (c:Cur)(s:Cur)(v0:Int):Prop:=(∃N,zl4 N c=some (AV.agg (zbI s) :: [aI v0]))/\(s.b=c.b/\0<=s.i)/\(0<=v0/\v0<=255)
def zdg (c:Cur)  : Bool:=pc (∃s v0,zkO c s v0)
def zqV (c:Cur)  : Cur×Int:=Classical.epsilon fun r=>zkO c r.1 r.2
def zcn (c:Cur)  : Cur:=bif zdg c then (zqV c).1 else ⟨[],0,0⟩
def zfp (c:Cur)  : Int:=(zqV c).2
theorem zjZ {c:Cur}(h:zdg c=true):zkO c (zcn c) (zfp c):=by
 obtain ⟨s,v0,h2⟩:=zF.1 h;have h3:zkO c (zqV c).1 (zqV c).2:=Classical.epsilon_spec (p:=fun r=>zkO c r.1 r.2) ⟨(s,v0),h2⟩;unfold zcn;rw[h,cT];exact h3
theorem zmF (c:Cur)  : 0<=(zcn c).i:=by
 unfold zcn;cases h:zdg c with
 | false=>exact jW 0
 | true =>
  have:=(zjZ h).2.1.2;unfold zcn at this
  rwa [h] at this
theorem zXK (c:Cur)(h:∃N,Ends (fun a=>∃s v0,a=(AV.agg (zbI s) :: [aI v0])/\(s.b=c.b/\0<=s.i)/\(0<=v0/\v0<=255)) (zl4 N c)):zdg c=true:=by
 obtain ⟨N,a,e,s,v0,rfl,h⟩:=h;exact zU ⟨s,v0,⟨N,e⟩,h⟩
def zpE:List CV->List AV->Option (Bool×List CV×List AV)
 | [.s .u8 b,.i .i64 c,.i .i64 d],[]=>some ((zdg (⟨b,c,d⟩:Cur)),zbI (zcn (⟨b,c,d⟩:Cur)),[aI (zfp (⟨b,c,d⟩:Cur))])
 | _,_=>none
theorem zSa (c:Cur)(hb:zbN big (.agg (zbI c) :: []))(hc:zdg c=true):∃N,zl4 N c=some (.agg (zbI (zcn c)) :: [aI (zfp c)]):=by
 exact (zjZ hc).1
theorem zLa:zdJ Tryz.prog 88 [false,true,true] zpE:=by
 refine zb5 (zc7 zd8 zbo zl zo) (zem (by kernel_rfl)) ?_
 intro cs avs cs' rs hl hr h;have hb:=zcu hr;unfold zpE at h;split at h
 .obtain ⟨hc,rfl,rfl⟩:=zcT h;obtain ⟨N,hN⟩:=zSa _ (by exact hb) hc
  exact ⟨rfl,_,N,12,(zVh N _ ).trans hN⟩
 .cases h
theorem zQ2 {x m:Int}(h0:0<=m)(h1:m<9223372036854775808):0<=wand .i64 x m/\wand .i64 x m<=m:=by
 have hm:(BitVec.ofInt 64 m).toNat=m.toNat:=by
  rw[BitVec.toNat_ofInt];omega
 have hle:(BitVec.ofInt 64 x &&& BitVec.ofInt 64 m).toNat<=m.toNat:=by
  rw[BitVec.toNat_and,hm];exact Nat.and_le_right
 unfold wand
 show 0<=IntKind.wrap .i64 ((BitVec.ofInt 64 x &&& BitVec.ofInt 64 m).toNat:Int)/\IntKind.wrap .i64 ((BitVec.ofInt 64 x &&& BitVec.ofInt 64 m).toNat:Int)<=m
 rw[zto (by omega) (by omega)]
 omega
@[simp] theorem zKa {c:Cur}(h:zdI c):zdg c=true:=by
 refine zXK c ⟨0,?_⟩;unfold zl4 oN
 conv=>zeta
 refine zbq rfl (zbq rfl (zdn (fun h0=>zbq (qJ ⟨h.1,qE h0⟩) (zlf aI ?_ (zQ2 (by omega) (by omega)))) (fun _=>zlf aI h.1 (zQ2 (by omega) (by omega)))))
 have h1:c.i<ln c.b:=qE h0;have h2:=h.2;have h3:=h.1;rw[zs5]at h2;unfold ln at h1;rw[zlU (by omega) (by omega)]
 omega
def z0m:zdw:=[(88,([false,true,true],zpE))]++zIJ
theorem zVt:zct z0m:=zel zl (by
 intro x hx;simp only[qI,qX,or_false]at hx;rcases hx with rfl
 .exact zLa)
theorem zHv {b:List Int}{i h:Int}(h0:0<=i)(hb:b.length<=big):zdI ⟨b,i,h⟩:=⟨h0,hb⟩
theorem zPH {x n:Int}(h0:0<=x)(hn:0<n):0<=ziK x n/\ziK x n<n:=by
 unfold ziK;exact ⟨Int.tmod_nonneg _ h0,Int.tmod_lt_of_pos _ hn⟩
def zkc (N:Nat)(c:Cur)(a0:Int):OA:=
 let y2:=({ (zcn c) with b:=c.b }:Cur);let y0:=({ (zcn y2) with b:=c.b }:Cur);let y1:=({ (zcn y0) with b:=c.b }:Cur); (cond (ile a0 0) (some [(.agg [(.s .u8 c.b),(.i .i64 c.i),(.i .i64 c.h)]),(aI 0)]) (cond (ile a0 256) (oN (zdg c) (oN (ine a0 0) (some [(.agg [(.s .u8 c.b),(.i .i64 (zcn c).i),(.i .i64 (zcn c).h)]),(aI (ziK (zfp c) a0))]))) (oN (zdg c) (oN (zdg y2) (oN (zdg y0) (oN (zdg y1) (oN (ine a0 0) (some [(.agg [(.s .u8 c.b),(.i .i64 (zcn y1).i),(.i .i64 (zcn y1).h)]),(aI (ziK (zI .i64 (zI .i64 (zI .i64 (zl2 .i64 (zfp c) 16777216) (zl2 .i64 (zfp y2) 65536)) (zl2 .i64 (zfp y0) 256)) (zfp y1)) a0))]))))))))
theorem zSs (N:Nat)(c:Cur)(a0:Int):zgz (cQ zlZ znd z0m zk0) (zq []) N 12 33 [false,true,true] (zbI c) [aI a0]=zkc N c a0:=by kernel_rfl
def zjC (c:Cur)(a0:Int)(s:Cur)(v0:Int):Prop:=(∃N,zkc N c a0=some (AV.agg (zbI s) :: [aI v0]))/\(s.b=c.b/\0<=s.i)/\((0<a0->0<=v0/\v0<a0))
def zY (c:Cur)(a0:Int):Bool:=pc (∃s v0,zjC c a0 s v0)
def zpa (c:Cur)(a0:Int):Cur×Int:=Classical.epsilon fun r=>zjC c a0 r.1 r.2
def zD (c:Cur)(a0:Int):Cur:=bif zY c a0 then (zpa c a0).1 else ⟨[],0,0⟩
def zba (c:Cur)(a0:Int):Int:=(zpa c a0).2
theorem zo9 {c:Cur}{a0:Int}(h:zY c a0=true):zjC c a0 (zD c a0) (zba c a0):=by
 obtain ⟨s,v0,h2⟩:=zF.1 h;have h3:zjC c a0 (zpa c a0).1 (zpa c a0).2:=Classical.epsilon_spec (p:=fun r=>zjC c a0 r.1 r.2) ⟨(s,v0),h2⟩;unfold zD;rw[h,cT];exact h3
theorem zcy (c:Cur)(a0:Int):0<=(zD c a0).i:=by
 unfold zD;cases h:zY c a0 with
 | false=>exact jW 0
 | true =>
  have:=(zo9 h).2.1.2;unfold zD at this
  rwa [h] at this
theorem zVM (c:Cur)(a0:Int)(h:∃N,Ends (fun a=>∃s v0,a=(AV.agg (zbI s) :: [aI v0])/\(s.b=c.b/\0<=s.i)/\((0<a0->0<=v0/\v0<a0))) (zkc N c a0)):zY c a0=true:=by
 obtain ⟨N,a,e,s,v0,rfl,h⟩:=h;exact zU ⟨s,v0,⟨N,e⟩,h⟩
def zoA:List CV->List AV->Option (Bool×List CV×List AV)
 | [.s .u8 b,.i .i64 c,.i .i64 d],[.one (.i .i64 e)]=>some ((zY (⟨b,c,d⟩:Cur) e),zbI (zD (⟨b,c,d⟩:Cur) e),[aI (zba (⟨b,c,d⟩:Cur) e)])
 | _,_=>none
theorem zOW (c:Cur)(a0:Int)(hb:zbN big (.agg (zbI c) :: [aI a0]))(hc:zY c a0=true):∃N,zkc N c a0=some (.agg (zbI (zD c a0)) :: [aI (zba c a0)]):=by
 exact (zo9 hc).1
theorem zIc:zdJ Tryz.prog 33 [false,true,true] zoA:=by
 refine zb5 (zc7 zd8 zbo zVt zo) (zem (by kernel_rfl)) ?_
 intro cs avs cs' rs hl hr h;have hb:=zcu hr;unfold zoA at h;split at h
 .obtain ⟨hc,rfl,rfl⟩:=zcT h;obtain ⟨N,hN⟩:=zOW _ _ (by exact hb) hc
  exact ⟨rfl,_,N,12,(zSs N _ _ ).trans hN⟩
 .cases h
theorem zii {c:Cur}(h:zdI c)(n:Int):zY c n=true:=by
 refine zVM c n ⟨0,?_⟩;have k1:=zKa h;have k2:zdg { zcn c with b:=c.b }=true:=zKa (zHv (zmF _) h.2);have k3:zdg { zcn { zcn c with b:=c.b } with b:=c.b }=true:=zKa (zHv (zmF _) h.2);have k4:zdg { zcn { zcn { zcn c with b:=c.b } with b:=c.b } with b:=c.b }=true:=zKa (zHv (zmF _) h.2);have b1:=(zjZ k1).2.2;have b2:=(zjZ k2).2.2;have b3:=(zjZ k3).2.2;have b4:=(zjZ k4).2.2;unfold zkc oN
 conv=>zeta
 refine zdn (fun h0=>zlf aI h.1 (fun hn=>absurd (qE h0) (by omega))) (fun h0=>?_)
 have hn:¬ n<=0:=jT h0;have hz:ine n 0=true:=by simp[ine];omega
 refine zdn (fun h1=>zbq k1 (zbq hz (zlf aI (zmF _) (fun hp=>zPH b1.1 hp)))) (fun h1=>?_);refine zbq k1 (zbq k2 (zbq k3 (zbq k4 (zbq hz (zlf aI (zmF _) (fun hp=>zPH ?_ hp))))));generalize zfp c=x1 at b1;generalize zfp _=x2 at b2;generalize zfp _=x3 at b3;generalize zfp _=x4 at b4;have w1:zl2 .i64 x1 16777216=x1*16777216:=zto (by omega) (by omega)
 have w2:zl2 .i64 x2 65536=x2*65536:=zto (by omega) (by omega)
 have w3:zl2 .i64 x3 256=x3*256:=zto (by omega) (by omega)
 rw[w1,w2,w3,zlU (x:=x1*16777216) (by omega) (by omega),zlU (x:=x1*16777216+x2*65536) (by omega) (by omega),zlU (by omega) (by omega)]
 omega
def zSO:zdw:=[(33,([false,true,true],zoA))]++z0m
theorem zIK:zct zSO:=zel zVt (by
 intro x hx;simp only[qI,qX,or_false]at hx;rcases hx with rfl
 .exact zIc)
def zl5 (N:Nat)(c:Cur)(a0:Int):OA:=
 (oN (zY c a0) (some [(.agg [(.s .u8 c.b),(.i .i64 (zD c a0).i),(.i .i64 (zD c a0).h)]),(aB (ieq (zba c a0) 0))]))
theorem zVi (N:Nat)(c:Cur)(a0:Int):zgz (cQ zlZ znd zSO zk0) (zq []) N 12 147 [false,true,true] (zbI c) [aI a0]=zl5 N c a0:=by kernel_rfl
def zkQ (c:Cur)(a0:Int)(s:Cur)(v0:Bool):Prop:=(∃N,zl5 N c a0=some (AV.agg (zbI s) :: [aB v0]))/\(s.b=c.b/\0<=s.i)/\(True)
def zeu (c:Cur)(a0:Int):Bool:=pc (∃s v0,zkQ c a0 s v0)
def zqW (c:Cur)(a0:Int):Cur×Bool:=Classical.epsilon fun r=>zkQ c a0 r.1 r.2
def zcs (c:Cur)(a0:Int):Cur:=bif zeu c a0 then (zqW c a0).1 else ⟨[],0,0⟩
def zkP (c:Cur)(a0:Int):Bool:=(zqW c a0).2
theorem zGW {c:Cur}{a0:Int}(h:zeu c a0=true):zkQ c a0 (zcs c a0) (zkP c a0):=by
 obtain ⟨s,v0,h2⟩:=zF.1 h;have h3:zkQ c a0 (zqW c a0).1 (zqW c a0).2:=Classical.epsilon_spec (p:=fun r=>zkQ c a0 r.1 r.2) ⟨(s,v0),h2⟩;unfold zcs;rw[h,cT];exact h3
theorem zh9 (c:Cur)(a0:Int):0<=(zcs c a0).i:=by
 unfold zcs;cases h:zeu c a0 with
 | false=>exact jW 0
 | true =>
  have:=(zGW h).2.1.2;unfold zcs at this
  rwa [h] at this
theorem zXL (c:Cur)(a0:Int)(h:∃N,Ends (fun a=>∃s v0,a=(AV.agg (zbI s) :: [aB v0])/\(s.b=c.b/\0<=s.i)/\(True)) (zl5 N c a0)):zeu c a0=true:=by
 obtain ⟨N,a,e,s,v0,rfl,h⟩:=h;exact zU ⟨s,v0,⟨N,e⟩,h⟩
def zpF:List CV->List AV->Option (Bool×List CV×List AV)
 | [.s .u8 b,.i .i64 c,.i .i64 d],[.one (.i .i64 e)]=>some ((zeu (⟨b,c,d⟩:Cur) e),zbI (zcs (⟨b,c,d⟩:Cur) e),[aB (zkP (⟨b,c,d⟩:Cur) e)])
 | _,_=>none
theorem zSb (c:Cur)(a0:Int)(hb:zbN big (.agg (zbI c) :: [aI a0]))(hc:zeu c a0=true):∃N,zl5 N c a0=some (.agg (zbI (zcs c a0)) :: [aB (zkP c a0)]):=by
 exact (zGW hc).1
theorem zLb:zdJ Tryz.prog 147 [false,true,true] zpF:=by
 refine zb5 (zc7 zd8 zbo zIK zo) (zem (by kernel_rfl)) ?_
 intro cs avs cs' rs hl hr h;have hb:=zcu hr;unfold zpF at h;split at h
 .obtain ⟨hc,rfl,rfl⟩:=zcT h;obtain ⟨N,hN⟩:=zSb _ _ (by exact hb) hc
  exact ⟨rfl,_,N,12,(zVi N _ _ ).trans hN⟩
 .cases h
theorem zVq {c:Cur}(h:zdI c)(n:Int):zeu c n=true:=by
 refine zXL c n ⟨0,?_⟩;unfold zl5 oN;exact zbq (zii h _) (zlf aB (zcy _ _) trivial)
def zif (N:Nat)(c:Cur)(a0:List Int):OA:=
 (oN (zY c (ln a0)) (oN (inb (zba c (ln a0)) (ln a0)) (some [(.agg [(.s .u8 c.b),(.i .i64 (zD c (ln a0)).i),(.i .i64 (zD c (ln a0)).h)]),(aI (ix a0 (zba c (ln a0)) 0))])))
theorem zLZ (N:Nat)(c:Cur)(a0:List Int):zgz (cQ zlZ znd zSO zk0) (zq []) N 12 204 [false,true,true] (zbI c) [aS .int a0]=zif N c a0:=by kernel_rfl
def zhQ (c:Cur)(a0:List Int)(s:Cur)(v0:Int):Prop:=(∃N,zif N c a0=some (AV.agg (zbI s) :: [aI v0]))/\(s.b=c.b/\0<=s.i)/\((0<a0.length->v0∈a0))
def zdA (c:Cur)(a0:List Int):Bool:=pc (∃s v0,zhQ c a0 s v0)
def zlR (c:Cur)(a0:List Int):Cur×Int:=Classical.epsilon fun r=>zhQ c a0 r.1 r.2
def zbZ (c:Cur)(a0:List Int):Cur:=bif zdA c a0 then (zlR c a0).1 else ⟨[],0,0⟩
def zfa (c:Cur)(a0:List Int):Int:=(zlR c a0).2
theorem zp2 {c:Cur}{a0:List Int}(h:zdA c a0=true):zhQ c a0 (zbZ c a0) (zfa c a0):=by
 obtain ⟨s,v0,h2⟩:=zF.1 h;have h3:zhQ c a0 (zlR c a0).1 (zlR c a0).2:=Classical.epsilon_spec (p:=fun r=>zhQ c a0 r.1 r.2) ⟨(s,v0),h2⟩;unfold zbZ;rw[h,cT];exact h3
theorem zlQ (c:Cur)(a0:List Int):0<=(zbZ c a0).i:=by
 unfold zbZ;cases h:zdA c a0 with
 | false=>exact jW 0
 | true =>
  have:=(zp2 h).2.1.2;unfold zbZ at this
  rwa [h] at this
theorem zPi (c:Cur)(a0:List Int)(h:∃N,Ends (fun a=>∃s v0,a=(AV.agg (zbI s) :: [aI v0])/\(s.b=c.b/\0<=s.i)/\((0<a0.length->v0∈a0))) (zif N c a0)):zdA c a0=true:=by
 obtain ⟨N,a,e,s,v0,rfl,h⟩:=h;exact zU ⟨s,v0,⟨N,e⟩,h⟩
def zl1:List CV->List AV->Option (Bool×List CV×List AV)
 | [.s .u8 b,.i .i64 c,.i .i64 d],[.one (.s .int e)]=>some ((zdA (⟨b,c,d⟩:Cur) e),zbI (zbZ (⟨b,c,d⟩:Cur) e),[aI (zfa (⟨b,c,d⟩:Cur) e)])
 | _,_=>none
theorem zIB (c:Cur)(a0:List Int)(hb:zbN big (.agg (zbI c) :: [aS .int a0]))(hc:zdA c a0=true):∃N,zif N c a0=some (.agg (zbI (zbZ c a0)) :: [aI (zfa c a0)]):=by
 exact (zp2 hc).1
theorem zCm:zdJ Tryz.prog 204 [false,true,true] zl1:=by
 refine zb5 (zc7 zd8 zbo zIK zo) (zem (by kernel_rfl)) ?_
 intro cs avs cs' rs hl hr h;have hb:=zcu hr;unfold zl1 at h;split at h
 .obtain ⟨hc,rfl,rfl⟩:=zcT h;obtain ⟨N,hN⟩:=zIB _ _ (by exact hb) hc
  exact ⟨rfl,_,N,12,(zLZ N _ _ ).trans hN⟩
 .cases h
theorem zMb {c:Cur}(h:zdI c){l:List Int}(hl:l≠[]):zdA c l=true:=by
 refine zPi c l ⟨0,?_⟩;have hp:0<ln l:=by unfold ln;have:=kL.2 hl;omega
 have g:=(zo9 (zii h (ln l))).2.2 hp;have hb:inb (zba c (ln l)) (ln l)=true:=qJ ⟨g.1,g.2⟩;unfold zif oN;exact zbq (zii h _) (zbq hb (zlf aI (zcy _ _) (fun _=>zbu hb 0)))
def z0n:zdw:=[(147,([false,true,true],zpF)),(204,([false,true,true],zl1))]++zSO
theorem zVu:zct z0n:=zel zIK (by
 intro x hx;simp only[qI,qX,or_false]at hx;rcases hx with rfl|rfl
 .exact zLb
 .exact zCm)
theorem zfu {c:Cur}{i k:Int}(h:zdI c)(h0:0<=i):zdI ⟨c.b,i,k⟩:=⟨h0,h.2⟩
theorem z8F {c:Cur}(h:zdI c){l:List Int}(hl:l≠[]):zfa c l∈l:=(zp2 (zMb h hl)).2.2 (kL.2 hl)
theorem zmZ {c:Cur}(h:zdI c){n:Int}(hn:0<n):0<=zba c n/\zba c n<n:=(zo9 (zii h n)).2.2 hn
theorem zLt {o x:Int}(h:(o=1\/o=2\/o=5\/o=6)/\0<=x/\x<=99\/(o=3\/o=4)/\0<=x/\x<=15\/o=8/\0<=x/\x<=11):zdM ⟨o,x⟩=true:=by
 have w:∀{a b:Int},a<=x->x<=b->win x a b=true:=fun h1 h2=>by simp only[win,ige,ile,qD,qU];exact ⟨h1,h2⟩
 rcases h with ⟨h|h|h|h,h1,h2⟩|⟨h|h,h1,h2⟩|⟨h,h1,h2⟩<;>subst h<;>exact w h1 h2
def znX (N:Nat)(c:Cur)  : OA :=
 let y1:=(zfa c [1,2,3,3,3,4,4,4,5,6,8]);let y0:=({ (zbZ c [1,2,3,3,3,4,4,4,5,6,8]) with b:=c.b }:Cur); (share (oN (zY y0 16) (some [(.agg [(.s .u8 c.b),(.i .i64 (zD y0 16).i),(.i .i64 (zD y0 16).h)]),(.agg [(.i .i64 y1),(.i .i64 (zba y0 16))])])) (fun t1=>(share (cond (ieq y1 8) (oN (zY y0 4) (some [(.agg [(.s .u8 c.b),(.i .i64 (zD y0 4).i),(.i .i64 (zD y0 4).h)]),(.agg [(.i .i64 y1),(.i .i64 (zba y0 4))])])) (oN (zY y0 100) (some [(.agg [(.s .u8 c.b),(.i .i64 (zD y0 100).i),(.i .i64 (zD y0 100).h)]),(.agg [(.i .i64 y1),(.i .i64 (zba y0 100))])]))) (fun t0=>(oN (zdA c [1,2,3,3,3,4,4,4,5,6,8]) (cond (ieq y1 3) (cond (ieq y1 3) t1 t0) (cond (ieq y1 4) t1 t0)))))))
theorem zXz (N:Nat)(c:Cur)  : zgz (cQ zlZ znd z0n zk0) (zq []) N 12 274 [false,true,true] (zbI c) []=znX N c:=by kernel_rfl
def zmG (c:Cur)(s:Cur)(v0:Ins):Prop:=(∃N,znX N c=some (AV.agg (zbI s) :: [aT .ins v0]))/\(s.b=c.b/\0<=s.i)/\(zdM v0=true)
def zhR (c:Cur)  : Bool:=pc (∃s v0,zmG c s v0)
def zsW (c:Cur)  : Cur×Ins:=Classical.epsilon fun r=>zmG c r.1 r.2
def zgF (c:Cur)  : Cur:=bif zhR c then (zsW c).1 else ⟨[],0,0⟩
def zuv (c:Cur)  : Ins:=(zsW c).2
theorem zzt {c:Cur}(h:zhR c=true):zmG c (zgF c) (zuv c):=by
 obtain ⟨s,v0,h2⟩:=zF.1 h;have h3:zmG c (zsW c).1 (zsW c).2:=Classical.epsilon_spec (p:=fun r=>zmG c r.1 r.2) ⟨(s,v0),h2⟩;unfold zgF;rw[h,cT];exact h3
theorem z0B (c:Cur)  : 0<=(zgF c).i:=by
 unfold zgF;cases h:zhR c with
 | false=>exact jW 0
 | true =>
  have:=(zzt h).2.1.2;unfold zgF at this
  rwa [h] at this
theorem z0A (c:Cur)(h:∃N,Ends (fun a=>∃s v0,a=(AV.agg (zbI s) :: [aT .ins v0])/\(s.b=c.b/\0<=s.i)/\(zdM v0=true)) (znX N c)):zhR c=true:=by
 obtain ⟨N,a,e,s,v0,rfl,h⟩:=h;exact zU ⟨s,v0,⟨N,e⟩,h⟩
def zrW:List CV->List AV->Option (Bool×List CV×List AV)
 | [.s .u8 b,.i .i64 c,.i .i64 d],[]=>some ((zhR (⟨b,c,d⟩:Cur)),zbI (zgF (⟨b,c,d⟩:Cur)),[aT .ins (zuv (⟨b,c,d⟩:Cur))])
 | _,_=>none
theorem zU0 (c:Cur)(hb:zbN big (.agg (zbI c) :: []))(hc:zhR c=true):∃N,znX N c=some (.agg (zbI (zgF c)) :: [aT .ins (zuv c)]):=by
 exact (zzt hc).1
theorem zN6:zdJ Tryz.prog 274 [false,true,true] zrW:=by
 refine zb5 (zc7 zd8 zbo zVu zo) (zem (by kernel_rfl)) ?_
 intro cs avs cs' rs hl hr h;have hb:=zcu hr;unfold zrW at h;split at h
 .obtain ⟨hc,rfl,rfl⟩:=zcT h;obtain ⟨N,hN⟩:=zU0 _ (by exact hb) hc
  exact ⟨rfl,_,N,12,(zXz N _ ).trans hN⟩
 .cases h
theorem z6X {c:Cur}(h:zdI c):zhR c=true:=by
 refine z0A c ⟨0,?_⟩;have hk:([1,2,3,3,3,4,4,4,5,6,8]:List Int)≠[]:=by simp
 have hm:=z8F h hk;have h1:zdI { zbZ c [1,2,3,3,3,4,4,4,5,6,8] with b:=c.b }:=zfu h (zlQ _ _);have b16:=zmZ h1 (n:=16) (by omega)
 have b4:=zmZ h1 (n:=4) (by omega)
 have b100:=zmZ h1 (n:=100) (by omega)
 unfold znX oN
 conv=>zeta
 generalize zfa c [1,2,3,3,3,4,4,4,5,6,8]=o at hm;simp only[qI,qX,or_false]at hm;have no:∀{n:Int},ieq o n=false->o≠n:=fun h e=>by subst e;simp[ieq]at h
 have ye:∀{n:Int},ieq o n=true->o=n:=fun h=>by simpa [ieq] using h
 have L:∀(n:Int),0<n->(zdM ⟨o,zba { zbZ c [1,2,3,3,3,4,4,4,5,6,8] with b:=c.b } n⟩=true)->Ends (fun a=>∃s v0,a=(AV.agg (zbI s) :: [aT .ins v0])/\(s.b=c.b/\0<=s.i)/\zdM v0=true)
  (cond (zY { zbZ c [1,2,3,3,3,4,4,4,5,6,8] with b:=c.b } n) (some (AV.agg [.s .u8 c.b,.i .i64 (zD { zbZ c [1,2,3,3,3,4,4,4,5,6,8] with b:=c.b } n).i,.i .i64 (zD { zbZ c [1,2,3,3,3,4,4,4,5,6,8] with b:=c.b } n).h] :: [.agg [.i .i64 o,.i .i64 (zba { zbZ c [1,2,3,3,3,4,4,4,5,6,8] with b:=c.b } n)]])) none) :=
  fun n hn hi=>zbq (zii h1 n) (zlf (aT .ins) (v:=⟨o,zba _ n⟩) (zcy _ _) hi)
 refine zbq (zMb h hk) (zdn (fun h3=>zdn (fun _=>L 16 (by omega) (zLt ?_)) (fun h4=>absurd (ye h3) (no h4))) (fun h3=>zdn (fun h4=>L 16 (by omega) (zLt ?_)) (fun h4=>zdn (fun h8=>L 4 (by omega) (zLt ?_)) (fun h8=>L 100 (by omega) (zLt ?_)))))
 .have:=ye h3;omega
 .have:=ye h4;omega
 .have:=ye h8;omega
 .have:=no h3;have:=no h4;have:=no h8;omega
def z0o:zdw:=[(274,([false,true,true],zrW))]++z0n
theorem zVv:zct z0o:=zel zVu (by
 intro x hx;simp only[qI,qX,or_false]at hx;rcases hx with rfl
 .exact zN6)
theorem znT {x y:Int}(h0:0<=x)(h1:x<=1000000)(h2:0<=y)(h3:y<=1000000):zI .i64 x y=x+y:=zlU (by omega) (by omega)
theorem zxe {α:Type}{l:List α}(h:ln l<=1000000):few (ln l)=true:=qJ ⟨by unfold ln;omega,by omega⟩
theorem zqq {α:Type}(l:List α)(x:α):ln (ap l [x])=ln l+1:=by simp[ln,ap]
def zl6 (N:Nat)(c:Cur)  : OA :=
 (iter (σ:=(Int×(Int×(Int×(lI×((List Int)×Unit)))))) N (fun r2 s3=>let y3:=s3.2.2.2.1;let y2:=s3.2.2.2.2.1;let y1:=(⟨y2,s3.2.1,s3.2.2.1⟩:Cur);let y0:=({ (zD y1 7) with b:=y2 }:Cur); (oN (zY y1 7) (cond (ilt s3.1 (zI .i64 2 (zba y1 7))) (oN (zhR y0) (oN (few (ln (ap y3 [(zuv y0)]))) (r2 ((zI .i64 s3.1 1),((zgF y0).i,((zgF y0).h,((ap y3 [(zuv y0)]),(y2,())))))))) (oN (zeu y0 3) (cond (zkP y0 3) (oN (few (ln (ap y3 [(⟨7,0⟩:Ins)]))) (some [(.agg [(.s .u8 y2),(.i .i64 (zcs y0 3).i),(.i .i64 (zcs y0 3).h)]),(aS .ins (ap y3 [(⟨7,0⟩:Ins)]))])) (oN (few (ln (ap y3 [(⟨8,0⟩:Ins)]))) (some [(.agg [(.s .u8 y2),(.i .i64 (zcs y0 3).i),(.i .i64 (zcs y0 3).h)]),(aS .ins (ap y3 [(⟨8,0⟩:Ins)]))]))))))) (0,(c.i,(c.h,([],(c.b,()))))))
def zSC:FuncId->Nat->Option Tmpl:=zq [(203,0,{ n:=29,tm:=[(0,.lp 0 0),(3,.sl 0 []),(4,ti)],lo:=[(0,[.sl 1 [],ti,ti])],ro:=[(0,.ins,true),(1,.u8,false)] })]
theorem zVj (N:Nat)(c:Cur)  : zgz (cQ zlZ znd z0o zk0) zSC N 12 203 [false,true,true] (zbI c) []=zl6 N c:=by kernel_rfl
def zkR (c:Cur)(s:Cur)(v0:List Ins):Prop:=(∃N,zl6 N c=some (AV.agg (zbI s) :: [aS .ins v0]))/\(s.b=c.b/\0<=s.i)/\(zc6 v0=true)
def zfU (c:Cur)  : Bool:=pc (∃s v0,zkR c s v0)
def zqX (c:Cur)  : Cur×List Ins:=Classical.epsilon fun r=>zkR c r.1 r.2
def zeS (c:Cur)  : Cur:=bif zfU c then (zqX c).1 else ⟨[],0,0⟩
def znM (c:Cur)  : List Ins:=(zqX c).2
theorem zwK {c:Cur}(h:zfU c=true):zkR c (zeS c) (znM c):=by
 obtain ⟨s,v0,h2⟩:=zF.1 h;have h3:zkR c (zqX c).1 (zqX c).2:=Classical.epsilon_spec (p:=fun r=>zkR c r.1 r.2) ⟨(s,v0),h2⟩;unfold zeS;rw[h,cT];exact h3
theorem zXN (c:Cur)  : 0<=(zeS c).i:=by
 unfold zeS;cases h:zfU c with
 | false=>exact jW 0
 | true =>
  have:=(zwK h).2.1.2;unfold zeS at this
  rwa [h] at this
theorem zXM (c:Cur)(h:∃N,Ends (fun a=>∃s v0,a=(AV.agg (zbI s) :: [aS .ins v0])/\(s.b=c.b/\0<=s.i)/\(zc6 v0=true)) (zl6 N c)):zfU c=true:=by
 obtain ⟨N,a,e,s,v0,rfl,h⟩:=h;exact zU ⟨s,v0,⟨N,e⟩,h⟩
def zpG:List CV->List AV->Option (Bool×List CV×List AV)
 | [.s .u8 b,.i .i64 c,.i .i64 d],[]=>some ((zfU (⟨b,c,d⟩:Cur)),zbI (zeS (⟨b,c,d⟩:Cur)),[aS .ins (znM (⟨b,c,d⟩:Cur))])
 | _,_=>none
theorem zSe (c:Cur)(hb:zbN big (.agg (zbI c) :: []))(hc:zfU c=true):∃N,zl6 N c=some (.agg (zbI (zeS c)) :: [aS .ins (znM c)]):=by
 exact (zwK hc).1
theorem zLe:zdJ Tryz.prog 203 [false,true,true] zpG:=by
 refine zb5 (zc7 zd8 zbo zVv zo) (zem (by kernel_rfl)) ?_
 intro cs avs cs' rs hl hr h;have hb:=zcu hr;unfold zpG at h;split at h
 .obtain ⟨hc,rfl,rfl⟩:=zcT h;obtain ⟨N,hN⟩:=zSe _ (by exact hb) hc
  exact ⟨rfl,_,N,12,(zVj N _ ).trans hN⟩
 .cases h
theorem z2P {c:Cur}(h:zdI c):zfU c=true:=by
 refine zXM c ⟨9,?_⟩;unfold zl6 oN
 conv=>zeta
 refine zxc (fun n s=>s.1+(n:Int)=8/\0<=s.1/\0<=s.2.1/\(∀x∈s.2.2.2.1,zdM x=true)/\ln s.2.2.2.1=s.1/\s.2.2.2.2.1=c.b) ?_ 9 8 _ ⟨rfl,jW 0,h.1,by simp,rfl,rfl⟩ (by omega)
 rintro n ⟨t,i,k,l,b,u⟩ rec ⟨h1,h2,h3,h4,h5,h6⟩ hrec
 dsimp only at h1 h2 h3 h4 h5 h6 ⊢
 subst h6;have hcur:zdI ⟨c.b,i,k⟩:=zfu h h3;have hx:=zmZ hcur (n:=7) (by omega)
 have hw:=znT (x:=2) (by omega) (by omega) hx.1 (by omega)
 have h7:zdI { zD ⟨c.b,i,k⟩ 7 with b:=c.b }:=zfu h (zcy _ _);have fin:∀(y:Ins),zdM y=true->2<=t->zc6 (ap l [y])=true:=by
  intro y hy ht;unfold zc6;rw[zqq,h5];have:(ap l [y]).all zdM=true:=by
   simp only[ap,List.all_append,uI,List.all_nil,Bool.and_true,qD];exact ⟨qM.2 h4,hy⟩
  rw[this,cT];simp only[win,ige,ile,qD,qU];omega
 refine zbq (zii hcur 7) (zdn (fun hc=>?_) (fun hc=>?_))
 .have hlt:t<zI .i64 2 (zba ⟨c.b,i,k⟩ 7):=qE hc;rw[hw]at hlt;refine zbq (z6X h7) (zbq (zxe (by rw[zqq];omega)) (hrec (n-1) _ (by omega) ⟨?_,?_,z0B _,?_,?_,rfl⟩))
  .show zI .i64 t 1+_=8
   rw[znT h2 (by omega) (by omega) (by omega)];omega
  .show 0<=zI .i64 t 1
   rw[znT h2 (by omega) (by omega) (by omega)];omega
  .intro x hx;rcases jK.1 hx with hx|hx
   .exact h4 x hx
   .rw [qF.1 hx];exact (zzt (z6X h7)).2.2
  .show ln (ap l [_])=zI .i64 t 1
   rw[zqq,znT h2 (by omega) (by omega) (by omega)];omega
 .have hge:¬ t<zI .i64 2 (zba ⟨c.b,i,k⟩ 7):=jT hc;rw[hw]at hge;refine zbq (zVq h7 3) (zdn (fun _=>zbq (zxe (by rw[zqq];omega)) (zlf (aS .ins) (zh9 _ _) (fin _ rfl (by omega)))) (fun _=>zbq (zxe (by rw[zqq];omega)) (zlf (aS .ins) (zh9 _ _) (fin _ rfl (by omega)))))
def z0p:zdw:=[(203,([false,true,true],zpG))]++z0o
theorem zVw:zct z0p:=zel zVv (by
 intro x hx;simp only[qI,qX,or_false]at hx;rcases hx with rfl
 .exact zLe)
theorem zWy {α:Type}{c:Cur}(h:zdI c){P:α->Prop}{fc:Cur->Bool}{fs:Cur->Cur}{fv:Cur->α}(hf:∀{c:Cur},zdI c->fc c=true)(hp:∀c,0<=(fs c).i)(hg:∀{c:Cur},zdI c->P (fv c)){G:Ans->Prop}{R:Cur->List α->Ans}(hG:∀s l,s.b=c.b->0<=s.i->1<=l.length->l.length<=2->(∀x∈l,P x)->G (R s l)){F:(Int×Int×Int×List α×List Int×Unit->OA)->Int×Int×Int×List α×List Int×Unit->OA}(hF:∀rec t i k l,F rec (t,i,k,l,c.b,())=bif zY ⟨c.b,i,k⟩ 2 then (bif ilt t (zI .i64 1 (zba ⟨c.b,i,k⟩ 2)) then (bif fc { zD ⟨c.b,i,k⟩ 2 with b:=c.b } then (bif few (ln (ap l [fv { zD ⟨c.b,i,k⟩ 2 with b:=c.b }])) then
        rec (zI .i64 t 1,(fs { zD ⟨c.b,i,k⟩ 2 with b:=c.b }).i,(fs { zD ⟨c.b,i,k⟩ 2 with b:=c.b }).h,ap l [fv { zD ⟨c.b,i,k⟩ 2 with b:=c.b }],c.b,()) else none) else none) else some (R ⟨c.b,(zD ⟨c.b,i,k⟩ 2).i,(zD ⟨c.b,i,k⟩ 2).h⟩ l)) else none) :
 Ends G (iter 3 F (0,c.i,c.h,[],c.b,())):=by
 refine zxc (fun n s=>s.1+(n:Int)=2/\0<=s.1/\0<=s.2.1/\(∀x∈s.2.2.2.1,P x)/\ln s.2.2.2.1=s.1/\s.2.2.2.2.1=c.b) ?_ 3 2 _ ⟨rfl,jW 0,h.1,by simp,rfl,rfl⟩ (by omega)
 rintro n ⟨t,i,k,l,b,u⟩ rec ⟨h1,h2,h3,h4,h5,h6⟩ hrec
 dsimp only at h1 h2 h3 h4 h5 h6
 subst h6;rw[hF];have hcur:zdI ⟨c.b,i,k⟩:=zfu h h3;have hx:=zmZ hcur (n:=2) (by omega)
 have hw:=znT (x:=1) (by omega) (by omega) hx.1 (by omega)
 have h7:zdI { zD ⟨c.b,i,k⟩ 2 with b:=c.b }:=zfu h (zcy _ _);refine zbq (zii hcur 2) (zdn (fun hc=>?_) (fun hc=>?_))
 .have hlt:t<zI .i64 1 (zba ⟨c.b,i,k⟩ 2):=qE hc;rw[hw]at hlt;have ht:=znT (y:=1) h2 (by omega) (by omega) (by omega)
  refine zbq (hf h7) (zbq (zxe (by rw[zqq];omega)) (hrec (n-1) _ (by omega) ⟨?_,?_,hp _,?_,?_,rfl⟩))
  .show zI .i64 t 1+_=2
   omega
  .show 0<=zI .i64 t 1
   omega
  .intro x hx;rcases jK.1 hx with hx|hx
   .exact h4 x hx
   .rw [qF.1 hx];exact hg h7
  .show ln (ap l [_])=zI .i64 t 1
   rw[zqq];omega
 .have hge:¬ t<zI .i64 1 (zba ⟨c.b,i,k⟩ 2):=jT hc;rw[hw]at hge;unfold ln at h5;exact zKj (hG _ l rfl (zcy _ _) (by omega) (by omega) h4)
def zkd (N:Nat)(c:Cur)  : OA :=
 (iter (σ:=(Int×(Int×(Int×(lP×((List Int)×Unit)))))) N (fun r2 s3=>let y2:=s3.2.2.2.2.1;let y1:=(⟨y2,s3.2.1,s3.2.2.1⟩:Cur);let y0:=({ (zD y1 2) with b:=y2 }:Cur); (oN (zY y1 2) (cond (ilt s3.1 (zI .i64 1 (zba y1 2))) (oN (zfU y0) (oN (few (ln (ap s3.2.2.2.1 [(znM y0)]))) (r2 ((zI .i64 s3.1 1),((zeS y0).i,((zeS y0).h,((ap s3.2.2.2.1 [(znM y0)]),(y2,())))))))) (some [(.agg [(.s .u8 y2),(.i .i64 (zD y1 2).i),(.i .i64 (zD y1 2).h)]),(aS (.sl .ins) s3.2.2.2.1)])))) (0,(c.i,(c.h,([],(c.b,()))))))
def zPx:FuncId->Nat->Option Tmpl:=zq [(146,0,{ n:=19,tm:=[(0,.lp 0 0),(3,.sl 0 []),(4,ti)],lo:=[(0,[.sl 1 [],ti,ti])],ro:=[(0,(.sl .ins),true),(1,.u8,false)] })]
theorem zSt (N:Nat)(c:Cur)  : zgz (cQ zlZ znd z0p zk0) zPx N 12 146 [false,true,true] (zbI c) []=zkd N c:=by kernel_rfl
def zjD (c:Cur)(s:Cur)(v0:List (List Ins)):Prop:=(∃N,zkd N c=some (AV.agg (zbI s) :: [aS (.sl .ins) v0]))/\(s.b=c.b/\0<=s.i)/\(1<=v0.length/\v0.length<=2/\∀x∈v0,zc6 x=true)
def zfc (c:Cur)  : Bool:=pc (∃s v0,zjD c s v0)
def zpc (c:Cur)  : Cur×List (List Ins):=Classical.epsilon fun r=>zjD c r.1 r.2
def zev (c:Cur)  : Cur:=bif zfc c then (zpc c).1 else ⟨[],0,0⟩
def zlS (c:Cur)  : List (List Ins):=(zpc c).2
theorem zuw {c:Cur}(h:zfc c=true):zjD c (zev c) (zlS c):=by
 obtain ⟨s,v0,h2⟩:=zF.1 h;have h3:zjD c (zpc c).1 (zpc c).2:=Classical.epsilon_spec (p:=fun r=>zjD c r.1 r.2) ⟨(s,v0),h2⟩;unfold zev;rw[h,cT];exact h3
theorem zVO (c:Cur)  : 0<=(zev c).i:=by
 unfold zev;cases h:zfc c with
 | false=>exact jW 0
 | true =>
  have:=(zuw h).2.1.2;unfold zev at this
  rwa [h] at this
theorem zVN (c:Cur)(h:∃N,Ends (fun a=>∃s v0,a=(AV.agg (zbI s) :: [aS (.sl .ins) v0])/\(s.b=c.b/\0<=s.i)/\(1<=v0.length/\v0.length<=2/\∀x∈v0,zc6 x=true)) (zkd N c)):zfc c=true:=by
 obtain ⟨N,a,e,s,v0,rfl,h⟩:=h;exact zU ⟨s,v0,⟨N,e⟩,h⟩
def zoB:List CV->List AV->Option (Bool×List CV×List AV)
 | [.s .u8 b,.i .i64 c,.i .i64 d],[]=>some ((zfc (⟨b,c,d⟩:Cur)),zbI (zev (⟨b,c,d⟩:Cur)),[aS (.sl .ins) (zlS (⟨b,c,d⟩:Cur))])
 | _,_=>none
theorem zOX (c:Cur)(hb:zbN big (.agg (zbI c) :: []))(hc:zfc c=true):∃N,zkd N c=some (.agg (zbI (zev c)) :: [aS (.sl .ins) (zlS c)]):=by
 exact (zuw hc).1
theorem zId:zdJ Tryz.prog 146 [false,true,true] zoB:=by
 refine zb5 (zc7 zd8 zbo zVw zo) (zem (by kernel_rfl)) ?_
 intro cs avs cs' rs hl hr h;have hb:=zcu hr;unfold zoB at h;split at h
 .obtain ⟨hc,rfl,rfl⟩:=zcT h;obtain ⟨N,hN⟩:=zOX _ (by exact hb) hc
  exact ⟨rfl,_,N,12,(zSt N _ ).trans hN⟩
 .cases h
theorem zYI {c:Cur}(h:zdI c):zfc c=true:=by
 refine zVN c ⟨3,?_⟩;unfold zkd oN
 conv=>zeta
 exact zWy h (P:=fun x=>zc6 x=true) (fc:=zfU) (fs:=zeS) (fv:=znM) (R:=fun s l=>AV.agg (zbI s) :: [aS (.sl .ins) l]) z2P zXN (fun h=>(zwK (z2P h)).2.2) (fun s l hb hi h1 h2 hl=>⟨s,l,rfl,⟨hb,hi⟩,h1,h2,hl⟩) (fun rec t i k l=>rfl)
def z0q:zdw:=[(146,([false,true,true],zoB))]++z0p
theorem zVx:zct z0q:=zel zVw (by
 intro x hx;simp only[qI,qX,or_false]at hx;rcases hx with rfl
 .exact zId)
def znZ (N:Nat)(c:Cur)  : OA :=
 (iter (σ:=(Int×(Int×(Int×(lQ×((List Int)×Unit)))))) N (fun r2 s3=>let y2:=s3.2.2.2.2.1;let y1:=(⟨y2,s3.2.1,s3.2.2.1⟩:Cur);let y0:=({ (zD y1 2) with b:=y2 }:Cur); (oN (zY y1 2) (cond (ilt s3.1 (zI .i64 1 (zba y1 2))) (oN (zfc y0) (oN (few (ln (ap s3.2.2.2.1 [(zlS y0)]))) (r2 ((zI .i64 s3.1 1),((zev y0).i,((zev y0).h,((ap s3.2.2.2.1 [(zlS y0)]),(y2,())))))))) (some [(.agg [(.s .u8 y2),(.i .i64 (zD y1 2).i),(.i .i64 (zD y1 2).h)]),(aS (.sl (.sl .ins)) s3.2.2.2.1)])))) (0,(c.i,(c.h,([],(c.b,()))))))
def zWt:FuncId->Nat->Option Tmpl:=zq [(86,0,{ n:=19,tm:=[(0,.lp 0 0),(3,.sl 0 []),(4,ti)],lo:=[(0,[.sl 1 [],ti,ti])],ro:=[(0,(.sl (.sl .ins)),true),(1,.u8,false)] })]
theorem zXB (N:Nat)(c:Cur)  : zgz (cQ zlZ znd z0q zk0) zWt N 12 86 [false,true,true] (zbI c) []=znZ N c:=by kernel_rfl
def zmI (c:Cur)(s:Cur)(v0:List (List (List Ins))):Prop:=(∃N,znZ N c=some (AV.agg (zbI s) :: [aS (.sl (.sl .ins)) v0]))/\(s.b=c.b/\0<=s.i)/\(1<=v0.length/\v0.length<=2/\∀p∈v0,1<=p.length/\p.length<=2/\∀x∈p,zc6 x=true)
def zhT (c:Cur)  : Bool:=pc (∃s v0,zmI c s v0)
def zsY (c:Cur)  : Cur×List (List (List Ins)):=Classical.epsilon fun r=>zmI c r.1 r.2
def zfW (c:Cur)  : Cur:=bif zhT c then (zsY c).1 else ⟨[],0,0⟩
def zp4 (c:Cur)  : List (List (List Ins)):=(zsY c).2
theorem zzu {c:Cur}(h:zhT c=true):zmI c (zfW c) (zp4 c):=by
 obtain ⟨s,v0,h2⟩:=zF.1 h;have h3:zmI c (zsY c).1 (zsY c).2:=Classical.epsilon_spec (p:=fun r=>zmI c r.1 r.2) ⟨(s,v0),h2⟩;unfold zfW;rw[h,cT];exact h3
theorem z0F (c:Cur)  : 0<=(zfW c).i:=by
 unfold zfW;cases h:zhT c with
 | false=>exact jW 0
 | true =>
  have:=(zzu h).2.1.2;unfold zfW at this
  rwa [h] at this
theorem z0E (c:Cur)(h:∃N,Ends (fun a=>∃s v0,a=(AV.agg (zbI s) :: [aS (.sl (.sl .ins)) v0])/\(s.b=c.b/\0<=s.i)/\(1<=v0.length/\v0.length<=2/\∀p∈v0,1<=p.length/\p.length<=2/\∀x∈p,zc6 x=true)) (znZ N c)):zhT c=true:=by
 obtain ⟨N,a,e,s,v0,rfl,h⟩:=h;exact zU ⟨s,v0,⟨N,e⟩,h⟩
def zrY:List CV->List AV->Option (Bool×List CV×List AV)
 | [.s .u8 b,.i .i64 c,.i .i64 d],[]=>some ((zhT (⟨b,c,d⟩:Cur)),zbI (zfW (⟨b,c,d⟩:Cur)),[aS (.sl (.sl .ins)) (zp4 (⟨b,c,d⟩:Cur))])
 | _,_=>none
theorem zU2 (c:Cur)(hb:zbN big (.agg (zbI c) :: []))(hc:zhT c=true):∃N,znZ N c=some (.agg (zbI (zfW c)) :: [aS (.sl (.sl .ins)) (zp4 c)]):=by
 exact (zzu hc).1
theorem zN8:zdJ Tryz.prog 86 [false,true,true] zrY:=by
 refine zb5 (zc7 zd8 zbo zVx zo) (zem (by kernel_rfl)) ?_
 intro cs avs cs' rs hl hr h;have hb:=zcu hr;unfold zrY at h;split at h
 .obtain ⟨hc,rfl,rfl⟩:=zcT h;obtain ⟨N,hN⟩:=zU2 _ (by exact hb) hc
  exact ⟨rfl,_,N,12,(zXB N _ ).trans hN⟩
 .cases h
theorem z5K {c:Cur}(h:zdI c):zhT c=true:=by
 refine z0E c ⟨3,?_⟩;unfold znZ oN
 conv=>zeta
 exact zWy h (P:=fun p=>1<=p.length/\p.length<=2/\∀x∈p,zc6 x=true) (fc:=zfc) (fs:=zev) (fv:=zlS) (R:=fun s l=>AV.agg (zbI s) :: [aS (.sl (.sl .ins)) l]) zYI zVO (fun h=>(zuw (zYI h)).2.2) (fun s l hb hi h1 h2 hl=>⟨s,l,rfl,⟨hb,hi⟩,h1,h2,hl⟩) (fun rec t i k l=>rfl)
def z0r:zdw:=[(86,([false,true,true],zrY))]++z0q
theorem zVy:zct z0r:=zel zVx (by
 intro x hx;simp only[qI,qX,or_false]at hx;rcases hx with rfl
 .exact zN8)
theorem zEf {ρ:Type}{G:ρ->Prop}{x:Bool}{a b:Option ρ}(k:Ends G a)(h:x=true:=by first
 | exact zii (by first|assumption|exact zfu (by assumption) (zcy _ _)|exact zfu (by assumption) (zh9 _ _)|exact zfu (by assumption) (zlQ _ _)) _
 | exact zVq (by first|assumption|exact zfu (by assumption) (zcy _ _)|exact zfu (by assumption) (zh9 _ _)) _
 | exact zMb (by first|assumption|exact zfu (by assumption) (zcy _ _)) (by simp)):Ends G (cond x a b):=zbq h k
def znY (N:Nat)(c:Cur)  : OA :=
 let y5:=(zba c 4);let y0:=({ (zD c 4) with b:=c.b }:Cur);let y4:=(zkP y0 4);let y3:=(zcs y0 4);let y1:=({ y3 with b:=c.b }:Cur);let y2:=({ (zcs y1 2) with b:=c.b }:Cur); (oN (zY c 4) (oN (zeu y0 4) (cond (nB y4) (cond (ine y5 2) (oN (zeu y1 2) (cond (zkP y1 2) (oN (zY y2 256) (some [(.agg [(.s .u8 c.b),(.i .i64 (zD y2 256).i),(.i .i64 (zD y2 256).h)]),(.agg [(.i .i64 y5),(.i .i64 (zba y2 256)),(.b (nB y4))])])) (some [(.agg [(.s .u8 c.b),(.i .i64 (zcs y1 2).i),(.i .i64 (zcs y1 2).h)]),(.agg [(.i .i64 y5),(.i .i64 0),(.b (nB y4))])]))) (some [(.agg [(.s .u8 c.b),(.i .i64 y3.i),(.i .i64 y3.h)]),(.agg [(.i .i64 y5),(.i .i64 0),(.b (nB y4))])])) (some [(.agg [(.s .u8 c.b),(.i .i64 y3.i),(.i .i64 y3.h)]),(.agg [(.i .i64 y5),(.i .i64 0),(.b (nB y4))])]))))
theorem zXA (N:Nat)(c:Cur)  : zgz (cQ zlZ znd z0r zk0) (zq []) N 12 205 [false,true,true] (zbI c) []=znY N c:=by kernel_rfl
def zmH (c:Cur)(s:Cur)(v0:Ctl):Prop:=(∃N,znY N c=some (AV.agg (zbI s) :: [.agg (zBW v0)]))/\(s.b=c.b/\0<=s.i)/\(True)
def zhS (c:Cur)  : Bool:=pc (∃s v0,zmH c s v0)
def zsX (c:Cur)  : Cur×Ctl:=Classical.epsilon fun r=>zmH c r.1 r.2
def zfb (c:Cur)  : Cur:=bif zhS c then (zsX c).1 else ⟨[],0,0⟩
def zkS (c:Cur)  : Ctl:=(zsX c).2
theorem zMo {c:Cur}(h:zhS c=true):zmH c (zfb c) (zkS c):=by
 obtain ⟨s,v0,h2⟩:=zF.1 h;have h3:zmH c (zsX c).1 (zsX c).2:=Classical.epsilon_spec (p:=fun r=>zmH c r.1 r.2) ⟨(s,v0),h2⟩;unfold zfb;rw[h,cT];exact h3
theorem z0D (c:Cur)  : 0<=(zfb c).i:=by
 unfold zfb;cases h:zhS c with
 | false=>exact jW 0
 | true =>
  have:=(zMo h).2.1.2;unfold zfb at this
  rwa [h] at this
theorem z0C (c:Cur)(h:∃N,Ends (fun a=>∃s v0,a=(AV.agg (zbI s) :: [.agg (zBW v0)])/\(s.b=c.b/\0<=s.i)/\(True)) (znY N c)):zhS c=true:=by
 obtain ⟨N,a,e,s,v0,rfl,h⟩:=h;exact zU ⟨s,v0,⟨N,e⟩,h⟩
def zrX:List CV->List AV->Option (Bool×List CV×List AV)
 | [.s .u8 b,.i .i64 c,.i .i64 d],[]=>some ((zhS (⟨b,c,d⟩:Cur)),zbI (zfb (⟨b,c,d⟩:Cur)),[.agg (zBW (zkS (⟨b,c,d⟩:Cur)))])
 | _,_=>none
theorem zU1 (c:Cur)(hb:zbN big (.agg (zbI c) :: []))(hc:zhS c=true):∃N,znY N c=some (.agg (zbI (zfb c)) :: [.agg (zBW (zkS c))]):=by
 exact (zMo hc).1
theorem zN7:zdJ Tryz.prog 205 [false,true,true] zrX:=by
 refine zb5 (zc7 zd8 zbo zVy zo) (zem (by kernel_rfl)) ?_
 intro cs avs cs' rs hl hr h;have hb:=zcu hr;unfold zrX at h;split at h
 .obtain ⟨hc,rfl,rfl⟩:=zcT h;obtain ⟨N,hN⟩:=zU1 _ (by exact hb) hc
  exact ⟨rfl,_,N,12,(zXA N _ ).trans hN⟩
 .cases h
theorem z98 {c:Cur}(h:zdI c):zhS c=true:=by
 refine z0C c ⟨0,?_⟩;unfold znY oN nB
 conv=>zeta
 refine zEf (zEf (zdn (fun _=>zdn (fun _=>zEf (zdn (fun _=>zEf (?_)) (fun _=>?_))) (fun _=>?_)) (fun _=>?_)))
 all_goals exact zlf (fun x=>AV.agg (zBW x)) (v:=⟨_,_,_⟩) (by first|exact zcy _ _|exact zh9 _ _) trivial
def z0s:zdw:=[(205,([false,true,true],zrX))]++z0r
theorem zIL:zct z0s:=zel zVy (by
 intro x hx;simp only[qI,qX,or_false]at hx;rcases hx with rfl
 .exact zN7)
theorem zdO {ρ:Type}{G:ρ->Prop}{x:Bool}{a b:Option ρ}(k:Ends G a)(h:x=true:=by first
 | exact zii (by first|assumption|exact zfu (by assumption) (zcy _ _)|exact zfu (by assumption) (zlQ _ _)) _
 | exact zMb (by first|assumption|exact zfu (by assumption) (zcy _ _)) (by simp)
 | exact z98 (zfu (by assumption) (zcy _ _))):Ends G (cond x a b):=zbq h k
def zn0 (N:Nat)(c:Cur)  : OA :=
 let y13:=({ (zD c 2) with b:=c.b }:Cur);let y8:=(zba c 2);let y2:=(zba y13 2);let y1:=({ (zD y13 2) with b:=c.b }:Cur);let y10:=(zD y1 24);let y5:=(zba y1 24);let y0:=({ y10 with b:=c.b }:Cur);let y14:=(zD y0 8);let y12:=({ (zD y0 4) with b:=c.b }:Cur);let y11:=({ y14 with b:=c.b }:Cur);let y9:=({ (zD y0 16) with b:=c.b }:Cur);let y7:=({ (zbZ y0 [16,17]) with b:=c.b }:Cur);let y6:=({ (zbZ y0 [13,13,14,15]) with b:=c.b }:Cur);let y4:=({ (zD y11 4) with b:=c.b }:Cur);let y3:=({ (zD y12 8) with b:=c.b }:Cur); (share (oN (zdA y0 [13,13,14,15]) (oN (zY y6 8) (some [(.agg [(.s .u8 c.b),(.i .i64 (zD y6 8).i),(.i .i64 (zD y6 8).h)]),(.agg [(.i .i64 (zfa y0 [13,13,14,15])),(.i .i64 y8),(.i .i64 y2),(.i .i64 (zba y6 8)),(.i .i64 0),(.i .i64 0)])]))) (fun t5=>(share (cond (ieq y5 16) (oN (zdA y0 [16,17]) (oN (zY y7 4) (some [(.agg [(.s .u8 c.b),(.i .i64 (zD y7 4).i),(.i .i64 (zD y7 4).h)]),(.agg [(.i .i64 (zfa y0 [16,17])),(.i .i64 y8),(.i .i64 y2),(.i .i64 (zba y7 4)),(.i .i64 0),(.i .i64 0)])]))) (some [(.agg [(.s .u8 c.b),(.i .i64 y10.i),(.i .i64 y10.h)]),(.agg [(.i .i64 1),(.i .i64 y8),(.i .i64 y2),(.i .i64 0),(.i .i64 0),(.i .i64 0)])])) (fun t4=>(share (oN (zY y0 4) (oN (zY y12 8) (oN (zdA y3 [3,3,1,2]) (some [(.agg [(.s .u8 c.b),(.i .i64 (zbZ y3 [3,3,1,2]).i),(.i .i64 (zbZ y3 [3,3,1,2]).h)]),(.agg [(.i .i64 2),(.i .i64 y8),(.i .i64 y2),(.i .i64 (zba y0 4)),(.i .i64 (zba y12 8)),(.i .i64 (zfa y3 [3,3,1,2]))])])))) (fun t3=>(share (oN (zY y0 4) (some [(.agg [(.s .u8 c.b),(.i .i64 (zD y0 4).i),(.i .i64 (zD y0 4).h)]),(.agg [(.i .i64 3),(.i .i64 y8),(.i .i64 y2),(.i .i64 (zba y0 4)),(.i .i64 0),(.i .i64 0)])])) (fun t2=>(share (cond (ieq y5 7) (oN (zY y0 8) (some [(.agg [(.s .u8 c.b),(.i .i64 y14.i),(.i .i64 y14.h)]),(.agg [(.i .i64 6),(.i .i64 y8),(.i .i64 y2),(.i .i64 (zba y0 8)),(.i .i64 0),(.i .i64 0)])])) (cond (ieq y5 8) (oN (zhS y0) (cond ((zkS y0).Open) (some [(.agg [(.s .u8 c.b),(.i .i64 (zfb y0).i),(.i .i64 (zfb y0).h)]),(.agg [(.i .i64 7),(.i .i64 y8),(.i .i64 y2),(.i .i64 (zkS y0).Traps),(.i .i64 (zkS y0).Post),(.i .i64 1)])]) (some [(.agg [(.s .u8 c.b),(.i .i64 (zfb y0).i),(.i .i64 (zfb y0).h)]),(.agg [(.i .i64 7),(.i .i64 y8),(.i .i64 y2),(.i .i64 (zkS y0).Traps),(.i .i64 (zkS y0).Post),(.i .i64 0)])]))) (cond (ieq y5 9) (oN (zY y0 8) (oN (zY y11 4) (oN (zY y4 100) (some [(.agg [(.s .u8 c.b),(.i .i64 (zD y4 100).i),(.i .i64 (zD y4 100).h)]),(.agg [(.i .i64 8),(.i .i64 y8),(.i .i64 y2),(.i .i64 (zba y0 8)),(.i .i64 (zba y11 4)),(.i .i64 (zba y4 100))])])))) (cond (ieq y5 10) (oN (zY y0 8) (some [(.agg [(.s .u8 c.b),(.i .i64 y14.i),(.i .i64 y14.h)]),(.agg [(.i .i64 9),(.i .i64 y8),(.i .i64 y2),(.i .i64 (zba y0 8)),(.i .i64 0),(.i .i64 0)])])) (cond (ieq y5 11) (some [(.agg [(.s .u8 c.b),(.i .i64 y10.i),(.i .i64 y10.h)]),(.agg [(.i .i64 10),(.i .i64 y8),(.i .i64 y2),(.i .i64 0),(.i .i64 0),(.i .i64 0)])]) (cond (ieq y5 12) (oN (zY y0 16) (oN (zY y9 100) (some [(.agg [(.s .u8 c.b),(.i .i64 (zD y9 100).i),(.i .i64 (zD y9 100).h)]),(.agg [(.i .i64 11),(.i .i64 y8),(.i .i64 y2),(.i .i64 (zba y0 16)),(.i .i64 (zba y9 100)),(.i .i64 0)])]))) (cond (ieq y5 13) (oN (zY y0 16) (some [(.agg [(.s .u8 c.b),(.i .i64 (zD y0 16).i),(.i .i64 (zD y0 16).h)]),(.agg [(.i .i64 12),(.i .i64 y8),(.i .i64 y2),(.i .i64 (zba y0 16)),(.i .i64 0),(.i .i64 0)])])) (cond (ieq y5 14) (cond (ieq y5 14) t5 t4) (cond (ieq y5 15) t5 t4))))))))) (fun t0=>(share (cond (ieq y5 4) (oN (zY y0 100) (some [(.agg [(.s .u8 c.b),(.i .i64 (zD y0 100).i),(.i .i64 (zD y0 100).h)]),(.agg [(.i .i64 4),(.i .i64 y8),(.i .i64 y2),(.i .i64 (zba y0 100)),(.i .i64 0),(.i .i64 0)])])) (cond (ieq y5 5) (cond (ieq y5 5) (some [(.agg [(.s .u8 c.b),(.i .i64 y10.i),(.i .i64 y10.h)]),(.agg [(.i .i64 5),(.i .i64 y8),(.i .i64 y2),(.i .i64 0),(.i .i64 0),(.i .i64 0)])]) t0) (cond (ieq y5 6) (some [(.agg [(.s .u8 c.b),(.i .i64 y10.i),(.i .i64 y10.h)]),(.agg [(.i .i64 5),(.i .i64 y8),(.i .i64 y2),(.i .i64 0),(.i .i64 0),(.i .i64 0)])]) t0))) (fun t1=>(share (cond (ieq y5 2) (cond (ieq y5 2) t2 t1) (cond (ieq y5 3) t2 t1)) (fun t6=>(oN (zY c 2) (oN (zY y13 2) (oN (zY y1 24) (cond (ieq y5 0) (cond (ieq y5 0) t3 t6) (cond (ieq y5 1) t3 t6)))))))))))))))))))
theorem zXD (N:Nat)(c:Cur)  : zgz (cQ zlZ znd z0s zk0) (zq []) N 12 149 [false,true,true] (zbI c) []=zn0 N c:=by kernel_rfl
def zmK (c:Cur)(s:Cur)(v0:GAct):Prop:=(∃N,zn0 N c=some (AV.agg (zbI s) :: [aT .act v0]))/\(s.b=c.b/\0<=s.i)/\(True)
def zfX (c:Cur)  : Bool:=pc (∃s v0,zmK c s v0)
def zs3 (c:Cur)  : Cur×GAct:=Classical.epsilon fun r=>zmK c r.1 r.2
def zef (c:Cur)  : Cur:=bif zfX c then (zs3 c).1 else ⟨[],0,0⟩
def znr (c:Cur)  : GAct:=(zs3 c).2
theorem zMp {c:Cur}(h:zfX c=true):zmK c (zef c) (znr c):=by
 obtain ⟨s,v0,h2⟩:=zF.1 h;have h3:zmK c (zs3 c).1 (zs3 c).2:=Classical.epsilon_spec (p:=fun r=>zmK c r.1 r.2) ⟨(s,v0),h2⟩;unfold zef;rw[h,cT];exact h3
theorem z0H (c:Cur)  : 0<=(zef c).i:=by
 unfold zef;cases h:zfX c with
 | false=>exact jW 0
 | true =>
  have:=(zMp h).2.1.2;unfold zef at this
  rwa [h] at this
theorem z0G (c:Cur)(h:∃N,Ends (fun a=>∃s v0,a=(AV.agg (zbI s) :: [aT .act v0])/\(s.b=c.b/\0<=s.i)/\(True)) (zn0 N c)):zfX c=true:=by
 obtain ⟨N,a,e,s,v0,rfl,h⟩:=h;exact zU ⟨s,v0,⟨N,e⟩,h⟩
def zrZ:List CV->List AV->Option (Bool×List CV×List AV)
 | [.s .u8 b,.i .i64 c,.i .i64 d],[]=>some ((zfX (⟨b,c,d⟩:Cur)),zbI (zef (⟨b,c,d⟩:Cur)),[aT .act (znr (⟨b,c,d⟩:Cur))])
 | _,_=>none
theorem zU6 (c:Cur)(hb:zbN big (.agg (zbI c) :: []))(hc:zfX c=true):∃N,zn0 N c=some (.agg (zbI (zef c)) :: [aT .act (znr c)]):=by
 exact (zMp hc).1
theorem zOc:zdJ Tryz.prog 149 [false,true,true] zrZ:=by
 refine zb5 (zc7 zd8 zbo zIL zo) (zem (by kernel_rfl)) ?_
 intro cs avs cs' rs hl hr h;have hb:=zcu hr;unfold zrZ at h;split at h
 .obtain ⟨hc,rfl,rfl⟩:=zcT h;obtain ⟨N,hN⟩:=zU6 _ (by exact hb) hc
  exact ⟨rfl,_,N,12,(zXD N _ ).trans hN⟩
 .cases h
theorem z95 {c:Cur}(h:zdI c):zfX c=true:=by
 refine z0G c ⟨0,?_⟩;unfold zn0 oN
 conv=>zeta
 refine zm1 (zdO (zdO (?_))) (fun _ ht5=>zm1 (zdn (fun _=>zdO (zdO (?_))) (fun _=>?_)) (fun _ ht4=>zm1 (zdO (zdO (zdO (?_)))) (fun _ ht3=>zm1 (zdO (?_)) (fun _ ht2=>zm1 (zdn (fun _=>zdO (?_)) (fun _=>zdn (fun _=>zdO (zdn (fun _=>?_) (fun _=>?_))) (fun _=>zdn (fun _=>zdO (zdO (zdO (?_)))) (fun _=>zdn (fun _=>zdO (?_)) (fun _=>zdn (fun _=>?_) (fun _=>zdn (fun _=>zdO (zdO (?_))) (fun _=>zdn (fun _=>zdO (?_)) (fun _=>zdn (fun _=>zdn (fun _=>ht5) (fun _=>ht4)) (fun _=>zdn (fun _=>ht5) (fun _=>ht4)))))))))) (fun _ ht0=>zm1 (zdn (fun _=>zdO (?_)) (fun _=>zdn (fun _=>zdn (fun _=>?_) (fun _=>ht0)) (fun _=>zdn (fun _=>?_) (fun _=>ht0)))) (fun _ ht1=>zm1 (zdn (fun _=>zdn (fun _=>ht2) (fun _=>ht1)) (fun _=>zdn (fun _=>ht2) (fun _=>ht1))) (fun _ ht6=>zdO (zdO (zdO (zdn (fun _=>zdn (fun _=>ht3) (fun _=>ht6)) (fun _=>zdn (fun _=>ht3) (fun _=>ht6))))))))))))
 all_goals exact zlf (aT .act) (v:=⟨_,_,_,_,_,_⟩) (by first|exact zcy _ _|exact zlQ _ _|exact z0D _) trivial
def zke (N:Nat)  : OA :=
 (iter (σ:=(Int×(lA×Unit))) N (fun r1 s2=>(cond (ilt s2.1 2) (iter (σ:=(Int×(Int×(lA×Unit)))) N (fun r3 s4=>(cond (ilt s4.2.1 2) (iter (σ:=(Int×(Int×(Int×(lA×Unit))))) N (fun r5 s6=>let y0:=(ap s6.2.2.2.1 [(⟨2,s6.1,s6.2.1,s6.2.2.1,(zI .i64 s6.2.2.1 (zl2 .i64 3 s6.2.1)),3⟩:GAct),(⟨3,s6.1,s6.2.1,s6.2.2.1,0,0⟩:GAct)]); (cond (ilt s6.2.2.1 3) (oN (few (ln y0)) (r5 (s6.1,(s6.2.1,((zI .i64 s6.2.2.1 1),(y0,())))))) (r3 (s6.1,((zI .i64 s6.2.1 1),(s6.2.2.2.1,())))))) (s4.1,(s4.2.1,(0,(s4.2.2.1,()))))) (r1 ((zI .i64 s4.1 1),(s4.2.2.1,()))))) (s2.1,(0,(s2.2.1,())))) (some [(aS .act s2.2.1)]))) (0,([],())))
def zPy:FuncId->Nat->Option Tmpl:=zq [(148,0,{ n:=34,tm:=[(1,.sl 0 []),(2,ti)],lo:=[],ro:=[(0,.act,true)] }),(148,2,{ n:=34,tm:=[(1,.sl 0 []),(2,ti),(3,ti)],lo:=[],ro:=[(0,.act,true)] }),(148,4,{ n:=34,tm:=[(1,.sl 0 []),(2,ti),(3,ti),(4,ti)],lo:=[],ro:=[(0,.act,true)] })]
def zjE  (v0:List GAct):Prop:=(∃N,zke N=some [aS .act v0])/\(v0.length<=45)
def ziH  : Bool:=pc (∃v0,zjE v0)
def zDR  : List GAct:=Classical.epsilon fun r=>zjE r
def zs4  : List GAct:=(zDR)
theorem zDQ  (h:ziH=true):zjE zs4:=by
 obtain ⟨v0,h2⟩:=zF.1 h;have h3:zjE (zDR):=Classical.epsilon_spec (p:=fun r=>zjE r) ⟨v0,h2⟩;exact h3
theorem zVP  (h:∃N,Ends (fun a=>∃v0,a=[aS .act v0]/\(v0.length<=45)) (zke N)):ziH=true:=by
 obtain ⟨N,a,e,v0,rfl,h⟩:=h;exact zU ⟨v0,⟨N,e⟩,h⟩
def zx7:Run:=rF0 (ziH,[aS .act zs4])
theorem zOY  (hc:ziH=true):∃N,zke N  = some [aS .act zs4]:=by
 exact (zDQ hc).1
theorem zIe:vJ 148 zx7:=kF0 zd8 zbo zIL zo zPy zOY
def z1b:List GAct:=match zke 10 with
 | some [.one (.s .act l)]=>l
 | _=>[]
theorem zYf:ziH=true:=zVP ⟨10,_,(by kernel_rfl:zke 10=some [aS .act z1b]),z1b,rfl,Nat.le_of_ble_eq_true (by kernel_rfl)⟩
def z0t:zdw:=[(149,([false,true,true],zrZ))]++z0s
theorem zVz:zct z0t:=zel zIL (by
 intro x hx;simp only[qI,qX,or_false]at hx;rcases hx with rfl
 .exact zOc)
def z1f:zO:=[(148,zx7)]++zlZ
theorem z1g:zG z1f:=zh zIe zd8
theorem zQy {c:Cur}(h:zdI c){m:Int}(h0:0<=m)(hm:m<=1000){G:Ans->Prop}{R:Cur->List GAct->Ans}(hG:∀s l,s.b=c.b->0<=s.i->ln l<=45+m->G (R s l)){F:(Int×Int×Int×Int×List GAct×List Int×Unit->OA)->Int×Int×Int×Int×List GAct×List Int×Unit->OA}(hF:∀rec t i k l,F rec (m,t,i,k,l,c.b,())=bif zY ⟨c.b,i,k⟩ (zI .i64 m 1) then (bif ilt t (zba ⟨c.b,i,k⟩ (zI .i64 m 1)) then (bif zfX { zD ⟨c.b,i,k⟩ (zI .i64 m 1) with b:=c.b } then (bif few (ln (ap l [znr { zD ⟨c.b,i,k⟩ (zI .i64 m 1) with b:=c.b }])) then
        rec (m,zI .i64 t 1,(zef { zD ⟨c.b,i,k⟩ (zI .i64 m 1) with b:=c.b }).i,(zef { zD ⟨c.b,i,k⟩ (zI .i64 m 1) with b:=c.b }).h,ap l [znr { zD ⟨c.b,i,k⟩ (zI .i64 m 1) with b:=c.b }],c.b,()) else none) else none) else some (R ⟨c.b,(zD ⟨c.b,i,k⟩ (zI .i64 m 1)).i,(zD ⟨c.b,i,k⟩ (zI .i64 m 1)).h⟩ l)) else none){i0 k0:Int}(hi0:0<=i0){l0:List GAct}(hl0:l0.length<=45):Ends G (iter 1002 F (m,0,i0,k0,l0,c.b,())):=by
 refine zxc (fun n s=>s.1=m/\s.2.1+(n:Int)=1000/\0<=s.2.1/\0<=s.2.2.1/\(ln s.2.2.2.2.1<=45+s.2.1/\s.2.1<=m)/\s.2.2.2.2.2.1=c.b) ?_ 1002 1000 _ ⟨rfl,rfl,jW 0,hi0,⟨by unfold ln;show ((l0.length:Nat):Int)<=45+0;omega,h0⟩,rfl⟩ (by omega)
 rintro n ⟨q,t,i,k,l,b,u⟩ rec ⟨h0,h1,h2,h3,⟨h5,hq⟩,h6⟩ hrec
 dsimp only at h0 h1 h2 h3 h5 h6 hq
 subst h6;subst h0;rw[hF];have hcur:zdI ⟨c.b,i,k⟩:=zfu h h3;have hw:=znT (x:=q) (y:=1) (by omega) (by omega) (by omega) (by omega)
 have hx:=zmZ hcur (n:=zI .i64 q 1) (by omega)
 have h7:zdI { zD ⟨c.b,i,k⟩ (zI .i64 q 1) with b:=c.b }:=zfu h (zcy _ _);refine zbq (zii hcur _) (zdn (fun hc=>?_) (fun hc=>?_))
 .have hlt:t<zba ⟨c.b,i,k⟩ (zI .i64 q 1):=qE hc;have ht:=znT (y:=1) h2 (by omega) (by omega) (by omega)
  refine zbq (z95 h7) (zbq (zxe (by rw[zqq];omega)) (hrec (n-1) _ (by omega) ⟨rfl,?_,?_,z0H _,⟨?_,?_⟩,rfl⟩))
  .show zI .i64 t 1+_=1000
   omega
  .show 0<=zI .i64 t 1
   omega
  .show ln (ap l [_])<=45+zI .i64 t 1
   rw[zqq];omega
  .show zI .i64 t 1<=q
   omega
 .refine zKj (hG _ l rfl (zcy _ _) ?_);omega
def zl8 (N:Nat)(c:Cur)(a0:Int):OA:=
 (oN (zeu c 5) (cond (nB (zkP c 5)) (oN ziH (iter (σ:=(Int×(Int×(Int×(Int×(lA×((List Int)×Unit))))))) N (fun r3 s4=>let y6:=s4.2.2.2.2.2.1;let y4:=(zI .i64 s4.1 1);let y2:=(⟨y6,s4.2.2.1,s4.2.2.2.1⟩:Cur);let y0:=({ (zD y2 y4) with b:=y6 }:Cur);let y8:=(ap s4.2.2.2.2.1 [(znr y0)]); (oN (zY y2 y4) (cond (ilt s4.2.1 (zba y2 y4)) (oN (zfX y0) (oN (few (ln y8)) (r3 (s4.1,((zI .i64 s4.2.1 1),((zef y0).i,((zef y0).h,(y8,(y6,()))))))))) (some [(.agg [(.s .u8 y6),(.i .i64 (zD y2 y4).i),(.i .i64 (zD y2 y4).h)]),(aS .act s4.2.2.2.2.1)])))) (a0,(0,((zcs c 5).i,((zcs c 5).h,(zs4,(c.b,())))))))) (iter (σ:=(Int×(Int×(Int×(Int×(lA×((List Int)×Unit))))))) N (fun r3 s4=>let y7:=s4.2.2.2.2.2.1;let y5:=(zI .i64 s4.1 1);let y3:=(⟨y7,s4.2.2.1,s4.2.2.2.1⟩:Cur);let y1:=({ (zD y3 y5) with b:=y7 }:Cur);let y9:=(ap s4.2.2.2.2.1 [(znr y1)]); (oN (zY y3 y5) (cond (ilt s4.2.1 (zba y3 y5)) (oN (zfX y1) (oN (few (ln y9)) (r3 (s4.1,((zI .i64 s4.2.1 1),((zef y1).i,((zef y1).h,(y9,(y7,()))))))))) (some [(.agg [(.s .u8 y7),(.i .i64 (zD y3 y5).i),(.i .i64 (zD y3 y5).h)]),(aS .act s4.2.2.2.2.1)])))) (a0,(0,((zcs c 5).i,((zcs c 5).h,([],(c.b,())))))))))
def zSF:FuncId->Nat->Option Tmpl:=zq [(87,0,{ n:=26,tm:=[(0,.lp 0 0),(1,ti),(5,.sl 0 []),(6,ti)],lo:=[(0,[.sl 1 [],ti,ti])],ro:=[(0,.act,true),(1,.u8,false)] })]
theorem zVp (N:Nat)(c:Cur)(a0:Int):zgz (cQ z1f znd z0t zk0) zSF N 12 87 [false,true,true] (zbI c) [aI a0]=zl8 N c a0:=by kernel_rfl
def zkU (c:Cur)(a0:Int)(s:Cur)(v0:List GAct):Prop:=(∃N,zl8 N c a0=some (AV.agg (zbI s) :: [aS .act v0]))/\(s.b=c.b/\0<=s.i)/\(ln v0<=45+a0)
def zgR (c:Cur)(a0:Int):Bool:=pc (∃s v0,zkU c a0 s v0)
def zq0 (c:Cur)(a0:Int):Cur×List GAct:=Classical.epsilon fun r=>zkU c a0 r.1 r.2
def zfY (c:Cur)(a0:Int):Cur:=bif zgR c a0 then (zq0 c a0).1 else ⟨[],0,0⟩
def znP (c:Cur)(a0:Int):List GAct:=(zq0 c a0).2
theorem zwL {c:Cur}{a0:Int}(h:zgR c a0=true):zkU c a0 (zfY c a0) (znP c a0):=by
 obtain ⟨s,v0,h2⟩:=zF.1 h;have h3:zkU c a0 (zq0 c a0).1 (zq0 c a0).2:=Classical.epsilon_spec (p:=fun r=>zkU c a0 r.1 r.2) ⟨(s,v0),h2⟩;unfold zfY;rw[h,cT];exact h3
theorem zXQ (c:Cur)(a0:Int):0<=(zfY c a0).i:=by
 unfold zfY;cases h:zgR c a0 with
 | false=>exact jW 0
 | true =>
  have:=(zwL h).2.1.2;unfold zfY at this
  rwa [h] at this
theorem zXP (c:Cur)(a0:Int)(h:∃N,Ends (fun a=>∃s v0,a=(AV.agg (zbI s) :: [aS .act v0])/\(s.b=c.b/\0<=s.i)/\(ln v0<=45+a0)) (zl8 N c a0)):zgR c a0=true:=by
 obtain ⟨N,a,e,s,v0,rfl,h⟩:=h;exact zU ⟨s,v0,⟨N,e⟩,h⟩
def zpI:List CV->List AV->Option (Bool×List CV×List AV)
 | [.s .u8 b,.i .i64 c,.i .i64 d],[.one (.i .i64 e)]=>some ((zgR (⟨b,c,d⟩:Cur) e),zbI (zfY (⟨b,c,d⟩:Cur) e),[aS .act (znP (⟨b,c,d⟩:Cur) e)])
 | _,_=>none
theorem zSp (c:Cur)(a0:Int)(hb:zbN big (.agg (zbI c) :: [aI a0]))(hc:zgR c a0=true):∃N,zl8 N c a0=some (.agg (zbI (zfY c a0)) :: [aS .act (znP c a0)]):=by
 exact (zwL hc).1
theorem zLp:zdJ Tryz.prog 87 [false,true,true] zpI:=by
 refine zb5 (zc7 z1g zbo zVz zo) (zem (by kernel_rfl)) ?_
 intro cs avs cs' rs hl hr h;have hb:=zcu hr;unfold zpI at h;split at h
 .obtain ⟨hc,rfl,rfl⟩:=zcT h;obtain ⟨N,hN⟩:=zSp _ _ (by exact hb) hc
  exact ⟨rfl,_,N,12,(zVp N _ _ ).trans hN⟩
 .cases h
theorem z05 {c:Cur}(h:zdI c){m:Int}(h0:0<=m)(hm:m<=1000):zgR c m=true:=by
 refine zXP c m ⟨1002,?_⟩;unfold zl8 oN nB
 conv=>zeta
 have g:=zDQ zYf;exact zbq (zVq h 5) (zdn (fun _=>zbq zYf (zQy h h0 hm (R:=fun s l=>AV.agg (zbI s) :: [aS .act l]) (fun s l hb hi hl=>⟨s,l,rfl,⟨hb,hi⟩,hl⟩) (fun rec t i k l=>rfl) (zh9 _ _) g.2)) (fun _=>zQy h h0 hm (R:=fun s l=>AV.agg (zbI s) :: [aS .act l]) (fun s l hb hi hl=>⟨s,l,rfl,⟨hb,hi⟩,hl⟩) (fun rec t i k l=>rfl) (zh9 _ _) (jV _)))
def z0u:zdw:=[(87,([false,true,true],zpI))]++z0t
theorem zVA:zct z0u:=zel zVz (by
 intro x hx;simp only[qI,qX,or_false]at hx;rcases hx with rfl
 .exact zLp)
def zD9 (h:Host):Prop:=∃ps l,zJ0 ps/\(1<=ps.length/\∀p∈ps,1<=p.length/\∀x∈p,zc6 x=true)/\h=(zyL ps l).1
theorem z5d {p:List Ins}(h:zc6 p=true):p.length<=12:=by
 unfold zc6 at h;cases hc:p.all zdM with
 | false=>rw[hc]at h;cases h
 | true =>
  rw[hc,cT]at h;have h2:=(zfh.1 h).2;unfold ln at h2;omega
def zl7 (N:Nat)(c:Cur)  : OA :=
 let y0:=({ (zfW c) with b:=c.b }:Cur); (oN (zhT c) (oN (zgR y0 20) (oN (zun (zp4 c) (znP y0 20)) (some [(.agg [(.s .u8 c.b),(.i .i64 (zfY y0 20).i),(.i .i64 (zfY y0 20).h)]),(aH (zum (zp4 c) (znP y0 20)))]))))
theorem zVk (N:Nat)(c:Cur)  : zgz (cQ zHo znd z0u zk0) (zq []) N 12 31 [false,true,true] (zbI c) []=zl7 N c:=by kernel_rfl
def zkT (c:Cur)(s:Cur)(v0:Host):Prop:=(∃N,zl7 N c=some (AV.agg (zbI s) :: [aH v0]))/\(s.b=c.b/\0<=s.i)/\(zD9 v0)
def zew (c:Cur)  : Bool:=pc (∃s v0,zkT c s v0)
def zqY (c:Cur)  : Cur×Host:=Classical.epsilon fun r=>zkT c r.1 r.2
def zqZ (c:Cur)  : Cur:=bif zew c then (zqY c).1 else ⟨[],0,0⟩
def ziT (c:Cur)  : Host:=(zqY c).2
theorem zGX {c:Cur}(h:zew c=true):zkT c (zqZ c) (ziT c):=by
 obtain ⟨s,v0,h2⟩:=zF.1 h;have h3:zkT c (zqY c).1 (zqY c).2:=Classical.epsilon_spec (p:=fun r=>zkT c r.1 r.2) ⟨(s,v0),h2⟩;unfold zqZ;rw[h,cT];exact h3
theorem zXO (c:Cur)(h:∃N,Ends (fun a=>∃s v0,a=(AV.agg (zbI s) :: [aH v0])/\(s.b=c.b/\0<=s.i)/\(zD9 v0)) (zl7 N c)):zew c=true:=by
 obtain ⟨N,a,e,s,v0,rfl,h⟩:=h;exact zU ⟨s,v0,⟨N,e⟩,h⟩
def zpH:List CV->List AV->Option (Bool×List CV×List AV)
 | [.s .u8 b,.i .i64 c,.i .i64 d],[]=>some ((zew (⟨b,c,d⟩:Cur)),zbI (zqZ (⟨b,c,d⟩:Cur)),[aH (ziT (⟨b,c,d⟩:Cur))])
 | _,_=>none
theorem zSj (c:Cur)(hb:zbN big (.agg (zbI c) :: []))(hc:zew c=true):∃N,zl7 N c=some (.agg (zbI (zqZ c)) :: [aH (ziT c)]):=by
 exact (zGX hc).1
theorem zLj:zdJ Tryz.prog 31 [false,true,true] zpH:=by
 refine zb5 (zc7 zwh zbo zVA zo) (zem (by kernel_rfl)) ?_
 intro cs avs cs' rs hl hr h;have hb:=zcu hr;unfold zpH at h;split at h
 .obtain ⟨hc,rfl,rfl⟩:=zcT h;obtain ⟨N,hN⟩:=zSj _ (by exact hb) hc
  exact ⟨rfl,_,N,12,(zVk N _ ).trans hN⟩
 .cases h
theorem z2a {c:Cur}(h:zdI c):zew c=true:=by
 refine zXO c ⟨0,?_⟩;have h1:zdI { zfW c with b:=c.b }:=zfu h (z0F _);have g1:=(zzu (z5K h)).2.2;have g2:=(zwL (z05 h1 (m:=20) (by omega) (by omega))).2.2
 unfold zl7 oN
 conv=>zeta
 have g3:(znP { zfW c with b:=c.b } 20).length<=65:=by
  unfold ln at g2;omega
 have S:zJ0 (zp4 c):=⟨by omega,fun p hp=>by
  have g:=g1.2.2 p hp;exact ⟨by omega,fun x hx=>by have:=z5d (g.2.2 x hx);omega⟩⟩
 exact zbq (z5K h) (zbq (z05 h1 (by omega) (by omega)) (zbq (zU ⟨S,jD g3 (by decide)⟩) (zlf aH (zXQ _ _) ⟨_,_,S,⟨g1.1,fun p hp=>⟨(g1.2.2 p hp).1,(g1.2.2 p hp).2.2⟩⟩,rfl⟩)))
def z0v:zdw:=[(31,([false,true,true],zpH))]++z0u
theorem zzf:zct z0v:=zel zVA (by
 intro x hx;simp only[qI,qX,or_false]at hx;rcases hx with rfl
 .exact zLj)
theorem zTL {α τ ρ:Type}{G:ρ->Prop}{body:Nat->α->τ->(τ->Option ρ)->Option ρ}{K:τ->Option ρ}(hb:∀i x t κ,(∀t,Ends G (κ t))->Ends G (body i x t κ))(hK:∀t,Ends G (K t)):∀(l:List α) (i:Nat) (t:τ),Ends G (goL body K l i t)
 | [],i,t=>hK t
 | x :: l,i,t=>hb i x t _ (fun t=>zTL hb hK l (i+1) t)
def znW (N:Nat)(a0:List Int):OA:=
 (iter (σ:=(Int×(Int×((List Int)×(lM×(lN×(lE×(lE×Unit)))))))) N (fun r2 s3=>let y0:=(⟨s3.2.2.1,0,s3.1⟩:Cur); (cond (ilt s3.2.1 (ln s3.2.2.1)) (cond (ilt s3.2.1 4000) (oN (inb s3.2.1 (ln s3.2.2.1)) (r2 ((wand .i64 (zI .i64 (zI .i64 (zl2 .i64 s3.1 131) (wcv .i64 (ix s3.2.2.1 s3.2.1 0))) 7) 1073741823),((zI .i64 s3.2.1 1),(s3.2.2.1,(s3.2.2.2.1,(s3.2.2.2.2.1,(s3.2.2.2.2.2.1,(s3.2.2.2.2.2.2.1,()))))))))) (oN (zew y0) (some [(aH (ziT y0))]))) (oN (zew y0) (some [(aH (ziT y0))])))) ((zI .i64 94701 (ln a0)),(0,(a0,([],([],([],([],()))))))))
def zPt:FuncId->Nat->Option Tmpl:=zq [(32,0,{ n:=32,tm:=[(0,.sl 0 []),(3,ti),(4,ti)],lo:=[(0,[.sl 1 [],.sl 2 [],.sl 3 [],.sl 4 []])],ro:=[(0,.u8,false),(1,(.sl .int),true),(2,.mon,true),(3,.entry,true),(4,.entry,true)],sk:=[(0,2,0,.lp 0 0)] })]
def zjx (a0:List Int)(v0:Host):Prop:=(∃N,znW N a0=some [aH v0])/\(zD9 v0)
def ziC (a0:List Int):Bool:=pc (∃v0,zjx a0 v0)
def zDI (a0:List Int):Host:=Classical.epsilon fun r=>zjx a0 r
def zoR (a0:List Int):Host:=(zDI a0)
theorem zDH {a0:List Int}(h:ziC a0=true):zjx a0 (zoR a0):=by
 obtain ⟨v0,h2⟩:=zF.1 h;have h3:zjx a0 (zDI a0):=Classical.epsilon_spec (p:=fun r=>zjx a0 r) ⟨v0,h2⟩;exact h3
theorem zVK (a0:List Int)(h:∃N,Ends (fun a=>∃v0,a=[aH v0]/\(zD9 v0)) (znW N a0)):ziC a0=true:=by
 obtain ⟨N,a,e,v0,rfl,h⟩:=h;exact zU ⟨v0,⟨N,e⟩,h⟩
def zxU:Run:=rF1 (dS .u8) fun b=>(ziC b,[aH (zoR b)])
theorem zOH (a0:List Int)(hc:ziC a0=true):∃N,znW N a0=some [aH (zoR a0)]:=by
 exact (zDH hc).1
theorem zHY:vJ 8 zxU:=kF1 zwh zbo zzf zo zPt zOH
theorem zKi {a0:List Int}(h:a0.length<=big):ziC a0=true:=by
 refine zVK a0 (zce fun N hNN=>?_);unfold znW oN
 conv=>zeta
 have fin:∀t,Ends (fun a=>∃v0,a=[aH v0]/\zD9 v0) (cond (zew ⟨a0,0,t⟩) (some [aH (ziT ⟨a0,0,t⟩)]) none):=fun t =>
  have hc:zdI ⟨a0,0,t⟩:=⟨jW 0,h⟩
  zbq (z2a hc) ⟨_,rfl,_,rfl,(zGX (z2a hc)).2.2⟩
 refine (congrArg (Ends _) (zbd a0 (fun i (t:Int)=>(t,(i:Int),a0,[],[],[],[],())) _ (fun i x (t:Int) κ=>bif ilt (i:Int) 4000 then κ (wand .i64 (zI .i64 (zI .i64 (zl2 .i64 t 131) (wcv .i64 x)) 7) 1073741823) else (cond (zew ⟨a0,0,t⟩) (some [aH (ziT ⟨a0,0,t⟩)]) none)) (fun (t:Int)=>(cond (zew ⟨a0,0,t⟩) (some [aH (ziT ⟨a0,0,t⟩)]) none)) (fun i hi t rec=>?_) (fun t rec=>?_) N (zI .i64 94701 (ln a0)) (hNN h))).mpr ?_
 .simp only [zbx hi,zbb hi,zbg hi,zZ hi h,cT]
 .simp only [zbp,cF]
 exact zTL (fun i x t κ hk=>zdn (fun _=>hk _) (fun _=>fin t)) fin _ _ _
def z1h:zO:=[(8,zxU)]++zHo
theorem z1i:zG z1h:=zh zHY zwh
theorem zYT:∀(l:List GAct) (u:Host×List Told),SmH u.1->SmH (zCK l u).1
 | [],u,h=>h
 | a :: l,u,h=>zYT l (zeo u.1 a,ap u.2 [zi2 u.1 a]) (zYR h)
theorem z4I {h:Host}(L:zD9 h):Safe h/\SmH h:=by
 obtain ⟨ps,l,hS,hp,rfl⟩:=L;refine ⟨?_,zYT _ _ (zYS hS)⟩;unfold zyL;rw[zYK];exact (z1Q _ (zZU hp)).1
def z1j:zO:=z1h
theorem zBZ:zG z1j:=z1i
end
end Go.Proofs.YtdaahiceaagpdaaGreat.E
