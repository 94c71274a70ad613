/- What is proved here: a part of the proof that the statement of this claim holds (several texts of wip/, laid together). -/
import Derived.Test.YtdmheolglokabaaGreatV1
import Derived.Orders
namespace Go.Proofs.YtdmheolglokabaaGreat.E
open Go
set_option linter.unusedVariables false
set_option maxRecDepth 100000
set_option linter.unusedSimpArgs false
set_option linter.unusedSectionVars false
noncomputable section
section
variable {C:Cfg} {w0 w w1:World} {S0:zbn} {U:Nat->Prop} {st st1:St} {E E1:Env} {ts:Array Value} {sv:List (Array Value)}
def Ext (l l':List (Nat×Nat)):Prop:=∀k v,zx l k=some v->zx l' k=some v
def Inj (l:List (Nat×Nat)):Prop:=∀k k' v,zx l k=some v->zx l k'=some v->k=k'
theorem zri {l l':List (Nat×Nat)}{k v:Nat}(h:zrh l k v=some l'):Ext l l'/\zx l' k=some v/\(Inj l->Inj l'):=by
 unfold zrh at h;split at h
 ·rename_i u hu;split at h
  ·rename_i he;simp only [beq_iff_eq] at he;subst he;cases h;exact ⟨fun _ _ h=>h,hu,fun h=>h⟩
  ·cases h
 ·rename_i hn;split at h
  ·cases h
  ·rename_i hany;cases h;have hnv:∀k',zx l k'≠some v:=by
    intro k' hk';have:=zk0 hk';exact hany (List.any_eq_true.2 ⟨(k',v),this,by simp⟩)
   refine ⟨fun k' v' h=>?_,by simp [zx],fun hI k1 k2 v' h1 h2=>?_⟩
   ·simp only [zx];split
    ·rename_i he;simp only [beq_iff_eq] at he;subst he;rw [hn] at h;cases h
    ·exact h
   ·simp only [zx] at h1 h2;split at h1<;>split at h2
    ·rename_i e1 e2;simp only [beq_iff_eq] at e1 e2;exact e1.symm.trans e2
    ·cases h1;exact absurd h2 (hnv _)
    ·cases h2;exact absurd h1 (hnv _)
    ·exact hI k1 k2 v' h1 h2
structure ExtB (B B':Bnd):Prop where
 r:Ext B.r B'.r
 l:Ext B.l B'.l
 ir:Inj B.r->Inj B'.r
 il:Inj B.l->Inj B'.l
theorem ExtB.refl (B:Bnd):ExtB B B:=⟨fun _ _ h=>h,fun _ _ h=>h,fun h=>h,fun h=>h⟩
theorem ExtB.trans {A B D:Bnd}(h:ExtB A B)(h':ExtB B D):ExtB A D :=
 ⟨fun k v x=>h'.r k v (h.r k v x),fun k v x=>h'.l k v (h.l k v x),fun x=>h'.ir (h.ir x),fun x=>h'.il (h.il x)⟩
def znr (B:Bnd)(base:Nat)(x:At):At->Prop
 | .bad=>True
 | .i k n=>x = .i k n
 | .b y=>x = .b y
 | .sl r1 p=>∃r r',x = .sl r' p/\r1=base+r/\zx B.r r=some r'
 | .lp l1 off=>∃l l',x = .lp l' off/\l1=base+l/\zx B.l l=some l'
 | .ep r1 p i off=>∃r r',x = .ep r' p i off/\r1=base+r/\zx B.r r=some r'
 | .fn f caps1=>∃caps',x = .fn f caps'/\caps1.length=caps'.length/\∀(k l1 l':Nat),caps1[k]?=some l1->caps'[k]?=some l'->∃l,l1=base+l/\zx B.l l=some l'
 | .kp r1 J t=>∃r r',x = .kp r' J t/\r1=base+r/\zx B.r r=some r'
theorem znr.mono {B B':Bnd}{base:Nat}{x x1:At}(h:znr B base x x1)(he:ExtB B B'):znr B' base x x1:=by
 cases x1 with
 | bad=>trivial
 | i k n=>exact h
 | b y=>exact h
 | sl r1 p=>obtain ⟨r,r',h1,h2,h3⟩:=h;exact ⟨r,r',h1,h2,he.r _ _ h3⟩
 | lp l1 off=>obtain ⟨l,l',h1,h2,h3⟩:=h;exact ⟨l,l',h1,h2,he.l _ _ h3⟩
 | ep r1 p i off=>obtain ⟨r,r',h1,h2,h3⟩:=h;exact ⟨r,r',h1,h2,he.r _ _ h3⟩
 | kp r1 J t=>obtain ⟨r,r',h1,h2,h3⟩:=h;exact ⟨r,r',h1,h2,he.r _ _ h3⟩
 | fn f caps =>
  obtain ⟨c',h1,h2,h3⟩:=h;refine ⟨c',h1,h2,fun k l1 l' hk hk'=>?_⟩;obtain ⟨l,h4,h5⟩:=h3 k l1 l' hk hk';exact ⟨l,h4,he.l _ _ h5⟩
theorem zFr:∀{js:List Nat} {p:List (Int×Nat)} {cs:List CV},idx js p=some cs->∀rest,zxy js (cs++rest)=some (p,rest)
 | [],[],cs,h,rest=>by cases h;rfl
 | [],_ :: _,cs,h,_=>by simp [idx] at h
 | _ :: _,[],cs,h,_=>by simp [idx] at h
 | j :: js,(i,j') :: p,cs,h,rest=>by
  simp only [idx] at h;split at h
  ·rename_i he;simp only [beq_iff_eq] at he;subst he;split at h
   ·rename_i cs' hcs;cases h;simp [zxy,zFr hcs rest]
   ·cases h
  ·cases h
theorem zWr {l:List (Nat×Nat)}:l.foldl (fun (acc:Option (List (Nat×Nat))) x=>match acc with|some bl=>zrh bl x.1 x.2|none=>none) none=none:=by
 induction l with
 | nil=>rfl
 | cons a l ih=>exact ih
theorem zGk:∀{cs cs':List Nat} {l l':List (Nat×Nat)},cs.length=cs'.length->(cs.zip cs').foldl (fun (acc:Option (List (Nat×Nat))) x=>match acc with|some bl=>zrh bl x.1 x.2|none=>none) (some l)=some l' ->
 Ext l l'/\(Inj l->Inj l')/\∀(k a b:Nat),cs[k]?=some a->cs'[k]?=some b->zx l' a=some b
 | [],[],l,l',_,h=>by cases h;exact ⟨fun _ _ h=>h,fun h=>h,fun k a b h=>by simp at h⟩
 | [],_ :: _,_,_,h,_=>by simp at h
 | _ :: _,[],_,_,h,_=>by simp at h
 | c :: cs,c' :: cs',l,l',hl,h=>by
  simp only [List.zip_cons_cons,List.foldl_cons] at h;cases hb:zrh l c c' with
  | none=>rw [hb,zWr] at h;cases h
  | some l1 =>
   rw [hb] at h;obtain ⟨h1,h2,h3⟩:=zri hb;obtain ⟨g1,g2,g3⟩:=zGk (by simpa using hl) h
   refine ⟨fun k v x=>g1 k v (h1 k v x),fun x=>g2 (h3 x),fun k a b ha hb'=>?_⟩;cases k with
   | zero=>simp at ha hb';subst ha hb';exact g1 _ _ h2
   | succ k=>exact g3 k a b (by simpa using ha) (by simpa using hb')
theorem zxi {B B':Bnd}{a:AT}{x:At}{cs:List CV}(base:Nat)(h:zB8 B a x=some (B',cs)):ExtB B B'/\∀rest,∃x1,putAt base a (cs++rest)=some (x1,rest)/\znr B' base x x1:=by
 unfold zB8 at h;split at h
 ·cases h;exact ⟨ExtB.refl _,fun rest=>⟨.bad,rfl,trivial⟩⟩
 ·split at h
  ·rename_i k k' n hk;subst hk;cases h;exact ⟨ExtB.refl _,fun rest=>⟨.i k n,rfl,rfl⟩⟩
  ·cases h
 ·rename_i y;cases h;exact ⟨ExtB.refl _,fun rest=>⟨.b y,rfl,rfl⟩⟩
 ·rename_i r js r' p;split at h
  ·rename_i br cs' hb hi;cases h;obtain ⟨h1,h2,h3⟩:=zri hb;exact ⟨⟨h1,fun _ _ h=>h,h3,fun h=>h⟩,fun rest=>⟨.sl (base+r) p,by simp [putAt,zFr hi rest],r,r',rfl,rfl,h2⟩⟩
  ·cases h
 ·rename_i l off l' off';split at h
  ·rename_i he;simp only [beq_iff_eq] at he;subst he;split at h
   ·rename_i bl hb;cases h;obtain ⟨h1,h2,h3⟩:=zri hb;exact ⟨⟨fun _ _ h=>h,h1,fun h=>h,h3⟩,fun rest=>⟨.lp (base+l) off,rfl,l,l',rfl,rfl,h2⟩⟩
   ·cases h
  ·cases h
 ·rename_i r js off r' p i off';split at h
  ·rename_i he;simp only [beq_iff_eq] at he;subst he;split at h
   ·rename_i br cs' hb hi;cases h;obtain ⟨h1,h2,h3⟩:=zri hb;exact ⟨⟨h1,fun _ _ h=>h,h3,fun h=>h⟩,fun rest=>⟨.ep (base+r) p i off,by simp [putAt,zFr hi],r,r',rfl,rfl,h2⟩⟩
   ·cases h
  ·cases h
 ·rename_i f caps f' caps';split at h
  ·rename_i he;simp only [Bool.and_eq_true,beq_iff_eq] at he;obtain ⟨rfl,hl⟩:=he;split at h
   ·rename_i bl hb;cases h;obtain ⟨h1,h2,h3⟩:=zGk hl hb;refine ⟨⟨fun _ _ h=>h,h1,fun h=>h,h2⟩,fun rest=>⟨.fn f (caps.map fun l=>base+l),rfl,caps',rfl,by simpa using hl,fun k l1 l' hk hk'=>?_⟩⟩
    rw [List.getElem?_map] at hk;cases hc:caps[k]? with
    | none=>rw [hc] at hk;cases hk
    | some l =>
     rw [hc] at hk;cases hk;exact ⟨l,rfl,h3 k l l' hc hk'⟩
   ·cases h
  ·cases h
 ·cases h
theorem zEf (base:Nat):∀{l:List (Nat×AT)} {B B':Bnd} {cs:List CV},zID st B l=some (B',cs)->ExtB B B'/\∀rest tm,∃tm',zOV base l (cs++rest) tm=some (tm',rest)/\tm'.length=tm.length /\
 ∀(n:Nat) (m1:MV),tm'[n]?=some m1->tm[n]?=some m1\/∃x x1,st.tm[n]?=some (.v (.at x))/\m1 = .v (.at x1)/\znr B' base x x1
 | [],B,B',cs,h=>by cases h;exact ⟨ExtB.refl _,fun rest tm=>⟨tm,rfl,rfl,fun n m1 h=>.inl h⟩⟩
 | (n,a) :: r,B,B',cs,h=>by
  simp only [zID] at h;split at h
  ·rename_i x hx;split at h
   ·rename_i B1 cs1 h1;split at h
    ·rename_i B2 cs2 h2;cases h;obtain ⟨e1,p1⟩:=zxi base h1;obtain ⟨e2,p2⟩:=zEf base h2;refine ⟨e1.trans e2,fun rest tm=>?_⟩;obtain ⟨x1,q1,c1⟩:=p1 (cs2++rest);obtain ⟨tm',q2,q3,q4⟩:=p2 rest (tm.set n (.v (.at x1)));refine ⟨tm',by simp [zOV,List.append_assoc,q1,q2],by simpa using q3,fun k m1 hk=>?_⟩
     rcases q4 k m1 hk with h|h
     ·rw [List.getElem?_set] at h;split at h
      ·rename_i he;subst he;split at h
       ·cases h;exact .inr ⟨x,x1,hx,rfl,c1.mono e2⟩
       ·cases h
      ·exact .inl h
     ·exact .inr h
    ·cases h
   ·cases h
  ·cases h
theorem zxS (base:Nat):∀{l:List AT} {xs:List At} {B B':Bnd} {cs:List CV},zlK B l xs=some (B',cs)->ExtB B B'/\∀rest,∃xs1,putCells base l (cs++rest)=some (xs1,rest)/\xs1.length=xs.length /\
 ∀(j:Nat) (x x1:At),xs[j]?=some x->xs1[j]?=some x1->znr B' base x x1
 | [],[],B,B',cs,h=>by cases h;exact ⟨ExtB.refl _,fun rest=>⟨[],rfl,rfl,fun j x x1 h=>by simp at h⟩⟩
 | [],_ :: _,_,_,_,h=>by simp [zlK] at h
 | _ :: _,[],_,_,_,h=>by simp [zlK] at h
 | a :: r,x :: y,B,B',cs,h=>by
  simp only [zlK] at h;split at h
  ·rename_i B1 cs1 h1;split at h
   ·rename_i B2 cs2 h2;cases h;obtain ⟨e1,p1⟩:=zxi base h1;obtain ⟨e2,p2⟩:=zxS base h2;refine ⟨e1.trans e2,fun rest=>?_⟩;obtain ⟨x1,q1,c1⟩:=p1 (cs2++rest);obtain ⟨xs1,q2,q3,q4⟩:=p2 rest;refine ⟨x1 :: xs1,by simp [putCells,List.append_assoc,q1,q2],by simp [q3],fun j z z1 hz hz1=>?_⟩
    cases j with
    | zero=>simp at hz hz1;subst hz hz1;exact c1.mono e2
    | succ j=>exact q4 j z z1 (by simpa using hz) (by simpa using hz1)
   ·cases h
  ·cases h
theorem zEd (base:Nat):∀{l:List (Nat×List AT)} {B B':Bnd} {cs:List CV},zIz st B l=some (B',cs)->ExtB B B'/\∀rest,∃lo1,zOT base l (cs++rest)=some (lo1,rest) /\
 ∀(l1:Nat) (xs1:List At),zx lo1 l1=some xs1->∃l l' xs,l1=base+l/\zx B'.l l=some l'/\zx st.lo l'=some xs/\xs1.length=xs.length/\∀(j:Nat) (x x1:At),xs[j]?=some x->xs1[j]?=some x1->znr B' base x x1
 | [],B,B',cs,h=>by cases h;exact ⟨ExtB.refl _,fun rest=>⟨[],rfl,fun l1 xs1 h=>by cases h⟩⟩
 | (l,xa) :: r,B,B',cs,h=>by
  simp only [zIz] at h;split at h
  ·rename_i l' hl;split at h
   ·rename_i cells hcells;split at h
    ·rename_i B1 cs1 h1;split at h
     ·rename_i B2 cs2 h2;cases h;obtain ⟨e1,p1⟩:=zxS base h1;obtain ⟨e2,p2⟩:=zEd base h2;refine ⟨e1.trans e2,fun rest=>?_⟩;obtain ⟨xs1,q1,q2,q3⟩:=p1 (cs2++rest);obtain ⟨lo1,q4,q5⟩:=p2 rest;refine ⟨(base+l,xs1) :: lo1,by simp [zOT,List.append_assoc,q1,q4],fun k ys hk=>?_⟩
      simp only [zx] at hk;split at hk
      ·rename_i he;simp only [beq_iff_eq] at he;cases hk;exact ⟨l,l',cells,he.symm,(e1.trans e2).l _ _ hl,hcells,q2,fun j x x1 hx hx1=>(q3 j x x1 hx hx1).mono e2⟩
      ·exact q5 k ys hk
     ·cases h
    ·cases h
   ·cases h
  ·cases h
theorem zEe (base:Nat){B:Bnd}:∀{l:List (Nat×Ty×Bool)} {cs:List CV},zIA st B l=some cs->∃ro1,zOU base l cs=some ro1 /\
 ∀(r1:Nat) (R1:Root),zx ro1 r1=some R1->∃r r',r1=base+r/\zx B.r r=some r'/\zx st.ro r'=some R1/\R1.ep=none
 | [],cs,h=>by cases h;exact ⟨[],rfl,fun r1 R1 h=>by cases h⟩
 | (r,t,own) :: rest,cs,h=>by
  simp only [zIA] at h;split at h
  ·rename_i r' hr;split at h
   ·rename_i R hR;split at h
    ·rename_i hc;split at h
     ·rename_i cs' hcs;cases h;obtain ⟨ro1,q1,q2⟩:=zEe base hcs;refine ⟨(base+r,⟨R.t,R.l,own,none⟩) :: ro1,by simp [zOU,q1],fun k R1 hk=>?_⟩
      simp only [zx] at hk;split at hk
      ·rename_i he;simp only [beq_iff_eq] at he;cases hk;have:(⟨R.t,R.l,own,none⟩:Root)=R:=by
        obtain ⟨_,h2,h3⟩:=hc;rw [<- h2,<- h3]
       rw [this];exact ⟨r,r',he.symm,hr,hR,hc.2.2⟩
      ·exact q2 k R1 hk
     ·cases h
    ·cases h
   ·cases h
  ·cases h
theorem zjz:∀(sig:List CTy) (cs:List CV) (s:Dat sig),unpack sig cs=some s->packs sig s=cs
 | [],[],s,_=>rfl
 | [],_ :: _,s,h=>by simp [unpack] at h
 | .i k :: sig,cs,s,h=>by
  cases cs with
  | nil=>simp [unpack] at h
  | cons c cs =>
   cases c with
   | i k' n =>
    simp only [unpack] at h;split at h
    ·rename_i hk;subst hk;split at h
     ·rename_i d hd;cases h;simp [packs,zjz sig cs d hd]
     ·cases h
    ·cases h
   | b x=>simp [unpack] at h
   | s t l=>simp [unpack] at h
 | .b :: sig,cs,s,h=>by
  cases cs with
  | nil=>simp [unpack] at h
  | cons c cs =>
   cases c with
   | i k' n=>simp [unpack] at h
   | b x =>
    simp only [unpack] at h;split at h
    ·rename_i d hd;cases h;simp [packs,zjz sig cs d hd]
    ·cases h
   | s t l=>simp [unpack] at h
 | .s t :: sig,cs,s,h=>by
  cases cs with
  | nil=>simp [unpack] at h
  | cons c cs =>
   cases c with
   | i k' n=>simp [unpack] at h
   | b x=>simp [unpack] at h
   | s t' l =>
    simp only [unpack] at h;split at h
    ·rename_i hk;subst hk;split at h
     ·rename_i d hd;cases h;simp [packs,zjz sig cs d hd]
     ·cases h
    ·cases h
def z1A (l:List (List MV)):List (List MV):=l.map fun f=>f.map fun _=>.v (.at .bad)
theorem Stack.bad:∀{l:List (List MV)} {s:List (Array Value)},Stack w st E l s->∀(w1:World) (st1:St) (E1:Env),Stack w1 st1 E1 (z1A l) s
 | [],[],_,_,_,_=>trivial
 | f :: r,ts :: s,h,w1,st1,E1=>by
  refine ⟨⟨by simpa using h.1.1,fun i m v hm hv=>?_⟩,Stack.bad h.2 w1 st1 E1⟩
  rw [List.getElem?_map] at hm;cases hf:f[i]? with
  | none=>rw [hf] at hm;cases hm
  | some y=>rw [hf] at hm;cases hm;trivial
 | [],_ :: _,h,_,_,_=>h.elim
 | _ :: _,[],h,_,_,_=>h.elim
def newEnv (B:Bnd)(base:Nat)(E:Env):Env where
 ρ n:=match zx B.r (n-base) with|some r=>E.ρ r|none=>undef
 φ n:=match zx B.r (n-base) with|some r=>E.φ r|none=>fun _=>False
 β n:=match zx B.l (n-base) with|some l=>E.β l|none=>0
 κ:=E.κ
theorem znr.va {B:Bnd}{base:Nat}{x x1:At}{v:Value}(h:znr B base x x1)(hv:VA w st E x v)(hr:∀(r r':Nat) (R1:Root),zx B.r r=some r'->st1.root (base+r)=some R1->st.root r'=some R1)(hl:∀(l l':Nat) (xs1:List At),zx B.l l=some l'->zx st1.lo (base+l)=some xs1->∃xs,zx st.lo l'=some xs):VA w st1 (newEnv B base E) x1 v:=by
 have er:∀{r r':Nat},zx B.r r=some r'->(newEnv B base E).ρ (base+r)=E.ρ r':=fun h=>by simp [newEnv,h]
 have el:∀{l l':Nat},zx B.l l=some l'->(newEnv B base E).β (base+l)=E.β l':=fun h=>by simp [newEnv,h]
 cases x1 with
 | bad=>trivial
 | i k n=>cases h;exact hv
 | b y=>cases h;exact hv
 | sl r1 p =>
  obtain ⟨r,r',rfl,rfl,h3⟩:=h;refine ⟨hv.1,fun R1 hR1=>?_⟩;rw [er h3];exact hv.2 R1 (hr r r' R1 h3 hR1)
 | lp l1 off =>
  obtain ⟨l,l',rfl,rfl,h3⟩:=h;refine ⟨hv.1,fun xs1 h1=>?_⟩;rw [el h3];obtain ⟨xs,hxs⟩:=hl l l' xs1 h3 h1;exact hv.2 xs hxs
 | ep r1 p i off =>
  obtain ⟨r,r',rfl,rfl,h3⟩:=h;refine ⟨hv.1,fun R1 hR1=>?_⟩;rw [er h3];exact hv.2 R1 (hr r r' R1 h3 hR1)
 | fn f caps1 =>
  obtain ⟨caps',rfl,hlen,h3⟩:=h;obtain ⟨vs,g1,g2,g3⟩:=hv;refine ⟨vs,g1,by rw [g2,hlen],fun k l1 u hk hu=>?_⟩
  have hlt:k<caps'.length:=by rw [<- hlen];exact (List.getElem?_eq_some_iff.1 hk).1
  have hk':=List.getElem?_eq_getElem hlt;obtain ⟨l,rfl,h5⟩:=h3 k l1 _ hk hk';obtain ⟨g4,g5⟩:=g3 k _ u hk' hu;refine ⟨g4,fun xs1 h1=>?_⟩;rw [el h5];obtain ⟨xs,hxs⟩:=hl l _ xs1 h5 h1;exact g5 xs hxs
 | kp r1 J t =>
  obtain ⟨r,r',rfl,rfl,h3⟩:=h;refine ⟨hv.1,fun R1 hR1=>?_⟩;rw [er h3];exact hv.2 R1 (hr r r' R1 h3 hR1)
theorem znr.ids {B:Bnd}{base:Nat}{x x1:At}(h:znr B base x x1){n:Nat}(hn:n∈x1.ids):∃k v,n=base+k/\(zx B.r k=some v\/zx B.l k=some v):=by
 cases x1 with
 | bad=>simp [At.ids,zbA,zbB] at hn
 | i k m=>simp [At.ids,zbA,zbB] at hn
 | b y=>simp [At.ids,zbA,zbB] at hn
 | sl r1 p =>
  obtain ⟨r,r',rfl,rfl,h3⟩:=h;simp only [At.ids,zbA,zbB,List.append_nil,List.mem_singleton] at hn;exact ⟨r,r',hn,.inl h3⟩
 | lp l1 off =>
  obtain ⟨l,l',rfl,rfl,h3⟩:=h;simp only [At.ids,zbA,zbB,List.nil_append,List.mem_singleton] at hn;exact ⟨l,l',hn,.inr h3⟩
 | ep r1 p i off =>
  obtain ⟨r,r',rfl,rfl,h3⟩:=h;simp only [At.ids,zbA,zbB,List.append_nil,List.mem_singleton] at hn;exact ⟨r,r',hn,.inl h3⟩
 | fn f caps1 =>
  obtain ⟨caps',rfl,hlen,h3⟩:=h;simp only [At.ids,zbA,zbB,List.nil_append] at hn;obtain ⟨k,hk⟩:=List.mem_iff_getElem?.1 hn;have hlt:k<caps'.length:=by rw [<- hlen];exact (List.getElem?_eq_some_iff.1 hk).1
  obtain ⟨l,h4,h5⟩:=h3 k n _ hk (List.getElem?_eq_getElem hlt);exact ⟨l,_,h4,.inr h5⟩
 | kp r1 J t =>
  obtain ⟨r,r',rfl,rfl,h3⟩:=h;simp only [At.ids,zbA,zbB,List.append_nil,List.mem_singleton] at hn;exact ⟨r,r',hn,.inl h3⟩
def zF0:At->At
 | .i k n=>.i k n
 | .b x=>.b x
 | _=>.bad
def zIr (l:List (List MV)):List (List MV):=l.map fun f=>f.map (zia zF0)
theorem zBn:∀{p q:List (Int×Nat)},zjf p q=true->p=q
 | [],[],_=>rfl
 | [(i,j)],[(i',j')],h=>by
  simp only [zjf] at h;cases hb:Nat.beq j j' with
  | false=>rw [hb] at h;cases h
  | true =>
   rw [hb] at h;rw [Nat.beq_eq] at hb;simp only [cond_true,ieq,beq_iff_eq] at h;rw [hb,h]
 | (i,j) :: a :: p,(i',j') :: q,h=>by
  cases q with
  | nil =>
   simp only [zjf] at h;cases hb:Nat.beq j j'<;>rw [hb] at h<;>simp at h
  | cons b q =>
   simp only [zjf] at h;cases hb:Nat.beq j j' with
   | false=>rw [hb] at h;cases h
   | true =>
    rw [hb] at h;simp only [cond_true,Bool.and_eq_true,ieq,beq_iff_eq] at h;rw [Nat.beq_eq] at hb;rw [hb,h.1,zBn h.2]
 | [(i,j)],(i',j') :: b :: q,h=>by
  simp only [zjf] at h;cases hb:Nat.beq j j'<;>rw [hb] at h<;>simp at h
 | [],_ :: _,h=>by simp [zjf] at h
 | [_],[],h=>by simp [zjf] at h
 | _ :: _ :: _,[],h=>by simp [zjf] at h
theorem zEq {B:Bnd}{base r' r:Nat}(h:zy9 B base r' r=true):∃k,r=base+k/\zx B.r k=some r':=by
 simp only [zy9,Bool.and_eq_true,Nat.ble_eq] at h;obtain ⟨h1,h2⟩:=h;split at h2
 ·rename_i v hv;rw [Nat.beq_eq] at h2;subst h2;exact ⟨r-base,by omega,hv⟩
 ·cases h2
theorem zDL {B:Bnd}{base:Nat}{a a1:At}(h:zft B base a a1=true):(∃k n,a1 = .i k n)\/(∃x,a1 = .b x)\/a1 = .bad\/znr B base a a1:=by
 cases a1 with
 | bad=>exact .inr (.inr (.inl rfl))
 | i k n=>exact .inl ⟨k,n,rfl⟩
 | b x=>exact .inr (.inl ⟨x,rfl⟩)
 | sl r p =>
  cases a with
  | sl r' p' =>
   simp only [zft] at h;cases hr:zy9 B base r' r with
   | false=>rw [hr] at h;cases h
   | true =>
    rw [hr] at h;obtain ⟨k,h1,h2⟩:=zEq hr;exact .inr (.inr (.inr ⟨k,r',by rw [zBn h],h1,h2⟩))
  | _=>simp [zft] at h
 | lp l o =>
  cases a with
  | lp l' o' =>
   simp only [zft,Bool.and_eq_true,Nat.ble_eq,Nat.beq_eq] at h;obtain ⟨⟨h1,h3⟩,h2⟩:=h;subst h3;split at h2
   ·rename_i v hv;rw [Nat.beq_eq] at h2;subst h2;exact .inr (.inr (.inr ⟨l-base,v,rfl,by omega,hv⟩))
   ·cases h2
  | _=>simp [zft] at h
 | ep r p i o =>
  cases a with
  | ep r' p' i' o' =>
   simp only [zft] at h;cases hr:zy9 B base r' r with
   | false=>rw [hr] at h;cases h
   | true =>
    cases ho:Nat.beq o' o with
    | false=>rw [hr,ho] at h;cases h
    | true =>
     rw [hr,ho] at h;simp only [Bool.and_self,cond_true,Bool.and_eq_true,ieq,beq_iff_eq] at h;rw [Nat.beq_eq] at ho;obtain ⟨k,h1,h2⟩:=zEq hr;exact .inr (.inr (.inr ⟨k,r',by rw [zBn h.2,h.1,ho],h1,h2⟩))
  | _=>simp [zft] at h
 | fn f c=>cases a<;>simp [zft] at h
 | kp r J t =>
  cases a with
  | kp r' J' t' =>
   simp only [zft,Bool.and_eq_true,beq_iff_eq,decide_eq_true_eq] at h;obtain ⟨k,h1,h2⟩:=zEq h.1;exact .inr (.inr (.inr ⟨k,r',by rw [h.2.1,h.2.2],h1,h2⟩))
  | _=>simp [zft] at h
theorem zwz {B:Bnd}{base:Nat}:∀{l m:List At},zCi B base l m=true->l.length=m.length/\∀(i:Nat) (a b:At),l[i]?=some a->m[i]?=some b->zft B base a b=true
 | [],[],_=>⟨rfl,fun i a b h=>by simp at h⟩
 | a :: l,b :: m,h=>by
  simp only [zCi,Bool.and_eq_true] at h;obtain ⟨h1,h2⟩:=zwz h.2;refine ⟨by simp [h1],fun i x y hx hy=>?_⟩
  cases i with
  | zero=>simp at hx hy;subst hx hy;exact h.1
  | succ i=>exact h2 i x y (by simpa using hx) (by simpa using hy)
 | [],_ :: _,h=>by cases h
 | _ :: _,[],h=>by cases h
theorem zwA {B:Bnd}{base:Nat}:∀{l m:List TV},zCj B base l m=true->l.length=m.length/\∀(i:Nat) (a b:TV),l[i]?=some a->m[i]?=some b->zBl B base a b=true
 | [],[],_=>⟨rfl,fun i a b h=>by simp at h⟩
 | a :: l,b :: m,h=>by
  simp only [zCj,Bool.and_eq_true] at h;obtain ⟨h1,h2⟩:=zwA h.2;refine ⟨by simp [h1],fun i x y hx hy=>?_⟩
  cases i with
  | zero=>simp at hx hy;subst hx hy;exact h.1
  | succ i=>exact h2 i x y (by simpa using hx) (by simpa using hy)
 | [],_ :: _,h=>by cases h
 | _ :: _,[],h=>by cases h
theorem zBk {B:Bnd}{base:Nat}:∀{l m:List MV},zOC B base l m=true->l.length=m.length/\∀(i:Nat) (a b:MV),l[i]?=some a->m[i]?=some b->zO9 B base a b=true
 | [],[],_=>⟨rfl,fun i a b h=>by simp at h⟩
 | a :: l,b :: m,h=>by
  simp only [zOC,Bool.and_eq_true] at h;obtain ⟨h1,h2⟩:=zBk h.2;refine ⟨by simp [h1],fun i x y hx hy=>?_⟩
  cases i with
  | zero=>simp at hx hy;subst hx hy;exact h.1
  | succ i=>exact h2 i x y (by simpa using hx) (by simpa using hy)
 | [],_ :: _,h=>by cases h
 | _ :: _,[],h=>by cases h
theorem zK3 {α β:Type}{f:α->β}{l:List α}{i:Nat}{x:α}(h:l[i]?=some x):(l.map f)[i]?=some (f x):=by
 rw [List.getElem?_map,h];rfl
section
variable {B:Bnd} {base:Nat} {w2:World} {st2:St} {E2:Env}
theorem zVE {a a1:At}{v:Value}(h:zft B base a a1=true)(hv:VA w st E a v)(hs:VA w2 st2 E2 (zF0 a1) v)(hr:∀(r r':Nat) (R1:Root),zx B.r r=some r'->st1.root (base+r)=some R1->st.root r'=some R1)(hl:∀(l l':Nat) (xs1:List At),zx B.l l=some l'->zx st1.lo (base+l)=some xs1->∃xs,zx st.lo l'=some xs):VA w st1 (newEnv B base E) a1 v:=by
 rcases zDL h with ⟨k,n,rfl⟩|⟨x,rfl⟩|rfl|hc
 ·exact hs
 ·exact hs
 ·trivial
 ·exact hc.va hv hr hl
theorem tvC{M:TV->Prop}(ap:∀a,M (.at a))(agg:∀l,M (.agg l)):∀x,M x
 | .at a=>ap a
 | .agg l=>agg l
theorem zVF {x x1:TV}{v:Value}(h:zBl B base x x1=true)(hv:VT w st E x v)(hs:VT w2 st2 E2 (zoZ zF0 x1) v)(hr:∀(r r':Nat) (R1:Root),zx B.r r=some r'->st1.root (base+r)=some R1->st.root r'=some R1)(hl:∀(l l':Nat) (xs1:List At),zx B.l l=some l'->zx st1.lo (base+l)=some xs1->∃xs,zx st.lo l'=some xs):VT w st1 (newEnv B base E) x1 v:=by
 cases x1 using tvC with
 | ap a1 =>
  cases x using tvC with
  | ap a=>exact zVE h hv hs hr hl
  | agg l=>cases h
 | agg m =>
  cases x using tvC with
  | ap a=>cases h
  | agg l =>
   obtain ⟨h1,h2⟩:=zwz (l:=l) (m:=m) h;obtain ⟨vs,rfl,g1,g2⟩:=hv;obtain ⟨vs',e,f1,f2⟩:=hs;cases e;refine ⟨vs,rfl,by rw [g1,h1],fun j a1 u ha hu=>?_⟩
   have hlt:j<l.length:=by rw [h1];exact (List.getElem?_eq_some_iff.1 ha).1
   have hlj:=List.getElem?_eq_getElem hlt;exact ⟨(g2 j _ u hlj hu).1,zVE (h2 j _ a1 hlj ha) (g2 j _ u hlj hu).2 (f2 j _ u (zK3 ha) hu).2 hr hl⟩
theorem z1q {x x1:MV}{v:Value}(h:zO9 B base x x1=true)(hv:VM w st E x v)(hs:VM w2 st2 E2 (zia zF0 x1) v)(hr:∀(r r':Nat) (R1:Root),zx B.r r=some r'->st1.root (base+r)=some R1->st.root r'=some R1)(hl:∀(l l':Nat) (xs1:List At),zx B.l l=some l'->zx st1.lo (base+l)=some xs1->∃xs,zx st.lo l'=some xs):VM w st1 (newEnv B base E) x1 v:=by
 cases x1 with
 | und=>cases x with
  | und=>exact hv
  | _=>cases h
 | v y1=>cases x with
  | v y=>exact zVF h hv hs hr hl
  | _=>cases h
 | tup m =>
  cases x with
  | tup l =>
   obtain ⟨h1,h2⟩:=zwA (l:=l) (m:=m) h;obtain ⟨vs,rfl,g1,g2⟩:=hv;obtain ⟨vs',e,f1,f2⟩:=hs;cases e;refine ⟨vs,rfl,by rw [g1,h1],fun j a1 u ha hu=>?_⟩
   have hlt:j<l.length:=by rw [h1];exact (List.getElem?_eq_some_iff.1 ha).1
   have hlj:=List.getElem?_eq_getElem hlt;exact zVF (h2 j _ a1 hlj ha) (g2 j _ u hlj hu) (f2 j _ u (zK3 ha) hu) hr hl
  | _=>cases h
theorem zIw (hr:∀(r r':Nat) (R1:Root),zx B.r r=some r'->st1.root (base+r)=some R1->st.root r'=some R1)(hl:∀(l l':Nat) (xs1:List At),zx B.l l=some l'->zx st1.lo (base+l)=some xs1->∃xs,zx st.lo l'=some xs):∀{stk stk1:List (List MV)} {sv:List (Array Value)},zfI B base stk stk1=true->Stack w st E stk sv->Stack w2 st2 E2 (zIr stk1) sv ->
 Stack w st1 (newEnv B base E) stk1 sv
 | [],[],sv,_,h,_=>by cases sv<;>first|trivial|exact h.elim
 | f :: stk,g :: stk1,sv,hc,h,hs=>by
  cases sv with
  | nil=>exact h.elim
  | cons ts sv =>
   simp only [zfI,Bool.and_eq_true] at hc;obtain ⟨h1,h2⟩:=zBk hc.1;refine ⟨⟨by rw [h.1.1,h1],fun i m v hm hv=>?_⟩,zIw hr hl hc.2 h.2 hs.2⟩
   have hlt:i<f.length:=by rw [h1];exact (List.getElem?_eq_some_iff.1 hm).1
   have hf:=List.getElem?_eq_getElem hlt;exact z1q (h2 i _ m hf hm) (h.1.2 i _ v hf hv) (hs.1.2 i _ v (zK3 hm) hv) hr hl
 | [],_ :: _,_,hc,_,_=>by cases hc
 | _ :: _,[],_,hc,_,_=>by cases hc
theorem zVP {a a1:At}(h:zft B base a a1=true){n:Nat}(hn:n∈a1.ids):∃k v,n=base+k/\(zx B.r k=some v\/zx B.l k=some v):=by
 rcases zDL h with ⟨k,m,rfl⟩|⟨x,rfl⟩|rfl|hc
 ·simp [At.ids,zbA,zbB] at hn
 ·simp [At.ids,zbA,zbB] at hn
 ·simp [At.ids,zbA,zbB] at hn
 ·exact hc.ids hn
theorem zGo {x x1:TV}(h:zBl B base x x1=true){b:At}(hb:b∈zW x1):∃a,zft B base a b=true:=by
 cases x1 using tvC with
 | ap a1 =>
  cases x using tvC with
  | ap a=>simp only [zW,List.mem_singleton] at hb;subst hb;exact ⟨a,h⟩
  | agg l=>cases h
 | agg m =>
  cases x using tvC with
  | ap a=>cases h
  | agg l =>
   obtain ⟨h1,h2⟩:=zwz (l:=l) (m:=m) h;obtain ⟨i,hi⟩:=List.mem_iff_getElem?.1 hb;have hlt:i<l.length:=by rw [h1];exact (List.getElem?_eq_some_iff.1 hi).1
   exact ⟨_,h2 i _ b (List.getElem?_eq_getElem hlt) hi⟩
theorem zDM:∀{stk stk1:List (List MV)},zfI B base stk stk1=true->∀f∈stk1,∀m∈f,∀n∈m.ids,∃k v,n=base+k/\(zx B.r k=some v\/zx B.l k=some v)
 | [],[],_,f,hf,_,_,_,_=>by cases hf
 | g :: stk,g1 :: stk1,hc,f,hf,m,hm,n,hn=>by
  simp only [zfI,Bool.and_eq_true] at hc;rcases List.mem_cons.1 hf with rfl|hf
  ·obtain ⟨h1,h2⟩:=zBk hc.1;obtain ⟨i,hi⟩:=List.mem_iff_getElem?.1 hm;have hlt:i<g.length:=by rw [h1];exact (List.getElem?_eq_some_iff.1 hi).1
   have hmv:=h2 i _ m (List.getElem?_eq_getElem hlt) hi;simp only [MV.ids,List.mem_flatMap] at hn;obtain ⟨b,hb,hn⟩:=hn;have:∃a,zft B base a b=true:=by
    generalize g[i]=x at hmv;cases m with
    | und=>simp [zbU] at hb
    | v y1 =>
     cases x with
     | v y=>exact zGo hmv hb
     | _=>cases hmv
    | tup l1 =>
     cases x with
     | tup l =>
      obtain ⟨k1,k2⟩:=zwA (l:=l) (m:=l1) hmv;simp only [zbU,List.mem_flatMap] at hb;obtain ⟨y,hy,hb⟩:=hb;obtain ⟨j,hj⟩:=List.mem_iff_getElem?.1 hy;have hlj:j<l.length:=by rw [k1];exact (List.getElem?_eq_some_iff.1 hj).1
      exact zGo (k2 j _ y (List.getElem?_eq_getElem hlj) hj) hb
     | _=>cases hmv
   obtain ⟨a,ha⟩:=this;exact zVP ha hn
  ·exact zDM hc.2 f hf m hm n hn
 | [],_ :: _,hc,_,_,_,_,_,_=>by cases hc
 | _ :: _,[],hc,_,_,_,_,_,_=>by cases hc
theorem z0A {a:At}{v:Value}(h:VA w st E a v):VA w2 st2 E2 (zF0 (zpk B base a)) v:=by
 cases a with
 | i k n=>exact h
 | b x=>exact h
 | sl r p=>simp only [zpk];split<;>trivial
 | lp l o=>simp only [zpk];split<;>trivial
 | ep r p i o=>simp only [zpk];split<;>trivial
 | kp r J t=>simp only [zpk];split<;>trivial
 | _=>trivial
theorem z0B {x:TV}{v:Value}(h:VT w st E x v):VT w2 st2 E2 (zoZ zF0 (zoZ (zpk B base) x)) v:=by
 cases x using tvC with
 | ap a=>exact z0A h
 | agg l =>
  obtain ⟨vs,h1,h2,h3⟩:=h;refine ⟨vs,h1,by simp [h2],fun j a u ha hu=>?_⟩
  rw [List.getElem?_map,List.getElem?_map] at ha;cases hl:l[j]? with
  | none=>rw [hl] at ha;cases ha
  | some b=>rw [hl] at ha;cases ha;exact ⟨(h3 j b u hl hu).1,z0A (h3 j b u hl hu).2⟩
theorem z2B {m:MV}{v:Value}(h:VM w st E m v):VM w2 st2 E2 (zia zF0 (zia (zpk B base) m)) v:=by
 cases m with
 | und=>exact h
 | v x=>exact z0B h
 | tup l =>
  obtain ⟨vs,h1,h2,h3⟩:=h;refine ⟨vs,h1,by simp [h2],fun j a u ha hu=>?_⟩
  rw [List.getElem?_map,List.getElem?_map] at ha;cases hl:l[j]? with
  | none=>rw [hl] at ha;cases ha
  | some b=>rw [hl] at ha;cases ha;exact z0B (h3 j b u hl hu)
theorem zF2:∀{stk:List (List MV)} {sv:List (Array Value)},Stack w st E stk sv->Stack w2 st2 E2 (zIr (zrZ B base stk)) sv
 | [],[],_=>trivial
 | f :: r,ts :: s,h=>by
  refine ⟨⟨by simp [h.1.1],fun i m v hm hv=>?_⟩,zF2 h.2⟩
  rw [List.getElem?_map,List.getElem?_map] at hm;cases hf:f[i]? with
  | none=>rw [hf] at hm;cases hm
  | some y=>rw [hf] at hm;cases hm;exact z2B (h.1.2 i y v hf hv)
 | [],_ :: _,h=>h.elim
 | _ :: _,[],h=>h.elim
end
theorem zIC:∀{l:List (Nat×Nat×Nat×AT)} {B B':Bnd},zIB st B l=some B'->ExtB B B'
 | [],B,B',h=>by
  cases h;exact .refl B
 | (f,s,k,a) :: r,B,B',h=>by
  simp only [zIB] at h;split at h
  ·split at h
   ·rename_i B1 hB;exact (zxi 0 hB).1.trans (zIC h)
   ·cases h
  ·cases h
theorem zR9 (hS:Sim w0 S0 U st E ts sv w){T:Tmpl}{B:Bnd}{cs:List CV}(h:T.takeB st=some (B,cs))(base:Nat){stk0:List (List MV)}(hstk:∀(w1:World) (st1:St) (E1:Env),Stack w1 st1 E1 (zIr stk0) sv)(hco:zfI B base st.stk stk0=true) :
 ∃st1 E1,T.put base cs=some st1/\Sim w0 S0 (fun n=>base<=n/\n<base+1000) { st1 with stk:=stk0 } E1 ts sv w/\st1.nid=base+1000:=by
 unfold Tmpl.takeB at h;split at h
 ·rename_i hn;simp only [beq_iff_eq] at hn;split at h
  ·rename_i B1 cs1 h1;split at h
   rotate_left
   ·cases h
   rename_i Bk hk;split at h
   ·rename_i Bx cs2 h2;split at h
    ·rename_i cs3 h3;split at h
     ·rename_i hok;cases h;obtain ⟨e1,p1⟩:=zEf base h1;obtain ⟨e2',p2⟩:=zEd base h2;have e2:=(zIC hk).trans e2';obtain ⟨ro1,q5,q6⟩:=zEe base h3;obtain ⟨tm',q1,q2,q3⟩:=p1 (cs2++cs3) (List.replicate T.n (.v (.at .bad)));obtain ⟨lo1,q7,q8⟩:=p2 cs3;have hinj:∀{l:List (Nat×Nat)},l=[]->Inj l:=fun h k k' v hk=>by subst h;cases hk
      have hIr:Inj B.r:=(e1.trans e2).ir (hinj rfl);have hIl:Inj B.l:=(e1.trans e2).il (hinj rfl);simp only [zZ2,Bool.and_eq_true,List.all_eq_true,decide_eq_true_eq] at hok;have hbr:∀{k v:Nat},zx B.r k=some v->base<=base+k/\base+k<base+1000:=fun h=>⟨by omega,by have:=hok.1 _ (zk0 h);simp only at this;omega⟩
      have hbl:∀{k v:Nat},zx B.l k=some v->base<=base+k/\base+k<base+1000:=fun h=>⟨by omega,by have:=hok.2 _ (zk0 h);simp only at this;omega⟩
      refine ⟨{ tm:=tm',lo:=lo1,ro:=ro1,stk:=[],nid:=base+1000,ep:=0 },newEnv B base E,?_,?_,rfl⟩
      ·simp [Tmpl.put,List.append_assoc,q1,q7,q5]
      ·generalize hst:({ tm:=tm',lo:=lo1,ro:=ro1,stk:=stk0,nid:=base+1000,ep:=0 }:St)=st1;have hroot:∀(r1:Nat) (R1:Root),st1.root r1=some R1->∃r r',r1=base+r/\zx B.r r=some r'/\st.root r'=some R1/\R1.ep=none:=by
        intro r1 R1 hR1;have:=(zbL hR1).1;rw [<- hst] at this;obtain ⟨r,r',g1,g2,g3,g4⟩:=q6 r1 R1 this;exact ⟨r,r',g1,g2,zhN g3 (.inl g4),g4⟩
       have hlo:∀(l1:Nat) (xs1:List At),zx st1.lo l1=some xs1->∃l l' xs,l1=base+l/\zx B.l l=some l'/\zx st.lo l'=some xs/\xs1.length=xs.length/\∀(j:Nat) (x x1:At),xs[j]?=some x->xs1[j]?=some x1->znr B base x x1:=by
        intro l1 xs1 h;rw [<- hst] at h;exact q8 l1 xs1 h
       have hr':∀(r r':Nat) (R1:Root),zx B.r r=some r'->st1.root (base+r)=some R1->st.root r'=some R1:=by
        intro r r' R1 hb hR1;obtain ⟨r2,r2',g1,g2,g3,_⟩:=hroot _ R1 hR1;have:r=r2:=by omega
        subst this;rw [hb] at g2;cases g2;exact g3
       have hl':∀(l l':Nat) (xs1:List At),zx B.l l=some l'->zx st1.lo (base+l)=some xs1->∃xs,zx st.lo l'=some xs:=by
        intro l l' xs1 hb h;obtain ⟨l2,l2',xs,g1,g2,g3,_⟩:=hlo _ xs1 h;have:l=l2:=by omega
        subst this;rw [hb] at g2;cases g2;exact ⟨xs,g3⟩
       have eρ:∀{r r':Nat},zx B.r r=some r'->(newEnv B base E).ρ (base+r)=E.ρ r'/\(newEnv B base E).φ (base+r)=E.φ r':=fun h=>by simp [newEnv,h]
       have eβ:∀{l l':Nat},zx B.l l=some l'->(newEnv B base E).β (base+l)=E.β l':=fun h=>by simp [newEnv,h]
       have hM:=hS.mem;refine ⟨⟨hM.os,hM.tape,hM.output,hM.size,hM.keep,?_,?_,?_,?_,?_,?_,?_,?_,hM.κ⟩,⟨?_,?_,?_,?_⟩,⟨?_,?_⟩,?_⟩
       ·intro r1 R1 hR1;obtain ⟨r,r',rfl,g2,g3,_⟩:=hroot r1 R1 hR1;rw [(eρ g2).1,(eρ g2).2];exact hM.rep r' R1 g3
       ·intro r1 R1 hR1 x hx;obtain ⟨r,r',rfl,g2,g3,_⟩:=hroot r1 R1 hR1;rw [(eρ g2).2] at hx;exact hM.rlt r' R1 g3 x hx
       ·intro r1 R1 hR1 ho;obtain ⟨r,r',rfl,g2,g3,_⟩:=hroot r1 R1 hR1;rw [(eρ g2).2];exact hM.mine r' R1 g3 ho
       ·intro r1 R1 r2 R2 hR1 ho hR2 he hne x hx;obtain ⟨r,r',rfl,g2,g3,_⟩:=hroot r1 R1 hR1;obtain ⟨s,s',rfl,f2,f3,_⟩:=hroot r2 R2 hR2;rw [(eρ g2).2] at hx;rw [(eρ f2).2];exact hM.apart r' R1 s' R2 g3 ho f3 he (fun e=>hne (by subst e;rw [hIr r s r' g2 f2])) x hx
       ·intro l1 xs1 hl1;obtain ⟨l,l',xs,rfl,g2,g3,g4,g5⟩:=hlo l1 xs1 hl1;obtain ⟨f1,vals,e,f2,f3,f4⟩:=hM.loc l' xs g3;rw [eβ g2];refine ⟨f1,vals,e,f2,by rw [f3,g4],fun j c u hc hu=>?_⟩
        have hlt:j<xs.length:=by rw [<- g4];exact (List.getElem?_eq_some_iff.1 hc).1
        have hx:=List.getElem?_eq_getElem hlt;obtain ⟨f5,f6⟩:=f4 j _ u hx hu;exact ⟨f5,(g5 j _ c hx hc).va f6 hr' hl'⟩
       ·intro l1 l2 xs1 xs2 h1 h2 he;obtain ⟨l,l',xs,rfl,g2,g3,_⟩:=hlo l1 xs1 h1;obtain ⟨s,s',ys,rfl,f2,f3,_⟩:=hlo l2 xs2 h2;rw [eβ g2,eβ f2] at he;have:=hM.linj l' s' xs ys g3 f3 he;subst this;rw [hIl l s l' g2 f2]
       ·intro l1 xs1 r1 R1 h1 hR1;obtain ⟨l,l',xs,rfl,g2,g3,_⟩:=hlo l1 xs1 h1;obtain ⟨r,r',rfl,f2,f3,_⟩:=hroot r1 R1 hR1;rw [eβ g2,(eρ f2).2];exact hM.lro l' xs r' R1 g3 f3
       ·intro r1 R1 e hr1 he;rw [<- hst] at hr1;obtain ⟨_,_,_,_,_,g4⟩:=q6 r1 R1 hr1;rw [g4] at he;cases he
       ·intro n R hn';rw [<- hst] at hn';obtain ⟨r,r',rfl,g2,_⟩:=q6 n R hn';exact hbr g2
       ·intro n xs1 hn';obtain ⟨l,l',xs,rfl,g2,g3,g4,g5⟩:=hlo n xs1 hn';refine ⟨hbl g2,fun a ha m hm=>?_⟩;obtain ⟨j,hj⟩:=List.mem_iff_getElem?.1 ha;have hlt:j<xs.length:=by rw [<- g4];exact (List.getElem?_eq_some_iff.1 hj).1
        obtain ⟨k,v,rfl,hk⟩:=(g5 j _ a (List.getElem?_eq_getElem hlt) hj).ids hm;rcases hk with hk|hk
        ·exact hbr hk
        ·exact hbl hk
       ·intro m hm n hn';rw [<- hst] at hm;obtain ⟨i,hi⟩:=List.mem_iff_getElem?.1 hm;rcases q3 i m hi with h|⟨x,x1,_,rfl,hc⟩
        ·rw [List.getElem?_replicate] at h;split at h
         ·cases h;simp [MV.ids,zbU,zW,At.ids,zbA,zbB] at hn'
         ·cases h
        ·rw [zdo] at hn';obtain ⟨k,v,rfl,hk⟩:=(hc.mono e2).ids hn';rcases hk with hk|hk
         ·exact hbr hk
         ·exact hbl hk
       ·intro f hf m hm n hn';rw [<- hst] at hf;obtain ⟨k,v,rfl,hk⟩:=zDM hco f hf m hm n hn';rcases hk with hk|hk
        ·exact hbr hk
        ·exact hbl hk
       ·rw [<- hst]
        show ts.size=tm'.length
        rw [q2,List.length_replicate,hn];exact hS.tm.1
       ·intro i m v hm hv;rw [<- hst] at hm;rcases q3 i m hm with h|⟨x,x1,hx,rfl,hc⟩
        ·rw [List.getElem?_replicate] at h;split at h
         ·cases h;trivial
         ·cases h
        ·have:=hS.tm.2 i _ v hx hv;exact (hc.mono e2).va this hr' hl'
       ·have e:st1.stk=stk0:=by rw [<- hst]
        rw [e];exact zIw hr' hl' hco hS.stk (hstk w st1 E)
     ·cases h
    ·cases h
   ·cases h
  ·cases h
 ·cases h
end
section
variable {C:Cfg} {w0 w w1:World} {S0:zbn} {U:Nat->Prop} {st st1:St} {E E1:Env} {ts:Array Value} {sv:List (Array Value)}
structure DrawOk (C:Cfg):Prop where
 ok:∀(call:zfU),zr6 C call->∀(ops:Array Oper) (k:St->Option Ans) (ans:Ans) (Q:Exit->Act->World->Prop) (w0:World) (S0:zbn) (sv:List (Array Value)) (U0:Nat->Prop) (nid0:Nat) (U:Nat->Prop) (st:St) (E:Env) (ts:Array Value) (w:World),
  (∀(U':Nat->Prop) (st':St) (E':Env) (ts':Array Value) (w':World),Sim w0 S0 U' st' E' ts' sv w'->(∀n,U' n->U0 n\/nid0<=n)->nid0<=st'.nid->(∀n,st'.nid<=n->¬ U' n)->k st'=some ans->Q .normal { tmps:=ts',defers:=[] } w') ->
  Sim w0 S0 U st E ts sv w->(∀n,U n->U0 n\/nid0<=n)->(∀n,st.nid<=n->¬ U n)->nid0<=st.nid ->
  zEF C call ops k st=some ans ->
  ∀t,wpOps C.P ops Q (Region.schedule (C.P.follows .mixedOrders) ops t) { tmps:=ts,defers:=[] } { w with drawn:=w.drawn+1 }
structure EngOk (C:Cfg):Prop where
 cfg:CfgOk C
 ctr:CtrOk C
 graft:GraftOk C
 name:NameOk C
 draw:DrawOk C
def zSy:Ex->Exit
 | .normal=>.normal
 | .exit id=>.exit id
 | .ret=>.ret
theorem Sim.nid (hS:Sim w0 S0 U st E ts sv w)(n:Nat):Sim w0 S0 U { st with nid:=n } E ts sv w:=by
 have T:Trans st E w { st with nid:=n } E w (fun _=>True):=⟨fun _ _ R h=>⟨R,h,rfl,fun _ _ h=>h⟩,fun _ _ cs h=>⟨⟨cs,h⟩,rfl⟩,rfl⟩;have hM:=hS.mem;exact ⟨⟨hM.os,hM.tape,hM.output,hM.size,hM.keep,hM.rep,hM.rlt,hM.mine,hM.apart,
  fun l cs hl=>by
   obtain ⟨h1,vals,e,h2,h3,h4⟩:=hM.loc l cs hl;exact ⟨h1,vals,e,h2,h3,fun j c u hc hu=>⟨(h4 j c u hc hu).1,VA.tr T (fun _ _=>trivial) (h4 j c u hc hu).2⟩⟩,
  hM.linj,hM.lro,hM.epo,hM.κ⟩,⟨hS.ids.ro,hS.ids.lo,hS.ids.tm,hS.ids.stk⟩,Slots.tr T (fun _ _ _ _=>trivial) hS.tm,Stack.tr T (fun _ _ _ _ _ _=>trivial) hS.stk⟩
def Conts (ans:Ans)(w0:World)(S0:zbn)(sv:List (Array Value))(U0:Nat->Prop)(nid0:Nat)(k:Ex->St->Option Ans)(Q:Exit->Act->World->Prop):Prop :=
 ∀(e:Ex) (U':Nat->Prop) (st':St) (E':Env) (ts':Array Value) (w':World),Sim w0 S0 U' st' E' ts' sv w'->(∀n,U' n->U0 n\/nid0<=n)->nid0<=st'.nid->(∀n,st'.nid<=n->¬ U' n)->k e st'=some ans->Q (zSy e) { tmps:=ts',defers:=[] } w'
def Sound (C:Cfg)(tm:Nat->Option Tmpl)(N:Nat)(call:zfU)(code:Code):Prop :=
 ∀(k:Ex->St->Option Ans) (ans:Ans) (Q:Exit->Act->World->Prop) (w0:World) (S0:zbn) (sv:List (Array Value)) (U0:Nat->Prop) (nid0:Nat),Conts ans w0 S0 sv U0 nid0 k Q ->
  ∀(U:Nat->Prop) (st:St) (E:Env) (ts:Array Value) (w:World),Sim w0 S0 U st E ts sv w->(∀n,U n->U0 n\/nid0<=n)->nid0<=st.nid->(∀n,st.nid<=n->¬ U n) ->
   zgt C tm N call code st k=some ans->code.wp C.P Q { tmps:=ts,defers:=[] } w
theorem zXs {tm:Nat->Option Tmpl}{N:Nat}{call:zfU}{body:Code}(hb:Sound C tm N call body)(id:Nat):Sound C tm N call (.block id (.loop body)):=by
 intro k ans Q w0 S0 sv U0 nid0 hk U st E ts w hS hU hn hF h;simp only [zgt] at h;split at h
 ·cases h
 ·rename_i T hT;split at h
  ·cases h
  ·rename_i B0 cs hcs;split at h
   ·cases h
   ·rename_i s0 hs0;generalize hstk1:zrZ B0 st.nid st.stk=stk1 at h;cases hco:zfI B0 st.nid st.stk stk1 with
    | false=>rw [hco] at h;cases h
    | true =>
    rw [hco,cond_true] at h;refine wp_block (wp_loop_rounds N ?_);have hsc:∀(w1:World) (st1:St) (E1:Env),Stack w1 st1 E1 (zIr stk1) sv:=fun w1 st1 E1=>by rw [<- hstk1];exact zF2 hS.stk
    have key:∀(n:Nat) (s:Dat T.sig) (B:Bnd) (cs:List CV) (U1:Nat->Prop) (st1:St) (E1:Env) (ts1:Array Value) (w1:World),Sim w0 S0 U1 st1 E1 ts1 sv w1->T.takeB st1=some (B,cs)->zfI B st.nid st1.stk stk1=true->unpack T.sig cs=some s ->
     iter n (fun rec s =>
      match T.put st.nid (packs T.sig s) with
      | none=>none
      | some st1=>zgt C tm N call body { st1 with stk:=stk1 } fun e st'=>match e with
       | .normal=>match T.takeB st' with
        | none=>none
        | some (B',cs')=>match unpack T.sig cs' with
         | none=>none
         | some s'=>cond (zfI B' st.nid st'.stk stk1) (rec s') none
       | .exit id'=>if id'==id then k .normal st' else k (.exit id') st'
       | .ret=>k .ret st') s=some ans ->
     Code.rounds C.P body (Exit.inBlock id Q) n { tmps:=ts1,defers:=[] } w1:=by
     intro n
     induction n with
     | zero=>intro s B cs U1 st1 E1 ts1 w1 _ _ _ _ h;cases h
     | succ n ih =>
      intro s B cs U1 st1 E1 ts1 w1 hS1 htk hcor hun h;simp only [iter] at h;obtain ⟨st2,E2,hput,hS2,hnid⟩:=zR9 hS1 htk st.nid (stk0:=stk1) hsc hcor;rw [zjz _ _ _ hun,hput] at h;simp only at h;rw [rounds_succ];refine hb _ ans _ w0 S0 sv U0 nid0 ?_ _ _ E2 ts1 w1 hS2 (fun n hn'=>.inr (by omega)) (by show nid0<=st2.nid;omega) (fun n hn' h=>by
       have:st2.nid<=n:=hn';omega) h
      intro e U' st' E' ts' w' hS' hU' hn' hF' h';cases e with
      | normal =>
       simp only at h';split at h'
       ·cases h'
       ·rename_i B' cs' hcs';split at h'
        ·cases h'
        ·rename_i s' hs';cases hc':zfI B' st.nid st'.stk stk1 with
         | false=>rw [hc'] at h';cases h'
         | true =>
          rw [hc',cond_true] at h';exact ih s' B' cs' U' st' E' ts' w' hS' hcs' hc' hs' h'
      | exit id' =>
       simp only at h';simp only [zSy,Exit.then,Exit.inBlock]
       split at h'
       ·rename_i he;simp only [beq_iff_eq] at he;rw [if_pos he];exact hk .normal U' st' E' ts' w' hS' hU' hn' hF' h'
       ·rename_i he;simp only [beq_iff_eq] at he;rw [if_neg he];exact hk (.exit id') U' st' E' ts' w' hS' hU' hn' hF' h'
      | ret=>exact hk .ret U' st' E' ts' w' hS' hU' hn' hF' h'
    exact key N s0 B0 cs U st E ts w hS hcs hco hs0 h
theorem zWl {tm:Nat->Option Tmpl}{N:Nat}{call:zfU}{id:Nat}{body:Code}(hnl:∀b,body≠.loop b)(st:St)(k:Ex->St->Option Ans) :
 zgt C tm N call (.block id body) st k=zgt C tm N call body st fun e st'=>match e with
  | .exit id'=>if id'==id then k .normal st' else k (.exit id') st'
  | e=>k e st':=by
 rw [zgt]
 ·rfl
 ·intro b hb;exact hnl b hb
theorem zd2 {tm:Nat->Option Tmpl}{N:Nat}{call:zfU}{body:Code}(hb:Sound C tm N call body)(hnl:∀b,body≠.loop b)(id:Nat):Sound C tm N call (.block id body):=by
 intro k ans Q w0 S0 sv U0 nid0 hk U st E ts w hS hU hn hF h;rw [zWl hnl] at h;refine wp_block (hb _ ans _ w0 S0 sv U0 nid0 ?_ U st E ts w hS hU hn hF h);intro e U' st' E' ts' w' hS' hU' hn' hF' h';cases e with
 | normal=>exact hk .normal U' st' E' ts' w' hS' hU' hn' hF' h'
 | exit id' =>
  simp only at h';simp only [zSy,Exit.inBlock];split at h'
  ·rename_i he;simp only [beq_iff_eq] at he;rw [if_pos he];exact hk .normal U' st' E' ts' w' hS' hU' hn' hF' h'
  ·rename_i he;simp only [beq_iff_eq] at he;rw [if_neg he];exact hk (.exit id') U' st' E' ts' w' hS' hU' hn' hF' h'
 | ret=>exact hk .ret U' st' E' ts' w' hS' hU' hn' hF' h'
theorem zcG (hO:EngOk C){tm:Nat->Option Tmpl}{N:Nat}{call:zfU}(hcall:zr6 C call):∀(code:Code),Sound C tm N call code
 | .skip=>by
  intro k ans Q w0 S0 sv U0 nid0 hk U st E ts w hS hU hn hF h;simp only [zgt] at h;exact wp_skip (hk .normal U st E ts w hS hU hn hF h)
 | .exit id=>by
  intro k ans Q w0 S0 sv U0 nid0 hk U st E ts w hS hU hn hF h;simp only [zgt] at h;exact wp_exit (hk (.exit id) U st E ts w hS hU hn hF h)
 | .ret=>by
  intro k ans Q w0 S0 sv U0 nid0 hk U st E ts w hS hU hn hF h;simp only [zgt] at h;exact wp_ret (hk .ret U st E ts w hS hU hn hF h)
 | .region id ops false=>by
  intro k ans Q w0 S0 sv U0 nid0 hk U st E ts w hS hU hn hF h;simp only [zgt,zL1] at h;refine wp_region (zl5 hO.cfg hO.ctr hO.graft hO.name hcall (base:=st.nid) (V:=fun n=>U0 n\/nid0<=n) (fun n hn'=>.inr hn') (fun U' st' E' ts' w' hS' hU' hn' hF' h'=>hk .normal U' st' E' ts' w' hS' hU' hn' hF' h')
   (List.range ops.size) U _ E ts w (hS.nid _) hU (fun n hn'=>hF n (Nat.le_trans (Nat.le_add_right _ _) hn')) (fun j _ n hm=>⟨hF n (by have:=hm.1;omega),.inr (by have:=hm.1;omega)⟩) List.nodup_range (Nat.le_trans hn (Nat.le_add_right _ _)) (fun j hj=>?_) h)
  have:=List.mem_range.1 hj
  show st.nid+32*j+32<=st.nid+32*ops.size
  omega
 | .region id ops true=>by
  intro k ans Q w0 S0 sv U0 nid0 hk U st E ts w hS hU hn hF h;simp only [zgt,zL1] at h;exact wp_region_draw (hO.draw.ok call hcall ops _ ans Q w0 S0 sv U0 nid0 U st E ts w (fun U' st' E' ts' w' hS' hU' hn' hF' h'=>hk .normal U' st' E' ts' w' hS' hU' hn' hF' h') hS hU hF hn h)
 | .seq a b=>by
  intro k ans Q w0 S0 sv U0 nid0 hk U st E ts w hS hU hn hF h;simp only [zgt] at h;split at h
  ·refine wp_seq (zcG hO hcall a _ ans _ w0 S0 sv U0 nid0 ?_ U st E ts w hS hU hn hF h);intro e U' st' E' ts' w' hS' hU' hn' hF' h';cases e with
   | normal=>exact zcG hO hcall b k ans Q w0 S0 sv U0 nid0 hk U' st' E' ts' w' hS' hU' hn' hF' h'
   | exit id'=>exact hk (.exit id') U' st' E' ts' w' hS' hU' hn' hF' h'
   | ret=>exact hk .ret U' st' E' ts' w' hS' hU' hn' hF' h'
  ·rename_i T hT;simp only [share] at h;generalize hstk1:zKo T st=stk1 at h;have hsc:∀(w1:World) (st1:St) (E1:Env),Stack w1 st1 E1 (zIr stk1) sv:=fun w1 st1 E1=>by rw [<- hstk1];exact zF2 hS.stk
   refine wp_seq (zcG hO hcall a _ ans _ w0 S0 sv U0 nid0 ?_ U st E ts w hS hU hn hF h);intro e U' st' E' ts' w' hS' hU' hn' hF' h';cases e with
   | normal =>
    simp only [z0o] at h';split at h'
    ·cases h'
    ·rename_i B cs hcs;split at h'
     ·cases h'
     ·rename_i s hs;cases hco:zfI B st.nid st'.stk stk1 with
      | false=>rw [hco] at h';cases h'
      | true =>
       rw [hco,cond_true] at h';obtain ⟨st2,E2,hput,hS2,hnid⟩:=zR9 hS' hcs st.nid (stk0:=stk1) hsc hco;simp only [z0p] at h';rw [zjz _ _ _ hs,hput] at h';exact zcG hO hcall b k ans Q w0 S0 sv U0 nid0 hk _ _ E2 ts' w' hS2 (fun n hn'=>.inr (by omega)) (by show nid0<=st2.nid;omega) (fun n hn' h=>by
        have:st2.nid<=n:=hn';omega) h'
   | exit id'=>exact hk (.exit id') U' st' E' ts' w' hS' hU' hn' hF' h'
   | ret=>exact hk .ret U' st' E' ts' w' hS' hU' hn' hF' h'
 | .cond c a b=>by
  intro k ans Q w0 S0 sv U0 nid0 hk U st E ts w hS hU hn hF h;simp only [zgt] at h;split at h
  ·rename_i x hx;have hv:=(zbR hS hx).1;simp only [VA] at hv;cases x with
   | true=>exact wp_cond_true hv (zcG hO hcall a k ans Q w0 S0 sv U0 nid0 hk U st E ts w hS hU hn hF h)
   | false=>exact wp_cond_false hv (zcG hO hcall b k ans Q w0 S0 sv U0 nid0 hk U st E ts w hS hU hn hF h)
  ·cases h
 | .block id (.loop body)=>zXs (zcG hO hcall body) id
 | .block id .skip=>zd2 (zcG hO hcall .skip) (fun _=>Code.noConfusion) id
 | .block id (.region i o d)=>zd2 (zcG hO hcall (.region i o d)) (fun _=>Code.noConfusion) id
 | .block id (.seq a b)=>zd2 (zcG hO hcall (.seq a b)) (fun _=>Code.noConfusion) id
 | .block id (.cond c a b)=>zd2 (zcG hO hcall (.cond c a b)) (fun _=>Code.noConfusion) id
 | .block id (.block i b)=>zd2 (zcG hO hcall (.block i b)) (fun _=>Code.noConfusion) id
 | .block id (.exit i)=>zd2 (zcG hO hcall (.exit i)) (fun _=>Code.noConfusion) id
 | .block id .ret=>zd2 (zcG hO hcall .ret) (fun _=>Code.noConfusion) id
 | .block id (.rangeFunc f p a b)=>zd2 (zcG hO hcall (.rangeFunc f p a b)) (fun _=>Code.noConfusion) id
 | .block id (.scope b)=>zd2 (zcG hO hcall (.scope b)) (fun _=>Code.noConfusion) id
 | .block id (.label l)=>zd2 (zcG hO hcall (.label l)) (fun _=>Code.noConfusion) id
 | .block id (.goto l)=>zd2 (zcG hO hcall (.goto l)) (fun _=>Code.noConfusion) id
 | .block id (.refuse y)=>zd2 (zcG hO hcall (.refuse y)) (fun _=>Code.noConfusion) id
 | .loop _ | .rangeFunc .. | .scope _ | .label _ | .goto _ | .refuse _=>by
  intro k ans Q w0 S0 sv U0 nid0 hk U st E ts w hS hU hn hF h;simp [zgt] at h
def zBS (ts:Array Value):ResultVar->Sem Value
 | .tmp t=>pure (ts.getD t undef)
 | .cell a t=>do loadVar t (<- asAddr (ts.getD a undef))
theorem zp9 (hC:CfgOk C)(hS:Sim w0 S0 U st E ts sv w):∀(l:List ResultVar) (rs:List TV),zhU C st l=some rs ->
 ∃vs:List Value,(l.mapM (zBS ts)).run C.P w = .ok vs w/\rs.length=vs.length /\
  (∀(k:Nat) (x:TV) (u:Value),rs[k]?=some x->vs[k]?=some u->VT w st E x u)/\∀x∈rs,∀a∈zW x,∀n∈a.ids,U n
 | [],rs,h=>by
  cases h;exact ⟨[],by simp,rfl,fun k x u h=>by simp at h,fun x h=>by simp at h⟩
 | .tmp t :: r,rs,h=>by
  simp only [zhU] at h;split at h
  ·rename_i x xs hx hr;cases h;obtain ⟨vs,h1,h2,h3,h4⟩:=zp9 hC hS r xs hr;have hlt:t<ts.size:=by rw [hS.tm.1];exact (List.getElem?_eq_some_iff.1 hx).1
   have hget:ts.getD t undef=ts[t]:=by simp [Array.getD,hlt]
   refine ⟨ts[t] :: vs,by simp [List.mapM_cons,zBS,h1,hlt],by simp [h2],fun k y u hy hu=>?_,fun y hy a ha n hn=>?_⟩
   ·cases k with
    | zero=>simp at hy hu;subst hy hu;exact hS.tm.2 t _ _ hx (by simp [hlt])
    | succ k=>exact h3 k y u (by simpa using hy) (by simpa using hu)
   ·rcases List.mem_cons.1 hy with rfl|hy
    ·exact hS.ids.tm _ (List.mem_of_getElem? hx) n (by simp only [MV.ids,zbU,List.mem_flatMap];exact ⟨a,ha,hn⟩)
    ·exact h4 y hy a ha n hn
  ·cases h
 | .cell t T :: r,rs,h=>by
  simp only [zhU] at h;split at h
  ·rename_i l off agg tys xs hx hT hr;obtain ⟨vs,h1,h2,h3,h4⟩:=zp9 hC hS r xs hr;obtain ⟨hxv,_⟩:=zbR hS hx;have hTO:=hC.cty T agg tys hT;split at h
   ·rename_i cs hcs;have hxp:=hxv.2 cs hcs;simp only [Act.eval] at hxp;obtain ⟨_,vals,e,g1,g2,g3⟩:=hS.mem.loc l cs hcs;have hids:=(hS.ids.lo l cs hcs).2;split at h
    ·rename_i hagg;cases hagg;split at h
     ·rename_i hle;cases h;have hrun:=zmU (P:=C.P) (w:=w) hTO g1 (by omega:off+tys.length<=vals.size)
      have hp2:ts[t]?.getD undef = .pointer (some ⟨E.β l,off,none⟩):=by simpa using hxp
      refine ⟨_ :: vs,by simp [List.mapM_cons,zBS,h1,hp2,asAddr,hrun];rfl,by simp [h2],fun k y u hy hu=>?_,fun y hy a ha n hn=>?_⟩
      ·cases k with
       | zero =>
        simp at hy hu;subst hy hu;refine ⟨_,rfl,by simp;omega,fun j a u ha hu=>?_⟩
        simp only [List.getElem?_take,List.getElem?_drop] at ha;simp only [List.getElem?_toArray,List.getElem?_take,List.getElem?_drop,Array.getElem?_toList] at hu;split at ha
        ·rename_i hj;rw [if_pos hj] at hu;exact g3 (off+j) a u ha hu
        ·cases ha
       | succ k=>exact h3 k y u (by simpa using hy) (by simpa using hu)
      ·rcases List.mem_cons.1 hy with rfl|hy
       ·exact hids a (List.mem_of_mem_drop (List.mem_of_mem_take ha)) n hn
       ·exact h4 y hy a ha n hn
     ·cases h
    ·rename_i hagg;have:agg=false:=by simpa using hagg
     subst this;split at h
     ·rename_i a ha;cases h;have hlt:off<vals.size:=by rw [g2];exact (List.getElem?_eq_some_iff.1 ha).1
      have hv:vals[off]?=some vals[off]:=by simp [hlt]
      have hrun:=zmV (P:=C.P) (w:=w) hTO g1 hv;have hp2:ts[t]?.getD undef = .pointer (some ⟨E.β l,off,none⟩):=by simpa using hxp
      refine ⟨vals[off] :: vs,by simp [List.mapM_cons,zBS,h1,hp2,asAddr,hrun],by simp [h2],fun k y u hy hu=>?_,fun y hy b hb n hn=>?_⟩
      ·cases k with
       | zero=>simp at hy hu;subst hy hu;exact (g3 off a _ ha hv).2
       | succ k=>exact h3 k y u (by simpa using hy) (by simpa using hu)
      ·rcases List.mem_cons.1 hy with rfl|hy
       ·simp only [zW,List.mem_singleton] at hb;subst hb;exact hids _ (List.mem_of_getElem? ha) n hn
       ·exact h4 y hy b hb n hn
     ·cases h
   ·cases h
  ·cases h
theorem z1d (vs:List Value):(if h:vs.toArray.size=1 then vs.toArray[0] else Value.tuple vs.toArray)=zkl vs:=by
 match vs with
 | []=>rfl
 | [x]=>rfl
 | x :: y :: l=>simp [zkl]
theorem zUy (hC:CfgOk C)(hS:Sim w0 S0 U st E ts sv w){fn:Func}{rs:List TV}(h:zhU C st fn.results.toList=some rs) :
 ∃vs:List Value,(results fn ts).run C.P w = .ok (zkl vs) w/\VM w st E (zla rs) (zkl vs)/\(∀n∈(zla rs).ids,U n):=by
 obtain ⟨vs,h1,h2,h3,h4⟩:=zp9 hC hS _ rs h;refine ⟨vs,?_,zxJ h2 h3,fun n hn=>?_⟩
 ·have e:results fn ts=(do let vs <- fn.results.mapM (zBS ts);pure (if h:vs.size=1 then vs[0] else .tuple vs)):=by
   unfold results
   congr 1
  rw [e];simp only [Array.mapM_eq_mapM_toList,Sem.run_bind,Sem.run_map,h1]
  show Result.ok _ w=Result.ok _ w
  rw [<- z1d]
 ·simp only [MV.ids,List.mem_flatMap] at hn;obtain ⟨a,ha,hn⟩:=hn;obtain ⟨x,hx,ha⟩:=zzV ha;exact h4 x hx a ha n hn
end
section
variable {C:Cfg} {w0 w w1:World} {S0:zbn} {U:Nat->Prop} {st st1:St} {E E1:Env} {ts:Array Value} {sv:List (Array Value)}
theorem ziz (hO:EngOk C){tms:FuncId->Nat->Option Tmpl}{N:Nat}{call:zfU}(hcall:zr6 C call):zr6 C (zuS C tms N call):=by
 intro f vs st k ans h w0 S0 U E ts sv w vals R hS hF hsz hv hi hk;unfold zuS at h;split at h
 ·rename_i fn hf;split at h
  ·rename_i body hb;refine ⟨⟨fn,body,hf,hb⟩,calls_of_wp hf hb ?_⟩;have hS1:Sim w0 S0 U { st with tm:=vs++List.replicate (fn.ntmps-vs.length) .und,stk:=st.tm :: st.stk } E (vals++Array.replicate (fn.ntmps-vals.size) undef) (ts :: sv) w:=by
    have T:Trans st E w { st with tm:=vs++List.replicate (fn.ntmps-vs.length) .und,stk:=st.tm :: st.stk } E w (fun _=>True):=⟨fun _ _ R h=>⟨R,h,rfl,fun _ _ h=>h⟩,fun _ _ cs h=>⟨⟨cs,h⟩,rfl⟩,rfl⟩;have hM:=hS.mem;refine ⟨⟨hM.os,hM.tape,hM.output,hM.size,hM.keep,hM.rep,hM.rlt,hM.mine,hM.apart,
     fun l cs hl=>by
      obtain ⟨h1,vals,e,h2,h3,h4⟩:=hM.loc l cs hl;exact ⟨h1,vals,e,h2,h3,fun j c u hc hu=>⟨(h4 j c u hc hu).1,VA.tr T (fun _ _=>trivial) (h4 j c u hc hu).2⟩⟩,
     hM.linj,hM.lro,hM.epo,hM.κ⟩,⟨hS.ids.ro,hS.ids.lo,fun m hm n hn=>?_,fun f hf m hm n hn=>?_⟩,⟨?_,fun i m v hm hv'=>?_⟩,Slots.tr T (fun _ _ _ _=>trivial) hS.tm,Stack.tr T (fun _ _ _ _ _ _=>trivial) hS.stk⟩
    ·rcases List.mem_append.1 hm with hm|hm
     ·exact hi m hm n hn
     ·have:=(List.mem_replicate.1 hm).2;subst this;simp [MV.ids,zbU] at hn
    ·rcases List.mem_cons.1 hf with rfl|hf
     ·exact hS.ids.tm m hm n hn
     ·exact hS.ids.stk f hf m hm n hn
    ·simp [hsz]
    ·simp only at hm
     by_cases hlt:i<vs.length
     ·rw [List.getElem?_append_left hlt] at hm;rw [Array.getElem?_append_left (by omega)] at hv'
      exact VM.tr T (fun _ _=>trivial) (hv i m v hm hv')
     ·rw [List.getElem?_append_right (by omega),List.getElem?_replicate] at hm
      rw [Array.getElem?_append_right (by omega),Array.getElem?_replicate] at hv'
      split at hm
      ·cases hm;split at hv'
       ·cases hv';rfl
       ·cases hv'
      ·cases hm
   refine zcG hO hcall body _ ans _ w0 S0 (ts :: sv) U st.nid ?_ U _ E _ w hS1 (fun n hn=>.inl hn) (Nat.le_refl _) hF h;intro e U' st' E' ts' w' hS' hU' hn' hF' h';have done:(match zhU C st' fn.results.toList,st'.stk with
    | some rs,tm :: stk=>k rs { st' with tm,stk }
    | _,_=>none)=some ans->([]:List Deferred)=[]/\∃v,(results fn ts').run C.P w' = .ok v w'/\R v w':=by
    intro h2;split at h2
    ·rename_i rs tm stk hrs hstk;obtain ⟨us,h3,h4,h5⟩:=zUy hO.cfg hS' hrs;refine ⟨rfl,zkl us,h3,?_⟩;have T:Trans st' E' w' { st' with tm,stk } E' w' (fun _=>True):=⟨fun _ _ R h=>⟨R,h,rfl,fun _ _ h=>h⟩,fun _ _ cs h=>⟨⟨cs,h⟩,rfl⟩,rfl⟩;have hM:=hS'.mem;have hst:=hS'.stk;rw [hstk] at hst;refine hk U' { st' with tm,stk } E' w' rs (zkl us) ⟨⟨hM.os,hM.tape,hM.output,hM.size,hM.keep,hM.rep,hM.rlt,hM.mine,hM.apart,
      fun l cs hl=>by
       obtain ⟨h1,vals,e,h2,h3,h4⟩:=hM.loc l cs hl;exact ⟨h1,vals,e,h2,h3,fun j c u hc hu=>⟨(h4 j c u hc hu).1,VA.tr T (fun _ _=>trivial) (h4 j c u hc hu).2⟩⟩,
      hM.linj,hM.lro,hM.epo,hM.κ⟩,⟨hS'.ids.ro,hS'.ids.lo,fun m hm n hn=>hS'.ids.stk tm (by rw [hstk];simp) m hm n hn,fun f hf m hm n hn=>hS'.ids.stk f (by rw [hstk];exact List.mem_cons_of_mem _ hf) m hm n hn⟩,
      Slots.tr T (fun _ _ _ _=>trivial) hst.1,Stack.tr T (fun _ _ _ _ _ _=>trivial) hst.2⟩ hU' hn' hF' (VM.tr T (fun _ _=>trivial) h4) h5 h2
    ·cases h2
   cases e with
   | normal=>exact done h'
   | exit id=>cases h'
   | ret=>exact done h'
  ·cases h
 ·cases h
theorem zhB (hO:EngOk C){tms:FuncId->Nat->Option Tmpl}{N:Nat}:∀D,zr6 C (zsJ C tms N D)
 | 0=>fun f vs st k ans h=>by cases h
 | D+1=>ziz hO (zhB hO D)
theorem Given.append {x1 x2:List At}{c1 c2:List CV}{k1 k2:List Nat}(h1:Given st x1 c1 k1)(h2:Given st x2 c2 k2)(hd:∀k∈k1,k∉k2):Given st (x1++x2) (c1++c2) (k1++k2):=by
 have mem:∀{x:List At} {c:List CV} {ks:List Nat},Given st x c ks->∀{k r:Nat},x[k]?=some (At.sl r [])->r∈ks:=by
  intro x c ks hG k r hk;rcases hG.get k _ hk with ⟨_,_,h,_⟩|⟨_,h,_⟩|⟨r2,_,h,_,hm,_⟩
  ·cases h
  ·cases h
  ·cases h;exact hm
 refine ⟨by simp [h1.len,h2.len],fun r hr=>(List.mem_append.1 hr).elim (h1.own r) (h2.own r),fun k a ha=>?_,fun k k' r hk hk'=>?_⟩
 ·by_cases hlt:k<x1.length
  ·rw [List.getElem?_append_left hlt] at ha;rw [List.getElem?_append_left (by rw [h1.len];exact hlt)]
   rcases h1.get k a ha with h|h|⟨r,R,g1,g2,g3,g4⟩
   ·exact .inl h
   ·exact .inr (.inl h)
   ·exact .inr (.inr ⟨r,R,g1,g2,by simp [g3],g4⟩)
  ·rw [List.getElem?_append_right (by omega)] at ha
   rw [List.getElem?_append_right (by rw [h1.len];omega),h1.len]
   rcases h2.get _ a ha with h|h|⟨r,R,g1,g2,g3,g4⟩
   ·exact .inl h
   ·exact .inr (.inl h)
   ·exact .inr (.inr ⟨r,R,g1,g2,by simp [g3],g4⟩)
 ·by_cases hlt:k<x1.length<;>by_cases hlt':k'<x1.length
  ·rw [List.getElem?_append_left hlt] at hk;rw [List.getElem?_append_left hlt'] at hk';exact h1.inj k k' r hk hk'
  ·rw [List.getElem?_append_left hlt] at hk;rw [List.getElem?_append_right (by omega)] at hk'
   exact absurd (mem h2 hk') (hd r (mem h1 hk))
  ·rw [List.getElem?_append_right (by omega)] at hk
   rw [List.getElem?_append_left hlt'] at hk';exact absurd (mem h2 hk) (hd r (mem h1 hk'))
  ·rw [List.getElem?_append_right (by omega)] at hk
   rw [List.getElem?_append_right (by omega)] at hk'
   have:=h2.inj _ _ r hk hk';omega
theorem ziy:∀(l:List TV) (seen:List Nat) (rs:Ans) (us:List Value),zrg st l seen=some rs->l.length=us.length->(∀(k:Nat) (x:TV) (u:Value),l[k]?=some x->us[k]?=some u->VT w st E x u) ->
 ∃(ats:List At) (ys:List Value) (ks:List Nat),Given st ats (zI rs) ks/\ys.length=ats.length/\(∀(k:Nat) (a:At) (u:Value),ats[k]?=some a->ys[k]?=some u->VA w st E a u)/\us=zcn rs ys/\(∀k∈ks,k∉seen)/\ats=l.flatMap zW
 | [],seen,rs,us,h,hl,_=>by
  cases h;cases us with
  | nil=>exact ⟨[],[],[],⟨rfl,fun r hr=>by simp at hr,fun k a h=>by simp at h,fun k k' r h=>by simp at h⟩,rfl,fun k a u h=>by simp at h,rfl,fun k h=>by simp at h,rfl⟩
  | cons u us=>simp at hl
 | x :: r,seen,rs,us,h,hl,hv=>by
  cases us with
  | nil=>simp at hl
  | cons u us =>
   have hv0:=hv 0 x u rfl rfl;have hvr:∀(k:Nat) (y:TV) (z:Value),r[k]?=some y->us[k]?=some z->VT w st E y z:=fun k y z h1 h2=>hv (k+1) y z (by simpa using h1) (by simpa using h2)
   rcases x with a|xs
   ·simp only [zrg] at h;split at h
    ·rename_i c ks hg;split at h
     ·rename_i hseen;split at h
      ·rename_i xa hxa;cases h;obtain ⟨_,hG⟩:=zpf _ _ _ _ _ hg;obtain ⟨ats,ys,ks',g1,g2,g3,g4,g5,g6⟩:=ziy r _ xa us hxa (by simpa using hl) hvr
       refine ⟨a :: ats,u :: ys,ks++ks',?_,by simp [g2],fun k b z hb hz=>?_,by simp [zcn,g4],fun k hk=>?_,by simp [g6,zW]⟩
       ·have e:zI (AV.one c :: xa)=[c]++zI xa:=by simp [zI,AV.cvs]
        rw [e];exact Given.append (x1:=[a]) hG g1 (fun k hk hk'=>g5 k hk' (List.mem_append_left _ hk))
       ·cases k with
        | zero=>simp at hb hz;subst hb hz;exact hv0
        | succ k=>exact g3 k b z (by simpa using hb) (by simpa using hz)
       ·rcases List.mem_append.1 hk with hk|hk
        ·simp only [List.all_eq_true,Bool.not_eq_true',List.contains_eq_mem,decide_eq_false_iff_not] at hseen;exact hseen k hk
        ·exact fun h=>g5 k hk (List.mem_append_right _ h)
      ·cases h
     ·cases h
    ·cases h
   ·simp only [zrg] at h;split at h
    ·rename_i cs ks hg;split at h
     ·rename_i hseen;split at h
      ·rename_i xa hxa;cases h;obtain ⟨_,hG⟩:=zpf _ _ _ _ _ hg;obtain ⟨ats,ys,ks',g1,g2,g3,g4,g5,g6⟩:=ziy r _ xa us hxa (by simpa using hl) hvr
       obtain ⟨vs,rfl,hsz,hvv⟩:=hv0;have hlen:vs.toList.length=cs.length:=by rw [hG.len];simpa using hsz
       refine ⟨xs++ats,vs.toList++ys,ks++ks',?_,by simp [g2,hsz],fun k b z hb hz=>?_,?_,fun k hk=>?_,by simp [g6,zW]⟩
       ·have e:zI (AV.agg cs :: xa)=cs++zI xa:=by simp [zI,AV.cvs]
        rw [e];exact Given.append hG g1 (fun k hk hk'=>g5 k hk' (List.mem_append_left _ hk))
       ·by_cases hlt:k<xs.length
        ·rw [List.getElem?_append_left hlt] at hb;rw [List.getElem?_append_left (by simp [hsz];exact hlt)] at hz
         exact (hvv k b z hb (by simpa using hz)).2
        ·rw [List.getElem?_append_right (by omega)] at hb
         rw [List.getElem?_append_right (by simp [hsz];omega)] at hz
         have e:vs.toList.length=xs.length:=by simp [hsz]
         rw [e] at hz;exact g3 _ b z hb hz
       ·simp only [zcn,<- hlen,List.take_left',List.drop_left',<- g4,Array.toArray_toList]
       ·rcases List.mem_append.1 hk with hk|hk
        ·simp only [List.all_eq_true,Bool.not_eq_true',List.contains_eq_mem,decide_eq_false_iff_not] at hseen;exact hseen k hk
        ·exact fun h=>g5 k hk (List.mem_append_right _ h)
      ·cases h
     ·cases h
    ·cases h
theorem zCS {l:List TV}{v:Value}(h:VM w st E (zla l) v):∃us:List Value,v=zkl us/\l.length=us.length/\∀(k:Nat) (x:TV) (u:Value),l[k]?=some x->us[k]?=some u->VT w st E x u:=by
 match l,h with
 | [],h =>
  obtain ⟨vs,rfl,h2,_⟩:=h;have:vs = #[]:=Array.eq_empty_of_size_eq_zero (by simpa using h2)
  subst this;exact ⟨[],rfl,rfl,fun k x u h=>by simp at h⟩
 | [x],h=>exact ⟨[v],rfl,rfl,fun k y u hy hu=>by
  cases k with
  | zero=>simp at hy hu;subst hy hu;exact h
  | succ k=>simp at hy⟩
 | x :: y :: l,h =>
  obtain ⟨vs,rfl,h2,h3⟩:=h;refine ⟨vs.toList,?_,by simp [h2],fun k z u hz hu=>h3 k z u hz (by simpa using hu)⟩
  match hl:vs.toList,h2 with
  | [],h2=>have:vs.toList.length=0:=by rw [hl];rfl
           simp [h2] at this
  | [a],h2=>have:vs.toList.length=1:=by rw [hl];rfl
            simp [h2] at this
  | a :: b :: r,_=>simp only [zkl];rw [<- hl,Array.toArray_toList]
theorem zAp (hO:EngOk C){f:FuncId}{run:List AV->Option (Bool×List AV)}(hf:FnOk C.P f)(h:∀(avs:List AV) (rs:List AV),(∃w xs,zdO false w (zI avs) xs (fun _ b=>b<w.heap.size))->run avs=some (true,rs)->∃tms N D,evalFn C tms N D f avs=some rs):Holds C.P f run:=by
 refine ⟨hf,fun w avs xs rs hrep hrun=>?_⟩;obtain ⟨tms,N,D,hev⟩:=h avs rs ⟨w,xs,hrep⟩ hrun;unfold evalFn at hev;have hrootI:∀(r:Nat) (R:Root),zx (zdc false avs 0) r=some R->∃t l,(zI avs)[r]?=some (.s t l)/\R=⟨t,l,false,none⟩:=by
  intro r R hR;obtain ⟨_,t,l,h2,h3⟩:=zg8 false avs 0 r R hR;exact ⟨t,l,by simpa using h2,h3⟩
 generalize hst:({ tm:=[],lo:=[],ro:=zdc false avs 0,stk:=[],nid:=(avs.flatMap AV.cvs).length,ep:=0 }:St)=st at hev;have hro:∀(r:Nat) (R:Root),st.root r=some R->∃t l,(zI avs)[r]?=some (.s t l)/\R=⟨t,l,false,none⟩:=by
  intro r R hR;have:=(zbL hR).1;rw [<- hst] at this;exact hrootI r R this
 have hlo:∀l,zx st.lo l=none:=fun l=>by rw [<- hst];rfl
 let E:Env:={ ρ:=fun n=>(xs[n]?).getD undef,φ:=fun _ b=>b<w.heap.size,β:=fun _=>0,κ:=w }
 have hS:Sim w (fun _=>False) (fun n=>n<(zI avs).length) st E #[] [] w:=by
  refine ⟨⟨rfl,rfl,rfl,Nat.le_refl _,fun _ _ _=>rfl,fun r R hR=>?_,fun r R _ x hx=>hx,fun r R hR ho=>?_,fun r R r' R' hR ho=>?_,fun l cs hl=>?_,fun l l' cs cs' hl=>?_,fun l cs r R hl=>?_,fun r R e hR he=>?_,rfl⟩,⟨fun n R hn=>?_,fun n cs hn=>?_,fun m hm=>?_,fun f hf=>?_⟩,⟨?_,fun i m v hm=>?_⟩,?_⟩
  ·obtain ⟨t,l,h1,rfl⟩:=hro r R hR;have hlt:r<xs.length:=by rw [hrep.1];exact (List.getElem?_eq_some_iff.1 h1).1
   have hx:=List.getElem?_eq_getElem hlt
   show Rep false w ((xs[r]?).getD undef) (.s t l) _
   rw [hx];exact hrep.2 r _ _ h1 hx
  ·obtain ⟨t,l,h1,rfl⟩:=hro r R hR;cases ho
  ·obtain ⟨t,l,h1,rfl⟩:=hro r R hR;cases ho
  ·rw [hlo] at hl;cases hl
  ·rw [hlo] at hl;cases hl
  ·rw [hlo] at hl;cases hl
  ·rw [<- hst] at hR;obtain ⟨t,l,h1,rfl⟩:=hrootI r R hR;cases he
  ·rw [<- hst] at hn;obtain ⟨t,l,h1,_⟩:=hrootI n R hn;exact (List.getElem?_eq_some_iff.1 h1).1
  ·rw [hlo] at hn;cases hn
  ·rw [<- hst] at hm;simp at hm
  ·rw [<- hst] at hf;simp at hf
  ·rw [<- hst];rfl
  ·rw [<- hst] at hm;simp at hm
  ·rw [<- hst];trivial
 obtain ⟨hl1,hl2⟩:=zh8 (w:=w) (st:=st) (E:=E) avs xs 0 hrep.1 (fun i c u hc hu=>by
  have hr:=hrep.2 i c u hc hu;refine ⟨?_,hr.one⟩;cases c with
  | i k n=>exact hr.int_inv
  | b x=>exact hr.bool_inv
  | s t l =>
   obtain ⟨⟨a,cap,hv,_⟩,_⟩:=hr.len;refine ⟨⟨a,_,cap,hv⟩,fun R hR=>?_⟩;have e:0+i=i:=by omega
   show some ((xs[0+i]?).getD undef)=some u
   rw [e,hu];rfl)
 have hnid:st.nid=(zI avs).length:=by rw [<- hst];rfl
 obtain ⟨_,hcalls⟩:=ziz hO (zhB hO (tms:=tms) (N:=N) D) f _ st _ rs hev w (fun _=>False) _ E #[] [] w (zcn avs xs).toArray
  (fun v w'=>Grown w w'/\∃(ys:List Value) (K:Nat->zbn),zdO true w' (zI rs) ys K/\v=zkl (zcn rs ys)/\Fresh w w' (zI rs).length K) hS (fun n hn h=>by omega)
  (by simp [hl1]) (fun i m v hm hv=>by
   rw [List.getElem?_map] at hm;cases hx:(zdu avs 0)[i]? with
   | none=>rw [hx] at hm;cases hm
   | some x=>rw [hx] at hm;cases hm;exact hl2 i x v hx (by simpa using hv))
  (fun m hm n hn=>by
   obtain ⟨x,hx,rfl⟩:=List.mem_map.1 hm;simp only [MV.ids,zbU,List.mem_flatMap] at hn;obtain ⟨a,ha,hn⟩:=hn;have:=(zgc avs 0 n x a hx ha hn).2;omega)
  (fun U' st' E' w' tvs v hS' _ _ _ hv _ hans=>by
   obtain ⟨us,rfl,hul,huv⟩:=zCS hv;obtain ⟨ats,ys,ks,hG,hyl,hyv,rfl,_⟩:=ziy tvs [] rs us hans hul huv;have hM:=hS'.mem;have hget:∀i,i<(zI rs).length->∃a,ats[i]?=some a:=fun i hi=>⟨_,List.getElem?_eq_getElem (by rw [<- hG.len];exact hi)⟩
   refine ⟨⟨hM.os,hM.tape,hM.output,hM.size,fun b hb=>hM.keep b hb (fun h=>h)⟩,ys,fun i=>match ats[i]? with|some a=>aφ E' a|none=>fun _=>False,⟨by rw [hyl,hG.len],fun i c x hc hx=>?_⟩,rfl,⟨fun i x hi hx=>?_,fun i j x hi hj hx hx'=>?_⟩⟩
   ·obtain ⟨a,ha⟩:=hget i (List.getElem?_eq_some_iff.1 hc).1;simp only [ha];exact hG.rep hM ha hc (hyv i a x ha hx)
   ·obtain ⟨a,ha⟩:=hget i hi;simp only [ha] at hx;obtain ⟨r,hr,_,hrx⟩:=hG.fi ha hx;obtain ⟨R,hR,ho⟩:=hG.own r hr;exact ⟨((hM.mine r R hR ho).2 x hrx).resolve_left (fun h=>h),hM.rlt r R hR x hrx⟩
   ·obtain ⟨a,ha⟩:=hget i hi;obtain ⟨b,hb⟩:=hget j hj;simp only [ha] at hx;simp only [hb] at hx';obtain ⟨r,hr,rfl,hrx⟩:=hG.fi ha hx;obtain ⟨r',hr',rfl,hrx'⟩:=hG.fi hb hx';obtain ⟨R,hR,ho⟩:=hG.own r hr;obtain ⟨R',hR',ho'⟩:=hG.own r' hr';have:=hM.own_apart hR ho hR' ho' hrx hrx';subst this;exact hG.inj i j r ha hb)
 refine hcalls.mono ?_;intro e w' he;cases e with
 | returned v=>exact he
 | panicked chain=>exact he.elim
 | outgrown=>exact he.elim
end
section
variable {C:Cfg} {w0 w w1:World} {S0:zbn} {U:Nat->Prop} {st st1:St} {E E1:Env} {ts:Array Value} {sv:List (Array Value)}
theorem zq1:∀{p q:List (Int×Nat)},zln p q=some true->p=q
 | [],[],_=>rfl
 | [],_ :: _,h=>by simp [zln] at h
 | _ :: _,[],h=>by simp [zln] at h
 | (i,j) :: p,(i',j') :: q,h=>by
  simp only [zln] at h;split at h
  ·rename_i hj;simp only [beq_iff_eq] at hj;split at h
   ·rename_i c hc;simp only [Option.some.injEq,Bool.and_eq_true,ieq,beq_iff_eq] at h;obtain ⟨h1,h2⟩:=h;subst h2;rw [zq1 hc,h1,hj]
   ·cases h
  ·cases h
structure GivenT (st:St) (xs:List At) (cs:List CV) (ks:List Nat) (r:Nat) (p:List (Int×Nat)) (i:Int) (off:Nat):Prop where
 len:cs.length=xs.length
 own:∀q∈ks,q≠r/\∃R,st.root q=some R/\R.own=true
 get:∀(k:Nat) (a:At),xs[k]?=some a->(∃k' n,a = .i k' n/\cs[k]?=some (.i k' n))\/(∃x,a = .b x/\cs[k]?=some (.b x)) \/
  (∃q R,a = .sl q []/\st.root q=some R/\q∈ks/\cs[k]?=some (.s R.t R.l))\/∃cv,a = .sl r (p++[(i,off+k)])/\st.node r (p++[(i,off+k)])=some cv/\cs[k]?=some cv
 inj:∀(k k' q:Nat),xs[k]?=some (.sl q [])->xs[k']?=some (.sl q [])->k=k'
theorem GivenT.mem {xs:List At}{cs:List CV}{ks:List Nat}{r:Nat}{p:List (Int×Nat)}{i:Int}{off:Nat}(hG:GivenT st xs cs ks r p i off){k q:Nat}(hk:xs[k]?=some (At.sl q [])):q∈ks:=by
 rcases hG.get k _ hk with ⟨_,_,h,_⟩|⟨_,h,_⟩|⟨r2,_,h,_,hm,_⟩|⟨_,h,_⟩
 ·cases h
 ·cases h
 ·cases h;exact hm
 ·simp at h
theorem zpg {r:Nat}{p:List (Int×Nat)}{i:Int}:∀(xs:List At) (off:Nat) (cs:List CV) (ks:List Nat),st.give (some (r,p,i)) xs off=some (true,cs,ks)->GivenT st xs cs ks r p i off
 | [],off,cs,ks,h=>by
  simp only [St.give,Option.some.injEq,Prod.mk.injEq] at h;obtain ⟨_,rfl,rfl⟩:=h;exact ⟨rfl,fun q hq=>by simp at hq,fun k a h=>by simp at h,fun k k' q h=>by simp at h⟩
 | a :: xs,off,cs,ks,h=>by
  have cons:∀{c':CV} {cs':List CV} {ks' ks2:List Nat},GivenT st xs cs' ks' r p i (off+1)->(∀q∈ks',q∈ks2)->(∀q∈ks2,q≠r/\∃R,st.root q=some R/\R.own=true) ->
   ((∃k' n,a = .i k' n/\c' = .i k' n)\/(∃x,a = .b x/\c' = .b x)\/(∃q R,a = .sl q []/\st.root q=some R/\q∈ks2/\q∉ks'/\c' = .s R.t R.l)\/(a = .sl r (p++[(i,off)])/\st.node r (p++[(i,off)])=some c')) ->
   GivenT st (a :: xs) (c' :: cs') ks2 r p i off:=by
   intro c' cs' ks' ks2 hG hsub hown ha;refine ⟨by simp [hG.len],hown,fun k b hb=>?_,fun k k' q hk hk'=>?_⟩
   ·cases k with
    | zero =>
     simp only [List.getElem?_cons_zero,Option.some.injEq] at hb;subst hb;rcases ha with ⟨k',n,h1,h2⟩|⟨x,h1,h2⟩|⟨q,R,h1,h2,h3,_,h4⟩|⟨h1,h2⟩
     ·exact .inl ⟨k',n,h1,by simp [h2]⟩
     ·exact .inr (.inl ⟨x,h1,by simp [h2]⟩)
     ·exact .inr (.inr (.inl ⟨q,R,h1,h2,h3,by simp [h4]⟩))
     ·exact .inr (.inr (.inr ⟨c',h1,h2,by simp⟩))
    | succ k =>
     rcases hG.get k b (by simpa using hb) with h|h|⟨q,R,h1,h2,h3,h4⟩|⟨cv,h1,h2,h3⟩
     ·exact .inl h
     ·exact .inr (.inl h)
     ·exact .inr (.inr (.inl ⟨q,R,h1,h2,hsub q h3,h4⟩))
     ·have e:off+1+k=off+(k+1):=by omega
      rw [e] at h1 h2;exact .inr (.inr (.inr ⟨cv,h1,h2,h3⟩))
   ·have hnew:∀(k q:Nat),a=At.sl q []->xs[k]?≠some (At.sl q []):=by
     intro k q hq hk;rcases ha with ⟨k',n,h1,h2⟩|⟨x,h1,h2⟩|⟨q',R,h1,h2,h3,h4,_⟩|⟨h1,h2⟩
     ·rw [hq] at h1;cases h1
     ·rw [hq] at h1;cases h1
     ·rw [hq] at h1;cases h1;exact h4 (hG.mem hk)
     ·rw [hq] at h1;simp at h1
    cases k<;>cases k'<;>simp at hk hk'
    ·rfl
    ·exact absurd hk' (hnew _ q hk)
    ·exact absurd hk (hnew _ q hk')
    ·exact congrArg _ (hG.inj _ _ q hk hk')
  simp only [St.give] at h;split at h
  ·cases h
  ·rename_i c0 cs' ks' hg;split at h
   ·rename_i k n;cases h;have hG:=zpg xs (off+1) cs' ks hg;exact cons hG (fun _ h=>h) hG.own (.inl ⟨k,n,rfl,rfl⟩)
   ·rename_i x;cases h;have hG:=zpg xs (off+1) cs' ks hg;exact cons hG (fun _ h=>h) hG.own (.inr (.inl ⟨x,rfl,rfl⟩))
   ·rename_i q;split at h
    ·rename_i R hR;split at h
     ·rename_i hcond;cases h;have hG:=zpg xs (off+1) cs' ks' hg;simp only [Bool.and_eq_true,Bool.not_eq_true',List.contains_eq_mem,decide_eq_false_iff_not,beq_eq_false_iff_ne] at hcond;refine cons hG (fun q' h=>by simp [h]) (fun q' h=>?_) (.inr (.inr (.inl ⟨q,R,rfl,hR,by simp,hcond.1.2,rfl⟩)))
      rcases List.mem_cons.1 h with rfl|h
      ·exact ⟨hcond.2,R,hR,hcond.1.1⟩
      ·exact hG.own q' h
     ·cases h
    ·cases h
   ·rename_i q p' hne;split at h
    ·rename_i hr;simp only [beq_iff_eq] at hr;subst hr;split at h
     ·rename_i e cv he hcv;simp only [Option.some.injEq,Prod.mk.injEq,Bool.and_eq_true] at h;obtain ⟨⟨h1,h2⟩,rfl,rfl⟩:=h;subst h1 h2;have hp:=zq1 he;subst hp;have hG:=zpg xs (off+1) cs' ks' hg;exact cons hG (fun _ h=>h) hG.own (.inr (.inr (.inr ⟨rfl,hcv⟩)))
     ·cases h
    ·cases h
   ·cases h
theorem zL3:∀(p:List (Int×Nat)) {t t1:Ty} {l:List t.den} {l1:List t1.den} {i:Int} {j:Nat} {cv:CV},zgG t l p=some (.s t1 l1)->zgG t l (p++[(i,j)])=some cv->(t1.cells (ix l1 i t1.dflt))[j]?=some cv
 | [],t,t1,l,l1,i,j,cv,h1,h2=>by
  simp only [zgG,Option.some.injEq] at h1;cases h1;simp only [List.nil_append,zgG] at h2;split at h2
  ·rename_i t' l' hc;cases h2;exact hc
  ·cases h2
 | (i',j') :: p,t,t1,l,l1,i,j,cv,h1,h2=>by
  simp only [List.cons_append,zgG] at h1 h2;split at h1
  ·rename_i t' l' hc;rw [hc] at h2;exact zL3 p h1 h2
  ·cases h1
theorem zDX:∀{xs:List At} {cs:List CV} {off k:Nat} {a:At} {c:CV},xs[k]?=some a->cs[k]?=some c->c.flat=false->(∃r p,a = .sl r p/\p≠[])\/off+k∈zhL xs cs off
 | [],_,_,_,_,_,h,_,_=>by simp at h
 | _ :: _,[],_,_,_,_,_,h,_=>by simp at h
 | a0 :: xs,c0 :: cs,off,k,a,c,ha,hc,hf=>by
  cases k with
  | zero =>
   simp only [List.getElem?_cons_zero,Option.some.injEq] at ha hc;subst ha hc;cases a0 with
   | sl r p =>
    cases p with
    | nil =>
     right
     cases c0 with
     | i k n=>cases hf
     | b x=>cases hf
     | s t l=>simp [zhL]
    | cons ij p=>exact .inl ⟨r,_,rfl,by simp⟩
   | _ =>
    right
    cases c0 with
    | i k n=>cases hf
    | b x=>cases hf
    | s t l=>simp [zhL]
  | succ k =>
   rcases zDX (xs:=xs) (cs:=cs) (off:=off+1) (k:=k) (by simpa using ha) (by simpa using hc) hf with h|h
   ·exact .inl h
   ·right
    have e:off+1+k=off+(k+1):=by omega
    rw [e] at h;cases a0 with
    | sl r p =>
     cases p with
     | nil=>cases c0<;>simp [zhL,h]
     | cons ij p=>cases c0<;>simp [zhL,h]
    | _=>cases c0<;>simp [zhL,h]
theorem zwy (p:List (Int×Nat))(i:Int)(j:Nat)(q:List (Int×Nat)):(cols p++[j]).isPrefixOf (cols (p++(i,j) :: q))=true:=by
 rw [List.isPrefixOf_iff_prefix];exact ⟨cols q,by simp [cols]⟩
theorem zi6 {α β:Type}(f:α->β):∀(l:List (Nat×α)) (n:Nat),zx (l.map fun x=>(x.1,f x.2)) n=(zx l n).map f
 | [],_=>rfl
 | (k,v) :: l,n=>by
  simp only [List.map_cons,zx];split
  ·rfl
  ·exact zi6 f l n
theorem zxf {r:Nat}{js:List (List Nat)}{a:At}{n:Nat}(h:n∈(zcH r js a).ids):n∈a.ids:=by
 cases a with
 | sl r' q =>
  simp only [zcH] at h;split at h
  ·simp [At.ids,zbA,zbB] at h
  ·exact h
 | ep r' q i o =>
  simp only [zcH] at h;split at h
  ·simp [At.ids,zbA,zbB] at h
  ·exact h
 | bad=>exact h
 | i k n=>exact h
 | b x=>exact h
 | lp l o=>exact h
 | fn f c=>exact h
 | kp r' J t =>
  simp only [zcH] at h;cases hb:Nat.beq r r'<;>rw [hb] at h
  ·exact h
  ·cases hc:coarse js J<;>rw [hc] at h
   ·simp [At.ids,zbA,zbB] at h
   ·exact h
theorem zy8 {js J:List (List Nat)}{q:List Nat}(h:coarse js J=true)(hJ:J.any (fun c=>c.isPrefixOf q)=false):js.any (fun c=>c.isPrefixOf q)=false:=by
 rw [List.any_eq_false] at hJ ⊢;intro m hm hp;obtain ⟨c,hc,hcm⟩:=List.any_eq_true.1 (List.all_eq_true.1 h m hm);exact hJ c hc (List.isPrefixOf_iff_prefix.2 ((List.isPrefixOf_iff_prefix.1 hcm).trans (List.isPrefixOf_iff_prefix.1 hp)))
theorem zR7 {w1:World}{st2:St}{E1:Env}{r:Nat}{js:List (List Nat)}(T:∀a v,VA w st E a v->VA w1 st2 E1 (zcH r js a) v){x:TV}{v:Value}(h:VT w st E x v):VT w1 st2 E1 (zkb r js x) v:=by
 rcases x with a|l
 ·exact T a v h
 ·obtain ⟨vs,h1,h2,h3⟩:=h;refine ⟨vs,h1,by simp [h2],fun j a u ha hu=>?_⟩
  rw [List.getElem?_map] at ha;cases hl:l[j]? with
  | none=>rw [hl] at ha;cases ha
  | some b=>rw [hl] at ha;cases ha;exact ⟨(h3 j b u hl hu).1,T _ _ (h3 j b u hl hu).2⟩
theorem zZT {w1:World}{st2:St}{E1:Env}{r:Nat}{js:List (List Nat)}(T:∀a v,VA w st E a v->VA w1 st2 E1 (zcH r js a) v){m:MV}{v:Value}(h:VM w st E m v):VM w1 st2 E1 (zff r js m) v:=by
 cases m with
 | und=>exact h
 | v x=>exact zR7 T h
 | tup l =>
  obtain ⟨vs,h1,h2,h3⟩:=h;refine ⟨vs,h1,by simp [h2],fun j a u ha hu=>?_⟩
  rw [List.getElem?_map] at ha;cases hl:l[j]? with
  | none=>rw [hl] at ha;cases ha
  | some b=>rw [hl] at ha;cases ha;exact zR7 T (h3 j b u hl hu)
theorem zxg {w1:World}{st2:St}{E1:Env}{r:Nat}{js:List (List Nat)}(T:∀a v,VA w st E a v->VA w1 st2 E1 (zcH r js a) v){tm:List MV}{ts:Array Value}(h:Slots w st E tm ts):Slots w1 st2 E1 (tm.map (zff r js)) ts:=by
 refine ⟨by simp [h.1],fun i m v hm hv=>?_⟩
 rw [List.getElem?_map] at hm;cases hl:tm[i]? with
 | none=>rw [hl] at hm;cases hm
 | some b=>rw [hl] at hm;cases hm;exact zZT T (h.2 i b v hl hv)
theorem zxh {w1:World}{st2:St}{E1:Env}{r:Nat}{js:List (List Nat)}(T:∀a v,VA w st E a v->VA w1 st2 E1 (zcH r js a) v):∀{l:List (List MV)} {s:List (Array Value)},Stack w st E l s->Stack w1 st2 E1 (l.map fun f=>f.map (zff r js)) s
 | [],[],_=>trivial
 | f :: l,ts :: s,h=>⟨zxg T h.1,zxh T h.2⟩
 | [],_ :: _,h=>h.elim
 | _ :: _,[],h=>h.elim
theorem zEb {r:Nat}{js:List (List Nat)}{x:TV}{a:At}(h:a∈zW (zkb r js x)):∃b∈zW x,a=zcH r js b:=by
 rcases x with b|l
 ·simp only [zkb,zW,List.mem_singleton] at h ⊢;exact ⟨b,rfl,h⟩
 ·simp only [zkb,zW,List.mem_map] at h ⊢;obtain ⟨b,hb,rfl⟩:=h;exact ⟨b,hb,rfl⟩
theorem zpa {r:Nat}{js:List (List Nat)}{m:MV}{n:Nat}(h:n∈(zff r js m).ids):n∈m.ids:=by
 simp only [MV.ids,List.mem_flatMap] at h ⊢;obtain ⟨a,ha,hn⟩:=h;have:∃b∈zbU m,a=zcH r js b:=by
  cases m with
  | und=>simp [zff,zbU] at ha
  | v x=>exact zEb ha
  | tup l =>
   simp only [zff,zbU,List.mem_flatMap,List.mem_map] at ha ⊢;obtain ⟨y,⟨x,hx,rfl⟩,ha⟩:=ha;obtain ⟨b,hb,rfl⟩:=zEb ha;exact ⟨b,⟨x,hx,hb⟩,rfl⟩
 obtain ⟨b,hb,rfl⟩:=this;exact ⟨b,hb,zxf hn⟩
end
section
variable {C:Cfg} {w0 w w1:World} {S0:zbn} {U:Nat->Prop} {st st1:St} {E E1:Env} {ts:Array Value} {sv:List (Array Value)}
def zgn (st:St)(r:Nat)(R:Root)(m:List R.t.den)(ks:List Nat)(js:List (List Nat)):St :=
 { st with
  tm:=st.tm.map (zff r js)
  stk:=st.stk.map fun f=>f.map (zff r js)
  lo:=st.lo.map fun x=>(x.1,x.2.map (zcH r js))
  ro:=(r,{ R with l:=m }) :: (moved st ks++st.ro)
  ep:=st.ep+1 }
theorem zXV (hS:Sim w0 S0 U st E ts sv w){r:Nat}{R:Root}(hR:st.root r=some R)(ho:R.own=true){m:List R.t.den}{ks:List Nat}{js:List (List Nat)}{b:Nat}{S3:zbn}(hks:∀q∈ks,q≠r/\∃R,st.root q=some R/\R.own=true)(hos:w1.os=w.os)(htp:w1.tape=w.tape)(hout:w1.output=w.output)(hsz:w1.heap.size=w.heap.size)(hb:E.φ r b)(hkeep:∀x,x≠b->w1.heap[x]?=w.heap[x]?)(hS3:∀x,S3 x->E.φ r x\/∃q∈ks,E.φ q x)(hrep:Rep true w1 (E.ρ r) (.s R.t m) S3)(hhdr:∀q u,zbi w R.t (E.ρ r) q=some u->js.any (fun c=>c.isPrefixOf (cols q))=false->zbi w1 R.t (E.ρ r) q=some u) :
 Sim w0 S0 U (zgn st r R m ks js) { E with φ:=fun n=>if n=r then S3 else E.φ n } ts sv w1:=by
 have hM:=hS.mem;obtain ⟨hre,hrm⟩:=hM.mine r R hR ho;have hroot:∀q Q,(zgn st r R m ks js).root q=some Q ->
  (q=r/\Q={ R with l:=m })\/(q≠r/\q∈ks/\∃R',st.root q=some R'/\R'.own=true/\Q={ R' with own:=false,ep:=some (st.ep+1) })\/(q≠r/\q∉ks/\st.root q=some Q/\Q.ep=none):=by
  intro q Q hq;obtain ⟨h1,h2⟩:=zbL hq;simp only [zgn,zx] at h1 h2;split at h1
  ·rename_i he;simp only [beq_iff_eq] at he;cases h1;exact .inl ⟨he.symm,rfl⟩
  ·rename_i he;simp only [beq_iff_eq] at he;have hne:q≠r:=fun h=>he h.symm;rw [zbY] at h1;split at h1
   ·rename_i Q' hQ';cases h1;obtain ⟨hm,R',hR',rfl⟩:=zj4 ks q _ hQ';obtain ⟨_,R2,hR2,hR2o⟩:=hks q hm;have:=(zbL hR2).1;rw [hR'] at this;cases this;exact .inr (.inl ⟨hne,hm,R',hR2,hR2o,rfl⟩)
   ·rename_i hnone;have hnk:q∉ks:=fun hm=>by
     have:=zH6 ks q hnone hm;rw [this] at h1;cases h1
    refine .inr (.inr ⟨hne,hnk,?_⟩);rcases h2 with h2|h2
    ·exact ⟨zhN h1 (.inl h2),h2⟩
    ·have:=hM.epo q Q _ h1 h2;omega
 have hfr:∀q Q,q≠r->st.root q=some Q->Q.ep=none->∀x,E.φ q x->w1.heap[x]?=w.heap[x]? :=
  fun q Q hne hq hQ x hx=>hkeep x (fun e=>hM.apart r R q Q hR ho hq hQ (fun e=>hne e.symm) b hb (e ▸ hx))
 have hkq:∀q∈ks,∃Q,q≠r/\st.root q=some Q/\Q.own=true/\Q.ep=none:=fun q hq=>by
  obtain ⟨h1,Q,h2,h3⟩:=hks q hq;exact ⟨Q,h1,h2,h3,(hM.mine q Q h2 h3).1⟩
 have hS3m:∀x,S3 x->(S0 x\/w0.heap.size<=x)/\x<w.heap.size:=by
  intro x hx;rcases hS3 x hx with h|⟨q,hq,h⟩
  ·exact ⟨hrm x h,hM.rlt r R hR x h⟩
  ·obtain ⟨Q,_,h2,h3,_⟩:=hkq q hq;exact ⟨(hM.mine q Q h2 h3).2 x h,hM.rlt q Q h2 x h⟩
 have hS3a:∀q Q,q≠r->q∉ks->st.root q=some Q->Q.ep=none->∀x,S3 x->¬ E.φ q x:=by
  intro q Q hne hnk hq hQ x hx;rcases hS3 x hx with h|⟨q2,hq2,h⟩
  ·exact hM.apart r R q Q hR ho hq hQ (fun e=>hne e.symm) x h
  ·obtain ⟨Q2,_,h2,h3,_⟩:=hkq q2 hq2;exact hM.apart q2 Q2 q Q h2 h3 hq hQ (fun e=>hnk (e ▸ hq2)) x h
 have T:∀a v,VA w st E a v->VA w1 (zgn st r R m ks js) { E with φ:=fun n=>if n=r then S3 else E.φ n } (zcH r js a) v:=by
  have path:∀r' q u Q,(r=r'->js.any (fun c=>c.isPrefixOf (cols q))=false)->(zgn st r R m ks js).root r'=some Q->(∀R',st.root r'=some R'->zbi w R'.t (E.ρ r') q=some u)->zbi w1 Q.t (E.ρ r') q=some u:=by
   intro r' q u Q hjs hQ hold;rcases hroot r' Q hQ with ⟨rfl,rfl⟩|⟨hne,hk,R',hR',hRo,rfl⟩|⟨hne,hnk,hqs,hQe⟩
   ·exact hhdr q u (hold R hR) (hjs rfl)
   ·have:=zcY (w':=w1) q (hM.rep r' R' hR') (hfr r' R' hne hR' (hM.mine r' R' hR' hRo).1);rw [this];exact hold R' hR'
   ·have:=zcY (w':=w1) q (hM.rep r' Q hqs) (hfr r' Q hne hqs hQe);rw [this];exact hold Q hqs
  have tyq:∀r' Q,(zgn st r R m ks js).root r'=some Q->∃R',st.root r'=some R'/\R'.t=Q.t:=by
   intro r' Q hQ;rcases hroot r' Q hQ with ⟨rfl,rfl⟩|⟨hne,hk,R',hR',hRo,rfl⟩|⟨hne,hnk,hqs,hQe⟩
   ·exact ⟨R,hR,rfl⟩
   ·exact ⟨R',hR',rfl⟩
   ·exact ⟨Q,hqs,rfl⟩
  have loc:∀l cs,zx (zgn st r R m ks js).lo l=some cs->∃cs',zx st.lo l=some cs':=by
   intro l cs h;simp only [zgn] at h;rw [zi6] at h;cases hl:zx st.lo l with
   | none=>rw [hl] at h;cases h
   | some cs'=>exact ⟨cs',rfl⟩
  intro a v hv;cases a with
  | bad=>trivial
  | i k n=>exact hv
  | b x=>exact hv
  | sl r' q =>
   simp only [zcH];split
   ·trivial
   ·rename_i hns;refine ⟨hv.1,fun Q hQ=>path r' q v Q (fun e=>?_) hQ hv.2⟩;subst e;simpa using hns
  | lp l off =>
   refine ⟨hv.1,fun cs h=>?_⟩;obtain ⟨cs',h'⟩:=loc l cs h;exact hv.2 cs' h'
  | ep r' q i o =>
   simp only [zcH];split
   ·trivial
   ·rename_i hns;refine ⟨hv.1,fun Q hQ=>?_⟩;obtain ⟨R',hR',ht⟩:=tyq r' Q hQ;obtain ⟨b',o',len,cap,t',h1,h2,h3⟩:=hv.2 R' hR';refine ⟨b',o',len,cap,t',path r' q _ Q (fun e=>?_) hQ (fun R2 hR2=>?_),by rw [<- ht];exact h2,h3⟩
    ·subst e;simpa using hns
    ·rw [hR'] at hR2;cases hR2;exact h1
  | kp r' J t =>
   have key:(r=r'->coarse js J=true)->VA w1 (zgn st r R m ks js) { E with φ:=fun n=>if n=r then S3 else E.φ n } (.kp r' J t) v:=fun hc=>by
    refine ⟨hv.1,fun Q hQ=>?_⟩;obtain ⟨R',hR',ht⟩:=tyq r' Q hQ;obtain ⟨h1,h2,h3⟩:=hv.2 R' hR';refine ⟨ht.symm.trans h1,h2,fun p u hp hJ=>?_⟩;have:=path r' p u Q (fun e=>zy8 (hc e) hJ) hQ (fun R2 hR2=>by
     rw [hR'] at hR2;cases hR2;rw [h1,h2];exact h3 p u hp hJ)
    rw [<- ht,h1] at this;rw [show E.ρ r'=v from h2] at this
    exact this
   simp only [zcH];cases hb:Nat.beq r r' with
   | false=>exact key (fun e=>by subst e;simp at hb)
   | true=>cases hc:coarse js J with
    | true=>exact key (fun _=>hc)
    | false=>trivial
  | fn f caps =>
   obtain ⟨vs,h1,h2,h3⟩:=hv;refine ⟨vs,h1,h2,fun k l u hk hu=>⟨(h3 k l u hk hu).1,fun cs h=>?_⟩⟩;obtain ⟨cs',h'⟩:=loc l cs h;exact (h3 k l u hk hu).2 cs' h'
 have hlo:∀l cs,zx (zgn st r R m ks js).lo l=some cs->∃cs',zx st.lo l=some cs'/\cs=cs'.map (zcH r js):=by
  intro l cs h;simp only [zgn] at h;rw [zi6] at h;cases hl:zx st.lo l with
  | none=>rw [hl] at h;cases h
  | some cs'=>rw [hl] at h;cases h;exact ⟨cs',rfl,rfl⟩
 refine ⟨⟨hos.trans hM.os,htp.trans hM.tape,hout.trans hM.output,by rw [hsz];exact hM.size,?_,?_,?_,?_,?_,?_,?_,?_,?_,hM.κ⟩,⟨?_,?_,?_,?_⟩,zxg T hS.tm,zxh T hS.stk⟩
 ·intro x hx hnS;refine (hkeep x (fun e=>?_)).trans (hM.keep x hx hnS);subst e;rcases hrm x hb with h|h
  ·exact hnS h
  ·omega
 ·intro q Q hq;rcases hroot q Q hq with ⟨rfl,rfl⟩|⟨hne,hk,R',hR',hRo,rfl⟩|⟨hne,hnk,hqs,hQe⟩
  ·simp only [if_true,ho];exact hrep
  ·simp only [if_neg hne];exact ((hM.rep q R' hR').frame (hfr q R' hne hR' (hM.mine q R' hR' hRo).1)).ro
  ·simp only [if_neg hne];exact (hM.rep q Q hqs).frame (hfr q Q hne hqs hQe)
 ·intro q Q hq x hx;rw [hsz];rcases hroot q Q hq with ⟨rfl,rfl⟩|⟨hne,hk,R',hR',hRo,rfl⟩|⟨hne,hnk,hqs,hQe⟩
  ·simp only [if_true] at hx;exact (hS3m x hx).2
  ·simp only [if_neg hne] at hx;exact hM.rlt q R' hR' x hx
  ·simp only [if_neg hne] at hx;exact hM.rlt q Q hqs x hx
 ·intro q Q hq hoq;rcases hroot q Q hq with ⟨rfl,rfl⟩|⟨hne,hk,R',hR',hRo,rfl⟩|⟨hne,hnk,hqs,hQe⟩
  ·refine ⟨hre,fun x hx=>?_⟩;simp only [if_true] at hx;exact (hS3m x hx).1
  ·cases hoq
  ·simp only [if_neg hne];exact hM.mine q Q hqs hoq
 ·intro q Q q' Q' hq hoq hq' he hnn x hx;rcases hroot q Q hq with ⟨rfl,rfl⟩|⟨hne,hk,R',hR',hRo,rfl⟩|⟨hne,hnk,hqs,hQe⟩
  ·rcases hroot q' Q' hq' with ⟨rfl,rfl⟩|⟨hne',hk',R2,hR2,hRo2,rfl⟩|⟨hne',hnk',hqs',hQe'⟩
   ·exact absurd rfl hnn
   ·cases he
   ·simp only [if_true] at hx;simp only [if_neg hne'];exact hS3a q' Q' hne' hnk' hqs' hQe' x hx
  ·cases hoq
  ·simp only [if_neg hne] at hx;rcases hroot q' Q' hq' with ⟨rfl,rfl⟩|⟨hne',hk',R2,hR2,hRo2,rfl⟩|⟨hne',hnk',hqs',hQe'⟩
   ·simp only [if_true];exact fun h=>hS3a q Q hne hnk hqs hQe x h hx
   ·cases he
   ·simp only [if_neg hne'];exact hM.apart q Q q' Q' hqs hoq hqs' hQe' hnn x hx
 ·intro l cs hl;obtain ⟨cs',hl',rfl⟩:=hlo l cs hl;obtain ⟨h1,vals,e,h2,h3,h4⟩:=hM.loc l cs' hl';refine ⟨h1,vals,e,(hkeep _ (fun e=>hM.lro l cs' r R hl' hR (by rw [e];exact hb))).trans h2,by simp [h3],fun j c u hc hu=>?_⟩
  rw [List.getElem?_map] at hc;cases hcj:cs'[j]? with
  | none=>rw [hcj] at hc;cases hc
  | some c'=>rw [hcj] at hc;cases hc;exact ⟨(h4 j c' u hcj hu).1,T _ _ (h4 j c' u hcj hu).2⟩
 ·intro l l' cs cs' hl hl' he;obtain ⟨c1,h1,_⟩:=hlo l cs hl;obtain ⟨c2,h2,_⟩:=hlo l' cs' hl';exact hM.linj l l' c1 c2 h1 h2 he
 ·intro l cs q Q hl hq;obtain ⟨c1,h1,_⟩:=hlo l cs hl;rcases hroot q Q hq with ⟨rfl,rfl⟩|⟨hne,hk,R',hR',hRo,rfl⟩|⟨hne,hnk,hqs,hQe⟩
  ·simp only [if_true];intro hx;rcases hS3 _ hx with h|⟨q2,hq2,h⟩
   ·exact hM.lro l c1 q R h1 hR h
   ·obtain ⟨Q2,_,h2,_,_⟩:=hkq q2 hq2;exact hM.lro l c1 q2 Q2 h1 h2 h
  ·simp only [if_neg hne];exact hM.lro l c1 q R' h1 hR'
  ·simp only [if_neg hne];exact hM.lro l c1 q Q h1 hqs
 ·intro q Q e hq he;simp only [zgn,zx] at hq
  show e<=st.ep+1
  split at hq
  ·cases hq;simp only [hre] at he;cases he
  ·rw [zbY] at hq;split at hq
   ·rename_i Q' hQ';cases hq;obtain ⟨_,R',_,rfl⟩:=zj4 ks q _ hQ';simp only [Option.some.injEq] at he;subst he;exact Nat.le_refl _
   ·exact Nat.le_succ_of_le (hM.epo q Q e hq he)
 ·intro n Q hn;simp only [zgn,zx] at hn;split at hn
  ·rename_i he;simp only [beq_iff_eq] at he;subst he;exact hS.ids.ro _ R (zbL hR).1
  ·rw [zbY] at hn;split at hn
   ·rename_i Q' hQ';obtain ⟨_,R',hR',_⟩:=zj4 ks n Q' hQ';exact hS.ids.ro n R' hR'
   ·exact hS.ids.ro n Q hn
 ·intro n cs hn;obtain ⟨cs',h1,rfl⟩:=hlo n cs hn;refine ⟨(hS.ids.lo n cs' h1).1,fun a ha k hk=>?_⟩;obtain ⟨a',ha',rfl⟩:=List.mem_map.1 ha;exact (hS.ids.lo n cs' h1).2 a' ha' k (zxf hk)
 ·intro m' hm n hn;obtain ⟨m0,hm0,rfl⟩:=List.mem_map.1 hm;exact hS.ids.tm m0 hm0 n (zpa hn)
 ·intro f hf m' hm n hn;obtain ⟨f0,hf0,rfl⟩:=List.mem_map.1 hf;obtain ⟨m0,hm0,rfl⟩:=List.mem_map.1 hm;exact hS.ids.stk f0 hf0 m0 hm0 n (zpa hn)
theorem zXU (hC:CfgOk C)(w0 w:World)(S0:zbn)(U:Nat->Prop)(st:St)(E:Env)(ts:Array Value)(sv:List (Array Value))(o:Oper)(id:Nat)(c:Bool)(st2:St)(hS:Sim w0 S0 U st E ts sv w)(h:graft C st o=some (c,st2))(hc:c=true) :
 Goes C w0 S0 U st ts sv w o id (fun _=>st2.put o.dst .und)/\st2.nid=st.nid:=by
 subst hc;unfold graft at h;split at h
 ·rename_i T a x ho;split at h
  ·rename_i agg tys y r p i off hT hx ha;split at h
   ·rename_i R t l c cvs ks hRr hn hg;split at h
    ·rename_i hcond;simp only [Bool.and_eq_true,beq_iff_eq,decide_eq_true_eq] at hcond;obtain ⟨⟨hown,hlen⟩,hfit⟩:=hcond;split at h
     ·rename_i l' hset;split at h
      ·rename_i m hput;simp only [Option.some.injEq,Prod.mk.injEq] at h;obtain ⟨rfl,rfl⟩:=h;refine ⟨?_,rfl⟩;have hG:=zpg _ _ _ _ hg;obtain ⟨hxv,hxi⟩:=zce hS hx;obtain ⟨hav,hai⟩:=zbR hS ha;obtain ⟨hc1,hc2⟩:=VT.cells hxv (zr1 hx);obtain ⟨b,o2,len,cap,t1,e1,e2,e3,e4,e5⟩:=hav.2 R hRr;have hM:=hS.mem;have hrep:=hM.rep r R hRr;rw [hown] at hrep;obtain ⟨t',l0,S1,f1,f2,f3,f4,f5⟩:=Rep.focus p hrep e1;have hg1:zgG R.t R.l p=some (.s t l):=by
        obtain ⟨R',hR',hg'⟩:=zgd hn;rw [hRr] at hR';cases hR';exact hg'
       rw [hg1] at f1;cases f1;rw [e2] at f2;cases f2;obtain ⟨_,_,_,_,fwp⟩:=f5 w l S1 (fun _ _ _=>rfl) (fun _ h _=>h) f3;generalize hv:({ tmps:=ts,defers:=[] }:Act).eval x=v at *;cases f3 with
       | void _ _ _ ho=>cases ho
       | sl _ _ _ _ _ arr e' fz V K _ hb hfz hlen1 hcap hsz hS' hsub hdis hvv hcc =>
       have hfz':=hfz rfl;subst hfz';have hRows:Rows true w t l arr o2 b V K S1:=⟨hsub,hdis,hvv,hcc⟩;have hul:v.cells.toList.length=cvs.length:=by rw [hG.len];simpa using hc1
       have husz:v.cells.size=tys.length:=by rw [hc1,hlen]
       have hfit':off+v.cells.toList.length<=t.width:=by simp [husz];exact hfit
       have hrow:(i.toNat+1)*t.width<=cap*t.width:=Nat.mul_le_mul_right _ (by omega)
       rw [Nat.succ_mul] at hrow;have h1c:∀u∈v.cells.toList,u.oneCell'=true:=by
        intro u hu;obtain ⟨j,hj⟩:=List.mem_iff_getElem?.1 hu;have hlt:j<(zW y).length:=by rw [<- hc1];have:=(List.getElem?_eq_some_iff.1 hj).1;simpa using this
        exact (hc2 j _ u (List.getElem?_eq_getElem hlt) (by simpa using hj)).1
       have hrun:=zux (w:=w) (off:=o2+i.toNat*t.width+off) (hC.cty T agg tys hT) hb husz (by omega) h1c
       generalize hw1:w.setRow b (splice arr.toList (o2+i.toNat*t.width+off) v.cells.toList).toArray=w1 at hrun;have hb1:w1.heap[b]?=some (.cells (splice arr.toList (o2+i.toNat*t.width+off) v.cells.toList).toArray e' (0,0)):=by rw [<- hw1];exact setRow_heap w b _ _ e' _ hb
       have hoth:∀x,x≠b->w1.heap[x]?=w.heap[x]?:=fun x hx=>by rw [<- hw1];exact setRow_other w b x _ hx
       have hrb:E.φ r b:=f4 b hS';have hapart:∀q∈ks,∀x,E.φ q x->¬ E.φ r x:=by
        intro q hq x hx hx';obtain ⟨hne,Q,hQ,hQo⟩:=hG.own q hq;exact hne (hM.own_apart hQ hQo hRr hown hx hx')
       have hold:∀i' j,i'<l.length->j<t.width->¬ Hit i.toNat off v.cells.toList.length i' j->∀x,K i' j x->w1.heap[x]?=w.heap[x]?:=fun i' j hi' hj _ x hx=>hoth x ((hsub i' j x hi' hj hx).2 rfl)
       let Kn:Nat->zbn:=fun k=>match (zW y)[k]? with
        | some (.sl q [])=>E.φ q
        | some (.sl _ (_ :: _))=>K i.toNat (off+k)
        | _=>fun _=>False
       have hat:∀k,k<v.cells.toList.length->∃a,(zW y)[k]?=some a:=fun k hk=>⟨_,List.getElem?_eq_getElem (by rw [<- hc1];simpa using hk)⟩
       have hKn:∀k x,k<v.cells.toList.length->Kn k x->(∃q∈ks,(zW y)[k]?=some (.sl q [])/\E.φ q x)\/K i.toNat (off+k) x:=by
        intro k x hk hx;obtain ⟨a,ha⟩:=hat k hk;simp only [Kn,ha] at hx;rcases hG.get k a ha with ⟨_,_,rfl,_⟩|⟨_,rfl,_⟩|⟨q,Q,rfl,h2,h3,h4⟩|⟨cv,rfl,_,_⟩
        ·exact hx.elim
        ·exact hx.elim
        ·exact .inl ⟨q,h3,ha,hx⟩
        ·right
         cases p<;>exact hx
       have hcol:∀k,k<v.cells.toList.length->off+k<t.width:=fun k hk=>by omega
       have hset1:=Rep.setCells (w:=w) (w1:=w1) (Kn:=Kn) hlen1 hcap hsz hRows e4 hul hfit' hset hb1 (fun k c u hc hu=>by
        have hk:k<v.cells.toList.length:=(List.getElem?_eq_some_iff.1 hu).1;obtain ⟨a,ha⟩:=hat k hk;have hau:=(hc2 k a u ha (by simpa using hu)).2
        rcases hG.get k a ha with ⟨_,_,rfl,h2⟩|⟨_,rfl,h2⟩|⟨q,Q,rfl,h2,h3,h4⟩|⟨cv,rfl,h2,h3⟩
        ·rw [hc] at h2;cases h2;cases hau;exact .i _ _ _
        ·rw [hc] at h2;cases h2;cases hau;exact .b _ _
        ·rw [hc] at h4;cases h4;have:=hau.2 Q h2;simp only [zbi,Option.some.injEq] at this;subst this;obtain ⟨hne,Q',hQ',hQo⟩:=hG.own q h3;rw [h2] at hQ';cases hQ';have hr:=hM.rep q Q h2;rw [hQo] at hr;have hk2:Kn k=E.φ q:=by simp only [Kn,ha]
         rw [hk2];exact hr.frame (fun x hx=>hoth x (fun e=>hapart q h3 x hx (e ▸ hrb)))
        ·have hcv:cv=c:=by rw [hc] at h3;cases h3;rfl
         subst hcv;have hu1:=hau.2 R hRr;rw [fwp] at hu1;obtain ⟨R',hR',hgp⟩:=zgd h2;rw [hRr] at hR';cases hR';have hcell:=zL3 p hg1 hgp;have hj:=hcol k hk;have hrep2:=hcc i.toNat _ (zjX e4) (off+k) cv hcell;have hV:=hvv i.toNat (off+k) e4 hj;simp only [zbi] at hu1;rw [if_pos ⟨e3,e4⟩] at hu1;split at hu1
         ·rw [cell_of_block hb,hV] at hu1;simp only [Option.some.injEq] at hu1;subst hu1;have hk2:Kn k=K i.toNat (off+k):=by
           simp only [Kn,ha];cases p<;>rfl
          rw [hk2];exact hrep2.frame (fun x hx=>hoth x ((hsub _ _ x e4 hj hx).2 rfl))
         ·cases hu1)
        hold
        (fun k x hk hx=>by
         rcases hKn k x hk hx with ⟨q,hq,_,hx⟩|hx
         ·exact fun e=>hapart q hq x hx (e ▸ hrb)
         ·exact (hsub _ _ x e4 (hcol k hk) hx).2 rfl)
        (fun k k' x hk hk' hx hx'=>by
         rcases hKn k x hk hx with ⟨q,hq,hqa,hx⟩|hx<;>rcases hKn k' x hk' hx' with ⟨q',hq',hqa',hx'⟩|hx'
         ·obtain ⟨_,Q,hQ,hQo⟩:=hG.own q hq;obtain ⟨_,Q',hQ',hQo'⟩:=hG.own q' hq';have:=hM.own_apart hQ hQo hQ' hQo' hx hx';subst this;exact hG.inj k k' q hqa hqa'
         ·exact absurd (f4 x (hsub _ _ x e4 (hcol k' hk') hx').1) (hapart q hq x hx)
         ·exact absurd (f4 x (hsub _ _ x e4 (hcol k hk) hx).1) (hapart q' hq' x hx')
         ·have:=(hdis rfl _ _ _ _ x e4 (hcol k hk) e4 (hcol k' hk') hx hx').2;omega)
        (fun k x i' j hk hx hi' hj hnh hx'=>by
         rcases hKn k x hk hx with ⟨q,hq,_,hx⟩|hx
         ·exact hapart q hq x hx (f4 x (hsub _ _ x hi' hj hx').1)
         ·have:=hdis rfl _ _ _ _ x e4 (hcol k hk) hi' hj hx hx';exact hnh ⟨this.1.symm,by omega,by omega⟩)
       have hS2:∀x,(x=b\/(∃i' j,i'<l.length/\j<t.width/\¬ Hit i.toNat off v.cells.toList.length i' j/\K i' j x)\/∃k,k<v.cells.toList.length/\Kn k x)->S1 x\/∃q∈ks,E.φ q x:=by
        intro x hx;rcases hx with rfl|⟨i',j,hi',hj,_,hk⟩|⟨k,hk,hx⟩
        ·exact .inl hS'
        ·exact .inl (hsub i' j x hi' hj hk).1
        ·rcases hKn k x hk hx with ⟨q,hq,_,hx⟩|hx
         ·exact .inr ⟨q,hq,hx⟩
         ·exact .inl (hsub _ _ x e4 (hcol k hk) hx).1
       obtain ⟨m',hm',hrm,hh1,hh2⟩:=f5 w1 l' _ (fun x hx hnx=>hoth x (fun e=>hnx (e ▸ hS'))) (fun x hx hx'=>by
        rcases hS2 x hx with h|⟨q,hq,h⟩
        ·exact h
        ·exact absurd hx' (hapart q hq x h)) hset1
       rw [hput] at hm';cases hm';have hsim:=zXV (w1:=w1) (m:=m) (js:=(zhL (zW y) cvs off).map fun j=>cols p++[j]) hS hRr hown hG.own (by rw [<- hw1];rfl) (by rw [<- hw1];rfl) (by rw [<- hw1];rfl) (by rw [<- hw1];simp) hrb hoth (fun x hx=>by
        rcases hx with ⟨hx,_⟩|hx
        ·exact .inl hx
        ·rcases hS2 x hx with h|h
         ·exact .inl (f4 x h)
         ·exact .inr h) hrm (fun q u hq hns=>by
        rcases zzX p q with ⟨q',rfl⟩|hnp
        ·rw [hh2 q'];rw [fwp q'] at hq;refine zsU hcap hsz hRows hb e4 hul hfit' hset hb1 hold q' (fun i' j q'' he k c hj hck=>?_) hoth hq;subst he hj;cases hfl:c.flat with
         | true=>exact .inl rfl
         | false =>
          have hk:k<v.cells.toList.length:=by rw [hul];exact (List.getElem?_eq_some_iff.1 hck).1
          obtain ⟨a,ha⟩:=hat k hk;rcases zDX (off:=off) ha hck hfl with ⟨r2,p2,rfl,hp2⟩|hmem
          ·right
           intro _;rcases hG.get k _ ha with ⟨_,_,h,_⟩|⟨_,h,_⟩|⟨q2,Q,h,_,_,_⟩|⟨cv,h,h2,h3⟩
           ·cases h
           ·cases h
           ·cases h;exact absurd rfl hp2
           ·cases h;obtain ⟨u9,hu⟩:∃u9,v.cells.toList[k]?=some u9:=⟨_,List.getElem?_eq_getElem hk⟩;have hau:=(hc2 k _ u9 ha (by simpa using hu)).2
            have hu1:=hau.2 R hRr;rw [fwp] at hu1;have hj:=hcol k hk;have hV:=hvv i.toNat (off+k) e4 hj;simp only [zbi] at hu1;rw [if_pos ⟨e3,e4⟩] at hu1;split at hu1
            ·rw [cell_of_block hb,hV] at hu1;simp only [Option.some.injEq] at hu1;rw [hu,hu1]
            ·cases hu1
          ·exfalso;have h9:=List.any_eq_false.1 hns (cols p++[off+k]) (List.mem_map.2 ⟨off+k,hmem,rfl⟩);exact absurd (zwy p i' (off+k) q'') h9
        ·exact hh1 q u hq (fun q' he=>absurd ⟨q',he⟩ hnp))
       have hput2:=hsim.putV (dst:=o.dst) (m:=.und) (v:=undef) rfl (fun n hn=>by simp [MV.ids,zbU] at hn)
       refine zBq (w':=w1) ?_ ⟨hput2.mem,⟨fun n R hn=>.inl (hput2.ids.ro n R hn),fun n cs hn=>⟨.inl (hput2.ids.lo n cs hn).1,fun a ha m hm=>.inl ((hput2.ids.lo n cs hn).2 a ha m hm)⟩,fun m hm n hn=>.inl (hput2.ids.tm m hm n hn),fun f hf m hm n hn=>.inl (hput2.ids.stk f hf m hm n hn)⟩,hput2.tm,hput2.stk⟩;simp [execOp,ho,Instr.storeAt,e5,Instr.sureAddr,hv,hrun]
      ·cases h
     ·cases h
    ·cases h
   ·cases h
  ·cases h
 ·cases h
theorem zBH {n0:Nat}(hn0:w0.heap.size<=n0)(hrn:∀q Q,st.root q=some Q->∀x,E.φ q x->x<n0)(hln:∀l cs,zx st.lo l=some cs->E.β l<n0)(hS:Sim w0 S0 U st E ts sv w){r:Nat}{R:Root}(hR:st.root r=some R)(ho:R.own=true){m:List R.t.den}{js:List (List Nat)}{S3:zbn}(hos:w1.os=w.os)(htp:w1.tape=w.tape)(hout:w1.output=w.output)(hsz:w.heap.size<=w1.heap.size)(hkeep:∀x,x<w.heap.size->¬ E.φ r x->w1.heap[x]?=w.heap[x]?)(hS3:∀x,S3 x->(E.φ r x\/n0<=x)/\x<w1.heap.size)(hrep:Rep true w1 (E.ρ r) (.s R.t m) S3)(hhdr:∀q u,zbi w R.t (E.ρ r) q=some u->js.any (fun c=>c.isPrefixOf (cols q))=false->zbi w1 R.t (E.ρ r) q=some u) :
 Sim w0 S0 U (zhk st r R m js) { E with φ:=fun n=>if n=r then S3 else E.φ n } ts sv w1:=by
 have hM:=hS.mem;obtain ⟨hre,hrm⟩:=hM.mine r R hR ho;have hroot:∀q Q,(zhk st r R m js).root q=some Q->(q=r/\Q={ R with l:=m })\/(q≠r/\st.root q=some Q/\Q.ep=none):=by
  intro q Q hq;obtain ⟨h1,h2⟩:=zbL hq;simp only [zhk,zx] at h1 h2;split at h1
  ·rename_i he;simp only [beq_iff_eq] at he;cases h1;exact .inl ⟨he.symm,rfl⟩
  ·rename_i he;simp only [beq_iff_eq] at he;refine .inr ⟨fun h=>he h.symm,?_⟩;rcases h2 with h2|h2
   ·exact ⟨zhN h1 (.inl h2),h2⟩
   ·have:=hM.epo q Q _ h1 h2;omega
 have hfr:∀q Q,q≠r->st.root q=some Q->Q.ep=none->∀x,E.φ q x->w1.heap[x]?=w.heap[x]? :=
  fun q Q hne hq hQ x hx=>hkeep x (hM.rlt q Q hq x hx) (fun h=>hM.apart r R q Q hR ho hq hQ (fun e=>hne e.symm) x h hx)
 have hS3a:∀q Q,q≠r->st.root q=some Q->Q.ep=none->∀x,S3 x->¬ E.φ q x:=by
  intro q Q hne hq hQ x hx hx';rcases (hS3 x hx).1 with h|h
  ·exact hM.apart r R q Q hR ho hq hQ (fun e=>hne e.symm) x h hx'
  ·have:=hrn q Q hq x hx';omega
 have T:∀a v,VA w st E a v->VA w1 (zhk st r R m js) { E with φ:=fun n=>if n=r then S3 else E.φ n } (zcH r js a) v:=by
  have path:∀r' q u Q,(r=r'->js.any (fun c=>c.isPrefixOf (cols q))=false)->(zhk st r R m js).root r'=some Q->(∀R',st.root r'=some R'->zbi w R'.t (E.ρ r') q=some u)->zbi w1 Q.t (E.ρ r') q=some u:=by
   intro r' q u Q hjs hQ hold;rcases hroot r' Q hQ with ⟨rfl,rfl⟩|⟨hne,hqs,hQe⟩
   ·exact hhdr q u (hold R hR) (hjs rfl)
   ·have:=zcY (w':=w1) q (hM.rep r' Q hqs) (hfr r' Q hne hqs hQe);rw [this];exact hold Q hqs
  have tyq:∀r' Q,(zhk st r R m js).root r'=some Q->∃R',st.root r'=some R'/\R'.t=Q.t:=by
   intro r' Q hQ;rcases hroot r' Q hQ with ⟨rfl,rfl⟩|⟨hne,hqs,hQe⟩
   ·exact ⟨R,hR,rfl⟩
   ·exact ⟨Q,hqs,rfl⟩
  have loc:∀l cs,zx (zhk st r R m js).lo l=some cs->∃cs',zx st.lo l=some cs':=by
   intro l cs h;simp only [zhk] at h;rw [zi6] at h;cases hl:zx st.lo l with
   | none=>rw [hl] at h;cases h
   | some cs'=>exact ⟨cs',rfl⟩
  intro a v hv;cases a with
  | bad=>trivial
  | i k n=>exact hv
  | b x=>exact hv
  | sl r' q =>
   simp only [zcH];split
   ·trivial
   ·rename_i hns;refine ⟨hv.1,fun Q hQ=>path r' q v Q (fun e=>?_) hQ hv.2⟩;subst e;simpa using hns
  | lp l off =>
   refine ⟨hv.1,fun cs h=>?_⟩;obtain ⟨cs',h'⟩:=loc l cs h;exact hv.2 cs' h'
  | ep r' q i o =>
   simp only [zcH];split
   ·trivial
   ·rename_i hns;refine ⟨hv.1,fun Q hQ=>?_⟩;obtain ⟨R',hR',ht⟩:=tyq r' Q hQ;obtain ⟨b',o',len,cap,t',h1,h2,h3⟩:=hv.2 R' hR';refine ⟨b',o',len,cap,t',path r' q _ Q (fun e=>?_) hQ (fun R2 hR2=>?_),by rw [<- ht];exact h2,h3⟩
    ·subst e;simpa using hns
    ·rw [hR'] at hR2;cases hR2;exact h1
  | kp r' J t =>
   have key:(r=r'->coarse js J=true)->VA w1 (zhk st r R m js) { E with φ:=fun n=>if n=r then S3 else E.φ n } (.kp r' J t) v:=fun hc=>by
    refine ⟨hv.1,fun Q hQ=>?_⟩;obtain ⟨R',hR',ht⟩:=tyq r' Q hQ;obtain ⟨h1,h2,h3⟩:=hv.2 R' hR';refine ⟨ht.symm.trans h1,h2,fun p u hp hJ=>?_⟩;have:=path r' p u Q (fun e=>zy8 (hc e) hJ) hQ (fun R2 hR2=>by
     rw [hR'] at hR2;cases hR2;rw [h1,h2];exact h3 p u hp hJ)
    rw [<- ht,h1] at this;rw [show E.ρ r'=v from h2] at this
    exact this
   simp only [zcH];cases hb:Nat.beq r r' with
   | false=>exact key (fun e=>by subst e;simp at hb)
   | true=>cases hc:coarse js J with
    | true=>exact key (fun _=>hc)
    | false=>trivial
  | fn f caps =>
   obtain ⟨vs,h1,h2,h3⟩:=hv;refine ⟨vs,h1,h2,fun k l u hk hu=>⟨(h3 k l u hk hu).1,fun cs h=>?_⟩⟩;obtain ⟨cs',h'⟩:=loc l cs h;exact (h3 k l u hk hu).2 cs' h'
 have hlo:∀l cs,zx (zhk st r R m js).lo l=some cs->∃cs',zx st.lo l=some cs'/\cs=cs'.map (zcH r js):=by
  intro l cs h;simp only [zhk] at h;rw [zi6] at h;cases hl:zx st.lo l with
  | none=>rw [hl] at h;cases h
  | some cs'=>rw [hl] at h;cases h;exact ⟨cs',rfl,rfl⟩
 have hβ:∀l cs,zx st.lo l=some cs->E.β l<w.heap.size:=by
  intro l cs h;obtain ⟨_,vals,e,h2,_⟩:=hM.loc l cs h;exact (Array.getElem?_eq_some_iff.1 h2).1
 refine ⟨⟨hos.trans hM.os,htp.trans hM.tape,hout.trans hM.output,Nat.le_trans hM.size hsz,?_,?_,?_,?_,?_,?_,?_,?_,?_,hM.κ⟩,⟨?_,?_,?_,?_⟩,zxg T hS.tm,zxh T hS.stk⟩
 ·intro x hx hnS;refine (hkeep x (Nat.lt_of_lt_of_le hx hM.size) (fun h=>?_)).trans (hM.keep x hx hnS);rcases hrm x h with h|h
  ·exact hnS h
  ·omega
 ·intro q Q hq;rcases hroot q Q hq with ⟨rfl,rfl⟩|⟨hne,hqs,hQe⟩
  ·simp only [if_true,ho];exact hrep
  ·simp only [if_neg hne];exact (hM.rep q Q hqs).frame (hfr q Q hne hqs hQe)
 ·intro q Q hq x hx;rcases hroot q Q hq with ⟨rfl,rfl⟩|⟨hne,hqs,hQe⟩
  ·simp only [if_true] at hx;exact (hS3 x hx).2
  ·simp only [if_neg hne] at hx;exact Nat.lt_of_lt_of_le (hM.rlt q Q hqs x hx) hsz
 ·intro q Q hq hoq;rcases hroot q Q hq with ⟨rfl,rfl⟩|⟨hne,hqs,hQe⟩
  ·refine ⟨hre,fun x hx=>?_⟩;simp only [if_true] at hx;rcases (hS3 x hx).1 with h|h
   ·exact hrm x h
   ·exact .inr (Nat.le_trans hn0 h)
  ·simp only [if_neg hne];exact hM.mine q Q hqs hoq
 ·intro q Q q' Q' hq hoq hq' he hnn x hx;rcases hroot q Q hq with ⟨rfl,rfl⟩|⟨hne,hqs,hQe⟩
  ·rcases hroot q' Q' hq' with ⟨rfl,rfl⟩|⟨hne',hqs',hQe'⟩
   ·exact absurd rfl hnn
   ·simp only [if_true] at hx;simp only [if_neg hne'];exact hS3a q' Q' hne' hqs' hQe' x hx
  ·simp only [if_neg hne] at hx;rcases hroot q' Q' hq' with ⟨rfl,rfl⟩|⟨hne',hqs',hQe'⟩
   ·simp only [if_true];exact fun h=>hS3a q Q hne hqs hQe x h hx
   ·simp only [if_neg hne'];exact hM.apart q Q q' Q' hqs hoq hqs' hQe' hnn x hx
 ·intro l cs hl;obtain ⟨cs',hl',rfl⟩:=hlo l cs hl;obtain ⟨h1,vals,e,h2,h3,h4⟩:=hM.loc l cs' hl';refine ⟨h1,vals,e,(hkeep _ (hβ l cs' hl') (fun h=>hM.lro l cs' r R hl' hR h)).trans h2,by simp [h3],fun j c u hc hu=>?_⟩
  rw [List.getElem?_map] at hc;cases hcj:cs'[j]? with
  | none=>rw [hcj] at hc;cases hc
  | some c'=>rw [hcj] at hc;cases hc;exact ⟨(h4 j c' u hcj hu).1,T _ _ (h4 j c' u hcj hu).2⟩
 ·intro l l' cs cs' hl hl' he;obtain ⟨c1,h1,_⟩:=hlo l cs hl;obtain ⟨c2,h2,_⟩:=hlo l' cs' hl';exact hM.linj l l' c1 c2 h1 h2 he
 ·intro l cs q Q hl hq;obtain ⟨c1,h1,_⟩:=hlo l cs hl;rcases hroot q Q hq with ⟨rfl,rfl⟩|⟨hne,hqs,hQe⟩
  ·simp only [if_true];intro hx;rcases (hS3 _ hx).1 with h|h
   ·exact hM.lro l c1 q R h1 hR h
   ·have:=hln l c1 h1;omega
  ·simp only [if_neg hne];exact hM.lro l c1 q Q h1 hqs
 ·intro q Q e hq he;simp only [zhk,zx] at hq
  show e<=st.ep+1
  split at hq
  ·cases hq;simp only [hre] at he;cases he
  ·exact Nat.le_succ_of_le (hM.epo q Q e hq he)
 ·intro n Q hn;simp only [zhk,zx] at hn;split at hn
  ·rename_i he;simp only [beq_iff_eq] at he;subst he;exact hS.ids.ro _ R (zbL hR).1
  ·exact hS.ids.ro n Q hn
 ·intro n cs hn;obtain ⟨cs',h1,rfl⟩:=hlo n cs hn;refine ⟨(hS.ids.lo n cs' h1).1,fun a ha k hk=>?_⟩;obtain ⟨a',ha',rfl⟩:=List.mem_map.1 ha;exact (hS.ids.lo n cs' h1).2 a' ha' k (zxf hk)
 ·intro m' hm n hn;obtain ⟨m0,hm0,rfl⟩:=List.mem_map.1 hm;exact hS.ids.tm m0 hm0 n (zpa hn)
 ·intro f hf m' hm n hn;obtain ⟨f0,hf0,rfl⟩:=List.mem_map.1 hf;obtain ⟨m0,hm0,rfl⟩:=List.mem_map.1 hm;exact hS.ids.stk f0 hf0 m0 hm0 n (zpa hn)
theorem zDU (hS:Sim w0 S0 U st E ts sv w){r:Nat}{R:Root}(hR:st.root r=some R)(ho:R.own=true){m:List R.t.den}{js:List (List Nat)}{S3:zbn}(hos:w1.os=w.os)(htp:w1.tape=w.tape)(hout:w1.output=w.output)(hsz:w.heap.size<=w1.heap.size)(hkeep:∀x,x<w.heap.size->¬ E.φ r x->w1.heap[x]?=w.heap[x]?)(hS3:∀x,S3 x->(E.φ r x\/w.heap.size<=x)/\x<w1.heap.size)(hrep:Rep true w1 (E.ρ r) (.s R.t m) S3)(hhdr:∀q u,zbi w R.t (E.ρ r) q=some u->js.any (fun c=>c.isPrefixOf (cols q))=false->zbi w1 R.t (E.ρ r) q=some u) :
 Sim w0 S0 U (zhk st r R m js) { E with φ:=fun n=>if n=r then S3 else E.φ n } ts sv w1 :=
 zBH (n0:=w.heap.size) hS.mem.size (fun q Q h x hx=>hS.mem.rlt q Q h x hx) (fun l cs h=>by
  obtain ⟨_,vals,e,h2,_⟩:=hS.mem.loc l cs h;exact (Array.getElem?_eq_some_iff.1 h2).1) hS hR ho hos htp hout hsz hkeep hS3 hrep hhdr
theorem zZy (hH:MctOk C)(w0 w:World)(S0:zbn)(U:Nat->Prop)(st:St)(E:Env)(ts:Array Value)(sv:List (Array Value))(o:Oper)(id:Nat)(c:Bool)(st2:St)(mv:MV)(hS:Sim w0 S0 U st E ts sv w)(h:zOQ C st o=some (c,st2,mv))(hc:c=true) :
 Goes C w0 S0 U st ts sv w o id (fun _=>st2.put o.dst mv)/\st2.nid=st.nid:=by
 subst hc;unfold zOQ at h;split at h
 ·rename_i cl ho;split at h
  ·rename_i f hcb;split at h
   ·rename_i run x y hmct hargs;split at h
    ·rename_i r p k hx hy;split at h
     ·rename_i R t l hR hn;split at h
      ·rename_i cc t' l' k' hrun;split at h
       ·rename_i hcond;obtain ⟨hown,rfl⟩:=hcond;split at h
        ·rename_i m hput;simp only [Option.some.injEq,Prod.mk.injEq] at h;obtain ⟨rfl,rfl,rfl⟩:=h;refine ⟨?_,rfl⟩;obtain ⟨⟨fn,bd,hf,hbd,hname⟩,hHI⟩:=hH.ok f run hmct;obtain ⟨hxv,hxi⟩:=zbR hS hx;have hyv:=(zbR hS hy).1;simp only [VA] at hyv;have hM:=hS.mem;have hrep:=hM.rep r R hR;rw [hown] at hrep;have hh:=hxv.2 R hR;obtain ⟨t1,l0,S1,f1,f2,f3,f4,f5⟩:=Rep.focus p hrep hh;have hg1:zgG R.t R.l p=some (.s t' l):=by
          obtain ⟨R',hR',hg'⟩:=zgd hn;rw [hR] at hR';cases hR';exact hg'
         rw [hg1] at f1;cases f1;obtain ⟨_,_,_,_,fwp⟩:=f5 w l S1 (fun _ _ _=>rfl) (fun _ h _=>h) f3;intro next Q hnext;have hca:cl.args = #[x,y]:=by rw [<- hargs]
         have hname':fn.name≠ "runtime.NumGoroutine":=by simpa using hname
         have hexec:(execOp ({ tmps:=ts,defers:=[] }:Act).eval o).run C.P w = .ok (.enter f #[({ tmps:=ts,defers:=[] }:Act).eval x,.int .i64 k]) w:=by
          have hfe:({ tmps:=ts,defers:=[] }:Act).eval (.func f) = .func (.func f) #[] #[]:=rfl;simp [execOp,ho,resolve,hcb,Deferred.ofValue,invoke,callFunc,hf,hbd,hname',hca,hyv,hfe]
         unfold Oper.wp;rw [hexec,Oper.upon_enter];refine (hHI w _ t' l k S1 _ k' f3 (fun z hz=>hM.rlt r R hR z (f4 z hz)) hrun).mono ?_;intro e w1 he;cases e with
         | panicked chain=>exact he.elim
         | outgrown=>exact he.elim
         | returned u =>
          obtain ⟨hos,htp,hout,hsz,hkeep,rfl,S2,hrep2,hS2⟩:=he;obtain ⟨m',hm',hrm,hh1,hh2⟩:=f5 w1 l' S2 (fun z hz hnz=>hkeep z (hM.rlt r R hR z hz) hnz) (fun z hz hz'=>by
           rcases (hS2 z hz).1 with h|h
           ·exact h
           ·have:=hM.rlt r R hR z hz';omega) hrep2
          rw [hput] at hm';cases hm';have hsim:=zDU (w1:=w1) (m:=m) (js:=(List.range t'.width).map fun j=>cols p++[j]) hS hR hown hos htp hout hsz (fun z hz hnz=>hkeep z hz (fun h=>hnz (f4 z h))) (fun z hz=>by
           rcases hz with ⟨hz,_⟩|hz
           ·exact ⟨.inl hz,Nat.lt_of_lt_of_le (hM.rlt r R hR z hz) hsz⟩
           ·obtain ⟨h1,h2⟩:=hS2 z hz;exact ⟨h1.imp (f4 z) (fun h=>h),h2⟩) hrm (fun q u hq hns=>by
           refine hh1 q u hq (fun q' he=>?_);subst he;cases q' with
           | nil=>rfl
           | cons ij q'' =>
            obtain ⟨i',j⟩:=ij;exfalso;rw [fwp] at hq;have hj:j<t'.width:=by
             generalize ({ tmps:=ts,defers:=[] }:Act).eval x=vx at hq;cases vx with
             | slice a len cap =>
              cases a with
              | none=>simp [zbi] at hq
              | some a =>
               simp only [zbi] at hq;split at hq
               ·split at hq
                ·rename_i hsh;rw [<- zeh];exact (List.getElem?_eq_some_iff.1 hsh).1
                ·cases hq
               ·cases hq
             | _=>simp [zbi] at hq
            have h9:=List.any_eq_false.1 hns (cols p++[j]) (List.mem_map.2 ⟨j,List.mem_range.2 hj,rfl⟩);exact absurd (zwy p i' j q'') h9)
          have hput2:=hsim.putV (dst:=o.dst) (m:=.v (.at (.i .i64 k'))) (v:=.int .i64 k') rfl (fun n hn=>by simp [MV.ids,zbU,zW,At.ids,zbA,zbB] at hn)
          exact hnext _ _ _ ⟨hput2.mem,⟨fun n R hn=>.inl (hput2.ids.ro n R hn),fun n cs hn=>⟨.inl (hput2.ids.lo n cs hn).1,fun a ha m hm=>.inl ((hput2.ids.lo n cs hn).2 a ha m hm)⟩,fun m hm n hn=>.inl (hput2.ids.tm m hm n hn),fun f hf m hm n hn=>.inl (hput2.ids.stk f hf m hm n hn)⟩,hput2.tm,hput2.stk⟩
        ·cases h
       ·cases h
      ·cases h
     ·cases h
    ·cases h
   ·cases h
  ·cases h
 ·cases h
end
def zbk (own:List Bool)(j:Nat):Prop:=own[j]?=some true
def zeJ (P:Program)(f:FuncId)(own:List Bool)(run:List CV->List AV->Option (Bool×List CV×List AV)):Prop :=
 FnOk P f/\∀(w:World) (blk:Nat) (vals:Array Value) (e:TypeId) (cs:List CV) (K:Nat->zbn) (avs:List AV) (xs:List Value) (Ka:zbn) (cs':List CV) (rs:List AV),
  w.heap[blk]?=some (.cells vals e (0,0))->vals.size=cs.length->own.length=cs.length ->
  (∀(j:Nat) (c:CV) (u:Value),cs[j]?=some c->vals[j]?=some u->Rep ((own[j]?).getD false) w u c (K j)) ->
  (∀j x,j<cs.length->K j x->x<w.heap.size/\x≠blk) ->
  (∀i j x,i<cs.length->j<cs.length->zbk own i->i≠j->K i x->¬ K j x) ->
  zdO false w (zI avs) xs (fun _=>Ka)->(∀x,Ka x->x<w.heap.size/\x≠blk/\∀j,j<cs.length->zbk own j->¬ K j x) ->
  run cs avs=some (true,cs',rs) ->
  Calls P f (#[.pointer (some ⟨blk,0,none⟩)]++(zcn avs xs).toArray) w fun
   | .returned v,w'=>w'.os=w.os/\w'.tape=w.tape/\w'.output=w.output/\w.heap.size<=w'.heap.size /\
    (∀b,b<w.heap.size->b≠blk->(∀j,j<cs.length->zbk own j->¬ K j b)->w'.heap[b]?=w.heap[b]?) /\
    ∃(vals':Array Value) (e':TypeId) (K':Nat->zbn) (ys:List Value) (Kr:Nat->zbn),w'.heap[blk]?=some (.cells vals' e' (0,0))/\vals'.size=cs'.length/\cs'.length=cs.length /\
     (∀(j:Nat) (c:CV) (u:Value),cs'[j]?=some c->vals'[j]?=some u->match c with
      | .i k n=>u = .int k n
      | .b x=>u = .bool x
      | .s t l=>(zbk own j->Rep true w' u (.s t l) (K' j))/\(¬ zbk own j->vals[j]?=some u)) /\
     zdO true w' (zI rs) ys Kr/\v=zkl (zcn rs ys) /\
     (∀j x,j<cs.length->K' j x->x<w'.heap.size/\x≠blk/\((∃i,i<cs.length/\zbk own i/\K i x)\/w.heap.size<=x)) /\
     (∀i x,i<(zI rs).length->Kr i x->x<w'.heap.size/\x≠blk/\((∃i,i<cs.length/\zbk own i/\K i x)\/w.heap.size<=x)) /\
     (∀i j x,i<cs.length->j<cs.length->i≠j->K' i x->¬ K' j x) /\
     (∀i j x,i<(zI rs).length->j<(zI rs).length->i≠j->Kr i x->¬ Kr j x) /\
     (∀i j x,i<cs.length->j<(zI rs).length->K' i x->¬ Kr j x)
   | _,_=>False
structure PctOk (C:Cfg):Prop where
 ok:∀f own run,C.pct f=some (own,run)->zeJ C.P f own run
section
variable {C:Cfg} {w0 w w1:World} {S0:zbn} {U:Nat->Prop} {st st1:St} {E E1:Env} {ts:Array Value} {sv:List (Array Value)}
structure Blk (st:St) (own:List Bool) (cells:List At) (cs:List CV) (ks:List Nat):Prop where
 len:cs.length=cells.length
 olen:own.length=cells.length
 ownk:∀r∈ks,∃j,zbk own j/\cells[j]?=some (.sl r [])
 get:∀(j:Nat) (a:At),cells[j]?=some a->(∃k n,a = .i k n/\cs[j]?=some (.i k n))\/(∃x,a = .b x/\cs[j]?=some (.b x)) \/
  ∃r R,a = .sl r []/\st.root r=some R/\R.ep=none/\own[j]?=some R.own/\cs[j]?=some (.s R.t R.l)/\(R.own=true->r∈ks)
 inj:∀(i j r:Nat),zbk own i->cells[i]?=some (.sl r [])->cells[j]?=some (.sl r [])->i=j
theorem zXE:∀(own:List Bool) (cells:List At) (cs:List CV) (ks:List Nat),st.blk own cells=some (cs,ks)->Blk st own cells cs ks
 | [],[],cs,ks,h=>by
  cases h;exact ⟨rfl,rfl,fun r h=>by simp at h,fun j a h=>by simp at h,fun i j r h=>by simp [zbk] at h⟩
 | [],a :: r,cs,ks,h=>by simp [St.blk] at h
 | o :: ms,[],cs,ks,h=>by simp [St.blk] at h
 | o :: ms,a :: r,cs,ks,h=>by
  simp only [St.blk] at h;split at h
  ·cases h
  ·rename_i cs0 ks0 h0;have ih:=zXE ms r cs0 ks0 h0;have flat:∀(c:CV),(∀q,a≠.sl q [])->((∃k n,a = .i k n/\c = .i k n)\/(∃x,a = .b x/\c = .b x))->Blk st (o :: ms) (a :: r) (c :: cs0) ks0:=by
    intro c hne hc;refine ⟨by simp [ih.len],by simp [ih.olen],fun q hq=>?_,fun j b hb=>?_,fun i j q hi h1 h2=>?_⟩
    ·obtain ⟨j,h1,h2⟩:=ih.ownk q hq;exact ⟨j+1,by simpa [zbk] using h1,by simpa using h2⟩
    ·cases j with
     | zero =>
      simp only [List.getElem?_cons_zero,Option.some.injEq] at hb;subst hb;rcases hc with ⟨k,n,h1,h2⟩|⟨x,h1,h2⟩
      ·exact .inl ⟨k,n,h1,by simp [h2]⟩
      ·exact .inr (.inl ⟨x,h1,by simp [h2]⟩)
     | succ j=>simpa using ih.get j b (by simpa using hb)
    ·cases i with
     | zero=>simp only [List.getElem?_cons_zero,Option.some.injEq] at h1;exact absurd h1 (hne q)
     | succ i =>
      cases j with
      | zero=>simp only [List.getElem?_cons_zero,Option.some.injEq] at h2;exact absurd h2 (hne q)
      | succ j =>
       have:=ih.inj i j q (by simpa [zbk] using hi) (by simpa using h1) (by simpa using h2)
       omega
   split at h
   ·rename_i k n;cases h;exact flat _ (fun q h=>by cases h) (.inl ⟨k,n,rfl,rfl⟩)
   ·rename_i x;cases h;exact flat _ (fun q h=>by cases h) (.inr ⟨x,rfl,rfl⟩)
   ·rename_i q;split at h
    ·rename_i R hR;split at h
     ·rename_i hcond;simp only [Bool.and_eq_true,Bool.not_eq_true',List.contains_eq_mem,decide_eq_false_iff_not,beq_iff_eq,Option.isNone_iff_eq_none] at hcond;obtain ⟨⟨hown,hep⟩,hnk⟩:=hcond;cases h;have hmem:∀x,x∈cond o (q :: ks0) ks0↔(o=true/\x=q)\/x∈ks0:=by
       intro x;cases o<;>simp
      refine ⟨by simp [ih.len],by simp [ih.olen],fun x hx=>?_,fun j b hb=>?_,fun i j x hi h1 h2=>?_⟩
      ·rcases (hmem x).1 hx with ⟨rfl,rfl⟩|hx
       ·exact ⟨0,rfl,rfl⟩
       ·obtain ⟨j,h1,h2⟩:=ih.ownk x hx;exact ⟨j+1,by simpa [zbk] using h1,by simpa using h2⟩
      ·cases j with
       | zero =>
        simp only [List.getElem?_cons_zero,Option.some.injEq] at hb;subst hb;exact .inr (.inr ⟨q,R,rfl,hR,hep,by simp [hown],by simp,fun h=>(hmem q).2 (.inl ⟨by rw [<- hown];exact h,rfl⟩)⟩)
       | succ j =>
        rcases ih.get j b (by simpa using hb) with h|h|⟨r',R',g1,g2,g3,g4,g5,g6⟩
        ·exact .inl (by simpa using h)
        ·exact .inr (.inl (by simpa using h))
        ·exact .inr (.inr ⟨r',R',g1,g2,g3,by simpa using g4,by simpa using g5,fun h=>(hmem r').2 (.inr (g6 h))⟩)
      ·have old:∀(i:Nat),zbk ms i->r[i]?=some (.sl q [])->False:=by
        intro i hi hq;rcases ih.get i _ hq with ⟨_,_,h,_⟩|⟨_,h,_⟩|⟨r',R',g1,g2,g3,g4,g5,g6⟩
        ·cases h
        ·cases h
        ·cases g1;have:R'.own=true:=by rw [hi] at g4;simpa using g4.symm
         exact hnk (g6 this)
       cases i with
       | zero =>
        cases j with
        | zero=>rfl
        | succ j =>
         simp only [List.getElem?_cons_zero,Option.some.injEq,At.sl.injEq,and_true] at h1;subst h1;simp only [zbk,List.getElem?_cons_zero,Option.some.injEq] at hi;subst hi;simp only [List.getElem?_cons_succ] at h2;exfalso;rcases ih.get j _ h2 with ⟨_,_,h,_⟩|⟨_,h,_⟩|⟨r',R',g1,g2,g3,g4,g5,g6⟩
         ·cases h
         ·cases h
         ·cases g1;rw [hR] at g2;cases g2;exact hnk (g6 hown)
       | succ i =>
        cases j with
        | zero =>
         simp only [List.getElem?_cons_zero,Option.some.injEq,At.sl.injEq,and_true] at h2;subst h2;exact (old i (by simpa [zbk] using hi) (by simpa using h1)).elim
        | succ j =>
         have:=ih.inj i j x (by simpa [zbk] using hi) (by simpa using h1) (by simpa using h2)
         omega
     ·cases h
    ·cases h
   ·cases h
theorem zGl:∀(own:List Bool) (cells:List At) (cs':List CV) (id:Nat) (cells':List At),zpb own cells cs' id=some cells'->cells'.length=cells.length/\cs'.length=cells.length /\
 ∀(j:Nat) (b:At),cells'[j]?=some b->(∃k n,b = .i k n/\cs'[j]?=some (.i k n))\/(∃x,b = .b x/\cs'[j]?=some (.b x)) \/
  (∃t l,b = .sl (id+j) []/\zbk own j/\cs'[j]?=some (.s t l))\/(∃t l r,b = .sl r []/\¬ zbk own j/\cells[j]?=some (.sl r [])/\cs'[j]?=some (.s t l))
 | [],[],[],id,cells',h=>by
  cases h;exact ⟨rfl,rfl,fun j b h=>by simp at h⟩
 | o :: ms,a :: r,c :: cs,id,cells',h=>by
  simp only [zpb] at h;split at h
  ·cases h
  ·rename_i l0 h0;obtain ⟨g1,g2,g3⟩:=zGl ms r cs (id+1) l0 h0;have tail:∀(j:Nat) (b:At),l0[j]?=some b->(∃k n,b = .i k n/\(c :: cs)[j+1]?=some (.i k n))\/(∃x,b = .b x/\(c :: cs)[j+1]?=some (.b x)) \/
    (∃t l,b = .sl (id+(j+1)) []/\zbk (o :: ms) (j+1)/\(c :: cs)[j+1]?=some (.s t l))\/(∃t l q,b = .sl q []/\¬ zbk (o :: ms) (j+1)/\(a :: r)[j+1]?=some (.sl q [])/\(c :: cs)[j+1]?=some (.s t l)):=by
    intro j b hb;have:=g3 j b hb;have e:id+1+j=id+(j+1):=by omega
    rw [e] at this;simpa [zbk] using this
   split at h
   ·split at h
    ·rename_i k k' n hk;cases h;refine ⟨by simp [g1],by simp [g2],fun j b hb=>?_⟩
     cases j with
     | zero =>
      simp only [List.getElem?_cons_zero,Option.some.injEq] at hb;subst hb hk;exact .inl ⟨_,_,rfl,rfl⟩
     | succ j=>exact tail j b (by simpa using hb)
    ·cases h
   ·cases h;refine ⟨by simp [g1],by simp [g2],fun j b hb=>?_⟩
    cases j with
    | zero =>
     simp only [List.getElem?_cons_zero,Option.some.injEq] at hb;subst hb;exact .inr (.inl ⟨_,rfl,rfl⟩)
    | succ j=>exact tail j b (by simpa using hb)
   ·rename_i q t l;cases h;refine ⟨by cases o<;>simp [g1],by simp [g2],fun j b hb=>?_⟩
    cases j with
    | zero =>
     cases o with
     | true =>
      simp only [cond_true,List.getElem?_cons_zero,Option.some.injEq] at hb;subst hb;exact .inr (.inr (.inl ⟨_,_,rfl,rfl,rfl⟩))
     | false =>
      simp only [cond_false,List.getElem?_cons_zero,Option.some.injEq] at hb;subst hb;exact .inr (.inr (.inr ⟨_,_,q,rfl,by simp [zbk],rfl,rfl⟩))
    | succ j=>exact tail j b (by cases o<;>simpa using hb)
   ·cases h
 | [],[],_ :: _,_,_,h=>by simp [zpb] at h
 | [],_ :: _,_,_,_,h=>by simp [zpb] at h
 | _ :: _,[],_,_,_,h=>by simp [zpb] at h
 | _ :: _,_ :: _,[],_,_,h=>by simp [zpb] at h
theorem zLW:∀(own:List Bool) (cs:List CV) (id n:Nat) (R:Root),zx (zfZ own cs id) n=some R->id<=n/\zbk own (n-id)/\∃t l,cs[n-id]?=some (.s t l)/\R=zcX t l
 | [],_,_,_,_,h=>by cases h
 | o :: ms,[],_,_,_,h=>by cases h
 | o :: ms,c :: cs,id,n,R,h=>by
  have hr:zx (zfZ ms cs (id+1)) n=some R->id<=n/\zbk (o :: ms) (n-id)/\∃t l,(c :: cs)[n-id]?=some (.s t l)/\R=zcX t l:=fun h=>by
   obtain ⟨h1,h2,t,l,h3,h4⟩:=zLW ms cs (id+1) n R h;have e:n-id=(n-(id+1))+1:=by omega
   exact ⟨by omega,by rw [e];simpa [zbk] using h2,t,l,by rw [e,List.getElem?_cons_succ];exact h3,h4⟩
  cases c with
  | i k x=>exact hr h
  | b x=>exact hr h
  | s t l =>
   cases o with
   | false=>exact hr h
   | true =>
    simp only [zfZ,cond_true,zx] at h;split at h
    ·rename_i he;simp only [beq_iff_eq] at he;subst he;cases h;exact ⟨Nat.le_refl _,by simp [zbk],t,l,by simp,rfl⟩
    ·exact hr h
theorem zrt:∀(ks:List Nat) (n:Nat) (R:Root),zx (killed st ks) n=some R->R.ep=some st.ep/\∃Q,zx st.ro n=some Q
 | [],_,_,h=>by cases h
 | k :: ks,n,R,h=>by
  simp only [killed] at h;split at h
  ·rename_i Q hQ;simp only [zx] at h;split at h
   ·rename_i he;simp only [beq_iff_eq] at he;subst he;cases h;exact ⟨rfl,Q,hQ⟩
   ·exact zrt ks n R h
  ·exact zrt ks n R h
theorem zoO:∀(ks:List Nat) (n:Nat) (Q:Root),zx (killed st ks) n=none->zx st.ro n=some Q->n∉ks
 | [],_,_,_,_=>by simp
 | k :: ks,n,Q,h,hQ=>by
  simp only [killed] at h;intro hm;rcases List.mem_cons.1 hm with rfl|hm
  ·rw [hQ] at h;simp [zx] at h
  ·split at h
   ·simp only [zx] at h;split at h
    ·cases h
    ·exact zoO ks n Q h hQ hm
   ·exact zoO ks n Q h hQ hm
theorem zBm (hS:Sim w0 S0 U st E ts sv w){ks:List Nat}{Ka:zbn}(hKa:∀r R x,st.root r=some R->R.ep=none->r∉ks->E.φ r x->Ka x){a:At}{u:Value}{c:CV}(hf:(zbA a).all (fun r=>!ks.contains r&&(match st.root r with|some R=>R.ep.isNone|none=>false))=true)(hc:st.cvOf a=some c)(hu:VA w st E a u):Rep false w u c Ka:=by
 cases a with
 | i k n=>cases hc;cases hu;exact .i _ _ _
 | b x=>cases hc;cases hu;exact .b _ _
 | sl r p =>
  simp only [St.cvOf] at hc;obtain ⟨R,hR,hg⟩:=zgd hc;simp only [zbA,List.all_cons,List.all_nil,Bool.and_true,hR,Bool.and_eq_true,Bool.not_eq_true',List.contains_eq_mem,decide_eq_false_iff_not,Option.isNone_iff_eq_none] at hf;obtain ⟨t',l',S',h1,h2,h3,h4⟩:=Rep.at p (hS.mem.rep r R hR) (hu.2 R hR);rw [hg] at h1;cases h1;exact (h3.weak (fun x hx=>hKa r R x hR hf.2 hf.1 (h4 x hx))).ro
 | bad=>cases hc
 | lp l off=>cases hc
 | ep r p i off=>cases hc
 | fn f caps=>cases hc
 | kp r J t=>cases hc
theorem zDK (hS:Sim w0 S0 U st E ts sv w){ks:List Nat}{Ka:zbn}(hKa:∀r R x,st.root r=some R->R.ep=none->r∉ks->E.φ r x->Ka x):∀(l:List Operand) (avs:List AV),zcZ (fun x=>match st.opnd x with|some v=>st.avF ks v|none=>none) l=some avs ->
 ∃xs,zdO false w (zI avs) xs (fun _=>Ka)/\l.map ({ tmps:=ts,defers:=[] }:Act).eval=zcn avs xs
 | [],avs,h=>by
  cases h;exact ⟨[],⟨rfl,fun i c x h=>by simp [zI] at h⟩,rfl⟩
 | x :: r,avs,h=>by
  simp only [zcZ] at h;split at h
  ·rename_i av hav;split at h
   ·rename_i avs' hr;cases h;obtain ⟨xs,hxs,hm⟩:=zDK hS hKa r avs' hr;split at hav
    ·rename_i mv hmv;obtain ⟨hv,-⟩:=zce hS hmv;unfold St.avF at hav;split at hav
     ·rename_i hfree0;have hfree:=List.all_eq_true.1 hfree0;unfold St.avOf at hav;split at hav
      ·rename_i a;split at hav
       ·rename_i c hc;cases hav;have h1:=zBm hS hKa (hfree a (by simp [zbU,zW])) hc hv
        refine ⟨({ tmps:=ts,defers:=[] }:Act).eval x :: xs,?_,by simp [zcn,hm]⟩
        have e:zI (AV.one c :: avs')=[c]++zI avs':=by simp [zI,AV.cvs]
        rw [e];refine zdO.append (x1:=[({ tmps:=ts,defers:=[] }:Act).eval x]) ⟨rfl,fun i c' u hc' hu=>?_⟩ hxs;cases i with
        | zero=>simp at hc' hu;subst hc' hu;exact h1
        | succ i=>simp at hc'
       ·cases hav
      ·rename_i l;split at hav
       ·rename_i cs hcs;cases hav;obtain ⟨vs,hvs,hsz,hvv⟩:=hv;obtain ⟨hl,hf⟩:=zo1 hcs;have hlen:vs.toList.length=cs.length:=by simp [hsz,hl]
        refine ⟨vs.toList++xs,?_,?_⟩
        ·have e:zI (AV.agg cs :: avs')=cs++zI avs':=by simp [zI,AV.cvs]
         rw [e];refine zdO.append ⟨hlen,fun i c' u hc' hu=>?_⟩ hxs;have hi:i<l.length:=by rw [hl];exact (List.getElem?_eq_some_iff.1 hc').1
         have ha:=List.getElem?_eq_getElem hi;exact zBm hS hKa (hfree _ (by simp only [zbU,zW];exact List.mem_of_getElem? ha)) (hf i _ _ ha hc') (hvv i _ u ha (by simpa using hu)).2
        ·simp only [List.map_cons,zcn,hvs,<- hlen,List.take_left',List.drop_left',hm,Array.toArray_toList]
       ·cases hav
      ·cases hav
     ·cases hav
    ·cases hav
   ·cases h
  ·cases h
def cφ (E:Env)(cells:List At)(j:Nat):zbn:=match cells[j]? with
 | some a=>aφ E a
 | none=>fun _=>False
theorem zgJ {cells:List At}{j:Nat}{a:At}(h:cells[j]?=some a):cφ E cells j=aφ E a:=by
 unfold cφ;rw [h]
theorem zxp {cells:List At}{j x:Nat}(h:cφ E cells j x):∃a,cells[j]?=some a/\aφ E a x:=by
 unfold cφ at h;cases hc:cells[j]? with
 | some a=>rw [hc] at h;exact ⟨a,rfl,h⟩
 | none=>rw [hc] at h;exact h.elim
theorem zZJ (hH:PctOk C)(w0 w:World)(S0:zbn)(U:Nat->Prop)(st:St)(E:Env)(ts:Array Value)(sv:List (Array Value))(o:Oper)(id:Nat)(c:Bool)(st2:St)(mv:MV)(hS:Sim w0 S0 U st E ts sv w)(hid:∀n,Mine id n->¬ U n)(h:zOR C st o id=some (c,st2,mv))(hc:c=true):Goes C w0 S0 U st ts sv w o id (fun _=>st2.put o.dst mv)/\st2.nid=st.nid:=by
 subst hc;unfold zOR at h;split at h
 ·rename_i cl ho;split at h
  ·rename_i f hcb;split at h
   ·rename_i own run hpct;generalize hargs:cl.args.toList=args0 at h;unfold zYr at h;split at h
    ·rename_i x ys0;split at h
     ·rename_i l hx;split at h
      ·rename_i cells hcells;split at h
       ·rename_i cs ks hblk;split at h
        ·rename_i avs havs;split at h
         ·rename_i cc cs' rs hrun;split at h
          ·rename_i cells' hnew;split at h
           ·rename_i hlen;simp only [Option.some.injEq,Prod.mk.injEq] at h;obtain ⟨rfl,rfl,rfl⟩:=h;refine ⟨?_,rfl⟩;obtain ⟨⟨fn,bd,hf,hbd,hname⟩,hHP⟩:=hH.ok f own run hpct;have hB:=zXE own cells cs ks hblk;obtain ⟨hn1,hn2,hn3⟩:=zGl own cells cs' id cells' hnew;have hrsl:(zI rs).length<=16:=hlen.2;have hM:=hS.mem;obtain ⟨hl1,vals,e,hl2,hl3,hl4⟩:=hM.loc l cells hcells;obtain ⟨hxv,hxi⟩:=zbR hS hx;have hxp:=hxv.2 cells hcells;have hβlt:∀l cs,zx st.lo l=some cs->E.β l<w.heap.size:=by
             intro l cs h;obtain ⟨_,vals,e,h2,_⟩:=hM.loc l cs h;exact (Array.getElem?_eq_some_iff.1 h2).1
            let K:Nat->zbn:=cφ E cells
            have hK:∀j x,K j x->∃r R,cells[j]?=some (.sl r [])/\st.root r=some R/\R.ep=none/\own[j]?=some R.own/\(R.own=true->r∈ks)/\E.φ r x:=by
             intro j x hx;obtain ⟨a,ha,hx⟩:=zxp hx;rcases hB.get j a ha with ⟨_,_,rfl,_⟩|⟨_,rfl,_⟩|⟨r,R,rfl,h1,h2,h3,_,h5⟩
             ·exact hx.elim
             ·exact hx.elim
             ·exact ⟨r,R,ha,h1,h2,h3,h5,hx⟩
            have hKown:∀j x,zbk own j->K j x->∃r∈ks,∃R,st.root r=some R/\R.own=true/\E.φ r x:=by
             intro j x hj hx;obtain ⟨r,R,h1,h2,_,h4,h5,h6⟩:=hK j x hx;have:R.own=true:=by rw [hj] at h4;simpa using h4.symm
             exact ⟨r,h5 this,R,h2,this,h6⟩
            have hks:∀r∈ks,∃j R,j<cs.length/\zbk own j/\cells[j]?=some (.sl r [])/\st.root r=some R/\R.own=true/\∀x,E.φ r x->K j x:=by
             intro r hr;obtain ⟨j,h1,h2⟩:=hB.ownk r hr;rcases hB.get j _ h2 with ⟨_,_,h,_⟩|⟨_,h,_⟩|⟨r',R,h,g1,g2,g3,_,_⟩
             ·cases h
             ·cases h
             ·cases h;refine ⟨j,R,by rw [hB.len];exact (List.getElem?_eq_some_iff.1 h2).1,h1,h2,g1,by rw [h1] at g3;simpa using g3.symm,fun x hx=>?_⟩
              show cφ E cells j x
              rw [zgJ h2];exact hx
            let Ka:zbn:=fun x=>x<w.heap.size/\x≠E.β l/\∀r∈ks,¬ E.φ r x
            obtain ⟨xs,hxs,hxm⟩:=zDK hS (ks:=ks) (Ka:=Ka) (fun r R x hR he hr hx=>⟨hM.rlt r R hR x hx,fun h=>hM.lro l cells r R hcells hR (by rw [<- h];exact hx),fun q hq hqx=>by
             obtain ⟨_,Q,_,_,_,hQ,hQo,_⟩:=hks q hq;exact hM.apart q Q r R hQ hQo hR he (fun e=>hr (by rw [<- e];exact hq)) x hqx hx⟩) ys0 avs havs
            have hargs':cl.args.map ({ tmps:=ts,defers:=[] }:Act).eval = #[.pointer (some ⟨E.β l,0,none⟩)]++(zcn avs xs).toArray:=by
             have e:cl.args=(x :: ys0).toArray:=by rw [<- hargs,Array.toArray_toList]
             rw [e,List.map_toArray,List.map_cons,hxm,hxp];simp
            intro next Q hnext;have hname':fn.name≠ "runtime.NumGoroutine":=by simpa using hname
            have hexec:(execOp ({ tmps:=ts,defers:=[] }:Act).eval o).run C.P w = .ok (.enter f (#[.pointer (some ⟨E.β l,0,none⟩)]++(zcn avs xs).toArray)) w:=by
             have hfe:({ tmps:=ts,defers:=[] }:Act).eval (.func f) = .func (.func f) #[] #[]:=rfl;simp [execOp,ho,resolve,hcb,Deferred.ofValue,invoke,callFunc,hf,hbd,hname',hargs',hfe]
            unfold Oper.wp;rw [hexec,Oper.upon_enter];refine (hHP w (E.β l) vals e cs K avs xs Ka cs' rs hl2 (by rw [hl3,hB.len]) (by rw [hB.olen,hB.len]) (fun j c u hcj hu=>?_) (fun j x hj hx=>?_) (fun i j x hi hj ho hne hx hx'=>?_) hxs (fun x hx=>⟨hx.1,hx.2.1,fun j hj ho hk=>?_⟩) hrun).mono ?_
            ·have hj:j<cells.length:=by rw [<- hB.len];exact (List.getElem?_eq_some_iff.1 hcj).1
             have ha:=List.getElem?_eq_getElem hj;obtain ⟨_,hva⟩:=hl4 j _ u ha hu;rcases hB.get j _ ha with ⟨k,n,h1,h2⟩|⟨y,h1,h2⟩|⟨r,R,h1,h2,h3,h4,h5,_⟩
             ·rw [hcj] at h2;cases h2;rw [h1] at hva;cases hva;exact .i _ _ _
             ·rw [hcj] at h2;cases h2;rw [h1] at hva;cases hva;exact .b _ _
             ·rw [hcj] at h5;cases h5;rw [h1] at hva;have:=hva.2 R h2;simp only [zbi,Option.some.injEq] at this;subst this;have hr:=hM.rep r R h2;rw [h4];refine hr.weak (fun x hx=>?_)
              show cφ E cells j x
              rw [zgJ ha,h1];exact hx
            ·obtain ⟨r,R,h1,h2,h3,h4,h5,h6⟩:=hK j x hx;exact ⟨hM.rlt r R h2 x h6,fun h=>hM.lro l cells r R hcells h2 (by rw [<- h];exact h6)⟩
            ·obtain ⟨r,R,h1,h2,h3,h4,h5,h6⟩:=hK i x hx;obtain ⟨r',R',h1',h2',h3',h4',h5',h6'⟩:=hK j x hx';have hRo:R.own=true:=by rw [ho] at h4;simpa using h4.symm
             refine hM.apart r R r' R' h2 hRo h2' h3' (fun e=>hne (hB.inj i j r ho h1 (by rw [e];exact h1'))) x h6 h6'
            ·obtain ⟨r,hr,R,h1,h2,h3⟩:=hKown j x ho hk;exact hx.2.2 r hr h3
            ·intro ex w' he;cases ex with
             | panicked chain=>exact he.elim
             | outgrown=>exact he.elim
             | returned v =>
              obtain ⟨hos,htp,hout,hsz,hkeep,vals',e',K',ys,Kr,hb',hsz',hcl,hcell,hys,rfl,hK'x,hKrx,hK'd,hKrd,hKK⟩:=he;have hcs12:cs.length<=12:=by rw [hB.len];exact hlen.1
              let E1:Env:={ E with ρ:=fun n=>if id<=n/\n<id+12 then (vals'[n-id]?).getD undef else if id+12<=n/\n<id+32 then (ys[n-(id+12)]?).getD undef else E.ρ n,
                                   φ:=fun n=>if id<=n/\n<id+12 then (fun x=>n-id<cs.length/\K' (n-id) x) else if id+12<=n/\n<id+32 then (fun x=>n-(id+12)<(zI rs).length/\Kr (n-(id+12)) x) else E.φ n }
              have hE1:∀n,U n->E1.ρ n=E.ρ n/\E1.φ n=E.φ n:=by
               intro n hn;have:¬ (id<=n/\n<id+32):=fun h=>hid n h hn;have a1:¬ (id<=n/\n<id+12):=fun h=>this ⟨h.1,by omega⟩
               have a2:¬ (id+12<=n/\n<id+32):=fun h=>this ⟨by omega,h.2⟩
               simp only [E1,if_neg a1,if_neg a2,and_self]
              have hEa:∀n,id<=n->n<id+12->E1.ρ n=(vals'[n-id]?).getD undef/\E1.φ n=fun x=>n-id<cs.length/\K' (n-id) x:=by
               intro n h1 h2;simp only [E1,if_pos (show id<=n/\n<id+12 from ⟨h1,h2⟩),and_self]
              have hEb:∀n,id+12<=n->n<id+32->E1.ρ n=(ys[n-(id+12)]?).getD undef/\E1.φ n=fun x=>n-(id+12)<(zI rs).length/\Kr (n-(id+12)) x:=by
               intro n h1 h2;have a1:¬ (id<=n/\n<id+12):=fun h=>by omega
               simp only [E1,if_neg a1,if_pos (show id+12<=n/\n<id+32 from ⟨h1,h2⟩),and_self]
              generalize hst1:({ st with lo:=(l,cells') :: st.lo,ro:=zfZ own cs' id++(zdc true rs (id+12)++(killed st ks++st.ro)),ep:=st.ep+1 }:St)=st1;have hst1ro:st1.ro=zfZ own cs' id++(zdc true rs (id+12)++(killed st ks++st.ro)):=by rw [<- hst1]
              have hst1lo:st1.lo=(l,cells') :: st.lo:=by rw [<- hst1]
              have hst1ep:st1.ep=st.ep+1:=by rw [<- hst1]
              have hA:∀r R,zx (zfZ own cs' id) r=some R->id<=r/\r<id+12/\r-id<cs.length/\zbk own (r-id)/\∃t l,cs'[r-id]?=some (.s t l)/\R=zcX t l:=by
               intro r R hr;obtain ⟨h1,h2,t,l',h3,h4⟩:=zLW own cs' id r R hr;have hlt:=(List.getElem?_eq_some_iff.1 h3).1;exact ⟨h1,by omega,by omega,h2,t,l',h3,h4⟩
              have hBr:∀r R,zx (zdc true rs (id+12)) r=some R->id+12<=r/\r<id+32/\r-(id+12)<(zI rs).length/\∃t l,(zI rs)[r-(id+12)]?=some (.s t l)/\R=⟨t,l,true,none⟩:=by
               intro r R hr;obtain ⟨h1,t,l',h3,h4⟩:=zg8 true rs (id+12) r R hr;have hlt:=(List.getElem?_eq_some_iff.1 h3).1;exact ⟨h1,by omega,hlt,t,l',h3,h4⟩
              have hro:∀r R,zx st1.ro r=some R->zx (zfZ own cs' id) r=some R\/zx (zdc true rs (id+12)) r=some R\/(R.ep=some st.ep/\∃Q,zx st.ro r=some Q)\/(zx st.ro r=some R/\r∉ks):=by
               intro r R hr;rw [hst1ro,zbY] at hr;split at hr
               ·rename_i Q hQ;cases hr;exact .inl hQ
               ·rw [zbY] at hr;split at hr
                ·rename_i Q hQ;cases hr;exact .inr (.inl hQ)
                ·rw [zbY] at hr;split at hr
                 ·rename_i Q hQ;cases hr;exact .inr (.inr (.inl (zrt ks r _ hQ)))
                 ·rename_i hn;exact .inr (.inr (.inr ⟨hr,zoO ks r R hn hr⟩))
              have hroot:∀r R,st1.root r=some R->zx (zfZ own cs' id) r=some R\/zx (zdc true rs (id+12)) r=some R\/(st.root r=some R/\R.ep=none/\r∉ks/\U r):=by
               intro r R hr;obtain ⟨h1,h2⟩:=zbL hr;rw [hst1ep] at h2;rcases hro r R h1 with h|h|⟨h,_⟩|⟨h,hk⟩
               ·exact .inl h
               ·exact .inr (.inl h)
               ·rcases h2 with h2|h2
                ·rw [h] at h2;cases h2
                ·rw [h] at h2;simp at h2
               ·rcases h2 with h2|h2
                ·exact .inr (.inr ⟨zhN h (.inl h2),h2,hk,hS.ids.ro r R h⟩)
                ·have:=hM.epo r R _ h h2;omega
              have hfr:∀r R,st.root r=some R->R.ep=none->r∉ks->∀x,E.φ r x->w'.heap[x]?=w.heap[x]?:=by
               intro r R hR he hk x hx;refine hkeep x (hM.rlt r R hR x hx) (fun h=>hM.lro l cells r R hcells hR (by rw [<- h];exact hx)) (fun j hj ho hkx=>?_)
               obtain ⟨q,hq,Q,h1,h2,h3⟩:=hKown j x ho hkx;exact hM.apart q Q r R h1 h2 hR he (fun e=>hk (by rw [<- e];exact hq)) x h3 hx
              have hnewx:∀x,(x<w'.heap.size/\x≠E.β l/\((∃i,i<cs.length/\zbk own i/\K i x)\/w.heap.size<=x))->(S0 x\/w0.heap.size<=x)/\∀r R,st.root r=some R->R.ep=none->r∉ks->¬ E.φ r x:=by
               intro x ⟨h1,h2,h3⟩;rcases h3 with ⟨i,hi,ho,hk⟩|h3
               ·obtain ⟨q,hq,Q,g1,g2,g3⟩:=hKown i x ho hk;exact ⟨(hM.mine q Q g1 g2).2 x g3,fun r R hR he hk' hx=>hM.apart q Q r R g1 g2 hR he (fun e=>hk' (by rw [<- e];exact hq)) x g3 hx⟩
               ·exact ⟨.inr (Nat.le_trans hM.size h3),fun r R hR he hk' hx=>by have:=hM.rlt r R hR x hx;omega⟩
              have hKrep:∀r R,zx (zfZ own cs' id) r=some R->Rep true w' (E1.ρ r) (.s R.t R.l) (E1.φ r):=by
               intro r R hr;obtain ⟨h1,h2,h3,h4,t,l',h5,rfl⟩:=hA r R hr;have hv:r-id<vals'.size:=by omega
               have hu:=Array.getElem?_eq_getElem hv;have:=(hcell _ _ _ h5 hu).1 h4;rw [(hEa r h1 h2).1,(hEa r h1 h2).2,hu];exact this.weak (fun x hx=>⟨h3,hx⟩)
              have hRrep:∀r R,zx (zdc true rs (id+12)) r=some R->Rep true w' (E1.ρ r) (.s R.t R.l) (E1.φ r):=by
               intro r R hr;obtain ⟨h1,h2,h3,t,l',h5,rfl⟩:=hBr r R hr;have hv:r-(id+12)<ys.length:=by rw [hys.1];exact h3
               have hu:=List.getElem?_eq_getElem hv;rw [(hEb r h1 h2).1,(hEb r h1 h2).2,hu];exact (hys.2 _ _ _ h5 hu).weak (fun x hx=>⟨h3,hx⟩)
              have hKfoot:∀r R,zx (zfZ own cs' id) r=some R->∀x,E1.φ r x->r-id<cs.length/\K' (r-id) x:=by
               intro r R hr x hx;obtain ⟨h1,h2,_⟩:=hA r R hr;rw [(hEa r h1 h2).2] at hx;exact hx
              have hRfoot:∀r R,zx (zdc true rs (id+12)) r=some R->∀x,E1.φ r x->r-(id+12)<(zI rs).length/\Kr (r-(id+12)) x:=by
               intro r R hr x hx;obtain ⟨h1,h2,_⟩:=hBr r R hr;rw [(hEb r h1 h2).2] at hx;exact hx
              have hfoot:∀r R,(zx (zfZ own cs' id) r=some R\/zx (zdc true rs (id+12)) r=some R)->∀x,E1.φ r x->x<w'.heap.size/\x≠E.β l/\((∃i,i<cs.length/\zbk own i/\K i x)\/w.heap.size<=x):=by
               intro r R hr x hx;rcases hr with hr|hr
               ·obtain ⟨h1,h2⟩:=hKfoot r R hr x hx;exact hK'x _ x h1 h2
               ·obtain ⟨h1,h2⟩:=hRfoot r R hr x hx;exact hKrx _ x h1 h2
              have hold:∀r R,(zx (zfZ own cs' id) r=some R\/zx (zdc true rs (id+12)) r=some R)->R.own=true/\R.ep=none:=by
               intro r R hr;rcases hr with hr|hr
               ·obtain ⟨_,_,_,_,t,l',_,rfl⟩:=hA r R hr;exact ⟨rfl,rfl⟩
               ·obtain ⟨_,_,_,t,l',_,rfl⟩:=hBr r R hr;exact ⟨rfl,rfl⟩
              have hroot2:∀r R,st1.root r=some R->(zx (zfZ own cs' id) r=some R\/zx (zdc true rs (id+12)) r=some R)\/(st.root r=some R/\R.ep=none/\r∉ks/\U r):=by
               intro r R hr;rcases hroot r R hr with h|h|h
               ·exact .inl (.inl h)
               ·exact .inl (.inr h)
               ·exact .inr h
              have hapart:∀r R r' R',(zx (zfZ own cs' id) r=some R\/zx (zdc true rs (id+12)) r=some R)->(zx (zfZ own cs' id) r'=some R'\/zx (zdc true rs (id+12)) r'=some R')->r≠r'->∀x,E1.φ r x->¬ E1.φ r' x:=by
               intro r R r' R' hr hr' hne x hx hx';rcases hr with hr|hr<;>rcases hr' with hr'|hr'
               ·obtain ⟨h1,h2⟩:=hKfoot r R hr x hx;obtain ⟨h1',h2'⟩:=hKfoot r' R' hr' x hx';obtain ⟨g1,_⟩:=hA r R hr;obtain ⟨g1',_⟩:=hA r' R' hr';exact hK'd _ _ x h1 h1' (by omega) h2 h2'
               ·obtain ⟨h1,h2⟩:=hKfoot r R hr x hx;obtain ⟨h1',h2'⟩:=hRfoot r' R' hr' x hx';exact hKK _ _ x h1 h1' h2 h2'
               ·obtain ⟨h1,h2⟩:=hRfoot r R hr x hx;obtain ⟨h1',h2'⟩:=hKfoot r' R' hr' x hx';exact hKK _ _ x h1' h1 h2' h2
               ·obtain ⟨h1,h2⟩:=hRfoot r R hr x hx;obtain ⟨h1',h2'⟩:=hRfoot r' R' hr' x hx';obtain ⟨g1,_⟩:=hBr r R hr;obtain ⟨g1',_⟩:=hBr r' R' hr';exact hKrd _ _ x h1 h1' (by omega) h2 h2'
              have hlo1:∀l' cs1,zx st1.lo l'=some cs1->(l'=l/\cs1=cells')\/(l'≠l/\zx st.lo l'=some cs1):=by
               intro l' cs1 h;rw [hst1lo] at h;simp only [zx] at h;split at h
               ·rename_i he;simp only [beq_iff_eq] at he;cases h;exact .inl ⟨he.symm,rfl⟩
               ·rename_i he;simp only [beq_iff_eq] at he;exact .inr ⟨fun e=>he e.symm,h⟩
              have hlo2:∀l' cs1,zx st1.lo l'=some cs1->∃cs0,zx st.lo l'=some cs0:=by
               intro l' cs1 h;rcases hlo1 l' cs1 h with ⟨rfl,_⟩|⟨_,h⟩
               ·exact ⟨_,hcells⟩
               ·exact ⟨_,h⟩
              have hT:Trans st E w st1 E1 w' U:=by
               refine ⟨fun r hU R1 hR1=>?_,fun l' hU cs1 h1=>⟨hlo2 l' cs1 h1,rfl⟩,rfl⟩;rcases hroot2 r R1 hR1 with h|⟨h1,h2,h3,h4⟩
               ·exfalso;rcases h with h|h
                ·obtain ⟨g1,g2,_⟩:=hA r R1 h;exact hid r ⟨g1,by omega⟩ hU
                ·obtain ⟨g1,g2,_⟩:=hBr r R1 h;exact hid r ⟨by omega,g2⟩ hU
               ·refine ⟨R1,h1,rfl,fun p u hp=>?_⟩;rw [(hE1 r hU).1,zcY p (hM.rep r R1 h1) (hfr r R1 h1 h2 h3)];exact hp
              have hMem:Mem w0 S0 st1 E1 w':=by
               refine ⟨hos.trans hM.os,htp.trans hM.tape,hout.trans hM.output,Nat.le_trans hM.size hsz,fun b hb hnS=>?_,fun r R hR=>?_,fun r R hR x hx=>?_,fun r R hR ho=>?_,fun r R r' R' hR ho hR' he hne x hx=>?_,fun l' cs1 hl'=>?_,fun l1 l2 c1 c2 h1 h2=>?_,fun l' cs1 r R hl' hR=>?_,fun r R ee hR he=>?_,hM.κ⟩
               ·refine (hkeep b (Nat.lt_of_lt_of_le hb hM.size) (fun h=>?_) (fun j hj ho hk=>?_)).trans (hM.keep b hb hnS)
                ·subst h;rcases hl1 with h|h
                 ·exact hnS h
                 ·omega
                ·obtain ⟨q,hq,Q,g1,g2,g3⟩:=hKown j b ho hk;rcases (hM.mine q Q g1 g2).2 b g3 with h|h
                 ·exact hnS h
                 ·omega
               ·rcases hroot r R hR with h|h|⟨h1,h2,h3,h4⟩
                ·have:=hKrep r R h;rw [(hold r R (.inl h)).1];exact this
                ·have:=hRrep r R h;rw [(hold r R (.inr h)).1];exact this
                ·rw [(hE1 r h4).1,(hE1 r h4).2];exact (hM.rep r R h1).frame (hfr r R h1 h2 h3)
               ·rcases hroot2 r R hR with h|⟨h1,h2,h3,h4⟩
                ·exact (hfoot r R h x hx).1
                ·rw [(hE1 r h4).2] at hx;exact Nat.lt_of_lt_of_le (hM.rlt r R h1 x hx) hsz
               ·rcases hroot2 r R hR with h|⟨h1,h2,h3,h4⟩
                ·exact ⟨(hold r R h).2,fun x hx=>(hnewx x (hfoot r R h x hx)).1⟩
                ·rw [(hE1 r h4).2];exact hM.mine r R h1 ho
               ·rcases hroot2 r R hR with h|⟨h1,h2,h3,h4⟩
                ·rcases hroot2 r' R' hR' with h'|⟨h1',h2',h3',h4'⟩
                 ·exact hapart r R r' R' h h' hne x hx
                 ·rw [(hE1 r' h4').2];exact (hnewx x (hfoot r R h x hx)).2 r' R' h1' h2' h3'
                ·rw [(hE1 r h4).2] at hx;rcases hroot2 r' R' hR' with h'|⟨h1',h2',h3',h4'⟩
                 ·intro hx';exact (hnewx x (hfoot r' R' h' x hx')).2 r R h1 h2 h3 hx
                 ·rw [(hE1 r' h4').2];exact hM.apart r R r' R' h1 ho h1' h2' hne x hx
               ·rcases hlo1 l' cs1 hl' with ⟨rfl,rfl⟩|⟨hne,hl'⟩
                ·refine ⟨hl1,vals',e',hb',by rw [hsz',hn2,hn1],fun j b u hbj hu=>?_⟩
                 rcases hn3 j b hbj with ⟨k,n,rfl,h2⟩|⟨y,rfl,h2⟩|⟨t,l',rfl,ho,h2⟩|⟨t,l',r,rfl,ho,h1,h2⟩
                 ·have:=hcell j _ u h2 hu;simp only at this;subst this;exact ⟨rfl,rfl⟩
                 ·have:=hcell j _ u h2 hu;simp only at this;subst this;exact ⟨rfl,rfl⟩
                 ·have hrep:=(hcell j _ u h2 hu).1 ho;have hlt:=(List.getElem?_eq_some_iff.1 h2).1;obtain ⟨⟨a,cap,hv,_⟩,_⟩:=hrep.len;refine ⟨hrep.one,⟨a,_,cap,hv⟩,fun R hR=>?_⟩;have hij:id+j-id=j:=by omega
                  have:=(hEa (id+j) (by omega) (by omega)).1
                  rw [hij,hu] at this;simp only [zbi,this,Option.getD_some]
                 ·have hvj:=(hcell j _ u h2 hu).2 ho;have hold:=hl4 j _ u h1 hvj;exact ⟨hold.1,VA.tr hT (fun n hn=>(hS.ids.lo _ cells hcells).2 _ (List.mem_of_getElem? h1) n hn) hold.2⟩
                ·obtain ⟨g1,vals1,e1,g2,g3,g4⟩:=hM.loc l' cs1 hl';refine ⟨g1,vals1,e1,(hkeep _ (hβlt l' cs1 hl') (fun h=>hne (hM.linj l' l cs1 cells hl' hcells h)) (fun j hj ho hk=>?_)).trans g2,g3,fun j b u hb hu=>⟨(g4 j b u hb hu).1,VA.tr hT (fun n hn=>(hS.ids.lo l' cs1 hl').2 b (List.mem_of_getElem? hb) n hn) (g4 j b u hb hu).2⟩⟩;obtain ⟨q,hq,Q,h1,h2,h3⟩:=hKown j _ ho hk;exact hM.lro l' cs1 q Q hl' h1 h3
               ·intro hb;obtain ⟨c1',h1⟩:=hlo2 l1 c1 h1;obtain ⟨c2',h2⟩:=hlo2 l2 c2 h2;exact hM.linj l1 l2 c1' c2' h1 h2 hb
               ·obtain ⟨cs0,hl0⟩:=hlo2 l' cs1 hl';rcases hroot2 r R hR with h|⟨h1,h2,h3,h4⟩
                ·intro hx;obtain ⟨_,g2,g3⟩:=hfoot r R h _ hx;rcases g3 with ⟨i,hi,ho,hk⟩|g3
                 ·obtain ⟨q,hq,Q,q1,q2,q3⟩:=hKown i _ ho hk;exact hM.lro l' cs0 q Q hl0 q1 q3
                 ·have:=hβlt l' cs0 hl0;have e:E1.β l'=E.β l':=rfl;omega
                ·rw [(hE1 r h4).2];exact hM.lro l' cs0 r R hl0 h1
               ·rw [hst1ep];rcases hro r R hR with h|h|⟨h,_⟩|⟨h,_⟩
                ·rw [(hold r R (.inl h)).2] at he;cases he
                ·rw [(hold r R (.inr h)).2] at he;cases he
                ·rw [h] at he;cases he;omega
                ·have:=hM.epo r R ee h he;omega
              obtain ⟨g1,g2⟩:=zh8 (w:=w') (st:=st1) (E:=E1) rs ys (id+12) hys.1 (fun i c u hc hu=>by
               have hrep:=hys.2 i c u hc hu;refine ⟨?_,hrep.one⟩;have hlt:i<(zI rs).length:=(List.getElem?_eq_some_iff.1 hc).1;cases c with
               | i k n=>exact hrep.int_inv
               | b x=>exact hrep.bool_inv
               | s t l' =>
                obtain ⟨⟨a,cap,hv,_⟩,_⟩:=hrep.len;refine ⟨⟨a,_,cap,hv⟩,fun R hR=>?_⟩;have e:id+12+i-(id+12)=i:=by omega
                have:=(hEb (id+12+i) (by omega) (by omega)).1
                rw [e,hu] at this;simp only [zbi,this,Option.getD_some])
              have hnx:=Sim.next (U1:=fun n=>U n\/Mine id n) hS hMem hT (by rw [<- hst1]) (by rw [<- hst1]) (fun n h=>.inl h) (fun n R h=>by
               rcases hro n R h with h|h|⟨_,Q,h⟩|⟨h,_⟩
               ·obtain ⟨h1,h2,_⟩:=hA n R h;exact .inr ⟨h1,by omega⟩
               ·obtain ⟨h1,h2,_⟩:=hBr n R h;exact .inr ⟨by omega,h2⟩
               ·exact .inl (hS.ids.ro n Q h)
               ·exact .inl (hS.ids.ro n R h))
               (fun n cs1 hn=>by
                rcases hlo1 n cs1 hn with ⟨rfl,rfl⟩|⟨_,hn⟩
                ·refine ⟨.inl (hS.ids.lo _ cells hcells).1,fun a ha m hm=>?_⟩;obtain ⟨j,hj⟩:=List.mem_iff_getElem?.1 ha;have hjl:j<cs1.length:=(List.getElem?_eq_some_iff.1 hj).1;have hj12:j<12:=by rw [hn1] at hjl;omega
                 rcases hn3 j a hj with ⟨k,n,rfl,h2⟩|⟨y,rfl,h2⟩|⟨t,l',rfl,ho,h2⟩|⟨t,l',r,rfl,ho,h1,h2⟩
                 ·simp [At.ids,zbA,zbB] at hm
                 ·simp [At.ids,zbA,zbB] at hm
                 ·simp only [At.ids,zbA,zbB,List.append_nil,List.mem_singleton] at hm;subst hm;exact .inr ⟨by omega,by omega⟩
                 ·exact .inl ((hS.ids.lo _ cells hcells).2 _ (List.mem_of_getElem? h1) m hm)
                ·exact ⟨.inl (hS.ids.lo n cs1 hn).1,fun a ha m hm=>.inl ((hS.ids.lo n cs1 hn).2 a ha m hm)⟩)
               (dst:=o.dst) (zxJ g1 g2) (fun n hn=>by
                simp only [MV.ids,List.mem_flatMap] at hn;obtain ⟨a,ha,hn⟩:=hn;obtain ⟨x,hx,ha⟩:=zzV ha;have:=zgc rs (id+12) n x a hx ha hn;exact .inr ⟨by omega,by omega⟩)
              subst hst1;exact hnext _ _ _ hnx
           ·cases h
          ·cases h
         ·cases h
        ·cases h
       ·cases h
      ·cases h
     ·cases h
    ·cases h
   ·cases h
  ·cases h
 ·cases h
end
def z0G (P:Program)(f:FuncId)(own:List Bool)(inp:Option (Nat×Nat×List (List Nat)))(al:List (Nat×Nat))(run:List AV->Option (Bool×List AV)):Prop :=
 FnOk P f/\∀(w:World) (K:Nat->zbn) (avs:List AV) (xs:List Value) (rs:List AV),
  xs.length=(zI avs).length->own.length=(zI avs).length ->
  (∀(j:Nat) (c:CV) (u:Value),(zI avs)[j]?=some c->xs[j]?=some u->Rep ((own[j]?).getD false) w u c (K j)) ->
  (∀j x,j<(zI avs).length->K j x->x<w.heap.size) ->
  (∀i j x,i<(zI avs).length->j<(zI avs).length->zbk own i->i≠j->(j,i)∉al->K i x->¬ K j x) ->
  (∀j i,(j,i)∈al->own[j]?=some false/\zbk own i/\xs[j]?=xs[i]?/\(zI avs)[j]?=(zI avs)[i]?/\∃t l,(zI avs)[i]?=some (.s t l)) ->
  run avs=some (true,rs) ->
  Calls P f (zcn avs xs).toArray w fun
   | .returned v,w'=>w'.os=w.os/\w'.tape=w.tape/\w'.output=w.output/\w.heap.size<=w'.heap.size /\
    (∀b,b<w.heap.size->(∀j,j<(zI avs).length->zbk own j->¬ K j b)->w'.heap[b]?=w.heap[b]?) /\
    ∃(ys:List Value) (Kr:Nat->zbn),zdO true w' (zI rs) ys Kr/\v=zkl (zcn rs ys) /\
     (∀i x,i<(zI rs).length->Kr i x->x<w'.heap.size/\((∃j,j<(zI avs).length/\zbk own j/\K j x)\/w.heap.size<=x)) /\
     (∀i j x,i<(zI rs).length->j<(zI rs).length->i≠j->Kr i x->¬ Kr j x) /\
     (∀ja jr js,inp=some (ja,jr,js)->∀t l u,(zI avs)[ja]?=some (.s t l)->xs[ja]?=some u->∃l',(zI rs)[jr]?=some (.s t l')/\ys[jr]?=some u /\
      ∀p v,zbi w t u p=some v->js.any (fun c=>c.isPrefixOf (cols p))=false->zbi w' t u p=some v)
   | _,_=>False
def zez (P:Program)(f:FuncId)(own:List Bool)(inp:Option (Nat×Nat×List (List Nat)))(run:List AV->Option (Bool×List AV)):Prop :=
 ∀al∈zlr f,z0G P f own inp al run
structure TctOk (C:Cfg):Prop where
 ok:∀f own inp run,C.tct f=some (own,inp,run)->zez C.P f own inp run
section
variable {C:Cfg} {w0 w w1:World} {S0:zbn} {U:Nat->Prop} {st st1:St} {E E1:Env} {ts:Array Value} {sv:List (Array Value)}
structure Tks (st:St) (own:List Bool) (ats:List At) (cs:List CV) (ks:List Nat):Prop where
 len:cs.length=ats.length
 olen:own.length=ats.length
 ownk:∀r∈ks,∃j,zbk own j/\ats[j]?=some (.sl r [])
 get:∀(j:Nat) (a:At),ats[j]?=some a->(zbk own j/\∃r R,a = .sl r []/\st.root r=some R/\R.own=true/\r∈ks/\cs[j]?=some (.s R.t R.l))\/(own[j]?=some false/\∃c,st.cvOf a=some c/\cs[j]?=some c)
 inj:∀(i j r:Nat),zbk own i->zbk own j->ats[i]?=some (.sl r [])->ats[j]?=some (.sl r [])->i=j
theorem zYL:∀(own:List Bool) (ats:List At) (cs:List CV) (ks:List Nat),st.tks own ats=some (cs,ks)->Tks st own ats cs ks
 | [],[],cs,ks,h=>by
  cases h;exact ⟨rfl,rfl,fun r h=>by simp at h,fun j a h=>by simp at h,fun i j r h=>by simp [zbk] at h⟩
 | [],_ :: _,_,_,h=>by simp [St.tks] at h
 | _ :: _,[],_,_,h=>by simp [St.tks] at h
 | o :: ms,a :: r,cs,ks,h=>by
  simp only [St.tks] at h;split at h
  ·cases h
  ·rename_i cs0 ks0 h0;have ih:=zYL ms r cs0 ks0 h0;have tail:∀(ks1:List Nat) (c:CV),(∀x∈ks0,x∈ks1)->∀(j:Nat) (b:At),r[j]?=some b ->
    (zbk (o :: ms) (j+1)/\∃q R,b = .sl q []/\st.root q=some R/\R.own=true/\q∈ks1/\(c :: cs0)[j+1]?=some (.s R.t R.l))\/((o :: ms)[j+1]?=some false/\∃d,st.cvOf b=some d/\(c :: cs0)[j+1]?=some d):=by
    intro ks1 c hks j b hb;rcases ih.get j b hb with ⟨h1,q,R,g1,g2,g3,g4,g5⟩|⟨h1,d,g1,g2⟩
    ·exact .inl ⟨by simpa [zbk] using h1,q,R,g1,g2,g3,hks q g4,by simpa using g5⟩
    ·exact .inr ⟨by simpa using h1,d,g1,by simpa using g2⟩
   split at h
   ·split at h
    ·rename_i q;split at h
     ·rename_i R hR;split at h
      ·rename_i hcond;simp only [Bool.and_eq_true,Bool.not_eq_true',List.contains_eq_mem,decide_eq_false_iff_not] at hcond;obtain ⟨hown,hnk⟩:=hcond;cases h;have old:∀(i:Nat),zbk ms i->r[i]?=some (.sl q [])->False:=by
        intro i hi hq;rcases ih.get i _ hq with ⟨_,r',R',g1,_,_,g4,_⟩|⟨h1,_⟩
        ·cases g1;exact hnk g4
        ·rw [hi] at h1;cases h1
       refine ⟨by simp [ih.len],by simp [ih.olen],fun x hx=>?_,fun j b hb=>?_,fun i j x hi hj h1 h2=>?_⟩
       ·rcases List.mem_cons.1 hx with rfl|hx
        ·exact ⟨0,rfl,rfl⟩
        ·obtain ⟨j,h1,h2⟩:=ih.ownk x hx;exact ⟨j+1,by simpa [zbk] using h1,by simpa using h2⟩
       ·cases j with
        | zero =>
         simp only [List.getElem?_cons_zero,Option.some.injEq] at hb;subst hb;exact .inl ⟨rfl,q,R,rfl,hR,hown,List.mem_cons_self,by simp⟩
        | succ j=>exact tail _ _ (fun x hx=>List.mem_cons_of_mem _ hx) j b (by simpa using hb)
       ·cases i with
        | zero =>
         cases j with
         | zero=>rfl
         | succ j =>
          simp only [List.getElem?_cons_zero,Option.some.injEq,At.sl.injEq,and_true] at h1;subst h1;exact (old j (by simpa [zbk] using hj) (by simpa using h2)).elim
        | succ i =>
         cases j with
         | zero =>
          simp only [List.getElem?_cons_zero,Option.some.injEq,At.sl.injEq,and_true] at h2;subst h2;exact (old i (by simpa [zbk] using hi) (by simpa using h1)).elim
         | succ j =>
          have:=ih.inj i j x (by simpa [zbk] using hi) (by simpa [zbk] using hj) (by simpa using h1) (by simpa using h2)
          omega
      ·cases h
     ·cases h
    ·cases h
   ·split at h
    ·rename_i c hc;cases h;refine ⟨by simp [ih.len],by simp [ih.olen],fun x hx=>?_,fun j b hb=>?_,fun i j x hi hj h1 h2=>?_⟩
     ·obtain ⟨j,h1,h2⟩:=ih.ownk x hx;exact ⟨j+1,by simpa [zbk] using h1,by simpa using h2⟩
     ·cases j with
      | zero =>
       simp only [List.getElem?_cons_zero,Option.some.injEq] at hb;subst hb;exact .inr ⟨rfl,c,hc,by simp⟩
      | succ j=>exact tail _ _ (fun x hx=>hx) j b (by simpa using hb)
     ·cases i with
      | zero=>simp [zbk] at hi
      | succ i =>
       cases j with
       | zero=>simp [zbk] at hj
       | succ j =>
        have:=ih.inj i j x (by simpa [zbk] using hi) (by simpa [zbk] using hj) (by simpa using h1) (by simpa using h2)
        omega
    ·cases h
theorem zPD {ks:List Nat}{al:List (Nat×Nat)}:∀(n:Nat) (own:List Bool) (ats:List At),zxr st ks al n own ats=true->∀(j:Nat) (a:At),ats[j]?=some a->own[j]?=some false->(∀i,(n+j,i)∉al)->zXD st ks a=true
 | _,[],_,_,j,a,_,ho,_=>by simp at ho
 | _,_ :: _,[],_,j,a,ha,_,_=>by simp at ha
 | n,o :: ms,b :: r,h,j,a,ha,ho,hn=>by
  simp only [zxr,Bool.and_eq_true,Bool.or_eq_true] at h;cases j with
  | zero =>
   simp only [List.getElem?_cons_zero,Option.some.injEq] at ha ho;subst ha ho;rcases h.1 with h|h|h
   ·cases h
   ·obtain ⟨x,hx,he⟩:=List.any_eq_true.1 h;have:x.1=n:=Nat.eq_of_beq_eq_true he;exact absurd (by rw [Nat.add_zero,<- this];exact hx) (hn x.2)
   ·exact h
  | succ j=>exact zPD (n+1) ms r h.2 j a (by simpa using ha) (by simpa using ho) (fun i=>by have:=hn i;rwa [show n+1+j=n+(j+1) by omega])
theorem zuP {own:List Bool}{ats:List At}{al:List (Nat×Nat)}(h:zI0 own ats al=true){j i:Nat}(hm:(j,i)∈al):∃q,ats[j]?=some (.sl q [])/\ats[i]?=some (.sl q [])/\own[j]?=some false/\zbk own i:=by
 have:=List.all_eq_true.1 h _ hm
 dsimp only at this
 split at this
 ·rename_i q r h1 h2 h3 h4;have e:q=r:=Nat.eq_of_beq_eq_true this;subst e;exact ⟨q,h1,h2,h3,h4⟩
 ·cases this
theorem zSC (hS:Sim w0 S0 U st E ts sv w):∀(l:List Operand) (tvs:List TV),zOX st l=some tvs ->
 ∃xs:List Value,xs.length=(tvs.flatMap zW).length/\(∀(j:Nat) (a:At) (u:Value),(tvs.flatMap zW)[j]?=some a->xs[j]?=some u->VA w st E a u) /\
  ∀cs:List CV,cs.length=xs.length->l.map ({ tmps:=ts,defers:=[] }:Act).eval=zcn (zfE tvs cs) xs/\zI (zfE tvs cs)=cs
 | [],tvs,h=>by
  cases h;exact ⟨[],rfl,fun j a u h=>by simp at h,fun cs hcs=>by
   have:cs=[]:=List.eq_nil_of_length_eq_zero (by simpa using hcs)
   subst this;exact ⟨rfl,rfl⟩⟩
 | x :: r,tvs,h=>by
  simp only [zOX] at h;split at h
  ·rename_i y ys hx hr;cases h;obtain ⟨xs,h1,h2,h3⟩:=zSC hS r ys hr;obtain ⟨hv,-⟩:=zce hS hx;rcases y with a|l
   ·refine ⟨({ tmps:=ts,defers:=[] }:Act).eval x :: xs,by simp [zW,h1],fun j b u hb hu=>?_,fun cs hcs=>?_⟩
    ·cases j with
     | zero=>simp [zW] at hb hu;subst hb hu;exact hv
     | succ j=>exact h2 j b u (by simpa [zW] using hb) (by simpa using hu)
    ·cases cs with
     | nil=>simp at hcs
     | cons c cs =>
      obtain ⟨g1,g2⟩:=h3 cs (by simpa using hcs)
      refine ⟨by simp [zfE,zcn,g1],?_⟩
      have e:zI (zfE (TV.at a :: ys) (c :: cs))=c :: zI (zfE ys cs):=by simp [zfE,zI,AV.cvs]
      rw [e,g2]
   ·obtain ⟨vs,hvs,hsz,hvv⟩:=hv;have hl:vs.toList.length=l.length:=by simp [hsz]
    refine ⟨vs.toList++xs,by simp [zW,h1,hsz],fun j b u hb hu=>?_,fun cs hcs=>?_⟩
    ·simp only [List.flatMap_cons,zW] at hb
     by_cases hj:j<l.length
     ·rw [List.getElem?_append_left hj] at hb;rw [List.getElem?_append_left (by omega)] at hu
      exact (hvv j b u hb (by simpa using hu)).2
     ·rw [List.getElem?_append_right (by omega)] at hb
      rw [List.getElem?_append_right (by omega),hl] at hu
      exact h2 _ b u hb hu
    ·have hcl:cs.length=l.length+xs.length:=by simpa [hsz] using hcs
     obtain ⟨g1,g2⟩:=h3 (cs.drop l.length) (by simp;omega)
     have htl:(cs.take l.length).length=l.length:=by simp;omega
     refine ⟨?_,?_⟩
     ·have e1:List.take l.length (vs.toList++xs)=vs.toList:=by rw [<- hl];exact List.take_left' rfl
      have e2:List.drop l.length (vs.toList++xs)=xs:=by rw [<- hl];exact List.drop_left' rfl
      simp only [List.map_cons,zfE,zcn,hvs,htl,e1,e2,g1,Array.toArray_toList]
     ·have e:zI (zfE (TV.agg l :: ys) cs)=cs.take l.length++zI (zfE ys (cs.drop l.length)):=by simp [zfE,zI,AV.cvs]
      rw [e,g2,List.take_append_drop]
  ·cases h
theorem zX8 {f:At->At}(T:∀a v,(∀n∈a.ids,U n)->VA w st E a v->VA w1 st1 E1 (f a) v){x:TV}{v:Value}(hU:∀a∈zW x,∀n∈a.ids,U n)(h:VT w st E x v):VT w1 st1 E1 (zoZ f x) v:=by
 rcases x with a|l
 ·exact T a v (hU a (by simp [zW])) h
 ·obtain ⟨vs,h1,h2,h3⟩:=h;refine ⟨vs,h1,by simp [h2],fun j a u ha hu=>?_⟩
  rw [List.getElem?_map] at ha;cases hl:l[j]? with
  | none=>rw [hl] at ha;cases ha
  | some b=>rw [hl] at ha;cases ha;exact ⟨(h3 j b u hl hu).1,T _ _ (hU b (by simp only [zW];exact List.mem_of_getElem? hl)) (h3 j b u hl hu).2⟩
theorem z1R {f:At->At}(T:∀a v,(∀n∈a.ids,U n)->VA w st E a v->VA w1 st1 E1 (f a) v){m:MV}{v:Value}(hU:∀n∈m.ids,U n)(h:VM w st E m v):VM w1 st1 E1 (zia f m) v:=by
 have hU':∀a∈zbU m,∀n∈a.ids,U n:=fun a ha n hn=>hU n (by simp only [MV.ids,List.mem_flatMap];exact ⟨a,ha,hn⟩)
 cases m with
 | und=>exact h
 | v x=>exact zX8 T hU' h
 | tup l =>
  obtain ⟨vs,h1,h2,h3⟩:=h;refine ⟨vs,h1,by simp [h2],fun j a u ha hu=>?_⟩
  rw [List.getElem?_map] at ha;cases hl:l[j]? with
  | none=>rw [hl] at ha;cases ha
  | some b =>
   rw [hl] at ha;cases ha;refine zX8 T (fun a ha=>hU' a ?_) (h3 j b u hl hu);simp only [zbU,List.mem_flatMap];exact ⟨b,List.mem_of_getElem? hl,ha⟩
theorem zMa {f:At->At}(T:∀a v,(∀n∈a.ids,U n)->VA w st E a v->VA w1 st1 E1 (f a) v){tm:List MV}{ts:Array Value}(hU:∀m∈tm,∀n∈m.ids,U n)(h:Slots w st E tm ts):Slots w1 st1 E1 (tm.map (zia f)) ts:=by
 refine ⟨by simp [h.1],fun i m v hm hv=>?_⟩
 rw [List.getElem?_map] at hm;cases hl:tm[i]? with
 | none=>rw [hl] at hm;cases hm
 | some b=>rw [hl] at hm;cases hm;exact z1R T (hU b (List.mem_of_getElem? hl)) (h.2 i b v hl hv)
theorem zMb {f:At->At}(T:∀a v,(∀n∈a.ids,U n)->VA w st E a v->VA w1 st1 E1 (f a) v):∀{l:List (List MV)} {s:List (Array Value)},(∀g∈l,∀m∈g,∀n∈m.ids,U n)->Stack w st E l s->Stack w1 st1 E1 (l.map fun g=>g.map (zia f)) s
 | [],[],_,_=>trivial
 | g :: l,ts :: s,hU,h=>⟨zMa T (hU g (by simp)) h.1,zMb T (fun g' hg=>hU g' (by simp [hg])) h.2⟩
 | [],_ :: _,_,h=>h.elim
 | _ :: _,[],_,h=>h.elim
theorem zL9 {f:At->At}{x:TV}{a:At}(h:a∈zW (zoZ f x)):∃b∈zW x,a=f b:=by
 rcases x with b|l
 ·simp only [zoZ,zW,List.mem_singleton] at h ⊢;exact ⟨b,rfl,h⟩
 ·simp only [zoZ,zW,List.mem_map] at h ⊢;obtain ⟨b,hb,rfl⟩:=h;exact ⟨b,hb,rfl⟩
theorem zL8 {f:At->At}{m:MV}{n:Nat}(h:n∈(zia f m).ids):∃a∈zbU m,n∈(f a).ids:=by
 simp only [MV.ids,List.mem_flatMap] at h;obtain ⟨a,ha,hn⟩:=h;have:∃b∈zbU m,a=f b:=by
  cases m with
  | und=>simp [zia,zbU] at ha
  | v x=>exact zL9 ha
  | tup l =>
   simp only [zia,zbU,List.mem_flatMap,List.mem_map] at ha ⊢;obtain ⟨y,⟨x,hx,rfl⟩,ha⟩:=ha;obtain ⟨b,hb,rfl⟩:=zL9 ha;exact ⟨b,⟨x,hx,hb⟩,rfl⟩
 obtain ⟨b,hb,rfl⟩:=this;exact ⟨b,hb,hn⟩
theorem zMg {q n k:Nat}{js:List (List Nat)}{a:At}(h:k∈(zj6 q n js a).ids):k∈a.ids\/k=n:=by
 cases a with
 | sl r p =>
  simp only [zj6] at h;cases hb:Nat.beq r q<;>rw [hb] at h
  ·exact .inl h
  ·cases hc:js.any (fun m=>m.isPrefixOf (cols p))<;>rw [hc] at h
   ·simp only [cond_true,cond_false,At.ids,zbA,zbB,List.append_nil,List.mem_singleton] at h;exact .inr h
   ·simp [At.ids,zbA,zbB] at h
 | ep r p i o =>
  simp only [zj6] at h;cases hb:Nat.beq r q<;>rw [hb] at h
  ·exact .inl h
  ·cases hc:js.any (fun m=>m.isPrefixOf (cols p))<;>rw [hc] at h
   ·simp only [cond_true,cond_false,At.ids,zbA,zbB,List.append_nil,List.mem_singleton] at h;exact .inr h
   ·simp [At.ids,zbA,zbB] at h
 | kp r J t =>
  simp only [zj6] at h;cases hb:Nat.beq r q<;>rw [hb] at h
  ·exact .inl h
  ·cases hc:coarse js J<;>rw [hc] at h
   ·simp [At.ids,zbA,zbB] at h
   ·simp only [cond_true,At.ids,zbA,zbB,List.append_nil,List.mem_singleton] at h;exact .inr h
 | bad=>exact .inl h
 | i k n=>exact .inl h
 | b x=>exact .inl h
 | lp l o=>exact .inl h
 | fn f c=>exact .inl h
theorem z1c {U1:Nat->Prop}(hS:Sim w0 S0 U st E ts sv w)(hM:Mem w0 S0 st1 E1 w1)(hT:Trans st E w st1 E1 w1 U)(htm:st1.tm=st.tm)(hstk:st1.stk=st.stk)(hlo1:st1.lo=st.lo)(hU:∀n,U n->U1 n)(hro:∀n R,zx st1.ro n=some R->U1 n)(hheap:∀l cs,zx st.lo l=some cs->w1.heap[E.β l]?=w.heap[E.β l]?){q n:Nat}{js:List (List Nat)}(hn:U1 n)(hq:∀R1,st1.root n=some R1->∃R,st.root q=some R/\R1.t=R.t/\E1.ρ n=E.ρ q/\∀p u,zbi w R.t (E.ρ q) p=some u->js.any (fun c=>c.isPrefixOf (cols p))=false->zbi w1 R.t (E.ρ q) p=some u) :
 Sim w0 S0 U1 (st1.ren (some (q,n,js))) E1 ts sv w1:=by
 have hroot:∀r,(st1.ren (some (q,n,js))).root r=st1.root r:=fun r=>rfl;have hloc:∀l cs,zx (st1.ren (some (q,n,js))).lo l=some cs->∃cs',zx st.lo l=some cs'/\cs=cs'.map (zj6 q n js):=by
  intro l cs h;simp only [St.ren,hlo1] at h;rw [zi6] at h;cases hl:zx st.lo l with
  | none=>rw [hl] at h;cases h
  | some cs'=>rw [hl] at h;cases h;exact ⟨cs',rfl,rfl⟩
 have hI:Trans st1 E1 w1 (st1.ren (some (q,n,js))) E1 w1 (fun _=>True) :=
  ⟨fun r _ R1 h1=>⟨R1,h1,rfl,fun _ _ h=>h⟩,fun l _ cs1 h1=>⟨by obtain ⟨cs',h2,_⟩:=hloc l cs1 h1;exact ⟨cs',by rw [hlo1];exact h2⟩,rfl⟩,rfl⟩
 have T:∀a v,(∀k∈a.ids,U k)->VA w st E a v->VA w1 (st1.ren (some (q,n,js))) E1 (zj6 q n js a) v:=by
  intro a v ha hv;have same:VA w1 (st1.ren (some (q,n,js))) E1 a v:=VA.tr hI (fun _ _=>trivial) (VA.tr hT ha hv);cases a with
  | bad=>trivial
  | i k n=>exact hv
  | b x=>exact hv
  | lp l o=>exact same
  | fn f c=>exact same
  | sl r p =>
   simp only [zj6];cases hb:Nat.beq r q with
   | false=>exact same
   | true =>
    rw [Nat.beq_eq] at hb;subst hb;cases hc:js.any (fun m=>m.isPrefixOf (cols p)) with
    | true=>trivial
    | false =>
     refine ⟨hv.1,fun R1 hR1=>?_⟩;obtain ⟨R,h1,h2,h3,h4⟩:=hq R1 hR1;rw [h2,h3];exact h4 p v (hv.2 R h1) hc
  | ep r p i o =>
   simp only [zj6];cases hb:Nat.beq r q with
   | false=>exact same
   | true =>
    rw [Nat.beq_eq] at hb;subst hb;cases hc:js.any (fun m=>m.isPrefixOf (cols p)) with
    | true=>trivial
    | false =>
     refine ⟨hv.1,fun R1 hR1=>?_⟩;obtain ⟨R,h1,h2,h3,h4⟩:=hq R1 hR1;obtain ⟨b,o',len,cap,t',g1,g2,g3⟩:=hv.2 R h1;exact ⟨b,o',len,cap,t',by rw [h2,h3];exact h4 p _ g1 hc,by rw [h2];exact g2,g3⟩
  | kp r J t =>
   simp only [zj6];cases hb:Nat.beq r q with
   | false=>exact same
   | true =>
    rw [Nat.beq_eq] at hb;subst hb;cases hc:coarse js J with
    | false=>trivial
    | true =>
     refine ⟨hv.1,fun R1 hR1=>?_⟩;obtain ⟨R,h1,h2,h3,h4⟩:=hq R1 hR1;obtain ⟨g1,g2,g3⟩:=hv.2 R h1;refine ⟨h2.trans g1,h3.trans g2,fun p u hp hJ=>?_⟩;rw [hT.κ] at hp;have:=h4 p u (by rw [g1,g2];exact g3 p u hp hJ) (zy8 hc hJ)
     rwa [g1,g2] at this
 have hids:∀{m:MV} {k:Nat},(∀j∈m.ids,U j)->k∈(zia (zj6 q n js) m).ids->U1 k:=by
  intro m k hm hk;obtain ⟨a,ha,hk⟩:=zL8 hk;rcases zMg hk with h|rfl
  ·exact hU k (hm k (by simp only [MV.ids,List.mem_flatMap];exact ⟨a,ha,h⟩))
  ·exact hn
 refine ⟨⟨hM.os,hM.tape,hM.output,hM.size,hM.keep,hM.rep,hM.rlt,hM.mine,hM.apart,fun l cs hl=>?_,fun l l' cs cs' h1 h2 he=>?_,fun l cs r R hl hR=>?_,hM.epo,hM.κ⟩,⟨hro,fun k cs hk=>?_,fun m hm k hk=>?_,fun g hg m hm k hk=>?_⟩,?_,?_⟩
 ·obtain ⟨cs',hl',rfl⟩:=hloc l cs hl;obtain ⟨h1,vals,e,h2,h3,h4⟩:=hS.mem.loc l cs' hl';obtain ⟨g1,_⟩:=hM.loc l cs' (by rw [hlo1];exact hl')
  have hβ:E1.β l=E.β l:=(hT.lo l (hS.ids.lo l cs' hl').1 cs' (by rw [hlo1];exact hl')).2
  refine ⟨g1,vals,e,by rw [hβ,hheap l cs' hl'];exact h2,by simp [h3],fun j c u hc hu=>?_⟩
  rw [List.getElem?_map] at hc;cases hcj:cs'[j]? with
  | none=>rw [hcj] at hc;cases hc
  | some c' =>
   rw [hcj] at hc;cases hc;exact ⟨(h4 j c' u hcj hu).1,T _ _ ((hS.ids.lo l cs' hl').2 c' (List.mem_of_getElem? hcj)) (h4 j c' u hcj hu).2⟩
 ·obtain ⟨c1,h1,_⟩:=hloc l cs h1;obtain ⟨c2,h2,_⟩:=hloc l' cs' h2;exact hM.linj l l' c1 c2 (by rw [hlo1];exact h1) (by rw [hlo1];exact h2) he
 ·obtain ⟨c1,h1,_⟩:=hloc l cs hl;exact hM.lro l c1 r R (by rw [hlo1];exact h1) hR
 ·obtain ⟨cs',h1,rfl⟩:=hloc k cs hk;refine ⟨hU k (hS.ids.lo k cs' h1).1,fun a ha j hj=>?_⟩;obtain ⟨a',ha',rfl⟩:=List.mem_map.1 ha;rcases zMg hj with h|rfl
  ·exact hU j ((hS.ids.lo k cs' h1).2 a' ha' j h)
  ·exact hn
 ·simp only [St.ren,htm] at hm;obtain ⟨m0,hm0,rfl⟩:=List.mem_map.1 hm;exact hids (hS.ids.tm m0 hm0) hk
 ·simp only [St.ren,hstk] at hg;obtain ⟨g0,hg0,rfl⟩:=List.mem_map.1 hg;obtain ⟨m0,hm0,rfl⟩:=List.mem_map.1 hm;exact hids (hS.ids.stk g0 hg0 m0 hm0) hk
 ·have:=zMa T hS.ids.tm hS.tm;simpa only [St.ren,htm] using this
 ·have:=zMb T hS.ids.stk hS.stk;simpa only [St.ren,hstk] using this
theorem zZW (hH:TctOk C)(w0 w:World)(S0:zbn)(U:Nat->Prop)(st:St)(E:Env)(ts:Array Value)(sv:List (Array Value))(o:Oper)(id:Nat)(c:Bool)(st2:St)(mv:MV)(hS:Sim w0 S0 U st E ts sv w)(hid:∀n,Mine id n->¬ U n)(h:zOW C st o id=some (c,st2,mv))(hc:c=true):Goes C w0 S0 U st ts sv w o id (fun _=>st2.put o.dst mv)/\st2.nid=st.nid:=by
 subst hc;unfold zOW at h;split at h
 ·rename_i cl ho;split at h
  ·rename_i f hcb;split at h
   ·rename_i own inp run htct;unfold zYK at h;split at h
    ·rename_i tvs htvs;split at h
     ·rename_i cs ks htks;split at h
      rotate_left
      ·cases h
      rename_i x hren;cases hfree0:(zlr f).any (fun al=>zI0 own (tvs.flatMap zW) al&&zxr st ks al 0 own (tvs.flatMap zW)) with
      | false=>rw [hfree0] at h;cases h
      | true =>
       rw [hfree0] at h;simp only [cond_true] at h;obtain ⟨al,hal,hfree1⟩:=List.any_eq_true.1 hfree0;rw [Bool.and_eq_true] at hfree1;obtain ⟨hali,hfree⟩:=hfree1;split at h
       ·rename_i cc rs hrun;split at h
        ·rename_i hlen;simp only [Option.some.injEq,Prod.mk.injEq] at h;obtain ⟨rfl,rfl,rfl⟩:=h;refine ⟨?_,by cases x<;>rfl⟩
         have hrsl:(zI rs).length<=31:=hlen;obtain ⟨⟨fn,bd,hf,hbd,hname⟩,hHT⟩:=hH.ok f own inp run htct al hal;have hB:=zYL own _ cs ks htks;have hM:=hS.mem;obtain ⟨xs,hxl,hxv,hxp⟩:=zSC hS cl.args.toList tvs htvs;obtain ⟨hxm,hcv⟩:=hxp cs (by rw [hB.len,hxl])
         let Ka:zbn:=fun x=>x<w.heap.size/\∀r∈ks,¬ E.φ r x
         have hks:∀r∈ks,∃j R,j<cs.length/\zbk own j/\(tvs.flatMap zW)[j]?=some (.sl r [])/\st.root r=some R/\R.own=true:=by
          intro r hr;obtain ⟨j,h1,h2⟩:=hB.ownk r hr;rcases hB.get j _ h2 with ⟨_,q,R,h,g1,g2,_,_⟩|⟨h,_⟩
          ·cases h;exact ⟨j,R,by rw [hB.len];exact (List.getElem?_eq_some_iff.1 h2).1,h1,h2,g1,g2⟩
          ·rw [h1] at h;cases h
         let K:Nat->zbn:=fun j=>@ite _ (own[j]?=some true\/∃i,(j,i)∈al) (Classical.propDecidable _) (cφ E (tvs.flatMap zW) j) Ka
         have hK1:∀j,zbk own j->K j=cφ E (tvs.flatMap zW) j:=fun j hj=>if_pos (.inl hj);have hK3:∀j i,(j,i)∈al->K j=cφ E (tvs.flatMap zW) j:=fun j i hj=>if_pos (.inr ⟨i,hj⟩);have hK2:∀j,¬ zbk own j->(∀i,(j,i)∉al)->K j=Ka:=fun j hj hn=>if_neg (fun h=>h.elim hj (fun ⟨i,hi⟩=>hn i hi));have hKown:∀j x,zbk own j->K j x->∃r∈ks,∃R,(tvs.flatMap zW)[j]?=some (.sl r [])/\st.root r=some R/\R.own=true/\E.φ r x:=by
          intro j x hj hx;rw [hK1 j hj] at hx;obtain ⟨a,ha,hx⟩:=zxp hx;rcases hB.get j a ha with ⟨_,r,R,rfl,g1,g2,g3,_⟩|⟨h,_⟩
          ·exact ⟨r,g3,R,ha,g1,g2,hx⟩
          ·rw [hj] at h;cases h
         have hargs':cl.args.map ({ tmps:=ts,defers:=[] }:Act).eval=(zcn (zfE tvs cs) xs).toArray:=by
          rw [<- hxm,<- Array.toList_map,Array.toArray_toList]
         intro next Q hnext;have hname':fn.name≠ "runtime.NumGoroutine":=by simpa using hname
         have hexec:(execOp ({ tmps:=ts,defers:=[] }:Act).eval o).run C.P w = .ok (.enter f (zcn (zfE tvs cs) xs).toArray) w:=by
          have hfe:({ tmps:=ts,defers:=[] }:Act).eval (.func f) = .func (.func f) #[] #[]:=rfl;simp [execOp,ho,resolve,hcb,Deferred.ofValue,invoke,callFunc,hf,hbd,hname',hargs',hfe]
         unfold Oper.wp;rw [hexec,Oper.upon_enter];have hcvl:(zI (zfE tvs cs)).length=cs.length:=by rw [hcv]
         refine (hHT w K (zfE tvs cs) xs rs (by rw [hcv,hB.len,hxl]) (by rw [hcv,hB.len,hB.olen]) (fun j c u hcj hu=>?_) (fun j x hj hx=>?_) (fun i j x hi hj ho hne hna hx hx'=>?_) (fun j i hji=>?_) hrun).mono ?_
         ·rw [hcv] at hcj;have hj:j<(tvs.flatMap zW).length:=by rw [<- hB.len];exact (List.getElem?_eq_some_iff.1 hcj).1
          have ha:=List.getElem?_eq_getElem hj;have hva:=hxv j _ u ha hu;rcases hB.get j _ ha with ⟨h1,r,R,h2,g1,g2,g3,g4⟩|⟨h1,d,g1,g2⟩
          ·rw [hcj] at g4;cases g4;have e:(own[j]?).getD false=true:=by rw [show own[j]?=some true from h1];rfl
           rw [h2] at hva ha;have:=hva.2 R g1;simp only [zbi,Option.some.injEq] at this;subst this;have hr:=hM.rep r R g1;rw [g2] at hr;rw [e];refine hr.weak (fun x hx=>?_);rw [hK1 j h1,zgJ ha];exact hx
          ·rw [hcj] at g2;cases g2;have e:(own[j]?).getD false=false:=by rw [h1];rfl
           by_cases hA:∃i,(j,i)∈al
           ·obtain ⟨i,hji⟩:=hA;obtain ⟨q,q1,q2,_,q4⟩:=zuP hali hji;rw [ha] at q1;have q1:=Option.some.inj q1;rw [q1] at ha hva g1;rcases hB.get i _ q2 with ⟨_,r,R,hrq,g3,g4,g5,g6⟩|⟨hb,_⟩
            rotate_left
            ·rw [show own[i]?=some true from q4] at hb;cases hb
            cases hrq;have hcq:st.cvOf (.sl q [])=some (.s R.t R.l):=by simp [St.cvOf,St.node,g3,zgG]
            rw [hcq] at g1;cases g1;have:=hva.2 R g3;simp only [zbi,Option.some.injEq] at this;subst this;rw [e,hK3 j i hji];exact ((hM.rep q R g3).weak (fun x hx=>by rw [zgJ ha];exact hx)).ro
           have hnA:∀i,(j,i)∉al:=fun i hi=>hA ⟨i,hi⟩;rw [e,hK2 j (fun h=>by rw [show own[j]?=some true from h] at h1;cases h1) hnA]
           exact zBm hS (ks:=ks) (fun r R x hR he hr hx=>⟨hM.rlt r R hR x hx,fun q hq hqx=>by
            obtain ⟨_,Q',_,_,_,hQ,hQo⟩:=hks q hq;exact hM.apart q Q' r R hQ hQo hR he (fun e=>hr (by rw [<- e];exact hq)) x hqx hx⟩) (zPD 0 own _ hfree j _ ha h1 (fun i=>by rw [Nat.zero_add];exact hnA i)) g1 hva
         ·by_cases hj':zbk own j
          ·obtain ⟨r,_,R,_,h2,_,h4⟩:=hKown j x hj' hx;exact hM.rlt r R h2 x h4
          ·by_cases hA:∃i,(j,i)∈al
           ·obtain ⟨i,hji⟩:=hA;obtain ⟨q,q1,q2,_,q4⟩:=zuP hali hji;rw [hK3 j i hji,zgJ q1] at hx;have hx2:K i x:=by rw [hK1 i q4,zgJ q2];exact hx
            obtain ⟨r,_,R,_,h2,_,h4⟩:=hKown i x q4 hx2;exact hM.rlt r R h2 x h4
           ·rw [hK2 j hj' (fun i hi=>hA ⟨i,hi⟩)] at hx;exact hx.1
         ·obtain ⟨r,hr,R,h1,h2,h3,h4⟩:=hKown i x ho hx
          by_cases hj':zbk own j
          ·obtain ⟨r',_,R',h1',h2',h3',h4'⟩:=hKown j x hj' hx';have:=hM.own_apart h2 h3 h2' h3' h4 h4';subst this;exact hne (hB.inj i j r ho hj' h1 h1')
          ·by_cases hA:∃i,(j,i)∈al
           ·obtain ⟨i',hji⟩:=hA;obtain ⟨q,q1,q2,_,q4⟩:=zuP hali hji;rw [hK3 j i' hji,zgJ q1] at hx';have hx2:K i' x:=by rw [hK1 i' q4,zgJ q2];exact hx'
            obtain ⟨r',_,R',h1',h2',h3',h4'⟩:=hKown i' x q4 hx2;have:=hM.own_apart h2 h3 h2' h3' h4 h4';subst this;have:=hB.inj i i' r ho q4 h1 h1';subst this;exact hna hji
           ·rw [hK2 j hj' (fun i hi=>hA ⟨i,hi⟩)] at hx';exact hx'.2 r hr h4
         ·obtain ⟨q,q1,q2,q3,q4⟩:=zuP hali hji;rcases hB.get i _ q2 with ⟨_,r,R,hrq,g3,g4,g5,g6⟩|⟨hb,_⟩
          rotate_left
          ·rw [show own[i]?=some true from q4] at hb;cases hb
          cases hrq;have hcj:cs[j]?=some (.s R.t R.l):=by
           rcases hB.get j _ q1 with ⟨ho,_⟩|⟨_,d,g1,g2⟩
           ·rw [show own[j]?=some true from ho] at q3;cases q3
           ·have hcq:st.cvOf (.sl q [])=some (.s R.t R.l):=by simp [St.cvOf,St.node,g3,zgG]
            rw [hcq] at g1;cases g1;exact g2
          rw [hcv];refine ⟨q3,q4,?_,by rw [hcj,g6],_,_,g6⟩
          have hj1:j<xs.length:=by rw [hxl];exact (List.getElem?_eq_some_iff.1 q1).1
          have hi1:i<xs.length:=by rw [hxl];exact (List.getElem?_eq_some_iff.1 q2).1
          have e1:=(hxv j _ _ q1 (List.getElem?_eq_getElem hj1)).2 R g3;have e2:=(hxv i _ _ q2 (List.getElem?_eq_getElem hi1)).2 R g3;simp only [zbi,Option.some.injEq] at e1 e2;rw [List.getElem?_eq_getElem hj1,List.getElem?_eq_getElem hi1,<- e1,<- e2]
         ·intro ex w' he;cases ex with
          | panicked chain=>exact he.elim
          | outgrown=>exact he.elim
          | returned v =>
           obtain ⟨hos,htp,hout,hsz,hkeep,ys,Kr,hys,rfl,hKrx,hKrd,hinp⟩:=he;rw [hcvl] at hkeep hKrx
           let E1:Env:={ E with ρ:=fun n=>if id<=n/\n<id+32 then (ys[n-id]?).getD undef else E.ρ n,φ:=fun n=>if id<=n/\n<id+32 then (fun x=>n-id<(zI rs).length/\Kr (n-id) x) else E.φ n }
           have hE1:∀n,U n->E1.ρ n=E.ρ n/\E1.φ n=E.φ n:=by
            intro n hn;have a1:¬ (id<=n/\n<id+32):=fun h=>hid n h hn;simp only [E1,if_neg a1,and_self]
           have hEb:∀n,id<=n->n<id+32->E1.ρ n=(ys[n-id]?).getD undef/\E1.φ n=fun x=>n-id<(zI rs).length/\Kr (n-id) x:=by
            intro n h1 h2;simp only [E1,if_pos (show id<=n/\n<id+32 from ⟨h1,h2⟩),and_self]
           generalize hst1:({ st with ro:=zdc true rs id++(killed st ks++st.ro),ep:=st.ep+1 }:St)=st1;have hst1ro:st1.ro=zdc true rs id++(killed st ks++st.ro):=by rw [<- hst1]
           have hst1lo:st1.lo=st.lo:=by rw [<- hst1]
           have hst1ep:st1.ep=st.ep+1:=by rw [<- hst1]
           have hβlt:∀l cs,zx st.lo l=some cs->E.β l<w.heap.size:=by
            intro l cs h;obtain ⟨_,vals,e,h2,_⟩:=hM.loc l cs h;exact (Array.getElem?_eq_some_iff.1 h2).1
           have hBr:∀r R,zx (zdc true rs id) r=some R->id<=r/\r<id+32/\r-id<(zI rs).length/\∃t l,(zI rs)[r-id]?=some (.s t l)/\R=⟨t,l,true,none⟩:=by
            intro r R hr;obtain ⟨h1,t,l',h3,h4⟩:=zg8 true rs id r R hr;have hlt:=(List.getElem?_eq_some_iff.1 h3).1;exact ⟨h1,by omega,hlt,t,l',h3,h4⟩
           have hro:∀r R,zx st1.ro r=some R->zx (zdc true rs id) r=some R\/(R.ep=some st.ep/\∃Q,zx st.ro r=some Q)\/(zx st.ro r=some R/\r∉ks):=by
            intro r R hr;rw [hst1ro,zbY] at hr;split at hr
            ·rename_i Q hQ;cases hr;exact .inl hQ
            ·rw [zbY] at hr;split at hr
             ·rename_i Q hQ;cases hr;exact .inr (.inl (zrt ks r _ hQ))
             ·rename_i hn;exact .inr (.inr ⟨hr,zoO ks r R hn hr⟩)
           have hroot2:∀r R,st1.root r=some R->zx (zdc true rs id) r=some R\/(st.root r=some R/\R.ep=none/\r∉ks/\U r):=by
            intro r R hr;obtain ⟨h1,h2⟩:=zbL hr;rw [hst1ep] at h2;rcases hro r R h1 with h|⟨h,_⟩|⟨h,hk⟩
            ·exact .inl h
            ·rcases h2 with h2|h2
             ·rw [h] at h2;cases h2
             ·rw [h] at h2;simp at h2
            ·rcases h2 with h2|h2
             ·exact .inr ⟨zhN h (.inl h2),h2,hk,hS.ids.ro r R h⟩
             ·have:=hM.epo r R _ h h2;omega
           have hfr:∀r R,st.root r=some R->R.ep=none->r∉ks->∀x,E.φ r x->w'.heap[x]?=w.heap[x]?:=by
            intro r R hR he hk x hx;refine hkeep x (hM.rlt r R hR x hx) (fun j hj ho hkx=>?_);obtain ⟨q,hq,Q',_,h1,h2,h3⟩:=hKown j x ho hkx;exact hM.apart q Q' r R h1 h2 hR he (fun e=>hk (by rw [<- e];exact hq)) x h3 hx
           have hnewx:∀x,(x<w'.heap.size/\((∃i,i<cs.length/\zbk own i/\K i x)\/w.heap.size<=x))->(S0 x\/w0.heap.size<=x)/\∀r R,st.root r=some R->R.ep=none->r∉ks->¬ E.φ r x:=by
            intro x ⟨h1,h3⟩;rcases h3 with ⟨i,hi,ho,hk⟩|h3
            ·obtain ⟨q,hq,Q',_,g1,g2,g3⟩:=hKown i x ho hk;exact ⟨(hM.mine q Q' g1 g2).2 x g3,fun r R hR he hk' hx=>hM.apart q Q' r R g1 g2 hR he (fun e=>hk' (by rw [<- e];exact hq)) x g3 hx⟩
            ·exact ⟨.inr (Nat.le_trans hM.size h3),fun r R hR he hk' hx=>by have:=hM.rlt r R hR x hx;omega⟩
           have hRrep:∀r R,zx (zdc true rs id) r=some R->Rep true w' (E1.ρ r) (.s R.t R.l) (E1.φ r):=by
            intro r R hr;obtain ⟨h1,h2,h3,t,l',h5,rfl⟩:=hBr r R hr;have hv:r-id<ys.length:=by rw [hys.1];exact h3
            have hu:=List.getElem?_eq_getElem hv;rw [(hEb r h1 h2).1,(hEb r h1 h2).2,hu];exact (hys.2 _ _ _ h5 hu).weak (fun x hx=>⟨h3,hx⟩)
           have hfoot:∀r R,zx (zdc true rs id) r=some R->∀x,E1.φ r x->x<w'.heap.size/\((∃i,i<cs.length/\zbk own i/\K i x)\/w.heap.size<=x):=by
            intro r R hr x hx;obtain ⟨h1,h2,h3,_⟩:=hBr r R hr;rw [(hEb r h1 h2).2] at hx;exact hKrx _ x hx.1 hx.2
           have hnew1:∀r R,zx (zdc true rs id) r=some R->R.own=true/\R.ep=none:=by
            intro r R hr;obtain ⟨_,_,_,t,l',_,rfl⟩:=hBr r R hr;exact ⟨rfl,rfl⟩
           have hT:Trans st E w st1 E1 w' U:=by
            refine ⟨fun r hU R1 hR1=>?_,fun l' hU cs1 h1=>⟨⟨cs1,by rw [hst1lo] at h1;exact h1⟩,rfl⟩,rfl⟩
            rcases hroot2 r R1 hR1 with h|⟨h1,h2,h3,h4⟩
            ·obtain ⟨g1,g2,_⟩:=hBr r R1 h;exact absurd hU (hid r ⟨g1,g2⟩)
            ·refine ⟨R1,h1,rfl,fun p u hp=>?_⟩;rw [(hE1 r hU).1,zcY p (hM.rep r R1 h1) (hfr r R1 h1 h2 h3)];exact hp
           have hMem:Mem w0 S0 st1 E1 w':=by
            refine ⟨hos.trans hM.os,htp.trans hM.tape,hout.trans hM.output,Nat.le_trans hM.size hsz,fun b hb hnS=>?_,fun r R hR=>?_,fun r R hR x hx=>?_,fun r R hR ho=>?_,fun r R r' R' hR ho hR' he hne x hx=>?_,fun l' cs1 hl'=>?_,fun l1 l2 c1 c2 h1 h2=>?_,fun l' cs1 r R hl' hR=>?_,fun r R ee hR he=>?_,hM.κ⟩
            ·refine (hkeep b (Nat.lt_of_lt_of_le hb hM.size) (fun j hj ho hk=>?_)).trans (hM.keep b hb hnS);obtain ⟨q,hq,Q',_,g1,g2,g3⟩:=hKown j b ho hk;rcases (hM.mine q Q' g1 g2).2 b g3 with h|h
             ·exact hnS h
             ·omega
            ·rcases hroot2 r R hR with h|⟨h1,h2,h3,h4⟩
             ·have:=hRrep r R h;rw [(hnew1 r R h).1];exact this
             ·rw [(hE1 r h4).1,(hE1 r h4).2];exact (hM.rep r R h1).frame (hfr r R h1 h2 h3)
            ·rcases hroot2 r R hR with h|⟨h1,h2,h3,h4⟩
             ·exact (hfoot r R h x hx).1
             ·rw [(hE1 r h4).2] at hx;exact Nat.lt_of_lt_of_le (hM.rlt r R h1 x hx) hsz
            ·rcases hroot2 r R hR with h|⟨h1,h2,h3,h4⟩
             ·exact ⟨(hnew1 r R h).2,fun x hx=>(hnewx x (hfoot r R h x hx)).1⟩
             ·rw [(hE1 r h4).2];exact hM.mine r R h1 ho
            ·rcases hroot2 r R hR with h|⟨h1,h2,h3,h4⟩
             ·rcases hroot2 r' R' hR' with h'|⟨h1',h2',h3',h4'⟩
              ·intro hx';obtain ⟨g1,g2,g3,_⟩:=hBr r R h;obtain ⟨g1',g2',g3',_⟩:=hBr r' R' h';rw [(hEb r g1 g2).2] at hx;rw [(hEb r' g1' g2').2] at hx';exact hKrd _ _ x g3 g3' (by omega) hx.2 hx'.2
              ·rw [(hE1 r' h4').2];exact (hnewx x (hfoot r R h x hx)).2 r' R' h1' h2' h3'
             ·rw [(hE1 r h4).2] at hx;rcases hroot2 r' R' hR' with h'|⟨h1',h2',h3',h4'⟩
              ·intro hx';exact (hnewx x (hfoot r' R' h' x hx')).2 r R h1 h2 h3 hx
              ·rw [(hE1 r' h4').2];exact hM.apart r R r' R' h1 ho h1' h2' hne x hx
            ·rw [hst1lo] at hl';obtain ⟨g1,vals1,e1,g2,g3,g4⟩:=hM.loc l' cs1 hl';refine ⟨g1,vals1,e1,(hkeep _ (hβlt l' cs1 hl') (fun j hj ho hk=>?_)).trans g2,g3,fun j b u hb hu=>⟨(g4 j b u hb hu).1,VA.tr hT (fun n hn=>(hS.ids.lo l' cs1 hl').2 b (List.mem_of_getElem? hb) n hn) (g4 j b u hb hu).2⟩⟩;obtain ⟨q,hq,Q',_,h1,h2,h3⟩:=hKown j _ ho hk;exact hM.lro l' cs1 q Q' hl' h1 h3
            ·rw [hst1lo] at h1 h2;exact hM.linj l1 l2 c1 c2 h1 h2
            ·rw [hst1lo] at hl';rcases hroot2 r R hR with h|⟨h1,h2,h3,h4⟩
             ·intro hx;obtain ⟨_,g3⟩:=hfoot r R h _ hx;rcases g3 with ⟨i,hi,ho,hk⟩|g3
              ·obtain ⟨q,hq,Q',_,q1,q2,q3⟩:=hKown i _ ho hk;exact hM.lro l' cs1 q Q' hl' q1 q3
              ·have:=hβlt l' cs1 hl';have e:E1.β l'=E.β l':=rfl;omega
             ·rw [(hE1 r h4).2];exact hM.lro l' cs1 r R hl' h1
            ·rw [hst1ep];rcases hro r R hR with h|⟨h,_⟩|⟨h,_⟩
             ·rw [(hnew1 r R h).2] at he;cases he
             ·rw [h] at he;cases he;omega
             ·have:=hM.epo r R ee h he;omega
           obtain ⟨g1,g2⟩:=zh8 (w:=w') (st:=st1) (E:=E1) rs ys id hys.1 (fun i c u hc hu=>by
            have hrep:=hys.2 i c u hc hu;refine ⟨?_,hrep.one⟩;have hlt:i<(zI rs).length:=(List.getElem?_eq_some_iff.1 hc).1;cases c with
            | i k n=>exact hrep.int_inv
            | b x=>exact hrep.bool_inv
            | s t l' =>
             obtain ⟨⟨a,cap,hv,_⟩,_⟩:=hrep.len;refine ⟨⟨a,_,cap,hv⟩,fun R hR=>?_⟩;have e:id+i-id=i:=by omega
             have:=(hEb (id+i) (by omega) (by omega)).1
             rw [e,hu] at this;simp only [zbi,this,Option.getD_some])
           have hro1:∀n R,zx st1.ro n=some R->U n\/Mine id n:=fun n R h=>by
            rcases hro n R h with h|⟨_,Q,h⟩|⟨h,_⟩
            ·obtain ⟨h1,h2,_⟩:=hBr n R h;exact .inr ⟨h1,h2⟩
            ·exact .inl (hS.ids.ro n Q h)
            ·exact .inl (hS.ids.ro n R h)
           have hvi:∀n∈(zla (zdu rs id)).ids,U n\/Mine id n:=fun n hn=>by
            simp only [MV.ids,List.mem_flatMap] at hn;obtain ⟨a,ha,hn⟩:=hn;obtain ⟨x,hx,ha⟩:=zzV ha;have:=zgc rs id n x a hx ha hn;exact .inr ⟨by omega,by omega⟩
           cases x with
           | none =>
            have hnx:=Sim.next (U1:=fun n=>U n\/Mine id n) hS hMem hT (by rw [<- hst1]) (by rw [<- hst1]) (fun n h=>.inl h) hro1
             (fun n cs1 hn=>by
              rw [hst1lo] at hn;exact ⟨.inl (hS.ids.lo n cs1 hn).1,fun a ha m hm=>.inl ((hS.ids.lo n cs1 hn).2 a ha m hm)⟩)
             (dst:=o.dst) (zxJ g1 g2) hvi
            subst hst1;exact hnext _ _ _ hnx
           | some y =>
            obtain ⟨q,n,js⟩:=y;unfold z0x at hren;split at hren
            ·cases hren
            ·rename_i ja jr js';split at hren
             ·rename_i q' hoj haj;simp only [Option.some.injEq,Prod.mk.injEq] at hren;obtain ⟨rfl,rfl,rfl⟩:=hren;rcases hB.get ja _ haj with ⟨_,r,R,h2,hR,hRo,hrk,hcs⟩|⟨h1,_⟩
              rotate_left
              ·rw [hoj] at h1;cases h1
              cases h2;have hja:ja<xs.length:=by rw [hxl];exact (List.getElem?_eq_some_iff.1 haj).1
              have hu:=List.getElem?_eq_getElem hja;obtain ⟨l',hl1,hl2,hl3⟩:=hinp ja jr js' rfl R.t R.l _ (by rw [hcv];exact hcs) hu
              have hjr:jr<(zI rs).length:=(List.getElem?_eq_some_iff.1 hl1).1;have hva:=(hxv ja _ _ haj hu).2 R hR;simp only [zbi,Option.some.injEq] at hva;have hsim:=z1c (U1:=fun n=>U n\/Mine id n) (q:=q') (n:=id+jr) (js:=js') hS hMem hT (by rw [<- hst1]) (by rw [<- hst1]) hst1lo (fun n h=>.inl h) hro1
               (fun l cs1 hl=>hkeep _ (hβlt l cs1 hl) (fun j hj ho hk=>by
                obtain ⟨q2,hq2,Q',_,h1,h2,h3⟩:=hKown j _ ho hk;exact hM.lro l cs1 q2 Q' hl h1 h3)) (.inr ⟨by omega,by omega⟩) (fun R1 hR1=>by
                rcases hroot2 _ R1 hR1 with h|⟨_,_,_,h4⟩
                ·obtain ⟨_,_,_,t2,l2,h5,rfl⟩:=hBr _ R1 h;have e:id+jr-id=jr:=by omega
                 rw [e,hl1] at h5;cases h5;refine ⟨R,hR,rfl,?_,?_⟩
                 ·rw [(hEb (id+jr) (by omega) (by omega)).1,e,hl2,hva]
                  rfl
                 ·rw [hva];exact hl3
                ·exact absurd h4 (hid _ ⟨by omega,by omega⟩))
              have hI:Trans st1 E1 w' (st1.ren (some (q',id+jr,js'))) E1 w' (fun _=>True) :=
               ⟨fun r _ R1 h1=>⟨R1,h1,rfl,fun _ _ h=>h⟩,fun l _ cs1 h1=>⟨by
                simp only [St.ren] at h1;rw [zi6] at h1;cases hl:zx st1.lo l with
                | none=>rw [hl] at h1;cases h1
                | some c=>exact ⟨c,rfl⟩,rfl⟩,rfl⟩
              have hput:=hsim.putV (dst:=o.dst) (VM.tr hI (fun _ _=>trivial) (zxJ g1 g2)) hvi;subst hst1;exact hnext _ _ _ hput
             ·cases hren
        ·cases h
       ·cases h
     ·cases h
    ·cases h
   ·cases h
  ·cases h
 ·cases h
theorem zZo (hC:CfgOk C)(hH:MctOk C)(hP:PctOk C)(hT:TctOk C):GraftOk C:=⟨zXU hC,zZy hH,zZJ hP,zZW hT⟩
end
section
variable {C:Cfg} {st st':St}
structure Agree (st st':St) (L:List Operand):Prop where
 ep:st'.ep=st.ep
 op:∀x∈L,st'.opnd x=st.opnd x
 id:∀x∈L,∀m,st.opnd x=some m->∀a∈zbU m,(∀n∈zbA a,zx st'.ro n=zx st.ro n)/\∀n∈zbB a,zx st'.lo n=zx st.lo n
variable {L:List Operand}
theorem Agree.at (h:Agree st st' L){x:Operand}(hx:x∈L):st'.at x=st.at x:=by
 unfold St.at;rw [h.op x hx]
theorem Agree.rootN (h:Agree st st' L){n:Nat}(hn:zx st'.ro n=zx st.ro n):st'.root n=st.root n:=by
 unfold St.root;rw [hn,h.ep]
def Held (st:St)(L:List Operand)(a:At):Prop:=∃x∈L,∃m,st.opnd x=some m/\a∈zbU m
theorem Agree.held (h:Agree st st' L){a:At}(ha:Held st L a):(∀n∈zbA a,zx st'.ro n=zx st.ro n)/\∀n∈zbB a,zx st'.lo n=zx st.lo n:=by
 obtain ⟨x,hx,m,hm,ha⟩:=ha;exact h.id x hx m hm a ha
theorem zd4 {x:Operand}{a:At}(hx:x∈L)(h:st.at x=some a):Held st L a:=⟨x,hx,_,zUP h,by simp [zbU,zW]⟩
theorem Agree.root (h:Agree st st' L){r:Nat}{p:List (Int×Nat)}(ha:Held st L (.sl r p)):st'.root r=st.root r :=
 h.rootN ((h.held ha).1 r (by simp [zbA]))
theorem Agree.node (h:Agree st st' L){r:Nat}{p:List (Int×Nat)}(ha:Held st L (.sl r p))(q:List (Int×Nat)):st'.node r q=st.node r q:=by
 unfold St.node;rw [h.root ha]
theorem Agree.rootE (h:Agree st st' L){r:Nat}{p:List (Int×Nat)}{i:Int}{o:Nat}(ha:Held st L (.ep r p i o)):st'.root r=st.root r :=
 h.rootN ((h.held ha).1 r (by simp [zbA]))
theorem Agree.nodeE (h:Agree st st' L){r:Nat}{p:List (Int×Nat)}{i:Int}{o:Nat}(ha:Held st L (.ep r p i o))(q:List (Int×Nat)):st'.node r q=st.node r q:=by
 unfold St.node;rw [h.rootE ha]
theorem Agree.loc (h:Agree st st' L){l o:Nat}(ha:Held st L (.lp l o)):zx st'.lo l=zx st.lo l :=
 (h.held ha).2 l (by simp [zbB])
theorem Agree.cvOf (h:Agree st st' L){a:At}(ha:Held st L a):st'.cvOf a=st.cvOf a:=by
 cases a with
 | sl r p=>exact h.node ha p
 | _=>rfl
theorem zmE {α β:Type}{f g:α->Option β}:∀{l:List α},(∀a∈l,f a=g a)->zcZ f l=zcZ g l
 | [],_=>rfl
 | a :: l,h=>by
  simp only [zcZ];rw [h a (by simp),zmE (l:=l) (fun b hb=>h b (by simp [hb]))]
theorem Agree.avOf (h:Agree st st' L){x:Operand}(hx:x∈L){m:MV}(hm:st.opnd x=some m):st'.avOf m=st.avOf m:=by
 cases m with
 | und=>rfl
 | tup l=>rfl
 | v y =>
  rcases y with a|l
  ·simp only [St.avOf];rw [h.cvOf ⟨x,hx,_,hm,by simp [zbU,zW]⟩]
  ·simp only [St.avOf];rw [zmE (f:=st'.cvOf) (g:=st.cvOf) (fun a ha=>h.cvOf ⟨x,hx,_,hm,by simpa [zbU,zW] using ha⟩)]
theorem Agree.give (h:Agree st st' L)(tgt:Option (Nat×List (Int×Nat)×Int)):∀(xs:List At) (j:Nat),(∀a∈xs,Held st L a)->st'.give tgt xs j=st.give tgt xs j
 | [],j,_=>rfl
 | a :: xs,j,hh=>by
  have ih:=Agree.give h tgt xs (j+1) (fun b hb=>hh b (by simp [hb]))
  have ha:=hh a (by simp)
  cases a with
  | sl r q =>
   cases q with
   | nil=>simp only [St.give,ih,h.root ha]
   | cons ij q=>simp only [St.give,ih,h.node ha]
  | _=>simp only [St.give,ih]
theorem Agree.giveV (h:Agree st st' L){x:Operand}(hx:x∈L){y:TV}(hm:st.opnd x=some (.v y))(tgt:Option (Nat×List (Int×Nat)×Int))(j:Nat):st'.give tgt (zW y) j=st.give tgt (zW y) j :=
 h.give tgt (zW y) j (fun a ha=>⟨x,hx,_,hm,by simpa [zbU] using ha⟩)
theorem Agree.layParts (h:Agree st st' L){T:TypeId}:∀(parts:List (Nat×Operand)) (cs:List At),(∀x∈parts,x.2∈L)->layParts C T st' parts cs=layParts C T st parts cs
 | [],_,_=>rfl
 | (f,x) :: r,cs,hp=>by
  simp only [E.layParts];rw [h.op x (hp (f,x) (by simp))]
  split
  ·split
   ·exact Agree.layParts h r _ (fun y hy=>hp y (by simp [hy]))
   ·rfl
  ·rfl
theorem Agree.rowParts (h:Agree st st' L){t:Ty}:∀(parts:List (Nat×Operand)) (l:List t.den) (ks:List Nat),(∀x∈parts,x.2∈L)->rowParts st' t parts l ks=rowParts st t parts l ks
 | [],_,_,_=>rfl
 | (i,x) :: r,l,ks,hp=>by
  have hx:=hp (i,x) (by simp)
  simp only [E.rowParts];rw [h.op x hx];cases hm:st.opnd x with
  | none=>rfl
  | some m =>
   cases m with
   | und=>rfl
   | tup _=>rfl
   | v y =>
    simp only;rw [h.giveV hx hm];split
    ·split
     ·split
      ·exact Agree.rowParts h r _ _ (fun y hy=>hp y (by simp [hy]))
      ·rfl
     ·rfl
    ·rfl
end
section
variable {C:Cfg} {st st':St}
theorem z1B {o:Oper}{id:Nat}{T:TypeId}{x:Operand}(hop:o.op = .load T x){L:List Operand}(hx:x∈L)(h:Agree st st' L):delta C st' o id=delta C st o id:=by
 have ax:=h.at hx;simp only [delta,hop,ax];cases hT:C.cty T with
 | none=>rfl
 | some ct =>
  cases e:st.at x with
  | none=>rfl
  | some a =>
   cases a with
   | lp l off=>simp only [h.loc (zd4 hx e)]
   | ep r p i off=>simp only [h.nodeE (zd4 hx e)]
   | _=>rfl
theorem z0L {o:Oper}{id:Nat}{T:TypeId}{a x:Operand}(hop:o.op = .store T a x){L:List Operand}(hx:x∈L)(ha:a∈L)(h:Agree st st' L):delta C st' o id=delta C st o id:=by
 have ax:=h.at ha;have ox:=h.op x hx;simp only [delta,hop,ax,ox];cases hT:C.cty T with
 | none=>rfl
 | some ct =>
  cases em:st.opnd x with
  | none=>rfl
  | some m =>
   cases m with
   | v y =>
    cases e:st.at a with
    | none=>rfl
    | some b =>
     cases b with
     | lp l off=>simp only [h.loc (zd4 ha e)]
     | ep r p i off=>simp only [h.rootE (zd4 ha e),h.nodeE (zd4 ha e),h.giveV hx em]
     | _=>rfl
   | _=>rfl
theorem zo0 (hep:st'.ep=st.ep):∀(ks:List Nat),(∀k∈ks,zx st'.ro k=zx st.ro k)->moved st' ks=moved st ks
 | [],_=>rfl
 | k :: ks,hk=>by
  simp only [moved];rw [hk k (by simp),hep,zo0 hep ks (fun q hq=>hk q (by simp [hq]))]
theorem z0K {o:Oper}{id:Nat}{T:TypeId}{x:Operand}{lo hi:Option Operand}(hop:o.op = .slice T x lo hi none){L:List Operand}(hx:x∈L)(hlo:∀y,lo=some y->y∈L)(hhi:∀y,hi=some y->y∈L)(h:Agree st st' L):delta C st' o id=delta C st o id:=by
 have ax:=h.at hx;have ep:=h.ep;have sub:∀R t l,zeW st' R t l=zeW st R t l:=fun R t l=>by simp only [zeW,ep]
 simp only [delta,hop,ax];cases e:st.at x with
 | none=>rfl
 | some a =>
  cases a with
  | sl r p =>
   simp only [h.root (zd4 hx e),h.node (zd4 hx e),sub];cases lo with
   | none =>
    cases hi with
    | none=>rfl
    | some y=>simp only [h.at (hhi y rfl)]
   | some z =>
    cases hi with
    | none =>
     have cut:∀R t l n,zI5 st' id r p R t l n=zI5 st id r p R t l n:=fun R t l n=>by
      unfold zI5;rw [zo0 h.ep [r] (fun k hk=>by
       simp only [List.mem_singleton] at hk;subst hk;exact (h.held (zd4 hx e)).1 k (by simp [zbA]))]
      simp only [sub]
     simp only [h.at (hlo z rfl),cut]
    | some y=>simp only [h.at (hlo z rfl),h.at (hhi y rfl)]
  | _=>rfl
theorem zZr {α:Type}{b:Bool}{x y:α}(h:(if b=true then some x else none)=some y):x=y:=by
 cases b with
 | true=>simpa using h
 | false=>simp at h
theorem zU9 {tgt:Option (Nat×List (Int×Nat)×Int)}:∀(xs:List At) (j:Nat) (c:Bool) (cs:List CV) (ks:List Nat),st.give tgt xs j=some (c,cs,ks)->∀k∈ks,At.sl k []∈xs
 | [],j,c,cs,ks,h,k,hk=>by
  simp only [St.give,Option.some.injEq,Prod.mk.injEq] at h;obtain ⟨_,_,rfl⟩:=h;simp at hk
 | a :: xs,j,c,cs,ks,h,k,hk=>by
  simp only [St.give] at h;split at h
  ·cases h
  ·rename_i c0 cs' ks' hg;have ih:=zU9 xs (j+1) c0 cs' ks' hg;split at h
   ·cases h;exact List.mem_cons_of_mem _ (ih k hk)
   ·cases h;exact List.mem_cons_of_mem _ (ih k hk)
   ·split at h
    ·have hh:=zZr h;cases hh;rcases List.mem_cons.1 hk with rfl|hk
     ·simp
     ·exact List.mem_cons_of_mem _ (ih k hk)
    ·cases h
   ·split at h
    ·split at h
     ·split at h
      ·cases h;exact List.mem_cons_of_mem _ (ih k hk)
      ·cases h
     ·cases h
    ·cases h
   ·cases h
theorem zD3 {t:Ty}:∀(parts:List (Nat×Operand)) (l:List t.den) (ks:List Nat) (l':List t.den) (ks':List Nat),rowParts st t parts l ks=some (l',ks')->∀k∈ks',k∈ks\/∃x∈parts,∃y,st.opnd x.2=some (.v y)/\At.sl k []∈zW y
 | [],l,ks,l',ks',h,k,hk=>by
  simp only [rowParts,Option.some.injEq,Prod.mk.injEq] at h;obtain ⟨_,rfl⟩:=h;exact .inl hk
 | (i,x) :: r,l,ks,l',ks',h,k,hk=>by
  simp only [rowParts] at h;split at h
  ·rename_i y hx;split at h
   ·rename_i cs k2 hg;split at h
    ·split at h
     ·rcases zD3 r _ _ l' ks' h k hk with h1|⟨z,hz,h1⟩
      ·rcases List.mem_append.1 h1 with h1|h1
       ·exact .inr ⟨(i,x),by simp,y,hx,zU9 _ _ _ _ _ hg k h1⟩
       ·exact .inl h1
      ·exact .inr ⟨z,by simp [hz],h1⟩
     ·cases h
    ·cases h
   ·cases h
  ·cases h
theorem zO5 {o:Oper}{id:Nat}{T:TypeId}{n:Nat}{parts:Array (Nat×Operand)}(hop:o.op = .buildSlice T n parts){L:List Operand}(hp:∀x∈parts.toList,x.2∈L)(h:Agree st st' L):delta C st' o id=delta C st o id:=by
 simp only [delta,hop];cases hT:C.sty T with
 | none=>rfl
 | some t =>
  simp only [h.rowParts parts.toList _ _ hp];cases e:rowParts st t parts.toList (List.replicate n t.dflt) [] with
  | none=>rfl
  | some lk =>
   obtain ⟨l,ks⟩:=lk;simp only;rw [zo0 h.ep ks (fun k hk=>by
    rcases zD3 _ _ _ _ _ e k hk with h1|⟨x,hx,y,hm,h1⟩
    ·simp at h1
    ·exact (h.held ⟨x.2,hp x hx,_,hm,by simpa [zbU] using h1⟩).1 k (by simp [zbA]))]
theorem c_call {o:Oper}{id:Nat}{c:Call}(hop:o.op = .call c){L:List Operand}(hp:∀x∈c.args.toList,x∈L)(h:Agree st st' L):delta C st' o id=delta C st o id:=by
 simp only [delta,hop];cases hcb:c.callee with
 | invoke r n=>rfl
 | value f =>
  cases f with
  | func f =>
   simp only;rw [zmE (g:=fun x=>match st.opnd x with|some v=>st.avOf v|none=>none) (l:=c.args.toList)]
   ·rfl
   intro x hx;simp only [h.op x (hp x hx)];cases e:st.opnd x with
   | none=>rfl
   | some m=>exact h.avOf (hp x hx) e
  | _=>rfl
 | builtin b =>
  cases b with
  | len =>
   simp only;split
   ·rename_i x T hca hct;have hx:=hp x (by rw [hca];simp)
    rw [h.at hx];cases e:st.at x with
    | none=>rfl
    | some a =>
     cases a with
     | sl r p=>simp only [h.node (zd4 hx e)]
     | _=>rfl
   ·rfl
  | min =>
   simp only;split
   ·rename_i x y hca;rw [h.at (hp x (by rw [hca];simp)),h.at (hp y (by rw [hca];simp))]
   ·rfl
  | max =>
   simp only;split
   ·rename_i x y hca;rw [h.at (hp x (by rw [hca];simp)),h.at (hp y (by rw [hca];simp))]
   ·rfl
  | append =>
   simp only;split
   ·rename_i x y T T2 hca hct;have hx:=hp x (by rw [hca];simp)
    have hy:=hp y (by rw [hca];simp)
    rw [h.at hx,h.at hy];split
    ·cases hT:C.sty T with
     | none=>rfl
     | some t =>
      cases e:st.at x with
      | none=>rfl
      | some a =>
       cases a with
       | sl r p =>
        cases p with
        | nil =>
         cases e2:st.at y with
         | none=>rfl
         | some b =>
          cases b with
          | sl r2 p2 =>
           simp only [h.root (zd4 hx e),h.root (zd4 hy e2),h.node (zd4 hy e2)];rw [zo0 h.ep (if t.flat=true then [r] else [r,r2]) (fun k hk=>by
            split at hk
            ·simp only [List.mem_singleton] at hk;subst hk;exact (h.held (zd4 hx e)).1 k (by simp [zbA])
            ·simp only [List.mem_cons,List.not_mem_nil,or_false] at hk;rcases hk with rfl|rfl
             ·exact (h.held (zd4 hx e)).1 k (by simp [zbA])
             ·exact (h.held (zd4 hy e2)).1 k (by simp [zbA]))]
          | _=>rfl
        | cons _ _=>rfl
       | _=>rfl
    ·rfl
   ·rfl
  | _=>rfl
theorem zSP {o:Oper}{id:Nat}(h:Agree st st' o.op.operands.toList):delta C st' o id=delta C st o id:=by
 cases hop:o.op<;>rw [hop] at h<;>simp only [Op.operands] at h
 case move x =>
  simp only [delta,hop];split
  ·rfl
  ·rfl
  ·rw [h.op x (by simp)]
 case assign x =>
  simp only [delta,hop];split
  ·rfl
  ·rfl
  ·rw [h.op x (by simp)]
 case pick c a b=>simp only [delta,hop,h.op a (by simp),h.op b (by simp),h.at (x:=c) (by simp)]
 case alloc T=>simp only [delta,hop]
 case box T x=>simp only [delta,hop,h.op x (by simp)]
 case build T parts =>
  simp only [delta,hop];have e:∀cs,layParts C T st' parts.toList cs=layParts C T st parts.toList cs:=fun cs=>h.layParts parts.toList cs (fun x hx=>by simp;exact ⟨x.1,by simpa using hx⟩)
  simp only [e]
 case load T x=>exact z1B hop (by simp) h
 case store T a x=>exact z0L hop (by simp) (by simp) h
 case nilCheck x=>simp only [delta,hop,h.at (x:=x) (by simp)]
 case binOp op T x y T2=>simp only [delta,hop,h.op x (by simp),h.op y (by simp)]
 case unOp op T x=>simp only [delta,hop,h.at (x:=x) (by simp)]
 case convert a b x=>simp only [delta,hop,h.at (x:=x) (by simp)]
 case makeFunc fn first caps =>
  cases fn with
  | func f =>
   simp only [delta,hop];rw [zmE (g:=fun x=>match st.at x with|some (.lp l 0)=>some l|_=>none) (l:=caps.toList)]
   ·rfl
   intro x hx;simp only [h.at (x:=x) (by simp;exact .inr (by simpa using hx))]
   rfl
  | _=>simp only [delta,hop]
 case makeSlice T x y=>simp only [delta,hop,h.at (x:=x) (by simp),h.at (x:=y) (by simp)]
 case slice T x lo hi mx =>
  cases mx with
  | none=>exact z0K hop (by simp) (fun y hy=>by simp [hy]) (fun y hy=>by simp [hy]) h
  | some m=>simp only [delta,hop]
 case fieldAddr T x f=>simp only [delta,hop,h.at (x:=x) (by simp)]
 case field T x f=>simp only [delta,hop,h.op x (by simp)]
 case index T x y =>
  cases x with
  | const v =>
   cases v with
   | string s=>simp only [delta,hop,h.at (x:=y) (by simp)]
   | _=>simp only [delta,hop]
  | _=>simp only [delta,hop]
 case indexAddr T x y =>
  have hx:x ∈ #[x,y].toList:=by simp
  simp only [delta,hop,h.at hx,h.at (x:=y) (by simp)]
  cases e:st.at x with
  | none=>rfl
  | some a =>
   cases a with
   | sl r p =>
    have hn:=h.node (zd4 hx e) p;cases e2:st.at y with
    | none=>rfl
    | some b =>
     cases b with
     | i k n=>cases k<;>first|rfl|(simp only [hn])
     | _=>rfl
   | _=>rfl
 case extract x j=>simp only [delta,hop,h.op x (by simp)]
 case call c=>exact c_call hop (fun x hx=>by simp only [Call.operands,Array.toList_append,List.mem_append];exact .inr hx) h
 case buildSlice T n parts=>exact zO5 hop (fun x hx=>by simp;exact ⟨x.1,by simpa using hx⟩) h
 all_goals simp only [delta,hop]
end
section
variable {C:Cfg} {w0 w w1:World} {S0:zbn} {U:Nat->Prop} {st st1:St} {E E1:Env} {ts:Array Value} {sv:List (Array Value)}
def zc1 (ops:Array Oper)(o:Oper)(st:St):Option Bool :=
 match o.guard with
 | none=>some true
 | some (j,want)=>match guardOf st ops j with
  | some .und=>some false
  | some (.v (.at (.b x)))=>some (x==want)
  | _=>none
theorem zSS {ops:Array Oper}{o:Oper}{run skip:St->Option Ans}{ans:Ans}(h:guarded ops o st run skip=some ans) :
 (zc1 ops o st=some true/\run st=some ans)\/(zc1 ops o st=some false/\skip (st.put o.dst .und)=some ans):=by
 unfold guarded at h;split at h
 ·rename_i hg;exact .inl ⟨by simp [zc1,hg],h⟩
 ·rename_i j want hg;split at h
  ·rename_i hm;exact .inr ⟨by simp [zc1,hg,hm],h⟩
  ·rename_i x hm;have hd:∃t,zhi ops j=some t/\st.tm[t]?=some (.v (.at (.b x))):=by
    unfold guardOf at hm;split at hm
    ·rename_i o' ho';split at hm
     ·rename_i t ht;exact ⟨t,by simp [zhi,ho',ht],hm⟩
     ·cases hm
    ·cases hm
   obtain ⟨t,h4,h3⟩:=hd;rw [h4] at h;cases x<;>cases want<;>simp only [cond_true,cond_false] at h<;>rw [zRW h3] at h
   ·exact .inl ⟨by simp [zc1,hg,hm],h⟩
   ·exact .inr ⟨by simp [zc1,hg,hm],h⟩
   ·exact .inr ⟨by simp [zc1,hg,hm],h⟩
   ·exact .inl ⟨by simp [zc1,hg,hm],h⟩
  ·cases h
theorem zBr (hS:Sim w0 S0 U st E ts sv w){ops:Array Oper}{o:Oper}{b:Bool}(h:zc1 ops o st=some b):Region.wanted o (yielded ops ts)=b:=by
 unfold zc1 at h;split at h
 ·rename_i hg;cases h;simp [Region.wanted,hg]
 ·rename_i j want hg;have hgo:∀{m:MV},guardOf st ops j=some m->∃o' t v,ops[j]?=some o'/\o'.dst=some t/\ts[t]?=some v/\VM w st E m v:=by
   intro m hm;unfold guardOf at hm;split at hm
   ·rename_i o' ho';split at hm
    ·rename_i t ht;have hlt:t<ts.size:=by rw [hS.tm.1];exact (List.getElem?_eq_some_iff.1 hm).1
     exact ⟨o',t,ts[t],ho',ht,by simp [hlt],hS.tm.2 t m _ hm (by simp [hlt])⟩
    ·cases hm
   ·cases hm
  split at h
  ·rename_i hm;cases h;obtain ⟨o',t,v,h1,h2,hv,hvm⟩:=hgo hm;simp only [VM] at hvm;subst hvm;have:yielded ops ts j=none:=by simp [yielded,h1,h2,hv,undef]
   simp [Region.wanted,hg,this]
  ·rename_i x hm;cases h;obtain ⟨o',t,v,h1,h2,hv,hvm⟩:=hgo hm;simp only [VM,VT,VA] at hvm;subst hvm;have hy:yielded ops ts j=some x:=by simp [yielded,h1,h2,hv]
   simp [Region.wanted,hg,hy]
  ·cases h
abbrev Step:=Option Dl
def St.step (st:St)(b:Bool)(o:Oper):Step->St
 | some d=>st.effD b o.dst d
 | none=>st.put o.dst .und
inductive Trace (C:Cfg) (ops:Array Oper) (b:Bool) (base:Nat):Nat->List Step->List (Nat×Foot)->St->St->Prop
 | nil (i:Nat) (st:St):Trace C ops b base i [] [] st st
 | run {i:Nat} {o:Oper} {d:Dl} {ss:List Step} {fs:List (Nat×Foot)} {st st':St} (ho:ops[i]?=some o) (hg:zc1 ops o st=some true) (hd:delta C st o (base+32*i)=some d) (hc:d.c=true)
  (h:Trace C ops b base (i+1) ss fs (st.effD b o.dst d) st'):Trace C ops b base i (some d :: ss) ((i,zfd st ops o d) :: fs) st st'
 | skip {i:Nat} {o:Oper} {ss:List Step} {fs:List (Nat×Foot)} {st st':St} (ho:ops[i]?=some o) (hg:zc1 ops o st=some false)
  (h:Trace C ops b base (i+1) ss fs (st.put o.dst .und) st'):Trace C ops b base i (none :: ss) ((i,zlo ops o) :: fs) st st'
theorem zp3 {ops:Array Oper}{cl:List (List Nat)}{b:Bool}{base m0:Nat}{k:St->Option Ans}{kl:App->St->Option Ans}{ans:Ans}:∀(m i:Nat) (fs:List (Nat×Foot)) (st:St),zrX C ops cl b base m0 k kl (List.range' i m) fs st=some ans ->
 (∃ss gs st',ss.length=m/\Trace C ops b base i ss gs st st'/\zrT cl (gs.reverse++fs)=true/\k st'=some ans) \/
 (∃ss gs st' o x,ss.length+1=m/\Trace C ops b base i ss gs st st'/\ops[i+ss.length]?=some o/\zoH C st' o=some (true,x)/\b=true/\zPS ops cl m0 (i+ss.length)=true/\x.dst<st'.tm.length /\
  zrT cl ((i+ss.length,zfd st' ops o zCe) :: (gs.reverse++fs))=true/\kl x (st'.put o.dst (.v (.at .bad)))=some ans)
 | 0,i,fs,st,h=>by
  simp only [List.range'_zero,zrX] at h;split at h
  ·rename_i hok;exact .inl ⟨[],[],st,rfl,.nil i st,by simpa using hok,h⟩
  ·cases h
 | m+1,i,fs,st,h=>by
  simp only [List.range'_succ,zrX] at h;split at h
  ·cases h
  ·rename_i o ho;have h0:=zSS h
   clear h
   rcases h0 with ⟨hg,h⟩|⟨hg,h⟩
   ·split at h
    ·rename_i d hd;cases hc:d.c with
     | false=>rw [hc] at h;cases h
     | true =>
      rw [hc] at h;simp only [cond_true] at h;rcases zp3 m (i+1) _ _ h with ⟨ss,gs,st',h1,h2,h3,h4⟩|⟨ss,gs,st',oA,x,h1,h2,h3,h4,h5,h6,h6b,h7,h8⟩
      ·exact .inl ⟨some d :: ss,(i,zfd st ops o d) :: gs,st',by simp [h1],.run ho hg hd hc h2,by simpa using h3,h4⟩
      ·have e:i+1+ss.length=i+(some d :: ss).length:=by simp only [List.length_cons];omega
       rw [e] at h3 h6 h7;exact .inr ⟨some d :: ss,(i,zfd st ops o d) :: gs,st',oA,x,by simp [<- h1],.run ho hg hd hc h2,h3,h4,h5,h6,h6b,by simpa using h7,h8⟩
    ·split at h
     ·rename_i c x hrest hap;split at h
      ·rename_i hcond;simp only [Bool.and_eq_true,decide_eq_true_eq] at hcond;obtain ⟨⟨⟨hb,hlo⟩,hlen⟩,hok⟩:=hcond;cases hc:c with
       | false=>rw [hc] at h;cases h
       | true =>
        rw [hc] at h hap;simp only [cond_true] at h;have hm:m=0:=by simpa using hrest
        subst hm;exact .inr ⟨[],[],st,o,x,rfl,.nil i st,ho,hap,hb,hlo,hlen,by simpa using hok,h⟩
      ·cases h
     ·cases h
   ·rcases zp3 m (i+1) _ _ h with ⟨ss,gs,st',h1,h2,h3,h4⟩|⟨ss,gs,st',oA,x,h1,h2,h3,h4,h5,h6,h6b,h7,h8⟩
    ·exact .inl ⟨none :: ss,(i,zlo ops o) :: gs,st',by simp [h1],.skip ho hg h2,by simpa using h3,h4⟩
    ·have e:i+1+ss.length=i+((none:Step) :: ss).length:=by simp only [List.length_cons];omega
     rw [e] at h3 h6 h7;exact .inr ⟨none :: ss,(i,zlo ops o) :: gs,st',oA,x,by simp [<- h1],.skip ho hg h2,h3,h4,h5,h6,h6b,by simpa using h7,h8⟩
end
inductive Key where
 | tm (t:Nat)
 | ro (n:Nat)
 | lo (n:Nat)
inductive Item where
 | tm (m:MV)
 | ro (R:Root)
 | lo (l:List At)
def St.get (st:St):Key->Option Item
 | .tm t=>st.tm[t]?.map .tm
 | .ro n=>(zx st.ro n).map .ro
 | .lo n=>(zx st.lo n).map .lo
def wr (o:Oper):Step->Key->Prop
 | _,.tm t=>o.dst=some t
 | none,_=>False
 | some d,.ro n=>n∈d.ro.map (·.1)
 | some d,.lo n=>n∈d.lo.map (·.1)
section
variable {st st':St} {b:Bool} {o:Oper}
theorem zBg {α:Type}:∀{l:List (Nat×α)} {n:Nat},n∉l.map (·.1)->zx l n=none
 | [],_,_=>rfl
 | (k,v) :: l,n,h=>by
  simp only [List.map_cons,List.mem_cons,not_or] at h;simp only [zx];rw [if_neg (by simp;exact fun e=>h.1 e.symm)]
  exact zBg h.2
theorem zBh {α:Type}:∀{l:List (Nat×α)} {n:Nat},n∈l.map (·.1)->∃v,zx l n=some v
 | [],_,h=>by simp at h
 | (k,v) :: l,n,h=>by
  simp only [zx];split
  ·exact ⟨v,rfl⟩
  ·rename_i hne;simp only [beq_iff_eq] at hne;simp only [List.map_cons,List.mem_cons] at h;exact zBh (h.resolve_left (fun e=>hne e.symm))
theorem zYu {m:MV}{d:Option Tmp}:(st.put d m).ro=st.ro:=by cases d<;>rfl
theorem zYt {m:MV}{d:Option Tmp}:(st.put d m).lo=st.lo:=by cases d<;>rfl
theorem zYs {m:MV}{d:Option Tmp}:(st.put d m).ep=st.ep:=by cases d<;>rfl
theorem zVo {m:MV}{d:Option Tmp}:(st.put d m).stk=st.stk:=by cases d<;>rfl
theorem zVn {m:MV}{d:Option Tmp}:(st.put d m).tm.length=st.tm.length:=by cases d<;>simp [St.put]
theorem zYv {m:MV}{d:Option Tmp}{t:Nat}:(st.put d m).tm[t]?=if d=some t then (if t<st.tm.length then some m else none) else st.tm[t]?:=by
 cases d with
 | none=>simp [St.put]
 | some e =>
  simp only [St.put,List.getElem?_set,Option.some.injEq];split
  ·rename_i e;subst e;rfl
  ·rfl
def dv:Step->MV
 | some d=>d.v
 | none=>.und
theorem zVy {s:Step}{t:Nat}:(st.step b o s).tm[t]?=if o.dst=some t then (if t<st.tm.length then some (dv s) else none) else st.tm[t]?:=by
 cases s with
 | none=>exact zYv
 | some d=>exact zYv (st:={ st with lo:=d.lo++st.lo,ro:=d.ro.map (fun (x:Nat×Root)=>(x.1,zeK b x.2))++st.ro })
theorem zZU {s:Step}:(st.step b o s).tm.length=st.tm.length:=by
 cases s with
 | none=>exact zVn
 | some d=>exact zVn (st:={ st with lo:=d.lo++st.lo,ro:=d.ro.map (fun (x:Nat×Root)=>(x.1,zeK b x.2))++st.ro })
theorem zLD {s:Step}:(st.step b o s).ep=st.ep:=by
 cases s with
 | none=>exact zYs
 | some d=>exact zYs (st:={ st with lo:=d.lo++st.lo,ro:=d.ro.map (fun (x:Nat×Root)=>(x.1,zeK b x.2))++st.ro })
theorem zR8 {s:Step}:(st.step b o s).stk=st.stk:=by
 cases s with
 | none=>exact zVo
 | some d=>exact zVo (st:={ st with lo:=d.lo++st.lo,ro:=d.ro.map (fun (x:Nat×Root)=>(x.1,zeK b x.2))++st.ro })
theorem zZV {s:Step}:(st.step b o s).nid=st.nid:=by
 cases s with
 | none=>exact zeV
 | some d=>exact zeV (st:={ st with lo:=d.lo++st.lo,ro:=d.ro.map (fun (x:Nat×Root)=>(x.1,zeK b x.2))++st.ro })
def dro (b:Bool):Step->List (Nat×Root)
 | some d=>d.ro.map (fun (x:Nat×Root)=>(x.1,zeK b x.2))
 | none=>[]
def dlo:Step->List (Nat×List At)
 | some d=>d.lo
 | none=>[]
theorem zLE {s:Step}:(st.step b o s).ro=dro b s++st.ro:=by
 cases s with
 | none=>exact zYu
 | some d=>exact zYu (st:={ st with lo:=d.lo++st.lo,ro:=d.ro.map (fun (x:Nat×Root)=>(x.1,zeK b x.2))++st.ro })
theorem zVx {s:Step}:(st.step b o s).lo=dlo s++st.lo:=by
 cases s with
 | none=>exact zYt
 | some d=>exact zYt (st:={ st with lo:=d.lo++st.lo,ro:=d.ro.map (fun (x:Nat×Root)=>(x.1,zeK b x.2))++st.ro })
theorem z0F {s:Step}{n:Nat}:wr o s (.ro n)↔n∈(dro b s).map (·.1):=by
 cases s with
 | none=>simp [wr,dro]
 | some d=>simp [wr,dro,List.map_map,Function.comp_def]
theorem z0E {s:Step}{n:Nat}:wr o s (.lo n)↔n∈(dlo s).map (·.1):=by
 cases s with
 | none=>simp [wr,dlo]
 | some d=>simp [wr,dlo]
theorem step_other {s:Step}{κ:Key}(h:¬ wr o s κ):(st.step b o s).get κ=st.get κ:=by
 cases κ with
 | tm t =>
  have h':¬ o.dst=some t:=by cases s<;>exact h
  simp only [St.get,zVy,if_neg h']
 | ro n =>
  rw [z0F (b:=b)] at h;simp only [St.get,zLE,zbY,zBg h]
 | lo n =>
  rw [z0E] at h;simp only [St.get,zVx,zbY,zBg h]
theorem zB7 {s:Step}{κ:Key}(h:wr o s κ)(hl:st.tm.length=st'.tm.length):(st.step b o s).get κ=(st'.step b o s).get κ:=by
 cases κ with
 | tm t =>
  have h':o.dst=some t:=by cases s<;>exact h
  simp only [St.get,zVy,if_pos h',hl]
 | ro n =>
  rw [z0F (b:=b)] at h;obtain ⟨v,hv⟩:=zBh h;simp only [St.get,zLE,zbY,hv]
 | lo n =>
  rw [z0E] at h;obtain ⟨v,hv⟩:=zBh h;simp only [St.get,zVx,zbY,hv]
theorem zXu {s:Step}{κ:Key}(hl:st.tm.length=st'.tm.length)(h:st.get κ=st'.get κ):(st.step b o s).get κ=(st'.step b o s).get κ:=by
 by_cases hw:wr o s κ
 ·exact zB7 hw hl
 ·rw [step_other hw,step_other hw,h]
def zbI (ops:Array Oper)(b:Bool)(X:Nat->Bool):Nat->List Step->St->St
 | _,[],st=>st
 | i,s :: ss,st=>zbI ops b X (i+1) ss (if X i then (match ops[i]? with|some o=>st.step b o s|none=>st) else st)
def one (ops:Array Oper)(b:Bool)(X:Nat->Bool)(i:Nat)(s:Step)(st:St):St:=if X i then (match ops[i]? with|some o=>st.step b o s|none=>st) else st
theorem zCG {ops:Array Oper}{X:Nat->Bool}{i:Nat}{s:Step}:(one ops b X i s st).tm.length=st.tm.length:=by
 unfold one;split
 ·split
  ·exact zZU
  ·rfl
 ·rfl
theorem zlu {ops:Array Oper}{X:Nat->Bool}:∀(ss:List Step) (i:Nat) (st:St),(zbI ops b X i ss st).tm.length=st.tm.length
 | [],_,_=>rfl
 | s :: ss,i,st=>(zlu ss (i+1) _).trans (zCG (X:=X) (i:=i) (s:=s))
theorem zoJ {ops:Array Oper}{X Y:Nat->Bool}{κ:Key}:∀(ss:List Step) (i:Nat) (st st':St),st.tm.length=st'.tm.length->st.get κ=st'.get κ ->
 (∀(k:Nat) (s:Step) (o:Oper),ss[k]?=some s->ops[i+k]?=some o->X (i+k)≠Y (i+k)->¬ wr o s κ)->(zbI ops b X i ss st).get κ=(zbI ops b Y i ss st').get κ
 | [],_,_,_,_,h,_=>h
 | s :: ss,i,st,st',hl,h,hw=>by
  have h0:(one ops b X i s st).get κ=(one ops b Y i s st').get κ:=by
   unfold one;cases ho:ops[i]? with
   | none=>cases X i<;>cases Y i<;>exact h
   | some o =>
    have hw0:=hw 0 s o rfl ho;simp only [Nat.add_zero] at hw0;cases hX:X i<;>cases hY:Y i<;>rw [hX,hY] at hw0
    ·exact h
    ·simp only [if_true,Bool.false_eq_true,if_false];rw [step_other (hw0 (by simp)),h]
    ·simp only [if_true,Bool.false_eq_true,if_false];rw [step_other (hw0 (by simp)),h]
    ·exact zXu hl h
  exact zoJ ss (i+1) _ _ (((zCG (b:=b) (ops:=ops) (X:=X) (i:=i) (s:=s) (st:=st)).trans hl).trans (zCG (b:=b) (ops:=ops) (X:=Y) (i:=i) (s:=s) (st:=st')).symm) h0 (fun k s' o' hk ho hne=>hw (k+1) s' o' (by simpa using hk) (by rw [<- ho];congr 1;omega) (by
   have e:i+(k+1)=i+1+k:=by omega
   rw [e];exact hne))
end
section
variable {st st':St} {b:Bool} {o:Oper}
theorem zGu {ops:Array Oper}{X:Nat->Bool}{κ:Key}:∀(ss:List Step) (i:Nat) (st:St),
 (∀(k:Nat) (s:Step) (o:Oper),ss[k]?=some s->ops[i+k]?=some o->X (i+k)=true->¬ wr o s κ)->(zbI ops b X i ss st).get κ=st.get κ
 | [],_,_,_=>rfl
 | s :: ss,i,st,hw=>by
  have h0:(one ops b X i s st).get κ=st.get κ:=by
   unfold one;split
   ·rename_i hX;split
    ·rename_i o ho;exact step_other (hw 0 s o rfl ho hX)
    ·rfl
   ·rfl
  exact (zGu ss (i+1) _ (fun k s' o' hk ho hX=>hw (k+1) s' o' (by simpa using hk) (by rw [<- ho];congr 1;omega) (by
   have e:i+(k+1)=i+1+k:=by omega
   rw [e];exact hX))).trans h0
theorem zPC {ops:Array Oper}{X:Nat->Bool}{j:Nat}{s:Step}(hX:X j=true)(ho:ops[j]?=some o){κ:Key}(hκ:wr o s κ):∀(ss:List Step) (i:Nat) (st:St),i<=j->ss[j-i]?=some s ->
 (∀(k:Nat) (s':Step) (o':Oper),ss[k]?=some s'->ops[i+k]?=some o'->j<i+k->X (i+k)=true->¬ wr o' s' κ)->(zbI ops b X i ss st).get κ=(st.step b o s).get κ
 | [],i,st,_,h,_=>by simp at h
 | s' :: ss,i,st,hij,h,hw=>by
  have later:∀(k:Nat) (s2:Step) (o2:Oper),ss[k]?=some s2->ops[i+1+k]?=some o2->j<i+1+k->X (i+1+k)=true->¬ wr o2 s2 κ:=by
   intro k s2 o2 hk ho2 hlt hX2;have e:i+(k+1)=i+1+k:=by omega
   exact hw (k+1) s2 o2 (by simpa using hk) (by rw [e];exact ho2) (by omega) (by rw [e];exact hX2)
  by_cases he:i=j
  ·subst he;simp only [Nat.sub_self,List.getElem?_cons_zero,Option.some.injEq] at h;subst h;have h1:=zGu (b:=b) (ops:=ops) (X:=X) (κ:=κ) ss (i+1) (one ops b X i s' st) (fun k s2 o2 hk ho2 hX2=>later k s2 o2 hk ho2 (by omega) hX2)
   have h2:one ops b X i s' st=st.step b o s':=by simp only [one,hX,ho,if_true]
   rw [h2] at h1
   show (zbI ops b X (i+1) ss (one ops b X i s' st)).get κ=_
   rw [h2];exact h1
  ·have e:j-i=(j-(i+1))+1:=by omega
   rw [e,List.getElem?_cons_succ] at h;have h1:=zPC hX ho hκ ss (i+1) (one ops b X i s' st) (by omega) h later
   exact h1.trans (zB7 hκ zCG)
theorem zXO {ops:Array Oper}{X Y:Nat->Bool}{a j:Nat}{s:Step}(hY:∀i,Y i=(X i||i==a+j))(ho:ops[a+j]?=some o){ss:List Step}{st:St}(hs:ss[j]?=some s)(hw:∀(k:Nat) (s':Step) (o':Oper),ss[k]?=some s'->ops[a+k]?=some o'->j<k->X (a+k)=true->∀κ,wr o s κ->¬ wr o' s' κ)(κ:Key) :
 (zbI ops b Y a ss st).get κ=((zbI ops b X a ss st).step b o s).get κ:=by
 by_cases hκ:wr o s κ
 ·rw [zPC (X:=Y) (j:=a+j) (s:=s) (by rw [hY];simp) ho hκ ss a st (Nat.le_add_right _ _) (by rw [Nat.add_sub_cancel_left];exact hs) (fun k s' o' hk ho' hlt hYk=>by
   refine hw k s' o' hk ho' (by omega) ?_ κ hκ
   rw [hY] at hYk;have:(a+k==a+j)=false:=by simp;omega
   rw [this,Bool.or_false] at hYk;exact hYk)]
  exact zB7 hκ (zlu ss a st).symm
 ·rw [step_other hκ];refine zoJ ss a st st rfl rfl (fun k s' o' hk ho' hne=>?_);have:k=j:=by
   rw [hY] at hne
   by_cases hkj:k=j
   ·exact hkj
   ·have:(a+k==a+j)=false:=by simp [hkj]
    simp [this] at hne
  subst this;rw [ho] at ho';cases ho';rw [hs] at hk;cases hk;exact hκ
end
section
variable {C:Cfg} {w0 w w1:World} {S0:zbn} {U:Nat->Prop} {st st':St} {E E1:Env} {ts:Array Value} {sv:List (Array Value)}
theorem zGB {t:Nat}(h:st'.get (.tm t)=st.get (.tm t)):st'.tm[t]?=st.tm[t]?:=by
 simp only [St.get] at h;cases h1:st'.tm[t]? <;> cases h2:st.tm[t]? <;> rw [h1,h2] at h<;>simp at h
 ·rw [h]
theorem zGA {n:Nat}(h:st'.get (.ro n)=st.get (.ro n)):zx st'.ro n=zx st.ro n:=by
 simp only [St.get] at h;cases h1:zx st'.ro n<;>cases h2:zx st.ro n<;>rw [h1,h2] at h<;>simp at h
 ·rw [h]
theorem zGz {n:Nat}(h:st'.get (.lo n)=st.get (.lo n)):zx st'.lo n=zx st.lo n:=by
 simp only [St.get] at h;cases h1:zx st'.lo n<;>cases h2:zx st.lo n<;>rw [h1,h2] at h<;>simp at h
 ·rw [h]
theorem Sim.fewer (hS:Sim w0 S0 U st E ts sv w)(htm:∀t:Nat,st'.tm[t]?=st.tm[t]?)(hlo:∀n,zx st'.lo n=zx st.lo n)(hstk:st'.stk=st.stk)(hro:∀n R,st'.root n=some R->st.root n=some R)(hin:∀n R,zx st'.ro n=some R->∃R',zx st.ro n=some R')(hep:∀n R e,zx st'.ro n=some R->R.ep=some e->e<=st'.ep):Sim w0 S0 U st' E ts sv w:=by
 have hM:=hS.mem;have T:Trans st E w st' E w (fun _=>True):=⟨fun r _ R1 h=>⟨R1,hro r R1 h,rfl,fun _ _ h=>h⟩,fun l _ cs h=>⟨⟨cs,by rw [<- hlo];exact h⟩,rfl⟩,rfl⟩
 have hlist:st'.tm=st.tm:=List.ext_getElem? htm;refine ⟨⟨hM.os,hM.tape,hM.output,hM.size,hM.keep,fun r R h=>hM.rep r R (hro r R h),fun r R h=>hM.rlt r R (hro r R h),fun r R h=>hM.mine r R (hro r R h),
  fun r R r' R' h1 h2 h3=>hM.apart r R r' R' (hro r R h1) h2 (hro r' R' h3),fun l cs hl=>?_,fun l l' cs cs' h1 h2=>hM.linj l l' cs cs' (by rw [<- hlo];exact h1) (by rw [<- hlo];exact h2),
  fun l cs r R h1 h2=>hM.lro l cs r R (by rw [<- hlo];exact h1) (hro r R h2),hep,hM.κ⟩,⟨fun n R hn=>?_,fun n cs hn=>hS.ids.lo n cs (by rw [<- hlo];exact hn),fun m hm=>hS.ids.tm m (by rw [<- hlist];exact hm),fun f hf=>hS.ids.stk f (by rw [<- hstk];exact hf)⟩,?_,?_⟩
 ·obtain ⟨h1,vals,e,h2,h3,h4⟩:=hM.loc l cs (by rw [<- hlo];exact hl)
  exact ⟨h1,vals,e,h2,h3,fun j c u hc hu=>⟨(h4 j c u hc hu).1,VA.tr T (fun _ _=>trivial) (h4 j c u hc hu).2⟩⟩
 ·obtain ⟨R',hR'⟩:=hin n R hn;exact hS.ids.ro n R' hR'
 ·rw [hlist];exact Slots.tr T (fun _ _ _ _=>trivial) hS.tm
 ·rw [hstk];exact Stack.tr T (fun _ _ _ _ _ _=>trivial) hS.stk
theorem Sim.same (hS:Sim w0 S0 U st E ts sv w)(hg:∀κ,st'.get κ=st.get κ)(hstk:st'.stk=st.stk)(hep:st'.ep=st.ep):Sim w0 S0 U st' E ts sv w:=by
 have hr:∀n,zx st'.ro n=zx st.ro n:=fun n=>zGA (hg (.ro n));refine hS.fewer (fun t=>zGB (hg (.tm t))) (fun n=>zGz (hg (.lo n))) hstk (fun n R h=>?_) (fun n R h=>⟨R,by rw [<- hr];exact h⟩) (fun n R e h he=>by rw [hep];exact hS.mem.epo n R e (by rw [<- hr];exact h) he)
 simpa only [St.root,hr,hep] using h
end
section
variable {C:Cfg} {ops:Array Oper} {b:Bool} {base:Nat}
def waits (ops:Array Oper)(acc:List (List Nat))(i:Nat):List Nat :=
 match ops[i]? with
 | some o=>o.after.toList.flatMap fun e=>if Region.binds .any e then e.on :: (acc.getD e.on []) else []
 | none=>[]
theorem zI1 (i:Nat)(r:List Nat)(acc:List (List Nat)):zgW ops (i :: r) acc=zgW ops r (acc++[waits ops acc i]):=rfl
theorem zxm:∀(m:Nat) (acc:List (List Nat)),∃l,zgW ops (List.range' acc.length m) acc=acc++l/\l.length=m /\
 ∀k,k<m->(acc++l)[acc.length+k]?=some (waits ops ((acc++l).take (acc.length+k)) (acc.length+k))
 | 0,acc=>⟨[],by simp [zgW],rfl,fun k hk=>by omega⟩
 | m+1,acc=>by
  obtain ⟨l,h1,h2,h3⟩:=zxm m (acc++[waits ops acc acc.length]);have hlen:(acc++[waits ops acc acc.length]).length=acc.length+1:=by simp
  rw [hlen] at h1 h3;refine ⟨waits ops acc acc.length :: l,?_,by simp [h2],fun k hk=>?_⟩
  ·rw [List.range'_succ,zI1,h1];simp
  ·have e:acc++waits ops acc acc.length :: l=(acc++[waits ops acc acc.length])++l:=by simp
   cases k with
   | zero =>
    rw [Nat.add_zero,List.getElem?_append_right (Nat.le_refl _),Nat.sub_self,List.take_left' rfl];rfl
   | succ k =>
    have e2:acc.length+(k+1)=acc.length+1+k:=by omega
    rw [e,e2];exact h3 k (by omega)
theorem zVO {i:Nat}(hi:i<ops.size):(zgW ops (List.range ops.size) []).getD i []=waits ops ((zgW ops (List.range ops.size) []).take i) i:=by
 obtain ⟨l,h1,h2,h3⟩:=zxm (ops:=ops) ops.size [];simp only [List.length_nil,List.nil_append,Nat.zero_add] at h1 h3;rw [List.range_eq_range',h1,List.getD_eq_getElem?_getD,h3 i hi];rfl
structure Pinned (n:Nat) (cl:List (List Nat)) (m:Nat):Prop where
 full:∀j,j<m->j∈cl.getD m []
 wait:∀k,m<k->k<n->m∈cl.getD k []
theorem zwI {n m:Nat}{cl:List (List Nat)}(h:pinned n cl m=true):Pinned n cl m:=by
 unfold pinned zXS at h;simp only [Bool.and_eq_true,List.all_eq_true,List.mem_range,List.contains_eq_mem,decide_eq_true_eq,List.mem_range'] at h;refine ⟨h.1,fun k h1 h2=>h.2 k ⟨k-(m+1),by omega,by omega⟩⟩
theorem zpp {n m:Nat}{cl:List (List Nat)}{p:Bool}{r:List Bool}(h:p :: r=(zgA n cl).drop m):m<n/\p=pinned n cl m/\r=(zgA n cl).drop (m+1):=by
 have hlt:m<(zgA n cl).length:=by
  rcases Nat.lt_or_ge m (zgA n cl).length with h'|h'
  ·exact h'
  ·rw [List.drop_eq_nil_of_le h'] at h;cases h
 rw [List.drop_eq_getElem_cons hlt] at h;simp only [List.cons.injEq] at h;refine ⟨by simpa [zgA] using hlt,?_,h.2⟩
 rw [h.1];simp [zgA]
theorem zRU {n m:Nat}{cl:List (List Nat)}(h:[]=(zgA n cl).drop m):n<=m:=by
 have:=List.drop_eq_nil_iff.1 h.symm;simpa [zgA] using this
theorem zMe {n:Nat}{cl:List (List Nat)}:∀(r:List Bool) (m:Nat),m<=n->r=(zgA n cl).drop m ->
 m+zch r<=n/\r.drop (zch r)=(zgA n cl).drop (m+zch r)/\(m+zch r<n->Pinned n cl (m+zch r))
 | [],m,hm,h=>by
  have:=zRU h;refine ⟨by simp [zch];omega,by simpa [zch] using h,fun hlt=>?_⟩
  simp [zch] at hlt;omega
 | true :: r,m,hm,h=>by
  obtain ⟨h1,h2,_⟩:=zpp h;refine ⟨by simp [zch];omega,by simpa [zch] using h,fun _=>?_⟩
  simp only [zch,Nat.add_zero];exact zwI h2.symm
 | false :: r,m,hm,h=>by
  obtain ⟨h1,_,h3⟩:=zpp h;obtain ⟨g1,g2,g3⟩:=zMe r (m+1) (by omega) h3
  have e:m+zch (false :: r)=m+1+zch r:=by simp only [zch];omega
  rw [e];refine ⟨g1,?_,g3⟩;rw [<- g2];rfl
theorem zuW {X:Nat->Bool}:∀(ss:List Step) (i:Nat) (st:St),(∀k,i<=k->X k=false)->zbI ops b X i ss st=st
 | [],_,_,_=>rfl
 | s :: ss,i,st,h=>by
  simp only [zbI];rw [h i (Nat.le_refl _)];simp only [Bool.false_eq_true,if_false];exact zuW ss (i+1) st (fun k hk=>h k (by omega))
theorem zoK {X Y:Nat->Bool}:∀(ss:List Step) (i:Nat) (st:St),(∀k,i<=k->k<i+ss.length->X k=Y k)->zbI ops b X i ss st=zbI ops b Y i ss st
 | [],_,_,_=>rfl
 | s :: ss,i,st,h=>by
  simp only [zbI];rw [h i (Nat.le_refl _) (by simp)]
  exact zoK ss (i+1) _ (fun k hk hlt=>h k (by omega) (by simp only [List.length_cons];omega))
def At1 (C:Cfg)(ops:Array Oper)(base i:Nat)(o:Oper)(S:St)(f:Foot):Step->Prop
 | some d=>zc1 ops o S=some true/\delta C S o (base+32*i)=some d/\d.c=true/\f=zfd S ops o d
 | none=>zc1 ops o S=some false/\f=zlo ops o
theorem zSB {i:Nat}{ss:List Step}{fs:List (Nat×Foot)}{st st':St}(h:Trace C ops b base i ss fs st st'):∀(k:Nat) (s:Step),ss[k]?=some s ->
 ∃o f,ops[i+k]?=some o/\(i+k,f)∈fs/\At1 C ops base (i+k) o (zbI ops b (fun j=>decide (j<i+k)) i ss st) f s:=by
 induction h with
 | nil i st=>intro k s hs;simp at hs
 | run ho hg hd hc h ih =>
  rename_i i o d ss fs st st';intro k s hs;cases k with
  | zero =>
   simp only [List.getElem?_cons_zero,Option.some.injEq] at hs;subst hs;refine ⟨o,_,ho,List.mem_cons_self,?_⟩;rw [zuW _ _ _ (fun k hk=>by simp;omega)]
   exact ⟨hg,hd,hc,rfl⟩
  | succ k =>
   obtain ⟨o',f,h1,h2,h3⟩:=ih k s (by simpa using hs)
   have e:i+(k+1)=i+1+k:=by omega
   refine ⟨o',f,by rw [e];exact h1,by rw [e];exact List.mem_cons_of_mem _ h2,?_⟩
   rw [e];simp only [zbI,ho];rw [if_pos (by simp;omega)]
   exact h3
 | skip ho hg h ih =>
  rename_i i o ss fs st st';intro k s hs;cases k with
  | zero =>
   simp only [List.getElem?_cons_zero,Option.some.injEq] at hs;subst hs;refine ⟨o,_,ho,List.mem_cons_self,?_⟩;rw [zuW _ _ _ (fun k hk=>by simp;omega)]
   exact ⟨hg,rfl⟩
  | succ k =>
   obtain ⟨o',f,h1,h2,h3⟩:=ih k s (by simpa using hs)
   have e:i+(k+1)=i+1+k:=by omega
   refine ⟨o',f,by rw [e];exact h1,by rw [e];exact List.mem_cons_of_mem _ h2,?_⟩
   rw [e];simp only [zbI,ho];rw [if_pos (by simp;omega)]
   exact h3
theorem zMn {i:Nat}{ss:List Step}{fs:List (Nat×Foot)}{st st':St}(h:Trace C ops b base i ss fs st st'):st'=zbI ops b (fun _=>true) i ss st:=by
 induction h with
 | nil i st=>rfl
 | run ho hg hd hc h ih =>
  simp only [zbI,ho,if_true];exact ih
 | skip ho hg h ih =>
  simp only [zbI,ho,if_true];exact ih
theorem zYl {X:Nat->Bool}{i:Nat}{s:Step}{st:St}:(one ops b X i s st).ep=st.ep:=by
 unfold one;split
 ·split
  ·exact zLD
  ·rfl
 ·rfl
theorem z1b {X:Nat->Bool}{i:Nat}{s:Step}{st:St}:(one ops b X i s st).stk=st.stk:=by
 unfold one;split
 ·split
  ·exact zR8
  ·rfl
 ·rfl
theorem z1a {X:Nat->Bool}{i:Nat}{s:Step}{st:St}:(one ops b X i s st).nid=st.nid:=by
 unfold one;split
 ·split
  ·exact zZV
  ·rfl
 ·rfl
theorem zgu {X:Nat->Bool}:∀(ss:List Step) (i:Nat) (st:St),(zbI ops b X i ss st).ep=st.ep
 | [],_,_=>rfl
 | s :: ss,i,st=>(zgu ss (i+1) _).trans (zYl (X:=X) (i:=i) (s:=s))
theorem zpe {X:Nat->Bool}:∀(ss:List Step) (i:Nat) (st:St),(zbI ops b X i ss st).stk=st.stk
 | [],_,_=>rfl
 | s :: ss,i,st=>(zpe ss (i+1) _).trans (z1b (X:=X) (i:=i) (s:=s))
theorem zBp {X:Nat->Bool}:∀(ss:List Step) (i:Nat) (st:St),(zbI ops b X i ss st).nid=st.nid
 | [],_,_=>rfl
 | s :: ss,i,st=>(zBp ss (i+1) _).trans (z1a (X:=X) (i:=i) (s:=s))
def Dead (st:St):Prop:=∀n R e,zx st.ro n=some R->R.ep=some e->e<st.ep
theorem zYH {o:Oper}{s:Step}{st:St}(h:Dead st)(h0:0<st.ep):Dead (st.step true o s):=by
 intro n R e hR he;rw [zLD];rw [zLE,zbY] at hR;split at hR
 ·rename_i x hx;cases hR;cases s with
  | none=>cases hx
  | some d =>
   have hm:=zk0 hx;simp only [dro,List.mem_map] at hm;obtain ⟨⟨k,R0⟩,_,hk⟩:=hm;simp only [Prod.mk.injEq] at hk;obtain ⟨_,rfl⟩:=hk;unfold zeK at he;split at he
   ·simp only [Option.some.injEq] at he;omega
   ·rename_i hne;exact absurd he (by
     cases hh:R0.ep with
     | none=>simp
     | some e'=>exact absurd hh (hne e' rfl))
 ·exact h n R e hR he
theorem zzm {X:Nat->Bool}:∀(ss:List Step) (i:Nat) (st:St),Dead st->0<st.ep->Dead (zbI ops true X i ss st)
 | [],_,_,h,_=>h
 | s :: ss,i,st,h,h0=>by
  refine zzm (X:=X) ss (i+1) (one ops true X i s st) ?_ (by rw [zYl];exact h0)
  unfold one;split
  ·split
   ·exact zYH h h0
   ·exact h
  ·exact h
end
section
variable {C:Cfg} {ops:Array Oper} {b:Bool} {base:Nat}
def Foot.reads (f:Foot):Key->Prop
 | .tm t=>t∈f.tm
 | .ro n=>n∈f.ro
 | .lo n=>n∈f.lo
def Foot.writes (f:Foot):Key->Prop
 | .tm t=>f.dst=some t
 | .ro n=>n∈f.wro
 | .lo n=>n∈f.wlo
theorem zoI {a c:List Nat}(h:zBi a c=true):∀x∈a,x∉c:=by
 intro x hx;have:=List.all_eq_true.1 h x hx;simpa using this
theorem apart_spec {x y:Foot}(h:x.apart y=true):(∀κ,x.writes κ->¬ y.reads κ/\¬ y.writes κ)/\(∀κ,y.writes κ->¬ x.reads κ):=by
 unfold Foot.apart at h;simp only [Bool.and_eq_true] at h;obtain ⟨⟨⟨⟨⟨h1,h2⟩,h3⟩,h4⟩,h5⟩,h6⟩:=h;refine ⟨fun κ hw=>?_,fun κ hw=>?_⟩
 ·cases κ with
  | tm t =>
   simp only [Foot.writes] at hw;rw [hw] at h1;simp only [Bool.and_eq_true,Bool.not_eq_true',beq_eq_false_iff_ne,List.contains_eq_mem,decide_eq_false_iff_not] at h1;exact ⟨h1.1,h1.2⟩
  | ro n =>
   have:=zoI h3 n hw;simp only [List.mem_append,not_or] at this;exact this
  | lo n =>
   have:=zoI h5 n hw;simp only [List.mem_append,not_or] at this;exact this
 ·cases κ with
  | tm t =>
   simp only [Foot.writes] at hw;rw [hw] at h2;simpa [Foot.reads] using h2
  | ro n=>exact zoI h4 n hw
  | lo n=>exact zoI h6 n hw
theorem zBj {i:Nat}{o:Oper}{S:St}{f:Foot}{s:Step}(h:At1 C ops base i o S f s)(κ:Key):wr o s κ↔f.writes κ:=by
 cases s with
 | none =>
  obtain ⟨_,rfl⟩:=h;cases κ<;>simp [wr,Foot.writes,zlo]
 | some d =>
  obtain ⟨_,_,_,rfl⟩:=h;cases κ<;>simp [wr,Foot.writes,zfd]
def Does (C:Cfg)(ops:Array Oper)(base i:Nat)(o:Oper)(S:St):Step->Prop
 | some d=>zc1 ops o S=some true/\delta C S o (base+32*i)=some d/\d.c=true
 | none=>zc1 ops o S=some false
theorem zxt {o:Oper}{S S':St}(h:∀t∈zxu ops o,S'.tm[t]?=S.tm[t]?):zc1 ops o S'=zc1 ops o S:=by
 unfold zc1;cases hg:o.guard with
 | none=>rfl
 | some jw =>
  obtain ⟨j,want⟩:=jw;simp only;have e:guardOf S' ops j=guardOf S ops j:=by
   unfold guardOf;cases ho:ops[j]? with
   | none=>rfl
   | some o' =>
    simp only;cases hd:o'.dst with
    | none=>rfl
    | some t =>
     simp only;exact h t (by simp [zxu,hg,zhi,ho,hd])
  rw [e]
theorem zO3 {i:Nat}{o:Oper}{S S':St}{f:Foot}{s:Step}(h:At1 C ops base i o S f s)(hep:S'.ep=S.ep)(hr:∀κ,f.reads κ->S'.get κ=S.get κ):Does C ops base i o S' s:=by
 cases s with
 | none =>
  obtain ⟨h1,rfl⟩:=h
  show zc1 ops o S'=some false
  rw [zxt (S:=S) (fun t ht=>zGB (hr (.tm t) (by simpa [Foot.reads,zlo] using ht)))]
  exact h1
 | some d =>
  obtain ⟨h1,h2,h3,rfl⟩:=h;have htm:∀t,t∈zth o++zxu ops o->S'.tm[t]?=S.tm[t]?:=fun t ht=>zGB (hr (.tm t) ht);have hop:∀x∈o.op.operands.toList,S'.opnd x=S.opnd x:=by
   intro x hx;cases x with
   | tmp t =>
    have ht:t∈zth o:=by
     unfold zth;exact List.mem_filterMap.2 ⟨_,hx,rfl⟩
    simp only [St.opnd,htm t (List.mem_append_left _ ht)]
   | _=>rfl
  refine ⟨?_,?_,h3⟩
  ·rw [zxt (S:=S) (fun t ht=>htm t (List.mem_append_right _ ht))];exact h1
  ·rw [<- h2];refine zSP ⟨hep,hop,fun x hx m hm a ha=>?_⟩;have hA:a∈zvd S o:=by
    unfold zvd;exact List.mem_flatMap.2 ⟨m,List.mem_filterMap.2 ⟨x,hx,hm⟩,ha⟩
   exact ⟨fun n hn=>zGA (hr (.ro n) (List.mem_flatMap.2 ⟨a,hA,hn⟩)),fun n hn=>zGz (hr (.lo n) (List.mem_flatMap.2 ⟨a,hA,hn⟩))⟩
structure Free (C:Cfg) (ops:Array Oper) (cl:List (List Nat)) (b:Bool) (base a:Nat) (ss:List Step) (st0:St):Prop where
 at1:∀i s,ss[i]?=some s->∃o f,ops[a+i]?=some o/\At1 C ops base (a+i) o (zbI ops b (fun j=>decide (j<a+i)) a ss st0) f s
 apart:∀i k s s' o o' f f',ss[i]?=some s->ss[k]?=some s'->ops[a+i]?=some o->ops[a+k]?=some o'->At1 C ops base (a+i) o (zbI ops b (fun j=>decide (j<a+i)) a ss st0) f s ->
  At1 C ops base (a+k) o' (zbI ops b (fun j=>decide (j<a+k)) a ss st0) f' s'->i<k->a+i∉cl.getD (a+k) []->f.apart f'=true
def ziw (cl:List (List Nat))(X:Nat->Bool):Prop:=∀k,X k=true->∀j∈cl.getD k [],X j=true
variable {cl:List (List Nat)} {ss:List Step} {st0:St} {a:Nat}
theorem zEo {i:Nat}{o:Oper}{S:St}{f f':Foot}{s:Step}(h:At1 C ops base i o S f s)(h':At1 C ops base i o S f' s):f=f':=by
 cases s with
 | none=>rw [h.2,h'.2]
 | some d=>rw [h.2.2.2,h'.2.2.2]
theorem zGy (F:Free C ops cl b base a ss st0){X:Nat->Bool}(hX:ziw cl X){i:Nat}{s:Step}(hs:ss[i]?=some s)(hXi:X (a+i)=false)(hr:∀j∈cl.getD (a+i) [],X j=true) :
 ∃o f,ops[a+i]?=some o/\At1 C ops base (a+i) o (zbI ops b (fun j=>decide (j<a+i)) a ss st0) f s/\∀κ,f.reads κ->(zbI ops b X a ss st0).get κ=(zbI ops b (fun j=>decide (j<a+i)) a ss st0).get κ:=by
 obtain ⟨o,f,ho,h1⟩:=F.at1 i s hs;refine ⟨o,f,ho,h1,fun κ hκ=>?_⟩;refine zoJ ss a st0 st0 rfl rfl (fun k s' o' hk ho' hne hw=>?_);obtain ⟨o2,f',ho2,h2⟩:=F.at1 k s' hk;rw [ho'] at ho2;cases ho2;have hw':=(zBj h2 κ).1 hw
 by_cases hlt:k<i
 ·have hXk:X (a+k)=false:=by
   have hlt':a+k<a+i:=by omega
   simp only [hlt',decide_true] at hne;simpa using hne
  have hn:a+k∉cl.getD (a+i) []:=fun h=>by rw [hr (a+k) h] at hXk;cases hXk
  exact ((apart_spec (F.apart k i s' s o' o f' f hk hs ho' ho h2 h1 hlt hn)).1 κ hw').1 hκ
 ·have hXk:X (a+k)=true:=by
   have hlt':¬ (a+k<a+i):=by omega
   simp only [hlt',decide_false] at hne;simpa using hne
  have hlt':i<k:=by
   have:i≠k:=fun e=>by rw [e,hXk] at hXi;cases hXi
   omega
  have hn:a+i∉cl.getD (a+k) []:=fun h=>by rw [hX (a+k) hXk (a+i) h] at hXi;cases hXi
  exact (apart_spec (F.apart i k s s' o o' f f' hs hk ho ho' h1 h2 hlt' hn)).2 κ hw' hκ
theorem zXR (F:Free C ops cl b base a ss st0){X:Nat->Bool}(hX:ziw cl X){i:Nat}{s:Step}(hs:ss[i]?=some s)(hXi:X (a+i)=false)(hr:∀j∈cl.getD (a+i) [],X j=true) :
 ∃o,ops[a+i]?=some o/\Does C ops base (a+i) o (zbI ops b X a ss st0) s:=by
 obtain ⟨o,f,ho,h1,h2⟩:=zGy F hX hs hXi hr;exact ⟨o,ho,zO3 h1 (by rw [zgu,zgu]) h2⟩
theorem zPE (F:Free C ops cl b base a ss st0){X Y:Nat->Bool}(hX:ziw cl X){i:Nat}{s:Step}{o:Oper}(hs:ss[i]?=some s)(ho:ops[a+i]?=some o)(hXi:X (a+i)=false)(hY:∀k,Y k=(X k||k==a+i))(κ:Key) :
 (zbI ops b Y a ss st0).get κ=((zbI ops b X a ss st0).step b o s).get κ:=by
 refine zXO hY ho hs (fun k s' o' hk ho' hlt hXk κ hw hw'=>?_) κ;obtain ⟨o1,f,ho1,h1⟩:=F.at1 i s hs;rw [ho] at ho1;cases ho1;obtain ⟨o2,f',ho2,h2⟩:=F.at1 k s' hk;rw [ho'] at ho2;cases ho2;have hn:a+i∉cl.getD (a+k) []:=fun h=>by rw [hX (a+k) hXk (a+i) h] at hXi;cases hXi
 exact ((apart_spec (F.apart i k s s' o o' f f' hs hk ho ho' h1 h2 hlt hn)).1 κ ((zBj h1 κ).1 hw)).2 ((zBj h2 κ).1 hw')
theorem zWk {st:St}{o:Oper}{id i:Nat}{d:Dl}(ho:ops[i]?=some o)(h:delta C st o id=some d)(hb:zlF ops i=false):d.bump=false:=by
 simp only [zlF,ho] at hb;cases hop:o.op<;>simp only [hop] at hb<;>simp only [delta,hop] at h
 case store=>cases hb
 case buildSlice=>cases hb
 case call c =>
  split at h
  case h_4 hc=>rw [hc] at hb;cases hb
  all_goals (repeat' (first|split at h|cases h))
  all_goals rfl
 case slice T x lo hi mx =>
  cases mx with
  | some m=>simp at h
  | none =>
   cases lo with
   | none =>
    repeat' (first|contradiction|split at h|cases h)
    all_goals (first|rfl|contradiction|(exfalso;simp_all))
   | some lo' =>
    cases hi with
    | none=>cases hb
    | some hi' =>
     repeat' (first|contradiction|split at h|cases h)
     all_goals (first|rfl|contradiction|(exfalso;simp_all))
 case binOp =>
  simp only [zBo] at h
  repeat' (first|split at h|cases h)
  all_goals rfl
 all_goals (repeat' (first|contradiction|split at h|cases h))
 all_goals (first|rfl|contradiction)
end
section
variable {C:Cfg} {w0 w w1:World} {S0:zbn} {U:Nat->Prop} {st st1:St} {E E1:Env} {ts:Array Value} {sv:List (Array Value)}
variable {ops:Array Oper} {b:Bool} {base:Nat} {cl:List (List Nat)} {ss:List Step} {st0:St}
theorem zWj {R R':Root}(h:zeK b R=R')(he:R'.ep=none):R=R':=by
 unfold zeK at h;split at h
 ·subst h;cases he
 ·exact h
theorem zYb {l:List (Nat×Root)}{n:Nat}{R:Root}(h:zx (l.map (fun (x:Nat×Root)=>(x.1,zeK b x.2))) n=some R):∃R0,zx l n=some R0/\zeK b R0=R:=by
 induction l with
 | nil=>cases h
 | cons a l ih =>
  obtain ⟨k,v⟩:=a;simp only [List.map_cons,zx] at h ⊢;split at h
  ·cases h;rename_i hk;rw [if_pos hk];exact ⟨v,rfl,rfl⟩
  ·rename_i hk;rw [if_neg hk];exact ih h
theorem zXb {l:List (Nat×Root)}{n:Nat}(h:zx (l.map (fun (x:Nat×Root)=>(x.1,zeK b x.2))) n=none):zx l n=none:=by
 induction l with
 | nil=>rfl
 | cons a l ih =>
  obtain ⟨k,v⟩:=a;simp only [List.map_cons,zx] at h ⊢;split at h
  ·cases h
  ·rename_i hk;rw [if_neg hk];exact ih h
theorem zVL {o:Oper}{d:Dl}(hb:b=false->d.bump=false)(hd:b=true->Dead st/\0<st.ep)(hS:Sim w0 S0 U (st.apply o.dst d) E ts sv w):Sim w0 S0 U (st.effD b o.dst d) E ts sv w:=by
 have h1:∀t:Nat,(st.effD b o.dst d).tm[t]?=(st.apply o.dst d).tm[t]?:=fun t=>by
  unfold St.effD St.apply;cases o.dst<;>rfl
 have h2:(st.effD b o.dst d).lo=(st.apply o.dst d).lo:=by
  unfold St.effD St.apply;cases o.dst<;>rfl
 have h3:(st.effD b o.dst d).stk=(st.apply o.dst d).stk:=by
  unfold St.effD St.apply;cases o.dst<;>rfl
 have h4:(st.effD b o.dst d).ro=d.ro.map (fun (x:Nat×Root)=>(x.1,zeK b x.2))++st.ro:=by
  unfold St.effD;cases o.dst<;>rfl
 have h5:(st.apply o.dst d).ro=d.ro++st.ro:=by
  unfold St.apply;cases o.dst<;>rfl
 have h6:(st.effD b o.dst d).ep=st.ep:=by
  unfold St.effD;cases o.dst<;>rfl
 have h7:(st.apply o.dst d).ep=if d.bump then st.ep+1 else st.ep:=by
  unfold St.apply;cases o.dst<;>rfl
 cases b with
 | false =>
  have hf:d.bump=false:=hb rfl;have hmap:d.ro.map (fun (x:Nat×Root)=>(x.1,zeK false x.2))=d.ro:=by
   have:(fun (x:Nat×Root)=>(x.1,zeK false x.2))=id:=by
    funext x
    rfl
   rw [this,List.map_id]
  have hro:(st.effD false o.dst d).ro=(st.apply o.dst d).ro:=by rw [h4,h5,hmap]
  have hep:(st.effD false o.dst d).ep=(st.apply o.dst d).ep:=by rw [h6,h7,hf];rfl
  exact hS.fewer h1 (fun n=>by rw [h2]) h3 (fun n R h=>by simpa only [St.root,hro,hep] using h) (fun n R h=>⟨R,by rw [<- hro];exact h⟩) (fun n R e h he=>by rw [hep];exact hS.mem.epo n R e (by rw [<- hro];exact h) he)
 | true =>
  obtain ⟨hdd,h0⟩:=hd rfl;have look:∀n R,zx (st.effD true o.dst d).ro n=some R->∃R0,zx (st.apply o.dst d).ro n=some R0/\(zeK true R0=R\/(R0=R/\zx st.ro n=some R)):=by
   intro n R h;rw [h4,zbY] at h;rw [h5,zbY];split at h
   ·rename_i x hx;cases h;obtain ⟨R0,g1,g2⟩:=zYb hx;exact ⟨R0,by rw [g1],.inl g2⟩
   ·rename_i hx;rw [zXb hx];exact ⟨R,h,.inr ⟨rfl,h⟩⟩
  have dead0:∀R0:Root,(zeK true R0).ep=none\/(zeK true R0).ep=some 0:=by
   intro R0;cases hh:R0.ep with
   | none=>left;simp [zeK,hh]
   | some e=>right;simp [zeK,hh]
  have live:∀n R,(st.effD true o.dst d).root n=some R->R.ep=none/\zx (st.effD true o.dst d).ro n=some R:=by
   intro n R h;obtain ⟨h8,h9⟩:=zbL h;refine ⟨?_,h8⟩;rcases h9 with h9|h9
   ·exact h9
   ·exfalso;rw [h6] at h9;obtain ⟨R0,_,g2⟩:=look n R h8;rcases g2 with g2|⟨_,g2⟩
    ·have:=dead0 R0;rw [g2,h9] at this;rcases this with h|h
     ·cases h
     ·simp only [Option.some.injEq] at h;omega
    ·have:=hdd n R _ g2 h9;omega
  refine hS.fewer h1 (fun n=>by rw [h2]) h3 (fun n R h=>?_) (fun n R h=>?_) (fun n R e h he=>?_)
  ·obtain ⟨g1,g2⟩:=live n R h;obtain ⟨R0,g3,g4⟩:=look n R g2;have e:R0=R:=by
    rcases g4 with g4|⟨g4,_⟩
    ·exact zWj g4 g1
    ·exact g4
   subst e;unfold St.root;rw [g3];simp only [g1]
  ·obtain ⟨R0,g3,_⟩:=look n R h;exact ⟨R0,g3⟩
  ·rw [h6];obtain ⟨R0,_,g2⟩:=look n R h;rcases g2 with g2|⟨_,g2⟩
   ·have:=dead0 R0;rw [g2,he] at this;rcases this with h|h
    ·cases h
    ·simp only [Option.some.injEq] at h;omega
   ·have:=hdd n R e g2 he;omega
def UX (U:Nat->Prop)(base a T:Nat)(X:Nat->Bool)(n:Nat):Prop:=U n\/∃i,a<=i/\i<T/\X i=true/\Mine (base+32*i) n
theorem Sim.uses {U':Nat->Prop}(h:Sim w0 S0 U st E ts sv w)(hU:∀n,U n->U' n):Sim w0 S0 U' st E ts sv w :=
 ⟨h.mem,⟨fun n R hn=>hU n (h.ids.ro n R hn),fun n cs hn=>⟨hU n (h.ids.lo n cs hn).1,fun a ha m hm=>hU m ((h.ids.lo n cs hn).2 a ha m hm)⟩,fun m hm n hn=>hU n (h.ids.tm m hm n hn),fun f hf m hm n hn=>hU n (h.ids.stk f hf m hm n hn)⟩,h.tm,h.stk⟩
theorem zL2 (hC:CfgOk C)(hH:CtrOk C){a T:Nat}(hT:a+ss.length=T)(F:Free C ops cl b base a ss st0){X Y:Nat->Bool}(hX:ziw cl X){i:Nat}(hia:a<=i)(hi:i<T)(hXi:X i=false)(hr:∀j∈cl.getD i [],X j=true)(hb:b=false->∀k,a<=k->k<T->zlF ops k=false)(hd:b=true->Dead st0/\0<st0.ep)(hM:∀k,a<=k->k<T->∀n,Mine (base+32*k) n->¬ U n)(hY:∀k,Y k=(X k||k==i))(hS:Sim w0 S0 (UX U base a T X) (zbI ops b X a ss st0) E ts sv w){Q:Exit->Act->World->Prop}{K:Act->World->Prop}(hK:∀(E':Env) (ts':Array Value) (w':World),Sim w0 S0 (UX U base a T Y) (zbI ops b Y a ss st0) E' ts' sv w'->K { tmps:=ts',defers:=[] } w') :
 wpOp C.P ops Q i K { tmps:=ts,defers:=[] } w:=by
 obtain ⟨j,rfl⟩:∃j,i=a+j:=⟨i-a,by omega⟩
 obtain ⟨s,hs⟩:∃s,ss[j]?=some s:=⟨_,List.getElem?_eq_getElem (by omega)⟩
 obtain ⟨o,ho,hdo⟩:=zXR F hX hs hXi hr;have hsub:∀n,UX U base a T X n->UX U base a T Y n:=by
  rintro n (h|⟨k,h0,h1,h2,h3⟩)
  ·exact .inl h
  ·exact .inr ⟨k,h0,h1,by rw [hY,h2];rfl,h3⟩
 have fin:∀{E':Env} {ts':Array Value} {w':World},Sim w0 S0 (UX U base a T Y) ((zbI ops b X a ss st0).step b o s) E' ts' sv w'->K { tmps:=ts',defers:=[] } w':=by
  intro E' ts' w' h;refine hK E' ts' w' (h.same (fun κ=>zPE F hX hs ho hXi hY κ) ?_ ?_)
  ·rw [zpe,zR8,zpe]
  ·rw [zgu,zLD,zgu]
 unfold wpOp;simp only [ho];cases s with
 | none =>
  rw [if_neg (by simp [zBr hS hdo])]
  have h2:=hS.putV (dst:=o.dst) (m:=.und) (v:=undef) rfl (fun n hn=>by simp [MV.ids,zbU] at hn)
  rw [zhA];exact fin (h2.uses hsub)
 | some d =>
  obtain ⟨h1,h2,h3⟩:=hdo;rw [if_pos (zBr hS h1)];refine .inl (zDN hC hH hS (id:=base+32*(a+j)) ?_ h2 h3 _ _ (fun E' v w' hS'=>?_))
  ·rintro n hn (h|⟨k,_,g1,g2,g3⟩)
   ·exact hM (a+j) hia hi n hn h
   ·refine zVh (i:=k) (j:=a+j) (fun e=>?_) g3 hn;rw [e,hXi] at g2;cases g2
  ·rw [zhA];refine fin ((zVL (fun hb'=>zWk ho h2 (hb hb' (a+j) hia hi)) (fun hb'=>?_) hS').uses ?_)
   ·subst hb';exact ⟨zzm ss a st0 (hd rfl).1 (hd rfl).2,by rw [zgu];exact (hd rfl).2⟩
   ·rintro n (h|h)
    ·exact hsub n h
    ·exact .inr ⟨a+j,hia,hi,by rw [hY];simp,h⟩
end
section
variable {C:Cfg} {w0 w w1:World} {S0:zbn} {U:Nat->Prop} {st st1:St} {E E1:Env} {ts:Array Value} {sv:List (Array Value)}
theorem zXc (t:Ty)(x:t.den):t.ofCells (t.cells x)=some x:=by
 cases t<;>first|rfl|simp [Ty.ofCells,Ty.cells]
theorem zMf:∀(p:List (Int×Nat)) {t:Ty} {l:List t.den} {cv:CV},zgG t l p=some cv->∀m,zp8 t l p cv=some m->m=l
 | [],t,l,cv,h,m,hm=>by
  simp only [zgG,Option.some.injEq] at h;subst h;simpa [zp8] using hm.symm
 | (i,j) :: p,t,l,cv,h,m,hm=>by
  simp only [zgG] at h;simp only [zp8] at hm;split at h
  ·rename_i t1 l1 hc;rw [hc] at hm;simp only at hm;split at hm
   ·rename_i l2 hl2;have:=zMf p h l2 hl2;subst this;split at hm
    ·rename_i x hx;cases hm;have hj:j<(t.cells (ix l i t.dflt)).length:=(List.getElem?_eq_some_iff.1 hc).1;have hs:splice (t.cells (ix l i t.dflt)) j [CV.s t1 l2]=t.cells (ix l i t.dflt):=zD8 _ _ _ (by simp;omega) (fun k hk=>by
      have:k=0:=by simpa using hk
      subst this;simpa using hc)
     rw [hs,zXc] at hx;cases hx;unfold up ix;apply List.ext_getElem?;intro k;rw [List.getElem?_set];split
     ·rename_i hk;subst hk;split
      ·rename_i hlt;simp [List.getD,List.getElem?_eq_getElem hlt]
      ·rename_i hlt;rw [List.getElem?_eq_none (by omega)]
     ·rfl
    ·cases hm
   ·cases hm
  ·cases h
theorem zZm {t:Ty}(hf:t.flat=true):∀(q:List (Int×Nat)) (v u:Value),zbi w t v q=some u->q=[]
 | [],_,_,_=>rfl
 | (i,j) :: q,v,u,h=>by
  exfalso;cases v with
  | slice a len cap =>
   cases a with
   | none=>simp [zbi] at h
   | some a =>
    simp only [zbi] at h;split at h
    ·split at h
     ·rename_i t' hsh;unfold Ty.flat at hf;have:=List.all_eq_true.1 hf _ (List.mem_of_getElem? hsh);simp at this
     ·cases h
    ·cases h
  | _=>simp [zbi] at h
theorem z1e (hC:CfgOk C){T:TypeId}{t:Ty}(hT:C.sty T=some t)(hf:t.flat=true){v1 v2:Value}{l1 l2:List t.den}{S1 S2:zbn}(hrep1:Rep true w v1 (.s t l1) S1)(hrep2:Rep false w v2 (.s t l2) S2)(hl2:l2≠[])(hfew:few (ln (ap l1 l2))=true)(oT:TypeId) :
 ∃(v:Value) (w':World) (bv offv cap:Nat),(Builtin.append_ #[T,T] oT #[v1,v2]).run C.P w = .ok v w'/\v = .slice (some ⟨bv,offv,none⟩) (ap l1 l2).length cap/\Rep true w' v (.s t (ap l1 l2)) (fun x=>x=bv) /\
  w'.os=w.os/\w'.tape=w.tape/\w'.output=w.output /\
  ((bv=w.heap.size/\w'.heap.size=w.heap.size+1/\∀x,x<w.heap.size->w'.heap[x]?=w.heap[x]?) \/
    ∃off1 cap1,v1 = .slice (some ⟨bv,off1,none⟩) l1.length cap1/\S1 bv/\w'.heap.size=w.heap.size/\(∀x,x≠bv->w'.heap[x]?=w.heap[x]?)/\Rep true w' v1 (.s t l1) S1):=by
 obtain ⟨e,hE⟩:=hC.sty T t hT;obtain ⟨i,z,hi,hs,hz,hzc,hby⟩:=hE.info;obtain ⟨f0,f1⟩:=zI6 hfew;have hlen:l1.length+l2.length<=2147483648:=by simp only [ln,ap,List.length_append] at f1;omega
 have hapl:(ap l1 l2).length=l1.length+l2.length:=by simp [ap]
 cases hrep2 with
 | nil=>exact absurd rfl hl2
 | void=>exact absurd rfl hl2
 | sl _ _ b2 off2 cap2 arr2 e2 fz2 V2 K2 _ hb2 hfz2 hlen2 hcap2 hsz2 hS2 hsub2 hdis2 hvv2 hcc2 =>
 have hm0:0<l2.length:=List.length_pos_iff.2 hl2;have hmul2:l2.length*t.width<=cap2*t.width:=Nat.mul_le_mul_right _ hcap2;generalize hnews:(arr2.toList.drop off2).take (l2.length*t.width)=news;have hnl:news.length=l2.length*t.width:=by rw [<- hnews];simp;omega
 have hnat:∀k,k<l2.length*t.width->news[k]?=arr2[off2+k]?:=by
  intro k hk;rw [<- hnews,List.getElem?_take,if_pos hk,List.getElem?_drop];simp
 have hnc:∀j u,news[j]?=some u->w.cell? ((⟨b2,off2,none⟩:Addr).add j)=some u:=by
  intro j u hu;have hj:j<l2.length*t.width:=by rw [<- hnl];exact (List.getElem?_eq_some_iff.1 hu).1
  rw [add_lit,cell_of_block hb2,<- hnat j hj];exact hu
 have hrow2:∀i j,i<l2.length->j<t.width->i*t.width+j<l2.length*t.width:=by
  intro i j hi hj;have:(i+1)*t.width<=l2.length*t.width:=Nat.mul_le_mul_right _ hi;rw [Nat.succ_mul] at this;omega
 have hnv:∀i j,i<l2.length->j<t.width->news[i*t.width+j]?=some (V2 i j):=by
  intro i j hi hj;rw [hnat _ (hrow2 i j hi hj),<- Nat.add_assoc];exact hvv2 i j hi hj
 have hwp:=zCa t;have hn1:∀u∈news,u.oneCell'=true:=by
  intro u hu;obtain ⟨k,hk⟩:=List.mem_iff_getElem?.1 hu;have hkl:k<l2.length*t.width:=by rw [<- hnl];exact (List.getElem?_eq_some_iff.1 hk).1
  have hki:k / t.width<l2.length:=(Nat.div_lt_iff_lt_mul hwp).2 hkl;have hkj:k % t.width<t.width:=Nat.mod_lt _ hwp;have:=hnv _ _ hki hkj;rw [Nat.mul_comm,Nat.div_add_mod,hk] at this;cases this;have hx:=List.getElem?_eq_getElem hki;have hcj:(t.cells (l2[k / t.width]'hki))[k % t.width]?=some ((t.cells (l2[k / t.width]'hki))[k % t.width]'(by rw [zcU];exact hkj)):=List.getElem?_eq_getElem _
  exact (hcc2 _ _ hx _ _ hcj).one
 have hcc2':∀(w1:World) i x,l2[i]?=some x->∀j c,(t.cells x)[j]?=some c->Rep true w1 (V2 i j) c (fun _=>False):=fun w1 i x hx j c hcj=>(hcc2 i x hx j c hcj).flat (zpd hf hcj);have hrow1:∀i j,i<l1.length->j<t.width->i*t.width+j<l1.length*t.width:=by
  intro i j hi hj;have:(i+1)*t.width<=l1.length*t.width:=Nat.mul_le_mul_right _ hi;rw [Nat.succ_mul] at this;omega
 have hbytes:(l1.length+l2.length)*i.bytes<=140737488355328:=by
  have:=Nat.mul_le_mul hlen hby;omega
 have hzsz:z.cells.size=t.width:=by rw [<- Array.length_toList,hzc];simp [zeh]
 have grown:∀(olds:List Value) (cap':Nat) (V1:Nat->Nat->Value) (zs:Array Value),olds.length=l1.length*t.width->l1.length+l2.length<=cap'->zs.size=(cap'-(l1.length+l2.length))*t.width ->
  (∀i j,i<l1.length->j<t.width->olds[i*t.width+j]?=some (V1 i j)) ->
  (∀i x,l1[i]?=some x->∀j c,(t.cells x)[j]?=some c->∃S,Rep true w (V1 i j) c S) ->
  (Builtin.append_ #[T,T] oT #[v1,.slice (some ⟨b2,off2,none⟩) l2.length cap2]).run C.P w = .ok (.slice (some ⟨w.heap.size,0,none⟩) (l1.length+l2.length) cap') (w.drew.alloc (.cells (olds.toArray++news.toArray++zs) e (0,0))) ->
  ∃(v:Value) (w':World) (bv offv cap:Nat),(Builtin.append_ #[T,T] oT #[v1,.slice (some ⟨b2,off2,none⟩) l2.length cap2]).run C.P w = .ok v w'/\v = .slice (some ⟨bv,offv,none⟩) (ap l1 l2).length cap/\Rep true w' v (.s t (ap l1 l2)) (fun x=>x=bv) /\
  w'.os=w.os/\w'.tape=w.tape/\w'.output=w.output /\
  ((bv=w.heap.size/\w'.heap.size=w.heap.size+1/\∀x,x<w.heap.size->w'.heap[x]?=w.heap[x]?) \/
    ∃off1 cap1,v1 = .slice (some ⟨bv,off1,none⟩) l1.length cap1/\S1 bv/\w'.heap.size=w.heap.size/\(∀x,x≠bv->w'.heap[x]?=w.heap[x]?)/\Rep true w' v1 (.s t l1) S1):=by
  intro olds cap' V1 zs hol hcap' hzs ho1 hc1 hr;generalize hw1:w.drew.alloc (.cells (olds.toArray++news.toArray++zs) e (0,0))=w1 at hr;have hsame:∀x,x<w.heap.size->w1.heap[x]?=w.heap[x]?:=fun x hx=>by rw [<- hw1];exact heap_alloc_old w.drew _ x hx
  have hsize:w1.heap.size=w.heap.size+1:=by rw [<- hw1];simp
  refine ⟨_,w1,w.heap.size,0,cap',hr,by rw [hapl],?_,by rw [<- hw1];rfl,by rw [<- hw1];rfl,by rw [<- hw1];rfl,.inl ⟨rfl,hsize,hsame⟩⟩
  refine Rep.join (arr:=olds.toArray++news.toArray++zs) (e:=e) (V1:=V1) (V2:=V2) (K1:=fun _ _ _=>False) (K2:=fun _ _ _=>False) ?_ (by simp only [big];omega) hcap' ?_ rfl ?_ ?_ ?_ (hcc2' w1) (fun _ _ _ _ _ h=>h.elim) (fun _ _ _ _ _ h=>h.elim) (fun _ _ _ _ _ _ _ _ _ h=>h.elim) (fun _ _ _ _ _ _ _ _ _ h=>h.elim) (fun _ _ _ _ _ _ _ _ _ h=>h.elim)
  ·rw [<- hw1];exact heap_alloc_new w.drew _
  ·simp only [Array.size_append,List.size_toArray,hol,hnl,hzs,<- Nat.add_mul];have:l1.length+l2.length+(cap'-(l1.length+l2.length))=cap':=by omega
   rw [this];omega
  ·intro i j hi hj;have:=hrow1 i j hi hj;rw [Nat.zero_add,Array.append_assoc,Array.getElem?_append_left (by simp [hol];exact this)]
   simpa using ho1 i j hi hj
  ·intro i j hi hj;have:=hrow2 i j hi hj;rw [Nat.zero_add,Nat.add_mul,Array.append_assoc,Array.getElem?_append_right (by simp [hol];omega),Array.getElem?_append_left (by simp [hol,hnl];omega)]
   rw [<- hnv i j hi hj];simp only [List.size_toArray,hol,List.getElem?_toArray]
   congr 1
   omega
  ·intro i x hx j c hcj;obtain ⟨S,hr⟩:=hc1 i x hx j c hcj;exact hr.flat (zpd hf hcj)
 cases hrep1 with
 | nil =>
  have hr:=run_append_nil (P:=C.P) w T oT e i z hE.und hi hz ⟨b2,off2,none⟩ l2.length cap2 news (by rw [hs];exact hnl) hnc hm0 (by omega) (by
   have:=Nat.mul_le_mul (show l2.length<=2147483648 by omega) hby
   omega)
  have hge:=grownCap_ge w l2.length 0 e;refine grown [] (grownCap w l2.length 0 e) (fun _ _=>undef) (Builtin.zeroCells z.cells (grownCap w l2.length 0 e-l2.length)) (by simp) (by simpa using hge) (by simp [size_zeroCells,hzsz]) (fun i j hi=>by simp at hi) (fun i x hx=>by simp at hx) ?_
  rw [hr];simp
 | void _ _ _ ho=>cases ho
 | sl _ _ b off cap arr e1 fz V1 K1 _ hb hfz hlen1 hcap1 hsz1 hS1 hsub1 hdis1 hvv1 hcc1 =>
  have hfz':=hfz rfl;subst hfz';have hmul1:l1.length*t.width<=cap*t.width:=Nat.mul_le_mul_right _ hcap1
  by_cases hroom:l1.length+l2.length<=cap
  ·have hmulr:(l1.length+l2.length)*t.width<=cap*t.width:=Nat.mul_le_mul_right _ hroom;rw [Nat.add_mul] at hmulr;have hr:=run_append_room' (P:=C.P) (w:=w) T oT e i hE.und hi b off l1.length cap arr e1 hb ⟨b2,off2,none⟩ l2.length cap2 news (by rw [hs];exact hnl) hnc hn1 hroom (by rw [hs,hnl];omega)
   rw [hs] at hr;have hbs:off+l1.length*t.width+news.length<=arr.toList.length:=by rw [hnl];simp;omega
   generalize hw1:w.setRow b (splice arr.toList (off+l1.length*t.width) news).toArray=w1 at hr;have hb1:w1.heap[b]?=some (.cells (splice arr.toList (off+l1.length*t.width) news).toArray e1 (0,0)):=by rw [<- hw1];exact setRow_heap w b _ _ e1 _ hb
   have hoth:∀x,x≠b->w1.heap[x]?=w.heap[x]?:=fun x hx=>by rw [<- hw1];exact setRow_other w b x _ hx
   have hasz:(splice arr.toList (off+l1.length*t.width) news).toArray.size=arr.size:=by rw [List.size_toArray,zhf _ _ _ hbs];simp
   have hkeepr:∀k,k<off+l1.length*t.width->(splice arr.toList (off+l1.length*t.width) news).toArray[k]?=arr[k]?:=by
    intro k hk;rw [List.getElem?_toArray,zd8 _ _ _ hbs k (.inl hk)];simp
   have hRows:Rows true w t l1 arr off b V1 K1 S1:=⟨hsub1,hdis1,hvv1,hcc1⟩;obtain ⟨k1,_⟩:=Rep.behind (w1:=w1) hlen1 hcap1 hsz1 hS1 hRows hb hb1 hasz hkeepr hoth;refine ⟨_,w1,b,off,cap,hr,by rw [hapl],?_,by rw [<- hw1];rfl,by rw [<- hw1];rfl,by rw [<- hw1];rfl,.inr ⟨off,cap,rfl,hS1,by rw [<- hw1];simp,hoth,k1⟩⟩
   refine Rep.join (arr:=(splice arr.toList (off+l1.length*t.width) news).toArray) (e:=e1) (V1:=V1) (V2:=V2) (K1:=fun _ _ _=>False) (K2:=fun _ _ _=>False) hb1 (by simp only [big];omega) hroom (by rw [hasz];exact hsz1) rfl ?_ ?_ ?_ (hcc2' w1) (fun _ _ _ _ _ h=>h.elim) (fun _ _ _ _ _ h=>h.elim) (fun _ _ _ _ _ _ _ _ _ h=>h.elim) (fun _ _ _ _ _ _ _ _ _ h=>h.elim) (fun _ _ _ _ _ _ _ _ _ h=>h.elim)
   ·intro i j hi hj;have:=hrow1 i j hi hj;rw [hkeepr _ (by omega)]
    exact hvv1 i j hi hj
   ·intro i j hi hj;have:=hrow2 i j hi hj;rw [List.getElem?_toArray,Nat.add_mul,zei _ _ _ hbs _ (by omega) (by rw [hnl];omega),<- hnv i j hi hj]
    congr 1
    omega
   ·intro i x hx j c hcj;exact (hcc1 i x hx j c hcj).flat (zpd hf hcj)
  ·generalize holds:(arr.toList.drop off).take (l1.length*t.width)=olds;have hol:olds.length=l1.length*t.width:=by rw [<- holds];simp;omega
   have hoat:∀k,k<l1.length*t.width->olds[k]?=arr[off+k]?:=by
    intro k hk;rw [<- holds,List.getElem?_take,if_pos hk,List.getElem?_drop];simp
   have hr:=run_append_grow (P:=C.P) w T oT e i z hE.und hi hz ⟨b,off,none⟩ l1.length cap olds (by rw [hs];exact hol) (fun j u hu=>by
    have hj:j<l1.length*t.width:=by rw [<- hol];exact (List.getElem?_eq_some_iff.1 hu).1
    rw [add_lit,cell_of_block hb,<- hoat j hj];exact hu) ⟨b2,off2,none⟩ l2.length cap2 news (by rw [hs];exact hnl) hnc (by omega) (by omega) (growslice_fits (by omega) hbytes)
   have hge:=grownCap_ge w (l1.length+l2.length) cap e;refine grown olds _ V1 _ hol hge (by rw [size_zeroCells,hzsz]) (fun i j hi hj=>?_) (fun i x hx j c hcj=>⟨_,hcc1 i x hx j c hcj⟩) hr
   have:(i+1)*t.width<=l1.length*t.width:=Nat.mul_le_mul_right _ hi;rw [Nat.succ_mul] at this;rw [hoat _ (by omega),<- Nat.add_assoc]
   exact hvv1 i j hi hj
end
section
variable {C:Cfg} {w0 w w1:World} {S0:zbn} {U:Nat->Prop} {st st1 st':St} {E E1:Env} {ts:Array Value} {sv:List (Array Value)}
def Late (w0:World)(st:St)(E:Env)(x:App)(v:Value)(w:World):Prop :=
 ∃(n0 bv offv cap:Nat) (R:Root),w0.heap.size<=n0/\(∀q Q,st.root q=some Q->∀y,E.φ q y->y<n0)/\(∀l cs,zx st.lo l=some cs->E.β l<n0) /\
  v = .slice (some ⟨bv,offv,none⟩) x.l.length cap/\Rep true w v (.s x.t x.l) (fun y=>y=bv)/\st.root x.r=some R /\
  (n0<=bv\/∃off1 len1 cap1,zbi w R.t (E.ρ x.r) x.p=some (.slice (some ⟨bv,off1,none⟩) len1 cap1))
theorem Late.states {x:App}{v:Value}(h:Late w0 st E x v w)(hr:∀n,st'.root n=st.root n)(hl:∀n,zx st'.lo n=zx st.lo n):Late w0 st' E x v w:=by
 obtain ⟨n0,bv,offv,cap,R,h1,h2,h3,h4,h5,h6,h7⟩:=h;exact ⟨n0,bv,offv,cap,R,h1,fun q Q hq=>h2 q Q (by rw [<- hr];exact hq),fun l cs hq=>h3 l cs (by rw [<- hl];exact hq),h4,h5,by rw [hr];exact h6,h7⟩
theorem zD9 {r:Nat}(a:At):zcH r [] a=a:=by
 cases a<;>simp [zcH,coarse]
theorem zEa {r:Nat}(m:MV):zff r [] m=m:=by
 have h:zcH r []=id:=funext fun a=>zD9 a;have hT:∀x,zkb r [] x=x:=fun x=>by cases x<;>simp [zkb,h]
 have hT':zkb r []=id:=funext hT;cases m<;>simp [zff,hT,hT']
theorem zX7 (h:Dead st){n:Nat}{R:Root}(hR:st.root n=some R):R.ep=none:=by
 obtain ⟨h1,h2⟩:=zbL hR;rcases h2 with h2|h2
 ·exact h2
 ·have:=h n R _ h1 h2;omega
theorem zYw {v:Value}{t:Ty}{l:List t.den}{S:zbn}{b off n cap:Nat}(h:Rep true w v (.s t l) S)(hv:v = .slice (some ⟨b,off,none⟩) n cap):b<w.heap.size/\S b:=by
 cases h with
 | nil=>cases hv
 | void _ _ _ ho=>cases ho
 | sl _ _ b4 _ _ _ _ _ _ _ _ hb4 _ _ _ _ hS4 =>
  cases hv;exact ⟨(Array.getElem?_eq_some_iff.1 hb4).1,hS4⟩
theorem zZv (hC:CfgOk C)(hS:Sim w0 S0 U st E ts sv w)(hd:Dead st){o:Oper}{x:App}(h:zoH C st o=some (true,x)) :
 o.guard=none/\o.dst=some x.dst/\∃(v:Value) (w':World),(execOp ({ tmps:=ts,defers:=[] }:Act).eval o).run C.P w = .ok (.value v) w' /\
  Sim w0 S0 U (st.put o.dst (.v (.at .bad))) E (({ tmps:=ts,defers:=[] }:Act).put o.dst v).tmps sv w'/\Late w0 st E x v w':=by
 unfold zoH at h;split at h
 ·rename_i c d ho hdst hgu;split at h
  ·rename_i hcb;split at h
   ·rename_i a0 y0 T T2 hca hct;split at h
    ·rename_i hTT;subst hTT;split at h
     ·rename_i t r a p r2 p2 hT h1 h2;split at h
      ·rename_i R cv1 cv2 hR hn1 hn2;split at h
       ·rename_i hcond;simp only [Bool.and_eq_true,Bool.not_eq_true',beq_eq_false_iff_ne] at hcond;obtain ⟨⟨hown,hfl⟩,hne⟩:=hcond;split at h
        ·rename_i m t2 y2 l2' hm;simp only [Option.some.injEq,Prod.mk.injEq] at h;obtain ⟨hfew,rfl⟩:=h;refine ⟨hgu,hdst,?_⟩;obtain ⟨l1,l2,e1,e2,rfl⟩:=zAo hm;subst e1;have hl2:l2≠[]:=by
          intro e;subst e;cases e2
         rw [e2] at hn2
         clear e2
         generalize hp0:a :: p=pp at h1 hn1;have hM:=hS.mem;obtain ⟨hx,_⟩:=zbR hS h1;obtain ⟨hy,_⟩:=zbR hS h2;have hh:=hx.2 R hR;have hrepR:=hM.rep r R hR;rw [hown] at hrepR;obtain ⟨t',l0,S1,f1,f2,f3,f4,f5⟩:=Rep.focus pp hrepR hh;have hg1:zgG R.t R.l pp=some (.s t l1):=by
          obtain ⟨R',hR',hg'⟩:=zgd hn1;rw [hR] at hR';cases hR';exact hg'
         rw [hg1] at f1;cases f1;obtain ⟨R2,S2,hR2,g1,g2,g3,g4⟩:=zuH hS hy hn2;obtain ⟨v,w',bv,offv,cap,hrun,hv,hrep,hos,htp,hout,hcase⟩:=z1e hC hT hfl f3 g3.ro hl2 hfew o.type;have hca':c.args = #[a0,y0]:=by rw [<- hca]
         have hct':c.argTypes = #[T2,T2]:=by rw [<- hct]
         have hexec:(execOp ({ tmps:=ts,defers:=[] }:Act).eval o).run C.P w = .ok (.value v) w':=by
          simp [execOp,ho,resolve,hcb,invoke,builtin,hca',hct',hrun]
         have hβ:∀l cs,zx st.lo l=some cs->E.β l<w.heap.size:=by
          intro l cs h;obtain ⟨_,vals,e,h2,_⟩:=hM.loc l cs h;exact (Array.getElem?_eq_some_iff.1 h2).1
         rcases hcase with ⟨hbv,hsz,hsame⟩|⟨off1,cap1,hv1,hS1b,hsz,hoth,hrep1⟩
         ·obtain ⟨hM',hT'⟩:=hM.addRoots hS.ids.mem (dro:=[]) (w1:=w') (E1:=E) hos htp hout (by omega) hsame (fun q Q hq=>by cases hq) (fun q Q _ _ hq=>by cases hq) (fun _ _=>⟨rfl,rfl,rfl⟩)
          refine ⟨v,w',hexec,Sim.next hS (st1:=st) hM' hT' rfl rfl (fun _ h=>h) hS.ids.ro hS.ids.lo trivial (fun n hn=>by simp [MV.ids,zbU,zW,At.ids,zbA,zbB] at hn),?_⟩
          exact ⟨w.heap.size,bv,offv,cap,R,hM.size,fun q Q hq y hy=>hM.rlt q Q hq y hy,hβ,hv,hrep,hR,.inl (by omega)⟩
         ·obtain ⟨m,hm1,hrm,hh1,hh2⟩:=f5 w' l1 S1 (fun z _ hnz=>hoth z (fun e=>hnz (e ▸ hS1b))) (fun _ h _=>h) hrep1;have hmR:=zMf pp hg1 m hm1;subst hmR;obtain ⟨_,_,_,_,fwp⟩:=f5 w l1 S1 (fun _ _ _=>rfl) (fun _ h _=>h) f3;have hhdr:∀q u,zbi w R.t (E.ρ r) q=some u->zbi w' R.t (E.ρ r) q=some u:=by
           intro q u hq;refine hh1 q u hq (fun q' he=>?_);subst he;rw [fwp] at hq;exact zZm hfl q' _ _ hq
          have hsim:=zDU (w1:=w') (m:=R.l) (js:=[]) (S3:=E.φ r) hS hR hown hos htp hout (by omega) (fun z hz hnz=>hoth z (fun e=>hnz (f4 z (e ▸ hS1b)))) (fun z hz=>⟨.inl hz,by have:=hM.rlt r R hR z hz;omega⟩) (hrm.weak fun z hz=>by
           rcases hz with ⟨h,_⟩|h
           ·exact h
           ·exact f4 z h) (fun q u hq _=>hhdr q u hq)
          have hE:({ E with φ:=fun n=>if n=r then E.φ r else E.φ n }:Env)=E:=by
           have:(fun n=>if n=r then E.φ r else E.φ n)=E.φ:=by
            funext n
            split
            ·rename_i e;rw [e]
            ·rfl
           rw [this]
          rw [hE] at hsim;have hS':Sim w0 S0 U st E ts sv w':=by
           refine hsim.fewer (fun t=>?_) (fun n=>?_) ?_ (fun n Q hQ=>?_) (fun n Q hQ=>?_) (fun n Q e hQ he=>hM.epo n Q e hQ he)
           ·simp only [zhk,List.getElem?_map];cases st.tm[t]? <;> simp [zEa]
           ·simp only [zhk];rw [zi6];have:zcH r []=id:=funext fun a=>zD9 a;cases zx st.lo n<;>simp [this]
           ·simp only [zhk];have:zff r []=id:=funext fun a=>zEa a;simp [this]
           ·have he:=zX7 hd hQ;obtain ⟨q1,_⟩:=zbL hQ;refine zhN ?_ (.inl he);simp only [zhk,zx];split
            ·rename_i hb;simp only [beq_iff_eq] at hb;subst hb;rw [hR] at hQ;cases hQ;rfl
            ·exact q1
           ·simp only [zhk,zx];split
            ·exact ⟨_,rfl⟩
            ·exact ⟨Q,hQ⟩
          refine ⟨v,w',hexec,hS'.putV trivial (fun n hn=>by simp [MV.ids,zbU,zW,At.ids,zbA,zbB] at hn),?_⟩
          refine ⟨w.heap.size,bv,offv,cap,R,hM.size,fun q Q hq y hy=>hM.rlt q Q hq y hy,hβ,hv,hrep,hR,.inr ⟨off1,l1.length,cap1,?_⟩⟩;refine hhdr pp _ ?_;rw [hh,hv1]
        ·cases h
       ·cases h
      ·cases h
     ·cases h
    ·cases h
   ·cases h
  ·cases h
 ·cases h
theorem zWD (hC:CfgOk C)(hS:Sim w0 S0 U st E ts sv w){o:Oper}{id:Nat}{x:App}{v:Value}{st2:St}(hL:Late w0 st E x v w)(hv0:ts[x.dst]?=some v)(h:zBL C st o x=some (true,st2)) :
 o.guard=none/\Goes C w0 S0 U st ts sv w o id (fun _=>st2.put o.dst .und)/\st2.nid=st.nid:=by
 unfold zBL at h;split at h
 ·rename_i T a d ho hgu;split at h
  ·rename_i t1 r p i off hT ha;split at h
   ·rename_i R t l c hRr hn hsp;split at h
    ·rename_i hcond;simp only [Bool.and_eq_true,decide_eq_true_eq,Nat.beq_eq_true_eq] at hcond;obtain ⟨⟨⟨hown,hdd⟩,hrr⟩,hfit⟩:=hcond;have hdd:=Nat.eq_of_beq_eq_true hdd;have hrr:=Nat.eq_of_beq_eq_true hrr;subst hdd hrr;split at h
     ·rename_i l' hset;split at h
      ·rename_i m hput;simp only [Option.some.injEq,Prod.mk.injEq] at h;obtain ⟨rfl,rfl⟩:=h;refine ⟨hgu,?_,rfl⟩;have hpp:=zq1 hsp;obtain ⟨n0,bv,offv,capv,R',hn0,hrn,hln,hve,hvrep,hR',hwhere⟩:=hL;rw [hRr] at hR';cases hR';obtain ⟨hav,hai⟩:=zbR hS ha;obtain ⟨b,o2,len,cap,t1',e1,e2,e3,e4,e5⟩:=hav.2 R hRr;have hM:=hS.mem;have hrep:=hM.rep _ R hRr;rw [hown] at hrep;obtain ⟨t',l0,S1,f1,f2,f3,f4,f5⟩:=Rep.focus p hrep e1;have hg1:zgG R.t R.l p=some (.s t l):=by
        obtain ⟨R',hR',hg'⟩:=zgd hn;rw [hRr] at hR';cases hR';exact hg'
       rw [hg1] at f1;cases f1;rw [e2] at f2;cases f2;obtain ⟨_,_,_,_,fwp⟩:=f5 w l S1 (fun _ _ _=>rfl) (fun _ h _=>h) f3;cases f3 with
       | void _ _ _ ho=>cases ho
       | sl _ _ _ _ _ arr e' fz V K _ hb hfz hlen1 hcap hsz hS' hsub hdis hvv hcc =>
       have hfz':=hfz rfl;subst hfz';have hRows:Rows true w t l arr o2 b V K S1:=⟨hsub,hdis,hvv,hcc⟩;have hone:v.oneCell'=true:=by rw [hve];rfl
       have hcells:v.cells = #[v]:=cells_one hone;have hfit':off+[v].length<=t.width:=by simp;omega
       have hrow:(i.toNat+1)*t.width<=cap*t.width:=Nat.mul_le_mul_right _ (by omega)
       rw [Nat.succ_mul] at hrow;have hrun:=zux (w:=w) (v:=v) (off:=o2+i.toNat*t.width+off) (hC.cty T false [.s t1] hT) hb (by rw [hcells];rfl) (by simp;omega) (by rw [hcells];intro u hu;simp at hu;rw [hu];exact hone)
       rw [hcells] at hrun;have hl1:(#[v]:Array Value).toList=[v]:=rfl;rw [hl1] at hrun;generalize hw1:w.setRow b (splice arr.toList (o2+i.toNat*t.width+off) [v]).toArray=w1 at hrun;have hb1:w1.heap[b]?=some (.cells (splice arr.toList (o2+i.toNat*t.width+off) [v]).toArray e' (0,0)):=by rw [<- hw1];exact setRow_heap w b _ _ e' _ hb
       have hoth:∀y,y≠b->w1.heap[y]?=w.heap[y]?:=fun y hy=>by rw [<- hw1];exact setRow_other w b y _ hy
       have hrb:E.φ x.r b:=f4 b hS';have hbn:b<n0:=hrn _ R hRr b hrb;have hold:∀i' j,i'<l.length->j<t.width->¬ Hit i.toNat off [v].length i' j->∀y,K i' j y->w1.heap[y]?=w.heap[y]?:=fun i' j hi' hj _ y hy=>hoth y ((hsub i' j y hi' hj hy).2 rfl)
       have hbv:n0<=bv\/K i.toNat off bv:=by
        rcases hwhere with h|⟨off1,len1,cap1,h⟩
        ·exact .inl h
        ·right
         rw [<- hpp,fwp] at h;simp only [zbi] at h;rw [if_pos ⟨e3,e4⟩] at h;split at h
         ·rename_i t3 hsh;rw [cell_of_block hb,hvv i.toNat off e4 hfit] at h;simp only [Option.some.injEq] at h;obtain ⟨c,hc,hct⟩:=zAk (x:=ix l i t.dflt) hsh;obtain ⟨l3,rfl⟩:=zlt hct;have hr3:=hcc i.toNat _ (zjX e4) off _ hc;rw [h] at hr3;cases hr3 with
          | void _ _ _ ho=>cases ho
          | sl _ _ _ _ _ _ _ _ _ _ _ _ _ _ _ _ hS3=>exact hS3
         ·cases h
       have hbvb:bv≠b:=by
        rcases hbv with h|h
        ·omega
        ·exact (hsub _ _ bv e4 hfit h).2 rfl
       have hset1:=Rep.setCells (w:=w) (w1:=w1) (us:=[v]) (Kn:=fun _ y=>y=bv) hlen1 hcap hsz hRows e4 rfl hfit' hset hb1 (fun k c u hc hu=>by
        cases k with
        | zero =>
         simp only [List.getElem?_cons_zero,Option.some.injEq] at hc hu;subst hc hu;exact hvrep.frame (fun y hy=>hoth y (by rw [hy];exact hbvb))
        | succ k=>simp at hc)
        hold
        (fun k y _ hy=>by rw [hy];exact hbvb)
        (fun k k' y hk hk' _ _=>by simp at hk hk';omega)
        (fun k y i' j hk hy hi' hj hnh hy'=>by
         subst hy;rcases hbv with h|h
         ·have:=hrn _ R hRr y (f4 y (hsub i' j y hi' hj hy').1);omega
         ·have:=hdis rfl _ _ _ _ y e4 hfit hi' hj h hy';exact hnh ⟨this.1.symm,by omega,by simp;omega⟩)
       have hS2:∀y,(y=b\/(∃i' j,i'<l.length/\j<t.width/\¬ Hit i.toNat off [v].length i' j/\K i' j y)\/∃k,k<[v].length/\y=bv)->S1 y\/(n0<=y/\y=bv):=by
        intro y hy;rcases hy with rfl|⟨i',j,hi',hj,_,hk⟩|⟨k,hk,rfl⟩
        ·exact .inl hS'
        ·exact .inl (hsub i' j y hi' hj hk).1
        ·rcases hbv with h|h
         ·exact .inr ⟨h,rfl⟩
         ·exact .inl (hsub _ _ _ e4 hfit h).1
       obtain ⟨m',hm',hrm,hh1,hh2⟩:=f5 w1 l' _ (fun y hy hny=>hoth y (fun e=>hny (e ▸ hS'))) (fun y hy hy'=>by
        rcases hS2 y hy with h|⟨h,_⟩
        ·exact h
        ·have:=hrn _ R hRr y hy';omega) hset1
       rw [hput] at hm';cases hm';have hsz1:w1.heap.size=w.heap.size:=by rw [<- hw1];simp
       have hbvlt:bv<w.heap.size:=(zYw hvrep hve).1;have hsim:=zBH (w1:=w1) (m:=m) (js:=[cols p++[off]]) hn0 hrn hln hS hRr hown (by rw [<- hw1];rfl) (by rw [<- hw1];rfl) (by rw [<- hw1];rfl) (by omega) (fun y _ hny=>hoth y (fun e=>hny (e ▸ hrb))) (fun y hy=>by
        rcases hy with ⟨hy,_⟩|hy
        ·exact ⟨.inl hy,by have:=hM.rlt _ R hRr y hy;omega⟩
        ·rcases hS2 y hy with h|⟨h,rfl⟩
         ·exact ⟨.inl (f4 y h),by have:=hM.rlt _ R hRr y (f4 y h);omega⟩
         ·exact ⟨.inr h,by omega⟩) hrm (fun q u hq hns=>by
        rcases zzX p q with ⟨q',rfl⟩|hnp
        ·rw [hh2 q'];rw [fwp q'] at hq;refine zsU (us:=[v]) hcap hsz hRows hb e4 rfl hfit' hset hb1 hold q' (fun i' j q'' he k c hj hck=>?_) hoth hq;subst he hj;cases k with
         | succ k=>simp at hck
         | zero =>
          exfalso;have h9:=List.any_eq_false.1 hns (cols p++[off]) (by simp)
          exact absurd (zwy p i' off q'') h9
        ·exact hh1 q u hq (fun q' he=>absurd ⟨q',he⟩ hnp))
       have hput2:=hsim.putV (dst:=o.dst) (m:=.und) (v:=undef) rfl (fun n hn=>by simp [MV.ids,zbU] at hn)
       refine zBq (w':=w1) ?_ ⟨hput2.mem,⟨fun n R hn=>.inl (hput2.ids.ro n R hn),fun n cs hn=>⟨.inl (hput2.ids.lo n cs hn).1,fun a ha m hm=>.inl ((hput2.ids.lo n cs hn).2 a ha m hm)⟩,fun m hm n hn=>.inl (hput2.ids.tm m hm n hn),fun f hf m hm n hn=>.inl (hput2.ids.stk f hf m hm n hn)⟩,hput2.tm,hput2.stk⟩;have hev:({ tmps:=ts,defers:=[] }:Act).eval (.tmp x.dst)=v:=by simp [Act.eval,hv0]
       simp [execOp,ho,Instr.storeAt,e5,Instr.sureAddr,hev,hrun]
      ·cases h
     ·cases h
    ·cases h
   ·cases h
  ·cases h
 ·cases h
end
end
end Go.Proofs.YtdmheolglokabaaGreat.E
