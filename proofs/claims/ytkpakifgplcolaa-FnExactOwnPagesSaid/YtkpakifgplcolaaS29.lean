/- What is proved here: a region whose order is drawn does what the evaluator says, in each order. -/
import Derived.Test.YtkpakifgplcolaaS28
namespace Go.Proofs.Ytkpakifgplcolaa.E
open Go

section
variable {C : Cfg} {w0 w w1 : World} {S0 : BSet} {U : Nat → Prop} {st st1 : St} {E E1 : Env} {ts : Array Value} {sv : List (Array Value)}
variable {ops : Array Oper} {b : Bool} {base : Nat} {cl : List (List Nat)} {ss : List Step} {st0 : St}

/-! A draw changes nothing that is spoken of. -/

theorem hdrAt_heap {w w' : World} (h : w'.heap = w.heap) : ∀ (p : List (Int × Nat)) (t : Ty) (v : Value), hdrAt w' t v p = hdrAt w t v p
  | [], t, v => by simp only [hdrAt]
  | (i, j) :: p, t, v => by
    have hc : ∀ a, w'.cell? a = w.cell? a := fun a => by simp only [World.cell?, h]
    have ih := hdrAt_heap h p
    cases v with
    | slice a len cap => cases a <;> simp only [hdrAt, hc, ih]
    | _ => simp only [hdrAt]

theorem Sim.heap (hS : Sim w0 S0 U st E ts sv w) {w' : World} (h1 : w'.heap = w.heap) (h2 : w'.os = w.os) (h3 : w'.tape = w.tape) (h4 : w'.output = w.output) : Sim w0 S0 U st E ts sv w' := by
  have T : Trans st E w st E w' (fun _ => True) := ⟨fun r _ R h => ⟨R, h, rfl, fun p u hu => by rw [hdrAt_heap h1]; exact hu⟩, fun l _ cs h => ⟨⟨cs, h⟩, rfl⟩, rfl⟩
  have hM := hS.mem
  refine ⟨⟨by rw [h2]; exact hM.os, by rw [h3]; exact hM.tape, by rw [h4]; exact hM.output, by rw [h1]; exact hM.size, fun b hb hn => by rw [h1]; exact hM.keep b hb hn,
    fun r R h => (hM.rep r R h).frame (fun x _ => by rw [h1]), fun r R h x hx => by rw [h1]; exact hM.rlt r R h x hx, hM.mine, hM.apart, fun l cs hl => ?_, hM.linj, hM.lro, hM.epo, hM.κ⟩, hS.ids,
    Slots.tr T (fun _ _ _ _ => trivial) hS.tm, Stack.tr T (fun _ _ _ _ _ _ => trivial) hS.stk⟩
  obtain ⟨g1, vals, e, g2, g3, g4⟩ := hM.loc l cs hl
  exact ⟨g1, vals, e, by rw [h1]; exact g2, g3, fun j c u hc hu => ⟨(g4 j c u hc hu).1, VA.tr T (fun _ _ => trivial) (g4 j c u hc hu).2⟩⟩

/-- What looked into other slices may be looked at no more. -/
theorem Sim.blind (hS : Sim w0 S0 U st E ts sv w) (c : Bool) (n : Nat) : Sim w0 S0 U { st with nid := n, ep := if c then st.ep + 1 else st.ep } E ts sv w := by
  have h := hS.nid n
  cases c with
  | false => exact h
  | true =>
    refine h.fewer (fun _ => rfl) (fun _ => rfl) rfl (fun r R hR => ?_) (fun r R hR => ⟨R, hR⟩) (fun r R e hR he => ?_)
    · obtain ⟨g1, g2⟩ := root_aget hR
      have hn : R.ep = none := by
        rcases g2 with g2 | g2
        · exact g2
        · have := hS.mem.epo r R _ g1 g2
          simp only [if_true] at this
          omega
      show St.root { st with nid := n } r = some R
      unfold St.root
      have g3 : aget ({ st with nid := n } : St).ro r = some R := g1
      rw [g3]
      simp only [hn]
    · have := hS.mem.epo r R e hR he
      show e ≤ st.ep + 1
      omega

/-! The orders. -/

theorem cnt_lt {p q : Nat → Bool} : ∀ (l : List Nat), (∀ x ∈ l, q x = true → p x = true) → (∃ x ∈ l, p x = true ∧ q x = false) → l.countP q < l.countP p
  | [], _, h => by obtain ⟨x, hx, _⟩ := h; cases hx
  | a :: l, h1, h2 => by
    have hle : ∀ (m : List Nat), (∀ x ∈ m, q x = true → p x = true) → m.countP q ≤ m.countP p := fun m hm => List.countP_mono_left hm
    have hm := hle l (fun x hx => h1 x (by simp [hx]))
    simp only [List.countP_cons]
    cases hq : q a with
    | true =>
      rw [h1 a (by simp) hq]
      have : l.countP q < l.countP p := cnt_lt l (fun x hx => h1 x (by simp [hx])) (by
        obtain ⟨x, hx, g1, g2⟩ := h2
        rcases List.mem_cons.1 hx with rfl | hx
        · rw [hq] at g2; cases g2
        · exact ⟨x, hx, g1, g2⟩)
      simp only [if_true]
      omega
    | false =>
      cases hp : p a with
      | true => simp; omega
      | false =>
        have : l.countP q < l.countP p := cnt_lt l (fun x hx => h1 x (by simp [hx])) (by
          obtain ⟨x, hx, g1, g2⟩ := h2
          rcases List.mem_cons.1 hx with rfl | hx
          · rw [hp] at g1; cases g1
          · exact ⟨x, hx, g1, g2⟩)
        simp
        omega

def left (n : Nat) (listed : Array Bool) : Nat := (List.range n).countP fun i => !listed.getD i true

theorem left_set {listed : Array Bool} {n i : Nat} (hi : i < n) (hl : listed.getD i true = false) : left n (listed.setIfInBounds i true) < left n listed := by
  unfold left
  have hlt : i < listed.size := by
    rcases Nat.lt_or_ge i listed.size with h | h
    · exact h
    · simp [Array.getElem?_eq_none h] at hl
  refine cnt_lt _ (fun x _ hx => ?_) ⟨i, List.mem_range.2 hi, by rw [hl]; rfl, by simp [hlt]⟩
  by_cases hxi : i = x
  · subst hxi
    simp [hlt] at hx
  · rwa [getD_set_ne true hxi] at hx

theorem left_tail {listed : Array Bool} {T : Nat} : ∀ (n : Nat), (∀ i, i < n → listed.getD i true = decide (i < T)) → n - T ≤ left n listed
  | 0, _ => by simp
  | n + 1, h => by
    have ih := left_tail (listed := listed) (T := T) n (fun i hi => h i (by omega))
    unfold left at ih ⊢
    rw [List.range_succ, List.countP_append, List.countP_singleton, h n (by omega)]
    by_cases hn : n < T
    · omega
    · simp only [hn, decide_false, Bool.not_false, if_true]
      omega

/-- What the table of waits tells. -/
structure Waits (md : Region.Mode) (ops : Array Oper) (cl : List (List Nat)) (T : Nat) : Prop where
  at' : ∀ i, i < ops.size → cl.getD i [] = waits ops (cl.take i) i
  lt : ∀ i, i < ops.size → ∀ j ∈ cl.getD i [], j < i
  full : ∀ m, T ≤ m → m < ops.size → fullAt cl m = true
  le : T ≤ ops.size
  sub : ∀ e, Region.binds .any e = true → Region.binds md e = true
  rk : ∃ rk : Nat → Nat, ∀ (i : Nat) (o : Oper), ops[i]? = some o → ∀ e ∈ o.after, Region.binds md e = true → e.on < ops.size ∧ rk e.on < rk i

variable {md : Region.Mode}

theorem edge_of (hat : ∀ i, i < ops.size → cl.getD i [] = waits ops (cl.take i) i) {i : Nat} {o : Oper} (ho : ops[i]? = some o) {e : Edge} (he : e ∈ o.after) (hb : Region.binds .any e = true) : e.on ∈ cl.getD i [] := by
  have hi := (Array.getElem?_eq_some_iff.1 ho).1
  rw [hat i hi]
  simp only [waits, ho]
  exact List.mem_flatMap.2 ⟨e, by simpa using he, by rw [if_pos hb]; exact List.mem_cons_self⟩

theorem take_getD_mem {l : List (List Nat)} {i j k : Nat} (h : k ∈ (l.take i).getD j []) : k ∈ l.getD j [] := by
  rw [List.getD_eq_getElem?_getD, List.getElem?_take] at h
  rw [List.getD_eq_getElem?_getD]
  split at h
  · exact h
  · simp at h

theorem Waits.inv {T : Nat} (W : Waits md ops cl T) {i j : Nat} {o : Oper} (ho : ops[i]? = some o) (hj : j ∈ cl.getD i []) : ∃ e ∈ o.after, Region.binds .any e = true ∧ (j = e.on ∨ j ∈ cl.getD e.on []) := by
  have hi := (Array.getElem?_eq_some_iff.1 ho).1
  rw [W.at' i hi] at hj
  simp only [waits, ho] at hj
  obtain ⟨e, he, hj⟩ := List.mem_flatMap.1 hj
  split at hj
  · rename_i hb
    refine ⟨e, by simpa using he, hb, ?_⟩
    rcases List.mem_cons.1 hj with h | h
    · exact .inl h
    · exact .inr (take_getD_mem h)
  · cases hj

def XL (listed : Array Bool) (k : Nat) : Bool := listed.getD k false

theorem ready_waits {T : Nat} (W : Waits md ops cl T) {listed : Array Bool} (hX : ClosedX cl (XL listed)) {i : Nat} (hi : i ∈ Region.ready md ops listed) : ∀ j ∈ cl.getD i [], XL listed j = true := by
  obtain ⟨_, o, ho, hall⟩ := mem_ready.1 hi
  intro j hj
  obtain ⟨e, he, hb, h | h⟩ := W.inv ho hj
  · subst h; exact hall e he (W.sub e hb)
  · exact hX _ (hall e he (W.sub e hb)) j h

theorem least {p : Nat → Prop} : ∀ n, p n → ∃ m, m ≤ n ∧ p m ∧ ∀ j, j < m → ¬ p j := by
  intro n
  induction n using Nat.strongRecOn with
  | _ n ih =>
    intro hp
    by_cases h : ∃ j, j < n ∧ p j
    · obtain ⟨j, h1, h2⟩ := h
      obtain ⟨m, g1, g2, g3⟩ := ih j h1 h2
      exact ⟨m, by omega, g2, g3⟩
    · exact ⟨n, Nat.le_refl _, hp, fun j hj hpj => h ⟨j, hj, hpj⟩⟩

theorem ready_some {T : Nat} (W : Waits md ops cl T) {listed : Array Bool} (hsz : listed.size = ops.size) {i0 : Nat} (hi0 : i0 < ops.size) (hl0 : listed.getD i0 true = false) : ∃ i, i ∈ Region.ready md ops listed := by
  obtain ⟨rk, hrk⟩ := W.rk
  obtain ⟨n, _, ⟨i, hi, hl, hn⟩, hmin⟩ := least (p := fun n => ∃ i, i < ops.size ∧ listed.getD i true = false ∧ rk i = n) (rk i0) ⟨i0, hi0, hl0, rfl⟩
  refine ⟨i, mem_ready.2 ⟨hl, ops[i], by simp [hi], fun e he hb => ?_⟩⟩
  obtain ⟨h1, h2⟩ := hrk i ops[i] (by simp [hi]) e he hb
  cases h : listed.getD e.on false with
  | true => rfl
  | false =>
    exfalso
    refine hmin (rk e.on) (by omega) ⟨e.on, h1, ?_, rfl⟩
    have hlt : e.on < listed.size := by omega
    simp only [Array.getD, hlt, dif_pos] at h ⊢
    exact h

theorem XL_of {listed : Array Bool} {i : Nat} (hi : i < listed.size) : XL listed i = listed.getD i true := by
  simp [XL, hi]

theorem XL_set {listed : Array Bool} {i : Nat} (hi : i < listed.size) (k : Nat) : XL (listed.setIfInBounds i true) k = (XL listed k || k == i) := by
  unfold XL
  by_cases h : i = k
  · subst h
    simp [hi]
  · rw [getD_set_ne false h]
    have : (k == i) = false := by simp; omega
    rw [this, Bool.or_false]

theorem tail_any {T : Nat} (W : Waits md ops cl T) {P : Program} {Q : Exit → Act → World → Prop} : ∀ (fuel m : Nat) (listed : Array Bool) (a : Act) (w : World), listed.size = ops.size → T ≤ m → m ≤ ops.size →
    (∀ i, i < ops.size → listed.getD i true = decide (i < m)) → ops.size - m ≤ fuel → wpOps P ops Q (List.range' m (ops.size - m)) a w → wpAny P md ops Q fuel listed a w
  | fuel, m, listed, a, w, hsz, hT, hm, hl, hf, h => by
    by_cases he : m = ops.size
    · have hr : Region.ready md ops listed = [] := by
        refine List.eq_nil_iff_forall_not_mem.2 (fun i hi => ?_)
        obtain ⟨h0, o, ho, _⟩ := mem_ready.1 hi
        have hi := (Array.getElem?_eq_some_iff.1 ho).1
        rw [hl i hi] at h0
        simp at h0
        omega
      have hq : Q .normal a w := by
        subst he
        simpa [wpOps] using h
      cases fuel with
      | zero => exact ⟨hr, hq⟩
      | succ fuel => exact ⟨fun _ => hq, fun i hi => by rw [hr] at hi; cases hi⟩
    · have hlt : m < ops.size := by omega
      obtain ⟨fuel, rfl⟩ : ∃ f, fuel = f + 1 := ⟨fuel - 1, by omega⟩
      have hmin : ∀ j, j < m → XL listed j = true := fun j hj => by rw [XL_of (by omega), hl j (by omega)]; simp [hj]
      obtain ⟨i1, hmr⟩ := ready_some W hsz hlt (by rw [hl m hlt]; simp)
      refine ⟨fun h => (by rw [h] at hmr; cases hmr), fun i hi => ?_⟩
      have hclosed : ClosedX cl (XL listed) := by
        intro k hk j hj
        have hks : k < ops.size := by
          rcases Nat.lt_or_ge k listed.size with h | h
          · omega
          · simp [XL, Array.getElem?_eq_none h] at hk
        rw [XL_of (by omega), hl k hks] at hk
        simp at hk
        have := W.lt k hks j hj
        exact hmin j (by omega)
      obtain ⟨h0, o, ho, _⟩ := mem_ready.1 hi
      have his := (Array.getElem?_eq_some_iff.1 ho).1
      rw [hl i his] at h0
      simp only [decide_eq_false_iff_not, Nat.not_lt] at h0
      have hieq : i = m := by
        by_cases hne : i = m
        · exact hne
        · exfalso
          have hfull := W.full i (by omega) his
          simp only [fullAt, List.all_eq_true, List.mem_range, List.contains_eq_mem, decide_eq_true_eq] at hfull
          have := ready_waits W hclosed hi m (hfull m (by omega))
          rw [XL_of (by omega), hl m hlt] at this
          simp at this
      subst hieq
      have e : ops.size - i = (ops.size - (i + 1)) + 1 := by omega
      rw [e, List.range'_succ, wpOps_cons] at h
      refine wpOp_mono (fun a w h => tail_any W fuel (i + 1) (listed.setIfInBounds i true) a w (by simp [hsz]) (by omega) (by omega) (fun k hk => ?_) (by omega) h) h
      by_cases hik : i = k
      · subst hik
        simp [hsz, his]
      · rw [getD_set_ne true hik, hl k hk]
        congr 1
        simp only [eq_iff_iff]
        omega

theorem free_any (hC : CfgOk C) (hH : CtrOk C) {T : Nat} (W : Waits md ops cl T) (hT : ss.length = T) (F : Free C ops cl b base ss st0)
    (hb : b = false → ∀ k, k < T → mayBump ops k = false) (hd : b = true → Dead st0 ∧ 0 < st0.ep) (hM : ∀ k, k < T → ∀ n, Mine (base + 32 * k) n → ¬ U n)
    {Q : Exit → Act → World → Prop}
    (htail : ∀ (E' : Env) (ts' : Array Value) (w' : World), Sim w0 S0 (UX U base T (fun _ => true)) (foldX ops b (fun _ => true) 0 ss st0) E' ts' sv w' → wpOps C.P ops Q (List.range' T (ops.size - T)) { tmps := ts', defers := [] } w') :
    ∀ (fuel : Nat) (listed : Array Bool) (E : Env) (ts : Array Value) (w : World), listed.size = ops.size → ClosedX cl (XL listed) → (∀ m, T ≤ m → m < ops.size → XL listed m = false) → left ops.size listed ≤ fuel →
      Sim w0 S0 (UX U base T (XL listed)) (foldX ops b (XL listed) 0 ss st0) E ts sv w → wpAny C.P md ops Q fuel listed { tmps := ts, defers := [] } w
  | fuel, listed, E, ts, w, hsz, hX, hlow, hf, hS => by
    by_cases hall : ∀ i, i < T → XL listed i = true
    · have hle := W.le
      have hl : ∀ i, i < ops.size → listed.getD i true = decide (i < T) := by
        intro i hi
        rw [← XL_of (by omega)]
        by_cases h : i < T
        · rw [hall i h]; simp [h]
        · rw [hlow i (by omega) hi]; simp [h]
      have hfuel : ops.size - T ≤ fuel := by
        exact Nat.le_trans (left_tail ops.size hl) hf
      refine tail_any W fuel T listed _ w hsz (Nat.le_refl _) hle hl hfuel (htail E ts w ?_)
      have e : foldX ops b (XL listed) 0 ss st0 = foldX ops b (fun _ => true) 0 ss st0 := foldX_congr ss 0 st0 (fun k _ hk => hall k (by omega))
      rw [e] at hS
      refine hS.uses ?_
      rintro n (h | ⟨k, h1, _, h3⟩)
      · exact .inl h
      · exact .inr ⟨k, h1, rfl, h3⟩
    · have hex : ∃ i, i < T ∧ XL listed i = false := by
        refine Classical.byContradiction (fun hn => hall (fun i hi => ?_))
        cases h : XL listed i with
        | true => rfl
        | false => exact absurd ⟨i, hi, h⟩ hn
      obtain ⟨i0, hi0, hi0X⟩ := hex
      have hle := W.le
      have hu0 : listed.getD i0 true = false := by rw [← XL_of (by omega)]; exact hi0X
      obtain ⟨i1, hmr⟩ := ready_some W hsz (by omega) hu0
      have hpos : 0 < left ops.size listed := by
        have := left_set (listed := listed) (n := ops.size) (i := i0) (by omega) hu0
        omega
      obtain ⟨fuel, rfl⟩ : ∃ f, fuel = f + 1 := ⟨fuel - 1, by omega⟩
      refine ⟨fun h => (by rw [h] at hmr; cases hmr), fun i hi => ?_⟩
      obtain ⟨h0, o, ho, _⟩ := mem_ready.1 hi
      have his := (Array.getElem?_eq_some_iff.1 ho).1
      have hiX : XL listed i = false := by rw [XL_of (by omega)]; exact h0
      have hw := ready_waits W hX hi
      have hiT : i < T := by
        refine Classical.byContradiction (fun hn => ?_)
        have hfull := W.full i (by omega) his
        simp only [fullAt, List.all_eq_true, List.mem_range, List.contains_eq_mem, decide_eq_true_eq] at hfull
        have := hw i0 (hfull i0 (by omega))
        rw [hi0X] at this
        cases this
      refine free_step hC hH hT F (Y := XL (listed.setIfInBounds i true)) hX hiT hiX hw hb hd hM (XL_set (by omega)) hS (fun E' ts' w' hS' => ?_)
      refine free_any hC hH W hT F hb hd hM htail fuel (listed.setIfInBounds i true) E' ts' w' (by simp [hsz]) ?_ ?_ ?_ hS'
      · intro k hk j hj
        rw [XL_set (by omega)] at hk ⊢
        by_cases hki : k = i
        · subst hki
          rw [hw j hj]; rfl
        · have : (k == i) = false := by simp [hki]
          rw [this, Bool.or_false] at hk
          rw [hX k hk j hj]; rfl
      · intro m hm hms
        rw [XL_set (by omega), hlow m hm hms]
        simp; omega
      · have := left_set (listed := listed) (n := ops.size) his h0
        omega

theorem draw_ok (hC : CfgOk C) (hH : CtrOk C) (hG : GraftOk C) (hN : NameOk C) : DrawOk C := by
  refine ⟨fun call hcall ops k ans Q w0 S0 sv U0 nid0 U st E ts w hk hS hU hF hn h t => ?_⟩
  unfold denDrawn at h
  simp only at h
  generalize hcl : closureOf ops (List.range ops.size) [] = cl at h
  generalize hTe : tailOf cl ops.size = T at h
  generalize hbe : (List.range T).any (mayBump ops) = b at h
  rw [List.range_eq_range'] at h
  obtain ⟨ss, gs, st', hlen, htr, hok, hden⟩ := denDraw_trace T 0 [] _ h
  rw [List.append_nil] at hok
  have hTle : T ≤ ops.size := by rw [← hTe]; exact tail_le cl _
  unfold drawOk at hok
  simp only [Bool.and_eq_true, Bool.not_eq_true', List.all_eq_true, List.mem_range, decide_eq_true_eq, Bool.or_eq_true, decide_eq_false_iff_not, List.contains_eq_mem, List.mem_reverse] at hok
  obtain ⟨⟨hdep, hlt⟩, hap⟩ := hok
  have hatc : ∀ i, i < ops.size → cl.getD i [] = waits ops (cl.take i) i := fun i hi => by rw [← hcl]; exact closure_at hi
  have hord : ∀ (md : Region.Mode) (rk : Nat → Nat), orderly md ops rk = true → ∃ rk : Nat → Nat, ∀ (i : Nat) (o : Oper), ops[i]? = some o → ∀ e ∈ o.after, Region.binds md e = true → e.on < ops.size ∧ rk e.on < rk i := by
    intro md rk h
    refine ⟨rk, fun i o ho e he hb => ?_⟩
    have := List.all_eq_true.1 h i (List.mem_range.2 (Array.getElem?_eq_some_iff.1 ho).1)
    rw [ho] at this
    have := List.all_eq_true.1 this e (by simpa using he)
    simpa [hb] using this
  have mkW : ∀ (md : Region.Mode), (∀ e, Region.binds .any e = true → Region.binds md e = true) → (∃ rk : Nat → Nat, ∀ (i : Nat) (o : Oper), ops[i]? = some o → ∀ e ∈ o.after, Region.binds md e = true → e.on < ops.size ∧ rk e.on < rk i) → Waits md ops cl T :=
    fun md h1 h2 => ⟨hatc, hlt, fun m h1 h2 => tail_full cl ops.size m (by omega) h2, hTle, h1, h2⟩
  have hsubT : ∀ e, Region.binds .any e = true → Region.binds .text e = true := fun e h => by
    unfold Region.binds at *
    cases hg : e.ground <;> rw [hg] at h <;> simp at h ⊢
  have hsubG : ∀ e, Region.binds .any e = true → Region.binds .gc e = true := fun e h => by
    unfold Region.binds at *
    cases hg : e.ground <;> rw [hg] at h <;> simp at h ⊢
  have hmodes : ∃ md t', Region.schedule (C.P.follows .mixedOrders) ops t = Region.linearise md ops t' ∧ Waits md ops cl T := by
    have anyW : Waits .any ops cl T := mkW .any (fun _ h => h) ⟨fun i => i, fun i o ho e he hb => by
      have h1 := edge_of hatc ho he hb
      have hi := (Array.getElem?_eq_some_iff.1 ho).1
      have h2 := hlt i hi _ h1
      exact ⟨by omega, h2⟩⟩
    unfold Region.schedule
    by_cases hm : (C.P.follows .mixedOrders || !Region.departs ops) = true
    · rw [if_pos hm]
      exact ⟨.any, t, rfl, anyW⟩
    · rw [if_neg hm]
      have hd : Region.departs ops = true := by
        cases h : Region.departs ops with
        | true => rfl
        | false => rw [h] at hm; simp at hm
      rw [hd, cond_true, Bool.and_eq_true] at hdep
      by_cases ht : (t % 2 == 0) = true
      · rw [if_pos ht]
        exact ⟨.text, t / 2, rfl, mkW .text hsubT (hord .text _ hdep.1)⟩
      · rw [if_neg ht]
        exact ⟨.gc, t / 2, rfl, mkW .gc hsubG (hord .gc _ hdep.2)⟩
  generalize hst0 : ({ st with nid := st.nid + 32 * ops.size, ep := if b then st.ep + 1 else st.ep } : St) = st0 at htr
  have hat := trace_at htr
  simp only [Nat.zero_add] at hat
  have F : Free C ops cl b st.nid ss st0 := by
    refine ⟨fun i s hs => ?_, fun i k s s' o o' f f' hs hs' ho ho' h1 h2 hik hni => ?_⟩
    · obtain ⟨o, f, g1, g2, g3⟩ := hat i s hs
      exact ⟨o, f, g1, g3⟩
    · obtain ⟨o1, f1, g1, g2, g3⟩ := hat i s hs
      obtain ⟨o2, f2, e1, e2, e3⟩ := hat k s' hs'
      rw [ho] at g1
      cases g1
      rw [ho'] at e1
      cases e1
      have hf1 := at1_foot h1 g3
      have hf2 := at1_foot h2 e3
      subst hf1 hf2
      rcases hap _ g2 _ e2 with (h | h) | h
      · exact absurd hik h
      · exact absurd h hni
      · exact h
  have hS0 : Sim w0 S0 U st0 E ts sv w := by rw [← hst0]; exact hS.blind b _
  have hb : b = false → ∀ k, k < T → mayBump ops k = false := by
    intro hb k hk
    rw [hb] at hbe
    have := List.any_eq_false.1 hbe k (List.mem_range.2 hk)
    simpa using this
  have hd : b = true → Dead st0 ∧ 0 < st0.ep := by
    intro hb
    subst hb
    rw [← hst0]
    refine ⟨fun n R e hR he => ?_, by simp⟩
    have := hS.mem.epo n R e hR he
    simp only [if_true]
    omega
  have hnid : st0.nid = st.nid + 32 * ops.size := by rw [← hst0]
  have hM : ∀ k, k < T → ∀ n, Mine (st.nid + 32 * k) n → ¬ U n := fun k _ n hn' => hF n (by have := hn'.1; omega)
  have hfin : st' = foldX ops b (fun _ => true) 0 ss st0 := trace_end htr
  have htail : ∀ (E' : Env) (ts' : Array Value) (w' : World), Sim w0 S0 (UX U st.nid T (fun _ => true)) (foldX ops b (fun _ => true) 0 ss st0) E' ts' sv w' → wpOps C.P ops Q (List.range' T (ops.size - T)) { tmps := ts', defers := [] } w' := by
    intro E' ts' w' hS'
    rw [← hfin] at hS'
    have hnid' : st'.nid = st.nid + 32 * ops.size := by rw [hfin, foldX_nid, hnid]
    refine denOps_sound hC hH hG hN hcall (base := st.nid) (U0 := U0) hn hk (List.range' T (ops.size - T)) _ st' E' ts' w' hS' ?_ ?_ ?_ (List.nodup_range') (by omega) (fun j hj => ?_) hden
    · rintro n (h | ⟨k, h1, _, h3⟩)
      · exact hU n h
      · exact .inr (by have := h3.1; omega)
    · rintro n hn' (h | ⟨k, h1, _, h3⟩)
      · exact hF n (by omega) h
      · have := h3.2
        omega
    · rintro j hj n hm (h | ⟨k, h1, _, h3⟩)
      · exact hF n (by have := hm.1; omega) h
      · refine mine_ne (i := k) (j := j) (fun e => ?_) h3 hm
        have := List.mem_range'.1 hj
        omega
    · have := List.mem_range'.1 hj
      omega
  obtain ⟨md, t', hsch, W⟩ := hmodes
  rw [hsch]
  refine wpAny_sound ops.size t' _ _ _ ?_
  have hX0 : ∀ k, XL (Array.replicate ops.size false) k = false := by
    intro k
    unfold XL
    by_cases h : k < ops.size <;> simp [h]
  have hoff : foldX ops b (XL (Array.replicate ops.size false)) 0 ss st0 = st0 := foldX_off ss 0 st0 (fun k _ => hX0 k)
  refine free_any hC hH W hlen F hb hd hM htail ops.size _ E ts _ (by simp) (fun k hk => by rw [hX0] at hk; cases hk) (fun m _ _ => hX0 m) ?_ ?_
  · unfold left
    exact Nat.le_trans (List.countP_le_length) (by simp)
  · rw [hoff]
    exact (hS0.heap (w' := { w with drawn := w.drawn + 1 }) rfl rfl rfl rfl).uses (fun n h => .inl h)

end
end Go.Proofs.Ytkpakifgplcolaa.E
