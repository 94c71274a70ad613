/- What is proved here: a region whose order is drawn does what the evaluator says, in each order. -/
import Derived.Test.YtcfnaifggdelnaaS36
namespace Go.Proofs.Ytcfnaifggdelnaa.E
open Go

section
variable {C : Cfg} {w0 w w1 : World} {S0 : BSet} {U : Nat → Prop} {st st1 : St} {E E1 : Env} {ts : Array Value} {sv : List (Array Value)}
variable {ops : Array Oper} {b : Bool} {base : Nat} {cl : List (List Nat)} {ss : List Step} {st0 : St}

/-! A draw changes nothing that is spoken of. -/

theorem hdrAt_heap {w w' : World} (h : w'.heap = w.heap) : ∀ (p : List (Int × Nat)) (t : Ty) (v : Value), hdrAt w' t v p = hdrAt w t v p
  | [], t, v => by simp only [hdrAt]
  | (i, j) :: p, t, v => by
    have hc : ∀ a, w'.cell? a = w.cell? a := fun a => by simp only [World.cell?, h]
    have ih := hdrAt_heap h p
    cases v with
    | slice a len cap => cases a <;> simp only [hdrAt, hc, ih]
    | _ => simp only [hdrAt]

theorem Sim.heap (hS : Sim w0 S0 U st E ts sv w) {w' : World} (h1 : w'.heap = w.heap) (h2 : w'.os = w.os) (h3 : w'.tape = w.tape) (h4 : w'.output = w.output) : Sim w0 S0 U st E ts sv w' := by
  have T : Trans st E w st E w' (fun _ => True) := ⟨fun r _ R h => ⟨R, h, rfl, fun p u hu => by rw [hdrAt_heap h1]; exact hu⟩, fun l _ cs h => ⟨⟨cs, h⟩, rfl⟩, rfl⟩
  have hM := hS.mem
  refine ⟨⟨by rw [h2]; exact hM.os, by rw [h3]; exact hM.tape, by rw [h4]; exact hM.output, by rw [h1]; exact hM.size, fun b hb hn => by rw [h1]; exact hM.keep b hb hn,
    fun r R h => (hM.rep r R h).frame (fun x _ => by rw [h1]), fun r R h x hx => by rw [h1]; exact hM.rlt r R h x hx, hM.mine, hM.apart, fun l cs hl => ?_, hM.linj, hM.lro, hM.epo, hM.κ⟩, hS.ids,
    Slots.tr T (fun _ _ _ _ => trivial) hS.tm, Stack.tr T (fun _ _ _ _ _ _ => trivial) hS.stk⟩
  obtain ⟨g1, vals, e, g2, g3, g4⟩ := hM.loc l cs hl
  exact ⟨g1, vals, e, by rw [h1]; exact g2, g3, fun j c u hc hu => ⟨(g4 j c u hc hu).1, VA.tr T (fun _ _ => trivial) (g4 j c u hc hu).2⟩⟩

/-- What looked into other slices may be looked at no more. -/
theorem Sim.blind (hS : Sim w0 S0 U st E ts sv w) (c : Bool) (n : Nat) : Sim w0 S0 U { st with nid := n, ep := if c then st.ep + 1 else st.ep } E ts sv w := by
  have h := hS.nid n
  cases c with
  | false => exact h
  | true =>
    refine h.fewer (fun _ => rfl) (fun _ => rfl) rfl (fun r R hR => ?_) (fun r R hR => ⟨R, hR⟩) (fun r R e hR he => ?_)
    · obtain ⟨g1, g2⟩ := root_aget hR
      have hn : R.ep = none := by
        rcases g2 with g2 | g2
        · exact g2
        · have := hS.mem.epo r R _ g1 g2
          simp only [if_true] at this
          omega
      show St.root { st with nid := n } r = some R
      unfold St.root
      have g3 : aget ({ st with nid := n } : St).ro r = some R := g1
      rw [g3]
      simp only [hn]
    · have := hS.mem.epo r R e hR he
      show e ≤ st.ep + 1
      omega

/-! The orders. -/

theorem cnt_lt {p q : Nat → Bool} : ∀ (l : List Nat), (∀ x ∈ l, q x = true → p x = true) → (∃ x ∈ l, p x = true ∧ q x = false) → l.countP q < l.countP p
  | [], _, h => by obtain ⟨x, hx, _⟩ := h; cases hx
  | a :: l, h1, h2 => by
    have hle : ∀ (m : List Nat), (∀ x ∈ m, q x = true → p x = true) → m.countP q ≤ m.countP p := fun m hm => List.countP_mono_left hm
    have hm := hle l (fun x hx => h1 x (by simp [hx]))
    simp only [List.countP_cons]
    cases hq : q a with
    | true =>
      rw [h1 a (by simp) hq]
      have : l.countP q < l.countP p := cnt_lt l (fun x hx => h1 x (by simp [hx])) (by
        obtain ⟨x, hx, g1, g2⟩ := h2
        rcases List.mem_cons.1 hx with rfl | hx
        · rw [hq] at g2; cases g2
        · exact ⟨x, hx, g1, g2⟩)
      simp only [if_true]
      omega
    | false =>
      cases hp : p a with
      | true => simp; omega
      | false =>
        have : l.countP q < l.countP p := cnt_lt l (fun x hx => h1 x (by simp [hx])) (by
          obtain ⟨x, hx, g1, g2⟩ := h2
          rcases List.mem_cons.1 hx with rfl | hx
          · rw [hp] at g1; cases g1
          · exact ⟨x, hx, g1, g2⟩)
        simp
        omega

def left (n : Nat) (listed : Array Bool) : Nat := (List.range n).countP fun i => !listed.getD i true

theorem left_set {listed : Array Bool} {n i : Nat} (hi : i < n) (hl : listed.getD i true = false) : left n (listed.setIfInBounds i true) < left n listed := by
  unfold left
  have hlt : i < listed.size := by
    rcases Nat.lt_or_ge i listed.size with h | h
    · exact h
    · simp [Array.getElem?_eq_none h] at hl
  refine cnt_lt _ (fun x _ hx => ?_) ⟨i, List.mem_range.2 hi, by rw [hl]; rfl, by simp [hlt]⟩
  by_cases hxi : i = x
  · subst hxi
    simp [hlt] at hx
  · rwa [getD_set_ne true hxi] at hx

/-- What the table of waits tells. -/
structure Waits (md : Region.Mode) (ops : Array Oper) (cl : List (List Nat)) : Prop where
  at' : ∀ i, i < ops.size → cl.getD i [] = waits ops (cl.take i) i
  lt : ∀ i, i < ops.size → ∀ j ∈ cl.getD i [], j < i
  sub : ∀ e, Region.binds .any e = true → Region.binds md e = true
  rk : ∃ rk : Nat → Nat, ∀ (i : Nat) (o : Oper), ops[i]? = some o → ∀ e ∈ o.after, Region.binds md e = true → e.on < ops.size ∧ rk e.on < rk i

variable {md : Region.Mode}

theorem edge_of (hat : ∀ i, i < ops.size → cl.getD i [] = waits ops (cl.take i) i) {i : Nat} {o : Oper} (ho : ops[i]? = some o) {e : Edge} (he : e ∈ o.after) (hb : Region.binds .any e = true) : e.on ∈ cl.getD i [] := by
  have hi := (Array.getElem?_eq_some_iff.1 ho).1
  rw [hat i hi]
  simp only [waits, ho]
  exact List.mem_flatMap.2 ⟨e, by simpa using he, by rw [if_pos hb]; exact List.mem_cons_self⟩

theorem take_getD_mem {l : List (List Nat)} {i j k : Nat} (h : k ∈ (l.take i).getD j []) : k ∈ l.getD j [] := by
  rw [List.getD_eq_getElem?_getD, List.getElem?_take] at h
  rw [List.getD_eq_getElem?_getD]
  split at h
  · exact h
  · simp at h

theorem Waits.inv (W : Waits md ops cl) {i j : Nat} {o : Oper} (ho : ops[i]? = some o) (hj : j ∈ cl.getD i []) : ∃ e ∈ o.after, Region.binds .any e = true ∧ (j = e.on ∨ j ∈ cl.getD e.on []) := by
  have hi := (Array.getElem?_eq_some_iff.1 ho).1
  rw [W.at' i hi] at hj
  simp only [waits, ho] at hj
  obtain ⟨e, he, hj⟩ := List.mem_flatMap.1 hj
  split at hj
  · rename_i hb
    refine ⟨e, by simpa using he, hb, ?_⟩
    rcases List.mem_cons.1 hj with h | h
    · exact .inl h
    · exact .inr (take_getD_mem h)
  · cases hj

def XL (listed : Array Bool) (k : Nat) : Bool := listed.getD k false

theorem ready_waits (W : Waits md ops cl) {listed : Array Bool} (hX : ClosedX cl (XL listed)) {i : Nat} (hi : i ∈ Region.ready md ops listed) : ∀ j ∈ cl.getD i [], XL listed j = true := by
  obtain ⟨_, o, ho, hall⟩ := mem_ready.1 hi
  intro j hj
  obtain ⟨e, he, hb, h | h⟩ := W.inv ho hj
  · subst h; exact hall e he (W.sub e hb)
  · exact hX _ (hall e he (W.sub e hb)) j h

theorem least {p : Nat → Prop} : ∀ n, p n → ∃ m, m ≤ n ∧ p m ∧ ∀ j, j < m → ¬ p j := by
  intro n
  induction n using Nat.strongRecOn with
  | _ n ih =>
    intro hp
    by_cases h : ∃ j, j < n ∧ p j
    · obtain ⟨j, h1, h2⟩ := h
      obtain ⟨m, g1, g2, g3⟩ := ih j h1 h2
      exact ⟨m, by omega, g2, g3⟩
    · exact ⟨n, Nat.le_refl _, hp, fun j hj hpj => h ⟨j, hj, hpj⟩⟩

theorem ready_some (W : Waits md ops cl) {listed : Array Bool} (hsz : listed.size = ops.size) {i0 : Nat} (hi0 : i0 < ops.size) (hl0 : listed.getD i0 true = false) : ∃ i, i ∈ Region.ready md ops listed := by
  obtain ⟨rk, hrk⟩ := W.rk
  obtain ⟨n, _, ⟨i, hi, hl, hn⟩, hmin⟩ := least (p := fun n => ∃ i, i < ops.size ∧ listed.getD i true = false ∧ rk i = n) (rk i0) ⟨i0, hi0, hl0, rfl⟩
  refine ⟨i, mem_ready.2 ⟨hl, ops[i], by simp [hi], fun e he hb => ?_⟩⟩
  obtain ⟨h1, h2⟩ := hrk i ops[i] (by simp [hi]) e he hb
  cases h : listed.getD e.on false with
  | true => rfl
  | false =>
    exfalso
    refine hmin (rk e.on) (by omega) ⟨e.on, h1, ?_, rfl⟩
    have hlt : e.on < listed.size := by omega
    simp only [Array.getD, hlt, dif_pos] at h ⊢
    exact h

theorem XL_of {listed : Array Bool} {i : Nat} (hi : i < listed.size) : XL listed i = listed.getD i true := by
  simp [XL, hi]

theorem XL_set {listed : Array Bool} {i : Nat} (hi : i < listed.size) (k : Nat) : XL (listed.setIfInBounds i true) k = (XL listed k || k == i) := by
  unfold XL
  by_cases h : i = k
  · subst h
    simp [hi]
  · rw [getD_set_ne false h]
    have : (k == i) = false := by simp; omega
    rw [this, Bool.or_false]

theorem wpOp_exits {P : Program} {Q Q' : Exit → Act → World → Prop} (hQ : ∀ e, e ≠ .normal → ∀ a w, Q' e a w → Q e a w) {i : Nat} {K : Act → World → Prop} {a : Act} {w : World} (h : wpOp P ops Q' i K a w) : wpOp P ops Q i K a w := by
  have hlo : LetsOut Q' → LetsOut Q := by
    rintro ⟨a, w, h⟩
    exact ⟨a, w, hQ _ (by simp) a w h⟩
  unfold wpOp at h ⊢
  split
  · rename_i hn
    rw [hn] at h
    exact h
  · rename_i o ho
    simp only [ho] at h
    split
    · rename_i hw
      rw [if_pos hw] at h
      rcases h with h | ⟨h1, h2⟩
      · left
        unfold Oper.wp at *
        generalize (execOp a.eval o).run P w = r at *
        cases r with
        | ok n w' =>
          cases n <;> simp only [Oper.upon] at h ⊢ <;>
            first
              | exact h
              | exact h.mono (fun e w'' he => by
                  cases e with
                  | returned v => exact he
                  | panicked c => exact hQ _ (by simp) _ _ he
                  | outgrown => exact hlo he)
        | halt x w' =>
          cases x <;> simp only [Oper.upon] at h ⊢ <;> first | exact hQ _ (by simp) _ _ h | exact h
      · exact .inr ⟨h1, hlo h2⟩
    · rename_i hw
      rw [if_neg hw] at h
      exact h

theorem listed_closed (W : Waits md ops cl) {listed : Array Bool} {m : Nat} (hsz : listed.size = ops.size) (hl : ∀ i, i < ops.size → listed.getD i true = decide (i < m)) : ClosedX cl (XL listed) := by
  intro k hk j hj
  have hks : k < ops.size := by
    rcases Nat.lt_or_ge k listed.size with h | h
    · omega
    · simp [XL, Array.getElem?_eq_none h] at hk
  rw [XL_of (by omega), hl k hks] at hk
  simp at hk
  have := W.lt k hks j hj
  rw [XL_of (by omega), hl j (by omega)]
  simp
  omega

theorem none_any {P : Program} {Q : Exit → Act → World → Prop} {fuel : Nat} {listed : Array Bool} {a : Act} {w : World} (hl : ∀ i, i < ops.size → listed.getD i true = true) (h : Q .normal a w) : wpAny P md ops Q fuel listed a w := by
  have hr : Region.ready md ops listed = [] := by
    refine List.eq_nil_iff_forall_not_mem.2 (fun i hi => ?_)
    obtain ⟨h0, o, ho, _⟩ := mem_ready.1 hi
    have hi := (Array.getElem?_eq_some_iff.1 ho).1
    rw [hl i hi] at h0
    cases h0
  cases fuel with
  | zero => exact ⟨hr, h⟩
  | succ fuel => exact ⟨fun _ => h, fun i hi => by rw [hr] at hi; cases hi⟩

theorem pin_any (W : Waits md ops cl) {P : Program} {Q : Exit → Act → World → Prop} {fuel m : Nat} {listed : Array Bool} {a : Act} {w : World} (hsz : listed.size = ops.size) (hm : m < ops.size) (hp : Pinned ops.size cl m)
    (hl : ∀ i, i < ops.size → listed.getD i true = decide (i < m)) (hf : left ops.size listed ≤ fuel)
    (h : ∀ fl l', l'.size = ops.size → (∀ i, i < ops.size → l'.getD i true = decide (i < m + 1)) → left ops.size l' ≤ fl → fuel = fl + 1 → l' = listed.setIfInBounds m true → wpOp P ops Q m (wpAny P md ops Q fl l') a w) : wpAny P md ops Q fuel listed a w := by
  have hu : listed.getD m true = false := by rw [hl m hm]; simp
  obtain ⟨i1, hmr⟩ := ready_some W hsz hm hu
  have hlt := left_set (listed := listed) (n := ops.size) (i := m) hm hu
  obtain ⟨fuel, rfl⟩ : ∃ f, fuel = f + 1 := ⟨fuel - 1, by omega⟩
  refine ⟨fun h => (by rw [h] at hmr; cases hmr), fun i hi => ?_⟩
  obtain ⟨h0, o, ho, _⟩ := mem_ready.1 hi
  have his := (Array.getElem?_eq_some_iff.1 ho).1
  rw [hl i his] at h0
  simp only [decide_eq_false_iff_not, Nat.not_lt] at h0
  have hieq : i = m := by
    by_cases hne : i = m
    · exact hne
    · exfalso
      have := ready_waits W (listed_closed W hsz hl) hi m (hp.wait i (by omega) his)
      rw [XL_of (by omega), hu] at this
      cases this
  subst hieq
  refine h fuel _ (by simp [hsz]) (fun k hk => ?_) (by omega) rfl rfl
  by_cases hik : i = k
  · subst hik
    simp [hsz, his]
  · rw [getD_set_ne true hik, hl k hk]
    congr 1
    simp only [eq_iff_iff]
    omega

/-- Operations that may go in several orders, one after the other, with whatever is kept. -/
theorem any_of {a T : Nat} (W : Waits md ops cl) (hTs : T ≤ ops.size) (hpin : T < ops.size → Pinned ops.size cl T) {P : Program} {Q : Exit → Act → World → Prop} {J : (Nat → Bool) → Env → Array Value → World → Prop}
    (hcongr : ∀ X Y E ts w, (∀ k, a ≤ k → k < T → X k = Y k) → J X E ts w → J Y E ts w)
    (hstep : ∀ X Y i, ClosedX cl X → a ≤ i → i < T → X i = false → (∀ j ∈ cl.getD i [], X j = true) → (∀ k, Y k = (X k || k == i)) → ∀ E ts w, J X E ts w → ∀ K : Act → World → Prop, (∀ E' ts' w', J Y E' ts' w' → K { tmps := ts', defers := [] } w') → wpOp P ops Q i K { tmps := ts, defers := [] } w)
    (htail : ∀ (fl : Nat) (l' : Array Bool) (E' : Env) (ts' : Array Value) (w' : World), l'.size = ops.size → (∀ i, i < ops.size → l'.getD i true = decide (i < T)) → left ops.size l' ≤ fl → J (fun _ => true) E' ts' w' → wpAny P md ops Q fl l' { tmps := ts', defers := [] } w') :
    ∀ (fuel : Nat) (listed : Array Bool) (E : Env) (ts : Array Value) (w : World), listed.size = ops.size → ClosedX cl (XL listed) → (∀ i, i < a → XL listed i = true) → (∀ m, T ≤ m → m < ops.size → XL listed m = false) → left ops.size listed ≤ fuel →
      J (XL listed) E ts w → wpAny P md ops Q fuel listed { tmps := ts, defers := [] } w
  | fuel, listed, E, ts, w, hsz, hX, hbel, hlow, hf, hS => by
    by_cases hall : ∀ i, i < T → XL listed i = true
    · have hl : ∀ i, i < ops.size → listed.getD i true = decide (i < T) := by
        intro i hi
        rw [← XL_of (by omega)]
        by_cases h : i < T
        · rw [hall i h]; simp [h]
        · rw [hlow i (by omega) hi]; simp [h]
      exact htail fuel listed E ts w hsz hl hf (hcongr _ _ E ts w (fun k _ hk => hall k hk) hS)
    · have hex : ∃ i, i < T ∧ XL listed i = false := by
        refine Classical.byContradiction (fun hn => hall (fun i hi => ?_))
        cases h : XL listed i with
        | true => rfl
        | false => exact absurd ⟨i, hi, h⟩ hn
      obtain ⟨i0, hi0, hi0X⟩ := hex
      have hu0 : listed.getD i0 true = false := by rw [← XL_of (by omega)]; exact hi0X
      obtain ⟨i1, hmr⟩ := ready_some W hsz (by omega) hu0
      have hpos : 0 < left ops.size listed := by
        have := left_set (listed := listed) (n := ops.size) (i := i0) (by omega) hu0
        omega
      obtain ⟨fuel, rfl⟩ : ∃ f, fuel = f + 1 := ⟨fuel - 1, by omega⟩
      refine ⟨fun h => (by rw [h] at hmr; cases hmr), fun i hi => ?_⟩
      obtain ⟨h0, o, ho, _⟩ := mem_ready.1 hi
      have his := (Array.getElem?_eq_some_iff.1 ho).1
      have hiX : XL listed i = false := by rw [XL_of (by omega)]; exact h0
      have hw := ready_waits W hX hi
      have hia : a ≤ i := by
        refine Classical.byContradiction (fun hn => ?_)
        rw [hbel i (by omega)] at hiX
        cases hiX
      have hiT : i < T := by
        refine Classical.byContradiction (fun hn => ?_)
        have hp := hpin (by omega)
        by_cases hiT : i = T
        · subst hiT
          have := hw i0 (hp.full i0 hi0)
          rw [hi0X] at this
          cases this
        · have := hw T (hp.wait i (by omega) his)
          rw [hlow T (Nat.le_refl _) (by omega)] at this
          cases this
      refine hstep _ (XL (listed.setIfInBounds i true)) i hX hia hiT hiX hw (XL_set (by omega)) E ts w hS _ (fun E' ts' w' hS' => ?_)
      refine any_of W hTs hpin hcongr hstep htail fuel (listed.setIfInBounds i true) E' ts' w' (by simp [hsz]) ?_ ?_ ?_ ?_ hS'
      · intro k hk j hj
        rw [XL_set (by omega)] at hk ⊢
        by_cases hki : k = i
        · subst hki
          rw [hw j hj]; rfl
        · have : (k == i) = false := by simp [hki]
          rw [this, Bool.or_false] at hk
          rw [hX k hk j hj]; rfl
      · intro k hk
        rw [XL_set (by omega), hbel k hk]; rfl
      · intro m hm hms
        rw [XL_set (by omega), hlow m hm hms]
        simp; omega
      · have := left_set (listed := listed) (n := ops.size) his h0
        omega

theorem free_any (hC : CfgOk C) (hH : CtrOk C) {a T : Nat} (W : Waits md ops cl) (hT : a + ss.length = T) (hTs : T ≤ ops.size) (hpin : T < ops.size → Pinned ops.size cl T) (F : Free C ops cl b base a ss st0)
    (hb : b = false → ∀ k, a ≤ k → k < T → mayBump ops k = false) (hd : b = true → Dead st0 ∧ 0 < st0.ep) (hM : ∀ k, a ≤ k → k < T → ∀ n, Mine (base + 32 * k) n → ¬ U n)
    {Q : Exit → Act → World → Prop}
    (htail : ∀ (fl : Nat) (l' : Array Bool) (E' : Env) (ts' : Array Value) (w' : World), l'.size = ops.size → (∀ i, i < ops.size → l'.getD i true = decide (i < T)) → left ops.size l' ≤ fl →
      Sim w0 S0 (UX U base a T (fun _ => true)) (foldX ops b (fun _ => true) a ss st0) E' ts' sv w' → wpAny C.P md ops Q fl l' { tmps := ts', defers := [] } w') :
    ∀ (fuel : Nat) (listed : Array Bool) (E : Env) (ts : Array Value) (w : World), listed.size = ops.size → ClosedX cl (XL listed) → (∀ i, i < a → XL listed i = true) → (∀ m, T ≤ m → m < ops.size → XL listed m = false) → left ops.size listed ≤ fuel →
      Sim w0 S0 (UX U base a T (XL listed)) (foldX ops b (XL listed) a ss st0) E ts sv w → wpAny C.P md ops Q fuel listed { tmps := ts, defers := [] } w :=
  any_of (J := fun X E ts w => Sim w0 S0 (UX U base a T X) (foldX ops b X a ss st0) E ts sv w) W hTs hpin
    (fun X Y E ts w h hS => by
      rw [foldX_congr ss a st0 (fun k h1 h2 => h k h1 (by omega))] at hS
      refine hS.uses ?_
      rintro n (h1 | ⟨k, h0, h1, h2, h3⟩)
      · exact .inl h1
      · exact .inr ⟨k, h0, h1, by rw [← h k h0 h1]; exact h2, h3⟩)
    (fun X Y i hX hia hi hXi hr hY E ts w hS K hK => free_step hC hH hT F hX hia hi hXi hr hb hd hM hY hS hK) htail

/-! The append that comes last, below a slice of our own. -/

theorem get_put {st : St} {d : Nat} {m : MV} {κ : Key} (h : κ ≠ .tm d) : (st.put (some d) m).get κ = st.get κ := by
  cases κ with
  | tm t =>
    have : d ≠ t := fun e => h (by rw [e])
    simp [St.get, St.put, List.getElem?_set, this]
  | ro n => rfl
  | lo n => rfl

theorem agree_of {st st' : St} {o : Oper} (hep : st'.ep = st.ep) (htm : ∀ t ∈ opTmps o, st'.get (.tm t) = st.get (.tm t)) (hro : ∀ n ∈ (opAts st o).flatMap atIds, st'.get (.ro n) = st.get (.ro n)) (hlo : ∀ n ∈ (opAts st o).flatMap atLids, st'.get (.lo n) = st.get (.lo n)) : Agree st st' o.op.operands.toList := by
  refine ⟨hep, fun x hx => ?_, fun x hx m hm a ha => ?_⟩
  · cases x with
    | tmp t =>
      have ht : t ∈ opTmps o := by
        unfold opTmps
        exact List.mem_filterMap.2 ⟨_, hx, rfl⟩
      simp only [St.opnd, get_tm (htm t ht)]
    | _ => rfl
  · have hA : a ∈ opAts st o := by
      unfold opAts
      exact List.mem_flatMap.2 ⟨m, List.mem_filterMap.2 ⟨x, hx, hm⟩, ha⟩
    exact ⟨fun n hn => get_ro (hro n (List.mem_flatMap.2 ⟨a, hA, hn⟩)), fun n hn => get_lo (hlo n (List.mem_flatMap.2 ⟨a, hA, hn⟩))⟩

theorem apLow_congr {st st' : St} {o : Oper} (h : Agree st st' o.op.operands.toList) : apLow C st' o = apLow C st o := by
  cases hop : o.op with
  | call c =>
    rw [hop] at h
    have hp : ∀ x ∈ c.args.toList, x ∈ (Op.call c).operands.toList := fun x hx => by simp only [Op.operands, Call.operands, Array.toList_append, List.mem_append]; exact .inr hx
    simp only [apLow, hop]
    cases hd : o.dst with
    | none => rfl
    | some d =>
      cases hg : o.guard with
      | some g => rfl
      | none =>
        simp only
        cases hcb : c.callee with
        | builtin b =>
          cases b with
          | append =>
            simp only
            split
            · rename_i x y T T2 hca hct
              have hx := hp x (by rw [hca]; simp)
              have hy := hp y (by rw [hca]; simp)
              rw [h.at hx, h.at hy]
              split
              · cases hT : C.sty T with
                | none => rfl
                | some t =>
                  cases e : st.at x with
                  | none => rfl
                  | some a =>
                    cases a with
                    | sl r p =>
                      cases p with
                      | nil => rfl
                      | cons ij p =>
                        cases e2 : st.at y with
                        | none => rfl
                        | some b =>
                          cases b with
                          | sl r2 p2 => simp only [h.root (held_at hx e), h.node (held_at hx e), h.node (held_at hy e2)]
                          | _ => rfl
                    | _ => rfl
              · rfl
            · rfl
          | _ => rfl
        | _ => rfl
  | _ => simp only [apLow, hop]

theorem pure_sound (hC : CfgOk C) (hS : Sim w0 S0 U st E ts sv w) {o : Oper} {id : Nat} {d : Dl} (hp : pureOp o = true) (h : delta C st o id = some d) (hc : d.c = true) : o.guard = none ∧ PureD C U st E ts w o d := by
  unfold pureOp at hp
  simp only [Bool.and_eq_true, Option.isNone_iff_eq_none] at hp
  obtain ⟨hg, hp⟩ := hp
  refine ⟨hg, ?_⟩
  cases hop : o.op
  case move x =>
    rw [hop] at hp
    cases x with
    | tmp t =>
      simp only [delta, hop] at h
      split at h
      · rename_i v hv
        cases h
        exact p_move hS (.inl hop) hv
      · cases h
    | _ => simp at hp
  case load T x => exact p_load hC hS hop h
  case fieldAddr T x f => exact p_fieldAddr hC hS hop h
  case indexAddr T x y => exact p_indexAddr hC hS hop h hc
  case nilCheck x => exact p_nilCheck hS hop h
  all_goals (rw [hop] at hp; simp at hp)

theorem pure_run {o : Oper} {i : Nat} {d : Dl} {v : Value} {Q : Exit → Act → World → Prop} {K : Act → World → Prop} (ho : ops[i]? = some o) (hg : o.guard = none) (hr : (execOp ({ tmps := ts, defers := [] } : Act).eval o).run C.P w = .ok (.value v) w1)
    (h : K { tmps := (({ tmps := ts, defers := [] } : Act).put o.dst v).tmps, defers := [] } w1) : wpOp C.P ops Q i K { tmps := ts, defers := [] } w := by
  unfold wpOp
  simp only [ho]
  rw [if_pos (by simp [Region.wanted, hg])]
  left
  unfold Oper.wp
  rw [hr, Oper.upon_value, act_put]
  exact h

theorem put_slot {d t : Nat} {v u : Value} (h : ts[t]? = some u) (hne : d ≠ t) : (({ tmps := ts, defers := [] } : Act).put (some d) v).tmps[t]? = some u := by
  simp [Act.put, Array.getElem?_setIfInBounds_ne hne, h]

theorem late_any (hC : CfgOk C) (hH : CtrOk C) {a A : Nat} (W : Waits md ops cl) (hA : a + ss.length = A) (hTs : A + 1 ≤ ops.size) (hpin : A + 1 < ops.size → Pinned ops.size cl (A + 1)) (F : Free C ops cl b base a ss st0)
    (hb : b = false → ∀ k, a ≤ k → k < A → mayBump ops k = false) (hbt : b = true) (hd : b = true → Dead st0 ∧ 0 < st0.ep) (hM : ∀ k, a ≤ k → k < A → ∀ n, Mine (base + 32 * k) n → ¬ U n)
    {oA : Oper} {x : App} (hoA : ops[A]? = some oA) (hap : apLow C (foldX ops b (fun _ => true) a ss st0) oA = some (true, x)) (hlo : lateOk ops cl a A = true) (hlen : x.dst < (foldX ops b (fun _ => true) a ss st0).tm.length)
    (hfoot : ∀ i s o f, ss[i]? = some s → ops[a + i]? = some o → At1 C ops base (a + i) o (foldX ops b (fun j => decide (j < a + i)) a ss st0) f s → a + i ∉ cl.getD A [] → f.apart (lookFoot (foldX ops b (fun _ => true) a ss st0) ops oA badDl) = true)
    {Q : Exit → Act → World → Prop}
    (htail : ∀ (fl : Nat) (l' : Array Bool) (E' : Env) (ts' : Array Value) (w' : World) (v : Value), l'.size = ops.size → (∀ i, i < ops.size → l'.getD i true = decide (i < A + 1)) → left ops.size l' ≤ fl → ts'[x.dst]? = some v →
      Sim w0 S0 (UX U base a A (fun _ => true)) ((foldX ops b (fun _ => true) a ss st0).put oA.dst (.v (.at .bad))) E' ts' sv w' → Late w0 ((foldX ops b (fun _ => true) a ss st0).put oA.dst (.v (.at .bad))) E' x v w' → wpAny C.P md ops Q fl l' { tmps := ts', defers := [] } w')
    (fuel : Nat) (listed : Array Bool) (E : Env) (ts : Array Value) (w : World) (hsz : listed.size = ops.size) (hX : ClosedX cl (XL listed)) (hbel : ∀ i, i < a → XL listed i = true) (hlow : ∀ m, A ≤ m → m < ops.size → XL listed m = false) (hf : left ops.size listed ≤ fuel)
    (hS : Sim w0 S0 (UX U base a A (XL listed)) (foldX ops b (XL listed) a ss st0) E ts sv w) : wpAny C.P md ops Q fuel listed { tmps := ts, defers := [] } w := by
  have hdst : oA.dst = some x.dst ∧ oA.guard = none := by
    unfold apLow at hap
    split at hap
    · rename_i c d ho hdst hgu
      refine ⟨?_, hgu⟩
      rw [hdst]
      congr 1
      repeat' (first | (split at hap) | (cases hap))
      all_goals first | rfl | (simp only [Option.some.injEq, Prod.mk.injEq] at hap; obtain ⟨_, rfl⟩ := hap; rfl)
    · cases hap
  have huses : ∀ {X Y : Nat → Bool} {i : Nat}, (∀ k, Y k = (X k || k == i)) → ∀ n, UX U base a A X n → UX U base a A Y n := by
    intro X Y i hY n h
    rcases h with h | ⟨k, h0, h1, h2, h3⟩
    · exact .inl h
    · exact .inr ⟨k, h0, h1, by rw [hY, h2]; rfl, h3⟩
  have hfA : ∀ {X : Nat → Bool} (κ : Key), (∀ j ∈ cl.getD A [], X j = true) → (lookFoot (foldX ops b (fun _ => true) a ss st0) ops oA badDl).reads κ → (foldX ops b X a ss st0).get κ = (foldX ops b (fun _ => true) a ss st0).get κ := by
    intro X κ hr hκ
    refine foldX_agree ss a st0 st0 rfl rfl (fun k s' o' hk ho' hne hw => ?_)
    obtain ⟨o2, f', ho2, h2⟩ := F.at1 k s' hk
    rw [ho'] at ho2
    cases ho2
    have hXk : X (a + k) = false := by
      cases h : X (a + k) with
      | false => rfl
      | true => exact absurd h hne
    have hn : a + k ∉ cl.getD A [] := fun h => by rw [hr _ h] at hXk; cases hXk
    exact ((apart_spec (hfoot k s' o' f' hk ho' h2 hn)).1 κ ((at1_wr h2 κ).1 hw)).1 hκ
  refine any_of (T := A + 1) (J := fun X E ts w => (X A = false → Sim w0 S0 (UX U base a A X) (foldX ops b X a ss st0) E ts sv w) ∧
      (X A = true → ∃ v, ts[x.dst]? = some v ∧ Sim w0 S0 (UX U base a A X) ((foldX ops b X a ss st0).put oA.dst (.v (.at .bad))) E ts sv w ∧ Late w0 (foldX ops b X a ss st0) E x v w)) W hTs hpin ?_ ?_ ?_
    fuel listed E ts w hsz hX hbel (fun m h1 h2 => hlow m (by omega) h2) hf ⟨fun _ => hS, fun h => (by rw [hlow A (Nat.le_refl _) (by omega)] at h; cases h)⟩
  · intro X Y E ts w h hJ
    have hXA : X A = Y A := h A (by omega) (by omega)
    have e := foldX_congr (ops := ops) (b := b) ss a st0 (X := X) (Y := Y) (fun k h1 h2 => h k h1 (by omega))
    have hu : ∀ n, UX U base a A X n → UX U base a A Y n := by
      rintro n (h1 | ⟨k, h0, h1, h2, h3⟩)
      · exact .inl h1
      · exact .inr ⟨k, h0, h1, by rw [← h k h0 (by omega)]; exact h2, h3⟩
    refine ⟨fun hYA => ?_, fun hYA => ?_⟩
    · have := hJ.1 (hXA.trans hYA)
      rw [e] at this
      exact this.uses hu
    · obtain ⟨v, h1, h2, h3⟩ := hJ.2 (hXA.trans hYA)
      rw [e] at h2 h3
      exact ⟨v, h1, h2.uses hu, h3⟩
  · intro X Y i hX hia hi hXi hr hY E ts w hJ K hK
    by_cases hiA : i = A
    · subst hiA
      have hSX := hJ.1 hXi
      have hYX : foldX ops b Y a ss st0 = foldX ops b X a ss st0 := foldX_congr ss a st0 (fun k h1 h2 => by
        rw [hY]
        have : (k == i) = false := by simp; omega
        rw [this, Bool.or_false])
      have hag : Agree (foldX ops b (fun _ => true) a ss st0) (foldX ops b X a ss st0) oA.op.operands.toList :=
        agree_of (by rw [foldX_ep, foldX_ep]) (fun t ht => hfA (.tm t) hr (by simp only [Foot.reads, lookFoot]; exact List.mem_append_left _ ht)) (fun n hn => hfA (.ro n) hr hn) (fun n hn => hfA (.lo n) hr hn)
      have hapX := apLow_congr (C := C) hag
      rw [hap] at hapX
      have hdX : Dead (foldX ops b X a ss st0) := by
        subst hbt
        exact foldX_dead ss a st0 (hd rfl).1 (hd rfl).2
      obtain ⟨hg, hdA, v, w', hrun, hS', hL⟩ := low_step hC hSX hdX hapX
      refine pure_run (d := badDl) hoA hg hrun (hK E _ w' ⟨fun h => (by rw [hY] at h; simp at h), fun _ => ⟨v, ?_, ?_, ?_⟩⟩)
      · rw [hdA]
        have hlt : x.dst < ts.size := by
          rw [hSX.tm.1, foldX_len]
          rw [foldX_len] at hlen
          exact hlen
        simp [Act.put, hlt]
      · rw [hYX]
        exact hS'.uses (huses hY)
      · rw [hYX]
        exact hL
    · have hiA' : i < A := by omega
      have hYA : Y A = X A := by
        rw [hY]
        have : (A == i) = false := by simp; omega
        rw [this, Bool.or_false]
      cases hXA : X A with
      | false =>
        refine free_step hC hH hA F hX hia hiA' hXi hr hb hd hM hY (hJ.1 hXA) (fun E' ts' w' hS' => hK E' ts' w' ⟨fun _ => hS', fun h => (by rw [hYA, hXA] at h; cases h)⟩)
      | true =>
        obtain ⟨v, hv, hSX, hL⟩ := hJ.2 hXA
        obtain ⟨j, rfl⟩ : ∃ j, i = a + j := ⟨i - a, by omega⟩
        obtain ⟨s, hs⟩ : ∃ s, ss[j]? = some s := ⟨_, List.getElem?_eq_getElem (by omega)⟩
        obtain ⟨o, f, ho, h1, h2⟩ := free_reads F hX hs hXi hr
        have hnA : a + j ∉ cl.getD A [] := fun h => by rw [hX A hXA _ h] at hXi; cases hXi
        have hpo : pureOp o = true := by
          have := List.all_eq_true.1 hlo (a + j) (by simp; omega)
          simp only [ho, Bool.or_eq_true, List.contains_eq_mem, decide_eq_true_eq] at this
          rcases this with h | h
          · exact absurd h hnA
          · exact h
        have hapf := apart_spec (hfoot j s o f hs ho h1 hnA)
        have hwA : (lookFoot (foldX ops b (fun _ => true) a ss st0) ops oA badDl).writes (.tm x.dst) := by simp only [Foot.writes, lookFoot]; exact hdst.1
        have hne : ∀ κ, f.reads κ → κ ≠ .tm x.dst := fun κ hκ e => hapf.2 (.tm x.dst) hwA (e ▸ hκ)
        have hdne : o.dst ≠ some x.dst := fun e => (hapf.1 (.tm x.dst) ((at1_wr h1 (.tm x.dst)).1 (by cases s <;> exact e))).2 hwA
        have hep : ∀ Z, (foldX ops b Z a ss st0).ep = st0.ep := fun Z => foldX_ep ss a st0
        have hdoes := at1_does (S' := (foldX ops b X a ss st0).put oA.dst (.v (.at .bad))) h1 (by rw [hep, hdst.1]; exact hep X) (fun κ hκ => by rw [hdst.1, get_put (hne κ hκ)]; exact h2 κ hκ)
        have hg0 : o.guard = none := by
          unfold pureOp at hpo
          simp only [Bool.and_eq_true, Option.isNone_iff_eq_none] at hpo
          exact hpo.1
        cases s with
        | none =>
          exfalso
          have : guardSem ops o ((foldX ops b X a ss st0).put oA.dst (.v (.at .bad))) = some false := hdoes
          simp [guardSem, hg0] at this
        | some d =>
          obtain ⟨_, d2, d3⟩ := hdoes
          obtain ⟨_, v2, hrun, hvm, hids, e1, e2, e3⟩ := pure_sound hC hSX hpo d2 d3
          have hput : ∀ κ, (foldX ops b Y a ss st0).get κ = ((foldX ops b X a ss st0).put o.dst d.v).get κ := by
            intro κ
            rw [free_upd F hX hs ho hXi hY κ]
            simp only [St.step, St.effD, e1, e2, List.map_nil, List.nil_append]
          have hS2 : Sim w0 S0 (UX U base a A X) (((foldX ops b X a ss st0).put oA.dst (.v (.at .bad))).put o.dst d.v) E (({ tmps := ts, defers := [] } : Act).put o.dst v2).tmps sv w := hSX.putV hvm hids
          refine pure_run (d := d) ho hg0 hrun (hK E _ w ⟨fun h => (by rw [hYA, hXA] at h; cases h), fun _ => ⟨v, ?_, ?_, ?_⟩⟩)
          · cases hod : o.dst with
            | none => exact hv
            | some t => exact put_slot hv (fun e => hdne (by rw [hod, e]))
          · refine (hS2.same (fun κ => ?_) ?_ ?_).uses (huses hY)
            · rw [hdst.1]
              cases κ with
              | tm t =>
                have hk := hput (.tm t)
                have hl1 : (foldX ops b Y a ss st0).tm.length = (foldX ops b X a ss st0).tm.length := by rw [foldX_len, foldX_len]
                by_cases ht : t = x.dst
                · subst ht
                  cases hod : o.dst with
                  | none => simp [St.get, St.put, List.getElem?_set, hl1]
                  | some t' =>
                    have : t' ≠ x.dst := fun e => hdne (by rw [hod, e])
                    simp [St.get, St.put, List.getElem?_set, hl1, this]
                · have hne' : x.dst ≠ t := fun e => ht e.symm
                  rw [get_put (by simpa using ht), hk]
                  cases hod : o.dst with
                  | none => simp [St.get, St.put, List.getElem?_set, hne']
                  | some t' =>
                    simp only [St.get, St.put, List.getElem?_set, List.length_set]
                    split
                    · rfl
                    · first | rfl | rw [if_neg hne']
              | ro n =>
                have hk := hput (.ro n)
                rw [get_put (by simp), hk]
                cases o.dst <;> rfl
              | lo n =>
                have hk := hput (.lo n)
                rw [get_put (by simp), hk]
                cases o.dst <;> rfl
            · rw [hdst.1]
              have h1 : (foldX ops b Y a ss st0).stk = (foldX ops b X a ss st0).stk := by rw [foldX_stk, foldX_stk]
              cases o.dst <;> exact h1
            · rw [hdst.1]
              have h1 : (foldX ops b Y a ss st0).ep = (foldX ops b X a ss st0).ep := by rw [foldX_ep, foldX_ep]
              cases o.dst <;> exact h1
          · have hro : ∀ n, aget (foldX ops b Y a ss st0).ro n = aget (foldX ops b X a ss st0).ro n := fun n => by
              rw [get_ro (hput (.ro n))]
              cases o.dst <;> rfl
            have hlo' : ∀ n, aget (foldX ops b Y a ss st0).lo n = aget (foldX ops b X a ss st0).lo n := fun n => by
              rw [get_lo (hput (.lo n))]
              cases o.dst <;> rfl
            exact hL.states (fun n => by
              unfold St.root
              rw [hro n, hep Y, hep X]) hlo'
  · intro fl l' E' ts' w' hsz' hl' hf' hJ
    obtain ⟨v, h1, h2, h3⟩ := hJ.2 rfl
    refine htail fl l' E' ts' w' v hsz' hl' hf' h1 h2 (h3.states (fun n => ?_) (fun n => ?_))
    · rw [hdst.1]; rfl
    · rw [hdst.1]; rfl

/-- The numbers in use at operation `m`. -/
def VV (U : Nat → Prop) (base size m n : Nat) : Prop := U n ∨ (base ≤ n ∧ n < base + 32 * m) ∨ base + 32 * size ≤ n

theorem lateSegs_sound (hC : CfgOk C) (W : Waits md ops cl) {x : App} {kk : Nat → List Bool → St → Option Ans} {ans : Ans} {Q : Exit → Act → World → Prop}
    (hkk : ∀ (m' : Nat) (r' : List Bool) (U' : Nat → Prop) (st' : St) (E' : Env) (ts' : Array Value) (w' : World) (fl : Nat) (l' : Array Bool), r' = (pinsOf ops.size cl).drop m' → m' ≤ ops.size → l'.size = ops.size → (∀ i, i < ops.size → l'.getD i true = decide (i < m')) → left ops.size l' ≤ fl →
      Sim w0 S0 U' st' E' ts' sv w' → (∀ n, U' n → VV U base ops.size m' n) → (∀ n, st'.nid ≤ n → ¬ U' n) → base + 32 * ops.size ≤ st'.nid → kk m' r' st' = some ans → wpAny C.P md ops Q fl l' { tmps := ts', defers := [] } w') :
    ∀ (pins : List Bool) (m : Nat) (V : Nat → Prop) (st : St) (E : Env) (ts : Array Value) (w : World) (fuel : Nat) (listed : Array Bool) (v : Value), pins = (pinsOf ops.size cl).drop m → m ≤ ops.size → listed.size = ops.size → (∀ i, i < ops.size → listed.getD i true = decide (i < m)) → left ops.size listed ≤ fuel →
      Sim w0 S0 V st E ts sv w → (∀ n, V n → VV U base ops.size m n) → (∀ n, st.nid ≤ n → ¬ V n) → base + 32 * ops.size ≤ st.nid → ts[x.dst]? = some v → Late w0 st E x v w → lateSegs C ops base x kk pins m st = some ans → wpAny C.P md ops Q fuel listed { tmps := ts, defers := [] } w
  | [], m, V, st, E, ts, w, fuel, listed, v, _, _, _, _, _, _, _, _, _, _, _, h => by simp [lateSegs] at h
  | false :: r, m, V, st, E, ts, w, fuel, listed, v, _, _, _, _, _, _, _, _, _, _, _, h => by simp [lateSegs] at h
  | true :: r, m, V, st, E, ts, w, fuel, listed, v, hp, hm, hsz, hl, hf, hS, hV, hF, hn, hv, hL, h => by
    simp only [lateSegs] at h
    obtain ⟨hms, hpin, hr⟩ := pins_head hp
    have hV1 : ∀ n, V n → VV U base ops.size (m + 1) n := by
      rintro n hn'
      rcases hV n hn' with h | ⟨h1, h2⟩ | h
      · exact .inl h
      · exact .inr (.inl ⟨h1, by omega⟩)
      · exact .inr (.inr h)
    refine pin_any W hsz hms (pinned_spec hpin.symm) hl hf (fun fl l' hsz' hl' hf' _ _ => ?_)
    split at h
    · cases h
    · rename_i o ho
      split at h
      · rename_i c st2 hst
        cases hc : c with
        | false => rw [hc] at h; cases h
        | true =>
          rw [hc] at h hst
          simp only [cond_true, shared_eq] at h
          obtain ⟨hg, hgo, hnid⟩ := late_store (id := base + 32 * m) hC hS hL hv hst
          unfold wpOp
          simp only [ho]
          rw [if_pos (by simp [Region.wanted, hg])]
          refine .inl (hgo _ _ (fun E' v' w' hS' => ?_))
          rw [act_put]
          refine hkk (m + 1) r _ _ E' _ w' fl l' hr (by omega) hsz' hl' hf' hS' ?_ ?_ (by rw [put_nid]; omega) h
          · rintro n (h | ⟨h1, h2⟩)
            · exact hV1 n h
            · exact .inr (.inl ⟨by omega, by omega⟩)
          · rintro n hn' (h | ⟨h1, h2⟩)
            · exact hF n (by rw [put_nid] at hn'; omega) h
            · rw [put_nid] at hn'
              omega
      · split at h
        · rename_i hcond
          simp only [Bool.and_eq_true, Bool.not_eq_true', beq_eq_false_iff_ne] at hcond
          split at h
          · rename_i d hd
            cases hc : d.c with
            | false => rw [hc] at h; cases h
            | true =>
              rw [hc] at h
              simp only [cond_true] at h
              obtain ⟨hg, v2, hrun, hvm, hids, e1, e2, e3⟩ := pure_sound hC hS hcond.1 hd hc
              have he : st.apply o.dst d = st.put o.dst d.v := by simp [St.apply, e1, e2, e3]
              rw [he] at h
              refine pure_run (d := d) ho hg hrun ?_
              refine lateSegs_sound hC W hkk r (m + 1) V _ E _ w fl l' v hr (by omega) hsz' hl' hf' (hS.putV hvm hids) hV1 (by rw [put_nid]; exact hF) (by rw [put_nid]; exact hn) ?_ (hL.states (fun n => ?_) (fun n => ?_)) h
              · cases hod : o.dst with
                | none => exact hv
                | some t => exact put_slot hv (fun e => hcond.2 (by rw [hod, e]))
              · cases o.dst <;> rfl
              · cases o.dst <;> rfl
          · cases h
        · cases h

theorem denSegs_sound (hC : CfgOk C) (hH : CtrOk C) (hG : GraftOk C) (hN : NameOk C) {call : InCall} (hcall : CallOk C call) (W : Waits md ops cl) {k : St → Option Ans} {ans : Ans} {Q : Exit → Act → World → Prop} (hU0 : ∀ n, base ≤ n → ¬ U n)
    (hk : ∀ (U' : Nat → Prop) (st' : St) (E' : Env) (ts' : Array Value) (w' : World), Sim w0 S0 U' st' E' ts' sv w' → (∀ n, U' n → VV U base ops.size ops.size n) → base + 32 * ops.size ≤ st'.nid → (∀ n, st'.nid ≤ n → ¬ U' n) → k st' = some ans → Q .normal { tmps := ts', defers := [] } w') :
    ∀ (fs m : Nat) (pins : List Bool) (V : Nat → Prop) (st : St) (E : Env) (ts : Array Value) (w : World) (fuel : Nat) (listed : Array Bool), pins = (pinsOf ops.size cl).drop m → m ≤ ops.size → listed.size = ops.size → (∀ i, i < ops.size → listed.getD i true = decide (i < m)) → left ops.size listed ≤ fuel →
      Sim w0 S0 V st E ts sv w → (∀ n, V n → VV U base ops.size m n) → (∀ n, st.nid ≤ n → ¬ V n) → base + 32 * ops.size ≤ st.nid → denSegs C call ops cl base k fs m pins st = some ans → wpAny C.P md ops Q fuel listed { tmps := ts, defers := [] } w
  | 0, m, pins, V, st, E, ts, w, fuel, listed, _, _, _, _, _, _, _, _, _, h => by simp [denSegs] at h
  | fs + 1, m, [], V, st, E, ts, w, fuel, listed, hp, hm, hsz, hl, hf, hS, hV, hF, hn, h => by
    simp only [denSegs] at h
    have hms := pins_nil hp
    have e : m = ops.size := by omega
    subst e
    exact none_any (fun i hi => by rw [hl i hi]; simp [hi]) (hk V st E ts w hS hV hn hF h)
  | fs + 1, m, true :: r, V, st, E, ts, w, fuel, listed, hp, hm, hsz, hl, hf, hS, hV, hF, hn, h => by
    simp only [denSegs] at h
    obtain ⟨hms, hpin, hr⟩ := pins_head hp
    refine pin_any W hsz hms (pinned_spec hpin.symm) hl hf (fun fl l' hsz' hl' hf' _ _ => ?_)
    let Q' : Exit → Act → World → Prop := fun e a w => match e with
      | .normal => wpAny C.P md ops Q fl l' a w
      | e => Q e a w
    have hQ : ∀ e, e ≠ Exit.normal → ∀ a w, Q' e a w → Q e a w := by
      intro e he a w h
      cases e <;> first | exact absurd rfl he | exact h
    refine wpOp_exits hQ ?_
    have key := denOps_sound (Q := Q') hC hH hG hN hcall (ops := ops) (base := base) (V := VV U base ops.size (m + 1)) (nid0 := base + 32 * ops.size) (fun n hn' => .inr (.inr hn'))
      (fun U' st' E' ts' w' hS' hU' hn' hF' h' => denSegs_sound hC hH hG hN hcall W hU0 hk fs (m + 1) r U' st' E' ts' w' fl l' hr (by omega) hsz' hl' hf' hS' hU' hF' hn' h')
      [m] V st E ts w hS ?_ hF ?_ (by simp) hn ?_ h
    · rw [wpOps_cons] at key
      exact wpOp_mono (fun a w h => h) key
    · rintro n hn'
      rcases hV n hn' with h | ⟨h1, h2⟩ | h
      · exact .inl h
      · exact .inr (.inl ⟨h1, by omega⟩)
      · exact .inr (.inr h)
    · intro j hj n hmn
      simp only [List.mem_singleton] at hj
      subst hj
      obtain ⟨g1, g2⟩ := hmn
      refine ⟨fun hn' => ?_, .inr (.inl ⟨by omega, by omega⟩)⟩
      rcases hV n hn' with h | ⟨h1, h2⟩ | h
      · exact hU0 n (by omega) h
      · omega
      · omega
    · intro j hj
      simp only [List.mem_singleton] at hj
      subst hj
      omega
  | fs + 1, m, false :: r, V, st, E, ts, w, fuel, listed, hp, hm, hsz, hl, hf, hS, hV, hF, hn, h => by
    simp only [denSegs] at h
    obtain ⟨hms, _, hr⟩ := pins_head hp
    obtain ⟨hfr1, hfr2, hfr3⟩ := pins_free r (m + 1) (by omega) hr
    generalize hb0 : (List.range' m (freeLen r + 1)).any (mayBump ops) = b at h
    have hS0' : Sim w0 S0 V { st with ep := if b then st.ep + 1 else st.ep } E ts sv w := hS.blind b st.nid
    have hnid0 : ({ st with ep := if b then st.ep + 1 else st.ep } : St).nid = st.nid := rfl
    have hd' : b = true → Dead ({ st with ep := if b then st.ep + 1 else st.ep } : St) ∧ 0 < ({ st with ep := if b then st.ep + 1 else st.ep } : St).ep := by
      intro hb
      subst hb
      refine ⟨fun n R e hR he => ?_, by simp⟩
      have := hS.mem.epo n R e hR he
      simp only [if_true]
      omega
    have hb' : b = false → ∀ k, m ≤ k → k < m + 1 + freeLen r → mayBump ops k = false := by
      intro hb k hk1 hk2
      rw [hb] at hb0
      have := List.any_eq_false.1 hb0 k (by simp; omega)
      simpa using this
    have hM : ∀ k, m ≤ k → k < m + 1 + freeLen r → ∀ n, Mine (base + 32 * k) n → ¬ V n := by
      intro k h1 h2 n hn' hv
      have g1 := hn'.1
      have g2 := hn'.2
      rcases hV n hv with h | ⟨h3, h4⟩ | h
      · exact hU0 n (by omega) h
      · omega
      · omega
    have hoff : ∀ (ss : List Step) (st0 : St), foldX ops b (XL listed) m ss st0 = st0 := fun ss st0 => foldX_off ss m st0 (fun k hk => by
      rcases Nat.lt_or_ge k ops.size with h | h
      · rw [XL_of (by omega), hl k h]; simp; omega
      · simp [XL, Array.getElem?_eq_none (show listed.size ≤ k by omega)])
    have hVX : ∀ {T : Nat}, T ≤ m + (freeLen r + 1) → ∀ n, UX V base m T (fun _ => true) n → VV U base ops.size (m + (freeLen r + 1)) n := by
      rintro T hT n (h | ⟨k, h0, h1, _, h3⟩)
      · rcases hV n h with h | ⟨h1, h2⟩ | h
        · exact .inl h
        · exact .inr (.inl ⟨h1, by omega⟩)
        · exact .inr (.inr h)
      · have g1 := h3.1
        have g2 := h3.2
        exact .inr (.inl ⟨by omega, by omega⟩)
    have hFX : ∀ {T : Nat}, T ≤ m + (freeLen r + 1) → ∀ n, st.nid ≤ n → ¬ UX V base m T (fun _ => true) n := by
      rintro T hT n hn' (h | ⟨k, h0, h1, _, h3⟩)
      · exact hF n (by omega) h
      · have := h3.2
        omega
    have hmk : ∀ {gs : List (Nat × Foot)} {ss : List Step} {st0 st' : St}, (∀ x ∈ gs, ∀ y ∈ gs, (¬ x.1 < y.1 ∨ x.1 ∈ cl.getD y.1 []) ∨ x.2.apart y.2 = true) → Trace C ops b base m ss gs st0 st' → Free C ops cl b base m ss st0 := by
      intro gs ss st0 st' hok htr
      have hat := trace_at htr
      refine ⟨fun i s hs => ?_, fun i k s s' o o' f f' hs hs' ho ho' h1 h2 hik hni => ?_⟩
      · obtain ⟨o, f, g1, g2, g3⟩ := hat i s hs
        exact ⟨o, f, g1, g3⟩
      · obtain ⟨o1, f1, g1, g2, g3⟩ := hat i s hs
        obtain ⟨o2, f2, e1, e2, e3⟩ := hat k s' hs'
        rw [ho] at g1
        cases g1
        rw [ho'] at e1
        cases e1
        have hf1 := at1_foot h1 g3
        have hf2 := at1_foot h2 e3
        subst hf1 hf2
        rcases hok _ g2 _ e2 with (h | h) | h
        · exact absurd (by show m + i < m + k; omega) h
        · exact absurd h hni
        · exact h
    have hbelow : ∀ i, i < m → XL listed i = true := fun i hi => by rw [XL_of (by omega), hl i (by omega)]; simp [hi]
    have habove : ∀ k, m ≤ k → k < ops.size → XL listed k = false := fun k h1 h2 => by rw [XL_of (by omega), hl k h2]; simp; omega
    rcases denDraw_trace (freeLen r + 1) m [] _ h with ⟨ss, gs, st', hlen, htr, hok, hden⟩ | ⟨ss, gs, st', oA, x, hlen, htr, hoA, hap, hbt, hlo, hxl, hok, hden⟩
    · rw [List.append_nil] at hok
      unfold apartOk at hok
      simp only [Bool.not_eq_true', List.all_eq_true, Bool.or_eq_true, decide_eq_false_iff_not, List.contains_eq_mem, decide_eq_true_eq, List.mem_reverse] at hok
      generalize hst0 : ({ st with ep := if b then st.ep + 1 else st.ep } : St) = st0 at htr hS0' hnid0 hd'
      have hfin : st' = foldX ops b (fun _ => true) m ss st0 := trace_end htr
      refine free_any (w0 := w0) (S0 := S0) (sv := sv) hC hH W (T := m + 1 + freeLen r) (by omega) hfr1 hfr3 (hmk hok htr) hb' hd' hM (fun fl l' E' ts' w' hsz' hl' hf' hS' => ?_) fuel listed E ts w hsz (listed_closed W hsz hl) hbelow (fun k h1 h2 => habove k (by omega) h2) hf ?_
      · rw [← hfin] at hS'
        have hnid' : st'.nid = st.nid := by rw [hfin, foldX_nid, hnid0]
        exact denSegs_sound hC hH hG hN hcall W hU0 hk fs (m + (freeLen r + 1)) (r.drop (freeLen r)) _ st' E' ts' w' fl l' (by rw [hfr2]; congr 1; omega) (by omega) hsz' (fun i hi => by rw [hl' i hi]; congr 1; simp only [eq_iff_iff]; omega) hf' hS' (hVX (by omega)) (by rw [hnid']; exact hFX (by omega)) (by omega) hden
      · rw [hoff]
        exact hS0'.uses (fun n h => .inl h)
    · rw [List.append_nil] at hok
      unfold apartOk at hok
      simp only [Bool.not_eq_true', List.all_eq_true, Bool.or_eq_true, decide_eq_false_iff_not, List.contains_eq_mem, decide_eq_true_eq, List.mem_cons, List.mem_reverse] at hok
      generalize hst0 : ({ st with ep := if b then st.ep + 1 else st.ep } : St) = st0 at htr hS0' hnid0 hd'
      have hfin : st' = foldX ops b (fun _ => true) m ss st0 := trace_end htr
      subst hfin
      have hA : m + ss.length = m + freeLen r := by omega
      rw [hA] at hoA hlo hok
      have hat := trace_at htr
      refine late_any (w0 := w0) (S0 := S0) (sv := sv) hC hH W hA (by omega) (fun h => by
          have e : m + freeLen r + 1 = m + 1 + freeLen r := by omega
          rw [e] at h ⊢
          exact hfr3 h) (hmk (fun x hx y hy => hok x (.inr hx) y (.inr hy)) htr) (fun hb k h1 h2 => hb' hb k h1 (by omega)) hbt hd' (fun k h1 h2 => hM k h1 (by omega)) hoA hap hlo hxl (fun i s o f hs ho h1 hni => ?_)
        (fun fl l' E' ts' w' v hsz' hl' hf' hv hS' hL => ?_) fuel listed E ts w hsz (listed_closed W hsz hl) hbelow (fun k h1 h2 => habove k (by omega) h2) hf ?_
      · obtain ⟨o1, f1, g1, g2, g3⟩ := hat i s hs
        rw [ho] at g1
        cases g1
        have hf1 := at1_foot h1 g3
        subst hf1
        have hi : i < ss.length := (List.getElem?_eq_some_iff.1 hs).1
        rcases hok _ (.inr g2) _ (.inl rfl) with (h | h) | h
        · exact absurd (by show m + i < m + freeLen r; omega) h
        · exact absurd h hni
        · exact h
      · have hnid' : ((foldX ops b (fun _ => true) m ss st0).put oA.dst (.v (.at .bad))).nid = st.nid := by rw [put_nid, foldX_nid, hnid0]
        exact lateSegs_sound hC W (fun m' r' U' st'' E'' ts'' w'' fl' l'' h1 h2 h3 h4 h5 h6 h7 h8 h9 h10 => denSegs_sound hC hH hG hN hcall W hU0 hk fs m' r' U' st'' E'' ts'' w'' fl' l'' h1 h2 h3 h4 h5 h6 h7 h8 h9 h10)
          (r.drop (freeLen r)) (m + (freeLen r + 1)) _ _ E' ts' w' fl l' v (by rw [hfr2]; congr 1; omega) (by omega) hsz' (fun i hi => by rw [hl' i hi]; congr 1) hf' hS' (hVX (by omega)) (by rw [hnid']; exact hFX (by omega)) (by omega) hv hL hden
      · rw [hoff]
        exact hS0'.uses (fun n h => .inl h)

theorem draw_ok (hC : CfgOk C) (hH : CtrOk C) (hG : GraftOk C) (hN : NameOk C) : DrawOk C := by
  refine ⟨fun call hcall ops k ans Q w0 S0 sv U0 nid0 U st E ts w hk hS hU hF hn h t => ?_⟩
  unfold denDrawn at h
  simp only at h
  generalize hcl : closureOf ops (List.range ops.size) [] = cl at h
  split at h
  case isFalse => cases h
  rename_i hok
  unfold drawOk at hok
  simp only [Bool.and_eq_true, List.all_eq_true, List.mem_range, decide_eq_true_eq] at hok
  obtain ⟨hdep, hlt⟩ := hok
  have hatc : ∀ i, i < ops.size → cl.getD i [] = waits ops (cl.take i) i := fun i hi => by rw [← hcl]; exact closure_at hi
  have hord : ∀ (md : Region.Mode) (rk : Nat → Nat), orderly md ops rk = true → ∃ rk : Nat → Nat, ∀ (i : Nat) (o : Oper), ops[i]? = some o → ∀ e ∈ o.after, Region.binds md e = true → e.on < ops.size ∧ rk e.on < rk i := by
    intro md rk h
    refine ⟨rk, fun i o ho e he hb => ?_⟩
    have := List.all_eq_true.1 h i (List.mem_range.2 (Array.getElem?_eq_some_iff.1 ho).1)
    rw [ho] at this
    have := List.all_eq_true.1 this e (by simpa using he)
    simpa [hb] using this
  have mkW : ∀ (md : Region.Mode), (∀ e, Region.binds .any e = true → Region.binds md e = true) → (∃ rk : Nat → Nat, ∀ (i : Nat) (o : Oper), ops[i]? = some o → ∀ e ∈ o.after, Region.binds md e = true → e.on < ops.size ∧ rk e.on < rk i) → Waits md ops cl :=
    fun md h1 h2 => ⟨hatc, hlt, h1, h2⟩
  have hsubT : ∀ e, Region.binds .any e = true → Region.binds .text e = true := fun e h => by
    unfold Region.binds at *
    cases hg : e.ground <;> rw [hg] at h <;> simp at h ⊢
  have hsubG : ∀ e, Region.binds .any e = true → Region.binds .gc e = true := fun e h => by
    unfold Region.binds at *
    cases hg : e.ground <;> rw [hg] at h <;> simp at h ⊢
  have hmodes : ∃ md t', Region.schedule (C.P.follows .mixedOrders) ops t = Region.linearise md ops t' ∧ Waits md ops cl := by
    have anyW : Waits .any ops cl := mkW .any (fun _ h => h) ⟨fun i => i, fun i o ho e he hb => by
      have h1 := edge_of hatc ho he hb
      have hi := (Array.getElem?_eq_some_iff.1 ho).1
      have h2 := hlt i hi _ h1
      exact ⟨by omega, h2⟩⟩
    unfold Region.schedule
    by_cases hm : (C.P.follows .mixedOrders || !Region.departs ops) = true
    · rw [if_pos hm]
      exact ⟨.any, t, rfl, anyW⟩
    · rw [if_neg hm]
      have hd : Region.departs ops = true := by
        cases h : Region.departs ops with
        | true => rfl
        | false => rw [h] at hm; simp at hm
      rw [hd, cond_true, Bool.and_eq_true] at hdep
      by_cases ht : (t % 2 == 0) = true
      · rw [if_pos ht]
        exact ⟨.text, t / 2, rfl, mkW .text hsubT (hord .text _ hdep.1)⟩
      · rw [if_neg ht]
        exact ⟨.gc, t / 2, rfl, mkW .gc hsubG (hord .gc _ hdep.2)⟩
  obtain ⟨md, t', hsch, W⟩ := hmodes
  rw [hsch]
  refine wpAny_sound ops.size t' _ _ _ ?_
  have hS1 : Sim w0 S0 U { st with nid := st.nid + 32 * ops.size } E ts sv { w with drawn := w.drawn + 1 } := (hS.nid _).heap (w' := { w with drawn := w.drawn + 1 }) rfl rfl rfl rfl
  refine denSegs_sound hC hH hG hN hcall W hF (fun U' st' E' ts' w' hS' hU' hn' hF' h' => hk U' st' E' ts' w' hS' ?_ (by omega) hF' h') (ops.size + 1) 0 (pinsOf ops.size cl) U _ E ts _ ops.size _ rfl (by omega) (by simp) (fun i hi => by simp [hi]) ?_ hS1 (fun n h => .inl h) ?_ (Nat.le_refl _) h
  · intro n h
    rcases hU' n h with h | ⟨h1, _⟩ | h
    · exact hU n h
    · exact .inr (by omega)
    · exact .inr (by omega)
  · unfold left
    exact Nat.le_trans (List.countP_le_length) (by simp)
  · intro n hn' h
    exact hF n (Nat.le_trans (Nat.le_add_right _ _) hn') h

end
end Go.Proofs.Ytcfnaifggdelnaa.E
