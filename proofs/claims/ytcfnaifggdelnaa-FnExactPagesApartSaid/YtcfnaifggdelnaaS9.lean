/- What is proved here: what the evaluator says of an operation holds of the model's run of it: append. -/
import Derived.Test.YtcfnaifggdelnaaS8
namespace Go.Proofs.Ytcfnaifggdelnaa.E
open Go

section
variable {C : Cfg} {w0 w w1 : World} {S0 : BSet} {U : Nat → Prop} {st st1 : St} {E E1 : Env} {ts : Array Value} {sv : List (Array Value)}

/-- A slice's block is written behind its last row. -/
theorem Rep.behind {t : Ty} {l : List t.den} {b off cap : Nat} {arr arr' : Array Value} {e e' : TypeId} {V : Nat → Nat → Value} {K : Nat → Nat → BSet} {S : BSet}
    (hlen : l.length ≤ big) (hcap : l.length ≤ cap) (hsz : off + cap * t.width ≤ arr.size) (hS : S b) (hR : Rows true w t l arr off b V K S)
    (hb : w.heap[b]? = some (.cells arr e (0, 0))) (hb1 : w1.heap[b]? = some (.cells arr' e' (0, 0))) (hs : arr'.size = arr.size) (hsame : ∀ k, k < off + l.length * t.width → arr'[k]? = arr[k]?)
    (hkeep : ∀ x, x ≠ b → w1.heap[x]? = w.heap[x]?) :
    Rep true w1 (.slice (some ⟨b, off, none⟩) l.length cap) (.s t l) S ∧
      ∀ p u, hdrAt w t (.slice (some ⟨b, off, none⟩) l.length cap) p = some u → hdrAt w1 t (.slice (some ⟨b, off, none⟩) l.length cap) p = some u := by
  have hrow : ∀ i j, i < l.length → j < t.width → off + i * t.width + j < off + l.length * t.width := by
    intro i j hi hj
    have : (i + 1) * t.width ≤ l.length * t.width := Nat.mul_le_mul_right _ hi
    rw [Nat.succ_mul] at this
    omega
  have hc1 : ∀ i x, l[i]? = some x → ∀ j c, (t.cells x)[j]? = some c → Rep true w1 (V i j) c (K i j) := by
    intro i x hx j c hcj
    have hi : i < l.length := (List.getElem?_eq_some_iff.1 hx).1
    have hj : j < t.width := by have := (List.getElem?_eq_some_iff.1 hcj).1; rw [cells_len] at this; exact this
    exact (hR.con i x hx j c hcj).frame (fun y hy => hkeep y ((hR.sub i j y hi hj hy).2 rfl))
  refine ⟨.sl t l b off cap arr' e' (0, 0) V K S hb1 (fun _ => rfl) hlen hcap (by rw [hs]; exact hsz) hS hR.sub hR.dis (fun i j hi hj => ?_) hc1, ?_⟩
  · rw [hsame _ (hrow i j hi hj)]; exact hR.val i j hi hj
  · intro p u hp
    cases p with
    | nil => exact hp
    | cons ij p =>
      obtain ⟨i, j⟩ := ij
      simp only [hdrAt] at hp ⊢
      split at hp
      · rename_i hi
        rw [if_pos hi]
        split at hp
        · rename_i t' ht'
          have hj : j < t.width := by rw [← shape_len]; exact (List.getElem?_eq_some_iff.1 ht').1
          rw [cell_of_block hb, hR.val _ _ hi.2 hj] at hp
          rw [cell_of_block hb1, hsame _ (hrow _ _ hi.2 hj), hR.val _ _ hi.2 hj]
          simp only at hp ⊢
          have hx : l[i.toNat]? = some (l[i.toNat]'hi.2) := List.getElem?_eq_getElem hi.2
          obtain ⟨c, hc, hct⟩ := ty_at (x := l[i.toNat]'hi.2) ht'
          obtain ⟨l', rfl⟩ := cv_ty_s hct
          have hr := hR.con _ _ hx j _ hc
          rw [hdrAt_frame p hr (fun y hy => hkeep y ((hR.sub _ j y hi.2 hj hy).2 rfl))]
          exact hp
        · cases hp
      · cases hp

theorem s_append (hC : CfgOk C) (hS : Sim w0 S0 U st E ts sv w) {o : Oper} {id : Nat} (hid : ∀ n, Mine id n → ¬ U n) {T : TypeId} {x y : Operand} {c : Call} (ho : o.op = .call c) (hcb : c.callee = .builtin .append)
    (hca : c.args.toList = [x, y]) (hct : c.argTypes.toList = [T, T]) {t : Ty} (hT : C.sty T = some t) {r r2 : Nat} {p2 : List (Int × Nat)} (h1 : st.at x = some (.sl r [])) (h2 : st.at y = some (.sl r2 p2))
    {R R2 : Root} (hR : st.root r = some R) (hR2 : st.root r2 = some R2) (hown : R.own = true) (hcond : t.flat = true ∨ (R2.own = true ∧ p2 = [] ∧ r ≠ r2)) {l2 : List t.den} (hn : st.node r2 p2 = some (.s t l2)) {l1 : List t.den} (hR1 : R = ⟨t, l1, R.own, R.ep⟩)
    (hfew : few (ln (ap l1 l2)) = true) :
    Goes C w0 S0 U st ts sv w o id (fun s => s.apply o.dst { c := few (ln (ap l1 l2)), v := .v (.at (.sl id [])), ro := (id, newRoot t (ap l1 l2)) :: moved st (if t.flat then [r] else [r, r2]), bump := true }) := by
  obtain ⟨hx, _⟩ := at_sound hS h1
  obtain ⟨hy, _⟩ := at_sound hS h2
  obtain ⟨e, hE⟩ := hC.sty T t hT
  obtain ⟨i, z, hi, hs, hz, hzc, hby⟩ := hE.info
  have hca' : c.args = #[x, y] := by rw [← hca]
  have hct' : c.argTypes = #[T, T] := by rw [← hct]
  have hv1 : E.ρ r = ({ tmps := ts, defers := [] } : Act).eval x := by have := hx.2 R hR; simpa [hdrAt] using this
  have hrep1 : Rep true w (E.ρ r) (.s t l1) (E.φ r) := by
    have := hS.mem.rep r R hR
    rw [hown, hR1] at this
    exact this
  obtain ⟨R', S2, hR', g1, g2, g3, g4⟩ := sl_sound hS hy hn
  rw [hR2] at hR'
  cases hR'
  have run : ∀ {v : Value} {w' : World}, (Builtin.append_ #[T, T] o.type #[E.ρ r, ({ tmps := ts, defers := [] } : Act).eval y]).run C.P w = .ok v w' →
      (execOp ({ tmps := ts, defers := [] } : Act).eval o).run C.P w = .ok (.value v) w' := by
    intro v w' hr
    rw [hv1] at hr
    simp [execOp, ho, resolve, hcb, invoke, builtin, hca', hct', hr]
  generalize hvy : ({ tmps := ts, defers := [] } : Act).eval y = v2 at *
  obtain ⟨f0, f1⟩ := few_iff hfew
  have hlen : l1.length + l2.length ≤ 2147483648 := by simp only [ln, ap, List.length_append] at f1; omega
  have hks : ∀ k ∈ (if t.flat = true then [r] else [r, r2]), ∃ R, st.root k = some R ∧ R.own = true := by
    intro k hk
    split at hk
    · simp only [List.mem_singleton] at hk; subst hk; exact ⟨R, hR, hown⟩
    · rename_i hf
      simp only [List.mem_cons, List.not_mem_nil, or_false] at hk
      rcases hk with rfl | rfl
      · exact ⟨R, hR, hown⟩
      · exact ⟨R2, hR2, (hcond.resolve_left hf).1⟩
  have hrin : r ∈ (if t.flat = true then [r] else [r, r2]) := by split <;> simp
  have hrs : ∀ {Q : Root} {k : Nat}, k = r → st.root k = some Q → Q = R := fun h hq => by subst h; rw [hR] at hq; cases hq; rfl
  by_cases hl2 : l2 = []
  · subst hl2
    obtain ⟨⟨a2, c2, hv2, _⟩, _⟩ := g3.len
    obtain ⟨⟨a1, c1, hv1', hc1⟩, _⟩ := hrep1.len
    have hap : ap l1 [] = l1 := by simp [ap]
    rw [hap]
    refine goes_merge hS hid (v := E.ρ r) (φn := E.φ r) (w1 := w) (run ?_) hks rfl rfl rfl (Nat.le_refl _) (fun _ _ _ => rfl) (fun x hx => .inl ⟨r, hrin, hx⟩) hrep1 (fun k hk Q hQ => ⟨(hS.mem.rep k Q hQ).ro, fun _ _ h => h⟩)
    rw [hv1', hv2]
    exact run_append_none T o.type e i hE.und hi a1 _ _ hc1 a2 _
  · cases g3 with
    | nil => exact absurd rfl hl2
    | void => exact absurd rfl hl2
    | sl _ _ b2 off2 cap2 arr2 e2 fz2 V2 K2 _ hb2 hfz2 hlen2 hcap2 hsz2 hS2 hsub2 hdis2 hvv2 hcc2 =>
    have hm0 : 0 < l2.length := List.length_pos_iff.2 hl2
    have hmul2 : l2.length * t.width ≤ cap2 * t.width := Nat.mul_le_mul_right _ hcap2
    generalize hnews : (arr2.toList.drop off2).take (l2.length * t.width) = news
    have hnl : news.length = l2.length * t.width := by rw [← hnews]; simp; omega
    have hnat : ∀ k, k < l2.length * t.width → news[k]? = arr2[off2 + k]? := by
      intro k hk
      rw [← hnews, List.getElem?_take, if_pos hk, List.getElem?_drop]
      simp
    have hnc : ∀ j u, news[j]? = some u → w.cell? ((⟨b2, off2, none⟩ : Addr).add j) = some u := by
      intro j u hu
      have hj : j < l2.length * t.width := by rw [← hnl]; exact (List.getElem?_eq_some_iff.1 hu).1
      rw [add_lit, cell_of_block hb2, ← hnat j hj]
      exact hu
    have hrow2 : ∀ i j, i < l2.length → j < t.width → i * t.width + j < l2.length * t.width := by
      intro i j hi hj
      have : (i + 1) * t.width ≤ l2.length * t.width := Nat.mul_le_mul_right _ hi
      rw [Nat.succ_mul] at this
      omega
    have hnv : ∀ i j, i < l2.length → j < t.width → news[i * t.width + j]? = some (V2 i j) := by
      intro i j hi hj
      rw [hnat _ (hrow2 i j hi hj), ← Nat.add_assoc]
      exact hvv2 i j hi hj
    have hwp := ty_width_pos t
    have hn1 : ∀ u ∈ news, u.oneCell' = true := by
      intro u hu
      obtain ⟨k, hk⟩ := List.mem_iff_getElem?.1 hu
      have hkl : k < l2.length * t.width := by rw [← hnl]; exact (List.getElem?_eq_some_iff.1 hk).1
      have hki : k / t.width < l2.length := (Nat.div_lt_iff_lt_mul hwp).2 hkl
      have hkj : k % t.width < t.width := Nat.mod_lt _ hwp
      have := hnv _ _ hki hkj
      rw [Nat.mul_comm, Nat.div_add_mod, hk] at this
      cases this
      have hx := List.getElem?_eq_getElem hki
      have hcj : (t.cells (l2[k / t.width]'hki))[k % t.width]? = some ((t.cells (l2[k / t.width]'hki))[k % t.width]'(by rw [cells_len]; exact hkj)) := List.getElem?_eq_getElem _
      exact (hcc2 _ _ hx _ _ hcj).one
    -- the second part's blocks
    have hK2 : ∃ K : Nat → Nat → BSet, (∀ (w1 : World), (∀ x, (∃ k ∈ (if t.flat = true then [r] else [r, r2]), k ≠ r ∧ E.φ k x) → w1.heap[x]? = w.heap[x]?) →
          ∀ i x, l2[i]? = some x → ∀ j c, (t.cells x)[j]? = some c → Rep true w1 (V2 i j) c (K i j)) ∧
        (∀ i j x, i < l2.length → j < t.width → K i j x → ∃ k ∈ (if t.flat = true then [r] else [r, r2]), k ≠ r ∧ E.φ k x) ∧
        (∀ i j i' j' x, i < l2.length → j < t.width → i' < l2.length → j' < t.width → K i j x → K i' j' x → i = i' ∧ j = j') := by
      by_cases hf : t.flat = true
      · exact ⟨fun _ _ _ => False, fun w1 _ i x hx j c hcj => (hcc2 i x hx j c hcj).flat (flat_cell hf hcj), fun _ _ _ _ _ h => h.elim, fun _ _ _ _ _ _ _ _ _ h => h.elim⟩
      · obtain ⟨ho2, hp2, hne⟩ := hcond.resolve_left hf
        have hin : r2 ∈ (if t.flat = true then [r] else [r, r2]) := by rw [if_neg hf]; simp
        have hsub : ∀ i j x, i < l2.length → j < t.width → K2 i j x → ∃ k ∈ (if t.flat = true then [r] else [r, r2]), k ≠ r ∧ E.φ k x :=
          fun i j x hi hj hk => ⟨r2, hin, fun e => hne e.symm, g4 x (hsub2 i j x hi hj hk).1⟩
        rw [ho2] at hcc2 hdis2
        refine ⟨K2, fun w1 hw i x hx j c hcj => ?_, hsub, hdis2 rfl⟩
        have hi' : i < l2.length := (List.getElem?_eq_some_iff.1 hx).1
        have hj' : j < t.width := by have := (List.getElem?_eq_some_iff.1 hcj).1; rw [cells_len] at this; exact this
        exact (hcc2 i x hx j c hcj).frame (fun y hy => hw y (hsub i j y hi' hj' hy))
    obtain ⟨K, hKc, hKs, hKd⟩ := hK2
    have hkapart : ∀ x k, k ∈ (if t.flat = true then [r] else [r, r2]) → k ≠ r → E.φ k x → ¬ E.φ r x := by
      intro x k hk hkr hx hxr
      obtain ⟨Q, hQ, hQo⟩ := hks k hk
      exact hS.mem.apart r R k Q hR hown hQ (hS.mem.mine k Q hQ hQo).1 (fun e => hkr e.symm) x hxr hx
    have hbytes : (l1.length + l2.length) * i.bytes ≤ 140737488355328 := by
      have := Nat.mul_le_mul hlen hby
      omega
    -- grown: a new block
    have grown : ∀ (olds : List Value) (cap' : Nat) (V1 : Nat → Nat → Value) (K1 : Nat → Nat → BSet) (zs : Array Value), olds.length = l1.length * t.width → l1.length + l2.length ≤ cap' → zs.size = (cap' - (l1.length + l2.length)) * t.width →
        (∀ i j, i < l1.length → j < t.width → olds[i * t.width + j]? = some (V1 i j)) →
        (∀ i x, l1[i]? = some x → ∀ j c, (t.cells x)[j]? = some c → Rep true w (V1 i j) c (K1 i j)) →
        (∀ i j x, i < l1.length → j < t.width → K1 i j x → E.φ r x) →
        (∀ i j i' j' x, i < l1.length → j < t.width → i' < l1.length → j' < t.width → K1 i j x → K1 i' j' x → i = i' ∧ j = j') →
        (Builtin.append_ #[T, T] o.type #[E.ρ r, .slice (some ⟨b2, off2, none⟩) l2.length cap2]).run C.P w = .ok (.slice (some ⟨w.heap.size, 0, none⟩) (l1.length + l2.length) cap') (w.drew.alloc (.cells (olds.toArray ++ news.toArray ++ zs) e (0, 0))) →
        Goes C w0 S0 U st ts sv w o id (fun s => s.apply o.dst { c := few (ln (ap l1 l2)), v := .v (.at (.sl id [])), ro := (id, newRoot t (ap l1 l2)) :: moved st (if t.flat then [r] else [r, r2]), bump := true }) := by
      intro olds cap' V1 K1 zs hol hcap' hzs ho1 hc1 hk1 hd1 hr
      generalize hw1 : w.drew.alloc (.cells (olds.toArray ++ news.toArray ++ zs) e (0, 0)) = w1 at hr
      have hsame : ∀ x, x < w.heap.size → w1.heap[x]? = w.heap[x]? := fun x hx => by rw [← hw1]; exact heap_alloc_old w.drew _ x hx
      have hsize : w1.heap.size = w.heap.size + 1 := by rw [← hw1]; simp
      have hlt : ∀ k Q, st.root k = some Q → ∀ x, E.φ k x → w1.heap[x]? = w.heap[x]? := fun k Q hQ x hx => hsame x (hS.mem.rlt k Q hQ x hx)
      have hrow1 : ∀ i j, i < l1.length → j < t.width → i * t.width + j < l1.length * t.width := by
        intro i j hi hj
        have : (i + 1) * t.width ≤ l1.length * t.width := Nat.mul_le_mul_right _ hi
        rw [Nat.succ_mul] at this
        omega
      refine goes_merge hS hid (w1 := w1) (φn := fun x => (∃ k ∈ (if t.flat = true then [r] else [r, r2]), E.φ k x) ∨ x = w.heap.size) (run hr) hks (by rw [← hw1]; rfl) (by rw [← hw1]; rfl) (by rw [← hw1]; rfl) (by omega) (fun x hx _ => hsame x hx) ?_ ?_ ?_
      · rintro x (hx | rfl)
        · exact .inl hx
        · exact .inr ⟨Nat.le_refl _, by omega⟩
      · refine Rep.join (arr := olds.toArray ++ news.toArray ++ zs) (e := e) (V1 := V1) (V2 := V2) (K1 := K1) (K2 := K) ?_ (by simp only [big]; omega) hcap' ?_ (.inr rfl) ?_ ?_ ?_ ?_ ?_ ?_ hd1 hKd ?_
        · rw [← hw1]; exact heap_alloc_new w.drew _
        · simp only [Array.size_append, List.size_toArray, hol, hnl, hzs, ← Nat.add_mul]
          have : l1.length + l2.length + (cap' - (l1.length + l2.length)) = cap' := by omega
          rw [this]; omega
        · intro i j hi hj
          have := hrow1 i j hi hj
          rw [Nat.zero_add, Array.append_assoc, Array.getElem?_append_left (by simp [hol]; exact this)]
          simpa using ho1 i j hi hj
        · intro i j hi hj
          have := hrow2 i j hi hj
          rw [Nat.zero_add, Nat.add_mul, Array.append_assoc, Array.getElem?_append_right (by simp [hol]; omega), Array.getElem?_append_left (by simp [hol, hnl]; omega)]
          rw [← hnv i j hi hj]
          simp only [List.size_toArray, hol, List.getElem?_toArray]
          congr 1
          omega
        · intro i x hx j c hcj
          have hi' : i < l1.length := (List.getElem?_eq_some_iff.1 hx).1
          have hj' : j < t.width := by have := (List.getElem?_eq_some_iff.1 hcj).1; rw [cells_len] at this; exact this
          exact (hc1 i x hx j c hcj).frame (fun y hy => hlt r R hR y (hk1 i j y hi' hj' hy))
        · refine hKc w1 ?_
          rintro x ⟨k, hk, _, hx⟩
          obtain ⟨Q, hQ, _⟩ := hks k hk
          exact hlt k Q hQ x hx
        · intro i j x hi hj hk
          have := hk1 i j x hi hj hk
          exact ⟨.inl ⟨r, hrin, this⟩, fun e => by have := hS.mem.rlt r R hR x this; omega⟩
        · intro i j x hi hj hk
          obtain ⟨k, hk1, _, hx⟩ := hKs i j x hi hj hk
          obtain ⟨Q, hQ, _⟩ := hks k hk1
          exact ⟨.inl ⟨k, hk1, hx⟩, fun e => by have := hS.mem.rlt k Q hQ x hx; omega⟩
        · intro i j i' j' x hi hj hi' hj' hk hk'
          obtain ⟨k, hka, hkb, hx⟩ := hKs i' j' x hi' hj' hk'
          exact hkapart x k hka hkb hx (hk1 i j x hi hj hk)
      · intro k hk Q hQ
        refine ⟨((hS.mem.rep k Q hQ).frame (hlt k Q hQ)).ro, fun p u hp => ?_⟩
        rw [hdrAt_frame p (hS.mem.rep k Q hQ) (hlt k Q hQ)]
        exact hp
    generalize hv1e : E.ρ r = v1 at *
    have hzsz : z.cells.size = t.width := by rw [← Array.length_toList, hzc]; simp [shape_len]
    cases hrep1 with
    | nil =>
      have hr := run_append_nil (P := C.P) w T o.type e i z hE.und hi hz ⟨b2, off2, none⟩ l2.length cap2 news (by rw [hs]; exact hnl) hnc hm0 (by omega) (by
        have := Nat.mul_le_mul (show l2.length ≤ 2147483648 by omega) hby
        omega)
      have hge := grownCap_ge w l2.length 0 e
      refine grown [] (grownCap w l2.length 0 e) (fun _ _ => undef) (fun _ _ _ => False) (Builtin.zeroCells z.cells (grownCap w l2.length 0 e - l2.length)) (by simp) (by simpa using hge) (by simp [size_zeroCells, hzsz]) (fun i j hi => by simp at hi) (fun i x hx => by simp at hx) (fun _ _ _ _ _ h => h.elim) (fun _ _ _ _ _ _ _ _ _ h => h.elim) ?_
      rw [hr]
      simp
    | void _ _ _ ho => cases ho
    | sl _ _ b off cap arr e1 fz V1 K1 _ hb hfz hlen1 hcap1 hsz1 hS1 hsub1 hdis1 hvv1 hcc1 =>
      have hfz' := hfz rfl
      subst hfz'
      have hmul1 : l1.length * t.width ≤ cap * t.width := Nat.mul_le_mul_right _ hcap1
      by_cases hroom : l1.length + l2.length ≤ cap
      · have hmulr : (l1.length + l2.length) * t.width ≤ cap * t.width := Nat.mul_le_mul_right _ hroom
        rw [Nat.add_mul] at hmulr
        have hr := run_append_room' (P := C.P) (w := w) T o.type e i hE.und hi b off l1.length cap arr e1 hb ⟨b2, off2, none⟩ l2.length cap2 news (by rw [hs]; exact hnl) hnc hn1 hroom (by rw [hs, hnl]; omega)
        rw [hs] at hr
        have hbs : off + l1.length * t.width + news.length ≤ arr.toList.length := by rw [hnl]; simp; omega
        generalize hw1 : w.setRow b (splice arr.toList (off + l1.length * t.width) news).toArray = w1 at hr
        have hb1 : w1.heap[b]? = some (.cells (splice arr.toList (off + l1.length * t.width) news).toArray e1 (0, 0)) := by rw [← hw1]; exact setRow_heap w b _ _ e1 _ hb
        have hoth : ∀ x, x ≠ b → w1.heap[x]? = w.heap[x]? := fun x hx => by rw [← hw1]; exact setRow_other w b x _ hx
        have hasz : (splice arr.toList (off + l1.length * t.width) news).toArray.size = arr.size := by rw [List.size_toArray, splice_len _ _ _ hbs]; simp
        have hkeepr : ∀ k, k < off + l1.length * t.width → (splice arr.toList (off + l1.length * t.width) news).toArray[k]? = arr[k]? := by
          intro k hk
          rw [List.getElem?_toArray, splice_out _ _ _ hbs k (.inl hk)]
          simp
        have hRows : Rows true w t l1 arr off b V1 K1 (E.φ r) := ⟨hsub1, hdis1, hvv1, hcc1⟩
        obtain ⟨k1, k2⟩ := Rep.behind (w1 := w1) hlen1 hcap1 hsz1 hS1 hRows hb hb1 hasz hkeepr hoth
        have hrow1 : ∀ i j, i < l1.length → j < t.width → i * t.width + j < l1.length * t.width := by
          intro i j hi hj
          have : (i + 1) * t.width ≤ l1.length * t.width := Nat.mul_le_mul_right _ hi
          rw [Nat.succ_mul] at this
          omega
        refine goes_merge hS hid (w1 := w1) (φn := fun x => ∃ k ∈ (if t.flat = true then [r] else [r, r2]), E.φ k x) (run hr) hks (by rw [← hw1]; rfl) (by rw [← hw1]; rfl) (by rw [← hw1]; rfl) (by rw [← hw1]; simp) (fun x hx hnk => hoth x (fun e => hnk r hrin (e ▸ hS1))) (fun x hx => .inl hx) ?_ ?_
        · refine Rep.join (arr := (splice arr.toList (off + l1.length * t.width) news).toArray) (e := e1) (V1 := V1) (V2 := V2) (K1 := K1) (K2 := K) hb1 (by simp only [big]; omega) hroom (by rw [hasz]; exact hsz1) ⟨r, hrin, hS1⟩ ?_ ?_ ?_ ?_ ?_ ?_ (hdis1 rfl) hKd ?_
          · intro i j hi hj
            have := hrow1 i j hi hj
            rw [hkeepr _ (by omega)]
            exact hvv1 i j hi hj
          · intro i j hi hj
            have := hrow2 i j hi hj
            rw [List.getElem?_toArray, Nat.add_mul, splice_in _ _ _ hbs _ (by omega) (by rw [hnl]; omega), ← hnv i j hi hj]
            congr 1
            omega
          · intro i x hx j c hcj
            have hi' : i < l1.length := (List.getElem?_eq_some_iff.1 hx).1
            have hj' : j < t.width := by have := (List.getElem?_eq_some_iff.1 hcj).1; rw [cells_len] at this; exact this
            exact (hcc1 i x hx j c hcj).frame (fun y hy => hoth y ((hsub1 i j y hi' hj' hy).2 rfl))
          · refine hKc w1 ?_
            rintro x ⟨k, hk, hkr, hx⟩
            exact hoth x (fun e => hkapart x k hk hkr hx (e ▸ hS1))
          · intro i j x hi hj hk
            exact ⟨⟨r, hrin, (hsub1 i j x hi hj hk).1⟩, (hsub1 i j x hi hj hk).2 rfl⟩
          · intro i j x hi hj hk
            obtain ⟨k, hka, hkb, hx⟩ := hKs i j x hi hj hk
            exact ⟨⟨k, hka, hx⟩, fun e => hkapart x k hka hkb hx (e ▸ hS1)⟩
          · intro i j i' j' x hi hj hi' hj' hk hk'
            obtain ⟨k, hka, hkb, hx⟩ := hKs i' j' x hi' hj' hk'
            exact hkapart x k hka hkb hx (hsub1 i j x hi hj hk).1
        · intro k hk Q hQ
          by_cases hkr : k = r
          · subst hkr
            rw [hR] at hQ
            cases hQ
            rw [hR1, hv1e]
            exact ⟨k1.ro, k2⟩
          · have hfr : ∀ x, E.φ k x → w1.heap[x]? = w.heap[x]? := fun x hx => hoth x (fun e => hkapart x k hk hkr hx (e ▸ hS1))
            refine ⟨((hS.mem.rep k Q hQ).frame hfr).ro, fun p u hp => ?_⟩
            rw [hdrAt_frame p (hS.mem.rep k Q hQ) hfr]
            exact hp
      · generalize holds : (arr.toList.drop off).take (l1.length * t.width) = olds
        have hol : olds.length = l1.length * t.width := by rw [← holds]; simp; omega
        have hoat : ∀ k, k < l1.length * t.width → olds[k]? = arr[off + k]? := by
          intro k hk
          rw [← holds, List.getElem?_take, if_pos hk, List.getElem?_drop]
          simp
        have hr := run_append_grow (P := C.P) w T o.type e i z hE.und hi hz ⟨b, off, none⟩ l1.length cap olds (by rw [hs]; exact hol) (fun j u hu => by
            have hj : j < l1.length * t.width := by rw [← hol]; exact (List.getElem?_eq_some_iff.1 hu).1
            rw [add_lit, cell_of_block hb, ← hoat j hj]
            exact hu) ⟨b2, off2, none⟩ l2.length cap2 news (by rw [hs]; exact hnl) hnc (by omega) (by omega) (growslice_fits (by omega) hbytes)
        have hge := grownCap_ge w (l1.length + l2.length) cap e
        refine grown olds _ V1 K1 _ hol hge (by rw [size_zeroCells, hzsz]) (fun i j hi hj => ?_) hcc1 (fun i j x hi hj hk => (hsub1 i j x hi hj hk).1) (hdis1 rfl) hr
        have : (i + 1) * t.width ≤ l1.length * t.width := Nat.mul_le_mul_right _ hi
        rw [Nat.succ_mul] at this
        rw [hoat _ (by omega), ← Nat.add_assoc]
        exact hvv1 i j hi hj

end
end Go.Proofs.Ytcfnaifggdelnaa.E
