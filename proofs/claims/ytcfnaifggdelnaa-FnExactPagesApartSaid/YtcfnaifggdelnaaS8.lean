/- What is proved here: what the evaluator says of an operation holds of the model's run of it: slice expressions, append. -/
import Derived.Test.YtcfnaifggdelnaaS7
import Derived.Laws.AppendOwn
namespace Go.Proofs.Ytcfnaifggdelnaa.E
open Go

section
variable {C : Cfg} {w0 w w1 : World} {S0 : BSet} {U : Nat → Prop} {st st1 : St} {E E1 : Env} {ts : Array Value} {sv : List (Array Value)}

theorem add_lit (b o n : Nat) : (⟨b, o, none⟩ : Addr).add n = ⟨b, o + n, none⟩ := by
  unfold Addr.add; split <;> simp_all

theorem elem_of {P : Program} {T e : TypeId} (h : P.underlying T = some (.slice e)) : P.elem T = e ∧ P.underlying T = some (.slice (P.elem T)) := by
  have : P.elem T = e := by simp [Program.elem, h]
  exact ⟨this, by rw [this]; exact h⟩

/-- A part of a slice reads as that part. -/
theorem Rep.subO {o : Bool} {t : Ty} {l : List t.den} {a : Option Addr} {len cap x y : Nat} {S : BSet} (h : Rep o w (.slice a len cap) (.s t l) S) (hxy : x ≤ y) (hy : y ≤ l.length) :
    Rep o w (sliced a x y cap t.width) (.s t ((l.take y).drop x)) S := by
  cases h with
  | nil =>
    have hy0 : y = 0 := by simpa using hy
    have hx0 : x = 0 := by omega
    subst hy0 hx0
    exact .nil t S
  | void _ a _ ho =>
    have hy0 : y = 0 := by simpa using hy
    have hx0 : x = 0 := by omega
    subst hy0 hx0
    exact .void t _ S (by assumption)
  | sl _ _ b off cap arr e fz V K _ hb hfz hlen hcap hsz hS hsub hdis hv hc =>
    have hl : ((l.take y).drop x).length = y - x := by simp; omega
    have e1 : sliced (some ⟨b, off, none⟩) x y cap t.width = .slice (some ⟨b, if cap = x then off else off + x * t.width, none⟩) ((l.take y).drop x).length (cap - x) := by
      unfold sliced
      rw [hl]
      split
      · rfl
      · simp [add_lit]
    rw [e1]
    have hrow : ∀ i, i < y - x → cap ≠ x := fun i hi => by omega
    have hmul : (cap - x) * t.width + x * t.width = cap * t.width := by rw [← Nat.add_mul]; congr 1; omega
    refine .sl t _ b _ (cap - x) arr e fz (fun i j => V (x + i) j) (fun i j => K (x + i) j) S hb hfz (by rw [hl]; omega) (by rw [hl]; omega) ?_ hS (fun i j z hi hj hk => ⟨(hsub (x + i) j z (by rw [hl] at hi; omega) hj hk).1, (hsub (x + i) j z (by rw [hl] at hi; omega) hj hk).2⟩) (fun ho i j i' j' z hi hj hi' hj' hk hk' => by
      rw [hl] at hi hi'
      have := hdis ho (x + i) j (x + i') j' z (by omega) hj (by omega) hj' hk hk'
      exact ⟨by omega, this.2⟩) ?_ ?_
    · split
      · rename_i hcx; subst hcx; simp; omega
      · omega
    · intro i j hi hj
      rw [hl] at hi
      rw [if_neg (hrow i hi), ← hv (x + i) j (by omega) hj, Nat.add_mul]
      congr 1; omega
    · intro i z hz j c hcj
      rw [List.getElem?_drop, List.getElem?_take] at hz
      split at hz
      · exact hc (x + i) z hz j c hcj
      · cases hz

theorem Rep.sub {o : Bool} {t : Ty} {l : List t.den} {a : Option Addr} {len cap x y : Nat} {S : BSet} (h : Rep o w (.slice a len cap) (.s t l) S) (hxy : x ≤ y) (hy : y ≤ l.length) :
    Rep false w (sliced a x y cap t.width) (.s t ((l.take y).drop x)) S := (h.subO hxy hy).ro

theorem goes_view (hS : Sim w0 S0 U st E ts sv w) {o : Oper} {id : Nat} (hid : ∀ n, Mine id n → ¬ U n) {r : Nat} {R : Root} (hR : st.root r = some R) {t : Ty} {l : List t.den} {c : Bool} {v : Value}
    (hr : (execOp ({ tmps := ts, defers := [] } : Act).eval o).run C.P w = .ok (.value v) w) (hrep : Rep false w v (.s t l) (E.φ r)) :
    Goes C w0 S0 U st ts sv w o id (fun s => s.apply o.dst { c, v := .v (.at (.sl id [])), ro := [(id, subRoot st R t l)] }) := by
  have hnid := hid id (mine_self id)
  obtain ⟨hM, hT⟩ := hS.mem.view hS.ids.mem hnid hR hrep
  obtain ⟨⟨a, cap, hv, _⟩, _⟩ := hrep.len
  refine goes_mem hS hr (.inl rfl) hM hT rfl rfl rfl ?_ (fun n cs hn => ⟨.inl (hS.ids.lo n cs hn).1, fun a ha m hm => .inl ((hS.ids.lo n cs hn).2 a ha m hm)⟩) ?_ ?_
  · intro n R hn
    simp only [aget] at hn
    split at hn
    · rename_i he; simp only [beq_iff_eq] at he; subst he; exact .inr (mine_self _)
    · exact .inl (hS.ids.ro n R hn)
  · exact ⟨⟨a, _, cap, hv⟩, fun R hR => by simp [hdrAt]⟩
  · intro n hn
    rw [ids_at] at hn
    simp only [At.ids, atIds, atLids, List.append_nil, List.mem_singleton] at hn
    subst hn
    exact .inr (mine_self _)

/-- A new slice that takes others over. -/
theorem goes_merge (hS : Sim w0 S0 U st E ts sv w) {o : Oper} {id : Nat} (hid : ∀ n, Mine id n → ¬ U n) {ks : List Nat} {t : Ty} {m : List t.den} {c : Bool} {v : Value} {φn : BSet}
    (hr : (execOp ({ tmps := ts, defers := [] } : Act).eval o).run C.P w = .ok (.value v) w1)
    (hks : ∀ k ∈ ks, ∃ R, st.root k = some R ∧ R.own = true)
    (hos : w1.os = w.os) (htp : w1.tape = w.tape) (hout : w1.output = w.output) (hsz : w.heap.size ≤ w1.heap.size)
    (hkeep : ∀ x, x < w.heap.size → (∀ k ∈ ks, ¬ E.φ k x) → w1.heap[x]? = w.heap[x]?)
    (hφ : ∀ x, φn x → (∃ k ∈ ks, E.φ k x) ∨ (w.heap.size ≤ x ∧ x < w1.heap.size))
    (hrep : Rep true w1 v (.s t m) φn)
    (hold : ∀ k ∈ ks, ∀ R, st.root k = some R → Rep false w1 (E.ρ k) (.s R.t R.l) (E.φ k) ∧ ∀ p u, hdrAt w R.t (E.ρ k) p = some u → hdrAt w1 R.t (E.ρ k) p = some u) :
    Goes C w0 S0 U st ts sv w o id (fun s => s.apply o.dst { c, v := .v (.at (.sl id [])), ro := (id, newRoot t m) :: moved st ks, bump := true }) := by
  have hnid := hid id (mine_self id)
  obtain ⟨hM, hT⟩ := hS.mem.merge hS.ids.mem hnid hks hos htp hout hsz hkeep hφ hrep hold
  obtain ⟨⟨a, cap, hv, _⟩, _⟩ := hrep.len
  refine goes_mem hS hr (.inl rfl) hM hT rfl rfl rfl ?_ (fun n cs hn => ⟨.inl (hS.ids.lo n cs hn).1, fun a ha m hm => .inl ((hS.ids.lo n cs hn).2 a ha m hm)⟩) ?_ ?_
  · intro n R hn
    simp only [List.cons_append, aget] at hn
    split at hn
    · rename_i he; simp only [beq_iff_eq] at he; subst he; exact .inr (mine_self _)
    · rw [aget_append] at hn
      split at hn
      · rename_i Q hQ
        obtain ⟨_, R0, hR0, _⟩ := moved_aget ks n Q hQ
        exact .inl (hS.ids.ro n R0 hR0)
      · exact .inl (hS.ids.ro n R hn)
  · exact ⟨⟨a, _, cap, hv⟩, fun R hR => by simp [hdrAt]⟩
  · intro n hn
    rw [ids_at] at hn
    simp only [At.ids, atIds, atLids, List.append_nil, List.mem_singleton] at hn
    subst hn
    exact .inr (mine_self _)

theorem inr_iff {a b n : Int} (h : inr a b n = true) : 0 ≤ a ∧ a ≤ b ∧ b ≤ n := of_decide_eq_true h

theorem s_slice (hC : CfgOk C) (hS : Sim w0 S0 U st E ts sv w) {o : Oper} {id : Nat} (hid : ∀ n, Mine id n → ¬ U n) {T : TypeId} {x : Operand} {lo hi : Option Operand} {d : Dl} (ho : o.op = .slice T x lo hi none)
    (h : delta C st o id = some d) (hc : d.c = true) : Goes C w0 S0 U st ts sv w o id (fun st => st.apply o.dst d) := by
  simp only [delta, ho] at h
  split at h
  · rename_i r p h1
    split at h
    · rename_i R t l hR hn
      split at h
      · rename_i hT
        obtain ⟨hx, hxi⟩ := at_sound hS h1
        obtain ⟨e, hE⟩ := hC.sty T t hT
        obtain ⟨hel, hu⟩ := elem_of hE.und
        obtain ⟨i, z, hi', hs, _⟩ := hE.info
        have hse : (sizeOf (C.P.elem T)).run C.P w = .ok t.width w := by rw [hel]; simp [sizeOf, typeInfo, hi', hs]
        obtain ⟨R', S', hR', g1, g2, g3, g4⟩ := sl_sound hS hx hn
        rw [hR] at hR'
        cases hR'
        obtain ⟨⟨a, cap, hv, hcl⟩, hbig⟩ := g3.len
        generalize hvv : ({ tmps := ts, defers := [] } : Act).eval x = v at *
        subst hv
        have g3' := g3.weak (S' := E.φ r) g4
        split at h
        · cases h
          have hrep := g3'.sub (Nat.zero_le l.length) (Nat.le_refl _)
          simp only [List.take_length, List.drop_zero] at hrep
          refine goes_view hS hid hR ?_ hrep
          simp [execOp, ho, hvv, run_sliceAt_slice (P := C.P) w T _ _ _ _ hu, run_slice_all (P := C.P) w T a l.length cap hu, hse]
        · rename_i lo'
          split at h
          · rename_i n h2
            cases h
            have hy := (at_sound hS h2).1
            simp only [VA] at hy
            have hcc : inr n (ln l) (ln l) = true := by
              unfold cutD at hc
              split at hc <;> exact hc
            obtain ⟨c1, c2, c3⟩ := inr_iff hcc
            simp only [ln] at c2 c3
            have hrepO := g3'.subO (x := n.toNat) (y := l.length) (by omega) (Nat.le_refl _)
            have hrep := g3'.sub (x := n.toNat) (y := l.length) (by omega) (Nat.le_refl _)
            simp only [List.take_length] at hrep hrepO
            have hex : (execOp ({ tmps := ts, defers := [] } : Act).eval o).run C.P w = .ok (.value (sliced a n.toNat l.length cap t.width)) w := by
              simp [execOp, ho, hvv, hy, run_sliceAt_slice (P := C.P) w T _ _ _ _ hu, run_slice_l (P := C.P) w T a l.length cap hu .i64 n c1 c2, hse]
            unfold cutD
            split
            · rename_i hown
              rw [hown] at hrepO
              exact goes_merge hS hid (w1 := w) (φn := E.φ r) hex (fun k hk => by
                simp only [List.mem_singleton] at hk
                subst hk
                exact ⟨R, hR, hown⟩) rfl rfl rfl (Nat.le_refl _) (fun _ _ _ => rfl) (fun z hz => .inl ⟨r, by simp, hz⟩) hrepO (fun k hk Q hQ => ⟨(hS.mem.rep k Q hQ).ro, fun _ _ h => h⟩)
            · exact goes_view hS hid hR hex hrep
          · cases h
        · rename_i hi2
          split at h
          · rename_i n h2
            cases h
            obtain ⟨c1, c2, c3⟩ := inr_iff hc
            simp only [ln] at c2 c3
            have hy := (at_sound hS h2).1
            simp only [VA] at hy
            have hrep := g3'.sub (x := 0) (y := n.toNat) (by omega) (by omega)
            simp only [List.drop_zero] at hrep
            refine goes_view hS hid hR ?_ hrep
            simp [execOp, ho, hvv, hy, run_sliceAt_slice (P := C.P) w T _ _ _ _ hu, run_slice_h (P := C.P) w T a l.length cap hu .i64 n c2 (by omega), hse]
          · cases h
        · rename_i lo' hi2
          split at h
          · rename_i n m h2 h3
            cases h
            obtain ⟨c1, c2, c3⟩ := inr_iff hc
            simp only [ln] at c2 c3
            have hy := (at_sound hS h2).1
            have hz := (at_sound hS h3).1
            simp only [VA] at hy hz
            have hrep := g3'.sub (x := n.toNat) (y := m.toNat) (by omega) (by omega)
            refine goes_view hS hid hR ?_ hrep
            simp [execOp, ho, hvv, hy, hz, run_sliceAt_slice (P := C.P) w T _ _ _ _ hu, run_slice_lh (P := C.P) w T a l.length cap hu .i64 .i64 n m c1 c2 (by omega), hse]
          · cases h
      · cases h
    · cases h
  · cases h

/-- A scalar cell's content reads in each world. -/
def CV.flat : CV → Bool
  | .s _ _ => false
  | _ => true

theorem Rep.flat {o o' : Bool} {w w' : World} {v : Value} {c : CV} {S S' : BSet} (h : Rep o w v c S) (hf : c.flat = true) : Rep o' w' v c S' := by
  cases h with
  | i k n => exact .i k n S'
  | b x => exact .b x S'
  | nil => cases hf
  | void => cases hf
  | sl => cases hf

theorem flat_cell {t : Ty} (hf : t.flat = true) {x : t.den} {j : Nat} {c : CV} (h : (t.cells x)[j]? = some c) : c.flat = true := by
  have hs := shape_at h
  have := List.all_eq_true.1 hf c.ty (List.mem_of_getElem? hs)
  cases c with
  | i k n => rfl
  | b y => rfl
  | s t l => cases this

theorem Rep.one {o : Bool} {w : World} {v : Value} {c : CV} {S : BSet} (h : Rep o w v c S) : v.oneCell' = true := by
  cases h <;> rfl

/-- What is known of a slice of its own: its block, its rows, what they hold. -/
structure Rows (o : Bool) (w : World) (t : Ty) (l : List t.den) (arr : Array Value) (off : Nat) (b : Nat) (V : Nat → Nat → Value) (K : Nat → Nat → BSet) (S : BSet) : Prop where
  sub : ∀ i j x, i < l.length → j < t.width → K i j x → S x ∧ (o = true → x ≠ b)
  dis : o = true → ∀ i j i' j' x, i < l.length → j < t.width → i' < l.length → j' < t.width → K i j x → K i' j' x → i = i' ∧ j = j'
  val : ∀ i j, i < l.length → j < t.width → arr[off + i * t.width + j]? = some (V i j)
  con : ∀ i x, l[i]? = some x → ∀ j c, (t.cells x)[j]? = some c → Rep o w (V i j) c (K i j)

/-- Two runs of rows laid one after the other. -/
theorem Rep.join {w1 : World} {t : Ty} {l1 l2 : List t.den} {b off cap : Nat} {arr : Array Value} {e : TypeId} {V1 V2 : Nat → Nat → Value} {K1 K2 : Nat → Nat → BSet} {S : BSet}
    (hb : w1.heap[b]? = some (.cells arr e (0, 0))) (hlen : l1.length + l2.length ≤ big) (hcap : l1.length + l2.length ≤ cap) (hsz : off + cap * t.width ≤ arr.size) (hS : S b)
    (v1 : ∀ i j, i < l1.length → j < t.width → arr[off + i * t.width + j]? = some (V1 i j))
    (v2 : ∀ i j, i < l2.length → j < t.width → arr[off + (l1.length + i) * t.width + j]? = some (V2 i j))
    (c1 : ∀ i x, l1[i]? = some x → ∀ j c, (t.cells x)[j]? = some c → Rep true w1 (V1 i j) c (K1 i j))
    (c2 : ∀ i x, l2[i]? = some x → ∀ j c, (t.cells x)[j]? = some c → Rep true w1 (V2 i j) c (K2 i j))
    (s1 : ∀ i j x, i < l1.length → j < t.width → K1 i j x → S x ∧ x ≠ b) (s2 : ∀ i j x, i < l2.length → j < t.width → K2 i j x → S x ∧ x ≠ b)
    (d1 : ∀ i j i' j' x, i < l1.length → j < t.width → i' < l1.length → j' < t.width → K1 i j x → K1 i' j' x → i = i' ∧ j = j')
    (d2 : ∀ i j i' j' x, i < l2.length → j < t.width → i' < l2.length → j' < t.width → K2 i j x → K2 i' j' x → i = i' ∧ j = j')
    (d12 : ∀ i j i' j' x, i < l1.length → j < t.width → i' < l2.length → j' < t.width → K1 i j x → ¬ K2 i' j' x) :
    Rep true w1 (.slice (some ⟨b, off, none⟩) (l1.length + l2.length) cap) (.s t (ap l1 l2)) S := by
  have hl : (ap l1 l2).length = l1.length + l2.length := by simp [ap]
  rw [← hl]
  refine .sl t (ap l1 l2) b off cap arr e (0, 0) (fun i j => if i < l1.length then V1 i j else V2 (i - l1.length) j) (fun i j => if i < l1.length then K1 i j else K2 (i - l1.length) j) S hb (fun _ => rfl) (by omega) (by omega) hsz hS ?_ ?_ ?_ ?_
  · intro i j x hi hj hk
    by_cases h : i < l1.length
    · simp only [if_pos h] at hk
      exact ⟨(s1 i j x h hj hk).1, fun _ => (s1 i j x h hj hk).2⟩
    · simp only [if_neg h] at hk
      have := s2 (i - l1.length) j x (by omega) hj hk
      exact ⟨this.1, fun _ => this.2⟩
  · intro _ i j i' j' x hi hj hi' hj' hk hk'
    by_cases h : i < l1.length <;> by_cases h' : i' < l1.length
    · simp only [if_pos h] at hk
      simp only [if_pos h'] at hk'
      exact d1 i j i' j' x h hj h' hj' hk hk'
    · simp only [if_pos h] at hk
      simp only [if_neg h'] at hk'
      exact absurd hk' (d12 i j _ j' x h hj (by omega) hj' hk)
    · simp only [if_neg h] at hk
      simp only [if_pos h'] at hk'
      exact absurd hk (d12 i' j' _ j x h' hj' (by omega) hj hk')
    · simp only [if_neg h] at hk
      simp only [if_neg h'] at hk'
      have := d2 _ j _ j' x (by omega) hj (by omega) hj' hk hk'
      exact ⟨by omega, this.2⟩
  · intro i j hi hj
    by_cases h : i < l1.length
    · simp only [if_pos h]; exact v1 i j h hj
    · simp only [if_neg h]
      rw [← v2 (i - l1.length) j (by omega) hj]
      congr 3
      congr 1
      omega
  · intro i x hx j c hcj
    simp only [ap] at hx
    by_cases h : i < l1.length
    · simp only [if_pos h]
      rw [List.getElem?_append_left h] at hx
      exact c1 i x hx j c hcj
    · simp only [if_neg h]
      rw [List.getElem?_append_right (by omega)] at hx
      exact c2 _ x hx j c hcj

theorem run_append_room' {P : Program} {w : World} (t ty e : TypeId) (i : TypeInfo) (ht : P.underlying t = some (.slice e)) (hi : P.info? e = some i)
    (g off sLen sCap : Nat) (cur : Array Value) (e' : TypeId) (hg : w.heap[g]? = some (.cells cur e' (0, 0)))
    (a : Addr) (m c : Nat) (news : List Value) (hl : news.length = m * i.size) (hnews : ∀ j u, news[j]? = some u → w.cell? (a.add j) = some u) (h1 : ∀ u ∈ news, u.oneCell' = true)
    (hroom : sLen + m ≤ sCap) (hfit : off + sLen * i.size + news.length ≤ cur.size) :
    (Builtin.append_ #[t, t] ty #[.slice (some ⟨g, off, none⟩) sLen sCap, .slice (some a) m c]).run P w =
      .ok (.slice (some ⟨g, off, none⟩) (sLen + m) sCap) (w.setRow g (splice cur.toList (off + sLen * i.size) news).toArray) := by
  have hf := run_firstCells_some (P := P) w i.size m a m c news hl hnews
  have hst := run_storeCells_at P g (off + sLen * i.size) e' news 0 cur w hg (by simpa using hfit) h1
  simp only [Nat.add_zero] at hst
  simp [Builtin.append_, run_underlying ht, sizeOf, typeInfo, hi, Builtin.lenOf, hroom, hf, add_lit, hst, splice]

theorem run_append_none {P : Program} {w : World} (t ty e : TypeId) (i : TypeInfo) (ht : P.underlying t = some (.slice e)) (hi : P.info? e = some i)
    (s : Option Addr) (sLen sCap : Nat) (hroom : sLen ≤ sCap) (a : Option Addr) (c : Nat) :
    (Builtin.append_ #[t, t] ty #[.slice s sLen sCap, .slice a 0 c]).run P w = .ok (.slice s sLen sCap) w := by
  cases s <;> cases a <;> simp [Builtin.append_, run_underlying ht, sizeOf, typeInfo, hi, Builtin.lenOf, Builtin.firstCells, loadCells, loadCellsFrom, hroom, storeCells]

end
end Go.Proofs.Ytcfnaifggdelnaa.E
