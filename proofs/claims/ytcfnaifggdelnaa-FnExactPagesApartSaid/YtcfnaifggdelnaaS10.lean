/- What is proved here: what the evaluator says of an operation holds of the model's run of it: struct literals and slice literals. -/
import Derived.Test.YtcfnaifggdelnaaS9
import Derived.Great.BuildSlice
namespace Go.Proofs.Ytcfnaifggdelnaa.E
open Go

section
variable {C : Cfg} {w0 w w1 : World} {S0 : BSet} {U : Nat → Prop} {st st1 : St} {E E1 : Env} {ts : Array Value} {sv : List (Array Value)}

theorem fill_step {place : Nat → Option (Nat × Nat)} {cells : Array Value} {i off size : Nat} {v : Value} {rest : List (Nat × Value)} (h1 : place i = some (off, size)) (h2 : v.cells.size = size) (h3 : off + size ≤ cells.size) :
    Instr.fill place cells ((i, v) :: rest) = Instr.fill place (splice cells.toList off v.cells.toList).toArray rest := by
  have hb : off + v.cells.toList.length ≤ cells.toList.length := by simp [h2]; exact h3
  have e : v.cells.zipIdx.foldl (fun cs (x : Value × Nat) => cs.setIfInBounds (off + x.2) x.1) cells = (splice cells.toList off v.cells.toList).toArray := by
    rw [← Array.foldl_toList, Array.toList_zipIdx]
    obtain ⟨g1, g2⟩ := Great.foldl_set off v.cells.toList 0 cells
    apply Array.ext_getElem?
    intro k
    rw [g2 k]
    have e0 : (splice cells.toList off v.cells.toList).toArray[k]? = (splice cells.toList off v.cells.toList)[k]? := List.getElem?_toArray
    rw [e0]
    by_cases hk : off ≤ k ∧ k < off + v.cells.toList.length
    · rw [splice_in _ _ _ hb k hk.1 hk.2, if_pos ⟨by omega, by omega, by simp at hb; simp at hk; omega⟩]
      simp
    · rw [splice_out _ _ _ hb k (by omega), if_neg (by omega)]
      simp
  rw [Instr.fill, h1]
  simp only
  rw [if_neg (by simp [h2]; omega)]
  rw [← e]

/-! What is handed over. -/

def aφ (E : Env) : At → BSet
  | .sl r [] => E.φ r
  | _ => fun _ => False

structure Given (st : St) (xs : List At) (cs : List CV) (ks : List Nat) : Prop where
  len : cs.length = xs.length
  own : ∀ r ∈ ks, ∃ R, st.root r = some R ∧ R.own = true
  get : ∀ (k : Nat) (a : At), xs[k]? = some a → (∃ k' n, a = .i k' n ∧ cs[k]? = some (.i k' n)) ∨ (∃ x, a = .b x ∧ cs[k]? = some (.b x)) ∨ ∃ r R, a = .sl r [] ∧ st.root r = some R ∧ r ∈ ks ∧ cs[k]? = some (.s R.t R.l)
  inj : ∀ (k k' r : Nat), xs[k]? = some (.sl r []) → xs[k']? = some (.sl r []) → k = k'

theorem give_none : ∀ (xs : List At) (j : Nat) (c : Bool) (cs : List CV) (ks : List Nat), st.give none xs j = some (c, cs, ks) → c = true ∧ Given st xs cs ks
  | [], j, c, cs, ks, h => by
    simp only [St.give, Option.some.injEq, Prod.mk.injEq] at h
    obtain ⟨rfl, rfl, rfl⟩ := h
    exact ⟨rfl, rfl, fun r hr => by simp at hr, fun k a h => by simp at h, fun k k' r h => by simp at h⟩
  | a :: r, j, c, cs, ks, h => by
    simp only [St.give] at h
    split at h
    · cases h
    · rename_i c' cs' ks' hg
      obtain ⟨hc, hG⟩ := give_none r (j + 1) c' cs' ks' hg
      subst hc
      split at h
      · rename_i k n
        cases h
        refine ⟨rfl, by simp [hG.len], hG.own, fun k' a ha => ?_, fun k1 k2 r' h1 h2 => ?_⟩
        · cases k' with
          | zero => simp at ha; subst ha; exact .inl ⟨k, n, rfl, rfl⟩
          | succ k' => exact hG.get k' a (by simpa using ha)
        · cases k1 <;> cases k2 <;> simp at h1 h2
          exact congrArg _ (hG.inj _ _ r' h1 h2)
      · rename_i x
        cases h
        refine ⟨rfl, by simp [hG.len], hG.own, fun k' a ha => ?_, fun k1 k2 r' h1 h2 => ?_⟩
        · cases k' with
          | zero => simp at ha; subst ha; exact .inr (.inl ⟨x, rfl, rfl⟩)
          | succ k' => exact hG.get k' a (by simpa using ha)
        · cases k1 <;> cases k2 <;> simp at h1 h2
          exact congrArg _ (hG.inj _ _ r' h1 h2)
      · rename_i q
        split at h
        · rename_i R hR
          split at h
          · rename_i hcond
            cases h
            simp only [Bool.and_true, Bool.and_eq_true, Bool.not_eq_true', List.contains_eq_mem, decide_eq_false_iff_not] at hcond
            have hnew : ∀ k : Nat, r[k]? ≠ some (At.sl q []) := by
              intro k hk
              rcases hG.get k _ hk with ⟨_, _, h, _⟩ | ⟨_, h, _⟩ | ⟨r2, _, h, _, hm, _⟩
              · cases h
              · cases h
              · cases h; exact hcond.2 hm
            refine ⟨rfl, by simp [hG.len], ?_, fun k' a ha => ?_, fun k1 k2 r' h1 h2 => ?_⟩
            · intro r2 hr2
              rcases List.mem_cons.1 hr2 with rfl | hr2
              · exact ⟨R, hR, hcond.1⟩
              · exact hG.own r2 hr2
            · cases k' with
              | zero => simp at ha; subst ha; exact .inr (.inr ⟨q, R, rfl, hR, by simp, rfl⟩)
              | succ k' =>
                rcases hG.get k' a (by simpa using ha) with h | h | ⟨r2, R2, h1, h2, h3, h4⟩
                · exact .inl h
                · exact .inr (.inl h)
                · exact .inr (.inr ⟨r2, R2, h1, h2, by simp [h3], h4⟩)
            · cases k1 <;> cases k2 <;> simp at h1 h2
              · rfl
              · subst h1; exact absurd h2 (hnew _)
              · subst h2; exact absurd h1 (hnew _)
              · exact congrArg _ (hG.inj _ _ r' h1 h2)
          · cases h
        · cases h
      · cases h
      · cases h

theorem Given.rep {xs : List At} {cs : List CV} {ks : List Nat} (hG : Given st xs cs ks) (hM : Mem w0 S0 st E w) {k : Nat} {a : At} {c : CV} {u : Value} (ha : xs[k]? = some a) (hc : cs[k]? = some c) (hu : VA w st E a u) : Rep true w u c (aφ E a) := by
  rcases hG.get k a ha with ⟨k', n, rfl, h⟩ | ⟨x, rfl, h⟩ | ⟨r, R, rfl, hR, hm, h⟩
  · rw [hc] at h; cases h; cases hu; exact .i _ _ _
  · rw [hc] at h; cases h; cases hu; exact .b _ _
  · rw [hc] at h
    cases h
    have := hu.2 R hR
    simp only [hdrAt, Option.some.injEq] at this
    subst this
    have hr := hM.rep r R hR
    obtain ⟨R', hR', ho⟩ := hG.own r hm
    rw [hR] at hR'
    cases hR'
    rw [ho] at hr
    exact hr

theorem Given.fi {xs : List At} {cs : List CV} {ks : List Nat} (hG : Given st xs cs ks) {k : Nat} {a : At} {x : Nat} (ha : xs[k]? = some a) (hx : aφ E a x) : ∃ r ∈ ks, a = .sl r [] ∧ E.φ r x := by
  rcases hG.get k a ha with ⟨k', n, rfl, h⟩ | ⟨x, rfl, h⟩ | ⟨r, R, rfl, hR, hm, h⟩
  · exact hx.elim
  · exact hx.elim
  · exact ⟨r, hm, rfl, hx⟩

theorem Mem.own_apart (hM : Mem w0 S0 st E w) {r r' : Nat} {R R' : Root} (hR : st.root r = some R) (ho : R.own = true) (hR' : st.root r' = some R') (ho' : R'.own = true) {x : Nat} (hx : E.φ r x) (hx' : E.φ r' x) : r = r' := by
  by_cases h : r = r'
  · exact h
  · exact absurd hx' (hM.apart r R r' R' hR ho hR' (hM.mine r' R' hR' ho').1 h x hx)

/-! A struct literal. -/

theorem layParts_sound {T : TypeId} {places : List (Nat × Nat)} (hpl : ∀ f off n, C.fof T f = some (off, n) → places[f]? = some (off, n)) {st1 : St} {ev : Operand → Value} (hev : ∀ x y, st.opnd x = some (.v y) → VT w st1 E1 y (ev x)) :
    ∀ (parts : List (Nat × Operand)) (cs cs' : List At) (cells : Array Value), layParts C T st parts cs = some cs' → cells.size = cs.length →
      (∀ (j : Nat) (a : At) (u : Value), cs[j]? = some a → cells[j]? = some u → u.oneCell' = true ∧ VA w st1 E1 a u) →
      ∃ cells' : Array Value, Instr.fill (places[·]?) cells (parts.map fun x => (x.1, ev x.2)) = some cells' ∧ cells'.size = cs'.length ∧
        (∀ (j : Nat) (a : At) (u : Value), cs'[j]? = some a → cells'[j]? = some u → u.oneCell' = true ∧ VA w st1 E1 a u)
  | [], cs, cs', cells, h, hs, hv => by
    cases h
    exact ⟨cells, rfl, hs, hv⟩
  | (f, x) :: r, cs, cs', cells, h, hs, hv => by
    simp only [layParts] at h
    split at h
    · rename_i off n y hf hx
      split at h
      · rename_i hc
        obtain ⟨hl, hle⟩ := hc
        have hy := hev x y hx
        obtain ⟨c1, c2⟩ := VT.cells hy (opnd_nb hx)
        have hb2 : off + (tvAts y).length ≤ cs.length := by rw [hl]; exact hle
        have hb1 : off + (ev x).cells.toList.length ≤ cells.toList.length := by simp [c1, hl, hs]; exact hle
        simp only [List.map_cons]
        rw [fill_step (hpl f off n hf) (by rw [c1, hl]) (by rw [hs]; exact hle)]
        refine layParts_sound hpl hev r (splice cs off (tvAts y)) cs' _ h (by rw [List.size_toArray, splice_len _ _ _ hb1, splice_len _ _ _ hb2]; simpa using hs) ?_
        intro j a u ha hu
        rw [List.getElem?_toArray] at hu
        by_cases hj : off ≤ j ∧ j < off + (tvAts y).length
        · rw [splice_in _ _ _ hb2 j hj.1 hj.2] at ha
          rw [splice_in _ _ _ hb1 j hj.1 (by simp [c1]; exact hj.2)] at hu
          exact c2 _ a u ha (by simpa using hu)
        · rw [splice_out _ _ _ hb2 j (by omega)] at ha
          rw [splice_out _ _ _ hb1 j (by simp [c1]; omega)] at hu
          exact hv j a u ha (by simpa using hu)
      · cases h
    · cases h

theorem layParts_ids {T : TypeId} : ∀ (parts : List (Nat × Operand)) (cs cs' : List At), layParts C T st parts cs = some cs' → ∀ a ∈ cs', a ∈ cs ∨ ∃ x y, st.opnd x = some (.v y) ∧ a ∈ tvAts y
  | [], cs, cs', h, a, ha => by cases h; exact .inl ha
  | (f, x) :: r, cs, cs', h, a, ha => by
    simp only [layParts] at h
    split at h
    · rename_i off n y hf hx
      split at h
      · rcases layParts_ids r _ cs' h a ha with h1 | h1
        · simp only [splice, List.mem_append] at h1
          rcases h1 with (h1 | h1) | h1
          · exact .inl (List.mem_of_mem_take h1)
          · exact .inr ⟨x, y, hx, h1⟩
          · exact .inl (List.mem_of_mem_drop h1)
        · exact .inr h1
      · cases h
    · cases h

theorem s_build (hC : CfgOk C) (hS : Sim w0 S0 U st E ts sv w) {o : Oper} {id : Nat} (hid : ∀ n, Mine id n → ¬ U n) {T : TypeId} {parts : Array (Nat × Operand)} {d : Dl} (ho : o.op = .build T parts)
    (h : delta C st o id = some d) : Goes C w0 S0 U st ts sv w o id (fun st => st.apply o.dst d) := by
  simp only [delta, ho] at h
  split at h
  · rename_i tys hT
    split at h
    · rename_i cs hcs
      split at h
      · rename_i hle
        cases h
        obtain ⟨hM1, hT1⟩ := hS.mem.zeroRoots hS.ids.mem hid hle
        obtain ⟨fs, places, hu, hpl, hpf⟩ := hC.str T tys hT
        obtain ⟨i, z, hi, hs, hz, hzc⟩ := (hC.cty T true tys hT).info
        have hsz : z.cells.size = (zeros tys id).length := by rw [zeros_len, ← Array.length_toList, hzc]; simp
        obtain ⟨cells, hf, hcl, hcv⟩ := layParts_sound (w := w) (st1 := { st with ro := Go.Proofs.Ytcfnaifggdelnaa.E.zeroRoots tys id ++ st.ro }) (E1 := zeroEnv E id) (ev := ({ tmps := ts, defers := [] } : Act).eval) hpf
          (fun x y hx => by
            obtain ⟨h1, h2⟩ := opnd_sound hS hx
            exact VT.tr hT1 (fun a ha n hn => h2 n (by simp only [MV.ids, mvAts, List.mem_flatMap]; exact ⟨a, ha, hn⟩)) h1)
          parts.toList (zeros tys id) cs z.cells hcs hsz (fun j a u ha hu => by
            obtain ⟨ct, h1, h2, h3, _⟩ := zeros_va (E := E) hle ha
            have : z.cells.toList[j]? = some u := by simpa using hu
            rw [hzc, List.getElem?_map, h1] at this
            cases this
            exact ⟨h2, h3 _ _⟩)
        refine goes_mem hS (v := .agg cells) (mv := .v (.agg cs)) ?_ (.inl rfl) hM1 hT1 rfl rfl rfl ?_ (fun n cs hn => ⟨.inl (hS.ids.lo n cs hn).1, fun a ha m hm => .inl ((hS.ids.lo n cs hn).2 a ha m hm)⟩) ⟨cells, rfl, hcl, hcv⟩ ?_
        · have hb : C.P.built T (parts.map fun x => (x.1, ({ tmps := ts, defers := [] } : Act).eval x.2)).toList = some cells := by
            simp only [Program.built, hi, hu, hz, hpl, Array.toList_map]
            simpa using hf
          have := run_build (P := C.P) w T _ cells hb
          simp [execOp, ho, this]
        · intro n R hn
          simp only [aget_append] at hn
          split at hn
          · rename_i Q hQ
            obtain ⟨h1, h2, _⟩ := zeroRoots_get tys id n Q hQ
            exact .inr ⟨h1, by omega⟩
          · exact .inl (hS.ids.ro n R hn)
        · intro n hn
          simp only [MV.ids, mvAts, tvAts, List.mem_flatMap] at hn
          obtain ⟨a, ha, hn⟩ := hn
          rcases layParts_ids parts.toList _ cs hcs a ha with h1 | ⟨x, y, hx, h1⟩
          · obtain ⟨k, hk⟩ := List.mem_iff_getElem?.1 h1
            obtain ⟨_, _, _, _, h4⟩ := zeros_va (E := E) hle hk
            exact .inr ⟨(h4 n hn).1, by have := (h4 n hn).2; omega⟩
          · exact .inl ((opnd_sound hS hx).2 n (by simp only [MV.ids, mvAts, List.mem_flatMap]; exact ⟨a, h1, hn⟩))
      · cases h
    · cases h
  · cases h

end
end Go.Proofs.Ytcfnaifggdelnaa.E
