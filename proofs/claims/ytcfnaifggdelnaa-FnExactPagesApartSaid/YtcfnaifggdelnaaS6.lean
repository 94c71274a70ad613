/- What is proved here: what the evaluator says of an operation holds of the model's run of it: new variables, stores to variables, new slices, slice expressions. -/
import Derived.Test.YtcfnaifggdelnaaS5
namespace Go.Proofs.Ytcfnaifggdelnaa.E
open Go

section
variable {C : Cfg} {w0 w w1 : World} {S0 : BSet} {U : Nat → Prop} {st st1 : St} {E E1 : Env} {ts : Array Value} {sv : List (Array Value)}

/-- An operation that changes memory, said by what memory it comes to. -/
theorem goes_mem (hS : Sim w0 S0 U st E ts sv w) {o : Oper} {id : Nat} {mv : MV} {v : Value} {f : St → St} {n : Next}
    (hr : (execOp ({ tmps := ts, defers := [] } : Act).eval o).run C.P w = .ok n w1) (hn : n = .value v ∨ (n = .skip ∧ v = undef))
    (hM : Mem w0 S0 st1 E1 w1) (T : Trans st E w st1 E1 w1 U) (hf : f st = st1.put o.dst mv) (htm : st1.tm = st.tm) (hstk : st1.stk = st.stk)
    (hro : ∀ n R, aget st1.ro n = some R → U n ∨ Mine id n) (hlo : ∀ n cs, aget st1.lo n = some cs → (U n ∨ Mine id n) ∧ ∀ a ∈ cs, ∀ m ∈ a.ids, U m ∨ Mine id m)
    (hv : VM w1 st1 E1 mv v) (hi : ∀ n ∈ mv.ids, U n ∨ Mine id n) : Goes C w0 S0 U st ts sv w o id f := by
  have hs : Sim w0 S0 (fun n => U n ∨ Mine id n) (f st) E1 (({ tmps := ts, defers := [] } : Act).put o.dst v).tmps sv w1 := by
    rw [hf]
    exact Sim.next hS hM T htm hstk (fun n h => .inl h) hro hlo hv hi
  rcases hn with rfl | ⟨rfl, rfl⟩
  · exact goes_value hr hs
  · exact goes_skip hr hs

theorem mine_self (id : Nat) : Mine id id := ⟨Nat.le_refl _, by omega⟩

theorem s_box (hS : Sim w0 S0 U st E ts sv w) {o : Oper} {id : Nat} (hid : ∀ n, Mine id n → ¬ U n) {T : TypeId} {x : Operand} {d : Dl} (ho : o.op = .box T x)
    (h : delta C st o id = some d) : Goes C w0 S0 U st ts sv w o id (fun st => st.apply o.dst d) := by
  simp only [delta, ho] at h
  split at h
  · rename_i y h1
    cases h
    obtain ⟨hx, hxi⟩ := opnd_sound hS h1
    obtain ⟨hc1, hc2⟩ := VT.cells hx (opnd_nb h1)
    have hci : ∀ a ∈ tvAts y, ∀ m ∈ a.ids, U m := fun a ha m hm => hxi m (by simp only [MV.ids, mvAts, List.mem_flatMap]; exact ⟨a, ha, hm⟩)
    have hnid := hid id (mine_self id)
    obtain ⟨hM, hT⟩ := hS.mem.addLoc hS.ids.mem hnid (e := T) hc1 hc2 hci
    refine goes_mem hS (v := .pointer (some ⟨w.heap.size, 0, none⟩)) ?_ (.inl rfl) hM hT rfl rfl rfl (fun n R hn => .inl (hS.ids.ro n R hn)) ?_ ?_ ?_
    · simp [execOp, ho, Instr.box, newVar, newRow, newObj, Sem.run]
    · intro n cs hn
      simp only [aget] at hn
      split at hn
      · rename_i he; simp only [beq_iff_eq] at he; subst he; cases hn; exact ⟨.inr (mine_self _), fun a ha m hm => .inl (hci a ha m hm)⟩
      · exact ⟨.inl (hS.ids.lo n cs hn).1, fun a ha m hm => .inl ((hS.ids.lo n cs hn).2 a ha m hm)⟩
    · exact ⟨⟨_, rfl⟩, fun cs _ => by simp⟩
    · intro n hn
      rw [ids_at] at hn
      simp only [At.ids, atIds, atLids, List.nil_append, List.mem_singleton] at hn
      subst hn
      exact .inr (mine_self _)
  · cases h

theorem zeros_get : ∀ (tys : List CTy) (id k : Nat), (zeros tys id)[k]? = tys[k]?.map (zeroAt (id + k))
  | [], id, k => by simp [zeros]
  | c :: r, id, k => by
    cases k with
    | zero => simp [zeros]
    | succ k =>
      simp only [zeros, List.getElem?_cons_succ]
      rw [zeros_get r (id + 1) k]
      congr 2
      omega

theorem zeros_len : ∀ (tys : List CTy) (id : Nat), (zeros tys id).length = tys.length
  | [], _ => rfl
  | c :: r, id => by simp [zeros, zeros_len r]

theorem zeroRoots_get : ∀ (tys : List CTy) (id n : Nat) (R : Root), aget (zeroRoots tys id) n = some R → id ≤ n ∧ n < id + tys.length ∧ ∃ t, R = newRoot t []
  | [], _, _, _, h => by cases h
  | c :: r, id, n, R, h => by
    have hr : aget (zeroRoots r (id + 1)) n = some R → id ≤ n ∧ n < id + (c :: r).length ∧ ∃ t, R = newRoot t [] := fun h => by
      obtain ⟨h1, h2, h3⟩ := zeroRoots_get r (id + 1) n R h
      exact ⟨by omega, by simp; omega, h3⟩
    cases c with
    | i k => exact hr h
    | b => exact hr h
    | s t =>
      simp only [zeroRoots, aget] at h
      split at h
      · rename_i he
        simp only [beq_iff_eq] at he
        cases h
        exact ⟨by omega, by simp; omega, t, rfl⟩
      · exact hr h

theorem zeroAt_ids {c : CTy} {id n : Nat} (h : n ∈ (zeroAt id c).ids) : n = id := by
  cases c <;> simp [zeroAt, At.ids, atIds, atLids] at h
  exact h

/-- New empty slices. -/
def zeroEnv (E : Env) (id : Nat) : Env := { E with ρ := fun n => if id ≤ n ∧ n < id + 31 then .slice none 0 0 else E.ρ n, φ := fun n => if id ≤ n ∧ n < id + 31 then fun _ => False else E.φ n }

theorem Mem.zeroRoots (hS : Mem w0 S0 st E w) (hI : IdsM st U) {id : Nat} (hid : ∀ n, Mine id n → ¬ U n) {tys : List CTy} (hle : tys.length ≤ 31) :
    Mem w0 S0 { st with ro := Go.Proofs.Ytcfnaifggdelnaa.E.zeroRoots tys id ++ st.ro } (zeroEnv E id) w ∧ Trans st E w { st with ro := Go.Proofs.Ytcfnaifggdelnaa.E.zeroRoots tys id ++ st.ro } (zeroEnv E id) w U := by
  refine hS.addRoots hI rfl rfl rfl (Nat.le_refl _) (fun _ _ => rfl) (fun r R hr => ?_) (fun r R r' R' h1 _ _ x hx => ?_) (fun n hn => ?_)
  · obtain ⟨h1, h2, t, rfl⟩ := zeroRoots_get tys id r R hr
    have hm : id ≤ r ∧ r < id + 31 := ⟨h1, by omega⟩
    refine ⟨hid r ⟨h1, by omega⟩, rfl, rfl, ?_, fun x hx => ?_⟩
    · simp only [zeroEnv, if_pos hm, newRoot]; exact .nil t _
    · simp only [zeroEnv, if_pos hm] at hx
  · obtain ⟨h1, h2, _⟩ := zeroRoots_get tys id r R h1
    have hm : id ≤ r ∧ r < id + 31 := ⟨h1, by omega⟩
    simp only [zeroEnv, if_pos hm] at hx
  · have hm : ¬ (id ≤ n ∧ n < id + 31) := fun hm => hid n ⟨hm.1, by omega⟩ hn
    simp only [zeroEnv, if_neg hm]
    exact ⟨trivial, trivial, trivial⟩

theorem zeros_va {tys : List CTy} {id k : Nat} {a : At} (hle : tys.length ≤ 31) (h : (zeros tys id)[k]? = some a) :
    ∃ c, tys[k]? = some c ∧ (zeroV c).oneCell' = true ∧ (∀ st w, VA w st (zeroEnv E id) a (zeroV c)) ∧ ∀ n ∈ a.ids, id ≤ n ∧ n < id + 31 := by
  rw [zeros_get] at h
  cases hc : tys[k]? with
  | none => rw [hc] at h; cases h
  | some c =>
    rw [hc] at h
    cases h
    have hk : k < tys.length := (List.getElem?_eq_some_iff.1 hc).1
    refine ⟨c, rfl, by cases c <;> rfl, fun st w => ?_, fun n hn => ?_⟩
    · cases c with
      | i k => rfl
      | b => rfl
      | s t =>
        refine ⟨⟨none, 0, 0, rfl⟩, fun R hR => ?_⟩
        have hm : id ≤ id + k ∧ id + k < id + 31 := ⟨by omega, by omega⟩
        simp only [hdrAt, zeroEnv, if_pos hm]
        rfl
    · rw [zeroAt_ids hn]; omega

theorem s_alloc (hC : CfgOk C) (hS : Sim w0 S0 U st E ts sv w) {o : Oper} {id : Nat} (hid : ∀ n, Mine id n → ¬ U n) {T : TypeId} {d : Dl} (ho : o.op = .alloc T)
    (h : delta C st o id = some d) : Goes C w0 S0 U st ts sv w o id (fun st => st.apply o.dst d) := by
  simp only [delta, ho] at h
  split at h
  · rename_i agg tys hT
    split at h
    · rename_i hle
      cases h
      obtain ⟨hM1, hT1⟩ := hS.mem.zeroRoots hS.ids.mem hid hle
      obtain ⟨z, hz, hzc⟩ := run_zero (w := w) (hC.cty T agg tys hT)
      have hIM : IdsM { st with ro := Go.Proofs.Ytcfnaifggdelnaa.E.zeroRoots tys id ++ st.ro } (fun n => U n ∨ (id ≤ n ∧ n < id + 31)) := by
        refine ⟨fun n R hn => ?_, fun n cs hn => ⟨.inl (hS.ids.lo n cs hn).1, fun a ha m hm => .inl ((hS.ids.lo n cs hn).2 a ha m hm)⟩⟩
        simp only [aget_append] at hn
        split at hn
        · rename_i Q hQ
          obtain ⟨h1, h2, _⟩ := zeroRoots_get tys id n Q hQ
          exact .inr ⟨h1, by omega⟩
        · exact .inl (hS.ids.ro n R hn)
      have hsz : z.cells.size = (zeros tys id).length := by rw [zeros_len, ← Array.length_toList, hzc]; simp
      have hcs : ∀ (j : Nat) (c : At) (u : Value), (zeros tys id)[j]? = some c → z.cells[j]? = some u → u.oneCell' = true ∧ VA w { st with ro := Go.Proofs.Ytcfnaifggdelnaa.E.zeroRoots tys id ++ st.ro } (zeroEnv E id) c u := by
        intro j c u hc hu
        obtain ⟨ct, h1, h2, h3, _⟩ := zeros_va (E := E) hle hc
        have : z.cells.toList[j]? = some u := by simpa using hu
        rw [hzc, List.getElem?_map, h1] at this
        cases this
        exact ⟨h2, h3 _ _⟩
      obtain ⟨hM2, hT2⟩ := hM1.addLoc hIM (id := id + 31) (fun hn => hn.elim (hid _ ⟨by omega, by omega⟩) (fun h => by omega)) (e := T) hsz hcs (fun a ha m hm => by
        obtain ⟨k, hk⟩ := List.mem_iff_getElem?.1 ha
        obtain ⟨_, _, _, _, h4⟩ := zeros_va (E := E) hle hk
        exact .inr (h4 m hm))
      refine goes_mem hS (v := .pointer (some ⟨w.heap.size, 0, none⟩)) (w1 := w.alloc (.cells z.cells T (0, 0))) ?_ (.inl rfl) hM2 ?_ rfl rfl rfl ?_ ?_ ?_ ?_
      · simp [execOp, ho, Instr.alloc, hz, newVar, newRow, newObj, Sem.run]
      · exact ⟨fun r hU R1 hR1 => by
          obtain ⟨R, hR, ht, hh⟩ := hT2.ro r (.inl hU) R1 hR1
          obtain ⟨R', hR', ht', hh'⟩ := hT1.ro r hU R hR
          refine ⟨R', hR', ht.trans ht', fun p u hp => ?_⟩
          rw [← ht']
          exact hh p u (by rw [ht']; exact hh' p u hp),
          fun l hU cs1 h1 => by
          obtain ⟨⟨cs, hcs⟩, hβ⟩ := hT2.lo l (.inl hU) cs1 h1
          obtain ⟨⟨cs', hcs'⟩, hβ'⟩ := hT1.lo l hU cs hcs
          exact ⟨⟨cs', hcs'⟩, hβ.trans hβ'⟩, hT2.κ.trans hT1.κ⟩
      · intro n R hn
        rcases hIM.ro n R hn with h | h
        · exact .inl h
        · exact .inr ⟨h.1, by omega⟩
      · intro n cs hn
        simp only [aget] at hn
        split at hn
        · rename_i he
          simp only [beq_iff_eq] at he
          subst he
          cases hn
          refine ⟨.inr ⟨by omega, by omega⟩, fun a ha m hm => ?_⟩
          obtain ⟨k, hk⟩ := List.mem_iff_getElem?.1 ha
          obtain ⟨_, _, _, _, h4⟩ := zeros_va (E := E) hle hk
          exact .inr ⟨(h4 m hm).1, by have := (h4 m hm).2; omega⟩
        · exact ⟨.inl (hS.ids.lo n cs hn).1, fun a ha m hm => .inl ((hS.ids.lo n cs hn).2 a ha m hm)⟩
      · exact ⟨⟨_, rfl⟩, fun cs _ => by simp⟩
      · intro n hn
        rw [ids_at] at hn
        simp only [At.ids, atIds, atLids, List.nil_append, List.mem_singleton] at hn
        subst hn
        exact .inr ⟨by omega, by omega⟩
    · cases h
  · cases h

end
end Go.Proofs.Ytcfnaifggdelnaa.E
