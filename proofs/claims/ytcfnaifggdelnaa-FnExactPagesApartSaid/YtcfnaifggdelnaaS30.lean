/- What is proved here: the contract of a function that writes into the slice that it is handed, from what the evaluator says of it. -/
import Derived.Test.YtcfnaifggdelnaaS29
namespace Go.Proofs.Ytcfnaifggdelnaa.E
open Go

/-- A function that writes into a slice, over plain data: the slice's new rows, and the number handed back. -/
def evalI (C : Cfg) (tms : FuncId → Nat → Option Tmpl) (N D : Nat) (f : FuncId) (t : Ty) (l : List t.den) (k : Int) : Option Ans :=
  denFn C tms N (callIn C tms N D) f [.v (.at (.sl 0 [])), .v (.at (.i .i64 k))] { tm := [.v (.at (.sl 0 []))], lo := [], ro := [(0, ⟨t, l, true, none⟩)], stk := [], nid := 1, ep := 0 } fun rs st =>
    match rs, st.tm with
    | [.at (.i .i64 k')], [.v (.at (.sl r []))] => match st.root r with
      | some R => cond R.own (some [.one (.s R.t R.l), .one (.i .i64 k')]) none
      | none => none
    | _, _ => none

theorem holdsI_of_eval {C : Cfg} (hO : EngOk C) {f : FuncId} {run : CV → Int → Option (Bool × CV × Int)} (hf : FnOk C.P f)
    (h : ∀ (t : Ty) (l : List t.den) (k : Int) (c' : CV) (k' : Int), (∃ w v S, Rep true w v (.s t l) S) → run (.s t l) k = some (true, c', k') → ∃ tms N D, evalI C tms N D f t l k = some [.one c', .one (.i .i64 k')]) : HoldsI C.P f run := by
  refine ⟨hf, fun w v t l k S c' k' hrep hS hrun => ?_⟩
  obtain ⟨tms, N, D, hev⟩ := h t l k c' k' ⟨w, v, S, hrep⟩ hrun
  unfold evalI at hev
  generalize hst : ({ tm := [.v (.at (.sl 0 []))], lo := [], ro := [(0, ⟨t, l, true, none⟩)], stk := [], nid := 1, ep := 0 } : St) = st at hev
  have hroot : ∀ (r : Nat) (R : Root), aget st.ro r = some R → r = 0 ∧ R = ⟨t, l, true, none⟩ := by
    intro r R hR
    rw [← hst] at hR
    simp only [aget] at hR
    split at hR
    · rename_i he
      simp only [beq_iff_eq] at he
      cases hR
      exact ⟨he.symm, rfl⟩
    · cases hR
  have hlo : ∀ l, aget st.lo l = none := fun l => by rw [← hst]; rfl
  obtain ⟨⟨a0, cap0, hv0, _⟩, _⟩ := hrep.len
  let E : Env := { ρ := fun _ => v, φ := fun _ => S, β := fun _ => 0, κ := w }
  have hva : VA w st E (.sl 0 []) v := ⟨⟨a0, _, cap0, hv0⟩, fun R _ => rfl⟩
  have hSim : Sim w S (fun n => n < 1) st E #[v] [] w := by
    refine ⟨⟨rfl, rfl, rfl, Nat.le_refl _, fun _ _ _ => rfl, fun r R hR => ?_, fun r R _ x hx => hS x hx, fun r R hR ho => ?_, fun r R r' R' hR ho hR' _ hne => ?_, fun l cs hl => ?_, fun l l' cs cs' hl => ?_, fun l cs r R hl => ?_, fun r R e hR he => ?_, rfl⟩, ⟨fun n R hn => ?_, fun n cs hn => ?_, fun m hm n hn => ?_, fun f hf => ?_⟩, ⟨?_, fun i m u hm hu => ?_⟩, ?_⟩
    · obtain ⟨rfl, rfl⟩ := hroot r R (root_aget hR).1
      exact hrep
    · obtain ⟨rfl, rfl⟩ := hroot r R (root_aget hR).1
      exact ⟨rfl, fun x hx => .inl hx⟩
    · obtain ⟨rfl, _⟩ := hroot r R (root_aget hR).1
      obtain ⟨rfl, _⟩ := hroot r' R' (root_aget hR').1
      exact absurd rfl hne
    · rw [hlo] at hl; cases hl
    · rw [hlo] at hl; cases hl
    · rw [hlo] at hl; cases hl
    · obtain ⟨rfl, rfl⟩ := hroot r R hR
      cases he
    · obtain ⟨rfl, rfl⟩ := hroot n R hn
      exact Nat.lt_succ_self _
    · rw [hlo] at hn; cases hn
    · rw [← hst] at hm
      simp only [List.mem_singleton] at hm
      subst hm
      simp only [MV.ids, mvAts, tvAts, At.ids, atIds, atLids, List.append_nil, List.flatMap_cons, List.flatMap_nil, List.mem_singleton] at hn
      subst hn
      exact Nat.lt_succ_self _
    · rw [← hst] at hf; simp at hf
    · rw [← hst]; rfl
    · rw [← hst] at hm
      cases i with
      | zero => simp at hm hu; subst hm hu; exact hva
      | succ i => simp at hm
    · rw [← hst]; trivial
  have hnid : st.nid = 1 := by rw [← hst]
  obtain ⟨_, hcalls⟩ := denFn_sound hO (callIn_sound hO (tms := tms) (N := N) D) f _ st _ _ hev w S (fun n => n < 1) E #[v] [] w #[v, .int .i64 k]
    (fun u w' => w'.os = w.os ∧ w'.tape = w.tape ∧ w'.output = w.output ∧ w.heap.size ≤ w'.heap.size ∧ (∀ b, b < w.heap.size → ¬ S b → w'.heap[b]? = w.heap[b]?) ∧ u = .int .i64 k' ∧
          ∃ S' : BSet, Rep true w' v c' S' ∧ ∀ x, S' x → (S x ∨ w.heap.size ≤ x) ∧ x < w'.heap.size) hSim (fun n hn h => by omega)
    rfl (fun i m u hm hu => by
      match i with
      | 0 => simp at hm hu; subst hm hu; exact hva
      | 1 => simp at hm hu; subst hm hu; rfl
      | i + 2 => simp at hm)
    (fun m hm n hn => by
      simp only [List.mem_cons, List.not_mem_nil, or_false] at hm
      rcases hm with rfl | rfl
      · simp only [MV.ids, mvAts, tvAts, At.ids, atIds, atLids, List.append_nil, List.flatMap_cons, List.flatMap_nil, List.mem_singleton] at hn
        subst hn
        exact Nat.lt_succ_self _
      · simp [MV.ids, mvAts, tvAts, At.ids, atIds, atLids] at hn)
    (fun U' st' E' w' tvs u hS' _ _ _ hv _ hans => by
      split at hans
      · rename_i k2 r htm _
        split at hans
        · rename_i R hR
          cases hown : R.own with
          | false => rw [hown] at hans; cases hans
          | true =>
            rw [hown] at hans
            simp only [cond_true, Option.some.injEq, List.cons.injEq, AV.one.injEq, CV.i.injEq, true_and, and_true] at hans
            obtain ⟨rfl, rfl⟩ := hans
            have hM := hS'.mem
            have hsl := hS'.tm.2 0 (.v (.at (.sl r []))) v (by rw [htm]; rfl) rfl
            have hρ := hsl.2 R hR
            simp only [hdrAt, Option.some.injEq] at hρ
            have hr := hM.rep r R hR
            rw [hown, hρ] at hr
            refine ⟨hM.os, hM.tape, hM.output, hM.size, fun b hb hn => hM.keep b hb hn, hv, E'.φ r, hr, fun x hx => ⟨(hM.mine r R hR hown).2 x hx, hM.rlt r R hR x hx⟩⟩
        · cases hans
      · cases hans)
  refine hcalls.mono ?_
  intro e w' he
  cases e with
  | returned u => exact he
  | panicked chain => exact he.elim
  | outgrown => exact he.elim

end Go.Proofs.Ytcfnaifggdelnaa.E
