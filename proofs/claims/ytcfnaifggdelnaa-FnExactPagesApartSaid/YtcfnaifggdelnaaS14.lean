/- What is proved here: what the evaluator says of an operation holds of the model's run of it: each operation but the store that puts a slice into another one. -/
import Derived.Test.YtcfnaifggdelnaaS13
namespace Go.Proofs.Ytcfnaifggdelnaa.E
open Go

section
variable {C : Cfg} {w0 w w1 : World} {S0 : BSet} {U : Nat → Prop} {st st1 : St} {E E1 : Env} {ts : Array Value} {sv : List (Array Value)}

structure CtrOk (C : Cfg) : Prop where
  ok : ∀ f run, C.ctr f = some run → Holds C.P f run

theorem d_move (hC : CfgOk C) (hS : Sim w0 S0 U st E ts sv w) {o : Oper} {id : Nat} (hid : ∀ n, Mine id n → ¬ U n) {x : Operand} {d : Dl} (ho : o.op = .move x ∨ o.op = .assign x)
    (h : delta C st o id = some d) : Goes C w0 S0 U st ts sv w o id (fun st => st.apply o.dst d) := by
  rcases ho with ho | ho
  · simp only [delta, ho] at h
    split at h
    · cases h; exact goes_pure hS (v := .pointer none) (by simp [execOp, ho, Act.eval]) trivial (fun n hn => by simp [MV.ids, mvAts, tvAts, At.ids, atIds, atLids] at hn)
    · split at h
      · cases h; exact s_nil hS hid (.inl ho)
      · cases h
    · split at h
      · rename_i v hv
        cases h
        exact s_move hS (.inl ho) hv
      · cases h
  · simp only [delta, ho] at h
    split at h
    · cases h; exact goes_pure hS (v := .pointer none) (by simp [execOp, ho, Act.eval]) trivial (fun n hn => by simp [MV.ids, mvAts, tvAts, At.ids, atIds, atLids] at hn)
    · split at h
      · cases h; exact s_nil hS hid (.inr ho)
      · cases h
    · split at h
      · rename_i v hv
        cases h
        exact s_move hS (.inr ho) hv
      · cases h

theorem d_store (hC : CfgOk C) (hS : Sim w0 S0 U st E ts sv w) {o : Oper} {id : Nat} {T : TypeId} {a x : Operand} {d : Dl} (ho : o.op = .store T a x)
    (h : delta C st o id = some d) : Goes C w0 S0 U st ts sv w o id (fun st => st.apply o.dst d) := by
  simp only [delta, ho] at h
  split at h
  · rename_i agg tys y l off hT hx ha
    split at h
    · rename_i cs hcs
      split at h
      · rename_i hc
        cases h
        exact s_store_lp hC hS ho hT hx ha hcs hc.1 hc.2
      · cases h
    · cases h
  · rename_i agg tys y r p i off hT hx ha
    split at h
    · rename_i R t l c cvs hR hn hg
      split at h
      · rename_i hcond
        simp only [Bool.and_eq_true, beq_iff_eq, decide_eq_true_eq] at hcond
        split at h
        · rename_i l' hset
          split at h
          · rename_i m hput
            cases h
            exact s_store_ep hC hS ho hT hx ha hR hn hg hcond.1.1 hcond.1.2 hcond.2 hset hput
          · cases h
        · cases h
      · cases h
    · cases h
  · cases h

theorem appendCV_some {t : Ty} {a b : CV} {m : List t.den} (h : appendCV t a b = some m) : ∃ l1 l2 : List t.den, a = .s t l1 ∧ b = .s t l2 ∧ m = ap l1 l2 := by
  unfold appendCV at h
  split at h
  · split at h
    · rename_i t1 l1 t2 l2 hh
      obtain ⟨rfl, rfl⟩ := hh
      cases h
      exact ⟨l1, l2, rfl, rfl, rfl⟩
    · cases h
  · cases h

theorem d_call (hC : CfgOk C) (hH : CtrOk C) (hS : Sim w0 S0 U st E ts sv w) {o : Oper} {id : Nat} (hid : ∀ n, Mine id n → ¬ U n) {c : Call} {d : Dl} (ho : o.op = .call c)
    (h : delta C st o id = some d) (hc : d.c = true) : Goes C w0 S0 U st ts sv w o id (fun st => st.apply o.dst d) := by
  simp only [delta, ho] at h
  split at h
  · rename_i hcb
    split at h
    · rename_i x T hca hct
      split at h
      · rename_i r p hx
        split at h
        · rename_i t l hn
          split at h
          · rename_i hT
            cases h
            obtain ⟨e, hE⟩ := hC.sty T t hT
            exact s_len hS ho hcb hca hct hE.und hx hn
          · cases h
        · cases h
      · cases h
    · cases h
  · rename_i hcb
    split at h
    · rename_i x y hca
      split at h
      · rename_i a b h1 h2
        cases h
        exact s_min hS ho hcb hca h1 h2
      · cases h
    · cases h
  · rename_i hcb
    split at h
    · rename_i x y hca
      split at h
      · rename_i a b h1 h2
        cases h
        exact s_max hS ho hcb hca h1 h2
      · cases h
    · cases h
  · rename_i hcb
    split at h
    · rename_i x y T T2 hca hct
      split at h
      · rename_i hTT
        subst hTT
        split at h
        · rename_i t r r2 p2 hT h1 h2
          split at h
          · rename_i R R2 cv2 hR hR2 hn
            split at h
            · rename_i hcond
              split at h
              · rename_i m hm
                cases h
                obtain ⟨l1, l2, e1, e2, rfl⟩ := appendCV_some hm
                subst e2
                simp only [Bool.and_eq_true, Bool.or_eq_true, List.isEmpty_iff, Bool.not_eq_true', beq_eq_false_iff_ne] at hcond
                have hR1 : R = ⟨t, l1, R.own, R.ep⟩ := by
                  cases R with
                  | mk t0 l0 own ep =>
                    simp only [CV.s.injEq] at e1
                    obtain ⟨rfl, e1⟩ := e1
                    cases e1
                    rfl
                exact s_append hC hS hid ho hcb hca hct hT h1 h2 hR hR2 hcond.1 (by
                  rcases hcond.2 with h | h
                  · exact .inl h
                  · exact .inr ⟨h.1.1, h.1.2, h.2⟩) hn hR1 hc
              · cases h
            · cases h
          · cases h
        · cases h
      · cases h
    · cases h
  · rename_i f hcb
    split at h
    · rename_i run hrun
      split at h
      · rename_i avs ha
        split at h
        · rename_i c2 rs hr
          split at h
          · rename_i hle
            cases h
            simp only at hc
            subst hc
            exact s_call hS hid ho hcb (hH.ok f run hrun) ha hr hle
          · cases h
        · cases h
      · cases h
    · cases h
  · cases h

theorem delta_sound (hC : CfgOk C) (hH : CtrOk C) (hS : Sim w0 S0 U st E ts sv w) {o : Oper} {id : Nat} (hid : ∀ n, Mine id n → ¬ U n) {d : Dl}
    (h : delta C st o id = some d) (hc : d.c = true) : Goes C w0 S0 U st ts sv w o id (fun st => st.apply o.dst d) := by
  cases hop : o.op
  case move x => exact d_move hC hS hid (.inl hop) h
  case assign x => exact d_move hC hS hid (.inr hop) h
  case pick c a b => exact s_pick hS hop h
  case alloc T => exact s_alloc hC hS hid hop h
  case box T x => exact s_box hS hid hop h
  case build T parts => exact s_build hC hS hid hop h
  case load T x => exact s_load hC hS hop h
  case store T a x => exact d_store hC hS hop h
  case nilCheck x => exact s_nilCheck hS hop h
  case binOp op T x y T2 => exact s_binOp hC hS hop h hc
  case unOp op T x => exact s_unOp hS hop h
  case convert a b x => exact s_convert hC hS hop h
  case makeFunc fn first caps =>
    cases fn with
    | func f => exact s_makeFunc hS hop h
    | _ => simp [delta, hop] at h
  case makeSlice T x y => exact s_makeSlice hC hS hid hop h hc
  case slice T x lo hi mx =>
    cases mx with
    | none => exact s_slice hC hS hid hop h hc
    | some m => simp [delta, hop] at h
  case fieldAddr T x f => exact s_fieldAddr hC hS hop h
  case field T x f => exact s_field hC hS hop h
  case index T x y =>
    cases x with
    | const v =>
      cases v with
      | string s => exact s_index hS hop h hc
      | _ => simp [delta, hop] at h
    | _ => simp [delta, hop] at h
  case indexAddr T x y => exact s_indexAddr hC hS hop h hc
  case extract x j => exact s_extract hS hop h
  case call c => exact d_call hC hH hS hid hop h hc
  case buildSlice T len parts => exact s_buildSlice hC hS hid hop h
  all_goals simp [delta, hop] at h

end
end Go.Proofs.Ytcfnaifggdelnaa.E
