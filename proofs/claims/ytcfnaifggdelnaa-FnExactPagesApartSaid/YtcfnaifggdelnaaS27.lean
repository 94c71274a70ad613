/- What is proved here: an operation of the free part does the same in each order. -/
import Derived.Test.YtcfnaifggdelnaaS26
namespace Go.Proofs.Ytcfnaifggdelnaa.E
open Go

section
variable {C : Cfg} {ops : Array Oper} {b : Bool} {base : Nat}

def Foot.reads (f : Foot) : Key → Prop
  | .tm t => t ∈ f.tm
  | .ro n => n ∈ f.ro
  | .lo n => n ∈ f.lo

def Foot.writes (f : Foot) : Key → Prop
  | .tm t => f.dst = some t
  | .ro n => n ∈ f.wro
  | .lo n => n ∈ f.wlo

theorem apartL_spec {a c : List Nat} (h : apartL a c = true) : ∀ x ∈ a, x ∉ c := by
  intro x hx
  have := List.all_eq_true.1 h x hx
  simpa using this

theorem apart_spec {x y : Foot} (h : x.apart y = true) : (∀ κ, x.writes κ → ¬ y.reads κ ∧ ¬ y.writes κ) ∧ (∀ κ, y.writes κ → ¬ x.reads κ) := by
  unfold Foot.apart at h
  simp only [Bool.and_eq_true] at h
  obtain ⟨⟨⟨⟨⟨h1, h2⟩, h3⟩, h4⟩, h5⟩, h6⟩ := h
  refine ⟨fun κ hw => ?_, fun κ hw => ?_⟩
  · cases κ with
    | tm t =>
      simp only [Foot.writes] at hw
      rw [hw] at h1
      simp only [Bool.and_eq_true, Bool.not_eq_true', beq_eq_false_iff_ne, List.contains_eq_mem, decide_eq_false_iff_not] at h1
      exact ⟨h1.1, h1.2⟩
    | ro n =>
      have := apartL_spec h3 n hw
      simp only [List.mem_append, not_or] at this
      exact this
    | lo n =>
      have := apartL_spec h5 n hw
      simp only [List.mem_append, not_or] at this
      exact this
  · cases κ with
    | tm t =>
      simp only [Foot.writes] at hw
      rw [hw] at h2
      simpa [Foot.reads] using h2
    | ro n => exact apartL_spec h4 n hw
    | lo n => exact apartL_spec h6 n hw

theorem at1_wr {i : Nat} {o : Oper} {S : St} {f : Foot} {s : Step} (h : At1 C ops base i o S f s) (κ : Key) : wr o s κ ↔ f.writes κ := by
  cases s with
  | none =>
    obtain ⟨_, rfl⟩ := h
    cases κ <;> simp [wr, Foot.writes, skipFoot]
  | some d =>
    obtain ⟨_, _, _, rfl⟩ := h
    cases κ <;> simp [wr, Foot.writes, lookFoot]

/-- What an operation does in a state. -/
def Does (C : Cfg) (ops : Array Oper) (base i : Nat) (o : Oper) (S : St) : Step → Prop
  | some d => guardSem ops o S = some true ∧ delta C S o (base + 32 * i) = some d ∧ d.c = true
  | none => guardSem ops o S = some false

theorem guardSem_congr {o : Oper} {S S' : St} (h : ∀ t ∈ guardTm ops o, S'.tm[t]? = S.tm[t]?) : guardSem ops o S' = guardSem ops o S := by
  unfold guardSem
  cases hg : o.guard with
  | none => rfl
  | some jw =>
    obtain ⟨j, want⟩ := jw
    simp only
    have e : guardOf S' ops j = guardOf S ops j := by
      unfold guardOf
      cases ho : ops[j]? with
      | none => rfl
      | some o' =>
        simp only
        cases hd : o'.dst with
        | none => rfl
        | some t =>
          simp only
          exact h t (by simp [guardTm, hg, guardDst, ho, hd])
    rw [e]

theorem at1_does {i : Nat} {o : Oper} {S S' : St} {f : Foot} {s : Step} (h : At1 C ops base i o S f s) (hep : S'.ep = S.ep) (hr : ∀ κ, f.reads κ → S'.get κ = S.get κ) : Does C ops base i o S' s := by
  cases s with
  | none =>
    obtain ⟨h1, rfl⟩ := h
    show guardSem ops o S' = some false
    rw [guardSem_congr (S := S) (fun t ht => get_tm (hr (.tm t) (by simpa [Foot.reads, skipFoot] using ht)))]
    exact h1
  | some d =>
    obtain ⟨h1, h2, h3, rfl⟩ := h
    have htm : ∀ t, t ∈ opTmps o ++ guardTm ops o → S'.tm[t]? = S.tm[t]? := fun t ht => get_tm (hr (.tm t) ht)
    have hop : ∀ x ∈ o.op.operands.toList, S'.opnd x = S.opnd x := by
      intro x hx
      cases x with
      | tmp t =>
        have ht : t ∈ opTmps o := by
          unfold opTmps
          exact List.mem_filterMap.2 ⟨_, hx, rfl⟩
        simp only [St.opnd, htm t (List.mem_append_left _ ht)]
      | _ => rfl
    refine ⟨?_, ?_, h3⟩
    · rw [guardSem_congr (S := S) (fun t ht => htm t (List.mem_append_right _ ht))]
      exact h1
    · rw [← h2]
      refine delta_congr ⟨hep, hop, fun x hx m hm a ha => ?_⟩
      have hA : a ∈ opAts S o := by
        unfold opAts
        exact List.mem_flatMap.2 ⟨m, List.mem_filterMap.2 ⟨x, hx, hm⟩, ha⟩
      exact ⟨fun n hn => get_ro (hr (.ro n) (List.mem_flatMap.2 ⟨a, hA, hn⟩)), fun n hn => get_lo (hr (.lo n) (List.mem_flatMap.2 ⟨a, hA, hn⟩))⟩

/-- The free part of a drawn region. -/
structure Free (C : Cfg) (ops : Array Oper) (cl : List (List Nat)) (b : Bool) (base a : Nat) (ss : List Step) (st0 : St) : Prop where
  at1 : ∀ i s, ss[i]? = some s → ∃ o f, ops[a + i]? = some o ∧ At1 C ops base (a + i) o (foldX ops b (fun j => decide (j < a + i)) a ss st0) f s
  apart : ∀ i k s s' o o' f f', ss[i]? = some s → ss[k]? = some s' → ops[a + i]? = some o → ops[a + k]? = some o' → At1 C ops base (a + i) o (foldX ops b (fun j => decide (j < a + i)) a ss st0) f s →
    At1 C ops base (a + k) o' (foldX ops b (fun j => decide (j < a + k)) a ss st0) f' s' → i < k → a + i ∉ cl.getD (a + k) [] → f.apart f' = true

def ClosedX (cl : List (List Nat)) (X : Nat → Bool) : Prop := ∀ k, X k = true → ∀ j ∈ cl.getD k [], X j = true

variable {cl : List (List Nat)} {ss : List Step} {st0 : St} {a : Nat}

theorem at1_foot {i : Nat} {o : Oper} {S : St} {f f' : Foot} {s : Step} (h : At1 C ops base i o S f s) (h' : At1 C ops base i o S f' s) : f = f' := by
  cases s with
  | none => rw [h.2, h'.2]
  | some d => rw [h.2.2.2, h'.2.2.2]

theorem free_reads (F : Free C ops cl b base a ss st0) {X : Nat → Bool} (hX : ClosedX cl X) {i : Nat} {s : Step} (hs : ss[i]? = some s) (hXi : X (a + i) = false) (hr : ∀ j ∈ cl.getD (a + i) [], X j = true) :
    ∃ o f, ops[a + i]? = some o ∧ At1 C ops base (a + i) o (foldX ops b (fun j => decide (j < a + i)) a ss st0) f s ∧ ∀ κ, f.reads κ → (foldX ops b X a ss st0).get κ = (foldX ops b (fun j => decide (j < a + i)) a ss st0).get κ := by
  obtain ⟨o, f, ho, h1⟩ := F.at1 i s hs
  refine ⟨o, f, ho, h1, fun κ hκ => ?_⟩
  refine foldX_agree ss a st0 st0 rfl rfl (fun k s' o' hk ho' hne hw => ?_)
  obtain ⟨o2, f', ho2, h2⟩ := F.at1 k s' hk
  rw [ho'] at ho2
  cases ho2
  have hw' := (at1_wr h2 κ).1 hw
  by_cases hlt : k < i
  · have hXk : X (a + k) = false := by
      have hlt' : a + k < a + i := by omega
      simp only [hlt', decide_true] at hne
      simpa using hne
    have hn : a + k ∉ cl.getD (a + i) [] := fun h => by rw [hr (a + k) h] at hXk; cases hXk
    exact ((apart_spec (F.apart k i s' s o' o f' f hk hs ho' ho h2 h1 hlt hn)).1 κ hw').1 hκ
  · have hXk : X (a + k) = true := by
      have hlt' : ¬ (a + k < a + i) := by omega
      simp only [hlt', decide_false] at hne
      simpa using hne
    have hlt' : i < k := by
      have : i ≠ k := fun e => by rw [e, hXk] at hXi; cases hXi
      omega
    have hn : a + i ∉ cl.getD (a + k) [] := fun h => by rw [hX (a + k) hXk (a + i) h] at hXi; cases hXi
    exact (apart_spec (F.apart i k s s' o o' f f' hs hk ho ho' h1 h2 hlt' hn)).2 κ hw' hκ

theorem free_does (F : Free C ops cl b base a ss st0) {X : Nat → Bool} (hX : ClosedX cl X) {i : Nat} {s : Step} (hs : ss[i]? = some s) (hXi : X (a + i) = false) (hr : ∀ j ∈ cl.getD (a + i) [], X j = true) :
    ∃ o, ops[a + i]? = some o ∧ Does C ops base (a + i) o (foldX ops b X a ss st0) s := by
  obtain ⟨o, f, ho, h1, h2⟩ := free_reads F hX hs hXi hr
  exact ⟨o, ho, at1_does h1 (by rw [foldX_ep, foldX_ep]) h2⟩

theorem free_upd (F : Free C ops cl b base a ss st0) {X Y : Nat → Bool} (hX : ClosedX cl X) {i : Nat} {s : Step} {o : Oper} (hs : ss[i]? = some s) (ho : ops[a + i]? = some o) (hXi : X (a + i) = false) (hY : ∀ k, Y k = (X k || k == a + i)) (κ : Key) :
    (foldX ops b Y a ss st0).get κ = ((foldX ops b X a ss st0).step b o s).get κ := by
  refine foldX_upd hY ho hs (fun k s' o' hk ho' hlt hXk κ hw hw' => ?_) κ
  obtain ⟨o1, f, ho1, h1⟩ := F.at1 i s hs
  rw [ho] at ho1
  cases ho1
  obtain ⟨o2, f', ho2, h2⟩ := F.at1 k s' hk
  rw [ho'] at ho2
  cases ho2
  have hn : a + i ∉ cl.getD (a + k) [] := fun h => by rw [hX (a + k) hXk (a + i) h] at hXi; cases hXi
  exact ((apart_spec (F.apart i k s s' o o' f f' hs hk ho ho' h1 h2 hlt hn)).1 κ ((at1_wr h1 κ).1 hw)).2 ((at1_wr h2 κ).1 hw')

theorem delta_bump {st : St} {o : Oper} {id i : Nat} {d : Dl} (ho : ops[i]? = some o) (h : delta C st o id = some d) (hb : mayBump ops i = false) : d.bump = false := by
  simp only [mayBump, ho] at hb
  cases hop : o.op <;> simp only [hop] at hb <;> simp only [delta, hop] at h
  case store => cases hb
  case buildSlice => cases hb
  case call c =>
    split at h
    case h_4 hc => rw [hc] at hb; cases hb
    all_goals (repeat' (first | split at h | cases h))
    all_goals rfl
  case slice T x lo hi mx =>
    cases mx with
    | some m => simp at h
    | none =>
      cases lo with
      | none =>
        repeat' (first | contradiction | split at h | cases h)
        all_goals (first | rfl | contradiction | (exfalso; simp_all))
      | some lo' =>
        cases hi with
        | none => cases hb
        | some hi' =>
          repeat' (first | contradiction | split at h | cases h)
          all_goals (first | rfl | contradiction | (exfalso; simp_all))
  case binOp =>
    simp only [eqlRes] at h
    repeat' (first | split at h | cases h)
    all_goals rfl
  all_goals (repeat' (first | contradiction | split at h | cases h))
  all_goals (first | rfl | contradiction)

end
end Go.Proofs.Ytcfnaifggdelnaa.E
