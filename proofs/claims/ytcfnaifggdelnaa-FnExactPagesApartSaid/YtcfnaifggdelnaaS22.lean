/- What is proved here: what an operation does hangs on nothing but what it looks at. -/
import Derived.Test.YtcfnaifggdelnaaS21
namespace Go.Proofs.Ytcfnaifggdelnaa.E
open Go

section
variable {C : Cfg} {st st' : St}

theorem c_load {o : Oper} {id : Nat} {T : TypeId} {x : Operand} (hop : o.op = .load T x) {L : List Operand} (hx : x ∈ L) (h : Agree st st' L) : delta C st' o id = delta C st o id := by
  have ax := h.at hx
  simp only [delta, hop, ax]
  cases hT : C.cty T with
  | none => rfl
  | some ct =>
    cases e : st.at x with
    | none => rfl
    | some a =>
      cases a with
      | lp l off => simp only [h.loc (held_at hx e)]
      | ep r p i off => simp only [h.nodeE (held_at hx e)]
      | _ => rfl

theorem c_store {o : Oper} {id : Nat} {T : TypeId} {a x : Operand} (hop : o.op = .store T a x) {L : List Operand} (hx : x ∈ L) (ha : a ∈ L) (h : Agree st st' L) : delta C st' o id = delta C st o id := by
  have ax := h.at ha
  have ox := h.op x hx
  simp only [delta, hop, ax, ox]
  cases hT : C.cty T with
  | none => rfl
  | some ct =>
    cases em : st.opnd x with
    | none => rfl
    | some m =>
      cases m with
      | v y =>
        cases e : st.at a with
        | none => rfl
        | some b =>
          cases b with
          | lp l off => simp only [h.loc (held_at ha e)]
          | ep r p i off => simp only [h.rootE (held_at ha e), h.nodeE (held_at ha e), h.giveV hx em]
          | _ => rfl
      | _ => rfl

theorem moved_congr (hep : st'.ep = st.ep) : ∀ (ks : List Nat), (∀ k ∈ ks, aget st'.ro k = aget st.ro k) → moved st' ks = moved st ks
  | [], _ => rfl
  | k :: ks, hk => by
    simp only [moved]
    rw [hk k (by simp), hep, moved_congr hep ks (fun q hq => hk q (by simp [hq]))]

theorem c_slice {o : Oper} {id : Nat} {T : TypeId} {x : Operand} {lo hi : Option Operand} (hop : o.op = .slice T x lo hi none) {L : List Operand} (hx : x ∈ L) (hlo : ∀ y, lo = some y → y ∈ L) (hhi : ∀ y, hi = some y → y ∈ L) (h : Agree st st' L) : delta C st' o id = delta C st o id := by
  have ax := h.at hx
  have ep := h.ep
  have sub : ∀ R t l, subRoot st' R t l = subRoot st R t l := fun R t l => by simp only [subRoot, ep]
  simp only [delta, hop, ax]
  cases e : st.at x with
  | none => rfl
  | some a =>
    cases a with
    | sl r p =>
      simp only [h.root (held_at hx e), h.node (held_at hx e), sub]
      cases lo with
      | none =>
        cases hi with
        | none => rfl
        | some y => simp only [h.at (hhi y rfl)]
      | some z =>
        cases hi with
        | none =>
          have cut : ∀ R t l n, cutD st' id r p R t l n = cutD st id r p R t l n := fun R t l n => by
            unfold cutD
            rw [moved_congr h.ep [r] (fun k hk => by
              simp only [List.mem_singleton] at hk
              subst hk
              exact (h.held (held_at hx e)).1 k (by simp [atIds]))]
            simp only [sub]
          simp only [h.at (hlo z rfl), cut]
        | some y => simp only [h.at (hlo z rfl), h.at (hhi y rfl)]
    | _ => rfl

theorem ite_some {α : Type} {b : Bool} {x y : α} (h : (if b = true then some x else none) = some y) : x = y := by
  cases b with
  | true => simpa using h
  | false => simp at h

theorem give_ks {tgt : Option (Nat × List (Int × Nat) × Int)} : ∀ (xs : List At) (j : Nat) (c : Bool) (cs : List CV) (ks : List Nat), st.give tgt xs j = some (c, cs, ks) → ∀ k ∈ ks, At.sl k [] ∈ xs
  | [], j, c, cs, ks, h, k, hk => by
    simp only [St.give, Option.some.injEq, Prod.mk.injEq] at h
    obtain ⟨_, _, rfl⟩ := h
    simp at hk
  | a :: xs, j, c, cs, ks, h, k, hk => by
    simp only [St.give] at h
    split at h
    · cases h
    · rename_i c0 cs' ks' hg
      have ih := give_ks xs (j + 1) c0 cs' ks' hg
      split at h
      · cases h; exact List.mem_cons_of_mem _ (ih k hk)
      · cases h; exact List.mem_cons_of_mem _ (ih k hk)
      · split at h
        · have hh := ite_some h
          cases hh
          rcases List.mem_cons.1 hk with rfl | hk
          · simp
          · exact List.mem_cons_of_mem _ (ih k hk)
        · cases h
      · split at h
        · split at h
          · split at h
            · cases h; exact List.mem_cons_of_mem _ (ih k hk)
            · cases h
          · cases h
        · cases h
      · cases h

theorem rowParts_ks {t : Ty} : ∀ (parts : List (Nat × Operand)) (l : List t.den) (ks : List Nat) (l' : List t.den) (ks' : List Nat), rowParts st t parts l ks = some (l', ks') → ∀ k ∈ ks', k ∈ ks ∨ ∃ x ∈ parts, ∃ y, st.opnd x.2 = some (.v y) ∧ At.sl k [] ∈ tvAts y
  | [], l, ks, l', ks', h, k, hk => by
    simp only [rowParts, Option.some.injEq, Prod.mk.injEq] at h
    obtain ⟨_, rfl⟩ := h
    exact .inl hk
  | (i, x) :: r, l, ks, l', ks', h, k, hk => by
    simp only [rowParts] at h
    split at h
    · rename_i y hx
      split at h
      · rename_i cs k2 hg
        split at h
        · split at h
          · rcases rowParts_ks r _ _ l' ks' h k hk with h1 | ⟨z, hz, h1⟩
            · rcases List.mem_append.1 h1 with h1 | h1
              · exact .inr ⟨(i, x), by simp, y, hx, give_ks _ _ _ _ _ hg k h1⟩
              · exact .inl h1
            · exact .inr ⟨z, by simp [hz], h1⟩
          · cases h
        · cases h
      · cases h
    · cases h

theorem c_buildSlice {o : Oper} {id : Nat} {T : TypeId} {n : Nat} {parts : Array (Nat × Operand)} (hop : o.op = .buildSlice T n parts) {L : List Operand} (hp : ∀ x ∈ parts.toList, x.2 ∈ L) (h : Agree st st' L) : delta C st' o id = delta C st o id := by
  simp only [delta, hop]
  cases hT : C.sty T with
  | none => rfl
  | some t =>
    simp only [h.rowParts parts.toList _ _ hp]
    cases e : rowParts st t parts.toList (List.replicate n t.dflt) [] with
    | none => rfl
    | some lk =>
      obtain ⟨l, ks⟩ := lk
      simp only
      rw [moved_congr h.ep ks (fun k hk => by
        rcases rowParts_ks _ _ _ _ _ e k hk with h1 | ⟨x, hx, y, hm, h1⟩
        · simp at h1
        · exact (h.held ⟨x.2, hp x hx, _, hm, by simpa [mvAts] using h1⟩).1 k (by simp [atIds]))]

theorem c_call {o : Oper} {id : Nat} {c : Call} (hop : o.op = .call c) {L : List Operand} (hp : ∀ x ∈ c.args.toList, x ∈ L) (h : Agree st st' L) : delta C st' o id = delta C st o id := by
  simp only [delta, hop]
  cases hcb : c.callee with
  | invoke r n => rfl
  | value f =>
    cases f with
    | func f =>
      simp only
      rw [optAll_congr (g := fun x => match st.opnd x with | some v => st.avOf v | none => none) (l := c.args.toList)]
      · rfl
      intro x hx
      simp only [h.op x (hp x hx)]
      cases e : st.opnd x with
      | none => rfl
      | some m => exact h.avOf (hp x hx) e
    | _ => rfl
  | builtin b =>
    cases b with
    | len =>
      simp only
      split
      · rename_i x T hca hct
        have hx := hp x (by rw [hca]; simp)
        rw [h.at hx]
        cases e : st.at x with
        | none => rfl
        | some a =>
          cases a with
          | sl r p => simp only [h.node (held_at hx e)]
          | _ => rfl
      · rfl
    | min =>
      simp only
      split
      · rename_i x y hca
        rw [h.at (hp x (by rw [hca]; simp)), h.at (hp y (by rw [hca]; simp))]
      · rfl
    | max =>
      simp only
      split
      · rename_i x y hca
        rw [h.at (hp x (by rw [hca]; simp)), h.at (hp y (by rw [hca]; simp))]
      · rfl
    | append =>
      simp only
      split
      · rename_i x y T T2 hca hct
        have hx := hp x (by rw [hca]; simp)
        have hy := hp y (by rw [hca]; simp)
        rw [h.at hx, h.at hy]
        split
        · cases hT : C.sty T with
          | none => rfl
          | some t =>
            cases e : st.at x with
            | none => rfl
            | some a =>
              cases a with
              | sl r p =>
                cases p with
                | nil =>
                  cases e2 : st.at y with
                  | none => rfl
                  | some b =>
                    cases b with
                    | sl r2 p2 =>
                      simp only [h.root (held_at hx e), h.root (held_at hy e2), h.node (held_at hy e2)]
                      rw [moved_congr h.ep (if t.flat = true then [r] else [r, r2]) (fun k hk => by
                        split at hk
                        · simp only [List.mem_singleton] at hk
                          subst hk
                          exact (h.held (held_at hx e)).1 k (by simp [atIds])
                        · simp only [List.mem_cons, List.not_mem_nil, or_false] at hk
                          rcases hk with rfl | rfl
                          · exact (h.held (held_at hx e)).1 k (by simp [atIds])
                          · exact (h.held (held_at hy e2)).1 k (by simp [atIds]))]
                    | _ => rfl
                | cons _ _ => rfl
              | _ => rfl
        · rfl
      · rfl
    | _ => rfl

theorem delta_congr {o : Oper} {id : Nat} (h : Agree st st' o.op.operands.toList) : delta C st' o id = delta C st o id := by
  cases hop : o.op <;> rw [hop] at h <;> simp only [Op.operands] at h
  case move x =>
    simp only [delta, hop]
    split
    · rfl
    · rfl
    · rw [h.op x (by simp)]
  case assign x =>
    simp only [delta, hop]
    split
    · rfl
    · rfl
    · rw [h.op x (by simp)]
  case pick c a b => simp only [delta, hop, h.op a (by simp), h.op b (by simp), h.at (x := c) (by simp)]
  case alloc T => simp only [delta, hop]
  case box T x => simp only [delta, hop, h.op x (by simp)]
  case build T parts =>
    simp only [delta, hop]
    have e : ∀ cs, layParts C T st' parts.toList cs = layParts C T st parts.toList cs := fun cs => h.layParts parts.toList cs (fun x hx => by simp; exact ⟨x.1, by simpa using hx⟩)
    simp only [e]
  case load T x => exact c_load hop (by simp) h
  case store T a x => exact c_store hop (by simp) (by simp) h
  case nilCheck x => simp only [delta, hop, h.at (x := x) (by simp)]
  case binOp op T x y T2 => simp only [delta, hop, h.op x (by simp), h.op y (by simp)]
  case unOp op T x => simp only [delta, hop, h.at (x := x) (by simp)]
  case convert a b x => simp only [delta, hop, h.at (x := x) (by simp)]
  case makeFunc fn first caps =>
    cases fn with
    | func f =>
      simp only [delta, hop]
      rw [optAll_congr (g := fun x => match st.at x with | some (.lp l 0) => some l | _ => none) (l := caps.toList)]
      · rfl
      intro x hx
      simp only [h.at (x := x) (by simp; exact .inr (by simpa using hx))]
      rfl
    | _ => simp only [delta, hop]
  case makeSlice T x y => simp only [delta, hop, h.at (x := x) (by simp), h.at (x := y) (by simp)]
  case slice T x lo hi mx =>
    cases mx with
    | none => exact c_slice hop (by simp) (fun y hy => by simp [hy]) (fun y hy => by simp [hy]) h
    | some m => simp only [delta, hop]
  case fieldAddr T x f => simp only [delta, hop, h.at (x := x) (by simp)]
  case field T x f => simp only [delta, hop, h.op x (by simp)]
  case index T x y =>
    cases x with
    | const v =>
      cases v with
      | string s => simp only [delta, hop, h.at (x := y) (by simp)]
      | _ => simp only [delta, hop]
    | _ => simp only [delta, hop]
  case indexAddr T x y =>
    have hx : x ∈ #[x, y].toList := by simp
    simp only [delta, hop, h.at hx, h.at (x := y) (by simp)]
    cases e : st.at x with
    | none => rfl
    | some a =>
      cases a with
      | sl r p =>
        have hn := h.node (held_at hx e) p
        cases e2 : st.at y with
        | none => rfl
        | some b =>
          cases b with
          | i k n => cases k <;> first | rfl | (simp only [hn])
          | _ => rfl
      | _ => rfl
  case extract x j => simp only [delta, hop, h.op x (by simp)]
  case call c => exact c_call hop (fun x hx => by simp only [Call.operands, Array.toList_append, List.mem_append]; exact .inr hx) h
  case buildSlice T n parts => exact c_buildSlice hop (fun x hx => by simp; exact ⟨x.1, by simpa using hx⟩) h
  all_goals simp only [delta, hop]

end
end Go.Proofs.Ytcfnaifggdelnaa.E
