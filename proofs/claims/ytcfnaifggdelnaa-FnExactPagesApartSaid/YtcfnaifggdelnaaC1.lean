/- What is proved here: the tables of types are right, as far as a check of the translation's types by program goes. -/
import Derived.Test.YtcfnaifggdelnaaS29
namespace Go.Proofs.Ytcfnaifggdelnaa.E
open Go

section
variable {P : Program}

def zeroIs : Value → CTy → Bool
  | .int k n, .i k' => k == k' && n == 0
  | .bool b, .b => !b
  | .slice none 0 0, .s _ => true
  | _, _ => false

def zerosAre : List Value → List CTy → Bool
  | [], [] => true
  | v :: vs, t :: ts => zeroIs v t && zerosAre vs ts
  | _, _ => false

theorem zeroIs_eq {v : Value} {t : CTy} (h : zeroIs v t = true) : v = zeroV t := by
  unfold zeroIs at h
  split at h
  · simp only [Bool.and_eq_true, beq_iff_eq] at h
    obtain ⟨rfl, rfl⟩ := h
    rfl
  · simp only [Bool.not_eq_true'] at h
    subst h
    rfl
  · rfl
  · cases h

theorem zerosAre_eq : ∀ {vs : List Value} {ts : List CTy}, zerosAre vs ts = true → vs = ts.map zeroV
  | [], [], _ => rfl
  | v :: vs, t :: ts, h => by
    simp only [zerosAre, Bool.and_eq_true] at h
    rw [List.map_cons, zeroIs_eq h.1, zerosAre_eq h.2]
  | [], _ :: _, h => by cases h
  | _ :: _, [], h => by cases h

def infoIs (P : Program) (T : TypeId) (tys : List CTy) : Bool :=
  match P.info? T with
  | some i => i.size == tys.length && (match i.zero with
    | some z => zerosAre z.cells.toList tys
    | none => false)
  | none => false

theorem infoIs_eq {T : TypeId} {tys : List CTy} (h : infoIs P T tys = true) : ∃ i z, P.info? T = some i ∧ i.size = tys.length ∧ i.zero = some z ∧ z.cells.toList = tys.map zeroV := by
  unfold infoIs at h
  split at h
  · rename_i i hi
    simp only [Bool.and_eq_true, beq_iff_eq] at h
    obtain ⟨h1, h2⟩ := h
    split at h2
    · rename_i z hz
      exact ⟨i, z, hi, h1, hz, zerosAre_eq h2⟩
    · cases h2
  · cases h

/-- One type's check. -/
def chkTy (P : Program) (T : TypeId) : Bool :=
  (match typeCells P 4 T with
    | some (agg, tys) => infoIs P T tys && (!agg || (match P.underlying T with
      | some (.struct fs) => (fs.toList.mapM (fun f => (P.info? f.type).map fun i => (f.offset, i.size))).isSome
      | _ => false))
    | none => true) &&
  (match P.underlying T with
    | some (.slice e) => match aget tyTab e with
      | some t => infoIs P e t.shape && (match P.info? e with
        | some i => decide (i.bytes ≤ 1024)
        | none => false) && (match typeCells P 4 e with
        | some (_, tys) => decide (tys = t.shape)
        | none => false)
      | none => true
    | _ => true)

def fieldsAre (P : Program) : List Field → Nat → List CTy → Bool
  | [], _, [] => true
  | f :: fs, off, ty :: tys => f.name != "_" && f.offset == off && (match P.underlying f.type, ty with
    | some (.int k), .i k' => k == k'
    | some .bool, .b => true
    | _, _ => false) && fieldsAre P fs (off + 1) tys
  | _, _, _ => false

/-- The check of a struct type whose values are compared. -/
def chkEq (P : Program) (T : TypeId) : Bool :=
  match typeCells P 4 T with
  | some (true, tys) => !P.stoodInHeld T && !P.eqGuardType P.depth T && (match P.underlying T with
    | some (.struct fs) => fieldsAre P fs.toList 0 tys
    | _ => false)
  | _ => true

theorem typeCells_one {n : Nat} {T : TypeId} {agg : Bool} {tys : List CTy} (h : typeCells P n T = some (agg, tys)) :
    (∃ d, P.underlying T = some d ∧ isAggD d = agg ∧ (∀ k, tys = [.i k] → agg = false → d = .int k) ∧ (tys = [.b] → agg = false → d = .bool)) ∧ (agg = false → tys.length = 1) := by
  cases n with
  | zero => cases h
  | succ n =>
    simp only [typeCells] at h
    split at h
    · rename_i k hu
      cases h
      exact ⟨⟨_, hu, rfl, fun k' h _ => by simp only [List.cons.injEq, CTy.i.injEq, and_true] at h; rw [h], fun h => by simp at h⟩, fun _ => rfl⟩
    · rename_i hu
      cases h
      exact ⟨⟨_, hu, rfl, fun k' h => by simp at h, fun _ _ => rfl⟩, fun _ => rfl⟩
    · rename_i e hu
      split at h
      · cases h
        exact ⟨⟨_, hu, rfl, fun k' h => by simp at h, fun h => by simp at h⟩, fun _ => rfl⟩
      · cases h
    · rename_i fs hu
      split at h
      · cases h
        exact ⟨⟨_, hu, rfl, fun k' _ h => (by cases h), fun _ h => (by cases h)⟩, fun h => by cases h⟩
      · cases h
    · cases h

theorem typeCells_struct {n : Nat} {T : TypeId} {tys : List CTy} (h : typeCells P n T = some (true, tys)) : ∃ fs, P.underlying T = some (.struct fs) := by
  cases n with
  | zero => cases h
  | succ n =>
    simp only [typeCells] at h
    split at h
    · cases h
    · cases h
    · split at h <;> cases h
    · rename_i fs hu
      exact ⟨fs, hu⟩
    · cases h

theorem below_some {α : Type} {T : Nat} {x : Option α} {y : α} (h : below T x = some y) : T < tyMax ∧ x = some y := by
  unfold below at h
  cases hb : Nat.blt T tyMax with
  | false => rw [hb] at h; cases h
  | true =>
    rw [hb] at h
    exact ⟨by rwa [Nat.blt_eq] at hb, h⟩

theorem mapM_at {α β : Type} {g : α → Option β} : ∀ {l : List α} {m : List β}, l.mapM g = some m → ∀ {k : Nat} {x : α}, l[k]? = some x → m[k]? = g x
  | [], m, h, k, x, hx => by simp at hx
  | a :: l, m, h, k, x, hx => by
    simp only [List.mapM_cons, Option.bind_eq_bind, Option.bind_eq_some_iff, Option.pure_def, Option.some.injEq] at h
    obtain ⟨b, hb, m', hm', rfl⟩ := h
    cases k with
    | zero =>
      simp only [List.getElem?_cons_zero, Option.some.injEq] at hx
      subst hx
      rw [hb]; rfl
    | succ k => exact mapM_at hm' (by simpa using hx)

theorem optAll_cons {α β : Type} {f : α → Option β} {a : α} {l : List α} {bs : List β} (h : optAll f (a :: l) = some bs) : ∃ b bs', f a = some b ∧ optAll f l = some bs' ∧ bs = b :: bs' := by
  simp only [optAll] at h
  split at h
  · rename_i b hb
    split at h
    · rename_i bs' hbs
      cases h
      exact ⟨b, bs', hb, hbs, rfl⟩
    · cases h
  · cases h

theorem eqFields_ok (w : World) (d : Nat) (xs ys : Array Value) : ∀ (fs : List Field) (off : Nat) (tys : List CTy) (l m : List At) (e : Bool), fieldsAre P fs off tys = true → optAll atTy l = some tys → optAll atTy m = some tys → atsEq l m = some e →
    xs.size = off + l.length → ys.size = off + m.length → (∀ (j : Nat) (a : At) (u : Value), l[j]? = some a → xs[off + j]? = some u → VS a u) → (∀ (j : Nat) (a : At) (u : Value), m[j]? = some a → ys[off + j]? = some u → VS a u) →
    (Op.eqFields (d + 1) xs ys fs).run P w = .ok e w
  | [], off, tys, l, m, e, hf, hl, hm, he, _, _, _, _ => by
    cases tys with
    | cons t ts => cases hf
    | nil =>
      cases l with
      | cons a l => obtain ⟨_, _, _, _, h⟩ := optAll_cons hl; cases h
      | nil =>
        cases m with
        | cons a m => obtain ⟨_, _, _, _, h⟩ := optAll_cons hm; cases h
        | nil => cases he; simp [Op.eqFields]
  | f :: fs, off, tys, l, m, e, hf, hl, hm, he, hsx, hsy, hx, hy => by
    cases tys with
    | nil => cases hf
    | cons ty tys =>
      cases l with
      | nil => cases hl
      | cons a l =>
        cases m with
        | nil => cases hm
        | cons c m =>
          obtain ⟨ta, tys', ha, hl', h⟩ := optAll_cons hl
          cases h
          obtain ⟨tc, tys'', hc, hm', h⟩ := optAll_cons hm
          cases h
          simp only [fieldsAre, Bool.and_eq_true, bne_iff_ne, ne_eq, beq_iff_eq] at hf
          obtain ⟨⟨⟨hn, hoff⟩, hk⟩, hrest⟩ := hf
          have hxo : xs[off]? = some (xs[off]'(by simp only [List.length_cons] at hsx; omega)) := by simp
          have hyo : ys[off]? = some (ys[off]'(by simp only [List.length_cons] at hsy; omega)) := by simp
          have hvx := hx 0 a _ rfl hxo
          have hvy := hy 0 c _ rfl hyo
          have hstep : ∃ e0, atEq a c = some e0 ∧ (part f.type xs f.offset).run P w = .ok (xs[off]'(by simp only [List.length_cons] at hsx; omega)) w ∧ (part f.type ys f.offset).run P w = .ok (ys[off]'(by simp only [List.length_cons] at hsy; omega)) w ∧
              (Op.equalIn (d + 1) f.type (xs[off]'(by simp only [List.length_cons] at hsx; omega)) (ys[off]'(by simp only [List.length_cons] at hsy; omega))).run P w = .ok e0 w := by
            rw [hoff]
            cases a with
            | i k n =>
              simp only [atTy, Option.some.injEq] at ha
              subst ha
              cases c with
              | i k' n' =>
                simp only [atTy, Option.some.injEq, CTy.i.injEq] at hc
                subst hc
                cases hu : P.underlying f.type with
                | none => rw [hu] at hk; cases hk
                | some D =>
                  rw [hu] at hk
                  cases D <;> first | (cases hk; done) | skip
                  refine ⟨ieq n n', by simp [atEq], by simp [part, isAgg, run_underlying hu, hxo], by simp [part, isAgg, run_underlying hu, hyo], ?_⟩
                  rw [show xs[off]'(by simp only [List.length_cons] at hsx; omega) = .int k' n from hvx, show ys[off]'(by simp only [List.length_cons] at hsy; omega) = .int k' n' from hvy]
                  exact run_equalIn_int w d f.type k' _ n n' hu
              | b _ => simp [atTy] at hc
              | _ => simp [atTy] at hc
            | b x =>
              simp only [atTy, Option.some.injEq] at ha
              subst ha
              cases c with
              | b x' =>
                cases hu : P.underlying f.type with
                | none => rw [hu] at hk; cases hk
                | some D =>
                  rw [hu] at hk
                  cases D <;> first | (cases hk; done) | skip
                  refine ⟨beqb x x', by simp [atEq], by simp [part, isAgg, run_underlying hu, hxo], by simp [part, isAgg, run_underlying hu, hyo], ?_⟩
                  rw [show xs[off]'(by simp only [List.length_cons] at hsx; omega) = .bool x from hvx, show ys[off]'(by simp only [List.length_cons] at hsy; omega) = .bool x' from hvy]
                  exact run_equalIn_bool' w d f.type x x' hu
              | i _ _ => simp [atTy] at hc
              | _ => simp [atTy] at hc
            | _ => simp [atTy] at ha
          obtain ⟨e0, he0, hp1, hp2, heq⟩ := hstep
          have hcomb : ∃ e1, atsEq l m = some e1 ∧ e = (e0 && e1) := by
            cases l with
            | nil =>
              cases hl'
              cases m with
              | nil =>
                simp only [atsEq, he0, Option.some.injEq] at he
                exact ⟨true, rfl, by rw [← he]; simp⟩
              | cons c2 m => obtain ⟨_, _, _, _, h⟩ := optAll_cons hm'; cases h
            | cons a2 l =>
              cases m with
              | nil => cases hm'; obtain ⟨_, _, _, _, h⟩ := optAll_cons hl'; cases h
              | cons c2 m =>
                simp only [atsEq, he0] at he
                split at he
                · rename_i x y h1 h2
                  cases h1
                  cases he
                  exact ⟨y, by simpa [atsEq] using h2, rfl⟩
                · cases he
          obtain ⟨e1, he1, rfl⟩ := hcomb
          have ih := eqFields_ok w d xs ys fs (off + 1) tys l m e1 hrest hl' hm' he1 (by simp only [List.length_cons] at hsx; omega) (by simp only [List.length_cons] at hsy; omega)
            (fun j a' u h1 h2 => hx (j + 1) a' u (by simpa using h1) (by rw [← h2]; congr 1; omega)) (fun j a' u h1 h2 => hy (j + 1) a' u (by simpa using h1) (by rw [← h2]; congr 1; omega))
          simp only [Op.eqFields, ne_eq, hn, not_false_eq_true, if_true, Sem.run_bind, hp1, hp2, Result.andThen_ok, heq, Sem.run_ite, ih]
          cases e0 <;> simp

/-- The tables are right. -/
theorem cfgOk_of {C : Cfg} (hP : C.P = P) (hs : ∀ T, C.sty T = below T (sliceElem P T)) (hc : ∀ T, C.cty T = below T (typeCells P 4 T)) (hf : ∀ T f, C.fof T f = fieldOff P T f)
    (hchk : (List.range tyMax).all (chkTy P) = true) (heq : ∀ T, C.eqt T = true → T < tyMax → chkEq P T = true) : CfgOk C := by
  subst hP
  have chk : ∀ T, T < tyMax → chkTy C.P T = true := fun T hT => List.all_eq_true.1 hchk T (List.mem_range.2 hT)
  have hcty : ∀ T agg tys, C.cty T = some (agg, tys) → T < tyMax ∧ typeCells C.P 4 T = some (agg, tys) := fun T agg tys h => below_some (by rw [← hc]; exact h)
  refine ⟨fun T agg tys h => ?_, fun T t h => ?_, fun T f off n h => ?_, fun T tys h => ?_, fun T tys he h l m e xs ys w x y op hl hm hq hxs hys => ?_⟩
  · obtain ⟨hT, h⟩ := hcty T agg tys h
    obtain ⟨h1, h2⟩ := typeCells_one h
    have := chk T hT
    unfold chkTy at this
    rw [h] at this
    simp only [Bool.and_eq_true] at this
    exact ⟨h1, infoIs_eq this.1.1, h2⟩
  · rw [hs] at h
    obtain ⟨hT, h⟩ := below_some h
    unfold sliceElem at h
    split at h
    · rename_i e hu
      have := chk T hT
      unfold chkTy at this
      rw [hu] at this
      simp only [h, Bool.and_eq_true] at this
      obtain ⟨_, ⟨h1, h2⟩, _⟩ := this
      obtain ⟨i, z, g1, g2, g3, g4⟩ := infoIs_eq h1
      rw [g1] at h2
      exact ⟨e, hu, i, z, g1, by rw [g2, shape_len], g3, g4, by simpa using h2⟩
    · cases h
  · rw [hf] at h
    unfold fieldOff at h
    split at h
    · rename_i fs hu
      split at h
      · rename_i x hx
        split at h
        · rename_i i hi
          split at h
          · cases h
          · rename_i hne
            cases h
            exact ⟨fs, x, i, hu, hx, rfl, hi, rfl, hne⟩
        · cases h
      · cases h
    · cases h
  · obtain ⟨hT, h⟩ := hcty T true tys h
    have := chk T hT
    unfold chkTy at this
    rw [h] at this
    simp only [Bool.and_eq_true, Bool.or_eq_true, Bool.not_true, Bool.false_eq_true, false_or] at this
    obtain ⟨⟨_, h2⟩, _⟩ := this
    split at h2
    · rename_i fs hu
      obtain ⟨places, hp⟩ := Option.isSome_iff_exists.1 h2
      refine ⟨fs, places, hu, hp, fun f off n hfo => ?_⟩
      rw [hf] at hfo
      unfold fieldOff at hfo
      rw [hu] at hfo
      simp only at hfo
      split at hfo
      · rename_i x hx
        split at hfo
        · rename_i i hi
          split at hfo
          · cases hfo
          · cases hfo
            rw [mapM_at hp (by simpa using hx), hi]
            rfl
        · cases hfo
      · cases hfo
    · cases h2
  · obtain ⟨hT, h⟩ := hcty T true tys h
    have := heq T he hT
    unfold chkEq at this
    rw [h] at this
    simp only [Bool.and_eq_true, Bool.not_eq_true'] at this
    obtain ⟨⟨h1, h2⟩, h3⟩ := this
    split at h3
    · rename_i fs hu
      have hfe : C.P.fieldsOf T = fs := by simp [Program.fieldsOf, hu]
      refine ⟨run_eqGuard_agg w op T x y xs ys h2, ?_⟩
      show (Op.equalIn (9999 + 1) T (.agg xs) (.agg ys)).run C.P w = _
      rw [run_equalIn_struct w 9999 T xs ys (by rw [hfe]; exact hu) h1, hfe]
      exact eqFields_ok w 9998 xs ys fs.toList 0 tys l m e h3 hl hm hq (by rw [hxs.1]; omega) (by rw [hys.1]; omega) (fun j a u h1 h2 => hxs.2 j a u h1 (by simpa using h2)) (fun j a u h1 h2 => hys.2 j a u h1 (by simpa using h2))
    · cases h3

end
end Go.Proofs.Ytcfnaifggdelnaa.E
