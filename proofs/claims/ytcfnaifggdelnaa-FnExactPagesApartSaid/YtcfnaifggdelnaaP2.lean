/- What is proved here: what shapes of arguments come to. -/
import Derived.Test.YtcfnaifggdelnaaP1
namespace Go.Proofs.Ytcfnaifggdelnaa.E
open Go

theorem map_cons_inv {α β : Type} {f : α → β} {l : List α} {x : β} {xs : List β} (h : l.map f = x :: xs) : ∃ a r, l = a :: r ∧ f a = x ∧ r.map f = xs := by
  cases l with
  | nil => cases h
  | cons a r =>
    simp only [List.map_cons, List.cons.injEq] at h
    exact ⟨a, r, rfl, h.1, h.2⟩

theorem sh_one {a : AV} {ct : CTy} (h : some a.sh = some (false, [ct])) : ∃ c, a = .one c ∧ c.ty = ct := by
  cases a with
  | one c =>
    simp only [AV.sh, Option.some.injEq, Prod.mk.injEq, List.cons.injEq, and_true, true_and] at h
    exact ⟨c, rfl, h⟩
  | agg l => simp [AV.sh] at h

theorem sh_agg {a : AV} {tys : List CTy} (h : some a.sh = some (true, tys)) : ∃ cs, a = .agg cs ∧ cs.map CV.ty = tys := by
  cases a with
  | one c => simp [AV.sh] at h
  | agg l =>
    simp only [AV.sh, Option.some.injEq, Prod.mk.injEq, true_and] at h
    exact ⟨l, rfl, h⟩

theorem sh_i {a : AV} {k : IntKind} (h : some a.sh = some (false, [.i k])) : ∃ n, a = .one (.i k n) := by
  obtain ⟨c, rfl, hc⟩ := sh_one h
  cases c with
  | i k' n => simp only [CV.ty, CTy.i.injEq] at hc; subst hc; exact ⟨n, rfl⟩
  | b x => cases hc
  | s t l => cases hc

theorem sh_b {a : AV} (h : some a.sh = some (false, [.b])) : ∃ x, a = .one (.b x) := by
  obtain ⟨c, rfl, hc⟩ := sh_one h
  cases c with
  | i k' n => cases hc
  | b x => exact ⟨x, rfl⟩
  | s t l => cases hc

theorem sh_s {a : AV} {t : Ty} (h : some a.sh = some (false, [.s t])) : ∃ l : List t.den, a = .one (.s t l) := by
  obtain ⟨c, rfl, hc⟩ := sh_one h
  obtain ⟨l, rfl⟩ := cv_ty_s hc
  exact ⟨l, rfl⟩

theorem sh_ty {t : Ty} {a : AV} (h : some a.sh = some (true, t.shape)) : ∃ x : t.den, a = .agg (t.cells x) := by
  obtain ⟨cs, rfl, hc⟩ := sh_agg h
  obtain ⟨x, hx⟩ := ofCells_ty hc
  exact ⟨x, by rw [ofCells_cells hx]⟩

theorem sh_host {a : AV} (h : some a.sh = some (true, [.s (.sl .int), .s .mon, .s .entry, .s .entry])) : ∃ x : Host, a = .agg (hostC x) := by
  obtain ⟨cs, rfl, hc⟩ := sh_agg h
  obtain ⟨m, r1, rfl, h1⟩ := map_ty_s hc
  obtain ⟨n, r2, rfl, h2⟩ := map_ty_s h1
  obtain ⟨b, r3, rfl, h3⟩ := map_ty_s h2
  obtain ⟨i, r4, rfl, h4⟩ := map_ty_s h3
  cases List.map_eq_nil_iff.1 h4
  exact ⟨⟨m, n, b, i⟩, rfl⟩

end Go.Proofs.Ytcfnaifggdelnaa.E
