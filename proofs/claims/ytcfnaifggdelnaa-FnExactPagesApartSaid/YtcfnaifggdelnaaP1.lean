/- What is proved here: laws of plain data: bounds of lists, loops over lists and numbers; how contracts of functions are put together. -/
import Derived.Test.YtcfnaifggdelnaaG2
import Derived.Test.YtcfnaifggdelnaaS34
namespace Go.Proofs.Ytcfnaifggdelnaa.E
open Go

def hostC (h : Host) : List CV := [.s (.sl .int) h.Memory, .s .mon h.Mons, .s .entry h.Buffer, .s .entry h.IoBuffer]
def ctlC (c : Ctl) : List CV := [.i .i64 c.Traps, .i .i64 c.Post, .b c.Open]
def exitC (e : GExit) : List CV := [.i .i64 e.Kind, .i .i64 e.Page, .b e.Write, .i .i64 e.N]

structure Cur where
  b : List Int
  i : Int
  h : Int
def curC (c : Cur) : List CV := [.s .u8 c.b, .i .i64 c.i, .i .i64 c.h]

def tmsOf : List (Nat × Nat × Tmpl) → FuncId → Nat → Option Tmpl
  | [], _, _ => none
  | (g, c, T) :: r, f, b => cond (Nat.beq g f) (cond (Nat.beq c b) (some T) (tmsOf r f b)) (tmsOf r f b)

/-- A condition that need not be computed. -/
noncomputable def pc (p : Prop) : Bool := @decide p (Classical.propDecidable p)

theorem pc_iff {p : Prop} : pc p = true ↔ p := by
  unfold pc
  exact @decide_eq_true_iff p (Classical.propDecidable p)

theorem pc_true {p : Prop} (h : p) : pc p = true := pc_iff.2 h

/-- No slice in it is longer than K. -/
inductive CVB (K : Nat) : CV → Prop
  | i (k : IntKind) (n : Int) : CVB K (.i k n)
  | b (x : Bool) : CVB K (.b x)
  | s (t : Ty) (l : List t.den) (hl : l.length ≤ K) (h : ∀ x ∈ l, ∀ c ∈ t.cells x, CVB K c) : CVB K (.s t l)

theorem CVB.inv {K : Nat} {t : Ty} {l : List t.den} (h : CVB K (.s t l)) : l.length ≤ K ∧ ∀ x ∈ l, ∀ c ∈ t.cells x, CVB K c := by
  cases h with
  | s _ _ hl h => exact ⟨hl, h⟩

theorem CVB.len {K : Nat} {t : Ty} {l : List t.den} (h : CVB K (.s t l)) : l.length ≤ K := h.inv.1

theorem CVB.mono {K L : Nat} (hKL : K ≤ L) {c : CV} (h : CVB K c) : CVB L c := by
  induction h with
  | i k n => exact .i k n
  | b x => exact .b x
  | s t l hl h ih => exact .s t l (Nat.le_trans hl hKL) ih

theorem CVB.of_rep {o : Bool} {w : World} {v : Value} {c : CV} {S : BSet} (h : Rep o w v c S) : CVB big c := by
  induction h with
  | i k n S => exact .i k n
  | b x S => exact .b x
  | nil t S => exact .s t [] (Nat.zero_le _) (fun x h => by cases h)
  | void t a S ho => exact .s t [] (Nat.zero_le _) (fun x h => by cases h)
  | sl t l b off cap arr e fz V K S hb hfz hlen hcap hsz hS hsub hdis hv hc ih =>
    refine .s t l hlen (fun x hx c hcx => ?_)
    obtain ⟨i, hi⟩ := List.mem_iff_getElem?.1 hx
    obtain ⟨j, hj⟩ := List.mem_iff_getElem?.1 hcx
    exact ih i x hi j c hj

theorem CVB.of_ok {c : CV} (h : CVOk c) : CVB big c := by
  induction h with
  | i k n _ => exact .i k n
  | b x => exact .b x
  | s t l hl h ih =>
    refine .s t l hl (fun x hx c hcx => ?_)
    obtain ⟨i, hi⟩ := List.mem_iff_getElem?.1 hx
    obtain ⟨j, hj⟩ := List.mem_iff_getElem?.1 hcx
    exact ih i x hi j c hj

/-- All cells of a list of values. -/
def AllB (K : Nat) (avs : List AV) : Prop := ∀ c ∈ cvsOf avs, CVB K c

theorem allB_cons {K : Nat} {a : AV} {avs : List AV} (h : AllB K (a :: avs)) : (∀ c ∈ a.cvs, CVB K c) ∧ AllB K avs := by
  unfold AllB cvsOf at *
  simp only [List.flatMap_cons, List.mem_append] at h
  exact ⟨fun c hc => h c (.inl hc), fun c hc => h c (.inr hc)⟩

theorem allB_of_rep {avs : List AV} (h : ∃ w xs, AllRep false w (cvsOf avs) xs (fun _ b => b < w.heap.size)) : AllB big avs := by
  obtain ⟨w, xs, h1, h2⟩ := h
  intro c hc
  obtain ⟨i, hi⟩ := List.mem_iff_getElem?.1 hc
  have hlt : i < xs.length := by rw [h1]; exact (List.getElem?_eq_some_iff.1 hi).1
  exact CVB.of_rep (h2 i c _ hi (List.getElem?_eq_getElem hlt))

theorem allB_of_repP {cs : List CV} {avs : List AV} (h : ∃ (w : World) (xs : Nat → Value) (K : Nat → BSet), ∀ (j : Nat) (c : CV), (cs ++ cvsOf avs)[j]? = some c → Rep false w (xs j) c (K j)) : AllB big (.agg cs :: avs) := by
  obtain ⟨w, xs, K, h⟩ := h
  intro c hc
  have e : cvsOf (AV.agg cs :: avs) = cs ++ cvsOf avs := by simp [cvsOf, AV.cvs]
  rw [e] at hc
  obtain ⟨j, hj⟩ := List.mem_iff_getElem?.1 hc
  exact CVB.of_rep (h j c hj)

theorem some_triple {b c : Bool} {x y : List CV} {z u : List AV} (h : some (b, x, z) = some (c, y, u)) : b = c ∧ y = x ∧ u = z := by
  cases h; exact ⟨rfl, rfl, rfl⟩

theorem some_pair {b c : Bool} {x y : List AV} (h : some (b, x) = some (c, y)) : b = c ∧ y = x := by
  cases h; exact ⟨rfl, rfl⟩

/-! Contracts put together. -/

abbrev Ctrs := List (Nat × (List AV → Option (Bool × List AV)))

def ctr0 : Ctrs := []

theorem ctr0_ok : ∀ f run, aget ctr0 f = some run → Holds Try.prog f run := fun f run h => by cases h

theorem ctr_more {l m : Ctrs} (hm : ∀ f run, aget m f = some run → Holds Try.prog f run) (hl : ∀ x ∈ l, Holds Try.prog x.1 x.2) : ∀ f run, aget (l ++ m) f = some run → Holds Try.prog f run := by
  intro f run h
  rw [aget_append] at h
  split at h
  · rename_i y hy
    cases h
    exact hl _ (aget_mem hy)
  · exact hm f run h

abbrev CtrsOk (l : Ctrs) : Prop := ∀ f run, aget l f = some run → Holds Try.prog f run

theorem ctr_cons {l : Ctrs} {f : Nat} {run : List AV → Option (Bool × List AV)} (h : Holds Try.prog f run) (hl : CtrsOk l) : CtrsOk ((f, run) :: l) := by
  intro g r hg
  unfold aget at hg
  split at hg
  · rename_i e
    cases hg
    rw [← beq_iff_eq.1 e]
    exact h
  · exact hl g r hg

abbrev Mcts := List (Nat × (CV → Int → Option (Bool × CV × Int)))

def mct0 : Mcts := []

theorem mct0_ok : ∀ f run, aget mct0 f = some run → HoldsI Try.prog f run := fun f run h => by cases h

theorem mct_more {l m : Mcts} (hm : ∀ f run, aget m f = some run → HoldsI Try.prog f run) (hl : ∀ x ∈ l, HoldsI Try.prog x.1 x.2) : ∀ f run, aget (l ++ m) f = some run → HoldsI Try.prog f run := by
  intro f run h
  rw [aget_append] at h
  split at h
  · rename_i y hy
    cases h
    exact hl _ (aget_mem hy)
  · exact hm f run h

abbrev Pcts := List (Nat × (List Bool × (List CV → List AV → Option (Bool × List CV × List AV))))

def pct0 : Pcts := []

theorem pct0_ok : ∀ f own run, aget pct0 f = some (own, run) → HoldsP Try.prog f own run := fun f own run h => by cases h

theorem pct_more {l m : Pcts} (hm : ∀ f own run, aget m f = some (own, run) → HoldsP Try.prog f own run) (hl : ∀ x ∈ l, HoldsP Try.prog x.1 x.2.1 x.2.2) : ∀ f own run, aget (l ++ m) f = some (own, run) → HoldsP Try.prog f own run := by
  intro f own run h
  rw [aget_append] at h
  split at h
  · rename_i y hy
    cases h
    exact hl _ (aget_mem hy)
  · exact hm f own run h

abbrev Tcts := List (Nat × (List Bool × Option (Nat × Nat × List (List Nat)) × (List AV → Option (Bool × List AV))))

def tct0 : Tcts := []

theorem tct0_ok : ∀ f own inp run, aget tct0 f = some (own, inp, run) → HoldsT Try.prog f own inp run := fun f own inp run h => by cases h

theorem tct_more {l m : Tcts} (hm : ∀ f own inp run, aget m f = some (own, inp, run) → HoldsT Try.prog f own inp run) (hl : ∀ x ∈ l, HoldsT Try.prog x.1 x.2.1 x.2.2.1 x.2.2.2) : ∀ f own inp run, aget (l ++ m) f = some (own, inp, run) → HoldsT Try.prog f own inp run := by
  intro f own inp run h
  rw [aget_append] at h
  split at h
  · rename_i y hy
    cases h
    exact hl _ (aget_mem hy)
  · exact hm f own inp run h

noncomputable abbrev cQ (c : Ctrs) (m : Mcts) (p : Pcts) (t : Tcts) : Cfg := cfgQ (aget c) (aget m) (aget p) (aget t)

/-- A function's contract, from its normal form. -/
theorem holds_fn {c : Ctrs} {m : Mcts} {p : Pcts} {t : Tcts} (o1 : CtrsOk c) (o2 : ∀ f run, aget m f = some run → HoldsI Try.prog f run) (o3 : ∀ f own run, aget p f = some (own, run) → HoldsP Try.prog f own run) (o4 : ∀ f own inp run, aget t f = some (own, inp, run) → HoldsT Try.prog f own inp run)
    {f : FuncId} {run : List AV → Option (Bool × List AV)} (hf : FnOk Try.prog f) (h : ∀ avs rs, AllB big avs → run avs = some (true, rs) → ∃ tms N, evalFn (cQ c m p t) tms N 12 f avs = some rs) : Holds Try.prog f run :=
  holds_of_eval (engQ_ok o1 o2 o3 o4) hf fun avs rs hr e => (h avs rs (allB_of_rep hr) e).elim fun t x => x.elim fun N y => ⟨t, N, 12, y⟩

theorem fin0 {C : Cfg} {tms : FuncId → Nat → Option Tmpl} {f : FuncId} {av : List AV} {E : Nat → Option Ans} {r : Ans} {c : Bool} (law : AllB big (av) → c = true → ∃ N, E N = some (r)) (nf : ∀ N, evalFn C tms N 12 f (av) = E N) (hc : c = true) (hb : AllB big (av)) : ∃ tms N, evalFn C tms N 12 f (av) = some (r) :=
  (law hb hc).elim fun N e => ⟨tms, N, (nf N).trans e⟩

theorem fin1 {A0 : Type} {C : Cfg} {tms : FuncId → Nat → Option Tmpl} {f : FuncId} {av : A0 → List AV} {E : Nat → A0 → Option Ans} {r : A0 → Ans} {c : A0 → Bool} (law : ∀ a0, AllB big (av a0) → c a0 = true → ∃ N, E N a0 = some (r a0)) (nf : ∀ N a0, evalFn C tms N 12 f (av a0) = E N a0) {a0 : A0} (hc : c a0 = true) (hb : AllB big (av a0)) : ∃ tms N, evalFn C tms N 12 f (av a0) = some (r a0) :=
  (law _ hb hc).elim fun N e => ⟨tms, N, (nf N _).trans e⟩

theorem fin2 {A0 A1 : Type} {C : Cfg} {tms : FuncId → Nat → Option Tmpl} {f : FuncId} {av : A0 → A1 → List AV} {E : Nat → A0 → A1 → Option Ans} {r : A0 → A1 → Ans} {c : A0 → A1 → Bool} (law : ∀ a0 a1, AllB big (av a0 a1) → c a0 a1 = true → ∃ N, E N a0 a1 = some (r a0 a1)) (nf : ∀ N a0 a1, evalFn C tms N 12 f (av a0 a1) = E N a0 a1) {a0 : A0} {a1 : A1} (hc : c a0 a1 = true) (hb : AllB big (av a0 a1)) : ∃ tms N, evalFn C tms N 12 f (av a0 a1) = some (r a0 a1) :=
  (law _ _ hb hc).elim fun N e => ⟨tms, N, (nf N _ _).trans e⟩

theorem fin3 {A0 A1 A2 : Type} {C : Cfg} {tms : FuncId → Nat → Option Tmpl} {f : FuncId} {av : A0 → A1 → A2 → List AV} {E : Nat → A0 → A1 → A2 → Option Ans} {r : A0 → A1 → A2 → Ans} {c : A0 → A1 → A2 → Bool} (law : ∀ a0 a1 a2, AllB big (av a0 a1 a2) → c a0 a1 a2 = true → ∃ N, E N a0 a1 a2 = some (r a0 a1 a2)) (nf : ∀ N a0 a1 a2, evalFn C tms N 12 f (av a0 a1 a2) = E N a0 a1 a2) {a0 : A0} {a1 : A1} {a2 : A2} (hc : c a0 a1 a2 = true) (hb : AllB big (av a0 a1 a2)) : ∃ tms N, evalFn C tms N 12 f (av a0 a1 a2) = some (r a0 a1 a2) :=
  (law _ _ _ hb hc).elim fun N e => ⟨tms, N, (nf N _ _ _).trans e⟩

theorem fin4 {A0 A1 A2 A3 : Type} {C : Cfg} {tms : FuncId → Nat → Option Tmpl} {f : FuncId} {av : A0 → A1 → A2 → A3 → List AV} {E : Nat → A0 → A1 → A2 → A3 → Option Ans} {r : A0 → A1 → A2 → A3 → Ans} {c : A0 → A1 → A2 → A3 → Bool} (law : ∀ a0 a1 a2 a3, AllB big (av a0 a1 a2 a3) → c a0 a1 a2 a3 = true → ∃ N, E N a0 a1 a2 a3 = some (r a0 a1 a2 a3)) (nf : ∀ N a0 a1 a2 a3, evalFn C tms N 12 f (av a0 a1 a2 a3) = E N a0 a1 a2 a3) {a0 : A0} {a1 : A1} {a2 : A2} {a3 : A3} (hc : c a0 a1 a2 a3 = true) (hb : AllB big (av a0 a1 a2 a3)) : ∃ tms N, evalFn C tms N 12 f (av a0 a1 a2 a3) = some (r a0 a1 a2 a3) :=
  (law _ _ _ _ hb hc).elim fun N e => ⟨tms, N, (nf N _ _ _ _).trans e⟩

theorem fin5 {A0 A1 A2 A3 A4 : Type} {C : Cfg} {tms : FuncId → Nat → Option Tmpl} {f : FuncId} {av : A0 → A1 → A2 → A3 → A4 → List AV} {E : Nat → A0 → A1 → A2 → A3 → A4 → Option Ans} {r : A0 → A1 → A2 → A3 → A4 → Ans} {c : A0 → A1 → A2 → A3 → A4 → Bool} (law : ∀ a0 a1 a2 a3 a4, AllB big (av a0 a1 a2 a3 a4) → c a0 a1 a2 a3 a4 = true → ∃ N, E N a0 a1 a2 a3 a4 = some (r a0 a1 a2 a3 a4)) (nf : ∀ N a0 a1 a2 a3 a4, evalFn C tms N 12 f (av a0 a1 a2 a3 a4) = E N a0 a1 a2 a3 a4) {a0 : A0} {a1 : A1} {a2 : A2} {a3 : A3} {a4 : A4} (hc : c a0 a1 a2 a3 a4 = true) (hb : AllB big (av a0 a1 a2 a3 a4)) : ∃ tms N, evalFn C tms N 12 f (av a0 a1 a2 a3 a4) = some (r a0 a1 a2 a3 a4) :=
  (law _ _ _ _ _ hb hc).elim fun N e => ⟨tms, N, (nf N _ _ _ _ _).trans e⟩

theorem fin6 {A0 A1 A2 A3 A4 A5 : Type} {C : Cfg} {tms : FuncId → Nat → Option Tmpl} {f : FuncId} {av : A0 → A1 → A2 → A3 → A4 → A5 → List AV} {E : Nat → A0 → A1 → A2 → A3 → A4 → A5 → Option Ans} {r : A0 → A1 → A2 → A3 → A4 → A5 → Ans} {c : A0 → A1 → A2 → A3 → A4 → A5 → Bool} (law : ∀ a0 a1 a2 a3 a4 a5, AllB big (av a0 a1 a2 a3 a4 a5) → c a0 a1 a2 a3 a4 a5 = true → ∃ N, E N a0 a1 a2 a3 a4 a5 = some (r a0 a1 a2 a3 a4 a5)) (nf : ∀ N a0 a1 a2 a3 a4 a5, evalFn C tms N 12 f (av a0 a1 a2 a3 a4 a5) = E N a0 a1 a2 a3 a4 a5) {a0 : A0} {a1 : A1} {a2 : A2} {a3 : A3} {a4 : A4} {a5 : A5} (hc : c a0 a1 a2 a3 a4 a5 = true) (hb : AllB big (av a0 a1 a2 a3 a4 a5)) : ∃ tms N, evalFn C tms N 12 f (av a0 a1 a2 a3 a4 a5) = some (r a0 a1 a2 a3 a4 a5) :=
  (law _ _ _ _ _ _ hb hc).elim fun N e => ⟨tms, N, (nf N _ _ _ _ _ _).trans e⟩

theorem fin7 {A0 A1 A2 A3 A4 A5 A6 : Type} {C : Cfg} {tms : FuncId → Nat → Option Tmpl} {f : FuncId} {av : A0 → A1 → A2 → A3 → A4 → A5 → A6 → List AV} {E : Nat → A0 → A1 → A2 → A3 → A4 → A5 → A6 → Option Ans} {r : A0 → A1 → A2 → A3 → A4 → A5 → A6 → Ans} {c : A0 → A1 → A2 → A3 → A4 → A5 → A6 → Bool} (law : ∀ a0 a1 a2 a3 a4 a5 a6, AllB big (av a0 a1 a2 a3 a4 a5 a6) → c a0 a1 a2 a3 a4 a5 a6 = true → ∃ N, E N a0 a1 a2 a3 a4 a5 a6 = some (r a0 a1 a2 a3 a4 a5 a6)) (nf : ∀ N a0 a1 a2 a3 a4 a5 a6, evalFn C tms N 12 f (av a0 a1 a2 a3 a4 a5 a6) = E N a0 a1 a2 a3 a4 a5 a6) {a0 : A0} {a1 : A1} {a2 : A2} {a3 : A3} {a4 : A4} {a5 : A5} {a6 : A6} (hc : c a0 a1 a2 a3 a4 a5 a6 = true) (hb : AllB big (av a0 a1 a2 a3 a4 a5 a6)) : ∃ tms N, evalFn C tms N 12 f (av a0 a1 a2 a3 a4 a5 a6) = some (r a0 a1 a2 a3 a4 a5 a6) :=
  (law _ _ _ _ _ _ _ hb hc).elim fun N e => ⟨tms, N, (nf N _ _ _ _ _ _ _).trans e⟩

theorem fin8 {A0 A1 A2 A3 A4 A5 A6 A7 : Type} {C : Cfg} {tms : FuncId → Nat → Option Tmpl} {f : FuncId} {av : A0 → A1 → A2 → A3 → A4 → A5 → A6 → A7 → List AV} {E : Nat → A0 → A1 → A2 → A3 → A4 → A5 → A6 → A7 → Option Ans} {r : A0 → A1 → A2 → A3 → A4 → A5 → A6 → A7 → Ans} {c : A0 → A1 → A2 → A3 → A4 → A5 → A6 → A7 → Bool} (law : ∀ a0 a1 a2 a3 a4 a5 a6 a7, AllB big (av a0 a1 a2 a3 a4 a5 a6 a7) → c a0 a1 a2 a3 a4 a5 a6 a7 = true → ∃ N, E N a0 a1 a2 a3 a4 a5 a6 a7 = some (r a0 a1 a2 a3 a4 a5 a6 a7)) (nf : ∀ N a0 a1 a2 a3 a4 a5 a6 a7, evalFn C tms N 12 f (av a0 a1 a2 a3 a4 a5 a6 a7) = E N a0 a1 a2 a3 a4 a5 a6 a7) {a0 : A0} {a1 : A1} {a2 : A2} {a3 : A3} {a4 : A4} {a5 : A5} {a6 : A6} {a7 : A7} (hc : c a0 a1 a2 a3 a4 a5 a6 a7 = true) (hb : AllB big (av a0 a1 a2 a3 a4 a5 a6 a7)) : ∃ tms N, evalFn C tms N 12 f (av a0 a1 a2 a3 a4 a5 a6 a7) = some (r a0 a1 a2 a3 a4 a5 a6 a7) :=
  (law _ _ _ _ _ _ _ _ hb hc).elim fun N e => ⟨tms, N, (nf N _ _ _ _ _ _ _ _).trans e⟩

theorem fin9 {A0 A1 A2 A3 A4 A5 A6 A7 A8 : Type} {C : Cfg} {tms : FuncId → Nat → Option Tmpl} {f : FuncId} {av : A0 → A1 → A2 → A3 → A4 → A5 → A6 → A7 → A8 → List AV} {E : Nat → A0 → A1 → A2 → A3 → A4 → A5 → A6 → A7 → A8 → Option Ans} {r : A0 → A1 → A2 → A3 → A4 → A5 → A6 → A7 → A8 → Ans} {c : A0 → A1 → A2 → A3 → A4 → A5 → A6 → A7 → A8 → Bool} (law : ∀ a0 a1 a2 a3 a4 a5 a6 a7 a8, AllB big (av a0 a1 a2 a3 a4 a5 a6 a7 a8) → c a0 a1 a2 a3 a4 a5 a6 a7 a8 = true → ∃ N, E N a0 a1 a2 a3 a4 a5 a6 a7 a8 = some (r a0 a1 a2 a3 a4 a5 a6 a7 a8)) (nf : ∀ N a0 a1 a2 a3 a4 a5 a6 a7 a8, evalFn C tms N 12 f (av a0 a1 a2 a3 a4 a5 a6 a7 a8) = E N a0 a1 a2 a3 a4 a5 a6 a7 a8) {a0 : A0} {a1 : A1} {a2 : A2} {a3 : A3} {a4 : A4} {a5 : A5} {a6 : A6} {a7 : A7} {a8 : A8} (hc : c a0 a1 a2 a3 a4 a5 a6 a7 a8 = true) (hb : AllB big (av a0 a1 a2 a3 a4 a5 a6 a7 a8)) : ∃ tms N, evalFn C tms N 12 f (av a0 a1 a2 a3 a4 a5 a6 a7 a8) = some (r a0 a1 a2 a3 a4 a5 a6 a7 a8) :=
  (law _ _ _ _ _ _ _ _ _ hb hc).elim fun N e => ⟨tms, N, (nf N _ _ _ _ _ _ _ _ _).trans e⟩

theorem fin10 {A0 A1 A2 A3 A4 A5 A6 A7 A8 A9 : Type} {C : Cfg} {tms : FuncId → Nat → Option Tmpl} {f : FuncId} {av : A0 → A1 → A2 → A3 → A4 → A5 → A6 → A7 → A8 → A9 → List AV} {E : Nat → A0 → A1 → A2 → A3 → A4 → A5 → A6 → A7 → A8 → A9 → Option Ans} {r : A0 → A1 → A2 → A3 → A4 → A5 → A6 → A7 → A8 → A9 → Ans} {c : A0 → A1 → A2 → A3 → A4 → A5 → A6 → A7 → A8 → A9 → Bool} (law : ∀ a0 a1 a2 a3 a4 a5 a6 a7 a8 a9, AllB big (av a0 a1 a2 a3 a4 a5 a6 a7 a8 a9) → c a0 a1 a2 a3 a4 a5 a6 a7 a8 a9 = true → ∃ N, E N a0 a1 a2 a3 a4 a5 a6 a7 a8 a9 = some (r a0 a1 a2 a3 a4 a5 a6 a7 a8 a9)) (nf : ∀ N a0 a1 a2 a3 a4 a5 a6 a7 a8 a9, evalFn C tms N 12 f (av a0 a1 a2 a3 a4 a5 a6 a7 a8 a9) = E N a0 a1 a2 a3 a4 a5 a6 a7 a8 a9) {a0 : A0} {a1 : A1} {a2 : A2} {a3 : A3} {a4 : A4} {a5 : A5} {a6 : A6} {a7 : A7} {a8 : A8} {a9 : A9} (hc : c a0 a1 a2 a3 a4 a5 a6 a7 a8 a9 = true) (hb : AllB big (av a0 a1 a2 a3 a4 a5 a6 a7 a8 a9)) : ∃ tms N, evalFn C tms N 12 f (av a0 a1 a2 a3 a4 a5 a6 a7 a8 a9) = some (r a0 a1 a2 a3 a4 a5 a6 a7 a8 a9) :=
  (law _ _ _ _ _ _ _ _ _ _ hb hc).elim fun N e => ⟨tms, N, (nf N _ _ _ _ _ _ _ _ _ _).trans e⟩


theorem allB_of_repT {avs : List AV} (h : ∃ (w : World) (xs : Nat → Value) (K : Nat → BSet), ∀ (j : Nat) (c : CV), (cvsOf avs)[j]? = some c → Rep false w (xs j) c (K j)) : AllB big avs := by
  obtain ⟨w, xs, K, h⟩ := h
  intro c hc
  obtain ⟨j, hj⟩ := List.mem_iff_getElem?.1 hc
  exact CVB.of_rep (h j c hj)

noncomputable def fnHere (f : FuncId) : Bool :=
  match Try.prog.funcs[f]? with
  | some fn => fn.body.isSome && !(fn.name == "runtime.NumGoroutine")
  | none => false

theorem fn_ok {f : FuncId} (h : fnHere f = true) : FnOk Try.prog f := by
  unfold fnHere at h
  split at h
  · rename_i fn hf
    simp only [Bool.and_eq_true, Bool.not_eq_true'] at h
    obtain ⟨b, hb⟩ := Option.isSome_iff_exists.1 h.1
    exact ⟨fn, b, hf, hb, h.2⟩
  · cases h

/-! Numbers and lists. -/

/-- As cond_true and cond_false are, but no rewriting by definition alone: a checker of proofs is not led into loops. -/
theorem cT {α : Type} (x y : α) : (bif true then x else y) = x := by simp
theorem cF {α : Type} (x y : α) : (bif false then x else y) = y := by simp

theorem big_val : big = 140737488355328 := rfl

theorem wrap_id {x : Int} (h1 : -9223372036854775808 ≤ x) (h2 : x ≤ 9223372036854775807) : IntKind.i64.wrap x = x := by
  simp only [IntKind.wrap, IntKind.signed, IntKind.bits]
  simp
  omega

theorem wadd_id {x y : Int} (h1 : -9223372036854775808 ≤ x + y) (h2 : x + y ≤ 9223372036854775807) : wadd .i64 x y = x + y := wrap_id h1 h2
theorem wsub_id {x y : Int} (h1 : -9223372036854775808 ≤ x - y) (h2 : x - y ≤ 9223372036854775807) : wsub .i64 x y = x - y := wrap_id h1 h2

theorem wadd_up {i n : Nat} (h : i < n) (hn : n ≤ big) : wadd .i64 (i : Int) 1 = ((i + 1 : Nat) : Int) := by
  rw [big_val] at hn
  rw [wadd_id (by omega) (by omega)]
  omega

section
variable {α : Type}
theorem ilt_ln {l : List α} {i : Nat} (h : i < l.length) : ilt (i : Int) (ln l) = true := by
  unfold ilt ln; exact decide_eq_true (by omega)
theorem ilt_end {l : List α} : ilt ((l.length : Nat) : Int) (ln l) = false := by
  unfold ilt ln; exact decide_eq_false (by omega)
theorem inb_ln {l : List α} {i : Nat} (h : i < l.length) : inb (i : Int) (ln l) = true := by
  unfold inb ln; exact decide_eq_true (by omega)
theorem ix_ln {l : List α} {i : Nat} (h : i < l.length) (d : α) : ix l (i : Int) d = l[i] := by
  unfold ix
  simp [List.getD, List.getElem?_eq_getElem h]
theorem few_ln {l : List α} (h : l.length ≤ 2147483648) : few (ln l) = true := by
  unfold few ln; exact decide_eq_true (by omega)
theorem ieq_self (x : Int) : ieq x x = true := by simp [ieq]
theorem ine_self (x : Int) : ine x x = false := by simp [ine]
theorem beqb_self (x : Bool) : beqb x x = true := by simp [beqb]
end

theorem ilt_nat {i n : Nat} (h : i < n) : ilt (i : Int) (n : Int) = true := by
  unfold ilt; exact decide_eq_true (by omega)
theorem ilt_nend {n : Nat} : ilt (n : Int) (n : Int) = false := by
  unfold ilt; exact decide_eq_false (by omega)

/-! Loops. -/

theorem iter_succ {σ ρ : Type} (n : Nat) (F : (σ → Option ρ) → σ → Option ρ) (s : σ) : iter (n + 1) F s = F (iter n F) s := rfl

/-- What a loop over a list does: element by element. -/
def goL {α τ ρ : Type} (body : Nat → α → τ → (τ → Option ρ) → Option ρ) (K : τ → Option ρ) : List α → Nat → τ → Option ρ
  | [], _, t => K t
  | x :: l, i, t => body i x t (goL body K l (i + 1))

theorem iter_list {α τ ρ σ : Type} (l : List α) (st : Nat → τ → σ) (F : (σ → Option ρ) → σ → Option ρ) (body : Nat → α → τ → (τ → Option ρ) → Option ρ) (K : τ → Option ρ)
    (hstep : ∀ (i : Nat) (hi : i < l.length) (t : τ) (rec : σ → Option ρ), F rec (st i t) = body i l[i] t (fun t' => rec (st (i + 1) t'))) (hend : ∀ (t : τ) (rec : σ → Option ρ), F rec (st l.length t) = K t) :
    ∀ (N : Nat) (t : τ), l.length < N → iter N F (st 0 t) = goL body K l 0 t := by
  have key : ∀ (m i N : Nat) (t : τ), l.length - i = m → i ≤ l.length → m < N → iter N F (st i t) = goL body K (l.drop i) i t := by
    intro m
    induction m with
    | zero =>
      intro i N t hm hi hN
      have : i = l.length := by omega
      subst this
      obtain ⟨n, rfl⟩ : ∃ n, N = n + 1 := ⟨N - 1, by omega⟩
      rw [iter_succ, hend, List.drop_length]
      rfl
    | succ m ih =>
      intro i N t hm hi hN
      obtain ⟨n, rfl⟩ : ∃ n, N = n + 1 := ⟨N - 1, by omega⟩
      have hlt : i < l.length := by omega
      rw [iter_succ, hstep i hlt, List.drop_eq_getElem_cons hlt]
      simp only [goL]
      congr 1
      funext t'
      exact ih (i + 1) n t' (by omega) (by omega) (by omega)
  intro N t hN
  have := key l.length 0 N t (by omega) (Nat.zero_le _) hN
  simpa using this

/-- What a loop over numbers does. -/
def goN {τ ρ : Type} (body : Nat → τ → (τ → Option ρ) → Option ρ) (K : τ → Option ρ) : Nat → Nat → τ → Option ρ
  | 0, _, t => K t
  | n + 1, i, t => body i t (goN body K n (i + 1))

theorem iter_nat {τ ρ σ : Type} (n : Nat) (st : Nat → τ → σ) (F : (σ → Option ρ) → σ → Option ρ) (body : Nat → τ → (τ → Option ρ) → Option ρ) (K : τ → Option ρ)
    (hstep : ∀ (i : Nat) (hi : i < n) (t : τ) (rec : σ → Option ρ), F rec (st i t) = body i t (fun t' => rec (st (i + 1) t'))) (hend : ∀ (t : τ) (rec : σ → Option ρ), F rec (st n t) = K t) :
    ∀ (N : Nat) (t : τ), n < N → iter N F (st 0 t) = goN body K n 0 t := by
  have key : ∀ (m i N : Nat) (t : τ), n - i = m → i ≤ n → m < N → iter N F (st i t) = goN body K (n - i) i t := by
    intro m
    induction m with
    | zero =>
      intro i N t hm hi hN
      have : i = n := by omega
      subst this
      obtain ⟨k, rfl⟩ : ∃ k, N = k + 1 := ⟨N - 1, by omega⟩
      rw [iter_succ, hend, Nat.sub_self]
      rfl
    | succ m ih =>
      intro i N t hm hi hN
      obtain ⟨k, rfl⟩ : ∃ k, N = k + 1 := ⟨N - 1, by omega⟩
      have hlt : i < n := by omega
      have e : n - i = (n - (i + 1)) + 1 := by omega
      rw [iter_succ, hstep i hlt, e]
      simp only [goN]
      congr 1
      funext t'
      exact ih (i + 1) k t' (by omega) (by omega) (by omega)
  intro N t hN
  have := key n 0 N t (by omega) (Nat.zero_le _) hN
  simpa using this

end Go.Proofs.Ytcfnaifggdelnaa.E
