/- What is proved here: the contract of impl.PagesApart: whether no page of the machine stands twice in the monitors' tables; a set of numbers is kept in a map. -/
import Derived.Maps.OwnOps
import Derived.Maps.Views
import Derived.WalkKit
import Derived.Test.YtcfnaifggdelnaaP3
namespace Go.Proofs.Ytcfnaifggdelnaa.E
open Go Go.RowKit Go.Maps
set_option maxRecDepth 100000

theorem plainElem_bool_inv {H : Type} {P : Program} {e : TypeId} (he : P.underlying e = some .bool) {v : Value} {z : DataW H × List MemPlace} (h : plainElem P e v = some z) : ∃ x, v = .bool x ∧ z = (.lit (.bool x), []) := by
  unfold plainElem at h
  rw [he] at h
  cases v <;> simp at h
  exact ⟨_, rfl, h.symm⟩
theorem lookup_bool {H : Type} {P : Program} (w : World) {ops : Array Oper} {rest : List Oper} {o : Oper} {a : Act} {Q : Exit → Act → World → Prop}
    (hg : o.guard = none) (m x : Operand) (t : TypeId) (hop : o.op = Op.lookup t m x false)
    (k e : TypeId) (K : Keyed P k) (ht : P.underlying t = some (.map k e)) (he : P.underlying e = some .bool) (hz : (zeroValue e).run P w = .ok (.bool false) w) (b n : Nat) (D : DataW H)
    (hm : a.eval m = .map (some b)) (hown : w.ownsMap P k (plainElem P e) b n D) (key : Value) (kl : Lit) (hx : a.eval x = key) (hkey : keyOf P k key = some kl)
    (hK : ∀ c : Bool, D.atKey kl (.lit (.bool false)) = .lit (.bool c) → wpList P ops Q rest (a.put o.dst (.bool c)) w) :
    wpList P ops Q (o :: rest) a w := by
  refine wpList_plain hg fun K' hK' => ?_
  obtain ⟨v, ps, hrun, hv⟩ := hown.lookup K ht hz (plainElem_bool he false) hkey
  obtain ⟨c, rfl, hc⟩ := plainElem_bool_inv he hv
  simp only [Prod.mk.injEq] at hc
  unfold Oper.wp
  simp [execOp, hop, hm, hx, hrun, Result.andThen]
  exact hK' _ _ (hK c hc.1)
/-- The set that the map holds. -/
def mapOf : List Int → DataW Unit
  | [] => .map []
  | p :: u => (mapOf u).put (.int .i64 p) (.lit (.bool true))
theorem mapOf_is : ∀ u, IsMap (mapOf u)
  | [] => isMap_empty
  | p :: u => (mapOf_is u).put _ _
theorem mapOf_at (p : Int) : ∀ u, (mapOf u).atKey (.int .i64 p) (.lit (.bool false)) = .lit (.bool (u.contains p))
  | [] => rfl
  | q :: u => by
    by_cases h : p = q
    · subst h
      rw [mapOf, atKey_put_same (mapOf_is u) (by exact True.intro)]
      simp
    · rw [mapOf, atKey_put_other (by intro e; cases e; exact h rfl), mapOf_at p u]
      simp [h]
theorem lawKeyI : Keyed Try.prog 3 := int_keyed Try.underlying3
theorem zeroBool (w : World) : (zeroValue 4).run Try.prog w = .ok (.bool false) w := by kernel_rfl

def wf64 (p : Int) : Prop := (Lit.int .i64 p).wf = true
def apS : List (Int × Int) → List Int → Option (List Int)
  | [], u => some u
  | s :: l, u => if s.1 = -1 then apS l u else if u.contains s.1 then none else apS l (s.1 :: u)
def apM : List (List (Int × Int)) → List Int → Bool
  | [], _ => true
  | m :: l, u => match apS m u with
    | none => false
    | some u' => apM l u'
theorem apS_get {l : List (Int × Int)} {j : Nat} {p r : Int} (h : l[j]? = some (p, r)) (u : List Int) : apS (l.drop j) u = if p = -1 then apS (l.drop (j + 1)) u else if u.contains p then none else apS (l.drop (j + 1)) (p :: u) := by
  obtain ⟨hj, he⟩ := List.getElem?_eq_some_iff.1 h
  rw [List.drop_eq_getElem_cons hj, he]
  rfl
theorem apM_get {l : List (List (Int × Int))} {k : Nat} {m : List (Int × Int)} (h : l[k]? = some m) (u : List Int) : apM (l.drop k) u = match apS m u with | none => false | some u' => apM (l.drop (k + 1)) u' := by
  obtain ⟨hj, he⟩ := List.getElem?_eq_some_iff.1 h
  rw [List.drop_eq_getElem_cons hj, he]
  rfl
structure SlotsAt (w : World) (B : Nat) (a : Option Addr) (l : List (Int × Int)) : Prop where
  at1 : ∀ j p r, l[j]? = some (p, r) → ∃ b off, a = some ⟨b, off, none⟩ ∧ b < B ∧ w.cell? ⟨b, off + j * 2, none⟩ = some (.int .i64 p) ∧ w.cell? ⟨b, off + j * 2 + 1, none⟩ = some (.int .i64 r) ∧ wf64 p
structure MonsAt (w : World) (B : Nat) (a : Option Addr) (l : List (List (Int × Int))) : Prop where
  at1 : ∀ i m, l[i]? = some m → ∃ b off a2 cap p1 n1 q1 p2 n2 q2 p3 n3 q3 p4 n4 q4 x5 x6 p7 n7 q7 x8, a = some ⟨b, off, none⟩ ∧ b < B ∧ w.cell? ⟨b, off + i * 9, none⟩ = some (.slice a2 m.length cap) ∧ SlotsAt w B a2 m ∧ m.length ≤ 1048576 ∧
    w.cell? ⟨b, off + i * 9 + 1, none⟩ = some (.slice p1 n1 q1) ∧ w.cell? ⟨b, off + i * 9 + 2, none⟩ = some (.slice p2 n2 q2) ∧ w.cell? ⟨b, off + i * 9 + 3, none⟩ = some (.slice p3 n3 q3) ∧ w.cell? ⟨b, off + i * 9 + 4, none⟩ = some (.slice p4 n4 q4) ∧
    w.cell? ⟨b, off + i * 9 + 5, none⟩ = some (.int .i64 x5) ∧ w.cell? ⟨b, off + i * 9 + 6, none⟩ = some (.int .i64 x6) ∧ w.cell? ⟨b, off + i * 9 + 7, none⟩ = some (.slice p7 n7 q7) ∧ w.cell? ⟨b, off + i * 9 + 8, none⟩ = some (.int .i64 x8)
theorem pa_walk (m x y : Value) (a : Option Addr) (cap : Nat) (L : List (List (Int × Int))) (w : World) (hL : L.length ≤ 1048576) (hat : MonsAt w w.heap.size a L) :
    Calls Try.prog 7 #[.agg #[m, .slice a L.length cap, x, y]] w fun e w' => e = .returned (.bool (apM L [])) ∧ Below w.heap.size w w' := by
  have hmm := @run_makeMap Try.prog
  go_enter Try.func7, Try.ntmps7
  go_wp2
  go_loopw [12] (fun i wr => ∃ (k : Nat) (u : List Int), k ≤ L.length ∧ i = .int .i64 k ∧ apM (L.drop k) u = apM L [] ∧ wr.ownsMap Try.prog 3 (plainElem Try.prog 4) (w.heap.size + 1) (k * 1048576) (mapOf u) ∧ Below w.heap.size w wr ∧ w.heap.size + 2 ≤ wr.heap.size) (fun i _ => L.length - (intOf i).toNat)
  case atStart => exact ⟨0, [], Nat.zero_le _, rfl, rfl, by
    have h := World.ownsMap_made (H := Unit) (w.alloc (Obj.cells #[m, Value.slice a L.length cap, x, y] 32)) Try.prog 3 (plainElem Try.prog 4)
    rw [show (w.alloc (Obj.cells #[m, Value.slice a L.length cap, x, y] 32)).heap.size = w.heap.size + 1 from by simp] at h
    rw [Nat.zero_mul]
    exact h, ((Below.refl _ _).alloc (Nat.le_refl _) _).alloc (by simp) _, by simp⟩
  case round =>
    obtain ⟨k, u, hk, rfl, hres, hown, hnx, hws⟩ := hrel
    by_cases hkl : k < L.length
    · obtain ⟨mm, hmm2⟩ : ∃ mm, L[k]? = some mm := ⟨_, List.getElem?_eq_getElem (by omega)⟩
      obtain ⟨b, off, a2, cap2, p1, n1, q1, p2, n2, q2, p3, n3, q3, p4, n4, q4, x5, x6, p7, n7, q7, x8, rfl, hb, e0, hsl, hml, e1, e2, e3, e4, e5, e6, e7, e8⟩ := hat.at1 k mm hmm2
      obtain ⟨len2, hlen2⟩ : ∃ n, n = mm.length := ⟨_, rfl⟩
      rw [← hlen2] at e0 hml
      rw [← hnx.cell (by exact hb)] at e0 e1 e2 e3 e4 e5 e6 e7 e8
      go_wp2
      go_loopw [19] (fun j ws => ∃ (q : Nat) (v : List Int), q ≤ mm.length ∧ j = .int .i64 q ∧ (match apS (mm.drop q) v with | none => false | some u' => apM (L.drop (k + 1)) u') = apM L [] ∧ ws.ownsMap Try.prog 3 (plainElem Try.prog 4) (w.heap.size + 1) (k * 1048576 + q) (mapOf v) ∧ Below w.heap.size w ws ∧ w.heap.size + 2 ≤ ws.heap.size) (fun j _ => mm.length - (intOf j).toNat)
      case atStart => exact ⟨0, u, Nat.zero_le _, rfl, by rw [List.drop_zero, ← apM_get hmm2]; exact hres, (hown.alloc _).mono (Nat.le_add_right _ _), hnx.alloc (by omega) _, by simp; omega⟩
      case round =>
        obtain ⟨q, v, hq, rfl, hres2, hown2, hnx2, hws2⟩ := hrel
        by_cases hql : q < mm.length
        · obtain ⟨⟨p, r⟩, hpr⟩ : ∃ mm2, mm[q]? = some mm2 := ⟨_, List.getElem?_eq_getElem hql⟩
          obtain ⟨b2, off2, rfl, hb2, f0, f1, hwf⟩ := hsl.at1 q p r hpr
          rw [← hnx2.cell (by exact hb2)] at f0 f1
          have hkey : keyOf Try.prog 3 (.int .i64 p) = some (.int .i64 p) := keyOf_int_mk Try.underlying3 hwf
          go_wp2_with (first
            | (at_lookup; refine lookup_bool _ rfl _ _ 51 rfl 3 4 lawKeyI Try.underlying51 Try.underlying4 (zeroBool _) (w.heap.size + 1) _ _ rfl (hown2.alloc _) _ _ rfl hkey ?_; intro c hat)
            | (at_mapUpdate; refine wpList_mapUpdate_own _ rfl _ _ _ 51 rfl 3 4 lawKeyI Try.underlying51 _ (w.heap.size + 1) _ _ rfl (hown2.alloc _) (by unfold maxLen; omega) _ _ _ rfl rfl hkey _ [] (plainElem_bool Try.underlying4 true) ?_; intro w1 hown1 hgrow1)
            | go_in)
          · have h : p = -1 := by simpa using ‹(p == -1) = true›
            have e := apS_get hpr v
            rw [if_pos h] at e
            refine ⟨⟨q + 1, v, by omega, by go_num, by rw [← e]; exact hres2, (hown2.alloc _).mono (by omega), hnx2.alloc (by omega) _, by simp; omega⟩, by simp [intOf]; omega⟩
          · have h : p ≠ -1 := by simpa using ‹(p == -1) = false›
            have hc : c = true := by assumption
            subst hc
            rw [mapOf_at] at hat
            have hin : v.contains p = true := by simpa using hat
            have e := apS_get hpr v
            rw [if_neg h, if_pos hin] at e
            rw [e] at hres2
            go_ret
            exact ⟨by rw [← hres2]; rfl, hnx2.alloc (by omega) _⟩
          · have h : p ≠ -1 := by simpa using ‹(p == -1) = false›
            have hc : c = false := by assumption
            subst hc
            rw [mapOf_at] at hat
            have hin : v.contains p = false := by simpa using hat
            have e := apS_get hpr v
            rw [if_neg h, if_neg (by rw [hin]; simp)] at e
            have s1 := hgrow1.size
            simp at s1
            go_roundw
            case rel =>
              exact ⟨q + 1, p :: v, by omega, by go_num, by rw [← e]; exact hres2, by simpa [Nat.add_assoc, mapOf] using hown1, (hnx2.alloc (by omega) _).grown hgrow1 (by simp; omega) (fun j hj => by cases hj; omega), by omega⟩
            case measure => simp [intOf]; omega
        · have hqe : q = mm.length := by omega
          subst hqe
          go_wp2
          rw [List.drop_length] at hres2
          exact ⟨⟨k + 1, v, by omega, by go_num, hres2, hown2.mono (by omega), hnx2, hws2⟩, by simp [intOf]; omega⟩
    · have hke : k = L.length := by omega
      subst hke
      go_wp2
      go_ret
      exact ⟨by rw [← hres, List.drop_length]; rfl, hnx⟩

def pairs (l : List Slot) : List (Int × Int) := l.map fun s => (s.Page, s.Rights)
def PgWf (h : Host) : Prop := ∀ m ∈ h.Mons, ∀ s ∈ m.Outer, wf64 s.Page
theorem slotsAt_of {w : World} {B : Nat} {v : Value} {l : List Slot} {S : BSet} (h : Rep false w v (.s .slot l) S) (hS : ∀ x, S x → x < B) (hwf : ∀ s ∈ l, wf64 s.Page) : ∃ a cap, v = .slice a (pairs l).length cap ∧ SlotsAt w B a (pairs l) := by
  cases h with
  | nil => exact ⟨none, 0, rfl, ⟨fun j p r h => by simp [pairs] at h⟩⟩
  | void _ a _ ho => exact ⟨some a, 0, rfl, ⟨fun j p r h => by simp [pairs] at h⟩⟩
  | sl _ _ b off cap arr e fz V K _ hb hfz hlen hcap hsz hSb hsub hdis hv hc =>
    refine ⟨some ⟨b, off, none⟩, cap, by simp [pairs], ⟨fun j p r hj => ?_⟩⟩
    unfold pairs at hj
    rw [List.getElem?_map] at hj
    cases hx : l[j]? with
    | none => rw [hx] at hj; cases hj
    | some s =>
      rw [hx] at hj
      cases hj
      have hjl : j < l.length := (List.getElem?_eq_some_iff.1 hx).1
      have hw2 : Ty.width .slot = 2 := rfl
      have c0 := hv j 0 hjl (by decide)
      have c1 := hv j 1 hjl (by decide)
      rw [(hc j s hx 0 (.i .i64 s.Page) rfl).int_inv] at c0
      rw [(hc j s hx 1 (.i .i64 s.Rights) rfl).int_inv] at c1
      exact ⟨b, off, rfl, hS b hSb, by rw [cell_of_block hb]; exact c0, by rw [cell_of_block hb]; exact c1, hwf s (List.mem_of_getElem? hx)⟩
theorem rep_slice {w : World} {v : Value} {t : Ty} {l : List t.den} {S : BSet} (h : Rep false w v (.s t l) S) : ∃ p n q, v = .slice p n q := by
  obtain ⟨⟨a, cap, hv, _⟩, _⟩ := h.len
  exact ⟨a, _, cap, hv⟩
theorem monsAt_of {w : World} {v : Value} {l : List Mon} {S : BSet} (h : Rep false w v (.s .mon l) S) (hS : ∀ x, S x → x < w.heap.size) (hwf : ∀ m ∈ l, ∀ s ∈ m.Outer, wf64 s.Page) (hsm : ∀ m ∈ l, m.Outer.length ≤ 1048576) :
    ∃ a cap, v = .slice a (l.map fun m => pairs m.Outer).length cap ∧ MonsAt w w.heap.size a (l.map fun m => pairs m.Outer) := by
  cases h with
  | nil => exact ⟨none, 0, rfl, ⟨fun j m h => by simp at h⟩⟩
  | void _ a _ ho => exact ⟨some a, 0, rfl, ⟨fun j m h => by simp at h⟩⟩
  | sl _ _ b off cap arr e fz V K _ hb hfz hlen hcap hsz hSb hsub hdis hv hc =>
    refine ⟨some ⟨b, off, none⟩, cap, by simp, ⟨fun i mm hi => ?_⟩⟩
    rw [List.getElem?_map] at hi
    cases hx : l[i]? with
    | none => rw [hx] at hi; cases hi
    | some m =>
      rw [hx] at hi
      cases hi
      have hil : i < l.length := (List.getElem?_eq_some_iff.1 hx).1
      have hK : ∀ j, j < 9 → ∀ x, K i j x → x < w.heap.size := fun j hj x hk => hS x (hsub i j x hil hj hk).1
      have c : ∀ j, j < 9 → w.cell? ⟨b, off + i * 9 + j, none⟩ = some (V i j) := fun j hj => by rw [cell_of_block hb]; exact hv i j hil hj
      have hm := List.mem_of_getElem? hx
      obtain ⟨a2, cap2, e0, hsl⟩ := slotsAt_of (hc i m hx 0 (.s .slot m.Outer) rfl) (hK 0 (by decide)) (hwf m hm)
      obtain ⟨p1, n1, q1, e1⟩ := rep_slice (hc i m hx 1 (.s (.sl .int) m.Out) rfl)
      obtain ⟨p2, n2, q2, e2⟩ := rep_slice (hc i m hx 2 (.s .bool m.Dirty) rfl)
      obtain ⟨p3, n3, q3, e3⟩ := rep_slice (hc i m hx 3 (.s .guest m.Guests) rfl)
      obtain ⟨p4, n4, q4, e4⟩ := rep_slice (hc i m hx 4 (.s .int m.Outs) rfl)
      have e5 := (hc i m hx 5 (.i .i64 m.Pending) rfl).int_inv
      have e6 := (hc i m hx 6 (.i .i64 m.Traps) rfl).int_inv
      obtain ⟨p7, n7, q7, e7⟩ := rep_slice (hc i m hx 7 (.s .kept m.Tables) rfl)
      have e8 := (hc i m hx 8 (.i .i64 m.Own) rfl).int_inv
      refine ⟨b, off, a2, cap2, p1, n1, q1, p2, n2, q2, p3, n3, q3, p4, n4, q4, m.Pending, m.Traps, p7, n7, q7, m.Own, rfl, hS b hSb, ?_, hsl, by simpa [pairs] using hsm m hm, ?_, ?_, ?_, ?_, ?_, ?_, ?_, ?_⟩
      · rw [← e0]; exact c 0 (by decide)
      · rw [← e1]; exact c 1 (by decide)
      · rw [← e2]; exact c 2 (by decide)
      · rw [← e3]; exact c 3 (by decide)
      · rw [← e4]; exact c 4 (by decide)
      · rw [← e5]; exact c 5 (by decide)
      · rw [← e6]; exact c 6 (by decide)
      · rw [← e7]; exact c 7 (by decide)
      · rw [← e8]; exact c 8 (by decide)

def pagesApart (h : Host) : Bool := apM (h.Mons.map fun m => pairs m.Outer) []
@[simp, reducible] noncomputable def i_PagesApart_c (h : Host) : Bool := pc (SmHost h ∧ PgWf h)
@[simp, reducible] def i_PagesApart (h : Host) : Bool := pagesApart h
noncomputable def run_i_PagesApart : List AV → Option (Bool × List AV)
  | [.agg [.s (.sl .int) m, .s .mon l, .s .entry b, .s .entry c]] => some (i_PagesApart_c ⟨m, l, b, c⟩, [.one (.b (i_PagesApart ⟨m, l, b, c⟩))])
  | _ => none
theorem holds_i_PagesApart : Holds Try.prog 7 run_i_PagesApart := by
  refine ⟨fn_ok (by kernel_rfl), ?_⟩
  intro w avs xs rs hrep hrun
  unfold run_i_PagesApart at hrun
  split at hrun
  · rename_i m l b c
    simp only [Option.some.injEq, Prod.mk.injEq] at hrun
    obtain ⟨hc, rfl⟩ := hrun
    obtain ⟨hsm, hwf⟩ := pc_iff.1 hc
    have hl : xs.length = 4 := hrep.1
    match xs, hl with
    | [x0, x1, x2, x3], _ =>
      have hR : Rep false w x1 (.s .mon l) (fun b => b < w.heap.size) := hrep.2 1 _ x1 rfl rfl
      have hmon := hsm.mons
      obtain ⟨a, cap, rfl, hat⟩ := monsAt_of hR (fun x hx => hx) hwf (fun m hm => by
        obtain ⟨i, hi⟩ := List.mem_iff_getElem?.1 hm
        exact (hmon.inv.2 m hm (.s .slot m.Outer) (by simp [Ty.cells])).len)
      refine (pa_walk x0 x2 x3 a cap _ w (by have := hmon.len; unfold sm at this; simpa using this) hat).mono ?_
      rintro r w' ⟨rfl, hB⟩
      refine ⟨⟨hB.os, hB.tape, hB.output, hB.size, fun b hb => hB.block b hb⟩, [.bool _], fun _ _ => False, ⟨rfl, fun i c x hc hx => ?_⟩, rfl, ⟨fun i x _ h => h.elim, fun i j x _ _ h => h.elim⟩⟩
      cases i with
      | zero => cases hc; cases hx; exact .b _ _
      | succ i => simp [cvsOf, AV.cvs] at hc
  · cases hrun
end Go.Proofs.Ytcfnaifggdelnaa.E
