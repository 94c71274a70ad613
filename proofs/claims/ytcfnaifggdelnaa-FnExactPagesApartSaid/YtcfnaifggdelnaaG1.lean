/- What is proved here: an argument that reads as data reads as plain data of the program, and its numbers lie in their kinds. -/
import Derived.Test.YtcfnaifggdelnaaC1
import Derived.HandedShaped
import Derived.ProofKit
namespace Go.Proofs.Ytcfnaifggdelnaa.E
open Go

/-- Numbers lie in their kinds, slices are no longer than memory bears. -/
inductive CVOk : CV → Prop
  | i (k : IntKind) (n : Int) (h : k.min ≤ n ∧ n ≤ k.max) : CVOk (.i k n)
  | b (x : Bool) : CVOk (.b x)
  | s (t : Ty) (l : List t.den) (hl : l.length ≤ big) (h : ∀ (i : Nat) (x : t.den), l[i]? = some x → ∀ (j : Nat) (c : CV), (t.cells x)[j]? = some c → CVOk c) : CVOk (.s t l)

section
variable {P : Program}

def offsAre (P : Program) (tot : Nat) : List Field → Nat → Bool
  | [], off => off == tot
  | f :: fs, off => f.offset == off && Nat.blt f.type tyMax && offsAre P tot fs (off + P.cellsOf f.type)

/-- One more check of a type. -/
def chkSt (P : Program) (T : TypeId) : Bool :=
  match P.underlying T with
  | some (.struct fs) => match typeCells P 4 T with
    | some _ => offsAre P (P.cellsOf T) fs.toList 0
    | none => true
  | some (.slice e) => match aget tyTab e with
    | some _ => Nat.blt e tyMax && Nat.ble 1 (P.bytesOf e)
    | none => true
  | _ => true

theorem optAll_mono {α β : Type} {f g : α → Option β} (hfg : ∀ x y, f x = some y → g x = some y) : ∀ {l : List α} {bs : List β}, optAll f l = some bs → optAll g l = some bs
  | [], _, h => h
  | a :: l, bs, h => by
    obtain ⟨b, bs', h1, h2, rfl⟩ := optAll_cons h
    simp only [optAll, hfg a b h1, optAll_mono hfg h2]

theorem typeCells_mono : ∀ {n : Nat} {T : TypeId} {x : Bool × List CTy}, typeCells P n T = some x → typeCells P (n + 1) T = some x
  | 0, _, _, h => by cases h
  | n + 1, T, x, h => by
    rw [typeCells] at h
    rw [typeCells]
    split at h
    · exact h
    · exact h
    · exact h
    · rename_i fs hu
      split at h
      · rename_i l hl
        rw [optAll_mono (f := _) (g := _) ?_ hl]
        · exact h
        · intro f y hy
          split at hy
          · rename_i z hz
            cases hy
            rw [typeCells_mono hz]
          · cases hy
      · cases h
    · cases h

theorem typeCells_up {n m : Nat} {T : TypeId} {x : Bool × List CTy} (hnm : n ≤ m) (h : typeCells P n T = some x) : typeCells P m T = some x := by
  induction hnm with
  | refl => exact h
  | step _ ih => exact typeCells_mono ih

theorem cellsOf_len {T : TypeId} {tys : List CTy} (h : infoIs P T tys = true) : P.cellsOf T = tys.length := by
  obtain ⟨i, z, h1, h2, _⟩ := infoIs_eq h
  simp [Program.cellsOf, h1, h2]

theorem wf_range {k : IntKind} {n : Int} (h : (Lit.int k n).wf = true) : k.min ≤ n ∧ n ≤ k.max := by
  simpa [Lit.wf] using h

theorem all_append {l m : List Nat} (h : (l ++ m).all (· ≤ reachBytes) = true) : l.all (· ≤ reachBytes) = true ∧ m.all (· ≤ reachBytes) = true := by
  simpa [List.all_append] using h

theorem weightsAll_at {H : Type} {e : TypeId} : ∀ {l : List (DataW H)}, (DataW.weightsAll P e l).all (· ≤ reachBytes) = true → ∀ {i : Nat} {d : DataW H}, l[i]? = some d → (d.weights P e).all (· ≤ reachBytes) = true
  | [], _, i, d, h => by simp at h
  | x :: l, hw, i, d, h => by
    simp only [DataW.weightsAll] at hw
    obtain ⟨h1, h2⟩ := all_append hw
    cases i with
    | zero => simp at h; subst h; exact h1
    | succ i => exact weightsAll_at h2 (by simpa using h)

/-- What is known of the reading of some cells. -/
def Opened (W : World) (cs : List Value) (tys : List CTy) : Prop :=
  ∃ cvs : List CV, cvs.map CV.ty = tys ∧ cs.length = cvs.length ∧ ∀ (j : Nat) (c : CV) (u : Value), cvs[j]? = some c → cs[j]? = some u → Rep false W u c (fun b => b < W.heap.size) ∧ CVOk c

theorem Opened.append {W : World} {cs ds : List Value} {t1 t2 : List CTy} (h1 : Opened W cs t1) (h2 : Opened W ds t2) : Opened W (cs ++ ds) (t1 ++ t2) := by
  obtain ⟨c1, a1, b1, d1⟩ := h1
  obtain ⟨c2, a2, b2, d2⟩ := h2
  refine ⟨c1 ++ c2, by simp [a1, a2], by simp [b1, b2], fun j c u hc hu => ?_⟩
  by_cases hj : j < c1.length
  · rw [List.getElem?_append_left hj] at hc
    rw [List.getElem?_append_left (by omega)] at hu
    exact d1 j c u hc hu
  · rw [List.getElem?_append_right (by omega)] at hc
    rw [List.getElem?_append_right (by omega)] at hu
    exact d2 _ c u hc (by rw [← b1]; exact hu)

theorem optAll_get {α β : Type} {f : α → Option β} : ∀ {l : List α} {bs : List β}, optAll f l = some bs → l.length = bs.length
  | [], bs, h => by cases h; rfl
  | a :: l, bs, h => by
    obtain ⟨b, bs', _, h2, rfl⟩ := optAll_cons h
    simp [optAll_get h2]

/-- A list of what is known to be there. -/
theorem build_list {α : Type} : ∀ (n : Nat) (p : Nat → α → Prop), (∀ i, i < n → ∃ x, p i x) → ∃ l : List α, l.length = n ∧ ∀ i x, l[i]? = some x → p i x
  | 0, p, _ => ⟨[], rfl, fun i x h => by simp at h⟩
  | n + 1, p, h => by
    obtain ⟨x, hx⟩ := h 0 (by omega)
    obtain ⟨l, h1, h2⟩ := build_list n (fun i => p (i + 1)) (fun i hi => h (i + 1) (by omega))
    refine ⟨x :: l, by simp [h1], fun i y hy => ?_⟩
    cases i with
    | zero => simp at hy; subst hy; exact hx
    | succ i => exact h2 i y (by simpa using hy)

theorem cells?_get {W : World} {a : Addr} {n : Nat} {cs : List Value} (h : W.cells? 0 a n = some cs) : cs.length = n ∧ ∀ i, i < n → W.cell? (a.add i) = cs[i]? := by
  unfold World.cells? at h
  rw [if_pos (Nat.zero_le _)] at h
  refine ⟨by simpa using mapM_some_length h, fun i hi => mapM_some_get h i i (by simp [hi])⟩

theorem addr_add (a : Addr) (h : a.spot = none) (n m : Nat) : (a.add n).add m = ⟨a.block, a.off + n + m, none⟩ := by
  obtain ⟨b, o, s⟩ := a
  simp only at h
  subst h
  rw [add_lit, add_lit]

theorem open_cells (hchk : ∀ T, T < tyMax → chkTy P T = true ∧ chkSt P T = true) {H : Type} {enc : TypeId × Value → H} {W : World} :
    ∀ (fuel : Nat) (T : TypeId) (cs : List Value) (x : DataW H × List MemPlace), T < tyMax → ∀ (agg : Bool) (tys : List CTy), typeCells P 4 T = some (agg, tys) →
      DataW.trod enc P W 0 (fun _ => true) true fuel T cs = some x → (x.1.weights P T).all (· ≤ reachBytes) = true → Opened W cs tys := by
  intro fuel
  induction fuel using Nat.strongRecOn with
  | _ fuel ih =>
    intro T cs x hT agg tys hty hx hw
    obtain ⟨hc1, hc2⟩ := hchk T hT
    have hty0 := hty
    rw [typeCells] at hty
    split at hty
    · rename_i k hu
      cases hty
      obtain ⟨n, rfl, rfl, hwf⟩ := DataW.trod_int hu hx
      refine ⟨[.i k n], rfl, rfl, fun j c u hc hu' => ?_⟩
      cases j with
      | zero => simp at hc hu'; subst hc hu'; exact ⟨.i k n _, .i k n (wf_range hwf)⟩
      | succ j => simp at hc
    · rename_i hu
      cases hty
      obtain ⟨b, rfl, rfl⟩ := DataW.trod_bool hu hx
      refine ⟨[.b b], rfl, rfl, fun j c u hc hu' => ?_⟩
      cases j with
      | zero => simp at hc hu'; subst hc hu'; exact ⟨.b b _, .b b⟩
      | succ j => simp at hc
    · rename_i e hu
      split at hty
      · rename_i t het
        cases hty
        have fin : ∀ (v : Value) (l : List t.den), Rep false W v (.s t l) (fun b => b < W.heap.size) → CVOk (.s t l) → Opened W [v] [.s t] := by
          intro v l h1 h2
          refine ⟨[.s t l], rfl, rfl, fun j c u hc hu' => ?_⟩
          cases j with
          | zero => simp at hc hu'; subst hc hu'; exact ⟨h1, h2⟩
          | succ j => simp at hc
        have empty : CVOk (.s t []) := .s t [] (Nat.zero_le _) (fun i x h => by simp at h)
        rcases DataW.trod_slice hu hx with ⟨rfl, rfl⟩ | ⟨a, len, cap, elems, rest, n, rfl, rfl, rfl, _, hlc, hcm, hel, hget, hsp, _⟩
        · exact fin _ [] (.nil t _) empty
        · obtain ⟨hrl, hrget⟩ := hsp rfl
          by_cases hcap : cap = 0
          · subst hcap
            have hl0 : len = 0 := by omega
            subst hl0
            exact fin _ [] (.void t a _ rfl) empty
          · unfold chkTy at hc1
            rw [hu] at hc1
            simp only [het, Bool.and_eq_true] at hc1
            obtain ⟨_, ⟨hinfo, _⟩, hec⟩ := hc1
            unfold chkSt at hc2
            rw [hu] at hc2
            simp only [het, Bool.and_eq_true, Nat.blt_eq, Nat.ble_eq] at hc2
            obtain ⟨he, hby⟩ := hc2
            have hce : P.cellsOf e = t.width := by rw [cellsOf_len hinfo, shape_len]
            have hwpos : 0 < t.width := by cases t <;> simp [Ty.width]
            rw [hce] at hget hrget
            -- each element, spare ones too
            have helem : ∀ i, i < cap → ∃ cs', W.cells? 0 (a.add (i * t.width)) t.width = some cs' ∧ (i < len → ∃ y, DataW.trod enc P W 0 (fun _ => true) true n e cs' = some y ∧ elems[i]? = some y) := by
              intro i hi
              by_cases hil : i < len
              · have h1 := hget i hil
                rw [List.getElem?_eq_getElem (by omega)] at h1
                obtain ⟨cs', h2, h3⟩ := Option.bind_eq_some_iff.1 h1
                exact ⟨cs', h2, fun _ => ⟨_, h3, List.getElem?_eq_getElem (by omega)⟩⟩
              · have h1 := hrget (i - len) (by omega)
                rw [List.getElem?_eq_getElem (by omega)] at h1
                obtain ⟨cs', h2, h3⟩ := Option.bind_eq_some_iff.1 h1
                have e1 : len + (i - len) = i := by omega
                rw [e1] at h2
                exact ⟨cs', h2, fun h => absurd h hil⟩
            have hcell : ∀ i j, i < cap → j < t.width → ∃ v, W.cell? ((a.add (i * t.width)).add j) = some v := by
              intro i j hi hj
              obtain ⟨cs', h1, _⟩ := helem i hi
              obtain ⟨h2, h3⟩ := cells?_get h1
              exact ⟨_, (h3 j hj).trans (List.getElem?_eq_getElem (by omega))⟩
            obtain ⟨v0, hv0⟩ := hcell 0 0 (by omega) hwpos
            have hadd0 : (a.add (0 * t.width)).add 0 = a := by simp [Addr.add]
            rw [hadd0] at hv0
            obtain ⟨arr, et, fz, hb, hspot⟩ : ∃ arr et fz, W.heap[a.block]? = some (.cells arr et fz) ∧ a.spot = none := by
              unfold World.cell? at hv0
              split at hv0
              · rename_i c et fz hb
                split at hv0
                · cases hv0
                · rename_i hs
                  exact ⟨c, et, fz, hb, by simpa using hs⟩
              · cases hv0
            have hcarr : ∀ i j, W.cell? ((a.add (i * t.width)).add j) = arr[a.off + i * t.width + j]? := by
              intro i j
              rw [addr_add a hspot, cell_of_block hb]
            have hsize : a.off + cap * t.width ≤ arr.size := by
              obtain ⟨v, hv⟩ := hcell (cap - 1) (t.width - 1) (by omega) (by omega)
              rw [hcarr] at hv
              have := (Array.getElem?_eq_some_iff.1 hv).1
              have h1 : (cap - 1) * t.width + t.width = cap * t.width := by
                rw [← Nat.succ_mul]; congr 1; omega
              omega
            have hwl : ((DataW.slice (elems.map (·.1)) (rest.map (·.1))).weights P T).all (· ≤ reachBytes) = true := hw
            simp only [DataW.weights, hu, List.all_cons, Bool.and_eq_true, decide_eq_true_eq, List.length_map] at hwl
            obtain ⟨hbytes, hwe⟩ := hwl
            obtain ⟨hwe, _⟩ := all_append hwe
            have hlen : len ≤ big := by
              have h1 : (elems.length + rest.length) * 1 ≤ (elems.length + rest.length) * P.bytesOf e := Nat.mul_le_mul_left _ hby
              have : reachBytes ≤ big := by decide
              omega
            split at hec
            · rename_i agg' tys' hte
              simp only [decide_eq_true_eq] at hec
              subst hec
              -- the elements as data
              have hex : ∀ i, i < len → ∃ y : t.den, ∀ (j : Nat) (c : CV) (u : Value), (t.cells y)[j]? = some c → arr[a.off + i * t.width + j]? = some u → Rep false W u c (fun b => b < W.heap.size) ∧ CVOk c := by
                intro i hi
                obtain ⟨cs', h1, h2⟩ := helem i (by omega)
                obtain ⟨y, h3, h4⟩ := h2 hi
                obtain ⟨cvs, g1, g2, g3⟩ := ih n (by omega) e cs' y he agg' t.shape hte h3 (weightsAll_at hwe (by rw [List.getElem?_map, h4]; rfl))
                obtain ⟨z, hz⟩ := ofCells_ty g1
                refine ⟨z, fun j c u hc hu' => g3 j c u ?_ ?_⟩
                · rw [← ofCells_cells hz]; exact hc
                · obtain ⟨k1, k2⟩ := cells?_get h1
                  have hj : j < t.width := by have := (List.getElem?_eq_some_iff.1 hc).1; rwa [cells_len] at this
                  rw [← k2 j hj, hcarr]
                  exact hu'
              obtain ⟨l, hl1, hl2⟩ := build_list len _ hex
              have hvv : ∀ i j, i < l.length → j < t.width → arr[a.off + i * t.width + j]? = some ((arr[a.off + i * t.width + j]?).getD undef) := by
                intro i j hi hj
                have h1 : (i + 1) * t.width ≤ cap * t.width := Nat.mul_le_mul_right _ (by omega)
                rw [Nat.succ_mul] at h1
                have : a.off + i * t.width + j < arr.size := by omega
                simp [this]
              have hrep : Rep false W (.slice (some ⟨a.block, a.off, none⟩) l.length cap) (.s t l) (fun b => b < W.heap.size) := by
                refine .sl t l a.block a.off cap arr et fz (fun i j => (arr[a.off + i * t.width + j]?).getD undef) (fun _ _ b => b < W.heap.size) _ hb (fun h => by cases h) (by omega) (by omega) hsize ?_ (fun i j x _ _ hx => ⟨hx, fun h => by cases h⟩) (fun h => by cases h) hvv ?_
                · exact (Array.getElem?_eq_some_iff.1 hb).1
                · intro i z hz j c hc
                  have hi : i < l.length := (List.getElem?_eq_some_iff.1 hz).1
                  have hj : j < t.width := by have := (List.getElem?_eq_some_iff.1 hc).1; rwa [cells_len] at this
                  exact (hl2 i z hz j c _ hc (hvv i j hi hj)).1
              have ha : a = ⟨a.block, a.off, none⟩ := by
                obtain ⟨b, o, s⟩ := a
                simp only at hspot
                subst hspot
                rfl
              rw [hl1, ← ha] at hrep
              refine fin _ l hrep (.s t l (by omega) (fun i z hz j c hc => ?_))
              have hi : i < l.length := (List.getElem?_eq_some_iff.1 hz).1
              have hj : j < t.width := by have := (List.getElem?_eq_some_iff.1 hc).1; rwa [cells_len] at this
              exact (hl2 i z hz j c _ hc (hvv i j hi hj)).2
            · cases hec
      · cases hty
    · rename_i fs hu
      split at hty
      · rename_i l hl
        cases hty
        obtain ⟨xs, n, rfl, rfl, hcl, hxl, hfld⟩ := DataW.trod_struct hu hx
        unfold chkSt at hc2
        rw [hu, hty0] at hc2
        simp only at hc2
        have hww : (DataW.weightsEach P (fs.toList.map (·.type)) (xs.map (·.1))).all (· ≤ reachBytes) = true := by
          have : ((DataW.agg (xs.map (·.1))).weights P T).all (· ≤ reachBytes) = true := hw
          simpa only [DataW.weights, hu] using this
        have key : ∀ (gs : List Field) (ys : List (DataW H × List MemPlace)) (ls : List (List CTy)) (off : Nat), offsAre P (P.cellsOf T) gs off = true → gs.length = ys.length →
            (∀ (i : Nat) (f : Field), gs[i]? = some f → DataW.trod enc P W 0 (fun _ => true) true n f.type ((cs.drop f.offset).take (P.cellsOf f.type)) = ys[i]?) →
            optAll (fun (f : Field) => match typeCells P 3 f.type with | some x => some x.2 | none => none) gs = some ls → (DataW.weightsEach P (gs.map (·.type)) (ys.map (·.1))).all (· ≤ reachBytes) = true →
            off ≤ P.cellsOf T ∧ Opened W (cs.drop off) ls.flatten := by
          intro gs
          induction gs with
          | nil =>
            intro ys ls off ho _ _ hls _
            cases hls
            simp only [offsAre, beq_iff_eq] at ho
            subst ho
            refine ⟨Nat.le_refl _, [], rfl, by simp [hcl], fun j c u h => by simp at h⟩
          | cons f gs ihg =>
            intro ys ls off ho hlen hf hls hwt
            obtain ⟨b, ls', hb1, hb2, rfl⟩ := optAll_cons hls
            cases ys with
            | nil => simp at hlen
            | cons y ys =>
              simp only [offsAre, Bool.and_eq_true, beq_iff_eq, Nat.blt_eq] at ho
              obtain ⟨⟨ho1, ho2⟩, ho3⟩ := ho
              split at hb1
              · rename_i z hz
                cases hb1
                obtain ⟨agg', tys'⟩ := z
                have hy := hf 0 f rfl
                simp only [List.getElem?_cons_zero] at hy
                simp only [List.map_cons, DataW.weightsEach] at hwt
                obtain ⟨hw1, hw2⟩ := all_append hwt
                have h4 := typeCells_mono hz
                obtain ⟨g1, g2⟩ := ihg ys ls' (off + P.cellsOf f.type) ho3 (by simpa using hlen) (fun i g hg => by simpa using hf (i + 1) g (by simpa using hg)) hb2 hw2
                have o1 := ih n (by omega) f.type _ y ho2 agg' tys' h4 hy hw1
                rw [ho1] at o1
                refine ⟨by omega, ?_⟩
                have e1 : cs.drop off = (cs.drop off).take (P.cellsOf f.type) ++ cs.drop (off + P.cellsOf f.type) := by
                  rw [← List.drop_drop, List.take_append_drop]
                rw [e1]
                exact Opened.append o1 g2
              · cases hb1
        have := (key fs.toList xs l 0 hc2 (by simp [hxl]) (fun i f hf => hfld i f (by simpa using hf)) hl hww).2
        simpa using this
      · cases hty
    · cases hty

end
end Go.Proofs.Ytcfnaifggdelnaa.E
