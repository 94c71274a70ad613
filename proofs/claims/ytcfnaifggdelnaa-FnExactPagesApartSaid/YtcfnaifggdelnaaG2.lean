/- What is proved here: a law's statement, from what the evaluator says of the law. -/
import Derived.Test.YtcfnaifggdelnaaG1
import Derived.Test.YtcfnaifggdelnaaC2
namespace Go.Proofs.Ytcfnaifggdelnaa.E
open Go Go.ChangeShapes Go.WideShapes Go.ChangeAt

def AV.sh : AV → Bool × List CTy
  | .one c => (false, [c.ty])
  | .agg l => (true, l.map CV.ty)

section
variable {P : Program}

theorem typeCells_arms {T : TypeId} {agg : Bool} {tys : List CTy} (h : typeCells P 4 T = some (agg, tys)) :
    (agg = true ∧ ∃ fs, P.underlying T = some (.struct fs)) ∨ (agg = false ∧ tys.length = 1 ∧ ((∃ k, P.underlying T = some (.int k)) ∨ P.underlying T = some .bool ∨ ∃ e, P.underlying T = some (.slice e))) := by
  rw [typeCells] at h
  split at h
  · rename_i k hu
    cases h
    exact .inr ⟨rfl, rfl, .inl ⟨k, hu⟩⟩
  · rename_i hu
    cases h
    exact .inr ⟨rfl, rfl, .inr (.inl hu)⟩
  · rename_i e hu
    split at h
    · cases h
      exact .inr ⟨rfl, rfl, .inr (.inr ⟨e, hu⟩)⟩
    · cases h
  · rename_i fs hu
    split at h
    · cases h
      exact .inl ⟨rfl, fs, hu⟩
    · cases h
  · cases h

theorem one_cells {W : World} {T : TypeId} {v : Value} {base : Nat} (hu : (∃ k, P.underlying T = some (.int k)) ∨ P.underlying T = some .bool ∨ ∃ e, P.underlying T = some (.slice e)) (h : Value.okWide P W .any base T v) : v.cells = #[v] := by
  cases v with
  | agg cs =>
    exfalso
    rcases hu with ⟨k, hu⟩ | hu | ⟨e, hu⟩ <;> simp [Value.okWide, hu, Cell.okWide, Cell.ok] at h
  | _ => rfl

theorem open_args (hchk : ∀ T, T < tyMax → chkTy P T = true ∧ chkSt P T = true) {H : Type} {enc : TypeId × Value → H} {W : World} {base : Nat} :
    ∀ (ts : List TypeId) (vs : List Value) (ds : List (DataW H)) (p : List MemPlace), DataW.TrodAll enc P W 0 (fun _ => true) true ts vs ds p →
      (∀ (j : Nat) (t : TypeId) (v : Value), ts[j]? = some t → vs[j]? = some v → Value.okWide P W .any base t v) → (∀ t ∈ ts, t < tyMax ∧ (typeCells P 4 t).isSome = true) →
      (DataW.weightsEach P ts ds).all (· ≤ reachBytes) = true →
      ∃ (avs : List AV) (xs : List Value), avs.map (fun a => some a.sh) = ts.map (typeCells P 4) ∧ AllRep false W (cvsOf avs) xs (fun _ b => b < W.heap.size) ∧ packV avs xs = vs ∧ ∀ c ∈ cvsOf avs, CVOk c
  | [], vs, ds, p, h, _, _, _ => by
    obtain ⟨rfl, rfl, rfl⟩ := trodAll_nil h
    exact ⟨[], [], rfl, ⟨rfl, fun i c x h => by simp [cvsOf] at h⟩, rfl, fun c h => by simp [cvsOf] at h⟩
  | T :: ts, vs, ds, p, h, hv, ht, hw => by
    obtain ⟨v, vs', d, ds', p1, q, rfl, rfl, rfl, h1, h2⟩ := trodAll_cons h
    simp only [DataW.weightsEach] at hw
    obtain ⟨hw1, hw2⟩ := all_append hw
    obtain ⟨avs, xs, g1, g2, g3, g4⟩ := open_args hchk ts vs' ds' q h2 (fun j t v h1 h2 => hv (j + 1) t v (by simpa using h1) (by simpa using h2)) (fun t h => ht t (by simp [h])) hw2
    obtain ⟨hT, hsome⟩ := ht T (by simp)
    obtain ⟨⟨agg, tys⟩, htc⟩ := Option.isSome_iff_exists.1 hsome
    obtain ⟨fuel, hf⟩ := h1
    obtain ⟨cvs, e1, e2, e3⟩ := open_cells hchk fuel T _ _ hT agg tys htc hf hw1
    have hv0 := hv 0 T v rfl rfl
    have app : ∀ a : AV, a.cvs = cvs → AllRep false W (cvsOf (a :: avs)) (v.cells.toList ++ xs) (fun _ b => b < W.heap.size) ∧ ∀ c ∈ cvsOf (a :: avs), CVOk c := by
      intro a ha
      have e : cvsOf (a :: avs) = cvs ++ cvsOf avs := by simp [cvsOf, ha]
      rw [e]
      refine ⟨AllRep.append ⟨e2, fun i c x hc hx => (e3 i c x hc hx).1⟩ g2, fun c hc => ?_⟩
      rcases List.mem_append.1 hc with hc | hc
      · obtain ⟨i, hi⟩ := List.mem_iff_getElem?.1 hc
        have hlt : i < v.cells.toList.length := by rw [e2]; exact (List.getElem?_eq_some_iff.1 hi).1
        exact (e3 i c _ hi (List.getElem?_eq_getElem hlt)).2
      · exact g4 c hc
    rcases typeCells_arms htc with ⟨rfl, fs, hu⟩ | ⟨rfl, hl1, hu⟩
    · obtain ⟨cs, rfl, _⟩ : ∃ cs, v = .agg cs ∧ True := by
        simp only [Value.okWide, hu] at hv0
        obtain ⟨cs, h, _⟩ := hv0
        exact ⟨cs, h, trivial⟩
      obtain ⟨a1, a2⟩ := app (.agg cvs) rfl
      refine ⟨.agg cvs :: avs, _, ?_, a1, ?_, a2⟩
      · rw [List.map_cons, List.map_cons, g1, htc]
        simp only [AV.sh, e1]
      · simp only [Value.cells] at e2
        simp only [packV, Value.cells, ← e2, List.take_left', List.drop_left', g3, Array.toArray_toList]
    · have hcells := one_cells hu hv0
      rw [← e1] at hl1
      obtain ⟨c, rfl⟩ : ∃ c, cvs = [c] := by
        match cvs, hl1 with
        | [c], _ => exact ⟨c, rfl⟩
      obtain ⟨a1, a2⟩ := app (.one c) rfl
      refine ⟨.one c :: avs, _, ?_, a1, ?_, a2⟩
      · rw [List.map_cons, List.map_cons, g1, htc, ← e1]
        rfl
      · rw [hcells]
        simp only [packV]
        simp [g3]

theorem trodAll_stays (hl : laidOutB P = true) {H : Type} {enc : TypeId × Value → H} {W W' : World} (hb : Go.RowKit.Below W.heap.size W W') {sp : Nat → Bool} : ∀ (ts : List TypeId) (vs : List Value) (ds : List (DataW H)) (ps : List MemPlace), (∀ t ∈ ts, P.readableRec t = true ∧ t < P.types.size) →
    DataW.TrodAll enc P W 0 (fun _ => true) true ts vs ds ps → (∀ x ∈ ps, x.block < W.heap.size ∧ sp x.block = true) → DataW.TrodAll enc P W' 0 sp true ts vs ds ps
  | [], vs, ds, ps, _, h, _ => by
    obtain ⟨rfl, rfl, rfl⟩ := trodAll_nil h
    exact rfl
  | T :: ts, vs, ds, ps, ht, h, hlt => by
    obtain ⟨v, vs', d, ds', p, q, rfl, rfl, rfl, h1, h2⟩ := trodAll_cons h
    obtain ⟨hr, hrow⟩ := ht T (by simp)
    exact ⟨p, q, WideElems.Trod_stays hl hr hrow h1 (fun x hx => hb.same (hlt x (List.mem_append_left _ hx)).1) (fun x hx => (hlt x (List.mem_append_left _ hx)).2),
      trodAll_stays hl hb ts vs' ds' q (fun t h => ht t (by simp [h])) h2 (fun x hx => hlt x (List.mem_append_right _ hx)), rfl⟩

theorem kept_of_grown {W W' : World} (h : Grown W W') (may : MemPlace → Prop) : W.keptBut W' may := by
  refine ⟨h.os, h.output, fun i hi => ?_⟩
  rw [h.keep i hi]
  cases hc : W.heap[i]? with
  | none => rfl
  | some o =>
    cases o <;> first | rfl | exact ⟨rfl, rfl, rfl, fun _ _ => rfl⟩ | exact .inr ⟨rfl, rfl⟩

/-- A law's parameters. -/
def parsOk (P : Program) (ts : List TypeId) : Bool := ts.all fun T => Nat.blt T tyMax && (typeCells P 4 T).isSome && P.readableRec T && Nat.blt T P.types.size

/-- What a law's arguments are: data of its parameters' types, numbers in their kinds. -/
def GoodP (P : Program) (ts : List TypeId) (avs : List AV) : Prop := avs.map (fun a => some a.sh) = ts.map (typeCells P 4) ∧ ∀ c ∈ cvsOf avs, CVOk c

/-- The law answers true of all data. -/
def AnswersP (P : Program) (f : FuncId) (ts : List TypeId) : Prop :=
  ∃ run, Holds P f run ∧ ∀ avs, GoodP P ts avs → run avs = some (true, [.one (.b true)])

theorem law_contract_of (hchk : ∀ T, T < tyMax → chkTy P T = true ∧ chkSt P T = true) (hlo : laidOutB P = true) {s : ChangeSpec} {f : FuncId} {fn : Func} {B : TypeId} (hvars : s.vars = []) (hfn : ∀ (H : Type) (ds : List (DataW H)), ds.length = fn.params.toList.length → s.fn H ds = { results := [.lit (.bool true)], args := ds })
    (hpars : parsOk P fn.params.toList = true) (hres : fn.resultTypes = #[B]) (hB : P.underlying B = some .bool) (hl : AnswersP P f fn.params.toList)
    {H : Type} {enc : TypeId × Value → H} {apart fresh handsOn : Bool} (W : World) (base : Nat) (args : Array Value) (ds gs : List (DataW H)) (before : List MemPlace)
    (hval : ∀ (j : Nat) t v, fn.params[j]? = some t → args[j]? = some v → Value.okWide P W .any base t v)
    (hW : DataW.Whole enc P fn.params.toList s.vars apart W args.toList ds gs before)
    (hsz : (DataW.weightsEach P (fn.params.toList ++ s.plain.varTypes P) (ds ++ gs)).all (· ≤ reachBytes) = true) :
    Calls P f args W fun e W' => ∃ v, e = .returned v ∧ s.post enc P fn apart fresh handsOn false W args v W' := by
  have hW' := hW
  obtain ⟨p, q, hA, hV, rfl, hfz, hnd⟩ := hW
  rw [hvars] at hV
  obtain ⟨rfl, rfl⟩ := trodVars_none hV
  have hvt : s.plain.varTypes P = [] := by
    unfold DataSpec.varTypes
    show s.vars.filterMap _ = []
    rw [hvars]; rfl
  rw [hvt, List.append_nil, List.append_nil] at hsz
  unfold parsOk at hpars
  simp only [List.all_eq_true, Bool.and_eq_true, Nat.blt_eq] at hpars
  have hval' : ∀ (j : Nat) (t : TypeId) (v : Value), fn.params.toList[j]? = some t → args.toList[j]? = some v → Value.okWide P W .any base t v := by
    intro j t v h1 h2
    rw [Array.getElem?_toList] at h1 h2
    exact hval j t v h1 h2
  obtain ⟨avs, xs, g1, g2, g3, g4⟩ := open_args hchk fn.params.toList args.toList ds p hA hval' (fun t ht => ⟨(hpars t ht).1.1.1, (hpars t ht).1.1.2⟩) hsz
  obtain ⟨run, hH, hrun⟩ := hl
  have hcall := hH.2 W avs xs _ g2 (hrun avs ⟨g1, g4⟩)
  have hargs : (packV avs xs).toArray = args := by rw [g3, Array.toArray_toList]
  rw [hargs] at hcall
  have hlen : ∀ (ts : List TypeId) (vs : List Value) (ds : List (DataW H)) (ps : List MemPlace), DataW.TrodAll enc P W 0 (fun _ => true) true ts vs ds ps → ds.length = ts.length := by
    intro ts
    induction ts with
    | nil => intro vs ds ps h; obtain ⟨_, rfl, _⟩ := trodAll_nil h; rfl
    | cons t ts ih =>
      intro vs ds ps h
      obtain ⟨v, vs', d, ds', p, q, rfl, rfl, rfl, _, h2⟩ := trodAll_cons h
      simp [ih vs' ds' q h2]
  refine hcall.mono ?_
  intro e W1 he
  cases e with
  | panicked c => exact he.elim
  | outgrown => exact he.elim
  | returned v =>
    obtain ⟨hg, ys, K, hrep, hv, _⟩ := he
    have hv1 : v = .bool true := by
      match ys, hrep with
      | [], h => exact absurd h.1 (by simp [cvsOf, AV.cvs])
      | [y], h =>
        have := (h.2 0 (.b true) y rfl rfl).bool_inv
        rw [hv, this]
        rfl
      | y :: z :: r, h => exact absurd h.1 (by simp [cvsOf, AV.cvs])
    subst hv1
    refine ⟨_, rfl, ds, [], p ++ [], [], p, [], hW', ?_, ?_, ?_, kept_of_grown hg _, fun h => by cases h⟩
    · rw [List.append_nil, hfn H ds (hlen _ _ _ _ hA), hres]
      exact ⟨[], [], ⟨1, by simp [DataW.trod, hB, Value.cells]⟩, rfl, rfl⟩
    · rw [List.append_nil, hfn H ds (hlen _ _ _ _ hA)]
      have hb : Go.RowKit.Below W.heap.size W W1 := ⟨hg.os, hg.tape, hg.output, hg.size, hg.keep⟩
      have hlt : ∀ x ∈ p, x.block < W.heap.size := fun x hx => by simpa using hW'.lt x (List.mem_append_left _ hx)
      exact trodAll_stays hlo hb _ _ _ _ (fun t ht => ⟨(hpars t ht).1.2, (hpars t ht).2⟩) hA (fun x hx => ⟨hlt x hx, by simpa using hlt x hx⟩)
    · rw [hvars, List.append_nil, hfn H ds (hlen _ _ _ _ hA)]
      rfl

end

theorem chk_st : (List.range tyMax).all (chkSt Try.prog) = true := by kernel_rfl
theorem laid_out : laidOutB Try.prog = true := by kernel_rfl
theorem own : ownKnob Try.prog.godebug = none := by kernel_rfl

theorem chk_both (T : TypeId) (hT : T < tyMax) : chkTy Try.prog T = true ∧ chkSt Try.prog T = true :=
  ⟨List.all_eq_true.1 chk_all T (List.mem_range.2 hT), List.all_eq_true.1 chk_st T (List.mem_range.2 hT)⟩

abbrev Good (ts : List TypeId) (avs : List AV) : Prop := GoodP Try.prog ts avs
abbrev Answers (f : FuncId) (ts : List TypeId) : Prop := AnswersP Try.prog f ts

/-- From the evaluator to the law. -/
theorem answersQ_of {ctr : FuncId → Option (List AV → Option (Bool × List AV))} {mct : FuncId → Option (CV → Int → Option (Bool × CV × Int))} {pct : FuncId → Option (List Bool × (List CV → List AV → Option (Bool × List CV × List AV)))} {tct : FuncId → Option (List Bool × Option (Nat × Nat × List (List Nat)) × (List AV → Option (Bool × List AV)))} (hctr : ∀ f run, ctr f = some run → Holds Try.prog f run) (hmct : ∀ f run, mct f = some run → HoldsI Try.prog f run) (hpct : ∀ f own run, pct f = some (own, run) → HoldsP Try.prog f own run) (htct : ∀ f own inp run, tct f = some (own, inp, run) → HoldsT Try.prog f own inp run)
    {f : FuncId} {ts : List TypeId} (hf : FnOk Try.prog f) (h : ∀ avs, Good ts avs → ∃ tms N D, evalFn (cfgQ ctr mct pct tct) tms N D f avs = some [.one (.b true)]) : Answers f ts := by
  refine ⟨fun avs => open Classical in if Good ts avs then some (true, [.one (.b true)]) else none, holds_of_eval (engQ_ok hctr hmct hpct htct) hf ?_, fun avs hg => by simp [hg]⟩
  intro avs rs _ hr
  split at hr
  · rename_i hg
    cases hr
    exact h avs hg
  · cases hr

end Go.Proofs.Ytcfnaifggdelnaa.E
