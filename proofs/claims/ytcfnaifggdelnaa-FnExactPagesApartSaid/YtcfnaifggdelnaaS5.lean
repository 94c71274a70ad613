/- What is proved here: what the evaluator says of an operation holds of the model's run of it: loads, new variables, stores to variables. -/
import Derived.Test.YtcfnaifggdelnaaS4
import Derived.Laws.Small
namespace Go.Proofs.Ytcfnaifggdelnaa.E
open Go

section
variable {C : Cfg} {w0 w : World} {S0 : BSet} {U : Nat → Prop} {st : St} {E : Env} {ts : Array Value} {sv : List (Array Value)}

theorem cells_one {v : Value} (h : v.oneCell' = true) : v.cells = #[v] := by
  cases v <;> simp_all [Value.cells, Value.oneCell']

theorem VA.one {a : At} {v : Value} (h : VA w st E a v) (hb : a ≠ .bad) : v.oneCell' = true := by
  cases a with
  | bad => exact absurd rfl hb
  | i k n => cases h; rfl
  | b x => cases h; rfl
  | sl r p => obtain ⟨⟨a, len, cap, rfl⟩, _⟩ := h; rfl
  | lp l off => obtain ⟨⟨a, rfl⟩, _⟩ := h; rfl
  | ep r p i off => obtain ⟨⟨a, rfl⟩, _⟩ := h; rfl
  | fn f caps => obtain ⟨vs, rfl, _⟩ := h; rfl
  | kp r J t => obtain ⟨⟨a, len, cap, rfl⟩, _⟩ := h; rfl

theorem opnd_nb {x : Operand} {y : TV} (h : st.opnd x = some (.v y)) : y ≠ .at .bad := by
  rintro rfl
  cases x with
  | tmp t =>
    simp only [St.opnd] at h
    split at h
    · cases h
    · rename_i hne; exact hne h
  | const v =>
    simp only [St.opnd] at h
    split at h
    · rename_i a ha
      simp only [Option.some.injEq, MV.v.injEq, TV.at.injEq] at h
      subst h
      cases v <;> simp [constV] at ha
    · cases h
  | global g => simp [St.opnd] at h
  | func f => simp [St.opnd] at h

/-- The cells of a value. -/
theorem VT.cells {x : TV} {v : Value} (h : VT w st E x v) (hb : x ≠ .at .bad) :
    v.cells.size = (tvAts x).length ∧ ∀ (j : Nat) (a : At) (u : Value), (tvAts x)[j]? = some a → v.cells[j]? = some u → u.oneCell' = true ∧ VA w st E a u := by
  rcases x with a | l
  · have h1 : v.oneCell' = true := VA.one h (fun e => hb (by rw [e]))
    rw [cells_one h1]
    refine ⟨rfl, fun j a' u ha hu => ?_⟩
    cases j with
    | zero => simp [tvAts] at ha hu; subst ha hu; exact ⟨h1, h⟩
    | succ j => simp [tvAts] at ha
  · obtain ⟨vs, rfl, h2, h3⟩ := h
    exact ⟨h2, h3⟩

theorem run_loadVar_agg {P : Program} {T : TypeId} {tys : List CTy} {b off : Nat} {arr : Array Value} {e : TypeId} {fz : Nat × Nat} (hT : TypeOk P T true tys) (hb : w.heap[b]? = some (.cells arr e fz)) (h : off + tys.length ≤ arr.size) :
    (loadVar T ⟨b, off, none⟩).run P w = .ok (.agg ((arr.toList.drop off).take tys.length).toArray) w := by
  have hl : ((arr.toList.drop off).take tys.length).length = tys.length := by simp; omega
  have := run_loadCells_list (P := P) w ⟨b, off, none⟩ ((arr.toList.drop off).take tys.length) (fun j v hv => by
    have hadd : (⟨b, off, none⟩ : Addr).add j = ⟨b, off + j, none⟩ := by unfold Addr.add; split <;> simp_all
    rw [hadd, cell_of_row w b (off + j) arr e fz hb]
    rw [List.getElem?_take] at hv
    split at hv
    · simpa [List.getElem?_drop] using hv
    · cases hv)
  rw [hl] at this
  unfold loadVar
  rw [Sem.run_bind, run_isAgg hT]
  simp [Result.andThen, run_size hT, this]

theorem run_loadVar_one {P : Program} {T : TypeId} {tys : List CTy} {b off : Nat} {arr : Array Value} {e : TypeId} {fz : Nat × Nat} {v : Value} (hT : TypeOk P T false tys) (hb : w.heap[b]? = some (.cells arr e fz)) (h : arr[off]? = some v) :
    (loadVar T ⟨b, off, none⟩).run P w = .ok v w := by
  unfold loadVar
  rw [Sem.run_bind, run_isAgg hT]
  have : w.cell? ⟨b, off, none⟩ = some v := by rw [cell_of_row w b off arr e fz hb]; exact h
  simp [this]

theorem hdrAt_snoc : ∀ (p : List (Int × Nat)) {t t' t2 : Ty} {v : Value} {b o len cap : Nat} {i : Int} {j : Nat} {u : Value}, hdrAt w t v p = some (.slice (some ⟨b, o, none⟩) len cap) → tyAt t p = some t' →
    0 ≤ i → i.toNat < len → t'.shape[j]? = some (.s t2) → w.cell? ⟨b, o + i.toNat * t'.width + j, none⟩ = some u → hdrAt w t v (p ++ [(i, j)]) = some u
  | [], t, t', t2, v, b, o, len, cap, i, j, u, h1, h2, h3, h4, h5, h6 => by
    simp only [hdrAt, Option.some.injEq, tyAt] at h1 h2
    subst h1 h2
    simp [hdrAt, h3, h4, h5, h6]
  | (i', j') :: p, t, t', t2, v, b, o, len, cap, i, j, u, h1, h2, h3, h4, h5, h6 => by
    simp only [tyAt] at h2
    split at h2
    · rename_i t3 ht3
      cases v with
      | slice a l c =>
        cases a with
        | none => simp [hdrAt] at h1
        | some a =>
          simp only [hdrAt, ht3] at h1
          simp only [List.cons_append, hdrAt, ht3]
          split at h1
          · rename_i hi
            rw [if_pos hi]
            split at h1
            · rename_i v' hv'
              exact hdrAt_snoc p h1 h2 h3 h4 h5 h6
            · cases h1
          · cases h1
      | _ => simp [hdrAt] at h1
    · cases h2

def cvOne (r : Nat) (p : List (Int × Nat)) (i : Int) (j : Nat) : CV → At
  | .i k n => .i k n
  | .b x => .b x
  | .s _ _ => .sl r (p ++ [(i, j)])

theorem cvAt_get (r : Nat) (p : List (Int × Nat)) (i : Int) : ∀ (cs : List CV) (j k : Nat), (cvAt r p i cs j)[k]? = cs[k]?.map (cvOne r p i (j + k))
  | [], j, k => by simp [cvAt]
  | c :: cs, j, k => by
    have e : cvAt r p i (c :: cs) j = cvOne r p i j c :: cvAt r p i cs (j + 1) := by cases c <;> rfl
    rw [e]
    cases k with
    | zero => simp
    | succ k =>
      simp only [List.getElem?_cons_succ]
      rw [cvAt_get r p i cs (j + 1) k]
      congr 2
      omega

theorem cvAt_len (r : Nat) (p : List (Int × Nat)) (i : Int) : ∀ (cs : List CV) (j : Nat), (cvAt r p i cs j).length = cs.length
  | [], _ => rfl
  | c :: cs, j => by cases c <;> simp [cvAt, cvAt_len r p i cs (j + 1)]

theorem cvOne_ids {r : Nat} {p : List (Int × Nat)} {i : Int} {j : Nat} {c : CV} {n : Nat} (h : n ∈ (cvOne r p i j c).ids) : n = r := by
  cases c <;> simp [cvOne, At.ids, atIds, atLids] at h
  exact h

theorem VA.oneC {c : CV} {r : Nat} {p : List (Int × Nat)} {i : Int} {j : Nat} {v : Value} (h : VA w st E (cvOne r p i j c) v) : v.oneCell' = true :=
  h.one (by cases c <;> simp [cvOne])

theorem p_load (hC : CfgOk C) (hS : Sim w0 S0 U st E ts sv w) {o : Oper} {id : Nat} {T : TypeId} {x : Operand} {d : Dl} (ho : o.op = .load T x)
    (h : delta C st o id = some d) : PureD C U st E ts w o d := by
  have run : ∀ {v : Value} {a : Addr}, ({ tmps := ts, defers := [] } : Act).eval x = .pointer (some a) → (loadVar T a).run C.P w = .ok v w →
      (execOp ({ tmps := ts, defers := [] } : Act).eval o).run C.P w = .ok (.value v) w := by
    intro v a hx hr
    simp [execOp, ho, Instr.loadAt, hx, Instr.sureAddr, hr]
  simp only [delta, ho] at h
  split at h
  · rename_i agg tys l off hT h1
    obtain ⟨hx, hxi⟩ := at_sound hS h1
    have hTO := hC.cty T agg tys hT
    split at h
    · rename_i cs hcs
      have hxp := hx.2 cs hcs
      obtain ⟨_, vals, e, g1, g2, g3⟩ := hS.mem.loc l cs hcs
      have hids := (hS.ids.lo l cs hcs).2
      split at h
      · rename_i hagg
        cases hagg
        split at h
        · rename_i hle
          cases h
          refine pureD (run hxp (run_loadVar_agg hTO g1 (by omega))) ⟨_, rfl, by simp; omega, fun j a u ha hu => ?_⟩ ?_
          · simp only [List.getElem?_take, List.getElem?_drop] at ha
            simp only [List.getElem?_toArray, List.getElem?_take, List.getElem?_drop, Array.getElem?_toList] at hu
            split at ha
            · rename_i hj
              rw [if_pos hj] at hu
              exact g3 (off + j) a u ha hu
            · cases ha
          · intro n hn
            simp only [MV.ids, mvAts, tvAts, List.mem_flatMap] at hn
            obtain ⟨a, ha, hn⟩ := hn
            exact hids a (List.mem_of_mem_drop (List.mem_of_mem_take ha)) n hn
        · cases h
      · rename_i hagg
        have : agg = false := by simpa using hagg
        subst this
        split at h
        · rename_i a ha
          cases h
          have hlt : off < vals.size := by rw [g2]; exact (List.getElem?_eq_some_iff.1 ha).1
          have hv : vals[off]? = some vals[off] := by simp [hlt]
          exact pureD (run hxp (run_loadVar_one hTO g1 hv)) (g3 off a _ ha hv).2 (fun n hn => hids a (List.mem_of_getElem? ha) n (by rw [ids_at] at hn; exact hn))
        · cases h
    · cases h
  · rename_i agg tys r p i off hT h1
    obtain ⟨hx, hxi⟩ := at_sound hS h1
    have hTO := hC.cty T agg tys hT
    split at h
    · rename_i t l hn
      obtain ⟨R, hR, hg⟩ := node_root hn
      obtain ⟨b, o2, len, cap, t', e1, e2, e3, e4, e5⟩ := hx.2 R hR
      obtain ⟨t2, l2, S', f1, f2, f3, f4⟩ := Rep.at p (hS.mem.rep r R hR) e1
      rw [hg] at f1
      cases f1
      rw [e2] at f2
      cases f2
      have hUr : U r := hxi r (by simp [At.ids, atIds])
      cases f3 with
      | void => omega
      | sl _ _ _ _ _ arr e' fz V K _ hb hfz hlen hcap hsz hS' hsub hdis hvv hcc =>
      have hil : l[i.toNat]? = some (ix l i t.dflt) := ix_some e4
      have hrow : (i.toNat + 1) * t.width ≤ cap * t.width := Nat.mul_le_mul_right _ (by omega)
      rw [Nat.succ_mul] at hrow
      have key : ∀ (j : Nat) (c : CV) (u : Value), (t.cells (ix l i t.dflt))[j]? = some c → arr[o2 + i.toNat * t.width + j]? = some u → VA w st E (cvOne r p i j c) u := by
        intro j c u hc hu
        have hj : j < t.width := by have := (List.getElem?_eq_some_iff.1 hc).1; rw [cells_len] at this; exact this
        have hr := hcc i.toNat _ hil j c hc
        have hV := hvv i.toNat j e4 hj
        rw [hV] at hu
        cases hu
        cases c with
        | i k n => exact hr.int_inv
        | b y => exact hr.bool_inv
        | s t3 l3 =>
          obtain ⟨⟨a3, cap3, h3, _⟩, _⟩ := hr.len
          refine ⟨⟨a3, _, cap3, h3⟩, fun R' hR' => ?_⟩
          rw [hR] at hR'
          cases hR'
          exact hdrAt_snoc p e1 e2 e3 e4 (shape_at hc) (by rw [cell_of_block hb]; exact hV)
      split at h
      · rename_i hagg
        cases hagg
        split at h
        · rename_i hle
          cases h
          refine pureD (run e5 (run_loadVar_agg hTO hb (by omega))) ⟨_, rfl, ?_, fun j a u ha hu => ?_⟩ ?_
          · rw [cvAt_len]; simp [cells_len]; omega
          · rw [cvAt_get] at ha
            simp only [List.getElem?_take, List.getElem?_drop] at ha
            simp only [List.getElem?_toArray, List.getElem?_take, List.getElem?_drop, Array.getElem?_toList] at hu
            split at ha
            · rename_i hj
              rw [if_pos hj] at hu
              cases hc : (t.cells (ix l i t.dflt))[off + j]? with
              | none => rw [hc] at ha; cases ha
              | some c =>
                rw [hc] at ha
                cases ha
                have := key (off + j) c u hc (by rw [← Nat.add_assoc]; exact hu)
                exact ⟨this.oneC, this⟩
            · cases ha
          · intro n hn
            simp only [MV.ids, mvAts, tvAts, List.mem_flatMap] at hn
            obtain ⟨a, ha, hn⟩ := hn
            obtain ⟨k, hk⟩ := List.mem_iff_getElem?.1 ha
            rw [cvAt_get] at hk
            cases hc : (((t.cells (ix l i t.dflt)).drop off).take tys.length)[k]? with
            | none => rw [hc] at hk; cases hk
            | some c =>
              rw [hc] at hk
              cases hk
              rw [cvOne_ids hn]
              exact hUr
        · cases h
      · rename_i hagg
        have : agg = false := by simpa using hagg
        subst this
        split at h
        · rename_i a ha
          cases h
          have h0 : (cvAt r p i (((t.cells (ix l i t.dflt)).drop off).take 1) off)[0]? = some a := by rw [ha]; rfl
          rw [cvAt_get] at h0
          cases hc : (((t.cells (ix l i t.dflt)).drop off).take 1)[0]? with
          | none => rw [hc] at h0; cases h0
          | some c =>
            rw [hc] at h0
            simp only [Option.map_some, Option.some.injEq, Nat.add_zero] at h0
            subst h0
            have hc' : (t.cells (ix l i t.dflt))[off]? = some c := by simpa using hc
            have hj : off < t.width := by have := (List.getElem?_eq_some_iff.1 hc').1; rw [cells_len] at this; exact this
            have hV := hvv i.toNat off e4 hj
            exact pureD (run e5 (run_loadVar_one hTO hb hV)) (key off c _ hc' hV) (fun n hn => by rw [ids_at] at hn; rw [cvOne_ids hn]; exact hUr)
        · cases h
    · cases h
  · cases h

theorem s_load (hC : CfgOk C) (hS : Sim w0 S0 U st E ts sv w) {o : Oper} {id : Nat} {T : TypeId} {x : Operand} {d : Dl} (ho : o.op = .load T x)
    (h : delta C st o id = some d) : Goes C w0 S0 U st ts sv w o id (fun st => st.apply o.dst d) := (p_load (id := id) hC hS ho h).goes hS

theorem s_min (hS : Sim w0 S0 U st E ts sv w) {o : Oper} {id : Nat} {x y : Operand} {a b : Int} {c : Call} (ho : o.op = .call c) (hb : c.callee = .builtin .min) (ha : c.args.toList = [x, y])
    (h1 : st.at x = some (.i .i64 a)) (h2 : st.at y = some (.i .i64 b)) : Goes C w0 S0 U st ts sv w o id (fun st => st.apply o.dst (.at (.i .i64 (imin a b)))) := by
  have hx := (at_sound hS h1).1
  have hy := (at_sound hS h2).1
  simp only [VA] at hx hy
  have ha' : c.args = #[x, y] := by rw [← ha]
  refine goes_pure hS (v := .int .i64 (imin a b)) ?_ rfl (by rw [ids_at]; simp [At.ids, atIds, atLids])
  simp [execOp, ho, resolve, hb, invoke, builtin, ha', hx, hy, run_min_int2, imin]

theorem s_max (hS : Sim w0 S0 U st E ts sv w) {o : Oper} {id : Nat} {x y : Operand} {a b : Int} {c : Call} (ho : o.op = .call c) (hb : c.callee = .builtin .max) (ha : c.args.toList = [x, y])
    (h1 : st.at x = some (.i .i64 a)) (h2 : st.at y = some (.i .i64 b)) : Goes C w0 S0 U st ts sv w o id (fun st => st.apply o.dst (.at (.i .i64 (imax a b)))) := by
  have hx := (at_sound hS h1).1
  have hy := (at_sound hS h2).1
  simp only [VA] at hx hy
  have ha' : c.args = #[x, y] := by rw [← ha]
  refine goes_pure hS (v := .int .i64 (imax a b)) ?_ rfl (by rw [ids_at]; simp [At.ids, atIds, atLids])
  simp [execOp, ho, resolve, hb, invoke, builtin, ha', hx, hy, run_max_int2, imax]

end
end Go.Proofs.Ytcfnaifggdelnaa.E
