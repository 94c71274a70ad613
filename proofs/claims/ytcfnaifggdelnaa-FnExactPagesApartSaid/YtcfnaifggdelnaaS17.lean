/- What is proved here: a function's code does what the evaluator says; a function's contract. -/
import Derived.Test.YtcfnaifggdelnaaS16
namespace Go.Proofs.Ytcfnaifggdelnaa.E
open Go

section
variable {C : Cfg} {w0 w w1 : World} {S0 : BSet} {U : Nat → Prop} {st st1 : St} {E E1 : Env} {ts : Array Value} {sv : List (Array Value)}

/-- A region whose order is drawn. -/
structure DrawOk (C : Cfg) : Prop where
  ok : ∀ (call : InCall), CallOk C call → ∀ (ops : Array Oper) (k : St → Option Ans) (ans : Ans) (Q : Exit → Act → World → Prop) (w0 : World) (S0 : BSet) (sv : List (Array Value)) (U0 : Nat → Prop) (nid0 : Nat) (U : Nat → Prop) (st : St) (E : Env) (ts : Array Value) (w : World),
    (∀ (U' : Nat → Prop) (st' : St) (E' : Env) (ts' : Array Value) (w' : World), Sim w0 S0 U' st' E' ts' sv w' → (∀ n, U' n → U0 n ∨ nid0 ≤ n) → nid0 ≤ st'.nid → (∀ n, st'.nid ≤ n → ¬ U' n) → k st' = some ans → Q .normal { tmps := ts', defers := [] } w') →
    Sim w0 S0 U st E ts sv w → (∀ n, U n → U0 n ∨ nid0 ≤ n) → (∀ n, st.nid ≤ n → ¬ U n) → nid0 ≤ st.nid →
    denDrawn C call ops k st = some ans →
    ∀ t, wpOps C.P ops Q (Region.schedule (C.P.follows .mixedOrders) ops t) { tmps := ts, defers := [] } { w with drawn := w.drawn + 1 }

structure EngOk (C : Cfg) : Prop where
  cfg : CfgOk C
  ctr : CtrOk C
  graft : GraftOk C
  name : NameOk C
  draw : DrawOk C

def toExit : Ex → Exit
  | .normal => .normal
  | .exit id => .exit id
  | .ret => .ret

theorem Sim.nid (hS : Sim w0 S0 U st E ts sv w) (n : Nat) : Sim w0 S0 U { st with nid := n } E ts sv w := by
  have T : Trans st E w { st with nid := n } E w (fun _ => True) := ⟨fun _ _ R h => ⟨R, h, rfl, fun _ _ h => h⟩, fun _ _ cs h => ⟨⟨cs, h⟩, rfl⟩, rfl⟩
  have hM := hS.mem
  exact ⟨⟨hM.os, hM.tape, hM.output, hM.size, hM.keep, hM.rep, hM.rlt, hM.mine, hM.apart,
    fun l cs hl => by
      obtain ⟨h1, vals, e, h2, h3, h4⟩ := hM.loc l cs hl
      exact ⟨h1, vals, e, h2, h3, fun j c u hc hu => ⟨(h4 j c u hc hu).1, VA.tr T (fun _ _ => trivial) (h4 j c u hc hu).2⟩⟩,
    hM.linj, hM.lro, hM.epo, hM.κ⟩, ⟨hS.ids.ro, hS.ids.lo, hS.ids.tm, hS.ids.stk⟩, Slots.tr T (fun _ _ _ _ => trivial) hS.tm, Stack.tr T (fun _ _ _ _ _ _ => trivial) hS.stk⟩

/-- What follows a piece of code. -/
def Conts (ans : Ans) (w0 : World) (S0 : BSet) (sv : List (Array Value)) (U0 : Nat → Prop) (nid0 : Nat) (k : Ex → St → Option Ans) (Q : Exit → Act → World → Prop) : Prop :=
  ∀ (e : Ex) (U' : Nat → Prop) (st' : St) (E' : Env) (ts' : Array Value) (w' : World), Sim w0 S0 U' st' E' ts' sv w' → (∀ n, U' n → U0 n ∨ nid0 ≤ n) → nid0 ≤ st'.nid → (∀ n, st'.nid ≤ n → ¬ U' n) → k e st' = some ans → Q (toExit e) { tmps := ts', defers := [] } w'

def Sound (C : Cfg) (tm : Nat → Option Tmpl) (N : Nat) (call : InCall) (code : Code) : Prop :=
  ∀ (k : Ex → St → Option Ans) (ans : Ans) (Q : Exit → Act → World → Prop) (w0 : World) (S0 : BSet) (sv : List (Array Value)) (U0 : Nat → Prop) (nid0 : Nat), Conts ans w0 S0 sv U0 nid0 k Q →
    ∀ (U : Nat → Prop) (st : St) (E : Env) (ts : Array Value) (w : World), Sim w0 S0 U st E ts sv w → (∀ n, U n → U0 n ∨ nid0 ≤ n) → nid0 ≤ st.nid → (∀ n, st.nid ≤ n → ¬ U n) →
      denF C tm N call code st k = some ans → code.wp C.P Q { tmps := ts, defers := [] } w

theorem sound_loop {tm : Nat → Option Tmpl} {N : Nat} {call : InCall} {body : Code} (hb : Sound C tm N call body) (id : Nat) : Sound C tm N call (.block id (.loop body)) := by
  intro k ans Q w0 S0 sv U0 nid0 hk U st E ts w hS hU hn hF h
  simp only [denF] at h
  split at h
  · cases h
  · rename_i T hT
    split at h
    · cases h
    · rename_i B0 cs hcs
      split at h
      · cases h
      · rename_i s0 hs0
        generalize hstk1 : keepStk B0 st.nid st.stk = stk1 at h
        cases hco : corrStk B0 st.nid st.stk stk1 with
        | false => rw [hco] at h; cases h
        | true =>
        rw [hco, cond_true] at h
        refine wp_block (wp_loop_rounds N ?_)
        have hsc : ∀ (w1 : World) (st1 : St) (E1 : Env), Stack w1 st1 E1 (scStk stk1) sv := fun w1 st1 E1 => by rw [← hstk1]; exact stack_sc hS.stk
        have key : ∀ (n : Nat) (s : Dat T.sig) (B : Bnd) (cs : List CV) (U1 : Nat → Prop) (st1 : St) (E1 : Env) (ts1 : Array Value) (w1 : World), Sim w0 S0 U1 st1 E1 ts1 sv w1 → T.takeB st1 = some (B, cs) → corrStk B st.nid st1.stk stk1 = true → unpack T.sig cs = some s →
            iter n (fun rec s =>
              match T.put st.nid (packs T.sig s) with
              | none => none
              | some st1 => denF C tm N call body { st1 with stk := stk1 } fun e st' => match e with
                | .normal => match T.takeB st' with
                  | none => none
                  | some (B', cs') => match unpack T.sig cs' with
                    | none => none
                    | some s' => cond (corrStk B' st.nid st'.stk stk1) (rec s') none
                | .exit id' => if id' == id then k .normal st' else k (.exit id') st'
                | .ret => k .ret st') s = some ans →
            Code.rounds C.P body (Exit.inBlock id Q) n { tmps := ts1, defers := [] } w1 := by
          intro n
          induction n with
          | zero => intro s B cs U1 st1 E1 ts1 w1 _ _ _ _ h; cases h
          | succ n ih =>
            intro s B cs U1 st1 E1 ts1 w1 hS1 htk hcor hun h
            simp only [iter] at h
            obtain ⟨st2, E2, hput, hS2, hnid⟩ := take_put hS1 htk st.nid (stk0 := stk1) hsc hcor
            rw [packs_unpack _ _ _ hun, hput] at h
            simp only at h
            rw [rounds_succ]
            refine hb _ ans _ w0 S0 sv U0 nid0 ?_ _ _ E2 ts1 w1 hS2 (fun n hn' => .inr (by omega)) (by show nid0 ≤ st2.nid; omega) (fun n hn' h => by
              have : st2.nid ≤ n := hn'
              omega) h
            intro e U' st' E' ts' w' hS' hU' hn' hF' h'
            cases e with
            | normal =>
              simp only at h'
              split at h'
              · cases h'
              · rename_i B' cs' hcs'
                split at h'
                · cases h'
                · rename_i s' hs'
                  cases hc' : corrStk B' st.nid st'.stk stk1 with
                  | false => rw [hc'] at h'; cases h'
                  | true =>
                    rw [hc', cond_true] at h'
                    exact ih s' B' cs' U' st' E' ts' w' hS' hcs' hc' hs' h'
            | exit id' =>
              simp only at h'
              simp only [toExit, Exit.then, Exit.inBlock]
              split at h'
              · rename_i he
                simp only [beq_iff_eq] at he
                rw [if_pos he]
                exact hk .normal U' st' E' ts' w' hS' hU' hn' hF' h'
              · rename_i he
                simp only [beq_iff_eq] at he
                rw [if_neg he]
                exact hk (.exit id') U' st' E' ts' w' hS' hU' hn' hF' h'
            | ret => exact hk .ret U' st' E' ts' w' hS' hU' hn' hF' h'
        exact key N s0 B0 cs U st E ts w hS hcs hco hs0 h

theorem denF_block {tm : Nat → Option Tmpl} {N : Nat} {call : InCall} {id : Nat} {body : Code} (hnl : ∀ b, body ≠ .loop b) (st : St) (k : Ex → St → Option Ans) :
    denF C tm N call (.block id body) st k = denF C tm N call body st fun e st' => match e with
      | .exit id' => if id' == id then k .normal st' else k (.exit id') st'
      | e => k e st' := by
  rw [denF]
  · rfl
  · intro b hb
    exact hnl b hb

theorem sound_block {tm : Nat → Option Tmpl} {N : Nat} {call : InCall} {body : Code} (hb : Sound C tm N call body) (hnl : ∀ b, body ≠ .loop b) (id : Nat) : Sound C tm N call (.block id body) := by
  intro k ans Q w0 S0 sv U0 nid0 hk U st E ts w hS hU hn hF h
  rw [denF_block hnl] at h
  refine wp_block (hb _ ans _ w0 S0 sv U0 nid0 ?_ U st E ts w hS hU hn hF h)
  intro e U' st' E' ts' w' hS' hU' hn' hF' h'
  cases e with
  | normal => exact hk .normal U' st' E' ts' w' hS' hU' hn' hF' h'
  | exit id' =>
    simp only at h'
    simp only [toExit, Exit.inBlock]
    split at h'
    · rename_i he
      simp only [beq_iff_eq] at he
      rw [if_pos he]
      exact hk .normal U' st' E' ts' w' hS' hU' hn' hF' h'
    · rename_i he
      simp only [beq_iff_eq] at he
      rw [if_neg he]
      exact hk (.exit id') U' st' E' ts' w' hS' hU' hn' hF' h'
  | ret => exact hk .ret U' st' E' ts' w' hS' hU' hn' hF' h'

theorem denF_sound (hO : EngOk C) {tm : Nat → Option Tmpl} {N : Nat} {call : InCall} (hcall : CallOk C call) : ∀ (code : Code), Sound C tm N call code
  | .skip => by
    intro k ans Q w0 S0 sv U0 nid0 hk U st E ts w hS hU hn hF h
    simp only [denF] at h
    exact wp_skip (hk .normal U st E ts w hS hU hn hF h)
  | .exit id => by
    intro k ans Q w0 S0 sv U0 nid0 hk U st E ts w hS hU hn hF h
    simp only [denF] at h
    exact wp_exit (hk (.exit id) U st E ts w hS hU hn hF h)
  | .ret => by
    intro k ans Q w0 S0 sv U0 nid0 hk U st E ts w hS hU hn hF h
    simp only [denF] at h
    exact wp_ret (hk .ret U st E ts w hS hU hn hF h)
  | .region id ops false => by
    intro k ans Q w0 S0 sv U0 nid0 hk U st E ts w hS hU hn hF h
    simp only [denF, forced_eq] at h
    refine wp_region (denOps_sound hO.cfg hO.ctr hO.graft hO.name hcall (base := st.nid) (V := fun n => U0 n ∨ nid0 ≤ n) (fun n hn' => .inr hn') (fun U' st' E' ts' w' hS' hU' hn' hF' h' => hk .normal U' st' E' ts' w' hS' hU' hn' hF' h')
      (List.range ops.size) U _ E ts w (hS.nid _) hU (fun n hn' => hF n (Nat.le_trans (Nat.le_add_right _ _) hn')) (fun j _ n hm => ⟨hF n (by have := hm.1; omega), .inr (by have := hm.1; omega)⟩) List.nodup_range (Nat.le_trans hn (Nat.le_add_right _ _)) (fun j hj => ?_) h)
    have := List.mem_range.1 hj
    show st.nid + 32 * j + 32 ≤ st.nid + 32 * ops.size
    omega
  | .region id ops true => by
    intro k ans Q w0 S0 sv U0 nid0 hk U st E ts w hS hU hn hF h
    simp only [denF, forced_eq] at h
    exact wp_region_draw (hO.draw.ok call hcall ops _ ans Q w0 S0 sv U0 nid0 U st E ts w (fun U' st' E' ts' w' hS' hU' hn' hF' h' => hk .normal U' st' E' ts' w' hS' hU' hn' hF' h') hS hU hF hn h)
  | .seq a b => by
    intro k ans Q w0 S0 sv U0 nid0 hk U st E ts w hS hU hn hF h
    simp only [denF] at h
    split at h
    · refine wp_seq (denF_sound hO hcall a _ ans _ w0 S0 sv U0 nid0 ?_ U st E ts w hS hU hn hF h)
      intro e U' st' E' ts' w' hS' hU' hn' hF' h'
      cases e with
      | normal => exact denF_sound hO hcall b k ans Q w0 S0 sv U0 nid0 hk U' st' E' ts' w' hS' hU' hn' hF' h'
      | exit id' => exact hk (.exit id') U' st' E' ts' w' hS' hU' hn' hF' h'
      | ret => exact hk .ret U' st' E' ts' w' hS' hU' hn' hF' h'
    · rename_i T hT
      simp only [share] at h
      generalize hstk1 : joinStk T st = stk1 at h
      have hsc : ∀ (w1 : World) (st1 : St) (E1 : Env), Stack w1 st1 E1 (scStk stk1) sv := fun w1 st1 E1 => by rw [← hstk1]; exact stack_sc hS.stk
      refine wp_seq (denF_sound hO hcall a _ ans _ w0 S0 sv U0 nid0 ?_ U st E ts w hS hU hn hF h)
      intro e U' st' E' ts' w' hS' hU' hn' hF' h'
      cases e with
      | normal =>
        simp only [joinE] at h'
        split at h'
        · cases h'
        · rename_i B cs hcs
          split at h'
          · cases h'
          · rename_i s hs
            cases hco : corrStk B st.nid st'.stk stk1 with
            | false => rw [hco] at h'; cases h'
            | true =>
              rw [hco, cond_true] at h'
              obtain ⟨st2, E2, hput, hS2, hnid⟩ := take_put hS' hcs st.nid (stk0 := stk1) hsc hco
              simp only [joinK] at h'
              rw [packs_unpack _ _ _ hs, hput] at h'
              exact denF_sound hO hcall b k ans Q w0 S0 sv U0 nid0 hk _ _ E2 ts' w' hS2 (fun n hn' => .inr (by omega)) (by show nid0 ≤ st2.nid; omega) (fun n hn' h => by
                have : st2.nid ≤ n := hn'
                omega) h'
      | exit id' => exact hk (.exit id') U' st' E' ts' w' hS' hU' hn' hF' h'
      | ret => exact hk .ret U' st' E' ts' w' hS' hU' hn' hF' h'
  | .cond c a b => by
    intro k ans Q w0 S0 sv U0 nid0 hk U st E ts w hS hU hn hF h
    simp only [denF] at h
    split at h
    · rename_i x hx
      have hv := (at_sound hS hx).1
      simp only [VA] at hv
      cases x with
      | true => exact wp_cond_true hv (denF_sound hO hcall a k ans Q w0 S0 sv U0 nid0 hk U st E ts w hS hU hn hF h)
      | false => exact wp_cond_false hv (denF_sound hO hcall b k ans Q w0 S0 sv U0 nid0 hk U st E ts w hS hU hn hF h)
    · cases h
  | .block id (.loop body) => sound_loop (denF_sound hO hcall body) id
  | .block id .skip => sound_block (denF_sound hO hcall .skip) (fun _ => Code.noConfusion) id
  | .block id (.region i o d) => sound_block (denF_sound hO hcall (.region i o d)) (fun _ => Code.noConfusion) id
  | .block id (.seq a b) => sound_block (denF_sound hO hcall (.seq a b)) (fun _ => Code.noConfusion) id
  | .block id (.cond c a b) => sound_block (denF_sound hO hcall (.cond c a b)) (fun _ => Code.noConfusion) id
  | .block id (.block i b) => sound_block (denF_sound hO hcall (.block i b)) (fun _ => Code.noConfusion) id
  | .block id (.exit i) => sound_block (denF_sound hO hcall (.exit i)) (fun _ => Code.noConfusion) id
  | .block id .ret => sound_block (denF_sound hO hcall .ret) (fun _ => Code.noConfusion) id
  | .block id (.rangeFunc f p a b) => sound_block (denF_sound hO hcall (.rangeFunc f p a b)) (fun _ => Code.noConfusion) id
  | .block id (.scope b) => sound_block (denF_sound hO hcall (.scope b)) (fun _ => Code.noConfusion) id
  | .block id (.label l) => sound_block (denF_sound hO hcall (.label l)) (fun _ => Code.noConfusion) id
  | .block id (.goto l) => sound_block (denF_sound hO hcall (.goto l)) (fun _ => Code.noConfusion) id
  | .block id (.refuse y) => sound_block (denF_sound hO hcall (.refuse y)) (fun _ => Code.noConfusion) id
  | .loop _ | .rangeFunc .. | .scope _ | .label _ | .goto _ | .refuse _ => by
    intro k ans Q w0 S0 sv U0 nid0 hk U st E ts w hS hU hn hF h
    simp [denF] at h

/-! Results. -/

def resOne (ts : Array Value) : ResultVar → Sem Value
  | .tmp t => pure (ts.getD t undef)
  | .cell a t => do loadVar t (← asAddr (ts.getD a undef))

theorem results_sound (hC : CfgOk C) (hS : Sim w0 S0 U st E ts sv w) : ∀ (l : List ResultVar) (rs : List TV), resultsOf C st l = some rs →
    ∃ vs : List Value, (l.mapM (resOne ts)).run C.P w = .ok vs w ∧ rs.length = vs.length ∧
      (∀ (k : Nat) (x : TV) (u : Value), rs[k]? = some x → vs[k]? = some u → VT w st E x u) ∧ ∀ x ∈ rs, ∀ a ∈ tvAts x, ∀ n ∈ a.ids, U n
  | [], rs, h => by
    cases h
    exact ⟨[], by simp, rfl, fun k x u h => by simp at h, fun x h => by simp at h⟩
  | .tmp t :: r, rs, h => by
    simp only [resultsOf] at h
    split at h
    · rename_i x xs hx hr
      cases h
      obtain ⟨vs, h1, h2, h3, h4⟩ := results_sound hC hS r xs hr
      have hlt : t < ts.size := by rw [hS.tm.1]; exact (List.getElem?_eq_some_iff.1 hx).1
      have hget : ts.getD t undef = ts[t] := by simp [Array.getD, hlt]
      refine ⟨ts[t] :: vs, by simp [List.mapM_cons, resOne, h1, hlt], by simp [h2], fun k y u hy hu => ?_, fun y hy a ha n hn => ?_⟩
      · cases k with
        | zero => simp at hy hu; subst hy hu; exact hS.tm.2 t _ _ hx (by simp [hlt])
        | succ k => exact h3 k y u (by simpa using hy) (by simpa using hu)
      · rcases List.mem_cons.1 hy with rfl | hy
        · exact hS.ids.tm _ (List.mem_of_getElem? hx) n (by simp only [MV.ids, mvAts, List.mem_flatMap]; exact ⟨a, ha, hn⟩)
        · exact h4 y hy a ha n hn
    · cases h
  | .cell t T :: r, rs, h => by
    simp only [resultsOf] at h
    split at h
    · rename_i l off agg tys xs hx hT hr
      obtain ⟨vs, h1, h2, h3, h4⟩ := results_sound hC hS r xs hr
      obtain ⟨hxv, _⟩ := at_sound hS hx
      have hTO := hC.cty T agg tys hT
      split at h
      · rename_i cs hcs
        have hxp := hxv.2 cs hcs
        simp only [Act.eval] at hxp
        obtain ⟨_, vals, e, g1, g2, g3⟩ := hS.mem.loc l cs hcs
        have hids := (hS.ids.lo l cs hcs).2
        split at h
        · rename_i hagg
          cases hagg
          split at h
          · rename_i hle
            cases h
            have hrun := run_loadVar_agg (P := C.P) (w := w) hTO g1 (by omega : off + tys.length ≤ vals.size)
            have hp2 : ts[t]?.getD undef = .pointer (some ⟨E.β l, off, none⟩) := by simpa using hxp
            refine ⟨_ :: vs, by simp [List.mapM_cons, resOne, h1, hp2, asAddr, hrun]; rfl, by simp [h2], fun k y u hy hu => ?_, fun y hy a ha n hn => ?_⟩
            · cases k with
              | zero =>
                simp at hy hu
                subst hy hu
                refine ⟨_, rfl, by simp; omega, fun j a u ha hu => ?_⟩
                simp only [List.getElem?_take, List.getElem?_drop] at ha
                simp only [List.getElem?_toArray, List.getElem?_take, List.getElem?_drop, Array.getElem?_toList] at hu
                split at ha
                · rename_i hj
                  rw [if_pos hj] at hu
                  exact g3 (off + j) a u ha hu
                · cases ha
              | succ k => exact h3 k y u (by simpa using hy) (by simpa using hu)
            · rcases List.mem_cons.1 hy with rfl | hy
              · exact hids a (List.mem_of_mem_drop (List.mem_of_mem_take ha)) n hn
              · exact h4 y hy a ha n hn
          · cases h
        · rename_i hagg
          have : agg = false := by simpa using hagg
          subst this
          split at h
          · rename_i a ha
            cases h
            have hlt : off < vals.size := by rw [g2]; exact (List.getElem?_eq_some_iff.1 ha).1
            have hv : vals[off]? = some vals[off] := by simp [hlt]
            have hrun := run_loadVar_one (P := C.P) (w := w) hTO g1 hv
            have hp2 : ts[t]?.getD undef = .pointer (some ⟨E.β l, off, none⟩) := by simpa using hxp
            refine ⟨vals[off] :: vs, by simp [List.mapM_cons, resOne, h1, hp2, asAddr, hrun], by simp [h2], fun k y u hy hu => ?_, fun y hy b hb n hn => ?_⟩
            · cases k with
              | zero => simp at hy hu; subst hy hu; exact (g3 off a _ ha hv).2
              | succ k => exact h3 k y u (by simpa using hy) (by simpa using hu)
            · rcases List.mem_cons.1 hy with rfl | hy
              · simp only [tvAts, List.mem_singleton] at hb
                subst hb
                exact hids _ (List.mem_of_getElem? ha) n hn
              · exact h4 y hy b hb n hn
          · cases h
      · cases h
    · cases h

theorem retV_of (vs : List Value) : (if h : vs.toArray.size = 1 then vs.toArray[0] else Value.tuple vs.toArray) = retV vs := by
  match vs with
  | [] => rfl
  | [x] => rfl
  | x :: y :: l => simp [retV]

theorem run_results (hC : CfgOk C) (hS : Sim w0 S0 U st E ts sv w) {fn : Func} {rs : List TV} (h : resultsOf C st fn.results.toList = some rs) :
    ∃ vs : List Value, (results fn ts).run C.P w = .ok (retV vs) w ∧ VM w st E (mvOf rs) (retV vs) ∧ (∀ n ∈ (mvOf rs).ids, U n) := by
  obtain ⟨vs, h1, h2, h3, h4⟩ := results_sound hC hS _ rs h
  refine ⟨vs, ?_, mvOf_vm h2 h3, fun n hn => ?_⟩
  · have e : results fn ts = (do let vs ← fn.results.mapM (resOne ts); pure (if h : vs.size = 1 then vs[0] else .tuple vs)) := by
      unfold results
      congr 1
    rw [e]
    simp only [Array.mapM_eq_mapM_toList, Sem.run_bind, Sem.run_map, h1]
    show Result.ok _ w = Result.ok _ w
    rw [← retV_of]
  · simp only [MV.ids, List.mem_flatMap] at hn
    obtain ⟨a, ha, hn⟩ := hn
    obtain ⟨x, hx, ha⟩ := mvAts_of ha
    exact h4 x hx a ha n hn

end
end Go.Proofs.Ytcfnaifggdelnaa.E
