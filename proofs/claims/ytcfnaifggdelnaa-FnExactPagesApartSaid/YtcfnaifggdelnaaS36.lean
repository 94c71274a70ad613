/- What is proved here: an append to a slice that lies below a slice of our own, and the store that puts the longer slice where the shorter one lay. -/
import Derived.Test.YtcfnaifggdelnaaS28
import Derived.Test.YtcfnaifggdelnaaS35
namespace Go.Proofs.Ytcfnaifggdelnaa.E
open Go

section
variable {C : Cfg} {w0 w w1 : World} {S0 : BSet} {U : Nat → Prop} {st st1 st' : St} {E E1 : Env} {ts : Array Value} {sv : List (Array Value)}

/-- What is known between the append and the store. -/
def Late (w0 : World) (st : St) (E : Env) (x : App) (v : Value) (w : World) : Prop :=
  ∃ (n0 bv offv cap : Nat) (R : Root), w0.heap.size ≤ n0 ∧ (∀ q Q, st.root q = some Q → ∀ y, E.φ q y → y < n0) ∧ (∀ l cs, aget st.lo l = some cs → E.β l < n0) ∧
    v = .slice (some ⟨bv, offv, none⟩) x.l.length cap ∧ Rep true w v (.s x.t x.l) (fun y => y = bv) ∧ st.root x.r = some R ∧
    (n0 ≤ bv ∨ ∃ off1 len1 cap1, hdrAt w R.t (E.ρ x.r) x.p = some (.slice (some ⟨bv, off1, none⟩) len1 cap1))

theorem Late.states {x : App} {v : Value} (h : Late w0 st E x v w) (hr : ∀ n, st'.root n = st.root n) (hl : ∀ n, aget st'.lo n = aget st.lo n) : Late w0 st' E x v w := by
  obtain ⟨n0, bv, offv, cap, R, h1, h2, h3, h4, h5, h6, h7⟩ := h
  exact ⟨n0, bv, offv, cap, R, h1, fun q Q hq => h2 q Q (by rw [← hr]; exact hq), fun l cs hq => h3 l cs (by rw [← hl]; exact hq), h4, h5, by rw [hr]; exact h6, h7⟩

theorem staleAt_nil {r : Nat} (a : At) : staleAt r [] a = a := by
  cases a <;> simp [staleAt, coarse]

theorem staleMV_nil {r : Nat} (m : MV) : staleMV r [] m = m := by
  have h : staleAt r [] = id := funext fun a => staleAt_nil a
  have hT : ∀ x, staleTV r [] x = x := fun x => by cases x <;> simp [staleTV, h]
  have hT' : staleTV r [] = id := funext hT
  cases m <;> simp [staleMV, hT, hT']

theorem live_none (h : Dead st) {n : Nat} {R : Root} (hR : st.root n = some R) : R.ep = none := by
  obtain ⟨h1, h2⟩ := root_aget hR
  rcases h2 with h2 | h2
  · exact h2
  · have := h n R _ h1 h2
    omega

theorem rep_block {v : Value} {t : Ty} {l : List t.den} {S : BSet} {b off n cap : Nat} (h : Rep true w v (.s t l) S) (hv : v = .slice (some ⟨b, off, none⟩) n cap) : b < w.heap.size ∧ S b := by
  cases h with
  | nil => cases hv
  | void _ _ _ ho => cases ho
  | sl _ _ b4 _ _ _ _ _ _ _ _ hb4 _ _ _ _ hS4 =>
    cases hv
    exact ⟨(Array.getElem?_eq_some_iff.1 hb4).1, hS4⟩

theorem low_step (hC : CfgOk C) (hS : Sim w0 S0 U st E ts sv w) (hd : Dead st) {o : Oper} {x : App} (h : apLow C st o = some (true, x)) :
    o.guard = none ∧ o.dst = some x.dst ∧ ∃ (v : Value) (w' : World), (execOp ({ tmps := ts, defers := [] } : Act).eval o).run C.P w = .ok (.value v) w' ∧
      Sim w0 S0 U (st.put o.dst (.v (.at .bad))) E (({ tmps := ts, defers := [] } : Act).put o.dst v).tmps sv w' ∧ Late w0 st E x v w' := by
  unfold apLow at h
  split at h
  · rename_i c d ho hdst hgu
    split at h
    · rename_i hcb
      split at h
      · rename_i a0 y0 T T2 hca hct
        split at h
        · rename_i hTT
          subst hTT
          split at h
          · rename_i t r a p r2 p2 hT h1 h2
            split at h
            · rename_i R cv1 cv2 hR hn1 hn2
              split at h
              · rename_i hcond
                simp only [Bool.and_eq_true, Bool.not_eq_true', beq_eq_false_iff_ne] at hcond
                obtain ⟨⟨hown, hfl⟩, hne⟩ := hcond
                split at h
                · rename_i m t2 y2 l2' hm
                  simp only [Option.some.injEq, Prod.mk.injEq] at h
                  obtain ⟨hfew, rfl⟩ := h
                  refine ⟨hgu, hdst, ?_⟩
                  obtain ⟨l1, l2, e1, e2, rfl⟩ := appendCV_some hm
                  subst e1
                  have hl2 : l2 ≠ [] := by
                    intro e
                    subst e
                    cases e2
                  rw [e2] at hn2
                  clear e2
                  generalize hp0 : a :: p = pp at h1 hn1
                  have hM := hS.mem
                  obtain ⟨hx, _⟩ := at_sound hS h1
                  obtain ⟨hy, _⟩ := at_sound hS h2
                  have hh := hx.2 R hR
                  have hrepR := hM.rep r R hR
                  rw [hown] at hrepR
                  obtain ⟨t', l0, S1, f1, f2, f3, f4, f5⟩ := Rep.focus pp hrepR hh
                  have hg1 : getP R.t R.l pp = some (.s t l1) := by
                    obtain ⟨R', hR', hg'⟩ := node_root hn1
                    rw [hR] at hR'
                    cases hR'
                    exact hg'
                  rw [hg1] at f1
                  cases f1
                  obtain ⟨R2, S2, hR2, g1, g2, g3, g4⟩ := sl_sound hS hy hn2
                  obtain ⟨v, w', bv, offv, cap, hrun, hv, hrep, hos, htp, hout, hcase⟩ := run_low hC hT hfl f3 g3.ro hl2 hfew o.type
                  have hca' : c.args = #[a0, y0] := by rw [← hca]
                  have hct' : c.argTypes = #[T2, T2] := by rw [← hct]
                  have hexec : (execOp ({ tmps := ts, defers := [] } : Act).eval o).run C.P w = .ok (.value v) w' := by
                    simp [execOp, ho, resolve, hcb, invoke, builtin, hca', hct', hrun]
                  have hβ : ∀ l cs, aget st.lo l = some cs → E.β l < w.heap.size := by
                    intro l cs h
                    obtain ⟨_, vals, e, h2, _⟩ := hM.loc l cs h
                    exact (Array.getElem?_eq_some_iff.1 h2).1
                  rcases hcase with ⟨hbv, hsz, hsame⟩ | ⟨off1, cap1, hv1, hS1b, hsz, hoth, hrep1⟩
                  · obtain ⟨hM', hT'⟩ := hM.addRoots hS.ids.mem (dro := []) (w1 := w') (E1 := E) hos htp hout (by omega) hsame (fun q Q hq => by cases hq) (fun q Q _ _ hq => by cases hq) (fun _ _ => ⟨rfl, rfl, rfl⟩)
                    refine ⟨v, w', hexec, Sim.next hS (st1 := st) hM' hT' rfl rfl (fun _ h => h) hS.ids.ro hS.ids.lo trivial (fun n hn => by simp [MV.ids, mvAts, tvAts, At.ids, atIds, atLids] at hn), ?_⟩
                    exact ⟨w.heap.size, bv, offv, cap, R, hM.size, fun q Q hq y hy => hM.rlt q Q hq y hy, hβ, hv, hrep, hR, .inl (by omega)⟩
                  · obtain ⟨m, hm1, hrm, hh1, hh2⟩ := f5 w' l1 S1 (fun z _ hnz => hoth z (fun e => hnz (e ▸ hS1b))) (fun _ h _ => h) hrep1
                    have hmR := putP_same pp hg1 m hm1
                    subst hmR
                    obtain ⟨_, _, _, _, fwp⟩ := f5 w l1 S1 (fun _ _ _ => rfl) (fun _ h _ => h) f3
                    have hhdr : ∀ q u, hdrAt w R.t (E.ρ r) q = some u → hdrAt w' R.t (E.ρ r) q = some u := by
                      intro q u hq
                      refine hh1 q u hq (fun q' he => ?_)
                      subst he
                      rw [fwp] at hq
                      exact flat_hdr hfl q' _ _ hq
                    have hsim := inplace_sim (w1 := w') (m := R.l) (js := []) (S3 := E.φ r) hS hR hown hos htp hout (by omega) (fun z hz hnz => hoth z (fun e => hnz (f4 z (e ▸ hS1b)))) (fun z hz => ⟨.inl hz, by have := hM.rlt r R hR z hz; omega⟩) (hrm.weak fun z hz => by
                      rcases hz with ⟨h, _⟩ | h
                      · exact h
                      · exact f4 z h) (fun q u hq _ => hhdr q u hq)
                    have hE : ({ E with φ := fun n => if n = r then E.φ r else E.φ n } : Env) = E := by
                      have : (fun n => if n = r then E.φ r else E.φ n) = E.φ := by
                        funext n
                        split
                        · rename_i e; rw [e]
                        · rfl
                      rw [this]
                    rw [hE] at hsim
                    have hS' : Sim w0 S0 U st E ts sv w' := by
                      refine hsim.fewer (fun t => ?_) (fun n => ?_) ?_ (fun n Q hQ => ?_) (fun n Q hQ => ?_) (fun n Q e hQ he => hM.epo n Q e hQ he)
                      · simp only [inSt, List.getElem?_map]
                        cases st.tm[t]? <;> simp [staleMV_nil]
                      · simp only [inSt]
                        rw [aget_map]
                        have : staleAt r [] = id := funext fun a => staleAt_nil a
                        cases aget st.lo n <;> simp [this]
                      · simp only [inSt]
                        have : staleMV r [] = id := funext fun a => staleMV_nil a
                        simp [this]
                      · have he := live_none hd hQ
                        obtain ⟨q1, _⟩ := root_aget hQ
                        refine root_of ?_ (.inl he)
                        simp only [inSt, aget]
                        split
                        · rename_i hb
                          simp only [beq_iff_eq] at hb
                          subst hb
                          rw [hR] at hQ
                          cases hQ
                          rfl
                        · exact q1
                      · simp only [inSt, aget]
                        split
                        · exact ⟨_, rfl⟩
                        · exact ⟨Q, hQ⟩
                    refine ⟨v, w', hexec, hS'.putV trivial (fun n hn => by simp [MV.ids, mvAts, tvAts, At.ids, atIds, atLids] at hn), ?_⟩
                    refine ⟨w.heap.size, bv, offv, cap, R, hM.size, fun q Q hq y hy => hM.rlt q Q hq y hy, hβ, hv, hrep, hR, .inr ⟨off1, l1.length, cap1, ?_⟩⟩
                    refine hhdr pp _ ?_
                    rw [hh, hv1]
                · cases h
              · cases h
            · cases h
          · cases h
        · cases h
      · cases h
    · cases h
  · cases h

theorem late_store (hC : CfgOk C) (hS : Sim w0 S0 U st E ts sv w) {o : Oper} {id : Nat} {x : App} {v : Value} {st2 : St} (hL : Late w0 st E x v w) (hv0 : ts[x.dst]? = some v) (h : lateStore C st o x = some (true, st2)) :
    o.guard = none ∧ Goes C w0 S0 U st ts sv w o id (fun _ => st2.put o.dst .und) ∧ st2.nid = st.nid := by
  unfold lateStore at h
  split at h
  · rename_i T a d ho hgu
    split at h
    · rename_i t1 r p i off hT ha
      split at h
      · rename_i R t l c hRr hn hsp
        split at h
        · rename_i hcond
          simp only [Bool.and_eq_true, decide_eq_true_eq, Nat.beq_eq_true_eq] at hcond
          obtain ⟨⟨⟨hown, hdd⟩, hrr⟩, hfit⟩ := hcond
          have hdd := Nat.eq_of_beq_eq_true hdd
          have hrr := Nat.eq_of_beq_eq_true hrr
          subst hdd hrr
          split at h
          · rename_i l' hset
            split at h
            · rename_i m hput
              simp only [Option.some.injEq, Prod.mk.injEq] at h
              obtain ⟨rfl, rfl⟩ := h
              refine ⟨hgu, ?_, rfl⟩
              have hpp := samePath_true hsp
              obtain ⟨n0, bv, offv, capv, R', hn0, hrn, hln, hve, hvrep, hR', hwhere⟩ := hL
              rw [hRr] at hR'
              cases hR'
              obtain ⟨hav, hai⟩ := at_sound hS ha
              obtain ⟨b, o2, len, cap, t1', e1, e2, e3, e4, e5⟩ := hav.2 R hRr
              have hM := hS.mem
              have hrep := hM.rep _ R hRr
              rw [hown] at hrep
              obtain ⟨t', l0, S1, f1, f2, f3, f4, f5⟩ := Rep.focus p hrep e1
              have hg1 : getP R.t R.l p = some (.s t l) := by
                obtain ⟨R', hR', hg'⟩ := node_root hn
                rw [hRr] at hR'
                cases hR'
                exact hg'
              rw [hg1] at f1
              cases f1
              rw [e2] at f2
              cases f2
              obtain ⟨_, _, _, _, fwp⟩ := f5 w l S1 (fun _ _ _ => rfl) (fun _ h _ => h) f3
              cases f3 with
              | void _ _ _ ho => cases ho
              | sl _ _ _ _ _ arr e' fz V K _ hb hfz hlen1 hcap hsz hS' hsub hdis hvv hcc =>
              have hfz' := hfz rfl
              subst hfz'
              have hRows : Rows true w t l arr o2 b V K S1 := ⟨hsub, hdis, hvv, hcc⟩
              have hone : v.oneCell' = true := by rw [hve]; rfl
              have hcells : v.cells = #[v] := cells_one hone
              have hfit' : off + [v].length ≤ t.width := by simp; omega
              have hrow : (i.toNat + 1) * t.width ≤ cap * t.width := Nat.mul_le_mul_right _ (by omega)
              rw [Nat.succ_mul] at hrow
              have hrun := run_store_at (w := w) (v := v) (off := o2 + i.toNat * t.width + off) (hC.cty T false [.s t1] hT) hb (by rw [hcells]; rfl) (by simp; omega) (by rw [hcells]; intro u hu; simp at hu; rw [hu]; exact hone)
              rw [hcells] at hrun
              have hl1 : (#[v] : Array Value).toList = [v] := rfl
              rw [hl1] at hrun
              generalize hw1 : w.setRow b (splice arr.toList (o2 + i.toNat * t.width + off) [v]).toArray = w1 at hrun
              have hb1 : w1.heap[b]? = some (.cells (splice arr.toList (o2 + i.toNat * t.width + off) [v]).toArray e' (0, 0)) := by rw [← hw1]; exact setRow_heap w b _ _ e' _ hb
              have hoth : ∀ y, y ≠ b → w1.heap[y]? = w.heap[y]? := fun y hy => by rw [← hw1]; exact setRow_other w b y _ hy
              have hrb : E.φ x.r b := f4 b hS'
              have hbn : b < n0 := hrn _ R hRr b hrb
              have hold : ∀ i' j, i' < l.length → j < t.width → ¬ Hit i.toNat off [v].length i' j → ∀ y, K i' j y → w1.heap[y]? = w.heap[y]? := fun i' j hi' hj _ y hy => hoth y ((hsub i' j y hi' hj hy).2 rfl)
              -- where the longer slice lies
              have hbv : n0 ≤ bv ∨ K i.toNat off bv := by
                rcases hwhere with h | ⟨off1, len1, cap1, h⟩
                · exact .inl h
                · right
                  rw [← hpp, fwp] at h
                  simp only [hdrAt] at h
                  rw [if_pos ⟨e3, e4⟩] at h
                  split at h
                  · rename_i t3 hsh
                    rw [cell_of_block hb, hvv i.toNat off e4 hfit] at h
                    simp only [Option.some.injEq] at h
                    obtain ⟨c, hc, hct⟩ := ty_at (x := ix l i t.dflt) hsh
                    obtain ⟨l3, rfl⟩ := cv_ty_s hct
                    have hr3 := hcc i.toNat _ (ix_some e4) off _ hc
                    rw [h] at hr3
                    cases hr3 with
                    | void _ _ _ ho => cases ho
                    | sl _ _ _ _ _ _ _ _ _ _ _ _ _ _ _ _ hS3 => exact hS3
                  · cases h
              have hbvb : bv ≠ b := by
                rcases hbv with h | h
                · omega
                · exact (hsub _ _ bv e4 hfit h).2 rfl
              have hset1 := Rep.setCells (w := w) (w1 := w1) (us := [v]) (Kn := fun _ y => y = bv) hlen1 hcap hsz hRows e4 rfl hfit' hset hb1 (fun k c u hc hu => by
                  cases k with
                  | zero =>
                    simp only [List.getElem?_cons_zero, Option.some.injEq] at hc hu
                    subst hc hu
                    exact hvrep.frame (fun y hy => hoth y (by rw [hy]; exact hbvb))
                  | succ k => simp at hc)
                hold
                (fun k y _ hy => by rw [hy]; exact hbvb)
                (fun k k' y hk hk' _ _ => by simp at hk hk'; omega)
                (fun k y i' j hk hy hi' hj hnh hy' => by
                  subst hy
                  rcases hbv with h | h
                  · have := hrn _ R hRr y (f4 y (hsub i' j y hi' hj hy').1)
                    omega
                  · have := hdis rfl _ _ _ _ y e4 hfit hi' hj h hy'
                    exact hnh ⟨this.1.symm, by omega, by simp; omega⟩)
              have hS2 : ∀ y, (y = b ∨ (∃ i' j, i' < l.length ∧ j < t.width ∧ ¬ Hit i.toNat off [v].length i' j ∧ K i' j y) ∨ ∃ k, k < [v].length ∧ y = bv) → S1 y ∨ (n0 ≤ y ∧ y = bv) := by
                intro y hy
                rcases hy with rfl | ⟨i', j, hi', hj, _, hk⟩ | ⟨k, hk, rfl⟩
                · exact .inl hS'
                · exact .inl (hsub i' j y hi' hj hk).1
                · rcases hbv with h | h
                  · exact .inr ⟨h, rfl⟩
                  · exact .inl (hsub _ _ _ e4 hfit h).1
              obtain ⟨m', hm', hrm, hh1, hh2⟩ := f5 w1 l' _ (fun y hy hny => hoth y (fun e => hny (e ▸ hS'))) (fun y hy hy' => by
                  rcases hS2 y hy with h | ⟨h, _⟩
                  · exact h
                  · have := hrn _ R hRr y hy'
                    omega) hset1
              rw [hput] at hm'
              cases hm'
              have hsz1 : w1.heap.size = w.heap.size := by rw [← hw1]; simp
              have hbvlt : bv < w.heap.size := (rep_block hvrep hve).1
              have hsim := inplace_sim0 (w1 := w1) (m := m) (js := [cols p ++ [off]]) hn0 hrn hln hS hRr hown (by rw [← hw1]; rfl) (by rw [← hw1]; rfl) (by rw [← hw1]; rfl) (by omega) (fun y _ hny => hoth y (fun e => hny (e ▸ hrb))) (fun y hy => by
                  rcases hy with ⟨hy, _⟩ | hy
                  · exact ⟨.inl hy, by have := hM.rlt _ R hRr y hy; omega⟩
                  · rcases hS2 y hy with h | ⟨h, rfl⟩
                    · exact ⟨.inl (f4 y h), by have := hM.rlt _ R hRr y (f4 y h); omega⟩
                    · exact ⟨.inr h, by omega⟩) hrm (fun q u hq hns => by
                  rcases prefix_dec p q with ⟨q', rfl⟩ | hnp
                  · rw [hh2 q']
                    rw [fwp q'] at hq
                    refine hdr_setCells (us := [v]) hcap hsz hRows hb e4 rfl hfit' hset hb1 hold q' (fun i' j q'' he k c hj hck => ?_) hoth hq
                    subst he hj
                    cases k with
                    | succ k => simp at hck
                    | zero =>
                      exfalso
                      have h9 := List.any_eq_false.1 hns (cols p ++ [off]) (by simp)
                      exact absurd (cols_prefix p i' off q'') h9
                  · exact hh1 q u hq (fun q' he => absurd ⟨q', he⟩ hnp))
              have hput2 := hsim.putV (dst := o.dst) (m := .und) (v := undef) rfl (fun n hn => by simp [MV.ids, mvAts] at hn)
              refine goes_skip (w' := w1) ?_ ⟨hput2.mem, ⟨fun n R hn => .inl (hput2.ids.ro n R hn), fun n cs hn => ⟨.inl (hput2.ids.lo n cs hn).1, fun a ha m hm => .inl ((hput2.ids.lo n cs hn).2 a ha m hm)⟩, fun m hm n hn => .inl (hput2.ids.tm m hm n hn), fun f hf m hm n hn => .inl (hput2.ids.stk f hf m hm n hn)⟩, hput2.tm, hput2.stk⟩
              have hev : ({ tmps := ts, defers := [] } : Act).eval (.tmp x.dst) = v := by simp [Act.eval, hv0]
              simp [execOp, ho, Instr.storeAt, e5, Instr.sureAddr, hev, hrun]
            · cases h
          · cases h
        · cases h
      · cases h
    · cases h
  · cases h

end
end Go.Proofs.Ytcfnaifggdelnaa.E
