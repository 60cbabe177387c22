/- Texts of the proof, part 12: a second reading of the lowered code, proved sound, and what the functions compute. -/
import Derived.Test.YtdcellihijlekaaP11

/- The greatest sum over placements, of the program and of the reference: contracts. -/
set_option linter.unusedSimpArgs false
set_option linter.unusedVariables false
namespace Go.Ae
theorem rowG_succ {a b : List Int} {mg si k : Nat} : gM a b ((si : Int) - 1) mg (k + 1) (rowG a b mg si) = max (gM a b ((si : Int) - 1) mg k (rowG a b mg si)) (plc a b ((si : Int) - 1) (mg + k)) := rfl
section
variable {C : Ctx}
theorem great1_spec (hC : Has C T189) {w1 w2 : AV} {a b : List Int} {o1 o2 s x : Int} {m i1 i2 : Nat} {h : Heap} (g1 : h.get i1 = some (.cells [w1, .int .i64 o1] true 0)) (g2 : h.get i2 = some (.cells [w2, .int .i64 o2] true 0)) (ha : RI h w1 a) (hb : RI h w2 b) (oa : one1 a) (ob : one1 b) (hl : a.length = b.length ∧ 1 ≤ a.length ∧ a.length ≤ 10000) (hm : m ≤ a.length) (hs : -1 ≤ s ∧ s ≤ 1) (hms : (m : Int) ≤ a.length + s) (hx : 0 ≤ x ∧ x ≤ 10000) :
    ACalls C 189 [.int .i64 x, .int .i64 (m : Nat), .int .i64 s, .ptr i1 0, .ptr i2 0] h (fun r h' => r = .int .i64 (max x (plc a b s m)) ∧ h' = h) := by
  have p1 := pf_le oa ob (m := m) (s := s) m
  have p2 := ps_le oa ob (m := m) (a.length - m)
  have pp := parts_spec (hC.sub (T' := T180) (by decide)) (o1 := o1) (o2 := o2) (h := h) ha hb oa ob hl hm hs hms
  unfold plc
  (refine calls_intro (hC.body (by decide) tab189) (Nat.le_of_ble_eq_true rfl) ?_); (show wp C _ none B189.code _ _); (simp only [B189]); simp -implicitDefEqProofs (disch := first | assumption | decide | omega | (simp only [wpD1] <;> omega) | (simp only [wpD2] <;> assumption) | solve_by_elim [HSub.refl, HSub.push, HSub.reserve] | fail) only [↓wpPre, wpPost, wpPoly, Int.reduceToNat, Int.reducePow, Int.reduceMul, Int.reduceAdd, Int.reduceSub, Int.reduceNeg, Nat.reduceAdd, Nat.reduceMul, Nat.reducePow, Int.reduceLT, Int.reduceLE, Int.reduceEq, Nat.reduceEqDiff, g1, g2]
  refine ACallsK.eq pp ?_
  generalize pf a b m s m = X at *
  generalize ps a b m (a.length - m) = Y at *
  simp -implicitDefEqProofs (disch := first | assumption | decide | omega | (simp only [wpD1] <;> omega) | (simp only [wpD2] <;> assumption) | solve_by_elim [HSub.refl, HSub.push, HSub.reserve] | fail) only [↓wpPre, wpPost, wpPoly, Int.reduceToNat, Int.reducePow, Int.reduceMul, Int.reduceAdd, Int.reduceSub, Int.reduceNeg, Nat.reduceAdd, Nat.reduceMul, Nat.reducePow, Int.reduceLT, Int.reduceLE, Int.reduceEq, Nat.reduceEqDiff, tupPP]
  rw [show (0 - X) = -X by omega, show (0 - Y) = -Y by omega]
set_option maxHeartbeats 1000000 in
theorem fold_spec (hC : Has C T187) (hP : Has C T201) (hG : Has C T189) {w1 w2 : AV} {a b : List Int} {o1 o2 : Int} {mg i1 i2 b1 b2 : Nat} {h : Heap} (g1 : h.get i1 = some (.cells [w1, .int .i64 o1] true 0)) (g2 : h.get i2 = some (.cells [w2, .int .i64 o2] true 0))
    (k1 : h.get b1 = some (.cells [.int .i64 (a.length : Nat)] true 0)) (k2 : h.get b2 = some (.cells [.int .i64 (mg : Nat)] true 0)) (ha : RI h w1 a) (hb : RI h w2 b) (oa : one1 a) (ob : one1 b) (hl : a.length = b.length ∧ 1 ≤ a.length ∧ a.length ≤ 10000) (hmg : mg ≤ 10000) :
    ACalls C 187 [.func 201 [] [.ptr b1 0, .ptr b2 0], .int .i64 0, .func 189 [] [.ptr i1 0, .ptr i2 0]] h (fun r h' => r = .int .i64 (greatI a b mg) ∧ HSub h h') := by
  have l1 := Heap.lt_of_get g1
  have l2 := Heap.lt_of_get g2
  have l3 := Heap.lt_of_get k1
  have l4 := Heap.lt_of_get k2
  (refine calls_intro (hC.body (by decide) tab187) (Nat.le_of_ble_eq_true rfl) ?_); (show wp C _ none B187.code _ _); (simp only [B187]); simp -implicitDefEqProofs (disch := first | assumption | decide | omega | (simp only [wpD1] <;> omega) | (simp only [wpD2] <;> assumption) | solve_by_elim [HSub.refl, HSub.push, HSub.reserve] | fail) only [↓wpPre, wpPost, wpPoly, Int.reduceToNat, Int.reducePow, Int.reduceMul, Int.reduceAdd, Int.reduceSub, Int.reduceNeg, Nat.reduceAdd, Nat.reduceMul, Nat.reducePow, Int.reduceLT, Int.reduceLE, Int.reduceEq, Nat.reduceEqDiff]
  refine wpRange_none (D := fun h' => ∃ R, h'.get (h.size + 3) = some (.loop R) ∧ R.state = .ready ∧ R.pend = none ∧ HSub h h' ∧ h'.get (h.size + 2) = some (.defd true) ∧ h'.get h.size = some (.cells [.int .i64 (greatI a b mg)] true 0) ∧ h.size + 4 ≤ h'.size) ?_ ?_
  · refine ACalls.hideLoop (fun R hR => ?_)
    show ACalls C 201 [.yield (h.size + 3), .ptr b1 0, .ptr b2 0] _ _
    have rs : R.state = .ready := by rw [hR]
    have rp : R.pend = none := by rw [hR]
    have rb := loop_back rs rp
    refine plac_iter hP (n := a.length) (mg := mg) ⟨hl.2.2, hmg⟩ (fun si k h' => h'.get (h.size + 3) = some (.loop R) ∧ HSub h h' ∧ h'.get (h.size + 2) = some (.defd true) ∧ h'.get (h.size + 1) = some (.cells [.func 189 [] [.ptr i1 0, .ptr i2 0]] true 0) ∧
      h'.get h.size = some (.cells [.int .i64 (gM a b ((si : Int) - 1) mg k (rowG a b mg si))] true 0) ∧ h.size + 4 ≤ h'.size) _ ?_ ?_ ?_ ?_ ?_
    · refine ⟨?_, (((HSub.push1 _ _).push _).push _).push _, ?_, ?_, ?_, ?_⟩
      · simp -implicitDefEqProofs (disch := first | assumption | decide | omega | (simp only [wpD1] <;> omega) | (simp only [wpD2] <;> assumption) | solve_by_elim [HSub.refl, HSub.push, HSub.reserve] | fail) only [↓wpPre, wpPost, wpPoly, Int.reduceToNat, Int.reducePow, Int.reduceMul, Int.reduceAdd, Int.reduceSub, Int.reduceNeg, Nat.reduceAdd, Nat.reduceMul, Nat.reducePow, Int.reduceLT, Int.reduceLE, Int.reduceEq, Nat.reduceEqDiff]
      · simp -implicitDefEqProofs (disch := first | assumption | decide | omega | (simp only [wpD1] <;> omega) | (simp only [wpD2] <;> assumption) | solve_by_elim [HSub.refl, HSub.push, HSub.reserve] | fail) only [↓wpPre, wpPost, wpPoly, Int.reduceToNat, Int.reducePow, Int.reduceMul, Int.reduceAdd, Int.reduceSub, Int.reduceNeg, Nat.reduceAdd, Nat.reduceMul, Nat.reducePow, Int.reduceLT, Int.reduceLE, Int.reduceEq, Nat.reduceEqDiff]
      · simp -implicitDefEqProofs (disch := first | assumption | decide | omega | (simp only [wpD1] <;> omega) | (simp only [wpD2] <;> assumption) | solve_by_elim [HSub.refl, HSub.push, HSub.reserve] | fail) only [↓wpPre, wpPost, wpPoly, Int.reduceToNat, Int.reducePow, Int.reduceMul, Int.reduceAdd, Int.reduceSub, Int.reduceNeg, Nat.reduceAdd, Nat.reduceMul, Nat.reducePow, Int.reduceLT, Int.reduceLE, Int.reduceEq, Nat.reduceEqDiff]
      · simp -implicitDefEqProofs (disch := first | assumption | decide | omega | (simp only [wpD1] <;> omega) | (simp only [wpD2] <;> assumption) | solve_by_elim [HSub.refl, HSub.push, HSub.reserve] | fail) only [↓wpPre, wpPost, wpPoly, Int.reduceToNat, Int.reducePow, Int.reduceMul, Int.reduceAdd, Int.reduceSub, Int.reduceNeg, Nat.reduceAdd, Nat.reduceMul, Nat.reducePow, Int.reduceLT, Int.reduceLE, Int.reduceEq, Nat.reduceEqDiff]
        rfl
      · simp -implicitDefEqProofs (disch := first | assumption | decide | omega | (simp only [wpD1] <;> omega) | (simp only [wpD2] <;> assumption) | solve_by_elim [HSub.refl, HSub.push, HSub.reserve] | fail) only [↓wpPre, wpPost, wpPoly, Int.reduceToNat, Int.reducePow, Int.reduceMul, Int.reduceAdd, Int.reduceSub, Int.reduceNeg, Nat.reduceAdd, Nat.reduceMul, Nat.reducePow, Int.reduceLT, Int.reduceLE, Int.reduceEq, Nat.reduceEqDiff]
        omega
    · rintro si k h' ⟨_, hs, _⟩
      exact ⟨(hs.get _ l3).trans k1, (hs.get _ l4).trans k2⟩
    · rintro si k h' hsi hk ⟨hlp, hsub, hd, gf, gv, hsz⟩
      have hin := cnt_in (n := a.length) (mg := mg) (s := (si : Int) - 1) (by omega) hk
      have rg := rowG_le oa ob mg si (by omega)
      have gl := gM_le oa ob (s := (si : Int) - 1) (lo := mg) k _ (by omega) rg
      have gs := rowG_succ (a := a) (b := b) (mg := mg) (si := si) (k := k)
      refine yield_intro (r := R) hlp rs (by rw [hR]; rfl) ?_
      simp only [congrArg ALoop.nt hR, congrArg ALoop.t hR, congrArg ALoop.params hR, congrArg ALoop.assign hR, congrArg ALoop.body hR]
      have hsH := fun bb => (hsub.put (i := h.size + 3) (by omega) bb)
      have gr := fun bb => great1_spec hG (s := (si : Int) - 1) (x := gM a b ((si : Int) - 1) mg k (rowG a b mg si)) (m := mg + k) (((hsH bb).get _ l1).trans g1) (((hsH bb).get _ l2).trans g2) (ha.mono (hsH bb)) (hb.mono (hsH bb)) oa ob hl hin.1 (by omega) hin.2 (by omega)
      simp -implicitDefEqProofs (disch := first | assumption | decide | omega | (simp only [wpD1] <;> omega) | (simp only [wpD2] <;> assumption) | solve_by_elim [HSub.refl, HSub.push, HSub.reserve] | fail) only [↓wpPre, wpPost, wpPoly, Int.reduceToNat, Int.reducePow, Int.reduceMul, Int.reduceAdd, Int.reduceSub, Int.reduceNeg, Nat.reduceAdd, Nat.reduceMul, Nat.reducePow, Int.reduceLT, Int.reduceLE, Int.reduceEq, Nat.reduceEqDiff, hlp, rs, gf, gv]
      refine ACallsK.eq (gr _) ?_
      simp -implicitDefEqProofs (disch := first | assumption | decide | omega | (simp only [wpD1] <;> omega) | (simp only [wpD2] <;> assumption) | solve_by_elim [HSub.refl, HSub.push, HSub.reserve] | fail) only [↓wpPre, wpPost, wpPoly, Int.reduceToNat, Int.reducePow, Int.reduceMul, Int.reduceAdd, Int.reduceSub, Int.reduceNeg, Nat.reduceAdd, Nat.reduceMul, Nat.reducePow, Int.reduceLT, Int.reduceLE, Int.reduceEq, Nat.reduceEqDiff, hlp, gv]
      exact .inl ⟨by rw [rb], (by repeat (first | exact hsub | refine HSub.put ?_ (by (try simp only [Heap.size_put, Heap.size_push, Heap.size_reserve]); omega) _ | refine HSub.push ?_ _ | refine HSub.reserve ?_ _)), hd, gf, by rw [gs], hsz⟩
    · rintro si h' hsi ⟨hlp, hsub, hd, gf, gv, hsz⟩
      exact ⟨hlp, hsub, hd, gf, gv, hsz⟩
    · rintro h' ⟨hlp, hsub, hd, gf, gv, hsz⟩
      exact ⟨R, hlp, rs, rp, hsub, hd, gv, hsz⟩
  · rintro h' ⟨R, hlp, hst, hpd, hsub, hd, gv, hsz⟩
    refine ⟨R, hlp, by rw [hst]; decide, ?_⟩
    rw [hpd]
    show blockO _ _ .normal _
    simp -implicitDefEqProofs (disch := first | assumption | decide | omega | (simp only [wpD1] <;> omega) | (simp only [wpD2] <;> assumption) | solve_by_elim [HSub.refl, HSub.push, HSub.reserve] | fail) only [↓wpPre, wpPost, wpPoly, Int.reduceToNat, Int.reducePow, Int.reduceMul, Int.reduceAdd, Int.reduceSub, Int.reduceNeg, Nat.reduceAdd, Nat.reduceMul, Nat.reducePow, Int.reduceLT, Int.reduceLE, Int.reduceEq, Nat.reduceEqDiff, hd, gv]
    exact (by repeat (first | exact hsub | refine HSub.put ?_ (by (try simp only [Heap.size_put, Heap.size_push, Heap.size_reserve]); omega) _ | refine HSub.push ?_ _ | refine HSub.reserve ?_ _))
theorem great_spec (hC : Has C T183) {w1 w2 : AV} {a b : List Int} {o1 o2 : Int} {mg : Nat} {h : Heap} (ha : RI h w1 a) (hb : RI h w2 b) (oa : one1 a) (ob : one1 b) (hl : a.length = b.length ∧ 1 ≤ a.length ∧ a.length ≤ 10000) (hmg : mg ≤ 10000) :
    ACalls C 183 [.agg [w1, .int .i64 o1], .agg [w2, .int .i64 o2], .int .i64 (mg : Nat)] h (fun r h' => r = .int .i64 (greatI a b mg) ∧ h' = h) := by
  refine ACalls.gc0 (P := fun r h' => r = .int .i64 (greatI a b mg) ∧ HSub h h') ?_ (fun r h' hp => ⟨by rw [hp.1]; trivial, hp.2, hp.1, rfl⟩)
  have hlt := ha.lt
  have c0 := ha.cells
  have o0 := ha.one
  have c1 := hb.cells
  have o1' := hb.one
  have hpl : ∀ h (n : Int), ACalls C 188 [.int .i64 n, .int .i64 (mg : Nat)] h (fun r h' => r = .func 201 [] [.ptr h.size 0, .ptr (h.size + 1) 0] ∧ h' = (h.push (.cells [.int .i64 n] true 0)).push (.cells [.int .i64 (mg : Nat)] true 0)) := by
    intro h n
    have hC' : Has C T188 := (hC.sub (T' := T188) (by decide))
    have hC := hC'
    (refine calls_intro (hC.body (by decide) tab188) (Nat.le_of_ble_eq_true rfl) ?_); (show wp C _ none B188.code _ _); (simp only [B188]); simp -implicitDefEqProofs (disch := first | assumption | decide | omega | (simp only [wpD1] <;> omega) | (simp only [wpD2] <;> assumption) | solve_by_elim [HSub.refl, HSub.push, HSub.reserve] | fail) only [↓wpPre, wpPost, wpPoly, Int.reduceToNat, Int.reducePow, Int.reduceMul, Int.reduceAdd, Int.reduceSub, Int.reduceNeg, Nat.reduceAdd, Nat.reduceMul, Nat.reducePow, Int.reduceLT, Int.reduceLE, Int.reduceEq, Nat.reduceEqDiff]
  have hsub4 : HSub h ((((h.push (.cells [w1, .int .i64 o1] true 0)).push (.cells [w2, .int .i64 o2] true 0)).push (.cells [.int .i64 (a.length : Nat)] true 0)).push (.cells [.int .i64 (mg : Nat)] true 0)) := (by repeat (first | exact HSub.refl _ | refine HSub.put ?_ (by (try simp only [Heap.size_put, Heap.size_push, Heap.size_reserve]); omega) _ | refine HSub.push ?_ _ | refine HSub.reserve ?_ _))
  have hfd := fold_spec (hC.sub (T' := T187) (by decide)) (hC.sub (T' := T201) (by decide)) (hC.sub (T' := T189) (by decide)) (i1 := h.size) (i2 := h.size + 1) (b1 := h.size + 2) (b2 := h.size + 3) (o1 := o1) (o2 := o2) (w1 := w1) (w2 := w2) (mg := mg)
    (h := (((h.push (.cells [w1, .int .i64 o1] true 0)).push (.cells [w2, .int .i64 o2] true 0)).push (.cells [.int .i64 (a.length : Nat)] true 0)).push (.cells [.int .i64 (mg : Nat)] true 0))
    (by simp -implicitDefEqProofs (disch := first | assumption | decide | omega | (simp only [wpD1] <;> omega) | (simp only [wpD2] <;> assumption) | solve_by_elim [HSub.refl, HSub.push, HSub.reserve] | fail) only [↓wpPre, wpPost, wpPoly, Int.reduceToNat, Int.reducePow, Int.reduceMul, Int.reduceAdd, Int.reduceSub, Int.reduceNeg, Nat.reduceAdd, Nat.reduceMul, Nat.reducePow, Int.reduceLT, Int.reduceLE, Int.reduceEq, Nat.reduceEqDiff]) (by simp -implicitDefEqProofs (disch := first | assumption | decide | omega | (simp only [wpD1] <;> omega) | (simp only [wpD2] <;> assumption) | solve_by_elim [HSub.refl, HSub.push, HSub.reserve] | fail) only [↓wpPre, wpPost, wpPoly, Int.reduceToNat, Int.reducePow, Int.reduceMul, Int.reduceAdd, Int.reduceSub, Int.reduceNeg, Nat.reduceAdd, Nat.reduceMul, Nat.reducePow, Int.reduceLT, Int.reduceLE, Int.reduceEq, Nat.reduceEqDiff]) (by simp -implicitDefEqProofs (disch := first | assumption | decide | omega | (simp only [wpD1] <;> omega) | (simp only [wpD2] <;> assumption) | solve_by_elim [HSub.refl, HSub.push, HSub.reserve] | fail) only [↓wpPre, wpPost, wpPoly, Int.reduceToNat, Int.reducePow, Int.reduceMul, Int.reduceAdd, Int.reduceSub, Int.reduceNeg, Nat.reduceAdd, Nat.reduceMul, Nat.reducePow, Int.reduceLT, Int.reduceLE, Int.reduceEq, Nat.reduceEqDiff]) (by simp -implicitDefEqProofs (disch := first | assumption | decide | omega | (simp only [wpD1] <;> omega) | (simp only [wpD2] <;> assumption) | solve_by_elim [HSub.refl, HSub.push, HSub.reserve] | fail) only [↓wpPre, wpPost, wpPoly, Int.reduceToNat, Int.reducePow, Int.reduceMul, Int.reduceAdd, Int.reduceSub, Int.reduceNeg, Nat.reduceAdd, Nat.reduceMul, Nat.reducePow, Int.reduceLT, Int.reduceLE, Int.reduceEq, Nat.reduceEqDiff]) (ha.mono hsub4) (hb.mono hsub4) oa ob hl hmg
  (refine calls_intro (hC.body (by decide) tab183) (Nat.le_of_ble_eq_true rfl) ?_); (show wp C _ none B183.code _ _); (simp only [B183]); simp -implicitDefEqProofs (disch := first | assumption | decide | omega | (simp only [wpD1] <;> omega) | (simp only [wpD2] <;> assumption) | solve_by_elim [HSub.refl, HSub.push, HSub.reserve] | fail) only [↓wpPre, wpPost, wpPoly, Int.reduceToNat, Int.reducePow, Int.reduceMul, Int.reduceAdd, Int.reduceSub, Int.reduceNeg, Nat.reduceAdd, Nat.reduceMul, Nat.reducePow, Int.reduceLT, Int.reduceLE, Int.reduceEq, Nat.reduceEqDiff, ha.len]
  refine ACallsK.eq (hpl _ _) ?_
  simp -implicitDefEqProofs (disch := first | assumption | decide | omega | (simp only [wpD1] <;> omega) | (simp only [wpD2] <;> assumption) | solve_by_elim [HSub.refl, HSub.push, HSub.reserve] | fail) only [↓wpPre, wpPost, wpPoly, Int.reduceToNat, Int.reducePow, Int.reduceMul, Int.reduceAdd, Int.reduceSub, Int.reduceNeg, Nat.reduceAdd, Nat.reduceMul, Nat.reducePow, Int.reduceLT, Int.reduceLE, Int.reduceEq, Nat.reduceEqDiff]
  refine ACallsK.of hfd ?_
  rintro r h' ⟨rfl, s1⟩
  simp -implicitDefEqProofs (disch := first | assumption | decide | omega | (simp only [wpD1] <;> omega) | (simp only [wpD2] <;> assumption) | solve_by_elim [HSub.refl, HSub.push, HSub.reserve] | fail) only [↓wpPre, wpPost, wpPoly, Int.reduceToNat, Int.reducePow, Int.reduceMul, Int.reduceAdd, Int.reduceSub, Int.reduceNeg, Nat.reduceAdd, Nat.reduceMul, Nat.reducePow, Int.reduceLT, Int.reduceLE, Int.reduceEq, Nat.reduceEqDiff]
  exact hsub4.trans s1
set_option maxHeartbeats 1000000 in
theorem greatR_spec (hC : Has C T184) {w1 w2 : AV} {a b : List Int} {mg : Nat} {h : Heap} (ha : RI h w1 a) (hb : RI h w2 b) (oa : one1 a) (ob : one1 b) (hl : a.length = b.length ∧ 1 ≤ a.length ∧ a.length ≤ 10000) (hmg : mg ≤ 10000) :
    ACalls C 184 [w1, w2, .int .i64 (mg : Nat), .int .i64 (mg : Nat)] h (fun r h' => r = .int .i64 (greatI a b mg) ∧ h' = h) := by
  have hlt := ha.lt
  (refine calls_intro (hC.body (by decide) tab184) (Nat.le_of_ble_eq_true rfl) ?_); (show wp C _ none B184.code _ _); (simp only [B184]); simp -implicitDefEqProofs (disch := first | assumption | decide | omega | (simp only [wpD1] <;> omega) | (simp only [wpD2] <;> assumption) | solve_by_elim [HSub.refl, HSub.push, HSub.reserve] | fail) only [↓wpPre, wpPost, wpPoly, Int.reduceToNat, Int.reducePow, Int.reduceMul, Int.reduceAdd, Int.reduceSub, Int.reduceNeg, Nat.reduceAdd, Nat.reduceMul, Nat.reducePow, Int.reduceLT, Int.reduceLE, Int.reduceEq, Nat.reduceEqDiff]
  refine wp_loopI (fun j t h' => h' = h ∧ ∃ si : Nat, t 0 = w1 ∧ t 1 = w2 ∧ t 2 = .int .i64 (mg : Nat) ∧ t 3 = .int .i64 (mg : Nat) ∧ t 9 = .int .i64 (rowG a b mg si) ∧ t 10 = .int .i64 ((si : Int) - 1) ∧ si ≤ 3 ∧ j = 3 - si) (j0 := 3)
    ⟨rfl, 0, rfl, rfl, rfl, rfl, rfl, rfl, by omega, rfl⟩ ?_
  rintro j t h' ⟨rfl, si, e0, e1, e2, e3, e9, e10, hsi, hj⟩
  simp -implicitDefEqProofs (disch := first | assumption | decide | omega | (simp only [wpD1] <;> omega) | (simp only [wpD2] <;> assumption) | solve_by_elim [HSub.refl, HSub.push, HSub.reserve] | fail) only [↓wpPre, wpPost, wpPoly, Int.reduceToNat, Int.reducePow, Int.reduceMul, Int.reduceAdd, Int.reduceSub, Int.reduceNeg, Nat.reduceAdd, Nat.reduceMul, Nat.reducePow, Int.reduceLT, Int.reduceLE, Int.reduceEq, Nat.reduceEqDiff, e10]
  refine Br.by (fun c => ?_) (fun c => ?_)
  · have hsi' : si < 3 := by omega
    have rg := rowG_le oa ob mg si (by omega)
    obtain ⟨L, hL, hL1⟩ : ∃ L : Int, L = lastM a.length mg ((si : Int) - 1) ∧ -10001 ≤ L ∧ L ≤ 10001 := ⟨_, rfl, by unfold lastM; split <;> omega, by unfold lastM; split <;> omega⟩
    by_cases cm : 0 < (mg : Int)
    · have eL : L = a.length + ((si : Int) - 1) - mg := by rw [hL]; unfold lastM; rw [if_pos cm]
      simp -implicitDefEqProofs (disch := first | assumption | decide | omega | (simp only [wpD1] <;> omega) | (simp only [wpD2] <;> assumption) | solve_by_elim [HSub.refl, HSub.push, HSub.reserve] | fail) only [↓wpPre, wpPost, wpPoly, Int.reduceToNat, Int.reducePow, Int.reduceMul, Int.reduceAdd, Int.reduceSub, Int.reduceNeg, Nat.reduceAdd, Nat.reduceMul, Nat.reducePow, Int.reduceLT, Int.reduceLE, Int.reduceEq, Nat.reduceEqDiff, e0, e2, e3, e10, ha.len]
      rw [← eL]
      refine wp_loopI (fun j t h2 => h2 = h' ∧ ∃ k : Nat, t 0 = w1 ∧ t 1 = w2 ∧ t 2 = .int .i64 (mg : Nat) ∧ t 3 = .int .i64 (mg : Nat) ∧ t 9 = .int .i64 (gM a b ((si : Int) - 1) mg k (rowG a b mg si)) ∧ t 10 = .int .i64 ((si : Int) - 1) ∧ t 11 = .int .i64 L ∧ t 12 = .int .i64 (mg + k : Nat) ∧ k ≤ cntM a.length mg ((si : Int) - 1) ∧ j = cntM a.length mg ((si : Int) - 1) - k) (j0 := cntM a.length mg ((si : Int) - 1))
        ⟨rfl, 0, e0, e1, e2, e3, e9, e10, rfl, rfl, by omega, rfl⟩ ?_
      rintro j t h2 ⟨rfl, k, e0, e1, e2, e3, e9, e10, e11, e12, hk, hj'⟩
      simp -implicitDefEqProofs (disch := first | assumption | decide | omega | (simp only [wpD1] <;> omega) | (simp only [wpD2] <;> assumption) | solve_by_elim [HSub.refl, HSub.push, HSub.reserve] | fail) only [↓wpPre, wpPost, wpPoly, Int.reduceToNat, Int.reducePow, Int.reduceMul, Int.reduceAdd, Int.reduceSub, Int.reduceNeg, Nat.reduceAdd, Nat.reduceMul, Nat.reducePow, Int.reduceLT, Int.reduceLE, Int.reduceEq, Nat.reduceEqDiff, e11, e12]
      refine Br.by (fun c2 => ?_) (fun c2 => ?_)
      · have hk' : k < cntM a.length mg ((si : Int) - 1) := (cnt_le (by omega) k).2 (by omega)
        have hin := cnt_in (by omega) hk'
        have gl := gM_le oa ob (s := (si : Int) - 1) (lo := mg) k _ (by omega) rg
        have gs := rowG_succ (a := a) (b := b) (mg := mg) (si := si) (k := k)
        have p1 := pf_le oa ob (m := (mg + k : Nat)) (s := (si : Int) - 1) (mg + k)
        have p2 := ps_le oa ob (m := mg + k) (a.length - (mg + k))
        have pp := partsR_spec (hC.sub (T' := T182) (by decide)) (s := (si : Int) - 1) (m := mg + k) (h := h2) ha hb oa ob hl hin.1 (by omega) hin.2
        have pl : plc a b ((si : Int) - 1) (mg + k) = max (pf a b (mg + k : Nat) ((si : Int) - 1) (mg + k)) (-pf a b (mg + k : Nat) ((si : Int) - 1) (mg + k)) + max (ps a b (mg + k) (a.length - (mg + k))) (-ps a b (mg + k) (a.length - (mg + k))) := rfl
        simp -implicitDefEqProofs (disch := first | assumption | decide | omega | (simp only [wpD1] <;> omega) | (simp only [wpD2] <;> assumption) | solve_by_elim [HSub.refl, HSub.push, HSub.reserve] | fail) only [↓wpPre, wpPost, wpPoly, Int.reduceToNat, Int.reducePow, Int.reduceMul, Int.reduceAdd, Int.reduceSub, Int.reduceNeg, Nat.reduceAdd, Nat.reduceMul, Nat.reducePow, Int.reduceLT, Int.reduceLE, Int.reduceEq, Nat.reduceEqDiff, e0, e1, e10, e12]
        refine ACallsK.eq pp ?_
        generalize pf a b (mg + k : Nat) ((si : Int) - 1) (mg + k) = X at *
        generalize ps a b (mg + k) (a.length - (mg + k)) = Y at *
        simp -implicitDefEqProofs (disch := first | assumption | decide | omega | (simp only [wpD1] <;> omega) | (simp only [wpD2] <;> assumption) | solve_by_elim [HSub.refl, HSub.push, HSub.reserve] | fail) only [↓wpPre, wpPost, wpPoly, Int.reduceToNat, Int.reducePow, Int.reduceMul, Int.reduceAdd, Int.reduceSub, Int.reduceNeg, Nat.reduceAdd, Nat.reduceMul, Nat.reducePow, Int.reduceLT, Int.reduceLE, Int.reduceEq, Nat.reduceEqDiff, tupPP, e9, e0, e1, e2, e3, e10, e11, e12]
        exact ⟨_, ⟨k + 1, by rw [gs, pl, Int.zero_sub, Int.zero_sub], by congr 1 <;> omega, by omega, rfl⟩, by omega⟩
      · have ek : k = cntM a.length mg ((si : Int) - 1) := by
          have := (cnt_le (n := a.length) (mg := mg) (s := (si : Int) - 1) (by omega) k).1
          omega
        subst ek
        simp -implicitDefEqProofs (disch := first | assumption | decide | omega | (simp only [wpD1] <;> omega) | (simp only [wpD2] <;> assumption) | solve_by_elim [HSub.refl, HSub.push, HSub.reserve] | fail) only [↓wpPre, wpPost, wpPoly, Int.reduceToNat, Int.reducePow, Int.reduceMul, Int.reduceAdd, Int.reduceSub, Int.reduceNeg, Nat.reduceAdd, Nat.reduceMul, Nat.reducePow, Int.reduceLT, Int.reduceLE, Int.reduceEq, Nat.reduceEqDiff, e0, e1, e2, e3, e9, e10]
        exact ⟨_, ⟨si + 1, rfl, by congr 1; omega, by omega, rfl⟩, by omega⟩
    · have eL : L = a.length + min ((si : Int) - 1) 0 := by rw [hL]; unfold lastM; rw [if_neg cm]
      simp -implicitDefEqProofs (disch := first | assumption | decide | omega | (simp only [wpD1] <;> omega) | (simp only [wpD2] <;> assumption) | solve_by_elim [HSub.refl, HSub.push, HSub.reserve] | fail) only [↓wpPre, wpPost, wpPoly, Int.reduceToNat, Int.reducePow, Int.reduceMul, Int.reduceAdd, Int.reduceSub, Int.reduceNeg, Nat.reduceAdd, Nat.reduceMul, Nat.reducePow, Int.reduceLT, Int.reduceLE, Int.reduceEq, Nat.reduceEqDiff, e0, e2, e3, e10, ha.len]
      rw [← eL]
      refine wp_loopI (fun j t h2 => h2 = h' ∧ ∃ k : Nat, t 0 = w1 ∧ t 1 = w2 ∧ t 2 = .int .i64 (mg : Nat) ∧ t 3 = .int .i64 (mg : Nat) ∧ t 9 = .int .i64 (gM a b ((si : Int) - 1) mg k (rowG a b mg si)) ∧ t 10 = .int .i64 ((si : Int) - 1) ∧ t 11 = .int .i64 L ∧ t 12 = .int .i64 (mg + k : Nat) ∧ k ≤ cntM a.length mg ((si : Int) - 1) ∧ j = cntM a.length mg ((si : Int) - 1) - k) (j0 := cntM a.length mg ((si : Int) - 1))
        ⟨rfl, 0, e0, e1, e2, e3, e9, e10, rfl, rfl, by omega, rfl⟩ ?_
      rintro j t h2 ⟨rfl, k, e0, e1, e2, e3, e9, e10, e11, e12, hk, hj'⟩
      simp -implicitDefEqProofs (disch := first | assumption | decide | omega | (simp only [wpD1] <;> omega) | (simp only [wpD2] <;> assumption) | solve_by_elim [HSub.refl, HSub.push, HSub.reserve] | fail) only [↓wpPre, wpPost, wpPoly, Int.reduceToNat, Int.reducePow, Int.reduceMul, Int.reduceAdd, Int.reduceSub, Int.reduceNeg, Nat.reduceAdd, Nat.reduceMul, Nat.reducePow, Int.reduceLT, Int.reduceLE, Int.reduceEq, Nat.reduceEqDiff, e11, e12]
      refine Br.by (fun c2 => ?_) (fun c2 => ?_)
      · have hk' : k < cntM a.length mg ((si : Int) - 1) := (cnt_le (by omega) k).2 (by omega)
        have hin := cnt_in (by omega) hk'
        have gl := gM_le oa ob (s := (si : Int) - 1) (lo := mg) k _ (by omega) rg
        have gs := rowG_succ (a := a) (b := b) (mg := mg) (si := si) (k := k)
        have p1 := pf_le oa ob (m := (mg + k : Nat)) (s := (si : Int) - 1) (mg + k)
        have p2 := ps_le oa ob (m := mg + k) (a.length - (mg + k))
        have pp := partsR_spec (hC.sub (T' := T182) (by decide)) (s := (si : Int) - 1) (m := mg + k) (h := h2) ha hb oa ob hl hin.1 (by omega) hin.2
        have pl : plc a b ((si : Int) - 1) (mg + k) = max (pf a b (mg + k : Nat) ((si : Int) - 1) (mg + k)) (-pf a b (mg + k : Nat) ((si : Int) - 1) (mg + k)) + max (ps a b (mg + k) (a.length - (mg + k))) (-ps a b (mg + k) (a.length - (mg + k))) := rfl
        simp -implicitDefEqProofs (disch := first | assumption | decide | omega | (simp only [wpD1] <;> omega) | (simp only [wpD2] <;> assumption) | solve_by_elim [HSub.refl, HSub.push, HSub.reserve] | fail) only [↓wpPre, wpPost, wpPoly, Int.reduceToNat, Int.reducePow, Int.reduceMul, Int.reduceAdd, Int.reduceSub, Int.reduceNeg, Nat.reduceAdd, Nat.reduceMul, Nat.reducePow, Int.reduceLT, Int.reduceLE, Int.reduceEq, Nat.reduceEqDiff, e0, e1, e10, e12]
        refine ACallsK.eq pp ?_
        generalize pf a b (mg + k : Nat) ((si : Int) - 1) (mg + k) = X at *
        generalize ps a b (mg + k) (a.length - (mg + k)) = Y at *
        simp -implicitDefEqProofs (disch := first | assumption | decide | omega | (simp only [wpD1] <;> omega) | (simp only [wpD2] <;> assumption) | solve_by_elim [HSub.refl, HSub.push, HSub.reserve] | fail) only [↓wpPre, wpPost, wpPoly, Int.reduceToNat, Int.reducePow, Int.reduceMul, Int.reduceAdd, Int.reduceSub, Int.reduceNeg, Nat.reduceAdd, Nat.reduceMul, Nat.reducePow, Int.reduceLT, Int.reduceLE, Int.reduceEq, Nat.reduceEqDiff, tupPP, e9, e0, e1, e2, e3, e10, e11, e12]
        exact ⟨_, ⟨k + 1, by rw [gs, pl, Int.zero_sub, Int.zero_sub], by congr 1 <;> omega, by omega, rfl⟩, by omega⟩
      · have ek : k = cntM a.length mg ((si : Int) - 1) := by
          have := (cnt_le (n := a.length) (mg := mg) (s := (si : Int) - 1) (by omega) k).1
          omega
        subst ek
        simp -implicitDefEqProofs (disch := first | assumption | decide | omega | (simp only [wpD1] <;> omega) | (simp only [wpD2] <;> assumption) | solve_by_elim [HSub.refl, HSub.push, HSub.reserve] | fail) only [↓wpPre, wpPost, wpPoly, Int.reduceToNat, Int.reducePow, Int.reduceMul, Int.reduceAdd, Int.reduceSub, Int.reduceNeg, Nat.reduceAdd, Nat.reduceMul, Nat.reducePow, Int.reduceLT, Int.reduceLE, Int.reduceEq, Nat.reduceEqDiff, e0, e1, e2, e3, e9, e10]
        exact ⟨_, ⟨si + 1, rfl, by congr 1; omega, by omega, rfl⟩, by omega⟩
  · have : si = 3 := by omega
    subst this
    simp -implicitDefEqProofs (disch := first | assumption | decide | omega | (simp only [wpD1] <;> omega) | (simp only [wpD2] <;> assumption) | solve_by_elim [HSub.refl, HSub.push, HSub.reserve] | fail) only [↓wpPre, wpPost, wpPoly, Int.reduceToNat, Int.reducePow, Int.reduceMul, Int.reduceAdd, Int.reduceSub, Int.reduceNeg, Nat.reduceAdd, Nat.reduceMul, Nat.reducePow, Int.reduceLT, Int.reduceLE, Int.reduceEq, Nat.reduceEqDiff, e9]
    rfl
end
end Go.Ae

/- Parts, Side and Cross, of the program. -/
set_option linter.unusedSimpArgs false
set_option linter.unusedVariables false
namespace Go.Ae
theorem CLs.two {h : Heap} {v : AV} {d o p q : Int} {vs : List AV} (H : CLs h v d o [p, q] vs) : ∃ w1 w2, RI h w1 (sampL d p o.toNat) ∧ RI h w2 (sampL d q o.toNat) ∧ idxA 2 v (.int .i64 0) = some (elA 2 v 0) ∧ idxA 2 v (.int .i64 1) = some (elA 2 v 1) ∧
    Ae.loadA h true 2 (elA 2 v 0) = some (.agg [w1, .int .i64 o]) ∧ Ae.loadA h true 2 (elA 2 v 1) = some (.agg [w2, .int .i64 o]) ∧ fieldAddrA 0 (elA 2 v 0) = some (elF 2 v 0 0) ∧ Ae.loadA h false 1 (elF 2 v 0 0) = some w1 := by
  obtain ⟨w1, w2, rfl⟩ : ∃ w1 w2, vs = [w1, w2] := by
    have := H.len
    match vs, this with
    | [a, b], _ => exact ⟨a, b, rfl⟩
  have l0 := H.sl.loadA (k := 0) (by simp)
  have l1 := H.sl.loadA (k := 1) (by simp)
  have lf := H.sl.loadE (k := 0) (off := 0) (by simp) (by decide)
  exact ⟨w1, w2, H.ri 0 (by simp), H.ri 1 (by simp), H.sl.idx (k := 0) (by simp), H.sl.idx (k := 1) (by simp), l0, l1, H.sl.fldE 0 0 (by simp), lf⟩
theorem CLs.one {h : Heap} {v : AV} {d o p : Int} {vs : List AV} (H : CLs h v d o [p] vs) : ∃ w1, RI h w1 (sampL d p o.toNat) ∧ idxA 2 v (.int .i64 0) = some (elA 2 v 0) ∧ Ae.loadA h true 2 (elA 2 v 0) = some (.agg [w1, .int .i64 o]) := by
  obtain ⟨w1, rfl⟩ : ∃ w1, vs = [w1] := by
    have := H.len
    match vs, this with
    | [a], _ => exact ⟨a, rfl⟩
  exact ⟨w1, H.ri 0 (by simp), H.sl.idx (k := 0) (by simp), H.sl.loadA (k := 0) (by simp)⟩
theorem sampErr_cases (d o : Int) (ps : List Int) : sampErr d o ps = 0 ∨ sampErr d o ps = 2 := by unfold sampErr; split <;> simp
theorem sampErr_ok {d o : Int} {ps : List Int} (h : sampErr d o ps = 0) : lenOk d = true ∧ (1 ≤ o ∧ o ≤ 8) ∧ ∀ p ∈ ps, codeErr d p = 0 := by
  unfold sampErr at h
  split at h
  · rename_i c
    have k := c.1
    unfold knownErr at k
    split at k
    · rename_i kk; exact ⟨kk.1, kk.2, c.2⟩
    · cases k
  · cases h
def tup3 (x y e : Int) : AV := .tuple [.int .i64 x, .int .i64 y, .int .i64 e]
def partsOk (d o p q m s : Int) : Prop := sampErr d o [p, q] = 0 ∧ (-1 ≤ s ∧ s ≤ 1) ∧ 0 ≤ m ∧ m ≤ lenN d * o + min s 0
instance (d o p q m s : Int) : Decidable (partsOk d o p q m s) := by unfold partsOk; exact inferInstance
def partsE (d o p q m s : Int) : AV := if partsOk d o p q m s then tup3 (pf (sampL d p o.toNat) (sampL d q o.toNat) m s m.toNat) (ps (sampL d p o.toNat) (sampL d q o.toNat) m.toNat ((sampL d p o.toNat).length - m.toNat)) 0 else tup3 0 0 2
def crossE (d o p q : Int) : AV := if sampErr d o [p, q] = 0 then tup2 (greatI (sampL d p o.toNat) (sampL d q o.toNat) 0) 0 else tup2 0 2
def sideE (d o p : Int) : AV := if sampErr d o [p] = 0 then tup2 (greatI (sampL d p o.toNat) (sampL d p o.toNat) o.toNat) 0 else tup2 0 2
section
variable {C : Ctx}
set_option maxHeartbeats 1000000 in
theorem Parts_spec (hC : Has C T170) {d o p q m s : Int} {h : Heap} (hd : In64 d) (ho : In64 o) (hp : In64 p) (hq : In64 q) (hm : In64 m) (hs : In64 s) :
    ACalls C 170 [.int .i64 d, .int .i64 o, .int .i64 p, .int .i64 q, .int .i64 m, .int .i64 s] h (fun r h' => r = partsE d o p q m s ∧ HSub h h') := by
  have hsd := fun (h : Heap) (i : Nat) (hg : h.get i = some (.cells [.int .i64 p, .int .i64 q] true 0)) => sampled_spec (hC.sub (T' := T142) (by decide)) (vp := .slice i 0 2 (.known 2)) (ps := [p, q]) (h := h) hd ho (RI.known hg ⟨rfl, by decide⟩ (by decide)) (by simp [hp, hq]) (by simp)
  unfold In64 at hm hs
  rcases sampErr_cases d o [p, q] with c | c
  · simp only [c] at hsd
    have ok := sampErr_ok c
    have hN := lenN_eq ok.1
    obtain ⟨k, rfl⟩ := Int.eq_ofNat_of_zero_le (show 0 ≤ o by omega)
    have ln1 := sampL_length d p k
    have ln2 := sampL_length d q k
    have sz1 : lenN d ≤ lenN d * k := Nat.le_mul_of_pos_right _ (by omega)
    have sz2 : lenN d * k ≤ 1023 * 8 := Nat.mul_le_mul (by omega) (by omega)
    have em : (lenN d : Int) * (k : Nat) = ((lenN d * k : Nat) : Int) := by omega
    by_cases c2 : (-1 ≤ s ∧ s ≤ 1) ∧ 0 ≤ m ∧ m ≤ ((lenN d * k : Nat) : Int) + min s 0
    · obtain ⟨i, rfl⟩ := Int.eq_ofNat_of_zero_le c2.2.1
      have e : partsE d (k : Nat) p q (i : Nat) s = tup3 (pf (sampL d p k) (sampL d q k) (i : Nat) s i) (ps (sampL d p k) (sampL d q k) i ((sampL d p k).length - i)) 0 := by
        have hok : partsOk d (k : Nat) p q (i : Nat) s := ⟨c, c2.1, c2.2.1, by rw [em]; exact c2.2.2⟩
        unfold partsE
        rw [if_pos hok]; rfl
      rw [e]
      (refine calls_intro (hC.body (by decide) tab170) (Nat.le_of_ble_eq_true rfl) ?_); (show wp C _ none B170.code _ _); (simp only [B170]); simp -implicitDefEqProofs (disch := first | assumption | decide | omega | (simp only [wpD1] <;> omega) | (simp only [wpD2] <;> assumption) | solve_by_elim [HSub.refl, HSub.push, HSub.reserve] | fail) only [↓wpPre, wpPost, wpPoly, Int.reduceToNat, Int.reducePow, Int.reduceMul, Int.reduceAdd, Int.reduceSub, Int.reduceNeg, Nat.reduceAdd, Nat.reduceMul, Nat.reducePow, Int.reduceLT, Int.reduceLE, Int.reduceEq, Nat.reduceEqDiff]
      refine ACallsK.of (hsd _ _ (get_push_eq rfl)) ?_
      rintro r h1 ⟨v, vs, rfl, s1, hcl⟩
      have hsub : HSub h h1 := (HSub.push1 _ _).trans s1
      have x := (hcl trivial).two
      obtain ⟨w1, w2, R1, R2, ix0, ix1, ld0, ld1, fx, lf⟩ := x
      rw [Int.toNat_natCast] at R1 R2
      have pp := parts_spec (hC.sub (T' := T180) (by decide)) (o1 := k) (o2 := k) (s := s) (m := i) (h := h1) R1 R2 (sampL_one1 _ _ _) (sampL_one1 _ _ _) (by omega) (by omega) c2.1 (by omega)
      simp -implicitDefEqProofs (disch := first | assumption | decide | omega | (simp only [wpD1] <;> omega) | (simp only [wpD2] <;> assumption) | solve_by_elim [HSub.refl, HSub.push, HSub.reserve] | fail) only [↓wpPre, wpPost, wpPoly, Int.reduceToNat, Int.reducePow, Int.reduceMul, Int.reduceAdd, Int.reduceSub, Int.reduceNeg, Nat.reduceAdd, Nat.reduceMul, Nat.reducePow, Int.reduceLT, Int.reduceLE, Int.reduceEq, Nat.reduceEqDiff, lstErr, ix0, ix1, fx, lf, R1.len, ln1, ld0, ld1]
      refine ACallsK.eq pp ?_
      simp -implicitDefEqProofs (disch := first | assumption | decide | omega | (simp only [wpD1] <;> omega) | (simp only [wpD2] <;> assumption) | solve_by_elim [HSub.refl, HSub.push, HSub.reserve] | fail) only [↓wpPre, wpPost, wpPoly, Int.reduceToNat, Int.reducePow, Int.reduceMul, Int.reduceAdd, Int.reduceSub, Int.reduceNeg, Nat.reduceAdd, Nat.reduceMul, Nat.reducePow, Int.reduceLT, Int.reduceLE, Int.reduceEq, Nat.reduceEqDiff, tupPP]
      exact ⟨rfl, hsub⟩
    · have e : partsE d (k : Nat) p q m s = tup3 0 0 2 := by
        have hok : ¬ partsOk d (k : Nat) p q m s := fun h => c2 ⟨h.2.1, h.2.2.1, by have := h.2.2.2; rw [em] at this; exact this⟩
        unfold partsE
        rw [if_neg hok]
      rw [e]
      (refine calls_intro (hC.body (by decide) tab170) (Nat.le_of_ble_eq_true rfl) ?_); (show wp C _ none B170.code _ _); (simp only [B170]); simp -implicitDefEqProofs (disch := first | assumption | decide | omega | (simp only [wpD1] <;> omega) | (simp only [wpD2] <;> assumption) | solve_by_elim [HSub.refl, HSub.push, HSub.reserve] | fail) only [↓wpPre, wpPost, wpPoly, Int.reduceToNat, Int.reducePow, Int.reduceMul, Int.reduceAdd, Int.reduceSub, Int.reduceNeg, Nat.reduceAdd, Nat.reduceMul, Nat.reducePow, Int.reduceLT, Int.reduceLE, Int.reduceEq, Nat.reduceEqDiff]
      refine ACallsK.of (hsd _ _ (get_push_eq rfl)) ?_
      rintro r h1 ⟨v, vs, rfl, s1, hcl⟩
      have hsub : HSub h h1 := (HSub.push1 _ _).trans s1
      have x := (hcl trivial).two
      obtain ⟨w1, w2, R1, R2, ix0, ix1, ld0, ld1, fx, lf⟩ := x
      rw [Int.toNat_natCast] at R1 R2
      simp -implicitDefEqProofs (disch := first | assumption | decide | omega | (simp only [wpD1] <;> omega) | (simp only [wpD2] <;> assumption) | solve_by_elim [HSub.refl, HSub.push, HSub.reserve] | fail) only [↓wpPre, wpPost, wpPoly, Int.reduceToNat, Int.reducePow, Int.reduceMul, Int.reduceAdd, Int.reduceSub, Int.reduceNeg, Nat.reduceAdd, Nat.reduceMul, Nat.reducePow, Int.reduceLT, Int.reduceLE, Int.reduceEq, Nat.reduceEqDiff, lstErr, ix0, fx, lf, R1.len, ln1]
      (repeat' (first | (refine Br.by (fun _ => ?_) (fun _ => ?_)) | (simp -implicitDefEqProofs (disch := first | assumption | decide | omega | (simp only [wpD1] <;> omega) | (simp only [wpD2] <;> assumption) | solve_by_elim [HSub.refl, HSub.push, HSub.reserve] | fail) only [↓wpPre, wpPost, wpPoly, Int.reduceToNat, Int.reducePow, Int.reduceMul, Int.reduceAdd, Int.reduceSub, Int.reduceNeg, Nat.reduceAdd, Nat.reduceMul, Nat.reducePow, Int.reduceLT, Int.reduceLE, Int.reduceEq, Nat.reduceEqDiff, ix0, fx, lf, R1.len, ln1])))
      all_goals first | exact ⟨rfl, hsub⟩ | (exfalso; omega)
  · simp only [c] at hsd
    have e : partsE d o p q m s = tup3 0 0 2 := by
      have hok : ¬ partsOk d o p q m s := fun h => by have := h.1; omega
      unfold partsE
      rw [if_neg hok]
    rw [e]
    (refine calls_intro (hC.body (by decide) tab170) (Nat.le_of_ble_eq_true rfl) ?_); (show wp C _ none B170.code _ _); (simp only [B170]); simp -implicitDefEqProofs (disch := first | assumption | decide | omega | (simp only [wpD1] <;> omega) | (simp only [wpD2] <;> assumption) | solve_by_elim [HSub.refl, HSub.push, HSub.reserve] | fail) only [↓wpPre, wpPost, wpPoly, Int.reduceToNat, Int.reducePow, Int.reduceMul, Int.reduceAdd, Int.reduceSub, Int.reduceNeg, Nat.reduceAdd, Nat.reduceMul, Nat.reducePow, Int.reduceLT, Int.reduceLE, Int.reduceEq, Nat.reduceEqDiff]
    refine ACallsK.of (hsd _ _ (get_push_eq rfl)) ?_
    rintro r h1 ⟨v, vs, rfl, s1, hcl⟩
    have hsub : HSub h h1 := (HSub.push1 _ _).trans s1
    simp -implicitDefEqProofs (disch := first | assumption | decide | omega | (simp only [wpD1] <;> omega) | (simp only [wpD2] <;> assumption) | solve_by_elim [HSub.refl, HSub.push, HSub.reserve] | fail) only [↓wpPre, wpPost, wpPoly, Int.reduceToNat, Int.reducePow, Int.reduceMul, Int.reduceAdd, Int.reduceSub, Int.reduceNeg, Nat.reduceAdd, Nat.reduceMul, Nat.reducePow, Int.reduceLT, Int.reduceLE, Int.reduceEq, Nat.reduceEqDiff, lstErr]
    exact ⟨rfl, hsub⟩
theorem Cross_spec (hC : Has C T173) {d o p q : Int} {h : Heap} (hd : In64 d) (ho : In64 o) (hp : In64 p) (hq : In64 q) :
    ACalls C 173 [.int .i64 d, .int .i64 o, .int .i64 p, .int .i64 q] h (fun r h' => r = crossE d o p q ∧ HSub h h') := by
  have hsd := fun (h : Heap) (i : Nat) (hg : h.get i = some (.cells [.int .i64 p, .int .i64 q] true 0)) => sampled_spec (hC.sub (T' := T142) (by decide)) (vp := .slice i 0 2 (.known 2)) (ps := [p, q]) (h := h) hd ho (RI.known hg ⟨rfl, by decide⟩ (by decide)) (by simp [hp, hq]) (by simp)
  unfold crossE
  rcases sampErr_cases d o [p, q] with c | c
  · simp only [c] at hsd
    rw [if_pos c]
    have ok := sampErr_ok c
    have hN := lenN_eq ok.1
    obtain ⟨k, rfl⟩ := Int.eq_ofNat_of_zero_le (show 0 ≤ o by omega)
    have ln1 := sampL_length d p k
    have ln2 := sampL_length d q k
    have sz1 : lenN d ≤ lenN d * k := Nat.le_mul_of_pos_right _ (by omega)
    have sz2 : lenN d * k ≤ 1023 * 8 := Nat.mul_le_mul (by omega) (by omega)
    rw [Int.toNat_natCast]
    (refine calls_intro (hC.body (by decide) tab173) (Nat.le_of_ble_eq_true rfl) ?_); (show wp C _ none B173.code _ _); (simp only [B173]); simp -implicitDefEqProofs (disch := first | assumption | decide | omega | (simp only [wpD1] <;> omega) | (simp only [wpD2] <;> assumption) | solve_by_elim [HSub.refl, HSub.push, HSub.reserve] | fail) only [↓wpPre, wpPost, wpPoly, Int.reduceToNat, Int.reducePow, Int.reduceMul, Int.reduceAdd, Int.reduceSub, Int.reduceNeg, Nat.reduceAdd, Nat.reduceMul, Nat.reducePow, Int.reduceLT, Int.reduceLE, Int.reduceEq, Nat.reduceEqDiff]
    refine ACallsK.of (hsd _ _ (get_push_eq rfl)) ?_
    rintro r h1 ⟨v, vs, rfl, s1, hcl⟩
    have hsub : HSub h h1 := (HSub.push1 _ _).trans s1
    have x := (hcl trivial).two
    obtain ⟨w1, w2, R1, R2, ix0, ix1, ld0, ld1, fx, lf⟩ := x
    rw [Int.toNat_natCast] at R1 R2
    have pp := great_spec (hC.sub (T' := T183) (by decide)) (o1 := k) (o2 := k) (mg := 0) (h := h1) R1 R2 (sampL_one1 _ _ _) (sampL_one1 _ _ _) (by omega) (by omega)
    simp -implicitDefEqProofs (disch := first | assumption | decide | omega | (simp only [wpD1] <;> omega) | (simp only [wpD2] <;> assumption) | solve_by_elim [HSub.refl, HSub.push, HSub.reserve] | fail) only [↓wpPre, wpPost, wpPoly, Int.reduceToNat, Int.reducePow, Int.reduceMul, Int.reduceAdd, Int.reduceSub, Int.reduceNeg, Nat.reduceAdd, Nat.reduceMul, Nat.reducePow, Int.reduceLT, Int.reduceLE, Int.reduceEq, Nat.reduceEqDiff, lstErr, ix0, ix1, ld0, ld1]
    refine ACallsK.eq pp ?_
    simp -implicitDefEqProofs (disch := first | assumption | decide | omega | (simp only [wpD1] <;> omega) | (simp only [wpD2] <;> assumption) | solve_by_elim [HSub.refl, HSub.push, HSub.reserve] | fail) only [↓wpPre, wpPost, wpPoly, Int.reduceToNat, Int.reducePow, Int.reduceMul, Int.reduceAdd, Int.reduceSub, Int.reduceNeg, Nat.reduceAdd, Nat.reduceMul, Nat.reducePow, Int.reduceLT, Int.reduceLE, Int.reduceEq, Nat.reduceEqDiff]
    exact ⟨rfl, hsub⟩
  · simp only [c] at hsd
    rw [if_neg (by omega)]
    (refine calls_intro (hC.body (by decide) tab173) (Nat.le_of_ble_eq_true rfl) ?_); (show wp C _ none B173.code _ _); (simp only [B173]); simp -implicitDefEqProofs (disch := first | assumption | decide | omega | (simp only [wpD1] <;> omega) | (simp only [wpD2] <;> assumption) | solve_by_elim [HSub.refl, HSub.push, HSub.reserve] | fail) only [↓wpPre, wpPost, wpPoly, Int.reduceToNat, Int.reducePow, Int.reduceMul, Int.reduceAdd, Int.reduceSub, Int.reduceNeg, Nat.reduceAdd, Nat.reduceMul, Nat.reducePow, Int.reduceLT, Int.reduceLE, Int.reduceEq, Nat.reduceEqDiff]
    refine ACallsK.of (hsd _ _ (get_push_eq rfl)) ?_
    rintro r h1 ⟨v, vs, rfl, s1, hcl⟩
    have hsub : HSub h h1 := (HSub.push1 _ _).trans s1
    simp -implicitDefEqProofs (disch := first | assumption | decide | omega | (simp only [wpD1] <;> omega) | (simp only [wpD2] <;> assumption) | solve_by_elim [HSub.refl, HSub.push, HSub.reserve] | fail) only [↓wpPre, wpPost, wpPoly, Int.reduceToNat, Int.reducePow, Int.reduceMul, Int.reduceAdd, Int.reduceSub, Int.reduceNeg, Nat.reduceAdd, Nat.reduceMul, Nat.reducePow, Int.reduceLT, Int.reduceLE, Int.reduceEq, Nat.reduceEqDiff, lstErr]
    exact ⟨rfl, hsub⟩
theorem Side_spec (hC : Has C T175) {d o p : Int} {h : Heap} (hd : In64 d) (ho : In64 o) (hp : In64 p) :
    ACalls C 175 [.int .i64 d, .int .i64 o, .int .i64 p] h (fun r h' => r = sideE d o p ∧ HSub h h') := by
  have hsd := fun (h : Heap) (i : Nat) (hg : h.get i = some (.cells [.int .i64 p] true 0)) => sampled_spec (hC.sub (T' := T142) (by decide)) (vp := .slice i 0 1 (.known 1)) (ps := [p]) (h := h) hd ho (RI.known hg ⟨rfl, by decide⟩ (by decide)) (by simp [hp]) (by simp)
  unfold sideE
  rcases sampErr_cases d o [p] with c | c
  · simp only [c] at hsd
    rw [if_pos c]
    have ok := sampErr_ok c
    have hN := lenN_eq ok.1
    obtain ⟨k, rfl⟩ := Int.eq_ofNat_of_zero_le (show 0 ≤ o by omega)
    have ln1 := sampL_length d p k
    have sz1 : lenN d ≤ lenN d * k := Nat.le_mul_of_pos_right _ (by omega)
    have sz2 : lenN d * k ≤ 1023 * 8 := Nat.mul_le_mul (by omega) (by omega)
    rw [Int.toNat_natCast]
    (refine calls_intro (hC.body (by decide) tab175) (Nat.le_of_ble_eq_true rfl) ?_); (show wp C _ none B175.code _ _); (simp only [B175]); simp -implicitDefEqProofs (disch := first | assumption | decide | omega | (simp only [wpD1] <;> omega) | (simp only [wpD2] <;> assumption) | solve_by_elim [HSub.refl, HSub.push, HSub.reserve] | fail) only [↓wpPre, wpPost, wpPoly, Int.reduceToNat, Int.reducePow, Int.reduceMul, Int.reduceAdd, Int.reduceSub, Int.reduceNeg, Nat.reduceAdd, Nat.reduceMul, Nat.reducePow, Int.reduceLT, Int.reduceLE, Int.reduceEq, Nat.reduceEqDiff]
    refine ACallsK.of (hsd _ _ (get_push_eq rfl)) ?_
    rintro r h1 ⟨v, vs, rfl, s1, hcl⟩
    have hsub : HSub h h1 := (HSub.push1 _ _).trans s1
    have x := (hcl trivial).one
    obtain ⟨w1, R1, ix0, ld0⟩ := x
    rw [Int.toNat_natCast] at R1
    have pp := great_spec (hC.sub (T' := T183) (by decide)) (o1 := k) (o2 := k) (mg := k) (h := h1) R1 R1 (sampL_one1 _ _ _) (sampL_one1 _ _ _) (by omega) (by omega)
    simp -implicitDefEqProofs (disch := first | assumption | decide | omega | (simp only [wpD1] <;> omega) | (simp only [wpD2] <;> assumption) | solve_by_elim [HSub.refl, HSub.push, HSub.reserve] | fail) only [↓wpPre, wpPost, wpPoly, Int.reduceToNat, Int.reducePow, Int.reduceMul, Int.reduceAdd, Int.reduceSub, Int.reduceNeg, Nat.reduceAdd, Nat.reduceMul, Nat.reducePow, Int.reduceLT, Int.reduceLE, Int.reduceEq, Nat.reduceEqDiff, lstErr, ix0, ld0]
    refine ACallsK.eq pp ?_
    simp -implicitDefEqProofs (disch := first | assumption | decide | omega | (simp only [wpD1] <;> omega) | (simp only [wpD2] <;> assumption) | solve_by_elim [HSub.refl, HSub.push, HSub.reserve] | fail) only [↓wpPre, wpPost, wpPoly, Int.reduceToNat, Int.reducePow, Int.reduceMul, Int.reduceAdd, Int.reduceSub, Int.reduceNeg, Nat.reduceAdd, Nat.reduceMul, Nat.reducePow, Int.reduceLT, Int.reduceLE, Int.reduceEq, Nat.reduceEqDiff]
    exact ⟨rfl, hsub⟩
  · simp only [c] at hsd
    rw [if_neg (by omega)]
    (refine calls_intro (hC.body (by decide) tab175) (Nat.le_of_ble_eq_true rfl) ?_); (show wp C _ none B175.code _ _); (simp only [B175]); simp -implicitDefEqProofs (disch := first | assumption | decide | omega | (simp only [wpD1] <;> omega) | (simp only [wpD2] <;> assumption) | solve_by_elim [HSub.refl, HSub.push, HSub.reserve] | fail) only [↓wpPre, wpPost, wpPoly, Int.reduceToNat, Int.reducePow, Int.reduceMul, Int.reduceAdd, Int.reduceSub, Int.reduceNeg, Nat.reduceAdd, Nat.reduceMul, Nat.reducePow, Int.reduceLT, Int.reduceLE, Int.reduceEq, Nat.reduceEqDiff]
    refine ACallsK.of (hsd _ _ (get_push_eq rfl)) ?_
    rintro r h1 ⟨v, vs, rfl, s1, hcl⟩
    have hsub : HSub h h1 := (HSub.push1 _ _).trans s1
    simp -implicitDefEqProofs (disch := first | assumption | decide | omega | (simp only [wpD1] <;> omega) | (simp only [wpD2] <;> assumption) | solve_by_elim [HSub.refl, HSub.push, HSub.reserve] | fail) only [↓wpPre, wpPost, wpPoly, Int.reduceToNat, Int.reducePow, Int.reduceMul, Int.reduceAdd, Int.reduceSub, Int.reduceNeg, Nat.reduceAdd, Nat.reduceMul, Nat.reducePow, Int.reduceLT, Int.reduceLE, Int.reduceEq, Nat.reduceEqDiff, lstErr]
    exact ⟨rfl, hsub⟩
end
end Go.Ae

/- Samples, Parts, Side and Cross, of the reference. -/
set_option linter.unusedSimpArgs false
set_option linter.unusedVariables false
namespace Go.Ae
theorem sampErr_two (d o p q : Int) : sampErr d o [p, q] = if sampErr d o [p] = 0 ∧ sampErr d o [q] = 0 then 0 else 2 := by
  unfold sampErr
  by_cases c : knownErr d o = 0 <;> by_cases c1 : codeErr d p = 0 <;> by_cases c2 : codeErr d q = 0 <;> simp [c, c1, c2]
section
variable {C : Ctx}
theorem knownR_spec (hC : Has C T179) {d o : Int} {h : Heap} (hd : In64 d) (ho : In64 o) : ACalls C 179 [.int .i64 d, .int .i64 o] h (fun r h' => r = .int .i64 (knownErr d o) ∧ h' = h) := by
  unfold In64 at ho
  by_cases c : lenOk d = true
  · have e : lenE d = tup2 (lenN d) 0 := by unfold lenE; rw [if_pos c]
    by_cases co : 1 ≤ o ∧ o ≤ 8
    · have pe : knownErr d o = 0 := by unfold knownErr; rw [if_pos ⟨c, co⟩]
      rw [pe]
      (refine calls_intro (hC.body (by decide) tab179) (Nat.le_of_ble_eq_true rfl) ?_); (show wp C _ none B179.code _ _); (simp only [B179]); simp -implicitDefEqProofs (disch := first | assumption | decide | omega | (simp only [wpD1] <;> omega) | (simp only [wpD2] <;> assumption) | solve_by_elim [HSub.refl, HSub.push, HSub.reserve] | fail) only [↓wpPre, wpPost, wpPoly, Int.reduceToNat, Int.reducePow, Int.reduceMul, Int.reduceAdd, Int.reduceSub, Int.reduceNeg, Nat.reduceAdd, Nat.reduceMul, Nat.reducePow, Int.reduceLT, Int.reduceLE, Int.reduceEq, Nat.reduceEqDiff]
      refine ACallsK.eq2 (Length08_spec (hC.sub (T' := T71) (by decide)) hd) e ?_
      simp -implicitDefEqProofs (disch := first | assumption | decide | omega | (simp only [wpD1] <;> omega) | (simp only [wpD2] <;> assumption) | solve_by_elim [HSub.refl, HSub.push, HSub.reserve] | fail) only [↓wpPre, wpPost, wpPoly, Int.reduceToNat, Int.reducePow, Int.reduceMul, Int.reduceAdd, Int.reduceSub, Int.reduceNeg, Nat.reduceAdd, Nat.reduceMul, Nat.reducePow, Int.reduceLT, Int.reduceLE, Int.reduceEq, Nat.reduceEqDiff, tup2]
    · have pe : knownErr d o = 2 := by unfold knownErr; rw [if_neg (fun h => co h.2)]
      rw [pe]
      (refine calls_intro (hC.body (by decide) tab179) (Nat.le_of_ble_eq_true rfl) ?_); (show wp C _ none B179.code _ _); (simp only [B179]); simp -implicitDefEqProofs (disch := first | assumption | decide | omega | (simp only [wpD1] <;> omega) | (simp only [wpD2] <;> assumption) | solve_by_elim [HSub.refl, HSub.push, HSub.reserve] | fail) only [↓wpPre, wpPost, wpPoly, Int.reduceToNat, Int.reducePow, Int.reduceMul, Int.reduceAdd, Int.reduceSub, Int.reduceNeg, Nat.reduceAdd, Nat.reduceMul, Nat.reducePow, Int.reduceLT, Int.reduceLE, Int.reduceEq, Nat.reduceEqDiff]
      refine ACallsK.eq2 (Length08_spec (hC.sub (T' := T71) (by decide)) hd) e ?_
      simp -implicitDefEqProofs (disch := first | assumption | decide | omega | (simp only [wpD1] <;> omega) | (simp only [wpD2] <;> assumption) | solve_by_elim [HSub.refl, HSub.push, HSub.reserve] | fail) only [↓wpPre, wpPost, wpPoly, Int.reduceToNat, Int.reducePow, Int.reduceMul, Int.reduceAdd, Int.reduceSub, Int.reduceNeg, Nat.reduceAdd, Nat.reduceMul, Nat.reducePow, Int.reduceLT, Int.reduceLE, Int.reduceEq, Nat.reduceEqDiff, tup2]
      (repeat' (first | (refine Br.by (fun _ => ?_) (fun _ => ?_)) | (simp -implicitDefEqProofs (disch := first | assumption | decide | omega | (simp only [wpD1] <;> omega) | (simp only [wpD2] <;> assumption) | solve_by_elim [HSub.refl, HSub.push, HSub.reserve] | fail) only [↓wpPre, wpPost, wpPoly, Int.reduceToNat, Int.reducePow, Int.reduceMul, Int.reduceAdd, Int.reduceSub, Int.reduceNeg, Nat.reduceAdd, Nat.reduceMul, Nat.reducePow, Int.reduceLT, Int.reduceLE, Int.reduceEq, Nat.reduceEqDiff])))
      all_goals omega
  · have e : lenE d = tup2 0 2 := by unfold lenE; rw [if_neg c]
    have pe : knownErr d o = 2 := by unfold knownErr; rw [if_neg (fun h => c h.1)]
    rw [pe]
    (refine calls_intro (hC.body (by decide) tab179) (Nat.le_of_ble_eq_true rfl) ?_); (show wp C _ none B179.code _ _); (simp only [B179]); simp -implicitDefEqProofs (disch := first | assumption | decide | omega | (simp only [wpD1] <;> omega) | (simp only [wpD2] <;> assumption) | solve_by_elim [HSub.refl, HSub.push, HSub.reserve] | fail) only [↓wpPre, wpPost, wpPoly, Int.reduceToNat, Int.reducePow, Int.reduceMul, Int.reduceAdd, Int.reduceSub, Int.reduceNeg, Nat.reduceAdd, Nat.reduceMul, Nat.reducePow, Int.reduceLT, Int.reduceLE, Int.reduceEq, Nat.reduceEqDiff]
    refine ACallsK.eq2 (Length08_spec (hC.sub (T' := T71) (by decide)) hd) e ?_
    simp -implicitDefEqProofs (disch := first | assumption | decide | omega | (simp only [wpD1] <;> omega) | (simp only [wpD2] <;> assumption) | solve_by_elim [HSub.refl, HSub.push, HSub.reserve] | fail) only [↓wpPre, wpPost, wpPoly, Int.reduceToNat, Int.reducePow, Int.reduceMul, Int.reduceAdd, Int.reduceSub, Int.reduceNeg, Nat.reduceAdd, Nat.reduceMul, Nat.reducePow, Int.reduceLT, Int.reduceLE, Int.reduceEq, Nat.reduceEqDiff, tup2]
def sampK (d p : Int) (o k : Nat) : List Int := (List.range k).map fun i => (codeL d p).getD (i / o) 0
theorem sampK_length (d p : Int) (o k : Nat) : (sampK d p o k).length = k := by simp [sampK]
theorem sampK_succ (d p : Int) (o k : Nat) : sampK d p o (k + 1) = sampK d p o k ++ [(codeL d p).getD (k / o) 0] := by simp [sampK, List.range_succ]
set_option maxHeartbeats 1000000 in
theorem SamplesR_spec (hC : Has C T169) {d o p : Int} {h : Heap} (hd : In64 d) (ho : In64 o) (hp : In64 p) :
    ACalls C 169 [.int .i64 d, .int .i64 o, .int .i64 p] h (fun r h' => ∃ v, r = lstErr v (sampErr d o [p]) ∧ HSub h h' ∧ RI h' v (if sampErr d o [p] = 0 then sampL d p o.toNat else [])) := by
  rcases sampErr_cases d o [p] with c | c
  · have ok := sampErr_ok c
    have hN := lenN_eq ok.1
    have ck : knownErr d o = 0 := by unfold knownErr; rw [if_pos ⟨ok.1, ok.2.1⟩]
    have cc : codeErr d p = 0 := ok.2.2 p (by simp)
    obtain ⟨q, rfl⟩ := Int.eq_ofNat_of_zero_le (show 0 ≤ o by omega)
    have ho1 : 1 ≤ q := by omega
    rw [c, if_pos rfl, Int.toNat_natCast]
    have hcode := Code08_spec (hC.sub (T' := T77) (by decide)) (h := h) hd hp
    rw [cc, if_pos rfl] at hcode
    have cl := codeL_length d p
    have sz1 : lenN d ≤ lenN d * q := Nat.le_mul_of_pos_right _ (by omega)
    have sz2 : lenN d * q ≤ 1023 * 8 := Nat.mul_le_mul (by omega) (by omega)
    have em : (lenN d : Int) * (q : Nat) = ((lenN d * q : Nat) : Int) := by omega
    have full : sampK d p q (lenN d * q) = sampL d p q := (sampL_eq d p ho1).symm
    (refine calls_intro (hC.body (by decide) tab169) (Nat.le_of_ble_eq_true rfl) ?_); (show wp C _ none B169.code _ _); (simp only [B169]); simp -implicitDefEqProofs (disch := first | assumption | decide | omega | (simp only [wpD1] <;> omega) | (simp only [wpD2] <;> assumption) | solve_by_elim [HSub.refl, HSub.push, HSub.reserve] | fail) only [↓wpPre, wpPost, wpPoly, Int.reduceToNat, Int.reducePow, Int.reduceMul, Int.reduceAdd, Int.reduceSub, Int.reduceNeg, Nat.reduceAdd, Nat.reduceMul, Nat.reducePow, Int.reduceLT, Int.reduceLE, Int.reduceEq, Nat.reduceEqDiff]
    refine ACallsK.eq (knownR_spec (hC.sub (T' := T179) (by decide)) hd ho) ?_
    rw [ck]
    simp -implicitDefEqProofs (disch := first | assumption | decide | omega | (simp only [wpD1] <;> omega) | (simp only [wpD2] <;> assumption) | solve_by_elim [HSub.refl, HSub.push, HSub.reserve] | fail) only [↓wpPre, wpPost, wpPoly, Int.reduceToNat, Int.reducePow, Int.reduceMul, Int.reduceAdd, Int.reduceSub, Int.reduceNeg, Nat.reduceAdd, Nat.reduceMul, Nat.reducePow, Int.reduceLT, Int.reduceLE, Int.reduceEq, Nat.reduceEqDiff]
    refine ACallsK.of hcode ?_
    rintro r h1 ⟨v1, rfl, s1, R1⟩
    simp -implicitDefEqProofs (disch := first | assumption | decide | omega | (simp only [wpD1] <;> omega) | (simp only [wpD2] <;> assumption) | solve_by_elim [HSub.refl, HSub.push, HSub.reserve] | fail) only [↓wpPre, wpPost, wpPoly, Int.reduceToNat, Int.reducePow, Int.reduceMul, Int.reduceAdd, Int.reduceSub, Int.reduceNeg, Nat.reduceAdd, Nat.reduceMul, Nat.reducePow, Int.reduceLT, Int.reduceLE, Int.reduceEq, Nat.reduceEqDiff, lstErr]
    refine wp_loopI (fun j t h' => ∃ k : Nat, GrwI h1 h' (t 11) (sampK d p q k) ∧ t 1 = .int .i64 (q : Nat) ∧ t 9 = v1 ∧ t 12 = .int .i64 (k : Nat) ∧ k ≤ lenN d * q ∧ j = lenN d * q - k) (j0 := lenN d * q)
      ⟨0, GrwI.nil _, rfl, rfl, rfl, by omega, rfl⟩ ?_
    rintro j t h2 ⟨k, A, e1, e9, e12, hk, hj⟩
    have R2 := R1.mono A.sub
    simp -implicitDefEqProofs (disch := first | assumption | decide | omega | (simp only [wpD1] <;> omega) | (simp only [wpD2] <;> assumption) | solve_by_elim [HSub.refl, HSub.push, HSub.reserve] | fail) only [↓wpPre, wpPost, wpPoly, Int.reduceToNat, Int.reducePow, Int.reduceMul, Int.reduceAdd, Int.reduceSub, Int.reduceNeg, Nat.reduceAdd, Nat.reduceMul, Nat.reducePow, Int.reduceLT, Int.reduceLE, Int.reduceEq, Nat.reduceEqDiff, e1, e9, e12, R2.len, cl, em]
    refine Br.by (fun c1 => ?_) (fun c1 => ?_)
    · have hk' : k < lenN d * q := by omega
      have hdv : k / q < lenN d := Nat.div_lt_of_lt_mul (by rw [Nat.mul_comm]; exact hk')
      have ed : (k : Int) / (q : Nat) = ((k / q : Nat) : Int) := (Int.natCast_ediv _ _).symm
      generalize hg : k / q = g at hdv ed
      have ld := R2.load (k := g) (by omega)
      have sl := sampK_length d p q k
      have su := sampK_succ d p q k
      rw [hg] at su
      obtain ⟨x, hx⟩ : ∃ x, x = (codeL d p).getD g 0 := ⟨_, rfl⟩
      rw [← hx] at su ld
      have A2 := A.snoc (x := x) (HSub.push1 h2 (.cells [.int .i64 x] true 0)) (by omega)
      rw [← su, sl] at A2
      simp -implicitDefEqProofs (disch := first | assumption | decide | omega | (simp only [wpD1] <;> omega) | (simp only [wpD2] <;> assumption) | solve_by_elim [HSub.refl, HSub.push, HSub.reserve] | fail) only [↓wpPre, wpPost, wpPoly, Int.reduceToNat, Int.reducePow, Int.reduceMul, Int.reduceAdd, Int.reduceSub, Int.reduceNeg, Nat.reduceAdd, Nat.reduceMul, Nat.reducePow, Int.reduceLT, Int.reduceLE, Int.reduceEq, Nat.reduceEqDiff, e1, e9, e12, ed, R2.idx, ld, cont_slice, contB_one, A.app, sl, ← su]
      exact ⟨_, ⟨k + 1, A2, by simp, by omega, rfl⟩, by omega⟩
    · have ek : k = lenN d * q := by omega
      subst ek
      rw [full] at A
      simp -implicitDefEqProofs (disch := first | assumption | decide | omega | (simp only [wpD1] <;> omega) | (simp only [wpD2] <;> assumption) | solve_by_elim [HSub.refl, HSub.push, HSub.reserve] | fail) only [↓wpPre, wpPost, wpPoly, Int.reduceToNat, Int.reducePow, Int.reduceMul, Int.reduceAdd, Int.reduceSub, Int.reduceNeg, Nat.reduceAdd, Nat.reduceMul, Nat.reducePow, Int.reduceLT, Int.reduceLE, Int.reduceEq, Nat.reduceEqDiff]
      exact ⟨_, rfl, s1.trans A.sub, A.ri⟩
  · rw [c, if_neg (by decide)]
    by_cases ck : knownErr d o = 0
    · have cc : codeErr d p = 2 := by
        rw [sampErr_one] at c
        have : ¬ codeErr d p = 0 := fun h => by rw [if_pos ⟨ck, h⟩] at c; cases c
        unfold codeErr at this ⊢; split at this <;> first | exact absurd rfl this | (rename_i h; rw [if_neg h])
      have hcode := Code08_spec (hC.sub (T' := T77) (by decide)) (h := h) hd hp
      rw [cc] at hcode
      (refine calls_intro (hC.body (by decide) tab169) (Nat.le_of_ble_eq_true rfl) ?_); (show wp C _ none B169.code _ _); (simp only [B169]); simp -implicitDefEqProofs (disch := first | assumption | decide | omega | (simp only [wpD1] <;> omega) | (simp only [wpD2] <;> assumption) | solve_by_elim [HSub.refl, HSub.push, HSub.reserve] | fail) only [↓wpPre, wpPost, wpPoly, Int.reduceToNat, Int.reducePow, Int.reduceMul, Int.reduceAdd, Int.reduceSub, Int.reduceNeg, Nat.reduceAdd, Nat.reduceMul, Nat.reducePow, Int.reduceLT, Int.reduceLE, Int.reduceEq, Nat.reduceEqDiff]
      refine ACallsK.eq (knownR_spec (hC.sub (T' := T179) (by decide)) hd ho) ?_
      rw [ck]
      simp -implicitDefEqProofs (disch := first | assumption | decide | omega | (simp only [wpD1] <;> omega) | (simp only [wpD2] <;> assumption) | solve_by_elim [HSub.refl, HSub.push, HSub.reserve] | fail) only [↓wpPre, wpPost, wpPoly, Int.reduceToNat, Int.reducePow, Int.reduceMul, Int.reduceAdd, Int.reduceSub, Int.reduceNeg, Nat.reduceAdd, Nat.reduceMul, Nat.reducePow, Int.reduceLT, Int.reduceLE, Int.reduceEq, Nat.reduceEqDiff]
      refine ACallsK.of hcode ?_
      rintro r h1 ⟨v1, rfl, s1, R1⟩
      simp -implicitDefEqProofs (disch := first | assumption | decide | omega | (simp only [wpD1] <;> omega) | (simp only [wpD2] <;> assumption) | solve_by_elim [HSub.refl, HSub.push, HSub.reserve] | fail) only [↓wpPre, wpPost, wpPoly, Int.reduceToNat, Int.reducePow, Int.reduceMul, Int.reduceAdd, Int.reduceSub, Int.reduceNeg, Nat.reduceAdd, Nat.reduceMul, Nat.reducePow, Int.reduceLT, Int.reduceLE, Int.reduceEq, Nat.reduceEqDiff, lstErr]
      exact ⟨_, rfl, s1, RI.nil⟩
    · have ck2 : knownErr d o = 2 := by unfold knownErr at ck ⊢; split at ck <;> first | exact absurd rfl ck | (rename_i h; rw [if_neg h])
      (refine calls_intro (hC.body (by decide) tab169) (Nat.le_of_ble_eq_true rfl) ?_); (show wp C _ none B169.code _ _); (simp only [B169]); simp -implicitDefEqProofs (disch := first | assumption | decide | omega | (simp only [wpD1] <;> omega) | (simp only [wpD2] <;> assumption) | solve_by_elim [HSub.refl, HSub.push, HSub.reserve] | fail) only [↓wpPre, wpPost, wpPoly, Int.reduceToNat, Int.reducePow, Int.reduceMul, Int.reduceAdd, Int.reduceSub, Int.reduceNeg, Nat.reduceAdd, Nat.reduceMul, Nat.reducePow, Int.reduceLT, Int.reduceLE, Int.reduceEq, Nat.reduceEqDiff]
      refine ACallsK.eq (knownR_spec (hC.sub (T' := T179) (by decide)) hd ho) ?_
      rw [ck2]
      simp -implicitDefEqProofs (disch := first | assumption | decide | omega | (simp only [wpD1] <;> omega) | (simp only [wpD2] <;> assumption) | solve_by_elim [HSub.refl, HSub.push, HSub.reserve] | fail) only [↓wpPre, wpPost, wpPoly, Int.reduceToNat, Int.reducePow, Int.reduceMul, Int.reduceAdd, Int.reduceSub, Int.reduceNeg, Nat.reduceAdd, Nat.reduceMul, Nat.reducePow, Int.reduceLT, Int.reduceLE, Int.reduceEq, Nat.reduceEqDiff, lstErr]
      exact ⟨_, rfl, HSub.refl _, RI.nil⟩
theorem pairR_spec (hC : Has C T181) {d o p q : Int} {h : Heap} (hd : In64 d) (ho : In64 o) (hp : In64 p) (hq : In64 q) :
    ACalls C 181 [.int .i64 d, .int .i64 o, .int .i64 p, .int .i64 q] h (fun r h' => ∃ v w, r = .tuple [v, w, .int .i64 (sampErr d o [p, q])] ∧ HSub h h' ∧ (sampErr d o [p, q] = 0 → RI h' v (sampL d p o.toNat) ∧ RI h' w (sampL d q o.toNat))) := by
  have s1 := fun h => SamplesR_spec (hC.sub (T' := T169) (by decide)) (h := h) hd ho hp
  have s2 := fun h => SamplesR_spec (hC.sub (T' := T169) (by decide)) (h := h) hd ho hq
  rw [sampErr_two]
  rcases sampErr_cases d o [p] with c | c
  · simp only [c, if_true] at s1
    rcases sampErr_cases d o [q] with c2 | c2
    · simp only [c2, if_true] at s2
      rw [if_pos ⟨c, c2⟩]
      (refine calls_intro (hC.body (by decide) tab181) (Nat.le_of_ble_eq_true rfl) ?_); (show wp C _ none B181.code _ _); (simp only [B181]); simp -implicitDefEqProofs (disch := first | assumption | decide | omega | (simp only [wpD1] <;> omega) | (simp only [wpD2] <;> assumption) | solve_by_elim [HSub.refl, HSub.push, HSub.reserve] | fail) only [↓wpPre, wpPost, wpPoly, Int.reduceToNat, Int.reducePow, Int.reduceMul, Int.reduceAdd, Int.reduceSub, Int.reduceNeg, Nat.reduceAdd, Nat.reduceMul, Nat.reducePow, Int.reduceLT, Int.reduceLE, Int.reduceEq, Nat.reduceEqDiff]
      refine ACallsK.of (s1 _) ?_
      rintro r h1 ⟨v1, rfl, q1, R1⟩
      simp -implicitDefEqProofs (disch := first | assumption | decide | omega | (simp only [wpD1] <;> omega) | (simp only [wpD2] <;> assumption) | solve_by_elim [HSub.refl, HSub.push, HSub.reserve] | fail) only [↓wpPre, wpPost, wpPoly, Int.reduceToNat, Int.reducePow, Int.reduceMul, Int.reduceAdd, Int.reduceSub, Int.reduceNeg, Nat.reduceAdd, Nat.reduceMul, Nat.reducePow, Int.reduceLT, Int.reduceLE, Int.reduceEq, Nat.reduceEqDiff, lstErr]
      refine ACallsK.of (s2 _) ?_
      rintro r h2 ⟨v2, rfl, q2, R2⟩
      simp -implicitDefEqProofs (disch := first | assumption | decide | omega | (simp only [wpD1] <;> omega) | (simp only [wpD2] <;> assumption) | solve_by_elim [HSub.refl, HSub.push, HSub.reserve] | fail) only [↓wpPre, wpPost, wpPoly, Int.reduceToNat, Int.reducePow, Int.reduceMul, Int.reduceAdd, Int.reduceSub, Int.reduceNeg, Nat.reduceAdd, Nat.reduceMul, Nat.reducePow, Int.reduceLT, Int.reduceLE, Int.reduceEq, Nat.reduceEqDiff, lstErr]
      exact ⟨_, _, rfl, q1.trans q2, fun _ => ⟨R1.mono q2, R2⟩⟩
    · simp only [c2] at s2
      rw [if_neg (by omega)]
      (refine calls_intro (hC.body (by decide) tab181) (Nat.le_of_ble_eq_true rfl) ?_); (show wp C _ none B181.code _ _); (simp only [B181]); simp -implicitDefEqProofs (disch := first | assumption | decide | omega | (simp only [wpD1] <;> omega) | (simp only [wpD2] <;> assumption) | solve_by_elim [HSub.refl, HSub.push, HSub.reserve] | fail) only [↓wpPre, wpPost, wpPoly, Int.reduceToNat, Int.reducePow, Int.reduceMul, Int.reduceAdd, Int.reduceSub, Int.reduceNeg, Nat.reduceAdd, Nat.reduceMul, Nat.reducePow, Int.reduceLT, Int.reduceLE, Int.reduceEq, Nat.reduceEqDiff]
      refine ACallsK.of (s1 _) ?_
      rintro r h1 ⟨v1, rfl, q1, R1⟩
      simp -implicitDefEqProofs (disch := first | assumption | decide | omega | (simp only [wpD1] <;> omega) | (simp only [wpD2] <;> assumption) | solve_by_elim [HSub.refl, HSub.push, HSub.reserve] | fail) only [↓wpPre, wpPost, wpPoly, Int.reduceToNat, Int.reducePow, Int.reduceMul, Int.reduceAdd, Int.reduceSub, Int.reduceNeg, Nat.reduceAdd, Nat.reduceMul, Nat.reducePow, Int.reduceLT, Int.reduceLE, Int.reduceEq, Nat.reduceEqDiff, lstErr]
      refine ACallsK.of (s2 _) ?_
      rintro r h2 ⟨v2, rfl, q2, R2⟩
      simp -implicitDefEqProofs (disch := first | assumption | decide | omega | (simp only [wpD1] <;> omega) | (simp only [wpD2] <;> assumption) | solve_by_elim [HSub.refl, HSub.push, HSub.reserve] | fail) only [↓wpPre, wpPost, wpPoly, Int.reduceToNat, Int.reducePow, Int.reduceMul, Int.reduceAdd, Int.reduceSub, Int.reduceNeg, Nat.reduceAdd, Nat.reduceMul, Nat.reducePow, Int.reduceLT, Int.reduceLE, Int.reduceEq, Nat.reduceEqDiff, lstErr]
      exact ⟨_, _, rfl, q1.trans q2⟩
  · simp only [c] at s1
    rw [if_neg (by omega)]
    (refine calls_intro (hC.body (by decide) tab181) (Nat.le_of_ble_eq_true rfl) ?_); (show wp C _ none B181.code _ _); (simp only [B181]); simp -implicitDefEqProofs (disch := first | assumption | decide | omega | (simp only [wpD1] <;> omega) | (simp only [wpD2] <;> assumption) | solve_by_elim [HSub.refl, HSub.push, HSub.reserve] | fail) only [↓wpPre, wpPost, wpPoly, Int.reduceToNat, Int.reducePow, Int.reduceMul, Int.reduceAdd, Int.reduceSub, Int.reduceNeg, Nat.reduceAdd, Nat.reduceMul, Nat.reducePow, Int.reduceLT, Int.reduceLE, Int.reduceEq, Nat.reduceEqDiff]
    refine ACallsK.of (s1 _) ?_
    rintro r h1 ⟨v1, rfl, q1, R1⟩
    simp -implicitDefEqProofs (disch := first | assumption | decide | omega | (simp only [wpD1] <;> omega) | (simp only [wpD2] <;> assumption) | solve_by_elim [HSub.refl, HSub.push, HSub.reserve] | fail) only [↓wpPre, wpPost, wpPoly, Int.reduceToNat, Int.reducePow, Int.reduceMul, Int.reduceAdd, Int.reduceSub, Int.reduceNeg, Nat.reduceAdd, Nat.reduceMul, Nat.reducePow, Int.reduceLT, Int.reduceLE, Int.reduceEq, Nat.reduceEqDiff, lstErr]
    exact ⟨_, _, rfl, q1⟩
set_option maxHeartbeats 1000000 in
theorem PartsR_spec (hC : Has C T171) {d o p q m s : Int} {h : Heap} (hd : In64 d) (ho : In64 o) (hp : In64 p) (hq : In64 q) (hm : In64 m) (hs : In64 s) :
    ACalls C 171 [.int .i64 d, .int .i64 o, .int .i64 p, .int .i64 q, .int .i64 m, .int .i64 s] h (fun r h' => r = partsE d o p q m s ∧ HSub h h') := by
  have hpr := fun h => pairR_spec (hC.sub (T' := T181) (by decide)) (h := h) hd ho hp hq
  unfold In64 at hm hs
  rcases sampErr_cases d o [p, q] with c | c
  · simp only [c] at hpr
    have ok := sampErr_ok c
    have hN := lenN_eq ok.1
    obtain ⟨k, rfl⟩ := Int.eq_ofNat_of_zero_le (show 0 ≤ o by omega)
    have ln1 := sampL_length d p k
    have ln2 := sampL_length d q k
    have sz1 : lenN d ≤ lenN d * k := Nat.le_mul_of_pos_right _ (by omega)
    have sz2 : lenN d * k ≤ 1023 * 8 := Nat.mul_le_mul (by omega) (by omega)
    have em : (lenN d : Int) * (k : Nat) = ((lenN d * k : Nat) : Int) := by omega
    by_cases c2 : (-1 ≤ s ∧ s ≤ 1) ∧ 0 ≤ m ∧ m ≤ ((lenN d * k : Nat) : Int) + min s 0
    · obtain ⟨i, rfl⟩ := Int.eq_ofNat_of_zero_le c2.2.1
      have e : partsE d (k : Nat) p q (i : Nat) s = tup3 (pf (sampL d p k) (sampL d q k) (i : Nat) s i) (ps (sampL d p k) (sampL d q k) i ((sampL d p k).length - i)) 0 := by
        have hok : partsOk d (k : Nat) p q (i : Nat) s := ⟨c, c2.1, c2.2.1, by rw [em]; exact c2.2.2⟩
        unfold partsE
        rw [if_pos hok]; rfl
      rw [e]
      (refine calls_intro (hC.body (by decide) tab171) (Nat.le_of_ble_eq_true rfl) ?_); (show wp C _ none B171.code _ _); (simp only [B171]); simp -implicitDefEqProofs (disch := first | assumption | decide | omega | (simp only [wpD1] <;> omega) | (simp only [wpD2] <;> assumption) | solve_by_elim [HSub.refl, HSub.push, HSub.reserve] | fail) only [↓wpPre, wpPost, wpPoly, Int.reduceToNat, Int.reducePow, Int.reduceMul, Int.reduceAdd, Int.reduceSub, Int.reduceNeg, Nat.reduceAdd, Nat.reduceMul, Nat.reducePow, Int.reduceLT, Int.reduceLE, Int.reduceEq, Nat.reduceEqDiff]
      refine ACallsK.of (hpr _) ?_
      rintro r h1 ⟨w1, w2, rfl, s1, hri⟩
      have x := hri trivial
      obtain ⟨R1, R2⟩ := x
      rw [Int.toNat_natCast] at R1 R2
      have pp := partsR_spec (hC.sub (T' := T182) (by decide)) (s := s) (m := i) (h := h1) R1 R2 (sampL_one1 _ _ _) (sampL_one1 _ _ _) (by omega) (by omega) c2.1 (by omega)
      simp -implicitDefEqProofs (disch := first | assumption | decide | omega | (simp only [wpD1] <;> omega) | (simp only [wpD2] <;> assumption) | solve_by_elim [HSub.refl, HSub.push, HSub.reserve] | fail) only [↓wpPre, wpPost, wpPoly, Int.reduceToNat, Int.reducePow, Int.reduceMul, Int.reduceAdd, Int.reduceSub, Int.reduceNeg, Nat.reduceAdd, Nat.reduceMul, Nat.reducePow, Int.reduceLT, Int.reduceLE, Int.reduceEq, Nat.reduceEqDiff, R1.len, ln1]
      refine ACallsK.eq pp ?_
      simp -implicitDefEqProofs (disch := first | assumption | decide | omega | (simp only [wpD1] <;> omega) | (simp only [wpD2] <;> assumption) | solve_by_elim [HSub.refl, HSub.push, HSub.reserve] | fail) only [↓wpPre, wpPost, wpPoly, Int.reduceToNat, Int.reducePow, Int.reduceMul, Int.reduceAdd, Int.reduceSub, Int.reduceNeg, Nat.reduceAdd, Nat.reduceMul, Nat.reducePow, Int.reduceLT, Int.reduceLE, Int.reduceEq, Nat.reduceEqDiff, tupPP]
      exact ⟨rfl, s1⟩
    · have e : partsE d (k : Nat) p q m s = tup3 0 0 2 := by
        have hok : ¬ partsOk d (k : Nat) p q m s := fun h => c2 ⟨h.2.1, h.2.2.1, by have := h.2.2.2; rw [em] at this; exact this⟩
        unfold partsE
        rw [if_neg hok]
      rw [e]
      (refine calls_intro (hC.body (by decide) tab171) (Nat.le_of_ble_eq_true rfl) ?_); (show wp C _ none B171.code _ _); (simp only [B171]); simp -implicitDefEqProofs (disch := first | assumption | decide | omega | (simp only [wpD1] <;> omega) | (simp only [wpD2] <;> assumption) | solve_by_elim [HSub.refl, HSub.push, HSub.reserve] | fail) only [↓wpPre, wpPost, wpPoly, Int.reduceToNat, Int.reducePow, Int.reduceMul, Int.reduceAdd, Int.reduceSub, Int.reduceNeg, Nat.reduceAdd, Nat.reduceMul, Nat.reducePow, Int.reduceLT, Int.reduceLE, Int.reduceEq, Nat.reduceEqDiff]
      refine ACallsK.of (hpr _) ?_
      rintro r h1 ⟨w1, w2, rfl, s1, hri⟩
      have x := hri trivial
      obtain ⟨R1, R2⟩ := x
      rw [Int.toNat_natCast] at R1 R2
      simp -implicitDefEqProofs (disch := first | assumption | decide | omega | (simp only [wpD1] <;> omega) | (simp only [wpD2] <;> assumption) | solve_by_elim [HSub.refl, HSub.push, HSub.reserve] | fail) only [↓wpPre, wpPost, wpPoly, Int.reduceToNat, Int.reducePow, Int.reduceMul, Int.reduceAdd, Int.reduceSub, Int.reduceNeg, Nat.reduceAdd, Nat.reduceMul, Nat.reducePow, Int.reduceLT, Int.reduceLE, Int.reduceEq, Nat.reduceEqDiff, R1.len, ln1]
      (repeat' (first | (refine Br.by (fun _ => ?_) (fun _ => ?_)) | (simp -implicitDefEqProofs (disch := first | assumption | decide | omega | (simp only [wpD1] <;> omega) | (simp only [wpD2] <;> assumption) | solve_by_elim [HSub.refl, HSub.push, HSub.reserve] | fail) only [↓wpPre, wpPost, wpPoly, Int.reduceToNat, Int.reducePow, Int.reduceMul, Int.reduceAdd, Int.reduceSub, Int.reduceNeg, Nat.reduceAdd, Nat.reduceMul, Nat.reducePow, Int.reduceLT, Int.reduceLE, Int.reduceEq, Nat.reduceEqDiff, R1.len, ln1])))
      all_goals first | exact ⟨rfl, s1⟩ | (exfalso; omega)
  · simp only [c] at hpr
    have e : partsE d o p q m s = tup3 0 0 2 := by
      have hok : ¬ partsOk d o p q m s := fun h => by have := h.1; omega
      unfold partsE
      rw [if_neg hok]
    rw [e]
    (refine calls_intro (hC.body (by decide) tab171) (Nat.le_of_ble_eq_true rfl) ?_); (show wp C _ none B171.code _ _); (simp only [B171]); simp -implicitDefEqProofs (disch := first | assumption | decide | omega | (simp only [wpD1] <;> omega) | (simp only [wpD2] <;> assumption) | solve_by_elim [HSub.refl, HSub.push, HSub.reserve] | fail) only [↓wpPre, wpPost, wpPoly, Int.reduceToNat, Int.reducePow, Int.reduceMul, Int.reduceAdd, Int.reduceSub, Int.reduceNeg, Nat.reduceAdd, Nat.reduceMul, Nat.reducePow, Int.reduceLT, Int.reduceLE, Int.reduceEq, Nat.reduceEqDiff]
    refine ACallsK.of (hpr _) ?_
    rintro r h1 ⟨w1, w2, rfl, s1, hri⟩
    simp -implicitDefEqProofs (disch := first | assumption | decide | omega | (simp only [wpD1] <;> omega) | (simp only [wpD2] <;> assumption) | solve_by_elim [HSub.refl, HSub.push, HSub.reserve] | fail) only [↓wpPre, wpPost, wpPoly, Int.reduceToNat, Int.reducePow, Int.reduceMul, Int.reduceAdd, Int.reduceSub, Int.reduceNeg, Nat.reduceAdd, Nat.reduceMul, Nat.reducePow, Int.reduceLT, Int.reduceLE, Int.reduceEq, Nat.reduceEqDiff]
    exact ⟨rfl, s1⟩
theorem CrossR_spec (hC : Has C T177) {d o p q : Int} {h : Heap} (hd : In64 d) (ho : In64 o) (hp : In64 p) (hq : In64 q) :
    ACalls C 177 [.int .i64 d, .int .i64 o, .int .i64 p, .int .i64 q] h (fun r h' => r = crossE d o p q ∧ HSub h h') := by
  have hpr := fun h => pairR_spec (hC.sub (T' := T181) (by decide)) (h := h) hd ho hp hq
  unfold crossE
  rcases sampErr_cases d o [p, q] with c | c
  · simp only [c] at hpr
    rw [if_pos c]
    have ok := sampErr_ok c
    have hN := lenN_eq ok.1
    obtain ⟨k, rfl⟩ := Int.eq_ofNat_of_zero_le (show 0 ≤ o by omega)
    have ln1 := sampL_length d p k
    have ln2 := sampL_length d q k
    have sz1 : lenN d ≤ lenN d * k := Nat.le_mul_of_pos_right _ (by omega)
    have sz2 : lenN d * k ≤ 1023 * 8 := Nat.mul_le_mul (by omega) (by omega)
    rw [Int.toNat_natCast]
    (refine calls_intro (hC.body (by decide) tab177) (Nat.le_of_ble_eq_true rfl) ?_); (show wp C _ none B177.code _ _); (simp only [B177]); simp -implicitDefEqProofs (disch := first | assumption | decide | omega | (simp only [wpD1] <;> omega) | (simp only [wpD2] <;> assumption) | solve_by_elim [HSub.refl, HSub.push, HSub.reserve] | fail) only [↓wpPre, wpPost, wpPoly, Int.reduceToNat, Int.reducePow, Int.reduceMul, Int.reduceAdd, Int.reduceSub, Int.reduceNeg, Nat.reduceAdd, Nat.reduceMul, Nat.reducePow, Int.reduceLT, Int.reduceLE, Int.reduceEq, Nat.reduceEqDiff]
    refine ACallsK.of (hpr _) ?_
    rintro r h1 ⟨w1, w2, rfl, s1, hri⟩
    have x := hri trivial
    obtain ⟨R1, R2⟩ := x
    rw [Int.toNat_natCast] at R1 R2
    have pp := greatR_spec (hC.sub (T' := T184) (by decide)) (mg := 0) (h := h1) R1 R2 (sampL_one1 _ _ _) (sampL_one1 _ _ _) (by omega) (by omega)
    simp -implicitDefEqProofs (disch := first | assumption | decide | omega | (simp only [wpD1] <;> omega) | (simp only [wpD2] <;> assumption) | solve_by_elim [HSub.refl, HSub.push, HSub.reserve] | fail) only [↓wpPre, wpPost, wpPoly, Int.reduceToNat, Int.reducePow, Int.reduceMul, Int.reduceAdd, Int.reduceSub, Int.reduceNeg, Nat.reduceAdd, Nat.reduceMul, Nat.reducePow, Int.reduceLT, Int.reduceLE, Int.reduceEq, Nat.reduceEqDiff]
    refine ACallsK.eq pp ?_
    simp -implicitDefEqProofs (disch := first | assumption | decide | omega | (simp only [wpD1] <;> omega) | (simp only [wpD2] <;> assumption) | solve_by_elim [HSub.refl, HSub.push, HSub.reserve] | fail) only [↓wpPre, wpPost, wpPoly, Int.reduceToNat, Int.reducePow, Int.reduceMul, Int.reduceAdd, Int.reduceSub, Int.reduceNeg, Nat.reduceAdd, Nat.reduceMul, Nat.reducePow, Int.reduceLT, Int.reduceLE, Int.reduceEq, Nat.reduceEqDiff]
    exact ⟨rfl, s1⟩
  · simp only [c] at hpr
    rw [if_neg (by omega)]
    (refine calls_intro (hC.body (by decide) tab177) (Nat.le_of_ble_eq_true rfl) ?_); (show wp C _ none B177.code _ _); (simp only [B177]); simp -implicitDefEqProofs (disch := first | assumption | decide | omega | (simp only [wpD1] <;> omega) | (simp only [wpD2] <;> assumption) | solve_by_elim [HSub.refl, HSub.push, HSub.reserve] | fail) only [↓wpPre, wpPost, wpPoly, Int.reduceToNat, Int.reducePow, Int.reduceMul, Int.reduceAdd, Int.reduceSub, Int.reduceNeg, Nat.reduceAdd, Nat.reduceMul, Nat.reducePow, Int.reduceLT, Int.reduceLE, Int.reduceEq, Nat.reduceEqDiff]
    refine ACallsK.of (hpr _) ?_
    rintro r h1 ⟨w1, w2, rfl, s1, hri⟩
    simp -implicitDefEqProofs (disch := first | assumption | decide | omega | (simp only [wpD1] <;> omega) | (simp only [wpD2] <;> assumption) | solve_by_elim [HSub.refl, HSub.push, HSub.reserve] | fail) only [↓wpPre, wpPost, wpPoly, Int.reduceToNat, Int.reducePow, Int.reduceMul, Int.reduceAdd, Int.reduceSub, Int.reduceNeg, Nat.reduceAdd, Nat.reduceMul, Nat.reducePow, Int.reduceLT, Int.reduceLE, Int.reduceEq, Nat.reduceEqDiff]
    exact ⟨rfl, s1⟩
theorem SideR_spec (hC : Has C T176) {d o p : Int} {h : Heap} (hd : In64 d) (ho : In64 o) (hp : In64 p) :
    ACalls C 176 [.int .i64 d, .int .i64 o, .int .i64 p] h (fun r h' => r = sideE d o p ∧ HSub h h') := by
  have hpr := fun h => SamplesR_spec (hC.sub (T' := T169) (by decide)) (h := h) hd ho hp
  unfold sideE
  rcases sampErr_cases d o [p] with c | c
  · simp only [c, if_true] at hpr
    rw [if_pos c]
    have ok := sampErr_ok c
    have hN := lenN_eq ok.1
    obtain ⟨k, rfl⟩ := Int.eq_ofNat_of_zero_le (show 0 ≤ o by omega)
    have ln1 := sampL_length d p k
    have sz1 : lenN d ≤ lenN d * k := Nat.le_mul_of_pos_right _ (by omega)
    have sz2 : lenN d * k ≤ 1023 * 8 := Nat.mul_le_mul (by omega) (by omega)
    rw [Int.toNat_natCast] at hpr ⊢
    (refine calls_intro (hC.body (by decide) tab176) (Nat.le_of_ble_eq_true rfl) ?_); (show wp C _ none B176.code _ _); (simp only [B176]); simp -implicitDefEqProofs (disch := first | assumption | decide | omega | (simp only [wpD1] <;> omega) | (simp only [wpD2] <;> assumption) | solve_by_elim [HSub.refl, HSub.push, HSub.reserve] | fail) only [↓wpPre, wpPost, wpPoly, Int.reduceToNat, Int.reducePow, Int.reduceMul, Int.reduceAdd, Int.reduceSub, Int.reduceNeg, Nat.reduceAdd, Nat.reduceMul, Nat.reducePow, Int.reduceLT, Int.reduceLE, Int.reduceEq, Nat.reduceEqDiff]
    refine ACallsK.of (hpr _) ?_
    rintro r h1 ⟨w1, rfl, s1, R1⟩
    have pp := greatR_spec (hC.sub (T' := T184) (by decide)) (mg := k) (h := h1) R1 R1 (sampL_one1 _ _ _) (sampL_one1 _ _ _) (by omega) (by omega)
    simp -implicitDefEqProofs (disch := first | assumption | decide | omega | (simp only [wpD1] <;> omega) | (simp only [wpD2] <;> assumption) | solve_by_elim [HSub.refl, HSub.push, HSub.reserve] | fail) only [↓wpPre, wpPost, wpPoly, Int.reduceToNat, Int.reducePow, Int.reduceMul, Int.reduceAdd, Int.reduceSub, Int.reduceNeg, Nat.reduceAdd, Nat.reduceMul, Nat.reducePow, Int.reduceLT, Int.reduceLE, Int.reduceEq, Nat.reduceEqDiff, lstErr]
    refine ACallsK.eq pp ?_
    simp -implicitDefEqProofs (disch := first | assumption | decide | omega | (simp only [wpD1] <;> omega) | (simp only [wpD2] <;> assumption) | solve_by_elim [HSub.refl, HSub.push, HSub.reserve] | fail) only [↓wpPre, wpPost, wpPoly, Int.reduceToNat, Int.reducePow, Int.reduceMul, Int.reduceAdd, Int.reduceSub, Int.reduceNeg, Nat.reduceAdd, Nat.reduceMul, Nat.reducePow, Int.reduceLT, Int.reduceLE, Int.reduceEq, Nat.reduceEqDiff]
    exact ⟨rfl, s1⟩
  · simp only [c] at hpr
    rw [if_neg (by omega)]
    (refine calls_intro (hC.body (by decide) tab176) (Nat.le_of_ble_eq_true rfl) ?_); (show wp C _ none B176.code _ _); (simp only [B176]); simp -implicitDefEqProofs (disch := first | assumption | decide | omega | (simp only [wpD1] <;> omega) | (simp only [wpD2] <;> assumption) | solve_by_elim [HSub.refl, HSub.push, HSub.reserve] | fail) only [↓wpPre, wpPost, wpPoly, Int.reduceToNat, Int.reducePow, Int.reduceMul, Int.reduceAdd, Int.reduceSub, Int.reduceNeg, Nat.reduceAdd, Nat.reduceMul, Nat.reducePow, Int.reduceLT, Int.reduceLE, Int.reduceEq, Nat.reduceEqDiff]
    refine ACallsK.of (hpr _) ?_
    rintro r h1 ⟨w1, rfl, s1, R1⟩
    simp -implicitDefEqProofs (disch := first | assumption | decide | omega | (simp only [wpD1] <;> omega) | (simp only [wpD2] <;> assumption) | solve_by_elim [HSub.refl, HSub.push, HSub.reserve] | fail) only [↓wpPre, wpPost, wpPoly, Int.reduceToNat, Int.reducePow, Int.reduceMul, Int.reduceAdd, Int.reduceSub, Int.reduceNeg, Nat.reduceAdd, Nat.reduceMul, Nat.reducePow, Int.reduceLT, Int.reduceLE, Int.reduceEq, Nat.reduceEqDiff, lstErr]
    exact ⟨rfl, s1⟩
end
end Go.Ae
