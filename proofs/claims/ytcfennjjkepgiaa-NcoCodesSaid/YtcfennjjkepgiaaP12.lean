/- Texts of the proof, part 12: a second reading of the lowered code, proved sound, and what the functions compute. -/
import Derived.Test.YtcfennjjkepgiaaP11

/- The statement on codes that are read with a whole number of samples a chip, of layer 11. -/
set_option linter.unusedSimpArgs false
set_option linter.unusedVariables false
namespace Go.Ae
theorem div_over {i o : Nat} {r : Int} (hr : r * o = 65536) (hp : 0 < r) : ((i : Int) * r) / 65536 = ((i / o : Nat) : Int) := by
  rw [← hr, Int.mul_comm r, Int.mul_ediv_mul_of_pos_left _ _ hp, Int.natCast_ediv]
theorem chipI_samp {d p c r : Int} {o i : Nat} (hr : r * o = 65536) (hp : 0 < r) : chipI d p (c * 65536) r i = (codeL d p).getD ((c + (i / o : Nat)) % lenN d).toNat 0 := by
  unfold chipI
  rw [Int.add_comm, Int.add_mul_ediv_right _ _ (by decide), div_over hr hp, Int.add_comm]
theorem chips_take {d p r : Int} {o : Nat} (hr : r * o = 65536) (hp : 0 < r) (ho : 1 ≤ o) (hN : 31 ≤ lenN d) : (chipsL d p 0 r (lenN d * o + 5)).take (lenN d * o) = sampL d p o := by
  refine seqx (by simp [chipsL, sampL_length]) fun i hi => ?_
  have hi' : i < lenN d * o := by simpa [chipsL] using hi
  rw [sampL_get d p ho hi']
  have e : ((chipsL d p 0 r (lenN d * o + 5)).take (lenN d * o)).getD i 0 = chipI d p (0 * 65536) r i := by
    simp [chipsL, hi', show i < lenN d * o + 5 by omega]
  rw [e, chipI_samp hr hp]
  have : i / o < lenN d := Nat.div_lt_of_lt_mul (by rw [Nat.mul_comm]; exact hi')
  generalize i / o = q at *
  congr 1
  have e3 := Int.emod_eq_of_lt (a := (q : Int)) (b := (lenN d : Nat)) (by omega) (by omega)
  rw [Int.zero_add, e3, Int.toNat_natCast]
theorem chips_drop {d p r : Int} {o : Nat} (hr : r * o = 65536) (hp : 0 < r) (ho : 1 ≤ o) (hN : 31 ≤ lenN d) : (chipsL d p 0 r (lenN d * o + 5)).drop (lenN d * o) = (sampL d p o).take 5 := by
  have hsz : lenN d ≤ lenN d * o := Nat.le_mul_of_pos_right _ (by omega)
  refine seqx (by simp [chipsL, sampL_length]; omega) fun i hi => ?_
  have hi' : i < 5 := by simp [chipsL] at hi; omega
  have e2 : ((sampL d p o).take 5).getD i 0 = (sampL d p o).getD i 0 := by simp [List.getD_eq_getElem?_getD, hi']
  rw [e2, sampL_get d p ho (by omega)]
  have e : ((chipsL d p 0 r (lenN d * o + 5)).drop (lenN d * o)).getD i 0 = chipI d p (0 * 65536) r (lenN d * o + i) := by
    simp [chipsL, List.getD_eq_getElem?_getD, hi']
  rw [e, chipI_samp hr hp]
  have h1 : i / o ≤ i := Nat.div_le_self _ _
  have h2 : (lenN d * o + i) / o = lenN d + i / o := by rw [Nat.mul_comm, Nat.mul_add_div (by omega)]
  rw [h2]
  clear h2
  generalize i / o = q at *
  congr 1
  have e3 := Int.emod_eq_of_lt (a := (q : Int)) (b := (lenN d : Nat)) (by omega) (by omega)
  rw [Int.zero_add, Int.natCast_add, Int.add_emod_left, e3, Int.toNat_natCast]
theorem chips_rot {d p c r : Int} {o : Nat} (hr : r * o = 65536) (hp : 0 < r) (ho : 1 ≤ o) (hN : 31 ≤ lenN d) : chipsL d p (c * 65536) r (lenN d * o) = rotK (sampL d p o) ((c % lenN d).toNat * o) := by
  have hl := sampL_length d p o
  have hsz : lenN d ≤ lenN d * o := Nat.le_mul_of_pos_right _ (by omega)
  refine seqx (by simp [chipsL, rotK, hl]) fun i hi => ?_
  have hi' : i < lenN d * o := by simpa [chipsL] using hi
  have hc1 := Int.emod_nonneg c (show ((lenN d : Nat) : Int) ≠ 0 by omega)
  have e1 : (chipsL d p (c * 65536) r (lenN d * o)).getD i 0 = chipI d p (c * 65536) r i := by simp [chipsL, hi']
  have e2 : (rotK (sampL d p o) ((c % lenN d).toNat * o)).getD i 0 = (sampL d p o).getD ((i + (c % lenN d).toNat * o) % (lenN d * o)) 0 := by simp [rotK, hl, hi']
  rw [e1, e2, chipI_samp hr hp, sampL_get d p ho (Nat.mod_lt _ (by omega)), Nat.mul_comm (lenN d) o, Nat.mod_mul_right_div_self, Nat.mul_comm _ o, Nat.add_mul_div_left _ _ (by omega)]
  congr 1
  have : (c + ((i / o : Nat) : Int)) % (lenN d : Nat) = (((i / o + (c % lenN d).toNat) % lenN d : Nat) : Int) := by
    rw [Int.natCast_emod, Int.natCast_add, Int.toNat_of_nonneg hc1, Int.add_emod_emod, Int.add_comm]
  rw [this, Int.toNat_natCast]
section
variable {C : Ctx}
set_option maxHeartbeats 4000000 in
set_option maxRecDepth 20000 in
theorem NcoCodes_law (hC : Has C T113) {d0 p0 k0 c0 : Int} {h : Heap} (hd0 : In64 d0) (hp0 : In64 p0) (hk0 : In64 k0) (hc0 : In64 c0) :
    ACalls C 113 [.int .i64 d0, .int .i64 p0, .int .i64 k0, .int .i64 c0] h (fun r _ => r = .bool true) := by
  have f1 := Int.emod_nonneg d0 (show (2 : Int) ≠ 0 by decide)
  have f2 := Int.emod_lt_of_pos d0 (show (0 : Int) < 2 by decide)
  have f3 := Int.emod_nonneg k0 (show (4 : Int) ≠ 0 by decide)
  have f4 := Int.emod_lt_of_pos k0 (show (0 : Int) < 4 by decide)
  have f5 := Int.emod_nonneg c0 (show (401 : Int) ≠ 0 by decide)
  have f6 := Int.emod_lt_of_pos c0 (show (0 : Int) < 401 by decide)
  obtain ⟨d, hd⟩ : ∃ d, d = 5 + d0 % 2 := ⟨_, rfl⟩
  have dd : d = 5 ∨ d = 6 := by omega
  have dok : lenOk d = true := by rcases dd with rfl | rfl <;> decide
  have hN := lenN_eq dok
  have hN6 : lenN d ≤ 63 := by rcases dd with rfl | rfl <;> decide
  obtain ⟨N, hNN⟩ : ∃ N, N = lenN d := ⟨_, rfl⟩
  obtain ⟨k, hk⟩ := Int.eq_ofNat_of_zero_le f3
  have hk4 : k < 4 := by omega
  obtain ⟨o, r, ho, ho8, hr, hrp, hrr⟩ : ∃ (o : Nat) (r : Int), (2 : Int) ^ k = (o : Nat) ∧ (1 ≤ o ∧ o ≤ 8) ∧ r * o = 65536 ∧ (0 < r ∧ r ≤ 65536) ∧ (65536 : Int) / (o : Nat) = r := by
    have : k = 0 ∨ k = 1 ∨ k = 2 ∨ k = 3 := by omega
    rcases this with rfl | rfl | rfl | rfl
    · exact ⟨1, 65536, by decide, by decide, by decide, by decide, by decide⟩
    · exact ⟨2, 32768, by decide, by decide, by decide, by decide, by decide⟩
    · exact ⟨4, 16384, by decide, by decide, by decide, by decide, by decide⟩
    · exact ⟨8, 8192, by decide, by decide, by decide, by decide, by decide⟩
  have f7 := Int.emod_nonneg p0 (show ((N : Int) + 2) ≠ 0 by omega)
  have f8 := Int.emod_lt_of_pos p0 (show (0 : Int) < (N : Int) + 2 by omega)
  obtain ⟨p, hp⟩ : ∃ p, p = 1 + p0 % ((N : Int) + 2) := ⟨_, rfl⟩
  obtain ⟨c, hc⟩ : ∃ c, c = c0 % 401 - 200 := ⟨_, rfl⟩
  have ce : codeErr d p = 0 := by unfold codeErr; rw [if_pos ⟨dok, by omega, by omega⟩]
  have ke : knownErr d (o : Nat) = 0 := by unfold knownErr; rw [if_pos ⟨dok, by omega, by omega⟩]
  have se : sampErr d (o : Nat) [p] = 0 := by rw [sampErr_one, if_pos ⟨ke, ce⟩]
  have sz1 : N ≤ N * o := Nat.le_mul_of_pos_right _ (by omega)
  have sz2 : N * o ≤ 63 * 8 := Nat.mul_le_mul (by omega) (by omega)
  have b1 : ¬ chipsBad 0 r ((N * o + 5 : Nat) : Int) := by unfold chipsBad; omega
  have b2 : ¬ chipsBad (c * 65536) r ((N * o : Nat) : Int) := by unfold chipsBad; omega
  have c1 : chipsErr d p 0 r ((N * o + 5 : Nat) : Int) = 0 := by unfold chipsErr; rw [if_pos ce, if_neg b1]
  have c2 : chipsErr d p (c * 65536) r ((N * o : Nat) : Int) = 0 := by unfold chipsErr; rw [if_pos ce, if_neg b2]
  have T1 := fun h => Turn_spec (h := h) (hC.sub (T' := T23) (by decide)) hd0 (n := 2) (by decide)
  have T2 := fun h => Turn_spec (h := h) (hC.sub (T' := T23) (by decide)) hk0 (n := 4) (by decide)
  have T3 := fun h => Turn_spec (h := h) (hC.sub (T' := T23) (by decide)) hp0 (n := (N : Int) + 2) (by omega)
  have T4 := fun h => Turn_spec (h := h) (hC.sub (T' := T23) (by decide)) hc0 (n := 401) (by decide)
  rw [hk] at T2
  have S1 := fun h => SamplesC_spec (hC.sub (T' := T131) (by decide)) (d := d) (o := (o : Nat)) (p := p) (h := h) (by unfold In64; omega) (by unfold In64; omega) (by unfold In64; omega)
  have S2 := fun h => Chips_spec (hC.sub (T' := T117) (by decide)) (d := d) (p := p) (a := 0) (r := r) (m := ((N * o + 5 : Nat) : Int)) (h := h) (by unfold In64; omega) (by unfold In64; omega) (by unfold In64; omega) (by unfold In64; omega) (by unfold In64; omega)
  have S3 := fun h => Chips_spec (hC.sub (T' := T117) (by decide)) (d := d) (p := p) (a := c * 65536) (r := r) (m := ((N * o : Nat) : Int)) (h := h) (by unfold In64; omega) (by unfold In64; omega) (by unfold In64; omega) (by unfold In64; omega) (by unfold In64; omega)
  rw [se, if_pos rfl, Int.toNat_natCast] at S1
  rw [c1, if_pos rfl, Int.toNat_natCast] at S2
  rw [c2, if_pos rfl, Int.toNat_natCast] at S3
  have l1 : (sampL d p o).length = N * o := by rw [sampL_length, hNN]
  have l2 : (chipsL d p 0 r (N * o + 5)).length = N * o + 5 := chipsL_length _ _ _ _ _
  have l3 : (chipsL d p (c * 65536) r (N * o)).length = N * o := chipsL_length _ _ _ _ _
  have q1 : (chipsL d p 0 r (N * o + 5)).take (N * o) = sampL d p o := by rw [hNN]; exact chips_take hr hrp.1 ho8.1 hN.1
  have q2 : (chipsL d p 0 r (N * o + 5)).drop (N * o) = (sampL d p o).take 5 := by rw [hNN]; exact chips_drop hr hrp.1 ho8.1 hN.1
  have q3 : chipsL d p (c * 65536) r (N * o) = rotK (sampL d p o) ((c % N).toNat * o) := by rw [hNN]; exact chips_rot hr hrp.1 ho8.1 hN.1
  have ed : (2 : Int) ^ d.toNat = ((N + 1 : Nat) : Int) := by rw [hNN]; exact hN.2.2
  have em : (N : Int) * (o : Nat) = ((N * o : Nat) : Int) := by omega
  have T5 := fun h => Turn_spec (h := h) (hC.sub (T' := T23) (by decide)) (x := c) (n := (N : Nat)) (by unfold In64; omega) (by omega)
  have g1 := Int.emod_nonneg c (show ((N : Nat) : Int) ≠ 0 by omega)
  have g2 := Int.emod_lt_of_pos c (show (0 : Int) < (N : Nat) by omega)
  obtain ⟨M, hM⟩ := Int.eq_ofNat_of_zero_le g1
  have M1 : M ≤ 63 := by omega
  have M2 : M * o ≤ 63 * 8 := Nat.mul_le_mul M1 ho8.2
  have eM : (M : Int) * (o : Nat) = ((M * o : Nat) : Int) := by omega
  rw [hM] at T5
  rw [hM, Int.toNat_natCast] at q3
  (refine calls_intro (hC.body (by decide) tab113) (Nat.le_of_ble_eq_true rfl) ?_); (show wp C _ none B113.code _ _); (simp only [B113]); simp -implicitDefEqProofs (disch := first | assumption | decide | omega | (simp only [wpD1] <;> omega) | (simp only [wpD2] <;> assumption) | solve_by_elim [HSub.refl, HSub.push, HSub.reserve] | fail) only [↓wpPre, wpPost, wpPoly, Int.reduceToNat, Int.reducePow, Int.reduceMul, Int.reduceAdd, Int.reduceSub, Int.reduceNeg, Nat.reduceAdd, Nat.reduceMul, Nat.reducePow, Int.reduceLT, Int.reduceLE, Int.reduceEq, Nat.reduceEqDiff]
  refine ACallsK.eq (known11_spec (hC.sub (T' := T108) (by decide))) ?_
  simp -implicitDefEqProofs (disch := first | assumption | decide | omega | (simp only [wpD1] <;> omega) | (simp only [wpD2] <;> assumption) | solve_by_elim [HSub.refl, HSub.push, HSub.reserve] | fail) only [↓wpPre, wpPost, wpPoly, Int.reduceToNat, Int.reducePow, Int.reduceMul, Int.reduceAdd, Int.reduceSub, Int.reduceNeg, Nat.reduceAdd, Nat.reduceMul, Nat.reducePow, Int.reduceLT, Int.reduceLE, Int.reduceEq, Nat.reduceEqDiff]
  refine ACallsK.eq (T1 _) ?_
  simp -implicitDefEqProofs (disch := first | assumption | decide | omega | (simp only [wpD1] <;> omega) | (simp only [wpD2] <;> assumption) | solve_by_elim [HSub.refl, HSub.push, HSub.reserve] | fail) only [↓wpPre, wpPost, wpPoly, Int.reduceToNat, Int.reducePow, Int.reduceMul, Int.reduceAdd, Int.reduceSub, Int.reduceNeg, Nat.reduceAdd, Nat.reduceMul, Nat.reducePow, Int.reduceLT, Int.reduceLE, Int.reduceEq, Nat.reduceEqDiff]
  refine ACallsK.eq (T2 _) ?_
  have eN : ((N + 1 : Nat) : Int) - 1 = (N : Nat) := by omega
  simp -implicitDefEqProofs (disch := first | assumption | decide | omega | (simp only [wpD1] <;> omega) | (simp only [wpD2] <;> assumption) | solve_by_elim [HSub.refl, HSub.push, HSub.reserve] | fail) only [↓wpPre, wpPost, wpPoly, Int.reduceToNat, Int.reducePow, Int.reduceMul, Int.reduceAdd, Int.reduceSub, Int.reduceNeg, Nat.reduceAdd, Nat.reduceMul, Nat.reducePow, Int.reduceLT, Int.reduceLE, Int.reduceEq, Nat.reduceEqDiff, ← hd, ed, ho, Int.one_mul, eN]
  refine ACallsK.eq (T3 _) ?_
  simp -implicitDefEqProofs (disch := first | assumption | decide | omega | (simp only [wpD1] <;> omega) | (simp only [wpD2] <;> assumption) | solve_by_elim [HSub.refl, HSub.push, HSub.reserve] | fail) only [↓wpPre, wpPost, wpPoly, Int.reduceToNat, Int.reducePow, Int.reduceMul, Int.reduceAdd, Int.reduceSub, Int.reduceNeg, Nat.reduceAdd, Nat.reduceMul, Nat.reducePow, Int.reduceLT, Int.reduceLE, Int.reduceEq, Nat.reduceEqDiff, ← hp]
  refine ACallsK.eq (T4 _) ?_
  simp -implicitDefEqProofs (disch := first | assumption | decide | omega | (simp only [wpD1] <;> omega) | (simp only [wpD2] <;> assumption) | solve_by_elim [HSub.refl, HSub.push, HSub.reserve] | fail) only [↓wpPre, wpPost, wpPoly, Int.reduceToNat, Int.reducePow, Int.reduceMul, Int.reduceAdd, Int.reduceSub, Int.reduceNeg, Nat.reduceAdd, Nat.reduceMul, Nat.reducePow, Int.reduceLT, Int.reduceLE, Int.reduceEq, Nat.reduceEqDiff, ← hc, em]
  refine ACallsK.of (S1 _) ?_
  rintro x h1 ⟨v1, rfl, s1, R1⟩
  have e5 : ((N * o : Nat) : Int) + 5 = ((N * o + 5 : Nat) : Int) := by omega
  simp -implicitDefEqProofs (disch := first | assumption | decide | omega | (simp only [wpD1] <;> omega) | (simp only [wpD2] <;> assumption) | solve_by_elim [HSub.refl, HSub.push, HSub.reserve] | fail) only [↓wpPre, wpPost, wpPoly, Int.reduceToNat, Int.reducePow, Int.reduceMul, Int.reduceAdd, Int.reduceSub, Int.reduceNeg, Nat.reduceAdd, Nat.reduceMul, Nat.reducePow, Int.reduceLT, Int.reduceLE, Int.reduceEq, Nat.reduceEqDiff, lstErr, ho, hrr, e5]
  refine ACallsK.of (S2 _) ?_
  rintro x h2 ⟨v2, rfl, s2, R2⟩
  simp -implicitDefEqProofs (disch := first | assumption | decide | omega | (simp only [wpD1] <;> omega) | (simp only [wpD2] <;> assumption) | solve_by_elim [HSub.refl, HSub.push, HSub.reserve] | fail) only [↓wpPre, wpPost, wpPoly, Int.reduceToNat, Int.reducePow, Int.reduceMul, Int.reduceAdd, Int.reduceSub, Int.reduceNeg, Nat.reduceAdd, Nat.reduceMul, Nat.reducePow, Int.reduceLT, Int.reduceLE, Int.reduceEq, Nat.reduceEqDiff, lstErr, ho, hrr, e5]
  refine ACallsK.of (S3 _) ?_
  rintro x h3 ⟨v3, rfl, s3, R3⟩
  have R1 := R1.mono (s2.trans s3)
  have R2 := R2.mono s3
  have x1 := R2.part_b (k2 := .i64) (b := ((N * o : Nat) : Int)) (by omega)
  have x2 := R2.part_a (k1 := .i64) (a := ((N * o : Nat) : Int)) (by omega) (by omega)
  have x3 := R1.part_b (k2 := .i64) (b := 5) (by omega)
  obtain ⟨w1, a1, A1⟩ := x1
  obtain ⟨w2, a2, A2⟩ := x2
  obtain ⟨w3, a3, A3⟩ := x3
  rw [Int.toNat_natCast, q1] at A1
  rw [Int.toNat_natCast, q2] at A2
  have a1 := a1 h3 (HSub.refl _)
  have a2 := a2 h3 (HSub.refl _)
  have a3 := a3 h3 (HSub.refl _)
  have E1 := Equal_spec (hC.sub (T' := T12) (by decide)) A1 R1
  have E2 := Equal_spec (hC.sub (T' := T12) (by decide)) A2 A3
  rw [decide_eq_true rfl] at E1
  rw [show ((5 : Int).toNat) = 5 from rfl, decide_eq_true rfl] at E2
  simp -implicitDefEqProofs (disch := first | assumption | decide | omega | (simp only [wpD1] <;> omega) | (simp only [wpD2] <;> assumption) | solve_by_elim [HSub.refl, HSub.push, HSub.reserve] | fail) only [↓wpPre, wpPost, wpPoly, Int.reduceToNat, Int.reducePow, Int.reduceMul, Int.reduceAdd, Int.reduceSub, Int.reduceNeg, Nat.reduceAdd, Nat.reduceMul, Nat.reducePow, Int.reduceLT, Int.reduceLE, Int.reduceEq, Nat.reduceEqDiff, lstErr, R1.len, R2.len, R3.len, l1, l2, l3, e5, a1, a2, a3]
  refine ACallsK.eq E1 ?_
  simp -implicitDefEqProofs (disch := first | assumption | decide | omega | (simp only [wpD1] <;> omega) | (simp only [wpD2] <;> assumption) | solve_by_elim [HSub.refl, HSub.push, HSub.reserve] | fail) only [↓wpPre, wpPost, wpPoly, Int.reduceToNat, Int.reducePow, Int.reduceMul, Int.reduceAdd, Int.reduceSub, Int.reduceNeg, Nat.reduceAdd, Nat.reduceMul, Nat.reducePow, Int.reduceLT, Int.reduceLE, Int.reduceEq, Nat.reduceEqDiff, a2, a3]
  refine ACallsK.eq E2 ?_
  simp -implicitDefEqProofs (disch := first | assumption | decide | omega | (simp only [wpD1] <;> omega) | (simp only [wpD2] <;> assumption) | solve_by_elim [HSub.refl, HSub.push, HSub.reserve] | fail) only [↓wpPre, wpPost, wpPoly, Int.reduceToNat, Int.reducePow, Int.reduceMul, Int.reduceAdd, Int.reduceSub, Int.reduceNeg, Nat.reduceAdd, Nat.reduceMul, Nat.reducePow, Int.reduceLT, Int.reduceLE, Int.reduceEq, Nat.reduceEqDiff]
  refine ACallsK.eq (T5 _) ?_
  simp -implicitDefEqProofs (disch := first | assumption | decide | omega | (simp only [wpD1] <;> omega) | (simp only [wpD2] <;> assumption) | solve_by_elim [HSub.refl, HSub.push, HSub.reserve] | fail) only [↓wpPre, wpPost, wpPoly, Int.reduceToNat, Int.reducePow, Int.reduceMul, Int.reduceAdd, Int.reduceSub, Int.reduceNeg, Nat.reduceAdd, Nat.reduceMul, Nat.reducePow, Int.reduceLT, Int.reduceLE, Int.reduceEq, Nat.reduceEqDiff, eM]
  refine ACallsK.of (RotatedK_spec (hC.sub (T' := T87) (by decide)) (k := M * o) R1 (by omega) (by omega)) ?_
  rintro x h4 G
  have E3 := Equal_spec (hC.sub (T' := T12) (by decide)) (R3.mono G.sub) G.ri
  rw [q3, decide_eq_true rfl] at E3
  simp -implicitDefEqProofs (disch := first | assumption | decide | omega | (simp only [wpD1] <;> omega) | (simp only [wpD2] <;> assumption) | solve_by_elim [HSub.refl, HSub.push, HSub.reserve] | fail) only [↓wpPre, wpPost, wpPoly, Int.reduceToNat, Int.reducePow, Int.reduceMul, Int.reduceAdd, Int.reduceSub, Int.reduceNeg, Nat.reduceAdd, Nat.reduceMul, Nat.reducePow, Int.reduceLT, Int.reduceLE, Int.reduceEq, Nat.reduceEqDiff]
  refine ACallsK.eq E3 ?_
  simp -implicitDefEqProofs (disch := first | assumption | decide | omega | (simp only [wpD1] <;> omega) | (simp only [wpD2] <;> assumption) | solve_by_elim [HSub.refl, HSub.push, HSub.reserve] | fail) only [↓wpPre, wpPost, wpPoly, Int.reduceToNat, Int.reducePow, Int.reduceMul, Int.reduceAdd, Int.reduceSub, Int.reduceNeg, Nat.reduceAdd, Nat.reduceMul, Nat.reducePow, Int.reduceLT, Int.reduceLE, Int.reduceEq, Nat.reduceEqDiff]
end
end Go.Ae
