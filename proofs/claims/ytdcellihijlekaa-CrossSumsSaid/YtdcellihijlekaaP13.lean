/- Texts of the proof, part 13: a second reading of the lowered code, proved sound, and what the functions compute. -/
import Derived.Test.YtdcellihijlekaaP12

/- Examples of layer 9, by contracts. -/
set_option linter.unusedSimpArgs false
set_option linter.unusedVariables false
namespace Go.Ae
theorem spec511 : specOut 5 1 1 = [(-1, 30), (31, 1)] := by rw [specOut_eq]; decide +kernel
theorem spec512 : ∃ a b c, specOut 5 1 2 = [(-9, a), (-1, b), (7, c)] := ⟨(specK (circ (codeL 5 1) (codeL 5 2)) 31 63).getD 0 (0, 0) |>.2, (specK (circ (codeL 5 1) (codeL 5 2)) 31 63).getD 1 (0, 0) |>.2, (specK (circ (codeL 5 1) (codeL 5 2)) 31 63).getD 2 (0, 0) |>.2, by rw [specOut_eq]; decide +kernel⟩
theorem sampErr511 : sampErr 5 1 [1, 1] = 0 := by decide +kernel
theorem parts511 : partsE 5 1 1 1 1 1 = tup3 (-1) 0 0 := by
  have ok : partsOk 5 1 1 1 1 1 := by decide +kernel
  unfold partsE
  rw [if_pos ok]
  have e1 : pf (sampL 5 1 (1 : Int).toNat) (sampL 5 1 (1 : Int).toNat) 1 1 (1 : Int).toNat = -1 := by decide +kernel
  have e2 : ps (sampL 5 1 (1 : Int).toNat) (sampL 5 1 (1 : Int).toNat) (1 : Int).toNat ((sampL 5 1 (1 : Int).toNat).length - (1 : Int).toNat) = 0 := by decide +kernel
  rw [e1, e2]
theorem circ123 : circErr [1, 2, 3] [1, 0, 0] = 0 ∧ circ [1, 2, 3] [1, 0, 0] = [1, 3, 2] := by decide +kernel
section
variable {C : Ctx}
set_option maxHeartbeats 2000000 in
theorem awake163_spec (hC : Has C T163) (hS : SortOk C 178) {h : Heap} : ACalls C 163 [] h (fun r h' => r = .bool true ∧ h' = h) := by
  refine ACalls.gc0 (P := fun r h' => r = .bool true ∧ HSub h h') ?_ (fun r h' hp => ⟨by rw [hp.1]; trivial, hp.2, hp.1, rfl⟩)
  have i5 : In64 5 := by unfold In64; omega
  have i1 : In64 1 := by unfold In64; omega
  have k1 := fun (h : Heap) (i j : Nat) (g1 : h.get i = some (.cells (ints [1, 2, 3]) true 0)) (g2 : h.get j = some (.cells (ints [1, 0, 0]) true 0)) => CircP_spec (hC.sub (T' := T25) (by decide)) (h := h) (va := .slice i 0 3 (.known 3)) (vb := .slice j 0 3 (.known 3)) (RI.known g1 ⟨rfl, by decide⟩ (by decide)) (RI.known g2 ⟨rfl, by decide⟩ (by decide))
  simp only [circ123.1, circ123.2, if_true] at k1
  have k2 := fun h => Spectrum_spec (hC.sub (T' := T164) (by decide)) hS (h := h) i5 i1 i1
  simp only [sampErr511, if_true, spec511] at k2
  have k3 := fun h => Parts_spec (hC.sub (T' := T170) (by decide)) (h := h) i5 i1 i1 i1 i1 i1
  simp only [parts511] at k3
  (refine calls_intro (hC.body (by decide) tab163) (Nat.le_of_ble_eq_true rfl) ?_); (show wp C _ none B163.code _ _); (simp only [B163]); simp -implicitDefEqProofs (disch := first | assumption | decide | omega | (simp only [wpD1] <;> omega) | (simp only [wpD2] <;> assumption) | solve_by_elim [HSub.refl, HSub.push, HSub.reserve] | fail) only [↓wpPre, wpPost, wpPoly, Int.reduceToNat, Int.reducePow, Int.reduceMul, Int.reduceAdd, Int.reduceSub, Int.reduceNeg, Nat.reduceAdd, Nat.reduceMul, Nat.reducePow, Int.reduceLT, Int.reduceLE, Int.reduceEq, Nat.reduceEqDiff]
  refine ACallsK.of (k1 _ _ _ (by simp -implicitDefEqProofs (disch := first | assumption | decide | omega | (simp only [wpD1] <;> omega) | (simp only [wpD2] <;> assumption) | solve_by_elim [HSub.refl, HSub.push, HSub.reserve] | fail) only [↓wpPre, wpPost, wpPoly, Int.reduceToNat, Int.reducePow, Int.reduceMul, Int.reduceAdd, Int.reduceSub, Int.reduceNeg, Nat.reduceAdd, Nat.reduceMul, Nat.reducePow, Int.reduceLT, Int.reduceLE, Int.reduceEq, Nat.reduceEqDiff]; rfl) (by simp -implicitDefEqProofs (disch := first | assumption | decide | omega | (simp only [wpD1] <;> omega) | (simp only [wpD2] <;> assumption) | solve_by_elim [HSub.refl, HSub.push, HSub.reserve] | fail) only [↓wpPre, wpPost, wpPoly, Int.reduceToNat, Int.reducePow, Int.reduceMul, Int.reduceAdd, Int.reduceSub, Int.reduceNeg, Nat.reduceAdd, Nat.reduceMul, Nat.reducePow, Int.reduceLT, Int.reduceLE, Int.reduceEq, Nat.reduceEqDiff]; rfl)) ?_
  rintro r h1 ⟨v1, rfl, s1, R1⟩
  have t1 : HSub h h1 := ((HSub.push1 _ _).push _).trans s1
  simp -implicitDefEqProofs (disch := first | assumption | decide | omega | (simp only [wpD1] <;> omega) | (simp only [wpD2] <;> assumption) | solve_by_elim [HSub.refl, HSub.push, HSub.reserve] | fail) only [↓wpPre, wpPost, wpPoly, Int.reduceToNat, Int.reducePow, Int.reduceMul, Int.reduceAdd, Int.reduceSub, Int.reduceNeg, Nat.reduceAdd, Nat.reduceMul, Nat.reducePow, Int.reduceLT, Int.reduceLE, Int.reduceEq, Nat.reduceEqDiff, lstErr]
  refine ACallsK.of (k2 _) ?_
  rintro r h2 ⟨v2, rfl, s2, R2⟩
  have t2 := t1.trans s2
  simp -implicitDefEqProofs (disch := first | assumption | decide | omega | (simp only [wpD1] <;> omega) | (simp only [wpD2] <;> assumption) | solve_by_elim [HSub.refl, HSub.push, HSub.reserve] | fail) only [↓wpPre, wpPost, wpPoly, Int.reduceToNat, Int.reducePow, Int.reduceMul, Int.reduceAdd, Int.reduceSub, Int.reduceNeg, Nat.reduceAdd, Nat.reduceMul, Nat.reducePow, Int.reduceLT, Int.reduceLE, Int.reduceEq, Nat.reduceEqDiff, lstErr]
  refine ACallsK.of (k3 _) ?_
  rintro r h3 ⟨rfl, s3⟩
  have t3 := t2.trans s3
  have R1 := R1.mono (s2.trans s3)
  have R2 := R2.mono s3
  have E := Equal_spec (hC.sub (T' := T12) (by decide)) (h := h3.push (.cells [.int .i64 1, .int .i64 3, .int .i64 2] true 0)) (vb := .slice h3.size 0 3 (.known 3)) (b := [1, 3, 2]) (R1.mono (HSub.push1 _ _)) (RI.known (get_push_eq rfl) ⟨rfl, by decide⟩ (by decide))
  rw [decide_eq_true rfl] at E
  simp -implicitDefEqProofs (disch := first | assumption | decide | omega | (simp only [wpD1] <;> omega) | (simp only [wpD2] <;> assumption) | solve_by_elim [HSub.refl, HSub.push, HSub.reserve] | fail) only [↓wpPre, wpPost, wpPoly, Int.reduceToNat, Int.reducePow, Int.reduceMul, Int.reduceAdd, Int.reduceSub, Int.reduceNeg, Nat.reduceAdd, Nat.reduceMul, Nat.reducePow, Int.reduceLT, Int.reduceLE, Int.reduceEq, Nat.reduceEqDiff, tup3]
  refine ACallsK.eq E ?_
  simp -implicitDefEqProofs (disch := first | assumption | decide | omega | (simp only [wpD1] <;> omega) | (simp only [wpD2] <;> assumption) | solve_by_elim [HSub.refl, HSub.push, HSub.reserve] | fail) only [↓wpPre, wpPost, wpPoly, Int.reduceToNat, Int.reducePow, Int.reduceMul, Int.reduceAdd, Int.reduceSub, Int.reduceNeg, Nat.reduceAdd, Nat.reduceMul, Nat.reducePow, Int.reduceLT, Int.reduceLE, Int.reduceEq, Nat.reduceEqDiff]
  refine ACallsK.of (pairs_spec (hC.sub (T' := T167) (by decide)) (R2.mono (HSub.push1 _ _)) (by decide)) ?_
  rintro r h4 ⟨s4, R4⟩
  have t4 : HSub h h4 := (t3.push _).trans s4
  have hq : HSub h4 (((h4.push (.cells [.int .i64 (-1), .int .i64 30] true 0)).push (.cells [.int .i64 31, .int .i64 1] true 0)).push (.cells [.slice h4.size 0 2 (.known 2), .slice (h4.size + 1) 0 2 (.known 2)] true 0)) := (by repeat (first | exact HSub.refl _ | refine HSub.put ?_ (by (try simp only [Heap.size_put, Heap.size_push, Heap.size_reserve]); omega) _ | refine HSub.push ?_ _ | refine HSub.reserve ?_ _))
  have L2 : LLI (((h4.push (.cells [.int .i64 (-1), .int .i64 30] true 0)).push (.cells [.int .i64 31, .int .i64 1] true 0)).push (.cells [.slice h4.size 0 2 (.known 2), .slice (h4.size + 1) 0 2 (.known 2)] true 0)) (.slice (h4.size + 1 + 1) 0 2 (.known 2)) [[-1, 30], [31, 1]] := by
    refine ⟨[.slice h4.size 0 2 (.known 2), .slice (h4.size + 1) 0 2 (.known 2)], ⟨rfl, by decide, .inr ⟨_, 0, _, [.slice h4.size 0 2 (.known 2), .slice (h4.size + 1) 0 2 (.known 2)], true, 0, rfl, get_push_eq rfl, by simp, rfl, by decide⟩⟩, rfl, fun i hi => ?_⟩
    have : i = 0 ∨ i = 1 := by simp at hi; omega
    rcases this with rfl | rfl
    · exact RI.known (wr := true) (u := 0) (by simp -implicitDefEqProofs (disch := first | assumption | decide | omega | (simp only [wpD1] <;> omega) | (simp only [wpD2] <;> assumption) | solve_by_elim [HSub.refl, HSub.push, HSub.reserve] | fail) only [↓wpPre, wpPost, wpPoly, Int.reduceToNat, Int.reducePow, Int.reduceMul, Int.reduceAdd, Int.reduceSub, Int.reduceNeg, Nat.reduceAdd, Nat.reduceMul, Nat.reducePow, Int.reduceLT, Int.reduceLE, Int.reduceEq, Nat.reduceEqDiff]; rfl) ⟨rfl, by decide⟩ (by decide)
    · exact RI.known (wr := true) (u := 0) (by simp -implicitDefEqProofs (disch := first | assumption | decide | omega | (simp only [wpD1] <;> omega) | (simp only [wpD2] <;> assumption) | solve_by_elim [HSub.refl, HSub.push, HSub.reserve] | fail) only [↓wpPre, wpPost, wpPoly, Int.reduceToNat, Int.reducePow, Int.reduceMul, Int.reduceAdd, Int.reduceSub, Int.reduceNeg, Nat.reduceAdd, Nat.reduceMul, Nat.reducePow, Int.reduceLT, Int.reduceLE, Int.reduceEq, Nat.reduceEqDiff]; rfl) ⟨rfl, by decide⟩ (by decide)
  have L := lists_spec (hC.sub (T' := T166) (by decide)) (R4.mono hq) L2
  rw [decide_eq_true (show pairL [(-1, 30), (31, 1)] = [[-1, 30], [31, 1]] from rfl)] at L
  simp -implicitDefEqProofs (disch := first | assumption | decide | omega | (simp only [wpD1] <;> omega) | (simp only [wpD2] <;> assumption) | solve_by_elim [HSub.refl, HSub.push, HSub.reserve] | fail) only [↓wpPre, wpPost, wpPoly, Int.reduceToNat, Int.reducePow, Int.reduceMul, Int.reduceAdd, Int.reduceSub, Int.reduceNeg, Nat.reduceAdd, Nat.reduceMul, Nat.reducePow, Int.reduceLT, Int.reduceLE, Int.reduceEq, Nat.reduceEqDiff]
  refine ACallsK.eq L ?_
  simp -implicitDefEqProofs (disch := first | assumption | decide | omega | (simp only [wpD1] <;> omega) | (simp only [wpD2] <;> assumption) | solve_by_elim [HSub.refl, HSub.push, HSub.reserve] | fail) only [↓wpPre, wpPost, wpPoly, Int.reduceToNat, Int.reducePow, Int.reduceMul, Int.reduceAdd, Int.reduceSub, Int.reduceNeg, Nat.reduceAdd, Nat.reduceMul, Nat.reducePow, Int.reduceLT, Int.reduceLE, Int.reduceEq, Nat.reduceEqDiff]
  exact t4.trans hq
end
end Go.Ae

/- The statement on circular sums and spectra of layer 9. -/
set_option linter.unusedSimpArgs false
set_option linter.unusedVariables false
namespace Go.Ae
section
variable {C : Ctx}
set_option maxHeartbeats 2000000 in
set_option maxRecDepth 20000 in
theorem CrossSums_law (hC : Has C T155) (hS : SortOk C 178) {va vb : AV} {a b : List Int} {d p q : Int} {h : Heap} (ha : RI h va a) (hb : RI h vb b) (hd : In64 d) (hp : In64 p) (hq : In64 q) (_hx : ∀ x ∈ a, In64 x) (_hy : ∀ x ∈ b, In64 x) :
    ACalls C 155 [va, vb, .int .i64 d, .int .i64 p, .int .i64 q] h (fun r _ => r = .bool true) := by
  have hd' := hd
  unfold In64 at hd'
  have l1 := ha.lt
  have l2 := hb.lt
  have aw := fun h => awake163_spec (hC.sub (T' := T163) (by decide)) hS (h := h)
  have k1 := fun h1 (q : HSub h h1) => CircP_spec (hC.sub (T' := T25) (by decide)) (ha.mono q) (hb.mono q)
  have k2 := fun h1 (q : HSub h h1) => Circ09_spec (hC.sub (T' := T44) (by decide)) (ha.mono q) (hb.mono q)
  have k3 := fun h => Spectrum_spec (hC.sub (T' := T164) (by decide)) hS (h := h) hd hp hq
  have k4 := fun h => SpectrumR_spec (hC.sub (T' := T165) (by decide)) (h := h) hd hp hq
  have ll : (if sampErr d 1 [p, q] = 0 then specOut d p q else []).length ≤ 1000000 := by
    split
    · rename_i c
      have ok := sampErr_ok c
      have := lenN_eq ok.1
      have := rleL_len (sortL (circ (sampL d p 1) (sampL d q 1))) (lenN d)
      unfold specOut; omega
    · simp
  by_cases c : 200 < a.length ∨ 200 < b.length ∨ (7 < d ∧ d < 11)
  · (refine calls_intro (hC.body (by decide) tab155) (Nat.le_of_ble_eq_true rfl) ?_); (show wp C _ none B155.code _ _); (simp only [B155]); simp -implicitDefEqProofs (disch := first | assumption | decide | omega | (simp only [wpD1] <;> omega) | (simp only [wpD2] <;> assumption) | solve_by_elim [HSub.refl, HSub.push, HSub.reserve] | fail) only [↓wpPre, wpPost, wpPoly, Int.reduceToNat, Int.reducePow, Int.reduceMul, Int.reduceAdd, Int.reduceSub, Int.reduceNeg, Nat.reduceAdd, Nat.reduceMul, Nat.reducePow, Int.reduceLT, Int.reduceLE, Int.reduceEq, Nat.reduceEqDiff, ha.len, hb.len, gV_u]
    (repeat' (first | (refine Br.by (fun _ => ?_) (fun _ => ?_)) | (simp -implicitDefEqProofs (disch := first | assumption | decide | omega | (simp only [wpD1] <;> omega) | (simp only [wpD2] <;> assumption) | solve_by_elim [HSub.refl, HSub.push, HSub.reserve] | fail) only [↓wpPre, wpPost, wpPoly, Int.reduceToNat, Int.reducePow, Int.reduceMul, Int.reduceAdd, Int.reduceSub, Int.reduceNeg, Nat.reduceAdd, Nat.reduceMul, Nat.reducePow, Int.reduceLT, Int.reduceLE, Int.reduceEq, Nat.reduceEqDiff, ha.len, hb.len, gV_u])))
    all_goals first
      | (exfalso; omega)
      | (refine ACallsK.eq (aw _) ?_; simp -implicitDefEqProofs (disch := first | assumption | decide | omega | (simp only [wpD1] <;> omega) | (simp only [wpD2] <;> assumption) | solve_by_elim [HSub.refl, HSub.push, HSub.reserve] | fail) only [↓wpPre, wpPost, wpPoly, Int.reduceToNat, Int.reducePow, Int.reduceMul, Int.reduceAdd, Int.reduceSub, Int.reduceNeg, Nat.reduceAdd, Nat.reduceMul, Nat.reducePow, Int.reduceLT, Int.reduceLE, Int.reduceEq, Nat.reduceEqDiff])
  · (refine calls_intro (hC.body (by decide) tab155) (Nat.le_of_ble_eq_true rfl) ?_); (show wp C _ none B155.code _ _); (simp only [B155]); simp -implicitDefEqProofs (disch := first | assumption | decide | omega | (simp only [wpD1] <;> omega) | (simp only [wpD2] <;> assumption) | solve_by_elim [HSub.refl, HSub.push, HSub.reserve] | fail) only [↓wpPre, wpPost, wpPoly, Int.reduceToNat, Int.reducePow, Int.reduceMul, Int.reduceAdd, Int.reduceSub, Int.reduceNeg, Nat.reduceAdd, Nat.reduceMul, Nat.reducePow, Int.reduceLT, Int.reduceLE, Int.reduceEq, Nat.reduceEqDiff, ha.len, hb.len, gV_u]
    (repeat' (first | (refine Br.by (fun _ => ?_) (fun _ => ?_)) | (simp -implicitDefEqProofs (disch := first | assumption | decide | omega | (simp only [wpD1] <;> omega) | (simp only [wpD2] <;> assumption) | solve_by_elim [HSub.refl, HSub.push, HSub.reserve] | fail) only [↓wpPre, wpPost, wpPoly, Int.reduceToNat, Int.reducePow, Int.reduceMul, Int.reduceAdd, Int.reduceSub, Int.reduceNeg, Nat.reduceAdd, Nat.reduceMul, Nat.reducePow, Int.reduceLT, Int.reduceLE, Int.reduceEq, Nat.reduceEqDiff, ha.len, hb.len, gV_u])))
    all_goals first
      | (exfalso; omega)
      | skip
    all_goals
      refine ACallsK.of (k1 _ (HSub.refl _)) ?_
      rintro r h1 ⟨v1, rfl, s1, R1⟩
      simp -implicitDefEqProofs (disch := first | assumption | decide | omega | (simp only [wpD1] <;> omega) | (simp only [wpD2] <;> assumption) | solve_by_elim [HSub.refl, HSub.push, HSub.reserve] | fail) only [↓wpPre, wpPost, wpPoly, Int.reduceToNat, Int.reducePow, Int.reduceMul, Int.reduceAdd, Int.reduceSub, Int.reduceNeg, Nat.reduceAdd, Nat.reduceMul, Nat.reducePow, Int.reduceLT, Int.reduceLE, Int.reduceEq, Nat.reduceEqDiff, lstErr]
      refine ACallsK.of (k2 _ s1) ?_
      rintro r h2 ⟨v2, rfl, s2, R2⟩
      simp -implicitDefEqProofs (disch := first | assumption | decide | omega | (simp only [wpD1] <;> omega) | (simp only [wpD2] <;> assumption) | solve_by_elim [HSub.refl, HSub.push, HSub.reserve] | fail) only [↓wpPre, wpPost, wpPoly, Int.reduceToNat, Int.reducePow, Int.reduceMul, Int.reduceAdd, Int.reduceSub, Int.reduceNeg, Nat.reduceAdd, Nat.reduceMul, Nat.reducePow, Int.reduceLT, Int.reduceLE, Int.reduceEq, Nat.reduceEqDiff, lstErr]
      refine ACallsK.of (k3 _) ?_
      rintro r h3 ⟨v3, rfl, s3, R3⟩
      simp -implicitDefEqProofs (disch := first | assumption | decide | omega | (simp only [wpD1] <;> omega) | (simp only [wpD2] <;> assumption) | solve_by_elim [HSub.refl, HSub.push, HSub.reserve] | fail) only [↓wpPre, wpPost, wpPoly, Int.reduceToNat, Int.reducePow, Int.reduceMul, Int.reduceAdd, Int.reduceSub, Int.reduceNeg, Nat.reduceAdd, Nat.reduceMul, Nat.reducePow, Int.reduceLT, Int.reduceLE, Int.reduceEq, Nat.reduceEqDiff, lstErr]
      refine ACallsK.of (k4 _) ?_
      rintro r h4 ⟨v4, rfl, s4, R4⟩
      have E := Equal_spec (hC.sub (T' := T12) (by decide)) (R1.mono ((s2.trans s3).trans s4)) (R2.mono (s3.trans s4))
      rw [decide_eq_true rfl] at E
      have R3 := R3.mono s4
      simp -implicitDefEqProofs (disch := first | assumption | decide | omega | (simp only [wpD1] <;> omega) | (simp only [wpD2] <;> assumption) | solve_by_elim [HSub.refl, HSub.push, HSub.reserve] | fail) only [↓wpPre, wpPost, wpPoly, Int.reduceToNat, Int.reducePow, Int.reduceMul, Int.reduceAdd, Int.reduceSub, Int.reduceNeg, Nat.reduceAdd, Nat.reduceMul, Nat.reducePow, Int.reduceLT, Int.reduceLE, Int.reduceEq, Nat.reduceEqDiff, lstErr]
      refine ACallsK.eq E ?_
      simp -implicitDefEqProofs (disch := first | assumption | decide | omega | (simp only [wpD1] <;> omega) | (simp only [wpD2] <;> assumption) | solve_by_elim [HSub.refl, HSub.push, HSub.reserve] | fail) only [↓wpPre, wpPost, wpPoly, Int.reduceToNat, Int.reducePow, Int.reduceMul, Int.reduceAdd, Int.reduceSub, Int.reduceNeg, Nat.reduceAdd, Nat.reduceMul, Nat.reducePow, Int.reduceLT, Int.reduceLE, Int.reduceEq, Nat.reduceEqDiff]
      refine ACallsK.of (pairs_spec (hC.sub (T' := T167) (by decide)) R3 ll) ?_
      rintro r5 h5 ⟨s5, L5⟩
      simp -implicitDefEqProofs (disch := first | assumption | decide | omega | (simp only [wpD1] <;> omega) | (simp only [wpD2] <;> assumption) | solve_by_elim [HSub.refl, HSub.push, HSub.reserve] | fail) only [↓wpPre, wpPost, wpPoly, Int.reduceToNat, Int.reducePow, Int.reduceMul, Int.reduceAdd, Int.reduceSub, Int.reduceNeg, Nat.reduceAdd, Nat.reduceMul, Nat.reducePow, Int.reduceLT, Int.reduceLE, Int.reduceEq, Nat.reduceEqDiff]
      refine ACallsK.of (pairs_spec (hC.sub (T' := T167) (by decide)) (R4.mono s5) ll) ?_
      rintro r6 h6 ⟨s6, L6⟩
      have L := lists_spec (hC.sub (T' := T166) (by decide)) (L5.mono s6) L6
      rw [decide_eq_true rfl] at L
      simp -implicitDefEqProofs (disch := first | assumption | decide | omega | (simp only [wpD1] <;> omega) | (simp only [wpD2] <;> assumption) | solve_by_elim [HSub.refl, HSub.push, HSub.reserve] | fail) only [↓wpPre, wpPost, wpPoly, Int.reduceToNat, Int.reducePow, Int.reduceMul, Int.reduceAdd, Int.reduceSub, Int.reduceNeg, Nat.reduceAdd, Nat.reduceMul, Nat.reducePow, Int.reduceLT, Int.reduceLE, Int.reduceEq, Nat.reduceEqDiff]
      refine ACallsK.eq L ?_
      simp -implicitDefEqProofs (disch := first | assumption | decide | omega | (simp only [wpD1] <;> omega) | (simp only [wpD2] <;> assumption) | solve_by_elim [HSub.refl, HSub.push, HSub.reserve] | fail) only [↓wpPre, wpPost, wpPoly, Int.reduceToNat, Int.reducePow, Int.reduceMul, Int.reduceAdd, Int.reduceSub, Int.reduceNeg, Nat.reduceAdd, Nat.reduceMul, Nat.reducePow, Int.reduceLT, Int.reduceLE, Int.reduceEq, Nat.reduceEqDiff]
      refine ACallsK.eq (aw _) ?_
      simp -implicitDefEqProofs (disch := first | assumption | decide | omega | (simp only [wpD1] <;> omega) | (simp only [wpD2] <;> assumption) | solve_by_elim [HSub.refl, HSub.push, HSub.reserve] | fail) only [↓wpPre, wpPost, wpPoly, Int.reduceToNat, Int.reducePow, Int.reduceMul, Int.reduceAdd, Int.reduceSub, Int.reduceNeg, Nat.reduceAdd, Nat.reduceMul, Nat.reducePow, Int.reduceLT, Int.reduceLE, Int.reduceEq, Nat.reduceEqDiff]
end
end Go.Ae
