/- Texts of the proof, part 11: a second reading of the lowered code, proved sound, and what the functions compute. -/
import Derived.Test.YtdcellihijlekaaP10

/- The reference's registers. -/
set_option linter.unusedSimpArgs false
set_option linter.unusedVariables false
namespace Go.Ae
theorem gV_u {w : Bool} {p q : Prop} : @gV .undef w ⟨p⟩ ⟨q⟩ = q := rfl
section
variable {C : Ctx}
theorem tap_pos {n : Int} {ts : List Int} {i : Nat} (hok : ∀ q, q < i → tapOk n ts q) (q : Nat) (hq : q < i) : 0 ≤ ts.getD q 0 := by
  induction q with
  | zero => have := (hok 0 hq).1; rw [if_pos rfl] at this; omega
  | succ q ih =>
    have h1 := (hok (q + 1) hq).1
    rw [if_neg (by omega), show q + 1 - 1 = q by omega] at h1
    have := ih (by omega); omega

set_option maxRecDepth 100000 in
set_option maxHeartbeats 1000000 in
theorem check08_spec (hC : Has C T94) {n : Int} {v1 v2 : AV} {ts w : List Int} {h : Heap} (h1 : RI h v1 ts) (h2 : RI h v2 w) : ACalls C 94 [.int .i64 n, v1, v2] h (fun r h' => r = .int .i64 (regErr n ts w) ∧ h' = h) := by
  have l1 := h1.lt
  have l2 := h2.lt
  have pe : regErr n ts w = if n < 2 ∨ 16 < n then 2 else if RegGood n ts w then 0 else 3 := rfl
  by_cases c0 : n < 2 ∨ 16 < n
  · rw [if_pos c0] at pe
    rw [pe]
    (refine calls_intro (hC.body (by decide) tab94) (Nat.le_of_ble_eq_true rfl) ?_); (show wp C _ none B94.code _ _); (simp only [B94]); simp -implicitDefEqProofs (disch := first | assumption | decide | omega | (simp only [wpD1] <;> omega) | (simp only [wpD2] <;> assumption) | solve_by_elim [HSub.refl, HSub.push, HSub.reserve] | fail) only [↓wpPre, wpPost, wpPoly, Int.reduceToNat, Int.reducePow, Int.reduceMul, Int.reduceAdd, Int.reduceSub, Int.reduceNeg, Nat.reduceAdd, Nat.reduceMul, Nat.reducePow, Int.reduceLT, Int.reduceLE, Int.reduceEq, Nat.reduceEqDiff]
    (repeat' (first | (refine Br.by (fun _ => ?_) (fun _ => ?_)) | (simp -implicitDefEqProofs (disch := first | assumption | decide | omega | (simp only [wpD1] <;> omega) | (simp only [wpD2] <;> assumption) | solve_by_elim [HSub.refl, HSub.push, HSub.reserve] | fail) only [↓wpPre, wpPost, wpPoly, Int.reduceToNat, Int.reducePow, Int.reduceMul, Int.reduceAdd, Int.reduceSub, Int.reduceNeg, Nat.reduceAdd, Nat.reduceMul, Nat.reducePow, Int.reduceLT, Int.reduceLE, Int.reduceEq, Nat.reduceEqDiff])))
    all_goals omega
  rw [if_neg c0] at pe
  by_cases c1 : ts.length = 0
  · rw [if_neg (fun hg => by have := hg.1.1; omega)] at pe
    rw [pe]
    (refine calls_intro (hC.body (by decide) tab94) (Nat.le_of_ble_eq_true rfl) ?_); (show wp C _ none B94.code _ _); (simp only [B94]); simp -implicitDefEqProofs (disch := first | assumption | decide | omega | (simp only [wpD1] <;> omega) | (simp only [wpD2] <;> assumption) | solve_by_elim [HSub.refl, HSub.push, HSub.reserve] | fail) only [↓wpPre, wpPost, wpPoly, Int.reduceToNat, Int.reducePow, Int.reduceMul, Int.reduceAdd, Int.reduceSub, Int.reduceNeg, Nat.reduceAdd, Nat.reduceMul, Nat.reducePow, Int.reduceLT, Int.reduceLE, Int.reduceEq, Nat.reduceEqDiff, h1.len]
  by_cases c2 : ts.getD 0 0 ≠ 0
  · rw [if_neg (fun hg => c2 hg.1.2.1)] at pe
    rw [pe]
    (refine calls_intro (hC.body (by decide) tab94) (Nat.le_of_ble_eq_true rfl) ?_); (show wp C _ none B94.code _ _); (simp only [B94]); simp -implicitDefEqProofs (disch := first | assumption | decide | omega | (simp only [wpD1] <;> omega) | (simp only [wpD2] <;> assumption) | solve_by_elim [HSub.refl, HSub.push, HSub.reserve] | fail) only [↓wpPre, wpPost, wpPoly, Int.reduceToNat, Int.reducePow, Int.reduceMul, Int.reduceAdd, Int.reduceSub, Int.reduceNeg, Nat.reduceAdd, Nat.reduceMul, Nat.reducePow, Int.reduceLT, Int.reduceLE, Int.reduceEq, Nat.reduceEqDiff, h1.len, h1.idx, h1.load]
  have c2' : ts.getD 0 0 = 0 := Decidable.not_not.1 c2
  generalize hE : regErr n ts w = E at pe
  (refine calls_intro (hC.body (by decide) tab94) (Nat.le_of_ble_eq_true rfl) ?_); (show wp C _ none B94.code _ _); (simp only [B94]); simp -implicitDefEqProofs (disch := first | assumption | decide | omega | (simp only [wpD1] <;> omega) | (simp only [wpD2] <;> assumption) | solve_by_elim [HSub.refl, HSub.push, HSub.reserve] | fail) only [↓wpPre, wpPost, wpPoly, Int.reduceToNat, Int.reducePow, Int.reduceMul, Int.reduceAdd, Int.reduceSub, Int.reduceNeg, Nat.reduceAdd, Nat.reduceMul, Nat.reducePow, Int.reduceLT, Int.reduceLE, Int.reduceEq, Nat.reduceEqDiff, h1.len, h1.idx, h1.load, c2']
  refine wp_loopI (fun j t h' => h' = h ∧ ∃ i : Nat, t 0 = .int .i64 n ∧ t 1 = v1 ∧ t 2 = v2 ∧ t 7 = .int .i64 (i : Nat) ∧ i ≤ ts.length ∧ (∀ q, q < i → tapOk n ts q) ∧ j = ts.length - i) (j0 := ts.length)
    ⟨rfl, 0, rfl, rfl, rfl, rfl, by omega, by omega, rfl⟩ ?_
  rintro j t h' ⟨hh, i, e0, e1, e2, e7, hi, hok, hj⟩
  subst hh
  simp -implicitDefEqProofs (disch := first | assumption | decide | omega | (simp only [wpD1] <;> omega) | (simp only [wpD2] <;> assumption) | solve_by_elim [HSub.refl, HSub.push, HSub.reserve] | fail) only [↓wpPre, wpPost, wpPoly, Int.reduceToNat, Int.reducePow, Int.reduceMul, Int.reduceAdd, Int.reduceSub, Int.reduceNeg, Nat.reduceAdd, Nat.reduceMul, Nat.reducePow, Int.reduceLT, Int.reduceLE, Int.reduceEq, Nat.reduceEqDiff, e1, e7, h1.len]
  refine Br.by (fun c => ?_) (fun c => ?_)
  · have hi' : i < ts.length := by omega
    by_cases ct : tapOk n ts i
    · have ct' := ct
      unfold tapOk at ct'
      by_cases hz : i = 0
      · subst hz
        rw [if_pos rfl] at ct'
        simp -implicitDefEqProofs (disch := first | assumption | decide | omega | (simp only [wpD1] <;> omega) | (simp only [wpD2] <;> assumption) | solve_by_elim [HSub.refl, HSub.push, HSub.reserve] | fail) only [↓wpPre, wpPost, wpPoly, Int.reduceToNat, Int.reducePow, Int.reduceMul, Int.reduceAdd, Int.reduceSub, Int.reduceNeg, Nat.reduceAdd, Nat.reduceMul, Nat.reducePow, Int.reduceLT, Int.reduceLE, Int.reduceEq, Nat.reduceEqDiff, gV_u, e0, e1, e2, e7, h1.idx, h1.load]
        exact ⟨_, ⟨1, by simp, by omega, fun q hq => by
          have : q = 0 := by omega
          subst this; exact ct, rfl⟩, by omega⟩
      · rw [if_neg hz] at ct'
        have hp := tap_pos hok (i - 1) (by omega)
        have ei : ((i : Int) - 1).toNat = i - 1 := by omega
        simp -implicitDefEqProofs (disch := first | assumption | decide | omega | (simp only [wpD1] <;> omega) | (simp only [wpD2] <;> assumption) | solve_by_elim [HSub.refl, HSub.push, HSub.reserve] | fail) only [↓wpPre, wpPost, wpPoly, Int.reduceToNat, Int.reducePow, Int.reduceMul, Int.reduceAdd, Int.reduceSub, Int.reduceNeg, Nat.reduceAdd, Nat.reduceMul, Nat.reducePow, Int.reduceLT, Int.reduceLE, Int.reduceEq, Nat.reduceEqDiff, gV_u, e0, e1, e2, e7, h1.idx, h1.load, ei]
        exact ⟨_, ⟨i + 1, by simp, by omega, fun q hq => by
          by_cases e : q = i
          · subst e; exact ct
          · exact hok q (by omega), rfl⟩, by omega⟩
    · have hbad : ¬ RegGood n ts w := fun hg => ct (hg.1.2.2 i hi')
      rw [if_neg hbad] at pe
      unfold tapOk at ct
      by_cases hz : i = 0
      · subst hz
        rw [if_pos rfl] at ct
        by_cases a1 : ts.getD 0 0 < 0
        · simp -implicitDefEqProofs (disch := first | assumption | decide | omega | (simp only [wpD1] <;> omega) | (simp only [wpD2] <;> assumption) | solve_by_elim [HSub.refl, HSub.push, HSub.reserve] | fail) only [↓wpPre, wpPost, wpPoly, Int.reduceToNat, Int.reducePow, Int.reduceMul, Int.reduceAdd, Int.reduceSub, Int.reduceNeg, Nat.reduceAdd, Nat.reduceMul, Nat.reducePow, Int.reduceLT, Int.reduceLE, Int.reduceEq, Nat.reduceEqDiff, gV_u, e0, e1, e2, e7, h1.idx, h1.load, pe]
        · simp -implicitDefEqProofs (disch := first | assumption | decide | omega | (simp only [wpD1] <;> omega) | (simp only [wpD2] <;> assumption) | solve_by_elim [HSub.refl, HSub.push, HSub.reserve] | fail) only [↓wpPre, wpPost, wpPoly, Int.reduceToNat, Int.reducePow, Int.reduceMul, Int.reduceAdd, Int.reduceSub, Int.reduceNeg, Nat.reduceAdd, Nat.reduceMul, Nat.reducePow, Int.reduceLT, Int.reduceLE, Int.reduceEq, Nat.reduceEqDiff, gV_u, e0, e1, e2, e7, h1.idx, h1.load, pe]
      · rw [if_neg hz] at ct
        have ei : ((i : Int) - 1).toNat = i - 1 := by omega
        by_cases a1 : ts.getD i 0 < 0
        · simp -implicitDefEqProofs (disch := first | assumption | decide | omega | (simp only [wpD1] <;> omega) | (simp only [wpD2] <;> assumption) | solve_by_elim [HSub.refl, HSub.push, HSub.reserve] | fail) only [↓wpPre, wpPost, wpPoly, Int.reduceToNat, Int.reducePow, Int.reduceMul, Int.reduceAdd, Int.reduceSub, Int.reduceNeg, Nat.reduceAdd, Nat.reduceMul, Nat.reducePow, Int.reduceLT, Int.reduceLE, Int.reduceEq, Nat.reduceEqDiff, gV_u, e0, e1, e2, e7, h1.idx, h1.load, pe]
        · by_cases a2 : n ≤ ts.getD i 0
          · simp -implicitDefEqProofs (disch := first | assumption | decide | omega | (simp only [wpD1] <;> omega) | (simp only [wpD2] <;> assumption) | solve_by_elim [HSub.refl, HSub.push, HSub.reserve] | fail) only [↓wpPre, wpPost, wpPoly, Int.reduceToNat, Int.reducePow, Int.reduceMul, Int.reduceAdd, Int.reduceSub, Int.reduceNeg, Nat.reduceAdd, Nat.reduceMul, Nat.reducePow, Int.reduceLT, Int.reduceLE, Int.reduceEq, Nat.reduceEqDiff, gV_u, e0, e1, e2, e7, h1.idx, h1.load, pe]
          · simp -implicitDefEqProofs (disch := first | assumption | decide | omega | (simp only [wpD1] <;> omega) | (simp only [wpD2] <;> assumption) | solve_by_elim [HSub.refl, HSub.push, HSub.reserve] | fail) only [↓wpPre, wpPost, wpPoly, Int.reduceToNat, Int.reducePow, Int.reduceMul, Int.reduceAdd, Int.reduceSub, Int.reduceNeg, Nat.reduceAdd, Nat.reduceMul, Nat.reducePow, Int.reduceLT, Int.reduceLE, Int.reduceEq, Nat.reduceEqDiff, gV_u, e0, e1, e2, e7, h1.idx, h1.load, ei, pe]
  · have : i = ts.length := by omega
    subst this
    by_cases c3 : (w.length : Int) ≠ n
    · rw [if_neg (fun hg => c3 hg.2.1)] at pe
      simp -implicitDefEqProofs (disch := first | assumption | decide | omega | (simp only [wpD1] <;> omega) | (simp only [wpD2] <;> assumption) | solve_by_elim [HSub.refl, HSub.push, HSub.reserve] | fail) only [↓wpPre, wpPost, wpPoly, Int.reduceToNat, Int.reducePow, Int.reduceMul, Int.reduceAdd, Int.reduceSub, Int.reduceNeg, Nat.reduceAdd, Nat.reduceMul, Nat.reducePow, Int.reduceLT, Int.reduceLE, Int.reduceEq, Nat.reduceEqDiff, e0, e2, h2.len, pe]
    have c3' : (w.length : Int) = n := Decidable.not_not.1 c3
    simp -implicitDefEqProofs (disch := first | assumption | decide | omega | (simp only [wpD1] <;> omega) | (simp only [wpD2] <;> assumption) | solve_by_elim [HSub.refl, HSub.push, HSub.reserve] | fail) only [↓wpPre, wpPost, wpPoly, Int.reduceToNat, Int.reducePow, Int.reduceMul, Int.reduceAdd, Int.reduceSub, Int.reduceNeg, Nat.reduceAdd, Nat.reduceMul, Nat.reducePow, Int.reduceLT, Int.reduceLE, Int.reduceEq, Nat.reduceEqDiff, e0, e2, h2.len]
    refine wp_loopI (fun j u hx => hx = h' ∧ ∃ i : Nat, u 0 = .int .i64 n ∧ u 2 = v2 ∧ u 8 = .int .i64 (i : Nat) ∧ i ≤ w.length ∧ bit01 (w.take i) ∧ j = w.length - i) (j0 := w.length)
      ⟨rfl, 0, e0, e2, rfl, by omega, fun x hx => by simp at hx, rfl⟩ ?_
    rintro j u h3 ⟨hh, i, f0, f2, f8, hi, hbt, hj⟩
    subst hh
    simp -implicitDefEqProofs (disch := first | assumption | decide | omega | (simp only [wpD1] <;> omega) | (simp only [wpD2] <;> assumption) | solve_by_elim [HSub.refl, HSub.push, HSub.reserve] | fail) only [↓wpPre, wpPost, wpPoly, Int.reduceToNat, Int.reducePow, Int.reduceMul, Int.reduceAdd, Int.reduceSub, Int.reduceNeg, Nat.reduceAdd, Nat.reduceMul, Nat.reducePow, Int.reduceLT, Int.reduceLE, Int.reduceEq, Nat.reduceEqDiff, f0, f8]
    refine Br.by (fun c => ?_) (fun c => ?_)
    · have hi' : i < w.length := by omega
      by_cases cb : w.getD i 0 = 0 ∨ w.getD i 0 = 1
      · have hb1 : bit01 (w.take (i + 1)) := fun x hx => by
          rw [take_succ_getD hi'] at hx
          rcases List.mem_append.1 hx with hx | hx
          · exact hbt x hx
          · rw [List.mem_singleton.1 hx]; exact cb
        rcases cb with cb | cb
        · simp -implicitDefEqProofs (disch := first | assumption | decide | omega | (simp only [wpD1] <;> omega) | (simp only [wpD2] <;> assumption) | solve_by_elim [HSub.refl, HSub.push, HSub.reserve] | fail) only [↓wpPre, wpPost, wpPoly, Int.reduceToNat, Int.reducePow, Int.reduceMul, Int.reduceAdd, Int.reduceSub, Int.reduceNeg, Nat.reduceAdd, Nat.reduceMul, Nat.reducePow, Int.reduceLT, Int.reduceLE, Int.reduceEq, Nat.reduceEqDiff, f0, f2, f8, h2.idx, h2.load]
          exact ⟨_, ⟨i + 1, by simp, by omega, hb1, rfl⟩, by omega⟩
        · simp -implicitDefEqProofs (disch := first | assumption | decide | omega | (simp only [wpD1] <;> omega) | (simp only [wpD2] <;> assumption) | solve_by_elim [HSub.refl, HSub.push, HSub.reserve] | fail) only [↓wpPre, wpPost, wpPoly, Int.reduceToNat, Int.reducePow, Int.reduceMul, Int.reduceAdd, Int.reduceSub, Int.reduceNeg, Nat.reduceAdd, Nat.reduceMul, Nat.reducePow, Int.reduceLT, Int.reduceLE, Int.reduceEq, Nat.reduceEqDiff, f0, f2, f8, h2.idx, h2.load]
          exact ⟨_, ⟨i + 1, by simp, by omega, hb1, rfl⟩, by omega⟩
      · have hbad : ¬ RegGood n ts w := fun hg => by
          have := List.any_eq_false.1 hg.2.2 _ (getD_mem hi')
          simp only [Bool.not_eq_true, Bool.not_eq_false', Bool.or_eq_true, beq_iff_eq] at this
          exact cb this
        rw [if_neg hbad] at pe
        simp -implicitDefEqProofs (disch := first | assumption | decide | omega | (simp only [wpD1] <;> omega) | (simp only [wpD2] <;> assumption) | solve_by_elim [HSub.refl, HSub.push, HSub.reserve] | fail) only [↓wpPre, wpPost, wpPoly, Int.reduceToNat, Int.reducePow, Int.reduceMul, Int.reduceAdd, Int.reduceSub, Int.reduceNeg, Nat.reduceAdd, Nat.reduceMul, Nat.reducePow, Int.reduceLT, Int.reduceLE, Int.reduceEq, Nat.reduceEqDiff, f0, f2, f8, h2.idx, h2.load, pe]
    · have : i = w.length := by omega
      subst this
      rw [List.take_length] at hbt
      have hgood : RegGood n ts w := ⟨⟨by omega, c2', hok⟩, c3', List.any_eq_false.2 fun x hx => by
        simp only [Bool.not_eq_true, Bool.not_eq_false', Bool.or_eq_true, beq_iff_eq]; exact hbt x hx⟩
      rw [if_pos hgood] at pe
      simp -implicitDefEqProofs (disch := first | assumption | decide | omega | (simp only [wpD1] <;> omega) | (simp only [wpD2] <;> assumption) | solve_by_elim [HSub.refl, HSub.push, HSub.reserve] | fail) only [↓wpPre, wpPost, wpPoly, Int.reduceToNat, Int.reducePow, Int.reduceMul, Int.reduceAdd, Int.reduceSub, Int.reduceNeg, Nat.reduceAdd, Nat.reduceMul, Nat.reducePow, Int.reduceLT, Int.reduceLE, Int.reduceEq, Nat.reduceEqDiff, pe]
end
end Go.Ae

/- The reference's sequences and periods. -/
set_option linter.unusedSimpArgs false
set_option linter.unusedVariables false
namespace Go.Ae
theorem xor01 {a b : Int} (ha : a = 0 ∨ a = 1) (hb : b = 0 ∨ b = 1) : bitsA .xor .i64 a b = (a + b) % 2 := by
  rcases ha with rfl | rfl <;> rcases hb with rfl | rfl <;> decide
theorem runL_idx {n : Nat} {ts w : List Int} (R : RegOk n ts w) {i t : Nat} (ht : t < n) : (runL ts w (n + i)).getD (i + t) 0 = (winW ts w i).getD t 0 := by
  rw [runL_get (by omega), winW_get R.w1 t i (by rw [R.len]; exact ht)]
section
variable {C : Ctx}
set_option maxRecDepth 100000 in
set_option maxHeartbeats 1000000 in
theorem run08_spec (hC : Has C T91) {n : Nat} {m : Int} {v1 v2 : AV} {ts w : List Int} {h : Heap} (h1 : RI h v1 ts) (h2 : RI h v2 w) (R : RegOk n ts w) (hm : m ≤ 1000000) (hm2 : In64 m) :
    ACalls C 91 [.int .i64 (n : Nat), v1, v2, .int .i64 m] h (fun r h' => ∃ L : Nat, GrwI h h' r (runL ts w L) ∧ n ≤ L ∧ (m ≤ L) ∧ (L : Int) = max (n : Int) m) := by
  have hn2 := R.n2
  have hn16 := R.n16
  have hwl := R.len
  have l1 := h1.lt
  unfold In64 at hm2
  obtain ⟨i, o, q, cp, rfl⟩ : ∃ i o n cp, v2 = .slice i o n cp := by
    obtain ⟨_, _, ⟨rfl, h1⟩ | ⟨i, o, cp, vs, wr, u, rfl, _⟩⟩ := h2
    · omega
    · exact ⟨_, _, _, _, rfl⟩
  have hc' : contentA (h.push (.cells [] true 0)) 1 (.slice i o q cp) = some (w.length, ints w) := (h2.mono (HSub.push1 _ _)).content
  have rs := runL_start (ts := ts) R.w1
  rw [hwl] at rs
  (refine calls_intro (hC.body (by decide) tab91) (Nat.le_of_ble_eq_true rfl) ?_); (show wp C _ none B91.code _ _); (simp only [B91]); simp -implicitDefEqProofs (disch := first | assumption | decide | omega | (simp only [wpD1] <;> omega) | (simp only [wpD2] <;> assumption) | solve_by_elim [HSub.refl, HSub.push, HSub.reserve] | fail) only [↓wpPre, wpPost, wpPoly, Int.reduceToNat, Int.reducePow, Int.reduceMul, Int.reduceAdd, Int.reduceSub, Int.reduceNeg, Nat.reduceAdd, Nat.reduceMul, Nat.reducePow, Int.reduceLT, Int.reduceLE, Int.reduceEq, Nat.reduceEqDiff, hc']
  refine wp_loopI (fun j t h' => ∃ i : Nat, GrwI h h' (t 9) (runL ts w (n + i)) ∧ t 1 = v1 ∧ t 3 = .int .i64 m ∧ t 10 = .int .i64 (i : Nat) ∧ (i = 0 ∨ n + i ≤ m) ∧ j = (m - (n + i)).toNat) (j0 := (m - n).toNat)
    ⟨0, ?_, rfl, rfl, rfl, by omega, by omega⟩ ?_
  · show GrwI h _ (.slice (h.size + 1) 0 w.length (.unk 0)) (runL ts w n)
    rw [rs]
    exact Grw.fresh ((HSub.push1 _ _).push _) (by omega) (by omega) (get_push_eq rfl)
  rintro j t h' ⟨i, A, e1, e3, e10, hi, hj⟩
  have rl := runL_length ts w (n + i)
  have RA := A.ri
  simp -implicitDefEqProofs (disch := first | assumption | decide | omega | (simp only [wpD1] <;> omega) | (simp only [wpD2] <;> assumption) | solve_by_elim [HSub.refl, HSub.push, HSub.reserve] | fail) only [↓wpPre, wpPost, wpPoly, Int.reduceToNat, Int.reducePow, Int.reduceMul, Int.reduceAdd, Int.reduceSub, Int.reduceNeg, Nat.reduceAdd, Nat.reduceMul, Nat.reducePow, Int.reduceLT, Int.reduceLE, Int.reduceEq, Nat.reduceEqDiff, e3, RA.len, rl]
  refine Br.by (fun c => ?_) (fun c => ?_)
  · simp -implicitDefEqProofs (disch := first | assumption | decide | omega | (simp only [wpD1] <;> omega) | (simp only [wpD2] <;> assumption) | solve_by_elim [HSub.refl, HSub.push, HSub.reserve] | fail) only [↓wpPre, wpPost, wpPoly, Int.reduceToNat, Int.reducePow, Int.reduceMul, Int.reduceAdd, Int.reduceSub, Int.reduceNeg, Nat.reduceAdd, Nat.reduceMul, Nat.reducePow, Int.reduceLT, Int.reduceLE, Int.reduceEq, Nat.reduceEqDiff]
    have h1' := h1.mono A.sub
    refine wp_loopI (fun j u hx => hx = h' ∧ ∃ k : Nat, u 9 = t 9 ∧ u 1 = v1 ∧ u 3 = .int .i64 m ∧ u 10 = .int .i64 (i : Nat) ∧ u 11 = .int .i64 (xorT (ts.take k) (winW ts w i)) ∧ u 12 = .int .i64 (k : Nat) ∧ k ≤ ts.length ∧ j = ts.length - k) (j0 := ts.length)
      ⟨rfl, 0, rfl, e1, e3, e10, rfl, rfl, by omega, rfl⟩ ?_
    rintro j u hx ⟨hh, k, f9, f1, f3, f10, f11, f12, hk, hj⟩
    subst hh
    simp -implicitDefEqProofs (disch := first | assumption | decide | omega | (simp only [wpD1] <;> omega) | (simp only [wpD2] <;> assumption) | solve_by_elim [HSub.refl, HSub.push, HSub.reserve] | fail) only [↓wpPre, wpPost, wpPoly, Int.reduceToNat, Int.reducePow, Int.reduceMul, Int.reduceAdd, Int.reduceSub, Int.reduceNeg, Nat.reduceAdd, Nat.reduceMul, Nat.reducePow, Int.reduceLT, Int.reduceLE, Int.reduceEq, Nat.reduceEqDiff, f1, f12, h1'.len]
    refine Br.by (fun c2 => ?_) (fun c2 => ?_)
    · have hk' : k < ts.length := by omega
      have t0 := tap_nonneg R.taps hk'
      have t1 := (R.taps k hk').2
      have ei : ((i : Int) + ts.getD k 0).toNat = i + (ts.getD k 0).toNat := by omega
      have eg := runL_idx R (i := i) (t := (ts.getD k 0).toNat) (by omega)
      have x1 := xorT_01 (ts.take k) (winW ts w i)
      have x2 := (winW_01 (ts := ts) R.bits i).get (ts.getD k 0).toNat
      have ex := xor01 x1 x2
      have es : xorT (ts.take (k + 1)) (winW ts w i) = (xorT (ts.take k) (winW ts w i) + (winW ts w i).getD (ts.getD k 0).toNat 0) % 2 := by rw [take_succ_getD hk', xorT_snoc]
      rw [← es] at ex
      simp -implicitDefEqProofs (disch := first | assumption | decide | omega | (simp only [wpD1] <;> omega) | (simp only [wpD2] <;> assumption) | solve_by_elim [HSub.refl, HSub.push, HSub.reserve] | fail) only [↓wpPre, wpPost, wpPoly, Int.reduceToNat, Int.reducePow, Int.reduceMul, Int.reduceAdd, Int.reduceSub, Int.reduceNeg, Nat.reduceAdd, Nat.reduceMul, Nat.reducePow, Int.reduceLT, Int.reduceLE, Int.reduceEq, Nat.reduceEqDiff, f1, f3, f9, f10, f11, f12, h1'.idx, h1'.load, RA.idx, RA.load, ei, eg, ex]
      exact ⟨_, ⟨k + 1, rfl, by simp, by omega, rfl⟩, by omega⟩
    · have : k = ts.length := by omega
      subst this
      rw [List.take_length] at f11
      have ex : xorT ts (winW ts w i) = seqB ts w (n + i) := by
        have := seqB_next (ts := ts) R.w1 i
        rw [hwl] at this
        rw [← this, Nat.add_comm]
      have A2 := A.snoc (x := seqB ts w (n + i)) (HSub.push1 hx (.cells [.int .i64 (seqB ts w (n + i))] true 0)) (by omega)
      rw [← runL_succ, rl] at A2
      have ers := runL_succ ts w (n + i)
      rw [ex] at f11
      simp -implicitDefEqProofs (disch := first | assumption | decide | omega | (simp only [wpD1] <;> omega) | (simp only [wpD2] <;> assumption) | solve_by_elim [HSub.refl, HSub.push, HSub.reserve] | fail) only [↓wpPre, wpPost, wpPoly, Int.reduceToNat, Int.reducePow, Int.reduceMul, Int.reduceAdd, Int.reduceSub, Int.reduceNeg, Nat.reduceAdd, Nat.reduceMul, Nat.reducePow, Int.reduceLT, Int.reduceLE, Int.reduceEq, Nat.reduceEqDiff, f1, f3, f9, f10, f11, cont_slice, contB_one, A.app, rl, ← ers]
      exact ⟨_, ⟨i + 1, A2, by simp, by omega, rfl⟩, by omega⟩
  · simp -implicitDefEqProofs (disch := first | assumption | decide | omega | (simp only [wpD1] <;> omega) | (simp only [wpD2] <;> assumption) | solve_by_elim [HSub.refl, HSub.push, HSub.reserve] | fail) only [↓wpPre, wpPost, wpPoly, Int.reduceToNat, Int.reducePow, Int.reduceMul, Int.reduceAdd, Int.reduceSub, Int.reduceNeg, Nat.reduceAdd, Nat.reduceMul, Nat.reducePow, Int.reduceLT, Int.reduceLE, Int.reduceEq, Nat.reduceEqDiff]
    exact ⟨n + i, A, by omega, by omega, by omega⟩

theorem Run08_spec (hC : Has C T82) {n m : Int} {v1 v2 : AV} {ts w : List Int} {h : Heap} (h1 : RI h v1 ts) (h2 : RI h v2 w) (hm : In64 m) :
    ACalls C 82 [.int .i64 n, v1, v2, .int .i64 m] h (fun r h' => ∃ v', r = lstErr v' (runErr n ts w m) ∧ HSub h h' ∧ RI h' v' (if runErr n ts w m = 0 then runL ts w m.toNat else [])) := by
  have pe : runErr n ts w m = if regErr n ts w = 0 then (if m < 0 ∨ 100000 < m then 4 else 0) else regErr n ts w := rfl
  have hm' := hm
  unfold In64 at hm'
  by_cases c : regErr n ts w = 0
  · rw [if_pos c] at pe
    obtain ⟨k, rfl, R⟩ := regErr_ok c
    (refine calls_intro (hC.body (by decide) tab82) (Nat.le_of_ble_eq_true rfl) ?_); (show wp C _ none B82.code _ _); (simp only [B82]); simp -implicitDefEqProofs (disch := first | assumption | decide | omega | (simp only [wpD1] <;> omega) | (simp only [wpD2] <;> assumption) | solve_by_elim [HSub.refl, HSub.push, HSub.reserve] | fail) only [↓wpPre, wpPost, wpPoly, Int.reduceToNat, Int.reducePow, Int.reduceMul, Int.reduceAdd, Int.reduceSub, Int.reduceNeg, Nat.reduceAdd, Nat.reduceMul, Nat.reducePow, Int.reduceLT, Int.reduceLE, Int.reduceEq, Nat.reduceEqDiff]
    refine ACallsK.eq2 (check08_spec (hC.sub (T' := T94) (by decide)) h1 h2) (by rw [c]) ?_
    by_cases c2 : m < 0 ∨ 100000 < m
    · rw [if_pos c2] at pe
      simp -implicitDefEqProofs (disch := first | assumption | decide | omega | (simp only [wpD1] <;> omega) | (simp only [wpD2] <;> assumption) | solve_by_elim [HSub.refl, HSub.push, HSub.reserve] | fail) only [↓wpPre, wpPost, wpPoly, Int.reduceToNat, Int.reducePow, Int.reduceMul, Int.reduceAdd, Int.reduceSub, Int.reduceNeg, Nat.reduceAdd, Nat.reduceMul, Nat.reducePow, Int.reduceLT, Int.reduceLE, Int.reduceEq, Nat.reduceEqDiff]
      (repeat' (first | (refine Br.by (fun _ => ?_) (fun _ => ?_)) | (simp -implicitDefEqProofs (disch := first | assumption | decide | omega | (simp only [wpD1] <;> omega) | (simp only [wpD2] <;> assumption) | solve_by_elim [HSub.refl, HSub.push, HSub.reserve] | fail) only [↓wpPre, wpPost, wpPoly, Int.reduceToNat, Int.reducePow, Int.reduceMul, Int.reduceAdd, Int.reduceSub, Int.reduceNeg, Nat.reduceAdd, Nat.reduceMul, Nat.reducePow, Int.reduceLT, Int.reduceLE, Int.reduceEq, Nat.reduceEqDiff])))
      all_goals first | exact ⟨.nilslice, by rw [pe, lstErr], HSub.refl _, by rw [if_neg (by rw [pe]; decide)]; exact RI.nil⟩ | omega
    · rw [if_neg c2] at pe
      obtain ⟨q, rfl⟩ := Int.eq_ofNat_of_zero_le (show 0 ≤ m by omega)
      simp -implicitDefEqProofs (disch := first | assumption | decide | omega | (simp only [wpD1] <;> omega) | (simp only [wpD2] <;> assumption) | solve_by_elim [HSub.refl, HSub.push, HSub.reserve] | fail) only [↓wpPre, wpPost, wpPoly, Int.reduceToNat, Int.reducePow, Int.reduceMul, Int.reduceAdd, Int.reduceSub, Int.reduceNeg, Nat.reduceAdd, Nat.reduceMul, Nat.reducePow, Int.reduceLT, Int.reduceLE, Int.reduceEq, Nat.reduceEqDiff]
      refine ACallsK.of (run08_spec (hC.sub (T' := T91) (by decide)) h1 h2 R (by omega) hm) ?_
      rintro r h' ⟨L, A, hL1, hL2, hL3⟩
      have RA := A.ri
      have rl := runL_length ts w L
      have Pa := RA.part_b (k2 := .i64) (b := ((q : Nat) : Int)) (by omega)
      obtain ⟨wa, ea, Rwa⟩ := Pa
      simp -implicitDefEqProofs (disch := first | assumption | decide | omega | (simp only [wpD1] <;> omega) | (simp only [wpD2] <;> assumption) | solve_by_elim [HSub.refl, HSub.push, HSub.reserve] | fail) only [↓wpPre, wpPost, wpPoly, Int.reduceToNat, Int.reducePow, Int.reduceMul, Int.reduceAdd, Int.reduceSub, Int.reduceNeg, Nat.reduceAdd, Nat.reduceMul, Nat.reducePow, Int.reduceLT, Int.reduceLE, Int.reduceEq, Nat.reduceEqDiff, ea]
      refine ⟨wa, by rw [pe, lstErr], A.sub, ?_⟩
      rw [if_pos pe]
      rw [runL_take (by omega)] at Rwa
      simpa using Rwa
  · rw [if_neg c] at pe
    (refine calls_intro (hC.body (by decide) tab82) (Nat.le_of_ble_eq_true rfl) ?_); (show wp C _ none B82.code _ _); (simp only [B82]); simp -implicitDefEqProofs (disch := first | assumption | decide | omega | (simp only [wpD1] <;> omega) | (simp only [wpD2] <;> assumption) | solve_by_elim [HSub.refl, HSub.push, HSub.reserve] | fail) only [↓wpPre, wpPost, wpPoly, Int.reduceToNat, Int.reducePow, Int.reduceMul, Int.reduceAdd, Int.reduceSub, Int.reduceNeg, Nat.reduceAdd, Nat.reduceMul, Nat.reducePow, Int.reduceLT, Int.reduceLE, Int.reduceEq, Nat.reduceEqDiff]
    refine ACallsK.eq (check08_spec (hC.sub (T' := T94) (by decide)) h1 h2) ?_
    simp -implicitDefEqProofs (disch := first | assumption | decide | omega | (simp only [wpD1] <;> omega) | (simp only [wpD2] <;> assumption) | solve_by_elim [HSub.refl, HSub.push, HSub.reserve] | fail) only [↓wpPre, wpPost, wpPoly, Int.reduceToNat, Int.reducePow, Int.reduceMul, Int.reduceAdd, Int.reduceSub, Int.reduceNeg, Nat.reduceAdd, Nat.reduceMul, Nat.reducePow, Int.reduceLT, Int.reduceLE, Int.reduceEq, Nat.reduceEqDiff]
    exact ⟨.nilslice, by rw [pe, lstErr], HSub.refl _, by rw [if_neg (by rw [pe]; exact c)]; exact RI.nil⟩
end
end Go.Ae

/- The reference's periods; the statement on registers of layer 8. -/
set_option linter.unusedSimpArgs false
set_option linter.unusedVariables false
namespace Go.Ae
theorem all_take {l m : List Int} {k q : Nat} : ((List.range (q + 1)).all fun i => l.getD (k + i) 0 == m.getD i 0) = (((List.range q).all fun i => l.getD (k + i) 0 == m.getD i 0) && (l.getD (k + q) 0 == m.getD q 0)) := by
  rw [List.range_succ, List.all_append]; simp
section
variable {C : Ctx}
set_option maxRecDepth 100000 in
set_option maxHeartbeats 1000000 in
theorem Period08_spec (hC : Has C T84) {n : Int} {v1 v2 : AV} {ts w : List Int} {K : Nat} {h : Heap} (h1 : RI h v1 ts) (h2 : RI h v2 w) (hK : regErr n ts w = 0 → IsPeriod ts w K ∧ (K : Int) ≤ 2 ^ n.toNat) (hK2 : K ≤ 65536) :
    ACalls C 84 [.int .i64 n, v1, v2] h (fun r h' => r = (if regErr n ts w = 0 then tup2 K 0 else tup2 0 (regErr n ts w)) ∧ HSub h h') := by
  by_cases c : regErr n ts w = 0
  · obtain ⟨k0, rfl, R⟩ := regErr_ok c
    obtain ⟨hP, hPK⟩ := hK c
    rw [if_pos c]
    rw [Int.toNat_natCast, cast_pow] at hPK
    have hn2 := R.n2
    have hn16 := R.n16
    have hwl := R.len
    have hpw := pow_le16 hn16
    have ec := cast_pow k0
    obtain ⟨P, hPp⟩ : ∃ P, P = 2 ^ k0 := ⟨_, rfl⟩
    rw [← hPp] at hpw ec hPK
    (refine calls_intro (hC.body (by decide) tab84) (Nat.le_of_ble_eq_true rfl) ?_); (show wp C _ none B84.code _ _); (simp only [B84]); simp -implicitDefEqProofs (disch := first | assumption | decide | omega | (simp only [wpD1] <;> omega) | (simp only [wpD2] <;> assumption) | solve_by_elim [HSub.refl, HSub.push, HSub.reserve] | fail) only [↓wpPre, wpPost, wpPoly, Int.reduceToNat, Int.reducePow, Int.reduceMul, Int.reduceAdd, Int.reduceSub, Int.reduceNeg, Nat.reduceAdd, Nat.reduceMul, Nat.reducePow, Int.reduceLT, Int.reduceLE, Int.reduceEq, Nat.reduceEqDiff]
    refine ACallsK.eq2 (check08_spec (hC.sub (T' := T94) (by decide)) h1 h2) (by rw [c]) ?_
    simp -implicitDefEqProofs (disch := first | assumption | decide | omega | (simp only [wpD1] <;> omega) | (simp only [wpD2] <;> assumption) | solve_by_elim [HSub.refl, HSub.push, HSub.reserve] | fail) only [↓wpPre, wpPost, wpPoly, Int.reduceToNat, Int.reducePow, Int.reduceMul, Int.reduceAdd, Int.reduceSub, Int.reduceNeg, Nat.reduceAdd, Nat.reduceMul, Nat.reducePow, Int.reduceLT, Int.reduceLE, Int.reduceEq, Nat.reduceEqDiff, Int.one_mul, ec]
    refine ACallsK.of (run08_spec (hC.sub (T' := T91) (by decide)) (m := (P : Int) + k0) h1 h2 R (by omega) (by unfold In64; omega)) ?_
    rintro r h' ⟨L, A, hL1, hL2, hL3⟩
    have RA := A.ri
    have rl := runL_length ts w L
    have h2' := h2.mono A.sub
    have hsame : ∀ k, k + k0 ≤ L → ((List.range k0).all fun i => (runL ts w L).getD (k + i) 0 == w.getD i 0) = decide (winW ts w k = w) := by
      intro k hk
      rw [Bool.eq_iff_iff]
      simp only [List.all_eq_true, List.mem_range, beq_iff_eq, decide_eq_true_eq]
      have hg : ∀ i, i < k0 → (runL ts w L).getD (k + i) 0 = (winW ts w k).getD i 0 := fun i hi => by
        rw [runL_get (by omega), winW_get R.w1 i k (by omega)]
      constructor
      · intro h
        refine seq_ext (by rw [winW_length R.w1]) fun i hi => ?_
        rw [winW_length R.w1, hwl] at hi
        rw [← hg i hi, h i hi]
      · intro h i hi
        rw [hg i hi, h]
    simp -implicitDefEqProofs (disch := first | assumption | decide | omega | (simp only [wpD1] <;> omega) | (simp only [wpD2] <;> assumption) | solve_by_elim [HSub.refl, HSub.push, HSub.reserve] | fail) only [↓wpPre, wpPost, wpPoly, Int.reduceToNat, Int.reducePow, Int.reduceMul, Int.reduceAdd, Int.reduceSub, Int.reduceNeg, Nat.reduceAdd, Nat.reduceMul, Nat.reducePow, Int.reduceLT, Int.reduceLE, Int.reduceEq, Nat.reduceEqDiff]
    refine wp_loopI (fun j t hx => hx = h' ∧ ∃ k : Nat, t 0 = .int .i64 (k0 : Nat) ∧ t 2 = v2 ∧ t 9 = r ∧ t 10 = .int .i64 (k : Nat) ∧ 1 ≤ k ∧ k ≤ K ∧ (∀ q, 1 ≤ q → q < k → winW ts w q ≠ w) ∧ j = K - k) (j0 := K - 1)
      ⟨rfl, 1, rfl, rfl, rfl, rfl, by omega, hP.1, fun q h1 h2 => by omega, rfl⟩ ?_
    rintro j t hx ⟨hh, k, e0, e2, e9, e10, hk1, hk2, hne, hj⟩
    subst hh
    simp -implicitDefEqProofs (disch := first | assumption | decide | omega | (simp only [wpD1] <;> omega) | (simp only [wpD2] <;> assumption) | solve_by_elim [HSub.refl, HSub.push, HSub.reserve] | fail) only [↓wpPre, wpPost, wpPoly, Int.reduceToNat, Int.reducePow, Int.reduceMul, Int.reduceAdd, Int.reduceSub, Int.reduceNeg, Nat.reduceAdd, Nat.reduceMul, Nat.reducePow, Int.reduceLT, Int.reduceLE, Int.reduceEq, Nat.reduceEqDiff]
    refine wp_loopI (fun j u hy => hy = hx ∧ ∃ q : Nat, u 0 = .int .i64 (k0 : Nat) ∧ u 2 = v2 ∧ u 9 = r ∧ u 10 = .int .i64 (k : Nat) ∧ u 11 = .bool ((List.range q).all fun i => (runL ts w L).getD (k + i) 0 == w.getD i 0) ∧ u 12 = .int .i64 (q : Nat) ∧ q ≤ k0 ∧ j = k0 - q) (j0 := k0)
      ⟨rfl, 0, e0, e2, e9, e10, rfl, rfl, by omega, rfl⟩ ?_
    rintro j u hy ⟨hh, q, f0, f2, f9, f10, f11, f12, hq, hj⟩
    subst hh
    simp -implicitDefEqProofs (disch := first | assumption | decide | omega | (simp only [wpD1] <;> omega) | (simp only [wpD2] <;> assumption) | solve_by_elim [HSub.refl, HSub.push, HSub.reserve] | fail) only [↓wpPre, wpPost, wpPoly, Int.reduceToNat, Int.reducePow, Int.reduceMul, Int.reduceAdd, Int.reduceSub, Int.reduceNeg, Nat.reduceAdd, Nat.reduceMul, Nat.reducePow, Int.reduceLT, Int.reduceLE, Int.reduceEq, Nat.reduceEqDiff, f0, f12]
    refine Br.by (fun c2 => ?_) (fun c2 => ?_)
    · have hq' : q < k0 := by omega
      have ei : ((k : Int) + q).toNat = k + q := by omega
      have ea := all_take (l := runL ts w L) (m := w) (k := k) (q := q)
      by_cases cb : ((List.range q).all fun i => (runL ts w L).getD (k + i) 0 == w.getD i 0) = true
      · rw [cb] at f11 ea
        rw [Bool.true_and] at ea
        simp -implicitDefEqProofs (disch := first | assumption | decide | omega | (simp only [wpD1] <;> omega) | (simp only [wpD2] <;> assumption) | solve_by_elim [HSub.refl, HSub.push, HSub.reserve] | fail) only [↓wpPre, wpPost, wpPoly, Int.reduceToNat, Int.reducePow, Int.reduceMul, Int.reduceAdd, Int.reduceSub, Int.reduceNeg, Nat.reduceAdd, Nat.reduceMul, Nat.reducePow, Int.reduceLT, Int.reduceLE, Int.reduceEq, Nat.reduceEqDiff, f0, f2, f9, f10, f11, f12, RA.idx, RA.load, h2'.idx, h2'.load, ei]
        refine ⟨_, ⟨q + 1, ?_, by simp, by omega, rfl⟩, by omega⟩
        rw [ea, Bool.beq_eq_decide_eq]
      · have cb' : ((List.range q).all fun i => (runL ts w L).getD (k + i) 0 == w.getD i 0) = false := Bool.eq_false_iff.2 cb
        rw [cb'] at f11 ea
        rw [Bool.false_and] at ea
        simp -implicitDefEqProofs (disch := first | assumption | decide | omega | (simp only [wpD1] <;> omega) | (simp only [wpD2] <;> assumption) | solve_by_elim [HSub.refl, HSub.push, HSub.reserve] | fail) only [↓wpPre, wpPost, wpPoly, Int.reduceToNat, Int.reducePow, Int.reduceMul, Int.reduceAdd, Int.reduceSub, Int.reduceNeg, Nat.reduceAdd, Nat.reduceMul, Nat.reducePow, Int.reduceLT, Int.reduceLE, Int.reduceEq, Nat.reduceEqDiff, f0, f2, f9, f10, f11, f12]
        exact ⟨_, ⟨q + 1, by rw [ea], by simp, by omega, rfl⟩, by omega⟩
    · have : q = k0 := by omega
      subst this
      rw [hsame k (by omega)] at f11
      simp -implicitDefEqProofs (disch := first | assumption | decide | omega | (simp only [wpD1] <;> omega) | (simp only [wpD2] <;> assumption) | solve_by_elim [HSub.refl, HSub.push, HSub.reserve] | fail) only [↓wpPre, wpPost, wpPoly, Int.reduceToNat, Int.reducePow, Int.reduceMul, Int.reduceAdd, Int.reduceSub, Int.reduceNeg, Nat.reduceAdd, Nat.reduceMul, Nat.reducePow, Int.reduceLT, Int.reduceLE, Int.reduceEq, Nat.reduceEqDiff, f11]
      refine Br.by (fun c3 => ?_) (fun c3 => ?_)
      · have : k = K := by
          rcases Nat.lt_or_ge k K with x | x
          · exact absurd c3 (hP.2.2 k hk1 x)
          · omega
        subst this
        simp -implicitDefEqProofs (disch := first | assumption | decide | omega | (simp only [wpD1] <;> omega) | (simp only [wpD2] <;> assumption) | solve_by_elim [HSub.refl, HSub.push, HSub.reserve] | fail) only [↓wpPre, wpPost, wpPoly, Int.reduceToNat, Int.reducePow, Int.reduceMul, Int.reduceAdd, Int.reduceSub, Int.reduceNeg, Nat.reduceAdd, Nat.reduceMul, Nat.reducePow, Int.reduceLT, Int.reduceLE, Int.reduceEq, Nat.reduceEqDiff, f10]
        exact ⟨rfl, A.sub⟩
      · have hlt : k < K := by
          rcases Nat.lt_or_ge k K with x | x
          · exact x
          · have : k = K := by omega
            rw [this] at c3; exact absurd hP.2.1 c3
        simp -implicitDefEqProofs (disch := first | assumption | decide | omega | (simp only [wpD1] <;> omega) | (simp only [wpD2] <;> assumption) | solve_by_elim [HSub.refl, HSub.push, HSub.reserve] | fail) only [↓wpPre, wpPost, wpPoly, Int.reduceToNat, Int.reducePow, Int.reduceMul, Int.reduceAdd, Int.reduceSub, Int.reduceNeg, Nat.reduceAdd, Nat.reduceMul, Nat.reducePow, Int.reduceLT, Int.reduceLE, Int.reduceEq, Nat.reduceEqDiff, f0, f2, f9, f10]
        exact ⟨_, ⟨k + 1, by simp, by omega, by omega, fun q h1 h2 => by
          by_cases e : q = k
          · subst e; exact c3
          · exact hne q h1 (by omega), rfl⟩, by omega⟩
  · rw [if_neg c]
    (refine calls_intro (hC.body (by decide) tab84) (Nat.le_of_ble_eq_true rfl) ?_); (show wp C _ none B84.code _ _); (simp only [B84]); simp -implicitDefEqProofs (disch := first | assumption | decide | omega | (simp only [wpD1] <;> omega) | (simp only [wpD2] <;> assumption) | solve_by_elim [HSub.refl, HSub.push, HSub.reserve] | fail) only [↓wpPre, wpPost, wpPoly, Int.reduceToNat, Int.reducePow, Int.reduceMul, Int.reduceAdd, Int.reduceSub, Int.reduceNeg, Nat.reduceAdd, Nat.reduceMul, Nat.reducePow, Int.reduceLT, Int.reduceLE, Int.reduceEq, Nat.reduceEqDiff]
    refine ACallsK.eq (check08_spec (hC.sub (T' := T94) (by decide)) h1 h2) ?_
    simp -implicitDefEqProofs (disch := first | assumption | decide | omega | (simp only [wpD1] <;> omega) | (simp only [wpD2] <;> assumption) | solve_by_elim [HSub.refl, HSub.push, HSub.reserve] | fail) only [↓wpPre, wpPost, wpPoly, Int.reduceToNat, Int.reducePow, Int.reduceMul, Int.reduceAdd, Int.reduceSub, Int.reduceNeg, Nat.reduceAdd, Nat.reduceMul, Nat.reducePow, Int.reduceLT, Int.reduceLE, Int.reduceEq, Nat.reduceEqDiff]
    exact ⟨rfl, HSub.refl _⟩

end
end Go.Ae

/- Lengths and taps of codes, of the program and of the reference. -/
set_option linter.unusedSimpArgs false
set_option linter.unusedVariables false
namespace Go.Ae

def lenOk (d : Int) : Bool := [5, 6, 7, 9, 10].any fun y => d == y
theorem lenOk_cases {d : Int} (h : lenOk d = true) : d = 5 ∨ d = 6 ∨ d = 7 ∨ d = 9 ∨ d = 10 := by
  simp only [lenOk, List.any_cons, List.any_nil, Bool.or_false, Bool.or_eq_true, beq_iff_eq] at h; exact h
def lenN (d : Int) : Nat := 2 ^ d.toNat - 1
theorem lenN_eq {d : Int} (h : lenOk d = true) : 31 ≤ lenN d ∧ lenN d ≤ 1023 ∧ (2 : Int) ^ d.toNat = ((lenN d + 1 : Nat) : Int) := by
  rcases lenOk_cases h with rfl | rfl | rfl | rfl | rfl <;> decide
def lenE (d : Int) : AV := if lenOk d = true then tup2 (lenN d) 0 else tup2 0 2
/-- The taps of the registers. -/
def tapsL (d w : Int) : List Int :=
  if d = 5 then (if w = 1 then [0, 2] else [0, 2, 3, 4]) else if d = 6 then (if w = 1 then [0, 1] else [0, 1, 2, 5]) else if d = 7 then (if w = 1 then [0, 3] else [0, 1, 2, 3])
  else if d = 9 then (if w = 1 then [0, 4] else [0, 3, 4, 6]) else (if w = 1 then [0, 3] else [0, 2, 3, 8])
def tapsErr (d w : Int) : Int := if lenOk d = true ∧ (w = 1 ∨ w = 2) then 0 else 2
theorem idxVal_agg {agg : Bool} {sz len : Nat} {vs : List AV} {kk : IntKind} {k : Int} (h : 0 ≤ k ∧ k < len) : idxValA agg sz len (.agg vs) (.int kk k) = partA agg vs (k.toNat * sz) sz := by simp [idxValA, h]
section
variable {C : Ctx}
theorem Length_spec (hC : Has C T70) {d : Int} {h : Heap} (hd : In64 d) : ACalls C 70 [.int .i64 d] h (fun r h' => r = lenE d ∧ h' = h) := by
  unfold In64 at hd
  refine ACalls.gc0 (P := fun r h' => r = lenE d ∧ HSub h h') ?_ (fun r h' hp => ⟨by rw [hp.1]; unfold lenE tup2; split <;> exact free_tuple (by simp [AV.free, AV.bel]), hp.2, hp.1, rfl⟩)
  (refine calls_intro (hC.body (by decide) tab70) (Nat.le_of_ble_eq_true rfl) ?_); (show wp C _ none B70.code _ _); (simp only [B70]); simp -implicitDefEqProofs (disch := first | assumption | decide | omega | (simp only [wpD1] <;> omega) | (simp only [wpD2] <;> assumption) | solve_by_elim [HSub.refl, HSub.push, HSub.reserve] | fail) only [↓wpPre, wpPost, wpPoly, Int.reduceToNat, Int.reducePow, Int.reduceMul, Int.reduceAdd, Int.reduceSub, Int.reduceNeg, Nat.reduceAdd, Nat.reduceMul, Nat.reducePow, Int.reduceLT, Int.reduceLE, Int.reduceEq, Nat.reduceEqDiff]
  refine ACallsK.eq (Contains_spec (hC.sub (T' := T89) (by decide)) (l := [5, 6, 7, 9, 10]) (RI.known (get_push_eq rfl) ⟨rfl, by decide⟩ (by decide))) ?_
  by_cases c : lenOk d = true
  · have hl := lenN_eq c
    have hc := lenOk_cases c
    have c' : ([5, 6, 7, 9, 10].any fun y => d == y) = true := c
    rw [c']
    simp -implicitDefEqProofs (disch := first | assumption | decide | omega | (simp only [wpD1] <;> omega) | (simp only [wpD2] <;> assumption) | solve_by_elim [HSub.refl, HSub.push, HSub.reserve] | fail) only [↓wpPre, wpPost, wpPoly, Int.reduceToNat, Int.reducePow, Int.reduceMul, Int.reduceAdd, Int.reduceSub, Int.reduceNeg, Nat.reduceAdd, Nat.reduceMul, Nat.reducePow, Int.reduceLT, Int.reduceLE, Int.reduceEq, Nat.reduceEqDiff, Int.one_mul, hl.2.2]
    exact ⟨by unfold lenE tup2; rw [if_pos c]; simp, HSub.push1 _ _⟩
  · have c' : ([5, 6, 7, 9, 10].any fun y => d == y) = false := Bool.eq_false_iff.2 c
    rw [c']
    simp -implicitDefEqProofs (disch := first | assumption | decide | omega | (simp only [wpD1] <;> omega) | (simp only [wpD2] <;> assumption) | solve_by_elim [HSub.refl, HSub.push, HSub.reserve] | fail) only [↓wpPre, wpPost, wpPoly, Int.reduceToNat, Int.reducePow, Int.reduceMul, Int.reduceAdd, Int.reduceSub, Int.reduceNeg, Nat.reduceAdd, Nat.reduceMul, Nat.reducePow, Int.reduceLT, Int.reduceLE, Int.reduceEq, Nat.reduceEqDiff]
    exact ⟨by unfold lenE tup2; rw [if_neg c], HSub.push1 _ _⟩
theorem Length08_spec (hC : Has C T71) {d : Int} {h : Heap} (hd : In64 d) : ACalls C 71 [.int .i64 d] h (fun r h' => r = lenE d ∧ h' = h) := by
  unfold In64 at hd
  by_cases c : lenOk d = true
  · have e : lenE d = tup2 (lenN d) 0 := by unfold lenE; rw [if_pos c]
    rw [e]
    have hl := lenN_eq c
    have e2 : ((lenN d + 1 : Nat) : Int) - 1 = lenN d := by omega
    rcases lenOk_cases c with rfl | rfl | rfl | rfl | rfl <;>
    · (refine calls_intro (hC.body (by decide) tab71) (Nat.le_of_ble_eq_true rfl) ?_); (show wp C _ none B71.code _ _); (simp only [B71]); simp -implicitDefEqProofs (disch := first | assumption | decide | omega | (simp only [wpD1] <;> omega) | (simp only [wpD2] <;> assumption) | solve_by_elim [HSub.refl, HSub.push, HSub.reserve] | fail) only [↓wpPre, wpPost, wpPoly, Int.reduceToNat, Int.reducePow, Int.reduceMul, Int.reduceAdd, Int.reduceSub, Int.reduceNeg, Nat.reduceAdd, Nat.reduceMul, Nat.reducePow, Int.reduceLT, Int.reduceLE, Int.reduceEq, Nat.reduceEqDiff]
      rfl
  · have e : lenE d = tup2 0 2 := by unfold lenE; rw [if_neg c]
    rw [e]
    have h5 : d ≠ 5 := fun h => c (by rw [h]; decide)
    have h6 : d ≠ 6 := fun h => c (by rw [h]; decide)
    have h7 : d ≠ 7 := fun h => c (by rw [h]; decide)
    have h9 : d ≠ 9 := fun h => c (by rw [h]; decide)
    have h10 : d ≠ 10 := fun h => c (by rw [h]; decide)
    (refine calls_intro (hC.body (by decide) tab71) (Nat.le_of_ble_eq_true rfl) ?_); (show wp C _ none B71.code _ _); (simp only [B71]); simp -implicitDefEqProofs (disch := first | assumption | decide | omega | (simp only [wpD1] <;> omega) | (simp only [wpD2] <;> assumption) | solve_by_elim [HSub.refl, HSub.push, HSub.reserve] | fail) only [↓wpPre, wpPost, wpPoly, Int.reduceToNat, Int.reducePow, Int.reduceMul, Int.reduceAdd, Int.reduceSub, Int.reduceNeg, Nat.reduceAdd, Nat.reduceMul, Nat.reducePow, Int.reduceLT, Int.reduceLE, Int.reduceEq, Nat.reduceEqDiff]
    rfl
end
end Go.Ae

/- Taps of the program and of the reference. -/
set_option linter.unusedSimpArgs false
set_option linter.unusedVariables false
namespace Go.Ae
/-- The rows that hold the taps of the table. -/
def TapRows (b : Nat) (h : Heap) : Prop :=
  h.get b = some (.cells (ints [0, 2]) true 0) ∧ h.get (b + 1) = some (.cells (ints [0, 2, 3, 4]) true 0) ∧ h.get (b + 2) = some (.cells (ints [0, 1]) true 0) ∧ h.get (b + 3) = some (.cells (ints [0, 1, 2, 5]) true 0) ∧
  h.get (b + 4) = some (.cells (ints [0, 3]) true 0) ∧ h.get (b + 5) = some (.cells (ints [0, 1, 2, 3]) true 0) ∧ h.get (b + 6) = some (.cells (ints [0, 4]) true 0) ∧ h.get (b + 7) = some (.cells (ints [0, 3, 4, 6]) true 0) ∧
  h.get (b + 8) = some (.cells (ints [0, 3]) true 0) ∧ h.get (b + 9) = some (.cells (ints [0, 2, 3, 8]) true 0)
theorem TapRows.mono {b : Nat} {h h' : Heap} (T : TapRows b h) (hs : HSub h h') : TapRows b h' := by
  obtain ⟨a0, a1, a2, a3, a4, a5, a6, a7, a8, a9⟩ := T
  have k : ∀ {i x}, h.get i = some x → h'.get i = some x := fun e => (hs.get _ (Heap.lt_of_get e)).trans e
  exact ⟨k a0, k a1, k a2, k a3, k a4, k a5, k a6, k a7, k a8, k a9⟩
def tapTab (b : Nat) : AV := .agg [.int .i64 5, .slice b 0 2 (.known 2), .slice (b + 1) 0 4 (.known 4), .int .i64 6, .slice (b + 2) 0 2 (.known 2), .slice (b + 3) 0 4 (.known 4), .int .i64 7, .slice (b + 4) 0 2 (.known 2), .slice (b + 5) 0 4 (.known 4),
  .int .i64 9, .slice (b + 6) 0 2 (.known 2), .slice (b + 7) 0 4 (.known 4), .int .i64 10, .slice (b + 8) 0 2 (.known 2), .slice (b + 9) 0 4 (.known 4)]
section
variable {C : Ctx}
set_option maxRecDepth 100000 in
set_option maxHeartbeats 4000000 in
theorem Taps_spec (hC : Has C T72) {d w : Int} {h : Heap} (hd : In64 d) (hw : In64 w) : ACalls C 72 [.int .i64 d, .int .i64 w] h (fun r h' => ∃ v, r = lstErr v (tapsErr d w) ∧ HSub h h' ∧ RI h' v (if tapsErr d w = 0 then tapsL d w else [])) := by
  unfold In64 at hw
  by_cases c : lenOk d = true
  · have e : lenE d = tup2 (lenN d) 0 := by unfold lenE; rw [if_pos c]
    by_cases cw : w = 1 ∨ w = 2
    · have pe : tapsErr d w = 0 := by unfold tapsErr; rw [if_pos ⟨c, cw⟩]
      rw [pe]
      (refine calls_intro (hC.body (by decide) tab72) (Nat.le_of_ble_eq_true rfl) ?_); (show wp C _ none B72.code _ _); (simp only [B72]); simp -implicitDefEqProofs (disch := first | assumption | decide | omega | (simp only [wpD1] <;> omega) | (simp only [wpD2] <;> assumption) | solve_by_elim [HSub.refl, HSub.push, HSub.reserve] | fail) only [↓wpPre, wpPost, wpPoly, Int.reduceToNat, Int.reducePow, Int.reduceMul, Int.reduceAdd, Int.reduceSub, Int.reduceNeg, Nat.reduceAdd, Nat.reduceMul, Nat.reducePow, Int.reduceLT, Int.reduceLE, Int.reduceEq, Nat.reduceEqDiff]
      refine ACallsK.eq2 (Length_spec (hC.sub (T' := T70) (by decide)) hd) e ?_
      simp -implicitDefEqProofs (disch := first | assumption | decide | omega | (simp only [wpD1] <;> omega) | (simp only [wpD2] <;> assumption) | solve_by_elim [HSub.refl, HSub.push, HSub.reserve] | fail) only [↓wpPre, wpPost, wpPoly, Int.reduceToNat, Int.reducePow, Int.reduceMul, Int.reduceAdd, Int.reduceSub, Int.reduceNeg, Nat.reduceAdd, Nat.reduceMul, Nat.reducePow, Int.reduceLT, Int.reduceLE, Int.reduceEq, Nat.reduceEqDiff, tup2]
      refine wp_loopI (fun j t h' => ∃ i : Nat, i ≤ 4 ∧ HSub h h' ∧ TapRows h.size h' ∧ t 0 = .int .i64 d ∧ t 1 = .int .i64 w ∧ t 46 = tapTab h.size ∧ t 47 = .int .i64 (i : Nat) ∧ (∀ y ∈ ([5, 6, 7, 9, 10] : List Int).take i, d ≠ y) ∧ j = 5 - i) (j0 := 5)
        ⟨0, by omega, ?_, ?_, rfl, rfl, rfl, rfl, by simp, rfl⟩ ?_
      · (repeat (first | exact HSub.refl _ | refine HSub.push ?_ _))
      · refine ⟨?_, ?_, ?_, ?_, ?_, ?_, ?_, ?_, ?_, ?_⟩ <;> (simp -implicitDefEqProofs (disch := first | assumption | decide | omega | (simp only [wpD1] <;> omega) | (simp only [wpD2] <;> assumption) | solve_by_elim [HSub.refl, HSub.push, HSub.reserve] | fail) only [↓wpPre, wpPost, wpPoly, Int.reduceToNat, Int.reducePow, Int.reduceMul, Int.reduceAdd, Int.reduceSub, Int.reduceNeg, Nat.reduceAdd, Nat.reduceMul, Nat.reducePow, Int.reduceLT, Int.reduceLE, Int.reduceEq, Nat.reduceEqDiff]; try rfl)
      rintro j t h' ⟨i, hi, hs, T, e0, e1, e46, e47, hne, hj⟩
      unfold tapTab at e46
      rcases (show i = 0 ∨ i = 1 ∨ i = 2 ∨ i = 3 ∨ i = 4 by omega) with rfl | rfl | rfl | rfl | rfl
      · by_cases cd : d = 5
        · subst cd
          rcases cw with rfl | rfl
          · simp -implicitDefEqProofs (disch := first | assumption | decide | omega | (simp only [wpD1] <;> omega) | (simp only [wpD2] <;> assumption) | solve_by_elim [HSub.refl, HSub.push, HSub.reserve] | fail) only [↓wpPre, wpPost, wpPoly, Int.reduceToNat, Int.reducePow, Int.reduceMul, Int.reduceAdd, Int.reduceSub, Int.reduceNeg, Nat.reduceAdd, Nat.reduceMul, Nat.reducePow, Int.reduceLT, Int.reduceLE, Int.reduceEq, Nat.reduceEqDiff, e0, e1, e46, e47, idxVal_agg]
            exact ⟨.slice (h.size + 0) 0 2 (.known 2), by simp [lstErr], hs.push _, RI.known ((get_push_lt (Heap.lt_of_get T.1)).trans T.1) ⟨rfl, by decide⟩ (by decide)⟩
          · simp -implicitDefEqProofs (disch := first | assumption | decide | omega | (simp only [wpD1] <;> omega) | (simp only [wpD2] <;> assumption) | solve_by_elim [HSub.refl, HSub.push, HSub.reserve] | fail) only [↓wpPre, wpPost, wpPoly, Int.reduceToNat, Int.reducePow, Int.reduceMul, Int.reduceAdd, Int.reduceSub, Int.reduceNeg, Nat.reduceAdd, Nat.reduceMul, Nat.reducePow, Int.reduceLT, Int.reduceLE, Int.reduceEq, Nat.reduceEqDiff, e0, e1, e46, e47, idxVal_agg]
            exact ⟨.slice (h.size + 1) 0 4 (.known 4), by simp [lstErr], hs.push _, RI.known ((get_push_lt (Heap.lt_of_get T.2.1)).trans T.2.1) ⟨rfl, by decide⟩ (by decide)⟩
        · simp -implicitDefEqProofs (disch := first | assumption | decide | omega | (simp only [wpD1] <;> omega) | (simp only [wpD2] <;> assumption) | solve_by_elim [HSub.refl, HSub.push, HSub.reserve] | fail) only [↓wpPre, wpPost, wpPoly, Int.reduceToNat, Int.reducePow, Int.reduceMul, Int.reduceAdd, Int.reduceSub, Int.reduceNeg, Nat.reduceAdd, Nat.reduceMul, Nat.reducePow, Int.reduceLT, Int.reduceLE, Int.reduceEq, Nat.reduceEqDiff, e0, e1, e46, e47, idxVal_agg]
          exact ⟨_, ⟨1, by omega, hs.push _, T.mono (HSub.push1 _ _), rfl, by simp, fun y hy => (by have hn := hne; simp at hn hy; omega), rfl⟩, by omega⟩
      · by_cases cd : d = 6
        · subst cd
          rcases cw with rfl | rfl
          · simp -implicitDefEqProofs (disch := first | assumption | decide | omega | (simp only [wpD1] <;> omega) | (simp only [wpD2] <;> assumption) | solve_by_elim [HSub.refl, HSub.push, HSub.reserve] | fail) only [↓wpPre, wpPost, wpPoly, Int.reduceToNat, Int.reducePow, Int.reduceMul, Int.reduceAdd, Int.reduceSub, Int.reduceNeg, Nat.reduceAdd, Nat.reduceMul, Nat.reducePow, Int.reduceLT, Int.reduceLE, Int.reduceEq, Nat.reduceEqDiff, e0, e1, e46, e47, idxVal_agg]
            exact ⟨.slice (h.size + 2) 0 2 (.known 2), by simp [lstErr], hs.push _, RI.known ((get_push_lt (Heap.lt_of_get T.2.2.1)).trans T.2.2.1) ⟨rfl, by decide⟩ (by decide)⟩
          · simp -implicitDefEqProofs (disch := first | assumption | decide | omega | (simp only [wpD1] <;> omega) | (simp only [wpD2] <;> assumption) | solve_by_elim [HSub.refl, HSub.push, HSub.reserve] | fail) only [↓wpPre, wpPost, wpPoly, Int.reduceToNat, Int.reducePow, Int.reduceMul, Int.reduceAdd, Int.reduceSub, Int.reduceNeg, Nat.reduceAdd, Nat.reduceMul, Nat.reducePow, Int.reduceLT, Int.reduceLE, Int.reduceEq, Nat.reduceEqDiff, e0, e1, e46, e47, idxVal_agg]
            exact ⟨.slice (h.size + 3) 0 4 (.known 4), by simp [lstErr], hs.push _, RI.known ((get_push_lt (Heap.lt_of_get T.2.2.2.1)).trans T.2.2.2.1) ⟨rfl, by decide⟩ (by decide)⟩
        · simp -implicitDefEqProofs (disch := first | assumption | decide | omega | (simp only [wpD1] <;> omega) | (simp only [wpD2] <;> assumption) | solve_by_elim [HSub.refl, HSub.push, HSub.reserve] | fail) only [↓wpPre, wpPost, wpPoly, Int.reduceToNat, Int.reducePow, Int.reduceMul, Int.reduceAdd, Int.reduceSub, Int.reduceNeg, Nat.reduceAdd, Nat.reduceMul, Nat.reducePow, Int.reduceLT, Int.reduceLE, Int.reduceEq, Nat.reduceEqDiff, e0, e1, e46, e47, idxVal_agg]
          exact ⟨_, ⟨2, by omega, hs.push _, T.mono (HSub.push1 _ _), rfl, by simp, fun y hy => (by have hn := hne; simp at hn hy; omega), rfl⟩, by omega⟩
      · by_cases cd : d = 7
        · subst cd
          rcases cw with rfl | rfl
          · simp -implicitDefEqProofs (disch := first | assumption | decide | omega | (simp only [wpD1] <;> omega) | (simp only [wpD2] <;> assumption) | solve_by_elim [HSub.refl, HSub.push, HSub.reserve] | fail) only [↓wpPre, wpPost, wpPoly, Int.reduceToNat, Int.reducePow, Int.reduceMul, Int.reduceAdd, Int.reduceSub, Int.reduceNeg, Nat.reduceAdd, Nat.reduceMul, Nat.reducePow, Int.reduceLT, Int.reduceLE, Int.reduceEq, Nat.reduceEqDiff, e0, e1, e46, e47, idxVal_agg]
            exact ⟨.slice (h.size + 4) 0 2 (.known 2), by simp [lstErr], hs.push _, RI.known ((get_push_lt (Heap.lt_of_get T.2.2.2.2.1)).trans T.2.2.2.2.1) ⟨rfl, by decide⟩ (by decide)⟩
          · simp -implicitDefEqProofs (disch := first | assumption | decide | omega | (simp only [wpD1] <;> omega) | (simp only [wpD2] <;> assumption) | solve_by_elim [HSub.refl, HSub.push, HSub.reserve] | fail) only [↓wpPre, wpPost, wpPoly, Int.reduceToNat, Int.reducePow, Int.reduceMul, Int.reduceAdd, Int.reduceSub, Int.reduceNeg, Nat.reduceAdd, Nat.reduceMul, Nat.reducePow, Int.reduceLT, Int.reduceLE, Int.reduceEq, Nat.reduceEqDiff, e0, e1, e46, e47, idxVal_agg]
            exact ⟨.slice (h.size + 5) 0 4 (.known 4), by simp [lstErr], hs.push _, RI.known ((get_push_lt (Heap.lt_of_get T.2.2.2.2.2.1)).trans T.2.2.2.2.2.1) ⟨rfl, by decide⟩ (by decide)⟩
        · simp -implicitDefEqProofs (disch := first | assumption | decide | omega | (simp only [wpD1] <;> omega) | (simp only [wpD2] <;> assumption) | solve_by_elim [HSub.refl, HSub.push, HSub.reserve] | fail) only [↓wpPre, wpPost, wpPoly, Int.reduceToNat, Int.reducePow, Int.reduceMul, Int.reduceAdd, Int.reduceSub, Int.reduceNeg, Nat.reduceAdd, Nat.reduceMul, Nat.reducePow, Int.reduceLT, Int.reduceLE, Int.reduceEq, Nat.reduceEqDiff, e0, e1, e46, e47, idxVal_agg]
          exact ⟨_, ⟨3, by omega, hs.push _, T.mono (HSub.push1 _ _), rfl, by simp, fun y hy => (by have hn := hne; simp at hn hy; omega), rfl⟩, by omega⟩
      · by_cases cd : d = 9
        · subst cd
          rcases cw with rfl | rfl
          · simp -implicitDefEqProofs (disch := first | assumption | decide | omega | (simp only [wpD1] <;> omega) | (simp only [wpD2] <;> assumption) | solve_by_elim [HSub.refl, HSub.push, HSub.reserve] | fail) only [↓wpPre, wpPost, wpPoly, Int.reduceToNat, Int.reducePow, Int.reduceMul, Int.reduceAdd, Int.reduceSub, Int.reduceNeg, Nat.reduceAdd, Nat.reduceMul, Nat.reducePow, Int.reduceLT, Int.reduceLE, Int.reduceEq, Nat.reduceEqDiff, e0, e1, e46, e47, idxVal_agg]
            exact ⟨.slice (h.size + 6) 0 2 (.known 2), by simp [lstErr], hs.push _, RI.known ((get_push_lt (Heap.lt_of_get T.2.2.2.2.2.2.1)).trans T.2.2.2.2.2.2.1) ⟨rfl, by decide⟩ (by decide)⟩
          · simp -implicitDefEqProofs (disch := first | assumption | decide | omega | (simp only [wpD1] <;> omega) | (simp only [wpD2] <;> assumption) | solve_by_elim [HSub.refl, HSub.push, HSub.reserve] | fail) only [↓wpPre, wpPost, wpPoly, Int.reduceToNat, Int.reducePow, Int.reduceMul, Int.reduceAdd, Int.reduceSub, Int.reduceNeg, Nat.reduceAdd, Nat.reduceMul, Nat.reducePow, Int.reduceLT, Int.reduceLE, Int.reduceEq, Nat.reduceEqDiff, e0, e1, e46, e47, idxVal_agg]
            exact ⟨.slice (h.size + 7) 0 4 (.known 4), by simp [lstErr], hs.push _, RI.known ((get_push_lt (Heap.lt_of_get T.2.2.2.2.2.2.2.1)).trans T.2.2.2.2.2.2.2.1) ⟨rfl, by decide⟩ (by decide)⟩
        · simp -implicitDefEqProofs (disch := first | assumption | decide | omega | (simp only [wpD1] <;> omega) | (simp only [wpD2] <;> assumption) | solve_by_elim [HSub.refl, HSub.push, HSub.reserve] | fail) only [↓wpPre, wpPost, wpPoly, Int.reduceToNat, Int.reducePow, Int.reduceMul, Int.reduceAdd, Int.reduceSub, Int.reduceNeg, Nat.reduceAdd, Nat.reduceMul, Nat.reducePow, Int.reduceLT, Int.reduceLE, Int.reduceEq, Nat.reduceEqDiff, e0, e1, e46, e47, idxVal_agg]
          exact ⟨_, ⟨4, by omega, hs.push _, T.mono (HSub.push1 _ _), rfl, by simp, fun y hy => (by have hn := hne; simp at hn hy; omega), rfl⟩, by omega⟩
      · by_cases cd : d = 10
        · subst cd
          rcases cw with rfl | rfl
          · simp -implicitDefEqProofs (disch := first | assumption | decide | omega | (simp only [wpD1] <;> omega) | (simp only [wpD2] <;> assumption) | solve_by_elim [HSub.refl, HSub.push, HSub.reserve] | fail) only [↓wpPre, wpPost, wpPoly, Int.reduceToNat, Int.reducePow, Int.reduceMul, Int.reduceAdd, Int.reduceSub, Int.reduceNeg, Nat.reduceAdd, Nat.reduceMul, Nat.reducePow, Int.reduceLT, Int.reduceLE, Int.reduceEq, Nat.reduceEqDiff, e0, e1, e46, e47, idxVal_agg]
            exact ⟨.slice (h.size + 8) 0 2 (.known 2), by simp [lstErr], hs.push _, RI.known ((get_push_lt (Heap.lt_of_get T.2.2.2.2.2.2.2.2.1)).trans T.2.2.2.2.2.2.2.2.1) ⟨rfl, by decide⟩ (by decide)⟩
          · simp -implicitDefEqProofs (disch := first | assumption | decide | omega | (simp only [wpD1] <;> omega) | (simp only [wpD2] <;> assumption) | solve_by_elim [HSub.refl, HSub.push, HSub.reserve] | fail) only [↓wpPre, wpPost, wpPoly, Int.reduceToNat, Int.reducePow, Int.reduceMul, Int.reduceAdd, Int.reduceSub, Int.reduceNeg, Nat.reduceAdd, Nat.reduceMul, Nat.reducePow, Int.reduceLT, Int.reduceLE, Int.reduceEq, Nat.reduceEqDiff, e0, e1, e46, e47, idxVal_agg]
            exact ⟨.slice (h.size + 9) 0 4 (.known 4), by simp [lstErr], hs.push _, RI.known ((get_push_lt (Heap.lt_of_get T.2.2.2.2.2.2.2.2.2)).trans T.2.2.2.2.2.2.2.2.2) ⟨rfl, by decide⟩ (by decide)⟩
        · exfalso
          rcases lenOk_cases c with h | h | h | h | h <;> simp_all
    · have pe : tapsErr d w = 2 := by unfold tapsErr; rw [if_neg (fun h => cw h.2)]
      rw [pe]
      (refine calls_intro (hC.body (by decide) tab72) (Nat.le_of_ble_eq_true rfl) ?_); (show wp C _ none B72.code _ _); (simp only [B72]); simp -implicitDefEqProofs (disch := first | assumption | decide | omega | (simp only [wpD1] <;> omega) | (simp only [wpD2] <;> assumption) | solve_by_elim [HSub.refl, HSub.push, HSub.reserve] | fail) only [↓wpPre, wpPost, wpPoly, Int.reduceToNat, Int.reducePow, Int.reduceMul, Int.reduceAdd, Int.reduceSub, Int.reduceNeg, Nat.reduceAdd, Nat.reduceMul, Nat.reducePow, Int.reduceLT, Int.reduceLE, Int.reduceEq, Nat.reduceEqDiff]
      refine ACallsK.eq2 (Length_spec (hC.sub (T' := T70) (by decide)) hd) e ?_
      simp -implicitDefEqProofs (disch := first | assumption | decide | omega | (simp only [wpD1] <;> omega) | (simp only [wpD2] <;> assumption) | solve_by_elim [HSub.refl, HSub.push, HSub.reserve] | fail) only [↓wpPre, wpPost, wpPoly, Int.reduceToNat, Int.reducePow, Int.reduceMul, Int.reduceAdd, Int.reduceSub, Int.reduceNeg, Nat.reduceAdd, Nat.reduceMul, Nat.reducePow, Int.reduceLT, Int.reduceLE, Int.reduceEq, Nat.reduceEqDiff, tup2]
      (repeat' (first | (refine Br.by (fun _ => ?_) (fun _ => ?_)) | (simp -implicitDefEqProofs (disch := first | assumption | decide | omega | (simp only [wpD1] <;> omega) | (simp only [wpD2] <;> assumption) | solve_by_elim [HSub.refl, HSub.push, HSub.reserve] | fail) only [↓wpPre, wpPost, wpPoly, Int.reduceToNat, Int.reducePow, Int.reduceMul, Int.reduceAdd, Int.reduceSub, Int.reduceNeg, Nat.reduceAdd, Nat.reduceMul, Nat.reducePow, Int.reduceLT, Int.reduceLE, Int.reduceEq, Nat.reduceEqDiff])))
      all_goals first | exact ⟨.nilslice, by rw [lstErr], HSub.refl _, RI.nil⟩ | omega
  · have e : lenE d = tup2 0 2 := by unfold lenE; rw [if_neg c]
    have pe : tapsErr d w = 2 := by unfold tapsErr; rw [if_neg (fun h => c h.1)]
    rw [pe]
    (refine calls_intro (hC.body (by decide) tab72) (Nat.le_of_ble_eq_true rfl) ?_); (show wp C _ none B72.code _ _); (simp only [B72]); simp -implicitDefEqProofs (disch := first | assumption | decide | omega | (simp only [wpD1] <;> omega) | (simp only [wpD2] <;> assumption) | solve_by_elim [HSub.refl, HSub.push, HSub.reserve] | fail) only [↓wpPre, wpPost, wpPoly, Int.reduceToNat, Int.reducePow, Int.reduceMul, Int.reduceAdd, Int.reduceSub, Int.reduceNeg, Nat.reduceAdd, Nat.reduceMul, Nat.reducePow, Int.reduceLT, Int.reduceLE, Int.reduceEq, Nat.reduceEqDiff]
    refine ACallsK.eq2 (Length_spec (hC.sub (T' := T70) (by decide)) hd) e ?_
    simp -implicitDefEqProofs (disch := first | assumption | decide | omega | (simp only [wpD1] <;> omega) | (simp only [wpD2] <;> assumption) | solve_by_elim [HSub.refl, HSub.push, HSub.reserve] | fail) only [↓wpPre, wpPost, wpPoly, Int.reduceToNat, Int.reducePow, Int.reduceMul, Int.reduceAdd, Int.reduceSub, Int.reduceNeg, Nat.reduceAdd, Nat.reduceMul, Nat.reducePow, Int.reduceLT, Int.reduceLE, Int.reduceEq, Nat.reduceEqDiff, tup2]
    exact ⟨.nilslice, by rw [lstErr], HSub.refl _, RI.nil⟩
end
end Go.Ae

/- Taps of the reference. -/
set_option linter.unusedSimpArgs false
set_option linter.unusedVariables false
namespace Go.Ae
section
variable {C : Ctx}
set_option maxRecDepth 100000 in
theorem Taps08_spec (hC : Has C T73) {d w : Int} {h : Heap} (hd : In64 d) (hw : In64 w) : ACalls C 73 [.int .i64 d, .int .i64 w] h (fun r h' => ∃ v, r = lstErr v (tapsErr d w) ∧ HSub h h' ∧ RI h' v (if tapsErr d w = 0 then tapsL d w else [])) := by
  have hw' := hw
  unfold In64 at hw'
  by_cases c : lenOk d = true
  · have e : lenE d = tup2 (lenN d) 0 := by unfold lenE; rw [if_pos c]
    by_cases cw : w = 1 ∨ w = 2
    · have pe : tapsErr d w = 0 := by unfold tapsErr; rw [if_pos ⟨c, cw⟩]
      rw [pe]
      have fin : ∀ {l : List Int}, l = tapsL d w → l.length < 9223372036854775808 → ∃ v, AV.tuple [.slice h.size 0 l.length (.known l.length), .int .i64 0] = lstErr v 0 ∧ HSub h (h.push (.cells (ints l) true 0)) ∧ RI (h.push (.cells (ints l) true 0)) v (if (0 : Int) = 0 then tapsL d w else []) := by
        rintro l rfl hl
        exact ⟨_, rfl, HSub.push1 _ _, by rw [if_pos rfl]; exact RI.known (get_push_eq rfl) ⟨rfl, hl⟩ (Nat.le_refl _)⟩
      rcases lenOk_cases c with rfl | rfl | rfl | rfl | rfl <;> rcases cw with rfl | rfl <;>
      · (refine calls_intro (hC.body (by decide) tab73) (Nat.le_of_ble_eq_true rfl) ?_); (show wp C _ none B73.code _ _); (simp only [B73]); simp -implicitDefEqProofs (disch := first | assumption | decide | omega | (simp only [wpD1] <;> omega) | (simp only [wpD2] <;> assumption) | solve_by_elim [HSub.refl, HSub.push, HSub.reserve] | fail) only [↓wpPre, wpPost, wpPoly, Int.reduceToNat, Int.reducePow, Int.reduceMul, Int.reduceAdd, Int.reduceSub, Int.reduceNeg, Nat.reduceAdd, Nat.reduceMul, Nat.reducePow, Int.reduceLT, Int.reduceLE, Int.reduceEq, Nat.reduceEqDiff]
        refine ACallsK.eq2 (Length08_spec (hC.sub (T' := T71) (by decide)) hd) e ?_
        simp -implicitDefEqProofs (disch := first | assumption | decide | omega | (simp only [wpD1] <;> omega) | (simp only [wpD2] <;> assumption) | solve_by_elim [HSub.refl, HSub.push, HSub.reserve] | fail) only [↓wpPre, wpPost, wpPoly, Int.reduceToNat, Int.reducePow, Int.reduceMul, Int.reduceAdd, Int.reduceSub, Int.reduceNeg, Nat.reduceAdd, Nat.reduceMul, Nat.reducePow, Int.reduceLT, Int.reduceLE, Int.reduceEq, Nat.reduceEqDiff, tup2]
        exact fin (l := tapsL _ _) rfl (by decide)
    · have pe : tapsErr d w = 2 := by unfold tapsErr; rw [if_neg (fun h => cw h.2)]
      rw [pe]
      (refine calls_intro (hC.body (by decide) tab73) (Nat.le_of_ble_eq_true rfl) ?_); (show wp C _ none B73.code _ _); (simp only [B73]); simp -implicitDefEqProofs (disch := first | assumption | decide | omega | (simp only [wpD1] <;> omega) | (simp only [wpD2] <;> assumption) | solve_by_elim [HSub.refl, HSub.push, HSub.reserve] | fail) only [↓wpPre, wpPost, wpPoly, Int.reduceToNat, Int.reducePow, Int.reduceMul, Int.reduceAdd, Int.reduceSub, Int.reduceNeg, Nat.reduceAdd, Nat.reduceMul, Nat.reducePow, Int.reduceLT, Int.reduceLE, Int.reduceEq, Nat.reduceEqDiff]
      refine ACallsK.eq2 (Length08_spec (hC.sub (T' := T71) (by decide)) hd) e ?_
      simp -implicitDefEqProofs (disch := first | assumption | decide | omega | (simp only [wpD1] <;> omega) | (simp only [wpD2] <;> assumption) | solve_by_elim [HSub.refl, HSub.push, HSub.reserve] | fail) only [↓wpPre, wpPost, wpPoly, Int.reduceToNat, Int.reducePow, Int.reduceMul, Int.reduceAdd, Int.reduceSub, Int.reduceNeg, Nat.reduceAdd, Nat.reduceMul, Nat.reducePow, Int.reduceLT, Int.reduceLE, Int.reduceEq, Nat.reduceEqDiff, tup2]
      (repeat' (first | (refine Br.by (fun _ => ?_) (fun _ => ?_)) | (simp -implicitDefEqProofs (disch := first | assumption | decide | omega | (simp only [wpD1] <;> omega) | (simp only [wpD2] <;> assumption) | solve_by_elim [HSub.refl, HSub.push, HSub.reserve] | fail) only [↓wpPre, wpPost, wpPoly, Int.reduceToNat, Int.reducePow, Int.reduceMul, Int.reduceAdd, Int.reduceSub, Int.reduceNeg, Nat.reduceAdd, Nat.reduceMul, Nat.reducePow, Int.reduceLT, Int.reduceLE, Int.reduceEq, Nat.reduceEqDiff])))
      all_goals first | exact ⟨.nilslice, by rw [lstErr], HSub.refl _, RI.nil⟩ | omega
  · have e : lenE d = tup2 0 2 := by unfold lenE; rw [if_neg c]
    have pe : tapsErr d w = 2 := by unfold tapsErr; rw [if_neg (fun h => c h.1)]
    rw [pe]
    (refine calls_intro (hC.body (by decide) tab73) (Nat.le_of_ble_eq_true rfl) ?_); (show wp C _ none B73.code _ _); (simp only [B73]); simp -implicitDefEqProofs (disch := first | assumption | decide | omega | (simp only [wpD1] <;> omega) | (simp only [wpD2] <;> assumption) | solve_by_elim [HSub.refl, HSub.push, HSub.reserve] | fail) only [↓wpPre, wpPost, wpPoly, Int.reduceToNat, Int.reducePow, Int.reduceMul, Int.reduceAdd, Int.reduceSub, Int.reduceNeg, Nat.reduceAdd, Nat.reduceMul, Nat.reducePow, Int.reduceLT, Int.reduceLE, Int.reduceEq, Nat.reduceEqDiff]
    refine ACallsK.eq2 (Length08_spec (hC.sub (T' := T71) (by decide)) hd) e ?_
    simp -implicitDefEqProofs (disch := first | assumption | decide | omega | (simp only [wpD1] <;> omega) | (simp only [wpD2] <;> assumption) | solve_by_elim [HSub.refl, HSub.push, HSub.reserve] | fail) only [↓wpPre, wpPost, wpPoly, Int.reduceToNat, Int.reducePow, Int.reduceMul, Int.reduceAdd, Int.reduceSub, Int.reduceNeg, Nat.reduceAdd, Nat.reduceMul, Nat.reducePow, Int.reduceLT, Int.reduceLE, Int.reduceEq, Nat.reduceEqDiff, tup2]
    exact ⟨.nilslice, by rw [lstErr], HSub.refl _, RI.nil⟩
end
end Go.Ae

/- Repeat of Go's slices package, on one number; the sequences of the registers. -/
set_option linter.unusedSimpArgs false
set_option linter.unusedVariables false
namespace Go.Ae
theorem nat64 {n : Nat} (h : n < 18446744073709551616) : (BitVec.ofInt 64 (n : Int)).toNat = n := by
  rw [BitVec.toNat_ofInt]
  have : ((n : Int) % ((2 ^ 64 : Nat) : Int)).toNat = n := by
    rw [Int.emod_eq_of_lt (by omega) (by omega)]; simp
  exact this
theorem and_u64m {a : Int} (h : 0 ≤ a ∧ a < 18446744073709551616) : bitsA .and .u64 a 4294967295 = a % 4294967296 := by
  obtain ⟨n, rfl⟩ := Int.eq_ofNat_of_zero_le h.1
  show IntKind.u64.wrap ((BitVec.ofInt 64 (n : Int) &&& BitVec.ofInt 64 ((4294967295 : Nat) : Int)).toNat : Int) = _
  rw [BitVec.toNat_and, nat64 (by omega), nat64 (by decide)]
  have e : n &&& 4294967295 = n % 4294967296 := Nat.and_two_pow_sub_one_eq_mod n 32
  rw [e, w_u64 (by omega)]; omega
/-- What is copied. -/
theorem copy_slice {h : Heap} {i o n u : Nat} {c : Cap} {s : AV} {m : Nat} {cs vs : List AV} (hc : contentA h 1 s = some (m, cs)) (hg : h.get i = some (.cells vs true u)) (hb : o + min m n ≤ vs.length) (h1 : (cs.take (min m n)).all AV.one = true) :
    copyA h 1 (.slice i o n c) s = some (.int .i64 (min m n : Nat), h.put i (.cells (splice vs o (cs.take (min m n))) true u)) := by
  simp only [copyA, hc, hg, Nat.mul_one]
  rw [if_pos ⟨hb, h1⟩]
def ones01 (x : Int) (n p : Nat) : List Int := List.replicate p x ++ List.replicate (n - p) 0
theorem ones01_length {x : Int} {n p : Nat} (h : p ≤ n) : (ones01 x n p).length = n := by simp [ones01]; omega
theorem splice_gen {vs cs : List AV} {o : Nat} (h : o + cs.length ≤ vs.length) : splice vs o cs = vs.take o ++ cs ++ vs.drop (o + cs.length) := by
  match cs, h with
  | [], _ => rfl
  | [c], h =>
    rw [splice_one, List.set_eq_take_append_cons_drop, if_pos (by simp at h; omega)]
    simp
  | x :: y :: cs, _ => rfl
theorem ones01_splice {x : Int} {n p k : Nat} (h : p + k ≤ n) : splice (ints (ones01 x n p)) p (ints (List.replicate k x)) = ints (ones01 x n (p + k)) := by
  rw [splice_gen (by rw [ints_length, ints_length, ones01_length (by omega), List.length_replicate]; exact h)]
  unfold ones01 ints
  have e1 : (List.replicate p x ++ List.replicate (n - p) (0 : Int)).take p = List.replicate p x := by simp
  have e2 : (List.replicate p x ++ List.replicate (n - p) (0 : Int)).drop (p + k) = List.replicate (n - (p + k)) 0 := by
    rw [List.drop_append]; simp; omega
  have e3 : (List.map (AV.int .i64) (List.replicate k x)).length = k := by simp
  rw [e3, ← List.map_take, ← List.map_drop, e1, e2, ← List.map_append, ← List.map_append, List.replicate_append_replicate]
section
variable {C : Ctx}
theorem Mul64_spec (hC : Has C T105) {a b : Int} {h : Heap} (ha : 0 ≤ a ∧ a < 4294967296) (hb : 0 ≤ b ∧ b < 4294967296) (hab : 0 ≤ a * b ∧ a * b < 4294967296) : ACalls C 105 [.int .u64 a, .int .u64 b] h (fun r h' => r = .tuple [.int .u64 0, .int .u64 (a * b)] ∧ h' = h) := by
  have e1 : a % 4294967296 = a := Int.emod_eq_of_lt ha.1 ha.2
  have e2 : b % 4294967296 = b := Int.emod_eq_of_lt hb.1 hb.2
  have e3 : a / 4294967296 = 0 := Int.ediv_eq_zero_of_lt ha.1 ha.2
  have e4 : b / 4294967296 = 0 := Int.ediv_eq_zero_of_lt hb.1 hb.2
  have e5 : a * b / 4294967296 = 0 := Int.ediv_eq_zero_of_lt hab.1 hab.2
  (refine calls_intro (hC.body (by decide) tab105) (Nat.le_of_ble_eq_true rfl) ?_); (show wp C _ none B105.code _ _); (simp only [B105]); simp -implicitDefEqProofs (disch := first | assumption | decide | omega | (simp only [wpD1] <;> omega) | (simp only [wpD2] <;> assumption) | solve_by_elim [HSub.refl, HSub.push, HSub.reserve] | fail) only [↓wpPre, wpPost, wpPoly, Int.reduceToNat, Int.reducePow, Int.reduceMul, Int.reduceAdd, Int.reduceSub, Int.reduceNeg, Nat.reduceAdd, Nat.reduceMul, Nat.reducePow, Int.reduceLT, Int.reduceLE, Int.reduceEq, Nat.reduceEqDiff, and_u64m, e1, e2, e3, e4, e5, Int.zero_mul, Int.mul_zero, Int.add_zero, Int.zero_ediv, Int.zero_emod]
theorem Mul_spec (hC : Has C T100) {a b : Int} {h : Heap} (ha : 0 ≤ a ∧ a < 4294967296) (hb : 0 ≤ b ∧ b < 4294967296) (hab : 0 ≤ a * b ∧ a * b < 4294967296) : ACalls C 100 [.int .u64 a, .int .u64 b] h (fun r h' => r = .tuple [.int .u64 0, .int .u64 (a * b)] ∧ h' = h) := by
  (refine calls_intro (hC.body (by decide) tab100) (Nat.le_of_ble_eq_true rfl) ?_); (show wp C _ none B100.code _ _); (simp only [B100]); simp -implicitDefEqProofs (disch := first | assumption | decide | omega | (simp only [wpD1] <;> omega) | (simp only [wpD2] <;> assumption) | solve_by_elim [HSub.refl, HSub.push, HSub.reserve] | fail) only [↓wpPre, wpPost, wpPoly, Int.reduceToNat, Int.reducePow, Int.reduceMul, Int.reduceAdd, Int.reduceSub, Int.reduceNeg, Nat.reduceAdd, Nat.reduceMul, Nat.reducePow, Int.reduceLT, Int.reduceLE, Int.reduceEq, Nat.reduceEqDiff]
  refine ACallsK.eq (Mul64_spec (hC.sub (T' := T105) (by decide)) ha hb hab) ?_
  simp -implicitDefEqProofs (disch := first | assumption | decide | omega | (simp only [wpD1] <;> omega) | (simp only [wpD2] <;> assumption) | solve_by_elim [HSub.refl, HSub.push, HSub.reserve] | fail) only [↓wpPre, wpPost, wpPoly, Int.reduceToNat, Int.reducePow, Int.reduceMul, Int.reduceAdd, Int.reduceSub, Int.reduceNeg, Nat.reduceAdd, Nat.reduceMul, Nat.reducePow, Int.reduceLT, Int.reduceLE, Int.reduceEq, Nat.reduceEqDiff]

set_option maxHeartbeats 1000000 in
/-- Repeat of one number. -/
theorem Repeat_spec (hC : Has C T90) {v : AV} {x : Int} {n : Nat} {h : Heap} (hv : RI h v [x]) (hn : 1 ≤ n ∧ n ≤ 1000000) : ACalls C 90 [v, .int .i64 (n : Nat)] h (fun r h' => Fresh h h' r (List.replicate n x)) := by
  have hcv := (hv.mono (HSub.push1 h (.cells (ints (List.replicate n 0)) true 0))).content
  have m1 : min 1 n = 1 := by omega
  have es : splice (ints (List.replicate n 0)) 0 ((ints [x]).take (min [x].length n)) = ints (ones01 x n 1) := by
    have h0 : ints (List.replicate n 0) = ints (ones01 x n 0) := by simp [ones01]
    have h1 : (ints [x]).take (min [x].length n) = ints (List.replicate 1 x) := by show (ints [x]).take (min 1 n) = _; rw [m1]; rfl
    rw [h1, h0, ones01_splice (by omega)]
  have hcp := copy_slice (h := h.push (.cells (ints (List.replicate n 0)) true 0)) (i := h.size) (o := 0) (n := n) (c := .known n) (u := 0) hcv (get_push_eq rfl) (by simp [ints]; omega) (by show ((ints [x]).take (min 1 n)).all AV.one = true; rw [m1]; rfl)
  rw [es] at hcp
  have hcp : copyA (h.push (.cells (ints (List.replicate n 0)) true 0)) 1 (.slice h.size 0 n (.known n)) v = some (.int .i64 ((1 : Nat) : Int), (h.push (.cells (ints (List.replicate n 0)) true 0)).put h.size (.cells (ints (ones01 x n 1)) true 0)) := by
    have : min [x].length n = 1 := m1
    rw [this] at hcp; exact hcp
  have m3 : (1 : Int) * (n : Int) = (n : Int) := Int.one_mul _
  (refine calls_intro (hC.body (by decide) tab90) (Nat.le_of_ble_eq_true rfl) ?_); (show wp C _ none B90.code _ _); (simp only [B90]); simp -implicitDefEqProofs (disch := first | assumption | decide | omega | (simp only [wpD1] <;> omega) | (simp only [wpD2] <;> assumption) | solve_by_elim [HSub.refl, HSub.push, HSub.reserve] | fail) only [↓wpPre, wpPost, wpPoly, Int.reduceToNat, Int.reducePow, Int.reduceMul, Int.reduceAdd, Int.reduceSub, Int.reduceNeg, Nat.reduceAdd, Nat.reduceMul, Nat.reducePow, Int.reduceLT, Int.reduceLE, Int.reduceEq, Nat.reduceEqDiff, hv.len]
  refine ACallsK.eq (Mul_spec (hC.sub (T' := T100) (by decide)) (a := 1) (b := (n : Int)) (by decide) (by omega) (by omega)) ?_
  simp -implicitDefEqProofs (disch := first | assumption | decide | omega | (simp only [wpD1] <;> omega) | (simp only [wpD2] <;> assumption) | solve_by_elim [HSub.refl, HSub.push, HSub.reserve] | fail) only [↓wpPre, wpPost, wpPoly, Int.reduceToNat, Int.reducePow, Int.reduceMul, Int.reduceAdd, Int.reduceSub, Int.reduceNeg, Nat.reduceAdd, Nat.reduceMul, Nat.reducePow, Int.reduceLT, Int.reduceLE, Int.reduceEq, Nat.reduceEqDiff, m3, ints_replicate, hcp]
  have s1 : ∀ (H : Heap) (p : Nat), p < n → sliceA H 1 (.slice h.size 0 n (.known n)) (some (.int .i64 p)) none none = some (.slice h.size p (n - p) (.known (n - p))) := by
    intro H p hp
    simp only [sliceA]
    rw [bounds_ok (a := p) (b := n) (c := n) rfl rfl rfl (by omega)]
    simp only
    rw [if_neg (by omega)]; simp
  have s2 : ∀ (H : Heap) (p : Nat), p < n → sliceA H 1 (.slice h.size 0 n (.known n)) none (some (.int .i64 p)) none = some (.slice h.size 0 p (.known n)) := by
    intro H p hp
    simp only [sliceA]
    rw [bounds_ok (a := 0) (b := p) (c := n) rfl rfl rfl (by omega)]
    simp only
    rw [if_neg (by omega)]; simp
  refine wp_loopI (fun j t h' => ∃ p : Nat, HSub h h' ∧ h'.get h.size = some (.cells (ints (ones01 x n p)) true 0) ∧ t 7 = .slice h.size 0 n (.known n) ∧ t 8 = .int .i64 (p : Nat) ∧ 1 ≤ p ∧ p ≤ n ∧ j = n - p) (j0 := n - 1)
    ⟨1, HSub.push1 _ _, get_push_eq rfl, rfl, rfl, by omega, by omega, rfl⟩ ?_
  rintro j t h' ⟨p, hs, hg, e7, e8, hp1, hp2, hj⟩
  simp -implicitDefEqProofs (disch := first | assumption | decide | omega | (simp only [wpD1] <;> omega) | (simp only [wpD2] <;> assumption) | solve_by_elim [HSub.refl, HSub.push, HSub.reserve] | fail) only [↓wpPre, wpPost, wpPoly, Int.reduceToNat, Int.reducePow, Int.reduceMul, Int.reduceAdd, Int.reduceSub, Int.reduceNeg, Nat.reduceAdd, Nat.reduceMul, Nat.reducePow, Int.reduceLT, Int.reduceLE, Int.reduceEq, Nat.reduceEqDiff, e7, e8]
  refine Br.by (fun c => ?_) (fun c => ?_)
  · have hp : p < n := by omega
    have hol := ones01_length (x := x) (n := n) (p := p) hp2
    have hgr : (h'.reserve 10).get h.size = some (.cells (ints (ones01 x n p)) true 0) := hg
    have hc2 : contentA (h'.reserve 10) 1 (.slice h.size 0 p (.known n)) = some (p, ints (List.replicate p x)) := by
      rw [cont_slice, hgr, contB_some (by rw [ints_length, hol]; omega)]
      congr 2
      rw [Nat.mul_one, ints_cut]; congr 1
      simp [ones01]
    have hk : p + min p (n - p) ≤ n := by omega
    have h3 := copy_slice (h := h'.reserve 10) (i := h.size) (o := p) (n := n - p) (c := .known (n - p)) (u := 0) hc2 hgr (by rw [ints_length, hol]; exact hk) (by unfold ints; rw [← List.map_take]; exact ints_one)
    have h4 : (ints (List.replicate p x)).take (min p (n - p)) = ints (List.replicate (min p (n - p)) x) := by unfold ints; rw [← List.map_take, List.take_replicate]; congr 2; omega
    rw [h4, ones01_splice hk] at h3
    simp -implicitDefEqProofs (disch := first | assumption | decide | omega | (simp only [wpD1] <;> omega) | (simp only [wpD2] <;> assumption) | solve_by_elim [HSub.refl, HSub.push, HSub.reserve] | fail) only [↓wpPre, wpPost, wpPoly, Int.reduceToNat, Int.reducePow, Int.reduceMul, Int.reduceAdd, Int.reduceSub, Int.reduceNeg, Nat.reduceAdd, Nat.reduceMul, Nat.reducePow, Int.reduceLT, Int.reduceLE, Int.reduceEq, Nat.reduceEqDiff, e7, e8, s1, s2, h3]
    refine ⟨_, ⟨p + min p (n - p), ?_, ?_, by omega, by omega, by omega, rfl⟩, by omega⟩
    · exact (hs.reserve _).put (Nat.le_refl _) _
    · exact get_put_eq rfl (Heap.lt_of_get hgr)
  · have : p = n := by omega
    subst this
    simp -implicitDefEqProofs (disch := first | assumption | decide | omega | (simp only [wpD1] <;> omega) | (simp only [wpD2] <;> assumption) | solve_by_elim [HSub.refl, HSub.push, HSub.reserve] | fail) only [↓wpPre, wpPost, wpPoly, Int.reduceToNat, Int.reducePow, Int.reduceMul, Int.reduceAdd, Int.reduceSub, Int.reduceNeg, Nat.reduceAdd, Nat.reduceMul, Nat.reducePow, Int.reduceLT, Int.reduceLE, Int.reduceEq, Nat.reduceEqDiff, e7]
    have : ones01 x p p = List.replicate p x := by simp [ones01]
    rw [this] at hg
    exact ⟨hs, by simp; omega, h.size, Nat.le_refl _, by simp, hg⟩
end
end Go.Ae

/- The sequences of the degrees. -/
set_option linter.unusedSimpArgs false
set_option linter.unusedVariables false
namespace Go.Ae
def onesL (d : Int) : List Int := List.replicate d.toNat 1
def bitsL (d w : Int) : List Int := runL (tapsL d w) (onesL d) (lenN d)
theorem bitsL_length (d w : Int) : (bitsL d w).length = lenN d := runL_length _ _ _
theorem reg_ok {d w : Int} (hd : lenOk d = true) (hw : w = 1 ∨ w = 2) : regErr d (tapsL d w) (onesL d) = 0 := by
  rcases lenOk_cases hd with rfl | rfl | rfl | rfl | rfl <;> rcases hw with rfl | rfl <;> decide
theorem bitsL_01 {d w : Int} : ∀ x ∈ bitsL d w, x = 0 ∨ x = 1 := by
  intro x hx
  obtain ⟨k, _, rfl⟩ := List.mem_map.1 hx
  exact seqB_01 (fun y hy => .inr (List.mem_replicate.1 hy).2) k
section
variable {C : Ctx}
set_option maxRecDepth 100000 in
theorem Bits_spec (hC : Has C T74) {d w : Int} {h : Heap} (hd : In64 d) (hw : In64 w) : ACalls C 74 [.int .i64 d, .int .i64 w] h (fun r h' => ∃ v, r = lstErr v (tapsErr d w) ∧ HSub h h' ∧ RI h' v (if tapsErr d w = 0 then bitsL d w else []) ∧ (tapsErr d w = 0 → Fresh h h' v (bitsL d w))) := by
  by_cases c : lenOk d = true ∧ (w = 1 ∨ w = 2)
  · have pe : tapsErr d w = 0 := by unfold tapsErr; rw [if_pos c]
    have hl := lenN_eq c.1
    have hr := reg_ok c.1 c.2
    have hd5 : 5 ≤ d ∧ d ≤ 10 := by have := lenOk_cases c.1; omega
    have hT := Taps_spec (d := d) (w := w) (h := h) (hC.sub (T' := T72) (by decide)) hd hw
    rw [pe, if_pos rfl] at hT
    rw [pe]
    obtain ⟨k, rfl⟩ := Int.eq_ofNat_of_zero_le (show 0 ≤ d by omega)
    have re : runErr (k : Nat) (tapsL (k : Nat) w) (onesL (k : Nat)) (lenN (k : Nat)) = 0 := by unfold runErr; rw [if_pos hr, if_neg (by omega)]
    (refine calls_intro (hC.body (by decide) tab74) (Nat.le_of_ble_eq_true rfl) ?_); (show wp C _ none B74.code _ _); (simp only [B74]); simp -implicitDefEqProofs (disch := first | assumption | decide | omega | (simp only [wpD1] <;> omega) | (simp only [wpD2] <;> assumption) | solve_by_elim [HSub.refl, HSub.push, HSub.reserve] | fail) only [↓wpPre, wpPost, wpPoly, Int.reduceToNat, Int.reducePow, Int.reduceMul, Int.reduceAdd, Int.reduceSub, Int.reduceNeg, Nat.reduceAdd, Nat.reduceMul, Nat.reducePow, Int.reduceLT, Int.reduceLE, Int.reduceEq, Nat.reduceEqDiff]
    refine ACallsK.of hT ?_
    rintro r h1 ⟨v1, rfl, s1, R1⟩
    have h22 : (2 : Int) ^ k = ((lenN (k : Nat) + 1 : Nat) : Int) := by have := hl.2.2; rwa [Int.toNat_natCast] at this
    have e3 : ((lenN (k : Nat) + 1 : Nat) : Int) - 1 = lenN (k : Nat) := by omega
    simp -implicitDefEqProofs (disch := first | assumption | decide | omega | (simp only [wpD1] <;> omega) | (simp only [wpD2] <;> assumption) | solve_by_elim [HSub.refl, HSub.push, HSub.reserve] | fail) only [↓wpPre, wpPost, wpPoly, Int.reduceToNat, Int.reducePow, Int.reduceMul, Int.reduceAdd, Int.reduceSub, Int.reduceNeg, Nat.reduceAdd, Nat.reduceMul, Nat.reducePow, Int.reduceLT, Int.reduceLE, Int.reduceEq, Nat.reduceEqDiff, lstErr, Int.one_mul, h22, e3, Heap.wf]
    have eo : onesL ((k : Nat) : Int) = List.replicate k 1 := by simp [onesL]
    have hsH : HSub h1 ((h1.reserve 13).put (h1.size + 2) (.cells [.int .i64 1] true 0)) := ((HSub.refl _).reserve _).put (by omega) _
    refine ACallsK.of (Repeat_spec (hC.sub (T' := T90) (by decide)) (x := 1) (n := k) (RI.known (get_put_eq rfl (by simp)) ⟨rfl, by decide⟩ (by decide)) (by omega)) ?_
    rintro r h2 F
    have s2 := F.sub
    have s02 := s1.trans (hsH.trans s2)
    have hR := Run_spec (m := (lenN (k : Nat) : Int)) (h := h2) (hC.sub (T' := T81) (by decide)) (R1.mono (hsH.trans s2)) (w := onesL (k : Nat)) (n := (k : Nat)) (by rw [eo]; exact F.ri) (by unfold In64; omega)
    rw [re] at hR
    simp -implicitDefEqProofs (disch := first | assumption | decide | omega | (simp only [wpD1] <;> omega) | (simp only [wpD2] <;> assumption) | solve_by_elim [HSub.refl, HSub.push, HSub.reserve] | fail) only [↓wpPre, wpPost, wpPoly, Int.reduceToNat, Int.reducePow, Int.reduceMul, Int.reduceAdd, Int.reduceSub, Int.reduceNeg, Nat.reduceAdd, Nat.reduceMul, Nat.reducePow, Int.reduceLT, Int.reduceLE, Int.reduceEq, Nat.reduceEqDiff, h22, e3, Int.one_mul]
    refine ACallsK.of hR ?_
    rintro r h3 ⟨v3, rfl, s3, R3, F3⟩
    simp -implicitDefEqProofs (disch := first | assumption | decide | omega | (simp only [wpD1] <;> omega) | (simp only [wpD2] <;> assumption) | solve_by_elim [HSub.refl, HSub.push, HSub.reserve] | fail) only [↓wpPre, wpPost, wpPoly, Int.reduceToNat, Int.reducePow, Int.reduceMul, Int.reduceAdd, Int.reduceSub, Int.reduceNeg, Nat.reduceAdd, Nat.reduceMul, Nat.reducePow, Int.reduceLT, Int.reduceLE, Int.reduceEq, Nat.reduceEqDiff, lstErr]
    have F3 := F3 rfl
    have : (lenN (k : Nat) : Int).toNat = lenN (k : Nat) := Int.toNat_natCast _
    rw [this] at F3
    exact ⟨v3, rfl, s02.trans s3, by rw [if_pos trivial]; exact F3.ri, fun _ => F3.mono s02⟩
  · have pe : tapsErr d w = 2 := by unfold tapsErr; rw [if_neg c]
    have hT := Taps_spec (d := d) (w := w) (h := h) (hC.sub (T' := T72) (by decide)) hd hw
    rw [pe] at hT
    rw [pe]
    (refine calls_intro (hC.body (by decide) tab74) (Nat.le_of_ble_eq_true rfl) ?_); (show wp C _ none B74.code _ _); (simp only [B74]); simp -implicitDefEqProofs (disch := first | assumption | decide | omega | (simp only [wpD1] <;> omega) | (simp only [wpD2] <;> assumption) | solve_by_elim [HSub.refl, HSub.push, HSub.reserve] | fail) only [↓wpPre, wpPost, wpPoly, Int.reduceToNat, Int.reducePow, Int.reduceMul, Int.reduceAdd, Int.reduceSub, Int.reduceNeg, Nat.reduceAdd, Nat.reduceMul, Nat.reducePow, Int.reduceLT, Int.reduceLE, Int.reduceEq, Nat.reduceEqDiff]
    refine ACallsK.of hT ?_
    rintro r h1 ⟨v1, rfl, s1, R1⟩
    simp -implicitDefEqProofs (disch := first | assumption | decide | omega | (simp only [wpD1] <;> omega) | (simp only [wpD2] <;> assumption) | solve_by_elim [HSub.refl, HSub.push, HSub.reserve] | fail) only [↓wpPre, wpPost, wpPoly, Int.reduceToNat, Int.reducePow, Int.reduceMul, Int.reduceAdd, Int.reduceSub, Int.reduceNeg, Nat.reduceAdd, Nat.reduceMul, Nat.reducePow, Int.reduceLT, Int.reduceLE, Int.reduceEq, Nat.reduceEqDiff, lstErr]
    exact ⟨.nilslice, rfl, s1, by rw [if_neg id]; exact RI.nil⟩

set_option maxRecDepth 100000 in
theorem Bits08_spec (hC : Has C T75) {d w : Int} {h : Heap} (hd : In64 d) (hw : In64 w) : ACalls C 75 [.int .i64 d, .int .i64 w] h (fun r h' => ∃ v, r = lstErr v (tapsErr d w) ∧ HSub h h' ∧ RI h' v (if tapsErr d w = 0 then bitsL d w else [])) := by
  by_cases c : lenOk d = true ∧ (w = 1 ∨ w = 2)
  · have pe : tapsErr d w = 0 := by unfold tapsErr; rw [if_pos c]
    have hl := lenN_eq c.1
    have hr := reg_ok c.1 c.2
    have hd5 : 5 ≤ d ∧ d ≤ 10 := by have := lenOk_cases c.1; omega
    have hT := Taps08_spec (d := d) (w := w) (h := h) (hC.sub (T' := T73) (by decide)) hd hw
    rw [pe, if_pos rfl] at hT
    have eL : lenE d = tup2 (lenN d) 0 := by unfold lenE; rw [if_pos c.1]
    rw [pe]
    obtain ⟨k, rfl⟩ := Int.eq_ofNat_of_zero_le (show 0 ≤ d by omega)
    obtain ⟨kk, hkk, R⟩ := regErr_ok hr
    have : kk = k := by omega
    subst this
    (refine calls_intro (hC.body (by decide) tab75) (Nat.le_of_ble_eq_true rfl) ?_); (show wp C _ none B75.code _ _); (simp only [B75]); simp -implicitDefEqProofs (disch := first | assumption | decide | omega | (simp only [wpD1] <;> omega) | (simp only [wpD2] <;> assumption) | solve_by_elim [HSub.refl, HSub.push, HSub.reserve] | fail) only [↓wpPre, wpPost, wpPoly, Int.reduceToNat, Int.reducePow, Int.reduceMul, Int.reduceAdd, Int.reduceSub, Int.reduceNeg, Nat.reduceAdd, Nat.reduceMul, Nat.reducePow, Int.reduceLT, Int.reduceLE, Int.reduceEq, Nat.reduceEqDiff]
    refine ACallsK.of hT ?_
    rintro r h1 ⟨v1, rfl, s1, R1⟩
    simp -implicitDefEqProofs (disch := first | assumption | decide | omega | (simp only [wpD1] <;> omega) | (simp only [wpD2] <;> assumption) | solve_by_elim [HSub.refl, HSub.push, HSub.reserve] | fail) only [↓wpPre, wpPost, wpPoly, Int.reduceToNat, Int.reducePow, Int.reduceMul, Int.reduceAdd, Int.reduceSub, Int.reduceNeg, Nat.reduceAdd, Nat.reduceMul, Nat.reducePow, Int.reduceLT, Int.reduceLE, Int.reduceEq, Nat.reduceEqDiff, lstErr]
    refine ACallsK.eq2 (Length08_spec (hC.sub (T' := T71) (by decide)) hd) eL ?_
    simp -implicitDefEqProofs (disch := first | assumption | decide | omega | (simp only [wpD1] <;> omega) | (simp only [wpD2] <;> assumption) | solve_by_elim [HSub.refl, HSub.push, HSub.reserve] | fail) only [↓wpPre, wpPost, wpPoly, Int.reduceToNat, Int.reducePow, Int.reduceMul, Int.reduceAdd, Int.reduceSub, Int.reduceNeg, Nat.reduceAdd, Nat.reduceMul, Nat.reducePow, Int.reduceLT, Int.reduceLE, Int.reduceEq, Nat.reduceEqDiff, tup2, ints_replicate]
    have hol : ∀ p, p ≤ kk → (ones01 1 kk p).length = kk := fun p hp => ones01_length hp
    refine wp_loopI (fun j t h' => ∃ p : Nat, h' = h1.push (.cells (ints (ones01 1 kk p)) true 0) ∧ t 0 = .int .i64 (kk : Nat) ∧ t 6 = v1 ∧ t 8 = .int .i64 (lenN (kk : Nat)) ∧ t 10 = .slice h1.size 0 kk (.known kk) ∧ t 11 = .int .i64 (p : Nat) ∧ p ≤ kk ∧ j = kk - p) (j0 := kk)
      ⟨0, by simp [ones01], rfl, rfl, rfl, rfl, rfl, by omega, rfl⟩ ?_
    rintro j t h' ⟨p, rfl, e0, e6, e8, e10, e11, hp, hj⟩
    have holp := hol p hp
    simp -implicitDefEqProofs (disch := first | assumption | decide | omega | (simp only [wpD1] <;> omega) | (simp only [wpD2] <;> assumption) | solve_by_elim [HSub.refl, HSub.push, HSub.reserve] | fail) only [↓wpPre, wpPost, wpPoly, Int.reduceToNat, Int.reducePow, Int.reduceMul, Int.reduceAdd, Int.reduceSub, Int.reduceNeg, Nat.reduceAdd, Nat.reduceMul, Nat.reducePow, Int.reduceLT, Int.reduceLE, Int.reduceEq, Nat.reduceEqDiff, e0, e11]
    refine Br.by (fun c1 => ?_) (fun c1 => ?_)
    · have hset : (ones01 1 kk p).set p 1 = ones01 1 kk (p + 1) := by
        unfold ones01
        rw [List.set_append_right _ _ (by simp), List.length_replicate, Nat.sub_self, show kk - p = kk - (p + 1) + 1 by omega, List.replicate_succ, List.set_cons_zero]
        rw [show List.replicate (p + 1) (1 : Int) = List.replicate p 1 ++ [1] from List.replicate_succ', List.append_assoc]; rfl
      simp -implicitDefEqProofs (disch := first | assumption | decide | omega | (simp only [wpD1] <;> omega) | (simp only [wpD2] <;> assumption) | solve_by_elim [HSub.refl, HSub.push, HSub.reserve] | fail) only [↓wpPre, wpPost, wpPoly, Int.reduceToNat, Int.reducePow, Int.reduceMul, Int.reduceAdd, Int.reduceSub, Int.reduceNeg, Nat.reduceAdd, Nat.reduceMul, Nat.reducePow, Int.reduceLT, Int.reduceLE, Int.reduceEq, Nat.reduceEqDiff, e0, e6, e8, e10, e11, hset]
      exact ⟨_, ⟨p + 1, rfl, by simp, by omega, rfl⟩, by omega⟩
    · have : p = kk := by omega
      subst this
      have eo : ones01 1 p p = onesL (p : Nat) := by simp [ones01, onesL]
      rw [eo] at holp ⊢
      have RO : RI (h1.push (.cells (ints (onesL (p : Nat))) true 0)) (.slice h1.size 0 p (.known p)) (onesL (p : Nat)) := RI.known (get_push_eq rfl) ⟨by rw [holp], by omega⟩ (by omega)
      simp -implicitDefEqProofs (disch := first | assumption | decide | omega | (simp only [wpD1] <;> omega) | (simp only [wpD2] <;> assumption) | solve_by_elim [HSub.refl, HSub.push, HSub.reserve] | fail) only [↓wpPre, wpPost, wpPoly, Int.reduceToNat, Int.reducePow, Int.reduceMul, Int.reduceAdd, Int.reduceSub, Int.reduceNeg, Nat.reduceAdd, Nat.reduceMul, Nat.reducePow, Int.reduceLT, Int.reduceLE, Int.reduceEq, Nat.reduceEqDiff, e0, e6, e8, e10]
      refine ACallsK.of (run08_spec (hC.sub (T' := T91) (by decide)) (m := (lenN (p : Nat) : Int)) (R1.mono (HSub.push1 _ _)) RO R (by omega) (by unfold In64; omega)) ?_
      rintro r h3 ⟨L, A, hL1, hL2, hL3⟩
      have RA := A.ri
      have rl := runL_length (tapsL (p : Nat) w) (onesL (p : Nat)) L
      have Pa := RA.part_b (k2 := .i64) (b := (lenN (p : Nat) : Int)) (by omega)
      obtain ⟨wa, ea, Rwa⟩ := Pa
      simp -implicitDefEqProofs (disch := first | assumption | decide | omega | (simp only [wpD1] <;> omega) | (simp only [wpD2] <;> assumption) | solve_by_elim [HSub.refl, HSub.push, HSub.reserve] | fail) only [↓wpPre, wpPost, wpPoly, Int.reduceToNat, Int.reducePow, Int.reduceMul, Int.reduceAdd, Int.reduceSub, Int.reduceNeg, Nat.reduceAdd, Nat.reduceMul, Nat.reducePow, Int.reduceLT, Int.reduceLE, Int.reduceEq, Nat.reduceEqDiff, e8, ea]
      refine ⟨wa, rfl, (s1.trans (HSub.push1 _ _)).trans A.sub, ?_⟩
      rw [Int.toNat_natCast, runL_take (by omega)] at Rwa
      rw [if_pos trivial]; exact Rwa
  · have pe : tapsErr d w = 2 := by unfold tapsErr; rw [if_neg c]
    have hT := Taps08_spec (d := d) (w := w) (h := h) (hC.sub (T' := T73) (by decide)) hd hw
    rw [pe] at hT
    rw [pe]
    (refine calls_intro (hC.body (by decide) tab75) (Nat.le_of_ble_eq_true rfl) ?_); (show wp C _ none B75.code _ _); (simp only [B75]); simp -implicitDefEqProofs (disch := first | assumption | decide | omega | (simp only [wpD1] <;> omega) | (simp only [wpD2] <;> assumption) | solve_by_elim [HSub.refl, HSub.push, HSub.reserve] | fail) only [↓wpPre, wpPost, wpPoly, Int.reduceToNat, Int.reducePow, Int.reduceMul, Int.reduceAdd, Int.reduceSub, Int.reduceNeg, Nat.reduceAdd, Nat.reduceMul, Nat.reducePow, Int.reduceLT, Int.reduceLE, Int.reduceEq, Nat.reduceEqDiff]
    refine ACallsK.of hT ?_
    rintro r h1 ⟨v1, rfl, s1, R1⟩
    simp -implicitDefEqProofs (disch := first | assumption | decide | omega | (simp only [wpD1] <;> omega) | (simp only [wpD2] <;> assumption) | solve_by_elim [HSub.refl, HSub.push, HSub.reserve] | fail) only [↓wpPre, wpPost, wpPoly, Int.reduceToNat, Int.reducePow, Int.reduceMul, Int.reduceAdd, Int.reduceSub, Int.reduceNeg, Nat.reduceAdd, Nat.reduceMul, Nat.reducePow, Int.reduceLT, Int.reduceLE, Int.reduceEq, Nat.reduceEqDiff, lstErr]
    exact ⟨.nilslice, rfl, s1, by rw [if_neg id]; exact RI.nil⟩
end
end Go.Ae

/- The codes. -/
set_option linter.unusedSimpArgs false
set_option linter.unusedVariables false
namespace Go.Ae
/-- The bit of a code's chip. -/
def codeB (d p : Int) (i : Nat) : Int :=
  if p = 1 then (bitsL d 1).getD i 0 else if p = 2 then (bitsL d 2).getD i 0 else ((bitsL d 1).getD i 0 + (bitsL d 2).getD ((i + (p - 3).toNat) % lenN d) 0) % 2
def bitC (d p : Int) : List Int := (List.range (lenN d)).map (codeB d p)
def codeL (d p : Int) : List Int := (bitC d p).map fun b => 1 - 2 * b
def codeErr (d p : Int) : Int := if lenOk d = true ∧ 1 ≤ p ∧ p ≤ lenN d + 2 then 0 else 2
theorem bitC_length (d p : Int) : (bitC d p).length = lenN d := by simp [bitC]
theorem codeL_length (d p : Int) : (codeL d p).length = lenN d := by simp [codeL, bitC]
theorem bit01_getD {l : List Int} (h : ∀ x ∈ l, x = 0 ∨ x = 1) (i : Nat) : l.getD i 0 = 0 ∨ l.getD i 0 = 1 := bit01.get h i
theorem codeB_01 (d p : Int) (i : Nat) : codeB d p i = 0 ∨ codeB d p i = 1 := by
  unfold codeB
  have h1 := bit01_getD (bitsL_01 (d := d) (w := 1)) i
  have h2 := bit01_getD (bitsL_01 (d := d) (w := 2)) i
  split
  · exact h1
  · split
    · exact h2
    · omega
theorem codeB_one (d : Int) : bitC d 1 = bitsL d 1 := by
  refine seqx (by rw [bitC_length, bitsL_length]) fun i hi => ?_
  rw [bitC_length] at hi
  simp [bitC, hi, codeB]
theorem codeB_two (d : Int) : bitC d 2 = bitsL d 2 := by
  refine seqx (by rw [bitC_length, bitsL_length]) fun i hi => ?_
  rw [bitC_length] at hi
  simp [bitC, hi, codeB]
/-- The first sequence, its first k bits those of the code. -/
def codeP (d p : Int) (k : Nat) : List Int := (List.range (lenN d)).map fun i => if i < k then codeB d p i else (bitsL d 1).getD i 0
theorem codeP_length (d p : Int) (k : Nat) : (codeP d p k).length = lenN d := by simp [codeP]
theorem codeP_get {d p : Int} {k i : Nat} (hi : i < lenN d) : (codeP d p k).getD i 0 = if i < k then codeB d p i else (bitsL d 1).getD i 0 := by simp [codeP, hi]
theorem codeP_zero (d p : Int) : codeP d p 0 = bitsL d 1 := by
  refine seqx (by rw [codeP_length, bitsL_length]) fun i hi => ?_
  rw [codeP_length] at hi
  rw [codeP_get hi, if_neg (by omega)]
theorem codeP_full (d p : Int) : codeP d p (lenN d) = bitC d p := by
  refine seqx (by rw [codeP_length, bitC_length]) fun i hi => ?_
  rw [codeP_length] at hi
  rw [codeP_get hi, if_pos hi]; simp [bitC, hi]
theorem codeP_set {d p : Int} {k : Nat} (hk : k < lenN d) : (codeP d p k).set k (codeB d p k) = codeP d p (k + 1) := by
  refine seqx (by simp [codeP]) fun i hi => ?_
  simp only [List.length_set, codeP_length] at hi
  rw [codeP_get hi]
  simp only [List.getD_eq_getElem?_getD, List.getElem?_set, codeP_length]
  by_cases e : k = i
  · subst e; rw [if_pos rfl, if_pos hk, if_pos (by omega)]; rfl
  · rw [if_neg e]
    have := codeP_get (p := p) (k := k) hi
    rw [List.getD_eq_getElem?_getD] at this
    rw [this]
    by_cases c : i < k
    · rw [if_pos c, if_pos (by omega)]
    · rw [if_neg c, if_neg (by omega)]; simp
section
variable {C : Ctx}
set_option maxRecDepth 100000 in
set_option maxHeartbeats 2000000 in
theorem Code_spec (hC : Has C T76) {d p : Int} {h : Heap} (hd : In64 d) (hp : In64 p) : ACalls C 76 [.int .i64 d, .int .i64 p] h (fun r h' => ∃ v, r = lstErr v (codeErr d p) ∧ HSub h h' ∧ RI h' v (if codeErr d p = 0 then codeL d p else []) ∧ (codeErr d p = 0 → Fresh h h' v (codeL d p))) := by
  have hp' := hp
  unfold In64 at hp'
  have pe : codeErr d p = if lenOk d = true ∧ 1 ≤ p ∧ p ≤ lenN d + 2 then 0 else 2 := rfl
  by_cases c : lenOk d = true
  · have hl := lenN_eq c
    have eL : lenE d = tup2 (lenN d) 0 := by unfold lenE; rw [if_pos c]
    by_cases cp : 1 ≤ p ∧ p ≤ lenN d + 2
    · rw [if_pos ⟨c, cp⟩] at pe
      rw [pe]
      have t1 : tapsErr d 1 = 0 := by unfold tapsErr; rw [if_pos ⟨c, .inl rfl⟩]
      have t2 : tapsErr d 2 = 0 := by unfold tapsErr; rw [if_pos ⟨c, .inr rfl⟩]
      have lb1 := bitsL_length d 1
      have lb2 := bitsL_length d 2
      have hB : ∀ {w : Int} {h : Heap}, tapsErr d w = 0 → In64 w → ACalls C 74 [.int .i64 d, .int .i64 w] h (fun r h' => ∃ i, h.size ≤ i ∧ r = lstErr (.slice i 0 (lenN d) (.known (lenN d))) 0 ∧ HSub h h' ∧ h'.get i = some (.cells (ints (bitsL d w)) true 0)) := by
        intro w h e hw
        refine (Bits_spec (hC.sub (T' := T74) (by decide)) hd hw).mono ?_
        rintro r h' ⟨v, h1, _, _, h4⟩
        obtain ⟨s, _, i, hi, hv, hg⟩ := h4 e
        rw [bitsL_length] at hv
        exact ⟨i, hi, by rw [h1, e, hv], s, hg⟩
      have bC : ∀ k, (bitC d p).getD k 0 = 0 ∨ (bitC d p).getD k 0 = 1 := fun k => bit01_getD (fun x hx => by
        obtain ⟨i, _, rfl⟩ := List.mem_map.1 hx
        exact codeB_01 d p i) k
      have lC := bitC_length d p
      (refine calls_intro (hC.body (by decide) tab76) (Nat.le_of_ble_eq_true rfl) ?_); (show wp C _ none B76.code _ _); (simp only [B76]); simp -implicitDefEqProofs (disch := first | assumption | decide | omega | (simp only [wpD1] <;> omega) | (simp only [wpD2] <;> assumption) | solve_by_elim [HSub.refl, HSub.push, HSub.reserve] | fail) only [↓wpPre, wpPost, wpPoly, Int.reduceToNat, Int.reducePow, Int.reduceMul, Int.reduceAdd, Int.reduceSub, Int.reduceNeg, Nat.reduceAdd, Nat.reduceMul, Nat.reducePow, Int.reduceLT, Int.reduceLE, Int.reduceEq, Nat.reduceEqDiff]
      refine ACallsK.eq2 (Length_spec (hC.sub (T' := T70) (by decide)) hd) eL ?_
      simp -implicitDefEqProofs (disch := first | assumption | decide | omega | (simp only [wpD1] <;> omega) | (simp only [wpD2] <;> assumption) | solve_by_elim [HSub.refl, HSub.push, HSub.reserve] | fail) only [↓wpPre, wpPost, wpPoly, Int.reduceToNat, Int.reducePow, Int.reduceMul, Int.reduceAdd, Int.reduceSub, Int.reduceNeg, Nat.reduceAdd, Nat.reduceMul, Nat.reducePow, Int.reduceLT, Int.reduceLE, Int.reduceEq, Nat.reduceEqDiff, tup2]
      refine ACallsK.of (hB t1 (by unfold In64; omega)) ?_
      rintro r h1 ⟨i1, hi1, rfl, s1, g1⟩
      simp -implicitDefEqProofs (disch := first | assumption | decide | omega | (simp only [wpD1] <;> omega) | (simp only [wpD2] <;> assumption) | solve_by_elim [HSub.refl, HSub.push, HSub.reserve] | fail) only [↓wpPre, wpPost, wpPoly, Int.reduceToNat, Int.reducePow, Int.reduceMul, Int.reduceAdd, Int.reduceSub, Int.reduceNeg, Nat.reduceAdd, Nat.reduceMul, Nat.reducePow, Int.reduceLT, Int.reduceLE, Int.reduceEq, Nat.reduceEqDiff, lstErr]
      refine ACallsK.of (hB t2 (by unfold In64; omega)) ?_
      rintro r h2 ⟨i2, hi2, rfl, s2, g2⟩
      have hl1 := Heap.lt_of_get g1
      have hl2 := Heap.lt_of_get g2
      have g1' := (s2.get i1 hl1).trans g1
      have s12 := s1.trans s2
      have z2 := s2.size
      have z1 := s1.size
      by_cases p1 : p = 1
      · have gi1 : h2.get i1 = some (.cells (ints (bitC d p)) true 0) := by rw [p1, codeB_one]; exact g1'
        simp -implicitDefEqProofs (disch := first | assumption | decide | omega | (simp only [wpD1] <;> omega) | (simp only [wpD2] <;> assumption) | solve_by_elim [HSub.refl, HSub.push, HSub.reserve] | fail) only [↓wpPre, wpPost, wpPoly, Int.reduceToNat, Int.reducePow, Int.reduceMul, Int.reduceAdd, Int.reduceSub, Int.reduceNeg, Nat.reduceAdd, Nat.reduceMul, Nat.reducePow, Int.reduceLT, Int.reduceLE, Int.reduceEq, Nat.reduceEqDiff, lstErr]
        have gX : h2.get i1 = some (.cells (ints (mapPre (fun b => 1 - 2 * b) (bitC d p) 0)) true 0) := by rw [mapPre_zero]; exact gi1
        refine wp_loopI (fun j t h' => ∃ k : Nat, HSub h h' ∧ i1 < h'.size ∧ h'.get i1 = some (.cells (ints (mapPre (fun b => 1 - 2 * b) (bitC d p) k)) true 0) ∧ t 8 = .slice i1 0 (lenN d) (.known (lenN d)) ∧ t 68 = .slice i1 0 (lenN d) (.known (lenN d)) ∧ t 69 = .int .i64 (lenN d) ∧ t 70 = .int .i64 (k : Nat) ∧ k ≤ lenN d ∧ j = lenN d - k) (j0 := lenN d)
          ⟨0, s12, Heap.lt_of_get gi1, gX, rfl, rfl, rfl, rfl, by omega, rfl⟩ ?_
        rintro j t h' ⟨k, hs, hlt, hg, e8, e68, e69, e70, hk, hj⟩
        have hml := mapPre_length (fun b => 1 - 2 * b) (bitC d p) k
        simp -implicitDefEqProofs (disch := first | assumption | decide | omega | (simp only [wpD1] <;> omega) | (simp only [wpD2] <;> assumption) | solve_by_elim [HSub.refl, HSub.push, HSub.reserve] | fail) only [↓wpPre, wpPost, wpPoly, Int.reduceToNat, Int.reducePow, Int.reduceMul, Int.reduceAdd, Int.reduceSub, Int.reduceNeg, Nat.reduceAdd, Nat.reduceMul, Nat.reducePow, Int.reduceLT, Int.reduceLE, Int.reduceEq, Nat.reduceEqDiff, e69, e70]
        refine Br.by (fun c1 => ?_) (fun c1 => ?_)
        · have hk' : k < (bitC d p).length := by omega
          have hg2 := mapPre_get (fun b => 1 - 2 * b) hk'
          have hst := mapPre_set (fun b => 1 - 2 * b) hk'
          have b01 := bC k
          simp -implicitDefEqProofs (disch := first | assumption | decide | omega | (simp only [wpD1] <;> omega) | (simp only [wpD2] <;> assumption) | solve_by_elim [HSub.refl, HSub.push, HSub.reserve] | fail) only [↓wpPre, wpPost, wpPoly, Int.reduceToNat, Int.reducePow, Int.reduceMul, Int.reduceAdd, Int.reduceSub, Int.reduceNeg, Nat.reduceAdd, Nat.reduceMul, Nat.reducePow, Int.reduceLT, Int.reduceLE, Int.reduceEq, Nat.reduceEqDiff, e8, e68, e69, e70, hg, hg2]
          exact ⟨_, ⟨k + 1, hs.put (by omega) _, hlt, by rw [← hst], by simp, by omega, rfl⟩, by omega⟩
        · have : k = (bitC d p).length := by omega
          subst this
          rw [mapPre_full] at hg
          simp -implicitDefEqProofs (disch := first | assumption | decide | omega | (simp only [wpD1] <;> omega) | (simp only [wpD2] <;> assumption) | solve_by_elim [HSub.refl, HSub.push, HSub.reserve] | fail) only [↓wpPre, wpPost, wpPoly, Int.reduceToNat, Int.reducePow, Int.reduceMul, Int.reduceAdd, Int.reduceSub, Int.reduceNeg, Nat.reduceAdd, Nat.reduceMul, Nat.reducePow, Int.reduceLT, Int.reduceLE, Int.reduceEq, Nat.reduceEqDiff, e8]
          have cl := codeL_length d p
          have F : Fresh h h' (.slice i1 0 (lenN d) (.known (lenN d))) (codeL d p) := ⟨hs, by omega, i1, by omega, by rw [cl], hg⟩
          exact ⟨_, rfl, hs, by rw [if_pos trivial]; exact F.ri, fun _ => F⟩
      by_cases p2 : p = 2
      · have gi2 : h2.get i2 = some (.cells (ints (bitC d p)) true 0) := by rw [p2, codeB_two]; exact g2
        simp -implicitDefEqProofs (disch := first | assumption | decide | omega | (simp only [wpD1] <;> omega) | (simp only [wpD2] <;> assumption) | solve_by_elim [HSub.refl, HSub.push, HSub.reserve] | fail) only [↓wpPre, wpPost, wpPoly, Int.reduceToNat, Int.reducePow, Int.reduceMul, Int.reduceAdd, Int.reduceSub, Int.reduceNeg, Nat.reduceAdd, Nat.reduceMul, Nat.reducePow, Int.reduceLT, Int.reduceLE, Int.reduceEq, Nat.reduceEqDiff, lstErr]
        have gX : h2.get i2 = some (.cells (ints (mapPre (fun b => 1 - 2 * b) (bitC d p) 0)) true 0) := by rw [mapPre_zero]; exact gi2
        refine wp_loopI (fun j t h' => ∃ k : Nat, HSub h h' ∧ i2 < h'.size ∧ h'.get i2 = some (.cells (ints (mapPre (fun b => 1 - 2 * b) (bitC d p) k)) true 0) ∧ t 8 = .slice i2 0 (lenN d) (.known (lenN d)) ∧ t 68 = .slice i2 0 (lenN d) (.known (lenN d)) ∧ t 69 = .int .i64 (lenN d) ∧ t 70 = .int .i64 (k : Nat) ∧ k ≤ lenN d ∧ j = lenN d - k) (j0 := lenN d)
          ⟨0, s12, Heap.lt_of_get gi2, gX, rfl, rfl, rfl, rfl, by omega, rfl⟩ ?_
        rintro j t h' ⟨k, hs, hlt, hg, e8, e68, e69, e70, hk, hj⟩
        have hml := mapPre_length (fun b => 1 - 2 * b) (bitC d p) k
        simp -implicitDefEqProofs (disch := first | assumption | decide | omega | (simp only [wpD1] <;> omega) | (simp only [wpD2] <;> assumption) | solve_by_elim [HSub.refl, HSub.push, HSub.reserve] | fail) only [↓wpPre, wpPost, wpPoly, Int.reduceToNat, Int.reducePow, Int.reduceMul, Int.reduceAdd, Int.reduceSub, Int.reduceNeg, Nat.reduceAdd, Nat.reduceMul, Nat.reducePow, Int.reduceLT, Int.reduceLE, Int.reduceEq, Nat.reduceEqDiff, e69, e70]
        refine Br.by (fun c1 => ?_) (fun c1 => ?_)
        · have hk' : k < (bitC d p).length := by omega
          have hg2 := mapPre_get (fun b => 1 - 2 * b) hk'
          have hst := mapPre_set (fun b => 1 - 2 * b) hk'
          have b01 := bC k
          simp -implicitDefEqProofs (disch := first | assumption | decide | omega | (simp only [wpD1] <;> omega) | (simp only [wpD2] <;> assumption) | solve_by_elim [HSub.refl, HSub.push, HSub.reserve] | fail) only [↓wpPre, wpPost, wpPoly, Int.reduceToNat, Int.reducePow, Int.reduceMul, Int.reduceAdd, Int.reduceSub, Int.reduceNeg, Nat.reduceAdd, Nat.reduceMul, Nat.reducePow, Int.reduceLT, Int.reduceLE, Int.reduceEq, Nat.reduceEqDiff, e8, e68, e69, e70, hg, hg2]
          exact ⟨_, ⟨k + 1, hs.put (by omega) _, hlt, by rw [← hst], by simp, by omega, rfl⟩, by omega⟩
        · have : k = (bitC d p).length := by omega
          subst this
          rw [mapPre_full] at hg
          simp -implicitDefEqProofs (disch := first | assumption | decide | omega | (simp only [wpD1] <;> omega) | (simp only [wpD2] <;> assumption) | solve_by_elim [HSub.refl, HSub.push, HSub.reserve] | fail) only [↓wpPre, wpPost, wpPoly, Int.reduceToNat, Int.reducePow, Int.reduceMul, Int.reduceAdd, Int.reduceSub, Int.reduceNeg, Nat.reduceAdd, Nat.reduceMul, Nat.reducePow, Int.reduceLT, Int.reduceLE, Int.reduceEq, Nat.reduceEqDiff, e8]
          have cl := codeL_length d p
          have F : Fresh h h' (.slice i2 0 (lenN d) (.known (lenN d))) (codeL d p) := ⟨hs, by omega, i2, by omega, by rw [cl], hg⟩
          exact ⟨_, rfl, hs, by rw [if_pos trivial]; exact F.ri, fun _ => F⟩
      have hp3 : 3 ≤ p := by omega
      have lP := codeP_length d p
      have g0 : h2.get i1 = some (.cells (ints (codeP d p 0)) true 0) := by rw [codeP_zero]; exact g1'
      simp -implicitDefEqProofs (disch := first | assumption | decide | omega | (simp only [wpD1] <;> omega) | (simp only [wpD2] <;> assumption) | solve_by_elim [HSub.refl, HSub.push, HSub.reserve] | fail) only [↓wpPre, wpPost, wpPoly, Int.reduceToNat, Int.reducePow, Int.reduceMul, Int.reduceAdd, Int.reduceSub, Int.reduceNeg, Nat.reduceAdd, Nat.reduceMul, Nat.reducePow, Int.reduceLT, Int.reduceLE, Int.reduceEq, Nat.reduceEqDiff, lstErr]
      refine wp_loopI (fun j t h' => ∃ k : Nat, HSub h h' ∧ i1 < h'.size ∧ h'.get i1 = some (.cells (ints (codeP d p k)) true 0) ∧ h'.get i2 = some (.cells (ints (bitsL d 2)) true 0) ∧ t 1 = .int .i64 p ∧ t 6 = .int .i64 (lenN d) ∧ t 8 = .slice i1 0 (lenN d) (.known (lenN d)) ∧ t 10 = .slice i2 0 (lenN d) (.known (lenN d)) ∧
          t 42 = .slice i1 0 (lenN d) (.known (lenN d)) ∧ t 43 = .int .i64 (lenN d) ∧ t 44 = .int .i64 (k : Nat) ∧ k ≤ lenN d ∧ j = lenN d - k) (j0 := lenN d)
        ⟨0, s12, by omega, g0, g2, rfl, rfl, rfl, rfl, rfl, rfl, rfl, by omega, rfl⟩ ?_
      rintro j t h3 ⟨k, hs3, hlt3, hg1, hg2, e1, e6, e8, e10, e42, e43, e44, hk, hj⟩
      have lPk := lP k
      simp -implicitDefEqProofs (disch := first | assumption | decide | omega | (simp only [wpD1] <;> omega) | (simp only [wpD2] <;> assumption) | solve_by_elim [HSub.refl, HSub.push, HSub.reserve] | fail) only [↓wpPre, wpPost, wpPoly, Int.reduceToNat, Int.reducePow, Int.reduceMul, Int.reduceAdd, Int.reduceSub, Int.reduceNeg, Nat.reduceAdd, Nat.reduceMul, Nat.reducePow, Int.reduceLT, Int.reduceLE, Int.reduceEq, Nat.reduceEqDiff, e43, e44]
      refine Br.by (fun c1 => ?_) (fun c1 => ?_)
      · have hk' : k < lenN d := by omega
        have gP : (codeP d p k).getD k 0 = (bitsL d 1).getD k 0 := by rw [codeP_get hk', if_neg (by omega)]
        have em : ((k : Int) + p - 3) % (lenN d : Int) = (((k + (p - 3).toNat) % lenN d : Nat) : Int) := by
          rw [show (k : Int) + p - 3 = ((k + (p - 3).toNat : Nat) : Int) by omega]; exact (Int.natCast_emod _ _).symm
        have hm : (k + (p - 3).toNat) % lenN d < lenN d := Nat.mod_lt _ (by omega)
        have lb2 := bitsL_length d 2
        have ex := xor01 (bit01_getD (bitsL_01 (d := d) (w := 1)) k) (bit01_getD (bitsL_01 (d := d) (w := 2)) ((k + (p - 3).toNat) % lenN d))
        have hcb : codeB d p k = ((bitsL d 1).getD k 0 + (bitsL d 2).getD ((k + (p - 3).toNat) % lenN d) 0) % 2 := by unfold codeB; rw [if_neg p1, if_neg p2]
        rw [← hcb] at ex
        have hst := codeP_set (p := p) hk'
        simp -implicitDefEqProofs (disch := first | assumption | decide | omega | (simp only [wpD1] <;> omega) | (simp only [wpD2] <;> assumption) | solve_by_elim [HSub.refl, HSub.push, HSub.reserve] | fail) only [↓wpPre, wpPost, wpPoly, Int.reduceToNat, Int.reducePow, Int.reduceMul, Int.reduceAdd, Int.reduceSub, Int.reduceNeg, Nat.reduceAdd, Nat.reduceMul, Nat.reducePow, Int.reduceLT, Int.reduceLE, Int.reduceEq, Nat.reduceEqDiff, e1, e6, e8, e10, e42, e43, e44, hg1, hg2, gP, em, ex, hst]
        exact ⟨_, ⟨k + 1, hs3.put (by omega) _, hlt3, rfl, by simp, by omega, rfl⟩, by omega⟩
      · have ek : k = lenN d := by omega
        rw [ek] at hg1
        have gi3 : h3.get i1 = some (.cells (ints (bitC d p)) true 0) := by rw [← codeP_full]; exact hg1
        simp -implicitDefEqProofs (disch := first | assumption | decide | omega | (simp only [wpD1] <;> omega) | (simp only [wpD2] <;> assumption) | solve_by_elim [HSub.refl, HSub.push, HSub.reserve] | fail) only [↓wpPre, wpPost, wpPoly, Int.reduceToNat, Int.reducePow, Int.reduceMul, Int.reduceAdd, Int.reduceSub, Int.reduceNeg, Nat.reduceAdd, Nat.reduceMul, Nat.reducePow, Int.reduceLT, Int.reduceLE, Int.reduceEq, Nat.reduceEqDiff, e8]
        have gX : h3.get i1 = some (.cells (ints (mapPre (fun b => 1 - 2 * b) (bitC d p) 0)) true 0) := by rw [mapPre_zero]; exact gi3
        refine wp_loopI (fun j t h' => ∃ k : Nat, HSub h h' ∧ i1 < h'.size ∧ h'.get i1 = some (.cells (ints (mapPre (fun b => 1 - 2 * b) (bitC d p) k)) true 0) ∧ t 8 = .slice i1 0 (lenN d) (.known (lenN d)) ∧ t 68 = .slice i1 0 (lenN d) (.known (lenN d)) ∧ t 69 = .int .i64 (lenN d) ∧ t 70 = .int .i64 (k : Nat) ∧ k ≤ lenN d ∧ j = lenN d - k) (j0 := lenN d)
          ⟨0, hs3, Heap.lt_of_get gi3, gX, e8, rfl, rfl, rfl, by omega, rfl⟩ ?_
        rintro j u h' ⟨k, hs, hlt, hg, f8, e68, e69, e70, hk, hj⟩
        have hml := mapPre_length (fun b => 1 - 2 * b) (bitC d p) k
        simp -implicitDefEqProofs (disch := first | assumption | decide | omega | (simp only [wpD1] <;> omega) | (simp only [wpD2] <;> assumption) | solve_by_elim [HSub.refl, HSub.push, HSub.reserve] | fail) only [↓wpPre, wpPost, wpPoly, Int.reduceToNat, Int.reducePow, Int.reduceMul, Int.reduceAdd, Int.reduceSub, Int.reduceNeg, Nat.reduceAdd, Nat.reduceMul, Nat.reducePow, Int.reduceLT, Int.reduceLE, Int.reduceEq, Nat.reduceEqDiff, e69, e70]
        refine Br.by (fun c1 => ?_) (fun c1 => ?_)
        · have hk' : k < (bitC d p).length := by omega
          have hg2 := mapPre_get (fun b => 1 - 2 * b) hk'
          have hst := mapPre_set (fun b => 1 - 2 * b) hk'
          have b01 := bC k
          simp -implicitDefEqProofs (disch := first | assumption | decide | omega | (simp only [wpD1] <;> omega) | (simp only [wpD2] <;> assumption) | solve_by_elim [HSub.refl, HSub.push, HSub.reserve] | fail) only [↓wpPre, wpPost, wpPoly, Int.reduceToNat, Int.reducePow, Int.reduceMul, Int.reduceAdd, Int.reduceSub, Int.reduceNeg, Nat.reduceAdd, Nat.reduceMul, Nat.reducePow, Int.reduceLT, Int.reduceLE, Int.reduceEq, Nat.reduceEqDiff, f8, e68, e69, e70, hg, hg2]
          exact ⟨_, ⟨k + 1, hs.put (by omega) _, hlt, by rw [← hst], by simp, by omega, rfl⟩, by omega⟩
        · have : k = (bitC d p).length := by omega
          subst this
          rw [mapPre_full] at hg
          simp -implicitDefEqProofs (disch := first | assumption | decide | omega | (simp only [wpD1] <;> omega) | (simp only [wpD2] <;> assumption) | solve_by_elim [HSub.refl, HSub.push, HSub.reserve] | fail) only [↓wpPre, wpPost, wpPoly, Int.reduceToNat, Int.reducePow, Int.reduceMul, Int.reduceAdd, Int.reduceSub, Int.reduceNeg, Nat.reduceAdd, Nat.reduceMul, Nat.reducePow, Int.reduceLT, Int.reduceLE, Int.reduceEq, Nat.reduceEqDiff, f8]
          have cl := codeL_length d p
          have F : Fresh h h' (.slice i1 0 (lenN d) (.known (lenN d))) (codeL d p) := ⟨hs, by omega, i1, by omega, by rw [cl], hg⟩
          exact ⟨_, rfl, hs, by rw [if_pos trivial]; exact F.ri, fun _ => F⟩
    · have cp' : ¬ (lenOk d = true ∧ 1 ≤ p ∧ p ≤ lenN d + 2) := fun h => cp h.2
      rw [if_neg cp'] at pe
      rw [pe]
      (refine calls_intro (hC.body (by decide) tab76) (Nat.le_of_ble_eq_true rfl) ?_); (show wp C _ none B76.code _ _); (simp only [B76]); simp -implicitDefEqProofs (disch := first | assumption | decide | omega | (simp only [wpD1] <;> omega) | (simp only [wpD2] <;> assumption) | solve_by_elim [HSub.refl, HSub.push, HSub.reserve] | fail) only [↓wpPre, wpPost, wpPoly, Int.reduceToNat, Int.reducePow, Int.reduceMul, Int.reduceAdd, Int.reduceSub, Int.reduceNeg, Nat.reduceAdd, Nat.reduceMul, Nat.reducePow, Int.reduceLT, Int.reduceLE, Int.reduceEq, Nat.reduceEqDiff]
      refine ACallsK.eq2 (Length_spec (hC.sub (T' := T70) (by decide)) hd) eL ?_
      simp -implicitDefEqProofs (disch := first | assumption | decide | omega | (simp only [wpD1] <;> omega) | (simp only [wpD2] <;> assumption) | solve_by_elim [HSub.refl, HSub.push, HSub.reserve] | fail) only [↓wpPre, wpPost, wpPoly, Int.reduceToNat, Int.reducePow, Int.reduceMul, Int.reduceAdd, Int.reduceSub, Int.reduceNeg, Nat.reduceAdd, Nat.reduceMul, Nat.reducePow, Int.reduceLT, Int.reduceLE, Int.reduceEq, Nat.reduceEqDiff, tup2]
      (repeat' (first | (refine Br.by (fun _ => ?_) (fun _ => ?_)) | (simp -implicitDefEqProofs (disch := first | assumption | decide | omega | (simp only [wpD1] <;> omega) | (simp only [wpD2] <;> assumption) | solve_by_elim [HSub.refl, HSub.push, HSub.reserve] | fail) only [↓wpPre, wpPost, wpPoly, Int.reduceToNat, Int.reducePow, Int.reduceMul, Int.reduceAdd, Int.reduceSub, Int.reduceNeg, Nat.reduceAdd, Nat.reduceMul, Nat.reducePow, Int.reduceLT, Int.reduceLE, Int.reduceEq, Nat.reduceEqDiff])))
      all_goals first | exact ⟨.nilslice, by rw [lstErr], HSub.refl _, by rw [if_neg id]; exact RI.nil⟩ | omega
  · have eL : lenE d = tup2 0 2 := by unfold lenE; rw [if_neg c]
    have cp' : ¬ (lenOk d = true ∧ 1 ≤ p ∧ p ≤ lenN d + 2) := fun h => c h.1
    rw [if_neg cp'] at pe
    rw [pe]
    (refine calls_intro (hC.body (by decide) tab76) (Nat.le_of_ble_eq_true rfl) ?_); (show wp C _ none B76.code _ _); (simp only [B76]); simp -implicitDefEqProofs (disch := first | assumption | decide | omega | (simp only [wpD1] <;> omega) | (simp only [wpD2] <;> assumption) | solve_by_elim [HSub.refl, HSub.push, HSub.reserve] | fail) only [↓wpPre, wpPost, wpPoly, Int.reduceToNat, Int.reducePow, Int.reduceMul, Int.reduceAdd, Int.reduceSub, Int.reduceNeg, Nat.reduceAdd, Nat.reduceMul, Nat.reducePow, Int.reduceLT, Int.reduceLE, Int.reduceEq, Nat.reduceEqDiff]
    refine ACallsK.eq2 (Length_spec (hC.sub (T' := T70) (by decide)) hd) eL ?_
    simp -implicitDefEqProofs (disch := first | assumption | decide | omega | (simp only [wpD1] <;> omega) | (simp only [wpD2] <;> assumption) | solve_by_elim [HSub.refl, HSub.push, HSub.reserve] | fail) only [↓wpPre, wpPost, wpPoly, Int.reduceToNat, Int.reducePow, Int.reduceMul, Int.reduceAdd, Int.reduceSub, Int.reduceNeg, Nat.reduceAdd, Nat.reduceMul, Nat.reducePow, Int.reduceLT, Int.reduceLE, Int.reduceEq, Nat.reduceEqDiff, tup2]
    exact ⟨.nilslice, by rw [lstErr], HSub.refl _, by rw [if_neg id]; exact RI.nil⟩
end
end Go.Ae

/- The codes of the reference; sums. -/
set_option linter.unusedSimpArgs false
set_option linter.unusedVariables false
namespace Go.Ae
def codeK (d p : Int) (k : Nat) : List Int := (codeL d p).take k ++ List.replicate (lenN d - k) 0
theorem codeK_length {d p : Int} {k : Nat} (h : k ≤ lenN d) : (codeK d p k).length = lenN d := by simp [codeK, codeL_length]; omega
theorem codeL_get {d p : Int} {k : Nat} (h : k < lenN d) : (codeL d p).getD k 0 = 1 - 2 * codeB d p k := by simp [codeL, bitC, h]
theorem codeK_set {d p : Int} {k : Nat} (h : k < lenN d) : (codeK d p k).set k (1 - 2 * codeB d p k) = codeK d p (k + 1) := by
  unfold codeK
  have cl := codeL_length d p
  have hl : ((codeL d p).take k).length = k := by simp [cl]; omega
  rw [List.set_append_right _ _ (by omega), hl, Nat.sub_self, show lenN d - k = lenN d - (k + 1) + 1 by omega, List.replicate_succ, List.set_cons_zero, take_succ_getD (by omega), codeL_get h, List.append_assoc]
  rfl
theorem codeK_full (d p : Int) : codeK d p (lenN d) = codeL d p := by
  have cl := codeL_length d p
  simp [codeK, ← cl]
theorem codeL_range {d p : Int} : ∀ x ∈ codeL d p, -1 ≤ x ∧ x ≤ 1 := by
  intro x hx
  obtain ⟨b, hb, rfl⟩ := List.mem_map.1 hx
  obtain ⟨i, _, rfl⟩ := List.mem_map.1 hb
  have := codeB_01 d p i
  omega
theorem sum_pm {c : Int} {l : List Int} (hl : ∀ x ∈ l, -c ≤ x ∧ x ≤ c) : -(c * l.length) ≤ l.sum ∧ l.sum ≤ c * l.length := by
  induction l with
  | nil => simp
  | cons x l ih =>
    have h1 := ih (fun y hy => hl y (List.mem_cons_of_mem _ hy))
    have h2 := hl x List.mem_cons_self
    simp only [List.sum_cons, List.length_cons, Int.natCast_add, Int.mul_add]
    omega
theorem sum_take_succ {l : List Int} {k : Nat} (h : k < l.length) : (l.take (k + 1)).sum = (l.take k).sum + l.getD k 0 := by rw [take_succ_getD h]; simp
def sumE (d p : Int) : AV := if codeErr d p = 0 then tup2 (codeL d p).sum 0 else tup2 0 2
section
variable {C : Ctx}
set_option maxRecDepth 100000 in
set_option maxHeartbeats 2000000 in
theorem Code08_spec (hC : Has C T77) {d p : Int} {h : Heap} (hd : In64 d) (hp : In64 p) : ACalls C 77 [.int .i64 d, .int .i64 p] h (fun r h' => ∃ v, r = lstErr v (codeErr d p) ∧ HSub h h' ∧ RI h' v (if codeErr d p = 0 then codeL d p else [])) := by
  have hp' := hp
  unfold In64 at hp'
  have pe : codeErr d p = if lenOk d = true ∧ 1 ≤ p ∧ p ≤ lenN d + 2 then 0 else 2 := rfl
  by_cases c : lenOk d = true
  · have hl := lenN_eq c
    have eL : lenE d = tup2 (lenN d) 0 := by unfold lenE; rw [if_pos c]
    by_cases cp : 1 ≤ p ∧ p ≤ lenN d + 2
    · rw [if_pos ⟨c, cp⟩] at pe
      rw [pe]
      have t1 : tapsErr d 1 = 0 := by unfold tapsErr; rw [if_pos ⟨c, .inl rfl⟩]
      have t2 : tapsErr d 2 = 0 := by unfold tapsErr; rw [if_pos ⟨c, .inr rfl⟩]
      have lb1 := bitsL_length d 1
      have lb2 := bitsL_length d 2
      have hB : ∀ {w : Int} {h : Heap}, tapsErr d w = 0 → In64 w → ACalls C 75 [.int .i64 d, .int .i64 w] h (fun r h' => ∃ v, r = lstErr v 0 ∧ HSub h h' ∧ RI h' v (bitsL d w)) := by
        intro w h e hw
        refine (Bits08_spec (hC.sub (T' := T75) (by decide)) hd hw).mono ?_
        rintro r h' ⟨v, h1, h2, h3⟩
        rw [e, if_pos rfl] at h3
        exact ⟨v, by rw [h1, e], h2, h3⟩
      (refine calls_intro (hC.body (by decide) tab77) (Nat.le_of_ble_eq_true rfl) ?_); (show wp C _ none B77.code _ _); (simp only [B77]); simp -implicitDefEqProofs (disch := first | assumption | decide | omega | (simp only [wpD1] <;> omega) | (simp only [wpD2] <;> assumption) | solve_by_elim [HSub.refl, HSub.push, HSub.reserve] | fail) only [↓wpPre, wpPost, wpPoly, Int.reduceToNat, Int.reducePow, Int.reduceMul, Int.reduceAdd, Int.reduceSub, Int.reduceNeg, Nat.reduceAdd, Nat.reduceMul, Nat.reducePow, Int.reduceLT, Int.reduceLE, Int.reduceEq, Nat.reduceEqDiff]
      refine ACallsK.eq2 (Length08_spec (hC.sub (T' := T71) (by decide)) hd) eL ?_
      simp -implicitDefEqProofs (disch := first | assumption | decide | omega | (simp only [wpD1] <;> omega) | (simp only [wpD2] <;> assumption) | solve_by_elim [HSub.refl, HSub.push, HSub.reserve] | fail) only [↓wpPre, wpPost, wpPoly, Int.reduceToNat, Int.reducePow, Int.reduceMul, Int.reduceAdd, Int.reduceSub, Int.reduceNeg, Nat.reduceAdd, Nat.reduceMul, Nat.reducePow, Int.reduceLT, Int.reduceLE, Int.reduceEq, Nat.reduceEqDiff, tup2]
      refine ACallsK.of (hB t1 (by unfold In64; omega)) ?_
      rintro r h1 ⟨v1, rfl, s1, R1⟩
      simp -implicitDefEqProofs (disch := first | assumption | decide | omega | (simp only [wpD1] <;> omega) | (simp only [wpD2] <;> assumption) | solve_by_elim [HSub.refl, HSub.push, HSub.reserve] | fail) only [↓wpPre, wpPost, wpPoly, Int.reduceToNat, Int.reducePow, Int.reduceMul, Int.reduceAdd, Int.reduceSub, Int.reduceNeg, Nat.reduceAdd, Nat.reduceMul, Nat.reducePow, Int.reduceLT, Int.reduceLE, Int.reduceEq, Nat.reduceEqDiff, lstErr]
      refine ACallsK.of (hB t2 (by unfold In64; omega)) ?_
      rintro r h2 ⟨v2, rfl, s2, R2⟩
      have R1 := R1.mono s2
      have s12 := s1.trans s2
      simp -implicitDefEqProofs (disch := first | assumption | decide | omega | (simp only [wpD1] <;> omega) | (simp only [wpD2] <;> assumption) | solve_by_elim [HSub.refl, HSub.push, HSub.reserve] | fail) only [↓wpPre, wpPost, wpPoly, Int.reduceToNat, Int.reducePow, Int.reduceMul, Int.reduceAdd, Int.reduceSub, Int.reduceNeg, Nat.reduceAdd, Nat.reduceMul, Nat.reducePow, Int.reduceLT, Int.reduceLE, Int.reduceEq, Nat.reduceEqDiff, lstErr, ints_replicate]
      refine wp_loopI (fun j t h' => ∃ k : Nat, h' = h2.push (.cells (ints (codeK d p k)) true 0) ∧ t 1 = .int .i64 p ∧ t 6 = .int .i64 (lenN d) ∧ t 8 = v1 ∧ t 10 = v2 ∧ t 12 = .slice h2.size 0 (lenN d) (.known (lenN d)) ∧ t 13 = .int .i64 (k : Nat) ∧ k ≤ lenN d ∧ j = lenN d - k) (j0 := lenN d)
        ⟨0, by simp [codeK], rfl, rfl, rfl, rfl, rfl, rfl, by omega, rfl⟩ ?_
      rintro j t h3 ⟨k, rfl, e1, e6, e8, e10, e12, e13, hk, hj⟩
      have lK := codeK_length (p := p) hk
      simp -implicitDefEqProofs (disch := first | assumption | decide | omega | (simp only [wpD1] <;> omega) | (simp only [wpD2] <;> assumption) | solve_by_elim [HSub.refl, HSub.push, HSub.reserve] | fail) only [↓wpPre, wpPost, wpPoly, Int.reduceToNat, Int.reducePow, Int.reduceMul, Int.reduceAdd, Int.reduceSub, Int.reduceNeg, Nat.reduceAdd, Nat.reduceMul, Nat.reducePow, Int.reduceLT, Int.reduceLE, Int.reduceEq, Nat.reduceEqDiff, e6, e13]
      refine Br.by (fun c1 => ?_) (fun c1 => ?_)
      · have hk' : k < lenN d := by omega
        have b1 := bit01_getD (bitsL_01 (d := d) (w := 1)) k
        have b2 := bit01_getD (bitsL_01 (d := d) (w := 2)) k
        have b12 := codeB_01 d p k
        have hst := codeK_set (p := p) hk'
        by_cases p1 : p = 1
        · have hcb : codeB d p k = (bitsL d 1).getD k 0 := by unfold codeB; rw [if_pos p1]
          rw [hcb] at hst
          simp -implicitDefEqProofs (disch := first | assumption | decide | omega | (simp only [wpD1] <;> omega) | (simp only [wpD2] <;> assumption) | solve_by_elim [HSub.refl, HSub.push, HSub.reserve] | fail) only [↓wpPre, wpPost, wpPoly, Int.reduceToNat, Int.reducePow, Int.reduceMul, Int.reduceAdd, Int.reduceSub, Int.reduceNeg, Nat.reduceAdd, Nat.reduceMul, Nat.reducePow, Int.reduceLT, Int.reduceLE, Int.reduceEq, Nat.reduceEqDiff, e1, e6, e8, e10, e12, e13, R1.idx, R1.loadC, hst]
          exact ⟨_, ⟨k + 1, rfl, by simp, by omega, rfl⟩, by omega⟩
        by_cases p2 : p = 2
        · have hcb : codeB d p k = (bitsL d 2).getD k 0 := by unfold codeB; rw [if_neg p1, if_pos p2]
          rw [hcb] at hst
          simp -implicitDefEqProofs (disch := first | assumption | decide | omega | (simp only [wpD1] <;> omega) | (simp only [wpD2] <;> assumption) | solve_by_elim [HSub.refl, HSub.push, HSub.reserve] | fail) only [↓wpPre, wpPost, wpPoly, Int.reduceToNat, Int.reducePow, Int.reduceMul, Int.reduceAdd, Int.reduceSub, Int.reduceNeg, Nat.reduceAdd, Nat.reduceMul, Nat.reducePow, Int.reduceLT, Int.reduceLE, Int.reduceEq, Nat.reduceEqDiff, e1, e6, e8, e10, e12, e13, R2.idx, R2.loadC, hst]
          exact ⟨_, ⟨k + 1, rfl, by simp, by omega, rfl⟩, by omega⟩
        have em : ((k : Int) + p - 3) % (lenN d : Int) = (((k + (p - 3).toNat) % lenN d : Nat) : Int) := by
          rw [show (k : Int) + p - 3 = ((k + (p - 3).toNat : Nat) : Int) by omega]; exact (Int.natCast_emod _ _).symm
        have hm : (k + (p - 3).toNat) % lenN d < lenN d := Nat.mod_lt _ (by omega)
        have ex := xor01 b1 (bit01_getD (bitsL_01 (d := d) (w := 2)) ((k + (p - 3).toNat) % lenN d))
        have hcb : codeB d p k = ((bitsL d 1).getD k 0 + (bitsL d 2).getD ((k + (p - 3).toNat) % lenN d) 0) % 2 := by unfold codeB; rw [if_neg p1, if_neg p2]
        rw [← hcb] at ex
        simp -implicitDefEqProofs (disch := first | assumption | decide | omega | (simp only [wpD1] <;> omega) | (simp only [wpD2] <;> assumption) | solve_by_elim [HSub.refl, HSub.push, HSub.reserve] | fail) only [↓wpPre, wpPost, wpPoly, Int.reduceToNat, Int.reducePow, Int.reduceMul, Int.reduceAdd, Int.reduceSub, Int.reduceNeg, Nat.reduceAdd, Nat.reduceMul, Nat.reducePow, Int.reduceLT, Int.reduceLE, Int.reduceEq, Nat.reduceEqDiff, e1, e6, e8, e10, e12, e13, R1.idx, R1.loadC, R2.idx, R2.loadC, em, ex, hst]
        exact ⟨_, ⟨k + 1, rfl, by simp, by omega, rfl⟩, by omega⟩
      · have ek : k = lenN d := by omega
        have cl := codeL_length d p
        have hcf : codeK d p k = codeL d p := by rw [ek, codeK_full]
        simp -implicitDefEqProofs (disch := first | assumption | decide | omega | (simp only [wpD1] <;> omega) | (simp only [wpD2] <;> assumption) | solve_by_elim [HSub.refl, HSub.push, HSub.reserve] | fail) only [↓wpPre, wpPost, wpPoly, Int.reduceToNat, Int.reducePow, Int.reduceMul, Int.reduceAdd, Int.reduceSub, Int.reduceNeg, Nat.reduceAdd, Nat.reduceMul, Nat.reducePow, Int.reduceLT, Int.reduceLE, Int.reduceEq, Nat.reduceEqDiff, e12]
        exact ⟨_, rfl, s12.push _, by rw [if_pos trivial, ← hcf]; exact RI.known (get_push_eq rfl) ⟨by rw [lK], by omega⟩ (by omega)⟩
    · have cp' : ¬ (lenOk d = true ∧ 1 ≤ p ∧ p ≤ lenN d + 2) := fun h => cp h.2
      rw [if_neg cp'] at pe
      rw [pe]
      (refine calls_intro (hC.body (by decide) tab77) (Nat.le_of_ble_eq_true rfl) ?_); (show wp C _ none B77.code _ _); (simp only [B77]); simp -implicitDefEqProofs (disch := first | assumption | decide | omega | (simp only [wpD1] <;> omega) | (simp only [wpD2] <;> assumption) | solve_by_elim [HSub.refl, HSub.push, HSub.reserve] | fail) only [↓wpPre, wpPost, wpPoly, Int.reduceToNat, Int.reducePow, Int.reduceMul, Int.reduceAdd, Int.reduceSub, Int.reduceNeg, Nat.reduceAdd, Nat.reduceMul, Nat.reducePow, Int.reduceLT, Int.reduceLE, Int.reduceEq, Nat.reduceEqDiff]
      refine ACallsK.eq2 (Length08_spec (hC.sub (T' := T71) (by decide)) hd) eL ?_
      simp -implicitDefEqProofs (disch := first | assumption | decide | omega | (simp only [wpD1] <;> omega) | (simp only [wpD2] <;> assumption) | solve_by_elim [HSub.refl, HSub.push, HSub.reserve] | fail) only [↓wpPre, wpPost, wpPoly, Int.reduceToNat, Int.reducePow, Int.reduceMul, Int.reduceAdd, Int.reduceSub, Int.reduceNeg, Nat.reduceAdd, Nat.reduceMul, Nat.reducePow, Int.reduceLT, Int.reduceLE, Int.reduceEq, Nat.reduceEqDiff, tup2]
      (repeat' (first | (refine Br.by (fun _ => ?_) (fun _ => ?_)) | (simp -implicitDefEqProofs (disch := first | assumption | decide | omega | (simp only [wpD1] <;> omega) | (simp only [wpD2] <;> assumption) | solve_by_elim [HSub.refl, HSub.push, HSub.reserve] | fail) only [↓wpPre, wpPost, wpPoly, Int.reduceToNat, Int.reducePow, Int.reduceMul, Int.reduceAdd, Int.reduceSub, Int.reduceNeg, Nat.reduceAdd, Nat.reduceMul, Nat.reducePow, Int.reduceLT, Int.reduceLE, Int.reduceEq, Nat.reduceEqDiff])))
      all_goals first | exact ⟨.nilslice, by rw [lstErr], HSub.refl _, by rw [if_neg id]; exact RI.nil⟩ | omega
  · have eL : lenE d = tup2 0 2 := by unfold lenE; rw [if_neg c]
    have cp' : ¬ (lenOk d = true ∧ 1 ≤ p ∧ p ≤ lenN d + 2) := fun h => c h.1
    rw [if_neg cp'] at pe
    rw [pe]
    (refine calls_intro (hC.body (by decide) tab77) (Nat.le_of_ble_eq_true rfl) ?_); (show wp C _ none B77.code _ _); (simp only [B77]); simp -implicitDefEqProofs (disch := first | assumption | decide | omega | (simp only [wpD1] <;> omega) | (simp only [wpD2] <;> assumption) | solve_by_elim [HSub.refl, HSub.push, HSub.reserve] | fail) only [↓wpPre, wpPost, wpPoly, Int.reduceToNat, Int.reducePow, Int.reduceMul, Int.reduceAdd, Int.reduceSub, Int.reduceNeg, Nat.reduceAdd, Nat.reduceMul, Nat.reducePow, Int.reduceLT, Int.reduceLE, Int.reduceEq, Nat.reduceEqDiff]
    refine ACallsK.eq2 (Length08_spec (hC.sub (T' := T71) (by decide)) hd) eL ?_
    simp -implicitDefEqProofs (disch := first | assumption | decide | omega | (simp only [wpD1] <;> omega) | (simp only [wpD2] <;> assumption) | solve_by_elim [HSub.refl, HSub.push, HSub.reserve] | fail) only [↓wpPre, wpPost, wpPoly, Int.reduceToNat, Int.reducePow, Int.reduceMul, Int.reduceAdd, Int.reduceSub, Int.reduceNeg, Nat.reduceAdd, Nat.reduceMul, Nat.reducePow, Int.reduceLT, Int.reduceLE, Int.reduceEq, Nat.reduceEqDiff, tup2]
    exact ⟨.nilslice, by rw [lstErr], HSub.refl _, by rw [if_neg id]; exact RI.nil⟩

theorem Sum_spec (hC : Has C T78) {d p : Int} {h : Heap} (hd : In64 d) (hp : In64 p) : ACalls C 78 [.int .i64 d, .int .i64 p] h (fun r h' => r = sumE d p ∧ HSub h h') := by
  have hc := (Code_spec (h := h) (hC.sub (T' := T76) (by decide)) hd hp)
  have cr := codeL_range (d := d) (p := p)
  by_cases c : codeErr d p = 0
  · have e : sumE d p = tup2 (codeL d p).sum 0 := by unfold sumE; rw [if_pos c]
    rw [e]
    rw [c, if_pos rfl] at hc
    have cl : (codeL d p).length ≤ 1023 := by
      rw [codeL_length]
      unfold codeErr at c
      split at c
      · rename_i h; exact (lenN_eq h.1).2.1
      · cases c
    have bs : ∀ k, -1023 ≤ ((codeL d p).take k).sum ∧ ((codeL d p).take k).sum ≤ 1023 := fun k => by
      have h1 := sum_pm (c := 1) (l := (codeL d p).take k) (fun x hx => cr x (List.mem_of_mem_take hx))
      have h2 : ((codeL d p).take k).length ≤ (codeL d p).length := by rw [List.length_take]; omega
      omega
    (refine calls_intro (hC.body (by decide) tab78) (Nat.le_of_ble_eq_true rfl) ?_); (show wp C _ none B78.code _ _); (simp only [B78]); simp -implicitDefEqProofs (disch := first | assumption | decide | omega | (simp only [wpD1] <;> omega) | (simp only [wpD2] <;> assumption) | solve_by_elim [HSub.refl, HSub.push, HSub.reserve] | fail) only [↓wpPre, wpPost, wpPoly, Int.reduceToNat, Int.reducePow, Int.reduceMul, Int.reduceAdd, Int.reduceSub, Int.reduceNeg, Nat.reduceAdd, Nat.reduceMul, Nat.reducePow, Int.reduceLT, Int.reduceLE, Int.reduceEq, Nat.reduceEqDiff]
    refine ACallsK.of hc ?_
    rintro r h1 ⟨v1, rfl, s1, R1, _⟩
    simp -implicitDefEqProofs (disch := first | assumption | decide | omega | (simp only [wpD1] <;> omega) | (simp only [wpD2] <;> assumption) | solve_by_elim [HSub.refl, HSub.push, HSub.reserve] | fail) only [↓wpPre, wpPost, wpPoly, Int.reduceToNat, Int.reducePow, Int.reduceMul, Int.reduceAdd, Int.reduceSub, Int.reduceNeg, Nat.reduceAdd, Nat.reduceMul, Nat.reducePow, Int.reduceLT, Int.reduceLE, Int.reduceEq, Nat.reduceEqDiff, lstErr, R1.len]
    refine wp_loopI (fun j t h' => h' = h1 ∧ ∃ k : Nat, t 7 = .int .i64 0 ∧ t 8 = .int .i64 ((codeL d p).take k).sum ∧ t 17 = v1 ∧ t 18 = .int .i64 (codeL d p).length ∧ t 19 = .int .i64 (k : Nat) ∧ k ≤ (codeL d p).length ∧ j = (codeL d p).length - k) (j0 := (codeL d p).length)
      ⟨rfl, 0, rfl, rfl, rfl, rfl, rfl, by omega, rfl⟩ ?_
    rintro j t h' ⟨hh, k, e7, e8, e17, e18, e19, hk, hj⟩
    subst hh
    simp -implicitDefEqProofs (disch := first | assumption | decide | omega | (simp only [wpD1] <;> omega) | (simp only [wpD2] <;> assumption) | solve_by_elim [HSub.refl, HSub.push, HSub.reserve] | fail) only [↓wpPre, wpPost, wpPoly, Int.reduceToNat, Int.reducePow, Int.reduceMul, Int.reduceAdd, Int.reduceSub, Int.reduceNeg, Nat.reduceAdd, Nat.reduceMul, Nat.reducePow, Int.reduceLT, Int.reduceLE, Int.reduceEq, Nat.reduceEqDiff, e18, e19]
    refine Br.by (fun c1 => ?_) (fun c1 => ?_)
    · have hk' : k < (codeL d p).length := by omega
      have es := sum_take_succ hk'
      have b1 := bs k
      have b2 := bs (k + 1)
      rw [es] at b2
      simp -implicitDefEqProofs (disch := first | assumption | decide | omega | (simp only [wpD1] <;> omega) | (simp only [wpD2] <;> assumption) | solve_by_elim [HSub.refl, HSub.push, HSub.reserve] | fail) only [↓wpPre, wpPost, wpPoly, Int.reduceToNat, Int.reducePow, Int.reduceMul, Int.reduceAdd, Int.reduceSub, Int.reduceNeg, Nat.reduceAdd, Nat.reduceMul, Nat.reducePow, Int.reduceLT, Int.reduceLE, Int.reduceEq, Nat.reduceEqDiff, e7, e8, e17, e18, e19, R1.idx, R1.load]
      exact ⟨_, ⟨k + 1, by rw [es], by simp, by omega, rfl⟩, by omega⟩
    · have ek : k = (codeL d p).length := by omega
      rw [ek, List.take_length] at e8
      simp -implicitDefEqProofs (disch := first | assumption | decide | omega | (simp only [wpD1] <;> omega) | (simp only [wpD2] <;> assumption) | solve_by_elim [HSub.refl, HSub.push, HSub.reserve] | fail) only [↓wpPre, wpPost, wpPoly, Int.reduceToNat, Int.reducePow, Int.reduceMul, Int.reduceAdd, Int.reduceSub, Int.reduceNeg, Nat.reduceAdd, Nat.reduceMul, Nat.reducePow, Int.reduceLT, Int.reduceLE, Int.reduceEq, Nat.reduceEqDiff, e7, e8]
      exact ⟨rfl, s1⟩
  · have e : sumE d p = tup2 0 2 := by unfold sumE; rw [if_neg c]
    have c2 : codeErr d p = 2 := by unfold codeErr at c ⊢; split at c <;> first | exact absurd rfl c | (rename_i h; rw [if_neg h])
    rw [e]
    rw [c2, if_neg (by decide)] at hc
    (refine calls_intro (hC.body (by decide) tab78) (Nat.le_of_ble_eq_true rfl) ?_); (show wp C _ none B78.code _ _); (simp only [B78]); simp -implicitDefEqProofs (disch := first | assumption | decide | omega | (simp only [wpD1] <;> omega) | (simp only [wpD2] <;> assumption) | solve_by_elim [HSub.refl, HSub.push, HSub.reserve] | fail) only [↓wpPre, wpPost, wpPoly, Int.reduceToNat, Int.reducePow, Int.reduceMul, Int.reduceAdd, Int.reduceSub, Int.reduceNeg, Nat.reduceAdd, Nat.reduceMul, Nat.reducePow, Int.reduceLT, Int.reduceLE, Int.reduceEq, Nat.reduceEqDiff]
    refine ACallsK.of hc ?_
    rintro r h1 ⟨v1, rfl, s1, R1, _⟩
    have l0 : (([] : List Int).length : Int) = 0 := rfl
    simp -implicitDefEqProofs (disch := first | assumption | decide | omega | (simp only [wpD1] <;> omega) | (simp only [wpD2] <;> assumption) | solve_by_elim [HSub.refl, HSub.push, HSub.reserve] | fail) only [↓wpPre, wpPost, wpPoly, Int.reduceToNat, Int.reducePow, Int.reduceMul, Int.reduceAdd, Int.reduceSub, Int.reduceNeg, Nat.reduceAdd, Nat.reduceMul, Nat.reducePow, Int.reduceLT, Int.reduceLE, Int.reduceEq, Nat.reduceEqDiff, lstErr, R1.len]
    refine wp_loopI (fun j t h' => h' = h1 ∧ t 7 = .int .i64 2 ∧ t 8 = .int .i64 0 ∧ t 18 = .int .i64 0 ∧ t 19 = .int .i64 0) (j0 := 0) ⟨rfl, rfl, rfl, rfl, rfl⟩ ?_
    rintro j t h' ⟨hh, e7, e8, e18, e19⟩
    subst hh
    simp -implicitDefEqProofs (disch := first | assumption | decide | omega | (simp only [wpD1] <;> omega) | (simp only [wpD2] <;> assumption) | solve_by_elim [HSub.refl, HSub.push, HSub.reserve] | fail) only [↓wpPre, wpPost, wpPoly, Int.reduceToNat, Int.reducePow, Int.reduceMul, Int.reduceAdd, Int.reduceSub, Int.reduceNeg, Nat.reduceAdd, Nat.reduceMul, Nat.reducePow, Int.reduceLT, Int.reduceLE, Int.reduceEq, Nat.reduceEqDiff, e18, e19, e7, e8]
    exact ⟨rfl, s1⟩
theorem Sum08_spec (hC : Has C T79) {d p : Int} {h : Heap} (hd : In64 d) (hp : In64 p) : ACalls C 79 [.int .i64 d, .int .i64 p] h (fun r h' => r = sumE d p ∧ HSub h h') := by
  have hc := (Code08_spec (h := h) (hC.sub (T' := T77) (by decide)) hd hp)
  have cr := codeL_range (d := d) (p := p)
  by_cases c : codeErr d p = 0
  · have e : sumE d p = tup2 (codeL d p).sum 0 := by unfold sumE; rw [if_pos c]
    rw [e]
    rw [c, if_pos rfl] at hc
    have cl : (codeL d p).length ≤ 1023 := by
      rw [codeL_length]
      unfold codeErr at c
      split at c
      · rename_i h; exact (lenN_eq h.1).2.1
      · cases c
    have bs : ∀ k, -1023 ≤ ((codeL d p).take k).sum ∧ ((codeL d p).take k).sum ≤ 1023 := fun k => by
      have h1 := sum_pm (c := 1) (l := (codeL d p).take k) (fun x hx => cr x (List.mem_of_mem_take hx))
      have h2 : ((codeL d p).take k).length ≤ (codeL d p).length := by rw [List.length_take]; omega
      omega
    (refine calls_intro (hC.body (by decide) tab79) (Nat.le_of_ble_eq_true rfl) ?_); (show wp C _ none B79.code _ _); (simp only [B79]); simp -implicitDefEqProofs (disch := first | assumption | decide | omega | (simp only [wpD1] <;> omega) | (simp only [wpD2] <;> assumption) | solve_by_elim [HSub.refl, HSub.push, HSub.reserve] | fail) only [↓wpPre, wpPost, wpPoly, Int.reduceToNat, Int.reducePow, Int.reduceMul, Int.reduceAdd, Int.reduceSub, Int.reduceNeg, Nat.reduceAdd, Nat.reduceMul, Nat.reducePow, Int.reduceLT, Int.reduceLE, Int.reduceEq, Nat.reduceEqDiff]
    refine ACallsK.of hc ?_
    rintro r h1 ⟨v1, rfl, s1, R1⟩
    simp -implicitDefEqProofs (disch := first | assumption | decide | omega | (simp only [wpD1] <;> omega) | (simp only [wpD2] <;> assumption) | solve_by_elim [HSub.refl, HSub.push, HSub.reserve] | fail) only [↓wpPre, wpPost, wpPoly, Int.reduceToNat, Int.reducePow, Int.reduceMul, Int.reduceAdd, Int.reduceSub, Int.reduceNeg, Nat.reduceAdd, Nat.reduceMul, Nat.reducePow, Int.reduceLT, Int.reduceLE, Int.reduceEq, Nat.reduceEqDiff, lstErr, R1.len]
    refine wp_loopI (fun j t h' => h' = h1 ∧ ∃ k : Nat, t 6 = v1 ∧ t 8 = .int .i64 ((codeL d p).take k).sum ∧ t 9 = .int .i64 (k : Nat) ∧ k ≤ (codeL d p).length ∧ j = (codeL d p).length - k) (j0 := (codeL d p).length)
      ⟨rfl, 0, rfl, rfl, rfl, by omega, rfl⟩ ?_
    rintro j t h' ⟨hh, k, e6, e8, e9, hk, hj⟩
    subst hh
    simp -implicitDefEqProofs (disch := first | assumption | decide | omega | (simp only [wpD1] <;> omega) | (simp only [wpD2] <;> assumption) | solve_by_elim [HSub.refl, HSub.push, HSub.reserve] | fail) only [↓wpPre, wpPost, wpPoly, Int.reduceToNat, Int.reducePow, Int.reduceMul, Int.reduceAdd, Int.reduceSub, Int.reduceNeg, Nat.reduceAdd, Nat.reduceMul, Nat.reducePow, Int.reduceLT, Int.reduceLE, Int.reduceEq, Nat.reduceEqDiff, e6, e9, R1.len]
    refine Br.by (fun c1 => ?_) (fun c1 => ?_)
    · have hk' : k < (codeL d p).length := by omega
      have es := sum_take_succ hk'
      have b1 := bs k
      have b2 := bs (k + 1)
      rw [es] at b2
      simp -implicitDefEqProofs (disch := first | assumption | decide | omega | (simp only [wpD1] <;> omega) | (simp only [wpD2] <;> assumption) | solve_by_elim [HSub.refl, HSub.push, HSub.reserve] | fail) only [↓wpPre, wpPost, wpPoly, Int.reduceToNat, Int.reducePow, Int.reduceMul, Int.reduceAdd, Int.reduceSub, Int.reduceNeg, Nat.reduceAdd, Nat.reduceMul, Nat.reducePow, Int.reduceLT, Int.reduceLE, Int.reduceEq, Nat.reduceEqDiff, e6, e8, e9, R1.idx, R1.load]
      exact ⟨_, ⟨k + 1, by rw [es], by simp, by omega, rfl⟩, by omega⟩
    · have ek : k = (codeL d p).length := by omega
      rw [ek, List.take_length] at e8
      simp -implicitDefEqProofs (disch := first | assumption | decide | omega | (simp only [wpD1] <;> omega) | (simp only [wpD2] <;> assumption) | solve_by_elim [HSub.refl, HSub.push, HSub.reserve] | fail) only [↓wpPre, wpPost, wpPoly, Int.reduceToNat, Int.reducePow, Int.reduceMul, Int.reduceAdd, Int.reduceSub, Int.reduceNeg, Nat.reduceAdd, Nat.reduceMul, Nat.reducePow, Int.reduceLT, Int.reduceLE, Int.reduceEq, Nat.reduceEqDiff, e8]
      exact ⟨rfl, s1⟩
  · have e : sumE d p = tup2 0 2 := by unfold sumE; rw [if_neg c]
    have c2 : codeErr d p = 2 := by unfold codeErr at c ⊢; split at c <;> first | exact absurd rfl c | (rename_i h; rw [if_neg h])
    rw [e]
    rw [c2, if_neg (by decide)] at hc
    (refine calls_intro (hC.body (by decide) tab79) (Nat.le_of_ble_eq_true rfl) ?_); (show wp C _ none B79.code _ _); (simp only [B79]); simp -implicitDefEqProofs (disch := first | assumption | decide | omega | (simp only [wpD1] <;> omega) | (simp only [wpD2] <;> assumption) | solve_by_elim [HSub.refl, HSub.push, HSub.reserve] | fail) only [↓wpPre, wpPost, wpPoly, Int.reduceToNat, Int.reducePow, Int.reduceMul, Int.reduceAdd, Int.reduceSub, Int.reduceNeg, Nat.reduceAdd, Nat.reduceMul, Nat.reducePow, Int.reduceLT, Int.reduceLE, Int.reduceEq, Nat.reduceEqDiff]
    refine ACallsK.of hc ?_
    rintro r h1 ⟨v1, rfl, s1, R1⟩
    simp -implicitDefEqProofs (disch := first | assumption | decide | omega | (simp only [wpD1] <;> omega) | (simp only [wpD2] <;> assumption) | solve_by_elim [HSub.refl, HSub.push, HSub.reserve] | fail) only [↓wpPre, wpPost, wpPoly, Int.reduceToNat, Int.reducePow, Int.reduceMul, Int.reduceAdd, Int.reduceSub, Int.reduceNeg, Nat.reduceAdd, Nat.reduceMul, Nat.reducePow, Int.reduceLT, Int.reduceLE, Int.reduceEq, Nat.reduceEqDiff, lstErr]
    exact ⟨rfl, s1⟩
end
end Go.Ae

/- Samples of codes, of the program. -/
set_option linter.unusedSimpArgs false
set_option linter.unusedVariables false
namespace Go.Ae
def knownErr (d o : Int) : Int := if lenOk d = true ∧ 1 ≤ o ∧ o ≤ 8 then 0 else 2
/-- The samples of a code. -/
def sampL (d p : Int) (o : Nat) : List Int := ((codeL d p).map fun x => List.replicate o x).flatten
def sampP (d p : Int) (o k : Nat) : List Int := (((codeL d p).take k).map fun x => List.replicate o x).flatten
theorem sampP_succ {d p : Int} {o k : Nat} (h : k < (codeL d p).length) : sampP d p o (k + 1) = sampP d p o k ++ List.replicate o ((codeL d p).getD k 0) := by
  unfold sampP; rw [take_succ_getD h]; simp
theorem sampP_length {d p : Int} {o : Nat} : ∀ k, k ≤ (codeL d p).length → (sampP d p o k).length = k * o
  | 0, _ => by simp [sampP]
  | k + 1, h => by rw [sampP_succ (by omega), List.length_append, sampP_length k (by omega), List.length_replicate, Nat.add_mul, Nat.one_mul]
theorem sampP_full (d p : Int) (o : Nat) : sampP d p o (codeL d p).length = sampL d p o := by unfold sampP sampL; rw [List.take_length]
section
variable {C : Ctx}
theorem known09_spec (hC : Has C T150) {d o : Int} {h : Heap} (hd : In64 d) (ho : In64 o) : ACalls C 150 [.int .i64 d, .int .i64 o] h (fun r h' => r = .int .i64 (knownErr d o) ∧ h' = h) := by
  unfold In64 at ho
  by_cases c : lenOk d = true
  · have e : lenE d = tup2 (lenN d) 0 := by unfold lenE; rw [if_pos c]
    by_cases co : 1 ≤ o ∧ o ≤ 8
    · have pe : knownErr d o = 0 := by unfold knownErr; rw [if_pos ⟨c, co⟩]
      rw [pe]
      (refine calls_intro (hC.body (by decide) tab150) (Nat.le_of_ble_eq_true rfl) ?_); (show wp C _ none B150.code _ _); (simp only [B150]); simp -implicitDefEqProofs (disch := first | assumption | decide | omega | (simp only [wpD1] <;> omega) | (simp only [wpD2] <;> assumption) | solve_by_elim [HSub.refl, HSub.push, HSub.reserve] | fail) only [↓wpPre, wpPost, wpPoly, Int.reduceToNat, Int.reducePow, Int.reduceMul, Int.reduceAdd, Int.reduceSub, Int.reduceNeg, Nat.reduceAdd, Nat.reduceMul, Nat.reducePow, Int.reduceLT, Int.reduceLE, Int.reduceEq, Nat.reduceEqDiff]
      refine ACallsK.eq2 (Length_spec (hC.sub (T' := T70) (by decide)) hd) e ?_
      simp -implicitDefEqProofs (disch := first | assumption | decide | omega | (simp only [wpD1] <;> omega) | (simp only [wpD2] <;> assumption) | solve_by_elim [HSub.refl, HSub.push, HSub.reserve] | fail) only [↓wpPre, wpPost, wpPoly, Int.reduceToNat, Int.reducePow, Int.reduceMul, Int.reduceAdd, Int.reduceSub, Int.reduceNeg, Nat.reduceAdd, Nat.reduceMul, Nat.reducePow, Int.reduceLT, Int.reduceLE, Int.reduceEq, Nat.reduceEqDiff, tup2]
    · have pe : knownErr d o = 2 := by unfold knownErr; rw [if_neg (fun h => co h.2)]
      rw [pe]
      (refine calls_intro (hC.body (by decide) tab150) (Nat.le_of_ble_eq_true rfl) ?_); (show wp C _ none B150.code _ _); (simp only [B150]); simp -implicitDefEqProofs (disch := first | assumption | decide | omega | (simp only [wpD1] <;> omega) | (simp only [wpD2] <;> assumption) | solve_by_elim [HSub.refl, HSub.push, HSub.reserve] | fail) only [↓wpPre, wpPost, wpPoly, Int.reduceToNat, Int.reducePow, Int.reduceMul, Int.reduceAdd, Int.reduceSub, Int.reduceNeg, Nat.reduceAdd, Nat.reduceMul, Nat.reducePow, Int.reduceLT, Int.reduceLE, Int.reduceEq, Nat.reduceEqDiff]
      refine ACallsK.eq2 (Length_spec (hC.sub (T' := T70) (by decide)) hd) e ?_
      simp -implicitDefEqProofs (disch := first | assumption | decide | omega | (simp only [wpD1] <;> omega) | (simp only [wpD2] <;> assumption) | solve_by_elim [HSub.refl, HSub.push, HSub.reserve] | fail) only [↓wpPre, wpPost, wpPoly, Int.reduceToNat, Int.reducePow, Int.reduceMul, Int.reduceAdd, Int.reduceSub, Int.reduceNeg, Nat.reduceAdd, Nat.reduceMul, Nat.reducePow, Int.reduceLT, Int.reduceLE, Int.reduceEq, Nat.reduceEqDiff, tup2]
      (repeat' (first | (refine Br.by (fun _ => ?_) (fun _ => ?_)) | (simp -implicitDefEqProofs (disch := first | assumption | decide | omega | (simp only [wpD1] <;> omega) | (simp only [wpD2] <;> assumption) | solve_by_elim [HSub.refl, HSub.push, HSub.reserve] | fail) only [↓wpPre, wpPost, wpPoly, Int.reduceToNat, Int.reducePow, Int.reduceMul, Int.reduceAdd, Int.reduceSub, Int.reduceNeg, Nat.reduceAdd, Nat.reduceMul, Nat.reducePow, Int.reduceLT, Int.reduceLE, Int.reduceEq, Nat.reduceEqDiff])))
      all_goals omega
  · have e : lenE d = tup2 0 2 := by unfold lenE; rw [if_neg c]
    have pe : knownErr d o = 2 := by unfold knownErr; rw [if_neg (fun h => c h.1)]
    rw [pe]
    (refine calls_intro (hC.body (by decide) tab150) (Nat.le_of_ble_eq_true rfl) ?_); (show wp C _ none B150.code _ _); (simp only [B150]); simp -implicitDefEqProofs (disch := first | assumption | decide | omega | (simp only [wpD1] <;> omega) | (simp only [wpD2] <;> assumption) | solve_by_elim [HSub.refl, HSub.push, HSub.reserve] | fail) only [↓wpPre, wpPost, wpPoly, Int.reduceToNat, Int.reducePow, Int.reduceMul, Int.reduceAdd, Int.reduceSub, Int.reduceNeg, Nat.reduceAdd, Nat.reduceMul, Nat.reducePow, Int.reduceLT, Int.reduceLE, Int.reduceEq, Nat.reduceEqDiff]
    refine ACallsK.eq2 (Length_spec (hC.sub (T' := T70) (by decide)) hd) e ?_
    simp -implicitDefEqProofs (disch := first | assumption | decide | omega | (simp only [wpD1] <;> omega) | (simp only [wpD2] <;> assumption) | solve_by_elim [HSub.refl, HSub.push, HSub.reserve] | fail) only [↓wpPre, wpPost, wpPoly, Int.reduceToNat, Int.reducePow, Int.reduceMul, Int.reduceAdd, Int.reduceSub, Int.reduceNeg, Nat.reduceAdd, Nat.reduceMul, Nat.reducePow, Int.reduceLT, Int.reduceLE, Int.reduceEq, Nat.reduceEqDiff, tup2]
end
end Go.Ae

/- Lists of samples: read, grown, filled. -/
set_option linter.unusedSimpArgs false
set_option linter.unusedVariables false
namespace Go.Ae

def AV.sameC : AV → AV → Bool
  | .agg a, .agg b => samesB a b
  | a, b => a.sameB b
def samesC : List AV → List AV → Bool
  | [], [] => true
  | a :: xs, b :: ys => a.sameC b && samesC xs ys
  | _, _ => false
/-- Whether two results are the same. -/
def AV.sameR : AV → AV → Bool
  | .tuple a, .tuple b => samesC a b
  | a, b => a.sameC b
theorem sameC_eq {a b : AV} (h : a.sameC b = true) : a = b := by
  unfold AV.sameC at h
  split at h
  · rw [samesB_eq h]
  · exact sameB_eq h
theorem samesC_eq : ∀ {xs ys : List AV}, samesC xs ys = true → xs = ys
  | [], [], _ => rfl
  | a :: xs, b :: ys, h => by
    simp only [samesC, Bool.and_eq_true] at h
    rw [sameC_eq h.1, samesC_eq h.2]
  | [], _ :: _, h => by cases h
  | _ :: _, [], h => by cases h
theorem sameR_eq {a b : AV} (h : a.sameR b = true) : a = b := by
  unfold AV.sameR at h
  split at h
  · rw [samesC_eq h]
  · exact sameC_eq h
/-- A run over no blocks that gives this value. -/
def runsAs (T : Nat → Option ABody) (fuel depth g : Nat) (args : List AV) (v : AV) : Bool :=
  match runCall T fuel depth (.func g [] []) args Heap.empty with
  | some (r, _) => r.sameR v
  | _ => false
theorem runsAs_sound {C : Ctx} {T : Nat → Option ABody} (hT : ∀ g b, T g = some b → C.body g = some b) {fuel depth g : Nat} {args : List AV} {v : AV} (hargs : ∀ a ∈ args, a.free) (hv : v.free) (hr : runsAs T fuel depth g args v = true) (h : Heap) :
    ACalls C g args h (fun r h' => r = v ∧ h' = h) := by
  unfold runsAs at hr
  split at hr
  · rename_i r h1 he
    have er := sameR_eq hr
    have := runCall_sound hT fuel depth _ _ _ _ _ he
    have h2 : ACalls C g args Heap.empty (fun r' h'' => r' = r ∧ h'' = h1) := by simpa [callP] using this
    exact (h2.mono fun r h' q => q.1.trans er).lift hargs hv h
  · cases hr

theorem storeB_func {h : Heap} {i o g : Nat} {f c vs : List AV} {u : Nat} (hv : o < vs.length) : storeB h i 1 o (.func g f c) (some (.cells vs true u)) = some (h.put i (.cells (vs.set o (.func g f c)) true u)) := storeB_one ⟨rfl, rfl, hv⟩
/-- A sample. -/
def smp (p : Int × Int) : AV := .agg [.int .i64 p.1, .int .i64 p.2]
theorem smp_free (p : Int × Int) : (smp p).free := by simp [smp, AV.free, AV.bel, AV.bels]
theorem getP_mem {l : List (Int × Int)} {k : Nat} (h : k < l.length) : l.getD k (0, 0) ∈ l := by
  rw [List.getD_eq_getElem?_getD, List.getElem?_eq_getElem h]; exact List.getElem_mem h
/-- The address of a field of an element. -/
def elF (sz : Nat) (v : AV) (k off : Nat) : AV :=
  match v with
  | .slice i o _ _ => .ptr i (o + k * sz + off)
  | _ => .undef
section
variable {h h' h0 H : Heap} {v : AV} {l : List (Int × Int)} {n : Nat} {cs : List AV}
theorem SI.len (A : SI h v l) : lenA v = some (.int .i64 l.length) := SL.len A
theorem SI.cells (A : SI h v l) : v.cells = [v] := SL.cells A
theorem SI.one (A : SI h v l) : v.one = true := SL.one A
theorem SI.lt (A : SI h v l) : l.length < 9223372036854775808 := SL.lt A
theorem SI.mono (A : SI h v l) (hs : HSub h h') : SI h' v l := SL.mono A hs
theorem SI.content (A : SI h v l) : contentA h 2 v = some (l.length, smps l) := SL.content A
theorem SI.contentC (A : SI h v l) : ∀ (h' : Heap), HSub h h' → contentA h' 2 v = some (l.length, smps l) := fun _ hs => (A.mono hs).content
theorem SI.idx (A : SI h v l) {kk : IntKind} {k : Int} (hk : 0 ≤ k ∧ k < l.length) : idxA 2 v (.int kk k) = some (elA 2 v k.toNat) := SL.idx A hk
theorem smps_cut {k : Nat} (hk : k < l.length) : cut (smps l) (k * 2) 2 = [.int .i64 (l.getD k (0, 0)).1, .int .i64 (l.getD k (0, 0)).2] := by
  have e : l[k]? = some (l.getD k (0, 0)) := by simp [hk]
  have h0 := smps_get0 (l := l) (k := k)
  have h1 := smps_get1 (l := l) (k := k)
  rw [e] at h0 h1
  unfold cut
  obtain ⟨h0', e0⟩ := List.getElem?_eq_some_iff.1 h0
  obtain ⟨h1', e1⟩ := List.getElem?_eq_some_iff.1 h1
  rw [List.drop_eq_getElem_cons h0', List.drop_eq_getElem_cons h1', e0, e1]; rfl
theorem SI.loadA (A : SI h v l) {k : Nat} (hk : k < l.length) : Ae.loadA h true 2 (elA 2 v k) = some (smp (l.getD k (0, 0))) := by
  rw [SL.loadA A hk, smps_cut hk]; rfl
theorem SI.loadAC (A : SI h v l) : ∀ (h' : Heap) (k : Nat), HSub h h' → k < l.length → Ae.loadA h' true 2 (elA 2 v k) = some (smp (l.getD k (0, 0))) := fun _ _ hs hk => (A.mono hs).loadA hk
theorem SI.fld (A : SI h v l) : ∀ (k off : Nat), k < l.length → fieldAddrA off (elA 2 v k) = some (elF 2 v k off) := by
  intro k off hk
  obtain ⟨_, _, ⟨rfl, h1⟩ | ⟨i, o, c, vs, wr, u, rfl, _⟩⟩ := A
  · omega
  · rfl
theorem SI.load0 (A : SI h v l) {k : Nat} (hk : k < l.length) : Ae.loadA h false 1 (elF 2 v k 0) = some (.int .i64 (l.getD k (0, 0)).1) := by
  have e : l[k]? = some (l.getD k (0, 0)) := by simp [hk]
  obtain ⟨hl, hlt, ⟨rfl, h1⟩ | ⟨i, o, c, vs, wr, u, rfl, hg, hle, hc, _⟩⟩ := A
  · omega
  · have h2 := smps_get0 (l := l) (k := k)
    rw [← hc, cut, List.getElem?_take_of_lt (by omega), List.getElem?_drop, e] at h2
    simp only [elF, Ae.loadA, hg, partA, Bool.false_eq_true, if_false]
    rw [Nat.add_zero, h2]; rfl
theorem SI.load1 (A : SI h v l) {k : Nat} (hk : k < l.length) : Ae.loadA h false 1 (elF 2 v k 1) = some (.int .i64 (l.getD k (0, 0)).2) := by
  have e : l[k]? = some (l.getD k (0, 0)) := by simp [hk]
  obtain ⟨hl, hlt, ⟨rfl, h1⟩ | ⟨i, o, c, vs, wr, u, rfl, hg, hle, hc, _⟩⟩ := A
  · omega
  · have h2 := smps_get1 (l := l) (k := k)
    rw [← hc, cut, List.getElem?_take_of_lt (by omega), List.getElem?_drop, e] at h2
    simp only [elF, Ae.loadA, hg, partA, Bool.false_eq_true, if_false]
    rw [Nat.add_assoc, h2]; rfl
theorem SI.load0C (A : SI h v l) : ∀ (h' : Heap) (k : Nat), HSub h h' → k < l.length → Ae.loadA h' false 1 (elF 2 v k 0) = some (.int .i64 (l.getD k (0, 0)).1) := fun _ _ hs hk => (A.mono hs).load0 hk
theorem SI.load1C (A : SI h v l) : ∀ (h' : Heap) (k : Nat), HSub h h' → k < l.length → Ae.loadA h' false 1 (elF 2 v k 1) = some (.int .i64 (l.getD k (0, 0)).2) := fun _ _ hs hk => (A.mono hs).load1 hk

theorem smps_splice {k : Nat} {p : Int × Int} (hk : k < l.length) : splice (smps l) (k * 2) [.int .i64 p.1, .int .i64 p.2] = smps (l.set k p) := by
  unfold splice
  induction l generalizing k with
  | nil => simp at hk
  | cons q l ih =>
    cases k with
    | zero => simp [smps_cons]
    | succ k =>
      have := ih (k := k) (by simpa using hk)
      simp only [List.length_cons, List.length_nil] at this ⊢
      rw [smps_cons, List.set_cons_succ, smps_cons, ← this, show (k + 1) * 2 = k * 2 + 1 + 1 by omega]
      simp only [List.take_succ_cons, List.cons_append]
      rw [show k * 2 + 1 + 1 + (0 + 1 + 1) = k * 2 + (0 + 1 + 1) + 1 + 1 by omega, List.drop_succ_cons, List.drop_succ_cons]
theorem smps_take {k : Nat} : (smps l).take (k * 2) = smps (l.take k) := by
  induction l generalizing k with
  | nil => simp [smps]
  | cons p l ih =>
    cases k with
    | zero => rfl
    | succ k => rw [smps_cons, List.take_succ_cons, smps_cons, ← ih, show (k + 1) * 2 = k * 2 + 1 + 1 by omega]; rfl
theorem smps_drop {k : Nat} : (smps l).drop (k * 2) = smps (l.drop k) := by
  induction l generalizing k with
  | nil => simp [smps]
  | cons p l ih =>
    cases k with
    | zero => rfl
    | succ k => rw [smps_cons, List.drop_succ_cons, ← ih, show (k + 1) * 2 = k * 2 + 1 + 1 by omega]; rfl
theorem smps_replicate {p : Int × Int} {n : Nat} : zerosA n [.int .i64 p.1, .int .i64 p.2] = smps (List.replicate n p) := by
  induction n with
  | zero => rfl
  | succ n ih => rw [List.replicate_succ, smps_cons, ← ih]; simp [zerosA, List.replicate_succ]

/-- A list of samples of one's own that has grown by appends. -/
def GrwS (h0 h : Heap) (v : AV) (l : List (Int × Int)) : Prop := Grw h0 h 2 v l.length (smps l)
theorem GrwS.si (A : GrwS h0 h v l) : SI h v l := Grw.sl A
theorem GrwS.sub (A : GrwS h0 h v l) : HSub h0 h := A.1
theorem GrwS.nil (h : Heap) : GrwS h h .nilslice [] := Grw.nil h 2
theorem GrwS.nil' (hs : HSub h0 h) : GrwS h0 h .nilslice [] := ⟨hs, by simp [smps], by simp, .inl ⟨rfl, rfl⟩⟩
theorem GrwS.mono (A : GrwS h0 h v l) (hs : HSub h H) : GrwS h0 H v l := Grw.mono A hs
theorem GrwS.base {h1 : Heap} (A : GrwS h h1 v l) (hs : HSub h0 h) : GrwS h0 h1 v l := Grw.base A hs
theorem GrwS.app {x y : Int} (A : GrwS h0 h v l) : ∀ (H : Heap), HSub h H → l.length + 1 ≤ 1073741824 → appendA H none 2 16 v 1 [.int .i64 x, .int .i64 y] = some (.slice H.size 0 (l.length + 1) (.unk 0), snocH H none v 2 (smps (l ++ [(x, y)]))) := by
  intro H hs hb
  rw [Grw.app A hs (by decide) (by omega) (by rfl), smps_snoc]
theorem GrwS.snoc {x y : Int} (A : GrwS h0 h v l) (hs : HSub h H) (hb : l.length + 1 ≤ 1073741824) : GrwS h0 (snocH H none v 2 (smps (l ++ [(x, y)]))) (.slice H.size 0 (l.length + 1) (.unk 0)) (l ++ [(x, y)]) := by
  have := Grw.snoc (news := [.int .i64 x, .int .i64 y]) (m := 1) A hs rfl (by omega)
  rw [smps_snoc] at this
  unfold GrwS; rw [List.length_append]; exact this
end
theorem contB_two {x y : AV} {u : Nat} {wr : Bool} : contB 1 2 0 (some (.cells [x, y] wr u)) = some (1, [x, y]) := rfl
theorem eqs_two_t {k : IntKind} {a b c d : Int} : eqsA true [(0, false), (1, false)] (.agg [.int k a, .int k b]) (.agg [.int k c, .int k d]) = some (.bool (decide (¬(a = c ∧ b = d)))) := by
  simp [eqsA, eqCells, Bool.beq_eq_decide_eq, Bool.decide_and]
theorem eqs_two_f {k : IntKind} {a b c d : Int} : eqsA false [(0, false), (1, false)] (.agg [.int k a, .int k b]) (.agg [.int k c, .int k d]) = some (.bool (decide (a = c ∧ b = d))) := by
  simp [eqsA, eqCells, Bool.beq_eq_decide_eq, Bool.decide_and]
theorem takeP_succ {l : List (Int × Int)} {i : Nat} (h : i < l.length) : l.take (i + 1) = l.take i ++ [l.getD i (0, 0)] := by
  rw [List.take_succ_eq_append_getElem h]; simp [h]
section
variable {C : Ctx}
theorem Samples_spec (hC : Has C T123) {va vb : AV} {a b : List (Int × Int)} {h : Heap} (ha : SI h va a) (hb : SI h vb b) : ACalls C 123 [va, vb] h (fun r h' => r = .bool (decide (a = b)) ∧ h' = h) := by
  have l1 := ha.lt
  have l2 := hb.lt
  (refine calls_intro (hC.body (by decide) tab123) (Nat.le_of_ble_eq_true rfl) ?_); (show wp C _ none B123.code _ _); (simp only [B123]); simp -implicitDefEqProofs (disch := first | assumption | decide | omega | (simp only [wpD1] <;> omega) | (simp only [wpD2] <;> assumption) | solve_by_elim [HSub.refl, HSub.push, HSub.reserve] | fail) only [↓wpPre, wpPost, wpPoly, Int.reduceToNat, Int.reducePow, Int.reduceMul, Int.reduceAdd, Int.reduceSub, Int.reduceNeg, Nat.reduceAdd, Nat.reduceMul, Nat.reducePow, Int.reduceLT, Int.reduceLE, Int.reduceEq, Nat.reduceEqDiff, ha.len, hb.len]
  refine Br.by (fun c => ?_) (fun c => ?_)
  · simp -implicitDefEqProofs (disch := first | assumption | decide | omega | (simp only [wpD1] <;> omega) | (simp only [wpD2] <;> assumption) | solve_by_elim [HSub.refl, HSub.push, HSub.reserve] | fail) only [↓wpPre, wpPost, wpPoly, Int.reduceToNat, Int.reducePow, Int.reduceMul, Int.reduceAdd, Int.reduceSub, Int.reduceNeg, Nat.reduceAdd, Nat.reduceMul, Nat.reducePow, Int.reduceLT, Int.reduceLE, Int.reduceEq, Nat.reduceEqDiff]
    have : a ≠ b := fun e => by subst e; omega
    simp [this]
  · simp -implicitDefEqProofs (disch := first | assumption | decide | omega | (simp only [wpD1] <;> omega) | (simp only [wpD2] <;> assumption) | solve_by_elim [HSub.refl, HSub.push, HSub.reserve] | fail) only [↓wpPre, wpPost, wpPoly, Int.reduceToNat, Int.reducePow, Int.reduceMul, Int.reduceAdd, Int.reduceSub, Int.reduceNeg, Nat.reduceAdd, Nat.reduceMul, Nat.reducePow, Int.reduceLT, Int.reduceLE, Int.reduceEq, Nat.reduceEqDiff]
    refine wp_loopI (fun j t h' => h' = h ∧ t 0 = va ∧ t 1 = vb ∧ ∃ i : Nat, t 5 = .int .i64 (i : Nat) ∧ i ≤ a.length ∧ a.take i = b.take i ∧ j = a.length - i) ⟨rfl, rfl, rfl, 0, rfl, by omega, by simp, rfl⟩ ?_
    rintro j t h' ⟨rfl, e0, e1, i, e5, hi, hp, hj⟩
    simp -implicitDefEqProofs (disch := first | assumption | decide | omega | (simp only [wpD1] <;> omega) | (simp only [wpD2] <;> assumption) | solve_by_elim [HSub.refl, HSub.push, HSub.reserve] | fail) only [↓wpPre, wpPost, wpPoly, Int.reduceToNat, Int.reducePow, Int.reduceMul, Int.reduceAdd, Int.reduceSub, Int.reduceNeg, Nat.reduceAdd, Nat.reduceMul, Nat.reducePow, Int.reduceLT, Int.reduceLE, Int.reduceEq, Nat.reduceEqDiff, e0, e1, e5, ha.len]
    refine Br.by (fun c1 => ?_) (fun c1 => ?_)
    · have i1 : i < a.length := by omega
      have i2 : i < b.length := by omega
      simp -implicitDefEqProofs (disch := first | assumption | decide | omega | (simp only [wpD1] <;> omega) | (simp only [wpD2] <;> assumption) | solve_by_elim [HSub.refl, HSub.push, HSub.reserve] | fail) only [↓wpPre, wpPost, wpPoly, Int.reduceToNat, Int.reducePow, Int.reduceMul, Int.reduceAdd, Int.reduceSub, Int.reduceNeg, Nat.reduceAdd, Nat.reduceMul, Nat.reducePow, Int.reduceLT, Int.reduceLE, Int.reduceEq, Nat.reduceEqDiff, e0, e1, e5, ha.idx, hb.idx, ha.loadA, hb.loadA, smp, eqs_two_t]
      refine Br.by (fun c2 => ?_) (fun c2 => ?_)
      · simp -implicitDefEqProofs (disch := first | assumption | decide | omega | (simp only [wpD1] <;> omega) | (simp only [wpD2] <;> assumption) | solve_by_elim [HSub.refl, HSub.push, HSub.reserve] | fail) only [↓wpPre, wpPost, wpPoly, Int.reduceToNat, Int.reducePow, Int.reduceMul, Int.reduceAdd, Int.reduceSub, Int.reduceNeg, Nat.reduceAdd, Nat.reduceMul, Nat.reducePow, Int.reduceLT, Int.reduceLE, Int.reduceEq, Nat.reduceEqDiff]
        have : a ≠ b := fun e => c2 (by rw [e]; exact ⟨rfl, rfl⟩)
        simp [this]
      · simp -implicitDefEqProofs (disch := first | assumption | decide | omega | (simp only [wpD1] <;> omega) | (simp only [wpD2] <;> assumption) | solve_by_elim [HSub.refl, HSub.push, HSub.reserve] | fail) only [↓wpPre, wpPost, wpPoly, Int.reduceToNat, Int.reducePow, Int.reduceMul, Int.reduceAdd, Int.reduceSub, Int.reduceNeg, Nat.reduceAdd, Nat.reduceMul, Nat.reducePow, Int.reduceLT, Int.reduceLE, Int.reduceEq, Nat.reduceEqDiff, e0, e1, e5]
        have c3 := Decidable.not_not.1 c2
        refine ⟨_, ⟨i + 1, by simp, by omega, ?_, rfl⟩, by omega⟩
        · rw [takeP_succ i1, takeP_succ i2, hp, Prod.ext c3.1 c3.2]
    · simp -implicitDefEqProofs (disch := first | assumption | decide | omega | (simp only [wpD1] <;> omega) | (simp only [wpD2] <;> assumption) | solve_by_elim [HSub.refl, HSub.push, HSub.reserve] | fail) only [↓wpPre, wpPost, wpPoly, Int.reduceToNat, Int.reducePow, Int.reduceMul, Int.reduceAdd, Int.reduceSub, Int.reduceNeg, Nat.reduceAdd, Nat.reduceMul, Nat.reducePow, Int.reduceLT, Int.reduceLE, Int.reduceEq, Nat.reduceEqDiff]
      have e1 : i = a.length := by omega
      subst e1
      rw [List.take_of_length_le (by omega), List.take_of_length_le (by omega)] at hp
      simp [hp]
end
end Go.Ae

/- Two lists that grow side by side. -/
set_option linter.unusedSimpArgs false
set_option linter.unusedVariables false
namespace Go.Ae
def Dj (v w : AV) : Prop := ∀ i, i ∈ v.ids → i ∉ w.ids
theorem Dj.nilL {w : AV} : Dj .nilslice w := fun i hi => by simp [AV.ids] at hi
theorem Dj.nilR {v : AV} : Dj v .nilslice := fun i _ => by simp [AV.ids]
theorem Dj.symm {v w : AV} (h : Dj v w) : Dj w v := fun i hi hv => h i hv hi
section
variable {h0 h H : Heap} {sz sz' n m k k' : Nat} {v w : AV} {cs ds es : List AV} {c : Cap} {x : Int} {l l' : List Int}
theorem Grw.dj (B : Grw h0 h sz w n ds) (hk : h.size ≤ k) : Dj w (.slice k 0 k' c) := by
  obtain ⟨_, _, _, ⟨rfl, rfl⟩ | ⟨i, ex, hi, rfl, hg⟩⟩ := B
  · exact Dj.nilL
  · intro j hj
    have := Heap.lt_of_get hg
    simp only [AV.ids, List.mem_singleton] at hj ⊢
    omega
theorem Grw.keep (A : Grw h0 h sz' v m es) (B : Grw h0 h sz w n ds) (hs : HSub h H) (hd : Dj w v) : Grw h0 (snocH H none v sz' cs) sz w n ds := by
  have hsub : HSub h0 (snocH H none v sz' cs) := by
    obtain ⟨h1, _, _, ⟨rfl, rfl⟩ | ⟨i, ex, hi, rfl, hg⟩⟩ := A
    · exact (h1.trans hs).push _
    · exact ((h1.trans hs).put hi _).push _
  obtain ⟨h1, hl, hn, ⟨rfl, rfl⟩ | ⟨i, ex, hi, rfl, hg⟩⟩ := B
  · exact ⟨hsub, hl, hn, .inl ⟨rfl, rfl⟩⟩
  · refine ⟨hsub, hl, hn, .inr ⟨i, ex, hi, rfl, ?_⟩⟩
    have hlt := Heap.lt_of_get hg
    have hsz := hs.size
    have hH := (hs.get i hlt).trans hg
    obtain ⟨_, _, _, ⟨rfl, rfl⟩ | ⟨j, ex', hj, rfl, hg'⟩⟩ := A
    · exact (get_push_lt (by omega)).trans hH
    · have hne : i ≠ j := fun e => hd i (by simp [AV.ids]) (by simp [AV.ids, e])
      exact (get_push_lt (by simp only [Heap.size_put]; omega)).trans ((get_put_ne hne).trans hH)
theorem Grw.keepS (A : Grw h0 h sz' v m es) (B : Grw h0 h sz w n ds) (hs : HSub h H) (hk : h.size ≤ k ∧ k < H.size) (hd : Dj w v) : Grw h0 (snocH H (some k) v sz' cs) sz w n ds := by
  have hsub : HSub h0 (snocH H (some k) v sz' cs) := by
    have := A.sub.size
    obtain ⟨h1, _, _, ⟨rfl, rfl⟩ | ⟨i, ex, hi, rfl, hg⟩⟩ := A
    · exact (h1.trans hs).put (by omega) _
    · exact ((h1.trans hs).put hi _).put (by omega) _
  obtain ⟨h1, hl, hn, ⟨rfl, rfl⟩ | ⟨i, ex, hi, rfl, hg⟩⟩ := B
  · exact ⟨hsub, hl, hn, .inl ⟨rfl, rfl⟩⟩
  · refine ⟨hsub, hl, hn, .inr ⟨i, ex, hi, rfl, ?_⟩⟩
    have hlt := Heap.lt_of_get hg
    have hH := (hs.get i hlt).trans hg
    obtain ⟨_, _, _, ⟨rfl, rfl⟩ | ⟨j, ex', hj, rfl, hg'⟩⟩ := A
    · exact (get_put_ne (by omega)).trans hH
    · have hne : i ≠ j := fun e => hd i (by simp [AV.ids]) (by simp [AV.ids, e])
      exact (get_put_ne (by omega)).trans ((get_put_ne hne).trans hH)
theorem GrwI.keep (A : GrwI h0 h v l) (B : GrwI h0 h w l') (hs : HSub h H) (hd : Dj w v) : GrwI h0 (snocH H none v 1 (ints (l ++ [x]))) w l' := Grw.keep A B hs hd
theorem GrwI.keepS (A : GrwI h0 h v l) (B : GrwI h0 h w l') (hs : HSub h H) (hk : h.size ≤ k ∧ k < H.size) (hd : Dj w v) : GrwI h0 (snocH H (some k) v 1 (ints (l ++ [x]))) w l' := Grw.keepS A B hs hk hd
theorem GrwI.dj (B : GrwI h0 h w l) (hk : h.size ≤ k) : Dj w (.slice k 0 k' c) := Grw.dj B hk
/-- The heap behind an append holds what was there when the list began. -/
theorem GrwI.snocSub (A : GrwI h0 h v l) (hs : HSub h H) : HSub h0 (snocH H none v 1 (ints (l ++ [x]))) := (Grw.keep A (w := .nilslice) (n := 0) (ds := []) (sz := 1) ⟨A.1, rfl, by omega, .inl ⟨rfl, rfl⟩⟩ hs Dj.nilL).1
theorem snocH_get (e : k = H.size) : (snocH H none v sz cs).get k = some (.cells cs true sz) := by
  subst e
  unfold snocH
  cases v <;> exact get_push_eq rfl
theorem snocH_size {nid : Option Nat} : (snocH H nid v sz cs).size = H.size + if nid.isNone then 1 else 0 := by
  unfold snocH
  cases v <;> cases nid <;> rfl
end
end Go.Ae

/- Lists that grow in a region that draws its order, several at once. -/
set_option linter.unusedSimpArgs false
set_option linter.unusedVariables false
namespace Go.Ae
section
variable {h0 h H : Heap} {sz bytes n m k j x y : Nat} {v : AV} {cs news : List AV} {l : List (Int × Int)} {li : List Int}
theorem Grw.ids_lt (A : Grw h0 h sz v n cs) : ∀ i ∈ v.ids, h0.size ≤ i ∧ i < h.size := by
  obtain ⟨_, _, _, ⟨rfl, rfl⟩ | ⟨i, ex, hi, rfl, hg⟩⟩ := A
  · intro i hi; simp [AV.ids] at hi
  · intro j hj
    simp only [AV.ids, List.mem_singleton] at hj
    subst hj
    exact ⟨hi, Heap.lt_of_get hg⟩
theorem Grw.noneApp (A : Grw h0 h sz v n cs) (hx : h.size ≤ x) (hy : x ≠ y) : NoneIn [x] (v.ids ++ [y]) := by
  intro a ha hb
  simp only [List.mem_singleton] at ha
  subst ha
  rcases List.mem_append.1 hb with q | q
  · have := (A.ids_lt _ q).2; omega
  · simp only [List.mem_singleton] at q; exact hy q
theorem Grw.appG (A : Grw h0 h sz v n cs) (hg : ∀ i ∈ v.ids, H.get i = h.get i) (hk : h.size ≤ k ∧ k < H.size) (hm : m ≠ 0) (hb : (n + m) * bytes ≤ 1099511627776) (h1 : news.all AV.one = true) :
    appendA H (some k) sz bytes v m news = appK k H v (.slice k 0 (n + m) (.unk 0)) sz (cs ++ news) (H.get k) := by
  obtain ⟨_, hl, hn, ⟨rfl, rfl⟩ | ⟨i, ex, hi, rfl, hgi⟩⟩ := A
  · have : cs = [] := List.eq_nil_of_length_eq_zero (by omega)
    subst this
    exact Grw.appS (h0 := Heap.empty) (h := Heap.empty) (cs := []) (n := 0) ⟨HSub.refl _, by simp, by omega, .inl ⟨rfl, rfl⟩⟩ ⟨Nat.zero_le _, fun i hi => absurd hi (Nat.not_lt_zero i)⟩ ⟨Nat.zero_le _, hk.2⟩ hm hb h1
  · have e0 := (hg i (by simp [AV.ids])).trans hgi
    have hlt := Heap.lt_of_get hgi
    have hr : H.room (some k) = ((H.get k).isNone && decide (k < H.size)) := rfl
    simp only [appendA, e0]
    by_cases e : (H.get k).isNone = true
    · have e' : H.get k = none := by simpa using e
      rw [if_pos ⟨trivial, by omega, by rw [List.length_append]; omega, h1, hb, by rw [hr, e]; simpa using hk.2, by omega⟩, cut_pre hl]
      exact (congrArg (appK k H (.slice i 0 n (.unk 0)) (.slice k 0 (n + m) (.unk 0)) sz (cs ++ news)) e').symm
    · rw [if_neg (by rw [hr]; simp [e]), if_neg (by omega)]
      obtain ⟨b, e'⟩ : ∃ b, H.get k = some b := by cases x : H.get k with | none => simp [x] at e | some b => exact ⟨b, rfl⟩
      exact (congrArg (appK k H (.slice i 0 n (.unk 0)) (.slice k 0 (n + m) (.unk 0)) sz (cs ++ news)) e').symm
theorem snocS_size : (snocH H (some k) v sz cs).size = H.size := by unfold snocH; cases v <;> rfl
theorem snocS_same (hk : k < H.size) : (snocH H (some k) v sz cs).get k = some (.cells cs true sz) := by
  unfold snocH
  cases v <;> exact get_put_eq rfl (by simpa using hk)
theorem snocS_ne (hk : j ≠ k) (hv : j ∉ v.ids) : (snocH H (some k) v sz cs).get j = H.get j := by
  unfold snocH
  cases v
  case slice i o n c => exact (get_put_ne hk).trans (get_put_ne (fun e => hv (by simp [AV.ids, e])))
  all_goals exact get_put_ne hk
theorem snocS_sub {hB : Heap} (A : Grw hB h sz v n cs) {ds : List AV} (hs : HSub hB H) (hk : hB.size ≤ k) : HSub hB (snocH H (some k) v sz ds) := by
  obtain ⟨_, _, _, ⟨rfl, rfl⟩ | ⟨i, ex, hi, rfl, hg⟩⟩ := A
  · exact hs.put hk _
  · exact (hs.put hi _).put hk _
theorem GrwS.appG {a b : Int} (A : GrwS h0 h v l) (hg : ∀ i ∈ v.ids, H.get i = h.get i) (hk : h.size ≤ k ∧ k < H.size) (hb : l.length + 1 ≤ 1073741824) : appendA H (some k) 2 16 v 1 [.int .i64 a, .int .i64 b] = appK k H v (.slice k 0 (l.length + 1) (.unk 0)) 2 (smps (l ++ [(a, b)])) (H.get k) := by
  rw [Grw.appG A hg hk (by decide) (by omega) (by rfl), smps_snoc]
theorem GrwS.mk {K : Nat} (hs : HSub h0 h) (hk : h0.size ≤ k) (hl : K = l.length ∧ l.length < 9223372036854775808) (hg : h.get k = some (.cells (smps l) true 2)) : GrwS h0 h (.slice k 0 K (.unk 0)) l := by
  obtain ⟨rfl, hl⟩ := hl
  exact ⟨hs, smps_length, hl, .inr ⟨k, [], hk, rfl, by rw [List.append_nil]; exact hg⟩⟩
theorem SL.fldE {cs : List AV} (A : SL h sz v n cs) : ∀ (k off : Nat), k < n → fieldAddrA off (elA sz v k) = some (elF sz v k off) := by
  intro k off hk
  obtain ⟨_, _, ⟨rfl, h1⟩ | ⟨i, o, c, vs, wr, u, rfl, _⟩⟩ := A
  · omega
  · rfl
theorem SL.loadE {cs : List AV} (A : SL h sz v n cs) {k off : Nat} (hk : k < n) (ho : off < sz) : Ae.loadA h false 1 (elF sz v k off) = cs[k * sz + off]? := by
  obtain ⟨hl, hlt, ⟨rfl, h1⟩ | ⟨i, o, c, vs, wr, u, rfl, hg, hle, hc, _⟩⟩ := A
  · omega
  · have h1 : (k + 1) * sz ≤ n * sz := Nat.mul_le_mul_right sz hk
    have h2 : (k + 1) * sz = k * sz + sz := by rw [Nat.add_mul, Nat.one_mul]
    rw [← hc, cut, List.getElem?_take_of_lt (by omega), List.getElem?_drop]
    simp only [elF, Ae.loadA, hg, partA, Bool.false_eq_true, if_false]
    rw [Nat.add_assoc]
theorem opt2.hideApp {nid : Option Nat} {K : HoldR} (q : ∀ S, S = H → @opt2 (appendA S nid sz bytes v m news) K) : @opt2 (appendA H nid sz bytes v m news) K := q H rfl
theorem dj_slice {i j a b : Nat} {c d : Cap} (h : i ≠ j) : Dj (.slice i 0 a c) (.slice j 0 b d) := fun x hx hy => by
  simp only [AV.ids, List.mem_singleton] at hx hy
  omega
theorem Dj.not {v w : AV} (h : Dj v w) {i : Nat} (hi : i ∈ w.ids) : i ∉ v.ids := fun hv => h i hv hi
end
end Go.Ae

/- Codes with their samples, of the program. -/
set_option linter.unusedSimpArgs false
set_option linter.unusedVariables false
namespace Go.Ae
theorem sampL_length (d p : Int) (o : Nat) : (sampL d p o).length = lenN d * o := by rw [← sampP_full, sampP_length _ (Nat.le_refl _), codeL_length]
/-- The error of codes with samples. -/
def sampErr (d o : Int) (ps : List Int) : Int := if knownErr d o = 0 ∧ ∀ p ∈ ps, codeErr d p = 0 then 0 else 2
def codeCells (vs : List AV) (o : Int) : List AV := vs.flatMap fun v => [v, .int .i64 o]
theorem codeCells_snoc (vs : List AV) (v : AV) (o : Int) : codeCells (vs ++ [v]) o = codeCells vs o ++ [v, .int .i64 o] := by simp [codeCells]
theorem codeCells_length (vs : List AV) (o : Int) : (codeCells vs o).length = vs.length * 2 := by
  induction vs with
  | nil => rfl
  | cons v vs ih => rw [show codeCells (v :: vs) o = v :: .int .i64 o :: codeCells vs o from rfl, List.length_cons, List.length_cons, List.length_cons, ih]; omega
theorem codeCells_get0 (o : Int) : ∀ (vs : List AV) (k : Nat), (codeCells vs o)[k * 2]? = vs[k]?
  | [], k => by simp [codeCells]
  | v :: vs, 0 => rfl
  | v :: vs, k + 1 => by rw [show codeCells (v :: vs) o = v :: .int .i64 o :: codeCells vs o from rfl, show (k + 1) * 2 = k * 2 + 1 + 1 by omega, List.getElem?_cons_succ, List.getElem?_cons_succ, List.getElem?_cons_succ]; exact codeCells_get0 o vs k
theorem codeCells_cut (o : Int) : ∀ (vs : List AV) (k : Nat), k < vs.length → cut (codeCells vs o) (k * 2) 2 = [vs.getD k .nilslice, .int .i64 o]
  | [], k, h => by simp at h
  | v :: vs, 0, _ => rfl
  | v :: vs, k + 1, h => by
    rw [show codeCells (v :: vs) o = v :: .int .i64 o :: codeCells vs o from rfl, show (k + 1) * 2 = k * 2 + 1 + 1 by omega, cut_succ, cut_succ, codeCells_cut o vs k (by simpa using h)]; rfl
/-- A list of codes with their samples that can be read. -/
structure CLs (h : Heap) (v : AV) (d o : Int) (ps : List Int) (vs : List AV) : Prop where
  sl : SL h 2 v ps.length (codeCells vs o)
  len : vs.length = ps.length
  ri : ∀ i, i < ps.length → RI h (vs.getD i .nilslice) (sampL d (ps.getD i 0) o.toNat)
theorem CLs.mono {h h' : Heap} {v : AV} {d o : Int} {ps : List Int} {vs : List AV} (H : CLs h v d o ps vs) (hs : HSub h h') : CLs h' v d o ps vs := ⟨H.sl.mono hs, H.len, fun i hi => (H.ri i hi).mono hs⟩
theorem grwI_mk {h0 h : Heap} {k K : Nat} {l : List Int} (hs : HSub h0 h) (hk : h0.size ≤ k) (hl : K = l.length ∧ l.length < 9223372036854775808) (hg : h.get k = some (.cells (ints l) true 1)) : GrwI h0 h (.slice k 0 K (.unk 0)) l := by
  obtain ⟨rfl, hl⟩ := hl
  exact Grw.fresh hs hk hl hg
section
variable {C : Ctx}
set_option maxHeartbeats 4000000 in
set_option maxRecDepth 20000 in
theorem sampled_specF (hC : Has C T142) {d o : Int} {vp : AV} {ps : List Int} {h : Heap} (hd : In64 d) (ho : In64 o) (hp : RI h vp ps) (hx : ∀ x ∈ ps, In64 x) (hpl : ps.length ≤ 1000) :
    ACalls C 142 [.int .i64 d, .int .i64 o, vp] h (fun r h' => ∃ v vs, r = lstErr v (sampErr d o ps) ∧ HSub h h' ∧ (sampErr d o ps = 0 → CLs h' v d o ps vs ∧ ∀ i, i < ps.length → GrwI h h' (vs.getD i .nilslice) (sampL d (ps.getD i 0) o.toNat))) := by
  have hplt := hp.lt
  by_cases ck : knownErr d o = 0
  · have pe : sampErr d o ps = if ∀ p ∈ ps, codeErr d p = 0 then 0 else 2 := by unfold sampErr; simp only [ck, true_and]
    have kr : lenOk d = true ∧ 1 ≤ o ∧ o ≤ 8 := by
      unfold knownErr at ck
      split at ck
      · assumption
      · cases ck
    obtain ⟨q, rfl⟩ := Int.eq_ofNat_of_zero_le (show 0 ≤ o by omega)
    have hN := lenN_eq kr.1
    (refine calls_intro (hC.body (by decide) tab142) (Nat.le_of_ble_eq_true rfl) ?_); (show wp C _ none B142.code _ _); (simp only [B142]); simp -implicitDefEqProofs (disch := first | assumption | decide | omega | (simp only [wpD1] <;> omega) | (simp only [wpD2] <;> assumption) | solve_by_elim [HSub.refl, HSub.push, HSub.reserve] | fail) only [↓wpPre, wpPost, wpPoly, Int.reduceToNat, Int.reducePow, Int.reduceMul, Int.reduceAdd, Int.reduceSub, Int.reduceNeg, Nat.reduceAdd, Nat.reduceMul, Nat.reducePow, Int.reduceLT, Int.reduceLE, Int.reduceEq, Nat.reduceEqDiff]
    refine ACallsK.eq (known09_spec (hC.sub (T' := T150) (by decide)) hd ho) ?_
    rw [ck]
    simp -implicitDefEqProofs (disch := first | assumption | decide | omega | (simp only [wpD1] <;> omega) | (simp only [wpD2] <;> assumption) | solve_by_elim [HSub.refl, HSub.push, HSub.reserve] | fail) only [↓wpPre, wpPost, wpPoly, Int.reduceToNat, Int.reducePow, Int.reduceMul, Int.reduceAdd, Int.reduceSub, Int.reduceNeg, Nat.reduceAdd, Nat.reduceMul, Nat.reducePow, Int.reduceLT, Int.reduceLE, Int.reduceEq, Nat.reduceEqDiff, hp.len]
    refine wp_loopI (fun j t h' => ∃ (k : Nat) (vs : List AV), Grw h h' 2 (t 9) k (codeCells vs (q : Nat)) ∧ vs.length = k ∧ (∀ i, i < k → GrwI h h' (vs.getD i .nilslice) (sampL d (ps.getD i 0) q) ∧ Dj (vs.getD i .nilslice) (t 9)) ∧ (∀ i, i < k → codeErr d (ps.getD i 0) = 0) ∧
      t 0 = .int .i64 d ∧ t 1 = .int .i64 (q : Nat) ∧ t 23 = vp ∧ t 24 = .int .i64 (ps.length : Nat) ∧ t 25 = .int .i64 (k : Nat) ∧ k ≤ ps.length ∧ j = ps.length - k) (j0 := ps.length)
      ⟨0, [], Grw.nil _ _, rfl, fun i hi => by omega, fun i hi => by omega, rfl, rfl, rfl, rfl, rfl, by omega, rfl⟩ ?_
    rintro j t h2 ⟨k, vs, A, hvl, hvs, hce, e0, e1, e23, e24, e25, hk, hj⟩
    simp -implicitDefEqProofs (disch := first | assumption | decide | omega | (simp only [wpD1] <;> omega) | (simp only [wpD2] <;> assumption) | solve_by_elim [HSub.refl, HSub.push, HSub.reserve] | fail) only [↓wpPre, wpPost, wpPoly, Int.reduceToNat, Int.reducePow, Int.reduceMul, Int.reduceAdd, Int.reduceSub, Int.reduceNeg, Nat.reduceAdd, Nat.reduceMul, Nat.reducePow, Int.reduceLT, Int.reduceLE, Int.reduceEq, Nat.reduceEqDiff, e24, e25]
    refine Br.by (fun c1 => ?_) (fun c1 => ?_)
    · have hk' : k < ps.length := by omega
      have hp2 := hp.mono A.sub
      have hxk := hx _ (getD_mem hk')
      obtain ⟨p, hpd⟩ : ∃ p, p = ps.getD k 0 := ⟨_, rfl⟩
      have hld := hp2.load hk'
      rw [← hpd] at hld hxk
      have hcode := Code_spec (hC.sub (T' := T76) (by decide)) (h := h2) hd hxk
      simp -implicitDefEqProofs (disch := first | assumption | decide | omega | (simp only [wpD1] <;> omega) | (simp only [wpD2] <;> assumption) | solve_by_elim [HSub.refl, HSub.push, HSub.reserve] | fail) only [↓wpPre, wpPost, wpPoly, Int.reduceToNat, Int.reducePow, Int.reduceMul, Int.reduceAdd, Int.reduceSub, Int.reduceNeg, Nat.reduceAdd, Nat.reduceMul, Nat.reducePow, Int.reduceLT, Int.reduceLE, Int.reduceEq, Nat.reduceEqDiff, e0, e1, e23, e25, hp2.idx, hld]
      refine ACallsK.of hcode ?_
      rintro r h3 ⟨v1, rfl, s1, R1, _⟩
      by_cases cc : codeErr d p = 0
      · rw [cc, if_pos rfl] at R1
        rw [cc]
        have cl := codeL_length d p
        simp -implicitDefEqProofs (disch := first | assumption | decide | omega | (simp only [wpD1] <;> omega) | (simp only [wpD2] <;> assumption) | solve_by_elim [HSub.refl, HSub.push, HSub.reserve] | fail) only [↓wpPre, wpPost, wpPoly, Int.reduceToNat, Int.reducePow, Int.reduceMul, Int.reduceAdd, Int.reduceSub, Int.reduceNeg, Nat.reduceAdd, Nat.reduceMul, Nat.reducePow, Int.reduceLT, Int.reduceLE, Int.reduceEq, Nat.reduceEqDiff, lstErr, e1, R1.len, cl]
        have R1' := R1.mono (HSub.push1 h3 (.cells [.nilslice, .int .i64 (q : Nat)] true 0))
        refine wp_loopI (fun j t' h' => ∃ (i : Nat) (w : AV), GrwI h3 h' w (sampP d p q i) ∧ Dj (.ptr h3.size 0) w ∧ h'.get h3.size = some (.cells [w, .int .i64 (q : Nat)] true 0) ∧ h3.size + 1 ≤ h'.size ∧
          t' 0 = .int .i64 d ∧ t' 1 = .int .i64 (q : Nat) ∧ t' 9 = t 9 ∧ t' 14 = .ptr h3.size 0 ∧ t' 23 = vp ∧ t' 24 = .int .i64 (ps.length : Nat) ∧ t' 25 = .int .i64 (k : Nat) ∧ t' 40 = v1 ∧ t' 41 = .int .i64 (lenN d : Nat) ∧ t' 42 = .int .i64 (i : Nat) ∧ i ≤ lenN d ∧ j = lenN d - i) (j0 := lenN d)
          ⟨0, .nilslice, GrwI.nil' (HSub.push1 _ _), Dj.nilR, get_push_eq rfl, by simp, e0, e1, rfl, rfl, e23, e24, e25, rfl, rfl, rfl, by omega, rfl⟩ ?_
        rintro j t' h4 ⟨i, w, B, dj, gb, hsz, e0', e1', e9', e14', e23', e24', e25', e40', e41', e42', hi, hj'⟩
        simp -implicitDefEqProofs (disch := first | assumption | decide | omega | (simp only [wpD1] <;> omega) | (simp only [wpD2] <;> assumption) | solve_by_elim [HSub.refl, HSub.push, HSub.reserve] | fail) only [↓wpPre, wpPost, wpPoly, Int.reduceToNat, Int.reducePow, Int.reduceMul, Int.reduceAdd, Int.reduceSub, Int.reduceNeg, Nat.reduceAdd, Nat.reduceMul, Nat.reducePow, Int.reduceLT, Int.reduceLE, Int.reduceEq, Nat.reduceEqDiff, e41', e42']
        refine Br.by (fun c2 => ?_) (fun c2 => ?_)
        · have hi' : i < lenN d := by omega
          have R4 := R1.mono B.sub
          have hl4 := R4.load (k := i) (by omega)
          obtain ⟨x, hx⟩ : ∃ x, x = (codeL d p).getD i 0 := ⟨_, rfl⟩
          rw [← hx] at hl4
          have rep := fun (H : Heap) (hg : H.get (h4.size + 3) = some (.cells [.int .i64 x] true 0)) => Repeat_spec (hC.sub (T' := T90) (by decide)) (v := .slice (h4.size + 3) 0 1 (.known 1)) (x := x) (n := q) (h := H) (RI.known hg ⟨rfl, by decide⟩ (by decide)) (by omega)
          simp -implicitDefEqProofs (disch := first | assumption | decide | omega | (simp only [wpD1] <;> omega) | (simp only [wpD2] <;> assumption) | solve_by_elim [HSub.refl, HSub.push, HSub.reserve] | fail) only [↓wpPre, wpPost, wpPoly, Int.reduceToNat, Int.reducePow, Int.reduceMul, Int.reduceAdd, Int.reduceSub, Int.reduceNeg, Nat.reduceAdd, Nat.reduceMul, Nat.reducePow, Int.reduceLT, Int.reduceLE, Int.reduceEq, Nat.reduceEqDiff, e1', e14', e40', e42', R4.idx, hl4, gb, Heap.wf]
          refine ACallsK.hide (fun H hH => ?_)
          have N : H.size = h4.size + 9 := by rw [hH]; simp -implicitDefEqProofs (disch := first | assumption | decide | omega | (simp only [wpD1] <;> omega) | (simp only [wpD2] <;> assumption) | solve_by_elim [HSub.refl, HSub.push, HSub.reserve] | fail) only [↓wpPre, wpPost, wpPoly, Int.reduceToNat, Int.reducePow, Int.reduceMul, Int.reduceAdd, Int.reduceSub, Int.reduceNeg, Nat.reduceAdd, Nat.reduceMul, Nat.reducePow, Int.reduceLT, Int.reduceLE, Int.reduceEq, Nat.reduceEqDiff]
          have g3 : H.get (h4.size + 3) = some (.cells [.int .i64 x] true 0) := by rw [hH]; simp -implicitDefEqProofs (disch := first | assumption | decide | omega | (simp only [wpD1] <;> omega) | (simp only [wpD2] <;> assumption) | solve_by_elim [HSub.refl, HSub.push, HSub.reserve] | fail) only [↓wpPre, wpPost, wpPoly, Int.reduceToNat, Int.reducePow, Int.reduceMul, Int.reduceAdd, Int.reduceSub, Int.reduceNeg, Nat.reduceAdd, Nat.reduceMul, Nat.reducePow, Int.reduceLT, Int.reduceLE, Int.reduceEq, Nat.reduceEqDiff]
          have gn : H.get (h4.size + 6) = none := by rw [hH]; simp -implicitDefEqProofs (disch := first | assumption | decide | omega | (simp only [wpD1] <;> omega) | (simp only [wpD2] <;> assumption) | solve_by_elim [HSub.refl, HSub.push, HSub.reserve] | fail) only [↓wpPre, wpPost, wpPoly, Int.reduceToNat, Int.reducePow, Int.reduceMul, Int.reduceAdd, Int.reduceSub, Int.reduceNeg, Nat.reduceAdd, Nat.reduceMul, Nat.reducePow, Int.reduceLT, Int.reduceLE, Int.reduceEq, Nat.reduceEqDiff, Heap.wf]
          have hs4 : HSub h4 H := by rw [hH]; exact (by repeat (first | exact HSub.refl _ | refine HSub.put ?_ (by (try simp only [Heap.size_put, Heap.size_push, Heap.size_reserve]); omega) _ | refine HSub.push ?_ _ | refine HSub.reserve ?_ _))
          clear hH
          refine ACallsK.of (rep H g3) ?_
          rintro r h5 F
          have F' := F
          obtain ⟨s5, fl, i5, hi5, rfl, g5⟩ := F'
          have z5 := s5.size
          have gb5 : h5.get h3.size = some (.cells [w, .int .i64 (q : Nat)] true 0) := (s5.get _ (by omega)).trans ((hs4.get _ (by omega)).trans gb)
          have gb6 : H.get h3.size = some (.cells [w, .int .i64 (q : Nat)] true 0) := (hs4.get _ (by omega)).trans gb
          have gn5 : h5.get (h4.size + 6) = none := (s5.get _ (by omega)).trans gn
          have sp := sampP_succ (d := d) (p := p) (o := q) (k := i) (by omega)
          rw [← hx] at sp
          have sl := sampP_length (d := d) (p := p) (o := q) i (by omega)
          have iq : i * q ≤ 1023 * 8 := Nat.mul_le_mul (by omega) (by omega)
          have ap := Grw.appG (H := h5) (k := h4.size + 6) (m := q) (bytes := 8) (news := ints (List.replicate q x)) B (fun j hj => (s5.get _ (by have := (Grw.ids_lt B j hj).2; omega)).trans (hs4.get _ (Grw.ids_lt B j hj).2)) ⟨by omega, by omega⟩ (by omega) (by rw [sl]; omega) ints_one
          rw [ints_append, ← sp] at ap
          have cF := F.ri.content
          simp only [List.length_replicate] at cF
          have cN : (List.replicate q x).length = q := List.length_replicate
          have hw : h3.size ∉ w.ids := dj _ (by simp [AV.ids])
          have gS : (snocH h5 (some (h4.size + 6)) w 1 (ints (sampP d p q (i + 1)))).get h3.size = some (.cells [w, .int .i64 (q : Nat)] true 0) := (snocS_ne (by omega) hw).trans gb5
          have zS : (snocH h5 (some (h4.size + 6)) w 1 (ints (sampP d p q (i + 1)))).size = h5.size := snocS_size
          have rS : (snocH h5 (some (h4.size + 6)) w 1 (ints (sampP d p q (i + 1)))).get (h4.size + 6) = some (.cells (ints (sampP d p q (i + 1))) true 1) := snocS_same (by omega)
          have bS := snocS_sub (k := h4.size + 6) (ds := ints (sampP d p q (i + 1))) B ((B.sub.trans hs4).trans s5) (by have := B.sub.size; omega)
          have sl2 := sampP_length (d := d) (p := p) (o := q) (i + 1) (by omega)
          have iq2 : (i + 1) * q ≤ 1023 * 8 := Nat.mul_le_mul (by omega) (by omega)
          have slq : (sampP d p q i).length + q = (sampP d p q (i + 1)).length := by rw [sp, List.length_append, List.length_replicate]
          simp -implicitDefEqProofs (disch := first | assumption | decide | omega | (simp only [wpD1] <;> omega) | (simp only [wpD2] <;> assumption) | solve_by_elim [HSub.refl, HSub.push, HSub.reserve] | fail) only [↓wpPre, wpPost, wpPoly, Int.reduceToNat, Int.reducePow, Int.reduceMul, Int.reduceAdd, Int.reduceSub, Int.reduceNeg, Nat.reduceAdd, Nat.reduceMul, Nat.reducePow, Int.reduceLT, Int.reduceLE, Int.reduceEq, Nat.reduceEqDiff, cN, gb5, gb6, gn5, cF, ap, appK_none, e14']
          refine ⟨gb.symm, ?_⟩
          simp -implicitDefEqProofs (disch := first | assumption | decide | omega | (simp only [wpD1] <;> omega) | (simp only [wpD2] <;> assumption) | solve_by_elim [HSub.refl, HSub.push, HSub.reserve] | fail) only [↓wpPre, wpPost, wpPoly, Int.reduceToNat, Int.reducePow, Int.reduceMul, Int.reduceAdd, Int.reduceSub, Int.reduceNeg, Nat.reduceAdd, Nat.reduceMul, Nat.reducePow, Int.reduceLT, Int.reduceLE, Int.reduceEq, Nat.reduceEqDiff, gS, e0', e1', e9', e14', e23', e24', e25', e40', e41', e42']
          refine ⟨_, ⟨i + 1, _, grwI_mk (bS.put (Nat.le_refl _) _) (by have := B.sub.size; omega) ⟨slq, by omega⟩ ((get_put_ne (by omega)).trans rS), ?_, rfl, by rw [zS]; omega, by simp, by omega, rfl⟩, by omega⟩
          intro j hj
          simp only [AV.ids, List.mem_singleton] at hj ⊢
          omega
        · have ei : i = lenN d := by omega
          subst ei
          have wone : w.one = true := (Grw.sl B).one
          have full : sampP d p q (lenN d) = sampL d p q := by rw [← sampP_full, codeL_length]
          rw [full] at B
          have A4 := A.mono (s1.trans B.sub)
          have hn1 : [w, AV.int .i64 (q : Nat)].all AV.one = true := by simp [wone, one_int]
          have ap := fun b => Grw.app A4 (bytes := 32) (m := 1) (news := [w, .int .i64 (q : Nat)]) (HSub.push1 h4 b) (by decide) (by omega) hn1
          have A5 := fun b => Grw.snoc A4 (m := 1) (news := [w, .int .i64 (q : Nat)]) (HSub.push1 h4 b) rfl (by omega)
          rw [← codeCells_snoc] at ap A5
          simp -implicitDefEqProofs (disch := first | assumption | decide | omega | (simp only [wpD1] <;> omega) | (simp only [wpD2] <;> assumption) | solve_by_elim [HSub.refl, HSub.push, HSub.reserve] | fail) only [↓wpPre, wpPost, wpPoly, Int.reduceToNat, Int.reducePow, Int.reduceMul, Int.reduceAdd, Int.reduceSub, Int.reduceNeg, Nat.reduceAdd, Nat.reduceMul, Nat.reducePow, Int.reduceLT, Int.reduceLE, Int.reduceEq, Nat.reduceEqDiff, e9', e14', gb, cont_slice, contB_two, ap, e0', e1', e23', e24', e25']
          have B0 : GrwI h h4 w (sampL d p q) := B.base (A.sub.trans s1)
          have z1 := s1.size
          have z4 := B.sub.size
          have dw : Dj w (t 9) := fun j hj hj9 => by
            have q1 := (Grw.ids_lt B j hj).1
            have q2 := (Grw.ids_lt A j hj9).2
            omega
          refine ⟨_, ⟨k + 1, vs ++ [w], A5 _, by simp [hvl], fun i hi => ?_, fun i hi => ?_, by simp, by omega, rfl⟩, by omega⟩
          · rcases Nat.lt_or_ge i k with x | x
            · have e : (vs ++ [w]).getD i .nilslice = vs.getD i .nilslice := by simp [List.getD_eq_getElem?_getD, List.getElem?_append_left (show i < vs.length by omega)]
              rw [e]
              have B1 := (hvs i x).1.mono (s1.trans B.sub)
              exact ⟨Grw.keep A4 B1 (HSub.push1 _ _) (hvs i x).2, Grw.dj B1 (by omega)⟩
            · have ei : i = k := by omega
              subst ei
              have e : (vs ++ [w]).getD i .nilslice = w := by simp [List.getD_eq_getElem?_getD, ← hvl]
              rw [e, ← hpd]
              exact ⟨Grw.keep A4 B0 (HSub.push1 _ _) dw, Grw.dj B0 (by omega)⟩
          · rcases Nat.lt_or_ge i k with x | x
            · exact hce i x
            · have ei : i = k := by omega
              subst ei
              rw [← hpd]; exact cc
      · have c2 : codeErr d p = 2 := by unfold codeErr at cc ⊢; split at cc <;> first | exact absurd rfl cc | (rename_i h; rw [if_neg h])
        rw [c2]
        simp -implicitDefEqProofs (disch := first | assumption | decide | omega | (simp only [wpD1] <;> omega) | (simp only [wpD2] <;> assumption) | solve_by_elim [HSub.refl, HSub.push, HSub.reserve] | fail) only [↓wpPre, wpPost, wpPoly, Int.reduceToNat, Int.reducePow, Int.reduceMul, Int.reduceAdd, Int.reduceSub, Int.reduceNeg, Nat.reduceAdd, Nat.reduceMul, Nat.reducePow, Int.reduceLT, Int.reduceLE, Int.reduceEq, Nat.reduceEqDiff, lstErr]
        have hne : ¬ ∀ p ∈ ps, codeErr d p = 0 := fun h => cc (h _ (by rw [hpd]; exact getD_mem hk'))
        rw [pe, if_neg hne]
        exact ⟨_, [], rfl, A.sub.trans s1, fun h => by cases h⟩
    · have ek : k = ps.length := by omega
      subst ek
      have hall : ∀ p ∈ ps, codeErr d p = 0 := fun p hp => by
        obtain ⟨i, hi, rfl⟩ := List.mem_iff_getElem.1 hp
        have := hce i hi
        rwa [List.getD_eq_getElem?_getD, List.getElem?_eq_getElem hi] at this
      rw [pe, if_pos hall]
      simp -implicitDefEqProofs (disch := first | assumption | decide | omega | (simp only [wpD1] <;> omega) | (simp only [wpD2] <;> assumption) | solve_by_elim [HSub.refl, HSub.push, HSub.reserve] | fail) only [↓wpPre, wpPost, wpPoly, Int.reduceToNat, Int.reducePow, Int.reduceMul, Int.reduceAdd, Int.reduceSub, Int.reduceNeg, Nat.reduceAdd, Nat.reduceMul, Nat.reducePow, Int.reduceLT, Int.reduceLE, Int.reduceEq, Nat.reduceEqDiff]
      exact ⟨_, vs, rfl, A.sub, fun _ => ⟨⟨A.sl, hvl, fun i hi => by rw [Int.toNat_natCast]; exact (hvs i hi).1.ri⟩, fun i hi => (hvs i hi).1⟩⟩
  · have pe : sampErr d o ps = 2 := by unfold sampErr; rw [if_neg (fun h => ck h.1)]
    have ck2 : knownErr d o = 2 := by unfold knownErr at ck ⊢; split at ck <;> first | exact absurd rfl ck | (rename_i h; rw [if_neg h])
    rw [pe]
    (refine calls_intro (hC.body (by decide) tab142) (Nat.le_of_ble_eq_true rfl) ?_); (show wp C _ none B142.code _ _); (simp only [B142]); simp -implicitDefEqProofs (disch := first | assumption | decide | omega | (simp only [wpD1] <;> omega) | (simp only [wpD2] <;> assumption) | solve_by_elim [HSub.refl, HSub.push, HSub.reserve] | fail) only [↓wpPre, wpPost, wpPoly, Int.reduceToNat, Int.reducePow, Int.reduceMul, Int.reduceAdd, Int.reduceSub, Int.reduceNeg, Nat.reduceAdd, Nat.reduceMul, Nat.reducePow, Int.reduceLT, Int.reduceLE, Int.reduceEq, Nat.reduceEqDiff]
    refine ACallsK.eq (known09_spec (hC.sub (T' := T150) (by decide)) hd ho) ?_
    rw [ck2]
    simp -implicitDefEqProofs (disch := first | assumption | decide | omega | (simp only [wpD1] <;> omega) | (simp only [wpD2] <;> assumption) | solve_by_elim [HSub.refl, HSub.push, HSub.reserve] | fail) only [↓wpPre, wpPost, wpPoly, Int.reduceToNat, Int.reducePow, Int.reduceMul, Int.reduceAdd, Int.reduceSub, Int.reduceNeg, Nat.reduceAdd, Nat.reduceMul, Nat.reducePow, Int.reduceLT, Int.reduceLE, Int.reduceEq, Nat.reduceEqDiff]
    exact ⟨_, [], rfl, HSub.refl _⟩
theorem sampled_spec (hC : Has C T142) {d o : Int} {vp : AV} {ps : List Int} {h : Heap} (hd : In64 d) (ho : In64 o) (hp : RI h vp ps) (hx : ∀ x ∈ ps, In64 x) (hpl : ps.length ≤ 1000) :
    ACalls C 142 [.int .i64 d, .int .i64 o, vp] h (fun r h' => ∃ v vs, r = lstErr v (sampErr d o ps) ∧ HSub h h' ∧ (sampErr d o ps = 0 → CLs h' v d o ps vs)) :=
  (sampled_specF hC hd ho hp hx hpl).mono fun _ _ ⟨v, vs, q1, q2, q3⟩ => ⟨v, vs, q1, q2, fun e => (q3 e).1⟩
end
end Go.Ae

/- The samples of a code, of the program; the samples by their places. -/
set_option linter.unusedSimpArgs false
set_option linter.unusedVariables false
namespace Go.Ae
theorem sampP_eq (d p : Int) {o : Nat} (ho : 1 ≤ o) : ∀ k, k ≤ lenN d → sampP d p o k = (List.range (k * o)).map fun i => (codeL d p).getD (i / o) 0
  | 0, _ => by simp [sampP]
  | k + 1, h => by
    have hl := codeL_length d p
    rw [sampP_succ (by omega), sampP_eq d p ho k (by omega), Nat.add_mul, Nat.one_mul, List.range_add, List.map_append]
    congr 1
    rw [List.map_map]
    refine List.ext_getElem (by simp) fun i h1 h2 => ?_
    have hi : i < o := by simpa using h1
    simp only [List.getElem_replicate, List.getElem_map, List.getElem_range, Function.comp]
    rw [Nat.mul_comm k o, Nat.mul_add_div (by omega), Nat.div_eq_of_lt hi, Nat.add_zero]
theorem sampL_eq (d p : Int) {o : Nat} (ho : 1 ≤ o) : sampL d p o = (List.range (lenN d * o)).map fun i => (codeL d p).getD (i / o) 0 := by
  rw [← sampP_full, codeL_length, sampP_eq d p ho _ (Nat.le_refl _)]
theorem sampL_get (d p : Int) {o i : Nat} (ho : 1 ≤ o) (hi : i < lenN d * o) : (sampL d p o).getD i 0 = (codeL d p).getD (i / o) 0 := by
  rw [sampL_eq d p ho]; simp [hi]
theorem sampErr_one (d o p : Int) : sampErr d o [p] = if knownErr d o = 0 ∧ codeErr d p = 0 then 0 else 2 := by simp [sampErr]
section
variable {C : Ctx}
theorem SamplesC_spec (hC : Has C T131) {d o p : Int} {h : Heap} (hd : In64 d) (ho : In64 o) (hp : In64 p) :
    ACalls C 131 [.int .i64 d, .int .i64 o, .int .i64 p] h (fun r h' => ∃ v, r = lstErr v (sampErr d o [p]) ∧ HSub h h' ∧ RI h' v (if sampErr d o [p] = 0 then sampL d p o.toNat else [])) := by
  have hsd := fun (h : Heap) (i : Nat) (hg : h.get i = some (.cells [.int .i64 p] true 0)) => sampled_spec (hC.sub (T' := T142) (by decide)) (vp := .slice i 0 1 (.known 1)) (ps := [p]) (h := h) hd ho (RI.known hg ⟨rfl, by decide⟩ (by decide)) (by simpa using hp) (by simp)
  (refine calls_intro (hC.body (by decide) tab131) (Nat.le_of_ble_eq_true rfl) ?_); (show wp C _ none B131.code _ _); (simp only [B131]); simp -implicitDefEqProofs (disch := first | assumption | decide | omega | (simp only [wpD1] <;> omega) | (simp only [wpD2] <;> assumption) | solve_by_elim [HSub.refl, HSub.push, HSub.reserve] | fail) only [↓wpPre, wpPost, wpPoly, Int.reduceToNat, Int.reducePow, Int.reduceMul, Int.reduceAdd, Int.reduceSub, Int.reduceNeg, Nat.reduceAdd, Nat.reduceMul, Nat.reducePow, Int.reduceLT, Int.reduceLE, Int.reduceEq, Nat.reduceEqDiff]
  refine ACallsK.of (hsd _ _ (get_push_eq rfl)) ?_
  rintro r h1 ⟨v, vs, rfl, s1, hcl⟩
  by_cases c : sampErr d o [p] = 0
  · have cl := hcl c
    rw [c, if_pos rfl]
    obtain ⟨w, rfl⟩ : ∃ w, vs = [w] := by
      have := cl.len
      match vs, this with
      | [w], _ => exact ⟨w, rfl⟩
    have ld := cl.sl.loadE (k := 0) (off := 0) (by simp) (by decide)
    rw [show (codeCells [w] o)[0 * 2 + 0]? = some w from rfl] at ld
    have ix : idxA 2 v (.int .i64 0) = some (elA 2 v 0) := cl.sl.idx (k := 0) (by simp)
    have fx : fieldAddrA 0 (elA 2 v 0) = some (elF 2 v 0 0) := cl.sl.fldE 0 0 (by simp)
    simp -implicitDefEqProofs (disch := first | assumption | decide | omega | (simp only [wpD1] <;> omega) | (simp only [wpD2] <;> assumption) | solve_by_elim [HSub.refl, HSub.push, HSub.reserve] | fail) only [↓wpPre, wpPost, wpPoly, Int.reduceToNat, Int.reducePow, Int.reduceMul, Int.reduceAdd, Int.reduceSub, Int.reduceNeg, Nat.reduceAdd, Nat.reduceMul, Nat.reducePow, Int.reduceLT, Int.reduceLE, Int.reduceEq, Nat.reduceEqDiff, lstErr, ix, fx, ld]
    exact ⟨_, rfl, (HSub.push1 _ _).trans s1, cl.ri 0 (by simp)⟩
  · have e2 : sampErr d o [p] = 2 := by unfold sampErr at c ⊢; split at c <;> first | exact absurd rfl c | (rename_i h; rw [if_neg h])
    rw [e2, if_neg (by decide)]
    simp -implicitDefEqProofs (disch := first | assumption | decide | omega | (simp only [wpD1] <;> omega) | (simp only [wpD2] <;> assumption) | solve_by_elim [HSub.refl, HSub.push, HSub.reserve] | fail) only [↓wpPre, wpPost, wpPoly, Int.reduceToNat, Int.reducePow, Int.reduceMul, Int.reduceAdd, Int.reduceSub, Int.reduceNeg, Nat.reduceAdd, Nat.reduceMul, Nat.reducePow, Int.reduceLT, Int.reduceLE, Int.reduceEq, Nat.reduceEqDiff, lstErr]
    exact ⟨_, rfl, (HSub.push1 _ _).trans s1, RI.nil⟩
end
end Go.Ae

/- Parts of placements and their greatest sum, in plain numbers. -/
set_option linter.unusedSimpArgs false
set_option linter.unusedVariables false
namespace Go.Ae
/-- The first part of a placement, of the first k samples. -/
def pf (a b : List Int) (m s : Int) : Nat → Int
  | 0 => 0
  | k + 1 => pf a b m s k + a.getD k 0 * b.getD (min ((k : Int) - m + a.length + s) ((a.length : Int) - 1)).toNat 0
/-- The second part, of the first k samples behind the boundary. -/
def ps (a b : List Int) (m : Nat) : Nat → Int
  | 0 => 0
  | k + 1 => ps a b m k + a.getD (m + k) 0 * b.getD k 0
def one1 (l : List Int) : Prop := ∀ x ∈ l, -1 ≤ x ∧ x ≤ 1
theorem one1.get {l : List Int} (h : one1 l) (i : Nat) : -1 ≤ l.getD i 0 ∧ l.getD i 0 ≤ 1 := by
  by_cases c : i < l.length
  · exact h _ (getD_mem c)
  · rw [List.getD_eq_getElem?_getD, List.getElem?_eq_none (by omega)]; decide
theorem mul_one1 {x y : Int} (hx : -1 ≤ x ∧ x ≤ 1) (hy : -1 ≤ y ∧ y ≤ 1) : -1 ≤ x * y ∧ x * y ≤ 1 := by
  have h : x = -1 ∨ x = 0 ∨ x = 1 := by omega
  rcases h with rfl | rfl | rfl <;> omega
theorem pf_le {a b : List Int} {m s : Int} (ha : one1 a) (hb : one1 b) : ∀ k : Nat, -(k : Int) ≤ pf a b m s k ∧ pf a b m s k ≤ k
  | 0 => by simp [pf]
  | k + 1 => by
    have ih := pf_le ha hb (m := m) (s := s) k
    have := mul_one1 (ha.get k) (hb.get (min ((k : Int) - m + a.length + s) ((a.length : Int) - 1)).toNat)
    rw [pf]; omega
theorem ps_le {a b : List Int} {m : Nat} (ha : one1 a) (hb : one1 b) : ∀ k : Nat, -(k : Int) ≤ ps a b m k ∧ ps a b m k ≤ k
  | 0 => by simp [ps]
  | k + 1 => by
    have ih := ps_le ha hb (m := m) k
    have := mul_one1 (ha.get (m + k)) (hb.get k)
    rw [ps]; omega
/-- What a placement comes to. -/
def plc (a b : List Int) (s : Int) (m : Nat) : Int := max (pf a b m s m) (-pf a b m s m) + max (ps a b m (a.length - m)) (-ps a b m (a.length - m))
theorem plc_le {a b : List Int} (ha : one1 a) (hb : one1 b) {s : Int} {m : Nat} (hm : m ≤ a.length) : 0 ≤ plc a b s m ∧ plc a b s m ≤ a.length := by
  have h1 := pf_le ha hb (m := m) (s := s) m
  have h2 := ps_le ha hb (m := m) (a.length - m)
  unfold plc
  omega
/-- The greatest of a run of placements with one drift. -/
def gM (a b : List Int) (s : Int) (lo : Nat) : Nat → Int → Int
  | 0, x => x
  | k + 1, x => max (gM a b s lo k x) (plc a b s (lo + k))
def lastM (n : Nat) (mg s : Int) : Int := if 0 < mg then n + s - mg else n + min s 0
def cntM (n : Nat) (mg s : Int) : Nat := (lastM n mg s + 1 - mg).toNat
def greatI (a b : List Int) (mg : Nat) : Int := gM a b 1 mg (cntM a.length mg 1) (gM a b 0 mg (cntM a.length mg 0) (gM a b (-1) mg (cntM a.length mg (-1)) 0))
theorem gM_le {a b : List Int} (ha : one1 a) (hb : one1 b) {s : Int} {lo : Nat} : ∀ (k : Nat) (x : Int), lo + k ≤ a.length + 1 → 0 ≤ x ∧ x ≤ a.length → 0 ≤ gM a b s lo k x ∧ gM a b s lo k x ≤ a.length
  | 0, x, _, hx => hx
  | k + 1, x, hk, hx => by
    have ih := gM_le ha hb (s := s) (lo := lo) k x (by omega) hx
    have := plc_le ha hb (s := s) (m := lo + k) (by omega)
    rw [gM]; omega
theorem sampL_one1 (d p : Int) (o : Nat) : one1 (sampL d p o) := by
  intro x hx
  unfold sampL at hx
  obtain ⟨l, hl, hxl⟩ := List.mem_flatten.1 hx
  obtain ⟨y, hy, rfl⟩ := List.mem_map.1 hl
  have := codeL_range y hy
  rw [(List.mem_replicate.1 hxl).2]; exact this
end Go.Ae

/- Parts of placements, of the program and of the reference. -/
set_option linter.unusedSimpArgs false
set_option linter.unusedVariables false
namespace Go.Ae
section
variable {C : Ctx}
theorem chip_spec (hC : Has C T154) {w : AV} {l : List Int} {o i : Int} {h : Heap} (hl : RI h w l) (hi : 0 ≤ i) (h1 : 1 ≤ l.length) (hi2 : i ≤ 1000000000) : ACalls C 154 [.agg [w, .int .i64 o], .int .i64 i] h (fun r h' => r = .int .i64 (l.getD (min i ((l.length : Int) - 1)).toNat 0) ∧ h' = h) := by
  refine ACalls.gc0 (P := fun r h' => r = .int .i64 (l.getD (min i ((l.length : Int) - 1)).toNat 0) ∧ HSub h h') ?_ (fun r h' hp => ⟨by rw [hp.1]; trivial, hp.2, hp.1, rfl⟩)
  have hlt := hl.lt
  have c0 := hl.cells
  have o0 := hl.one
  have ld := (hl.mono (HSub.push1 h (.cells [w, .int .i64 o] true 0))).load (k := (min i ((l.length : Int) - 1)).toNat) (by omega)
  (refine calls_intro (hC.body (by decide) tab154) (Nat.le_of_ble_eq_true rfl) ?_); (show wp C _ none B154.code _ _); (simp only [B154]); simp -implicitDefEqProofs (disch := first | assumption | decide | omega | (simp only [wpD1] <;> omega) | (simp only [wpD2] <;> assumption) | solve_by_elim [HSub.refl, HSub.push, HSub.reserve] | fail) only [↓wpPre, wpPost, wpPoly, Int.reduceToNat, Int.reducePow, Int.reduceMul, Int.reduceAdd, Int.reduceSub, Int.reduceNeg, Nat.reduceAdd, Nat.reduceMul, Nat.reducePow, Int.reduceLT, Int.reduceLE, Int.reduceEq, Nat.reduceEqDiff, hl.len, hl.idx, ld]
  exact HSub.push1 _ _
def tupPP (x y : Int) : AV := .tuple [.int .i64 x, .int .i64 y]
set_option maxHeartbeats 1000000 in
theorem parts_spec (hC : Has C T180) {w1 w2 : AV} {a b : List Int} {o1 o2 s : Int} {m : Nat} {h : Heap} (ha : RI h w1 a) (hb : RI h w2 b) (oa : one1 a) (ob : one1 b) (hl : a.length = b.length ∧ 1 ≤ a.length ∧ a.length ≤ 10000) (hm : m ≤ a.length) (hs : -1 ≤ s ∧ s ≤ 1) (hms : (m : Int) ≤ a.length + s) :
    ACalls C 180 [.agg [w1, .int .i64 o1], .agg [w2, .int .i64 o2], .int .i64 (m : Nat), .int .i64 s] h (fun r h' => r = tupPP (pf a b m s m) (ps a b m (a.length - m)) ∧ h' = h) := by
  refine ACalls.gc0 (P := fun r h' => r = tupPP (pf a b m s m) (ps a b m (a.length - m)) ∧ HSub h h') ?_ (fun r h' hp => ⟨by rw [hp.1]; exact free_tuple (by simp [AV.free, AV.bel]), hp.2, hp.1, rfl⟩)
  have hlt := ha.lt
  have c0 := ha.cells
  have o0 := ha.one
  have c1 := hb.cells
  have o1' := hb.one
  have chp := fun (h' : Heap) (q : HSub h h') (i : Int) (x : 0 ≤ i) (y : i ≤ 1000000000) => chip_spec (hC.sub (T' := T154) (by decide)) (o := o2) (hb.mono q) x (by omega) y
  (refine calls_intro (hC.body (by decide) tab180) (Nat.le_of_ble_eq_true rfl) ?_); (show wp C _ none B180.code _ _); (simp only [B180]); simp -implicitDefEqProofs (disch := first | assumption | decide | omega | (simp only [wpD1] <;> omega) | (simp only [wpD2] <;> assumption) | solve_by_elim [HSub.refl, HSub.push, HSub.reserve] | fail) only [↓wpPre, wpPost, wpPoly, Int.reduceToNat, Int.reducePow, Int.reduceMul, Int.reduceAdd, Int.reduceSub, Int.reduceNeg, Nat.reduceAdd, Nat.reduceMul, Nat.reducePow, Int.reduceLT, Int.reduceLE, Int.reduceEq, Nat.reduceEqDiff, ha.len]
  refine wp_loopI (fun j t h' => h' = (h.push (.cells [w1, .int .i64 o1] true 0)).push (.cells [w2, .int .i64 o2] true 0) ∧ ∃ k : Nat, t 2 = .int .i64 (m : Nat) ∧ t 3 = .int .i64 s ∧ t 5 = .ptr (h.size + 1) 0 ∧ t 8 = .int .i64 (pf a b m s (min k m)) ∧ t 9 = .int .i64 (ps a b m (k - m)) ∧ t 10 = .int .i64 (a.length : Nat) ∧ t 17 = w1 ∧ t 18 = .int .i64 (a.length : Nat) ∧ t 19 = .int .i64 (k : Nat) ∧ k ≤ a.length ∧ j = a.length - k) (j0 := a.length)
    ⟨rfl, 0, rfl, rfl, rfl, by rw [Nat.zero_min]; rfl, by rw [Nat.zero_sub]; rfl, rfl, rfl, rfl, rfl, by omega, rfl⟩ ?_
  rintro j t h' ⟨rfl, k, e2, e3, e5, e8, e9, e10, e17, e18, e19, hk, hj⟩
  simp -implicitDefEqProofs (disch := first | assumption | decide | omega | (simp only [wpD1] <;> omega) | (simp only [wpD2] <;> assumption) | solve_by_elim [HSub.refl, HSub.push, HSub.reserve] | fail) only [↓wpPre, wpPost, wpPoly, Int.reduceToNat, Int.reducePow, Int.reduceMul, Int.reduceAdd, Int.reduceSub, Int.reduceNeg, Nat.reduceAdd, Nat.reduceMul, Nat.reducePow, Int.reduceLT, Int.reduceLE, Int.reduceEq, Nat.reduceEqDiff, e18, e19]
  refine Br.by (fun c => ?_) (fun c => ?_)
  · have hk' : k < a.length := by omega
    have ld := (ha.mono ((HSub.push1 h (.cells [w1, .int .i64 o1] true 0)).push (.cells [w2, .int .i64 o2] true 0))).load hk'
    have p1 := pf_le oa ob (m := m) (s := s) (min k m)
    have p2 := ps_le oa ob (m := m) (k - m)
    by_cases c2 : k < m
    · rw [Nat.min_eq_left (by omega)] at e8 p1
      have q := mul_one1 (oa.get k) (ob.get (min ((k : Int) - m + a.length + s) ((a.length : Int) - 1)).toNat)
      have nx : pf a b m s (k + 1) = pf a b m s k + a.getD k 0 * b.getD (min ((k : Int) - m + a.length + s) ((a.length : Int) - 1)).toNat 0 := rfl
      have ny : k + 1 - m = k - m := by omega
      have cs := chp _ ((HSub.push1 h (.cells [w1, .int .i64 o1] true 0)).push (.cells [w2, .int .i64 o2] true 0)) ((k : Int) - m + a.length + s) (by omega) (by omega)
      rw [← hl.1] at cs
      simp -implicitDefEqProofs (disch := first | assumption | decide | omega | (simp only [wpD1] <;> omega) | (simp only [wpD2] <;> assumption) | solve_by_elim [HSub.refl, HSub.push, HSub.reserve] | fail) only [↓wpPre, wpPost, wpPoly, Int.reduceToNat, Int.reducePow, Int.reduceMul, Int.reduceAdd, Int.reduceSub, Int.reduceNeg, Nat.reduceAdd, Nat.reduceMul, Nat.reducePow, Int.reduceLT, Int.reduceLE, Int.reduceEq, Nat.reduceEqDiff, e2, e3, e5, e8, e9, e10, e17, e19, ha.idx, ld]
      refine ACallsK.eq cs ?_
      simp -implicitDefEqProofs (disch := first | assumption | decide | omega | (simp only [wpD1] <;> omega) | (simp only [wpD2] <;> assumption) | solve_by_elim [HSub.refl, HSub.push, HSub.reserve] | fail) only [↓wpPre, wpPost, wpPoly, Int.reduceToNat, Int.reducePow, Int.reduceMul, Int.reduceAdd, Int.reduceSub, Int.reduceNeg, Nat.reduceAdd, Nat.reduceMul, Nat.reducePow, Int.reduceLT, Int.reduceLE, Int.reduceEq, Nat.reduceEqDiff, ← nx, e8, e9, e2, e3, e5, e10, e17, e18, e19]
      exact ⟨_, ⟨k + 1, by rw [Nat.min_eq_left (by omega)], by rw [ny], by simp, by omega, rfl⟩, by omega⟩
    · have q := mul_one1 (oa.get k) (ob.get (k - m))
      have nx : min (k + 1) m = min k m := by omega
      have ny : ps a b m (k + 1 - m) = ps a b m (k - m) + a.getD k 0 * b.getD (k - m) 0 := by
        rw [show k + 1 - m = (k - m) + 1 by omega, ps, show m + (k - m) = k by omega]
      have cs := chp _ ((HSub.push1 h (.cells [w1, .int .i64 o1] true 0)).push (.cells [w2, .int .i64 o2] true 0)) ((k : Int) - m) (by omega) (by omega)
      rw [show (min ((k : Int) - m) ((b.length : Int) - 1)).toNat = k - m by omega] at cs
      simp -implicitDefEqProofs (disch := first | assumption | decide | omega | (simp only [wpD1] <;> omega) | (simp only [wpD2] <;> assumption) | solve_by_elim [HSub.refl, HSub.push, HSub.reserve] | fail) only [↓wpPre, wpPost, wpPoly, Int.reduceToNat, Int.reducePow, Int.reduceMul, Int.reduceAdd, Int.reduceSub, Int.reduceNeg, Nat.reduceAdd, Nat.reduceMul, Nat.reducePow, Int.reduceLT, Int.reduceLE, Int.reduceEq, Nat.reduceEqDiff, e2, e3, e5, e8, e9, e10, e17, e19, ha.idx, ld]
      refine ACallsK.eq cs ?_
      simp -implicitDefEqProofs (disch := first | assumption | decide | omega | (simp only [wpD1] <;> omega) | (simp only [wpD2] <;> assumption) | solve_by_elim [HSub.refl, HSub.push, HSub.reserve] | fail) only [↓wpPre, wpPost, wpPoly, Int.reduceToNat, Int.reducePow, Int.reduceMul, Int.reduceAdd, Int.reduceSub, Int.reduceNeg, Nat.reduceAdd, Nat.reduceMul, Nat.reducePow, Int.reduceLT, Int.reduceLE, Int.reduceEq, Nat.reduceEqDiff, ← ny, e8, e9, e2, e3, e5, e10, e17, e18, e19]
      exact ⟨_, ⟨k + 1, by rw [nx], rfl, by simp, by omega, rfl⟩, by omega⟩
  · have ek : k = a.length := by omega
    subst ek
    rw [Nat.min_eq_right hm] at e8
    simp -implicitDefEqProofs (disch := first | assumption | decide | omega | (simp only [wpD1] <;> omega) | (simp only [wpD2] <;> assumption) | solve_by_elim [HSub.refl, HSub.push, HSub.reserve] | fail) only [↓wpPre, wpPost, wpPoly, Int.reduceToNat, Int.reducePow, Int.reduceMul, Int.reduceAdd, Int.reduceSub, Int.reduceNeg, Nat.reduceAdd, Nat.reduceMul, Nat.reducePow, Int.reduceLT, Int.reduceLE, Int.reduceEq, Nat.reduceEqDiff, e8, e9]
    exact ⟨rfl, (HSub.push1 _ _).push _⟩
set_option maxHeartbeats 1000000 in
theorem partsR_spec (hC : Has C T182) {w1 w2 : AV} {a b : List Int} {s : Int} {m : Nat} {h : Heap} (ha : RI h w1 a) (hb : RI h w2 b) (oa : one1 a) (ob : one1 b) (hl : a.length = b.length ∧ 1 ≤ a.length ∧ a.length ≤ 10000) (hm : m ≤ a.length) (hs : -1 ≤ s ∧ s ≤ 1) (hms : (m : Int) ≤ a.length + s) :
    ACalls C 182 [w1, w2, .int .i64 (m : Nat), .int .i64 s] h (fun r h' => r = tupPP (pf a b m s m) (ps a b m (a.length - m)) ∧ h' = h) := by
  have hlt := ha.lt
  (refine calls_intro (hC.body (by decide) tab182) (Nat.le_of_ble_eq_true rfl) ?_); (show wp C _ none B182.code _ _); (simp only [B182]); simp -implicitDefEqProofs (disch := first | assumption | decide | omega | (simp only [wpD1] <;> omega) | (simp only [wpD2] <;> assumption) | solve_by_elim [HSub.refl, HSub.push, HSub.reserve] | fail) only [↓wpPre, wpPost, wpPoly, Int.reduceToNat, Int.reducePow, Int.reduceMul, Int.reduceAdd, Int.reduceSub, Int.reduceNeg, Nat.reduceAdd, Nat.reduceMul, Nat.reducePow, Int.reduceLT, Int.reduceLE, Int.reduceEq, Nat.reduceEqDiff]
  refine wp_loopI (fun j t h' => h' = h ∧ ∃ k : Nat, t 0 = w1 ∧ t 1 = w2 ∧ t 2 = .int .i64 (m : Nat) ∧ t 3 = .int .i64 s ∧ t 8 = .int .i64 (pf a b m s k) ∧ t 9 = .int .i64 0 ∧ t 10 = .int .i64 (k : Nat) ∧ k ≤ m ∧ j = m - k) (j0 := m)
    ⟨rfl, 0, rfl, rfl, rfl, rfl, rfl, rfl, rfl, by omega, rfl⟩ ?_
  rintro j t h' ⟨rfl, k, e0, e1, e2, e3, e8, e9, e10, hk, hj⟩
  simp -implicitDefEqProofs (disch := first | assumption | decide | omega | (simp only [wpD1] <;> omega) | (simp only [wpD2] <;> assumption) | solve_by_elim [HSub.refl, HSub.push, HSub.reserve] | fail) only [↓wpPre, wpPost, wpPoly, Int.reduceToNat, Int.reducePow, Int.reduceMul, Int.reduceAdd, Int.reduceSub, Int.reduceNeg, Nat.reduceAdd, Nat.reduceMul, Nat.reducePow, Int.reduceLT, Int.reduceLE, Int.reduceEq, Nat.reduceEqDiff, e2, e10]
  refine Br.by (fun c => ?_) (fun c => ?_)
  · have p1 := pf_le oa ob (m := m) (s := s) k
    have q := mul_one1 (oa.get k) (ob.get (min ((k : Int) - m + a.length + s) ((a.length : Int) - 1)).toNat)
    have nx : pf a b m s (k + 1) = pf a b m s k + a.getD k 0 * b.getD (min ((k : Int) - m + a.length + s) ((a.length : Int) - 1)).toNat 0 := rfl
    have ld := ha.load (k := k) (by omega)
    have lb := hb.load (k := (min ((k : Int) - m + a.length + s) ((a.length : Int) - 1)).toNat) (by omega)
    simp -implicitDefEqProofs (disch := first | assumption | decide | omega | (simp only [wpD1] <;> omega) | (simp only [wpD2] <;> assumption) | solve_by_elim [HSub.refl, HSub.push, HSub.reserve] | fail) only [↓wpPre, wpPost, wpPoly, Int.reduceToNat, Int.reducePow, Int.reduceMul, Int.reduceAdd, Int.reduceSub, Int.reduceNeg, Nat.reduceAdd, Nat.reduceMul, Nat.reducePow, Int.reduceLT, Int.reduceLE, Int.reduceEq, Nat.reduceEqDiff, e0, e1, e2, e3, e8, e9, e10, ha.idx, ha.len, hb.idx, ld, lb, ← nx]
    exact ⟨_, ⟨k + 1, rfl, by simp, by omega, rfl⟩, by omega⟩
  · have ek : k = m := by omega
    subst ek
    simp -implicitDefEqProofs (disch := first | assumption | decide | omega | (simp only [wpD1] <;> omega) | (simp only [wpD2] <;> assumption) | solve_by_elim [HSub.refl, HSub.push, HSub.reserve] | fail) only [↓wpPre, wpPost, wpPoly, Int.reduceToNat, Int.reducePow, Int.reduceMul, Int.reduceAdd, Int.reduceSub, Int.reduceNeg, Nat.reduceAdd, Nat.reduceMul, Nat.reducePow, Int.reduceLT, Int.reduceLE, Int.reduceEq, Nat.reduceEqDiff, e2]
    refine wp_loopI (fun j t h2 => h2 = h' ∧ ∃ i : Nat, t 0 = w1 ∧ t 1 = w2 ∧ t 2 = .int .i64 (k : Nat) ∧ t 8 = .int .i64 (pf a b k s k) ∧ t 9 = .int .i64 (ps a b k i) ∧ t 11 = .int .i64 (k + i : Nat) ∧ k + i ≤ a.length ∧ j = a.length - (k + i)) (j0 := a.length - k)
      ⟨rfl, 0, e0, e1, e2, e8, e9, rfl, by omega, rfl⟩ ?_
    rintro j t h2 ⟨rfl, i, e0, e1, e2, e8, e9, e11, hi, hj⟩
    simp -implicitDefEqProofs (disch := first | assumption | decide | omega | (simp only [wpD1] <;> omega) | (simp only [wpD2] <;> assumption) | solve_by_elim [HSub.refl, HSub.push, HSub.reserve] | fail) only [↓wpPre, wpPost, wpPoly, Int.reduceToNat, Int.reducePow, Int.reduceMul, Int.reduceAdd, Int.reduceSub, Int.reduceNeg, Nat.reduceAdd, Nat.reduceMul, Nat.reducePow, Int.reduceLT, Int.reduceLE, Int.reduceEq, Nat.reduceEqDiff, e0, e11, ha.len]
    refine Br.by (fun c => ?_) (fun c => ?_)
    · have p1 := ps_le oa ob (m := k) i
      have q := mul_one1 (oa.get (k + i)) (ob.get i)
      have nx : ps a b k (i + 1) = ps a b k i + a.getD (k + i) 0 * b.getD i 0 := rfl
      have ld := ha.load (k := k + i) (by omega)
      have lb := hb.load (k := i) (by omega)
      have ei : ((k + i : Nat) : Int) - k = (i : Nat) := by omega
      simp -implicitDefEqProofs (disch := first | assumption | decide | omega | (simp only [wpD1] <;> omega) | (simp only [wpD2] <;> assumption) | solve_by_elim [HSub.refl, HSub.push, HSub.reserve] | fail) only [↓wpPre, wpPost, wpPoly, Int.reduceToNat, Int.reducePow, Int.reduceMul, Int.reduceAdd, Int.reduceSub, Int.reduceNeg, Nat.reduceAdd, Nat.reduceMul, Nat.reducePow, Int.reduceLT, Int.reduceLE, Int.reduceEq, Nat.reduceEqDiff, e0, e1, e2, e8, e9, e11, ha.idx, hb.idx, ld, lb, ei, ← nx]
      exact ⟨_, ⟨i + 1, rfl, by simp; omega, by omega, rfl⟩, by omega⟩
    · have ek : a.length - k = i := by omega
      rw [ek]
      simp -implicitDefEqProofs (disch := first | assumption | decide | omega | (simp only [wpD1] <;> omega) | (simp only [wpD2] <;> assumption) | solve_by_elim [HSub.refl, HSub.push, HSub.reserve] | fail) only [↓wpPre, wpPost, wpPoly, Int.reduceToNat, Int.reducePow, Int.reduceMul, Int.reduceAdd, Int.reduceSub, Int.reduceNeg, Nat.reduceAdd, Nat.reduceMul, Nat.reducePow, Int.reduceLT, Int.reduceLE, Int.reduceEq, Nat.reduceEqDiff, e8, e9]
      rfl
end
end Go.Ae

/- The greatest sum over placements, of the program and of the reference. -/
set_option linter.unusedSimpArgs false
set_option linter.unusedVariables false
namespace Go.Ae
theorem cnt_in {n mg k : Nat} {s : Int} (hs : -1 ≤ s ∧ s ≤ 1) (hk : k < cntM n mg s) : mg + k ≤ n ∧ ((mg + k : Nat) : Int) ≤ n + s := by
  unfold cntM lastM at hk
  split at hk <;> omega
theorem cnt_le {n mg : Nat} {s : Int} (hs : -1 ≤ s ∧ s ≤ 1) (k : Nat) : k < cntM n mg s ↔ ((mg : Int) + k ≤ lastM n mg s) := by
  unfold cntM
  omega
/-- What the rows of placements come to, row by row. -/
def rowG (a b : List Int) (mg : Nat) : Nat → Int
  | 0 => 0
  | si + 1 => gM a b ((si : Int) - 1) mg (cntM a.length mg ((si : Int) - 1)) (rowG a b mg si)
theorem rowG_three (a b : List Int) (mg : Nat) : rowG a b mg 3 = greatI a b mg := rfl
theorem rowG_le {a b : List Int} (oa : one1 a) (ob : one1 b) (mg : Nat) : ∀ si, si ≤ 3 → 0 ≤ rowG a b mg si ∧ rowG a b mg si ≤ a.length
  | 0, _ => by simp [rowG]
  | si + 1, h => by
    have ih := rowG_le oa ob mg si (by omega)
    by_cases c : cntM a.length mg ((si : Int) - 1) = 0
    · rw [rowG, c]; exact ih
    · have := cnt_in (n := a.length) (mg := mg) (s := (si : Int) - 1) (k := cntM a.length mg ((si : Int) - 1) - 1) (by omega) (by omega)
      exact gM_le oa ob _ _ (by omega) ih
section
variable {C : Ctx}
theorem plac_iter (hC : Has C T201) {l b1 b2 n mg : Nat} {h : Heap} (hn : n ≤ 10000 ∧ mg ≤ 10000) (J : Nat → Nat → Heap → Prop) (D : Heap → Prop) (h0 : J 0 0 h)
    (hb : ∀ si k h', J si k h' → h'.get b1 = some (.cells [.int .i64 (n : Nat)] true 0) ∧ h'.get b2 = some (.cells [.int .i64 (mg : Nat)] true 0))
    (hy : ∀ (si k : Nat) (h' : Heap), si < 3 → k < cntM n mg ((si : Int) - 1) → J si k h' → AYield C l [.int .i64 (mg + k : Nat), .int .i64 ((si : Int) - 1)] h' (fun r h'' => (r = .bool true ∧ J si (k + 1) h'') ∨ (r = .bool false ∧ D h'')))
    (hx : ∀ (si : Nat) (h' : Heap), si < 3 → J si (cntM n mg ((si : Int) - 1)) h' → J (si + 1) 0 h') (hd : ∀ h', J 3 0 h' → D h') :
    ACalls C 201 [.yield l, .ptr b1 0, .ptr b2 0] h (fun _ h' => D h') := by
  (refine calls_intro (hC.body (by decide) tab201) (Nat.le_of_ble_eq_true rfl) ?_); (show wp C _ none B201.code _ _); (simp only [B201]); simp -implicitDefEqProofs (disch := first | assumption | decide | omega | (simp only [wpD1] <;> omega) | (simp only [wpD2] <;> assumption) | solve_by_elim [HSub.refl, HSub.push, HSub.reserve] | fail) only [↓wpPre, wpPost, wpPoly, Int.reduceToNat, Int.reducePow, Int.reduceMul, Int.reduceAdd, Int.reduceSub, Int.reduceNeg, Nat.reduceAdd, Nat.reduceMul, Nat.reducePow, Int.reduceLT, Int.reduceLE, Int.reduceEq, Nat.reduceEqDiff]
  refine wp_loopI (fun j t h' => ∃ si : Nat, J si 0 h' ∧ t 0 = .yield l ∧ t 1 = .ptr b1 0 ∧ t 2 = .ptr b2 0 ∧ t 4 = .int .i64 ((si : Int) - 1) ∧ si ≤ 3 ∧ j = 3 - si) (j0 := 3) ⟨0, h0, rfl, rfl, rfl, rfl, by omega, rfl⟩ ?_
  rintro j t h' ⟨si, hJ, e0, e1, e2, e4, hsi, hj⟩
  obtain ⟨g1, g2⟩ := hb _ _ _ hJ
  simp -implicitDefEqProofs (disch := first | assumption | decide | omega | (simp only [wpD1] <;> omega) | (simp only [wpD2] <;> assumption) | solve_by_elim [HSub.refl, HSub.push, HSub.reserve] | fail) only [↓wpPre, wpPost, wpPoly, Int.reduceToNat, Int.reducePow, Int.reduceMul, Int.reduceAdd, Int.reduceSub, Int.reduceNeg, Nat.reduceAdd, Nat.reduceMul, Nat.reducePow, Int.reduceLT, Int.reduceLE, Int.reduceEq, Nat.reduceEqDiff, e4]
  refine Br.by (fun c => ?_) (fun c => ?_)
  · have hsi' : si < 3 := by omega
    have hls : ∃ L : Int, L = lastM n mg ((si : Int) - 1) ∧ -10001 ≤ L ∧ L ≤ 10001 := ⟨_, rfl, by unfold lastM; split <;> omega, by unfold lastM; split <;> omega⟩
    obtain ⟨L, hL, hL1⟩ := hls
    by_cases cm : 0 < (mg : Int)
    · have eL : L = n + ((si : Int) - 1) - mg := by rw [hL]; unfold lastM; rw [if_pos cm]
      simp -implicitDefEqProofs (disch := first | assumption | decide | omega | (simp only [wpD1] <;> omega) | (simp only [wpD2] <;> assumption) | solve_by_elim [HSub.refl, HSub.push, HSub.reserve] | fail) only [↓wpPre, wpPost, wpPoly, Int.reduceToNat, Int.reducePow, Int.reduceMul, Int.reduceAdd, Int.reduceSub, Int.reduceNeg, Nat.reduceAdd, Nat.reduceMul, Nat.reducePow, Int.reduceLT, Int.reduceLE, Int.reduceEq, Nat.reduceEqDiff, e1, e2, e4, g1, g2]
      rw [← eL]
      refine wp_loopI (fun j t h' => ∃ k : Nat, J si k h' ∧ t 0 = .yield l ∧ t 1 = .ptr b1 0 ∧ t 2 = .ptr b2 0 ∧ t 4 = .int .i64 ((si : Int) - 1) ∧ t 5 = .int .i64 L ∧ t 6 = .int .i64 (mg + k : Nat) ∧ k ≤ cntM n mg ((si : Int) - 1) ∧ j = cntM n mg ((si : Int) - 1) - k) (j0 := cntM n mg ((si : Int) - 1))
        ⟨0, hJ, e0, e1, e2, e4, rfl, rfl, by omega, rfl⟩ ?_
      rintro j t h'' ⟨k, hJ, e0, e1, e2, e4, e5, e6, hk, hj'⟩
      simp -implicitDefEqProofs (disch := first | assumption | decide | omega | (simp only [wpD1] <;> omega) | (simp only [wpD2] <;> assumption) | solve_by_elim [HSub.refl, HSub.push, HSub.reserve] | fail) only [↓wpPre, wpPost, wpPoly, Int.reduceToNat, Int.reducePow, Int.reduceMul, Int.reduceAdd, Int.reduceSub, Int.reduceNeg, Nat.reduceAdd, Nat.reduceMul, Nat.reducePow, Int.reduceLT, Int.reduceLE, Int.reduceEq, Nat.reduceEqDiff, e5, e6]
      refine Br.by (fun c2 => ?_) (fun c2 => ?_)
      · have hk' : k < cntM n mg ((si : Int) - 1) := (cnt_le (by omega) k).2 (by omega)
        have := cnt_in (by omega) hk'
        simp -implicitDefEqProofs (disch := first | assumption | decide | omega | (simp only [wpD1] <;> omega) | (simp only [wpD2] <;> assumption) | solve_by_elim [HSub.refl, HSub.push, HSub.reserve] | fail) only [↓wpPre, wpPost, wpPoly, Int.reduceToNat, Int.reducePow, Int.reduceMul, Int.reduceAdd, Int.reduceSub, Int.reduceNeg, Nat.reduceAdd, Nat.reduceMul, Nat.reducePow, Int.reduceLT, Int.reduceLE, Int.reduceEq, Nat.reduceEqDiff, e0, e4, e6]
        refine AYieldK.of (hy si k h'' hsi' hk' hJ) ?_
        rintro r h3 (⟨rfl, hJ'⟩ | ⟨rfl, hD⟩)
        · simp -implicitDefEqProofs (disch := first | assumption | decide | omega | (simp only [wpD1] <;> omega) | (simp only [wpD2] <;> assumption) | solve_by_elim [HSub.refl, HSub.push, HSub.reserve] | fail) only [↓wpPre, wpPost, wpPoly, Int.reduceToNat, Int.reducePow, Int.reduceMul, Int.reduceAdd, Int.reduceSub, Int.reduceNeg, Nat.reduceAdd, Nat.reduceMul, Nat.reducePow, Int.reduceLT, Int.reduceLE, Int.reduceEq, Nat.reduceEqDiff, e0, e1, e2, e4, e5, e6]
          exact ⟨_, ⟨k + 1, hJ', by simp; omega, by omega, rfl⟩, by omega⟩
        · simp -implicitDefEqProofs (disch := first | assumption | decide | omega | (simp only [wpD1] <;> omega) | (simp only [wpD2] <;> assumption) | solve_by_elim [HSub.refl, HSub.push, HSub.reserve] | fail) only [↓wpPre, wpPost, wpPoly, Int.reduceToNat, Int.reducePow, Int.reduceMul, Int.reduceAdd, Int.reduceSub, Int.reduceNeg, Nat.reduceAdd, Nat.reduceMul, Nat.reducePow, Int.reduceLT, Int.reduceLE, Int.reduceEq, Nat.reduceEqDiff]
          exact hD
      · have ek : k = cntM n mg ((si : Int) - 1) := by
          have := (cnt_le (n := n) (mg := mg) (s := (si : Int) - 1) (by omega) k).1
          omega
        subst ek
        simp -implicitDefEqProofs (disch := first | assumption | decide | omega | (simp only [wpD1] <;> omega) | (simp only [wpD2] <;> assumption) | solve_by_elim [HSub.refl, HSub.push, HSub.reserve] | fail) only [↓wpPre, wpPost, wpPoly, Int.reduceToNat, Int.reducePow, Int.reduceMul, Int.reduceAdd, Int.reduceSub, Int.reduceNeg, Nat.reduceAdd, Nat.reduceMul, Nat.reducePow, Int.reduceLT, Int.reduceLE, Int.reduceEq, Nat.reduceEqDiff, e0, e1, e2, e4]
        exact ⟨_, ⟨si + 1, hx si h'' hsi' hJ, by congr 1; omega, by omega, rfl⟩, by omega⟩
    · have eL : L = n + min ((si : Int) - 1) 0 := by rw [hL]; unfold lastM; rw [if_neg cm]
      simp -implicitDefEqProofs (disch := first | assumption | decide | omega | (simp only [wpD1] <;> omega) | (simp only [wpD2] <;> assumption) | solve_by_elim [HSub.refl, HSub.push, HSub.reserve] | fail) only [↓wpPre, wpPost, wpPoly, Int.reduceToNat, Int.reducePow, Int.reduceMul, Int.reduceAdd, Int.reduceSub, Int.reduceNeg, Nat.reduceAdd, Nat.reduceMul, Nat.reducePow, Int.reduceLT, Int.reduceLE, Int.reduceEq, Nat.reduceEqDiff, e1, e2, e4, g1, g2]
      rw [← eL]
      refine wp_loopI (fun j t h' => ∃ k : Nat, J si k h' ∧ t 0 = .yield l ∧ t 1 = .ptr b1 0 ∧ t 2 = .ptr b2 0 ∧ t 4 = .int .i64 ((si : Int) - 1) ∧ t 5 = .int .i64 L ∧ t 6 = .int .i64 (mg + k : Nat) ∧ k ≤ cntM n mg ((si : Int) - 1) ∧ j = cntM n mg ((si : Int) - 1) - k) (j0 := cntM n mg ((si : Int) - 1))
        ⟨0, hJ, e0, e1, e2, e4, rfl, rfl, by omega, rfl⟩ ?_
      rintro j t h'' ⟨k, hJ, e0, e1, e2, e4, e5, e6, hk, hj'⟩
      simp -implicitDefEqProofs (disch := first | assumption | decide | omega | (simp only [wpD1] <;> omega) | (simp only [wpD2] <;> assumption) | solve_by_elim [HSub.refl, HSub.push, HSub.reserve] | fail) only [↓wpPre, wpPost, wpPoly, Int.reduceToNat, Int.reducePow, Int.reduceMul, Int.reduceAdd, Int.reduceSub, Int.reduceNeg, Nat.reduceAdd, Nat.reduceMul, Nat.reducePow, Int.reduceLT, Int.reduceLE, Int.reduceEq, Nat.reduceEqDiff, e5, e6]
      refine Br.by (fun c2 => ?_) (fun c2 => ?_)
      · have hk' : k < cntM n mg ((si : Int) - 1) := (cnt_le (by omega) k).2 (by omega)
        have := cnt_in (by omega) hk'
        simp -implicitDefEqProofs (disch := first | assumption | decide | omega | (simp only [wpD1] <;> omega) | (simp only [wpD2] <;> assumption) | solve_by_elim [HSub.refl, HSub.push, HSub.reserve] | fail) only [↓wpPre, wpPost, wpPoly, Int.reduceToNat, Int.reducePow, Int.reduceMul, Int.reduceAdd, Int.reduceSub, Int.reduceNeg, Nat.reduceAdd, Nat.reduceMul, Nat.reducePow, Int.reduceLT, Int.reduceLE, Int.reduceEq, Nat.reduceEqDiff, e0, e4, e6]
        refine AYieldK.of (hy si k h'' hsi' hk' hJ) ?_
        rintro r h3 (⟨rfl, hJ'⟩ | ⟨rfl, hD⟩)
        · simp -implicitDefEqProofs (disch := first | assumption | decide | omega | (simp only [wpD1] <;> omega) | (simp only [wpD2] <;> assumption) | solve_by_elim [HSub.refl, HSub.push, HSub.reserve] | fail) only [↓wpPre, wpPost, wpPoly, Int.reduceToNat, Int.reducePow, Int.reduceMul, Int.reduceAdd, Int.reduceSub, Int.reduceNeg, Nat.reduceAdd, Nat.reduceMul, Nat.reducePow, Int.reduceLT, Int.reduceLE, Int.reduceEq, Nat.reduceEqDiff, e0, e1, e2, e4, e5, e6]
          exact ⟨_, ⟨k + 1, hJ', by simp; omega, by omega, rfl⟩, by omega⟩
        · simp -implicitDefEqProofs (disch := first | assumption | decide | omega | (simp only [wpD1] <;> omega) | (simp only [wpD2] <;> assumption) | solve_by_elim [HSub.refl, HSub.push, HSub.reserve] | fail) only [↓wpPre, wpPost, wpPoly, Int.reduceToNat, Int.reducePow, Int.reduceMul, Int.reduceAdd, Int.reduceSub, Int.reduceNeg, Nat.reduceAdd, Nat.reduceMul, Nat.reducePow, Int.reduceLT, Int.reduceLE, Int.reduceEq, Nat.reduceEqDiff]
          exact hD
      · have ek : k = cntM n mg ((si : Int) - 1) := by
          have := (cnt_le (n := n) (mg := mg) (s := (si : Int) - 1) (by omega) k).1
          omega
        subst ek
        simp -implicitDefEqProofs (disch := first | assumption | decide | omega | (simp only [wpD1] <;> omega) | (simp only [wpD2] <;> assumption) | solve_by_elim [HSub.refl, HSub.push, HSub.reserve] | fail) only [↓wpPre, wpPost, wpPoly, Int.reduceToNat, Int.reducePow, Int.reduceMul, Int.reduceAdd, Int.reduceSub, Int.reduceNeg, Nat.reduceAdd, Nat.reduceMul, Nat.reducePow, Int.reduceLT, Int.reduceLE, Int.reduceEq, Nat.reduceEqDiff, e0, e1, e2, e4]
        exact ⟨_, ⟨si + 1, hx si h'' hsi' hJ, by congr 1; omega, by omega, rfl⟩, by omega⟩
  · have : si = 3 := by omega
    subst this
    simp -implicitDefEqProofs (disch := first | assumption | decide | omega | (simp only [wpD1] <;> omega) | (simp only [wpD2] <;> assumption) | solve_by_elim [HSub.refl, HSub.push, HSub.reserve] | fail) only [↓wpPre, wpPost, wpPoly, Int.reduceToNat, Int.reducePow, Int.reduceMul, Int.reduceAdd, Int.reduceSub, Int.reduceNeg, Nat.reduceAdd, Nat.reduceMul, Nat.reducePow, Int.reduceLT, Int.reduceLE, Int.reduceEq, Nat.reduceEqDiff]
    exact hd _ hJ
end
end Go.Ae
