/- Texts of the proof, part 10: a second reading of the lowered code, proved sound, and what the functions compute. -/
import Derived.Test.YtcmdajkkhghgdaaP9

/- The reference's registers. -/
set_option linter.unusedSimpArgs false
set_option linter.unusedVariables false
namespace Go.Ae
theorem gV_u {w : Bool} {p q : Prop} : @gV .undef w ⟨p⟩ ⟨q⟩ = q := rfl
section
variable {C : Ctx}
theorem tap_pos {n : Int} {ts : List Int} {i : Nat} (hok : ∀ q, q < i → tapOk n ts q) (q : Nat) (hq : q < i) : 0 ≤ ts.getD q 0 := by
  induction q with
  | zero => have := (hok 0 hq).1; rw [if_pos rfl] at this; omega
  | succ q ih =>
    have h1 := (hok (q + 1) hq).1
    rw [if_neg (by omega), show q + 1 - 1 = q by omega] at h1
    have := ih (by omega); omega

set_option maxRecDepth 100000 in
set_option maxHeartbeats 1000000 in
theorem check08_spec (hC : Has C T94) {n : Int} {v1 v2 : AV} {ts w : List Int} {h : Heap} (h1 : RI h v1 ts) (h2 : RI h v2 w) : ACalls C 94 [.int .i64 n, v1, v2] h (fun r h' => r = .int .i64 (regErr n ts w) ∧ h' = h) := by
  have l1 := h1.lt
  have l2 := h2.lt
  have pe : regErr n ts w = if n < 2 ∨ 16 < n then 2 else if RegGood n ts w then 0 else 3 := rfl
  by_cases c0 : n < 2 ∨ 16 < n
  · rw [if_pos c0] at pe
    rw [pe]
    (refine calls_intro (hC.body (by decide) tab94) (Nat.le_of_ble_eq_true rfl) ?_); (show wp C _ none B94.code _ _); (simp only [B94]); simp -implicitDefEqProofs (disch := first | assumption | decide | omega | (simp -implicitDefEqProofs only [wpD1] <;> omega) | (refine not_in_one ?_; first | omega | (simp -implicitDefEqProofs only [wpD1] <;> omega) | fail) | (simp -implicitDefEqProofs only [wpD2] <;> assumption) | ((repeat (first | exact HSub.refl _ | assumption | refine HSub.push ?_ _ | refine HSub.reserve ?_ _ | refine HSub.put ?_ (by omega) _)); done) | fail) only [↓wpPre, wpPost, wpPoly, Int.reduceToNat, Int.reducePow, Int.reduceMul, Int.reduceAdd, Int.reduceSub, Int.reduceNeg, Nat.reduceAdd, Nat.reduceMul, Nat.reducePow, Int.reduceLT, Int.reduceLE, Int.reduceEq, Nat.reduceEqDiff]
    (repeat' (first | (refine Br.by (fun _ => ?_) (fun _ => ?_)) | (simp -implicitDefEqProofs (disch := first | assumption | decide | omega | (simp -implicitDefEqProofs only [wpD1] <;> omega) | (refine not_in_one ?_; first | omega | (simp -implicitDefEqProofs only [wpD1] <;> omega) | fail) | (simp -implicitDefEqProofs only [wpD2] <;> assumption) | ((repeat (first | exact HSub.refl _ | assumption | refine HSub.push ?_ _ | refine HSub.reserve ?_ _ | refine HSub.put ?_ (by omega) _)); done) | fail) only [↓wpPre, wpPost, wpPoly, Int.reduceToNat, Int.reducePow, Int.reduceMul, Int.reduceAdd, Int.reduceSub, Int.reduceNeg, Nat.reduceAdd, Nat.reduceMul, Nat.reducePow, Int.reduceLT, Int.reduceLE, Int.reduceEq, Nat.reduceEqDiff])))
    all_goals omega
  rw [if_neg c0] at pe
  by_cases c1 : ts.length = 0
  · rw [if_neg (fun hg => by have := hg.1.1; omega)] at pe
    rw [pe]
    (refine calls_intro (hC.body (by decide) tab94) (Nat.le_of_ble_eq_true rfl) ?_); (show wp C _ none B94.code _ _); (simp only [B94]); simp -implicitDefEqProofs (disch := first | assumption | decide | omega | (simp -implicitDefEqProofs only [wpD1] <;> omega) | (refine not_in_one ?_; first | omega | (simp -implicitDefEqProofs only [wpD1] <;> omega) | fail) | (simp -implicitDefEqProofs only [wpD2] <;> assumption) | ((repeat (first | exact HSub.refl _ | assumption | refine HSub.push ?_ _ | refine HSub.reserve ?_ _ | refine HSub.put ?_ (by omega) _)); done) | fail) only [↓wpPre, wpPost, wpPoly, Int.reduceToNat, Int.reducePow, Int.reduceMul, Int.reduceAdd, Int.reduceSub, Int.reduceNeg, Nat.reduceAdd, Nat.reduceMul, Nat.reducePow, Int.reduceLT, Int.reduceLE, Int.reduceEq, Nat.reduceEqDiff, h1.len]
  by_cases c2 : ts.getD 0 0 ≠ 0
  · rw [if_neg (fun hg => c2 hg.1.2.1)] at pe
    rw [pe]
    (refine calls_intro (hC.body (by decide) tab94) (Nat.le_of_ble_eq_true rfl) ?_); (show wp C _ none B94.code _ _); (simp only [B94]); simp -implicitDefEqProofs (disch := first | assumption | decide | omega | (simp -implicitDefEqProofs only [wpD1] <;> omega) | (refine not_in_one ?_; first | omega | (simp -implicitDefEqProofs only [wpD1] <;> omega) | fail) | (simp -implicitDefEqProofs only [wpD2] <;> assumption) | ((repeat (first | exact HSub.refl _ | assumption | refine HSub.push ?_ _ | refine HSub.reserve ?_ _ | refine HSub.put ?_ (by omega) _)); done) | fail) only [↓wpPre, wpPost, wpPoly, Int.reduceToNat, Int.reducePow, Int.reduceMul, Int.reduceAdd, Int.reduceSub, Int.reduceNeg, Nat.reduceAdd, Nat.reduceMul, Nat.reducePow, Int.reduceLT, Int.reduceLE, Int.reduceEq, Nat.reduceEqDiff, h1.len, h1.idx, h1.load]
  have c2' : ts.getD 0 0 = 0 := Decidable.not_not.1 c2
  generalize hE : regErr n ts w = E at pe
  (refine calls_intro (hC.body (by decide) tab94) (Nat.le_of_ble_eq_true rfl) ?_); (show wp C _ none B94.code _ _); (simp only [B94]); simp -implicitDefEqProofs (disch := first | assumption | decide | omega | (simp -implicitDefEqProofs only [wpD1] <;> omega) | (refine not_in_one ?_; first | omega | (simp -implicitDefEqProofs only [wpD1] <;> omega) | fail) | (simp -implicitDefEqProofs only [wpD2] <;> assumption) | ((repeat (first | exact HSub.refl _ | assumption | refine HSub.push ?_ _ | refine HSub.reserve ?_ _ | refine HSub.put ?_ (by omega) _)); done) | fail) only [↓wpPre, wpPost, wpPoly, Int.reduceToNat, Int.reducePow, Int.reduceMul, Int.reduceAdd, Int.reduceSub, Int.reduceNeg, Nat.reduceAdd, Nat.reduceMul, Nat.reducePow, Int.reduceLT, Int.reduceLE, Int.reduceEq, Nat.reduceEqDiff, h1.len, h1.idx, h1.load, c2']
  refine wp_loopI (fun j t h' => h' = h ∧ ∃ i : Nat, t 0 = .int .i64 n ∧ t 1 = v1 ∧ t 2 = v2 ∧ t 7 = .int .i64 (i : Nat) ∧ i ≤ ts.length ∧ (∀ q, q < i → tapOk n ts q) ∧ j = ts.length - i) (j0 := ts.length)
    ⟨rfl, 0, rfl, rfl, rfl, rfl, by omega, by omega, rfl⟩ ?_
  rintro j t h' ⟨hh, i, e0, e1, e2, e7, hi, hok, hj⟩
  subst hh
  simp -implicitDefEqProofs (disch := first | assumption | decide | omega | (simp -implicitDefEqProofs only [wpD1] <;> omega) | (refine not_in_one ?_; first | omega | (simp -implicitDefEqProofs only [wpD1] <;> omega) | fail) | (simp -implicitDefEqProofs only [wpD2] <;> assumption) | ((repeat (first | exact HSub.refl _ | assumption | refine HSub.push ?_ _ | refine HSub.reserve ?_ _ | refine HSub.put ?_ (by omega) _)); done) | fail) only [↓wpPre, wpPost, wpPoly, Int.reduceToNat, Int.reducePow, Int.reduceMul, Int.reduceAdd, Int.reduceSub, Int.reduceNeg, Nat.reduceAdd, Nat.reduceMul, Nat.reducePow, Int.reduceLT, Int.reduceLE, Int.reduceEq, Nat.reduceEqDiff, e1, e7, h1.len]
  refine Br.by (fun c => ?_) (fun c => ?_)
  · have hi' : i < ts.length := by omega
    by_cases ct : tapOk n ts i
    · have ct' := ct
      unfold tapOk at ct'
      by_cases hz : i = 0
      · subst hz
        rw [if_pos rfl] at ct'
        simp -implicitDefEqProofs (disch := first | assumption | decide | omega | (simp -implicitDefEqProofs only [wpD1] <;> omega) | (refine not_in_one ?_; first | omega | (simp -implicitDefEqProofs only [wpD1] <;> omega) | fail) | (simp -implicitDefEqProofs only [wpD2] <;> assumption) | ((repeat (first | exact HSub.refl _ | assumption | refine HSub.push ?_ _ | refine HSub.reserve ?_ _ | refine HSub.put ?_ (by omega) _)); done) | fail) only [↓wpPre, wpPost, wpPoly, Int.reduceToNat, Int.reducePow, Int.reduceMul, Int.reduceAdd, Int.reduceSub, Int.reduceNeg, Nat.reduceAdd, Nat.reduceMul, Nat.reducePow, Int.reduceLT, Int.reduceLE, Int.reduceEq, Nat.reduceEqDiff, gV_u, e0, e1, e2, e7, h1.idx, h1.load]
        exact ⟨_, ⟨1, by simp, by omega, fun q hq => by
          have : q = 0 := by omega
          subst this; exact ct, rfl⟩, by omega⟩
      · rw [if_neg hz] at ct'
        have hp := tap_pos hok (i - 1) (by omega)
        have ei : ((i : Int) - 1).toNat = i - 1 := by omega
        simp -implicitDefEqProofs (disch := first | assumption | decide | omega | (simp -implicitDefEqProofs only [wpD1] <;> omega) | (refine not_in_one ?_; first | omega | (simp -implicitDefEqProofs only [wpD1] <;> omega) | fail) | (simp -implicitDefEqProofs only [wpD2] <;> assumption) | ((repeat (first | exact HSub.refl _ | assumption | refine HSub.push ?_ _ | refine HSub.reserve ?_ _ | refine HSub.put ?_ (by omega) _)); done) | fail) only [↓wpPre, wpPost, wpPoly, Int.reduceToNat, Int.reducePow, Int.reduceMul, Int.reduceAdd, Int.reduceSub, Int.reduceNeg, Nat.reduceAdd, Nat.reduceMul, Nat.reducePow, Int.reduceLT, Int.reduceLE, Int.reduceEq, Nat.reduceEqDiff, gV_u, e0, e1, e2, e7, h1.idx, h1.load, ei]
        exact ⟨_, ⟨i + 1, by simp, by omega, fun q hq => by
          by_cases e : q = i
          · subst e; exact ct
          · exact hok q (by omega), rfl⟩, by omega⟩
    · have hbad : ¬ RegGood n ts w := fun hg => ct (hg.1.2.2 i hi')
      rw [if_neg hbad] at pe
      unfold tapOk at ct
      by_cases hz : i = 0
      · subst hz
        rw [if_pos rfl] at ct
        by_cases a1 : ts.getD 0 0 < 0
        · simp -implicitDefEqProofs (disch := first | assumption | decide | omega | (simp -implicitDefEqProofs only [wpD1] <;> omega) | (refine not_in_one ?_; first | omega | (simp -implicitDefEqProofs only [wpD1] <;> omega) | fail) | (simp -implicitDefEqProofs only [wpD2] <;> assumption) | ((repeat (first | exact HSub.refl _ | assumption | refine HSub.push ?_ _ | refine HSub.reserve ?_ _ | refine HSub.put ?_ (by omega) _)); done) | fail) only [↓wpPre, wpPost, wpPoly, Int.reduceToNat, Int.reducePow, Int.reduceMul, Int.reduceAdd, Int.reduceSub, Int.reduceNeg, Nat.reduceAdd, Nat.reduceMul, Nat.reducePow, Int.reduceLT, Int.reduceLE, Int.reduceEq, Nat.reduceEqDiff, gV_u, e0, e1, e2, e7, h1.idx, h1.load, pe]
        · simp -implicitDefEqProofs (disch := first | assumption | decide | omega | (simp -implicitDefEqProofs only [wpD1] <;> omega) | (refine not_in_one ?_; first | omega | (simp -implicitDefEqProofs only [wpD1] <;> omega) | fail) | (simp -implicitDefEqProofs only [wpD2] <;> assumption) | ((repeat (first | exact HSub.refl _ | assumption | refine HSub.push ?_ _ | refine HSub.reserve ?_ _ | refine HSub.put ?_ (by omega) _)); done) | fail) only [↓wpPre, wpPost, wpPoly, Int.reduceToNat, Int.reducePow, Int.reduceMul, Int.reduceAdd, Int.reduceSub, Int.reduceNeg, Nat.reduceAdd, Nat.reduceMul, Nat.reducePow, Int.reduceLT, Int.reduceLE, Int.reduceEq, Nat.reduceEqDiff, gV_u, e0, e1, e2, e7, h1.idx, h1.load, pe]
      · rw [if_neg hz] at ct
        have ei : ((i : Int) - 1).toNat = i - 1 := by omega
        by_cases a1 : ts.getD i 0 < 0
        · simp -implicitDefEqProofs (disch := first | assumption | decide | omega | (simp -implicitDefEqProofs only [wpD1] <;> omega) | (refine not_in_one ?_; first | omega | (simp -implicitDefEqProofs only [wpD1] <;> omega) | fail) | (simp -implicitDefEqProofs only [wpD2] <;> assumption) | ((repeat (first | exact HSub.refl _ | assumption | refine HSub.push ?_ _ | refine HSub.reserve ?_ _ | refine HSub.put ?_ (by omega) _)); done) | fail) only [↓wpPre, wpPost, wpPoly, Int.reduceToNat, Int.reducePow, Int.reduceMul, Int.reduceAdd, Int.reduceSub, Int.reduceNeg, Nat.reduceAdd, Nat.reduceMul, Nat.reducePow, Int.reduceLT, Int.reduceLE, Int.reduceEq, Nat.reduceEqDiff, gV_u, e0, e1, e2, e7, h1.idx, h1.load, pe]
        · by_cases a2 : n ≤ ts.getD i 0
          · simp -implicitDefEqProofs (disch := first | assumption | decide | omega | (simp -implicitDefEqProofs only [wpD1] <;> omega) | (refine not_in_one ?_; first | omega | (simp -implicitDefEqProofs only [wpD1] <;> omega) | fail) | (simp -implicitDefEqProofs only [wpD2] <;> assumption) | ((repeat (first | exact HSub.refl _ | assumption | refine HSub.push ?_ _ | refine HSub.reserve ?_ _ | refine HSub.put ?_ (by omega) _)); done) | fail) only [↓wpPre, wpPost, wpPoly, Int.reduceToNat, Int.reducePow, Int.reduceMul, Int.reduceAdd, Int.reduceSub, Int.reduceNeg, Nat.reduceAdd, Nat.reduceMul, Nat.reducePow, Int.reduceLT, Int.reduceLE, Int.reduceEq, Nat.reduceEqDiff, gV_u, e0, e1, e2, e7, h1.idx, h1.load, pe]
          · simp -implicitDefEqProofs (disch := first | assumption | decide | omega | (simp -implicitDefEqProofs only [wpD1] <;> omega) | (refine not_in_one ?_; first | omega | (simp -implicitDefEqProofs only [wpD1] <;> omega) | fail) | (simp -implicitDefEqProofs only [wpD2] <;> assumption) | ((repeat (first | exact HSub.refl _ | assumption | refine HSub.push ?_ _ | refine HSub.reserve ?_ _ | refine HSub.put ?_ (by omega) _)); done) | fail) only [↓wpPre, wpPost, wpPoly, Int.reduceToNat, Int.reducePow, Int.reduceMul, Int.reduceAdd, Int.reduceSub, Int.reduceNeg, Nat.reduceAdd, Nat.reduceMul, Nat.reducePow, Int.reduceLT, Int.reduceLE, Int.reduceEq, Nat.reduceEqDiff, gV_u, e0, e1, e2, e7, h1.idx, h1.load, ei, pe]
  · have : i = ts.length := by omega
    subst this
    by_cases c3 : (w.length : Int) ≠ n
    · rw [if_neg (fun hg => c3 hg.2.1)] at pe
      simp -implicitDefEqProofs (disch := first | assumption | decide | omega | (simp -implicitDefEqProofs only [wpD1] <;> omega) | (refine not_in_one ?_; first | omega | (simp -implicitDefEqProofs only [wpD1] <;> omega) | fail) | (simp -implicitDefEqProofs only [wpD2] <;> assumption) | ((repeat (first | exact HSub.refl _ | assumption | refine HSub.push ?_ _ | refine HSub.reserve ?_ _ | refine HSub.put ?_ (by omega) _)); done) | fail) only [↓wpPre, wpPost, wpPoly, Int.reduceToNat, Int.reducePow, Int.reduceMul, Int.reduceAdd, Int.reduceSub, Int.reduceNeg, Nat.reduceAdd, Nat.reduceMul, Nat.reducePow, Int.reduceLT, Int.reduceLE, Int.reduceEq, Nat.reduceEqDiff, e0, e2, h2.len, pe]
    have c3' : (w.length : Int) = n := Decidable.not_not.1 c3
    simp -implicitDefEqProofs (disch := first | assumption | decide | omega | (simp -implicitDefEqProofs only [wpD1] <;> omega) | (refine not_in_one ?_; first | omega | (simp -implicitDefEqProofs only [wpD1] <;> omega) | fail) | (simp -implicitDefEqProofs only [wpD2] <;> assumption) | ((repeat (first | exact HSub.refl _ | assumption | refine HSub.push ?_ _ | refine HSub.reserve ?_ _ | refine HSub.put ?_ (by omega) _)); done) | fail) only [↓wpPre, wpPost, wpPoly, Int.reduceToNat, Int.reducePow, Int.reduceMul, Int.reduceAdd, Int.reduceSub, Int.reduceNeg, Nat.reduceAdd, Nat.reduceMul, Nat.reducePow, Int.reduceLT, Int.reduceLE, Int.reduceEq, Nat.reduceEqDiff, e0, e2, h2.len]
    refine wp_loopI (fun j u hx => hx = h' ∧ ∃ i : Nat, u 0 = .int .i64 n ∧ u 2 = v2 ∧ u 8 = .int .i64 (i : Nat) ∧ i ≤ w.length ∧ bit01 (w.take i) ∧ j = w.length - i) (j0 := w.length)
      ⟨rfl, 0, e0, e2, rfl, by omega, fun x hx => by simp at hx, rfl⟩ ?_
    rintro j u h3 ⟨hh, i, f0, f2, f8, hi, hbt, hj⟩
    subst hh
    simp -implicitDefEqProofs (disch := first | assumption | decide | omega | (simp -implicitDefEqProofs only [wpD1] <;> omega) | (refine not_in_one ?_; first | omega | (simp -implicitDefEqProofs only [wpD1] <;> omega) | fail) | (simp -implicitDefEqProofs only [wpD2] <;> assumption) | ((repeat (first | exact HSub.refl _ | assumption | refine HSub.push ?_ _ | refine HSub.reserve ?_ _ | refine HSub.put ?_ (by omega) _)); done) | fail) only [↓wpPre, wpPost, wpPoly, Int.reduceToNat, Int.reducePow, Int.reduceMul, Int.reduceAdd, Int.reduceSub, Int.reduceNeg, Nat.reduceAdd, Nat.reduceMul, Nat.reducePow, Int.reduceLT, Int.reduceLE, Int.reduceEq, Nat.reduceEqDiff, f0, f8]
    refine Br.by (fun c => ?_) (fun c => ?_)
    · have hi' : i < w.length := by omega
      by_cases cb : w.getD i 0 = 0 ∨ w.getD i 0 = 1
      · have hb1 : bit01 (w.take (i + 1)) := fun x hx => by
          rw [take_succ_getD hi'] at hx
          rcases List.mem_append.1 hx with hx | hx
          · exact hbt x hx
          · rw [List.mem_singleton.1 hx]; exact cb
        rcases cb with cb | cb
        · simp -implicitDefEqProofs (disch := first | assumption | decide | omega | (simp -implicitDefEqProofs only [wpD1] <;> omega) | (refine not_in_one ?_; first | omega | (simp -implicitDefEqProofs only [wpD1] <;> omega) | fail) | (simp -implicitDefEqProofs only [wpD2] <;> assumption) | ((repeat (first | exact HSub.refl _ | assumption | refine HSub.push ?_ _ | refine HSub.reserve ?_ _ | refine HSub.put ?_ (by omega) _)); done) | fail) only [↓wpPre, wpPost, wpPoly, Int.reduceToNat, Int.reducePow, Int.reduceMul, Int.reduceAdd, Int.reduceSub, Int.reduceNeg, Nat.reduceAdd, Nat.reduceMul, Nat.reducePow, Int.reduceLT, Int.reduceLE, Int.reduceEq, Nat.reduceEqDiff, f0, f2, f8, h2.idx, h2.load]
          exact ⟨_, ⟨i + 1, by simp, by omega, hb1, rfl⟩, by omega⟩
        · simp -implicitDefEqProofs (disch := first | assumption | decide | omega | (simp -implicitDefEqProofs only [wpD1] <;> omega) | (refine not_in_one ?_; first | omega | (simp -implicitDefEqProofs only [wpD1] <;> omega) | fail) | (simp -implicitDefEqProofs only [wpD2] <;> assumption) | ((repeat (first | exact HSub.refl _ | assumption | refine HSub.push ?_ _ | refine HSub.reserve ?_ _ | refine HSub.put ?_ (by omega) _)); done) | fail) only [↓wpPre, wpPost, wpPoly, Int.reduceToNat, Int.reducePow, Int.reduceMul, Int.reduceAdd, Int.reduceSub, Int.reduceNeg, Nat.reduceAdd, Nat.reduceMul, Nat.reducePow, Int.reduceLT, Int.reduceLE, Int.reduceEq, Nat.reduceEqDiff, f0, f2, f8, h2.idx, h2.load]
          exact ⟨_, ⟨i + 1, by simp, by omega, hb1, rfl⟩, by omega⟩
      · have hbad : ¬ RegGood n ts w := fun hg => by
          have := List.any_eq_false.1 hg.2.2 _ (getD_mem hi')
          simp only [Bool.not_eq_true, Bool.not_eq_false', Bool.or_eq_true, beq_iff_eq] at this
          exact cb this
        rw [if_neg hbad] at pe
        simp -implicitDefEqProofs (disch := first | assumption | decide | omega | (simp -implicitDefEqProofs only [wpD1] <;> omega) | (refine not_in_one ?_; first | omega | (simp -implicitDefEqProofs only [wpD1] <;> omega) | fail) | (simp -implicitDefEqProofs only [wpD2] <;> assumption) | ((repeat (first | exact HSub.refl _ | assumption | refine HSub.push ?_ _ | refine HSub.reserve ?_ _ | refine HSub.put ?_ (by omega) _)); done) | fail) only [↓wpPre, wpPost, wpPoly, Int.reduceToNat, Int.reducePow, Int.reduceMul, Int.reduceAdd, Int.reduceSub, Int.reduceNeg, Nat.reduceAdd, Nat.reduceMul, Nat.reducePow, Int.reduceLT, Int.reduceLE, Int.reduceEq, Nat.reduceEqDiff, f0, f2, f8, h2.idx, h2.load, pe]
    · have : i = w.length := by omega
      subst this
      rw [List.take_length] at hbt
      have hgood : RegGood n ts w := ⟨⟨by omega, c2', hok⟩, c3', List.any_eq_false.2 fun x hx => by
        simp only [Bool.not_eq_true, Bool.not_eq_false', Bool.or_eq_true, beq_iff_eq]; exact hbt x hx⟩
      rw [if_pos hgood] at pe
      simp -implicitDefEqProofs (disch := first | assumption | decide | omega | (simp -implicitDefEqProofs only [wpD1] <;> omega) | (refine not_in_one ?_; first | omega | (simp -implicitDefEqProofs only [wpD1] <;> omega) | fail) | (simp -implicitDefEqProofs only [wpD2] <;> assumption) | ((repeat (first | exact HSub.refl _ | assumption | refine HSub.push ?_ _ | refine HSub.reserve ?_ _ | refine HSub.put ?_ (by omega) _)); done) | fail) only [↓wpPre, wpPost, wpPoly, Int.reduceToNat, Int.reducePow, Int.reduceMul, Int.reduceAdd, Int.reduceSub, Int.reduceNeg, Nat.reduceAdd, Nat.reduceMul, Nat.reducePow, Int.reduceLT, Int.reduceLE, Int.reduceEq, Nat.reduceEqDiff, pe]
end
end Go.Ae

/- The reference's sequences and periods. -/
set_option linter.unusedSimpArgs false
set_option linter.unusedVariables false
namespace Go.Ae
theorem xor01 {a b : Int} (ha : a = 0 ∨ a = 1) (hb : b = 0 ∨ b = 1) : bitsA .xor .i64 a b = (a + b) % 2 := by
  rcases ha with rfl | rfl <;> rcases hb with rfl | rfl <;> decide
theorem runL_idx {n : Nat} {ts w : List Int} (R : RegOk n ts w) {i t : Nat} (ht : t < n) : (runL ts w (n + i)).getD (i + t) 0 = (winW ts w i).getD t 0 := by
  rw [runL_get (by omega), winW_get R.w1 t i (by rw [R.len]; exact ht)]
section
variable {C : Ctx}
set_option maxRecDepth 100000 in
set_option maxHeartbeats 1000000 in
theorem run08_spec (hC : Has C T91) {n : Nat} {m : Int} {v1 v2 : AV} {ts w : List Int} {h : Heap} (h1 : RI h v1 ts) (h2 : RI h v2 w) (R : RegOk n ts w) (hm : m ≤ 1000000) (hm2 : In64 m) :
    ACalls C 91 [.int .i64 (n : Nat), v1, v2, .int .i64 m] h (fun r h' => ∃ L : Nat, GrwI h h' r (runL ts w L) ∧ n ≤ L ∧ (m ≤ L) ∧ (L : Int) = max (n : Int) m) := by
  have hn2 := R.n2
  have hn16 := R.n16
  have hwl := R.len
  have l1 := h1.lt
  unfold In64 at hm2
  obtain ⟨i, o, q, cp, rfl⟩ : ∃ i o n cp, v2 = .slice i o n cp := by
    obtain ⟨_, _, ⟨rfl, h1⟩ | ⟨i, o, cp, vs, wr, u, rfl, _⟩⟩ := h2
    · omega
    · exact ⟨_, _, _, _, rfl⟩
  have hc' : contentA (h.push (.cells [] true 0)) 1 (.slice i o q cp) = some (w.length, ints w) := (h2.mono (HSub.push1 _ _)).content
  have rs := runL_start (ts := ts) R.w1
  rw [hwl] at rs
  (refine calls_intro (hC.body (by decide) tab91) (Nat.le_of_ble_eq_true rfl) ?_); (show wp C _ none B91.code _ _); (simp only [B91]); simp -implicitDefEqProofs (disch := first | assumption | decide | omega | (simp -implicitDefEqProofs only [wpD1] <;> omega) | (refine not_in_one ?_; first | omega | (simp -implicitDefEqProofs only [wpD1] <;> omega) | fail) | (simp -implicitDefEqProofs only [wpD2] <;> assumption) | ((repeat (first | exact HSub.refl _ | assumption | refine HSub.push ?_ _ | refine HSub.reserve ?_ _ | refine HSub.put ?_ (by omega) _)); done) | fail) only [↓wpPre, wpPost, wpPoly, Int.reduceToNat, Int.reducePow, Int.reduceMul, Int.reduceAdd, Int.reduceSub, Int.reduceNeg, Nat.reduceAdd, Nat.reduceMul, Nat.reducePow, Int.reduceLT, Int.reduceLE, Int.reduceEq, Nat.reduceEqDiff, hc']
  refine wp_loopI (fun j t h' => ∃ i : Nat, GrwI h h' (t 9) (runL ts w (n + i)) ∧ t 1 = v1 ∧ t 3 = .int .i64 m ∧ t 10 = .int .i64 (i : Nat) ∧ (i = 0 ∨ n + i ≤ m) ∧ j = (m - (n + i)).toNat) (j0 := (m - n).toNat)
    ⟨0, ?_, rfl, rfl, rfl, by omega, by omega⟩ ?_
  · show GrwI h _ (.slice (h.size + 1) 0 w.length (.unk 0)) (runL ts w n)
    rw [rs]
    exact Grw.fresh ((HSub.push1 _ _).push _) (by omega) (by omega) (get_push_eq rfl)
  rintro j t h' ⟨i, A, e1, e3, e10, hi, hj⟩
  have rl := runL_length ts w (n + i)
  have RA := A.ri
  simp -implicitDefEqProofs (disch := first | assumption | decide | omega | (simp -implicitDefEqProofs only [wpD1] <;> omega) | (refine not_in_one ?_; first | omega | (simp -implicitDefEqProofs only [wpD1] <;> omega) | fail) | (simp -implicitDefEqProofs only [wpD2] <;> assumption) | ((repeat (first | exact HSub.refl _ | assumption | refine HSub.push ?_ _ | refine HSub.reserve ?_ _ | refine HSub.put ?_ (by omega) _)); done) | fail) only [↓wpPre, wpPost, wpPoly, Int.reduceToNat, Int.reducePow, Int.reduceMul, Int.reduceAdd, Int.reduceSub, Int.reduceNeg, Nat.reduceAdd, Nat.reduceMul, Nat.reducePow, Int.reduceLT, Int.reduceLE, Int.reduceEq, Nat.reduceEqDiff, e3, RA.len, rl]
  refine Br.by (fun c => ?_) (fun c => ?_)
  · simp -implicitDefEqProofs (disch := first | assumption | decide | omega | (simp -implicitDefEqProofs only [wpD1] <;> omega) | (refine not_in_one ?_; first | omega | (simp -implicitDefEqProofs only [wpD1] <;> omega) | fail) | (simp -implicitDefEqProofs only [wpD2] <;> assumption) | ((repeat (first | exact HSub.refl _ | assumption | refine HSub.push ?_ _ | refine HSub.reserve ?_ _ | refine HSub.put ?_ (by omega) _)); done) | fail) only [↓wpPre, wpPost, wpPoly, Int.reduceToNat, Int.reducePow, Int.reduceMul, Int.reduceAdd, Int.reduceSub, Int.reduceNeg, Nat.reduceAdd, Nat.reduceMul, Nat.reducePow, Int.reduceLT, Int.reduceLE, Int.reduceEq, Nat.reduceEqDiff]
    have h1' := h1.mono A.sub
    refine wp_loopI (fun j u hx => hx = h' ∧ ∃ k : Nat, u 9 = t 9 ∧ u 1 = v1 ∧ u 3 = .int .i64 m ∧ u 10 = .int .i64 (i : Nat) ∧ u 11 = .int .i64 (xorT (ts.take k) (winW ts w i)) ∧ u 12 = .int .i64 (k : Nat) ∧ k ≤ ts.length ∧ j = ts.length - k) (j0 := ts.length)
      ⟨rfl, 0, rfl, e1, e3, e10, rfl, rfl, by omega, rfl⟩ ?_
    rintro j u hx ⟨hh, k, f9, f1, f3, f10, f11, f12, hk, hj⟩
    subst hh
    simp -implicitDefEqProofs (disch := first | assumption | decide | omega | (simp -implicitDefEqProofs only [wpD1] <;> omega) | (refine not_in_one ?_; first | omega | (simp -implicitDefEqProofs only [wpD1] <;> omega) | fail) | (simp -implicitDefEqProofs only [wpD2] <;> assumption) | ((repeat (first | exact HSub.refl _ | assumption | refine HSub.push ?_ _ | refine HSub.reserve ?_ _ | refine HSub.put ?_ (by omega) _)); done) | fail) only [↓wpPre, wpPost, wpPoly, Int.reduceToNat, Int.reducePow, Int.reduceMul, Int.reduceAdd, Int.reduceSub, Int.reduceNeg, Nat.reduceAdd, Nat.reduceMul, Nat.reducePow, Int.reduceLT, Int.reduceLE, Int.reduceEq, Nat.reduceEqDiff, f1, f12, h1'.len]
    refine Br.by (fun c2 => ?_) (fun c2 => ?_)
    · have hk' : k < ts.length := by omega
      have t0 := tap_nonneg R.taps hk'
      have t1 := (R.taps k hk').2
      have ei : ((i : Int) + ts.getD k 0).toNat = i + (ts.getD k 0).toNat := by omega
      have eg := runL_idx R (i := i) (t := (ts.getD k 0).toNat) (by omega)
      have x1 := xorT_01 (ts.take k) (winW ts w i)
      have x2 := (winW_01 (ts := ts) R.bits i).get (ts.getD k 0).toNat
      have ex := xor01 x1 x2
      have es : xorT (ts.take (k + 1)) (winW ts w i) = (xorT (ts.take k) (winW ts w i) + (winW ts w i).getD (ts.getD k 0).toNat 0) % 2 := by rw [take_succ_getD hk', xorT_snoc]
      rw [← es] at ex
      simp -implicitDefEqProofs (disch := first | assumption | decide | omega | (simp -implicitDefEqProofs only [wpD1] <;> omega) | (refine not_in_one ?_; first | omega | (simp -implicitDefEqProofs only [wpD1] <;> omega) | fail) | (simp -implicitDefEqProofs only [wpD2] <;> assumption) | ((repeat (first | exact HSub.refl _ | assumption | refine HSub.push ?_ _ | refine HSub.reserve ?_ _ | refine HSub.put ?_ (by omega) _)); done) | fail) only [↓wpPre, wpPost, wpPoly, Int.reduceToNat, Int.reducePow, Int.reduceMul, Int.reduceAdd, Int.reduceSub, Int.reduceNeg, Nat.reduceAdd, Nat.reduceMul, Nat.reducePow, Int.reduceLT, Int.reduceLE, Int.reduceEq, Nat.reduceEqDiff, f1, f3, f9, f10, f11, f12, h1'.idx, h1'.load, RA.idx, RA.load, ei, eg, ex]
      exact ⟨_, ⟨k + 1, rfl, by simp, by omega, rfl⟩, by omega⟩
    · have : k = ts.length := by omega
      subst this
      rw [List.take_length] at f11
      have ex : xorT ts (winW ts w i) = seqB ts w (n + i) := by
        have := seqB_next (ts := ts) R.w1 i
        rw [hwl] at this
        rw [← this, Nat.add_comm]
      have A2 := A.snoc (x := seqB ts w (n + i)) (HSub.push1 hx (.cells [.int .i64 (seqB ts w (n + i))] true 0)) (by omega)
      rw [← runL_succ, rl] at A2
      have ers := runL_succ ts w (n + i)
      rw [ex] at f11
      simp -implicitDefEqProofs (disch := first | assumption | decide | omega | (simp -implicitDefEqProofs only [wpD1] <;> omega) | (refine not_in_one ?_; first | omega | (simp -implicitDefEqProofs only [wpD1] <;> omega) | fail) | (simp -implicitDefEqProofs only [wpD2] <;> assumption) | ((repeat (first | exact HSub.refl _ | assumption | refine HSub.push ?_ _ | refine HSub.reserve ?_ _ | refine HSub.put ?_ (by omega) _)); done) | fail) only [↓wpPre, wpPost, wpPoly, Int.reduceToNat, Int.reducePow, Int.reduceMul, Int.reduceAdd, Int.reduceSub, Int.reduceNeg, Nat.reduceAdd, Nat.reduceMul, Nat.reducePow, Int.reduceLT, Int.reduceLE, Int.reduceEq, Nat.reduceEqDiff, f1, f3, f9, f10, f11, cont_slice, contB_one, A.app, rl, ← ers]
      exact ⟨_, ⟨i + 1, A2, by simp, by omega, rfl⟩, by omega⟩
  · simp -implicitDefEqProofs (disch := first | assumption | decide | omega | (simp -implicitDefEqProofs only [wpD1] <;> omega) | (refine not_in_one ?_; first | omega | (simp -implicitDefEqProofs only [wpD1] <;> omega) | fail) | (simp -implicitDefEqProofs only [wpD2] <;> assumption) | ((repeat (first | exact HSub.refl _ | assumption | refine HSub.push ?_ _ | refine HSub.reserve ?_ _ | refine HSub.put ?_ (by omega) _)); done) | fail) only [↓wpPre, wpPost, wpPoly, Int.reduceToNat, Int.reducePow, Int.reduceMul, Int.reduceAdd, Int.reduceSub, Int.reduceNeg, Nat.reduceAdd, Nat.reduceMul, Nat.reducePow, Int.reduceLT, Int.reduceLE, Int.reduceEq, Nat.reduceEqDiff]
    exact ⟨n + i, A, by omega, by omega, by omega⟩

theorem Run08_spec (hC : Has C T82) {n m : Int} {v1 v2 : AV} {ts w : List Int} {h : Heap} (h1 : RI h v1 ts) (h2 : RI h v2 w) (hm : In64 m) :
    ACalls C 82 [.int .i64 n, v1, v2, .int .i64 m] h (fun r h' => ∃ v', r = lstErr v' (runErr n ts w m) ∧ HSub h h' ∧ RI h' v' (if runErr n ts w m = 0 then runL ts w m.toNat else [])) := by
  have pe : runErr n ts w m = if regErr n ts w = 0 then (if m < 0 ∨ 100000 < m then 4 else 0) else regErr n ts w := rfl
  have hm' := hm
  unfold In64 at hm'
  by_cases c : regErr n ts w = 0
  · rw [if_pos c] at pe
    obtain ⟨k, rfl, R⟩ := regErr_ok c
    (refine calls_intro (hC.body (by decide) tab82) (Nat.le_of_ble_eq_true rfl) ?_); (show wp C _ none B82.code _ _); (simp only [B82]); simp -implicitDefEqProofs (disch := first | assumption | decide | omega | (simp -implicitDefEqProofs only [wpD1] <;> omega) | (refine not_in_one ?_; first | omega | (simp -implicitDefEqProofs only [wpD1] <;> omega) | fail) | (simp -implicitDefEqProofs only [wpD2] <;> assumption) | ((repeat (first | exact HSub.refl _ | assumption | refine HSub.push ?_ _ | refine HSub.reserve ?_ _ | refine HSub.put ?_ (by omega) _)); done) | fail) only [↓wpPre, wpPost, wpPoly, Int.reduceToNat, Int.reducePow, Int.reduceMul, Int.reduceAdd, Int.reduceSub, Int.reduceNeg, Nat.reduceAdd, Nat.reduceMul, Nat.reducePow, Int.reduceLT, Int.reduceLE, Int.reduceEq, Nat.reduceEqDiff]
    refine ACallsK.eq2 (check08_spec (hC.sub (T' := T94) (by decide)) h1 h2) (by rw [c]) ?_
    by_cases c2 : m < 0 ∨ 100000 < m
    · rw [if_pos c2] at pe
      simp -implicitDefEqProofs (disch := first | assumption | decide | omega | (simp -implicitDefEqProofs only [wpD1] <;> omega) | (refine not_in_one ?_; first | omega | (simp -implicitDefEqProofs only [wpD1] <;> omega) | fail) | (simp -implicitDefEqProofs only [wpD2] <;> assumption) | ((repeat (first | exact HSub.refl _ | assumption | refine HSub.push ?_ _ | refine HSub.reserve ?_ _ | refine HSub.put ?_ (by omega) _)); done) | fail) only [↓wpPre, wpPost, wpPoly, Int.reduceToNat, Int.reducePow, Int.reduceMul, Int.reduceAdd, Int.reduceSub, Int.reduceNeg, Nat.reduceAdd, Nat.reduceMul, Nat.reducePow, Int.reduceLT, Int.reduceLE, Int.reduceEq, Nat.reduceEqDiff]
      (repeat' (first | (refine Br.by (fun _ => ?_) (fun _ => ?_)) | (simp -implicitDefEqProofs (disch := first | assumption | decide | omega | (simp -implicitDefEqProofs only [wpD1] <;> omega) | (refine not_in_one ?_; first | omega | (simp -implicitDefEqProofs only [wpD1] <;> omega) | fail) | (simp -implicitDefEqProofs only [wpD2] <;> assumption) | ((repeat (first | exact HSub.refl _ | assumption | refine HSub.push ?_ _ | refine HSub.reserve ?_ _ | refine HSub.put ?_ (by omega) _)); done) | fail) only [↓wpPre, wpPost, wpPoly, Int.reduceToNat, Int.reducePow, Int.reduceMul, Int.reduceAdd, Int.reduceSub, Int.reduceNeg, Nat.reduceAdd, Nat.reduceMul, Nat.reducePow, Int.reduceLT, Int.reduceLE, Int.reduceEq, Nat.reduceEqDiff])))
      all_goals first | exact ⟨.nilslice, by rw [pe, lstErr], HSub.refl _, by rw [if_neg (by rw [pe]; decide)]; exact RI.nil⟩ | omega
    · rw [if_neg c2] at pe
      obtain ⟨q, rfl⟩ := Int.eq_ofNat_of_zero_le (show 0 ≤ m by omega)
      simp -implicitDefEqProofs (disch := first | assumption | decide | omega | (simp -implicitDefEqProofs only [wpD1] <;> omega) | (refine not_in_one ?_; first | omega | (simp -implicitDefEqProofs only [wpD1] <;> omega) | fail) | (simp -implicitDefEqProofs only [wpD2] <;> assumption) | ((repeat (first | exact HSub.refl _ | assumption | refine HSub.push ?_ _ | refine HSub.reserve ?_ _ | refine HSub.put ?_ (by omega) _)); done) | fail) only [↓wpPre, wpPost, wpPoly, Int.reduceToNat, Int.reducePow, Int.reduceMul, Int.reduceAdd, Int.reduceSub, Int.reduceNeg, Nat.reduceAdd, Nat.reduceMul, Nat.reducePow, Int.reduceLT, Int.reduceLE, Int.reduceEq, Nat.reduceEqDiff]
      refine ACallsK.of (run08_spec (hC.sub (T' := T91) (by decide)) h1 h2 R (by omega) hm) ?_
      rintro r h' ⟨L, A, hL1, hL2, hL3⟩
      have RA := A.ri
      have rl := runL_length ts w L
      have Pa := RA.part_b (k2 := .i64) (b := ((q : Nat) : Int)) (by omega)
      obtain ⟨wa, ea, Rwa⟩ := Pa
      simp -implicitDefEqProofs (disch := first | assumption | decide | omega | (simp -implicitDefEqProofs only [wpD1] <;> omega) | (refine not_in_one ?_; first | omega | (simp -implicitDefEqProofs only [wpD1] <;> omega) | fail) | (simp -implicitDefEqProofs only [wpD2] <;> assumption) | ((repeat (first | exact HSub.refl _ | assumption | refine HSub.push ?_ _ | refine HSub.reserve ?_ _ | refine HSub.put ?_ (by omega) _)); done) | fail) only [↓wpPre, wpPost, wpPoly, Int.reduceToNat, Int.reducePow, Int.reduceMul, Int.reduceAdd, Int.reduceSub, Int.reduceNeg, Nat.reduceAdd, Nat.reduceMul, Nat.reducePow, Int.reduceLT, Int.reduceLE, Int.reduceEq, Nat.reduceEqDiff, ea]
      refine ⟨wa, by rw [pe, lstErr], A.sub, ?_⟩
      rw [if_pos pe]
      rw [runL_take (by omega)] at Rwa
      simpa using Rwa
  · rw [if_neg c] at pe
    (refine calls_intro (hC.body (by decide) tab82) (Nat.le_of_ble_eq_true rfl) ?_); (show wp C _ none B82.code _ _); (simp only [B82]); simp -implicitDefEqProofs (disch := first | assumption | decide | omega | (simp -implicitDefEqProofs only [wpD1] <;> omega) | (refine not_in_one ?_; first | omega | (simp -implicitDefEqProofs only [wpD1] <;> omega) | fail) | (simp -implicitDefEqProofs only [wpD2] <;> assumption) | ((repeat (first | exact HSub.refl _ | assumption | refine HSub.push ?_ _ | refine HSub.reserve ?_ _ | refine HSub.put ?_ (by omega) _)); done) | fail) only [↓wpPre, wpPost, wpPoly, Int.reduceToNat, Int.reducePow, Int.reduceMul, Int.reduceAdd, Int.reduceSub, Int.reduceNeg, Nat.reduceAdd, Nat.reduceMul, Nat.reducePow, Int.reduceLT, Int.reduceLE, Int.reduceEq, Nat.reduceEqDiff]
    refine ACallsK.eq (check08_spec (hC.sub (T' := T94) (by decide)) h1 h2) ?_
    simp -implicitDefEqProofs (disch := first | assumption | decide | omega | (simp -implicitDefEqProofs only [wpD1] <;> omega) | (refine not_in_one ?_; first | omega | (simp -implicitDefEqProofs only [wpD1] <;> omega) | fail) | (simp -implicitDefEqProofs only [wpD2] <;> assumption) | ((repeat (first | exact HSub.refl _ | assumption | refine HSub.push ?_ _ | refine HSub.reserve ?_ _ | refine HSub.put ?_ (by omega) _)); done) | fail) only [↓wpPre, wpPost, wpPoly, Int.reduceToNat, Int.reducePow, Int.reduceMul, Int.reduceAdd, Int.reduceSub, Int.reduceNeg, Nat.reduceAdd, Nat.reduceMul, Nat.reducePow, Int.reduceLT, Int.reduceLE, Int.reduceEq, Nat.reduceEqDiff]
    exact ⟨.nilslice, by rw [pe, lstErr], HSub.refl _, by rw [if_neg (by rw [pe]; exact c)]; exact RI.nil⟩
end
end Go.Ae

/- The reference's periods; the statement on registers of layer 8. -/
set_option linter.unusedSimpArgs false
set_option linter.unusedVariables false
namespace Go.Ae
theorem all_take {l m : List Int} {k q : Nat} : ((List.range (q + 1)).all fun i => l.getD (k + i) 0 == m.getD i 0) = (((List.range q).all fun i => l.getD (k + i) 0 == m.getD i 0) && (l.getD (k + q) 0 == m.getD q 0)) := by
  rw [List.range_succ, List.all_append]; simp
section
variable {C : Ctx}
set_option maxRecDepth 100000 in
set_option maxHeartbeats 1000000 in
theorem Period08_spec (hC : Has C T84) {n : Int} {v1 v2 : AV} {ts w : List Int} {K : Nat} {h : Heap} (h1 : RI h v1 ts) (h2 : RI h v2 w) (hK : regErr n ts w = 0 → IsPeriod ts w K ∧ (K : Int) ≤ 2 ^ n.toNat) (hK2 : K ≤ 65536) :
    ACalls C 84 [.int .i64 n, v1, v2] h (fun r h' => r = (if regErr n ts w = 0 then tup2 K 0 else tup2 0 (regErr n ts w)) ∧ HSub h h') := by
  by_cases c : regErr n ts w = 0
  · obtain ⟨k0, rfl, R⟩ := regErr_ok c
    obtain ⟨hP, hPK⟩ := hK c
    rw [if_pos c]
    rw [Int.toNat_natCast, cast_pow] at hPK
    have hn2 := R.n2
    have hn16 := R.n16
    have hwl := R.len
    have hpw := pow_le16 hn16
    have ec := cast_pow k0
    obtain ⟨P, hPp⟩ : ∃ P, P = 2 ^ k0 := ⟨_, rfl⟩
    rw [← hPp] at hpw ec hPK
    (refine calls_intro (hC.body (by decide) tab84) (Nat.le_of_ble_eq_true rfl) ?_); (show wp C _ none B84.code _ _); (simp only [B84]); simp -implicitDefEqProofs (disch := first | assumption | decide | omega | (simp -implicitDefEqProofs only [wpD1] <;> omega) | (refine not_in_one ?_; first | omega | (simp -implicitDefEqProofs only [wpD1] <;> omega) | fail) | (simp -implicitDefEqProofs only [wpD2] <;> assumption) | ((repeat (first | exact HSub.refl _ | assumption | refine HSub.push ?_ _ | refine HSub.reserve ?_ _ | refine HSub.put ?_ (by omega) _)); done) | fail) only [↓wpPre, wpPost, wpPoly, Int.reduceToNat, Int.reducePow, Int.reduceMul, Int.reduceAdd, Int.reduceSub, Int.reduceNeg, Nat.reduceAdd, Nat.reduceMul, Nat.reducePow, Int.reduceLT, Int.reduceLE, Int.reduceEq, Nat.reduceEqDiff]
    refine ACallsK.eq2 (check08_spec (hC.sub (T' := T94) (by decide)) h1 h2) (by rw [c]) ?_
    simp -implicitDefEqProofs (disch := first | assumption | decide | omega | (simp -implicitDefEqProofs only [wpD1] <;> omega) | (refine not_in_one ?_; first | omega | (simp -implicitDefEqProofs only [wpD1] <;> omega) | fail) | (simp -implicitDefEqProofs only [wpD2] <;> assumption) | ((repeat (first | exact HSub.refl _ | assumption | refine HSub.push ?_ _ | refine HSub.reserve ?_ _ | refine HSub.put ?_ (by omega) _)); done) | fail) only [↓wpPre, wpPost, wpPoly, Int.reduceToNat, Int.reducePow, Int.reduceMul, Int.reduceAdd, Int.reduceSub, Int.reduceNeg, Nat.reduceAdd, Nat.reduceMul, Nat.reducePow, Int.reduceLT, Int.reduceLE, Int.reduceEq, Nat.reduceEqDiff, Int.one_mul, ec]
    refine ACallsK.of (run08_spec (hC.sub (T' := T91) (by decide)) (m := (P : Int) + k0) h1 h2 R (by omega) (by unfold In64; omega)) ?_
    rintro r h' ⟨L, A, hL1, hL2, hL3⟩
    have RA := A.ri
    have rl := runL_length ts w L
    have h2' := h2.mono A.sub
    have hsame : ∀ k, k + k0 ≤ L → ((List.range k0).all fun i => (runL ts w L).getD (k + i) 0 == w.getD i 0) = decide (winW ts w k = w) := by
      intro k hk
      rw [Bool.eq_iff_iff]
      simp only [List.all_eq_true, List.mem_range, beq_iff_eq, decide_eq_true_eq]
      have hg : ∀ i, i < k0 → (runL ts w L).getD (k + i) 0 = (winW ts w k).getD i 0 := fun i hi => by
        rw [runL_get (by omega), winW_get R.w1 i k (by omega)]
      constructor
      · intro h
        refine seq_ext (by rw [winW_length R.w1]) fun i hi => ?_
        rw [winW_length R.w1, hwl] at hi
        rw [← hg i hi, h i hi]
      · intro h i hi
        rw [hg i hi, h]
    simp -implicitDefEqProofs (disch := first | assumption | decide | omega | (simp -implicitDefEqProofs only [wpD1] <;> omega) | (refine not_in_one ?_; first | omega | (simp -implicitDefEqProofs only [wpD1] <;> omega) | fail) | (simp -implicitDefEqProofs only [wpD2] <;> assumption) | ((repeat (first | exact HSub.refl _ | assumption | refine HSub.push ?_ _ | refine HSub.reserve ?_ _ | refine HSub.put ?_ (by omega) _)); done) | fail) only [↓wpPre, wpPost, wpPoly, Int.reduceToNat, Int.reducePow, Int.reduceMul, Int.reduceAdd, Int.reduceSub, Int.reduceNeg, Nat.reduceAdd, Nat.reduceMul, Nat.reducePow, Int.reduceLT, Int.reduceLE, Int.reduceEq, Nat.reduceEqDiff]
    refine wp_loopI (fun j t hx => hx = h' ∧ ∃ k : Nat, t 0 = .int .i64 (k0 : Nat) ∧ t 2 = v2 ∧ t 9 = r ∧ t 10 = .int .i64 (k : Nat) ∧ 1 ≤ k ∧ k ≤ K ∧ (∀ q, 1 ≤ q → q < k → winW ts w q ≠ w) ∧ j = K - k) (j0 := K - 1)
      ⟨rfl, 1, rfl, rfl, rfl, rfl, by omega, hP.1, fun q h1 h2 => by omega, rfl⟩ ?_
    rintro j t hx ⟨hh, k, e0, e2, e9, e10, hk1, hk2, hne, hj⟩
    subst hh
    simp -implicitDefEqProofs (disch := first | assumption | decide | omega | (simp -implicitDefEqProofs only [wpD1] <;> omega) | (refine not_in_one ?_; first | omega | (simp -implicitDefEqProofs only [wpD1] <;> omega) | fail) | (simp -implicitDefEqProofs only [wpD2] <;> assumption) | ((repeat (first | exact HSub.refl _ | assumption | refine HSub.push ?_ _ | refine HSub.reserve ?_ _ | refine HSub.put ?_ (by omega) _)); done) | fail) only [↓wpPre, wpPost, wpPoly, Int.reduceToNat, Int.reducePow, Int.reduceMul, Int.reduceAdd, Int.reduceSub, Int.reduceNeg, Nat.reduceAdd, Nat.reduceMul, Nat.reducePow, Int.reduceLT, Int.reduceLE, Int.reduceEq, Nat.reduceEqDiff]
    refine wp_loopI (fun j u hy => hy = hx ∧ ∃ q : Nat, u 0 = .int .i64 (k0 : Nat) ∧ u 2 = v2 ∧ u 9 = r ∧ u 10 = .int .i64 (k : Nat) ∧ u 11 = .bool ((List.range q).all fun i => (runL ts w L).getD (k + i) 0 == w.getD i 0) ∧ u 12 = .int .i64 (q : Nat) ∧ q ≤ k0 ∧ j = k0 - q) (j0 := k0)
      ⟨rfl, 0, e0, e2, e9, e10, rfl, rfl, by omega, rfl⟩ ?_
    rintro j u hy ⟨hh, q, f0, f2, f9, f10, f11, f12, hq, hj⟩
    subst hh
    simp -implicitDefEqProofs (disch := first | assumption | decide | omega | (simp -implicitDefEqProofs only [wpD1] <;> omega) | (refine not_in_one ?_; first | omega | (simp -implicitDefEqProofs only [wpD1] <;> omega) | fail) | (simp -implicitDefEqProofs only [wpD2] <;> assumption) | ((repeat (first | exact HSub.refl _ | assumption | refine HSub.push ?_ _ | refine HSub.reserve ?_ _ | refine HSub.put ?_ (by omega) _)); done) | fail) only [↓wpPre, wpPost, wpPoly, Int.reduceToNat, Int.reducePow, Int.reduceMul, Int.reduceAdd, Int.reduceSub, Int.reduceNeg, Nat.reduceAdd, Nat.reduceMul, Nat.reducePow, Int.reduceLT, Int.reduceLE, Int.reduceEq, Nat.reduceEqDiff, f0, f12]
    refine Br.by (fun c2 => ?_) (fun c2 => ?_)
    · have hq' : q < k0 := by omega
      have ei : ((k : Int) + q).toNat = k + q := by omega
      have ea := all_take (l := runL ts w L) (m := w) (k := k) (q := q)
      by_cases cb : ((List.range q).all fun i => (runL ts w L).getD (k + i) 0 == w.getD i 0) = true
      · rw [cb] at f11 ea
        rw [Bool.true_and] at ea
        simp -implicitDefEqProofs (disch := first | assumption | decide | omega | (simp -implicitDefEqProofs only [wpD1] <;> omega) | (refine not_in_one ?_; first | omega | (simp -implicitDefEqProofs only [wpD1] <;> omega) | fail) | (simp -implicitDefEqProofs only [wpD2] <;> assumption) | ((repeat (first | exact HSub.refl _ | assumption | refine HSub.push ?_ _ | refine HSub.reserve ?_ _ | refine HSub.put ?_ (by omega) _)); done) | fail) only [↓wpPre, wpPost, wpPoly, Int.reduceToNat, Int.reducePow, Int.reduceMul, Int.reduceAdd, Int.reduceSub, Int.reduceNeg, Nat.reduceAdd, Nat.reduceMul, Nat.reducePow, Int.reduceLT, Int.reduceLE, Int.reduceEq, Nat.reduceEqDiff, f0, f2, f9, f10, f11, f12, RA.idx, RA.load, h2'.idx, h2'.load, ei]
        refine ⟨_, ⟨q + 1, ?_, by simp, by omega, rfl⟩, by omega⟩
        rw [ea, Bool.beq_eq_decide_eq]
      · have cb' : ((List.range q).all fun i => (runL ts w L).getD (k + i) 0 == w.getD i 0) = false := Bool.eq_false_iff.2 cb
        rw [cb'] at f11 ea
        rw [Bool.false_and] at ea
        simp -implicitDefEqProofs (disch := first | assumption | decide | omega | (simp -implicitDefEqProofs only [wpD1] <;> omega) | (refine not_in_one ?_; first | omega | (simp -implicitDefEqProofs only [wpD1] <;> omega) | fail) | (simp -implicitDefEqProofs only [wpD2] <;> assumption) | ((repeat (first | exact HSub.refl _ | assumption | refine HSub.push ?_ _ | refine HSub.reserve ?_ _ | refine HSub.put ?_ (by omega) _)); done) | fail) only [↓wpPre, wpPost, wpPoly, Int.reduceToNat, Int.reducePow, Int.reduceMul, Int.reduceAdd, Int.reduceSub, Int.reduceNeg, Nat.reduceAdd, Nat.reduceMul, Nat.reducePow, Int.reduceLT, Int.reduceLE, Int.reduceEq, Nat.reduceEqDiff, f0, f2, f9, f10, f11, f12]
        exact ⟨_, ⟨q + 1, by rw [ea], by simp, by omega, rfl⟩, by omega⟩
    · have : q = k0 := by omega
      subst this
      rw [hsame k (by omega)] at f11
      simp -implicitDefEqProofs (disch := first | assumption | decide | omega | (simp -implicitDefEqProofs only [wpD1] <;> omega) | (refine not_in_one ?_; first | omega | (simp -implicitDefEqProofs only [wpD1] <;> omega) | fail) | (simp -implicitDefEqProofs only [wpD2] <;> assumption) | ((repeat (first | exact HSub.refl _ | assumption | refine HSub.push ?_ _ | refine HSub.reserve ?_ _ | refine HSub.put ?_ (by omega) _)); done) | fail) only [↓wpPre, wpPost, wpPoly, Int.reduceToNat, Int.reducePow, Int.reduceMul, Int.reduceAdd, Int.reduceSub, Int.reduceNeg, Nat.reduceAdd, Nat.reduceMul, Nat.reducePow, Int.reduceLT, Int.reduceLE, Int.reduceEq, Nat.reduceEqDiff, f11]
      refine Br.by (fun c3 => ?_) (fun c3 => ?_)
      · have : k = K := by
          rcases Nat.lt_or_ge k K with x | x
          · exact absurd c3 (hP.2.2 k hk1 x)
          · omega
        subst this
        simp -implicitDefEqProofs (disch := first | assumption | decide | omega | (simp -implicitDefEqProofs only [wpD1] <;> omega) | (refine not_in_one ?_; first | omega | (simp -implicitDefEqProofs only [wpD1] <;> omega) | fail) | (simp -implicitDefEqProofs only [wpD2] <;> assumption) | ((repeat (first | exact HSub.refl _ | assumption | refine HSub.push ?_ _ | refine HSub.reserve ?_ _ | refine HSub.put ?_ (by omega) _)); done) | fail) only [↓wpPre, wpPost, wpPoly, Int.reduceToNat, Int.reducePow, Int.reduceMul, Int.reduceAdd, Int.reduceSub, Int.reduceNeg, Nat.reduceAdd, Nat.reduceMul, Nat.reducePow, Int.reduceLT, Int.reduceLE, Int.reduceEq, Nat.reduceEqDiff, f10]
        exact ⟨rfl, A.sub⟩
      · have hlt : k < K := by
          rcases Nat.lt_or_ge k K with x | x
          · exact x
          · have : k = K := by omega
            rw [this] at c3; exact absurd hP.2.1 c3
        simp -implicitDefEqProofs (disch := first | assumption | decide | omega | (simp -implicitDefEqProofs only [wpD1] <;> omega) | (refine not_in_one ?_; first | omega | (simp -implicitDefEqProofs only [wpD1] <;> omega) | fail) | (simp -implicitDefEqProofs only [wpD2] <;> assumption) | ((repeat (first | exact HSub.refl _ | assumption | refine HSub.push ?_ _ | refine HSub.reserve ?_ _ | refine HSub.put ?_ (by omega) _)); done) | fail) only [↓wpPre, wpPost, wpPoly, Int.reduceToNat, Int.reducePow, Int.reduceMul, Int.reduceAdd, Int.reduceSub, Int.reduceNeg, Nat.reduceAdd, Nat.reduceMul, Nat.reducePow, Int.reduceLT, Int.reduceLE, Int.reduceEq, Nat.reduceEqDiff, f0, f2, f9, f10]
        exact ⟨_, ⟨k + 1, by simp, by omega, by omega, fun q h1 h2 => by
          by_cases e : q = k
          · subst e; exact c3
          · exact hne q h1 (by omega), rfl⟩, by omega⟩
  · rw [if_neg c]
    (refine calls_intro (hC.body (by decide) tab84) (Nat.le_of_ble_eq_true rfl) ?_); (show wp C _ none B84.code _ _); (simp only [B84]); simp -implicitDefEqProofs (disch := first | assumption | decide | omega | (simp -implicitDefEqProofs only [wpD1] <;> omega) | (refine not_in_one ?_; first | omega | (simp -implicitDefEqProofs only [wpD1] <;> omega) | fail) | (simp -implicitDefEqProofs only [wpD2] <;> assumption) | ((repeat (first | exact HSub.refl _ | assumption | refine HSub.push ?_ _ | refine HSub.reserve ?_ _ | refine HSub.put ?_ (by omega) _)); done) | fail) only [↓wpPre, wpPost, wpPoly, Int.reduceToNat, Int.reducePow, Int.reduceMul, Int.reduceAdd, Int.reduceSub, Int.reduceNeg, Nat.reduceAdd, Nat.reduceMul, Nat.reducePow, Int.reduceLT, Int.reduceLE, Int.reduceEq, Nat.reduceEqDiff]
    refine ACallsK.eq (check08_spec (hC.sub (T' := T94) (by decide)) h1 h2) ?_
    simp -implicitDefEqProofs (disch := first | assumption | decide | omega | (simp -implicitDefEqProofs only [wpD1] <;> omega) | (refine not_in_one ?_; first | omega | (simp -implicitDefEqProofs only [wpD1] <;> omega) | fail) | (simp -implicitDefEqProofs only [wpD2] <;> assumption) | ((repeat (first | exact HSub.refl _ | assumption | refine HSub.push ?_ _ | refine HSub.reserve ?_ _ | refine HSub.put ?_ (by omega) _)); done) | fail) only [↓wpPre, wpPost, wpPoly, Int.reduceToNat, Int.reducePow, Int.reduceMul, Int.reduceAdd, Int.reduceSub, Int.reduceNeg, Nat.reduceAdd, Nat.reduceMul, Nat.reducePow, Int.reduceLT, Int.reduceLE, Int.reduceEq, Nat.reduceEqDiff]
    exact ⟨rfl, HSub.refl _⟩

end
end Go.Ae

/- The examples of layer 8, run. -/
set_option linter.unusedSimpArgs false
set_option linter.unusedVariables false
namespace Go.Ae
section
variable {C : Ctx}
theorem awake08_run : runsTo (tabIn T80) 1000 60 80 [] = true := by kernel_rfl
theorem awake08_spec (hC : Has C T80) {h : Heap} : ACalls C 80 [] h (fun r h' => r = .bool true ∧ h' = h) :=
  runsTo_sound (tabIn_ok hC) (by simp) awake08_run h

end
end Go.Ae

/- The statement on registers of layer 8. -/
set_option linter.unusedSimpArgs false
set_option linter.unusedVariables false
namespace Go.Ae
section
variable {C : Ctx}
set_option maxRecDepth 100000 in
set_option maxHeartbeats 1000000 in
theorem GoldRegisters_law (hC : Has C T63) {n m : Int} {v1 v2 : AV} {ts w : List Int} {h : Heap} (hn : In64 n) (h1 : RI h v1 ts) (h2 : RI h v2 w) (hm : In64 m) (_hx : ∀ x ∈ ts, In64 x) (_hy : ∀ x ∈ w, In64 x) : ACalls C 63 [.int .i64 n, v1, v2, .int .i64 m] h (fun r _ => r = .bool true) := by
  have l1 := h1.lt
  have l2 := h2.lt
  have hex : ∃ K : Nat, (regErr n ts w = 0 → IsPeriod ts w K ∧ (K : Int) ≤ 2 ^ n.toNat) ∧ K ≤ 65536 := by
    by_cases c : regErr n ts w = 0
    · obtain ⟨k0, rfl, R⟩ := regErr_ok c
      obtain ⟨K, hK, hle⟩ := R.period
      have := pow_le16 R.n16
      exact ⟨K, fun _ => ⟨hK, by rw [Int.toNat_natCast, cast_pow]; omega⟩, by omega⟩
    · exact ⟨0, fun h => absurd h c, by omega⟩
  obtain ⟨K, hK, hK2⟩ := hex
  have hper : ∃ a b, (if regErr n ts w = 0 then tup2 K 0 else tup2 0 (regErr n ts w)) = tup2 a b := by split <;> exact ⟨_, _, rfl⟩
  obtain ⟨pa, pb, hab⟩ := hper
  by_cases c : 40 < ts.length
  · (refine calls_intro (hC.body (by decide) tab63) (Nat.le_of_ble_eq_true rfl) ?_); (show wp C _ none B63.code _ _); (simp only [B63]); simp -implicitDefEqProofs (disch := first | assumption | decide | omega | (simp -implicitDefEqProofs only [wpD1] <;> omega) | (refine not_in_one ?_; first | omega | (simp -implicitDefEqProofs only [wpD1] <;> omega) | fail) | (simp -implicitDefEqProofs only [wpD2] <;> assumption) | ((repeat (first | exact HSub.refl _ | assumption | refine HSub.push ?_ _ | refine HSub.reserve ?_ _ | refine HSub.put ?_ (by omega) _)); done) | fail) only [↓wpPre, wpPost, wpPoly, Int.reduceToNat, Int.reducePow, Int.reduceMul, Int.reduceAdd, Int.reduceSub, Int.reduceNeg, Nat.reduceAdd, Nat.reduceMul, Nat.reducePow, Int.reduceLT, Int.reduceLE, Int.reduceEq, Nat.reduceEqDiff, h1.len]
    refine ACallsK.eq (awake08_spec (hC.sub (T' := T80) (by decide))) ?_
    simp -implicitDefEqProofs (disch := first | assumption | decide | omega | (simp -implicitDefEqProofs only [wpD1] <;> omega) | (refine not_in_one ?_; first | omega | (simp -implicitDefEqProofs only [wpD1] <;> omega) | fail) | (simp -implicitDefEqProofs only [wpD2] <;> assumption) | ((repeat (first | exact HSub.refl _ | assumption | refine HSub.push ?_ _ | refine HSub.reserve ?_ _ | refine HSub.put ?_ (by omega) _)); done) | fail) only [↓wpPre, wpPost, wpPoly, Int.reduceToNat, Int.reducePow, Int.reduceMul, Int.reduceAdd, Int.reduceSub, Int.reduceNeg, Nat.reduceAdd, Nat.reduceMul, Nat.reducePow, Int.reduceLT, Int.reduceLE, Int.reduceEq, Nat.reduceEqDiff]
  by_cases c2 : 40 < w.length
  · (refine calls_intro (hC.body (by decide) tab63) (Nat.le_of_ble_eq_true rfl) ?_); (show wp C _ none B63.code _ _); (simp only [B63]); simp -implicitDefEqProofs (disch := first | assumption | decide | omega | (simp -implicitDefEqProofs only [wpD1] <;> omega) | (refine not_in_one ?_; first | omega | (simp -implicitDefEqProofs only [wpD1] <;> omega) | fail) | (simp -implicitDefEqProofs only [wpD2] <;> assumption) | ((repeat (first | exact HSub.refl _ | assumption | refine HSub.push ?_ _ | refine HSub.reserve ?_ _ | refine HSub.put ?_ (by omega) _)); done) | fail) only [↓wpPre, wpPost, wpPoly, Int.reduceToNat, Int.reducePow, Int.reduceMul, Int.reduceAdd, Int.reduceSub, Int.reduceNeg, Nat.reduceAdd, Nat.reduceMul, Nat.reducePow, Int.reduceLT, Int.reduceLE, Int.reduceEq, Nat.reduceEqDiff, h1.len, h2.len]
    refine ACallsK.eq (awake08_spec (hC.sub (T' := T80) (by decide))) ?_
    simp -implicitDefEqProofs (disch := first | assumption | decide | omega | (simp -implicitDefEqProofs only [wpD1] <;> omega) | (refine not_in_one ?_; first | omega | (simp -implicitDefEqProofs only [wpD1] <;> omega) | fail) | (simp -implicitDefEqProofs only [wpD2] <;> assumption) | ((repeat (first | exact HSub.refl _ | assumption | refine HSub.push ?_ _ | refine HSub.reserve ?_ _ | refine HSub.put ?_ (by omega) _)); done) | fail) only [↓wpPre, wpPost, wpPoly, Int.reduceToNat, Int.reducePow, Int.reduceMul, Int.reduceAdd, Int.reduceSub, Int.reduceNeg, Nat.reduceAdd, Nat.reduceMul, Nat.reducePow, Int.reduceLT, Int.reduceLE, Int.reduceEq, Nat.reduceEqDiff]
  (refine calls_intro (hC.body (by decide) tab63) (Nat.le_of_ble_eq_true rfl) ?_); (show wp C _ none B63.code _ _); (simp only [B63]); simp -implicitDefEqProofs (disch := first | assumption | decide | omega | (simp -implicitDefEqProofs only [wpD1] <;> omega) | (refine not_in_one ?_; first | omega | (simp -implicitDefEqProofs only [wpD1] <;> omega) | fail) | (simp -implicitDefEqProofs only [wpD2] <;> assumption) | ((repeat (first | exact HSub.refl _ | assumption | refine HSub.push ?_ _ | refine HSub.reserve ?_ _ | refine HSub.put ?_ (by omega) _)); done) | fail) only [↓wpPre, wpPost, wpPoly, Int.reduceToNat, Int.reducePow, Int.reduceMul, Int.reduceAdd, Int.reduceSub, Int.reduceNeg, Nat.reduceAdd, Nat.reduceMul, Nat.reducePow, Int.reduceLT, Int.reduceLE, Int.reduceEq, Nat.reduceEqDiff, h1.len, h2.len]
  refine ACallsK.of (Run_spec (hC.sub (T' := T81) (by decide)) h1 h2 hm) ?_
  rintro r g1 ⟨va, rfl, s1, R1⟩
  simp -implicitDefEqProofs (disch := first | assumption | decide | omega | (simp -implicitDefEqProofs only [wpD1] <;> omega) | (refine not_in_one ?_; first | omega | (simp -implicitDefEqProofs only [wpD1] <;> omega) | fail) | (simp -implicitDefEqProofs only [wpD2] <;> assumption) | ((repeat (first | exact HSub.refl _ | assumption | refine HSub.push ?_ _ | refine HSub.reserve ?_ _ | refine HSub.put ?_ (by omega) _)); done) | fail) only [↓wpPre, wpPost, wpPoly, Int.reduceToNat, Int.reducePow, Int.reduceMul, Int.reduceAdd, Int.reduceSub, Int.reduceNeg, Nat.reduceAdd, Nat.reduceMul, Nat.reducePow, Int.reduceLT, Int.reduceLE, Int.reduceEq, Nat.reduceEqDiff, lstErr]
  refine ACallsK.of (Run08_spec (hC.sub (T' := T82) (by decide)) (h1.mono s1) (h2.mono s1) hm) ?_
  rintro r g2 ⟨vb, rfl, s2, R2⟩
  have s12 := s1.trans s2
  simp -implicitDefEqProofs (disch := first | assumption | decide | omega | (simp -implicitDefEqProofs only [wpD1] <;> omega) | (refine not_in_one ?_; first | omega | (simp -implicitDefEqProofs only [wpD1] <;> omega) | fail) | (simp -implicitDefEqProofs only [wpD2] <;> assumption) | ((repeat (first | exact HSub.refl _ | assumption | refine HSub.push ?_ _ | refine HSub.reserve ?_ _ | refine HSub.put ?_ (by omega) _)); done) | fail) only [↓wpPre, wpPost, wpPoly, Int.reduceToNat, Int.reducePow, Int.reduceMul, Int.reduceAdd, Int.reduceSub, Int.reduceNeg, Nat.reduceAdd, Nat.reduceMul, Nat.reducePow, Int.reduceLT, Int.reduceLE, Int.reduceEq, Nat.reduceEqDiff, lstErr]
  have S1 := Period_spec (n := n) (K := K) (hC.sub (T' := T83) (by decide)) (h1.mono s12) (h2.mono s12) (fun h => (hK h).1) hK2
  rw [hab] at S1
  refine ACallsK.of S1 ?_
  rintro r g3 ⟨rfl, s3⟩
  have s13 := s12.trans s3
  simp -implicitDefEqProofs (disch := first | assumption | decide | omega | (simp -implicitDefEqProofs only [wpD1] <;> omega) | (refine not_in_one ?_; first | omega | (simp -implicitDefEqProofs only [wpD1] <;> omega) | fail) | (simp -implicitDefEqProofs only [wpD2] <;> assumption) | ((repeat (first | exact HSub.refl _ | assumption | refine HSub.push ?_ _ | refine HSub.reserve ?_ _ | refine HSub.put ?_ (by omega) _)); done) | fail) only [↓wpPre, wpPost, wpPoly, Int.reduceToNat, Int.reducePow, Int.reduceMul, Int.reduceAdd, Int.reduceSub, Int.reduceNeg, Nat.reduceAdd, Nat.reduceMul, Nat.reducePow, Int.reduceLT, Int.reduceLE, Int.reduceEq, Nat.reduceEqDiff, tup2]
  have S2 := Period08_spec (n := n) (K := K) (hC.sub (T' := T84) (by decide)) (h1.mono s13) (h2.mono s13) hK hK2
  rw [hab] at S2
  refine ACallsK.of S2 ?_
  rintro r g4 ⟨rfl, s4⟩
  simp -implicitDefEqProofs (disch := first | assumption | decide | omega | (simp -implicitDefEqProofs only [wpD1] <;> omega) | (refine not_in_one ?_; first | omega | (simp -implicitDefEqProofs only [wpD1] <;> omega) | fail) | (simp -implicitDefEqProofs only [wpD2] <;> assumption) | ((repeat (first | exact HSub.refl _ | assumption | refine HSub.push ?_ _ | refine HSub.reserve ?_ _ | refine HSub.put ?_ (by omega) _)); done) | fail) only [↓wpPre, wpPost, wpPoly, Int.reduceToNat, Int.reducePow, Int.reduceMul, Int.reduceAdd, Int.reduceSub, Int.reduceNeg, Nat.reduceAdd, Nat.reduceMul, Nat.reducePow, Int.reduceLT, Int.reduceLE, Int.reduceEq, Nat.reduceEqDiff, tup2]
  refine ACallsK.eq (Equal_spec (hC.sub (T' := T12) (by decide)) (R1.mono ((s2.trans s3).trans s4)) (R2.mono (s3.trans s4))) ?_
  simp -implicitDefEqProofs (disch := first | assumption | decide | omega | (simp -implicitDefEqProofs only [wpD1] <;> omega) | (refine not_in_one ?_; first | omega | (simp -implicitDefEqProofs only [wpD1] <;> omega) | fail) | (simp -implicitDefEqProofs only [wpD2] <;> assumption) | ((repeat (first | exact HSub.refl _ | assumption | refine HSub.push ?_ _ | refine HSub.reserve ?_ _ | refine HSub.put ?_ (by omega) _)); done) | fail) only [↓wpPre, wpPost, wpPoly, Int.reduceToNat, Int.reducePow, Int.reduceMul, Int.reduceAdd, Int.reduceSub, Int.reduceNeg, Nat.reduceAdd, Nat.reduceMul, Nat.reducePow, Int.reduceLT, Int.reduceLE, Int.reduceEq, Nat.reduceEqDiff]
  refine ACallsK.eq (awake08_spec (hC.sub (T' := T80) (by decide))) ?_
  simp -implicitDefEqProofs (disch := first | assumption | decide | omega | (simp -implicitDefEqProofs only [wpD1] <;> omega) | (refine not_in_one ?_; first | omega | (simp -implicitDefEqProofs only [wpD1] <;> omega) | fail) | (simp -implicitDefEqProofs only [wpD2] <;> assumption) | ((repeat (first | exact HSub.refl _ | assumption | refine HSub.push ?_ _ | refine HSub.reserve ?_ _ | refine HSub.put ?_ (by omega) _)); done) | fail) only [↓wpPre, wpPost, wpPoly, Int.reduceToNat, Int.reducePow, Int.reduceMul, Int.reduceAdd, Int.reduceSub, Int.reduceNeg, Nat.reduceAdd, Nat.reduceMul, Nat.reducePow, Int.reduceLT, Int.reduceLE, Int.reduceEq, Nat.reduceEqDiff]
end
end Go.Ae
