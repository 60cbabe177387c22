/- Texts of the proof, part 12: a second reading of the lowered code, proved sound, and what the functions compute. -/
import Derived.Test.YtcmdajkkhghgdaaP11

/- Find, of the program and of the reference; the statement on finding. -/
set_option linter.unusedSimpArgs false
set_option linter.unusedVariables false
namespace Go.Ae
section
variable {C : Ctx}
theorem codeErr_ok {d : Int} {p : Nat} (c : lenOk d = true) (h : 1 ≤ p ∧ p ≤ lenN d + 2) : codeErr d p = 0 := by unfold codeErr; rw [if_pos ⟨c, by omega, by omega⟩]
set_option maxRecDepth 100000 in
set_option maxHeartbeats 1000000 in
theorem Find_spec (hC : Has C T85) {d : Int} {vl : AV} {l : List Int} {h : Heap} {r0 : AV} (hd : In64 d) (hl : RI h vl l) (hr : FindR d l r0) : ACalls C 85 [.int .i64 d, vl] h (fun r h' => r = (if findErr d l = 0 then r0 else tup3 0 0 (findErr d l)) ∧ HSub h h') := by
  have hlt := hl.lt
  have pe : findErr d l = if lenOk d = true then (if l.length ≠ lenN d ∨ l.any badC = true then 3 else 0) else 2 := rfl
  by_cases c : lenOk d = true
  · have hN := lenN_eq c
    have eL : lenE d = tup2 (lenN d) 0 := by unfold lenE; rw [if_pos c]
    rw [if_pos c] at pe
    by_cases c1 : l.length ≠ lenN d
    · rw [if_pos (.inl c1)] at pe
      rw [pe, if_neg (by decide)]
      (refine calls_intro (hC.body (by decide) tab85) (Nat.le_of_ble_eq_true rfl) ?_); (show wp C _ none B85.code _ _); (simp only [B85]); simp -implicitDefEqProofs (disch := first | assumption | decide | omega | (simp -implicitDefEqProofs only [wpD1] <;> omega) | (refine not_in_one ?_; first | omega | (simp -implicitDefEqProofs only [wpD1] <;> omega) | fail) | (simp -implicitDefEqProofs only [wpD2] <;> assumption) | ((repeat (first | exact HSub.refl _ | assumption | refine HSub.push ?_ _ | refine HSub.reserve ?_ _ | refine HSub.put ?_ (by omega) _)); done) | fail) only [↓wpPre, wpPost, wpPoly, Int.reduceToNat, Int.reducePow, Int.reduceMul, Int.reduceAdd, Int.reduceSub, Int.reduceNeg, Nat.reduceAdd, Nat.reduceMul, Nat.reducePow, Int.reduceLT, Int.reduceLE, Int.reduceEq, Nat.reduceEqDiff]
      refine ACallsK.eq2 (Length_spec (hC.sub (T' := T70) (by decide)) hd) eL ?_
      simp -implicitDefEqProofs (disch := first | assumption | decide | omega | (simp -implicitDefEqProofs only [wpD1] <;> omega) | (refine not_in_one ?_; first | omega | (simp -implicitDefEqProofs only [wpD1] <;> omega) | fail) | (simp -implicitDefEqProofs only [wpD2] <;> assumption) | ((repeat (first | exact HSub.refl _ | assumption | refine HSub.push ?_ _ | refine HSub.reserve ?_ _ | refine HSub.put ?_ (by omega) _)); done) | fail) only [↓wpPre, wpPost, wpPoly, Int.reduceToNat, Int.reducePow, Int.reduceMul, Int.reduceAdd, Int.reduceSub, Int.reduceNeg, Nat.reduceAdd, Nat.reduceMul, Nat.reducePow, Int.reduceLT, Int.reduceLE, Int.reduceEq, Nat.reduceEqDiff, tup2, hl.len]
      exact ⟨rfl, HSub.refl _⟩
    · have asks : Asks C (.func 96 [] []) badC l h := ⟨96, [], rfl, fun x _ => badC_spec (hC.sub (T' := T96) (by decide))⟩
      by_cases c2 : l.any badC = true
      · rw [if_pos (.inr c2)] at pe
        rw [pe, if_neg (by decide)]
        (refine calls_intro (hC.body (by decide) tab85) (Nat.le_of_ble_eq_true rfl) ?_); (show wp C _ none B85.code _ _); (simp only [B85]); simp -implicitDefEqProofs (disch := first | assumption | decide | omega | (simp -implicitDefEqProofs only [wpD1] <;> omega) | (refine not_in_one ?_; first | omega | (simp -implicitDefEqProofs only [wpD1] <;> omega) | fail) | (simp -implicitDefEqProofs only [wpD2] <;> assumption) | ((repeat (first | exact HSub.refl _ | assumption | refine HSub.push ?_ _ | refine HSub.reserve ?_ _ | refine HSub.put ?_ (by omega) _)); done) | fail) only [↓wpPre, wpPost, wpPoly, Int.reduceToNat, Int.reducePow, Int.reduceMul, Int.reduceAdd, Int.reduceSub, Int.reduceNeg, Nat.reduceAdd, Nat.reduceMul, Nat.reducePow, Int.reduceLT, Int.reduceLE, Int.reduceEq, Nat.reduceEqDiff]
        refine ACallsK.eq2 (Length_spec (hC.sub (T' := T70) (by decide)) hd) eL ?_
        simp -implicitDefEqProofs (disch := first | assumption | decide | omega | (simp -implicitDefEqProofs only [wpD1] <;> omega) | (refine not_in_one ?_; first | omega | (simp -implicitDefEqProofs only [wpD1] <;> omega) | fail) | (simp -implicitDefEqProofs only [wpD2] <;> assumption) | ((repeat (first | exact HSub.refl _ | assumption | refine HSub.push ?_ _ | refine HSub.reserve ?_ _ | refine HSub.put ?_ (by omega) _)); done) | fail) only [↓wpPre, wpPost, wpPoly, Int.reduceToNat, Int.reducePow, Int.reduceMul, Int.reduceAdd, Int.reduceSub, Int.reduceNeg, Nat.reduceAdd, Nat.reduceMul, Nat.reducePow, Int.reduceLT, Int.reduceLE, Int.reduceEq, Nat.reduceEqDiff, tup2, hl.len]
        refine ACallsK.eq (ContainsFunc_spec (hC.sub (T' := T37) (by decide)) hl asks) ?_
        simp -implicitDefEqProofs (disch := first | assumption | decide | omega | (simp -implicitDefEqProofs only [wpD1] <;> omega) | (refine not_in_one ?_; first | omega | (simp -implicitDefEqProofs only [wpD1] <;> omega) | fail) | (simp -implicitDefEqProofs only [wpD2] <;> assumption) | ((repeat (first | exact HSub.refl _ | assumption | refine HSub.push ?_ _ | refine HSub.reserve ?_ _ | refine HSub.put ?_ (by omega) _)); done) | fail) only [↓wpPre, wpPost, wpPoly, Int.reduceToNat, Int.reducePow, Int.reduceMul, Int.reduceAdd, Int.reduceSub, Int.reduceNeg, Nat.reduceAdd, Nat.reduceMul, Nat.reducePow, Int.reduceLT, Int.reduceLE, Int.reduceEq, Nat.reduceEqDiff]
        exact ⟨rfl, HSub.refl _⟩
      · rw [if_neg (by rintro (x | x); exact c1 x; exact c2 x)] at pe
        rw [pe, if_pos rfl]
        have hcode : ∀ {p : Nat} {h : Heap}, 1 ≤ p → p ≤ lenN d + 2 → ACalls C 76 [.int .i64 d, .int .i64 (p : Nat)] h (fun r h' => ∃ v, r = lstErr v 0 ∧ HSub h h' ∧ RI h' v (codeL d p)) := by
          intro p h h1 h2
          have e := codeErr_ok c ⟨h1, h2⟩
          refine (Code_spec (hC.sub (T' := T76) (by decide)) hd (by unfold In64; omega)).mono ?_
          rintro r h' ⟨v, a1, a2, a3, _⟩
          rw [e, if_pos rfl] at a3
          exact ⟨v, by rw [a1, e], a2, a3⟩
        (refine calls_intro (hC.body (by decide) tab85) (Nat.le_of_ble_eq_true rfl) ?_); (show wp C _ none B85.code _ _); (simp only [B85]); simp -implicitDefEqProofs (disch := first | assumption | decide | omega | (simp -implicitDefEqProofs only [wpD1] <;> omega) | (refine not_in_one ?_; first | omega | (simp -implicitDefEqProofs only [wpD1] <;> omega) | fail) | (simp -implicitDefEqProofs only [wpD2] <;> assumption) | ((repeat (first | exact HSub.refl _ | assumption | refine HSub.push ?_ _ | refine HSub.reserve ?_ _ | refine HSub.put ?_ (by omega) _)); done) | fail) only [↓wpPre, wpPost, wpPoly, Int.reduceToNat, Int.reducePow, Int.reduceMul, Int.reduceAdd, Int.reduceSub, Int.reduceNeg, Nat.reduceAdd, Nat.reduceMul, Nat.reducePow, Int.reduceLT, Int.reduceLE, Int.reduceEq, Nat.reduceEqDiff]
        refine ACallsK.eq2 (Length_spec (hC.sub (T' := T70) (by decide)) hd) eL ?_
        simp -implicitDefEqProofs (disch := first | assumption | decide | omega | (simp -implicitDefEqProofs only [wpD1] <;> omega) | (refine not_in_one ?_; first | omega | (simp -implicitDefEqProofs only [wpD1] <;> omega) | fail) | (simp -implicitDefEqProofs only [wpD2] <;> assumption) | ((repeat (first | exact HSub.refl _ | assumption | refine HSub.push ?_ _ | refine HSub.reserve ?_ _ | refine HSub.put ?_ (by omega) _)); done) | fail) only [↓wpPre, wpPost, wpPoly, Int.reduceToNat, Int.reducePow, Int.reduceMul, Int.reduceAdd, Int.reduceSub, Int.reduceNeg, Nat.reduceAdd, Nat.reduceMul, Nat.reducePow, Int.reduceLT, Int.reduceLE, Int.reduceEq, Nat.reduceEqDiff, tup2, hl.len]
        refine ACallsK.eq (ContainsFunc_spec (hC.sub (T' := T37) (by decide)) hl asks) ?_
        simp -implicitDefEqProofs (disch := first | assumption | decide | omega | (simp -implicitDefEqProofs only [wpD1] <;> omega) | (refine not_in_one ?_; first | omega | (simp -implicitDefEqProofs only [wpD1] <;> omega) | fail) | (simp -implicitDefEqProofs only [wpD2] <;> assumption) | ((repeat (first | exact HSub.refl _ | assumption | refine HSub.push ?_ _ | refine HSub.reserve ?_ _ | refine HSub.put ?_ (by omega) _)); done) | fail) only [↓wpPre, wpPost, wpPoly, Int.reduceToNat, Int.reducePow, Int.reduceMul, Int.reduceAdd, Int.reduceSub, Int.reduceNeg, Nat.reduceAdd, Nat.reduceMul, Nat.reducePow, Int.reduceLT, Int.reduceLE, Int.reduceEq, Nat.reduceEqDiff]
        refine wp_loopI (fun j t h' => HSub h h' ∧ ∃ p : Nat, t 0 = .int .i64 d ∧ t 1 = vl ∧ t 7 = .int .i64 (lenN d) ∧ t 9 = .int .i64 (p : Nat) ∧ 1 ≤ p ∧ p ≤ lenN d + 3 ∧ (∀ p' : Nat, 1 ≤ p' → p' < p → ∀ q, q < lenN d → rotL (codeL d p') q ≠ l) ∧ j = lenN d + 3 - p) (j0 := lenN d + 2)
          ⟨HSub.refl _, 1, rfl, rfl, rfl, rfl, by omega, by omega, by omega, rfl⟩ ?_
        rintro j t h1 ⟨s1, p, e0, e1, e7, e9, hp1, hp2, hne, hj⟩
        simp -implicitDefEqProofs (disch := first | assumption | decide | omega | (simp -implicitDefEqProofs only [wpD1] <;> omega) | (refine not_in_one ?_; first | omega | (simp -implicitDefEqProofs only [wpD1] <;> omega) | fail) | (simp -implicitDefEqProofs only [wpD2] <;> assumption) | ((repeat (first | exact HSub.refl _ | assumption | refine HSub.push ?_ _ | refine HSub.reserve ?_ _ | refine HSub.put ?_ (by omega) _)); done) | fail) only [↓wpPre, wpPost, wpPoly, Int.reduceToNat, Int.reducePow, Int.reduceMul, Int.reduceAdd, Int.reduceSub, Int.reduceNeg, Nat.reduceAdd, Nat.reduceMul, Nat.reducePow, Int.reduceLT, Int.reduceLE, Int.reduceEq, Nat.reduceEqDiff, e7, e9]
        refine Br.by (fun c3 => ?_) (fun c3 => ?_)
        · have cl := codeL_length d p
          simp -implicitDefEqProofs (disch := first | assumption | decide | omega | (simp -implicitDefEqProofs only [wpD1] <;> omega) | (refine not_in_one ?_; first | omega | (simp -implicitDefEqProofs only [wpD1] <;> omega) | fail) | (simp -implicitDefEqProofs only [wpD2] <;> assumption) | ((repeat (first | exact HSub.refl _ | assumption | refine HSub.push ?_ _ | refine HSub.reserve ?_ _ | refine HSub.put ?_ (by omega) _)); done) | fail) only [↓wpPre, wpPost, wpPoly, Int.reduceToNat, Int.reducePow, Int.reduceMul, Int.reduceAdd, Int.reduceSub, Int.reduceNeg, Nat.reduceAdd, Nat.reduceMul, Nat.reducePow, Int.reduceLT, Int.reduceLE, Int.reduceEq, Nat.reduceEqDiff, e0, e9]
          refine ACallsK.of (hcode hp1 (by omega)) ?_
          rintro r h2 ⟨v2, rfl, s2, R2⟩
          simp -implicitDefEqProofs (disch := first | assumption | decide | omega | (simp -implicitDefEqProofs only [wpD1] <;> omega) | (refine not_in_one ?_; first | omega | (simp -implicitDefEqProofs only [wpD1] <;> omega) | fail) | (simp -implicitDefEqProofs only [wpD2] <;> assumption) | ((repeat (first | exact HSub.refl _ | assumption | refine HSub.push ?_ _ | refine HSub.reserve ?_ _ | refine HSub.put ?_ (by omega) _)); done) | fail) only [↓wpPre, wpPost, wpPoly, Int.reduceToNat, Int.reducePow, Int.reduceMul, Int.reduceAdd, Int.reduceSub, Int.reduceNeg, Nat.reduceAdd, Nat.reduceMul, Nat.reducePow, Int.reduceLT, Int.reduceLE, Int.reduceEq, Nat.reduceEqDiff, lstErr, e1]
          refine ACallsK.of (rotation_spec (hC.sub (T' := T97) (by decide)) R2 (hl.mono (s1.trans s2)) (by omega)) ?_
          rintro r h3 ⟨x, rfl, hx, s3⟩
          have s03 := (s1.trans s2).trans s3
          rcases hx with ⟨k, k1, k2, k3, rfl⟩ | ⟨k1, rfl⟩
          · simp -implicitDefEqProofs (disch := first | assumption | decide | omega | (simp -implicitDefEqProofs only [wpD1] <;> omega) | (refine not_in_one ?_; first | omega | (simp -implicitDefEqProofs only [wpD1] <;> omega) | fail) | (simp -implicitDefEqProofs only [wpD2] <;> assumption) | ((repeat (first | exact HSub.refl _ | assumption | refine HSub.push ?_ _ | refine HSub.reserve ?_ _ | refine HSub.put ?_ (by omega) _)); done) | fail) only [↓wpPre, wpPost, wpPoly, Int.reduceToNat, Int.reducePow, Int.reduceMul, Int.reduceAdd, Int.reduceSub, Int.reduceNeg, Nat.reduceAdd, Nat.reduceMul, Nat.reducePow, Int.reduceLT, Int.reduceLE, Int.reduceEq, Nat.reduceEqDiff, e9]
            exact ⟨FindR.unique (.inl ⟨p, k, hp1, by omega, by omega, k2, k3, hne, rfl⟩) hr, s03⟩
          · simp -implicitDefEqProofs (disch := first | assumption | decide | omega | (simp -implicitDefEqProofs only [wpD1] <;> omega) | (refine not_in_one ?_; first | omega | (simp -implicitDefEqProofs only [wpD1] <;> omega) | fail) | (simp -implicitDefEqProofs only [wpD2] <;> assumption) | ((repeat (first | exact HSub.refl _ | assumption | refine HSub.push ?_ _ | refine HSub.reserve ?_ _ | refine HSub.put ?_ (by omega) _)); done) | fail) only [↓wpPre, wpPost, wpPoly, Int.reduceToNat, Int.reducePow, Int.reduceMul, Int.reduceAdd, Int.reduceSub, Int.reduceNeg, Nat.reduceAdd, Nat.reduceMul, Nat.reducePow, Int.reduceLT, Int.reduceLE, Int.reduceEq, Nat.reduceEqDiff, e0, e1, e7, e9]
            exact ⟨_, ⟨s03, p + 1, by simp, by omega, by omega, fun p' a1 a2 q hq => by
              by_cases e : p' = p
              · subst e; exact k1 q (by omega)
              · exact hne p' a1 (by omega) q hq, rfl⟩, by omega⟩
        · simp -implicitDefEqProofs (disch := first | assumption | decide | omega | (simp -implicitDefEqProofs only [wpD1] <;> omega) | (refine not_in_one ?_; first | omega | (simp -implicitDefEqProofs only [wpD1] <;> omega) | fail) | (simp -implicitDefEqProofs only [wpD2] <;> assumption) | ((repeat (first | exact HSub.refl _ | assumption | refine HSub.push ?_ _ | refine HSub.reserve ?_ _ | refine HSub.put ?_ (by omega) _)); done) | fail) only [↓wpPre, wpPost, wpPoly, Int.reduceToNat, Int.reducePow, Int.reduceMul, Int.reduceAdd, Int.reduceSub, Int.reduceNeg, Nat.reduceAdd, Nat.reduceMul, Nat.reducePow, Int.reduceLT, Int.reduceLE, Int.reduceEq, Nat.reduceEqDiff]
          exact ⟨FindR.unique (.inr ⟨fun p' a1 a2 q hq => hne p' a1 (by omega) q hq, rfl⟩) hr, s1⟩
  · have eL : lenE d = tup2 0 2 := by unfold lenE; rw [if_neg c]
    rw [if_neg c] at pe
    rw [pe, if_neg (by decide)]
    (refine calls_intro (hC.body (by decide) tab85) (Nat.le_of_ble_eq_true rfl) ?_); (show wp C _ none B85.code _ _); (simp only [B85]); simp -implicitDefEqProofs (disch := first | assumption | decide | omega | (simp -implicitDefEqProofs only [wpD1] <;> omega) | (refine not_in_one ?_; first | omega | (simp -implicitDefEqProofs only [wpD1] <;> omega) | fail) | (simp -implicitDefEqProofs only [wpD2] <;> assumption) | ((repeat (first | exact HSub.refl _ | assumption | refine HSub.push ?_ _ | refine HSub.reserve ?_ _ | refine HSub.put ?_ (by omega) _)); done) | fail) only [↓wpPre, wpPost, wpPoly, Int.reduceToNat, Int.reducePow, Int.reduceMul, Int.reduceAdd, Int.reduceSub, Int.reduceNeg, Nat.reduceAdd, Nat.reduceMul, Nat.reducePow, Int.reduceLT, Int.reduceLE, Int.reduceEq, Nat.reduceEqDiff]
    refine ACallsK.eq2 (Length_spec (hC.sub (T' := T70) (by decide)) hd) eL ?_
    simp -implicitDefEqProofs (disch := first | assumption | decide | omega | (simp -implicitDefEqProofs only [wpD1] <;> omega) | (refine not_in_one ?_; first | omega | (simp -implicitDefEqProofs only [wpD1] <;> omega) | fail) | (simp -implicitDefEqProofs only [wpD2] <;> assumption) | ((repeat (first | exact HSub.refl _ | assumption | refine HSub.push ?_ _ | refine HSub.reserve ?_ _ | refine HSub.put ?_ (by omega) _)); done) | fail) only [↓wpPre, wpPost, wpPoly, Int.reduceToNat, Int.reducePow, Int.reduceMul, Int.reduceAdd, Int.reduceSub, Int.reduceNeg, Nat.reduceAdd, Nat.reduceMul, Nat.reducePow, Int.reduceLT, Int.reduceLE, Int.reduceEq, Nat.reduceEqDiff, tup2]
    exact ⟨rfl, HSub.refl _⟩

set_option maxRecDepth 100000 in
set_option maxHeartbeats 1000000 in
theorem Find08_spec (hC : Has C T86) {d : Int} {vl : AV} {l : List Int} {h : Heap} {r0 : AV} (hd : In64 d) (hl : RI h vl l) (hr : FindR d l r0) : ACalls C 86 [.int .i64 d, vl] h (fun r h' => r = (if findErr d l = 0 then r0 else tup3 0 0 (findErr d l)) ∧ HSub h h') := by
  have hlt := hl.lt
  have pe : findErr d l = if lenOk d = true then (if l.length ≠ lenN d ∨ l.any badC = true then 3 else 0) else 2 := rfl
  by_cases c : lenOk d = true
  · have hN := lenN_eq c
    have eL : lenE d = tup2 (lenN d) 0 := by unfold lenE; rw [if_pos c]
    rw [if_pos c] at pe
    by_cases c1 : l.length ≠ lenN d
    · rw [if_pos (.inl c1)] at pe
      rw [pe, if_neg (by decide)]
      (refine calls_intro (hC.body (by decide) tab86) (Nat.le_of_ble_eq_true rfl) ?_); (show wp C _ none B86.code _ _); (simp only [B86]); simp -implicitDefEqProofs (disch := first | assumption | decide | omega | (simp -implicitDefEqProofs only [wpD1] <;> omega) | (refine not_in_one ?_; first | omega | (simp -implicitDefEqProofs only [wpD1] <;> omega) | fail) | (simp -implicitDefEqProofs only [wpD2] <;> assumption) | ((repeat (first | exact HSub.refl _ | assumption | refine HSub.push ?_ _ | refine HSub.reserve ?_ _ | refine HSub.put ?_ (by omega) _)); done) | fail) only [↓wpPre, wpPost, wpPoly, Int.reduceToNat, Int.reducePow, Int.reduceMul, Int.reduceAdd, Int.reduceSub, Int.reduceNeg, Nat.reduceAdd, Nat.reduceMul, Nat.reducePow, Int.reduceLT, Int.reduceLE, Int.reduceEq, Nat.reduceEqDiff]
      refine ACallsK.eq2 (Length08_spec (hC.sub (T' := T71) (by decide)) hd) eL ?_
      simp -implicitDefEqProofs (disch := first | assumption | decide | omega | (simp -implicitDefEqProofs only [wpD1] <;> omega) | (refine not_in_one ?_; first | omega | (simp -implicitDefEqProofs only [wpD1] <;> omega) | fail) | (simp -implicitDefEqProofs only [wpD2] <;> assumption) | ((repeat (first | exact HSub.refl _ | assumption | refine HSub.push ?_ _ | refine HSub.reserve ?_ _ | refine HSub.put ?_ (by omega) _)); done) | fail) only [↓wpPre, wpPost, wpPoly, Int.reduceToNat, Int.reducePow, Int.reduceMul, Int.reduceAdd, Int.reduceSub, Int.reduceNeg, Nat.reduceAdd, Nat.reduceMul, Nat.reducePow, Int.reduceLT, Int.reduceLE, Int.reduceEq, Nat.reduceEqDiff, tup2, hl.len]
      exact ⟨rfl, HSub.refl _⟩
    · have hcode : ∀ {p : Nat} {h : Heap}, 1 ≤ p → p ≤ lenN d + 2 → ACalls C 77 [.int .i64 d, .int .i64 (p : Nat)] h (fun r h' => ∃ v, r = lstErr v 0 ∧ HSub h h' ∧ RI h' v (codeL d p)) := by
        intro p h h1 h2
        have e := codeErr_ok c ⟨h1, h2⟩
        refine (Code08_spec (hC.sub (T' := T77) (by decide)) hd (by unfold In64; omega)).mono ?_
        rintro r h' ⟨v, a1, a2, a3⟩
        rw [e, if_pos rfl] at a3
        exact ⟨v, by rw [a1, e], a2, a3⟩
      have pe3 : l.any badC = true → (if findErr d l = 0 then r0 else tup3 0 0 (findErr d l)) = tup3 0 0 3 := fun h => by
        have e3 : findErr d l = 3 := pe.trans (if_pos (.inr h))
        rw [e3, if_neg (by decide)]
      have pe0 : l.any badC = false → (if findErr d l = 0 then r0 else tup3 0 0 (findErr d l)) = r0 := fun h => by
        have e0 : findErr d l = 0 := pe.trans (if_neg (by rintro (x | x); exact c1 x; rw [h] at x; exact absurd x (by decide)))
        rw [e0, if_pos rfl]
      (refine calls_intro (hC.body (by decide) tab86) (Nat.le_of_ble_eq_true rfl) ?_); (show wp C _ none B86.code _ _); (simp only [B86]); simp -implicitDefEqProofs (disch := first | assumption | decide | omega | (simp -implicitDefEqProofs only [wpD1] <;> omega) | (refine not_in_one ?_; first | omega | (simp -implicitDefEqProofs only [wpD1] <;> omega) | fail) | (simp -implicitDefEqProofs only [wpD2] <;> assumption) | ((repeat (first | exact HSub.refl _ | assumption | refine HSub.push ?_ _ | refine HSub.reserve ?_ _ | refine HSub.put ?_ (by omega) _)); done) | fail) only [↓wpPre, wpPost, wpPoly, Int.reduceToNat, Int.reducePow, Int.reduceMul, Int.reduceAdd, Int.reduceSub, Int.reduceNeg, Nat.reduceAdd, Nat.reduceMul, Nat.reducePow, Int.reduceLT, Int.reduceLE, Int.reduceEq, Nat.reduceEqDiff]
      refine ACallsK.eq2 (Length08_spec (hC.sub (T' := T71) (by decide)) hd) eL ?_
      simp -implicitDefEqProofs (disch := first | assumption | decide | omega | (simp -implicitDefEqProofs only [wpD1] <;> omega) | (refine not_in_one ?_; first | omega | (simp -implicitDefEqProofs only [wpD1] <;> omega) | fail) | (simp -implicitDefEqProofs only [wpD2] <;> assumption) | ((repeat (first | exact HSub.refl _ | assumption | refine HSub.push ?_ _ | refine HSub.reserve ?_ _ | refine HSub.put ?_ (by omega) _)); done) | fail) only [↓wpPre, wpPost, wpPoly, Int.reduceToNat, Int.reducePow, Int.reduceMul, Int.reduceAdd, Int.reduceSub, Int.reduceNeg, Nat.reduceAdd, Nat.reduceMul, Nat.reducePow, Int.reduceLT, Int.reduceLE, Int.reduceEq, Nat.reduceEqDiff, tup2, hl.len]
      refine wp_loopI (fun j t h' => h' = h ∧ ∃ i : Nat, t 0 = .int .i64 d ∧ t 1 = vl ∧ t 7 = .int .i64 (lenN d) ∧ t 9 = .int .i64 (i : Nat) ∧ i ≤ lenN d ∧ (l.take i).any badC = false ∧ j = lenN d - i) (j0 := lenN d)
        ⟨rfl, 0, rfl, rfl, rfl, rfl, by omega, by simp, rfl⟩ ?_
      rintro j t h1 ⟨hh, i, e0, e1, e7, e9, hi, hp, hj⟩
      subst hh
      simp -implicitDefEqProofs (disch := first | assumption | decide | omega | (simp -implicitDefEqProofs only [wpD1] <;> omega) | (refine not_in_one ?_; first | omega | (simp -implicitDefEqProofs only [wpD1] <;> omega) | fail) | (simp -implicitDefEqProofs only [wpD2] <;> assumption) | ((repeat (first | exact HSub.refl _ | assumption | refine HSub.push ?_ _ | refine HSub.reserve ?_ _ | refine HSub.put ?_ (by omega) _)); done) | fail) only [↓wpPre, wpPost, wpPoly, Int.reduceToNat, Int.reducePow, Int.reduceMul, Int.reduceAdd, Int.reduceSub, Int.reduceNeg, Nat.reduceAdd, Nat.reduceMul, Nat.reducePow, Int.reduceLT, Int.reduceLE, Int.reduceEq, Nat.reduceEqDiff, e7, e9]
      refine Br.by (fun c3 => ?_) (fun c3 => ?_)
      · have hi' : i < l.length := by omega
        by_cases cb : l.getD i 0 = 1 ∨ l.getD i 0 = -1
        · have hb : badC (l.getD i 0) = false := by simp only [badC, decide_eq_false_iff_not]; omega
          have hnx := any_take_succ hi' hp hb
          rcases cb with cb | cb
          · simp -implicitDefEqProofs (disch := first | assumption | decide | omega | (simp -implicitDefEqProofs only [wpD1] <;> omega) | (refine not_in_one ?_; first | omega | (simp -implicitDefEqProofs only [wpD1] <;> omega) | fail) | (simp -implicitDefEqProofs only [wpD2] <;> assumption) | ((repeat (first | exact HSub.refl _ | assumption | refine HSub.push ?_ _ | refine HSub.reserve ?_ _ | refine HSub.put ?_ (by omega) _)); done) | fail) only [↓wpPre, wpPost, wpPoly, Int.reduceToNat, Int.reducePow, Int.reduceMul, Int.reduceAdd, Int.reduceSub, Int.reduceNeg, Nat.reduceAdd, Nat.reduceMul, Nat.reducePow, Int.reduceLT, Int.reduceLE, Int.reduceEq, Nat.reduceEqDiff, e0, e1, e7, e9, hl.idx, hl.load]
            exact ⟨_, ⟨i + 1, by simp, by omega, hnx, rfl⟩, by omega⟩
          · simp -implicitDefEqProofs (disch := first | assumption | decide | omega | (simp -implicitDefEqProofs only [wpD1] <;> omega) | (refine not_in_one ?_; first | omega | (simp -implicitDefEqProofs only [wpD1] <;> omega) | fail) | (simp -implicitDefEqProofs only [wpD2] <;> assumption) | ((repeat (first | exact HSub.refl _ | assumption | refine HSub.push ?_ _ | refine HSub.reserve ?_ _ | refine HSub.put ?_ (by omega) _)); done) | fail) only [↓wpPre, wpPost, wpPoly, Int.reduceToNat, Int.reducePow, Int.reduceMul, Int.reduceAdd, Int.reduceSub, Int.reduceNeg, Nat.reduceAdd, Nat.reduceMul, Nat.reducePow, Int.reduceLT, Int.reduceLE, Int.reduceEq, Nat.reduceEqDiff, e0, e1, e7, e9, hl.idx, hl.load]
            exact ⟨_, ⟨i + 1, by simp, by omega, hnx, rfl⟩, by omega⟩
        · have hb : l.any badC = true := List.any_eq_true.2 ⟨_, getD_mem hi', by simp only [badC, decide_eq_true_eq]; omega⟩
          have pe3 := pe3 hb
          simp -implicitDefEqProofs (disch := first | assumption | decide | omega | (simp -implicitDefEqProofs only [wpD1] <;> omega) | (refine not_in_one ?_; first | omega | (simp -implicitDefEqProofs only [wpD1] <;> omega) | fail) | (simp -implicitDefEqProofs only [wpD2] <;> assumption) | ((repeat (first | exact HSub.refl _ | assumption | refine HSub.push ?_ _ | refine HSub.reserve ?_ _ | refine HSub.put ?_ (by omega) _)); done) | fail) only [↓wpPre, wpPost, wpPoly, Int.reduceToNat, Int.reducePow, Int.reduceMul, Int.reduceAdd, Int.reduceSub, Int.reduceNeg, Nat.reduceAdd, Nat.reduceMul, Nat.reducePow, Int.reduceLT, Int.reduceLE, Int.reduceEq, Nat.reduceEqDiff, e0, e1, e7, e9, hl.idx, hl.load]
          exact ⟨pe3.symm, HSub.refl _⟩
      · have ei : i = l.length := by omega
        rw [ei, List.take_length] at hp
        have pe0 := pe0 hp
        simp -implicitDefEqProofs (disch := first | assumption | decide | omega | (simp -implicitDefEqProofs only [wpD1] <;> omega) | (refine not_in_one ?_; first | omega | (simp -implicitDefEqProofs only [wpD1] <;> omega) | fail) | (simp -implicitDefEqProofs only [wpD2] <;> assumption) | ((repeat (first | exact HSub.refl _ | assumption | refine HSub.push ?_ _ | refine HSub.reserve ?_ _ | refine HSub.put ?_ (by omega) _)); done) | fail) only [↓wpPre, wpPost, wpPoly, Int.reduceToNat, Int.reducePow, Int.reduceMul, Int.reduceAdd, Int.reduceSub, Int.reduceNeg, Nat.reduceAdd, Nat.reduceMul, Nat.reducePow, Int.reduceLT, Int.reduceLE, Int.reduceEq, Nat.reduceEqDiff]
        refine wp_loopI (fun j u h' => HSub h1 h' ∧ ∃ p : Nat, u 0 = .int .i64 d ∧ u 1 = vl ∧ u 7 = .int .i64 (lenN d) ∧ u 10 = .int .i64 (p : Nat) ∧ 1 ≤ p ∧ p ≤ lenN d + 3 ∧ (∀ p' : Nat, 1 ≤ p' → p' < p → ∀ q, q < lenN d → rotL (codeL d p') q ≠ l) ∧ j = lenN d + 3 - p) (j0 := lenN d + 2)
          ⟨HSub.refl _, 1, e0, e1, e7, rfl, by omega, by omega, by omega, rfl⟩ ?_
        rintro j u h2 ⟨s1, p, f0, f1, f7, f10, hp1, hp2, hne, hj⟩
        simp -implicitDefEqProofs (disch := first | assumption | decide | omega | (simp -implicitDefEqProofs only [wpD1] <;> omega) | (refine not_in_one ?_; first | omega | (simp -implicitDefEqProofs only [wpD1] <;> omega) | fail) | (simp -implicitDefEqProofs only [wpD2] <;> assumption) | ((repeat (first | exact HSub.refl _ | assumption | refine HSub.push ?_ _ | refine HSub.reserve ?_ _ | refine HSub.put ?_ (by omega) _)); done) | fail) only [↓wpPre, wpPost, wpPoly, Int.reduceToNat, Int.reducePow, Int.reduceMul, Int.reduceAdd, Int.reduceSub, Int.reduceNeg, Nat.reduceAdd, Nat.reduceMul, Nat.reducePow, Int.reduceLT, Int.reduceLE, Int.reduceEq, Nat.reduceEqDiff, f7, f10]
        refine Br.by (fun c4 => ?_) (fun c4 => ?_)
        · have cl := codeL_length d p
          simp -implicitDefEqProofs (disch := first | assumption | decide | omega | (simp -implicitDefEqProofs only [wpD1] <;> omega) | (refine not_in_one ?_; first | omega | (simp -implicitDefEqProofs only [wpD1] <;> omega) | fail) | (simp -implicitDefEqProofs only [wpD2] <;> assumption) | ((repeat (first | exact HSub.refl _ | assumption | refine HSub.push ?_ _ | refine HSub.reserve ?_ _ | refine HSub.put ?_ (by omega) _)); done) | fail) only [↓wpPre, wpPost, wpPoly, Int.reduceToNat, Int.reducePow, Int.reduceMul, Int.reduceAdd, Int.reduceSub, Int.reduceNeg, Nat.reduceAdd, Nat.reduceMul, Nat.reducePow, Int.reduceLT, Int.reduceLE, Int.reduceEq, Nat.reduceEqDiff, f0, f10]
          refine ACallsK.of (hcode hp1 (by omega)) ?_
          rintro r h3 ⟨v2, rfl, s2, R2⟩
          have s12 := s1.trans s2
          have hl3 := hl.mono s12
          simp -implicitDefEqProofs (disch := first | assumption | decide | omega | (simp -implicitDefEqProofs only [wpD1] <;> omega) | (refine not_in_one ?_; first | omega | (simp -implicitDefEqProofs only [wpD1] <;> omega) | fail) | (simp -implicitDefEqProofs only [wpD2] <;> assumption) | ((repeat (first | exact HSub.refl _ | assumption | refine HSub.push ?_ _ | refine HSub.reserve ?_ _ | refine HSub.put ?_ (by omega) _)); done) | fail) only [↓wpPre, wpPost, wpPoly, Int.reduceToNat, Int.reducePow, Int.reduceMul, Int.reduceAdd, Int.reduceSub, Int.reduceNeg, Nat.reduceAdd, Nat.reduceMul, Nat.reducePow, Int.reduceLT, Int.reduceLE, Int.reduceEq, Nat.reduceEqDiff, lstErr]
          refine wp_loopI (fun j w h' => h' = h3 ∧ ∃ k : Nat, w 0 = .int .i64 d ∧ w 1 = vl ∧ w 7 = .int .i64 (lenN d) ∧ w 10 = .int .i64 (p : Nat) ∧ w 11 = v2 ∧ w 13 = .int .i64 (k : Nat) ∧ k ≤ lenN d ∧ (∀ q, q < k → rotL (codeL d p) q ≠ l) ∧ j = lenN d - k) (j0 := lenN d)
            ⟨rfl, 0, f0, f1, f7, f10, rfl, rfl, by omega, by omega, rfl⟩ ?_
          rintro j w h4 ⟨hh, k, g0, g1, g7, g10, g11, g13, hk, hnk, hj⟩
          subst hh
          simp -implicitDefEqProofs (disch := first | assumption | decide | omega | (simp -implicitDefEqProofs only [wpD1] <;> omega) | (refine not_in_one ?_; first | omega | (simp -implicitDefEqProofs only [wpD1] <;> omega) | fail) | (simp -implicitDefEqProofs only [wpD2] <;> assumption) | ((repeat (first | exact HSub.refl _ | assumption | refine HSub.push ?_ _ | refine HSub.reserve ?_ _ | refine HSub.put ?_ (by omega) _)); done) | fail) only [↓wpPre, wpPost, wpPoly, Int.reduceToNat, Int.reducePow, Int.reduceMul, Int.reduceAdd, Int.reduceSub, Int.reduceNeg, Nat.reduceAdd, Nat.reduceMul, Nat.reducePow, Int.reduceLT, Int.reduceLE, Int.reduceEq, Nat.reduceEqDiff, g7, g13]
          refine Br.by (fun c5 => ?_) (fun c5 => ?_)
          · simp -implicitDefEqProofs (disch := first | assumption | decide | omega | (simp -implicitDefEqProofs only [wpD1] <;> omega) | (refine not_in_one ?_; first | omega | (simp -implicitDefEqProofs only [wpD1] <;> omega) | fail) | (simp -implicitDefEqProofs only [wpD2] <;> assumption) | ((repeat (first | exact HSub.refl _ | assumption | refine HSub.push ?_ _ | refine HSub.reserve ?_ _ | refine HSub.put ?_ (by omega) _)); done) | fail) only [↓wpPre, wpPost, wpPoly, Int.reduceToNat, Int.reducePow, Int.reduceMul, Int.reduceAdd, Int.reduceSub, Int.reduceNeg, Nat.reduceAdd, Nat.reduceMul, Nat.reducePow, Int.reduceLT, Int.reduceLE, Int.reduceEq, Nat.reduceEqDiff, g1, g11, g13]
            refine ACallsK.eq (rotated_spec (hC.sub (T' := T98) (by decide)) hl3 R2 (by omega) (by omega) (by omega)) ?_
            simp -implicitDefEqProofs (disch := first | assumption | decide | omega | (simp -implicitDefEqProofs only [wpD1] <;> omega) | (refine not_in_one ?_; first | omega | (simp -implicitDefEqProofs only [wpD1] <;> omega) | fail) | (simp -implicitDefEqProofs only [wpD2] <;> assumption) | ((repeat (first | exact HSub.refl _ | assumption | refine HSub.push ?_ _ | refine HSub.reserve ?_ _ | refine HSub.put ?_ (by omega) _)); done) | fail) only [↓wpPre, wpPost, wpPoly, Int.reduceToNat, Int.reducePow, Int.reduceMul, Int.reduceAdd, Int.reduceSub, Int.reduceNeg, Nat.reduceAdd, Nat.reduceMul, Nat.reducePow, Int.reduceLT, Int.reduceLE, Int.reduceEq, Nat.reduceEqDiff]
            refine Br.by (fun c6 => ?_) (fun c6 => ?_)
            · simp -implicitDefEqProofs (disch := first | assumption | decide | omega | (simp -implicitDefEqProofs only [wpD1] <;> omega) | (refine not_in_one ?_; first | omega | (simp -implicitDefEqProofs only [wpD1] <;> omega) | fail) | (simp -implicitDefEqProofs only [wpD2] <;> assumption) | ((repeat (first | exact HSub.refl _ | assumption | refine HSub.push ?_ _ | refine HSub.reserve ?_ _ | refine HSub.put ?_ (by omega) _)); done) | fail) only [↓wpPre, wpPost, wpPoly, Int.reduceToNat, Int.reducePow, Int.reduceMul, Int.reduceAdd, Int.reduceSub, Int.reduceNeg, Nat.reduceAdd, Nat.reduceMul, Nat.reducePow, Int.reduceLT, Int.reduceLE, Int.reduceEq, Nat.reduceEqDiff, g10, g13]
              exact ⟨(FindR.unique (.inl ⟨p, k, hp1, by omega, by omega, c6, hnk, hne, rfl⟩) hr).trans pe0.symm, s12⟩
            · simp -implicitDefEqProofs (disch := first | assumption | decide | omega | (simp -implicitDefEqProofs only [wpD1] <;> omega) | (refine not_in_one ?_; first | omega | (simp -implicitDefEqProofs only [wpD1] <;> omega) | fail) | (simp -implicitDefEqProofs only [wpD2] <;> assumption) | ((repeat (first | exact HSub.refl _ | assumption | refine HSub.push ?_ _ | refine HSub.reserve ?_ _ | refine HSub.put ?_ (by omega) _)); done) | fail) only [↓wpPre, wpPost, wpPoly, Int.reduceToNat, Int.reducePow, Int.reduceMul, Int.reduceAdd, Int.reduceSub, Int.reduceNeg, Nat.reduceAdd, Nat.reduceMul, Nat.reducePow, Int.reduceLT, Int.reduceLE, Int.reduceEq, Nat.reduceEqDiff, g0, g1, g7, g10, g11, g13]
              exact ⟨_, ⟨k + 1, by simp, by omega, fun q hq => by
                by_cases e : q = k
                · subst e; exact c6
                · exact hnk q (by omega), rfl⟩, by omega⟩
          · simp -implicitDefEqProofs (disch := first | assumption | decide | omega | (simp -implicitDefEqProofs only [wpD1] <;> omega) | (refine not_in_one ?_; first | omega | (simp -implicitDefEqProofs only [wpD1] <;> omega) | fail) | (simp -implicitDefEqProofs only [wpD2] <;> assumption) | ((repeat (first | exact HSub.refl _ | assumption | refine HSub.push ?_ _ | refine HSub.reserve ?_ _ | refine HSub.put ?_ (by omega) _)); done) | fail) only [↓wpPre, wpPost, wpPoly, Int.reduceToNat, Int.reducePow, Int.reduceMul, Int.reduceAdd, Int.reduceSub, Int.reduceNeg, Nat.reduceAdd, Nat.reduceMul, Nat.reducePow, Int.reduceLT, Int.reduceLE, Int.reduceEq, Nat.reduceEqDiff, g0, g1, g7, g10]
            exact ⟨_, ⟨s12, p + 1, by simp, by omega, by omega, fun p' a1 a2 q hq => by
              by_cases e : p' = p
              · subst e; exact hnk q (by omega)
              · exact hne p' a1 (by omega) q hq, rfl⟩, by omega⟩
        · simp -implicitDefEqProofs (disch := first | assumption | decide | omega | (simp -implicitDefEqProofs only [wpD1] <;> omega) | (refine not_in_one ?_; first | omega | (simp -implicitDefEqProofs only [wpD1] <;> omega) | fail) | (simp -implicitDefEqProofs only [wpD2] <;> assumption) | ((repeat (first | exact HSub.refl _ | assumption | refine HSub.push ?_ _ | refine HSub.reserve ?_ _ | refine HSub.put ?_ (by omega) _)); done) | fail) only [↓wpPre, wpPost, wpPoly, Int.reduceToNat, Int.reducePow, Int.reduceMul, Int.reduceAdd, Int.reduceSub, Int.reduceNeg, Nat.reduceAdd, Nat.reduceMul, Nat.reducePow, Int.reduceLT, Int.reduceLE, Int.reduceEq, Nat.reduceEqDiff]
          exact ⟨(FindR.unique (.inr ⟨fun p' a1 a2 q hq => hne p' a1 (by omega) q hq, rfl⟩) hr).trans pe0.symm, s1⟩
  · have eL : lenE d = tup2 0 2 := by unfold lenE; rw [if_neg c]
    rw [if_neg c] at pe
    rw [pe, if_neg (by decide)]
    (refine calls_intro (hC.body (by decide) tab86) (Nat.le_of_ble_eq_true rfl) ?_); (show wp C _ none B86.code _ _); (simp only [B86]); simp -implicitDefEqProofs (disch := first | assumption | decide | omega | (simp -implicitDefEqProofs only [wpD1] <;> omega) | (refine not_in_one ?_; first | omega | (simp -implicitDefEqProofs only [wpD1] <;> omega) | fail) | (simp -implicitDefEqProofs only [wpD2] <;> assumption) | ((repeat (first | exact HSub.refl _ | assumption | refine HSub.push ?_ _ | refine HSub.reserve ?_ _ | refine HSub.put ?_ (by omega) _)); done) | fail) only [↓wpPre, wpPost, wpPoly, Int.reduceToNat, Int.reducePow, Int.reduceMul, Int.reduceAdd, Int.reduceSub, Int.reduceNeg, Nat.reduceAdd, Nat.reduceMul, Nat.reducePow, Int.reduceLT, Int.reduceLE, Int.reduceEq, Nat.reduceEqDiff]
    refine ACallsK.eq2 (Length08_spec (hC.sub (T' := T71) (by decide)) hd) eL ?_
    simp -implicitDefEqProofs (disch := first | assumption | decide | omega | (simp -implicitDefEqProofs only [wpD1] <;> omega) | (refine not_in_one ?_; first | omega | (simp -implicitDefEqProofs only [wpD1] <;> omega) | fail) | (simp -implicitDefEqProofs only [wpD2] <;> assumption) | ((repeat (first | exact HSub.refl _ | assumption | refine HSub.push ?_ _ | refine HSub.reserve ?_ _ | refine HSub.put ?_ (by omega) _)); done) | fail) only [↓wpPre, wpPost, wpPoly, Int.reduceToNat, Int.reducePow, Int.reduceMul, Int.reduceAdd, Int.reduceSub, Int.reduceNeg, Nat.reduceAdd, Nat.reduceMul, Nat.reducePow, Int.reduceLT, Int.reduceLE, Int.reduceEq, Nat.reduceEqDiff, tup2]
    exact ⟨rfl, HSub.refl _⟩
end
end Go.Ae

/- Rotations of codes are all different. -/
set_option linter.unusedSimpArgs false
set_option linter.unusedVariables false
namespace Go.Ae
def smallD (d : Int) : Prop := d = 5 ∨ d = 6 ∨ d = 7
theorem smallD.len {d : Int} (h : smallD d) : lenOk d = true ∧ 31 ≤ lenN d ∧ lenN d ≤ 127 ∧ (thrT d = 9 ∨ (thrT d = 17 ∧ 63 ≤ lenN d)) := by
  rcases h with rfl | rfl | rfl <;> decide
theorem codeL_pm {d p : Int} {i : Nat} (h : i < lenN d) : (codeL d p).getD i 0 = 1 ∨ (codeL d p).getD i 0 = -1 := by
  rw [codeL_get h]
  rcases codeB_01 d p i with h | h <;> rw [h] <;> simp
theorem codeL_rot {d p : Int} {k i : Nat} (hi : i < lenN d) : (rotL (codeL d p) k).getD i 0 = (codeL d p).getD ((i + k) % lenN d) 0 := by
  have := rotL_get (c := codeL d p) (k := k) (i := i) (by rw [codeL_length]; exact hi)
  rw [codeL_length] at this; exact this
/-- The sum of products of two rotated codes. -/
theorem prod_rot {d : Int} (hn : 0 < lenN d) (p q a b : Nat) (ha : a < lenN d) : isum (fun i => (rotL (codeL d p) a).getD i 0 * (rotL (codeL d q) b).getD i 0) (lenN d) = prodS d p q ((b + (lenN d - a)) % lenN d) := by
  have e1 : isum (fun i => (rotL (codeL d p) a).getD i 0 * (rotL (codeL d q) b).getD i 0) (lenN d) = isum (fun i => (fun j => (codeL d p).getD (j % lenN d) 0 * (codeL d q).getD ((j + (b + (lenN d - a)) % lenN d) % lenN d) 0) (i + a)) (lenN d) := by
    refine isum_congr _ fun i hi => ?_
    rw [codeL_rot hi, codeL_rot hi]
    show _ = (codeL d p).getD ((i + a) % lenN d) 0 * (codeL d q).getD ((i + a + (b + (lenN d - a)) % lenN d) % lenN d) 0
    have : (i + a + (b + (lenN d - a)) % lenN d) % lenN d = (i + b) % lenN d := by
      rw [Nat.add_mod_mod, show i + a + (b + (lenN d - a)) = i + b + lenN d by omega, Nat.add_mod_right]
    rw [this]
  rw [e1, isum_shift (f := fun j => (codeL d p).getD (j % lenN d) 0 * (codeL d q).getD ((j + (b + (lenN d - a)) % lenN d) % lenN d) 0) (fun i => by
    rw [Nat.add_mod_right, show i + lenN d + (b + (lenN d - a)) % lenN d = i + (b + (lenN d - a)) % lenN d + lenN d by omega, Nat.add_mod_right]) a]
  refine isum_congr _ fun i hi => ?_
  rw [Nat.mod_eq_of_lt hi]
theorem isum_ones : ∀ m : Nat, isum (fun _ => 1) m = m
  | 0 => rfl
  | m + 1 => by simp only [isum, isum_ones m]; omega
theorem rot_inj {d : Int} (hd : smallD d) {p q a b : Nat} (hp : 1 ≤ p ∧ p ≤ lenN d + 2) (hq : 1 ≤ q ∧ q ≤ lenN d + 2) (ha : a < lenN d) (hb : b < lenN d) (h : rotL (codeL d p) a = rotL (codeL d q) b) : p = q ∧ a = b := by
  have hl := hd.len
  have h1 := prod_rot (d := d) (by omega) p q a b ha
  have h2 : isum (fun i => (rotL (codeL d p) a).getD i 0 * (rotL (codeL d q) b).getD i 0) (lenN d) = lenN d := by
    rw [isum_congr (g := fun _ => 1) _ (fun i hi => by
      rw [h, codeL_rot hi]
      have hm : (i + b) % lenN d < lenN d := Nat.mod_lt _ (by omega)
      rcases codeL_pm (p := q) hm with e | e <;> rw [e] <;> rfl), isum_ones]
  rw [h2] at h1
  rcases three hd hp hq (Nat.mod_lt (b + (lenN d - a)) (show 0 < lenN d by omega)) with ⟨e, hk, _⟩ | ⟨_, h3⟩
  · refine ⟨e, ?_⟩
    by_cases c : b + (lenN d - a) < lenN d
    · rw [Nat.mod_eq_of_lt c] at hk; omega
    · rw [Nat.mod_eq_sub_mod (by omega), Nat.mod_eq_of_lt (by omega)] at hk; omega
  · exfalso; omega
/-- A rotation of a code is found. -/
theorem find_rot {d : Int} (hd : smallD d) {p k : Nat} (hp : 1 ≤ p ∧ p ≤ lenN d + 2) (hk : k < lenN d) : FindR d (rotL (codeL d p) k) (tup3 p k 0) := by
  refine .inl ⟨p, k, hp.1, hp.2, hk, rfl, fun q hq e => ?_, fun p' h1 h2 q hq e => ?_, rfl⟩
  · have := (rot_inj hd hp hp (by omega) hk e).2; omega
  · have := (rot_inj hd ⟨h1, by omega⟩ hp hq hk e).1; omega
theorem isum_set {l : List Int} {m : Nat} {f : Nat → Int} {y : Int} (hm : m < l.length) : ∀ n, n ≤ l.length → isum (fun i => (l.set m y).getD i 0 * f i) n = isum (fun i => l.getD i 0 * f i) n + if m < n then (y - l.getD m 0) * f m else 0
  | 0, _ => by simp [isum]
  | n + 1, hn => by
    simp only [isum, isum_set hm n (by omega)]
    by_cases c : m = n
    · subst c
      have : (l.set m y).getD m 0 = y := by simp [hm]
      rw [this, if_neg (by omega), if_pos (by omega), Int.sub_mul]; omega
    · have : (l.set m y).getD n 0 = l.getD n 0 := by simp [List.getElem?_set, c]
      rw [this]
      by_cases c2 : m < n
      · rw [if_pos c2, if_pos (by omega)]; omega
      · rw [if_neg c2, if_neg (by omega)]; omega
/-- A rotation of a code with one chip turned round is not found. -/
theorem find_turned {d : Int} (hd : smallD d) {p k m : Nat} (hp : 1 ≤ p ∧ p ≤ lenN d + 2) (hk : k < lenN d) (hm : m < lenN d) : FindR d ((rotL (codeL d p) k).set m (-(rotL (codeL d p) k).getD m 0)) (tup3 0 0 18) := by
  have hl := hd.len
  refine .inr ⟨fun p' h1 h2 q hq e => ?_, rfl⟩
  have hlen : (rotL (codeL d p) k).length = lenN d := by rw [rotL_length, codeL_length]
  have h3 := prod_rot (d := d) (by omega) p' p q k hq
  have h4 : isum (fun i => (rotL (codeL d p) k).getD i 0 * (rotL (codeL d p) k).getD i 0) (lenN d) = lenN d := by
    rw [isum_congr (g := fun _ => 1) _ (fun i hi => by
      rw [codeL_rot hi]
      have hm : (i + k) % lenN d < lenN d := Nat.mod_lt _ (by omega)
      rcases codeL_pm (p := p) hm with e | e <;> rw [e] <;> rfl), isum_ones]
  rw [e, isum_set (by omega) _ (by omega), if_pos hm, h4] at h3
  have h5 : (rotL (codeL d p) k).getD m 0 = 1 ∨ (rotL (codeL d p) k).getD m 0 = -1 := by
    rw [codeL_rot hm]; exact codeL_pm (Nat.mod_lt _ (by omega))
  have h6 : (-(rotL (codeL d p) k).getD m 0 - (rotL (codeL d p) k).getD m 0) * (rotL (codeL d p) k).getD m 0 = -2 := by rcases h5 with h | h <;> rw [h] <;> rfl
  rw [h6] at h3
  rcases three hd ⟨h1, h2⟩ hp (Nat.mod_lt (k + (lenN d - q)) (show 0 < lenN d by omega)) with ⟨_, _, h7⟩ | ⟨_, h7⟩ <;> omega

/-! ### The examples -/
def u5 : List Int := [1, 1, 1, 1, 1, 0, 0, 0, 1, 1, 0, 1, 1, 1, 0, 1, 0, 1, 0, 0, 0, 0, 1, 0, 0, 1, 0, 1, 1, 0, 0]
theorem bits51 : bitsL 5 1 = u5 := by decide +kernel
def v5 : List Int := runL [0, 2, 3, 4] [1, 1, 1, 1, 1] 31
section
variable {C : Ctx}
theorem Rotated_spec (hC : Has C T87) {v : AV} {l : List Int} {k : Nat} {h : Heap} (hl : RI h v l) (hn : l.length ≤ 100000) (hk : k ≤ 100000) : ACalls C 87 [v, .int .i64 (k : Nat)] h (fun r h' => GrwI h h' r (rotL l k)) := by
  have ll := hl.lt
  have pl : ∀ i, ((List.range i).map fun j => l.getD ((j + k) % l.length) 0).length = i := fun i => by simp
  have ps : ∀ i, ((List.range (i + 1)).map fun j => l.getD ((j + k) % l.length) 0) = ((List.range i).map fun j => l.getD ((j + k) % l.length) 0) ++ [l.getD ((i + k) % l.length) 0] := fun i => by simp [List.range_succ]
  (refine calls_intro (hC.body (by decide) tab87) (Nat.le_of_ble_eq_true rfl) ?_); (show wp C _ none B87.code _ _); (simp only [B87]); simp -implicitDefEqProofs (disch := first | assumption | decide | omega | (simp -implicitDefEqProofs only [wpD1] <;> omega) | (refine not_in_one ?_; first | omega | (simp -implicitDefEqProofs only [wpD1] <;> omega) | fail) | (simp -implicitDefEqProofs only [wpD2] <;> assumption) | ((repeat (first | exact HSub.refl _ | assumption | refine HSub.push ?_ _ | refine HSub.reserve ?_ _ | refine HSub.put ?_ (by omega) _)); done) | fail) only [↓wpPre, wpPost, wpPoly, Int.reduceToNat, Int.reducePow, Int.reduceMul, Int.reduceAdd, Int.reduceSub, Int.reduceNeg, Nat.reduceAdd, Nat.reduceMul, Nat.reducePow, Int.reduceLT, Int.reduceLE, Int.reduceEq, Nat.reduceEqDiff]
  refine wp_loopI (fun j t h' => ∃ i : Nat, GrwI h h' (t 5) ((List.range i).map fun j => l.getD ((j + k) % l.length) 0) ∧ t 0 = v ∧ t 1 = .int .i64 (k : Nat) ∧ t 6 = .int .i64 (i : Nat) ∧ i ≤ l.length ∧ j = l.length - i) (j0 := l.length)
    ⟨0, GrwI.nil h, rfl, rfl, rfl, by omega, rfl⟩ ?_
  rintro j t h' ⟨i, A, e0, e1, e6, hi, hj⟩
  have hl1 := hl.mono A.sub
  simp -implicitDefEqProofs (disch := first | assumption | decide | omega | (simp -implicitDefEqProofs only [wpD1] <;> omega) | (refine not_in_one ?_; first | omega | (simp -implicitDefEqProofs only [wpD1] <;> omega) | fail) | (simp -implicitDefEqProofs only [wpD2] <;> assumption) | ((repeat (first | exact HSub.refl _ | assumption | refine HSub.push ?_ _ | refine HSub.reserve ?_ _ | refine HSub.put ?_ (by omega) _)); done) | fail) only [↓wpPre, wpPost, wpPoly, Int.reduceToNat, Int.reducePow, Int.reduceMul, Int.reduceAdd, Int.reduceSub, Int.reduceNeg, Nat.reduceAdd, Nat.reduceMul, Nat.reducePow, Int.reduceLT, Int.reduceLE, Int.reduceEq, Nat.reduceEqDiff, e0, e6, hl1.len]
  refine Br.by (fun c => ?_) (fun c => ?_)
  · have hi' : i < l.length := by omega
    simp -implicitDefEqProofs (disch := first | assumption | decide | omega | (simp -implicitDefEqProofs only [wpD1] <;> omega) | (refine not_in_one ?_; first | omega | (simp -implicitDefEqProofs only [wpD1] <;> omega) | fail) | (simp -implicitDefEqProofs only [wpD2] <;> assumption) | ((repeat (first | exact HSub.refl _ | assumption | refine HSub.push ?_ _ | refine HSub.reserve ?_ _ | refine HSub.put ?_ (by omega) _)); done) | fail) only [↓wpPre, wpPost, wpPoly, Int.reduceToNat, Int.reducePow, Int.reduceMul, Int.reduceAdd, Int.reduceSub, Int.reduceNeg, Nat.reduceAdd, Nat.reduceMul, Nat.reducePow, Int.reduceLT, Int.reduceLE, Int.reduceEq, Nat.reduceEqDiff, e0, e1, e6, hl1.len]
    refine ACallsK.eq (Turn_spec (hC.sub (T' := T23) (by decide)) (by unfold In64; omega) (by omega)) ?_
    have em : ((i : Int) + k) % (l.length : Int) = (((i + k) % l.length : Nat) : Int) := by rw [← Int.natCast_add]; exact (Int.natCast_emod _ _).symm
    have hm : (i + k) % l.length < l.length := Nat.mod_lt _ (by omega)
    have pli := pl i
    have psi := ps i
    have A2 := A.snoc (x := l.getD ((i + k) % l.length) 0) (HSub.push1 h' (.cells [.int .i64 (l.getD ((i + k) % l.length) 0)] true 0)) (by omega)
    rw [← psi, pli] at A2
    simp -implicitDefEqProofs (disch := first | assumption | decide | omega | (simp -implicitDefEqProofs only [wpD1] <;> omega) | (refine not_in_one ?_; first | omega | (simp -implicitDefEqProofs only [wpD1] <;> omega) | fail) | (simp -implicitDefEqProofs only [wpD2] <;> assumption) | ((repeat (first | exact HSub.refl _ | assumption | refine HSub.push ?_ _ | refine HSub.reserve ?_ _ | refine HSub.put ?_ (by omega) _)); done) | fail) only [↓wpPre, wpPost, wpPoly, Int.reduceToNat, Int.reducePow, Int.reduceMul, Int.reduceAdd, Int.reduceSub, Int.reduceNeg, Nat.reduceAdd, Nat.reduceMul, Nat.reducePow, Int.reduceLT, Int.reduceLE, Int.reduceEq, Nat.reduceEqDiff, e0, e1, e6, em, hl1.idx, hl1.load, cont_slice, contB_one, A.app, pli, ← psi]
    exact ⟨_, ⟨i + 1, A2, by simp, by omega, rfl⟩, by omega⟩
  · have ei : i = l.length := by omega
    rw [ei] at A
    simp -implicitDefEqProofs (disch := first | assumption | decide | omega | (simp -implicitDefEqProofs only [wpD1] <;> omega) | (refine not_in_one ?_; first | omega | (simp -implicitDefEqProofs only [wpD1] <;> omega) | fail) | (simp -implicitDefEqProofs only [wpD2] <;> assumption) | ((repeat (first | exact HSub.refl _ | assumption | refine HSub.push ?_ _ | refine HSub.reserve ?_ _ | refine HSub.put ?_ (by omega) _)); done) | fail) only [↓wpPre, wpPost, wpPoly, Int.reduceToNat, Int.reducePow, Int.reduceMul, Int.reduceAdd, Int.reduceSub, Int.reduceNeg, Nat.reduceAdd, Nat.reduceMul, Nat.reducePow, Int.reduceLT, Int.reduceLE, Int.reduceEq, Nat.reduceEqDiff]
    exact A
theorem Degree_spec (hC : Has C T88) {x : Int} {h : Heap} (hx : In64 x) : ACalls C 88 [.int .i64 x] h (fun r h' => r = .int .i64 (5 + x % 3) ∧ h' = h) := by
  have h1 := Int.emod_nonneg x (show (3 : Int) ≠ 0 by decide)
  have h2 := Int.emod_lt_of_pos x (show (0 : Int) < 3 by decide)
  (refine calls_intro (hC.body (by decide) tab88) (Nat.le_of_ble_eq_true rfl) ?_); (show wp C _ none B88.code _ _); (simp only [B88]); simp -implicitDefEqProofs (disch := first | assumption | decide | omega | (simp -implicitDefEqProofs only [wpD1] <;> omega) | (refine not_in_one ?_; first | omega | (simp -implicitDefEqProofs only [wpD1] <;> omega) | fail) | (simp -implicitDefEqProofs only [wpD2] <;> assumption) | ((repeat (first | exact HSub.refl _ | assumption | refine HSub.push ?_ _ | refine HSub.reserve ?_ _ | refine HSub.put ?_ (by omega) _)); done) | fail) only [↓wpPre, wpPost, wpPoly, Int.reduceToNat, Int.reducePow, Int.reduceMul, Int.reduceAdd, Int.reduceSub, Int.reduceNeg, Nat.reduceAdd, Nat.reduceMul, Nat.reducePow, Int.reduceLT, Int.reduceLE, Int.reduceEq, Nat.reduceEqDiff]
  refine ACallsK.eq (Turn_spec (hC.sub (T' := T23) (by decide)) hx (by decide)) ?_
  simp -implicitDefEqProofs (disch := first | assumption | decide | omega | (simp -implicitDefEqProofs only [wpD1] <;> omega) | (refine not_in_one ?_; first | omega | (simp -implicitDefEqProofs only [wpD1] <;> omega) | fail) | (simp -implicitDefEqProofs only [wpD2] <;> assumption) | ((repeat (first | exact HSub.refl _ | assumption | refine HSub.push ?_ _ | refine HSub.reserve ?_ _ | refine HSub.put ?_ (by omega) _)); done) | fail) only [↓wpPre, wpPost, wpPoly, Int.reduceToNat, Int.reducePow, Int.reduceMul, Int.reduceAdd, Int.reduceSub, Int.reduceNeg, Nat.reduceAdd, Nat.reduceMul, Nat.reducePow, Int.reduceLT, Int.reduceLE, Int.reduceEq, Nat.reduceEqDiff]
end
end Go.Ae

/- The examples of layer 8, by contracts. -/
set_option linter.unusedSimpArgs false
set_option linter.unusedVariables false
namespace Go.Ae
theorem kb1 : (bitsL 5 1).take 10 = [1, 1, 1, 1, 1, 0, 0, 0, 1, 1] := by rw [bits51]; rfl
theorem kb2 : (bitsL 5 2).take 10 = [1, 1, 1, 1, 1, 0, 1, 1, 1, 0] := by decide +kernel
theorem kc1 : (codeL 5 1).take 5 = [-1, -1, -1, -1, -1] := by decide +kernel
theorem kc3 : (codeL 5 3).take 5 = [1, 1, 1, 1, 1] := by decide +kernel
theorem ks1 : sumE 5 1 = tup2 (-1) 0 := by
  have h : (codeL 5 1).sum = -1 := by decide +kernel
  have h0 : codeErr 5 1 = 0 := by decide
  unfold sumE; rw [if_pos h0, h]
theorem some1 : ∀ p : Nat, 1 ≤ p → p ≤ 33 → ∃ i, i < 31 ∧ codeB 5 p i = 1 := by
  have h : ((List.range 34).all fun p => p == 0 || (List.range 31).any fun i => codeB 5 (p : Nat) i == 1) = true := by decide +kernel
  intro p h1 h2
  have := List.all_eq_true.1 h p (List.mem_range.2 (by omega))
  rw [Bool.or_eq_true] at this
  rcases this with h3 | h3
  · have : p = 0 := by simpa using h3
    omega
  · obtain ⟨i, hi, h4⟩ := List.any_eq_true.1 h3
    exact ⟨i, List.mem_range.1 hi, by simpa using h4⟩
def ones31 : List Int := List.replicate 31 1
theorem len5 : lenN 5 = 31 := by decide
theorem find_ones : FindR 5 ones31 (tup3 0 0 18) := by
  refine .inr ⟨fun p h1 h2 q hq e => ?_, rfl⟩
  rw [len5] at h2 hq
  obtain ⟨i, hi, hb⟩ := some1 p h1 h2
  have hj : (i + (31 - q)) % 31 < lenN 5 := by rw [len5]; exact Nat.mod_lt _ (by decide)
  have h3 := codeL_rot (d := 5) (p := p) (k := q) hj
  rw [e, len5, Nat.mod_add_mod, show i + (31 - q) + q = i + 31 by omega, Nat.add_mod_right, Nat.mod_eq_of_lt hi, codeL_get (by rw [len5]; exact hi), hb] at h3
  rw [len5] at hj
  have h4 : ones31.getD ((i + (31 - q)) % 31) 0 = 1 := by
    unfold ones31
    rw [List.getD_eq_getElem?_getD, List.getElem?_replicate, if_pos hj]; rfl
  rw [h4] at h3
  exact absurd h3 (by decide)
theorem rot_ones : rotL ones31 0 = ones31 := by decide
theorem findErr_rot {d : Int} (hd : smallD d) {p k : Nat} : findErr d (rotL (codeL d p) k) = 0 := by
  have hl := hd.len
  unfold findErr
  rw [if_pos hl.1, if_neg]
  rintro (h | h)
  · exact h (by rw [rotL_length, codeL_length])
  · obtain ⟨x, hx, hb⟩ := List.any_eq_true.1 h
    obtain ⟨i, hi, rfl⟩ := List.mem_map.1 hx
    rw [List.mem_range, codeL_length] at hi
    have hm : (i + k) % (codeL d p).length < lenN d := by rw [codeL_length]; exact Nat.mod_lt _ (by omega)
    have := codeL_pm (p := p) hm
    simp only [badC, decide_eq_true_eq] at hb
    omega
theorem per1 : IsPeriod [0, 1] [1, 0, 0] 7 := ⟨by decide, by decide, fun j h1 h2 => by
  rcases (show j = 1 ∨ j = 2 ∨ j = 3 ∨ j = 4 ∨ j = 5 ∨ j = 6 by omega) with rfl | rfl | rfl | rfl | rfl | rfl <;> decide⟩
theorem per2 : IsPeriod [0, 1] [0, 0, 0] 1 := ⟨by decide, by decide, fun j h1 h2 => by omega⟩
theorem per3 : IsPeriod [0] [1, 0] 2 := ⟨by decide, by decide, fun j h1 h2 => by
  have : j = 1 := by omega
  subst this; decide⟩
theorem lenE10 : lenE 10 = tup2 1023 0 := by unfold lenE; rw [if_pos (by decide), show lenN 10 = 1023 by decide]; rfl
theorem lenE8 : lenE 8 = tup2 0 2 := by unfold lenE; rw [if_neg (by decide)]
section
variable {C : Ctx}
theorem lit2 {h : Heap} {a b : List Int} : RI ((h.push (.cells (ints a) true 0)).push (.cells (ints b) true 0)) (.slice h.size 0 a.length (.known a.length)) a ↔ a.length < 9223372036854775808 :=
  ⟨fun H => H.lt, fun hl => RI.known ((get_push_lt (by simp)).trans (get_push_eq rfl)) ⟨rfl, hl⟩ (Nat.le_refl _)⟩
theorem Per_lit (hC : Has C T83) {n : Int} {a b : List Int} {K : Nat} {h : Heap} (hl : a.length < 9223372036854775808 ∧ b.length < 9223372036854775808) (e : regErr n a b = 0) (hK : IsPeriod a b K) (hK2 : K ≤ 65536) :
    ACalls C 83 [.int .i64 n, .slice h.size 0 a.length (.known a.length), .slice (h.size + 1) 0 b.length (.known b.length)] ((h.push (.cells (ints a) true 0)).push (.cells (ints b) true 0)) (fun r h' => r = tup2 K 0 ∧ HSub h h') := by
  refine (Period_spec hC (lit2.2 hl.1) (RI.known (l := b) (get_push_eq rfl) ⟨rfl, hl.2⟩ (Nat.le_refl _)) (fun _ => hK) hK2).mono ?_
  rintro r h' ⟨rfl, s⟩
  exact ⟨by rw [if_pos e], ((HSub.push1 _ _).push _).trans s⟩
set_option maxRecDepth 100000 in
set_option maxHeartbeats 4000000 in
theorem known08_spec (hC : Has C T65) {h : Heap} : ACalls C 65 [] h (fun r h' => r = .bool true ∧ HSub h h') := by
  have i5 : In64 5 := by unfold In64; omega
  have i1 : In64 1 := by unfold In64; omega
  have i2 : In64 2 := by unfold In64; omega
  have sd : smallD 5 := .inl rfl
  have hB : ∀ {w : Int} {h : Heap}, (w = 1 ∨ w = 2) → ACalls C 74 [.int .i64 5, .int .i64 w] h (fun r h' => ∃ v, r = lstErr v 0 ∧ HSub h h' ∧ RI h' v (bitsL 5 w)) := by
    intro w h hw
    have e : tapsErr 5 w = 0 := by unfold tapsErr; rw [if_pos ⟨by decide, hw⟩]
    refine (Bits_spec (hC.sub (T' := T74) (by decide)) i5 (by unfold In64; omega)).mono ?_
    rintro r h' ⟨v, a1, a2, a3, _⟩
    rw [e, if_pos rfl] at a3
    exact ⟨v, by rw [a1, e], a2, a3⟩
  have hCo : ∀ {p : Int} {h : Heap}, 1 ≤ p → p ≤ 33 → ACalls C 76 [.int .i64 5, .int .i64 p] h (fun r h' => ∃ v, r = lstErr v 0 ∧ HSub h h' ∧ RI h' v (codeL 5 p)) := by
    intro p h h1 h2
    have e : codeErr 5 p = 0 := by unfold codeErr; rw [if_pos ⟨by decide, h1, by rw [len5]; omega⟩]
    refine (Code_spec (hC.sub (T' := T76) (by decide)) i5 (by unfold In64; omega)).mono ?_
    rintro r h' ⟨v, a1, a2, a3, _⟩
    rw [e, if_pos rfl] at a3
    exact ⟨v, by rw [a1, e], a2, a3⟩
  have hCe : ∀ {p : Int} {h : Heap}, In64 p → codeErr 5 p = 2 → ACalls C 76 [.int .i64 5, .int .i64 p] h (fun r h' => ∃ v, r = lstErr v 2 ∧ HSub h h') := by
    intro p h hp e
    refine (Code_spec (hC.sub (T' := T76) (by decide)) i5 hp).mono ?_
    rintro r h' ⟨v, a1, a2, _⟩
    exact ⟨v, by rw [a1, e], a2⟩
  have hF : ∀ {v : AV} {l : List Int} {h : Heap} {a b c : Int}, RI h v l → findErr 5 l = 0 → FindR 5 l (tup3 a b c) → ACalls C 85 [.int .i64 5, v] h (fun r h' => r = tup3 a b c ∧ HSub h h') := by
    intro v l h a b c hv e hr
    refine (Find_spec (hC.sub (T' := T85) (by decide)) i5 hv hr).mono ?_
    rintro r h' ⟨rfl, s⟩
    exact ⟨by rw [if_pos e], s⟩
  have lb : ∀ w, (bitsL 5 w).length = 31 := fun w => by rw [bitsL_length, len5]
  have lc : ∀ p, (codeL 5 p).length = 31 := fun p => by rw [codeL_length, len5]
  have F7 := find_rot sd (p := 7) (k := 12) (by rw [len5]; omega) (by rw [len5]; omega)
  have E7 := findErr_rot sd (p := 7) (k := 12)
  have EO : findErr 5 ones31 = 0 := by decide
  have FN := FindR.exists 5 []
  obtain ⟨na, nb, nc, FN⟩ := FN
  have EN : findErr 5 [] = 3 := by decide
  have SN := fun h => Find_spec (h := h) (hC.sub (T' := T85) (by decide)) i5 (RI.nil) FN
  rw [EN, if_neg (by decide)] at SN
  have T3 := fun h => Taps_spec (d := 5) (w := 3) (h := h) (hC.sub (T' := T72) (by decide)) i5 (by unfold In64; omega)
  have eT3 : tapsErr 5 3 = 2 := by decide
  rw [eT3] at T3
  have S1 := fun h => Sum_spec (d := 5) (p := 1) (h := h) (hC.sub (T' := T78) (by decide)) i5 i1
  rw [ks1] at S1
  (refine calls_intro (hC.body (by decide) tab65) (Nat.le_of_ble_eq_true rfl) ?_); (show wp C _ none B65.code _ _); (simp only [B65]); simp -implicitDefEqProofs (disch := first | assumption | decide | omega | (simp -implicitDefEqProofs only [wpD1] <;> omega) | (refine not_in_one ?_; first | omega | (simp -implicitDefEqProofs only [wpD1] <;> omega) | fail) | (simp -implicitDefEqProofs only [wpD2] <;> assumption) | ((repeat (first | exact HSub.refl _ | assumption | refine HSub.push ?_ _ | refine HSub.reserve ?_ _ | refine HSub.put ?_ (by omega) _)); done) | fail) only [↓wpPre, wpPost, wpPoly, Int.reduceToNat, Int.reducePow, Int.reduceMul, Int.reduceAdd, Int.reduceSub, Int.reduceNeg, Nat.reduceAdd, Nat.reduceMul, Nat.reducePow, Int.reduceLT, Int.reduceLE, Int.reduceEq, Nat.reduceEqDiff]
  refine ACallsK.eq2 (Length_spec (hC.sub (T' := T70) (by decide)) (d := 10) (by unfold In64; omega)) lenE10 ?_
  simp -implicitDefEqProofs (disch := first | assumption | decide | omega | (simp -implicitDefEqProofs only [wpD1] <;> omega) | (refine not_in_one ?_; first | omega | (simp -implicitDefEqProofs only [wpD1] <;> omega) | fail) | (simp -implicitDefEqProofs only [wpD2] <;> assumption) | ((repeat (first | exact HSub.refl _ | assumption | refine HSub.push ?_ _ | refine HSub.reserve ?_ _ | refine HSub.put ?_ (by omega) _)); done) | fail) only [↓wpPre, wpPost, wpPoly, Int.reduceToNat, Int.reducePow, Int.reduceMul, Int.reduceAdd, Int.reduceSub, Int.reduceNeg, Nat.reduceAdd, Nat.reduceMul, Nat.reducePow, Int.reduceLT, Int.reduceLE, Int.reduceEq, Nat.reduceEqDiff, tup2]
  refine ACallsK.eq2 (Length_spec (hC.sub (T' := T70) (by decide)) (d := 8) (by unfold In64; omega)) lenE8 ?_
  simp -implicitDefEqProofs (disch := first | assumption | decide | omega | (simp -implicitDefEqProofs only [wpD1] <;> omega) | (refine not_in_one ?_; first | omega | (simp -implicitDefEqProofs only [wpD1] <;> omega) | fail) | (simp -implicitDefEqProofs only [wpD2] <;> assumption) | ((repeat (first | exact HSub.refl _ | assumption | refine HSub.push ?_ _ | refine HSub.reserve ?_ _ | refine HSub.put ?_ (by omega) _)); done) | fail) only [↓wpPre, wpPost, wpPoly, Int.reduceToNat, Int.reducePow, Int.reduceMul, Int.reduceAdd, Int.reduceSub, Int.reduceNeg, Nat.reduceAdd, Nat.reduceMul, Nat.reducePow, Int.reduceLT, Int.reduceLE, Int.reduceEq, Nat.reduceEqDiff, tup2]
  refine ACallsK.of (Per_lit (hC.sub (T' := T83) (by decide)) (a := [0, 1]) (b := [1, 0, 0]) (by decide) (by decide) per1 (by decide)) ?_
  rintro r h1 ⟨rfl, s1⟩
  simp -implicitDefEqProofs (disch := first | assumption | decide | omega | (simp -implicitDefEqProofs only [wpD1] <;> omega) | (refine not_in_one ?_; first | omega | (simp -implicitDefEqProofs only [wpD1] <;> omega) | fail) | (simp -implicitDefEqProofs only [wpD2] <;> assumption) | ((repeat (first | exact HSub.refl _ | assumption | refine HSub.push ?_ _ | refine HSub.reserve ?_ _ | refine HSub.put ?_ (by omega) _)); done) | fail) only [↓wpPre, wpPost, wpPoly, Int.reduceToNat, Int.reducePow, Int.reduceMul, Int.reduceAdd, Int.reduceSub, Int.reduceNeg, Nat.reduceAdd, Nat.reduceMul, Nat.reducePow, Int.reduceLT, Int.reduceLE, Int.reduceEq, Nat.reduceEqDiff, tup2]
  refine ACallsK.of (Per_lit (hC.sub (T' := T83) (by decide)) (a := [0, 1]) (b := [0, 0, 0]) (by decide) (by decide) per2 (by decide)) ?_
  rintro r h2 ⟨rfl, s2⟩
  simp -implicitDefEqProofs (disch := first | assumption | decide | omega | (simp -implicitDefEqProofs only [wpD1] <;> omega) | (refine not_in_one ?_; first | omega | (simp -implicitDefEqProofs only [wpD1] <;> omega) | fail) | (simp -implicitDefEqProofs only [wpD2] <;> assumption) | ((repeat (first | exact HSub.refl _ | assumption | refine HSub.push ?_ _ | refine HSub.reserve ?_ _ | refine HSub.put ?_ (by omega) _)); done) | fail) only [↓wpPre, wpPost, wpPoly, Int.reduceToNat, Int.reducePow, Int.reduceMul, Int.reduceAdd, Int.reduceSub, Int.reduceNeg, Nat.reduceAdd, Nat.reduceMul, Nat.reducePow, Int.reduceLT, Int.reduceLE, Int.reduceEq, Nat.reduceEqDiff, tup2]
  refine ACallsK.of (Per_lit (hC.sub (T' := T83) (by decide)) (a := [0]) (b := [1, 0]) (by decide) (by decide) per3 (by decide)) ?_
  rintro r h3 ⟨rfl, s3⟩
  have t3 := (s1.trans s2).trans s3
  simp -implicitDefEqProofs (disch := first | assumption | decide | omega | (simp -implicitDefEqProofs only [wpD1] <;> omega) | (refine not_in_one ?_; first | omega | (simp -implicitDefEqProofs only [wpD1] <;> omega) | fail) | (simp -implicitDefEqProofs only [wpD2] <;> assumption) | ((repeat (first | exact HSub.refl _ | assumption | refine HSub.push ?_ _ | refine HSub.reserve ?_ _ | refine HSub.put ?_ (by omega) _)); done) | fail) only [↓wpPre, wpPost, wpPoly, Int.reduceToNat, Int.reducePow, Int.reduceMul, Int.reduceAdd, Int.reduceSub, Int.reduceNeg, Nat.reduceAdd, Nat.reduceMul, Nat.reducePow, Int.reduceLT, Int.reduceLE, Int.reduceEq, Nat.reduceEqDiff, tup2]
  refine ACallsK.of (hB (w := 1) (.inl rfl)) ?_
  rintro r h4 ⟨v4, rfl, s4, R4⟩
  simp -implicitDefEqProofs (disch := first | assumption | decide | omega | (simp -implicitDefEqProofs only [wpD1] <;> omega) | (refine not_in_one ?_; first | omega | (simp -implicitDefEqProofs only [wpD1] <;> omega) | fail) | (simp -implicitDefEqProofs only [wpD2] <;> assumption) | ((repeat (first | exact HSub.refl _ | assumption | refine HSub.push ?_ _ | refine HSub.reserve ?_ _ | refine HSub.put ?_ (by omega) _)); done) | fail) only [↓wpPre, wpPost, wpPoly, Int.reduceToNat, Int.reducePow, Int.reduceMul, Int.reduceAdd, Int.reduceSub, Int.reduceNeg, Nat.reduceAdd, Nat.reduceMul, Nat.reducePow, Int.reduceLT, Int.reduceLE, Int.reduceEq, Nat.reduceEqDiff, lstErr]
  refine ACallsK.of (hB (w := 2) (.inr rfl)) ?_
  rintro r h5 ⟨v5, rfl, s5, R5⟩
  have R4 := R4.mono s5
  have t5 := (t3.trans s4).trans s5
  have P4 := R4.part_b (k2 := .i64) (b := 10) (by rw [lb]; omega)
  obtain ⟨w4, e4, Q4⟩ := P4
  have P5 := R5.part_b (k2 := .i64) (b := 10) (by rw [lb]; omega)
  obtain ⟨w5, e5, Q5⟩ := P5
  rw [show (10 : Int).toNat = 10 from rfl, kb1] at Q4
  rw [show (10 : Int).toNat = 10 from rfl, kb2] at Q5
  simp -implicitDefEqProofs (disch := first | assumption | decide | omega | (simp -implicitDefEqProofs only [wpD1] <;> omega) | (refine not_in_one ?_; first | omega | (simp -implicitDefEqProofs only [wpD1] <;> omega) | fail) | (simp -implicitDefEqProofs only [wpD2] <;> assumption) | ((repeat (first | exact HSub.refl _ | assumption | refine HSub.push ?_ _ | refine HSub.reserve ?_ _ | refine HSub.put ?_ (by omega) _)); done) | fail) only [↓wpPre, wpPost, wpPoly, Int.reduceToNat, Int.reducePow, Int.reduceMul, Int.reduceAdd, Int.reduceSub, Int.reduceNeg, Nat.reduceAdd, Nat.reduceMul, Nat.reducePow, Int.reduceLT, Int.reduceLE, Int.reduceEq, Nat.reduceEqDiff, lstErr, R4.len, R5.len, lb, e4]
  refine ACallsK.eq2 (Equal_spec (hC.sub (T' := T12) (by decide)) (Q4.mono (HSub.push1 _ _)) (RI.known (l := [1, 1, 1, 1, 1, 0, 0, 0, 1, 1]) (get_push_eq rfl) ⟨rfl, by decide⟩ (by decide))) (show AV.bool (decide _) = .bool true by simp) ?_
  simp -implicitDefEqProofs (disch := first | assumption | decide | omega | (simp -implicitDefEqProofs only [wpD1] <;> omega) | (refine not_in_one ?_; first | omega | (simp -implicitDefEqProofs only [wpD1] <;> omega) | fail) | (simp -implicitDefEqProofs only [wpD2] <;> assumption) | ((repeat (first | exact HSub.refl _ | assumption | refine HSub.push ?_ _ | refine HSub.reserve ?_ _ | refine HSub.put ?_ (by omega) _)); done) | fail) only [↓wpPre, wpPost, wpPoly, Int.reduceToNat, Int.reducePow, Int.reduceMul, Int.reduceAdd, Int.reduceSub, Int.reduceNeg, Nat.reduceAdd, Nat.reduceMul, Nat.reducePow, Int.reduceLT, Int.reduceLE, Int.reduceEq, Nat.reduceEqDiff, e5]
  refine ACallsK.eq2 (Equal_spec (hC.sub (T' := T12) (by decide)) (Q5.mono ((HSub.push1 _ _).push _)) (RI.known (l := [1, 1, 1, 1, 1, 0, 1, 1, 1, 0]) (get_push_eq rfl) ⟨rfl, by decide⟩ (by decide))) (show AV.bool (decide _) = .bool true by simp) ?_
  simp -implicitDefEqProofs (disch := first | assumption | decide | omega | (simp -implicitDefEqProofs only [wpD1] <;> omega) | (refine not_in_one ?_; first | omega | (simp -implicitDefEqProofs only [wpD1] <;> omega) | fail) | (simp -implicitDefEqProofs only [wpD2] <;> assumption) | ((repeat (first | exact HSub.refl _ | assumption | refine HSub.push ?_ _ | refine HSub.reserve ?_ _ | refine HSub.put ?_ (by omega) _)); done) | fail) only [↓wpPre, wpPost, wpPoly, Int.reduceToNat, Int.reducePow, Int.reduceMul, Int.reduceAdd, Int.reduceSub, Int.reduceNeg, Nat.reduceAdd, Nat.reduceMul, Nat.reducePow, Int.reduceLT, Int.reduceLE, Int.reduceEq, Nat.reduceEqDiff]
  refine ACallsK.of (hCo (p := 1) (by decide) (by decide)) ?_
  rintro r h6 ⟨v6, rfl, s6, R6⟩
  simp -implicitDefEqProofs (disch := first | assumption | decide | omega | (simp -implicitDefEqProofs only [wpD1] <;> omega) | (refine not_in_one ?_; first | omega | (simp -implicitDefEqProofs only [wpD1] <;> omega) | fail) | (simp -implicitDefEqProofs only [wpD2] <;> assumption) | ((repeat (first | exact HSub.refl _ | assumption | refine HSub.push ?_ _ | refine HSub.reserve ?_ _ | refine HSub.put ?_ (by omega) _)); done) | fail) only [↓wpPre, wpPost, wpPoly, Int.reduceToNat, Int.reducePow, Int.reduceMul, Int.reduceAdd, Int.reduceSub, Int.reduceNeg, Nat.reduceAdd, Nat.reduceMul, Nat.reducePow, Int.reduceLT, Int.reduceLE, Int.reduceEq, Nat.reduceEqDiff, lstErr]
  refine ACallsK.of (hCo (p := 3) (by decide) (by decide)) ?_
  rintro r h7 ⟨v7, rfl, s7, R7⟩
  have R6 := R6.mono s7
  have t7 := (((t5.push _).push _).trans s6).trans s7
  have P6 := R6.part_b (k2 := .i64) (b := 5) (by rw [lc]; omega)
  obtain ⟨w6, e6, Q6⟩ := P6
  have P7 := R7.part_b (k2 := .i64) (b := 5) (by rw [lc]; omega)
  obtain ⟨w7, e7, Q7⟩ := P7
  rw [show (5 : Int).toNat = 5 from rfl, kc1] at Q6
  rw [show (5 : Int).toNat = 5 from rfl, kc3] at Q7
  simp -implicitDefEqProofs (disch := first | assumption | decide | omega | (simp -implicitDefEqProofs only [wpD1] <;> omega) | (refine not_in_one ?_; first | omega | (simp -implicitDefEqProofs only [wpD1] <;> omega) | fail) | (simp -implicitDefEqProofs only [wpD2] <;> assumption) | ((repeat (first | exact HSub.refl _ | assumption | refine HSub.push ?_ _ | refine HSub.reserve ?_ _ | refine HSub.put ?_ (by omega) _)); done) | fail) only [↓wpPre, wpPost, wpPoly, Int.reduceToNat, Int.reducePow, Int.reduceMul, Int.reduceAdd, Int.reduceSub, Int.reduceNeg, Nat.reduceAdd, Nat.reduceMul, Nat.reducePow, Int.reduceLT, Int.reduceLE, Int.reduceEq, Nat.reduceEqDiff, lstErr, R6.len, R7.len, lc, e6]
  refine ACallsK.eq2 (Equal_spec (hC.sub (T' := T12) (by decide)) (Q6.mono (HSub.push1 _ _)) (RI.known (l := [-1, -1, -1, -1, -1]) (get_push_eq rfl) ⟨rfl, by decide⟩ (by decide))) (show AV.bool (decide _) = .bool true by simp) ?_
  simp -implicitDefEqProofs (disch := first | assumption | decide | omega | (simp -implicitDefEqProofs only [wpD1] <;> omega) | (refine not_in_one ?_; first | omega | (simp -implicitDefEqProofs only [wpD1] <;> omega) | fail) | (simp -implicitDefEqProofs only [wpD2] <;> assumption) | ((repeat (first | exact HSub.refl _ | assumption | refine HSub.push ?_ _ | refine HSub.reserve ?_ _ | refine HSub.put ?_ (by omega) _)); done) | fail) only [↓wpPre, wpPost, wpPoly, Int.reduceToNat, Int.reducePow, Int.reduceMul, Int.reduceAdd, Int.reduceSub, Int.reduceNeg, Nat.reduceAdd, Nat.reduceMul, Nat.reducePow, Int.reduceLT, Int.reduceLE, Int.reduceEq, Nat.reduceEqDiff, e7]
  refine ACallsK.eq2 (Equal_spec (hC.sub (T' := T12) (by decide)) (Q7.mono ((HSub.push1 _ _).push _)) (RI.known (l := [1, 1, 1, 1, 1]) (get_push_eq rfl) ⟨rfl, by decide⟩ (by decide))) (show AV.bool (decide _) = .bool true by simp) ?_
  simp -implicitDefEqProofs (disch := first | assumption | decide | omega | (simp -implicitDefEqProofs only [wpD1] <;> omega) | (refine not_in_one ?_; first | omega | (simp -implicitDefEqProofs only [wpD1] <;> omega) | fail) | (simp -implicitDefEqProofs only [wpD2] <;> assumption) | ((repeat (first | exact HSub.refl _ | assumption | refine HSub.push ?_ _ | refine HSub.reserve ?_ _ | refine HSub.put ?_ (by omega) _)); done) | fail) only [↓wpPre, wpPost, wpPoly, Int.reduceToNat, Int.reducePow, Int.reduceMul, Int.reduceAdd, Int.reduceSub, Int.reduceNeg, Nat.reduceAdd, Nat.reduceMul, Nat.reducePow, Int.reduceLT, Int.reduceLE, Int.reduceEq, Nat.reduceEqDiff]
  refine ACallsK.of (S1 _) ?_
  rintro r h8 ⟨rfl, s8⟩
  simp -implicitDefEqProofs (disch := first | assumption | decide | omega | (simp -implicitDefEqProofs only [wpD1] <;> omega) | (refine not_in_one ?_; first | omega | (simp -implicitDefEqProofs only [wpD1] <;> omega) | fail) | (simp -implicitDefEqProofs only [wpD2] <;> assumption) | ((repeat (first | exact HSub.refl _ | assumption | refine HSub.push ?_ _ | refine HSub.reserve ?_ _ | refine HSub.put ?_ (by omega) _)); done) | fail) only [↓wpPre, wpPost, wpPoly, Int.reduceToNat, Int.reducePow, Int.reduceMul, Int.reduceAdd, Int.reduceSub, Int.reduceNeg, Nat.reduceAdd, Nat.reduceMul, Nat.reducePow, Int.reduceLT, Int.reduceLE, Int.reduceEq, Nat.reduceEqDiff, tup2]
  refine ACallsK.of (hCe (p := 34) (by unfold In64; omega) (by decide)) ?_
  rintro r h9 ⟨v9, rfl, s9⟩
  simp -implicitDefEqProofs (disch := first | assumption | decide | omega | (simp -implicitDefEqProofs only [wpD1] <;> omega) | (refine not_in_one ?_; first | omega | (simp -implicitDefEqProofs only [wpD1] <;> omega) | fail) | (simp -implicitDefEqProofs only [wpD2] <;> assumption) | ((repeat (first | exact HSub.refl _ | assumption | refine HSub.push ?_ _ | refine HSub.reserve ?_ _ | refine HSub.put ?_ (by omega) _)); done) | fail) only [↓wpPre, wpPost, wpPoly, Int.reduceToNat, Int.reducePow, Int.reduceMul, Int.reduceAdd, Int.reduceSub, Int.reduceNeg, Nat.reduceAdd, Nat.reduceMul, Nat.reducePow, Int.reduceLT, Int.reduceLE, Int.reduceEq, Nat.reduceEqDiff, lstErr]
  refine ACallsK.of (hCe (p := 0) (by unfold In64; omega) (by decide)) ?_
  rintro r h10 ⟨v10, rfl, s10⟩
  simp -implicitDefEqProofs (disch := first | assumption | decide | omega | (simp -implicitDefEqProofs only [wpD1] <;> omega) | (refine not_in_one ?_; first | omega | (simp -implicitDefEqProofs only [wpD1] <;> omega) | fail) | (simp -implicitDefEqProofs only [wpD2] <;> assumption) | ((repeat (first | exact HSub.refl _ | assumption | refine HSub.push ?_ _ | refine HSub.reserve ?_ _ | refine HSub.put ?_ (by omega) _)); done) | fail) only [↓wpPre, wpPost, wpPoly, Int.reduceToNat, Int.reducePow, Int.reduceMul, Int.reduceAdd, Int.reduceSub, Int.reduceNeg, Nat.reduceAdd, Nat.reduceMul, Nat.reducePow, Int.reduceLT, Int.reduceLE, Int.reduceEq, Nat.reduceEqDiff, lstErr]
  refine ACallsK.of (T3 _) ?_
  rintro r h11 ⟨v11, rfl, s11, _⟩
  have t11 := ((((t7.push _).push _).trans s8).trans s9).trans (s10.trans s11)
  simp -implicitDefEqProofs (disch := first | assumption | decide | omega | (simp -implicitDefEqProofs only [wpD1] <;> omega) | (refine not_in_one ?_; first | omega | (simp -implicitDefEqProofs only [wpD1] <;> omega) | fail) | (simp -implicitDefEqProofs only [wpD2] <;> assumption) | ((repeat (first | exact HSub.refl _ | assumption | refine HSub.push ?_ _ | refine HSub.reserve ?_ _ | refine HSub.put ?_ (by omega) _)); done) | fail) only [↓wpPre, wpPost, wpPoly, Int.reduceToNat, Int.reducePow, Int.reduceMul, Int.reduceAdd, Int.reduceSub, Int.reduceNeg, Nat.reduceAdd, Nat.reduceMul, Nat.reducePow, Int.reduceLT, Int.reduceLE, Int.reduceEq, Nat.reduceEqDiff, lstErr]
  refine ACallsK.of (hCo (p := 7) (by decide) (by decide)) ?_
  rintro r h12 ⟨v12, rfl, s12, R12⟩
  simp -implicitDefEqProofs (disch := first | assumption | decide | omega | (simp -implicitDefEqProofs only [wpD1] <;> omega) | (refine not_in_one ?_; first | omega | (simp -implicitDefEqProofs only [wpD1] <;> omega) | fail) | (simp -implicitDefEqProofs only [wpD2] <;> assumption) | ((repeat (first | exact HSub.refl _ | assumption | refine HSub.push ?_ _ | refine HSub.reserve ?_ _ | refine HSub.put ?_ (by omega) _)); done) | fail) only [↓wpPre, wpPost, wpPoly, Int.reduceToNat, Int.reducePow, Int.reduceMul, Int.reduceAdd, Int.reduceSub, Int.reduceNeg, Nat.reduceAdd, Nat.reduceMul, Nat.reducePow, Int.reduceLT, Int.reduceLE, Int.reduceEq, Nat.reduceEqDiff, lstErr, R12.len, lc]
  refine ACallsK.of (Rotated_spec (hC.sub (T' := T87) (by decide)) (k := 12) R12 (by rw [lc]; omega) (by decide)) ?_
  rintro r h13 A13
  have s13 := A13.sub
  have R13 := A13.ri
  simp -implicitDefEqProofs (disch := first | assumption | decide | omega | (simp -implicitDefEqProofs only [wpD1] <;> omega) | (refine not_in_one ?_; first | omega | (simp -implicitDefEqProofs only [wpD1] <;> omega) | fail) | (simp -implicitDefEqProofs only [wpD2] <;> assumption) | ((repeat (first | exact HSub.refl _ | assumption | refine HSub.push ?_ _ | refine HSub.reserve ?_ _ | refine HSub.put ?_ (by omega) _)); done) | fail) only [↓wpPre, wpPost, wpPoly, Int.reduceToNat, Int.reducePow, Int.reduceMul, Int.reduceAdd, Int.reduceSub, Int.reduceNeg, Nat.reduceAdd, Nat.reduceMul, Nat.reducePow, Int.reduceLT, Int.reduceLE, Int.reduceEq, Nat.reduceEqDiff]
  refine ACallsK.of (hF R13 E7 F7) ?_
  rintro r h14 ⟨rfl, s14⟩
  have t14 := ((t11.trans s12).trans s13).trans s14
  simp -implicitDefEqProofs (disch := first | assumption | decide | omega | (simp -implicitDefEqProofs only [wpD1] <;> omega) | (refine not_in_one ?_; first | omega | (simp -implicitDefEqProofs only [wpD1] <;> omega) | fail) | (simp -implicitDefEqProofs only [wpD2] <;> assumption) | ((repeat (first | exact HSub.refl _ | assumption | refine HSub.push ?_ _ | refine HSub.reserve ?_ _ | refine HSub.put ?_ (by omega) _)); done) | fail) only [↓wpPre, wpPost, wpPoly, Int.reduceToNat, Int.reducePow, Int.reduceMul, Int.reduceAdd, Int.reduceSub, Int.reduceNeg, Nat.reduceAdd, Nat.reduceMul, Nat.reducePow, Int.reduceLT, Int.reduceLE, Int.reduceEq, Nat.reduceEqDiff, tup3]
  refine ACallsK.of (Rotated_spec (hC.sub (T' := T87) (by decide)) (k := 0) (l := ones31) (RI.known (get_push_eq rfl) ⟨rfl, by decide⟩ (by decide)) (by decide) (by decide)) ?_
  rintro r h15 A15
  have s15 := A15.sub
  have R15 := A15.ri
  rw [rot_ones] at R15
  simp -implicitDefEqProofs (disch := first | assumption | decide | omega | (simp -implicitDefEqProofs only [wpD1] <;> omega) | (refine not_in_one ?_; first | omega | (simp -implicitDefEqProofs only [wpD1] <;> omega) | fail) | (simp -implicitDefEqProofs only [wpD2] <;> assumption) | ((repeat (first | exact HSub.refl _ | assumption | refine HSub.push ?_ _ | refine HSub.reserve ?_ _ | refine HSub.put ?_ (by omega) _)); done) | fail) only [↓wpPre, wpPost, wpPoly, Int.reduceToNat, Int.reducePow, Int.reduceMul, Int.reduceAdd, Int.reduceSub, Int.reduceNeg, Nat.reduceAdd, Nat.reduceMul, Nat.reducePow, Int.reduceLT, Int.reduceLE, Int.reduceEq, Nat.reduceEqDiff]
  refine ACallsK.of (hF R15 EO find_ones) ?_
  rintro r h16 ⟨rfl, s16⟩
  simp -implicitDefEqProofs (disch := first | assumption | decide | omega | (simp -implicitDefEqProofs only [wpD1] <;> omega) | (refine not_in_one ?_; first | omega | (simp -implicitDefEqProofs only [wpD1] <;> omega) | fail) | (simp -implicitDefEqProofs only [wpD2] <;> assumption) | ((repeat (first | exact HSub.refl _ | assumption | refine HSub.push ?_ _ | refine HSub.reserve ?_ _ | refine HSub.put ?_ (by omega) _)); done) | fail) only [↓wpPre, wpPost, wpPoly, Int.reduceToNat, Int.reducePow, Int.reduceMul, Int.reduceAdd, Int.reduceSub, Int.reduceNeg, Nat.reduceAdd, Nat.reduceMul, Nat.reducePow, Int.reduceLT, Int.reduceLE, Int.reduceEq, Nat.reduceEqDiff, tup3]
  refine ACallsK.of (SN _) ?_
  rintro r h17 ⟨rfl, s17⟩
  have t17 := (((t14.push _).trans s15).trans s16).trans s17
  simp -implicitDefEqProofs (disch := first | assumption | decide | omega | (simp -implicitDefEqProofs only [wpD1] <;> omega) | (refine not_in_one ?_; first | omega | (simp -implicitDefEqProofs only [wpD1] <;> omega) | fail) | (simp -implicitDefEqProofs only [wpD2] <;> assumption) | ((repeat (first | exact HSub.refl _ | assumption | refine HSub.push ?_ _ | refine HSub.reserve ?_ _ | refine HSub.put ?_ (by omega) _)); done) | fail) only [↓wpPre, wpPost, wpPoly, Int.reduceToNat, Int.reducePow, Int.reduceMul, Int.reduceAdd, Int.reduceSub, Int.reduceNeg, Nat.reduceAdd, Nat.reduceMul, Nat.reducePow, Int.reduceLT, Int.reduceLE, Int.reduceEq, Nat.reduceEqDiff, tup3]
  refine ACallsK.eq (awake08_spec (hC.sub (T' := T80) (by decide))) ?_
  simp -implicitDefEqProofs (disch := first | assumption | decide | omega | (simp -implicitDefEqProofs only [wpD1] <;> omega) | (refine not_in_one ?_; first | omega | (simp -implicitDefEqProofs only [wpD1] <;> omega) | fail) | (simp -implicitDefEqProofs only [wpD2] <;> assumption) | ((repeat (first | exact HSub.refl _ | assumption | refine HSub.push ?_ _ | refine HSub.reserve ?_ _ | refine HSub.put ?_ (by omega) _)); done) | fail) only [↓wpPre, wpPost, wpPoly, Int.reduceToNat, Int.reducePow, Int.reduceMul, Int.reduceAdd, Int.reduceSub, Int.reduceNeg, Nat.reduceAdd, Nat.reduceMul, Nat.reducePow, Int.reduceLT, Int.reduceLE, Int.reduceEq, Nat.reduceEqDiff]
  exact t17
end
end Go.Ae

/- The statements on examples, on three values and on finding rotations of layer 8. -/
set_option linter.unusedSimpArgs false
set_option linter.unusedVariables false
namespace Go.Ae
theorem isum_le {f : Nat → Int} (h : ∀ i, f i = 1 ∨ f i = -1) : ∀ n : Nat, -(n : Int) ≤ isum f n ∧ isum f n ≤ n
  | 0 => by simp [isum]
  | n + 1 => by
    have ih := isum_le h n
    have := h n
    simp only [isum]; omega
section
variable {C : Ctx}
theorem GoldKnown_law (hC : Has C T65) {h : Heap} : ACalls C 65 [] h (fun r _ => r = .bool true) := (known08_spec hC).mono fun _ _ q => q.1
theorem code_ok (hC : Has C T76) {d : Int} {p : Nat} {h : Heap} (hd : smallD d) (hp : 1 ≤ p ∧ p ≤ lenN d + 2) : ACalls C 76 [.int .i64 d, .int .i64 (p : Nat)] h (fun r h' => ∃ v, r = lstErr v 0 ∧ HSub h h' ∧ RI h' v (codeL d p)) := by
  have hl := hd.len
  have e := codeErr_ok hl.1 hp
  have hd5 : 5 ≤ d ∧ d ≤ 7 := by rcases hd with rfl | rfl | rfl <;> decide
  refine (Code_spec hC (by unfold In64; omega) (by unfold In64; omega)).mono ?_
  rintro r h' ⟨v, a1, a2, a3, _⟩
  rw [e, if_pos rfl] at a3
  exact ⟨v, by rw [a1, e], a2, a3⟩
theorem turn_nat {x : Int} {n : Nat} (hn : 0 < n) : ∃ k : Nat, x % (n : Int) = k ∧ k < n := by
  have h1 := Int.emod_nonneg x (show (n : Int) ≠ 0 by omega)
  have h2 := Int.emod_lt_of_pos x (show (0 : Int) < n by omega)
  exact ⟨(x % n).toNat, by omega, by omega⟩
set_option maxRecDepth 100000 in
set_option maxHeartbeats 4000000 in
theorem GoldThree_law (hC : Has C T68) {d0 p0 q0 k0 : Int} {h : Heap} (hd0 : In64 d0) (hp0 : In64 p0) (hq0 : In64 q0) (hk0 : In64 k0) : ACalls C 68 [.int .i64 d0, .int .i64 p0, .int .i64 q0, .int .i64 k0] h (fun r _ => r = .bool true) := by
  obtain ⟨d, hd⟩ : ∃ d, d = 5 + d0 % 3 := ⟨_, rfl⟩
  have sd : smallD d := by unfold smallD; omega
  have hl := sd.len
  have hN := lenN_eq hl.1
  have hd5 : 5 ≤ d ∧ d ≤ 7 := by omega
  obtain ⟨n, hn⟩ : ∃ n, n = lenN d := ⟨_, rfl⟩
  rw [← hn] at hN
  obtain ⟨p1, ep, hp⟩ := turn_nat (x := p0) (n := n + 2) (by omega)
  obtain ⟨q1, eq, hq⟩ := turn_nat (x := q0) (n := n + 2) (by omega)
  obtain ⟨k, ek, hk⟩ := turn_nat (x := k0) (n := n) (by omega)
  have D := fun h => Degree_spec (h := h) (hC.sub (T' := T88) (by decide)) hd0
  rw [← hd] at D
  have eL : lenE d = tup2 n 0 := by unfold lenE; rw [if_pos hl.1, hn]
  have Tp := fun h => Turn_spec (h := h) (n := (n : Int) + 2) (hC.sub (T' := T23) (by decide)) hp0 (by omega)
  have Tq := fun h => Turn_spec (h := h) (n := (n : Int) + 2) (hC.sub (T' := T23) (by decide)) hq0 (by omega)
  have Tk := fun h => Turn_spec (h := h) (n := (n : Int)) (hC.sub (T' := T23) (by decide)) hk0 (by omega)
  rw [show (n : Int) + 2 = ((n + 2 : Nat) : Int) by omega, ep] at Tp
  rw [show (n : Int) + 2 = ((n + 2 : Nat) : Int) by omega, eq] at Tq
  rw [ek] at Tk
  have cl : ∀ p, (codeL d p).length = n := fun p => by rw [codeL_length, hn]
  have f01 : ∀ i, (codeL d ((p1 + 1 : Nat) : Int)).getD (i % n) 0 * (codeL d ((q1 + 1 : Nat) : Int)).getD ((i + k) % n) 0 = 1 ∨ (codeL d ((p1 + 1 : Nat) : Int)).getD (i % n) 0 * (codeL d ((q1 + 1 : Nat) : Int)).getD ((i + k) % n) 0 = -1 := fun i => by
    have h1 := codeL_pm (d := d) (p := ((p1 + 1 : Nat) : Int)) (i := i % n) (by rw [← hn]; exact Nat.mod_lt _ (by omega))
    have h2 := codeL_pm (d := d) (p := ((q1 + 1 : Nat) : Int)) (i := (i + k) % n) (by rw [← hn]; exact Nat.mod_lt _ (by omega))
    rcases h1 with h1 | h1 <;> rcases h2 with h2 | h2 <;> rw [h1, h2] <;> simp
  have bS := isum_le f01
  have eS : isum (fun i => (codeL d ((p1 + 1 : Nat) : Int)).getD (i % n) 0 * (codeL d ((q1 + 1 : Nat) : Int)).getD ((i + k) % n) 0) n = prodS d (p1 + 1) (q1 + 1) k := by
    unfold prodS
    rw [← hn]
    exact isum_congr n fun i hi => by rw [Nat.mod_eq_of_lt hi]
  have H3 := three sd (p := p1 + 1) (q := q1 + 1) (k := k) (by omega) (by omega) (by omega)
  have e2 : ((n + 2 : Nat) : Int) = (n : Int) + 2 := by omega
  rw [e2] at Tp Tq
  have e1 : ((n + 1 : Nat) : Int) - 1 = n := by omega
  have ep1 : 1 + (p1 : Int) = ((p1 + 1 : Nat) : Int) := by omega
  have eq1 : 1 + (q1 : Int) = ((q1 + 1 : Nat) : Int) := by omega
  (refine calls_intro (hC.body (by decide) tab68) (Nat.le_of_ble_eq_true rfl) ?_); (show wp C _ none B68.code _ _); (simp only [B68]); simp -implicitDefEqProofs (disch := first | assumption | decide | omega | (simp -implicitDefEqProofs only [wpD1] <;> omega) | (refine not_in_one ?_; first | omega | (simp -implicitDefEqProofs only [wpD1] <;> omega) | fail) | (simp -implicitDefEqProofs only [wpD2] <;> assumption) | ((repeat (first | exact HSub.refl _ | assumption | refine HSub.push ?_ _ | refine HSub.reserve ?_ _ | refine HSub.put ?_ (by omega) _)); done) | fail) only [↓wpPre, wpPost, wpPoly, Int.reduceToNat, Int.reducePow, Int.reduceMul, Int.reduceAdd, Int.reduceSub, Int.reduceNeg, Nat.reduceAdd, Nat.reduceMul, Nat.reducePow, Int.reduceLT, Int.reduceLE, Int.reduceEq, Nat.reduceEqDiff]
  refine ACallsK.of (known08_spec (hC.sub (T' := T65) (by decide))) ?_
  rintro r h1 ⟨rfl, s1⟩
  simp -implicitDefEqProofs (disch := first | assumption | decide | omega | (simp -implicitDefEqProofs only [wpD1] <;> omega) | (refine not_in_one ?_; first | omega | (simp -implicitDefEqProofs only [wpD1] <;> omega) | fail) | (simp -implicitDefEqProofs only [wpD2] <;> assumption) | ((repeat (first | exact HSub.refl _ | assumption | refine HSub.push ?_ _ | refine HSub.reserve ?_ _ | refine HSub.put ?_ (by omega) _)); done) | fail) only [↓wpPre, wpPost, wpPoly, Int.reduceToNat, Int.reducePow, Int.reduceMul, Int.reduceAdd, Int.reduceSub, Int.reduceNeg, Nat.reduceAdd, Nat.reduceMul, Nat.reducePow, Int.reduceLT, Int.reduceLE, Int.reduceEq, Nat.reduceEqDiff]
  refine ACallsK.eq (D _) ?_
  simp -implicitDefEqProofs (disch := first | assumption | decide | omega | (simp -implicitDefEqProofs only [wpD1] <;> omega) | (refine not_in_one ?_; first | omega | (simp -implicitDefEqProofs only [wpD1] <;> omega) | fail) | (simp -implicitDefEqProofs only [wpD2] <;> assumption) | ((repeat (first | exact HSub.refl _ | assumption | refine HSub.push ?_ _ | refine HSub.reserve ?_ _ | refine HSub.put ?_ (by omega) _)); done) | fail) only [↓wpPre, wpPost, wpPoly, Int.reduceToNat, Int.reducePow, Int.reduceMul, Int.reduceAdd, Int.reduceSub, Int.reduceNeg, Nat.reduceAdd, Nat.reduceMul, Nat.reducePow, Int.reduceLT, Int.reduceLE, Int.reduceEq, Nat.reduceEqDiff, Int.one_mul, hN.2.2, e1]
  refine ACallsK.eq2 (Length_spec (hC.sub (T' := T70) (by decide)) (by unfold In64; omega)) eL ?_
  simp -implicitDefEqProofs (disch := first | assumption | decide | omega | (simp -implicitDefEqProofs only [wpD1] <;> omega) | (refine not_in_one ?_; first | omega | (simp -implicitDefEqProofs only [wpD1] <;> omega) | fail) | (simp -implicitDefEqProofs only [wpD2] <;> assumption) | ((repeat (first | exact HSub.refl _ | assumption | refine HSub.push ?_ _ | refine HSub.reserve ?_ _ | refine HSub.put ?_ (by omega) _)); done) | fail) only [↓wpPre, wpPost, wpPoly, Int.reduceToNat, Int.reducePow, Int.reduceMul, Int.reduceAdd, Int.reduceSub, Int.reduceNeg, Nat.reduceAdd, Nat.reduceMul, Nat.reducePow, Int.reduceLT, Int.reduceLE, Int.reduceEq, Nat.reduceEqDiff, tup2]
  refine ACallsK.eq (Tp _) ?_
  simp -implicitDefEqProofs (disch := first | assumption | decide | omega | (simp -implicitDefEqProofs only [wpD1] <;> omega) | (refine not_in_one ?_; first | omega | (simp -implicitDefEqProofs only [wpD1] <;> omega) | fail) | (simp -implicitDefEqProofs only [wpD2] <;> assumption) | ((repeat (first | exact HSub.refl _ | assumption | refine HSub.push ?_ _ | refine HSub.reserve ?_ _ | refine HSub.put ?_ (by omega) _)); done) | fail) only [↓wpPre, wpPost, wpPoly, Int.reduceToNat, Int.reducePow, Int.reduceMul, Int.reduceAdd, Int.reduceSub, Int.reduceNeg, Nat.reduceAdd, Nat.reduceMul, Nat.reducePow, Int.reduceLT, Int.reduceLE, Int.reduceEq, Nat.reduceEqDiff, ep1]
  refine ACallsK.eq (Tq _) ?_
  simp -implicitDefEqProofs (disch := first | assumption | decide | omega | (simp -implicitDefEqProofs only [wpD1] <;> omega) | (refine not_in_one ?_; first | omega | (simp -implicitDefEqProofs only [wpD1] <;> omega) | fail) | (simp -implicitDefEqProofs only [wpD2] <;> assumption) | ((repeat (first | exact HSub.refl _ | assumption | refine HSub.push ?_ _ | refine HSub.reserve ?_ _ | refine HSub.put ?_ (by omega) _)); done) | fail) only [↓wpPre, wpPost, wpPoly, Int.reduceToNat, Int.reducePow, Int.reduceMul, Int.reduceAdd, Int.reduceSub, Int.reduceNeg, Nat.reduceAdd, Nat.reduceMul, Nat.reducePow, Int.reduceLT, Int.reduceLE, Int.reduceEq, Nat.reduceEqDiff, eq1]
  refine ACallsK.eq (Tk _) ?_
  simp -implicitDefEqProofs (disch := first | assumption | decide | omega | (simp -implicitDefEqProofs only [wpD1] <;> omega) | (refine not_in_one ?_; first | omega | (simp -implicitDefEqProofs only [wpD1] <;> omega) | fail) | (simp -implicitDefEqProofs only [wpD2] <;> assumption) | ((repeat (first | exact HSub.refl _ | assumption | refine HSub.push ?_ _ | refine HSub.reserve ?_ _ | refine HSub.put ?_ (by omega) _)); done) | fail) only [↓wpPre, wpPost, wpPoly, Int.reduceToNat, Int.reducePow, Int.reduceMul, Int.reduceAdd, Int.reduceSub, Int.reduceNeg, Nat.reduceAdd, Nat.reduceMul, Nat.reducePow, Int.reduceLT, Int.reduceLE, Int.reduceEq, Nat.reduceEqDiff]
  refine ACallsK.of (code_ok (hC.sub (T' := T76) (by decide)) sd (p := p1 + 1) (by omega)) ?_
  rintro r h2 ⟨va, rfl, s2, Ra⟩
  simp -implicitDefEqProofs (disch := first | assumption | decide | omega | (simp -implicitDefEqProofs only [wpD1] <;> omega) | (refine not_in_one ?_; first | omega | (simp -implicitDefEqProofs only [wpD1] <;> omega) | fail) | (simp -implicitDefEqProofs only [wpD2] <;> assumption) | ((repeat (first | exact HSub.refl _ | assumption | refine HSub.push ?_ _ | refine HSub.reserve ?_ _ | refine HSub.put ?_ (by omega) _)); done) | fail) only [↓wpPre, wpPost, wpPoly, Int.reduceToNat, Int.reducePow, Int.reduceMul, Int.reduceAdd, Int.reduceSub, Int.reduceNeg, Nat.reduceAdd, Nat.reduceMul, Nat.reducePow, Int.reduceLT, Int.reduceLE, Int.reduceEq, Nat.reduceEqDiff, lstErr]
  refine ACallsK.of (code_ok (hC.sub (T' := T76) (by decide)) sd (p := q1 + 1) (by omega)) ?_
  rintro r h3 ⟨vb, rfl, s3, Rb⟩
  have Ra := Ra.mono s3
  simp -implicitDefEqProofs (disch := first | assumption | decide | omega | (simp -implicitDefEqProofs only [wpD1] <;> omega) | (refine not_in_one ?_; first | omega | (simp -implicitDefEqProofs only [wpD1] <;> omega) | fail) | (simp -implicitDefEqProofs only [wpD2] <;> assumption) | ((repeat (first | exact HSub.refl _ | assumption | refine HSub.push ?_ _ | refine HSub.reserve ?_ _ | refine HSub.put ?_ (by omega) _)); done) | fail) only [↓wpPre, wpPost, wpPoly, Int.reduceToNat, Int.reducePow, Int.reduceMul, Int.reduceAdd, Int.reduceSub, Int.reduceNeg, Nat.reduceAdd, Nat.reduceMul, Nat.reducePow, Int.reduceLT, Int.reduceLE, Int.reduceEq, Nat.reduceEqDiff, lstErr, Ra.len, Rb.len, cl]
  refine wp_loopI (fun j t h' => h' = h3 ∧ ∃ i : Nat, t 0 = .int .i64 d ∧ t 1 = .int .i64 ((p1 + 1 : Nat) : Int) ∧ t 2 = .int .i64 ((q1 + 1 : Nat) : Int) ∧ t 3 = .int .i64 (k : Nat) ∧ t 9 = .bool true ∧ t 10 = .int .i64 (n : Nat) ∧ t 13 = va ∧ t 14 = vb ∧
      t 16 = .int .i64 (isum (fun i => (codeL d ((p1 + 1 : Nat) : Int)).getD (i % n) 0 * (codeL d ((q1 + 1 : Nat) : Int)).getD ((i + k) % n) 0) i) ∧ t 17 = .int .i64 (i : Nat) ∧ i ≤ n ∧ j = n - i) (j0 := n)
    ⟨rfl, 0, rfl, rfl, rfl, rfl, rfl, rfl, rfl, rfl, rfl, rfl, by omega, rfl⟩ ?_
  rintro j t h4 ⟨hh, i, e0, e1, e2, e3, e9, e10, e13, e14, e16, e17, hi, hj⟩
  subst hh
  simp -implicitDefEqProofs (disch := first | assumption | decide | omega | (simp -implicitDefEqProofs only [wpD1] <;> omega) | (refine not_in_one ?_; first | omega | (simp -implicitDefEqProofs only [wpD1] <;> omega) | fail) | (simp -implicitDefEqProofs only [wpD2] <;> assumption) | ((repeat (first | exact HSub.refl _ | assumption | refine HSub.push ?_ _ | refine HSub.reserve ?_ _ | refine HSub.put ?_ (by omega) _)); done) | fail) only [↓wpPre, wpPost, wpPoly, Int.reduceToNat, Int.reducePow, Int.reduceMul, Int.reduceAdd, Int.reduceSub, Int.reduceNeg, Nat.reduceAdd, Nat.reduceMul, Nat.reducePow, Int.reduceLT, Int.reduceLE, Int.reduceEq, Nat.reduceEqDiff, e10, e17]
  refine Br.by (fun c => ?_) (fun c => ?_)
  · have hi' : i < n := by omega
    have ha := codeL_pm (d := d) (p := ((p1 + 1 : Nat) : Int)) (i := i) (by omega)
    have hb := codeL_pm (d := d) (p := ((q1 + 1 : Nat) : Int)) (i := i) (by omega)
    have hm : (i + k) % n < n := Nat.mod_lt _ (by omega)
    have em : ((i : Int) + k) % (n : Int) = (((i + k) % n : Nat) : Int) := by rw [← Int.natCast_add]; exact (Int.natCast_emod _ _).symm
    have b1 := bS i
    have f1 := f01 i
    rw [Nat.mod_eq_of_lt hi'] at f1
    have es : isum (fun i => (codeL d ((p1 + 1 : Nat) : Int)).getD (i % n) 0 * (codeL d ((q1 + 1 : Nat) : Int)).getD ((i + k) % n) 0) (i + 1) = isum (fun i => (codeL d ((p1 + 1 : Nat) : Int)).getD (i % n) 0 * (codeL d ((q1 + 1 : Nat) : Int)).getD ((i + k) % n) 0) i + (codeL d ((p1 + 1 : Nat) : Int)).getD i 0 * (codeL d ((q1 + 1 : Nat) : Int)).getD ((i + k) % n) 0 := by
      simp only [isum, Nat.mod_eq_of_lt hi']
    have cla := cl ((p1 + 1 : Nat) : Int)
    have clb := cl ((q1 + 1 : Nat) : Int)
    rcases ha with ha | ha <;> rcases hb with hb | hb <;>
    · simp -implicitDefEqProofs (disch := first | assumption | decide | omega | (simp -implicitDefEqProofs only [wpD1] <;> omega) | (refine not_in_one ?_; first | omega | (simp -implicitDefEqProofs only [wpD1] <;> omega) | fail) | (simp -implicitDefEqProofs only [wpD2] <;> assumption) | ((repeat (first | exact HSub.refl _ | assumption | refine HSub.push ?_ _ | refine HSub.reserve ?_ _ | refine HSub.put ?_ (by omega) _)); done) | fail) only [↓wpPre, wpPost, wpPoly, Int.reduceToNat, Int.reducePow, Int.reduceMul, Int.reduceAdd, Int.reduceSub, Int.reduceNeg, Nat.reduceAdd, Nat.reduceMul, Nat.reducePow, Int.reduceLT, Int.reduceLE, Int.reduceEq, Nat.reduceEqDiff, gV_u, e0, e1, e2, e3, e9, e10, e13, e14, e16, e17, Ra.idx, Ra.load, Rb.idx, Rb.load, em]
      exact ⟨_, ⟨i + 1, es.symm, by simp, by omega, rfl⟩, by omega⟩
  · have ei : i = n := by omega
    rw [ei, eS] at e16
    have key : (prodS d (p1 + 1) (q1 + 1) k = n ∧ p1 = q1 ∧ k = 0) ∨ ((prodS d (p1 + 1) (q1 + 1) k = -1 ∨ prodS d (p1 + 1) (q1 + 1) k = -thrT d ∨ prodS d (p1 + 1) (q1 + 1) k = thrT d - 2) ∧ (p1 ≠ q1 ∨ (p1 = q1 ∧ k ≠ 0))) := by
      rcases H3 with ⟨x1, x2, x3⟩ | ⟨x1, x2⟩
      · exact .inl ⟨by rw [x3, hn], by omega, x2⟩
      · exact .inr ⟨x2, by omega⟩
    generalize prodS d (p1 + 1) (q1 + 1) k = S at e16 key
    have hT : (d = 5 ∧ thrT d = 9) ∨ (d = 6 ∧ thrT d = 17) ∨ (d = 7 ∧ thrT d = 17) := by rcases sd with h | h | h <;> subst h <;> decide
    generalize thrT d = T at key hT
    rcases key with ⟨x1, x2, x3⟩ | ⟨x1, x2⟩
    · rcases hT with ⟨y1, y2⟩ | ⟨y1, y2⟩ | ⟨y1, y2⟩ <;> rw [y1] at e0 <;>
      · simp -implicitDefEqProofs (disch := first | assumption | decide | omega | (simp -implicitDefEqProofs only [wpD1] <;> omega) | (refine not_in_one ?_; first | omega | (simp -implicitDefEqProofs only [wpD1] <;> omega) | fail) | (simp -implicitDefEqProofs only [wpD2] <;> assumption) | ((repeat (first | exact HSub.refl _ | assumption | refine HSub.push ?_ _ | refine HSub.reserve ?_ _ | refine HSub.put ?_ (by omega) _)); done) | fail) only [↓wpPre, wpPost, wpPoly, Int.reduceToNat, Int.reducePow, Int.reduceMul, Int.reduceAdd, Int.reduceSub, Int.reduceNeg, Nat.reduceAdd, Nat.reduceMul, Nat.reducePow, Int.reduceLT, Int.reduceLE, Int.reduceEq, Nat.reduceEqDiff, e0, e1, e2, e3, e9, e10, e16]
        simp [x1]
    · rcases x2 with x2 | ⟨x2, x3⟩ <;> rcases hT with ⟨y1, y2⟩ | ⟨y1, y2⟩ | ⟨y1, y2⟩ <;> rw [y1] at e0 <;> rw [y2] at x1 <;> rcases x1 with x1 | x1 | x1 <;> rw [x1] at e16 <;>
      · simp -implicitDefEqProofs (disch := first | assumption | decide | omega | (simp -implicitDefEqProofs only [wpD1] <;> omega) | (refine not_in_one ?_; first | omega | (simp -implicitDefEqProofs only [wpD1] <;> omega) | fail) | (simp -implicitDefEqProofs only [wpD2] <;> assumption) | ((repeat (first | exact HSub.refl _ | assumption | refine HSub.push ?_ _ | refine HSub.reserve ?_ _ | refine HSub.put ?_ (by omega) _)); done) | fail) only [↓wpPre, wpPost, wpPoly, Int.reduceToNat, Int.reducePow, Int.reduceMul, Int.reduceAdd, Int.reduceSub, Int.reduceNeg, Nat.reduceAdd, Nat.reduceMul, Nat.reducePow, Int.reduceLT, Int.reduceLE, Int.reduceEq, Nat.reduceEqDiff, gV_u, e0, e1, e2, e3, e9, e10, e16]
        try rfl
end
end Go.Ae

/- The statement on rotations that are found, of layer 8. -/
set_option linter.unusedSimpArgs false
set_option linter.unusedVariables false
namespace Go.Ae
section
variable {C : Ctx}
theorem findErr_set {d : Int} (hd : smallD d) {p k m : Nat} (hm : m < lenN d) : findErr d ((rotL (codeL d p) k).set m (-(rotL (codeL d p) k).getD m 0)) = 0 := by
  have hl := hd.len
  have e0 := findErr_rot hd (p := p) (k := k)
  unfold findErr at e0 ⊢
  rw [if_pos hl.1] at e0 ⊢
  have h0 : ¬ ((rotL (codeL d p) k).length ≠ lenN d ∨ (rotL (codeL d p) k).any badC = true) := fun h => by rw [if_pos h] at e0; exact absurd e0 (by decide)
  rw [if_neg]
  rintro (h | h)
  · exact h (by rw [List.length_set]; exact Decidable.not_not.1 fun x => h0 (.inl x))
  · obtain ⟨x, hx, hb⟩ := List.any_eq_true.1 h
    rcases List.mem_or_eq_of_mem_set hx with hx | rfl
    · exact h0 (.inr (List.any_eq_true.2 ⟨x, hx, hb⟩))
    · have h5 : (rotL (codeL d p) k).getD m 0 = 1 ∨ (rotL (codeL d p) k).getD m 0 = -1 := by
        rw [codeL_rot hm]; exact codeL_pm (Nat.mod_lt _ (by omega))
      simp only [badC, decide_eq_true_eq] at hb
      omega
theorem find_ok (hC : Has C T85) {d : Int} {v : AV} {l : List Int} {h : Heap} {a b c : Int} (hd : In64 d) (hv : RI h v l) (e : findErr d l = 0) (hr : FindR d l (tup3 a b c)) : ACalls C 85 [.int .i64 d, v] h (fun r h' => r = tup3 a b c ∧ HSub h h') := by
  refine (Find_spec hC hd hv hr).mono ?_
  rintro r h' ⟨rfl, s⟩
  exact ⟨by rw [if_pos e], s⟩
set_option maxRecDepth 100000 in
set_option maxHeartbeats 4000000 in
theorem GoldBack_law (hC : Has C T69) {d0 p0 k0 m0 : Int} {h : Heap} (hd0 : In64 d0) (hp0 : In64 p0) (hk0 : In64 k0) (hm0 : In64 m0) : ACalls C 69 [.int .i64 d0, .int .i64 p0, .int .i64 k0, .int .i64 m0] h (fun r _ => r = .bool true) := by
  obtain ⟨d, hd⟩ : ∃ d, d = 5 + d0 % 3 := ⟨_, rfl⟩
  have sd : smallD d := by unfold smallD; omega
  have hl := sd.len
  have hN := lenN_eq hl.1
  have hd5 : 5 ≤ d ∧ d ≤ 7 := by omega
  obtain ⟨n, hn⟩ : ∃ n, n = lenN d := ⟨_, rfl⟩
  rw [← hn] at hN
  obtain ⟨p1, ep, hp⟩ := turn_nat (x := p0) (n := n + 2) (by omega)
  obtain ⟨k, ek, hk⟩ := turn_nat (x := k0) (n := n) (by omega)
  obtain ⟨m, em, hm⟩ := turn_nat (x := m0) (n := n) (by omega)
  have D := fun h => Degree_spec (h := h) (hC.sub (T' := T88) (by decide)) hd0
  rw [← hd] at D
  have eL : lenE d = tup2 n 0 := by unfold lenE; rw [if_pos hl.1, hn]
  have Tp := fun h => Turn_spec (h := h) (n := (n : Int) + 2) (hC.sub (T' := T23) (by decide)) hp0 (by omega)
  have Tk := fun h => Turn_spec (h := h) (n := (n : Int)) (hC.sub (T' := T23) (by decide)) hk0 (by omega)
  have Tm := fun h => Turn_spec (h := h) (n := (n : Int)) (hC.sub (T' := T23) (by decide)) hm0 (by omega)
  rw [show (n : Int) + 2 = ((n + 2 : Nat) : Int) by omega, ep] at Tp
  rw [ek] at Tk
  rw [em] at Tm
  have cl : ∀ p, (codeL d p).length = n := fun p => by rw [codeL_length, hn]
  have e2 : ((n + 2 : Nat) : Int) = (n : Int) + 2 := by omega
  rw [e2] at Tp
  have e1 : ((n + 1 : Nat) : Int) - 1 = n := by omega
  have ep1 : 1 + (p1 : Int) = ((p1 + 1 : Nat) : Int) := by omega
  have F1 := find_rot sd (p := p1 + 1) (k := k) (by omega) (by omega)
  have F2 := find_turned sd (p := p1 + 1) (k := k) (m := m) (by omega) (by omega) (by omega)
  have E1 := findErr_rot sd (p := p1 + 1) (k := k)
  have E2 := findErr_set sd (p := p1 + 1) (k := k) (m := m) (by omega)
  have rl : (rotL (codeL d ((p1 + 1 : Nat) : Int)) k).length = n := by rw [rotL_length, cl]
  have gm : (rotL (codeL d ((p1 + 1 : Nat) : Int)) k).getD m 0 = 1 ∨ (rotL (codeL d ((p1 + 1 : Nat) : Int)) k).getD m 0 = -1 := by
    rw [codeL_rot (by omega)]; exact codeL_pm (Nat.mod_lt _ (by omega))
  have gneg : 0 - (rotL (codeL d ((p1 + 1 : Nat) : Int)) k).getD m 0 = -(rotL (codeL d ((p1 + 1 : Nat) : Int)) k).getD m 0 := by omega
  obtain ⟨L, hL⟩ : ∃ L, L = rotL (codeL d ((p1 + 1 : Nat) : Int)) k := ⟨_, rfl⟩
  rw [← hL] at F1 F2 E1 E2 rl gm gneg
  have id5 : In64 d := by unfold In64; omega
  have hRot : ∀ {v : AV} {h : Heap}, RI h v (codeL d ((p1 + 1 : Nat) : Int)) → ACalls C 87 [v, .int .i64 (k : Nat)] h (fun r h' => GrwI h h' r L) := by
    intro v h hv
    rw [hL]
    exact Rotated_spec (hC.sub (T' := T87) (by decide)) hv (by rw [cl]; omega) (by omega)
  (refine calls_intro (hC.body (by decide) tab69) (Nat.le_of_ble_eq_true rfl) ?_); (show wp C _ none B69.code _ _); (simp only [B69]); simp -implicitDefEqProofs (disch := first | assumption | decide | omega | (simp -implicitDefEqProofs only [wpD1] <;> omega) | (refine not_in_one ?_; first | omega | (simp -implicitDefEqProofs only [wpD1] <;> omega) | fail) | (simp -implicitDefEqProofs only [wpD2] <;> assumption) | ((repeat (first | exact HSub.refl _ | assumption | refine HSub.push ?_ _ | refine HSub.reserve ?_ _ | refine HSub.put ?_ (by omega) _)); done) | fail) only [↓wpPre, wpPost, wpPoly, Int.reduceToNat, Int.reducePow, Int.reduceMul, Int.reduceAdd, Int.reduceSub, Int.reduceNeg, Nat.reduceAdd, Nat.reduceMul, Nat.reducePow, Int.reduceLT, Int.reduceLE, Int.reduceEq, Nat.reduceEqDiff]
  refine ACallsK.of (known08_spec (hC.sub (T' := T65) (by decide))) ?_
  rintro r h1 ⟨rfl, s1⟩
  simp -implicitDefEqProofs (disch := first | assumption | decide | omega | (simp -implicitDefEqProofs only [wpD1] <;> omega) | (refine not_in_one ?_; first | omega | (simp -implicitDefEqProofs only [wpD1] <;> omega) | fail) | (simp -implicitDefEqProofs only [wpD2] <;> assumption) | ((repeat (first | exact HSub.refl _ | assumption | refine HSub.push ?_ _ | refine HSub.reserve ?_ _ | refine HSub.put ?_ (by omega) _)); done) | fail) only [↓wpPre, wpPost, wpPoly, Int.reduceToNat, Int.reducePow, Int.reduceMul, Int.reduceAdd, Int.reduceSub, Int.reduceNeg, Nat.reduceAdd, Nat.reduceMul, Nat.reducePow, Int.reduceLT, Int.reduceLE, Int.reduceEq, Nat.reduceEqDiff]
  refine ACallsK.eq (D _) ?_
  simp -implicitDefEqProofs (disch := first | assumption | decide | omega | (simp -implicitDefEqProofs only [wpD1] <;> omega) | (refine not_in_one ?_; first | omega | (simp -implicitDefEqProofs only [wpD1] <;> omega) | fail) | (simp -implicitDefEqProofs only [wpD2] <;> assumption) | ((repeat (first | exact HSub.refl _ | assumption | refine HSub.push ?_ _ | refine HSub.reserve ?_ _ | refine HSub.put ?_ (by omega) _)); done) | fail) only [↓wpPre, wpPost, wpPoly, Int.reduceToNat, Int.reducePow, Int.reduceMul, Int.reduceAdd, Int.reduceSub, Int.reduceNeg, Nat.reduceAdd, Nat.reduceMul, Nat.reducePow, Int.reduceLT, Int.reduceLE, Int.reduceEq, Nat.reduceEqDiff, Int.one_mul, hN.2.2, e1]
  refine ACallsK.eq2 (Length_spec (hC.sub (T' := T70) (by decide)) (by unfold In64; omega)) eL ?_
  simp -implicitDefEqProofs (disch := first | assumption | decide | omega | (simp -implicitDefEqProofs only [wpD1] <;> omega) | (refine not_in_one ?_; first | omega | (simp -implicitDefEqProofs only [wpD1] <;> omega) | fail) | (simp -implicitDefEqProofs only [wpD2] <;> assumption) | ((repeat (first | exact HSub.refl _ | assumption | refine HSub.push ?_ _ | refine HSub.reserve ?_ _ | refine HSub.put ?_ (by omega) _)); done) | fail) only [↓wpPre, wpPost, wpPoly, Int.reduceToNat, Int.reducePow, Int.reduceMul, Int.reduceAdd, Int.reduceSub, Int.reduceNeg, Nat.reduceAdd, Nat.reduceMul, Nat.reducePow, Int.reduceLT, Int.reduceLE, Int.reduceEq, Nat.reduceEqDiff, tup2]
  refine ACallsK.eq (Tp _) ?_
  simp -implicitDefEqProofs (disch := first | assumption | decide | omega | (simp -implicitDefEqProofs only [wpD1] <;> omega) | (refine not_in_one ?_; first | omega | (simp -implicitDefEqProofs only [wpD1] <;> omega) | fail) | (simp -implicitDefEqProofs only [wpD2] <;> assumption) | ((repeat (first | exact HSub.refl _ | assumption | refine HSub.push ?_ _ | refine HSub.reserve ?_ _ | refine HSub.put ?_ (by omega) _)); done) | fail) only [↓wpPre, wpPost, wpPoly, Int.reduceToNat, Int.reducePow, Int.reduceMul, Int.reduceAdd, Int.reduceSub, Int.reduceNeg, Nat.reduceAdd, Nat.reduceMul, Nat.reducePow, Int.reduceLT, Int.reduceLE, Int.reduceEq, Nat.reduceEqDiff, ep1]
  refine ACallsK.eq (Tk _) ?_
  simp -implicitDefEqProofs (disch := first | assumption | decide | omega | (simp -implicitDefEqProofs only [wpD1] <;> omega) | (refine not_in_one ?_; first | omega | (simp -implicitDefEqProofs only [wpD1] <;> omega) | fail) | (simp -implicitDefEqProofs only [wpD2] <;> assumption) | ((repeat (first | exact HSub.refl _ | assumption | refine HSub.push ?_ _ | refine HSub.reserve ?_ _ | refine HSub.put ?_ (by omega) _)); done) | fail) only [↓wpPre, wpPost, wpPoly, Int.reduceToNat, Int.reducePow, Int.reduceMul, Int.reduceAdd, Int.reduceSub, Int.reduceNeg, Nat.reduceAdd, Nat.reduceMul, Nat.reducePow, Int.reduceLT, Int.reduceLE, Int.reduceEq, Nat.reduceEqDiff]
  refine ACallsK.eq (Tm _) ?_
  simp -implicitDefEqProofs (disch := first | assumption | decide | omega | (simp -implicitDefEqProofs only [wpD1] <;> omega) | (refine not_in_one ?_; first | omega | (simp -implicitDefEqProofs only [wpD1] <;> omega) | fail) | (simp -implicitDefEqProofs only [wpD2] <;> assumption) | ((repeat (first | exact HSub.refl _ | assumption | refine HSub.push ?_ _ | refine HSub.reserve ?_ _ | refine HSub.put ?_ (by omega) _)); done) | fail) only [↓wpPre, wpPost, wpPoly, Int.reduceToNat, Int.reducePow, Int.reduceMul, Int.reduceAdd, Int.reduceSub, Int.reduceNeg, Nat.reduceAdd, Nat.reduceMul, Nat.reducePow, Int.reduceLT, Int.reduceLE, Int.reduceEq, Nat.reduceEqDiff]
  refine ACallsK.of (code_ok (hC.sub (T' := T76) (by decide)) sd (p := p1 + 1) (by omega)) ?_
  rintro r h2 ⟨va, rfl, s2, Ra⟩
  simp -implicitDefEqProofs (disch := first | assumption | decide | omega | (simp -implicitDefEqProofs only [wpD1] <;> omega) | (refine not_in_one ?_; first | omega | (simp -implicitDefEqProofs only [wpD1] <;> omega) | fail) | (simp -implicitDefEqProofs only [wpD2] <;> assumption) | ((repeat (first | exact HSub.refl _ | assumption | refine HSub.push ?_ _ | refine HSub.reserve ?_ _ | refine HSub.put ?_ (by omega) _)); done) | fail) only [↓wpPre, wpPost, wpPoly, Int.reduceToNat, Int.reducePow, Int.reduceMul, Int.reduceAdd, Int.reduceSub, Int.reduceNeg, Nat.reduceAdd, Nat.reduceMul, Nat.reducePow, Int.reduceLT, Int.reduceLE, Int.reduceEq, Nat.reduceEqDiff, lstErr, Ra.len, cl]
  refine ACallsK.of (hRot Ra) ?_
  rintro r h3 A
  have RL := A.ri
  obtain ⟨a1, a2, a3, ⟨rfl, a4⟩ | ⟨i, ex, hi, rfl, hg⟩⟩ := A
  · exfalso; omega
  have hg' : h3.get i = some (.cells (ints L ++ ex) true 1) := hg
  have hlt := Heap.lt_of_get hg
  simp -implicitDefEqProofs (disch := first | assumption | decide | omega | (simp -implicitDefEqProofs only [wpD1] <;> omega) | (refine not_in_one ?_; first | omega | (simp -implicitDefEqProofs only [wpD1] <;> omega) | fail) | (simp -implicitDefEqProofs only [wpD2] <;> assumption) | ((repeat (first | exact HSub.refl _ | assumption | refine HSub.push ?_ _ | refine HSub.reserve ?_ _ | refine HSub.put ?_ (by omega) _)); done) | fail) only [↓wpPre, wpPost, wpPoly, Int.reduceToNat, Int.reducePow, Int.reduceMul, Int.reduceAdd, Int.reduceSub, Int.reduceNeg, Nat.reduceAdd, Nat.reduceMul, Nat.reducePow, Int.reduceLT, Int.reduceLE, Int.reduceEq, Nat.reduceEqDiff]
  refine ACallsK.of (find_ok (hC.sub (T' := T85) (by decide)) id5 RL E1 F1) ?_
  rintro r h4 ⟨rfl, s4⟩
  have hg4 := (s4.get i hlt).trans hg'
  have RL4 := RL.mono s4
  have z4 := s4.size
  have em2 : (m : Int).toNat = m := Int.toNat_natCast _
  have lx : m < (ints L ++ ex).length := by rw [List.length_append, ints_length]; omega
  have gx : (ints L ++ ex)[m]? = some (.int .i64 (L.getD m 0)) := by rw [List.getElem?_append_left (by rw [ints_length]; omega), ints_get (by omega)]
  have sx : (ints L ++ ex).set m (.int .i64 (-L.getD m 0)) = ints (L.set m (-L.getD m 0)) ++ ex := by rw [List.set_append_left _ _ (by rw [ints_length]; omega), ints_set]
  have lset : (L.set m (-L.getD m 0)).length = n := by rw [List.length_set, rl]
  have hi4 : i < h4.size := by omega
  have R5 : RI (h4.put i (.cells (ints (L.set m (-L.getD m 0)) ++ ex) true 1)) (.slice i 0 L.length (.unk 0)) (L.set m (-L.getD m 0)) := by
    have G : GrwI h2 (h4.put i (.cells (ints (L.set m (-L.getD m 0)) ++ ex) true 1)) (.slice i 0 (L.set m (-L.getD m 0)).length (.unk 0)) (L.set m (-L.getD m 0)) :=
      ⟨(a1.trans s4).put hi _, by rw [ints_length, Nat.mul_one], by omega, .inr ⟨i, ex, hi, rfl, get_put_eq rfl hi4⟩⟩
    have := G.ri
    rw [List.length_set] at this
    exact this
  simp -implicitDefEqProofs (disch := first | assumption | decide | omega | (simp -implicitDefEqProofs only [wpD1] <;> omega) | (refine not_in_one ?_; first | omega | (simp -implicitDefEqProofs only [wpD1] <;> omega) | fail) | (simp -implicitDefEqProofs only [wpD2] <;> assumption) | ((repeat (first | exact HSub.refl _ | assumption | refine HSub.push ?_ _ | refine HSub.reserve ?_ _ | refine HSub.put ?_ (by omega) _)); done) | fail) only [↓wpPre, wpPost, wpPoly, Int.reduceToNat, Int.reducePow, Int.reduceMul, Int.reduceAdd, Int.reduceSub, Int.reduceNeg, Nat.reduceAdd, Nat.reduceMul, Nat.reducePow, Int.reduceLT, Int.reduceLE, Int.reduceEq, Nat.reduceEqDiff, tup3, RL4.idx, RL4.load, gneg, hg4, gx, sx]
  refine ACallsK.of (find_ok (hC.sub (T' := T85) (by decide)) id5 R5 E2 F2) ?_
  rintro r h5 ⟨rfl, s5⟩
  simp -implicitDefEqProofs (disch := first | assumption | decide | omega | (simp -implicitDefEqProofs only [wpD1] <;> omega) | (refine not_in_one ?_; first | omega | (simp -implicitDefEqProofs only [wpD1] <;> omega) | fail) | (simp -implicitDefEqProofs only [wpD2] <;> assumption) | ((repeat (first | exact HSub.refl _ | assumption | refine HSub.push ?_ _ | refine HSub.reserve ?_ _ | refine HSub.put ?_ (by omega) _)); done) | fail) only [↓wpPre, wpPost, wpPoly, Int.reduceToNat, Int.reducePow, Int.reduceMul, Int.reduceAdd, Int.reduceSub, Int.reduceNeg, Nat.reduceAdd, Nat.reduceMul, Nat.reducePow, Int.reduceLT, Int.reduceLE, Int.reduceEq, Nat.reduceEqDiff, tup3]
end
end Go.Ae

/- The statement on shifts of layer 8. -/
set_option linter.unusedSimpArgs false
set_option linter.unusedVariables false
namespace Go.Ae
theorem sum_isum : ∀ (l : List Int) (n : Nat), n ≤ l.length → (l.take n).sum = isum (fun i => l.getD i 0) n
  | l, 0, _ => by simp [isum]
  | l, n + 1, h => by rw [sum_take_succ (by omega), sum_isum l n (by omega)]; rfl
def which12 (w : Int) : Prop := w = 1 ∨ w = 2
theorem codeB_bits {d w : Int} (hw : which12 w) (i : Nat) : codeB d w i = (bitsL d w).getD i 0 := by
  rcases hw with rfl | rfl
  · unfold codeB; rw [if_pos rfl]
  · unfold codeB; rw [if_neg (by decide), if_pos rfl]
/-- What is known of one sequence. -/
theorem one_seq {d w : Int} (hd : smallD d) (hw : which12 w) : (∀ a, a % lenN d ≠ 0 → ∃ s, ∀ i, (perL (bitsL d w) (lenN d) i + perL (bitsL d w) (lenN d) (i + a)) % 2 = perL (bitsL d w) (lenN d) (i + s)) ∧ isum (fun i => 1 - 2 * perL (bitsL d w) (lenN d) i) (lenN d) = -1 := by
  have P := pair_deg hd
  rcases hw with rfl | rfl
  · exact ⟨P.usa, P.usum⟩
  · exact ⟨P.vsa, P.vsum⟩
theorem code_sum {d w : Int} (hd : smallD d) (hw : which12 w) : (codeL d w).sum = -1 := by
  have h := (one_seq hd hw).2
  have h1 := sum_isum (codeL d w) (lenN d) (Nat.le_of_eq (codeL_length _ _).symm)
  rw [← codeL_length d w, List.take_length, codeL_length] at h1
  rw [h1, ← h]
  refine isum_congr _ fun i hi => ?_
  rw [codeL_get hi, codeB_bits hw]
  unfold perL; rw [Nat.mod_eq_of_lt hi]
theorem auto_one {d w : Int} (hd : smallD d) (hw : which12 w) {k : Nat} (hk : 0 < k ∧ k < lenN d) : isum (fun i => (codeL d w).getD (i % lenN d) 0 * (codeL d w).getD ((i + k) % lenN d) 0) (lenN d) = -1 := by
  obtain ⟨h1, h2⟩ := one_seq hd hw
  obtain ⟨s, hs⟩ := h1 k (by rw [Nat.mod_eq_of_lt hk.2]; omega)
  rw [isum_congr (g := fun i => (fun j => 1 - 2 * perL (bitsL d w) (lenN d) j) (i + s)) _ (fun i hi => ?_)]
  · rw [isum_shift (f := fun j => 1 - 2 * perL (bitsL d w) (lenN d) j) (fun i => by rw [perL_per]) s]; exact h2
  · have hm : (i + k) % lenN d < lenN d := Nat.mod_lt _ (by omega)
    rw [Nat.mod_eq_of_lt hi, codeL_get hi, codeL_get hm, codeB_bits hw, codeB_bits hw]
    have h3 := hs i
    have b1 := bit01_getD (bitsL_01 (d := d) (w := w)) i
    have b2 := bit01_getD (bitsL_01 (d := d) (w := w)) ((i + k) % lenN d)
    have e1 : perL (bitsL d w) (lenN d) i = (bitsL d w).getD i 0 := by unfold perL; rw [Nat.mod_eq_of_lt hi]
    have e2 : perL (bitsL d w) (lenN d) (i + k) = (bitsL d w).getD ((i + k) % lenN d) 0 := rfl
    rw [e1, e2] at h3
    show _ = 1 - 2 * perL (bitsL d w) (lenN d) (i + s)
    rw [← h3]
    rcases b1 with b1 | b1 <;> rcases b2 with b2 | b2 <;> rw [b1, b2] <;> rfl
def bothL (u v : List Int) (n : Nat) : List Int := (List.range n).map fun i => (u.getD i 0 + v.getD i 0) % 2
theorem bothL_succ (u v : List Int) (n : Nat) : bothL u v (n + 1) = bothL u v n ++ [(u.getD n 0 + v.getD n 0) % 2] := by simp [bothL, List.range_succ]
theorem bothL_length (u v : List Int) (n : Nat) : (bothL u v n).length = n := by simp [bothL]
theorem both_rot {d w : Int} (hd : smallD d) (hw : which12 w) {k : Nat} (hk : 0 < k ∧ k < lenN d) : ∃ s, s < lenN d ∧ rotL (bitsL d w) s = bothL (bitsL d w) (rotL (bitsL d w) k) (lenN d) := by
  have hl := hd.len
  obtain ⟨h1, _⟩ := one_seq hd hw
  obtain ⟨s, hs⟩ := h1 k (by rw [Nat.mod_eq_of_lt hk.2]; omega)
  refine ⟨s % lenN d, Nat.mod_lt _ (by omega), ?_⟩
  have lb := bitsL_length d w
  refine seqx (by rw [rotL_length, bothL_length, lb]) fun i hi => ?_
  rw [rotL_length, lb] at hi
  rw [rotL_get (by omega), lb]
  have hb : (bothL (bitsL d w) (rotL (bitsL d w) k) (lenN d)).getD i 0 = ((bitsL d w).getD i 0 + (rotL (bitsL d w) k).getD i 0) % 2 := by simp [bothL, hi]
  rw [hb, rotL_get (by omega), lb, Nat.add_mod_mod]
  have h3 := hs i
  unfold perL at h3
  rw [Nat.mod_eq_of_lt hi] at h3
  exact h3.symm
section
variable {C : Ctx}
set_option maxRecDepth 100000 in
set_option maxHeartbeats 4000000 in
theorem GoldShifts_law (hC : Has C T67) {d0 w0 k0 : Int} {h : Heap} (hd0 : In64 d0) (hw0 : In64 w0) (hk0 : In64 k0) : ACalls C 67 [.int .i64 d0, .int .i64 w0, .int .i64 k0] h (fun r _ => r = .bool true) := by
  obtain ⟨d, hd⟩ : ∃ d, d = 5 + d0 % 3 := ⟨_, rfl⟩
  obtain ⟨w, hw⟩ : ∃ w, w = 1 + w0 % 2 := ⟨_, rfl⟩
  have sd : smallD d := by unfold smallD; omega
  have sw : which12 w := by unfold which12; omega
  have sw' : 1 ≤ w ∧ w ≤ 2 := by omega
  have hl := sd.len
  have hN := lenN_eq hl.1
  have hd5 : 5 ≤ d ∧ d ≤ 7 := by omega
  obtain ⟨n, hn⟩ : ∃ n, n = lenN d := ⟨_, rfl⟩
  rw [← hn] at hN
  obtain ⟨k1, ek, hk⟩ := turn_nat (x := k0) (n := n - 1) (by omega)
  have D := fun h => Degree_spec (h := h) (hC.sub (T' := T88) (by decide)) hd0
  rw [← hd] at D
  have Tw := fun h => Turn_spec (h := h) (n := 2) (hC.sub (T' := T23) (by decide)) hw0 (by omega)
  have Tk := fun h => Turn_spec (h := h) (n := ((n - 1 : Nat) : Int)) (hC.sub (T' := T23) (by decide)) hk0 (by omega)
  rw [ek] at Tk
  have en1 : ((n - 1 : Nat) : Int) = (n : Int) - 1 := by omega
  rw [en1] at Tk
  have eL : lenE d = tup2 n 0 := by unfold lenE; rw [if_pos hl.1, hn]
  have id5 : In64 d := by unfold In64; omega
  have iw : In64 w := by unfold In64; omega
  have et : tapsErr d w = 0 := by unfold tapsErr; rw [if_pos ⟨hl.1, sw⟩]
  have ec : codeErr d w = 0 := by unfold codeErr; rw [if_pos ⟨hl.1, by omega, by omega⟩]
  have Bi := fun h => Bits_spec (h := h) (hC.sub (T' := T74) (by decide)) id5 iw
  have Co := fun h => Code_spec (h := h) (hC.sub (T' := T76) (by decide)) id5 iw
  have Su := fun h => Sum_spec (h := h) (hC.sub (T' := T78) (by decide)) id5 iw
  rw [et, if_pos rfl] at Bi
  rw [ec, if_pos rfl] at Co
  have eS : sumE d w = tup2 (-1) 0 := by unfold sumE; rw [if_pos ec, code_sum sd sw]
  rw [eS] at Su
  have lb : (bitsL d w).length = n := by rw [bitsL_length, hn]
  have lc : (codeL d w).length = n := by rw [codeL_length, hn]
  have hb := both_rot sd sw (k := k1 + 1) (by omega)
  have hA := auto_one sd sw (k := k1 + 1) (by omega)
  rw [← hn] at hb hA
  have e1 : ((n + 1 : Nat) : Int) - 1 = n := by omega
  have ek1 : 1 + (k1 : Int) = ((k1 + 1 : Nat) : Int) := by omega
  have lv : (rotL (bitsL d w) (k1 + 1)).length = n := by rw [rotL_length, lb]
  have hcb : ∀ i, i < n → (codeL d w).getD i 0 = 1 - 2 * (bitsL d w).getD i 0 := fun i hi => by rw [codeL_get (by omega), codeB_bits sw]
  have f01 : ∀ i, (codeL d w).getD (i % n) 0 * (codeL d w).getD ((i + (k1 + 1)) % n) 0 = 1 ∨ (codeL d w).getD (i % n) 0 * (codeL d w).getD ((i + (k1 + 1)) % n) 0 = -1 := fun i => by
    have h1 := codeL_pm (d := d) (p := w) (i := i % n) (by rw [← hn]; exact Nat.mod_lt _ (by omega))
    have h2 := codeL_pm (d := d) (p := w) (i := (i + (k1 + 1)) % n) (by rw [← hn]; exact Nat.mod_lt _ (by omega))
    rcases h1 with h1 | h1 <;> rcases h2 with h2 | h2 <;> rw [h1, h2] <;> simp
  have bS := isum_le f01
  have u01 := fun i => bit01_getD (bitsL_01 (d := d) (w := w)) i
  have hRot : ∀ {v : AV} {j : Nat} {h : Heap}, RI h v (bitsL d w) → j ≤ 1000 → ACalls C 87 [v, .int .i64 (j : Nat)] h (fun r h' => GrwI h h' r (rotL (bitsL d w) j)) := fun hv hj =>
    Rotated_spec (hC.sub (T' := T87) (by decide)) hv (by rw [lb]; omega) (by omega)
  obtain ⟨u, hu⟩ : ∃ u, u = bitsL d w := ⟨_, rfl⟩
  obtain ⟨c, hc⟩ : ∃ c, c = codeL d w := ⟨_, rfl⟩
  rw [← hu] at Bi lb hb lv u01 hcb
  rw [← hc] at Co lc hA f01 bS hcb
  simp only [← hu] at hRot
  have v01 : ∀ i, i < n → (rotL u (k1 + 1)).getD i 0 = 0 ∨ (rotL u (k1 + 1)).getD i 0 = 1 := fun i hi => by rw [rotL_get (by omega)]; exact u01 _
  (refine calls_intro (hC.body (by decide) tab67) (Nat.le_of_ble_eq_true rfl) ?_); (show wp C _ none B67.code _ _); (simp only [B67]); simp -implicitDefEqProofs (disch := first | assumption | decide | omega | (simp -implicitDefEqProofs only [wpD1] <;> omega) | (refine not_in_one ?_; first | omega | (simp -implicitDefEqProofs only [wpD1] <;> omega) | fail) | (simp -implicitDefEqProofs only [wpD2] <;> assumption) | ((repeat (first | exact HSub.refl _ | assumption | refine HSub.push ?_ _ | refine HSub.reserve ?_ _ | refine HSub.put ?_ (by omega) _)); done) | fail) only [↓wpPre, wpPost, wpPoly, Int.reduceToNat, Int.reducePow, Int.reduceMul, Int.reduceAdd, Int.reduceSub, Int.reduceNeg, Nat.reduceAdd, Nat.reduceMul, Nat.reducePow, Int.reduceLT, Int.reduceLE, Int.reduceEq, Nat.reduceEqDiff]
  refine ACallsK.of (known08_spec (hC.sub (T' := T65) (by decide))) ?_
  rintro r h1 ⟨rfl, s1⟩
  simp -implicitDefEqProofs (disch := first | assumption | decide | omega | (simp -implicitDefEqProofs only [wpD1] <;> omega) | (refine not_in_one ?_; first | omega | (simp -implicitDefEqProofs only [wpD1] <;> omega) | fail) | (simp -implicitDefEqProofs only [wpD2] <;> assumption) | ((repeat (first | exact HSub.refl _ | assumption | refine HSub.push ?_ _ | refine HSub.reserve ?_ _ | refine HSub.put ?_ (by omega) _)); done) | fail) only [↓wpPre, wpPost, wpPoly, Int.reduceToNat, Int.reducePow, Int.reduceMul, Int.reduceAdd, Int.reduceSub, Int.reduceNeg, Nat.reduceAdd, Nat.reduceMul, Nat.reducePow, Int.reduceLT, Int.reduceLE, Int.reduceEq, Nat.reduceEqDiff]
  refine ACallsK.eq (D _) ?_
  simp -implicitDefEqProofs (disch := first | assumption | decide | omega | (simp -implicitDefEqProofs only [wpD1] <;> omega) | (refine not_in_one ?_; first | omega | (simp -implicitDefEqProofs only [wpD1] <;> omega) | fail) | (simp -implicitDefEqProofs only [wpD2] <;> assumption) | ((repeat (first | exact HSub.refl _ | assumption | refine HSub.push ?_ _ | refine HSub.reserve ?_ _ | refine HSub.put ?_ (by omega) _)); done) | fail) only [↓wpPre, wpPost, wpPoly, Int.reduceToNat, Int.reducePow, Int.reduceMul, Int.reduceAdd, Int.reduceSub, Int.reduceNeg, Nat.reduceAdd, Nat.reduceMul, Nat.reducePow, Int.reduceLT, Int.reduceLE, Int.reduceEq, Nat.reduceEqDiff]
  refine ACallsK.eq (Tw _) ?_
  simp -implicitDefEqProofs (disch := first | assumption | decide | omega | (simp -implicitDefEqProofs only [wpD1] <;> omega) | (refine not_in_one ?_; first | omega | (simp -implicitDefEqProofs only [wpD1] <;> omega) | fail) | (simp -implicitDefEqProofs only [wpD2] <;> assumption) | ((repeat (first | exact HSub.refl _ | assumption | refine HSub.push ?_ _ | refine HSub.reserve ?_ _ | refine HSub.put ?_ (by omega) _)); done) | fail) only [↓wpPre, wpPost, wpPoly, Int.reduceToNat, Int.reducePow, Int.reduceMul, Int.reduceAdd, Int.reduceSub, Int.reduceNeg, Nat.reduceAdd, Nat.reduceMul, Nat.reducePow, Int.reduceLT, Int.reduceLE, Int.reduceEq, Nat.reduceEqDiff, ← hw]
  refine ACallsK.of (Bi _) ?_
  rintro r h2 ⟨vu, rfl, s2, Ru, _⟩
  simp -implicitDefEqProofs (disch := first | assumption | decide | omega | (simp -implicitDefEqProofs only [wpD1] <;> omega) | (refine not_in_one ?_; first | omega | (simp -implicitDefEqProofs only [wpD1] <;> omega) | fail) | (simp -implicitDefEqProofs only [wpD2] <;> assumption) | ((repeat (first | exact HSub.refl _ | assumption | refine HSub.push ?_ _ | refine HSub.reserve ?_ _ | refine HSub.put ?_ (by omega) _)); done) | fail) only [↓wpPre, wpPost, wpPoly, Int.reduceToNat, Int.reducePow, Int.reduceMul, Int.reduceAdd, Int.reduceSub, Int.reduceNeg, Nat.reduceAdd, Nat.reduceMul, Nat.reducePow, Int.reduceLT, Int.reduceLE, Int.reduceEq, Nat.reduceEqDiff, lstErr]
  refine ACallsK.of (Co _) ?_
  rintro r h3 ⟨vc, rfl, s3, Rc, _⟩
  have Ru := Ru.mono s3
  simp -implicitDefEqProofs (disch := first | assumption | decide | omega | (simp -implicitDefEqProofs only [wpD1] <;> omega) | (refine not_in_one ?_; first | omega | (simp -implicitDefEqProofs only [wpD1] <;> omega) | fail) | (simp -implicitDefEqProofs only [wpD2] <;> assumption) | ((repeat (first | exact HSub.refl _ | assumption | refine HSub.push ?_ _ | refine HSub.reserve ?_ _ | refine HSub.put ?_ (by omega) _)); done) | fail) only [↓wpPre, wpPost, wpPoly, Int.reduceToNat, Int.reducePow, Int.reduceMul, Int.reduceAdd, Int.reduceSub, Int.reduceNeg, Nat.reduceAdd, Nat.reduceMul, Nat.reducePow, Int.reduceLT, Int.reduceLE, Int.reduceEq, Nat.reduceEqDiff, lstErr, Int.one_mul, hN.2.2, e1]
  refine ACallsK.eq2 (Length_spec (hC.sub (T' := T70) (by decide)) id5) eL ?_
  simp -implicitDefEqProofs (disch := first | assumption | decide | omega | (simp -implicitDefEqProofs only [wpD1] <;> omega) | (refine not_in_one ?_; first | omega | (simp -implicitDefEqProofs only [wpD1] <;> omega) | fail) | (simp -implicitDefEqProofs only [wpD2] <;> assumption) | ((repeat (first | exact HSub.refl _ | assumption | refine HSub.push ?_ _ | refine HSub.reserve ?_ _ | refine HSub.put ?_ (by omega) _)); done) | fail) only [↓wpPre, wpPost, wpPoly, Int.reduceToNat, Int.reducePow, Int.reduceMul, Int.reduceAdd, Int.reduceSub, Int.reduceNeg, Nat.reduceAdd, Nat.reduceMul, Nat.reducePow, Int.reduceLT, Int.reduceLE, Int.reduceEq, Nat.reduceEqDiff, tup2, Ru.len, Rc.len, lb, lc]
  refine ACallsK.eq (Tk _) ?_
  simp -implicitDefEqProofs (disch := first | assumption | decide | omega | (simp -implicitDefEqProofs only [wpD1] <;> omega) | (refine not_in_one ?_; first | omega | (simp -implicitDefEqProofs only [wpD1] <;> omega) | fail) | (simp -implicitDefEqProofs only [wpD2] <;> assumption) | ((repeat (first | exact HSub.refl _ | assumption | refine HSub.push ?_ _ | refine HSub.reserve ?_ _ | refine HSub.put ?_ (by omega) _)); done) | fail) only [↓wpPre, wpPost, wpPoly, Int.reduceToNat, Int.reducePow, Int.reduceMul, Int.reduceAdd, Int.reduceSub, Int.reduceNeg, Nat.reduceAdd, Nat.reduceMul, Nat.reducePow, Int.reduceLT, Int.reduceLE, Int.reduceEq, Nat.reduceEqDiff, ek1]
  refine ACallsK.of (hRot Ru (by omega)) ?_
  rintro vv h4 A4
  have s4 := A4.sub
  have Ru := Ru.mono s4
  have Rc := Rc.mono s4
  have Rv := A4.ri
  simp -implicitDefEqProofs (disch := first | assumption | decide | omega | (simp -implicitDefEqProofs only [wpD1] <;> omega) | (refine not_in_one ?_; first | omega | (simp -implicitDefEqProofs only [wpD1] <;> omega) | fail) | (simp -implicitDefEqProofs only [wpD2] <;> assumption) | ((repeat (first | exact HSub.refl _ | assumption | refine HSub.push ?_ _ | refine HSub.reserve ?_ _ | refine HSub.put ?_ (by omega) _)); done) | fail) only [↓wpPre, wpPost, wpPoly, Int.reduceToNat, Int.reducePow, Int.reduceMul, Int.reduceAdd, Int.reduceSub, Int.reduceNeg, Nat.reduceAdd, Nat.reduceMul, Nat.reducePow, Int.reduceLT, Int.reduceLE, Int.reduceEq, Nat.reduceEqDiff]
  refine wp_loopI (fun j t h' => ∃ i : Nat, GrwI h4 h' (t 17) (bothL u (rotL u (k1 + 1)) i) ∧ t 0 = .int .i64 d ∧ t 1 = .int .i64 w ∧ t 2 = .int .i64 ((k1 + 1 : Nat) : Int) ∧ t 7 = .bool true ∧ t 8 = vu ∧ t 10 = vc ∧ t 12 = .int .i64 (n : Nat) ∧ t 15 = vv ∧
      t 16 = .int .i64 (isum (fun i => c.getD (i % n) 0 * c.getD ((i + (k1 + 1)) % n) 0) i) ∧ t 18 = .int .i64 (i : Nat) ∧ i ≤ n ∧ j = n - i) (j0 := n)
    ⟨0, GrwI.nil _, rfl, rfl, rfl, rfl, rfl, rfl, rfl, rfl, rfl, rfl, by omega, rfl⟩ ?_
  rintro j t h5 ⟨i, A, e0, e1, e2, e7, e8, e10, e12, e15, e16, e18, hi, hj⟩
  simp -implicitDefEqProofs (disch := first | assumption | decide | omega | (simp -implicitDefEqProofs only [wpD1] <;> omega) | (refine not_in_one ?_; first | omega | (simp -implicitDefEqProofs only [wpD1] <;> omega) | fail) | (simp -implicitDefEqProofs only [wpD2] <;> assumption) | ((repeat (first | exact HSub.refl _ | assumption | refine HSub.push ?_ _ | refine HSub.reserve ?_ _ | refine HSub.put ?_ (by omega) _)); done) | fail) only [↓wpPre, wpPost, wpPoly, Int.reduceToNat, Int.reducePow, Int.reduceMul, Int.reduceAdd, Int.reduceSub, Int.reduceNeg, Nat.reduceAdd, Nat.reduceMul, Nat.reducePow, Int.reduceLT, Int.reduceLE, Int.reduceEq, Nat.reduceEqDiff, e12, e18]
  refine Br.by (fun c1 => ?_) (fun c1 => ?_)
  · have hi' : i < n := by omega
    have g1 := u01 i
    have g2 := v01 i hi'
    have gc := hcb i hi'
    have hm : (i + (k1 + 1)) % n < n := Nat.mod_lt _ (by omega)
    have em : ((i : Int) + ((k1 + 1 : Nat) : Int)) % (n : Int) = (((i + (k1 + 1)) % n : Nat) : Int) := by rw [← Int.natCast_add]; exact (Int.natCast_emod _ _).symm
    have b1 := bS i
    have f1 := f01 i
    rw [Nat.mod_eq_of_lt hi'] at f1
    have es : isum (fun i => c.getD (i % n) 0 * c.getD ((i + (k1 + 1)) % n) 0) (i + 1) = isum (fun i => c.getD (i % n) 0 * c.getD ((i + (k1 + 1)) % n) 0) i + c.getD i 0 * c.getD ((i + (k1 + 1)) % n) 0 := by
      simp only [isum, Nat.mod_eq_of_lt hi']
    rw [gc] at f1 es
    have Ru' := Ru.mono A.sub
    have Rv' := Rv.mono A.sub
    have lbi := bothL_length u (rotL u (k1 + 1)) i
    have hsH : ∀ b, HSub h5 ((h5.reserve 14).put (h5.size + 11) b) := fun b => ((HSub.refl _).reserve _).put (by omega) _
    have C1 := A.snocS (x := (u.getD i 0 + (rotL u (k1 + 1)).getD i 0) % 2) (k := h5.size + 12) (hsH (.cells [.int .i64 ((u.getD i 0 + (rotL u (k1 + 1)).getD i 0) % 2)] true 0)) ⟨by omega, by simp only [Heap.size_put, Heap.size_reserve]; omega⟩ (by omega)
    have RuC := Ru.mono C1.sub
    have RcC := Rc.mono C1.sub
    simp -implicitDefEqProofs (disch := first | assumption | decide | omega | (simp -implicitDefEqProofs only [wpD1] <;> omega) | (refine not_in_one ?_; first | omega | (simp -implicitDefEqProofs only [wpD1] <;> omega) | fail) | (simp -implicitDefEqProofs only [wpD2] <;> assumption) | ((repeat (first | exact HSub.refl _ | assumption | refine HSub.push ?_ _ | refine HSub.reserve ?_ _ | refine HSub.put ?_ (by omega) _)); done) | fail) only [↓wpPre, wpPost, wpPoly, Int.reduceToNat, Int.reducePow, Int.reduceMul, Int.reduceAdd, Int.reduceSub, Int.reduceNeg, Nat.reduceAdd, Nat.reduceMul, Nat.reducePow, Int.reduceLT, Int.reduceLE, Int.reduceEq, Nat.reduceEqDiff, e0, e1, e2, e7, e8, e10, e12, e15, e16, e18, Ru'.idx, Ru'.loadC, Rv'.idx, Rv'.loadC, cont_slice, contB_one, A.appS, Heap.wf, appK_none, RuC.load, RcC.idx, RcC.load, em, gc]
    refine ⟨_, ⟨i + 1, by rw [bothL_succ]; exact C1, es.symm, by simp, by omega, rfl⟩, by omega⟩
  · have ei : i = n := by omega
    rw [ei] at A e16
    rw [hA] at e16
    have RB := A.ri
    have s5 := A.sub
    have Ru := Ru.mono s5
    have hbt : ∃ B, B = bothL u (rotL u (k1 + 1)) n := ⟨_, rfl⟩
    obtain ⟨B, hB⟩ := hbt
    rw [← hB] at RB hb
    simp -implicitDefEqProofs (disch := first | assumption | decide | omega | (simp -implicitDefEqProofs only [wpD1] <;> omega) | (refine not_in_one ?_; first | omega | (simp -implicitDefEqProofs only [wpD1] <;> omega) | fail) | (simp -implicitDefEqProofs only [wpD2] <;> assumption) | ((repeat (first | exact HSub.refl _ | assumption | refine HSub.push ?_ _ | refine HSub.reserve ?_ _ | refine HSub.put ?_ (by omega) _)); done) | fail) only [↓wpPre, wpPost, wpPoly, Int.reduceToNat, Int.reducePow, Int.reduceMul, Int.reduceAdd, Int.reduceSub, Int.reduceNeg, Nat.reduceAdd, Nat.reduceMul, Nat.reducePow, Int.reduceLT, Int.reduceLE, Int.reduceEq, Nat.reduceEqDiff]
    refine wp_loopI (fun j x h' => HSub h5 h' ∧ ∃ (q : Nat) (b : Bool), (b = false → ∀ y, y < q → rotL u y ≠ B) ∧ x 0 = .int .i64 d ∧ x 1 = .int .i64 w ∧ x 7 = .bool true ∧ x 8 = vu ∧ x 12 = .int .i64 (n : Nat) ∧ x 16 = .int .i64 (-1) ∧ x 17 = t 17 ∧ x 19 = .bool b ∧ x 20 = .int .i64 (q : Nat) ∧ q ≤ n ∧ j = n - q) (j0 := n)
      ⟨HSub.refl _, 0, false, fun _ y hy => by omega, e0, e1, e7, e8, e12, e16, rfl, rfl, rfl, by omega, rfl⟩ ?_
    rintro j x h6 ⟨s6, q, b, hne, f0, f1, f7, f8, f12, f16, f17, f19, f20, hq, hj⟩
    have fin : ∀ st : Nat → AV, True := fun _ => trivial
    cases b with
    | true =>
      by_cases cq : q < n
      · simp -implicitDefEqProofs (disch := first | assumption | decide | omega | (simp -implicitDefEqProofs only [wpD1] <;> omega) | (refine not_in_one ?_; first | omega | (simp -implicitDefEqProofs only [wpD1] <;> omega) | fail) | (simp -implicitDefEqProofs only [wpD2] <;> assumption) | ((repeat (first | exact HSub.refl _ | assumption | refine HSub.push ?_ _ | refine HSub.reserve ?_ _ | refine HSub.put ?_ (by omega) _)); done) | fail) only [↓wpPre, wpPost, wpPoly, Int.reduceToNat, Int.reducePow, Int.reduceMul, Int.reduceAdd, Int.reduceSub, Int.reduceNeg, Nat.reduceAdd, Nat.reduceMul, Nat.reducePow, Int.reduceLT, Int.reduceLE, Int.reduceEq, Nat.reduceEqDiff, f12, f19, f20]
        simp -implicitDefEqProofs (disch := first | assumption | decide | omega | (simp -implicitDefEqProofs only [wpD1] <;> omega) | (refine not_in_one ?_; first | omega | (simp -implicitDefEqProofs only [wpD1] <;> omega) | fail) | (simp -implicitDefEqProofs only [wpD2] <;> assumption) | ((repeat (first | exact HSub.refl _ | assumption | refine HSub.push ?_ _ | refine HSub.reserve ?_ _ | refine HSub.put ?_ (by omega) _)); done) | fail) only [↓wpPre, wpPost, wpPoly, Int.reduceToNat, Int.reducePow, Int.reduceMul, Int.reduceAdd, Int.reduceSub, Int.reduceNeg, Nat.reduceAdd, Nat.reduceMul, Nat.reducePow, Int.reduceLT, Int.reduceLE, Int.reduceEq, Nat.reduceEqDiff, f0, f1]
        refine ACallsK.of (Su _) ?_
        rintro r h7 ⟨rfl, s7⟩
        simp -implicitDefEqProofs (disch := first | assumption | decide | omega | (simp -implicitDefEqProofs only [wpD1] <;> omega) | (refine not_in_one ?_; first | omega | (simp -implicitDefEqProofs only [wpD1] <;> omega) | fail) | (simp -implicitDefEqProofs only [wpD2] <;> assumption) | ((repeat (first | exact HSub.refl _ | assumption | refine HSub.push ?_ _ | refine HSub.reserve ?_ _ | refine HSub.put ?_ (by omega) _)); done) | fail) only [↓wpPre, wpPost, wpPoly, Int.reduceToNat, Int.reducePow, Int.reduceMul, Int.reduceAdd, Int.reduceSub, Int.reduceNeg, Nat.reduceAdd, Nat.reduceMul, Nat.reducePow, Int.reduceLT, Int.reduceLE, Int.reduceEq, Nat.reduceEqDiff, tup2, f7, f16, f19]
      · simp -implicitDefEqProofs (disch := first | assumption | decide | omega | (simp -implicitDefEqProofs only [wpD1] <;> omega) | (refine not_in_one ?_; first | omega | (simp -implicitDefEqProofs only [wpD1] <;> omega) | fail) | (simp -implicitDefEqProofs only [wpD2] <;> assumption) | ((repeat (first | exact HSub.refl _ | assumption | refine HSub.push ?_ _ | refine HSub.reserve ?_ _ | refine HSub.put ?_ (by omega) _)); done) | fail) only [↓wpPre, wpPost, wpPoly, Int.reduceToNat, Int.reducePow, Int.reduceMul, Int.reduceAdd, Int.reduceSub, Int.reduceNeg, Nat.reduceAdd, Nat.reduceMul, Nat.reducePow, Int.reduceLT, Int.reduceLE, Int.reduceEq, Nat.reduceEqDiff, f12, f19, f20]
        simp -implicitDefEqProofs (disch := first | assumption | decide | omega | (simp -implicitDefEqProofs only [wpD1] <;> omega) | (refine not_in_one ?_; first | omega | (simp -implicitDefEqProofs only [wpD1] <;> omega) | fail) | (simp -implicitDefEqProofs only [wpD2] <;> assumption) | ((repeat (first | exact HSub.refl _ | assumption | refine HSub.push ?_ _ | refine HSub.reserve ?_ _ | refine HSub.put ?_ (by omega) _)); done) | fail) only [↓wpPre, wpPost, wpPoly, Int.reduceToNat, Int.reducePow, Int.reduceMul, Int.reduceAdd, Int.reduceSub, Int.reduceNeg, Nat.reduceAdd, Nat.reduceMul, Nat.reducePow, Int.reduceLT, Int.reduceLE, Int.reduceEq, Nat.reduceEqDiff, f0, f1]
        refine ACallsK.of (Su _) ?_
        rintro r h7 ⟨rfl, s7⟩
        simp -implicitDefEqProofs (disch := first | assumption | decide | omega | (simp -implicitDefEqProofs only [wpD1] <;> omega) | (refine not_in_one ?_; first | omega | (simp -implicitDefEqProofs only [wpD1] <;> omega) | fail) | (simp -implicitDefEqProofs only [wpD2] <;> assumption) | ((repeat (first | exact HSub.refl _ | assumption | refine HSub.push ?_ _ | refine HSub.reserve ?_ _ | refine HSub.put ?_ (by omega) _)); done) | fail) only [↓wpPre, wpPost, wpPoly, Int.reduceToNat, Int.reducePow, Int.reduceMul, Int.reduceAdd, Int.reduceSub, Int.reduceNeg, Nat.reduceAdd, Nat.reduceMul, Nat.reducePow, Int.reduceLT, Int.reduceLE, Int.reduceEq, Nat.reduceEqDiff, tup2, f7, f16, f19]
    | false =>
      have hne := hne rfl
      by_cases cq : q < n
      · simp -implicitDefEqProofs (disch := first | assumption | decide | omega | (simp -implicitDefEqProofs only [wpD1] <;> omega) | (refine not_in_one ?_; first | omega | (simp -implicitDefEqProofs only [wpD1] <;> omega) | fail) | (simp -implicitDefEqProofs only [wpD2] <;> assumption) | ((repeat (first | exact HSub.refl _ | assumption | refine HSub.push ?_ _ | refine HSub.reserve ?_ _ | refine HSub.put ?_ (by omega) _)); done) | fail) only [↓wpPre, wpPost, wpPoly, Int.reduceToNat, Int.reducePow, Int.reduceMul, Int.reduceAdd, Int.reduceSub, Int.reduceNeg, Nat.reduceAdd, Nat.reduceMul, Nat.reducePow, Int.reduceLT, Int.reduceLE, Int.reduceEq, Nat.reduceEqDiff, f12, f19, f20]
        simp -implicitDefEqProofs (disch := first | assumption | decide | omega | (simp -implicitDefEqProofs only [wpD1] <;> omega) | (refine not_in_one ?_; first | omega | (simp -implicitDefEqProofs only [wpD1] <;> omega) | fail) | (simp -implicitDefEqProofs only [wpD2] <;> assumption) | ((repeat (first | exact HSub.refl _ | assumption | refine HSub.push ?_ _ | refine HSub.reserve ?_ _ | refine HSub.put ?_ (by omega) _)); done) | fail) only [↓wpPre, wpPost, wpPoly, Int.reduceToNat, Int.reducePow, Int.reduceMul, Int.reduceAdd, Int.reduceSub, Int.reduceNeg, Nat.reduceAdd, Nat.reduceMul, Nat.reducePow, Int.reduceLT, Int.reduceLE, Int.reduceEq, Nat.reduceEqDiff, f8, f20]
        refine ACallsK.of (hRot (Ru.mono s6) (by omega)) ?_
        rintro r h7 A7
        simp -implicitDefEqProofs (disch := first | assumption | decide | omega | (simp -implicitDefEqProofs only [wpD1] <;> omega) | (refine not_in_one ?_; first | omega | (simp -implicitDefEqProofs only [wpD1] <;> omega) | fail) | (simp -implicitDefEqProofs only [wpD2] <;> assumption) | ((repeat (first | exact HSub.refl _ | assumption | refine HSub.push ?_ _ | refine HSub.reserve ?_ _ | refine HSub.put ?_ (by omega) _)); done) | fail) only [↓wpPre, wpPost, wpPoly, Int.reduceToNat, Int.reducePow, Int.reduceMul, Int.reduceAdd, Int.reduceSub, Int.reduceNeg, Nat.reduceAdd, Nat.reduceMul, Nat.reducePow, Int.reduceLT, Int.reduceLE, Int.reduceEq, Nat.reduceEqDiff, f17]
        refine ACallsK.eq (Equal_spec (hC.sub (T' := T12) (by decide)) A7.ri (RB.mono (s6.trans A7.sub))) ?_
        simp -implicitDefEqProofs (disch := first | assumption | decide | omega | (simp -implicitDefEqProofs only [wpD1] <;> omega) | (refine not_in_one ?_; first | omega | (simp -implicitDefEqProofs only [wpD1] <;> omega) | fail) | (simp -implicitDefEqProofs only [wpD2] <;> assumption) | ((repeat (first | exact HSub.refl _ | assumption | refine HSub.push ?_ _ | refine HSub.reserve ?_ _ | refine HSub.put ?_ (by omega) _)); done) | fail) only [↓wpPre, wpPost, wpPoly, Int.reduceToNat, Int.reducePow, Int.reduceMul, Int.reduceAdd, Int.reduceSub, Int.reduceNeg, Nat.reduceAdd, Nat.reduceMul, Nat.reducePow, Int.reduceLT, Int.reduceLE, Int.reduceEq, Nat.reduceEqDiff, f0, f1, f7, f8, f12, f16, f17, f20]
        refine ⟨_, ⟨s6.trans A7.sub, q + 1, decide (rotL u q = B), ?_, rfl, by simp, by omega, rfl⟩, by omega⟩
        intro hf y hy
        by_cases e : y = q
        · subst e; simpa using hf
        · exact hne y (by omega)
      · exfalso
        obtain ⟨s, hs, he⟩ := hb
        exact hne s (by omega) he
end
end Go.Ae

/- The registers of the degrees 5 to 7 go through every state but 0. -/
set_option linter.unusedSimpArgs false
set_option linter.unusedVariables false
namespace Go.Ae
def orbStep (d mask P : Nat) : Nat := P / 2 ||| 2 ^ (d - 1) * (popc 8 (P &&& mask) % 2)
def orbN (d mask : Nat) : Nat → Nat
  | 0 => 2 ^ d - 1
  | k + 1 => orbStep d mask (orbN d mask k)
theorem pop_small {x : Nat} (h : x < 256) : pop x 32 = popc 8 x := by
  have e1 : pop x 32 = pop x 8 + pop (x >>> 8) 24 := pop_add x 8 24
  have e2 : x >>> 8 = 0 := by rw [Nat.shiftRight_eq_div_pow]; exact Nat.div_eq_of_lt h
  have e3 : ∀ n, pop 0 n = 0 := fun n => by
    unfold pop
    induction n with
    | zero => rfl
    | succ n ih => simp [bsum, ih, bitN]
  rw [e1, e2, e3, Nat.add_zero, popc_eq]
theorem packL_ones : ∀ k : Nat, packL (List.replicate k 1) = 2 ^ k - 1
  | 0 => rfl
  | k + 1 => by
    have := Nat.one_le_two_pow (n := k)
    rw [List.replicate_succ, packL, packL_ones k, Nat.pow_succ]
    simp; omega
/-- What is known of a register whose states are all but 0. -/
structure Orb (d : Nat) (ts : List Int) : Prop where
  reg : RegOk d ts (List.replicate d 1)
  back : winW ts (List.replicate d 1) (2 ^ d - 1) = List.replicate d 1
  inj : ∀ i j, i < 2 ^ d - 1 → j < 2 ^ d - 1 → winW ts (List.replicate d 1) i = winW ts (List.replicate d 1) j → i = j
  all : ∀ x, 1 ≤ x → x ≤ 2 ^ d - 1 → ∃ j, j < 2 ^ d - 1 ∧ packL (winW ts (List.replicate d 1) j) = x
  pos : ∀ i, 1 ≤ packL (winW ts (List.replicate d 1) i)
theorem orb_win {d mask : Nat} {ts : List Int} (R : RegOk d ts (List.replicate d 1)) (hd : d ≤ 8) (hm : maskT ts = mask) : ∀ k, packL (winW ts (List.replicate d 1) k) = orbN d mask k
  | 0 => packL_ones d
  | k + 1 => by
    have ih := orb_win R hd hm k
    have h1 := R.step k
    have h2 := R.par k
    have hlt := packL_lt (winW_01 (ts := ts) R.bits k)
    rw [winW_length R.w1, R.len] at hlt
    have h256 : 2 ^ d ≤ 256 := Nat.pow_le_pow_right (by decide) hd
    have hx : packL (winW ts (List.replicate d 1) k) &&& maskT ts < 256 := Nat.lt_of_le_of_lt Nat.and_le_left (by omega)
    rw [pop_small hx] at h2
    rw [← h1]
    unfold orbN orbStep
    rw [← ih, ← hm]
    congr 2
    omega
theorem orb_of {d mask : Nat} {ts : List Int} {pos : Nat → Nat} (hr : regErr (d : Int) ts (onesL (d : Int)) = 0) (hd : d ≤ 8) (hd2 : 2 ≤ d) (hm : maskT ts = mask) (hn : 0 < 2 ^ d - 1) (hb : orbN d mask (2 ^ d - 1) = 2 ^ d - 1)
    (h1 : ((List.range (2 ^ d - 1)).all fun i => decide (1 ≤ orbN d mask i) && Nat.beq (pos (orbN d mask i - 1)) i) = true) (h2 : ((List.range (2 ^ d - 1)).all fun x => decide (pos x < 2 ^ d - 1) && Nat.beq (orbN d mask (pos x)) (x + 1)) = true) : Orb d ts := by
  have eo : onesL (d : Int) = List.replicate d 1 := by simp [onesL]
  rw [eo] at hr
  obtain ⟨k, hk, R⟩ := regErr_ok hr
  have : d = k := by omega
  subst this
  have ow := orb_win R hd hm
  have back : winW ts (List.replicate d 1) (2 ^ d - 1) = List.replicate d 1 := (R.same _).1 (by rw [ow, hb, packL_ones])
  have f1 : ∀ i, i < 2 ^ d - 1 → 1 ≤ orbN d mask i ∧ pos (orbN d mask i - 1) = i := fun i hi => by
    have := List.all_eq_true.1 h1 i (List.mem_range.2 hi)
    simp only [Bool.and_eq_true, decide_eq_true_eq] at this
    exact ⟨this.1, Nat.eq_of_beq_eq_true this.2⟩
  have shift : ∀ i j, winW ts (winW ts (List.replicate d 1) i) j = winW ts (List.replicate d 1) (i + j) := by
    intro i j
    induction j with
    | zero => rfl
    | succ j ih =>
      show stepW ts (winW ts (winW ts (List.replicate d 1) i) j) = stepW ts (winW ts (List.replicate d 1) (i + j))
      rw [ih]
  refine ⟨R, back, fun i j hi hj e => ?_, fun x hx1 hx2 => ?_, fun i => ?_⟩
  · have e' : orbN d mask i = orbN d mask j := by rw [← ow, ← ow, e]
    rw [← (f1 i hi).2, ← (f1 j hj).2, e']
  · have := List.all_eq_true.1 h2 (x - 1) (List.mem_range.2 (by omega))
    simp only [Bool.and_eq_true, decide_eq_true_eq] at this
    exact ⟨pos (x - 1), this.1, by rw [ow, Nat.eq_of_beq_eq_true this.2]; omega⟩
  · have hper : ∀ q r, winW ts (List.replicate d 1) ((2 ^ d - 1) * q + r) = winW ts (List.replicate d 1) r := by
      intro q
      induction q with
      | zero => intro r; rw [Nat.mul_zero, Nat.zero_add]
      | succ q ih => intro r; rw [Nat.mul_succ, Nat.add_assoc, ih, ← shift, back]
    have h3 := hper (i / (2 ^ d - 1)) (i % (2 ^ d - 1))
    rw [Nat.div_add_mod] at h3
    rw [h3, ow]
    exact (f1 _ (Nat.mod_lt _ hn)).1
theorem orb51 : Orb 5 (tapsL 5 1) := orb_of (mask := 5) (pos := fun x => ([17, 16, 3, 20, 15, 26, 2, 19, 22, 14, 12, 6, 25, 10, 1, 18, 4, 21, 27, 23, 13, 7, 11, 5, 28, 24, 8, 29, 9, 30, 0] : List Nat).getD x 0) (reg_ok (d := 5) (w := 1) (by decide) (by decide)) (by decide) (by decide) (by decide) (by decide) (by decide +kernel) (by decide +kernel) (by decide +kernel)
theorem orb52 : Orb 5 (tapsL 5 2) := orb_of (mask := 29) (pos := fun x => ([19, 18, 7, 26, 17, 23, 6, 9, 25, 11, 16, 22, 14, 5, 1, 20, 8, 27, 24, 10, 12, 15, 2, 21, 28, 13, 3, 29, 4, 30, 0] : List Nat).getD x 0) (reg_ok (d := 5) (w := 2) (by decide) (by decide)) (by decide) (by decide) (by decide) (by decide) (by decide +kernel) (by decide +kernel) (by decide +kernel)
theorem orb61 : Orb 6 (tapsL 6 1) := orb_of (mask := 3) (pos := fun x => ([5, 10, 4, 9, 29, 15, 3, 8, 37, 20, 28, 14, 50, 34, 2, 7, 17, 39, 36, 19, 57, 55, 27, 13, 53, 42, 49, 33, 46, 25, 1, 6, 11, 30, 16, 38, 21, 51, 35, 18, 40, 58, 56, 54, 43, 47, 26, 12, 31, 22, 52, 41, 59, 44, 48, 32, 23, 60, 45, 24, 61, 62, 0] : List Nat).getD x 0) (reg_ok (d := 6) (w := 1) (by decide) (by decide)) (by decide) (by decide) (by decide) (by decide) (by decide +kernel) (by decide +kernel) (by decide +kernel)
theorem orb62 : Orb 6 (tapsL 6 2) := orb_of (mask := 39) (pos := fun x => ([24, 48, 23, 52, 47, 22, 9, 51, 33, 40, 46, 13, 21, 8, 30, 50, 54, 35, 32, 37, 39, 45, 3, 12, 43, 57, 20, 17, 7, 29, 1, 25, 49, 53, 10, 34, 41, 14, 31, 55, 36, 38, 4, 44, 58, 18, 2, 26, 11, 42, 15, 56, 5, 59, 19, 27, 16, 6, 60, 28, 61, 62, 0] : List Nat).getD x 0) (reg_ok (d := 6) (w := 2) (by decide) (by decide)) (by decide) (by decide) (by decide) (by decide) (by decide +kernel) (by decide +kernel) (by decide +kernel)
theorem orb71 : Orb 7 (tapsL 7 1) := orb_of (mask := 9) (pos := fun x => ([30, 29, 60, 28, 90, 59, 4, 34, 27, 111, 89, 42, 58, 120, 3, 33, 37, 26, 23, 110, 72, 88, 105, 64, 41, 20, 57, 77, 119, 14, 2, 32, 92, 36, 44, 25, 107, 22, 16, 94, 109, 96, 71, 69, 87, 50, 104, 63, 114, 40, 67, 19, 53, 56, 85, 8, 76, 48, 118, 82, 13, 102, 1, 31, 61, 91, 5, 35, 112, 43, 121, 38, 24, 73, 106, 65, 21, 78, 15, 93, 45, 108, 17, 95, 97, 70, 51, 115, 68, 54, 86, 9, 49, 83, 103, 62, 6, 113, 122, 39, 74, 66, 79, 46, 18, 98, 52, 116, 55, 10, 84, 7, 123, 75, 80, 47, 99, 117, 11, 124, 81, 100, 12, 125, 101, 126, 0] : List Nat).getD x 0) (reg_ok (d := 7) (w := 1) (by decide) (by decide)) (by decide) (by decide) (by decide) (by decide) (by decide +kernel) (by decide +kernel) (by decide +kernel)
theorem orb72 : Orb 7 (tapsL 7 2) := orb_of (mask := 15) (pos := fun x => ([86, 45, 85, 54, 44, 84, 4, 90, 53, 43, 106, 83, 13, 71, 3, 89, 16, 30, 52, 27, 42, 105, 99, 49, 82, 12, 78, 70, 65, 22, 2, 88, 6, 108, 15, 32, 29, 51, 24, 8, 26, 41, 39, 104, 37, 60, 98, 48, 74, 102, 81, 35, 11, 77, 116, 58, 69, 64, 120, 21, 113, 96, 1, 87, 46, 55, 5, 91, 107, 14, 72, 17, 31, 28, 100, 50, 79, 66, 23, 7, 109, 33, 25, 9, 40, 38, 61, 75, 103, 36, 117, 59, 121, 114, 97, 47, 56, 92, 73, 18, 101, 80, 67, 110, 34, 10, 62, 76, 118, 122, 115, 57, 93, 19, 68, 111, 63, 119, 123, 94, 20, 112, 124, 95, 125, 126, 0] : List Nat).getD x 0) (reg_ok (d := 7) (w := 2) (by decide) (by decide)) (by decide) (by decide) (by decide) (by decide) (by decide +kernel) (by decide +kernel) (by decide +kernel)

end Go.Ae

/- The statement on periods of layer 8. -/
set_option linter.unusedSimpArgs false
set_option linter.unusedVariables false
namespace Go.Ae
theorem winW_shift (ts w : List Int) (i : Nat) : ∀ j, winW ts (winW ts w i) j = winW ts w (i + j)
  | 0 => rfl
  | j + 1 => by
    show stepW ts (winW ts (winW ts w i) j) = stepW ts (winW ts w (i + j))
    rw [winW_shift ts w i j]
theorem RegOk.err {n : Nat} {ts w : List Int} (R : RegOk n ts w) : regErr n ts w = 0 := by
  have h1 := R.n2
  have h2 := R.n16
  unfold regErr
  rw [if_neg (by omega), if_pos]
  refine ⟨⟨R.t1, R.t0, R.taps⟩, by rw [R.len], List.any_eq_false.2 fun x hx => ?_⟩
  simp only [Bool.not_eq_true, Bool.not_eq_false', Bool.or_eq_true, beq_iff_eq]
  exact R.bits x hx
/-- The state that a number's bits are. -/
def stateL (b n : Nat) : List Int := (List.range n).map fun i => ((b / 2 ^ i % 2 : Nat) : Int)
theorem stateL_succ (b n : Nat) : stateL b (n + 1) = stateL b n ++ [((b / 2 ^ n % 2 : Nat) : Int)] := by simp [stateL, List.range_succ]
theorem stateL_length (b n : Nat) : (stateL b n).length = n := by simp [stateL]
theorem stateL_01 (b n : Nat) : bit01 (stateL b n) := by
  intro x hx
  obtain ⟨i, _, rfl⟩ := List.mem_map.1 hx
  omega
theorem stateL_pack (b : Nat) : ∀ n, packL (stateL b n) = b % 2 ^ n
  | 0 => by simp [stateL, packL, Nat.mod_one]
  | n + 1 => by
    rw [stateL_succ, packL_snoc, stateL_pack b n, stateL_length, Int.toNat_natCast, Nat.mod_pow_succ]
/-- A number of bits, the first one the highest. -/
def xN (f : Nat → Int) (k : Nat) : Nat → Nat
  | 0 => 0
  | q + 1 => 2 * xN f k q + (f (k + q)).toNat
theorem xN_lt {f : Nat → Int} (hf : ∀ i, f i = 0 ∨ f i = 1) (k : Nat) : ∀ q, xN f k q < 2 ^ q
  | 0 => by simp [xN]
  | q + 1 => by
    have ih := xN_lt hf k q
    simp only [xN, Nat.pow_succ]
    rcases hf (k + q) with h | h <;> rw [h] <;> simp <;> omega
theorem xN_inj {f : Nat → Int} (hf : ∀ i, f i = 0 ∨ f i = 1) {k m : Nat} : ∀ q, xN f k q = xN f m q → ∀ i, i < q → f (k + i) = f (m + i)
  | 0, _, i, hi => by omega
  | q + 1, h, i, hi => by
    simp only [xN] at h
    have h1 := hf (k + q)
    have h2 := hf (m + q)
    have h3 : f (k + q) = f (m + q) ∧ xN f k q = xN f m q := by
      rcases h1 with h1 | h1 <;> rcases h2 with h2 | h2 <;> rw [h1, h2] at h <;> rw [h1, h2] <;> simp at h ⊢ <;> omega
    by_cases e : i = q
    · rw [e]; exact h3.1
    · exact xN_inj hf q h3.2 i (by omega)
theorem xN_zero {f : Nat → Int} (hf : ∀ i, f i = 0 ∨ f i = 1) {k : Nat} : ∀ q, xN f k q = 0 → ∀ i, i < q → f (k + i) = 0
  | 0, _, i, hi => by omega
  | q + 1, h, i, hi => by
    simp only [xN] at h
    have h1 := hf (k + q)
    by_cases e : i = q
    · rw [e]; rcases h1 with h1 | h1
      · exact h1
      · rw [h1] at h; simp at h
    · exact xN_zero hf q (by omega) i (by omega)
theorem packL_zero : ∀ {l : List Int}, (∀ i, i < l.length → l.getD i 0 = 0) → packL l = 0
  | [], _ => rfl
  | b :: l, h => by
    have h0 := h 0 (by simp)
    rw [List.getD_cons_zero] at h0
    rw [packL, packL_zero (l := l) (fun i hi => by have := h (i + 1) (by simp; omega); rwa [List.getD_cons_succ] at this), h0]; rfl
/-- What the orbit gives for a state other than 0. -/
structure StateOk (d : Nat) (ts S : List Int) : Prop where
  reg : RegOk d ts S
  per : IsPeriod ts S (2 ^ d - 1)
  inj : ∀ k m, k < 2 ^ d - 1 → m < 2 ^ d - 1 → xN (seqB ts S) k d = xN (seqB ts S) m d → k = m
  pos : ∀ k, xN (seqB ts S) k d ≠ 0
theorem state_ok {d : Nat} {ts : List Int} (O : Orb d ts) {b : Nat} (hb : 1 ≤ b ∧ b ≤ 2 ^ d - 1) : StateOk d ts (stateL b d) := by
  have R := O.reg
  have h2 := Nat.one_le_two_pow (n := d)
  obtain ⟨j, hj, he⟩ := O.all b hb.1 hb.2
  have hS : winW ts (List.replicate d 1) j = stateL b d := by
    refine packL_inj (by rw [winW_length R.w1, stateL_length]; simp) (winW_01 R.bits j) (stateL_01 b d) ?_
    rw [he, stateL_pack, Nat.mod_eq_of_lt (by omega)]
  have RS : RegOk d ts (stateL b d) := ⟨R.n2, R.n16, stateL_length b d, stateL_01 b d, R.t1, R.t0, R.taps⟩
  have sw : ∀ k, winW ts (stateL b d) k = winW ts (List.replicate d 1) (j + k) := fun k => by rw [← hS, winW_shift]
  have wper : ∀ i, winW ts (List.replicate d 1) (i + (2 ^ d - 1)) = winW ts (List.replicate d 1) i := fun i => by rw [Nat.add_comm, ← winW_shift, O.back]
  have wmod : ∀ i, i < 2 * (2 ^ d - 1) → winW ts (List.replicate d 1) i = winW ts (List.replicate d 1) (i % (2 ^ d - 1)) := fun i hi => by
    by_cases c : i < 2 ^ d - 1
    · rw [Nat.mod_eq_of_lt c]
    · rw [Nat.mod_eq_sub_mod (by omega), Nat.mod_eq_of_lt (by omega)]
      have := wper (i - (2 ^ d - 1))
      rw [show i - (2 ^ d - 1) + (2 ^ d - 1) = i by omega] at this
      exact this
  have winj : ∀ k m, k < 2 ^ d - 1 → m < 2 ^ d - 1 → winW ts (stateL b d) k = winW ts (stateL b d) m → k = m := by
    intro k m hk hm e
    rw [sw, sw, wmod _ (by omega), wmod (j + m) (by omega)] at e
    have e2 := O.inj _ _ (Nat.mod_lt _ (by omega)) (Nat.mod_lt _ (by omega)) e
    by_cases c1 : j + k < 2 ^ d - 1 <;> by_cases c2 : j + m < 2 ^ d - 1
    · rw [Nat.mod_eq_of_lt c1, Nat.mod_eq_of_lt c2] at e2; omega
    · rw [Nat.mod_eq_of_lt c1, Nat.mod_eq_sub_mod (by omega), Nat.mod_eq_of_lt (by omega)] at e2; omega
    · rw [Nat.mod_eq_of_lt c2, Nat.mod_eq_sub_mod (by omega), Nat.mod_eq_of_lt (by omega)] at e2; omega
    · rw [Nat.mod_eq_sub_mod (by omega), Nat.mod_eq_of_lt (by omega), Nat.mod_eq_sub_mod (a := j + m) (by omega), Nat.mod_eq_of_lt (by omega)] at e2; omega
  have f01 := fun i => seqB_01 (ts := ts) RS.bits i
  refine ⟨RS, ⟨by omega, ?_, fun m h1 h3 e => ?_⟩, fun k m hk hm e => ?_, fun k e => ?_⟩
  · rw [sw, wper, hS]
  · have := winj m 0 h3 (by omega) e; omega
  · refine winj k m hk hm (seq_ext (by rw [winW_length RS.w1, winW_length RS.w1]) fun i hi => ?_)
    rw [winW_length RS.w1] at hi
    rw [winW_get RS.w1 i k hi, winW_get RS.w1 i m hi]
    exact xN_inj f01 d e i (by rw [RS.len] at hi; exact hi)
  · have h3 : packL (winW ts (stateL b d) k) = 0 := packL_zero fun i hi => by
      rw [winW_length RS.w1] at hi
      rw [winW_get RS.w1 i k hi]
      exact xN_zero f01 d e i (by rw [RS.len] at hi; exact hi)
    have h4 := O.pos (j + k)
    rw [← sw] at h4; omega
/-- Which numbers have been seen. -/
def seenL (f : Nat → Int) (d n k : Nat) : List AV := (List.range (n + 1)).map fun x => .bool ((List.range k).any fun q => xN f q d == x)
theorem seenL_get {f : Nat → Int} {d n k x : Nat} (h : x < n + 1) : (seenL f d n k)[x]? = some (.bool ((List.range k).any fun q => xN f q d == x)) := by simp [seenL, h]
theorem seenL_set {f : Nat → Int} {d n k : Nat} (h : xN f k d < n + 1) : (seenL f d n k).set (xN f k d) (.bool true) = seenL f d n (k + 1) := by
  refine List.ext_getElem? fun x => ?_
  rw [List.getElem?_set]
  by_cases hx : x < n + 1
  · rw [seenL_get hx]
    by_cases e : xN f k d = x
    · rw [if_pos e, if_pos (by simp [seenL]; omega), seenL_get hx]
      congr 2
      rw [List.range_succ, List.any_append]
      simp [e]
    · rw [if_neg e, seenL_get hx]
      congr 2
      rw [List.range_succ, List.any_append]
      simp [e]
  · have h1 : (seenL f d n (k + 1))[x]? = none := List.getElem?_eq_none (by simp [seenL]; omega)
    have h2 : (seenL f d n k)[x]? = none := List.getElem?_eq_none (by simp [seenL]; omega)
    rw [h1, h2]
    split
    · rw [if_neg (by simp [seenL]; omega)]
    · rfl
theorem orb_deg {d w : Int} (hd : smallD d) (hw : w = 1 ∨ w = 2) : Orb d.toNat (tapsL d w) := by
  rcases hd with rfl | rfl | rfl <;> rcases hw with rfl | rfl
  · exact orb51
  · exact orb52
  · exact orb61
  · exact orb62
  · exact orb71
  · exact orb72
section
variable {C : Ctx}
set_option maxRecDepth 100000 in
set_option maxHeartbeats 4000000 in
theorem GoldPeriods_law (hC : Has C T66) {d0 w0 b0 : Int} {h : Heap} (hd0 : In64 d0) (hw0 : In64 w0) (hb0 : In64 b0) : ACalls C 66 [.int .i64 d0, .int .i64 w0, .int .i64 b0] h (fun r _ => r = .bool true) := by
  obtain ⟨d, hd⟩ : ∃ d, d = 5 + d0 % 3 := ⟨_, rfl⟩
  obtain ⟨w, hw⟩ : ∃ w, w = 1 + w0 % 2 := ⟨_, rfl⟩
  have sd : smallD d := by unfold smallD; omega
  have sw : w = 1 ∨ w = 2 := by omega
  have hl := sd.len
  have hN := lenN_eq hl.1
  have O := orb_deg sd sw
  obtain ⟨D, hD⟩ : ∃ D : Nat, d = (D : Int) ∧ 5 ≤ D ∧ D ≤ 7 := ⟨d.toNat, by omega, by omega, by omega⟩
  obtain ⟨hDd, hD5, hD7⟩ := hD
  obtain ⟨n, hn⟩ : ∃ n, n = lenN d := ⟨_, rfl⟩
  have hn2 : n = 2 ^ D - 1 := by rw [hn, hDd]; unfold lenN; rw [Int.toNat_natCast]
  rw [← hn] at hN
  have hNn := hN.2.2
  rw [hDd, Int.toNat_natCast] at hNn
  rw [hDd, Int.toNat_natCast] at O
  obtain ⟨b1, ebb, hb⟩ := turn_nat (x := b0) (n := n) (by omega)
  have SO := state_ok O (b := b1 + 1) (by omega)
  have Dg := fun h => Degree_spec (h := h) (hC.sub (T' := T88) (by decide)) hd0
  rw [← hd, hDd] at Dg
  have Tw := fun h => Turn_spec (h := h) (n := 2) (hC.sub (T' := T23) (by decide)) hw0 (by omega)
  have Tb := fun h => Turn_spec (h := h) (n := (n : Int)) (hC.sub (T' := T23) (by decide)) hb0 (by omega)
  rw [ebb] at Tb
  have eL : lenE (D : Int) = tup2 n 0 := by rw [← hDd]; unfold lenE; rw [if_pos hl.1, hn]
  have iD : In64 (D : Int) := by unfold In64; omega
  have iw : In64 w := by unfold In64; omega
  have et : tapsErr (D : Int) w = 0 := by unfold tapsErr; rw [if_pos ⟨by rw [← hDd]; exact hl.1, sw⟩]
  have Ta := fun h => Taps_spec (h := h) (hC.sub (T' := T72) (by decide)) iD iw
  rw [et, if_pos rfl] at Ta
  obtain ⟨ts, hts⟩ : ∃ ts, ts = tapsL (D : Int) w := ⟨_, rfl⟩
  rw [← hts] at Ta SO
  obtain ⟨S, hS⟩ : ∃ S, S = stateL (b1 + 1) D := ⟨_, rfl⟩
  have lS : S.length = D := by rw [hS, stateL_length]
  rw [← hS] at SO
  have RS := SO.reg
  have hper := SO.per
  rw [← hn2] at hper
  have err := RS.err
  have run0 : runErr (D : Int) ts S ((n : Int) + D) = 0 := by unfold runErr; rw [if_pos err, if_neg (by omega)]
  have Pe := fun {v1 v2 : AV} (h : Heap) (h1 : RI h v1 ts) (h2 : RI h v2 S) => Period_spec (h := h) (n := (D : Int)) (hC.sub (T' := T83) (by decide)) h1 h2 (fun _ => hper) (by omega)
  simp only [err, if_true] at Pe
  have Ru := fun {v1 v2 : AV} (h : Heap) (h1 : RI h v1 ts) (h2 : RI h v2 S) => Run_spec (h := h) (n := (D : Int)) (m := (n : Int) + D) (hC.sub (T' := T81) (by decide)) h1 h2 (by unfold In64; omega)
  simp only [run0, if_true, show ((n : Int) + D).toNat = n + D by omega] at Ru
  have e1 : ((n + 1 : Nat) : Int) - 1 = n := by omega
  have eb1 : 1 + (b1 : Int) = ((b1 + 1 : Nat) : Int) := by omega
  have rl := runL_length ts S (n + D)
  have f01 := fun i => seqB_01 (ts := ts) RS.bits i
  have xlt := fun k q => xN_lt f01 k q
  (refine calls_intro (hC.body (by decide) tab66) (Nat.le_of_ble_eq_true rfl) ?_); (show wp C _ none B66.code _ _); (simp only [B66]); simp -implicitDefEqProofs (disch := first | assumption | decide | omega | (simp -implicitDefEqProofs only [wpD1] <;> omega) | (refine not_in_one ?_; first | omega | (simp -implicitDefEqProofs only [wpD1] <;> omega) | fail) | (simp -implicitDefEqProofs only [wpD2] <;> assumption) | ((repeat (first | exact HSub.refl _ | assumption | refine HSub.push ?_ _ | refine HSub.reserve ?_ _ | refine HSub.put ?_ (by omega) _)); done) | fail) only [↓wpPre, wpPost, wpPoly, Int.reduceToNat, Int.reducePow, Int.reduceMul, Int.reduceAdd, Int.reduceSub, Int.reduceNeg, Nat.reduceAdd, Nat.reduceMul, Nat.reducePow, Int.reduceLT, Int.reduceLE, Int.reduceEq, Nat.reduceEqDiff]
  refine ACallsK.of (known08_spec (hC.sub (T' := T65) (by decide))) ?_
  rintro r h1 ⟨rfl, s1⟩
  simp -implicitDefEqProofs (disch := first | assumption | decide | omega | (simp -implicitDefEqProofs only [wpD1] <;> omega) | (refine not_in_one ?_; first | omega | (simp -implicitDefEqProofs only [wpD1] <;> omega) | fail) | (simp -implicitDefEqProofs only [wpD2] <;> assumption) | ((repeat (first | exact HSub.refl _ | assumption | refine HSub.push ?_ _ | refine HSub.reserve ?_ _ | refine HSub.put ?_ (by omega) _)); done) | fail) only [↓wpPre, wpPost, wpPoly, Int.reduceToNat, Int.reducePow, Int.reduceMul, Int.reduceAdd, Int.reduceSub, Int.reduceNeg, Nat.reduceAdd, Nat.reduceMul, Nat.reducePow, Int.reduceLT, Int.reduceLE, Int.reduceEq, Nat.reduceEqDiff]
  refine ACallsK.eq (Dg _) ?_
  simp -implicitDefEqProofs (disch := first | assumption | decide | omega | (simp -implicitDefEqProofs only [wpD1] <;> omega) | (refine not_in_one ?_; first | omega | (simp -implicitDefEqProofs only [wpD1] <;> omega) | fail) | (simp -implicitDefEqProofs only [wpD2] <;> assumption) | ((repeat (first | exact HSub.refl _ | assumption | refine HSub.push ?_ _ | refine HSub.reserve ?_ _ | refine HSub.put ?_ (by omega) _)); done) | fail) only [↓wpPre, wpPost, wpPoly, Int.reduceToNat, Int.reducePow, Int.reduceMul, Int.reduceAdd, Int.reduceSub, Int.reduceNeg, Nat.reduceAdd, Nat.reduceMul, Nat.reducePow, Int.reduceLT, Int.reduceLE, Int.reduceEq, Nat.reduceEqDiff, Int.one_mul, hNn, e1]
  refine ACallsK.eq (Tw _) ?_
  simp -implicitDefEqProofs (disch := first | assumption | decide | omega | (simp -implicitDefEqProofs only [wpD1] <;> omega) | (refine not_in_one ?_; first | omega | (simp -implicitDefEqProofs only [wpD1] <;> omega) | fail) | (simp -implicitDefEqProofs only [wpD2] <;> assumption) | ((repeat (first | exact HSub.refl _ | assumption | refine HSub.push ?_ _ | refine HSub.reserve ?_ _ | refine HSub.put ?_ (by omega) _)); done) | fail) only [↓wpPre, wpPost, wpPoly, Int.reduceToNat, Int.reducePow, Int.reduceMul, Int.reduceAdd, Int.reduceSub, Int.reduceNeg, Nat.reduceAdd, Nat.reduceMul, Nat.reducePow, Int.reduceLT, Int.reduceLE, Int.reduceEq, Nat.reduceEqDiff, ← hw]
  refine ACallsK.of (Ta _) ?_
  rintro r h2 ⟨vt, rfl, s2, Rt⟩
  simp -implicitDefEqProofs (disch := first | assumption | decide | omega | (simp -implicitDefEqProofs only [wpD1] <;> omega) | (refine not_in_one ?_; first | omega | (simp -implicitDefEqProofs only [wpD1] <;> omega) | fail) | (simp -implicitDefEqProofs only [wpD2] <;> assumption) | ((repeat (first | exact HSub.refl _ | assumption | refine HSub.push ?_ _ | refine HSub.reserve ?_ _ | refine HSub.put ?_ (by omega) _)); done) | fail) only [↓wpPre, wpPost, wpPoly, Int.reduceToNat, Int.reducePow, Int.reduceMul, Int.reduceAdd, Int.reduceSub, Int.reduceNeg, Nat.reduceAdd, Nat.reduceMul, Nat.reducePow, Int.reduceLT, Int.reduceLE, Int.reduceEq, Nat.reduceEqDiff, lstErr]
  refine ACallsK.eq2 (Length_spec (hC.sub (T' := T70) (by decide)) iD) eL ?_
  simp -implicitDefEqProofs (disch := first | assumption | decide | omega | (simp -implicitDefEqProofs only [wpD1] <;> omega) | (refine not_in_one ?_; first | omega | (simp -implicitDefEqProofs only [wpD1] <;> omega) | fail) | (simp -implicitDefEqProofs only [wpD2] <;> assumption) | ((repeat (first | exact HSub.refl _ | assumption | refine HSub.push ?_ _ | refine HSub.reserve ?_ _ | refine HSub.put ?_ (by omega) _)); done) | fail) only [↓wpPre, wpPost, wpPoly, Int.reduceToNat, Int.reducePow, Int.reduceMul, Int.reduceAdd, Int.reduceSub, Int.reduceNeg, Nat.reduceAdd, Nat.reduceMul, Nat.reducePow, Int.reduceLT, Int.reduceLE, Int.reduceEq, Nat.reduceEqDiff, tup2]
  refine ACallsK.eq (Tb _) ?_
  simp -implicitDefEqProofs (disch := first | assumption | decide | omega | (simp -implicitDefEqProofs only [wpD1] <;> omega) | (refine not_in_one ?_; first | omega | (simp -implicitDefEqProofs only [wpD1] <;> omega) | fail) | (simp -implicitDefEqProofs only [wpD2] <;> assumption) | ((repeat (first | exact HSub.refl _ | assumption | refine HSub.push ?_ _ | refine HSub.reserve ?_ _ | refine HSub.put ?_ (by omega) _)); done) | fail) only [↓wpPre, wpPost, wpPoly, Int.reduceToNat, Int.reducePow, Int.reduceMul, Int.reduceAdd, Int.reduceSub, Int.reduceNeg, Nat.reduceAdd, Nat.reduceMul, Nat.reducePow, Int.reduceLT, Int.reduceLE, Int.reduceEq, Nat.reduceEqDiff, eb1]
  refine wp_loopI (fun j t h' => ∃ i : Nat, GrwI h2 h' (t 13) (stateL (b1 + 1) i) ∧ t 0 = .int .i64 (D : Nat) ∧ t 2 = .int .i64 ((b1 + 1 : Nat) : Int) ∧ t 7 = .bool true ∧ t 8 = .int .i64 (n : Nat) ∧ t 9 = vt ∧ t 14 = .int .i64 (i : Nat) ∧ i ≤ D ∧ j = D - i) (j0 := D)
    ⟨0, GrwI.nil _, rfl, rfl, rfl, rfl, rfl, rfl, by omega, rfl⟩ ?_
  rintro j t h3 ⟨i, A, e0, e2, e7, e8, e9, e14, hi, hj⟩
  simp -implicitDefEqProofs (disch := first | assumption | decide | omega | (simp -implicitDefEqProofs only [wpD1] <;> omega) | (refine not_in_one ?_; first | omega | (simp -implicitDefEqProofs only [wpD1] <;> omega) | fail) | (simp -implicitDefEqProofs only [wpD2] <;> assumption) | ((repeat (first | exact HSub.refl _ | assumption | refine HSub.push ?_ _ | refine HSub.reserve ?_ _ | refine HSub.put ?_ (by omega) _)); done) | fail) only [↓wpPre, wpPost, wpPoly, Int.reduceToNat, Int.reducePow, Int.reduceMul, Int.reduceAdd, Int.reduceSub, Int.reduceNeg, Nat.reduceAdd, Nat.reduceMul, Nat.reducePow, Int.reduceLT, Int.reduceLE, Int.reduceEq, Nat.reduceEqDiff, e0, e14]
  refine Br.by (fun c => ?_) (fun c => ?_)
  · have hi' : i < D := by omega
    have ecp := cast_pow i
    have hpw := pow_le16 (k := i) (by omega)
    have h1p := Nat.one_le_two_pow (n := i)
    have lsi := stateL_length (b1 + 1) i
    have ev : ((b1 + 1 : Nat) : Int) / ((2 ^ i : Nat) : Int) % 2 = (((b1 + 1) / 2 ^ i % 2 : Nat) : Int) := by
      rw [← Int.natCast_ediv]; omega
    have hq0 : 0 ≤ ((b1 + 1 : Nat) : Int) / ((2 ^ i : Nat) : Int) := Int.ediv_nonneg (by omega) (by omega)
    have hq1 : ((b1 + 1 : Nat) : Int) / ((2 ^ i : Nat) : Int) ≤ ((b1 + 1 : Nat) : Int) := Int.ediv_le_self _ (by omega)
    have A2 := A.snoc (x := (((b1 + 1) / 2 ^ i % 2 : Nat) : Int)) (HSub.push1 h3 (.cells [.int .i64 (((b1 + 1) / 2 ^ i % 2 : Nat) : Int)] true 0)) (by omega)
    rw [← stateL_succ, lsi] at A2
    have sc := stateL_succ (b1 + 1) i
    simp -implicitDefEqProofs (disch := first | assumption | decide | omega | (simp -implicitDefEqProofs only [wpD1] <;> omega) | (refine not_in_one ?_; first | omega | (simp -implicitDefEqProofs only [wpD1] <;> omega) | fail) | (simp -implicitDefEqProofs only [wpD2] <;> assumption) | ((repeat (first | exact HSub.refl _ | assumption | refine HSub.push ?_ _ | refine HSub.reserve ?_ _ | refine HSub.put ?_ (by omega) _)); done) | fail) only [↓wpPre, wpPost, wpPoly, Int.reduceToNat, Int.reducePow, Int.reduceMul, Int.reduceAdd, Int.reduceSub, Int.reduceNeg, Nat.reduceAdd, Nat.reduceMul, Nat.reducePow, Int.reduceLT, Int.reduceLE, Int.reduceEq, Nat.reduceEqDiff, e0, e2, e7, e8, e9, e14, ecp, ev, cont_slice, contB_one, A.app, lsi, ← sc]
    exact ⟨_, ⟨i + 1, A2, by simp, by omega, rfl⟩, by omega⟩
  · have ei : i = D := by omega
    rw [ei, ← hS] at A
    have RS3 := A.ri
    have s3 := A.sub
    have Rt := Rt.mono s3
    simp -implicitDefEqProofs (disch := first | assumption | decide | omega | (simp -implicitDefEqProofs only [wpD1] <;> omega) | (refine not_in_one ?_; first | omega | (simp -implicitDefEqProofs only [wpD1] <;> omega) | fail) | (simp -implicitDefEqProofs only [wpD2] <;> assumption) | ((repeat (first | exact HSub.refl _ | assumption | refine HSub.push ?_ _ | refine HSub.reserve ?_ _ | refine HSub.put ?_ (by omega) _)); done) | fail) only [↓wpPre, wpPost, wpPoly, Int.reduceToNat, Int.reducePow, Int.reduceMul, Int.reduceAdd, Int.reduceSub, Int.reduceNeg, Nat.reduceAdd, Nat.reduceMul, Nat.reducePow, Int.reduceLT, Int.reduceLE, Int.reduceEq, Nat.reduceEqDiff, e0, e9]
    refine ACallsK.of (Pe _ Rt RS3) ?_
    rintro r h4 ⟨rfl, s4⟩
    simp -implicitDefEqProofs (disch := first | assumption | decide | omega | (simp -implicitDefEqProofs only [wpD1] <;> omega) | (refine not_in_one ?_; first | omega | (simp -implicitDefEqProofs only [wpD1] <;> omega) | fail) | (simp -implicitDefEqProofs only [wpD2] <;> assumption) | ((repeat (first | exact HSub.refl _ | assumption | refine HSub.push ?_ _ | refine HSub.reserve ?_ _ | refine HSub.put ?_ (by omega) _)); done) | fail) only [↓wpPre, wpPost, wpPoly, Int.reduceToNat, Int.reducePow, Int.reduceMul, Int.reduceAdd, Int.reduceSub, Int.reduceNeg, Nat.reduceAdd, Nat.reduceMul, Nat.reducePow, Int.reduceLT, Int.reduceLE, Int.reduceEq, Nat.reduceEqDiff, tup2, e0, e8, e9]
    refine ACallsK.of (Ru _ (Rt.mono s4) (RS3.mono s4)) ?_
    rintro r h5 ⟨vr, rfl, s5, Rr, _⟩
    simp -implicitDefEqProofs (disch := first | assumption | decide | omega | (simp -implicitDefEqProofs only [wpD1] <;> omega) | (refine not_in_one ?_; first | omega | (simp -implicitDefEqProofs only [wpD1] <;> omega) | fail) | (simp -implicitDefEqProofs only [wpD2] <;> assumption) | ((repeat (first | exact HSub.refl _ | assumption | refine HSub.push ?_ _ | refine HSub.reserve ?_ _ | refine HSub.put ?_ (by omega) _)); done) | fail) only [↓wpPre, wpPost, wpPoly, Int.reduceToNat, Int.reducePow, Int.reduceMul, Int.reduceAdd, Int.reduceSub, Int.reduceNeg, Nat.reduceAdd, Nat.reduceMul, Nat.reducePow, Int.reduceLT, Int.reduceLE, Int.reduceEq, Nat.reduceEqDiff, lstErr, e0, e8, Rr.len, rl]
    have s0 : seenL (seqB ts S) D n 0 = List.replicate (n + 1) (.bool false) := by simp [seenL, List.map_const']
    refine wp_loopI (fun j u h' => ∃ k : Nat, h' = h5.push (.cells (seenL (seqB ts S) D n k) true 0) ∧ u 0 = .int .i64 (D : Nat) ∧ u 7 = .bool true ∧ u 8 = .int .i64 (n : Nat) ∧ u 16 = vr ∧ u 17 = .slice h5.size 0 (n + 1) (.known (n + 1)) ∧ u 18 = .int .i64 (k : Nat) ∧ k ≤ n ∧ j = n - k) (j0 := n)
      ⟨0, ?_, e0, e7, e8, rfl, rfl, rfl, by omega, rfl⟩ ?_
    · rw [s0]; rfl
    rintro j u h6 ⟨k, rfl, f0, f7, f8, f16, f17, f18, hk, hj⟩
    simp -implicitDefEqProofs (disch := first | assumption | decide | omega | (simp -implicitDefEqProofs only [wpD1] <;> omega) | (refine not_in_one ?_; first | omega | (simp -implicitDefEqProofs only [wpD1] <;> omega) | fail) | (simp -implicitDefEqProofs only [wpD2] <;> assumption) | ((repeat (first | exact HSub.refl _ | assumption | refine HSub.push ?_ _ | refine HSub.reserve ?_ _ | refine HSub.put ?_ (by omega) _)); done) | fail) only [↓wpPre, wpPost, wpPoly, Int.reduceToNat, Int.reducePow, Int.reduceMul, Int.reduceAdd, Int.reduceSub, Int.reduceNeg, Nat.reduceAdd, Nat.reduceMul, Nat.reducePow, Int.reduceLT, Int.reduceLE, Int.reduceEq, Nat.reduceEqDiff, f8, f18]
    refine Br.by (fun c1 => ?_) (fun c1 => ?_)
    · have hk' : k < n := by omega
      simp -implicitDefEqProofs (disch := first | assumption | decide | omega | (simp -implicitDefEqProofs only [wpD1] <;> omega) | (refine not_in_one ?_; first | omega | (simp -implicitDefEqProofs only [wpD1] <;> omega) | fail) | (simp -implicitDefEqProofs only [wpD2] <;> assumption) | ((repeat (first | exact HSub.refl _ | assumption | refine HSub.push ?_ _ | refine HSub.reserve ?_ _ | refine HSub.put ?_ (by omega) _)); done) | fail) only [↓wpPre, wpPost, wpPoly, Int.reduceToNat, Int.reducePow, Int.reduceMul, Int.reduceAdd, Int.reduceSub, Int.reduceNeg, Nat.reduceAdd, Nat.reduceMul, Nat.reducePow, Int.reduceLT, Int.reduceLE, Int.reduceEq, Nat.reduceEqDiff]
      refine wp_loopI (fun j x h' => h' = h5.push (.cells (seenL (seqB ts S) D n k) true 0) ∧ ∃ q : Nat, x 0 = .int .i64 (D : Nat) ∧ x 7 = .bool true ∧ x 8 = .int .i64 (n : Nat) ∧ x 16 = vr ∧ x 17 = .slice h5.size 0 (n + 1) (.known (n + 1)) ∧ x 18 = .int .i64 (k : Nat) ∧ x 19 = .int .i64 (xN (seqB ts S) k q : Nat) ∧ x 20 = .int .i64 (q : Nat) ∧ q ≤ D ∧ j = D - q) (j0 := D)
        ⟨rfl, 0, f0, f7, f8, f16, f17, f18, rfl, rfl, by omega, rfl⟩ ?_
      rintro j x h7 ⟨hh, q, g0, g7, g8, g16, g17, g18, g19, g20, hq, hj⟩
      subst hh
      simp -implicitDefEqProofs (disch := first | assumption | decide | omega | (simp -implicitDefEqProofs only [wpD1] <;> omega) | (refine not_in_one ?_; first | omega | (simp -implicitDefEqProofs only [wpD1] <;> omega) | fail) | (simp -implicitDefEqProofs only [wpD2] <;> assumption) | ((repeat (first | exact HSub.refl _ | assumption | refine HSub.push ?_ _ | refine HSub.reserve ?_ _ | refine HSub.put ?_ (by omega) _)); done) | fail) only [↓wpPre, wpPost, wpPoly, Int.reduceToNat, Int.reducePow, Int.reduceMul, Int.reduceAdd, Int.reduceSub, Int.reduceNeg, Nat.reduceAdd, Nat.reduceMul, Nat.reducePow, Int.reduceLT, Int.reduceLE, Int.reduceEq, Nat.reduceEqDiff, g0, g20]
      refine Br.by (fun c2 => ?_) (fun c2 => ?_)
      · have hq' : q < D := by omega
        have x1 := xlt k q
        have x2 : 2 ^ q ≤ 2 ^ 7 := Nat.pow_le_pow_right (by decide) (by omega)
        have gr : (runL ts S (n + D)).getD (k + q) 0 = seqB ts S (k + q) := runL_get (by omega)
        have b01 := f01 (k + q)
        have eb : seqB ts S (k + q) % 2 = seqB ts S (k + q) := by omega
        have ei2 : ((k : Int) + q).toNat = k + q := by omega
        have ex : 2 * (xN (seqB ts S) k q : Int) + seqB ts S (k + q) = ((xN (seqB ts S) k (q + 1) : Nat) : Int) := by
          simp only [xN]; rcases b01 with h | h <;> rw [h] <;> simp
        simp -implicitDefEqProofs (disch := first | assumption | decide | omega | (simp -implicitDefEqProofs only [wpD1] <;> omega) | (refine not_in_one ?_; first | omega | (simp -implicitDefEqProofs only [wpD1] <;> omega) | fail) | (simp -implicitDefEqProofs only [wpD2] <;> assumption) | ((repeat (first | exact HSub.refl _ | assumption | refine HSub.push ?_ _ | refine HSub.reserve ?_ _ | refine HSub.put ?_ (by omega) _)); done) | fail) only [↓wpPre, wpPost, wpPoly, Int.reduceToNat, Int.reducePow, Int.reduceMul, Int.reduceAdd, Int.reduceSub, Int.reduceNeg, Nat.reduceAdd, Nat.reduceMul, Nat.reducePow, Int.reduceLT, Int.reduceLE, Int.reduceEq, Nat.reduceEqDiff, g0, g7, g8, g16, g17, g18, g19, g20, Rr.idx, Rr.loadC, ei2, gr, eb, ex]
        exact ⟨_, ⟨q + 1, rfl, by simp, by omega, rfl⟩, by omega⟩
      · have eq : q = D := by omega
        rw [eq] at g19
        have x1 := xlt k D
        have xp := SO.pos k
        have xl : xN (seqB ts S) k D < n + 1 := by omega
        have hno : ((List.range k).any fun q => xN (seqB ts S) q D == xN (seqB ts S) k D) = false := List.any_eq_false.2 fun y hy => by
          have hy := List.mem_range.1 hy
          intro e
          have := SO.inj y k (by omega) (by omega) (by simpa using e)
          omega
        have gs := seenL_get (f := seqB ts S) (d := D) (n := n) (k := k) xl
        rw [hno] at gs
        have ss := seenL_set (f := seqB ts S) (d := D) (n := n) (k := k) xl
        have sl : (seenL (seqB ts S) D n k).length = n + 1 := by simp [seenL]
        simp -implicitDefEqProofs (disch := first | assumption | decide | omega | (simp -implicitDefEqProofs only [wpD1] <;> omega) | (refine not_in_one ?_; first | omega | (simp -implicitDefEqProofs only [wpD1] <;> omega) | fail) | (simp -implicitDefEqProofs only [wpD2] <;> assumption) | ((repeat (first | exact HSub.refl _ | assumption | refine HSub.push ?_ _ | refine HSub.reserve ?_ _ | refine HSub.put ?_ (by omega) _)); done) | fail) only [↓wpPre, wpPost, wpPoly, Int.reduceToNat, Int.reducePow, Int.reduceMul, Int.reduceAdd, Int.reduceSub, Int.reduceNeg, Nat.reduceAdd, Nat.reduceMul, Nat.reducePow, Int.reduceLT, Int.reduceLE, Int.reduceEq, Nat.reduceEqDiff, g0, g7, g8, g16, g17, g18, g19, gs, ss]
        exact ⟨_, ⟨k + 1, rfl, by simp, by omega, rfl⟩, by omega⟩
    · simp -implicitDefEqProofs (disch := first | assumption | decide | omega | (simp -implicitDefEqProofs only [wpD1] <;> omega) | (refine not_in_one ?_; first | omega | (simp -implicitDefEqProofs only [wpD1] <;> omega) | fail) | (simp -implicitDefEqProofs only [wpD2] <;> assumption) | ((repeat (first | exact HSub.refl _ | assumption | refine HSub.push ?_ _ | refine HSub.reserve ?_ _ | refine HSub.put ?_ (by omega) _)); done) | fail) only [↓wpPre, wpPost, wpPoly, Int.reduceToNat, Int.reducePow, Int.reduceMul, Int.reduceAdd, Int.reduceSub, Int.reduceNeg, Nat.reduceAdd, Nat.reduceMul, Nat.reducePow, Int.reduceLT, Int.reduceLE, Int.reduceEq, Nat.reduceEqDiff, f7]
end
end Go.Ae
