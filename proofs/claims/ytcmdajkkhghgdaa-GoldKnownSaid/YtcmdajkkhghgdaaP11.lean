/- Texts of the proof, part 11: a second reading of the lowered code, proved sound, and what the functions compute. -/
import Derived.Test.YtcmdajkkhghgdaaP10

/- Find, of the program and of the reference; the statement on finding. -/
set_option linter.unusedSimpArgs false
set_option linter.unusedVariables false
namespace Go.Ae
section
variable {C : Ctx}
theorem codeErr_ok {d : Int} {p : Nat} (c : lenOk d = true) (h : 1 ≤ p ∧ p ≤ lenN d + 2) : codeErr d p = 0 := by unfold codeErr; rw [if_pos ⟨c, by omega, by omega⟩]
set_option maxRecDepth 100000 in
set_option maxHeartbeats 1000000 in
theorem Find_spec (hC : Has C T85) {d : Int} {vl : AV} {l : List Int} {h : Heap} {r0 : AV} (hd : In64 d) (hl : RI h vl l) (hr : FindR d l r0) : ACalls C 85 [.int .i64 d, vl] h (fun r h' => r = (if findErr d l = 0 then r0 else tup3 0 0 (findErr d l)) ∧ HSub h h') := by
  have hlt := hl.lt
  have pe : findErr d l = if lenOk d = true then (if l.length ≠ lenN d ∨ l.any badC = true then 3 else 0) else 2 := rfl
  by_cases c : lenOk d = true
  · have hN := lenN_eq c
    have eL : lenE d = tup2 (lenN d) 0 := by unfold lenE; rw [if_pos c]
    rw [if_pos c] at pe
    by_cases c1 : l.length ≠ lenN d
    · rw [if_pos (.inl c1)] at pe
      rw [pe, if_neg (by decide)]
      (refine calls_intro (hC.body (by decide) tab85) (Nat.le_of_ble_eq_true rfl) ?_); (show wp C _ none B85.code _ _); (simp only [B85]); simp -implicitDefEqProofs (disch := first | assumption | decide | omega | (simp -implicitDefEqProofs only [wpD1] <;> omega) | (refine not_in_one ?_; first | omega | (simp -implicitDefEqProofs only [wpD1] <;> omega) | fail) | (simp -implicitDefEqProofs only [wpD2] <;> assumption) | ((repeat (first | exact HSub.refl _ | assumption | refine HSub.push ?_ _ | refine HSub.reserve ?_ _ | refine HSub.put ?_ (by omega) _)); done) | fail) only [↓wpPre, wpPost, wpPoly, Int.reduceToNat, Int.reducePow, Int.reduceMul, Int.reduceAdd, Int.reduceSub, Int.reduceNeg, Nat.reduceAdd, Nat.reduceMul, Nat.reducePow, Int.reduceLT, Int.reduceLE, Int.reduceEq, Nat.reduceEqDiff]
      refine ACallsK.eq2 (Length_spec (hC.sub (T' := T70) (by decide)) hd) eL ?_
      simp -implicitDefEqProofs (disch := first | assumption | decide | omega | (simp -implicitDefEqProofs only [wpD1] <;> omega) | (refine not_in_one ?_; first | omega | (simp -implicitDefEqProofs only [wpD1] <;> omega) | fail) | (simp -implicitDefEqProofs only [wpD2] <;> assumption) | ((repeat (first | exact HSub.refl _ | assumption | refine HSub.push ?_ _ | refine HSub.reserve ?_ _ | refine HSub.put ?_ (by omega) _)); done) | fail) only [↓wpPre, wpPost, wpPoly, Int.reduceToNat, Int.reducePow, Int.reduceMul, Int.reduceAdd, Int.reduceSub, Int.reduceNeg, Nat.reduceAdd, Nat.reduceMul, Nat.reducePow, Int.reduceLT, Int.reduceLE, Int.reduceEq, Nat.reduceEqDiff, tup2, hl.len]
      exact ⟨rfl, HSub.refl _⟩
    · have asks : Asks C (.func 96 [] []) badC l h := ⟨96, [], rfl, fun x _ => badC_spec (hC.sub (T' := T96) (by decide))⟩
      by_cases c2 : l.any badC = true
      · rw [if_pos (.inr c2)] at pe
        rw [pe, if_neg (by decide)]
        (refine calls_intro (hC.body (by decide) tab85) (Nat.le_of_ble_eq_true rfl) ?_); (show wp C _ none B85.code _ _); (simp only [B85]); simp -implicitDefEqProofs (disch := first | assumption | decide | omega | (simp -implicitDefEqProofs only [wpD1] <;> omega) | (refine not_in_one ?_; first | omega | (simp -implicitDefEqProofs only [wpD1] <;> omega) | fail) | (simp -implicitDefEqProofs only [wpD2] <;> assumption) | ((repeat (first | exact HSub.refl _ | assumption | refine HSub.push ?_ _ | refine HSub.reserve ?_ _ | refine HSub.put ?_ (by omega) _)); done) | fail) only [↓wpPre, wpPost, wpPoly, Int.reduceToNat, Int.reducePow, Int.reduceMul, Int.reduceAdd, Int.reduceSub, Int.reduceNeg, Nat.reduceAdd, Nat.reduceMul, Nat.reducePow, Int.reduceLT, Int.reduceLE, Int.reduceEq, Nat.reduceEqDiff]
        refine ACallsK.eq2 (Length_spec (hC.sub (T' := T70) (by decide)) hd) eL ?_
        simp -implicitDefEqProofs (disch := first | assumption | decide | omega | (simp -implicitDefEqProofs only [wpD1] <;> omega) | (refine not_in_one ?_; first | omega | (simp -implicitDefEqProofs only [wpD1] <;> omega) | fail) | (simp -implicitDefEqProofs only [wpD2] <;> assumption) | ((repeat (first | exact HSub.refl _ | assumption | refine HSub.push ?_ _ | refine HSub.reserve ?_ _ | refine HSub.put ?_ (by omega) _)); done) | fail) only [↓wpPre, wpPost, wpPoly, Int.reduceToNat, Int.reducePow, Int.reduceMul, Int.reduceAdd, Int.reduceSub, Int.reduceNeg, Nat.reduceAdd, Nat.reduceMul, Nat.reducePow, Int.reduceLT, Int.reduceLE, Int.reduceEq, Nat.reduceEqDiff, tup2, hl.len]
        refine ACallsK.eq (ContainsFunc_spec (hC.sub (T' := T37) (by decide)) hl asks) ?_
        simp -implicitDefEqProofs (disch := first | assumption | decide | omega | (simp -implicitDefEqProofs only [wpD1] <;> omega) | (refine not_in_one ?_; first | omega | (simp -implicitDefEqProofs only [wpD1] <;> omega) | fail) | (simp -implicitDefEqProofs only [wpD2] <;> assumption) | ((repeat (first | exact HSub.refl _ | assumption | refine HSub.push ?_ _ | refine HSub.reserve ?_ _ | refine HSub.put ?_ (by omega) _)); done) | fail) only [↓wpPre, wpPost, wpPoly, Int.reduceToNat, Int.reducePow, Int.reduceMul, Int.reduceAdd, Int.reduceSub, Int.reduceNeg, Nat.reduceAdd, Nat.reduceMul, Nat.reducePow, Int.reduceLT, Int.reduceLE, Int.reduceEq, Nat.reduceEqDiff]
        exact ⟨rfl, HSub.refl _⟩
      · rw [if_neg (by rintro (x | x); exact c1 x; exact c2 x)] at pe
        rw [pe, if_pos rfl]
        have hcode : ∀ {p : Nat} {h : Heap}, 1 ≤ p → p ≤ lenN d + 2 → ACalls C 76 [.int .i64 d, .int .i64 (p : Nat)] h (fun r h' => ∃ v, r = lstErr v 0 ∧ HSub h h' ∧ RI h' v (codeL d p)) := by
          intro p h h1 h2
          have e := codeErr_ok c ⟨h1, h2⟩
          refine (Code_spec (hC.sub (T' := T76) (by decide)) hd (by unfold In64; omega)).mono ?_
          rintro r h' ⟨v, a1, a2, a3, _⟩
          rw [e, if_pos rfl] at a3
          exact ⟨v, by rw [a1, e], a2, a3⟩
        (refine calls_intro (hC.body (by decide) tab85) (Nat.le_of_ble_eq_true rfl) ?_); (show wp C _ none B85.code _ _); (simp only [B85]); simp -implicitDefEqProofs (disch := first | assumption | decide | omega | (simp -implicitDefEqProofs only [wpD1] <;> omega) | (refine not_in_one ?_; first | omega | (simp -implicitDefEqProofs only [wpD1] <;> omega) | fail) | (simp -implicitDefEqProofs only [wpD2] <;> assumption) | ((repeat (first | exact HSub.refl _ | assumption | refine HSub.push ?_ _ | refine HSub.reserve ?_ _ | refine HSub.put ?_ (by omega) _)); done) | fail) only [↓wpPre, wpPost, wpPoly, Int.reduceToNat, Int.reducePow, Int.reduceMul, Int.reduceAdd, Int.reduceSub, Int.reduceNeg, Nat.reduceAdd, Nat.reduceMul, Nat.reducePow, Int.reduceLT, Int.reduceLE, Int.reduceEq, Nat.reduceEqDiff]
        refine ACallsK.eq2 (Length_spec (hC.sub (T' := T70) (by decide)) hd) eL ?_
        simp -implicitDefEqProofs (disch := first | assumption | decide | omega | (simp -implicitDefEqProofs only [wpD1] <;> omega) | (refine not_in_one ?_; first | omega | (simp -implicitDefEqProofs only [wpD1] <;> omega) | fail) | (simp -implicitDefEqProofs only [wpD2] <;> assumption) | ((repeat (first | exact HSub.refl _ | assumption | refine HSub.push ?_ _ | refine HSub.reserve ?_ _ | refine HSub.put ?_ (by omega) _)); done) | fail) only [↓wpPre, wpPost, wpPoly, Int.reduceToNat, Int.reducePow, Int.reduceMul, Int.reduceAdd, Int.reduceSub, Int.reduceNeg, Nat.reduceAdd, Nat.reduceMul, Nat.reducePow, Int.reduceLT, Int.reduceLE, Int.reduceEq, Nat.reduceEqDiff, tup2, hl.len]
        refine ACallsK.eq (ContainsFunc_spec (hC.sub (T' := T37) (by decide)) hl asks) ?_
        simp -implicitDefEqProofs (disch := first | assumption | decide | omega | (simp -implicitDefEqProofs only [wpD1] <;> omega) | (refine not_in_one ?_; first | omega | (simp -implicitDefEqProofs only [wpD1] <;> omega) | fail) | (simp -implicitDefEqProofs only [wpD2] <;> assumption) | ((repeat (first | exact HSub.refl _ | assumption | refine HSub.push ?_ _ | refine HSub.reserve ?_ _ | refine HSub.put ?_ (by omega) _)); done) | fail) only [↓wpPre, wpPost, wpPoly, Int.reduceToNat, Int.reducePow, Int.reduceMul, Int.reduceAdd, Int.reduceSub, Int.reduceNeg, Nat.reduceAdd, Nat.reduceMul, Nat.reducePow, Int.reduceLT, Int.reduceLE, Int.reduceEq, Nat.reduceEqDiff]
        refine wp_loopI (fun j t h' => HSub h h' ∧ ∃ p : Nat, t 0 = .int .i64 d ∧ t 1 = vl ∧ t 7 = .int .i64 (lenN d) ∧ t 9 = .int .i64 (p : Nat) ∧ 1 ≤ p ∧ p ≤ lenN d + 3 ∧ (∀ p' : Nat, 1 ≤ p' → p' < p → ∀ q, q < lenN d → rotL (codeL d p') q ≠ l) ∧ j = lenN d + 3 - p) (j0 := lenN d + 2)
          ⟨HSub.refl _, 1, rfl, rfl, rfl, rfl, by omega, by omega, by omega, rfl⟩ ?_
        rintro j t h1 ⟨s1, p, e0, e1, e7, e9, hp1, hp2, hne, hj⟩
        simp -implicitDefEqProofs (disch := first | assumption | decide | omega | (simp -implicitDefEqProofs only [wpD1] <;> omega) | (refine not_in_one ?_; first | omega | (simp -implicitDefEqProofs only [wpD1] <;> omega) | fail) | (simp -implicitDefEqProofs only [wpD2] <;> assumption) | ((repeat (first | exact HSub.refl _ | assumption | refine HSub.push ?_ _ | refine HSub.reserve ?_ _ | refine HSub.put ?_ (by omega) _)); done) | fail) only [↓wpPre, wpPost, wpPoly, Int.reduceToNat, Int.reducePow, Int.reduceMul, Int.reduceAdd, Int.reduceSub, Int.reduceNeg, Nat.reduceAdd, Nat.reduceMul, Nat.reducePow, Int.reduceLT, Int.reduceLE, Int.reduceEq, Nat.reduceEqDiff, e7, e9]
        refine Br.by (fun c3 => ?_) (fun c3 => ?_)
        · have cl := codeL_length d p
          simp -implicitDefEqProofs (disch := first | assumption | decide | omega | (simp -implicitDefEqProofs only [wpD1] <;> omega) | (refine not_in_one ?_; first | omega | (simp -implicitDefEqProofs only [wpD1] <;> omega) | fail) | (simp -implicitDefEqProofs only [wpD2] <;> assumption) | ((repeat (first | exact HSub.refl _ | assumption | refine HSub.push ?_ _ | refine HSub.reserve ?_ _ | refine HSub.put ?_ (by omega) _)); done) | fail) only [↓wpPre, wpPost, wpPoly, Int.reduceToNat, Int.reducePow, Int.reduceMul, Int.reduceAdd, Int.reduceSub, Int.reduceNeg, Nat.reduceAdd, Nat.reduceMul, Nat.reducePow, Int.reduceLT, Int.reduceLE, Int.reduceEq, Nat.reduceEqDiff, e0, e9]
          refine ACallsK.of (hcode hp1 (by omega)) ?_
          rintro r h2 ⟨v2, rfl, s2, R2⟩
          simp -implicitDefEqProofs (disch := first | assumption | decide | omega | (simp -implicitDefEqProofs only [wpD1] <;> omega) | (refine not_in_one ?_; first | omega | (simp -implicitDefEqProofs only [wpD1] <;> omega) | fail) | (simp -implicitDefEqProofs only [wpD2] <;> assumption) | ((repeat (first | exact HSub.refl _ | assumption | refine HSub.push ?_ _ | refine HSub.reserve ?_ _ | refine HSub.put ?_ (by omega) _)); done) | fail) only [↓wpPre, wpPost, wpPoly, Int.reduceToNat, Int.reducePow, Int.reduceMul, Int.reduceAdd, Int.reduceSub, Int.reduceNeg, Nat.reduceAdd, Nat.reduceMul, Nat.reducePow, Int.reduceLT, Int.reduceLE, Int.reduceEq, Nat.reduceEqDiff, lstErr, e1]
          refine ACallsK.of (rotation_spec (hC.sub (T' := T97) (by decide)) R2 (hl.mono (s1.trans s2)) (by omega)) ?_
          rintro r h3 ⟨x, rfl, hx, s3⟩
          have s03 := (s1.trans s2).trans s3
          rcases hx with ⟨k, k1, k2, k3, rfl⟩ | ⟨k1, rfl⟩
          · simp -implicitDefEqProofs (disch := first | assumption | decide | omega | (simp -implicitDefEqProofs only [wpD1] <;> omega) | (refine not_in_one ?_; first | omega | (simp -implicitDefEqProofs only [wpD1] <;> omega) | fail) | (simp -implicitDefEqProofs only [wpD2] <;> assumption) | ((repeat (first | exact HSub.refl _ | assumption | refine HSub.push ?_ _ | refine HSub.reserve ?_ _ | refine HSub.put ?_ (by omega) _)); done) | fail) only [↓wpPre, wpPost, wpPoly, Int.reduceToNat, Int.reducePow, Int.reduceMul, Int.reduceAdd, Int.reduceSub, Int.reduceNeg, Nat.reduceAdd, Nat.reduceMul, Nat.reducePow, Int.reduceLT, Int.reduceLE, Int.reduceEq, Nat.reduceEqDiff, e9]
            exact ⟨FindR.unique (.inl ⟨p, k, hp1, by omega, by omega, k2, k3, hne, rfl⟩) hr, s03⟩
          · simp -implicitDefEqProofs (disch := first | assumption | decide | omega | (simp -implicitDefEqProofs only [wpD1] <;> omega) | (refine not_in_one ?_; first | omega | (simp -implicitDefEqProofs only [wpD1] <;> omega) | fail) | (simp -implicitDefEqProofs only [wpD2] <;> assumption) | ((repeat (first | exact HSub.refl _ | assumption | refine HSub.push ?_ _ | refine HSub.reserve ?_ _ | refine HSub.put ?_ (by omega) _)); done) | fail) only [↓wpPre, wpPost, wpPoly, Int.reduceToNat, Int.reducePow, Int.reduceMul, Int.reduceAdd, Int.reduceSub, Int.reduceNeg, Nat.reduceAdd, Nat.reduceMul, Nat.reducePow, Int.reduceLT, Int.reduceLE, Int.reduceEq, Nat.reduceEqDiff, e0, e1, e7, e9]
            exact ⟨_, ⟨s03, p + 1, by simp, by omega, by omega, fun p' a1 a2 q hq => by
              by_cases e : p' = p
              · subst e; exact k1 q (by omega)
              · exact hne p' a1 (by omega) q hq, rfl⟩, by omega⟩
        · simp -implicitDefEqProofs (disch := first | assumption | decide | omega | (simp -implicitDefEqProofs only [wpD1] <;> omega) | (refine not_in_one ?_; first | omega | (simp -implicitDefEqProofs only [wpD1] <;> omega) | fail) | (simp -implicitDefEqProofs only [wpD2] <;> assumption) | ((repeat (first | exact HSub.refl _ | assumption | refine HSub.push ?_ _ | refine HSub.reserve ?_ _ | refine HSub.put ?_ (by omega) _)); done) | fail) only [↓wpPre, wpPost, wpPoly, Int.reduceToNat, Int.reducePow, Int.reduceMul, Int.reduceAdd, Int.reduceSub, Int.reduceNeg, Nat.reduceAdd, Nat.reduceMul, Nat.reducePow, Int.reduceLT, Int.reduceLE, Int.reduceEq, Nat.reduceEqDiff]
          exact ⟨FindR.unique (.inr ⟨fun p' a1 a2 q hq => hne p' a1 (by omega) q hq, rfl⟩) hr, s1⟩
  · have eL : lenE d = tup2 0 2 := by unfold lenE; rw [if_neg c]
    rw [if_neg c] at pe
    rw [pe, if_neg (by decide)]
    (refine calls_intro (hC.body (by decide) tab85) (Nat.le_of_ble_eq_true rfl) ?_); (show wp C _ none B85.code _ _); (simp only [B85]); simp -implicitDefEqProofs (disch := first | assumption | decide | omega | (simp -implicitDefEqProofs only [wpD1] <;> omega) | (refine not_in_one ?_; first | omega | (simp -implicitDefEqProofs only [wpD1] <;> omega) | fail) | (simp -implicitDefEqProofs only [wpD2] <;> assumption) | ((repeat (first | exact HSub.refl _ | assumption | refine HSub.push ?_ _ | refine HSub.reserve ?_ _ | refine HSub.put ?_ (by omega) _)); done) | fail) only [↓wpPre, wpPost, wpPoly, Int.reduceToNat, Int.reducePow, Int.reduceMul, Int.reduceAdd, Int.reduceSub, Int.reduceNeg, Nat.reduceAdd, Nat.reduceMul, Nat.reducePow, Int.reduceLT, Int.reduceLE, Int.reduceEq, Nat.reduceEqDiff]
    refine ACallsK.eq2 (Length_spec (hC.sub (T' := T70) (by decide)) hd) eL ?_
    simp -implicitDefEqProofs (disch := first | assumption | decide | omega | (simp -implicitDefEqProofs only [wpD1] <;> omega) | (refine not_in_one ?_; first | omega | (simp -implicitDefEqProofs only [wpD1] <;> omega) | fail) | (simp -implicitDefEqProofs only [wpD2] <;> assumption) | ((repeat (first | exact HSub.refl _ | assumption | refine HSub.push ?_ _ | refine HSub.reserve ?_ _ | refine HSub.put ?_ (by omega) _)); done) | fail) only [↓wpPre, wpPost, wpPoly, Int.reduceToNat, Int.reducePow, Int.reduceMul, Int.reduceAdd, Int.reduceSub, Int.reduceNeg, Nat.reduceAdd, Nat.reduceMul, Nat.reducePow, Int.reduceLT, Int.reduceLE, Int.reduceEq, Nat.reduceEqDiff, tup2]
    exact ⟨rfl, HSub.refl _⟩

set_option maxRecDepth 100000 in
set_option maxHeartbeats 1000000 in
theorem Find08_spec (hC : Has C T86) {d : Int} {vl : AV} {l : List Int} {h : Heap} {r0 : AV} (hd : In64 d) (hl : RI h vl l) (hr : FindR d l r0) : ACalls C 86 [.int .i64 d, vl] h (fun r h' => r = (if findErr d l = 0 then r0 else tup3 0 0 (findErr d l)) ∧ HSub h h') := by
  have hlt := hl.lt
  have pe : findErr d l = if lenOk d = true then (if l.length ≠ lenN d ∨ l.any badC = true then 3 else 0) else 2 := rfl
  by_cases c : lenOk d = true
  · have hN := lenN_eq c
    have eL : lenE d = tup2 (lenN d) 0 := by unfold lenE; rw [if_pos c]
    rw [if_pos c] at pe
    by_cases c1 : l.length ≠ lenN d
    · rw [if_pos (.inl c1)] at pe
      rw [pe, if_neg (by decide)]
      (refine calls_intro (hC.body (by decide) tab86) (Nat.le_of_ble_eq_true rfl) ?_); (show wp C _ none B86.code _ _); (simp only [B86]); simp -implicitDefEqProofs (disch := first | assumption | decide | omega | (simp -implicitDefEqProofs only [wpD1] <;> omega) | (refine not_in_one ?_; first | omega | (simp -implicitDefEqProofs only [wpD1] <;> omega) | fail) | (simp -implicitDefEqProofs only [wpD2] <;> assumption) | ((repeat (first | exact HSub.refl _ | assumption | refine HSub.push ?_ _ | refine HSub.reserve ?_ _ | refine HSub.put ?_ (by omega) _)); done) | fail) only [↓wpPre, wpPost, wpPoly, Int.reduceToNat, Int.reducePow, Int.reduceMul, Int.reduceAdd, Int.reduceSub, Int.reduceNeg, Nat.reduceAdd, Nat.reduceMul, Nat.reducePow, Int.reduceLT, Int.reduceLE, Int.reduceEq, Nat.reduceEqDiff]
      refine ACallsK.eq2 (Length08_spec (hC.sub (T' := T71) (by decide)) hd) eL ?_
      simp -implicitDefEqProofs (disch := first | assumption | decide | omega | (simp -implicitDefEqProofs only [wpD1] <;> omega) | (refine not_in_one ?_; first | omega | (simp -implicitDefEqProofs only [wpD1] <;> omega) | fail) | (simp -implicitDefEqProofs only [wpD2] <;> assumption) | ((repeat (first | exact HSub.refl _ | assumption | refine HSub.push ?_ _ | refine HSub.reserve ?_ _ | refine HSub.put ?_ (by omega) _)); done) | fail) only [↓wpPre, wpPost, wpPoly, Int.reduceToNat, Int.reducePow, Int.reduceMul, Int.reduceAdd, Int.reduceSub, Int.reduceNeg, Nat.reduceAdd, Nat.reduceMul, Nat.reducePow, Int.reduceLT, Int.reduceLE, Int.reduceEq, Nat.reduceEqDiff, tup2, hl.len]
      exact ⟨rfl, HSub.refl _⟩
    · have hcode : ∀ {p : Nat} {h : Heap}, 1 ≤ p → p ≤ lenN d + 2 → ACalls C 77 [.int .i64 d, .int .i64 (p : Nat)] h (fun r h' => ∃ v, r = lstErr v 0 ∧ HSub h h' ∧ RI h' v (codeL d p)) := by
        intro p h h1 h2
        have e := codeErr_ok c ⟨h1, h2⟩
        refine (Code08_spec (hC.sub (T' := T77) (by decide)) hd (by unfold In64; omega)).mono ?_
        rintro r h' ⟨v, a1, a2, a3⟩
        rw [e, if_pos rfl] at a3
        exact ⟨v, by rw [a1, e], a2, a3⟩
      have pe3 : l.any badC = true → (if findErr d l = 0 then r0 else tup3 0 0 (findErr d l)) = tup3 0 0 3 := fun h => by
        have e3 : findErr d l = 3 := pe.trans (if_pos (.inr h))
        rw [e3, if_neg (by decide)]
      have pe0 : l.any badC = false → (if findErr d l = 0 then r0 else tup3 0 0 (findErr d l)) = r0 := fun h => by
        have e0 : findErr d l = 0 := pe.trans (if_neg (by rintro (x | x); exact c1 x; rw [h] at x; exact absurd x (by decide)))
        rw [e0, if_pos rfl]
      (refine calls_intro (hC.body (by decide) tab86) (Nat.le_of_ble_eq_true rfl) ?_); (show wp C _ none B86.code _ _); (simp only [B86]); simp -implicitDefEqProofs (disch := first | assumption | decide | omega | (simp -implicitDefEqProofs only [wpD1] <;> omega) | (refine not_in_one ?_; first | omega | (simp -implicitDefEqProofs only [wpD1] <;> omega) | fail) | (simp -implicitDefEqProofs only [wpD2] <;> assumption) | ((repeat (first | exact HSub.refl _ | assumption | refine HSub.push ?_ _ | refine HSub.reserve ?_ _ | refine HSub.put ?_ (by omega) _)); done) | fail) only [↓wpPre, wpPost, wpPoly, Int.reduceToNat, Int.reducePow, Int.reduceMul, Int.reduceAdd, Int.reduceSub, Int.reduceNeg, Nat.reduceAdd, Nat.reduceMul, Nat.reducePow, Int.reduceLT, Int.reduceLE, Int.reduceEq, Nat.reduceEqDiff]
      refine ACallsK.eq2 (Length08_spec (hC.sub (T' := T71) (by decide)) hd) eL ?_
      simp -implicitDefEqProofs (disch := first | assumption | decide | omega | (simp -implicitDefEqProofs only [wpD1] <;> omega) | (refine not_in_one ?_; first | omega | (simp -implicitDefEqProofs only [wpD1] <;> omega) | fail) | (simp -implicitDefEqProofs only [wpD2] <;> assumption) | ((repeat (first | exact HSub.refl _ | assumption | refine HSub.push ?_ _ | refine HSub.reserve ?_ _ | refine HSub.put ?_ (by omega) _)); done) | fail) only [↓wpPre, wpPost, wpPoly, Int.reduceToNat, Int.reducePow, Int.reduceMul, Int.reduceAdd, Int.reduceSub, Int.reduceNeg, Nat.reduceAdd, Nat.reduceMul, Nat.reducePow, Int.reduceLT, Int.reduceLE, Int.reduceEq, Nat.reduceEqDiff, tup2, hl.len]
      refine wp_loopI (fun j t h' => h' = h ∧ ∃ i : Nat, t 0 = .int .i64 d ∧ t 1 = vl ∧ t 7 = .int .i64 (lenN d) ∧ t 9 = .int .i64 (i : Nat) ∧ i ≤ lenN d ∧ (l.take i).any badC = false ∧ j = lenN d - i) (j0 := lenN d)
        ⟨rfl, 0, rfl, rfl, rfl, rfl, by omega, by simp, rfl⟩ ?_
      rintro j t h1 ⟨hh, i, e0, e1, e7, e9, hi, hp, hj⟩
      subst hh
      simp -implicitDefEqProofs (disch := first | assumption | decide | omega | (simp -implicitDefEqProofs only [wpD1] <;> omega) | (refine not_in_one ?_; first | omega | (simp -implicitDefEqProofs only [wpD1] <;> omega) | fail) | (simp -implicitDefEqProofs only [wpD2] <;> assumption) | ((repeat (first | exact HSub.refl _ | assumption | refine HSub.push ?_ _ | refine HSub.reserve ?_ _ | refine HSub.put ?_ (by omega) _)); done) | fail) only [↓wpPre, wpPost, wpPoly, Int.reduceToNat, Int.reducePow, Int.reduceMul, Int.reduceAdd, Int.reduceSub, Int.reduceNeg, Nat.reduceAdd, Nat.reduceMul, Nat.reducePow, Int.reduceLT, Int.reduceLE, Int.reduceEq, Nat.reduceEqDiff, e7, e9]
      refine Br.by (fun c3 => ?_) (fun c3 => ?_)
      · have hi' : i < l.length := by omega
        by_cases cb : l.getD i 0 = 1 ∨ l.getD i 0 = -1
        · have hb : badC (l.getD i 0) = false := by simp only [badC, decide_eq_false_iff_not]; omega
          have hnx := any_take_succ hi' hp hb
          rcases cb with cb | cb
          · simp -implicitDefEqProofs (disch := first | assumption | decide | omega | (simp -implicitDefEqProofs only [wpD1] <;> omega) | (refine not_in_one ?_; first | omega | (simp -implicitDefEqProofs only [wpD1] <;> omega) | fail) | (simp -implicitDefEqProofs only [wpD2] <;> assumption) | ((repeat (first | exact HSub.refl _ | assumption | refine HSub.push ?_ _ | refine HSub.reserve ?_ _ | refine HSub.put ?_ (by omega) _)); done) | fail) only [↓wpPre, wpPost, wpPoly, Int.reduceToNat, Int.reducePow, Int.reduceMul, Int.reduceAdd, Int.reduceSub, Int.reduceNeg, Nat.reduceAdd, Nat.reduceMul, Nat.reducePow, Int.reduceLT, Int.reduceLE, Int.reduceEq, Nat.reduceEqDiff, e0, e1, e7, e9, hl.idx, hl.load]
            exact ⟨_, ⟨i + 1, by simp, by omega, hnx, rfl⟩, by omega⟩
          · simp -implicitDefEqProofs (disch := first | assumption | decide | omega | (simp -implicitDefEqProofs only [wpD1] <;> omega) | (refine not_in_one ?_; first | omega | (simp -implicitDefEqProofs only [wpD1] <;> omega) | fail) | (simp -implicitDefEqProofs only [wpD2] <;> assumption) | ((repeat (first | exact HSub.refl _ | assumption | refine HSub.push ?_ _ | refine HSub.reserve ?_ _ | refine HSub.put ?_ (by omega) _)); done) | fail) only [↓wpPre, wpPost, wpPoly, Int.reduceToNat, Int.reducePow, Int.reduceMul, Int.reduceAdd, Int.reduceSub, Int.reduceNeg, Nat.reduceAdd, Nat.reduceMul, Nat.reducePow, Int.reduceLT, Int.reduceLE, Int.reduceEq, Nat.reduceEqDiff, e0, e1, e7, e9, hl.idx, hl.load]
            exact ⟨_, ⟨i + 1, by simp, by omega, hnx, rfl⟩, by omega⟩
        · have hb : l.any badC = true := List.any_eq_true.2 ⟨_, getD_mem hi', by simp only [badC, decide_eq_true_eq]; omega⟩
          have pe3 := pe3 hb
          simp -implicitDefEqProofs (disch := first | assumption | decide | omega | (simp -implicitDefEqProofs only [wpD1] <;> omega) | (refine not_in_one ?_; first | omega | (simp -implicitDefEqProofs only [wpD1] <;> omega) | fail) | (simp -implicitDefEqProofs only [wpD2] <;> assumption) | ((repeat (first | exact HSub.refl _ | assumption | refine HSub.push ?_ _ | refine HSub.reserve ?_ _ | refine HSub.put ?_ (by omega) _)); done) | fail) only [↓wpPre, wpPost, wpPoly, Int.reduceToNat, Int.reducePow, Int.reduceMul, Int.reduceAdd, Int.reduceSub, Int.reduceNeg, Nat.reduceAdd, Nat.reduceMul, Nat.reducePow, Int.reduceLT, Int.reduceLE, Int.reduceEq, Nat.reduceEqDiff, e0, e1, e7, e9, hl.idx, hl.load]
          exact ⟨pe3.symm, HSub.refl _⟩
      · have ei : i = l.length := by omega
        rw [ei, List.take_length] at hp
        have pe0 := pe0 hp
        simp -implicitDefEqProofs (disch := first | assumption | decide | omega | (simp -implicitDefEqProofs only [wpD1] <;> omega) | (refine not_in_one ?_; first | omega | (simp -implicitDefEqProofs only [wpD1] <;> omega) | fail) | (simp -implicitDefEqProofs only [wpD2] <;> assumption) | ((repeat (first | exact HSub.refl _ | assumption | refine HSub.push ?_ _ | refine HSub.reserve ?_ _ | refine HSub.put ?_ (by omega) _)); done) | fail) only [↓wpPre, wpPost, wpPoly, Int.reduceToNat, Int.reducePow, Int.reduceMul, Int.reduceAdd, Int.reduceSub, Int.reduceNeg, Nat.reduceAdd, Nat.reduceMul, Nat.reducePow, Int.reduceLT, Int.reduceLE, Int.reduceEq, Nat.reduceEqDiff]
        refine wp_loopI (fun j u h' => HSub h1 h' ∧ ∃ p : Nat, u 0 = .int .i64 d ∧ u 1 = vl ∧ u 7 = .int .i64 (lenN d) ∧ u 10 = .int .i64 (p : Nat) ∧ 1 ≤ p ∧ p ≤ lenN d + 3 ∧ (∀ p' : Nat, 1 ≤ p' → p' < p → ∀ q, q < lenN d → rotL (codeL d p') q ≠ l) ∧ j = lenN d + 3 - p) (j0 := lenN d + 2)
          ⟨HSub.refl _, 1, e0, e1, e7, rfl, by omega, by omega, by omega, rfl⟩ ?_
        rintro j u h2 ⟨s1, p, f0, f1, f7, f10, hp1, hp2, hne, hj⟩
        simp -implicitDefEqProofs (disch := first | assumption | decide | omega | (simp -implicitDefEqProofs only [wpD1] <;> omega) | (refine not_in_one ?_; first | omega | (simp -implicitDefEqProofs only [wpD1] <;> omega) | fail) | (simp -implicitDefEqProofs only [wpD2] <;> assumption) | ((repeat (first | exact HSub.refl _ | assumption | refine HSub.push ?_ _ | refine HSub.reserve ?_ _ | refine HSub.put ?_ (by omega) _)); done) | fail) only [↓wpPre, wpPost, wpPoly, Int.reduceToNat, Int.reducePow, Int.reduceMul, Int.reduceAdd, Int.reduceSub, Int.reduceNeg, Nat.reduceAdd, Nat.reduceMul, Nat.reducePow, Int.reduceLT, Int.reduceLE, Int.reduceEq, Nat.reduceEqDiff, f7, f10]
        refine Br.by (fun c4 => ?_) (fun c4 => ?_)
        · have cl := codeL_length d p
          simp -implicitDefEqProofs (disch := first | assumption | decide | omega | (simp -implicitDefEqProofs only [wpD1] <;> omega) | (refine not_in_one ?_; first | omega | (simp -implicitDefEqProofs only [wpD1] <;> omega) | fail) | (simp -implicitDefEqProofs only [wpD2] <;> assumption) | ((repeat (first | exact HSub.refl _ | assumption | refine HSub.push ?_ _ | refine HSub.reserve ?_ _ | refine HSub.put ?_ (by omega) _)); done) | fail) only [↓wpPre, wpPost, wpPoly, Int.reduceToNat, Int.reducePow, Int.reduceMul, Int.reduceAdd, Int.reduceSub, Int.reduceNeg, Nat.reduceAdd, Nat.reduceMul, Nat.reducePow, Int.reduceLT, Int.reduceLE, Int.reduceEq, Nat.reduceEqDiff, f0, f10]
          refine ACallsK.of (hcode hp1 (by omega)) ?_
          rintro r h3 ⟨v2, rfl, s2, R2⟩
          have s12 := s1.trans s2
          have hl3 := hl.mono s12
          simp -implicitDefEqProofs (disch := first | assumption | decide | omega | (simp -implicitDefEqProofs only [wpD1] <;> omega) | (refine not_in_one ?_; first | omega | (simp -implicitDefEqProofs only [wpD1] <;> omega) | fail) | (simp -implicitDefEqProofs only [wpD2] <;> assumption) | ((repeat (first | exact HSub.refl _ | assumption | refine HSub.push ?_ _ | refine HSub.reserve ?_ _ | refine HSub.put ?_ (by omega) _)); done) | fail) only [↓wpPre, wpPost, wpPoly, Int.reduceToNat, Int.reducePow, Int.reduceMul, Int.reduceAdd, Int.reduceSub, Int.reduceNeg, Nat.reduceAdd, Nat.reduceMul, Nat.reducePow, Int.reduceLT, Int.reduceLE, Int.reduceEq, Nat.reduceEqDiff, lstErr]
          refine wp_loopI (fun j w h' => h' = h3 ∧ ∃ k : Nat, w 0 = .int .i64 d ∧ w 1 = vl ∧ w 7 = .int .i64 (lenN d) ∧ w 10 = .int .i64 (p : Nat) ∧ w 11 = v2 ∧ w 13 = .int .i64 (k : Nat) ∧ k ≤ lenN d ∧ (∀ q, q < k → rotL (codeL d p) q ≠ l) ∧ j = lenN d - k) (j0 := lenN d)
            ⟨rfl, 0, f0, f1, f7, f10, rfl, rfl, by omega, by omega, rfl⟩ ?_
          rintro j w h4 ⟨hh, k, g0, g1, g7, g10, g11, g13, hk, hnk, hj⟩
          subst hh
          simp -implicitDefEqProofs (disch := first | assumption | decide | omega | (simp -implicitDefEqProofs only [wpD1] <;> omega) | (refine not_in_one ?_; first | omega | (simp -implicitDefEqProofs only [wpD1] <;> omega) | fail) | (simp -implicitDefEqProofs only [wpD2] <;> assumption) | ((repeat (first | exact HSub.refl _ | assumption | refine HSub.push ?_ _ | refine HSub.reserve ?_ _ | refine HSub.put ?_ (by omega) _)); done) | fail) only [↓wpPre, wpPost, wpPoly, Int.reduceToNat, Int.reducePow, Int.reduceMul, Int.reduceAdd, Int.reduceSub, Int.reduceNeg, Nat.reduceAdd, Nat.reduceMul, Nat.reducePow, Int.reduceLT, Int.reduceLE, Int.reduceEq, Nat.reduceEqDiff, g7, g13]
          refine Br.by (fun c5 => ?_) (fun c5 => ?_)
          · simp -implicitDefEqProofs (disch := first | assumption | decide | omega | (simp -implicitDefEqProofs only [wpD1] <;> omega) | (refine not_in_one ?_; first | omega | (simp -implicitDefEqProofs only [wpD1] <;> omega) | fail) | (simp -implicitDefEqProofs only [wpD2] <;> assumption) | ((repeat (first | exact HSub.refl _ | assumption | refine HSub.push ?_ _ | refine HSub.reserve ?_ _ | refine HSub.put ?_ (by omega) _)); done) | fail) only [↓wpPre, wpPost, wpPoly, Int.reduceToNat, Int.reducePow, Int.reduceMul, Int.reduceAdd, Int.reduceSub, Int.reduceNeg, Nat.reduceAdd, Nat.reduceMul, Nat.reducePow, Int.reduceLT, Int.reduceLE, Int.reduceEq, Nat.reduceEqDiff, g1, g11, g13]
            refine ACallsK.eq (rotated_spec (hC.sub (T' := T98) (by decide)) hl3 R2 (by omega) (by omega) (by omega)) ?_
            simp -implicitDefEqProofs (disch := first | assumption | decide | omega | (simp -implicitDefEqProofs only [wpD1] <;> omega) | (refine not_in_one ?_; first | omega | (simp -implicitDefEqProofs only [wpD1] <;> omega) | fail) | (simp -implicitDefEqProofs only [wpD2] <;> assumption) | ((repeat (first | exact HSub.refl _ | assumption | refine HSub.push ?_ _ | refine HSub.reserve ?_ _ | refine HSub.put ?_ (by omega) _)); done) | fail) only [↓wpPre, wpPost, wpPoly, Int.reduceToNat, Int.reducePow, Int.reduceMul, Int.reduceAdd, Int.reduceSub, Int.reduceNeg, Nat.reduceAdd, Nat.reduceMul, Nat.reducePow, Int.reduceLT, Int.reduceLE, Int.reduceEq, Nat.reduceEqDiff]
            refine Br.by (fun c6 => ?_) (fun c6 => ?_)
            · simp -implicitDefEqProofs (disch := first | assumption | decide | omega | (simp -implicitDefEqProofs only [wpD1] <;> omega) | (refine not_in_one ?_; first | omega | (simp -implicitDefEqProofs only [wpD1] <;> omega) | fail) | (simp -implicitDefEqProofs only [wpD2] <;> assumption) | ((repeat (first | exact HSub.refl _ | assumption | refine HSub.push ?_ _ | refine HSub.reserve ?_ _ | refine HSub.put ?_ (by omega) _)); done) | fail) only [↓wpPre, wpPost, wpPoly, Int.reduceToNat, Int.reducePow, Int.reduceMul, Int.reduceAdd, Int.reduceSub, Int.reduceNeg, Nat.reduceAdd, Nat.reduceMul, Nat.reducePow, Int.reduceLT, Int.reduceLE, Int.reduceEq, Nat.reduceEqDiff, g10, g13]
              exact ⟨(FindR.unique (.inl ⟨p, k, hp1, by omega, by omega, c6, hnk, hne, rfl⟩) hr).trans pe0.symm, s12⟩
            · simp -implicitDefEqProofs (disch := first | assumption | decide | omega | (simp -implicitDefEqProofs only [wpD1] <;> omega) | (refine not_in_one ?_; first | omega | (simp -implicitDefEqProofs only [wpD1] <;> omega) | fail) | (simp -implicitDefEqProofs only [wpD2] <;> assumption) | ((repeat (first | exact HSub.refl _ | assumption | refine HSub.push ?_ _ | refine HSub.reserve ?_ _ | refine HSub.put ?_ (by omega) _)); done) | fail) only [↓wpPre, wpPost, wpPoly, Int.reduceToNat, Int.reducePow, Int.reduceMul, Int.reduceAdd, Int.reduceSub, Int.reduceNeg, Nat.reduceAdd, Nat.reduceMul, Nat.reducePow, Int.reduceLT, Int.reduceLE, Int.reduceEq, Nat.reduceEqDiff, g0, g1, g7, g10, g11, g13]
              exact ⟨_, ⟨k + 1, by simp, by omega, fun q hq => by
                by_cases e : q = k
                · subst e; exact c6
                · exact hnk q (by omega), rfl⟩, by omega⟩
          · simp -implicitDefEqProofs (disch := first | assumption | decide | omega | (simp -implicitDefEqProofs only [wpD1] <;> omega) | (refine not_in_one ?_; first | omega | (simp -implicitDefEqProofs only [wpD1] <;> omega) | fail) | (simp -implicitDefEqProofs only [wpD2] <;> assumption) | ((repeat (first | exact HSub.refl _ | assumption | refine HSub.push ?_ _ | refine HSub.reserve ?_ _ | refine HSub.put ?_ (by omega) _)); done) | fail) only [↓wpPre, wpPost, wpPoly, Int.reduceToNat, Int.reducePow, Int.reduceMul, Int.reduceAdd, Int.reduceSub, Int.reduceNeg, Nat.reduceAdd, Nat.reduceMul, Nat.reducePow, Int.reduceLT, Int.reduceLE, Int.reduceEq, Nat.reduceEqDiff, g0, g1, g7, g10]
            exact ⟨_, ⟨s12, p + 1, by simp, by omega, by omega, fun p' a1 a2 q hq => by
              by_cases e : p' = p
              · subst e; exact hnk q (by omega)
              · exact hne p' a1 (by omega) q hq, rfl⟩, by omega⟩
        · simp -implicitDefEqProofs (disch := first | assumption | decide | omega | (simp -implicitDefEqProofs only [wpD1] <;> omega) | (refine not_in_one ?_; first | omega | (simp -implicitDefEqProofs only [wpD1] <;> omega) | fail) | (simp -implicitDefEqProofs only [wpD2] <;> assumption) | ((repeat (first | exact HSub.refl _ | assumption | refine HSub.push ?_ _ | refine HSub.reserve ?_ _ | refine HSub.put ?_ (by omega) _)); done) | fail) only [↓wpPre, wpPost, wpPoly, Int.reduceToNat, Int.reducePow, Int.reduceMul, Int.reduceAdd, Int.reduceSub, Int.reduceNeg, Nat.reduceAdd, Nat.reduceMul, Nat.reducePow, Int.reduceLT, Int.reduceLE, Int.reduceEq, Nat.reduceEqDiff]
          exact ⟨(FindR.unique (.inr ⟨fun p' a1 a2 q hq => hne p' a1 (by omega) q hq, rfl⟩) hr).trans pe0.symm, s1⟩
  · have eL : lenE d = tup2 0 2 := by unfold lenE; rw [if_neg c]
    rw [if_neg c] at pe
    rw [pe, if_neg (by decide)]
    (refine calls_intro (hC.body (by decide) tab86) (Nat.le_of_ble_eq_true rfl) ?_); (show wp C _ none B86.code _ _); (simp only [B86]); simp -implicitDefEqProofs (disch := first | assumption | decide | omega | (simp -implicitDefEqProofs only [wpD1] <;> omega) | (refine not_in_one ?_; first | omega | (simp -implicitDefEqProofs only [wpD1] <;> omega) | fail) | (simp -implicitDefEqProofs only [wpD2] <;> assumption) | ((repeat (first | exact HSub.refl _ | assumption | refine HSub.push ?_ _ | refine HSub.reserve ?_ _ | refine HSub.put ?_ (by omega) _)); done) | fail) only [↓wpPre, wpPost, wpPoly, Int.reduceToNat, Int.reducePow, Int.reduceMul, Int.reduceAdd, Int.reduceSub, Int.reduceNeg, Nat.reduceAdd, Nat.reduceMul, Nat.reducePow, Int.reduceLT, Int.reduceLE, Int.reduceEq, Nat.reduceEqDiff]
    refine ACallsK.eq2 (Length08_spec (hC.sub (T' := T71) (by decide)) hd) eL ?_
    simp -implicitDefEqProofs (disch := first | assumption | decide | omega | (simp -implicitDefEqProofs only [wpD1] <;> omega) | (refine not_in_one ?_; first | omega | (simp -implicitDefEqProofs only [wpD1] <;> omega) | fail) | (simp -implicitDefEqProofs only [wpD2] <;> assumption) | ((repeat (first | exact HSub.refl _ | assumption | refine HSub.push ?_ _ | refine HSub.reserve ?_ _ | refine HSub.put ?_ (by omega) _)); done) | fail) only [↓wpPre, wpPost, wpPoly, Int.reduceToNat, Int.reducePow, Int.reduceMul, Int.reduceAdd, Int.reduceSub, Int.reduceNeg, Nat.reduceAdd, Nat.reduceMul, Nat.reducePow, Int.reduceLT, Int.reduceLE, Int.reduceEq, Nat.reduceEqDiff, tup2]
    exact ⟨rfl, HSub.refl _⟩
end
end Go.Ae

/- Rotations of codes are all different. -/
set_option linter.unusedSimpArgs false
set_option linter.unusedVariables false
namespace Go.Ae
def smallD (d : Int) : Prop := d = 5 ∨ d = 6 ∨ d = 7
theorem smallD.len {d : Int} (h : smallD d) : lenOk d = true ∧ 31 ≤ lenN d ∧ lenN d ≤ 127 ∧ (thrT d = 9 ∨ (thrT d = 17 ∧ 63 ≤ lenN d)) := by
  rcases h with rfl | rfl | rfl <;> decide
theorem codeL_pm {d p : Int} {i : Nat} (h : i < lenN d) : (codeL d p).getD i 0 = 1 ∨ (codeL d p).getD i 0 = -1 := by
  rw [codeL_get h]
  rcases codeB_01 d p i with h | h <;> rw [h] <;> simp
theorem codeL_rot {d p : Int} {k i : Nat} (hi : i < lenN d) : (rotL (codeL d p) k).getD i 0 = (codeL d p).getD ((i + k) % lenN d) 0 := by
  have := rotL_get (c := codeL d p) (k := k) (i := i) (by rw [codeL_length]; exact hi)
  rw [codeL_length] at this; exact this
/-- The sum of products of two rotated codes. -/
theorem prod_rot {d : Int} (hn : 0 < lenN d) (p q a b : Nat) (ha : a < lenN d) : isum (fun i => (rotL (codeL d p) a).getD i 0 * (rotL (codeL d q) b).getD i 0) (lenN d) = prodS d p q ((b + (lenN d - a)) % lenN d) := by
  have e1 : isum (fun i => (rotL (codeL d p) a).getD i 0 * (rotL (codeL d q) b).getD i 0) (lenN d) = isum (fun i => (fun j => (codeL d p).getD (j % lenN d) 0 * (codeL d q).getD ((j + (b + (lenN d - a)) % lenN d) % lenN d) 0) (i + a)) (lenN d) := by
    refine isum_congr _ fun i hi => ?_
    rw [codeL_rot hi, codeL_rot hi]
    show _ = (codeL d p).getD ((i + a) % lenN d) 0 * (codeL d q).getD ((i + a + (b + (lenN d - a)) % lenN d) % lenN d) 0
    have : (i + a + (b + (lenN d - a)) % lenN d) % lenN d = (i + b) % lenN d := by
      rw [Nat.add_mod_mod, show i + a + (b + (lenN d - a)) = i + b + lenN d by omega, Nat.add_mod_right]
    rw [this]
  rw [e1, isum_shift (f := fun j => (codeL d p).getD (j % lenN d) 0 * (codeL d q).getD ((j + (b + (lenN d - a)) % lenN d) % lenN d) 0) (fun i => by
    rw [Nat.add_mod_right, show i + lenN d + (b + (lenN d - a)) % lenN d = i + (b + (lenN d - a)) % lenN d + lenN d by omega, Nat.add_mod_right]) a]
  refine isum_congr _ fun i hi => ?_
  rw [Nat.mod_eq_of_lt hi]
theorem isum_ones : ∀ m : Nat, isum (fun _ => 1) m = m
  | 0 => rfl
  | m + 1 => by simp only [isum, isum_ones m]; omega
theorem rot_inj {d : Int} (hd : smallD d) {p q a b : Nat} (hp : 1 ≤ p ∧ p ≤ lenN d + 2) (hq : 1 ≤ q ∧ q ≤ lenN d + 2) (ha : a < lenN d) (hb : b < lenN d) (h : rotL (codeL d p) a = rotL (codeL d q) b) : p = q ∧ a = b := by
  have hl := hd.len
  have h1 := prod_rot (d := d) (by omega) p q a b ha
  have h2 : isum (fun i => (rotL (codeL d p) a).getD i 0 * (rotL (codeL d q) b).getD i 0) (lenN d) = lenN d := by
    rw [isum_congr (g := fun _ => 1) _ (fun i hi => by
      rw [h, codeL_rot hi]
      have hm : (i + b) % lenN d < lenN d := Nat.mod_lt _ (by omega)
      rcases codeL_pm (p := q) hm with e | e <;> rw [e] <;> rfl), isum_ones]
  rw [h2] at h1
  rcases three hd hp hq (Nat.mod_lt (b + (lenN d - a)) (show 0 < lenN d by omega)) with ⟨e, hk, _⟩ | ⟨_, h3⟩
  · refine ⟨e, ?_⟩
    by_cases c : b + (lenN d - a) < lenN d
    · rw [Nat.mod_eq_of_lt c] at hk; omega
    · rw [Nat.mod_eq_sub_mod (by omega), Nat.mod_eq_of_lt (by omega)] at hk; omega
  · exfalso; omega
/-- A rotation of a code is found. -/
theorem find_rot {d : Int} (hd : smallD d) {p k : Nat} (hp : 1 ≤ p ∧ p ≤ lenN d + 2) (hk : k < lenN d) : FindR d (rotL (codeL d p) k) (tup3 p k 0) := by
  refine .inl ⟨p, k, hp.1, hp.2, hk, rfl, fun q hq e => ?_, fun p' h1 h2 q hq e => ?_, rfl⟩
  · have := (rot_inj hd hp hp (by omega) hk e).2; omega
  · have := (rot_inj hd ⟨h1, by omega⟩ hp hq hk e).1; omega
theorem isum_set {l : List Int} {m : Nat} {f : Nat → Int} {y : Int} (hm : m < l.length) : ∀ n, n ≤ l.length → isum (fun i => (l.set m y).getD i 0 * f i) n = isum (fun i => l.getD i 0 * f i) n + if m < n then (y - l.getD m 0) * f m else 0
  | 0, _ => by simp [isum]
  | n + 1, hn => by
    simp only [isum, isum_set hm n (by omega)]
    by_cases c : m = n
    · subst c
      have : (l.set m y).getD m 0 = y := by simp [hm]
      rw [this, if_neg (by omega), if_pos (by omega), Int.sub_mul]; omega
    · have : (l.set m y).getD n 0 = l.getD n 0 := by simp [List.getElem?_set, c]
      rw [this]
      by_cases c2 : m < n
      · rw [if_pos c2, if_pos (by omega)]; omega
      · rw [if_neg c2, if_neg (by omega)]; omega
/-- A rotation of a code with one chip turned round is not found. -/
theorem find_turned {d : Int} (hd : smallD d) {p k m : Nat} (hp : 1 ≤ p ∧ p ≤ lenN d + 2) (hk : k < lenN d) (hm : m < lenN d) : FindR d ((rotL (codeL d p) k).set m (-(rotL (codeL d p) k).getD m 0)) (tup3 0 0 18) := by
  have hl := hd.len
  refine .inr ⟨fun p' h1 h2 q hq e => ?_, rfl⟩
  have hlen : (rotL (codeL d p) k).length = lenN d := by rw [rotL_length, codeL_length]
  have h3 := prod_rot (d := d) (by omega) p' p q k hq
  have h4 : isum (fun i => (rotL (codeL d p) k).getD i 0 * (rotL (codeL d p) k).getD i 0) (lenN d) = lenN d := by
    rw [isum_congr (g := fun _ => 1) _ (fun i hi => by
      rw [codeL_rot hi]
      have hm : (i + k) % lenN d < lenN d := Nat.mod_lt _ (by omega)
      rcases codeL_pm (p := p) hm with e | e <;> rw [e] <;> rfl), isum_ones]
  rw [e, isum_set (by omega) _ (by omega), if_pos hm, h4] at h3
  have h5 : (rotL (codeL d p) k).getD m 0 = 1 ∨ (rotL (codeL d p) k).getD m 0 = -1 := by
    rw [codeL_rot hm]; exact codeL_pm (Nat.mod_lt _ (by omega))
  have h6 : (-(rotL (codeL d p) k).getD m 0 - (rotL (codeL d p) k).getD m 0) * (rotL (codeL d p) k).getD m 0 = -2 := by rcases h5 with h | h <;> rw [h] <;> rfl
  rw [h6] at h3
  rcases three hd ⟨h1, h2⟩ hp (Nat.mod_lt (k + (lenN d - q)) (show 0 < lenN d by omega)) with ⟨_, _, h7⟩ | ⟨_, h7⟩ <;> omega

/-! ### The examples -/
def u5 : List Int := [1, 1, 1, 1, 1, 0, 0, 0, 1, 1, 0, 1, 1, 1, 0, 1, 0, 1, 0, 0, 0, 0, 1, 0, 0, 1, 0, 1, 1, 0, 0]
theorem bits51 : bitsL 5 1 = u5 := by decide +kernel
def v5 : List Int := runL [0, 2, 3, 4] [1, 1, 1, 1, 1] 31
section
variable {C : Ctx}
theorem Rotated_spec (hC : Has C T87) {v : AV} {l : List Int} {k : Nat} {h : Heap} (hl : RI h v l) (hn : l.length ≤ 100000) (hk : k ≤ 100000) : ACalls C 87 [v, .int .i64 (k : Nat)] h (fun r h' => GrwI h h' r (rotL l k)) := by
  have ll := hl.lt
  have pl : ∀ i, ((List.range i).map fun j => l.getD ((j + k) % l.length) 0).length = i := fun i => by simp
  have ps : ∀ i, ((List.range (i + 1)).map fun j => l.getD ((j + k) % l.length) 0) = ((List.range i).map fun j => l.getD ((j + k) % l.length) 0) ++ [l.getD ((i + k) % l.length) 0] := fun i => by simp [List.range_succ]
  (refine calls_intro (hC.body (by decide) tab87) (Nat.le_of_ble_eq_true rfl) ?_); (show wp C _ none B87.code _ _); (simp only [B87]); simp -implicitDefEqProofs (disch := first | assumption | decide | omega | (simp -implicitDefEqProofs only [wpD1] <;> omega) | (refine not_in_one ?_; first | omega | (simp -implicitDefEqProofs only [wpD1] <;> omega) | fail) | (simp -implicitDefEqProofs only [wpD2] <;> assumption) | ((repeat (first | exact HSub.refl _ | assumption | refine HSub.push ?_ _ | refine HSub.reserve ?_ _ | refine HSub.put ?_ (by omega) _)); done) | fail) only [↓wpPre, wpPost, wpPoly, Int.reduceToNat, Int.reducePow, Int.reduceMul, Int.reduceAdd, Int.reduceSub, Int.reduceNeg, Nat.reduceAdd, Nat.reduceMul, Nat.reducePow, Int.reduceLT, Int.reduceLE, Int.reduceEq, Nat.reduceEqDiff]
  refine wp_loopI (fun j t h' => ∃ i : Nat, GrwI h h' (t 5) ((List.range i).map fun j => l.getD ((j + k) % l.length) 0) ∧ t 0 = v ∧ t 1 = .int .i64 (k : Nat) ∧ t 6 = .int .i64 (i : Nat) ∧ i ≤ l.length ∧ j = l.length - i) (j0 := l.length)
    ⟨0, GrwI.nil h, rfl, rfl, rfl, by omega, rfl⟩ ?_
  rintro j t h' ⟨i, A, e0, e1, e6, hi, hj⟩
  have hl1 := hl.mono A.sub
  simp -implicitDefEqProofs (disch := first | assumption | decide | omega | (simp -implicitDefEqProofs only [wpD1] <;> omega) | (refine not_in_one ?_; first | omega | (simp -implicitDefEqProofs only [wpD1] <;> omega) | fail) | (simp -implicitDefEqProofs only [wpD2] <;> assumption) | ((repeat (first | exact HSub.refl _ | assumption | refine HSub.push ?_ _ | refine HSub.reserve ?_ _ | refine HSub.put ?_ (by omega) _)); done) | fail) only [↓wpPre, wpPost, wpPoly, Int.reduceToNat, Int.reducePow, Int.reduceMul, Int.reduceAdd, Int.reduceSub, Int.reduceNeg, Nat.reduceAdd, Nat.reduceMul, Nat.reducePow, Int.reduceLT, Int.reduceLE, Int.reduceEq, Nat.reduceEqDiff, e0, e6, hl1.len]
  refine Br.by (fun c => ?_) (fun c => ?_)
  · have hi' : i < l.length := by omega
    simp -implicitDefEqProofs (disch := first | assumption | decide | omega | (simp -implicitDefEqProofs only [wpD1] <;> omega) | (refine not_in_one ?_; first | omega | (simp -implicitDefEqProofs only [wpD1] <;> omega) | fail) | (simp -implicitDefEqProofs only [wpD2] <;> assumption) | ((repeat (first | exact HSub.refl _ | assumption | refine HSub.push ?_ _ | refine HSub.reserve ?_ _ | refine HSub.put ?_ (by omega) _)); done) | fail) only [↓wpPre, wpPost, wpPoly, Int.reduceToNat, Int.reducePow, Int.reduceMul, Int.reduceAdd, Int.reduceSub, Int.reduceNeg, Nat.reduceAdd, Nat.reduceMul, Nat.reducePow, Int.reduceLT, Int.reduceLE, Int.reduceEq, Nat.reduceEqDiff, e0, e1, e6, hl1.len]
    refine ACallsK.eq (Turn_spec (hC.sub (T' := T23) (by decide)) (by unfold In64; omega) (by omega)) ?_
    have em : ((i : Int) + k) % (l.length : Int) = (((i + k) % l.length : Nat) : Int) := by rw [← Int.natCast_add]; exact (Int.natCast_emod _ _).symm
    have hm : (i + k) % l.length < l.length := Nat.mod_lt _ (by omega)
    have pli := pl i
    have psi := ps i
    have A2 := A.snoc (x := l.getD ((i + k) % l.length) 0) (HSub.push1 h' (.cells [.int .i64 (l.getD ((i + k) % l.length) 0)] true 0)) (by omega)
    rw [← psi, pli] at A2
    simp -implicitDefEqProofs (disch := first | assumption | decide | omega | (simp -implicitDefEqProofs only [wpD1] <;> omega) | (refine not_in_one ?_; first | omega | (simp -implicitDefEqProofs only [wpD1] <;> omega) | fail) | (simp -implicitDefEqProofs only [wpD2] <;> assumption) | ((repeat (first | exact HSub.refl _ | assumption | refine HSub.push ?_ _ | refine HSub.reserve ?_ _ | refine HSub.put ?_ (by omega) _)); done) | fail) only [↓wpPre, wpPost, wpPoly, Int.reduceToNat, Int.reducePow, Int.reduceMul, Int.reduceAdd, Int.reduceSub, Int.reduceNeg, Nat.reduceAdd, Nat.reduceMul, Nat.reducePow, Int.reduceLT, Int.reduceLE, Int.reduceEq, Nat.reduceEqDiff, e0, e1, e6, em, hl1.idx, hl1.load, cont_slice, contB_one, A.app, pli, ← psi]
    exact ⟨_, ⟨i + 1, A2, by simp, by omega, rfl⟩, by omega⟩
  · have ei : i = l.length := by omega
    rw [ei] at A
    simp -implicitDefEqProofs (disch := first | assumption | decide | omega | (simp -implicitDefEqProofs only [wpD1] <;> omega) | (refine not_in_one ?_; first | omega | (simp -implicitDefEqProofs only [wpD1] <;> omega) | fail) | (simp -implicitDefEqProofs only [wpD2] <;> assumption) | ((repeat (first | exact HSub.refl _ | assumption | refine HSub.push ?_ _ | refine HSub.reserve ?_ _ | refine HSub.put ?_ (by omega) _)); done) | fail) only [↓wpPre, wpPost, wpPoly, Int.reduceToNat, Int.reducePow, Int.reduceMul, Int.reduceAdd, Int.reduceSub, Int.reduceNeg, Nat.reduceAdd, Nat.reduceMul, Nat.reducePow, Int.reduceLT, Int.reduceLE, Int.reduceEq, Nat.reduceEqDiff]
    exact A
theorem Degree_spec (hC : Has C T88) {x : Int} {h : Heap} (hx : In64 x) : ACalls C 88 [.int .i64 x] h (fun r h' => r = .int .i64 (5 + x % 3) ∧ h' = h) := by
  have h1 := Int.emod_nonneg x (show (3 : Int) ≠ 0 by decide)
  have h2 := Int.emod_lt_of_pos x (show (0 : Int) < 3 by decide)
  (refine calls_intro (hC.body (by decide) tab88) (Nat.le_of_ble_eq_true rfl) ?_); (show wp C _ none B88.code _ _); (simp only [B88]); simp -implicitDefEqProofs (disch := first | assumption | decide | omega | (simp -implicitDefEqProofs only [wpD1] <;> omega) | (refine not_in_one ?_; first | omega | (simp -implicitDefEqProofs only [wpD1] <;> omega) | fail) | (simp -implicitDefEqProofs only [wpD2] <;> assumption) | ((repeat (first | exact HSub.refl _ | assumption | refine HSub.push ?_ _ | refine HSub.reserve ?_ _ | refine HSub.put ?_ (by omega) _)); done) | fail) only [↓wpPre, wpPost, wpPoly, Int.reduceToNat, Int.reducePow, Int.reduceMul, Int.reduceAdd, Int.reduceSub, Int.reduceNeg, Nat.reduceAdd, Nat.reduceMul, Nat.reducePow, Int.reduceLT, Int.reduceLE, Int.reduceEq, Nat.reduceEqDiff]
  refine ACallsK.eq (Turn_spec (hC.sub (T' := T23) (by decide)) hx (by decide)) ?_
  simp -implicitDefEqProofs (disch := first | assumption | decide | omega | (simp -implicitDefEqProofs only [wpD1] <;> omega) | (refine not_in_one ?_; first | omega | (simp -implicitDefEqProofs only [wpD1] <;> omega) | fail) | (simp -implicitDefEqProofs only [wpD2] <;> assumption) | ((repeat (first | exact HSub.refl _ | assumption | refine HSub.push ?_ _ | refine HSub.reserve ?_ _ | refine HSub.put ?_ (by omega) _)); done) | fail) only [↓wpPre, wpPost, wpPoly, Int.reduceToNat, Int.reducePow, Int.reduceMul, Int.reduceAdd, Int.reduceSub, Int.reduceNeg, Nat.reduceAdd, Nat.reduceMul, Nat.reducePow, Int.reduceLT, Int.reduceLE, Int.reduceEq, Nat.reduceEqDiff]
end
end Go.Ae

/- The examples of layer 8, by contracts. -/
set_option linter.unusedSimpArgs false
set_option linter.unusedVariables false
namespace Go.Ae
theorem kb1 : (bitsL 5 1).take 10 = [1, 1, 1, 1, 1, 0, 0, 0, 1, 1] := by rw [bits51]; rfl
theorem kb2 : (bitsL 5 2).take 10 = [1, 1, 1, 1, 1, 0, 1, 1, 1, 0] := by decide +kernel
theorem kc1 : (codeL 5 1).take 5 = [-1, -1, -1, -1, -1] := by decide +kernel
theorem kc3 : (codeL 5 3).take 5 = [1, 1, 1, 1, 1] := by decide +kernel
theorem ks1 : sumE 5 1 = tup2 (-1) 0 := by
  have h : (codeL 5 1).sum = -1 := by decide +kernel
  have h0 : codeErr 5 1 = 0 := by decide
  unfold sumE; rw [if_pos h0, h]
theorem some1 : ∀ p : Nat, 1 ≤ p → p ≤ 33 → ∃ i, i < 31 ∧ codeB 5 p i = 1 := by
  have h : ((List.range 34).all fun p => p == 0 || (List.range 31).any fun i => codeB 5 (p : Nat) i == 1) = true := by decide +kernel
  intro p h1 h2
  have := List.all_eq_true.1 h p (List.mem_range.2 (by omega))
  rw [Bool.or_eq_true] at this
  rcases this with h3 | h3
  · have : p = 0 := by simpa using h3
    omega
  · obtain ⟨i, hi, h4⟩ := List.any_eq_true.1 h3
    exact ⟨i, List.mem_range.1 hi, by simpa using h4⟩
def ones31 : List Int := List.replicate 31 1
theorem len5 : lenN 5 = 31 := by decide
theorem find_ones : FindR 5 ones31 (tup3 0 0 18) := by
  refine .inr ⟨fun p h1 h2 q hq e => ?_, rfl⟩
  rw [len5] at h2 hq
  obtain ⟨i, hi, hb⟩ := some1 p h1 h2
  have hj : (i + (31 - q)) % 31 < lenN 5 := by rw [len5]; exact Nat.mod_lt _ (by decide)
  have h3 := codeL_rot (d := 5) (p := p) (k := q) hj
  rw [e, len5, Nat.mod_add_mod, show i + (31 - q) + q = i + 31 by omega, Nat.add_mod_right, Nat.mod_eq_of_lt hi, codeL_get (by rw [len5]; exact hi), hb] at h3
  rw [len5] at hj
  have h4 : ones31.getD ((i + (31 - q)) % 31) 0 = 1 := by
    unfold ones31
    rw [List.getD_eq_getElem?_getD, List.getElem?_replicate, if_pos hj]; rfl
  rw [h4] at h3
  exact absurd h3 (by decide)
theorem rot_ones : rotL ones31 0 = ones31 := by decide
theorem findErr_rot {d : Int} (hd : smallD d) {p k : Nat} : findErr d (rotL (codeL d p) k) = 0 := by
  have hl := hd.len
  unfold findErr
  rw [if_pos hl.1, if_neg]
  rintro (h | h)
  · exact h (by rw [rotL_length, codeL_length])
  · obtain ⟨x, hx, hb⟩ := List.any_eq_true.1 h
    obtain ⟨i, hi, rfl⟩ := List.mem_map.1 hx
    rw [List.mem_range, codeL_length] at hi
    have hm : (i + k) % (codeL d p).length < lenN d := by rw [codeL_length]; exact Nat.mod_lt _ (by omega)
    have := codeL_pm (p := p) hm
    simp only [badC, decide_eq_true_eq] at hb
    omega
theorem per1 : IsPeriod [0, 1] [1, 0, 0] 7 := ⟨by decide, by decide, fun j h1 h2 => by
  rcases (show j = 1 ∨ j = 2 ∨ j = 3 ∨ j = 4 ∨ j = 5 ∨ j = 6 by omega) with rfl | rfl | rfl | rfl | rfl | rfl <;> decide⟩
theorem per2 : IsPeriod [0, 1] [0, 0, 0] 1 := ⟨by decide, by decide, fun j h1 h2 => by omega⟩
theorem per3 : IsPeriod [0] [1, 0] 2 := ⟨by decide, by decide, fun j h1 h2 => by
  have : j = 1 := by omega
  subst this; decide⟩
theorem lenE10 : lenE 10 = tup2 1023 0 := by unfold lenE; rw [if_pos (by decide), show lenN 10 = 1023 by decide]; rfl
theorem lenE8 : lenE 8 = tup2 0 2 := by unfold lenE; rw [if_neg (by decide)]
section
variable {C : Ctx}
theorem lit2 {h : Heap} {a b : List Int} : RI ((h.push (.cells (ints a) true 0)).push (.cells (ints b) true 0)) (.slice h.size 0 a.length (.known a.length)) a ↔ a.length < 9223372036854775808 :=
  ⟨fun H => H.lt, fun hl => RI.known ((get_push_lt (by simp)).trans (get_push_eq rfl)) ⟨rfl, hl⟩ (Nat.le_refl _)⟩
theorem Per_lit (hC : Has C T83) {n : Int} {a b : List Int} {K : Nat} {h : Heap} (hl : a.length < 9223372036854775808 ∧ b.length < 9223372036854775808) (e : regErr n a b = 0) (hK : IsPeriod a b K) (hK2 : K ≤ 65536) :
    ACalls C 83 [.int .i64 n, .slice h.size 0 a.length (.known a.length), .slice (h.size + 1) 0 b.length (.known b.length)] ((h.push (.cells (ints a) true 0)).push (.cells (ints b) true 0)) (fun r h' => r = tup2 K 0 ∧ HSub h h') := by
  refine (Period_spec hC (lit2.2 hl.1) (RI.known (l := b) (get_push_eq rfl) ⟨rfl, hl.2⟩ (Nat.le_refl _)) (fun _ => hK) hK2).mono ?_
  rintro r h' ⟨rfl, s⟩
  exact ⟨by rw [if_pos e], ((HSub.push1 _ _).push _).trans s⟩
set_option maxRecDepth 100000 in
set_option maxHeartbeats 4000000 in
theorem known08_spec (hC : Has C T65) {h : Heap} : ACalls C 65 [] h (fun r h' => r = .bool true ∧ HSub h h') := by
  have i5 : In64 5 := by unfold In64; omega
  have i1 : In64 1 := by unfold In64; omega
  have i2 : In64 2 := by unfold In64; omega
  have sd : smallD 5 := .inl rfl
  have hB : ∀ {w : Int} {h : Heap}, (w = 1 ∨ w = 2) → ACalls C 74 [.int .i64 5, .int .i64 w] h (fun r h' => ∃ v, r = lstErr v 0 ∧ HSub h h' ∧ RI h' v (bitsL 5 w)) := by
    intro w h hw
    have e : tapsErr 5 w = 0 := by unfold tapsErr; rw [if_pos ⟨by decide, hw⟩]
    refine (Bits_spec (hC.sub (T' := T74) (by decide)) i5 (by unfold In64; omega)).mono ?_
    rintro r h' ⟨v, a1, a2, a3, _⟩
    rw [e, if_pos rfl] at a3
    exact ⟨v, by rw [a1, e], a2, a3⟩
  have hCo : ∀ {p : Int} {h : Heap}, 1 ≤ p → p ≤ 33 → ACalls C 76 [.int .i64 5, .int .i64 p] h (fun r h' => ∃ v, r = lstErr v 0 ∧ HSub h h' ∧ RI h' v (codeL 5 p)) := by
    intro p h h1 h2
    have e : codeErr 5 p = 0 := by unfold codeErr; rw [if_pos ⟨by decide, h1, by rw [len5]; omega⟩]
    refine (Code_spec (hC.sub (T' := T76) (by decide)) i5 (by unfold In64; omega)).mono ?_
    rintro r h' ⟨v, a1, a2, a3, _⟩
    rw [e, if_pos rfl] at a3
    exact ⟨v, by rw [a1, e], a2, a3⟩
  have hCe : ∀ {p : Int} {h : Heap}, In64 p → codeErr 5 p = 2 → ACalls C 76 [.int .i64 5, .int .i64 p] h (fun r h' => ∃ v, r = lstErr v 2 ∧ HSub h h') := by
    intro p h hp e
    refine (Code_spec (hC.sub (T' := T76) (by decide)) i5 hp).mono ?_
    rintro r h' ⟨v, a1, a2, _⟩
    exact ⟨v, by rw [a1, e], a2⟩
  have hF : ∀ {v : AV} {l : List Int} {h : Heap} {a b c : Int}, RI h v l → findErr 5 l = 0 → FindR 5 l (tup3 a b c) → ACalls C 85 [.int .i64 5, v] h (fun r h' => r = tup3 a b c ∧ HSub h h') := by
    intro v l h a b c hv e hr
    refine (Find_spec (hC.sub (T' := T85) (by decide)) i5 hv hr).mono ?_
    rintro r h' ⟨rfl, s⟩
    exact ⟨by rw [if_pos e], s⟩
  have lb : ∀ w, (bitsL 5 w).length = 31 := fun w => by rw [bitsL_length, len5]
  have lc : ∀ p, (codeL 5 p).length = 31 := fun p => by rw [codeL_length, len5]
  have F7 := find_rot sd (p := 7) (k := 12) (by rw [len5]; omega) (by rw [len5]; omega)
  have E7 := findErr_rot sd (p := 7) (k := 12)
  have EO : findErr 5 ones31 = 0 := by decide
  have FN := FindR.exists 5 []
  obtain ⟨na, nb, nc, FN⟩ := FN
  have EN : findErr 5 [] = 3 := by decide
  have SN := fun h => Find_spec (h := h) (hC.sub (T' := T85) (by decide)) i5 (RI.nil) FN
  rw [EN, if_neg (by decide)] at SN
  have T3 := fun h => Taps_spec (d := 5) (w := 3) (h := h) (hC.sub (T' := T72) (by decide)) i5 (by unfold In64; omega)
  have eT3 : tapsErr 5 3 = 2 := by decide
  rw [eT3] at T3
  have S1 := fun h => Sum_spec (d := 5) (p := 1) (h := h) (hC.sub (T' := T78) (by decide)) i5 i1
  rw [ks1] at S1
  (refine calls_intro (hC.body (by decide) tab65) (Nat.le_of_ble_eq_true rfl) ?_); (show wp C _ none B65.code _ _); (simp only [B65]); simp -implicitDefEqProofs (disch := first | assumption | decide | omega | (simp -implicitDefEqProofs only [wpD1] <;> omega) | (refine not_in_one ?_; first | omega | (simp -implicitDefEqProofs only [wpD1] <;> omega) | fail) | (simp -implicitDefEqProofs only [wpD2] <;> assumption) | ((repeat (first | exact HSub.refl _ | assumption | refine HSub.push ?_ _ | refine HSub.reserve ?_ _ | refine HSub.put ?_ (by omega) _)); done) | fail) only [↓wpPre, wpPost, wpPoly, Int.reduceToNat, Int.reducePow, Int.reduceMul, Int.reduceAdd, Int.reduceSub, Int.reduceNeg, Nat.reduceAdd, Nat.reduceMul, Nat.reducePow, Int.reduceLT, Int.reduceLE, Int.reduceEq, Nat.reduceEqDiff]
  refine ACallsK.eq2 (Length_spec (hC.sub (T' := T70) (by decide)) (d := 10) (by unfold In64; omega)) lenE10 ?_
  simp -implicitDefEqProofs (disch := first | assumption | decide | omega | (simp -implicitDefEqProofs only [wpD1] <;> omega) | (refine not_in_one ?_; first | omega | (simp -implicitDefEqProofs only [wpD1] <;> omega) | fail) | (simp -implicitDefEqProofs only [wpD2] <;> assumption) | ((repeat (first | exact HSub.refl _ | assumption | refine HSub.push ?_ _ | refine HSub.reserve ?_ _ | refine HSub.put ?_ (by omega) _)); done) | fail) only [↓wpPre, wpPost, wpPoly, Int.reduceToNat, Int.reducePow, Int.reduceMul, Int.reduceAdd, Int.reduceSub, Int.reduceNeg, Nat.reduceAdd, Nat.reduceMul, Nat.reducePow, Int.reduceLT, Int.reduceLE, Int.reduceEq, Nat.reduceEqDiff, tup2]
  refine ACallsK.eq2 (Length_spec (hC.sub (T' := T70) (by decide)) (d := 8) (by unfold In64; omega)) lenE8 ?_
  simp -implicitDefEqProofs (disch := first | assumption | decide | omega | (simp -implicitDefEqProofs only [wpD1] <;> omega) | (refine not_in_one ?_; first | omega | (simp -implicitDefEqProofs only [wpD1] <;> omega) | fail) | (simp -implicitDefEqProofs only [wpD2] <;> assumption) | ((repeat (first | exact HSub.refl _ | assumption | refine HSub.push ?_ _ | refine HSub.reserve ?_ _ | refine HSub.put ?_ (by omega) _)); done) | fail) only [↓wpPre, wpPost, wpPoly, Int.reduceToNat, Int.reducePow, Int.reduceMul, Int.reduceAdd, Int.reduceSub, Int.reduceNeg, Nat.reduceAdd, Nat.reduceMul, Nat.reducePow, Int.reduceLT, Int.reduceLE, Int.reduceEq, Nat.reduceEqDiff, tup2]
  refine ACallsK.of (Per_lit (hC.sub (T' := T83) (by decide)) (a := [0, 1]) (b := [1, 0, 0]) (by decide) (by decide) per1 (by decide)) ?_
  rintro r h1 ⟨rfl, s1⟩
  simp -implicitDefEqProofs (disch := first | assumption | decide | omega | (simp -implicitDefEqProofs only [wpD1] <;> omega) | (refine not_in_one ?_; first | omega | (simp -implicitDefEqProofs only [wpD1] <;> omega) | fail) | (simp -implicitDefEqProofs only [wpD2] <;> assumption) | ((repeat (first | exact HSub.refl _ | assumption | refine HSub.push ?_ _ | refine HSub.reserve ?_ _ | refine HSub.put ?_ (by omega) _)); done) | fail) only [↓wpPre, wpPost, wpPoly, Int.reduceToNat, Int.reducePow, Int.reduceMul, Int.reduceAdd, Int.reduceSub, Int.reduceNeg, Nat.reduceAdd, Nat.reduceMul, Nat.reducePow, Int.reduceLT, Int.reduceLE, Int.reduceEq, Nat.reduceEqDiff, tup2]
  refine ACallsK.of (Per_lit (hC.sub (T' := T83) (by decide)) (a := [0, 1]) (b := [0, 0, 0]) (by decide) (by decide) per2 (by decide)) ?_
  rintro r h2 ⟨rfl, s2⟩
  simp -implicitDefEqProofs (disch := first | assumption | decide | omega | (simp -implicitDefEqProofs only [wpD1] <;> omega) | (refine not_in_one ?_; first | omega | (simp -implicitDefEqProofs only [wpD1] <;> omega) | fail) | (simp -implicitDefEqProofs only [wpD2] <;> assumption) | ((repeat (first | exact HSub.refl _ | assumption | refine HSub.push ?_ _ | refine HSub.reserve ?_ _ | refine HSub.put ?_ (by omega) _)); done) | fail) only [↓wpPre, wpPost, wpPoly, Int.reduceToNat, Int.reducePow, Int.reduceMul, Int.reduceAdd, Int.reduceSub, Int.reduceNeg, Nat.reduceAdd, Nat.reduceMul, Nat.reducePow, Int.reduceLT, Int.reduceLE, Int.reduceEq, Nat.reduceEqDiff, tup2]
  refine ACallsK.of (Per_lit (hC.sub (T' := T83) (by decide)) (a := [0]) (b := [1, 0]) (by decide) (by decide) per3 (by decide)) ?_
  rintro r h3 ⟨rfl, s3⟩
  have t3 := (s1.trans s2).trans s3
  simp -implicitDefEqProofs (disch := first | assumption | decide | omega | (simp -implicitDefEqProofs only [wpD1] <;> omega) | (refine not_in_one ?_; first | omega | (simp -implicitDefEqProofs only [wpD1] <;> omega) | fail) | (simp -implicitDefEqProofs only [wpD2] <;> assumption) | ((repeat (first | exact HSub.refl _ | assumption | refine HSub.push ?_ _ | refine HSub.reserve ?_ _ | refine HSub.put ?_ (by omega) _)); done) | fail) only [↓wpPre, wpPost, wpPoly, Int.reduceToNat, Int.reducePow, Int.reduceMul, Int.reduceAdd, Int.reduceSub, Int.reduceNeg, Nat.reduceAdd, Nat.reduceMul, Nat.reducePow, Int.reduceLT, Int.reduceLE, Int.reduceEq, Nat.reduceEqDiff, tup2]
  refine ACallsK.of (hB (w := 1) (.inl rfl)) ?_
  rintro r h4 ⟨v4, rfl, s4, R4⟩
  simp -implicitDefEqProofs (disch := first | assumption | decide | omega | (simp -implicitDefEqProofs only [wpD1] <;> omega) | (refine not_in_one ?_; first | omega | (simp -implicitDefEqProofs only [wpD1] <;> omega) | fail) | (simp -implicitDefEqProofs only [wpD2] <;> assumption) | ((repeat (first | exact HSub.refl _ | assumption | refine HSub.push ?_ _ | refine HSub.reserve ?_ _ | refine HSub.put ?_ (by omega) _)); done) | fail) only [↓wpPre, wpPost, wpPoly, Int.reduceToNat, Int.reducePow, Int.reduceMul, Int.reduceAdd, Int.reduceSub, Int.reduceNeg, Nat.reduceAdd, Nat.reduceMul, Nat.reducePow, Int.reduceLT, Int.reduceLE, Int.reduceEq, Nat.reduceEqDiff, lstErr]
  refine ACallsK.of (hB (w := 2) (.inr rfl)) ?_
  rintro r h5 ⟨v5, rfl, s5, R5⟩
  have R4 := R4.mono s5
  have t5 := (t3.trans s4).trans s5
  have P4 := R4.part_b (k2 := .i64) (b := 10) (by rw [lb]; omega)
  obtain ⟨w4, e4, Q4⟩ := P4
  have P5 := R5.part_b (k2 := .i64) (b := 10) (by rw [lb]; omega)
  obtain ⟨w5, e5, Q5⟩ := P5
  rw [show (10 : Int).toNat = 10 from rfl, kb1] at Q4
  rw [show (10 : Int).toNat = 10 from rfl, kb2] at Q5
  simp -implicitDefEqProofs (disch := first | assumption | decide | omega | (simp -implicitDefEqProofs only [wpD1] <;> omega) | (refine not_in_one ?_; first | omega | (simp -implicitDefEqProofs only [wpD1] <;> omega) | fail) | (simp -implicitDefEqProofs only [wpD2] <;> assumption) | ((repeat (first | exact HSub.refl _ | assumption | refine HSub.push ?_ _ | refine HSub.reserve ?_ _ | refine HSub.put ?_ (by omega) _)); done) | fail) only [↓wpPre, wpPost, wpPoly, Int.reduceToNat, Int.reducePow, Int.reduceMul, Int.reduceAdd, Int.reduceSub, Int.reduceNeg, Nat.reduceAdd, Nat.reduceMul, Nat.reducePow, Int.reduceLT, Int.reduceLE, Int.reduceEq, Nat.reduceEqDiff, lstErr, R4.len, R5.len, lb, e4]
  refine ACallsK.eq2 (Equal_spec (hC.sub (T' := T12) (by decide)) (Q4.mono (HSub.push1 _ _)) (RI.known (l := [1, 1, 1, 1, 1, 0, 0, 0, 1, 1]) (get_push_eq rfl) ⟨rfl, by decide⟩ (by decide))) (show AV.bool (decide _) = .bool true by simp) ?_
  simp -implicitDefEqProofs (disch := first | assumption | decide | omega | (simp -implicitDefEqProofs only [wpD1] <;> omega) | (refine not_in_one ?_; first | omega | (simp -implicitDefEqProofs only [wpD1] <;> omega) | fail) | (simp -implicitDefEqProofs only [wpD2] <;> assumption) | ((repeat (first | exact HSub.refl _ | assumption | refine HSub.push ?_ _ | refine HSub.reserve ?_ _ | refine HSub.put ?_ (by omega) _)); done) | fail) only [↓wpPre, wpPost, wpPoly, Int.reduceToNat, Int.reducePow, Int.reduceMul, Int.reduceAdd, Int.reduceSub, Int.reduceNeg, Nat.reduceAdd, Nat.reduceMul, Nat.reducePow, Int.reduceLT, Int.reduceLE, Int.reduceEq, Nat.reduceEqDiff, e5]
  refine ACallsK.eq2 (Equal_spec (hC.sub (T' := T12) (by decide)) (Q5.mono ((HSub.push1 _ _).push _)) (RI.known (l := [1, 1, 1, 1, 1, 0, 1, 1, 1, 0]) (get_push_eq rfl) ⟨rfl, by decide⟩ (by decide))) (show AV.bool (decide _) = .bool true by simp) ?_
  simp -implicitDefEqProofs (disch := first | assumption | decide | omega | (simp -implicitDefEqProofs only [wpD1] <;> omega) | (refine not_in_one ?_; first | omega | (simp -implicitDefEqProofs only [wpD1] <;> omega) | fail) | (simp -implicitDefEqProofs only [wpD2] <;> assumption) | ((repeat (first | exact HSub.refl _ | assumption | refine HSub.push ?_ _ | refine HSub.reserve ?_ _ | refine HSub.put ?_ (by omega) _)); done) | fail) only [↓wpPre, wpPost, wpPoly, Int.reduceToNat, Int.reducePow, Int.reduceMul, Int.reduceAdd, Int.reduceSub, Int.reduceNeg, Nat.reduceAdd, Nat.reduceMul, Nat.reducePow, Int.reduceLT, Int.reduceLE, Int.reduceEq, Nat.reduceEqDiff]
  refine ACallsK.of (hCo (p := 1) (by decide) (by decide)) ?_
  rintro r h6 ⟨v6, rfl, s6, R6⟩
  simp -implicitDefEqProofs (disch := first | assumption | decide | omega | (simp -implicitDefEqProofs only [wpD1] <;> omega) | (refine not_in_one ?_; first | omega | (simp -implicitDefEqProofs only [wpD1] <;> omega) | fail) | (simp -implicitDefEqProofs only [wpD2] <;> assumption) | ((repeat (first | exact HSub.refl _ | assumption | refine HSub.push ?_ _ | refine HSub.reserve ?_ _ | refine HSub.put ?_ (by omega) _)); done) | fail) only [↓wpPre, wpPost, wpPoly, Int.reduceToNat, Int.reducePow, Int.reduceMul, Int.reduceAdd, Int.reduceSub, Int.reduceNeg, Nat.reduceAdd, Nat.reduceMul, Nat.reducePow, Int.reduceLT, Int.reduceLE, Int.reduceEq, Nat.reduceEqDiff, lstErr]
  refine ACallsK.of (hCo (p := 3) (by decide) (by decide)) ?_
  rintro r h7 ⟨v7, rfl, s7, R7⟩
  have R6 := R6.mono s7
  have t7 := (((t5.push _).push _).trans s6).trans s7
  have P6 := R6.part_b (k2 := .i64) (b := 5) (by rw [lc]; omega)
  obtain ⟨w6, e6, Q6⟩ := P6
  have P7 := R7.part_b (k2 := .i64) (b := 5) (by rw [lc]; omega)
  obtain ⟨w7, e7, Q7⟩ := P7
  rw [show (5 : Int).toNat = 5 from rfl, kc1] at Q6
  rw [show (5 : Int).toNat = 5 from rfl, kc3] at Q7
  simp -implicitDefEqProofs (disch := first | assumption | decide | omega | (simp -implicitDefEqProofs only [wpD1] <;> omega) | (refine not_in_one ?_; first | omega | (simp -implicitDefEqProofs only [wpD1] <;> omega) | fail) | (simp -implicitDefEqProofs only [wpD2] <;> assumption) | ((repeat (first | exact HSub.refl _ | assumption | refine HSub.push ?_ _ | refine HSub.reserve ?_ _ | refine HSub.put ?_ (by omega) _)); done) | fail) only [↓wpPre, wpPost, wpPoly, Int.reduceToNat, Int.reducePow, Int.reduceMul, Int.reduceAdd, Int.reduceSub, Int.reduceNeg, Nat.reduceAdd, Nat.reduceMul, Nat.reducePow, Int.reduceLT, Int.reduceLE, Int.reduceEq, Nat.reduceEqDiff, lstErr, R6.len, R7.len, lc, e6]
  refine ACallsK.eq2 (Equal_spec (hC.sub (T' := T12) (by decide)) (Q6.mono (HSub.push1 _ _)) (RI.known (l := [-1, -1, -1, -1, -1]) (get_push_eq rfl) ⟨rfl, by decide⟩ (by decide))) (show AV.bool (decide _) = .bool true by simp) ?_
  simp -implicitDefEqProofs (disch := first | assumption | decide | omega | (simp -implicitDefEqProofs only [wpD1] <;> omega) | (refine not_in_one ?_; first | omega | (simp -implicitDefEqProofs only [wpD1] <;> omega) | fail) | (simp -implicitDefEqProofs only [wpD2] <;> assumption) | ((repeat (first | exact HSub.refl _ | assumption | refine HSub.push ?_ _ | refine HSub.reserve ?_ _ | refine HSub.put ?_ (by omega) _)); done) | fail) only [↓wpPre, wpPost, wpPoly, Int.reduceToNat, Int.reducePow, Int.reduceMul, Int.reduceAdd, Int.reduceSub, Int.reduceNeg, Nat.reduceAdd, Nat.reduceMul, Nat.reducePow, Int.reduceLT, Int.reduceLE, Int.reduceEq, Nat.reduceEqDiff, e7]
  refine ACallsK.eq2 (Equal_spec (hC.sub (T' := T12) (by decide)) (Q7.mono ((HSub.push1 _ _).push _)) (RI.known (l := [1, 1, 1, 1, 1]) (get_push_eq rfl) ⟨rfl, by decide⟩ (by decide))) (show AV.bool (decide _) = .bool true by simp) ?_
  simp -implicitDefEqProofs (disch := first | assumption | decide | omega | (simp -implicitDefEqProofs only [wpD1] <;> omega) | (refine not_in_one ?_; first | omega | (simp -implicitDefEqProofs only [wpD1] <;> omega) | fail) | (simp -implicitDefEqProofs only [wpD2] <;> assumption) | ((repeat (first | exact HSub.refl _ | assumption | refine HSub.push ?_ _ | refine HSub.reserve ?_ _ | refine HSub.put ?_ (by omega) _)); done) | fail) only [↓wpPre, wpPost, wpPoly, Int.reduceToNat, Int.reducePow, Int.reduceMul, Int.reduceAdd, Int.reduceSub, Int.reduceNeg, Nat.reduceAdd, Nat.reduceMul, Nat.reducePow, Int.reduceLT, Int.reduceLE, Int.reduceEq, Nat.reduceEqDiff]
  refine ACallsK.of (S1 _) ?_
  rintro r h8 ⟨rfl, s8⟩
  simp -implicitDefEqProofs (disch := first | assumption | decide | omega | (simp -implicitDefEqProofs only [wpD1] <;> omega) | (refine not_in_one ?_; first | omega | (simp -implicitDefEqProofs only [wpD1] <;> omega) | fail) | (simp -implicitDefEqProofs only [wpD2] <;> assumption) | ((repeat (first | exact HSub.refl _ | assumption | refine HSub.push ?_ _ | refine HSub.reserve ?_ _ | refine HSub.put ?_ (by omega) _)); done) | fail) only [↓wpPre, wpPost, wpPoly, Int.reduceToNat, Int.reducePow, Int.reduceMul, Int.reduceAdd, Int.reduceSub, Int.reduceNeg, Nat.reduceAdd, Nat.reduceMul, Nat.reducePow, Int.reduceLT, Int.reduceLE, Int.reduceEq, Nat.reduceEqDiff, tup2]
  refine ACallsK.of (hCe (p := 34) (by unfold In64; omega) (by decide)) ?_
  rintro r h9 ⟨v9, rfl, s9⟩
  simp -implicitDefEqProofs (disch := first | assumption | decide | omega | (simp -implicitDefEqProofs only [wpD1] <;> omega) | (refine not_in_one ?_; first | omega | (simp -implicitDefEqProofs only [wpD1] <;> omega) | fail) | (simp -implicitDefEqProofs only [wpD2] <;> assumption) | ((repeat (first | exact HSub.refl _ | assumption | refine HSub.push ?_ _ | refine HSub.reserve ?_ _ | refine HSub.put ?_ (by omega) _)); done) | fail) only [↓wpPre, wpPost, wpPoly, Int.reduceToNat, Int.reducePow, Int.reduceMul, Int.reduceAdd, Int.reduceSub, Int.reduceNeg, Nat.reduceAdd, Nat.reduceMul, Nat.reducePow, Int.reduceLT, Int.reduceLE, Int.reduceEq, Nat.reduceEqDiff, lstErr]
  refine ACallsK.of (hCe (p := 0) (by unfold In64; omega) (by decide)) ?_
  rintro r h10 ⟨v10, rfl, s10⟩
  simp -implicitDefEqProofs (disch := first | assumption | decide | omega | (simp -implicitDefEqProofs only [wpD1] <;> omega) | (refine not_in_one ?_; first | omega | (simp -implicitDefEqProofs only [wpD1] <;> omega) | fail) | (simp -implicitDefEqProofs only [wpD2] <;> assumption) | ((repeat (first | exact HSub.refl _ | assumption | refine HSub.push ?_ _ | refine HSub.reserve ?_ _ | refine HSub.put ?_ (by omega) _)); done) | fail) only [↓wpPre, wpPost, wpPoly, Int.reduceToNat, Int.reducePow, Int.reduceMul, Int.reduceAdd, Int.reduceSub, Int.reduceNeg, Nat.reduceAdd, Nat.reduceMul, Nat.reducePow, Int.reduceLT, Int.reduceLE, Int.reduceEq, Nat.reduceEqDiff, lstErr]
  refine ACallsK.of (T3 _) ?_
  rintro r h11 ⟨v11, rfl, s11, _⟩
  have t11 := ((((t7.push _).push _).trans s8).trans s9).trans (s10.trans s11)
  simp -implicitDefEqProofs (disch := first | assumption | decide | omega | (simp -implicitDefEqProofs only [wpD1] <;> omega) | (refine not_in_one ?_; first | omega | (simp -implicitDefEqProofs only [wpD1] <;> omega) | fail) | (simp -implicitDefEqProofs only [wpD2] <;> assumption) | ((repeat (first | exact HSub.refl _ | assumption | refine HSub.push ?_ _ | refine HSub.reserve ?_ _ | refine HSub.put ?_ (by omega) _)); done) | fail) only [↓wpPre, wpPost, wpPoly, Int.reduceToNat, Int.reducePow, Int.reduceMul, Int.reduceAdd, Int.reduceSub, Int.reduceNeg, Nat.reduceAdd, Nat.reduceMul, Nat.reducePow, Int.reduceLT, Int.reduceLE, Int.reduceEq, Nat.reduceEqDiff, lstErr]
  refine ACallsK.of (hCo (p := 7) (by decide) (by decide)) ?_
  rintro r h12 ⟨v12, rfl, s12, R12⟩
  simp -implicitDefEqProofs (disch := first | assumption | decide | omega | (simp -implicitDefEqProofs only [wpD1] <;> omega) | (refine not_in_one ?_; first | omega | (simp -implicitDefEqProofs only [wpD1] <;> omega) | fail) | (simp -implicitDefEqProofs only [wpD2] <;> assumption) | ((repeat (first | exact HSub.refl _ | assumption | refine HSub.push ?_ _ | refine HSub.reserve ?_ _ | refine HSub.put ?_ (by omega) _)); done) | fail) only [↓wpPre, wpPost, wpPoly, Int.reduceToNat, Int.reducePow, Int.reduceMul, Int.reduceAdd, Int.reduceSub, Int.reduceNeg, Nat.reduceAdd, Nat.reduceMul, Nat.reducePow, Int.reduceLT, Int.reduceLE, Int.reduceEq, Nat.reduceEqDiff, lstErr, R12.len, lc]
  refine ACallsK.of (Rotated_spec (hC.sub (T' := T87) (by decide)) (k := 12) R12 (by rw [lc]; omega) (by decide)) ?_
  rintro r h13 A13
  have s13 := A13.sub
  have R13 := A13.ri
  simp -implicitDefEqProofs (disch := first | assumption | decide | omega | (simp -implicitDefEqProofs only [wpD1] <;> omega) | (refine not_in_one ?_; first | omega | (simp -implicitDefEqProofs only [wpD1] <;> omega) | fail) | (simp -implicitDefEqProofs only [wpD2] <;> assumption) | ((repeat (first | exact HSub.refl _ | assumption | refine HSub.push ?_ _ | refine HSub.reserve ?_ _ | refine HSub.put ?_ (by omega) _)); done) | fail) only [↓wpPre, wpPost, wpPoly, Int.reduceToNat, Int.reducePow, Int.reduceMul, Int.reduceAdd, Int.reduceSub, Int.reduceNeg, Nat.reduceAdd, Nat.reduceMul, Nat.reducePow, Int.reduceLT, Int.reduceLE, Int.reduceEq, Nat.reduceEqDiff]
  refine ACallsK.of (hF R13 E7 F7) ?_
  rintro r h14 ⟨rfl, s14⟩
  have t14 := ((t11.trans s12).trans s13).trans s14
  simp -implicitDefEqProofs (disch := first | assumption | decide | omega | (simp -implicitDefEqProofs only [wpD1] <;> omega) | (refine not_in_one ?_; first | omega | (simp -implicitDefEqProofs only [wpD1] <;> omega) | fail) | (simp -implicitDefEqProofs only [wpD2] <;> assumption) | ((repeat (first | exact HSub.refl _ | assumption | refine HSub.push ?_ _ | refine HSub.reserve ?_ _ | refine HSub.put ?_ (by omega) _)); done) | fail) only [↓wpPre, wpPost, wpPoly, Int.reduceToNat, Int.reducePow, Int.reduceMul, Int.reduceAdd, Int.reduceSub, Int.reduceNeg, Nat.reduceAdd, Nat.reduceMul, Nat.reducePow, Int.reduceLT, Int.reduceLE, Int.reduceEq, Nat.reduceEqDiff, tup3]
  refine ACallsK.of (Rotated_spec (hC.sub (T' := T87) (by decide)) (k := 0) (l := ones31) (RI.known (get_push_eq rfl) ⟨rfl, by decide⟩ (by decide)) (by decide) (by decide)) ?_
  rintro r h15 A15
  have s15 := A15.sub
  have R15 := A15.ri
  rw [rot_ones] at R15
  simp -implicitDefEqProofs (disch := first | assumption | decide | omega | (simp -implicitDefEqProofs only [wpD1] <;> omega) | (refine not_in_one ?_; first | omega | (simp -implicitDefEqProofs only [wpD1] <;> omega) | fail) | (simp -implicitDefEqProofs only [wpD2] <;> assumption) | ((repeat (first | exact HSub.refl _ | assumption | refine HSub.push ?_ _ | refine HSub.reserve ?_ _ | refine HSub.put ?_ (by omega) _)); done) | fail) only [↓wpPre, wpPost, wpPoly, Int.reduceToNat, Int.reducePow, Int.reduceMul, Int.reduceAdd, Int.reduceSub, Int.reduceNeg, Nat.reduceAdd, Nat.reduceMul, Nat.reducePow, Int.reduceLT, Int.reduceLE, Int.reduceEq, Nat.reduceEqDiff]
  refine ACallsK.of (hF R15 EO find_ones) ?_
  rintro r h16 ⟨rfl, s16⟩
  simp -implicitDefEqProofs (disch := first | assumption | decide | omega | (simp -implicitDefEqProofs only [wpD1] <;> omega) | (refine not_in_one ?_; first | omega | (simp -implicitDefEqProofs only [wpD1] <;> omega) | fail) | (simp -implicitDefEqProofs only [wpD2] <;> assumption) | ((repeat (first | exact HSub.refl _ | assumption | refine HSub.push ?_ _ | refine HSub.reserve ?_ _ | refine HSub.put ?_ (by omega) _)); done) | fail) only [↓wpPre, wpPost, wpPoly, Int.reduceToNat, Int.reducePow, Int.reduceMul, Int.reduceAdd, Int.reduceSub, Int.reduceNeg, Nat.reduceAdd, Nat.reduceMul, Nat.reducePow, Int.reduceLT, Int.reduceLE, Int.reduceEq, Nat.reduceEqDiff, tup3]
  refine ACallsK.of (SN _) ?_
  rintro r h17 ⟨rfl, s17⟩
  have t17 := (((t14.push _).trans s15).trans s16).trans s17
  simp -implicitDefEqProofs (disch := first | assumption | decide | omega | (simp -implicitDefEqProofs only [wpD1] <;> omega) | (refine not_in_one ?_; first | omega | (simp -implicitDefEqProofs only [wpD1] <;> omega) | fail) | (simp -implicitDefEqProofs only [wpD2] <;> assumption) | ((repeat (first | exact HSub.refl _ | assumption | refine HSub.push ?_ _ | refine HSub.reserve ?_ _ | refine HSub.put ?_ (by omega) _)); done) | fail) only [↓wpPre, wpPost, wpPoly, Int.reduceToNat, Int.reducePow, Int.reduceMul, Int.reduceAdd, Int.reduceSub, Int.reduceNeg, Nat.reduceAdd, Nat.reduceMul, Nat.reducePow, Int.reduceLT, Int.reduceLE, Int.reduceEq, Nat.reduceEqDiff, tup3]
  refine ACallsK.eq (awake08_spec (hC.sub (T' := T80) (by decide))) ?_
  simp -implicitDefEqProofs (disch := first | assumption | decide | omega | (simp -implicitDefEqProofs only [wpD1] <;> omega) | (refine not_in_one ?_; first | omega | (simp -implicitDefEqProofs only [wpD1] <;> omega) | fail) | (simp -implicitDefEqProofs only [wpD2] <;> assumption) | ((repeat (first | exact HSub.refl _ | assumption | refine HSub.push ?_ _ | refine HSub.reserve ?_ _ | refine HSub.put ?_ (by omega) _)); done) | fail) only [↓wpPre, wpPost, wpPoly, Int.reduceToNat, Int.reducePow, Int.reduceMul, Int.reduceAdd, Int.reduceSub, Int.reduceNeg, Nat.reduceAdd, Nat.reduceMul, Nat.reducePow, Int.reduceLT, Int.reduceLE, Int.reduceEq, Nat.reduceEqDiff]
  exact t17
end
end Go.Ae

/- The statements on examples, on three values and on finding rotations of layer 8. -/
set_option linter.unusedSimpArgs false
set_option linter.unusedVariables false
namespace Go.Ae
theorem isum_le {f : Nat → Int} (h : ∀ i, f i = 1 ∨ f i = -1) : ∀ n : Nat, -(n : Int) ≤ isum f n ∧ isum f n ≤ n
  | 0 => by simp [isum]
  | n + 1 => by
    have ih := isum_le h n
    have := h n
    simp only [isum]; omega
section
variable {C : Ctx}
theorem GoldKnown_law (hC : Has C T65) {h : Heap} : ACalls C 65 [] h (fun r _ => r = .bool true) := (known08_spec hC).mono fun _ _ q => q.1
theorem code_ok (hC : Has C T76) {d : Int} {p : Nat} {h : Heap} (hd : smallD d) (hp : 1 ≤ p ∧ p ≤ lenN d + 2) : ACalls C 76 [.int .i64 d, .int .i64 (p : Nat)] h (fun r h' => ∃ v, r = lstErr v 0 ∧ HSub h h' ∧ RI h' v (codeL d p)) := by
  have hl := hd.len
  have e := codeErr_ok hl.1 hp
  have hd5 : 5 ≤ d ∧ d ≤ 7 := by rcases hd with rfl | rfl | rfl <;> decide
  refine (Code_spec hC (by unfold In64; omega) (by unfold In64; omega)).mono ?_
  rintro r h' ⟨v, a1, a2, a3, _⟩
  rw [e, if_pos rfl] at a3
  exact ⟨v, by rw [a1, e], a2, a3⟩
theorem turn_nat {x : Int} {n : Nat} (hn : 0 < n) : ∃ k : Nat, x % (n : Int) = k ∧ k < n := by
  have h1 := Int.emod_nonneg x (show (n : Int) ≠ 0 by omega)
  have h2 := Int.emod_lt_of_pos x (show (0 : Int) < n by omega)
  exact ⟨(x % n).toNat, by omega, by omega⟩
set_option maxRecDepth 100000 in
set_option maxHeartbeats 4000000 in
theorem GoldThree_law (hC : Has C T68) {d0 p0 q0 k0 : Int} {h : Heap} (hd0 : In64 d0) (hp0 : In64 p0) (hq0 : In64 q0) (hk0 : In64 k0) : ACalls C 68 [.int .i64 d0, .int .i64 p0, .int .i64 q0, .int .i64 k0] h (fun r _ => r = .bool true) := by
  obtain ⟨d, hd⟩ : ∃ d, d = 5 + d0 % 3 := ⟨_, rfl⟩
  have sd : smallD d := by unfold smallD; omega
  have hl := sd.len
  have hN := lenN_eq hl.1
  have hd5 : 5 ≤ d ∧ d ≤ 7 := by omega
  obtain ⟨n, hn⟩ : ∃ n, n = lenN d := ⟨_, rfl⟩
  rw [← hn] at hN
  obtain ⟨p1, ep, hp⟩ := turn_nat (x := p0) (n := n + 2) (by omega)
  obtain ⟨q1, eq, hq⟩ := turn_nat (x := q0) (n := n + 2) (by omega)
  obtain ⟨k, ek, hk⟩ := turn_nat (x := k0) (n := n) (by omega)
  have D := fun h => Degree_spec (h := h) (hC.sub (T' := T88) (by decide)) hd0
  rw [← hd] at D
  have eL : lenE d = tup2 n 0 := by unfold lenE; rw [if_pos hl.1, hn]
  have Tp := fun h => Turn_spec (h := h) (n := (n : Int) + 2) (hC.sub (T' := T23) (by decide)) hp0 (by omega)
  have Tq := fun h => Turn_spec (h := h) (n := (n : Int) + 2) (hC.sub (T' := T23) (by decide)) hq0 (by omega)
  have Tk := fun h => Turn_spec (h := h) (n := (n : Int)) (hC.sub (T' := T23) (by decide)) hk0 (by omega)
  rw [show (n : Int) + 2 = ((n + 2 : Nat) : Int) by omega, ep] at Tp
  rw [show (n : Int) + 2 = ((n + 2 : Nat) : Int) by omega, eq] at Tq
  rw [ek] at Tk
  have cl : ∀ p, (codeL d p).length = n := fun p => by rw [codeL_length, hn]
  have f01 : ∀ i, (codeL d ((p1 + 1 : Nat) : Int)).getD (i % n) 0 * (codeL d ((q1 + 1 : Nat) : Int)).getD ((i + k) % n) 0 = 1 ∨ (codeL d ((p1 + 1 : Nat) : Int)).getD (i % n) 0 * (codeL d ((q1 + 1 : Nat) : Int)).getD ((i + k) % n) 0 = -1 := fun i => by
    have h1 := codeL_pm (d := d) (p := ((p1 + 1 : Nat) : Int)) (i := i % n) (by rw [← hn]; exact Nat.mod_lt _ (by omega))
    have h2 := codeL_pm (d := d) (p := ((q1 + 1 : Nat) : Int)) (i := (i + k) % n) (by rw [← hn]; exact Nat.mod_lt _ (by omega))
    rcases h1 with h1 | h1 <;> rcases h2 with h2 | h2 <;> rw [h1, h2] <;> simp
  have bS := isum_le f01
  have eS : isum (fun i => (codeL d ((p1 + 1 : Nat) : Int)).getD (i % n) 0 * (codeL d ((q1 + 1 : Nat) : Int)).getD ((i + k) % n) 0) n = prodS d (p1 + 1) (q1 + 1) k := by
    unfold prodS
    rw [← hn]
    exact isum_congr n fun i hi => by rw [Nat.mod_eq_of_lt hi]
  have H3 := three sd (p := p1 + 1) (q := q1 + 1) (k := k) (by omega) (by omega) (by omega)
  have e2 : ((n + 2 : Nat) : Int) = (n : Int) + 2 := by omega
  rw [e2] at Tp Tq
  have e1 : ((n + 1 : Nat) : Int) - 1 = n := by omega
  have ep1 : 1 + (p1 : Int) = ((p1 + 1 : Nat) : Int) := by omega
  have eq1 : 1 + (q1 : Int) = ((q1 + 1 : Nat) : Int) := by omega
  (refine calls_intro (hC.body (by decide) tab68) (Nat.le_of_ble_eq_true rfl) ?_); (show wp C _ none B68.code _ _); (simp only [B68]); simp -implicitDefEqProofs (disch := first | assumption | decide | omega | (simp -implicitDefEqProofs only [wpD1] <;> omega) | (refine not_in_one ?_; first | omega | (simp -implicitDefEqProofs only [wpD1] <;> omega) | fail) | (simp -implicitDefEqProofs only [wpD2] <;> assumption) | ((repeat (first | exact HSub.refl _ | assumption | refine HSub.push ?_ _ | refine HSub.reserve ?_ _ | refine HSub.put ?_ (by omega) _)); done) | fail) only [↓wpPre, wpPost, wpPoly, Int.reduceToNat, Int.reducePow, Int.reduceMul, Int.reduceAdd, Int.reduceSub, Int.reduceNeg, Nat.reduceAdd, Nat.reduceMul, Nat.reducePow, Int.reduceLT, Int.reduceLE, Int.reduceEq, Nat.reduceEqDiff]
  refine ACallsK.of (known08_spec (hC.sub (T' := T65) (by decide))) ?_
  rintro r h1 ⟨rfl, s1⟩
  simp -implicitDefEqProofs (disch := first | assumption | decide | omega | (simp -implicitDefEqProofs only [wpD1] <;> omega) | (refine not_in_one ?_; first | omega | (simp -implicitDefEqProofs only [wpD1] <;> omega) | fail) | (simp -implicitDefEqProofs only [wpD2] <;> assumption) | ((repeat (first | exact HSub.refl _ | assumption | refine HSub.push ?_ _ | refine HSub.reserve ?_ _ | refine HSub.put ?_ (by omega) _)); done) | fail) only [↓wpPre, wpPost, wpPoly, Int.reduceToNat, Int.reducePow, Int.reduceMul, Int.reduceAdd, Int.reduceSub, Int.reduceNeg, Nat.reduceAdd, Nat.reduceMul, Nat.reducePow, Int.reduceLT, Int.reduceLE, Int.reduceEq, Nat.reduceEqDiff]
  refine ACallsK.eq (D _) ?_
  simp -implicitDefEqProofs (disch := first | assumption | decide | omega | (simp -implicitDefEqProofs only [wpD1] <;> omega) | (refine not_in_one ?_; first | omega | (simp -implicitDefEqProofs only [wpD1] <;> omega) | fail) | (simp -implicitDefEqProofs only [wpD2] <;> assumption) | ((repeat (first | exact HSub.refl _ | assumption | refine HSub.push ?_ _ | refine HSub.reserve ?_ _ | refine HSub.put ?_ (by omega) _)); done) | fail) only [↓wpPre, wpPost, wpPoly, Int.reduceToNat, Int.reducePow, Int.reduceMul, Int.reduceAdd, Int.reduceSub, Int.reduceNeg, Nat.reduceAdd, Nat.reduceMul, Nat.reducePow, Int.reduceLT, Int.reduceLE, Int.reduceEq, Nat.reduceEqDiff, Int.one_mul, hN.2.2, e1]
  refine ACallsK.eq2 (Length_spec (hC.sub (T' := T70) (by decide)) (by unfold In64; omega)) eL ?_
  simp -implicitDefEqProofs (disch := first | assumption | decide | omega | (simp -implicitDefEqProofs only [wpD1] <;> omega) | (refine not_in_one ?_; first | omega | (simp -implicitDefEqProofs only [wpD1] <;> omega) | fail) | (simp -implicitDefEqProofs only [wpD2] <;> assumption) | ((repeat (first | exact HSub.refl _ | assumption | refine HSub.push ?_ _ | refine HSub.reserve ?_ _ | refine HSub.put ?_ (by omega) _)); done) | fail) only [↓wpPre, wpPost, wpPoly, Int.reduceToNat, Int.reducePow, Int.reduceMul, Int.reduceAdd, Int.reduceSub, Int.reduceNeg, Nat.reduceAdd, Nat.reduceMul, Nat.reducePow, Int.reduceLT, Int.reduceLE, Int.reduceEq, Nat.reduceEqDiff, tup2]
  refine ACallsK.eq (Tp _) ?_
  simp -implicitDefEqProofs (disch := first | assumption | decide | omega | (simp -implicitDefEqProofs only [wpD1] <;> omega) | (refine not_in_one ?_; first | omega | (simp -implicitDefEqProofs only [wpD1] <;> omega) | fail) | (simp -implicitDefEqProofs only [wpD2] <;> assumption) | ((repeat (first | exact HSub.refl _ | assumption | refine HSub.push ?_ _ | refine HSub.reserve ?_ _ | refine HSub.put ?_ (by omega) _)); done) | fail) only [↓wpPre, wpPost, wpPoly, Int.reduceToNat, Int.reducePow, Int.reduceMul, Int.reduceAdd, Int.reduceSub, Int.reduceNeg, Nat.reduceAdd, Nat.reduceMul, Nat.reducePow, Int.reduceLT, Int.reduceLE, Int.reduceEq, Nat.reduceEqDiff, ep1]
  refine ACallsK.eq (Tq _) ?_
  simp -implicitDefEqProofs (disch := first | assumption | decide | omega | (simp -implicitDefEqProofs only [wpD1] <;> omega) | (refine not_in_one ?_; first | omega | (simp -implicitDefEqProofs only [wpD1] <;> omega) | fail) | (simp -implicitDefEqProofs only [wpD2] <;> assumption) | ((repeat (first | exact HSub.refl _ | assumption | refine HSub.push ?_ _ | refine HSub.reserve ?_ _ | refine HSub.put ?_ (by omega) _)); done) | fail) only [↓wpPre, wpPost, wpPoly, Int.reduceToNat, Int.reducePow, Int.reduceMul, Int.reduceAdd, Int.reduceSub, Int.reduceNeg, Nat.reduceAdd, Nat.reduceMul, Nat.reducePow, Int.reduceLT, Int.reduceLE, Int.reduceEq, Nat.reduceEqDiff, eq1]
  refine ACallsK.eq (Tk _) ?_
  simp -implicitDefEqProofs (disch := first | assumption | decide | omega | (simp -implicitDefEqProofs only [wpD1] <;> omega) | (refine not_in_one ?_; first | omega | (simp -implicitDefEqProofs only [wpD1] <;> omega) | fail) | (simp -implicitDefEqProofs only [wpD2] <;> assumption) | ((repeat (first | exact HSub.refl _ | assumption | refine HSub.push ?_ _ | refine HSub.reserve ?_ _ | refine HSub.put ?_ (by omega) _)); done) | fail) only [↓wpPre, wpPost, wpPoly, Int.reduceToNat, Int.reducePow, Int.reduceMul, Int.reduceAdd, Int.reduceSub, Int.reduceNeg, Nat.reduceAdd, Nat.reduceMul, Nat.reducePow, Int.reduceLT, Int.reduceLE, Int.reduceEq, Nat.reduceEqDiff]
  refine ACallsK.of (code_ok (hC.sub (T' := T76) (by decide)) sd (p := p1 + 1) (by omega)) ?_
  rintro r h2 ⟨va, rfl, s2, Ra⟩
  simp -implicitDefEqProofs (disch := first | assumption | decide | omega | (simp -implicitDefEqProofs only [wpD1] <;> omega) | (refine not_in_one ?_; first | omega | (simp -implicitDefEqProofs only [wpD1] <;> omega) | fail) | (simp -implicitDefEqProofs only [wpD2] <;> assumption) | ((repeat (first | exact HSub.refl _ | assumption | refine HSub.push ?_ _ | refine HSub.reserve ?_ _ | refine HSub.put ?_ (by omega) _)); done) | fail) only [↓wpPre, wpPost, wpPoly, Int.reduceToNat, Int.reducePow, Int.reduceMul, Int.reduceAdd, Int.reduceSub, Int.reduceNeg, Nat.reduceAdd, Nat.reduceMul, Nat.reducePow, Int.reduceLT, Int.reduceLE, Int.reduceEq, Nat.reduceEqDiff, lstErr]
  refine ACallsK.of (code_ok (hC.sub (T' := T76) (by decide)) sd (p := q1 + 1) (by omega)) ?_
  rintro r h3 ⟨vb, rfl, s3, Rb⟩
  have Ra := Ra.mono s3
  simp -implicitDefEqProofs (disch := first | assumption | decide | omega | (simp -implicitDefEqProofs only [wpD1] <;> omega) | (refine not_in_one ?_; first | omega | (simp -implicitDefEqProofs only [wpD1] <;> omega) | fail) | (simp -implicitDefEqProofs only [wpD2] <;> assumption) | ((repeat (first | exact HSub.refl _ | assumption | refine HSub.push ?_ _ | refine HSub.reserve ?_ _ | refine HSub.put ?_ (by omega) _)); done) | fail) only [↓wpPre, wpPost, wpPoly, Int.reduceToNat, Int.reducePow, Int.reduceMul, Int.reduceAdd, Int.reduceSub, Int.reduceNeg, Nat.reduceAdd, Nat.reduceMul, Nat.reducePow, Int.reduceLT, Int.reduceLE, Int.reduceEq, Nat.reduceEqDiff, lstErr, Ra.len, Rb.len, cl]
  refine wp_loopI (fun j t h' => h' = h3 ∧ ∃ i : Nat, t 0 = .int .i64 d ∧ t 1 = .int .i64 ((p1 + 1 : Nat) : Int) ∧ t 2 = .int .i64 ((q1 + 1 : Nat) : Int) ∧ t 3 = .int .i64 (k : Nat) ∧ t 9 = .bool true ∧ t 10 = .int .i64 (n : Nat) ∧ t 13 = va ∧ t 14 = vb ∧
      t 16 = .int .i64 (isum (fun i => (codeL d ((p1 + 1 : Nat) : Int)).getD (i % n) 0 * (codeL d ((q1 + 1 : Nat) : Int)).getD ((i + k) % n) 0) i) ∧ t 17 = .int .i64 (i : Nat) ∧ i ≤ n ∧ j = n - i) (j0 := n)
    ⟨rfl, 0, rfl, rfl, rfl, rfl, rfl, rfl, rfl, rfl, rfl, rfl, by omega, rfl⟩ ?_
  rintro j t h4 ⟨hh, i, e0, e1, e2, e3, e9, e10, e13, e14, e16, e17, hi, hj⟩
  subst hh
  simp -implicitDefEqProofs (disch := first | assumption | decide | omega | (simp -implicitDefEqProofs only [wpD1] <;> omega) | (refine not_in_one ?_; first | omega | (simp -implicitDefEqProofs only [wpD1] <;> omega) | fail) | (simp -implicitDefEqProofs only [wpD2] <;> assumption) | ((repeat (first | exact HSub.refl _ | assumption | refine HSub.push ?_ _ | refine HSub.reserve ?_ _ | refine HSub.put ?_ (by omega) _)); done) | fail) only [↓wpPre, wpPost, wpPoly, Int.reduceToNat, Int.reducePow, Int.reduceMul, Int.reduceAdd, Int.reduceSub, Int.reduceNeg, Nat.reduceAdd, Nat.reduceMul, Nat.reducePow, Int.reduceLT, Int.reduceLE, Int.reduceEq, Nat.reduceEqDiff, e10, e17]
  refine Br.by (fun c => ?_) (fun c => ?_)
  · have hi' : i < n := by omega
    have ha := codeL_pm (d := d) (p := ((p1 + 1 : Nat) : Int)) (i := i) (by omega)
    have hb := codeL_pm (d := d) (p := ((q1 + 1 : Nat) : Int)) (i := i) (by omega)
    have hm : (i + k) % n < n := Nat.mod_lt _ (by omega)
    have em : ((i : Int) + k) % (n : Int) = (((i + k) % n : Nat) : Int) := by rw [← Int.natCast_add]; exact (Int.natCast_emod _ _).symm
    have b1 := bS i
    have f1 := f01 i
    rw [Nat.mod_eq_of_lt hi'] at f1
    have es : isum (fun i => (codeL d ((p1 + 1 : Nat) : Int)).getD (i % n) 0 * (codeL d ((q1 + 1 : Nat) : Int)).getD ((i + k) % n) 0) (i + 1) = isum (fun i => (codeL d ((p1 + 1 : Nat) : Int)).getD (i % n) 0 * (codeL d ((q1 + 1 : Nat) : Int)).getD ((i + k) % n) 0) i + (codeL d ((p1 + 1 : Nat) : Int)).getD i 0 * (codeL d ((q1 + 1 : Nat) : Int)).getD ((i + k) % n) 0 := by
      simp only [isum, Nat.mod_eq_of_lt hi']
    have cla := cl ((p1 + 1 : Nat) : Int)
    have clb := cl ((q1 + 1 : Nat) : Int)
    rcases ha with ha | ha <;> rcases hb with hb | hb <;>
    · simp -implicitDefEqProofs (disch := first | assumption | decide | omega | (simp -implicitDefEqProofs only [wpD1] <;> omega) | (refine not_in_one ?_; first | omega | (simp -implicitDefEqProofs only [wpD1] <;> omega) | fail) | (simp -implicitDefEqProofs only [wpD2] <;> assumption) | ((repeat (first | exact HSub.refl _ | assumption | refine HSub.push ?_ _ | refine HSub.reserve ?_ _ | refine HSub.put ?_ (by omega) _)); done) | fail) only [↓wpPre, wpPost, wpPoly, Int.reduceToNat, Int.reducePow, Int.reduceMul, Int.reduceAdd, Int.reduceSub, Int.reduceNeg, Nat.reduceAdd, Nat.reduceMul, Nat.reducePow, Int.reduceLT, Int.reduceLE, Int.reduceEq, Nat.reduceEqDiff, gV_u, e0, e1, e2, e3, e9, e10, e13, e14, e16, e17, Ra.idx, Ra.load, Rb.idx, Rb.load, em]
      exact ⟨_, ⟨i + 1, es.symm, by simp, by omega, rfl⟩, by omega⟩
  · have ei : i = n := by omega
    rw [ei, eS] at e16
    have key : (prodS d (p1 + 1) (q1 + 1) k = n ∧ p1 = q1 ∧ k = 0) ∨ ((prodS d (p1 + 1) (q1 + 1) k = -1 ∨ prodS d (p1 + 1) (q1 + 1) k = -thrT d ∨ prodS d (p1 + 1) (q1 + 1) k = thrT d - 2) ∧ (p1 ≠ q1 ∨ (p1 = q1 ∧ k ≠ 0))) := by
      rcases H3 with ⟨x1, x2, x3⟩ | ⟨x1, x2⟩
      · exact .inl ⟨by rw [x3, hn], by omega, x2⟩
      · exact .inr ⟨x2, by omega⟩
    generalize prodS d (p1 + 1) (q1 + 1) k = S at e16 key
    have hT : (d = 5 ∧ thrT d = 9) ∨ (d = 6 ∧ thrT d = 17) ∨ (d = 7 ∧ thrT d = 17) := by rcases sd with h | h | h <;> subst h <;> decide
    generalize thrT d = T at key hT
    rcases key with ⟨x1, x2, x3⟩ | ⟨x1, x2⟩
    · rcases hT with ⟨y1, y2⟩ | ⟨y1, y2⟩ | ⟨y1, y2⟩ <;> rw [y1] at e0 <;>
      · simp -implicitDefEqProofs (disch := first | assumption | decide | omega | (simp -implicitDefEqProofs only [wpD1] <;> omega) | (refine not_in_one ?_; first | omega | (simp -implicitDefEqProofs only [wpD1] <;> omega) | fail) | (simp -implicitDefEqProofs only [wpD2] <;> assumption) | ((repeat (first | exact HSub.refl _ | assumption | refine HSub.push ?_ _ | refine HSub.reserve ?_ _ | refine HSub.put ?_ (by omega) _)); done) | fail) only [↓wpPre, wpPost, wpPoly, Int.reduceToNat, Int.reducePow, Int.reduceMul, Int.reduceAdd, Int.reduceSub, Int.reduceNeg, Nat.reduceAdd, Nat.reduceMul, Nat.reducePow, Int.reduceLT, Int.reduceLE, Int.reduceEq, Nat.reduceEqDiff, e0, e1, e2, e3, e9, e10, e16]
        simp [x1]
    · rcases x2 with x2 | ⟨x2, x3⟩ <;> rcases hT with ⟨y1, y2⟩ | ⟨y1, y2⟩ | ⟨y1, y2⟩ <;> rw [y1] at e0 <;> rw [y2] at x1 <;> rcases x1 with x1 | x1 | x1 <;> rw [x1] at e16 <;>
      · simp -implicitDefEqProofs (disch := first | assumption | decide | omega | (simp -implicitDefEqProofs only [wpD1] <;> omega) | (refine not_in_one ?_; first | omega | (simp -implicitDefEqProofs only [wpD1] <;> omega) | fail) | (simp -implicitDefEqProofs only [wpD2] <;> assumption) | ((repeat (first | exact HSub.refl _ | assumption | refine HSub.push ?_ _ | refine HSub.reserve ?_ _ | refine HSub.put ?_ (by omega) _)); done) | fail) only [↓wpPre, wpPost, wpPoly, Int.reduceToNat, Int.reducePow, Int.reduceMul, Int.reduceAdd, Int.reduceSub, Int.reduceNeg, Nat.reduceAdd, Nat.reduceMul, Nat.reducePow, Int.reduceLT, Int.reduceLE, Int.reduceEq, Nat.reduceEqDiff, gV_u, e0, e1, e2, e3, e9, e10, e16]
        try rfl
end
end Go.Ae
