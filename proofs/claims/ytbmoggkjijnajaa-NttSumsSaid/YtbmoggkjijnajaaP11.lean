/- Texts of the proof, part 11: a second reading of the lowered code, proved sound, and what the functions compute. -/
import Derived.Test.YtbmoggkjijnajaaP10

/- The statements on numbers and transforms of layer 10, over the lowered code. -/
set_option linter.unusedSimpArgs false
set_option linter.unusedVariables false
namespace Go.Ae
section
variable {C : Ctx}

theorem ACallsK.eq2 {g : Nat} {args : List AV} {h h' : Heap} {r r' : AV} {K : AV → Heap → Prop} (hc : ACalls C g args h fun x h'' => x = r ∧ h'' = h') (e : r = r') (hk : K r' h') : @ACallsK C g args h ⟨K⟩ := ACallsK.eq (e ▸ hc) hk

/-- The table of some functions. -/
def tabIn (L : List Nat) (g : Nat) : Option ABody := if L.contains g then tab g else none
theorem tabIn_ok {L : List Nat} (hC : Has C L) : ∀ g b, tabIn L g = some b → C.body g = some b := by
  intro g b h
  unfold tabIn at h
  split at h
  · rename_i hg; exact hC g (by simpa using hg) b h
  · cases h

theorem awake10_run : runsTo (tabIn T7) 1000 60 7 [] = true := by kernel_rfl
theorem awake10_spec (hC : Has C T7) {h : Heap} : ACalls C 7 [] h (fun r h' => r = .bool true ∧ h' = h) :=
  runsTo_sound (tabIn_ok hC) (by simp) awake10_run h

set_option maxRecDepth 100000 in
set_option maxHeartbeats 1000000 in
theorem NttNumbers_law (hC : Has C T1) {a n : Int} {h : Heap} (ha : In64 a) (hn : In64 n) : ACalls C 1 [.int .i64 a, .int .i64 n] h (fun r _ => r = .bool true) := by
  obtain ⟨r1, e1, hr⟩ : ∃ r e, (if isLen n then tup2 (rootI n) 0 else tup2 0 3) = tup2 r e := by split <;> exact ⟨_, _, rfl⟩
  obtain ⟨r2, e2, hp⟩ : ∃ r e, PowerI a n = tup2 r e := by unfold PowerI; split <;> exact ⟨_, _, rfl⟩
  obtain ⟨r3, e3, hs⟩ : ∃ r e, SignedI a = tup2 r e := by unfold SignedI; split <;> exact ⟨_, _, rfl⟩
  (refine calls_intro (hC.body (by decide) tab1) (Nat.le_of_ble_eq_true rfl) ?_); (show wp C _ none B1.code _ _); (simp only [B1]); simp -implicitDefEqProofs (disch := first | assumption | decide | omega | (simp -implicitDefEqProofs only [wpD1] <;> omega) | (refine not_in_one ?_; first | omega | (simp -implicitDefEqProofs only [wpD1] <;> omega) | fail) | (simp -implicitDefEqProofs only [wpD2] <;> assumption) | ((repeat (first | exact HSub.refl _ | assumption | refine HSub.push ?_ _ | refine HSub.reserve ?_ _ | refine HSub.put ?_ (by omega) _)); done) | fail) only [↓wpPre, wpPost, wpPoly, Int.reduceToNat, Int.reducePow, Int.reduceMul, Int.reduceAdd, Int.reduceSub, Int.reduceNeg, Nat.reduceAdd, Nat.reduceMul, Nat.reducePow, Int.reduceLT, Int.reduceLE, Int.reduceEq, Nat.reduceEqDiff]
  refine ACallsK.eq2 (Root_spec (hC.sub (T' := T13) (by decide)) hn) hr ?_
  simp -implicitDefEqProofs (disch := first | assumption | decide | omega | (simp -implicitDefEqProofs only [wpD1] <;> omega) | (refine not_in_one ?_; first | omega | (simp -implicitDefEqProofs only [wpD1] <;> omega) | fail) | (simp -implicitDefEqProofs only [wpD2] <;> assumption) | ((repeat (first | exact HSub.refl _ | assumption | refine HSub.push ?_ _ | refine HSub.reserve ?_ _ | refine HSub.put ?_ (by omega) _)); done) | fail) only [↓wpPre, wpPost, wpPoly, Int.reduceToNat, Int.reducePow, Int.reduceMul, Int.reduceAdd, Int.reduceSub, Int.reduceNeg, Nat.reduceAdd, Nat.reduceMul, Nat.reducePow, Int.reduceLT, Int.reduceLE, Int.reduceEq, Nat.reduceEqDiff, tup2]
  refine ACallsK.eq2 (RootR_spec (hC.sub (T' := T14) (by decide)) hn) hr ?_
  simp -implicitDefEqProofs (disch := first | assumption | decide | omega | (simp -implicitDefEqProofs only [wpD1] <;> omega) | (refine not_in_one ?_; first | omega | (simp -implicitDefEqProofs only [wpD1] <;> omega) | fail) | (simp -implicitDefEqProofs only [wpD2] <;> assumption) | ((repeat (first | exact HSub.refl _ | assumption | refine HSub.push ?_ _ | refine HSub.reserve ?_ _ | refine HSub.put ?_ (by omega) _)); done) | fail) only [↓wpPre, wpPost, wpPoly, Int.reduceToNat, Int.reducePow, Int.reduceMul, Int.reduceAdd, Int.reduceSub, Int.reduceNeg, Nat.reduceAdd, Nat.reduceMul, Nat.reducePow, Int.reduceLT, Int.reduceLE, Int.reduceEq, Nat.reduceEqDiff, tup2]
  refine ACallsK.eq2 (Power_spec (hC.sub (T' := T15) (by decide)) ha hn) hp ?_
  simp -implicitDefEqProofs (disch := first | assumption | decide | omega | (simp -implicitDefEqProofs only [wpD1] <;> omega) | (refine not_in_one ?_; first | omega | (simp -implicitDefEqProofs only [wpD1] <;> omega) | fail) | (simp -implicitDefEqProofs only [wpD2] <;> assumption) | ((repeat (first | exact HSub.refl _ | assumption | refine HSub.push ?_ _ | refine HSub.reserve ?_ _ | refine HSub.put ?_ (by omega) _)); done) | fail) only [↓wpPre, wpPost, wpPoly, Int.reduceToNat, Int.reducePow, Int.reduceMul, Int.reduceAdd, Int.reduceSub, Int.reduceNeg, Nat.reduceAdd, Nat.reduceMul, Nat.reducePow, Int.reduceLT, Int.reduceLE, Int.reduceEq, Nat.reduceEqDiff, tup2]
  refine ACallsK.eq2 (PowerR_spec (hC.sub (T' := T16) (by decide)) ha hn) hp ?_
  simp -implicitDefEqProofs (disch := first | assumption | decide | omega | (simp -implicitDefEqProofs only [wpD1] <;> omega) | (refine not_in_one ?_; first | omega | (simp -implicitDefEqProofs only [wpD1] <;> omega) | fail) | (simp -implicitDefEqProofs only [wpD2] <;> assumption) | ((repeat (first | exact HSub.refl _ | assumption | refine HSub.push ?_ _ | refine HSub.reserve ?_ _ | refine HSub.put ?_ (by omega) _)); done) | fail) only [↓wpPre, wpPost, wpPoly, Int.reduceToNat, Int.reducePow, Int.reduceMul, Int.reduceAdd, Int.reduceSub, Int.reduceNeg, Nat.reduceAdd, Nat.reduceMul, Nat.reducePow, Int.reduceLT, Int.reduceLE, Int.reduceEq, Nat.reduceEqDiff, tup2]
  refine ACallsK.eq2 (Signed_spec (hC.sub (T' := T17) (by decide)) ha) hs ?_
  simp -implicitDefEqProofs (disch := first | assumption | decide | omega | (simp -implicitDefEqProofs only [wpD1] <;> omega) | (refine not_in_one ?_; first | omega | (simp -implicitDefEqProofs only [wpD1] <;> omega) | fail) | (simp -implicitDefEqProofs only [wpD2] <;> assumption) | ((repeat (first | exact HSub.refl _ | assumption | refine HSub.push ?_ _ | refine HSub.reserve ?_ _ | refine HSub.put ?_ (by omega) _)); done) | fail) only [↓wpPre, wpPost, wpPoly, Int.reduceToNat, Int.reducePow, Int.reduceMul, Int.reduceAdd, Int.reduceSub, Int.reduceNeg, Nat.reduceAdd, Nat.reduceMul, Nat.reducePow, Int.reduceLT, Int.reduceLE, Int.reduceEq, Nat.reduceEqDiff, tup2]
  refine ACallsK.eq2 (SignedR_spec (hC.sub (T' := T18) (by decide)) ha) hs ?_
  simp -implicitDefEqProofs (disch := first | assumption | decide | omega | (simp -implicitDefEqProofs only [wpD1] <;> omega) | (refine not_in_one ?_; first | omega | (simp -implicitDefEqProofs only [wpD1] <;> omega) | fail) | (simp -implicitDefEqProofs only [wpD2] <;> assumption) | ((repeat (first | exact HSub.refl _ | assumption | refine HSub.push ?_ _ | refine HSub.reserve ?_ _ | refine HSub.put ?_ (by omega) _)); done) | fail) only [↓wpPre, wpPost, wpPoly, Int.reduceToNat, Int.reducePow, Int.reduceMul, Int.reduceAdd, Int.reduceSub, Int.reduceNeg, Nat.reduceAdd, Nat.reduceMul, Nat.reducePow, Int.reduceLT, Int.reduceLE, Int.reduceEq, Nat.reduceEqDiff, tup2]
  refine ACallsK.eq (awake10_spec (hC.sub (T' := T7) (by decide))) ?_
  simp -implicitDefEqProofs (disch := first | assumption | decide | omega | (simp -implicitDefEqProofs only [wpD1] <;> omega) | (refine not_in_one ?_; first | omega | (simp -implicitDefEqProofs only [wpD1] <;> omega) | fail) | (simp -implicitDefEqProofs only [wpD2] <;> assumption) | ((repeat (first | exact HSub.refl _ | assumption | refine HSub.push ?_ _ | refine HSub.reserve ?_ _ | refine HSub.put ?_ (by omega) _)); done) | fail) only [↓wpPre, wpPost, wpPoly, Int.reduceToNat, Int.reducePow, Int.reduceMul, Int.reduceAdd, Int.reduceSub, Int.reduceNeg, Nat.reduceAdd, Nat.reduceMul, Nat.reducePow, Int.reduceLT, Int.reduceLE, Int.reduceEq, Nat.reduceEqDiff]

theorem Transform_both {g : Nat} {v : AV} {l L : List Int} {h : Heap} (hc : ACalls C g [v] h (fun r h' => if chkI l = 0 then (∃ v', r = lstErr v' 0 ∧ Fresh h h' v' L) else (r = lstErr .nilslice (chkI l) ∧ h' = h))) :
    ACalls C g [v] h (fun r h' => ∃ v', r = lstErr v' (chkI l) ∧ HSub h h' ∧ RI h' v' (if chkI l = 0 then L else [])) := by
  refine hc.mono ?_
  intro r h' hp
  split at hp
  · rename_i e
    obtain ⟨v', rfl, F⟩ := hp
    rw [if_pos e]
    exact ⟨v', by rw [e], F.sub, F.ri⟩
  · rename_i e
    obtain ⟨rfl, rfl⟩ := hp
    rw [if_neg e]
    exact ⟨_, rfl, HSub.refl _, RI.nil⟩

set_option maxRecDepth 100000 in
set_option maxHeartbeats 1000000 in
theorem NttTransforms_law (hC : Has C T0) {v : AV} {l : List Int} {h : Heap} (hl : RI h v l) (_hx : ∀ x ∈ l, In64 x) : ACalls C 0 [v] h (fun r _ => r = .bool true) := by
  have hlt := hl.lt
  (refine calls_intro (hC.body (by decide) tab0) (Nat.le_of_ble_eq_true rfl) ?_); (show wp C _ none B0.code _ _); (simp only [B0]); simp -implicitDefEqProofs (disch := first | assumption | decide | omega | (simp -implicitDefEqProofs only [wpD1] <;> omega) | (refine not_in_one ?_; first | omega | (simp -implicitDefEqProofs only [wpD1] <;> omega) | fail) | (simp -implicitDefEqProofs only [wpD2] <;> assumption) | ((repeat (first | exact HSub.refl _ | assumption | refine HSub.push ?_ _ | refine HSub.reserve ?_ _ | refine HSub.put ?_ (by omega) _)); done) | fail) only [↓wpPre, wpPost, wpPoly, Int.reduceToNat, Int.reducePow, Int.reduceMul, Int.reduceAdd, Int.reduceSub, Int.reduceNeg, Nat.reduceAdd, Nat.reduceMul, Nat.reducePow, Int.reduceLT, Int.reduceLE, Int.reduceEq, Nat.reduceEqDiff, hl.len]
  refine Br.by (fun c => ?_) (fun c => ?_)
  · simp -implicitDefEqProofs (disch := first | assumption | decide | omega | (simp -implicitDefEqProofs only [wpD1] <;> omega) | (refine not_in_one ?_; first | omega | (simp -implicitDefEqProofs only [wpD1] <;> omega) | fail) | (simp -implicitDefEqProofs only [wpD2] <;> assumption) | ((repeat (first | exact HSub.refl _ | assumption | refine HSub.push ?_ _ | refine HSub.reserve ?_ _ | refine HSub.put ?_ (by omega) _)); done) | fail) only [↓wpPre, wpPost, wpPoly, Int.reduceToNat, Int.reducePow, Int.reduceMul, Int.reduceAdd, Int.reduceSub, Int.reduceNeg, Nat.reduceAdd, Nat.reduceMul, Nat.reducePow, Int.reduceLT, Int.reduceLE, Int.reduceEq, Nat.reduceEqDiff]
    refine ACallsK.eq (awake10_spec (hC.sub (T' := T7) (by decide))) ?_
    simp -implicitDefEqProofs (disch := first | assumption | decide | omega | (simp -implicitDefEqProofs only [wpD1] <;> omega) | (refine not_in_one ?_; first | omega | (simp -implicitDefEqProofs only [wpD1] <;> omega) | fail) | (simp -implicitDefEqProofs only [wpD2] <;> assumption) | ((repeat (first | exact HSub.refl _ | assumption | refine HSub.push ?_ _ | refine HSub.reserve ?_ _ | refine HSub.put ?_ (by omega) _)); done) | fail) only [↓wpPre, wpPost, wpPoly, Int.reduceToNat, Int.reducePow, Int.reduceMul, Int.reduceAdd, Int.reduceSub, Int.reduceNeg, Nat.reduceAdd, Nat.reduceMul, Nat.reducePow, Int.reduceLT, Int.reduceLE, Int.reduceEq, Nat.reduceEqDiff]
  · simp -implicitDefEqProofs (disch := first | assumption | decide | omega | (simp -implicitDefEqProofs only [wpD1] <;> omega) | (refine not_in_one ?_; first | omega | (simp -implicitDefEqProofs only [wpD1] <;> omega) | fail) | (simp -implicitDefEqProofs only [wpD2] <;> assumption) | ((repeat (first | exact HSub.refl _ | assumption | refine HSub.push ?_ _ | refine HSub.reserve ?_ _ | refine HSub.put ?_ (by omega) _)); done) | fail) only [↓wpPre, wpPost, wpPoly, Int.reduceToNat, Int.reducePow, Int.reduceMul, Int.reduceAdd, Int.reduceSub, Int.reduceNeg, Nat.reduceAdd, Nat.reduceMul, Nat.reducePow, Int.reduceLT, Int.reduceLE, Int.reduceEq, Nat.reduceEqDiff]
    refine ACallsK.of (Transform_both (Transform_spec (hC.sub (T' := T8) (by decide)) hl)) ?_
    rintro r h1 ⟨v1, rfl, s1, R1⟩
    simp -implicitDefEqProofs (disch := first | assumption | decide | omega | (simp -implicitDefEqProofs only [wpD1] <;> omega) | (refine not_in_one ?_; first | omega | (simp -implicitDefEqProofs only [wpD1] <;> omega) | fail) | (simp -implicitDefEqProofs only [wpD2] <;> assumption) | ((repeat (first | exact HSub.refl _ | assumption | refine HSub.push ?_ _ | refine HSub.reserve ?_ _ | refine HSub.put ?_ (by omega) _)); done) | fail) only [↓wpPre, wpPost, wpPoly, Int.reduceToNat, Int.reducePow, Int.reduceMul, Int.reduceAdd, Int.reduceSub, Int.reduceNeg, Nat.reduceAdd, Nat.reduceMul, Nat.reducePow, Int.reduceLT, Int.reduceLE, Int.reduceEq, Nat.reduceEqDiff, lstErr]
    refine ACallsK.of (Transform_both (TransformR_spec (hC.sub (T' := T9) (by decide)) (hl.mono s1))) ?_
    rintro r h2 ⟨v2, rfl, s2, R2⟩
    simp -implicitDefEqProofs (disch := first | assumption | decide | omega | (simp -implicitDefEqProofs only [wpD1] <;> omega) | (refine not_in_one ?_; first | omega | (simp -implicitDefEqProofs only [wpD1] <;> omega) | fail) | (simp -implicitDefEqProofs only [wpD2] <;> assumption) | ((repeat (first | exact HSub.refl _ | assumption | refine HSub.push ?_ _ | refine HSub.reserve ?_ _ | refine HSub.put ?_ (by omega) _)); done) | fail) only [↓wpPre, wpPost, wpPoly, Int.reduceToNat, Int.reducePow, Int.reduceMul, Int.reduceAdd, Int.reduceSub, Int.reduceNeg, Nat.reduceAdd, Nat.reduceMul, Nat.reducePow, Int.reduceLT, Int.reduceLE, Int.reduceEq, Nat.reduceEqDiff, lstErr]
    refine ACallsK.of (Transform_both (Inverse_spec (hC.sub (T' := T10) (by decide)) (hl.mono (s1.trans s2)))) ?_
    rintro r h3 ⟨v3, rfl, s3, R3⟩
    simp -implicitDefEqProofs (disch := first | assumption | decide | omega | (simp -implicitDefEqProofs only [wpD1] <;> omega) | (refine not_in_one ?_; first | omega | (simp -implicitDefEqProofs only [wpD1] <;> omega) | fail) | (simp -implicitDefEqProofs only [wpD2] <;> assumption) | ((repeat (first | exact HSub.refl _ | assumption | refine HSub.push ?_ _ | refine HSub.reserve ?_ _ | refine HSub.put ?_ (by omega) _)); done) | fail) only [↓wpPre, wpPost, wpPoly, Int.reduceToNat, Int.reducePow, Int.reduceMul, Int.reduceAdd, Int.reduceSub, Int.reduceNeg, Nat.reduceAdd, Nat.reduceMul, Nat.reducePow, Int.reduceLT, Int.reduceLE, Int.reduceEq, Nat.reduceEqDiff, lstErr]
    refine ACallsK.of (Transform_both (InverseR_spec (hC.sub (T' := T11) (by decide)) (hl.mono ((s1.trans s2).trans s3)))) ?_
    rintro r h4 ⟨v4, rfl, s4, R4⟩
    simp -implicitDefEqProofs (disch := first | assumption | decide | omega | (simp -implicitDefEqProofs only [wpD1] <;> omega) | (refine not_in_one ?_; first | omega | (simp -implicitDefEqProofs only [wpD1] <;> omega) | fail) | (simp -implicitDefEqProofs only [wpD2] <;> assumption) | ((repeat (first | exact HSub.refl _ | assumption | refine HSub.push ?_ _ | refine HSub.reserve ?_ _ | refine HSub.put ?_ (by omega) _)); done) | fail) only [↓wpPre, wpPost, wpPoly, Int.reduceToNat, Int.reducePow, Int.reduceMul, Int.reduceAdd, Int.reduceSub, Int.reduceNeg, Nat.reduceAdd, Nat.reduceMul, Nat.reducePow, Int.reduceLT, Int.reduceLE, Int.reduceEq, Nat.reduceEqDiff, lstErr]
    refine ACallsK.eq (Equal_spec (hC.sub (T' := T12) (by decide)) (R1.mono ((s2.trans s3).trans s4)) (R2.mono (s3.trans s4))) ?_
    simp -implicitDefEqProofs (disch := first | assumption | decide | omega | (simp -implicitDefEqProofs only [wpD1] <;> omega) | (refine not_in_one ?_; first | omega | (simp -implicitDefEqProofs only [wpD1] <;> omega) | fail) | (simp -implicitDefEqProofs only [wpD2] <;> assumption) | ((repeat (first | exact HSub.refl _ | assumption | refine HSub.push ?_ _ | refine HSub.reserve ?_ _ | refine HSub.put ?_ (by omega) _)); done) | fail) only [↓wpPre, wpPost, wpPoly, Int.reduceToNat, Int.reducePow, Int.reduceMul, Int.reduceAdd, Int.reduceSub, Int.reduceNeg, Nat.reduceAdd, Nat.reduceMul, Nat.reducePow, Int.reduceLT, Int.reduceLE, Int.reduceEq, Nat.reduceEqDiff]
    refine ACallsK.eq (Equal_spec (hC.sub (T' := T12) (by decide)) (R3.mono s4) R4) ?_
    simp -implicitDefEqProofs (disch := first | assumption | decide | omega | (simp -implicitDefEqProofs only [wpD1] <;> omega) | (refine not_in_one ?_; first | omega | (simp -implicitDefEqProofs only [wpD1] <;> omega) | fail) | (simp -implicitDefEqProofs only [wpD2] <;> assumption) | ((repeat (first | exact HSub.refl _ | assumption | refine HSub.push ?_ _ | refine HSub.reserve ?_ _ | refine HSub.put ?_ (by omega) _)); done) | fail) only [↓wpPre, wpPost, wpPoly, Int.reduceToNat, Int.reducePow, Int.reduceMul, Int.reduceAdd, Int.reduceSub, Int.reduceNeg, Nat.reduceAdd, Nat.reduceMul, Nat.reducePow, Int.reduceLT, Int.reduceLE, Int.reduceEq, Nat.reduceEqDiff]
    refine ACallsK.eq (awake10_spec (hC.sub (T' := T7) (by decide))) ?_
    simp -implicitDefEqProofs (disch := first | assumption | decide | omega | (simp -implicitDefEqProofs only [wpD1] <;> omega) | (refine not_in_one ?_; first | omega | (simp -implicitDefEqProofs only [wpD1] <;> omega) | fail) | (simp -implicitDefEqProofs only [wpD2] <;> assumption) | ((repeat (first | exact HSub.refl _ | assumption | refine HSub.push ?_ _ | refine HSub.reserve ?_ _ | refine HSub.put ?_ (by omega) _)); done) | fail) only [↓wpPre, wpPost, wpPoly, Int.reduceToNat, Int.reducePow, Int.reduceMul, Int.reduceAdd, Int.reduceSub, Int.reduceNeg, Nat.reduceAdd, Nat.reduceMul, Nat.reducePow, Int.reduceLT, Int.reduceLE, Int.reduceEq, Nat.reduceEqDiff]
end
end Go.Ae

/- Circular of the program's package ntt; the statement on products. -/
set_option linter.unusedSimpArgs false
set_option linter.unusedVariables false
namespace Go.Ae
section
variable {C : Ctx}

theorem sumAbs_reverse (a : List Int) : sumAbs a.reverse = sumAbs a := by
  induction a with
  | nil => rfl
  | cons x a ih => rw [List.reverse_cons, sumAbs_append, ih]; simp [sumAbs]; omega
theorem fldS_abs {c : List Int} {n m i : Nat} (hm : m < n) (hi : i ≤ 2 * n - 1) (hc : ∀ x ∈ c, -499122176 ≤ x ∧ x ≤ 499122176) : -998244352 ≤ fldS c n m i ∧ fldS c n m i ≤ 998244352 := by
  have g : ∀ k, -499122176 ≤ c.getD k 0 ∧ c.getD k 0 ≤ 499122176 := fun k => by
    by_cases hk : k < c.length
    · exact hc _ (getD_mem hk)
    · rw [List.getD_eq_getElem?_getD, List.getElem?_eq_none (by omega)]; simp
  have g1 := g (m - 1)
  have g2 := g (m + n - 1)
  rw [fldS_eq hm i hi]
  split <;> split <;> omega

set_option maxHeartbeats 1000000 in
theorem CircularN_spec (hC : Has C T21) {va vb : AV} {a b : List Int} {h : Heap} (ha : RI h va a) (hb : RI h vb b) :
    ACalls C 21 [va, vb] h (fun r h' => ∃ v', r = lstErr v' (circ10Err a b) ∧ HSub h h' ∧ RI h' v' (if circ10Err a b = 0 then circ a b else [])) := by
  obtain ⟨c, hc⟩ : ∃ c, c = convL a.reverse b := ⟨_, rfl⟩
  have cl : c.length = a.length + b.length - 1 := by rw [hc, convL_length, List.length_reverse]
  have cb0 : sumAbs a * maxAbs b ≤ 499122176 → ∀ x ∈ c, -499122176 ≤ x ∧ x ≤ 499122176 := fun h => by rw [hc]; exact conv_bound (by rw [sumAbs_reverse]; exact h)
  have fc0 : a.length = b.length → ∀ m, m < a.length → fldS c a.length m (a.length + b.length - 1) = (circ a b).getD m 0 := fun hl m hm => by
    have := fld_conv hl hm
    rwa [show 2 * a.length - 1 = a.length + b.length - 1 by omega, ← hc] at this
  have fb0 : a.length = b.length → sumAbs a * maxAbs b ≤ 499122176 → ∀ m i, m < a.length → i ≤ a.length + b.length - 1 → -998244352 ≤ fldS c a.length m i ∧ fldS c a.length m i ≤ 998244352 := fun hl hw m i hm hi => fldS_abs hm (by omega) (cb0 hw)
  have asks : ∀ {l : List Int} {h : Heap}, Asks C (.func 41 [] []) bigs l h := fun {l h} => ⟨41, [], rfl, fun x _ => bigs41_spec (hC.sub (T' := T41) (by decide))⟩
  have l1 := ha.lt
  have l2 := hb.lt
  have fin : ∀ e, circ10Err a b = e → e ≠ 0 → ∃ v', AV.tuple [.nilslice, .int .i64 e] = lstErr v' (circ10Err a b) ∧ HSub h h ∧ RI h v' (if circ10Err a b = 0 then circ a b else []) := fun e h0 he => ⟨.nilslice, by rw [h0, lstErr], HSub.refl _, by rw [if_neg (by rw [h0]; exact he)]; exact RI.nil⟩
  have pe : circErr a b = if a.length = 0 then 3 else if 8192 < a.length then 4 else if a.length ≠ b.length then 10 else if a.any bigs = true ∨ b.any bigs = true then 2 else 0 := rfl
  have pe2 : circ10Err a b = if circErr a b = 0 then (if 499122176 < sumAbs a * maxAbs b then 5 else 0) else circErr a b := rfl
  by_cases c0 : a.length = 0 ∨ 8192 < a.length ∨ b.length ≠ a.length
  · have hne : circErr a b ≠ 0 := by
      rw [pe]
      split
      · decide
      · split
        · decide
        · rw [if_pos (by omega)]; decide
    rw [if_neg hne] at pe2
    have key : ∀ r h', (∃ v', r = lstErr v' (circErr a b) ∧ HSub h h' ∧ RI h' v' (if circErr a b = 0 then circ a b else [])) → (∃ v', r = lstErr v' (circ10Err a b) ∧ HSub h h' ∧ RI h' v' (if circ10Err a b = 0 then circ a b else [])) := by
      rw [pe2]; exact fun _ _ h => h
    by_cases d0 : a.length = 0
    · (refine calls_intro (hC.body (by decide) tab21) (Nat.le_of_ble_eq_true rfl) ?_); (show wp C _ none B21.code _ _); (simp only [B21]); simp -implicitDefEqProofs (disch := first | assumption | decide | omega | (simp -implicitDefEqProofs only [wpD1] <;> omega) | (refine not_in_one ?_; first | omega | (simp -implicitDefEqProofs only [wpD1] <;> omega) | fail) | (simp -implicitDefEqProofs only [wpD2] <;> assumption) | ((repeat (first | exact HSub.refl _ | assumption | refine HSub.push ?_ _ | refine HSub.reserve ?_ _ | refine HSub.put ?_ (by omega) _)); done) | fail) only [↓wpPre, wpPost, wpPoly, Int.reduceToNat, Int.reducePow, Int.reduceMul, Int.reduceAdd, Int.reduceSub, Int.reduceNeg, Nat.reduceAdd, Nat.reduceMul, Nat.reducePow, Int.reduceLT, Int.reduceLE, Int.reduceEq, Nat.reduceEqDiff, ha.len]
      refine ACallsK.of (CircP_spec (hC.sub (T' := T25) (by decide)) ha hb) ?_
      rintro r h1 hp
      have hp := key _ _ hp
      obtain ⟨v', rfl, s, R⟩ := hp
      simp -implicitDefEqProofs (disch := first | assumption | decide | omega | (simp -implicitDefEqProofs only [wpD1] <;> omega) | (refine not_in_one ?_; first | omega | (simp -implicitDefEqProofs only [wpD1] <;> omega) | fail) | (simp -implicitDefEqProofs only [wpD2] <;> assumption) | ((repeat (first | exact HSub.refl _ | assumption | refine HSub.push ?_ _ | refine HSub.reserve ?_ _ | refine HSub.put ?_ (by omega) _)); done) | fail) only [↓wpPre, wpPost, wpPoly, Int.reduceToNat, Int.reducePow, Int.reduceMul, Int.reduceAdd, Int.reduceSub, Int.reduceNeg, Nat.reduceAdd, Nat.reduceMul, Nat.reducePow, Int.reduceLT, Int.reduceLE, Int.reduceEq, Nat.reduceEqDiff, lstErr]
      exact ⟨v', rfl, s, R⟩
    by_cases d1 : 8192 < a.length
    · (refine calls_intro (hC.body (by decide) tab21) (Nat.le_of_ble_eq_true rfl) ?_); (show wp C _ none B21.code _ _); (simp only [B21]); simp -implicitDefEqProofs (disch := first | assumption | decide | omega | (simp -implicitDefEqProofs only [wpD1] <;> omega) | (refine not_in_one ?_; first | omega | (simp -implicitDefEqProofs only [wpD1] <;> omega) | fail) | (simp -implicitDefEqProofs only [wpD2] <;> assumption) | ((repeat (first | exact HSub.refl _ | assumption | refine HSub.push ?_ _ | refine HSub.reserve ?_ _ | refine HSub.put ?_ (by omega) _)); done) | fail) only [↓wpPre, wpPost, wpPoly, Int.reduceToNat, Int.reducePow, Int.reduceMul, Int.reduceAdd, Int.reduceSub, Int.reduceNeg, Nat.reduceAdd, Nat.reduceMul, Nat.reducePow, Int.reduceLT, Int.reduceLE, Int.reduceEq, Nat.reduceEqDiff, ha.len]
      refine ACallsK.of (CircP_spec (hC.sub (T' := T25) (by decide)) ha hb) ?_
      rintro r h1 hp
      have hp := key _ _ hp
      obtain ⟨v', rfl, s, R⟩ := hp
      simp -implicitDefEqProofs (disch := first | assumption | decide | omega | (simp -implicitDefEqProofs only [wpD1] <;> omega) | (refine not_in_one ?_; first | omega | (simp -implicitDefEqProofs only [wpD1] <;> omega) | fail) | (simp -implicitDefEqProofs only [wpD2] <;> assumption) | ((repeat (first | exact HSub.refl _ | assumption | refine HSub.push ?_ _ | refine HSub.reserve ?_ _ | refine HSub.put ?_ (by omega) _)); done) | fail) only [↓wpPre, wpPost, wpPoly, Int.reduceToNat, Int.reducePow, Int.reduceMul, Int.reduceAdd, Int.reduceSub, Int.reduceNeg, Nat.reduceAdd, Nat.reduceMul, Nat.reducePow, Int.reduceLT, Int.reduceLE, Int.reduceEq, Nat.reduceEqDiff, lstErr]
      exact ⟨v', rfl, s, R⟩
    · (refine calls_intro (hC.body (by decide) tab21) (Nat.le_of_ble_eq_true rfl) ?_); (show wp C _ none B21.code _ _); (simp only [B21]); simp -implicitDefEqProofs (disch := first | assumption | decide | omega | (simp -implicitDefEqProofs only [wpD1] <;> omega) | (refine not_in_one ?_; first | omega | (simp -implicitDefEqProofs only [wpD1] <;> omega) | fail) | (simp -implicitDefEqProofs only [wpD2] <;> assumption) | ((repeat (first | exact HSub.refl _ | assumption | refine HSub.push ?_ _ | refine HSub.reserve ?_ _ | refine HSub.put ?_ (by omega) _)); done) | fail) only [↓wpPre, wpPost, wpPoly, Int.reduceToNat, Int.reducePow, Int.reduceMul, Int.reduceAdd, Int.reduceSub, Int.reduceNeg, Nat.reduceAdd, Nat.reduceMul, Nat.reducePow, Int.reduceLT, Int.reduceLE, Int.reduceEq, Nat.reduceEqDiff, ha.len, hb.len]
      refine ACallsK.of (CircP_spec (hC.sub (T' := T25) (by decide)) ha hb) ?_
      rintro r h1 hp
      have hp := key _ _ hp
      obtain ⟨v', rfl, s, R⟩ := hp
      simp -implicitDefEqProofs (disch := first | assumption | decide | omega | (simp -implicitDefEqProofs only [wpD1] <;> omega) | (refine not_in_one ?_; first | omega | (simp -implicitDefEqProofs only [wpD1] <;> omega) | fail) | (simp -implicitDefEqProofs only [wpD2] <;> assumption) | ((repeat (first | exact HSub.refl _ | assumption | refine HSub.push ?_ _ | refine HSub.reserve ?_ _ | refine HSub.put ?_ (by omega) _)); done) | fail) only [↓wpPre, wpPost, wpPoly, Int.reduceToNat, Int.reducePow, Int.reduceMul, Int.reduceAdd, Int.reduceSub, Int.reduceNeg, Nat.reduceAdd, Nat.reduceMul, Nat.reducePow, Int.reduceLT, Int.reduceLE, Int.reduceEq, Nat.reduceEqDiff, lstErr]
      exact ⟨v', rfl, s, R⟩
  rw [if_neg (by omega), if_neg (by omega), if_neg (by omega)] at pe
  have hl : a.length = b.length := by omega
  (refine calls_intro (hC.body (by decide) tab21) (Nat.le_of_ble_eq_true rfl) ?_); (show wp C _ none B21.code _ _); (simp only [B21]); simp -implicitDefEqProofs (disch := first | assumption | decide | omega | (simp -implicitDefEqProofs only [wpD1] <;> omega) | (refine not_in_one ?_; first | omega | (simp -implicitDefEqProofs only [wpD1] <;> omega) | fail) | (simp -implicitDefEqProofs only [wpD2] <;> assumption) | ((repeat (first | exact HSub.refl _ | assumption | refine HSub.push ?_ _ | refine HSub.reserve ?_ _ | refine HSub.put ?_ (by omega) _)); done) | fail) only [↓wpPre, wpPost, wpPoly, Int.reduceToNat, Int.reducePow, Int.reduceMul, Int.reduceAdd, Int.reduceSub, Int.reduceNeg, Nat.reduceAdd, Nat.reduceMul, Nat.reducePow, Int.reduceLT, Int.reduceLE, Int.reduceEq, Nat.reduceEqDiff, ha.len, hb.len]
  refine ACallsK.eq (ContainsFunc_spec (hC.sub (T' := T37) (by decide)) ha asks) ?_
  by_cases hA : a.any bigs = true
  · rw [if_pos (.inl hA)] at pe
    rw [pe, if_neg (by decide)] at pe2
    simp -implicitDefEqProofs (disch := first | assumption | decide | omega | (simp -implicitDefEqProofs only [wpD1] <;> omega) | (refine not_in_one ?_; first | omega | (simp -implicitDefEqProofs only [wpD1] <;> omega) | fail) | (simp -implicitDefEqProofs only [wpD2] <;> assumption) | ((repeat (first | exact HSub.refl _ | assumption | refine HSub.push ?_ _ | refine HSub.reserve ?_ _ | refine HSub.put ?_ (by omega) _)); done) | fail) only [↓wpPre, wpPost, wpPoly, Int.reduceToNat, Int.reducePow, Int.reduceMul, Int.reduceAdd, Int.reduceSub, Int.reduceNeg, Nat.reduceAdd, Nat.reduceMul, Nat.reducePow, Int.reduceLT, Int.reduceLE, Int.reduceEq, Nat.reduceEqDiff]
    exact fin 2 pe2 (by decide)
  simp -implicitDefEqProofs (disch := first | assumption | decide | omega | (simp -implicitDefEqProofs only [wpD1] <;> omega) | (refine not_in_one ?_; first | omega | (simp -implicitDefEqProofs only [wpD1] <;> omega) | fail) | (simp -implicitDefEqProofs only [wpD2] <;> assumption) | ((repeat (first | exact HSub.refl _ | assumption | refine HSub.push ?_ _ | refine HSub.reserve ?_ _ | refine HSub.put ?_ (by omega) _)); done) | fail) only [↓wpPre, wpPost, wpPoly, Int.reduceToNat, Int.reducePow, Int.reduceMul, Int.reduceAdd, Int.reduceSub, Int.reduceNeg, Nat.reduceAdd, Nat.reduceMul, Nat.reducePow, Int.reduceLT, Int.reduceLE, Int.reduceEq, Nat.reduceEqDiff]
  refine ACallsK.eq (ContainsFunc_spec (hC.sub (T' := T37) (by decide)) hb asks) ?_
  by_cases hB : b.any bigs = true
  · rw [if_pos (.inr hB)] at pe
    rw [pe, if_neg (by decide)] at pe2
    simp -implicitDefEqProofs (disch := first | assumption | decide | omega | (simp -implicitDefEqProofs only [wpD1] <;> omega) | (refine not_in_one ?_; first | omega | (simp -implicitDefEqProofs only [wpD1] <;> omega) | fail) | (simp -implicitDefEqProofs only [wpD2] <;> assumption) | ((repeat (first | exact HSub.refl _ | assumption | refine HSub.push ?_ _ | refine HSub.reserve ?_ _ | refine HSub.put ?_ (by omega) _)); done) | fail) only [↓wpPre, wpPost, wpPoly, Int.reduceToNat, Int.reducePow, Int.reduceMul, Int.reduceAdd, Int.reduceSub, Int.reduceNeg, Nat.reduceAdd, Nat.reduceMul, Nat.reducePow, Int.reduceLT, Int.reduceLE, Int.reduceEq, Nat.reduceEqDiff]
    exact fin 2 pe2 (by decide)
  rw [if_neg (by rintro (h | h) <;> contradiction)] at pe
  rw [if_pos pe] at pe2
  have sa := small_of (Bool.eq_false_iff.2 hA)
  have sb := small_of (Bool.eq_false_iff.2 hB)
  simp -implicitDefEqProofs (disch := first | assumption | decide | omega | (simp -implicitDefEqProofs only [wpD1] <;> omega) | (refine not_in_one ?_; first | omega | (simp -implicitDefEqProofs only [wpD1] <;> omega) | fail) | (simp -implicitDefEqProofs only [wpD2] <;> assumption) | ((repeat (first | exact HSub.refl _ | assumption | refine HSub.push ?_ _ | refine HSub.reserve ?_ _ | refine HSub.put ?_ (by omega) _)); done) | fail) only [↓wpPre, wpPost, wpPoly, Int.reduceToNat, Int.reducePow, Int.reduceMul, Int.reduceAdd, Int.reduceSub, Int.reduceNeg, Nat.reduceAdd, Nat.reduceMul, Nat.reducePow, Int.reduceLT, Int.reduceLE, Int.reduceEq, Nat.reduceEqDiff]
  refine ACallsK.eq (heavy_spec (hC.sub (T' := T38) (by decide)) ha hb sa sb (by omega)) ?_
  by_cases c5 : 499122176 < sumAbs a * maxAbs b
  · rw [if_pos c5] at pe2
    simp -implicitDefEqProofs (disch := first | assumption | decide | omega | (simp -implicitDefEqProofs only [wpD1] <;> omega) | (refine not_in_one ?_; first | omega | (simp -implicitDefEqProofs only [wpD1] <;> omega) | fail) | (simp -implicitDefEqProofs only [wpD2] <;> assumption) | ((repeat (first | exact HSub.refl _ | assumption | refine HSub.push ?_ _ | refine HSub.reserve ?_ _ | refine HSub.put ?_ (by omega) _)); done) | fail) only [↓wpPre, wpPost, wpPoly, Int.reduceToNat, Int.reducePow, Int.reduceMul, Int.reduceAdd, Int.reduceSub, Int.reduceNeg, Nat.reduceAdd, Nat.reduceMul, Nat.reducePow, Int.reduceLT, Int.reduceLE, Int.reduceEq, Nat.reduceEqDiff]
    exact fin 5 pe2 (by decide)
  rw [if_neg c5] at pe2
  simp -implicitDefEqProofs (disch := first | assumption | decide | omega | (simp -implicitDefEqProofs only [wpD1] <;> omega) | (refine not_in_one ?_; first | omega | (simp -implicitDefEqProofs only [wpD1] <;> omega) | fail) | (simp -implicitDefEqProofs only [wpD2] <;> assumption) | ((repeat (first | exact HSub.refl _ | assumption | refine HSub.push ?_ _ | refine HSub.reserve ?_ _ | refine HSub.put ?_ (by omega) _)); done) | fail) only [↓wpPre, wpPost, wpPoly, Int.reduceToNat, Int.reducePow, Int.reduceMul, Int.reduceAdd, Int.reduceSub, Int.reduceNeg, Nat.reduceAdd, Nat.reduceMul, Nat.reducePow, Int.reduceLT, Int.reduceLE, Int.reduceEq, Nat.reduceEqDiff]
  refine ACallsK.of (Clone_spec (hC.sub (T' := T42) (by decide)) ha (by omega)) ?_
  rintro r h1 ⟨s1, i, hi, rfl, hg⟩
  simp -implicitDefEqProofs (disch := first | assumption | decide | omega | (simp -implicitDefEqProofs only [wpD1] <;> omega) | (refine not_in_one ?_; first | omega | (simp -implicitDefEqProofs only [wpD1] <;> omega) | fail) | (simp -implicitDefEqProofs only [wpD2] <;> assumption) | ((repeat (first | exact HSub.refl _ | assumption | refine HSub.push ?_ _ | refine HSub.reserve ?_ _ | refine HSub.put ?_ (by omega) _)); done) | fail) only [↓wpPre, wpPost, wpPoly, Int.reduceToNat, Int.reducePow, Int.reduceMul, Int.reduceAdd, Int.reduceSub, Int.reduceNeg, Nat.reduceAdd, Nat.reduceMul, Nat.reducePow, Int.reduceLT, Int.reduceLE, Int.reduceEq, Nat.reduceEqDiff]
  refine ACallsK.of (Reverse_spec (hC.sub (T' := T43) (by decide)) hg (by omega) (by omega)) ?_
  rintro r h2 rfl
  have hi1 := Heap.lt_of_get hg
  have s2 : HSub h (h1.put i (.cells (ints a.reverse) true 1)) := s1.put hi _
  have hrl : a.reverse.length = a.length := List.length_reverse
  have Rr : RI (h1.put i (.cells (ints a.reverse) true 1)) (.slice i 0 a.length (.unk 0)) a.reverse := by
    have := Grw.fresh (l := a.reverse) (i := i) s2 hi (by omega) (get_put_eq rfl hi1)
    rw [hrl] at this
    exact this.ri
  simp -implicitDefEqProofs (disch := first | assumption | decide | omega | (simp -implicitDefEqProofs only [wpD1] <;> omega) | (refine not_in_one ?_; first | omega | (simp -implicitDefEqProofs only [wpD1] <;> omega) | fail) | (simp -implicitDefEqProofs only [wpD2] <;> assumption) | ((repeat (first | exact HSub.refl _ | assumption | refine HSub.push ?_ _ | refine HSub.reserve ?_ _ | refine HSub.put ?_ (by omega) _)); done) | fail) only [↓wpPre, wpPost, wpPoly, Int.reduceToNat, Int.reducePow, Int.reduceMul, Int.reduceAdd, Int.reduceSub, Int.reduceNeg, Nat.reduceAdd, Nat.reduceMul, Nat.reducePow, Int.reduceLT, Int.reduceLE, Int.reduceEq, Nat.reduceEqDiff]
  refine ACallsK.of (product_spec (hC.sub (T' := T39) (by decide)) Rr (hb.mono s2) (fun x hx => sa x (List.mem_reverse.1 hx)) sb (by omega) (by rw [sumAbs_reverse]; omega)) ?_
  rintro r h3 ⟨s3, R3, _⟩
  rw [← hc] at R3
  have cb := cb0 (by omega)
  have fc := fc0 hl
  have fb := fb0 hl (by omega)
  have l3 := R3.lt
  simp -implicitDefEqProofs (disch := first | assumption | decide | omega | (simp -implicitDefEqProofs only [wpD1] <;> omega) | (refine not_in_one ?_; first | omega | (simp -implicitDefEqProofs only [wpD1] <;> omega) | fail) | (simp -implicitDefEqProofs only [wpD2] <;> assumption) | ((repeat (first | exact HSub.refl _ | assumption | refine HSub.push ?_ _ | refine HSub.reserve ?_ _ | refine HSub.put ?_ (by omega) _)); done) | fail) only [↓wpPre, wpPost, wpPoly, Int.reduceToNat, Int.reducePow, Int.reduceMul, Int.reduceAdd, Int.reduceSub, Int.reduceNeg, Nat.reduceAdd, Nat.reduceMul, Nat.reducePow, Int.reduceLT, Int.reduceLE, Int.reduceEq, Nat.reduceEqDiff, R3.len, ints_replicate]
  have hN : ∀ f : Nat → Int, ((List.range a.length).map f).length = a.length := fun f => by simp
  refine wp_loopI (fun j t h' => ∃ k : Nat, h' = h3.push (.cells (ints ((List.range a.length).map (fun m => fldS c a.length m k))) true 0) ∧ t 6 = .int .i64 a.length ∧ t 10 = .slice h3.size 0 a.length (.known a.length) ∧ t 52 = r ∧ t 53 = .int .i64 c.length ∧ t 54 = .int .i64 (k : Nat) ∧ k ≤ c.length ∧ j = c.length - k) (j0 := c.length)
    ⟨0, ?_, rfl, rfl, rfl, rfl, rfl, by omega, rfl⟩ ?_
  · have e : (List.range a.length).map (fun m => fldS c a.length m 0) = List.replicate a.length 0 := by
      have : (fun m => fldS c a.length m 0) = fun _ => 0 := by funext n; simp [fldS]
      rw [this, List.map_const', List.length_range]
    rw [e]
  rintro j t h4 ⟨k, rfl, e6, e10, e52, e53, e54, hk, hj⟩
  simp -implicitDefEqProofs (disch := first | assumption | decide | omega | (simp -implicitDefEqProofs only [wpD1] <;> omega) | (refine not_in_one ?_; first | omega | (simp -implicitDefEqProofs only [wpD1] <;> omega) | fail) | (simp -implicitDefEqProofs only [wpD2] <;> assumption) | ((repeat (first | exact HSub.refl _ | assumption | refine HSub.push ?_ _ | refine HSub.reserve ?_ _ | refine HSub.put ?_ (by omega) _)); done) | fail) only [↓wpPre, wpPost, wpPoly, Int.reduceToNat, Int.reducePow, Int.reduceMul, Int.reduceAdd, Int.reduceSub, Int.reduceNeg, Nat.reduceAdd, Nat.reduceMul, Nat.reducePow, Int.reduceLT, Int.reduceLE, Int.reduceEq, Nat.reduceEqDiff, e53, e54]
  refine Br.by (fun c1 => ?_) (fun c1 => ?_)
  · have hk' : k < c.length := by omega
    have hm : (k + 1) % a.length < a.length := Nat.mod_lt _ (by omega)
    have f1 := fb ((k + 1) % a.length) k hm (by omega)
    have f2 := cb _ (getD_mem hk')
    have e3 : ((k : Int) + 1) % a.length = (((k + 1) % a.length : Nat) : Int) := by
      rw [show (k : Int) + 1 = ((k + 1 : Nat) : Int) by omega]; exact (Int.natCast_emod _ _).symm
    have hNk := hN (fun m => fldS c a.length m k)
    have g : ((List.range a.length).map (fun m => fldS c a.length m k)).getD ((k + 1) % a.length) 0 = fldS c a.length ((k + 1) % a.length) k := by rw [range_get hm]
    have st : ((List.range a.length).map (fun m => fldS c a.length m k)).set ((k + 1) % a.length) (fldS c a.length ((k + 1) % a.length) k + c.getD k 0) = (List.range a.length).map (fun m => fldS c a.length m (k + 1)) :=
      range_set (by simp [fldS]) (fun n hn => by simp [fldS, Ne.symm hn])
    generalize (k + 1) % a.length = q at hm f1 e3 g st
    simp -implicitDefEqProofs (disch := first | assumption | decide | omega | (simp -implicitDefEqProofs only [wpD1] <;> omega) | (refine not_in_one ?_; first | omega | (simp -implicitDefEqProofs only [wpD1] <;> omega) | fail) | (simp -implicitDefEqProofs only [wpD2] <;> assumption) | ((repeat (first | exact HSub.refl _ | assumption | refine HSub.push ?_ _ | refine HSub.reserve ?_ _ | refine HSub.put ?_ (by omega) _)); done) | fail) only [↓wpPre, wpPost, wpPoly, Int.reduceToNat, Int.reducePow, Int.reduceMul, Int.reduceAdd, Int.reduceSub, Int.reduceNeg, Nat.reduceAdd, Nat.reduceMul, Nat.reducePow, Int.reduceLT, Int.reduceLE, Int.reduceEq, Nat.reduceEqDiff, e6, e10, e52, e53, e54, R3.idx, R3.loadC, e3, g, st]
    exact ⟨_, ⟨k + 1, rfl, by simp, by omega, rfl⟩, by omega⟩
  · have : k = c.length := by omega
    subst this
    simp -implicitDefEqProofs (disch := first | assumption | decide | omega | (simp -implicitDefEqProofs only [wpD1] <;> omega) | (refine not_in_one ?_; first | omega | (simp -implicitDefEqProofs only [wpD1] <;> omega) | fail) | (simp -implicitDefEqProofs only [wpD2] <;> assumption) | ((repeat (first | exact HSub.refl _ | assumption | refine HSub.push ?_ _ | refine HSub.reserve ?_ _ | refine HSub.put ?_ (by omega) _)); done) | fail) only [↓wpPre, wpPost, wpPoly, Int.reduceToNat, Int.reducePow, Int.reduceMul, Int.reduceAdd, Int.reduceSub, Int.reduceNeg, Nat.reduceAdd, Nat.reduceMul, Nat.reducePow, Int.reduceLT, Int.reduceLE, Int.reduceEq, Nat.reduceEqDiff, e10]
    have e : (List.range a.length).map (fun m => fldS c a.length m c.length) = circ a b := by
      refine list_ext (by simp [circ]) fun m hm => ?_
      simp only [List.length_map, List.length_range] at hm
      rw [range_get hm, cl, fc m hm]
    rw [e]
    have ccl := circ_length a b
    exact ⟨.slice h3.size 0 a.length (.known a.length), by simp only [pe2, lstErr], (s2.trans s3).push _, by rw [if_pos pe2]; exact RI.known (get_push_eq rfl) ⟨by rw [ccl], by omega⟩ (by omega)⟩

end
end Go.Ae

/- The statement on products of layer 10, over the lowered code. -/
set_option linter.unusedSimpArgs false
set_option linter.unusedVariables false
namespace Go.Ae
section
variable {C : Ctx}
set_option maxRecDepth 100000 in
set_option maxHeartbeats 1000000 in
theorem NttProducts_law (hC : Has C T2) {va vb : AV} {a b : List Int} {h : Heap} (ha : RI h va a) (hb : RI h vb b) (_hx : ∀ x ∈ a, In64 x) (_hy : ∀ x ∈ b, In64 x) : ACalls C 2 [va, vb] h (fun r _ => r = .bool true) := by
  have l1 := ha.lt
  have l2 := hb.lt
  by_cases c : 150 < a.length
  · (refine calls_intro (hC.body (by decide) tab2) (Nat.le_of_ble_eq_true rfl) ?_); (show wp C _ none B2.code _ _); (simp only [B2]); simp -implicitDefEqProofs (disch := first | assumption | decide | omega | (simp -implicitDefEqProofs only [wpD1] <;> omega) | (refine not_in_one ?_; first | omega | (simp -implicitDefEqProofs only [wpD1] <;> omega) | fail) | (simp -implicitDefEqProofs only [wpD2] <;> assumption) | ((repeat (first | exact HSub.refl _ | assumption | refine HSub.push ?_ _ | refine HSub.reserve ?_ _ | refine HSub.put ?_ (by omega) _)); done) | fail) only [↓wpPre, wpPost, wpPoly, Int.reduceToNat, Int.reducePow, Int.reduceMul, Int.reduceAdd, Int.reduceSub, Int.reduceNeg, Nat.reduceAdd, Nat.reduceMul, Nat.reducePow, Int.reduceLT, Int.reduceLE, Int.reduceEq, Nat.reduceEqDiff, ha.len]
    refine ACallsK.eq (awake10_spec (hC.sub (T' := T7) (by decide))) ?_
    simp -implicitDefEqProofs (disch := first | assumption | decide | omega | (simp -implicitDefEqProofs only [wpD1] <;> omega) | (refine not_in_one ?_; first | omega | (simp -implicitDefEqProofs only [wpD1] <;> omega) | fail) | (simp -implicitDefEqProofs only [wpD2] <;> assumption) | ((repeat (first | exact HSub.refl _ | assumption | refine HSub.push ?_ _ | refine HSub.reserve ?_ _ | refine HSub.put ?_ (by omega) _)); done) | fail) only [↓wpPre, wpPost, wpPoly, Int.reduceToNat, Int.reducePow, Int.reduceMul, Int.reduceAdd, Int.reduceSub, Int.reduceNeg, Nat.reduceAdd, Nat.reduceMul, Nat.reducePow, Int.reduceLT, Int.reduceLE, Int.reduceEq, Nat.reduceEqDiff]
  by_cases c2 : 150 < b.length
  · (refine calls_intro (hC.body (by decide) tab2) (Nat.le_of_ble_eq_true rfl) ?_); (show wp C _ none B2.code _ _); (simp only [B2]); simp -implicitDefEqProofs (disch := first | assumption | decide | omega | (simp -implicitDefEqProofs only [wpD1] <;> omega) | (refine not_in_one ?_; first | omega | (simp -implicitDefEqProofs only [wpD1] <;> omega) | fail) | (simp -implicitDefEqProofs only [wpD2] <;> assumption) | ((repeat (first | exact HSub.refl _ | assumption | refine HSub.push ?_ _ | refine HSub.reserve ?_ _ | refine HSub.put ?_ (by omega) _)); done) | fail) only [↓wpPre, wpPost, wpPoly, Int.reduceToNat, Int.reducePow, Int.reduceMul, Int.reduceAdd, Int.reduceSub, Int.reduceNeg, Nat.reduceAdd, Nat.reduceMul, Nat.reducePow, Int.reduceLT, Int.reduceLE, Int.reduceEq, Nat.reduceEqDiff, ha.len, hb.len]
    refine ACallsK.eq (awake10_spec (hC.sub (T' := T7) (by decide))) ?_
    simp -implicitDefEqProofs (disch := first | assumption | decide | omega | (simp -implicitDefEqProofs only [wpD1] <;> omega) | (refine not_in_one ?_; first | omega | (simp -implicitDefEqProofs only [wpD1] <;> omega) | fail) | (simp -implicitDefEqProofs only [wpD2] <;> assumption) | ((repeat (first | exact HSub.refl _ | assumption | refine HSub.push ?_ _ | refine HSub.reserve ?_ _ | refine HSub.put ?_ (by omega) _)); done) | fail) only [↓wpPre, wpPost, wpPoly, Int.reduceToNat, Int.reducePow, Int.reduceMul, Int.reduceAdd, Int.reduceSub, Int.reduceNeg, Nat.reduceAdd, Nat.reduceMul, Nat.reducePow, Int.reduceLT, Int.reduceLE, Int.reduceEq, Nat.reduceEqDiff]
  (refine calls_intro (hC.body (by decide) tab2) (Nat.le_of_ble_eq_true rfl) ?_); (show wp C _ none B2.code _ _); (simp only [B2]); simp -implicitDefEqProofs (disch := first | assumption | decide | omega | (simp -implicitDefEqProofs only [wpD1] <;> omega) | (refine not_in_one ?_; first | omega | (simp -implicitDefEqProofs only [wpD1] <;> omega) | fail) | (simp -implicitDefEqProofs only [wpD2] <;> assumption) | ((repeat (first | exact HSub.refl _ | assumption | refine HSub.push ?_ _ | refine HSub.reserve ?_ _ | refine HSub.put ?_ (by omega) _)); done) | fail) only [↓wpPre, wpPost, wpPoly, Int.reduceToNat, Int.reducePow, Int.reduceMul, Int.reduceAdd, Int.reduceSub, Int.reduceNeg, Nat.reduceAdd, Nat.reduceMul, Nat.reducePow, Int.reduceLT, Int.reduceLE, Int.reduceEq, Nat.reduceEqDiff, ha.len, hb.len]
  refine ACallsK.of (Product_spec (hC.sub (T' := T19) (by decide)) ha hb (by omega)) ?_
  rintro r h1 ⟨v1, rfl, s1, R1, _⟩
  simp -implicitDefEqProofs (disch := first | assumption | decide | omega | (simp -implicitDefEqProofs only [wpD1] <;> omega) | (refine not_in_one ?_; first | omega | (simp -implicitDefEqProofs only [wpD1] <;> omega) | fail) | (simp -implicitDefEqProofs only [wpD2] <;> assumption) | ((repeat (first | exact HSub.refl _ | assumption | refine HSub.push ?_ _ | refine HSub.reserve ?_ _ | refine HSub.put ?_ (by omega) _)); done) | fail) only [↓wpPre, wpPost, wpPoly, Int.reduceToNat, Int.reducePow, Int.reduceMul, Int.reduceAdd, Int.reduceSub, Int.reduceNeg, Nat.reduceAdd, Nat.reduceMul, Nat.reducePow, Int.reduceLT, Int.reduceLE, Int.reduceEq, Nat.reduceEqDiff, lstErr]
  refine ACallsK.of (ProductR_both (hC.sub (T' := T20) (by decide)) (ha.mono s1) (hb.mono s1) (by omega)) ?_
  rintro r h2 ⟨v2, rfl, s2, R2⟩
  have s12 := s1.trans s2
  simp -implicitDefEqProofs (disch := first | assumption | decide | omega | (simp -implicitDefEqProofs only [wpD1] <;> omega) | (refine not_in_one ?_; first | omega | (simp -implicitDefEqProofs only [wpD1] <;> omega) | fail) | (simp -implicitDefEqProofs only [wpD2] <;> assumption) | ((repeat (first | exact HSub.refl _ | assumption | refine HSub.push ?_ _ | refine HSub.reserve ?_ _ | refine HSub.put ?_ (by omega) _)); done) | fail) only [↓wpPre, wpPost, wpPoly, Int.reduceToNat, Int.reducePow, Int.reduceMul, Int.reduceAdd, Int.reduceSub, Int.reduceNeg, Nat.reduceAdd, Nat.reduceMul, Nat.reducePow, Int.reduceLT, Int.reduceLE, Int.reduceEq, Nat.reduceEqDiff, lstErr]
  refine ACallsK.of (CircularN_spec (hC.sub (T' := T21) (by decide)) (ha.mono s12) (hb.mono s12)) ?_
  rintro r h3 ⟨v3, rfl, s3, R3⟩
  have s13 := s12.trans s3
  simp -implicitDefEqProofs (disch := first | assumption | decide | omega | (simp -implicitDefEqProofs only [wpD1] <;> omega) | (refine not_in_one ?_; first | omega | (simp -implicitDefEqProofs only [wpD1] <;> omega) | fail) | (simp -implicitDefEqProofs only [wpD2] <;> assumption) | ((repeat (first | exact HSub.refl _ | assumption | refine HSub.push ?_ _ | refine HSub.reserve ?_ _ | refine HSub.put ?_ (by omega) _)); done) | fail) only [↓wpPre, wpPost, wpPoly, Int.reduceToNat, Int.reducePow, Int.reduceMul, Int.reduceAdd, Int.reduceSub, Int.reduceNeg, Nat.reduceAdd, Nat.reduceMul, Nat.reducePow, Int.reduceLT, Int.reduceLE, Int.reduceEq, Nat.reduceEqDiff, lstErr]
  refine ACallsK.of (CircularR_spec (hC.sub (T' := T22) (by decide)) (ha.mono s13) (hb.mono s13)) ?_
  rintro r h4 ⟨v4, rfl, s4, R4⟩
  simp -implicitDefEqProofs (disch := first | assumption | decide | omega | (simp -implicitDefEqProofs only [wpD1] <;> omega) | (refine not_in_one ?_; first | omega | (simp -implicitDefEqProofs only [wpD1] <;> omega) | fail) | (simp -implicitDefEqProofs only [wpD2] <;> assumption) | ((repeat (first | exact HSub.refl _ | assumption | refine HSub.push ?_ _ | refine HSub.reserve ?_ _ | refine HSub.put ?_ (by omega) _)); done) | fail) only [↓wpPre, wpPost, wpPoly, Int.reduceToNat, Int.reducePow, Int.reduceMul, Int.reduceAdd, Int.reduceSub, Int.reduceNeg, Nat.reduceAdd, Nat.reduceMul, Nat.reducePow, Int.reduceLT, Int.reduceLE, Int.reduceEq, Nat.reduceEqDiff, lstErr]
  refine ACallsK.eq (Equal_spec (hC.sub (T' := T12) (by decide)) (R1.mono ((s2.trans s3).trans s4)) (R2.mono (s3.trans s4))) ?_
  simp -implicitDefEqProofs (disch := first | assumption | decide | omega | (simp -implicitDefEqProofs only [wpD1] <;> omega) | (refine not_in_one ?_; first | omega | (simp -implicitDefEqProofs only [wpD1] <;> omega) | fail) | (simp -implicitDefEqProofs only [wpD2] <;> assumption) | ((repeat (first | exact HSub.refl _ | assumption | refine HSub.push ?_ _ | refine HSub.reserve ?_ _ | refine HSub.put ?_ (by omega) _)); done) | fail) only [↓wpPre, wpPost, wpPoly, Int.reduceToNat, Int.reducePow, Int.reduceMul, Int.reduceAdd, Int.reduceSub, Int.reduceNeg, Nat.reduceAdd, Nat.reduceMul, Nat.reducePow, Int.reduceLT, Int.reduceLE, Int.reduceEq, Nat.reduceEqDiff]
  refine ACallsK.eq (Equal_spec (hC.sub (T' := T12) (by decide)) (R3.mono s4) R4) ?_
  simp -implicitDefEqProofs (disch := first | assumption | decide | omega | (simp -implicitDefEqProofs only [wpD1] <;> omega) | (refine not_in_one ?_; first | omega | (simp -implicitDefEqProofs only [wpD1] <;> omega) | fail) | (simp -implicitDefEqProofs only [wpD2] <;> assumption) | ((repeat (first | exact HSub.refl _ | assumption | refine HSub.push ?_ _ | refine HSub.reserve ?_ _ | refine HSub.put ?_ (by omega) _)); done) | fail) only [↓wpPre, wpPost, wpPoly, Int.reduceToNat, Int.reducePow, Int.reduceMul, Int.reduceAdd, Int.reduceSub, Int.reduceNeg, Nat.reduceAdd, Nat.reduceMul, Nat.reducePow, Int.reduceLT, Int.reduceLE, Int.reduceEq, Nat.reduceEqDiff]
  refine ACallsK.eq (awake10_spec (hC.sub (T' := T7) (by decide))) ?_
  simp -implicitDefEqProofs (disch := first | assumption | decide | omega | (simp -implicitDefEqProofs only [wpD1] <;> omega) | (refine not_in_one ?_; first | omega | (simp -implicitDefEqProofs only [wpD1] <;> omega) | fail) | (simp -implicitDefEqProofs only [wpD2] <;> assumption) | ((repeat (first | exact HSub.refl _ | assumption | refine HSub.push ?_ _ | refine HSub.reserve ?_ _ | refine HSub.put ?_ (by omega) _)); done) | fail) only [↓wpPre, wpPost, wpPoly, Int.reduceToNat, Int.reducePow, Int.reduceMul, Int.reduceAdd, Int.reduceSub, Int.reduceNeg, Nat.reduceAdd, Nat.reduceMul, Nat.reducePow, Int.reduceLT, Int.reduceLE, Int.reduceEq, Nat.reduceEqDiff]
end
end Go.Ae

/- Transforms undo each other; sums, rotations and circular convolutions of lists under the transform. -/
set_option linter.unusedSimpArgs false
set_option linter.unusedVariables false
namespace Go.Ae

theorem root_one {n : Nat} (h : isLen n = true) : Cg (rootI n ^ n) 1 := by
  obtain ⟨m, hm, rfl⟩ := isLen_pow h
  rcases Nat.eq_zero_or_pos m with e | e
  · subst e
    simp only [Nat.pow_zero, Int.pow_one]
    have h3 : Cg (3 ^ 499122176) (-1) := by unfold Cg; rw [three_half]; decide
    have h4 := h3.pow 2
    rw [← Int.pow_mul] at h4
    unfold rootI powI
    have e5 : (998244352 / ((1 : Nat) : Int)).toNat = 499122176 * 2 := by decide
    rw [e5]
    exact h4.emod
  · have h1 := root_ok hm (m - 1) (by omega)
    have hc : Cg (rootI ((2 ^ m : Nat) : Int) ^ 2 ^ (m - 1)) (-1) := by unfold Cg; rw [h1]; decide
    have h2 := hc.pow 2
    rw [← Int.pow_mul, show 2 ^ (m - 1) * 2 = 2 ^ m by rw [← Nat.pow_succ]; congr 1; omega] at h2
    exact h2
theorem root_one_pow {n : Nat} (h : isLen n = true) (j : Nat) : Cg ((rootI n ^ j) ^ n) 1 := by
  rw [← Int.pow_mul, Nat.mul_comm, Int.pow_mul]
  have := (root_one h).pow j
  rwa [Int.one_pow] at this

theorem list_range {l : List Int} : (List.range l.length).map (fun i => l.getD i 0) = l := by
  refine list_ext (by simp) fun i hi => ?_
  simp only [List.length_map, List.length_range] at hi
  rw [range_get hi]

/-- Transform undoes Inverse. -/
theorem dft_inv {l : List Int} (hl : isLen l.length = true) (hr : ∀ x ∈ l, 0 ≤ x ∧ x < 998244353) : dft (rootI l.length) (invI l) = l := by
  obtain ⟨m, hm, he⟩ := isLen_pow hl
  have il := invI_length l
  refine list_ext (by rw [dft_length, il]) fun i hi => ?_
  rw [dft_length, il] at hi
  have hb := hr _ (getD_mem hi)
  have hw := root_ok hm
  have hv := hw.inv
  have hwv : 1 ≤ m → Cg (powI (rootI ((2 ^ m : Nat) : Int)) 998244351 * rootI ((2 ^ m : Nat) : Int)) 1 := fun h => by rw [Int.mul_comm]; exact root_inv hm h
  have key := dft_dft hv hw hwv he (i := i) (by omega)
  rw [dft_get (by omega)]
  have e : Cg (pe (invI l) (rootI l.length ^ i)) (powI ((2 ^ m : Nat) : Int) 998244351 * pe (dft (powI (rootI l.length) 998244351) l) (rootI l.length ^ i)) := by
    unfold invI
    rw [← pe_scale, he]
    generalize dft (powI (rootI ((2 ^ m : Nat) : Int)) 998244351) l = d
    induction d with
    | nil => exact Cg.refl _
    | cons x d ih =>
      refine Cg.add ?_ ((Cg.refl _).mul ih)
      show Cg (x * powI ((2 ^ m : Nat) : Int) 998244351 % pP) (powI ((2 ^ m : Nat) : Int) 998244351 * x)
      rw [Int.mul_comm x]; exact (Cg.refl _).emod
  rw [he] at e ⊢
  have h2 := e.trans ((Cg.refl (powI ((2 ^ m : Nat) : Int) 998244351)).mul key)
  have h5 : Cg (powI ((2 ^ m : Nat) : Int) 998244351 * (((2 ^ m : Nat) : Int) * l.getD i 0)) (l.getD i 0) := by
    rw [← Int.mul_assoc, Int.mul_comm (powI _ _)]
    have := (pow_inv m hm).mul (Cg.refl (l.getD i 0))
    rwa [Int.one_mul] at this
  have h6 := h2.trans h5
  unfold Cg at h6
  rw [h6]; exact Int.emod_eq_of_lt hb.1 hb.2

def sumR (a b : List Int) (n : Nat) : List Int := (List.range n).map fun j => (a.getD j 0 + b.getD j 0) % pP
theorem pe_sumR {a b : List Int} {n : Nat} (ha : a.length = n) (hb : b.length = n) (z : Int) : Cg (pe (sumR a b n) z) (pe a z + pe b z) := by
  have e1 := @list_range a
  have e2 := @list_range b
  rw [ha] at e1; rw [hb] at e2
  have h1 := Cg.pe_map (f := fun j => (a.getD j 0 + b.getD j 0) % pP) (g := fun j => a.getD j 0 + b.getD j 0) (fun k => (Cg.refl _).emod) z (List.range n)
  rw [pe_map_add, e1, e2] at h1
  exact h1
theorem dft_sum {a b : List Int} {n : Nat} (ha : a.length = n) (hb : b.length = n) (w : Int) {j : Nat} (hj : j < n) : (dft w (sumR a b n)).getD j 0 = ((dft w a).getD j 0 + (dft w b).getD j 0) % pP := by
  have hs : (sumR a b n).length = n := by simp [sumR]
  rw [dft_get (by omega), dft_get (by omega), dft_get (by omega)]
  exact (pe_sumR ha hb _).trans ((Cg.refl _).emod.add (Cg.refl _).emod).symm

def turnR (a : List Int) (n : Nat) : List Int := (List.range n).map fun j => a.getD ((j + n - 1) % n) 0
theorem turnR_eq {a : List Int} {n : Nat} (ha : a.length = n) (h1 : 1 ≤ n) : turnR a n = a.getD (n - 1) 0 :: a.take (n - 1) := by
  refine list_ext (by simp [turnR, ha]; omega) fun i hi => ?_
  simp only [turnR, List.length_map, List.length_range] at hi
  unfold turnR
  rw [range_get hi]
  match i, hi with
  | 0, _ =>
    rw [List.getD_cons_zero, show (0 + n - 1) % n = n - 1 by rw [Nat.zero_add]; exact Nat.mod_eq_of_lt (by omega)]
  | i + 1, hi =>
    rw [List.getD_cons_succ, show i + 1 + n - 1 = i + n by omega, Nat.add_mod_right, Nat.mod_eq_of_lt (by omega)]
    simp only [List.getD_eq_getElem?_getD]
    rw [List.getElem?_take_of_lt (by omega)]
theorem pe_turnR {a : List Int} {n : Nat} (ha : a.length = n) (h1 : 1 ≤ n) {z : Int} (hz : Cg (z ^ n) 1) : Cg (pe (turnR a n) z) (pe a z * z) := by
  rw [turnR_eq ha h1]
  have e : pe a z = pe (a.take (n - 1)) z + a.getD (n - 1) 0 * z ^ (n - 1) := by
    have := pe_take_succ (l := a) (i := n - 1) (by omega) z
    rw [show n - 1 + 1 = a.length by omega, List.take_length] at this
    exact this
  rw [e, Int.add_mul, Int.mul_assoc, ← Int.pow_succ, show (n - 1).succ = n by omega, Int.mul_comm (pe _ _)]
  simp only [pe]
  rw [Int.add_comm]
  refine (Cg.refl _).add ?_
  have := (Cg.refl (a.getD (n - 1) 0)).mul hz.symm
  rwa [Int.mul_one] at this
theorem dft_turn {a : List Int} {n : Nat} (ha : a.length = n) (hn : isLen n = true) {j : Nat} (hj : j < n) : (dft (rootI n) (turnR a n)).getD j 0 = (dft (rootI n) a).getD j 0 * (rootI n ^ j % pP) % pP := by
  have hs : (turnR a n).length = n := by simp [turnR]
  rw [dft_get (by omega), dft_get (by omega)]
  exact (pe_turnR ha (by omega) (root_one_pow hn j)).trans ((Cg.refl _).emod.mul (Cg.refl _).emod).symm

theorem pe_set : ∀ {l : List Int} {k : Nat} (y z : Int), k < l.length → pe (l.set k y) z = pe l z + (y - l.getD k 0) * z ^ k
  | [], k, y, z, h => by simp at h
  | x :: l, 0, y, z, _ => by simp only [List.set_cons_zero, pe, List.getD_cons_zero, Int.pow_zero, Int.mul_one]; omega
  | x :: l, k + 1, y, z, h => by
    have ih := pe_set (l := l) (k := k) y z (by simpa using h)
    simp only [List.set_cons_succ, pe, List.getD_cons_succ, ih, Int.mul_add, Int.pow_succ]
    rw [Int.mul_left_comm, Int.mul_comm z (z ^ k)]
    omega
theorem pow_mod_n {z : Int} {n : Nat} (hz : Cg (z ^ n) 1) (m : Nat) : Cg (z ^ (m % n)) (z ^ m) := by
  have e := Nat.div_add_mod m n
  have : z ^ m = (z ^ n) ^ (m / n) * z ^ (m % n) := by rw [← Int.pow_mul, ← Int.pow_add, e]
  rw [this]
  have h := (hz.pow (m / n)).mul (Cg.refl (z ^ (m % n)))
  rw [Int.one_pow, Int.one_mul] at h
  exact h.symm
/-- One step of a circular convolution. -/
theorem conv_step {c : List Int} {n m : Nat} {x : Int} {z : Int} (hc : c.length = n) (h1 : 1 ≤ n) (hz : Cg (z ^ n) 1) : Cg (pe (c.set (m % n) ((c.getD (m % n) 0 + x) % pP)) z) (pe c z + x * z ^ m) := by
  rw [pe_set _ _ (by rw [hc]; exact Nat.mod_lt _ (by omega))]
  refine (Cg.refl _).add (Cg.mul ?_ (pow_mod_n hz m))
  have : Cg ((c.getD (m % n) 0 + x) % pP - c.getD (m % n) 0) (c.getD (m % n) 0 + x - c.getD (m % n) 0) := (Cg.refl _).emod.sub (Cg.refl _)
  refine this.trans (Cg.of_eq (by omega))
theorem dft_conv {a b c : List Int} {n : Nat} (ha : a.length = n) (hb : b.length = n) (hc : c.length = n) (hn : isLen n = true) (h : ∀ z, Cg (z ^ n) 1 → Cg (pe c z) (pe a z * pe b z)) {j : Nat} (hj : j < n) :
    (dft (rootI n) c).getD j 0 = (dft (rootI n) a).getD j 0 * (dft (rootI n) b).getD j 0 % pP := by
  rw [dft_get (by omega), dft_get (by omega), dft_get (by omega)]
  exact (h _ (root_one_pow hn j)).trans ((Cg.refl _).emod.mul (Cg.refl _).emod).symm
end Go.Ae

/- The statements on transforms of layer 10 that select lists of residues. -/
set_option linter.unusedSimpArgs false
set_option linter.unusedVariables false
namespace Go.Ae
section
variable {C : Ctx}

theorem known10_run : runsTo (tabIn T3) 1000 60 3 [] = true := by kernel_rfl
theorem known10_spec (hC : Has C T3) {h : Heap} : ACalls C 3 [] h (fun r h' => r = .bool true ∧ h' = h) :=
  runsTo_sound (tabIn_ok hC) (by simp) known10_run h

def resL (l : List Int) (n : Nat) : List Int := (List.range n).map fun i => someOf l i 998244353
theorem resL_length (l : List Int) (n : Nat) : (resL l n).length = n := by simp [resL]
theorem resL_succ (l : List Int) (n : Nat) : resL l (n + 1) = resL l n ++ [someOf l n 998244353] := by simp [resL, List.range_succ]
theorem someOf_range {l : List Int} {i : Nat} {n : Int} (hn : 1 ≤ n) : 0 ≤ someOf l i n ∧ someOf l i n < n := by
  unfold someOf
  split
  · exact ⟨Int.emod_nonneg _ (by omega), Int.emod_lt_of_pos _ (by omega)⟩
  · omega
theorem resL_range {l : List Int} {n : Nat} : ∀ x ∈ resL l n, 0 ≤ x ∧ x < 998244353 := by
  intro x hx
  obtain ⟨i, _, rfl⟩ := List.mem_map.1 hx
  exact someOf_range (by decide)

theorem residues_spec (hC : Has C T24) {v : AV} {l : List Int} {k n : Nat} {h : Heap} (hl : RI h v l) (hx : ∀ x ∈ l, In64 x) (hk : k ≤ 15) (hn : (2 : Int) ^ k = (n : Int)) (hn2 : n ≤ 32768) :
    ACalls C 24 [v, .int .i64 (k : Nat)] h (fun r h' => GrwI h h' r (resL l n)) := by
  (refine calls_intro (hC.body (by decide) tab24) (Nat.le_of_ble_eq_true rfl) ?_); (show wp C _ none B24.code _ _); (simp only [B24]); simp -implicitDefEqProofs (disch := first | assumption | decide | omega | (simp -implicitDefEqProofs only [wpD1] <;> omega) | (refine not_in_one ?_; first | omega | (simp -implicitDefEqProofs only [wpD1] <;> omega) | fail) | (simp -implicitDefEqProofs only [wpD2] <;> assumption) | ((repeat (first | exact HSub.refl _ | assumption | refine HSub.push ?_ _ | refine HSub.reserve ?_ _ | refine HSub.put ?_ (by omega) _)); done) | fail) only [↓wpPre, wpPost, wpPoly, Int.reduceToNat, Int.reducePow, Int.reduceMul, Int.reduceAdd, Int.reduceSub, Int.reduceNeg, Nat.reduceAdd, Nat.reduceMul, Nat.reducePow, Int.reduceLT, Int.reduceLE, Int.reduceEq, Nat.reduceEqDiff]
  refine wp_loopI (fun j t h' => ∃ i : Nat, GrwI h h' (t 5) (resL l i) ∧ t 0 = v ∧ t 1 = .int .i64 (k : Nat) ∧ t 6 = .int .i64 (i : Nat) ∧ i ≤ n ∧ j = n - i) (j0 := n) ⟨0, GrwI.nil h, rfl, rfl, rfl, by omega, rfl⟩ ?_
  rintro j t h' ⟨i, A, e0, e1, e6, hi, hj⟩
  simp -implicitDefEqProofs (disch := first | assumption | decide | omega | (simp -implicitDefEqProofs only [wpD1] <;> omega) | (refine not_in_one ?_; first | omega | (simp -implicitDefEqProofs only [wpD1] <;> omega) | fail) | (simp -implicitDefEqProofs only [wpD2] <;> assumption) | ((repeat (first | exact HSub.refl _ | assumption | refine HSub.push ?_ _ | refine HSub.reserve ?_ _ | refine HSub.put ?_ (by omega) _)); done) | fail) only [↓wpPre, wpPost, wpPoly, Int.reduceToNat, Int.reducePow, Int.reduceMul, Int.reduceAdd, Int.reduceSub, Int.reduceNeg, Nat.reduceAdd, Nat.reduceMul, Nat.reducePow, Int.reduceLT, Int.reduceLE, Int.reduceEq, Nat.reduceEqDiff, e1, e6, Int.one_mul, hn]
  refine Br.by (fun c => ?_) (fun c => ?_)
  · simp -implicitDefEqProofs (disch := first | assumption | decide | omega | (simp -implicitDefEqProofs only [wpD1] <;> omega) | (refine not_in_one ?_; first | omega | (simp -implicitDefEqProofs only [wpD1] <;> omega) | fail) | (simp -implicitDefEqProofs only [wpD2] <;> assumption) | ((repeat (first | exact HSub.refl _ | assumption | refine HSub.push ?_ _ | refine HSub.reserve ?_ _ | refine HSub.put ?_ (by omega) _)); done) | fail) only [↓wpPre, wpPost, wpPoly, Int.reduceToNat, Int.reducePow, Int.reduceMul, Int.reduceAdd, Int.reduceSub, Int.reduceNeg, Nat.reduceAdd, Nat.reduceMul, Nat.reducePow, Int.reduceLT, Int.reduceLE, Int.reduceEq, Nat.reduceEqDiff, e0, e6]
    refine ACallsK.eq (Some_spec (hC.sub (T' := T45) (by decide)) (hl.mono A.sub) hx (by decide)) ?_
    have rl := resL_length l i
    simp -implicitDefEqProofs (disch := first | assumption | decide | omega | (simp -implicitDefEqProofs only [wpD1] <;> omega) | (refine not_in_one ?_; first | omega | (simp -implicitDefEqProofs only [wpD1] <;> omega) | fail) | (simp -implicitDefEqProofs only [wpD2] <;> assumption) | ((repeat (first | exact HSub.refl _ | assumption | refine HSub.push ?_ _ | refine HSub.reserve ?_ _ | refine HSub.put ?_ (by omega) _)); done) | fail) only [↓wpPre, wpPost, wpPoly, Int.reduceToNat, Int.reducePow, Int.reduceMul, Int.reduceAdd, Int.reduceSub, Int.reduceNeg, Nat.reduceAdd, Nat.reduceMul, Nat.reducePow, Int.reduceLT, Int.reduceLE, Int.reduceEq, Nat.reduceEqDiff, e0, e1, e6, cont_slice, contB_one, A.app]
    rw [← resL_succ]
    refine ⟨_, ⟨i + 1, ?_, by simp, by omega, rfl⟩, by omega⟩
    rw [resL_succ]
    exact A.snoc (HSub.push1 _ _) (by omega)
  · have : i = n := by omega
    subst this
    simp -implicitDefEqProofs (disch := first | assumption | decide | omega | (simp -implicitDefEqProofs only [wpD1] <;> omega) | (refine not_in_one ?_; first | omega | (simp -implicitDefEqProofs only [wpD1] <;> omega) | fail) | (simp -implicitDefEqProofs only [wpD2] <;> assumption) | ((repeat (first | exact HSub.refl _ | assumption | refine HSub.push ?_ _ | refine HSub.reserve ?_ _ | refine HSub.put ?_ (by omega) _)); done) | fail) only [↓wpPre, wpPost, wpPoly, Int.reduceToNat, Int.reducePow, Int.reduceMul, Int.reduceAdd, Int.reduceSub, Int.reduceNeg, Nat.reduceAdd, Nat.reduceMul, Nat.reducePow, Int.reduceLT, Int.reduceLE, Int.reduceEq, Nat.reduceEqDiff]
    exact A
end
end Go.Ae

/- Two lists that grow side by side. -/
set_option linter.unusedSimpArgs false
set_option linter.unusedVariables false
namespace Go.Ae
def Dj (v w : AV) : Prop := ∀ i, i ∈ v.ids → i ∉ w.ids
theorem Dj.nilL {w : AV} : Dj .nilslice w := fun i hi => by simp [AV.ids] at hi
theorem Dj.nilR {v : AV} : Dj v .nilslice := fun i _ => by simp [AV.ids]
theorem Dj.symm {v w : AV} (h : Dj v w) : Dj w v := fun i hi hv => h i hv hi
section
variable {h0 h H : Heap} {sz sz' n m k k' : Nat} {v w : AV} {cs ds es : List AV} {c : Cap} {x : Int} {l l' : List Int}
theorem Grw.dj (B : Grw h0 h sz w n ds) (hk : h.size ≤ k) : Dj w (.slice k 0 k' c) := by
  obtain ⟨_, _, _, ⟨rfl, rfl⟩ | ⟨i, ex, hi, rfl, hg⟩⟩ := B
  · exact Dj.nilL
  · intro j hj
    have := Heap.lt_of_get hg
    simp only [AV.ids, List.mem_singleton] at hj ⊢
    omega
theorem Grw.keep (A : Grw h0 h sz' v m es) (B : Grw h0 h sz w n ds) (hs : HSub h H) (hd : Dj w v) : Grw h0 (snocH H none v sz' cs) sz w n ds := by
  have hsub : HSub h0 (snocH H none v sz' cs) := by
    obtain ⟨h1, _, _, ⟨rfl, rfl⟩ | ⟨i, ex, hi, rfl, hg⟩⟩ := A
    · exact (h1.trans hs).push _
    · exact ((h1.trans hs).put hi _).push _
  obtain ⟨h1, hl, hn, ⟨rfl, rfl⟩ | ⟨i, ex, hi, rfl, hg⟩⟩ := B
  · exact ⟨hsub, hl, hn, .inl ⟨rfl, rfl⟩⟩
  · refine ⟨hsub, hl, hn, .inr ⟨i, ex, hi, rfl, ?_⟩⟩
    have hlt := Heap.lt_of_get hg
    have hsz := hs.size
    have hH := (hs.get i hlt).trans hg
    obtain ⟨_, _, _, ⟨rfl, rfl⟩ | ⟨j, ex', hj, rfl, hg'⟩⟩ := A
    · exact (get_push_lt (by omega)).trans hH
    · have hne : i ≠ j := fun e => hd i (by simp [AV.ids]) (by simp [AV.ids, e])
      exact (get_push_lt (by simp only [Heap.size_put]; omega)).trans ((get_put_ne hne).trans hH)
theorem Grw.keepS (A : Grw h0 h sz' v m es) (B : Grw h0 h sz w n ds) (hs : HSub h H) (hk : h.size ≤ k ∧ k < H.size) (hd : Dj w v) : Grw h0 (snocH H (some k) v sz' cs) sz w n ds := by
  have hsub : HSub h0 (snocH H (some k) v sz' cs) := by
    have := A.sub.size
    obtain ⟨h1, _, _, ⟨rfl, rfl⟩ | ⟨i, ex, hi, rfl, hg⟩⟩ := A
    · exact (h1.trans hs).put (by omega) _
    · exact ((h1.trans hs).put hi _).put (by omega) _
  obtain ⟨h1, hl, hn, ⟨rfl, rfl⟩ | ⟨i, ex, hi, rfl, hg⟩⟩ := B
  · exact ⟨hsub, hl, hn, .inl ⟨rfl, rfl⟩⟩
  · refine ⟨hsub, hl, hn, .inr ⟨i, ex, hi, rfl, ?_⟩⟩
    have hlt := Heap.lt_of_get hg
    have hH := (hs.get i hlt).trans hg
    obtain ⟨_, _, _, ⟨rfl, rfl⟩ | ⟨j, ex', hj, rfl, hg'⟩⟩ := A
    · exact (get_put_ne (by omega)).trans hH
    · have hne : i ≠ j := fun e => hd i (by simp [AV.ids]) (by simp [AV.ids, e])
      exact (get_put_ne (by omega)).trans ((get_put_ne hne).trans hH)
theorem GrwI.keep (A : GrwI h0 h v l) (B : GrwI h0 h w l') (hs : HSub h H) (hd : Dj w v) : GrwI h0 (snocH H none v 1 (ints (l ++ [x]))) w l' := Grw.keep A B hs hd
theorem GrwI.keepS (A : GrwI h0 h v l) (B : GrwI h0 h w l') (hs : HSub h H) (hk : h.size ≤ k ∧ k < H.size) (hd : Dj w v) : GrwI h0 (snocH H (some k) v 1 (ints (l ++ [x]))) w l' := Grw.keepS A B hs hk hd
theorem GrwI.dj (B : GrwI h0 h w l) (hk : h.size ≤ k) : Dj w (.slice k 0 k' c) := Grw.dj B hk
/-- The heap behind an append holds what was there when the list began. -/
theorem GrwI.snocSub (A : GrwI h0 h v l) (hs : HSub h H) : HSub h0 (snocH H none v 1 (ints (l ++ [x]))) := (Grw.keep A (w := .nilslice) (n := 0) (ds := []) (sz := 1) ⟨A.1, rfl, by omega, .inl ⟨rfl, rfl⟩⟩ hs Dj.nilL).1
theorem snocH_get (e : k = H.size) : (snocH H none v sz cs).get k = some (.cells cs true sz) := by
  subst e
  unfold snocH
  cases v <;> exact get_push_eq rfl
theorem snocH_size {nid : Option Nat} : (snocH H nid v sz cs).size = H.size + if nid.isNone then 1 else 0 := by
  unfold snocH
  cases v <;> cases nid <;> rfl
end
end Go.Ae

/- The statement that transforms undo each other, add and turn, of layer 10. -/
set_option linter.unusedSimpArgs false
set_option linter.unusedVariables false
namespace Go.Ae
section
variable {C : Ctx}

theorem chkI_of {l : List Int} (hl : isLen l.length = true) (hr : ∀ x ∈ l, 0 ≤ x ∧ x < 998244353) : chkI l = 0 := by
  unfold chkI
  rw [if_pos hl, if_neg]
  intro h
  obtain ⟨x, hx, hb⟩ := List.any_eq_true.1 h
  have := hr x hx
  simp only [badR, decide_eq_true_eq] at hb
  omega
theorem Transform_ok (hC : Has C T8) {v : AV} {l : List Int} {h : Heap} (hl : RI h v l) (hn : isLen l.length = true) (hr : ∀ x ∈ l, 0 ≤ x ∧ x < 998244353) :
    ACalls C 8 [v] h (fun r h' => ∃ v' X, r = lstErr v' 0 ∧ HSub h h' ∧ RI h' v' X ∧ X = dft (rootI l.length) l ∧ X.length = l.length) := by
  refine (Transform_spec hC hl).mono ?_
  intro r h' hp
  rw [if_pos (chkI_of hn hr)] at hp
  obtain ⟨v', e, F⟩ := hp
  exact ⟨v', _, e, F.sub, F.ri, rfl, dft_length _ _⟩
theorem Inverse_ok (hC : Has C T10) {v : AV} {l : List Int} {h : Heap} (hl : RI h v l) (hn : isLen l.length = true) (hr : ∀ x ∈ l, 0 ≤ x ∧ x < 998244353) :
    ACalls C 10 [v] h (fun r h' => ∃ v' X, r = lstErr v' 0 ∧ HSub h h' ∧ RI h' v' X ∧ X = invI l ∧ X.length = l.length) := by
  refine (Inverse_spec hC hl).mono ?_
  intro r h' hp
  rw [if_pos (chkI_of hn hr)] at hp
  obtain ⟨v', e, F⟩ := hp
  exact ⟨v', _, e, F.sub, F.ri, rfl, invI_length _⟩
theorem invI_range {l : List Int} : ∀ x ∈ invI l, 0 ≤ x ∧ x < 998244353 := by
  intro x hx
  obtain ⟨y, _, rfl⟩ := List.mem_map.1 hx
  exact ⟨Int.emod_nonneg _ (by decide), Int.emod_lt_of_pos _ (by decide)⟩
theorem sumR_succ (a b : List Int) (n : Nat) : sumR a b (n + 1) = sumR a b n ++ [(a.getD n 0 + b.getD n 0) % pP] := by simp [sumR, List.range_succ]
theorem sumR_length (a b : List Int) (n : Nat) : (sumR a b n).length = n := by simp [sumR]
theorem sumR_range {a b : List Int} {n : Nat} : ∀ x ∈ sumR a b n, 0 ≤ x ∧ x < 998244353 := by
  intro x hx
  obtain ⟨y, _, rfl⟩ := List.mem_map.1 hx
  exact ⟨Int.emod_nonneg _ (by decide), Int.emod_lt_of_pos _ (by decide)⟩
/-- The first i elements of the rotation. -/
def turnP (a : List Int) (n i : Nat) : List Int := (List.range i).map fun j => a.getD ((j + n - 1) % n) 0
theorem turnP_succ (a : List Int) (n i : Nat) : turnP a n (i + 1) = turnP a n i ++ [a.getD ((i + n - 1) % n) 0] := by simp [turnP, List.range_succ]
theorem turnP_length (a : List Int) (n i : Nat) : (turnP a n i).length = i := by simp [turnP]
theorem turnR_range {a : List Int} {n : Nat} (ha : a.length = n) (hr : ∀ x ∈ a, 0 ≤ x ∧ x < 998244353) : ∀ x ∈ turnR a n, 0 ≤ x ∧ x < 998244353 := by
  intro x hx
  obtain ⟨y, hy, rfl⟩ := List.mem_map.1 hx
  have : 0 < n := by have := List.mem_range.1 hy; omega
  exact hr _ (getD_mem (by rw [ha]; exact Nat.mod_lt _ this))

set_option maxRecDepth 100000 in
set_option maxHeartbeats 2000000 in
theorem NttInverse_law (hC : Has C T4) {va vb : AV} {l m : List Int} {k0 : Int} {h : Heap} (ha : RI h va l) (hb : RI h vb m) (hk0 : In64 k0) (hx : ∀ x ∈ l, In64 x) (hy : ∀ x ∈ m, In64 x) : ACalls C 4 [va, vb, .int .i64 k0] h (fun r _ => r = .bool true) := by
  have l1 := ha.lt
  have l2 := hb.lt
  obtain ⟨k, hk, hk8⟩ : ∃ k : Nat, k0 % 8 = (k : Int) ∧ k < 8 := ⟨(k0 % 8).toNat, by omega, by omega⟩
  obtain ⟨n, hn0⟩ : ∃ n, n = 2 ^ k := ⟨_, rfl⟩
  have hnI : (2 : Int) ^ k = (n : Int) := by rw [hn0]; simp
  have hlen : isLen n = true := by rw [hn0]; exact isLen_of (by omega)
  have hn1 : 1 ≤ n ∧ n ≤ 128 := by
    have h1 : 2 ^ k ≤ 2 ^ 7 := Nat.pow_le_pow_right (by decide) (by omega)
    have h2 : 1 ≤ 2 ^ k := Nat.one_le_two_pow
    omega
  have hwr := isLen_root hlen
  (refine calls_intro (hC.body (by decide) tab4) (Nat.le_of_ble_eq_true rfl) ?_); (show wp C _ none B4.code _ _); (simp only [B4]); simp -implicitDefEqProofs (disch := first | assumption | decide | omega | (simp -implicitDefEqProofs only [wpD1] <;> omega) | (refine not_in_one ?_; first | omega | (simp -implicitDefEqProofs only [wpD1] <;> omega) | fail) | (simp -implicitDefEqProofs only [wpD2] <;> assumption) | ((repeat (first | exact HSub.refl _ | assumption | refine HSub.push ?_ _ | refine HSub.reserve ?_ _ | refine HSub.put ?_ (by omega) _)); done) | fail) only [↓wpPre, wpPost, wpPoly, Int.reduceToNat, Int.reducePow, Int.reduceMul, Int.reduceAdd, Int.reduceSub, Int.reduceNeg, Nat.reduceAdd, Nat.reduceMul, Nat.reducePow, Int.reduceLT, Int.reduceLE, Int.reduceEq, Nat.reduceEqDiff]
  refine ACallsK.eq (known10_spec (hC.sub (T' := T3) (by decide))) ?_
  by_cases c : 130 < l.length
  · simp -implicitDefEqProofs (disch := first | assumption | decide | omega | (simp -implicitDefEqProofs only [wpD1] <;> omega) | (refine not_in_one ?_; first | omega | (simp -implicitDefEqProofs only [wpD1] <;> omega) | fail) | (simp -implicitDefEqProofs only [wpD2] <;> assumption) | ((repeat (first | exact HSub.refl _ | assumption | refine HSub.push ?_ _ | refine HSub.reserve ?_ _ | refine HSub.put ?_ (by omega) _)); done) | fail) only [↓wpPre, wpPost, wpPoly, Int.reduceToNat, Int.reducePow, Int.reduceMul, Int.reduceAdd, Int.reduceSub, Int.reduceNeg, Nat.reduceAdd, Nat.reduceMul, Nat.reducePow, Int.reduceLT, Int.reduceLE, Int.reduceEq, Nat.reduceEqDiff, ha.len]
  by_cases c2 : 130 < m.length
  · simp -implicitDefEqProofs (disch := first | assumption | decide | omega | (simp -implicitDefEqProofs only [wpD1] <;> omega) | (refine not_in_one ?_; first | omega | (simp -implicitDefEqProofs only [wpD1] <;> omega) | fail) | (simp -implicitDefEqProofs only [wpD2] <;> assumption) | ((repeat (first | exact HSub.refl _ | assumption | refine HSub.push ?_ _ | refine HSub.reserve ?_ _ | refine HSub.put ?_ (by omega) _)); done) | fail) only [↓wpPre, wpPost, wpPoly, Int.reduceToNat, Int.reducePow, Int.reduceMul, Int.reduceAdd, Int.reduceSub, Int.reduceNeg, Nat.reduceAdd, Nat.reduceMul, Nat.reducePow, Int.reduceLT, Int.reduceLE, Int.reduceEq, Nat.reduceEqDiff, ha.len, hb.len]
  simp -implicitDefEqProofs (disch := first | assumption | decide | omega | (simp -implicitDefEqProofs only [wpD1] <;> omega) | (refine not_in_one ?_; first | omega | (simp -implicitDefEqProofs only [wpD1] <;> omega) | fail) | (simp -implicitDefEqProofs only [wpD2] <;> assumption) | ((repeat (first | exact HSub.refl _ | assumption | refine HSub.push ?_ _ | refine HSub.reserve ?_ _ | refine HSub.put ?_ (by omega) _)); done) | fail) only [↓wpPre, wpPost, wpPoly, Int.reduceToNat, Int.reducePow, Int.reduceMul, Int.reduceAdd, Int.reduceSub, Int.reduceNeg, Nat.reduceAdd, Nat.reduceMul, Nat.reducePow, Int.reduceLT, Int.reduceLE, Int.reduceEq, Nat.reduceEqDiff, ha.len, hb.len]
  refine ACallsK.eq (Turn_spec (hC.sub (T' := T23) (by decide)) hk0 (by decide)) ?_
  rw [hk]
  simp -implicitDefEqProofs (disch := first | assumption | decide | omega | (simp -implicitDefEqProofs only [wpD1] <;> omega) | (refine not_in_one ?_; first | omega | (simp -implicitDefEqProofs only [wpD1] <;> omega) | fail) | (simp -implicitDefEqProofs only [wpD2] <;> assumption) | ((repeat (first | exact HSub.refl _ | assumption | refine HSub.push ?_ _ | refine HSub.reserve ?_ _ | refine HSub.put ?_ (by omega) _)); done) | fail) only [↓wpPre, wpPost, wpPoly, Int.reduceToNat, Int.reducePow, Int.reduceMul, Int.reduceAdd, Int.reduceSub, Int.reduceNeg, Nat.reduceAdd, Nat.reduceMul, Nat.reducePow, Int.reduceLT, Int.reduceLE, Int.reduceEq, Nat.reduceEqDiff, Int.one_mul, hnI]
  refine ACallsK.of (residues_spec (hC.sub (T' := T24) (by decide)) ha hx (by omega) hnI (by omega)) ?_
  rintro va1 h1 A1
  have s1 := A1.sub
  have R1 := A1.ri
  simp -implicitDefEqProofs (disch := first | assumption | decide | omega | (simp -implicitDefEqProofs only [wpD1] <;> omega) | (refine not_in_one ?_; first | omega | (simp -implicitDefEqProofs only [wpD1] <;> omega) | fail) | (simp -implicitDefEqProofs only [wpD2] <;> assumption) | ((repeat (first | exact HSub.refl _ | assumption | refine HSub.push ?_ _ | refine HSub.reserve ?_ _ | refine HSub.put ?_ (by omega) _)); done) | fail) only [↓wpPre, wpPost, wpPoly, Int.reduceToNat, Int.reducePow, Int.reduceMul, Int.reduceAdd, Int.reduceSub, Int.reduceNeg, Nat.reduceAdd, Nat.reduceMul, Nat.reducePow, Int.reduceLT, Int.reduceLE, Int.reduceEq, Nat.reduceEqDiff]
  refine ACallsK.of (residues_spec (hC.sub (T' := T24) (by decide)) (hb.mono s1) hy (by omega) hnI (by omega)) ?_
  rintro vb1 h2 A2
  have s2 := A2.sub
  have R2 := A2.ri
  have R1 := R1.mono s2
  have L1 := resL_length l n
  have L2 := resL_length m n
  have G1 := resL_range (l := l) (n := n)
  have G2 := resL_range (l := m) (n := n)
  simp -implicitDefEqProofs (disch := first | assumption | decide | omega | (simp -implicitDefEqProofs only [wpD1] <;> omega) | (refine not_in_one ?_; first | omega | (simp -implicitDefEqProofs only [wpD1] <;> omega) | fail) | (simp -implicitDefEqProofs only [wpD2] <;> assumption) | ((repeat (first | exact HSub.refl _ | assumption | refine HSub.push ?_ _ | refine HSub.reserve ?_ _ | refine HSub.put ?_ (by omega) _)); done) | fail) only [↓wpPre, wpPost, wpPoly, Int.reduceToNat, Int.reducePow, Int.reduceMul, Int.reduceAdd, Int.reduceSub, Int.reduceNeg, Nat.reduceAdd, Nat.reduceMul, Nat.reducePow, Int.reduceLT, Int.reduceLE, Int.reduceEq, Nat.reduceEqDiff]
  refine ACallsK.of (Transform_ok (hC.sub (T' := T8) (by decide)) R1 (by rw [L1]; exact hlen) G1) ?_
  rintro r h3 ⟨vx, X, rfl, s3, RX, eX, lX⟩
  simp -implicitDefEqProofs (disch := first | assumption | decide | omega | (simp -implicitDefEqProofs only [wpD1] <;> omega) | (refine not_in_one ?_; first | omega | (simp -implicitDefEqProofs only [wpD1] <;> omega) | fail) | (simp -implicitDefEqProofs only [wpD2] <;> assumption) | ((repeat (first | exact HSub.refl _ | assumption | refine HSub.push ?_ _ | refine HSub.reserve ?_ _ | refine HSub.put ?_ (by omega) _)); done) | fail) only [↓wpPre, wpPost, wpPoly, Int.reduceToNat, Int.reducePow, Int.reduceMul, Int.reduceAdd, Int.reduceSub, Int.reduceNeg, Nat.reduceAdd, Nat.reduceMul, Nat.reducePow, Int.reduceLT, Int.reduceLE, Int.reduceEq, Nat.reduceEqDiff, lstErr]
  refine ACallsK.of (Transform_ok (hC.sub (T' := T8) (by decide)) (R2.mono s3) (by rw [L2]; exact hlen) G2) ?_
  rintro r h4 ⟨vy, Y, rfl, s4, RY, eY, lY⟩
  have RX := RX.mono s4
  rw [L1] at eX lX
  rw [L2] at eY lY
  simp -implicitDefEqProofs (disch := first | assumption | decide | omega | (simp -implicitDefEqProofs only [wpD1] <;> omega) | (refine not_in_one ?_; first | omega | (simp -implicitDefEqProofs only [wpD1] <;> omega) | fail) | (simp -implicitDefEqProofs only [wpD2] <;> assumption) | ((repeat (first | exact HSub.refl _ | assumption | refine HSub.push ?_ _ | refine HSub.reserve ?_ _ | refine HSub.put ?_ (by omega) _)); done) | fail) only [↓wpPre, wpPost, wpPoly, Int.reduceToNat, Int.reducePow, Int.reduceMul, Int.reduceAdd, Int.reduceSub, Int.reduceNeg, Nat.reduceAdd, Nat.reduceMul, Nat.reducePow, Int.reduceLT, Int.reduceLE, Int.reduceEq, Nat.reduceEqDiff, lstErr]
  refine ACallsK.of (Inverse_ok (hC.sub (T' := T10) (by decide)) RX (by rw [lX]; exact hlen) (by rw [eX]; exact dft_range)) ?_
  rintro r h5 ⟨vk, K, rfl, s5, RK, eK, lK⟩
  have hK : K = resL l n := by
    have := inv_dft (l := resL l n) (by rw [L1]; exact hlen) G1
    rw [L1] at this
    rw [eK, eX, this]
  rw [hK] at RK
  simp -implicitDefEqProofs (disch := first | assumption | decide | omega | (simp -implicitDefEqProofs only [wpD1] <;> omega) | (refine not_in_one ?_; first | omega | (simp -implicitDefEqProofs only [wpD1] <;> omega) | fail) | (simp -implicitDefEqProofs only [wpD2] <;> assumption) | ((repeat (first | exact HSub.refl _ | assumption | refine HSub.push ?_ _ | refine HSub.reserve ?_ _ | refine HSub.put ?_ (by omega) _)); done) | fail) only [↓wpPre, wpPost, wpPoly, Int.reduceToNat, Int.reducePow, Int.reduceMul, Int.reduceAdd, Int.reduceSub, Int.reduceNeg, Nat.reduceAdd, Nat.reduceMul, Nat.reducePow, Int.reduceLT, Int.reduceLE, Int.reduceEq, Nat.reduceEqDiff, lstErr]
  refine ACallsK.of (Inverse_ok (hC.sub (T' := T10) (by decide)) (R1.mono ((s3.trans s4).trans s5)) (by rw [L1]; exact hlen) G1) ?_
  rintro r h6 ⟨vi, I, rfl, s6, RI6, eI, lI⟩
  rw [L1] at lI
  have S6 := ((s3.trans s4).trans s5).trans s6
  have R1 := R1.mono S6
  have R2 := R2.mono S6
  simp -implicitDefEqProofs (disch := first | assumption | decide | omega | (simp -implicitDefEqProofs only [wpD1] <;> omega) | (refine not_in_one ?_; first | omega | (simp -implicitDefEqProofs only [wpD1] <;> omega) | fail) | (simp -implicitDefEqProofs only [wpD2] <;> assumption) | ((repeat (first | exact HSub.refl _ | assumption | refine HSub.push ?_ _ | refine HSub.reserve ?_ _ | refine HSub.put ?_ (by omega) _)); done) | fail) only [↓wpPre, wpPost, wpPoly, Int.reduceToNat, Int.reducePow, Int.reduceMul, Int.reduceAdd, Int.reduceSub, Int.reduceNeg, Nat.reduceAdd, Nat.reduceMul, Nat.reducePow, Int.reduceLT, Int.reduceLE, Int.reduceEq, Nat.reduceEqDiff, lstErr, RX.len, RY.len, RI6.len, lX, lY, lI]
  refine ACallsK.eq (Equal_spec (hC.sub (T' := T12) (by decide)) (RK.mono s6) R1) ?_
  simp -implicitDefEqProofs (disch := first | assumption | decide | omega | (simp -implicitDefEqProofs only [wpD1] <;> omega) | (refine not_in_one ?_; first | omega | (simp -implicitDefEqProofs only [wpD1] <;> omega) | fail) | (simp -implicitDefEqProofs only [wpD2] <;> assumption) | ((repeat (first | exact HSub.refl _ | assumption | refine HSub.push ?_ _ | refine HSub.reserve ?_ _ | refine HSub.put ?_ (by omega) _)); done) | fail) only [↓wpPre, wpPost, wpPoly, Int.reduceToNat, Int.reducePow, Int.reduceMul, Int.reduceAdd, Int.reduceSub, Int.reduceNeg, Nat.reduceAdd, Nat.reduceMul, Nat.reducePow, Int.reduceLT, Int.reduceLE, Int.reduceEq, Nat.reduceEqDiff]
  refine ACallsK.of (Transform_ok (hC.sub (T' := T8) (by decide)) RI6 (by rw [lI]; exact hlen) (by rw [eI]; exact invI_range)) ?_
  rintro r h7 ⟨vf, F, rfl, s7, RF, eF, lF⟩
  have hF : F = resL l n := by
    have := dft_inv (l := resL l n) (by rw [L1]; exact hlen) G1
    rw [L1] at this
    rw [eF, eI, invI_length, L1, this]
  rw [hF] at RF
  have R1 := R1.mono s7
  have R2 := R2.mono s7
  have RX := RX.mono ((s5.trans s6).trans s7)
  have RY := RY.mono ((s5.trans s6).trans s7)
  simp -implicitDefEqProofs (disch := first | assumption | decide | omega | (simp -implicitDefEqProofs only [wpD1] <;> omega) | (refine not_in_one ?_; first | omega | (simp -implicitDefEqProofs only [wpD1] <;> omega) | fail) | (simp -implicitDefEqProofs only [wpD2] <;> assumption) | ((repeat (first | exact HSub.refl _ | assumption | refine HSub.push ?_ _ | refine HSub.reserve ?_ _ | refine HSub.put ?_ (by omega) _)); done) | fail) only [↓wpPre, wpPost, wpPoly, Int.reduceToNat, Int.reducePow, Int.reduceMul, Int.reduceAdd, Int.reduceSub, Int.reduceNeg, Nat.reduceAdd, Nat.reduceMul, Nat.reducePow, Int.reduceLT, Int.reduceLE, Int.reduceEq, Nat.reduceEqDiff, lstErr]
  have L0 : ∀ i, (sumR (resL l n) (resL m n) i).length = i := sumR_length _ _
  have T0 : ∀ i, (turnP (resL l n) n i).length = i := turnP_length _ _
  refine wp_loopI (fun j t h' => ∃ i : Nat, GrwI h7 h' (t 20) (sumR (resL l n) (resL m n) i) ∧ GrwI h7 h' (t 21) (turnP (resL l n) n i) ∧ Dj (t 20) (t 21) ∧ t 7 = .bool true ∧ t 8 = .int .i64 (n : Nat) ∧ t 9 = va1 ∧ t 10 = vb1 ∧ t 11 = vx ∧ t 12 = .int .i64 0 ∧ t 13 = vy ∧ t 19 = vf ∧ t 22 = .int .i64 (i : Nat) ∧ i ≤ n ∧ j = n - i) (j0 := n)
    ⟨0, GrwI.nil _, GrwI.nil _, Dj.nilL, rfl, rfl, rfl, rfl, rfl, rfl, rfl, rfl, rfl, by omega, rfl⟩ ?_
  rintro j t h8 ⟨i, B1, B2, hd, e7, e8, e9, e10, e11, e12, e13, e19, e22, hi, hj⟩
  simp -implicitDefEqProofs (disch := first | assumption | decide | omega | (simp -implicitDefEqProofs only [wpD1] <;> omega) | (refine not_in_one ?_; first | omega | (simp -implicitDefEqProofs only [wpD1] <;> omega) | fail) | (simp -implicitDefEqProofs only [wpD2] <;> assumption) | ((repeat (first | exact HSub.refl _ | assumption | refine HSub.push ?_ _ | refine HSub.reserve ?_ _ | refine HSub.put ?_ (by omega) _)); done) | fail) only [↓wpPre, wpPost, wpPoly, Int.reduceToNat, Int.reducePow, Int.reduceMul, Int.reduceAdd, Int.reduceSub, Int.reduceNeg, Nat.reduceAdd, Nat.reduceMul, Nat.reducePow, Int.reduceLT, Int.reduceLE, Int.reduceEq, Nat.reduceEqDiff, e8, e22]
  refine Br.by (fun c3 => ?_) (fun c3 => ?_)
  · have hi' : i < n := by omega
    have g1 := G1 _ (getD_mem (l := resL l n) (i := i) (by omega))
    have g2 := G2 _ (getD_mem (l := resL m n) (i := i) (by omega))
    have q1 := R1.idx (kk := .i64) (k := (i : Int)) ⟨by omega, by omega⟩
    have q2 := R2.idx (kk := .i64) (k := (i : Int)) ⟨by omega, by omega⟩
    have L0i := L0 i
    have T0i := T0 i
    have R1' := R1.mono B1.sub
    have R2' := R2.mono B1.sub
    simp -implicitDefEqProofs (disch := first | assumption | decide | omega | (simp -implicitDefEqProofs only [wpD1] <;> omega) | (refine not_in_one ?_; first | omega | (simp -implicitDefEqProofs only [wpD1] <;> omega) | fail) | (simp -implicitDefEqProofs only [wpD2] <;> assumption) | ((repeat (first | exact HSub.refl _ | assumption | refine HSub.push ?_ _ | refine HSub.reserve ?_ _ | refine HSub.put ?_ (by omega) _)); done) | fail) only [↓wpPre, wpPost, wpPoly, Int.reduceToNat, Int.reducePow, Int.reduceMul, Int.reduceAdd, Int.reduceSub, Int.reduceNeg, Nat.reduceAdd, Nat.reduceMul, Nat.reducePow, Int.reduceLT, Int.reduceLE, Int.reduceEq, Nat.reduceEqDiff, e8, e9, e10, e22, q1, q2, R1'.loadC, R2'.loadC, cont_slice, contB_one, B1.appS, Heap.wf, appK_none]
    have hsH : ∀ b, HSub h8 ((h8.reserve 14).put (h8.size + 11) b) := fun b => ((HSub.refl _).reserve _).put (by omega) _
    have C1 := B1.snocS (x := ((resL l n).getD i 0 + (resL m n).getD i 0) % 998244353) (k := h8.size + 12) (hsH (.cells [.int .i64 (((resL l n).getD i 0 + (resL m n).getD i 0) % 998244353)] true 0)) ⟨by omega, by simp only [Heap.size_put, Heap.size_reserve]; omega⟩ (by omega)
    have C2 := B1.keepS (x := ((resL l n).getD i 0 + (resL m n).getD i 0) % 998244353) (k := h8.size + 12) B2 (hsH (.cells [.int .i64 (((resL l n).getD i 0 + (resL m n).getD i 0) % 998244353)] true 0)) ⟨by omega, by simp only [Heap.size_put, Heap.size_reserve]; omega⟩ hd.symm
    have hd2 := B2.dj (k := h8.size + 12) (k' := (sumR (resL l n) (resL m n) i).length + 1) (c := .unk 0) (by omega)
    have R1'' := R1.mono C1.sub
    have hm : (i + n - 1) % n < n := Nat.mod_lt _ (by omega)
    have e3 : ((i : Int) + n - 1) % n = (((i + n - 1) % n : Nat) : Int) := by
      rw [show (i : Int) + n - 1 = ((i + n - 1 : Nat) : Int) by omega]; exact (Int.natCast_emod _ _).symm
    have tp := turnP_succ (resL l n) n i
    simp -implicitDefEqProofs (disch := first | assumption | decide | omega | (simp -implicitDefEqProofs only [wpD1] <;> omega) | (refine not_in_one ?_; first | omega | (simp -implicitDefEqProofs only [wpD1] <;> omega) | fail) | (simp -implicitDefEqProofs only [wpD2] <;> assumption) | ((repeat (first | exact HSub.refl _ | assumption | refine HSub.push ?_ _ | refine HSub.reserve ?_ _ | refine HSub.put ?_ (by omega) _)); done) | fail) only [↓wpPre, wpPost, wpPoly, Int.reduceToNat, Int.reducePow, Int.reduceMul, Int.reduceAdd, Int.reduceSub, Int.reduceNeg, Nat.reduceAdd, Nat.reduceMul, Nat.reducePow, Int.reduceLT, Int.reduceLE, Int.reduceEq, Nat.reduceEqDiff, e3, R1''.idx, R1''.loadC, cont_slice, contB_one, C2.app, e7, e8, e9, e10, e11, e12, e13, e19, e22]
    refine ⟨_, ⟨i + 1, ?_, ?_, ?_, by simp, by omega, rfl⟩, by omega⟩
    · rw [sumR_succ]
      exact C2.keep C1 (HSub.push1 _ _) hd2.symm
    · rw [turnP_succ]
      exact C2.snoc (HSub.push1 _ _) (by omega)
    · exact C1.dj (by first | omega | (simp only [Heap.size_push]; omega))
  · have : i = n := by omega
    subst this
    have V1 : RI h8 (t 20) (sumR (resL l i) (resL m i) i) := B1.ri
    have V2 : RI h8 (t 21) (turnR (resL l i) i) := B2.ri
    have s8 := B1.sub
    simp -implicitDefEqProofs (disch := first | assumption | decide | omega | (simp -implicitDefEqProofs only [wpD1] <;> omega) | (refine not_in_one ?_; first | omega | (simp -implicitDefEqProofs only [wpD1] <;> omega) | fail) | (simp -implicitDefEqProofs only [wpD2] <;> assumption) | ((repeat (first | exact HSub.refl _ | assumption | refine HSub.push ?_ _ | refine HSub.reserve ?_ _ | refine HSub.put ?_ (by omega) _)); done) | fail) only [↓wpPre, wpPost, wpPoly, Int.reduceToNat, Int.reducePow, Int.reduceMul, Int.reduceAdd, Int.reduceSub, Int.reduceNeg, Nat.reduceAdd, Nat.reduceMul, Nat.reducePow, Int.reduceLT, Int.reduceLE, Int.reduceEq, Nat.reduceEqDiff, e7, e8, e9, e10, e11, e12, e13, e19]
    refine ACallsK.of (Transform_ok (hC.sub (T' := T8) (by decide)) V1 (by rw [L0]; exact hlen) sumR_range) ?_
    rintro r h9 ⟨vs, S, rfl, s9, RS, eS, lS⟩
    rw [L0] at eS lS
    simp -implicitDefEqProofs (disch := first | assumption | decide | omega | (simp -implicitDefEqProofs only [wpD1] <;> omega) | (refine not_in_one ?_; first | omega | (simp -implicitDefEqProofs only [wpD1] <;> omega) | fail) | (simp -implicitDefEqProofs only [wpD2] <;> assumption) | ((repeat (first | exact HSub.refl _ | assumption | refine HSub.push ?_ _ | refine HSub.reserve ?_ _ | refine HSub.put ?_ (by omega) _)); done) | fail) only [↓wpPre, wpPost, wpPoly, Int.reduceToNat, Int.reducePow, Int.reduceMul, Int.reduceAdd, Int.reduceSub, Int.reduceNeg, Nat.reduceAdd, Nat.reduceMul, Nat.reducePow, Int.reduceLT, Int.reduceLE, Int.reduceEq, Nat.reduceEqDiff, lstErr]
    have tl : (turnR (resL l i) i).length = i := by simp [turnR]
    refine ACallsK.of (Transform_ok (hC.sub (T' := T8) (by decide)) (V2.mono s9) (by rw [tl]; exact hlen) (turnR_range L1 G1)) ?_
    rintro r h10 ⟨vt, T, rfl, s10, RT, eT, lT⟩
    rw [tl] at eT lT
    simp -implicitDefEqProofs (disch := first | assumption | decide | omega | (simp -implicitDefEqProofs only [wpD1] <;> omega) | (refine not_in_one ?_; first | omega | (simp -implicitDefEqProofs only [wpD1] <;> omega) | fail) | (simp -implicitDefEqProofs only [wpD2] <;> assumption) | ((repeat (first | exact HSub.refl _ | assumption | refine HSub.push ?_ _ | refine HSub.reserve ?_ _ | refine HSub.put ?_ (by omega) _)); done) | fail) only [↓wpPre, wpPost, wpPoly, Int.reduceToNat, Int.reducePow, Int.reduceMul, Int.reduceAdd, Int.reduceSub, Int.reduceNeg, Nat.reduceAdd, Nat.reduceMul, Nat.reducePow, Int.reduceLT, Int.reduceLE, Int.reduceEq, Nat.reduceEqDiff, lstErr, e8]
    refine ACallsK.eq2 (Root_spec (hC.sub (T' := T13) (by decide)) (by unfold In64; omega)) (if_pos hlen) ?_
    have S10 := (s8.trans s9).trans s10
    have RF := RF.mono S10
    have R1 := R1.mono S10
    have RX := RX.mono S10
    have RY := RY.mono S10
    have RS := RS.mono s10
    simp -implicitDefEqProofs (disch := first | assumption | decide | omega | (simp -implicitDefEqProofs only [wpD1] <;> omega) | (refine not_in_one ?_; first | omega | (simp -implicitDefEqProofs only [wpD1] <;> omega) | fail) | (simp -implicitDefEqProofs only [wpD2] <;> assumption) | ((repeat (first | exact HSub.refl _ | assumption | refine HSub.push ?_ _ | refine HSub.reserve ?_ _ | refine HSub.put ?_ (by omega) _)); done) | fail) only [↓wpPre, wpPost, wpPoly, Int.reduceToNat, Int.reducePow, Int.reduceMul, Int.reduceAdd, Int.reduceSub, Int.reduceNeg, Nat.reduceAdd, Nat.reduceMul, Nat.reducePow, Int.reduceLT, Int.reduceLE, Int.reduceEq, Nat.reduceEqDiff, tup2, e8, e9, e12, e19, RS.len, RT.len, lS, lT]
    refine ACallsK.eq (Equal_spec (hC.sub (T' := T12) (by decide)) RF R1) ?_
    simp -implicitDefEqProofs (disch := first | assumption | decide | omega | (simp -implicitDefEqProofs only [wpD1] <;> omega) | (refine not_in_one ?_; first | omega | (simp -implicitDefEqProofs only [wpD1] <;> omega) | fail) | (simp -implicitDefEqProofs only [wpD2] <;> assumption) | ((repeat (first | exact HSub.refl _ | assumption | refine HSub.push ?_ _ | refine HSub.reserve ?_ _ | refine HSub.put ?_ (by omega) _)); done) | fail) only [↓wpPre, wpPost, wpPoly, Int.reduceToNat, Int.reducePow, Int.reduceMul, Int.reduceAdd, Int.reduceSub, Int.reduceNeg, Nat.reduceAdd, Nat.reduceMul, Nat.reducePow, Int.reduceLT, Int.reduceLE, Int.reduceEq, Nat.reduceEqDiff]
    have fS : ∀ j, j < i → S.getD j 0 = (X.getD j 0 + Y.getD j 0) % 998244353 := fun j hj => by
      rw [eS, eX, eY]; exact dft_sum L1 L2 _ hj
    have fT : ∀ j, j < i → T.getD j 0 = X.getD j 0 * (rootI i ^ j % pP) % 998244353 := fun j hj => by
      rw [eT, eX]; exact dft_turn L1 hlen hj
    have gX : ∀ x ∈ X, 0 ≤ x ∧ x < 998244353 := by rw [eX]; exact dft_range
    have gY : ∀ x ∈ Y, 0 ≤ x ∧ x < 998244353 := by rw [eY]; exact dft_range
    refine wp_loopI (fun j t h' => h' = h10 ∧ ∃ q : Nat, t 26 = .int .i64 (rootI i ^ q % pP) ∧ t 7 = .bool true ∧ t 8 = .int .i64 (i : Nat) ∧ t 11 = vx ∧ t 13 = vy ∧ t 23 = vs ∧ t 24 = vt ∧ t 25 = .int .i64 (rootI i) ∧ t 27 = .int .i64 (q : Nat) ∧ q ≤ i ∧ j = i - q) (j0 := i)
      ⟨rfl, 0, by rw [Int.pow_zero]; rfl, e7, e8, e11, e13, rfl, rfl, rfl, rfl, by omega, rfl⟩ ?_
    rintro j t h11 ⟨hh, q, e26, e7, e8, e11, e13, e23, e24, e25, e27, hq, hj⟩
    subst hh
    have rq : 0 ≤ rootI i ^ q % pP ∧ rootI i ^ q % pP < 998244353 := ⟨Int.emod_nonneg _ (by decide), Int.emod_lt_of_pos _ (by decide)⟩
    have fTq := fT q
    have eqn : rootI i ^ q % pP * rootI i % pP = rootI i ^ (q + 1) % pP := by rw [emod_mul_l, Int.pow_succ]
    have hp0 : 0 ≤ rootI i ^ q % pP * rootI i := Int.mul_nonneg rq.1 hwr.1
    have hp1 : rootI i ^ q % pP * rootI i ≤ 998244353 * 998244353 := Int.mul_le_mul (by omega) (by omega) (by omega) (by omega)
    simp -implicitDefEqProofs (disch := first | assumption | decide | omega | (simp -implicitDefEqProofs only [wpD1] <;> omega) | (refine not_in_one ?_; first | omega | (simp -implicitDefEqProofs only [wpD1] <;> omega) | fail) | (simp -implicitDefEqProofs only [wpD2] <;> assumption) | ((repeat (first | exact HSub.refl _ | assumption | refine HSub.push ?_ _ | refine HSub.reserve ?_ _ | refine HSub.put ?_ (by omega) _)); done) | fail) only [↓wpPre, wpPost, wpPoly, Int.reduceToNat, Int.reducePow, Int.reduceMul, Int.reduceAdd, Int.reduceSub, Int.reduceNeg, Nat.reduceAdd, Nat.reduceMul, Nat.reducePow, Int.reduceLT, Int.reduceLE, Int.reduceEq, Nat.reduceEqDiff, e8, e27]
    refine Br.by (fun c4 => ?_) (fun c4 => ?_)
    · have hq' : q < i := by omega
      have x1 := gX _ (getD_mem (l := X) (i := q) (by omega))
      have y1 := gY _ (getD_mem (l := Y) (i := q) (by omega))
      have xm : X.getD q 0 % 998244353 = X.getD q 0 := Int.emod_eq_of_lt x1.1 x1.2
      have m1 : 0 ≤ X.getD q 0 * (rootI i ^ q % pP) := Int.mul_nonneg x1.1 rq.1
      have m2 : X.getD q 0 * (rootI i ^ q % pP) ≤ 998244353 * 998244353 := Int.mul_le_mul (by omega) (by omega) (by omega) (by omega)
      have wm : rootI i % 998244353 = rootI i := Int.emod_eq_of_lt hwr.1 hwr.2
      have f1 := fS q hq'
      have f2 := fT q hq'
      simp -implicitDefEqProofs (disch := first | assumption | decide | omega | (simp -implicitDefEqProofs only [wpD1] <;> omega) | (refine not_in_one ?_; first | omega | (simp -implicitDefEqProofs only [wpD1] <;> omega) | fail) | (simp -implicitDefEqProofs only [wpD2] <;> assumption) | ((repeat (first | exact HSub.refl _ | assumption | refine HSub.push ?_ _ | refine HSub.reserve ?_ _ | refine HSub.put ?_ (by omega) _)); done) | fail) only [↓wpPre, wpPost, wpPoly, Int.reduceToNat, Int.reducePow, Int.reduceMul, Int.reduceAdd, Int.reduceSub, Int.reduceNeg, Nat.reduceAdd, Nat.reduceMul, Nat.reducePow, Int.reduceLT, Int.reduceLE, Int.reduceEq, Nat.reduceEqDiff, e7, e8, e11, e13, e23, e24, e25, e26, e27, RS.idx, RS.load, RX.idx, RX.load, RY.idx, RY.load, RT.idx, RT.load, xm, wm, f1, f2]
      exact ⟨_, ⟨q + 1, eqn, by simp, by omega, rfl⟩, by omega⟩
    · simp -implicitDefEqProofs (disch := first | assumption | decide | omega | (simp -implicitDefEqProofs only [wpD1] <;> omega) | (refine not_in_one ?_; first | omega | (simp -implicitDefEqProofs only [wpD1] <;> omega) | fail) | (simp -implicitDefEqProofs only [wpD2] <;> assumption) | ((repeat (first | exact HSub.refl _ | assumption | refine HSub.push ?_ _ | refine HSub.reserve ?_ _ | refine HSub.put ?_ (by omega) _)); done) | fail) only [↓wpPre, wpPost, wpPoly, Int.reduceToNat, Int.reducePow, Int.reduceMul, Int.reduceAdd, Int.reduceSub, Int.reduceNeg, Nat.reduceAdd, Nat.reduceMul, Nat.reducePow, Int.reduceLT, Int.reduceLE, Int.reduceEq, Nat.reduceEqDiff, e7]
end
end Go.Ae

/- The statement on sums of layer 10. -/
set_option linter.unusedSimpArgs false
set_option linter.unusedVariables false
namespace Go.Ae

theorem pe_one_sum : ∀ l : List Int, pe l 1 = l.sum
  | [] => rfl
  | x :: l => by simp only [pe, pe_one_sum l, List.sum_cons, Int.one_mul]
theorem conv_sum (a b : List Int) (hb : 1 ≤ b.length) : (convL a b).sum = a.sum * b.sum := by
  rw [← pe_one_sum, pe_conv a b hb, pe_one_sum, pe_one_sum]
theorem pe_inj : ∀ {l m : List Int}, l.length = m.length → (∀ z : Int, 1 ≤ z → pe l z = pe m z) → l = m
  | [], [], _, _ => rfl
  | x :: l, y :: m, hl, h => by
    have hx : x = y := by
      have h1 := h (absI (x - y) + 1) (by have := absI_nonneg (x - y); omega)
      simp only [pe] at h1
      have h2 : x - y = (absI (x - y) + 1) * (pe m (absI (x - y) + 1) - pe l (absI (x - y) + 1)) := by rw [Int.mul_sub]; omega
      generalize pe m (absI (x - y) + 1) - pe l (absI (x - y) + 1) = d at h2
      rcases Int.lt_trichotomy d 0 with hd | hd | hd
      · have h3 : (absI (x - y) + 1) * 1 ≤ (absI (x - y) + 1) * (-d) := Int.mul_le_mul_of_nonneg_left (by omega) (by have := absI_nonneg (x - y); omega)
        rw [Int.mul_neg, ← h2] at h3
        unfold absI at h3; omega
      · subst hd; rw [Int.mul_zero] at h2; omega
      · have h3 : (absI (x - y) + 1) * 1 ≤ (absI (x - y) + 1) * d := Int.mul_le_mul_of_nonneg_left (by omega) (by have := absI_nonneg (x - y); omega)
        rw [← h2] at h3
        unfold absI at h3; omega
    subst hx
    refine congrArg (x :: ·) (pe_inj (by simpa using hl) (fun z hz => ?_))
    have h1 := h z hz
    simp only [pe] at h1
    exact Int.eq_of_mul_eq_mul_left (show z ≠ 0 by omega) (by omega)
  | [], _ :: _, hl, _ => by simp at hl
  | _ :: _, [], hl, _ => by simp at hl
theorem conv_comm {a b : List Int} (ha : 1 ≤ a.length) (hb : 1 ≤ b.length) : convL a b = convL b a := by
  refine pe_inj (by rw [convL_length, convL_length]; omega) fun z _ => ?_
  rw [pe_conv a b hb, pe_conv b a ha, Int.mul_comm]

/-- Numbers from -c to c that the elements of a list select. -/
def selL (c : Int) (l : List Int) (n : Nat) : List Int := (List.range n).map fun i => l.getD i 0 % (2 * c + 1) - c
theorem selL_length (c : Int) (l : List Int) (n : Nat) : (selL c l n).length = n := by simp [selL]
theorem selL_succ (c : Int) (l : List Int) (n : Nat) : selL c l (n + 1) = selL c l n ++ [l.getD n 0 % (2 * c + 1) - c] := by simp [selL, List.range_succ]
theorem selL_range {c : Int} {l : List Int} {n : Nat} (hc : 0 ≤ c) : ∀ x ∈ selL c l n, -c ≤ x ∧ x ≤ c := by
  intro x hx
  obtain ⟨i, _, rfl⟩ := List.mem_map.1 hx
  have h1 := Int.emod_nonneg (l.getD i 0) (show (2 * c + 1) ≠ 0 by omega)
  have h2 := Int.emod_lt_of_pos (l.getD i 0) (show 0 < 2 * c + 1 by omega)
  constructor <;> omega
theorem sum_bound {c : Int} {l : List Int} (hl : ∀ x ∈ l, -c ≤ x ∧ x ≤ c) : -(c * l.length) ≤ l.sum ∧ l.sum ≤ c * l.length := by
  induction l with
  | nil => simp
  | cons x l ih =>
    have h1 := ih (fun y hy => hl y (List.mem_cons_of_mem _ hy))
    have h2 := hl x List.mem_cons_self
    simp only [List.sum_cons, List.length_cons, Int.natCast_add, Int.mul_add]
    omega
theorem snoc_get (l : List Int) (x : Int) : (l ++ [x]).getD l.length 0 = x := by simp
theorem sum_snoc (l : List Int) (x : Int) : (l ++ [x]).sum = l.sum + x := by simp
theorem sumAbs_bound {c : Int} {l : List Int} (hl : ∀ x ∈ l, -c ≤ x ∧ x ≤ c) : sumAbs l ≤ c * l.length := by
  induction l with
  | nil => simp [sumAbs]
  | cons x l ih =>
    have h1 := ih (fun y hy => hl y (List.mem_cons_of_mem _ hy))
    have h2 := hl x List.mem_cons_self
    simp only [sumAbs, List.length_cons, Int.natCast_add, Int.mul_add, absI]
    omega
theorem maxAbs_bound {c : Int} {l : List Int} (hc : 0 ≤ c) (hl : ∀ x ∈ l, -c ≤ x ∧ x ≤ c) : maxAbs l ≤ c := by
  induction l with
  | nil => simpa [maxAbs] using hc
  | cons x l ih =>
    have h1 := ih (fun y hy => hl y (List.mem_cons_of_mem _ hy))
    have h2 := hl x List.mem_cons_self
    simp only [maxAbs, absI]; omega
theorem any_bigs {l : List Int} (h : ∀ x ∈ l, -2000 ≤ x ∧ x ≤ 2000) : ¬ l.any bigs = true := by
  intro hb
  obtain ⟨x, hx, hb⟩ := List.any_eq_true.1 hb
  have := h x hx
  simp only [bigs, decide_eq_true_eq] at hb; omega
theorem weight_ok {a b : List Int} (ha : ∀ x ∈ a, -2000 ≤ x ∧ x ≤ 2000) (hb : ∀ x ∈ b, -2000 ≤ x ∧ x ≤ 2000) (la : a.length ≤ 40) : ¬ 499122176 < sumAbs a * maxAbs b := by
  have h1 := sumAbs_bound ha
  have h2 := maxAbs_bound (by decide) hb
  have h3 := sumAbs_nonneg a
  have h4 := maxAbs_nonneg b
  have : sumAbs a * maxAbs b ≤ 80000 * 2000 := Int.mul_le_mul (by omega) h2 h4 (by omega)
  omega
theorem prodErr_ok {a b : List Int} (ha : ∀ x ∈ a, -2000 ≤ x ∧ x ≤ 2000) (hb : ∀ x ∈ b, -2000 ≤ x ∧ x ≤ 2000) (la : 1 ≤ a.length ∧ a.length ≤ 40) (lb : 1 ≤ b.length ∧ b.length ≤ 40) : prodErr a b = 0 := by
  unfold prodErr
  rw [if_neg (by omega), if_neg (by omega), if_neg (fun h => h.elim (any_bigs ha) (any_bigs hb)), if_neg (weight_ok ha hb la.2)]
theorem circErr_ok {a b : List Int} (ha : ∀ x ∈ a, -2000 ≤ x ∧ x ≤ 2000) (hb : ∀ x ∈ b, -2000 ≤ x ∧ x ≤ 2000) (la : 1 ≤ a.length ∧ a.length ≤ 40) (lb : a.length = b.length) : circErr a b = 0 := by
  unfold circErr
  rw [if_neg (by omega), if_neg (by omega), if_neg (by omega), if_neg (fun h => h.elim (any_bigs ha) (any_bigs hb))]
theorem circ10Err_ok {a b : List Int} (ha : ∀ x ∈ a, -2000 ≤ x ∧ x ≤ 2000) (hb : ∀ x ∈ b, -2000 ≤ x ∧ x ≤ 2000) (la : 1 ≤ a.length ∧ a.length ≤ 40) (lb : a.length = b.length) : circ10Err a b = 0 := by
  unfold circ10Err
  rw [if_pos (circErr_ok ha hb la lb), if_neg (weight_ok ha hb la.2)]

section
variable {C : Ctx}
theorem Product_ok (hC : Has C T19) {va vb : AV} {a b : List Int} {h : Heap} (ra : RI h va a) (rb : RI h vb b) (ha : ∀ x ∈ a, -2000 ≤ x ∧ x ≤ 2000) (hb : ∀ x ∈ b, -2000 ≤ x ∧ x ≤ 2000) (la : 1 ≤ a.length ∧ a.length ≤ 40) (lb : 1 ≤ b.length ∧ b.length ≤ 40) :
    ACalls C 19 [va, vb] h (fun r h' => ∃ v' X, r = lstErr v' 0 ∧ HSub h h' ∧ RI h' v' X ∧ X = convL a b ∧ X.length = a.length + b.length - 1 ∧ ∀ j ∈ v'.ids, h.size ≤ j) := by
  refine (Product_spec hC ra rb (by omega)).mono ?_
  rintro r h' ⟨v', e, s, R, F⟩
  rw [prodErr_ok ha hb la lb] at e R
  exact ⟨v', _, e, s, R, rfl, convL_length _ _, F⟩
theorem CircN_ok (hC : Has C T21) {va vb : AV} {a b : List Int} {h : Heap} (ra : RI h va a) (rb : RI h vb b) (ha : ∀ x ∈ a, -2000 ≤ x ∧ x ≤ 2000) (hb : ∀ x ∈ b, -2000 ≤ x ∧ x ≤ 2000) (la : 1 ≤ a.length ∧ a.length ≤ 40) (lb : a.length = b.length) :
    ACalls C 21 [va, vb] h (fun r h' => ∃ v', r = lstErr v' 0 ∧ HSub h h' ∧ RI h' v' (circ a b)) := by
  refine (CircularN_spec hC ra rb).mono ?_
  rintro r h' ⟨v', e, s, R⟩
  rw [circ10Err_ok ha hb la lb] at e R
  exact ⟨v', e, s, R⟩
theorem CircP_ok (hC : Has C T25) {va vb : AV} {a b : List Int} {h : Heap} (ra : RI h va a) (rb : RI h vb b) (ha : ∀ x ∈ a, -2000 ≤ x ∧ x ≤ 2000) (hb : ∀ x ∈ b, -2000 ≤ x ∧ x ≤ 2000) (la : 1 ≤ a.length ∧ a.length ≤ 40) (lb : a.length = b.length) :
    ACalls C 25 [va, vb] h (fun r h' => ∃ v', r = lstErr v' 0 ∧ HSub h h' ∧ RI h' v' (circ a b)) := by
  refine (CircP_spec hC ra rb).mono ?_
  rintro r h' ⟨v', e, s, R⟩
  rw [circErr_ok ha hb la lb] at e R
  exact ⟨v', e, s, R⟩

/-- The first i elements of a reverse. -/
def backP (a : List Int) (i : Nat) : List Int := (List.range i).map fun j => a.getD (a.length - 1 - j) 0
theorem backP_succ (a : List Int) (i : Nat) : backP a (i + 1) = backP a i ++ [a.getD (a.length - 1 - i) 0] := by simp [backP, List.range_succ]
theorem backP_full (a : List Int) : backP a a.length = a.reverse := by
  refine list_ext (by simp [backP]) fun i hi => ?_
  simp only [backP, List.length_map, List.length_range] at hi
  unfold backP
  rw [range_get hi, rev_get hi]

set_option maxRecDepth 100000 in
set_option maxHeartbeats 4000000 in
theorem NttSums_law (hC : Has C T6) {va vb : AV} {l m : List Int} {h : Heap} (ha : RI h va l) (hb : RI h vb m) (hx : ∀ x ∈ l, In64 x) (hy : ∀ x ∈ m, In64 x) : ACalls C 6 [va, vb] h (fun r _ => r = .bool true) := by
  have l1 := ha.lt
  have l2 := hb.lt
  have sl := selL_length 2000 l
  have sm := selL_length 2000 m
  have rl : ∀ i, ∀ x ∈ selL 2000 l i, -2000 ≤ x ∧ x ≤ 2000 := fun i => selL_range (by decide)
  have rm : ∀ i, ∀ x ∈ selL 2000 m i, -2000 ≤ x ∧ x ≤ 2000 := fun i => selL_range (by decide)
  have nl : ∀ i, selL 2000 l (i + 1) = selL 2000 l i ++ [l.getD i 0 % 4001 - 2000] := selL_succ 2000 l
  have nm : ∀ i, selL 2000 m (i + 1) = selL 2000 m i ++ [m.getD i 0 % 4001 - 2000] := selL_succ 2000 m
  have bl : ∀ i, -(2000 * i) ≤ (selL 2000 l i).sum ∧ (selL 2000 l i).sum ≤ 2000 * i := fun i => by have := sum_bound (rl i); rwa [sl] at this
  have bm : ∀ i, -(2000 * i) ≤ (selL 2000 m i).sum ∧ (selL 2000 m i).sum ≤ 2000 * i := fun i => by have := sum_bound (rm i); rwa [sm] at this
  (refine calls_intro (hC.body (by decide) tab6) (Nat.le_of_ble_eq_true rfl) ?_); (show wp C _ none B6.code _ _); (simp only [B6]); simp -implicitDefEqProofs (disch := first | assumption | decide | omega | (simp -implicitDefEqProofs only [wpD1] <;> omega) | (refine not_in_one ?_; first | omega | (simp -implicitDefEqProofs only [wpD1] <;> omega) | fail) | (simp -implicitDefEqProofs only [wpD2] <;> assumption) | ((repeat (first | exact HSub.refl _ | assumption | refine HSub.push ?_ _ | refine HSub.reserve ?_ _ | refine HSub.put ?_ (by omega) _)); done) | fail) only [↓wpPre, wpPost, wpPoly, Int.reduceToNat, Int.reducePow, Int.reduceMul, Int.reduceAdd, Int.reduceSub, Int.reduceNeg, Nat.reduceAdd, Nat.reduceMul, Nat.reducePow, Int.reduceLT, Int.reduceLE, Int.reduceEq, Nat.reduceEqDiff]
  refine ACallsK.eq (known10_spec (hC.sub (T' := T3) (by decide))) ?_
  by_cases d1 : l.length < 1
  · simp -implicitDefEqProofs (disch := first | assumption | decide | omega | (simp -implicitDefEqProofs only [wpD1] <;> omega) | (refine not_in_one ?_; first | omega | (simp -implicitDefEqProofs only [wpD1] <;> omega) | fail) | (simp -implicitDefEqProofs only [wpD2] <;> assumption) | ((repeat (first | exact HSub.refl _ | assumption | refine HSub.push ?_ _ | refine HSub.reserve ?_ _ | refine HSub.put ?_ (by omega) _)); done) | fail) only [↓wpPre, wpPost, wpPoly, Int.reduceToNat, Int.reducePow, Int.reduceMul, Int.reduceAdd, Int.reduceSub, Int.reduceNeg, Nat.reduceAdd, Nat.reduceMul, Nat.reducePow, Int.reduceLT, Int.reduceLE, Int.reduceEq, Nat.reduceEqDiff, ha.len]
  by_cases d2 : m.length < 1
  · simp -implicitDefEqProofs (disch := first | assumption | decide | omega | (simp -implicitDefEqProofs only [wpD1] <;> omega) | (refine not_in_one ?_; first | omega | (simp -implicitDefEqProofs only [wpD1] <;> omega) | fail) | (simp -implicitDefEqProofs only [wpD2] <;> assumption) | ((repeat (first | exact HSub.refl _ | assumption | refine HSub.push ?_ _ | refine HSub.reserve ?_ _ | refine HSub.put ?_ (by omega) _)); done) | fail) only [↓wpPre, wpPost, wpPoly, Int.reduceToNat, Int.reducePow, Int.reduceMul, Int.reduceAdd, Int.reduceSub, Int.reduceNeg, Nat.reduceAdd, Nat.reduceMul, Nat.reducePow, Int.reduceLT, Int.reduceLE, Int.reduceEq, Nat.reduceEqDiff, ha.len, hb.len]
  by_cases d3 : 40 < l.length
  · simp -implicitDefEqProofs (disch := first | assumption | decide | omega | (simp -implicitDefEqProofs only [wpD1] <;> omega) | (refine not_in_one ?_; first | omega | (simp -implicitDefEqProofs only [wpD1] <;> omega) | fail) | (simp -implicitDefEqProofs only [wpD2] <;> assumption) | ((repeat (first | exact HSub.refl _ | assumption | refine HSub.push ?_ _ | refine HSub.reserve ?_ _ | refine HSub.put ?_ (by omega) _)); done) | fail) only [↓wpPre, wpPost, wpPoly, Int.reduceToNat, Int.reducePow, Int.reduceMul, Int.reduceAdd, Int.reduceSub, Int.reduceNeg, Nat.reduceAdd, Nat.reduceMul, Nat.reducePow, Int.reduceLT, Int.reduceLE, Int.reduceEq, Nat.reduceEqDiff, ha.len, hb.len]
  by_cases d4 : 40 < m.length
  · simp -implicitDefEqProofs (disch := first | assumption | decide | omega | (simp -implicitDefEqProofs only [wpD1] <;> omega) | (refine not_in_one ?_; first | omega | (simp -implicitDefEqProofs only [wpD1] <;> omega) | fail) | (simp -implicitDefEqProofs only [wpD2] <;> assumption) | ((repeat (first | exact HSub.refl _ | assumption | refine HSub.push ?_ _ | refine HSub.reserve ?_ _ | refine HSub.put ?_ (by omega) _)); done) | fail) only [↓wpPre, wpPost, wpPoly, Int.reduceToNat, Int.reducePow, Int.reduceMul, Int.reduceAdd, Int.reduceSub, Int.reduceNeg, Nat.reduceAdd, Nat.reduceMul, Nat.reducePow, Int.reduceLT, Int.reduceLE, Int.reduceEq, Nat.reduceEqDiff, ha.len, hb.len]
  simp -implicitDefEqProofs (disch := first | assumption | decide | omega | (simp -implicitDefEqProofs only [wpD1] <;> omega) | (refine not_in_one ?_; first | omega | (simp -implicitDefEqProofs only [wpD1] <;> omega) | fail) | (simp -implicitDefEqProofs only [wpD2] <;> assumption) | ((repeat (first | exact HSub.refl _ | assumption | refine HSub.push ?_ _ | refine HSub.reserve ?_ _ | refine HSub.put ?_ (by omega) _)); done) | fail) only [↓wpPre, wpPost, wpPoly, Int.reduceToNat, Int.reducePow, Int.reduceMul, Int.reduceAdd, Int.reduceSub, Int.reduceNeg, Nat.reduceAdd, Nat.reduceMul, Nat.reducePow, Int.reduceLT, Int.reduceLE, Int.reduceEq, Nat.reduceEqDiff, ha.len, hb.len]
  refine wp_loopI (fun j t h' => ∃ i : Nat, GrwI h h' (t 6) (selL 2000 l i) ∧ t 8 = .int .i64 (selL 2000 l i).sum ∧ t 0 = va ∧ t 1 = vb ∧ t 5 = .bool true ∧ t 7 = .nilslice ∧ t 9 = .int .i64 0 ∧ t 10 = .int .i64 0 ∧ t 11 = .int .i64 (i : Nat) ∧ i ≤ l.length ∧ j = l.length - i) (j0 := l.length)
    ⟨0, GrwI.nil _, rfl, rfl, rfl, rfl, rfl, rfl, rfl, rfl, by omega, rfl⟩ ?_
  rintro j t h1 ⟨i, A, e8, e0, e1, e5, e7, e9, e10, e11, hi, hj⟩
  simp -implicitDefEqProofs (disch := first | assumption | decide | omega | (simp -implicitDefEqProofs only [wpD1] <;> omega) | (refine not_in_one ?_; first | omega | (simp -implicitDefEqProofs only [wpD1] <;> omega) | fail) | (simp -implicitDefEqProofs only [wpD2] <;> assumption) | ((repeat (first | exact HSub.refl _ | assumption | refine HSub.push ?_ _ | refine HSub.reserve ?_ _ | refine HSub.put ?_ (by omega) _)); done) | fail) only [↓wpPre, wpPost, wpPoly, Int.reduceToNat, Int.reducePow, Int.reduceMul, Int.reduceAdd, Int.reduceSub, Int.reduceNeg, Nat.reduceAdd, Nat.reduceMul, Nat.reducePow, Int.reduceLT, Int.reduceLE, Int.reduceEq, Nat.reduceEqDiff, e0, e11, ha.len]
  refine Br.by (fun c => ?_) (fun c => ?_)
  · have hi' : i < l.length := by omega
    have ha1 := ha.mono A.sub
    simp -implicitDefEqProofs (disch := first | assumption | decide | omega | (simp -implicitDefEqProofs only [wpD1] <;> omega) | (refine not_in_one ?_; first | omega | (simp -implicitDefEqProofs only [wpD1] <;> omega) | fail) | (simp -implicitDefEqProofs only [wpD2] <;> assumption) | ((repeat (first | exact HSub.refl _ | assumption | refine HSub.push ?_ _ | refine HSub.reserve ?_ _ | refine HSub.put ?_ (by omega) _)); done) | fail) only [↓wpPre, wpPost, wpPoly, Int.reduceToNat, Int.reducePow, Int.reduceMul, Int.reduceAdd, Int.reduceSub, Int.reduceNeg, Nat.reduceAdd, Nat.reduceMul, Nat.reducePow, Int.reduceLT, Int.reduceLE, Int.reduceEq, Nat.reduceEqDiff, e0, e11, ha1.idx, ha1.load]
    refine ACallsK.eq (Turn_spec (hC.sub (T' := T23) (by decide)) (hx _ (getD_mem hi')) (by decide)) ?_
    have q1 := Int.emod_nonneg (l.getD i 0) (show (4001 : Int) ≠ 0 by decide)
    have q2 := Int.emod_lt_of_pos (l.getD i 0) (show (0 : Int) < 4001 by decide)
    have sli := sl i
    have nli := nl i
    have bli := bl i
    have A2 := A.snoc (x := l.getD i 0 % 4001 - 2000) (HSub.push1 h1 (.cells [.int .i64 (l.getD i 0 % 4001 - 2000)] true 0)) (by omega)
    rw [← nli, sli] at A2
    have gl : (selL 2000 l (i + 1)).getD i 0 = l.getD i 0 % 4001 - 2000 := by
      have := snoc_get (selL 2000 l i) (l.getD i 0 % 4001 - 2000)
      rw [sli] at this
      rw [nli]; exact this
    have sl1 := sl (i + 1)
    simp -implicitDefEqProofs (disch := first | assumption | decide | omega | (simp -implicitDefEqProofs only [wpD1] <;> omega) | (refine not_in_one ?_; first | omega | (simp -implicitDefEqProofs only [wpD1] <;> omega) | fail) | (simp -implicitDefEqProofs only [wpD2] <;> assumption) | ((repeat (first | exact HSub.refl _ | assumption | refine HSub.push ?_ _ | refine HSub.reserve ?_ _ | refine HSub.put ?_ (by omega) _)); done) | fail) only [↓wpPre, wpPost, wpPoly, Int.reduceToNat, Int.reducePow, Int.reduceMul, Int.reduceAdd, Int.reduceSub, Int.reduceNeg, Nat.reduceAdd, Nat.reduceMul, Nat.reducePow, Int.reduceLT, Int.reduceLE, Int.reduceEq, Nat.reduceEqDiff, e0, e1, e5, e7, e8, e9, e10, e11, cont_slice, contB_one, A.app, sli, ← nli, snocH_get, gl]
    exact ⟨_, ⟨i + 1, A2, by rw [nli, sum_snoc], by simp, by omega, rfl⟩, by omega⟩
  · have : i = l.length := by omega
    subst this
    have s1 := A.sub
    have Ra := A.ri
    have la := sl l.length
    simp -implicitDefEqProofs (disch := first | assumption | decide | omega | (simp -implicitDefEqProofs only [wpD1] <;> omega) | (refine not_in_one ?_; first | omega | (simp -implicitDefEqProofs only [wpD1] <;> omega) | fail) | (simp -implicitDefEqProofs only [wpD2] <;> assumption) | ((repeat (first | exact HSub.refl _ | assumption | refine HSub.push ?_ _ | refine HSub.reserve ?_ _ | refine HSub.put ?_ (by omega) _)); done) | fail) only [↓wpPre, wpPost, wpPoly, Int.reduceToNat, Int.reducePow, Int.reduceMul, Int.reduceAdd, Int.reduceSub, Int.reduceNeg, Nat.reduceAdd, Nat.reduceMul, Nat.reducePow, Int.reduceLT, Int.reduceLE, Int.reduceEq, Nat.reduceEqDiff]
    have hb1 := hb.mono s1
    refine wp_loopI (fun j u h' => ∃ i : Nat, GrwI h1 h' (u 7) (selL 2000 m i) ∧ u 9 = .int .i64 (selL 2000 m i).sum ∧ u 1 = vb ∧ u 5 = .bool true ∧ u 6 = t 6 ∧ u 8 = .int .i64 (selL 2000 l l.length).sum ∧ u 10 = .int .i64 0 ∧ u 12 = .int .i64 (i : Nat) ∧ i ≤ m.length ∧ j = m.length - i) (j0 := m.length)
      ⟨0, by show GrwI h1 h1 (t 7) _; rw [e7]; exact GrwI.nil _, e9, e1, e5, rfl, e8, e10, rfl, by omega, rfl⟩ ?_
    rintro j u h2 ⟨i, B, f9, f1, f5, f6, f8, f10, f12, hi, hj⟩
    simp -implicitDefEqProofs (disch := first | assumption | decide | omega | (simp -implicitDefEqProofs only [wpD1] <;> omega) | (refine not_in_one ?_; first | omega | (simp -implicitDefEqProofs only [wpD1] <;> omega) | fail) | (simp -implicitDefEqProofs only [wpD2] <;> assumption) | ((repeat (first | exact HSub.refl _ | assumption | refine HSub.push ?_ _ | refine HSub.reserve ?_ _ | refine HSub.put ?_ (by omega) _)); done) | fail) only [↓wpPre, wpPost, wpPoly, Int.reduceToNat, Int.reducePow, Int.reduceMul, Int.reduceAdd, Int.reduceSub, Int.reduceNeg, Nat.reduceAdd, Nat.reduceMul, Nat.reducePow, Int.reduceLT, Int.reduceLE, Int.reduceEq, Nat.reduceEqDiff, f1, f12, hb.len]
    refine Br.by (fun c => ?_) (fun c => ?_)
    · have hi' : i < m.length := by omega
      have hb2 := hb1.mono B.sub
      simp -implicitDefEqProofs (disch := first | assumption | decide | omega | (simp -implicitDefEqProofs only [wpD1] <;> omega) | (refine not_in_one ?_; first | omega | (simp -implicitDefEqProofs only [wpD1] <;> omega) | fail) | (simp -implicitDefEqProofs only [wpD2] <;> assumption) | ((repeat (first | exact HSub.refl _ | assumption | refine HSub.push ?_ _ | refine HSub.reserve ?_ _ | refine HSub.put ?_ (by omega) _)); done) | fail) only [↓wpPre, wpPost, wpPoly, Int.reduceToNat, Int.reducePow, Int.reduceMul, Int.reduceAdd, Int.reduceSub, Int.reduceNeg, Nat.reduceAdd, Nat.reduceMul, Nat.reducePow, Int.reduceLT, Int.reduceLE, Int.reduceEq, Nat.reduceEqDiff, f1, f12, hb2.idx, hb2.load]
      refine ACallsK.eq (Turn_spec (hC.sub (T' := T23) (by decide)) (hy _ (getD_mem hi')) (by decide)) ?_
      have q1 := Int.emod_nonneg (m.getD i 0) (show (4001 : Int) ≠ 0 by decide)
      have q2 := Int.emod_lt_of_pos (m.getD i 0) (show (0 : Int) < 4001 by decide)
      have sli := sm i
      have nli := nm i
      have bli := bm i
      have A2 := B.snoc (x := m.getD i 0 % 4001 - 2000) (HSub.push1 h2 (.cells [.int .i64 (m.getD i 0 % 4001 - 2000)] true 0)) (by omega)
      rw [← nli, sli] at A2
      have gl : (selL 2000 m (i + 1)).getD i 0 = m.getD i 0 % 4001 - 2000 := by
        have := snoc_get (selL 2000 m i) (m.getD i 0 % 4001 - 2000)
        rw [sli] at this
        rw [nli]; exact this
      have sl1 := sm (i + 1)
      simp -implicitDefEqProofs (disch := first | assumption | decide | omega | (simp -implicitDefEqProofs only [wpD1] <;> omega) | (refine not_in_one ?_; first | omega | (simp -implicitDefEqProofs only [wpD1] <;> omega) | fail) | (simp -implicitDefEqProofs only [wpD2] <;> assumption) | ((repeat (first | exact HSub.refl _ | assumption | refine HSub.push ?_ _ | refine HSub.reserve ?_ _ | refine HSub.put ?_ (by omega) _)); done) | fail) only [↓wpPre, wpPost, wpPoly, Int.reduceToNat, Int.reducePow, Int.reduceMul, Int.reduceAdd, Int.reduceSub, Int.reduceNeg, Nat.reduceAdd, Nat.reduceMul, Nat.reducePow, Int.reduceLT, Int.reduceLE, Int.reduceEq, Nat.reduceEqDiff, f1, f5, f6, f8, f9, f10, f12, cont_slice, contB_one, B.app, sli, ← nli, snocH_get, gl]
      exact ⟨_, ⟨i + 1, A2, by rw [nli, sum_snoc], by simp, by omega, rfl⟩, by omega⟩
    · have : i = m.length := by omega
      subst this
      have s2 := B.sub
      have Rb := B.ri
      have lb := sm m.length
      have Ra := Ra.mono s2
      have ga := rl l.length
      have gb := rm m.length
      have ba := bl l.length
      have bb := bm m.length
      simp -implicitDefEqProofs (disch := first | assumption | decide | omega | (simp -implicitDefEqProofs only [wpD1] <;> omega) | (refine not_in_one ?_; first | omega | (simp -implicitDefEqProofs only [wpD1] <;> omega) | fail) | (simp -implicitDefEqProofs only [wpD2] <;> assumption) | ((repeat (first | exact HSub.refl _ | assumption | refine HSub.push ?_ _ | refine HSub.reserve ?_ _ | refine HSub.put ?_ (by omega) _)); done) | fail) only [↓wpPre, wpPost, wpPoly, Int.reduceToNat, Int.reducePow, Int.reduceMul, Int.reduceAdd, Int.reduceSub, Int.reduceNeg, Nat.reduceAdd, Nat.reduceMul, Nat.reducePow, Int.reduceLT, Int.reduceLE, Int.reduceEq, Nat.reduceEqDiff, f6]
      refine ACallsK.of (Product_ok (hC.sub (T' := T19) (by decide)) Ra Rb ga gb (by omega) (by omega)) ?_
      rintro r h3 ⟨vc, X, rfl, s3, RX, eX, lX, _⟩
      simp -implicitDefEqProofs (disch := first | assumption | decide | omega | (simp -implicitDefEqProofs only [wpD1] <;> omega) | (refine not_in_one ?_; first | omega | (simp -implicitDefEqProofs only [wpD1] <;> omega) | fail) | (simp -implicitDefEqProofs only [wpD2] <;> assumption) | ((repeat (first | exact HSub.refl _ | assumption | refine HSub.push ?_ _ | refine HSub.reserve ?_ _ | refine HSub.put ?_ (by omega) _)); done) | fail) only [↓wpPre, wpPost, wpPoly, Int.reduceToNat, Int.reducePow, Int.reduceMul, Int.reduceAdd, Int.reduceSub, Int.reduceNeg, Nat.reduceAdd, Nat.reduceMul, Nat.reducePow, Int.reduceLT, Int.reduceLE, Int.reduceEq, Nat.reduceEqDiff, lstErr, f6]
      refine ACallsK.of (Product_ok (hC.sub (T' := T19) (by decide)) (Rb.mono s3) (Ra.mono s3) gb ga (by omega) (by omega)) ?_
      rintro r h4 ⟨vd, Y, rfl, s4, RY, eY, lY, _⟩
      have eYX : Y = X := by rw [eY, eX]; exact conv_comm (by omega) (by omega)
      rw [eYX] at RY
      have RX := RX.mono s4
      have Ra := Ra.mono (s3.trans s4)
      have Rb := Rb.mono (s3.trans s4)
      simp -implicitDefEqProofs (disch := first | assumption | decide | omega | (simp -implicitDefEqProofs only [wpD1] <;> omega) | (refine not_in_one ?_; first | omega | (simp -implicitDefEqProofs only [wpD1] <;> omega) | fail) | (simp -implicitDefEqProofs only [wpD2] <;> assumption) | ((repeat (first | exact HSub.refl _ | assumption | refine HSub.push ?_ _ | refine HSub.reserve ?_ _ | refine HSub.put ?_ (by omega) _)); done) | fail) only [↓wpPre, wpPost, wpPoly, Int.reduceToNat, Int.reducePow, Int.reduceMul, Int.reduceAdd, Int.reduceSub, Int.reduceNeg, Nat.reduceAdd, Nat.reduceMul, Nat.reducePow, Int.reduceLT, Int.reduceLE, Int.reduceEq, Nat.reduceEqDiff, lstErr, f6, RX.len, Ra.len, Rb.len]
      refine ACallsK.eq (Equal_spec (hC.sub (T' := T12) (by decide)) RX RY) ?_
      simp -implicitDefEqProofs (disch := first | assumption | decide | omega | (simp -implicitDefEqProofs only [wpD1] <;> omega) | (refine not_in_one ?_; first | omega | (simp -implicitDefEqProofs only [wpD1] <;> omega) | fail) | (simp -implicitDefEqProofs only [wpD2] <;> assumption) | ((repeat (first | exact HSub.refl _ | assumption | refine HSub.push ?_ _ | refine HSub.reserve ?_ _ | refine HSub.put ?_ (by omega) _)); done) | fail) only [↓wpPre, wpPost, wpPoly, Int.reduceToNat, Int.reducePow, Int.reduceMul, Int.reduceAdd, Int.reduceSub, Int.reduceNeg, Nat.reduceAdd, Nat.reduceMul, Nat.reducePow, Int.reduceLT, Int.reduceLE, Int.reduceEq, Nat.reduceEqDiff]
      have bX : ∀ i, -400000000000 ≤ (X.take i).sum ∧ (X.take i).sum ≤ 400000000000 := fun i => by
        have hcb := conv_bound (a := selL 2000 l l.length) (b := selL 2000 m m.length) (by have := weight_ok ga gb (by omega); omega)
        have h1 := sum_bound (c := 499122176) (l := X.take i) (fun x hx => hcb x (by rw [← eX]; exact List.mem_of_mem_take hx))
        have h2 : (X.take i).length ≤ X.length := by rw [List.length_take]; omega
        omega
      refine wp_loopI (fun j w h' => h' = h4 ∧ ∃ i : Nat, w 10 = .int .i64 (X.take i).sum ∧ w 5 = .bool true ∧ w 6 = t 6 ∧ w 7 = u 7 ∧ w 8 = .int .i64 (selL 2000 l l.length).sum ∧ w 9 = .int .i64 (selL 2000 m m.length).sum ∧ w 13 = vc ∧ w 17 = .int .i64 (i : Nat) ∧ i ≤ X.length ∧ j = X.length - i) (j0 := X.length)
        ⟨rfl, 0, f10, f5, f6, rfl, f8, f9, rfl, rfl, by omega, rfl⟩ ?_
      rintro j w h5 ⟨hh, i, g10, g5, g6, g7, g8, g9, g13, g17, hi, hj⟩
      subst hh
      simp -implicitDefEqProofs (disch := first | assumption | decide | omega | (simp -implicitDefEqProofs only [wpD1] <;> omega) | (refine not_in_one ?_; first | omega | (simp -implicitDefEqProofs only [wpD1] <;> omega) | fail) | (simp -implicitDefEqProofs only [wpD2] <;> assumption) | ((repeat (first | exact HSub.refl _ | assumption | refine HSub.push ?_ _ | refine HSub.reserve ?_ _ | refine HSub.put ?_ (by omega) _)); done) | fail) only [↓wpPre, wpPost, wpPoly, Int.reduceToNat, Int.reducePow, Int.reduceMul, Int.reduceAdd, Int.reduceSub, Int.reduceNeg, Nat.reduceAdd, Nat.reduceMul, Nat.reducePow, Int.reduceLT, Int.reduceLE, Int.reduceEq, Nat.reduceEqDiff, g13, g17, RX.len]
      refine Br.by (fun c => ?_) (fun c => ?_)
      · have hi' : i < X.length := by omega
        have b1 := bX i
        have b2 := bX (i + 1)
        have e1 : (X.take (i + 1)).sum = (X.take i).sum + X.getD i 0 := by rw [take_succ_getD hi', sum_snoc]
        rw [e1] at b2
        simp -implicitDefEqProofs (disch := first | assumption | decide | omega | (simp -implicitDefEqProofs only [wpD1] <;> omega) | (refine not_in_one ?_; first | omega | (simp -implicitDefEqProofs only [wpD1] <;> omega) | fail) | (simp -implicitDefEqProofs only [wpD2] <;> assumption) | ((repeat (first | exact HSub.refl _ | assumption | refine HSub.push ?_ _ | refine HSub.reserve ?_ _ | refine HSub.put ?_ (by omega) _)); done) | fail) only [↓wpPre, wpPost, wpPoly, Int.reduceToNat, Int.reducePow, Int.reduceMul, Int.reduceAdd, Int.reduceSub, Int.reduceNeg, Nat.reduceAdd, Nat.reduceMul, Nat.reducePow, Int.reduceLT, Int.reduceLE, Int.reduceEq, Nat.reduceEqDiff, g5, g6, g7, g8, g9, g10, g13, g17, RX.idx, RX.load]
        exact ⟨_, ⟨i + 1, by rw [e1], by simp, by omega, rfl⟩, by omega⟩
      · have : i = X.length := by omega
        subst this
        rw [List.take_length] at g10
        have etot : X.sum = (selL 2000 l l.length).sum * (selL 2000 m m.length).sum := by rw [eX, conv_sum _ _ (by omega)]
        rw [etot] at g10
        have eN : min (l.length : Int) m.length = ((min l.length m.length : Nat) : Int) := by omega
        have hN1 : 1 ≤ min l.length m.length ∧ min l.length m.length ≤ 40 ∧ min l.length m.length ≤ l.length ∧ min l.length m.length ≤ m.length := by omega
        have Pa := Ra.part_b (k2 := .i64) (b := ((min l.length m.length : Nat) : Int)) (by omega)
        have Pb := Rb.part_b (k2 := .i64) (b := ((min l.length m.length : Nat) : Int)) (by omega)
        obtain ⟨wa, ea, Rwa⟩ := Pa
        obtain ⟨wb, eb, Rwb⟩ := Pb
        rw [Int.toNat_natCast] at Rwa Rwb
        have lwa : ((selL 2000 l l.length).take (min l.length m.length)).length = min l.length m.length := by rw [List.length_take]; omega
        have lwb : ((selL 2000 m m.length).take (min l.length m.length)).length = min l.length m.length := by rw [List.length_take]; omega
        have gwa : ∀ x ∈ (selL 2000 l l.length).take (min l.length m.length), -2000 ≤ x ∧ x ≤ 2000 := fun x hx => ga x (List.mem_of_mem_take hx)
        have gwb : ∀ x ∈ (selL 2000 m m.length).take (min l.length m.length), -2000 ≤ x ∧ x ≤ 2000 := fun x hx => gb x (List.mem_of_mem_take hx)
        simp -implicitDefEqProofs (disch := first | assumption | decide | omega | (simp -implicitDefEqProofs only [wpD1] <;> omega) | (refine not_in_one ?_; first | omega | (simp -implicitDefEqProofs only [wpD1] <;> omega) | fail) | (simp -implicitDefEqProofs only [wpD2] <;> assumption) | ((repeat (first | exact HSub.refl _ | assumption | refine HSub.push ?_ _ | refine HSub.reserve ?_ _ | refine HSub.put ?_ (by omega) _)); done) | fail) only [↓wpPre, wpPost, wpPoly, Int.reduceToNat, Int.reducePow, Int.reduceMul, Int.reduceAdd, Int.reduceSub, Int.reduceNeg, Nat.reduceAdd, Nat.reduceMul, Nat.reducePow, Int.reduceLT, Int.reduceLE, Int.reduceEq, Nat.reduceEqDiff, g6, g7, Ra.len, Rb.len, la, lb, eN, ea, eb]
        refine ACallsK.of (CircN_ok (hC.sub (T' := T21) (by decide)) Rwa Rwb gwa gwb (by omega) (by omega)) ?_
        rintro r h6 ⟨vs, rfl, s6, RS⟩
        simp -implicitDefEqProofs (disch := first | assumption | decide | omega | (simp -implicitDefEqProofs only [wpD1] <;> omega) | (refine not_in_one ?_; first | omega | (simp -implicitDefEqProofs only [wpD1] <;> omega) | fail) | (simp -implicitDefEqProofs only [wpD2] <;> assumption) | ((repeat (first | exact HSub.refl _ | assumption | refine HSub.push ?_ _ | refine HSub.reserve ?_ _ | refine HSub.put ?_ (by omega) _)); done) | fail) only [↓wpPre, wpPost, wpPoly, Int.reduceToNat, Int.reducePow, Int.reduceMul, Int.reduceAdd, Int.reduceSub, Int.reduceNeg, Nat.reduceAdd, Nat.reduceMul, Nat.reducePow, Int.reduceLT, Int.reduceLE, Int.reduceEq, Nat.reduceEqDiff, lstErr]
        refine ACallsK.of (CircP_ok (hC.sub (T' := T25) (by decide)) (Rwa.mono s6) (Rwb.mono s6) gwa gwb (by omega) (by omega)) ?_
        rintro r h7 ⟨vt, rfl, s7, RT⟩
        have RS := RS.mono s7
        have s67 := s6.trans s7
        have Rwa := Rwa.mono s67
        have Rwb := Rwb.mono s67
        have bl0 : ∀ i, (backP ((selL 2000 l l.length).take (min l.length m.length)) i).length = i := fun i => by simp [backP]
        simp -implicitDefEqProofs (disch := first | assumption | decide | omega | (simp -implicitDefEqProofs only [wpD1] <;> omega) | (refine not_in_one ?_; first | omega | (simp -implicitDefEqProofs only [wpD1] <;> omega) | fail) | (simp -implicitDefEqProofs only [wpD2] <;> assumption) | ((repeat (first | exact HSub.refl _ | assumption | refine HSub.push ?_ _ | refine HSub.reserve ?_ _ | refine HSub.put ?_ (by omega) _)); done) | fail) only [↓wpPre, wpPost, wpPoly, Int.reduceToNat, Int.reducePow, Int.reduceMul, Int.reduceAdd, Int.reduceSub, Int.reduceNeg, Nat.reduceAdd, Nat.reduceMul, Nat.reducePow, Int.reduceLT, Int.reduceLE, Int.reduceEq, Nat.reduceEqDiff, lstErr]
        refine wp_loopI (fun j x h' => ∃ i : Nat, GrwI h7 h' (x 21) (backP ((selL 2000 l l.length).take (min l.length m.length)) i) ∧ x 5 = .bool true ∧ x 6 = wa ∧ x 7 = wb ∧ x 8 = .int .i64 (selL 2000 l l.length).sum ∧ x 9 = .int .i64 (selL 2000 m m.length).sum ∧ x 10 = .int .i64 ((selL 2000 l l.length).sum * (selL 2000 m m.length).sum) ∧
            x 14 = .int .i64 0 ∧ x 16 = .int .i64 0 ∧ x 18 = .int .i64 ((min l.length m.length : Nat) : Int) ∧ x 19 = vs ∧ x 20 = vt ∧ x 22 = .int .i64 ((min l.length m.length : Nat) - 1 - i : Int) ∧ i ≤ min l.length m.length ∧ j = min l.length m.length - i) (j0 := min l.length m.length)
          ⟨0, GrwI.nil _, g5, rfl, rfl, g8, g9, g10, rfl, rfl, rfl, rfl, rfl, congrArg (AV.int .i64) (show ((min l.length m.length : Nat) : Int) - 1 = ((min l.length m.length : Nat) : Int) - 1 - ((0 : Nat) : Int) by omega), by omega, rfl⟩ ?_
        rintro j x h8 ⟨i, A, x5, x6, x7, x8, x9, x10, x14, x16, x18, x19, x20, x22, hi, hj⟩
        simp -implicitDefEqProofs (disch := first | assumption | decide | omega | (simp -implicitDefEqProofs only [wpD1] <;> omega) | (refine not_in_one ?_; first | omega | (simp -implicitDefEqProofs only [wpD1] <;> omega) | fail) | (simp -implicitDefEqProofs only [wpD2] <;> assumption) | ((repeat (first | exact HSub.refl _ | assumption | refine HSub.push ?_ _ | refine HSub.reserve ?_ _ | refine HSub.put ?_ (by omega) _)); done) | fail) only [↓wpPre, wpPost, wpPoly, Int.reduceToNat, Int.reducePow, Int.reduceMul, Int.reduceAdd, Int.reduceSub, Int.reduceNeg, Nat.reduceAdd, Nat.reduceMul, Nat.reducePow, Int.reduceLT, Int.reduceLE, Int.reduceEq, Nat.reduceEqDiff, x22]
        refine Br.by (fun c => ?_) (fun c => ?_)
        · have hi' : i < min l.length m.length := by omega
          have Rwa' := Rwa.mono A.sub
          have ei : (((min l.length m.length : Nat) : Int) - 1 - (i : Int)).toNat = min l.length m.length - 1 - i := by omega
          have bli := bl0 i
          have bs := backP_succ ((selL 2000 l l.length).take (min l.length m.length)) i
          rw [lwa] at bs
          have A2 := A.snoc (x := ((selL 2000 l l.length).take (min l.length m.length)).getD (min l.length m.length - 1 - i) 0) (HSub.push1 h8 (.cells [.int .i64 (((selL 2000 l l.length).take (min l.length m.length)).getD (min l.length m.length - 1 - i) 0)] true 0)) (by omega)
          simp -implicitDefEqProofs (disch := first | assumption | decide | omega | (simp -implicitDefEqProofs only [wpD1] <;> omega) | (refine not_in_one ?_; first | omega | (simp -implicitDefEqProofs only [wpD1] <;> omega) | fail) | (simp -implicitDefEqProofs only [wpD2] <;> assumption) | ((repeat (first | exact HSub.refl _ | assumption | refine HSub.push ?_ _ | refine HSub.reserve ?_ _ | refine HSub.put ?_ (by omega) _)); done) | fail) only [↓wpPre, wpPost, wpPoly, Int.reduceToNat, Int.reducePow, Int.reduceMul, Int.reduceAdd, Int.reduceSub, Int.reduceNeg, Nat.reduceAdd, Nat.reduceMul, Nat.reducePow, Int.reduceLT, Int.reduceLE, Int.reduceEq, Nat.reduceEqDiff, x5, x6, x7, x8, x9, x10, x14, x16, x18, x19, x20, x22, Rwa'.idx, Rwa'.load, ei, cont_slice, contB_one, A.app]
          exact ⟨_, ⟨i + 1, by rw [bs]; exact A2, by omega, by omega, rfl⟩, by omega⟩
        · have : i = min l.length m.length := by omega
          subst this
          have ebf := backP_full ((selL 2000 l l.length).take (min l.length m.length))
          rw [lwa] at ebf
          rw [ebf] at A
          have RA := A.ri
          have s8 := A.sub
          have Rwb := Rwb.mono s8
          have lrv : ((selL 2000 l l.length).take (min l.length m.length)).reverse.length = min l.length m.length := by rw [List.length_reverse, lwa]
          have grv : ∀ x ∈ ((selL 2000 l l.length).take (min l.length m.length)).reverse, -2000 ≤ x ∧ x ≤ 2000 := fun x hx => gwa x (List.mem_reverse.1 hx)
          have s9 := HSub.push1 h8 (.cells (ints (List.replicate (min l.length m.length) 0)) true 0)
          simp -implicitDefEqProofs (disch := first | assumption | decide | omega | (simp -implicitDefEqProofs only [wpD1] <;> omega) | (refine not_in_one ?_; first | omega | (simp -implicitDefEqProofs only [wpD1] <;> omega) | fail) | (simp -implicitDefEqProofs only [wpD2] <;> assumption) | ((repeat (first | exact HSub.refl _ | assumption | refine HSub.push ?_ _ | refine HSub.reserve ?_ _ | refine HSub.put ?_ (by omega) _)); done) | fail) only [↓wpPre, wpPost, wpPoly, Int.reduceToNat, Int.reducePow, Int.reduceMul, Int.reduceAdd, Int.reduceSub, Int.reduceNeg, Nat.reduceAdd, Nat.reduceMul, Nat.reducePow, Int.reduceLT, Int.reduceLE, Int.reduceEq, Nat.reduceEqDiff, x18, x7, ints_replicate]
          refine ACallsK.of (Product_ok (hC.sub (T' := T19) (by decide)) (RA.mono s9) (Rwb.mono s9) grv gwb (by omega) (by omega)) ?_
          rintro r h9 ⟨vp, P, rfl, s10, RP, eP, lP, fp⟩
          rw [lrv, lwb] at lP
          have cP : ∀ y ∈ P, -499122176 ≤ y ∧ y ≤ 499122176 := by
            rw [eP]
            refine conv_bound ?_
            have := weight_ok grv gwb (by omega)
            omega
          have hf9 : h9.get h8.size = some (.cells (ints (List.replicate (min l.length m.length) 0)) true 0) := (s10.get _ (by simp)).trans (get_push_eq rfl)
          have z9 := s10.size
          simp only [Heap.size_push] at z9
          have fP : ∀ k, k < min l.length m.length → fldS P (min l.length m.length) k (2 * min l.length m.length - 1) = (circ ((selL 2000 l l.length).take (min l.length m.length)) ((selL 2000 m m.length).take (min l.length m.length))).getD k 0 := fun k hk => by
            have := fld_conv (a := (selL 2000 l l.length).take (min l.length m.length)) (b := (selL 2000 m m.length).take (min l.length m.length)) (by omega) (m := k) (by omega)
            rw [lwa, ← eP] at this
            exact this
          have hN : ∀ f : Nat → Int, ((List.range (min l.length m.length)).map f).length = min l.length m.length := fun f => by simp
          simp -implicitDefEqProofs (disch := first | assumption | decide | omega | (simp -implicitDefEqProofs only [wpD1] <;> omega) | (refine not_in_one ?_; first | omega | (simp -implicitDefEqProofs only [wpD1] <;> omega) | fail) | (simp -implicitDefEqProofs only [wpD2] <;> assumption) | ((repeat (first | exact HSub.refl _ | assumption | refine HSub.push ?_ _ | refine HSub.reserve ?_ _ | refine HSub.put ?_ (by omega) _)); done) | fail) only [↓wpPre, wpPost, wpPoly, Int.reduceToNat, Int.reducePow, Int.reduceMul, Int.reduceAdd, Int.reduceSub, Int.reduceNeg, Nat.reduceAdd, Nat.reduceMul, Nat.reducePow, Int.reduceLT, Int.reduceLE, Int.reduceEq, Nat.reduceEqDiff, lstErr, x18, RP.len, lP]
          refine wp_loopI (fun j y h' => ∃ k : Nat, h' = h9.put h8.size (.cells (ints ((List.range (min l.length m.length)).map (fun q => fldS P (min l.length m.length) q k))) true 0) ∧ y 5 = .bool true ∧ y 8 = .int .i64 (selL 2000 l l.length).sum ∧ y 9 = .int .i64 (selL 2000 m m.length).sum ∧ y 10 = .int .i64 ((selL 2000 l l.length).sum * (selL 2000 m m.length).sum) ∧
              y 14 = .int .i64 0 ∧ y 16 = .int .i64 0 ∧ y 18 = .int .i64 ((min l.length m.length : Nat) : Int) ∧ y 19 = vs ∧ y 20 = vt ∧ y 23 = .slice h8.size 0 (min l.length m.length) (.known (min l.length m.length)) ∧ y 24 = vp ∧ y 26 = .int .i64 (k : Nat) ∧ k ≤ P.length ∧ j = P.length - k) (j0 := P.length)
            ⟨0, ?_, x5, x8, x9, x10, x14, x16, x18, x19, x20, rfl, rfl, rfl, by omega, rfl⟩ ?_
          · have e : (List.range (min l.length m.length)).map (fun q => fldS P (min l.length m.length) q 0) = List.replicate (min l.length m.length) 0 := by
              have : (fun q => fldS P (min l.length m.length) q 0) = fun _ => 0 := by funext n; simp [fldS]
              rw [this, List.map_const', List.length_range]
            rw [e, put_same hf9]
          rintro j y h10 ⟨k, rfl, y5, y8, y9, y10, y14, y16, y18, y19, y20, y23, y24, y26, hk, hj⟩
          simp -implicitDefEqProofs (disch := first | assumption | decide | omega | (simp -implicitDefEqProofs only [wpD1] <;> omega) | (refine not_in_one ?_; first | omega | (simp -implicitDefEqProofs only [wpD1] <;> omega) | fail) | (simp -implicitDefEqProofs only [wpD2] <;> assumption) | ((repeat (first | exact HSub.refl _ | assumption | refine HSub.push ?_ _ | refine HSub.reserve ?_ _ | refine HSub.put ?_ (by omega) _)); done) | fail) only [↓wpPre, wpPost, wpPoly, Int.reduceToNat, Int.reducePow, Int.reduceMul, Int.reduceAdd, Int.reduceSub, Int.reduceNeg, Nat.reduceAdd, Nat.reduceMul, Nat.reducePow, Int.reduceLT, Int.reduceLE, Int.reduceEq, Nat.reduceEqDiff, y24, y26, RP.len]
          refine Br.by (fun c => ?_) (fun c => ?_)
          · have hk' : k < P.length := by omega
            have hm : (k + 1) % min l.length m.length < min l.length m.length := Nat.mod_lt _ (by omega)
            have f1 := fldS_abs (c := P) (i := k) hm (by omega) cP
            have f2 := cP _ (getD_mem hk')
            have e3 : ((k : Int) + 1) % ((min l.length m.length : Nat) : Int) = (((k + 1) % min l.length m.length : Nat) : Int) := by
              rw [show (k : Int) + 1 = ((k + 1 : Nat) : Int) by omega]; exact (Int.natCast_emod _ _).symm
            have hNk := hN (fun q => fldS P (min l.length m.length) q k)
            have g : ((List.range (min l.length m.length)).map (fun q => fldS P (min l.length m.length) q k)).getD ((k + 1) % min l.length m.length) 0 = fldS P (min l.length m.length) ((k + 1) % min l.length m.length) k := by rw [range_get hm]
            have st : ((List.range (min l.length m.length)).map (fun q => fldS P (min l.length m.length) q k)).set ((k + 1) % min l.length m.length) (fldS P (min l.length m.length) ((k + 1) % min l.length m.length) k + P.getD k 0) = (List.range (min l.length m.length)).map (fun q => fldS P (min l.length m.length) q (k + 1)) :=
              range_set (by simp [fldS]) (fun n hn => by simp [fldS, Ne.symm hn])
            have RPk : ∀ b, RI (h9.put h8.size b) vp P := fun b => RP.put (fun j hj => by have := fp j hj; simp only [Heap.size_push] at this; omega)
            simp -implicitDefEqProofs (disch := first | assumption | decide | omega | (simp -implicitDefEqProofs only [wpD1] <;> omega) | (refine not_in_one ?_; first | omega | (simp -implicitDefEqProofs only [wpD1] <;> omega) | fail) | (simp -implicitDefEqProofs only [wpD2] <;> assumption) | ((repeat (first | exact HSub.refl _ | assumption | refine HSub.push ?_ _ | refine HSub.reserve ?_ _ | refine HSub.put ?_ (by omega) _)); done) | fail) only [↓wpPre, wpPost, wpPoly, Int.reduceToNat, Int.reducePow, Int.reduceMul, Int.reduceAdd, Int.reduceSub, Int.reduceNeg, Nat.reduceAdd, Nat.reduceMul, Nat.reducePow, Int.reduceLT, Int.reduceLE, Int.reduceEq, Nat.reduceEqDiff, y5, y8, y9, y10, y14, y16, y18, y19, y20, y23, y24, y26, RP.idx, e3, g, st, (RPk _).load]
            exact ⟨_, ⟨k + 1, rfl, by simp, by omega, rfl⟩, by omega⟩
          · have : k = P.length := by omega
            subst this
            have e : (List.range (min l.length m.length)).map (fun q => fldS P (min l.length m.length) q P.length) = circ ((selL 2000 l l.length).take (min l.length m.length)) ((selL 2000 m m.length).take (min l.length m.length)) := by
              refine list_ext (by simp [circ, lwa]) fun q hq => ?_
              simp only [List.length_map, List.length_range] at hq
              rw [range_get hq, ← fP q hq, lP]; congr 1; omega
            rw [e]
            have ccl : (circ ((selL 2000 l l.length).take (min l.length m.length)) ((selL 2000 m m.length).take (min l.length m.length))).length = min l.length m.length := by rw [circ_length, lwa]
            have s11 : HSub h7 (h9.put h8.size (.cells (ints (circ ((selL 2000 l l.length).take (min l.length m.length)) ((selL 2000 m m.length).take (min l.length m.length)))) true 0)) := (s8.trans (s9.trans s10)).put (by have := s8.size; omega) _
            have RF : RI (h9.put h8.size (.cells (ints (circ ((selL 2000 l l.length).take (min l.length m.length)) ((selL 2000 m m.length).take (min l.length m.length)))) true 0)) (.slice h8.size 0 (min l.length m.length) (.known (min l.length m.length))) (circ ((selL 2000 l l.length).take (min l.length m.length)) ((selL 2000 m m.length).take (min l.length m.length))) := RI.known (get_put_eq rfl (by omega)) ⟨by rw [ccl], by omega⟩ (by omega)
            have pb : -6400000000 ≤ (selL 2000 l l.length).sum * (selL 2000 m m.length).sum ∧ (selL 2000 l l.length).sum * (selL 2000 m m.length).sum ≤ 6400000000 := by
              have h1 : absI ((selL 2000 l l.length).sum * (selL 2000 m m.length).sum) ≤ 80000 * 80000 := by
                rw [absI_mul]
                exact Int.mul_le_mul (by unfold absI; omega) (by unfold absI; omega) (absI_nonneg _) (by decide)
              have := absI_le h1
              omega
            simp -implicitDefEqProofs (disch := first | assumption | decide | omega | (simp -implicitDefEqProofs only [wpD1] <;> omega) | (refine not_in_one ?_; first | omega | (simp -implicitDefEqProofs only [wpD1] <;> omega) | fail) | (simp -implicitDefEqProofs only [wpD2] <;> assumption) | ((repeat (first | exact HSub.refl _ | assumption | refine HSub.push ?_ _ | refine HSub.reserve ?_ _ | refine HSub.put ?_ (by omega) _)); done) | fail) only [↓wpPre, wpPost, wpPoly, Int.reduceToNat, Int.reducePow, Int.reduceMul, Int.reduceAdd, Int.reduceSub, Int.reduceNeg, Nat.reduceAdd, Nat.reduceMul, Nat.reducePow, Int.reduceLT, Int.reduceLE, Int.reduceEq, Nat.reduceEqDiff, y5, y8, y9, y10, y14, y16]
            simp -implicitDefEqProofs (disch := first | assumption | decide | omega | (simp -implicitDefEqProofs only [wpD1] <;> omega) | (refine not_in_one ?_; first | omega | (simp -implicitDefEqProofs only [wpD1] <;> omega) | fail) | (simp -implicitDefEqProofs only [wpD2] <;> assumption) | ((repeat (first | exact HSub.refl _ | assumption | refine HSub.push ?_ _ | refine HSub.reserve ?_ _ | refine HSub.put ?_ (by omega) _)); done) | fail) only [↓wpPre, wpPost, wpPoly, Int.reduceToNat, Int.reducePow, Int.reduceMul, Int.reduceAdd, Int.reduceSub, Int.reduceNeg, Nat.reduceAdd, Nat.reduceMul, Nat.reducePow, Int.reduceLT, Int.reduceLE, Int.reduceEq, Nat.reduceEqDiff, y19, y20]
            refine ACallsK.eq (Equal_spec (hC.sub (T' := T12) (by decide)) (RS.mono s11) (RT.mono s11)) ?_
            simp -implicitDefEqProofs (disch := first | assumption | decide | omega | (simp -implicitDefEqProofs only [wpD1] <;> omega) | (refine not_in_one ?_; first | omega | (simp -implicitDefEqProofs only [wpD1] <;> omega) | fail) | (simp -implicitDefEqProofs only [wpD2] <;> assumption) | ((repeat (first | exact HSub.refl _ | assumption | refine HSub.push ?_ _ | refine HSub.reserve ?_ _ | refine HSub.put ?_ (by omega) _)); done) | fail) only [↓wpPre, wpPost, wpPoly, Int.reduceToNat, Int.reducePow, Int.reduceMul, Int.reduceAdd, Int.reduceSub, Int.reduceNeg, Nat.reduceAdd, Nat.reduceMul, Nat.reducePow, Int.reduceLT, Int.reduceLE, Int.reduceEq, Nat.reduceEqDiff, y19, y23]
            refine ACallsK.eq (Equal_spec (hC.sub (T' := T12) (by decide)) (RS.mono s11) RF) ?_
            simp -implicitDefEqProofs (disch := first | assumption | decide | omega | (simp -implicitDefEqProofs only [wpD1] <;> omega) | (refine not_in_one ?_; first | omega | (simp -implicitDefEqProofs only [wpD1] <;> omega) | fail) | (simp -implicitDefEqProofs only [wpD2] <;> assumption) | ((repeat (first | exact HSub.refl _ | assumption | refine HSub.push ?_ _ | refine HSub.reserve ?_ _ | refine HSub.put ?_ (by omega) _)); done) | fail) only [↓wpPre, wpPost, wpPoly, Int.reduceToNat, Int.reducePow, Int.reduceMul, Int.reduceAdd, Int.reduceSub, Int.reduceNeg, Nat.reduceAdd, Nat.reduceMul, Nat.reducePow, Int.reduceLT, Int.reduceLE, Int.reduceEq, Nat.reduceEqDiff]
end
end Go.Ae
