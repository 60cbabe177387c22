/- Texts of the proof, part 10: a second reading of the lowered code, proved sound, and what the functions compute. -/
import Derived.Test.YtbmoggkjijnajaaP9

/- The transform of the program. -/
set_option linter.unusedSimpArgs false
set_option linter.unusedVariables false
namespace Go.Ae

/-- Every s-th element of a list from its first one on. -/
def VW (l : List Int) (s : Nat) (xs : List Int) : Prop :=
  1 ≤ s ∧ 1 ≤ xs.length ∧ (xs.length - 1) * s < l.length ∧ l.length ≤ xs.length * s ∧ ∀ i, i < xs.length → l.getD (i * s) 0 = xs.getD i 0

theorem VW.size {l xs : List Int} {s : Nat} (H : VW l s xs) : (l.length + s - 1) / s = xs.length := by
  obtain ⟨h1, h2, h3, h4, _⟩ := H
  have e : (xs.length - 1) * s = xs.length * s - s := by rw [Nat.sub_mul, Nat.one_mul]
  have e2 : s ≤ xs.length * s := Nat.le_mul_of_pos_left s h2
  apply Nat.div_eq_of_lt_le
  · omega
  · rw [Nat.add_mul, Nat.one_mul]; omega
theorem VW.one {l : List Int} (h : 1 ≤ l.length) : VW l 1 l := by
  refine ⟨by omega, h, by omega, by omega, fun i _ => by rw [Nat.mul_one]⟩
theorem evens_get : ∀ (l : List Int) (i : Nat), (evens l).getD i 0 = l.getD (2 * i) 0
  | [], i => by simp [evens]
  | [x], i => by cases i <;> simp [evens]
  | x :: y :: l, 0 => by simp [evens]
  | x :: y :: l, i + 1 => by
    have := evens_get l i
    simpa [evens, Nat.mul_add] using this
theorem odds_get : ∀ (l : List Int) (i : Nat), (odds l).getD i 0 = l.getD (2 * i + 1) 0
  | [], i => by simp [odds]
  | [x], i => by simp [odds]
  | x :: y :: l, 0 => by simp [odds]
  | x :: y :: l, i + 1 => by
    have := odds_get l i
    simpa [odds, Nat.mul_add] using this
theorem VW.even {l xs : List Int} {s m : Nat} (H : VW l s xs) (hm : xs.length = 2 * m) (h1 : 1 ≤ m) : VW l (2 * s) (evens xs) := by
  obtain ⟨q1, q2, q3, q4, q5⟩ := H
  have e : (evens xs).length = m := by rw [evens_length]; omega
  have e1 : (xs.length - 1) * s = xs.length * s - s := by rw [Nat.sub_mul, Nat.one_mul]
  have e2 : xs.length * s = 2 * (m * s) := by rw [hm, Nat.mul_assoc]
  have e3 : m * (2 * s) = 2 * (m * s) := by rw [Nat.mul_left_comm]
  have e4 : (m - 1) * (2 * s) = 2 * (m * s) - 2 * s := by rw [Nat.sub_mul, Nat.one_mul, e3]
  have e5 : s ≤ m * s := Nat.le_mul_of_pos_left s h1
  refine ⟨by omega, by omega, by rw [e]; omega, by rw [e]; omega, fun i hi => ?_⟩
  rw [evens_get, ← q5 (2 * i) (by omega)]
  congr 1; rw [Nat.mul_left_comm, Nat.mul_assoc]
theorem VW.odd {l xs : List Int} {s m : Nat} (H : VW l s xs) (hm : xs.length = 2 * m) (h1 : 1 ≤ m) : VW (l.drop s) (2 * s) (odds xs) := by
  obtain ⟨q1, q2, q3, q4, q5⟩ := H
  have e : (odds xs).length = m := by rw [odds_length]; omega
  have e1 : (xs.length - 1) * s = xs.length * s - s := by rw [Nat.sub_mul, Nat.one_mul]
  have e2 : xs.length * s = 2 * (m * s) := by rw [hm, Nat.mul_assoc]
  have e3 : m * (2 * s) = 2 * (m * s) := by rw [Nat.mul_left_comm]
  have e4 : (m - 1) * (2 * s) = 2 * (m * s) - 2 * s := by rw [Nat.sub_mul, Nat.one_mul, e3]
  have e5 : s ≤ m * s := Nat.le_mul_of_pos_left s h1
  refine ⟨by omega, by omega, by rw [e, List.length_drop]; omega, by rw [e, List.length_drop]; omega, fun i hi => ?_⟩
  rw [odds_get, ← q5 (2 * i + 1) (by omega)]
  simp only [List.getD_eq_getElem?_getD, List.getElem?_drop]
  congr 2; rw [Nat.add_mul, Nat.one_mul, Nat.mul_left_comm, Nat.mul_assoc]; omega

section
variable {C : Ctx}

theorem size_spec (hC : Has C T57) {v : AV} {l : List Int} {s : Nat} {h : Heap} (hl : RI h v l) (hs : 1 ≤ s ∧ s ≤ 65536 ∧ l.length ≤ 65536) : ACalls C 57 [.agg [v, .int .i64 s]] h (fun r h' => r = .int .i64 (((l.length + s - 1) / s : Nat)) ∧ h' = h) := by
  have hlt := hl.lt
  refine ACalls.gc0 (P := fun r h' => r = .int .i64 (((l.length + s - 1) / s : Nat)) ∧ HSub h h') ?_ (fun r h' hp => ⟨by rw [hp.1]; trivial, hp.2, hp.1, rfl⟩)
  have e : (l.length : Int) + s - 1 = ((l.length + s - 1 : Nat) : Int) := by omega
  have q1 : ((l.length + s - 1) / s : Nat) ≤ l.length + s - 1 := Nat.div_le_self _ _
  have e2 : ((l.length : Int) + s - 1) / (s : Int) = (((l.length + s - 1) / s : Nat) : Int) := by rw [e]; exact Int.natCast_ediv _ _
  generalize (l.length + s - 1) / s = q at q1 e2
  (refine calls_intro (hC.body (by decide) tab57) (Nat.le_of_ble_eq_true rfl) ?_); (show wp C _ none B57.code _ _); (simp only [B57]); simp -implicitDefEqProofs (disch := first | assumption | decide | omega | (simp -implicitDefEqProofs only [wpD1] <;> omega) | (refine not_in_one ?_; first | omega | (simp -implicitDefEqProofs only [wpD1] <;> omega) | fail) | (simp -implicitDefEqProofs only [wpD2] <;> assumption) | ((repeat (first | exact HSub.refl _ | assumption | refine HSub.push ?_ _ | refine HSub.reserve ?_ _ | refine HSub.put ?_ (by omega) _)); done) | fail) only [↓wpPre, wpPost, wpPoly, Int.reduceToNat, Int.reducePow, Int.reduceMul, Int.reduceAdd, Int.reduceSub, Int.reduceNeg, Nat.reduceAdd, Nat.reduceMul, Nat.reducePow, Int.reduceLT, Int.reduceLE, Int.reduceEq, Nat.reduceEqDiff, hl.len, e2]
  exact HSub.push1 _ _

theorem at_spec (hC : Has C T58) {v : AV} {l : List Int} {s i : Nat} {h : Heap} (hl : RI h v l) (hi : i * s < l.length) : ACalls C 58 [.agg [v, .int .i64 s], .int .i64 (i : Nat)] h (fun r h' => r = .int .i64 (l.getD (i * s) 0) ∧ h' = h) := by
  have hlt := hl.lt
  refine ACalls.gc0 (P := fun r h' => r = .int .i64 (l.getD (i * s) 0) ∧ HSub h h') ?_ (fun r h' hp => ⟨by rw [hp.1]; trivial, hp.2, hp.1, rfl⟩)
  have e : (i : Int) * s = ((i * s : Nat) : Int) := by rw [Int.natCast_mul]
  have hl' := hl.mono (HSub.push1 h (.cells [v, .int .i64 s] true 0))
  generalize i * s = q at hi e
  (refine calls_intro (hC.body (by decide) tab58) (Nat.le_of_ble_eq_true rfl) ?_); (show wp C _ none B58.code _ _); (simp only [B58]); simp -implicitDefEqProofs (disch := first | assumption | decide | omega | (simp -implicitDefEqProofs only [wpD1] <;> omega) | (refine not_in_one ?_; first | omega | (simp -implicitDefEqProofs only [wpD1] <;> omega) | fail) | (simp -implicitDefEqProofs only [wpD2] <;> assumption) | ((repeat (first | exact HSub.refl _ | assumption | refine HSub.push ?_ _ | refine HSub.reserve ?_ _ | refine HSub.put ?_ (by omega) _)); done) | fail) only [↓wpPre, wpPost, wpPoly, Int.reduceToNat, Int.reducePow, Int.reduceMul, Int.reduceAdd, Int.reduceSub, Int.reduceNeg, Nat.reduceAdd, Nat.reduceMul, Nat.reducePow, Int.reduceLT, Int.reduceLE, Int.reduceEq, Nat.reduceEqDiff, e, hl.idx, hl'.load]
  exact HSub.push1 _ _

theorem halves_spec (hC : Has C T59) {v : AV} {l : List Int} {s : Nat} {h : Heap} (hl : RI h v l) (hs : 1 ≤ s ∧ s ≤ l.length ∧ s ≤ 65536) :
    ACalls C 59 [.agg [v, .int .i64 s]] h (fun r h' => ∃ va vb, r = .tuple [.agg [va, .int .i64 (2 * s : Nat)], .agg [vb, .int .i64 (2 * s : Nat)]] ∧ HSub h h' ∧ RI h' va l ∧ RI h' vb (l.drop s)) := by
  have hlt := hl.lt
  obtain ⟨va, ea, Ha⟩ := hl.part_bc (k2 := .i64) (k3 := .i64) (b := l.length) (c := l.length) (by omega)
  obtain ⟨vb, eb, Hb⟩ := hl.part_abc (k1 := .i64) (k2 := .i64) (k3 := .i64) (a := s) (b := l.length) (c := l.length) (by omega)
  have Ha' : RI h va l := by simpa using Ha
  have Hb' : RI h vb (l.drop s) := by
    have : (l.drop (s : Int).toNat).take ((l.length : Int).toNat - (s : Int).toNat) = l.drop s := by
      rw [Int.toNat_natCast, Int.toNat_natCast]; exact List.take_of_length_le (by simp)
    rw [this] at Hb; exact Hb
  have ca := Ha.cells
  have cb := Hb.cells
  have oa := Ha.one
  have ob := Hb.one
  (refine calls_intro (hC.body (by decide) tab59) (Nat.le_of_ble_eq_true rfl) ?_); (show wp C _ none B59.code _ _); (simp only [B59]); simp -implicitDefEqProofs (disch := first | assumption | decide | omega | (simp -implicitDefEqProofs only [wpD1] <;> omega) | (refine not_in_one ?_; first | omega | (simp -implicitDefEqProofs only [wpD1] <;> omega) | fail) | (simp -implicitDefEqProofs only [wpD2] <;> assumption) | ((repeat (first | exact HSub.refl _ | assumption | refine HSub.push ?_ _ | refine HSub.reserve ?_ _ | refine HSub.put ?_ (by omega) _)); done) | fail) only [↓wpPre, wpPost, wpPoly, Int.reduceToNat, Int.reducePow, Int.reduceMul, Int.reduceAdd, Int.reduceSub, Int.reduceNeg, Nat.reduceAdd, Nat.reduceMul, Nat.reducePow, Int.reduceLT, Int.reduceLE, Int.reduceEq, Nat.reduceEqDiff, hl.len, ea, eb]
  refine ⟨SL.noRids hl (by omega), va, vb, rfl, ?_, Ha'.mono ?_, Hb'.mono ?_⟩
  all_goals exact (((HSub.refl h).push _).push _).push _

theorem powers_spec (hC : Has C T60) {w : Int} {h : Heap} : ACalls C 60 [.int .i64 w] h (fun r h' => r = .func 61 [] [.ptr h.size 0] ∧ h' = h.push (.cells [.int .i64 w] true 0)) := by
  (refine calls_intro (hC.body (by decide) tab60) (Nat.le_of_ble_eq_true rfl) ?_); (show wp C _ none B60.code _ _); (simp only [B60]); simp -implicitDefEqProofs (disch := first | assumption | decide | omega | (simp -implicitDefEqProofs only [wpD1] <;> omega) | (refine not_in_one ?_; first | omega | (simp -implicitDefEqProofs only [wpD1] <;> omega) | fail) | (simp -implicitDefEqProofs only [wpD2] <;> assumption) | ((repeat (first | exact HSub.refl _ | assumption | refine HSub.push ?_ _ | refine HSub.reserve ?_ _ | refine HSub.put ?_ (by omega) _)); done) | fail) only [↓wpPre, wpPost, wpPoly, Int.reduceToNat, Int.reducePow, Int.reduceMul, Int.reduceAdd, Int.reduceSub, Int.reduceNeg, Nat.reduceAdd, Nat.reduceMul, Nat.reducePow, Int.reduceLT, Int.reduceLE, Int.reduceEq, Nat.reduceEqDiff]

theorem powers1_iter (hC : Has C T61) {l b : Nat} {w : Int} {h : Heap} (hw : 0 ≤ w ∧ w < 998244353) (J : Nat → Heap → Prop) (D : Heap → Prop) (M : Nat) (h0 : J 0 h) (hb : ∀ k h', J k h' → h'.get b = some (.cells [.int .i64 w] true 0)) (hM : ∀ k h', J k h' → k ≤ M)
    (hy : ∀ k h', J k h' → AYield C l [.int .i64 (w ^ k % pP)] h' (fun r h'' => (r = .bool true ∧ J (k + 1) h'') ∨ (r = .bool false ∧ D h''))) :
    ACalls C 61 [.yield l, .ptr b 0] h (fun _ h' => D h') := by
  (refine calls_intro (hC.body (by decide) tab61) (Nat.le_of_ble_eq_true rfl) ?_); (show wp C _ none B61.code _ _); (simp only [B61]); simp -implicitDefEqProofs (disch := first | assumption | decide | omega | (simp -implicitDefEqProofs only [wpD1] <;> omega) | (refine not_in_one ?_; first | omega | (simp -implicitDefEqProofs only [wpD1] <;> omega) | fail) | (simp -implicitDefEqProofs only [wpD2] <;> assumption) | ((repeat (first | exact HSub.refl _ | assumption | refine HSub.push ?_ _ | refine HSub.reserve ?_ _ | refine HSub.put ?_ (by omega) _)); done) | fail) only [↓wpPre, wpPost, wpPoly, Int.reduceToNat, Int.reducePow, Int.reduceMul, Int.reduceAdd, Int.reduceSub, Int.reduceNeg, Nat.reduceAdd, Nat.reduceMul, Nat.reducePow, Int.reduceLT, Int.reduceLE, Int.reduceEq, Nat.reduceEqDiff]
  refine wp_loopI (fun j t h' => ∃ k : Nat, J k h' ∧ t 0 = .yield l ∧ t 1 = .ptr b 0 ∧ t 3 = .int .i64 (w ^ k % pP) ∧ j = M - k) (j0 := M) ⟨0, h0, rfl, rfl, by rw [Int.pow_zero]; rfl, rfl⟩ ?_
  rintro j t h' ⟨k, hJ, e0, e1, e3, hj⟩
  simp -implicitDefEqProofs (disch := first | assumption | decide | omega | (simp -implicitDefEqProofs only [wpD1] <;> omega) | (refine not_in_one ?_; first | omega | (simp -implicitDefEqProofs only [wpD1] <;> omega) | fail) | (simp -implicitDefEqProofs only [wpD2] <;> assumption) | ((repeat (first | exact HSub.refl _ | assumption | refine HSub.push ?_ _ | refine HSub.reserve ?_ _ | refine HSub.put ?_ (by omega) _)); done) | fail) only [↓wpPre, wpPost, wpPoly, Int.reduceToNat, Int.reducePow, Int.reduceMul, Int.reduceAdd, Int.reduceSub, Int.reduceNeg, Nat.reduceAdd, Nat.reduceMul, Nat.reducePow, Int.reduceLT, Int.reduceLE, Int.reduceEq, Nat.reduceEqDiff, e0, e3]
  refine AYieldK.of (hy k h' hJ) ?_
  rintro r h'' (⟨rfl, hJ'⟩ | ⟨rfl, hD⟩)
  · have hq : 0 ≤ w ^ k % pP ∧ w ^ k % pP < 998244353 := ⟨Int.emod_nonneg _ (by decide), Int.emod_lt_of_pos _ (by decide)⟩
    have m1 : 0 ≤ w ^ k % pP * w := Int.mul_nonneg hq.1 hw.1
    have m2 : w ^ k % pP * w ≤ 998244353 * 998244353 := Int.mul_le_mul (by omega) (by omega) (by omega) (by omega)
    simp -implicitDefEqProofs (disch := first | assumption | decide | omega | (simp -implicitDefEqProofs only [wpD1] <;> omega) | (refine not_in_one ?_; first | omega | (simp -implicitDefEqProofs only [wpD1] <;> omega) | fail) | (simp -implicitDefEqProofs only [wpD2] <;> assumption) | ((repeat (first | exact HSub.refl _ | assumption | refine HSub.push ?_ _ | refine HSub.reserve ?_ _ | refine HSub.put ?_ (by omega) _)); done) | fail) only [↓wpPre, wpPost, wpPoly, Int.reduceToNat, Int.reducePow, Int.reduceMul, Int.reduceAdd, Int.reduceSub, Int.reduceNeg, Nat.reduceAdd, Nat.reduceMul, Nat.reducePow, Int.reduceLT, Int.reduceLE, Int.reduceEq, Nat.reduceEqDiff, e0, e1, e3, hb _ _ hJ']
    have := hM _ _ hJ'
    exact ⟨_, ⟨k + 1, hJ', by rw [emod_mul_l, Int.pow_succ], rfl⟩, by omega⟩
  · simp -implicitDefEqProofs (disch := first | assumption | decide | omega | (simp -implicitDefEqProofs only [wpD1] <;> omega) | (refine not_in_one ?_; first | omega | (simp -implicitDefEqProofs only [wpD1] <;> omega) | fail) | (simp -implicitDefEqProofs only [wpD2] <;> assumption) | ((repeat (first | exact HSub.refl _ | assumption | refine HSub.push ?_ _ | refine HSub.reserve ?_ _ | refine HSub.put ?_ (by omega) _)); done) | fail) only [↓wpPre, wpPost, wpPoly, Int.reduceToNat, Int.reducePow, Int.reduceMul, Int.reduceAdd, Int.reduceSub, Int.reduceNeg, Nat.reduceAdd, Nat.reduceMul, Nat.reducePow, Int.reduceLT, Int.reduceLE, Int.reduceEq, Nat.reduceEqDiff, e0]
    exact hD

/-- What the transform's rounds have filled in. -/
def Half (D X : List Int) (m k : Nat) : Prop := X.length = 2 * m ∧ ∀ j, j < k → X.getD j 0 = D.getD j 0 ∧ X.getD (j + m) 0 = D.getD (j + m) 0
theorem Half.full {D X : List Int} {m : Nat} (H : Half D X m m) (hD : D.length = 2 * m) : X = D := by
  refine List.ext_getElem (by rw [H.1, hD]) fun i h1 h2 => ?_
  have e1 : X[i] = X.getD i 0 := by simp [h1]
  have e2 : D[i] = D.getD i 0 := by simp [h2]
  rw [e1, e2]
  by_cases hi : i < m
  · exact (H.2 i hi).1
  · have := (H.2 (i - m) (by omega)).2
    rwa [show i - m + m = i by omega] at this
theorem Half.step {D X : List Int} {m k : Nat} {x y : Int} (H : Half D X m k) (hk : k < m) (hx : x = D.getD k 0) (hy : y = D.getD (k + m) 0) : Half D ((X.set k x).set (k + m) y) m (k + 1) := by
  refine ⟨by simp [H.1], fun j hj => ?_⟩
  have hl := H.1
  by_cases e : j = k
  · subst e
    refine ⟨?_, ?_⟩
    · rw [← hx]; simp [List.getElem?_set, List.getElem_set, show ¬ j + m = j by omega, show ¬ m = 0 by omega, show j < X.length by omega]
    · rw [← hy]; simp [List.getElem?_set, show j + m < X.length by omega]
  · have := H.2 j (by omega)
    refine ⟨?_, ?_⟩
    · rw [← this.1]; simp [List.getElem?_set, show ¬ k + m = j by omega, show ¬ k = j by omega]
    · rw [← this.2]; simp [List.getElem?_set, show ¬ k = j by omega, show ¬ k = j + m by omega]

set_option maxRecDepth 100000 in
set_option maxHeartbeats 2000000 in
theorem transform_spec (hC : Has C T49) : ∀ (k : Nat) {v : AV} {l xs : List Int} {s : Nat} {w : Int} {h : Heap}, RI h v l → VW l s xs → xs.length = 2 ^ k → (∀ x ∈ xs, 0 ≤ x ∧ x < 998244353) → RootOk k w → 0 ≤ w ∧ w < 998244353 → s * 2 ^ k ≤ 32768 →
    ACalls C 49 [.agg [v, .int .i64 s], .int .i64 w] h (fun r h' => Fresh h h' r (dft w xs)) := by
  intro k
  induction k with
  | zero =>
    intro v l xs s w h hl hv hn hr hw hw' hs
    have hlt := hl.lt
    have hv' := hv
    obtain ⟨v1, v2, v3, v4, v5⟩ := hv'
    have c0 := hl.cells
    have o0 := hl.one
    rw [Nat.pow_zero] at hn hs
    have hL : l.length ≤ 32768 := by have v4' := v4; rw [hn] at v4'; omega
    (refine calls_intro (hC.body (by decide) tab49) (Nat.le_of_ble_eq_true rfl) ?_); (show wp C _ none B49.code _ _); (simp only [B49]); simp -implicitDefEqProofs (disch := first | assumption | decide | omega | (simp -implicitDefEqProofs only [wpD1] <;> omega) | (refine not_in_one ?_; first | omega | (simp -implicitDefEqProofs only [wpD1] <;> omega) | fail) | (simp -implicitDefEqProofs only [wpD2] <;> assumption) | ((repeat (first | exact HSub.refl _ | assumption | refine HSub.push ?_ _ | refine HSub.reserve ?_ _ | refine HSub.put ?_ (by omega) _)); done) | fail) only [↓wpPre, wpPost, wpPoly, Int.reduceToNat, Int.reducePow, Int.reduceMul, Int.reduceAdd, Int.reduceSub, Int.reduceNeg, Nat.reduceAdd, Nat.reduceMul, Nat.reducePow, Int.reduceLT, Int.reduceLE, Int.reduceEq, Nat.reduceEqDiff]
    refine ACallsK.eq (size_spec (hC.sub (T' := T57) (by decide)) (hl.mono (HSub.push1 _ _)) (by omega)) ?_
    rw [hv.size, hn]
    simp -implicitDefEqProofs (disch := first | assumption | decide | omega | (simp -implicitDefEqProofs only [wpD1] <;> omega) | (refine not_in_one ?_; first | omega | (simp -implicitDefEqProofs only [wpD1] <;> omega) | fail) | (simp -implicitDefEqProofs only [wpD2] <;> assumption) | ((repeat (first | exact HSub.refl _ | assumption | refine HSub.push ?_ _ | refine HSub.reserve ?_ _ | refine HSub.put ?_ (by omega) _)); done) | fail) only [↓wpPre, wpPost, wpPoly, Int.reduceToNat, Int.reducePow, Int.reduceMul, Int.reduceAdd, Int.reduceSub, Int.reduceNeg, Nat.reduceAdd, Nat.reduceMul, Nat.reducePow, Int.reduceLT, Int.reduceLE, Int.reduceEq, Nat.reduceEqDiff]
    refine ACallsK.eq (at_spec (hC.sub (T' := T58) (by decide)) (i := 0) (hl.mono ((HSub.push1 _ _).push _)) (by omega)) ?_
    simp -implicitDefEqProofs (disch := first | assumption | decide | omega | (simp -implicitDefEqProofs only [wpD1] <;> omega) | (refine not_in_one ?_; first | omega | (simp -implicitDefEqProofs only [wpD1] <;> omega) | fail) | (simp -implicitDefEqProofs only [wpD2] <;> assumption) | ((repeat (first | exact HSub.refl _ | assumption | refine HSub.push ?_ _ | refine HSub.reserve ?_ _ | refine HSub.put ?_ (by omega) _)); done) | fail) only [↓wpPre, wpPost, wpPoly, Int.reduceToNat, Int.reducePow, Int.reduceMul, Int.reduceAdd, Int.reduceSub, Int.reduceNeg, Nat.reduceAdd, Nat.reduceMul, Nat.reducePow, Int.reduceLT, Int.reduceLE, Int.reduceEq, Nat.reduceEqDiff]
    have e := v5 0 (by omega)
    rw [Nat.zero_mul] at e
    rw [e]
    have hd : dft w xs = [xs.getD 0 0] := by
      match xs, hn with
      | [x], _ =>
        have := hr x (by simp)
        have h2 : x % pP = x := Int.emod_eq_of_lt this.1 this.2
        simp [dft, pe, h2]
    rw [hd]
    exact ⟨((HSub.push1 _ _).push _).push _, by simp, h.size + 1 + 1, by omega, rfl, get_push_eq (by simp)⟩
  | succ k ih =>
    intro v l xs s w h hl hv hn hr hw hw' hs
    have hlt := hl.lt
    have hv' := hv
    obtain ⟨v1, v2, v3, v4, v5⟩ := hv'
    have c0 := hl.cells
    have o0 := hl.one
    have hlow := @dft_low w xs
    have hhigh := fun q => @dft_high w xs q k hw
    have hwh := hw.half
    have hpos : 1 ≤ 2 ^ k := Nat.one_le_two_pow
    rw [Nat.pow_succ, Nat.mul_comm _ 2] at hn hs
    generalize hm : 2 ^ k = m at *
    have hs1 : s ≤ s * (2 * m) := Nat.le_mul_of_pos_right s (by omega)
    have hm1 : 2 * m ≤ s * (2 * m) := Nat.le_mul_of_pos_left (2 * m) (by omega)
    have hs2 : 2 * s * m ≤ 32768 := by rw [Nat.mul_assoc, Nat.mul_left_comm]; exact hs
    have hsl : s ≤ l.length := by
      have e1 : (2 * m - 1) * s = 2 * m * s - s := by rw [Nat.sub_mul, Nat.one_mul]
      have e2 : 2 * s ≤ 2 * m * s := Nat.mul_le_mul_right s (by omega)
      rw [hn, e1] at v3; omega
    have hL : l.length ≤ 32768 := by have v4' := v4; rw [hn, Nat.mul_comm] at v4'; omega
    have m1 : 0 ≤ w * w := Int.mul_nonneg hw'.1 hw'.1
    have m2 : w * w ≤ 998244353 * 998244353 := Int.mul_le_mul (by omega) (by omega) (by omega) (by omega)
    have m3 : 0 ≤ w * w % pP ∧ w * w % pP < 998244353 := ⟨Int.emod_nonneg _ (by decide), Int.emod_lt_of_pos _ (by decide)⟩
    (refine calls_intro (hC.body (by decide) tab49) (Nat.le_of_ble_eq_true rfl) ?_); (show wp C _ none B49.code _ _); (simp only [B49]); simp -implicitDefEqProofs (disch := first | assumption | decide | omega | (simp -implicitDefEqProofs only [wpD1] <;> omega) | (refine not_in_one ?_; first | omega | (simp -implicitDefEqProofs only [wpD1] <;> omega) | fail) | (simp -implicitDefEqProofs only [wpD2] <;> assumption) | ((repeat (first | exact HSub.refl _ | assumption | refine HSub.push ?_ _ | refine HSub.reserve ?_ _ | refine HSub.put ?_ (by omega) _)); done) | fail) only [↓wpPre, wpPost, wpPoly, Int.reduceToNat, Int.reducePow, Int.reduceMul, Int.reduceAdd, Int.reduceSub, Int.reduceNeg, Nat.reduceAdd, Nat.reduceMul, Nat.reducePow, Int.reduceLT, Int.reduceLE, Int.reduceEq, Nat.reduceEqDiff]
    refine ACallsK.eq (size_spec (hC.sub (T' := T57) (by decide)) (hl.mono (HSub.push1 _ _)) (by omega)) ?_
    rw [hv.size, hn]
    simp -implicitDefEqProofs (disch := first | assumption | decide | omega | (simp -implicitDefEqProofs only [wpD1] <;> omega) | (refine not_in_one ?_; first | omega | (simp -implicitDefEqProofs only [wpD1] <;> omega) | fail) | (simp -implicitDefEqProofs only [wpD2] <;> assumption) | ((repeat (first | exact HSub.refl _ | assumption | refine HSub.push ?_ _ | refine HSub.reserve ?_ _ | refine HSub.put ?_ (by omega) _)); done) | fail) only [↓wpPre, wpPost, wpPoly, Int.reduceToNat, Int.reducePow, Int.reduceMul, Int.reduceAdd, Int.reduceSub, Int.reduceNeg, Nat.reduceAdd, Nat.reduceMul, Nat.reducePow, Int.reduceLT, Int.reduceLE, Int.reduceEq, Nat.reduceEqDiff]
    refine ACallsK.of (halves_spec (hC.sub (T' := T59) (by decide)) (hl.mono ((HSub.push1 _ _).push _)) (by omega)) ?_
    rintro r h1 ⟨va, vb, rfl, hs1', Ha, Hb⟩
    have z1 := hs1'.size
    simp only [Heap.size_push] at z1
    have ca := Ha.cells
    have oa := Ha.one
    have cb := Hb.cells
    have ob := Hb.one
    have g1 := hs1'.get
    simp -implicitDefEqProofs (disch := first | assumption | decide | omega | (simp -implicitDefEqProofs only [wpD1] <;> omega) | (refine not_in_one ?_; first | omega | (simp -implicitDefEqProofs only [wpD1] <;> omega) | fail) | (simp -implicitDefEqProofs only [wpD2] <;> assumption) | ((repeat (first | exact HSub.refl _ | assumption | refine HSub.push ?_ _ | refine HSub.reserve ?_ _ | refine HSub.put ?_ (by omega) _)); done) | fail) only [↓wpPre, wpPost, wpPoly, Int.reduceToNat, Int.reducePow, Int.reduceMul, Int.reduceAdd, Int.reduceSub, Int.reduceNeg, Nat.reduceAdd, Nat.reduceMul, Nat.reducePow, Int.reduceLT, Int.reduceLE, Int.reduceEq, Nat.reduceEqDiff, g1]
    have xe : (evens xs).length = m := by rw [evens_length]; omega
    have xo : (odds xs).length = m := by rw [odds_length]; omega
    have re : ∀ x ∈ evens xs, 0 ≤ x ∧ x < 998244353 := fun x hx => by
      obtain ⟨i, hi, rfl⟩ := List.mem_iff_getElem.1 hx
      have := evens_get xs i
      simp only [List.getD_eq_getElem?_getD, hi, List.getElem?_eq_getElem, Option.getD_some] at this
      rw [this, ← List.getD_eq_getElem?_getD]
      exact hr _ (getD_mem (by omega))
    have ro : ∀ x ∈ odds xs, 0 ≤ x ∧ x < 998244353 := fun x hx => by
      obtain ⟨i, hi, rfl⟩ := List.mem_iff_getElem.1 hx
      have := odds_get xs i
      simp only [List.getD_eq_getElem?_getD, hi, List.getElem?_eq_getElem, Option.getD_some] at this
      rw [this, ← List.getD_eq_getElem?_getD]
      exact hr _ (getD_mem (by omega))
    refine ACallsK.of (ih (Ha.mono (((HSub.push1 _ _).push _).reserve _)) (hv.even hn (by omega)) xe re hwh m3 hs2) ?_
    rintro r1 h2 F1
    have F1' := F1
    obtain ⟨hsa, hla, i1, hi1, rfl, hg1⟩ := F1'
    have z2 := hsa.size
    simp only [Heap.size_push, Heap.size_reserve] at z2 hi1
    have g2 := hsa.get
    have ga := Heap.lt_of_get hg1
    simp -implicitDefEqProofs (disch := first | assumption | decide | omega | (simp -implicitDefEqProofs only [wpD1] <;> omega) | (refine not_in_one ?_; first | omega | (simp -implicitDefEqProofs only [wpD1] <;> omega) | fail) | (simp -implicitDefEqProofs only [wpD2] <;> assumption) | ((repeat (first | exact HSub.refl _ | assumption | refine HSub.push ?_ _ | refine HSub.reserve ?_ _ | refine HSub.put ?_ (by omega) _)); done) | fail) only [↓wpPre, wpPost, wpPoly, Int.reduceToNat, Int.reducePow, Int.reduceMul, Int.reduceAdd, Int.reduceSub, Int.reduceNeg, Nat.reduceAdd, Nat.reduceMul, Nat.reducePow, Int.reduceLT, Int.reduceLE, Int.reduceEq, Nat.reduceEqDiff, g2]
    refine ACallsK.of (ih (Hb.mono ((((HSub.push1 _ _).push _).reserve _).trans hsa)) (hv.odd hn (by omega)) xo ro hwh m3 hs2) ?_
    rintro r2 h3 F2
    have F2' := F2
    obtain ⟨hsb, hlb, i2, hi2, rfl, hg2⟩ := F2'
    have z3 := hsb.size
    have g3 := hsb.get
    have gb := Heap.lt_of_get hg2
    have hg1' := (hsb.get i1 ga).trans hg1
    simp -implicitDefEqProofs (disch := first | assumption | decide | omega | (simp -implicitDefEqProofs only [wpD1] <;> omega) | (refine not_in_one ?_; first | omega | (simp -implicitDefEqProofs only [wpD1] <;> omega) | fail) | (simp -implicitDefEqProofs only [wpD2] <;> assumption) | ((repeat (first | exact HSub.refl _ | assumption | refine HSub.push ?_ _ | refine HSub.reserve ?_ _ | refine HSub.put ?_ (by omega) _)); done) | fail) only [↓wpPre, wpPost, wpPoly, Int.reduceToNat, Int.reducePow, Int.reduceMul, Int.reduceAdd, Int.reduceSub, Int.reduceNeg, Nat.reduceAdd, Nat.reduceMul, Nat.reducePow, Int.reduceLT, Int.reduceLE, Int.reduceEq, Nat.reduceEqDiff, g2, g3, g1, Heap.wf]
    refine ACallsK.hide (fun H hH => ?_)
    have N : H.size = h3.size + 3 := by rw [hH]; simp -implicitDefEqProofs (disch := first | assumption | decide | omega | (simp -implicitDefEqProofs only [wpD1] <;> omega) | (refine not_in_one ?_; first | omega | (simp -implicitDefEqProofs only [wpD1] <;> omega) | fail) | (simp -implicitDefEqProofs only [wpD2] <;> assumption) | ((repeat (first | exact HSub.refl _ | assumption | refine HSub.push ?_ _ | refine HSub.reserve ?_ _ | refine HSub.put ?_ (by omega) _)); done) | fail) only [↓wpPre, wpPost, wpPoly, Int.reduceToNat, Int.reducePow, Int.reduceMul, Int.reduceAdd, Int.reduceSub, Int.reduceNeg, Nat.reduceAdd, Nat.reduceMul, Nat.reducePow, Int.reduceLT, Int.reduceLE, Int.reduceEq, Nat.reduceEqDiff]
    have b5 : H.get (h.size + 1) = some (.cells [.int .i64 (2 * m : Nat)] true 0) := by
      rw [hH]; simp -implicitDefEqProofs (disch := first | assumption | decide | omega | (simp -implicitDefEqProofs only [wpD1] <;> omega) | (refine not_in_one ?_; first | omega | (simp -implicitDefEqProofs only [wpD1] <;> omega) | fail) | (simp -implicitDefEqProofs only [wpD2] <;> assumption) | ((repeat (first | exact HSub.refl _ | assumption | refine HSub.push ?_ _ | refine HSub.reserve ?_ _ | refine HSub.put ?_ (by omega) _)); done) | fail) only [↓wpPre, wpPost, wpPoly, Int.reduceToNat, Int.reducePow, Int.reduceMul, Int.reduceAdd, Int.reduceSub, Int.reduceNeg, Nat.reduceAdd, Nat.reduceMul, Nat.reducePow, Int.reduceLT, Int.reduceLE, Int.reduceEq, Nat.reduceEqDiff, g3, g2, g1]
    have b8 : H.get (h1.size + 1 + 1 + 12) = some (.cells [.slice i1 0 (dft (w * w % pP) (evens xs)).length (.known (dft (w * w % pP) (evens xs)).length)] true 0) := by
      rw [hH]; simp -implicitDefEqProofs (disch := first | assumption | decide | omega | (simp -implicitDefEqProofs only [wpD1] <;> omega) | (refine not_in_one ?_; first | omega | (simp -implicitDefEqProofs only [wpD1] <;> omega) | fail) | (simp -implicitDefEqProofs only [wpD2] <;> assumption) | ((repeat (first | exact HSub.refl _ | assumption | refine HSub.push ?_ _ | refine HSub.reserve ?_ _ | refine HSub.put ?_ (by omega) _)); done) | fail) only [↓wpPre, wpPost, wpPoly, Int.reduceToNat, Int.reducePow, Int.reduceMul, Int.reduceAdd, Int.reduceSub, Int.reduceNeg, Nat.reduceAdd, Nat.reduceMul, Nat.reducePow, Int.reduceLT, Int.reduceLE, Int.reduceEq, Nat.reduceEqDiff]
    have b9 : H.get (h1.size + 1 + 1 + 13) = some (.cells [.slice i2 0 (dft (w * w % pP) (odds xs)).length (.known (dft (w * w % pP) (odds xs)).length)] true 0) := by
      rw [hH]; simp -implicitDefEqProofs (disch := first | assumption | decide | omega | (simp -implicitDefEqProofs only [wpD1] <;> omega) | (refine not_in_one ?_; first | omega | (simp -implicitDefEqProofs only [wpD1] <;> omega) | fail) | (simp -implicitDefEqProofs only [wpD2] <;> assumption) | ((repeat (first | exact HSub.refl _ | assumption | refine HSub.push ?_ _ | refine HSub.reserve ?_ _ | refine HSub.put ?_ (by omega) _)); done) | fail) only [↓wpPre, wpPost, wpPoly, Int.reduceToNat, Int.reducePow, Int.reduceMul, Int.reduceAdd, Int.reduceSub, Int.reduceNeg, Nat.reduceAdd, Nat.reduceMul, Nat.reducePow, Int.reduceLT, Int.reduceLE, Int.reduceEq, Nat.reduceEqDiff]
    have bo : H.get h3.size = some (.cells (ints (List.replicate (2 * m) 0)) true 0) := by
      rw [hH, ← ints_replicate]; simp -implicitDefEqProofs (disch := first | assumption | decide | omega | (simp -implicitDefEqProofs only [wpD1] <;> omega) | (refine not_in_one ?_; first | omega | (simp -implicitDefEqProofs only [wpD1] <;> omega) | fail) | (simp -implicitDefEqProofs only [wpD2] <;> assumption) | ((repeat (first | exact HSub.refl _ | assumption | refine HSub.push ?_ _ | refine HSub.reserve ?_ _ | refine HSub.put ?_ (by omega) _)); done) | fail) only [↓wpPre, wpPost, wpPoly, Int.reduceToNat, Int.reducePow, Int.reduceMul, Int.reduceAdd, Int.reduceSub, Int.reduceNeg, Nat.reduceAdd, Nat.reduceMul, Nat.reducePow, Int.reduceLT, Int.reduceLE, Int.reduceEq, Nat.reduceEqDiff]
    have b10 : H.get (h3.size + 1) = some (.cells [.slice h3.size 0 (2 * m) (.known (2 * m))] true 0) := by
      rw [hH]; simp -implicitDefEqProofs (disch := first | assumption | decide | omega | (simp -implicitDefEqProofs only [wpD1] <;> omega) | (refine not_in_one ?_; first | omega | (simp -implicitDefEqProofs only [wpD1] <;> omega) | fail) | (simp -implicitDefEqProofs only [wpD2] <;> assumption) | ((repeat (first | exact HSub.refl _ | assumption | refine HSub.push ?_ _ | refine HSub.reserve ?_ _ | refine HSub.put ?_ (by omega) _)); done) | fail) only [↓wpPre, wpPost, wpPoly, Int.reduceToNat, Int.reducePow, Int.reduceMul, Int.reduceAdd, Int.reduceSub, Int.reduceNeg, Nat.reduceAdd, Nat.reduceMul, Nat.reducePow, Int.reduceLT, Int.reduceLE, Int.reduceEq, Nat.reduceEqDiff]
    have b11 : H.get (h3.size + 2) = some (.cells [.int .i64 0] true 0) := by
      rw [hH]; simp -implicitDefEqProofs (disch := first | assumption | decide | omega | (simp -implicitDefEqProofs only [wpD1] <;> omega) | (refine not_in_one ?_; first | omega | (simp -implicitDefEqProofs only [wpD1] <;> omega) | fail) | (simp -implicitDefEqProofs only [wpD2] <;> assumption) | ((repeat (first | exact HSub.refl _ | assumption | refine HSub.push ?_ _ | refine HSub.reserve ?_ _ | refine HSub.put ?_ (by omega) _)); done) | fail) only [↓wpPre, wpPost, wpPoly, Int.reduceToNat, Int.reducePow, Int.reduceMul, Int.reduceAdd, Int.reduceSub, Int.reduceNeg, Nat.reduceAdd, Nat.reduceMul, Nat.reducePow, Int.reduceLT, Int.reduceLE, Int.reduceEq, Nat.reduceEqDiff]
    have bA : H.get i1 = some (.cells (ints (dft (w * w % pP) (evens xs))) true 0) := by
      rw [hH]; simp -implicitDefEqProofs (disch := first | assumption | decide | omega | (simp -implicitDefEqProofs only [wpD1] <;> omega) | (refine not_in_one ?_; first | omega | (simp -implicitDefEqProofs only [wpD1] <;> omega) | fail) | (simp -implicitDefEqProofs only [wpD2] <;> assumption) | ((repeat (first | exact HSub.refl _ | assumption | refine HSub.push ?_ _ | refine HSub.reserve ?_ _ | refine HSub.put ?_ (by omega) _)); done) | fail) only [↓wpPre, wpPost, wpPoly, Int.reduceToNat, Int.reducePow, Int.reduceMul, Int.reduceAdd, Int.reduceSub, Int.reduceNeg, Nat.reduceAdd, Nat.reduceMul, Nat.reducePow, Int.reduceLT, Int.reduceLE, Int.reduceEq, Nat.reduceEqDiff, hg1']
    have bB : H.get i2 = some (.cells (ints (dft (w * w % pP) (odds xs))) true 0) := by
      rw [hH]; simp -implicitDefEqProofs (disch := first | assumption | decide | omega | (simp -implicitDefEqProofs only [wpD1] <;> omega) | (refine not_in_one ?_; first | omega | (simp -implicitDefEqProofs only [wpD1] <;> omega) | fail) | (simp -implicitDefEqProofs only [wpD2] <;> assumption) | ((repeat (first | exact HSub.refl _ | assumption | refine HSub.push ?_ _ | refine HSub.reserve ?_ _ | refine HSub.put ?_ (by omega) _)); done) | fail) only [↓wpPre, wpPost, wpPoly, Int.reduceToNat, Int.reducePow, Int.reduceMul, Int.reduceAdd, Int.reduceSub, Int.reduceNeg, Nat.reduceAdd, Nat.reduceMul, Nat.reducePow, Int.reduceLT, Int.reduceLE, Int.reduceEq, Nat.reduceEqDiff, hg2]
    have hsH : HSub h H := by
      have q0 : HSub h h3 := ((((HSub.push1 h _).push _).trans hs1').trans ((((HSub.push1 h1 _).push _).reserve _).trans hsa)).trans hsb
      rw [hH]
      exact ((((((q0.put (by omega) _).put (by omega) _).put (by omega) _).put (by omega) _).push _).push _).push _
    clear hH
    refine ACallsK.eq (powers_spec (hC.sub (T' := T60) (by decide))) ?_
    simp -implicitDefEqProofs (disch := first | assumption | decide | omega | (simp -implicitDefEqProofs only [wpD1] <;> omega) | (refine not_in_one ?_; first | omega | (simp -implicitDefEqProofs only [wpD1] <;> omega) | fail) | (simp -implicitDefEqProofs only [wpD2] <;> assumption) | ((repeat (first | exact HSub.refl _ | assumption | refine HSub.push ?_ _ | refine HSub.reserve ?_ _ | refine HSub.put ?_ (by omega) _)); done) | fail) only [↓wpPre, wpPost, wpPoly, Int.reduceToNat, Int.reducePow, Int.reduceMul, Int.reduceAdd, Int.reduceSub, Int.reduceNeg, Nat.reduceAdd, Nat.reduceMul, Nat.reducePow, Int.reduceLT, Int.reduceLE, Int.reduceEq, Nat.reduceEqDiff]
    have hDl := dft_length w xs
    have hEl := dft_length (w * w % pP) (evens xs)
    have hOl := dft_length (w * w % pP) (odds xs)
    generalize hE : dft (w * w % pP) (evens xs) = E at *
    generalize hO : dft (w * w % pP) (odds xs) = O at *
    have rE : ∀ x ∈ E, 0 ≤ x ∧ x < 998244353 := by rw [← hE]; exact dft_range
    have rO : ∀ x ∈ O, 0 ≤ x ∧ x < 998244353 := by rw [← hO]; exact dft_range
    refine wpRange_none (D := fun h' => ∃ R, h'.get (H.size + 2) = some (.loop R) ∧ R.state = .done ∧ R.pend = some (.exit 0) ∧ HSub h h' ∧ h'.get (H.size + 1) = some (.defd true) ∧
      h'.get (h3.size + 1) = some (.cells [.slice h3.size 0 (2 * m) (.known (2 * m))] true 0) ∧ h'.get h3.size = some (.cells (ints (dft w xs)) true 0) ∧ H.size + 3 ≤ h'.size) ?_ ?_
    · refine ACalls.hideLoop (fun R hR => ?_)
      show ACalls C 61 [.yield (H.size + 2), .ptr H.size 0] _ _
      have rs : R.state = .ready := by rw [hR]
      have rp : R.pend = none := by rw [hR]
      have rb := loop_back rs rp
      refine powers1_iter (hC.sub (T' := T61) (by decide)) hw' (fun k h' => ∃ X, Half (dft w xs) X m k ∧ k ≤ m ∧ h'.get (H.size + 2) = some (.loop R) ∧ h'.get H.size = some (.cells [.int .i64 w] true 0) ∧ h'.get (H.size + 1) = some (.defd true) ∧ HSub h h' ∧ H.size + 3 ≤ h'.size ∧
        h'.get (h.size + 1) = some (.cells [.int .i64 (2 * m : Nat)] true 0) ∧
        h'.get (h1.size + 1 + 1 + 12) = some (.cells [.slice i1 0 E.length (.known E.length)] true 0) ∧
        h'.get (h1.size + 1 + 1 + 13) = some (.cells [.slice i2 0 O.length (.known O.length)] true 0) ∧
        h'.get h3.size = some (.cells (ints X) true 0) ∧
        h'.get (h3.size + 1) = some (.cells [.slice h3.size 0 (2 * m) (.known (2 * m))] true 0) ∧
        h'.get (h3.size + 2) = some (.cells [.int .i64 (k : Nat)] true 0) ∧
        h'.get i1 = some (.cells (ints E) true 0) ∧ h'.get i2 = some (.cells (ints O) true 0)) _ m ?_ ?_ ?_ ?_
      · refine ⟨List.replicate (2 * m) 0, ⟨by simp, by omega⟩, by omega, ?_, ?_, ?_, ?_, ?_, ?_, ?_, ?_, ?_, ?_, ?_, ?_, ?_⟩
        · simp -implicitDefEqProofs (disch := first | assumption | decide | omega | (simp -implicitDefEqProofs only [wpD1] <;> omega) | (refine not_in_one ?_; first | omega | (simp -implicitDefEqProofs only [wpD1] <;> omega) | fail) | (simp -implicitDefEqProofs only [wpD2] <;> assumption) | ((repeat (first | exact HSub.refl _ | assumption | refine HSub.push ?_ _ | refine HSub.reserve ?_ _ | refine HSub.put ?_ (by omega) _)); done) | fail) only [↓wpPre, wpPost, wpPoly, Int.reduceToNat, Int.reducePow, Int.reduceMul, Int.reduceAdd, Int.reduceSub, Int.reduceNeg, Nat.reduceAdd, Nat.reduceMul, Nat.reducePow, Int.reduceLT, Int.reduceLE, Int.reduceEq, Nat.reduceEqDiff]
        · simp -implicitDefEqProofs (disch := first | assumption | decide | omega | (simp -implicitDefEqProofs only [wpD1] <;> omega) | (refine not_in_one ?_; first | omega | (simp -implicitDefEqProofs only [wpD1] <;> omega) | fail) | (simp -implicitDefEqProofs only [wpD2] <;> assumption) | ((repeat (first | exact HSub.refl _ | assumption | refine HSub.push ?_ _ | refine HSub.reserve ?_ _ | refine HSub.put ?_ (by omega) _)); done) | fail) only [↓wpPre, wpPost, wpPoly, Int.reduceToNat, Int.reducePow, Int.reduceMul, Int.reduceAdd, Int.reduceSub, Int.reduceNeg, Nat.reduceAdd, Nat.reduceMul, Nat.reducePow, Int.reduceLT, Int.reduceLE, Int.reduceEq, Nat.reduceEqDiff]
        · simp -implicitDefEqProofs (disch := first | assumption | decide | omega | (simp -implicitDefEqProofs only [wpD1] <;> omega) | (refine not_in_one ?_; first | omega | (simp -implicitDefEqProofs only [wpD1] <;> omega) | fail) | (simp -implicitDefEqProofs only [wpD2] <;> assumption) | ((repeat (first | exact HSub.refl _ | assumption | refine HSub.push ?_ _ | refine HSub.reserve ?_ _ | refine HSub.put ?_ (by omega) _)); done) | fail) only [↓wpPre, wpPost, wpPoly, Int.reduceToNat, Int.reducePow, Int.reduceMul, Int.reduceAdd, Int.reduceSub, Int.reduceNeg, Nat.reduceAdd, Nat.reduceMul, Nat.reducePow, Int.reduceLT, Int.reduceLE, Int.reduceEq, Nat.reduceEqDiff]
        · exact ((hsH.push _).push _).push _
        · simp -implicitDefEqProofs (disch := first | assumption | decide | omega | (simp -implicitDefEqProofs only [wpD1] <;> omega) | (refine not_in_one ?_; first | omega | (simp -implicitDefEqProofs only [wpD1] <;> omega) | fail) | (simp -implicitDefEqProofs only [wpD2] <;> assumption) | ((repeat (first | exact HSub.refl _ | assumption | refine HSub.push ?_ _ | refine HSub.reserve ?_ _ | refine HSub.put ?_ (by omega) _)); done) | fail) only [↓wpPre, wpPost, wpPoly, Int.reduceToNat, Int.reducePow, Int.reduceMul, Int.reduceAdd, Int.reduceSub, Int.reduceNeg, Nat.reduceAdd, Nat.reduceMul, Nat.reducePow, Int.reduceLT, Int.reduceLE, Int.reduceEq, Nat.reduceEqDiff]
          omega
        · simp -implicitDefEqProofs (disch := first | assumption | decide | omega | (simp -implicitDefEqProofs only [wpD1] <;> omega) | (refine not_in_one ?_; first | omega | (simp -implicitDefEqProofs only [wpD1] <;> omega) | fail) | (simp -implicitDefEqProofs only [wpD2] <;> assumption) | ((repeat (first | exact HSub.refl _ | assumption | refine HSub.push ?_ _ | refine HSub.reserve ?_ _ | refine HSub.put ?_ (by omega) _)); done) | fail) only [↓wpPre, wpPost, wpPoly, Int.reduceToNat, Int.reducePow, Int.reduceMul, Int.reduceAdd, Int.reduceSub, Int.reduceNeg, Nat.reduceAdd, Nat.reduceMul, Nat.reducePow, Int.reduceLT, Int.reduceLE, Int.reduceEq, Nat.reduceEqDiff, b5]
        · simp -implicitDefEqProofs (disch := first | assumption | decide | omega | (simp -implicitDefEqProofs only [wpD1] <;> omega) | (refine not_in_one ?_; first | omega | (simp -implicitDefEqProofs only [wpD1] <;> omega) | fail) | (simp -implicitDefEqProofs only [wpD2] <;> assumption) | ((repeat (first | exact HSub.refl _ | assumption | refine HSub.push ?_ _ | refine HSub.reserve ?_ _ | refine HSub.put ?_ (by omega) _)); done) | fail) only [↓wpPre, wpPost, wpPoly, Int.reduceToNat, Int.reducePow, Int.reduceMul, Int.reduceAdd, Int.reduceSub, Int.reduceNeg, Nat.reduceAdd, Nat.reduceMul, Nat.reducePow, Int.reduceLT, Int.reduceLE, Int.reduceEq, Nat.reduceEqDiff, b8]
        · simp -implicitDefEqProofs (disch := first | assumption | decide | omega | (simp -implicitDefEqProofs only [wpD1] <;> omega) | (refine not_in_one ?_; first | omega | (simp -implicitDefEqProofs only [wpD1] <;> omega) | fail) | (simp -implicitDefEqProofs only [wpD2] <;> assumption) | ((repeat (first | exact HSub.refl _ | assumption | refine HSub.push ?_ _ | refine HSub.reserve ?_ _ | refine HSub.put ?_ (by omega) _)); done) | fail) only [↓wpPre, wpPost, wpPoly, Int.reduceToNat, Int.reducePow, Int.reduceMul, Int.reduceAdd, Int.reduceSub, Int.reduceNeg, Nat.reduceAdd, Nat.reduceMul, Nat.reducePow, Int.reduceLT, Int.reduceLE, Int.reduceEq, Nat.reduceEqDiff, b9]
        · simp -implicitDefEqProofs (disch := first | assumption | decide | omega | (simp -implicitDefEqProofs only [wpD1] <;> omega) | (refine not_in_one ?_; first | omega | (simp -implicitDefEqProofs only [wpD1] <;> omega) | fail) | (simp -implicitDefEqProofs only [wpD2] <;> assumption) | ((repeat (first | exact HSub.refl _ | assumption | refine HSub.push ?_ _ | refine HSub.reserve ?_ _ | refine HSub.put ?_ (by omega) _)); done) | fail) only [↓wpPre, wpPost, wpPoly, Int.reduceToNat, Int.reducePow, Int.reduceMul, Int.reduceAdd, Int.reduceSub, Int.reduceNeg, Nat.reduceAdd, Nat.reduceMul, Nat.reducePow, Int.reduceLT, Int.reduceLE, Int.reduceEq, Nat.reduceEqDiff, bo]
        · simp -implicitDefEqProofs (disch := first | assumption | decide | omega | (simp -implicitDefEqProofs only [wpD1] <;> omega) | (refine not_in_one ?_; first | omega | (simp -implicitDefEqProofs only [wpD1] <;> omega) | fail) | (simp -implicitDefEqProofs only [wpD2] <;> assumption) | ((repeat (first | exact HSub.refl _ | assumption | refine HSub.push ?_ _ | refine HSub.reserve ?_ _ | refine HSub.put ?_ (by omega) _)); done) | fail) only [↓wpPre, wpPost, wpPoly, Int.reduceToNat, Int.reducePow, Int.reduceMul, Int.reduceAdd, Int.reduceSub, Int.reduceNeg, Nat.reduceAdd, Nat.reduceMul, Nat.reducePow, Int.reduceLT, Int.reduceLE, Int.reduceEq, Nat.reduceEqDiff, b10]
        · simp -implicitDefEqProofs (disch := first | assumption | decide | omega | (simp -implicitDefEqProofs only [wpD1] <;> omega) | (refine not_in_one ?_; first | omega | (simp -implicitDefEqProofs only [wpD1] <;> omega) | fail) | (simp -implicitDefEqProofs only [wpD2] <;> assumption) | ((repeat (first | exact HSub.refl _ | assumption | refine HSub.push ?_ _ | refine HSub.reserve ?_ _ | refine HSub.put ?_ (by omega) _)); done) | fail) only [↓wpPre, wpPost, wpPoly, Int.reduceToNat, Int.reducePow, Int.reduceMul, Int.reduceAdd, Int.reduceSub, Int.reduceNeg, Nat.reduceAdd, Nat.reduceMul, Nat.reducePow, Int.reduceLT, Int.reduceLE, Int.reduceEq, Nat.reduceEqDiff, b11]
          rfl
        · simp -implicitDefEqProofs (disch := first | assumption | decide | omega | (simp -implicitDefEqProofs only [wpD1] <;> omega) | (refine not_in_one ?_; first | omega | (simp -implicitDefEqProofs only [wpD1] <;> omega) | fail) | (simp -implicitDefEqProofs only [wpD2] <;> assumption) | ((repeat (first | exact HSub.refl _ | assumption | refine HSub.push ?_ _ | refine HSub.reserve ?_ _ | refine HSub.put ?_ (by omega) _)); done) | fail) only [↓wpPre, wpPost, wpPoly, Int.reduceToNat, Int.reducePow, Int.reduceMul, Int.reduceAdd, Int.reduceSub, Int.reduceNeg, Nat.reduceAdd, Nat.reduceMul, Nat.reducePow, Int.reduceLT, Int.reduceLE, Int.reduceEq, Nat.reduceEqDiff, bA]
        · simp -implicitDefEqProofs (disch := first | assumption | decide | omega | (simp -implicitDefEqProofs only [wpD1] <;> omega) | (refine not_in_one ?_; first | omega | (simp -implicitDefEqProofs only [wpD1] <;> omega) | fail) | (simp -implicitDefEqProofs only [wpD2] <;> assumption) | ((repeat (first | exact HSub.refl _ | assumption | refine HSub.push ?_ _ | refine HSub.reserve ?_ _ | refine HSub.put ?_ (by omega) _)); done) | fail) only [↓wpPre, wpPost, wpPoly, Int.reduceToNat, Int.reducePow, Int.reduceMul, Int.reduceAdd, Int.reduceSub, Int.reduceNeg, Nat.reduceAdd, Nat.reduceMul, Nat.reducePow, Int.reduceLT, Int.reduceLE, Int.reduceEq, Nat.reduceEqDiff, bB]
      · rintro k h' ⟨X, _, _, _, q, _⟩
        exact q
      · rintro k h' ⟨X, _, q, _⟩
        exact q
      · rintro k h' ⟨X, hX, hk, hl, hw1, hd, hsub, hsz, q5, q8, q9, qo, q10, q11, qA, qB⟩
        refine yield_intro hl rs (by rw [hR]; rfl) ?_
        simp only [congrArg ALoop.nt hR, congrArg ALoop.t hR, congrArg ALoop.params hR, congrArg ALoop.assign hR, congrArg ALoop.body hR]
        have hXl := hX.1
        simp -implicitDefEqProofs (disch := first | assumption | decide | omega | (simp -implicitDefEqProofs only [wpD1] <;> omega) | (refine not_in_one ?_; first | omega | (simp -implicitDefEqProofs only [wpD1] <;> omega) | fail) | (simp -implicitDefEqProofs only [wpD2] <;> assumption) | ((repeat (first | exact HSub.refl _ | assumption | refine HSub.push ?_ _ | refine HSub.reserve ?_ _ | refine HSub.put ?_ (by omega) _)); done) | fail) only [↓wpPre, wpPost, wpPoly, Int.reduceToNat, Int.reducePow, Int.reduceMul, Int.reduceAdd, Int.reduceSub, Int.reduceNeg, Nat.reduceAdd, Nat.reduceMul, Nat.reducePow, Int.reduceLT, Int.reduceLE, Int.reduceEq, Nat.reduceEqDiff, hl, rs, q11, q5]
        refine Br.by (fun c => ?_) (fun c => ?_)
        · have : k = m := by omega
          subst this
          simp -implicitDefEqProofs (disch := first | assumption | decide | omega | (simp -implicitDefEqProofs only [wpD1] <;> omega) | (refine not_in_one ?_; first | omega | (simp -implicitDefEqProofs only [wpD1] <;> omega) | fail) | (simp -implicitDefEqProofs only [wpD2] <;> assumption) | ((repeat (first | exact HSub.refl _ | assumption | refine HSub.push ?_ _ | refine HSub.reserve ?_ _ | refine HSub.put ?_ (by omega) _)); done) | fail) only [↓wpPre, wpPost, wpPoly, Int.reduceToNat, Int.reducePow, Int.reduceMul, Int.reduceAdd, Int.reduceSub, Int.reduceNeg, Nat.reduceAdd, Nat.reduceMul, Nat.reducePow, Int.reduceLT, Int.reduceLE, Int.reduceEq, Nat.reduceEqDiff, hl]
          refine .inr ⟨_, rfl, rfl, rfl, ?_⟩
          refine ⟨hsub.put (by omega) _, ?_, ?_, ?_, ?_⟩
          · simp -implicitDefEqProofs (disch := first | assumption | decide | omega | (simp -implicitDefEqProofs only [wpD1] <;> omega) | (refine not_in_one ?_; first | omega | (simp -implicitDefEqProofs only [wpD1] <;> omega) | fail) | (simp -implicitDefEqProofs only [wpD2] <;> assumption) | ((repeat (first | exact HSub.refl _ | assumption | refine HSub.push ?_ _ | refine HSub.reserve ?_ _ | refine HSub.put ?_ (by omega) _)); done) | fail) only [↓wpPre, wpPost, wpPoly, Int.reduceToNat, Int.reducePow, Int.reduceMul, Int.reduceAdd, Int.reduceSub, Int.reduceNeg, Nat.reduceAdd, Nat.reduceMul, Nat.reducePow, Int.reduceLT, Int.reduceLE, Int.reduceEq, Nat.reduceEqDiff, hd]
          · simp -implicitDefEqProofs (disch := first | assumption | decide | omega | (simp -implicitDefEqProofs only [wpD1] <;> omega) | (refine not_in_one ?_; first | omega | (simp -implicitDefEqProofs only [wpD1] <;> omega) | fail) | (simp -implicitDefEqProofs only [wpD2] <;> assumption) | ((repeat (first | exact HSub.refl _ | assumption | refine HSub.push ?_ _ | refine HSub.reserve ?_ _ | refine HSub.put ?_ (by omega) _)); done) | fail) only [↓wpPre, wpPost, wpPoly, Int.reduceToNat, Int.reducePow, Int.reduceMul, Int.reduceAdd, Int.reduceSub, Int.reduceNeg, Nat.reduceAdd, Nat.reduceMul, Nat.reducePow, Int.reduceLT, Int.reduceLE, Int.reduceEq, Nat.reduceEqDiff, q10]
          · rw [← hX.full (hDl.trans hn)]; simp -implicitDefEqProofs (disch := first | assumption | decide | omega | (simp -implicitDefEqProofs only [wpD1] <;> omega) | (refine not_in_one ?_; first | omega | (simp -implicitDefEqProofs only [wpD1] <;> omega) | fail) | (simp -implicitDefEqProofs only [wpD2] <;> assumption) | ((repeat (first | exact HSub.refl _ | assumption | refine HSub.push ?_ _ | refine HSub.reserve ?_ _ | refine HSub.put ?_ (by omega) _)); done) | fail) only [↓wpPre, wpPost, wpPoly, Int.reduceToNat, Int.reducePow, Int.reduceMul, Int.reduceAdd, Int.reduceSub, Int.reduceNeg, Nat.reduceAdd, Nat.reduceMul, Nat.reducePow, Int.reduceLT, Int.reduceLE, Int.reduceEq, Nat.reduceEqDiff, qo]
          · first | omega | (simp only [Heap.size_put]; omega)
        · have hk' : k < m := by omega
          have hek : k < E.length := by omega
          have hok : k < O.length := by omega
          have rEk := rE _ (getD_mem hek)
          have rOk := rO _ (getD_mem hok)
          have rq : 0 ≤ w ^ k % pP ∧ w ^ k % pP < 998244353 := ⟨Int.emod_nonneg _ (by decide), Int.emod_lt_of_pos _ (by decide)⟩
          have n1 : 0 ≤ O.getD k 0 * (w ^ k % pP) := Int.mul_nonneg rOk.1 rq.1
          have n2 : O.getD k 0 * (w ^ k % pP) ≤ 998244353 * 998244353 := Int.mul_le_mul (by omega) (by omega) (by omega) (by omega)
          have tn : ((k : Int) + ((2 * m : Nat) : Int) / 2).toNat = k + m := by omega
          simp -implicitDefEqProofs (disch := first | assumption | decide | omega | (simp -implicitDefEqProofs only [wpD1] <;> omega) | (refine not_in_one ?_; first | omega | (simp -implicitDefEqProofs only [wpD1] <;> omega) | fail) | (simp -implicitDefEqProofs only [wpD2] <;> assumption) | ((repeat (first | exact HSub.refl _ | assumption | refine HSub.push ?_ _ | refine HSub.reserve ?_ _ | refine HSub.put ?_ (by omega) _)); done) | fail) only [↓wpPre, wpPost, wpPoly, Int.reduceToNat, Int.reducePow, Int.reduceMul, Int.reduceAdd, Int.reduceSub, Int.reduceNeg, Nat.reduceAdd, Nat.reduceMul, Nat.reducePow, Int.reduceLT, Int.reduceLE, Int.reduceEq, Nat.reduceEqDiff, hl, rs, q11, q5, q8, q9, qA, qB, qo, q10, tn]
          refine .inl ⟨_, hX.step hk' (hlow hn hk').symm (hhigh k hn hk').symm, by omega, by rw [rb], hw1, hd, (((hsub.put (by omega) _).put (by omega) _).put (by omega) _).put (by omega) _, by omega, rfl, by simp⟩
    · rintro h' ⟨R, hl, hst, hpd, hsub, hd, q10, qo, hsz⟩
      refine ⟨R, hl, by rw [hst]; decide, ?_⟩
      rw [hpd]
      show blockO _ _ (.exit 0) _
      simp -implicitDefEqProofs (disch := first | assumption | decide | omega | (simp -implicitDefEqProofs only [wpD1] <;> omega) | (refine not_in_one ?_; first | omega | (simp -implicitDefEqProofs only [wpD1] <;> omega) | fail) | (simp -implicitDefEqProofs only [wpD2] <;> assumption) | ((repeat (first | exact HSub.refl _ | assumption | refine HSub.push ?_ _ | refine HSub.reserve ?_ _ | refine HSub.put ?_ (by omega) _)); done) | fail) only [↓wpPre, wpPost, wpPoly, Int.reduceToNat, Int.reducePow, Int.reduceMul, Int.reduceAdd, Int.reduceSub, Int.reduceNeg, Nat.reduceAdd, Nat.reduceMul, Nat.reducePow, Int.reduceLT, Int.reduceLE, Int.reduceEq, Nat.reduceEqDiff, hd, q10]
      refine ⟨(hsub.put (by omega) _).put (by omega) _, by omega, h3.size, by omega, by rw [hDl, hn], ?_⟩
      simp -implicitDefEqProofs (disch := first | assumption | decide | omega | (simp -implicitDefEqProofs only [wpD1] <;> omega) | (refine not_in_one ?_; first | omega | (simp -implicitDefEqProofs only [wpD1] <;> omega) | fail) | (simp -implicitDefEqProofs only [wpD2] <;> assumption) | ((repeat (first | exact HSub.refl _ | assumption | refine HSub.push ?_ _ | refine HSub.reserve ?_ _ | refine HSub.put ?_ (by omega) _)); done) | fail) only [↓wpPre, wpPost, wpPoly, Int.reduceToNat, Int.reducePow, Int.reduceMul, Int.reduceAdd, Int.reduceSub, Int.reduceNeg, Nat.reduceAdd, Nat.reduceMul, Nat.reducePow, Int.reduceLT, Int.reduceLE, Int.reduceEq, Nat.reduceEqDiff, qo]
end
end Go.Ae

/- Transforms of the program and of the reference are the same. -/
set_option linter.unusedSimpArgs false
set_option linter.unusedVariables false
namespace Go.Ae

theorem bits_and {a b : Int} (ha : 0 ≤ a ∧ a ≤ 9223372036854775807) (hb : 0 ≤ b ∧ b ≤ 9223372036854775807) : bitsA .and .i64 a b = ((a.toNat &&& b.toNat : Nat) : Int) := by
  obtain ⟨m, rfl⟩ := Int.eq_ofNat_of_zero_le ha.1
  obtain ⟨n, rfl⟩ := Int.eq_ofNat_of_zero_le hb.1
  have e : ∀ k : Nat, k ≤ 9223372036854775807 → (BitVec.ofInt 64 (k : Int)).toNat = k := by
    intro k hk
    rw [BitVec.toNat_ofInt]
    have : ((k : Int) % ((2 ^ 64 : Nat) : Int)).toNat = k := by
      rw [Int.emod_eq_of_lt (by omega) (by omega)]; simp
    exact this
  show IntKind.i64.wrap ((BitVec.ofInt 64 (m : Int) &&& BitVec.ofInt 64 (n : Int)).toNat : Int) = _
  rw [BitVec.toNat_and, e m (by omega), e n (by omega), Int.toNat_natCast, Int.toNat_natCast]
  have : m &&& n ≤ m := Nat.and_le_left
  exact w_i64 (by omega)

theorem isLen_pow {n : Nat} (h : isLen n = true) : ∃ k, k ≤ 15 ∧ n = 2 ^ k := by
  have hr := isLen_range h
  simp only [isLen, decide_eq_true_eq] at h
  obtain ⟨h1, h2, h3⟩ := h
  rw [bits_and (by omega) (by omega)] at h3
  have e : ((n : Int) - 1).toNat = n - 1 := by omega
  rw [e, Int.toNat_natCast] at h3
  obtain ⟨k, rfl⟩ := (Nat.and_sub_one_eq_zero_iff_isPowerOfTwo (n := n) (by omega)).1 (by exact_mod_cast h3)
  refine ⟨k, ?_, rfl⟩
  rcases Nat.lt_or_ge 15 k with hk | hk
  · have : 2 ^ 16 ≤ 2 ^ k := Nat.pow_le_pow_right (by decide) hk
    omega
  · exact hk

/-- Powers by squaring. -/
def pmod : Nat → Int → Nat → Int
  | 0, _, _ => 1
  | f + 1, a, n => if n = 0 then 1 else if n % 2 = 1 then a * pmod f (a * a % pP) (n / 2) % pP else pmod f (a * a % pP) (n / 2)
theorem pmod_eq : ∀ (f : Nat) (a : Int) (n : Nat), n < 2 ^ f → pmod f a n % pP = a ^ n % pP
  | 0, a, n, h => by
    have : n = 0 := by simpa using h
    subst this; rw [Int.pow_zero]; rfl
  | f + 1, a, n, h => by
    unfold pmod
    by_cases h0 : n = 0
    · rw [if_pos h0, h0, Int.pow_zero]
    · rw [if_neg h0]
      have ih := pmod_eq f (a * a % pP) (n / 2) (by rw [Nat.pow_succ] at h; omega)
      have hh := pow_half a n
      by_cases h1 : n % 2 = 1
      · rw [if_pos h1, Int.emod_emod, Int.mul_emod, ih, ← Int.mul_emod, Int.mul_comm]
        rw [h1, Int.pow_one] at hh; exact hh
      · rw [if_neg h1, ih]
        have h2 : n % 2 = 0 := by omega
        rw [h2, Int.pow_zero, Int.mul_one] at hh; exact hh
theorem three_half : (3 : Int) ^ 499122176 % pP = 998244352 := by
  rw [← pmod_eq 30 3 499122176 (by decide)]; decide +kernel

theorem root_ok {k : Nat} (hk : k ≤ 15) : RootOk k (rootI ((2 ^ k : Nat) : Int)) := by
  rintro j rfl
  unfold rootI powI
  rw [emod_pow, ← Int.pow_mul]
  have : (998244352 / ((2 ^ (j + 1) : Nat) : Int)).toNat * 2 ^ j = 499122176 := by
    have hj : j ≤ 14 := by omega
    rcases Nat.lt_or_ge j 8 with h | h <;> (
      match j, h, hj with
      | 0, _, _ | 1, _, _ | 2, _, _ | 3, _, _ | 4, _, _ | 5, _, _ | 6, _, _ | 7, _, _ | 8, _, _ | 9, _, _ | 10, _, _ | 11, _, _ | 12, _, _ | 13, _, _ | 14, _, _ => rfl)
  rw [this, three_half]

theorem neg_one_pow_odd : ∀ n : Nat, (-1 : Int) ^ (2 * n + 1) = -1
  | 0 => rfl
  | n + 1 => by rw [show 2 * (n + 1) + 1 = (2 * n + 1) + 2 by omega, Int.pow_add, neg_one_pow_odd n]; rfl
theorem RootOk.inv {k : Nat} {w : Int} (h : RootOk k w) : RootOk k (powI w 998244351) := by
  rintro j rfl
  have := h j rfl
  unfold powI
  rw [emod_pow, ← Int.pow_mul, Nat.mul_comm, Int.pow_mul]
  have hc : Cg (w ^ 2 ^ j) (-1) := by unfold Cg; rw [this]; decide
  have e : (998244351 : Int).toNat = 2 * 499122175 + 1 := by decide
  rw [e]
  have h2 := hc.pow (2 * 499122175 + 1)
  rw [neg_one_pow_odd] at h2
  unfold Cg at h2
  rw [h2]; decide

section
variable {C : Ctx}

theorem forward_spec (hC : Has C T27) {v : AV} {l : List Int} {h : Heap} (hl : RI h v l) (hlen : isLen l.length = true) (hr : ∀ x ∈ l, 0 ≤ x ∧ x < 998244353) :
    ACalls C 27 [v] h (fun r h' => Fresh h h' r (dft (rootI l.length) l)) := by
  have hlt := hl.lt
  have q := isLen_range hlen
  have q1 : 0 ≤ 998244352 / (l.length : Int) := Int.ediv_nonneg (by omega) (by omega)
  have q2 : 998244352 / (l.length : Int) ≤ 998244352 := Int.ediv_le_self _ (by omega)
  obtain ⟨k, hk, he⟩ := isLen_pow hlen
  have c0 := hl.cells
  (refine calls_intro (hC.body (by decide) tab27) (Nat.le_of_ble_eq_true rfl) ?_); (show wp C _ none B27.code _ _); (simp only [B27]); simp -implicitDefEqProofs (disch := first | assumption | decide | omega | (simp -implicitDefEqProofs only [wpD1] <;> omega) | (refine not_in_one ?_; first | omega | (simp -implicitDefEqProofs only [wpD1] <;> omega) | fail) | (simp -implicitDefEqProofs only [wpD2] <;> assumption) | ((repeat (first | exact HSub.refl _ | assumption | refine HSub.push ?_ _ | refine HSub.reserve ?_ _ | refine HSub.put ?_ (by omega) _)); done) | fail) only [↓wpPre, wpPost, wpPoly, Int.reduceToNat, Int.reducePow, Int.reduceMul, Int.reduceAdd, Int.reduceSub, Int.reduceNeg, Nat.reduceAdd, Nat.reduceMul, Nat.reducePow, Int.reduceLT, Int.reduceLE, Int.reduceEq, Nat.reduceEqDiff, hl.len]
  refine ACallsK.eq (power_spec (hC.sub (T' := T33) (by decide)) (by omega) (by omega)) ?_
  simp -implicitDefEqProofs (disch := first | assumption | decide | omega | (simp -implicitDefEqProofs only [wpD1] <;> omega) | (refine not_in_one ?_; first | omega | (simp -implicitDefEqProofs only [wpD1] <;> omega) | fail) | (simp -implicitDefEqProofs only [wpD2] <;> assumption) | ((repeat (first | exact HSub.refl _ | assumption | refine HSub.push ?_ _ | refine HSub.reserve ?_ _ | refine HSub.put ?_ (by omega) _)); done) | fail) only [↓wpPre, wpPost, wpPoly, Int.reduceToNat, Int.reducePow, Int.reduceMul, Int.reduceAdd, Int.reduceSub, Int.reduceNeg, Nat.reduceAdd, Nat.reduceMul, Nat.reducePow, Int.reduceLT, Int.reduceLE, Int.reduceEq, Nat.reduceEqDiff]
  refine ACallsK.of (transform_spec (hC.sub (T' := T49) (by decide)) k hl (VW.one (by omega)) he hr (by rw [he]; exact root_ok hk) (powI_range _ _) (by rw [Nat.one_mul, ← he]; omega)) ?_
  rintro r h' F
  simp -implicitDefEqProofs (disch := first | assumption | decide | omega | (simp -implicitDefEqProofs only [wpD1] <;> omega) | (refine not_in_one ?_; first | omega | (simp -implicitDefEqProofs only [wpD1] <;> omega) | fail) | (simp -implicitDefEqProofs only [wpD2] <;> assumption) | ((repeat (first | exact HSub.refl _ | assumption | refine HSub.push ?_ _ | refine HSub.reserve ?_ _ | refine HSub.put ?_ (by omega) _)); done) | fail) only [↓wpPre, wpPost, wpPoly, Int.reduceToNat, Int.reducePow, Int.reduceMul, Int.reduceAdd, Int.reduceSub, Int.reduceNeg, Nat.reduceAdd, Nat.reduceMul, Nat.reducePow, Int.reduceLT, Int.reduceLE, Int.reduceEq, Nat.reduceEqDiff]
  exact F

theorem back_spec (hC : Has C T30) {v : AV} {l : List Int} {h : Heap} (hl : RI h v l) (hlen : isLen l.length = true) (hr : ∀ x ∈ l, 0 ≤ x ∧ x < 998244353) :
    ACalls C 30 [v] h (fun r h' => Fresh h h' r (invI l)) := by
  have hlt := hl.lt
  have q := isLen_range hlen
  have q1 : 0 ≤ 998244352 / (l.length : Int) := Int.ediv_nonneg (by omega) (by omega)
  have q2 : 998244352 / (l.length : Int) ≤ 998244352 := Int.ediv_le_self _ (by omega)
  obtain ⟨k, hk, he⟩ := isLen_pow hlen
  have c0 := hl.cells
  (refine calls_intro (hC.body (by decide) tab30) (Nat.le_of_ble_eq_true rfl) ?_); (show wp C _ none B30.code _ _); (simp only [B30]); simp -implicitDefEqProofs (disch := first | assumption | decide | omega | (simp -implicitDefEqProofs only [wpD1] <;> omega) | (refine not_in_one ?_; first | omega | (simp -implicitDefEqProofs only [wpD1] <;> omega) | fail) | (simp -implicitDefEqProofs only [wpD2] <;> assumption) | ((repeat (first | exact HSub.refl _ | assumption | refine HSub.push ?_ _ | refine HSub.reserve ?_ _ | refine HSub.put ?_ (by omega) _)); done) | fail) only [↓wpPre, wpPost, wpPoly, Int.reduceToNat, Int.reducePow, Int.reduceMul, Int.reduceAdd, Int.reduceSub, Int.reduceNeg, Nat.reduceAdd, Nat.reduceMul, Nat.reducePow, Int.reduceLT, Int.reduceLE, Int.reduceEq, Nat.reduceEqDiff, hl.len]
  refine ACallsK.eq (power_spec (hC.sub (T' := T33) (by decide)) (by omega) (by omega)) ?_
  simp -implicitDefEqProofs (disch := first | assumption | decide | omega | (simp -implicitDefEqProofs only [wpD1] <;> omega) | (refine not_in_one ?_; first | omega | (simp -implicitDefEqProofs only [wpD1] <;> omega) | fail) | (simp -implicitDefEqProofs only [wpD2] <;> assumption) | ((repeat (first | exact HSub.refl _ | assumption | refine HSub.push ?_ _ | refine HSub.reserve ?_ _ | refine HSub.put ?_ (by omega) _)); done) | fail) only [↓wpPre, wpPost, wpPoly, Int.reduceToNat, Int.reducePow, Int.reduceMul, Int.reduceAdd, Int.reduceSub, Int.reduceNeg, Nat.reduceAdd, Nat.reduceMul, Nat.reducePow, Int.reduceLT, Int.reduceLE, Int.reduceEq, Nat.reduceEqDiff]
  refine ACallsK.eq (power_spec (hC.sub (T' := T33) (by decide)) (powI_range _ _) (by omega)) ?_
  simp -implicitDefEqProofs (disch := first | assumption | decide | omega | (simp -implicitDefEqProofs only [wpD1] <;> omega) | (refine not_in_one ?_; first | omega | (simp -implicitDefEqProofs only [wpD1] <;> omega) | fail) | (simp -implicitDefEqProofs only [wpD2] <;> assumption) | ((repeat (first | exact HSub.refl _ | assumption | refine HSub.push ?_ _ | refine HSub.reserve ?_ _ | refine HSub.put ?_ (by omega) _)); done) | fail) only [↓wpPre, wpPost, wpPoly, Int.reduceToNat, Int.reducePow, Int.reduceMul, Int.reduceAdd, Int.reduceSub, Int.reduceNeg, Nat.reduceAdd, Nat.reduceMul, Nat.reducePow, Int.reduceLT, Int.reduceLE, Int.reduceEq, Nat.reduceEqDiff]
  refine ACallsK.of (transform_spec (hC.sub (T' := T49) (by decide)) k hl (VW.one (by omega)) he hr (w := powI (rootI l.length) 998244351) (RootOk.inv (by rw [he]; exact root_ok hk)) (powI_range _ _) (by rw [Nat.one_mul, ← he]; omega)) ?_
  rintro r h1 F
  simp -implicitDefEqProofs (disch := first | assumption | decide | omega | (simp -implicitDefEqProofs only [wpD1] <;> omega) | (refine not_in_one ?_; first | omega | (simp -implicitDefEqProofs only [wpD1] <;> omega) | fail) | (simp -implicitDefEqProofs only [wpD2] <;> assumption) | ((repeat (first | exact HSub.refl _ | assumption | refine HSub.push ?_ _ | refine HSub.reserve ?_ _ | refine HSub.put ?_ (by omega) _)); done) | fail) only [↓wpPre, wpPost, wpPoly, Int.reduceToNat, Int.reducePow, Int.reduceMul, Int.reduceAdd, Int.reduceSub, Int.reduceNeg, Nat.reduceAdd, Nat.reduceMul, Nat.reducePow, Int.reduceLT, Int.reduceLE, Int.reduceEq, Nat.reduceEqDiff, hl.len]
  refine ACallsK.eq (power_spec (hC.sub (T' := T33) (by decide)) (by omega) (by omega)) ?_
  have hm := powI_range l.length 998244351
  have hdr := dft_range (w := powI (rootI l.length) 998244351) (l := l)
  have hdl := dft_length (powI (rootI l.length) 998244351) l
  generalize hm' : powI l.length 998244351 = m at hm
  generalize hd : dft (powI (rootI l.length) 998244351) l = d at hdr hdl F
  obtain ⟨hsub, hdlt, i0, hi0, rfl, hg⟩ := F
  have hi1 := Heap.lt_of_get hg
  simp -implicitDefEqProofs (disch := first | assumption | decide | omega | (simp -implicitDefEqProofs only [wpD1] <;> omega) | (refine not_in_one ?_; first | omega | (simp -implicitDefEqProofs only [wpD1] <;> omega) | fail) | (simp -implicitDefEqProofs only [wpD2] <;> assumption) | ((repeat (first | exact HSub.refl _ | assumption | refine HSub.push ?_ _ | refine HSub.reserve ?_ _ | refine HSub.put ?_ (by omega) _)); done) | fail) only [↓wpPre, wpPost, wpPoly, Int.reduceToNat, Int.reducePow, Int.reduceMul, Int.reduceAdd, Int.reduceSub, Int.reduceNeg, Nat.reduceAdd, Nat.reduceMul, Nat.reducePow, Int.reduceLT, Int.reduceLE, Int.reduceEq, Nat.reduceEqDiff]
  refine wp_loopI (fun j t h' => ∃ i : Nat, HSub h h' ∧ i0 < h'.size ∧ h'.get i0 = some (.cells (ints (mapPre (fun x => x * m % pP) d i)) true 0) ∧ t 4 = .slice i0 0 d.length (.known d.length) ∧ t 5 = .int .i64 m ∧ t 20 = .int .i64 d.length ∧ t 21 = .int .i64 (i : Nat) ∧ i ≤ d.length ∧ j = d.length - i)
    ⟨0, hsub, hi1, by rw [mapPre_zero, hg], rfl, rfl, rfl, rfl, by omega, rfl⟩ ?_
  rintro j t h' ⟨i, hs', hi0', hg', e4, e5, e20, e21, hi, hj⟩
  have hml := mapPre_length (fun x => x * m % pP) d i
  simp -implicitDefEqProofs (disch := first | assumption | decide | omega | (simp -implicitDefEqProofs only [wpD1] <;> omega) | (refine not_in_one ?_; first | omega | (simp -implicitDefEqProofs only [wpD1] <;> omega) | fail) | (simp -implicitDefEqProofs only [wpD2] <;> assumption) | ((repeat (first | exact HSub.refl _ | assumption | refine HSub.push ?_ _ | refine HSub.reserve ?_ _ | refine HSub.put ?_ (by omega) _)); done) | fail) only [↓wpPre, wpPost, wpPoly, Int.reduceToNat, Int.reducePow, Int.reduceMul, Int.reduceAdd, Int.reduceSub, Int.reduceNeg, Nat.reduceAdd, Nat.reduceMul, Nat.reducePow, Int.reduceLT, Int.reduceLE, Int.reduceEq, Nat.reduceEqDiff, e4, e20, e21]
  refine Br.by (fun c2 => ?_) (fun c2 => ?_)
  · have hi' : i < d.length := by omega
    have hg2 := mapPre_get (fun x => x * m % pP) hi'
    have g1 := hdr _ (getD_mem hi')
    have m1 : 0 ≤ d.getD i 0 * m := Int.mul_nonneg g1.1 hm.1
    have m2 : d.getD i 0 * m ≤ 998244353 * 998244353 := Int.mul_le_mul (by omega) (by omega) (by omega) (by omega)
    simp -implicitDefEqProofs (disch := first | assumption | decide | omega | (simp -implicitDefEqProofs only [wpD1] <;> omega) | (refine not_in_one ?_; first | omega | (simp -implicitDefEqProofs only [wpD1] <;> omega) | fail) | (simp -implicitDefEqProofs only [wpD2] <;> assumption) | ((repeat (first | exact HSub.refl _ | assumption | refine HSub.push ?_ _ | refine HSub.reserve ?_ _ | refine HSub.put ?_ (by omega) _)); done) | fail) only [↓wpPre, wpPost, wpPoly, Int.reduceToNat, Int.reducePow, Int.reduceMul, Int.reduceAdd, Int.reduceSub, Int.reduceNeg, Nat.reduceAdd, Nat.reduceMul, Nat.reducePow, Int.reduceLT, Int.reduceLE, Int.reduceEq, Nat.reduceEqDiff, e4, e5, e20, e21, hg', hg2]
    exact ⟨_, ⟨i + 1, hs'.put (by omega) _, hi0', by rw [← mapPre_set _ hi'], by simp, by omega, rfl⟩, by omega⟩
  · have : i = d.length := by omega
    subst this
    simp -implicitDefEqProofs (disch := first | assumption | decide | omega | (simp -implicitDefEqProofs only [wpD1] <;> omega) | (refine not_in_one ?_; first | omega | (simp -implicitDefEqProofs only [wpD1] <;> omega) | fail) | (simp -implicitDefEqProofs only [wpD2] <;> assumption) | ((repeat (first | exact HSub.refl _ | assumption | refine HSub.push ?_ _ | refine HSub.reserve ?_ _ | refine HSub.put ?_ (by omega) _)); done) | fail) only [↓wpPre, wpPost, wpPoly, Int.reduceToNat, Int.reducePow, Int.reduceMul, Int.reduceAdd, Int.reduceSub, Int.reduceNeg, Nat.reduceAdd, Nat.reduceMul, Nat.reducePow, Int.reduceLT, Int.reduceLE, Int.reduceEq, Nat.reduceEqDiff, e4]
    have e : mapPre (fun x => x * m % pP) d d.length = invI l := by rw [mapPre_full, invI, hd, hm']
    have e2 := invI_length l
    exact ⟨hs', by omega, i0, hi0, by rw [e2, hdl], by rw [← e]; exact hg'⟩

theorem Transform_spec (hC : Has C T8) {v : AV} {l : List Int} {h : Heap} (hl : RI h v l) :
    ACalls C 8 [v] h (fun r h' => if chkI l = 0 then (∃ v', r = lstErr v' 0 ∧ Fresh h h' v' (dft (rootI l.length) l)) else (r = lstErr .nilslice (chkI l) ∧ h' = h)) := by
  (refine calls_intro (hC.body (by decide) tab8) (Nat.le_of_ble_eq_true rfl) ?_); (show wp C _ none B8.code _ _); (simp only [B8]); simp -implicitDefEqProofs (disch := first | assumption | decide | omega | (simp -implicitDefEqProofs only [wpD1] <;> omega) | (refine not_in_one ?_; first | omega | (simp -implicitDefEqProofs only [wpD1] <;> omega) | fail) | (simp -implicitDefEqProofs only [wpD2] <;> assumption) | ((repeat (first | exact HSub.refl _ | assumption | refine HSub.push ?_ _ | refine HSub.reserve ?_ _ | refine HSub.put ?_ (by omega) _)); done) | fail) only [↓wpPre, wpPost, wpPoly, Int.reduceToNat, Int.reducePow, Int.reduceMul, Int.reduceAdd, Int.reduceSub, Int.reduceNeg, Nat.reduceAdd, Nat.reduceMul, Nat.reducePow, Int.reduceLT, Int.reduceLE, Int.reduceEq, Nat.reduceEqDiff]
  refine ACallsK.eq (check_spec (hC.sub (T' := T26) (by decide)) hl) ?_
  simp -implicitDefEqProofs (disch := first | assumption | decide | omega | (simp -implicitDefEqProofs only [wpD1] <;> omega) | (refine not_in_one ?_; first | omega | (simp -implicitDefEqProofs only [wpD1] <;> omega) | fail) | (simp -implicitDefEqProofs only [wpD2] <;> assumption) | ((repeat (first | exact HSub.refl _ | assumption | refine HSub.push ?_ _ | refine HSub.reserve ?_ _ | refine HSub.put ?_ (by omega) _)); done) | fail) only [↓wpPre, wpPost, wpPoly, Int.reduceToNat, Int.reducePow, Int.reduceMul, Int.reduceAdd, Int.reduceSub, Int.reduceNeg, Nat.reduceAdd, Nat.reduceMul, Nat.reducePow, Int.reduceLT, Int.reduceLE, Int.reduceEq, Nat.reduceEqDiff]
  refine Br.by (fun c => ?_) (fun c => ?_)
  · simp -implicitDefEqProofs (disch := first | assumption | decide | omega | (simp -implicitDefEqProofs only [wpD1] <;> omega) | (refine not_in_one ?_; first | omega | (simp -implicitDefEqProofs only [wpD1] <;> omega) | fail) | (simp -implicitDefEqProofs only [wpD2] <;> assumption) | ((repeat (first | exact HSub.refl _ | assumption | refine HSub.push ?_ _ | refine HSub.reserve ?_ _ | refine HSub.put ?_ (by omega) _)); done) | fail) only [↓wpPre, wpPost, wpPoly, Int.reduceToNat, Int.reducePow, Int.reduceMul, Int.reduceAdd, Int.reduceSub, Int.reduceNeg, Nat.reduceAdd, Nat.reduceMul, Nat.reducePow, Int.reduceLT, Int.reduceLE, Int.reduceEq, Nat.reduceEqDiff]
    rw [if_neg c]; rfl
  · have c' : chkI l = 0 := by omega
    obtain ⟨q1, q2⟩ := chkI_ok c'
    simp -implicitDefEqProofs (disch := first | assumption | decide | omega | (simp -implicitDefEqProofs only [wpD1] <;> omega) | (refine not_in_one ?_; first | omega | (simp -implicitDefEqProofs only [wpD1] <;> omega) | fail) | (simp -implicitDefEqProofs only [wpD2] <;> assumption) | ((repeat (first | exact HSub.refl _ | assumption | refine HSub.push ?_ _ | refine HSub.reserve ?_ _ | refine HSub.put ?_ (by omega) _)); done) | fail) only [↓wpPre, wpPost, wpPoly, Int.reduceToNat, Int.reducePow, Int.reduceMul, Int.reduceAdd, Int.reduceSub, Int.reduceNeg, Nat.reduceAdd, Nat.reduceMul, Nat.reducePow, Int.reduceLT, Int.reduceLE, Int.reduceEq, Nat.reduceEqDiff]
    refine ACallsK.of (forward_spec (hC.sub (T' := T27) (by decide)) hl q1 q2) ?_
    rintro r h' F
    simp -implicitDefEqProofs (disch := first | assumption | decide | omega | (simp -implicitDefEqProofs only [wpD1] <;> omega) | (refine not_in_one ?_; first | omega | (simp -implicitDefEqProofs only [wpD1] <;> omega) | fail) | (simp -implicitDefEqProofs only [wpD2] <;> assumption) | ((repeat (first | exact HSub.refl _ | assumption | refine HSub.push ?_ _ | refine HSub.reserve ?_ _ | refine HSub.put ?_ (by omega) _)); done) | fail) only [↓wpPre, wpPost, wpPoly, Int.reduceToNat, Int.reducePow, Int.reduceMul, Int.reduceAdd, Int.reduceSub, Int.reduceNeg, Nat.reduceAdd, Nat.reduceMul, Nat.reducePow, Int.reduceLT, Int.reduceLE, Int.reduceEq, Nat.reduceEqDiff]
    rw [if_pos c']
    exact ⟨_, rfl, F⟩

theorem Inverse_spec (hC : Has C T10) {v : AV} {l : List Int} {h : Heap} (hl : RI h v l) :
    ACalls C 10 [v] h (fun r h' => if chkI l = 0 then (∃ v', r = lstErr v' 0 ∧ Fresh h h' v' (invI l)) else (r = lstErr .nilslice (chkI l) ∧ h' = h)) := by
  (refine calls_intro (hC.body (by decide) tab10) (Nat.le_of_ble_eq_true rfl) ?_); (show wp C _ none B10.code _ _); (simp only [B10]); simp -implicitDefEqProofs (disch := first | assumption | decide | omega | (simp -implicitDefEqProofs only [wpD1] <;> omega) | (refine not_in_one ?_; first | omega | (simp -implicitDefEqProofs only [wpD1] <;> omega) | fail) | (simp -implicitDefEqProofs only [wpD2] <;> assumption) | ((repeat (first | exact HSub.refl _ | assumption | refine HSub.push ?_ _ | refine HSub.reserve ?_ _ | refine HSub.put ?_ (by omega) _)); done) | fail) only [↓wpPre, wpPost, wpPoly, Int.reduceToNat, Int.reducePow, Int.reduceMul, Int.reduceAdd, Int.reduceSub, Int.reduceNeg, Nat.reduceAdd, Nat.reduceMul, Nat.reducePow, Int.reduceLT, Int.reduceLE, Int.reduceEq, Nat.reduceEqDiff]
  refine ACallsK.eq (check_spec (hC.sub (T' := T26) (by decide)) hl) ?_
  simp -implicitDefEqProofs (disch := first | assumption | decide | omega | (simp -implicitDefEqProofs only [wpD1] <;> omega) | (refine not_in_one ?_; first | omega | (simp -implicitDefEqProofs only [wpD1] <;> omega) | fail) | (simp -implicitDefEqProofs only [wpD2] <;> assumption) | ((repeat (first | exact HSub.refl _ | assumption | refine HSub.push ?_ _ | refine HSub.reserve ?_ _ | refine HSub.put ?_ (by omega) _)); done) | fail) only [↓wpPre, wpPost, wpPoly, Int.reduceToNat, Int.reducePow, Int.reduceMul, Int.reduceAdd, Int.reduceSub, Int.reduceNeg, Nat.reduceAdd, Nat.reduceMul, Nat.reducePow, Int.reduceLT, Int.reduceLE, Int.reduceEq, Nat.reduceEqDiff]
  refine Br.by (fun c => ?_) (fun c => ?_)
  · simp -implicitDefEqProofs (disch := first | assumption | decide | omega | (simp -implicitDefEqProofs only [wpD1] <;> omega) | (refine not_in_one ?_; first | omega | (simp -implicitDefEqProofs only [wpD1] <;> omega) | fail) | (simp -implicitDefEqProofs only [wpD2] <;> assumption) | ((repeat (first | exact HSub.refl _ | assumption | refine HSub.push ?_ _ | refine HSub.reserve ?_ _ | refine HSub.put ?_ (by omega) _)); done) | fail) only [↓wpPre, wpPost, wpPoly, Int.reduceToNat, Int.reducePow, Int.reduceMul, Int.reduceAdd, Int.reduceSub, Int.reduceNeg, Nat.reduceAdd, Nat.reduceMul, Nat.reducePow, Int.reduceLT, Int.reduceLE, Int.reduceEq, Nat.reduceEqDiff]
    rw [if_neg c]; rfl
  · have c' : chkI l = 0 := by omega
    obtain ⟨q1, q2⟩ := chkI_ok c'
    simp -implicitDefEqProofs (disch := first | assumption | decide | omega | (simp -implicitDefEqProofs only [wpD1] <;> omega) | (refine not_in_one ?_; first | omega | (simp -implicitDefEqProofs only [wpD1] <;> omega) | fail) | (simp -implicitDefEqProofs only [wpD2] <;> assumption) | ((repeat (first | exact HSub.refl _ | assumption | refine HSub.push ?_ _ | refine HSub.reserve ?_ _ | refine HSub.put ?_ (by omega) _)); done) | fail) only [↓wpPre, wpPost, wpPoly, Int.reduceToNat, Int.reducePow, Int.reduceMul, Int.reduceAdd, Int.reduceSub, Int.reduceNeg, Nat.reduceAdd, Nat.reduceMul, Nat.reducePow, Int.reduceLT, Int.reduceLE, Int.reduceEq, Nat.reduceEqDiff]
    refine ACallsK.of (back_spec (hC.sub (T' := T30) (by decide)) hl q1 q2) ?_
    rintro r h' F
    simp -implicitDefEqProofs (disch := first | assumption | decide | omega | (simp -implicitDefEqProofs only [wpD1] <;> omega) | (refine not_in_one ?_; first | omega | (simp -implicitDefEqProofs only [wpD1] <;> omega) | fail) | (simp -implicitDefEqProofs only [wpD2] <;> assumption) | ((repeat (first | exact HSub.refl _ | assumption | refine HSub.push ?_ _ | refine HSub.reserve ?_ _ | refine HSub.put ?_ (by omega) _)); done) | fail) only [↓wpPre, wpPost, wpPoly, Int.reduceToNat, Int.reducePow, Int.reduceMul, Int.reduceAdd, Int.reduceSub, Int.reduceNeg, Nat.reduceAdd, Nat.reduceMul, Nat.reducePow, Int.reduceLT, Int.reduceLE, Int.reduceEq, Nat.reduceEqDiff]
    rw [if_pos c']
    exact ⟨_, rfl, F⟩
end
end Go.Ae

/- A transform undone; products by transforms: the plain facts. -/
set_option linter.unusedSimpArgs false
set_option linter.unusedVariables false
namespace Go.Ae

/-- The product of 1 + z^(2^t). -/
def gs (z : Int) : Nat → Int
  | 0 => 1
  | m + 1 => gs z m * (1 + z ^ 2 ^ m)

def ones (n : Nat) : List Int := List.replicate n 1
theorem pe_ones (z : Int) : ∀ m, pe (ones (2 ^ m)) z = gs z m
  | 0 => by simp [ones, pe, gs]
  | m + 1 => by
    have ih := pe_ones z m
    have e : ones (2 ^ (m + 1)) = ones (2 ^ m) ++ ones (2 ^ m) := by
      rw [Nat.pow_succ, Nat.mul_two]; exact List.replicate_append_replicate.symm
    rw [e, pe_append, ih]
    simp only [ones, List.length_replicate, gs]
    rw [Int.mul_add, Int.mul_one, Int.mul_comm (gs z m)]

theorem Cg.zero_mul {a : Int} (h : Cg a 0) (b : Int) : Cg (a * b) 0 := by
  have := h.mul (Cg.refl b); rwa [Int.zero_mul] at this
theorem Cg.mul_zero {a : Int} (h : Cg a 0) (b : Int) : Cg (b * a) 0 := by
  rw [Int.mul_comm]; exact h.zero_mul b

theorem gs_zero {z : Int} {t : Nat} (ht : Cg (z ^ 2 ^ t) (-1)) : ∀ m, t < m → Cg (gs z m) 0
  | 0, h => by omega
  | m + 1, h => by
    by_cases e : t = m
    · subst e
      refine Cg.mul_zero ?_ _
      exact (Cg.refl 1).add ht
    · exact Cg.zero_mul (gs_zero ht m (by omega)) _

theorem two_odd : ∀ (d : Nat), 0 < d → ∃ s o, d = 2 ^ s * (2 * o + 1) := by
  intro d
  induction d using Nat.strongRecOn with
  | _ d ih =>
    intro hd
    by_cases h : d % 2 = 1
    · exact ⟨0, d / 2, by rw [Nat.pow_zero]; omega⟩
    · obtain ⟨s, o, e⟩ := ih (d / 2) (by omega) (by omega)
      refine ⟨s + 1, o, ?_⟩
      rw [Nat.pow_succ, Nat.mul_right_comm, ← e]; omega

theorem RootOk.sum_zero {m : Nat} {w : Int} (h : RootOk m w) {d : Nat} (hd : 0 < d ∧ d < 2 ^ m) : Cg (pe (ones (2 ^ m)) (w ^ d)) 0 := by
  rw [pe_ones]
  obtain ⟨s, o, e⟩ := two_odd d hd.1
  have hs : s < m := by
    rcases Nat.lt_or_ge s m with x | x
    · exact x
    · have : 2 ^ m ≤ 2 ^ s := Nat.pow_le_pow_right (by decide) x
      have : 2 ^ s * 1 ≤ 2 ^ s * (2 * o + 1) := Nat.mul_le_mul_left _ (by omega)
      omega
  refine gs_zero (t := m - 1 - s) ?_ m (by omega)
  rw [← Int.pow_mul, e, Nat.mul_right_comm, ← Nat.pow_add, show s + (m - 1 - s) = m - 1 by omega, Int.pow_mul]
  have hr : Cg (w ^ 2 ^ (m - 1)) (-1) := by
    have := h (m - 1) (by omega)
    unfold Cg; rw [this]; decide
  have := hr.pow (2 * o + 1)
  rwa [neg_one_pow_odd] at this

theorem pe_ones_one (n : Nat) : pe (ones n) 1 = n := by
  induction n with
  | zero => rfl
  | succ n ih =>
    have : ones (n + 1) = 1 :: ones n := rfl
    rw [this, pe, ih]; omega

/-- The sum over k of l's value at w^k, times y^k. -/
def dsum (w : Int) (n : Nat) (l : List Int) (y : Int) : Int := pe ((List.range n).map fun k => pe l (w ^ k)) y

theorem pe_map_add (f g : Nat → Int) (y : Int) : ∀ ks : List Nat, pe (ks.map fun k => f k + g k) y = pe (ks.map f) y + pe (ks.map g) y
  | [] => rfl
  | k :: ks => by simp only [List.map_cons, pe, pe_map_add f g y ks, Int.mul_add]; omega
theorem pe_scale (c y : Int) : ∀ l : List Int, pe (l.map fun x => c * x) y = c * pe l y
  | [] => by simp [pe]
  | x :: l => by simp only [List.map_cons, pe, pe_scale c y l, Int.mul_add]; rw [Int.mul_left_comm]
theorem pe_twist (f : Nat → Int) (w y : Int) : ∀ (n s : Nat), pe ((List.range' s n).map fun k => w ^ k * f k) y = w ^ s * pe ((List.range' s n).map f) (w * y)
  | 0, s => by simp [pe]
  | n + 1, s => by
    rw [List.range'_succ]
    simp only [List.map_cons, pe, pe_twist f w y n (s + 1), Int.pow_succ, Int.mul_add]
    congr 1
    simp only [Int.mul_assoc, Int.mul_left_comm, Int.mul_comm]

theorem dsum_cons (w : Int) (n : Nat) (x : Int) (l : List Int) (y : Int) : dsum w n (x :: l) y = x * pe (ones n) y + dsum w n l (w * y) := by
  unfold dsum
  simp only [pe]
  rw [pe_map_add]
  have e1 : (List.range n).map (fun _ => x) = (ones n).map fun o => x * o := by
    simp [ones, List.map_const']
  rw [e1, pe_scale]
  congr 1
  have := pe_twist (fun k => pe l (w ^ k)) w y n 0
  rw [← List.range_eq_range'] at this
  rw [this, Int.pow_zero, Int.one_mul]

theorem dsum_spec {m : Nat} {w v : Int} (hw : RootOk m w) (hv : RootOk m v) (hwv : 1 ≤ m → Cg (w * v) 1) {i : Nat} (hi : i < 2 ^ m) : ∀ (l : List Int) (j : Nat), j + l.length ≤ 2 ^ m →
    Cg (dsum w (2 ^ m) l (w ^ j * v ^ i)) (((2 ^ m : Nat) : Int) * (if j ≤ i then l.getD (i - j) 0 else 0))
  | [], j, _ => by
    unfold dsum
    have e : (List.range (2 ^ m)).map (fun k => pe [] (w ^ k)) = (ones (2 ^ m)).map fun o => 0 * o := by simp [ones, pe, List.map_const']
    rw [e, pe_scale]
    simp; exact Cg.refl _
  | x :: l, j, hj => by
    have ih := dsum_spec hw hv hwv hi l (j + 1) (by simp only [List.length_cons] at hj; omega)
    simp only [List.length_cons] at hj
    have hpow : ∀ c, 1 ≤ m → Cg (w ^ c * v ^ c) 1 := fun c hm => by
      rw [← Int.mul_pow]
      have := (hwv hm).pow c
      rwa [Int.one_pow] at this
    have hm : i ≠ j → 1 ≤ m := by
      intro h
      rcases Nat.eq_zero_or_pos m with e | e
      · subst e; simp at hi hj; omega
      · exact e
    rw [dsum_cons, show w * (w ^ j * v ^ i) = w ^ (j + 1) * v ^ i by rw [Int.pow_succ, ← Int.mul_assoc, Int.mul_comm w]]
    by_cases e : j = i
    · subst e
      have h1 : Cg (pe (ones (2 ^ m)) (w ^ j * v ^ j)) ((2 ^ m : Nat) : Int) := by
        rw [← pe_ones_one]
        rcases Nat.eq_zero_or_pos m with e0 | e0
        · subst e0
          have : j = 0 := by simpa using hi
          subst this; simp; exact Cg.refl _
        · exact (hpow j e0).pe _
      rw [if_neg (by omega), Int.mul_zero] at ih
      rw [if_pos (by omega), Nat.sub_self, List.getD_cons_zero]
      refine ((Cg.refl x).mul h1 |>.add ih).trans (Cg.of_eq ?_)
      rw [Int.add_zero, Int.mul_comm]
    · have h0 : Cg (pe (ones (2 ^ m)) (w ^ j * v ^ i)) 0 := by
        rcases Nat.lt_or_ge j i with hlt | hge
        · have : Cg (w ^ j * v ^ i) (v ^ (i - j)) := by
            rw [show v ^ i = v ^ j * v ^ (i - j) by rw [← Int.pow_add]; congr 1; omega, ← Int.mul_assoc]
            have := (hpow j (hm (Ne.symm e))).mul (Cg.refl (v ^ (i - j)))
            rwa [Int.one_mul] at this
          exact (this.pe _).trans (hv.sum_zero (by omega))
        · have : Cg (w ^ j * v ^ i) (w ^ (j - i)) := by
            rw [show w ^ j = w ^ (j - i) * w ^ i by rw [← Int.pow_add]; congr 1; omega, Int.mul_assoc]
            have := (Cg.refl (w ^ (j - i))).mul (hpow i (hm (Ne.symm e)))
            rwa [Int.mul_one] at this
          exact (this.pe _).trans (hw.sum_zero (by omega))
      refine ((h0.mul_zero x).add ih).trans (Cg.of_eq ?_)
      rw [Int.zero_add]
      congr 1
      by_cases hji : j + 1 ≤ i
      · rw [if_pos hji, if_pos (by omega), show i - j = i - (j + 1) + 1 by omega, List.getD_cons_succ]
      · rw [if_neg hji, if_neg (by omega)]

theorem Cg.pe_map {f g : Nat → Int} (h : ∀ k, Cg (f k) (g k)) (y : Int) : ∀ ks : List Nat, Cg (Ae.pe (ks.map f) y) (Ae.pe (ks.map g) y)
  | [] => Cg.refl _
  | k :: ks => (h k).add ((Cg.refl y).mul (Cg.pe_map h y ks))

/-- A transform of a transform by the inverse root. -/
theorem dft_dft {m : Nat} {w v : Int} (hw : RootOk m w) (hv : RootOk m v) (hwv : 1 ≤ m → Cg (w * v) 1) {l : List Int} (hl : l.length = 2 ^ m) {i : Nat} (hi : i < 2 ^ m) :
    Cg (pe (dft w l) (v ^ i)) (((2 ^ m : Nat) : Int) * l.getD i 0) := by
  have h1 : Cg (pe (dft w l) (v ^ i)) (dsum w (2 ^ m) l (v ^ i)) := by
    unfold dft dsum
    rw [hl]
    exact Cg.pe_map (fun k => (Cg.refl _).emod) _ _
  have h2 := dsum_spec hw hv hwv hi l 0 (by omega)
  rw [Int.pow_zero, Int.one_mul, if_pos (by omega), Nat.sub_zero] at h2
  exact h1.trans h2

theorem pow_inv : ∀ m : Nat, m ≤ 15 → Cg (((2 ^ m : Nat) : Int) * powI ((2 ^ m : Nat) : Int) 998244351) 1 := by
  intro m hm
  have h : ∀ m : Fin 16, pmod 30 ((2 ^ m.val : Nat) : Int) 998244352 % pP = 1 := by decide +kernel
  have h1 := h ⟨m, by omega⟩
  rw [pmod_eq 30 _ 998244352 (by decide)] at h1
  have e : (998244351 : Int).toNat = 998244351 := rfl
  unfold powI Cg
  rw [emod_mul_r, e, Int.mul_comm, ← Int.pow_succ, h1]; rfl

theorem root_inv {m : Nat} (hm : m ≤ 15) : 1 ≤ m → Cg (rootI ((2 ^ m : Nat) : Int) * powI (rootI ((2 ^ m : Nat) : Int)) 998244351) 1 := by
  intro h1
  have e : (998244351 : Int).toNat = 998244351 := rfl
  unfold powI Cg
  rw [emod_mul_r, e, Int.mul_comm, ← Int.pow_succ]
  have hr := root_ok hm (m - 1) (by omega)
  have hc : Cg (rootI ((2 ^ m : Nat) : Int) ^ 2 ^ (m - 1)) (-1) := by unfold Cg; rw [hr]; decide
  have hd : ∃ q, 998244352 = 2 ^ (m - 1) * (2 * q) := by
    refine ⟨998244352 / 2 ^ m, ?_⟩
    have : ∀ m : Fin 16, 1 ≤ m.val → 998244352 = 2 ^ (m.val - 1) * (2 * (998244352 / 2 ^ m.val)) := by decide +kernel
    exact this ⟨m, by omega⟩ h1
  obtain ⟨q, hq⟩ := hd
  have e2 : Nat.succ 998244351 = 2 ^ (m - 1) * (2 * q) := hq
  rw [e2, Int.pow_mul]
  have h2 := hc.pow (2 * q)
  have e3 : (-1 : Int) ^ (2 * q) = 1 := by rw [Int.pow_mul, show (-1 : Int) ^ 2 = 1 from rfl, Int.one_pow]
  rw [e3] at h2
  exact h2

theorem list_ext {l m : List Int} (hl : l.length = m.length) (h : ∀ i, i < l.length → l.getD i 0 = m.getD i 0) : l = m := by
  refine List.ext_getElem hl fun i h1 h2 => ?_
  have := h i h1
  simpa [h1, h2] using this

/-- **Inverse undoes Transform.** -/
theorem inv_dft {l : List Int} (hl : isLen l.length = true) (hr : ∀ x ∈ l, 0 ≤ x ∧ x < 998244353) : invI (dft (rootI l.length) l) = l := by
  obtain ⟨m, hm, he⟩ := isLen_pow hl
  refine list_ext (by rw [invI_length, dft_length]) fun i hi => ?_
  rw [invI_length, dft_length] at hi
  have hb := hr _ (getD_mem hi)
  have key := dft_dft (root_ok hm) (root_ok hm).inv (root_inv hm) he (i := i) (by omega)
  have e : (invI (dft (rootI l.length) l)).getD i 0 = pe (dft (rootI l.length) l) (powI (rootI l.length) 998244351 ^ i) % pP * powI l.length 998244351 % pP := by
    unfold invI
    rw [dft_length]
    have h2 : i < (dft (powI (rootI l.length) 998244351) (dft (rootI l.length) l)).length := by rw [dft_length, dft_length]; exact hi
    rw [List.getD_eq_getElem?_getD, List.getElem?_map, List.getElem?_eq_getElem h2]
    have h3 := dft_get (w := powI (rootI l.length) 998244351) (l := dft (rootI l.length) l) (k := i) (by rw [dft_length]; exact hi)
    rw [List.getD_eq_getElem?_getD, List.getElem?_eq_getElem h2] at h3
    simp only [Option.getD_some] at h3
    simp [h3]
  rw [e, he]
  have h4 := key.emod.mul (Cg.refl (powI ((2 ^ m : Nat) : Int) 998244351))
  have h5 : Cg (((2 ^ m : Nat) : Int) * l.getD i 0 * powI ((2 ^ m : Nat) : Int) 998244351) (l.getD i 0) := by
    rw [Int.mul_right_comm]
    have := (pow_inv m hm).mul (Cg.refl (l.getD i 0))
    rwa [Int.one_mul] at this
  have h6 := h4.trans h5
  unfold Cg at h6
  rw [h6]; exact Int.emod_eq_of_lt hb.1 hb.2
end Go.Ae

/- Products of lists, as polynomials. -/
set_option linter.unusedSimpArgs false
set_option linter.unusedVariables false
namespace Go.Ae

/-- What an element at place i adds to the product's element k. -/
def row (c : Int) (b : List Int) (i k : Nat) : Int := if i ≤ k ∧ k - i < b.length then c * b.getD (k - i) 0 else 0
/-- The product's element k by the first i elements of a. -/
def cfs (a b : List Int) : Nat → Nat → Int
  | 0, _ => 0
  | i + 1, k => cfs a b i k + row (a.getD i 0) b i k
def convL (a b : List Int) : List Int := (List.range (a.length + b.length - 1)).map (cfs a b a.length)
theorem convL_length (a b : List Int) : (convL a b).length = a.length + b.length - 1 := by simp [convL]

theorem pe_zeros (n : Nat) (z : Int) : pe (List.replicate n 0) z = 0 := by
  induction n with
  | zero => rfl
  | succ n ih => rw [List.replicate_succ, pe, ih, Int.mul_zero, Int.add_zero]

theorem row_list (c : Int) (b : List Int) (i N : Nat) (h : i + b.length ≤ N) : (List.range N).map (row c b i) = List.replicate i 0 ++ b.map (fun x => c * x) ++ List.replicate (N - i - b.length) 0 := by
  refine List.ext_getElem (by simp; omega) fun k h1 h2 => ?_
  simp only [List.length_map, List.length_range] at h1
  simp only [List.getElem_map, List.getElem_range, row, List.getElem_append, List.length_append, List.length_replicate, List.length_map, List.getElem_replicate]
  by_cases h3 : k < i
  · rw [if_neg (by omega), dif_pos (by omega), dif_pos h3]
  · by_cases h4 : k < i + b.length
    · rw [if_pos (by omega), dif_pos h4, dif_neg h3]
      have h5 : k - i < b.length := by omega
      simp [h5]
    · rw [if_neg (by omega), dif_neg h4]

theorem pe_row (c : Int) (b : List Int) (i N : Nat) (h : i + b.length ≤ N) (z : Int) : pe ((List.range N).map (row c b i)) z = c * z ^ i * pe b z := by
  rw [row_list c b i N h, pe_append, pe_append, pe_zeros, pe_zeros, pe_scale]
  simp only [List.length_replicate, Int.mul_zero, Int.add_zero, Int.zero_add]
  rw [← Int.mul_assoc, Int.mul_comm c]

theorem pe_cfs (a b : List Int) (z : Int) (N : Nat) (hN : a.length + b.length ≤ N + 1) (hb : 1 ≤ b.length) : ∀ i, i ≤ a.length → pe ((List.range N).map (cfs a b i)) z = pe (a.take i) z * pe b z
  | 0, _ => by
    have : (List.range N).map (cfs a b 0) = List.replicate N 0 := by
      have : cfs a b 0 = fun _ => 0 := rfl
      rw [this, List.map_const', List.length_range]
    rw [this, pe_zeros, List.take_zero, pe, Int.zero_mul]
  | i + 1, hi => by
    have ih := pe_cfs a b z N hN hb i (by omega)
    have e : cfs a b (i + 1) = fun k => cfs a b i k + row (a.getD i 0) b i k := rfl
    rw [e, pe_map_add, ih, pe_row _ _ _ _ (by omega), pe_take_succ (by omega), Int.add_mul]
theorem pe_conv (a b : List Int) (hb : 1 ≤ b.length) (z : Int) : pe (convL a b) z = pe a z * pe b z := by
  unfold convL
  rw [pe_cfs a b z _ (by omega) hb a.length (Nat.le_refl _), List.take_length]

def absI (x : Int) : Int := max x (-x)
def sumAbs : List Int → Int
  | [] => 0
  | x :: l => absI x + sumAbs l
def maxAbs : List Int → Int
  | [] => 0
  | x :: l => max (absI x) (maxAbs l)
theorem absI_nonneg (x : Int) : 0 ≤ absI x := by unfold absI; omega
theorem sumAbs_nonneg : ∀ l, 0 ≤ sumAbs l
  | [] => by simp [sumAbs]
  | x :: l => by have := sumAbs_nonneg l; have := absI_nonneg x; simp only [sumAbs]; omega
theorem maxAbs_nonneg : ∀ l, 0 ≤ maxAbs l
  | [] => by simp [maxAbs]
  | x :: l => by have := maxAbs_nonneg l; have := absI_nonneg x; simp only [maxAbs]; omega
theorem maxAbs_le : ∀ {l : List Int} {x : Int}, x ∈ l → absI x ≤ maxAbs l
  | y :: l, x, h => by
    simp only [maxAbs]
    rcases List.mem_cons.1 h with rfl | h
    · omega
    · have := maxAbs_le h; omega
theorem sumAbs_append (l m : List Int) : sumAbs (l ++ m) = sumAbs l + sumAbs m := by
  induction l with
  | nil => simp [sumAbs]
  | cons x l ih => simp only [List.cons_append, sumAbs, ih]; omega
theorem maxAbs_append (l m : List Int) : maxAbs (l ++ m) = max (maxAbs l) (maxAbs m) := by
  induction l with
  | nil => have := maxAbs_nonneg m; simp only [List.nil_append, maxAbs]; omega
  | cons x l ih => simp only [List.cons_append, maxAbs, ih]; omega
theorem sumAbs_take {l : List Int} {i : Nat} (h : i < l.length) : sumAbs (l.take (i + 1)) = sumAbs (l.take i) + absI (l.getD i 0) := by
  rw [take_succ_getD h, sumAbs_append]; simp [sumAbs]
theorem maxAbs_take {l : List Int} {i : Nat} (h : i < l.length) : maxAbs (l.take (i + 1)) = max (maxAbs (l.take i)) (absI (l.getD i 0)) := by
  have := absI_nonneg (l.getD i 0)
  rw [take_succ_getD h, maxAbs_append]; simp only [maxAbs]; omega
theorem sumAbs_take_le (l : List Int) (i : Nat) : sumAbs (l.take i) ≤ sumAbs l := by
  have := sumAbs_append (l.take i) (l.drop i)
  rw [List.take_append_drop] at this
  have := sumAbs_nonneg (l.drop i); omega
theorem absI_mul (x y : Int) : absI (x * y) = absI x * absI y := by
  unfold absI
  rcases Int.le_total 0 x with hx | hx <;> rcases Int.le_total 0 y with hy | hy
  · have := Int.mul_nonneg hx hy
    rw [Int.max_eq_left (by omega), Int.max_eq_left (by omega), Int.max_eq_left (by omega)]
  · have := Int.mul_nonpos_of_nonneg_of_nonpos hx hy
    rw [Int.max_eq_right (by omega), Int.max_eq_left (by omega), Int.max_eq_right (by omega), Int.mul_neg]
  · have := Int.mul_nonpos_of_nonpos_of_nonneg hx hy
    rw [Int.max_eq_right (by omega), Int.max_eq_right (by omega), Int.max_eq_left (by omega), Int.neg_mul]
  · have := Int.mul_nonneg_of_nonpos_of_nonpos hx hy
    rw [Int.max_eq_left (by omega), Int.max_eq_right (by omega), Int.max_eq_right (by omega), Int.neg_mul_neg]
theorem absI_add (x y : Int) : absI (x + y) ≤ absI x + absI y := by unfold absI; omega
theorem absI_le {x b : Int} (h : absI x ≤ b) : -b ≤ x ∧ x ≤ b := by unfold absI at h; omega

theorem row_abs (c : Int) (b : List Int) (i k : Nat) : absI (row c b i k) ≤ absI c * maxAbs b := by
  unfold row
  split
  · rename_i h
    rw [absI_mul]
    exact Int.mul_le_mul_of_nonneg_left (maxAbs_le (getD_mem h.2)) (absI_nonneg c)
  · have := Int.mul_nonneg (absI_nonneg c) (maxAbs_nonneg b)
    simp [absI]; exact this
theorem cfs_abs (a b : List Int) (k : Nat) : ∀ i, i ≤ a.length → absI (cfs a b i k) ≤ sumAbs (a.take i) * maxAbs b
  | 0, _ => by simp [cfs, absI, sumAbs]
  | i + 1, hi => by
    have ih := cfs_abs a b k i (by omega)
    have h1 := row_abs (a.getD i 0) b i k
    have h2 := absI_add (cfs a b i k) (row (a.getD i 0) b i k)
    rw [sumAbs_take (by omega), Int.add_mul]
    simp only [cfs]; omega
end Go.Ae

/- Products of the reference, weights. -/
set_option linter.unusedSimpArgs false
set_option linter.unusedVariables false
namespace Go.Ae

def small (l : List Int) : Prop := ∀ x ∈ l, -1000000 ≤ x ∧ x ≤ 1000000
theorem small_abs {l : List Int} (h : small l) {i : Nat} (hi : i < l.length) : absI (l.getD i 0) ≤ 1000000 := by
  have := h _ (getD_mem hi); unfold absI; omega
theorem sumAbs_small {l : List Int} (h : small l) : sumAbs l ≤ 1000000 * l.length := by
  induction l with
  | nil => simp [sumAbs]
  | cons x l ih =>
    have h1 := ih (fun y hy => h y (List.mem_cons_of_mem _ hy))
    have h2 := h x List.mem_cons_self
    simp only [sumAbs, List.length_cons, absI]; omega
theorem maxAbs_small {l : List Int} (h : small l) : maxAbs l ≤ 1000000 := by
  induction l with
  | nil => simp [maxAbs]
  | cons x l ih =>
    have h1 := ih (fun y hy => h y (List.mem_cons_of_mem _ hy))
    have h2 := h x List.mem_cons_self
    simp only [maxAbs, absI]; omega
theorem small_take {l : List Int} (h : small l) (i : Nat) : small (l.take i) := fun x hx => h x (List.mem_of_mem_take hx)

section
variable {C : Ctx}

theorem weight_spec (hC : Has C T40) {va vb : AV} {a b : List Int} {h : Heap} (ha : RI h va a) (hb : RI h vb b) (sa : small a) (sb : small b) (hla : a.length ≤ 65536) : ACalls C 40 [va, vb] h (fun r h' => r = .int .i64 (sumAbs a * maxAbs b) ∧ h' = h) := by
  have l1 := ha.lt
  have l2 := hb.lt
  have s1 := sumAbs_small sa
  have s2 := sumAbs_nonneg a
  have s3 := maxAbs_small sb
  have s4 := maxAbs_nonneg b
  have p1 : 0 ≤ sumAbs a * maxAbs b := Int.mul_nonneg s2 s4
  have p2 : sumAbs a * maxAbs b ≤ 65536000000 * 1000000 := Int.mul_le_mul (by omega) s3 s4 (by omega)
  (refine calls_intro (hC.body (by decide) tab40) (Nat.le_of_ble_eq_true rfl) ?_); (show wp C _ none B40.code _ _); (simp only [B40]); simp -implicitDefEqProofs (disch := first | assumption | decide | omega | (simp -implicitDefEqProofs only [wpD1] <;> omega) | (refine not_in_one ?_; first | omega | (simp -implicitDefEqProofs only [wpD1] <;> omega) | fail) | (simp -implicitDefEqProofs only [wpD2] <;> assumption) | ((repeat (first | exact HSub.refl _ | assumption | refine HSub.push ?_ _ | refine HSub.reserve ?_ _ | refine HSub.put ?_ (by omega) _)); done) | fail) only [↓wpPre, wpPost, wpPoly, Int.reduceToNat, Int.reducePow, Int.reduceMul, Int.reduceAdd, Int.reduceSub, Int.reduceNeg, Nat.reduceAdd, Nat.reduceMul, Nat.reducePow, Int.reduceLT, Int.reduceLE, Int.reduceEq, Nat.reduceEqDiff]
  refine wp_loopI (fun j t h' => h' = h ∧ t 0 = va ∧ t 1 = vb ∧ t 6 = .int .i64 0 ∧ ∃ i : Nat, t 5 = .int .i64 (sumAbs (a.take i)) ∧ t 7 = .int .i64 (i : Nat) ∧ i ≤ a.length ∧ j = a.length - i) ⟨rfl, rfl, rfl, rfl, 0, rfl, rfl, by omega, rfl⟩ ?_
  rintro j t h' ⟨rfl, e0, e1, e6, i, e5, e7, hi, hj⟩
  simp -implicitDefEqProofs (disch := first | assumption | decide | omega | (simp -implicitDefEqProofs only [wpD1] <;> omega) | (refine not_in_one ?_; first | omega | (simp -implicitDefEqProofs only [wpD1] <;> omega) | fail) | (simp -implicitDefEqProofs only [wpD2] <;> assumption) | ((repeat (first | exact HSub.refl _ | assumption | refine HSub.push ?_ _ | refine HSub.reserve ?_ _ | refine HSub.put ?_ (by omega) _)); done) | fail) only [↓wpPre, wpPost, wpPoly, Int.reduceToNat, Int.reducePow, Int.reduceMul, Int.reduceAdd, Int.reduceSub, Int.reduceNeg, Nat.reduceAdd, Nat.reduceMul, Nat.reducePow, Int.reduceLT, Int.reduceLE, Int.reduceEq, Nat.reduceEqDiff, e0, e1, e6, e7, ha.len]
  refine Br.by (fun c => ?_) (fun c => ?_)
  · have hi' : i < a.length := by omega
    have q1 := small_abs sa hi'
    have q2 := sa _ (getD_mem hi')
    have q3 := sumAbs_nonneg (a.take i)
    have q4 := sumAbs_take_le a i
    have q5 : max (a.getD i 0) (0 - a.getD i 0) = absI (a.getD i 0) := by unfold absI; omega
    have q6 := absI_nonneg (a.getD i 0)
    simp -implicitDefEqProofs (disch := first | assumption | decide | omega | (simp -implicitDefEqProofs only [wpD1] <;> omega) | (refine not_in_one ?_; first | omega | (simp -implicitDefEqProofs only [wpD1] <;> omega) | fail) | (simp -implicitDefEqProofs only [wpD2] <;> assumption) | ((repeat (first | exact HSub.refl _ | assumption | refine HSub.push ?_ _ | refine HSub.reserve ?_ _ | refine HSub.put ?_ (by omega) _)); done) | fail) only [↓wpPre, wpPost, wpPoly, Int.reduceToNat, Int.reducePow, Int.reduceMul, Int.reduceAdd, Int.reduceSub, Int.reduceNeg, Nat.reduceAdd, Nat.reduceMul, Nat.reducePow, Int.reduceLT, Int.reduceLE, Int.reduceEq, Nat.reduceEqDiff, e0, e1, e5, e6, e7, ha.idx, ha.load, q5]
    exact ⟨_, ⟨i + 1, by rw [sumAbs_take hi'], by simp, by omega, rfl⟩, by omega⟩
  · have : i = a.length := by omega
    subst this
    rw [List.take_length] at e5
    simp -implicitDefEqProofs (disch := first | assumption | decide | omega | (simp -implicitDefEqProofs only [wpD1] <;> omega) | (refine not_in_one ?_; first | omega | (simp -implicitDefEqProofs only [wpD1] <;> omega) | fail) | (simp -implicitDefEqProofs only [wpD2] <;> assumption) | ((repeat (first | exact HSub.refl _ | assumption | refine HSub.push ?_ _ | refine HSub.reserve ?_ _ | refine HSub.put ?_ (by omega) _)); done) | fail) only [↓wpPre, wpPost, wpPoly, Int.reduceToNat, Int.reducePow, Int.reduceMul, Int.reduceAdd, Int.reduceSub, Int.reduceNeg, Nat.reduceAdd, Nat.reduceMul, Nat.reducePow, Int.reduceLT, Int.reduceLE, Int.reduceEq, Nat.reduceEqDiff]
    refine wp_loopI (fun j t h2 => h2 = h' ∧ t 0 = va ∧ t 1 = vb ∧ t 5 = .int .i64 (sumAbs a) ∧ ∃ i : Nat, t 6 = .int .i64 (maxAbs (b.take i)) ∧ t 8 = .int .i64 (i : Nat) ∧ i ≤ b.length ∧ j = b.length - i) (j0 := b.length) ⟨rfl, e0, e1, e5, 0, e6, rfl, by omega, rfl⟩ ?_
    rintro j t h2 ⟨rfl, e0, e1, e5, i, e6, e8, hi, hj⟩
    simp -implicitDefEqProofs (disch := first | assumption | decide | omega | (simp -implicitDefEqProofs only [wpD1] <;> omega) | (refine not_in_one ?_; first | omega | (simp -implicitDefEqProofs only [wpD1] <;> omega) | fail) | (simp -implicitDefEqProofs only [wpD2] <;> assumption) | ((repeat (first | exact HSub.refl _ | assumption | refine HSub.push ?_ _ | refine HSub.reserve ?_ _ | refine HSub.put ?_ (by omega) _)); done) | fail) only [↓wpPre, wpPost, wpPoly, Int.reduceToNat, Int.reducePow, Int.reduceMul, Int.reduceAdd, Int.reduceSub, Int.reduceNeg, Nat.reduceAdd, Nat.reduceMul, Nat.reducePow, Int.reduceLT, Int.reduceLE, Int.reduceEq, Nat.reduceEqDiff, e0, e1, e8, hb.len]
    refine Br.by (fun c => ?_) (fun c => ?_)
    · have hi' : i < b.length := by omega
      have q1 := small_abs sb hi'
      have q2 := sb _ (getD_mem hi')
      have q5 : max (max (maxAbs (b.take i)) (b.getD i 0)) (0 - b.getD i 0) = max (maxAbs (b.take i)) (absI (b.getD i 0)) := by unfold absI; omega
      simp -implicitDefEqProofs (disch := first | assumption | decide | omega | (simp -implicitDefEqProofs only [wpD1] <;> omega) | (refine not_in_one ?_; first | omega | (simp -implicitDefEqProofs only [wpD1] <;> omega) | fail) | (simp -implicitDefEqProofs only [wpD2] <;> assumption) | ((repeat (first | exact HSub.refl _ | assumption | refine HSub.push ?_ _ | refine HSub.reserve ?_ _ | refine HSub.put ?_ (by omega) _)); done) | fail) only [↓wpPre, wpPost, wpPoly, Int.reduceToNat, Int.reducePow, Int.reduceMul, Int.reduceAdd, Int.reduceSub, Int.reduceNeg, Nat.reduceAdd, Nat.reduceMul, Nat.reducePow, Int.reduceLT, Int.reduceLE, Int.reduceEq, Nat.reduceEqDiff, e0, e1, e5, e6, e8, hb.idx, hb.load, q5]
      exact ⟨_, ⟨i + 1, by rw [maxAbs_take hi'], by simp, by omega, rfl⟩, by omega⟩
    · have : i = b.length := by omega
      subst this
      rw [List.take_length] at e6
      simp -implicitDefEqProofs (disch := first | assumption | decide | omega | (simp -implicitDefEqProofs only [wpD1] <;> omega) | (refine not_in_one ?_; first | omega | (simp -implicitDefEqProofs only [wpD1] <;> omega) | fail) | (simp -implicitDefEqProofs only [wpD2] <;> assumption) | ((repeat (first | exact HSub.refl _ | assumption | refine HSub.push ?_ _ | refine HSub.reserve ?_ _ | refine HSub.put ?_ (by omega) _)); done) | fail) only [↓wpPre, wpPost, wpPoly, Int.reduceToNat, Int.reducePow, Int.reduceMul, Int.reduceAdd, Int.reduceSub, Int.reduceNeg, Nat.reduceAdd, Nat.reduceMul, Nat.reducePow, Int.reduceLT, Int.reduceLE, Int.reduceEq, Nat.reduceEqDiff, e5, e6]

theorem heavy_spec (hC : Has C T38) {va vb : AV} {a b : List Int} {h : Heap} (ha : RI h va a) (hb : RI h vb b) (sa : small a) (sb : small b) (hla : a.length ≤ 65536) : ACalls C 38 [va, vb] h (fun r h' => r = .bool (decide (499122176 < sumAbs a * maxAbs b)) ∧ h' = h) := by
  have l1 := ha.lt
  have l2 := hb.lt
  have s1 := sumAbs_small sa
  have s2 := sumAbs_nonneg a
  have s3 := maxAbs_small sb
  have s4 := maxAbs_nonneg b
  have p1 : 0 ≤ sumAbs a * maxAbs b := Int.mul_nonneg s2 s4
  have p2 : sumAbs a * maxAbs b ≤ 65536000000 * 1000000 := Int.mul_le_mul (by omega) s3 s4 (by omega)
  (refine calls_intro (hC.body (by decide) tab38) (Nat.le_of_ble_eq_true rfl) ?_); (show wp C _ none B38.code _ _); (simp only [B38]); simp -implicitDefEqProofs (disch := first | assumption | decide | omega | (simp -implicitDefEqProofs only [wpD1] <;> omega) | (refine not_in_one ?_; first | omega | (simp -implicitDefEqProofs only [wpD1] <;> omega) | fail) | (simp -implicitDefEqProofs only [wpD2] <;> assumption) | ((repeat (first | exact HSub.refl _ | assumption | refine HSub.push ?_ _ | refine HSub.reserve ?_ _ | refine HSub.put ?_ (by omega) _)); done) | fail) only [↓wpPre, wpPost, wpPoly, Int.reduceToNat, Int.reducePow, Int.reduceMul, Int.reduceAdd, Int.reduceSub, Int.reduceNeg, Nat.reduceAdd, Nat.reduceMul, Nat.reducePow, Int.reduceLT, Int.reduceLE, Int.reduceEq, Nat.reduceEqDiff, ha.len]
  refine wp_loopI (fun j t h' => h' = h ∧ t 1 = vb ∧ t 6 = .int .i64 0 ∧ t 11 = va ∧ t 12 = .int .i64 a.length ∧ ∃ i : Nat, t 5 = .int .i64 (sumAbs (a.take i)) ∧ t 13 = .int .i64 (i : Nat) ∧ i ≤ a.length ∧ j = a.length - i) ⟨rfl, rfl, rfl, rfl, rfl, 0, rfl, rfl, by omega, rfl⟩ ?_
  rintro j t h' ⟨rfl, e1, e6, e11, e12, i, e5, e13, hi, hj⟩
  simp -implicitDefEqProofs (disch := first | assumption | decide | omega | (simp -implicitDefEqProofs only [wpD1] <;> omega) | (refine not_in_one ?_; first | omega | (simp -implicitDefEqProofs only [wpD1] <;> omega) | fail) | (simp -implicitDefEqProofs only [wpD2] <;> assumption) | ((repeat (first | exact HSub.refl _ | assumption | refine HSub.push ?_ _ | refine HSub.reserve ?_ _ | refine HSub.put ?_ (by omega) _)); done) | fail) only [↓wpPre, wpPost, wpPoly, Int.reduceToNat, Int.reducePow, Int.reduceMul, Int.reduceAdd, Int.reduceSub, Int.reduceNeg, Nat.reduceAdd, Nat.reduceMul, Nat.reducePow, Int.reduceLT, Int.reduceLE, Int.reduceEq, Nat.reduceEqDiff, e1, e6, e12, e13]
  refine Br.by (fun c => ?_) (fun c => ?_)
  · have hi' : i < a.length := by omega
    have q1 := small_abs sa hi'
    have q2 := sa _ (getD_mem hi')
    have q3 := sumAbs_nonneg (a.take i)
    have q4 := sumAbs_take_le a i
    have q5 : max (a.getD i 0) (0 - a.getD i 0) = absI (a.getD i 0) := by unfold absI; omega
    have q6 := absI_nonneg (a.getD i 0)
    simp -implicitDefEqProofs (disch := first | assumption | decide | omega | (simp -implicitDefEqProofs only [wpD1] <;> omega) | (refine not_in_one ?_; first | omega | (simp -implicitDefEqProofs only [wpD1] <;> omega) | fail) | (simp -implicitDefEqProofs only [wpD2] <;> assumption) | ((repeat (first | exact HSub.refl _ | assumption | refine HSub.push ?_ _ | refine HSub.reserve ?_ _ | refine HSub.put ?_ (by omega) _)); done) | fail) only [↓wpPre, wpPost, wpPoly, Int.reduceToNat, Int.reducePow, Int.reduceMul, Int.reduceAdd, Int.reduceSub, Int.reduceNeg, Nat.reduceAdd, Nat.reduceMul, Nat.reducePow, Int.reduceLT, Int.reduceLE, Int.reduceEq, Nat.reduceEqDiff, e1, e5, e6, e11, e12, e13, ha.idx, ha.load, q5]
    exact ⟨_, ⟨i + 1, by rw [sumAbs_take hi'], by simp, by omega, rfl⟩, by omega⟩
  · have : i = a.length := by omega
    subst this
    rw [List.take_length] at e5
    simp -implicitDefEqProofs (disch := first | assumption | decide | omega | (simp -implicitDefEqProofs only [wpD1] <;> omega) | (refine not_in_one ?_; first | omega | (simp -implicitDefEqProofs only [wpD1] <;> omega) | fail) | (simp -implicitDefEqProofs only [wpD2] <;> assumption) | ((repeat (first | exact HSub.refl _ | assumption | refine HSub.push ?_ _ | refine HSub.reserve ?_ _ | refine HSub.put ?_ (by omega) _)); done) | fail) only [↓wpPre, wpPost, wpPoly, Int.reduceToNat, Int.reducePow, Int.reduceMul, Int.reduceAdd, Int.reduceSub, Int.reduceNeg, Nat.reduceAdd, Nat.reduceMul, Nat.reducePow, Int.reduceLT, Int.reduceLE, Int.reduceEq, Nat.reduceEqDiff, e1, hb.len]
    refine wp_loopI (fun j t h2 => h2 = h' ∧ t 5 = .int .i64 (sumAbs a) ∧ t 24 = vb ∧ t 25 = .int .i64 b.length ∧ ∃ i : Nat, t 6 = .int .i64 (maxAbs (b.take i)) ∧ t 26 = .int .i64 (i : Nat) ∧ i ≤ b.length ∧ j = b.length - i) (j0 := b.length) ⟨rfl, e5, rfl, rfl, 0, e6, rfl, by omega, rfl⟩ ?_
    rintro j t h2 ⟨rfl, e5, e24, e25, i, e6, e26, hi, hj⟩
    simp -implicitDefEqProofs (disch := first | assumption | decide | omega | (simp -implicitDefEqProofs only [wpD1] <;> omega) | (refine not_in_one ?_; first | omega | (simp -implicitDefEqProofs only [wpD1] <;> omega) | fail) | (simp -implicitDefEqProofs only [wpD2] <;> assumption) | ((repeat (first | exact HSub.refl _ | assumption | refine HSub.push ?_ _ | refine HSub.reserve ?_ _ | refine HSub.put ?_ (by omega) _)); done) | fail) only [↓wpPre, wpPost, wpPoly, Int.reduceToNat, Int.reducePow, Int.reduceMul, Int.reduceAdd, Int.reduceSub, Int.reduceNeg, Nat.reduceAdd, Nat.reduceMul, Nat.reducePow, Int.reduceLT, Int.reduceLE, Int.reduceEq, Nat.reduceEqDiff, e24, e25, e26]
    refine Br.by (fun c => ?_) (fun c => ?_)
    · have hi' : i < b.length := by omega
      have q1 := small_abs sb hi'
      have q2 := sb _ (getD_mem hi')
      have q5 : max (max (maxAbs (b.take i)) (b.getD i 0)) (0 - b.getD i 0) = max (maxAbs (b.take i)) (absI (b.getD i 0)) := by unfold absI; omega
      simp -implicitDefEqProofs (disch := first | assumption | decide | omega | (simp -implicitDefEqProofs only [wpD1] <;> omega) | (refine not_in_one ?_; first | omega | (simp -implicitDefEqProofs only [wpD1] <;> omega) | fail) | (simp -implicitDefEqProofs only [wpD2] <;> assumption) | ((repeat (first | exact HSub.refl _ | assumption | refine HSub.push ?_ _ | refine HSub.reserve ?_ _ | refine HSub.put ?_ (by omega) _)); done) | fail) only [↓wpPre, wpPost, wpPoly, Int.reduceToNat, Int.reducePow, Int.reduceMul, Int.reduceAdd, Int.reduceSub, Int.reduceNeg, Nat.reduceAdd, Nat.reduceMul, Nat.reducePow, Int.reduceLT, Int.reduceLE, Int.reduceEq, Nat.reduceEqDiff, e5, e6, e24, e25, e26, hb.idx, hb.load, q5]
      exact ⟨_, ⟨i + 1, by rw [maxAbs_take hi'], by simp, by omega, rfl⟩, by omega⟩
    · have : i = b.length := by omega
      subst this
      rw [List.take_length] at e6
      simp -implicitDefEqProofs (disch := first | assumption | decide | omega | (simp -implicitDefEqProofs only [wpD1] <;> omega) | (refine not_in_one ?_; first | omega | (simp -implicitDefEqProofs only [wpD1] <;> omega) | fail) | (simp -implicitDefEqProofs only [wpD2] <;> assumption) | ((repeat (first | exact HSub.refl _ | assumption | refine HSub.push ?_ _ | refine HSub.reserve ?_ _ | refine HSub.put ?_ (by omega) _)); done) | fail) only [↓wpPre, wpPost, wpPoly, Int.reduceToNat, Int.reducePow, Int.reduceMul, Int.reduceAdd, Int.reduceSub, Int.reduceNeg, Nat.reduceAdd, Nat.reduceMul, Nat.reducePow, Int.reduceLT, Int.reduceLE, Int.reduceEq, Nat.reduceEqDiff, e5, e6]
end
end Go.Ae

/- Products of the reference. -/
set_option linter.unusedSimpArgs false
set_option linter.unusedVariables false
namespace Go.Ae

theorem range_get {N m : Nat} {f : Nat → Int} (h : m < N) : ((List.range N).map f).getD m 0 = f m := by simp [h]
theorem range_set {N m : Nat} {f g : Nat → Int} {y : Int} (hm : g m = y) (hn : ∀ n, n ≠ m → g n = f n) : ((List.range N).map f).set m y = (List.range N).map g := by
  refine List.ext_getElem (by simp) fun n h1 h2 => ?_
  simp only [List.length_set, List.length_map, List.length_range] at h1
  rw [List.getElem_set]
  split
  · rename_i e; subst e; simp [hm]
  · rename_i e; simp [hn n (Ne.symm e)]

def bigs (x : Int) : Bool := decide (x < -1000000 ∨ 1000000 < x)
theorem small_of {l : List Int} (h : l.any bigs = false) : small l := fun x hx => by
  have := List.any_eq_false.1 h x hx
  simp only [bigs, decide_eq_true_eq] at this; omega
/-- The error of a product. -/
def prodErr (a b : List Int) : Int :=
  if a.length = 0 ∨ b.length = 0 then 3 else if 32768 < a.length + b.length - 1 then 4 else if a.any bigs = true ∨ b.any bigs = true then 2 else if 499122176 < sumAbs a * maxAbs b then 5 else 0

/-- The product's element n by the elements of a before i and the first kk summands of i's own. -/
def rowK (c : Int) (b : List Int) (i kk n : Nat) : Int := if i ≤ n ∧ n - i < kk then c * b.getD (n - i) 0 else 0
def cfk (a b : List Int) (i kk n : Nat) : Int := cfs a b i n + rowK (a.getD i 0) b i kk n
theorem cfk_zero (a b : List Int) (i : Nat) : cfk a b i 0 = cfs a b i := by funext n; simp [cfk, rowK]
theorem cfk_full (a b : List Int) (i : Nat) : cfk a b i b.length = cfs a b (i + 1) := by funext n; rfl
theorem cfk_at {a b : List Int} {i kk : Nat} : cfk a b i kk (i + kk) = cfs a b i (i + kk) := by simp [cfk, rowK]
theorem cfk_step {a b : List Int} {i kk : Nat} : cfk a b i (kk + 1) (i + kk) = cfs a b i (i + kk) + a.getD i 0 * b.getD kk 0 := by
  simp only [cfk, rowK]
  rw [if_pos (by omega), show i + kk - i = kk by omega]
theorem cfk_other {a b : List Int} {i kk n : Nat} (h : n ≠ i + kk) : cfk a b i (kk + 1) n = cfk a b i kk n := by
  simp only [cfk, rowK]
  congr 1
  by_cases h1 : i ≤ n ∧ n - i < kk
  · rw [if_pos (by omega), if_pos h1]
  · rw [if_neg (by omega), if_neg h1]

section
variable {C : Ctx}

set_option maxHeartbeats 1000000 in
theorem ProductR_spec (hC : Has C T20) {va vb : AV} {a b : List Int} {h : Heap} (ha : RI h va a) (hb : RI h vb b) (hla : a.length ≤ 1000000000 ∧ b.length ≤ 1000000000) :
    ACalls C 20 [va, vb] h (fun r h' => if prodErr a b = 0 then (∃ v', r = lstErr v' 0 ∧ Fresh h h' v' (convL a b)) else (r = lstErr .nilslice (prodErr a b) ∧ h' = h)) := by
  have hb0 : ∀ c, HSub h (h.push c) := fun c => HSub.push1 h c
  unfold prodErr
  (refine calls_intro (hC.body (by decide) tab20) (Nat.le_of_ble_eq_true rfl) ?_); (show wp C _ none B20.code _ _); (simp only [B20]); simp -implicitDefEqProofs (disch := first | assumption | decide | omega | (simp -implicitDefEqProofs only [wpD1] <;> omega) | (refine not_in_one ?_; first | omega | (simp -implicitDefEqProofs only [wpD1] <;> omega) | fail) | (simp -implicitDefEqProofs only [wpD2] <;> assumption) | ((repeat (first | exact HSub.refl _ | assumption | refine HSub.push ?_ _ | refine HSub.reserve ?_ _ | refine HSub.put ?_ (by omega) _)); done) | fail) only [↓wpPre, wpPost, wpPoly, Int.reduceToNat, Int.reducePow, Int.reduceMul, Int.reduceAdd, Int.reduceSub, Int.reduceNeg, Nat.reduceAdd, Nat.reduceMul, Nat.reducePow, Int.reduceLT, Int.reduceLE, Int.reduceEq, Nat.reduceEqDiff, ha.len]
  have key : ∀ {w : List Int} {vw : AV} {i : Nat}, i < w.length → (w.take i).any bigs = false → (w.getD i 0 < -1000000 ∨ 1000000 < w.getD i 0 → w.any bigs = true) ∧ (¬ (w.getD i 0 < -1000000 ∨ 1000000 < w.getD i 0) → (w.take (i + 1)).any bigs = false) := by
    intro w vw i hi hp
    exact ⟨fun hx => List.any_eq_true.2 ⟨_, getD_mem hi, by simp only [bigs, decide_eq_true_eq]; exact hx⟩, fun hx => any_take_succ hi hp (by simp only [bigs, decide_eq_false_iff_not]; exact hx)⟩
  by_cases c0 : a.length = 0 ∨ b.length = 0
  · rw [if_pos c0]
    refine Br.by (fun c => ?_) (fun c => ?_)
    · simp -implicitDefEqProofs (disch := first | assumption | decide | omega | (simp -implicitDefEqProofs only [wpD1] <;> omega) | (refine not_in_one ?_; first | omega | (simp -implicitDefEqProofs only [wpD1] <;> omega) | fail) | (simp -implicitDefEqProofs only [wpD2] <;> assumption) | ((repeat (first | exact HSub.refl _ | assumption | refine HSub.push ?_ _ | refine HSub.reserve ?_ _ | refine HSub.put ?_ (by omega) _)); done) | fail) only [↓wpPre, wpPost, wpPoly, Int.reduceToNat, Int.reducePow, Int.reduceMul, Int.reduceAdd, Int.reduceSub, Int.reduceNeg, Nat.reduceAdd, Nat.reduceMul, Nat.reducePow, Int.reduceLT, Int.reduceLE, Int.reduceEq, Nat.reduceEqDiff]
      rfl
    · simp -implicitDefEqProofs (disch := first | assumption | decide | omega | (simp -implicitDefEqProofs only [wpD1] <;> omega) | (refine not_in_one ?_; first | omega | (simp -implicitDefEqProofs only [wpD1] <;> omega) | fail) | (simp -implicitDefEqProofs only [wpD2] <;> assumption) | ((repeat (first | exact HSub.refl _ | assumption | refine HSub.push ?_ _ | refine HSub.reserve ?_ _ | refine HSub.put ?_ (by omega) _)); done) | fail) only [↓wpPre, wpPost, wpPoly, Int.reduceToNat, Int.reducePow, Int.reduceMul, Int.reduceAdd, Int.reduceSub, Int.reduceNeg, Nat.reduceAdd, Nat.reduceMul, Nat.reducePow, Int.reduceLT, Int.reduceLE, Int.reduceEq, Nat.reduceEqDiff, hb.len]
      simp [lstErr]
  · rw [if_neg c0]
    simp -implicitDefEqProofs (disch := first | assumption | decide | omega | (simp -implicitDefEqProofs only [wpD1] <;> omega) | (refine not_in_one ?_; first | omega | (simp -implicitDefEqProofs only [wpD1] <;> omega) | fail) | (simp -implicitDefEqProofs only [wpD2] <;> assumption) | ((repeat (first | exact HSub.refl _ | assumption | refine HSub.push ?_ _ | refine HSub.reserve ?_ _ | refine HSub.put ?_ (by omega) _)); done) | fail) only [↓wpPre, wpPost, wpPoly, Int.reduceToNat, Int.reducePow, Int.reduceMul, Int.reduceAdd, Int.reduceSub, Int.reduceNeg, Nat.reduceAdd, Nat.reduceMul, Nat.reducePow, Int.reduceLT, Int.reduceLE, Int.reduceEq, Nat.reduceEqDiff, hb.len, ha.len]
    refine Br.by (fun c1 => ?_) (fun c1 => ?_)
    · rw [if_pos (by omega)]
      simp -implicitDefEqProofs (disch := first | assumption | decide | omega | (simp -implicitDefEqProofs only [wpD1] <;> omega) | (refine not_in_one ?_; first | omega | (simp -implicitDefEqProofs only [wpD1] <;> omega) | fail) | (simp -implicitDefEqProofs only [wpD2] <;> assumption) | ((repeat (first | exact HSub.refl _ | assumption | refine HSub.push ?_ _ | refine HSub.reserve ?_ _ | refine HSub.put ?_ (by omega) _)); done) | fail) only [↓wpPre, wpPost, wpPoly, Int.reduceToNat, Int.reducePow, Int.reduceMul, Int.reduceAdd, Int.reduceSub, Int.reduceNeg, Nat.reduceAdd, Nat.reduceMul, Nat.reducePow, Int.reduceLT, Int.reduceLE, Int.reduceEq, Nat.reduceEqDiff]
      rfl
    · rw [if_neg (by omega)]
      simp -implicitDefEqProofs (disch := first | assumption | decide | omega | (simp -implicitDefEqProofs only [wpD1] <;> omega) | (refine not_in_one ?_; first | omega | (simp -implicitDefEqProofs only [wpD1] <;> omega) | fail) | (simp -implicitDefEqProofs only [wpD2] <;> assumption) | ((repeat (first | exact HSub.refl _ | assumption | refine HSub.push ?_ _ | refine HSub.reserve ?_ _ | refine HSub.put ?_ (by omega) _)); done) | fail) only [↓wpPre, wpPost, wpPoly, Int.reduceToNat, Int.reducePow, Int.reduceMul, Int.reduceAdd, Int.reduceSub, Int.reduceNeg, Nat.reduceAdd, Nat.reduceMul, Nat.reducePow, Int.reduceLT, Int.reduceLE, Int.reduceEq, Nat.reduceEqDiff]
      refine wp_loopI (fun j t h' => h' = h ∧ t 0 = va ∧ t 1 = vb ∧ ∃ i : Nat, t 6 = .int .i64 (i : Nat) ∧ i ≤ a.length ∧ (a.take i).any bigs = false ∧ j = a.length - i) (j0 := a.length) ⟨rfl, rfl, rfl, 0, rfl, by omega, by simp, rfl⟩ ?_
      rintro j t h2 ⟨hh, e0, e1, i, e6, hi, hp, hj⟩
      subst hh
      simp -implicitDefEqProofs (disch := first | assumption | decide | omega | (simp -implicitDefEqProofs only [wpD1] <;> omega) | (refine not_in_one ?_; first | omega | (simp -implicitDefEqProofs only [wpD1] <;> omega) | fail) | (simp -implicitDefEqProofs only [wpD2] <;> assumption) | ((repeat (first | exact HSub.refl _ | assumption | refine HSub.push ?_ _ | refine HSub.reserve ?_ _ | refine HSub.put ?_ (by omega) _)); done) | fail) only [↓wpPre, wpPost, wpPoly, Int.reduceToNat, Int.reducePow, Int.reduceMul, Int.reduceAdd, Int.reduceSub, Int.reduceNeg, Nat.reduceAdd, Nat.reduceMul, Nat.reducePow, Int.reduceLT, Int.reduceLE, Int.reduceEq, Nat.reduceEqDiff, e0, e6, ha.len]
      refine Br.by (fun c2 => ?_) (fun c2 => ?_)
      · have hi' : i < a.length := by omega
        have kk := key (vw := va) hi' hp
        simp -implicitDefEqProofs (disch := first | assumption | decide | omega | (simp -implicitDefEqProofs only [wpD1] <;> omega) | (refine not_in_one ?_; first | omega | (simp -implicitDefEqProofs only [wpD1] <;> omega) | fail) | (simp -implicitDefEqProofs only [wpD2] <;> assumption) | ((repeat (first | exact HSub.refl _ | assumption | refine HSub.push ?_ _ | refine HSub.reserve ?_ _ | refine HSub.put ?_ (by omega) _)); done) | fail) only [↓wpPre, wpPost, wpPoly, Int.reduceToNat, Int.reducePow, Int.reduceMul, Int.reduceAdd, Int.reduceSub, Int.reduceNeg, Nat.reduceAdd, Nat.reduceMul, Nat.reducePow, Int.reduceLT, Int.reduceLE, Int.reduceEq, Nat.reduceEqDiff, e0, e6, ha.idx, ha.load]
        refine Br.by (fun c3 => ?_) (fun c3 => ?_)
        · rw [if_pos (.inl (kk.1 (.inl c3)))]
          simp -implicitDefEqProofs (disch := first | assumption | decide | omega | (simp -implicitDefEqProofs only [wpD1] <;> omega) | (refine not_in_one ?_; first | omega | (simp -implicitDefEqProofs only [wpD1] <;> omega) | fail) | (simp -implicitDefEqProofs only [wpD2] <;> assumption) | ((repeat (first | exact HSub.refl _ | assumption | refine HSub.push ?_ _ | refine HSub.reserve ?_ _ | refine HSub.put ?_ (by omega) _)); done) | fail) only [↓wpPre, wpPost, wpPoly, Int.reduceToNat, Int.reducePow, Int.reduceMul, Int.reduceAdd, Int.reduceSub, Int.reduceNeg, Nat.reduceAdd, Nat.reduceMul, Nat.reducePow, Int.reduceLT, Int.reduceLE, Int.reduceEq, Nat.reduceEqDiff]
          rfl
        · simp -implicitDefEqProofs (disch := first | assumption | decide | omega | (simp -implicitDefEqProofs only [wpD1] <;> omega) | (refine not_in_one ?_; first | omega | (simp -implicitDefEqProofs only [wpD1] <;> omega) | fail) | (simp -implicitDefEqProofs only [wpD2] <;> assumption) | ((repeat (first | exact HSub.refl _ | assumption | refine HSub.push ?_ _ | refine HSub.reserve ?_ _ | refine HSub.put ?_ (by omega) _)); done) | fail) only [↓wpPre, wpPost, wpPoly, Int.reduceToNat, Int.reducePow, Int.reduceMul, Int.reduceAdd, Int.reduceSub, Int.reduceNeg, Nat.reduceAdd, Nat.reduceMul, Nat.reducePow, Int.reduceLT, Int.reduceLE, Int.reduceEq, Nat.reduceEqDiff, e0, e6, ha.idx, ha.load]
          refine Br.by (fun c4 => ?_) (fun c4 => ?_)
          · rw [if_pos (.inl (kk.1 (.inr c4)))]
            simp -implicitDefEqProofs (disch := first | assumption | decide | omega | (simp -implicitDefEqProofs only [wpD1] <;> omega) | (refine not_in_one ?_; first | omega | (simp -implicitDefEqProofs only [wpD1] <;> omega) | fail) | (simp -implicitDefEqProofs only [wpD2] <;> assumption) | ((repeat (first | exact HSub.refl _ | assumption | refine HSub.push ?_ _ | refine HSub.reserve ?_ _ | refine HSub.put ?_ (by omega) _)); done) | fail) only [↓wpPre, wpPost, wpPoly, Int.reduceToNat, Int.reducePow, Int.reduceMul, Int.reduceAdd, Int.reduceSub, Int.reduceNeg, Nat.reduceAdd, Nat.reduceMul, Nat.reducePow, Int.reduceLT, Int.reduceLE, Int.reduceEq, Nat.reduceEqDiff]
            rfl
          · simp -implicitDefEqProofs (disch := first | assumption | decide | omega | (simp -implicitDefEqProofs only [wpD1] <;> omega) | (refine not_in_one ?_; first | omega | (simp -implicitDefEqProofs only [wpD1] <;> omega) | fail) | (simp -implicitDefEqProofs only [wpD2] <;> assumption) | ((repeat (first | exact HSub.refl _ | assumption | refine HSub.push ?_ _ | refine HSub.reserve ?_ _ | refine HSub.put ?_ (by omega) _)); done) | fail) only [↓wpPre, wpPost, wpPoly, Int.reduceToNat, Int.reducePow, Int.reduceMul, Int.reduceAdd, Int.reduceSub, Int.reduceNeg, Nat.reduceAdd, Nat.reduceMul, Nat.reducePow, Int.reduceLT, Int.reduceLE, Int.reduceEq, Nat.reduceEqDiff, e0, e1, e6]
            exact ⟨_, ⟨i + 1, by simp, by omega, kk.2 (by omega), rfl⟩, by omega⟩
      · have : i = a.length := by omega
        subst this
        rw [List.take_length] at hp
        simp -implicitDefEqProofs (disch := first | assumption | decide | omega | (simp -implicitDefEqProofs only [wpD1] <;> omega) | (refine not_in_one ?_; first | omega | (simp -implicitDefEqProofs only [wpD1] <;> omega) | fail) | (simp -implicitDefEqProofs only [wpD2] <;> assumption) | ((repeat (first | exact HSub.refl _ | assumption | refine HSub.push ?_ _ | refine HSub.reserve ?_ _ | refine HSub.put ?_ (by omega) _)); done) | fail) only [↓wpPre, wpPost, wpPoly, Int.reduceToNat, Int.reducePow, Int.reduceMul, Int.reduceAdd, Int.reduceSub, Int.reduceNeg, Nat.reduceAdd, Nat.reduceMul, Nat.reducePow, Int.reduceLT, Int.reduceLE, Int.reduceEq, Nat.reduceEqDiff]
        refine wp_loopI (fun j t h' => h' = h2 ∧ t 0 = va ∧ t 1 = vb ∧ ∃ i : Nat, t 7 = .int .i64 (i : Nat) ∧ i ≤ b.length ∧ (b.take i).any bigs = false ∧ j = b.length - i) (j0 := b.length) ⟨rfl, e0, e1, 0, rfl, by omega, by simp, rfl⟩ ?_
        rintro j t h3 ⟨hh, e0, e1, i, e7, hi, hp2, hj⟩
        subst hh
        simp -implicitDefEqProofs (disch := first | assumption | decide | omega | (simp -implicitDefEqProofs only [wpD1] <;> omega) | (refine not_in_one ?_; first | omega | (simp -implicitDefEqProofs only [wpD1] <;> omega) | fail) | (simp -implicitDefEqProofs only [wpD2] <;> assumption) | ((repeat (first | exact HSub.refl _ | assumption | refine HSub.push ?_ _ | refine HSub.reserve ?_ _ | refine HSub.put ?_ (by omega) _)); done) | fail) only [↓wpPre, wpPost, wpPoly, Int.reduceToNat, Int.reducePow, Int.reduceMul, Int.reduceAdd, Int.reduceSub, Int.reduceNeg, Nat.reduceAdd, Nat.reduceMul, Nat.reducePow, Int.reduceLT, Int.reduceLE, Int.reduceEq, Nat.reduceEqDiff, e1, e7, hb.len]
        refine Br.by (fun c2 => ?_) (fun c2 => ?_)
        · have hi' : i < b.length := by omega
          have kk := key (vw := va) hi' hp2
          simp -implicitDefEqProofs (disch := first | assumption | decide | omega | (simp -implicitDefEqProofs only [wpD1] <;> omega) | (refine not_in_one ?_; first | omega | (simp -implicitDefEqProofs only [wpD1] <;> omega) | fail) | (simp -implicitDefEqProofs only [wpD2] <;> assumption) | ((repeat (first | exact HSub.refl _ | assumption | refine HSub.push ?_ _ | refine HSub.reserve ?_ _ | refine HSub.put ?_ (by omega) _)); done) | fail) only [↓wpPre, wpPost, wpPoly, Int.reduceToNat, Int.reducePow, Int.reduceMul, Int.reduceAdd, Int.reduceSub, Int.reduceNeg, Nat.reduceAdd, Nat.reduceMul, Nat.reducePow, Int.reduceLT, Int.reduceLE, Int.reduceEq, Nat.reduceEqDiff, e1, e7, hb.idx, hb.load]
          refine Br.by (fun c3 => ?_) (fun c3 => ?_)
          · rw [if_pos (.inr (kk.1 (.inl c3)))]
            simp -implicitDefEqProofs (disch := first | assumption | decide | omega | (simp -implicitDefEqProofs only [wpD1] <;> omega) | (refine not_in_one ?_; first | omega | (simp -implicitDefEqProofs only [wpD1] <;> omega) | fail) | (simp -implicitDefEqProofs only [wpD2] <;> assumption) | ((repeat (first | exact HSub.refl _ | assumption | refine HSub.push ?_ _ | refine HSub.reserve ?_ _ | refine HSub.put ?_ (by omega) _)); done) | fail) only [↓wpPre, wpPost, wpPoly, Int.reduceToNat, Int.reducePow, Int.reduceMul, Int.reduceAdd, Int.reduceSub, Int.reduceNeg, Nat.reduceAdd, Nat.reduceMul, Nat.reducePow, Int.reduceLT, Int.reduceLE, Int.reduceEq, Nat.reduceEqDiff]
            rfl
          · simp -implicitDefEqProofs (disch := first | assumption | decide | omega | (simp -implicitDefEqProofs only [wpD1] <;> omega) | (refine not_in_one ?_; first | omega | (simp -implicitDefEqProofs only [wpD1] <;> omega) | fail) | (simp -implicitDefEqProofs only [wpD2] <;> assumption) | ((repeat (first | exact HSub.refl _ | assumption | refine HSub.push ?_ _ | refine HSub.reserve ?_ _ | refine HSub.put ?_ (by omega) _)); done) | fail) only [↓wpPre, wpPost, wpPoly, Int.reduceToNat, Int.reducePow, Int.reduceMul, Int.reduceAdd, Int.reduceSub, Int.reduceNeg, Nat.reduceAdd, Nat.reduceMul, Nat.reducePow, Int.reduceLT, Int.reduceLE, Int.reduceEq, Nat.reduceEqDiff, e1, e7, hb.idx, hb.load]
            refine Br.by (fun c4 => ?_) (fun c4 => ?_)
            · rw [if_pos (.inr (kk.1 (.inr c4)))]
              simp -implicitDefEqProofs (disch := first | assumption | decide | omega | (simp -implicitDefEqProofs only [wpD1] <;> omega) | (refine not_in_one ?_; first | omega | (simp -implicitDefEqProofs only [wpD1] <;> omega) | fail) | (simp -implicitDefEqProofs only [wpD2] <;> assumption) | ((repeat (first | exact HSub.refl _ | assumption | refine HSub.push ?_ _ | refine HSub.reserve ?_ _ | refine HSub.put ?_ (by omega) _)); done) | fail) only [↓wpPre, wpPost, wpPoly, Int.reduceToNat, Int.reducePow, Int.reduceMul, Int.reduceAdd, Int.reduceSub, Int.reduceNeg, Nat.reduceAdd, Nat.reduceMul, Nat.reducePow, Int.reduceLT, Int.reduceLE, Int.reduceEq, Nat.reduceEqDiff]
              rfl
            · simp -implicitDefEqProofs (disch := first | assumption | decide | omega | (simp -implicitDefEqProofs only [wpD1] <;> omega) | (refine not_in_one ?_; first | omega | (simp -implicitDefEqProofs only [wpD1] <;> omega) | fail) | (simp -implicitDefEqProofs only [wpD2] <;> assumption) | ((repeat (first | exact HSub.refl _ | assumption | refine HSub.push ?_ _ | refine HSub.reserve ?_ _ | refine HSub.put ?_ (by omega) _)); done) | fail) only [↓wpPre, wpPost, wpPoly, Int.reduceToNat, Int.reducePow, Int.reduceMul, Int.reduceAdd, Int.reduceSub, Int.reduceNeg, Nat.reduceAdd, Nat.reduceMul, Nat.reducePow, Int.reduceLT, Int.reduceLE, Int.reduceEq, Nat.reduceEqDiff, e0, e1, e7]
              exact ⟨_, ⟨i + 1, by simp, by omega, kk.2 (by omega), rfl⟩, by omega⟩
        · have : i = b.length := by omega
          subst this
          rw [List.take_length] at hp2
          have sa := small_of hp
          have sb := small_of hp2
          rw [if_neg (by rw [hp, hp2]; simp)]
          simp -implicitDefEqProofs (disch := first | assumption | decide | omega | (simp -implicitDefEqProofs only [wpD1] <;> omega) | (refine not_in_one ?_; first | omega | (simp -implicitDefEqProofs only [wpD1] <;> omega) | fail) | (simp -implicitDefEqProofs only [wpD2] <;> assumption) | ((repeat (first | exact HSub.refl _ | assumption | refine HSub.push ?_ _ | refine HSub.reserve ?_ _ | refine HSub.put ?_ (by omega) _)); done) | fail) only [↓wpPre, wpPost, wpPoly, Int.reduceToNat, Int.reducePow, Int.reduceMul, Int.reduceAdd, Int.reduceSub, Int.reduceNeg, Nat.reduceAdd, Nat.reduceMul, Nat.reducePow, Int.reduceLT, Int.reduceLE, Int.reduceEq, Nat.reduceEqDiff, e0, e1]
          refine ACallsK.eq (weight_spec (hC.sub (T' := T40) (by decide)) ha hb sa sb (by omega)) ?_
          simp -implicitDefEqProofs (disch := first | assumption | decide | omega | (simp -implicitDefEqProofs only [wpD1] <;> omega) | (refine not_in_one ?_; first | omega | (simp -implicitDefEqProofs only [wpD1] <;> omega) | fail) | (simp -implicitDefEqProofs only [wpD2] <;> assumption) | ((repeat (first | exact HSub.refl _ | assumption | refine HSub.push ?_ _ | refine HSub.reserve ?_ _ | refine HSub.put ?_ (by omega) _)); done) | fail) only [↓wpPre, wpPost, wpPoly, Int.reduceToNat, Int.reducePow, Int.reduceMul, Int.reduceAdd, Int.reduceSub, Int.reduceNeg, Nat.reduceAdd, Nat.reduceMul, Nat.reducePow, Int.reduceLT, Int.reduceLE, Int.reduceEq, Nat.reduceEqDiff]
          refine Br.by (fun c5 => ?_) (fun c5 => ?_)
          · rw [if_pos c5]
            simp -implicitDefEqProofs (disch := first | assumption | decide | omega | (simp -implicitDefEqProofs only [wpD1] <;> omega) | (refine not_in_one ?_; first | omega | (simp -implicitDefEqProofs only [wpD1] <;> omega) | fail) | (simp -implicitDefEqProofs only [wpD2] <;> assumption) | ((repeat (first | exact HSub.refl _ | assumption | refine HSub.push ?_ _ | refine HSub.reserve ?_ _ | refine HSub.put ?_ (by omega) _)); done) | fail) only [↓wpPre, wpPost, wpPoly, Int.reduceToNat, Int.reducePow, Int.reduceMul, Int.reduceAdd, Int.reduceSub, Int.reduceNeg, Nat.reduceAdd, Nat.reduceMul, Nat.reducePow, Int.reduceLT, Int.reduceLE, Int.reduceEq, Nat.reduceEqDiff]
            rfl
          · rw [if_neg c5]
            have e2 : ((a.length : Int) + b.length - 1).toNat = a.length + b.length - 1 := by omega
            simp -implicitDefEqProofs (disch := first | assumption | decide | omega | (simp -implicitDefEqProofs only [wpD1] <;> omega) | (refine not_in_one ?_; first | omega | (simp -implicitDefEqProofs only [wpD1] <;> omega) | fail) | (simp -implicitDefEqProofs only [wpD2] <;> assumption) | ((repeat (first | exact HSub.refl _ | assumption | refine HSub.push ?_ _ | refine HSub.reserve ?_ _ | refine HSub.put ?_ (by omega) _)); done) | fail) only [↓wpPre, wpPost, wpPoly, Int.reduceToNat, Int.reducePow, Int.reduceMul, Int.reduceAdd, Int.reduceSub, Int.reduceNeg, Nat.reduceAdd, Nat.reduceMul, Nat.reducePow, Int.reduceLT, Int.reduceLE, Int.reduceEq, Nat.reduceEqDiff, e0, e1, ha.len, hb.len, e2, ints_replicate]
            have l1 := ha.lt
            have l2 := hb.lt
            have s2 := sumAbs_nonneg a
            have s4 := maxAbs_nonneg b
            have hN : ∀ f : Nat → Int, ((List.range (a.length + b.length - 1)).map f).length = a.length + b.length - 1 := fun f => by simp
            have hbd : ∀ i n, i ≤ a.length → -499122176 ≤ cfs a b i n ∧ cfs a b i n ≤ 499122176 := fun i n hi => by
              have h1 := cfs_abs a b n i hi
              have h2 : sumAbs (a.take i) * maxAbs b ≤ sumAbs a * maxAbs b := Int.mul_le_mul_of_nonneg_right (sumAbs_take_le a i) s4
              exact ⟨by have := absI_le (Int.le_trans h1 h2); omega, by have := absI_le (Int.le_trans h1 h2); omega⟩
            refine wp_loopI (fun j t h' => ∃ i : Nat, h' = h3.push (.cells (ints ((List.range (a.length + b.length - 1)).map (cfs a b i))) true 0) ∧ t 0 = va ∧ t 1 = vb ∧ t 8 = .slice h3.size 0 (a.length + b.length - 1) (.known (a.length + b.length - 1)) ∧ t 9 = .int .i64 (i : Nat) ∧ i ≤ a.length ∧ j = a.length - i) (j0 := a.length)
              ⟨0, ?_, e0, e1, rfl, rfl, by omega, rfl⟩ ?_
            · have : (List.range (a.length + b.length - 1)).map (cfs a b 0) = List.replicate (a.length + b.length - 1) 0 := by
                have : cfs a b 0 = fun _ => 0 := rfl
                rw [this, List.map_const', List.length_range]
              rw [this]
            rintro j t h4 ⟨i, rfl, e0, e1, e8, e9, hi, hj⟩
            simp -implicitDefEqProofs (disch := first | assumption | decide | omega | (simp -implicitDefEqProofs only [wpD1] <;> omega) | (refine not_in_one ?_; first | omega | (simp -implicitDefEqProofs only [wpD1] <;> omega) | fail) | (simp -implicitDefEqProofs only [wpD2] <;> assumption) | ((repeat (first | exact HSub.refl _ | assumption | refine HSub.push ?_ _ | refine HSub.reserve ?_ _ | refine HSub.put ?_ (by omega) _)); done) | fail) only [↓wpPre, wpPost, wpPoly, Int.reduceToNat, Int.reducePow, Int.reduceMul, Int.reduceAdd, Int.reduceSub, Int.reduceNeg, Nat.reduceAdd, Nat.reduceMul, Nat.reducePow, Int.reduceLT, Int.reduceLE, Int.reduceEq, Nat.reduceEqDiff, e0, e9, ha.len]
            refine Br.by (fun c6 => ?_) (fun c6 => ?_)
            · have hi' : i < a.length := by omega
              simp -implicitDefEqProofs (disch := first | assumption | decide | omega | (simp -implicitDefEqProofs only [wpD1] <;> omega) | (refine not_in_one ?_; first | omega | (simp -implicitDefEqProofs only [wpD1] <;> omega) | fail) | (simp -implicitDefEqProofs only [wpD2] <;> assumption) | ((repeat (first | exact HSub.refl _ | assumption | refine HSub.push ?_ _ | refine HSub.reserve ?_ _ | refine HSub.put ?_ (by omega) _)); done) | fail) only [↓wpPre, wpPost, wpPoly, Int.reduceToNat, Int.reducePow, Int.reduceMul, Int.reduceAdd, Int.reduceSub, Int.reduceNeg, Nat.reduceAdd, Nat.reduceMul, Nat.reducePow, Int.reduceLT, Int.reduceLE, Int.reduceEq, Nat.reduceEqDiff]
              refine wp_loopI (fun j t h' => ∃ k : Nat, h' = h3.push (.cells (ints ((List.range (a.length + b.length - 1)).map (cfk a b i k))) true 0) ∧ t 0 = va ∧ t 1 = vb ∧ t 8 = .slice h3.size 0 (a.length + b.length - 1) (.known (a.length + b.length - 1)) ∧ t 9 = .int .i64 (i : Nat) ∧ t 10 = .int .i64 (k : Nat) ∧ k ≤ b.length ∧ j = b.length - k) (j0 := b.length)
                ⟨0, by rw [cfk_zero], e0, e1, e8, e9, rfl, by omega, rfl⟩ ?_
              rintro j t h5 ⟨k, rfl, e0, e1, e8, e9, e10, hk, hj⟩
              simp -implicitDefEqProofs (disch := first | assumption | decide | omega | (simp -implicitDefEqProofs only [wpD1] <;> omega) | (refine not_in_one ?_; first | omega | (simp -implicitDefEqProofs only [wpD1] <;> omega) | fail) | (simp -implicitDefEqProofs only [wpD2] <;> assumption) | ((repeat (first | exact HSub.refl _ | assumption | refine HSub.push ?_ _ | refine HSub.reserve ?_ _ | refine HSub.put ?_ (by omega) _)); done) | fail) only [↓wpPre, wpPost, wpPoly, Int.reduceToNat, Int.reducePow, Int.reduceMul, Int.reduceAdd, Int.reduceSub, Int.reduceNeg, Nat.reduceAdd, Nat.reduceMul, Nat.reducePow, Int.reduceLT, Int.reduceLE, Int.reduceEq, Nat.reduceEqDiff, e1, e10, hb.len]
              refine Br.by (fun c7 => ?_) (fun c7 => ?_)
              · have hk' : k < b.length := by omega
                have b1 := hbd i (i + k) (by omega)
                have b2 := sa _ (getD_mem hi')
                have b3 := sb _ (getD_mem hk')
                have b4 : absI (a.getD i 0 * b.getD k 0) ≤ 1000000 * 1000000 := by
                  rw [absI_mul]
                  exact Int.mul_le_mul (small_abs sa hi') (small_abs sb hk') (absI_nonneg _) (by omega)
                have b5 := absI_le b4
                have e3 : ((i : Int) + k).toNat = i + k := by omega
                have g : ((List.range (a.length + b.length - 1)).map (cfk a b i k)).getD (i + k) 0 = cfs a b i (i + k) := by rw [range_get (by omega), cfk_at]
                have hNk := hN (cfk a b i k)
                simp -implicitDefEqProofs (disch := first | assumption | decide | omega | (simp -implicitDefEqProofs only [wpD1] <;> omega) | (refine not_in_one ?_; first | omega | (simp -implicitDefEqProofs only [wpD1] <;> omega) | fail) | (simp -implicitDefEqProofs only [wpD2] <;> assumption) | ((repeat (first | exact HSub.refl _ | assumption | refine HSub.push ?_ _ | refine HSub.reserve ?_ _ | refine HSub.put ?_ (by omega) _)); done) | fail) only [↓wpPre, wpPost, wpPoly, Int.reduceToNat, Int.reducePow, Int.reduceMul, Int.reduceAdd, Int.reduceSub, Int.reduceNeg, Nat.reduceAdd, Nat.reduceMul, Nat.reducePow, Int.reduceLT, Int.reduceLE, Int.reduceEq, Nat.reduceEqDiff, e0, e1, e8, e9, e10, ha.idx, hb.idx, ha.loadC, hb.loadC, e3, g]
                refine ⟨_, ⟨k + 1, ?_, by simp, by omega, rfl⟩, by omega⟩
                rw [range_set cfk_step (fun n hn => cfk_other hn)]
              · have : k = b.length := by omega
                subst this
                rw [cfk_full]
                simp -implicitDefEqProofs (disch := first | assumption | decide | omega | (simp -implicitDefEqProofs only [wpD1] <;> omega) | (refine not_in_one ?_; first | omega | (simp -implicitDefEqProofs only [wpD1] <;> omega) | fail) | (simp -implicitDefEqProofs only [wpD2] <;> assumption) | ((repeat (first | exact HSub.refl _ | assumption | refine HSub.push ?_ _ | refine HSub.reserve ?_ _ | refine HSub.put ?_ (by omega) _)); done) | fail) only [↓wpPre, wpPost, wpPoly, Int.reduceToNat, Int.reducePow, Int.reduceMul, Int.reduceAdd, Int.reduceSub, Int.reduceNeg, Nat.reduceAdd, Nat.reduceMul, Nat.reducePow, Int.reduceLT, Int.reduceLE, Int.reduceEq, Nat.reduceEqDiff, e0, e1, e8, e9]
                exact ⟨_, ⟨i + 1, rfl, by simp, by omega, rfl⟩, by omega⟩
            · have : i = a.length := by omega
              subst this
              simp -implicitDefEqProofs (disch := first | assumption | decide | omega | (simp -implicitDefEqProofs only [wpD1] <;> omega) | (refine not_in_one ?_; first | omega | (simp -implicitDefEqProofs only [wpD1] <;> omega) | fail) | (simp -implicitDefEqProofs only [wpD2] <;> assumption) | ((repeat (first | exact HSub.refl _ | assumption | refine HSub.push ?_ _ | refine HSub.reserve ?_ _ | refine HSub.put ?_ (by omega) _)); done) | fail) only [↓wpPre, wpPost, wpPoly, Int.reduceToNat, Int.reducePow, Int.reduceMul, Int.reduceAdd, Int.reduceSub, Int.reduceNeg, Nat.reduceAdd, Nat.reduceMul, Nat.reducePow, Int.reduceLT, Int.reduceLE, Int.reduceEq, Nat.reduceEqDiff, e8]
              have e4 := convL_length a b
              exact ⟨_, rfl, HSub.push1 _ _, by omega, h3.size, Nat.le_refl _, by rw [e4], get_push_eq rfl⟩
end
end Go.Ae

/- Circular sums of the reference of layer 9. -/
set_option linter.unusedSimpArgs false
set_option linter.unusedVariables false
namespace Go.Ae

/-- The first i summands of the circular sum k. -/
def cs (a b : List Int) (k : Nat) : Nat → Int
  | 0 => 0
  | i + 1 => cs a b k i + a.getD i 0 * b.getD ((i + k) % b.length) 0
def circ (a b : List Int) : List Int := (List.range a.length).map fun k => cs a b k a.length
theorem circ_length (a b : List Int) : (circ a b).length = a.length := by simp [circ]
theorem cs_abs (a b : List Int) (k : Nat) (hb : 1 ≤ b.length) : ∀ i, i ≤ a.length → absI (cs a b k i) ≤ sumAbs (a.take i) * maxAbs b
  | 0, _ => by simp [cs, absI, sumAbs]
  | i + 1, hi => by
    have ih := cs_abs a b k hb i (by omega)
    have h2 := absI_add (cs a b k i) (a.getD i 0 * b.getD ((i + k) % b.length) 0)
    have h3 : absI (a.getD i 0 * b.getD ((i + k) % b.length) 0) ≤ absI (a.getD i 0) * maxAbs b := by
      rw [absI_mul]
      exact Int.mul_le_mul_of_nonneg_left (maxAbs_le (getD_mem (Nat.mod_lt _ (by omega)))) (absI_nonneg _)
    rw [sumAbs_take (by omega), Int.add_mul]
    simp only [cs]; omega

/-- The circular sums before k, then k's own first i summands, then zeros. -/
def cpre (a b : List Int) (k i n : Nat) : Int := if n < k then cs a b n a.length else if n = k then cs a b k i else 0

section
variable {C : Ctx}
theorem circular_spec (hC : Has C T55) {va vb : AV} {a b : List Int} {h : Heap} (ha : RI h va a) (hb : RI h vb b) (hl : a.length = b.length ∧ a.length ≤ 8192) (sa : small a) (sb : small b) :
    ACalls C 55 [va, vb] h (fun r h' => Fresh h h' r (circ a b)) := by
  have l1 := ha.lt
  have s1 := sumAbs_small sa
  have s2 := sumAbs_nonneg a
  have s3 := maxAbs_small sb
  have s4 := maxAbs_nonneg b
  have p2 : sumAbs a * maxAbs b ≤ 8192000000 * 1000000 := Int.mul_le_mul (by omega) s3 s4 (by omega)
  have hN : ∀ f : Nat → Int, ((List.range a.length).map f).length = a.length := fun f => by simp
  (refine calls_intro (hC.body (by decide) tab55) (Nat.le_of_ble_eq_true rfl) ?_); (show wp C _ none B55.code _ _); (simp only [B55]); simp -implicitDefEqProofs (disch := first | assumption | decide | omega | (simp -implicitDefEqProofs only [wpD1] <;> omega) | (refine not_in_one ?_; first | omega | (simp -implicitDefEqProofs only [wpD1] <;> omega) | fail) | (simp -implicitDefEqProofs only [wpD2] <;> assumption) | ((repeat (first | exact HSub.refl _ | assumption | refine HSub.push ?_ _ | refine HSub.reserve ?_ _ | refine HSub.put ?_ (by omega) _)); done) | fail) only [↓wpPre, wpPost, wpPoly, Int.reduceToNat, Int.reducePow, Int.reduceMul, Int.reduceAdd, Int.reduceSub, Int.reduceNeg, Nat.reduceAdd, Nat.reduceMul, Nat.reducePow, Int.reduceLT, Int.reduceLE, Int.reduceEq, Nat.reduceEqDiff, ha.len, ints_replicate]
  refine wp_loopI (fun j t h' => ∃ k : Nat, h' = h.push (.cells (ints ((List.range a.length).map (cpre a b k 0))) true 0) ∧ t 0 = va ∧ t 1 = vb ∧ t 5 = .slice h.size 0 a.length (.known a.length) ∧ t 6 = .int .i64 (k : Nat) ∧ k ≤ a.length ∧ j = a.length - k) (j0 := a.length)
    ⟨0, ?_, rfl, rfl, rfl, rfl, by omega, rfl⟩ ?_
  · have e : (List.range a.length).map (cpre a b 0 0) = List.replicate a.length 0 := by
      have : cpre a b 0 0 = fun _ => 0 := by funext n; simp [cpre, cs]
      rw [this, List.map_const', List.length_range]
    rw [e]
  rintro j t h2 ⟨k, rfl, e0, e1, e5, e6, hk, hj⟩
  simp -implicitDefEqProofs (disch := first | assumption | decide | omega | (simp -implicitDefEqProofs only [wpD1] <;> omega) | (refine not_in_one ?_; first | omega | (simp -implicitDefEqProofs only [wpD1] <;> omega) | fail) | (simp -implicitDefEqProofs only [wpD2] <;> assumption) | ((repeat (first | exact HSub.refl _ | assumption | refine HSub.push ?_ _ | refine HSub.reserve ?_ _ | refine HSub.put ?_ (by omega) _)); done) | fail) only [↓wpPre, wpPost, wpPoly, Int.reduceToNat, Int.reducePow, Int.reduceMul, Int.reduceAdd, Int.reduceSub, Int.reduceNeg, Nat.reduceAdd, Nat.reduceMul, Nat.reducePow, Int.reduceLT, Int.reduceLE, Int.reduceEq, Nat.reduceEqDiff, e0, e6, ha.len]
  refine Br.by (fun c => ?_) (fun c => ?_)
  · have hk' : k < a.length := by omega
    simp -implicitDefEqProofs (disch := first | assumption | decide | omega | (simp -implicitDefEqProofs only [wpD1] <;> omega) | (refine not_in_one ?_; first | omega | (simp -implicitDefEqProofs only [wpD1] <;> omega) | fail) | (simp -implicitDefEqProofs only [wpD2] <;> assumption) | ((repeat (first | exact HSub.refl _ | assumption | refine HSub.push ?_ _ | refine HSub.reserve ?_ _ | refine HSub.put ?_ (by omega) _)); done) | fail) only [↓wpPre, wpPost, wpPoly, Int.reduceToNat, Int.reducePow, Int.reduceMul, Int.reduceAdd, Int.reduceSub, Int.reduceNeg, Nat.reduceAdd, Nat.reduceMul, Nat.reducePow, Int.reduceLT, Int.reduceLE, Int.reduceEq, Nat.reduceEqDiff]
    refine wp_loopI (fun j t h' => ∃ i : Nat, h' = h.push (.cells (ints ((List.range a.length).map (cpre a b k i))) true 0) ∧ t 0 = va ∧ t 1 = vb ∧ t 5 = .slice h.size 0 a.length (.known a.length) ∧ t 6 = .int .i64 (k : Nat) ∧ t 7 = .int .i64 (i : Nat) ∧ i ≤ a.length ∧ j = a.length - i) (j0 := a.length)
      ⟨0, rfl, e0, e1, e5, e6, rfl, by omega, rfl⟩ ?_
    rintro j t h3 ⟨i, rfl, e0, e1, e5, e6, e7, hi, hj⟩
    simp -implicitDefEqProofs (disch := first | assumption | decide | omega | (simp -implicitDefEqProofs only [wpD1] <;> omega) | (refine not_in_one ?_; first | omega | (simp -implicitDefEqProofs only [wpD1] <;> omega) | fail) | (simp -implicitDefEqProofs only [wpD2] <;> assumption) | ((repeat (first | exact HSub.refl _ | assumption | refine HSub.push ?_ _ | refine HSub.reserve ?_ _ | refine HSub.put ?_ (by omega) _)); done) | fail) only [↓wpPre, wpPost, wpPoly, Int.reduceToNat, Int.reducePow, Int.reduceMul, Int.reduceAdd, Int.reduceSub, Int.reduceNeg, Nat.reduceAdd, Nat.reduceMul, Nat.reducePow, Int.reduceLT, Int.reduceLE, Int.reduceEq, Nat.reduceEqDiff, e0, e7, ha.len]
    refine Br.by (fun c2 => ?_) (fun c2 => ?_)
    · have hi' : i < a.length := by omega
      have hm : (i + k) % b.length < b.length := Nat.mod_lt _ (by omega)
      have b1 := absI_le (Int.le_trans (cs_abs a b k (by omega) i hi) (Int.mul_le_mul_of_nonneg_right (sumAbs_take_le a i) s4))
      have b4 : absI (a.getD i 0 * b.getD ((i + k) % b.length) 0) ≤ 1000000 * 1000000 := by
        rw [absI_mul]
        exact Int.mul_le_mul (small_abs sa hi') (small_abs sb hm) (absI_nonneg _) (by omega)
      have b5 := absI_le b4
      have e3 : ((i : Int) + k) % b.length = (((i + k) % b.length : Nat) : Int) := by
        rw [← Int.natCast_add]; exact (Int.natCast_emod _ _).symm
      have g : ((List.range a.length).map (cpre a b k i)).getD k 0 = cs a b k i := by rw [range_get hk']; simp [cpre]
      have hNk := hN (cpre a b k i)
      generalize hq : (i + k) % b.length = q at hm b4 b5 e3
      simp -implicitDefEqProofs (disch := first | assumption | decide | omega | (simp -implicitDefEqProofs only [wpD1] <;> omega) | (refine not_in_one ?_; first | omega | (simp -implicitDefEqProofs only [wpD1] <;> omega) | fail) | (simp -implicitDefEqProofs only [wpD2] <;> assumption) | ((repeat (first | exact HSub.refl _ | assumption | refine HSub.push ?_ _ | refine HSub.reserve ?_ _ | refine HSub.put ?_ (by omega) _)); done) | fail) only [↓wpPre, wpPost, wpPoly, Int.reduceToNat, Int.reducePow, Int.reduceMul, Int.reduceAdd, Int.reduceSub, Int.reduceNeg, Nat.reduceAdd, Nat.reduceMul, Nat.reducePow, Int.reduceLT, Int.reduceLE, Int.reduceEq, Nat.reduceEqDiff, e0, e1, e5, e6, e7, ha.idx, hb.idx, hb.len, ha.loadC, hb.loadC, e3, g]
      refine ⟨_, ⟨i + 1, ?_, by simp, by omega, rfl⟩, by omega⟩
      rw [range_set (g := cpre a b k (i + 1)) (by simp [cpre, cs, hq]) (fun n hn => by simp only [cpre, if_neg hn])]
    · have : i = a.length := by omega
      subst this
      have e : cpre a b k a.length = cpre a b (k + 1) 0 := by
        funext n
        simp only [cpre]
        by_cases h1 : n < k
        · rw [if_pos h1, if_pos (by omega)]
        · rw [if_neg h1]
          by_cases h2 : n = k
          · rw [if_pos h2, if_pos (by omega), h2]
          · rw [if_neg h2, if_neg (by omega)]; simp [cs]
      rw [e]
      simp -implicitDefEqProofs (disch := first | assumption | decide | omega | (simp -implicitDefEqProofs only [wpD1] <;> omega) | (refine not_in_one ?_; first | omega | (simp -implicitDefEqProofs only [wpD1] <;> omega) | fail) | (simp -implicitDefEqProofs only [wpD2] <;> assumption) | ((repeat (first | exact HSub.refl _ | assumption | refine HSub.push ?_ _ | refine HSub.reserve ?_ _ | refine HSub.put ?_ (by omega) _)); done) | fail) only [↓wpPre, wpPost, wpPoly, Int.reduceToNat, Int.reducePow, Int.reduceMul, Int.reduceAdd, Int.reduceSub, Int.reduceNeg, Nat.reduceAdd, Nat.reduceMul, Nat.reducePow, Int.reduceLT, Int.reduceLE, Int.reduceEq, Nat.reduceEqDiff, e0, e1, e5, e6]
      exact ⟨_, ⟨k + 1, rfl, by simp, by omega, rfl⟩, by omega⟩
  · have : k = a.length := by omega
    subst this
    simp -implicitDefEqProofs (disch := first | assumption | decide | omega | (simp -implicitDefEqProofs only [wpD1] <;> omega) | (refine not_in_one ?_; first | omega | (simp -implicitDefEqProofs only [wpD1] <;> omega) | fail) | (simp -implicitDefEqProofs only [wpD2] <;> assumption) | ((repeat (first | exact HSub.refl _ | assumption | refine HSub.push ?_ _ | refine HSub.reserve ?_ _ | refine HSub.put ?_ (by omega) _)); done) | fail) only [↓wpPre, wpPost, wpPoly, Int.reduceToNat, Int.reducePow, Int.reduceMul, Int.reduceAdd, Int.reduceSub, Int.reduceNeg, Nat.reduceAdd, Nat.reduceMul, Nat.reducePow, Int.reduceLT, Int.reduceLE, Int.reduceEq, Nat.reduceEqDiff, e5]
    have e : (List.range a.length).map (cpre a b a.length 0) = circ a b := by
      refine List.map_congr_left fun n hn => ?_
      rw [List.mem_range] at hn
      simp only [cpre, if_pos hn]
    rw [e]
    exact ⟨HSub.push1 _ _, by rw [circ_length]; omega, h.size, Nat.le_refl _, by rw [circ_length], get_push_eq rfl⟩
end
end Go.Ae

/- Circular of the references. -/
set_option linter.unusedSimpArgs false
set_option linter.unusedVariables false
namespace Go.Ae

/-- The error of circular sums. -/
def circErr (a b : List Int) : Int :=
  if a.length = 0 then 3 else if 8192 < a.length then 4 else if a.length ≠ b.length then 10 else if a.any bigs = true ∨ b.any bigs = true then 2 else 0

section
variable {C : Ctx}
theorem Circ09_spec (hC : Has C T44) {va vb : AV} {a b : List Int} {h : Heap} (ha : RI h va a) (hb : RI h vb b) :
    ACalls C 44 [va, vb] h (fun r h' => ∃ v', r = lstErr v' (circErr a b) ∧ HSub h h' ∧ RI h' v' (if circErr a b = 0 then circ a b else [])) := by
  have l1 := ha.lt
  have l2 := hb.lt
  have fin : ∀ e, circErr a b = e → e ≠ 0 → ∃ v', AV.tuple [.nilslice, .int .i64 e] = lstErr v' (circErr a b) ∧ HSub h h ∧ RI h v' (if circErr a b = 0 then circ a b else []) := fun e h0 he => ⟨.nilslice, by rw [h0, lstErr], HSub.refl _, by rw [if_neg (by rw [h0]; exact he)]; exact RI.nil⟩
  have pe : circErr a b = if a.length = 0 then 3 else if 8192 < a.length then 4 else if a.length ≠ b.length then 10 else if a.any bigs = true ∨ b.any bigs = true then 2 else 0 := rfl
  by_cases c0 : a.length = 0
  · rw [if_pos c0] at pe
    (refine calls_intro (hC.body (by decide) tab44) (Nat.le_of_ble_eq_true rfl) ?_); (show wp C _ none B44.code _ _); (simp only [B44]); simp -implicitDefEqProofs (disch := first | assumption | decide | omega | (simp -implicitDefEqProofs only [wpD1] <;> omega) | (refine not_in_one ?_; first | omega | (simp -implicitDefEqProofs only [wpD1] <;> omega) | fail) | (simp -implicitDefEqProofs only [wpD2] <;> assumption) | ((repeat (first | exact HSub.refl _ | assumption | refine HSub.push ?_ _ | refine HSub.reserve ?_ _ | refine HSub.put ?_ (by omega) _)); done) | fail) only [↓wpPre, wpPost, wpPoly, Int.reduceToNat, Int.reducePow, Int.reduceMul, Int.reduceAdd, Int.reduceSub, Int.reduceNeg, Nat.reduceAdd, Nat.reduceMul, Nat.reducePow, Int.reduceLT, Int.reduceLE, Int.reduceEq, Nat.reduceEqDiff, ha.len]
    exact fin 3 pe (by decide)
  rw [if_neg c0] at pe
  by_cases c1 : 8192 < a.length
  · rw [if_pos c1] at pe
    (refine calls_intro (hC.body (by decide) tab44) (Nat.le_of_ble_eq_true rfl) ?_); (show wp C _ none B44.code _ _); (simp only [B44]); simp -implicitDefEqProofs (disch := first | assumption | decide | omega | (simp -implicitDefEqProofs only [wpD1] <;> omega) | (refine not_in_one ?_; first | omega | (simp -implicitDefEqProofs only [wpD1] <;> omega) | fail) | (simp -implicitDefEqProofs only [wpD2] <;> assumption) | ((repeat (first | exact HSub.refl _ | assumption | refine HSub.push ?_ _ | refine HSub.reserve ?_ _ | refine HSub.put ?_ (by omega) _)); done) | fail) only [↓wpPre, wpPost, wpPoly, Int.reduceToNat, Int.reducePow, Int.reduceMul, Int.reduceAdd, Int.reduceSub, Int.reduceNeg, Nat.reduceAdd, Nat.reduceMul, Nat.reducePow, Int.reduceLT, Int.reduceLE, Int.reduceEq, Nat.reduceEqDiff, ha.len]
    exact fin 4 pe (by decide)
  rw [if_neg c1] at pe
  by_cases c2 : a.length ≠ b.length
  · rw [if_pos c2] at pe
    (refine calls_intro (hC.body (by decide) tab44) (Nat.le_of_ble_eq_true rfl) ?_); (show wp C _ none B44.code _ _); (simp only [B44]); simp -implicitDefEqProofs (disch := first | assumption | decide | omega | (simp -implicitDefEqProofs only [wpD1] <;> omega) | (refine not_in_one ?_; first | omega | (simp -implicitDefEqProofs only [wpD1] <;> omega) | fail) | (simp -implicitDefEqProofs only [wpD2] <;> assumption) | ((repeat (first | exact HSub.refl _ | assumption | refine HSub.push ?_ _ | refine HSub.reserve ?_ _ | refine HSub.put ?_ (by omega) _)); done) | fail) only [↓wpPre, wpPost, wpPoly, Int.reduceToNat, Int.reducePow, Int.reduceMul, Int.reduceAdd, Int.reduceSub, Int.reduceNeg, Nat.reduceAdd, Nat.reduceMul, Nat.reducePow, Int.reduceLT, Int.reduceLE, Int.reduceEq, Nat.reduceEqDiff, ha.len, hb.len]
    exact fin 10 pe (by decide)
  have c2' : a.length = b.length := by omega
  rw [if_neg c2] at pe
  (refine calls_intro (hC.body (by decide) tab44) (Nat.le_of_ble_eq_true rfl) ?_); (show wp C _ none B44.code _ _); (simp only [B44]); simp -implicitDefEqProofs (disch := first | assumption | decide | omega | (simp -implicitDefEqProofs only [wpD1] <;> omega) | (refine not_in_one ?_; first | omega | (simp -implicitDefEqProofs only [wpD1] <;> omega) | fail) | (simp -implicitDefEqProofs only [wpD2] <;> assumption) | ((repeat (first | exact HSub.refl _ | assumption | refine HSub.push ?_ _ | refine HSub.reserve ?_ _ | refine HSub.put ?_ (by omega) _)); done) | fail) only [↓wpPre, wpPost, wpPoly, Int.reduceToNat, Int.reducePow, Int.reduceMul, Int.reduceAdd, Int.reduceSub, Int.reduceNeg, Nat.reduceAdd, Nat.reduceMul, Nat.reducePow, Int.reduceLT, Int.reduceLE, Int.reduceEq, Nat.reduceEqDiff, ha.len, hb.len]
  refine wp_loopI (fun j t h' => h' = h ∧ t 0 = va ∧ t 1 = vb ∧ ∃ i : Nat, t 6 = .int .i64 (i : Nat) ∧ i ≤ a.length ∧ (a.take i).any bigs = false ∧ (b.take i).any bigs = false ∧ j = a.length - i) (j0 := a.length) ⟨rfl, rfl, rfl, 0, rfl, by omega, by simp, by simp, rfl⟩ ?_
  rintro j t h2 ⟨hh, e0, e1, i, e6, hi, hp, hp2, hj⟩
  subst hh
  simp -implicitDefEqProofs (disch := first | assumption | decide | omega | (simp -implicitDefEqProofs only [wpD1] <;> omega) | (refine not_in_one ?_; first | omega | (simp -implicitDefEqProofs only [wpD1] <;> omega) | fail) | (simp -implicitDefEqProofs only [wpD2] <;> assumption) | ((repeat (first | exact HSub.refl _ | assumption | refine HSub.push ?_ _ | refine HSub.reserve ?_ _ | refine HSub.put ?_ (by omega) _)); done) | fail) only [↓wpPre, wpPost, wpPoly, Int.reduceToNat, Int.reducePow, Int.reduceMul, Int.reduceAdd, Int.reduceSub, Int.reduceNeg, Nat.reduceAdd, Nat.reduceMul, Nat.reducePow, Int.reduceLT, Int.reduceLE, Int.reduceEq, Nat.reduceEqDiff, e0, e6, ha.len]
  refine Br.by (fun c => ?_) (fun c => ?_)
  · have hi' : i < a.length := by omega
    have hib : i < b.length := by omega
    by_cases d : (a.getD i 0 < -1000000 ∨ 1000000 < a.getD i 0) ∨ (b.getD i 0 < -1000000 ∨ 1000000 < b.getD i 0)
    · have hbad : a.any bigs = true ∨ b.any bigs = true := by
        rcases d with d | d
        · exact .inl (List.any_eq_true.2 ⟨_, getD_mem hi', by simp only [bigs, decide_eq_true_eq]; exact d⟩)
        · exact .inr (List.any_eq_true.2 ⟨_, getD_mem hib, by simp only [bigs, decide_eq_true_eq]; exact d⟩)
      rw [if_pos hbad] at pe
      (repeat' (first | (refine Br.by (fun _ => ?_) (fun _ => ?_)) | (simp -implicitDefEqProofs (disch := first | assumption | decide | omega | (simp -implicitDefEqProofs only [wpD1] <;> omega) | (refine not_in_one ?_; first | omega | (simp -implicitDefEqProofs only [wpD1] <;> omega) | fail) | (simp -implicitDefEqProofs only [wpD2] <;> assumption) | ((repeat (first | exact HSub.refl _ | assumption | refine HSub.push ?_ _ | refine HSub.reserve ?_ _ | refine HSub.put ?_ (by omega) _)); done) | fail) only [↓wpPre, wpPost, wpPoly, Int.reduceToNat, Int.reducePow, Int.reduceMul, Int.reduceAdd, Int.reduceSub, Int.reduceNeg, Nat.reduceAdd, Nat.reduceMul, Nat.reducePow, Int.reduceLT, Int.reduceLE, Int.reduceEq, Nat.reduceEqDiff, e0, e1, e6, ha.idx, ha.load, hb.idx, hb.load])))
      all_goals first | exact fin 2 pe (by decide) | omega
    · simp -implicitDefEqProofs (disch := first | assumption | decide | omega | (simp -implicitDefEqProofs only [wpD1] <;> omega) | (refine not_in_one ?_; first | omega | (simp -implicitDefEqProofs only [wpD1] <;> omega) | fail) | (simp -implicitDefEqProofs only [wpD2] <;> assumption) | ((repeat (first | exact HSub.refl _ | assumption | refine HSub.push ?_ _ | refine HSub.reserve ?_ _ | refine HSub.put ?_ (by omega) _)); done) | fail) only [↓wpPre, wpPost, wpPoly, Int.reduceToNat, Int.reducePow, Int.reduceMul, Int.reduceAdd, Int.reduceSub, Int.reduceNeg, Nat.reduceAdd, Nat.reduceMul, Nat.reducePow, Int.reduceLT, Int.reduceLE, Int.reduceEq, Nat.reduceEqDiff, e0, e1, e6, ha.idx, ha.load, hb.idx, hb.load]
      exact ⟨_, ⟨i + 1, by simp, by omega, any_take_succ hi' hp (by simp only [bigs, decide_eq_false_iff_not]; omega), any_take_succ hib hp2 (by simp only [bigs, decide_eq_false_iff_not]; omega), rfl⟩, by omega⟩
  · have : i = a.length := by omega
    subst this
    rw [List.take_length] at hp
    rw [c2', List.take_length] at hp2
    rw [if_neg (by rw [hp, hp2]; simp)] at pe
    simp -implicitDefEqProofs (disch := first | assumption | decide | omega | (simp -implicitDefEqProofs only [wpD1] <;> omega) | (refine not_in_one ?_; first | omega | (simp -implicitDefEqProofs only [wpD1] <;> omega) | fail) | (simp -implicitDefEqProofs only [wpD2] <;> assumption) | ((repeat (first | exact HSub.refl _ | assumption | refine HSub.push ?_ _ | refine HSub.reserve ?_ _ | refine HSub.put ?_ (by omega) _)); done) | fail) only [↓wpPre, wpPost, wpPoly, Int.reduceToNat, Int.reducePow, Int.reduceMul, Int.reduceAdd, Int.reduceSub, Int.reduceNeg, Nat.reduceAdd, Nat.reduceMul, Nat.reducePow, Int.reduceLT, Int.reduceLE, Int.reduceEq, Nat.reduceEqDiff, e0, e1]
    refine ACallsK.of (circular_spec (hC.sub (T' := T55) (by decide)) ha hb (by omega) (small_of hp) (small_of hp2)) ?_
    rintro r h3 F
    simp -implicitDefEqProofs (disch := first | assumption | decide | omega | (simp -implicitDefEqProofs only [wpD1] <;> omega) | (refine not_in_one ?_; first | omega | (simp -implicitDefEqProofs only [wpD1] <;> omega) | fail) | (simp -implicitDefEqProofs only [wpD2] <;> assumption) | ((repeat (first | exact HSub.refl _ | assumption | refine HSub.push ?_ _ | refine HSub.reserve ?_ _ | refine HSub.put ?_ (by omega) _)); done) | fail) only [↓wpPre, wpPost, wpPoly, Int.reduceToNat, Int.reducePow, Int.reduceMul, Int.reduceAdd, Int.reduceSub, Int.reduceNeg, Nat.reduceAdd, Nat.reduceMul, Nat.reducePow, Int.reduceLT, Int.reduceLE, Int.reduceEq, Nat.reduceEqDiff]
    exact ⟨r, by rw [pe, lstErr], F.sub, by rw [if_pos pe]; exact F.ri⟩

def circ10Err (a b : List Int) : Int := if circErr a b = 0 then (if 499122176 < sumAbs a * maxAbs b then 5 else 0) else circErr a b
theorem circErr_small {a b : List Int} (h : circErr a b = 0) : small a ∧ small b ∧ 1 ≤ a.length ∧ a.length ≤ 8192 ∧ a.length = b.length := by
  unfold circErr at h
  split at h
  · omega
  split at h
  · omega
  split at h
  · omega
  split at h
  · omega
  rename_i h1 h2 h3 h4
  exact ⟨small_of (Bool.eq_false_iff.2 fun x => h4 (.inl x)), small_of (Bool.eq_false_iff.2 fun x => h4 (.inr x)), by omega, by omega, by omega⟩
theorem CircularR_spec (hC : Has C T22) {va vb : AV} {a b : List Int} {h : Heap} (ha : RI h va a) (hb : RI h vb b) :
    ACalls C 22 [va, vb] h (fun r h' => ∃ v', r = lstErr v' (circ10Err a b) ∧ HSub h h' ∧ RI h' v' (if circ10Err a b = 0 then circ a b else [])) := by
  have pe : circ10Err a b = if circErr a b = 0 then (if 499122176 < sumAbs a * maxAbs b then 5 else 0) else circErr a b := rfl
  (refine calls_intro (hC.body (by decide) tab22) (Nat.le_of_ble_eq_true rfl) ?_); (show wp C _ none B22.code _ _); (simp only [B22]); simp -implicitDefEqProofs (disch := first | assumption | decide | omega | (simp -implicitDefEqProofs only [wpD1] <;> omega) | (refine not_in_one ?_; first | omega | (simp -implicitDefEqProofs only [wpD1] <;> omega) | fail) | (simp -implicitDefEqProofs only [wpD2] <;> assumption) | ((repeat (first | exact HSub.refl _ | assumption | refine HSub.push ?_ _ | refine HSub.reserve ?_ _ | refine HSub.put ?_ (by omega) _)); done) | fail) only [↓wpPre, wpPost, wpPoly, Int.reduceToNat, Int.reducePow, Int.reduceMul, Int.reduceAdd, Int.reduceSub, Int.reduceNeg, Nat.reduceAdd, Nat.reduceMul, Nat.reducePow, Int.reduceLT, Int.reduceLE, Int.reduceEq, Nat.reduceEqDiff]
  refine ACallsK.of (Circ09_spec (hC.sub (T' := T44) (by decide)) ha hb) ?_
  rintro r h1 ⟨v1, rfl, s1, R1⟩
  by_cases c : circErr a b = 0
  · obtain ⟨sa, sb, q1, q2, q3⟩ := circErr_small c
    rw [if_pos c] at pe R1
    rw [c]
    simp -implicitDefEqProofs (disch := first | assumption | decide | omega | (simp -implicitDefEqProofs only [wpD1] <;> omega) | (refine not_in_one ?_; first | omega | (simp -implicitDefEqProofs only [wpD1] <;> omega) | fail) | (simp -implicitDefEqProofs only [wpD2] <;> assumption) | ((repeat (first | exact HSub.refl _ | assumption | refine HSub.push ?_ _ | refine HSub.reserve ?_ _ | refine HSub.put ?_ (by omega) _)); done) | fail) only [↓wpPre, wpPost, wpPoly, Int.reduceToNat, Int.reducePow, Int.reduceMul, Int.reduceAdd, Int.reduceSub, Int.reduceNeg, Nat.reduceAdd, Nat.reduceMul, Nat.reducePow, Int.reduceLT, Int.reduceLE, Int.reduceEq, Nat.reduceEqDiff, lstErr]
    refine ACallsK.eq (weight_spec (hC.sub (T' := T40) (by decide)) (ha.mono s1) (hb.mono s1) sa sb (by omega)) ?_
    by_cases c5 : 499122176 < sumAbs a * maxAbs b
    · rw [if_pos c5] at pe
      simp -implicitDefEqProofs (disch := first | assumption | decide | omega | (simp -implicitDefEqProofs only [wpD1] <;> omega) | (refine not_in_one ?_; first | omega | (simp -implicitDefEqProofs only [wpD1] <;> omega) | fail) | (simp -implicitDefEqProofs only [wpD2] <;> assumption) | ((repeat (first | exact HSub.refl _ | assumption | refine HSub.push ?_ _ | refine HSub.reserve ?_ _ | refine HSub.put ?_ (by omega) _)); done) | fail) only [↓wpPre, wpPost, wpPoly, Int.reduceToNat, Int.reducePow, Int.reduceMul, Int.reduceAdd, Int.reduceSub, Int.reduceNeg, Nat.reduceAdd, Nat.reduceMul, Nat.reducePow, Int.reduceLT, Int.reduceLE, Int.reduceEq, Nat.reduceEqDiff]
      exact ⟨.nilslice, by simp only [pe, lstErr], s1, by rw [if_neg (by rw [pe]; decide)]; exact RI.nil⟩
    · rw [if_neg c5] at pe
      simp -implicitDefEqProofs (disch := first | assumption | decide | omega | (simp -implicitDefEqProofs only [wpD1] <;> omega) | (refine not_in_one ?_; first | omega | (simp -implicitDefEqProofs only [wpD1] <;> omega) | fail) | (simp -implicitDefEqProofs only [wpD2] <;> assumption) | ((repeat (first | exact HSub.refl _ | assumption | refine HSub.push ?_ _ | refine HSub.reserve ?_ _ | refine HSub.put ?_ (by omega) _)); done) | fail) only [↓wpPre, wpPost, wpPoly, Int.reduceToNat, Int.reducePow, Int.reduceMul, Int.reduceAdd, Int.reduceSub, Int.reduceNeg, Nat.reduceAdd, Nat.reduceMul, Nat.reducePow, Int.reduceLT, Int.reduceLE, Int.reduceEq, Nat.reduceEqDiff]
      exact ⟨v1, by simp only [pe, lstErr], s1, by rw [if_pos pe]; exact R1⟩
  · rw [if_neg c] at pe
    simp -implicitDefEqProofs (disch := first | assumption | decide | omega | (simp -implicitDefEqProofs only [wpD1] <;> omega) | (refine not_in_one ?_; first | omega | (simp -implicitDefEqProofs only [wpD1] <;> omega) | fail) | (simp -implicitDefEqProofs only [wpD2] <;> assumption) | ((repeat (first | exact HSub.refl _ | assumption | refine HSub.push ?_ _ | refine HSub.reserve ?_ _ | refine HSub.put ?_ (by omega) _)); done) | fail) only [↓wpPre, wpPost, wpPoly, Int.reduceToNat, Int.reducePow, Int.reduceMul, Int.reduceAdd, Int.reduceSub, Int.reduceNeg, Nat.reduceAdd, Nat.reduceMul, Nat.reducePow, Int.reduceLT, Int.reduceLE, Int.reduceEq, Nat.reduceEqDiff, lstErr]
    exact ⟨.nilslice, by simp only [pe, lstErr], s1, by rw [if_neg (by rw [pe]; exact c)]; exact RI.nil⟩
end
end Go.Ae

/- Products of the program, by transforms. -/
set_option linter.unusedSimpArgs false
set_option linter.unusedVariables false
namespace Go.Ae

def resid (l : List Int) : List Int := l.map fun x => x % pP
/-- A list of residues, with zeros up to a length. -/
def padR (l : List Int) (n : Nat) : List Int := resid l ++ List.replicate (n - l.length) 0
theorem padR_length {l : List Int} {n : Nat} (h : l.length ≤ n) : (padR l n).length = n := by simp [padR, resid]; omega
theorem padR_range {l : List Int} {n : Nat} : ∀ x ∈ padR l n, 0 ≤ x ∧ x < 998244353 := by
  intro x hx
  rcases List.mem_append.1 hx with h | h
  · obtain ⟨y, _, rfl⟩ := List.mem_map.1 h
    exact ⟨Int.emod_nonneg _ (by decide), Int.emod_lt_of_pos _ (by decide)⟩
  · rw [(List.mem_replicate.1 h).2]; exact ⟨by decide, by decide⟩
theorem pe_resid : ∀ (l : List Int) (z : Int), Cg (pe (resid l) z) (pe l z)
  | [], z => Cg.refl _
  | x :: l, z => (Cg.refl x).emod.add ((Cg.refl z).mul (pe_resid l z))
theorem pe_padR (l : List Int) (n : Nat) (z : Int) : Cg (pe (padR l n) z) (pe l z) := by
  unfold padR
  rw [pe_append, pe_zeros, Int.mul_zero, Int.add_zero]; exact pe_resid l z

def zipMul (a b : List Int) : List Int := (List.range a.length).map fun i => a.getD i 0 * b.getD i 0 % pP

/-- The products of two transforms' elements are the transform of the product. -/
theorem zip_dft {a b : List Int} {n : Nat} {w : Int} (hb : 1 ≤ b.length) (ha : 1 ≤ a.length) (hn : a.length + b.length - 1 ≤ n) : zipMul (dft w (padR a n)) (dft w (padR b n)) = dft w (padR (convL a b) n) := by
  have hc := convL_length a b
  have la := padR_length (l := a) (n := n) (by omega)
  have lb := padR_length (l := b) (n := n) (by omega)
  have lc := padR_length (l := convL a b) (n := n) (by omega)
  refine list_ext (by simp [zipMul, dft_length, la, lc]) fun i hi => ?_
  simp only [zipMul, List.length_map, List.length_range, dft_length, la] at hi
  unfold zipMul
  rw [range_get (by rw [dft_length, la]; exact hi), dft_get (by omega), dft_get (by omega), dft_get (by omega)]
  have h1 := (pe_padR a n (w ^ i)).emod.mul (pe_padR b n (w ^ i)).emod
  have h2 := pe_padR (convL a b) n (w ^ i)
  rw [pe_conv a b hb] at h2
  exact h1.trans h2.symm

theorem sgn_resid {x : Int} (h : -499122176 ≤ x ∧ x ≤ 499122176) : sgn (x % pP) = x := by
  show sgn (x % 998244353) = x
  unfold sgn
  rcases Int.lt_or_le x 0 with hx | hx
  · have : x % (998244353 : Int) = x + 998244353 := by
      rw [← Int.add_emod_right]; exact Int.emod_eq_of_lt (by omega) (by omega)
    rw [this, if_pos (by omega)]; omega
  · have : x % (998244353 : Int) = x := Int.emod_eq_of_lt hx (by omega)
    rw [this, if_neg (by omega)]

theorem isLen_of {k : Nat} (hk : k ≤ 15) : isLen ((2 ^ k : Nat) : Int) = true := by
  have h : ∀ k : Fin 16, isLen ((2 ^ k.val : Nat) : Int) = true := by decide +kernel
  exact h ⟨k, by omega⟩

theorem conv_bound {a b : List Int} (hw : sumAbs a * maxAbs b ≤ 499122176) : ∀ x ∈ convL a b, -499122176 ≤ x ∧ x ≤ 499122176 := by
  intro x hx
  obtain ⟨n, _, rfl⟩ := List.mem_map.1 hx
  have h1 := cfs_abs a b n a.length (Nat.le_refl _)
  rw [List.take_length] at h1
  have := absI_le (Int.le_trans h1 hw)
  exact this
theorem sgn_conv {a b : List Int} {n : Nat} (hw : sumAbs a * maxAbs b ≤ 499122176) (hn : a.length + b.length - 1 ≤ n) : ((padR (convL a b) n).map sgn).take (a.length + b.length - 1) = convL a b := by
  have hc := convL_length a b
  have hb := conv_bound hw
  unfold padR resid
  rw [List.map_append, List.take_append_of_le_length (by simp [hc]), List.take_of_length_le (by simp [hc]), List.map_map]
  refine (List.map_congr_left fun x hx => ?_).trans (List.map_id _)
  exact sgn_resid (hb x hx)

section
variable {C : Ctx}

theorem residue_spec (hC : Has C T52) {x : Int} {h : Heap} (hx : In64 x) : ACalls C 52 [.int .i64 x] h (fun r h' => r = .int .i64 (x % pP) ∧ h' = h) := by
  unfold In64 at hx
  have h1 : x.tmod 998244353 < 998244353 := Int.tmod_lt_of_pos x (by omega)
  have h2 : -998244353 < x.tmod 998244353 := by have := Int.lt_tmod_of_pos x (b := 998244353) (by omega); omega
  rw [emod_of_tmod (by decide)]
  simp only [pP]
  (refine calls_intro (hC.body (by decide) tab52) (Nat.le_of_ble_eq_true rfl) ?_); (show wp C _ none B52.code _ _); (simp only [B52]); simp -implicitDefEqProofs (disch := first | assumption | decide | omega | (simp -implicitDefEqProofs only [wpD1] <;> omega) | (refine not_in_one ?_; first | omega | (simp -implicitDefEqProofs only [wpD1] <;> omega) | fail) | (simp -implicitDefEqProofs only [wpD2] <;> assumption) | ((repeat (first | exact HSub.refl _ | assumption | refine HSub.push ?_ _ | refine HSub.reserve ?_ _ | refine HSub.put ?_ (by omega) _)); done) | fail) only [↓wpPre, wpPost, wpPoly, Int.reduceToNat, Int.reducePow, Int.reduceMul, Int.reduceAdd, Int.reduceSub, Int.reduceNeg, Nat.reduceAdd, Nat.reduceMul, Nat.reducePow, Int.reduceLT, Int.reduceLE, Int.reduceEq, Nat.reduceEqDiff]
  refine Br.by (fun c => ?_) (fun c => ?_)
  · simp -implicitDefEqProofs (disch := first | assumption | decide | omega | (simp -implicitDefEqProofs only [wpD1] <;> omega) | (refine not_in_one ?_; first | omega | (simp -implicitDefEqProofs only [wpD1] <;> omega) | fail) | (simp -implicitDefEqProofs only [wpD2] <;> assumption) | ((repeat (first | exact HSub.refl _ | assumption | refine HSub.push ?_ _ | refine HSub.reserve ?_ _ | refine HSub.put ?_ (by omega) _)); done) | fail) only [↓wpPre, wpPost, wpPoly, Int.reduceToNat, Int.reducePow, Int.reduceMul, Int.reduceAdd, Int.reduceSub, Int.reduceNeg, Nat.reduceAdd, Nat.reduceMul, Nat.reducePow, Int.reduceLT, Int.reduceLE, Int.reduceEq, Nat.reduceEqDiff, if_pos c]
  · simp -implicitDefEqProofs (disch := first | assumption | decide | omega | (simp -implicitDefEqProofs only [wpD1] <;> omega) | (refine not_in_one ?_; first | omega | (simp -implicitDefEqProofs only [wpD1] <;> omega) | fail) | (simp -implicitDefEqProofs only [wpD2] <;> assumption) | ((repeat (first | exact HSub.refl _ | assumption | refine HSub.push ?_ _ | refine HSub.reserve ?_ _ | refine HSub.put ?_ (by omega) _)); done) | fail) only [↓wpPre, wpPost, wpPoly, Int.reduceToNat, Int.reducePow, Int.reduceMul, Int.reduceAdd, Int.reduceSub, Int.reduceNeg, Nat.reduceAdd, Nat.reduceMul, Nat.reducePow, Int.reduceLT, Int.reduceLE, Int.reduceEq, Nat.reduceEqDiff, if_neg c]

theorem mul_spec (hC : Has C T54) {x y : Int} {h : Heap} (hx : 0 ≤ x ∧ x < 998244353) (hy : 0 ≤ y ∧ y < 998244353) : ACalls C 54 [.int .i64 x, .int .i64 y] h (fun r h' => r = .int .i64 (x * y % pP) ∧ h' = h) := by
  have m1 : 0 ≤ x * y := Int.mul_nonneg hx.1 hy.1
  have m2 : x * y ≤ 998244353 * 998244353 := Int.mul_le_mul (by omega) (by omega) (by omega) (by omega)
  (refine calls_intro (hC.body (by decide) tab54) (Nat.le_of_ble_eq_true rfl) ?_); (show wp C _ none B54.code _ _); (simp only [B54]); simp -implicitDefEqProofs (disch := first | assumption | decide | omega | (simp -implicitDefEqProofs only [wpD1] <;> omega) | (refine not_in_one ?_; first | omega | (simp -implicitDefEqProofs only [wpD1] <;> omega) | fail) | (simp -implicitDefEqProofs only [wpD2] <;> assumption) | ((repeat (first | exact HSub.refl _ | assumption | refine HSub.push ?_ _ | refine HSub.reserve ?_ _ | refine HSub.put ?_ (by omega) _)); done) | fail) only [↓wpPre, wpPost, wpPoly, Int.reduceToNat, Int.reducePow, Int.reduceMul, Int.reduceAdd, Int.reduceSub, Int.reduceNeg, Nat.reduceAdd, Nat.reduceMul, Nat.reducePow, Int.reduceLT, Int.reduceLE, Int.reduceEq, Nat.reduceEqDiff]

theorem combine_spec (hC : Has C T53) (hC' : Has C T54) {va vb : AV} {a b : List Int} {h : Heap} (ha : RI h va a) (hb : RI h vb b) (hl : a.length = b.length ∧ a.length ≤ 65536) (ra : ∀ x ∈ a, 0 ≤ x ∧ x < 998244353) (rb : ∀ x ∈ b, 0 ≤ x ∧ x < 998244353) :
    ACalls C 53 [va, vb, .func 54 [] []] h (fun r h' => Fresh h h' r (zipMul a b)) := by
  have zl : (zipMul a b).length = a.length := by simp [zipMul]
  (refine calls_intro (hC.body (by decide) tab53) (Nat.le_of_ble_eq_true rfl) ?_); (show wp C _ none B53.code _ _); (simp only [B53]); simp -implicitDefEqProofs (disch := first | assumption | decide | omega | (simp -implicitDefEqProofs only [wpD1] <;> omega) | (refine not_in_one ?_; first | omega | (simp -implicitDefEqProofs only [wpD1] <;> omega) | fail) | (simp -implicitDefEqProofs only [wpD2] <;> assumption) | ((repeat (first | exact HSub.refl _ | assumption | refine HSub.push ?_ _ | refine HSub.reserve ?_ _ | refine HSub.put ?_ (by omega) _)); done) | fail) only [↓wpPre, wpPost, wpPoly, Int.reduceToNat, Int.reducePow, Int.reduceMul, Int.reduceAdd, Int.reduceSub, Int.reduceNeg, Nat.reduceAdd, Nat.reduceMul, Nat.reducePow, Int.reduceLT, Int.reduceLE, Int.reduceEq, Nat.reduceEqDiff, ha.len, ints_replicate]
  refine wp_loopI (fun j t h' => ∃ i : Nat, h' = h.push (.cells (ints ((zipMul a b).take i ++ List.replicate (a.length - i) 0)) true 0) ∧ t 0 = va ∧ t 1 = vb ∧ t 2 = .func 54 [] [] ∧ t 7 = .slice h.size 0 a.length (.known a.length) ∧ t 13 = .int .i64 a.length ∧ t 14 = .int .i64 (i : Nat) ∧ i ≤ a.length ∧ j = a.length - i) (j0 := a.length)
    ⟨0, by simp, rfl, rfl, rfl, rfl, rfl, rfl, by omega, rfl⟩ ?_
  rintro j t h2 ⟨i, rfl, e0, e1, e2, e7, e13, e14, hi, hj⟩
  simp -implicitDefEqProofs (disch := first | assumption | decide | omega | (simp -implicitDefEqProofs only [wpD1] <;> omega) | (refine not_in_one ?_; first | omega | (simp -implicitDefEqProofs only [wpD1] <;> omega) | fail) | (simp -implicitDefEqProofs only [wpD2] <;> assumption) | ((repeat (first | exact HSub.refl _ | assumption | refine HSub.push ?_ _ | refine HSub.reserve ?_ _ | refine HSub.put ?_ (by omega) _)); done) | fail) only [↓wpPre, wpPost, wpPoly, Int.reduceToNat, Int.reducePow, Int.reduceMul, Int.reduceAdd, Int.reduceSub, Int.reduceNeg, Nat.reduceAdd, Nat.reduceMul, Nat.reducePow, Int.reduceLT, Int.reduceLE, Int.reduceEq, Nat.reduceEqDiff, e13, e14]
  refine Br.by (fun c => ?_) (fun c => ?_)
  · have hi' : i < a.length := by omega
    simp -implicitDefEqProofs (disch := first | assumption | decide | omega | (simp -implicitDefEqProofs only [wpD1] <;> omega) | (refine not_in_one ?_; first | omega | (simp -implicitDefEqProofs only [wpD1] <;> omega) | fail) | (simp -implicitDefEqProofs only [wpD2] <;> assumption) | ((repeat (first | exact HSub.refl _ | assumption | refine HSub.push ?_ _ | refine HSub.reserve ?_ _ | refine HSub.put ?_ (by omega) _)); done) | fail) only [↓wpPre, wpPost, wpPoly, Int.reduceToNat, Int.reducePow, Int.reduceMul, Int.reduceAdd, Int.reduceSub, Int.reduceNeg, Nat.reduceAdd, Nat.reduceMul, Nat.reducePow, Int.reduceLT, Int.reduceLE, Int.reduceEq, Nat.reduceEqDiff, e0, e1, e2, e7, e14, ha.idx, hb.idx, ha.loadC, hb.loadC]
    refine ACallsK.eq (mul_spec hC' (ra _ (getD_mem hi')) (rb _ (getD_mem (by omega)))) ?_
    have hll : ((zipMul a b).take i ++ List.replicate (a.length - i) 0).length = a.length := by simp [zl]; omega
    simp -implicitDefEqProofs (disch := first | assumption | decide | omega | (simp -implicitDefEqProofs only [wpD1] <;> omega) | (refine not_in_one ?_; first | omega | (simp -implicitDefEqProofs only [wpD1] <;> omega) | fail) | (simp -implicitDefEqProofs only [wpD2] <;> assumption) | ((repeat (first | exact HSub.refl _ | assumption | refine HSub.push ?_ _ | refine HSub.reserve ?_ _ | refine HSub.put ?_ (by omega) _)); done) | fail) only [↓wpPre, wpPost, wpPoly, Int.reduceToNat, Int.reducePow, Int.reduceMul, Int.reduceAdd, Int.reduceSub, Int.reduceNeg, Nat.reduceAdd, Nat.reduceMul, Nat.reducePow, Int.reduceLT, Int.reduceLE, Int.reduceEq, Nat.reduceEqDiff, e0, e1, e2, e7, e13, e14]
    refine ⟨_, ⟨i + 1, ?_, by simp, by omega, rfl⟩, by omega⟩
    have hz : (zipMul a b).getD i 0 = a.getD i 0 * b.getD i 0 % pP := by unfold zipMul; rw [range_get hi']
    have hlt : ((zipMul a b).take i).length = i := by simp [zl]; omega
    rw [List.set_append_right _ _ (by omega), hlt, Nat.sub_self, take_succ_getD (by omega), hz, show a.length - i = a.length - (i + 1) + 1 by omega, List.replicate_succ, List.set_cons_zero, List.append_assoc]
    rfl
  · have : i = a.length := by omega
    subst this
    simp -implicitDefEqProofs (disch := first | assumption | decide | omega | (simp -implicitDefEqProofs only [wpD1] <;> omega) | (refine not_in_one ?_; first | omega | (simp -implicitDefEqProofs only [wpD1] <;> omega) | fail) | (simp -implicitDefEqProofs only [wpD2] <;> assumption) | ((repeat (first | exact HSub.refl _ | assumption | refine HSub.push ?_ _ | refine HSub.reserve ?_ _ | refine HSub.put ?_ (by omega) _)); done) | fail) only [↓wpPre, wpPost, wpPoly, Int.reduceToNat, Int.reducePow, Int.reduceMul, Int.reduceAdd, Int.reduceSub, Int.reduceNeg, Nat.reduceAdd, Nat.reduceMul, Nat.reducePow, Int.reduceLT, Int.reduceLE, Int.reduceEq, Nat.reduceEqDiff, e7]
    refine ⟨HSub.push1 _ _, by omega, h.size, Nat.le_refl _, by rw [zl], ?_⟩
    rw [get_push_eq rfl, Nat.sub_self, ← zl, List.take_length]; simp
end
end Go.Ae

/- The program's products. -/
set_option linter.unusedSimpArgs false
set_option linter.unusedVariables false
namespace Go.Ae
section
variable {C : Ctx}

theorem slice_ids {h : Heap} {sz i o n : Nat} {c : Cap} {lo hi mx : Option AV} {v : AV} (e : sliceA h sz (.slice i o n c) lo hi mx = some v) : ∀ j ∈ v.ids, j = i := by
  cases c with
  | known c =>
    simp only [sliceA] at e
    split at e
    · cases e; simp [AV.ids]
    · cases e
  | unk k =>
    simp only [sliceA] at e
    split at e
    · split at e
      · split at e
        · split at e
          · cases e; simp [AV.ids]
          · split at e
            · cases e; simp [AV.ids]
            · cases e
        · cases e
      · cases e
    · cases e
theorem RI.put {h : Heap} {v : AV} {l : List Int} {i : Nat} {b : ABlk} (H : RI h v l) (hd : ∀ j ∈ v.ids, j ≠ i) : RI (h.put i b) v l := by
  obtain ⟨hl, hlt, ⟨rfl, h0⟩ | ⟨j, o, cp, vs, wr, u, rfl, hg, r⟩⟩ := H
  · exact ⟨hl, hlt, .inl ⟨rfl, h0⟩⟩
  · exact ⟨hl, hlt, .inr ⟨j, o, cp, vs, wr, u, rfl, (get_put_ne (hd j (by simp [AV.ids]))).trans hg, r⟩⟩

theorem wide_spec (hC : Has C T51) {v : AV} {l : List Int} {n nb : Nat} {h : Heap} (hl : RI h v l) (hx : ∀ x ∈ l, In64 x) (hb : h.get nb = some (.cells [.int .i64 (n : Nat)] true 0)) (hn : isLen n = true) (hln : l.length ≤ n) :
    ACalls C 51 [v, .ptr nb 0] h (fun r h' => Fresh h h' r (dft (rootI n) (padR l n))) := by
  have hlt := hl.lt
  have q := isLen_range hn
  have hnb := Heap.lt_of_get hb
  have rl : (resid l).length = l.length := by simp [resid]
  (refine calls_intro (hC.body (by decide) tab51) (Nat.le_of_ble_eq_true rfl) ?_); (show wp C _ none B51.code _ _); (simp only [B51]); simp -implicitDefEqProofs (disch := first | assumption | decide | omega | (simp -implicitDefEqProofs only [wpD1] <;> omega) | (refine not_in_one ?_; first | omega | (simp -implicitDefEqProofs only [wpD1] <;> omega) | fail) | (simp -implicitDefEqProofs only [wpD2] <;> assumption) | ((repeat (first | exact HSub.refl _ | assumption | refine HSub.push ?_ _ | refine HSub.reserve ?_ _ | refine HSub.put ?_ (by omega) _)); done) | fail) only [↓wpPre, wpPost, wpPoly, Int.reduceToNat, Int.reducePow, Int.reduceMul, Int.reduceAdd, Int.reduceSub, Int.reduceNeg, Nat.reduceAdd, Nat.reduceMul, Nat.reducePow, Int.reduceLT, Int.reduceLE, Int.reduceEq, Nat.reduceEqDiff, hb, hl.len, ints_replicate]
  refine wp_loopI (fun j t h' => ∃ i : Nat, h' = h.push (.cells (ints ((resid l).take i ++ List.replicate (n - i) 0)) true 0) ∧ t 4 = .slice h.size 0 n (.known n) ∧ t 9 = v ∧ t 10 = .int .i64 l.length ∧ t 11 = .int .i64 (i : Nat) ∧ i ≤ l.length ∧ j = l.length - i) (j0 := l.length)
    ⟨0, by simp, rfl, rfl, rfl, rfl, by omega, rfl⟩ ?_
  rintro j t h2 ⟨i, rfl, e4, e9, e10, e11, hi, hj⟩
  simp -implicitDefEqProofs (disch := first | assumption | decide | omega | (simp -implicitDefEqProofs only [wpD1] <;> omega) | (refine not_in_one ?_; first | omega | (simp -implicitDefEqProofs only [wpD1] <;> omega) | fail) | (simp -implicitDefEqProofs only [wpD2] <;> assumption) | ((repeat (first | exact HSub.refl _ | assumption | refine HSub.push ?_ _ | refine HSub.reserve ?_ _ | refine HSub.put ?_ (by omega) _)); done) | fail) only [↓wpPre, wpPost, wpPoly, Int.reduceToNat, Int.reducePow, Int.reduceMul, Int.reduceAdd, Int.reduceSub, Int.reduceNeg, Nat.reduceAdd, Nat.reduceMul, Nat.reducePow, Int.reduceLT, Int.reduceLE, Int.reduceEq, Nat.reduceEqDiff, e10, e11]
  refine Br.by (fun c => ?_) (fun c => ?_)
  · have hi' : i < l.length := by omega
    simp -implicitDefEqProofs (disch := first | assumption | decide | omega | (simp -implicitDefEqProofs only [wpD1] <;> omega) | (refine not_in_one ?_; first | omega | (simp -implicitDefEqProofs only [wpD1] <;> omega) | fail) | (simp -implicitDefEqProofs only [wpD2] <;> assumption) | ((repeat (first | exact HSub.refl _ | assumption | refine HSub.push ?_ _ | refine HSub.reserve ?_ _ | refine HSub.put ?_ (by omega) _)); done) | fail) only [↓wpPre, wpPost, wpPoly, Int.reduceToNat, Int.reducePow, Int.reduceMul, Int.reduceAdd, Int.reduceSub, Int.reduceNeg, Nat.reduceAdd, Nat.reduceMul, Nat.reducePow, Int.reduceLT, Int.reduceLE, Int.reduceEq, Nat.reduceEqDiff, e4, e9, e11, hl.idx, hl.loadC]
    refine ACallsK.eq (residue_spec (hC.sub (T' := T52) (by decide)) (hx _ (getD_mem hi'))) ?_
    have hll : ((resid l).take i ++ List.replicate (n - i) 0).length = n := by simp [rl]; omega
    simp -implicitDefEqProofs (disch := first | assumption | decide | omega | (simp -implicitDefEqProofs only [wpD1] <;> omega) | (refine not_in_one ?_; first | omega | (simp -implicitDefEqProofs only [wpD1] <;> omega) | fail) | (simp -implicitDefEqProofs only [wpD2] <;> assumption) | ((repeat (first | exact HSub.refl _ | assumption | refine HSub.push ?_ _ | refine HSub.reserve ?_ _ | refine HSub.put ?_ (by omega) _)); done) | fail) only [↓wpPre, wpPost, wpPoly, Int.reduceToNat, Int.reducePow, Int.reduceMul, Int.reduceAdd, Int.reduceSub, Int.reduceNeg, Nat.reduceAdd, Nat.reduceMul, Nat.reducePow, Int.reduceLT, Int.reduceLE, Int.reduceEq, Nat.reduceEqDiff, e4, e9, e10, e11]
    refine ⟨_, ⟨i + 1, ?_, by simp, by omega, rfl⟩, by omega⟩
    have hz : (resid l).getD i 0 = l.getD i 0 % pP := by simp [resid, hi']
    have hlt : ((resid l).take i).length = i := by simp [rl]; omega
    rw [List.set_append_right _ _ (by omega), hlt, Nat.sub_self, take_succ_getD (by omega), hz, show n - i = n - (i + 1) + 1 by omega, List.replicate_succ, List.set_cons_zero, List.append_assoc]
    rfl
  · have : i = l.length := by omega
    subst this
    have e : (resid l).take l.length ++ List.replicate (n - l.length) 0 = padR l n := by
      rw [← rl, List.take_length, rl]; rfl
    rw [e]
    have pl := padR_length hln
    simp -implicitDefEqProofs (disch := first | assumption | decide | omega | (simp -implicitDefEqProofs only [wpD1] <;> omega) | (refine not_in_one ?_; first | omega | (simp -implicitDefEqProofs only [wpD1] <;> omega) | fail) | (simp -implicitDefEqProofs only [wpD2] <;> assumption) | ((repeat (first | exact HSub.refl _ | assumption | refine HSub.push ?_ _ | refine HSub.reserve ?_ _ | refine HSub.put ?_ (by omega) _)); done) | fail) only [↓wpPre, wpPost, wpPoly, Int.reduceToNat, Int.reducePow, Int.reduceMul, Int.reduceAdd, Int.reduceSub, Int.reduceNeg, Nat.reduceAdd, Nat.reduceMul, Nat.reducePow, Int.reduceLT, Int.reduceLE, Int.reduceEq, Nat.reduceEqDiff, e4]
    refine ACallsK.of (forward_spec (hC.sub (T' := T27) (by decide)) (l := padR l n) (RI.known (get_push_eq rfl) ⟨by rw [pl], by omega⟩ (by omega)) (by rw [pl]; exact hn) padR_range) ?_
    rintro r h' F
    simp -implicitDefEqProofs (disch := first | assumption | decide | omega | (simp -implicitDefEqProofs only [wpD1] <;> omega) | (refine not_in_one ?_; first | omega | (simp -implicitDefEqProofs only [wpD1] <;> omega) | fail) | (simp -implicitDefEqProofs only [wpD2] <;> assumption) | ((repeat (first | exact HSub.refl _ | assumption | refine HSub.push ?_ _ | refine HSub.reserve ?_ _ | refine HSub.put ?_ (by omega) _)); done) | fail) only [↓wpPre, wpPost, wpPoly, Int.reduceToNat, Int.reducePow, Int.reduceMul, Int.reduceAdd, Int.reduceSub, Int.reduceNeg, Nat.reduceAdd, Nat.reduceMul, Nat.reducePow, Int.reduceLT, Int.reduceLE, Int.reduceEq, Nat.reduceEqDiff]
    rw [pl] at F
    exact F.mono (HSub.push1 _ _)

set_option maxHeartbeats 1000000 in
theorem product_spec (hC : Has C T39) {va vb : AV} {a b : List Int} {h : Heap} (ha : RI h va a) (hb : RI h vb b) (sa : small a) (sb : small b) (hl : 1 ≤ a.length ∧ 1 ≤ b.length ∧ a.length + b.length - 1 ≤ 32768) (hw : sumAbs a * maxAbs b ≤ 499122176) :
    ACalls C 39 [va, vb] h (fun r h' => HSub h h' ∧ RI h' r (convL a b) ∧ ∀ j ∈ r.ids, h.size ≤ j) := by
  have cl := convL_length a b
  (refine calls_intro (hC.body (by decide) tab39) (Nat.le_of_ble_eq_true rfl) ?_); (show wp C _ none B39.code _ _); (simp only [B39]); simp -implicitDefEqProofs (disch := first | assumption | decide | omega | (simp -implicitDefEqProofs only [wpD1] <;> omega) | (refine not_in_one ?_; first | omega | (simp -implicitDefEqProofs only [wpD1] <;> omega) | fail) | (simp -implicitDefEqProofs only [wpD2] <;> assumption) | ((repeat (first | exact HSub.refl _ | assumption | refine HSub.push ?_ _ | refine HSub.reserve ?_ _ | refine HSub.put ?_ (by omega) _)); done) | fail) only [↓wpPre, wpPost, wpPoly, Int.reduceToNat, Int.reducePow, Int.reduceMul, Int.reduceAdd, Int.reduceSub, Int.reduceNeg, Nat.reduceAdd, Nat.reduceMul, Nat.reducePow, Int.reduceLT, Int.reduceLE, Int.reduceEq, Nat.reduceEqDiff]
  refine wp_loopI (fun j t h' => ∃ k : Nat, h' = h.push (.cells [.int .i64 ((2 ^ k : Nat) : Int)] true 0) ∧ t 0 = va ∧ t 1 = vb ∧ t 5 = .ptr h.size 0 ∧ k ≤ 15 ∧ j = 15 - k) (j0 := 15) ⟨0, rfl, rfl, rfl, rfl, by omega, rfl⟩ ?_
  rintro j t h2 ⟨k, rfl, e0, e1, e5, hk, hj⟩
  have h2k : (2 : Nat) ^ k ≤ 2 ^ 15 := Nat.pow_le_pow_right (by decide) hk
  have h2k' : (2 : Nat) ^ k ≤ 32768 := h2k
  have hn := isLen_of hk
  have hnn1 : (2 : Nat) ^ (k + 1) = 2 ^ k * 2 := Nat.pow_succ _ _
  have hn15 : k = 15 → (2 : Nat) ^ k = 32768 := by rintro rfl; decide
  clear h2k
  generalize hnn : (2 : Nat) ^ k = n at *
  simp -implicitDefEqProofs (disch := first | assumption | decide | omega | (simp -implicitDefEqProofs only [wpD1] <;> omega) | (refine not_in_one ?_; first | omega | (simp -implicitDefEqProofs only [wpD1] <;> omega) | fail) | (simp -implicitDefEqProofs only [wpD2] <;> assumption) | ((repeat (first | exact HSub.refl _ | assumption | refine HSub.push ?_ _ | refine HSub.reserve ?_ _ | refine HSub.put ?_ (by omega) _)); done) | fail) only [↓wpPre, wpPost, wpPoly, Int.reduceToNat, Int.reducePow, Int.reduceMul, Int.reduceAdd, Int.reduceSub, Int.reduceNeg, Nat.reduceAdd, Nat.reduceMul, Nat.reducePow, Int.reduceLT, Int.reduceLE, Int.reduceEq, Nat.reduceEqDiff, e0, e1, e5, ha.len, hb.len]
  refine Br.by (fun c => ?_) (fun c => ?_)
  · simp -implicitDefEqProofs (disch := first | assumption | decide | omega | (simp -implicitDefEqProofs only [wpD1] <;> omega) | (refine not_in_one ?_; first | omega | (simp -implicitDefEqProofs only [wpD1] <;> omega) | fail) | (simp -implicitDefEqProofs only [wpD2] <;> assumption) | ((repeat (first | exact HSub.refl _ | assumption | refine HSub.push ?_ _ | refine HSub.reserve ?_ _ | refine HSub.put ?_ (by omega) _)); done) | fail) only [↓wpPre, wpPost, wpPoly, Int.reduceToNat, Int.reducePow, Int.reduceMul, Int.reduceAdd, Int.reduceSub, Int.reduceNeg, Nat.reduceAdd, Nat.reduceMul, Nat.reducePow, Int.reduceLT, Int.reduceLE, Int.reduceEq, Nat.reduceEqDiff, e0, e1, e5]
    have hk15 : k < 15 := by
      rcases Nat.lt_or_ge k 15 with x | x
      · exact x
      · have := hn15 (by omega)
        omega
    exact ⟨_, ⟨k + 1, by rw [hnn1]; simp, by omega, rfl⟩, by omega⟩
  · simp -implicitDefEqProofs (disch := first | assumption | decide | omega | (simp -implicitDefEqProofs only [wpD1] <;> omega) | (refine not_in_one ?_; first | omega | (simp -implicitDefEqProofs only [wpD1] <;> omega) | fail) | (simp -implicitDefEqProofs only [wpD2] <;> assumption) | ((repeat (first | exact HSub.refl _ | assumption | refine HSub.push ?_ _ | refine HSub.reserve ?_ _ | refine HSub.put ?_ (by omega) _)); done) | fail) only [↓wpPre, wpPost, wpPoly, Int.reduceToNat, Int.reducePow, Int.reduceMul, Int.reduceAdd, Int.reduceSub, Int.reduceNeg, Nat.reduceAdd, Nat.reduceMul, Nat.reducePow, Int.reduceLT, Int.reduceLE, Int.reduceEq, Nat.reduceEqDiff, e0, e1, e5]
    refine ACallsK.of (wide_spec (hC.sub (T' := T51) (by decide)) (n := n) (ha.mono (HSub.push1 _ _)) (fun x hx => by have := sa x hx; unfold In64; omega) (get_push_eq rfl) hn (by omega)) ?_
    rintro r1 h3 F1
    have s1 := F1.sub
    have s1z := s1.size
    simp only [Heap.size_push] at s1z
    have g1 := s1.get
    simp -implicitDefEqProofs (disch := first | assumption | decide | omega | (simp -implicitDefEqProofs only [wpD1] <;> omega) | (refine not_in_one ?_; first | omega | (simp -implicitDefEqProofs only [wpD1] <;> omega) | fail) | (simp -implicitDefEqProofs only [wpD2] <;> assumption) | ((repeat (first | exact HSub.refl _ | assumption | refine HSub.push ?_ _ | refine HSub.reserve ?_ _ | refine HSub.put ?_ (by omega) _)); done) | fail) only [↓wpPre, wpPost, wpPoly, Int.reduceToNat, Int.reducePow, Int.reduceMul, Int.reduceAdd, Int.reduceSub, Int.reduceNeg, Nat.reduceAdd, Nat.reduceMul, Nat.reducePow, Int.reduceLT, Int.reduceLE, Int.reduceEq, Nat.reduceEqDiff, e1, g1]
    refine ACallsK.of (wide_spec (hC.sub (T' := T51) (by decide)) (n := n) (hb.mono ((HSub.push1 _ _).trans s1)) (fun x hx => by have := sb x hx; unfold In64; omega) (by rw [g1 _ (by simp)]; exact get_push_eq rfl) hn (by omega)) ?_
    rintro r2 h4 F2
    have s2 := F2.sub
    simp -implicitDefEqProofs (disch := first | assumption | decide | omega | (simp -implicitDefEqProofs only [wpD1] <;> omega) | (refine not_in_one ?_; first | omega | (simp -implicitDefEqProofs only [wpD1] <;> omega) | fail) | (simp -implicitDefEqProofs only [wpD2] <;> assumption) | ((repeat (first | exact HSub.refl _ | assumption | refine HSub.push ?_ _ | refine HSub.reserve ?_ _ | refine HSub.put ?_ (by omega) _)); done) | fail) only [↓wpPre, wpPost, wpPoly, Int.reduceToNat, Int.reducePow, Int.reduceMul, Int.reduceAdd, Int.reduceSub, Int.reduceNeg, Nat.reduceAdd, Nat.reduceMul, Nat.reducePow, Int.reduceLT, Int.reduceLE, Int.reduceEq, Nat.reduceEqDiff]
    have pla := padR_length (l := a) (n := n) (by omega)
    have plb := padR_length (l := b) (n := n) (by omega)
    refine ACallsK.of (combine_spec (hC.sub (T' := T53) (by decide)) (hC.sub (T' := T54) (by decide)) (F1.ri.mono s2) F2.ri (by rw [dft_length, dft_length, pla, plb]; omega) dft_range dft_range) ?_
    rintro r3 h5 F3
    have s3 := F3.sub
    rw [zip_dft (by omega) (by omega) (by omega)] at F3
    have plc := padR_length (l := convL a b) (n := n) (by omega)
    simp -implicitDefEqProofs (disch := first | assumption | decide | omega | (simp -implicitDefEqProofs only [wpD1] <;> omega) | (refine not_in_one ?_; first | omega | (simp -implicitDefEqProofs only [wpD1] <;> omega) | fail) | (simp -implicitDefEqProofs only [wpD2] <;> assumption) | ((repeat (first | exact HSub.refl _ | assumption | refine HSub.push ?_ _ | refine HSub.reserve ?_ _ | refine HSub.put ?_ (by omega) _)); done) | fail) only [↓wpPre, wpPost, wpPoly, Int.reduceToNat, Int.reducePow, Int.reduceMul, Int.reduceAdd, Int.reduceSub, Int.reduceNeg, Nat.reduceAdd, Nat.reduceMul, Nat.reducePow, Int.reduceLT, Int.reduceLE, Int.reduceEq, Nat.reduceEqDiff]
    refine ACallsK.of (back_spec (hC.sub (T' := T30) (by decide)) F3.ri (by rw [dft_length, plc]; exact hn) dft_range) ?_
    rintro r4 h6 F4
    have einv := inv_dft (l := padR (convL a b) n) (by rw [plc]; exact hn) padR_range
    rw [plc] at einv
    rw [einv] at F4
    obtain ⟨s4, _, i0, hi0, rfl, hg4⟩ := F4
    have hi1 := Heap.lt_of_get hg4
    rw [plc]
    simp -implicitDefEqProofs (disch := first | assumption | decide | omega | (simp -implicitDefEqProofs only [wpD1] <;> omega) | (refine not_in_one ?_; first | omega | (simp -implicitDefEqProofs only [wpD1] <;> omega) | fail) | (simp -implicitDefEqProofs only [wpD2] <;> assumption) | ((repeat (first | exact HSub.refl _ | assumption | refine HSub.push ?_ _ | refine HSub.reserve ?_ _ | refine HSub.put ?_ (by omega) _)); done) | fail) only [↓wpPre, wpPost, wpPoly, Int.reduceToNat, Int.reducePow, Int.reduceMul, Int.reduceAdd, Int.reduceSub, Int.reduceNeg, Nat.reduceAdd, Nat.reduceMul, Nat.reducePow, Int.reduceLT, Int.reduceLE, Int.reduceEq, Nat.reduceEqDiff]
    have hsn := sgn_conv (n := n) hw (by omega)
    have hrange := padR_range (l := convL a b) (n := n)
    generalize padR (convL a b) n = d at plc hg4 hsn hrange
    have s5 : HSub h h6 := ((((HSub.push1 h _).trans s1).trans s2).trans s3).trans s4
    have z5 : h.size ≤ i0 := by have := (((HSub.push1 h (.cells [.int .i64 (n : Nat)] true 0)).trans s1).trans s2).trans s3 |>.size; omega
    clear s4 F3 F1 F2
    refine wp_loopI (fun j t h' => ∃ i : Nat, HSub h h' ∧ i0 < h'.size ∧ h'.get i0 = some (.cells (ints (mapPre sgn d i)) true 0) ∧ t 0 = va ∧ t 1 = vb ∧ t 7 = .slice i0 0 n (.known n) ∧ t 29 = .slice i0 0 n (.known n) ∧ t 30 = .int .i64 (n : Nat) ∧ t 31 = .int .i64 (i : Nat) ∧ i ≤ n ∧ j = n - i) (j0 := n)
      ⟨0, s5, hi1, by rw [mapPre_zero, hg4], e0, e1, rfl, rfl, rfl, rfl, by omega, rfl⟩ ?_
    rintro j t h7 ⟨i, s7, hi7, hg7, e0, e1, e7, e29, e30, e31, hi, hj⟩
    have hml := mapPre_length sgn d i
    simp -implicitDefEqProofs (disch := first | assumption | decide | omega | (simp -implicitDefEqProofs only [wpD1] <;> omega) | (refine not_in_one ?_; first | omega | (simp -implicitDefEqProofs only [wpD1] <;> omega) | fail) | (simp -implicitDefEqProofs only [wpD2] <;> assumption) | ((repeat (first | exact HSub.refl _ | assumption | refine HSub.push ?_ _ | refine HSub.reserve ?_ _ | refine HSub.put ?_ (by omega) _)); done) | fail) only [↓wpPre, wpPost, wpPoly, Int.reduceToNat, Int.reducePow, Int.reduceMul, Int.reduceAdd, Int.reduceSub, Int.reduceNeg, Nat.reduceAdd, Nat.reduceMul, Nat.reducePow, Int.reduceLT, Int.reduceLE, Int.reduceEq, Nat.reduceEqDiff, e30, e31]
    refine Br.by (fun c2 => ?_) (fun c2 => ?_)
    · have hi' : i < d.length := by omega
      have hg2 := mapPre_get sgn hi'
      have g1 := hrange _ (getD_mem hi')
      simp -implicitDefEqProofs (disch := first | assumption | decide | omega | (simp -implicitDefEqProofs only [wpD1] <;> omega) | (refine not_in_one ?_; first | omega | (simp -implicitDefEqProofs only [wpD1] <;> omega) | fail) | (simp -implicitDefEqProofs only [wpD2] <;> assumption) | ((repeat (first | exact HSub.refl _ | assumption | refine HSub.push ?_ _ | refine HSub.reserve ?_ _ | refine HSub.put ?_ (by omega) _)); done) | fail) only [↓wpPre, wpPost, wpPoly, Int.reduceToNat, Int.reducePow, Int.reduceMul, Int.reduceAdd, Int.reduceSub, Int.reduceNeg, Nat.reduceAdd, Nat.reduceMul, Nat.reducePow, Int.reduceLT, Int.reduceLE, Int.reduceEq, Nat.reduceEqDiff, e7, e29, e31, hg7, hg2]
      refine ACallsK.eq (signed_spec (hC.sub (T' := T35) (by decide)) (by unfold In64; omega)) ?_
      simp -implicitDefEqProofs (disch := first | assumption | decide | omega | (simp -implicitDefEqProofs only [wpD1] <;> omega) | (refine not_in_one ?_; first | omega | (simp -implicitDefEqProofs only [wpD1] <;> omega) | fail) | (simp -implicitDefEqProofs only [wpD2] <;> assumption) | ((repeat (first | exact HSub.refl _ | assumption | refine HSub.push ?_ _ | refine HSub.reserve ?_ _ | refine HSub.put ?_ (by omega) _)); done) | fail) only [↓wpPre, wpPost, wpPoly, Int.reduceToNat, Int.reducePow, Int.reduceMul, Int.reduceAdd, Int.reduceSub, Int.reduceNeg, Nat.reduceAdd, Nat.reduceMul, Nat.reducePow, Int.reduceLT, Int.reduceLE, Int.reduceEq, Nat.reduceEqDiff, e0, e1, e7, e29, e30, e31, hg7]
      exact ⟨_, ⟨i + 1, s7.put (by omega) _, hi7, by rw [← mapPre_set _ hi'], by simp, by omega, rfl⟩, by omega⟩
    · have : i = n := by omega
      subst this
      rw [← plc, mapPre_full] at hg7
      have hd : (d.map sgn).length = d.length := by simp
      have R7 : RI h7 (.slice i0 0 i (.known i)) (d.map sgn) := RI.known hg7 (by omega) (by omega)
      obtain ⟨v', ev, Rv⟩ := R7.part_b (k2 := .i64) (b := (a.length : Int) + b.length - 1) (by omega)
      simp -implicitDefEqProofs (disch := first | assumption | decide | omega | (simp -implicitDefEqProofs only [wpD1] <;> omega) | (refine not_in_one ?_; first | omega | (simp -implicitDefEqProofs only [wpD1] <;> omega) | fail) | (simp -implicitDefEqProofs only [wpD2] <;> assumption) | ((repeat (first | exact HSub.refl _ | assumption | refine HSub.push ?_ _ | refine HSub.reserve ?_ _ | refine HSub.put ?_ (by omega) _)); done) | fail) only [↓wpPre, wpPost, wpPoly, Int.reduceToNat, Int.reducePow, Int.reduceMul, Int.reduceAdd, Int.reduceSub, Int.reduceNeg, Nat.reduceAdd, Nat.reduceMul, Nat.reducePow, Int.reduceLT, Int.reduceLE, Int.reduceEq, Nat.reduceEqDiff, e0, e1, e7, ha.len, hb.len, ev]
      have hids := slice_ids (ev h7 (HSub.refl _))
      refine ⟨s7, ?_, fun j hj => by rw [hids j hj]; exact z5⟩
      rw [show ((a.length : Int) + b.length - 1).toNat = a.length + b.length - 1 by omega, hsn] at Rv
      exact Rv
end
end Go.Ae

/- Product, of the program. -/
set_option linter.unusedSimpArgs false
set_option linter.unusedVariables false
namespace Go.Ae
section
variable {C : Ctx}
theorem bigs_spec (hC : Has C T36) {x : Int} {h : Heap} : ACalls C 36 [.int .i64 x] h (fun r h' => r = .bool (bigs x) ∧ h' = h) := by
  (refine calls_intro (hC.body (by decide) tab36) (Nat.le_of_ble_eq_true rfl) ?_); (show wp C _ none B36.code _ _); (simp only [B36]); simp -implicitDefEqProofs (disch := first | assumption | decide | omega | (simp -implicitDefEqProofs only [wpD1] <;> omega) | (refine not_in_one ?_; first | omega | (simp -implicitDefEqProofs only [wpD1] <;> omega) | fail) | (simp -implicitDefEqProofs only [wpD2] <;> assumption) | ((repeat (first | exact HSub.refl _ | assumption | refine HSub.push ?_ _ | refine HSub.reserve ?_ _ | refine HSub.put ?_ (by omega) _)); done) | fail) only [↓wpPre, wpPost, wpPoly, Int.reduceToNat, Int.reducePow, Int.reduceMul, Int.reduceAdd, Int.reduceSub, Int.reduceNeg, Nat.reduceAdd, Nat.reduceMul, Nat.reducePow, Int.reduceLT, Int.reduceLE, Int.reduceEq, Nat.reduceEqDiff]
  (repeat' (first | (refine Br.by (fun _ => ?_) (fun _ => ?_)) | (simp -implicitDefEqProofs (disch := first | assumption | decide | omega | (simp -implicitDefEqProofs only [wpD1] <;> omega) | (refine not_in_one ?_; first | omega | (simp -implicitDefEqProofs only [wpD1] <;> omega) | fail) | (simp -implicitDefEqProofs only [wpD2] <;> assumption) | ((repeat (first | exact HSub.refl _ | assumption | refine HSub.push ?_ _ | refine HSub.reserve ?_ _ | refine HSub.put ?_ (by omega) _)); done) | fail) only [↓wpPre, wpPost, wpPoly, Int.reduceToNat, Int.reducePow, Int.reduceMul, Int.reduceAdd, Int.reduceSub, Int.reduceNeg, Nat.reduceAdd, Nat.reduceMul, Nat.reducePow, Int.reduceLT, Int.reduceLE, Int.reduceEq, Nat.reduceEqDiff])))
  all_goals (simp [bigs]; omega)

set_option maxHeartbeats 4000000 in
theorem Product_spec (hC : Has C T19) {va vb : AV} {a b : List Int} {h : Heap} (ha : RI h va a) (hb : RI h vb b) (hla : a.length ≤ 1000000000 ∧ b.length ≤ 1000000000) :
    ACalls C 19 [va, vb] h (fun r h' => ∃ v', r = lstErr v' (prodErr a b) ∧ HSub h h' ∧ RI h' v' (if prodErr a b = 0 then convL a b else []) ∧ ∀ j ∈ v'.ids, h.size ≤ j) := by
  have asks : ∀ {l : List Int} {h : Heap}, Asks C (.func 36 [] []) bigs l h := fun {l h} => ⟨36, [], rfl, fun x _ => bigs_spec (hC.sub (T' := T36) (by decide))⟩
  have fin : ∀ e, prodErr a b = e → e ≠ 0 → ∃ v', AV.tuple [.nilslice, .int .i64 e] = lstErr v' (prodErr a b) ∧ HSub h h ∧ RI h v' (if prodErr a b = 0 then convL a b else []) ∧ ∀ j ∈ v'.ids, h.size ≤ j := fun e h0 he => ⟨.nilslice, by rw [h0, lstErr], HSub.refl _, by rw [if_neg (by rw [h0]; exact he)]; exact RI.nil, by simp [AV.ids]⟩
  have pe : prodErr a b = if a.length = 0 ∨ b.length = 0 then 3 else if 32768 < a.length + b.length - 1 then 4 else if a.any bigs = true ∨ b.any bigs = true then 2 else if 499122176 < sumAbs a * maxAbs b then 5 else 0 := rfl
  by_cases c0 : a.length = 0 ∨ b.length = 0
  · rw [if_pos c0] at pe
    (refine calls_intro (hC.body (by decide) tab19) (Nat.le_of_ble_eq_true rfl) ?_); (show wp C _ none B19.code _ _); (simp only [B19]); simp -implicitDefEqProofs (disch := first | assumption | decide | omega | (simp -implicitDefEqProofs only [wpD1] <;> omega) | (refine not_in_one ?_; first | omega | (simp -implicitDefEqProofs only [wpD1] <;> omega) | fail) | (simp -implicitDefEqProofs only [wpD2] <;> assumption) | ((repeat (first | exact HSub.refl _ | assumption | refine HSub.push ?_ _ | refine HSub.reserve ?_ _ | refine HSub.put ?_ (by omega) _)); done) | fail) only [↓wpPre, wpPost, wpPoly, Int.reduceToNat, Int.reducePow, Int.reduceMul, Int.reduceAdd, Int.reduceSub, Int.reduceNeg, Nat.reduceAdd, Nat.reduceMul, Nat.reducePow, Int.reduceLT, Int.reduceLE, Int.reduceEq, Nat.reduceEqDiff, ha.len]
    refine Br.by (fun c => ?_) (fun c => ?_)
    · simp -implicitDefEqProofs (disch := first | assumption | decide | omega | (simp -implicitDefEqProofs only [wpD1] <;> omega) | (refine not_in_one ?_; first | omega | (simp -implicitDefEqProofs only [wpD1] <;> omega) | fail) | (simp -implicitDefEqProofs only [wpD2] <;> assumption) | ((repeat (first | exact HSub.refl _ | assumption | refine HSub.push ?_ _ | refine HSub.reserve ?_ _ | refine HSub.put ?_ (by omega) _)); done) | fail) only [↓wpPre, wpPost, wpPoly, Int.reduceToNat, Int.reducePow, Int.reduceMul, Int.reduceAdd, Int.reduceSub, Int.reduceNeg, Nat.reduceAdd, Nat.reduceMul, Nat.reducePow, Int.reduceLT, Int.reduceLE, Int.reduceEq, Nat.reduceEqDiff]
      exact fin 3 pe (by decide)
    · simp -implicitDefEqProofs (disch := first | assumption | decide | omega | (simp -implicitDefEqProofs only [wpD1] <;> omega) | (refine not_in_one ?_; first | omega | (simp -implicitDefEqProofs only [wpD1] <;> omega) | fail) | (simp -implicitDefEqProofs only [wpD2] <;> assumption) | ((repeat (first | exact HSub.refl _ | assumption | refine HSub.push ?_ _ | refine HSub.reserve ?_ _ | refine HSub.put ?_ (by omega) _)); done) | fail) only [↓wpPre, wpPost, wpPoly, Int.reduceToNat, Int.reducePow, Int.reduceMul, Int.reduceAdd, Int.reduceSub, Int.reduceNeg, Nat.reduceAdd, Nat.reduceMul, Nat.reducePow, Int.reduceLT, Int.reduceLE, Int.reduceEq, Nat.reduceEqDiff, hb.len]
      exact fin 3 pe (by decide)
  rw [if_neg c0] at pe
  by_cases c1 : 32768 < a.length + b.length - 1
  · rw [if_pos c1] at pe
    (refine calls_intro (hC.body (by decide) tab19) (Nat.le_of_ble_eq_true rfl) ?_); (show wp C _ none B19.code _ _); (simp only [B19]); simp -implicitDefEqProofs (disch := first | assumption | decide | omega | (simp -implicitDefEqProofs only [wpD1] <;> omega) | (refine not_in_one ?_; first | omega | (simp -implicitDefEqProofs only [wpD1] <;> omega) | fail) | (simp -implicitDefEqProofs only [wpD2] <;> assumption) | ((repeat (first | exact HSub.refl _ | assumption | refine HSub.push ?_ _ | refine HSub.reserve ?_ _ | refine HSub.put ?_ (by omega) _)); done) | fail) only [↓wpPre, wpPost, wpPoly, Int.reduceToNat, Int.reducePow, Int.reduceMul, Int.reduceAdd, Int.reduceSub, Int.reduceNeg, Nat.reduceAdd, Nat.reduceMul, Nat.reducePow, Int.reduceLT, Int.reduceLE, Int.reduceEq, Nat.reduceEqDiff, ha.len, hb.len]
    exact fin 4 pe (by decide)
  rw [if_neg c1] at pe
  (refine calls_intro (hC.body (by decide) tab19) (Nat.le_of_ble_eq_true rfl) ?_); (show wp C _ none B19.code _ _); (simp only [B19]); simp -implicitDefEqProofs (disch := first | assumption | decide | omega | (simp -implicitDefEqProofs only [wpD1] <;> omega) | (refine not_in_one ?_; first | omega | (simp -implicitDefEqProofs only [wpD1] <;> omega) | fail) | (simp -implicitDefEqProofs only [wpD2] <;> assumption) | ((repeat (first | exact HSub.refl _ | assumption | refine HSub.push ?_ _ | refine HSub.reserve ?_ _ | refine HSub.put ?_ (by omega) _)); done) | fail) only [↓wpPre, wpPost, wpPoly, Int.reduceToNat, Int.reducePow, Int.reduceMul, Int.reduceAdd, Int.reduceSub, Int.reduceNeg, Nat.reduceAdd, Nat.reduceMul, Nat.reducePow, Int.reduceLT, Int.reduceLE, Int.reduceEq, Nat.reduceEqDiff, ha.len, hb.len]
  refine ACallsK.eq (ContainsFunc_spec (hC.sub (T' := T37) (by decide)) ha asks) ?_
  by_cases hA : a.any bigs = true
  · rw [if_pos (.inl hA)] at pe
    simp -implicitDefEqProofs (disch := first | assumption | decide | omega | (simp -implicitDefEqProofs only [wpD1] <;> omega) | (refine not_in_one ?_; first | omega | (simp -implicitDefEqProofs only [wpD1] <;> omega) | fail) | (simp -implicitDefEqProofs only [wpD2] <;> assumption) | ((repeat (first | exact HSub.refl _ | assumption | refine HSub.push ?_ _ | refine HSub.reserve ?_ _ | refine HSub.put ?_ (by omega) _)); done) | fail) only [↓wpPre, wpPost, wpPoly, Int.reduceToNat, Int.reducePow, Int.reduceMul, Int.reduceAdd, Int.reduceSub, Int.reduceNeg, Nat.reduceAdd, Nat.reduceMul, Nat.reducePow, Int.reduceLT, Int.reduceLE, Int.reduceEq, Nat.reduceEqDiff]
    exact fin 2 pe (by decide)
  simp -implicitDefEqProofs (disch := first | assumption | decide | omega | (simp -implicitDefEqProofs only [wpD1] <;> omega) | (refine not_in_one ?_; first | omega | (simp -implicitDefEqProofs only [wpD1] <;> omega) | fail) | (simp -implicitDefEqProofs only [wpD2] <;> assumption) | ((repeat (first | exact HSub.refl _ | assumption | refine HSub.push ?_ _ | refine HSub.reserve ?_ _ | refine HSub.put ?_ (by omega) _)); done) | fail) only [↓wpPre, wpPost, wpPoly, Int.reduceToNat, Int.reducePow, Int.reduceMul, Int.reduceAdd, Int.reduceSub, Int.reduceNeg, Nat.reduceAdd, Nat.reduceMul, Nat.reducePow, Int.reduceLT, Int.reduceLE, Int.reduceEq, Nat.reduceEqDiff]
  refine ACallsK.eq (ContainsFunc_spec (hC.sub (T' := T37) (by decide)) hb asks) ?_
  by_cases hB : b.any bigs = true
  · rw [if_pos (.inr hB)] at pe
    simp -implicitDefEqProofs (disch := first | assumption | decide | omega | (simp -implicitDefEqProofs only [wpD1] <;> omega) | (refine not_in_one ?_; first | omega | (simp -implicitDefEqProofs only [wpD1] <;> omega) | fail) | (simp -implicitDefEqProofs only [wpD2] <;> assumption) | ((repeat (first | exact HSub.refl _ | assumption | refine HSub.push ?_ _ | refine HSub.reserve ?_ _ | refine HSub.put ?_ (by omega) _)); done) | fail) only [↓wpPre, wpPost, wpPoly, Int.reduceToNat, Int.reducePow, Int.reduceMul, Int.reduceAdd, Int.reduceSub, Int.reduceNeg, Nat.reduceAdd, Nat.reduceMul, Nat.reducePow, Int.reduceLT, Int.reduceLE, Int.reduceEq, Nat.reduceEqDiff]
    exact fin 2 pe (by decide)
  rw [if_neg (by rintro (h | h) <;> contradiction)] at pe
  have sa := small_of (Bool.eq_false_iff.2 hA)
  have sb := small_of (Bool.eq_false_iff.2 hB)
  simp -implicitDefEqProofs (disch := first | assumption | decide | omega | (simp -implicitDefEqProofs only [wpD1] <;> omega) | (refine not_in_one ?_; first | omega | (simp -implicitDefEqProofs only [wpD1] <;> omega) | fail) | (simp -implicitDefEqProofs only [wpD2] <;> assumption) | ((repeat (first | exact HSub.refl _ | assumption | refine HSub.push ?_ _ | refine HSub.reserve ?_ _ | refine HSub.put ?_ (by omega) _)); done) | fail) only [↓wpPre, wpPost, wpPoly, Int.reduceToNat, Int.reducePow, Int.reduceMul, Int.reduceAdd, Int.reduceSub, Int.reduceNeg, Nat.reduceAdd, Nat.reduceMul, Nat.reducePow, Int.reduceLT, Int.reduceLE, Int.reduceEq, Nat.reduceEqDiff]
  refine ACallsK.eq (heavy_spec (hC.sub (T' := T38) (by decide)) ha hb sa sb (by omega)) ?_
  by_cases c5 : 499122176 < sumAbs a * maxAbs b
  · rw [if_pos c5] at pe
    simp -implicitDefEqProofs (disch := first | assumption | decide | omega | (simp -implicitDefEqProofs only [wpD1] <;> omega) | (refine not_in_one ?_; first | omega | (simp -implicitDefEqProofs only [wpD1] <;> omega) | fail) | (simp -implicitDefEqProofs only [wpD2] <;> assumption) | ((repeat (first | exact HSub.refl _ | assumption | refine HSub.push ?_ _ | refine HSub.reserve ?_ _ | refine HSub.put ?_ (by omega) _)); done) | fail) only [↓wpPre, wpPost, wpPoly, Int.reduceToNat, Int.reducePow, Int.reduceMul, Int.reduceAdd, Int.reduceSub, Int.reduceNeg, Nat.reduceAdd, Nat.reduceMul, Nat.reducePow, Int.reduceLT, Int.reduceLE, Int.reduceEq, Nat.reduceEqDiff]
    exact fin 5 pe (by decide)
  rw [if_neg c5] at pe
  simp -implicitDefEqProofs (disch := first | assumption | decide | omega | (simp -implicitDefEqProofs only [wpD1] <;> omega) | (refine not_in_one ?_; first | omega | (simp -implicitDefEqProofs only [wpD1] <;> omega) | fail) | (simp -implicitDefEqProofs only [wpD2] <;> assumption) | ((repeat (first | exact HSub.refl _ | assumption | refine HSub.push ?_ _ | refine HSub.reserve ?_ _ | refine HSub.put ?_ (by omega) _)); done) | fail) only [↓wpPre, wpPost, wpPoly, Int.reduceToNat, Int.reducePow, Int.reduceMul, Int.reduceAdd, Int.reduceSub, Int.reduceNeg, Nat.reduceAdd, Nat.reduceMul, Nat.reducePow, Int.reduceLT, Int.reduceLE, Int.reduceEq, Nat.reduceEqDiff]
  refine ACallsK.of (product_spec (hC.sub (T' := T39) (by decide)) ha hb sa sb (by omega) (by omega)) ?_
  rintro r h' ⟨s, R, F⟩
  simp -implicitDefEqProofs (disch := first | assumption | decide | omega | (simp -implicitDefEqProofs only [wpD1] <;> omega) | (refine not_in_one ?_; first | omega | (simp -implicitDefEqProofs only [wpD1] <;> omega) | fail) | (simp -implicitDefEqProofs only [wpD2] <;> assumption) | ((repeat (first | exact HSub.refl _ | assumption | refine HSub.push ?_ _ | refine HSub.reserve ?_ _ | refine HSub.put ?_ (by omega) _)); done) | fail) only [↓wpPre, wpPost, wpPoly, Int.reduceToNat, Int.reducePow, Int.reduceMul, Int.reduceAdd, Int.reduceSub, Int.reduceNeg, Nat.reduceAdd, Nat.reduceMul, Nat.reducePow, Int.reduceLT, Int.reduceLE, Int.reduceEq, Nat.reduceEqDiff]
  exact ⟨r, by rw [pe, lstErr], s, by rw [if_pos pe]; exact R, F⟩
theorem ProductR_both (hC : Has C T20) {va vb : AV} {a b : List Int} {h : Heap} (ha : RI h va a) (hb : RI h vb b) (hla : a.length ≤ 1000000000 ∧ b.length ≤ 1000000000) :
    ACalls C 20 [va, vb] h (fun r h' => ∃ v', r = lstErr v' (prodErr a b) ∧ HSub h h' ∧ RI h' v' (if prodErr a b = 0 then convL a b else [])) := by
  refine (ProductR_spec hC ha hb hla).mono ?_
  intro r h' hp
  split at hp
  · rename_i e
    obtain ⟨v', rfl, F⟩ := hp
    exact ⟨v', by rw [e], F.sub, by rw [if_pos e]; exact F.ri⟩
  · rename_i e
    obtain ⟨rfl, rfl⟩ := hp
    exact ⟨_, rfl, HSub.refl _, by rw [if_neg e]; exact RI.nil⟩
end
end Go.Ae

/- Circular of the program's packages cross and ntt. -/
set_option linter.unusedSimpArgs false
set_option linter.unusedVariables false
namespace Go.Ae

/-- The sums of those elements of a list whose places, one further, are m by n. -/
def fldS (c : List Int) (n m : Nat) : Nat → Int
  | 0 => 0
  | i + 1 => fldS c n m i + if (i + 1) % n = m then c.getD i 0 else 0
theorem fldS_eq {c : List Int} {n m : Nat} (hm : m < n) : ∀ i, i ≤ 2 * n - 1 → fldS c n m i = (if 1 ≤ m ∧ m - 1 < i then c.getD (m - 1) 0 else 0) + (if m + n - 1 < i then c.getD (m + n - 1) 0 else 0)
  | 0, _ => by simp [fldS]
  | i + 1, hi => by
    have ih := fldS_eq (c := c) hm i (by omega)
    simp only [fldS, ih]
    have hmod : (i + 1) % n = if i + 1 < n then i + 1 else i + 1 - n := by
      split
      · exact Nat.mod_eq_of_lt (by omega)
      · rw [Nat.mod_eq_sub_mod (by omega)]; exact Nat.mod_eq_of_lt (by omega)
    rw [hmod]
    by_cases c1 : i = m - 1 ∧ 1 ≤ m
    · have e : i = m - 1 := c1.1
      rw [if_pos (show (if i + 1 < n then i + 1 else i + 1 - n) = m by rw [if_pos (by omega)]; omega), if_neg (by omega), if_neg (by omega), if_pos (by omega), if_neg (by omega), e]; omega
    · by_cases c2 : i = m + n - 1
      · rw [if_pos (show (if i + 1 < n then i + 1 else i + 1 - n) = m by rw [if_neg (by omega)]; omega), if_neg (show ¬ m + n - 1 < i by omega), if_pos (show m + n - 1 < i + 1 by omega), ← c2]
        by_cases c3 : 1 ≤ m
        · rw [if_pos (by omega), if_pos (by omega)]; omega
        · rw [if_neg (by omega), if_neg (by omega)]; omega
      · have : ¬ (if i + 1 < n then i + 1 else i + 1 - n) = m := by split <;> omega
        rw [if_neg this, Int.add_zero]
        congr 1
        · by_cases c3 : 1 ≤ m ∧ m - 1 < i
          · rw [if_pos c3, if_pos (by omega)]
          · rw [if_neg c3, if_neg (by omega)]
        · by_cases c3 : m + n - 1 < i
          · rw [if_pos c3, if_pos (by omega)]
          · rw [if_neg c3, if_neg (by omega)]
theorem rev_get {a : List Int} {i : Nat} (hi : i < a.length) : a.reverse.getD i 0 = a.getD (a.length - 1 - i) 0 := by simp [List.getElem?_reverse hi]
theorem circ_cfs {a b : List Int} (hl : a.length = b.length) {k : Nat} (hk : k < a.length) : ∀ i, i ≤ a.length →
    (if 1 ≤ k then cfs a.reverse b i (k - 1) else 0) + cfs a.reverse b i (k + a.length - 1) + cs a b k (a.length - i) = cs a b k a.length
  | 0, _ => by simp [cfs]
  | i + 1, hi => by
    have ih := circ_cfs hl hk i (by omega)
    rw [← ih]
    have e : a.length - i = (a.length - (i + 1)) + 1 := by omega
    rw [e]
    simp only [cs, cfs]
    rw [rev_get (by omega), show a.length - 1 - i = a.length - (i + 1) by omega]
    have hmod : (a.length - (i + 1) + k) % b.length = if a.length - (i + 1) + k < b.length then a.length - (i + 1) + k else a.length - (i + 1) + k - b.length := by
      split
      · exact Nat.mod_eq_of_lt (by omega)
      · rw [Nat.mod_eq_sub_mod (by omega)]; exact Nat.mod_eq_of_lt (by omega)
    rw [hmod]
    generalize a.getD (a.length - (i + 1)) 0 = x
    unfold row
    by_cases c1 : a.length - (i + 1) + k < b.length
    · rw [if_pos c1, if_pos (show i ≤ k + a.length - 1 ∧ k + a.length - 1 - i < b.length by omega), show k + a.length - 1 - i = a.length - (i + 1) + k by omega]
      by_cases c2 : 1 ≤ k
      · rw [if_pos c2, if_pos c2, if_neg (by omega)]; omega
      · rw [if_neg c2, if_neg c2]; omega
    · rw [if_neg c1, if_neg (show ¬ (i ≤ k + a.length - 1 ∧ k + a.length - 1 - i < b.length) by omega), if_pos (show 1 ≤ k by omega), if_pos (show 1 ≤ k by omega), if_pos (show i ≤ k - 1 ∧ k - 1 - i < b.length by omega), show k - 1 - i = a.length - (i + 1) + k - b.length by omega]; omega
/-- The product of the reverse, folded. -/
theorem fld_conv {a b : List Int} (hl : a.length = b.length) {m : Nat} (hm : m < a.length) : fldS (convL a.reverse b) a.length m (2 * a.length - 1) = (circ a b).getD m 0 := by
  have hc := convL_length a.reverse b
  simp only [List.length_reverse] at hc
  have gc : ∀ t, t < 2 * a.length - 1 → (convL a.reverse b).getD t 0 = cfs a.reverse b a.length t := fun t ht => by
    have : t < a.reverse.length + b.length - 1 := by simp; omega
    unfold convL; rw [range_get this, List.length_reverse]
  rw [fldS_eq hm _ (Nat.le_refl _)]
  have h1 := circ_cfs hl hm a.length (Nat.le_refl _)
  rw [Nat.sub_self] at h1
  simp only [cs, Int.add_zero] at h1
  unfold circ
  rw [range_get hm, ← h1]
  congr 1
  · by_cases c : 1 ≤ m
    · rw [if_pos (by omega), if_pos c, gc _ (by omega)]
    · rw [if_neg (by omega), if_neg c]
  · rw [if_pos (by omega), gc _ (by omega)]

section
variable {C : Ctx}
theorem bigs46_spec (hC : Has C T46) {x : Int} {h : Heap} : ACalls C 46 [.int .i64 x] h (fun r h' => r = .bool (bigs x) ∧ h' = h) := by
  (refine calls_intro (hC.body (by decide) tab46) (Nat.le_of_ble_eq_true rfl) ?_); (show wp C _ none B46.code _ _); (simp only [B46]); simp -implicitDefEqProofs (disch := first | assumption | decide | omega | (simp -implicitDefEqProofs only [wpD1] <;> omega) | (refine not_in_one ?_; first | omega | (simp -implicitDefEqProofs only [wpD1] <;> omega) | fail) | (simp -implicitDefEqProofs only [wpD2] <;> assumption) | ((repeat (first | exact HSub.refl _ | assumption | refine HSub.push ?_ _ | refine HSub.reserve ?_ _ | refine HSub.put ?_ (by omega) _)); done) | fail) only [↓wpPre, wpPost, wpPoly, Int.reduceToNat, Int.reducePow, Int.reduceMul, Int.reduceAdd, Int.reduceSub, Int.reduceNeg, Nat.reduceAdd, Nat.reduceMul, Nat.reducePow, Int.reduceLT, Int.reduceLE, Int.reduceEq, Nat.reduceEqDiff]
  (repeat' (first | (refine Br.by (fun _ => ?_) (fun _ => ?_)) | (simp -implicitDefEqProofs (disch := first | assumption | decide | omega | (simp -implicitDefEqProofs only [wpD1] <;> omega) | (refine not_in_one ?_; first | omega | (simp -implicitDefEqProofs only [wpD1] <;> omega) | fail) | (simp -implicitDefEqProofs only [wpD2] <;> assumption) | ((repeat (first | exact HSub.refl _ | assumption | refine HSub.push ?_ _ | refine HSub.reserve ?_ _ | refine HSub.put ?_ (by omega) _)); done) | fail) only [↓wpPre, wpPost, wpPoly, Int.reduceToNat, Int.reducePow, Int.reduceMul, Int.reduceAdd, Int.reduceSub, Int.reduceNeg, Nat.reduceAdd, Nat.reduceMul, Nat.reducePow, Int.reduceLT, Int.reduceLE, Int.reduceEq, Nat.reduceEqDiff])))
  all_goals (simp [bigs]; omega)
theorem bigs41_spec (hC : Has C T41) {x : Int} {h : Heap} : ACalls C 41 [.int .i64 x] h (fun r h' => r = .bool (bigs x) ∧ h' = h) := by
  (refine calls_intro (hC.body (by decide) tab41) (Nat.le_of_ble_eq_true rfl) ?_); (show wp C _ none B41.code _ _); (simp only [B41]); simp -implicitDefEqProofs (disch := first | assumption | decide | omega | (simp -implicitDefEqProofs only [wpD1] <;> omega) | (refine not_in_one ?_; first | omega | (simp -implicitDefEqProofs only [wpD1] <;> omega) | fail) | (simp -implicitDefEqProofs only [wpD2] <;> assumption) | ((repeat (first | exact HSub.refl _ | assumption | refine HSub.push ?_ _ | refine HSub.reserve ?_ _ | refine HSub.put ?_ (by omega) _)); done) | fail) only [↓wpPre, wpPost, wpPoly, Int.reduceToNat, Int.reducePow, Int.reduceMul, Int.reduceAdd, Int.reduceSub, Int.reduceNeg, Nat.reduceAdd, Nat.reduceMul, Nat.reducePow, Int.reduceLT, Int.reduceLE, Int.reduceEq, Nat.reduceEqDiff]
  (repeat' (first | (refine Br.by (fun _ => ?_) (fun _ => ?_)) | (simp -implicitDefEqProofs (disch := first | assumption | decide | omega | (simp -implicitDefEqProofs only [wpD1] <;> omega) | (refine not_in_one ?_; first | omega | (simp -implicitDefEqProofs only [wpD1] <;> omega) | fail) | (simp -implicitDefEqProofs only [wpD2] <;> assumption) | ((repeat (first | exact HSub.refl _ | assumption | refine HSub.push ?_ _ | refine HSub.reserve ?_ _ | refine HSub.put ?_ (by omega) _)); done) | fail) only [↓wpPre, wpPost, wpPoly, Int.reduceToNat, Int.reducePow, Int.reduceMul, Int.reduceAdd, Int.reduceSub, Int.reduceNeg, Nat.reduceAdd, Nat.reduceMul, Nat.reducePow, Int.reduceLT, Int.reduceLE, Int.reduceEq, Nat.reduceEqDiff])))
  all_goals (simp [bigs]; omega)

theorem twice_get {b : List Int} {i k : Nat} (hi : i < b.length) (hk : k < b.length) : (b ++ b).getD (k + i) 0 = b.getD ((i + k) % b.length) 0 := by
  simp only [List.getD_eq_getElem?_getD]
  by_cases c : i + k < b.length
  · rw [Nat.mod_eq_of_lt c, List.getElem?_append_left (by omega), Nat.add_comm]
  · rw [List.getElem?_append_right (by omega), Nat.mod_eq_sub_mod (by omega), Nat.mod_eq_of_lt (by omega), Nat.add_comm]

set_option maxHeartbeats 1000000 in
theorem CircP_spec (hC : Has C T25) {va vb : AV} {a b : List Int} {h : Heap} (ha : RI h va a) (hb : RI h vb b) :
    ACalls C 25 [va, vb] h (fun r h' => ∃ v', r = lstErr v' (circErr a b) ∧ HSub h h' ∧ RI h' v' (if circErr a b = 0 then circ a b else [])) := by
  have asks : ∀ {l : List Int} {h : Heap}, Asks C (.func 46 [] []) bigs l h := fun {l h} => ⟨46, [], rfl, fun x _ => bigs46_spec (hC.sub (T' := T46) (by decide))⟩
  have l1 := ha.lt
  have l2 := hb.lt
  have c0 := hb.cells
  have o0 := hb.one
  have fin : ∀ e, circErr a b = e → e ≠ 0 → ∃ v', AV.tuple [.nilslice, .int .i64 e] = lstErr v' (circErr a b) ∧ HSub h h ∧ RI h v' (if circErr a b = 0 then circ a b else []) := fun e h0 he => ⟨.nilslice, by rw [h0, lstErr], HSub.refl _, by rw [if_neg (by rw [h0]; exact he)]; exact RI.nil⟩
  have pe : circErr a b = if a.length = 0 then 3 else if 8192 < a.length then 4 else if a.length ≠ b.length then 10 else if a.any bigs = true ∨ b.any bigs = true then 2 else 0 := rfl
  by_cases c0 : a.length = 0
  · rw [if_pos c0] at pe
    (refine calls_intro (hC.body (by decide) tab25) (Nat.le_of_ble_eq_true rfl) ?_); (show wp C _ none B25.code _ _); (simp only [B25]); simp -implicitDefEqProofs (disch := first | assumption | decide | omega | (simp -implicitDefEqProofs only [wpD1] <;> omega) | (refine not_in_one ?_; first | omega | (simp -implicitDefEqProofs only [wpD1] <;> omega) | fail) | (simp -implicitDefEqProofs only [wpD2] <;> assumption) | ((repeat (first | exact HSub.refl _ | assumption | refine HSub.push ?_ _ | refine HSub.reserve ?_ _ | refine HSub.put ?_ (by omega) _)); done) | fail) only [↓wpPre, wpPost, wpPoly, Int.reduceToNat, Int.reducePow, Int.reduceMul, Int.reduceAdd, Int.reduceSub, Int.reduceNeg, Nat.reduceAdd, Nat.reduceMul, Nat.reducePow, Int.reduceLT, Int.reduceLE, Int.reduceEq, Nat.reduceEqDiff, ha.len]
    exact fin 3 pe (by decide)
  rw [if_neg c0] at pe
  by_cases c1 : 8192 < a.length
  · rw [if_pos c1] at pe
    (refine calls_intro (hC.body (by decide) tab25) (Nat.le_of_ble_eq_true rfl) ?_); (show wp C _ none B25.code _ _); (simp only [B25]); simp -implicitDefEqProofs (disch := first | assumption | decide | omega | (simp -implicitDefEqProofs only [wpD1] <;> omega) | (refine not_in_one ?_; first | omega | (simp -implicitDefEqProofs only [wpD1] <;> omega) | fail) | (simp -implicitDefEqProofs only [wpD2] <;> assumption) | ((repeat (first | exact HSub.refl _ | assumption | refine HSub.push ?_ _ | refine HSub.reserve ?_ _ | refine HSub.put ?_ (by omega) _)); done) | fail) only [↓wpPre, wpPost, wpPoly, Int.reduceToNat, Int.reducePow, Int.reduceMul, Int.reduceAdd, Int.reduceSub, Int.reduceNeg, Nat.reduceAdd, Nat.reduceMul, Nat.reducePow, Int.reduceLT, Int.reduceLE, Int.reduceEq, Nat.reduceEqDiff, ha.len]
    exact fin 4 pe (by decide)
  rw [if_neg c1] at pe
  by_cases c2 : a.length ≠ b.length
  · rw [if_pos c2] at pe
    (refine calls_intro (hC.body (by decide) tab25) (Nat.le_of_ble_eq_true rfl) ?_); (show wp C _ none B25.code _ _); (simp only [B25]); simp -implicitDefEqProofs (disch := first | assumption | decide | omega | (simp -implicitDefEqProofs only [wpD1] <;> omega) | (refine not_in_one ?_; first | omega | (simp -implicitDefEqProofs only [wpD1] <;> omega) | fail) | (simp -implicitDefEqProofs only [wpD2] <;> assumption) | ((repeat (first | exact HSub.refl _ | assumption | refine HSub.push ?_ _ | refine HSub.reserve ?_ _ | refine HSub.put ?_ (by omega) _)); done) | fail) only [↓wpPre, wpPost, wpPoly, Int.reduceToNat, Int.reducePow, Int.reduceMul, Int.reduceAdd, Int.reduceSub, Int.reduceNeg, Nat.reduceAdd, Nat.reduceMul, Nat.reducePow, Int.reduceLT, Int.reduceLE, Int.reduceEq, Nat.reduceEqDiff, ha.len, hb.len]
    exact fin 10 pe (by decide)
  have c2' : a.length = b.length := by omega
  rw [if_neg c2] at pe
  (refine calls_intro (hC.body (by decide) tab25) (Nat.le_of_ble_eq_true rfl) ?_); (show wp C _ none B25.code _ _); (simp only [B25]); simp -implicitDefEqProofs (disch := first | assumption | decide | omega | (simp -implicitDefEqProofs only [wpD1] <;> omega) | (refine not_in_one ?_; first | omega | (simp -implicitDefEqProofs only [wpD1] <;> omega) | fail) | (simp -implicitDefEqProofs only [wpD2] <;> assumption) | ((repeat (first | exact HSub.refl _ | assumption | refine HSub.push ?_ _ | refine HSub.reserve ?_ _ | refine HSub.put ?_ (by omega) _)); done) | fail) only [↓wpPre, wpPost, wpPoly, Int.reduceToNat, Int.reducePow, Int.reduceMul, Int.reduceAdd, Int.reduceSub, Int.reduceNeg, Nat.reduceAdd, Nat.reduceMul, Nat.reducePow, Int.reduceLT, Int.reduceLE, Int.reduceEq, Nat.reduceEqDiff, ha.len, hb.len]
  refine ACallsK.eq (ContainsFunc_spec (hC.sub (T' := T37) (by decide)) ha asks) ?_
  by_cases hA : a.any bigs = true
  · rw [if_pos (.inl hA)] at pe
    simp -implicitDefEqProofs (disch := first | assumption | decide | omega | (simp -implicitDefEqProofs only [wpD1] <;> omega) | (refine not_in_one ?_; first | omega | (simp -implicitDefEqProofs only [wpD1] <;> omega) | fail) | (simp -implicitDefEqProofs only [wpD2] <;> assumption) | ((repeat (first | exact HSub.refl _ | assumption | refine HSub.push ?_ _ | refine HSub.reserve ?_ _ | refine HSub.put ?_ (by omega) _)); done) | fail) only [↓wpPre, wpPost, wpPoly, Int.reduceToNat, Int.reducePow, Int.reduceMul, Int.reduceAdd, Int.reduceSub, Int.reduceNeg, Nat.reduceAdd, Nat.reduceMul, Nat.reducePow, Int.reduceLT, Int.reduceLE, Int.reduceEq, Nat.reduceEqDiff]
    exact fin 2 pe (by decide)
  simp -implicitDefEqProofs (disch := first | assumption | decide | omega | (simp -implicitDefEqProofs only [wpD1] <;> omega) | (refine not_in_one ?_; first | omega | (simp -implicitDefEqProofs only [wpD1] <;> omega) | fail) | (simp -implicitDefEqProofs only [wpD2] <;> assumption) | ((repeat (first | exact HSub.refl _ | assumption | refine HSub.push ?_ _ | refine HSub.reserve ?_ _ | refine HSub.put ?_ (by omega) _)); done) | fail) only [↓wpPre, wpPost, wpPoly, Int.reduceToNat, Int.reducePow, Int.reduceMul, Int.reduceAdd, Int.reduceSub, Int.reduceNeg, Nat.reduceAdd, Nat.reduceMul, Nat.reducePow, Int.reduceLT, Int.reduceLE, Int.reduceEq, Nat.reduceEqDiff]
  refine ACallsK.eq (ContainsFunc_spec (hC.sub (T' := T37) (by decide)) hb asks) ?_
  by_cases hB : b.any bigs = true
  · rw [if_pos (.inr hB)] at pe
    simp -implicitDefEqProofs (disch := first | assumption | decide | omega | (simp -implicitDefEqProofs only [wpD1] <;> omega) | (refine not_in_one ?_; first | omega | (simp -implicitDefEqProofs only [wpD1] <;> omega) | fail) | (simp -implicitDefEqProofs only [wpD2] <;> assumption) | ((repeat (first | exact HSub.refl _ | assumption | refine HSub.push ?_ _ | refine HSub.reserve ?_ _ | refine HSub.put ?_ (by omega) _)); done) | fail) only [↓wpPre, wpPost, wpPoly, Int.reduceToNat, Int.reducePow, Int.reduceMul, Int.reduceAdd, Int.reduceSub, Int.reduceNeg, Nat.reduceAdd, Nat.reduceMul, Nat.reducePow, Int.reduceLT, Int.reduceLE, Int.reduceEq, Nat.reduceEqDiff]
    exact fin 2 pe (by decide)
  rw [if_neg (by rintro (h | h) <;> contradiction)] at pe
  have sa := small_of (Bool.eq_false_iff.2 hA)
  have sb := small_of (Bool.eq_false_iff.2 hB)
  simp -implicitDefEqProofs (disch := first | assumption | decide | omega | (simp -implicitDefEqProofs only [wpD1] <;> omega) | (refine not_in_one ?_; first | omega | (simp -implicitDefEqProofs only [wpD1] <;> omega) | fail) | (simp -implicitDefEqProofs only [wpD2] <;> assumption) | ((repeat (first | exact HSub.refl _ | assumption | refine HSub.push ?_ _ | refine HSub.reserve ?_ _ | refine HSub.put ?_ (by omega) _)); done) | fail) only [↓wpPre, wpPost, wpPoly, Int.reduceToNat, Int.reducePow, Int.reduceMul, Int.reduceAdd, Int.reduceSub, Int.reduceNeg, Nat.reduceAdd, Nat.reduceMul, Nat.reducePow, Int.reduceLT, Int.reduceLE, Int.reduceEq, Nat.reduceEqDiff]
  have s1 := sumAbs_small sa
  have s2 := sumAbs_nonneg a
  have s3 := maxAbs_small sb
  have s4 := maxAbs_nonneg b
  have p2 : sumAbs a * maxAbs b ≤ 8192000000 * 1000000 := Int.mul_le_mul (by omega) s3 s4 (by omega)
  have hbb : RI (h.push (.cells [vb, vb] true 0)) vb b := hb.mono (HSub.push1 _ _)
  have efl : flatP [(vb, b), (vb, b)] = b ++ b := by simp [flatP]
  refine ACallsK.of (Concat_spec (hC.sub (T' := T47) (by decide)) (ps := [(vb, b), (vb, b)]) (j := h.size) (u := 0) (wr := true) (get_push_eq rfl) (by intro p hp; simp only [List.mem_cons, List.not_mem_nil, or_false] at hp; rcases hp with rfl | rfl <;> exact ⟨hbb, by simp only; omega⟩) (by simp) (by rw [efl]; simp; omega)) ?_
  rintro r h1 A
  rw [efl] at A
  have A0 := A.sub
  have hs0 : HSub h h1 := (HSub.push1 _ _).trans A0
  have hr := A.ri
  have ha1 := ha.mono hs0
  simp -implicitDefEqProofs (disch := first | assumption | decide | omega | (simp -implicitDefEqProofs only [wpD1] <;> omega) | (refine not_in_one ?_; first | omega | (simp -implicitDefEqProofs only [wpD1] <;> omega) | fail) | (simp -implicitDefEqProofs only [wpD2] <;> assumption) | ((repeat (first | exact HSub.refl _ | assumption | refine HSub.push ?_ _ | refine HSub.reserve ?_ _ | refine HSub.put ?_ (by omega) _)); done) | fail) only [↓wpPre, wpPost, wpPoly, Int.reduceToNat, Int.reducePow, Int.reduceMul, Int.reduceAdd, Int.reduceSub, Int.reduceNeg, Nat.reduceAdd, Nat.reduceMul, Nat.reducePow, Int.reduceLT, Int.reduceLE, Int.reduceEq, Nat.reduceEqDiff, ha.len, ints_replicate]
  have hN : ∀ f : Nat → Int, ((List.range a.length).map f).length = a.length := fun f => by simp
  refine wp_loopI (fun j t h' => ∃ k : Nat, h' = h1.push (.cells (ints ((List.range a.length).map (cpre a b k 0))) true 0) ∧ t 0 = va ∧ t 7 = r ∧ t 8 = .slice h1.size 0 a.length (.known a.length) ∧ t 40 = .slice h1.size 0 a.length (.known a.length) ∧ t 41 = .int .i64 a.length ∧ t 42 = .int .i64 (k : Nat) ∧ k ≤ a.length ∧ j = a.length - k) (j0 := a.length)
    ⟨0, ?_, rfl, rfl, rfl, rfl, rfl, rfl, by omega, rfl⟩ ?_
  · have e : (List.range a.length).map (cpre a b 0 0) = List.replicate a.length 0 := by
      have : cpre a b 0 0 = fun _ => 0 := by funext n; simp [cpre, cs]
      rw [this, List.map_const', List.length_range]
    rw [e]
  rintro j t h2 ⟨k, rfl, e0, e7, e8, e40, e41, e42, hk, hj⟩
  simp -implicitDefEqProofs (disch := first | assumption | decide | omega | (simp -implicitDefEqProofs only [wpD1] <;> omega) | (refine not_in_one ?_; first | omega | (simp -implicitDefEqProofs only [wpD1] <;> omega) | fail) | (simp -implicitDefEqProofs only [wpD2] <;> assumption) | ((repeat (first | exact HSub.refl _ | assumption | refine HSub.push ?_ _ | refine HSub.reserve ?_ _ | refine HSub.put ?_ (by omega) _)); done) | fail) only [↓wpPre, wpPost, wpPoly, Int.reduceToNat, Int.reducePow, Int.reduceMul, Int.reduceAdd, Int.reduceSub, Int.reduceNeg, Nat.reduceAdd, Nat.reduceMul, Nat.reducePow, Int.reduceLT, Int.reduceLE, Int.reduceEq, Nat.reduceEqDiff, e41, e42]
  refine Br.by (fun c => ?_) (fun c => ?_)
  · have hk' : k < a.length := by omega
    simp -implicitDefEqProofs (disch := first | assumption | decide | omega | (simp -implicitDefEqProofs only [wpD1] <;> omega) | (refine not_in_one ?_; first | omega | (simp -implicitDefEqProofs only [wpD1] <;> omega) | fail) | (simp -implicitDefEqProofs only [wpD2] <;> assumption) | ((repeat (first | exact HSub.refl _ | assumption | refine HSub.push ?_ _ | refine HSub.reserve ?_ _ | refine HSub.put ?_ (by omega) _)); done) | fail) only [↓wpPre, wpPost, wpPoly, Int.reduceToNat, Int.reducePow, Int.reduceMul, Int.reduceAdd, Int.reduceSub, Int.reduceNeg, Nat.reduceAdd, Nat.reduceMul, Nat.reducePow, Int.reduceLT, Int.reduceLE, Int.reduceEq, Nat.reduceEqDiff, e0, ha.len, e42]
    refine wp_loopI (fun j t h' => ∃ i : Nat, h' = h1.push (.cells (ints ((List.range a.length).map (cpre a b k i))) true 0) ∧ t 0 = va ∧ t 7 = r ∧ t 8 = .slice h1.size 0 a.length (.known a.length) ∧ t 40 = .slice h1.size 0 a.length (.known a.length) ∧ t 41 = .int .i64 a.length ∧ t 42 = .int .i64 (k : Nat) ∧ t 9 = .int .i64 (k : Nat) ∧ t 45 = va ∧ t 46 = .int .i64 a.length ∧ t 47 = .int .i64 (i : Nat) ∧ i ≤ a.length ∧ j = a.length - i) (j0 := a.length)
      ⟨0, rfl, e0, e7, e8, e40, e41, e42, rfl, rfl, rfl, rfl, by omega, rfl⟩ ?_
    rintro j t h3 ⟨i, rfl, e0, e7, e8, e40, e41, e42, e9, e45, e46, e47, hi, hj⟩
    simp -implicitDefEqProofs (disch := first | assumption | decide | omega | (simp -implicitDefEqProofs only [wpD1] <;> omega) | (refine not_in_one ?_; first | omega | (simp -implicitDefEqProofs only [wpD1] <;> omega) | fail) | (simp -implicitDefEqProofs only [wpD2] <;> assumption) | ((repeat (first | exact HSub.refl _ | assumption | refine HSub.push ?_ _ | refine HSub.reserve ?_ _ | refine HSub.put ?_ (by omega) _)); done) | fail) only [↓wpPre, wpPost, wpPoly, Int.reduceToNat, Int.reducePow, Int.reduceMul, Int.reduceAdd, Int.reduceSub, Int.reduceNeg, Nat.reduceAdd, Nat.reduceMul, Nat.reducePow, Int.reduceLT, Int.reduceLE, Int.reduceEq, Nat.reduceEqDiff, e46, e47]
    refine Br.by (fun c2 => ?_) (fun c2 => ?_)
    · have hi' : i < a.length := by omega
      have hm : (i + k) % b.length < b.length := Nat.mod_lt _ (by omega)
      have b1 := absI_le (Int.le_trans (cs_abs a b k (by omega) i hi) (Int.mul_le_mul_of_nonneg_right (sumAbs_take_le a i) s4))
      have b4 : absI (a.getD i 0 * b.getD ((i + k) % b.length) 0) ≤ 1000000 * 1000000 := by
        rw [absI_mul]
        exact Int.mul_le_mul (small_abs sa hi') (small_abs sb hm) (absI_nonneg _) (by omega)
      have b5 := absI_le b4
      have g : ((List.range a.length).map (cpre a b k i)).getD k 0 = cs a b k i := by rw [range_get hk']; simp [cpre]
      have hNk := hN (cpre a b k i)
      have tg := twice_get (b := b) (i := i) (k := k) (by omega) (by omega)
      have tl : (b ++ b).length = b.length + b.length := List.length_append
      have tn : ((k : Int) + i).toNat = k + i := by omega
      generalize hq : (i + k) % b.length = q at hm b4 b5 tg
      simp -implicitDefEqProofs (disch := first | assumption | decide | omega | (simp -implicitDefEqProofs only [wpD1] <;> omega) | (refine not_in_one ?_; first | omega | (simp -implicitDefEqProofs only [wpD1] <;> omega) | fail) | (simp -implicitDefEqProofs only [wpD2] <;> assumption) | ((repeat (first | exact HSub.refl _ | assumption | refine HSub.push ?_ _ | refine HSub.reserve ?_ _ | refine HSub.put ?_ (by omega) _)); done) | fail) only [↓wpPre, wpPost, wpPoly, Int.reduceToNat, Int.reducePow, Int.reduceMul, Int.reduceAdd, Int.reduceSub, Int.reduceNeg, Nat.reduceAdd, Nat.reduceMul, Nat.reducePow, Int.reduceLT, Int.reduceLE, Int.reduceEq, Nat.reduceEqDiff, e0, e7, e8, e9, e40, e41, e42, e45, e46, e47, ha1.idx, hr.idx, ha1.loadC, hr.loadC, tn, tg, g]
      refine ⟨_, ⟨i + 1, ?_, by simp, by omega, rfl⟩, by omega⟩
      rw [range_set (g := cpre a b k (i + 1)) (by simp [cpre, cs, hq]) (fun n hn => by simp only [cpre, if_neg hn])]
    · have : i = a.length := by omega
      subst this
      have e : cpre a b k a.length = cpre a b (k + 1) 0 := by
        funext n
        simp only [cpre]
        by_cases h1 : n < k
        · rw [if_pos h1, if_pos (by omega)]
        · rw [if_neg h1]
          by_cases h2 : n = k
          · rw [if_pos h2, if_pos (by omega), h2]
          · rw [if_neg h2, if_neg (by omega)]; simp [cs]
      rw [e]
      simp -implicitDefEqProofs (disch := first | assumption | decide | omega | (simp -implicitDefEqProofs only [wpD1] <;> omega) | (refine not_in_one ?_; first | omega | (simp -implicitDefEqProofs only [wpD1] <;> omega) | fail) | (simp -implicitDefEqProofs only [wpD2] <;> assumption) | ((repeat (first | exact HSub.refl _ | assumption | refine HSub.push ?_ _ | refine HSub.reserve ?_ _ | refine HSub.put ?_ (by omega) _)); done) | fail) only [↓wpPre, wpPost, wpPoly, Int.reduceToNat, Int.reducePow, Int.reduceMul, Int.reduceAdd, Int.reduceSub, Int.reduceNeg, Nat.reduceAdd, Nat.reduceMul, Nat.reducePow, Int.reduceLT, Int.reduceLE, Int.reduceEq, Nat.reduceEqDiff, e0, e7, e8, e40, e41, e42]
      exact ⟨_, ⟨k + 1, rfl, by simp, by omega, rfl⟩, by omega⟩
  · have : k = a.length := by omega
    subst this
    simp -implicitDefEqProofs (disch := first | assumption | decide | omega | (simp -implicitDefEqProofs only [wpD1] <;> omega) | (refine not_in_one ?_; first | omega | (simp -implicitDefEqProofs only [wpD1] <;> omega) | fail) | (simp -implicitDefEqProofs only [wpD2] <;> assumption) | ((repeat (first | exact HSub.refl _ | assumption | refine HSub.push ?_ _ | refine HSub.reserve ?_ _ | refine HSub.put ?_ (by omega) _)); done) | fail) only [↓wpPre, wpPost, wpPoly, Int.reduceToNat, Int.reducePow, Int.reduceMul, Int.reduceAdd, Int.reduceSub, Int.reduceNeg, Nat.reduceAdd, Nat.reduceMul, Nat.reducePow, Int.reduceLT, Int.reduceLE, Int.reduceEq, Nat.reduceEqDiff, e8]
    have e : (List.range a.length).map (cpre a b a.length 0) = circ a b := by
      refine List.map_congr_left fun n hn => ?_
      rw [List.mem_range] at hn
      simp only [cpre, if_pos hn]
    rw [e]
    have cl := circ_length a b
    exact ⟨.slice h1.size 0 a.length (.known a.length), by simp only [pe, lstErr], hs0.push _, by rw [if_pos pe]; exact RI.known (get_push_eq rfl) ⟨by rw [cl], by omega⟩ (by omega)⟩
end
end Go.Ae
