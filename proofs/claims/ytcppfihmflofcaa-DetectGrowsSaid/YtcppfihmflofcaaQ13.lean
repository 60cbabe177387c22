/- Texts of the proof, part 13: a second reading of the lowered code, proved sound, and what the functions compute. -/
import Derived.Test.YtcppfihmflofcaaQ12
/- Full products of two words; what a plan, a gain and a code come to: the program. -/
set_option linter.unusedSimpArgs false
set_option linter.unusedVariables false
namespace Go.Ae
theorem w_u64m (x : Int) : IntKind.u64.wrap x = x % 18446744073709551616 := by
 unfold IntKind.wrap
 rfl
theorem mul_hi {a b : Int} (ha : 0 ≤ a ∧ a < 18446744073709551616) (hb : 0 ≤ b ∧ b < 18446744073709551616) :
  0 ≤ a % 4294967296 * (b % 4294967296) ∧ a % 4294967296 * (b % 4294967296) ≤ 18446744065119617025 ∧ 0 ≤ a / 4294967296 * (b % 4294967296) ∧ a / 4294967296 * (b % 4294967296) ≤ 18446744065119617025 ∧
  0 ≤ a % 4294967296 * (b / 4294967296) ∧ a % 4294967296 * (b / 4294967296) ≤ 18446744065119617025 ∧ 0 ≤ a / 4294967296 * (b / 4294967296) ∧ a / 4294967296 * (b / 4294967296) ≤ 18446744065119617025 ∧
  a * b = a / 4294967296 * (b / 4294967296) * 18446744073709551616 + (a / 4294967296 * (b % 4294967296) + a % 4294967296 * (b / 4294967296)) * 4294967296 + a % 4294967296 * (b % 4294967296) := by
 have ea : a = a / 4294967296 * 4294967296 + a % 4294967296 := by omega
 have eb : b = b / 4294967296 * 4294967296 + b % 4294967296 := by omega
 have a1 : 0 ≤ a / 4294967296 ∧ a / 4294967296 ≤ 4294967295 := by omega
 have a0 : 0 ≤ a % 4294967296 ∧ a % 4294967296 ≤ 4294967295 := by omega
 have b1 : 0 ≤ b / 4294967296 ∧ b / 4294967296 ≤ 4294967295 := by omega
 have b0 : 0 ≤ b % 4294967296 ∧ b % 4294967296 ≤ 4294967295 := by omega
 generalize a / 4294967296 = x1 at *
 generalize a % 4294967296 = x0 at *
 generalize b / 4294967296 = y1 at *
 generalize b % 4294967296 = y0 at *
 have pr : ∀ {x y : Int}, 0 ≤ x ∧ x ≤ 4294967295 → 0 ≤ y ∧ y ≤ 4294967295 → 0 ≤ x * y ∧ x * y ≤ 18446744065119617025 := fun hx hy =>
  ⟨Int.mul_nonneg hx.1 hy.1, Int.le_trans (Int.mul_le_mul hx.2 hy.2 hy.1 (by decide)) (by decide)⟩
 have p1 := pr a0 b0
 have p2 := pr a1 b0
 have p3 := pr a0 b1
 have p4 := pr a1 b1
 refine ⟨p1.1, p1.2, p2.1, p2.2, p3.1, p3.2, p4.1, p4.2, ?_⟩
 rw [ea, eb]
 grind
def askErr (p : PlanP) (b s : Int) : Int := if p.err = 0 then gErr b s else p.err
def detErr (p : PlanP) (b s prn : Int) : Int := if askErr p b s = 0 then if prn ∈ p.prns then 0 else 18 else askErr p b s
theorem askErr_ok {p : PlanP} {b s : Int} (h : askErr p b s = 0) : PlanOk p ∧ gErr b s = 0 := by
 unfold askErr at h
 split at h
 ·rename_i c; exact ⟨planOk_of c, h⟩
 ·contradiction
theorem detErr_ok {p : PlanP} {b s prn : Int} (h : detErr p b s prn = 0) : askErr p b s = 0 ∧ prn ∈ p.prns := by
 unfold detErr at h
 split at h
 ·rename_i c
  split at h
  ·rename_i c2; exact ⟨c, c2⟩
  ·cases h
 ·contradiction
section
variable {C : Ctx}
theorem Mul64_full (hC : Has C T105) {a b : Int} {h : Heap} (ha : 0 ≤ a ∧ a < 18446744073709551616) (hb : 0 ≤ b ∧ b < 18446744073709551616) :
  ACalls C 105 [.int .u64 a, .int .u64 b] h (fun r h' => r = .tuple [.int .u64 (a * b / 18446744073709551616), .int .u64 (a * b % 18446744073709551616)] ∧ h' = h) := by
 obtain ⟨p1, p2, p3, p4, p5, p6, p7, p8, e⟩ := mul_hi ha hb
 have hi : a * b / 18446744073709551616 = a / 4294967296 * (b / 4294967296) + (a / 4294967296 * (b % 4294967296) + a % 4294967296 * (b % 4294967296) / 4294967296) / 4294967296 +
   ((a / 4294967296 * (b % 4294967296) + a % 4294967296 * (b % 4294967296) / 4294967296) % 4294967296 + a % 4294967296 * (b / 4294967296)) / 4294967296 := by
  rw [e]
  generalize a % 4294967296 * (b % 4294967296) = P0 at *
  generalize a / 4294967296 * (b % 4294967296) = P1 at *
  generalize a % 4294967296 * (b / 4294967296) = P2 at *
  generalize a / 4294967296 * (b / 4294967296) = P3 at *
  omega
 have hr : 0 ≤ a * b / 18446744073709551616 ∧ a * b / 18446744073709551616 ≤ 18446744073709551615 := by
  rw [e]
  generalize a % 4294967296 * (b % 4294967296) = P0 at *
  generalize a / 4294967296 * (b % 4294967296) = P1 at *
  generalize a % 4294967296 * (b / 4294967296) = P2 at *
  generalize a / 4294967296 * (b / 4294967296) = P3 at *
  omega
 rw [hi] at hr
 rw [hi]
 have wl := w_u64m (a * b)
 (refine calls_intro (hC.body (by decide) tab105) (Nat.le_of_ble_eq_true rfl) ?_); (show wp C _ none B105.code _ _); (simp only [B105]); simp -implicitDefEqProofs (disch := first | assumption | decide | omega | (simp only [wpD1] <;> omega) | (simp only [wpD2] <;> assumption) | solve_by_elim [zR, zP, zV] | fail) only [↓wpPre, wpPost, wpPoly, Int.reduceToNat, Int.reducePow, Int.reduceMul, Int.reduceAdd, Int.reduceSub, Int.reduceNeg, Nat.reduceAdd, Nat.reduceMul, Nat.reducePow, Int.reduceLT, Int.reduceLE, Int.reduceEq, Nat.reduceEqDiff, and_u64m, wl]
theorem plan349_spec (hC : Has C T349) {p : PlanP} {vp : AV} {b s : Int} {h : Heap} (R : RI h vp p.prns) (h64 : p.ok64) : ACalls C 349 [askA p vp b s] h (fun r h' => r = .int .i64 p.err ∧ h' = h) := by
 refine ACalls.gc0 (P := fun r h' => r = .int .i64 p.err ∧ HSub h h') ?_ (fun r h' hp => ⟨by rw [hp.1]; trivial, hp.2, hp.1, rfl⟩)
 have v1 := R.one
 have kp := fun H (R1 : RI H vp p.prns) => CheckPlan_spec (hC.sub (T' := T219) (by decide)) (h := H) (p := p) ⟨vp, rfl, R1⟩ h64
 unfold askA
 (refine calls_intro (hC.body (by decide) tab349) (Nat.le_of_ble_eq_true rfl) ?_); (show wp C _ none B349.code _ _); (simp only [B349]); simp -implicitDefEqProofs (disch := first | assumption | decide | omega | (simp only [wpD1] <;> omega) | (simp only [wpD2] <;> assumption) | solve_by_elim [zR, zP, zV] | fail) only [↓wpPre, wpPost, wpPoly, Int.reduceToNat, Int.reducePow, Int.reduceMul, Int.reduceAdd, Int.reduceSub, Int.reduceNeg, Nat.reduceAdd, Nat.reduceMul, Nat.reducePow, Int.reduceLT, Int.reduceLE, Int.reduceEq, Nat.reduceEqDiff]
 refine ACallsK.eq (kp _ (R.mono (by repeat (first | exact HSub.refl h | refine HSub.put ?_ (by (try simp only [Heap.size_put, Heap.size_push, Heap.size_reserve]); omega) _ | refine HSub.push ?_ _ | refine HSub.reserve ?_ _)))) ?_
 simp -implicitDefEqProofs (disch := first | assumption | decide | omega | (simp only [wpD1] <;> omega) | (simp only [wpD2] <;> assumption) | solve_by_elim [zR, zP, zV] | fail) only [↓wpPre, wpPost, wpPoly, Int.reduceToNat, Int.reducePow, Int.reduceMul, Int.reduceAdd, Int.reduceSub, Int.reduceNeg, Nat.reduceAdd, Nat.reduceMul, Nat.reducePow, Int.reduceLT, Int.reduceLE, Int.reduceEq, Nat.reduceEqDiff]
 exact (by repeat (first | exact HSub.refl h | refine HSub.put ?_ (by (try simp only [Heap.size_put, Heap.size_push, Heap.size_reserve]); omega) _ | refine HSub.push ?_ _ | refine HSub.reserve ?_ _))
theorem gain350_spec (hC : Has C T350) {p : PlanP} {vp : AV} {b s : Int} {h : Heap} (v1 : vp.one = true) : ACalls C 350 [askA p vp b s] h (fun r h' => r = .int .i64 (gErr b s) ∧ h' = h) := by
 refine ACalls.gc0 (P := fun r h' => r = .int .i64 (gErr b s) ∧ HSub h h') ?_ (fun r h' hp => ⟨by rw [hp.1]; trivial, hp.2, hp.1, rfl⟩)
 have kp := fun H => qCheck_spec (hC.sub (T' := T357) (by decide)) (h := H) (b := b) (s := s)
 unfold askA
 unfold gA at kp
 (refine calls_intro (hC.body (by decide) tab350) (Nat.le_of_ble_eq_true rfl) ?_); (show wp C _ none B350.code _ _); (simp only [B350]); simp -implicitDefEqProofs (disch := first | assumption | decide | omega | (simp only [wpD1] <;> omega) | (simp only [wpD2] <;> assumption) | solve_by_elim [zR, zP, zV] | fail) only [↓wpPre, wpPost, wpPoly, Int.reduceToNat, Int.reducePow, Int.reduceMul, Int.reduceAdd, Int.reduceSub, Int.reduceNeg, Nat.reduceAdd, Nat.reduceMul, Nat.reducePow, Int.reduceLT, Int.reduceLE, Int.reduceEq, Nat.reduceEqDiff]
 refine ACallsK.eq (kp _) ?_
 simp -implicitDefEqProofs (disch := first | assumption | decide | omega | (simp only [wpD1] <;> omega) | (simp only [wpD2] <;> assumption) | solve_by_elim [zR, zP, zV] | fail) only [↓wpPre, wpPost, wpPoly, Int.reduceToNat, Int.reducePow, Int.reduceMul, Int.reduceAdd, Int.reduceSub, Int.reduceNeg, Nat.reduceAdd, Nat.reduceMul, Nat.reducePow, Int.reduceLT, Int.reduceLE, Int.reduceEq, Nat.reduceEqDiff]
 exact (by repeat (first | exact HSub.refl h | refine HSub.put ?_ (by (try simp only [Heap.size_put, Heap.size_push, Heap.size_reserve]); omega) _ | refine HSub.push ?_ _ | refine HSub.reserve ?_ _))
theorem check339_spec (hC : Has C T339) {p : PlanP} {vp : AV} {b s : Int} {h : Heap} (R : RI h vp p.prns) (h64 : p.ok64) : ACalls C 339 [askA p vp b s] h (fun r h' => r = .int .i64 (askErr p b s) ∧ h' = h) := by
 refine ACalls.gc0 (P := fun r h' => r = .int .i64 (askErr p b s) ∧ HSub h h') ?_ (fun r h' hp => ⟨by rw [hp.1]; trivial, hp.2, hp.1, rfl⟩)
 have v1 := R.one
 have k1 := fun H (R1 : RI H vp p.prns) => plan349_spec (b := b) (s := s) (hC.sub (T' := T349) (by decide)) (h := H) R1 h64
 have k2 := fun H => gain350_spec (p := p) (vp := vp) (b := b) (s := s) (hC.sub (T' := T350) (by decide)) (h := H) v1
 have e0 : p.err = 0 → askErr p b s = gErr b s := fun e => by unfold askErr; rw [if_pos e]
 have e1 : p.err ≠ 0 → askErr p b s = p.err := fun e => by unfold askErr; rw [if_neg e]
 generalize askErr p b s = E at *
 generalize p.err = PE at *
 have xA : ∃ A, A = askA p vp b s := ⟨_, rfl⟩
 obtain ⟨A, hA⟩ := xA
 rw [← hA] at k1 k2 ⊢
 (refine calls_intro (hC.body (by decide) tab339) (Nat.le_of_ble_eq_true rfl) ?_); (show wp C _ none B339.code _ _); (simp only [B339]); simp -implicitDefEqProofs (disch := first | assumption | decide | omega | (simp only [wpD1] <;> omega) | (simp only [wpD2] <;> assumption) | solve_by_elim [zR, zP, zV] | fail) only [↓wpPre, wpPost, wpPoly, Int.reduceToNat, Int.reducePow, Int.reduceMul, Int.reduceAdd, Int.reduceSub, Int.reduceNeg, Nat.reduceAdd, Nat.reduceMul, Nat.reducePow, Int.reduceLT, Int.reduceLE, Int.reduceEq, Nat.reduceEqDiff, hA, askA]
 refine wp_loopI (fun j t h' => HSub h h' ∧ ∃ k : Nat, t 10 = .agg [.func 349 [A] [], .func 350 [A] []] ∧ t 11 = .int .i64 (k : Nat) ∧ k ≤ 2 ∧ (0 < k → PE = 0) ∧ (1 < k → gErr b s = 0) ∧ j = 2 - k) (j0 := 2)
  ⟨(by repeat (first | exact HSub.refl h | refine HSub.put ?_ (by (try simp only [Heap.size_put, Heap.size_push, Heap.size_reserve]); omega) _ | refine HSub.push ?_ _ | refine HSub.reserve ?_ _)), 0, by rw [hA]; rfl, rfl, by omega, by omega, by omega, rfl⟩ ?_
 rintro j t h' ⟨sH, k, e10, e11, hk, q1, q2, hj⟩
 rcases (show k = 0 ∨ k = 1 ∨ k = 2 by omega) with rfl | rfl | rfl
 ·simp -implicitDefEqProofs (disch := first | assumption | decide | omega | (simp only [wpD1] <;> omega) | (simp only [wpD2] <;> assumption) | solve_by_elim [zR, zP, zV] | fail) only [↓wpPre, wpPost, wpPoly, Int.reduceToNat, Int.reducePow, Int.reduceMul, Int.reduceAdd, Int.reduceSub, Int.reduceNeg, Nat.reduceAdd, Nat.reduceMul, Nat.reducePow, Int.reduceLT, Int.reduceLE, Int.reduceEq, Nat.reduceEqDiff, e10, e11, idxVal_agg]
  refine ACallsK.eq (k1 _ (R.mono sH)) ?_
  by_cases c : PE = 0
  ·simp -implicitDefEqProofs (disch := first | assumption | decide | omega | (simp only [wpD1] <;> omega) | (simp only [wpD2] <;> assumption) | solve_by_elim [zR, zP, zV] | fail) only [↓wpPre, wpPost, wpPoly, Int.reduceToNat, Int.reducePow, Int.reduceMul, Int.reduceAdd, Int.reduceSub, Int.reduceNeg, Nat.reduceAdd, Nat.reduceMul, Nat.reducePow, Int.reduceLT, Int.reduceLE, Int.reduceEq, Nat.reduceEqDiff, c, e10, e11]
   exact ⟨1, ⟨sH, 1, by omega, by omega, by omega, rfl⟩, by omega⟩
  ·simp -implicitDefEqProofs (disch := first | assumption | decide | omega | (simp only [wpD1] <;> omega) | (simp only [wpD2] <;> assumption) | solve_by_elim [zR, zP, zV] | fail) only [↓wpPre, wpPost, wpPoly, Int.reduceToNat, Int.reducePow, Int.reduceMul, Int.reduceAdd, Int.reduceSub, Int.reduceNeg, Nat.reduceAdd, Nat.reduceMul, Nat.reducePow, Int.reduceLT, Int.reduceLE, Int.reduceEq, Nat.reduceEqDiff, c, e10, e11]
   exact ⟨by rw [e1 c], sH⟩
 ·simp -implicitDefEqProofs (disch := first | assumption | decide | omega | (simp only [wpD1] <;> omega) | (simp only [wpD2] <;> assumption) | solve_by_elim [zR, zP, zV] | fail) only [↓wpPre, wpPost, wpPoly, Int.reduceToNat, Int.reducePow, Int.reduceMul, Int.reduceAdd, Int.reduceSub, Int.reduceNeg, Nat.reduceAdd, Nat.reduceMul, Nat.reducePow, Int.reduceLT, Int.reduceLE, Int.reduceEq, Nat.reduceEqDiff, e10, e11, idxVal_agg]
  refine ACallsK.eq (k2 _) ?_
  rcases gErr_cases b s with c | c
  ·simp -implicitDefEqProofs (disch := first | assumption | decide | omega | (simp only [wpD1] <;> omega) | (simp only [wpD2] <;> assumption) | solve_by_elim [zR, zP, zV] | fail) only [↓wpPre, wpPost, wpPoly, Int.reduceToNat, Int.reducePow, Int.reduceMul, Int.reduceAdd, Int.reduceSub, Int.reduceNeg, Nat.reduceAdd, Nat.reduceMul, Nat.reducePow, Int.reduceLT, Int.reduceLE, Int.reduceEq, Nat.reduceEqDiff, c, e10, e11]
   have q := q1 (by omega)
   exact ⟨0, ⟨sH, 2, by omega, by omega, by omega, rfl⟩, by omega⟩
  ·simp -implicitDefEqProofs (disch := first | assumption | decide | omega | (simp only [wpD1] <;> omega) | (simp only [wpD2] <;> assumption) | solve_by_elim [zR, zP, zV] | fail) only [↓wpPre, wpPost, wpPoly, Int.reduceToNat, Int.reducePow, Int.reduceMul, Int.reduceAdd, Int.reduceSub, Int.reduceNeg, Nat.reduceAdd, Nat.reduceMul, Nat.reducePow, Int.reduceLT, Int.reduceLE, Int.reduceEq, Nat.reduceEqDiff, c, e10, e11]
   exact ⟨by rw [e0 (q1 (by omega)), c], sH⟩
 ·simp -implicitDefEqProofs (disch := first | assumption | decide | omega | (simp only [wpD1] <;> omega) | (simp only [wpD2] <;> assumption) | solve_by_elim [zR, zP, zV] | fail) only [↓wpPre, wpPost, wpPoly, Int.reduceToNat, Int.reducePow, Int.reduceMul, Int.reduceAdd, Int.reduceSub, Int.reduceNeg, Nat.reduceAdd, Nat.reduceMul, Nat.reducePow, Int.reduceLT, Int.reduceLE, Int.reduceEq, Nat.reduceEqDiff, e10, e11]
  exact ⟨by rw [e0 (q1 (by omega)), q2 (by omega)], sH⟩
set_option maxHeartbeats 1000000 in
set_option maxRecDepth 20000 in
theorem right331_spec (hC : Has C T331) {p : PlanP} {vp : AV} {b s prn : Int} {h : Heap} (R : RI h vp p.prns) (h64 : p.ok64) :
  ACalls C 331 [plA p vp, gA b s, .int .i64 prn] h (fun r h' => HSub h h' ∧ ∃ sv, r = .tuple [askA p vp b s, sv, .int .i64 (detErr p b s prn)] ∧ (∃ a1 a2 a3, sv = .agg [a1, a2, a3] ∧ [a1, a2, a3].all AV.one = true) ∧ (detErr p b s prn = 0 → SumV h' sv p s)) := by
 have v1 := R.one
 have kc := fun H (R1 : RI H vp p.prns) => check339_spec (b := b) (s := s) (hC.sub (T' := T339) (by decide)) (h := H) R1 h64
 have kn := fun (ok : PlanOk p) (hg : gErr b s = 0) H (R1 : RI H vp p.prns) => known340_spec (hC.sub (T' := T340) (by decide)) (h := H) ok hg h64 R1
 have e0 : askErr p b s ≠ 0 → detErr p b s prn = askErr p b s := fun e => by unfold detErr; rw [if_neg e]
 have e1 : askErr p b s = 0 → detErr p b s prn = if prn ∈ p.prns then 0 else 18 := fun e => by unfold detErr; rw [if_pos e]
 have o0 : AV.nilmap.one = true := rfl
 generalize detErr p b s prn = E at *
 unfold askA at kc kn
 unfold plA gA askA
 by_cases c : askErr p b s = 0
 ·obtain ⟨ok, hg⟩ := askErr_ok c
  rw [c] at kc
  have e1 := e1 c
  clear e0
  obtain ⟨d, o, pb, w, mn, mx, nz, prns⟩ := p
  dsimp only at *
  (refine calls_intro (hC.body (by decide) tab331) (Nat.le_of_ble_eq_true rfl) ?_); (show wp C _ none B331.code _ _); (simp only [B331]); simp -implicitDefEqProofs (disch := first | assumption | decide | omega | (simp only [wpD1] <;> omega) | (simp only [wpD2] <;> assumption) | solve_by_elim [zR, zP, zV] | fail) only [↓wpPre, wpPost, wpPoly, Int.reduceToNat, Int.reducePow, Int.reduceMul, Int.reduceAdd, Int.reduceSub, Int.reduceNeg, Nat.reduceAdd, Nat.reduceMul, Nat.reducePow, Int.reduceLT, Int.reduceLE, Int.reduceEq, Nat.reduceEqDiff, o0, wpMap]
  refine ACallsK.eq (kc _ (R.mono (by repeat (first | exact HSub.refl h | refine HSub.put ?_ (by (try simp only [Heap.size_put, Heap.size_push, Heap.size_reserve]); omega) _ | refine HSub.push ?_ _ | refine HSub.reserve ?_ _)))) ?_
  simp -implicitDefEqProofs (disch := first | assumption | decide | omega | (simp only [wpD1] <;> omega) | (simp only [wpD2] <;> assumption) | solve_by_elim [zR, zP, zV] | fail) only [↓wpPre, wpPost, wpPoly, Int.reduceToNat, Int.reducePow, Int.reduceMul, Int.reduceAdd, Int.reduceSub, Int.reduceNeg, Nat.reduceAdd, Nat.reduceMul, Nat.reducePow, Int.reduceLT, Int.reduceLE, Int.reduceEq, Nat.reduceEqDiff, wpMap]
  refine ACallsK.of (kn ok hg _ (R.mono (by repeat (first | exact HSub.refl h | refine HSub.put ?_ (by (try simp only [Heap.size_put, Heap.size_push, Heap.size_reserve]); omega) _ | refine HSub.push ?_ _ | refine HSub.reserve ?_ _)))) ?_
  rintro r h2 ⟨V, sA⟩
  obtain ⟨j, rfl, gm⟩ := V
  have o1 : (AV.map j).one = true := rfl
  have z2 := sA.size
  simp only [Heap.size_push] at z2
  have jl := Heap.lt_of_get gm
  have g9 : h2.get (h.size + 4) = some (.cells [.int .i64 d, .int .i64 o, .int .i64 pb, .int .i64 w, .int .i64 mn, .int .i64 mx, .int .i64 nz, vp, .int .i64 b, .int .i64 s] true 0) := (sA.get _ (by simp only [Heap.size_push]; omega)).trans (by simp -implicitDefEqProofs (disch := first | assumption | decide | omega | (simp only [wpD1] <;> omega) | (simp only [wpD2] <;> assumption) | solve_by_elim [zR, zP, zV] | fail) only [↓wpPre, wpPost, wpPoly, Int.reduceToNat, Int.reducePow, Int.reduceMul, Int.reduceAdd, Int.reduceSub, Int.reduceNeg, Nat.reduceAdd, Nat.reduceMul, Nat.reducePow, Int.reduceLT, Int.reduceLE, Int.reduceEq, Nat.reduceEqDiff])
  have g6 : h2.get (h.size + 2) = some (.cells [.int .i64 0, .int .i64 0, .int .i64 0, .int .i64 0, .int .i64 0, .int .i64 0, .int .i64 0, .nilslice, .int .i64 0, .int .i64 0] true 0) := (sA.get _ (by simp only [Heap.size_push]; omega)).trans (by simp -implicitDefEqProofs (disch := first | assumption | decide | omega | (simp only [wpD1] <;> omega) | (simp only [wpD2] <;> assumption) | solve_by_elim [zR, zP, zV] | fail) only [↓wpPre, wpPost, wpPoly, Int.reduceToNat, Int.reducePow, Int.reduceMul, Int.reduceAdd, Int.reduceSub, Int.reduceNeg, Nat.reduceAdd, Nat.reduceMul, Nat.reducePow, Int.reduceLT, Int.reduceLE, Int.reduceEq, Nat.reduceEqDiff])
  have g7 : h2.get (h.size + 3) = some (.cells [.nilmap, .int .i64 0, .int .i64 0] true 0) := (sA.get _ (by simp only [Heap.size_push]; omega)).trans (by simp -implicitDefEqProofs (disch := first | assumption | decide | omega | (simp only [wpD1] <;> omega) | (simp only [wpD2] <;> assumption) | solve_by_elim [zR, zP, zV] | fail) only [↓wpPre, wpPost, wpPoly, Int.reduceToNat, Int.reducePow, Int.reduceMul, Int.reduceAdd, Int.reduceSub, Int.reduceNeg, Nat.reduceAdd, Nat.reduceMul, Nat.reducePow, Int.reduceLT, Int.reduceLE, Int.reduceEq, Nat.reduceEqDiff])
  have hs2 : HSub h h2 := (show HSub h _ from (by repeat (first | exact HSub.refl h | refine HSub.put ?_ (by (try simp only [Heap.size_put, Heap.size_push, Heap.size_reserve]); omega) _ | refine HSub.push ?_ _ | refine HSub.reserve ?_ _))).trans sA
  clear sA kn
  by_cases ci : prn ∈ prns
  ·have lk := look_in2 (f := sumI d o) (z := .int .i64 0) (mem_grid.2 ⟨ci, ci⟩)
   simp only [keyP, ksP] at lk
   rw [if_pos ci] at e1
   subst e1
   have n6 : j ≠ h.size + 2 := by rintro rfl; rw [g6] at gm; cases gm
   have n7 : j ≠ h.size + 3 := by rintro rfl; rw [g7] at gm; cases gm
   simp -implicitDefEqProofs (disch := first | assumption | decide | omega | (simp only [wpD1] <;> omega) | (simp only [wpD2] <;> assumption) | solve_by_elim [zR, zP, zV] | fail) only [↓wpPre, wpPost, wpPoly, Int.reduceToNat, Int.reducePow, Int.reduceMul, Int.reduceAdd, Int.reduceSub, Int.reduceNeg, Nat.reduceAdd, Nat.reduceMul, Nat.reducePow, Int.reduceLT, Int.reduceLE, Int.reduceEq, Nat.reduceEqDiff, wpMap, gm, lk, g9, g6, g7]
   exact ⟨(by repeat (first | exact hs2 | refine HSub.put ?_ (by (try simp only [Heap.size_put, Heap.size_push, Heap.size_reserve]); omega) _ | refine HSub.push ?_ _ | refine HSub.reserve ?_ _)), _, rfl, ⟨_, _, _, rfl, rfl⟩, fun _ => ⟨j, rfl, by rw [get_push_lt (by simp only [Heap.size_put]; omega), get_put_ne (by omega), get_put_ne (by omega)]; exact gm⟩⟩
  ·have lk := look_out2 (f := sumI d o) (x := prn) (y := prn) (K := grid prns prns) (z := .int .i64 0) (fun q => ci (mem_grid.1 q).1)
   simp only [keyP, ksP] at lk
   rw [if_neg ci] at e1
   subst e1
   simp -implicitDefEqProofs (disch := first | assumption | decide | omega | (simp only [wpD1] <;> omega) | (simp only [wpD2] <;> assumption) | solve_by_elim [zR, zP, zV] | fail) only [↓wpPre, wpPost, wpPoly, Int.reduceToNat, Int.reducePow, Int.reduceMul, Int.reduceAdd, Int.reduceSub, Int.reduceNeg, Nat.reduceAdd, Nat.reduceMul, Nat.reducePow, Int.reduceLT, Int.reduceLE, Int.reduceEq, Nat.reduceEqDiff, wpMap, gm, lk, g9, g6, g7]
   exact ⟨(by repeat (first | exact hs2 | refine HSub.put ?_ (by (try simp only [Heap.size_put, Heap.size_push, Heap.size_reserve]); omega) _ | refine HSub.push ?_ _ | refine HSub.reserve ?_ _)), _, rfl, _, _, _, rfl, rfl⟩
 ·rw [e0 c]
  have e2 : askErr p b s = 0 → False := c
  generalize askErr p b s = AE at *
  obtain ⟨d, o, pb, w, mn, mx, nz, prns⟩ := p
  dsimp only at *
  (refine calls_intro (hC.body (by decide) tab331) (Nat.le_of_ble_eq_true rfl) ?_); (show wp C _ none B331.code _ _); (simp only [B331]); simp -implicitDefEqProofs (disch := first | assumption | decide | omega | (simp only [wpD1] <;> omega) | (simp only [wpD2] <;> assumption) | solve_by_elim [zR, zP, zV] | fail) only [↓wpPre, wpPost, wpPoly, Int.reduceToNat, Int.reducePow, Int.reduceMul, Int.reduceAdd, Int.reduceSub, Int.reduceNeg, Nat.reduceAdd, Nat.reduceMul, Nat.reducePow, Int.reduceLT, Int.reduceLE, Int.reduceEq, Nat.reduceEqDiff, o0, wpMap]
  refine ACallsK.eq (kc _ (R.mono (by repeat (first | exact HSub.refl h | refine HSub.put ?_ (by (try simp only [Heap.size_put, Heap.size_push, Heap.size_reserve]); omega) _ | refine HSub.push ?_ _ | refine HSub.reserve ?_ _)))) ?_
  simp -implicitDefEqProofs (disch := first | assumption | decide | omega | (simp only [wpD1] <;> omega) | (simp only [wpD2] <;> assumption) | solve_by_elim [zR, zP, zV] | fail) only [↓wpPre, wpPost, wpPoly, Int.reduceToNat, Int.reducePow, Int.reduceMul, Int.reduceAdd, Int.reduceSub, Int.reduceNeg, Nat.reduceAdd, Nat.reduceMul, Nat.reducePow, Int.reduceLT, Int.reduceLE, Int.reduceEq, Nat.reduceEqDiff, c, wpMap]
  exact ⟨(by repeat (first | exact HSub.refl h | refine HSub.put ?_ (by (try simp only [Heap.size_put, Heap.size_push, Heap.size_reserve]); omega) _ | refine HSub.push ?_ _ | refine HSub.reserve ?_ _)), _, rfl, _, _, _, rfl, rfl⟩
set_option maxRecDepth 20000 in
theorem Bound_spec (hC : Has C T315) {p : PlanP} {vp : AV} {b s prn : Int} {h : Heap} (R : RI h vp p.prns) (h64 : p.ok64) :
  ACalls C 315 [plA p vp, gA b s, .int .i64 prn] h (fun r h' => r = (if detErr p b s prn = 0 then tup2 (boundI p s prn) 0 else tup2 0 (detErr p b s prn)) ∧ HSub h h') := by
 have v1 := R.one
 have kr := fun H (R1 : RI H vp p.prns) => right331_spec (b := b) (s := s) (prn := prn) (hC.sub (T' := T331) (by decide)) (h := H) R1 h64
 have kb := fun (ok : PlanOk p) (hs : 0 ≤ s ∧ s ≤ 30) H sv (R1 : RI H vp p.prns) (V : SumV H sv p s) (hin : prn ∈ p.prns) => bound334_spec (b := b) (hC.sub (T' := T334) (by decide)) (h := H) ok hs R1 V hin
 have e0 : detErr p b s prn = 0 → askErr p b s = 0 ∧ prn ∈ p.prns := detErr_ok
 generalize detErr p b s prn = E at *
 unfold askA plA gA at *
 by_cases c : E = 0
 ·subst c
  obtain ⟨ea, hin⟩ := e0 rfl
  obtain ⟨ok, hg⟩ := askErr_ok ea
  have kb := fun H sv R1 V => kb ok (gErr_ok hg).2.2 H sv R1 V hin
  generalize boundI p s prn = B at *
  obtain ⟨d, o, pb, w, mn, mx, nz, prns⟩ := p
  dsimp only at *
  (refine calls_intro (hC.body (by decide) tab315) (Nat.le_of_ble_eq_true rfl) ?_); (show wp C _ none B315.code _ _); (simp only [B315]); simp -implicitDefEqProofs (disch := first | assumption | decide | omega | (simp only [wpD1] <;> omega) | (simp only [wpD2] <;> assumption) | solve_by_elim [zR, zP, zV] | fail) only [↓wpPre, wpPost, wpPoly, Int.reduceToNat, Int.reducePow, Int.reduceMul, Int.reduceAdd, Int.reduceSub, Int.reduceNeg, Nat.reduceAdd, Nat.reduceMul, Nat.reducePow, Int.reduceLT, Int.reduceLE, Int.reduceEq, Nat.reduceEqDiff]
  refine ACallsK.of (kr _ (R.mono (by repeat (first | exact HSub.refl h | refine HSub.put ?_ (by (try simp only [Heap.size_put, Heap.size_push, Heap.size_reserve]); omega) _ | refine HSub.push ?_ _ | refine HSub.reserve ?_ _)))) ?_
  rintro r h2 ⟨sA, sv, rfl, ⟨a1, a2, a3, rfl, o1⟩, V⟩
  have V := V rfl
  have hs2 : HSub h h2 := (show HSub h _ from (by repeat (first | exact HSub.refl h | refine HSub.put ?_ (by (try simp only [Heap.size_put, Heap.size_push, Heap.size_reserve]); omega) _ | refine HSub.push ?_ _ | refine HSub.reserve ?_ _))).trans sA
  have z2 := sA.size
  simp only [Heap.size_push] at z2
  simp -implicitDefEqProofs (disch := first | assumption | decide | omega | (simp only [wpD1] <;> omega) | (simp only [wpD2] <;> assumption) | solve_by_elim [zR, zP, zV] | fail) only [↓wpPre, wpPost, wpPoly, Int.reduceToNat, Int.reducePow, Int.reduceMul, Int.reduceAdd, Int.reduceSub, Int.reduceNeg, Nat.reduceAdd, Nat.reduceMul, Nat.reducePow, Int.reduceLT, Int.reduceLE, Int.reduceEq, Nat.reduceEqDiff, wpMap]
  refine ACallsK.eq (kb _ _ (R.mono (by repeat (first | exact hs2 | refine HSub.put ?_ (by (try simp only [Heap.size_put, Heap.size_push, Heap.size_reserve]); omega) _ | refine HSub.push ?_ _ | refine HSub.reserve ?_ _))) (V.mono (by repeat (first | exact HSub.refl h2 | refine HSub.put ?_ (by (try simp only [Heap.size_put, Heap.size_push, Heap.size_reserve]); omega) _ | refine HSub.push ?_ _ | refine HSub.reserve ?_ _)))) ?_
  simp -implicitDefEqProofs (disch := first | assumption | decide | omega | (simp only [wpD1] <;> omega) | (simp only [wpD2] <;> assumption) | solve_by_elim [zR, zP, zV] | fail) only [↓wpPre, wpPost, wpPoly, Int.reduceToNat, Int.reducePow, Int.reduceMul, Int.reduceAdd, Int.reduceSub, Int.reduceNeg, Nat.reduceAdd, Nat.reduceMul, Nat.reducePow, Int.reduceLT, Int.reduceLE, Int.reduceEq, Nat.reduceEqDiff]
  exact ⟨rfl, (by repeat (first | exact hs2 | refine HSub.put ?_ (by (try simp only [Heap.size_put, Heap.size_push, Heap.size_reserve]); omega) _ | refine HSub.push ?_ _ | refine HSub.reserve ?_ _))⟩
 ·obtain ⟨d, o, pb, w, mn, mx, nz, prns⟩ := p
  dsimp only at *
  (refine calls_intro (hC.body (by decide) tab315) (Nat.le_of_ble_eq_true rfl) ?_); (show wp C _ none B315.code _ _); (simp only [B315]); simp -implicitDefEqProofs (disch := first | assumption | decide | omega | (simp only [wpD1] <;> omega) | (simp only [wpD2] <;> assumption) | solve_by_elim [zR, zP, zV] | fail) only [↓wpPre, wpPost, wpPoly, Int.reduceToNat, Int.reducePow, Int.reduceMul, Int.reduceAdd, Int.reduceSub, Int.reduceNeg, Nat.reduceAdd, Nat.reduceMul, Nat.reducePow, Int.reduceLT, Int.reduceLE, Int.reduceEq, Nat.reduceEqDiff]
  refine ACallsK.of (kr _ (R.mono (by repeat (first | exact HSub.refl h | refine HSub.put ?_ (by (try simp only [Heap.size_put, Heap.size_push, Heap.size_reserve]); omega) _ | refine HSub.push ?_ _ | refine HSub.reserve ?_ _)))) ?_
  rintro r h2 ⟨sA, sv, rfl, ⟨a1, a2, a3, rfl, o1⟩, V⟩
  have hs2 : HSub h h2 := (show HSub h _ from (by repeat (first | exact HSub.refl h | refine HSub.put ?_ (by (try simp only [Heap.size_put, Heap.size_push, Heap.size_reserve]); omega) _ | refine HSub.push ?_ _ | refine HSub.reserve ?_ _))).trans sA
  simp -implicitDefEqProofs (disch := first | assumption | decide | omega | (simp only [wpD1] <;> omega) | (simp only [wpD2] <;> assumption) | solve_by_elim [zR, zP, zV] | fail) only [↓wpPre, wpPost, wpPoly, Int.reduceToNat, Int.reducePow, Int.reduceMul, Int.reduceAdd, Int.reduceSub, Int.reduceNeg, Nat.reduceAdd, Nat.reduceMul, Nat.reducePow, Int.reduceLT, Int.reduceLE, Int.reduceEq, Nat.reduceEqDiff, wpMap, c]
  exact ⟨by simp [tup2], (by repeat (first | exact hs2 | refine HSub.put ?_ (by (try simp only [Heap.size_put, Heap.size_push, Heap.size_reserve]); omega) _ | refine HSub.push ?_ _ | refine HSub.reserve ?_ _))⟩
set_option maxRecDepth 20000 in
theorem Threshold_spec (hC : Has C T317) {p : PlanP} {vp : AV} {b s prn : Int} {h : Heap} (R : RI h vp p.prns) (h64 : p.ok64) :
  ACalls C 317 [plA p vp, gA b s, .int .i64 prn] h (fun r h' => r = (if detErr p b s prn = 0 then tup2 (thrI p s prn) 0 else tup2 0 (detErr p b s prn)) ∧ HSub h h') := by
 have v1 := R.one
 have kr := fun H (R1 : RI H vp p.prns) => right331_spec (b := b) (s := s) (prn := prn) (hC.sub (T' := T331) (by decide)) (h := H) R1 h64
 have kb := fun (ok : PlanOk p) (hs : 0 ≤ s ∧ s ≤ 30) H sv (R1 : RI H vp p.prns) (V : SumV H sv p s) (hin : prn ∈ p.prns) => thr332_spec (b := b) (hC.sub (T' := T332) (by decide)) (h := H) ok hs R1 V hin
 have e0 : detErr p b s prn = 0 → askErr p b s = 0 ∧ prn ∈ p.prns := detErr_ok
 generalize detErr p b s prn = E at *
 unfold askA plA gA at *
 by_cases c : E = 0
 ·subst c
  obtain ⟨ea, hin⟩ := e0 rfl
  obtain ⟨ok, hg⟩ := askErr_ok ea
  have kb := fun H sv R1 V => kb ok (gErr_ok hg).2.2 H sv R1 V hin
  generalize thrI p s prn = B at *
  obtain ⟨d, o, pb, w, mn, mx, nz, prns⟩ := p
  dsimp only at *
  (refine calls_intro (hC.body (by decide) tab317) (Nat.le_of_ble_eq_true rfl) ?_); (show wp C _ none B317.code _ _); (simp only [B317]); simp -implicitDefEqProofs (disch := first | assumption | decide | omega | (simp only [wpD1] <;> omega) | (simp only [wpD2] <;> assumption) | solve_by_elim [zR, zP, zV] | fail) only [↓wpPre, wpPost, wpPoly, Int.reduceToNat, Int.reducePow, Int.reduceMul, Int.reduceAdd, Int.reduceSub, Int.reduceNeg, Nat.reduceAdd, Nat.reduceMul, Nat.reducePow, Int.reduceLT, Int.reduceLE, Int.reduceEq, Nat.reduceEqDiff]
  refine ACallsK.of (kr _ (R.mono (by repeat (first | exact HSub.refl h | refine HSub.put ?_ (by (try simp only [Heap.size_put, Heap.size_push, Heap.size_reserve]); omega) _ | refine HSub.push ?_ _ | refine HSub.reserve ?_ _)))) ?_
  rintro r h2 ⟨sA, sv, rfl, ⟨a1, a2, a3, rfl, o1⟩, V⟩
  have V := V rfl
  have hs2 : HSub h h2 := (show HSub h _ from (by repeat (first | exact HSub.refl h | refine HSub.put ?_ (by (try simp only [Heap.size_put, Heap.size_push, Heap.size_reserve]); omega) _ | refine HSub.push ?_ _ | refine HSub.reserve ?_ _))).trans sA
  have z2 := sA.size
  simp only [Heap.size_push] at z2
  simp -implicitDefEqProofs (disch := first | assumption | decide | omega | (simp only [wpD1] <;> omega) | (simp only [wpD2] <;> assumption) | solve_by_elim [zR, zP, zV] | fail) only [↓wpPre, wpPost, wpPoly, Int.reduceToNat, Int.reducePow, Int.reduceMul, Int.reduceAdd, Int.reduceSub, Int.reduceNeg, Nat.reduceAdd, Nat.reduceMul, Nat.reducePow, Int.reduceLT, Int.reduceLE, Int.reduceEq, Nat.reduceEqDiff, wpMap]
  refine ACallsK.eq (kb _ _ (R.mono (by repeat (first | exact hs2 | refine HSub.put ?_ (by (try simp only [Heap.size_put, Heap.size_push, Heap.size_reserve]); omega) _ | refine HSub.push ?_ _ | refine HSub.reserve ?_ _))) (V.mono (by repeat (first | exact HSub.refl h2 | refine HSub.put ?_ (by (try simp only [Heap.size_put, Heap.size_push, Heap.size_reserve]); omega) _ | refine HSub.push ?_ _ | refine HSub.reserve ?_ _)))) ?_
  simp -implicitDefEqProofs (disch := first | assumption | decide | omega | (simp only [wpD1] <;> omega) | (simp only [wpD2] <;> assumption) | solve_by_elim [zR, zP, zV] | fail) only [↓wpPre, wpPost, wpPoly, Int.reduceToNat, Int.reducePow, Int.reduceMul, Int.reduceAdd, Int.reduceSub, Int.reduceNeg, Nat.reduceAdd, Nat.reduceMul, Nat.reducePow, Int.reduceLT, Int.reduceLE, Int.reduceEq, Nat.reduceEqDiff]
  exact ⟨rfl, (by repeat (first | exact hs2 | refine HSub.put ?_ (by (try simp only [Heap.size_put, Heap.size_push, Heap.size_reserve]); omega) _ | refine HSub.push ?_ _ | refine HSub.reserve ?_ _))⟩
 ·obtain ⟨d, o, pb, w, mn, mx, nz, prns⟩ := p
  dsimp only at *
  (refine calls_intro (hC.body (by decide) tab317) (Nat.le_of_ble_eq_true rfl) ?_); (show wp C _ none B317.code _ _); (simp only [B317]); simp -implicitDefEqProofs (disch := first | assumption | decide | omega | (simp only [wpD1] <;> omega) | (simp only [wpD2] <;> assumption) | solve_by_elim [zR, zP, zV] | fail) only [↓wpPre, wpPost, wpPoly, Int.reduceToNat, Int.reducePow, Int.reduceMul, Int.reduceAdd, Int.reduceSub, Int.reduceNeg, Nat.reduceAdd, Nat.reduceMul, Nat.reducePow, Int.reduceLT, Int.reduceLE, Int.reduceEq, Nat.reduceEqDiff]
  refine ACallsK.of (kr _ (R.mono (by repeat (first | exact HSub.refl h | refine HSub.put ?_ (by (try simp only [Heap.size_put, Heap.size_push, Heap.size_reserve]); omega) _ | refine HSub.push ?_ _ | refine HSub.reserve ?_ _)))) ?_
  rintro r h2 ⟨sA, sv, rfl, ⟨a1, a2, a3, rfl, o1⟩, V⟩
  have hs2 : HSub h h2 := (show HSub h _ from (by repeat (first | exact HSub.refl h | refine HSub.put ?_ (by (try simp only [Heap.size_put, Heap.size_push, Heap.size_reserve]); omega) _ | refine HSub.push ?_ _ | refine HSub.reserve ?_ _))).trans sA
  simp -implicitDefEqProofs (disch := first | assumption | decide | omega | (simp only [wpD1] <;> omega) | (simp only [wpD2] <;> assumption) | solve_by_elim [zR, zP, zV] | fail) only [↓wpPre, wpPost, wpPoly, Int.reduceToNat, Int.reducePow, Int.reduceMul, Int.reduceAdd, Int.reduceSub, Int.reduceNeg, Nat.reduceAdd, Nat.reduceMul, Nat.reducePow, Int.reduceLT, Int.reduceLE, Int.reduceEq, Nat.reduceEqDiff, wpMap, c]
  exact ⟨by simp [tup2], (by repeat (first | exact hs2 | refine HSub.put ?_ (by (try simp only [Heap.size_put, Heap.size_push, Heap.size_reserve]); omega) _ | refine HSub.push ?_ _ | refine HSub.reserve ?_ _))⟩
set_option maxRecDepth 20000 in
theorem Floor_spec (hC : Has C T319) {p : PlanP} {vp : AV} {b s prn : Int} {h : Heap} (R : RI h vp p.prns) (h64 : p.ok64) :
  ACalls C 319 [plA p vp, gA b s, .int .i64 prn] h (fun r h' => r = (if detErr p b s prn = 0 then tup2 (floorI p s prn) 0 else tup2 0 (detErr p b s prn)) ∧ HSub h h') := by
 have v1 := R.one
 have kr := fun H (R1 : RI H vp p.prns) => right331_spec (b := b) (s := s) (prn := prn) (hC.sub (T' := T331) (by decide)) (h := H) R1 h64
 have kb := fun (ok : PlanOk p) (hs : 0 ≤ s ∧ s ≤ 30) H sv (R1 : RI H vp p.prns) (V : SumV H sv p s) (hin : prn ∈ p.prns) => floor338_spec (b := b) (hC.sub (T' := T338) (by decide)) (h := H) ok hs R1 V hin
 have e0 : detErr p b s prn = 0 → askErr p b s = 0 ∧ prn ∈ p.prns := detErr_ok
 generalize detErr p b s prn = E at *
 unfold askA plA gA at *
 by_cases c : E = 0
 ·subst c
  obtain ⟨ea, hin⟩ := e0 rfl
  obtain ⟨ok, hg⟩ := askErr_ok ea
  have kb := fun H sv R1 V => kb ok (gErr_ok hg).2.2 H sv R1 V hin
  generalize floorI p s prn = B at *
  obtain ⟨d, o, pb, w, mn, mx, nz, prns⟩ := p
  dsimp only at *
  (refine calls_intro (hC.body (by decide) tab319) (Nat.le_of_ble_eq_true rfl) ?_); (show wp C _ none B319.code _ _); (simp only [B319]); simp -implicitDefEqProofs (disch := first | assumption | decide | omega | (simp only [wpD1] <;> omega) | (simp only [wpD2] <;> assumption) | solve_by_elim [zR, zP, zV] | fail) only [↓wpPre, wpPost, wpPoly, Int.reduceToNat, Int.reducePow, Int.reduceMul, Int.reduceAdd, Int.reduceSub, Int.reduceNeg, Nat.reduceAdd, Nat.reduceMul, Nat.reducePow, Int.reduceLT, Int.reduceLE, Int.reduceEq, Nat.reduceEqDiff]
  refine ACallsK.of (kr _ (R.mono (by repeat (first | exact HSub.refl h | refine HSub.put ?_ (by (try simp only [Heap.size_put, Heap.size_push, Heap.size_reserve]); omega) _ | refine HSub.push ?_ _ | refine HSub.reserve ?_ _)))) ?_
  rintro r h2 ⟨sA, sv, rfl, ⟨a1, a2, a3, rfl, o1⟩, V⟩
  have V := V rfl
  have hs2 : HSub h h2 := (show HSub h _ from (by repeat (first | exact HSub.refl h | refine HSub.put ?_ (by (try simp only [Heap.size_put, Heap.size_push, Heap.size_reserve]); omega) _ | refine HSub.push ?_ _ | refine HSub.reserve ?_ _))).trans sA
  have z2 := sA.size
  simp only [Heap.size_push] at z2
  simp -implicitDefEqProofs (disch := first | assumption | decide | omega | (simp only [wpD1] <;> omega) | (simp only [wpD2] <;> assumption) | solve_by_elim [zR, zP, zV] | fail) only [↓wpPre, wpPost, wpPoly, Int.reduceToNat, Int.reducePow, Int.reduceMul, Int.reduceAdd, Int.reduceSub, Int.reduceNeg, Nat.reduceAdd, Nat.reduceMul, Nat.reducePow, Int.reduceLT, Int.reduceLE, Int.reduceEq, Nat.reduceEqDiff, wpMap]
  refine ACallsK.eq (kb _ _ (R.mono (by repeat (first | exact hs2 | refine HSub.put ?_ (by (try simp only [Heap.size_put, Heap.size_push, Heap.size_reserve]); omega) _ | refine HSub.push ?_ _ | refine HSub.reserve ?_ _))) (V.mono (by repeat (first | exact HSub.refl h2 | refine HSub.put ?_ (by (try simp only [Heap.size_put, Heap.size_push, Heap.size_reserve]); omega) _ | refine HSub.push ?_ _ | refine HSub.reserve ?_ _)))) ?_
  simp -implicitDefEqProofs (disch := first | assumption | decide | omega | (simp only [wpD1] <;> omega) | (simp only [wpD2] <;> assumption) | solve_by_elim [zR, zP, zV] | fail) only [↓wpPre, wpPost, wpPoly, Int.reduceToNat, Int.reducePow, Int.reduceMul, Int.reduceAdd, Int.reduceSub, Int.reduceNeg, Nat.reduceAdd, Nat.reduceMul, Nat.reducePow, Int.reduceLT, Int.reduceLE, Int.reduceEq, Nat.reduceEqDiff]
  exact ⟨rfl, (by repeat (first | exact hs2 | refine HSub.put ?_ (by (try simp only [Heap.size_put, Heap.size_push, Heap.size_reserve]); omega) _ | refine HSub.push ?_ _ | refine HSub.reserve ?_ _))⟩
 ·obtain ⟨d, o, pb, w, mn, mx, nz, prns⟩ := p
  dsimp only at *
  (refine calls_intro (hC.body (by decide) tab319) (Nat.le_of_ble_eq_true rfl) ?_); (show wp C _ none B319.code _ _); (simp only [B319]); simp -implicitDefEqProofs (disch := first | assumption | decide | omega | (simp only [wpD1] <;> omega) | (simp only [wpD2] <;> assumption) | solve_by_elim [zR, zP, zV] | fail) only [↓wpPre, wpPost, wpPoly, Int.reduceToNat, Int.reducePow, Int.reduceMul, Int.reduceAdd, Int.reduceSub, Int.reduceNeg, Nat.reduceAdd, Nat.reduceMul, Nat.reducePow, Int.reduceLT, Int.reduceLE, Int.reduceEq, Nat.reduceEqDiff]
  refine ACallsK.of (kr _ (R.mono (by repeat (first | exact HSub.refl h | refine HSub.put ?_ (by (try simp only [Heap.size_put, Heap.size_push, Heap.size_reserve]); omega) _ | refine HSub.push ?_ _ | refine HSub.reserve ?_ _)))) ?_
  rintro r h2 ⟨sA, sv, rfl, ⟨a1, a2, a3, rfl, o1⟩, V⟩
  have hs2 : HSub h h2 := (show HSub h _ from (by repeat (first | exact HSub.refl h | refine HSub.put ?_ (by (try simp only [Heap.size_put, Heap.size_push, Heap.size_reserve]); omega) _ | refine HSub.push ?_ _ | refine HSub.reserve ?_ _))).trans sA
  simp -implicitDefEqProofs (disch := first | assumption | decide | omega | (simp only [wpD1] <;> omega) | (simp only [wpD2] <;> assumption) | solve_by_elim [zR, zP, zV] | fail) only [↓wpPre, wpPost, wpPoly, Int.reduceToNat, Int.reducePow, Int.reduceMul, Int.reduceAdd, Int.reduceSub, Int.reduceNeg, Nat.reduceAdd, Nat.reduceMul, Nat.reducePow, Int.reduceLT, Int.reduceLE, Int.reduceEq, Nat.reduceEqDiff, wpMap, c]
  exact ⟨by simp [tup2], (by repeat (first | exact hs2 | refine HSub.put ?_ (by (try simp only [Heap.size_put, Heap.size_push, Heap.size_reserve]); omega) _ | refine HSub.push ?_ _ | refine HSub.reserve ?_ _))⟩
end
end Go.Ae
/- Sure codes, claims and lists of thresholds: the program. -/
set_option linter.unusedSimpArgs false
set_option linter.unusedVariables false
namespace Go.Ae
def sureB (p : PlanP) (s prn : Int) : Bool := decide (thrI p s prn * 2 ^ s.toNat < floorI p s prn)
def sureE (p : PlanP) (b s prn : Int) : AV := if detErr p b s prn = 0 then .tuple [.bool (sureB p s prn), .int .i64 0] else .tuple [.bool false, .int .i64 (detErr p b s prn)]
theorem thr_mul {p : PlanP} {s : Int} (ok : PlanOk p) (h : 0 ≤ s ∧ s ≤ 30) (prn : Int) : 0 ≤ thrI p s prn * 2 ^ s.toNat ∧ thrI p s prn * 2 ^ s.toNat ≤ 6602356709823 ∧ boundI p s prn ≤ thrI p s prn * 2 ^ s.toNat := by
 have b := bound_range ok h prn
 have q := pow_30 h
 have t := thr_range ok h prn
 unfold thrI at *
 generalize (2 : Int) ^ s.toNat = P at *
 generalize boundI p s prn = B at *
 have e := Int.ediv_mul_le (B + P - 1) (show P ≠ 0 by omega)
 have l := Int.lt_ediv_add_one_mul_self (B + P - 1) (show 0 < P by omega)
 have m := Int.mul_nonneg t.1 (show 0 ≤ P by omega)
 rw [Int.add_mul] at l
 generalize (B + P - 1) / P * P = Y at *
 omega
def claimB (t pw m : Int) : Bool := decide (t * t * m < pw)
def claimE (p : PlanP) (b s prn pw m : Int) : AV :=
 if detErr p b s prn = 0 then if pw < 0 ∨ m < 1 ∨ 1000 < m then .tuple [.bool false, .int .i64 2] else .tuple [.bool (claimB (thrI p s prn) pw m), .int .i64 0] else .tuple [.bool false, .int .i64 (detErr p b s prn)]
theorem em_of {q : Int} (h : 0 ≤ q) (c : q / 18446744073709551616 = 0) : q % 18446744073709551616 = q := by omega
theorem em_mul {q m pw : Int} (h : 0 ≤ q * m) (hp : -9223372036854775808 ≤ pw ∧ pw ≤ 9223372036854775807) (e : q % 18446744073709551616 = q) :
  (q % 18446744073709551616 * m / 18446744073709551616 = 0 → q % 18446744073709551616 * m % 18446744073709551616 = q * m) ∧ (¬ q % 18446744073709551616 * m / 18446744073709551616 = 0 → ¬ q * m < pw) := by
 rw [e]
 generalize q * m = Y at *
 omega
theorem em_not {q m pw : Int} (h : 0 ≤ q) (h2 : q ≤ q * m) (hp : -9223372036854775808 ≤ pw ∧ pw ≤ 9223372036854775807) (c : ¬ q / 18446744073709551616 = 0) : ¬ q * m < pw := by
 generalize q * m = Y at *
 omega
section
variable {C : Ctx}
set_option maxRecDepth 20000 in
set_option maxHeartbeats 1000000 in
theorem Sure_spec (hC : Has C T321) {p : PlanP} {vp : AV} {b s prn : Int} {h : Heap} (R : RI h vp p.prns) (h64 : p.ok64) :
  ACalls C 321 [plA p vp, gA b s, .int .i64 prn] h (fun r h' => r = sureE p b s prn ∧ HSub h h') := by
 have v1 := R.one
 have kr := fun H (R1 : RI H vp p.prns) => right331_spec (b := b) (s := s) (prn := prn) (hC.sub (T' := T331) (by decide)) (h := H) R1 h64
 have kb := fun (ok : PlanOk p) (hs : 0 ≤ s ∧ s ≤ 30) H sv (R1 : RI H vp p.prns) (V : SumV H sv p s) (hin : prn ∈ p.prns) => floor338_spec (b := b) (hC.sub (T' := T338) (by decide)) (h := H) ok hs R1 V hin
 have kt := fun (ok : PlanOk p) (hs : 0 ≤ s ∧ s ≤ 30) H sv (R1 : RI H vp p.prns) (V : SumV H sv p s) (hin : prn ∈ p.prns) => thr332_spec (b := b) (hC.sub (T' := T332) (by decide)) (h := H) ok hs R1 V hin
 have e0 : detErr p b s prn = 0 → askErr p b s = 0 ∧ prn ∈ p.prns := detErr_ok
 have tm := fun (ok : PlanOk p) (hs : 0 ≤ s ∧ s ≤ 30) => thr_mul ok hs prn
 unfold sureE sureB
 generalize detErr p b s prn = E at *
 unfold askA plA gA at *
 by_cases c : E = 0
 ·subst c
  obtain ⟨ea, hin⟩ := e0 rfl
  obtain ⟨ok, hg⟩ := askErr_ok ea
  have hs := (gErr_ok hg).2.2
  have kb := fun H sv R1 V => kb ok hs H sv R1 V hin
  have kt := fun H sv R1 V => kt ok hs H sv R1 V hin
  have tm := tm ok hs
  generalize floorI p s prn = F at *
  generalize thrI p s prn = Th at *
  generalize hP : (2 : Int) ^ s.toNat = P at *
  clear e0 ea
  obtain ⟨d, o, pb, w, mn, mx, nz, prns⟩ := p
  dsimp only at *
  (refine calls_intro (hC.body (by decide) tab321) (Nat.le_of_ble_eq_true rfl) ?_); (show wp C _ none B321.code _ _); (simp only [B321]); simp -implicitDefEqProofs (disch := first | assumption | decide | omega | (simp only [wpD1] <;> omega) | (simp only [wpD2] <;> assumption) | solve_by_elim [zR, zP, zV] | fail) only [↓wpPre, wpPost, wpPoly, Int.reduceToNat, Int.reducePow, Int.reduceMul, Int.reduceAdd, Int.reduceSub, Int.reduceNeg, Nat.reduceAdd, Nat.reduceMul, Nat.reducePow, Int.reduceLT, Int.reduceLE, Int.reduceEq, Nat.reduceEqDiff]
  refine ACallsK.of (kr _ (R.mono (by repeat (first | exact HSub.refl h | refine HSub.put ?_ (by (try simp only [Heap.size_put, Heap.size_push, Heap.size_reserve]); omega) _ | refine HSub.push ?_ _ | refine HSub.reserve ?_ _)))) ?_
  rintro r h2 ⟨sA, sv, rfl, ⟨a1, a2, a3, rfl, o1⟩, V⟩
  have V := V rfl
  have z2 := sA.size
  simp only [Heap.size_push] at z2
  have g4 : h2.get (h.size + 1) = some (.cells [.int .i64 b, .int .i64 s] true 0) := (sA.get _ (by simp only [Heap.size_push]; omega)).trans (by simp -implicitDefEqProofs (disch := first | assumption | decide | omega | (simp only [wpD1] <;> omega) | (simp only [wpD2] <;> assumption) | solve_by_elim [zR, zP, zV] | fail) only [↓wpPre, wpPost, wpPoly, Int.reduceToNat, Int.reducePow, Int.reduceMul, Int.reduceAdd, Int.reduceSub, Int.reduceNeg, Nat.reduceAdd, Nat.reduceMul, Nat.reducePow, Int.reduceLT, Int.reduceLE, Int.reduceEq, Nat.reduceEqDiff])
  have hs2 : HSub h h2 := (show HSub h _ from (by repeat (first | exact HSub.refl h | refine HSub.put ?_ (by (try simp only [Heap.size_put, Heap.size_push, Heap.size_reserve]); omega) _ | refine HSub.push ?_ _ | refine HSub.reserve ?_ _))).trans sA
  simp -implicitDefEqProofs (disch := first | assumption | decide | omega | (simp only [wpD1] <;> omega) | (simp only [wpD2] <;> assumption) | solve_by_elim [zR, zP, zV] | fail) only [↓wpPre, wpPost, wpPoly, Int.reduceToNat, Int.reducePow, Int.reduceMul, Int.reduceAdd, Int.reduceSub, Int.reduceNeg, Nat.reduceAdd, Nat.reduceMul, Nat.reducePow, Int.reduceLT, Int.reduceLE, Int.reduceEq, Nat.reduceEqDiff, wpMap, g4]
  refine ACallsK.eq (kb _ _ (R.mono (by repeat (first | exact hs2 | refine HSub.put ?_ (by (try simp only [Heap.size_put, Heap.size_push, Heap.size_reserve]); omega) _ | refine HSub.push ?_ _ | refine HSub.reserve ?_ _))) (V.mono (by repeat (first | exact HSub.refl h2 | refine HSub.put ?_ (by (try simp only [Heap.size_put, Heap.size_push, Heap.size_reserve]); omega) _ | refine HSub.push ?_ _ | refine HSub.reserve ?_ _)))) ?_
  simp -implicitDefEqProofs (disch := first | assumption | decide | omega | (simp only [wpD1] <;> omega) | (simp only [wpD2] <;> assumption) | solve_by_elim [zR, zP, zV] | fail) only [↓wpPre, wpPost, wpPoly, Int.reduceToNat, Int.reducePow, Int.reduceMul, Int.reduceAdd, Int.reduceSub, Int.reduceNeg, Nat.reduceAdd, Nat.reduceMul, Nat.reducePow, Int.reduceLT, Int.reduceLE, Int.reduceEq, Nat.reduceEqDiff, wpMap, g4]
  refine ACallsK.eq (kt _ _ (R.mono (by repeat (first | exact hs2 | refine HSub.put ?_ (by (try simp only [Heap.size_put, Heap.size_push, Heap.size_reserve]); omega) _ | refine HSub.push ?_ _ | refine HSub.reserve ?_ _))) (V.mono (by repeat (first | exact HSub.refl h2 | refine HSub.put ?_ (by (try simp only [Heap.size_put, Heap.size_push, Heap.size_reserve]); omega) _ | refine HSub.push ?_ _ | refine HSub.reserve ?_ _)))) ?_
  simp -implicitDefEqProofs (disch := first | assumption | decide | omega | (simp only [wpD1] <;> omega) | (simp only [wpD2] <;> assumption) | solve_by_elim [zR, zP, zV] | fail) only [↓wpPre, wpPost, wpPoly, Int.reduceToNat, Int.reducePow, Int.reduceMul, Int.reduceAdd, Int.reduceSub, Int.reduceNeg, Nat.reduceAdd, Nat.reduceMul, Nat.reducePow, Int.reduceLT, Int.reduceLE, Int.reduceEq, Nat.reduceEqDiff, hP]
  exact ⟨rfl, (by repeat (first | exact hs2 | refine HSub.put ?_ (by (try simp only [Heap.size_put, Heap.size_push, Heap.size_reserve]); omega) _ | refine HSub.push ?_ _ | refine HSub.reserve ?_ _))⟩
 ·obtain ⟨d, o, pb, w, mn, mx, nz, prns⟩ := p
  dsimp only at *
  (refine calls_intro (hC.body (by decide) tab321) (Nat.le_of_ble_eq_true rfl) ?_); (show wp C _ none B321.code _ _); (simp only [B321]); simp -implicitDefEqProofs (disch := first | assumption | decide | omega | (simp only [wpD1] <;> omega) | (simp only [wpD2] <;> assumption) | solve_by_elim [zR, zP, zV] | fail) only [↓wpPre, wpPost, wpPoly, Int.reduceToNat, Int.reducePow, Int.reduceMul, Int.reduceAdd, Int.reduceSub, Int.reduceNeg, Nat.reduceAdd, Nat.reduceMul, Nat.reducePow, Int.reduceLT, Int.reduceLE, Int.reduceEq, Nat.reduceEqDiff]
  refine ACallsK.of (kr _ (R.mono (by repeat (first | exact HSub.refl h | refine HSub.put ?_ (by (try simp only [Heap.size_put, Heap.size_push, Heap.size_reserve]); omega) _ | refine HSub.push ?_ _ | refine HSub.reserve ?_ _)))) ?_
  rintro r h2 ⟨sA, sv, rfl, ⟨a1, a2, a3, rfl, o1⟩, V⟩
  have hs2 : HSub h h2 := (show HSub h _ from (by repeat (first | exact HSub.refl h | refine HSub.put ?_ (by (try simp only [Heap.size_put, Heap.size_push, Heap.size_reserve]); omega) _ | refine HSub.push ?_ _ | refine HSub.reserve ?_ _))).trans sA
  simp -implicitDefEqProofs (disch := first | assumption | decide | omega | (simp only [wpD1] <;> omega) | (simp only [wpD2] <;> assumption) | solve_by_elim [zR, zP, zV] | fail) only [↓wpPre, wpPost, wpPoly, Int.reduceToNat, Int.reducePow, Int.reduceMul, Int.reduceAdd, Int.reduceSub, Int.reduceNeg, Nat.reduceAdd, Nat.reduceMul, Nat.reducePow, Int.reduceLT, Int.reduceLE, Int.reduceEq, Nat.reduceEqDiff, wpMap, c]
  exact ⟨by simp, (by repeat (first | exact hs2 | refine HSub.put ?_ (by (try simp only [Heap.size_put, Heap.size_push, Heap.size_reserve]); omega) _ | refine HSub.push ?_ _ | refine HSub.reserve ?_ _))⟩
set_option maxRecDepth 20000 in
set_option maxHeartbeats 1000000 in
theorem Claims_spec (hC : Has C T313) {p : PlanP} {vp : AV} {b s prn pw m : Int} {h : Heap} (R : RI h vp p.prns) (h64 : p.ok64) (hpw : In64 pw) (hm : In64 m) :
  ACalls C 313 [plA p vp, gA b s, .int .i64 prn, .int .i64 pw, .int .i64 m] h (fun r h' => r = claimE p b s prn pw m ∧ HSub h h') := by
 have v1 := R.one
 have kr := fun H (R1 : RI H vp p.prns) => right331_spec (b := b) (s := s) (prn := prn) (hC.sub (T' := T331) (by decide)) (h := H) R1 h64
 have kt := fun (ok : PlanOk p) (hs : 0 ≤ s ∧ s ≤ 30) H sv (R1 : RI H vp p.prns) (V : SumV H sv p s) (hin : prn ∈ p.prns) => thr332_spec (b := b) (hC.sub (T' := T332) (by decide)) (h := H) ok hs R1 V hin
 have e0 : detErr p b s prn = 0 → askErr p b s = 0 ∧ prn ∈ p.prns := detErr_ok
 have tr := fun (ok : PlanOk p) (hs : 0 ≤ s ∧ s ≤ 30) => thr_range ok hs prn
 unfold claimE claimB
 unfold In64 at hpw hm
 generalize detErr p b s prn = E at *
 unfold askA plA gA at *
 by_cases c : E = 0
 ·subst c
  obtain ⟨ea, hin⟩ := e0 rfl
  obtain ⟨ok, hg⟩ := askErr_ok ea
  have hs := (gErr_ok hg).2.2
  have kt := fun H sv R1 V => kt ok hs H sv R1 V hin
  have tr := tr ok hs
  generalize thrI p s prn = Th at *
  clear e0 ea
  have k1 := fun H => Mul64_full (hC.sub (T' := T105) (by decide)) (a := Th) (b := Th) (h := H) (by omega) (by omega)
  have sq := Int.mul_nonneg tr.1 tr.1
  have lo : 0 ≤ Th * Th % 18446744073709551616 ∧ Th * Th % 18446744073709551616 < 18446744073709551616 := by omega
  have hi : 0 ≤ Th * Th / 18446744073709551616 ∧ Th * Th / 18446744073709551616 ≤ 18446744073709551615 := by
   have := Int.mul_le_mul tr.2 tr.2 tr.1 (by decide)
   generalize Th * Th = q at *
   omega
  have k2 := fun (hm1 : 1 ≤ m ∧ m ≤ 1000) H => Mul64_full (hC.sub (T' := T105) (by decide)) (a := Th * Th % 18446744073709551616) (b := m) (h := H) lo (by omega)
  obtain ⟨d, o, pb, w, mn, mx, nz, prns⟩ := p
  dsimp only at *
  (refine calls_intro (hC.body (by decide) tab313) (Nat.le_of_ble_eq_true rfl) ?_); (show wp C _ none B313.code _ _); (simp only [B313]); simp -implicitDefEqProofs (disch := first | assumption | decide | omega | (simp only [wpD1] <;> omega) | (simp only [wpD2] <;> assumption) | solve_by_elim [zR, zP, zV] | fail) only [↓wpPre, wpPost, wpPoly, Int.reduceToNat, Int.reducePow, Int.reduceMul, Int.reduceAdd, Int.reduceSub, Int.reduceNeg, Nat.reduceAdd, Nat.reduceMul, Nat.reducePow, Int.reduceLT, Int.reduceLE, Int.reduceEq, Nat.reduceEqDiff]
  refine ACallsK.of (kr _ (R.mono (by repeat (first | exact HSub.refl h | refine HSub.put ?_ (by (try simp only [Heap.size_put, Heap.size_push, Heap.size_reserve]); omega) _ | refine HSub.push ?_ _ | refine HSub.reserve ?_ _)))) ?_
  rintro r h2 ⟨sA, sv, rfl, ⟨a1, a2, a3, rfl, o1⟩, V⟩
  have V := V rfl
  have z2 := sA.size
  simp only [Heap.size_push] at z2
  have g4 : h2.get (h.size + 1) = some (.cells [.int .i64 b, .int .i64 s] true 0) := (sA.get _ (by simp only [Heap.size_push]; omega)).trans (by simp -implicitDefEqProofs (disch := first | assumption | decide | omega | (simp only [wpD1] <;> omega) | (simp only [wpD2] <;> assumption) | solve_by_elim [zR, zP, zV] | fail) only [↓wpPre, wpPost, wpPoly, Int.reduceToNat, Int.reducePow, Int.reduceMul, Int.reduceAdd, Int.reduceSub, Int.reduceNeg, Nat.reduceAdd, Nat.reduceMul, Nat.reducePow, Int.reduceLT, Int.reduceLE, Int.reduceEq, Nat.reduceEqDiff])
  have hs2 : HSub h h2 := (show HSub h _ from (by repeat (first | exact HSub.refl h | refine HSub.put ?_ (by (try simp only [Heap.size_put, Heap.size_push, Heap.size_reserve]); omega) _ | refine HSub.push ?_ _ | refine HSub.reserve ?_ _))).trans sA
  by_cases c1 : pw < 0
  ·simp -implicitDefEqProofs (disch := first | assumption | decide | omega | (simp only [wpD1] <;> omega) | (simp only [wpD2] <;> assumption) | solve_by_elim [zR, zP, zV] | fail) only [↓wpPre, wpPost, wpPoly, Int.reduceToNat, Int.reducePow, Int.reduceMul, Int.reduceAdd, Int.reduceSub, Int.reduceNeg, Nat.reduceAdd, Nat.reduceMul, Nat.reducePow, Int.reduceLT, Int.reduceLE, Int.reduceEq, Nat.reduceEqDiff, wpMap, c1, gV_u]
   exact ⟨by simp, (by repeat (first | exact hs2 | refine HSub.put ?_ (by (try simp only [Heap.size_put, Heap.size_push, Heap.size_reserve]); omega) _ | refine HSub.push ?_ _ | refine HSub.reserve ?_ _))⟩
  by_cases c2 : m < 1
  ·simp -implicitDefEqProofs (disch := first | assumption | decide | omega | (simp only [wpD1] <;> omega) | (simp only [wpD2] <;> assumption) | solve_by_elim [zR, zP, zV] | fail) only [↓wpPre, wpPost, wpPoly, Int.reduceToNat, Int.reducePow, Int.reduceMul, Int.reduceAdd, Int.reduceSub, Int.reduceNeg, Nat.reduceAdd, Nat.reduceMul, Nat.reducePow, Int.reduceLT, Int.reduceLE, Int.reduceEq, Nat.reduceEqDiff, wpMap, c1, c2, gV_u]
   exact ⟨by simp, (by repeat (first | exact hs2 | refine HSub.put ?_ (by (try simp only [Heap.size_put, Heap.size_push, Heap.size_reserve]); omega) _ | refine HSub.push ?_ _ | refine HSub.reserve ?_ _))⟩
  by_cases c3 : 1000 < m
  ·simp -implicitDefEqProofs (disch := first | assumption | decide | omega | (simp only [wpD1] <;> omega) | (simp only [wpD2] <;> assumption) | solve_by_elim [zR, zP, zV] | fail) only [↓wpPre, wpPost, wpPoly, Int.reduceToNat, Int.reducePow, Int.reduceMul, Int.reduceAdd, Int.reduceSub, Int.reduceNeg, Nat.reduceAdd, Nat.reduceMul, Nat.reducePow, Int.reduceLT, Int.reduceLE, Int.reduceEq, Nat.reduceEqDiff, wpMap, c1, c2, c3, gV_u]
   exact ⟨by simp, (by repeat (first | exact hs2 | refine HSub.put ?_ (by (try simp only [Heap.size_put, Heap.size_push, Heap.size_reserve]); omega) _ | refine HSub.push ?_ _ | refine HSub.reserve ?_ _))⟩
  have k2 := k2 (by omega)
  have m1 := Int.mul_nonneg sq (show 0 ≤ m by omega)
  have m2 := Int.mul_le_mul (Int.le_refl (Th * Th)) (show 1 ≤ m by omega) (by decide) sq
  rw [Int.mul_one] at m2
  have lx := em_of sq
  have wr := fun e => em_mul (q := Th * Th) (m := m) (pw := pw) m1 hpw e
  have wn := em_not (pw := pw) sq m2 hpw
  simp -implicitDefEqProofs (disch := first | assumption | decide | omega | (simp only [wpD1] <;> omega) | (simp only [wpD2] <;> assumption) | solve_by_elim [zR, zP, zV] | fail) only [↓wpPre, wpPost, wpPoly, Int.reduceToNat, Int.reducePow, Int.reduceMul, Int.reduceAdd, Int.reduceSub, Int.reduceNeg, Nat.reduceAdd, Nat.reduceMul, Nat.reducePow, Int.reduceLT, Int.reduceLE, Int.reduceEq, Nat.reduceEqDiff, wpMap, c1, c2, c3, gV_u]
  refine ACallsK.eq (kt _ _ (R.mono (by repeat (first | exact hs2 | refine HSub.put ?_ (by (try simp only [Heap.size_put, Heap.size_push, Heap.size_reserve]); omega) _ | refine HSub.push ?_ _ | refine HSub.reserve ?_ _))) (V.mono (by repeat (first | exact HSub.refl h2 | refine HSub.put ?_ (by (try simp only [Heap.size_put, Heap.size_push, Heap.size_reserve]); omega) _ | refine HSub.push ?_ _ | refine HSub.reserve ?_ _)))) ?_
  simp -implicitDefEqProofs (disch := first | assumption | decide | omega | (simp only [wpD1] <;> omega) | (simp only [wpD2] <;> assumption) | solve_by_elim [zR, zP, zV] | fail) only [↓wpPre, wpPost, wpPoly, Int.reduceToNat, Int.reducePow, Int.reduceMul, Int.reduceAdd, Int.reduceSub, Int.reduceNeg, Nat.reduceAdd, Nat.reduceMul, Nat.reducePow, Int.reduceLT, Int.reduceLE, Int.reduceEq, Nat.reduceEqDiff]
  refine ACallsK.eq (k1 _) ?_
  by_cases c4 : Th * Th / 18446744073709551616 = 0
  ·simp -implicitDefEqProofs (disch := first | assumption | decide | omega | (simp only [wpD1] <;> omega) | (simp only [wpD2] <;> assumption) | solve_by_elim [zR, zP, zV] | fail) only [↓wpPre, wpPost, wpPoly, Int.reduceToNat, Int.reducePow, Int.reduceMul, Int.reduceAdd, Int.reduceSub, Int.reduceNeg, Nat.reduceAdd, Nat.reduceMul, Nat.reducePow, Int.reduceLT, Int.reduceLE, Int.reduceEq, Nat.reduceEqDiff, c4]
   refine ACallsK.eq (k2 _) ?_
   have lx := lx c4
   by_cases c5 : Th * Th % 18446744073709551616 * m / 18446744073709551616 = 0
   ·have ly := (wr lx).1 c5
    simp -implicitDefEqProofs (disch := first | assumption | decide | omega | (simp only [wpD1] <;> omega) | (simp only [wpD2] <;> assumption) | solve_by_elim [zR, zP, zV] | fail) only [↓wpPre, wpPost, wpPoly, Int.reduceToNat, Int.reducePow, Int.reduceMul, Int.reduceAdd, Int.reduceSub, Int.reduceNeg, Nat.reduceAdd, Nat.reduceMul, Nat.reducePow, Int.reduceLT, Int.reduceLE, Int.reduceEq, Nat.reduceEqDiff, c5, ly, gV_u]
    exact ⟨by simp [c1, c2, c3], (by repeat (first | exact hs2 | refine HSub.put ?_ (by (try simp only [Heap.size_put, Heap.size_push, Heap.size_reserve]); omega) _ | refine HSub.push ?_ _ | refine HSub.reserve ?_ _))⟩
   ·have ny := (wr lx).2 c5
    simp -implicitDefEqProofs (disch := first | assumption | decide | omega | (simp only [wpD1] <;> omega) | (simp only [wpD2] <;> assumption) | solve_by_elim [zR, zP, zV] | fail) only [↓wpPre, wpPost, wpPoly, Int.reduceToNat, Int.reducePow, Int.reduceMul, Int.reduceAdd, Int.reduceSub, Int.reduceNeg, Nat.reduceAdd, Nat.reduceMul, Nat.reducePow, Int.reduceLT, Int.reduceLE, Int.reduceEq, Nat.reduceEqDiff, c5, gV_u]
    exact ⟨by simp [c1, c2, c3, ny], (by repeat (first | exact hs2 | refine HSub.put ?_ (by (try simp only [Heap.size_put, Heap.size_push, Heap.size_reserve]); omega) _ | refine HSub.push ?_ _ | refine HSub.reserve ?_ _))⟩
  ·have ny := wn c4
   simp -implicitDefEqProofs (disch := first | assumption | decide | omega | (simp only [wpD1] <;> omega) | (simp only [wpD2] <;> assumption) | solve_by_elim [zR, zP, zV] | fail) only [↓wpPre, wpPost, wpPoly, Int.reduceToNat, Int.reducePow, Int.reduceMul, Int.reduceAdd, Int.reduceSub, Int.reduceNeg, Nat.reduceAdd, Nat.reduceMul, Nat.reducePow, Int.reduceLT, Int.reduceLE, Int.reduceEq, Nat.reduceEqDiff, c4]
   exact ⟨by simp [c1, c2, c3, ny], (by repeat (first | exact hs2 | refine HSub.put ?_ (by (try simp only [Heap.size_put, Heap.size_push, Heap.size_reserve]); omega) _ | refine HSub.push ?_ _ | refine HSub.reserve ?_ _))⟩
 ·obtain ⟨d, o, pb, w, mn, mx, nz, prns⟩ := p
  dsimp only at *
  (refine calls_intro (hC.body (by decide) tab313) (Nat.le_of_ble_eq_true rfl) ?_); (show wp C _ none B313.code _ _); (simp only [B313]); simp -implicitDefEqProofs (disch := first | assumption | decide | omega | (simp only [wpD1] <;> omega) | (simp only [wpD2] <;> assumption) | solve_by_elim [zR, zP, zV] | fail) only [↓wpPre, wpPost, wpPoly, Int.reduceToNat, Int.reducePow, Int.reduceMul, Int.reduceAdd, Int.reduceSub, Int.reduceNeg, Nat.reduceAdd, Nat.reduceMul, Nat.reducePow, Int.reduceLT, Int.reduceLE, Int.reduceEq, Nat.reduceEqDiff]
  refine ACallsK.of (kr _ (R.mono (by repeat (first | exact HSub.refl h | refine HSub.put ?_ (by (try simp only [Heap.size_put, Heap.size_push, Heap.size_reserve]); omega) _ | refine HSub.push ?_ _ | refine HSub.reserve ?_ _)))) ?_
  rintro r h2 ⟨sA, sv, rfl, ⟨a1, a2, a3, rfl, o1⟩, V⟩
  have hs2 : HSub h h2 := (show HSub h _ from (by repeat (first | exact HSub.refl h | refine HSub.put ?_ (by (try simp only [Heap.size_put, Heap.size_push, Heap.size_reserve]); omega) _ | refine HSub.push ?_ _ | refine HSub.reserve ?_ _))).trans sA
  simp -implicitDefEqProofs (disch := first | assumption | decide | omega | (simp only [wpD1] <;> omega) | (simp only [wpD2] <;> assumption) | solve_by_elim [zR, zP, zV] | fail) only [↓wpPre, wpPost, wpPoly, Int.reduceToNat, Int.reducePow, Int.reduceMul, Int.reduceAdd, Int.reduceSub, Int.reduceNeg, Nat.reduceAdd, Nat.reduceMul, Nat.reducePow, Int.reduceLT, Int.reduceLE, Int.reduceEq, Nat.reduceEqDiff, wpMap, c]
  exact ⟨by simp, (by repeat (first | exact hs2 | refine HSub.put ?_ (by (try simp only [Heap.size_put, Heap.size_push, Heap.size_reserve]); omega) _ | refine HSub.push ?_ _ | refine HSub.reserve ?_ _))⟩
def thrK (p : PlanP) (s : Int) (ps : List Int) (k : Nat) : List Int := (ps.take k).map fun x => thrI p s x
theorem thrK_succ {p : PlanP} {s : Int} {ps : List Int} {k : Nat} (hk : k < ps.length) : thrK p s ps (k + 1) = thrK p s ps k ++ [thrI p s (ps.getD k 0)] := by
 simp [thrK, take_one hk]
theorem thrK_length {p : PlanP} {s : Int} {ps : List Int} {k : Nat} (hk : k ≤ ps.length) : (thrK p s ps k).length = k := by simp [thrK]; omega
theorem one342_spec (hC : Has C T342) {p : PlanP} {vp v : AV} {b s x : Int} {l : List Int} {i8 i6 u8 u6 : Nat} {h0 h : Heap} {a1 a2 a3 : AV} (ok : PlanOk p) (hs : 0 ≤ s ∧ s ≤ 30) (A : GrwI h0 h v l) (l8 : l.length < 8) (R : RI h vp p.prns) (V : SumV h (.agg [a1, a2, a3]) p s) (hin : x ∈ p.prns)
  (g8 : h.get i8 = some (.cells [a1, a2, a3] true u8)) (g6 : h.get i6 = some (.cells [.int .i64 p.d, .int .i64 p.o, .int .i64 p.pb, .int .i64 p.w, .int .i64 p.mn, .int .i64 p.mx, .int .i64 p.nz, vp, .int .i64 b, .int .i64 s] true u6)) :
  ACalls C 342 [v, .int .i64 x, .ptr i8 0, .ptr i6 0] h (fun r h' => GrwI h0 h' r (l ++ [thrI p s x])) := by
 have kt := thr332_spec (b := b) (hC.sub (T' := T332) (by decide)) ok hs R V hin
 unfold askA at kt
 have sl : HSub h (h.push (.cells [.int .i64 (thrI p s x)] true 0)) := HSub.push1 _ _
 have ap := A.app (x := thrI p s x) _ sl (by omega)
 have sn := A.snoc (x := thrI p s x) sl (by omega)
 obtain ⟨d, o, pb, w, mn, mx, nz, prns⟩ := p
 dsimp only at *
 (refine calls_intro (hC.body (by decide) tab342) (Nat.le_of_ble_eq_true rfl) ?_); (show wp C _ none B342.code _ _); (simp only [B342]); simp -implicitDefEqProofs (disch := first | assumption | decide | omega | (simp only [wpD1] <;> omega) | (simp only [wpD2] <;> assumption) | solve_by_elim [zR, zP, zV] | fail) only [↓wpPre, wpPost, wpPoly, Int.reduceToNat, Int.reducePow, Int.reduceMul, Int.reduceAdd, Int.reduceSub, Int.reduceNeg, Nat.reduceAdd, Nat.reduceMul, Nat.reducePow, Int.reduceLT, Int.reduceLE, Int.reduceEq, Nat.reduceEqDiff, g8, g6]
 refine ACallsK.eq kt ?_
 simp -implicitDefEqProofs (disch := first | assumption | decide | omega | (simp only [wpD1] <;> omega) | (simp only [wpD2] <;> assumption) | solve_by_elim [zR, zP, zV] | fail) only [↓wpPre, wpPost, wpPoly, Int.reduceToNat, Int.reducePow, Int.reduceMul, Int.reduceAdd, Int.reduceSub, Int.reduceNeg, Nat.reduceAdd, Nat.reduceMul, Nat.reducePow, Int.reduceLT, Int.reduceLE, Int.reduceEq, Nat.reduceEqDiff, cont_slice, contB_one, ap]
 exact sn
set_option maxRecDepth 20000 in
theorem fold341_spec (hC : Has C T323) {p : PlanP} {vp : AV} {b s : Int} {i8 i6 u8 u6 : Nat} {h : Heap} {a1 a2 a3 : AV} (ok : PlanOk p) (hs : 0 ≤ s ∧ s ≤ 30) (R : RI h vp p.prns) (V : SumV h (.agg [a1, a2, a3]) p s)
  (g8 : h.get i8 = some (.cells [a1, a2, a3] true u8)) (g6 : h.get i6 = some (.cells [.int .i64 p.d, .int .i64 p.o, .int .i64 p.pb, .int .i64 p.w, .int .i64 p.mn, .int .i64 p.mx, .int .i64 p.nz, vp, .int .i64 b, .int .i64 s] true u6)) :
  ACalls C 341 [vp, .nilslice, .func 342 [] [.ptr i8 0, .ptr i6 0]] h (fun r h' => GrwI h h' r (thrK p s p.prns p.prns.length)) := by
 have l8 := ok.len
 have l8' := Heap.lt_of_get g8
 have l6' := Heap.lt_of_get g6
 have st := fun (k : Nat) (hk : k < p.prns.length) h1 v (A : GrwI h h1 v (thrK p s p.prns k)) => one342_spec (b := b) (hC.sub (T' := T342) (by decide)) (x := p.prns.getD k 0) ok hs A (by rw [thrK_length (by omega)]; omega) (R.mono A.sub) (V.mono A.sub) (getD_mem hk) ((A.sub.get _ l8').trans g8) ((A.sub.get _ l6').trans g6)
 have hC := hC.sub (T' := T341) (by decide)
 (refine calls_intro (hC.body (by decide) tab341) (Nat.le_of_ble_eq_true rfl) ?_); (show wp C _ none B341.code _ _); (simp only [B341]); simp -implicitDefEqProofs (disch := first | assumption | decide | omega | (simp only [wpD1] <;> omega) | (simp only [wpD2] <;> assumption) | solve_by_elim [zR, zP, zV] | fail) only [↓wpPre, wpPost, wpPoly, Int.reduceToNat, Int.reducePow, Int.reduceMul, Int.reduceAdd, Int.reduceSub, Int.reduceNeg, Nat.reduceAdd, Nat.reduceMul, Nat.reducePow, Int.reduceLT, Int.reduceLE, Int.reduceEq, Nat.reduceEqDiff, R.len]
 refine wp_loopI (fun j t h' => ∃ k : Nat, GrwI h h' (t 1) (thrK p s p.prns k) ∧ t 2 = .func 342 [] [.ptr i8 0, .ptr i6 0] ∧ t 9 = vp ∧ t 10 = .int .i64 (p.prns.length : Nat) ∧ t 11 = .int .i64 (k : Nat) ∧ k ≤ p.prns.length ∧ j = p.prns.length - k) (j0 := p.prns.length)
  ⟨0, GrwI.nil _, rfl, rfl, rfl, rfl, by omega, rfl⟩ ?_
 rintro j t h1 ⟨k, A, e2, e9, e10, e11, hk, hj⟩
 simp -implicitDefEqProofs (disch := first | assumption | decide | omega | (simp only [wpD1] <;> omega) | (simp only [wpD2] <;> assumption) | solve_by_elim [zR, zP, zV] | fail) only [↓wpPre, wpPost, wpPoly, Int.reduceToNat, Int.reducePow, Int.reduceMul, Int.reduceAdd, Int.reduceSub, Int.reduceNeg, Nat.reduceAdd, Nat.reduceMul, Nat.reducePow, Int.reduceLT, Int.reduceLE, Int.reduceEq, Nat.reduceEqDiff, e10, e11]
 refine Br.by (fun c => ?_) (fun c => ?_)
 ·have hk' : k < p.prns.length := by omega
  have R1 := R.mono A.sub
  simp -implicitDefEqProofs (disch := first | assumption | decide | omega | (simp only [wpD1] <;> omega) | (simp only [wpD2] <;> assumption) | solve_by_elim [zR, zP, zV] | fail) only [↓wpPre, wpPost, wpPoly, Int.reduceToNat, Int.reducePow, Int.reduceMul, Int.reduceAdd, Int.reduceSub, Int.reduceNeg, Nat.reduceAdd, Nat.reduceMul, Nat.reducePow, Int.reduceLT, Int.reduceLE, Int.reduceEq, Nat.reduceEqDiff, e2, e9, e10, e11, R1.idx, R1.load hk']
  refine ACallsK.of (st k hk' _ _ A) ?_
  intro r h2 A2
  rw [← thrK_succ hk'] at A2
  simp -implicitDefEqProofs (disch := first | assumption | decide | omega | (simp only [wpD1] <;> omega) | (simp only [wpD2] <;> assumption) | solve_by_elim [zR, zP, zV] | fail) only [↓wpPre, wpPost, wpPoly, Int.reduceToNat, Int.reducePow, Int.reduceMul, Int.reduceAdd, Int.reduceSub, Int.reduceNeg, Nat.reduceAdd, Nat.reduceMul, Nat.reducePow, Int.reduceLT, Int.reduceLE, Int.reduceEq, Nat.reduceEqDiff, e2, e9, e10, e11]
  exact ⟨_, ⟨k + 1, A2, by omega, by omega, rfl⟩, by omega⟩
 ·obtain rfl : k = p.prns.length := by omega
  simp -implicitDefEqProofs (disch := first | assumption | decide | omega | (simp only [wpD1] <;> omega) | (simp only [wpD2] <;> assumption) | solve_by_elim [zR, zP, zV] | fail) only [↓wpPre, wpPost, wpPoly, Int.reduceToNat, Int.reducePow, Int.reduceMul, Int.reduceAdd, Int.reduceSub, Int.reduceNeg, Nat.reduceAdd, Nat.reduceMul, Nat.reducePow, Int.reduceLT, Int.reduceLE, Int.reduceEq, Nat.reduceEqDiff]
  exact A
set_option maxRecDepth 20000 in
set_option maxHeartbeats 1000000 in
theorem Thresholds_spec (hC : Has C T323) {p : PlanP} {vp : AV} {b s : Int} {h : Heap} (R : RI h vp p.prns) (h64 : p.ok64) :
  ACalls C 323 [plA p vp, gA b s] h (fun r h' => ∃ v, r = lstErr v (askErr p b s) ∧ HSub h h' ∧ RI h' v (if askErr p b s = 0 then thrK p s p.prns p.prns.length else [])) := by
 have v1 := R.one
 have kc := fun H (R1 : RI H vp p.prns) => check339_spec (b := b) (s := s) (hC.sub (T' := T339) (by decide)) (h := H) R1 h64
 have kn := fun (ok : PlanOk p) (hg : gErr b s = 0) H (R1 : RI H vp p.prns) => known340_spec (hC.sub (T' := T340) (by decide)) (h := H) ok hg h64 R1
 have kf := fun (ok : PlanOk p) (hs : 0 ≤ s ∧ s ≤ 30) H a1 a2 a3 i8 i6 u8 u6 (R1 : RI H vp p.prns) V g8 g6 => fold341_spec (b := b) hC (h := H) (a1 := a1) (a2 := a2) (a3 := a3) (i8 := i8) (i6 := i6) (u8 := u8) (u6 := u6) ok hs R1 V g8 g6
 unfold askA at kc kn
 unfold plA gA
 by_cases c : askErr p b s = 0
 ·obtain ⟨ok, hg⟩ := askErr_ok c
  have kf := kf ok (gErr_ok hg).2.2
  rw [c] at kc
  rw [c, if_pos rfl]
  generalize thrK p s p.prns p.prns.length = LL at *
  obtain ⟨d, o, pb, w, mn, mx, nz, prns⟩ := p
  dsimp only at *
  (refine calls_intro (hC.body (by decide) tab323) (Nat.le_of_ble_eq_true rfl) ?_); (show wp C _ none B323.code _ _); (simp only [B323]); simp -implicitDefEqProofs (disch := first | assumption | decide | omega | (simp only [wpD1] <;> omega) | (simp only [wpD2] <;> assumption) | solve_by_elim [zR, zP, zV] | fail) only [↓wpPre, wpPost, wpPoly, Int.reduceToNat, Int.reducePow, Int.reduceMul, Int.reduceAdd, Int.reduceSub, Int.reduceNeg, Nat.reduceAdd, Nat.reduceMul, Nat.reducePow, Int.reduceLT, Int.reduceLE, Int.reduceEq, Nat.reduceEqDiff, wpMap]
  refine ACallsK.eq (kc _ (R.mono (by repeat (first | exact HSub.refl h | refine HSub.put ?_ (by (try simp only [Heap.size_put, Heap.size_push, Heap.size_reserve]); omega) _ | refine HSub.push ?_ _ | refine HSub.reserve ?_ _)))) ?_
  simp -implicitDefEqProofs (disch := first | assumption | decide | omega | (simp only [wpD1] <;> omega) | (simp only [wpD2] <;> assumption) | solve_by_elim [zR, zP, zV] | fail) only [↓wpPre, wpPost, wpPoly, Int.reduceToNat, Int.reducePow, Int.reduceMul, Int.reduceAdd, Int.reduceSub, Int.reduceNeg, Nat.reduceAdd, Nat.reduceMul, Nat.reducePow, Int.reduceLT, Int.reduceLE, Int.reduceEq, Nat.reduceEqDiff, wpMap]
  refine ACallsK.of (kn ok hg _ (R.mono (by repeat (first | exact HSub.refl h | refine HSub.put ?_ (by (try simp only [Heap.size_put, Heap.size_push, Heap.size_reserve]); omega) _ | refine HSub.push ?_ _ | refine HSub.reserve ?_ _)))) ?_
  rintro r h2 ⟨V, sA⟩
  have V0 := V
  obtain ⟨j, rfl, gm⟩ := V
  have o1 : (AV.map j).one = true := rfl
  have o0 : AV.nilmap.one = true := rfl
  have z2 := sA.size
  simp only [Heap.size_push] at z2
  have g2 : h2.get h.size = some (.cells [.int .i64 d, .int .i64 o, .int .i64 pb, .int .i64 w, .int .i64 mn, .int .i64 mx, .int .i64 nz, vp] true 0) := (sA.get _ (by simp only [Heap.size_push]; omega)).trans (by simp -implicitDefEqProofs (disch := first | assumption | decide | omega | (simp only [wpD1] <;> omega) | (simp only [wpD2] <;> assumption) | solve_by_elim [zR, zP, zV] | fail) only [↓wpPre, wpPost, wpPoly, Int.reduceToNat, Int.reducePow, Int.reduceMul, Int.reduceAdd, Int.reduceSub, Int.reduceNeg, Nat.reduceAdd, Nat.reduceMul, Nat.reducePow, Int.reduceLT, Int.reduceLE, Int.reduceEq, Nat.reduceEqDiff])
  have g6 : h2.get (h.size + 2) = some (.cells [.int .i64 d, .int .i64 o, .int .i64 pb, .int .i64 w, .int .i64 mn, .int .i64 mx, .int .i64 nz, vp, .int .i64 b, .int .i64 s] true 0) := (sA.get _ (by simp only [Heap.size_push]; omega)).trans (by simp -implicitDefEqProofs (disch := first | assumption | decide | omega | (simp only [wpD1] <;> omega) | (simp only [wpD2] <;> assumption) | solve_by_elim [zR, zP, zV] | fail) only [↓wpPre, wpPost, wpPoly, Int.reduceToNat, Int.reducePow, Int.reduceMul, Int.reduceAdd, Int.reduceSub, Int.reduceNeg, Nat.reduceAdd, Nat.reduceMul, Nat.reducePow, Int.reduceLT, Int.reduceLE, Int.reduceEq, Nat.reduceEqDiff])
  have hs2 : HSub h h2 := (show HSub h _ from (by repeat (first | exact HSub.refl h | refine HSub.put ?_ (by (try simp only [Heap.size_put, Heap.size_push, Heap.size_reserve]); omega) _ | refine HSub.push ?_ _ | refine HSub.reserve ?_ _))).trans sA
  clear sA kn kc
  simp -implicitDefEqProofs (disch := first | assumption | decide | omega | (simp only [wpD1] <;> omega) | (simp only [wpD2] <;> assumption) | solve_by_elim [zR, zP, zV] | fail) only [↓wpPre, wpPost, wpPoly, Int.reduceToNat, Int.reducePow, Int.reduceMul, Int.reduceAdd, Int.reduceSub, Int.reduceNeg, Nat.reduceAdd, Nat.reduceMul, Nat.reducePow, Int.reduceLT, Int.reduceLE, Int.reduceEq, Nat.reduceEqDiff, wpMap, g2]
  refine ACallsK.of (kf _ _ _ _ h2.size (h.size + 2) 0 0 (R.mono (by repeat (first | exact hs2 | refine HSub.put ?_ (by (try simp only [Heap.size_put, Heap.size_push, Heap.size_reserve]); omega) _ | refine HSub.push ?_ _ | refine HSub.reserve ?_ _))) (V0.mono (by repeat (first | exact HSub.refl h2 | refine HSub.put ?_ (by (try simp only [Heap.size_put, Heap.size_push, Heap.size_reserve]); omega) _ | refine HSub.push ?_ _ | refine HSub.reserve ?_ _))) (by simp -implicitDefEqProofs (disch := first | assumption | decide | omega | (simp only [wpD1] <;> omega) | (simp only [wpD2] <;> assumption) | solve_by_elim [zR, zP, zV] | fail) only [↓wpPre, wpPost, wpPoly, Int.reduceToNat, Int.reducePow, Int.reduceMul, Int.reduceAdd, Int.reduceSub, Int.reduceNeg, Nat.reduceAdd, Nat.reduceMul, Nat.reducePow, Int.reduceLT, Int.reduceLE, Int.reduceEq, Nat.reduceEqDiff]) (by simp -implicitDefEqProofs (disch := first | assumption | decide | omega | (simp only [wpD1] <;> omega) | (simp only [wpD2] <;> assumption) | solve_by_elim [zR, zP, zV] | fail) only [↓wpPre, wpPost, wpPoly, Int.reduceToNat, Int.reducePow, Int.reduceMul, Int.reduceAdd, Int.reduceSub, Int.reduceNeg, Nat.reduceAdd, Nat.reduceMul, Nat.reducePow, Int.reduceLT, Int.reduceLE, Int.reduceEq, Nat.reduceEqDiff]; exact g6)) ?_
  intro r h3 A
  simp -implicitDefEqProofs (disch := first | assumption | decide | omega | (simp only [wpD1] <;> omega) | (simp only [wpD2] <;> assumption) | solve_by_elim [zR, zP, zV] | fail) only [↓wpPre, wpPost, wpPoly, Int.reduceToNat, Int.reducePow, Int.reduceMul, Int.reduceAdd, Int.reduceSub, Int.reduceNeg, Nat.reduceAdd, Nat.reduceMul, Nat.reducePow, Int.reduceLT, Int.reduceLE, Int.reduceEq, Nat.reduceEqDiff]
  exact ⟨_, rfl, (show HSub h _ from (by repeat (first | exact hs2 | refine HSub.put ?_ (by (try simp only [Heap.size_put, Heap.size_push, Heap.size_reserve]); omega) _ | refine HSub.push ?_ _ | refine HSub.reserve ?_ _))).trans A.sub, A.ri⟩
 ·rw [if_neg c]
  generalize askErr p b s = AE at *
  obtain ⟨d, o, pb, w, mn, mx, nz, prns⟩ := p
  dsimp only at *
  (refine calls_intro (hC.body (by decide) tab323) (Nat.le_of_ble_eq_true rfl) ?_); (show wp C _ none B323.code _ _); (simp only [B323]); simp -implicitDefEqProofs (disch := first | assumption | decide | omega | (simp only [wpD1] <;> omega) | (simp only [wpD2] <;> assumption) | solve_by_elim [zR, zP, zV] | fail) only [↓wpPre, wpPost, wpPoly, Int.reduceToNat, Int.reducePow, Int.reduceMul, Int.reduceAdd, Int.reduceSub, Int.reduceNeg, Nat.reduceAdd, Nat.reduceMul, Nat.reducePow, Int.reduceLT, Int.reduceLE, Int.reduceEq, Nat.reduceEqDiff, wpMap]
  refine ACallsK.eq (kc _ (R.mono (by repeat (first | exact HSub.refl h | refine HSub.put ?_ (by (try simp only [Heap.size_put, Heap.size_push, Heap.size_reserve]); omega) _ | refine HSub.push ?_ _ | refine HSub.reserve ?_ _)))) ?_
  simp -implicitDefEqProofs (disch := first | assumption | decide | omega | (simp only [wpD1] <;> omega) | (simp only [wpD2] <;> assumption) | solve_by_elim [zR, zP, zV] | fail) only [↓wpPre, wpPost, wpPoly, Int.reduceToNat, Int.reducePow, Int.reduceMul, Int.reduceAdd, Int.reduceSub, Int.reduceNeg, Nat.reduceAdd, Nat.reduceMul, Nat.reducePow, Int.reduceLT, Int.reduceLE, Int.reduceEq, Nat.reduceEqDiff, c, wpMap]
  exact ⟨_, rfl, (by repeat (first | exact HSub.refl h | refine HSub.put ?_ (by (try simp only [Heap.size_put, Heap.size_push, Heap.size_reserve]); omega) _ | refine HSub.push ?_ _ | refine HSub.reserve ?_ _)), RI.nil⟩
end
end Go.Ae
/- Bounds, thresholds, floors and claims: the reference. -/
set_option linter.unusedSimpArgs false
set_option linter.unusedVariables false
namespace Go.Ae
theorem PlanOk.cross {p : PlanP} (ok : PlanOk p) {a b : Int} (ha : a ∈ p.prns) (hb : b ∈ p.prns) (hne : ¬ b = a) : crossE p.d p.o a b = tup2 (sumI p.d p.o a b) 0 := by
 unfold crossE sumI
 rw [if_pos (ok.samp (by simp [ha, hb])), if_neg (fun e => hne e.symm)]
theorem PlanOk.side {p : PlanP} (ok : PlanOk p) {a : Int} (ha : a ∈ p.prns) : sideE p.d p.o a = tup2 (sumI p.d p.o a a) 0 := by
 unfold sideE sumI
 rw [if_pos (ok.samp (by simp [ha])), if_pos rfl]
section
variable {C : Ctx}
theorem plain343_spec (hC : Has C T343) {p : PlanP} {vp : AV} {b s : Int} {h : Heap} (R : RI h vp p.prns) (h64 : p.ok64) : ACalls C 343 [plA p vp, gA b s] h (fun r h' => r = .int .i64 (askErr p b s) ∧ h' = h) := by
 refine ACalls.gc0 (P := fun r h' => r = .int .i64 (askErr p b s) ∧ HSub h h') ?_ (fun r h' hp => ⟨by rw [hp.1]; trivial, hp.2, hp.1, rfl⟩)
 have v1 := R.one
 have kp := fun H (R1 : RI H vp p.prns) => CheckPlanR_spec (hC.sub (T' := T220) (by decide)) (h := H) (p := p) ⟨vp, rfl, R1⟩ h64
 have kg := fun H => rCheck_spec (hC.sub (T' := T352) (by decide)) (h := H) (b := b) (s := s)
 unfold askErr
 unfold plA
 unfold gA at *
 by_cases c : p.err = 0
 ·rw [if_pos c]
  rw [c] at kp
  (refine calls_intro (hC.body (by decide) tab343) (Nat.le_of_ble_eq_true rfl) ?_); (show wp C _ none B343.code _ _); (simp only [B343]); simp -implicitDefEqProofs (disch := first | assumption | decide | omega | (simp only [wpD1] <;> omega) | (simp only [wpD2] <;> assumption) | solve_by_elim [zR, zP, zV] | fail) only [↓wpPre, wpPost, wpPoly, Int.reduceToNat, Int.reducePow, Int.reduceMul, Int.reduceAdd, Int.reduceSub, Int.reduceNeg, Nat.reduceAdd, Nat.reduceMul, Nat.reducePow, Int.reduceLT, Int.reduceLE, Int.reduceEq, Nat.reduceEqDiff]
  refine ACallsK.eq (kp _ (R.mono (by repeat (first | exact HSub.refl h | refine HSub.put ?_ (by (try simp only [Heap.size_put, Heap.size_push, Heap.size_reserve]); omega) _ | refine HSub.push ?_ _ | refine HSub.reserve ?_ _)))) ?_
  simp -implicitDefEqProofs (disch := first | assumption | decide | omega | (simp only [wpD1] <;> omega) | (simp only [wpD2] <;> assumption) | solve_by_elim [zR, zP, zV] | fail) only [↓wpPre, wpPost, wpPoly, Int.reduceToNat, Int.reducePow, Int.reduceMul, Int.reduceAdd, Int.reduceSub, Int.reduceNeg, Nat.reduceAdd, Nat.reduceMul, Nat.reducePow, Int.reduceLT, Int.reduceLE, Int.reduceEq, Nat.reduceEqDiff]
  refine ACallsK.eq (kg _) ?_
  simp -implicitDefEqProofs (disch := first | assumption | decide | omega | (simp only [wpD1] <;> omega) | (simp only [wpD2] <;> assumption) | solve_by_elim [zR, zP, zV] | fail) only [↓wpPre, wpPost, wpPoly, Int.reduceToNat, Int.reducePow, Int.reduceMul, Int.reduceAdd, Int.reduceSub, Int.reduceNeg, Nat.reduceAdd, Nat.reduceMul, Nat.reducePow, Int.reduceLT, Int.reduceLE, Int.reduceEq, Nat.reduceEqDiff]
  exact (by repeat (first | exact HSub.refl h | refine HSub.put ?_ (by (try simp only [Heap.size_put, Heap.size_push, Heap.size_reserve]); omega) _ | refine HSub.push ?_ _ | refine HSub.reserve ?_ _))
 ·rw [if_neg c]
  (refine calls_intro (hC.body (by decide) tab343) (Nat.le_of_ble_eq_true rfl) ?_); (show wp C _ none B343.code _ _); (simp only [B343]); simp -implicitDefEqProofs (disch := first | assumption | decide | omega | (simp only [wpD1] <;> omega) | (simp only [wpD2] <;> assumption) | solve_by_elim [zR, zP, zV] | fail) only [↓wpPre, wpPost, wpPoly, Int.reduceToNat, Int.reducePow, Int.reduceMul, Int.reduceAdd, Int.reduceSub, Int.reduceNeg, Nat.reduceAdd, Nat.reduceMul, Nat.reducePow, Int.reduceLT, Int.reduceLE, Int.reduceEq, Nat.reduceEqDiff]
  refine ACallsK.eq (kp _ (R.mono (by repeat (first | exact HSub.refl h | refine HSub.put ?_ (by (try simp only [Heap.size_put, Heap.size_push, Heap.size_reserve]); omega) _ | refine HSub.push ?_ _ | refine HSub.reserve ?_ _)))) ?_
  simp -implicitDefEqProofs (disch := first | assumption | decide | omega | (simp only [wpD1] <;> omega) | (simp only [wpD2] <;> assumption) | solve_by_elim [zR, zP, zV] | fail) only [↓wpPre, wpPost, wpPoly, Int.reduceToNat, Int.reducePow, Int.reduceMul, Int.reduceAdd, Int.reduceSub, Int.reduceNeg, Nat.reduceAdd, Nat.reduceMul, Nat.reducePow, Int.reduceLT, Int.reduceLE, Int.reduceEq, Nat.reduceEqDiff, c]
  exact (by repeat (first | exact HSub.refl h | refine HSub.put ?_ (by (try simp only [Heap.size_put, Heap.size_push, Heap.size_reserve]); omega) _ | refine HSub.push ?_ _ | refine HSub.reserve ?_ _))
theorem check335_spec (hC : Has C T335) {p : PlanP} {vp : AV} {b s prn : Int} {h : Heap} (R : RI h vp p.prns) (h64 : p.ok64) : ACalls C 335 [plA p vp, gA b s, .int .i64 prn] h (fun r h' => r = .int .i64 (detErr p b s prn) ∧ h' = h) := by
 refine ACalls.gc0 (P := fun r h' => r = .int .i64 (detErr p b s prn) ∧ HSub h h') ?_ (fun r h' hp => ⟨by rw [hp.1]; trivial, hp.2, hp.1, rfl⟩)
 have v1 := R.one
 have kp := fun H (R1 : RI H vp p.prns) => plain343_spec (hC.sub (T' := T343) (by decide)) (h := H) (p := p) (b := b) (s := s) R1 h64
 have e0 : askErr p b s ≠ 0 → detErr p b s prn = askErr p b s := fun e => by unfold detErr; rw [if_neg e]
 have e1 : askErr p b s = 0 → prn ∈ p.prns → detErr p b s prn = 0 := fun e m => by unfold detErr; rw [if_pos e, if_pos m]
 have e2 : askErr p b s = 0 → prn ∉ p.prns → detErr p b s prn = 18 := fun e m => by unfold detErr; rw [if_pos e, if_neg m]
 have hlt := R.lt
 generalize detErr p b s prn = E at *
 generalize askErr p b s = AE at *
 unfold plA gA at *
 by_cases c : AE = 0
 ·rw [c] at kp
  (refine calls_intro (hC.body (by decide) tab335) (Nat.le_of_ble_eq_true rfl) ?_); (show wp C _ none B335.code _ _); (simp only [B335]); simp -implicitDefEqProofs (disch := first | assumption | decide | omega | (simp only [wpD1] <;> omega) | (simp only [wpD2] <;> assumption) | solve_by_elim [zR, zP, zV] | fail) only [↓wpPre, wpPost, wpPoly, Int.reduceToNat, Int.reducePow, Int.reduceMul, Int.reduceAdd, Int.reduceSub, Int.reduceNeg, Nat.reduceAdd, Nat.reduceMul, Nat.reducePow, Int.reduceLT, Int.reduceLE, Int.reduceEq, Nat.reduceEqDiff]
  refine ACallsK.eq (kp _ (R.mono (by repeat (first | exact HSub.refl h | refine HSub.put ?_ (by (try simp only [Heap.size_put, Heap.size_push, Heap.size_reserve]); omega) _ | refine HSub.push ?_ _ | refine HSub.reserve ?_ _)))) ?_
  simp -implicitDefEqProofs (disch := first | assumption | decide | omega | (simp only [wpD1] <;> omega) | (simp only [wpD2] <;> assumption) | solve_by_elim [zR, zP, zV] | fail) only [↓wpPre, wpPost, wpPoly, Int.reduceToNat, Int.reducePow, Int.reduceMul, Int.reduceAdd, Int.reduceSub, Int.reduceNeg, Nat.reduceAdd, Nat.reduceMul, Nat.reducePow, Int.reduceLT, Int.reduceLE, Int.reduceEq, Nat.reduceEqDiff]
  refine wp_loopI (fun j t h' => HSub h h' ∧ h'.get h.size = some (.cells [.int .i64 p.d, .int .i64 p.o, .int .i64 p.pb, .int .i64 p.w, .int .i64 p.mn, .int .i64 p.mx, .int .i64 p.nz, vp] true 0) ∧ ∃ k : Nat, t 2 = .int .i64 prn ∧ t 3 = .ptr h.size 0 ∧ t 8 = .int .i64 (k : Nat) ∧ k ≤ p.prns.length ∧ (∀ i, i < k → p.prns.getD i 0 ≠ prn) ∧ j = p.prns.length - k) (j0 := p.prns.length)
   ⟨(by repeat (first | exact HSub.refl h | refine HSub.put ?_ (by (try simp only [Heap.size_put, Heap.size_push, Heap.size_reserve]); omega) _ | refine HSub.push ?_ _ | refine HSub.reserve ?_ _)), by simp -implicitDefEqProofs (disch := first | assumption | decide | omega | (simp only [wpD1] <;> omega) | (simp only [wpD2] <;> assumption) | solve_by_elim [zR, zP, zV] | fail) only [↓wpPre, wpPost, wpPoly, Int.reduceToNat, Int.reducePow, Int.reduceMul, Int.reduceAdd, Int.reduceSub, Int.reduceNeg, Nat.reduceAdd, Nat.reduceMul, Nat.reducePow, Int.reduceLT, Int.reduceLE, Int.reduceEq, Nat.reduceEqDiff], 0, rfl, rfl, rfl, by omega, by omega, rfl⟩ ?_
  rintro j t h1 ⟨sH, gP, k, e2', e3, e8, hk, hb, hj⟩
  have R1 := R.mono sH
  simp -implicitDefEqProofs (disch := first | assumption | decide | omega | (simp only [wpD1] <;> omega) | (simp only [wpD2] <;> assumption) | solve_by_elim [zR, zP, zV] | fail) only [↓wpPre, wpPost, wpPoly, Int.reduceToNat, Int.reducePow, Int.reduceMul, Int.reduceAdd, Int.reduceSub, Int.reduceNeg, Nat.reduceAdd, Nat.reduceMul, Nat.reducePow, Int.reduceLT, Int.reduceLE, Int.reduceEq, Nat.reduceEqDiff, e2', e3, e8, gP, R1.len]
  refine Br.by (fun c1 => ?_) (fun c1 => ?_)
  ·have hk' : k < p.prns.length := by omega
   simp -implicitDefEqProofs (disch := first | assumption | decide | omega | (simp only [wpD1] <;> omega) | (simp only [wpD2] <;> assumption) | solve_by_elim [zR, zP, zV] | fail) only [↓wpPre, wpPost, wpPoly, Int.reduceToNat, Int.reducePow, Int.reduceMul, Int.reduceAdd, Int.reduceSub, Int.reduceNeg, Nat.reduceAdd, Nat.reduceMul, Nat.reducePow, Int.reduceLT, Int.reduceLE, Int.reduceEq, Nat.reduceEqDiff, e2', e3, e8, gP, R1.idx, R1.load hk']
   refine Br.by (fun c2 => ?_) (fun c2 => ?_)
   ·simp -implicitDefEqProofs (disch := first | assumption | decide | omega | (simp only [wpD1] <;> omega) | (simp only [wpD2] <;> assumption) | solve_by_elim [zR, zP, zV] | fail) only [↓wpPre, wpPost, wpPoly, Int.reduceToNat, Int.reducePow, Int.reduceMul, Int.reduceAdd, Int.reduceSub, Int.reduceNeg, Nat.reduceAdd, Nat.reduceMul, Nat.reducePow, Int.reduceLT, Int.reduceLE, Int.reduceEq, Nat.reduceEqDiff]
    exact ⟨by rw [e1 c (c2 ▸ getD_mem hk')], sH⟩
   ·simp -implicitDefEqProofs (disch := first | assumption | decide | omega | (simp only [wpD1] <;> omega) | (simp only [wpD2] <;> assumption) | solve_by_elim [zR, zP, zV] | fail) only [↓wpPre, wpPost, wpPoly, Int.reduceToNat, Int.reducePow, Int.reduceMul, Int.reduceAdd, Int.reduceSub, Int.reduceNeg, Nat.reduceAdd, Nat.reduceMul, Nat.reducePow, Int.reduceLT, Int.reduceLE, Int.reduceEq, Nat.reduceEqDiff, e2', e3, e8, gP]
    refine ⟨_, ⟨sH, k + 1, by omega, by omega, fun i hi => ?_, rfl⟩, by omega⟩
    rcases Nat.lt_or_ge i k with x | x
    ·exact hb i x
    ·obtain rfl : i = k := by omega
     exact c2
  ·obtain rfl : k = p.prns.length := by omega
   simp -implicitDefEqProofs (disch := first | assumption | decide | omega | (simp only [wpD1] <;> omega) | (simp only [wpD2] <;> assumption) | solve_by_elim [zR, zP, zV] | fail) only [↓wpPre, wpPost, wpPoly, Int.reduceToNat, Int.reducePow, Int.reduceMul, Int.reduceAdd, Int.reduceSub, Int.reduceNeg, Nat.reduceAdd, Nat.reduceMul, Nat.reducePow, Int.reduceLT, Int.reduceLE, Int.reduceEq, Nat.reduceEqDiff]
   refine ⟨by rw [e2 c]; intro hm; obtain ⟨i, hi, e⟩ := List.mem_iff_getElem.1 hm; exact hb i hi (by rw [List.getD_eq_getElem?_getD, List.getElem?_eq_getElem hi]; exact e), sH⟩
 ·rw [e0 c]
  (refine calls_intro (hC.body (by decide) tab335) (Nat.le_of_ble_eq_true rfl) ?_); (show wp C _ none B335.code _ _); (simp only [B335]); simp -implicitDefEqProofs (disch := first | assumption | decide | omega | (simp only [wpD1] <;> omega) | (simp only [wpD2] <;> assumption) | solve_by_elim [zR, zP, zV] | fail) only [↓wpPre, wpPost, wpPoly, Int.reduceToNat, Int.reducePow, Int.reduceMul, Int.reduceAdd, Int.reduceSub, Int.reduceNeg, Nat.reduceAdd, Nat.reduceMul, Nat.reducePow, Int.reduceLT, Int.reduceLE, Int.reduceEq, Nat.reduceEqDiff]
  refine ACallsK.eq (kp _ (R.mono (by repeat (first | exact HSub.refl h | refine HSub.put ?_ (by (try simp only [Heap.size_put, Heap.size_push, Heap.size_reserve]); omega) _ | refine HSub.push ?_ _ | refine HSub.reserve ?_ _)))) ?_
  simp -implicitDefEqProofs (disch := first | assumption | decide | omega | (simp only [wpD1] <;> omega) | (simp only [wpD2] <;> assumption) | solve_by_elim [zR, zP, zV] | fail) only [↓wpPre, wpPost, wpPoly, Int.reduceToNat, Int.reducePow, Int.reduceMul, Int.reduceAdd, Int.reduceSub, Int.reduceNeg, Nat.reduceAdd, Nat.reduceMul, Nat.reducePow, Int.reduceLT, Int.reduceLE, Int.reduceEq, Nat.reduceEqDiff, c]
  exact (by repeat (first | exact HSub.refl h | refine HSub.put ?_ (by (try simp only [Heap.size_put, Heap.size_push, Heap.size_reserve]); omega) _ | refine HSub.push ?_ _ | refine HSub.reserve ?_ _))
set_option maxRecDepth 20000 in
theorem others336_spec (hC : Has C T336) {p : PlanP} {vp : AV} {prn : Int} {h : Heap} (ok : PlanOk p) (R : RI h vp p.prns) (h64 : p.ok64) (hin : prn ∈ p.prns) : ACalls C 336 [plA p vp, .int .i64 prn] h (fun r h' => r = .int .i64 (p.oth prn) ∧ h' = h) := by
 refine ACalls.gc0 (P := fun r h' => r = .int .i64 (p.oth prn) ∧ HSub h h') ?_ (fun r h' hp => ⟨by rw [hp.1]; trivial, hp.2, hp.1, rfl⟩)
 have v1 := R.one
 have l8 := ok.len
 have kx := fun (k : Nat) (hk : k < p.prns.length) (hne : ¬ p.prns.getD k 0 = prn) H => CrossR_spec (hC.sub (T' := T177) (by decide)) (h := H) h64.1 h64.2.1 (h64.2.2.2.2.2.2.2 prn hin) (h64.2.2.2.2.2.2.2 _ (getD_mem hk))
 have kx2 := fun (k : Nat) (hk : k < p.prns.length) (hne : ¬ p.prns.getD k 0 = prn) => ok.cross hin (getD_mem hk) hne
 have sr := fun a b => sumI_range ok.nums a b
 have rg := fun k => othK_range sr (prn := prn) (ps := p.prns) k
 have os : ∀ k, othK (sumI p.d p.o) prn p.prns (k + 1) = othK (sumI p.d p.o) prn p.prns k + if p.prns.getD k 0 = prn then 0 else sumI p.d p.o prn (p.prns.getD k 0) := fun k => rfl
 unfold PlanP.oth plA
 generalize sumI p.d p.o = f at *
 clear h64 ok
 obtain ⟨d, o, pb, w, mn, mx, nz, prns⟩ := p
 dsimp only at *
 (refine calls_intro (hC.body (by decide) tab336) (Nat.le_of_ble_eq_true rfl) ?_); (show wp C _ none B336.code _ _); (simp only [B336]); simp -implicitDefEqProofs (disch := first | assumption | decide | omega | (simp only [wpD1] <;> omega) | (simp only [wpD2] <;> assumption) | solve_by_elim [zR, zP, zV] | fail) only [↓wpPre, wpPost, wpPoly, Int.reduceToNat, Int.reducePow, Int.reduceMul, Int.reduceAdd, Int.reduceSub, Int.reduceNeg, Nat.reduceAdd, Nat.reduceMul, Nat.reducePow, Int.reduceLT, Int.reduceLE, Int.reduceEq, Nat.reduceEqDiff]
 refine wp_loopI (fun j t h' => HSub h h' ∧ h'.get h.size = some (.cells [.int .i64 d, .int .i64 o, .int .i64 pb, .int .i64 w, .int .i64 mn, .int .i64 mx, .int .i64 nz, vp] true 0) ∧ ∃ k : Nat, t 1 = .int .i64 prn ∧ t 2 = .ptr h.size 0 ∧ t 5 = .int .i64 (othK f prn prns k) ∧ t 6 = .int .i64 (k : Nat) ∧ k ≤ prns.length ∧ j = prns.length - k) (j0 := prns.length)
  ⟨(by repeat (first | exact HSub.refl h | refine HSub.put ?_ (by (try simp only [Heap.size_put, Heap.size_push, Heap.size_reserve]); omega) _ | refine HSub.push ?_ _ | refine HSub.reserve ?_ _)), by simp -implicitDefEqProofs (disch := first | assumption | decide | omega | (simp only [wpD1] <;> omega) | (simp only [wpD2] <;> assumption) | solve_by_elim [zR, zP, zV] | fail) only [↓wpPre, wpPost, wpPoly, Int.reduceToNat, Int.reducePow, Int.reduceMul, Int.reduceAdd, Int.reduceSub, Int.reduceNeg, Nat.reduceAdd, Nat.reduceMul, Nat.reducePow, Int.reduceLT, Int.reduceLE, Int.reduceEq, Nat.reduceEqDiff], 0, rfl, rfl, rfl, rfl, by omega, rfl⟩ ?_
 rintro j t h1 ⟨sH, gP, k, e1, e2, e5, e6, hk, hj⟩
 have R1 := R.mono sH
 simp -implicitDefEqProofs (disch := first | assumption | decide | omega | (simp only [wpD1] <;> omega) | (simp only [wpD2] <;> assumption) | solve_by_elim [zR, zP, zV] | fail) only [↓wpPre, wpPost, wpPoly, Int.reduceToNat, Int.reducePow, Int.reduceMul, Int.reduceAdd, Int.reduceSub, Int.reduceNeg, Nat.reduceAdd, Nat.reduceMul, Nat.reducePow, Int.reduceLT, Int.reduceLE, Int.reduceEq, Nat.reduceEqDiff, e1, e2, e5, e6, gP, R1.len]
 refine Br.by (fun c1 => ?_) (fun c1 => ?_)
 ·have hk' : k < prns.length := by omega
  have kx := kx k hk'
  have kx2 := kx2 k hk'
  have os := os k
  have rk := rg k
  have sr := sr prn (prns.getD k 0)
  have xq : ∃ q, q = prns.getD k 0 := ⟨_, rfl⟩
  obtain ⟨q, hq⟩ := xq
  have lk := R1.load hk'
  rw [← hq] at kx kx2 os sr lk
  by_cases c2 : q = prn
  ·rw [if_pos c2, Int.add_zero] at os
   simp -implicitDefEqProofs (disch := first | assumption | decide | omega | (simp only [wpD1] <;> omega) | (simp only [wpD2] <;> assumption) | solve_by_elim [zR, zP, zV] | fail) only [↓wpPre, wpPost, wpPoly, Int.reduceToNat, Int.reducePow, Int.reduceMul, Int.reduceAdd, Int.reduceSub, Int.reduceNeg, Nat.reduceAdd, Nat.reduceMul, Nat.reducePow, Int.reduceLT, Int.reduceLE, Int.reduceEq, Nat.reduceEqDiff, e1, e2, e5, e6, gP, R1.idx, lk, c2]
   exact ⟨_, ⟨sH, k + 1, by rw [os], by omega, by omega, rfl⟩, by omega⟩
  ·rw [if_neg c2] at os
   have kx2 := kx2 c2
   rw [kx2] at kx
   simp -implicitDefEqProofs (disch := first | assumption | decide | omega | (simp only [wpD1] <;> omega) | (simp only [wpD2] <;> assumption) | solve_by_elim [zR, zP, zV] | fail) only [↓wpPre, wpPost, wpPoly, Int.reduceToNat, Int.reducePow, Int.reduceMul, Int.reduceAdd, Int.reduceSub, Int.reduceNeg, Nat.reduceAdd, Nat.reduceMul, Nat.reducePow, Int.reduceLT, Int.reduceLE, Int.reduceEq, Nat.reduceEqDiff, e1, e2, e5, e6, gP, R1.idx, lk, c2]
   refine ACallsK.of (kx c2 _) ?_
   rintro r h2 ⟨rfl, s2⟩
   simp -implicitDefEqProofs (disch := first | assumption | decide | omega | (simp only [wpD1] <;> omega) | (simp only [wpD2] <;> assumption) | solve_by_elim [zR, zP, zV] | fail) only [↓wpPre, wpPost, wpPoly, Int.reduceToNat, Int.reducePow, Int.reduceMul, Int.reduceAdd, Int.reduceSub, Int.reduceNeg, Nat.reduceAdd, Nat.reduceMul, Nat.reducePow, Int.reduceLT, Int.reduceLE, Int.reduceEq, Nat.reduceEqDiff, tup2, e1, e2, e5, e6]
   exact ⟨_, ⟨sH.trans s2, (s2.get _ (Heap.lt_of_get gP)).trans gP, k + 1, by rw [os], by omega, by omega, rfl⟩, by omega⟩
 ·obtain rfl : k = prns.length := by omega
  simp -implicitDefEqProofs (disch := first | assumption | decide | omega | (simp only [wpD1] <;> omega) | (simp only [wpD2] <;> assumption) | solve_by_elim [zR, zP, zV] | fail) only [↓wpPre, wpPost, wpPoly, Int.reduceToNat, Int.reducePow, Int.reduceMul, Int.reduceAdd, Int.reduceSub, Int.reduceNeg, Nat.reduceAdd, Nat.reduceMul, Nat.reducePow, Int.reduceLT, Int.reduceLE, Int.reduceEq, Nat.reduceEqDiff, e5]
  exact sH
set_option maxRecDepth 20000 in
theorem hum337_spec (hC : Has C T337) {p : PlanP} {vp : AV} {b s : Int} {h : Heap} (ok : PlanOk p) (hg : gErr b s = 0) (v1 : vp.one = true) : ACalls C 337 [plA p vp, gA b s] h (fun r h' => r = .int .i64 (humI p s) ∧ h' = h) := by
 refine ACalls.gc0 (P := fun r h' => r = .int .i64 (humI p s) ∧ HSub h h') ?_ (fun r h' hp => ⟨by rw [hp.1]; trivial, hp.2, hp.1, rfl⟩)
 have kc := fun H => rCoarse_spec (hC.sub (T' := T348) (by decide)) (h := H) (b := b) (s := s)
 have ks := fun H => size244_spec (hC.sub (T' := T244) (by decide)) (h := H) (p := p) ok.nums v1
 unfold coarE at kc
 rw [if_pos hg] at kc
 have hr := hum_range ok (gErr_ok hg).2.2
 have cr := coar_range (gErr_ok hg).2.2
 have nr := ok.nums.2.2.2.2.2.2
 unfold humI
 unfold plA gA at *
 generalize p.size = S at *
 generalize coarI s = cs at *
 obtain ⟨d, o, pb, w, mn, mx, nz, prns⟩ := p
 dsimp only at *
 (refine calls_intro (hC.body (by decide) tab337) (Nat.le_of_ble_eq_true rfl) ?_); (show wp C _ none B337.code _ _); (simp only [B337]); simp -implicitDefEqProofs (disch := first | assumption | decide | omega | (simp only [wpD1] <;> omega) | (simp only [wpD2] <;> assumption) | solve_by_elim [zR, zP, zV] | fail) only [↓wpPre, wpPost, wpPoly, Int.reduceToNat, Int.reducePow, Int.reduceMul, Int.reduceAdd, Int.reduceSub, Int.reduceNeg, Nat.reduceAdd, Nat.reduceMul, Nat.reducePow, Int.reduceLT, Int.reduceLE, Int.reduceEq, Nat.reduceEqDiff]
 refine ACallsK.eq (kc _) ?_
 simp -implicitDefEqProofs (disch := first | assumption | decide | omega | (simp only [wpD1] <;> omega) | (simp only [wpD2] <;> assumption) | solve_by_elim [zR, zP, zV] | fail) only [↓wpPre, wpPost, wpPoly, Int.reduceToNat, Int.reducePow, Int.reduceMul, Int.reduceAdd, Int.reduceSub, Int.reduceNeg, Nat.reduceAdd, Nat.reduceMul, Nat.reducePow, Int.reduceLT, Int.reduceLE, Int.reduceEq, Nat.reduceEqDiff, tup2]
 refine ACallsK.eq (ks _) ?_
 simp -implicitDefEqProofs (disch := first | assumption | decide | omega | (simp only [wpD1] <;> omega) | (simp only [wpD2] <;> assumption) | solve_by_elim [zR, zP, zV] | fail) only [↓wpPre, wpPost, wpPoly, Int.reduceToNat, Int.reducePow, Int.reduceMul, Int.reduceAdd, Int.reduceSub, Int.reduceNeg, Nat.reduceAdd, Nat.reduceMul, Nat.reducePow, Int.reduceLT, Int.reduceLE, Int.reduceEq, Nat.reduceEqDiff]
 exact (by repeat (first | exact HSub.refl h | refine HSub.put ?_ (by (try simp only [Heap.size_put, Heap.size_push, Heap.size_reserve]); omega) _ | refine HSub.push ?_ _ | refine HSub.reserve ?_ _))
set_option maxRecDepth 20000 in
theorem BoundR_spec (hC : Has C T316) {p : PlanP} {vp : AV} {b s prn : Int} {h : Heap} (R : RI h vp p.prns) (h64 : p.ok64) :
  ACalls C 316 [plA p vp, gA b s, .int .i64 prn] h (fun r h' => r = (if detErr p b s prn = 0 then tup2 (boundI p s prn) 0 else tup2 0 (detErr p b s prn)) ∧ h' = h) := by
 refine ACalls.gc0 (P := fun r h' => r = (if detErr p b s prn = 0 then tup2 (boundI p s prn) 0 else tup2 0 (detErr p b s prn)) ∧ HSub h h') ?_ (fun r h' hp => ⟨by rw [hp.1]; unfold tup2; split <;> exact ⟨trivial, trivial, trivial⟩, hp.2, hp.1, rfl⟩)
 have v1 := R.one
 have kc := fun H (R1 : RI H vp p.prns) => check335_spec (hC.sub (T' := T335) (by decide)) (h := H) (p := p) (b := b) (s := s) (prn := prn) R1 h64
 have e0 : detErr p b s prn = 0 → askErr p b s = 0 ∧ prn ∈ p.prns := detErr_ok
 generalize detErr p b s prn = E at *
 by_cases c : E = 0
 ·subst c
  obtain ⟨ea, hin⟩ := e0 rfl
  obtain ⟨ok, hg⟩ := askErr_ok ea
  have ks := fun H => SideR_spec (hC.sub (T' := T176) (by decide)) (h := H) h64.1 h64.2.1 (h64.2.2.2.2.2.2.2 prn hin)
  rw [ok.side hin] at ks
  have ko := fun H (R1 : RI H vp p.prns) => others336_spec (hC.sub (T' := T336) (by decide)) (h := H) ok R1 h64 hin
  have kh := fun H => hum337_spec (hC.sub (T' := T337) (by decide)) (h := H) ok hg v1
  have bd := bound_range ok (gErr_ok hg).2.2 prn
  have m1 := sumI_range ok.nums prn prn
  have m2 := oth_range ok prn
  have m3 := mx_range ok (x := sumI p.d p.o prn prn + p.oth prn) (by omega)
  have m4 := ok.nums.2.2.2.2
  rw [if_pos rfl]
  unfold boundI at *
  unfold plA gA at *
  clear e0 ea ok
  generalize p.oth prn = O at *
  generalize sumI p.d p.o prn prn = SI1 at *
  generalize humI p s = HM at *
  clear h64
  obtain ⟨d, o, pb, w, mn, mx, nz, prns⟩ := p
  dsimp only at *
  (refine calls_intro (hC.body (by decide) tab316) (Nat.le_of_ble_eq_true rfl) ?_); (show wp C _ none B316.code _ _); (simp only [B316]); simp -implicitDefEqProofs (disch := first | assumption | decide | omega | (simp only [wpD1] <;> omega) | (simp only [wpD2] <;> assumption) | solve_by_elim [zR, zP, zV] | fail) only [↓wpPre, wpPost, wpPoly, Int.reduceToNat, Int.reducePow, Int.reduceMul, Int.reduceAdd, Int.reduceSub, Int.reduceNeg, Nat.reduceAdd, Nat.reduceMul, Nat.reducePow, Int.reduceLT, Int.reduceLE, Int.reduceEq, Nat.reduceEqDiff]
  refine ACallsK.eq (kc _ (R.mono (by repeat (first | exact HSub.refl h | refine HSub.put ?_ (by (try simp only [Heap.size_put, Heap.size_push, Heap.size_reserve]); omega) _ | refine HSub.push ?_ _ | refine HSub.reserve ?_ _)))) ?_
  simp -implicitDefEqProofs (disch := first | assumption | decide | omega | (simp only [wpD1] <;> omega) | (simp only [wpD2] <;> assumption) | solve_by_elim [zR, zP, zV] | fail) only [↓wpPre, wpPost, wpPoly, Int.reduceToNat, Int.reducePow, Int.reduceMul, Int.reduceAdd, Int.reduceSub, Int.reduceNeg, Nat.reduceAdd, Nat.reduceMul, Nat.reducePow, Int.reduceLT, Int.reduceLE, Int.reduceEq, Nat.reduceEqDiff]
  refine ACallsK.of (ks _) ?_
  rintro r h2 ⟨rfl, sA⟩
  have z2 := sA.size
  simp only [Heap.size_push] at z2
  have g3 : h2.get h.size = some (.cells [.int .i64 d, .int .i64 o, .int .i64 pb, .int .i64 w, .int .i64 mn, .int .i64 mx, .int .i64 nz, vp] true 0) := (sA.get _ (by simp only [Heap.size_push]; omega)).trans (by simp -implicitDefEqProofs (disch := first | assumption | decide | omega | (simp only [wpD1] <;> omega) | (simp only [wpD2] <;> assumption) | solve_by_elim [zR, zP, zV] | fail) only [↓wpPre, wpPost, wpPoly, Int.reduceToNat, Int.reducePow, Int.reduceMul, Int.reduceAdd, Int.reduceSub, Int.reduceNeg, Nat.reduceAdd, Nat.reduceMul, Nat.reducePow, Int.reduceLT, Int.reduceLE, Int.reduceEq, Nat.reduceEqDiff])
  have g4 : h2.get (h.size + 1) = some (.cells [.int .i64 b, .int .i64 s] true 0) := (sA.get _ (by simp only [Heap.size_push]; omega)).trans (by simp -implicitDefEqProofs (disch := first | assumption | decide | omega | (simp only [wpD1] <;> omega) | (simp only [wpD2] <;> assumption) | solve_by_elim [zR, zP, zV] | fail) only [↓wpPre, wpPost, wpPoly, Int.reduceToNat, Int.reducePow, Int.reduceMul, Int.reduceAdd, Int.reduceSub, Int.reduceNeg, Nat.reduceAdd, Nat.reduceMul, Nat.reducePow, Int.reduceLT, Int.reduceLE, Int.reduceEq, Nat.reduceEqDiff])
  have hs2 : HSub h h2 := (show HSub h _ from (by repeat (first | exact HSub.refl h | refine HSub.put ?_ (by (try simp only [Heap.size_put, Heap.size_push, Heap.size_reserve]); omega) _ | refine HSub.push ?_ _ | refine HSub.reserve ?_ _))).trans sA
  simp -implicitDefEqProofs (disch := first | assumption | decide | omega | (simp only [wpD1] <;> omega) | (simp only [wpD2] <;> assumption) | solve_by_elim [zR, zP, zV] | fail) only [↓wpPre, wpPost, wpPoly, Int.reduceToNat, Int.reducePow, Int.reduceMul, Int.reduceAdd, Int.reduceSub, Int.reduceNeg, Nat.reduceAdd, Nat.reduceMul, Nat.reducePow, Int.reduceLT, Int.reduceLE, Int.reduceEq, Nat.reduceEqDiff, tup2, g3, g4]
  refine ACallsK.eq (ko _ (R.mono (by repeat (first | exact hs2 | refine HSub.put ?_ (by (try simp only [Heap.size_put, Heap.size_push, Heap.size_reserve]); omega) _ | refine HSub.push ?_ _ | refine HSub.reserve ?_ _)))) ?_
  simp -implicitDefEqProofs (disch := first | assumption | decide | omega | (simp only [wpD1] <;> omega) | (simp only [wpD2] <;> assumption) | solve_by_elim [zR, zP, zV] | fail) only [↓wpPre, wpPost, wpPoly, Int.reduceToNat, Int.reducePow, Int.reduceMul, Int.reduceAdd, Int.reduceSub, Int.reduceNeg, Nat.reduceAdd, Nat.reduceMul, Nat.reducePow, Int.reduceLT, Int.reduceLE, Int.reduceEq, Nat.reduceEqDiff, g3, g4]
  refine ACallsK.eq (kh _) ?_
  simp -implicitDefEqProofs (disch := first | assumption | decide | omega | (simp only [wpD1] <;> omega) | (simp only [wpD2] <;> assumption) | solve_by_elim [zR, zP, zV] | fail) only [↓wpPre, wpPost, wpPoly, Int.reduceToNat, Int.reducePow, Int.reduceMul, Int.reduceAdd, Int.reduceSub, Int.reduceNeg, Nat.reduceAdd, Nat.reduceMul, Nat.reducePow, Int.reduceLT, Int.reduceLE, Int.reduceEq, Nat.reduceEqDiff]
  exact ⟨rfl, (by repeat (first | exact hs2 | refine HSub.put ?_ (by (try simp only [Heap.size_put, Heap.size_push, Heap.size_reserve]); omega) _ | refine HSub.push ?_ _ | refine HSub.reserve ?_ _))⟩
 ·obtain ⟨d, o, pb, w, mn, mx, nz, prns⟩ := p
  unfold plA gA at *
  dsimp only at *
  (refine calls_intro (hC.body (by decide) tab316) (Nat.le_of_ble_eq_true rfl) ?_); (show wp C _ none B316.code _ _); (simp only [B316]); simp -implicitDefEqProofs (disch := first | assumption | decide | omega | (simp only [wpD1] <;> omega) | (simp only [wpD2] <;> assumption) | solve_by_elim [zR, zP, zV] | fail) only [↓wpPre, wpPost, wpPoly, Int.reduceToNat, Int.reducePow, Int.reduceMul, Int.reduceAdd, Int.reduceSub, Int.reduceNeg, Nat.reduceAdd, Nat.reduceMul, Nat.reducePow, Int.reduceLT, Int.reduceLE, Int.reduceEq, Nat.reduceEqDiff]
  refine ACallsK.eq (kc _ (R.mono (by repeat (first | exact HSub.refl h | refine HSub.put ?_ (by (try simp only [Heap.size_put, Heap.size_push, Heap.size_reserve]); omega) _ | refine HSub.push ?_ _ | refine HSub.reserve ?_ _)))) ?_
  simp -implicitDefEqProofs (disch := first | assumption | decide | omega | (simp only [wpD1] <;> omega) | (simp only [wpD2] <;> assumption) | solve_by_elim [zR, zP, zV] | fail) only [↓wpPre, wpPost, wpPoly, Int.reduceToNat, Int.reducePow, Int.reduceMul, Int.reduceAdd, Int.reduceSub, Int.reduceNeg, Nat.reduceAdd, Nat.reduceMul, Nat.reducePow, Int.reduceLT, Int.reduceLE, Int.reduceEq, Nat.reduceEqDiff, c]
  exact ⟨by simp [tup2], (by repeat (first | exact HSub.refl h | refine HSub.put ?_ (by (try simp only [Heap.size_put, Heap.size_push, Heap.size_reserve]); omega) _ | refine HSub.push ?_ _ | refine HSub.reserve ?_ _))⟩
set_option maxRecDepth 20000 in
theorem ThresholdR_spec (hC : Has C T318) {p : PlanP} {vp : AV} {b s prn : Int} {h : Heap} (R : RI h vp p.prns) (h64 : p.ok64) :
  ACalls C 318 [plA p vp, gA b s, .int .i64 prn] h (fun r h' => r = (if detErr p b s prn = 0 then tup2 (thrI p s prn) 0 else tup2 0 (detErr p b s prn)) ∧ h' = h) := by
 refine ACalls.gc0 (P := fun r h' => r = (if detErr p b s prn = 0 then tup2 (thrI p s prn) 0 else tup2 0 (detErr p b s prn)) ∧ HSub h h') ?_ (fun r h' hp => ⟨by rw [hp.1]; unfold tup2; split <;> exact ⟨trivial, trivial, trivial⟩, hp.2, hp.1, rfl⟩)
 have v1 := R.one
 have kc := fun H (R1 : RI H vp p.prns) => BoundR_spec (hC.sub (T' := T316) (by decide)) (h := H) (p := p) (b := b) (s := s) (prn := prn) R1 h64
 have e0 : detErr p b s prn = 0 → askErr p b s = 0 ∧ prn ∈ p.prns := detErr_ok
 generalize detErr p b s prn = E at *
 by_cases c : E = 0
 ·subst c
  obtain ⟨ea, hin⟩ := e0 rfl
  obtain ⟨ok, hg⟩ := askErr_ok ea
  have bd := bound_range ok (gErr_ok hg).2.2 prn
  have p30 := pow_30 (gErr_ok hg).2.2
  have gs := (gErr_ok hg).2.2
  rw [if_pos rfl] at kc
  rw [if_pos rfl]
  unfold thrI
  unfold plA gA at *
  have fd := Int.fdiv_eq_ediv_of_nonneg (boundI p s prn + 2 ^ s.toNat - 1) (show 0 ≤ (2 : Int) ^ s.toNat by omega)
  clear e0 ea ok h64
  generalize boundI p s prn = B at *
  generalize hP : (2 : Int) ^ s.toNat = P at *
  obtain ⟨d, o, pb, w, mn, mx, nz, prns⟩ := p
  dsimp only at *
  (refine calls_intro (hC.body (by decide) tab318) (Nat.le_of_ble_eq_true rfl) ?_); (show wp C _ none B318.code _ _); (simp only [B318]); simp -implicitDefEqProofs (disch := first | assumption | decide | omega | (simp only [wpD1] <;> omega) | (simp only [wpD2] <;> assumption) | solve_by_elim [zR, zP, zV] | fail) only [↓wpPre, wpPost, wpPoly, Int.reduceToNat, Int.reducePow, Int.reduceMul, Int.reduceAdd, Int.reduceSub, Int.reduceNeg, Nat.reduceAdd, Nat.reduceMul, Nat.reducePow, Int.reduceLT, Int.reduceLE, Int.reduceEq, Nat.reduceEqDiff, hP, Int.one_mul]
  refine ACallsK.eq (kc _ (R.mono (by repeat (first | exact HSub.refl h | refine HSub.put ?_ (by (try simp only [Heap.size_put, Heap.size_push, Heap.size_reserve]); omega) _ | refine HSub.push ?_ _ | refine HSub.reserve ?_ _)))) ?_
  simp -implicitDefEqProofs (disch := first | assumption | decide | omega | (simp only [wpD1] <;> omega) | (simp only [wpD2] <;> assumption) | solve_by_elim [zR, zP, zV] | fail) only [↓wpPre, wpPost, wpPoly, Int.reduceToNat, Int.reducePow, Int.reduceMul, Int.reduceAdd, Int.reduceSub, Int.reduceNeg, Nat.reduceAdd, Nat.reduceMul, Nat.reducePow, Int.reduceLT, Int.reduceLE, Int.reduceEq, Nat.reduceEqDiff, tup2, hP, fd, Int.one_mul]
  exact (by repeat (first | exact HSub.refl h | refine HSub.put ?_ (by (try simp only [Heap.size_put, Heap.size_push, Heap.size_reserve]); omega) _ | refine HSub.push ?_ _ | refine HSub.reserve ?_ _))
 ·rw [if_neg c] at kc
  obtain ⟨d, o, pb, w, mn, mx, nz, prns⟩ := p
  unfold plA gA at *
  dsimp only at *
  (refine calls_intro (hC.body (by decide) tab318) (Nat.le_of_ble_eq_true rfl) ?_); (show wp C _ none B318.code _ _); (simp only [B318]); simp -implicitDefEqProofs (disch := first | assumption | decide | omega | (simp only [wpD1] <;> omega) | (simp only [wpD2] <;> assumption) | solve_by_elim [zR, zP, zV] | fail) only [↓wpPre, wpPost, wpPoly, Int.reduceToNat, Int.reducePow, Int.reduceMul, Int.reduceAdd, Int.reduceSub, Int.reduceNeg, Nat.reduceAdd, Nat.reduceMul, Nat.reducePow, Int.reduceLT, Int.reduceLE, Int.reduceEq, Nat.reduceEqDiff]
  refine ACallsK.eq (kc _ (R.mono (by repeat (first | exact HSub.refl h | refine HSub.put ?_ (by (try simp only [Heap.size_put, Heap.size_push, Heap.size_reserve]); omega) _ | refine HSub.push ?_ _ | refine HSub.reserve ?_ _)))) ?_
  simp -implicitDefEqProofs (disch := first | assumption | decide | omega | (simp only [wpD1] <;> omega) | (simp only [wpD2] <;> assumption) | solve_by_elim [zR, zP, zV] | fail) only [↓wpPre, wpPost, wpPoly, Int.reduceToNat, Int.reducePow, Int.reduceMul, Int.reduceAdd, Int.reduceSub, Int.reduceNeg, Nat.reduceAdd, Nat.reduceMul, Nat.reducePow, Int.reduceLT, Int.reduceLE, Int.reduceEq, Nat.reduceEqDiff, tup2, c]
  exact ⟨by simp, (by repeat (first | exact HSub.refl h | refine HSub.put ?_ (by (try simp only [Heap.size_put, Heap.size_push, Heap.size_reserve]); omega) _ | refine HSub.push ?_ _ | refine HSub.reserve ?_ _))⟩
set_option maxRecDepth 20000 in
theorem FloorR_spec (hC : Has C T320) {p : PlanP} {vp : AV} {b s prn : Int} {h : Heap} (R : RI h vp p.prns) (h64 : p.ok64) :
  ACalls C 320 [plA p vp, gA b s, .int .i64 prn] h (fun r h' => r = (if detErr p b s prn = 0 then tup2 (floorI p s prn) 0 else tup2 0 (detErr p b s prn)) ∧ h' = h) := by
 refine ACalls.gc0 (P := fun r h' => r = (if detErr p b s prn = 0 then tup2 (floorI p s prn) 0 else tup2 0 (detErr p b s prn)) ∧ HSub h h') ?_ (fun r h' hp => ⟨by rw [hp.1]; unfold tup2; split <;> exact ⟨trivial, trivial, trivial⟩, hp.2, hp.1, rfl⟩)
 have v1 := R.one
 have kc := fun H (R1 : RI H vp p.prns) => check335_spec (hC.sub (T' := T335) (by decide)) (h := H) (p := p) (b := b) (s := s) (prn := prn) R1 h64
 have e0 : detErr p b s prn = 0 → askErr p b s = 0 ∧ prn ∈ p.prns := detErr_ok
 generalize detErr p b s prn = E at *
 by_cases c : E = 0
 ·subst c
  obtain ⟨ea, hin⟩ := e0 rfl
  obtain ⟨ok, hg⟩ := askErr_ok ea
  have ks := fun H => size244_spec (hC.sub (T' := T244) (by decide)) (h := H) (p := p) ok.nums v1
  have ko := fun H (R1 : RI H vp p.prns) => others336_spec (hC.sub (T' := T336) (by decide)) (h := H) ok R1 h64 hin
  have kh := fun H => hum337_spec (hC.sub (T' := T337) (by decide)) (h := H) ok hg v1
  have m2 := oth_range ok prn
  have m3 := mx_range ok (x := p.oth prn) (by omega)
  have m4 := ok.nums.2.2.2.2
  have m5 := mn_range ok
  have m6 := size_range ok.nums
  have m7 := humI_range ok (gErr_ok hg).2.2
  rw [if_pos rfl]
  unfold floorI at *
  unfold plA gA at *
  clear e0 ea ok
  generalize p.oth prn = O at *
  generalize humI p s = HM at *
  generalize p.size = S at *
  clear h64
  obtain ⟨d, o, pb, w, mn, mx, nz, prns⟩ := p
  dsimp only at *
  (refine calls_intro (hC.body (by decide) tab320) (Nat.le_of_ble_eq_true rfl) ?_); (show wp C _ none B320.code _ _); (simp only [B320]); simp -implicitDefEqProofs (disch := first | assumption | decide | omega | (simp only [wpD1] <;> omega) | (simp only [wpD2] <;> assumption) | solve_by_elim [zR, zP, zV] | fail) only [↓wpPre, wpPost, wpPoly, Int.reduceToNat, Int.reducePow, Int.reduceMul, Int.reduceAdd, Int.reduceSub, Int.reduceNeg, Nat.reduceAdd, Nat.reduceMul, Nat.reducePow, Int.reduceLT, Int.reduceLE, Int.reduceEq, Nat.reduceEqDiff]
  refine ACallsK.eq (kc _ (R.mono (by repeat (first | exact HSub.refl h | refine HSub.put ?_ (by (try simp only [Heap.size_put, Heap.size_push, Heap.size_reserve]); omega) _ | refine HSub.push ?_ _ | refine HSub.reserve ?_ _)))) ?_
  simp -implicitDefEqProofs (disch := first | assumption | decide | omega | (simp only [wpD1] <;> omega) | (simp only [wpD2] <;> assumption) | solve_by_elim [zR, zP, zV] | fail) only [↓wpPre, wpPost, wpPoly, Int.reduceToNat, Int.reducePow, Int.reduceMul, Int.reduceAdd, Int.reduceSub, Int.reduceNeg, Nat.reduceAdd, Nat.reduceMul, Nat.reducePow, Int.reduceLT, Int.reduceLE, Int.reduceEq, Nat.reduceEqDiff]
  refine ACallsK.eq (ks _) ?_
  simp -implicitDefEqProofs (disch := first | assumption | decide | omega | (simp only [wpD1] <;> omega) | (simp only [wpD2] <;> assumption) | solve_by_elim [zR, zP, zV] | fail) only [↓wpPre, wpPost, wpPoly, Int.reduceToNat, Int.reducePow, Int.reduceMul, Int.reduceAdd, Int.reduceSub, Int.reduceNeg, Nat.reduceAdd, Nat.reduceMul, Nat.reducePow, Int.reduceLT, Int.reduceLE, Int.reduceEq, Nat.reduceEqDiff]
  refine ACallsK.eq (ko _ (R.mono (by repeat (first | exact HSub.refl h | refine HSub.put ?_ (by (try simp only [Heap.size_put, Heap.size_push, Heap.size_reserve]); omega) _ | refine HSub.push ?_ _ | refine HSub.reserve ?_ _)))) ?_
  simp -implicitDefEqProofs (disch := first | assumption | decide | omega | (simp only [wpD1] <;> omega) | (simp only [wpD2] <;> assumption) | solve_by_elim [zR, zP, zV] | fail) only [↓wpPre, wpPost, wpPoly, Int.reduceToNat, Int.reducePow, Int.reduceMul, Int.reduceAdd, Int.reduceSub, Int.reduceNeg, Nat.reduceAdd, Nat.reduceMul, Nat.reducePow, Int.reduceLT, Int.reduceLE, Int.reduceEq, Nat.reduceEqDiff]
  refine ACallsK.eq (kh _) ?_
  simp -implicitDefEqProofs (disch := first | assumption | decide | omega | (simp only [wpD1] <;> omega) | (simp only [wpD2] <;> assumption) | solve_by_elim [zR, zP, zV] | fail) only [↓wpPre, wpPost, wpPoly, Int.reduceToNat, Int.reducePow, Int.reduceMul, Int.reduceAdd, Int.reduceSub, Int.reduceNeg, Nat.reduceAdd, Nat.reduceMul, Nat.reducePow, Int.reduceLT, Int.reduceLE, Int.reduceEq, Nat.reduceEqDiff]
  exact ⟨rfl, (by repeat (first | exact HSub.refl h | refine HSub.put ?_ (by (try simp only [Heap.size_put, Heap.size_push, Heap.size_reserve]); omega) _ | refine HSub.push ?_ _ | refine HSub.reserve ?_ _))⟩
 ·obtain ⟨d, o, pb, w, mn, mx, nz, prns⟩ := p
  unfold plA gA at *
  dsimp only at *
  (refine calls_intro (hC.body (by decide) tab320) (Nat.le_of_ble_eq_true rfl) ?_); (show wp C _ none B320.code _ _); (simp only [B320]); simp -implicitDefEqProofs (disch := first | assumption | decide | omega | (simp only [wpD1] <;> omega) | (simp only [wpD2] <;> assumption) | solve_by_elim [zR, zP, zV] | fail) only [↓wpPre, wpPost, wpPoly, Int.reduceToNat, Int.reducePow, Int.reduceMul, Int.reduceAdd, Int.reduceSub, Int.reduceNeg, Nat.reduceAdd, Nat.reduceMul, Nat.reducePow, Int.reduceLT, Int.reduceLE, Int.reduceEq, Nat.reduceEqDiff]
  refine ACallsK.eq (kc _ (R.mono (by repeat (first | exact HSub.refl h | refine HSub.put ?_ (by (try simp only [Heap.size_put, Heap.size_push, Heap.size_reserve]); omega) _ | refine HSub.push ?_ _ | refine HSub.reserve ?_ _)))) ?_
  simp -implicitDefEqProofs (disch := first | assumption | decide | omega | (simp only [wpD1] <;> omega) | (simp only [wpD2] <;> assumption) | solve_by_elim [zR, zP, zV] | fail) only [↓wpPre, wpPost, wpPoly, Int.reduceToNat, Int.reducePow, Int.reduceMul, Int.reduceAdd, Int.reduceSub, Int.reduceNeg, Nat.reduceAdd, Nat.reduceMul, Nat.reducePow, Int.reduceLT, Int.reduceLE, Int.reduceEq, Nat.reduceEqDiff, c]
  exact ⟨by simp [tup2], (by repeat (first | exact HSub.refl h | refine HSub.put ?_ (by (try simp only [Heap.size_put, Heap.size_push, Heap.size_reserve]); omega) _ | refine HSub.push ?_ _ | refine HSub.reserve ?_ _))⟩
set_option maxRecDepth 20000 in
theorem SureR_spec (hC : Has C T322) {p : PlanP} {vp : AV} {b s prn : Int} {h : Heap} (R : RI h vp p.prns) (h64 : p.ok64) :
  ACalls C 322 [plA p vp, gA b s, .int .i64 prn] h (fun r h' => r = sureE p b s prn ∧ h' = h) := by
 refine ACalls.gc0 (P := fun r h' => r = sureE p b s prn ∧ HSub h h') ?_ (fun r h' hp => ⟨by rw [hp.1]; unfold sureE; split <;> exact ⟨trivial, trivial, trivial⟩, hp.2, hp.1, rfl⟩)
 have v1 := R.one
 have kt := fun H (R1 : RI H vp p.prns) => ThresholdR_spec (hC.sub (T' := T318) (by decide)) (h := H) (p := p) (b := b) (s := s) (prn := prn) R1 h64
 have kf := fun H (R1 : RI H vp p.prns) => FloorR_spec (hC.sub (T' := T320) (by decide)) (h := H) (p := p) (b := b) (s := s) (prn := prn) R1 h64
 have e0 : detErr p b s prn = 0 → askErr p b s = 0 ∧ prn ∈ p.prns := detErr_ok
 unfold sureE sureB
 generalize detErr p b s prn = E at *
 by_cases c : E = 0
 ·subst c
  obtain ⟨ea, hin⟩ := e0 rfl
  obtain ⟨ok, hg⟩ := askErr_ok ea
  have gs := (gErr_ok hg).2.2
  have tm := thr_mul ok gs prn
  rw [if_pos rfl] at kt kf
  rw [if_pos rfl]
  unfold plA gA at *
  clear e0 ea ok h64
  generalize thrI p s prn = Th at *
  generalize floorI p s prn = F at *
  generalize hP : (2 : Int) ^ s.toNat = P at *
  obtain ⟨d, o, pb, w, mn, mx, nz, prns⟩ := p
  dsimp only at *
  (refine calls_intro (hC.body (by decide) tab322) (Nat.le_of_ble_eq_true rfl) ?_); (show wp C _ none B322.code _ _); (simp only [B322]); simp -implicitDefEqProofs (disch := first | assumption | decide | omega | (simp only [wpD1] <;> omega) | (simp only [wpD2] <;> assumption) | solve_by_elim [zR, zP, zV] | fail) only [↓wpPre, wpPost, wpPoly, Int.reduceToNat, Int.reducePow, Int.reduceMul, Int.reduceAdd, Int.reduceSub, Int.reduceNeg, Nat.reduceAdd, Nat.reduceMul, Nat.reducePow, Int.reduceLT, Int.reduceLE, Int.reduceEq, Nat.reduceEqDiff]
  refine ACallsK.eq (kt _ (R.mono (by repeat (first | exact HSub.refl h | refine HSub.put ?_ (by (try simp only [Heap.size_put, Heap.size_push, Heap.size_reserve]); omega) _ | refine HSub.push ?_ _ | refine HSub.reserve ?_ _)))) ?_
  simp -implicitDefEqProofs (disch := first | assumption | decide | omega | (simp only [wpD1] <;> omega) | (simp only [wpD2] <;> assumption) | solve_by_elim [zR, zP, zV] | fail) only [↓wpPre, wpPost, wpPoly, Int.reduceToNat, Int.reducePow, Int.reduceMul, Int.reduceAdd, Int.reduceSub, Int.reduceNeg, Nat.reduceAdd, Nat.reduceMul, Nat.reducePow, Int.reduceLT, Int.reduceLE, Int.reduceEq, Nat.reduceEqDiff, tup2]
  refine ACallsK.eq (kf _ (R.mono (by repeat (first | exact HSub.refl h | refine HSub.put ?_ (by (try simp only [Heap.size_put, Heap.size_push, Heap.size_reserve]); omega) _ | refine HSub.push ?_ _ | refine HSub.reserve ?_ _)))) ?_
  simp -implicitDefEqProofs (disch := first | assumption | decide | omega | (simp only [wpD1] <;> omega) | (simp only [wpD2] <;> assumption) | solve_by_elim [zR, zP, zV] | fail) only [↓wpPre, wpPost, wpPoly, Int.reduceToNat, Int.reducePow, Int.reduceMul, Int.reduceAdd, Int.reduceSub, Int.reduceNeg, Nat.reduceAdd, Nat.reduceMul, Nat.reducePow, Int.reduceLT, Int.reduceLE, Int.reduceEq, Nat.reduceEqDiff, tup2, hP]
  exact (by repeat (first | exact HSub.refl h | refine HSub.put ?_ (by (try simp only [Heap.size_put, Heap.size_push, Heap.size_reserve]); omega) _ | refine HSub.push ?_ _ | refine HSub.reserve ?_ _))
 ·rw [if_neg c] at kt
  obtain ⟨d, o, pb, w, mn, mx, nz, prns⟩ := p
  unfold plA gA at *
  dsimp only at *
  (refine calls_intro (hC.body (by decide) tab322) (Nat.le_of_ble_eq_true rfl) ?_); (show wp C _ none B322.code _ _); (simp only [B322]); simp -implicitDefEqProofs (disch := first | assumption | decide | omega | (simp only [wpD1] <;> omega) | (simp only [wpD2] <;> assumption) | solve_by_elim [zR, zP, zV] | fail) only [↓wpPre, wpPost, wpPoly, Int.reduceToNat, Int.reducePow, Int.reduceMul, Int.reduceAdd, Int.reduceSub, Int.reduceNeg, Nat.reduceAdd, Nat.reduceMul, Nat.reducePow, Int.reduceLT, Int.reduceLE, Int.reduceEq, Nat.reduceEqDiff]
  refine ACallsK.eq (kt _ (R.mono (by repeat (first | exact HSub.refl h | refine HSub.put ?_ (by (try simp only [Heap.size_put, Heap.size_push, Heap.size_reserve]); omega) _ | refine HSub.push ?_ _ | refine HSub.reserve ?_ _)))) ?_
  simp -implicitDefEqProofs (disch := first | assumption | decide | omega | (simp only [wpD1] <;> omega) | (simp only [wpD2] <;> assumption) | solve_by_elim [zR, zP, zV] | fail) only [↓wpPre, wpPost, wpPoly, Int.reduceToNat, Int.reducePow, Int.reduceMul, Int.reduceAdd, Int.reduceSub, Int.reduceNeg, Nat.reduceAdd, Nat.reduceMul, Nat.reducePow, Int.reduceLT, Int.reduceLE, Int.reduceEq, Nat.reduceEqDiff, tup2, c]
  exact ⟨by simp, (by repeat (first | exact HSub.refl h | refine HSub.put ?_ (by (try simp only [Heap.size_put, Heap.size_push, Heap.size_reserve]); omega) _ | refine HSub.push ?_ _ | refine HSub.reserve ?_ _))⟩
set_option maxRecDepth 20000 in
set_option maxHeartbeats 1000000 in
theorem ThresholdsR_spec (hC : Has C T324) {p : PlanP} {vp : AV} {b s : Int} {h : Heap} (R : RI h vp p.prns) (h64 : p.ok64) :
  ACalls C 324 [plA p vp, gA b s] h (fun r h' => ∃ v, r = lstErr v (askErr p b s) ∧ HSub h h' ∧ RI h' v (if askErr p b s = 0 then thrK p s p.prns p.prns.length else [])) := by
 have v1 := R.one
 have kc := fun H (R1 : RI H vp p.prns) => plain343_spec (hC.sub (T' := T343) (by decide)) (h := H) (p := p) (b := b) (s := s) R1 h64
 have kt := fun (k : Nat) (hk : k < p.prns.length) H (R1 : RI H vp p.prns) => ThresholdR_spec (hC.sub (T' := T318) (by decide)) (h := H) (p := p) (b := b) (s := s) (prn := p.prns.getD k 0) R1 h64
 have de : askErr p b s = 0 → ∀ k, k < p.prns.length → detErr p b s (p.prns.getD k 0) = 0 := fun e k hk => by unfold detErr; rw [if_pos e, if_pos (getD_mem hk)]
 by_cases c : askErr p b s = 0
 ·have kt : ∀ (k : Nat) (hk : k < p.prns.length) H (R1 : RI H vp p.prns), ACalls C 318 [plA p vp, gA b s, .int .i64 (p.prns.getD k 0)] H (fun r h' => r = tup2 (thrI p s (p.prns.getD k 0)) 0 ∧ h' = H) := fun k hk H R1 => by
   have q := kt k hk H R1
   rw [de c k hk, if_pos rfl] at q
   exact q
  have l8 := (askErr_ok c).1.len
  rw [c] at kc
  rw [c, if_pos rfl]
  have tk := fun (k : Nat) (hk : k < p.prns.length) => thrK_succ (p := p) (s := s) hk
  have tkl := fun (k : Nat) (hk : k ≤ p.prns.length) => thrK_length (p := p) (s := s) hk
  unfold plA gA at *
  clear de h64
  generalize thrK p s p.prns = LL at *
  generalize thrI p s = TT at *
  obtain ⟨d, o, pb, w, mn, mx, nz, prns⟩ := p
  dsimp only at *
  have t0 : LL 0 = [] := List.eq_nil_of_length_eq_zero (tkl 0 (by omega))
  (refine calls_intro (hC.body (by decide) tab324) (Nat.le_of_ble_eq_true rfl) ?_); (show wp C _ none B324.code _ _); (simp only [B324]); simp -implicitDefEqProofs (disch := first | assumption | decide | omega | (simp only [wpD1] <;> omega) | (simp only [wpD2] <;> assumption) | solve_by_elim [zR, zP, zV] | fail) only [↓wpPre, wpPost, wpPoly, Int.reduceToNat, Int.reducePow, Int.reduceMul, Int.reduceAdd, Int.reduceSub, Int.reduceNeg, Nat.reduceAdd, Nat.reduceMul, Nat.reducePow, Int.reduceLT, Int.reduceLE, Int.reduceEq, Nat.reduceEqDiff]
  refine ACallsK.eq (kc _ (R.mono (by repeat (first | exact HSub.refl h | refine HSub.put ?_ (by (try simp only [Heap.size_put, Heap.size_push, Heap.size_reserve]); omega) _ | refine HSub.push ?_ _ | refine HSub.reserve ?_ _)))) ?_
  simp -implicitDefEqProofs (disch := first | assumption | decide | omega | (simp only [wpD1] <;> omega) | (simp only [wpD2] <;> assumption) | solve_by_elim [zR, zP, zV] | fail) only [↓wpPre, wpPost, wpPoly, Int.reduceToNat, Int.reducePow, Int.reduceMul, Int.reduceAdd, Int.reduceSub, Int.reduceNeg, Nat.reduceAdd, Nat.reduceMul, Nat.reducePow, Int.reduceLT, Int.reduceLE, Int.reduceEq, Nat.reduceEqDiff]
  refine wp_loopI (fun j t h' => ∃ k : Nat, GrwI ((h.push (.cells [.int .i64 d, .int .i64 o, .int .i64 pb, .int .i64 w, .int .i64 mn, .int .i64 mx, .int .i64 nz, vp] true 0)).push (.cells [.int .i64 b, .int .i64 s] true 0)) h' (t 7) (LL k) ∧ t 2 = .ptr h.size 0 ∧ t 3 = .ptr (h.size + 1) 0 ∧ t 8 = .int .i64 (k : Nat) ∧ k ≤ prns.length ∧ j = prns.length - k) (j0 := prns.length)
   ⟨0, by rw [t0]; exact GrwI.nil _, rfl, rfl, rfl, by omega, rfl⟩ ?_
  rintro j t h1 ⟨k, A, e2, e3, e8, hk, hj⟩
  have sA := A.sub
  have R1 := R.mono ((show HSub h _ from (by repeat (first | exact HSub.refl h | refine HSub.put ?_ (by (try simp only [Heap.size_put, Heap.size_push, Heap.size_reserve]); omega) _ | refine HSub.push ?_ _ | refine HSub.reserve ?_ _))).trans sA)
  have g3 : h1.get h.size = some (.cells [.int .i64 d, .int .i64 o, .int .i64 pb, .int .i64 w, .int .i64 mn, .int .i64 mx, .int .i64 nz, vp] true 0) := (sA.get _ (by simp only [Heap.size_push]; omega)).trans (by simp -implicitDefEqProofs (disch := first | assumption | decide | omega | (simp only [wpD1] <;> omega) | (simp only [wpD2] <;> assumption) | solve_by_elim [zR, zP, zV] | fail) only [↓wpPre, wpPost, wpPoly, Int.reduceToNat, Int.reducePow, Int.reduceMul, Int.reduceAdd, Int.reduceSub, Int.reduceNeg, Nat.reduceAdd, Nat.reduceMul, Nat.reducePow, Int.reduceLT, Int.reduceLE, Int.reduceEq, Nat.reduceEqDiff])
  have g4 : h1.get (h.size + 1) = some (.cells [.int .i64 b, .int .i64 s] true 0) := (sA.get _ (by simp only [Heap.size_push]; omega)).trans (by simp -implicitDefEqProofs (disch := first | assumption | decide | omega | (simp only [wpD1] <;> omega) | (simp only [wpD2] <;> assumption) | solve_by_elim [zR, zP, zV] | fail) only [↓wpPre, wpPost, wpPoly, Int.reduceToNat, Int.reducePow, Int.reduceMul, Int.reduceAdd, Int.reduceSub, Int.reduceNeg, Nat.reduceAdd, Nat.reduceMul, Nat.reducePow, Int.reduceLT, Int.reduceLE, Int.reduceEq, Nat.reduceEqDiff])
  simp -implicitDefEqProofs (disch := first | assumption | decide | omega | (simp only [wpD1] <;> omega) | (simp only [wpD2] <;> assumption) | solve_by_elim [zR, zP, zV] | fail) only [↓wpPre, wpPost, wpPoly, Int.reduceToNat, Int.reducePow, Int.reduceMul, Int.reduceAdd, Int.reduceSub, Int.reduceNeg, Nat.reduceAdd, Nat.reduceMul, Nat.reducePow, Int.reduceLT, Int.reduceLE, Int.reduceEq, Nat.reduceEqDiff, e2, e3, e8, g3, R1.len]
  refine Br.by (fun c1 => ?_) (fun c1 => ?_)
  ·have hk' : k < prns.length := by omega
   have tk := tk k hk'
   have tkl := tkl k (by omega)
   have sl : HSub h1 (h1.push (.cells [.int .i64 (TT (prns.getD k 0))] true 0)) := HSub.push1 _ _
   have ap := A.app (x := TT (prns.getD k 0)) _ sl (by omega)
   have sn := A.snoc (x := TT (prns.getD k 0)) sl (by omega)
   rw [← tk] at ap sn
   simp -implicitDefEqProofs (disch := first | assumption | decide | omega | (simp only [wpD1] <;> omega) | (simp only [wpD2] <;> assumption) | solve_by_elim [zR, zP, zV] | fail) only [↓wpPre, wpPost, wpPoly, Int.reduceToNat, Int.reducePow, Int.reduceMul, Int.reduceAdd, Int.reduceSub, Int.reduceNeg, Nat.reduceAdd, Nat.reduceMul, Nat.reducePow, Int.reduceLT, Int.reduceLE, Int.reduceEq, Nat.reduceEqDiff, e2, e3, e8, g3, g4, R1.idx, R1.load hk']
   refine ACallsK.eq (kt k hk' _ R1) ?_
   simp -implicitDefEqProofs (disch := first | assumption | decide | omega | (simp only [wpD1] <;> omega) | (simp only [wpD2] <;> assumption) | solve_by_elim [zR, zP, zV] | fail) only [↓wpPre, wpPost, wpPoly, Int.reduceToNat, Int.reducePow, Int.reduceMul, Int.reduceAdd, Int.reduceSub, Int.reduceNeg, Nat.reduceAdd, Nat.reduceMul, Nat.reducePow, Int.reduceLT, Int.reduceLE, Int.reduceEq, Nat.reduceEqDiff, tup2, cont_slice, contB_one, ap, e2, e3, e8]
   exact ⟨_, ⟨k + 1, sn, by omega, by omega, rfl⟩, by omega⟩
  ·obtain rfl : k = prns.length := by omega
   simp -implicitDefEqProofs (disch := first | assumption | decide | omega | (simp only [wpD1] <;> omega) | (simp only [wpD2] <;> assumption) | solve_by_elim [zR, zP, zV] | fail) only [↓wpPre, wpPost, wpPoly, Int.reduceToNat, Int.reducePow, Int.reduceMul, Int.reduceAdd, Int.reduceSub, Int.reduceNeg, Nat.reduceAdd, Nat.reduceMul, Nat.reducePow, Int.reduceLT, Int.reduceLE, Int.reduceEq, Nat.reduceEqDiff, lstErr]
   exact ⟨_, rfl, (show HSub h _ from (by repeat (first | exact HSub.refl h | refine HSub.put ?_ (by (try simp only [Heap.size_put, Heap.size_push, Heap.size_reserve]); omega) _ | refine HSub.push ?_ _ | refine HSub.reserve ?_ _))).trans sA, A.ri⟩
 ·rw [if_neg c]
  generalize askErr p b s = AE at *
  unfold plA gA at *
  obtain ⟨d, o, pb, w, mn, mx, nz, prns⟩ := p
  dsimp only at *
  (refine calls_intro (hC.body (by decide) tab324) (Nat.le_of_ble_eq_true rfl) ?_); (show wp C _ none B324.code _ _); (simp only [B324]); simp -implicitDefEqProofs (disch := first | assumption | decide | omega | (simp only [wpD1] <;> omega) | (simp only [wpD2] <;> assumption) | solve_by_elim [zR, zP, zV] | fail) only [↓wpPre, wpPost, wpPoly, Int.reduceToNat, Int.reducePow, Int.reduceMul, Int.reduceAdd, Int.reduceSub, Int.reduceNeg, Nat.reduceAdd, Nat.reduceMul, Nat.reducePow, Int.reduceLT, Int.reduceLE, Int.reduceEq, Nat.reduceEqDiff]
  refine ACallsK.eq (kc _ (R.mono (by repeat (first | exact HSub.refl h | refine HSub.put ?_ (by (try simp only [Heap.size_put, Heap.size_push, Heap.size_reserve]); omega) _ | refine HSub.push ?_ _ | refine HSub.reserve ?_ _)))) ?_
  simp -implicitDefEqProofs (disch := first | assumption | decide | omega | (simp only [wpD1] <;> omega) | (simp only [wpD2] <;> assumption) | solve_by_elim [zR, zP, zV] | fail) only [↓wpPre, wpPost, wpPoly, Int.reduceToNat, Int.reducePow, Int.reduceMul, Int.reduceAdd, Int.reduceSub, Int.reduceNeg, Nat.reduceAdd, Nat.reduceMul, Nat.reducePow, Int.reduceLT, Int.reduceLE, Int.reduceEq, Nat.reduceEqDiff, c, lstErr]
  exact ⟨_, rfl, (by repeat (first | exact HSub.refl h | refine HSub.put ?_ (by (try simp only [Heap.size_put, Heap.size_push, Heap.size_reserve]); omega) _ | refine HSub.push ?_ _ | refine HSub.reserve ?_ _)), RI.nil⟩
end
end Go.Ae
/- The statements on claims, bounds and examples, of layer 15. -/
set_option linter.unusedSimpArgs false
set_option linter.unusedVariables false
namespace Go.Ae
def largeB (p : PlanP) : Bool := decide ((7 < p.d ∧ p.d < 11) ∨ (3 < p.o ∧ p.o ≤ 8) ∨ 12 < p.prns.length)
def P0 : PlanP := ⟨5, 2, 1, 2, 10, 10, 0, [1]⟩
theorem P0_err : P0.err = 0 := by decide +kernel
theorem P0_ok : PlanOk P0 := planOk_of P0_err
theorem P0_64 : P0.ok64 := by
 refine ⟨?_, ?_, ?_, ?_, ?_, ?_, ?_, ?_⟩
 all_goals first
  | (show In64 _; unfold In64; decide)
  | (intro x hx; have : x = 1 := by simpa [P0] using hx
     subst this; unfold In64; decide)
theorem P0_det : detErr P0 8 5 1 = 0 ∧ detErr P0 8 5 2 = 18 ∧ detErr ⟨5, 2, 1, 2, 10, 10, 0, []⟩ 8 5 1 = 3 := by decide +kernel
theorem P0_size : P0.size = 62 := by decide +kernel
theorem P0_oth : P0.oth 1 = 0 := by
 unfold PlanP.oth
 show othK _ 1 [1] 1 = 0
 rfl
theorem P0_floor : floorI P0 5 1 = 74112 := by
 unfold floorI humI
 rw [P0_oth, P0_size]
 decide
theorem P0_bound : boundI P0 5 1 = 1280 * sumI 5 2 1 1 + 1488 := by
 unfold boundI humI
 rw [P0_oth, P0_size, Int.add_zero]
 show 128 * 10 * sumI 5 2 1 1 + (3 * 62 * (0 + coarI 5) + 1) / 2 = _
 have : coarI 5 = 16 := by decide
 rw [this]
 omega
section
variable {C : Ctx}
set_option maxRecDepth 20000 in
theorem large311_spec (hC : Has C T311) {p : PlanP} {vp : AV} {h : Heap} (R : RI h vp p.prns) : ACalls C 311 [plA p vp] h (fun r h' => r = .bool (largeB p) ∧ h' = h) := by
 refine ACalls.gc0 (P := fun r h' => r = .bool (largeB p) ∧ HSub h h') ?_ (fun r h' hp => ⟨by rw [hp.1]; trivial, hp.2, hp.1, rfl⟩)
 have v1 := R.one
 have hlt := R.lt
 have hl := R.len
 unfold largeB plA
 generalize p.prns.length = n at *
 obtain ⟨d, o, pb, w, mn, mx, nz, prns⟩ := p
 dsimp only at *
 by_cases c1 : 7 < d ∧ d < 11
 ·rw [decide_eq_true (.inl c1)]
  (refine calls_intro (hC.body (by decide) tab311) (Nat.le_of_ble_eq_true rfl) ?_); (show wp C _ none B311.code _ _); (simp only [B311]); simp -implicitDefEqProofs (disch := first | assumption | decide | omega | (simp only [wpD1] <;> omega) | (simp only [wpD2] <;> assumption) | solve_by_elim [zR, zP, zV] | fail) only [↓wpPre, wpPost, wpPoly, Int.reduceToNat, Int.reducePow, Int.reduceMul, Int.reduceAdd, Int.reduceSub, Int.reduceNeg, Nat.reduceAdd, Nat.reduceMul, Nat.reducePow, Int.reduceLT, Int.reduceLE, Int.reduceEq, Nat.reduceEqDiff, c1, gV_u, hl]
  exact (by repeat (first | exact HSub.refl h | refine HSub.put ?_ (by (try simp only [Heap.size_put, Heap.size_push, Heap.size_reserve]); omega) _ | refine HSub.push ?_ _ | refine HSub.reserve ?_ _))
 by_cases c2 : 3 < o ∧ o ≤ 8
 ·rw [decide_eq_true (.inr (.inl c2))]
  by_cases c3 : 7 < d
  ·have c4 : ¬ d < 11 := fun q => c1 ⟨c3, q⟩
   (refine calls_intro (hC.body (by decide) tab311) (Nat.le_of_ble_eq_true rfl) ?_); (show wp C _ none B311.code _ _); (simp only [B311]); simp -implicitDefEqProofs (disch := first | assumption | decide | omega | (simp only [wpD1] <;> omega) | (simp only [wpD2] <;> assumption) | solve_by_elim [zR, zP, zV] | fail) only [↓wpPre, wpPost, wpPoly, Int.reduceToNat, Int.reducePow, Int.reduceMul, Int.reduceAdd, Int.reduceSub, Int.reduceNeg, Nat.reduceAdd, Nat.reduceMul, Nat.reducePow, Int.reduceLT, Int.reduceLE, Int.reduceEq, Nat.reduceEqDiff, c3, c4, c2, gV_u, hl]
   exact (by repeat (first | exact HSub.refl h | refine HSub.put ?_ (by (try simp only [Heap.size_put, Heap.size_push, Heap.size_reserve]); omega) _ | refine HSub.push ?_ _ | refine HSub.reserve ?_ _))
  ·(refine calls_intro (hC.body (by decide) tab311) (Nat.le_of_ble_eq_true rfl) ?_); (show wp C _ none B311.code _ _); (simp only [B311]); simp -implicitDefEqProofs (disch := first | assumption | decide | omega | (simp only [wpD1] <;> omega) | (simp only [wpD2] <;> assumption) | solve_by_elim [zR, zP, zV] | fail) only [↓wpPre, wpPost, wpPoly, Int.reduceToNat, Int.reducePow, Int.reduceMul, Int.reduceAdd, Int.reduceSub, Int.reduceNeg, Nat.reduceAdd, Nat.reduceMul, Nat.reducePow, Int.reduceLT, Int.reduceLE, Int.reduceEq, Nat.reduceEqDiff, c3, c2, gV_u, hl]
   exact (by repeat (first | exact HSub.refl h | refine HSub.put ?_ (by (try simp only [Heap.size_put, Heap.size_push, Heap.size_reserve]); omega) _ | refine HSub.push ?_ _ | refine HSub.reserve ?_ _))
 have e : decide ((7 < d ∧ d < 11) ∨ (3 < o ∧ o ≤ 8) ∨ 12 < n) = decide (12 < (n : Int)) := by
  rw [decide_eq_decide]; omega
 rw [e]
 by_cases c3 : 7 < d
 ·have c4 : ¬ d < 11 := fun q => c1 ⟨c3, q⟩
  by_cases c5 : 3 < o
  ·have c6 : ¬ o ≤ 8 := fun q => c2 ⟨c5, q⟩
   (refine calls_intro (hC.body (by decide) tab311) (Nat.le_of_ble_eq_true rfl) ?_); (show wp C _ none B311.code _ _); (simp only [B311]); simp -implicitDefEqProofs (disch := first | assumption | decide | omega | (simp only [wpD1] <;> omega) | (simp only [wpD2] <;> assumption) | solve_by_elim [zR, zP, zV] | fail) only [↓wpPre, wpPost, wpPoly, Int.reduceToNat, Int.reducePow, Int.reduceMul, Int.reduceAdd, Int.reduceSub, Int.reduceNeg, Nat.reduceAdd, Nat.reduceMul, Nat.reducePow, Int.reduceLT, Int.reduceLE, Int.reduceEq, Nat.reduceEqDiff, c3, c4, c5, c6, gV_u, hl]
   exact (by repeat (first | exact HSub.refl h | refine HSub.put ?_ (by (try simp only [Heap.size_put, Heap.size_push, Heap.size_reserve]); omega) _ | refine HSub.push ?_ _ | refine HSub.reserve ?_ _))
  ·(refine calls_intro (hC.body (by decide) tab311) (Nat.le_of_ble_eq_true rfl) ?_); (show wp C _ none B311.code _ _); (simp only [B311]); simp -implicitDefEqProofs (disch := first | assumption | decide | omega | (simp only [wpD1] <;> omega) | (simp only [wpD2] <;> assumption) | solve_by_elim [zR, zP, zV] | fail) only [↓wpPre, wpPost, wpPoly, Int.reduceToNat, Int.reducePow, Int.reduceMul, Int.reduceAdd, Int.reduceSub, Int.reduceNeg, Nat.reduceAdd, Nat.reduceMul, Nat.reducePow, Int.reduceLT, Int.reduceLE, Int.reduceEq, Nat.reduceEqDiff, c3, c4, c5, gV_u, hl]
   exact (by repeat (first | exact HSub.refl h | refine HSub.put ?_ (by (try simp only [Heap.size_put, Heap.size_push, Heap.size_reserve]); omega) _ | refine HSub.push ?_ _ | refine HSub.reserve ?_ _))
 ·by_cases c5 : 3 < o
  ·have c6 : ¬ o ≤ 8 := fun q => c2 ⟨c5, q⟩
   (refine calls_intro (hC.body (by decide) tab311) (Nat.le_of_ble_eq_true rfl) ?_); (show wp C _ none B311.code _ _); (simp only [B311]); simp -implicitDefEqProofs (disch := first | assumption | decide | omega | (simp only [wpD1] <;> omega) | (simp only [wpD2] <;> assumption) | solve_by_elim [zR, zP, zV] | fail) only [↓wpPre, wpPost, wpPoly, Int.reduceToNat, Int.reducePow, Int.reduceMul, Int.reduceAdd, Int.reduceSub, Int.reduceNeg, Nat.reduceAdd, Nat.reduceMul, Nat.reducePow, Int.reduceLT, Int.reduceLE, Int.reduceEq, Nat.reduceEqDiff, c3, c5, c6, gV_u, hl]
   exact (by repeat (first | exact HSub.refl h | refine HSub.put ?_ (by (try simp only [Heap.size_put, Heap.size_push, Heap.size_reserve]); omega) _ | refine HSub.push ?_ _ | refine HSub.reserve ?_ _))
  ·(refine calls_intro (hC.body (by decide) tab311) (Nat.le_of_ble_eq_true rfl) ?_); (show wp C _ none B311.code _ _); (simp only [B311]); simp -implicitDefEqProofs (disch := first | assumption | decide | omega | (simp only [wpD1] <;> omega) | (simp only [wpD2] <;> assumption) | solve_by_elim [zR, zP, zV] | fail) only [↓wpPre, wpPost, wpPoly, Int.reduceToNat, Int.reducePow, Int.reduceMul, Int.reduceAdd, Int.reduceSub, Int.reduceNeg, Nat.reduceAdd, Nat.reduceMul, Nat.reducePow, Int.reduceLT, Int.reduceLE, Int.reduceEq, Nat.reduceEqDiff, c3, c5, gV_u, hl]
   exact (by repeat (first | exact HSub.refl h | refine HSub.put ?_ (by (try simp only [Heap.size_put, Heap.size_push, Heap.size_reserve]); omega) _ | refine HSub.push ?_ _ | refine HSub.reserve ?_ _))
theorem plan325_spec (hC : Has C T325) {h : Heap} : ACalls C 325 [] h (fun r h' => HSub h h' ∧ ∃ vp, r = plA P0 vp ∧ RI h' vp P0.prns) := by
 (refine calls_intro (hC.body (by decide) tab325) (Nat.le_of_ble_eq_true rfl) ?_); (show wp C _ none B325.code _ _); (simp only [B325]); simp -implicitDefEqProofs (disch := first | assumption | decide | omega | (simp only [wpD1] <;> omega) | (simp only [wpD2] <;> assumption) | solve_by_elim [zR, zP, zV] | fail) only [↓wpPre, wpPost, wpPoly, Int.reduceToNat, Int.reducePow, Int.reduceMul, Int.reduceAdd, Int.reduceSub, Int.reduceNeg, Nat.reduceAdd, Nat.reduceMul, Nat.reducePow, Int.reduceLT, Int.reduceLE, Int.reduceEq, Nat.reduceEqDiff]
 refine ⟨(by repeat (first | exact HSub.refl h | refine HSub.put ?_ (by (try simp only [Heap.size_put, Heap.size_push, Heap.size_reserve]); omega) _ | refine HSub.push ?_ _ | refine HSub.reserve ?_ _)), _, rfl, RI.known (wr := true) (u := 0) (l := [1]) (by simp -implicitDefEqProofs (disch := first | assumption | decide | omega | (simp only [wpD1] <;> omega) | (simp only [wpD2] <;> assumption) | solve_by_elim [zR, zP, zV] | fail) only [↓wpPre, wpPost, wpPoly, Int.reduceToNat, Int.reducePow, Int.reduceMul, Int.reduceAdd, Int.reduceSub, Int.reduceNeg, Nat.reduceAdd, Nat.reduceMul, Nat.reducePow, Int.reduceLT, Int.reduceLE, Int.reduceEq, Nat.reduceEqDiff]; rfl) ⟨rfl, by decide⟩ (by decide)⟩
theorem gain326_spec (hC : Has C T326) {h : Heap} : ACalls C 326 [] h (fun r h' => r = gA 8 5 ∧ h' = h) := by
 refine ACalls.gc0 (P := fun r h' => r = gA 8 5 ∧ HSub h h') ?_ (fun r h' hp => ⟨by rw [hp.1]; exact ⟨trivial, trivial, trivial⟩, hp.2, hp.1, rfl⟩)
 (refine calls_intro (hC.body (by decide) tab326) (Nat.le_of_ble_eq_true rfl) ?_); (show wp C _ none B326.code _ _); (simp only [B326]); simp -implicitDefEqProofs (disch := first | assumption | decide | omega | (simp only [wpD1] <;> omega) | (simp only [wpD2] <;> assumption) | solve_by_elim [zR, zP, zV] | fail) only [↓wpPre, wpPost, wpPoly, Int.reduceToNat, Int.reducePow, Int.reduceMul, Int.reduceAdd, Int.reduceSub, Int.reduceNeg, Nat.reduceAdd, Nat.reduceMul, Nat.reducePow, Int.reduceLT, Int.reduceLE, Int.reduceEq, Nat.reduceEqDiff]
 exact ⟨rfl, (by repeat (first | exact HSub.refl h | refine HSub.put ?_ (by (try simp only [Heap.size_put, Heap.size_push, Heap.size_reserve]); omega) _ | refine HSub.push ?_ _ | refine HSub.reserve ?_ _))⟩
theorem awake312_spec (hC : Has C T312) {h : Heap} : ACalls C 312 [] h (fun r h' => r = .bool true ∧ h' = h) := by
 refine ACalls.gc0 (P := fun r h' => r = .bool true ∧ HSub h h') ?_ (fun r h' hp => ⟨by rw [hp.1]; trivial, hp.2, hp.1, rfl⟩)
 have kp := fun H => plan325_spec (hC.sub (T' := T325) (by decide)) (h := H)
 have kg := fun H => gain326_spec (hC.sub (T' := T326) (by decide)) (h := H)
 have kf := fun H vp (R : RI H vp P0.prns) => Floor_spec (hC.sub (T' := T319) (by decide)) (h := H) (b := 8) (s := 5) (prn := 1) R P0_64
 have kb := fun H vp (R : RI H vp P0.prns) => Bound_spec (hC.sub (T' := T315) (by decide)) (h := H) (b := 8) (s := 5) (prn := 1) R P0_64
 have ks := fun H => SideR_spec (hC.sub (T' := T176) (by decide)) (h := H) (d := 5) (o := 2) (p := 1) (by unfold In64; decide) (by unfold In64; decide) (by unfold In64; decide)
 rw [P0_det.1, if_pos rfl, P0_floor] at kf
 rw [P0_det.1, if_pos rfl, P0_bound] at kb
 have sd : sideE 5 2 1 = tup2 (sumI 5 2 1 1) 0 := P0_ok.side (a := 1) (by decide)
 rw [sd] at ks
 have sr : 0 ≤ sumI 5 2 1 1 ∧ sumI 5 2 1 1 ≤ 8184 := sumI_range P0_ok.nums 1 1
 generalize sumI 5 2 1 1 = S at *
 (refine calls_intro (hC.body (by decide) tab312) (Nat.le_of_ble_eq_true rfl) ?_); (show wp C _ none B312.code _ _); (simp only [B312]); simp -implicitDefEqProofs (disch := first | assumption | decide | omega | (simp only [wpD1] <;> omega) | (simp only [wpD2] <;> assumption) | solve_by_elim [zR, zP, zV] | fail) only [↓wpPre, wpPost, wpPoly, Int.reduceToNat, Int.reducePow, Int.reduceMul, Int.reduceAdd, Int.reduceSub, Int.reduceNeg, Nat.reduceAdd, Nat.reduceMul, Nat.reducePow, Int.reduceLT, Int.reduceLE, Int.reduceEq, Nat.reduceEqDiff]
 refine ACallsK.of (kp _) ?_
 rintro r h1 ⟨s1, vp, rfl, R⟩
 simp -implicitDefEqProofs (disch := first | assumption | decide | omega | (simp only [wpD1] <;> omega) | (simp only [wpD2] <;> assumption) | solve_by_elim [zR, zP, zV] | fail) only [↓wpPre, wpPost, wpPoly, Int.reduceToNat, Int.reducePow, Int.reduceMul, Int.reduceAdd, Int.reduceSub, Int.reduceNeg, Nat.reduceAdd, Nat.reduceMul, Nat.reducePow, Int.reduceLT, Int.reduceLE, Int.reduceEq, Nat.reduceEqDiff]
 refine ACallsK.eq (kg _) ?_
 simp -implicitDefEqProofs (disch := first | assumption | decide | omega | (simp only [wpD1] <;> omega) | (simp only [wpD2] <;> assumption) | solve_by_elim [zR, zP, zV] | fail) only [↓wpPre, wpPost, wpPoly, Int.reduceToNat, Int.reducePow, Int.reduceMul, Int.reduceAdd, Int.reduceSub, Int.reduceNeg, Nat.reduceAdd, Nat.reduceMul, Nat.reducePow, Int.reduceLT, Int.reduceLE, Int.reduceEq, Nat.reduceEqDiff]
 refine ACallsK.of (kf _ _ R) ?_
 rintro r h2 ⟨rfl, s2⟩
 clear R
 simp -implicitDefEqProofs (disch := first | assumption | decide | omega | (simp only [wpD1] <;> omega) | (simp only [wpD2] <;> assumption) | solve_by_elim [zR, zP, zV] | fail) only [↓wpPre, wpPost, wpPoly, Int.reduceToNat, Int.reducePow, Int.reduceMul, Int.reduceAdd, Int.reduceSub, Int.reduceNeg, Nat.reduceAdd, Nat.reduceMul, Nat.reducePow, Int.reduceLT, Int.reduceLE, Int.reduceEq, Nat.reduceEqDiff, tup2]
 refine ACallsK.of (kp _) ?_
 rintro r h3 ⟨s3, vp, rfl, R⟩
 simp -implicitDefEqProofs (disch := first | assumption | decide | omega | (simp only [wpD1] <;> omega) | (simp only [wpD2] <;> assumption) | solve_by_elim [zR, zP, zV] | fail) only [↓wpPre, wpPost, wpPoly, Int.reduceToNat, Int.reducePow, Int.reduceMul, Int.reduceAdd, Int.reduceSub, Int.reduceNeg, Nat.reduceAdd, Nat.reduceMul, Nat.reducePow, Int.reduceLT, Int.reduceLE, Int.reduceEq, Nat.reduceEqDiff]
 refine ACallsK.eq (kg _) ?_
 simp -implicitDefEqProofs (disch := first | assumption | decide | omega | (simp only [wpD1] <;> omega) | (simp only [wpD2] <;> assumption) | solve_by_elim [zR, zP, zV] | fail) only [↓wpPre, wpPost, wpPoly, Int.reduceToNat, Int.reducePow, Int.reduceMul, Int.reduceAdd, Int.reduceSub, Int.reduceNeg, Nat.reduceAdd, Nat.reduceMul, Nat.reducePow, Int.reduceLT, Int.reduceLE, Int.reduceEq, Nat.reduceEqDiff]
 refine ACallsK.of (kb _ _ R) ?_
 rintro r h4 ⟨rfl, s4⟩
 simp -implicitDefEqProofs (disch := first | assumption | decide | omega | (simp only [wpD1] <;> omega) | (simp only [wpD2] <;> assumption) | solve_by_elim [zR, zP, zV] | fail) only [↓wpPre, wpPost, wpPoly, Int.reduceToNat, Int.reducePow, Int.reduceMul, Int.reduceAdd, Int.reduceSub, Int.reduceNeg, Nat.reduceAdd, Nat.reduceMul, Nat.reducePow, Int.reduceLT, Int.reduceLE, Int.reduceEq, Nat.reduceEqDiff, tup2]
 refine ACallsK.of (ks _) ?_
 rintro r h5 ⟨rfl, s5⟩
 simp -implicitDefEqProofs (disch := first | assumption | decide | omega | (simp only [wpD1] <;> omega) | (simp only [wpD2] <;> assumption) | solve_by_elim [zR, zP, zV] | fail) only [↓wpPre, wpPost, wpPoly, Int.reduceToNat, Int.reducePow, Int.reduceMul, Int.reduceAdd, Int.reduceSub, Int.reduceNeg, Nat.reduceAdd, Nat.reduceMul, Nat.reducePow, Int.reduceLT, Int.reduceLE, Int.reduceEq, Nat.reduceEqDiff, tup2, gV_u]
 exact (((s1.trans s2).trans s3).trans s4).trans s5
theorem claims327_spec (hC : Has C T327) {pw m : Int} {want : Bool} {h : Heap} (hpw : In64 pw) (hm : 1 ≤ m ∧ m ≤ 1000) (h0 : 0 ≤ pw) (hw : claimB (thrI P0 5 1) pw m = want) :
  ACalls C 327 [.int .i64 pw, .int .i64 m, .bool want] h (fun r h' => r = .bool true ∧ h' = h) := by
 refine ACalls.gc0 (P := fun r h' => r = .bool true ∧ HSub h h') ?_ (fun r h' hp => ⟨by rw [hp.1]; trivial, hp.2, hp.1, rfl⟩)
 have kp := fun H => plan325_spec (hC.sub (T' := T325) (by decide)) (h := H)
 have kg := fun H => gain326_spec (hC.sub (T' := T326) (by decide)) (h := H)
 have kc := fun H vp (R : RI H vp P0.prns) => Claims_spec (hC.sub (T' := T313) (by decide)) (h := H) (b := 8) (s := 5) (prn := 1) (pw := pw) (m := m) R P0_64 hpw (by unfold In64; omega)
 unfold claimE at kc
 rw [P0_det.1, if_pos rfl, if_neg (by omega), hw] at kc
 (refine calls_intro (hC.body (by decide) tab327) (Nat.le_of_ble_eq_true rfl) ?_); (show wp C _ none B327.code _ _); (simp only [B327]); simp -implicitDefEqProofs (disch := first | assumption | decide | omega | (simp only [wpD1] <;> omega) | (simp only [wpD2] <;> assumption) | solve_by_elim [zR, zP, zV] | fail) only [↓wpPre, wpPost, wpPoly, Int.reduceToNat, Int.reducePow, Int.reduceMul, Int.reduceAdd, Int.reduceSub, Int.reduceNeg, Nat.reduceAdd, Nat.reduceMul, Nat.reducePow, Int.reduceLT, Int.reduceLE, Int.reduceEq, Nat.reduceEqDiff]
 refine ACallsK.of (kp _) ?_
 rintro r h1 ⟨s1, vp, rfl, R⟩
 simp -implicitDefEqProofs (disch := first | assumption | decide | omega | (simp only [wpD1] <;> omega) | (simp only [wpD2] <;> assumption) | solve_by_elim [zR, zP, zV] | fail) only [↓wpPre, wpPost, wpPoly, Int.reduceToNat, Int.reducePow, Int.reduceMul, Int.reduceAdd, Int.reduceSub, Int.reduceNeg, Nat.reduceAdd, Nat.reduceMul, Nat.reducePow, Int.reduceLT, Int.reduceLE, Int.reduceEq, Nat.reduceEqDiff]
 refine ACallsK.eq (kg _) ?_
 simp -implicitDefEqProofs (disch := first | assumption | decide | omega | (simp only [wpD1] <;> omega) | (simp only [wpD2] <;> assumption) | solve_by_elim [zR, zP, zV] | fail) only [↓wpPre, wpPost, wpPoly, Int.reduceToNat, Int.reducePow, Int.reduceMul, Int.reduceAdd, Int.reduceSub, Int.reduceNeg, Nat.reduceAdd, Nat.reduceMul, Nat.reducePow, Int.reduceLT, Int.reduceLE, Int.reduceEq, Nat.reduceEqDiff]
 refine ACallsK.of (kc _ _ R) ?_
 rintro r h2 ⟨rfl, s2⟩
 have ew : (want == want) = true := by simp
 simp -implicitDefEqProofs (disch := first | assumption | decide | omega | (simp only [wpD1] <;> omega) | (simp only [wpD2] <;> assumption) | solve_by_elim [zR, zP, zV] | fail) only [↓wpPre, wpPost, wpPoly, Int.reduceToNat, Int.reducePow, Int.reduceMul, Int.reduceAdd, Int.reduceSub, Int.reduceNeg, Nat.reduceAdd, Nat.reduceMul, Nat.reducePow, Int.reduceLT, Int.reduceLE, Int.reduceEq, Nat.reduceEqDiff, gV_u, ew]
 exact s1.trans s2
theorem P0_thr : 0 < thrI P0 5 1 ∧ thrI P0 5 1 ≤ 330000 ∧ boundI P0 5 1 ≤ 32 * thrI P0 5 1 ∧ 32 * (thrI P0 5 1 - 1) < boundI P0 5 1 := by
 have b := P0_bound
 have sr : 0 ≤ sumI 5 2 1 1 ∧ sumI 5 2 1 1 ≤ 8184 := sumI_range P0_ok.nums 1 1
 have e : (2 : Int) ^ (5 : Int).toNat = 32 := by decide
 unfold thrI
 rw [e]
 generalize boundI P0 5 1 = B at *
 omega
theorem P0_sure : sureB P0 5 1 = decide (32 * thrI P0 5 1 < 74112) := by
 have e : (2 : Int) ^ (5 : Int).toNat = 32 := by decide
 unfold sureB
 rw [e, P0_floor, Int.mul_comm]
theorem claimB_of {t pw m : Int} (h : t * t * m < pw) : claimB t pw m = true := decide_eq_true h
theorem claimB_not {t pw m : Int} (h : pw ≤ t * t * m) : claimB t pw m = false := decide_eq_false (by omega)
set_option maxRecDepth 20000 in
set_option maxHeartbeats 2000000 in
theorem known307_spec (hC : Has C T307) {h : Heap} : ACalls C 307 [] h (fun r h' => r = .bool true ∧ h' = h) := by
 refine ACalls.gc0 (P := fun r h' => r = .bool true ∧ HSub h h') ?_ (fun r h' hp => ⟨by rw [hp.1]; trivial, hp.2, hp.1, rfl⟩)
 have kp := fun H => plan325_spec (hC.sub (T' := T325) (by decide)) (h := H)
 have kg := fun H => gain326_spec (hC.sub (T' := T326) (by decide)) (h := H)
 have kw := fun H => awake312_spec (hC.sub (T' := T312) (by decide)) (h := H)
 have kb := fun H vp (R : RI H vp P0.prns) => Bound_spec (hC.sub (T' := T315) (by decide)) (h := H) (b := 8) (s := 5) (prn := 1) R P0_64
 have kb2 := fun H vp (R : RI H vp P0.prns) => Bound_spec (hC.sub (T' := T315) (by decide)) (h := H) (b := 8) (s := 5) (prn := 2) R P0_64
 have kb3 := fun H => Bound_spec (hC.sub (T' := T315) (by decide)) (h := H) (vp := .nilslice) (p := ⟨5, 2, 1, 2, 10, 10, 0, []⟩) (b := 8) (s := 5) (prn := 1) RI.nil ⟨P0_64.1, P0_64.2.1, P0_64.2.2.1, P0_64.2.2.2.1, P0_64.2.2.2.2.1, P0_64.2.2.2.2.2.1, P0_64.2.2.2.2.2.2.1, by simp⟩
 have kt := fun H vp (R : RI H vp P0.prns) => Threshold_spec (hC.sub (T' := T317) (by decide)) (h := H) (b := 8) (s := 5) (prn := 1) R P0_64
 have ku := fun H vp (R : RI H vp P0.prns) => Sure_spec (hC.sub (T' := T321) (by decide)) (h := H) (b := 8) (s := 5) (prn := 1) R P0_64
 have kc := fun H vp (R : RI H vp P0.prns) => Claims_spec (hC.sub (T' := T313) (by decide)) (h := H) (b := 8) (s := 5) (prn := 1) (pw := 0) (m := 0) R P0_64 (by unfold In64; decide) (by unfold In64; decide)
 have kx := fun pw m want H a b c d => claims327_spec (hC.sub (T' := T327) (by decide)) (h := H) (pw := pw) (m := m) (want := want) a b c d
 unfold claimE at kc
 unfold sureE at ku
 rw [P0_det.1, if_pos rfl] at kb kt ku kc
 rw [P0_det.2.1, if_neg (by decide)] at kb2
 rw [P0_det.2.2, if_neg (by decide)] at kb3
 rw [if_pos (by decide)] at kc
 rw [P0_sure] at ku
 have ft := P0_thr
 generalize thrI P0 5 1 = T at *
 generalize boundI P0 5 1 = B at *
 have tt := Int.mul_le_mul ft.2.1 ft.2.1 (show 0 ≤ T by omega) (by decide)
 have tt0 := Int.mul_nonneg (show 0 ≤ T by omega) (show 0 ≤ T by omega)
 have t3 : 3 * T * T = T * T * 3 := by grind
 have t3b : 0 ≤ 3 * T * T ∧ 3 * T * T ≤ 326700000000 := by rw [t3]; generalize T * T = q at *; omega
 have x1 := fun H => kx (T * T) 1 false H (by unfold In64; omega) (by decide) (by omega) (claimB_not (by omega))
 have x2 := fun H => kx (T * T + 1) 1 true H (by unfold In64; omega) (by decide) (by omega) (claimB_of (by omega))
 have x3 := fun H => kx (3 * T * T + 1) 3 true H (by unfold In64; omega) (by decide) (by omega) (claimB_of (by omega))
 clear kx
 (refine calls_intro (hC.body (by decide) tab307) (Nat.le_of_ble_eq_true rfl) ?_); (show wp C _ none B307.code _ _); (simp only [B307]); simp -implicitDefEqProofs (disch := first | assumption | decide | omega | (simp only [wpD1] <;> omega) | (simp only [wpD2] <;> assumption) | solve_by_elim [zR, zP, zV] | fail) only [↓wpPre, wpPost, wpPoly, Int.reduceToNat, Int.reducePow, Int.reduceMul, Int.reduceAdd, Int.reduceSub, Int.reduceNeg, Nat.reduceAdd, Nat.reduceMul, Nat.reducePow, Int.reduceLT, Int.reduceLE, Int.reduceEq, Nat.reduceEqDiff]
 refine ACallsK.of (kp _) ?_
 rintro r h1 ⟨s1, vp, rfl, R⟩
 simp -implicitDefEqProofs (disch := first | assumption | decide | omega | (simp only [wpD1] <;> omega) | (simp only [wpD2] <;> assumption) | solve_by_elim [zR, zP, zV] | fail) only [↓wpPre, wpPost, wpPoly, Int.reduceToNat, Int.reducePow, Int.reduceMul, Int.reduceAdd, Int.reduceSub, Int.reduceNeg, Nat.reduceAdd, Nat.reduceMul, Nat.reducePow, Int.reduceLT, Int.reduceLE, Int.reduceEq, Nat.reduceEqDiff]
 refine ACallsK.eq (kg _) ?_
 simp -implicitDefEqProofs (disch := first | assumption | decide | omega | (simp only [wpD1] <;> omega) | (simp only [wpD2] <;> assumption) | solve_by_elim [zR, zP, zV] | fail) only [↓wpPre, wpPost, wpPoly, Int.reduceToNat, Int.reducePow, Int.reduceMul, Int.reduceAdd, Int.reduceSub, Int.reduceNeg, Nat.reduceAdd, Nat.reduceMul, Nat.reducePow, Int.reduceLT, Int.reduceLE, Int.reduceEq, Nat.reduceEqDiff]
 refine ACallsK.of (kb _ _ R) ?_
 rintro r h2 ⟨rfl, s2⟩
 clear R
 simp -implicitDefEqProofs (disch := first | assumption | decide | omega | (simp only [wpD1] <;> omega) | (simp only [wpD2] <;> assumption) | solve_by_elim [zR, zP, zV] | fail) only [↓wpPre, wpPost, wpPoly, Int.reduceToNat, Int.reducePow, Int.reduceMul, Int.reduceAdd, Int.reduceSub, Int.reduceNeg, Nat.reduceAdd, Nat.reduceMul, Nat.reducePow, Int.reduceLT, Int.reduceLE, Int.reduceEq, Nat.reduceEqDiff, tup2]
 refine ACallsK.of (kp _) ?_
 rintro r h3 ⟨s3, vp, rfl, R⟩
 simp -implicitDefEqProofs (disch := first | assumption | decide | omega | (simp only [wpD1] <;> omega) | (simp only [wpD2] <;> assumption) | solve_by_elim [zR, zP, zV] | fail) only [↓wpPre, wpPost, wpPoly, Int.reduceToNat, Int.reducePow, Int.reduceMul, Int.reduceAdd, Int.reduceSub, Int.reduceNeg, Nat.reduceAdd, Nat.reduceMul, Nat.reducePow, Int.reduceLT, Int.reduceLE, Int.reduceEq, Nat.reduceEqDiff]
 refine ACallsK.eq (kg _) ?_
 simp -implicitDefEqProofs (disch := first | assumption | decide | omega | (simp only [wpD1] <;> omega) | (simp only [wpD2] <;> assumption) | solve_by_elim [zR, zP, zV] | fail) only [↓wpPre, wpPost, wpPoly, Int.reduceToNat, Int.reducePow, Int.reduceMul, Int.reduceAdd, Int.reduceSub, Int.reduceNeg, Nat.reduceAdd, Nat.reduceMul, Nat.reducePow, Int.reduceLT, Int.reduceLE, Int.reduceEq, Nat.reduceEqDiff]
 refine ACallsK.of (kt _ _ R) ?_
 rintro r h4 ⟨rfl, s4⟩
 clear R
 simp -implicitDefEqProofs (disch := first | assumption | decide | omega | (simp only [wpD1] <;> omega) | (simp only [wpD2] <;> assumption) | solve_by_elim [zR, zP, zV] | fail) only [↓wpPre, wpPost, wpPoly, Int.reduceToNat, Int.reducePow, Int.reduceMul, Int.reduceAdd, Int.reduceSub, Int.reduceNeg, Nat.reduceAdd, Nat.reduceMul, Nat.reducePow, Int.reduceLT, Int.reduceLE, Int.reduceEq, Nat.reduceEqDiff, tup2]
 refine ACallsK.of (kp _) ?_
 rintro r h5 ⟨s5, vp, rfl, R⟩
 simp -implicitDefEqProofs (disch := first | assumption | decide | omega | (simp only [wpD1] <;> omega) | (simp only [wpD2] <;> assumption) | solve_by_elim [zR, zP, zV] | fail) only [↓wpPre, wpPost, wpPoly, Int.reduceToNat, Int.reducePow, Int.reduceMul, Int.reduceAdd, Int.reduceSub, Int.reduceNeg, Nat.reduceAdd, Nat.reduceMul, Nat.reducePow, Int.reduceLT, Int.reduceLE, Int.reduceEq, Nat.reduceEqDiff]
 refine ACallsK.eq (kg _) ?_
 simp -implicitDefEqProofs (disch := first | assumption | decide | omega | (simp only [wpD1] <;> omega) | (simp only [wpD2] <;> assumption) | solve_by_elim [zR, zP, zV] | fail) only [↓wpPre, wpPost, wpPoly, Int.reduceToNat, Int.reducePow, Int.reduceMul, Int.reduceAdd, Int.reduceSub, Int.reduceNeg, Nat.reduceAdd, Nat.reduceMul, Nat.reducePow, Int.reduceLT, Int.reduceLE, Int.reduceEq, Nat.reduceEqDiff]
 refine ACallsK.of (ku _ _ R) ?_
 rintro r h6 ⟨rfl, s6⟩
 clear R
 have ew : (decide (32 * T < 74112) == decide (32 * T < 74112)) = true := by simp
 have f1 : B ≤ 32 * T := ft.2.2.1
 have f2 : 32 * (T - 1) < B := ft.2.2.2
 simp -implicitDefEqProofs (disch := first | assumption | decide | omega | (simp only [wpD1] <;> omega) | (simp only [wpD2] <;> assumption) | solve_by_elim [zR, zP, zV] | fail) only [↓wpPre, wpPost, wpPoly, Int.reduceToNat, Int.reducePow, Int.reduceMul, Int.reduceAdd, Int.reduceSub, Int.reduceNeg, Nat.reduceAdd, Nat.reduceMul, Nat.reducePow, Int.reduceLT, Int.reduceLE, Int.reduceEq, Nat.reduceEqDiff, gV_u, ew, f1, f2]
 refine ACallsK.of (kp _) ?_
 rintro r h7 ⟨s7, vp, rfl, R⟩
 simp -implicitDefEqProofs (disch := first | assumption | decide | omega | (simp only [wpD1] <;> omega) | (simp only [wpD2] <;> assumption) | solve_by_elim [zR, zP, zV] | fail) only [↓wpPre, wpPost, wpPoly, Int.reduceToNat, Int.reducePow, Int.reduceMul, Int.reduceAdd, Int.reduceSub, Int.reduceNeg, Nat.reduceAdd, Nat.reduceMul, Nat.reducePow, Int.reduceLT, Int.reduceLE, Int.reduceEq, Nat.reduceEqDiff]
 refine ACallsK.eq (kg _) ?_
 simp -implicitDefEqProofs (disch := first | assumption | decide | omega | (simp only [wpD1] <;> omega) | (simp only [wpD2] <;> assumption) | solve_by_elim [zR, zP, zV] | fail) only [↓wpPre, wpPost, wpPoly, Int.reduceToNat, Int.reducePow, Int.reduceMul, Int.reduceAdd, Int.reduceSub, Int.reduceNeg, Nat.reduceAdd, Nat.reduceMul, Nat.reducePow, Int.reduceLT, Int.reduceLE, Int.reduceEq, Nat.reduceEqDiff]
 refine ACallsK.of (kc _ _ R) ?_
 rintro r h8 ⟨rfl, s8⟩
 clear R
 simp -implicitDefEqProofs (disch := first | assumption | decide | omega | (simp only [wpD1] <;> omega) | (simp only [wpD2] <;> assumption) | solve_by_elim [zR, zP, zV] | fail) only [↓wpPre, wpPost, wpPoly, Int.reduceToNat, Int.reducePow, Int.reduceMul, Int.reduceAdd, Int.reduceSub, Int.reduceNeg, Nat.reduceAdd, Nat.reduceMul, Nat.reducePow, Int.reduceLT, Int.reduceLE, Int.reduceEq, Nat.reduceEqDiff]
 refine ACallsK.of (kp _) ?_
 rintro r h9 ⟨s9, vp, rfl, R⟩
 simp -implicitDefEqProofs (disch := first | assumption | decide | omega | (simp only [wpD1] <;> omega) | (simp only [wpD2] <;> assumption) | solve_by_elim [zR, zP, zV] | fail) only [↓wpPre, wpPost, wpPoly, Int.reduceToNat, Int.reducePow, Int.reduceMul, Int.reduceAdd, Int.reduceSub, Int.reduceNeg, Nat.reduceAdd, Nat.reduceMul, Nat.reducePow, Int.reduceLT, Int.reduceLE, Int.reduceEq, Nat.reduceEqDiff]
 refine ACallsK.eq (kg _) ?_
 simp -implicitDefEqProofs (disch := first | assumption | decide | omega | (simp only [wpD1] <;> omega) | (simp only [wpD2] <;> assumption) | solve_by_elim [zR, zP, zV] | fail) only [↓wpPre, wpPost, wpPoly, Int.reduceToNat, Int.reducePow, Int.reduceMul, Int.reduceAdd, Int.reduceSub, Int.reduceNeg, Nat.reduceAdd, Nat.reduceMul, Nat.reducePow, Int.reduceLT, Int.reduceLE, Int.reduceEq, Nat.reduceEqDiff]
 refine ACallsK.of (kb2 _ _ R) ?_
 rintro r h10 ⟨rfl, s10⟩
 clear R
 simp -implicitDefEqProofs (disch := first | assumption | decide | omega | (simp only [wpD1] <;> omega) | (simp only [wpD2] <;> assumption) | solve_by_elim [zR, zP, zV] | fail) only [↓wpPre, wpPost, wpPoly, Int.reduceToNat, Int.reducePow, Int.reduceMul, Int.reduceAdd, Int.reduceSub, Int.reduceNeg, Nat.reduceAdd, Nat.reduceMul, Nat.reducePow, Int.reduceLT, Int.reduceLE, Int.reduceEq, Nat.reduceEqDiff, tup2]
 refine ACallsK.of (kp _) ?_
 rintro r h11 ⟨s11, vp, rfl, R⟩
 have v1 := R.one
 clear R
 unfold plA P0
 simp -implicitDefEqProofs (disch := first | assumption | decide | omega | (simp only [wpD1] <;> omega) | (simp only [wpD2] <;> assumption) | solve_by_elim [zR, zP, zV] | fail) only [↓wpPre, wpPost, wpPoly, Int.reduceToNat, Int.reducePow, Int.reduceMul, Int.reduceAdd, Int.reduceSub, Int.reduceNeg, Nat.reduceAdd, Nat.reduceMul, Nat.reducePow, Int.reduceLT, Int.reduceLE, Int.reduceEq, Nat.reduceEqDiff]
 refine ACallsK.eq (kg _) ?_
 unfold plA at kb3
 simp -implicitDefEqProofs (disch := first | assumption | decide | omega | (simp only [wpD1] <;> omega) | (simp only [wpD2] <;> assumption) | solve_by_elim [zR, zP, zV] | fail) only [↓wpPre, wpPost, wpPoly, Int.reduceToNat, Int.reducePow, Int.reduceMul, Int.reduceAdd, Int.reduceSub, Int.reduceNeg, Nat.reduceAdd, Nat.reduceMul, Nat.reducePow, Int.reduceLT, Int.reduceLE, Int.reduceEq, Nat.reduceEqDiff]
 refine ACallsK.of (kb3 _) ?_
 rintro r h12 ⟨rfl, s12⟩
 simp -implicitDefEqProofs (disch := first | assumption | decide | omega | (simp only [wpD1] <;> omega) | (simp only [wpD2] <;> assumption) | solve_by_elim [zR, zP, zV] | fail) only [↓wpPre, wpPost, wpPoly, Int.reduceToNat, Int.reducePow, Int.reduceMul, Int.reduceAdd, Int.reduceSub, Int.reduceNeg, Nat.reduceAdd, Nat.reduceMul, Nat.reducePow, Int.reduceLT, Int.reduceLE, Int.reduceEq, Nat.reduceEqDiff, tup2]
 refine ACallsK.eq (kw _) ?_
 simp -implicitDefEqProofs (disch := first | assumption | decide | omega | (simp only [wpD1] <;> omega) | (simp only [wpD2] <;> assumption) | solve_by_elim [zR, zP, zV] | fail) only [↓wpPre, wpPost, wpPoly, Int.reduceToNat, Int.reducePow, Int.reduceMul, Int.reduceAdd, Int.reduceSub, Int.reduceNeg, Nat.reduceAdd, Nat.reduceMul, Nat.reducePow, Int.reduceLT, Int.reduceLE, Int.reduceEq, Nat.reduceEqDiff, gV_u]
 refine ACallsK.eq (x1 _) ?_
 simp -implicitDefEqProofs (disch := first | assumption | decide | omega | (simp only [wpD1] <;> omega) | (simp only [wpD2] <;> assumption) | solve_by_elim [zR, zP, zV] | fail) only [↓wpPre, wpPost, wpPoly, Int.reduceToNat, Int.reducePow, Int.reduceMul, Int.reduceAdd, Int.reduceSub, Int.reduceNeg, Nat.reduceAdd, Nat.reduceMul, Nat.reducePow, Int.reduceLT, Int.reduceLE, Int.reduceEq, Nat.reduceEqDiff, gV_u]
 refine ACallsK.eq (x2 _) ?_
 simp -implicitDefEqProofs (disch := first | assumption | decide | omega | (simp only [wpD1] <;> omega) | (simp only [wpD2] <;> assumption) | solve_by_elim [zR, zP, zV] | fail) only [↓wpPre, wpPost, wpPoly, Int.reduceToNat, Int.reducePow, Int.reduceMul, Int.reduceAdd, Int.reduceSub, Int.reduceNeg, Nat.reduceAdd, Nat.reduceMul, Nat.reducePow, Int.reduceLT, Int.reduceLE, Int.reduceEq, Nat.reduceEqDiff, gV_u]
 refine ACallsK.eq (x3 _) ?_
 simp -implicitDefEqProofs (disch := first | assumption | decide | omega | (simp only [wpD1] <;> omega) | (simp only [wpD2] <;> assumption) | solve_by_elim [zR, zP, zV] | fail) only [↓wpPre, wpPost, wpPoly, Int.reduceToNat, Int.reducePow, Int.reduceMul, Int.reduceAdd, Int.reduceSub, Int.reduceNeg, Nat.reduceAdd, Nat.reduceMul, Nat.reducePow, Int.reduceLT, Int.reduceLE, Int.reduceEq, Nat.reduceEqDiff, gV_u]
 exact (show HSub h _ from (by repeat (first | exact ((((((((((s1.trans s2).trans s3).trans s4).trans s5).trans s6).trans s7).trans s8).trans s9).trans s10).trans s11) | refine HSub.put ?_ (by (try simp only [Heap.size_put, Heap.size_push, Heap.size_reserve]); omega) _ | refine HSub.push ?_ _ | refine HSub.reserve ?_ _))).trans s12
end
end Go.Ae
/- A list that is appended to an empty one. -/
set_option linter.unusedSimpArgs false
set_option linter.unusedVariables false
namespace Go.Ae
def copyV (l : List Int) (H : Heap) (i : Nat) : AV := if l.length = 0 then .slice i 0 0 (.known 0) else .slice H.size 0 l.length (.unk 0)
def copyH (l : List Int) (H : Heap) : Heap := if l.length = 0 then H else H.push (.cells (ints l) true 1)
theorem copy_app {l : List Int} {H : Heap} {i : Nat} (hg : H.get i = some (.cells [] true 0)) (hl : l.length ≤ 1000) : appendA H none 1 8 (.slice i 0 0 (.known 0)) l.length (ints l) = some (copyV l H i, copyH l H) := by
 unfold copyV copyH
 by_cases c : l.length = 0
 ·rw [if_pos c, if_pos c, c]
  simp [appendA, hg]
 ·rw [if_neg c, if_neg c]
  simp only [appendA, if_neg c, hg]
  rw [if_pos (by simp), if_neg (by omega), if_pos ⟨by omega, rfl⟩]
  simp [cut, Heap.nid, Heap.new]
theorem copyH_sub (l : List Int) (H : Heap) : HSub H (copyH l H) := by
 unfold copyH
 split
 ·exact HSub.refl _
 ·exact HSub.push1 _ _
theorem copy_ri {l : List Int} {H : Heap} {i : Nat} (hg : H.get i = some (.cells [] true 0)) (hl : l.length ≤ 1000) : RI (copyH l H) (copyV l H i) l := by
 unfold copyV copyH
 by_cases c : l.length = 0
 ·rw [if_pos c, if_pos c, List.eq_nil_of_length_eq_zero c]
  exact RI.known (wr := true) (u := 0) (by rw [hg]; rfl) ⟨by simp, by omega⟩ (Nat.le_refl _)
 ·rw [if_neg c, if_neg c]
  have g : GrwI Heap.empty (H.push (.cells (ints l) true 1)) (.slice H.size 0 l.length (.unk 0)) l :=
   ⟨⟨Nat.zero_le _, fun i hi => absurd hi (Nat.not_lt_zero i)⟩, by simp [ints], by omega, .inr ⟨H.size, [], Nat.zero_le _, rfl, by rw [List.append_nil, Heap.get_push, if_pos rfl]⟩⟩
  exact g.ri
end Go.Ae
/- The statement on bounds, thresholds and floors, of layer 15. -/
set_option linter.unusedSimpArgs false
set_option linter.unusedVariables false
namespace Go.Ae
theorem one_cells {v : AV} (h : v.one = true) : v.cells = [v] := by cases v <;> first | rfl | cases h
theorem RI.putI {h : Heap} {v : AV} {l : List Int} {i : Nat} {b : ABlk} (H : RI h v l) (hd : ∀ j ∈ v.ids, j ≠ i) : RI (h.put i b) v l := by
 obtain ⟨hl, hn, ⟨rfl, h1⟩ | ⟨j, o, c, ws, wr, u, rfl, hg, h2⟩⟩ := H
 ·exact ⟨hl, hn, .inl ⟨rfl, h1⟩⟩
 ·exact ⟨hl, hn, .inr ⟨j, o, c, ws, wr, u, rfl, (get_put_ne (hd j (by simp [AV.ids]))).trans hg, h2⟩⟩
section
variable {C : Ctx}
set_option maxRecDepth 20000 in
set_option maxHeartbeats 4000000 in
theorem DetectBounds_law (hC : Has C T306) {d o pb w mn mx nz b s prn : Int} {vp : AV} {l : List Int} {h : Heap} (i1 : In64 d) (i2 : In64 o) (i3 : In64 pb) (i4 : In64 w) (i5 : In64 mn) (i6 : In64 mx) (i7 : In64 nz) (R : RI h vp l) (_i8 : In64 b) (_i9 : In64 s) (_i10 : In64 prn) (hx : ∀ x ∈ l, In64 x) :
  ACalls C 306 [.agg [.int .i64 d, .int .i64 o, .int .i64 pb, .int .i64 w, .int .i64 mn, .int .i64 mx, .int .i64 nz, vp], .agg [.int .i64 b, .int .i64 s], .int .i64 prn] h (fun r _ => r = .bool true) := by
 have xp : ∃ p : PlanP, p = ⟨d, o, pb, w, mn, mx, nz, l⟩ := ⟨_, rfl⟩
 obtain ⟨p, hp⟩ := xp
 have h64 : p.ok64 := by rw [hp]; exact ⟨i1, i2, i3, i4, i5, i6, i7, hx⟩
 have v1 := R.one
 have pl : p.prns = l := by rw [hp]
 have kl := fun H (R1 : RI H vp l) => large311_spec (hC.sub (T' := T311) (by decide)) (h := H) (p := p) (vp := vp) (by rw [pl]; exact R1)
 have kw := fun H => awake312_spec (hC.sub (T' := T312) (by decide)) (h := H)
 have b1 := fun H va (R1 : RI H va l) => Bound_spec (hC.sub (T' := T315) (by decide)) (h := H) (b := b) (s := s) (prn := prn) (vp := va) (p := p) (by rw [pl]; exact R1) h64
 have b2 := fun H va (R1 : RI H va l) => BoundR_spec (hC.sub (T' := T316) (by decide)) (h := H) (b := b) (s := s) (prn := prn) (vp := va) (p := p) (by rw [pl]; exact R1) h64
 have t1 := fun H va (R1 : RI H va l) => Threshold_spec (hC.sub (T' := T317) (by decide)) (h := H) (b := b) (s := s) (prn := prn) (vp := va) (p := p) (by rw [pl]; exact R1) h64
 have t2 := fun H va (R1 : RI H va l) => ThresholdR_spec (hC.sub (T' := T318) (by decide)) (h := H) (b := b) (s := s) (prn := prn) (vp := va) (p := p) (by rw [pl]; exact R1) h64
 have f1 := fun H va (R1 : RI H va l) => Floor_spec (hC.sub (T' := T319) (by decide)) (h := H) (b := b) (s := s) (prn := prn) (vp := va) (p := p) (by rw [pl]; exact R1) h64
 have f2 := fun H va (R1 : RI H va l) => FloorR_spec (hC.sub (T' := T320) (by decide)) (h := H) (b := b) (s := s) (prn := prn) (vp := va) (p := p) (by rw [pl]; exact R1) h64
 have u1 := fun H va (R1 : RI H va l) => Sure_spec (hC.sub (T' := T321) (by decide)) (h := H) (b := b) (s := s) (prn := prn) (vp := va) (p := p) (by rw [pl]; exact R1) h64
 have u2 := fun H va (R1 : RI H va l) => SureR_spec (hC.sub (T' := T322) (by decide)) (h := H) (b := b) (s := s) (prn := prn) (vp := va) (p := p) (by rw [pl]; exact R1) h64
 have l1 := fun H va (R1 : RI H va l) => Thresholds_spec (hC.sub (T' := T323) (by decide)) (h := H) (b := b) (s := s) (vp := va) (p := p) (by rw [pl]; exact R1) h64
 have l2 := fun H va (R1 : RI H va l) => ThresholdsR_spec (hC.sub (T' := T324) (by decide)) (h := H) (b := b) (s := s) (vp := va) (p := p) (by rw [pl]; exact R1) h64
 have ke := fun H va vb (x y : List Int) (Ra : RI H va x) (Rb : RI H vb y) => Equal_spec (hC.sub (T' := T12) (by decide)) (h := H) Ra Rb
 have two : ∀ x : Int, ∃ u v, (if detErr p b s prn = 0 then tup2 x 0 else tup2 0 (detErr p b s prn)) = .tuple [.int .i64 u, .int .i64 v] := fun x => by split <;> exact ⟨_, _, rfl⟩
 have x1 := two (boundI p s prn)
 have x2 := two (thrI p s prn)
 have x3 := two (floorI p s prn)
 obtain ⟨q1, q2, x1⟩ := x1
 obtain ⟨q3, q4, x2⟩ := x2
 obtain ⟨q5, q6, x3⟩ := x3
 have x4 : ∃ u v, sureE p b s prn = .tuple [.bool u, .int .i64 v] := by unfold sureE; split <;> exact ⟨_, _, rfl⟩
 obtain ⟨q7, q8, x4⟩ := x4
 rw [x1] at b1 b2
 rw [x2] at t1 t2
 rw [x3] at f1 f2
 rw [x4] at u1 u2
 clear x1 x2 x3 x4 two
 have lar : largeB p = false → l.length ≤ 1000 := fun c => by
  unfold largeB at c
  rw [decide_eq_false_iff_not, pl] at c
  omega
 generalize (if askErr p b s = 0 then thrK p s p.prns p.prns.length else []) = LL at *
 generalize askErr p b s = AE at *
 unfold plA gA at *
 by_cases c : largeB p = true
 ·rw [c] at kl
  subst hp
  (refine calls_intro (hC.body (by decide) tab306) (Nat.le_of_ble_eq_true rfl) ?_); (show wp C _ none B306.code _ _); (simp only [B306]); simp -implicitDefEqProofs (disch := first | assumption | decide | omega | (simp only [wpD1] <;> omega) | (simp only [wpD2] <;> assumption) | solve_by_elim [zR, zP, zV] | fail) only [↓wpPre, wpPost, wpPoly, Int.reduceToNat, Int.reducePow, Int.reduceMul, Int.reduceAdd, Int.reduceSub, Int.reduceNeg, Nat.reduceAdd, Nat.reduceMul, Nat.reducePow, Int.reduceLT, Int.reduceLE, Int.reduceEq, Nat.reduceEqDiff]
  refine ACallsK.eq (kl _ (R.mono (by repeat (first | exact HSub.refl h | refine HSub.put ?_ (by (try simp only [Heap.size_put, Heap.size_push, Heap.size_reserve]); omega) _ | refine HSub.push ?_ _ | refine HSub.reserve ?_ _)))) ?_
  simp -implicitDefEqProofs (disch := first | assumption | decide | omega | (simp only [wpD1] <;> omega) | (simp only [wpD2] <;> assumption) | solve_by_elim [zR, zP, zV] | fail) only [↓wpPre, wpPost, wpPoly, Int.reduceToNat, Int.reducePow, Int.reduceMul, Int.reduceAdd, Int.reduceSub, Int.reduceNeg, Nat.reduceAdd, Nat.reduceMul, Nat.reducePow, Int.reduceLT, Int.reduceLE, Int.reduceEq, Nat.reduceEqDiff]
  refine ACallsK.eq (kw _) ?_
  simp -implicitDefEqProofs (disch := first | assumption | decide | omega | (simp only [wpD1] <;> omega) | (simp only [wpD2] <;> assumption) | solve_by_elim [zR, zP, zV] | fail) only [↓wpPre, wpPost, wpPoly, Int.reduceToNat, Int.reducePow, Int.reduceMul, Int.reduceAdd, Int.reduceSub, Int.reduceNeg, Nat.reduceAdd, Nat.reduceMul, Nat.reducePow, Int.reduceLT, Int.reduceLE, Int.reduceEq, Nat.reduceEqDiff]
 ·have c := Bool.eq_false_iff.2 c
  rw [c] at kl
  have l1000 := lar c
  subst hp
  clear lar h64 c pl
  dsimp only at *
  have eq7 : (q7 == q7) = true := by simp
  have dl : decide (l = l) = true := by simp
  have dL : decide (LL = LL) = true := by simp
  have cR := R.mono (show HSub h ((((h.push (.cells [.int .i64 d, .int .i64 o, .int .i64 pb, .int .i64 w, .int .i64 mn, .int .i64 mx, .int .i64 nz, vp] true 0)).push (.cells [.int .i64 b, .int .i64 s] true 0)).push (.cells [.int .i64 d, .int .i64 o, .int .i64 pb, .int .i64 w, .int .i64 mn, .int .i64 mx, .int .i64 nz, vp] true 0)).push (.cells [] true 0)) from (by repeat (first | exact HSub.refl h | refine HSub.put ?_ (by (try simp only [Heap.size_put, Heap.size_push, Heap.size_reserve]); omega) _ | refine HSub.push ?_ _ | refine HSub.reserve ?_ _)))
  have gE := get_push_eq (h := (((h.push (.cells [.int .i64 d, .int .i64 o, .int .i64 pb, .int .i64 w, .int .i64 mn, .int .i64 mx, .int .i64 nz, vp] true 0)).push (.cells [.int .i64 b, .int .i64 s] true 0)).push (.cells [.int .i64 d, .int .i64 o, .int .i64 pb, .int .i64 w, .int .i64 mn, .int .i64 mx, .int .i64 nz, vp] true 0))) (b := .cells [] true 0) rfl
  have cp := copy_app (l := l) gE l1000
  have cr := copy_ri (l := l) gE l1000
  have cs := copyH_sub l ((((h.push (.cells [.int .i64 d, .int .i64 o, .int .i64 pb, .int .i64 w, .int .i64 mn, .int .i64 mx, .int .i64 nz, vp] true 0)).push (.cells [.int .i64 b, .int .i64 s] true 0)).push (.cells [.int .i64 d, .int .i64 o, .int .i64 pb, .int .i64 w, .int .i64 mn, .int .i64 mx, .int .i64 nz, vp] true 0)).push (.cells [] true 0))
  have cc := cR.content
  have zc := cs.size
  have g3 := (cs.get h.size (by simp only [Heap.size_push]; omega)).trans (show _ = some (ABlk.cells [.int .i64 d, .int .i64 o, .int .i64 pb, .int .i64 w, .int .i64 mn, .int .i64 mx, .int .i64 nz, vp] true 0) by simp -implicitDefEqProofs (disch := first | assumption | decide | omega | (simp only [wpD1] <;> omega) | (simp only [wpD2] <;> assumption) | solve_by_elim [zR, zP, zV] | fail) only [↓wpPre, wpPost, wpPoly, Int.reduceToNat, Int.reducePow, Int.reduceMul, Int.reduceAdd, Int.reduceSub, Int.reduceNeg, Nat.reduceAdd, Nat.reduceMul, Nat.reducePow, Int.reduceLT, Int.reduceLE, Int.reduceEq, Nat.reduceEqDiff])
  have g4 := (cs.get (h.size + 1) (by simp only [Heap.size_push]; omega)).trans (show _ = some (ABlk.cells [.int .i64 b, .int .i64 s] true 0) by simp -implicitDefEqProofs (disch := first | assumption | decide | omega | (simp only [wpD1] <;> omega) | (simp only [wpD2] <;> assumption) | solve_by_elim [zR, zP, zV] | fail) only [↓wpPre, wpPost, wpPoly, Int.reduceToNat, Int.reducePow, Int.reduceMul, Int.reduceAdd, Int.reduceSub, Int.reduceNeg, Nat.reduceAdd, Nat.reduceMul, Nat.reducePow, Int.reduceLT, Int.reduceLE, Int.reduceEq, Nat.reduceEqDiff])
  have g7 := (cs.get (h.size + 2) (by simp only [Heap.size_push]; omega)).trans (show _ = some (ABlk.cells [.int .i64 d, .int .i64 o, .int .i64 pb, .int .i64 w, .int .i64 mn, .int .i64 mx, .int .i64 nz, vp] true 0) by simp -implicitDefEqProofs (disch := first | assumption | decide | omega | (simp only [wpD1] <;> omega) | (simp only [wpD2] <;> assumption) | solve_by_elim [zR, zP, zV] | fail) only [↓wpPre, wpPost, wpPoly, Int.reduceToNat, Int.reducePow, Int.reduceMul, Int.reduceAdd, Int.reduceSub, Int.reduceNeg, Nat.reduceAdd, Nat.reduceMul, Nat.reducePow, Int.reduceLT, Int.reduceLE, Int.reduceEq, Nat.reduceEqDiff])
  have xv : ∃ vc, vc = copyV l ((((h.push (.cells [.int .i64 d, .int .i64 o, .int .i64 pb, .int .i64 w, .int .i64 mn, .int .i64 mx, .int .i64 nz, vp] true 0)).push (.cells [.int .i64 b, .int .i64 s] true 0)).push (.cells [.int .i64 d, .int .i64 o, .int .i64 pb, .int .i64 w, .int .i64 mn, .int .i64 mx, .int .i64 nz, vp] true 0)).push (.cells [] true 0)) (h.size + 3) := ⟨_, rfl⟩
  obtain ⟨vc, hvc⟩ := xv
  have xh : ∃ Hc, Hc = copyH l ((((h.push (.cells [.int .i64 d, .int .i64 o, .int .i64 pb, .int .i64 w, .int .i64 mn, .int .i64 mx, .int .i64 nz, vp] true 0)).push (.cells [.int .i64 b, .int .i64 s] true 0)).push (.cells [.int .i64 d, .int .i64 o, .int .i64 pb, .int .i64 w, .int .i64 mn, .int .i64 mx, .int .i64 nz, vp] true 0)).push (.cells [] true 0)) := ⟨_, rfl⟩
  obtain ⟨Hc, hHc⟩ := xh
  simp only [Heap.size_push, Nat.add_assoc, Nat.reduceAdd] at cp cr zc
  rw [← hHc] at cp cr cs g3 g4 g7 zc
  rw [← hvc] at cp cr
  have cR2 := R.mono ((show HSub h _ from (by repeat (first | exact HSub.refl h | refine HSub.put ?_ (by (try simp only [Heap.size_put, Heap.size_push, Heap.size_reserve]); omega) _ | refine HSub.push ?_ _ | refine HSub.reserve ?_ _))).trans cs)
  have hs2 := (show HSub h _ from (by repeat (first | exact HSub.refl h | refine HSub.put ?_ (by (try simp only [Heap.size_put, Heap.size_push, Heap.size_reserve]); omega) _ | refine HSub.push ?_ _ | refine HSub.reserve ?_ _))).trans cs
  have vid : ∀ j ∈ vc.ids, h.size + 3 ≤ j := by
   rw [hvc]; unfold copyV
   split <;> simp [AV.ids]
  clear cs hHc hvc cR gE
  have vc1 := cr.one
  (refine calls_intro (hC.body (by decide) tab306) (Nat.le_of_ble_eq_true rfl) ?_); (show wp C _ none B306.code _ _); (simp only [B306]); simp -implicitDefEqProofs (disch := first | assumption | decide | omega | (simp only [wpD1] <;> omega) | (simp only [wpD2] <;> assumption) | solve_by_elim [zR, zP, zV] | fail) only [↓wpPre, wpPost, wpPoly, Int.reduceToNat, Int.reducePow, Int.reduceMul, Int.reduceAdd, Int.reduceSub, Int.reduceNeg, Nat.reduceAdd, Nat.reduceMul, Nat.reducePow, Int.reduceLT, Int.reduceLE, Int.reduceEq, Nat.reduceEqDiff]
  refine ACallsK.eq (kl _ (R.mono (by repeat (first | exact HSub.refl h | refine HSub.put ?_ (by (try simp only [Heap.size_put, Heap.size_push, Heap.size_reserve]); omega) _ | refine HSub.push ?_ _ | refine HSub.reserve ?_ _)))) ?_
  have vcc : vc.cells = [vc] := one_cells vc1
  have zH : h.size + 2 < Hc.size := by omega
  simp -implicitDefEqProofs (disch := first | assumption | decide | omega | (simp only [wpD1] <;> omega) | (simp only [wpD2] <;> assumption) | solve_by_elim [zR, zP, zV] | fail) only [↓wpPre, wpPost, wpPoly, Int.reduceToNat, Int.reducePow, Int.reduceMul, Int.reduceAdd, Int.reduceSub, Int.reduceNeg, Nat.reduceAdd, Nat.reduceMul, Nat.reducePow, Int.reduceLT, Int.reduceLE, Int.reduceEq, Nat.reduceEqDiff, cc, cp, g3, g4, g7]
  refine ACallsK.hide (fun Hd hHd => ?_)
  have d3 : Hd.get h.size = some (.cells [.int .i64 d, .int .i64 o, .int .i64 pb, .int .i64 w, .int .i64 mn, .int .i64 mx, .int .i64 nz, vp] true 0) := by rw [hHd]; simp -implicitDefEqProofs (disch := first | assumption | decide | omega | (simp only [wpD1] <;> omega) | (simp only [wpD2] <;> assumption) | solve_by_elim [zR, zP, zV] | fail) only [↓wpPre, wpPost, wpPoly, Int.reduceToNat, Int.reducePow, Int.reduceMul, Int.reduceAdd, Int.reduceSub, Int.reduceNeg, Nat.reduceAdd, Nat.reduceMul, Nat.reducePow, Int.reduceLT, Int.reduceLE, Int.reduceEq, Nat.reduceEqDiff, g3]
  have d4 : Hd.get (h.size + 1) = some (.cells [.int .i64 b, .int .i64 s] true 0) := by rw [hHd]; simp -implicitDefEqProofs (disch := first | assumption | decide | omega | (simp only [wpD1] <;> omega) | (simp only [wpD2] <;> assumption) | solve_by_elim [zR, zP, zV] | fail) only [↓wpPre, wpPost, wpPoly, Int.reduceToNat, Int.reducePow, Int.reduceMul, Int.reduceAdd, Int.reduceSub, Int.reduceNeg, Nat.reduceAdd, Nat.reduceMul, Nat.reducePow, Int.reduceLT, Int.reduceLE, Int.reduceEq, Nat.reduceEqDiff, g4]
  have d7 : Hd.get (h.size + 2) = some (.cells [.int .i64 d, .int .i64 o, .int .i64 pb, .int .i64 w, .int .i64 mn, .int .i64 mx, .int .i64 nz, vc] true 0) := by rw [hHd]; simp -implicitDefEqProofs (disch := first | assumption | decide | omega | (simp only [wpD1] <;> omega) | (simp only [wpD2] <;> assumption) | solve_by_elim [zR, zP, zV] | fail) only [↓wpPre, wpPost, wpPoly, Int.reduceToNat, Int.reducePow, Int.reduceMul, Int.reduceAdd, Int.reduceSub, Int.reduceNeg, Nat.reduceAdd, Nat.reduceMul, Nat.reducePow, Int.reduceLT, Int.reduceLE, Int.reduceEq, Nat.reduceEqDiff]
  have Rd : RI Hd vp l := by rw [hHd]; exact R.mono (by repeat (first | exact hs2 | refine HSub.put ?_ (by (try simp only [Heap.size_put, Heap.size_push, Heap.size_reserve]); omega) _ | refine HSub.push ?_ _ | refine HSub.reserve ?_ _))
  have Cd : RI Hd vc l := by rw [hHd]; exact cr.putI (fun j hj => by have := vid j hj; omega)
  have zd : Hd.size = Hc.size := by rw [hHd]; rfl
  clear hHd cr cR2 g3 g4 g7 cp cc
  refine ACallsK.of (b1 _ _ Cd) ?_
  rintro r h1 ⟨rfl, s1⟩
  have K3 := fun {H : Heap} (q : HSub Hd H) => (q.get h.size (by omega)).trans d3
  have K4 := fun {H : Heap} (q : HSub Hd H) => (q.get (h.size + 1) (by omega)).trans d4
  have K7 := fun {H : Heap} (q : HSub Hd H) => (q.get (h.size + 2) (by omega)).trans d7
  simp -implicitDefEqProofs (disch := first | assumption | decide | omega | (simp only [wpD1] <;> omega) | (simp only [wpD2] <;> assumption) | solve_by_elim [zR, zP, zV] | fail) only [↓wpPre, wpPost, wpPoly, Int.reduceToNat, Int.reducePow, Int.reduceMul, Int.reduceAdd, Int.reduceSub, Int.reduceNeg, Nat.reduceAdd, Nat.reduceMul, Nat.reducePow, Int.reduceLT, Int.reduceLE, Int.reduceEq, Nat.reduceEqDiff, K3 s1, K4 s1]
  refine ACallsK.eq (b2 _ _ (Rd.mono s1)) ?_
  simp -implicitDefEqProofs (disch := first | assumption | decide | omega | (simp only [wpD1] <;> omega) | (simp only [wpD2] <;> assumption) | solve_by_elim [zR, zP, zV] | fail) only [↓wpPre, wpPost, wpPoly, Int.reduceToNat, Int.reducePow, Int.reduceMul, Int.reduceAdd, Int.reduceSub, Int.reduceNeg, Nat.reduceAdd, Nat.reduceMul, Nat.reducePow, Int.reduceLT, Int.reduceLE, Int.reduceEq, Nat.reduceEqDiff, K4 s1, K7 s1]
  refine ACallsK.of (t1 _ _ (Cd.mono s1)) ?_
  rintro r h2 ⟨rfl, s2⟩
  have s2 := s1.trans s2
  simp -implicitDefEqProofs (disch := first | assumption | decide | omega | (simp only [wpD1] <;> omega) | (simp only [wpD2] <;> assumption) | solve_by_elim [zR, zP, zV] | fail) only [↓wpPre, wpPost, wpPoly, Int.reduceToNat, Int.reducePow, Int.reduceMul, Int.reduceAdd, Int.reduceSub, Int.reduceNeg, Nat.reduceAdd, Nat.reduceMul, Nat.reducePow, Int.reduceLT, Int.reduceLE, Int.reduceEq, Nat.reduceEqDiff, K3 s2, K4 s2]
  refine ACallsK.eq (t2 _ _ (Rd.mono s2)) ?_
  simp -implicitDefEqProofs (disch := first | assumption | decide | omega | (simp only [wpD1] <;> omega) | (simp only [wpD2] <;> assumption) | solve_by_elim [zR, zP, zV] | fail) only [↓wpPre, wpPost, wpPoly, Int.reduceToNat, Int.reducePow, Int.reduceMul, Int.reduceAdd, Int.reduceSub, Int.reduceNeg, Nat.reduceAdd, Nat.reduceMul, Nat.reducePow, Int.reduceLT, Int.reduceLE, Int.reduceEq, Nat.reduceEqDiff, K4 s2, K7 s2]
  refine ACallsK.of (f1 _ _ (Cd.mono s2)) ?_
  rintro r h3 ⟨rfl, s3⟩
  have s3 := s2.trans s3
  simp -implicitDefEqProofs (disch := first | assumption | decide | omega | (simp only [wpD1] <;> omega) | (simp only [wpD2] <;> assumption) | solve_by_elim [zR, zP, zV] | fail) only [↓wpPre, wpPost, wpPoly, Int.reduceToNat, Int.reducePow, Int.reduceMul, Int.reduceAdd, Int.reduceSub, Int.reduceNeg, Nat.reduceAdd, Nat.reduceMul, Nat.reducePow, Int.reduceLT, Int.reduceLE, Int.reduceEq, Nat.reduceEqDiff, K3 s3, K4 s3]
  refine ACallsK.eq (f2 _ _ (Rd.mono s3)) ?_
  simp -implicitDefEqProofs (disch := first | assumption | decide | omega | (simp only [wpD1] <;> omega) | (simp only [wpD2] <;> assumption) | solve_by_elim [zR, zP, zV] | fail) only [↓wpPre, wpPost, wpPoly, Int.reduceToNat, Int.reducePow, Int.reduceMul, Int.reduceAdd, Int.reduceSub, Int.reduceNeg, Nat.reduceAdd, Nat.reduceMul, Nat.reducePow, Int.reduceLT, Int.reduceLE, Int.reduceEq, Nat.reduceEqDiff, K4 s3, K7 s3, gV_u]
  refine ACallsK.of (u1 _ _ (Cd.mono s3)) ?_
  rintro r h4 ⟨rfl, s4⟩
  have s4 := s3.trans s4
  simp -implicitDefEqProofs (disch := first | assumption | decide | omega | (simp only [wpD1] <;> omega) | (simp only [wpD2] <;> assumption) | solve_by_elim [zR, zP, zV] | fail) only [↓wpPre, wpPost, wpPoly, Int.reduceToNat, Int.reducePow, Int.reduceMul, Int.reduceAdd, Int.reduceSub, Int.reduceNeg, Nat.reduceAdd, Nat.reduceMul, Nat.reducePow, Int.reduceLT, Int.reduceLE, Int.reduceEq, Nat.reduceEqDiff, K3 s4, K4 s4]
  refine ACallsK.eq (u2 _ _ (Rd.mono s4)) ?_
  simp -implicitDefEqProofs (disch := first | assumption | decide | omega | (simp only [wpD1] <;> omega) | (simp only [wpD2] <;> assumption) | solve_by_elim [zR, zP, zV] | fail) only [↓wpPre, wpPost, wpPoly, Int.reduceToNat, Int.reducePow, Int.reduceMul, Int.reduceAdd, Int.reduceSub, Int.reduceNeg, Nat.reduceAdd, Nat.reduceMul, Nat.reducePow, Int.reduceLT, Int.reduceLE, Int.reduceEq, Nat.reduceEqDiff, K4 s4, K7 s4]
  refine ACallsK.of (l1 _ _ (Cd.mono s4)) ?_
  rintro r h5 ⟨w1, rfl, s5, W1⟩
  have s5' := s4.trans s5
  simp -implicitDefEqProofs (disch := first | assumption | decide | omega | (simp only [wpD1] <;> omega) | (simp only [wpD2] <;> assumption) | solve_by_elim [zR, zP, zV] | fail) only [↓wpPre, wpPost, wpPoly, Int.reduceToNat, Int.reducePow, Int.reduceMul, Int.reduceAdd, Int.reduceSub, Int.reduceNeg, Nat.reduceAdd, Nat.reduceMul, Nat.reducePow, Int.reduceLT, Int.reduceLE, Int.reduceEq, Nat.reduceEqDiff, K3 s5', K4 s5', lstErr]
  refine ACallsK.of (l2 _ _ (Rd.mono s5')) ?_
  rintro r h6 ⟨w2, rfl, s6, W2⟩
  have s6' := s5'.trans s6
  simp -implicitDefEqProofs (disch := first | assumption | decide | omega | (simp only [wpD1] <;> omega) | (simp only [wpD2] <;> assumption) | solve_by_elim [zR, zP, zV] | fail) only [↓wpPre, wpPost, wpPoly, Int.reduceToNat, Int.reducePow, Int.reduceMul, Int.reduceAdd, Int.reduceSub, Int.reduceNeg, Nat.reduceAdd, Nat.reduceMul, Nat.reducePow, Int.reduceLT, Int.reduceLE, Int.reduceEq, Nat.reduceEqDiff, K3 s6', K4 s6', K7 s6', lstErr, gV_u, eq7]
  refine ACallsK.eq2 (ke _ _ _ _ _ (W1.mono s6) W2) (congrArg AV.bool dL) ?_
  simp -implicitDefEqProofs (disch := first | assumption | decide | omega | (simp only [wpD1] <;> omega) | (simp only [wpD2] <;> assumption) | solve_by_elim [zR, zP, zV] | fail) only [↓wpPre, wpPost, wpPoly, Int.reduceToNat, Int.reducePow, Int.reduceMul, Int.reduceAdd, Int.reduceSub, Int.reduceNeg, Nat.reduceAdd, Nat.reduceMul, Nat.reducePow, Int.reduceLT, Int.reduceLE, Int.reduceEq, Nat.reduceEqDiff, K3 s6', K4 s6', K7 s6', gV_u, eq7]
  refine ACallsK.eq2 (ke _ _ _ _ _ (Cd.mono s6') (Rd.mono s6')) (congrArg AV.bool dl) ?_
  simp -implicitDefEqProofs (disch := first | assumption | decide | omega | (simp only [wpD1] <;> omega) | (simp only [wpD2] <;> assumption) | solve_by_elim [zR, zP, zV] | fail) only [↓wpPre, wpPost, wpPoly, Int.reduceToNat, Int.reducePow, Int.reduceMul, Int.reduceAdd, Int.reduceSub, Int.reduceNeg, Nat.reduceAdd, Nat.reduceMul, Nat.reducePow, Int.reduceLT, Int.reduceLE, Int.reduceEq, Nat.reduceEqDiff, K3 s6', K4 s6', K7 s6', gV_u, eq7]
  refine ACallsK.eq (kw _) ?_
  simp -implicitDefEqProofs (disch := first | assumption | decide | omega | (simp only [wpD1] <;> omega) | (simp only [wpD2] <;> assumption) | solve_by_elim [zR, zP, zV] | fail) only [↓wpPre, wpPost, wpPoly, Int.reduceToNat, Int.reducePow, Int.reduceMul, Int.reduceAdd, Int.reduceSub, Int.reduceNeg, Nat.reduceAdd, Nat.reduceMul, Nat.reducePow, Int.reduceLT, Int.reduceLE, Int.reduceEq, Nat.reduceEqDiff]
end
end Go.Ae
/- The carrier's functions, waves, mixes. -/
set_option linter.unusedSimpArgs false
set_option linter.unusedVariables false
namespace Go.Ae
section
variable {C : Ctx}
/-! ### Waves -/
end
end Go.Ae
/- Bits, chips and levels: the program and the reference. -/
set_option linter.unusedSimpArgs false
set_option linter.unusedVariables false
namespace Go.Ae
section
variable {C : Ctx}
end
end Go.Ae
/- Correlators, in plain numbers. -/
set_option linter.unusedSimpArgs false
set_option linter.unusedVariables false
namespace Go.Ae
def inS (B : Int) (x : Int × Int) : Prop := (-B ≤ x.1 ∧ x.1 ≤ B) ∧ (-B ≤ x.2 ∧ x.2 ≤ B)
instance (B : Int) (x : Int × Int) : Decidable (inS B x) := by unfold inS; exact inferInstance
def binsOk (b : Int) : Prop := b = 1 ∨ b = 2 ∨ b = 4 ∨ b = 8 ∨ b = 16 ∨ b = 32 ∨ b = 64
instance (b : Int) : Decidable (binsOk b) := by unfold binsOk; exact inferInstance
end Go.Ae
/- Waves of the program and of the reference. -/
set_option linter.unusedSimpArgs false
set_option linter.unusedVariables false
namespace Go.Ae
def KnownCap (v : AV) : Prop := v = .nilslice ∨ ∃ i o n c, v = .slice i o n (.known c)
theorem SL.dropK {h : Heap} {sz n a : Nat} {v : AV} {cs : List AV} {kk : IntKind} (H : SL h sz v n cs) (K : KnownCap v) (ha : a ≤ n) : ∃ v', (∀ h', sliceA h' sz v (some (.int kk (a : Nat))) none none = some v') ∧ SL h sz v' (n - a) (cs.drop (a * sz)) := by
 obtain ⟨hl, hlt, ⟨rfl, rfl⟩ | ⟨i, o, cp, vs, wr, u, rfl, hg, hle, hc, hcap⟩⟩ := H
 ·have : a = 0 := by omega
  subst this
  have : cs = [] := List.eq_nil_of_length_eq_zero (by omega)
  subst this
  exact ⟨.nilslice, fun _ => rfl, by simp, by omega, .inl ⟨rfl, rfl⟩⟩
 ·obtain ⟨c, rfl⟩ : ∃ c, cp = .known c := by
   rcases K with K | ⟨_, _, _, c, K⟩
   ·cases K
   ·cases K; exact ⟨c, rfl⟩
  dsimp only at hcap
  have hbd : boundsA n c (some (.int kk (a : Nat))) none none = some (a, n, c) := bounds_ok (len := n) (cap := c) (a := a) (b := n) (c := c) rfl rfl rfl ⟨ha, hcap, Nat.le_refl _⟩
  refine ⟨.slice i (if c = a then o else o + a * sz) (n - a) (.known (c - a)), fun _ => by simp only [sliceA, hbd], ?_⟩
  have hm : a * sz ≤ n * sz := Nat.mul_le_mul_right _ ha
  have hs : (n - a) * sz = n * sz - a * sz := Nat.sub_mul _ _ _
  refine ⟨by rw [List.length_drop, hl, hs], by omega, .inr ⟨i, _, _, vs, wr, u, rfl, hg, ?_, ?_, by dsimp only; omega⟩⟩
  ·split
   ·rename_i e; have : n - a = 0 := by omega
    rw [this]; omega
   ·omega
  ·subst hc
   split
   ·rename_i e; have : n = a := by omega
    subst this
    simp [cut]
   ·simp only [cut, List.drop_take, List.drop_drop, hs]
theorem SI.dropK {h : Heap} {v : AV} {l : List (Int × Int)} {a : Nat} {kk : IntKind} (H : SI h v l) (K : KnownCap v) (ha : a ≤ l.length) : ∃ v', (∀ h', sliceA h' 2 v (some (.int kk (a : Nat))) none none = some v') ∧ SI h v' (l.drop a) := by
 obtain ⟨v', e, q⟩ := SL.dropK (kk := kk) H K ha
 refine ⟨v', e, ?_⟩
 rw [smps_drop] at q
 unfold SI
 rwa [List.length_drop]
section
variable {C : Ctx}
end
end Go.Ae
/- Mixes of the program and of the reference. -/
set_option linter.unusedSimpArgs false
set_option linter.unusedVariables false
namespace Go.Ae
section
variable {C : Ctx}
end
end Go.Ae
/- Small lists of complex integers, spins and powers, of the program and of the reference. -/
set_option linter.unusedSimpArgs false
set_option linter.unusedVariables false
namespace Go.Ae
section
variable {C : Ctx}
end
end Go.Ae
/- Spin, Steps and Best, of the program and of the reference. -/
set_option linter.unusedSimpArgs false
set_option linter.unusedVariables false
namespace Go.Ae
section
variable {C : Ctx}
end
end Go.Ae
/- Samples of emitters: the reference; sources are made. -/
set_option linter.unusedSimpArgs false
set_option linter.unusedVariables false
namespace Go.Ae
section
variable {C : Ctx}
end
end Go.Ae
/- Start, Place, Bit and At: the program and the reference. -/
set_option linter.unusedSimpArgs false
set_option linter.unusedVariables false
namespace Go.Ae
section
variable {C : Ctx}
end
end Go.Ae
/- Start of the reference; Place, Bit and At of both. -/
set_option linter.unusedSimpArgs false
set_option linter.unusedVariables false
namespace Go.Ae
section
variable {C : Ctx}
end
end Go.Ae
/- Start, Place, Bit and At of the reference. -/
set_option linter.unusedSimpArgs false
set_option linter.unusedVariables false
namespace Go.Ae
section
variable {C : Ctx}
end
end Go.Ae
/- Numbers that elements of a list select. -/
set_option linter.unusedSimpArgs false
set_option linter.unusedVariables false
namespace Go.Ae
section
variable {C : Ctx}
def someOf (l : List Int) (i : Nat) (n : Int) : Int := if i < l.length then l.getD i 0 % n else 0
theorem Some_spec (hC : Has C T45) {v : AV} {l : List Int} {i : Nat} {n : Int} {h : Heap} (hl : RI h v l) (hx : ∀ x ∈ l, In64 x) (hn : 1 ≤ n ∧ n ≤ 9223372036854775807) :
  ACalls C 45 [v, .int .i64 (i : Nat), .int .i64 n] h (fun r h' => r = .int .i64 (someOf l i n) ∧ h' = h) := by
 have hlt := hl.lt
 (refine calls_intro (hC.body (by decide) tab45) (Nat.le_of_ble_eq_true rfl) ?_); (show wp C _ none B45.code _ _); (simp only [B45]); simp -implicitDefEqProofs (disch := first | assumption | decide | omega | (simp only [wpD1] <;> omega) | (simp only [wpD2] <;> assumption) | solve_by_elim [zR, zP, zV] | fail) only [↓wpPre, wpPost, wpPoly, Int.reduceToNat, Int.reducePow, Int.reduceMul, Int.reduceAdd, Int.reduceSub, Int.reduceNeg, Nat.reduceAdd, Nat.reduceMul, Nat.reducePow, Int.reduceLT, Int.reduceLE, Int.reduceEq, Nat.reduceEqDiff, hl.len]
 refine Br.by (fun c => ?_) (fun c => ?_)
 ·simp -implicitDefEqProofs (disch := first | assumption | decide | omega | (simp only [wpD1] <;> omega) | (simp only [wpD2] <;> assumption) | solve_by_elim [zR, zP, zV] | fail) only [↓wpPre, wpPost, wpPoly, Int.reduceToNat, Int.reducePow, Int.reduceMul, Int.reduceAdd, Int.reduceSub, Int.reduceNeg, Nat.reduceAdd, Nat.reduceMul, Nat.reducePow, Int.reduceLT, Int.reduceLE, Int.reduceEq, Nat.reduceEqDiff, someOf, if_neg (show ¬ i < l.length by omega)]
 ·have hi : i < l.length := by omega
  simp -implicitDefEqProofs (disch := first | assumption | decide | omega | (simp only [wpD1] <;> omega) | (simp only [wpD2] <;> assumption) | solve_by_elim [zR, zP, zV] | fail) only [↓wpPre, wpPost, wpPoly, Int.reduceToNat, Int.reducePow, Int.reduceMul, Int.reduceAdd, Int.reduceSub, Int.reduceNeg, Nat.reduceAdd, Nat.reduceMul, Nat.reducePow, Int.reduceLT, Int.reduceLE, Int.reduceEq, Nat.reduceEqDiff, hl.idx, hl.load]
  refine ACallsK.eq (Turn_spec (hC.sub (T' := T23) (by decide)) (hx _ (getD_mem hi)) hn) ?_
  simp -implicitDefEqProofs (disch := first | assumption | decide | omega | (simp only [wpD1] <;> omega) | (simp only [wpD2] <;> assumption) | solve_by_elim [zR, zP, zV] | fail) only [↓wpPre, wpPost, wpPoly, Int.reduceToNat, Int.reducePow, Int.reduceMul, Int.reduceAdd, Int.reduceSub, Int.reduceNeg, Nat.reduceAdd, Nat.reduceMul, Nat.reducePow, Int.reduceLT, Int.reduceLE, Int.reduceEq, Nat.reduceEqDiff, someOf, if_pos hi]
end
end Go.Ae
/- Plans and emitters that numbers select. -/
set_option linter.unusedSimpArgs false
set_option linter.unusedVariables false
namespace Go.Ae
theorem someOf_range {l : List Int} {i : Nat} {n : Int} (hn : 1 ≤ n) : 0 ≤ someOf l i n ∧ someOf l i n < n := by
 unfold someOf
 split
 ·exact ⟨Int.emod_nonneg _ (by omega), Int.emod_lt_of_pos _ (by omega)⟩
 ·omega
def prnK (f : Int) (k : Nat) : List Int := (List.range k).map fun i => f + 4 * (i : Nat)
theorem prnK_length (f : Int) (k : Nat) : (prnK f k).length = k := by simp [prnK]
theorem prnK_succ (f : Int) (k : Nat) : prnK f (k + 1) = prnK f k ++ [f + 4 * (k : Nat)] := by simp [prnK, List.range_succ]
theorem prnK_get (f : Int) {i k : Nat} (h : i < k) : (prnK f k).getD i 0 = f + 4 * (i : Nat) := range_get h
def planOf (l : List Int) : PlanP := ⟨5 + someOf l 0 2, 1 + someOf l 1 3, 1 + someOf l 2 3, 2, 1 + someOf l 3 20, 1 + someOf l 3 20 + someOf l 5 20, someOf l 4 50, prnK (1 + someOf l 6 20) (someOf l 7 3 + 1).toNat⟩
theorem prnK_err (n f : Int) (hf : 1 ≤ f) : ∀ (m k : Nat), f + 4 * ((k + m : Nat) : Int) ≤ n + 6 → prnsErr n (prnK f k) ((List.range m).map fun i => f + 4 * ((k + i : Nat) : Int)) = 0
 | 0, k, _ => rfl
 | m + 1, k, h => by
  rw [List.range_succ_eq_map, List.map_cons, prnsErr, if_neg (by omega), if_neg]
  ·have e : prnK f k ++ [f + 4 * ((k + 0 : Nat) : Int)] = prnK f (k + 1) := by rw [prnK_succ]; simp
   rw [e, List.map_map]
   have ih := prnK_err n f hf m (k + 1) (by omega)
   have e2 : ((fun i => f + 4 * ((k + i : Nat) : Int)) ∘ Nat.succ) = fun i => f + 4 * ((k + 1 + i : Nat) : Int) := by
    funext i
    show f + 4 * ((k + (i + 1) : Nat) : Int) = _
    omega
   rw [e2]
   exact ih
  ·intro q
   rw [List.any_eq_true] at q
   obtain ⟨x, hx, q⟩ := q
   obtain ⟨i, hi, rfl⟩ := List.mem_map.1 hx
   rw [beq_iff_eq] at q
   have := List.mem_range.1 hi
   omega
theorem planOf_nums (l : List Int) : (planOf l).numsOk := by
 have h0 := someOf_range (l := l) (i := 0) (n := 2) (by omega)
 have h1 := someOf_range (l := l) (i := 1) (n := 3) (by omega)
 have h2 := someOf_range (l := l) (i := 2) (n := 3) (by omega)
 have h3 := someOf_range (l := l) (i := 3) (n := 20) (by omega)
 have h4 := someOf_range (l := l) (i := 4) (n := 50) (by omega)
 have h5 := someOf_range (l := l) (i := 5) (n := 20) (by omega)
 unfold PlanP.numsOk planOf
 dsimp only
 refine ⟨?_, by omega, by omega, by omega, by omega, by omega, by omega⟩
 rcases (show someOf l 0 2 = 0 ∨ someOf l 0 2 = 1 by omega) with e | e <;> rw [e] <;> decide
theorem planOf_err (l : List Int) : (planOf l).err = 0 := by
 have h6 := someOf_range (l := l) (i := 6) (n := 20) (by omega)
 have h7 := someOf_range (l := l) (i := 7) (n := 3) (by omega)
 have hn := planOf_nums l
 have hN := lenN_eq hn.1
 have hl : (planOf l).prns.length = (someOf l 7 3 + 1).toNat := prnK_length _ _
 unfold PlanP.err
 rw [if_pos hn, if_neg (by omega), if_neg (by omega)]
 have := prnK_err (lenN (planOf l).d) (1 + someOf l 6 20) (by omega) (someOf l 7 3 + 1).toNat 0 (by omega)
 have e : (planOf l).prns = (List.range (someOf l 7 3 + 1).toNat).map fun i => (1 + someOf l 6 20) + 4 * ((0 + i : Nat) : Int) := by
  show prnK _ _ = _
  unfold prnK
  refine List.map_congr_left fun i _ => ?_
  rw [Nat.zero_add]
 rw [e]
 exact this
theorem planOf_64 (l : List Int) : (planOf l).ok64 := by
 have h0 := someOf_range (l := l) (i := 0) (n := 2) (by omega)
 have h1 := someOf_range (l := l) (i := 1) (n := 3) (by omega)
 have h2 := someOf_range (l := l) (i := 2) (n := 3) (by omega)
 have h3 := someOf_range (l := l) (i := 3) (n := 20) (by omega)
 have h4 := someOf_range (l := l) (i := 4) (n := 50) (by omega)
 have h5 := someOf_range (l := l) (i := 5) (n := 20) (by omega)
 have h6 := someOf_range (l := l) (i := 6) (n := 20) (by omega)
 have h7 := someOf_range (l := l) (i := 7) (n := 3) (by omega)
 unfold PlanP.ok64 planOf In64
 dsimp only
 refine ⟨by omega, by omega, by omega, by omega, by omega, by omega, by omega, fun x hx => ?_⟩
 obtain ⟨i, hi, rfl⟩ := List.mem_map.1 hx
 have := List.mem_range.1 hi
 omega
theorem GrwI.putNe {h0 H : Heap} {v : AV} {l : List Int} {i : Nat} {b : ABlk} (A : GrwI h0 H v l) (hi : h0.size ≤ i) (hn : ∀ j ∈ v.ids, j ≠ i) : GrwI h0 (H.put i b) v l := by
 obtain ⟨hs, hl, hn', ⟨rfl, e⟩ | ⟨j, ex, hj, rfl, hg⟩⟩ := A
 ·exact ⟨hs.put hi b, hl, hn', .inl ⟨rfl, e⟩⟩
 ·exact ⟨hs.put hi b, hl, hn', .inr ⟨j, ex, hj, rfl, (get_put_ne (hn j (by simp [AV.ids]))).trans hg⟩⟩
theorem snocN_ne {H : Heap} {v : AV} {sz j : Nat} {cs : List AV} (hj : j < H.size) (hv : j ∉ v.ids) : (snocH H none v sz cs).get j = H.get j := by
 unfold snocH
 cases v
 case slice i o n c => exact (get_push_lt (by simpa using hj)).trans (get_put_ne (fun e => hv (by simp [AV.ids, e])))
 all_goals exact get_push_lt hj
theorem snocN_size {H : Heap} {v : AV} {sz : Nat} {cs : List AV} : (snocH H none v sz cs).size = H.size + 1 := by
 unfold snocH
 cases v <;> simp [Heap.new]
section
variable {C : Ctx}
set_option maxHeartbeats 4000000 in
set_option maxRecDepth 20000 in
theorem PlanOf_new (hC : Has C T235) {v : AV} {l : List Int} {h : Heap} (hl : RI h v l) (hx : ∀ x ∈ l, In64 x) : ACalls C 235 [v] h (fun r h' => HSub h h' ∧ ∃ vp, r = .agg [.int .i64 (planOf l).d, .int .i64 (planOf l).o, .int .i64 (planOf l).pb, .int .i64 (planOf l).w, .int .i64 (planOf l).mn, .int .i64 (planOf l).mx, .int .i64 (planOf l).nz, vp] ∧ RI h' vp (planOf l).prns ∧ ∀ i ∈ vp.ids, h.size ≤ i) := by
 have hlt := hl.lt
 have S := fun (i : Nat) (n : Int) (hn : 1 ≤ n ∧ n ≤ 9223372036854775807) h1 (q : HSub h h1) => Some_spec (hC.sub (T' := T45) (by decide)) (i := i) (hl.mono q) hx hn
 have h0 := someOf_range (l := l) (i := 0) (n := 2) (by omega)
 have h1 := someOf_range (l := l) (i := 1) (n := 3) (by omega)
 have h2 := someOf_range (l := l) (i := 2) (n := 3) (by omega)
 have h3 := someOf_range (l := l) (i := 3) (n := 20) (by omega)
 have h4 := someOf_range (l := l) (i := 4) (n := 50) (by omega)
 have h5 := someOf_range (l := l) (i := 5) (n := 20) (by omega)
 have h6 := someOf_range (l := l) (i := 6) (n := 20) (by omega)
 have h7 := someOf_range (l := l) (i := 7) (n := 3) (by omega)
 unfold planOf
 dsimp only
 have S0 := S 0 2 (by omega)
 have S1 := S 1 3 (by omega)
 have S2 := S 2 3 (by omega)
 have S3 := S 3 20 (by omega)
 have S4 := S 4 50 (by omega)
 have S5 := S 5 20 (by omega)
 have S6 := S 6 20 (by omega)
 have S7 := S 7 3 (by omega)
 generalize someOf l 0 2 = a0 at *
 generalize someOf l 1 3 = a1 at *
 generalize someOf l 2 3 = a2 at *
 generalize someOf l 3 20 = a3 at *
 generalize someOf l 4 50 = a4 at *
 generalize someOf l 5 20 = a5 at *
 generalize someOf l 6 20 = a6 at *
 generalize someOf l 7 3 = a7 at *
 (refine calls_intro (hC.body (by decide) tab235) (Nat.le_of_ble_eq_true rfl) ?_); (show wp C _ none B235.code _ _); (simp only [B235]); simp -implicitDefEqProofs (disch := first | assumption | decide | omega | (simp only [wpD1] <;> omega) | (simp only [wpD2] <;> assumption) | solve_by_elim [zR, zP, zV] | fail) only [↓wpPre, wpPost, wpPoly, Int.reduceToNat, Int.reducePow, Int.reduceMul, Int.reduceAdd, Int.reduceSub, Int.reduceNeg, Nat.reduceAdd, Nat.reduceMul, Nat.reducePow, Int.reduceLT, Int.reduceLE, Int.reduceEq, Nat.reduceEqDiff]
 refine ACallsK.eq (S0 _ (by repeat (first | exact HSub.refl h | refine HSub.put ?_ (by (try simp only [Heap.size_put, Heap.size_push, Heap.size_reserve]); omega) _ | refine HSub.push ?_ _ | refine HSub.reserve ?_ _))) ?_
 simp -implicitDefEqProofs (disch := first | assumption | decide | omega | (simp only [wpD1] <;> omega) | (simp only [wpD2] <;> assumption) | solve_by_elim [zR, zP, zV] | fail) only [↓wpPre, wpPost, wpPoly, Int.reduceToNat, Int.reducePow, Int.reduceMul, Int.reduceAdd, Int.reduceSub, Int.reduceNeg, Nat.reduceAdd, Nat.reduceMul, Nat.reducePow, Int.reduceLT, Int.reduceLE, Int.reduceEq, Nat.reduceEqDiff]
 refine ACallsK.eq (S1 _ (by repeat (first | exact HSub.refl h | refine HSub.put ?_ (by (try simp only [Heap.size_put, Heap.size_push, Heap.size_reserve]); omega) _ | refine HSub.push ?_ _ | refine HSub.reserve ?_ _))) ?_
 simp -implicitDefEqProofs (disch := first | assumption | decide | omega | (simp only [wpD1] <;> omega) | (simp only [wpD2] <;> assumption) | solve_by_elim [zR, zP, zV] | fail) only [↓wpPre, wpPost, wpPoly, Int.reduceToNat, Int.reducePow, Int.reduceMul, Int.reduceAdd, Int.reduceSub, Int.reduceNeg, Nat.reduceAdd, Nat.reduceMul, Nat.reducePow, Int.reduceLT, Int.reduceLE, Int.reduceEq, Nat.reduceEqDiff]
 refine ACallsK.eq (S2 _ (by repeat (first | exact HSub.refl h | refine HSub.put ?_ (by (try simp only [Heap.size_put, Heap.size_push, Heap.size_reserve]); omega) _ | refine HSub.push ?_ _ | refine HSub.reserve ?_ _))) ?_
 simp -implicitDefEqProofs (disch := first | assumption | decide | omega | (simp only [wpD1] <;> omega) | (simp only [wpD2] <;> assumption) | solve_by_elim [zR, zP, zV] | fail) only [↓wpPre, wpPost, wpPoly, Int.reduceToNat, Int.reducePow, Int.reduceMul, Int.reduceAdd, Int.reduceSub, Int.reduceNeg, Nat.reduceAdd, Nat.reduceMul, Nat.reducePow, Int.reduceLT, Int.reduceLE, Int.reduceEq, Nat.reduceEqDiff]
 refine ACallsK.eq (S3 _ (by repeat (first | exact HSub.refl h | refine HSub.put ?_ (by (try simp only [Heap.size_put, Heap.size_push, Heap.size_reserve]); omega) _ | refine HSub.push ?_ _ | refine HSub.reserve ?_ _))) ?_
 simp -implicitDefEqProofs (disch := first | assumption | decide | omega | (simp only [wpD1] <;> omega) | (simp only [wpD2] <;> assumption) | solve_by_elim [zR, zP, zV] | fail) only [↓wpPre, wpPost, wpPoly, Int.reduceToNat, Int.reducePow, Int.reduceMul, Int.reduceAdd, Int.reduceSub, Int.reduceNeg, Nat.reduceAdd, Nat.reduceMul, Nat.reducePow, Int.reduceLT, Int.reduceLE, Int.reduceEq, Nat.reduceEqDiff]
 refine ACallsK.eq (S4 _ (by repeat (first | exact HSub.refl h | refine HSub.put ?_ (by (try simp only [Heap.size_put, Heap.size_push, Heap.size_reserve]); omega) _ | refine HSub.push ?_ _ | refine HSub.reserve ?_ _))) ?_
 simp -implicitDefEqProofs (disch := first | assumption | decide | omega | (simp only [wpD1] <;> omega) | (simp only [wpD2] <;> assumption) | solve_by_elim [zR, zP, zV] | fail) only [↓wpPre, wpPost, wpPoly, Int.reduceToNat, Int.reducePow, Int.reduceMul, Int.reduceAdd, Int.reduceSub, Int.reduceNeg, Nat.reduceAdd, Nat.reduceMul, Nat.reducePow, Int.reduceLT, Int.reduceLE, Int.reduceEq, Nat.reduceEqDiff]
 refine ACallsK.eq (S5 _ (by repeat (first | exact HSub.refl h | refine HSub.put ?_ (by (try simp only [Heap.size_put, Heap.size_push, Heap.size_reserve]); omega) _ | refine HSub.push ?_ _ | refine HSub.reserve ?_ _))) ?_
 simp -implicitDefEqProofs (disch := first | assumption | decide | omega | (simp only [wpD1] <;> omega) | (simp only [wpD2] <;> assumption) | solve_by_elim [zR, zP, zV] | fail) only [↓wpPre, wpPost, wpPoly, Int.reduceToNat, Int.reducePow, Int.reduceMul, Int.reduceAdd, Int.reduceSub, Int.reduceNeg, Nat.reduceAdd, Nat.reduceMul, Nat.reducePow, Int.reduceLT, Int.reduceLE, Int.reduceEq, Nat.reduceEqDiff]
 refine ACallsK.eq (S6 _ (by repeat (first | exact HSub.refl h | refine HSub.put ?_ (by (try simp only [Heap.size_put, Heap.size_push, Heap.size_reserve]); omega) _ | refine HSub.push ?_ _ | refine HSub.reserve ?_ _))) ?_
 simp -implicitDefEqProofs (disch := first | assumption | decide | omega | (simp only [wpD1] <;> omega) | (simp only [wpD2] <;> assumption) | solve_by_elim [zR, zP, zV] | fail) only [↓wpPre, wpPost, wpPoly, Int.reduceToNat, Int.reducePow, Int.reduceMul, Int.reduceAdd, Int.reduceSub, Int.reduceNeg, Nat.reduceAdd, Nat.reduceMul, Nat.reducePow, Int.reduceLT, Int.reduceLE, Int.reduceEq, Nat.reduceEqDiff]
 refine wp_loopI (fun j t h' => ∃ (k : Nat) (pv : AV), HSub h h' ∧ GrwI h h' pv (prnK (1 + a6) k) ∧ (∀ i ∈ pv.ids, h.size + 1 < i) ∧ h.size + 1 < h'.size ∧ h'.get h.size = some (.cells [.int .i64 0, .int .i64 0, .int .i64 0, .int .i64 0, .int .i64 0, .int .i64 0, .int .i64 0, .nilslice] true 0) ∧
   h'.get (h.size + 1) = some (.cells [.int .i64 (5 + a0), .int .i64 (1 + a1), .int .i64 (1 + a2), .int .i64 2, .int .i64 (1 + a3), .int .i64 (1 + a3 + a5), .int .i64 a4, pv] true 0) ∧ t 0 = v ∧ t 2 = .ptr h.size 0 ∧ t 3 = .ptr (h.size + 1) 0 ∧ t 4 = .int .i64 (1 + a6) ∧ t 5 = .int .i64 (k : Nat) ∧ (k : Int) ≤ a7 + 1 ∧ j = (a7 + 1 - k).toNat) (j0 := (a7 + 1).toNat)
  ⟨0, .nilslice, (by repeat (first | exact HSub.refl h | refine HSub.put ?_ (by (try simp only [Heap.size_put, Heap.size_push, Heap.size_reserve]); omega) _ | refine HSub.push ?_ _ | refine HSub.reserve ?_ _)), GrwI.nil' (by repeat (first | exact HSub.refl h | refine HSub.put ?_ (by (try simp only [Heap.size_put, Heap.size_push, Heap.size_reserve]); omega) _ | refine HSub.push ?_ _ | refine HSub.reserve ?_ _)), by simp [AV.ids], by simp, by simp -implicitDefEqProofs (disch := first | assumption | decide | omega | (simp only [wpD1] <;> omega) | (simp only [wpD2] <;> assumption) | solve_by_elim [zR, zP, zV] | fail) only [↓wpPre, wpPost, wpPoly, Int.reduceToNat, Int.reducePow, Int.reduceMul, Int.reduceAdd, Int.reduceSub, Int.reduceNeg, Nat.reduceAdd, Nat.reduceMul, Nat.reducePow, Int.reduceLT, Int.reduceLE, Int.reduceEq, Nat.reduceEqDiff], by simp -implicitDefEqProofs (disch := first | assumption | decide | omega | (simp only [wpD1] <;> omega) | (simp only [wpD2] <;> assumption) | solve_by_elim [zR, zP, zV] | fail) only [↓wpPre, wpPost, wpPoly, Int.reduceToNat, Int.reducePow, Int.reduceMul, Int.reduceAdd, Int.reduceSub, Int.reduceNeg, Nat.reduceAdd, Nat.reduceMul, Nat.reducePow, Int.reduceLT, Int.reduceLE, Int.reduceEq, Nat.reduceEqDiff], rfl, rfl, rfl, rfl, rfl, by omega, by simp⟩ ?_
 rintro j t H ⟨k, pv, s1, A, hid, hz, g0, g1, e0, e2, e3, e4, e5, hk, hj⟩
 simp -implicitDefEqProofs (disch := first | assumption | decide | omega | (simp only [wpD1] <;> omega) | (simp only [wpD2] <;> assumption) | solve_by_elim [zR, zP, zV] | fail) only [↓wpPre, wpPost, wpPoly, Int.reduceToNat, Int.reducePow, Int.reduceMul, Int.reduceAdd, Int.reduceSub, Int.reduceNeg, Nat.reduceAdd, Nat.reduceMul, Nat.reducePow, Int.reduceLT, Int.reduceLE, Int.reduceEq, Nat.reduceEqDiff, e0, e5]
 refine ACallsK.eq (S7 _ s1) ?_
 simp -implicitDefEqProofs (disch := first | assumption | decide | omega | (simp only [wpD1] <;> omega) | (simp only [wpD2] <;> assumption) | solve_by_elim [zR, zP, zV] | fail) only [↓wpPre, wpPost, wpPoly, Int.reduceToNat, Int.reducePow, Int.reduceMul, Int.reduceAdd, Int.reduceSub, Int.reduceNeg, Nat.reduceAdd, Nat.reduceMul, Nat.reducePow, Int.reduceLT, Int.reduceLE, Int.reduceEq, Nat.reduceEqDiff, e5]
 refine Br.by (fun c => ?_) (fun c => ?_)
 ·have pl := prnK_length (1 + a6) k
  have ps := prnK_succ (1 + a6) k
  have pone := A.ri.one
  have pcells := A.ri.cells
  have hk2 : k ≤ 3 := by omega
  have ap := fun (H' : Heap) (hH : HSub H H') => A.app (x := 1 + a6 + 4 * (k : Nat)) H' hH (by omega)
  have Ac := A.snoc (x := 1 + a6 + 4 * (k : Nat)) (HSub.push1 H (.cells [.int .i64 (1 + a6 + 4 * (k : Nat))] true 0)) (by omega)
  rw [← ps] at Ac
  have nn1 : h.size + 1 ∉ pv.ids := fun q => by have := hid _ q; omega
  have nn0 : h.size ∉ pv.ids := fun q => by have := hid _ q; omega
  have q1 : (snocH (H.push (.cells [.int .i64 (1 + a6 + 4 * (k : Nat))] true 0)) none pv 1 (ints (prnK (1 + a6) (k + 1)))).get (h.size + 1) = some (.cells [.int .i64 (5 + a0), .int .i64 (1 + a1), .int .i64 (1 + a2), .int .i64 2, .int .i64 (1 + a3), .int .i64 (1 + a3 + a5), .int .i64 a4, pv] true 0) := (snocN_ne (by simp only [Heap.size_push]; omega) nn1).trans ((get_push_lt (by omega)).trans g1)
  have q0 : (snocH (H.push (.cells [.int .i64 (1 + a6 + 4 * (k : Nat))] true 0)) none pv 1 (ints (prnK (1 + a6) (k + 1)))).get h.size = some (.cells [.int .i64 0, .int .i64 0, .int .i64 0, .int .i64 0, .int .i64 0, .int .i64 0, .int .i64 0, .nilslice] true 0) := (snocN_ne (by simp only [Heap.size_push]; omega) nn0).trans ((get_push_lt (by omega)).trans g0)
  have qz : (snocH (H.push (.cells [.int .i64 (1 + a6 + 4 * (k : Nat))] true 0)) none pv 1 (ints (prnK (1 + a6) (k + 1)))).size = H.size + 1 + 1 := snocN_size
  simp -implicitDefEqProofs (disch := first | assumption | decide | omega | (simp only [wpD1] <;> omega) | (simp only [wpD2] <;> assumption) | solve_by_elim [zR, zP, zV] | fail) only [↓wpPre, wpPost, wpPoly, Int.reduceToNat, Int.reducePow, Int.reduceMul, Int.reduceAdd, Int.reduceSub, Int.reduceNeg, Nat.reduceAdd, Nat.reduceMul, Nat.reducePow, Int.reduceLT, Int.reduceLE, Int.reduceEq, Nat.reduceEqDiff, e3, e4, e5, g1, cont_slice, contB_one, ap, ← ps]
  generalize hT : snocH (H.push (.cells [.int .i64 (1 + a6 + 4 * (k : Nat))] true 0)) none pv 1 (ints (prnK (1 + a6) (k + 1))) = T at *
  simp -implicitDefEqProofs (disch := first | assumption | decide | omega | (simp only [wpD1] <;> omega) | (simp only [wpD2] <;> assumption) | solve_by_elim [zR, zP, zV] | fail) only [↓wpPre, wpPost, wpPoly, Int.reduceToNat, Int.reducePow, Int.reduceMul, Int.reduceAdd, Int.reduceSub, Int.reduceNeg, Nat.reduceAdd, Nat.reduceMul, Nat.reducePow, Int.reduceLT, Int.reduceLE, Int.reduceEq, Nat.reduceEqDiff, q0, q1, qz, e0, e2, e3, e4, e5]
  have idn : ∀ i ∈ (AV.slice (H.size + 1) 0 ((prnK (1 + a6) k).length + 1) (.unk 0)).ids, i = H.size + 1 := fun i hi => by simpa [AV.ids] using hi
  have Ac2 := Ac.putNe (i := h.size + 1) (b := .cells [.int .i64 (5 + a0), .int .i64 (1 + a1), .int .i64 (1 + a2), .int .i64 2, .int .i64 (1 + a3), .int .i64 (1 + a3 + a5), .int .i64 a4, .slice (H.size + 1) 0 ((prnK (1 + a6) k).length + 1) (.unk 0)] true 0) (by omega) (fun j hj => by have := idn j hj; omega)
  exact ⟨_, ⟨k + 1, _, Ac2.sub, Ac2, fun i hi => by have := idn i hi; omega, by omega, rfl, by simp, by omega, rfl⟩, by omega⟩
 ·have ek : (a7 + 1).toNat = k := by omega
  rw [ek]
  have pone := A.ri.one
  have pcells := A.ri.cells
  simp -implicitDefEqProofs (disch := first | assumption | decide | omega | (simp only [wpD1] <;> omega) | (simp only [wpD2] <;> assumption) | solve_by_elim [zR, zP, zV] | fail) only [↓wpPre, wpPost, wpPoly, Int.reduceToNat, Int.reducePow, Int.reduceMul, Int.reduceAdd, Int.reduceSub, Int.reduceNeg, Nat.reduceAdd, Nat.reduceMul, Nat.reducePow, Int.reduceLT, Int.reduceLE, Int.reduceEq, Nat.reduceEqDiff, e2, e3, g0, g1]
  exact ⟨(by repeat (first | exact s1 | refine HSub.put ?_ (by (try simp only [Heap.size_put, Heap.size_push, Heap.size_reserve]); omega) _ | refine HSub.push ?_ _ | refine HSub.reserve ?_ _)), pv, rfl, (A.putNe (by omega) (fun j hj => by have := hid j hj; omega)).ri, fun j hj => by have := hid j hj; omega⟩
theorem PlanOf_spec (hC : Has C T235) {v : AV} {l : List Int} {h : Heap} (hl : RI h v l) (hx : ∀ x ∈ l, In64 x) : ACalls C 235 [v] h (fun r h' => HSub h h' ∧ PlI h' r (planOf l)) :=
 (PlanOf_new hC hl hx).mono fun r h' q => ⟨q.1, by obtain ⟨vp, e, B, _⟩ := q.2; exact ⟨vp, e, B⟩⟩
end
end Go.Ae
/- The statement that thresholds grow, of layer 15. -/
set_option linter.unusedSimpArgs false
set_option linter.unusedVariables false
namespace Go.Ae
theorem prnsErr_of {n : Int} : ∀ {xs seen : List Int}, (∀ x ∈ xs, 1 ≤ x ∧ x ≤ n + 2) → xs.Nodup → (∀ x ∈ xs, x ∉ seen) → prnsErr n seen xs = 0
 | [], _, _, _, _ => rfl
 | x :: xs, seen, h1, h2, h3 => by
  have hn := List.nodup_cons.1 h2
  unfold prnsErr
  rw [if_neg (fun q => q (h1 x (by simp))), if_neg]
  ·refine prnsErr_of (fun y hy => h1 y (by simp [hy])) hn.2 (fun y hy hm => ?_)
   rcases List.mem_append.1 hm with hm | hm
   ·exact h3 y (by simp [hy]) hm
   ·simp only [List.mem_singleton] at hm
    subst hm
    exact hn.1 hy
  ·intro q
   obtain ⟨y, hy, e⟩ := List.any_eq_true.1 q
   have : x = y := by simpa using e
   exact h3 x (by simp) (this ▸ hy)
theorem err_of {p : PlanP} (ok : PlanOk p) : p.err = 0 := by
 unfold PlanP.err
 rw [if_pos ok.nums, if_neg (by have := ok.len; omega), if_neg (by have := ok.len; omega)]
 exact prnsErr_of ok.prn ok.nodup (by simp)
theorem othK_app {f : Int → Int → Int} {prn : Int} {ps ys : List Int} : ∀ {k : Nat}, k ≤ ps.length → othK f prn (ps ++ ys) k = othK f prn ps k
 | 0, _ => rfl
 | k + 1, h => by
  unfold othK
  rw [othK_app (by omega)]
  have e : (ps ++ ys).getD k 0 = ps.getD k 0 := by simp [List.getD_eq_getElem?_getD, List.getElem?_append_left (show k < ps.length by omega)]
  rw [e]
def PlanP.more (p : PlanP) (kn ka x : Int) : PlanP := ⟨p.d, p.o, p.pb, p.w, p.mn, p.mx + ka, p.nz + kn, p.prns ++ [x]⟩
theorem more_bound {p : PlanP} {kn ka x s prn : Int} (ok : PlanOk p) (hk : 0 ≤ kn ∧ 0 ≤ ka) (hs : 0 ≤ s ∧ s ≤ 30) : thrI p s prn ≤ thrI (p.more kn ka x) s prn := by
 have so : p.oth prn ≤ (p.more kn ka x).oth prn := by
  unfold PlanP.oth PlanP.more
  dsimp only
  rw [List.length_append, List.length_singleton, othK, othK_app (Nat.le_refl _)]
  have q := sumI_range ok.nums prn ((p.prns ++ [x]).getD p.prns.length 0)
  split <;> omega
 have a := sumI_range ok.nums prn prn
 have b := oth_range ok prn
 have n := ok.nums.2.2.2.2
 have sz := size_range ok.nums
 have c := coar_range hs
 have m1 : 128 * p.mx * (sumI p.d p.o prn prn + p.oth prn) ≤ 128 * (p.mx + ka) * (sumI p.d p.o prn prn + (p.more kn ka x).oth prn) :=
  Int.mul_le_mul (by omega) (by omega) (by omega) (by omega)
 have m2 : 3 * p.size * (p.nz + coarI s) ≤ 3 * p.size * (p.nz + kn + coarI s) := Int.mul_le_mul_of_nonneg_left (by omega) (by omega)
 have q := pow_30 hs
 have bb : boundI p s prn ≤ boundI (p.more kn ka x) s prn := by
  unfold boundI humI
  show 128 * p.mx * (sumI p.d p.o prn prn + p.oth prn) + (3 * p.size * (p.nz + coarI s) + 1) / 2 ≤ 128 * (p.mx + ka) * (sumI p.d p.o prn prn + (p.more kn ka x).oth prn) + (3 * p.size * (p.nz + kn + coarI s) + 1) / 2
  omega
 unfold thrI
 exact Int.ediv_le_ediv (by omega) (by omega)
theorem planOf_more {l : List Int} {kn ka kf : Int} (hn : 0 ≤ kn ∧ kn < 100) (ha : 0 ≤ ka ∧ ka < 50) (hf : 0 ≤ kf ∧ kf < 3) : PlanOk ((planOf l).more kn ka ((planOf l).prns.getD 0 0 + 1 + kf)) := by
 have ok := planOk_of (planOf_err l)
 have n := ok.nums
 have r5 := someOf_range (l := l) (i := 5) (n := 20) (by decide)
 have r3 := someOf_range (l := l) (i := 3) (n := 20) (by decide)
 have r4 := someOf_range (l := l) (i := 4) (n := 50) (by decide)
 have r6 := someOf_range (l := l) (i := 6) (n := 20) (by decide)
 have r7 := someOf_range (l := l) (i := 7) (n := 3) (by decide)
 have r0 := someOf_range (l := l) (i := 0) (n := 2) (by decide)
 have hN := lenN_eq n.1
 have e0 : (planOf l).prns.getD 0 0 = 1 + someOf l 6 20 := by
  show (prnK (1 + someOf l 6 20) (someOf l 7 3 + 1).toNat).getD 0 0 = _
  rw [prnK_get _ (by omega)]
  omega
 have len : (planOf l).prns.length = (someOf l 7 3 + 1).toNat := prnK_length _ _
 refine ⟨⟨n.1, n.2.1, n.2.2.1, n.2.2.2.1, ⟨n.2.2.2.2.1.1, ?_⟩, ?_, ?_⟩, ?_, ?_, ?_⟩
 ·show (planOf l).mn ≤ (planOf l).mx + ka
  have := n.2.2.2.2.1.2
  omega
 ·show 1 + someOf l 3 20 + someOf l 5 20 + ka ≤ 1000
  omega
 ·show 0 ≤ someOf l 4 50 + kn ∧ someOf l 4 50 + kn ≤ 100000
  omega
 ·show 1 ≤ ((planOf l).prns ++ [_]).length ∧ ((planOf l).prns ++ [_]).length ≤ 8
  rw [List.length_append, List.length_singleton, len]
  omega
 ·intro x hx
  show 1 ≤ x ∧ x ≤ lenN (planOf l).d + 2
  rcases List.mem_append.1 hx with hx | hx
  ·exact ok.prn x hx
  ·simp only [List.mem_singleton] at hx
   rw [hx, e0]
   omega
 ·show ((planOf l).prns ++ [_]).Nodup
  rw [List.nodup_append]
  refine ⟨ok.nodup, by simp, ?_⟩
  intro a ha b hb
  simp only [List.mem_singleton] at hb
  obtain ⟨i, hi, e⟩ := List.mem_iff_getElem.1 ha
  have e2 : (planOf l).prns.getD i 0 = a := by rw [List.getD_eq_getElem?_getD, List.getElem?_eq_getElem hi]; exact e
  have e3 : (planOf l).prns.getD i 0 = 1 + someOf l 6 20 + 4 * (i : Nat) := by
   show (prnK (1 + someOf l 6 20) (someOf l 7 3 + 1).toNat).getD i 0 = _
   exact prnK_get _ (by omega)
  rw [hb, e0]
  omega
theorem more_64 {l : List Int} {kn ka kf : Int} (hn : 0 ≤ kn ∧ kn < 100) (ha : 0 ≤ ka ∧ ka < 50) (hf : 0 ≤ kf ∧ kf < 3) : ((planOf l).more kn ka ((planOf l).prns.getD 0 0 + 1 + kf)).ok64 := by
 have ok := planOf_more (l := l) hn ha hf
 have n := ok.nums
 have h := planOf_64 l
 have hN := lenN_eq n.1
 refine ⟨h.1, h.2.1, h.2.2.1, h.2.2.2.1, h.2.2.2.2.1, ?_, ?_, fun x hx => ?_⟩
 ·have := n.2.2.2.2.2.1; have := n.2.2.2.2.1; unfold In64; omega
 ·have := n.2.2.2.2.2.2; unfold In64; omega
 ·have := ok.prn x hx; unfold In64; omega
theorem appKB_growS {h : Heap} {k sz bytes i o n c m : Nat} {news vs : List AV} {u : Nat} (h1 : o + n * sz ≤ vs.length) (h2 : c < n + m) (h3 : (n + m) * bytes ≤ 1099511627776) :
  appKB h (some k) sz bytes i o n c m news (some (.cells vs true u)) = kept k h (h.get k) (fun k _ p => some (.slice k 0 (n + m) (.unk 0), p (.cells (cut vs o (n * sz) ++ news) true sz))) := by
 simp only [appKB]
 rw [if_pos h1, if_neg (by omega)]
 simp only [room_some, kept]
 cases hg : h.get k with
 | none => by_cases hn : k < h.size <;> simp [hn, Heap.nid, Heap.new] <;> omega
 | some b => simp
theorem noneIn_two {x a b : Nat} {xs : List Nat} (h1 : x ≠ a) (h2 : x ≠ b) : NoneIn (x :: xs) [a, b] = NoneIn xs [a, b] := noneIn_cons (by simp [h1, h2])
theorem RI.el0 {h : Heap} {v : AV} {l : List Int} (H : RI h v l) (h0 : 0 < l.length) : ∃ j o, j < h.size ∧ elA 1 v 0 = .ptr j o := by
 obtain ⟨hl, hn, ⟨rfl, h1⟩ | ⟨j, o, c, ws, wr, u, rfl, hg, h2⟩⟩ := H
 ·omega
 ·exact ⟨j, _, Heap.lt_of_get hg, rfl⟩
theorem load_putE {h : Heap} {i n : Nat} {b : ABlk} {agg : Bool} {x : AV} {j o : Nat} (e : x = .ptr j o) (hi : j ≠ i) : Ae.loadA (h.put i b) agg n x = Ae.loadA h agg n x := by
 subst e
 rw [load_ptr, load_ptr, get_put_ne hi]
def appUG (h : Heap) (i k n m sz : Nat) (cs : List AV) : Option ABlk → Option (AV × Heap)
 | none => if k < h.size then some (.slice k 0 (n + m) (.unk 0), (h.put i .dead).put k (.cells cs true sz)) else none
 | some _ => none
theorem appUG_none {h : Heap} {i k n m sz : Nat} {cs : List AV} (hk : k < h.size) : appUG h i k n m sz cs none = some (.slice k 0 (n + m) (.unk 0), (h.put i .dead).put k (.cells cs true sz)) := if_pos hk
theorem appUB_growS {h : Heap} {k sz bytes i n m : Nat} {news vs : List AV} (h1 : n * sz ≤ vs.length) (h2 : 0 < m) (h3 : (n + m) * bytes ≤ 1099511627776) (h4 : news.all AV.one = true) :
  appUB h (some k) sz bytes i 0 n 0 m news (some (.cells vs true sz)) = appUG h i k n m sz (cut vs 0 (n * sz) ++ news) (h.get k) := by
 simp only [appUB]
 cases hg : h.get k with
 | none =>
  by_cases hk : k < h.size
  ·rw [if_pos ⟨trivial, by omega, by omega, h4, h3, by rw [room_some]; exact ⟨hg, hk⟩, h2⟩, appUG_none hk]; rfl
  ·rw [if_neg (fun q => hk (room_some.1 q.2.2.2.2.2.1).2), if_neg (by omega)]
   simp [appUG, hk]
 | some b =>
  rw [if_neg (fun q => by have := (room_some.1 q.2.2.2.2.2.1).1; rw [hg] at this; cases this), if_neg (by omega)]; rfl
section
variable {C : Ctx}
set_option maxRecDepth 20000 in
set_option maxHeartbeats 4000000 in
theorem DetectGrows_law (hC : Has C T310) {v : AV} {l : List Int} {sh no am fu : Int} {h : Heap} (hl : RI h v l) (h1 : In64 sh) (h2 : In64 no) (h3 : In64 am) (h4 : In64 fu) (hx : ∀ x ∈ l, In64 x) :
  ACalls C 310 [v, .int .i64 sh, .int .i64 no, .int .i64 am, .int .i64 fu] h (fun r _ => r = .bool true) := by
 have kn := fun H => known307_spec (hC.sub (T' := T307) (by decide)) (h := H)
 have kp := fun H (R : RI H v l) => PlanOf_spec (hC.sub (T' := T235) (by decide)) (h := H) R hx
 have ts := fun H => Turn_spec (h := H) (x := sh) (n := 12) (hC.sub (T' := T23) (by decide)) h1 (by omega)
 have tn := fun H => Turn_spec (h := H) (x := no) (n := 100) (hC.sub (T' := T23) (by decide)) h2 (by omega)
 have ta := fun H => Turn_spec (h := H) (x := am) (n := 50) (hC.sub (T' := T23) (by decide)) h3 (by omega)
 have tf := fun H => Turn_spec (h := H) (x := fu) (n := 3) (hC.sub (T' := T23) (by decide)) h4 (by omega)
 have rs : 0 ≤ sh % 12 ∧ sh % 12 < 12 := by omega
 have rn : 0 ≤ no % 100 ∧ no % 100 < 100 := by omega
 have ra : 0 ≤ am % 50 ∧ am % 50 < 50 := by omega
 have rf : 0 ≤ fu % 3 ∧ fu % 3 < 3 := by omega
 generalize sh % 12 = ks at *
 generalize no % 100 = kn' at *
 generalize am % 50 = ka at *
 generalize fu % 3 = kf at *
 have ok := planOk_of (planOf_err l)
 have okq := planOf_more (l := l) rn ra rf
 have p64 := planOf_64 l
 have q64 := more_64 (l := l) rn ra rf
 have gg : gErr 8 ks = 0 := by unfold gErr; rw [if_pos (by omega)]
 have mem : (planOf l).prns.getD 0 0 ∈ (planOf l).prns := getD_mem (by have := ok.len; omega)
 have dp : detErr (planOf l) 8 ks ((planOf l).prns.getD 0 0) = 0 := by unfold detErr askErr; rw [if_pos (planOf_err l), gg, if_pos rfl, if_pos mem]
 have dq : detErr ((planOf l).more kn' ka ((planOf l).prns.getD 0 0 + 1 + kf)) 8 ks ((planOf l).prns.getD 0 0) = 0 := by
  unfold detErr askErr
  rw [if_pos (err_of okq), gg, if_pos rfl]
  exact if_pos (List.mem_append.2 (.inl mem))
 have mb := more_bound (p := planOf l) (kn := kn') (ka := ka) (x := (planOf l).prns.getD 0 0 + 1 + kf) (s := ks) (prn := (planOf l).prns.getD 0 0) ok ⟨rn.1, ra.1⟩ (by omega)
 have k1 := fun H va (R : RI H va (planOf l).prns) => Threshold_spec (hC.sub (T' := T317) (by decide)) (h := H) (b := 8) (s := ks) (prn := (planOf l).prns.getD 0 0) R p64
 have k2 := fun H va (R : RI H va ((planOf l).prns ++ [(planOf l).prns.getD 0 0 + 1 + kf])) => Threshold_spec (hC.sub (T' := T317) (by decide)) (h := H) (b := 8) (s := ks) (prn := (planOf l).prns.getD 0 0) (p := (planOf l).more kn' ka ((planOf l).prns.getD 0 0 + 1 + kf)) R q64
 rw [dp, if_pos rfl] at k1
 rw [dq, if_pos rfl] at k2
 have len := ok.len
 have xr := ok.prn _ mem
 have hN := lenN_eq ok.nums.1
 have mr := ok.nums.2.2.2.2
 generalize thrI (planOf l) ks ((planOf l).prns.getD 0 0) = A at *
 generalize thrI ((planOf l).more kn' ka ((planOf l).prns.getD 0 0 + 1 + kf)) ks ((planOf l).prns.getD 0 0) = B at *
 unfold PlI at kp
 unfold PlanP.more at *
 unfold plA gA at *
 clear dp dq okq q64 p64 ok gg
 generalize planOf l = p at *
 obtain ⟨d, o, pb, w, mn, mx, nz, prns⟩ := p
 dsimp only at *
 (refine calls_intro (hC.body (by decide) tab310) (Nat.le_of_ble_eq_true rfl) ?_); (show wp C _ none B310.code _ _); (simp only [B310]); simp -implicitDefEqProofs (disch := first | assumption | decide | omega | (simp only [wpD1] <;> omega) | (simp only [wpD2] <;> assumption) | solve_by_elim [zR, zP, zV] | fail) only [↓wpPre, wpPost, wpPoly, Int.reduceToNat, Int.reducePow, Int.reduceMul, Int.reduceAdd, Int.reduceSub, Int.reduceNeg, Nat.reduceAdd, Nat.reduceMul, Nat.reducePow, Int.reduceLT, Int.reduceLE, Int.reduceEq, Nat.reduceEqDiff]
 refine ACallsK.eq (kn _) ?_
 simp -implicitDefEqProofs (disch := first | assumption | decide | omega | (simp only [wpD1] <;> omega) | (simp only [wpD2] <;> assumption) | solve_by_elim [zR, zP, zV] | fail) only [↓wpPre, wpPost, wpPoly, Int.reduceToNat, Int.reducePow, Int.reduceMul, Int.reduceAdd, Int.reduceSub, Int.reduceNeg, Nat.reduceAdd, Nat.reduceMul, Nat.reducePow, Int.reduceLT, Int.reduceLE, Int.reduceEq, Nat.reduceEqDiff]
 refine ACallsK.of (kp _ hl) ?_
 rintro r h5 ⟨s5, vp, rfl, R⟩
 have v1 := R.one
 simp -implicitDefEqProofs (disch := first | assumption | decide | omega | (simp only [wpD1] <;> omega) | (simp only [wpD2] <;> assumption) | solve_by_elim [zR, zP, zV] | fail) only [↓wpPre, wpPost, wpPoly, Int.reduceToNat, Int.reducePow, Int.reduceMul, Int.reduceAdd, Int.reduceSub, Int.reduceNeg, Nat.reduceAdd, Nat.reduceMul, Nat.reducePow, Int.reduceLT, Int.reduceLE, Int.reduceEq, Nat.reduceEqDiff]
 refine ACallsK.eq (ts _) ?_
 simp -implicitDefEqProofs (disch := first | assumption | decide | omega | (simp only [wpD1] <;> omega) | (simp only [wpD2] <;> assumption) | solve_by_elim [zR, zP, zV] | fail) only [↓wpPre, wpPost, wpPoly, Int.reduceToNat, Int.reducePow, Int.reduceMul, Int.reduceAdd, Int.reduceSub, Int.reduceNeg, Nat.reduceAdd, Nat.reduceMul, Nat.reducePow, Int.reduceLT, Int.reduceLE, Int.reduceEq, Nat.reduceEqDiff]
 refine ACallsK.eq (tn _) ?_
 simp -implicitDefEqProofs (disch := first | assumption | decide | omega | (simp only [wpD1] <;> omega) | (simp only [wpD2] <;> assumption) | solve_by_elim [zR, zP, zV] | fail) only [↓wpPre, wpPost, wpPoly, Int.reduceToNat, Int.reducePow, Int.reduceMul, Int.reduceAdd, Int.reduceSub, Int.reduceNeg, Nat.reduceAdd, Nat.reduceMul, Nat.reducePow, Int.reduceLT, Int.reduceLE, Int.reduceEq, Nat.reduceEqDiff]
 refine ACallsK.eq (ta _) ?_
 have i0 : idxA 1 vp (.int .i64 0) = some (elA 1 vp 0) := SL.idx R (k := ((0 : Nat) : Int)) ⟨by omega, by omega⟩
 have ld0 : ∀ H, HSub h5 H → Ae.loadA H false 1 (elA 1 vp 0) = some (.int .i64 (prns.getD 0 0)) := fun H q => (R.mono q).load (by omega)
 have cc : ∀ H, HSub h5 H → contentA H 1 vp = some (prns.length, ints prns) := fun H q => (R.mono q).content
 have cput : ∀ H b, HSub h5 H → contentA (H.put (h5.size + 3) b) 1 vp = some (prns.length, ints prns) := fun H b q => (R.mono (HSub.put q (by omega) b)).content
 have x0 := RI.el0 R (by omega)
 obtain ⟨jv, ov, jl, ev⟩ := x0
 have ej : (elA 1 vp 0).ids = [jv] := by rw [ev]; rfl
 have ldp : ∀ (H : Heap) (i : Nat) (b : ABlk), jv ≠ i → Ae.loadA (H.put i b) false 1 (elA 1 vp 0) = Ae.loadA H false 1 (elA 1 vp 0) := fun H i b hi => load_putE ev hi
 simp -implicitDefEqProofs (disch := first | assumption | decide | omega | (simp only [wpD1] <;> omega) | (simp only [wpD2] <;> assumption) | solve_by_elim [zR, zP, zV] | fail) only [↓wpPre, wpPost, wpPoly, Int.reduceToNat, Int.reducePow, Int.reduceMul, Int.reduceAdd, Int.reduceSub, Int.reduceNeg, Nat.reduceAdd, Nat.reduceMul, Nat.reducePow, Int.reduceLT, Int.reduceLE, Int.reduceEq, Nat.reduceEqDiff, i0, ld0, cc, cput, appKB_growS, Heap.wf, noneIn_two, ej]
 refine ACallsK.eq (tf _) ?_
 have rl := R.len
 have pr1 : prns.length * 1 ≤ (ints prns).length := by rw [ints_length]; omega
 simp -implicitDefEqProofs (disch := first | assumption | decide | omega | (simp only [wpD1] <;> omega) | (simp only [wpD2] <;> assumption) | solve_by_elim [zR, zP, zV] | fail) only [↓wpPre, wpPost, wpPoly, Int.reduceToNat, Int.reducePow, Int.reduceMul, Int.reduceAdd, Int.reduceSub, Int.reduceNeg, Nat.reduceAdd, Nat.reduceMul, Nat.reducePow, Int.reduceLT, Int.reduceLE, Int.reduceEq, Nat.reduceEqDiff, cont_slice, contB_one, noneIn_two, ej, appUB_growS, appUG_none, pr1, Heap.wf, i0, ld0, ldp]
 refine ACallsK.hide (fun Hd hHd => ?_)
 have sD : HSub h5 Hd := by rw [hHd]; exact (by repeat (first | exact HSub.refl h5 | refine HSub.put ?_ (by (try simp only [Heap.size_put, Heap.size_push, Heap.size_reserve]); omega) _ | refine HSub.push ?_ _ | refine HSub.reserve ?_ _))
 have d0 : Hd.get h5.size = some (.cells [.int .i64 d, .int .i64 o, .int .i64 pb, .int .i64 w, .int .i64 mn, .int .i64 mx, .int .i64 nz, vp] true 0) := by rw [hHd]; simp -implicitDefEqProofs (disch := first | assumption | decide | omega | (simp only [wpD1] <;> omega) | (simp only [wpD2] <;> assumption) | solve_by_elim [zR, zP, zV] | fail) only [↓wpPre, wpPost, wpPoly, Int.reduceToNat, Int.reducePow, Int.reduceMul, Int.reduceAdd, Int.reduceSub, Int.reduceNeg, Nat.reduceAdd, Nat.reduceMul, Nat.reducePow, Int.reduceLT, Int.reduceLE, Int.reduceEq, Nat.reduceEqDiff]
 have d1 : Hd.get (h5.size + 1) = some (.cells [.int .i64 8, .int .i64 ks] true 0) := by rw [hHd]; simp -implicitDefEqProofs (disch := first | assumption | decide | omega | (simp only [wpD1] <;> omega) | (simp only [wpD2] <;> assumption) | solve_by_elim [zR, zP, zV] | fail) only [↓wpPre, wpPost, wpPoly, Int.reduceToNat, Int.reducePow, Int.reduceMul, Int.reduceAdd, Int.reduceSub, Int.reduceNeg, Nat.reduceAdd, Nat.reduceMul, Nat.reducePow, Int.reduceLT, Int.reduceLE, Int.reduceEq, Nat.reduceEqDiff]
 have d2 : Hd.get (h5.size + 2) = some (.cells [.int .i64 d, .int .i64 o, .int .i64 pb, .int .i64 w, .int .i64 mn, .int .i64 (mx + ka), .int .i64 (nz + kn'), .slice (h5.size + 1 + 1 + 1 + 13) 0 (prns.length + 1) (.unk 0)] true 0) := by rw [hHd]; simp -implicitDefEqProofs (disch := first | assumption | decide | omega | (simp only [wpD1] <;> omega) | (simp only [wpD2] <;> assumption) | solve_by_elim [zR, zP, zV] | fail) only [↓wpPre, wpPost, wpPoly, Int.reduceToNat, Int.reducePow, Int.reduceMul, Int.reduceAdd, Int.reduceSub, Int.reduceNeg, Nat.reduceAdd, Nat.reduceMul, Nat.reducePow, Int.reduceLT, Int.reduceLE, Int.reduceEq, Nat.reduceEqDiff]
 have ce : cut (ints prns) 0 prns.length ++ [AV.int .i64 (prns.getD 0 0 + 1 + kf)] = ints (prns ++ [prns.getD 0 0 + 1 + kf]) := by
  have : (ints prns).take prns.length = ints prns := List.take_of_length_le (by rw [ints_length]; omega)
  rw [cut, List.drop_zero, this]
  simp [ints]
 have d16 : Hd.get (h5.size + 1 + 1 + 1 + 13) = some (.cells (ints (prns ++ [prns.getD 0 0 + 1 + kf])) true 1) := by rw [hHd, ← ce]; simp -implicitDefEqProofs (disch := first | assumption | decide | omega | (simp only [wpD1] <;> omega) | (simp only [wpD2] <;> assumption) | solve_by_elim [zR, zP, zV] | fail) only [↓wpPre, wpPost, wpPoly, Int.reduceToNat, Int.reducePow, Int.reduceMul, Int.reduceAdd, Int.reduceSub, Int.reduceNeg, Nat.reduceAdd, Nat.reduceMul, Nat.reducePow, Int.reduceLT, Int.reduceLE, Int.reduceEq, Nat.reduceEqDiff]
 have zd : Hd.size = h5.size + 19 := by rw [hHd]; simp -implicitDefEqProofs (disch := first | assumption | decide | omega | (simp only [wpD1] <;> omega) | (simp only [wpD2] <;> assumption) | solve_by_elim [zR, zP, zV] | fail) only [↓wpPre, wpPost, wpPoly, Int.reduceToNat, Int.reducePow, Int.reduceMul, Int.reduceAdd, Int.reduceSub, Int.reduceNeg, Nat.reduceAdd, Nat.reduceMul, Nat.reducePow, Int.reduceLT, Int.reduceLE, Int.reduceEq, Nat.reduceEqDiff]
 have G : GrwI h5 Hd (.slice (h5.size + 1 + 1 + 1 + 13) 0 (prns.length + 1) (.unk 0)) (prns ++ [prns.getD 0 0 + 1 + kf]) :=
  ⟨sD, by simp [ints], by rw [List.length_append, List.length_singleton]; omega, .inr ⟨h5.size + 1 + 1 + 1 + 13, [], by omega, by rw [List.length_append, List.length_singleton], by rw [List.append_nil]; exact d16⟩⟩
 clear hHd
 refine ACallsK.of (k1 _ _ (R.mono sD)) ?_
 rintro r h6 ⟨rfl, s6⟩
 have f0 := (s6.get _ (by omega)).trans d0
 have f1 := (s6.get _ (by omega)).trans d1
 have f2 := (s6.get _ (by omega)).trans d2
 have ld6 := ld0 _ (sD.trans s6)
 simp -implicitDefEqProofs (disch := first | assumption | decide | omega | (simp only [wpD1] <;> omega) | (simp only [wpD2] <;> assumption) | solve_by_elim [zR, zP, zV] | fail) only [↓wpPre, wpPost, wpPoly, Int.reduceToNat, Int.reducePow, Int.reduceMul, Int.reduceAdd, Int.reduceSub, Int.reduceNeg, Nat.reduceAdd, Nat.reduceMul, Nat.reducePow, Int.reduceLT, Int.reduceLE, Int.reduceEq, Nat.reduceEqDiff, tup2, f0, f1, f2, i0, ld6]
 refine ACallsK.of (k2 _ _ (G.ri.mono s6)) ?_
 rintro r h7 ⟨rfl, s7⟩
 simp -implicitDefEqProofs (disch := first | assumption | decide | omega | (simp only [wpD1] <;> omega) | (simp only [wpD2] <;> assumption) | solve_by_elim [zR, zP, zV] | fail) only [↓wpPre, wpPost, wpPoly, Int.reduceToNat, Int.reducePow, Int.reduceMul, Int.reduceAdd, Int.reduceSub, Int.reduceNeg, Nat.reduceAdd, Nat.reduceMul, Nat.reducePow, Int.reduceLT, Int.reduceLE, Int.reduceEq, Nat.reduceEqDiff, tup2, gV_u, mb]
end
end Go.Ae
