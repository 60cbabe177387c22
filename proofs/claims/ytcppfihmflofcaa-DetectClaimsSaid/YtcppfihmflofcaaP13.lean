/- Texts of the proof, part 13: a second reading of the lowered code, proved sound, and what the functions compute. -/
import Derived.Test.YtcppfihmflofcaaP12
/- Full products of two words; what a plan, a gain and a code come to: the program. -/
set_option linter.unusedSimpArgs false
set_option linter.unusedVariables false
namespace Go.Ae
theorem w_u64m (x : Int) : IntKind.u64.wrap x = x % 18446744073709551616 := by
 unfold IntKind.wrap
 rfl
theorem mul_hi {a b : Int} (ha : 0 ≤ a ∧ a < 18446744073709551616) (hb : 0 ≤ b ∧ b < 18446744073709551616) :
  0 ≤ a % 4294967296 * (b % 4294967296) ∧ a % 4294967296 * (b % 4294967296) ≤ 18446744065119617025 ∧ 0 ≤ a / 4294967296 * (b % 4294967296) ∧ a / 4294967296 * (b % 4294967296) ≤ 18446744065119617025 ∧
  0 ≤ a % 4294967296 * (b / 4294967296) ∧ a % 4294967296 * (b / 4294967296) ≤ 18446744065119617025 ∧ 0 ≤ a / 4294967296 * (b / 4294967296) ∧ a / 4294967296 * (b / 4294967296) ≤ 18446744065119617025 ∧
  a * b = a / 4294967296 * (b / 4294967296) * 18446744073709551616 + (a / 4294967296 * (b % 4294967296) + a % 4294967296 * (b / 4294967296)) * 4294967296 + a % 4294967296 * (b % 4294967296) := by
 have ea : a = a / 4294967296 * 4294967296 + a % 4294967296 := by omega
 have eb : b = b / 4294967296 * 4294967296 + b % 4294967296 := by omega
 have a1 : 0 ≤ a / 4294967296 ∧ a / 4294967296 ≤ 4294967295 := by omega
 have a0 : 0 ≤ a % 4294967296 ∧ a % 4294967296 ≤ 4294967295 := by omega
 have b1 : 0 ≤ b / 4294967296 ∧ b / 4294967296 ≤ 4294967295 := by omega
 have b0 : 0 ≤ b % 4294967296 ∧ b % 4294967296 ≤ 4294967295 := by omega
 generalize a / 4294967296 = x1 at *
 generalize a % 4294967296 = x0 at *
 generalize b / 4294967296 = y1 at *
 generalize b % 4294967296 = y0 at *
 have pr : ∀ {x y : Int}, 0 ≤ x ∧ x ≤ 4294967295 → 0 ≤ y ∧ y ≤ 4294967295 → 0 ≤ x * y ∧ x * y ≤ 18446744065119617025 := fun hx hy =>
  ⟨Int.mul_nonneg hx.1 hy.1, Int.le_trans (Int.mul_le_mul hx.2 hy.2 hy.1 (by decide)) (by decide)⟩
 have p1 := pr a0 b0
 have p2 := pr a1 b0
 have p3 := pr a0 b1
 have p4 := pr a1 b1
 refine ⟨p1.1, p1.2, p2.1, p2.2, p3.1, p3.2, p4.1, p4.2, ?_⟩
 rw [ea, eb]
 grind
def askErr (p : PlanP) (b s : Int) : Int := if p.err = 0 then gErr b s else p.err
def detErr (p : PlanP) (b s prn : Int) : Int := if askErr p b s = 0 then if prn ∈ p.prns then 0 else 18 else askErr p b s
theorem askErr_ok {p : PlanP} {b s : Int} (h : askErr p b s = 0) : PlanOk p ∧ gErr b s = 0 := by
 unfold askErr at h
 split at h
 ·rename_i c; exact ⟨planOk_of c, h⟩
 ·contradiction
theorem detErr_ok {p : PlanP} {b s prn : Int} (h : detErr p b s prn = 0) : askErr p b s = 0 ∧ prn ∈ p.prns := by
 unfold detErr at h
 split at h
 ·rename_i c
  split at h
  ·rename_i c2; exact ⟨c, c2⟩
  ·cases h
 ·contradiction
section
variable {C : Ctx}
theorem Mul64_full (hC : Has C T105) {a b : Int} {h : Heap} (ha : 0 ≤ a ∧ a < 18446744073709551616) (hb : 0 ≤ b ∧ b < 18446744073709551616) :
  ACalls C 105 [.int .u64 a, .int .u64 b] h (fun r h' => r = .tuple [.int .u64 (a * b / 18446744073709551616), .int .u64 (a * b % 18446744073709551616)] ∧ h' = h) := by
 obtain ⟨p1, p2, p3, p4, p5, p6, p7, p8, e⟩ := mul_hi ha hb
 have hi : a * b / 18446744073709551616 = a / 4294967296 * (b / 4294967296) + (a / 4294967296 * (b % 4294967296) + a % 4294967296 * (b % 4294967296) / 4294967296) / 4294967296 +
   ((a / 4294967296 * (b % 4294967296) + a % 4294967296 * (b % 4294967296) / 4294967296) % 4294967296 + a % 4294967296 * (b / 4294967296)) / 4294967296 := by
  rw [e]
  generalize a % 4294967296 * (b % 4294967296) = P0 at *
  generalize a / 4294967296 * (b % 4294967296) = P1 at *
  generalize a % 4294967296 * (b / 4294967296) = P2 at *
  generalize a / 4294967296 * (b / 4294967296) = P3 at *
  omega
 have hr : 0 ≤ a * b / 18446744073709551616 ∧ a * b / 18446744073709551616 ≤ 18446744073709551615 := by
  rw [e]
  generalize a % 4294967296 * (b % 4294967296) = P0 at *
  generalize a / 4294967296 * (b % 4294967296) = P1 at *
  generalize a % 4294967296 * (b / 4294967296) = P2 at *
  generalize a / 4294967296 * (b / 4294967296) = P3 at *
  omega
 rw [hi] at hr
 rw [hi]
 have wl := w_u64m (a * b)
 (refine calls_intro (hC.body (by decide) tab105) (Nat.le_of_ble_eq_true rfl) ?_); (show wp C _ none B105.code _ _); (simp only [B105]); simp -implicitDefEqProofs (disch := first | assumption | decide | omega | (simp only [wpD1] <;> omega) | (simp only [wpD2] <;> assumption) | solve_by_elim [zR, zP, zV] | fail) only [↓wpPre, wpPost, wpPoly, Int.reduceToNat, Int.reducePow, Int.reduceMul, Int.reduceAdd, Int.reduceSub, Int.reduceNeg, Nat.reduceAdd, Nat.reduceMul, Nat.reducePow, Int.reduceLT, Int.reduceLE, Int.reduceEq, Nat.reduceEqDiff, and_u64m, wl]
theorem plan349_spec (hC : Has C T349) {p : PlanP} {vp : AV} {b s : Int} {h : Heap} (R : RI h vp p.prns) (h64 : p.ok64) : ACalls C 349 [askA p vp b s] h (fun r h' => r = .int .i64 p.err ∧ h' = h) := by
 refine ACalls.gc0 (P := fun r h' => r = .int .i64 p.err ∧ HSub h h') ?_ (fun r h' hp => ⟨by rw [hp.1]; trivial, hp.2, hp.1, rfl⟩)
 have v1 := R.one
 have kp := fun H (R1 : RI H vp p.prns) => CheckPlan_spec (hC.sub (T' := T219) (by decide)) (h := H) (p := p) ⟨vp, rfl, R1⟩ h64
 unfold askA
 (refine calls_intro (hC.body (by decide) tab349) (Nat.le_of_ble_eq_true rfl) ?_); (show wp C _ none B349.code _ _); (simp only [B349]); simp -implicitDefEqProofs (disch := first | assumption | decide | omega | (simp only [wpD1] <;> omega) | (simp only [wpD2] <;> assumption) | solve_by_elim [zR, zP, zV] | fail) only [↓wpPre, wpPost, wpPoly, Int.reduceToNat, Int.reducePow, Int.reduceMul, Int.reduceAdd, Int.reduceSub, Int.reduceNeg, Nat.reduceAdd, Nat.reduceMul, Nat.reducePow, Int.reduceLT, Int.reduceLE, Int.reduceEq, Nat.reduceEqDiff]
 refine ACallsK.eq (kp _ (R.mono (by repeat (first | exact HSub.refl h | refine HSub.put ?_ (by (try simp only [Heap.size_put, Heap.size_push, Heap.size_reserve]); omega) _ | refine HSub.push ?_ _ | refine HSub.reserve ?_ _)))) ?_
 simp -implicitDefEqProofs (disch := first | assumption | decide | omega | (simp only [wpD1] <;> omega) | (simp only [wpD2] <;> assumption) | solve_by_elim [zR, zP, zV] | fail) only [↓wpPre, wpPost, wpPoly, Int.reduceToNat, Int.reducePow, Int.reduceMul, Int.reduceAdd, Int.reduceSub, Int.reduceNeg, Nat.reduceAdd, Nat.reduceMul, Nat.reducePow, Int.reduceLT, Int.reduceLE, Int.reduceEq, Nat.reduceEqDiff]
 exact (by repeat (first | exact HSub.refl h | refine HSub.put ?_ (by (try simp only [Heap.size_put, Heap.size_push, Heap.size_reserve]); omega) _ | refine HSub.push ?_ _ | refine HSub.reserve ?_ _))
theorem gain350_spec (hC : Has C T350) {p : PlanP} {vp : AV} {b s : Int} {h : Heap} (v1 : vp.one = true) : ACalls C 350 [askA p vp b s] h (fun r h' => r = .int .i64 (gErr b s) ∧ h' = h) := by
 refine ACalls.gc0 (P := fun r h' => r = .int .i64 (gErr b s) ∧ HSub h h') ?_ (fun r h' hp => ⟨by rw [hp.1]; trivial, hp.2, hp.1, rfl⟩)
 have kp := fun H => qCheck_spec (hC.sub (T' := T357) (by decide)) (h := H) (b := b) (s := s)
 unfold askA
 unfold gA at kp
 (refine calls_intro (hC.body (by decide) tab350) (Nat.le_of_ble_eq_true rfl) ?_); (show wp C _ none B350.code _ _); (simp only [B350]); simp -implicitDefEqProofs (disch := first | assumption | decide | omega | (simp only [wpD1] <;> omega) | (simp only [wpD2] <;> assumption) | solve_by_elim [zR, zP, zV] | fail) only [↓wpPre, wpPost, wpPoly, Int.reduceToNat, Int.reducePow, Int.reduceMul, Int.reduceAdd, Int.reduceSub, Int.reduceNeg, Nat.reduceAdd, Nat.reduceMul, Nat.reducePow, Int.reduceLT, Int.reduceLE, Int.reduceEq, Nat.reduceEqDiff]
 refine ACallsK.eq (kp _) ?_
 simp -implicitDefEqProofs (disch := first | assumption | decide | omega | (simp only [wpD1] <;> omega) | (simp only [wpD2] <;> assumption) | solve_by_elim [zR, zP, zV] | fail) only [↓wpPre, wpPost, wpPoly, Int.reduceToNat, Int.reducePow, Int.reduceMul, Int.reduceAdd, Int.reduceSub, Int.reduceNeg, Nat.reduceAdd, Nat.reduceMul, Nat.reducePow, Int.reduceLT, Int.reduceLE, Int.reduceEq, Nat.reduceEqDiff]
 exact (by repeat (first | exact HSub.refl h | refine HSub.put ?_ (by (try simp only [Heap.size_put, Heap.size_push, Heap.size_reserve]); omega) _ | refine HSub.push ?_ _ | refine HSub.reserve ?_ _))
theorem check339_spec (hC : Has C T339) {p : PlanP} {vp : AV} {b s : Int} {h : Heap} (R : RI h vp p.prns) (h64 : p.ok64) : ACalls C 339 [askA p vp b s] h (fun r h' => r = .int .i64 (askErr p b s) ∧ h' = h) := by
 refine ACalls.gc0 (P := fun r h' => r = .int .i64 (askErr p b s) ∧ HSub h h') ?_ (fun r h' hp => ⟨by rw [hp.1]; trivial, hp.2, hp.1, rfl⟩)
 have v1 := R.one
 have k1 := fun H (R1 : RI H vp p.prns) => plan349_spec (b := b) (s := s) (hC.sub (T' := T349) (by decide)) (h := H) R1 h64
 have k2 := fun H => gain350_spec (p := p) (vp := vp) (b := b) (s := s) (hC.sub (T' := T350) (by decide)) (h := H) v1
 have e0 : p.err = 0 → askErr p b s = gErr b s := fun e => by unfold askErr; rw [if_pos e]
 have e1 : p.err ≠ 0 → askErr p b s = p.err := fun e => by unfold askErr; rw [if_neg e]
 generalize askErr p b s = E at *
 generalize p.err = PE at *
 have xA : ∃ A, A = askA p vp b s := ⟨_, rfl⟩
 obtain ⟨A, hA⟩ := xA
 rw [← hA] at k1 k2 ⊢
 (refine calls_intro (hC.body (by decide) tab339) (Nat.le_of_ble_eq_true rfl) ?_); (show wp C _ none B339.code _ _); (simp only [B339]); simp -implicitDefEqProofs (disch := first | assumption | decide | omega | (simp only [wpD1] <;> omega) | (simp only [wpD2] <;> assumption) | solve_by_elim [zR, zP, zV] | fail) only [↓wpPre, wpPost, wpPoly, Int.reduceToNat, Int.reducePow, Int.reduceMul, Int.reduceAdd, Int.reduceSub, Int.reduceNeg, Nat.reduceAdd, Nat.reduceMul, Nat.reducePow, Int.reduceLT, Int.reduceLE, Int.reduceEq, Nat.reduceEqDiff, hA, askA]
 refine wp_loopI (fun j t h' => HSub h h' ∧ ∃ k : Nat, t 10 = .agg [.func 349 [A] [], .func 350 [A] []] ∧ t 11 = .int .i64 (k : Nat) ∧ k ≤ 2 ∧ (0 < k → PE = 0) ∧ (1 < k → gErr b s = 0) ∧ j = 2 - k) (j0 := 2)
  ⟨(by repeat (first | exact HSub.refl h | refine HSub.put ?_ (by (try simp only [Heap.size_put, Heap.size_push, Heap.size_reserve]); omega) _ | refine HSub.push ?_ _ | refine HSub.reserve ?_ _)), 0, by rw [hA]; rfl, rfl, by omega, by omega, by omega, rfl⟩ ?_
 rintro j t h' ⟨sH, k, e10, e11, hk, q1, q2, hj⟩
 rcases (show k = 0 ∨ k = 1 ∨ k = 2 by omega) with rfl | rfl | rfl
 ·simp -implicitDefEqProofs (disch := first | assumption | decide | omega | (simp only [wpD1] <;> omega) | (simp only [wpD2] <;> assumption) | solve_by_elim [zR, zP, zV] | fail) only [↓wpPre, wpPost, wpPoly, Int.reduceToNat, Int.reducePow, Int.reduceMul, Int.reduceAdd, Int.reduceSub, Int.reduceNeg, Nat.reduceAdd, Nat.reduceMul, Nat.reducePow, Int.reduceLT, Int.reduceLE, Int.reduceEq, Nat.reduceEqDiff, e10, e11, idxVal_agg]
  refine ACallsK.eq (k1 _ (R.mono sH)) ?_
  by_cases c : PE = 0
  ·simp -implicitDefEqProofs (disch := first | assumption | decide | omega | (simp only [wpD1] <;> omega) | (simp only [wpD2] <;> assumption) | solve_by_elim [zR, zP, zV] | fail) only [↓wpPre, wpPost, wpPoly, Int.reduceToNat, Int.reducePow, Int.reduceMul, Int.reduceAdd, Int.reduceSub, Int.reduceNeg, Nat.reduceAdd, Nat.reduceMul, Nat.reducePow, Int.reduceLT, Int.reduceLE, Int.reduceEq, Nat.reduceEqDiff, c, e10, e11]
   exact ⟨1, ⟨sH, 1, by omega, by omega, by omega, rfl⟩, by omega⟩
  ·simp -implicitDefEqProofs (disch := first | assumption | decide | omega | (simp only [wpD1] <;> omega) | (simp only [wpD2] <;> assumption) | solve_by_elim [zR, zP, zV] | fail) only [↓wpPre, wpPost, wpPoly, Int.reduceToNat, Int.reducePow, Int.reduceMul, Int.reduceAdd, Int.reduceSub, Int.reduceNeg, Nat.reduceAdd, Nat.reduceMul, Nat.reducePow, Int.reduceLT, Int.reduceLE, Int.reduceEq, Nat.reduceEqDiff, c, e10, e11]
   exact ⟨by rw [e1 c], sH⟩
 ·simp -implicitDefEqProofs (disch := first | assumption | decide | omega | (simp only [wpD1] <;> omega) | (simp only [wpD2] <;> assumption) | solve_by_elim [zR, zP, zV] | fail) only [↓wpPre, wpPost, wpPoly, Int.reduceToNat, Int.reducePow, Int.reduceMul, Int.reduceAdd, Int.reduceSub, Int.reduceNeg, Nat.reduceAdd, Nat.reduceMul, Nat.reducePow, Int.reduceLT, Int.reduceLE, Int.reduceEq, Nat.reduceEqDiff, e10, e11, idxVal_agg]
  refine ACallsK.eq (k2 _) ?_
  rcases gErr_cases b s with c | c
  ·simp -implicitDefEqProofs (disch := first | assumption | decide | omega | (simp only [wpD1] <;> omega) | (simp only [wpD2] <;> assumption) | solve_by_elim [zR, zP, zV] | fail) only [↓wpPre, wpPost, wpPoly, Int.reduceToNat, Int.reducePow, Int.reduceMul, Int.reduceAdd, Int.reduceSub, Int.reduceNeg, Nat.reduceAdd, Nat.reduceMul, Nat.reducePow, Int.reduceLT, Int.reduceLE, Int.reduceEq, Nat.reduceEqDiff, c, e10, e11]
   have q := q1 (by omega)
   exact ⟨0, ⟨sH, 2, by omega, by omega, by omega, rfl⟩, by omega⟩
  ·simp -implicitDefEqProofs (disch := first | assumption | decide | omega | (simp only [wpD1] <;> omega) | (simp only [wpD2] <;> assumption) | solve_by_elim [zR, zP, zV] | fail) only [↓wpPre, wpPost, wpPoly, Int.reduceToNat, Int.reducePow, Int.reduceMul, Int.reduceAdd, Int.reduceSub, Int.reduceNeg, Nat.reduceAdd, Nat.reduceMul, Nat.reducePow, Int.reduceLT, Int.reduceLE, Int.reduceEq, Nat.reduceEqDiff, c, e10, e11]
   exact ⟨by rw [e0 (q1 (by omega)), c], sH⟩
 ·simp -implicitDefEqProofs (disch := first | assumption | decide | omega | (simp only [wpD1] <;> omega) | (simp only [wpD2] <;> assumption) | solve_by_elim [zR, zP, zV] | fail) only [↓wpPre, wpPost, wpPoly, Int.reduceToNat, Int.reducePow, Int.reduceMul, Int.reduceAdd, Int.reduceSub, Int.reduceNeg, Nat.reduceAdd, Nat.reduceMul, Nat.reducePow, Int.reduceLT, Int.reduceLE, Int.reduceEq, Nat.reduceEqDiff, e10, e11]
  exact ⟨by rw [e0 (q1 (by omega)), q2 (by omega)], sH⟩
set_option maxHeartbeats 1000000 in
set_option maxRecDepth 20000 in
theorem right331_spec (hC : Has C T331) {p : PlanP} {vp : AV} {b s prn : Int} {h : Heap} (R : RI h vp p.prns) (h64 : p.ok64) :
  ACalls C 331 [plA p vp, gA b s, .int .i64 prn] h (fun r h' => HSub h h' ∧ ∃ sv, r = .tuple [askA p vp b s, sv, .int .i64 (detErr p b s prn)] ∧ (∃ a1 a2 a3, sv = .agg [a1, a2, a3] ∧ [a1, a2, a3].all AV.one = true) ∧ (detErr p b s prn = 0 → SumV h' sv p s)) := by
 have v1 := R.one
 have kc := fun H (R1 : RI H vp p.prns) => check339_spec (b := b) (s := s) (hC.sub (T' := T339) (by decide)) (h := H) R1 h64
 have kn := fun (ok : PlanOk p) (hg : gErr b s = 0) H (R1 : RI H vp p.prns) => known340_spec (hC.sub (T' := T340) (by decide)) (h := H) ok hg h64 R1
 have e0 : askErr p b s ≠ 0 → detErr p b s prn = askErr p b s := fun e => by unfold detErr; rw [if_neg e]
 have e1 : askErr p b s = 0 → detErr p b s prn = if prn ∈ p.prns then 0 else 18 := fun e => by unfold detErr; rw [if_pos e]
 have o0 : AV.nilmap.one = true := rfl
 generalize detErr p b s prn = E at *
 unfold askA at kc kn
 unfold plA gA askA
 by_cases c : askErr p b s = 0
 ·obtain ⟨ok, hg⟩ := askErr_ok c
  rw [c] at kc
  have e1 := e1 c
  clear e0
  obtain ⟨d, o, pb, w, mn, mx, nz, prns⟩ := p
  dsimp only at *
  (refine calls_intro (hC.body (by decide) tab331) (Nat.le_of_ble_eq_true rfl) ?_); (show wp C _ none B331.code _ _); (simp only [B331]); simp -implicitDefEqProofs (disch := first | assumption | decide | omega | (simp only [wpD1] <;> omega) | (simp only [wpD2] <;> assumption) | solve_by_elim [zR, zP, zV] | fail) only [↓wpPre, wpPost, wpPoly, Int.reduceToNat, Int.reducePow, Int.reduceMul, Int.reduceAdd, Int.reduceSub, Int.reduceNeg, Nat.reduceAdd, Nat.reduceMul, Nat.reducePow, Int.reduceLT, Int.reduceLE, Int.reduceEq, Nat.reduceEqDiff, o0, wpMap]
  refine ACallsK.eq (kc _ (R.mono (by repeat (first | exact HSub.refl h | refine HSub.put ?_ (by (try simp only [Heap.size_put, Heap.size_push, Heap.size_reserve]); omega) _ | refine HSub.push ?_ _ | refine HSub.reserve ?_ _)))) ?_
  simp -implicitDefEqProofs (disch := first | assumption | decide | omega | (simp only [wpD1] <;> omega) | (simp only [wpD2] <;> assumption) | solve_by_elim [zR, zP, zV] | fail) only [↓wpPre, wpPost, wpPoly, Int.reduceToNat, Int.reducePow, Int.reduceMul, Int.reduceAdd, Int.reduceSub, Int.reduceNeg, Nat.reduceAdd, Nat.reduceMul, Nat.reducePow, Int.reduceLT, Int.reduceLE, Int.reduceEq, Nat.reduceEqDiff, wpMap]
  refine ACallsK.of (kn ok hg _ (R.mono (by repeat (first | exact HSub.refl h | refine HSub.put ?_ (by (try simp only [Heap.size_put, Heap.size_push, Heap.size_reserve]); omega) _ | refine HSub.push ?_ _ | refine HSub.reserve ?_ _)))) ?_
  rintro r h2 ⟨V, sA⟩
  obtain ⟨j, rfl, gm⟩ := V
  have o1 : (AV.map j).one = true := rfl
  have z2 := sA.size
  simp only [Heap.size_push] at z2
  have jl := Heap.lt_of_get gm
  have g9 : h2.get (h.size + 4) = some (.cells [.int .i64 d, .int .i64 o, .int .i64 pb, .int .i64 w, .int .i64 mn, .int .i64 mx, .int .i64 nz, vp, .int .i64 b, .int .i64 s] true 0) := (sA.get _ (by simp only [Heap.size_push]; omega)).trans (by simp -implicitDefEqProofs (disch := first | assumption | decide | omega | (simp only [wpD1] <;> omega) | (simp only [wpD2] <;> assumption) | solve_by_elim [zR, zP, zV] | fail) only [↓wpPre, wpPost, wpPoly, Int.reduceToNat, Int.reducePow, Int.reduceMul, Int.reduceAdd, Int.reduceSub, Int.reduceNeg, Nat.reduceAdd, Nat.reduceMul, Nat.reducePow, Int.reduceLT, Int.reduceLE, Int.reduceEq, Nat.reduceEqDiff])
  have g6 : h2.get (h.size + 2) = some (.cells [.int .i64 0, .int .i64 0, .int .i64 0, .int .i64 0, .int .i64 0, .int .i64 0, .int .i64 0, .nilslice, .int .i64 0, .int .i64 0] true 0) := (sA.get _ (by simp only [Heap.size_push]; omega)).trans (by simp -implicitDefEqProofs (disch := first | assumption | decide | omega | (simp only [wpD1] <;> omega) | (simp only [wpD2] <;> assumption) | solve_by_elim [zR, zP, zV] | fail) only [↓wpPre, wpPost, wpPoly, Int.reduceToNat, Int.reducePow, Int.reduceMul, Int.reduceAdd, Int.reduceSub, Int.reduceNeg, Nat.reduceAdd, Nat.reduceMul, Nat.reducePow, Int.reduceLT, Int.reduceLE, Int.reduceEq, Nat.reduceEqDiff])
  have g7 : h2.get (h.size + 3) = some (.cells [.nilmap, .int .i64 0, .int .i64 0] true 0) := (sA.get _ (by simp only [Heap.size_push]; omega)).trans (by simp -implicitDefEqProofs (disch := first | assumption | decide | omega | (simp only [wpD1] <;> omega) | (simp only [wpD2] <;> assumption) | solve_by_elim [zR, zP, zV] | fail) only [↓wpPre, wpPost, wpPoly, Int.reduceToNat, Int.reducePow, Int.reduceMul, Int.reduceAdd, Int.reduceSub, Int.reduceNeg, Nat.reduceAdd, Nat.reduceMul, Nat.reducePow, Int.reduceLT, Int.reduceLE, Int.reduceEq, Nat.reduceEqDiff])
  have hs2 : HSub h h2 := (show HSub h _ from (by repeat (first | exact HSub.refl h | refine HSub.put ?_ (by (try simp only [Heap.size_put, Heap.size_push, Heap.size_reserve]); omega) _ | refine HSub.push ?_ _ | refine HSub.reserve ?_ _))).trans sA
  clear sA kn
  by_cases ci : prn ∈ prns
  ·have lk := look_in2 (f := sumI d o) (z := .int .i64 0) (mem_grid.2 ⟨ci, ci⟩)
   simp only [keyP, ksP] at lk
   rw [if_pos ci] at e1
   subst e1
   have n6 : j ≠ h.size + 2 := by rintro rfl; rw [g6] at gm; cases gm
   have n7 : j ≠ h.size + 3 := by rintro rfl; rw [g7] at gm; cases gm
   simp -implicitDefEqProofs (disch := first | assumption | decide | omega | (simp only [wpD1] <;> omega) | (simp only [wpD2] <;> assumption) | solve_by_elim [zR, zP, zV] | fail) only [↓wpPre, wpPost, wpPoly, Int.reduceToNat, Int.reducePow, Int.reduceMul, Int.reduceAdd, Int.reduceSub, Int.reduceNeg, Nat.reduceAdd, Nat.reduceMul, Nat.reducePow, Int.reduceLT, Int.reduceLE, Int.reduceEq, Nat.reduceEqDiff, wpMap, gm, lk, g9, g6, g7]
   exact ⟨(by repeat (first | exact hs2 | refine HSub.put ?_ (by (try simp only [Heap.size_put, Heap.size_push, Heap.size_reserve]); omega) _ | refine HSub.push ?_ _ | refine HSub.reserve ?_ _)), _, rfl, ⟨_, _, _, rfl, rfl⟩, fun _ => ⟨j, rfl, by rw [get_push_lt (by simp only [Heap.size_put]; omega), get_put_ne (by omega), get_put_ne (by omega)]; exact gm⟩⟩
  ·have lk := look_out2 (f := sumI d o) (x := prn) (y := prn) (K := grid prns prns) (z := .int .i64 0) (fun q => ci (mem_grid.1 q).1)
   simp only [keyP, ksP] at lk
   rw [if_neg ci] at e1
   subst e1
   simp -implicitDefEqProofs (disch := first | assumption | decide | omega | (simp only [wpD1] <;> omega) | (simp only [wpD2] <;> assumption) | solve_by_elim [zR, zP, zV] | fail) only [↓wpPre, wpPost, wpPoly, Int.reduceToNat, Int.reducePow, Int.reduceMul, Int.reduceAdd, Int.reduceSub, Int.reduceNeg, Nat.reduceAdd, Nat.reduceMul, Nat.reducePow, Int.reduceLT, Int.reduceLE, Int.reduceEq, Nat.reduceEqDiff, wpMap, gm, lk, g9, g6, g7]
   exact ⟨(by repeat (first | exact hs2 | refine HSub.put ?_ (by (try simp only [Heap.size_put, Heap.size_push, Heap.size_reserve]); omega) _ | refine HSub.push ?_ _ | refine HSub.reserve ?_ _)), _, rfl, _, _, _, rfl, rfl⟩
 ·rw [e0 c]
  have e2 : askErr p b s = 0 → False := c
  generalize askErr p b s = AE at *
  obtain ⟨d, o, pb, w, mn, mx, nz, prns⟩ := p
  dsimp only at *
  (refine calls_intro (hC.body (by decide) tab331) (Nat.le_of_ble_eq_true rfl) ?_); (show wp C _ none B331.code _ _); (simp only [B331]); simp -implicitDefEqProofs (disch := first | assumption | decide | omega | (simp only [wpD1] <;> omega) | (simp only [wpD2] <;> assumption) | solve_by_elim [zR, zP, zV] | fail) only [↓wpPre, wpPost, wpPoly, Int.reduceToNat, Int.reducePow, Int.reduceMul, Int.reduceAdd, Int.reduceSub, Int.reduceNeg, Nat.reduceAdd, Nat.reduceMul, Nat.reducePow, Int.reduceLT, Int.reduceLE, Int.reduceEq, Nat.reduceEqDiff, o0, wpMap]
  refine ACallsK.eq (kc _ (R.mono (by repeat (first | exact HSub.refl h | refine HSub.put ?_ (by (try simp only [Heap.size_put, Heap.size_push, Heap.size_reserve]); omega) _ | refine HSub.push ?_ _ | refine HSub.reserve ?_ _)))) ?_
  simp -implicitDefEqProofs (disch := first | assumption | decide | omega | (simp only [wpD1] <;> omega) | (simp only [wpD2] <;> assumption) | solve_by_elim [zR, zP, zV] | fail) only [↓wpPre, wpPost, wpPoly, Int.reduceToNat, Int.reducePow, Int.reduceMul, Int.reduceAdd, Int.reduceSub, Int.reduceNeg, Nat.reduceAdd, Nat.reduceMul, Nat.reducePow, Int.reduceLT, Int.reduceLE, Int.reduceEq, Nat.reduceEqDiff, c, wpMap]
  exact ⟨(by repeat (first | exact HSub.refl h | refine HSub.put ?_ (by (try simp only [Heap.size_put, Heap.size_push, Heap.size_reserve]); omega) _ | refine HSub.push ?_ _ | refine HSub.reserve ?_ _)), _, rfl, _, _, _, rfl, rfl⟩
set_option maxRecDepth 20000 in
theorem Bound_spec (hC : Has C T315) {p : PlanP} {vp : AV} {b s prn : Int} {h : Heap} (R : RI h vp p.prns) (h64 : p.ok64) :
  ACalls C 315 [plA p vp, gA b s, .int .i64 prn] h (fun r h' => r = (if detErr p b s prn = 0 then tup2 (boundI p s prn) 0 else tup2 0 (detErr p b s prn)) ∧ HSub h h') := by
 have v1 := R.one
 have kr := fun H (R1 : RI H vp p.prns) => right331_spec (b := b) (s := s) (prn := prn) (hC.sub (T' := T331) (by decide)) (h := H) R1 h64
 have kb := fun (ok : PlanOk p) (hs : 0 ≤ s ∧ s ≤ 30) H sv (R1 : RI H vp p.prns) (V : SumV H sv p s) (hin : prn ∈ p.prns) => bound334_spec (b := b) (hC.sub (T' := T334) (by decide)) (h := H) ok hs R1 V hin
 have e0 : detErr p b s prn = 0 → askErr p b s = 0 ∧ prn ∈ p.prns := detErr_ok
 generalize detErr p b s prn = E at *
 unfold askA plA gA at *
 by_cases c : E = 0
 ·subst c
  obtain ⟨ea, hin⟩ := e0 rfl
  obtain ⟨ok, hg⟩ := askErr_ok ea
  have kb := fun H sv R1 V => kb ok (gErr_ok hg).2.2 H sv R1 V hin
  generalize boundI p s prn = B at *
  obtain ⟨d, o, pb, w, mn, mx, nz, prns⟩ := p
  dsimp only at *
  (refine calls_intro (hC.body (by decide) tab315) (Nat.le_of_ble_eq_true rfl) ?_); (show wp C _ none B315.code _ _); (simp only [B315]); simp -implicitDefEqProofs (disch := first | assumption | decide | omega | (simp only [wpD1] <;> omega) | (simp only [wpD2] <;> assumption) | solve_by_elim [zR, zP, zV] | fail) only [↓wpPre, wpPost, wpPoly, Int.reduceToNat, Int.reducePow, Int.reduceMul, Int.reduceAdd, Int.reduceSub, Int.reduceNeg, Nat.reduceAdd, Nat.reduceMul, Nat.reducePow, Int.reduceLT, Int.reduceLE, Int.reduceEq, Nat.reduceEqDiff]
  refine ACallsK.of (kr _ (R.mono (by repeat (first | exact HSub.refl h | refine HSub.put ?_ (by (try simp only [Heap.size_put, Heap.size_push, Heap.size_reserve]); omega) _ | refine HSub.push ?_ _ | refine HSub.reserve ?_ _)))) ?_
  rintro r h2 ⟨sA, sv, rfl, ⟨a1, a2, a3, rfl, o1⟩, V⟩
  have V := V rfl
  have hs2 : HSub h h2 := (show HSub h _ from (by repeat (first | exact HSub.refl h | refine HSub.put ?_ (by (try simp only [Heap.size_put, Heap.size_push, Heap.size_reserve]); omega) _ | refine HSub.push ?_ _ | refine HSub.reserve ?_ _))).trans sA
  have z2 := sA.size
  simp only [Heap.size_push] at z2
  simp -implicitDefEqProofs (disch := first | assumption | decide | omega | (simp only [wpD1] <;> omega) | (simp only [wpD2] <;> assumption) | solve_by_elim [zR, zP, zV] | fail) only [↓wpPre, wpPost, wpPoly, Int.reduceToNat, Int.reducePow, Int.reduceMul, Int.reduceAdd, Int.reduceSub, Int.reduceNeg, Nat.reduceAdd, Nat.reduceMul, Nat.reducePow, Int.reduceLT, Int.reduceLE, Int.reduceEq, Nat.reduceEqDiff, wpMap]
  refine ACallsK.eq (kb _ _ (R.mono (by repeat (first | exact hs2 | refine HSub.put ?_ (by (try simp only [Heap.size_put, Heap.size_push, Heap.size_reserve]); omega) _ | refine HSub.push ?_ _ | refine HSub.reserve ?_ _))) (V.mono (by repeat (first | exact HSub.refl h2 | refine HSub.put ?_ (by (try simp only [Heap.size_put, Heap.size_push, Heap.size_reserve]); omega) _ | refine HSub.push ?_ _ | refine HSub.reserve ?_ _)))) ?_
  simp -implicitDefEqProofs (disch := first | assumption | decide | omega | (simp only [wpD1] <;> omega) | (simp only [wpD2] <;> assumption) | solve_by_elim [zR, zP, zV] | fail) only [↓wpPre, wpPost, wpPoly, Int.reduceToNat, Int.reducePow, Int.reduceMul, Int.reduceAdd, Int.reduceSub, Int.reduceNeg, Nat.reduceAdd, Nat.reduceMul, Nat.reducePow, Int.reduceLT, Int.reduceLE, Int.reduceEq, Nat.reduceEqDiff]
  exact ⟨rfl, (by repeat (first | exact hs2 | refine HSub.put ?_ (by (try simp only [Heap.size_put, Heap.size_push, Heap.size_reserve]); omega) _ | refine HSub.push ?_ _ | refine HSub.reserve ?_ _))⟩
 ·obtain ⟨d, o, pb, w, mn, mx, nz, prns⟩ := p
  dsimp only at *
  (refine calls_intro (hC.body (by decide) tab315) (Nat.le_of_ble_eq_true rfl) ?_); (show wp C _ none B315.code _ _); (simp only [B315]); simp -implicitDefEqProofs (disch := first | assumption | decide | omega | (simp only [wpD1] <;> omega) | (simp only [wpD2] <;> assumption) | solve_by_elim [zR, zP, zV] | fail) only [↓wpPre, wpPost, wpPoly, Int.reduceToNat, Int.reducePow, Int.reduceMul, Int.reduceAdd, Int.reduceSub, Int.reduceNeg, Nat.reduceAdd, Nat.reduceMul, Nat.reducePow, Int.reduceLT, Int.reduceLE, Int.reduceEq, Nat.reduceEqDiff]
  refine ACallsK.of (kr _ (R.mono (by repeat (first | exact HSub.refl h | refine HSub.put ?_ (by (try simp only [Heap.size_put, Heap.size_push, Heap.size_reserve]); omega) _ | refine HSub.push ?_ _ | refine HSub.reserve ?_ _)))) ?_
  rintro r h2 ⟨sA, sv, rfl, ⟨a1, a2, a3, rfl, o1⟩, V⟩
  have hs2 : HSub h h2 := (show HSub h _ from (by repeat (first | exact HSub.refl h | refine HSub.put ?_ (by (try simp only [Heap.size_put, Heap.size_push, Heap.size_reserve]); omega) _ | refine HSub.push ?_ _ | refine HSub.reserve ?_ _))).trans sA
  simp -implicitDefEqProofs (disch := first | assumption | decide | omega | (simp only [wpD1] <;> omega) | (simp only [wpD2] <;> assumption) | solve_by_elim [zR, zP, zV] | fail) only [↓wpPre, wpPost, wpPoly, Int.reduceToNat, Int.reducePow, Int.reduceMul, Int.reduceAdd, Int.reduceSub, Int.reduceNeg, Nat.reduceAdd, Nat.reduceMul, Nat.reducePow, Int.reduceLT, Int.reduceLE, Int.reduceEq, Nat.reduceEqDiff, wpMap, c]
  exact ⟨by simp [tup2], (by repeat (first | exact hs2 | refine HSub.put ?_ (by (try simp only [Heap.size_put, Heap.size_push, Heap.size_reserve]); omega) _ | refine HSub.push ?_ _ | refine HSub.reserve ?_ _))⟩
set_option maxRecDepth 20000 in
theorem Threshold_spec (hC : Has C T317) {p : PlanP} {vp : AV} {b s prn : Int} {h : Heap} (R : RI h vp p.prns) (h64 : p.ok64) :
  ACalls C 317 [plA p vp, gA b s, .int .i64 prn] h (fun r h' => r = (if detErr p b s prn = 0 then tup2 (thrI p s prn) 0 else tup2 0 (detErr p b s prn)) ∧ HSub h h') := by
 have v1 := R.one
 have kr := fun H (R1 : RI H vp p.prns) => right331_spec (b := b) (s := s) (prn := prn) (hC.sub (T' := T331) (by decide)) (h := H) R1 h64
 have kb := fun (ok : PlanOk p) (hs : 0 ≤ s ∧ s ≤ 30) H sv (R1 : RI H vp p.prns) (V : SumV H sv p s) (hin : prn ∈ p.prns) => thr332_spec (b := b) (hC.sub (T' := T332) (by decide)) (h := H) ok hs R1 V hin
 have e0 : detErr p b s prn = 0 → askErr p b s = 0 ∧ prn ∈ p.prns := detErr_ok
 generalize detErr p b s prn = E at *
 unfold askA plA gA at *
 by_cases c : E = 0
 ·subst c
  obtain ⟨ea, hin⟩ := e0 rfl
  obtain ⟨ok, hg⟩ := askErr_ok ea
  have kb := fun H sv R1 V => kb ok (gErr_ok hg).2.2 H sv R1 V hin
  generalize thrI p s prn = B at *
  obtain ⟨d, o, pb, w, mn, mx, nz, prns⟩ := p
  dsimp only at *
  (refine calls_intro (hC.body (by decide) tab317) (Nat.le_of_ble_eq_true rfl) ?_); (show wp C _ none B317.code _ _); (simp only [B317]); simp -implicitDefEqProofs (disch := first | assumption | decide | omega | (simp only [wpD1] <;> omega) | (simp only [wpD2] <;> assumption) | solve_by_elim [zR, zP, zV] | fail) only [↓wpPre, wpPost, wpPoly, Int.reduceToNat, Int.reducePow, Int.reduceMul, Int.reduceAdd, Int.reduceSub, Int.reduceNeg, Nat.reduceAdd, Nat.reduceMul, Nat.reducePow, Int.reduceLT, Int.reduceLE, Int.reduceEq, Nat.reduceEqDiff]
  refine ACallsK.of (kr _ (R.mono (by repeat (first | exact HSub.refl h | refine HSub.put ?_ (by (try simp only [Heap.size_put, Heap.size_push, Heap.size_reserve]); omega) _ | refine HSub.push ?_ _ | refine HSub.reserve ?_ _)))) ?_
  rintro r h2 ⟨sA, sv, rfl, ⟨a1, a2, a3, rfl, o1⟩, V⟩
  have V := V rfl
  have hs2 : HSub h h2 := (show HSub h _ from (by repeat (first | exact HSub.refl h | refine HSub.put ?_ (by (try simp only [Heap.size_put, Heap.size_push, Heap.size_reserve]); omega) _ | refine HSub.push ?_ _ | refine HSub.reserve ?_ _))).trans sA
  have z2 := sA.size
  simp only [Heap.size_push] at z2
  simp -implicitDefEqProofs (disch := first | assumption | decide | omega | (simp only [wpD1] <;> omega) | (simp only [wpD2] <;> assumption) | solve_by_elim [zR, zP, zV] | fail) only [↓wpPre, wpPost, wpPoly, Int.reduceToNat, Int.reducePow, Int.reduceMul, Int.reduceAdd, Int.reduceSub, Int.reduceNeg, Nat.reduceAdd, Nat.reduceMul, Nat.reducePow, Int.reduceLT, Int.reduceLE, Int.reduceEq, Nat.reduceEqDiff, wpMap]
  refine ACallsK.eq (kb _ _ (R.mono (by repeat (first | exact hs2 | refine HSub.put ?_ (by (try simp only [Heap.size_put, Heap.size_push, Heap.size_reserve]); omega) _ | refine HSub.push ?_ _ | refine HSub.reserve ?_ _))) (V.mono (by repeat (first | exact HSub.refl h2 | refine HSub.put ?_ (by (try simp only [Heap.size_put, Heap.size_push, Heap.size_reserve]); omega) _ | refine HSub.push ?_ _ | refine HSub.reserve ?_ _)))) ?_
  simp -implicitDefEqProofs (disch := first | assumption | decide | omega | (simp only [wpD1] <;> omega) | (simp only [wpD2] <;> assumption) | solve_by_elim [zR, zP, zV] | fail) only [↓wpPre, wpPost, wpPoly, Int.reduceToNat, Int.reducePow, Int.reduceMul, Int.reduceAdd, Int.reduceSub, Int.reduceNeg, Nat.reduceAdd, Nat.reduceMul, Nat.reducePow, Int.reduceLT, Int.reduceLE, Int.reduceEq, Nat.reduceEqDiff]
  exact ⟨rfl, (by repeat (first | exact hs2 | refine HSub.put ?_ (by (try simp only [Heap.size_put, Heap.size_push, Heap.size_reserve]); omega) _ | refine HSub.push ?_ _ | refine HSub.reserve ?_ _))⟩
 ·obtain ⟨d, o, pb, w, mn, mx, nz, prns⟩ := p
  dsimp only at *
  (refine calls_intro (hC.body (by decide) tab317) (Nat.le_of_ble_eq_true rfl) ?_); (show wp C _ none B317.code _ _); (simp only [B317]); simp -implicitDefEqProofs (disch := first | assumption | decide | omega | (simp only [wpD1] <;> omega) | (simp only [wpD2] <;> assumption) | solve_by_elim [zR, zP, zV] | fail) only [↓wpPre, wpPost, wpPoly, Int.reduceToNat, Int.reducePow, Int.reduceMul, Int.reduceAdd, Int.reduceSub, Int.reduceNeg, Nat.reduceAdd, Nat.reduceMul, Nat.reducePow, Int.reduceLT, Int.reduceLE, Int.reduceEq, Nat.reduceEqDiff]
  refine ACallsK.of (kr _ (R.mono (by repeat (first | exact HSub.refl h | refine HSub.put ?_ (by (try simp only [Heap.size_put, Heap.size_push, Heap.size_reserve]); omega) _ | refine HSub.push ?_ _ | refine HSub.reserve ?_ _)))) ?_
  rintro r h2 ⟨sA, sv, rfl, ⟨a1, a2, a3, rfl, o1⟩, V⟩
  have hs2 : HSub h h2 := (show HSub h _ from (by repeat (first | exact HSub.refl h | refine HSub.put ?_ (by (try simp only [Heap.size_put, Heap.size_push, Heap.size_reserve]); omega) _ | refine HSub.push ?_ _ | refine HSub.reserve ?_ _))).trans sA
  simp -implicitDefEqProofs (disch := first | assumption | decide | omega | (simp only [wpD1] <;> omega) | (simp only [wpD2] <;> assumption) | solve_by_elim [zR, zP, zV] | fail) only [↓wpPre, wpPost, wpPoly, Int.reduceToNat, Int.reducePow, Int.reduceMul, Int.reduceAdd, Int.reduceSub, Int.reduceNeg, Nat.reduceAdd, Nat.reduceMul, Nat.reducePow, Int.reduceLT, Int.reduceLE, Int.reduceEq, Nat.reduceEqDiff, wpMap, c]
  exact ⟨by simp [tup2], (by repeat (first | exact hs2 | refine HSub.put ?_ (by (try simp only [Heap.size_put, Heap.size_push, Heap.size_reserve]); omega) _ | refine HSub.push ?_ _ | refine HSub.reserve ?_ _))⟩
set_option maxRecDepth 20000 in
theorem Floor_spec (hC : Has C T319) {p : PlanP} {vp : AV} {b s prn : Int} {h : Heap} (R : RI h vp p.prns) (h64 : p.ok64) :
  ACalls C 319 [plA p vp, gA b s, .int .i64 prn] h (fun r h' => r = (if detErr p b s prn = 0 then tup2 (floorI p s prn) 0 else tup2 0 (detErr p b s prn)) ∧ HSub h h') := by
 have v1 := R.one
 have kr := fun H (R1 : RI H vp p.prns) => right331_spec (b := b) (s := s) (prn := prn) (hC.sub (T' := T331) (by decide)) (h := H) R1 h64
 have kb := fun (ok : PlanOk p) (hs : 0 ≤ s ∧ s ≤ 30) H sv (R1 : RI H vp p.prns) (V : SumV H sv p s) (hin : prn ∈ p.prns) => floor338_spec (b := b) (hC.sub (T' := T338) (by decide)) (h := H) ok hs R1 V hin
 have e0 : detErr p b s prn = 0 → askErr p b s = 0 ∧ prn ∈ p.prns := detErr_ok
 generalize detErr p b s prn = E at *
 unfold askA plA gA at *
 by_cases c : E = 0
 ·subst c
  obtain ⟨ea, hin⟩ := e0 rfl
  obtain ⟨ok, hg⟩ := askErr_ok ea
  have kb := fun H sv R1 V => kb ok (gErr_ok hg).2.2 H sv R1 V hin
  generalize floorI p s prn = B at *
  obtain ⟨d, o, pb, w, mn, mx, nz, prns⟩ := p
  dsimp only at *
  (refine calls_intro (hC.body (by decide) tab319) (Nat.le_of_ble_eq_true rfl) ?_); (show wp C _ none B319.code _ _); (simp only [B319]); simp -implicitDefEqProofs (disch := first | assumption | decide | omega | (simp only [wpD1] <;> omega) | (simp only [wpD2] <;> assumption) | solve_by_elim [zR, zP, zV] | fail) only [↓wpPre, wpPost, wpPoly, Int.reduceToNat, Int.reducePow, Int.reduceMul, Int.reduceAdd, Int.reduceSub, Int.reduceNeg, Nat.reduceAdd, Nat.reduceMul, Nat.reducePow, Int.reduceLT, Int.reduceLE, Int.reduceEq, Nat.reduceEqDiff]
  refine ACallsK.of (kr _ (R.mono (by repeat (first | exact HSub.refl h | refine HSub.put ?_ (by (try simp only [Heap.size_put, Heap.size_push, Heap.size_reserve]); omega) _ | refine HSub.push ?_ _ | refine HSub.reserve ?_ _)))) ?_
  rintro r h2 ⟨sA, sv, rfl, ⟨a1, a2, a3, rfl, o1⟩, V⟩
  have V := V rfl
  have hs2 : HSub h h2 := (show HSub h _ from (by repeat (first | exact HSub.refl h | refine HSub.put ?_ (by (try simp only [Heap.size_put, Heap.size_push, Heap.size_reserve]); omega) _ | refine HSub.push ?_ _ | refine HSub.reserve ?_ _))).trans sA
  have z2 := sA.size
  simp only [Heap.size_push] at z2
  simp -implicitDefEqProofs (disch := first | assumption | decide | omega | (simp only [wpD1] <;> omega) | (simp only [wpD2] <;> assumption) | solve_by_elim [zR, zP, zV] | fail) only [↓wpPre, wpPost, wpPoly, Int.reduceToNat, Int.reducePow, Int.reduceMul, Int.reduceAdd, Int.reduceSub, Int.reduceNeg, Nat.reduceAdd, Nat.reduceMul, Nat.reducePow, Int.reduceLT, Int.reduceLE, Int.reduceEq, Nat.reduceEqDiff, wpMap]
  refine ACallsK.eq (kb _ _ (R.mono (by repeat (first | exact hs2 | refine HSub.put ?_ (by (try simp only [Heap.size_put, Heap.size_push, Heap.size_reserve]); omega) _ | refine HSub.push ?_ _ | refine HSub.reserve ?_ _))) (V.mono (by repeat (first | exact HSub.refl h2 | refine HSub.put ?_ (by (try simp only [Heap.size_put, Heap.size_push, Heap.size_reserve]); omega) _ | refine HSub.push ?_ _ | refine HSub.reserve ?_ _)))) ?_
  simp -implicitDefEqProofs (disch := first | assumption | decide | omega | (simp only [wpD1] <;> omega) | (simp only [wpD2] <;> assumption) | solve_by_elim [zR, zP, zV] | fail) only [↓wpPre, wpPost, wpPoly, Int.reduceToNat, Int.reducePow, Int.reduceMul, Int.reduceAdd, Int.reduceSub, Int.reduceNeg, Nat.reduceAdd, Nat.reduceMul, Nat.reducePow, Int.reduceLT, Int.reduceLE, Int.reduceEq, Nat.reduceEqDiff]
  exact ⟨rfl, (by repeat (first | exact hs2 | refine HSub.put ?_ (by (try simp only [Heap.size_put, Heap.size_push, Heap.size_reserve]); omega) _ | refine HSub.push ?_ _ | refine HSub.reserve ?_ _))⟩
 ·obtain ⟨d, o, pb, w, mn, mx, nz, prns⟩ := p
  dsimp only at *
  (refine calls_intro (hC.body (by decide) tab319) (Nat.le_of_ble_eq_true rfl) ?_); (show wp C _ none B319.code _ _); (simp only [B319]); simp -implicitDefEqProofs (disch := first | assumption | decide | omega | (simp only [wpD1] <;> omega) | (simp only [wpD2] <;> assumption) | solve_by_elim [zR, zP, zV] | fail) only [↓wpPre, wpPost, wpPoly, Int.reduceToNat, Int.reducePow, Int.reduceMul, Int.reduceAdd, Int.reduceSub, Int.reduceNeg, Nat.reduceAdd, Nat.reduceMul, Nat.reducePow, Int.reduceLT, Int.reduceLE, Int.reduceEq, Nat.reduceEqDiff]
  refine ACallsK.of (kr _ (R.mono (by repeat (first | exact HSub.refl h | refine HSub.put ?_ (by (try simp only [Heap.size_put, Heap.size_push, Heap.size_reserve]); omega) _ | refine HSub.push ?_ _ | refine HSub.reserve ?_ _)))) ?_
  rintro r h2 ⟨sA, sv, rfl, ⟨a1, a2, a3, rfl, o1⟩, V⟩
  have hs2 : HSub h h2 := (show HSub h _ from (by repeat (first | exact HSub.refl h | refine HSub.put ?_ (by (try simp only [Heap.size_put, Heap.size_push, Heap.size_reserve]); omega) _ | refine HSub.push ?_ _ | refine HSub.reserve ?_ _))).trans sA
  simp -implicitDefEqProofs (disch := first | assumption | decide | omega | (simp only [wpD1] <;> omega) | (simp only [wpD2] <;> assumption) | solve_by_elim [zR, zP, zV] | fail) only [↓wpPre, wpPost, wpPoly, Int.reduceToNat, Int.reducePow, Int.reduceMul, Int.reduceAdd, Int.reduceSub, Int.reduceNeg, Nat.reduceAdd, Nat.reduceMul, Nat.reducePow, Int.reduceLT, Int.reduceLE, Int.reduceEq, Nat.reduceEqDiff, wpMap, c]
  exact ⟨by simp [tup2], (by repeat (first | exact hs2 | refine HSub.put ?_ (by (try simp only [Heap.size_put, Heap.size_push, Heap.size_reserve]); omega) _ | refine HSub.push ?_ _ | refine HSub.reserve ?_ _))⟩
end
end Go.Ae
/- Sure codes, claims and lists of thresholds: the program. -/
set_option linter.unusedSimpArgs false
set_option linter.unusedVariables false
namespace Go.Ae
def sureB (p : PlanP) (s prn : Int) : Bool := decide (thrI p s prn * 2 ^ s.toNat < floorI p s prn)
def sureE (p : PlanP) (b s prn : Int) : AV := if detErr p b s prn = 0 then .tuple [.bool (sureB p s prn), .int .i64 0] else .tuple [.bool false, .int .i64 (detErr p b s prn)]
theorem thr_mul {p : PlanP} {s : Int} (ok : PlanOk p) (h : 0 ≤ s ∧ s ≤ 30) (prn : Int) : 0 ≤ thrI p s prn * 2 ^ s.toNat ∧ thrI p s prn * 2 ^ s.toNat ≤ 6602356709823 ∧ boundI p s prn ≤ thrI p s prn * 2 ^ s.toNat := by
 have b := bound_range ok h prn
 have q := pow_30 h
 have t := thr_range ok h prn
 unfold thrI at *
 generalize (2 : Int) ^ s.toNat = P at *
 generalize boundI p s prn = B at *
 have e := Int.ediv_mul_le (B + P - 1) (show P ≠ 0 by omega)
 have l := Int.lt_ediv_add_one_mul_self (B + P - 1) (show 0 < P by omega)
 have m := Int.mul_nonneg t.1 (show 0 ≤ P by omega)
 rw [Int.add_mul] at l
 generalize (B + P - 1) / P * P = Y at *
 omega
def claimB (t pw m : Int) : Bool := decide (t * t * m < pw)
def claimE (p : PlanP) (b s prn pw m : Int) : AV :=
 if detErr p b s prn = 0 then if pw < 0 ∨ m < 1 ∨ 1000 < m then .tuple [.bool false, .int .i64 2] else .tuple [.bool (claimB (thrI p s prn) pw m), .int .i64 0] else .tuple [.bool false, .int .i64 (detErr p b s prn)]
theorem em_of {q : Int} (h : 0 ≤ q) (c : q / 18446744073709551616 = 0) : q % 18446744073709551616 = q := by omega
theorem em_mul {q m pw : Int} (h : 0 ≤ q * m) (hp : -9223372036854775808 ≤ pw ∧ pw ≤ 9223372036854775807) (e : q % 18446744073709551616 = q) :
  (q % 18446744073709551616 * m / 18446744073709551616 = 0 → q % 18446744073709551616 * m % 18446744073709551616 = q * m) ∧ (¬ q % 18446744073709551616 * m / 18446744073709551616 = 0 → ¬ q * m < pw) := by
 rw [e]
 generalize q * m = Y at *
 omega
theorem em_not {q m pw : Int} (h : 0 ≤ q) (h2 : q ≤ q * m) (hp : -9223372036854775808 ≤ pw ∧ pw ≤ 9223372036854775807) (c : ¬ q / 18446744073709551616 = 0) : ¬ q * m < pw := by
 generalize q * m = Y at *
 omega
section
variable {C : Ctx}
set_option maxRecDepth 20000 in
set_option maxHeartbeats 1000000 in
theorem Sure_spec (hC : Has C T321) {p : PlanP} {vp : AV} {b s prn : Int} {h : Heap} (R : RI h vp p.prns) (h64 : p.ok64) :
  ACalls C 321 [plA p vp, gA b s, .int .i64 prn] h (fun r h' => r = sureE p b s prn ∧ HSub h h') := by
 have v1 := R.one
 have kr := fun H (R1 : RI H vp p.prns) => right331_spec (b := b) (s := s) (prn := prn) (hC.sub (T' := T331) (by decide)) (h := H) R1 h64
 have kb := fun (ok : PlanOk p) (hs : 0 ≤ s ∧ s ≤ 30) H sv (R1 : RI H vp p.prns) (V : SumV H sv p s) (hin : prn ∈ p.prns) => floor338_spec (b := b) (hC.sub (T' := T338) (by decide)) (h := H) ok hs R1 V hin
 have kt := fun (ok : PlanOk p) (hs : 0 ≤ s ∧ s ≤ 30) H sv (R1 : RI H vp p.prns) (V : SumV H sv p s) (hin : prn ∈ p.prns) => thr332_spec (b := b) (hC.sub (T' := T332) (by decide)) (h := H) ok hs R1 V hin
 have e0 : detErr p b s prn = 0 → askErr p b s = 0 ∧ prn ∈ p.prns := detErr_ok
 have tm := fun (ok : PlanOk p) (hs : 0 ≤ s ∧ s ≤ 30) => thr_mul ok hs prn
 unfold sureE sureB
 generalize detErr p b s prn = E at *
 unfold askA plA gA at *
 by_cases c : E = 0
 ·subst c
  obtain ⟨ea, hin⟩ := e0 rfl
  obtain ⟨ok, hg⟩ := askErr_ok ea
  have hs := (gErr_ok hg).2.2
  have kb := fun H sv R1 V => kb ok hs H sv R1 V hin
  have kt := fun H sv R1 V => kt ok hs H sv R1 V hin
  have tm := tm ok hs
  generalize floorI p s prn = F at *
  generalize thrI p s prn = Th at *
  generalize hP : (2 : Int) ^ s.toNat = P at *
  clear e0 ea
  obtain ⟨d, o, pb, w, mn, mx, nz, prns⟩ := p
  dsimp only at *
  (refine calls_intro (hC.body (by decide) tab321) (Nat.le_of_ble_eq_true rfl) ?_); (show wp C _ none B321.code _ _); (simp only [B321]); simp -implicitDefEqProofs (disch := first | assumption | decide | omega | (simp only [wpD1] <;> omega) | (simp only [wpD2] <;> assumption) | solve_by_elim [zR, zP, zV] | fail) only [↓wpPre, wpPost, wpPoly, Int.reduceToNat, Int.reducePow, Int.reduceMul, Int.reduceAdd, Int.reduceSub, Int.reduceNeg, Nat.reduceAdd, Nat.reduceMul, Nat.reducePow, Int.reduceLT, Int.reduceLE, Int.reduceEq, Nat.reduceEqDiff]
  refine ACallsK.of (kr _ (R.mono (by repeat (first | exact HSub.refl h | refine HSub.put ?_ (by (try simp only [Heap.size_put, Heap.size_push, Heap.size_reserve]); omega) _ | refine HSub.push ?_ _ | refine HSub.reserve ?_ _)))) ?_
  rintro r h2 ⟨sA, sv, rfl, ⟨a1, a2, a3, rfl, o1⟩, V⟩
  have V := V rfl
  have z2 := sA.size
  simp only [Heap.size_push] at z2
  have g4 : h2.get (h.size + 1) = some (.cells [.int .i64 b, .int .i64 s] true 0) := (sA.get _ (by simp only [Heap.size_push]; omega)).trans (by simp -implicitDefEqProofs (disch := first | assumption | decide | omega | (simp only [wpD1] <;> omega) | (simp only [wpD2] <;> assumption) | solve_by_elim [zR, zP, zV] | fail) only [↓wpPre, wpPost, wpPoly, Int.reduceToNat, Int.reducePow, Int.reduceMul, Int.reduceAdd, Int.reduceSub, Int.reduceNeg, Nat.reduceAdd, Nat.reduceMul, Nat.reducePow, Int.reduceLT, Int.reduceLE, Int.reduceEq, Nat.reduceEqDiff])
  have hs2 : HSub h h2 := (show HSub h _ from (by repeat (first | exact HSub.refl h | refine HSub.put ?_ (by (try simp only [Heap.size_put, Heap.size_push, Heap.size_reserve]); omega) _ | refine HSub.push ?_ _ | refine HSub.reserve ?_ _))).trans sA
  simp -implicitDefEqProofs (disch := first | assumption | decide | omega | (simp only [wpD1] <;> omega) | (simp only [wpD2] <;> assumption) | solve_by_elim [zR, zP, zV] | fail) only [↓wpPre, wpPost, wpPoly, Int.reduceToNat, Int.reducePow, Int.reduceMul, Int.reduceAdd, Int.reduceSub, Int.reduceNeg, Nat.reduceAdd, Nat.reduceMul, Nat.reducePow, Int.reduceLT, Int.reduceLE, Int.reduceEq, Nat.reduceEqDiff, wpMap, g4]
  refine ACallsK.eq (kb _ _ (R.mono (by repeat (first | exact hs2 | refine HSub.put ?_ (by (try simp only [Heap.size_put, Heap.size_push, Heap.size_reserve]); omega) _ | refine HSub.push ?_ _ | refine HSub.reserve ?_ _))) (V.mono (by repeat (first | exact HSub.refl h2 | refine HSub.put ?_ (by (try simp only [Heap.size_put, Heap.size_push, Heap.size_reserve]); omega) _ | refine HSub.push ?_ _ | refine HSub.reserve ?_ _)))) ?_
  simp -implicitDefEqProofs (disch := first | assumption | decide | omega | (simp only [wpD1] <;> omega) | (simp only [wpD2] <;> assumption) | solve_by_elim [zR, zP, zV] | fail) only [↓wpPre, wpPost, wpPoly, Int.reduceToNat, Int.reducePow, Int.reduceMul, Int.reduceAdd, Int.reduceSub, Int.reduceNeg, Nat.reduceAdd, Nat.reduceMul, Nat.reducePow, Int.reduceLT, Int.reduceLE, Int.reduceEq, Nat.reduceEqDiff, wpMap, g4]
  refine ACallsK.eq (kt _ _ (R.mono (by repeat (first | exact hs2 | refine HSub.put ?_ (by (try simp only [Heap.size_put, Heap.size_push, Heap.size_reserve]); omega) _ | refine HSub.push ?_ _ | refine HSub.reserve ?_ _))) (V.mono (by repeat (first | exact HSub.refl h2 | refine HSub.put ?_ (by (try simp only [Heap.size_put, Heap.size_push, Heap.size_reserve]); omega) _ | refine HSub.push ?_ _ | refine HSub.reserve ?_ _)))) ?_
  simp -implicitDefEqProofs (disch := first | assumption | decide | omega | (simp only [wpD1] <;> omega) | (simp only [wpD2] <;> assumption) | solve_by_elim [zR, zP, zV] | fail) only [↓wpPre, wpPost, wpPoly, Int.reduceToNat, Int.reducePow, Int.reduceMul, Int.reduceAdd, Int.reduceSub, Int.reduceNeg, Nat.reduceAdd, Nat.reduceMul, Nat.reducePow, Int.reduceLT, Int.reduceLE, Int.reduceEq, Nat.reduceEqDiff, hP]
  exact ⟨rfl, (by repeat (first | exact hs2 | refine HSub.put ?_ (by (try simp only [Heap.size_put, Heap.size_push, Heap.size_reserve]); omega) _ | refine HSub.push ?_ _ | refine HSub.reserve ?_ _))⟩
 ·obtain ⟨d, o, pb, w, mn, mx, nz, prns⟩ := p
  dsimp only at *
  (refine calls_intro (hC.body (by decide) tab321) (Nat.le_of_ble_eq_true rfl) ?_); (show wp C _ none B321.code _ _); (simp only [B321]); simp -implicitDefEqProofs (disch := first | assumption | decide | omega | (simp only [wpD1] <;> omega) | (simp only [wpD2] <;> assumption) | solve_by_elim [zR, zP, zV] | fail) only [↓wpPre, wpPost, wpPoly, Int.reduceToNat, Int.reducePow, Int.reduceMul, Int.reduceAdd, Int.reduceSub, Int.reduceNeg, Nat.reduceAdd, Nat.reduceMul, Nat.reducePow, Int.reduceLT, Int.reduceLE, Int.reduceEq, Nat.reduceEqDiff]
  refine ACallsK.of (kr _ (R.mono (by repeat (first | exact HSub.refl h | refine HSub.put ?_ (by (try simp only [Heap.size_put, Heap.size_push, Heap.size_reserve]); omega) _ | refine HSub.push ?_ _ | refine HSub.reserve ?_ _)))) ?_
  rintro r h2 ⟨sA, sv, rfl, ⟨a1, a2, a3, rfl, o1⟩, V⟩
  have hs2 : HSub h h2 := (show HSub h _ from (by repeat (first | exact HSub.refl h | refine HSub.put ?_ (by (try simp only [Heap.size_put, Heap.size_push, Heap.size_reserve]); omega) _ | refine HSub.push ?_ _ | refine HSub.reserve ?_ _))).trans sA
  simp -implicitDefEqProofs (disch := first | assumption | decide | omega | (simp only [wpD1] <;> omega) | (simp only [wpD2] <;> assumption) | solve_by_elim [zR, zP, zV] | fail) only [↓wpPre, wpPost, wpPoly, Int.reduceToNat, Int.reducePow, Int.reduceMul, Int.reduceAdd, Int.reduceSub, Int.reduceNeg, Nat.reduceAdd, Nat.reduceMul, Nat.reducePow, Int.reduceLT, Int.reduceLE, Int.reduceEq, Nat.reduceEqDiff, wpMap, c]
  exact ⟨by simp, (by repeat (first | exact hs2 | refine HSub.put ?_ (by (try simp only [Heap.size_put, Heap.size_push, Heap.size_reserve]); omega) _ | refine HSub.push ?_ _ | refine HSub.reserve ?_ _))⟩
set_option maxRecDepth 20000 in
set_option maxHeartbeats 1000000 in
theorem Claims_spec (hC : Has C T313) {p : PlanP} {vp : AV} {b s prn pw m : Int} {h : Heap} (R : RI h vp p.prns) (h64 : p.ok64) (hpw : In64 pw) (hm : In64 m) :
  ACalls C 313 [plA p vp, gA b s, .int .i64 prn, .int .i64 pw, .int .i64 m] h (fun r h' => r = claimE p b s prn pw m ∧ HSub h h') := by
 have v1 := R.one
 have kr := fun H (R1 : RI H vp p.prns) => right331_spec (b := b) (s := s) (prn := prn) (hC.sub (T' := T331) (by decide)) (h := H) R1 h64
 have kt := fun (ok : PlanOk p) (hs : 0 ≤ s ∧ s ≤ 30) H sv (R1 : RI H vp p.prns) (V : SumV H sv p s) (hin : prn ∈ p.prns) => thr332_spec (b := b) (hC.sub (T' := T332) (by decide)) (h := H) ok hs R1 V hin
 have e0 : detErr p b s prn = 0 → askErr p b s = 0 ∧ prn ∈ p.prns := detErr_ok
 have tr := fun (ok : PlanOk p) (hs : 0 ≤ s ∧ s ≤ 30) => thr_range ok hs prn
 unfold claimE claimB
 unfold In64 at hpw hm
 generalize detErr p b s prn = E at *
 unfold askA plA gA at *
 by_cases c : E = 0
 ·subst c
  obtain ⟨ea, hin⟩ := e0 rfl
  obtain ⟨ok, hg⟩ := askErr_ok ea
  have hs := (gErr_ok hg).2.2
  have kt := fun H sv R1 V => kt ok hs H sv R1 V hin
  have tr := tr ok hs
  generalize thrI p s prn = Th at *
  clear e0 ea
  have k1 := fun H => Mul64_full (hC.sub (T' := T105) (by decide)) (a := Th) (b := Th) (h := H) (by omega) (by omega)
  have sq := Int.mul_nonneg tr.1 tr.1
  have lo : 0 ≤ Th * Th % 18446744073709551616 ∧ Th * Th % 18446744073709551616 < 18446744073709551616 := by omega
  have hi : 0 ≤ Th * Th / 18446744073709551616 ∧ Th * Th / 18446744073709551616 ≤ 18446744073709551615 := by
   have := Int.mul_le_mul tr.2 tr.2 tr.1 (by decide)
   generalize Th * Th = q at *
   omega
  have k2 := fun (hm1 : 1 ≤ m ∧ m ≤ 1000) H => Mul64_full (hC.sub (T' := T105) (by decide)) (a := Th * Th % 18446744073709551616) (b := m) (h := H) lo (by omega)
  obtain ⟨d, o, pb, w, mn, mx, nz, prns⟩ := p
  dsimp only at *
  (refine calls_intro (hC.body (by decide) tab313) (Nat.le_of_ble_eq_true rfl) ?_); (show wp C _ none B313.code _ _); (simp only [B313]); simp -implicitDefEqProofs (disch := first | assumption | decide | omega | (simp only [wpD1] <;> omega) | (simp only [wpD2] <;> assumption) | solve_by_elim [zR, zP, zV] | fail) only [↓wpPre, wpPost, wpPoly, Int.reduceToNat, Int.reducePow, Int.reduceMul, Int.reduceAdd, Int.reduceSub, Int.reduceNeg, Nat.reduceAdd, Nat.reduceMul, Nat.reducePow, Int.reduceLT, Int.reduceLE, Int.reduceEq, Nat.reduceEqDiff]
  refine ACallsK.of (kr _ (R.mono (by repeat (first | exact HSub.refl h | refine HSub.put ?_ (by (try simp only [Heap.size_put, Heap.size_push, Heap.size_reserve]); omega) _ | refine HSub.push ?_ _ | refine HSub.reserve ?_ _)))) ?_
  rintro r h2 ⟨sA, sv, rfl, ⟨a1, a2, a3, rfl, o1⟩, V⟩
  have V := V rfl
  have z2 := sA.size
  simp only [Heap.size_push] at z2
  have g4 : h2.get (h.size + 1) = some (.cells [.int .i64 b, .int .i64 s] true 0) := (sA.get _ (by simp only [Heap.size_push]; omega)).trans (by simp -implicitDefEqProofs (disch := first | assumption | decide | omega | (simp only [wpD1] <;> omega) | (simp only [wpD2] <;> assumption) | solve_by_elim [zR, zP, zV] | fail) only [↓wpPre, wpPost, wpPoly, Int.reduceToNat, Int.reducePow, Int.reduceMul, Int.reduceAdd, Int.reduceSub, Int.reduceNeg, Nat.reduceAdd, Nat.reduceMul, Nat.reducePow, Int.reduceLT, Int.reduceLE, Int.reduceEq, Nat.reduceEqDiff])
  have hs2 : HSub h h2 := (show HSub h _ from (by repeat (first | exact HSub.refl h | refine HSub.put ?_ (by (try simp only [Heap.size_put, Heap.size_push, Heap.size_reserve]); omega) _ | refine HSub.push ?_ _ | refine HSub.reserve ?_ _))).trans sA
  by_cases c1 : pw < 0
  ·simp -implicitDefEqProofs (disch := first | assumption | decide | omega | (simp only [wpD1] <;> omega) | (simp only [wpD2] <;> assumption) | solve_by_elim [zR, zP, zV] | fail) only [↓wpPre, wpPost, wpPoly, Int.reduceToNat, Int.reducePow, Int.reduceMul, Int.reduceAdd, Int.reduceSub, Int.reduceNeg, Nat.reduceAdd, Nat.reduceMul, Nat.reducePow, Int.reduceLT, Int.reduceLE, Int.reduceEq, Nat.reduceEqDiff, wpMap, c1, gV_u]
   exact ⟨by simp, (by repeat (first | exact hs2 | refine HSub.put ?_ (by (try simp only [Heap.size_put, Heap.size_push, Heap.size_reserve]); omega) _ | refine HSub.push ?_ _ | refine HSub.reserve ?_ _))⟩
  by_cases c2 : m < 1
  ·simp -implicitDefEqProofs (disch := first | assumption | decide | omega | (simp only [wpD1] <;> omega) | (simp only [wpD2] <;> assumption) | solve_by_elim [zR, zP, zV] | fail) only [↓wpPre, wpPost, wpPoly, Int.reduceToNat, Int.reducePow, Int.reduceMul, Int.reduceAdd, Int.reduceSub, Int.reduceNeg, Nat.reduceAdd, Nat.reduceMul, Nat.reducePow, Int.reduceLT, Int.reduceLE, Int.reduceEq, Nat.reduceEqDiff, wpMap, c1, c2, gV_u]
   exact ⟨by simp, (by repeat (first | exact hs2 | refine HSub.put ?_ (by (try simp only [Heap.size_put, Heap.size_push, Heap.size_reserve]); omega) _ | refine HSub.push ?_ _ | refine HSub.reserve ?_ _))⟩
  by_cases c3 : 1000 < m
  ·simp -implicitDefEqProofs (disch := first | assumption | decide | omega | (simp only [wpD1] <;> omega) | (simp only [wpD2] <;> assumption) | solve_by_elim [zR, zP, zV] | fail) only [↓wpPre, wpPost, wpPoly, Int.reduceToNat, Int.reducePow, Int.reduceMul, Int.reduceAdd, Int.reduceSub, Int.reduceNeg, Nat.reduceAdd, Nat.reduceMul, Nat.reducePow, Int.reduceLT, Int.reduceLE, Int.reduceEq, Nat.reduceEqDiff, wpMap, c1, c2, c3, gV_u]
   exact ⟨by simp, (by repeat (first | exact hs2 | refine HSub.put ?_ (by (try simp only [Heap.size_put, Heap.size_push, Heap.size_reserve]); omega) _ | refine HSub.push ?_ _ | refine HSub.reserve ?_ _))⟩
  have k2 := k2 (by omega)
  have m1 := Int.mul_nonneg sq (show 0 ≤ m by omega)
  have m2 := Int.mul_le_mul (Int.le_refl (Th * Th)) (show 1 ≤ m by omega) (by decide) sq
  rw [Int.mul_one] at m2
  have lx := em_of sq
  have wr := fun e => em_mul (q := Th * Th) (m := m) (pw := pw) m1 hpw e
  have wn := em_not (pw := pw) sq m2 hpw
  simp -implicitDefEqProofs (disch := first | assumption | decide | omega | (simp only [wpD1] <;> omega) | (simp only [wpD2] <;> assumption) | solve_by_elim [zR, zP, zV] | fail) only [↓wpPre, wpPost, wpPoly, Int.reduceToNat, Int.reducePow, Int.reduceMul, Int.reduceAdd, Int.reduceSub, Int.reduceNeg, Nat.reduceAdd, Nat.reduceMul, Nat.reducePow, Int.reduceLT, Int.reduceLE, Int.reduceEq, Nat.reduceEqDiff, wpMap, c1, c2, c3, gV_u]
  refine ACallsK.eq (kt _ _ (R.mono (by repeat (first | exact hs2 | refine HSub.put ?_ (by (try simp only [Heap.size_put, Heap.size_push, Heap.size_reserve]); omega) _ | refine HSub.push ?_ _ | refine HSub.reserve ?_ _))) (V.mono (by repeat (first | exact HSub.refl h2 | refine HSub.put ?_ (by (try simp only [Heap.size_put, Heap.size_push, Heap.size_reserve]); omega) _ | refine HSub.push ?_ _ | refine HSub.reserve ?_ _)))) ?_
  simp -implicitDefEqProofs (disch := first | assumption | decide | omega | (simp only [wpD1] <;> omega) | (simp only [wpD2] <;> assumption) | solve_by_elim [zR, zP, zV] | fail) only [↓wpPre, wpPost, wpPoly, Int.reduceToNat, Int.reducePow, Int.reduceMul, Int.reduceAdd, Int.reduceSub, Int.reduceNeg, Nat.reduceAdd, Nat.reduceMul, Nat.reducePow, Int.reduceLT, Int.reduceLE, Int.reduceEq, Nat.reduceEqDiff]
  refine ACallsK.eq (k1 _) ?_
  by_cases c4 : Th * Th / 18446744073709551616 = 0
  ·simp -implicitDefEqProofs (disch := first | assumption | decide | omega | (simp only [wpD1] <;> omega) | (simp only [wpD2] <;> assumption) | solve_by_elim [zR, zP, zV] | fail) only [↓wpPre, wpPost, wpPoly, Int.reduceToNat, Int.reducePow, Int.reduceMul, Int.reduceAdd, Int.reduceSub, Int.reduceNeg, Nat.reduceAdd, Nat.reduceMul, Nat.reducePow, Int.reduceLT, Int.reduceLE, Int.reduceEq, Nat.reduceEqDiff, c4]
   refine ACallsK.eq (k2 _) ?_
   have lx := lx c4
   by_cases c5 : Th * Th % 18446744073709551616 * m / 18446744073709551616 = 0
   ·have ly := (wr lx).1 c5
    simp -implicitDefEqProofs (disch := first | assumption | decide | omega | (simp only [wpD1] <;> omega) | (simp only [wpD2] <;> assumption) | solve_by_elim [zR, zP, zV] | fail) only [↓wpPre, wpPost, wpPoly, Int.reduceToNat, Int.reducePow, Int.reduceMul, Int.reduceAdd, Int.reduceSub, Int.reduceNeg, Nat.reduceAdd, Nat.reduceMul, Nat.reducePow, Int.reduceLT, Int.reduceLE, Int.reduceEq, Nat.reduceEqDiff, c5, ly, gV_u]
    exact ⟨by simp [c1, c2, c3], (by repeat (first | exact hs2 | refine HSub.put ?_ (by (try simp only [Heap.size_put, Heap.size_push, Heap.size_reserve]); omega) _ | refine HSub.push ?_ _ | refine HSub.reserve ?_ _))⟩
   ·have ny := (wr lx).2 c5
    simp -implicitDefEqProofs (disch := first | assumption | decide | omega | (simp only [wpD1] <;> omega) | (simp only [wpD2] <;> assumption) | solve_by_elim [zR, zP, zV] | fail) only [↓wpPre, wpPost, wpPoly, Int.reduceToNat, Int.reducePow, Int.reduceMul, Int.reduceAdd, Int.reduceSub, Int.reduceNeg, Nat.reduceAdd, Nat.reduceMul, Nat.reducePow, Int.reduceLT, Int.reduceLE, Int.reduceEq, Nat.reduceEqDiff, c5, gV_u]
    exact ⟨by simp [c1, c2, c3, ny], (by repeat (first | exact hs2 | refine HSub.put ?_ (by (try simp only [Heap.size_put, Heap.size_push, Heap.size_reserve]); omega) _ | refine HSub.push ?_ _ | refine HSub.reserve ?_ _))⟩
  ·have ny := wn c4
   simp -implicitDefEqProofs (disch := first | assumption | decide | omega | (simp only [wpD1] <;> omega) | (simp only [wpD2] <;> assumption) | solve_by_elim [zR, zP, zV] | fail) only [↓wpPre, wpPost, wpPoly, Int.reduceToNat, Int.reducePow, Int.reduceMul, Int.reduceAdd, Int.reduceSub, Int.reduceNeg, Nat.reduceAdd, Nat.reduceMul, Nat.reducePow, Int.reduceLT, Int.reduceLE, Int.reduceEq, Nat.reduceEqDiff, c4]
   exact ⟨by simp [c1, c2, c3, ny], (by repeat (first | exact hs2 | refine HSub.put ?_ (by (try simp only [Heap.size_put, Heap.size_push, Heap.size_reserve]); omega) _ | refine HSub.push ?_ _ | refine HSub.reserve ?_ _))⟩
 ·obtain ⟨d, o, pb, w, mn, mx, nz, prns⟩ := p
  dsimp only at *
  (refine calls_intro (hC.body (by decide) tab313) (Nat.le_of_ble_eq_true rfl) ?_); (show wp C _ none B313.code _ _); (simp only [B313]); simp -implicitDefEqProofs (disch := first | assumption | decide | omega | (simp only [wpD1] <;> omega) | (simp only [wpD2] <;> assumption) | solve_by_elim [zR, zP, zV] | fail) only [↓wpPre, wpPost, wpPoly, Int.reduceToNat, Int.reducePow, Int.reduceMul, Int.reduceAdd, Int.reduceSub, Int.reduceNeg, Nat.reduceAdd, Nat.reduceMul, Nat.reducePow, Int.reduceLT, Int.reduceLE, Int.reduceEq, Nat.reduceEqDiff]
  refine ACallsK.of (kr _ (R.mono (by repeat (first | exact HSub.refl h | refine HSub.put ?_ (by (try simp only [Heap.size_put, Heap.size_push, Heap.size_reserve]); omega) _ | refine HSub.push ?_ _ | refine HSub.reserve ?_ _)))) ?_
  rintro r h2 ⟨sA, sv, rfl, ⟨a1, a2, a3, rfl, o1⟩, V⟩
  have hs2 : HSub h h2 := (show HSub h _ from (by repeat (first | exact HSub.refl h | refine HSub.put ?_ (by (try simp only [Heap.size_put, Heap.size_push, Heap.size_reserve]); omega) _ | refine HSub.push ?_ _ | refine HSub.reserve ?_ _))).trans sA
  simp -implicitDefEqProofs (disch := first | assumption | decide | omega | (simp only [wpD1] <;> omega) | (simp only [wpD2] <;> assumption) | solve_by_elim [zR, zP, zV] | fail) only [↓wpPre, wpPost, wpPoly, Int.reduceToNat, Int.reducePow, Int.reduceMul, Int.reduceAdd, Int.reduceSub, Int.reduceNeg, Nat.reduceAdd, Nat.reduceMul, Nat.reducePow, Int.reduceLT, Int.reduceLE, Int.reduceEq, Nat.reduceEqDiff, wpMap, c]
  exact ⟨by simp, (by repeat (first | exact hs2 | refine HSub.put ?_ (by (try simp only [Heap.size_put, Heap.size_push, Heap.size_reserve]); omega) _ | refine HSub.push ?_ _ | refine HSub.reserve ?_ _))⟩
end
end Go.Ae
/- Bounds, thresholds, floors and claims: the reference. -/
set_option linter.unusedSimpArgs false
set_option linter.unusedVariables false
namespace Go.Ae
theorem PlanOk.cross {p : PlanP} (ok : PlanOk p) {a b : Int} (ha : a ∈ p.prns) (hb : b ∈ p.prns) (hne : ¬ b = a) : crossE p.d p.o a b = tup2 (sumI p.d p.o a b) 0 := by
 unfold crossE sumI
 rw [if_pos (ok.samp (by simp [ha, hb])), if_neg (fun e => hne e.symm)]
theorem PlanOk.side {p : PlanP} (ok : PlanOk p) {a : Int} (ha : a ∈ p.prns) : sideE p.d p.o a = tup2 (sumI p.d p.o a a) 0 := by
 unfold sideE sumI
 rw [if_pos (ok.samp (by simp [ha])), if_pos rfl]
section
variable {C : Ctx}
theorem plain343_spec (hC : Has C T343) {p : PlanP} {vp : AV} {b s : Int} {h : Heap} (R : RI h vp p.prns) (h64 : p.ok64) : ACalls C 343 [plA p vp, gA b s] h (fun r h' => r = .int .i64 (askErr p b s) ∧ h' = h) := by
 refine ACalls.gc0 (P := fun r h' => r = .int .i64 (askErr p b s) ∧ HSub h h') ?_ (fun r h' hp => ⟨by rw [hp.1]; trivial, hp.2, hp.1, rfl⟩)
 have v1 := R.one
 have kp := fun H (R1 : RI H vp p.prns) => CheckPlanR_spec (hC.sub (T' := T220) (by decide)) (h := H) (p := p) ⟨vp, rfl, R1⟩ h64
 have kg := fun H => rCheck_spec (hC.sub (T' := T352) (by decide)) (h := H) (b := b) (s := s)
 unfold askErr
 unfold plA
 unfold gA at *
 by_cases c : p.err = 0
 ·rw [if_pos c]
  rw [c] at kp
  (refine calls_intro (hC.body (by decide) tab343) (Nat.le_of_ble_eq_true rfl) ?_); (show wp C _ none B343.code _ _); (simp only [B343]); simp -implicitDefEqProofs (disch := first | assumption | decide | omega | (simp only [wpD1] <;> omega) | (simp only [wpD2] <;> assumption) | solve_by_elim [zR, zP, zV] | fail) only [↓wpPre, wpPost, wpPoly, Int.reduceToNat, Int.reducePow, Int.reduceMul, Int.reduceAdd, Int.reduceSub, Int.reduceNeg, Nat.reduceAdd, Nat.reduceMul, Nat.reducePow, Int.reduceLT, Int.reduceLE, Int.reduceEq, Nat.reduceEqDiff]
  refine ACallsK.eq (kp _ (R.mono (by repeat (first | exact HSub.refl h | refine HSub.put ?_ (by (try simp only [Heap.size_put, Heap.size_push, Heap.size_reserve]); omega) _ | refine HSub.push ?_ _ | refine HSub.reserve ?_ _)))) ?_
  simp -implicitDefEqProofs (disch := first | assumption | decide | omega | (simp only [wpD1] <;> omega) | (simp only [wpD2] <;> assumption) | solve_by_elim [zR, zP, zV] | fail) only [↓wpPre, wpPost, wpPoly, Int.reduceToNat, Int.reducePow, Int.reduceMul, Int.reduceAdd, Int.reduceSub, Int.reduceNeg, Nat.reduceAdd, Nat.reduceMul, Nat.reducePow, Int.reduceLT, Int.reduceLE, Int.reduceEq, Nat.reduceEqDiff]
  refine ACallsK.eq (kg _) ?_
  simp -implicitDefEqProofs (disch := first | assumption | decide | omega | (simp only [wpD1] <;> omega) | (simp only [wpD2] <;> assumption) | solve_by_elim [zR, zP, zV] | fail) only [↓wpPre, wpPost, wpPoly, Int.reduceToNat, Int.reducePow, Int.reduceMul, Int.reduceAdd, Int.reduceSub, Int.reduceNeg, Nat.reduceAdd, Nat.reduceMul, Nat.reducePow, Int.reduceLT, Int.reduceLE, Int.reduceEq, Nat.reduceEqDiff]
  exact (by repeat (first | exact HSub.refl h | refine HSub.put ?_ (by (try simp only [Heap.size_put, Heap.size_push, Heap.size_reserve]); omega) _ | refine HSub.push ?_ _ | refine HSub.reserve ?_ _))
 ·rw [if_neg c]
  (refine calls_intro (hC.body (by decide) tab343) (Nat.le_of_ble_eq_true rfl) ?_); (show wp C _ none B343.code _ _); (simp only [B343]); simp -implicitDefEqProofs (disch := first | assumption | decide | omega | (simp only [wpD1] <;> omega) | (simp only [wpD2] <;> assumption) | solve_by_elim [zR, zP, zV] | fail) only [↓wpPre, wpPost, wpPoly, Int.reduceToNat, Int.reducePow, Int.reduceMul, Int.reduceAdd, Int.reduceSub, Int.reduceNeg, Nat.reduceAdd, Nat.reduceMul, Nat.reducePow, Int.reduceLT, Int.reduceLE, Int.reduceEq, Nat.reduceEqDiff]
  refine ACallsK.eq (kp _ (R.mono (by repeat (first | exact HSub.refl h | refine HSub.put ?_ (by (try simp only [Heap.size_put, Heap.size_push, Heap.size_reserve]); omega) _ | refine HSub.push ?_ _ | refine HSub.reserve ?_ _)))) ?_
  simp -implicitDefEqProofs (disch := first | assumption | decide | omega | (simp only [wpD1] <;> omega) | (simp only [wpD2] <;> assumption) | solve_by_elim [zR, zP, zV] | fail) only [↓wpPre, wpPost, wpPoly, Int.reduceToNat, Int.reducePow, Int.reduceMul, Int.reduceAdd, Int.reduceSub, Int.reduceNeg, Nat.reduceAdd, Nat.reduceMul, Nat.reducePow, Int.reduceLT, Int.reduceLE, Int.reduceEq, Nat.reduceEqDiff, c]
  exact (by repeat (first | exact HSub.refl h | refine HSub.put ?_ (by (try simp only [Heap.size_put, Heap.size_push, Heap.size_reserve]); omega) _ | refine HSub.push ?_ _ | refine HSub.reserve ?_ _))
theorem check335_spec (hC : Has C T335) {p : PlanP} {vp : AV} {b s prn : Int} {h : Heap} (R : RI h vp p.prns) (h64 : p.ok64) : ACalls C 335 [plA p vp, gA b s, .int .i64 prn] h (fun r h' => r = .int .i64 (detErr p b s prn) ∧ h' = h) := by
 refine ACalls.gc0 (P := fun r h' => r = .int .i64 (detErr p b s prn) ∧ HSub h h') ?_ (fun r h' hp => ⟨by rw [hp.1]; trivial, hp.2, hp.1, rfl⟩)
 have v1 := R.one
 have kp := fun H (R1 : RI H vp p.prns) => plain343_spec (hC.sub (T' := T343) (by decide)) (h := H) (p := p) (b := b) (s := s) R1 h64
 have e0 : askErr p b s ≠ 0 → detErr p b s prn = askErr p b s := fun e => by unfold detErr; rw [if_neg e]
 have e1 : askErr p b s = 0 → prn ∈ p.prns → detErr p b s prn = 0 := fun e m => by unfold detErr; rw [if_pos e, if_pos m]
 have e2 : askErr p b s = 0 → prn ∉ p.prns → detErr p b s prn = 18 := fun e m => by unfold detErr; rw [if_pos e, if_neg m]
 have hlt := R.lt
 generalize detErr p b s prn = E at *
 generalize askErr p b s = AE at *
 unfold plA gA at *
 by_cases c : AE = 0
 ·rw [c] at kp
  (refine calls_intro (hC.body (by decide) tab335) (Nat.le_of_ble_eq_true rfl) ?_); (show wp C _ none B335.code _ _); (simp only [B335]); simp -implicitDefEqProofs (disch := first | assumption | decide | omega | (simp only [wpD1] <;> omega) | (simp only [wpD2] <;> assumption) | solve_by_elim [zR, zP, zV] | fail) only [↓wpPre, wpPost, wpPoly, Int.reduceToNat, Int.reducePow, Int.reduceMul, Int.reduceAdd, Int.reduceSub, Int.reduceNeg, Nat.reduceAdd, Nat.reduceMul, Nat.reducePow, Int.reduceLT, Int.reduceLE, Int.reduceEq, Nat.reduceEqDiff]
  refine ACallsK.eq (kp _ (R.mono (by repeat (first | exact HSub.refl h | refine HSub.put ?_ (by (try simp only [Heap.size_put, Heap.size_push, Heap.size_reserve]); omega) _ | refine HSub.push ?_ _ | refine HSub.reserve ?_ _)))) ?_
  simp -implicitDefEqProofs (disch := first | assumption | decide | omega | (simp only [wpD1] <;> omega) | (simp only [wpD2] <;> assumption) | solve_by_elim [zR, zP, zV] | fail) only [↓wpPre, wpPost, wpPoly, Int.reduceToNat, Int.reducePow, Int.reduceMul, Int.reduceAdd, Int.reduceSub, Int.reduceNeg, Nat.reduceAdd, Nat.reduceMul, Nat.reducePow, Int.reduceLT, Int.reduceLE, Int.reduceEq, Nat.reduceEqDiff]
  refine wp_loopI (fun j t h' => HSub h h' ∧ h'.get h.size = some (.cells [.int .i64 p.d, .int .i64 p.o, .int .i64 p.pb, .int .i64 p.w, .int .i64 p.mn, .int .i64 p.mx, .int .i64 p.nz, vp] true 0) ∧ ∃ k : Nat, t 2 = .int .i64 prn ∧ t 3 = .ptr h.size 0 ∧ t 8 = .int .i64 (k : Nat) ∧ k ≤ p.prns.length ∧ (∀ i, i < k → p.prns.getD i 0 ≠ prn) ∧ j = p.prns.length - k) (j0 := p.prns.length)
   ⟨(by repeat (first | exact HSub.refl h | refine HSub.put ?_ (by (try simp only [Heap.size_put, Heap.size_push, Heap.size_reserve]); omega) _ | refine HSub.push ?_ _ | refine HSub.reserve ?_ _)), by simp -implicitDefEqProofs (disch := first | assumption | decide | omega | (simp only [wpD1] <;> omega) | (simp only [wpD2] <;> assumption) | solve_by_elim [zR, zP, zV] | fail) only [↓wpPre, wpPost, wpPoly, Int.reduceToNat, Int.reducePow, Int.reduceMul, Int.reduceAdd, Int.reduceSub, Int.reduceNeg, Nat.reduceAdd, Nat.reduceMul, Nat.reducePow, Int.reduceLT, Int.reduceLE, Int.reduceEq, Nat.reduceEqDiff], 0, rfl, rfl, rfl, by omega, by omega, rfl⟩ ?_
  rintro j t h1 ⟨sH, gP, k, e2', e3, e8, hk, hb, hj⟩
  have R1 := R.mono sH
  simp -implicitDefEqProofs (disch := first | assumption | decide | omega | (simp only [wpD1] <;> omega) | (simp only [wpD2] <;> assumption) | solve_by_elim [zR, zP, zV] | fail) only [↓wpPre, wpPost, wpPoly, Int.reduceToNat, Int.reducePow, Int.reduceMul, Int.reduceAdd, Int.reduceSub, Int.reduceNeg, Nat.reduceAdd, Nat.reduceMul, Nat.reducePow, Int.reduceLT, Int.reduceLE, Int.reduceEq, Nat.reduceEqDiff, e2', e3, e8, gP, R1.len]
  refine Br.by (fun c1 => ?_) (fun c1 => ?_)
  ·have hk' : k < p.prns.length := by omega
   simp -implicitDefEqProofs (disch := first | assumption | decide | omega | (simp only [wpD1] <;> omega) | (simp only [wpD2] <;> assumption) | solve_by_elim [zR, zP, zV] | fail) only [↓wpPre, wpPost, wpPoly, Int.reduceToNat, Int.reducePow, Int.reduceMul, Int.reduceAdd, Int.reduceSub, Int.reduceNeg, Nat.reduceAdd, Nat.reduceMul, Nat.reducePow, Int.reduceLT, Int.reduceLE, Int.reduceEq, Nat.reduceEqDiff, e2', e3, e8, gP, R1.idx, R1.load hk']
   refine Br.by (fun c2 => ?_) (fun c2 => ?_)
   ·simp -implicitDefEqProofs (disch := first | assumption | decide | omega | (simp only [wpD1] <;> omega) | (simp only [wpD2] <;> assumption) | solve_by_elim [zR, zP, zV] | fail) only [↓wpPre, wpPost, wpPoly, Int.reduceToNat, Int.reducePow, Int.reduceMul, Int.reduceAdd, Int.reduceSub, Int.reduceNeg, Nat.reduceAdd, Nat.reduceMul, Nat.reducePow, Int.reduceLT, Int.reduceLE, Int.reduceEq, Nat.reduceEqDiff]
    exact ⟨by rw [e1 c (c2 ▸ getD_mem hk')], sH⟩
   ·simp -implicitDefEqProofs (disch := first | assumption | decide | omega | (simp only [wpD1] <;> omega) | (simp only [wpD2] <;> assumption) | solve_by_elim [zR, zP, zV] | fail) only [↓wpPre, wpPost, wpPoly, Int.reduceToNat, Int.reducePow, Int.reduceMul, Int.reduceAdd, Int.reduceSub, Int.reduceNeg, Nat.reduceAdd, Nat.reduceMul, Nat.reducePow, Int.reduceLT, Int.reduceLE, Int.reduceEq, Nat.reduceEqDiff, e2', e3, e8, gP]
    refine ⟨_, ⟨sH, k + 1, by omega, by omega, fun i hi => ?_, rfl⟩, by omega⟩
    rcases Nat.lt_or_ge i k with x | x
    ·exact hb i x
    ·obtain rfl : i = k := by omega
     exact c2
  ·obtain rfl : k = p.prns.length := by omega
   simp -implicitDefEqProofs (disch := first | assumption | decide | omega | (simp only [wpD1] <;> omega) | (simp only [wpD2] <;> assumption) | solve_by_elim [zR, zP, zV] | fail) only [↓wpPre, wpPost, wpPoly, Int.reduceToNat, Int.reducePow, Int.reduceMul, Int.reduceAdd, Int.reduceSub, Int.reduceNeg, Nat.reduceAdd, Nat.reduceMul, Nat.reducePow, Int.reduceLT, Int.reduceLE, Int.reduceEq, Nat.reduceEqDiff]
   refine ⟨by rw [e2 c]; intro hm; obtain ⟨i, hi, e⟩ := List.mem_iff_getElem.1 hm; exact hb i hi (by rw [List.getD_eq_getElem?_getD, List.getElem?_eq_getElem hi]; exact e), sH⟩
 ·rw [e0 c]
  (refine calls_intro (hC.body (by decide) tab335) (Nat.le_of_ble_eq_true rfl) ?_); (show wp C _ none B335.code _ _); (simp only [B335]); simp -implicitDefEqProofs (disch := first | assumption | decide | omega | (simp only [wpD1] <;> omega) | (simp only [wpD2] <;> assumption) | solve_by_elim [zR, zP, zV] | fail) only [↓wpPre, wpPost, wpPoly, Int.reduceToNat, Int.reducePow, Int.reduceMul, Int.reduceAdd, Int.reduceSub, Int.reduceNeg, Nat.reduceAdd, Nat.reduceMul, Nat.reducePow, Int.reduceLT, Int.reduceLE, Int.reduceEq, Nat.reduceEqDiff]
  refine ACallsK.eq (kp _ (R.mono (by repeat (first | exact HSub.refl h | refine HSub.put ?_ (by (try simp only [Heap.size_put, Heap.size_push, Heap.size_reserve]); omega) _ | refine HSub.push ?_ _ | refine HSub.reserve ?_ _)))) ?_
  simp -implicitDefEqProofs (disch := first | assumption | decide | omega | (simp only [wpD1] <;> omega) | (simp only [wpD2] <;> assumption) | solve_by_elim [zR, zP, zV] | fail) only [↓wpPre, wpPost, wpPoly, Int.reduceToNat, Int.reducePow, Int.reduceMul, Int.reduceAdd, Int.reduceSub, Int.reduceNeg, Nat.reduceAdd, Nat.reduceMul, Nat.reducePow, Int.reduceLT, Int.reduceLE, Int.reduceEq, Nat.reduceEqDiff, c]
  exact (by repeat (first | exact HSub.refl h | refine HSub.put ?_ (by (try simp only [Heap.size_put, Heap.size_push, Heap.size_reserve]); omega) _ | refine HSub.push ?_ _ | refine HSub.reserve ?_ _))
set_option maxRecDepth 20000 in
theorem others336_spec (hC : Has C T336) {p : PlanP} {vp : AV} {prn : Int} {h : Heap} (ok : PlanOk p) (R : RI h vp p.prns) (h64 : p.ok64) (hin : prn ∈ p.prns) : ACalls C 336 [plA p vp, .int .i64 prn] h (fun r h' => r = .int .i64 (p.oth prn) ∧ h' = h) := by
 refine ACalls.gc0 (P := fun r h' => r = .int .i64 (p.oth prn) ∧ HSub h h') ?_ (fun r h' hp => ⟨by rw [hp.1]; trivial, hp.2, hp.1, rfl⟩)
 have v1 := R.one
 have l8 := ok.len
 have kx := fun (k : Nat) (hk : k < p.prns.length) (hne : ¬ p.prns.getD k 0 = prn) H => CrossR_spec (hC.sub (T' := T177) (by decide)) (h := H) h64.1 h64.2.1 (h64.2.2.2.2.2.2.2 prn hin) (h64.2.2.2.2.2.2.2 _ (getD_mem hk))
 have kx2 := fun (k : Nat) (hk : k < p.prns.length) (hne : ¬ p.prns.getD k 0 = prn) => ok.cross hin (getD_mem hk) hne
 have sr := fun a b => sumI_range ok.nums a b
 have rg := fun k => othK_range sr (prn := prn) (ps := p.prns) k
 have os : ∀ k, othK (sumI p.d p.o) prn p.prns (k + 1) = othK (sumI p.d p.o) prn p.prns k + if p.prns.getD k 0 = prn then 0 else sumI p.d p.o prn (p.prns.getD k 0) := fun k => rfl
 unfold PlanP.oth plA
 generalize sumI p.d p.o = f at *
 clear h64 ok
 obtain ⟨d, o, pb, w, mn, mx, nz, prns⟩ := p
 dsimp only at *
 (refine calls_intro (hC.body (by decide) tab336) (Nat.le_of_ble_eq_true rfl) ?_); (show wp C _ none B336.code _ _); (simp only [B336]); simp -implicitDefEqProofs (disch := first | assumption | decide | omega | (simp only [wpD1] <;> omega) | (simp only [wpD2] <;> assumption) | solve_by_elim [zR, zP, zV] | fail) only [↓wpPre, wpPost, wpPoly, Int.reduceToNat, Int.reducePow, Int.reduceMul, Int.reduceAdd, Int.reduceSub, Int.reduceNeg, Nat.reduceAdd, Nat.reduceMul, Nat.reducePow, Int.reduceLT, Int.reduceLE, Int.reduceEq, Nat.reduceEqDiff]
 refine wp_loopI (fun j t h' => HSub h h' ∧ h'.get h.size = some (.cells [.int .i64 d, .int .i64 o, .int .i64 pb, .int .i64 w, .int .i64 mn, .int .i64 mx, .int .i64 nz, vp] true 0) ∧ ∃ k : Nat, t 1 = .int .i64 prn ∧ t 2 = .ptr h.size 0 ∧ t 5 = .int .i64 (othK f prn prns k) ∧ t 6 = .int .i64 (k : Nat) ∧ k ≤ prns.length ∧ j = prns.length - k) (j0 := prns.length)
  ⟨(by repeat (first | exact HSub.refl h | refine HSub.put ?_ (by (try simp only [Heap.size_put, Heap.size_push, Heap.size_reserve]); omega) _ | refine HSub.push ?_ _ | refine HSub.reserve ?_ _)), by simp -implicitDefEqProofs (disch := first | assumption | decide | omega | (simp only [wpD1] <;> omega) | (simp only [wpD2] <;> assumption) | solve_by_elim [zR, zP, zV] | fail) only [↓wpPre, wpPost, wpPoly, Int.reduceToNat, Int.reducePow, Int.reduceMul, Int.reduceAdd, Int.reduceSub, Int.reduceNeg, Nat.reduceAdd, Nat.reduceMul, Nat.reducePow, Int.reduceLT, Int.reduceLE, Int.reduceEq, Nat.reduceEqDiff], 0, rfl, rfl, rfl, rfl, by omega, rfl⟩ ?_
 rintro j t h1 ⟨sH, gP, k, e1, e2, e5, e6, hk, hj⟩
 have R1 := R.mono sH
 simp -implicitDefEqProofs (disch := first | assumption | decide | omega | (simp only [wpD1] <;> omega) | (simp only [wpD2] <;> assumption) | solve_by_elim [zR, zP, zV] | fail) only [↓wpPre, wpPost, wpPoly, Int.reduceToNat, Int.reducePow, Int.reduceMul, Int.reduceAdd, Int.reduceSub, Int.reduceNeg, Nat.reduceAdd, Nat.reduceMul, Nat.reducePow, Int.reduceLT, Int.reduceLE, Int.reduceEq, Nat.reduceEqDiff, e1, e2, e5, e6, gP, R1.len]
 refine Br.by (fun c1 => ?_) (fun c1 => ?_)
 ·have hk' : k < prns.length := by omega
  have kx := kx k hk'
  have kx2 := kx2 k hk'
  have os := os k
  have rk := rg k
  have sr := sr prn (prns.getD k 0)
  have xq : ∃ q, q = prns.getD k 0 := ⟨_, rfl⟩
  obtain ⟨q, hq⟩ := xq
  have lk := R1.load hk'
  rw [← hq] at kx kx2 os sr lk
  by_cases c2 : q = prn
  ·rw [if_pos c2, Int.add_zero] at os
   simp -implicitDefEqProofs (disch := first | assumption | decide | omega | (simp only [wpD1] <;> omega) | (simp only [wpD2] <;> assumption) | solve_by_elim [zR, zP, zV] | fail) only [↓wpPre, wpPost, wpPoly, Int.reduceToNat, Int.reducePow, Int.reduceMul, Int.reduceAdd, Int.reduceSub, Int.reduceNeg, Nat.reduceAdd, Nat.reduceMul, Nat.reducePow, Int.reduceLT, Int.reduceLE, Int.reduceEq, Nat.reduceEqDiff, e1, e2, e5, e6, gP, R1.idx, lk, c2]
   exact ⟨_, ⟨sH, k + 1, by rw [os], by omega, by omega, rfl⟩, by omega⟩
  ·rw [if_neg c2] at os
   have kx2 := kx2 c2
   rw [kx2] at kx
   simp -implicitDefEqProofs (disch := first | assumption | decide | omega | (simp only [wpD1] <;> omega) | (simp only [wpD2] <;> assumption) | solve_by_elim [zR, zP, zV] | fail) only [↓wpPre, wpPost, wpPoly, Int.reduceToNat, Int.reducePow, Int.reduceMul, Int.reduceAdd, Int.reduceSub, Int.reduceNeg, Nat.reduceAdd, Nat.reduceMul, Nat.reducePow, Int.reduceLT, Int.reduceLE, Int.reduceEq, Nat.reduceEqDiff, e1, e2, e5, e6, gP, R1.idx, lk, c2]
   refine ACallsK.of (kx c2 _) ?_
   rintro r h2 ⟨rfl, s2⟩
   simp -implicitDefEqProofs (disch := first | assumption | decide | omega | (simp only [wpD1] <;> omega) | (simp only [wpD2] <;> assumption) | solve_by_elim [zR, zP, zV] | fail) only [↓wpPre, wpPost, wpPoly, Int.reduceToNat, Int.reducePow, Int.reduceMul, Int.reduceAdd, Int.reduceSub, Int.reduceNeg, Nat.reduceAdd, Nat.reduceMul, Nat.reducePow, Int.reduceLT, Int.reduceLE, Int.reduceEq, Nat.reduceEqDiff, tup2, e1, e2, e5, e6]
   exact ⟨_, ⟨sH.trans s2, (s2.get _ (Heap.lt_of_get gP)).trans gP, k + 1, by rw [os], by omega, by omega, rfl⟩, by omega⟩
 ·obtain rfl : k = prns.length := by omega
  simp -implicitDefEqProofs (disch := first | assumption | decide | omega | (simp only [wpD1] <;> omega) | (simp only [wpD2] <;> assumption) | solve_by_elim [zR, zP, zV] | fail) only [↓wpPre, wpPost, wpPoly, Int.reduceToNat, Int.reducePow, Int.reduceMul, Int.reduceAdd, Int.reduceSub, Int.reduceNeg, Nat.reduceAdd, Nat.reduceMul, Nat.reducePow, Int.reduceLT, Int.reduceLE, Int.reduceEq, Nat.reduceEqDiff, e5]
  exact sH
set_option maxRecDepth 20000 in
theorem hum337_spec (hC : Has C T337) {p : PlanP} {vp : AV} {b s : Int} {h : Heap} (ok : PlanOk p) (hg : gErr b s = 0) (v1 : vp.one = true) : ACalls C 337 [plA p vp, gA b s] h (fun r h' => r = .int .i64 (humI p s) ∧ h' = h) := by
 refine ACalls.gc0 (P := fun r h' => r = .int .i64 (humI p s) ∧ HSub h h') ?_ (fun r h' hp => ⟨by rw [hp.1]; trivial, hp.2, hp.1, rfl⟩)
 have kc := fun H => rCoarse_spec (hC.sub (T' := T348) (by decide)) (h := H) (b := b) (s := s)
 have ks := fun H => size244_spec (hC.sub (T' := T244) (by decide)) (h := H) (p := p) ok.nums v1
 unfold coarE at kc
 rw [if_pos hg] at kc
 have hr := hum_range ok (gErr_ok hg).2.2
 have cr := coar_range (gErr_ok hg).2.2
 have nr := ok.nums.2.2.2.2.2.2
 unfold humI
 unfold plA gA at *
 generalize p.size = S at *
 generalize coarI s = cs at *
 obtain ⟨d, o, pb, w, mn, mx, nz, prns⟩ := p
 dsimp only at *
 (refine calls_intro (hC.body (by decide) tab337) (Nat.le_of_ble_eq_true rfl) ?_); (show wp C _ none B337.code _ _); (simp only [B337]); simp -implicitDefEqProofs (disch := first | assumption | decide | omega | (simp only [wpD1] <;> omega) | (simp only [wpD2] <;> assumption) | solve_by_elim [zR, zP, zV] | fail) only [↓wpPre, wpPost, wpPoly, Int.reduceToNat, Int.reducePow, Int.reduceMul, Int.reduceAdd, Int.reduceSub, Int.reduceNeg, Nat.reduceAdd, Nat.reduceMul, Nat.reducePow, Int.reduceLT, Int.reduceLE, Int.reduceEq, Nat.reduceEqDiff]
 refine ACallsK.eq (kc _) ?_
 simp -implicitDefEqProofs (disch := first | assumption | decide | omega | (simp only [wpD1] <;> omega) | (simp only [wpD2] <;> assumption) | solve_by_elim [zR, zP, zV] | fail) only [↓wpPre, wpPost, wpPoly, Int.reduceToNat, Int.reducePow, Int.reduceMul, Int.reduceAdd, Int.reduceSub, Int.reduceNeg, Nat.reduceAdd, Nat.reduceMul, Nat.reducePow, Int.reduceLT, Int.reduceLE, Int.reduceEq, Nat.reduceEqDiff, tup2]
 refine ACallsK.eq (ks _) ?_
 simp -implicitDefEqProofs (disch := first | assumption | decide | omega | (simp only [wpD1] <;> omega) | (simp only [wpD2] <;> assumption) | solve_by_elim [zR, zP, zV] | fail) only [↓wpPre, wpPost, wpPoly, Int.reduceToNat, Int.reducePow, Int.reduceMul, Int.reduceAdd, Int.reduceSub, Int.reduceNeg, Nat.reduceAdd, Nat.reduceMul, Nat.reducePow, Int.reduceLT, Int.reduceLE, Int.reduceEq, Nat.reduceEqDiff]
 exact (by repeat (first | exact HSub.refl h | refine HSub.put ?_ (by (try simp only [Heap.size_put, Heap.size_push, Heap.size_reserve]); omega) _ | refine HSub.push ?_ _ | refine HSub.reserve ?_ _))
set_option maxRecDepth 20000 in
theorem BoundR_spec (hC : Has C T316) {p : PlanP} {vp : AV} {b s prn : Int} {h : Heap} (R : RI h vp p.prns) (h64 : p.ok64) :
  ACalls C 316 [plA p vp, gA b s, .int .i64 prn] h (fun r h' => r = (if detErr p b s prn = 0 then tup2 (boundI p s prn) 0 else tup2 0 (detErr p b s prn)) ∧ h' = h) := by
 refine ACalls.gc0 (P := fun r h' => r = (if detErr p b s prn = 0 then tup2 (boundI p s prn) 0 else tup2 0 (detErr p b s prn)) ∧ HSub h h') ?_ (fun r h' hp => ⟨by rw [hp.1]; unfold tup2; split <;> exact ⟨trivial, trivial, trivial⟩, hp.2, hp.1, rfl⟩)
 have v1 := R.one
 have kc := fun H (R1 : RI H vp p.prns) => check335_spec (hC.sub (T' := T335) (by decide)) (h := H) (p := p) (b := b) (s := s) (prn := prn) R1 h64
 have e0 : detErr p b s prn = 0 → askErr p b s = 0 ∧ prn ∈ p.prns := detErr_ok
 generalize detErr p b s prn = E at *
 by_cases c : E = 0
 ·subst c
  obtain ⟨ea, hin⟩ := e0 rfl
  obtain ⟨ok, hg⟩ := askErr_ok ea
  have ks := fun H => SideR_spec (hC.sub (T' := T176) (by decide)) (h := H) h64.1 h64.2.1 (h64.2.2.2.2.2.2.2 prn hin)
  rw [ok.side hin] at ks
  have ko := fun H (R1 : RI H vp p.prns) => others336_spec (hC.sub (T' := T336) (by decide)) (h := H) ok R1 h64 hin
  have kh := fun H => hum337_spec (hC.sub (T' := T337) (by decide)) (h := H) ok hg v1
  have bd := bound_range ok (gErr_ok hg).2.2 prn
  have m1 := sumI_range ok.nums prn prn
  have m2 := oth_range ok prn
  have m3 := mx_range ok (x := sumI p.d p.o prn prn + p.oth prn) (by omega)
  have m4 := ok.nums.2.2.2.2
  rw [if_pos rfl]
  unfold boundI at *
  unfold plA gA at *
  clear e0 ea ok
  generalize p.oth prn = O at *
  generalize sumI p.d p.o prn prn = SI1 at *
  generalize humI p s = HM at *
  clear h64
  obtain ⟨d, o, pb, w, mn, mx, nz, prns⟩ := p
  dsimp only at *
  (refine calls_intro (hC.body (by decide) tab316) (Nat.le_of_ble_eq_true rfl) ?_); (show wp C _ none B316.code _ _); (simp only [B316]); simp -implicitDefEqProofs (disch := first | assumption | decide | omega | (simp only [wpD1] <;> omega) | (simp only [wpD2] <;> assumption) | solve_by_elim [zR, zP, zV] | fail) only [↓wpPre, wpPost, wpPoly, Int.reduceToNat, Int.reducePow, Int.reduceMul, Int.reduceAdd, Int.reduceSub, Int.reduceNeg, Nat.reduceAdd, Nat.reduceMul, Nat.reducePow, Int.reduceLT, Int.reduceLE, Int.reduceEq, Nat.reduceEqDiff]
  refine ACallsK.eq (kc _ (R.mono (by repeat (first | exact HSub.refl h | refine HSub.put ?_ (by (try simp only [Heap.size_put, Heap.size_push, Heap.size_reserve]); omega) _ | refine HSub.push ?_ _ | refine HSub.reserve ?_ _)))) ?_
  simp -implicitDefEqProofs (disch := first | assumption | decide | omega | (simp only [wpD1] <;> omega) | (simp only [wpD2] <;> assumption) | solve_by_elim [zR, zP, zV] | fail) only [↓wpPre, wpPost, wpPoly, Int.reduceToNat, Int.reducePow, Int.reduceMul, Int.reduceAdd, Int.reduceSub, Int.reduceNeg, Nat.reduceAdd, Nat.reduceMul, Nat.reducePow, Int.reduceLT, Int.reduceLE, Int.reduceEq, Nat.reduceEqDiff]
  refine ACallsK.of (ks _) ?_
  rintro r h2 ⟨rfl, sA⟩
  have z2 := sA.size
  simp only [Heap.size_push] at z2
  have g3 : h2.get h.size = some (.cells [.int .i64 d, .int .i64 o, .int .i64 pb, .int .i64 w, .int .i64 mn, .int .i64 mx, .int .i64 nz, vp] true 0) := (sA.get _ (by simp only [Heap.size_push]; omega)).trans (by simp -implicitDefEqProofs (disch := first | assumption | decide | omega | (simp only [wpD1] <;> omega) | (simp only [wpD2] <;> assumption) | solve_by_elim [zR, zP, zV] | fail) only [↓wpPre, wpPost, wpPoly, Int.reduceToNat, Int.reducePow, Int.reduceMul, Int.reduceAdd, Int.reduceSub, Int.reduceNeg, Nat.reduceAdd, Nat.reduceMul, Nat.reducePow, Int.reduceLT, Int.reduceLE, Int.reduceEq, Nat.reduceEqDiff])
  have g4 : h2.get (h.size + 1) = some (.cells [.int .i64 b, .int .i64 s] true 0) := (sA.get _ (by simp only [Heap.size_push]; omega)).trans (by simp -implicitDefEqProofs (disch := first | assumption | decide | omega | (simp only [wpD1] <;> omega) | (simp only [wpD2] <;> assumption) | solve_by_elim [zR, zP, zV] | fail) only [↓wpPre, wpPost, wpPoly, Int.reduceToNat, Int.reducePow, Int.reduceMul, Int.reduceAdd, Int.reduceSub, Int.reduceNeg, Nat.reduceAdd, Nat.reduceMul, Nat.reducePow, Int.reduceLT, Int.reduceLE, Int.reduceEq, Nat.reduceEqDiff])
  have hs2 : HSub h h2 := (show HSub h _ from (by repeat (first | exact HSub.refl h | refine HSub.put ?_ (by (try simp only [Heap.size_put, Heap.size_push, Heap.size_reserve]); omega) _ | refine HSub.push ?_ _ | refine HSub.reserve ?_ _))).trans sA
  simp -implicitDefEqProofs (disch := first | assumption | decide | omega | (simp only [wpD1] <;> omega) | (simp only [wpD2] <;> assumption) | solve_by_elim [zR, zP, zV] | fail) only [↓wpPre, wpPost, wpPoly, Int.reduceToNat, Int.reducePow, Int.reduceMul, Int.reduceAdd, Int.reduceSub, Int.reduceNeg, Nat.reduceAdd, Nat.reduceMul, Nat.reducePow, Int.reduceLT, Int.reduceLE, Int.reduceEq, Nat.reduceEqDiff, tup2, g3, g4]
  refine ACallsK.eq (ko _ (R.mono (by repeat (first | exact hs2 | refine HSub.put ?_ (by (try simp only [Heap.size_put, Heap.size_push, Heap.size_reserve]); omega) _ | refine HSub.push ?_ _ | refine HSub.reserve ?_ _)))) ?_
  simp -implicitDefEqProofs (disch := first | assumption | decide | omega | (simp only [wpD1] <;> omega) | (simp only [wpD2] <;> assumption) | solve_by_elim [zR, zP, zV] | fail) only [↓wpPre, wpPost, wpPoly, Int.reduceToNat, Int.reducePow, Int.reduceMul, Int.reduceAdd, Int.reduceSub, Int.reduceNeg, Nat.reduceAdd, Nat.reduceMul, Nat.reducePow, Int.reduceLT, Int.reduceLE, Int.reduceEq, Nat.reduceEqDiff, g3, g4]
  refine ACallsK.eq (kh _) ?_
  simp -implicitDefEqProofs (disch := first | assumption | decide | omega | (simp only [wpD1] <;> omega) | (simp only [wpD2] <;> assumption) | solve_by_elim [zR, zP, zV] | fail) only [↓wpPre, wpPost, wpPoly, Int.reduceToNat, Int.reducePow, Int.reduceMul, Int.reduceAdd, Int.reduceSub, Int.reduceNeg, Nat.reduceAdd, Nat.reduceMul, Nat.reducePow, Int.reduceLT, Int.reduceLE, Int.reduceEq, Nat.reduceEqDiff]
  exact ⟨rfl, (by repeat (first | exact hs2 | refine HSub.put ?_ (by (try simp only [Heap.size_put, Heap.size_push, Heap.size_reserve]); omega) _ | refine HSub.push ?_ _ | refine HSub.reserve ?_ _))⟩
 ·obtain ⟨d, o, pb, w, mn, mx, nz, prns⟩ := p
  unfold plA gA at *
  dsimp only at *
  (refine calls_intro (hC.body (by decide) tab316) (Nat.le_of_ble_eq_true rfl) ?_); (show wp C _ none B316.code _ _); (simp only [B316]); simp -implicitDefEqProofs (disch := first | assumption | decide | omega | (simp only [wpD1] <;> omega) | (simp only [wpD2] <;> assumption) | solve_by_elim [zR, zP, zV] | fail) only [↓wpPre, wpPost, wpPoly, Int.reduceToNat, Int.reducePow, Int.reduceMul, Int.reduceAdd, Int.reduceSub, Int.reduceNeg, Nat.reduceAdd, Nat.reduceMul, Nat.reducePow, Int.reduceLT, Int.reduceLE, Int.reduceEq, Nat.reduceEqDiff]
  refine ACallsK.eq (kc _ (R.mono (by repeat (first | exact HSub.refl h | refine HSub.put ?_ (by (try simp only [Heap.size_put, Heap.size_push, Heap.size_reserve]); omega) _ | refine HSub.push ?_ _ | refine HSub.reserve ?_ _)))) ?_
  simp -implicitDefEqProofs (disch := first | assumption | decide | omega | (simp only [wpD1] <;> omega) | (simp only [wpD2] <;> assumption) | solve_by_elim [zR, zP, zV] | fail) only [↓wpPre, wpPost, wpPoly, Int.reduceToNat, Int.reducePow, Int.reduceMul, Int.reduceAdd, Int.reduceSub, Int.reduceNeg, Nat.reduceAdd, Nat.reduceMul, Nat.reducePow, Int.reduceLT, Int.reduceLE, Int.reduceEq, Nat.reduceEqDiff, c]
  exact ⟨by simp [tup2], (by repeat (first | exact HSub.refl h | refine HSub.put ?_ (by (try simp only [Heap.size_put, Heap.size_push, Heap.size_reserve]); omega) _ | refine HSub.push ?_ _ | refine HSub.reserve ?_ _))⟩
set_option maxRecDepth 20000 in
theorem ThresholdR_spec (hC : Has C T318) {p : PlanP} {vp : AV} {b s prn : Int} {h : Heap} (R : RI h vp p.prns) (h64 : p.ok64) :
  ACalls C 318 [plA p vp, gA b s, .int .i64 prn] h (fun r h' => r = (if detErr p b s prn = 0 then tup2 (thrI p s prn) 0 else tup2 0 (detErr p b s prn)) ∧ h' = h) := by
 refine ACalls.gc0 (P := fun r h' => r = (if detErr p b s prn = 0 then tup2 (thrI p s prn) 0 else tup2 0 (detErr p b s prn)) ∧ HSub h h') ?_ (fun r h' hp => ⟨by rw [hp.1]; unfold tup2; split <;> exact ⟨trivial, trivial, trivial⟩, hp.2, hp.1, rfl⟩)
 have v1 := R.one
 have kc := fun H (R1 : RI H vp p.prns) => BoundR_spec (hC.sub (T' := T316) (by decide)) (h := H) (p := p) (b := b) (s := s) (prn := prn) R1 h64
 have e0 : detErr p b s prn = 0 → askErr p b s = 0 ∧ prn ∈ p.prns := detErr_ok
 generalize detErr p b s prn = E at *
 by_cases c : E = 0
 ·subst c
  obtain ⟨ea, hin⟩ := e0 rfl
  obtain ⟨ok, hg⟩ := askErr_ok ea
  have bd := bound_range ok (gErr_ok hg).2.2 prn
  have p30 := pow_30 (gErr_ok hg).2.2
  have gs := (gErr_ok hg).2.2
  rw [if_pos rfl] at kc
  rw [if_pos rfl]
  unfold thrI
  unfold plA gA at *
  have fd := Int.fdiv_eq_ediv_of_nonneg (boundI p s prn + 2 ^ s.toNat - 1) (show 0 ≤ (2 : Int) ^ s.toNat by omega)
  clear e0 ea ok h64
  generalize boundI p s prn = B at *
  generalize hP : (2 : Int) ^ s.toNat = P at *
  obtain ⟨d, o, pb, w, mn, mx, nz, prns⟩ := p
  dsimp only at *
  (refine calls_intro (hC.body (by decide) tab318) (Nat.le_of_ble_eq_true rfl) ?_); (show wp C _ none B318.code _ _); (simp only [B318]); simp -implicitDefEqProofs (disch := first | assumption | decide | omega | (simp only [wpD1] <;> omega) | (simp only [wpD2] <;> assumption) | solve_by_elim [zR, zP, zV] | fail) only [↓wpPre, wpPost, wpPoly, Int.reduceToNat, Int.reducePow, Int.reduceMul, Int.reduceAdd, Int.reduceSub, Int.reduceNeg, Nat.reduceAdd, Nat.reduceMul, Nat.reducePow, Int.reduceLT, Int.reduceLE, Int.reduceEq, Nat.reduceEqDiff, hP, Int.one_mul]
  refine ACallsK.eq (kc _ (R.mono (by repeat (first | exact HSub.refl h | refine HSub.put ?_ (by (try simp only [Heap.size_put, Heap.size_push, Heap.size_reserve]); omega) _ | refine HSub.push ?_ _ | refine HSub.reserve ?_ _)))) ?_
  simp -implicitDefEqProofs (disch := first | assumption | decide | omega | (simp only [wpD1] <;> omega) | (simp only [wpD2] <;> assumption) | solve_by_elim [zR, zP, zV] | fail) only [↓wpPre, wpPost, wpPoly, Int.reduceToNat, Int.reducePow, Int.reduceMul, Int.reduceAdd, Int.reduceSub, Int.reduceNeg, Nat.reduceAdd, Nat.reduceMul, Nat.reducePow, Int.reduceLT, Int.reduceLE, Int.reduceEq, Nat.reduceEqDiff, tup2, hP, fd, Int.one_mul]
  exact (by repeat (first | exact HSub.refl h | refine HSub.put ?_ (by (try simp only [Heap.size_put, Heap.size_push, Heap.size_reserve]); omega) _ | refine HSub.push ?_ _ | refine HSub.reserve ?_ _))
 ·rw [if_neg c] at kc
  obtain ⟨d, o, pb, w, mn, mx, nz, prns⟩ := p
  unfold plA gA at *
  dsimp only at *
  (refine calls_intro (hC.body (by decide) tab318) (Nat.le_of_ble_eq_true rfl) ?_); (show wp C _ none B318.code _ _); (simp only [B318]); simp -implicitDefEqProofs (disch := first | assumption | decide | omega | (simp only [wpD1] <;> omega) | (simp only [wpD2] <;> assumption) | solve_by_elim [zR, zP, zV] | fail) only [↓wpPre, wpPost, wpPoly, Int.reduceToNat, Int.reducePow, Int.reduceMul, Int.reduceAdd, Int.reduceSub, Int.reduceNeg, Nat.reduceAdd, Nat.reduceMul, Nat.reducePow, Int.reduceLT, Int.reduceLE, Int.reduceEq, Nat.reduceEqDiff]
  refine ACallsK.eq (kc _ (R.mono (by repeat (first | exact HSub.refl h | refine HSub.put ?_ (by (try simp only [Heap.size_put, Heap.size_push, Heap.size_reserve]); omega) _ | refine HSub.push ?_ _ | refine HSub.reserve ?_ _)))) ?_
  simp -implicitDefEqProofs (disch := first | assumption | decide | omega | (simp only [wpD1] <;> omega) | (simp only [wpD2] <;> assumption) | solve_by_elim [zR, zP, zV] | fail) only [↓wpPre, wpPost, wpPoly, Int.reduceToNat, Int.reducePow, Int.reduceMul, Int.reduceAdd, Int.reduceSub, Int.reduceNeg, Nat.reduceAdd, Nat.reduceMul, Nat.reducePow, Int.reduceLT, Int.reduceLE, Int.reduceEq, Nat.reduceEqDiff, tup2, c]
  exact ⟨by simp, (by repeat (first | exact HSub.refl h | refine HSub.put ?_ (by (try simp only [Heap.size_put, Heap.size_push, Heap.size_reserve]); omega) _ | refine HSub.push ?_ _ | refine HSub.reserve ?_ _))⟩
theorem exceed_claim {t pw m : Int} (ht : 0 ≤ t ∧ t < 3000000000) (hm : 1 ≤ m) : (0 < pw ∧ t * t ≤ (pw - 1) / m) ↔ t * t * m < pw := by
 have sq := Int.mul_nonneg ht.1 ht.1
 have q := Int.mul_nonneg sq (show 0 ≤ m by omega)
 rw [Int.le_ediv_iff_mul_le (by omega)]
 generalize t * t * m = Y at *
 omega
set_option maxRecDepth 20000 in
theorem Exceeds_spec (hC : Has C T333) {t pw m : Int} {h : Heap} (ht : 0 ≤ t ∧ t < 3000000000) (hpw : In64 pw) (hm : 1 ≤ m ∧ m ≤ 1000) :
  ACalls C 333 [.int .i64 t, .int .i64 pw, .int .i64 m] h (fun r h' => r = .bool (claimB t pw m) ∧ h' = h) := by
 have ex := exceed_claim (pw := pw) ht hm.1
 have sq := Int.mul_nonneg ht.1 ht.1
 have sq2 := Int.mul_le_mul (show t ≤ 2999999999 by omega) (show t ≤ 2999999999 by omega) ht.1 (by decide)
 have sq3 : t * t ≤ 8999999994000000001 := sq2
 unfold claimB
 unfold In64 at hpw
 by_cases c1 : 0 < pw
 ·have dv : 0 ≤ (pw - 1) / m ∧ (pw - 1) / m ≤ pw - 1 := ⟨Int.ediv_nonneg (by omega) (by omega), Int.ediv_le_self _ (by omega)⟩
  have td : (pw - 1).tdiv m = (pw - 1) / m := Int.tdiv_eq_ediv_of_nonneg (by omega)
  have e : decide (t * t * m < pw) = decide (t * t ≤ (pw - 1) / m) := by
   rw [decide_eq_decide, ← ex]
   exact ⟨fun q => q.2, fun q => ⟨c1, q⟩⟩
  rw [e]
  clear ex e
  (refine calls_intro (hC.body (by decide) tab333) (Nat.le_of_ble_eq_true rfl) ?_); (show wp C _ none B333.code _ _); (simp only [B333]); simp -implicitDefEqProofs (disch := first | assumption | decide | omega | (simp only [wpD1] <;> omega) | (simp only [wpD2] <;> assumption) | solve_by_elim [zR, zP, zV] | fail) only [↓wpPre, wpPost, wpPoly, Int.reduceToNat, Int.reducePow, Int.reduceMul, Int.reduceAdd, Int.reduceSub, Int.reduceNeg, Nat.reduceAdd, Nat.reduceMul, Nat.reducePow, Int.reduceLT, Int.reduceLE, Int.reduceEq, Nat.reduceEqDiff, c1, gV_u, td]
 ·have e : decide (t * t * m < pw) = false := by
   rw [decide_eq_false_iff_not, ← ex]
   exact fun q => c1 q.1
  rw [e]
  (refine calls_intro (hC.body (by decide) tab333) (Nat.le_of_ble_eq_true rfl) ?_); (show wp C _ none B333.code _ _); (simp only [B333]); simp -implicitDefEqProofs (disch := first | assumption | decide | omega | (simp only [wpD1] <;> omega) | (simp only [wpD2] <;> assumption) | solve_by_elim [zR, zP, zV] | fail) only [↓wpPre, wpPost, wpPoly, Int.reduceToNat, Int.reducePow, Int.reduceMul, Int.reduceAdd, Int.reduceSub, Int.reduceNeg, Nat.reduceAdd, Nat.reduceMul, Nat.reducePow, Int.reduceLT, Int.reduceLE, Int.reduceEq, Nat.reduceEqDiff, c1, gV_u]
set_option maxRecDepth 20000 in
theorem ClaimsR_spec (hC : Has C T314) {p : PlanP} {vp : AV} {b s prn pw m : Int} {h : Heap} (R : RI h vp p.prns) (h64 : p.ok64) (hpw : In64 pw) (hm : In64 m) (ht : detErr p b s prn = 0 → thrI p s prn < 3000000000) :
  ACalls C 314 [plA p vp, gA b s, .int .i64 prn, .int .i64 pw, .int .i64 m] h (fun r h' => r = claimE p b s prn pw m ∧ h' = h) := by
 refine ACalls.gc0 (P := fun r h' => r = claimE p b s prn pw m ∧ HSub h h') ?_ (fun r h' hp => ⟨by rw [hp.1]; unfold claimE; (repeat' split) <;> exact ⟨trivial, trivial, trivial⟩, hp.2, hp.1, rfl⟩)
 have v1 := R.one
 have kt := fun H (R1 : RI H vp p.prns) => ThresholdR_spec (hC.sub (T' := T318) (by decide)) (h := H) (p := p) (b := b) (s := s) (prn := prn) R1 h64
 have e0 : detErr p b s prn = 0 → askErr p b s = 0 ∧ prn ∈ p.prns := detErr_ok
 have tr := fun (ok : PlanOk p) (hs : 0 ≤ s ∧ s ≤ 30) => thr_range ok hs prn
 unfold claimE
 generalize detErr p b s prn = E at *
 by_cases c : E = 0
 ·subst c
  obtain ⟨ea, hin⟩ := e0 rfl
  obtain ⟨ok, hg⟩ := askErr_ok ea
  have tr := tr ok (gErr_ok hg).2.2
  have ht := ht rfl
  rw [if_pos rfl] at kt
  rw [if_pos rfl]
  unfold plA gA at *
  clear e0 ea ok h64
  generalize thrI p s prn = Th at *
  have kx := fun (hm : 1 ≤ m ∧ m ≤ 1000) H => Exceeds_spec (hC.sub (T' := T333) (by decide)) (h := H) (t := Th) (pw := pw) (m := m) ⟨tr.1, ht⟩ hpw hm
  unfold In64 at hpw hm
  obtain ⟨d, o, pb, w, mn, mx, nz, prns⟩ := p
  dsimp only at *
  (refine calls_intro (hC.body (by decide) tab314) (Nat.le_of_ble_eq_true rfl) ?_); (show wp C _ none B314.code _ _); (simp only [B314]); simp -implicitDefEqProofs (disch := first | assumption | decide | omega | (simp only [wpD1] <;> omega) | (simp only [wpD2] <;> assumption) | solve_by_elim [zR, zP, zV] | fail) only [↓wpPre, wpPost, wpPoly, Int.reduceToNat, Int.reducePow, Int.reduceMul, Int.reduceAdd, Int.reduceSub, Int.reduceNeg, Nat.reduceAdd, Nat.reduceMul, Nat.reducePow, Int.reduceLT, Int.reduceLE, Int.reduceEq, Nat.reduceEqDiff]
  refine ACallsK.eq (kt _ (R.mono (by repeat (first | exact HSub.refl h | refine HSub.put ?_ (by (try simp only [Heap.size_put, Heap.size_push, Heap.size_reserve]); omega) _ | refine HSub.push ?_ _ | refine HSub.reserve ?_ _)))) ?_
  by_cases c1 : pw < 0
  ·simp -implicitDefEqProofs (disch := first | assumption | decide | omega | (simp only [wpD1] <;> omega) | (simp only [wpD2] <;> assumption) | solve_by_elim [zR, zP, zV] | fail) only [↓wpPre, wpPost, wpPoly, Int.reduceToNat, Int.reducePow, Int.reduceMul, Int.reduceAdd, Int.reduceSub, Int.reduceNeg, Nat.reduceAdd, Nat.reduceMul, Nat.reducePow, Int.reduceLT, Int.reduceLE, Int.reduceEq, Nat.reduceEqDiff, tup2, c1, gV_u]
   exact ⟨by simp, (by repeat (first | exact HSub.refl h | refine HSub.put ?_ (by (try simp only [Heap.size_put, Heap.size_push, Heap.size_reserve]); omega) _ | refine HSub.push ?_ _ | refine HSub.reserve ?_ _))⟩
  by_cases c2 : m < 1
  ·simp -implicitDefEqProofs (disch := first | assumption | decide | omega | (simp only [wpD1] <;> omega) | (simp only [wpD2] <;> assumption) | solve_by_elim [zR, zP, zV] | fail) only [↓wpPre, wpPost, wpPoly, Int.reduceToNat, Int.reducePow, Int.reduceMul, Int.reduceAdd, Int.reduceSub, Int.reduceNeg, Nat.reduceAdd, Nat.reduceMul, Nat.reducePow, Int.reduceLT, Int.reduceLE, Int.reduceEq, Nat.reduceEqDiff, tup2, c1, c2, gV_u]
   exact ⟨by simp, (by repeat (first | exact HSub.refl h | refine HSub.put ?_ (by (try simp only [Heap.size_put, Heap.size_push, Heap.size_reserve]); omega) _ | refine HSub.push ?_ _ | refine HSub.reserve ?_ _))⟩
  by_cases c3 : 1000 < m
  ·simp -implicitDefEqProofs (disch := first | assumption | decide | omega | (simp only [wpD1] <;> omega) | (simp only [wpD2] <;> assumption) | solve_by_elim [zR, zP, zV] | fail) only [↓wpPre, wpPost, wpPoly, Int.reduceToNat, Int.reducePow, Int.reduceMul, Int.reduceAdd, Int.reduceSub, Int.reduceNeg, Nat.reduceAdd, Nat.reduceMul, Nat.reducePow, Int.reduceLT, Int.reduceLE, Int.reduceEq, Nat.reduceEqDiff, tup2, c1, c2, c3, gV_u]
   exact ⟨by simp, (by repeat (first | exact HSub.refl h | refine HSub.put ?_ (by (try simp only [Heap.size_put, Heap.size_push, Heap.size_reserve]); omega) _ | refine HSub.push ?_ _ | refine HSub.reserve ?_ _))⟩
  simp -implicitDefEqProofs (disch := first | assumption | decide | omega | (simp only [wpD1] <;> omega) | (simp only [wpD2] <;> assumption) | solve_by_elim [zR, zP, zV] | fail) only [↓wpPre, wpPost, wpPoly, Int.reduceToNat, Int.reducePow, Int.reduceMul, Int.reduceAdd, Int.reduceSub, Int.reduceNeg, Nat.reduceAdd, Nat.reduceMul, Nat.reducePow, Int.reduceLT, Int.reduceLE, Int.reduceEq, Nat.reduceEqDiff, tup2, c1, c2, c3, gV_u]
  refine ACallsK.eq (kx (by omega) _) ?_
  simp -implicitDefEqProofs (disch := first | assumption | decide | omega | (simp only [wpD1] <;> omega) | (simp only [wpD2] <;> assumption) | solve_by_elim [zR, zP, zV] | fail) only [↓wpPre, wpPost, wpPoly, Int.reduceToNat, Int.reducePow, Int.reduceMul, Int.reduceAdd, Int.reduceSub, Int.reduceNeg, Nat.reduceAdd, Nat.reduceMul, Nat.reducePow, Int.reduceLT, Int.reduceLE, Int.reduceEq, Nat.reduceEqDiff]
  exact ⟨by simp [c1, c2, c3], (by repeat (first | exact HSub.refl h | refine HSub.put ?_ (by (try simp only [Heap.size_put, Heap.size_push, Heap.size_reserve]); omega) _ | refine HSub.push ?_ _ | refine HSub.reserve ?_ _))⟩
 ·rw [if_neg c] at kt
  obtain ⟨d, o, pb, w, mn, mx, nz, prns⟩ := p
  unfold plA gA at *
  dsimp only at *
  (refine calls_intro (hC.body (by decide) tab314) (Nat.le_of_ble_eq_true rfl) ?_); (show wp C _ none B314.code _ _); (simp only [B314]); simp -implicitDefEqProofs (disch := first | assumption | decide | omega | (simp only [wpD1] <;> omega) | (simp only [wpD2] <;> assumption) | solve_by_elim [zR, zP, zV] | fail) only [↓wpPre, wpPost, wpPoly, Int.reduceToNat, Int.reducePow, Int.reduceMul, Int.reduceAdd, Int.reduceSub, Int.reduceNeg, Nat.reduceAdd, Nat.reduceMul, Nat.reducePow, Int.reduceLT, Int.reduceLE, Int.reduceEq, Nat.reduceEqDiff]
  refine ACallsK.eq (kt _ (R.mono (by repeat (first | exact HSub.refl h | refine HSub.put ?_ (by (try simp only [Heap.size_put, Heap.size_push, Heap.size_reserve]); omega) _ | refine HSub.push ?_ _ | refine HSub.reserve ?_ _)))) ?_
  simp -implicitDefEqProofs (disch := first | assumption | decide | omega | (simp only [wpD1] <;> omega) | (simp only [wpD2] <;> assumption) | solve_by_elim [zR, zP, zV] | fail) only [↓wpPre, wpPost, wpPoly, Int.reduceToNat, Int.reducePow, Int.reduceMul, Int.reduceAdd, Int.reduceSub, Int.reduceNeg, Nat.reduceAdd, Nat.reduceMul, Nat.reducePow, Int.reduceLT, Int.reduceLE, Int.reduceEq, Nat.reduceEqDiff, tup2, c]
  exact ⟨by simp, (by repeat (first | exact HSub.refl h | refine HSub.put ?_ (by (try simp only [Heap.size_put, Heap.size_push, Heap.size_reserve]); omega) _ | refine HSub.push ?_ _ | refine HSub.reserve ?_ _))⟩
end
end Go.Ae
/- The statements on claims, bounds and examples, of layer 15. -/
set_option linter.unusedSimpArgs false
set_option linter.unusedVariables false
namespace Go.Ae
def largeB (p : PlanP) : Bool := decide ((7 < p.d ∧ p.d < 11) ∨ (3 < p.o ∧ p.o ≤ 8) ∨ 12 < p.prns.length)
theorem small_size {p : PlanP} (ok : PlanOk p) (h : largeB p = false) : p.size ≤ 381 ∧ ∀ a b, sumI p.d p.o a b ≤ 381 := by
 unfold largeB at h
 rw [decide_eq_false_iff_not] at h
 have hd := ok.nums.1
 have ho := ok.nums.2.1
 have hN : (lenN p.d : Int) ≤ 127 := by
  unfold lenOk at hd
  simp only [List.any_cons, List.any_nil, Bool.or_false, Bool.or_eq_true, beq_iff_eq] at hd
  rcases hd with e | e | e | e | e <;> rw [e] at h ⊢ <;> first | (exfalso; omega) | decide
 have hs : p.size ≤ 381 := by
  unfold PlanP.size
  exact Int.le_trans (Int.mul_le_mul hN (show p.o ≤ 3 by omega) (by omega) (by decide)) (by decide)
 refine ⟨hs, fun a b => ?_⟩
 have q := rowG_le (sampL_one1 p.d a p.o.toNat) (sampL_one1 p.d b p.o.toNat) (if a = b then p.o.toNat else 0) 3 (Nat.le_refl _)
 rw [rowG_three, sampL_length] at q
 have sz := size_range ok.nums
 unfold sumI
 omega
theorem othK_small {f : Int → Int → Int} {M : Int} (hM : 0 ≤ M) (fr : ∀ a b, f a b ≤ M) {prn : Int} {ps : List Int} : ∀ k : Nat, othK f prn ps k ≤ M * k
 | 0 => by simp [othK]
 | k + 1 => by
  have h := othK_small hM fr (prn := prn) (ps := ps) k
  have q := fr prn (ps.getD k 0)
  unfold othK
  rw [Int.natCast_add, Int.mul_add]
  split <;> omega
theorem small_thr {p : PlanP} {s : Int} (ok : PlanOk p) (hs : 0 ≤ s ∧ s ≤ 30) (h : largeB p = false) (prn : Int) : thrI p s prn < 3000000000 := by
 obtain ⟨h1, h2⟩ := small_size ok h
 have a := sumI_range ok.nums prn prn
 have a2 := h2 prn prn
 have b := oth_range ok prn
 have b2 := othK_small (by decide) h2 (prn := prn) (ps := p.prns) p.prns.length
 have b3 : p.oth prn ≤ 381 * p.prns.length := b2
 have l := ok.len
 have n := ok.nums.2.2.2.2
 have q1 : 0 ≤ 128 * p.mx := by omega
 have m1 : 128 * p.mx * (sumI p.d p.o prn prn + p.oth prn) ≤ 438912000 :=
  Int.le_trans (Int.mul_le_mul (show 128 * p.mx ≤ 128000 by omega) (show sumI p.d p.o prn prn + p.oth prn ≤ 3429 by omega) (by omega) (by decide)) (by decide)
 have c := coar_range hs
 have sz := size_range ok.nums
 have m2 : 3 * p.size * (p.nz + coarI s) ≤ 1143 * (100000 + coarI s) := Int.mul_le_mul (by omega) (by omega) (by omega) (by decide)
 have q := pow_30 hs
 unfold thrI boundI humI
 generalize 128 * p.mx * (sumI p.d p.o prn prn + p.oth prn) = X at *
 generalize 3 * p.size * (p.nz + coarI s) = Y at *
 unfold coarI at *
 generalize (2 : Int) ^ s.toNat = P at *
 rw [Int.ediv_lt_iff_lt_mul (by omega)]
 omega
def P0 : PlanP := ⟨5, 2, 1, 2, 10, 10, 0, [1]⟩
theorem P0_err : P0.err = 0 := by decide +kernel
theorem P0_ok : PlanOk P0 := planOk_of P0_err
theorem P0_64 : P0.ok64 := by
 refine ⟨?_, ?_, ?_, ?_, ?_, ?_, ?_, ?_⟩
 all_goals first
  | (show In64 _; unfold In64; decide)
  | (intro x hx; have : x = 1 := by simpa [P0] using hx
     subst this; unfold In64; decide)
theorem P0_det : detErr P0 8 5 1 = 0 ∧ detErr P0 8 5 2 = 18 ∧ detErr ⟨5, 2, 1, 2, 10, 10, 0, []⟩ 8 5 1 = 3 := by decide +kernel
theorem P0_size : P0.size = 62 := by decide +kernel
theorem P0_oth : P0.oth 1 = 0 := by
 unfold PlanP.oth
 show othK _ 1 [1] 1 = 0
 rfl
theorem P0_floor : floorI P0 5 1 = 74112 := by
 unfold floorI humI
 rw [P0_oth, P0_size]
 decide
theorem P0_bound : boundI P0 5 1 = 1280 * sumI 5 2 1 1 + 1488 := by
 unfold boundI humI
 rw [P0_oth, P0_size, Int.add_zero]
 show 128 * 10 * sumI 5 2 1 1 + (3 * 62 * (0 + coarI 5) + 1) / 2 = _
 have : coarI 5 = 16 := by decide
 rw [this]
 omega
section
variable {C : Ctx}
set_option maxRecDepth 20000 in
theorem large311_spec (hC : Has C T311) {p : PlanP} {vp : AV} {h : Heap} (R : RI h vp p.prns) : ACalls C 311 [plA p vp] h (fun r h' => r = .bool (largeB p) ∧ h' = h) := by
 refine ACalls.gc0 (P := fun r h' => r = .bool (largeB p) ∧ HSub h h') ?_ (fun r h' hp => ⟨by rw [hp.1]; trivial, hp.2, hp.1, rfl⟩)
 have v1 := R.one
 have hlt := R.lt
 have hl := R.len
 unfold largeB plA
 generalize p.prns.length = n at *
 obtain ⟨d, o, pb, w, mn, mx, nz, prns⟩ := p
 dsimp only at *
 by_cases c1 : 7 < d ∧ d < 11
 ·rw [decide_eq_true (.inl c1)]
  (refine calls_intro (hC.body (by decide) tab311) (Nat.le_of_ble_eq_true rfl) ?_); (show wp C _ none B311.code _ _); (simp only [B311]); simp -implicitDefEqProofs (disch := first | assumption | decide | omega | (simp only [wpD1] <;> omega) | (simp only [wpD2] <;> assumption) | solve_by_elim [zR, zP, zV] | fail) only [↓wpPre, wpPost, wpPoly, Int.reduceToNat, Int.reducePow, Int.reduceMul, Int.reduceAdd, Int.reduceSub, Int.reduceNeg, Nat.reduceAdd, Nat.reduceMul, Nat.reducePow, Int.reduceLT, Int.reduceLE, Int.reduceEq, Nat.reduceEqDiff, c1, gV_u, hl]
  exact (by repeat (first | exact HSub.refl h | refine HSub.put ?_ (by (try simp only [Heap.size_put, Heap.size_push, Heap.size_reserve]); omega) _ | refine HSub.push ?_ _ | refine HSub.reserve ?_ _))
 by_cases c2 : 3 < o ∧ o ≤ 8
 ·rw [decide_eq_true (.inr (.inl c2))]
  by_cases c3 : 7 < d
  ·have c4 : ¬ d < 11 := fun q => c1 ⟨c3, q⟩
   (refine calls_intro (hC.body (by decide) tab311) (Nat.le_of_ble_eq_true rfl) ?_); (show wp C _ none B311.code _ _); (simp only [B311]); simp -implicitDefEqProofs (disch := first | assumption | decide | omega | (simp only [wpD1] <;> omega) | (simp only [wpD2] <;> assumption) | solve_by_elim [zR, zP, zV] | fail) only [↓wpPre, wpPost, wpPoly, Int.reduceToNat, Int.reducePow, Int.reduceMul, Int.reduceAdd, Int.reduceSub, Int.reduceNeg, Nat.reduceAdd, Nat.reduceMul, Nat.reducePow, Int.reduceLT, Int.reduceLE, Int.reduceEq, Nat.reduceEqDiff, c3, c4, c2, gV_u, hl]
   exact (by repeat (first | exact HSub.refl h | refine HSub.put ?_ (by (try simp only [Heap.size_put, Heap.size_push, Heap.size_reserve]); omega) _ | refine HSub.push ?_ _ | refine HSub.reserve ?_ _))
  ·(refine calls_intro (hC.body (by decide) tab311) (Nat.le_of_ble_eq_true rfl) ?_); (show wp C _ none B311.code _ _); (simp only [B311]); simp -implicitDefEqProofs (disch := first | assumption | decide | omega | (simp only [wpD1] <;> omega) | (simp only [wpD2] <;> assumption) | solve_by_elim [zR, zP, zV] | fail) only [↓wpPre, wpPost, wpPoly, Int.reduceToNat, Int.reducePow, Int.reduceMul, Int.reduceAdd, Int.reduceSub, Int.reduceNeg, Nat.reduceAdd, Nat.reduceMul, Nat.reducePow, Int.reduceLT, Int.reduceLE, Int.reduceEq, Nat.reduceEqDiff, c3, c2, gV_u, hl]
   exact (by repeat (first | exact HSub.refl h | refine HSub.put ?_ (by (try simp only [Heap.size_put, Heap.size_push, Heap.size_reserve]); omega) _ | refine HSub.push ?_ _ | refine HSub.reserve ?_ _))
 have e : decide ((7 < d ∧ d < 11) ∨ (3 < o ∧ o ≤ 8) ∨ 12 < n) = decide (12 < (n : Int)) := by
  rw [decide_eq_decide]; omega
 rw [e]
 by_cases c3 : 7 < d
 ·have c4 : ¬ d < 11 := fun q => c1 ⟨c3, q⟩
  by_cases c5 : 3 < o
  ·have c6 : ¬ o ≤ 8 := fun q => c2 ⟨c5, q⟩
   (refine calls_intro (hC.body (by decide) tab311) (Nat.le_of_ble_eq_true rfl) ?_); (show wp C _ none B311.code _ _); (simp only [B311]); simp -implicitDefEqProofs (disch := first | assumption | decide | omega | (simp only [wpD1] <;> omega) | (simp only [wpD2] <;> assumption) | solve_by_elim [zR, zP, zV] | fail) only [↓wpPre, wpPost, wpPoly, Int.reduceToNat, Int.reducePow, Int.reduceMul, Int.reduceAdd, Int.reduceSub, Int.reduceNeg, Nat.reduceAdd, Nat.reduceMul, Nat.reducePow, Int.reduceLT, Int.reduceLE, Int.reduceEq, Nat.reduceEqDiff, c3, c4, c5, c6, gV_u, hl]
   exact (by repeat (first | exact HSub.refl h | refine HSub.put ?_ (by (try simp only [Heap.size_put, Heap.size_push, Heap.size_reserve]); omega) _ | refine HSub.push ?_ _ | refine HSub.reserve ?_ _))
  ·(refine calls_intro (hC.body (by decide) tab311) (Nat.le_of_ble_eq_true rfl) ?_); (show wp C _ none B311.code _ _); (simp only [B311]); simp -implicitDefEqProofs (disch := first | assumption | decide | omega | (simp only [wpD1] <;> omega) | (simp only [wpD2] <;> assumption) | solve_by_elim [zR, zP, zV] | fail) only [↓wpPre, wpPost, wpPoly, Int.reduceToNat, Int.reducePow, Int.reduceMul, Int.reduceAdd, Int.reduceSub, Int.reduceNeg, Nat.reduceAdd, Nat.reduceMul, Nat.reducePow, Int.reduceLT, Int.reduceLE, Int.reduceEq, Nat.reduceEqDiff, c3, c4, c5, gV_u, hl]
   exact (by repeat (first | exact HSub.refl h | refine HSub.put ?_ (by (try simp only [Heap.size_put, Heap.size_push, Heap.size_reserve]); omega) _ | refine HSub.push ?_ _ | refine HSub.reserve ?_ _))
 ·by_cases c5 : 3 < o
  ·have c6 : ¬ o ≤ 8 := fun q => c2 ⟨c5, q⟩
   (refine calls_intro (hC.body (by decide) tab311) (Nat.le_of_ble_eq_true rfl) ?_); (show wp C _ none B311.code _ _); (simp only [B311]); simp -implicitDefEqProofs (disch := first | assumption | decide | omega | (simp only [wpD1] <;> omega) | (simp only [wpD2] <;> assumption) | solve_by_elim [zR, zP, zV] | fail) only [↓wpPre, wpPost, wpPoly, Int.reduceToNat, Int.reducePow, Int.reduceMul, Int.reduceAdd, Int.reduceSub, Int.reduceNeg, Nat.reduceAdd, Nat.reduceMul, Nat.reducePow, Int.reduceLT, Int.reduceLE, Int.reduceEq, Nat.reduceEqDiff, c3, c5, c6, gV_u, hl]
   exact (by repeat (first | exact HSub.refl h | refine HSub.put ?_ (by (try simp only [Heap.size_put, Heap.size_push, Heap.size_reserve]); omega) _ | refine HSub.push ?_ _ | refine HSub.reserve ?_ _))
  ·(refine calls_intro (hC.body (by decide) tab311) (Nat.le_of_ble_eq_true rfl) ?_); (show wp C _ none B311.code _ _); (simp only [B311]); simp -implicitDefEqProofs (disch := first | assumption | decide | omega | (simp only [wpD1] <;> omega) | (simp only [wpD2] <;> assumption) | solve_by_elim [zR, zP, zV] | fail) only [↓wpPre, wpPost, wpPoly, Int.reduceToNat, Int.reducePow, Int.reduceMul, Int.reduceAdd, Int.reduceSub, Int.reduceNeg, Nat.reduceAdd, Nat.reduceMul, Nat.reducePow, Int.reduceLT, Int.reduceLE, Int.reduceEq, Nat.reduceEqDiff, c3, c5, gV_u, hl]
   exact (by repeat (first | exact HSub.refl h | refine HSub.put ?_ (by (try simp only [Heap.size_put, Heap.size_push, Heap.size_reserve]); omega) _ | refine HSub.push ?_ _ | refine HSub.reserve ?_ _))
theorem plan325_spec (hC : Has C T325) {h : Heap} : ACalls C 325 [] h (fun r h' => HSub h h' ∧ ∃ vp, r = plA P0 vp ∧ RI h' vp P0.prns) := by
 (refine calls_intro (hC.body (by decide) tab325) (Nat.le_of_ble_eq_true rfl) ?_); (show wp C _ none B325.code _ _); (simp only [B325]); simp -implicitDefEqProofs (disch := first | assumption | decide | omega | (simp only [wpD1] <;> omega) | (simp only [wpD2] <;> assumption) | solve_by_elim [zR, zP, zV] | fail) only [↓wpPre, wpPost, wpPoly, Int.reduceToNat, Int.reducePow, Int.reduceMul, Int.reduceAdd, Int.reduceSub, Int.reduceNeg, Nat.reduceAdd, Nat.reduceMul, Nat.reducePow, Int.reduceLT, Int.reduceLE, Int.reduceEq, Nat.reduceEqDiff]
 refine ⟨(by repeat (first | exact HSub.refl h | refine HSub.put ?_ (by (try simp only [Heap.size_put, Heap.size_push, Heap.size_reserve]); omega) _ | refine HSub.push ?_ _ | refine HSub.reserve ?_ _)), _, rfl, RI.known (wr := true) (u := 0) (l := [1]) (by simp -implicitDefEqProofs (disch := first | assumption | decide | omega | (simp only [wpD1] <;> omega) | (simp only [wpD2] <;> assumption) | solve_by_elim [zR, zP, zV] | fail) only [↓wpPre, wpPost, wpPoly, Int.reduceToNat, Int.reducePow, Int.reduceMul, Int.reduceAdd, Int.reduceSub, Int.reduceNeg, Nat.reduceAdd, Nat.reduceMul, Nat.reducePow, Int.reduceLT, Int.reduceLE, Int.reduceEq, Nat.reduceEqDiff]; rfl) ⟨rfl, by decide⟩ (by decide)⟩
theorem gain326_spec (hC : Has C T326) {h : Heap} : ACalls C 326 [] h (fun r h' => r = gA 8 5 ∧ h' = h) := by
 refine ACalls.gc0 (P := fun r h' => r = gA 8 5 ∧ HSub h h') ?_ (fun r h' hp => ⟨by rw [hp.1]; exact ⟨trivial, trivial, trivial⟩, hp.2, hp.1, rfl⟩)
 (refine calls_intro (hC.body (by decide) tab326) (Nat.le_of_ble_eq_true rfl) ?_); (show wp C _ none B326.code _ _); (simp only [B326]); simp -implicitDefEqProofs (disch := first | assumption | decide | omega | (simp only [wpD1] <;> omega) | (simp only [wpD2] <;> assumption) | solve_by_elim [zR, zP, zV] | fail) only [↓wpPre, wpPost, wpPoly, Int.reduceToNat, Int.reducePow, Int.reduceMul, Int.reduceAdd, Int.reduceSub, Int.reduceNeg, Nat.reduceAdd, Nat.reduceMul, Nat.reducePow, Int.reduceLT, Int.reduceLE, Int.reduceEq, Nat.reduceEqDiff]
 exact ⟨rfl, (by repeat (first | exact HSub.refl h | refine HSub.put ?_ (by (try simp only [Heap.size_put, Heap.size_push, Heap.size_reserve]); omega) _ | refine HSub.push ?_ _ | refine HSub.reserve ?_ _))⟩
theorem awake312_spec (hC : Has C T312) {h : Heap} : ACalls C 312 [] h (fun r h' => r = .bool true ∧ h' = h) := by
 refine ACalls.gc0 (P := fun r h' => r = .bool true ∧ HSub h h') ?_ (fun r h' hp => ⟨by rw [hp.1]; trivial, hp.2, hp.1, rfl⟩)
 have kp := fun H => plan325_spec (hC.sub (T' := T325) (by decide)) (h := H)
 have kg := fun H => gain326_spec (hC.sub (T' := T326) (by decide)) (h := H)
 have kf := fun H vp (R : RI H vp P0.prns) => Floor_spec (hC.sub (T' := T319) (by decide)) (h := H) (b := 8) (s := 5) (prn := 1) R P0_64
 have kb := fun H vp (R : RI H vp P0.prns) => Bound_spec (hC.sub (T' := T315) (by decide)) (h := H) (b := 8) (s := 5) (prn := 1) R P0_64
 have ks := fun H => SideR_spec (hC.sub (T' := T176) (by decide)) (h := H) (d := 5) (o := 2) (p := 1) (by unfold In64; decide) (by unfold In64; decide) (by unfold In64; decide)
 rw [P0_det.1, if_pos rfl, P0_floor] at kf
 rw [P0_det.1, if_pos rfl, P0_bound] at kb
 have sd : sideE 5 2 1 = tup2 (sumI 5 2 1 1) 0 := P0_ok.side (a := 1) (by decide)
 rw [sd] at ks
 have sr : 0 ≤ sumI 5 2 1 1 ∧ sumI 5 2 1 1 ≤ 8184 := sumI_range P0_ok.nums 1 1
 generalize sumI 5 2 1 1 = S at *
 (refine calls_intro (hC.body (by decide) tab312) (Nat.le_of_ble_eq_true rfl) ?_); (show wp C _ none B312.code _ _); (simp only [B312]); simp -implicitDefEqProofs (disch := first | assumption | decide | omega | (simp only [wpD1] <;> omega) | (simp only [wpD2] <;> assumption) | solve_by_elim [zR, zP, zV] | fail) only [↓wpPre, wpPost, wpPoly, Int.reduceToNat, Int.reducePow, Int.reduceMul, Int.reduceAdd, Int.reduceSub, Int.reduceNeg, Nat.reduceAdd, Nat.reduceMul, Nat.reducePow, Int.reduceLT, Int.reduceLE, Int.reduceEq, Nat.reduceEqDiff]
 refine ACallsK.of (kp _) ?_
 rintro r h1 ⟨s1, vp, rfl, R⟩
 simp -implicitDefEqProofs (disch := first | assumption | decide | omega | (simp only [wpD1] <;> omega) | (simp only [wpD2] <;> assumption) | solve_by_elim [zR, zP, zV] | fail) only [↓wpPre, wpPost, wpPoly, Int.reduceToNat, Int.reducePow, Int.reduceMul, Int.reduceAdd, Int.reduceSub, Int.reduceNeg, Nat.reduceAdd, Nat.reduceMul, Nat.reducePow, Int.reduceLT, Int.reduceLE, Int.reduceEq, Nat.reduceEqDiff]
 refine ACallsK.eq (kg _) ?_
 simp -implicitDefEqProofs (disch := first | assumption | decide | omega | (simp only [wpD1] <;> omega) | (simp only [wpD2] <;> assumption) | solve_by_elim [zR, zP, zV] | fail) only [↓wpPre, wpPost, wpPoly, Int.reduceToNat, Int.reducePow, Int.reduceMul, Int.reduceAdd, Int.reduceSub, Int.reduceNeg, Nat.reduceAdd, Nat.reduceMul, Nat.reducePow, Int.reduceLT, Int.reduceLE, Int.reduceEq, Nat.reduceEqDiff]
 refine ACallsK.of (kf _ _ R) ?_
 rintro r h2 ⟨rfl, s2⟩
 clear R
 simp -implicitDefEqProofs (disch := first | assumption | decide | omega | (simp only [wpD1] <;> omega) | (simp only [wpD2] <;> assumption) | solve_by_elim [zR, zP, zV] | fail) only [↓wpPre, wpPost, wpPoly, Int.reduceToNat, Int.reducePow, Int.reduceMul, Int.reduceAdd, Int.reduceSub, Int.reduceNeg, Nat.reduceAdd, Nat.reduceMul, Nat.reducePow, Int.reduceLT, Int.reduceLE, Int.reduceEq, Nat.reduceEqDiff, tup2]
 refine ACallsK.of (kp _) ?_
 rintro r h3 ⟨s3, vp, rfl, R⟩
 simp -implicitDefEqProofs (disch := first | assumption | decide | omega | (simp only [wpD1] <;> omega) | (simp only [wpD2] <;> assumption) | solve_by_elim [zR, zP, zV] | fail) only [↓wpPre, wpPost, wpPoly, Int.reduceToNat, Int.reducePow, Int.reduceMul, Int.reduceAdd, Int.reduceSub, Int.reduceNeg, Nat.reduceAdd, Nat.reduceMul, Nat.reducePow, Int.reduceLT, Int.reduceLE, Int.reduceEq, Nat.reduceEqDiff]
 refine ACallsK.eq (kg _) ?_
 simp -implicitDefEqProofs (disch := first | assumption | decide | omega | (simp only [wpD1] <;> omega) | (simp only [wpD2] <;> assumption) | solve_by_elim [zR, zP, zV] | fail) only [↓wpPre, wpPost, wpPoly, Int.reduceToNat, Int.reducePow, Int.reduceMul, Int.reduceAdd, Int.reduceSub, Int.reduceNeg, Nat.reduceAdd, Nat.reduceMul, Nat.reducePow, Int.reduceLT, Int.reduceLE, Int.reduceEq, Nat.reduceEqDiff]
 refine ACallsK.of (kb _ _ R) ?_
 rintro r h4 ⟨rfl, s4⟩
 simp -implicitDefEqProofs (disch := first | assumption | decide | omega | (simp only [wpD1] <;> omega) | (simp only [wpD2] <;> assumption) | solve_by_elim [zR, zP, zV] | fail) only [↓wpPre, wpPost, wpPoly, Int.reduceToNat, Int.reducePow, Int.reduceMul, Int.reduceAdd, Int.reduceSub, Int.reduceNeg, Nat.reduceAdd, Nat.reduceMul, Nat.reducePow, Int.reduceLT, Int.reduceLE, Int.reduceEq, Nat.reduceEqDiff, tup2]
 refine ACallsK.of (ks _) ?_
 rintro r h5 ⟨rfl, s5⟩
 simp -implicitDefEqProofs (disch := first | assumption | decide | omega | (simp only [wpD1] <;> omega) | (simp only [wpD2] <;> assumption) | solve_by_elim [zR, zP, zV] | fail) only [↓wpPre, wpPost, wpPoly, Int.reduceToNat, Int.reducePow, Int.reduceMul, Int.reduceAdd, Int.reduceSub, Int.reduceNeg, Nat.reduceAdd, Nat.reduceMul, Nat.reducePow, Int.reduceLT, Int.reduceLE, Int.reduceEq, Nat.reduceEqDiff, tup2, gV_u]
 exact (((s1.trans s2).trans s3).trans s4).trans s5
theorem claims327_spec (hC : Has C T327) {pw m : Int} {want : Bool} {h : Heap} (hpw : In64 pw) (hm : 1 ≤ m ∧ m ≤ 1000) (h0 : 0 ≤ pw) (hw : claimB (thrI P0 5 1) pw m = want) :
  ACalls C 327 [.int .i64 pw, .int .i64 m, .bool want] h (fun r h' => r = .bool true ∧ h' = h) := by
 refine ACalls.gc0 (P := fun r h' => r = .bool true ∧ HSub h h') ?_ (fun r h' hp => ⟨by rw [hp.1]; trivial, hp.2, hp.1, rfl⟩)
 have kp := fun H => plan325_spec (hC.sub (T' := T325) (by decide)) (h := H)
 have kg := fun H => gain326_spec (hC.sub (T' := T326) (by decide)) (h := H)
 have kc := fun H vp (R : RI H vp P0.prns) => Claims_spec (hC.sub (T' := T313) (by decide)) (h := H) (b := 8) (s := 5) (prn := 1) (pw := pw) (m := m) R P0_64 hpw (by unfold In64; omega)
 unfold claimE at kc
 rw [P0_det.1, if_pos rfl, if_neg (by omega), hw] at kc
 (refine calls_intro (hC.body (by decide) tab327) (Nat.le_of_ble_eq_true rfl) ?_); (show wp C _ none B327.code _ _); (simp only [B327]); simp -implicitDefEqProofs (disch := first | assumption | decide | omega | (simp only [wpD1] <;> omega) | (simp only [wpD2] <;> assumption) | solve_by_elim [zR, zP, zV] | fail) only [↓wpPre, wpPost, wpPoly, Int.reduceToNat, Int.reducePow, Int.reduceMul, Int.reduceAdd, Int.reduceSub, Int.reduceNeg, Nat.reduceAdd, Nat.reduceMul, Nat.reducePow, Int.reduceLT, Int.reduceLE, Int.reduceEq, Nat.reduceEqDiff]
 refine ACallsK.of (kp _) ?_
 rintro r h1 ⟨s1, vp, rfl, R⟩
 simp -implicitDefEqProofs (disch := first | assumption | decide | omega | (simp only [wpD1] <;> omega) | (simp only [wpD2] <;> assumption) | solve_by_elim [zR, zP, zV] | fail) only [↓wpPre, wpPost, wpPoly, Int.reduceToNat, Int.reducePow, Int.reduceMul, Int.reduceAdd, Int.reduceSub, Int.reduceNeg, Nat.reduceAdd, Nat.reduceMul, Nat.reducePow, Int.reduceLT, Int.reduceLE, Int.reduceEq, Nat.reduceEqDiff]
 refine ACallsK.eq (kg _) ?_
 simp -implicitDefEqProofs (disch := first | assumption | decide | omega | (simp only [wpD1] <;> omega) | (simp only [wpD2] <;> assumption) | solve_by_elim [zR, zP, zV] | fail) only [↓wpPre, wpPost, wpPoly, Int.reduceToNat, Int.reducePow, Int.reduceMul, Int.reduceAdd, Int.reduceSub, Int.reduceNeg, Nat.reduceAdd, Nat.reduceMul, Nat.reducePow, Int.reduceLT, Int.reduceLE, Int.reduceEq, Nat.reduceEqDiff]
 refine ACallsK.of (kc _ _ R) ?_
 rintro r h2 ⟨rfl, s2⟩
 have ew : (want == want) = true := by simp
 simp -implicitDefEqProofs (disch := first | assumption | decide | omega | (simp only [wpD1] <;> omega) | (simp only [wpD2] <;> assumption) | solve_by_elim [zR, zP, zV] | fail) only [↓wpPre, wpPost, wpPoly, Int.reduceToNat, Int.reducePow, Int.reduceMul, Int.reduceAdd, Int.reduceSub, Int.reduceNeg, Nat.reduceAdd, Nat.reduceMul, Nat.reducePow, Int.reduceLT, Int.reduceLE, Int.reduceEq, Nat.reduceEqDiff, gV_u, ew]
 exact s1.trans s2
theorem P0_thr : 0 < thrI P0 5 1 ∧ thrI P0 5 1 ≤ 330000 ∧ boundI P0 5 1 ≤ 32 * thrI P0 5 1 ∧ 32 * (thrI P0 5 1 - 1) < boundI P0 5 1 := by
 have b := P0_bound
 have sr : 0 ≤ sumI 5 2 1 1 ∧ sumI 5 2 1 1 ≤ 8184 := sumI_range P0_ok.nums 1 1
 have e : (2 : Int) ^ (5 : Int).toNat = 32 := by decide
 unfold thrI
 rw [e]
 generalize boundI P0 5 1 = B at *
 omega
theorem P0_sure : sureB P0 5 1 = decide (32 * thrI P0 5 1 < 74112) := by
 have e : (2 : Int) ^ (5 : Int).toNat = 32 := by decide
 unfold sureB
 rw [e, P0_floor, Int.mul_comm]
theorem claimB_of {t pw m : Int} (h : t * t * m < pw) : claimB t pw m = true := decide_eq_true h
theorem claimB_not {t pw m : Int} (h : pw ≤ t * t * m) : claimB t pw m = false := decide_eq_false (by omega)
set_option maxRecDepth 20000 in
set_option maxHeartbeats 2000000 in
theorem known307_spec (hC : Has C T307) {h : Heap} : ACalls C 307 [] h (fun r h' => r = .bool true ∧ h' = h) := by
 refine ACalls.gc0 (P := fun r h' => r = .bool true ∧ HSub h h') ?_ (fun r h' hp => ⟨by rw [hp.1]; trivial, hp.2, hp.1, rfl⟩)
 have kp := fun H => plan325_spec (hC.sub (T' := T325) (by decide)) (h := H)
 have kg := fun H => gain326_spec (hC.sub (T' := T326) (by decide)) (h := H)
 have kw := fun H => awake312_spec (hC.sub (T' := T312) (by decide)) (h := H)
 have kb := fun H vp (R : RI H vp P0.prns) => Bound_spec (hC.sub (T' := T315) (by decide)) (h := H) (b := 8) (s := 5) (prn := 1) R P0_64
 have kb2 := fun H vp (R : RI H vp P0.prns) => Bound_spec (hC.sub (T' := T315) (by decide)) (h := H) (b := 8) (s := 5) (prn := 2) R P0_64
 have kb3 := fun H => Bound_spec (hC.sub (T' := T315) (by decide)) (h := H) (vp := .nilslice) (p := ⟨5, 2, 1, 2, 10, 10, 0, []⟩) (b := 8) (s := 5) (prn := 1) RI.nil ⟨P0_64.1, P0_64.2.1, P0_64.2.2.1, P0_64.2.2.2.1, P0_64.2.2.2.2.1, P0_64.2.2.2.2.2.1, P0_64.2.2.2.2.2.2.1, by simp⟩
 have kt := fun H vp (R : RI H vp P0.prns) => Threshold_spec (hC.sub (T' := T317) (by decide)) (h := H) (b := 8) (s := 5) (prn := 1) R P0_64
 have ku := fun H vp (R : RI H vp P0.prns) => Sure_spec (hC.sub (T' := T321) (by decide)) (h := H) (b := 8) (s := 5) (prn := 1) R P0_64
 have kc := fun H vp (R : RI H vp P0.prns) => Claims_spec (hC.sub (T' := T313) (by decide)) (h := H) (b := 8) (s := 5) (prn := 1) (pw := 0) (m := 0) R P0_64 (by unfold In64; decide) (by unfold In64; decide)
 have kx := fun pw m want H a b c d => claims327_spec (hC.sub (T' := T327) (by decide)) (h := H) (pw := pw) (m := m) (want := want) a b c d
 unfold claimE at kc
 unfold sureE at ku
 rw [P0_det.1, if_pos rfl] at kb kt ku kc
 rw [P0_det.2.1, if_neg (by decide)] at kb2
 rw [P0_det.2.2, if_neg (by decide)] at kb3
 rw [if_pos (by decide)] at kc
 rw [P0_sure] at ku
 have ft := P0_thr
 generalize thrI P0 5 1 = T at *
 generalize boundI P0 5 1 = B at *
 have tt := Int.mul_le_mul ft.2.1 ft.2.1 (show 0 ≤ T by omega) (by decide)
 have tt0 := Int.mul_nonneg (show 0 ≤ T by omega) (show 0 ≤ T by omega)
 have t3 : 3 * T * T = T * T * 3 := by grind
 have t3b : 0 ≤ 3 * T * T ∧ 3 * T * T ≤ 326700000000 := by rw [t3]; generalize T * T = q at *; omega
 have x1 := fun H => kx (T * T) 1 false H (by unfold In64; omega) (by decide) (by omega) (claimB_not (by omega))
 have x2 := fun H => kx (T * T + 1) 1 true H (by unfold In64; omega) (by decide) (by omega) (claimB_of (by omega))
 have x3 := fun H => kx (3 * T * T + 1) 3 true H (by unfold In64; omega) (by decide) (by omega) (claimB_of (by omega))
 clear kx
 (refine calls_intro (hC.body (by decide) tab307) (Nat.le_of_ble_eq_true rfl) ?_); (show wp C _ none B307.code _ _); (simp only [B307]); simp -implicitDefEqProofs (disch := first | assumption | decide | omega | (simp only [wpD1] <;> omega) | (simp only [wpD2] <;> assumption) | solve_by_elim [zR, zP, zV] | fail) only [↓wpPre, wpPost, wpPoly, Int.reduceToNat, Int.reducePow, Int.reduceMul, Int.reduceAdd, Int.reduceSub, Int.reduceNeg, Nat.reduceAdd, Nat.reduceMul, Nat.reducePow, Int.reduceLT, Int.reduceLE, Int.reduceEq, Nat.reduceEqDiff]
 refine ACallsK.of (kp _) ?_
 rintro r h1 ⟨s1, vp, rfl, R⟩
 simp -implicitDefEqProofs (disch := first | assumption | decide | omega | (simp only [wpD1] <;> omega) | (simp only [wpD2] <;> assumption) | solve_by_elim [zR, zP, zV] | fail) only [↓wpPre, wpPost, wpPoly, Int.reduceToNat, Int.reducePow, Int.reduceMul, Int.reduceAdd, Int.reduceSub, Int.reduceNeg, Nat.reduceAdd, Nat.reduceMul, Nat.reducePow, Int.reduceLT, Int.reduceLE, Int.reduceEq, Nat.reduceEqDiff]
 refine ACallsK.eq (kg _) ?_
 simp -implicitDefEqProofs (disch := first | assumption | decide | omega | (simp only [wpD1] <;> omega) | (simp only [wpD2] <;> assumption) | solve_by_elim [zR, zP, zV] | fail) only [↓wpPre, wpPost, wpPoly, Int.reduceToNat, Int.reducePow, Int.reduceMul, Int.reduceAdd, Int.reduceSub, Int.reduceNeg, Nat.reduceAdd, Nat.reduceMul, Nat.reducePow, Int.reduceLT, Int.reduceLE, Int.reduceEq, Nat.reduceEqDiff]
 refine ACallsK.of (kb _ _ R) ?_
 rintro r h2 ⟨rfl, s2⟩
 clear R
 simp -implicitDefEqProofs (disch := first | assumption | decide | omega | (simp only [wpD1] <;> omega) | (simp only [wpD2] <;> assumption) | solve_by_elim [zR, zP, zV] | fail) only [↓wpPre, wpPost, wpPoly, Int.reduceToNat, Int.reducePow, Int.reduceMul, Int.reduceAdd, Int.reduceSub, Int.reduceNeg, Nat.reduceAdd, Nat.reduceMul, Nat.reducePow, Int.reduceLT, Int.reduceLE, Int.reduceEq, Nat.reduceEqDiff, tup2]
 refine ACallsK.of (kp _) ?_
 rintro r h3 ⟨s3, vp, rfl, R⟩
 simp -implicitDefEqProofs (disch := first | assumption | decide | omega | (simp only [wpD1] <;> omega) | (simp only [wpD2] <;> assumption) | solve_by_elim [zR, zP, zV] | fail) only [↓wpPre, wpPost, wpPoly, Int.reduceToNat, Int.reducePow, Int.reduceMul, Int.reduceAdd, Int.reduceSub, Int.reduceNeg, Nat.reduceAdd, Nat.reduceMul, Nat.reducePow, Int.reduceLT, Int.reduceLE, Int.reduceEq, Nat.reduceEqDiff]
 refine ACallsK.eq (kg _) ?_
 simp -implicitDefEqProofs (disch := first | assumption | decide | omega | (simp only [wpD1] <;> omega) | (simp only [wpD2] <;> assumption) | solve_by_elim [zR, zP, zV] | fail) only [↓wpPre, wpPost, wpPoly, Int.reduceToNat, Int.reducePow, Int.reduceMul, Int.reduceAdd, Int.reduceSub, Int.reduceNeg, Nat.reduceAdd, Nat.reduceMul, Nat.reducePow, Int.reduceLT, Int.reduceLE, Int.reduceEq, Nat.reduceEqDiff]
 refine ACallsK.of (kt _ _ R) ?_
 rintro r h4 ⟨rfl, s4⟩
 clear R
 simp -implicitDefEqProofs (disch := first | assumption | decide | omega | (simp only [wpD1] <;> omega) | (simp only [wpD2] <;> assumption) | solve_by_elim [zR, zP, zV] | fail) only [↓wpPre, wpPost, wpPoly, Int.reduceToNat, Int.reducePow, Int.reduceMul, Int.reduceAdd, Int.reduceSub, Int.reduceNeg, Nat.reduceAdd, Nat.reduceMul, Nat.reducePow, Int.reduceLT, Int.reduceLE, Int.reduceEq, Nat.reduceEqDiff, tup2]
 refine ACallsK.of (kp _) ?_
 rintro r h5 ⟨s5, vp, rfl, R⟩
 simp -implicitDefEqProofs (disch := first | assumption | decide | omega | (simp only [wpD1] <;> omega) | (simp only [wpD2] <;> assumption) | solve_by_elim [zR, zP, zV] | fail) only [↓wpPre, wpPost, wpPoly, Int.reduceToNat, Int.reducePow, Int.reduceMul, Int.reduceAdd, Int.reduceSub, Int.reduceNeg, Nat.reduceAdd, Nat.reduceMul, Nat.reducePow, Int.reduceLT, Int.reduceLE, Int.reduceEq, Nat.reduceEqDiff]
 refine ACallsK.eq (kg _) ?_
 simp -implicitDefEqProofs (disch := first | assumption | decide | omega | (simp only [wpD1] <;> omega) | (simp only [wpD2] <;> assumption) | solve_by_elim [zR, zP, zV] | fail) only [↓wpPre, wpPost, wpPoly, Int.reduceToNat, Int.reducePow, Int.reduceMul, Int.reduceAdd, Int.reduceSub, Int.reduceNeg, Nat.reduceAdd, Nat.reduceMul, Nat.reducePow, Int.reduceLT, Int.reduceLE, Int.reduceEq, Nat.reduceEqDiff]
 refine ACallsK.of (ku _ _ R) ?_
 rintro r h6 ⟨rfl, s6⟩
 clear R
 have ew : (decide (32 * T < 74112) == decide (32 * T < 74112)) = true := by simp
 have f1 : B ≤ 32 * T := ft.2.2.1
 have f2 : 32 * (T - 1) < B := ft.2.2.2
 simp -implicitDefEqProofs (disch := first | assumption | decide | omega | (simp only [wpD1] <;> omega) | (simp only [wpD2] <;> assumption) | solve_by_elim [zR, zP, zV] | fail) only [↓wpPre, wpPost, wpPoly, Int.reduceToNat, Int.reducePow, Int.reduceMul, Int.reduceAdd, Int.reduceSub, Int.reduceNeg, Nat.reduceAdd, Nat.reduceMul, Nat.reducePow, Int.reduceLT, Int.reduceLE, Int.reduceEq, Nat.reduceEqDiff, gV_u, ew, f1, f2]
 refine ACallsK.of (kp _) ?_
 rintro r h7 ⟨s7, vp, rfl, R⟩
 simp -implicitDefEqProofs (disch := first | assumption | decide | omega | (simp only [wpD1] <;> omega) | (simp only [wpD2] <;> assumption) | solve_by_elim [zR, zP, zV] | fail) only [↓wpPre, wpPost, wpPoly, Int.reduceToNat, Int.reducePow, Int.reduceMul, Int.reduceAdd, Int.reduceSub, Int.reduceNeg, Nat.reduceAdd, Nat.reduceMul, Nat.reducePow, Int.reduceLT, Int.reduceLE, Int.reduceEq, Nat.reduceEqDiff]
 refine ACallsK.eq (kg _) ?_
 simp -implicitDefEqProofs (disch := first | assumption | decide | omega | (simp only [wpD1] <;> omega) | (simp only [wpD2] <;> assumption) | solve_by_elim [zR, zP, zV] | fail) only [↓wpPre, wpPost, wpPoly, Int.reduceToNat, Int.reducePow, Int.reduceMul, Int.reduceAdd, Int.reduceSub, Int.reduceNeg, Nat.reduceAdd, Nat.reduceMul, Nat.reducePow, Int.reduceLT, Int.reduceLE, Int.reduceEq, Nat.reduceEqDiff]
 refine ACallsK.of (kc _ _ R) ?_
 rintro r h8 ⟨rfl, s8⟩
 clear R
 simp -implicitDefEqProofs (disch := first | assumption | decide | omega | (simp only [wpD1] <;> omega) | (simp only [wpD2] <;> assumption) | solve_by_elim [zR, zP, zV] | fail) only [↓wpPre, wpPost, wpPoly, Int.reduceToNat, Int.reducePow, Int.reduceMul, Int.reduceAdd, Int.reduceSub, Int.reduceNeg, Nat.reduceAdd, Nat.reduceMul, Nat.reducePow, Int.reduceLT, Int.reduceLE, Int.reduceEq, Nat.reduceEqDiff]
 refine ACallsK.of (kp _) ?_
 rintro r h9 ⟨s9, vp, rfl, R⟩
 simp -implicitDefEqProofs (disch := first | assumption | decide | omega | (simp only [wpD1] <;> omega) | (simp only [wpD2] <;> assumption) | solve_by_elim [zR, zP, zV] | fail) only [↓wpPre, wpPost, wpPoly, Int.reduceToNat, Int.reducePow, Int.reduceMul, Int.reduceAdd, Int.reduceSub, Int.reduceNeg, Nat.reduceAdd, Nat.reduceMul, Nat.reducePow, Int.reduceLT, Int.reduceLE, Int.reduceEq, Nat.reduceEqDiff]
 refine ACallsK.eq (kg _) ?_
 simp -implicitDefEqProofs (disch := first | assumption | decide | omega | (simp only [wpD1] <;> omega) | (simp only [wpD2] <;> assumption) | solve_by_elim [zR, zP, zV] | fail) only [↓wpPre, wpPost, wpPoly, Int.reduceToNat, Int.reducePow, Int.reduceMul, Int.reduceAdd, Int.reduceSub, Int.reduceNeg, Nat.reduceAdd, Nat.reduceMul, Nat.reducePow, Int.reduceLT, Int.reduceLE, Int.reduceEq, Nat.reduceEqDiff]
 refine ACallsK.of (kb2 _ _ R) ?_
 rintro r h10 ⟨rfl, s10⟩
 clear R
 simp -implicitDefEqProofs (disch := first | assumption | decide | omega | (simp only [wpD1] <;> omega) | (simp only [wpD2] <;> assumption) | solve_by_elim [zR, zP, zV] | fail) only [↓wpPre, wpPost, wpPoly, Int.reduceToNat, Int.reducePow, Int.reduceMul, Int.reduceAdd, Int.reduceSub, Int.reduceNeg, Nat.reduceAdd, Nat.reduceMul, Nat.reducePow, Int.reduceLT, Int.reduceLE, Int.reduceEq, Nat.reduceEqDiff, tup2]
 refine ACallsK.of (kp _) ?_
 rintro r h11 ⟨s11, vp, rfl, R⟩
 have v1 := R.one
 clear R
 unfold plA P0
 simp -implicitDefEqProofs (disch := first | assumption | decide | omega | (simp only [wpD1] <;> omega) | (simp only [wpD2] <;> assumption) | solve_by_elim [zR, zP, zV] | fail) only [↓wpPre, wpPost, wpPoly, Int.reduceToNat, Int.reducePow, Int.reduceMul, Int.reduceAdd, Int.reduceSub, Int.reduceNeg, Nat.reduceAdd, Nat.reduceMul, Nat.reducePow, Int.reduceLT, Int.reduceLE, Int.reduceEq, Nat.reduceEqDiff]
 refine ACallsK.eq (kg _) ?_
 unfold plA at kb3
 simp -implicitDefEqProofs (disch := first | assumption | decide | omega | (simp only [wpD1] <;> omega) | (simp only [wpD2] <;> assumption) | solve_by_elim [zR, zP, zV] | fail) only [↓wpPre, wpPost, wpPoly, Int.reduceToNat, Int.reducePow, Int.reduceMul, Int.reduceAdd, Int.reduceSub, Int.reduceNeg, Nat.reduceAdd, Nat.reduceMul, Nat.reducePow, Int.reduceLT, Int.reduceLE, Int.reduceEq, Nat.reduceEqDiff]
 refine ACallsK.of (kb3 _) ?_
 rintro r h12 ⟨rfl, s12⟩
 simp -implicitDefEqProofs (disch := first | assumption | decide | omega | (simp only [wpD1] <;> omega) | (simp only [wpD2] <;> assumption) | solve_by_elim [zR, zP, zV] | fail) only [↓wpPre, wpPost, wpPoly, Int.reduceToNat, Int.reducePow, Int.reduceMul, Int.reduceAdd, Int.reduceSub, Int.reduceNeg, Nat.reduceAdd, Nat.reduceMul, Nat.reducePow, Int.reduceLT, Int.reduceLE, Int.reduceEq, Nat.reduceEqDiff, tup2]
 refine ACallsK.eq (kw _) ?_
 simp -implicitDefEqProofs (disch := first | assumption | decide | omega | (simp only [wpD1] <;> omega) | (simp only [wpD2] <;> assumption) | solve_by_elim [zR, zP, zV] | fail) only [↓wpPre, wpPost, wpPoly, Int.reduceToNat, Int.reducePow, Int.reduceMul, Int.reduceAdd, Int.reduceSub, Int.reduceNeg, Nat.reduceAdd, Nat.reduceMul, Nat.reducePow, Int.reduceLT, Int.reduceLE, Int.reduceEq, Nat.reduceEqDiff, gV_u]
 refine ACallsK.eq (x1 _) ?_
 simp -implicitDefEqProofs (disch := first | assumption | decide | omega | (simp only [wpD1] <;> omega) | (simp only [wpD2] <;> assumption) | solve_by_elim [zR, zP, zV] | fail) only [↓wpPre, wpPost, wpPoly, Int.reduceToNat, Int.reducePow, Int.reduceMul, Int.reduceAdd, Int.reduceSub, Int.reduceNeg, Nat.reduceAdd, Nat.reduceMul, Nat.reducePow, Int.reduceLT, Int.reduceLE, Int.reduceEq, Nat.reduceEqDiff, gV_u]
 refine ACallsK.eq (x2 _) ?_
 simp -implicitDefEqProofs (disch := first | assumption | decide | omega | (simp only [wpD1] <;> omega) | (simp only [wpD2] <;> assumption) | solve_by_elim [zR, zP, zV] | fail) only [↓wpPre, wpPost, wpPoly, Int.reduceToNat, Int.reducePow, Int.reduceMul, Int.reduceAdd, Int.reduceSub, Int.reduceNeg, Nat.reduceAdd, Nat.reduceMul, Nat.reducePow, Int.reduceLT, Int.reduceLE, Int.reduceEq, Nat.reduceEqDiff, gV_u]
 refine ACallsK.eq (x3 _) ?_
 simp -implicitDefEqProofs (disch := first | assumption | decide | omega | (simp only [wpD1] <;> omega) | (simp only [wpD2] <;> assumption) | solve_by_elim [zR, zP, zV] | fail) only [↓wpPre, wpPost, wpPoly, Int.reduceToNat, Int.reducePow, Int.reduceMul, Int.reduceAdd, Int.reduceSub, Int.reduceNeg, Nat.reduceAdd, Nat.reduceMul, Nat.reducePow, Int.reduceLT, Int.reduceLE, Int.reduceEq, Nat.reduceEqDiff, gV_u]
 exact (show HSub h _ from (by repeat (first | exact ((((((((((s1.trans s2).trans s3).trans s4).trans s5).trans s6).trans s7).trans s8).trans s9).trans s10).trans s11) | refine HSub.put ?_ (by (try simp only [Heap.size_put, Heap.size_push, Heap.size_reserve]); omega) _ | refine HSub.push ?_ _ | refine HSub.reserve ?_ _))).trans s12
set_option maxRecDepth 20000 in
theorem DetectClaims_law (hC : Has C T305) {d o pb w mn mx nz b s prn pw m : Int} {vp : AV} {l : List Int} {h : Heap} (i1 : In64 d) (i2 : In64 o) (i3 : In64 pb) (i4 : In64 w) (i5 : In64 mn) (i6 : In64 mx) (i7 : In64 nz) (R : RI h vp l) (_i8 : In64 b) (_i9 : In64 s) (_i10 : In64 prn) (hpw : In64 pw) (hm : In64 m) (hx : ∀ x ∈ l, In64 x) :
  ACalls C 305 [.agg [.int .i64 d, .int .i64 o, .int .i64 pb, .int .i64 w, .int .i64 mn, .int .i64 mx, .int .i64 nz, vp], .agg [.int .i64 b, .int .i64 s], .int .i64 prn, .int .i64 pw, .int .i64 m] h (fun r _ => r = .bool true) := by
 have xp : ∃ p : PlanP, p = ⟨d, o, pb, w, mn, mx, nz, l⟩ := ⟨_, rfl⟩
 obtain ⟨p, hp⟩ := xp
 have R : RI h vp p.prns := by rw [hp]; exact R
 have h64 : p.ok64 := by rw [hp]; exact ⟨i1, i2, i3, i4, i5, i6, i7, hx⟩
 have v1 := R.one
 have kl := fun H (R1 : RI H vp p.prns) => large311_spec (hC.sub (T' := T311) (by decide)) (h := H) R1
 have kw := fun H => awake312_spec (hC.sub (T' := T312) (by decide)) (h := H)
 have kc := fun H (R1 : RI H vp p.prns) => Claims_spec (hC.sub (T' := T313) (by decide)) (h := H) (b := b) (s := s) (prn := prn) R1 h64 hpw hm
 have kd := fun (q : detErr p b s prn = 0 → thrI p s prn < 3000000000) H (R1 : RI H vp p.prns) => ClaimsR_spec (hC.sub (T' := T314) (by decide)) (h := H) (b := b) (s := s) (prn := prn) R1 h64 hpw hm q
 unfold plA gA at *
 by_cases c : largeB p = true
 ·rw [c] at kl
  subst hp
  (refine calls_intro (hC.body (by decide) tab305) (Nat.le_of_ble_eq_true rfl) ?_); (show wp C _ none B305.code _ _); (simp only [B305]); simp -implicitDefEqProofs (disch := first | assumption | decide | omega | (simp only [wpD1] <;> omega) | (simp only [wpD2] <;> assumption) | solve_by_elim [zR, zP, zV] | fail) only [↓wpPre, wpPost, wpPoly, Int.reduceToNat, Int.reducePow, Int.reduceMul, Int.reduceAdd, Int.reduceSub, Int.reduceNeg, Nat.reduceAdd, Nat.reduceMul, Nat.reducePow, Int.reduceLT, Int.reduceLE, Int.reduceEq, Nat.reduceEqDiff]
  refine ACallsK.eq (kl _ (R.mono (by repeat (first | exact HSub.refl h | refine HSub.put ?_ (by (try simp only [Heap.size_put, Heap.size_push, Heap.size_reserve]); omega) _ | refine HSub.push ?_ _ | refine HSub.reserve ?_ _)))) ?_
  simp -implicitDefEqProofs (disch := first | assumption | decide | omega | (simp only [wpD1] <;> omega) | (simp only [wpD2] <;> assumption) | solve_by_elim [zR, zP, zV] | fail) only [↓wpPre, wpPost, wpPoly, Int.reduceToNat, Int.reducePow, Int.reduceMul, Int.reduceAdd, Int.reduceSub, Int.reduceNeg, Nat.reduceAdd, Nat.reduceMul, Nat.reducePow, Int.reduceLT, Int.reduceLE, Int.reduceEq, Nat.reduceEqDiff]
  refine ACallsK.eq (kw _) ?_
  simp -implicitDefEqProofs (disch := first | assumption | decide | omega | (simp only [wpD1] <;> omega) | (simp only [wpD2] <;> assumption) | solve_by_elim [zR, zP, zV] | fail) only [↓wpPre, wpPost, wpPoly, Int.reduceToNat, Int.reducePow, Int.reduceMul, Int.reduceAdd, Int.reduceSub, Int.reduceNeg, Nat.reduceAdd, Nat.reduceMul, Nat.reducePow, Int.reduceLT, Int.reduceLE, Int.reduceEq, Nat.reduceEqDiff]
 ·have c := Bool.eq_false_iff.2 c
  rw [c] at kl
  have kd := kd (fun q => by
   obtain ⟨ok, hg⟩ := askErr_ok (detErr_ok q).1
   exact small_thr ok (gErr_ok hg).2.2 c prn)
  have xe : ∃ z e, claimE p b s prn pw m = .tuple [.bool z, .int .i64 e] := by
   unfold claimE
   (repeat' split) <;> exact ⟨_, _, rfl⟩
  obtain ⟨z, e, xe⟩ := xe
  rw [xe] at kc kd
  subst hp
  clear xe h64
  dsimp only at *
  (refine calls_intro (hC.body (by decide) tab305) (Nat.le_of_ble_eq_true rfl) ?_); (show wp C _ none B305.code _ _); (simp only [B305]); simp -implicitDefEqProofs (disch := first | assumption | decide | omega | (simp only [wpD1] <;> omega) | (simp only [wpD2] <;> assumption) | solve_by_elim [zR, zP, zV] | fail) only [↓wpPre, wpPost, wpPoly, Int.reduceToNat, Int.reducePow, Int.reduceMul, Int.reduceAdd, Int.reduceSub, Int.reduceNeg, Nat.reduceAdd, Nat.reduceMul, Nat.reducePow, Int.reduceLT, Int.reduceLE, Int.reduceEq, Nat.reduceEqDiff]
  refine ACallsK.eq (kl _ (R.mono (by repeat (first | exact HSub.refl h | refine HSub.put ?_ (by (try simp only [Heap.size_put, Heap.size_push, Heap.size_reserve]); omega) _ | refine HSub.push ?_ _ | refine HSub.reserve ?_ _)))) ?_
  simp -implicitDefEqProofs (disch := first | assumption | decide | omega | (simp only [wpD1] <;> omega) | (simp only [wpD2] <;> assumption) | solve_by_elim [zR, zP, zV] | fail) only [↓wpPre, wpPost, wpPoly, Int.reduceToNat, Int.reducePow, Int.reduceMul, Int.reduceAdd, Int.reduceSub, Int.reduceNeg, Nat.reduceAdd, Nat.reduceMul, Nat.reducePow, Int.reduceLT, Int.reduceLE, Int.reduceEq, Nat.reduceEqDiff]
  refine ACallsK.of (kc _ (R.mono (by repeat (first | exact HSub.refl h | refine HSub.put ?_ (by (try simp only [Heap.size_put, Heap.size_push, Heap.size_reserve]); omega) _ | refine HSub.push ?_ _ | refine HSub.reserve ?_ _)))) ?_
  rintro r h1 ⟨rfl, sA⟩
  have z1 := sA.size
  simp only [Heap.size_push] at z1
  have g5 : h1.get h.size = some (.cells [.int .i64 d, .int .i64 o, .int .i64 pb, .int .i64 w, .int .i64 mn, .int .i64 mx, .int .i64 nz, vp] true 0) := (sA.get _ (by simp only [Heap.size_push]; omega)).trans (by simp -implicitDefEqProofs (disch := first | assumption | decide | omega | (simp only [wpD1] <;> omega) | (simp only [wpD2] <;> assumption) | solve_by_elim [zR, zP, zV] | fail) only [↓wpPre, wpPost, wpPoly, Int.reduceToNat, Int.reducePow, Int.reduceMul, Int.reduceAdd, Int.reduceSub, Int.reduceNeg, Nat.reduceAdd, Nat.reduceMul, Nat.reducePow, Int.reduceLT, Int.reduceLE, Int.reduceEq, Nat.reduceEqDiff])
  have g6 : h1.get (h.size + 1) = some (.cells [.int .i64 b, .int .i64 s] true 0) := (sA.get _ (by simp only [Heap.size_push]; omega)).trans (by simp -implicitDefEqProofs (disch := first | assumption | decide | omega | (simp only [wpD1] <;> omega) | (simp only [wpD2] <;> assumption) | solve_by_elim [zR, zP, zV] | fail) only [↓wpPre, wpPost, wpPoly, Int.reduceToNat, Int.reducePow, Int.reduceMul, Int.reduceAdd, Int.reduceSub, Int.reduceNeg, Nat.reduceAdd, Nat.reduceMul, Nat.reducePow, Int.reduceLT, Int.reduceLE, Int.reduceEq, Nat.reduceEqDiff])
  have ez : (z == z) = true := by simp
  simp -implicitDefEqProofs (disch := first | assumption | decide | omega | (simp only [wpD1] <;> omega) | (simp only [wpD2] <;> assumption) | solve_by_elim [zR, zP, zV] | fail) only [↓wpPre, wpPost, wpPoly, Int.reduceToNat, Int.reducePow, Int.reduceMul, Int.reduceAdd, Int.reduceSub, Int.reduceNeg, Nat.reduceAdd, Nat.reduceMul, Nat.reducePow, Int.reduceLT, Int.reduceLE, Int.reduceEq, Nat.reduceEqDiff, g5, g6]
  refine ACallsK.eq (kd _ (R.mono ((show HSub h _ from (by repeat (first | exact HSub.refl h | refine HSub.put ?_ (by (try simp only [Heap.size_put, Heap.size_push, Heap.size_reserve]); omega) _ | refine HSub.push ?_ _ | refine HSub.reserve ?_ _))).trans sA))) ?_
  simp -implicitDefEqProofs (disch := first | assumption | decide | omega | (simp only [wpD1] <;> omega) | (simp only [wpD2] <;> assumption) | solve_by_elim [zR, zP, zV] | fail) only [↓wpPre, wpPost, wpPoly, Int.reduceToNat, Int.reducePow, Int.reduceMul, Int.reduceAdd, Int.reduceSub, Int.reduceNeg, Nat.reduceAdd, Nat.reduceMul, Nat.reducePow, Int.reduceLT, Int.reduceLE, Int.reduceEq, Nat.reduceEqDiff, gV_u, ez]
  refine ACallsK.eq (kw _) ?_
  simp -implicitDefEqProofs (disch := first | assumption | decide | omega | (simp only [wpD1] <;> omega) | (simp only [wpD2] <;> assumption) | solve_by_elim [zR, zP, zV] | fail) only [↓wpPre, wpPost, wpPoly, Int.reduceToNat, Int.reducePow, Int.reduceMul, Int.reduceAdd, Int.reduceSub, Int.reduceNeg, Nat.reduceAdd, Nat.reduceMul, Nat.reducePow, Int.reduceLT, Int.reduceLE, Int.reduceEq, Nat.reduceEqDiff]
theorem DetectKnown_law (hC : Has C T307) {h : Heap} : ACalls C 307 [] h (fun r _ => r = .bool true) := (known307_spec hC).mono fun _ _ q => q.1
end
end Go.Ae
