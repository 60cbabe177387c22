/- Texts of the proof, part 13: a second reading of the lowered code, proved sound, and what the functions compute. -/
import Derived.Test.YtgbhjgcoklchjaaQ12

/- Spin, Steps and Best, of the program and of the reference. -/
set_option linter.unusedSimpArgs false
set_option linter.unusedVariables false
namespace Go.Ae
theorem spin_phase (k : Nat) (st : Int) : IntKind.u32.wrap ((k : Int) * st) = phI 0 st k := by
  rw [wrap_u32, phI_eq, Int.zero_add, Int.mul_comm st]
section
variable {C : Ctx}
set_option maxHeartbeats 2000000 in
set_option maxRecDepth 20000 in
theorem spin_spec (hC : Has C T286) {v : AV} {l : List (Int × Int)} {st : Int} {h : Heap} (hl : SI h v l) (hll : l.length ≤ 16) (hi : ∀ x ∈ l, inS 1048576 x) (hst : U32 st) :
    ACalls C 286 [v, .int .u32 st] h (fun r h' => r = smp (spinK l st l.length) ∧ h' = h) := by
  refine ACalls.gc0 (P := fun r h' => r = smp (spinK l st l.length) ∧ HSub h h') ?_ (fun r h' hp => ⟨by rw [hp.1]; exact smp_free _, hp.2, hp.1, rfl⟩)
  have hlt := hl.lt
  have hw := fun p (ph : Int) (hph : U32 ph) h => Wipe_spec (p := p) (ph := ph) (h := h) (hC.sub (T' := T137) (by decide)) hph
  (refine calls_intro (hC.body (by decide) tab286) (Nat.le_of_ble_eq_true rfl) ?_); (show wp C _ none B286.code _ _); (simp only [B286]); simp -implicitDefEqProofs (disch := first | assumption | decide | omega | (simp only [wpD1] <;> omega) | (simp only [wpD2] <;> assumption) | solve_by_elim [HSub.refl, HSub.push, HSub.reserve] | fail) only [↓wpPre, wpPost, wpPoly, Int.reduceToNat, Int.reducePow, Int.reduceMul, Int.reduceAdd, Int.reduceSub, Int.reduceNeg, Nat.reduceAdd, Nat.reduceMul, Nat.reducePow, Int.reduceLT, Int.reduceLE, Int.reduceEq, Nat.reduceEqDiff, hl.len]
  refine wp_loopI (fun j t h' => HSub h h' ∧ h.size < h'.size ∧ ∃ k : Nat, h'.get h.size = some (.cells [.int .i64 (spinK l st k).1, .int .i64 (spinK l st k).2] true 0) ∧ t 1 = .int .u32 st ∧ t 4 = .ptr h.size 0 ∧ t 9 = v ∧ t 10 = .int .i64 (l.length : Nat) ∧ t 11 = .int .i64 (k : Nat) ∧ k ≤ l.length ∧ j = l.length - k) (j0 := l.length)
    ⟨HSub.push1 _ _, by simp, 0, get_push_eq rfl, rfl, rfl, rfl, rfl, rfl, by omega, rfl⟩ ?_
  rintro j t h1 ⟨s1, hz, k, gb, e1, e4, e9, e10, e11, hk, hj⟩
  simp -implicitDefEqProofs (disch := first | assumption | decide | omega | (simp only [wpD1] <;> omega) | (simp only [wpD2] <;> assumption) | solve_by_elim [HSub.refl, HSub.push, HSub.reserve] | fail) only [↓wpPre, wpPost, wpPoly, Int.reduceToNat, Int.reducePow, Int.reduceMul, Int.reduceAdd, Int.reduceSub, Int.reduceNeg, Nat.reduceAdd, Nat.reduceMul, Nat.reducePow, Int.reduceLT, Int.reduceLE, Int.reduceEq, Nat.reduceEqDiff, e10, e11]
  refine Br.by (fun c => ?_) (fun c => ?_)
  · have hk' : k < l.length := by omega
    have hl1 := hl.mono s1
    have ld := hl1.loadA hk'
    have hin := hi _ (getP_mem hk')
    have sm : smallP (l.getD k (0, 0)) := by unfold smallP; unfold inS at hin; omega
    have hb := spinK_le (st := st) hi k (by omega)
    have hb2 := spinK_le (st := st) hi (k + 1) (by omega)
    have es : spinK l st (k + 1) = addP (spinK l st k) (mixP (l.getD k (0, 0)) (carP (phI 0 st k))) := rfl
    rw [es] at hb2
    have hw := fun h => hw (l.getD k (0, 0)) (phI 0 st k) (phI_u32 0 st k) h
    simp only [wipeE, if_pos sm] at hw
    generalize mixP (l.getD k (0, 0)) (carP (phI 0 st k)) = w at *
    generalize spinK l st k = q at *
    generalize l.getD k (0, 0) = x at *
    obtain ⟨wx, wy⟩ := w
    obtain ⟨qx, qy⟩ := q
    obtain ⟨xx, xy⟩ := x
    unfold inS at hb hb2
    unfold addP at hb2
    unfold smp at hw ld
    have ph := spin_phase k st
    dsimp only at hb hb2 gb hw ld
    simp -implicitDefEqProofs (disch := first | assumption | decide | omega | (simp only [wpD1] <;> omega) | (simp only [wpD2] <;> assumption) | solve_by_elim [HSub.refl, HSub.push, HSub.reserve] | fail) only [↓wpPre, wpPost, wpPoly, Int.reduceToNat, Int.reducePow, Int.reduceMul, Int.reduceAdd, Int.reduceSub, Int.reduceNeg, Nat.reduceAdd, Nat.reduceMul, Nat.reducePow, Int.reduceLT, Int.reduceLE, Int.reduceEq, Nat.reduceEqDiff, e9, e11, hl1.idx, ld, e1, ph]
    refine ACallsK.eq (hw _) ?_
    simp -implicitDefEqProofs (disch := first | assumption | decide | omega | (simp only [wpD1] <;> omega) | (simp only [wpD2] <;> assumption) | solve_by_elim [HSub.refl, HSub.push, HSub.reserve] | fail) only [↓wpPre, wpPost, wpPoly, Int.reduceToNat, Int.reducePow, Int.reduceMul, Int.reduceAdd, Int.reduceSub, Int.reduceNeg, Nat.reduceAdd, Nat.reduceMul, Nat.reducePow, Int.reduceLT, Int.reduceLE, Int.reduceEq, Nat.reduceEqDiff, e4, gb, e1, e9, e10, e11]
    exact ⟨_, ⟨(by repeat (first | exact s1 | refine HSub.put ?_ (by (try simp only [Heap.size_put, Heap.size_push, Heap.size_reserve]); omega) _ | refine HSub.push ?_ _ | refine HSub.reserve ?_ _)), by omega, k + 1, by rw [es]; rfl, by simp, by omega, rfl⟩, by omega⟩
  · have ek : k = l.length := by omega
    subst ek
    generalize spinK l st l.length = q at *
    obtain ⟨qx, qy⟩ := q
    unfold smp
    simp -implicitDefEqProofs (disch := first | assumption | decide | omega | (simp only [wpD1] <;> omega) | (simp only [wpD2] <;> assumption) | solve_by_elim [HSub.refl, HSub.push, HSub.reserve] | fail) only [↓wpPre, wpPost, wpPoly, Int.reduceToNat, Int.reducePow, Int.reduceMul, Int.reduceAdd, Int.reduceSub, Int.reduceNeg, Nat.reduceAdd, Nat.reduceMul, Nat.reducePow, Int.reduceLT, Int.reduceLE, Int.reduceEq, Nat.reduceEqDiff, e4, gb]
    exact (by repeat (first | exact s1 | refine HSub.put ?_ (by (try simp only [Heap.size_put, Heap.size_push, Heap.size_reserve]); omega) _ | refine HSub.push ?_ _ | refine HSub.reserve ?_ _))
end
end Go.Ae

/- Spin, Steps and Best: the exported functions, and the reference's. -/
set_option linter.unusedSimpArgs false
set_option linter.unusedVariables false
namespace Go.Ae
def spinE (l : List (Int × Int)) (st : Int) : AV := if smE l 16 = 0 then .tuple [smp (spinK l st l.length), .int .i64 0] else .tuple [smp (0, 0), .int .i64 (smE l 16)]
theorem spinE_free (l : List (Int × Int)) (st : Int) : (spinE l st).free := by
  unfold spinE
  split <;> exact free_tuple (by simp [smp, AV.free, AV.bel, AV.bels])
theorem smE_zero {l : List (Int × Int)} {m : Nat} (h : smE l m = 0) : l.length ≤ m ∧ ∀ x ∈ l, inS 1048576 x := by
  unfold smE at h
  split at h
  · omega
  · split at h
    · exact ⟨by omega, by assumption⟩
    · omega
theorem smE_cases (l : List (Int × Int)) (m : Nat) : smE l m = 0 ∨ smE l m = 2 ∨ smE l m = 4 := by
  unfold smE
  split
  · simp
  · split <;> simp
section
variable {C : Ctx}
theorem Spin_spec (hC : Has C T268) {v : AV} {l : List (Int × Int)} {st : Int} {h : Heap} (hl : SI h v l) (hst : U32 st) : ACalls C 268 [v, .int .u32 st] h (fun r h' => r = spinE l st ∧ h' = h) := by
  refine ACalls.gc0 (P := fun r h' => r = spinE l st ∧ HSub h h') ?_ (fun r h' hp => ⟨by rw [hp.1]; exact spinE_free _ _, hp.2, hp.1, rfl⟩)
  have k1 := fun h1 (q : HSub h h1) => small_spec (hC.sub (T' := T285) (by decide)) (most := 16) (hl.mono q) (by omega)
  unfold spinE
  by_cases c : smE l 16 = 0
  · have z := smE_zero c
    have k2 := fun h1 (q : HSub h h1) => spin_spec (hC.sub (T' := T286) (by decide)) (hl.mono q) z.1 z.2 hst
    rw [c] at k1
    rw [if_pos c]
    generalize spinK l st l.length = q at *
    obtain ⟨qx, qy⟩ := q
    unfold smp at k2 ⊢
    (refine calls_intro (hC.body (by decide) tab268) (Nat.le_of_ble_eq_true rfl) ?_); (show wp C _ none B268.code _ _); (simp only [B268]); simp -implicitDefEqProofs (disch := first | assumption | decide | omega | (simp only [wpD1] <;> omega) | (simp only [wpD2] <;> assumption) | solve_by_elim [HSub.refl, HSub.push, HSub.reserve] | fail) only [↓wpPre, wpPost, wpPoly, Int.reduceToNat, Int.reducePow, Int.reduceMul, Int.reduceAdd, Int.reduceSub, Int.reduceNeg, Nat.reduceAdd, Nat.reduceMul, Nat.reducePow, Int.reduceLT, Int.reduceLE, Int.reduceEq, Nat.reduceEqDiff]
    refine ACallsK.eq (k1 _ (HSub.push1 _ _)) ?_
    simp -implicitDefEqProofs (disch := first | assumption | decide | omega | (simp only [wpD1] <;> omega) | (simp only [wpD2] <;> assumption) | solve_by_elim [HSub.refl, HSub.push, HSub.reserve] | fail) only [↓wpPre, wpPost, wpPoly, Int.reduceToNat, Int.reducePow, Int.reduceMul, Int.reduceAdd, Int.reduceSub, Int.reduceNeg, Nat.reduceAdd, Nat.reduceMul, Nat.reducePow, Int.reduceLT, Int.reduceLE, Int.reduceEq, Nat.reduceEqDiff]
    refine ACallsK.eq (k2 _ (HSub.push1 _ _)) ?_
    simp -implicitDefEqProofs (disch := first | assumption | decide | omega | (simp only [wpD1] <;> omega) | (simp only [wpD2] <;> assumption) | solve_by_elim [HSub.refl, HSub.push, HSub.reserve] | fail) only [↓wpPre, wpPost, wpPoly, Int.reduceToNat, Int.reducePow, Int.reduceMul, Int.reduceAdd, Int.reduceSub, Int.reduceNeg, Nat.reduceAdd, Nat.reduceMul, Nat.reducePow, Int.reduceLT, Int.reduceLE, Int.reduceEq, Nat.reduceEqDiff]
    exact (by repeat (first | exact HSub.refl h | refine HSub.put ?_ (by (try simp only [Heap.size_put, Heap.size_push, Heap.size_reserve]); omega) _ | refine HSub.push ?_ _ | refine HSub.reserve ?_ _))
  · rw [if_neg c]
    have cc := smE_cases l 16
    generalize smE l 16 = e at *
    unfold smp
    (refine calls_intro (hC.body (by decide) tab268) (Nat.le_of_ble_eq_true rfl) ?_); (show wp C _ none B268.code _ _); (simp only [B268]); simp -implicitDefEqProofs (disch := first | assumption | decide | omega | (simp only [wpD1] <;> omega) | (simp only [wpD2] <;> assumption) | solve_by_elim [HSub.refl, HSub.push, HSub.reserve] | fail) only [↓wpPre, wpPost, wpPoly, Int.reduceToNat, Int.reducePow, Int.reduceMul, Int.reduceAdd, Int.reduceSub, Int.reduceNeg, Nat.reduceAdd, Nat.reduceMul, Nat.reducePow, Int.reduceLT, Int.reduceLE, Int.reduceEq, Nat.reduceEqDiff]
    refine ACallsK.eq (k1 _ (HSub.push1 _ _)) ?_
    simp -implicitDefEqProofs (disch := first | assumption | decide | omega | (simp only [wpD1] <;> omega) | (simp only [wpD2] <;> assumption) | solve_by_elim [HSub.refl, HSub.push, HSub.reserve] | fail) only [↓wpPre, wpPost, wpPoly, Int.reduceToNat, Int.reducePow, Int.reduceMul, Int.reduceAdd, Int.reduceSub, Int.reduceNeg, Nat.reduceAdd, Nat.reduceMul, Nat.reducePow, Int.reduceLT, Int.reduceLE, Int.reduceEq, Nat.reduceEqDiff, c]
    exact (by repeat (first | exact HSub.refl h | refine HSub.put ?_ (by (try simp only [Heap.size_put, Heap.size_push, Heap.size_reserve]); omega) _ | refine HSub.push ?_ _ | refine HSub.reserve ?_ _))
def bestOut (l : List (Int × Int)) : AV := .tuple [.int .i64 (if bestE l = 0 then (bestK l l.length : Nat) else 0), .int .i64 (if bestE l = 0 then powP (l.getD (bestK l l.length) (0, 0)) else 0), .int .i64 (bestE l)]
end
end Go.Ae
