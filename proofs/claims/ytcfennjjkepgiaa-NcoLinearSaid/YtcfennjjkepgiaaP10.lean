/- Texts of the proof, part 10: a second reading of the lowered code, proved sound, and what the functions compute. -/
import Derived.Test.YtcfennjjkepgiaaP9

/- Mixes of lists of the program and of the reference. -/
set_option linter.unusedSimpArgs false
set_option linter.unusedVariables false
namespace Go.Ae
def mixK (l : List (Int × Int)) (a s : Int) (m k : Nat) : List (Int × Int) := mixL l a s k ++ List.replicate (m - k) (0, 0)
theorem mixK_length {l : List (Int × Int)} {a s : Int} {m k : Nat} (h : k ≤ m) : (mixK l a s m k).length = m := by simp [mixK, mixL_length]; omega
theorem mixK_set {l : List (Int × Int)} {a s : Int} {m k : Nat} (h : k < m) : (mixK l a s m k).set k (mixP (l.getD k (0, 0)) (carP (phI a s k))) = mixK l a s m (k + 1) := by
  unfold mixK
  rw [List.set_append_right _ _ (by rw [mixL_length]; omega), mixL_length, Nat.sub_self, mixL_succ, List.append_assoc]
  congr 1
  rw [show m - k = (m - (k + 1)) + 1 by omega, List.replicate_succ]; rfl
theorem mixK_full (l : List (Int × Int)) (a s : Int) (m : Nat) : mixK l a s m m = mixL l a s m := by simp [mixK]
theorem small_all {l : List (Int × Int)} (h : ∀ i, i < l.length → smallP (l.getD i (0, 0))) : ∀ x ∈ l, smallP x := by
  intro x hx
  obtain ⟨i, hi, rfl⟩ := List.mem_iff_getElem.1 hx
  have := h i hi
  rwa [List.getD_eq_getElem?_getD, List.getElem?_eq_getElem hi] at this
def mixOut (l : List (Int × Int)) (a s : Int) : List (Int × Int) := if mixErr l = 0 then mixL l a s l.length else []
section
variable {C : Ctx}
set_option maxHeartbeats 2000000 in
theorem mapped_spec (hC : Has C T136) (hW : Has C T137) {v : AV} {l : List (Int × Int)} {a s : Int} {h : Heap} (hl : SI h v l) (hll : l.length ≤ 1048576) (ha : U32 a) :
    ACalls C 136 [v, nco a s, .func 137 [] []] h (fun r h' => ∃ w, r = lstErr w (if ∀ x ∈ l, smallP x then 0 else 2) ∧ HSub h h' ∧ SI h' w (if ∀ x ∈ l, smallP x then mixL l a s l.length else [])) := by
  have hz := smps_replicate (p := (0, 0)) (n := l.length)
  simp only at hz
  have hc0 := hl.cells
  have ho0 := hl.one
  have hph := fun h => phases_spec (a := a) (s := s) (m := l.length) (h := h) (hC.sub (T' := T134) (by decide))
  unfold nco at hph ⊢
  (refine calls_intro (hC.body (by decide) tab136) (Nat.le_of_ble_eq_true rfl) ?_); (show wp C _ none B136.code _ _); (simp only [B136]); simp -implicitDefEqProofs (disch := first | assumption | decide | omega | (simp only [wpD1] <;> omega) | (simp only [wpD2] <;> assumption) | solve_by_elim [HSub.refl, HSub.push, HSub.reserve] | fail) only [↓wpPre, wpPost, wpPoly, Int.reduceToNat, Int.reducePow, Int.reduceMul, Int.reduceAdd, Int.reduceSub, Int.reduceNeg, Nat.reduceAdd, Nat.reduceMul, Nat.reducePow, Int.reduceLT, Int.reduceLE, Int.reduceEq, Nat.reduceEqDiff, hl.len, hz, hc0]
  refine ACallsK.hide (fun H hH => ?_)
  have N : H.size = h.size + 7 := by rw [hH]; simp -implicitDefEqProofs (disch := first | assumption | decide | omega | (simp only [wpD1] <;> omega) | (simp only [wpD2] <;> assumption) | solve_by_elim [HSub.refl, HSub.push, HSub.reserve] | fail) only [↓wpPre, wpPost, wpPoly, Int.reduceToNat, Int.reducePow, Int.reduceMul, Int.reduceAdd, Int.reduceSub, Int.reduceNeg, Nat.reduceAdd, Nat.reduceMul, Nat.reducePow, Int.reduceLT, Int.reduceLE, Int.reduceEq, Nat.reduceEqDiff]
  have g0 : H.get h.size = some (.cells [v] true 0) := by rw [hH]; simp -implicitDefEqProofs (disch := first | assumption | decide | omega | (simp only [wpD1] <;> omega) | (simp only [wpD2] <;> assumption) | solve_by_elim [HSub.refl, HSub.push, HSub.reserve] | fail) only [↓wpPre, wpPost, wpPoly, Int.reduceToNat, Int.reducePow, Int.reduceMul, Int.reduceAdd, Int.reduceSub, Int.reduceNeg, Nat.reduceAdd, Nat.reduceMul, Nat.reducePow, Int.reduceLT, Int.reduceLE, Int.reduceEq, Nat.reduceEqDiff]
  have g2 : H.get (h.size + 2) = some (.cells [.func 137 [] []] true 0) := by rw [hH]; simp -implicitDefEqProofs (disch := first | assumption | decide | omega | (simp only [wpD1] <;> omega) | (simp only [wpD2] <;> assumption) | solve_by_elim [HSub.refl, HSub.push, HSub.reserve] | fail) only [↓wpPre, wpPost, wpPoly, Int.reduceToNat, Int.reducePow, Int.reduceMul, Int.reduceAdd, Int.reduceSub, Int.reduceNeg, Nat.reduceAdd, Nat.reduceMul, Nat.reducePow, Int.reduceLT, Int.reduceLE, Int.reduceEq, Nat.reduceEqDiff]
  have g3 : H.get (h.size + 3) = some (.cells [.nilslice] true 0) := by rw [hH]; simp -implicitDefEqProofs (disch := first | assumption | decide | omega | (simp only [wpD1] <;> omega) | (simp only [wpD2] <;> assumption) | solve_by_elim [HSub.refl, HSub.push, HSub.reserve] | fail) only [↓wpPre, wpPost, wpPoly, Int.reduceToNat, Int.reducePow, Int.reduceMul, Int.reduceAdd, Int.reduceSub, Int.reduceNeg, Nat.reduceAdd, Nat.reduceMul, Nat.reducePow, Int.reduceLT, Int.reduceLE, Int.reduceEq, Nat.reduceEqDiff]
  have g4 : H.get (h.size + 4) = some (.cells [.int .i64 0] true 0) := by rw [hH]; simp -implicitDefEqProofs (disch := first | assumption | decide | omega | (simp only [wpD1] <;> omega) | (simp only [wpD2] <;> assumption) | solve_by_elim [HSub.refl, HSub.push, HSub.reserve] | fail) only [↓wpPre, wpPost, wpPoly, Int.reduceToNat, Int.reducePow, Int.reduceMul, Int.reduceAdd, Int.reduceSub, Int.reduceNeg, Nat.reduceAdd, Nat.reduceMul, Nat.reducePow, Int.reduceLT, Int.reduceLE, Int.reduceEq, Nat.reduceEqDiff]
  have bo : H.get (h.size + 5) = some (.cells (smps (List.replicate l.length (0, 0))) true 0) := by rw [hH]; simp -implicitDefEqProofs (disch := first | assumption | decide | omega | (simp only [wpD1] <;> omega) | (simp only [wpD2] <;> assumption) | solve_by_elim [HSub.refl, HSub.push, HSub.reserve] | fail) only [↓wpPre, wpPost, wpPoly, Int.reduceToNat, Int.reducePow, Int.reduceMul, Int.reduceAdd, Int.reduceSub, Int.reduceNeg, Nat.reduceAdd, Nat.reduceMul, Nat.reducePow, Int.reduceLT, Int.reduceLE, Int.reduceEq, Nat.reduceEqDiff]
  have bs : H.get (h.size + 6) = some (.cells [.slice (h.size + 5) 0 l.length (.known l.length)] true 0) := by rw [hH]; simp -implicitDefEqProofs (disch := first | assumption | decide | omega | (simp only [wpD1] <;> omega) | (simp only [wpD2] <;> assumption) | solve_by_elim [HSub.refl, HSub.push, HSub.reserve] | fail) only [↓wpPre, wpPost, wpPoly, Int.reduceToNat, Int.reducePow, Int.reduceMul, Int.reduceAdd, Int.reduceSub, Int.reduceNeg, Nat.reduceAdd, Nat.reduceMul, Nat.reducePow, Int.reduceLT, Int.reduceLE, Int.reduceEq, Nat.reduceEqDiff]
  have hsH : HSub h H := by
    rw [hH]
    exact ((((((HSub.push1 _ _).push _).push _).push _).push _).push _).push _
  clear hH
  refine ACallsK.eq (hph _) ?_
  simp -implicitDefEqProofs (disch := first | assumption | decide | omega | (simp only [wpD1] <;> omega) | (simp only [wpD2] <;> assumption) | solve_by_elim [HSub.refl, HSub.push, HSub.reserve] | fail) only [↓wpPre, wpPost, wpPoly, Int.reduceToNat, Int.reducePow, Int.reduceMul, Int.reduceAdd, Int.reduceSub, Int.reduceNeg, Nat.reduceAdd, Nat.reduceMul, Nat.reducePow, Int.reduceLT, Int.reduceLE, Int.reduceEq, Nat.reduceEqDiff]
  refine wpRange_none (D := fun h' => ∃ R, h'.get (H.size + 4) = some (.loop R) ∧ HSub h h' ∧ h'.get (H.size + 3) = some (.defd true) ∧ H.size + 5 ≤ h'.size ∧
    ((R.state = .ready ∧ R.pend = none ∧ (∀ x ∈ l, smallP x) ∧ h'.get (h.size + 6) = some (.cells [.slice (h.size + 5) 0 l.length (.known l.length)] true 0) ∧ h'.get (h.size + 5) = some (.cells (smps (mixL l a s l.length)) true 0) ∧
      h'.get (h.size + 3) = some (.cells [.nilslice] true 0) ∧ h'.get (h.size + 4) = some (.cells [.int .i64 0] true 0)) ∨
     (R.state = .done ∧ R.pend = some .ret ∧ (¬ ∀ x ∈ l, smallP x) ∧ h'.get (h.size + 3) = some (.cells [.nilslice] true 0) ∧ h'.get (h.size + 4) = some (.cells [.int .i64 2] true 0)))) ?_ ?_
  · refine ACalls.hideLoop (fun R hR => ?_)
    show ACalls C 145 [.yield (H.size + 4), .ptr (H.size + 1) 0, .ptr (H.size + 2) 0] _ _
    have rs : R.state = .ready := by rw [hR]
    have rp : R.pend = none := by rw [hR]
    have rb := loop_back rs rp
    refine phases2_iter (hC.sub (T' := T145) (by decide)) (hC.sub (T' := T144) (by decide)) (b0 := H.size) (a := a) (s := s) (m := l.length) hll (fun k h' => k ≤ l.length ∧ (∀ i, i < k → smallP (l.getD i (0, 0))) ∧ h'.get (H.size + 4) = some (.loop R) ∧ h'.get H.size = some (.cells [.int .u32 (phI a s (k : Nat)), .int .u32 s] true 0) ∧
      h'.get (H.size + 1) = some (.cells [.int .i64 (l.length : Nat)] true 0) ∧ h'.get (H.size + 2) = some (.cells [.func 144 [] [.ptr H.size 0]] true 0) ∧ h'.get (H.size + 3) = some (.defd true) ∧ HSub h h' ∧ H.size + 5 ≤ h'.size ∧
      h'.get h.size = some (.cells [v] true 0) ∧ h'.get (h.size + 2) = some (.cells [.func 137 [] []] true 0) ∧ h'.get (h.size + 3) = some (.cells [.nilslice] true 0) ∧ h'.get (h.size + 4) = some (.cells [.int .i64 0] true 0) ∧
      h'.get (h.size + 6) = some (.cells [.slice (h.size + 5) 0 l.length (.known l.length)] true 0) ∧ h'.get (h.size + 5) = some (.cells (smps (mixK l a s l.length k)) true 0)) _ ?_ ?_ ?_ ?_
    · have ez : phI a s ((0 : Nat) : Int) = a := phI_zero ha
      refine ⟨by omega, fun i hi => by omega, ?_, ?_, ?_, ?_, ?_, ?_, ?_, ?_, ?_, ?_, ?_, ?_, ?_⟩
      · simp -implicitDefEqProofs (disch := first | assumption | decide | omega | (simp only [wpD1] <;> omega) | (simp only [wpD2] <;> assumption) | solve_by_elim [HSub.refl, HSub.push, HSub.reserve] | fail) only [↓wpPre, wpPost, wpPoly, Int.reduceToNat, Int.reducePow, Int.reduceMul, Int.reduceAdd, Int.reduceSub, Int.reduceNeg, Nat.reduceAdd, Nat.reduceMul, Nat.reducePow, Int.reduceLT, Int.reduceLE, Int.reduceEq, Nat.reduceEqDiff]
      · rw [ez]; simp -implicitDefEqProofs (disch := first | assumption | decide | omega | (simp only [wpD1] <;> omega) | (simp only [wpD2] <;> assumption) | solve_by_elim [HSub.refl, HSub.push, HSub.reserve] | fail) only [↓wpPre, wpPost, wpPoly, Int.reduceToNat, Int.reducePow, Int.reduceMul, Int.reduceAdd, Int.reduceSub, Int.reduceNeg, Nat.reduceAdd, Nat.reduceMul, Nat.reducePow, Int.reduceLT, Int.reduceLE, Int.reduceEq, Nat.reduceEqDiff]
      · simp -implicitDefEqProofs (disch := first | assumption | decide | omega | (simp only [wpD1] <;> omega) | (simp only [wpD2] <;> assumption) | solve_by_elim [HSub.refl, HSub.push, HSub.reserve] | fail) only [↓wpPre, wpPost, wpPoly, Int.reduceToNat, Int.reducePow, Int.reduceMul, Int.reduceAdd, Int.reduceSub, Int.reduceNeg, Nat.reduceAdd, Nat.reduceMul, Nat.reducePow, Int.reduceLT, Int.reduceLE, Int.reduceEq, Nat.reduceEqDiff]
      · simp -implicitDefEqProofs (disch := first | assumption | decide | omega | (simp only [wpD1] <;> omega) | (simp only [wpD2] <;> assumption) | solve_by_elim [HSub.refl, HSub.push, HSub.reserve] | fail) only [↓wpPre, wpPost, wpPoly, Int.reduceToNat, Int.reducePow, Int.reduceMul, Int.reduceAdd, Int.reduceSub, Int.reduceNeg, Nat.reduceAdd, Nat.reduceMul, Nat.reducePow, Int.reduceLT, Int.reduceLE, Int.reduceEq, Nat.reduceEqDiff]
      · simp -implicitDefEqProofs (disch := first | assumption | decide | omega | (simp only [wpD1] <;> omega) | (simp only [wpD2] <;> assumption) | solve_by_elim [HSub.refl, HSub.push, HSub.reserve] | fail) only [↓wpPre, wpPost, wpPoly, Int.reduceToNat, Int.reducePow, Int.reduceMul, Int.reduceAdd, Int.reduceSub, Int.reduceNeg, Nat.reduceAdd, Nat.reduceMul, Nat.reducePow, Int.reduceLT, Int.reduceLE, Int.reduceEq, Nat.reduceEqDiff]
      · exact ((((hsH.push _).push _).push _).push _).push _
      · simp -implicitDefEqProofs (disch := first | assumption | decide | omega | (simp only [wpD1] <;> omega) | (simp only [wpD2] <;> assumption) | solve_by_elim [HSub.refl, HSub.push, HSub.reserve] | fail) only [↓wpPre, wpPost, wpPoly, Int.reduceToNat, Int.reducePow, Int.reduceMul, Int.reduceAdd, Int.reduceSub, Int.reduceNeg, Nat.reduceAdd, Nat.reduceMul, Nat.reducePow, Int.reduceLT, Int.reduceLE, Int.reduceEq, Nat.reduceEqDiff]
        omega
      · simp -implicitDefEqProofs (disch := first | assumption | decide | omega | (simp only [wpD1] <;> omega) | (simp only [wpD2] <;> assumption) | solve_by_elim [HSub.refl, HSub.push, HSub.reserve] | fail) only [↓wpPre, wpPost, wpPoly, Int.reduceToNat, Int.reducePow, Int.reduceMul, Int.reduceAdd, Int.reduceSub, Int.reduceNeg, Nat.reduceAdd, Nat.reduceMul, Nat.reducePow, Int.reduceLT, Int.reduceLE, Int.reduceEq, Nat.reduceEqDiff, g0]
      · simp -implicitDefEqProofs (disch := first | assumption | decide | omega | (simp only [wpD1] <;> omega) | (simp only [wpD2] <;> assumption) | solve_by_elim [HSub.refl, HSub.push, HSub.reserve] | fail) only [↓wpPre, wpPost, wpPoly, Int.reduceToNat, Int.reducePow, Int.reduceMul, Int.reduceAdd, Int.reduceSub, Int.reduceNeg, Nat.reduceAdd, Nat.reduceMul, Nat.reducePow, Int.reduceLT, Int.reduceLE, Int.reduceEq, Nat.reduceEqDiff, g2]
      · simp -implicitDefEqProofs (disch := first | assumption | decide | omega | (simp only [wpD1] <;> omega) | (simp only [wpD2] <;> assumption) | solve_by_elim [HSub.refl, HSub.push, HSub.reserve] | fail) only [↓wpPre, wpPost, wpPoly, Int.reduceToNat, Int.reducePow, Int.reduceMul, Int.reduceAdd, Int.reduceSub, Int.reduceNeg, Nat.reduceAdd, Nat.reduceMul, Nat.reducePow, Int.reduceLT, Int.reduceLE, Int.reduceEq, Nat.reduceEqDiff, g3]
      · simp -implicitDefEqProofs (disch := first | assumption | decide | omega | (simp only [wpD1] <;> omega) | (simp only [wpD2] <;> assumption) | solve_by_elim [HSub.refl, HSub.push, HSub.reserve] | fail) only [↓wpPre, wpPost, wpPoly, Int.reduceToNat, Int.reducePow, Int.reduceMul, Int.reduceAdd, Int.reduceSub, Int.reduceNeg, Nat.reduceAdd, Nat.reduceMul, Nat.reducePow, Int.reduceLT, Int.reduceLE, Int.reduceEq, Nat.reduceEqDiff, g4]
      · simp -implicitDefEqProofs (disch := first | assumption | decide | omega | (simp only [wpD1] <;> omega) | (simp only [wpD2] <;> assumption) | solve_by_elim [HSub.refl, HSub.push, HSub.reserve] | fail) only [↓wpPre, wpPost, wpPoly, Int.reduceToNat, Int.reducePow, Int.reduceMul, Int.reduceAdd, Int.reduceSub, Int.reduceNeg, Nat.reduceAdd, Nat.reduceMul, Nat.reducePow, Int.reduceLT, Int.reduceLE, Int.reduceEq, Nat.reduceEqDiff, bs]
      · simp -implicitDefEqProofs (disch := first | assumption | decide | omega | (simp only [wpD1] <;> omega) | (simp only [wpD2] <;> assumption) | solve_by_elim [HSub.refl, HSub.push, HSub.reserve] | fail) only [↓wpPre, wpPost, wpPoly, Int.reduceToNat, Int.reducePow, Int.reduceMul, Int.reduceAdd, Int.reduceSub, Int.reduceNeg, Nat.reduceAdd, Nat.reduceMul, Nat.reducePow, Int.reduceLT, Int.reduceLE, Int.reduceEq, Nat.reduceEqDiff, bo]
        rfl
    · rintro k h' ⟨_, _, _, q0, q1, q2, _⟩
      exact ⟨q0, q1, q2⟩
    · rintro k h' ⟨hk, hsm, hlp, p0, p1, p2, hd, hsub, hsz, g0, g2, g3, g4, gs, go⟩ hk'
      have hwl := mixK_length (l := l) (a := a) (s := s) hk
      have hsl : (smps (mixK l a s l.length k)).length = l.length * 2 := by rw [smps_length, hwl]
      have hset := smps_splice (l := mixK l a s l.length k) (k := k) (p := mixP (l.getD k (0, 0)) (carP (phI a s k))) (by rw [hwl]; exact hk')
      rw [mixK_set hk'] at hset
      have hca := fun h => Wipe_spec hW (p := l.getD k (0, 0)) (h := h) (phI_u32 a s (k : Nat))
      refine yield_intro (r := R) (by simp -implicitDefEqProofs (disch := first | assumption | decide | omega | (simp only [wpD1] <;> omega) | (simp only [wpD2] <;> assumption) | solve_by_elim [HSub.refl, HSub.push, HSub.reserve] | fail) only [↓wpPre, wpPost, wpPoly, Int.reduceToNat, Int.reducePow, Int.reduceMul, Int.reduceAdd, Int.reduceSub, Int.reduceNeg, Nat.reduceAdd, Nat.reduceMul, Nat.reducePow, Int.reduceLT, Int.reduceLE, Int.reduceEq, Nat.reduceEqDiff, hlp]) rs (by rw [hR]; rfl) ?_
      simp only [congrArg ALoop.nt hR, congrArg ALoop.t hR, congrArg ALoop.params hR, congrArg ALoop.assign hR, congrArg ALoop.body hR]
      have hlR := fun b1 b2 => (hl.mono (((hsub.put (i := H.size) (by omega) b1).put (i := H.size + 4) (by omega) b2).reserve 13)).loadA hk'
      simp -implicitDefEqProofs (disch := first | assumption | decide | omega | (simp only [wpD1] <;> omega) | (simp only [wpD2] <;> assumption) | solve_by_elim [HSub.refl, HSub.push, HSub.reserve] | fail) only [↓wpPre, wpPost, wpPoly, Int.reduceToNat, Int.reducePow, Int.reduceMul, Int.reduceAdd, Int.reduceSub, Int.reduceNeg, Nat.reduceAdd, Nat.reduceMul, Nat.reducePow, Int.reduceLT, Int.reduceLE, Int.reduceEq, Nat.reduceEqDiff, hlp, rs, g0, g2, hl.idx, hlR]
      refine ACallsK.eq (hca _) ?_
      by_cases c : smallP (l.getD k (0, 0))
      · rw [wipeE, if_pos c]
        unfold smp
        simp -implicitDefEqProofs (disch := first | assumption | decide | omega | (simp only [wpD1] <;> omega) | (simp only [wpD2] <;> assumption) | solve_by_elim [HSub.refl, HSub.push, HSub.reserve] | fail) only [↓wpPre, wpPost, wpPoly, Int.reduceToNat, Int.reducePow, Int.reduceMul, Int.reduceAdd, Int.reduceSub, Int.reduceNeg, Nat.reduceAdd, Nat.reduceMul, Nat.reducePow, Int.reduceLT, Int.reduceLE, Int.reduceEq, Nat.reduceEqDiff, hlp, gs, go, hset, Heap.wf]
        refine .inl ⟨by omega, fun i hi => ?_, by rw [rb], p1, p2, hd, (by repeat (first | exact hsub | refine HSub.put ?_ (by (try simp only [Heap.size_put, Heap.size_push, Heap.size_reserve]); omega) _ | refine HSub.push ?_ _ | refine HSub.reserve ?_ _)), by omega, g0, g2, g3, g4⟩
        rcases Nat.lt_or_ge i k with x | x
        · exact hsm i x
        · have : i = k := by omega
          subst this; exact c
      · rw [wipeE, if_neg c]
        unfold smp
        simp -implicitDefEqProofs (disch := first | assumption | decide | omega | (simp only [wpD1] <;> omega) | (simp only [wpD2] <;> assumption) | solve_by_elim [HSub.refl, HSub.push, HSub.reserve] | fail) only [↓wpPre, wpPost, wpPoly, Int.reduceToNat, Int.reducePow, Int.reduceMul, Int.reduceAdd, Int.reduceSub, Int.reduceNeg, Nat.reduceAdd, Nat.reduceMul, Nat.reducePow, Int.reduceLT, Int.reduceLE, Int.reduceEq, Nat.reduceEqDiff, hlp, Heap.wf, g3, g4]
        refine .inr ⟨_, rfl, (by repeat (first | exact hsub | refine HSub.put ?_ (by (try simp only [Heap.size_put, Heap.size_push, Heap.size_reserve]); omega) _ | refine HSub.push ?_ _ | refine HSub.reserve ?_ _)), hd, by omega, .inr ⟨rfl, rfl, fun hall => c (hall _ (getP_mem hk'))⟩⟩
    · rintro h' ⟨_, hsm, hlp, p0, p1, p2, hd, hsub, hsz, g0, g2, g3, g4, gs, go⟩
      rw [mixK_full] at go
      exact ⟨R, hlp, hsub, hd, hsz, .inl ⟨rs, rp, small_all hsm, gs, go, g3, g4⟩⟩
  · rintro h' ⟨R, hlp, hsub, hd, hsz, hor⟩
    rcases hor with ⟨hst, hpd, hall, gs, go, g3, g4⟩ | ⟨hst, hpd, hall, g3, g4⟩
    · refine ⟨R, hlp, by rw [hst]; decide, ?_⟩
      rw [hpd]
      show blockO _ _ .normal _
      simp -implicitDefEqProofs (disch := first | assumption | decide | omega | (simp only [wpD1] <;> omega) | (simp only [wpD2] <;> assumption) | solve_by_elim [HSub.refl, HSub.push, HSub.reserve] | fail) only [↓wpPre, wpPost, wpPoly, Int.reduceToNat, Int.reducePow, Int.reduceMul, Int.reduceAdd, Int.reduceSub, Int.reduceNeg, Nat.reduceAdd, Nat.reduceMul, Nat.reducePow, Int.reduceLT, Int.reduceLE, Int.reduceEq, Nat.reduceEqDiff, hd, gs, g3, g4]
      rw [if_pos hall, if_pos hall]
      refine ⟨_, rfl, (((hsub.put (by omega) _).put (by omega) _).put (by omega) _).put (by omega) _, SI.known (wr := true) (u := 0) ?_ ⟨(mixL_length l a s l.length).symm, by omega⟩ (Nat.le_refl _)⟩
      simp -implicitDefEqProofs (disch := first | assumption | decide | omega | (simp only [wpD1] <;> omega) | (simp only [wpD2] <;> assumption) | solve_by_elim [HSub.refl, HSub.push, HSub.reserve] | fail) only [↓wpPre, wpPost, wpPoly, Int.reduceToNat, Int.reducePow, Int.reduceMul, Int.reduceAdd, Int.reduceSub, Int.reduceNeg, Nat.reduceAdd, Nat.reduceMul, Nat.reducePow, Int.reduceLT, Int.reduceLE, Int.reduceEq, Nat.reduceEqDiff, go]
    · refine ⟨R, hlp, by rw [hst]; decide, ?_⟩
      rw [hpd]
      show blockO _ _ .ret _
      simp -implicitDefEqProofs (disch := first | assumption | decide | omega | (simp only [wpD1] <;> omega) | (simp only [wpD2] <;> assumption) | solve_by_elim [HSub.refl, HSub.push, HSub.reserve] | fail) only [↓wpPre, wpPost, wpPoly, Int.reduceToNat, Int.reducePow, Int.reduceMul, Int.reduceAdd, Int.reduceSub, Int.reduceNeg, Nat.reduceAdd, Nat.reduceMul, Nat.reducePow, Int.reduceLT, Int.reduceLE, Int.reduceEq, Nat.reduceEqDiff, hd, g3, g4]
      rw [if_neg hall, if_neg hall]
      exact ⟨_, rfl, (hsub.put (by omega) _).put (by omega) _, SI.nil⟩
theorem Mix_spec (hC : Has C T122) {v : AV} {l : List (Int × Int)} {a s : Int} {h : Heap} (hl : SI h v l) (ha : U32 a) :
    ACalls C 122 [v, nco a s] h (fun r h' => ∃ w, r = lstErr w (mixErr l) ∧ HSub h h' ∧ SI h' w (mixOut l a s)) := by
  have hlt := hl.lt
  unfold mixOut mixErr
  by_cases c : 1048576 < l.length
  · rw [if_pos c]
    unfold nco
    (refine calls_intro (hC.body (by decide) tab122) (Nat.le_of_ble_eq_true rfl) ?_); (show wp C _ none B122.code _ _); (simp only [B122]); simp -implicitDefEqProofs (disch := first | assumption | decide | omega | (simp only [wpD1] <;> omega) | (simp only [wpD2] <;> assumption) | solve_by_elim [HSub.refl, HSub.push, HSub.reserve] | fail) only [↓wpPre, wpPost, wpPoly, Int.reduceToNat, Int.reducePow, Int.reduceMul, Int.reduceAdd, Int.reduceSub, Int.reduceNeg, Nat.reduceAdd, Nat.reduceMul, Nat.reducePow, Int.reduceLT, Int.reduceLE, Int.reduceEq, Nat.reduceEqDiff, hl.len]
    exact ⟨_, rfl, HSub.push1 _ _, SI.nil⟩
  · rw [if_neg c]
    have hmp := fun (h1 : Heap) (hs : HSub h h1) => mapped_spec (hC.sub (T' := T136) (by decide)) (hC.sub (T' := T137) (by decide)) (a := a) (s := s) (hl.mono hs) (by omega) ha
    unfold nco at hmp ⊢
    (refine calls_intro (hC.body (by decide) tab122) (Nat.le_of_ble_eq_true rfl) ?_); (show wp C _ none B122.code _ _); (simp only [B122]); simp -implicitDefEqProofs (disch := first | assumption | decide | omega | (simp only [wpD1] <;> omega) | (simp only [wpD2] <;> assumption) | solve_by_elim [HSub.refl, HSub.push, HSub.reserve] | fail) only [↓wpPre, wpPost, wpPoly, Int.reduceToNat, Int.reducePow, Int.reduceMul, Int.reduceAdd, Int.reduceSub, Int.reduceNeg, Nat.reduceAdd, Nat.reduceMul, Nat.reducePow, Int.reduceLT, Int.reduceLE, Int.reduceEq, Nat.reduceEqDiff, hl.len]
    refine ACallsK.of (hmp _ (HSub.push1 _ _)) ?_
    rintro r h1 ⟨w, rfl, s1, R1⟩
    unfold lstErr
    simp -implicitDefEqProofs (disch := first | assumption | decide | omega | (simp only [wpD1] <;> omega) | (simp only [wpD2] <;> assumption) | solve_by_elim [HSub.refl, HSub.push, HSub.reserve] | fail) only [↓wpPre, wpPost, wpPoly, Int.reduceToNat, Int.reducePow, Int.reduceMul, Int.reduceAdd, Int.reduceSub, Int.reduceNeg, Nat.reduceAdd, Nat.reduceMul, Nat.reducePow, Int.reduceLT, Int.reduceLE, Int.reduceEq, Nat.reduceEqDiff]
    refine ⟨w, rfl, (HSub.push1 _ _).trans s1, ?_⟩
    by_cases c2 : ∀ x ∈ l, smallP x
    · rw [if_pos c2] at R1 ⊢; rwa [if_pos rfl]
    · rw [if_neg c2] at R1 ⊢; rwa [if_neg (by decide)]
set_option maxHeartbeats 1000000 in
theorem MixR_spec (hC : Has C T125) {v : AV} {l : List (Int × Int)} {a s : Int} {h : Heap} (hl : SI h v l) :
    ACalls C 125 [v, nco a s] h (fun r h' => ∃ w, r = lstErr w (mixErr l) ∧ HSub h h' ∧ SI h' w (mixOut l a s)) := by
  have hlt := hl.lt
  unfold mixOut mixErr
  by_cases c : 1048576 < l.length
  · rw [if_pos c]
    unfold nco
    (refine calls_intro (hC.body (by decide) tab125) (Nat.le_of_ble_eq_true rfl) ?_); (show wp C _ none B125.code _ _); (simp only [B125]); simp -implicitDefEqProofs (disch := first | assumption | decide | omega | (simp only [wpD1] <;> omega) | (simp only [wpD2] <;> assumption) | solve_by_elim [HSub.refl, HSub.push, HSub.reserve] | fail) only [↓wpPre, wpPost, wpPoly, Int.reduceToNat, Int.reducePow, Int.reduceMul, Int.reduceAdd, Int.reduceSub, Int.reduceNeg, Nat.reduceAdd, Nat.reduceMul, Nat.reducePow, Int.reduceLT, Int.reduceLE, Int.reduceEq, Nat.reduceEqDiff, hl.len]
    exact ⟨_, rfl, HSub.push1 _ _, SI.nil⟩
  · rw [if_neg c]
    have hph := fun (k : Int) h => PhaseR_spec (a := a) (s := s) (n := k) (h := h) (hC.sub (T' := T126) (by decide))
    unfold nco at hph ⊢
    (refine calls_intro (hC.body (by decide) tab125) (Nat.le_of_ble_eq_true rfl) ?_); (show wp C _ none B125.code _ _); (simp only [B125]); simp -implicitDefEqProofs (disch := first | assumption | decide | omega | (simp only [wpD1] <;> omega) | (simp only [wpD2] <;> assumption) | solve_by_elim [HSub.refl, HSub.push, HSub.reserve] | fail) only [↓wpPre, wpPost, wpPoly, Int.reduceToNat, Int.reducePow, Int.reduceMul, Int.reduceAdd, Int.reduceSub, Int.reduceNeg, Nat.reduceAdd, Nat.reduceMul, Nat.reducePow, Int.reduceLT, Int.reduceLE, Int.reduceEq, Nat.reduceEqDiff, hl.len]
    refine wp_loopI (fun j t h' => ∃ k : Nat, GrwS (h.push (.cells [.int .u32 a, .int .u32 s] true 0)) h' (t 6) (mixL l a s k) ∧ (∀ i, i < k → smallP (l.getD i (0, 0))) ∧ t 0 = v ∧ t 3 = .ptr h.size 0 ∧ t 7 = .int .i64 (k : Nat) ∧ k ≤ l.length ∧ j = l.length - k) (j0 := l.length)
      ⟨0, GrwS.nil _, fun i hi => by omega, rfl, rfl, rfl, by omega, rfl⟩ ?_
    rintro j t h2 ⟨k, A, hsm, e0, e3, e7, hk, hj⟩
    have gb : h2.get h.size = some (.cells [.int .u32 a, .int .u32 s] true 0) := (A.sub.get _ (by simp)).trans (get_push_eq rfl)
    have hsz := A.sub.size
    simp only [Heap.size_push] at hsz
    simp -implicitDefEqProofs (disch := first | assumption | decide | omega | (simp only [wpD1] <;> omega) | (simp only [wpD2] <;> assumption) | solve_by_elim [HSub.refl, HSub.push, HSub.reserve] | fail) only [↓wpPre, wpPost, wpPoly, Int.reduceToNat, Int.reducePow, Int.reduceMul, Int.reduceAdd, Int.reduceSub, Int.reduceNeg, Nat.reduceAdd, Nat.reduceMul, Nat.reducePow, Int.reduceLT, Int.reduceLE, Int.reduceEq, Nat.reduceEqDiff, e0, e7, hl.len]
    refine Br.by (fun c1 => ?_) (fun c1 => ?_)
    · have hk' : k < l.length := by omega
      have hca := fun h => WipeR_spec (hC.sub (T' := T138) (by decide)) (p := l.getD k (0, 0)) (h := h) (phI_u32 a s (k : Nat))
      have hlR := (hl.mono (((HSub.push1 _ _).trans A.sub).reserve 14)).loadA hk'
      have hlen := mixL_length l a s k
      simp -implicitDefEqProofs (disch := first | assumption | decide | omega | (simp only [wpD1] <;> omega) | (simp only [wpD2] <;> assumption) | solve_by_elim [HSub.refl, HSub.push, HSub.reserve] | fail) only [↓wpPre, wpPost, wpPoly, Int.reduceToNat, Int.reducePow, Int.reduceMul, Int.reduceAdd, Int.reduceSub, Int.reduceNeg, Nat.reduceAdd, Nat.reduceMul, Nat.reducePow, Int.reduceLT, Int.reduceLE, Int.reduceEq, Nat.reduceEqDiff, e0, e3, gb, e7, hl.idx, hlR]
      refine ACallsK.eq (hph _ _) ?_
      simp -implicitDefEqProofs (disch := first | assumption | decide | omega | (simp only [wpD1] <;> omega) | (simp only [wpD2] <;> assumption) | solve_by_elim [HSub.refl, HSub.push, HSub.reserve] | fail) only [↓wpPre, wpPost, wpPoly, Int.reduceToNat, Int.reducePow, Int.reduceMul, Int.reduceAdd, Int.reduceSub, Int.reduceNeg, Nat.reduceAdd, Nat.reduceMul, Nat.reducePow, Int.reduceLT, Int.reduceLE, Int.reduceEq, Nat.reduceEqDiff]
      refine ACallsK.eq (hca _) ?_
      by_cases c : smallP (l.getD k (0, 0))
      · rw [wipeE, if_pos c]
        unfold smp
        have hsucc := mixL_succ l a s k
        have hH := fun b1 b2 => (show HSub h2 (((h2.reserve 14).put (h2.size + 11) b1).push b2) from (by repeat (first | exact HSub.refl _ | refine HSub.put ?_ (by (try simp only [Heap.size_put, Heap.size_push, Heap.size_reserve]); omega) _ | refine HSub.push ?_ _ | refine HSub.reserve ?_ _)))
        have hap := fun b1 b2 => A.app (x := (mixP (l.getD k (0, 0)) (carP (phI a s k))).1) (y := (mixP (l.getD k (0, 0)) (carP (phI a s k))).2) _ (hH b1 b2) (by omega)
        have A2 := fun b1 b2 => A.snoc (x := (mixP (l.getD k (0, 0)) (carP (phI a s k))).1) (y := (mixP (l.getD k (0, 0)) (carP (phI a s k))).2) (hH b1 b2) (by omega)
        rw [show ((mixP (l.getD k (0, 0)) (carP (phI a s k))).1, (mixP (l.getD k (0, 0)) (carP (phI a s k))).2) = mixP (l.getD k (0, 0)) (carP (phI a s k)) from rfl, ← hsucc, hlen] at A2 hap
        simp only [Heap.size_push, Heap.size_put, Heap.size_reserve] at hap A2
        simp -implicitDefEqProofs (disch := first | assumption | decide | omega | (simp only [wpD1] <;> omega) | (simp only [wpD2] <;> assumption) | solve_by_elim [HSub.refl, HSub.push, HSub.reserve] | fail) only [↓wpPre, wpPost, wpPoly, Int.reduceToNat, Int.reducePow, Int.reduceMul, Int.reduceAdd, Int.reduceSub, Int.reduceNeg, Nat.reduceAdd, Nat.reduceMul, Nat.reducePow, Int.reduceLT, Int.reduceLE, Int.reduceEq, Nat.reduceEqDiff, Heap.wf, cont_slice, contB_two, hap, e0, e3, e7]
        exact ⟨_, ⟨k + 1, A2 _ _, fun i hi => (by
          rcases Nat.lt_or_ge i k with x | x
          · exact hsm i x
          · have : i = k := by omega
            subst this; exact c), by simp, by omega, rfl⟩, by omega⟩
      · rw [wipeE, if_neg c]
        unfold smp
        simp -implicitDefEqProofs (disch := first | assumption | decide | omega | (simp only [wpD1] <;> omega) | (simp only [wpD2] <;> assumption) | solve_by_elim [HSub.refl, HSub.push, HSub.reserve] | fail) only [↓wpPre, wpPost, wpPoly, Int.reduceToNat, Int.reducePow, Int.reduceMul, Int.reduceAdd, Int.reduceSub, Int.reduceNeg, Nat.reduceAdd, Nat.reduceMul, Nat.reducePow, Int.reduceLT, Int.reduceLE, Int.reduceEq, Nat.reduceEqDiff, Heap.wf]
        have hall : ¬ ∀ x ∈ l, smallP x := fun hall => c (hall _ (getP_mem hk'))
        rw [if_neg hall, if_neg (by decide)]
        refine ⟨_, rfl, (by repeat (first | exact (HSub.push1 _ _).trans A.sub | refine HSub.put ?_ (by (try simp only [Heap.size_put, Heap.size_push, Heap.size_reserve]); omega) _ | refine HSub.push ?_ _ | refine HSub.reserve ?_ _)), SI.nil⟩
    · have ek : k = l.length := by omega
      subst ek
      have hall := small_all hsm
      rw [if_pos hall, if_pos rfl]
      simp -implicitDefEqProofs (disch := first | assumption | decide | omega | (simp only [wpD1] <;> omega) | (simp only [wpD2] <;> assumption) | solve_by_elim [HSub.refl, HSub.push, HSub.reserve] | fail) only [↓wpPre, wpPost, wpPoly, Int.reduceToNat, Int.reducePow, Int.reduceMul, Int.reduceAdd, Int.reduceSub, Int.reduceNeg, Nat.reduceAdd, Nat.reduceMul, Nat.reducePow, Int.reduceLT, Int.reduceLE, Int.reduceEq, Nat.reduceEqDiff]
      exact ⟨_, rfl, (HSub.push1 _ _).trans A.sub, A.si⟩
end
end Go.Ae

/- The statements on waves and on sums of mixes of layer 11. -/
set_option linter.unusedSimpArgs false
set_option linter.unusedVariables false
namespace Go.Ae
theorem eqs_nco {a b c d : Int} : eqsA false [(0, false), (1, false)] (.agg [.int .u32 a, .int .u32 b]) (.agg [.int .u32 c, .int .u32 d]) = some (.bool (decide (a = c ∧ b = d))) := eqs_two_f
section
variable {C : Ctx}
theorem LaterR_spec (hC : Has C T128) {a s n : Int} {h : Heap} : ACalls C 128 [nco a s, .int .i64 n] h (fun r h' => r = nco (phI a s n) s ∧ h' = h) := by
  refine ACalls.gc0 (P := fun r h' => r = nco (phI a s n) s ∧ HSub h h') ?_ (fun r h' hp => ⟨by rw [hp.1]; simp [nco, AV.free, AV.bel, AV.bels], hp.2, hp.1, rfl⟩)
  have hp := fun h => PhaseR_spec (a := a) (s := s) (n := n) (h := h) (hC.sub (T' := T126) (by decide))
  unfold nco at hp ⊢
  (refine calls_intro (hC.body (by decide) tab128) (Nat.le_of_ble_eq_true rfl) ?_); (show wp C _ none B128.code _ _); (simp only [B128]); simp -implicitDefEqProofs (disch := first | assumption | decide | omega | (simp only [wpD1] <;> omega) | (simp only [wpD2] <;> assumption) | solve_by_elim [HSub.refl, HSub.push, HSub.reserve] | fail) only [↓wpPre, wpPost, wpPoly, Int.reduceToNat, Int.reducePow, Int.reduceMul, Int.reduceAdd, Int.reduceSub, Int.reduceNeg, Nat.reduceAdd, Nat.reduceMul, Nat.reducePow, Int.reduceLT, Int.reduceLE, Int.reduceEq, Nat.reduceEqDiff]
  refine ACallsK.eq (hp _) ?_
  simp -implicitDefEqProofs (disch := first | assumption | decide | omega | (simp only [wpD1] <;> omega) | (simp only [wpD2] <;> assumption) | solve_by_elim [HSub.refl, HSub.push, HSub.reserve] | fail) only [↓wpPre, wpPost, wpPoly, Int.reduceToNat, Int.reducePow, Int.reduceMul, Int.reduceAdd, Int.reduceSub, Int.reduceNeg, Nat.reduceAdd, Nat.reduceMul, Nat.reducePow, Int.reduceLT, Int.reduceLE, Int.reduceEq, Nat.reduceEqDiff]
  exact (HSub.push1 _ _).push _
theorem DeltaR_spec (hC : Has C T140) {a b : Int} {h : Heap} : ACalls C 140 [.int .u32 a, .int .u32 b] h (fun r h' => r = .int .i64 (sg32 ((a - b) % 4294967296)) ∧ h' = h) := by
  have h1 := Int.emod_nonneg ((a - b) % 4294967296) (show (4294967296 : Int) ≠ 0 by decide)
  have h2 := Int.emod_lt_of_pos ((a - b) % 4294967296) (show (0 : Int) < 4294967296 by decide)
  have h3 : -2147483648 ≤ sg32 ((a - b) % 4294967296) ∧ sg32 ((a - b) % 4294967296) ≤ 2147483647 := by unfold sg32; split <;> omega
  have h4 : IntKind.i64.wrap (sg32 ((a - b) % 4294967296)) = sg32 ((a - b) % 4294967296) := w_i64 (by omega)
  (refine calls_intro (hC.body (by decide) tab140) (Nat.le_of_ble_eq_true rfl) ?_); (show wp C _ none B140.code _ _); (simp only [B140]); simp -implicitDefEqProofs (disch := first | assumption | decide | omega | (simp only [wpD1] <;> omega) | (simp only [wpD2] <;> assumption) | solve_by_elim [HSub.refl, HSub.push, HSub.reserve] | fail) only [↓wpPre, wpPost, wpPoly, Int.reduceToNat, Int.reducePow, Int.reduceMul, Int.reduceAdd, Int.reduceSub, Int.reduceNeg, Nat.reduceAdd, Nat.reduceMul, Nat.reducePow, Int.reduceLT, Int.reduceLE, Int.reduceEq, Nat.reduceEqDiff, wrap_u32, wrap_i32, h4]
theorem ApartR_spec (hC : Has C T129) {a s b t n : Int} {h : Heap} : ACalls C 129 [nco a s, nco b t, .int .i64 n] h (fun r h' => r = .int .i64 (sg32 ((phI a s n - phI b t n) % 4294967296)) ∧ h' = h) := by
  refine ACalls.gc0 (P := fun r h' => r = .int .i64 (sg32 ((phI a s n - phI b t n) % 4294967296)) ∧ HSub h h') ?_ (fun r h' hp => ⟨by rw [hp.1]; trivial, hp.2, hp.1, rfl⟩)
  have h1 := fun h => PhaseR_spec (a := a) (s := s) (n := n) (h := h) (hC.sub (T' := T126) (by decide))
  have h2 := fun h => PhaseR_spec (a := b) (s := t) (n := n) (h := h) (hC.sub (T' := T126) (by decide))
  unfold nco at h1 h2 ⊢
  (refine calls_intro (hC.body (by decide) tab129) (Nat.le_of_ble_eq_true rfl) ?_); (show wp C _ none B129.code _ _); (simp only [B129]); simp -implicitDefEqProofs (disch := first | assumption | decide | omega | (simp only [wpD1] <;> omega) | (simp only [wpD2] <;> assumption) | solve_by_elim [HSub.refl, HSub.push, HSub.reserve] | fail) only [↓wpPre, wpPost, wpPoly, Int.reduceToNat, Int.reducePow, Int.reduceMul, Int.reduceAdd, Int.reduceSub, Int.reduceNeg, Nat.reduceAdd, Nat.reduceMul, Nat.reducePow, Int.reduceLT, Int.reduceLE, Int.reduceEq, Nat.reduceEqDiff]
  refine ACallsK.eq (h1 _) ?_
  simp -implicitDefEqProofs (disch := first | assumption | decide | omega | (simp only [wpD1] <;> omega) | (simp only [wpD2] <;> assumption) | solve_by_elim [HSub.refl, HSub.push, HSub.reserve] | fail) only [↓wpPre, wpPost, wpPoly, Int.reduceToNat, Int.reducePow, Int.reduceMul, Int.reduceAdd, Int.reduceSub, Int.reduceNeg, Nat.reduceAdd, Nat.reduceMul, Nat.reducePow, Int.reduceLT, Int.reduceLE, Int.reduceEq, Nat.reduceEqDiff]
  refine ACallsK.eq (h2 _) ?_
  simp -implicitDefEqProofs (disch := first | assumption | decide | omega | (simp only [wpD1] <;> omega) | (simp only [wpD2] <;> assumption) | solve_by_elim [HSub.refl, HSub.push, HSub.reserve] | fail) only [↓wpPre, wpPost, wpPoly, Int.reduceToNat, Int.reducePow, Int.reduceMul, Int.reduceAdd, Int.reduceSub, Int.reduceNeg, Nat.reduceAdd, Nat.reduceMul, Nat.reducePow, Int.reduceLT, Int.reduceLE, Int.reduceEq, Nat.reduceEqDiff]
  refine ACallsK.eq (DeltaR_spec (hC.sub (T' := T140) (by decide))) ?_
  simp -implicitDefEqProofs (disch := first | assumption | decide | omega | (simp only [wpD1] <;> omega) | (simp only [wpD2] <;> assumption) | solve_by_elim [HSub.refl, HSub.push, HSub.reserve] | fail) only [↓wpPre, wpPost, wpPoly, Int.reduceToNat, Int.reducePow, Int.reduceMul, Int.reduceAdd, Int.reduceSub, Int.reduceNeg, Nat.reduceAdd, Nat.reduceMul, Nat.reducePow, Int.reduceLT, Int.reduceLE, Int.reduceEq, Nat.reduceEqDiff]
  exact (HSub.push1 _ _).push _
set_option maxHeartbeats 2000000 in
set_option maxRecDepth 20000 in
theorem NcoWaves_law (hC : Has C T110) {a s b t n m : Int} {v : AV} {l : List (Int × Int)} {h : Heap} (ha : U32 a) (hs : U32 s) (hb : U32 b) (ht : U32 t) (hn : In64 n) (hm : In64 m) (hl : SI h v l) (_hx : ∀ p ∈ l, In64 p.1 ∧ In64 p.2) :
    ACalls C 110 [.agg [.int .u32 a, .int .u32 s], .agg [.int .u32 b, .int .u32 t], .int .i64 n, .int .i64 m, v] h (fun r _ => r = .bool true) := by
  have hlt := hl.lt
  have hm' := hm
  unfold In64 at hm'
  have key : (200 < m ∧ m ≤ 100000) ∨ (m ≤ 200 ∨ 100000 < m) := by omega
  rcases key with c | c
  · (refine calls_intro (hC.body (by decide) tab110) (Nat.le_of_ble_eq_true rfl) ?_); (show wp C _ none B110.code _ _); (simp only [B110]); simp -implicitDefEqProofs (disch := first | assumption | decide | omega | (simp only [wpD1] <;> omega) | (simp only [wpD2] <;> assumption) | solve_by_elim [HSub.refl, HSub.push, HSub.reserve] | fail) only [↓wpPre, wpPost, wpPoly, Int.reduceToNat, Int.reducePow, Int.reduceMul, Int.reduceAdd, Int.reduceSub, Int.reduceNeg, Nat.reduceAdd, Nat.reduceMul, Nat.reducePow, Int.reduceLT, Int.reduceLE, Int.reduceEq, Nat.reduceEqDiff]
    refine ACallsK.eq (awake11_spec (hC.sub (T' := T116) (by decide))) ?_
    simp -implicitDefEqProofs (disch := first | assumption | decide | omega | (simp only [wpD1] <;> omega) | (simp only [wpD2] <;> assumption) | solve_by_elim [HSub.refl, HSub.push, HSub.reserve] | fail) only [↓wpPre, wpPost, wpPoly, Int.reduceToNat, Int.reducePow, Int.reduceMul, Int.reduceAdd, Int.reduceSub, Int.reduceNeg, Nat.reduceAdd, Nat.reduceMul, Nat.reducePow, Int.reduceLT, Int.reduceLE, Int.reduceEq, Nat.reduceEqDiff]
  · by_cases c2 : 200 < l.length
    · rcases c with c | c
      all_goals
        (refine calls_intro (hC.body (by decide) tab110) (Nat.le_of_ble_eq_true rfl) ?_); (show wp C _ none B110.code _ _); (simp only [B110]); simp -implicitDefEqProofs (disch := first | assumption | decide | omega | (simp only [wpD1] <;> omega) | (simp only [wpD2] <;> assumption) | solve_by_elim [HSub.refl, HSub.push, HSub.reserve] | fail) only [↓wpPre, wpPost, wpPoly, Int.reduceToNat, Int.reducePow, Int.reduceMul, Int.reduceAdd, Int.reduceSub, Int.reduceNeg, Nat.reduceAdd, Nat.reduceMul, Nat.reducePow, Int.reduceLT, Int.reduceLE, Int.reduceEq, Nat.reduceEqDiff, hl.len]
        refine ACallsK.eq (awake11_spec (hC.sub (T' := T116) (by decide))) ?_
        simp -implicitDefEqProofs (disch := first | assumption | decide | omega | (simp only [wpD1] <;> omega) | (simp only [wpD2] <;> assumption) | solve_by_elim [HSub.refl, HSub.push, HSub.reserve] | fail) only [↓wpPre, wpPost, wpPoly, Int.reduceToNat, Int.reducePow, Int.reduceMul, Int.reduceAdd, Int.reduceSub, Int.reduceNeg, Nat.reduceAdd, Nat.reduceMul, Nat.reducePow, Int.reduceLT, Int.reduceLE, Int.reduceEq, Nat.reduceEqDiff]
    · have w1 := fun h => Wave_spec (hC.sub (T' := T121) (by decide)) (a := a) (s := s) (n := m) (h := h) ha hm
      have w2 := fun h => WaveR_spec (hC.sub (T' := T124) (by decide)) (a := a) (s := s) (n := m) (h := h) hm
      have x1 := fun (h1 : Heap) (q : HSub h h1) => Mix_spec (hC.sub (T' := T122) (by decide)) (a := a) (s := s) (hl.mono q) ha
      have x2 := fun (h1 : Heap) (q : HSub h h1) => MixR_spec (hC.sub (T' := T125) (by decide)) (a := a) (s := s) (hl.mono q)
      have p1 := fun h => Phase_spec (a := a) (s := s) (n := n) (h := h) (hC.sub (T' := T119) (by decide))
      have p2 := fun h => PhaseR_spec (a := a) (s := s) (n := n) (h := h) (hC.sub (T' := T126) (by decide))
      have l1 := fun h => Later_spec (a := a) (s := s) (n := n) (h := h) (hC.sub (T' := T127) (by decide))
      have l2 := fun h => LaterR_spec (a := a) (s := s) (n := n) (h := h) (hC.sub (T' := T128) (by decide))
      have d1 := fun h => Apart_spec (a := a) (s := s) (b := b) (t := t) (n := n) (h := h) (hC.sub (T' := T120) (by decide))
      have d2 := fun h => ApartR_spec (a := a) (s := s) (b := b) (t := t) (n := n) (h := h) (hC.sub (T' := T129) (by decide))
      unfold nco at w1 w2 x1 x2 p1 p2 l1 l2 d1 d2
      rcases c with c | c
      all_goals
        (refine calls_intro (hC.body (by decide) tab110) (Nat.le_of_ble_eq_true rfl) ?_); (show wp C _ none B110.code _ _); (simp only [B110]); simp -implicitDefEqProofs (disch := first | assumption | decide | omega | (simp only [wpD1] <;> omega) | (simp only [wpD2] <;> assumption) | solve_by_elim [HSub.refl, HSub.push, HSub.reserve] | fail) only [↓wpPre, wpPost, wpPoly, Int.reduceToNat, Int.reducePow, Int.reduceMul, Int.reduceAdd, Int.reduceSub, Int.reduceNeg, Nat.reduceAdd, Nat.reduceMul, Nat.reducePow, Int.reduceLT, Int.reduceLE, Int.reduceEq, Nat.reduceEqDiff, hl.len]
        refine ACallsK.of (w1 _) ?_
        rintro r h1 ⟨v1, rfl, s1, R1⟩
        have u1 : HSub h h1 := ((HSub.push1 _ _).push _).trans s1
        have g1 := s1.get
        simp -implicitDefEqProofs (disch := first | assumption | decide | omega | (simp only [wpD1] <;> omega) | (simp only [wpD2] <;> assumption) | solve_by_elim [HSub.refl, HSub.push, HSub.reserve] | fail) only [↓wpPre, wpPost, wpPoly, Int.reduceToNat, Int.reducePow, Int.reduceMul, Int.reduceAdd, Int.reduceSub, Int.reduceNeg, Nat.reduceAdd, Nat.reduceMul, Nat.reducePow, Int.reduceLT, Int.reduceLE, Int.reduceEq, Nat.reduceEqDiff, lstErr, g1]
        refine ACallsK.of (w2 _) ?_
        rintro r h2 ⟨v2, rfl, s2, R2⟩
        have u2 := u1.trans s2
        have g2 := s2.get
        have z1 := s1.size
        simp only [Heap.size_push] at z1
        simp -implicitDefEqProofs (disch := first | assumption | decide | omega | (simp only [wpD1] <;> omega) | (simp only [wpD2] <;> assumption) | solve_by_elim [HSub.refl, HSub.push, HSub.reserve] | fail) only [↓wpPre, wpPost, wpPoly, Int.reduceToNat, Int.reducePow, Int.reduceMul, Int.reduceAdd, Int.reduceSub, Int.reduceNeg, Nat.reduceAdd, Nat.reduceMul, Nat.reducePow, Int.reduceLT, Int.reduceLE, Int.reduceEq, Nat.reduceEqDiff, lstErr, g2, g1]
        refine ACallsK.of (x1 _ u2) ?_
        rintro r h3 ⟨v3, rfl, s3, R3⟩
        have u3 := u2.trans s3
        have g3 := s3.get
        have z2 := s2.size
        simp -implicitDefEqProofs (disch := first | assumption | decide | omega | (simp only [wpD1] <;> omega) | (simp only [wpD2] <;> assumption) | solve_by_elim [HSub.refl, HSub.push, HSub.reserve] | fail) only [↓wpPre, wpPost, wpPoly, Int.reduceToNat, Int.reducePow, Int.reduceMul, Int.reduceAdd, Int.reduceSub, Int.reduceNeg, Nat.reduceAdd, Nat.reduceMul, Nat.reducePow, Int.reduceLT, Int.reduceLE, Int.reduceEq, Nat.reduceEqDiff, lstErr, g3, g2, g1]
        refine ACallsK.of (x2 _ u3) ?_
        rintro r h4 ⟨v4, rfl, s4, R4⟩
        have u4 := u3.trans s4
        have g4 := s4.get
        have z3 := s3.size
        have R1' := R1.mono (s2.trans (s3.trans s4))
        have R2' := R2.mono (s3.trans s4)
        have R3' := R3.mono s4
        have sp1 := Samples_spec (hC.sub (T' := T123) (by decide)) R1' R2'
        have sp2 := Samples_spec (hC.sub (T' := T123) (by decide)) R3' R4
        rw [decide_eq_true rfl] at sp1 sp2
        simp -implicitDefEqProofs (disch := first | assumption | decide | omega | (simp only [wpD1] <;> omega) | (simp only [wpD2] <;> assumption) | solve_by_elim [HSub.refl, HSub.push, HSub.reserve] | fail) only [↓wpPre, wpPost, wpPoly, Int.reduceToNat, Int.reducePow, Int.reduceMul, Int.reduceAdd, Int.reduceSub, Int.reduceNeg, Nat.reduceAdd, Nat.reduceMul, Nat.reducePow, Int.reduceLT, Int.reduceLE, Int.reduceEq, Nat.reduceEqDiff, lstErr, g4, g3, g2, g1]
        refine ACallsK.eq (p1 _) ?_
        simp -implicitDefEqProofs (disch := first | assumption | decide | omega | (simp only [wpD1] <;> omega) | (simp only [wpD2] <;> assumption) | solve_by_elim [HSub.refl, HSub.push, HSub.reserve] | fail) only [↓wpPre, wpPost, wpPoly, Int.reduceToNat, Int.reducePow, Int.reduceMul, Int.reduceAdd, Int.reduceSub, Int.reduceNeg, Nat.reduceAdd, Nat.reduceMul, Nat.reducePow, Int.reduceLT, Int.reduceLE, Int.reduceEq, Nat.reduceEqDiff]
        refine ACallsK.eq (p2 _) ?_
        simp -implicitDefEqProofs (disch := first | assumption | decide | omega | (simp only [wpD1] <;> omega) | (simp only [wpD2] <;> assumption) | solve_by_elim [HSub.refl, HSub.push, HSub.reserve] | fail) only [↓wpPre, wpPost, wpPoly, Int.reduceToNat, Int.reducePow, Int.reduceMul, Int.reduceAdd, Int.reduceSub, Int.reduceNeg, Nat.reduceAdd, Nat.reduceMul, Nat.reducePow, Int.reduceLT, Int.reduceLE, Int.reduceEq, Nat.reduceEqDiff, g4, g3, g2, g1]
        refine ACallsK.eq (l1 _) ?_
        simp -implicitDefEqProofs (disch := first | assumption | decide | omega | (simp only [wpD1] <;> omega) | (simp only [wpD2] <;> assumption) | solve_by_elim [HSub.refl, HSub.push, HSub.reserve] | fail) only [↓wpPre, wpPost, wpPoly, Int.reduceToNat, Int.reducePow, Int.reduceMul, Int.reduceAdd, Int.reduceSub, Int.reduceNeg, Nat.reduceAdd, Nat.reduceMul, Nat.reducePow, Int.reduceLT, Int.reduceLE, Int.reduceEq, Nat.reduceEqDiff]
        refine ACallsK.eq (l2 _) ?_
        simp -implicitDefEqProofs (disch := first | assumption | decide | omega | (simp only [wpD1] <;> omega) | (simp only [wpD2] <;> assumption) | solve_by_elim [HSub.refl, HSub.push, HSub.reserve] | fail) only [↓wpPre, wpPost, wpPoly, Int.reduceToNat, Int.reducePow, Int.reduceMul, Int.reduceAdd, Int.reduceSub, Int.reduceNeg, Nat.reduceAdd, Nat.reduceMul, Nat.reducePow, Int.reduceLT, Int.reduceLE, Int.reduceEq, Nat.reduceEqDiff, eqs_nco, g4, g3, g2, g1]
        refine ACallsK.eq (d1 _) ?_
        simp -implicitDefEqProofs (disch := first | assumption | decide | omega | (simp only [wpD1] <;> omega) | (simp only [wpD2] <;> assumption) | solve_by_elim [HSub.refl, HSub.push, HSub.reserve] | fail) only [↓wpPre, wpPost, wpPoly, Int.reduceToNat, Int.reducePow, Int.reduceMul, Int.reduceAdd, Int.reduceSub, Int.reduceNeg, Nat.reduceAdd, Nat.reduceMul, Nat.reducePow, Int.reduceLT, Int.reduceLE, Int.reduceEq, Nat.reduceEqDiff]
        refine ACallsK.eq (d2 _) ?_
        simp -implicitDefEqProofs (disch := first | assumption | decide | omega | (simp only [wpD1] <;> omega) | (simp only [wpD2] <;> assumption) | solve_by_elim [HSub.refl, HSub.push, HSub.reserve] | fail) only [↓wpPre, wpPost, wpPoly, Int.reduceToNat, Int.reducePow, Int.reduceMul, Int.reduceAdd, Int.reduceSub, Int.reduceNeg, Nat.reduceAdd, Nat.reduceMul, Nat.reducePow, Int.reduceLT, Int.reduceLE, Int.reduceEq, Nat.reduceEqDiff]
        refine ACallsK.eq sp1 ?_
        simp -implicitDefEqProofs (disch := first | assumption | decide | omega | (simp only [wpD1] <;> omega) | (simp only [wpD2] <;> assumption) | solve_by_elim [HSub.refl, HSub.push, HSub.reserve] | fail) only [↓wpPre, wpPost, wpPoly, Int.reduceToNat, Int.reducePow, Int.reduceMul, Int.reduceAdd, Int.reduceSub, Int.reduceNeg, Nat.reduceAdd, Nat.reduceMul, Nat.reducePow, Int.reduceLT, Int.reduceLE, Int.reduceEq, Nat.reduceEqDiff]
        refine ACallsK.eq sp2 ?_
        simp -implicitDefEqProofs (disch := first | assumption | decide | omega | (simp only [wpD1] <;> omega) | (simp only [wpD2] <;> assumption) | solve_by_elim [HSub.refl, HSub.push, HSub.reserve] | fail) only [↓wpPre, wpPost, wpPoly, Int.reduceToNat, Int.reducePow, Int.reduceMul, Int.reduceAdd, Int.reduceSub, Int.reduceNeg, Nat.reduceAdd, Nat.reduceMul, Nat.reducePow, Int.reduceLT, Int.reduceLE, Int.reduceEq, Nat.reduceEqDiff]
        refine ACallsK.eq (awake11_spec (hC.sub (T' := T116) (by decide))) ?_
        simp -implicitDefEqProofs (disch := first | assumption | decide | omega | (simp only [wpD1] <;> omega) | (simp only [wpD2] <;> assumption) | solve_by_elim [HSub.refl, HSub.push, HSub.reserve] | fail) only [↓wpPre, wpPost, wpPoly, Int.reduceToNat, Int.reducePow, Int.reduceMul, Int.reduceAdd, Int.reduceSub, Int.reduceNeg, Nat.reduceAdd, Nat.reduceMul, Nat.reducePow, Int.reduceLT, Int.reduceLE, Int.reduceEq, Nat.reduceEqDiff]
end
end Go.Ae

/- Grow and Concat of Go's slices package, on numbers. -/
set_option linter.unusedSimpArgs false
set_option linter.unusedVariables false
namespace Go.Ae

def appMA (nid : Option Nat) (z : List AV) (bytes : Nat) (h : Heap) (s : AV) : AV → Option (AV × Heap)
  | .int _ m => if 0 ≤ m ∧ m ≤ 2 ^ 36 then appendA h nid z.length bytes s m.toNat (zerosA m.toNat z) else none
  | _ => none
theorem opR_appendMake {nid : Option Nat} {ev : AOpd → AV} {h : Heap} {K : AV → Heap → Prop} {z bytes s x} : @opR nid (.appendMake z bytes s x) ev h ⟨K⟩ = @opt2 (appMA nid z bytes h (ev s) (ev x)) ⟨K⟩ := by
  simp only [opR, aOp, opt2]
  cases ev x <;> simp only [appMA]
  rename_i k m
  by_cases c : 0 ≤ m ∧ m ≤ 2 ^ 36
  · simp only [if_pos c]
    cases appendA h nid z.length bytes (ev s) m.toNat (zerosA m.toNat z) <;> rfl
  · simp only [if_neg c]
theorem appMA_int {nid z bytes h s} {k : IntKind} {m : Int} (c : 0 ≤ m ∧ m ≤ 68719476736) : appMA nid z bytes h s (.int k m) = appendA h nid z.length bytes s m.toNat (zerosA m.toNat z) := by
  simp only [appMA]; rw [if_pos (by omega)]
def slB (n i : Nat) : Option ABlk → Option AV
  | some (.cells vs true 1) => if n ≤ vs.length then some (.slice i 0 0 (.unk 0)) else none
  | _ => none
theorem slice_unk0 {h : Heap} {i n : Nat} {vs : List AV} (hg : h.get i = some (.cells vs true 1)) (hn : n ≤ vs.length) : sliceA h 1 (.slice i 0 n (.unk 0)) none (some (.int .i64 0)) none = some (.slice i 0 0 (.unk 0)) := by
  simp only [sliceA, hg]
  rw [if_pos ⟨trivial, by simp, by omega⟩]
  rw [bounds_ok (a := 0) (b := 0) (c := n) rfl rfl rfl (by omega)]
  simp
section
variable {C : Ctx}
theorem Grow_spec (hC : Has C T56) {n : Nat} {h : Heap} (hn : 1 ≤ n ∧ n ≤ 1073741824) : ACalls C 56 [.nilslice, .int .i64 n] h (fun r h' => GrwI h h' r []) := by
  have es : sliceA (h.push (.cells (List.replicate n (.int .i64 0)) true 1)) 1 (.slice h.size 0 n (.unk 0)) none (some (.int .i64 0)) none = some (.slice h.size 0 0 (.unk 0)) := slice_unk0 (get_push_eq rfl) (by simp)
  (refine calls_intro (hC.body (by decide) tab56) (Nat.le_of_ble_eq_true rfl) ?_); (show wp C _ none B56.code _ _); (simp only [B56]); simp -implicitDefEqProofs (disch := first | assumption | decide | omega | (simp only [wpD1] <;> omega) | (simp only [wpD2] <;> assumption) | solve_by_elim [HSub.refl, HSub.push, HSub.reserve] | fail) only [↓wpPre, wpPost, wpPoly, Int.reduceToNat, Int.reducePow, Int.reduceMul, Int.reduceAdd, Int.reduceSub, Int.reduceNeg, Nat.reduceAdd, Nat.reduceMul, Nat.reducePow, Int.reduceLT, Int.reduceLE, Int.reduceEq, Nat.reduceEqDiff, show capA .nilslice = some (.int .i64 0) from rfl, show sliceA h 1 .nilslice none (some (.int .i64 0)) none = some .nilslice from rfl, opR_appendMake, appMA_int, Int.sub_zero, es]
  exact ⟨HSub.push1 _ _, by simp [ints], by simp, .inr ⟨h.size, List.replicate n (.int .i64 0), Nat.le_refl _, rfl, by rw [get_push_eq rfl]; simp [ints]⟩⟩

def flatP (ps : List (AV × List Int)) : List Int := (ps.map (·.2)).flatten
theorem flatP_succ {ps : List (AV × List Int)} {i : Nat} (h : i < ps.length) : flatP (ps.take (i + 1)) = flatP (ps.take i) ++ (ps.getD i default).2 := by
  unfold flatP
  rw [List.take_add_one, List.getElem?_eq_getElem h, Option.toList_some, List.map_append, List.flatten_append, List.getD_eq_getElem?_getD, List.getElem?_eq_getElem h]
  simp
theorem flatP_le {ps : List (AV × List Int)} (i : Nat) : (flatP (ps.take i)).length ≤ (flatP ps).length := by
  have : flatP ps = flatP (ps.take i) ++ flatP (ps.drop i) := by
    unfold flatP; rw [← List.flatten_append, ← List.map_append, List.take_append_drop]
  rw [this, List.length_append]; omega
theorem Concat_spec (hC : Has C T47) {ps : List (AV × List Int)} {j u : Nat} {wr : Bool} {c : Cap} {h : Heap} (hg : h.get j = some (.cells (ps.map (·.1)) wr u)) (hp : ∀ p ∈ ps, RI h p.1 p.2 ∧ 1 ≤ p.2.length) (hl : 1 ≤ ps.length ∧ ps.length ≤ 1000000) (hb : (flatP ps).length ≤ 1073741824) :
    ACalls C 47 [.slice j 0 ps.length c] h (fun r h' => GrwI h h' r (flatP ps)) := by
  have gp : ∀ i, i < ps.length → ps.getD i default ∈ ps := fun i hi => by rw [List.getD_eq_getElem?_getD, List.getElem?_eq_getElem hi]; exact List.getElem_mem hi
  have gi : ∀ i, i < ps.length → (ps.map (·.1))[i]? = some (ps.getD i default).1 := fun i hi => by simp [hi]
  have hj := Heap.lt_of_get hg
  have hpos : 1 ≤ (flatP ps).length := by
    have h1 := flatP_succ (ps := ps) (i := 0) (by omega)
    have h2 := flatP_le (ps := ps) 1
    have h3 := (hp _ (gp 0 (by omega))).2
    rw [h1, List.length_append] at h2; omega
  (refine calls_intro (hC.body (by decide) tab47) (Nat.le_of_ble_eq_true rfl) ?_); (show wp C _ none B47.code _ _); (simp only [B47]); simp -implicitDefEqProofs (disch := first | assumption | decide | omega | (simp only [wpD1] <;> omega) | (simp only [wpD2] <;> assumption) | solve_by_elim [HSub.refl, HSub.push, HSub.reserve] | fail) only [↓wpPre, wpPost, wpPoly, Int.reduceToNat, Int.reducePow, Int.reduceMul, Int.reduceAdd, Int.reduceSub, Int.reduceNeg, Nat.reduceAdd, Nat.reduceMul, Nat.reducePow, Int.reduceLT, Int.reduceLE, Int.reduceEq, Nat.reduceEqDiff]
  refine wp_loopI (fun m t h' => h' = h ∧ t 0 = .slice j 0 ps.length c ∧ t 9 = .slice j 0 ps.length c ∧ t 10 = .int .i64 ps.length ∧ ∃ i : Nat, t 3 = .int .i64 (flatP (ps.take i)).length ∧ t 11 = .int .i64 (i : Nat) ∧ i ≤ ps.length ∧ m = ps.length - i) (j0 := ps.length) ⟨rfl, rfl, rfl, rfl, 0, by simp [flatP, argT, upd], rfl, by omega, rfl⟩ ?_
  rintro m t h' ⟨hh, e0, e9, e10, i, e3, e11, hi, hm⟩
  subst hh
  simp -implicitDefEqProofs (disch := first | assumption | decide | omega | (simp only [wpD1] <;> omega) | (simp only [wpD2] <;> assumption) | solve_by_elim [HSub.refl, HSub.push, HSub.reserve] | fail) only [↓wpPre, wpPost, wpPoly, Int.reduceToNat, Int.reducePow, Int.reduceMul, Int.reduceAdd, Int.reduceSub, Int.reduceNeg, Nat.reduceAdd, Nat.reduceMul, Nat.reducePow, Int.reduceLT, Int.reduceLE, Int.reduceEq, Nat.reduceEqDiff, e10, e11]
  refine Br.by (fun c1 => ?_) (fun c1 => ?_)
  · have hi' : i < ps.length := by omega
    have H := hp _ (gp i hi')
    have hs := flatP_succ hi'
    have hle := flatP_le (ps := ps) (i + 1)
    rw [hs, List.length_append] at hle
    simp -implicitDefEqProofs (disch := first | assumption | decide | omega | (simp only [wpD1] <;> omega) | (simp only [wpD2] <;> assumption) | solve_by_elim [HSub.refl, HSub.push, HSub.reserve] | fail) only [↓wpPre, wpPost, wpPoly, Int.reduceToNat, Int.reducePow, Int.reduceMul, Int.reduceAdd, Int.reduceSub, Int.reduceNeg, Nat.reduceAdd, Nat.reduceMul, Nat.reducePow, Int.reduceLT, Int.reduceLE, Int.reduceEq, Nat.reduceEqDiff, e9, e11, hg, gi, H.1.len, e3]
    simp -implicitDefEqProofs (disch := first | assumption | decide | omega | (simp only [wpD1] <;> omega) | (simp only [wpD2] <;> assumption) | solve_by_elim [HSub.refl, HSub.push, HSub.reserve] | fail) only [↓wpPre, wpPost, wpPoly, Int.reduceToNat, Int.reducePow, Int.reduceMul, Int.reduceAdd, Int.reduceSub, Int.reduceNeg, Nat.reduceAdd, Nat.reduceMul, Nat.reducePow, Int.reduceLT, Int.reduceLE, Int.reduceEq, Nat.reduceEqDiff, e0, e9, e10, e11]
    refine ⟨_, ⟨i + 1, by rw [hs, List.length_append]; simp, by simp, by omega, rfl⟩, by omega⟩
  · have : i = ps.length := by omega
    subst this
    rw [List.take_length] at e3
    simp -implicitDefEqProofs (disch := first | assumption | decide | omega | (simp only [wpD1] <;> omega) | (simp only [wpD2] <;> assumption) | solve_by_elim [HSub.refl, HSub.push, HSub.reserve] | fail) only [↓wpPre, wpPost, wpPoly, Int.reduceToNat, Int.reducePow, Int.reduceMul, Int.reduceAdd, Int.reduceSub, Int.reduceNeg, Nat.reduceAdd, Nat.reduceMul, Nat.reducePow, Int.reduceLT, Int.reduceLE, Int.reduceEq, Nat.reduceEqDiff, e3]
    refine ACallsK.of (Grow_spec (hC.sub (T' := T56) (by decide)) ⟨hpos, hb⟩) ?_
    rintro r h1 A
    simp -implicitDefEqProofs (disch := first | assumption | decide | omega | (simp only [wpD1] <;> omega) | (simp only [wpD2] <;> assumption) | solve_by_elim [HSub.refl, HSub.push, HSub.reserve] | fail) only [↓wpPre, wpPost, wpPoly, Int.reduceToNat, Int.reducePow, Int.reduceMul, Int.reduceAdd, Int.reduceSub, Int.reduceNeg, Nat.reduceAdd, Nat.reduceMul, Nat.reducePow, Int.reduceLT, Int.reduceLE, Int.reduceEq, Nat.reduceEqDiff, e0]
    refine wp_loopI (fun m t hx => t 25 = .slice j 0 ps.length c ∧ t 26 = .int .i64 ps.length ∧ ∃ (i : Nat), GrwI h' hx (t 6) (flatP (ps.take i)) ∧ t 27 = .int .i64 (i : Nat) ∧ i ≤ ps.length ∧ m = ps.length - i) (j0 := ps.length) ⟨rfl, rfl, 0, A, rfl, by omega, rfl⟩ ?_
    rintro m t h2 ⟨e25, e26, i, A2, e27, hi, hm⟩
    simp -implicitDefEqProofs (disch := first | assumption | decide | omega | (simp only [wpD1] <;> omega) | (simp only [wpD2] <;> assumption) | solve_by_elim [HSub.refl, HSub.push, HSub.reserve] | fail) only [↓wpPre, wpPost, wpPoly, Int.reduceToNat, Int.reducePow, Int.reduceMul, Int.reduceAdd, Int.reduceSub, Int.reduceNeg, Nat.reduceAdd, Nat.reduceMul, Nat.reducePow, Int.reduceLT, Int.reduceLE, Int.reduceEq, Nat.reduceEqDiff, e26, e27]
    refine Br.by (fun c1 => ?_) (fun c1 => ?_)
    · have hi' : i < ps.length := by omega
      have H := hp _ (gp i hi')
      have hs := flatP_succ hi'
      have hle := flatP_le (ps := ps) (i + 1)
      rw [hs, List.length_append] at hle
      have hc := (H.1.mono A2.sub).content
      have hg2 := (A2.sub.get j hj).trans hg
      have ha := Grw.app (bytes := 8) (m := (ps.getD i default).2.length) (news := ints (ps.getD i default).2) A2 (HSub.refl _) (by omega) (by omega) ints_one
      simp -implicitDefEqProofs (disch := first | assumption | decide | omega | (simp only [wpD1] <;> omega) | (simp only [wpD2] <;> assumption) | solve_by_elim [HSub.refl, HSub.push, HSub.reserve] | fail) only [↓wpPre, wpPost, wpPoly, Int.reduceToNat, Int.reducePow, Int.reduceMul, Int.reduceAdd, Int.reduceSub, Int.reduceNeg, Nat.reduceAdd, Nat.reduceMul, Nat.reducePow, Int.reduceLT, Int.reduceLE, Int.reduceEq, Nat.reduceEqDiff, e25, e26, e27, hg2, gi, hc, ha]
      have hsn := Grw.snoc (m := (ps.getD i default).2.length) (news := ints (ps.getD i default).2) A2 (HSub.refl _) (by simp [ints]) (by omega)
      rw [ints_append, ← hs] at hsn
      rw [ints_append, ← hs]
      refine ⟨_, ⟨i + 1, ?_, by simp, by omega, rfl⟩, by omega⟩
      unfold GrwI
      rw [hs, List.length_append, ← hs]; exact hsn
    · have : i = ps.length := by omega
      subst this
      rw [List.take_length] at A2
      simp -implicitDefEqProofs (disch := first | assumption | decide | omega | (simp only [wpD1] <;> omega) | (simp only [wpD2] <;> assumption) | solve_by_elim [HSub.refl, HSub.push, HSub.reserve] | fail) only [↓wpPre, wpPost, wpPoly, Int.reduceToNat, Int.reducePow, Int.reduceMul, Int.reduceAdd, Int.reduceSub, Int.reduceNeg, Nat.reduceAdd, Nat.reduceMul, Nat.reducePow, Int.reduceLT, Int.reduceLE, Int.reduceEq, Nat.reduceEqDiff]
      exact A2
end
end Go.Ae

/- Two lists that grow side by side. -/
set_option linter.unusedSimpArgs false
set_option linter.unusedVariables false
namespace Go.Ae
def Dj (v w : AV) : Prop := ∀ i, i ∈ v.ids → i ∉ w.ids
theorem Dj.nilL {w : AV} : Dj .nilslice w := fun i hi => by simp [AV.ids] at hi
theorem Dj.nilR {v : AV} : Dj v .nilslice := fun i _ => by simp [AV.ids]
theorem Dj.symm {v w : AV} (h : Dj v w) : Dj w v := fun i hi hv => h i hv hi
section
variable {h0 h H : Heap} {sz sz' n m k k' : Nat} {v w : AV} {cs ds es : List AV} {c : Cap} {x : Int} {l l' : List Int}
theorem Grw.dj (B : Grw h0 h sz w n ds) (hk : h.size ≤ k) : Dj w (.slice k 0 k' c) := by
  obtain ⟨_, _, _, ⟨rfl, rfl⟩ | ⟨i, ex, hi, rfl, hg⟩⟩ := B
  · exact Dj.nilL
  · intro j hj
    have := Heap.lt_of_get hg
    simp only [AV.ids, List.mem_singleton] at hj ⊢
    omega
theorem Grw.keep (A : Grw h0 h sz' v m es) (B : Grw h0 h sz w n ds) (hs : HSub h H) (hd : Dj w v) : Grw h0 (snocH H none v sz' cs) sz w n ds := by
  have hsub : HSub h0 (snocH H none v sz' cs) := by
    obtain ⟨h1, _, _, ⟨rfl, rfl⟩ | ⟨i, ex, hi, rfl, hg⟩⟩ := A
    · exact (h1.trans hs).push _
    · exact ((h1.trans hs).put hi _).push _
  obtain ⟨h1, hl, hn, ⟨rfl, rfl⟩ | ⟨i, ex, hi, rfl, hg⟩⟩ := B
  · exact ⟨hsub, hl, hn, .inl ⟨rfl, rfl⟩⟩
  · refine ⟨hsub, hl, hn, .inr ⟨i, ex, hi, rfl, ?_⟩⟩
    have hlt := Heap.lt_of_get hg
    have hsz := hs.size
    have hH := (hs.get i hlt).trans hg
    obtain ⟨_, _, _, ⟨rfl, rfl⟩ | ⟨j, ex', hj, rfl, hg'⟩⟩ := A
    · exact (get_push_lt (by omega)).trans hH
    · have hne : i ≠ j := fun e => hd i (by simp [AV.ids]) (by simp [AV.ids, e])
      exact (get_push_lt (by simp only [Heap.size_put]; omega)).trans ((get_put_ne hne).trans hH)
theorem Grw.keepS (A : Grw h0 h sz' v m es) (B : Grw h0 h sz w n ds) (hs : HSub h H) (hk : h.size ≤ k ∧ k < H.size) (hd : Dj w v) : Grw h0 (snocH H (some k) v sz' cs) sz w n ds := by
  have hsub : HSub h0 (snocH H (some k) v sz' cs) := by
    have := A.sub.size
    obtain ⟨h1, _, _, ⟨rfl, rfl⟩ | ⟨i, ex, hi, rfl, hg⟩⟩ := A
    · exact (h1.trans hs).put (by omega) _
    · exact ((h1.trans hs).put hi _).put (by omega) _
  obtain ⟨h1, hl, hn, ⟨rfl, rfl⟩ | ⟨i, ex, hi, rfl, hg⟩⟩ := B
  · exact ⟨hsub, hl, hn, .inl ⟨rfl, rfl⟩⟩
  · refine ⟨hsub, hl, hn, .inr ⟨i, ex, hi, rfl, ?_⟩⟩
    have hlt := Heap.lt_of_get hg
    have hH := (hs.get i hlt).trans hg
    obtain ⟨_, _, _, ⟨rfl, rfl⟩ | ⟨j, ex', hj, rfl, hg'⟩⟩ := A
    · exact (get_put_ne (by omega)).trans hH
    · have hne : i ≠ j := fun e => hd i (by simp [AV.ids]) (by simp [AV.ids, e])
      exact (get_put_ne (by omega)).trans ((get_put_ne hne).trans hH)
theorem GrwI.keep (A : GrwI h0 h v l) (B : GrwI h0 h w l') (hs : HSub h H) (hd : Dj w v) : GrwI h0 (snocH H none v 1 (ints (l ++ [x]))) w l' := Grw.keep A B hs hd
theorem GrwI.keepS (A : GrwI h0 h v l) (B : GrwI h0 h w l') (hs : HSub h H) (hk : h.size ≤ k ∧ k < H.size) (hd : Dj w v) : GrwI h0 (snocH H (some k) v 1 (ints (l ++ [x]))) w l' := Grw.keepS A B hs hk hd
theorem GrwI.dj (B : GrwI h0 h w l) (hk : h.size ≤ k) : Dj w (.slice k 0 k' c) := Grw.dj B hk
/-- The heap behind an append holds what was there when the list began. -/
theorem GrwI.snocSub (A : GrwI h0 h v l) (hs : HSub h H) : HSub h0 (snocH H none v 1 (ints (l ++ [x]))) := (Grw.keep A (w := .nilslice) (n := 0) (ds := []) (sz := 1) ⟨A.1, rfl, by omega, .inl ⟨rfl, rfl⟩⟩ hs Dj.nilL).1
theorem snocH_get (e : k = H.size) : (snocH H none v sz cs).get k = some (.cells cs true sz) := by
  subst e
  unfold snocH
  cases v <;> exact get_push_eq rfl
theorem snocH_size {nid : Option Nat} : (snocH H nid v sz cs).size = H.size + if nid.isNone then 1 else 0 := by
  unfold snocH
  cases v <;> cases nid <;> rfl
end
end Go.Ae

/- Lists that grow in a region that draws its order, several at once. -/
set_option linter.unusedSimpArgs false
set_option linter.unusedVariables false
namespace Go.Ae
section
variable {h0 h H : Heap} {sz bytes n m k j x y : Nat} {v : AV} {cs news : List AV} {l : List (Int × Int)} {li : List Int}
theorem Grw.ids_lt (A : Grw h0 h sz v n cs) : ∀ i ∈ v.ids, h0.size ≤ i ∧ i < h.size := by
  obtain ⟨_, _, _, ⟨rfl, rfl⟩ | ⟨i, ex, hi, rfl, hg⟩⟩ := A
  · intro i hi; simp [AV.ids] at hi
  · intro j hj
    simp only [AV.ids, List.mem_singleton] at hj
    subst hj
    exact ⟨hi, Heap.lt_of_get hg⟩
theorem Grw.noneApp (A : Grw h0 h sz v n cs) (hx : h.size ≤ x) (hy : x ≠ y) : NoneIn [x] (v.ids ++ [y]) := by
  intro a ha hb
  simp only [List.mem_singleton] at ha
  subst ha
  rcases List.mem_append.1 hb with q | q
  · have := (A.ids_lt _ q).2; omega
  · simp only [List.mem_singleton] at q; exact hy q
theorem Grw.appG (A : Grw h0 h sz v n cs) (hg : ∀ i ∈ v.ids, H.get i = h.get i) (hk : h.size ≤ k ∧ k < H.size) (hm : m ≠ 0) (hb : (n + m) * bytes ≤ 1099511627776) (h1 : news.all AV.one = true) :
    appendA H (some k) sz bytes v m news = appK k H v (.slice k 0 (n + m) (.unk 0)) sz (cs ++ news) (H.get k) := by
  obtain ⟨_, hl, hn, ⟨rfl, rfl⟩ | ⟨i, ex, hi, rfl, hgi⟩⟩ := A
  · have : cs = [] := List.eq_nil_of_length_eq_zero (by omega)
    subst this
    exact Grw.appS (h0 := Heap.empty) (h := Heap.empty) (cs := []) (n := 0) ⟨HSub.refl _, by simp, by omega, .inl ⟨rfl, rfl⟩⟩ ⟨Nat.zero_le _, fun i hi => absurd hi (Nat.not_lt_zero i)⟩ ⟨Nat.zero_le _, hk.2⟩ hm hb h1
  · have e0 := (hg i (by simp [AV.ids])).trans hgi
    have hlt := Heap.lt_of_get hgi
    have hr : H.room (some k) = ((H.get k).isNone && decide (k < H.size)) := rfl
    simp only [appendA, e0]
    by_cases e : (H.get k).isNone = true
    · have e' : H.get k = none := by simpa using e
      rw [if_pos ⟨trivial, by omega, by rw [List.length_append]; omega, h1, hb, by rw [hr, e]; simpa using hk.2, by omega⟩, cut_pre hl]
      exact (congrArg (appK k H (.slice i 0 n (.unk 0)) (.slice k 0 (n + m) (.unk 0)) sz (cs ++ news)) e').symm
    · rw [if_neg (by rw [hr]; simp [e]), if_neg (by omega)]
      obtain ⟨b, e'⟩ : ∃ b, H.get k = some b := by cases x : H.get k with | none => simp [x] at e | some b => exact ⟨b, rfl⟩
      exact (congrArg (appK k H (.slice i 0 n (.unk 0)) (.slice k 0 (n + m) (.unk 0)) sz (cs ++ news)) e').symm
theorem snocS_size : (snocH H (some k) v sz cs).size = H.size := by unfold snocH; cases v <;> rfl
theorem snocS_same (hk : k < H.size) : (snocH H (some k) v sz cs).get k = some (.cells cs true sz) := by
  unfold snocH
  cases v <;> exact get_put_eq rfl (by simpa using hk)
theorem snocS_ne (hk : j ≠ k) (hv : j ∉ v.ids) : (snocH H (some k) v sz cs).get j = H.get j := by
  unfold snocH
  cases v
  case slice i o n c => exact (get_put_ne hk).trans (get_put_ne (fun e => hv (by simp [AV.ids, e])))
  all_goals exact get_put_ne hk
theorem snocS_sub {hB : Heap} (A : Grw hB h sz v n cs) {ds : List AV} (hs : HSub hB H) (hk : hB.size ≤ k) : HSub hB (snocH H (some k) v sz ds) := by
  obtain ⟨_, _, _, ⟨rfl, rfl⟩ | ⟨i, ex, hi, rfl, hg⟩⟩ := A
  · exact hs.put hk _
  · exact (hs.put hi _).put hk _
theorem GrwS.appG {a b : Int} (A : GrwS h0 h v l) (hg : ∀ i ∈ v.ids, H.get i = h.get i) (hk : h.size ≤ k ∧ k < H.size) (hb : l.length + 1 ≤ 1073741824) : appendA H (some k) 2 16 v 1 [.int .i64 a, .int .i64 b] = appK k H v (.slice k 0 (l.length + 1) (.unk 0)) 2 (smps (l ++ [(a, b)])) (H.get k) := by
  rw [Grw.appG A hg hk (by decide) (by omega) (by rfl), smps_snoc]
theorem GrwS.mk {K : Nat} (hs : HSub h0 h) (hk : h0.size ≤ k) (hl : K = l.length ∧ l.length < 9223372036854775808) (hg : h.get k = some (.cells (smps l) true 2)) : GrwS h0 h (.slice k 0 K (.unk 0)) l := by
  obtain ⟨rfl, hl⟩ := hl
  exact ⟨hs, smps_length, hl, .inr ⟨k, [], hk, rfl, by rw [List.append_nil]; exact hg⟩⟩
theorem opt2.hideApp {nid : Option Nat} {K : HoldR} (q : ∀ S, S = H → @opt2 (appendA S nid sz bytes v m news) K) : @opt2 (appendA H nid sz bytes v m news) K := q H rfl
theorem dj_slice {i j a b : Nat} {c d : Cap} (h : i ≠ j) : Dj (.slice i 0 a c) (.slice j 0 b d) := fun x hx hy => by
  simp only [AV.ids, List.mem_singleton] at hx hy
  omega
theorem Dj.not {v w : AV} (h : Dj v w) {i : Nat} (hi : i ∈ w.ids) : i ∉ v.ids := fun hv => h i hv hi
end
end Go.Ae

/- The statement on mixes of sums of layer 11. -/
set_option linter.unusedSimpArgs false
set_option linter.unusedVariables false
namespace Go.Ae
/-- The complex integer that a number selects. -/
def selP (x : Int) : Int × Int := (x % 20001 - 10000, x.tdiv 20001 % 20001 - 10000)
theorem selP_le (x : Int) : (-10000 ≤ (selP x).1 ∧ (selP x).1 ≤ 10000) ∧ (-10000 ≤ (selP x).2 ∧ (selP x).2 ≤ 10000) := by
  have h1 := Int.emod_nonneg x (show (20001 : Int) ≠ 0 by decide)
  have h2 := Int.emod_lt_of_pos x (show (0 : Int) < 20001 by decide)
  have h3 := Int.emod_nonneg (x.tdiv 20001) (show (20001 : Int) ≠ 0 by decide)
  have h4 := Int.emod_lt_of_pos (x.tdiv 20001) (show (0 : Int) < 20001 by decide)
  unfold selP
  simp only
  omega
def selPL (l : List Int) (n : Nat) : List (Int × Int) := (List.range n).map fun i => selP (l.getD i 0)
theorem selPL_length (l : List Int) (n : Nat) : (selPL l n).length = n := by simp [selPL]
theorem selPL_succ (l : List Int) (n : Nat) : selPL l (n + 1) = selPL l n ++ [selP (l.getD n 0)] := by simp [selPL, List.range_succ]
theorem selPL_get (l : List Int) {n k : Nat} (h : k < n) : (selPL l n).getD k (0, 0) = selP (l.getD k 0) := by simp [selPL, h]
/-- A sum of a complex integer and a multiple of another. -/
def lin (f : Int) (x y : Int × Int) : Int × Int := (x.1 + f * y.1, x.2 + f * y.2)
def linL (f : Int) (l m : List Int) (n : Nat) : List (Int × Int) := (List.range n).map fun i => lin f (selP (l.getD i 0)) (selP (m.getD i 0))
theorem linL_length (f : Int) (l m : List Int) (n : Nat) : (linL f l m n).length = n := by simp [linL]
theorem linL_succ (f : Int) (l m : List Int) (n : Nat) : linL f l m (n + 1) = linL f l m n ++ [lin f (selP (l.getD n 0)) (selP (m.getD n 0))] := by simp [linL, List.range_succ]
theorem linL_get (f : Int) (l m : List Int) {n k : Nat} (h : k < n) : (linL f l m n).getD k (0, 0) = lin f (selP (l.getD k 0)) (selP (m.getD k 0)) := by simp [linL, h]
theorem mix_lin (f : Int) (x y t : Int × Int) : mixP (lin f x y) t = lin f (mixP x t) (mixP y t) := by
  unfold mixP lin
  ext <;> grind
theorem f9 {f y B : Int} (hf : -9 ≤ f ∧ f ≤ 9) (hB : 0 ≤ B) (hy : -B ≤ y ∧ y ≤ B) : -(9 * B) ≤ f * y ∧ f * y ≤ 9 * B := by
  have h : f = -9 ∨ f = -8 ∨ f = -7 ∨ f = -6 ∨ f = -5 ∨ f = -4 ∨ f = -3 ∨ f = -2 ∨ f = -1 ∨ f = 0 ∨ f = 1 ∨ f = 2 ∨ f = 3 ∨ f = 4 ∨ f = 5 ∨ f = 6 ∨ f = 7 ∨ f = 8 ∨ f = 9 := by omega
  rcases h with h | h | h | h | h | h | h | h | h | h | h | h | h | h | h | h | h | h | h <;> subst h <;> omega
theorem all_small {n : Nat} {g : Nat → Int × Int} (h : ∀ i, i < n → smallP (g i)) : ∀ x ∈ (List.range n).map g, smallP x := by
  intro x hx
  obtain ⟨i, hi, rfl⟩ := List.mem_map.1 hx
  exact h i (by simpa using hi)
theorem tdiv_in {x : Int} (h : In64 x) : -9223372036854775808 ≤ x.tdiv 20001 ∧ x.tdiv 20001 ≤ 9223372036854775807 := by
  unfold In64 at h
  rcases Int.le_total 0 x with q | q
  · rw [Int.tdiv_eq_ediv_of_nonneg q]; omega
  · have := Int.neg_tdiv (a := x) (b := 20001)
    rw [Int.tdiv_eq_ediv_of_nonneg (show 0 ≤ -x by omega)] at this
    omega
section
variable {C : Ctx}
set_option maxHeartbeats 4000000 in
set_option maxRecDepth 20000 in
theorem NcoLinear_law (hC : Has C T109) {a s f0 : Int} {vl vm : AV} {l m : List Int} {h : Heap} (ha : U32 a) (_hs : U32 s) (hl : RI h vl l) (hm : RI h vm m) (hf0 : In64 f0) (hx : ∀ x ∈ l, In64 x) (hy : ∀ x ∈ m, In64 x) :
    ACalls C 109 [.agg [.int .u32 a, .int .u32 s], vl, vm, .int .i64 f0] h (fun r _ => r = .bool true) := by
  have hlt := hl.lt
  have hmt := hm.lt
  by_cases c1 : 40 < l.length
  · (refine calls_intro (hC.body (by decide) tab109) (Nat.le_of_ble_eq_true rfl) ?_); (show wp C _ none B109.code _ _); (simp only [B109]); simp -implicitDefEqProofs (disch := first | assumption | decide | omega | (simp only [wpD1] <;> omega) | (simp only [wpD2] <;> assumption) | solve_by_elim [HSub.refl, HSub.push, HSub.reserve] | fail) only [↓wpPre, wpPost, wpPoly, Int.reduceToNat, Int.reducePow, Int.reduceMul, Int.reduceAdd, Int.reduceSub, Int.reduceNeg, Nat.reduceAdd, Nat.reduceMul, Nat.reducePow, Int.reduceLT, Int.reduceLE, Int.reduceEq, Nat.reduceEqDiff]
    refine ACallsK.eq (known11_spec (hC.sub (T' := T108) (by decide))) ?_
    simp -implicitDefEqProofs (disch := first | assumption | decide | omega | (simp only [wpD1] <;> omega) | (simp only [wpD2] <;> assumption) | solve_by_elim [HSub.refl, HSub.push, HSub.reserve] | fail) only [↓wpPre, wpPost, wpPoly, Int.reduceToNat, Int.reducePow, Int.reduceMul, Int.reduceAdd, Int.reduceSub, Int.reduceNeg, Nat.reduceAdd, Nat.reduceMul, Nat.reducePow, Int.reduceLT, Int.reduceLE, Int.reduceEq, Nat.reduceEqDiff, hl.len]
  by_cases c2 : 40 < m.length
  · (refine calls_intro (hC.body (by decide) tab109) (Nat.le_of_ble_eq_true rfl) ?_); (show wp C _ none B109.code _ _); (simp only [B109]); simp -implicitDefEqProofs (disch := first | assumption | decide | omega | (simp only [wpD1] <;> omega) | (simp only [wpD2] <;> assumption) | solve_by_elim [HSub.refl, HSub.push, HSub.reserve] | fail) only [↓wpPre, wpPost, wpPoly, Int.reduceToNat, Int.reducePow, Int.reduceMul, Int.reduceAdd, Int.reduceSub, Int.reduceNeg, Nat.reduceAdd, Nat.reduceMul, Nat.reducePow, Int.reduceLT, Int.reduceLE, Int.reduceEq, Nat.reduceEqDiff]
    refine ACallsK.eq (known11_spec (hC.sub (T' := T108) (by decide))) ?_
    simp -implicitDefEqProofs (disch := first | assumption | decide | omega | (simp only [wpD1] <;> omega) | (simp only [wpD2] <;> assumption) | solve_by_elim [HSub.refl, HSub.push, HSub.reserve] | fail) only [↓wpPre, wpPost, wpPoly, Int.reduceToNat, Int.reducePow, Int.reduceMul, Int.reduceAdd, Int.reduceSub, Int.reduceNeg, Nat.reduceAdd, Nat.reduceMul, Nat.reducePow, Int.reduceLT, Int.reduceLE, Int.reduceEq, Nat.reduceEqDiff, hl.len, hm.len]
  obtain ⟨n, hn⟩ : ∃ n, n = min l.length m.length := ⟨_, rfl⟩
  have hn' : min (l.length : Int) (m.length : Int) = (n : Nat) := by omega
  have f1 := Int.emod_nonneg f0 (show (19 : Int) ≠ 0 by decide)
  have f2 := Int.emod_lt_of_pos f0 (show (0 : Int) < 19 by decide)
  obtain ⟨f, hf⟩ : ∃ f, f = f0 % 19 - 9 := ⟨_, rfl⟩
  have hfr : -9 ≤ f ∧ f ≤ 9 := by omega
  (refine calls_intro (hC.body (by decide) tab109) (Nat.le_of_ble_eq_true rfl) ?_); (show wp C _ none B109.code _ _); (simp only [B109]); simp -implicitDefEqProofs (disch := first | assumption | decide | omega | (simp only [wpD1] <;> omega) | (simp only [wpD2] <;> assumption) | solve_by_elim [HSub.refl, HSub.push, HSub.reserve] | fail) only [↓wpPre, wpPost, wpPoly, Int.reduceToNat, Int.reducePow, Int.reduceMul, Int.reduceAdd, Int.reduceSub, Int.reduceNeg, Nat.reduceAdd, Nat.reduceMul, Nat.reducePow, Int.reduceLT, Int.reduceLE, Int.reduceEq, Nat.reduceEqDiff]
  refine ACallsK.eq (known11_spec (hC.sub (T' := T108) (by decide))) ?_
  simp -implicitDefEqProofs (disch := first | assumption | decide | omega | (simp only [wpD1] <;> omega) | (simp only [wpD2] <;> assumption) | solve_by_elim [HSub.refl, HSub.push, HSub.reserve] | fail) only [↓wpPre, wpPost, wpPoly, Int.reduceToNat, Int.reducePow, Int.reduceMul, Int.reduceAdd, Int.reduceSub, Int.reduceNeg, Nat.reduceAdd, Nat.reduceMul, Nat.reducePow, Int.reduceLT, Int.reduceLE, Int.reduceEq, Nat.reduceEqDiff, hl.len, hm.len, hn']
  refine ACallsK.eq (Turn_spec (hC.sub (T' := T23) (by decide)) hf0 (by decide)) ?_
  simp -implicitDefEqProofs (disch := first | assumption | decide | omega | (simp only [wpD1] <;> omega) | (simp only [wpD2] <;> assumption) | solve_by_elim [HSub.refl, HSub.push, HSub.reserve] | fail) only [↓wpPre, wpPost, wpPoly, Int.reduceToNat, Int.reducePow, Int.reduceMul, Int.reduceAdd, Int.reduceSub, Int.reduceNeg, Nat.reduceAdd, Nat.reduceMul, Nat.reducePow, Int.reduceLT, Int.reduceLE, Int.reduceEq, Nat.reduceEqDiff, ← hf]
  refine wp_loopI (fun j t h' => ∃ k : Nat, GrwS (h.push (.cells [.int .u32 a, .int .u32 s] true 0)) h' (t 11) (selPL l k) ∧ GrwS (h.push (.cells [.int .u32 a, .int .u32 s] true 0)) h' (t 12) (selPL m k) ∧ GrwS (h.push (.cells [.int .u32 a, .int .u32 s] true 0)) h' (t 13) (linL f l m k) ∧
      Dj (t 11) (t 12) ∧ Dj (t 11) (t 13) ∧ Dj (t 12) (t 13) ∧ t 1 = vl ∧ t 2 = vm ∧ t 3 = .int .i64 f ∧ t 4 = .ptr h.size 0 ∧ t 9 = .bool true ∧ t 10 = .int .i64 (n : Nat) ∧ t 14 = .int .i64 (k : Nat) ∧ k ≤ n ∧ j = n - k) (j0 := n)
    ⟨0, GrwS.nil _, GrwS.nil _, GrwS.nil _, Dj.nilL, Dj.nilL, Dj.nilL, rfl, rfl, rfl, rfl, rfl, rfl, rfl, by omega, rfl⟩ ?_
  rintro j t h2 ⟨k, A1, A2, A3, d12, d13, d23, e1, e2, e3, e4, e9, e10, e14, hk, hj⟩
  have hsz := A1.sub.size
  simp only [Heap.size_push] at hsz
  simp -implicitDefEqProofs (disch := first | assumption | decide | omega | (simp only [wpD1] <;> omega) | (simp only [wpD2] <;> assumption) | solve_by_elim [HSub.refl, HSub.push, HSub.reserve] | fail) only [↓wpPre, wpPost, wpPoly, Int.reduceToNat, Int.reducePow, Int.reduceMul, Int.reduceAdd, Int.reduceSub, Int.reduceNeg, Nat.reduceAdd, Nat.reduceMul, Nat.reducePow, Int.reduceLT, Int.reduceLE, Int.reduceEq, Nat.reduceEqDiff, e10, e14]
  refine Br.by (fun c3 => ?_) (fun c3 => ?_)
  · have hk' : k < n := by omega
    have kl : k < l.length := by omega
    have km : k < m.length := by omega
    have L1 := (hl.mono ((HSub.push1 h (.cells [.int .u32 a, .int .u32 s] true 0)).trans A1.sub)).loadC
    have M1 := (hm.mono ((HSub.push1 h (.cells [.int .u32 a, .int .u32 s] true 0)).trans A1.sub)).loadC
    have hxk := hx _ (getD_mem kl)
    have hyk := hy _ (getD_mem km)
    have t1 : -9223372036854775808 ≤ (l.getD k 0).tdiv 20001 ∧ (l.getD k 0).tdiv 20001 ≤ 9223372036854775807 := tdiv_in hxk
    have t2 : -9223372036854775808 ≤ (m.getD k 0).tdiv 20001 ∧ (m.getD k 0).tdiv 20001 ≤ 9223372036854775807 := tdiv_in hyk
    have r1 := selP_le (l.getD k 0)
    have r2 := selP_le (m.getD k 0)
    have s1 := selPL_succ l k
    have s2 := selPL_succ m k
    have s3 := linL_succ f l m k
    have n1 := selPL_length l k
    have n2 := selPL_length m k
    have n3 := linL_length f l m k
    have q1 := f9 hfr (by decide) r2.1
    have q2 := f9 hfr (by decide) r2.2
    have p1 : (selP (l.getD k 0)).1 = l.getD k 0 % 20001 - 10000 := rfl
    have p2 : (selP (l.getD k 0)).2 = (l.getD k 0).tdiv 20001 % 20001 - 10000 := rfl
    have p3 : (selP (m.getD k 0)).1 = m.getD k 0 % 20001 - 10000 := rfl
    have p4 : (selP (m.getD k 0)).2 = (m.getD k 0).tdiv 20001 % 20001 - 10000 := rfl
    have T1 := fun h => Turn_spec (h := h) (hC.sub (T' := T23) (by decide)) hxk (n := 20001) (by decide)
    have T2 := fun h => Turn_spec (h := h) (hC.sub (T' := T23) (by decide)) (show In64 ((l.getD k 0).tdiv 20001) from t1) (n := 20001) (by decide)
    have T3 := fun h => Turn_spec (h := h) (hC.sub (T' := T23) (by decide)) hyk (n := 20001) (by decide)
    have T4 := fun h => Turn_spec (h := h) (hC.sub (T' := T23) (by decide)) (show In64 ((m.getD k 0).tdiv 20001) from t2) (n := 20001) (by decide)
    generalize selP (l.getD k 0) = x at *
    generalize selP (m.getD k 0) = y at *
    obtain ⟨xi, xq⟩ := x
    obtain ⟨yi, yq⟩ := y
    simp only at p1 p2 p3 p4 r1 r2 q1 q2
    have w1 : IntKind.i64.wrap (l.getD k 0 % 20001 - 10000) = xi := by rw [← p1]; exact w_i64 (by omega)
    have w2 : IntKind.i64.wrap ((l.getD k 0).tdiv 20001 % 20001 - 10000) = xq := by rw [← p2]; exact w_i64 (by omega)
    have w3 : IntKind.i64.wrap (m.getD k 0 % 20001 - 10000) = yi := by rw [← p3]; exact w_i64 (by omega)
    have w4 : IntKind.i64.wrap ((m.getD k 0).tdiv 20001 % 20001 - 10000) = yq := by rw [← p4]; exact w_i64 (by omega)
    simp -implicitDefEqProofs (disch := first | assumption | decide | omega | (simp only [wpD1] <;> omega) | (simp only [wpD2] <;> assumption) | solve_by_elim [HSub.refl, HSub.push, HSub.reserve] | fail) only [↓wpPre, wpPost, wpPoly, Int.reduceToNat, Int.reducePow, Int.reduceMul, Int.reduceAdd, Int.reduceSub, Int.reduceNeg, Nat.reduceAdd, Nat.reduceMul, Nat.reducePow, Int.reduceLT, Int.reduceLE, Int.reduceEq, Nat.reduceEqDiff, e1, e2, e14, hl.idx, hm.idx, L1, M1]
    refine ACallsK.eq (T1 _) ?_
    simp -implicitDefEqProofs (disch := first | assumption | decide | omega | (simp only [wpD1] <;> omega) | (simp only [wpD2] <;> assumption) | solve_by_elim [HSub.refl, HSub.push, HSub.reserve] | fail) only [↓wpPre, wpPost, wpPoly, Int.reduceToNat, Int.reducePow, Int.reduceMul, Int.reduceAdd, Int.reduceSub, Int.reduceNeg, Nat.reduceAdd, Nat.reduceMul, Nat.reducePow, Int.reduceLT, Int.reduceLE, Int.reduceEq, Nat.reduceEqDiff, w1]
    refine ACallsK.eq (T2 _) ?_
    have u0 := (HSub.push1 h (.cells [.int .u32 a, .int .u32 s] true 0)).trans A1.sub
    have M2 := fun b => (hm.mono (show HSub h (((h2.reserve 16).put (h2.size + 14) b).reserve 16) from (by repeat (first | exact u0 | refine HSub.put ?_ (by (try simp only [Heap.size_put, Heap.size_push, Heap.size_reserve]); omega) _ | refine HSub.push ?_ _ | refine HSub.reserve ?_ _)))).load km
    simp -implicitDefEqProofs (disch := first | assumption | decide | omega | (simp only [wpD1] <;> omega) | (simp only [wpD2] <;> assumption) | solve_by_elim [HSub.refl, HSub.push, HSub.reserve] | fail) only [↓wpPre, wpPost, wpPoly, Int.reduceToNat, Int.reducePow, Int.reduceMul, Int.reduceAdd, Int.reduceSub, Int.reduceNeg, Nat.reduceAdd, Nat.reduceMul, Nat.reducePow, Int.reduceLT, Int.reduceLE, Int.reduceEq, Nat.reduceEqDiff, w2, Heap.wf, e1, e2, e14, hl.idx, hm.idx, M2]
    refine ACallsK.hide (fun H hH => ?_)
    have N : H.size = h2.size + 32 := by rw [hH]; simp -implicitDefEqProofs (disch := first | assumption | decide | omega | (simp only [wpD1] <;> omega) | (simp only [wpD2] <;> assumption) | solve_by_elim [HSub.refl, HSub.push, HSub.reserve] | fail) only [↓wpPre, wpPost, wpPoly, Int.reduceToNat, Int.reducePow, Int.reduceMul, Int.reduceAdd, Int.reduceSub, Int.reduceNeg, Nat.reduceAdd, Nat.reduceMul, Nat.reducePow, Int.reduceLT, Int.reduceLE, Int.reduceEq, Nat.reduceEqDiff]
    have gx : H.get (h2.size + 14) = some (.cells [.int .i64 xi, .int .i64 xq] true 0) := by rw [hH]; simp -implicitDefEqProofs (disch := first | assumption | decide | omega | (simp only [wpD1] <;> omega) | (simp only [wpD2] <;> assumption) | solve_by_elim [HSub.refl, HSub.push, HSub.reserve] | fail) only [↓wpPre, wpPost, wpPoly, Int.reduceToNat, Int.reducePow, Int.reduceMul, Int.reduceAdd, Int.reduceSub, Int.reduceNeg, Nat.reduceAdd, Nat.reduceMul, Nat.reducePow, Int.reduceLT, Int.reduceLE, Int.reduceEq, Nat.reduceEqDiff]
    have gn : H.get (h2.size + 30) = none := by rw [hH]; simp -implicitDefEqProofs (disch := first | assumption | decide | omega | (simp only [wpD1] <;> omega) | (simp only [wpD2] <;> assumption) | solve_by_elim [HSub.refl, HSub.push, HSub.reserve] | fail) only [↓wpPre, wpPost, wpPoly, Int.reduceToNat, Int.reducePow, Int.reduceMul, Int.reduceAdd, Int.reduceSub, Int.reduceNeg, Nat.reduceAdd, Nat.reduceMul, Nat.reducePow, Int.reduceLT, Int.reduceLE, Int.reduceEq, Nat.reduceEqDiff, Heap.wf]
    have hH2 : HSub h2 H := by rw [hH]; exact (by repeat (first | exact HSub.refl _ | refine HSub.put ?_ (by (try simp only [Heap.size_put, Heap.size_push, Heap.size_reserve]); omega) _ | refine HSub.push ?_ _ | refine HSub.reserve ?_ _))
    have hget : ∀ i, H.get i = ((h2.reserve 16).put (h2.size + 14) (.cells [.int .i64 xi, .int .i64 xq] true 0)).get i := by intro i; rw [hH]; rfl
    clear hH
    refine ACallsK.eq (T3 _) ?_
    simp -implicitDefEqProofs (disch := first | assumption | decide | omega | (simp only [wpD1] <;> omega) | (simp only [wpD2] <;> assumption) | solve_by_elim [HSub.refl, HSub.push, HSub.reserve] | fail) only [↓wpPre, wpPost, wpPoly, Int.reduceToNat, Int.reducePow, Int.reduceMul, Int.reduceAdd, Int.reduceSub, Int.reduceNeg, Nat.reduceAdd, Nat.reduceMul, Nat.reducePow, Int.reduceLT, Int.reduceLE, Int.reduceEq, Nat.reduceEqDiff, w3]
    refine ⟨fun i _ => hget i, ?_⟩
    refine ACallsK.eq (T4 _) ?_
    have I1 := fun (x : Nat) (q : h2.size ≤ x) => SL.noIds A1.si q
    have I2 := fun (x : Nat) (q : h2.size ≤ x) => SL.noIds A2.si q
    have I3 := fun (x : Nat) (q : h2.size ≤ x) => SL.noIds A3.si q
    simp -implicitDefEqProofs (disch := first | assumption | decide | omega | (simp only [wpD1] <;> omega) | (simp only [wpD2] <;> assumption) | solve_by_elim [HSub.refl, HSub.push, HSub.reserve] | fail) only [↓wpPre, wpPost, wpPoly, Int.reduceToNat, Int.reducePow, Int.reduceMul, Int.reduceAdd, Int.reduceSub, Int.reduceNeg, Nat.reduceAdd, Nat.reduceMul, Nat.reducePow, Int.reduceLT, Int.reduceLE, Int.reduceEq, Nat.reduceEqDiff, w4, Heap.wf, gx, gn, e3, cont_slice, contB_two]
    have na := fun (p q : Nat) (i : h2.size ≤ p) (j : p ≠ q) => Grw.noneApp A1 i j
    refine ⟨⟨na _ _ (by omega) (by omega), na _ _ (by omega) (by omega), na _ _ (by omega) (by omega), na _ _ (by omega) (by omega), na _ _ (by omega) (by omega)⟩, ?_⟩
    refine opt2.hideApp (fun S hS => ?_)
    have zS : S.size = H.size + 29 := by rw [hS]; simp -implicitDefEqProofs (disch := first | assumption | decide | omega | (simp only [wpD1] <;> omega) | (simp only [wpD2] <;> assumption) | solve_by_elim [HSub.refl, HSub.push, HSub.reserve] | fail) only [↓wpPre, wpPost, wpPoly, Int.reduceToNat, Int.reducePow, Int.reduceMul, Int.reduceAdd, Int.reduceSub, Int.reduceNeg, Nat.reduceAdd, Nat.reduceMul, Nat.reducePow, Int.reduceLT, Int.reduceLE, Int.reduceEq, Nat.reduceEqDiff]
    have kS : ∀ j, h2.size + 35 ≤ j → S.get j = none := by
      intro j hj
      rw [hS]
      simp only [get_put_ne (show j ≠ H.size + 2 by omega), Heap.get_reserve, get_put_ne (show j ≠ h2.size + 16 + 14 by omega)]
      exact H.wf j (by omega)
    have gS : ∀ j, j < h2.size → S.get j = h2.get j := by
      intro j hj
      rw [hS]
      simp only [get_put_ne (show j ≠ H.size + 2 by omega), Heap.get_reserve, get_put_ne (show j ≠ h2.size + 16 + 14 by omega)]
      exact hH2.get j hj
    have bS : HSub (h.push (.cells [.int .u32 a, .int .u32 s] true 0)) S := by
      have := A1.sub.trans hH2
      rw [hS]
      exact (by repeat (first | exact this | refine HSub.put ?_ (by (try simp only [Heap.size_put, Heap.size_push, Heap.size_reserve]); omega) _ | refine HSub.push ?_ _ | refine HSub.reserve ?_ _))
    clear hS
    have ap1 := A1.appG (a := xi) (b := xq) (H := S) (k := H.size + 3) (fun i hi => gS i (Grw.ids_lt A1 i hi).2) ⟨by omega, by omega⟩ (by omega)
    have gT : ∀ cs j, j ≠ H.size + 3 → h2.size ≤ j → (snocH S (some (H.size + 3)) (t 11) 2 cs).get j = S.get j := fun cs j hj hi => snocS_ne hj (fun q => by have := (Grw.ids_lt A1 _ q).2; omega)
    rw [← s1, n1] at ap1
    have zT : (snocH S (some (H.size + 3)) (t 11) 2 (smps (selPL l (k + 1)))).size = S.size := snocS_size
    simp -implicitDefEqProofs (disch := first | assumption | decide | omega | (simp only [wpD1] <;> omega) | (simp only [wpD2] <;> assumption) | solve_by_elim [HSub.refl, HSub.push, HSub.reserve] | fail) only [↓wpPre, wpPost, wpPoly, Int.reduceToNat, Int.reducePow, Int.reduceMul, Int.reduceAdd, Int.reduceSub, Int.reduceNeg, Nat.reduceAdd, Nat.reduceMul, Nat.reducePow, Int.reduceLT, Int.reduceLE, Int.reduceEq, Nat.reduceEqDiff, ap1, kS, appK_none, gT, cont_slice, contB_two]
    have na2 := fun (p q : Nat) (i : h2.size ≤ p) (j : p ≠ q) => Grw.noneApp A2 i j
    refine ⟨⟨na2 _ _ (by omega) (by omega), na2 _ _ (by omega) (by omega), na2 _ _ (by omega) (by omega), na2 _ _ (by omega) (by omega)⟩, ?_⟩
    refine opt2.hideApp (fun S2 hS => ?_)
    have zS2 : S2.size = H.size + 29 := by rw [hS, Heap.size_put, zT, zS]
    have kS2 : ∀ j, H.size + 7 ≤ j → S2.get j = none := by
      intro j hj
      rw [hS, get_put_ne (by omega), gT _ _ (by omega) (by omega)]
      exact kS j (by omega)
    have gS2 : ∀ j, j < h2.size → j ∉ (t 11).ids → S2.get j = h2.get j := by
      intro j hj hv
      rw [hS, get_put_ne (by omega), snocS_ne (by omega) hv]
      exact gS j hj
    have bS2 : HSub (h.push (.cells [.int .u32 a, .int .u32 s] true 0)) S2 := by
      have := snocS_sub (k := H.size + 3) (ds := smps (selPL l (k + 1))) A1 bS (by simp only [Heap.size_push]; omega)
      rw [hS]
      exact (by repeat (first | exact this | refine HSub.put ?_ (by (try simp only [Heap.size_put, Heap.size_push, Heap.size_reserve]); omega) _ | refine HSub.push ?_ _ | refine HSub.reserve ?_ _))
    have r3 : S2.get (H.size + 3) = some (.cells (smps (selPL l (k + 1))) true 2) := by
      rw [hS, get_put_ne (by omega)]
      exact snocS_same (by omega)
    clear hS
    have ap2 := A2.appG (a := yi) (b := yq) (H := S2) (k := H.size + 7) (fun i hi => gS2 i (Grw.ids_lt A2 i hi).2 (d12.not hi)) ⟨by omega, by omega⟩ (by omega)
    have gT2 : ∀ cs j, j ≠ H.size + 7 → h2.size ≤ j → (snocH S2 (some (H.size + 7)) (t 12) 2 cs).get j = S2.get j := fun cs j hj hi => snocS_ne hj (fun q => by have := (Grw.ids_lt A2 _ q).2; omega)
    rw [← s2, n2] at ap2
    have zT2 : (snocH S2 (some (H.size + 7)) (t 12) 2 (smps (selPL m (k + 1)))).size = S2.size := snocS_size
    simp -implicitDefEqProofs (disch := first | assumption | decide | omega | (simp only [wpD1] <;> omega) | (simp only [wpD2] <;> assumption) | solve_by_elim [HSub.refl, HSub.push, HSub.reserve] | fail) only [↓wpPre, wpPost, wpPoly, Int.reduceToNat, Int.reducePow, Int.reduceMul, Int.reduceAdd, Int.reduceSub, Int.reduceNeg, Nat.reduceAdd, Nat.reduceMul, Nat.reducePow, Int.reduceLT, Int.reduceLE, Int.reduceEq, Nat.reduceEqDiff, ap2, kS2, appK_none, gT2, cont_slice, contB_two]
    refine opt2.hideApp (fun S3 hS => ?_)
    have zS3 : S3.size = H.size + 29 := by rw [hS, Heap.size_put, zT2, zS2]
    have kS3 : S3.get (H.size + 25) = none := by
      rw [hS, get_put_ne (by omega), gT2 _ _ (by omega) (by omega)]
      exact kS2 _ (by omega)
    have gS3 : ∀ j, j < h2.size → j ∉ (t 11).ids → j ∉ (t 12).ids → S3.get j = h2.get j := by
      intro j hj hv hw
      rw [hS, get_put_ne (by omega), snocS_ne (by omega) hw]
      exact gS2 j hj hv
    have bS3 : HSub (h.push (.cells [.int .u32 a, .int .u32 s] true 0)) S3 := by
      have := snocS_sub (k := H.size + 7) (ds := smps (selPL m (k + 1))) A2 bS2 (by simp only [Heap.size_push]; omega)
      rw [hS]
      exact (by repeat (first | exact this | refine HSub.put ?_ (by (try simp only [Heap.size_put, Heap.size_push, Heap.size_reserve]); omega) _ | refine HSub.push ?_ _ | refine HSub.reserve ?_ _))
    have r3' : S3.get (H.size + 3) = some (.cells (smps (selPL l (k + 1))) true 2) := by
      rw [hS, get_put_ne (by omega), gT2 _ _ (by omega) (by omega)]
      exact r3
    have r7 : S3.get (H.size + 7) = some (.cells (smps (selPL m (k + 1))) true 2) := by
      rw [hS, get_put_ne (by omega)]
      exact snocS_same (by omega)
    clear hS
    have ap3 := A3.appG (a := (lin f (xi, xq) (yi, yq)).1) (b := (lin f (xi, xq) (yi, yq)).2) (H := S3) (k := H.size + 25) (fun i hi => gS3 i (Grw.ids_lt A3 i hi).2 (d13.not hi) (d23.not hi)) ⟨by omega, by omega⟩ (by omega)
    rw [show ((lin f (xi, xq) (yi, yq)).1, (lin f (xi, xq) (yi, yq)).2) = lin f (xi, xq) (yi, yq) from rfl, ← s3, n3] at ap3
    simp only [lin] at ap3
    simp -implicitDefEqProofs (disch := first | assumption | decide | omega | (simp only [wpD1] <;> omega) | (simp only [wpD2] <;> assumption) | solve_by_elim [HSub.refl, HSub.push, HSub.reserve] | fail) only [↓wpPre, wpPost, wpPoly, Int.reduceToNat, Int.reducePow, Int.reduceMul, Int.reduceAdd, Int.reduceSub, Int.reduceNeg, Nat.reduceAdd, Nat.reduceMul, Nat.reducePow, Int.reduceLT, Int.reduceLE, Int.reduceEq, Nat.reduceEqDiff, ap3, kS3, appK_none, e1, e2, e3, e4, e9, e10, e14]
    have bF := snocS_sub (k := H.size + 25) (ds := smps (linL f l m (k + 1))) A3 bS3 (by simp only [Heap.size_push]; omega)
    have q3 : ∀ j, j ≠ H.size + 25 → h2.size ≤ j → (snocH S3 (some (H.size + 25)) (t 13) 2 (smps (linL f l m (k + 1)))).get j = S3.get j := fun j hj hi => snocS_ne hj (fun q => by have := (Grw.ids_lt A3 _ q).2; omega)
    refine ⟨_, ⟨k + 1, GrwS.mk bF (by simp only [Heap.size_push]; omega) ⟨(selPL_length _ _).symm, by rw [selPL_length]; omega⟩ ((q3 _ (by omega) (by omega)).trans r3'),
      GrwS.mk bF (by simp only [Heap.size_push]; omega) ⟨(selPL_length _ _).symm, by rw [selPL_length]; omega⟩ ((q3 _ (by omega) (by omega)).trans r7),
      GrwS.mk bF (by simp only [Heap.size_push]; omega) ⟨(linL_length _ _ _ _).symm, by rw [linL_length]; omega⟩ (snocS_same (by omega)),
      dj_slice (by omega), dj_slice (by omega), dj_slice (by omega), by simp, by omega, rfl⟩, by omega⟩
  · have ek : k = n := by omega
    subst ek
    have s1 : HSub h h2 := (HSub.push1 _ _).trans A1.sub
    have gb : h2.get h.size = some (.cells [.int .u32 a, .int .u32 s] true 0) := (A1.sub.get _ (by simp)).trans (get_push_eq rfl)
    have x1 := fun (h1 : Heap) (q : HSub h2 h1) => Mix_spec (hC.sub (T' := T122) (by decide)) (a := a) (s := s) (A1.si.mono q) ha
    have x2 := fun (h1 : Heap) (q : HSub h2 h1) => Mix_spec (hC.sub (T' := T122) (by decide)) (a := a) (s := s) (A2.si.mono q) ha
    have x3 := fun (h1 : Heap) (q : HSub h2 h1) => Mix_spec (hC.sub (T' := T122) (by decide)) (a := a) (s := s) (A3.si.mono q) ha
    have sm1 : ∀ x ∈ selPL l k, smallP x := all_small (fun i _ => by have := selP_le (l.getD i 0); unfold smallP; omega)
    have sm2 : ∀ x ∈ selPL m k, smallP x := all_small (fun i _ => by have := selP_le (m.getD i 0); unfold smallP; omega)
    have sm3 : ∀ x ∈ linL f l m k, smallP x := all_small (fun i _ => by
      have h1 := selP_le (l.getD i 0)
      have h2 := selP_le (m.getD i 0)
      have h3 := f9 hfr (by decide) h2.1
      have h4 := f9 hfr (by decide) h2.2
      unfold smallP lin
      simp only
      omega)
    have n1 := selPL_length l k
    have n2 := selPL_length m k
    have n3 := linL_length f l m k
    have me1 : mixErr (selPL l k) = 0 := by unfold mixErr; rw [if_neg (by omega), if_pos sm1]
    have me2 : mixErr (selPL m k) = 0 := by unfold mixErr; rw [if_neg (by omega), if_pos sm2]
    have me3 : mixErr (linL f l m k) = 0 := by unfold mixErr; rw [if_neg (by omega), if_pos sm3]
    unfold nco mixOut at x1 x2 x3
    rw [me1, if_pos rfl, n1] at x1
    rw [me2, if_pos rfl, n2] at x2
    rw [me3, if_pos rfl, n3] at x3
    simp -implicitDefEqProofs (disch := first | assumption | decide | omega | (simp only [wpD1] <;> omega) | (simp only [wpD2] <;> assumption) | solve_by_elim [HSub.refl, HSub.push, HSub.reserve] | fail) only [↓wpPre, wpPost, wpPoly, Int.reduceToNat, Int.reducePow, Int.reduceMul, Int.reduceAdd, Int.reduceSub, Int.reduceNeg, Nat.reduceAdd, Nat.reduceMul, Nat.reducePow, Int.reduceLT, Int.reduceLE, Int.reduceEq, Nat.reduceEqDiff, e4, gb]
    refine ACallsK.of (x1 _ (HSub.refl _)) ?_
    rintro r h3 ⟨v3, rfl, s3, R3⟩
    have g3 := s3.get
    simp -implicitDefEqProofs (disch := first | assumption | decide | omega | (simp only [wpD1] <;> omega) | (simp only [wpD2] <;> assumption) | solve_by_elim [HSub.refl, HSub.push, HSub.reserve] | fail) only [↓wpPre, wpPost, wpPoly, Int.reduceToNat, Int.reducePow, Int.reduceMul, Int.reduceAdd, Int.reduceSub, Int.reduceNeg, Nat.reduceAdd, Nat.reduceMul, Nat.reducePow, Int.reduceLT, Int.reduceLE, Int.reduceEq, Nat.reduceEqDiff, lstErr, e4, g3, gb]
    refine ACallsK.of (x2 _ s3) ?_
    rintro r h4 ⟨v4, rfl, s4, R4⟩
    have g4 := s4.get
    have z3 := s3.size
    simp -implicitDefEqProofs (disch := first | assumption | decide | omega | (simp only [wpD1] <;> omega) | (simp only [wpD2] <;> assumption) | solve_by_elim [HSub.refl, HSub.push, HSub.reserve] | fail) only [↓wpPre, wpPost, wpPoly, Int.reduceToNat, Int.reducePow, Int.reduceMul, Int.reduceAdd, Int.reduceSub, Int.reduceNeg, Nat.reduceAdd, Nat.reduceMul, Nat.reducePow, Int.reduceLT, Int.reduceLE, Int.reduceEq, Nat.reduceEqDiff, lstErr, e4, g4, g3, gb]
    refine ACallsK.of (x3 _ (s3.trans s4)) ?_
    rintro r h5 ⟨v5, rfl, s5, R5⟩
    have R3 := R3.mono (s4.trans s5)
    have R4 := R4.mono s5
    have k3 := mixL_length (selPL l k) a s k
    have k4 := mixL_length (selPL m k) a s k
    have k5 := mixL_length (linL f l m k) a s k
    simp -implicitDefEqProofs (disch := first | assumption | decide | omega | (simp only [wpD1] <;> omega) | (simp only [wpD2] <;> assumption) | solve_by_elim [HSub.refl, HSub.push, HSub.reserve] | fail) only [↓wpPre, wpPost, wpPoly, Int.reduceToNat, Int.reducePow, Int.reduceMul, Int.reduceAdd, Int.reduceSub, Int.reduceNeg, Nat.reduceAdd, Nat.reduceMul, Nat.reducePow, Int.reduceLT, Int.reduceLE, Int.reduceEq, Nat.reduceEqDiff, lstErr, R3.len, R4.len, R5.len, k3, k4, k5, e10]
    refine wp_loopI (fun j t h' => h' = h5 ∧ ∃ i : Nat, t 3 = .int .i64 f ∧ t 9 = .bool true ∧ t 10 = .int .i64 (k : Nat) ∧ t 17 = v3 ∧ t 19 = v4 ∧ t 21 = v5 ∧ t 23 = .int .i64 (i : Nat) ∧ i ≤ k ∧ j = k - i) (j0 := k)
      ⟨rfl, 0, e3, e9, e10, rfl, rfl, rfl, rfl, by omega, rfl⟩ ?_
    rintro j t h6 ⟨rfl, i, e3, e9, e10, e17, e19, e21, e23, hi, hj⟩
    simp -implicitDefEqProofs (disch := first | assumption | decide | omega | (simp only [wpD1] <;> omega) | (simp only [wpD2] <;> assumption) | solve_by_elim [HSub.refl, HSub.push, HSub.reserve] | fail) only [↓wpPre, wpPost, wpPoly, Int.reduceToNat, Int.reducePow, Int.reduceMul, Int.reduceAdd, Int.reduceSub, Int.reduceNeg, Nat.reduceAdd, Nat.reduceMul, Nat.reducePow, Int.reduceLT, Int.reduceLE, Int.reduceEq, Nat.reduceEqDiff, e10, e23]
    refine Br.by (fun c4 => ?_) (fun c4 => ?_)
    · have hi' : i < k := by omega
      have v3 := mixL_get (selPL l k) a s hi'
      have v4 := mixL_get (selPL m k) a s hi'
      have v5 := mixL_get (linL f l m k) a s hi'
      rw [selPL_get l hi'] at v3
      rw [selPL_get m hi'] at v4
      rw [linL_get f l m hi', mix_lin] at v5
      have b3 := selP_le (l.getD i 0)
      have b4 := selP_le (m.getD i 0)
      have bc := carP_le (phI_u32 a s (i : Nat))
      generalize selP (l.getD i 0) = x at *
      generalize selP (m.getD i 0) = y at *
      generalize carP (phI a s (i : Nat)) = q at *
      have m1 := mul_le127 b3.1 ⟨bc.1, bc.2.1⟩
      have m2 := mul_le127 b3.2 ⟨bc.2.2.1, bc.2.2.2⟩
      have m3 := mul_le127 b3.2 ⟨bc.1, bc.2.1⟩
      have m4 := mul_le127 b3.1 ⟨bc.2.2.1, bc.2.2.2⟩
      have m5 := mul_le127 b4.1 ⟨bc.1, bc.2.1⟩
      have m6 := mul_le127 b4.2 ⟨bc.2.2.1, bc.2.2.2⟩
      have m7 := mul_le127 b4.2 ⟨bc.1, bc.2.1⟩
      have m8 := mul_le127 b4.1 ⟨bc.2.2.1, bc.2.2.2⟩
      have mx : (-2540000 ≤ (mixP x q).1 ∧ (mixP x q).1 ≤ 2540000) ∧ (-2540000 ≤ (mixP x q).2 ∧ (mixP x q).2 ≤ 2540000) := by unfold mixP; simp only; omega
      have my : (-2540000 ≤ (mixP y q).1 ∧ (mixP y q).1 ≤ 2540000) ∧ (-2540000 ≤ (mixP y q).2 ∧ (mixP y q).2 ≤ 2540000) := by unfold mixP; simp only; omega
      generalize mixP x q = X at *
      generalize mixP y q = Y at *
      have w1 := f9 hfr (by decide) my.1
      have w2 := f9 hfr (by decide) my.2
      simp -implicitDefEqProofs (disch := first | assumption | decide | omega | (simp only [wpD1] <;> omega) | (simp only [wpD2] <;> assumption) | solve_by_elim [HSub.refl, HSub.push, HSub.reserve] | fail) only [↓wpPre, wpPost, wpPoly, Int.reduceToNat, Int.reducePow, Int.reduceMul, Int.reduceAdd, Int.reduceSub, Int.reduceNeg, Nat.reduceAdd, Nat.reduceMul, Nat.reducePow, Int.reduceLT, Int.reduceLE, Int.reduceEq, Nat.reduceEqDiff, e3, e17, e19, e21, e23, R3.idx, R4.idx, R5.idx, R3.fld, R4.fld, R3.load0, R3.load1, R4.load0, R4.load1, R5.loadA, smp, eqs_two_t, v3, v4, v5, lin, e9, e10]
      exact ⟨_, ⟨i + 1, by simp, by omega, rfl⟩, by omega⟩
    · simp -implicitDefEqProofs (disch := first | assumption | decide | omega | (simp only [wpD1] <;> omega) | (simp only [wpD2] <;> assumption) | solve_by_elim [HSub.refl, HSub.push, HSub.reserve] | fail) only [↓wpPre, wpPost, wpPoly, Int.reduceToNat, Int.reducePow, Int.reduceMul, Int.reduceAdd, Int.reduceSub, Int.reduceNeg, Nat.reduceAdd, Nat.reduceMul, Nat.reducePow, Int.reduceLT, Int.reduceLE, Int.reduceEq, Nat.reduceEqDiff, e9]
end
end Go.Ae
