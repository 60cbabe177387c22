/- Texts of the proof, part 11: a second reading of the lowered code, proved sound, and what the functions compute. -/
import Derived.Test.YtcfennjjkepgiaaP10

/- Mixes of lists of the program and of the reference. -/
set_option linter.unusedSimpArgs false
set_option linter.unusedVariables false
namespace Go.Ae
def mixK (l : List (Int × Int)) (a s : Int) (m k : Nat) : List (Int × Int) := mixL l a s k ++ List.replicate (m - k) (0, 0)
theorem mixK_length {l : List (Int × Int)} {a s : Int} {m k : Nat} (h : k ≤ m) : (mixK l a s m k).length = m := by simp [mixK, mixL_length]; omega
theorem mixK_set {l : List (Int × Int)} {a s : Int} {m k : Nat} (h : k < m) : (mixK l a s m k).set k (mixP (l.getD k (0, 0)) (carP (phI a s k))) = mixK l a s m (k + 1) := by
  unfold mixK
  rw [List.set_append_right _ _ (by rw [mixL_length]; omega), mixL_length, Nat.sub_self, mixL_succ, List.append_assoc]
  congr 1
  rw [show m - k = (m - (k + 1)) + 1 by omega, List.replicate_succ]; rfl
theorem mixK_full (l : List (Int × Int)) (a s : Int) (m : Nat) : mixK l a s m m = mixL l a s m := by simp [mixK]
theorem small_all {l : List (Int × Int)} (h : ∀ i, i < l.length → smallP (l.getD i (0, 0))) : ∀ x ∈ l, smallP x := by
  intro x hx
  obtain ⟨i, hi, rfl⟩ := List.mem_iff_getElem.1 hx
  have := h i hi
  rwa [List.getD_eq_getElem?_getD, List.getElem?_eq_getElem hi] at this
def mixOut (l : List (Int × Int)) (a s : Int) : List (Int × Int) := if mixErr l = 0 then mixL l a s l.length else []
section
variable {C : Ctx}
set_option maxHeartbeats 2000000 in
theorem mapped_spec (hC : Has C T136) (hW : Has C T137) {v : AV} {l : List (Int × Int)} {a s : Int} {h : Heap} (hl : SI h v l) (hll : l.length ≤ 1048576) (ha : U32 a) :
    ACalls C 136 [v, nco a s, .func 137 [] []] h (fun r h' => ∃ w, r = lstErr w (if ∀ x ∈ l, smallP x then 0 else 2) ∧ HSub h h' ∧ SI h' w (if ∀ x ∈ l, smallP x then mixL l a s l.length else [])) := by
  have hz := smps_replicate (p := (0, 0)) (n := l.length)
  simp only at hz
  have hc0 := hl.cells
  have ho0 := hl.one
  have hph := fun h => phases_spec (a := a) (s := s) (m := l.length) (h := h) (hC.sub (T' := T134) (by decide))
  unfold nco at hph ⊢
  (refine calls_intro (hC.body (by decide) tab136) (Nat.le_of_ble_eq_true rfl) ?_); (show wp C _ none B136.code _ _); (simp only [B136]); simp -implicitDefEqProofs (disch := first | assumption | decide | omega | (simp only [wpD1] <;> omega) | (simp only [wpD2] <;> assumption) | solve_by_elim [HSub.refl, HSub.push, HSub.reserve] | fail) only [↓wpPre, wpPost, wpPoly, Int.reduceToNat, Int.reducePow, Int.reduceMul, Int.reduceAdd, Int.reduceSub, Int.reduceNeg, Nat.reduceAdd, Nat.reduceMul, Nat.reducePow, Int.reduceLT, Int.reduceLE, Int.reduceEq, Nat.reduceEqDiff, hl.len, hz, hc0]
  refine ACallsK.hide (fun H hH => ?_)
  have N : H.size = h.size + 7 := by rw [hH]; simp -implicitDefEqProofs (disch := first | assumption | decide | omega | (simp only [wpD1] <;> omega) | (simp only [wpD2] <;> assumption) | solve_by_elim [HSub.refl, HSub.push, HSub.reserve] | fail) only [↓wpPre, wpPost, wpPoly, Int.reduceToNat, Int.reducePow, Int.reduceMul, Int.reduceAdd, Int.reduceSub, Int.reduceNeg, Nat.reduceAdd, Nat.reduceMul, Nat.reducePow, Int.reduceLT, Int.reduceLE, Int.reduceEq, Nat.reduceEqDiff]
  have g0 : H.get h.size = some (.cells [v] true 0) := by rw [hH]; simp -implicitDefEqProofs (disch := first | assumption | decide | omega | (simp only [wpD1] <;> omega) | (simp only [wpD2] <;> assumption) | solve_by_elim [HSub.refl, HSub.push, HSub.reserve] | fail) only [↓wpPre, wpPost, wpPoly, Int.reduceToNat, Int.reducePow, Int.reduceMul, Int.reduceAdd, Int.reduceSub, Int.reduceNeg, Nat.reduceAdd, Nat.reduceMul, Nat.reducePow, Int.reduceLT, Int.reduceLE, Int.reduceEq, Nat.reduceEqDiff]
  have g2 : H.get (h.size + 2) = some (.cells [.func 137 [] []] true 0) := by rw [hH]; simp -implicitDefEqProofs (disch := first | assumption | decide | omega | (simp only [wpD1] <;> omega) | (simp only [wpD2] <;> assumption) | solve_by_elim [HSub.refl, HSub.push, HSub.reserve] | fail) only [↓wpPre, wpPost, wpPoly, Int.reduceToNat, Int.reducePow, Int.reduceMul, Int.reduceAdd, Int.reduceSub, Int.reduceNeg, Nat.reduceAdd, Nat.reduceMul, Nat.reducePow, Int.reduceLT, Int.reduceLE, Int.reduceEq, Nat.reduceEqDiff]
  have g3 : H.get (h.size + 3) = some (.cells [.nilslice] true 0) := by rw [hH]; simp -implicitDefEqProofs (disch := first | assumption | decide | omega | (simp only [wpD1] <;> omega) | (simp only [wpD2] <;> assumption) | solve_by_elim [HSub.refl, HSub.push, HSub.reserve] | fail) only [↓wpPre, wpPost, wpPoly, Int.reduceToNat, Int.reducePow, Int.reduceMul, Int.reduceAdd, Int.reduceSub, Int.reduceNeg, Nat.reduceAdd, Nat.reduceMul, Nat.reducePow, Int.reduceLT, Int.reduceLE, Int.reduceEq, Nat.reduceEqDiff]
  have g4 : H.get (h.size + 4) = some (.cells [.int .i64 0] true 0) := by rw [hH]; simp -implicitDefEqProofs (disch := first | assumption | decide | omega | (simp only [wpD1] <;> omega) | (simp only [wpD2] <;> assumption) | solve_by_elim [HSub.refl, HSub.push, HSub.reserve] | fail) only [↓wpPre, wpPost, wpPoly, Int.reduceToNat, Int.reducePow, Int.reduceMul, Int.reduceAdd, Int.reduceSub, Int.reduceNeg, Nat.reduceAdd, Nat.reduceMul, Nat.reducePow, Int.reduceLT, Int.reduceLE, Int.reduceEq, Nat.reduceEqDiff]
  have bo : H.get (h.size + 5) = some (.cells (smps (List.replicate l.length (0, 0))) true 0) := by rw [hH]; simp -implicitDefEqProofs (disch := first | assumption | decide | omega | (simp only [wpD1] <;> omega) | (simp only [wpD2] <;> assumption) | solve_by_elim [HSub.refl, HSub.push, HSub.reserve] | fail) only [↓wpPre, wpPost, wpPoly, Int.reduceToNat, Int.reducePow, Int.reduceMul, Int.reduceAdd, Int.reduceSub, Int.reduceNeg, Nat.reduceAdd, Nat.reduceMul, Nat.reducePow, Int.reduceLT, Int.reduceLE, Int.reduceEq, Nat.reduceEqDiff]
  have bs : H.get (h.size + 6) = some (.cells [.slice (h.size + 5) 0 l.length (.known l.length)] true 0) := by rw [hH]; simp -implicitDefEqProofs (disch := first | assumption | decide | omega | (simp only [wpD1] <;> omega) | (simp only [wpD2] <;> assumption) | solve_by_elim [HSub.refl, HSub.push, HSub.reserve] | fail) only [↓wpPre, wpPost, wpPoly, Int.reduceToNat, Int.reducePow, Int.reduceMul, Int.reduceAdd, Int.reduceSub, Int.reduceNeg, Nat.reduceAdd, Nat.reduceMul, Nat.reducePow, Int.reduceLT, Int.reduceLE, Int.reduceEq, Nat.reduceEqDiff]
  have hsH : HSub h H := by
    rw [hH]
    exact ((((((HSub.push1 _ _).push _).push _).push _).push _).push _).push _
  clear hH
  refine ACallsK.eq (hph _) ?_
  simp -implicitDefEqProofs (disch := first | assumption | decide | omega | (simp only [wpD1] <;> omega) | (simp only [wpD2] <;> assumption) | solve_by_elim [HSub.refl, HSub.push, HSub.reserve] | fail) only [↓wpPre, wpPost, wpPoly, Int.reduceToNat, Int.reducePow, Int.reduceMul, Int.reduceAdd, Int.reduceSub, Int.reduceNeg, Nat.reduceAdd, Nat.reduceMul, Nat.reducePow, Int.reduceLT, Int.reduceLE, Int.reduceEq, Nat.reduceEqDiff]
  refine wpRange_none (D := fun h' => ∃ R, h'.get (H.size + 4) = some (.loop R) ∧ HSub h h' ∧ h'.get (H.size + 3) = some (.defd true) ∧ H.size + 5 ≤ h'.size ∧
    ((R.state = .ready ∧ R.pend = none ∧ (∀ x ∈ l, smallP x) ∧ h'.get (h.size + 6) = some (.cells [.slice (h.size + 5) 0 l.length (.known l.length)] true 0) ∧ h'.get (h.size + 5) = some (.cells (smps (mixL l a s l.length)) true 0) ∧
      h'.get (h.size + 3) = some (.cells [.nilslice] true 0) ∧ h'.get (h.size + 4) = some (.cells [.int .i64 0] true 0)) ∨
     (R.state = .done ∧ R.pend = some .ret ∧ (¬ ∀ x ∈ l, smallP x) ∧ h'.get (h.size + 3) = some (.cells [.nilslice] true 0) ∧ h'.get (h.size + 4) = some (.cells [.int .i64 2] true 0)))) ?_ ?_
  · refine ACalls.hideLoop (fun R hR => ?_)
    show ACalls C 145 [.yield (H.size + 4), .ptr (H.size + 1) 0, .ptr (H.size + 2) 0] _ _
    have rs : R.state = .ready := by rw [hR]
    have rp : R.pend = none := by rw [hR]
    have rb := loop_back rs rp
    refine phases2_iter (hC.sub (T' := T145) (by decide)) (hC.sub (T' := T144) (by decide)) (b0 := H.size) (a := a) (s := s) (m := l.length) hll (fun k h' => k ≤ l.length ∧ (∀ i, i < k → smallP (l.getD i (0, 0))) ∧ h'.get (H.size + 4) = some (.loop R) ∧ h'.get H.size = some (.cells [.int .u32 (phI a s (k : Nat)), .int .u32 s] true 0) ∧
      h'.get (H.size + 1) = some (.cells [.int .i64 (l.length : Nat)] true 0) ∧ h'.get (H.size + 2) = some (.cells [.func 144 [] [.ptr H.size 0]] true 0) ∧ h'.get (H.size + 3) = some (.defd true) ∧ HSub h h' ∧ H.size + 5 ≤ h'.size ∧
      h'.get h.size = some (.cells [v] true 0) ∧ h'.get (h.size + 2) = some (.cells [.func 137 [] []] true 0) ∧ h'.get (h.size + 3) = some (.cells [.nilslice] true 0) ∧ h'.get (h.size + 4) = some (.cells [.int .i64 0] true 0) ∧
      h'.get (h.size + 6) = some (.cells [.slice (h.size + 5) 0 l.length (.known l.length)] true 0) ∧ h'.get (h.size + 5) = some (.cells (smps (mixK l a s l.length k)) true 0)) _ ?_ ?_ ?_ ?_
    · have ez : phI a s ((0 : Nat) : Int) = a := phI_zero ha
      refine ⟨by omega, fun i hi => by omega, ?_, ?_, ?_, ?_, ?_, ?_, ?_, ?_, ?_, ?_, ?_, ?_, ?_⟩
      · simp -implicitDefEqProofs (disch := first | assumption | decide | omega | (simp only [wpD1] <;> omega) | (simp only [wpD2] <;> assumption) | solve_by_elim [HSub.refl, HSub.push, HSub.reserve] | fail) only [↓wpPre, wpPost, wpPoly, Int.reduceToNat, Int.reducePow, Int.reduceMul, Int.reduceAdd, Int.reduceSub, Int.reduceNeg, Nat.reduceAdd, Nat.reduceMul, Nat.reducePow, Int.reduceLT, Int.reduceLE, Int.reduceEq, Nat.reduceEqDiff]
      · rw [ez]; simp -implicitDefEqProofs (disch := first | assumption | decide | omega | (simp only [wpD1] <;> omega) | (simp only [wpD2] <;> assumption) | solve_by_elim [HSub.refl, HSub.push, HSub.reserve] | fail) only [↓wpPre, wpPost, wpPoly, Int.reduceToNat, Int.reducePow, Int.reduceMul, Int.reduceAdd, Int.reduceSub, Int.reduceNeg, Nat.reduceAdd, Nat.reduceMul, Nat.reducePow, Int.reduceLT, Int.reduceLE, Int.reduceEq, Nat.reduceEqDiff]
      · simp -implicitDefEqProofs (disch := first | assumption | decide | omega | (simp only [wpD1] <;> omega) | (simp only [wpD2] <;> assumption) | solve_by_elim [HSub.refl, HSub.push, HSub.reserve] | fail) only [↓wpPre, wpPost, wpPoly, Int.reduceToNat, Int.reducePow, Int.reduceMul, Int.reduceAdd, Int.reduceSub, Int.reduceNeg, Nat.reduceAdd, Nat.reduceMul, Nat.reducePow, Int.reduceLT, Int.reduceLE, Int.reduceEq, Nat.reduceEqDiff]
      · simp -implicitDefEqProofs (disch := first | assumption | decide | omega | (simp only [wpD1] <;> omega) | (simp only [wpD2] <;> assumption) | solve_by_elim [HSub.refl, HSub.push, HSub.reserve] | fail) only [↓wpPre, wpPost, wpPoly, Int.reduceToNat, Int.reducePow, Int.reduceMul, Int.reduceAdd, Int.reduceSub, Int.reduceNeg, Nat.reduceAdd, Nat.reduceMul, Nat.reducePow, Int.reduceLT, Int.reduceLE, Int.reduceEq, Nat.reduceEqDiff]
      · simp -implicitDefEqProofs (disch := first | assumption | decide | omega | (simp only [wpD1] <;> omega) | (simp only [wpD2] <;> assumption) | solve_by_elim [HSub.refl, HSub.push, HSub.reserve] | fail) only [↓wpPre, wpPost, wpPoly, Int.reduceToNat, Int.reducePow, Int.reduceMul, Int.reduceAdd, Int.reduceSub, Int.reduceNeg, Nat.reduceAdd, Nat.reduceMul, Nat.reducePow, Int.reduceLT, Int.reduceLE, Int.reduceEq, Nat.reduceEqDiff]
      · exact ((((hsH.push _).push _).push _).push _).push _
      · simp -implicitDefEqProofs (disch := first | assumption | decide | omega | (simp only [wpD1] <;> omega) | (simp only [wpD2] <;> assumption) | solve_by_elim [HSub.refl, HSub.push, HSub.reserve] | fail) only [↓wpPre, wpPost, wpPoly, Int.reduceToNat, Int.reducePow, Int.reduceMul, Int.reduceAdd, Int.reduceSub, Int.reduceNeg, Nat.reduceAdd, Nat.reduceMul, Nat.reducePow, Int.reduceLT, Int.reduceLE, Int.reduceEq, Nat.reduceEqDiff]
        omega
      · simp -implicitDefEqProofs (disch := first | assumption | decide | omega | (simp only [wpD1] <;> omega) | (simp only [wpD2] <;> assumption) | solve_by_elim [HSub.refl, HSub.push, HSub.reserve] | fail) only [↓wpPre, wpPost, wpPoly, Int.reduceToNat, Int.reducePow, Int.reduceMul, Int.reduceAdd, Int.reduceSub, Int.reduceNeg, Nat.reduceAdd, Nat.reduceMul, Nat.reducePow, Int.reduceLT, Int.reduceLE, Int.reduceEq, Nat.reduceEqDiff, g0]
      · simp -implicitDefEqProofs (disch := first | assumption | decide | omega | (simp only [wpD1] <;> omega) | (simp only [wpD2] <;> assumption) | solve_by_elim [HSub.refl, HSub.push, HSub.reserve] | fail) only [↓wpPre, wpPost, wpPoly, Int.reduceToNat, Int.reducePow, Int.reduceMul, Int.reduceAdd, Int.reduceSub, Int.reduceNeg, Nat.reduceAdd, Nat.reduceMul, Nat.reducePow, Int.reduceLT, Int.reduceLE, Int.reduceEq, Nat.reduceEqDiff, g2]
      · simp -implicitDefEqProofs (disch := first | assumption | decide | omega | (simp only [wpD1] <;> omega) | (simp only [wpD2] <;> assumption) | solve_by_elim [HSub.refl, HSub.push, HSub.reserve] | fail) only [↓wpPre, wpPost, wpPoly, Int.reduceToNat, Int.reducePow, Int.reduceMul, Int.reduceAdd, Int.reduceSub, Int.reduceNeg, Nat.reduceAdd, Nat.reduceMul, Nat.reducePow, Int.reduceLT, Int.reduceLE, Int.reduceEq, Nat.reduceEqDiff, g3]
      · simp -implicitDefEqProofs (disch := first | assumption | decide | omega | (simp only [wpD1] <;> omega) | (simp only [wpD2] <;> assumption) | solve_by_elim [HSub.refl, HSub.push, HSub.reserve] | fail) only [↓wpPre, wpPost, wpPoly, Int.reduceToNat, Int.reducePow, Int.reduceMul, Int.reduceAdd, Int.reduceSub, Int.reduceNeg, Nat.reduceAdd, Nat.reduceMul, Nat.reducePow, Int.reduceLT, Int.reduceLE, Int.reduceEq, Nat.reduceEqDiff, g4]
      · simp -implicitDefEqProofs (disch := first | assumption | decide | omega | (simp only [wpD1] <;> omega) | (simp only [wpD2] <;> assumption) | solve_by_elim [HSub.refl, HSub.push, HSub.reserve] | fail) only [↓wpPre, wpPost, wpPoly, Int.reduceToNat, Int.reducePow, Int.reduceMul, Int.reduceAdd, Int.reduceSub, Int.reduceNeg, Nat.reduceAdd, Nat.reduceMul, Nat.reducePow, Int.reduceLT, Int.reduceLE, Int.reduceEq, Nat.reduceEqDiff, bs]
      · simp -implicitDefEqProofs (disch := first | assumption | decide | omega | (simp only [wpD1] <;> omega) | (simp only [wpD2] <;> assumption) | solve_by_elim [HSub.refl, HSub.push, HSub.reserve] | fail) only [↓wpPre, wpPost, wpPoly, Int.reduceToNat, Int.reducePow, Int.reduceMul, Int.reduceAdd, Int.reduceSub, Int.reduceNeg, Nat.reduceAdd, Nat.reduceMul, Nat.reducePow, Int.reduceLT, Int.reduceLE, Int.reduceEq, Nat.reduceEqDiff, bo]
        rfl
    · rintro k h' ⟨_, _, _, q0, q1, q2, _⟩
      exact ⟨q0, q1, q2⟩
    · rintro k h' ⟨hk, hsm, hlp, p0, p1, p2, hd, hsub, hsz, g0, g2, g3, g4, gs, go⟩ hk'
      have hwl := mixK_length (l := l) (a := a) (s := s) hk
      have hsl : (smps (mixK l a s l.length k)).length = l.length * 2 := by rw [smps_length, hwl]
      have hset := smps_splice (l := mixK l a s l.length k) (k := k) (p := mixP (l.getD k (0, 0)) (carP (phI a s k))) (by rw [hwl]; exact hk')
      rw [mixK_set hk'] at hset
      have hca := fun h => Wipe_spec hW (p := l.getD k (0, 0)) (h := h) (phI_u32 a s (k : Nat))
      refine yield_intro (r := R) (by simp -implicitDefEqProofs (disch := first | assumption | decide | omega | (simp only [wpD1] <;> omega) | (simp only [wpD2] <;> assumption) | solve_by_elim [HSub.refl, HSub.push, HSub.reserve] | fail) only [↓wpPre, wpPost, wpPoly, Int.reduceToNat, Int.reducePow, Int.reduceMul, Int.reduceAdd, Int.reduceSub, Int.reduceNeg, Nat.reduceAdd, Nat.reduceMul, Nat.reducePow, Int.reduceLT, Int.reduceLE, Int.reduceEq, Nat.reduceEqDiff, hlp]) rs (by rw [hR]; rfl) ?_
      simp only [congrArg ALoop.nt hR, congrArg ALoop.t hR, congrArg ALoop.params hR, congrArg ALoop.assign hR, congrArg ALoop.body hR]
      have hlR := fun b1 b2 => (hl.mono (((hsub.put (i := H.size) (by omega) b1).put (i := H.size + 4) (by omega) b2).reserve 13)).loadA hk'
      simp -implicitDefEqProofs (disch := first | assumption | decide | omega | (simp only [wpD1] <;> omega) | (simp only [wpD2] <;> assumption) | solve_by_elim [HSub.refl, HSub.push, HSub.reserve] | fail) only [↓wpPre, wpPost, wpPoly, Int.reduceToNat, Int.reducePow, Int.reduceMul, Int.reduceAdd, Int.reduceSub, Int.reduceNeg, Nat.reduceAdd, Nat.reduceMul, Nat.reducePow, Int.reduceLT, Int.reduceLE, Int.reduceEq, Nat.reduceEqDiff, hlp, rs, g0, g2, hl.idx, hlR]
      refine ACallsK.eq (hca _) ?_
      by_cases c : smallP (l.getD k (0, 0))
      · rw [wipeE, if_pos c]
        unfold smp
        simp -implicitDefEqProofs (disch := first | assumption | decide | omega | (simp only [wpD1] <;> omega) | (simp only [wpD2] <;> assumption) | solve_by_elim [HSub.refl, HSub.push, HSub.reserve] | fail) only [↓wpPre, wpPost, wpPoly, Int.reduceToNat, Int.reducePow, Int.reduceMul, Int.reduceAdd, Int.reduceSub, Int.reduceNeg, Nat.reduceAdd, Nat.reduceMul, Nat.reducePow, Int.reduceLT, Int.reduceLE, Int.reduceEq, Nat.reduceEqDiff, hlp, gs, go, hset, Heap.wf]
        refine .inl ⟨by omega, fun i hi => ?_, by rw [rb], p1, p2, hd, (by repeat (first | exact hsub | refine HSub.put ?_ (by (try simp only [Heap.size_put, Heap.size_push, Heap.size_reserve]); omega) _ | refine HSub.push ?_ _ | refine HSub.reserve ?_ _)), by omega, g0, g2, g3, g4⟩
        rcases Nat.lt_or_ge i k with x | x
        · exact hsm i x
        · have : i = k := by omega
          subst this; exact c
      · rw [wipeE, if_neg c]
        unfold smp
        simp -implicitDefEqProofs (disch := first | assumption | decide | omega | (simp only [wpD1] <;> omega) | (simp only [wpD2] <;> assumption) | solve_by_elim [HSub.refl, HSub.push, HSub.reserve] | fail) only [↓wpPre, wpPost, wpPoly, Int.reduceToNat, Int.reducePow, Int.reduceMul, Int.reduceAdd, Int.reduceSub, Int.reduceNeg, Nat.reduceAdd, Nat.reduceMul, Nat.reducePow, Int.reduceLT, Int.reduceLE, Int.reduceEq, Nat.reduceEqDiff, hlp, Heap.wf, g3, g4]
        refine .inr ⟨_, rfl, (by repeat (first | exact hsub | refine HSub.put ?_ (by (try simp only [Heap.size_put, Heap.size_push, Heap.size_reserve]); omega) _ | refine HSub.push ?_ _ | refine HSub.reserve ?_ _)), hd, by omega, .inr ⟨rfl, rfl, fun hall => c (hall _ (getP_mem hk'))⟩⟩
    · rintro h' ⟨_, hsm, hlp, p0, p1, p2, hd, hsub, hsz, g0, g2, g3, g4, gs, go⟩
      rw [mixK_full] at go
      exact ⟨R, hlp, hsub, hd, hsz, .inl ⟨rs, rp, small_all hsm, gs, go, g3, g4⟩⟩
  · rintro h' ⟨R, hlp, hsub, hd, hsz, hor⟩
    rcases hor with ⟨hst, hpd, hall, gs, go, g3, g4⟩ | ⟨hst, hpd, hall, g3, g4⟩
    · refine ⟨R, hlp, by rw [hst]; decide, ?_⟩
      rw [hpd]
      show blockO _ _ .normal _
      simp -implicitDefEqProofs (disch := first | assumption | decide | omega | (simp only [wpD1] <;> omega) | (simp only [wpD2] <;> assumption) | solve_by_elim [HSub.refl, HSub.push, HSub.reserve] | fail) only [↓wpPre, wpPost, wpPoly, Int.reduceToNat, Int.reducePow, Int.reduceMul, Int.reduceAdd, Int.reduceSub, Int.reduceNeg, Nat.reduceAdd, Nat.reduceMul, Nat.reducePow, Int.reduceLT, Int.reduceLE, Int.reduceEq, Nat.reduceEqDiff, hd, gs, g3, g4]
      rw [if_pos hall, if_pos hall]
      refine ⟨_, rfl, (((hsub.put (by omega) _).put (by omega) _).put (by omega) _).put (by omega) _, SI.known (wr := true) (u := 0) ?_ ⟨(mixL_length l a s l.length).symm, by omega⟩ (Nat.le_refl _)⟩
      simp -implicitDefEqProofs (disch := first | assumption | decide | omega | (simp only [wpD1] <;> omega) | (simp only [wpD2] <;> assumption) | solve_by_elim [HSub.refl, HSub.push, HSub.reserve] | fail) only [↓wpPre, wpPost, wpPoly, Int.reduceToNat, Int.reducePow, Int.reduceMul, Int.reduceAdd, Int.reduceSub, Int.reduceNeg, Nat.reduceAdd, Nat.reduceMul, Nat.reducePow, Int.reduceLT, Int.reduceLE, Int.reduceEq, Nat.reduceEqDiff, go]
    · refine ⟨R, hlp, by rw [hst]; decide, ?_⟩
      rw [hpd]
      show blockO _ _ .ret _
      simp -implicitDefEqProofs (disch := first | assumption | decide | omega | (simp only [wpD1] <;> omega) | (simp only [wpD2] <;> assumption) | solve_by_elim [HSub.refl, HSub.push, HSub.reserve] | fail) only [↓wpPre, wpPost, wpPoly, Int.reduceToNat, Int.reducePow, Int.reduceMul, Int.reduceAdd, Int.reduceSub, Int.reduceNeg, Nat.reduceAdd, Nat.reduceMul, Nat.reducePow, Int.reduceLT, Int.reduceLE, Int.reduceEq, Nat.reduceEqDiff, hd, g3, g4]
      rw [if_neg hall, if_neg hall]
      exact ⟨_, rfl, (hsub.put (by omega) _).put (by omega) _, SI.nil⟩
theorem Mix_spec (hC : Has C T122) {v : AV} {l : List (Int × Int)} {a s : Int} {h : Heap} (hl : SI h v l) (ha : U32 a) :
    ACalls C 122 [v, nco a s] h (fun r h' => ∃ w, r = lstErr w (mixErr l) ∧ HSub h h' ∧ SI h' w (mixOut l a s)) := by
  have hlt := hl.lt
  unfold mixOut mixErr
  by_cases c : 1048576 < l.length
  · rw [if_pos c]
    unfold nco
    (refine calls_intro (hC.body (by decide) tab122) (Nat.le_of_ble_eq_true rfl) ?_); (show wp C _ none B122.code _ _); (simp only [B122]); simp -implicitDefEqProofs (disch := first | assumption | decide | omega | (simp only [wpD1] <;> omega) | (simp only [wpD2] <;> assumption) | solve_by_elim [HSub.refl, HSub.push, HSub.reserve] | fail) only [↓wpPre, wpPost, wpPoly, Int.reduceToNat, Int.reducePow, Int.reduceMul, Int.reduceAdd, Int.reduceSub, Int.reduceNeg, Nat.reduceAdd, Nat.reduceMul, Nat.reducePow, Int.reduceLT, Int.reduceLE, Int.reduceEq, Nat.reduceEqDiff, hl.len]
    exact ⟨_, rfl, HSub.push1 _ _, SI.nil⟩
  · rw [if_neg c]
    have hmp := fun (h1 : Heap) (hs : HSub h h1) => mapped_spec (hC.sub (T' := T136) (by decide)) (hC.sub (T' := T137) (by decide)) (a := a) (s := s) (hl.mono hs) (by omega) ha
    unfold nco at hmp ⊢
    (refine calls_intro (hC.body (by decide) tab122) (Nat.le_of_ble_eq_true rfl) ?_); (show wp C _ none B122.code _ _); (simp only [B122]); simp -implicitDefEqProofs (disch := first | assumption | decide | omega | (simp only [wpD1] <;> omega) | (simp only [wpD2] <;> assumption) | solve_by_elim [HSub.refl, HSub.push, HSub.reserve] | fail) only [↓wpPre, wpPost, wpPoly, Int.reduceToNat, Int.reducePow, Int.reduceMul, Int.reduceAdd, Int.reduceSub, Int.reduceNeg, Nat.reduceAdd, Nat.reduceMul, Nat.reducePow, Int.reduceLT, Int.reduceLE, Int.reduceEq, Nat.reduceEqDiff, hl.len]
    refine ACallsK.of (hmp _ (HSub.push1 _ _)) ?_
    rintro r h1 ⟨w, rfl, s1, R1⟩
    unfold lstErr
    simp -implicitDefEqProofs (disch := first | assumption | decide | omega | (simp only [wpD1] <;> omega) | (simp only [wpD2] <;> assumption) | solve_by_elim [HSub.refl, HSub.push, HSub.reserve] | fail) only [↓wpPre, wpPost, wpPoly, Int.reduceToNat, Int.reducePow, Int.reduceMul, Int.reduceAdd, Int.reduceSub, Int.reduceNeg, Nat.reduceAdd, Nat.reduceMul, Nat.reducePow, Int.reduceLT, Int.reduceLE, Int.reduceEq, Nat.reduceEqDiff]
    refine ⟨w, rfl, (HSub.push1 _ _).trans s1, ?_⟩
    by_cases c2 : ∀ x ∈ l, smallP x
    · rw [if_pos c2] at R1 ⊢; rwa [if_pos rfl]
    · rw [if_neg c2] at R1 ⊢; rwa [if_neg (by decide)]
set_option maxHeartbeats 1000000 in
theorem MixR_spec (hC : Has C T125) {v : AV} {l : List (Int × Int)} {a s : Int} {h : Heap} (hl : SI h v l) :
    ACalls C 125 [v, nco a s] h (fun r h' => ∃ w, r = lstErr w (mixErr l) ∧ HSub h h' ∧ SI h' w (mixOut l a s)) := by
  have hlt := hl.lt
  unfold mixOut mixErr
  by_cases c : 1048576 < l.length
  · rw [if_pos c]
    unfold nco
    (refine calls_intro (hC.body (by decide) tab125) (Nat.le_of_ble_eq_true rfl) ?_); (show wp C _ none B125.code _ _); (simp only [B125]); simp -implicitDefEqProofs (disch := first | assumption | decide | omega | (simp only [wpD1] <;> omega) | (simp only [wpD2] <;> assumption) | solve_by_elim [HSub.refl, HSub.push, HSub.reserve] | fail) only [↓wpPre, wpPost, wpPoly, Int.reduceToNat, Int.reducePow, Int.reduceMul, Int.reduceAdd, Int.reduceSub, Int.reduceNeg, Nat.reduceAdd, Nat.reduceMul, Nat.reducePow, Int.reduceLT, Int.reduceLE, Int.reduceEq, Nat.reduceEqDiff, hl.len]
    exact ⟨_, rfl, HSub.push1 _ _, SI.nil⟩
  · rw [if_neg c]
    have hph := fun (k : Int) h => PhaseR_spec (a := a) (s := s) (n := k) (h := h) (hC.sub (T' := T126) (by decide))
    unfold nco at hph ⊢
    (refine calls_intro (hC.body (by decide) tab125) (Nat.le_of_ble_eq_true rfl) ?_); (show wp C _ none B125.code _ _); (simp only [B125]); simp -implicitDefEqProofs (disch := first | assumption | decide | omega | (simp only [wpD1] <;> omega) | (simp only [wpD2] <;> assumption) | solve_by_elim [HSub.refl, HSub.push, HSub.reserve] | fail) only [↓wpPre, wpPost, wpPoly, Int.reduceToNat, Int.reducePow, Int.reduceMul, Int.reduceAdd, Int.reduceSub, Int.reduceNeg, Nat.reduceAdd, Nat.reduceMul, Nat.reducePow, Int.reduceLT, Int.reduceLE, Int.reduceEq, Nat.reduceEqDiff, hl.len]
    refine wp_loopI (fun j t h' => ∃ k : Nat, GrwS (h.push (.cells [.int .u32 a, .int .u32 s] true 0)) h' (t 6) (mixL l a s k) ∧ (∀ i, i < k → smallP (l.getD i (0, 0))) ∧ t 0 = v ∧ t 3 = .ptr h.size 0 ∧ t 7 = .int .i64 (k : Nat) ∧ k ≤ l.length ∧ j = l.length - k) (j0 := l.length)
      ⟨0, GrwS.nil _, fun i hi => by omega, rfl, rfl, rfl, by omega, rfl⟩ ?_
    rintro j t h2 ⟨k, A, hsm, e0, e3, e7, hk, hj⟩
    have gb : h2.get h.size = some (.cells [.int .u32 a, .int .u32 s] true 0) := (A.sub.get _ (by simp)).trans (get_push_eq rfl)
    have hsz := A.sub.size
    simp only [Heap.size_push] at hsz
    simp -implicitDefEqProofs (disch := first | assumption | decide | omega | (simp only [wpD1] <;> omega) | (simp only [wpD2] <;> assumption) | solve_by_elim [HSub.refl, HSub.push, HSub.reserve] | fail) only [↓wpPre, wpPost, wpPoly, Int.reduceToNat, Int.reducePow, Int.reduceMul, Int.reduceAdd, Int.reduceSub, Int.reduceNeg, Nat.reduceAdd, Nat.reduceMul, Nat.reducePow, Int.reduceLT, Int.reduceLE, Int.reduceEq, Nat.reduceEqDiff, e0, e7, hl.len]
    refine Br.by (fun c1 => ?_) (fun c1 => ?_)
    · have hk' : k < l.length := by omega
      have hca := fun h => WipeR_spec (hC.sub (T' := T138) (by decide)) (p := l.getD k (0, 0)) (h := h) (phI_u32 a s (k : Nat))
      have hlR := (hl.mono (((HSub.push1 _ _).trans A.sub).reserve 14)).loadA hk'
      have hlen := mixL_length l a s k
      simp -implicitDefEqProofs (disch := first | assumption | decide | omega | (simp only [wpD1] <;> omega) | (simp only [wpD2] <;> assumption) | solve_by_elim [HSub.refl, HSub.push, HSub.reserve] | fail) only [↓wpPre, wpPost, wpPoly, Int.reduceToNat, Int.reducePow, Int.reduceMul, Int.reduceAdd, Int.reduceSub, Int.reduceNeg, Nat.reduceAdd, Nat.reduceMul, Nat.reducePow, Int.reduceLT, Int.reduceLE, Int.reduceEq, Nat.reduceEqDiff, e0, e3, gb, e7, hl.idx, hlR]
      refine ACallsK.eq (hph _ _) ?_
      simp -implicitDefEqProofs (disch := first | assumption | decide | omega | (simp only [wpD1] <;> omega) | (simp only [wpD2] <;> assumption) | solve_by_elim [HSub.refl, HSub.push, HSub.reserve] | fail) only [↓wpPre, wpPost, wpPoly, Int.reduceToNat, Int.reducePow, Int.reduceMul, Int.reduceAdd, Int.reduceSub, Int.reduceNeg, Nat.reduceAdd, Nat.reduceMul, Nat.reducePow, Int.reduceLT, Int.reduceLE, Int.reduceEq, Nat.reduceEqDiff]
      refine ACallsK.eq (hca _) ?_
      by_cases c : smallP (l.getD k (0, 0))
      · rw [wipeE, if_pos c]
        unfold smp
        have hsucc := mixL_succ l a s k
        have hH := fun b1 b2 => (show HSub h2 (((h2.reserve 14).put (h2.size + 11) b1).push b2) from (by repeat (first | exact HSub.refl _ | refine HSub.put ?_ (by (try simp only [Heap.size_put, Heap.size_push, Heap.size_reserve]); omega) _ | refine HSub.push ?_ _ | refine HSub.reserve ?_ _)))
        have hap := fun b1 b2 => A.app (x := (mixP (l.getD k (0, 0)) (carP (phI a s k))).1) (y := (mixP (l.getD k (0, 0)) (carP (phI a s k))).2) _ (hH b1 b2) (by omega)
        have A2 := fun b1 b2 => A.snoc (x := (mixP (l.getD k (0, 0)) (carP (phI a s k))).1) (y := (mixP (l.getD k (0, 0)) (carP (phI a s k))).2) (hH b1 b2) (by omega)
        rw [show ((mixP (l.getD k (0, 0)) (carP (phI a s k))).1, (mixP (l.getD k (0, 0)) (carP (phI a s k))).2) = mixP (l.getD k (0, 0)) (carP (phI a s k)) from rfl, ← hsucc, hlen] at A2 hap
        simp only [Heap.size_push, Heap.size_put, Heap.size_reserve] at hap A2
        simp -implicitDefEqProofs (disch := first | assumption | decide | omega | (simp only [wpD1] <;> omega) | (simp only [wpD2] <;> assumption) | solve_by_elim [HSub.refl, HSub.push, HSub.reserve] | fail) only [↓wpPre, wpPost, wpPoly, Int.reduceToNat, Int.reducePow, Int.reduceMul, Int.reduceAdd, Int.reduceSub, Int.reduceNeg, Nat.reduceAdd, Nat.reduceMul, Nat.reducePow, Int.reduceLT, Int.reduceLE, Int.reduceEq, Nat.reduceEqDiff, Heap.wf, cont_slice, contB_two, hap, e0, e3, e7]
        exact ⟨_, ⟨k + 1, A2 _ _, fun i hi => (by
          rcases Nat.lt_or_ge i k with x | x
          · exact hsm i x
          · have : i = k := by omega
            subst this; exact c), by simp, by omega, rfl⟩, by omega⟩
      · rw [wipeE, if_neg c]
        unfold smp
        simp -implicitDefEqProofs (disch := first | assumption | decide | omega | (simp only [wpD1] <;> omega) | (simp only [wpD2] <;> assumption) | solve_by_elim [HSub.refl, HSub.push, HSub.reserve] | fail) only [↓wpPre, wpPost, wpPoly, Int.reduceToNat, Int.reducePow, Int.reduceMul, Int.reduceAdd, Int.reduceSub, Int.reduceNeg, Nat.reduceAdd, Nat.reduceMul, Nat.reducePow, Int.reduceLT, Int.reduceLE, Int.reduceEq, Nat.reduceEqDiff, Heap.wf]
        have hall : ¬ ∀ x ∈ l, smallP x := fun hall => c (hall _ (getP_mem hk'))
        rw [if_neg hall, if_neg (by decide)]
        refine ⟨_, rfl, (by repeat (first | exact (HSub.push1 _ _).trans A.sub | refine HSub.put ?_ (by (try simp only [Heap.size_put, Heap.size_push, Heap.size_reserve]); omega) _ | refine HSub.push ?_ _ | refine HSub.reserve ?_ _)), SI.nil⟩
    · have ek : k = l.length := by omega
      subst ek
      have hall := small_all hsm
      rw [if_pos hall, if_pos rfl]
      simp -implicitDefEqProofs (disch := first | assumption | decide | omega | (simp only [wpD1] <;> omega) | (simp only [wpD2] <;> assumption) | solve_by_elim [HSub.refl, HSub.push, HSub.reserve] | fail) only [↓wpPre, wpPost, wpPoly, Int.reduceToNat, Int.reducePow, Int.reduceMul, Int.reduceAdd, Int.reduceSub, Int.reduceNeg, Nat.reduceAdd, Nat.reduceMul, Nat.reducePow, Int.reduceLT, Int.reduceLE, Int.reduceEq, Nat.reduceEqDiff]
      exact ⟨_, rfl, (HSub.push1 _ _).trans A.sub, A.si⟩
end
end Go.Ae

/- The statements on waves and on sums of mixes of layer 11. -/
set_option linter.unusedSimpArgs false
set_option linter.unusedVariables false
namespace Go.Ae
theorem eqs_nco {a b c d : Int} : eqsA false [(0, false), (1, false)] (.agg [.int .u32 a, .int .u32 b]) (.agg [.int .u32 c, .int .u32 d]) = some (.bool (decide (a = c ∧ b = d))) := eqs_two_f
section
variable {C : Ctx}
theorem LaterR_spec (hC : Has C T128) {a s n : Int} {h : Heap} : ACalls C 128 [nco a s, .int .i64 n] h (fun r h' => r = nco (phI a s n) s ∧ h' = h) := by
  refine ACalls.gc0 (P := fun r h' => r = nco (phI a s n) s ∧ HSub h h') ?_ (fun r h' hp => ⟨by rw [hp.1]; simp [nco, AV.free, AV.bel, AV.bels], hp.2, hp.1, rfl⟩)
  have hp := fun h => PhaseR_spec (a := a) (s := s) (n := n) (h := h) (hC.sub (T' := T126) (by decide))
  unfold nco at hp ⊢
  (refine calls_intro (hC.body (by decide) tab128) (Nat.le_of_ble_eq_true rfl) ?_); (show wp C _ none B128.code _ _); (simp only [B128]); simp -implicitDefEqProofs (disch := first | assumption | decide | omega | (simp only [wpD1] <;> omega) | (simp only [wpD2] <;> assumption) | solve_by_elim [HSub.refl, HSub.push, HSub.reserve] | fail) only [↓wpPre, wpPost, wpPoly, Int.reduceToNat, Int.reducePow, Int.reduceMul, Int.reduceAdd, Int.reduceSub, Int.reduceNeg, Nat.reduceAdd, Nat.reduceMul, Nat.reducePow, Int.reduceLT, Int.reduceLE, Int.reduceEq, Nat.reduceEqDiff]
  refine ACallsK.eq (hp _) ?_
  simp -implicitDefEqProofs (disch := first | assumption | decide | omega | (simp only [wpD1] <;> omega) | (simp only [wpD2] <;> assumption) | solve_by_elim [HSub.refl, HSub.push, HSub.reserve] | fail) only [↓wpPre, wpPost, wpPoly, Int.reduceToNat, Int.reducePow, Int.reduceMul, Int.reduceAdd, Int.reduceSub, Int.reduceNeg, Nat.reduceAdd, Nat.reduceMul, Nat.reducePow, Int.reduceLT, Int.reduceLE, Int.reduceEq, Nat.reduceEqDiff]
  exact (HSub.push1 _ _).push _
theorem DeltaR_spec (hC : Has C T140) {a b : Int} {h : Heap} : ACalls C 140 [.int .u32 a, .int .u32 b] h (fun r h' => r = .int .i64 (sg32 ((a - b) % 4294967296)) ∧ h' = h) := by
  have h1 := Int.emod_nonneg ((a - b) % 4294967296) (show (4294967296 : Int) ≠ 0 by decide)
  have h2 := Int.emod_lt_of_pos ((a - b) % 4294967296) (show (0 : Int) < 4294967296 by decide)
  have h3 : -2147483648 ≤ sg32 ((a - b) % 4294967296) ∧ sg32 ((a - b) % 4294967296) ≤ 2147483647 := by unfold sg32; split <;> omega
  have h4 : IntKind.i64.wrap (sg32 ((a - b) % 4294967296)) = sg32 ((a - b) % 4294967296) := w_i64 (by omega)
  (refine calls_intro (hC.body (by decide) tab140) (Nat.le_of_ble_eq_true rfl) ?_); (show wp C _ none B140.code _ _); (simp only [B140]); simp -implicitDefEqProofs (disch := first | assumption | decide | omega | (simp only [wpD1] <;> omega) | (simp only [wpD2] <;> assumption) | solve_by_elim [HSub.refl, HSub.push, HSub.reserve] | fail) only [↓wpPre, wpPost, wpPoly, Int.reduceToNat, Int.reducePow, Int.reduceMul, Int.reduceAdd, Int.reduceSub, Int.reduceNeg, Nat.reduceAdd, Nat.reduceMul, Nat.reducePow, Int.reduceLT, Int.reduceLE, Int.reduceEq, Nat.reduceEqDiff, wrap_u32, wrap_i32, h4]
theorem ApartR_spec (hC : Has C T129) {a s b t n : Int} {h : Heap} : ACalls C 129 [nco a s, nco b t, .int .i64 n] h (fun r h' => r = .int .i64 (sg32 ((phI a s n - phI b t n) % 4294967296)) ∧ h' = h) := by
  refine ACalls.gc0 (P := fun r h' => r = .int .i64 (sg32 ((phI a s n - phI b t n) % 4294967296)) ∧ HSub h h') ?_ (fun r h' hp => ⟨by rw [hp.1]; trivial, hp.2, hp.1, rfl⟩)
  have h1 := fun h => PhaseR_spec (a := a) (s := s) (n := n) (h := h) (hC.sub (T' := T126) (by decide))
  have h2 := fun h => PhaseR_spec (a := b) (s := t) (n := n) (h := h) (hC.sub (T' := T126) (by decide))
  unfold nco at h1 h2 ⊢
  (refine calls_intro (hC.body (by decide) tab129) (Nat.le_of_ble_eq_true rfl) ?_); (show wp C _ none B129.code _ _); (simp only [B129]); simp -implicitDefEqProofs (disch := first | assumption | decide | omega | (simp only [wpD1] <;> omega) | (simp only [wpD2] <;> assumption) | solve_by_elim [HSub.refl, HSub.push, HSub.reserve] | fail) only [↓wpPre, wpPost, wpPoly, Int.reduceToNat, Int.reducePow, Int.reduceMul, Int.reduceAdd, Int.reduceSub, Int.reduceNeg, Nat.reduceAdd, Nat.reduceMul, Nat.reducePow, Int.reduceLT, Int.reduceLE, Int.reduceEq, Nat.reduceEqDiff]
  refine ACallsK.eq (h1 _) ?_
  simp -implicitDefEqProofs (disch := first | assumption | decide | omega | (simp only [wpD1] <;> omega) | (simp only [wpD2] <;> assumption) | solve_by_elim [HSub.refl, HSub.push, HSub.reserve] | fail) only [↓wpPre, wpPost, wpPoly, Int.reduceToNat, Int.reducePow, Int.reduceMul, Int.reduceAdd, Int.reduceSub, Int.reduceNeg, Nat.reduceAdd, Nat.reduceMul, Nat.reducePow, Int.reduceLT, Int.reduceLE, Int.reduceEq, Nat.reduceEqDiff]
  refine ACallsK.eq (h2 _) ?_
  simp -implicitDefEqProofs (disch := first | assumption | decide | omega | (simp only [wpD1] <;> omega) | (simp only [wpD2] <;> assumption) | solve_by_elim [HSub.refl, HSub.push, HSub.reserve] | fail) only [↓wpPre, wpPost, wpPoly, Int.reduceToNat, Int.reducePow, Int.reduceMul, Int.reduceAdd, Int.reduceSub, Int.reduceNeg, Nat.reduceAdd, Nat.reduceMul, Nat.reducePow, Int.reduceLT, Int.reduceLE, Int.reduceEq, Nat.reduceEqDiff]
  refine ACallsK.eq (DeltaR_spec (hC.sub (T' := T140) (by decide))) ?_
  simp -implicitDefEqProofs (disch := first | assumption | decide | omega | (simp only [wpD1] <;> omega) | (simp only [wpD2] <;> assumption) | solve_by_elim [HSub.refl, HSub.push, HSub.reserve] | fail) only [↓wpPre, wpPost, wpPoly, Int.reduceToNat, Int.reducePow, Int.reduceMul, Int.reduceAdd, Int.reduceSub, Int.reduceNeg, Nat.reduceAdd, Nat.reduceMul, Nat.reducePow, Int.reduceLT, Int.reduceLE, Int.reduceEq, Nat.reduceEqDiff]
  exact (HSub.push1 _ _).push _
set_option maxHeartbeats 2000000 in
set_option maxRecDepth 20000 in
theorem NcoWaves_law (hC : Has C T110) {a s b t n m : Int} {v : AV} {l : List (Int × Int)} {h : Heap} (ha : U32 a) (hs : U32 s) (hb : U32 b) (ht : U32 t) (hn : In64 n) (hm : In64 m) (hl : SI h v l) (_hx : ∀ p ∈ l, In64 p.1 ∧ In64 p.2) :
    ACalls C 110 [.agg [.int .u32 a, .int .u32 s], .agg [.int .u32 b, .int .u32 t], .int .i64 n, .int .i64 m, v] h (fun r _ => r = .bool true) := by
  have hlt := hl.lt
  have hm' := hm
  unfold In64 at hm'
  have key : (200 < m ∧ m ≤ 100000) ∨ (m ≤ 200 ∨ 100000 < m) := by omega
  rcases key with c | c
  · (refine calls_intro (hC.body (by decide) tab110) (Nat.le_of_ble_eq_true rfl) ?_); (show wp C _ none B110.code _ _); (simp only [B110]); simp -implicitDefEqProofs (disch := first | assumption | decide | omega | (simp only [wpD1] <;> omega) | (simp only [wpD2] <;> assumption) | solve_by_elim [HSub.refl, HSub.push, HSub.reserve] | fail) only [↓wpPre, wpPost, wpPoly, Int.reduceToNat, Int.reducePow, Int.reduceMul, Int.reduceAdd, Int.reduceSub, Int.reduceNeg, Nat.reduceAdd, Nat.reduceMul, Nat.reducePow, Int.reduceLT, Int.reduceLE, Int.reduceEq, Nat.reduceEqDiff]
    refine ACallsK.eq (awake11_spec (hC.sub (T' := T116) (by decide))) ?_
    simp -implicitDefEqProofs (disch := first | assumption | decide | omega | (simp only [wpD1] <;> omega) | (simp only [wpD2] <;> assumption) | solve_by_elim [HSub.refl, HSub.push, HSub.reserve] | fail) only [↓wpPre, wpPost, wpPoly, Int.reduceToNat, Int.reducePow, Int.reduceMul, Int.reduceAdd, Int.reduceSub, Int.reduceNeg, Nat.reduceAdd, Nat.reduceMul, Nat.reducePow, Int.reduceLT, Int.reduceLE, Int.reduceEq, Nat.reduceEqDiff]
  · by_cases c2 : 200 < l.length
    · rcases c with c | c
      all_goals
        (refine calls_intro (hC.body (by decide) tab110) (Nat.le_of_ble_eq_true rfl) ?_); (show wp C _ none B110.code _ _); (simp only [B110]); simp -implicitDefEqProofs (disch := first | assumption | decide | omega | (simp only [wpD1] <;> omega) | (simp only [wpD2] <;> assumption) | solve_by_elim [HSub.refl, HSub.push, HSub.reserve] | fail) only [↓wpPre, wpPost, wpPoly, Int.reduceToNat, Int.reducePow, Int.reduceMul, Int.reduceAdd, Int.reduceSub, Int.reduceNeg, Nat.reduceAdd, Nat.reduceMul, Nat.reducePow, Int.reduceLT, Int.reduceLE, Int.reduceEq, Nat.reduceEqDiff, hl.len]
        refine ACallsK.eq (awake11_spec (hC.sub (T' := T116) (by decide))) ?_
        simp -implicitDefEqProofs (disch := first | assumption | decide | omega | (simp only [wpD1] <;> omega) | (simp only [wpD2] <;> assumption) | solve_by_elim [HSub.refl, HSub.push, HSub.reserve] | fail) only [↓wpPre, wpPost, wpPoly, Int.reduceToNat, Int.reducePow, Int.reduceMul, Int.reduceAdd, Int.reduceSub, Int.reduceNeg, Nat.reduceAdd, Nat.reduceMul, Nat.reducePow, Int.reduceLT, Int.reduceLE, Int.reduceEq, Nat.reduceEqDiff]
    · have w1 := fun h => Wave_spec (hC.sub (T' := T121) (by decide)) (a := a) (s := s) (n := m) (h := h) ha hm
      have w2 := fun h => WaveR_spec (hC.sub (T' := T124) (by decide)) (a := a) (s := s) (n := m) (h := h) hm
      have x1 := fun (h1 : Heap) (q : HSub h h1) => Mix_spec (hC.sub (T' := T122) (by decide)) (a := a) (s := s) (hl.mono q) ha
      have x2 := fun (h1 : Heap) (q : HSub h h1) => MixR_spec (hC.sub (T' := T125) (by decide)) (a := a) (s := s) (hl.mono q)
      have p1 := fun h => Phase_spec (a := a) (s := s) (n := n) (h := h) (hC.sub (T' := T119) (by decide))
      have p2 := fun h => PhaseR_spec (a := a) (s := s) (n := n) (h := h) (hC.sub (T' := T126) (by decide))
      have l1 := fun h => Later_spec (a := a) (s := s) (n := n) (h := h) (hC.sub (T' := T127) (by decide))
      have l2 := fun h => LaterR_spec (a := a) (s := s) (n := n) (h := h) (hC.sub (T' := T128) (by decide))
      have d1 := fun h => Apart_spec (a := a) (s := s) (b := b) (t := t) (n := n) (h := h) (hC.sub (T' := T120) (by decide))
      have d2 := fun h => ApartR_spec (a := a) (s := s) (b := b) (t := t) (n := n) (h := h) (hC.sub (T' := T129) (by decide))
      unfold nco at w1 w2 x1 x2 p1 p2 l1 l2 d1 d2
      rcases c with c | c
      all_goals
        (refine calls_intro (hC.body (by decide) tab110) (Nat.le_of_ble_eq_true rfl) ?_); (show wp C _ none B110.code _ _); (simp only [B110]); simp -implicitDefEqProofs (disch := first | assumption | decide | omega | (simp only [wpD1] <;> omega) | (simp only [wpD2] <;> assumption) | solve_by_elim [HSub.refl, HSub.push, HSub.reserve] | fail) only [↓wpPre, wpPost, wpPoly, Int.reduceToNat, Int.reducePow, Int.reduceMul, Int.reduceAdd, Int.reduceSub, Int.reduceNeg, Nat.reduceAdd, Nat.reduceMul, Nat.reducePow, Int.reduceLT, Int.reduceLE, Int.reduceEq, Nat.reduceEqDiff, hl.len]
        refine ACallsK.of (w1 _) ?_
        rintro r h1 ⟨v1, rfl, s1, R1⟩
        have u1 : HSub h h1 := ((HSub.push1 _ _).push _).trans s1
        have g1 := s1.get
        simp -implicitDefEqProofs (disch := first | assumption | decide | omega | (simp only [wpD1] <;> omega) | (simp only [wpD2] <;> assumption) | solve_by_elim [HSub.refl, HSub.push, HSub.reserve] | fail) only [↓wpPre, wpPost, wpPoly, Int.reduceToNat, Int.reducePow, Int.reduceMul, Int.reduceAdd, Int.reduceSub, Int.reduceNeg, Nat.reduceAdd, Nat.reduceMul, Nat.reducePow, Int.reduceLT, Int.reduceLE, Int.reduceEq, Nat.reduceEqDiff, lstErr, g1]
        refine ACallsK.of (w2 _) ?_
        rintro r h2 ⟨v2, rfl, s2, R2⟩
        have u2 := u1.trans s2
        have g2 := s2.get
        have z1 := s1.size
        simp only [Heap.size_push] at z1
        simp -implicitDefEqProofs (disch := first | assumption | decide | omega | (simp only [wpD1] <;> omega) | (simp only [wpD2] <;> assumption) | solve_by_elim [HSub.refl, HSub.push, HSub.reserve] | fail) only [↓wpPre, wpPost, wpPoly, Int.reduceToNat, Int.reducePow, Int.reduceMul, Int.reduceAdd, Int.reduceSub, Int.reduceNeg, Nat.reduceAdd, Nat.reduceMul, Nat.reducePow, Int.reduceLT, Int.reduceLE, Int.reduceEq, Nat.reduceEqDiff, lstErr, g2, g1]
        refine ACallsK.of (x1 _ u2) ?_
        rintro r h3 ⟨v3, rfl, s3, R3⟩
        have u3 := u2.trans s3
        have g3 := s3.get
        have z2 := s2.size
        simp -implicitDefEqProofs (disch := first | assumption | decide | omega | (simp only [wpD1] <;> omega) | (simp only [wpD2] <;> assumption) | solve_by_elim [HSub.refl, HSub.push, HSub.reserve] | fail) only [↓wpPre, wpPost, wpPoly, Int.reduceToNat, Int.reducePow, Int.reduceMul, Int.reduceAdd, Int.reduceSub, Int.reduceNeg, Nat.reduceAdd, Nat.reduceMul, Nat.reducePow, Int.reduceLT, Int.reduceLE, Int.reduceEq, Nat.reduceEqDiff, lstErr, g3, g2, g1]
        refine ACallsK.of (x2 _ u3) ?_
        rintro r h4 ⟨v4, rfl, s4, R4⟩
        have u4 := u3.trans s4
        have g4 := s4.get
        have z3 := s3.size
        have R1' := R1.mono (s2.trans (s3.trans s4))
        have R2' := R2.mono (s3.trans s4)
        have R3' := R3.mono s4
        have sp1 := Samples_spec (hC.sub (T' := T123) (by decide)) R1' R2'
        have sp2 := Samples_spec (hC.sub (T' := T123) (by decide)) R3' R4
        rw [decide_eq_true rfl] at sp1 sp2
        simp -implicitDefEqProofs (disch := first | assumption | decide | omega | (simp only [wpD1] <;> omega) | (simp only [wpD2] <;> assumption) | solve_by_elim [HSub.refl, HSub.push, HSub.reserve] | fail) only [↓wpPre, wpPost, wpPoly, Int.reduceToNat, Int.reducePow, Int.reduceMul, Int.reduceAdd, Int.reduceSub, Int.reduceNeg, Nat.reduceAdd, Nat.reduceMul, Nat.reducePow, Int.reduceLT, Int.reduceLE, Int.reduceEq, Nat.reduceEqDiff, lstErr, g4, g3, g2, g1]
        refine ACallsK.eq (p1 _) ?_
        simp -implicitDefEqProofs (disch := first | assumption | decide | omega | (simp only [wpD1] <;> omega) | (simp only [wpD2] <;> assumption) | solve_by_elim [HSub.refl, HSub.push, HSub.reserve] | fail) only [↓wpPre, wpPost, wpPoly, Int.reduceToNat, Int.reducePow, Int.reduceMul, Int.reduceAdd, Int.reduceSub, Int.reduceNeg, Nat.reduceAdd, Nat.reduceMul, Nat.reducePow, Int.reduceLT, Int.reduceLE, Int.reduceEq, Nat.reduceEqDiff]
        refine ACallsK.eq (p2 _) ?_
        simp -implicitDefEqProofs (disch := first | assumption | decide | omega | (simp only [wpD1] <;> omega) | (simp only [wpD2] <;> assumption) | solve_by_elim [HSub.refl, HSub.push, HSub.reserve] | fail) only [↓wpPre, wpPost, wpPoly, Int.reduceToNat, Int.reducePow, Int.reduceMul, Int.reduceAdd, Int.reduceSub, Int.reduceNeg, Nat.reduceAdd, Nat.reduceMul, Nat.reducePow, Int.reduceLT, Int.reduceLE, Int.reduceEq, Nat.reduceEqDiff, g4, g3, g2, g1]
        refine ACallsK.eq (l1 _) ?_
        simp -implicitDefEqProofs (disch := first | assumption | decide | omega | (simp only [wpD1] <;> omega) | (simp only [wpD2] <;> assumption) | solve_by_elim [HSub.refl, HSub.push, HSub.reserve] | fail) only [↓wpPre, wpPost, wpPoly, Int.reduceToNat, Int.reducePow, Int.reduceMul, Int.reduceAdd, Int.reduceSub, Int.reduceNeg, Nat.reduceAdd, Nat.reduceMul, Nat.reducePow, Int.reduceLT, Int.reduceLE, Int.reduceEq, Nat.reduceEqDiff]
        refine ACallsK.eq (l2 _) ?_
        simp -implicitDefEqProofs (disch := first | assumption | decide | omega | (simp only [wpD1] <;> omega) | (simp only [wpD2] <;> assumption) | solve_by_elim [HSub.refl, HSub.push, HSub.reserve] | fail) only [↓wpPre, wpPost, wpPoly, Int.reduceToNat, Int.reducePow, Int.reduceMul, Int.reduceAdd, Int.reduceSub, Int.reduceNeg, Nat.reduceAdd, Nat.reduceMul, Nat.reducePow, Int.reduceLT, Int.reduceLE, Int.reduceEq, Nat.reduceEqDiff, eqs_nco, g4, g3, g2, g1]
        refine ACallsK.eq (d1 _) ?_
        simp -implicitDefEqProofs (disch := first | assumption | decide | omega | (simp only [wpD1] <;> omega) | (simp only [wpD2] <;> assumption) | solve_by_elim [HSub.refl, HSub.push, HSub.reserve] | fail) only [↓wpPre, wpPost, wpPoly, Int.reduceToNat, Int.reducePow, Int.reduceMul, Int.reduceAdd, Int.reduceSub, Int.reduceNeg, Nat.reduceAdd, Nat.reduceMul, Nat.reducePow, Int.reduceLT, Int.reduceLE, Int.reduceEq, Nat.reduceEqDiff]
        refine ACallsK.eq (d2 _) ?_
        simp -implicitDefEqProofs (disch := first | assumption | decide | omega | (simp only [wpD1] <;> omega) | (simp only [wpD2] <;> assumption) | solve_by_elim [HSub.refl, HSub.push, HSub.reserve] | fail) only [↓wpPre, wpPost, wpPoly, Int.reduceToNat, Int.reducePow, Int.reduceMul, Int.reduceAdd, Int.reduceSub, Int.reduceNeg, Nat.reduceAdd, Nat.reduceMul, Nat.reducePow, Int.reduceLT, Int.reduceLE, Int.reduceEq, Nat.reduceEqDiff]
        refine ACallsK.eq sp1 ?_
        simp -implicitDefEqProofs (disch := first | assumption | decide | omega | (simp only [wpD1] <;> omega) | (simp only [wpD2] <;> assumption) | solve_by_elim [HSub.refl, HSub.push, HSub.reserve] | fail) only [↓wpPre, wpPost, wpPoly, Int.reduceToNat, Int.reducePow, Int.reduceMul, Int.reduceAdd, Int.reduceSub, Int.reduceNeg, Nat.reduceAdd, Nat.reduceMul, Nat.reducePow, Int.reduceLT, Int.reduceLE, Int.reduceEq, Nat.reduceEqDiff]
        refine ACallsK.eq sp2 ?_
        simp -implicitDefEqProofs (disch := first | assumption | decide | omega | (simp only [wpD1] <;> omega) | (simp only [wpD2] <;> assumption) | solve_by_elim [HSub.refl, HSub.push, HSub.reserve] | fail) only [↓wpPre, wpPost, wpPoly, Int.reduceToNat, Int.reducePow, Int.reduceMul, Int.reduceAdd, Int.reduceSub, Int.reduceNeg, Nat.reduceAdd, Nat.reduceMul, Nat.reducePow, Int.reduceLT, Int.reduceLE, Int.reduceEq, Nat.reduceEqDiff]
        refine ACallsK.eq (awake11_spec (hC.sub (T' := T116) (by decide))) ?_
        simp -implicitDefEqProofs (disch := first | assumption | decide | omega | (simp only [wpD1] <;> omega) | (simp only [wpD2] <;> assumption) | solve_by_elim [HSub.refl, HSub.push, HSub.reserve] | fail) only [↓wpPre, wpPost, wpPoly, Int.reduceToNat, Int.reducePow, Int.reduceMul, Int.reduceAdd, Int.reduceSub, Int.reduceNeg, Nat.reduceAdd, Nat.reduceMul, Nat.reducePow, Int.reduceLT, Int.reduceLE, Int.reduceEq, Nat.reduceEqDiff]
end
end Go.Ae

/- The statement on later oscillators of layer 11. -/
set_option linter.unusedSimpArgs false
set_option linter.unusedVariables false
namespace Go.Ae
theorem wrap_mod (x : Int) : IntKind.i64.wrap x % 4294967296 = x % 4294967296 := by
  rw [IntKind.wrap_i64]
  omega
theorem phI_wrap (a s x : Int) : phI a s (IntKind.i64.wrap x) = phI a s x := by
  unfold phI
  rw [wrap_mod]
theorem waveL_drop (a s : Int) (m n : Nat) : (waveL a s (m + n)).drop m = waveL (phI a s (m : Nat)) s n := by
  refine List.ext_getElem (by simp [waveL]) fun i h1 h2 => ?_
  simp only [waveL, List.getElem_drop, List.getElem_map, List.getElem_range]
  rw [phI_later, Int.natCast_add]
theorem mix_own (t : Int × Int) : mixP t t = (t.1 * t.1 + t.2 * t.2, 0) := by
  unfold mixP
  rw [Int.mul_comm t.2 t.1, Int.sub_self]
theorem waveL_small (a s : Int) (n : Nat) : ∀ x ∈ waveL a s n, smallP x := by
  intro x hx
  obtain ⟨i, _, rfl⟩ := List.mem_map.1 hx
  have := carP_le (phI_u32 a s (i : Nat))
  unfold smallP
  omega
theorem sg_apart (a s m n : Int) : sg32 ((phI (phI a s m) s n - phI a s n) % 4294967296) = sg32 ((phI (phI a s m) 0 0 - phI a 0 0) % 4294967296) := by
  have e : (phI (phI a s m) s n - phI a s n) % 4294967296 = (phI (phI a s m) 0 0 - phI a 0 0) % 4294967296 := by
    rw [phI_later]
    simp only [phI_eq, Int.mul_zero, Int.add_zero, Int.emod_emod, ← Int.sub_emod]
    congr 1
    rw [Int.mul_add]
    omega
  rw [e]
section
variable {C : Ctx}
set_option maxHeartbeats 4000000 in
set_option maxRecDepth 20000 in
theorem NcoLater_law (hC : Has C T111) {a s m0 n many0 : Int} {h : Heap} (ha : U32 a) (_hs : U32 s) (hm0 : In64 m0) (hn : In64 n) (hy0 : In64 many0) :
    ACalls C 111 [.agg [.int .u32 a, .int .u32 s], .int .i64 m0, .int .i64 n, .int .i64 many0] h (fun r _ => r = .bool true) := by
  have f1 := Int.emod_nonneg m0 (show (51 : Int) ≠ 0 by decide)
  have f2 := Int.emod_lt_of_pos m0 (show (0 : Int) < 51 by decide)
  have f3 := Int.emod_nonneg many0 (show (61 : Int) ≠ 0 by decide)
  have f4 := Int.emod_lt_of_pos many0 (show (0 : Int) < 61 by decide)
  obtain ⟨m, hm⟩ := Int.eq_ofNat_of_zero_le f1
  obtain ⟨y, hy⟩ := Int.eq_ofNat_of_zero_le f3
  have T1 := fun h => Turn_spec (h := h) (hC.sub (T' := T23) (by decide)) hm0 (n := 51) (by decide)
  have T2 := fun h => Turn_spec (h := h) (hC.sub (T' := T23) (by decide)) hy0 (n := 61) (by decide)
  rw [hm] at T1
  rw [hy] at T2
  have hL := fun h => Later_spec (a := a) (s := s) (n := (m : Nat)) (h := h) (hC.sub (T' := T127) (by decide))
  have w1 := fun h => Wave_specK (hC.sub (T' := T121) (by decide)) (a := a) (s := s) (n := ((m + y : Nat) : Int)) (h := h) ha (by unfold In64; omega)
  have w2 := fun h => Wave_spec (hC.sub (T' := T121) (by decide)) (a := phI a s (m : Nat)) (s := s) (n := (y : Nat)) (h := h) (phI_u32 _ _ _) (by unfold In64; omega)
  have e1 : waveErr ((m + y : Nat) : Int) = 0 := by unfold waveErr; rw [if_neg (by omega)]
  have e2 : waveErr ((y : Nat) : Int) = 0 := by unfold waveErr; rw [if_neg (by omega)]
  rw [e1, if_pos rfl, Int.toNat_natCast] at w1
  rw [e2, if_pos rfl, Int.toNat_natCast] at w2
  have k1 := waveL_length a s (m + y)
  have me : mixErr (waveL a s (m + y)) = 0 := by unfold mixErr; rw [if_neg (by omega), if_pos (waveL_small _ _ _)]
  unfold nco at hL w1 w2
  (refine calls_intro (hC.body (by decide) tab111) (Nat.le_of_ble_eq_true rfl) ?_); (show wp C _ none B111.code _ _); (simp only [B111]); simp -implicitDefEqProofs (disch := first | assumption | decide | omega | (simp only [wpD1] <;> omega) | (simp only [wpD2] <;> assumption) | solve_by_elim [HSub.refl, HSub.push, HSub.reserve] | fail) only [↓wpPre, wpPost, wpPoly, Int.reduceToNat, Int.reducePow, Int.reduceMul, Int.reduceAdd, Int.reduceSub, Int.reduceNeg, Nat.reduceAdd, Nat.reduceMul, Nat.reducePow, Int.reduceLT, Int.reduceLE, Int.reduceEq, Nat.reduceEqDiff]
  refine ACallsK.eq (known11_spec (hC.sub (T' := T108) (by decide))) ?_
  simp -implicitDefEqProofs (disch := first | assumption | decide | omega | (simp only [wpD1] <;> omega) | (simp only [wpD2] <;> assumption) | solve_by_elim [HSub.refl, HSub.push, HSub.reserve] | fail) only [↓wpPre, wpPost, wpPoly, Int.reduceToNat, Int.reducePow, Int.reduceMul, Int.reduceAdd, Int.reduceSub, Int.reduceNeg, Nat.reduceAdd, Nat.reduceMul, Nat.reducePow, Int.reduceLT, Int.reduceLE, Int.reduceEq, Nat.reduceEqDiff]
  refine ACallsK.eq (T1 _) ?_
  simp -implicitDefEqProofs (disch := first | assumption | decide | omega | (simp only [wpD1] <;> omega) | (simp only [wpD2] <;> assumption) | solve_by_elim [HSub.refl, HSub.push, HSub.reserve] | fail) only [↓wpPre, wpPost, wpPoly, Int.reduceToNat, Int.reducePow, Int.reduceMul, Int.reduceAdd, Int.reduceSub, Int.reduceNeg, Nat.reduceAdd, Nat.reduceMul, Nat.reducePow, Int.reduceLT, Int.reduceLE, Int.reduceEq, Nat.reduceEqDiff]
  refine ACallsK.eq (T2 _) ?_
  simp -implicitDefEqProofs (disch := first | assumption | decide | omega | (simp only [wpD1] <;> omega) | (simp only [wpD2] <;> assumption) | solve_by_elim [HSub.refl, HSub.push, HSub.reserve] | fail) only [↓wpPre, wpPost, wpPoly, Int.reduceToNat, Int.reducePow, Int.reduceMul, Int.reduceAdd, Int.reduceSub, Int.reduceNeg, Nat.reduceAdd, Nat.reduceMul, Nat.reducePow, Int.reduceLT, Int.reduceLE, Int.reduceEq, Nat.reduceEqDiff]
  refine ACallsK.eq (hL _) ?_
  have emy : (m : Int) + (y : Int) = ((m + y : Nat) : Int) := by omega
  simp -implicitDefEqProofs (disch := first | assumption | decide | omega | (simp only [wpD1] <;> omega) | (simp only [wpD2] <;> assumption) | solve_by_elim [HSub.refl, HSub.push, HSub.reserve] | fail) only [↓wpPre, wpPost, wpPoly, Int.reduceToNat, Int.reducePow, Int.reduceMul, Int.reduceAdd, Int.reduceSub, Int.reduceNeg, Nat.reduceAdd, Nat.reduceMul, Nat.reducePow, Int.reduceLT, Int.reduceLE, Int.reduceEq, Nat.reduceEqDiff, emy]
  refine ACallsK.of (w1 _) ?_
  rintro r h1 ⟨v1, rfl, s1, R1, K1⟩
  have g1 := s1.get
  simp -implicitDefEqProofs (disch := first | assumption | decide | omega | (simp only [wpD1] <;> omega) | (simp only [wpD2] <;> assumption) | solve_by_elim [HSub.refl, HSub.push, HSub.reserve] | fail) only [↓wpPre, wpPost, wpPoly, Int.reduceToNat, Int.reducePow, Int.reduceMul, Int.reduceAdd, Int.reduceSub, Int.reduceNeg, Nat.reduceAdd, Nat.reduceMul, Nat.reducePow, Int.reduceLT, Int.reduceLE, Int.reduceEq, Nat.reduceEqDiff, lstErr, g1]
  refine ACallsK.of (w2 _) ?_
  rintro r h2 ⟨v2, rfl, s2, R2⟩
  have g2 := s2.get
  have z1 := s1.size
  simp only [Heap.size_push] at z1
  have x1 := fun (h3 : Heap) (q : HSub h1 h3) => Mix_spec (hC.sub (T' := T122) (by decide)) (a := a) (s := s) (R1.mono q) ha
  unfold nco mixOut at x1
  rw [me, if_pos rfl, k1] at x1
  simp -implicitDefEqProofs (disch := first | assumption | decide | omega | (simp only [wpD1] <;> omega) | (simp only [wpD2] <;> assumption) | solve_by_elim [HSub.refl, HSub.push, HSub.reserve] | fail) only [↓wpPre, wpPost, wpPoly, Int.reduceToNat, Int.reducePow, Int.reduceMul, Int.reduceAdd, Int.reduceSub, Int.reduceNeg, Nat.reduceAdd, Nat.reduceMul, Nat.reducePow, Int.reduceLT, Int.reduceLE, Int.reduceEq, Nat.reduceEqDiff, lstErr, g2, g1]
  refine ACallsK.of (x1 _ s2) ?_
  rintro r h3 ⟨v3, rfl, s3, R3⟩
  have g3 := s3.get
  have z2 := s2.size
  have R1 := R1.mono (s2.trans s3)
  have R2 := R2.mono s3
  have k3 := mixL_length (waveL a s (m + y)) a s (m + y)
  have x4 := R1.dropK (kk := .i64) (a := m) K1 (by omega)
  obtain ⟨v4, e4, R4⟩ := x4
  rw [waveL_drop] at R4
  have sp := Samples_spec (hC.sub (T' := T123) (by decide)) R4 R2
  rw [decide_eq_true rfl] at sp
  simp -implicitDefEqProofs (disch := first | assumption | decide | omega | (simp only [wpD1] <;> omega) | (simp only [wpD2] <;> assumption) | solve_by_elim [HSub.refl, HSub.push, HSub.reserve] | fail) only [↓wpPre, wpPost, wpPoly, Int.reduceToNat, Int.reducePow, Int.reduceMul, Int.reduceAdd, Int.reduceSub, Int.reduceNeg, Nat.reduceAdd, Nat.reduceMul, Nat.reducePow, Int.reduceLT, Int.reduceLE, Int.reduceEq, Nat.reduceEqDiff, lstErr, R1.len, R3.len, k1, k3, emy, e4]
  refine ACallsK.eq sp ?_
  simp -implicitDefEqProofs (disch := first | assumption | decide | omega | (simp only [wpD1] <;> omega) | (simp only [wpD2] <;> assumption) | solve_by_elim [HSub.refl, HSub.push, HSub.reserve] | fail) only [↓wpPre, wpPost, wpPoly, Int.reduceToNat, Int.reducePow, Int.reduceMul, Int.reduceAdd, Int.reduceSub, Int.reduceNeg, Nat.reduceAdd, Nat.reduceMul, Nat.reducePow, Int.reduceLT, Int.reduceLE, Int.reduceEq, Nat.reduceEqDiff]
  have gb3 : h3.get h.size = some (.cells [.int .u32 a, .int .u32 s] true 0) := by simp -implicitDefEqProofs (disch := first | assumption | decide | omega | (simp only [wpD1] <;> omega) | (simp only [wpD2] <;> assumption) | solve_by_elim [HSub.refl, HSub.push, HSub.reserve] | fail) only [↓wpPre, wpPost, wpPoly, Int.reduceToNat, Int.reducePow, Int.reduceMul, Int.reduceAdd, Int.reduceSub, Int.reduceNeg, Nat.reduceAdd, Nat.reduceMul, Nat.reducePow, Int.reduceLT, Int.reduceLE, Int.reduceEq, Nat.reduceEqDiff, g3, g2, g1]
  have gp3 : h3.get (h.size + 1) = some (.cells [.int .u32 (phI a s (m : Nat)), .int .u32 s] true 0) := by simp -implicitDefEqProofs (disch := first | assumption | decide | omega | (simp only [wpD1] <;> omega) | (simp only [wpD2] <;> assumption) | solve_by_elim [HSub.refl, HSub.push, HSub.reserve] | fail) only [↓wpPre, wpPost, wpPoly, Int.reduceToNat, Int.reducePow, Int.reduceMul, Int.reduceAdd, Int.reduceSub, Int.reduceNeg, Nat.reduceAdd, Nat.reduceMul, Nat.reducePow, Int.reduceLT, Int.reduceLE, Int.reduceEq, Nat.reduceEqDiff, g3, g2, g1]
  refine wp_loopI (fun j t h' => h' = h3 ∧ ∃ i : Nat, t 1 = .int .i64 (m : Nat) ∧ t 2 = .int .i64 n ∧ t 4 = .ptr h.size 0 ∧ t 9 = .bool true ∧ t 10 = .ptr (h.size + 1) 0 ∧ t 11 = v1 ∧ t 15 = v3 ∧ t 17 = .int .i64 (i : Nat) ∧ i ≤ m + y ∧ j = m + y - i) (j0 := m + y)
    ⟨rfl, 0, rfl, rfl, rfl, rfl, rfl, rfl, rfl, rfl, by omega, rfl⟩ ?_
  rintro j t h4 ⟨rfl, i, e1, e2, e4', e9, e10, e11, e15, e17, hi, hj⟩
  simp -implicitDefEqProofs (disch := first | assumption | decide | omega | (simp only [wpD1] <;> omega) | (simp only [wpD2] <;> assumption) | solve_by_elim [HSub.refl, HSub.push, HSub.reserve] | fail) only [↓wpPre, wpPost, wpPoly, Int.reduceToNat, Int.reducePow, Int.reduceMul, Int.reduceAdd, Int.reduceSub, Int.reduceNeg, Nat.reduceAdd, Nat.reduceMul, Nat.reducePow, Int.reduceLT, Int.reduceLE, Int.reduceEq, Nat.reduceEqDiff, e11, e17, R1.len, k1]
  refine Br.by (fun c4 => ?_) (fun c4 => ?_)
  · have hi' : i < m + y := by omega
    have v1 := waveL_get a s hi'
    have v3 := mixL_get (waveL a s (m + y)) a s hi'
    rw [v1, mix_own] at v3
    have bc := carP_le (phI_u32 a s (i : Nat))
    have P1 := fun h => Phase_spec (a := a) (s := s) (n := (i : Nat)) (h := h) (hC.sub (T' := T119) (by decide))
    have C1 := fun h => CarrierR_spec (hC.sub (T' := T130) (by decide)) (h := h) (phI_u32 a s (i : Nat))
    unfold nco at P1
    unfold smp at C1
    generalize carP (phI a s (i : Nat)) = q at *
    have m1 := mul_le127 ⟨bc.1, bc.2.1⟩ ⟨bc.1, bc.2.1⟩
    have m2 := mul_le127 ⟨bc.2.2.1, bc.2.2.2⟩ ⟨bc.2.2.1, bc.2.2.2⟩
    simp -implicitDefEqProofs (disch := first | assumption | decide | omega | (simp only [wpD1] <;> omega) | (simp only [wpD2] <;> assumption) | solve_by_elim [HSub.refl, HSub.push, HSub.reserve] | fail) only [↓wpPre, wpPost, wpPoly, Int.reduceToNat, Int.reducePow, Int.reduceMul, Int.reduceAdd, Int.reduceSub, Int.reduceNeg, Nat.reduceAdd, Nat.reduceMul, Nat.reducePow, Int.reduceLT, Int.reduceLE, Int.reduceEq, Nat.reduceEqDiff, e4', e11, e15, e17, R1.idx, R3.idx, R1.fld, R1.load0, R1.load1, R1.loadA, R3.loadA, smp, eqs_two_t, v1, v3, gb3]
    refine ACallsK.eq (P1 _) ?_
    simp -implicitDefEqProofs (disch := first | assumption | decide | omega | (simp only [wpD1] <;> omega) | (simp only [wpD2] <;> assumption) | solve_by_elim [HSub.refl, HSub.push, HSub.reserve] | fail) only [↓wpPre, wpPost, wpPoly, Int.reduceToNat, Int.reducePow, Int.reduceMul, Int.reduceAdd, Int.reduceSub, Int.reduceNeg, Nat.reduceAdd, Nat.reduceMul, Nat.reducePow, Int.reduceLT, Int.reduceLE, Int.reduceEq, Nat.reduceEqDiff]
    refine ACallsK.eq (C1 _) ?_
    simp -implicitDefEqProofs (disch := first | assumption | decide | omega | (simp only [wpD1] <;> omega) | (simp only [wpD2] <;> assumption) | solve_by_elim [HSub.refl, HSub.push, HSub.reserve] | fail) only [↓wpPre, wpPost, wpPoly, Int.reduceToNat, Int.reducePow, Int.reduceMul, Int.reduceAdd, Int.reduceSub, Int.reduceNeg, Nat.reduceAdd, Nat.reduceMul, Nat.reducePow, Int.reduceLT, Int.reduceLE, Int.reduceEq, Nat.reduceEqDiff, eqs_two_t, e1, e2, e4', e9, e10, e11, e15, e17]
    exact ⟨_, ⟨i + 1, by simp, by omega, rfl⟩, by omega⟩
  · have L1 := fun h => Later_spec (a := phI a s (m : Nat)) (s := s) (n := n) (h := h) (hC.sub (T' := T127) (by decide))
    have L2 := fun h => Later_spec (a := a) (s := s) (n := IntKind.i64.wrap (m + n)) (h := h) (hC.sub (T' := T127) (by decide))
    have A1 := fun h => Apart_spec (a := phI a s (m : Nat)) (s := s) (b := a) (t := s) (n := n) (h := h) (hC.sub (T' := T120) (by decide))
    have A2 := fun h => Apart_spec (a := phI a s (m : Nat)) (s := 0) (b := a) (t := 0) (n := 0) (h := h) (hC.sub (T' := T120) (by decide))
    have P1 := fun h => Phase_spec (a := a) (s := s) (n := (m : Nat)) (h := h) (hC.sub (T' := T119) (by decide))
    rw [phI_wrap] at L2
    unfold nco at L1 L2 A1 A2 P1
    rw [phI_later] at L1
    rw [sg_apart] at A1
    simp -implicitDefEqProofs (disch := first | assumption | decide | omega | (simp only [wpD1] <;> omega) | (simp only [wpD2] <;> assumption) | solve_by_elim [HSub.refl, HSub.push, HSub.reserve] | fail) only [↓wpPre, wpPost, wpPoly, Int.reduceToNat, Int.reducePow, Int.reduceMul, Int.reduceAdd, Int.reduceSub, Int.reduceNeg, Nat.reduceAdd, Nat.reduceMul, Nat.reducePow, Int.reduceLT, Int.reduceLE, Int.reduceEq, Nat.reduceEqDiff, e1, e2, e4', e9, e10, gb3, gp3]
    refine ACallsK.eq (L1 _) ?_
    simp -implicitDefEqProofs (disch := first | assumption | decide | omega | (simp only [wpD1] <;> omega) | (simp only [wpD2] <;> assumption) | solve_by_elim [HSub.refl, HSub.push, HSub.reserve] | fail) only [↓wpPre, wpPost, wpPoly, Int.reduceToNat, Int.reducePow, Int.reduceMul, Int.reduceAdd, Int.reduceSub, Int.reduceNeg, Nat.reduceAdd, Nat.reduceMul, Nat.reducePow, Int.reduceLT, Int.reduceLE, Int.reduceEq, Nat.reduceEqDiff, gb3, e1, e2, e4', e10]
    refine ACallsK.eq (L2 _) ?_
    simp -implicitDefEqProofs (disch := first | assumption | decide | omega | (simp only [wpD1] <;> omega) | (simp only [wpD2] <;> assumption) | solve_by_elim [HSub.refl, HSub.push, HSub.reserve] | fail) only [↓wpPre, wpPost, wpPoly, Int.reduceToNat, Int.reducePow, Int.reduceMul, Int.reduceAdd, Int.reduceSub, Int.reduceNeg, Nat.reduceAdd, Nat.reduceMul, Nat.reducePow, Int.reduceLT, Int.reduceLE, Int.reduceEq, Nat.reduceEqDiff, eqs_nco, gb3, gp3, e1, e2, e4', e10]
    refine ACallsK.eq (A1 _) ?_
    simp -implicitDefEqProofs (disch := first | assumption | decide | omega | (simp only [wpD1] <;> omega) | (simp only [wpD2] <;> assumption) | solve_by_elim [HSub.refl, HSub.push, HSub.reserve] | fail) only [↓wpPre, wpPost, wpPoly, Int.reduceToNat, Int.reducePow, Int.reduceMul, Int.reduceAdd, Int.reduceSub, Int.reduceNeg, Nat.reduceAdd, Nat.reduceMul, Nat.reducePow, Int.reduceLT, Int.reduceLE, Int.reduceEq, Nat.reduceEqDiff, e1]
    refine ACallsK.eq (P1 _) ?_
    simp -implicitDefEqProofs (disch := first | assumption | decide | omega | (simp only [wpD1] <;> omega) | (simp only [wpD2] <;> assumption) | solve_by_elim [HSub.refl, HSub.push, HSub.reserve] | fail) only [↓wpPre, wpPost, wpPoly, Int.reduceToNat, Int.reducePow, Int.reduceMul, Int.reduceAdd, Int.reduceSub, Int.reduceNeg, Nat.reduceAdd, Nat.reduceMul, Nat.reducePow, Int.reduceLT, Int.reduceLE, Int.reduceEq, Nat.reduceEqDiff]
    refine ACallsK.eq (A2 _) ?_
    simp -implicitDefEqProofs (disch := first | assumption | decide | omega | (simp only [wpD1] <;> omega) | (simp only [wpD2] <;> assumption) | solve_by_elim [HSub.refl, HSub.push, HSub.reserve] | fail) only [↓wpPre, wpPost, wpPoly, Int.reduceToNat, Int.reducePow, Int.reduceMul, Int.reduceAdd, Int.reduceSub, Int.reduceNeg, Nat.reduceAdd, Nat.reduceMul, Nat.reducePow, Int.reduceLT, Int.reduceLE, Int.reduceEq, Nat.reduceEqDiff]
end
end Go.Ae
