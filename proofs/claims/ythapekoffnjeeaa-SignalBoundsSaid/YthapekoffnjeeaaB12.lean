/- Texts of the proof, part 12: a second reading of the lowered code, proved sound, and what the functions compute. -/
import Derived.Test.YthapekoffnjeeaaB11

/- The statement on the chapter's examples, of layer 12. -/
set_option linter.unusedSimpArgs false
set_option linter.unusedVariables false
namespace Go.Ae
def E0r : EmitP := ⟨1, 3, -64, 0, 0, 2, 0, [0, 1]⟩
def E0b : EmitP := ⟨1, 3, 0, 0, 0, 2, 1, [0, 1]⟩
def E0p : EmitP := ⟨1, 3, 0, 0, 1073741824, 2, 0, [0, 1]⟩
def E0o : EmitP := ⟨3, 3, 0, 0, 0, 2, 0, [0, 1]⟩
def E0l : EmitP := ⟨1, 3, 0, 0, 0, 11, 0, [0, 1]⟩
theorem E0r_64 : E0r.ok64 := by unfold EmitP.ok64 E0r In64 U32; simp
theorem E0b_64 : E0b.ok64 := by unfold EmitP.ok64 E0b In64 U32; simp
theorem E0p_64 : E0p.ok64 := by unfold EmitP.ok64 E0p In64 U32; simp
theorem E0o_64 : E0o.ok64 := by unfold EmitP.ok64 E0o In64 U32; simp
theorem E0l_64 : E0l.ok64 := by unfold EmitP.ok64 E0l In64 U32; simp
theorem ks0' : madeErr P0 E0 0 = 0 ∧ EmitP.sta E0 P0 0 = 3 := by decide +kernel
theorem ks0 : startE P0 E0 0 = tup2 3 0 := by unfold startE; rw [if_pos ks0'.1, ks0'.2]
theorem ks1' : madeErr P0 E0r 1 = 0 ∧ EmitP.sta E0r P0 1 = 64 := by decide +kernel
theorem ks1 : startE P0 E0r 1 = tup2 64 0 := by unfold startE; rw [if_pos ks1'.1, ks1'.2]
theorem ks16' : madeErr P0 E0r 16 = 0 ∧ EmitP.sta E0r P0 16 = 994 := by decide +kernel
theorem ks16 : startE P0 E0r 16 = tup2 994 0 := by unfold startE; rw [if_pos ks16'.1, ks16'.2]
theorem ks17' : madeErr P0 E0r 17 = 0 ∧ EmitP.sta E0r P0 17 = 1055 := by decide +kernel
theorem ks17 : startE P0 E0r 17 = tup2 1055 0 := by unfold startE; rw [if_pos ks17'.1, ks17'.2]
theorem kp3' : madeErr P0 E0 3 = 0 ∧ EmitP.pl E0 P0 3 = 0 ∧ 3 - EmitP.sta E0 P0 0 = 0 := by decide +kernel
theorem kp3 : placeE P0 E0 3 = tupI3 0 0 0 := by unfold placeE; rw [if_pos kp3'.1, kp3'.2.1, kp3'.2.2]
theorem kp65' : madeErr P0 E0 65 = 0 ∧ EmitP.pl E0 P0 65 = 1 ∧ 65 - EmitP.sta E0 P0 1 = 0 := by decide +kernel
theorem kp65 : placeE P0 E0 65 = tupI3 1 0 0 := by unfold placeE; rw [if_pos kp65'.1, kp65'.2.1, kp65'.2.2]
theorem kb1' : madeErr P0 E0 1 = 0 ∧ bitI P0 E0 1 = 0 := by decide +kernel
theorem kb1 : bitE P0 E0 1 = tup2 0 0 := by unfold bitE; rw [if_pos kb1'.1, kb1'.2]
theorem kb2' : madeErr P0 E0 2 = 0 ∧ bitI P0 E0 2 = 1 := by decide +kernel
theorem kb2 : bitE P0 E0 2 = tup2 1 0 := by unfold bitE; rw [if_pos kb2'.1, kb2'.2]
theorem kbm' : madeErr P0 E0 (-1) = 0 ∧ bitI P0 E0 (-1) = 1 := by decide +kernel
theorem kbm : bitE P0 E0 (-1) = tup2 1 0 := by unfold bitE; rw [if_pos kbm'.1, kbm'.2]
theorem kb0' : madeErr P0 E0b 0 = 0 ∧ bitI P0 E0b 0 = 1 := by decide +kernel
theorem kb0 : bitE P0 E0b 0 = tup2 1 0 := by unfold bitE; rw [if_pos kb0'.1, kb0'.2]
theorem ka3' : madeErr P0 E0 3 = 0 ∧ atV P0 E0 3 = (-254, 0) := by decide +kernel
theorem ka3 : atE P0 E0 3 = .tuple [.agg [.int .i64 (-254), .int .i64 (0)], .int .i64 0] := by unfold atE; rw [if_pos ka3'.1, ka3'.2]; rfl
theorem ka127' : madeErr P0 E0p 127 = 0 ∧ atV P0 E0p 127 = (0, 254) := by decide +kernel
theorem ka127 : atE P0 E0p 127 = .tuple [.agg [.int .i64 (0), .int .i64 (254)], .int .i64 0] := by unfold atE; rw [if_pos ka127'.1, ka127'.2]; rfl
theorem kc12 : emitErr P0 E0o = 18 ∧ emitErr P0 E0l = 2 ∧ emitErr P0 E0 = 0 ∧ madeErr P0 E0 0 = 0 := by decide +kernel
def eCells (i : Nat) : List AV := [.int .i64 1, .int .i64 3, .int .i64 0, .int .u32 0, .int .u32 0, .int .i64 2, .int .i64 0, .slice i 0 2 (.known 2)]
section
variable {C : Ctx}
theorem emitter234x_spec (hC : Has C T234) {h : Heap} : ACalls C 234 [] h (fun r h' => r = .agg [.int .i64 1, .int .i64 3, .int .i64 0, .int .u32 0, .int .u32 0, .int .i64 2, .int .i64 0, .slice (h.size + 1) 0 2 (.known 2)] ∧ h' = (h.push (.cells [.int .i64 1, .int .i64 3, .int .i64 0, .int .u32 0, .int .u32 0, .int .i64 2, .int .i64 0, .slice (h.size + 1) 0 2 (.known 2)] true 0)).push (.cells [.int .i64 0, .int .i64 1] true 0)) := by
  (refine calls_intro (hC.body (by decide) tab234) (Nat.le_of_ble_eq_true rfl) ?_); (show wp C _ none B234.code _ _); (simp only [B234]); simp -implicitDefEqProofs (disch := first | assumption | decide | omega | (simp only [wpD1] <;> omega) | (simp only [wpD2] <;> assumption) | solve_by_elim [HSub.refl, HSub.push, HSub.reserve] | fail) only [↓wpPre, wpPost, wpPoly, Int.reduceToNat, Int.reducePow, Int.reduceMul, Int.reduceAdd, Int.reduceSub, Int.reduceNeg, Nat.reduceAdd, Nat.reduceMul, Nat.reducePow, Int.reduceLT, Int.reduceLE, Int.reduceEq, Nat.reduceEqDiff]
theorem plan233x_spec (hC : Has C T233) {h : Heap} : ACalls C 233 [] h (fun r h' => r = .agg [.int .i64 5, .int .i64 2, .int .i64 2, .int .i64 2, .int .i64 1, .int .i64 10, .int .i64 5, .slice (h.size + 1) 0 2 (.known 2)] ∧ h' = (h.push (.cells [.int .i64 5, .int .i64 2, .int .i64 2, .int .i64 2, .int .i64 1, .int .i64 10, .int .i64 5, .slice (h.size + 1) 0 2 (.known 2)] true 0)).push (.cells [.int .i64 1, .int .i64 2] true 0)) := by
  (refine calls_intro (hC.body (by decide) tab233) (Nat.le_of_ble_eq_true rfl) ?_); (show wp C _ none B233.code _ _); (simp only [B233]); simp -implicitDefEqProofs (disch := first | assumption | decide | omega | (simp only [wpD1] <;> omega) | (simp only [wpD2] <;> assumption) | solve_by_elim [HSub.refl, HSub.push, HSub.reserve] | fail) only [↓wpPre, wpPost, wpPoly, Int.reduceToNat, Int.reducePow, Int.reduceMul, Int.reduceAdd, Int.reduceSub, Int.reduceNeg, Nat.reduceAdd, Nat.reduceMul, Nat.reducePow, Int.reduceLT, Int.reduceLE, Int.reduceEq, Nat.reduceEqDiff]
set_option maxHeartbeats 8000000 in
set_option maxRecDepth 40000 in
theorem known212_spec (hC : Has C T212) {h : Heap} : ACalls C 212 [] h (fun r h' => r = .bool true ∧ h' = h) := by
  refine ACalls.gc0 (P := fun r h' => r = .bool true ∧ HSub h h') ?_ (fun r h' hp => ⟨by rw [hp.1]; trivial, hp.2, hp.1, rfl⟩)
  have kp := fun h => plan233x_spec (hC.sub (T' := T233) (by decide)) (h := h)
  have ke := fun h => emitter234x_spec (hC.sub (T' := T234) (by decide)) (h := h)
  have aw := fun h => awake218_spec (hC.sub (T' := T218) (by decide)) (h := h)
  have S := fun (E : EmitP) (h65 : E.ok64) (n : Int) (hn : In64 n) (v w : AV) h1 (hp : PlI h1 v P0) (he : EmI h1 w E) => Start_spec (hC.sub (T' := T221) (by decide)) (n := n) hp he P0_64 h65 hn
  have P := fun (E : EmitP) (h65 : E.ok64) (n : Int) (hn : In64 n) (v w : AV) h1 (hp : PlI h1 v P0) (he : EmI h1 w E) => Place_spec (hC.sub (T' := T225) (by decide)) (n := n) hp he P0_64 h65 hn
  have B := fun (E : EmitP) (h65 : E.ok64) (n : Int) (hn : In64 n) (v w : AV) h1 (hp : PlI h1 v P0) (he : EmI h1 w E) => Bit_spec (hC.sub (T' := T227) (by decide)) (n := n) hp he P0_64 h65 hn
  have A := fun (E : EmitP) (h65 : E.ok64) (n : Int) (hn : In64 n) (v w : AV) h1 (hp : PlI h1 v P0) (he : EmI h1 w E) => At_spec (hC.sub (T' := T229) (by decide)) (n := n) hp he P0_64 h65 hn
  have K := fun (E : EmitP) (h65 : E.ok64) (v w : AV) h1 (hp : PlI h1 v P0) (he : EmI h1 w E) => Check_spec (hC.sub (T' := T223) (by decide)) hp he P0_64 h65
  have I : ∀ n : Int, -1000 ≤ n ∧ n ≤ 1000 → In64 n := fun n hn => by unfold In64; omega
  (refine calls_intro (hC.body (by decide) tab212) (Nat.le_of_ble_eq_true rfl) ?_); (show wp C _ none B212.code _ _); (simp only [B212]); simp -implicitDefEqProofs (disch := first | assumption | decide | omega | (simp only [wpD1] <;> omega) | (simp only [wpD2] <;> assumption) | solve_by_elim [HSub.refl, HSub.push, HSub.reserve] | fail) only [↓wpPre, wpPost, wpPoly, Int.reduceToNat, Int.reducePow, Int.reduceMul, Int.reduceAdd, Int.reduceSub, Int.reduceNeg, Nat.reduceAdd, Nat.reduceMul, Nat.reducePow, Int.reduceLT, Int.reduceLE, Int.reduceEq, Nat.reduceEqDiff]
  refine ACallsK.eq (kp _) ?_
  simp -implicitDefEqProofs (disch := first | assumption | decide | omega | (simp only [wpD1] <;> omega) | (simp only [wpD2] <;> assumption) | solve_by_elim [HSub.refl, HSub.push, HSub.reserve] | fail) only [↓wpPre, wpPost, wpPoly, Int.reduceToNat, Int.reducePow, Int.reduceMul, Int.reduceAdd, Int.reduceSub, Int.reduceNeg, Nat.reduceAdd, Nat.reduceMul, Nat.reducePow, Int.reduceLT, Int.reduceLE, Int.reduceEq, Nat.reduceEqDiff]
  refine ACallsK.eq (ke _) ?_
  simp -implicitDefEqProofs (disch := first | assumption | decide | omega | (simp only [wpD1] <;> omega) | (simp only [wpD2] <;> assumption) | solve_by_elim [HSub.refl, HSub.push, HSub.reserve] | fail) only [↓wpPre, wpPost, wpPoly, Int.reduceToNat, Int.reducePow, Int.reduceMul, Int.reduceAdd, Int.reduceSub, Int.reduceNeg, Nat.reduceAdd, Nat.reduceMul, Nat.reducePow, Int.reduceLT, Int.reduceLE, Int.reduceEq, Nat.reduceEqDiff]
  refine ACallsK.eq2 (S E0 E0_64 0 (I _ (by omega)) _ _ _ ⟨_, rfl, RI.known (wr := true) (u := 0) (by simp -implicitDefEqProofs (disch := first | assumption | decide | omega | (simp only [wpD1] <;> omega) | (simp only [wpD2] <;> assumption) | solve_by_elim [HSub.refl, HSub.push, HSub.reserve] | fail) only [↓wpPre, wpPost, wpPoly, Int.reduceToNat, Int.reducePow, Int.reduceMul, Int.reduceAdd, Int.reduceSub, Int.reduceNeg, Nat.reduceAdd, Nat.reduceMul, Nat.reducePow, Int.reduceLT, Int.reduceLE, Int.reduceEq, Nat.reduceEqDiff]; rfl) ⟨rfl, by decide⟩ (Nat.le_refl _)⟩ ⟨_, rfl, RI.known (wr := true) (u := 0) (by simp -implicitDefEqProofs (disch := first | assumption | decide | omega | (simp only [wpD1] <;> omega) | (simp only [wpD2] <;> assumption) | solve_by_elim [HSub.refl, HSub.push, HSub.reserve] | fail) only [↓wpPre, wpPost, wpPoly, Int.reduceToNat, Int.reducePow, Int.reduceMul, Int.reduceAdd, Int.reduceSub, Int.reduceNeg, Nat.reduceAdd, Nat.reduceMul, Nat.reducePow, Int.reduceLT, Int.reduceLE, Int.reduceEq, Nat.reduceEqDiff]; rfl) ⟨rfl, by decide⟩ (Nat.le_refl _)⟩) ks0 ?_
  simp -implicitDefEqProofs (disch := first | assumption | decide | omega | (simp only [wpD1] <;> omega) | (simp only [wpD2] <;> assumption) | solve_by_elim [HSub.refl, HSub.push, HSub.reserve] | fail) only [↓wpPre, wpPost, wpPoly, Int.reduceToNat, Int.reducePow, Int.reduceMul, Int.reduceAdd, Int.reduceSub, Int.reduceNeg, Nat.reduceAdd, Nat.reduceMul, Nat.reducePow, Int.reduceLT, Int.reduceLE, Int.reduceEq, Nat.reduceEqDiff, tup2]
  refine ACallsK.eq2 (S E0r E0r_64 1 (I _ (by omega)) _ _ _ ⟨_, rfl, RI.known (wr := true) (u := 0) (by simp -implicitDefEqProofs (disch := first | assumption | decide | omega | (simp only [wpD1] <;> omega) | (simp only [wpD2] <;> assumption) | solve_by_elim [HSub.refl, HSub.push, HSub.reserve] | fail) only [↓wpPre, wpPost, wpPoly, Int.reduceToNat, Int.reducePow, Int.reduceMul, Int.reduceAdd, Int.reduceSub, Int.reduceNeg, Nat.reduceAdd, Nat.reduceMul, Nat.reducePow, Int.reduceLT, Int.reduceLE, Int.reduceEq, Nat.reduceEqDiff]; rfl) ⟨rfl, by decide⟩ (Nat.le_refl _)⟩ ⟨_, rfl, RI.known (wr := true) (u := 0) (by simp -implicitDefEqProofs (disch := first | assumption | decide | omega | (simp only [wpD1] <;> omega) | (simp only [wpD2] <;> assumption) | solve_by_elim [HSub.refl, HSub.push, HSub.reserve] | fail) only [↓wpPre, wpPost, wpPoly, Int.reduceToNat, Int.reducePow, Int.reduceMul, Int.reduceAdd, Int.reduceSub, Int.reduceNeg, Nat.reduceAdd, Nat.reduceMul, Nat.reducePow, Int.reduceLT, Int.reduceLE, Int.reduceEq, Nat.reduceEqDiff]; rfl) ⟨rfl, by decide⟩ (Nat.le_refl _)⟩) ks1 ?_
  simp -implicitDefEqProofs (disch := first | assumption | decide | omega | (simp only [wpD1] <;> omega) | (simp only [wpD2] <;> assumption) | solve_by_elim [HSub.refl, HSub.push, HSub.reserve] | fail) only [↓wpPre, wpPost, wpPoly, Int.reduceToNat, Int.reducePow, Int.reduceMul, Int.reduceAdd, Int.reduceSub, Int.reduceNeg, Nat.reduceAdd, Nat.reduceMul, Nat.reducePow, Int.reduceLT, Int.reduceLE, Int.reduceEq, Nat.reduceEqDiff, tup2]
  refine ACallsK.eq2 (S E0r E0r_64 16 (I _ (by omega)) _ _ _ ⟨_, rfl, RI.known (wr := true) (u := 0) (by simp -implicitDefEqProofs (disch := first | assumption | decide | omega | (simp only [wpD1] <;> omega) | (simp only [wpD2] <;> assumption) | solve_by_elim [HSub.refl, HSub.push, HSub.reserve] | fail) only [↓wpPre, wpPost, wpPoly, Int.reduceToNat, Int.reducePow, Int.reduceMul, Int.reduceAdd, Int.reduceSub, Int.reduceNeg, Nat.reduceAdd, Nat.reduceMul, Nat.reducePow, Int.reduceLT, Int.reduceLE, Int.reduceEq, Nat.reduceEqDiff]; rfl) ⟨rfl, by decide⟩ (Nat.le_refl _)⟩ ⟨_, rfl, RI.known (wr := true) (u := 0) (by simp -implicitDefEqProofs (disch := first | assumption | decide | omega | (simp only [wpD1] <;> omega) | (simp only [wpD2] <;> assumption) | solve_by_elim [HSub.refl, HSub.push, HSub.reserve] | fail) only [↓wpPre, wpPost, wpPoly, Int.reduceToNat, Int.reducePow, Int.reduceMul, Int.reduceAdd, Int.reduceSub, Int.reduceNeg, Nat.reduceAdd, Nat.reduceMul, Nat.reducePow, Int.reduceLT, Int.reduceLE, Int.reduceEq, Nat.reduceEqDiff]; rfl) ⟨rfl, by decide⟩ (Nat.le_refl _)⟩) ks16 ?_
  simp -implicitDefEqProofs (disch := first | assumption | decide | omega | (simp only [wpD1] <;> omega) | (simp only [wpD2] <;> assumption) | solve_by_elim [HSub.refl, HSub.push, HSub.reserve] | fail) only [↓wpPre, wpPost, wpPoly, Int.reduceToNat, Int.reducePow, Int.reduceMul, Int.reduceAdd, Int.reduceSub, Int.reduceNeg, Nat.reduceAdd, Nat.reduceMul, Nat.reducePow, Int.reduceLT, Int.reduceLE, Int.reduceEq, Nat.reduceEqDiff, tup2]
  refine ACallsK.eq2 (S E0r E0r_64 17 (I _ (by omega)) _ _ _ ⟨_, rfl, RI.known (wr := true) (u := 0) (by simp -implicitDefEqProofs (disch := first | assumption | decide | omega | (simp only [wpD1] <;> omega) | (simp only [wpD2] <;> assumption) | solve_by_elim [HSub.refl, HSub.push, HSub.reserve] | fail) only [↓wpPre, wpPost, wpPoly, Int.reduceToNat, Int.reducePow, Int.reduceMul, Int.reduceAdd, Int.reduceSub, Int.reduceNeg, Nat.reduceAdd, Nat.reduceMul, Nat.reducePow, Int.reduceLT, Int.reduceLE, Int.reduceEq, Nat.reduceEqDiff]; rfl) ⟨rfl, by decide⟩ (Nat.le_refl _)⟩ ⟨_, rfl, RI.known (wr := true) (u := 0) (by simp -implicitDefEqProofs (disch := first | assumption | decide | omega | (simp only [wpD1] <;> omega) | (simp only [wpD2] <;> assumption) | solve_by_elim [HSub.refl, HSub.push, HSub.reserve] | fail) only [↓wpPre, wpPost, wpPoly, Int.reduceToNat, Int.reducePow, Int.reduceMul, Int.reduceAdd, Int.reduceSub, Int.reduceNeg, Nat.reduceAdd, Nat.reduceMul, Nat.reducePow, Int.reduceLT, Int.reduceLE, Int.reduceEq, Nat.reduceEqDiff]; rfl) ⟨rfl, by decide⟩ (Nat.le_refl _)⟩) ks17 ?_
  simp -implicitDefEqProofs (disch := first | assumption | decide | omega | (simp only [wpD1] <;> omega) | (simp only [wpD2] <;> assumption) | solve_by_elim [HSub.refl, HSub.push, HSub.reserve] | fail) only [↓wpPre, wpPost, wpPoly, Int.reduceToNat, Int.reducePow, Int.reduceMul, Int.reduceAdd, Int.reduceSub, Int.reduceNeg, Nat.reduceAdd, Nat.reduceMul, Nat.reducePow, Int.reduceLT, Int.reduceLE, Int.reduceEq, Nat.reduceEqDiff, tup2, gV_u]
  refine ACallsK.eq (ke _) ?_
  simp -implicitDefEqProofs (disch := first | assumption | decide | omega | (simp only [wpD1] <;> omega) | (simp only [wpD2] <;> assumption) | solve_by_elim [HSub.refl, HSub.push, HSub.reserve] | fail) only [↓wpPre, wpPost, wpPoly, Int.reduceToNat, Int.reducePow, Int.reduceMul, Int.reduceAdd, Int.reduceSub, Int.reduceNeg, Nat.reduceAdd, Nat.reduceMul, Nat.reducePow, Int.reduceLT, Int.reduceLE, Int.reduceEq, Nat.reduceEqDiff]
  refine ACallsK.eq2 (P E0 E0_64 3 (I _ (by omega)) _ _ _ ⟨_, rfl, RI.known (wr := true) (u := 0) (by simp -implicitDefEqProofs (disch := first | assumption | decide | omega | (simp only [wpD1] <;> omega) | (simp only [wpD2] <;> assumption) | solve_by_elim [HSub.refl, HSub.push, HSub.reserve] | fail) only [↓wpPre, wpPost, wpPoly, Int.reduceToNat, Int.reducePow, Int.reduceMul, Int.reduceAdd, Int.reduceSub, Int.reduceNeg, Nat.reduceAdd, Nat.reduceMul, Nat.reducePow, Int.reduceLT, Int.reduceLE, Int.reduceEq, Nat.reduceEqDiff]; rfl) ⟨rfl, by decide⟩ (Nat.le_refl _)⟩ ⟨_, rfl, RI.known (wr := true) (u := 0) (by simp -implicitDefEqProofs (disch := first | assumption | decide | omega | (simp only [wpD1] <;> omega) | (simp only [wpD2] <;> assumption) | solve_by_elim [HSub.refl, HSub.push, HSub.reserve] | fail) only [↓wpPre, wpPost, wpPoly, Int.reduceToNat, Int.reducePow, Int.reduceMul, Int.reduceAdd, Int.reduceSub, Int.reduceNeg, Nat.reduceAdd, Nat.reduceMul, Nat.reducePow, Int.reduceLT, Int.reduceLE, Int.reduceEq, Nat.reduceEqDiff]; rfl) ⟨rfl, by decide⟩ (Nat.le_refl _)⟩) kp3 ?_
  simp -implicitDefEqProofs (disch := first | assumption | decide | omega | (simp only [wpD1] <;> omega) | (simp only [wpD2] <;> assumption) | solve_by_elim [HSub.refl, HSub.push, HSub.reserve] | fail) only [↓wpPre, wpPost, wpPoly, Int.reduceToNat, Int.reducePow, Int.reduceMul, Int.reduceAdd, Int.reduceSub, Int.reduceNeg, Nat.reduceAdd, Nat.reduceMul, Nat.reducePow, Int.reduceLT, Int.reduceLE, Int.reduceEq, Nat.reduceEqDiff, tupI3, gV_u]
  refine ACallsK.eq2 (P E0 E0_64 65 (I _ (by omega)) _ _ _ ⟨_, rfl, RI.known (wr := true) (u := 0) (by simp -implicitDefEqProofs (disch := first | assumption | decide | omega | (simp only [wpD1] <;> omega) | (simp only [wpD2] <;> assumption) | solve_by_elim [HSub.refl, HSub.push, HSub.reserve] | fail) only [↓wpPre, wpPost, wpPoly, Int.reduceToNat, Int.reducePow, Int.reduceMul, Int.reduceAdd, Int.reduceSub, Int.reduceNeg, Nat.reduceAdd, Nat.reduceMul, Nat.reducePow, Int.reduceLT, Int.reduceLE, Int.reduceEq, Nat.reduceEqDiff]; rfl) ⟨rfl, by decide⟩ (Nat.le_refl _)⟩ ⟨_, rfl, RI.known (wr := true) (u := 0) (by simp -implicitDefEqProofs (disch := first | assumption | decide | omega | (simp only [wpD1] <;> omega) | (simp only [wpD2] <;> assumption) | solve_by_elim [HSub.refl, HSub.push, HSub.reserve] | fail) only [↓wpPre, wpPost, wpPoly, Int.reduceToNat, Int.reducePow, Int.reduceMul, Int.reduceAdd, Int.reduceSub, Int.reduceNeg, Nat.reduceAdd, Nat.reduceMul, Nat.reducePow, Int.reduceLT, Int.reduceLE, Int.reduceEq, Nat.reduceEqDiff]; rfl) ⟨rfl, by decide⟩ (Nat.le_refl _)⟩) kp65 ?_
  simp -implicitDefEqProofs (disch := first | assumption | decide | omega | (simp only [wpD1] <;> omega) | (simp only [wpD2] <;> assumption) | solve_by_elim [HSub.refl, HSub.push, HSub.reserve] | fail) only [↓wpPre, wpPost, wpPoly, Int.reduceToNat, Int.reducePow, Int.reduceMul, Int.reduceAdd, Int.reduceSub, Int.reduceNeg, Nat.reduceAdd, Nat.reduceMul, Nat.reducePow, Int.reduceLT, Int.reduceLE, Int.reduceEq, Nat.reduceEqDiff, tupI3, gV_u]
  refine ACallsK.eq2 (B E0 E0_64 1 (I _ (by omega)) _ _ _ ⟨_, rfl, RI.known (wr := true) (u := 0) (by simp -implicitDefEqProofs (disch := first | assumption | decide | omega | (simp only [wpD1] <;> omega) | (simp only [wpD2] <;> assumption) | solve_by_elim [HSub.refl, HSub.push, HSub.reserve] | fail) only [↓wpPre, wpPost, wpPoly, Int.reduceToNat, Int.reducePow, Int.reduceMul, Int.reduceAdd, Int.reduceSub, Int.reduceNeg, Nat.reduceAdd, Nat.reduceMul, Nat.reducePow, Int.reduceLT, Int.reduceLE, Int.reduceEq, Nat.reduceEqDiff]; rfl) ⟨rfl, by decide⟩ (Nat.le_refl _)⟩ ⟨_, rfl, RI.known (wr := true) (u := 0) (by simp -implicitDefEqProofs (disch := first | assumption | decide | omega | (simp only [wpD1] <;> omega) | (simp only [wpD2] <;> assumption) | solve_by_elim [HSub.refl, HSub.push, HSub.reserve] | fail) only [↓wpPre, wpPost, wpPoly, Int.reduceToNat, Int.reducePow, Int.reduceMul, Int.reduceAdd, Int.reduceSub, Int.reduceNeg, Nat.reduceAdd, Nat.reduceMul, Nat.reducePow, Int.reduceLT, Int.reduceLE, Int.reduceEq, Nat.reduceEqDiff]; rfl) ⟨rfl, by decide⟩ (Nat.le_refl _)⟩) kb1 ?_
  simp -implicitDefEqProofs (disch := first | assumption | decide | omega | (simp only [wpD1] <;> omega) | (simp only [wpD2] <;> assumption) | solve_by_elim [HSub.refl, HSub.push, HSub.reserve] | fail) only [↓wpPre, wpPost, wpPoly, Int.reduceToNat, Int.reducePow, Int.reduceMul, Int.reduceAdd, Int.reduceSub, Int.reduceNeg, Nat.reduceAdd, Nat.reduceMul, Nat.reducePow, Int.reduceLT, Int.reduceLE, Int.reduceEq, Nat.reduceEqDiff, tup2]
  refine ACallsK.eq2 (B E0 E0_64 2 (I _ (by omega)) _ _ _ ⟨_, rfl, RI.known (wr := true) (u := 0) (by simp -implicitDefEqProofs (disch := first | assumption | decide | omega | (simp only [wpD1] <;> omega) | (simp only [wpD2] <;> assumption) | solve_by_elim [HSub.refl, HSub.push, HSub.reserve] | fail) only [↓wpPre, wpPost, wpPoly, Int.reduceToNat, Int.reducePow, Int.reduceMul, Int.reduceAdd, Int.reduceSub, Int.reduceNeg, Nat.reduceAdd, Nat.reduceMul, Nat.reducePow, Int.reduceLT, Int.reduceLE, Int.reduceEq, Nat.reduceEqDiff]; rfl) ⟨rfl, by decide⟩ (Nat.le_refl _)⟩ ⟨_, rfl, RI.known (wr := true) (u := 0) (by simp -implicitDefEqProofs (disch := first | assumption | decide | omega | (simp only [wpD1] <;> omega) | (simp only [wpD2] <;> assumption) | solve_by_elim [HSub.refl, HSub.push, HSub.reserve] | fail) only [↓wpPre, wpPost, wpPoly, Int.reduceToNat, Int.reducePow, Int.reduceMul, Int.reduceAdd, Int.reduceSub, Int.reduceNeg, Nat.reduceAdd, Nat.reduceMul, Nat.reducePow, Int.reduceLT, Int.reduceLE, Int.reduceEq, Nat.reduceEqDiff]; rfl) ⟨rfl, by decide⟩ (Nat.le_refl _)⟩) kb2 ?_
  simp -implicitDefEqProofs (disch := first | assumption | decide | omega | (simp only [wpD1] <;> omega) | (simp only [wpD2] <;> assumption) | solve_by_elim [HSub.refl, HSub.push, HSub.reserve] | fail) only [↓wpPre, wpPost, wpPoly, Int.reduceToNat, Int.reducePow, Int.reduceMul, Int.reduceAdd, Int.reduceSub, Int.reduceNeg, Nat.reduceAdd, Nat.reduceMul, Nat.reducePow, Int.reduceLT, Int.reduceLE, Int.reduceEq, Nat.reduceEqDiff, tup2]
  refine ACallsK.eq2 (B E0 E0_64 (-1) (I _ (by omega)) _ _ _ ⟨_, rfl, RI.known (wr := true) (u := 0) (by simp -implicitDefEqProofs (disch := first | assumption | decide | omega | (simp only [wpD1] <;> omega) | (simp only [wpD2] <;> assumption) | solve_by_elim [HSub.refl, HSub.push, HSub.reserve] | fail) only [↓wpPre, wpPost, wpPoly, Int.reduceToNat, Int.reducePow, Int.reduceMul, Int.reduceAdd, Int.reduceSub, Int.reduceNeg, Nat.reduceAdd, Nat.reduceMul, Nat.reducePow, Int.reduceLT, Int.reduceLE, Int.reduceEq, Nat.reduceEqDiff]; rfl) ⟨rfl, by decide⟩ (Nat.le_refl _)⟩ ⟨_, rfl, RI.known (wr := true) (u := 0) (by simp -implicitDefEqProofs (disch := first | assumption | decide | omega | (simp only [wpD1] <;> omega) | (simp only [wpD2] <;> assumption) | solve_by_elim [HSub.refl, HSub.push, HSub.reserve] | fail) only [↓wpPre, wpPost, wpPoly, Int.reduceToNat, Int.reducePow, Int.reduceMul, Int.reduceAdd, Int.reduceSub, Int.reduceNeg, Nat.reduceAdd, Nat.reduceMul, Nat.reducePow, Int.reduceLT, Int.reduceLE, Int.reduceEq, Nat.reduceEqDiff]; rfl) ⟨rfl, by decide⟩ (Nat.le_refl _)⟩) kbm ?_
  simp -implicitDefEqProofs (disch := first | assumption | decide | omega | (simp only [wpD1] <;> omega) | (simp only [wpD2] <;> assumption) | solve_by_elim [HSub.refl, HSub.push, HSub.reserve] | fail) only [↓wpPre, wpPost, wpPoly, Int.reduceToNat, Int.reducePow, Int.reduceMul, Int.reduceAdd, Int.reduceSub, Int.reduceNeg, Nat.reduceAdd, Nat.reduceMul, Nat.reducePow, Int.reduceLT, Int.reduceLE, Int.reduceEq, Nat.reduceEqDiff, tup2]
  refine ACallsK.eq2 (B E0b E0b_64 0 (I _ (by omega)) _ _ _ ⟨_, rfl, RI.known (wr := true) (u := 0) (by simp -implicitDefEqProofs (disch := first | assumption | decide | omega | (simp only [wpD1] <;> omega) | (simp only [wpD2] <;> assumption) | solve_by_elim [HSub.refl, HSub.push, HSub.reserve] | fail) only [↓wpPre, wpPost, wpPoly, Int.reduceToNat, Int.reducePow, Int.reduceMul, Int.reduceAdd, Int.reduceSub, Int.reduceNeg, Nat.reduceAdd, Nat.reduceMul, Nat.reducePow, Int.reduceLT, Int.reduceLE, Int.reduceEq, Nat.reduceEqDiff]; rfl) ⟨rfl, by decide⟩ (Nat.le_refl _)⟩ ⟨_, rfl, RI.known (wr := true) (u := 0) (by simp -implicitDefEqProofs (disch := first | assumption | decide | omega | (simp only [wpD1] <;> omega) | (simp only [wpD2] <;> assumption) | solve_by_elim [HSub.refl, HSub.push, HSub.reserve] | fail) only [↓wpPre, wpPost, wpPoly, Int.reduceToNat, Int.reducePow, Int.reduceMul, Int.reduceAdd, Int.reduceSub, Int.reduceNeg, Nat.reduceAdd, Nat.reduceMul, Nat.reducePow, Int.reduceLT, Int.reduceLE, Int.reduceEq, Nat.reduceEqDiff]; rfl) ⟨rfl, by decide⟩ (Nat.le_refl _)⟩) kb0 ?_
  simp -implicitDefEqProofs (disch := first | assumption | decide | omega | (simp only [wpD1] <;> omega) | (simp only [wpD2] <;> assumption) | solve_by_elim [HSub.refl, HSub.push, HSub.reserve] | fail) only [↓wpPre, wpPost, wpPoly, Int.reduceToNat, Int.reducePow, Int.reduceMul, Int.reduceAdd, Int.reduceSub, Int.reduceNeg, Nat.reduceAdd, Nat.reduceMul, Nat.reducePow, Int.reduceLT, Int.reduceLE, Int.reduceEq, Nat.reduceEqDiff, tup2, gV_u]
  refine ACallsK.eq (ke _) ?_
  simp -implicitDefEqProofs (disch := first | assumption | decide | omega | (simp only [wpD1] <;> omega) | (simp only [wpD2] <;> assumption) | solve_by_elim [HSub.refl, HSub.push, HSub.reserve] | fail) only [↓wpPre, wpPost, wpPoly, Int.reduceToNat, Int.reducePow, Int.reduceMul, Int.reduceAdd, Int.reduceSub, Int.reduceNeg, Nat.reduceAdd, Nat.reduceMul, Nat.reducePow, Int.reduceLT, Int.reduceLE, Int.reduceEq, Nat.reduceEqDiff]
  refine ACallsK.eq2 (A E0 E0_64 3 (I _ (by omega)) _ _ _ ⟨_, rfl, RI.known (wr := true) (u := 0) (by simp -implicitDefEqProofs (disch := first | assumption | decide | omega | (simp only [wpD1] <;> omega) | (simp only [wpD2] <;> assumption) | solve_by_elim [HSub.refl, HSub.push, HSub.reserve] | fail) only [↓wpPre, wpPost, wpPoly, Int.reduceToNat, Int.reducePow, Int.reduceMul, Int.reduceAdd, Int.reduceSub, Int.reduceNeg, Nat.reduceAdd, Nat.reduceMul, Nat.reducePow, Int.reduceLT, Int.reduceLE, Int.reduceEq, Nat.reduceEqDiff]; rfl) ⟨rfl, by decide⟩ (Nat.le_refl _)⟩ ⟨_, rfl, RI.known (wr := true) (u := 0) (by simp -implicitDefEqProofs (disch := first | assumption | decide | omega | (simp only [wpD1] <;> omega) | (simp only [wpD2] <;> assumption) | solve_by_elim [HSub.refl, HSub.push, HSub.reserve] | fail) only [↓wpPre, wpPost, wpPoly, Int.reduceToNat, Int.reducePow, Int.reduceMul, Int.reduceAdd, Int.reduceSub, Int.reduceNeg, Nat.reduceAdd, Nat.reduceMul, Nat.reducePow, Int.reduceLT, Int.reduceLE, Int.reduceEq, Nat.reduceEqDiff]; rfl) ⟨rfl, by decide⟩ (Nat.le_refl _)⟩) ka3 ?_
  simp -implicitDefEqProofs (disch := first | assumption | decide | omega | (simp only [wpD1] <;> omega) | (simp only [wpD2] <;> assumption) | solve_by_elim [HSub.refl, HSub.push, HSub.reserve] | fail) only [↓wpPre, wpPost, wpPoly, Int.reduceToNat, Int.reducePow, Int.reduceMul, Int.reduceAdd, Int.reduceSub, Int.reduceNeg, Nat.reduceAdd, Nat.reduceMul, Nat.reducePow, Int.reduceLT, Int.reduceLE, Int.reduceEq, Nat.reduceEqDiff, gV_u]
  refine ACallsK.eq2 (A E0p E0p_64 127 (I _ (by omega)) _ _ _ ⟨_, rfl, RI.known (wr := true) (u := 0) (by simp -implicitDefEqProofs (disch := first | assumption | decide | omega | (simp only [wpD1] <;> omega) | (simp only [wpD2] <;> assumption) | solve_by_elim [HSub.refl, HSub.push, HSub.reserve] | fail) only [↓wpPre, wpPost, wpPoly, Int.reduceToNat, Int.reducePow, Int.reduceMul, Int.reduceAdd, Int.reduceSub, Int.reduceNeg, Nat.reduceAdd, Nat.reduceMul, Nat.reducePow, Int.reduceLT, Int.reduceLE, Int.reduceEq, Nat.reduceEqDiff]; rfl) ⟨rfl, by decide⟩ (Nat.le_refl _)⟩ ⟨_, rfl, RI.known (wr := true) (u := 0) (by simp -implicitDefEqProofs (disch := first | assumption | decide | omega | (simp only [wpD1] <;> omega) | (simp only [wpD2] <;> assumption) | solve_by_elim [HSub.refl, HSub.push, HSub.reserve] | fail) only [↓wpPre, wpPost, wpPoly, Int.reduceToNat, Int.reducePow, Int.reduceMul, Int.reduceAdd, Int.reduceSub, Int.reduceNeg, Nat.reduceAdd, Nat.reduceMul, Nat.reducePow, Int.reduceLT, Int.reduceLE, Int.reduceEq, Nat.reduceEqDiff]; rfl) ⟨rfl, by decide⟩ (Nat.le_refl _)⟩) ka127 ?_
  simp -implicitDefEqProofs (disch := first | assumption | decide | omega | (simp only [wpD1] <;> omega) | (simp only [wpD2] <;> assumption) | solve_by_elim [HSub.refl, HSub.push, HSub.reserve] | fail) only [↓wpPre, wpPost, wpPoly, Int.reduceToNat, Int.reducePow, Int.reduceMul, Int.reduceAdd, Int.reduceSub, Int.reduceNeg, Nat.reduceAdd, Nat.reduceMul, Nat.reducePow, Int.reduceLT, Int.reduceLE, Int.reduceEq, Nat.reduceEqDiff, gV_u, eqs_two_f]
  refine ACallsK.eq (ke _) ?_
  simp -implicitDefEqProofs (disch := first | assumption | decide | omega | (simp only [wpD1] <;> omega) | (simp only [wpD2] <;> assumption) | solve_by_elim [HSub.refl, HSub.push, HSub.reserve] | fail) only [↓wpPre, wpPost, wpPoly, Int.reduceToNat, Int.reducePow, Int.reduceMul, Int.reduceAdd, Int.reduceSub, Int.reduceNeg, Nat.reduceAdd, Nat.reduceMul, Nat.reducePow, Int.reduceLT, Int.reduceLE, Int.reduceEq, Nat.reduceEqDiff]
  refine ACallsK.hide (fun H hH => ?_)
  have N : H.size = h.size + 15 := by rw [hH]; simp -implicitDefEqProofs (disch := first | assumption | decide | omega | (simp only [wpD1] <;> omega) | (simp only [wpD2] <;> assumption) | solve_by_elim [HSub.refl, HSub.push, HSub.reserve] | fail) only [↓wpPre, wpPost, wpPoly, Int.reduceToNat, Int.reducePow, Int.reduceMul, Int.reduceAdd, Int.reduceSub, Int.reduceNeg, Nat.reduceAdd, Nat.reduceMul, Nat.reducePow, Int.reduceLT, Int.reduceLE, Int.reduceEq, Nat.reduceEqDiff]
  have gR : H.get (h.size + 1) = some (.cells (ints [1, 2]) true 0) := by rw [hH]; simp -implicitDefEqProofs (disch := first | assumption | decide | omega | (simp only [wpD1] <;> omega) | (simp only [wpD2] <;> assumption) | solve_by_elim [HSub.refl, HSub.push, HSub.reserve] | fail) only [↓wpPre, wpPost, wpPoly, Int.reduceToNat, Int.reducePow, Int.reduceMul, Int.reduceAdd, Int.reduceSub, Int.reduceNeg, Nat.reduceAdd, Nat.reduceMul, Nat.reducePow, Int.reduceLT, Int.reduceLE, Int.reduceEq, Nat.reduceEqDiff]; rfl
  have gB : H.get (h.size + 1 + 1 + 1 + 1 + 1 + 1 + 1 + 1 + 1 + 1 + 1 + 1 + 1) = some (.cells (ints [0, 1]) true 0) := by rw [hH]; simp -implicitDefEqProofs (disch := first | assumption | decide | omega | (simp only [wpD1] <;> omega) | (simp only [wpD2] <;> assumption) | solve_by_elim [HSub.refl, HSub.push, HSub.reserve] | fail) only [↓wpPre, wpPost, wpPoly, Int.reduceToNat, Int.reducePow, Int.reduceMul, Int.reduceAdd, Int.reduceSub, Int.reduceNeg, Nat.reduceAdd, Nat.reduceMul, Nat.reducePow, Int.reduceLT, Int.reduceLE, Int.reduceEq, Nat.reduceEqDiff]; rfl
  have gp : H.get (h.size + 1 + 1 + 1 + 1) = some (.cells [.int .i64 5, .int .i64 2, .int .i64 2, .int .i64 2, .int .i64 1, .int .i64 10, .int .i64 5, .slice (h.size + 1) 0 2 (.known 2)] true 0) := by rw [hH]; simp -implicitDefEqProofs (disch := first | assumption | decide | omega | (simp only [wpD1] <;> omega) | (simp only [wpD2] <;> assumption) | solve_by_elim [HSub.refl, HSub.push, HSub.reserve] | fail) only [↓wpPre, wpPost, wpPoly, Int.reduceToNat, Int.reducePow, Int.reduceMul, Int.reduceAdd, Int.reduceSub, Int.reduceNeg, Nat.reduceAdd, Nat.reduceMul, Nat.reducePow, Int.reduceLT, Int.reduceLE, Int.reduceEq, Nat.reduceEqDiff]
  have ge : H.get (h.size + 1 + 1 + 1 + 1 + 1) = some (.cells [.int .i64 1, .int .i64 3, .int .i64 0, .int .u32 0, .int .u32 0, .int .i64 2, .int .i64 0, .slice (h.size + 1 + 1 + 1 + 1 + 1 + 1 + 1 + 1 + 1 + 1 + 1 + 1 + 1) 0 2 (.known 2)] true 0) := by rw [hH]; simp -implicitDefEqProofs (disch := first | assumption | decide | omega | (simp only [wpD1] <;> omega) | (simp only [wpD2] <;> assumption) | solve_by_elim [HSub.refl, HSub.push, HSub.reserve] | fail) only [↓wpPre, wpPost, wpPoly, Int.reduceToNat, Int.reducePow, Int.reduceMul, Int.reduceAdd, Int.reduceSub, Int.reduceNeg, Nat.reduceAdd, Nat.reduceMul, Nat.reducePow, Int.reduceLT, Int.reduceLE, Int.reduceEq, Nat.reduceEqDiff]
  have gl : H.get (h.size + 1 + 1 + 1 + 1 + 1 + 1 + 1 + 1 + 1 + 1 + 1 + 1 + 1 + 1) = some (.cells ([.int .i64 1, .int .i64 3, .int .i64 0, .int .u32 0, .int .u32 0, .int .i64 2, .int .i64 0, .slice (h.size + 1 + 1 + 1 + 1 + 1 + 1 + 1 + 1 + 1 + 1 + 1 + 1 + 1) 0 2 (.known 2)] ++ [.int .i64 1, .int .i64 3, .int .i64 0, .int .u32 0, .int .u32 0, .int .i64 2, .int .i64 0, .slice (h.size + 1 + 1 + 1 + 1 + 1 + 1 + 1 + 1 + 1 + 1 + 1 + 1 + 1) 0 2 (.known 2)]) true 0) := by rw [hH]; simp -implicitDefEqProofs (disch := first | assumption | decide | omega | (simp only [wpD1] <;> omega) | (simp only [wpD2] <;> assumption) | solve_by_elim [HSub.refl, HSub.push, HSub.reserve] | fail) only [↓wpPre, wpPost, wpPoly, Int.reduceToNat, Int.reducePow, Int.reduceMul, Int.reduceAdd, Int.reduceSub, Int.reduceNeg, Nat.reduceAdd, Nat.reduceMul, Nat.reducePow, Int.reduceLT, Int.reduceLE, Int.reduceEq, Nat.reduceEqDiff]
  have sH : HSub h H := by rw [hH]; exact (by repeat (first | exact HSub.refl h | refine HSub.put ?_ (by (try simp only [Heap.size_put, Heap.size_push, Heap.size_reserve]); omega) _ | refine HSub.push ?_ _ | refine HSub.reserve ?_ _))
  clear hH
  have RR : RI H (.slice (h.size + 1) 0 2 (.known 2)) P0.prns := RI.known gR ⟨rfl, by decide⟩ (Nat.le_refl _)
  have BB : RI H (.slice (h.size + 1 + 1 + 1 + 1 + 1 + 1 + 1 + 1 + 1 + 1 + 1 + 1 + 1) 0 2 (.known 2)) E0.bits := RI.known gB ⟨rfl, by decide⟩ (Nat.le_refl _)
  have md := make_double (hC.sub (T' := T231) (by decide)) RR P0_64 BB E0_64 kc12.2.2.2 gl
  refine ACallsK.of md ?_
  rintro r h2 ⟨s2, rfl⟩
  have gp2 := (s2.get _ (Heap.lt_of_get gp)).trans gp
  have ge2 := (s2.get _ (Heap.lt_of_get ge)).trans ge
  have RR2 := RR.mono s2
  have BB2 := BB.mono s2
  have N2 := s2.size
  have ml := fun b nb h3 (q : HSub h2 h3) gg gn => make_loud (hC.sub (T' := T231) (by decide)) (b := b) (nb := nb) (RR2.mono q) P0_64 (BB2.mono q) E0_64 kc12.2.2.2 (h := h3) ⟨by decide, by decide⟩ gg gn
  simp -implicitDefEqProofs (disch := first | assumption | decide | omega | (simp only [wpD1] <;> omega) | (simp only [wpD2] <;> assumption) | solve_by_elim [HSub.refl, HSub.push, HSub.reserve] | fail) only [↓wpPre, wpPost, wpPoly, Int.reduceToNat, Int.reducePow, Int.reduceMul, Int.reduceAdd, Int.reduceSub, Int.reduceNeg, Nat.reduceAdd, Nat.reduceMul, Nat.reducePow, Int.reduceLT, Int.reduceLE, Int.reduceEq, Nat.reduceEqDiff, gp2, ge2]
  refine ACallsK.of (ml h2.size (h2.size + 1) _ (by repeat (first | exact HSub.refl h2 | refine HSub.put ?_ (by (try simp only [Heap.size_put, Heap.size_push, Heap.size_reserve]); omega) _ | refine HSub.push ?_ _ | refine HSub.reserve ?_ _)) (by simp -implicitDefEqProofs (disch := first | assumption | decide | omega | (simp only [wpD1] <;> omega) | (simp only [wpD2] <;> assumption) | solve_by_elim [HSub.refl, HSub.push, HSub.reserve] | fail) only [↓wpPre, wpPost, wpPoly, Int.reduceToNat, Int.reducePow, Int.reduceMul, Int.reduceAdd, Int.reduceSub, Int.reduceNeg, Nat.reduceAdd, Nat.reduceMul, Nat.reducePow, Int.reduceLT, Int.reduceLE, Int.reduceEq, Nat.reduceEqDiff]; try rfl) (by simp -implicitDefEqProofs (disch := first | assumption | decide | omega | (simp only [wpD1] <;> omega) | (simp only [wpD2] <;> assumption) | solve_by_elim [HSub.refl, HSub.push, HSub.reserve] | fail) only [↓wpPre, wpPost, wpPoly, Int.reduceToNat, Int.reducePow, Int.reduceMul, Int.reduceAdd, Int.reduceSub, Int.reduceNeg, Nat.reduceAdd, Nat.reduceMul, Nat.reducePow, Int.reduceLT, Int.reduceLE, Int.reduceEq, Nat.reduceEqDiff]; try rfl)) ?_
  rintro r h3 ⟨s3, rfl⟩
  have t3 : HSub h2 h3 := (by exact (by repeat (first | exact HSub.refl h2 | refine HSub.put ?_ (by (try simp only [Heap.size_put, Heap.size_push, Heap.size_reserve]); omega) _ | refine HSub.push ?_ _ | refine HSub.reserve ?_ _)) : HSub h2 _).trans s3
  have gp3 := (t3.get _ (Heap.lt_of_get gp2)).trans gp2
  have ge3 := (t3.get _ (Heap.lt_of_get ge2)).trans ge2
  have RR3 := RR2.mono t3
  have BB3 := BB2.mono t3
  have N3 := t3.size
  have sH3 := (sH.trans s2).trans t3
  simp -implicitDefEqProofs (disch := first | assumption | decide | omega | (simp only [wpD1] <;> omega) | (simp only [wpD2] <;> assumption) | solve_by_elim [HSub.refl, HSub.push, HSub.reserve] | fail) only [↓wpPre, wpPost, wpPoly, Int.reduceToNat, Int.reducePow, Int.reduceMul, Int.reduceAdd, Int.reduceSub, Int.reduceNeg, Nat.reduceAdd, Nat.reduceMul, Nat.reducePow, Int.reduceLT, Int.reduceLE, Int.reduceEq, Nat.reduceEqDiff]
  refine ACallsK.eq (ke _) ?_
  simp -implicitDefEqProofs (disch := first | assumption | decide | omega | (simp only [wpD1] <;> omega) | (simp only [wpD2] <;> assumption) | solve_by_elim [HSub.refl, HSub.push, HSub.reserve] | fail) only [↓wpPre, wpPost, wpPoly, Int.reduceToNat, Int.reducePow, Int.reduceMul, Int.reduceAdd, Int.reduceSub, Int.reduceNeg, Nat.reduceAdd, Nat.reduceMul, Nat.reducePow, Int.reduceLT, Int.reduceLE, Int.reduceEq, Nat.reduceEqDiff]
  refine ACallsK.eq (ke _) ?_
  simp -implicitDefEqProofs (disch := first | assumption | decide | omega | (simp only [wpD1] <;> omega) | (simp only [wpD2] <;> assumption) | solve_by_elim [HSub.refl, HSub.push, HSub.reserve] | fail) only [↓wpPre, wpPost, wpPoly, Int.reduceToNat, Int.reducePow, Int.reduceMul, Int.reduceAdd, Int.reduceSub, Int.reduceNeg, Nat.reduceAdd, Nat.reduceMul, Nat.reducePow, Int.reduceLT, Int.reduceLE, Int.reduceEq, Nat.reduceEqDiff]
  refine ACallsK.eq (aw _) ?_
  simp -implicitDefEqProofs (disch := first | assumption | decide | omega | (simp only [wpD1] <;> omega) | (simp only [wpD2] <;> assumption) | solve_by_elim [HSub.refl, HSub.push, HSub.reserve] | fail) only [↓wpPre, wpPost, wpPoly, Int.reduceToNat, Int.reducePow, Int.reduceMul, Int.reduceAdd, Int.reduceSub, Int.reduceNeg, Nat.reduceAdd, Nat.reduceMul, Nat.reducePow, Int.reduceLT, Int.reduceLE, Int.reduceEq, Nat.reduceEqDiff, gp3, ge3, gV_u]
  refine ACallsK.eq2 (K E0o E0o_64 _ _ _ ⟨_, rfl, RR3.mono (by exact (by repeat (first | exact HSub.refl h3 | refine HSub.put ?_ (by (try simp only [Heap.size_put, Heap.size_push, Heap.size_reserve]); omega) _ | refine HSub.push ?_ _ | refine HSub.reserve ?_ _)))⟩ ⟨_, rfl, RI.known (wr := true) (u := 0) (by simp -implicitDefEqProofs (disch := first | assumption | decide | omega | (simp only [wpD1] <;> omega) | (simp only [wpD2] <;> assumption) | solve_by_elim [HSub.refl, HSub.push, HSub.reserve] | fail) only [↓wpPre, wpPost, wpPoly, Int.reduceToNat, Int.reducePow, Int.reduceMul, Int.reduceAdd, Int.reduceSub, Int.reduceNeg, Nat.reduceAdd, Nat.reduceMul, Nat.reducePow, Int.reduceLT, Int.reduceLE, Int.reduceEq, Nat.reduceEqDiff]; rfl) ⟨rfl, by decide⟩ (Nat.le_refl _)⟩) (congrArg (AV.int .i64) kc12.1) ?_
  simp -implicitDefEqProofs (disch := first | assumption | decide | omega | (simp only [wpD1] <;> omega) | (simp only [wpD2] <;> assumption) | solve_by_elim [HSub.refl, HSub.push, HSub.reserve] | fail) only [↓wpPre, wpPost, wpPoly, Int.reduceToNat, Int.reducePow, Int.reduceMul, Int.reduceAdd, Int.reduceSub, Int.reduceNeg, Nat.reduceAdd, Nat.reduceMul, Nat.reducePow, Int.reduceLT, Int.reduceLE, Int.reduceEq, Nat.reduceEqDiff, gp3, ge3]
  refine ACallsK.eq2 (K E0l E0l_64 _ _ _ ⟨_, rfl, RR3.mono (by exact (by repeat (first | exact HSub.refl h3 | refine HSub.put ?_ (by (try simp only [Heap.size_put, Heap.size_push, Heap.size_reserve]); omega) _ | refine HSub.push ?_ _ | refine HSub.reserve ?_ _)))⟩ ⟨_, rfl, RI.known (wr := true) (u := 0) (by simp -implicitDefEqProofs (disch := first | assumption | decide | omega | (simp only [wpD1] <;> omega) | (simp only [wpD2] <;> assumption) | solve_by_elim [HSub.refl, HSub.push, HSub.reserve] | fail) only [↓wpPre, wpPost, wpPoly, Int.reduceToNat, Int.reducePow, Int.reduceMul, Int.reduceAdd, Int.reduceSub, Int.reduceNeg, Nat.reduceAdd, Nat.reduceMul, Nat.reducePow, Int.reduceLT, Int.reduceLE, Int.reduceEq, Nat.reduceEqDiff]; rfl) ⟨rfl, by decide⟩ (Nat.le_refl _)⟩) (congrArg (AV.int .i64) kc12.2.1) ?_
  simp -implicitDefEqProofs (disch := first | assumption | decide | omega | (simp only [wpD1] <;> omega) | (simp only [wpD2] <;> assumption) | solve_by_elim [HSub.refl, HSub.push, HSub.reserve] | fail) only [↓wpPre, wpPost, wpPoly, Int.reduceToNat, Int.reducePow, Int.reduceMul, Int.reduceAdd, Int.reduceSub, Int.reduceNeg, Nat.reduceAdd, Nat.reduceMul, Nat.reducePow, Int.reduceLT, Int.reduceLE, Int.reduceEq, Nat.reduceEqDiff, gp3, ge3]
  refine ACallsK.eq2 (K E0 E0_64 _ _ _ ⟨_, rfl, RR3.mono (by exact (by repeat (first | exact HSub.refl h3 | refine HSub.put ?_ (by (try simp only [Heap.size_put, Heap.size_push, Heap.size_reserve]); omega) _ | refine HSub.push ?_ _ | refine HSub.reserve ?_ _)))⟩ ⟨_, rfl, BB3.mono (by exact (by repeat (first | exact HSub.refl h3 | refine HSub.put ?_ (by (try simp only [Heap.size_put, Heap.size_push, Heap.size_reserve]); omega) _ | refine HSub.push ?_ _ | refine HSub.reserve ?_ _)))⟩) (congrArg (AV.int .i64) kc12.2.2.1) ?_
  simp -implicitDefEqProofs (disch := first | assumption | decide | omega | (simp only [wpD1] <;> omega) | (simp only [wpD2] <;> assumption) | solve_by_elim [HSub.refl, HSub.push, HSub.reserve] | fail) only [↓wpPre, wpPost, wpPoly, Int.reduceToNat, Int.reducePow, Int.reduceMul, Int.reduceAdd, Int.reduceSub, Int.reduceNeg, Nat.reduceAdd, Nat.reduceMul, Nat.reducePow, Int.reduceLT, Int.reduceLE, Int.reduceEq, Nat.reduceEqDiff]
  exact sH3.trans (by exact (by repeat (first | exact HSub.refl h3 | refine HSub.put ?_ (by (try simp only [Heap.size_put, Heap.size_push, Heap.size_reserve]); omega) _ | refine HSub.push ?_ _ | refine HSub.reserve ?_ _)))
end
end Go.Ae

/- Numbers that elements of a list select. -/
set_option linter.unusedSimpArgs false
set_option linter.unusedVariables false
namespace Go.Ae
section
variable {C : Ctx}
def someOf (l : List Int) (i : Nat) (n : Int) : Int := if i < l.length then l.getD i 0 % n else 0
theorem Some_spec (hC : Has C T45) {v : AV} {l : List Int} {i : Nat} {n : Int} {h : Heap} (hl : RI h v l) (hx : ∀ x ∈ l, In64 x) (hn : 1 ≤ n ∧ n ≤ 9223372036854775807) :
    ACalls C 45 [v, .int .i64 (i : Nat), .int .i64 n] h (fun r h' => r = .int .i64 (someOf l i n) ∧ h' = h) := by
  have hlt := hl.lt
  (refine calls_intro (hC.body (by decide) tab45) (Nat.le_of_ble_eq_true rfl) ?_); (show wp C _ none B45.code _ _); (simp only [B45]); simp -implicitDefEqProofs (disch := first | assumption | decide | omega | (simp only [wpD1] <;> omega) | (simp only [wpD2] <;> assumption) | solve_by_elim [HSub.refl, HSub.push, HSub.reserve] | fail) only [↓wpPre, wpPost, wpPoly, Int.reduceToNat, Int.reducePow, Int.reduceMul, Int.reduceAdd, Int.reduceSub, Int.reduceNeg, Nat.reduceAdd, Nat.reduceMul, Nat.reducePow, Int.reduceLT, Int.reduceLE, Int.reduceEq, Nat.reduceEqDiff, hl.len]
  refine Br.by (fun c => ?_) (fun c => ?_)
  · simp -implicitDefEqProofs (disch := first | assumption | decide | omega | (simp only [wpD1] <;> omega) | (simp only [wpD2] <;> assumption) | solve_by_elim [HSub.refl, HSub.push, HSub.reserve] | fail) only [↓wpPre, wpPost, wpPoly, Int.reduceToNat, Int.reducePow, Int.reduceMul, Int.reduceAdd, Int.reduceSub, Int.reduceNeg, Nat.reduceAdd, Nat.reduceMul, Nat.reducePow, Int.reduceLT, Int.reduceLE, Int.reduceEq, Nat.reduceEqDiff, someOf, if_neg (show ¬ i < l.length by omega)]
  · have hi : i < l.length := by omega
    simp -implicitDefEqProofs (disch := first | assumption | decide | omega | (simp only [wpD1] <;> omega) | (simp only [wpD2] <;> assumption) | solve_by_elim [HSub.refl, HSub.push, HSub.reserve] | fail) only [↓wpPre, wpPost, wpPoly, Int.reduceToNat, Int.reducePow, Int.reduceMul, Int.reduceAdd, Int.reduceSub, Int.reduceNeg, Nat.reduceAdd, Nat.reduceMul, Nat.reducePow, Int.reduceLT, Int.reduceLE, Int.reduceEq, Nat.reduceEqDiff, hl.idx, hl.load]
    refine ACallsK.eq (Turn_spec (hC.sub (T' := T23) (by decide)) (hx _ (getD_mem hi)) hn) ?_
    simp -implicitDefEqProofs (disch := first | assumption | decide | omega | (simp only [wpD1] <;> omega) | (simp only [wpD2] <;> assumption) | solve_by_elim [HSub.refl, HSub.push, HSub.reserve] | fail) only [↓wpPre, wpPost, wpPoly, Int.reduceToNat, Int.reducePow, Int.reduceMul, Int.reduceAdd, Int.reduceSub, Int.reduceNeg, Nat.reduceAdd, Nat.reduceMul, Nat.reducePow, Int.reduceLT, Int.reduceLE, Int.reduceEq, Nat.reduceEqDiff, someOf, if_pos hi]

end
end Go.Ae

/- Plans and emitters that numbers select. -/
set_option linter.unusedSimpArgs false
set_option linter.unusedVariables false
namespace Go.Ae
theorem someOf_range {l : List Int} {i : Nat} {n : Int} (hn : 1 ≤ n) : 0 ≤ someOf l i n ∧ someOf l i n < n := by
  unfold someOf
  split
  · exact ⟨Int.emod_nonneg _ (by omega), Int.emod_lt_of_pos _ (by omega)⟩
  · omega
def prnK (f : Int) (k : Nat) : List Int := (List.range k).map fun i => f + 4 * (i : Nat)
theorem prnK_length (f : Int) (k : Nat) : (prnK f k).length = k := by simp [prnK]
theorem prnK_succ (f : Int) (k : Nat) : prnK f (k + 1) = prnK f k ++ [f + 4 * (k : Nat)] := by simp [prnK, List.range_succ]
def planOf (l : List Int) : PlanP := ⟨5 + someOf l 0 2, 1 + someOf l 1 3, 1 + someOf l 2 3, 2, 1 + someOf l 3 20, 1 + someOf l 3 20 + someOf l 5 20, someOf l 4 50, prnK (1 + someOf l 6 20) (someOf l 7 3 + 1).toNat⟩
theorem prnK_err (n f : Int) (hf : 1 ≤ f) : ∀ (m k : Nat), f + 4 * ((k + m : Nat) : Int) ≤ n + 6 → prnsErr n (prnK f k) ((List.range m).map fun i => f + 4 * ((k + i : Nat) : Int)) = 0
  | 0, k, _ => rfl
  | m + 1, k, h => by
    rw [List.range_succ_eq_map, List.map_cons, prnsErr, if_neg (by omega), if_neg]
    · have e : prnK f k ++ [f + 4 * ((k + 0 : Nat) : Int)] = prnK f (k + 1) := by rw [prnK_succ]; simp
      rw [e, List.map_map]
      have ih := prnK_err n f hf m (k + 1) (by omega)
      have e2 : ((fun i => f + 4 * ((k + i : Nat) : Int)) ∘ Nat.succ) = fun i => f + 4 * ((k + 1 + i : Nat) : Int) := by
        funext i
        show f + 4 * ((k + (i + 1) : Nat) : Int) = _
        omega
      rw [e2]
      exact ih
    · intro q
      rw [List.any_eq_true] at q
      obtain ⟨x, hx, q⟩ := q
      obtain ⟨i, hi, rfl⟩ := List.mem_map.1 hx
      rw [beq_iff_eq] at q
      have := List.mem_range.1 hi
      omega
theorem planOf_nums (l : List Int) : (planOf l).numsOk := by
  have h0 := someOf_range (l := l) (i := 0) (n := 2) (by omega)
  have h1 := someOf_range (l := l) (i := 1) (n := 3) (by omega)
  have h2 := someOf_range (l := l) (i := 2) (n := 3) (by omega)
  have h3 := someOf_range (l := l) (i := 3) (n := 20) (by omega)
  have h4 := someOf_range (l := l) (i := 4) (n := 50) (by omega)
  have h5 := someOf_range (l := l) (i := 5) (n := 20) (by omega)
  unfold PlanP.numsOk planOf
  dsimp only
  refine ⟨?_, by omega, by omega, by omega, by omega, by omega, by omega⟩
  rcases (show someOf l 0 2 = 0 ∨ someOf l 0 2 = 1 by omega) with e | e <;> rw [e] <;> decide
theorem planOf_64 (l : List Int) : (planOf l).ok64 := by
  have h0 := someOf_range (l := l) (i := 0) (n := 2) (by omega)
  have h1 := someOf_range (l := l) (i := 1) (n := 3) (by omega)
  have h2 := someOf_range (l := l) (i := 2) (n := 3) (by omega)
  have h3 := someOf_range (l := l) (i := 3) (n := 20) (by omega)
  have h4 := someOf_range (l := l) (i := 4) (n := 50) (by omega)
  have h5 := someOf_range (l := l) (i := 5) (n := 20) (by omega)
  have h6 := someOf_range (l := l) (i := 6) (n := 20) (by omega)
  have h7 := someOf_range (l := l) (i := 7) (n := 3) (by omega)
  unfold PlanP.ok64 planOf In64
  dsimp only
  refine ⟨by omega, by omega, by omega, by omega, by omega, by omega, by omega, fun x hx => ?_⟩
  obtain ⟨i, hi, rfl⟩ := List.mem_map.1 hx
  have := List.mem_range.1 hi
  omega
def bitK (l : List Int) (k : Nat) : List Int := (List.range k).map fun i => l.getD (7 + i) 0 % 2
theorem bitK_length (l : List Int) (k : Nat) : (bitK l k).length = k := by simp [bitK]
theorem bitK_succ (l : List Int) (k : Nat) : bitK l (k + 1) = bitK l k ++ [l.getD (7 + k) 0 % 2] := by simp [bitK, List.range_succ]
def emitOf (p : PlanP) (l : List Int) : EmitP := ⟨p.prns.getD 0 0, someOf l 0 p.size, someOf l 1 129 - 64, someOf l 2 64 * 67108864 + someOf l 3 67108864, someOf l 4 64 * 67108864, p.mn + someOf l 5 (p.mx - p.mn + 1), someOf l 6 p.pb, bitK l (min l.length 20 - 7)⟩
theorem emitOf_64 {p : PlanP} {l : List Int} (hp : p.numsOk) (h64 : p.ok64) (hl : 0 < p.prns.length) : (emitOf p l).ok64 := by
  have sz := size_range hp
  have h0 := someOf_range (l := l) (i := 0) (n := p.size) (by omega)
  have h1 := someOf_range (l := l) (i := 1) (n := 129) (by omega)
  have h2 := someOf_range (l := l) (i := 2) (n := 64) (by omega)
  have h3 := someOf_range (l := l) (i := 3) (n := 67108864) (by omega)
  have h4 := someOf_range (l := l) (i := 4) (n := 64) (by omega)
  have pm := hp.2.2.2.2
  have h5 := someOf_range (l := l) (i := 5) (n := p.mx - p.mn + 1) (by omega)
  have pb := hp.2.2.1
  have h6 := someOf_range (l := l) (i := 6) (n := p.pb) (by omega)
  have hx := h64.2.2.2.2.2.2.2 _ (getD_mem (l := p.prns) (i := 0) hl)
  unfold EmitP.ok64 emitOf
  dsimp only
  refine ⟨hx, by unfold In64; omega, by unfold In64; omega, by unfold U32; omega, by unfold U32; omega, by unfold In64; omega, by unfold In64; omega, fun x hx => ?_⟩
  obtain ⟨i, _, rfl⟩ := List.mem_map.1 hx
  unfold In64; omega
theorem emitOf_err {p : PlanP} {l : List Int} (hp : p.err = 0) : emitErr p (emitOf p l) = 0 := by
  have pn := plan_ok hp
  have sz := size_range pn
  have h0 := someOf_range (l := l) (i := 0) (n := p.size) (by omega)
  have h1 := someOf_range (l := l) (i := 1) (n := 129) (by omega)
  have pm := pn.2.2.2.2
  have h5 := someOf_range (l := l) (i := 5) (n := p.mx - p.mn + 1) (by omega)
  have pb := pn.2.2.1
  have h6 := someOf_range (l := l) (i := 6) (n := p.pb) (by omega)
  have hl : 0 < p.prns.length := by
    unfold PlanP.err at hp
    rw [if_pos pn] at hp
    by_cases c : p.prns.length = 0
    · rw [if_pos c] at hp; omega
    · omega
  have ha : (p.prns.any fun y => (emitOf p l).prn == y) = true := by
    rw [List.any_eq_true]
    exact ⟨_, getD_mem hl, by simp [emitOf]⟩
  have hn : (emitOf p l).numsOk p := by
    unfold EmitP.numsOk emitOf
    dsimp only
    omega
  have hb : (emitOf p l).bits.any (fun b => b != 0 && b != 1) = false := by
    rw [List.any_eq_false]
    intro x hx
    obtain ⟨i, _, rfl⟩ := List.mem_map.1 hx
    have := Int.emod_two_eq (l.getD (7 + i) 0)
    rcases this with e | e <;> rw [e] <;> decide
  have hlen : (emitOf p l).bits.length ≤ 20 := by
    show (bitK _ _).length ≤ 20
    rw [bitK_length]; omega
  unfold emitErr
  rw [if_pos hp, if_pos ha, if_pos hn, if_neg (by omega), if_neg (by rw [hb]; decide)]
theorem GrwI.putNe {h0 H : Heap} {v : AV} {l : List Int} {i : Nat} {b : ABlk} (A : GrwI h0 H v l) (hi : h0.size ≤ i) (hn : ∀ j ∈ v.ids, j ≠ i) : GrwI h0 (H.put i b) v l := by
  obtain ⟨hs, hl, hn', ⟨rfl, e⟩ | ⟨j, ex, hj, rfl, hg⟩⟩ := A
  · exact ⟨hs.put hi b, hl, hn', .inl ⟨rfl, e⟩⟩
  · exact ⟨hs.put hi b, hl, hn', .inr ⟨j, ex, hj, rfl, (get_put_ne (hn j (by simp [AV.ids]))).trans hg⟩⟩
theorem snocN_ne {H : Heap} {v : AV} {sz j : Nat} {cs : List AV} (hj : j < H.size) (hv : j ∉ v.ids) : (snocH H none v sz cs).get j = H.get j := by
  unfold snocH
  cases v
  case slice i o n c => exact (get_push_lt (by simpa using hj)).trans (get_put_ne (fun e => hv (by simp [AV.ids, e])))
  all_goals exact get_push_lt hj
theorem snocN_size {H : Heap} {v : AV} {sz : Nat} {cs : List AV} : (snocH H none v sz cs).size = H.size + 1 := by
  unfold snocH
  cases v <;> simp [Heap.new]
section
variable {C : Ctx}
set_option maxHeartbeats 4000000 in
set_option maxRecDepth 20000 in
theorem PlanOf_spec (hC : Has C T235) {v : AV} {l : List Int} {h : Heap} (hl : RI h v l) (hx : ∀ x ∈ l, In64 x) : ACalls C 235 [v] h (fun r h' => HSub h h' ∧ PlI h' r (planOf l)) := by
  have hlt := hl.lt
  have S := fun (i : Nat) (n : Int) (hn : 1 ≤ n ∧ n ≤ 9223372036854775807) h1 (q : HSub h h1) => Some_spec (hC.sub (T' := T45) (by decide)) (i := i) (hl.mono q) hx hn
  have h0 := someOf_range (l := l) (i := 0) (n := 2) (by omega)
  have h1 := someOf_range (l := l) (i := 1) (n := 3) (by omega)
  have h2 := someOf_range (l := l) (i := 2) (n := 3) (by omega)
  have h3 := someOf_range (l := l) (i := 3) (n := 20) (by omega)
  have h4 := someOf_range (l := l) (i := 4) (n := 50) (by omega)
  have h5 := someOf_range (l := l) (i := 5) (n := 20) (by omega)
  have h6 := someOf_range (l := l) (i := 6) (n := 20) (by omega)
  have h7 := someOf_range (l := l) (i := 7) (n := 3) (by omega)
  unfold PlI planOf
  dsimp only
  have S0 := S 0 2 (by omega)
  have S1 := S 1 3 (by omega)
  have S2 := S 2 3 (by omega)
  have S3 := S 3 20 (by omega)
  have S4 := S 4 50 (by omega)
  have S5 := S 5 20 (by omega)
  have S6 := S 6 20 (by omega)
  have S7 := S 7 3 (by omega)
  generalize someOf l 0 2 = a0 at *
  generalize someOf l 1 3 = a1 at *
  generalize someOf l 2 3 = a2 at *
  generalize someOf l 3 20 = a3 at *
  generalize someOf l 4 50 = a4 at *
  generalize someOf l 5 20 = a5 at *
  generalize someOf l 6 20 = a6 at *
  generalize someOf l 7 3 = a7 at *
  (refine calls_intro (hC.body (by decide) tab235) (Nat.le_of_ble_eq_true rfl) ?_); (show wp C _ none B235.code _ _); (simp only [B235]); simp -implicitDefEqProofs (disch := first | assumption | decide | omega | (simp only [wpD1] <;> omega) | (simp only [wpD2] <;> assumption) | solve_by_elim [HSub.refl, HSub.push, HSub.reserve] | fail) only [↓wpPre, wpPost, wpPoly, Int.reduceToNat, Int.reducePow, Int.reduceMul, Int.reduceAdd, Int.reduceSub, Int.reduceNeg, Nat.reduceAdd, Nat.reduceMul, Nat.reducePow, Int.reduceLT, Int.reduceLE, Int.reduceEq, Nat.reduceEqDiff]
  refine ACallsK.eq (S0 _ (by repeat (first | exact HSub.refl h | refine HSub.put ?_ (by (try simp only [Heap.size_put, Heap.size_push, Heap.size_reserve]); omega) _ | refine HSub.push ?_ _ | refine HSub.reserve ?_ _))) ?_
  simp -implicitDefEqProofs (disch := first | assumption | decide | omega | (simp only [wpD1] <;> omega) | (simp only [wpD2] <;> assumption) | solve_by_elim [HSub.refl, HSub.push, HSub.reserve] | fail) only [↓wpPre, wpPost, wpPoly, Int.reduceToNat, Int.reducePow, Int.reduceMul, Int.reduceAdd, Int.reduceSub, Int.reduceNeg, Nat.reduceAdd, Nat.reduceMul, Nat.reducePow, Int.reduceLT, Int.reduceLE, Int.reduceEq, Nat.reduceEqDiff]
  refine ACallsK.eq (S1 _ (by repeat (first | exact HSub.refl h | refine HSub.put ?_ (by (try simp only [Heap.size_put, Heap.size_push, Heap.size_reserve]); omega) _ | refine HSub.push ?_ _ | refine HSub.reserve ?_ _))) ?_
  simp -implicitDefEqProofs (disch := first | assumption | decide | omega | (simp only [wpD1] <;> omega) | (simp only [wpD2] <;> assumption) | solve_by_elim [HSub.refl, HSub.push, HSub.reserve] | fail) only [↓wpPre, wpPost, wpPoly, Int.reduceToNat, Int.reducePow, Int.reduceMul, Int.reduceAdd, Int.reduceSub, Int.reduceNeg, Nat.reduceAdd, Nat.reduceMul, Nat.reducePow, Int.reduceLT, Int.reduceLE, Int.reduceEq, Nat.reduceEqDiff]
  refine ACallsK.eq (S2 _ (by repeat (first | exact HSub.refl h | refine HSub.put ?_ (by (try simp only [Heap.size_put, Heap.size_push, Heap.size_reserve]); omega) _ | refine HSub.push ?_ _ | refine HSub.reserve ?_ _))) ?_
  simp -implicitDefEqProofs (disch := first | assumption | decide | omega | (simp only [wpD1] <;> omega) | (simp only [wpD2] <;> assumption) | solve_by_elim [HSub.refl, HSub.push, HSub.reserve] | fail) only [↓wpPre, wpPost, wpPoly, Int.reduceToNat, Int.reducePow, Int.reduceMul, Int.reduceAdd, Int.reduceSub, Int.reduceNeg, Nat.reduceAdd, Nat.reduceMul, Nat.reducePow, Int.reduceLT, Int.reduceLE, Int.reduceEq, Nat.reduceEqDiff]
  refine ACallsK.eq (S3 _ (by repeat (first | exact HSub.refl h | refine HSub.put ?_ (by (try simp only [Heap.size_put, Heap.size_push, Heap.size_reserve]); omega) _ | refine HSub.push ?_ _ | refine HSub.reserve ?_ _))) ?_
  simp -implicitDefEqProofs (disch := first | assumption | decide | omega | (simp only [wpD1] <;> omega) | (simp only [wpD2] <;> assumption) | solve_by_elim [HSub.refl, HSub.push, HSub.reserve] | fail) only [↓wpPre, wpPost, wpPoly, Int.reduceToNat, Int.reducePow, Int.reduceMul, Int.reduceAdd, Int.reduceSub, Int.reduceNeg, Nat.reduceAdd, Nat.reduceMul, Nat.reducePow, Int.reduceLT, Int.reduceLE, Int.reduceEq, Nat.reduceEqDiff]
  refine ACallsK.eq (S4 _ (by repeat (first | exact HSub.refl h | refine HSub.put ?_ (by (try simp only [Heap.size_put, Heap.size_push, Heap.size_reserve]); omega) _ | refine HSub.push ?_ _ | refine HSub.reserve ?_ _))) ?_
  simp -implicitDefEqProofs (disch := first | assumption | decide | omega | (simp only [wpD1] <;> omega) | (simp only [wpD2] <;> assumption) | solve_by_elim [HSub.refl, HSub.push, HSub.reserve] | fail) only [↓wpPre, wpPost, wpPoly, Int.reduceToNat, Int.reducePow, Int.reduceMul, Int.reduceAdd, Int.reduceSub, Int.reduceNeg, Nat.reduceAdd, Nat.reduceMul, Nat.reducePow, Int.reduceLT, Int.reduceLE, Int.reduceEq, Nat.reduceEqDiff]
  refine ACallsK.eq (S5 _ (by repeat (first | exact HSub.refl h | refine HSub.put ?_ (by (try simp only [Heap.size_put, Heap.size_push, Heap.size_reserve]); omega) _ | refine HSub.push ?_ _ | refine HSub.reserve ?_ _))) ?_
  simp -implicitDefEqProofs (disch := first | assumption | decide | omega | (simp only [wpD1] <;> omega) | (simp only [wpD2] <;> assumption) | solve_by_elim [HSub.refl, HSub.push, HSub.reserve] | fail) only [↓wpPre, wpPost, wpPoly, Int.reduceToNat, Int.reducePow, Int.reduceMul, Int.reduceAdd, Int.reduceSub, Int.reduceNeg, Nat.reduceAdd, Nat.reduceMul, Nat.reducePow, Int.reduceLT, Int.reduceLE, Int.reduceEq, Nat.reduceEqDiff]
  refine ACallsK.eq (S6 _ (by repeat (first | exact HSub.refl h | refine HSub.put ?_ (by (try simp only [Heap.size_put, Heap.size_push, Heap.size_reserve]); omega) _ | refine HSub.push ?_ _ | refine HSub.reserve ?_ _))) ?_
  simp -implicitDefEqProofs (disch := first | assumption | decide | omega | (simp only [wpD1] <;> omega) | (simp only [wpD2] <;> assumption) | solve_by_elim [HSub.refl, HSub.push, HSub.reserve] | fail) only [↓wpPre, wpPost, wpPoly, Int.reduceToNat, Int.reducePow, Int.reduceMul, Int.reduceAdd, Int.reduceSub, Int.reduceNeg, Nat.reduceAdd, Nat.reduceMul, Nat.reducePow, Int.reduceLT, Int.reduceLE, Int.reduceEq, Nat.reduceEqDiff]
  refine wp_loopI (fun j t h' => ∃ (k : Nat) (pv : AV), HSub h h' ∧ GrwI h h' pv (prnK (1 + a6) k) ∧ (∀ i ∈ pv.ids, h.size + 1 < i) ∧ h.size + 1 < h'.size ∧ h'.get h.size = some (.cells [.int .i64 0, .int .i64 0, .int .i64 0, .int .i64 0, .int .i64 0, .int .i64 0, .int .i64 0, .nilslice] true 0) ∧
      h'.get (h.size + 1) = some (.cells [.int .i64 (5 + a0), .int .i64 (1 + a1), .int .i64 (1 + a2), .int .i64 2, .int .i64 (1 + a3), .int .i64 (1 + a3 + a5), .int .i64 a4, pv] true 0) ∧ t 0 = v ∧ t 2 = .ptr h.size 0 ∧ t 3 = .ptr (h.size + 1) 0 ∧ t 4 = .int .i64 (1 + a6) ∧ t 5 = .int .i64 (k : Nat) ∧ (k : Int) ≤ a7 + 1 ∧ j = (a7 + 1 - k).toNat) (j0 := (a7 + 1).toNat)
    ⟨0, .nilslice, (by repeat (first | exact HSub.refl h | refine HSub.put ?_ (by (try simp only [Heap.size_put, Heap.size_push, Heap.size_reserve]); omega) _ | refine HSub.push ?_ _ | refine HSub.reserve ?_ _)), GrwI.nil' (by repeat (first | exact HSub.refl h | refine HSub.put ?_ (by (try simp only [Heap.size_put, Heap.size_push, Heap.size_reserve]); omega) _ | refine HSub.push ?_ _ | refine HSub.reserve ?_ _)), by simp [AV.ids], by simp, by simp -implicitDefEqProofs (disch := first | assumption | decide | omega | (simp only [wpD1] <;> omega) | (simp only [wpD2] <;> assumption) | solve_by_elim [HSub.refl, HSub.push, HSub.reserve] | fail) only [↓wpPre, wpPost, wpPoly, Int.reduceToNat, Int.reducePow, Int.reduceMul, Int.reduceAdd, Int.reduceSub, Int.reduceNeg, Nat.reduceAdd, Nat.reduceMul, Nat.reducePow, Int.reduceLT, Int.reduceLE, Int.reduceEq, Nat.reduceEqDiff], by simp -implicitDefEqProofs (disch := first | assumption | decide | omega | (simp only [wpD1] <;> omega) | (simp only [wpD2] <;> assumption) | solve_by_elim [HSub.refl, HSub.push, HSub.reserve] | fail) only [↓wpPre, wpPost, wpPoly, Int.reduceToNat, Int.reducePow, Int.reduceMul, Int.reduceAdd, Int.reduceSub, Int.reduceNeg, Nat.reduceAdd, Nat.reduceMul, Nat.reducePow, Int.reduceLT, Int.reduceLE, Int.reduceEq, Nat.reduceEqDiff], rfl, rfl, rfl, rfl, rfl, by omega, by simp⟩ ?_
  rintro j t H ⟨k, pv, s1, A, hid, hz, g0, g1, e0, e2, e3, e4, e5, hk, hj⟩
  simp -implicitDefEqProofs (disch := first | assumption | decide | omega | (simp only [wpD1] <;> omega) | (simp only [wpD2] <;> assumption) | solve_by_elim [HSub.refl, HSub.push, HSub.reserve] | fail) only [↓wpPre, wpPost, wpPoly, Int.reduceToNat, Int.reducePow, Int.reduceMul, Int.reduceAdd, Int.reduceSub, Int.reduceNeg, Nat.reduceAdd, Nat.reduceMul, Nat.reducePow, Int.reduceLT, Int.reduceLE, Int.reduceEq, Nat.reduceEqDiff, e0, e5]
  refine ACallsK.eq (S7 _ s1) ?_
  simp -implicitDefEqProofs (disch := first | assumption | decide | omega | (simp only [wpD1] <;> omega) | (simp only [wpD2] <;> assumption) | solve_by_elim [HSub.refl, HSub.push, HSub.reserve] | fail) only [↓wpPre, wpPost, wpPoly, Int.reduceToNat, Int.reducePow, Int.reduceMul, Int.reduceAdd, Int.reduceSub, Int.reduceNeg, Nat.reduceAdd, Nat.reduceMul, Nat.reducePow, Int.reduceLT, Int.reduceLE, Int.reduceEq, Nat.reduceEqDiff, e5]
  refine Br.by (fun c => ?_) (fun c => ?_)
  · have pl := prnK_length (1 + a6) k
    have ps := prnK_succ (1 + a6) k
    have pone := A.ri.one
    have pcells := A.ri.cells
    have hk2 : k ≤ 3 := by omega
    have ap := fun (H' : Heap) (hH : HSub H H') => A.app (x := 1 + a6 + 4 * (k : Nat)) H' hH (by omega)
    have Ac := A.snoc (x := 1 + a6 + 4 * (k : Nat)) (HSub.push1 H (.cells [.int .i64 (1 + a6 + 4 * (k : Nat))] true 0)) (by omega)
    rw [← ps] at Ac
    have nn1 : h.size + 1 ∉ pv.ids := fun q => by have := hid _ q; omega
    have nn0 : h.size ∉ pv.ids := fun q => by have := hid _ q; omega
    have q1 : (snocH (H.push (.cells [.int .i64 (1 + a6 + 4 * (k : Nat))] true 0)) none pv 1 (ints (prnK (1 + a6) (k + 1)))).get (h.size + 1) = some (.cells [.int .i64 (5 + a0), .int .i64 (1 + a1), .int .i64 (1 + a2), .int .i64 2, .int .i64 (1 + a3), .int .i64 (1 + a3 + a5), .int .i64 a4, pv] true 0) := (snocN_ne (by simp only [Heap.size_push]; omega) nn1).trans ((get_push_lt (by omega)).trans g1)
    have q0 : (snocH (H.push (.cells [.int .i64 (1 + a6 + 4 * (k : Nat))] true 0)) none pv 1 (ints (prnK (1 + a6) (k + 1)))).get h.size = some (.cells [.int .i64 0, .int .i64 0, .int .i64 0, .int .i64 0, .int .i64 0, .int .i64 0, .int .i64 0, .nilslice] true 0) := (snocN_ne (by simp only [Heap.size_push]; omega) nn0).trans ((get_push_lt (by omega)).trans g0)
    have qz : (snocH (H.push (.cells [.int .i64 (1 + a6 + 4 * (k : Nat))] true 0)) none pv 1 (ints (prnK (1 + a6) (k + 1)))).size = H.size + 1 + 1 := snocN_size
    simp -implicitDefEqProofs (disch := first | assumption | decide | omega | (simp only [wpD1] <;> omega) | (simp only [wpD2] <;> assumption) | solve_by_elim [HSub.refl, HSub.push, HSub.reserve] | fail) only [↓wpPre, wpPost, wpPoly, Int.reduceToNat, Int.reducePow, Int.reduceMul, Int.reduceAdd, Int.reduceSub, Int.reduceNeg, Nat.reduceAdd, Nat.reduceMul, Nat.reducePow, Int.reduceLT, Int.reduceLE, Int.reduceEq, Nat.reduceEqDiff, e3, e4, e5, g1, cont_slice, contB_one, ap, ← ps]
    generalize hT : snocH (H.push (.cells [.int .i64 (1 + a6 + 4 * (k : Nat))] true 0)) none pv 1 (ints (prnK (1 + a6) (k + 1))) = T at *
    simp -implicitDefEqProofs (disch := first | assumption | decide | omega | (simp only [wpD1] <;> omega) | (simp only [wpD2] <;> assumption) | solve_by_elim [HSub.refl, HSub.push, HSub.reserve] | fail) only [↓wpPre, wpPost, wpPoly, Int.reduceToNat, Int.reducePow, Int.reduceMul, Int.reduceAdd, Int.reduceSub, Int.reduceNeg, Nat.reduceAdd, Nat.reduceMul, Nat.reducePow, Int.reduceLT, Int.reduceLE, Int.reduceEq, Nat.reduceEqDiff, q0, q1, qz, e0, e2, e3, e4, e5]
    have idn : ∀ i ∈ (AV.slice (H.size + 1) 0 ((prnK (1 + a6) k).length + 1) (.unk 0)).ids, i = H.size + 1 := fun i hi => by simpa [AV.ids] using hi
    have Ac2 := Ac.putNe (i := h.size + 1) (b := .cells [.int .i64 (5 + a0), .int .i64 (1 + a1), .int .i64 (1 + a2), .int .i64 2, .int .i64 (1 + a3), .int .i64 (1 + a3 + a5), .int .i64 a4, .slice (H.size + 1) 0 ((prnK (1 + a6) k).length + 1) (.unk 0)] true 0) (by omega) (fun j hj => by have := idn j hj; omega)
    exact ⟨_, ⟨k + 1, _, Ac2.sub, Ac2, fun i hi => by have := idn i hi; omega, by omega, rfl, by simp, by omega, rfl⟩, by omega⟩
  · have ek : (a7 + 1).toNat = k := by omega
    rw [ek]
    have pone := A.ri.one
    have pcells := A.ri.cells
    simp -implicitDefEqProofs (disch := first | assumption | decide | omega | (simp only [wpD1] <;> omega) | (simp only [wpD2] <;> assumption) | solve_by_elim [HSub.refl, HSub.push, HSub.reserve] | fail) only [↓wpPre, wpPost, wpPoly, Int.reduceToNat, Int.reducePow, Int.reduceMul, Int.reduceAdd, Int.reduceSub, Int.reduceNeg, Nat.reduceAdd, Nat.reduceMul, Nat.reducePow, Int.reduceLT, Int.reduceLE, Int.reduceEq, Nat.reduceEqDiff, e2, e3, g0, g1]
    exact ⟨(by repeat (first | exact s1 | refine HSub.put ?_ (by (try simp only [Heap.size_put, Heap.size_push, Heap.size_reserve]); omega) _ | refine HSub.push ?_ _ | refine HSub.reserve ?_ _)), pv, rfl, (A.putNe (by omega) (fun j hj => by have := hid j hj; omega)).ri⟩
end
end Go.Ae

/- Emitters that numbers select: the contract. -/
set_option linter.unusedSimpArgs false
set_option linter.unusedVariables false
namespace Go.Ae
section
variable {C : Ctx}
set_option maxHeartbeats 4000000 in
set_option maxRecDepth 20000 in
theorem EmitterOf_spec (hC : Has C T236) {v w : AV} {p : PlanP} {l : List Int} {h : Heap} (hp : PlI h w p) (pn : p.numsOk) (hp0 : 0 < p.prns.length) (h64 : p.ok64) (hl : RI h v l) (hx : ∀ x ∈ l, In64 x) :
    ACalls C 236 [w, .int .i64 0, v] h (fun r h' => HSub h h' ∧ EmI h' r (emitOf p l)) := by
  have hlt := hl.lt
  obtain ⟨vp, rfl, R⟩ := hp
  have v1 := R.one
  have plt := R.lt
  have sz := size_range pn
  have hN := lenN_eq pn.1
  have hlc := lenOk_cases pn.1
  have pm := pn.2.2.2.2
  have pbb := pn.2.2.1
  have po := pn.2.1
  have eN1 : ((lenN p.d + 1 : Nat) : Int) - 1 = lenN p.d := by omega
  have es : (lenN p.d : Int) * p.o = p.size := rfl
  have S := fun (i : Nat) (n : Int) (hn : 1 ≤ n ∧ n ≤ 9223372036854775807) h1 (q : HSub h h1) => Some_spec (hC.sub (T' := T45) (by decide)) (i := i) (hl.mono q) hx hn
  have T0 := fun h1 => Turn_spec (h := h1) (x := 0) (n := (p.prns.length : Int)) (hC.sub (T' := T23) (by decide)) (by unfold In64; omega) (by omega)
  rw [Int.zero_emod] at T0
  have h0 := someOf_range (l := l) (i := 0) (n := p.size) (by omega)
  have h1 := someOf_range (l := l) (i := 1) (n := 129) (by omega)
  have h2 := someOf_range (l := l) (i := 2) (n := 64) (by omega)
  have h3 := someOf_range (l := l) (i := 3) (n := 67108864) (by omega)
  have h4 := someOf_range (l := l) (i := 4) (n := 64) (by omega)
  have h5 := someOf_range (l := l) (i := 5) (n := p.mx - p.mn + 1) (by omega)
  have h6 := someOf_range (l := l) (i := 6) (n := p.pb) (by omega)
  have S0 := S 0 p.size (by omega)
  have S1 := S 1 129 (by omega)
  have S2 := S 2 64 (by omega)
  have S3 := S 3 67108864 (by omega)
  have S4 := S 4 64 (by omega)
  have S5 := S 5 (p.mx - p.mn + 1) (by omega)
  have S6 := S 6 p.pb (by omega)
  unfold EmI emitOf
  dsimp only
  generalize someOf l 0 p.size = a0 at *
  generalize someOf l 1 129 = a1 at *
  generalize someOf l 2 64 = a2 at *
  generalize someOf l 3 67108864 = a3 at *
  generalize someOf l 4 64 = a4 at *
  generalize someOf l 5 (p.mx - p.mn + 1) = a5 at *
  generalize someOf l 6 p.pb = a6 at *
  have R2 := fun b c => R.mono (((HSub.push1 h b).push c).reserve 51)
  have ld := fun b c => (R2 b c).load (k := 0) hp0
  have ix : idxA 1 vp (.int .i64 0) = some (elA 1 vp 0) := R.idx (kk := .i64) (k := (0 : Int)) ⟨by omega, by omega⟩
  generalize p.prns.getD 0 0 = pr at *
  generalize p.size = z at *
  obtain ⟨pd, o, pb, w, mn, mx, nz, prns⟩ := p
  dsimp only at *
  (refine calls_intro (hC.body (by decide) tab236) (Nat.le_of_ble_eq_true rfl) ?_); (show wp C _ none B236.code _ _); (simp only [B236]); simp -implicitDefEqProofs (disch := first | assumption | decide | omega | (simp only [wpD1] <;> omega) | (simp only [wpD2] <;> assumption) | solve_by_elim [HSub.refl, HSub.push, HSub.reserve] | fail) only [↓wpPre, wpPost, wpPoly, Int.reduceToNat, Int.reducePow, Int.reduceMul, Int.reduceAdd, Int.reduceSub, Int.reduceNeg, Nat.reduceAdd, Nat.reduceMul, Nat.reducePow, Int.reduceLT, Int.reduceLE, Int.reduceEq, Nat.reduceEqDiff, R.len, Int.one_mul, hN.2.2, eN1, es]
  refine ACallsK.eq (T0 _) ?_
  simp -implicitDefEqProofs (disch := first | assumption | decide | omega | (simp only [wpD1] <;> omega) | (simp only [wpD2] <;> assumption) | solve_by_elim [HSub.refl, HSub.push, HSub.reserve] | fail) only [↓wpPre, wpPost, wpPoly, Int.reduceToNat, Int.reducePow, Int.reduceMul, Int.reduceAdd, Int.reduceSub, Int.reduceNeg, Nat.reduceAdd, Nat.reduceMul, Nat.reducePow, Int.reduceLT, Int.reduceLE, Int.reduceEq, Nat.reduceEqDiff, ix, ld, Int.one_mul, hN.2.2, eN1, es]
  refine ACallsK.eq (S0 _ (by repeat (first | exact HSub.refl h | refine HSub.put ?_ (by (try simp only [Heap.size_put, Heap.size_push, Heap.size_reserve]); omega) _ | refine HSub.push ?_ _ | refine HSub.reserve ?_ _))) ?_
  simp -implicitDefEqProofs (disch := first | assumption | decide | omega | (simp only [wpD1] <;> omega) | (simp only [wpD2] <;> assumption) | solve_by_elim [HSub.refl, HSub.push, HSub.reserve] | fail) only [↓wpPre, wpPost, wpPoly, Int.reduceToNat, Int.reducePow, Int.reduceMul, Int.reduceAdd, Int.reduceSub, Int.reduceNeg, Nat.reduceAdd, Nat.reduceMul, Nat.reducePow, Int.reduceLT, Int.reduceLE, Int.reduceEq, Nat.reduceEqDiff]
  refine ACallsK.eq (S1 _ (by repeat (first | exact HSub.refl h | refine HSub.put ?_ (by (try simp only [Heap.size_put, Heap.size_push, Heap.size_reserve]); omega) _ | refine HSub.push ?_ _ | refine HSub.reserve ?_ _))) ?_
  simp -implicitDefEqProofs (disch := first | assumption | decide | omega | (simp only [wpD1] <;> omega) | (simp only [wpD2] <;> assumption) | solve_by_elim [HSub.refl, HSub.push, HSub.reserve] | fail) only [↓wpPre, wpPost, wpPoly, Int.reduceToNat, Int.reducePow, Int.reduceMul, Int.reduceAdd, Int.reduceSub, Int.reduceNeg, Nat.reduceAdd, Nat.reduceMul, Nat.reducePow, Int.reduceLT, Int.reduceLE, Int.reduceEq, Nat.reduceEqDiff]
  refine ACallsK.eq (S2 _ (by repeat (first | exact HSub.refl h | refine HSub.put ?_ (by (try simp only [Heap.size_put, Heap.size_push, Heap.size_reserve]); omega) _ | refine HSub.push ?_ _ | refine HSub.reserve ?_ _))) ?_
  simp -implicitDefEqProofs (disch := first | assumption | decide | omega | (simp only [wpD1] <;> omega) | (simp only [wpD2] <;> assumption) | solve_by_elim [HSub.refl, HSub.push, HSub.reserve] | fail) only [↓wpPre, wpPost, wpPoly, Int.reduceToNat, Int.reducePow, Int.reduceMul, Int.reduceAdd, Int.reduceSub, Int.reduceNeg, Nat.reduceAdd, Nat.reduceMul, Nat.reducePow, Int.reduceLT, Int.reduceLE, Int.reduceEq, Nat.reduceEqDiff]
  refine ACallsK.eq (S3 _ (by repeat (first | exact HSub.refl h | refine HSub.put ?_ (by (try simp only [Heap.size_put, Heap.size_push, Heap.size_reserve]); omega) _ | refine HSub.push ?_ _ | refine HSub.reserve ?_ _))) ?_
  simp -implicitDefEqProofs (disch := first | assumption | decide | omega | (simp only [wpD1] <;> omega) | (simp only [wpD2] <;> assumption) | solve_by_elim [HSub.refl, HSub.push, HSub.reserve] | fail) only [↓wpPre, wpPost, wpPoly, Int.reduceToNat, Int.reducePow, Int.reduceMul, Int.reduceAdd, Int.reduceSub, Int.reduceNeg, Nat.reduceAdd, Nat.reduceMul, Nat.reducePow, Int.reduceLT, Int.reduceLE, Int.reduceEq, Nat.reduceEqDiff]
  refine ACallsK.eq (S4 _ (by repeat (first | exact HSub.refl h | refine HSub.put ?_ (by (try simp only [Heap.size_put, Heap.size_push, Heap.size_reserve]); omega) _ | refine HSub.push ?_ _ | refine HSub.reserve ?_ _))) ?_
  simp -implicitDefEqProofs (disch := first | assumption | decide | omega | (simp only [wpD1] <;> omega) | (simp only [wpD2] <;> assumption) | solve_by_elim [HSub.refl, HSub.push, HSub.reserve] | fail) only [↓wpPre, wpPost, wpPoly, Int.reduceToNat, Int.reducePow, Int.reduceMul, Int.reduceAdd, Int.reduceSub, Int.reduceNeg, Nat.reduceAdd, Nat.reduceMul, Nat.reducePow, Int.reduceLT, Int.reduceLE, Int.reduceEq, Nat.reduceEqDiff]
  refine ACallsK.eq (S5 _ (by repeat (first | exact HSub.refl h | refine HSub.put ?_ (by (try simp only [Heap.size_put, Heap.size_push, Heap.size_reserve]); omega) _ | refine HSub.push ?_ _ | refine HSub.reserve ?_ _))) ?_
  simp -implicitDefEqProofs (disch := first | assumption | decide | omega | (simp only [wpD1] <;> omega) | (simp only [wpD2] <;> assumption) | solve_by_elim [HSub.refl, HSub.push, HSub.reserve] | fail) only [↓wpPre, wpPost, wpPoly, Int.reduceToNat, Int.reducePow, Int.reduceMul, Int.reduceAdd, Int.reduceSub, Int.reduceNeg, Nat.reduceAdd, Nat.reduceMul, Nat.reducePow, Int.reduceLT, Int.reduceLE, Int.reduceEq, Nat.reduceEqDiff]
  refine ACallsK.eq (S6 _ (by repeat (first | exact HSub.refl h | refine HSub.put ?_ (by (try simp only [Heap.size_put, Heap.size_push, Heap.size_reserve]); omega) _ | refine HSub.push ?_ _ | refine HSub.reserve ?_ _))) ?_
  simp -implicitDefEqProofs (disch := first | assumption | decide | omega | (simp only [wpD1] <;> omega) | (simp only [wpD2] <;> assumption) | solve_by_elim [HSub.refl, HSub.push, HSub.reserve] | fail) only [↓wpPre, wpPost, wpPoly, Int.reduceToNat, Int.reducePow, Int.reduceMul, Int.reduceAdd, Int.reduceSub, Int.reduceNeg, Nat.reduceAdd, Nat.reduceMul, Nat.reducePow, Int.reduceLT, Int.reduceLE, Int.reduceEq, Nat.reduceEqDiff, Heap.wf]
  refine wp_loopI (fun j t h' => ∃ (k : Nat) (bv : AV), GrwI h h' bv (bitK l k) ∧ (∀ i ∈ bv.ids, h.size + 1 + 1 + 49 < i) ∧ h.size + 1 + 1 + 49 < h'.size ∧ h'.get (h.size + 1) = some (.cells [.int .i64 0, .int .i64 0, .int .i64 0, .int .u32 0, .int .u32 0, .int .i64 0, .int .i64 0, .nilslice] true 0) ∧ h'.get (h.size + 1 + 1 + 49) = some (.cells [.int .i64 pr, .int .i64 a0, .int .i64 (a1 - 64), .int .u32 (a2 * 67108864 + a3), .int .u32 (a4 * 67108864), .int .i64 (mn + a5), .int .i64 a6, bv] true 0) ∧ t 2 = v ∧ t 6 = .ptr (h.size + 1) 0 ∧ t 7 = .ptr (h.size + 1 + 1 + 49) 0 ∧ t 8 = .int .i64 ((7 + k : Nat) : Int) ∧ k ≤ min l.length 20 - 7 ∧ j = min l.length 20 - 7 - k) (j0 := min l.length 20 - 7)
    ⟨0, .nilslice, GrwI.nil' (by repeat (first | exact HSub.refl h | refine HSub.put ?_ (by (try simp only [Heap.size_put, Heap.size_push, Heap.size_reserve]); omega) _ | refine HSub.push ?_ _ | refine HSub.reserve ?_ _)), by simp [AV.ids], by simp, by simp -implicitDefEqProofs (disch := first | assumption | decide | omega | (simp only [wpD1] <;> omega) | (simp only [wpD2] <;> assumption) | solve_by_elim [HSub.refl, HSub.push, HSub.reserve] | fail) only [↓wpPre, wpPost, wpPoly, Int.reduceToNat, Int.reducePow, Int.reduceMul, Int.reduceAdd, Int.reduceSub, Int.reduceNeg, Nat.reduceAdd, Nat.reduceMul, Nat.reducePow, Int.reduceLT, Int.reduceLE, Int.reduceEq, Nat.reduceEqDiff], by simp -implicitDefEqProofs (disch := first | assumption | decide | omega | (simp only [wpD1] <;> omega) | (simp only [wpD2] <;> assumption) | solve_by_elim [HSub.refl, HSub.push, HSub.reserve] | fail) only [↓wpPre, wpPost, wpPoly, Int.reduceToNat, Int.reducePow, Int.reduceMul, Int.reduceAdd, Int.reduceSub, Int.reduceNeg, Nat.reduceAdd, Nat.reduceMul, Nat.reducePow, Int.reduceLT, Int.reduceLE, Int.reduceEq, Nat.reduceEqDiff], rfl, rfl, rfl, rfl, by omega, rfl⟩ ?_
  rintro j t H ⟨k, bv, A, hid, hz, g0, g1, e2, e6, e7, e8, hk, hj⟩
  have bone := A.ri.one
  have hl1 := hl.mono A.sub
  by_cases c : 7 + k < l.length ∧ 7 + k < 20
  · have c1 : ((7 + k : Nat) : Int) < l.length := by omega
    have c2 : ((7 + k : Nat) : Int) < 20 := by omega
    have pl := bitK_length l k
    have ps := bitK_succ l k
    have hx1 := hx _ (getD_mem (i := 7 + k) c.1)
    have T1 := fun h1 => Turn_spec (h := h1) (x := l.getD (7 + k) 0) (n := 2) (hC.sub (T' := T23) (by decide)) hx1 (by omega)
    have ld := (hl.mono (A.sub.reserve 11)).load (k := 7 + k) c.1
    have ix := hl1.idx (kk := .i64) (k := ((7 + k : Nat) : Int)) ⟨by omega, by omega⟩
    rw [Int.toNat_natCast] at ix
    generalize hm : l.getD (7 + k) 0 % 2 = m at *
    simp -implicitDefEqProofs (disch := first | assumption | decide | omega | (simp only [wpD1] <;> omega) | (simp only [wpD2] <;> assumption) | solve_by_elim [HSub.refl, HSub.push, HSub.reserve] | fail) only [↓wpPre, wpPost, wpPoly, Int.reduceToNat, Int.reducePow, Int.reduceMul, Int.reduceAdd, Int.reduceSub, Int.reduceNeg, Nat.reduceAdd, Nat.reduceMul, Nat.reducePow, Int.reduceLT, Int.reduceLE, Int.reduceEq, Nat.reduceEqDiff, e2, e7, e8, hl1.len, gV_u, c1, c2, g1, ix, ld]
    refine ACallsK.eq (T1 _) ?_
    have hsH : HSub H ((H.reserve 11).put (H.size + 7) (.cells [.int .i64 m] true 0)) := ((HSub.refl H).reserve 11).put (by omega) _
    have hkk : H.size ≤ H.size + 8 ∧ H.size + 8 < ((H.reserve 11).put (H.size + 7) (.cells [.int .i64 m] true 0)).size := ⟨by omega, by simp only [Heap.size_put, Heap.size_reserve]; omega⟩
    have ap := A.appS (x := m) _ (H.size + 8) hsH hkk (by omega)
    have gN : ((H.reserve 11).put (H.size + 7) (.cells [.int .i64 m] true 0)).get (H.size + 8) = none := by
      rw [get_put_ne (by omega), Heap.get_reserve]; exact H.wf _ (by omega)
    have Ac := A.snocS (x := m) hsH hkk (by omega)
    rw [← ps] at ap Ac
    have nn1 : h.size + 1 + 1 + 49 ∉ bv.ids := fun q => by have := hid _ q; omega
    have nn0 : h.size + 1 ∉ bv.ids := fun q => by have := hid _ q; omega
    have q1 : (snocH ((H.reserve 11).put (H.size + 7) (.cells [.int .i64 m] true 0)) (some (H.size + 8)) bv 1 (ints (bitK l (k + 1)))).get (h.size + 1 + 1 + 49) = some (.cells [.int .i64 pr, .int .i64 a0, .int .i64 (a1 - 64), .int .u32 (a2 * 67108864 + a3), .int .u32 (a4 * 67108864), .int .i64 (mn + a5), .int .i64 a6, bv] true 0) := (snocS_ne (by omega) nn1).trans ((get_put_ne (by omega)).trans ((Heap.get_reserve _ _ _).trans g1))
    have q0 : (snocH ((H.reserve 11).put (H.size + 7) (.cells [.int .i64 m] true 0)) (some (H.size + 8)) bv 1 (ints (bitK l (k + 1)))).get (h.size + 1) = some (.cells [.int .i64 0, .int .i64 0, .int .i64 0, .int .u32 0, .int .u32 0, .int .i64 0, .int .i64 0, .nilslice] true 0) := (snocS_ne (by omega) nn0).trans ((get_put_ne (by omega)).trans ((Heap.get_reserve _ _ _).trans g0))
    have qz : (snocH ((H.reserve 11).put (H.size + 7) (.cells [.int .i64 m] true 0)) (some (H.size + 8)) bv 1 (ints (bitK l (k + 1)))).size = H.size + 11 := by rw [snocS_size]; simp only [Heap.size_put, Heap.size_reserve]
    simp -implicitDefEqProofs (disch := first | assumption | decide | omega | (simp only [wpD1] <;> omega) | (simp only [wpD2] <;> assumption) | solve_by_elim [HSub.refl, HSub.push, HSub.reserve] | fail) only [↓wpPre, wpPost, wpPoly, Int.reduceToNat, Int.reducePow, Int.reduceMul, Int.reduceAdd, Int.reduceSub, Int.reduceNeg, Nat.reduceAdd, Nat.reduceMul, Nat.reducePow, Int.reduceLT, Int.reduceLE, Int.reduceEq, Nat.reduceEqDiff, cont_slice, contB_one, ap, gN, appK_none, Heap.wf]
    generalize hT : (snocH ((H.reserve 11).put (H.size + 7) (.cells [.int .i64 m] true 0)) (some (H.size + 8)) bv 1 (ints (bitK l (k + 1)))) = T at *
    simp -implicitDefEqProofs (disch := first | assumption | decide | omega | (simp only [wpD1] <;> omega) | (simp only [wpD2] <;> assumption) | solve_by_elim [HSub.refl, HSub.push, HSub.reserve] | fail) only [↓wpPre, wpPost, wpPoly, Int.reduceToNat, Int.reducePow, Int.reduceMul, Int.reduceAdd, Int.reduceSub, Int.reduceNeg, Nat.reduceAdd, Nat.reduceMul, Nat.reducePow, Int.reduceLT, Int.reduceLE, Int.reduceEq, Nat.reduceEqDiff, q0, q1, qz, e2, e6, e7, e8]
    have idn : ∀ i ∈ (AV.slice (H.size + 8) 0 ((bitK l k).length + 1) (.unk 0)).ids, i = H.size + 8 := fun i hi => by simpa [AV.ids] using hi
    have Ac2 := fun b => Ac.putNe (i := h.size + 1 + 1 + 49) (b := b) (by omega) (fun j hj => by have := idn j hj; omega)
    exact ⟨_, ⟨k + 1, _, Ac2 _, fun i hi => by have := idn i hi; omega, by omega, rfl, by omega, by omega, rfl⟩, by omega⟩
  · have ek : min l.length 20 - 7 = k := by omega
    rw [ek]
    by_cases c1 : ((7 + k : Nat) : Int) < l.length
    · have c2 : ¬ ((7 + k : Nat) : Int) < 20 := by omega
      simp -implicitDefEqProofs (disch := first | assumption | decide | omega | (simp only [wpD1] <;> omega) | (simp only [wpD2] <;> assumption) | solve_by_elim [HSub.refl, HSub.push, HSub.reserve] | fail) only [↓wpPre, wpPost, wpPoly, Int.reduceToNat, Int.reducePow, Int.reduceMul, Int.reduceAdd, Int.reduceSub, Int.reduceNeg, Nat.reduceAdd, Nat.reduceMul, Nat.reducePow, Int.reduceLT, Int.reduceLE, Int.reduceEq, Nat.reduceEqDiff, e2, e6, e7, e8, hl1.len, gV_u, c1, c2, g0, g1]
      exact ⟨A.sub.put (by omega) _, bv, rfl, (A.putNe (by omega) (fun j hj => by have := hid j hj; omega)).ri⟩
    · simp -implicitDefEqProofs (disch := first | assumption | decide | omega | (simp only [wpD1] <;> omega) | (simp only [wpD2] <;> assumption) | solve_by_elim [HSub.refl, HSub.push, HSub.reserve] | fail) only [↓wpPre, wpPost, wpPoly, Int.reduceToNat, Int.reducePow, Int.reduceMul, Int.reduceAdd, Int.reduceSub, Int.reduceNeg, Nat.reduceAdd, Nat.reduceMul, Nat.reducePow, Int.reduceLT, Int.reduceLE, Int.reduceEq, Nat.reduceEqDiff, e2, e6, e7, e8, hl1.len, gV_u, c1, g0, g1]
      exact ⟨A.sub.put (by omega) _, bv, rfl, (A.putNe (by omega) (fun j hj => by have := hid j hj; omega)).ri⟩
end
end Go.Ae

/- A number, turned into a range. -/
set_option linter.unusedSimpArgs false
set_option linter.unusedVariables false
namespace Go.Ae
theorem turnN {x : Int} {n : Nat} (hn : 0 < n) : ∃ k : Nat, x % (n : Int) = k ∧ k < n := by
  have h1 := Int.emod_nonneg x (show (n : Int) ≠ 0 by omega)
  have h2 := Int.emod_lt_of_pos x (show (0 : Int) < n by omega)
  exact ⟨(x % n).toNat, by omega, by omega⟩
end Go.Ae

/- The statement on periods, of layer 12. -/
set_option linter.unusedSimpArgs false
set_option linter.unusedVariables false
namespace Go.Ae
theorem EmOk.plb2 {p : PlanP} {e : EmitP} (h : EmOk p e) {n : Int} (hn : -100100 ≤ n ∧ n ≤ 100100) : -200000 ≤ e.pl p n ∧ e.pl p n ≤ 200000 := by
  have s := size_range h.pn
  have r := h.en.2.1
  have d := h.en.1
  unfold EmitP.pl plI
  generalize hD : 1024 * p.size + e.rt = D
  have hD2 : 1024 ≤ D := by omega
  generalize hM : 1024 * (n - e.dl + 1) - 1 = M
  have hM2 : -(1024 * 200000) ≤ M ∧ M ≤ 1024 * 200000 := by omega
  constructor
  · rw [Int.le_ediv_iff_mul_le (by omega)]
    omega
  · rw [← Int.lt_add_one_iff, Int.ediv_lt_iff_lt_mul (by omega)]
    omega
theorem made_zero {p : PlanP} {e : EmitP} {n : Int} (h : emitErr p e = 0) (hn : -10000000 ≤ n ∧ n ≤ 10000000) : madeErr p e n = 0 := by
  unfold madeErr
  rw [if_pos h, if_neg (by omega)]
section
variable {C : Ctx}
end
end Go.Ae
