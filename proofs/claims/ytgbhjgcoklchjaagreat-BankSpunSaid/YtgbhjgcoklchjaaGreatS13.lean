/- Texts of the proof, part 13: a second reading of the lowered code, proved sound, and what the functions compute. -/
import Derived.Sort.Row
import Derived.Sort.Grow
import Derived.Test.YtgbhjgcoklchjaaGreatS12
/- Go's sort of a list of numbers, as the library's contract tells it. -/
set_option linter.unusedSimpArgs false
set_option linter.unusedVariables false
namespace Go.Ae
open Go.Sort
end Go.Ae
/- Circular sums of the reference of layer 9. -/
set_option linter.unusedSimpArgs false
set_option linter.unusedVariables false
namespace Go.Ae
def cs (a b : List Int) (k : Nat) : Nat → Int
 | 0 => 0
 | i + 1 => cs a b k i + a.getD i 0 * b.getD ((i + k) % b.length) 0
section
variable {C : Ctx}
end
end Go.Ae
/- Circular of the references. -/
set_option linter.unusedSimpArgs false
set_option linter.unusedVariables false
namespace Go.Ae
section
variable {C : Ctx}
end
end Go.Ae
/- Circular of the program's package cross. -/
set_option linter.unusedSimpArgs false
set_option linter.unusedVariables false
namespace Go.Ae
section
variable {C : Ctx}
end
end Go.Ae
/- Spectra, in plain numbers: how often the circular sums occur. -/
set_option linter.unusedSimpArgs false
set_option linter.unusedVariables false
namespace Go.Ae
end Go.Ae
/- Counting behind sorting is counting by values. -/
set_option linter.unusedSimpArgs false
set_option linter.unusedVariables false
namespace Go.Ae
end Go.Ae
/- The spectrum of two codes, of the program. -/
set_option linter.unusedSimpArgs false
set_option linter.unusedVariables false
namespace Go.Ae
theorem GrwS.at {h0 h : Heap} {v : AV} {l : List (Int × Int)} (A : GrwS h0 h v l) (hl : 0 < l.length) : ∃ i ex, h0.size ≤ i ∧ v = .slice i 0 l.length (.unk 0) ∧ h.get i = some (.cells (smps l ++ ex) true 2) := by
 obtain ⟨_, _, _, ⟨_, h1⟩ | ⟨i, ex, hi, hv, hg⟩⟩ := A
 ·omega
 ·exact ⟨i, ex, hi, hv, hg⟩
theorem GrwS.turn {h0 h : Heap} {i : Nat} {l : List (Int × Int)} {ex : List AV} {k : Nat} {x y : Int} (A : GrwS h0 h (.slice i 0 l.length (.unk 0)) l) (hi : h0.size ≤ i) (hg : h.get i = some (.cells (smps l ++ ex) true 2)) (hk : k < l.length) (hx : (l.getD k (0, 0)).1 = x) :
  (smps l ++ ex).set (k * 2 + 1) (.int .i64 y) = smps (l.set k (x, y)) ++ ex ∧ GrwS h0 (h.put i (.cells (smps (l.set k (x, y)) ++ ex) true 2)) (.slice i 0 l.length (.unk 0)) (l.set k (x, y)) := by
 have hlt := Heap.lt_of_get hg
 have hle : (l.set k (x, y)).length = l.length := List.length_set
 refine ⟨?_, ⟨A.sub.put hi _, smps_length, by have := A.2.2.1; omega, .inr ⟨i, ex, hi, by rw [hle], get_put_eq rfl hlt⟩⟩⟩
 rw [List.set_append_left _ _ (by rw [smps_length]; omega)]
 congr 1
 clear A hg hi hlt hle
 induction l generalizing k with
 | nil => simp at hk
 | cons p l ih =>
  cases k with
  | zero =>
   simp only [List.getD_cons_zero] at hx
   rw [smps_cons, List.set_cons_zero, smps_cons, hx]; rfl
  | succ k =>
   rw [List.getD_cons_succ] at hx
   rw [show (k + 1) * 2 + 1 = k * 2 + 1 + 1 + 1 by omega, smps_cons, List.set_cons_succ, List.set_cons_succ, List.set_cons_succ, smps_cons, ih (by simpa using hk) hx]
section
variable {C : Ctx}
end
end Go.Ae
/- The spectrum of two codes, of the reference. -/
set_option linter.unusedSimpArgs false
set_option linter.unusedVariables false
namespace Go.Ae
section
variable {C : Ctx}
end
end Go.Ae
/- Lists of lists of numbers, read and compared; pairs as lists. -/
set_option linter.unusedSimpArgs false
set_option linter.unusedVariables false
namespace Go.Ae
def LLI (h : Heap) (v : AV) (ll : List (List Int)) : Prop := ∃ vs : List AV, SL h 1 v ll.length vs ∧ vs.length = ll.length ∧ ∀ i, i < ll.length → RI h (vs.getD i .nilslice) (ll.getD i [])
theorem LLI.mono {h h' : Heap} {v : AV} {ll : List (List Int)} (H : LLI h v ll) (hs : HSub h h') : LLI h' v ll := by
 obtain ⟨vs, a, b, c⟩ := H
 exact ⟨vs, a.mono hs, b, fun i hi => (c i hi).mono hs⟩
theorem LLI.len {h : Heap} {v : AV} {ll : List (List Int)} (H : LLI h v ll) : lenA v = some (.int .i64 ll.length) := by obtain ⟨vs, a, _, _⟩ := H; exact a.len
theorem LLI.nil {h : Heap} : LLI h .nilslice [] := ⟨[], ⟨rfl, by decide, .inl ⟨rfl, rfl⟩⟩, rfl, fun i hi => by simp at hi⟩
theorem LLI.at {h : Heap} {v : AV} {ll : List (List Int)} (H : LLI h v ll) {i : Nat} (hi : i < ll.length) : ∃ w, idxA 1 v (.int .i64 (i : Nat)) = some (elA 1 v i) ∧ loadA h false 1 (elA 1 v i) = some w ∧ RI h w (ll.getD i []) := by
 obtain ⟨vs, a, b, c⟩ := H
 refine ⟨vs.getD i .nilslice, a.idx ⟨by omega, by omega⟩, ?_, c i hi⟩
 rw [SL.load1 a hi]
 simp [show i < vs.length by omega]
section
variable {C : Ctx}
def Two (h0 h : Heap) (v w : AV) (p : Int × Int) : Prop := ∃ j, h0.size ≤ j ∧ w = .slice j 0 2 (.known 2) ∧ h.get j = some (.cells [.int .i64 p.1, .int .i64 p.2] true 0) ∧ j ∉ v.ids
end
end Go.Ae
/- Examples of layer 9, by contracts. -/
set_option linter.unusedSimpArgs false
set_option linter.unusedVariables false
namespace Go.Ae
section
variable {C : Ctx}
end
end Go.Ae
/- The statement on parts of placements of layer 9. -/
set_option linter.unusedSimpArgs false
set_option linter.unusedVariables false
namespace Go.Ae
section
variable {C : Ctx}
end
end Go.Ae
/- The statements on spins and on sums, of layer 14. -/
set_option linter.unusedSimpArgs false
set_option linter.unusedVariables false
namespace Go.Ae
def cdL : List (Int × Int) := (sampL 5 1 1).map fun x => (x, 0)
def cdK (k : Nat) : List (Int × Int) := (List.range k).map fun i => ((sampL 5 1 1).getD i 0, 0)
theorem cdK_succ (k : Nat) : cdK (k + 1) = cdK k ++ [((sampL 5 1 1).getD k 0, 0)] := by simp [cdK, List.range_succ]
theorem cdK_length (k : Nat) : (cdK k).length = k := by simp [cdK]
theorem cdL_eq : cdK (sampL 5 1 1).length = cdL := by
 refine List.ext_getElem (by simp [cdK, cdL]) fun i h1 h2 => ?_
 simp [cdK, cdL] at h1 h2 ⊢
 simp [List.getElem?_eq_getElem h2]
theorem k_code : sampErr 5 1 [1] = 0 ∧ (sampL 5 1 1).length = 31 := by decide +kernel
theorem k_sum0 : bankErr cdL 5 1 1 0 = 0 ∧ sumP cdL (sampL 5 1 1) 0 = (31, 0) := by decide +kernel
theorem k_sum1 : bankErr cdL 5 1 1 1 = 0 ∧ sumP cdL (sampL 5 1 1) 1 = (0, 0) := by decide +kernel
theorem k_spin0 : smE [(1, 0), (0, 1)] 16 = 0 ∧ spinK [(1, 0), (0, 1)] 1073741824 [((1 : Int), (0 : Int)), (0, 1)].length = (254, 0) := by decide +kernel
theorem k_spin : spinE [(1, 0), (0, 1)] 1073741824 = .tuple [smp (254, 0), .int .i64 0] := by
 unfold spinE
 rw [if_pos k_spin0.1, k_spin0.2]
theorem k_bs0 : bsumE cdL 5 1 1 0 = .tuple [smp (31, 0), .int .i64 0] := by
 have e : (1 : Int).toNat = 1 := rfl
 unfold bsumE
 rw [if_pos k_sum0.1, e, k_sum0.2]
theorem k_bs1 : bsumE cdL 5 1 1 1 = .tuple [smp (0, 0), .int .i64 0] := by
 have e : (1 : Int).toNat = 1 := rfl
 unfold bsumE
 rw [if_pos k_sum1.1, e, k_sum1.2]
section
variable {C : Ctx}
theorem code283_spec (hC : Has C T283) {h : Heap} : ACalls C 283 [] h (fun r h' => HSub h h' ∧ SI h' r cdL) := by
 have kS := fun h1 => SamplesR_spec (hC.sub (T' := T169) (by decide)) (d := 5) (o := 1) (p := 1) (h := h1) (by unfold In64; omega) (by unfold In64; omega) (by unfold In64; omega)
 rw [k_code.1, if_pos rfl] at kS
 have kl := k_code.2
 have e1 : (1 : Int).toNat = 1 := rfl
 rw [e1] at kS
 have ce := cdL_eq
 have cs := cdK_succ
 generalize sampL 5 1 1 = c at *
 (refine calls_intro (hC.body (by decide) tab283) (Nat.le_of_ble_eq_true rfl) ?_); (show wp C _ none B283.code _ _); (simp only [B283]); simp -implicitDefEqProofs (disch := first | assumption | decide | omega | (simp only [wpD1] <;> omega) | (simp only [wpD2] <;> assumption) | solve_by_elim [zR, zP, zV] | fail) only [↓wpPre, wpPost, wpPoly, Int.reduceToNat, Int.reducePow, Int.reduceMul, Int.reduceAdd, Int.reduceSub, Int.reduceNeg, Nat.reduceAdd, Nat.reduceMul, Nat.reducePow, Int.reduceLT, Int.reduceLE, Int.reduceEq, Nat.reduceEqDiff]
 refine ACallsK.of (kS _) ?_
 rintro r h1 ⟨w, rfl, s1, R⟩
 simp -implicitDefEqProofs (disch := first | assumption | decide | omega | (simp only [wpD1] <;> omega) | (simp only [wpD2] <;> assumption) | solve_by_elim [zR, zP, zV] | fail) only [↓wpPre, wpPost, wpPoly, Int.reduceToNat, Int.reducePow, Int.reduceMul, Int.reduceAdd, Int.reduceSub, Int.reduceNeg, Nat.reduceAdd, Nat.reduceMul, Nat.reducePow, Int.reduceLT, Int.reduceLE, Int.reduceEq, Nat.reduceEqDiff, lstErr]
 refine wp_loopI (fun j t h' => ∃ k : Nat, GrwS h1 h' (t 3) (cdK k) ∧ t 1 = w ∧ t 4 = .int .i64 (k : Nat) ∧ k ≤ c.length ∧ j = c.length - k) (j0 := c.length)
  ⟨0, GrwS.nil _, rfl, rfl, by omega, rfl⟩ ?_
 rintro j t h2 ⟨k, A, e1, e4, hk, hj⟩
 have Rl := R.mono A.sub
 simp -implicitDefEqProofs (disch := first | assumption | decide | omega | (simp only [wpD1] <;> omega) | (simp only [wpD2] <;> assumption) | solve_by_elim [zR, zP, zV] | fail) only [↓wpPre, wpPost, wpPoly, Int.reduceToNat, Int.reducePow, Int.reduceMul, Int.reduceAdd, Int.reduceSub, Int.reduceNeg, Nat.reduceAdd, Nat.reduceMul, Nat.reducePow, Int.reduceLT, Int.reduceLE, Int.reduceEq, Nat.reduceEqDiff, e1, e4, Rl.len]
 refine Br.by (fun c3 => ?_) (fun c3 => ?_)
 ·have hk' : k < c.length := by omega
  have cs := cs k
  have cl := cdK_length k
  have ld := Rl.load hk'
  generalize c.getD k 0 = x at *
  have ap := A.app (x := x) (y := 0)
  have Ac := A.snoc (x := x) (y := 0) (HSub.push1 h2 (.cells [.int .i64 x, .int .i64 0] true 0)) (by omega)
  rw [← cs] at Ac
  simp -implicitDefEqProofs (disch := first | assumption | decide | omega | (simp only [wpD1] <;> omega) | (simp only [wpD2] <;> assumption) | solve_by_elim [zR, zP, zV] | fail) only [↓wpPre, wpPost, wpPoly, Int.reduceToNat, Int.reducePow, Int.reduceMul, Int.reduceAdd, Int.reduceSub, Int.reduceNeg, Nat.reduceAdd, Nat.reduceMul, Nat.reducePow, Int.reduceLT, Int.reduceLE, Int.reduceEq, Nat.reduceEqDiff, e1, e4, Rl.idx, ld, cont_slice, contB_two, ap, ← cs]
  exact ⟨_, ⟨k + 1, Ac, by simp, by omega, rfl⟩, by omega⟩
 ·have ek : k = c.length := by omega
  subst ek
  rw [ce] at A
  simp -implicitDefEqProofs (disch := first | assumption | decide | omega | (simp only [wpD1] <;> omega) | (simp only [wpD2] <;> assumption) | solve_by_elim [zR, zP, zV] | fail) only [↓wpPre, wpPost, wpPoly, Int.reduceToNat, Int.reducePow, Int.reduceMul, Int.reduceAdd, Int.reduceSub, Int.reduceNeg, Nat.reduceAdd, Nat.reduceMul, Nat.reducePow, Int.reduceLT, Int.reduceLE, Int.reduceEq, Nat.reduceEqDiff]
  exact ⟨s1.trans A.sub, A.si⟩
set_option maxHeartbeats 1000000 in
theorem awake267_spec (hC : Has C T267) {h : Heap} : ACalls C 267 [] h (fun r h' => r = .bool true ∧ h' = h) := by
 refine ACalls.gc0 (P := fun r h' => r = .bool true ∧ HSub h h') ?_ (fun r h' hp => ⟨by rw [hp.1]; trivial, hp.2, hp.1, rfl⟩)
 have kc := fun h => code283_spec (hC.sub (T' := T283) (by decide)) (h := h)
 have k1 := fun (v : AV) h1 (q : SI h1 v cdL) => BSum_spec (hC.sub (T' := T275) (by decide)) (d := 5) (o := 1) (p := 1) (a := 0) q (by unfold In64; omega) (by unfold In64; omega) (by unfold In64; omega) (by unfold In64; omega)
 have k2 := fun (v : AV) h1 (q : SI h1 v cdL) => BSum_spec (hC.sub (T' := T275) (by decide)) (d := 5) (o := 1) (p := 1) (a := 1) q (by unfold In64; omega) (by unfold In64; omega) (by unfold In64; omega) (by unfold In64; omega)
 have k3 := fun (v : AV) h1 (q : SI h1 v [(1, 0), (0, 1)]) => Spin_spec (hC.sub (T' := T268) (by decide)) (st := 1073741824) q (by unfold U32; omega)
 simp only [k_bs0] at k1
 simp only [k_bs1] at k2
 simp only [k_spin] at k3
 unfold smp at k1 k2 k3
 dsimp only at k1 k2 k3
 (refine calls_intro (hC.body (by decide) tab267) (Nat.le_of_ble_eq_true rfl) ?_); (show wp C _ none B267.code _ _); (simp only [B267]); simp -implicitDefEqProofs (disch := first | assumption | decide | omega | (simp only [wpD1] <;> omega) | (simp only [wpD2] <;> assumption) | solve_by_elim [zR, zP, zV] | fail) only [↓wpPre, wpPost, wpPoly, Int.reduceToNat, Int.reducePow, Int.reduceMul, Int.reduceAdd, Int.reduceSub, Int.reduceNeg, Nat.reduceAdd, Nat.reduceMul, Nat.reducePow, Int.reduceLT, Int.reduceLE, Int.reduceEq, Nat.reduceEqDiff]
 refine ACallsK.of (kc _) ?_
 rintro r h1 ⟨s1, R1⟩
 simp -implicitDefEqProofs (disch := first | assumption | decide | omega | (simp only [wpD1] <;> omega) | (simp only [wpD2] <;> assumption) | solve_by_elim [zR, zP, zV] | fail) only [↓wpPre, wpPost, wpPoly, Int.reduceToNat, Int.reducePow, Int.reduceMul, Int.reduceAdd, Int.reduceSub, Int.reduceNeg, Nat.reduceAdd, Nat.reduceMul, Nat.reducePow, Int.reduceLT, Int.reduceLE, Int.reduceEq, Nat.reduceEqDiff]
 refine ACallsK.eq (k1 _ _ R1) ?_
 simp -implicitDefEqProofs (disch := first | assumption | decide | omega | (simp only [wpD1] <;> omega) | (simp only [wpD2] <;> assumption) | solve_by_elim [zR, zP, zV] | fail) only [↓wpPre, wpPost, wpPoly, Int.reduceToNat, Int.reducePow, Int.reduceMul, Int.reduceAdd, Int.reduceSub, Int.reduceNeg, Nat.reduceAdd, Nat.reduceMul, Nat.reducePow, Int.reduceLT, Int.reduceLE, Int.reduceEq, Nat.reduceEqDiff]
 refine ACallsK.of (kc _) ?_
 rintro r2 h2 ⟨s2, R2⟩
 have s0 := (s1.push (.cells [.int .i64 31, .int .i64 0] true 0)).trans s2
 have g1 : h2.get h1.size = some (.cells [.int .i64 31, .int .i64 0] true 0) := (s2.get _ (by simp)).trans (get_push_eq rfl)
 have z2 : h1.size < h2.size := by have := s2.size; simp only [Heap.size_push] at this; omega
 simp -implicitDefEqProofs (disch := first | assumption | decide | omega | (simp only [wpD1] <;> omega) | (simp only [wpD2] <;> assumption) | solve_by_elim [zR, zP, zV] | fail) only [↓wpPre, wpPost, wpPoly, Int.reduceToNat, Int.reducePow, Int.reduceMul, Int.reduceAdd, Int.reduceSub, Int.reduceNeg, Nat.reduceAdd, Nat.reduceMul, Nat.reducePow, Int.reduceLT, Int.reduceLE, Int.reduceEq, Nat.reduceEqDiff]
 refine ACallsK.eq (k2 _ _ R2) ?_
 simp -implicitDefEqProofs (disch := first | assumption | decide | omega | (simp only [wpD1] <;> omega) | (simp only [wpD2] <;> assumption) | solve_by_elim [zR, zP, zV] | fail) only [↓wpPre, wpPost, wpPoly, Int.reduceToNat, Int.reducePow, Int.reduceMul, Int.reduceAdd, Int.reduceSub, Int.reduceNeg, Nat.reduceAdd, Nat.reduceMul, Nat.reducePow, Int.reduceLT, Int.reduceLE, Int.reduceEq, Nat.reduceEqDiff]
 refine ACallsK.eq (k3 _ _ ?_) ?_
 ·refine SI.known (l := [(1, 0), (0, 1)]) (wr := true) (u := 0) (get_push_eq ?_) ⟨rfl, by decide⟩ (Nat.le_refl _)
  simp -implicitDefEqProofs (disch := first | assumption | decide | omega | (simp only [wpD1] <;> omega) | (simp only [wpD2] <;> assumption) | solve_by_elim [zR, zP, zV] | fail) only [↓wpPre, wpPost, wpPoly, Int.reduceToNat, Int.reducePow, Int.reduceMul, Int.reduceAdd, Int.reduceSub, Int.reduceNeg, Nat.reduceAdd, Nat.reduceMul, Nat.reducePow, Int.reduceLT, Int.reduceLE, Int.reduceEq, Nat.reduceEqDiff]
 simp -implicitDefEqProofs (disch := first | assumption | decide | omega | (simp only [wpD1] <;> omega) | (simp only [wpD2] <;> assumption) | solve_by_elim [zR, zP, zV] | fail) only [↓wpPre, wpPost, wpPoly, Int.reduceToNat, Int.reducePow, Int.reduceMul, Int.reduceAdd, Int.reduceSub, Int.reduceNeg, Nat.reduceAdd, Nat.reduceMul, Nat.reducePow, Int.reduceLT, Int.reduceLE, Int.reduceEq, Nat.reduceEqDiff, g1, eqs_two_f]
 exact (by repeat (first | exact s0 | refine HSub.put ?_ (by (try simp only [Heap.size_put, Heap.size_push, Heap.size_reserve]); omega) _ | refine HSub.push ?_ _ | refine HSub.reserve ?_ _))
end
end Go.Ae
/- The statement on the chapter's examples, of layer 14. -/
set_option linter.unusedSimpArgs false
set_option linter.unusedVariables false
namespace Go.Ae
theorem m1 : bankErr cdL 5 1 34 0 = 2 ∧ bankErr [(128, 0)] 5 1 1 0 = 2 := by decide +kernel
theorem m2 : bankErr cdL 5 1 1 (-1) = 0 ∧ bankL cdL (sampL 5 1 1) (-1) 1 3 = [(0, 0), (31, 0), (0, 0)] := by decide +kernel
theorem m3 : bankErr (cdL ++ cdL) 5 1 1 0 = 0 ∧ bankL (cdL ++ cdL) (sampL 5 1 1) 0 31 2 = [(31, 0), (31, 0)] := by decide +kernel
theorem m4 : bankErr cdL 5 1 1 0 = 0 ∧ sumP cdL (sampL 5 1 1) (0 - 1) = (0, 0) ∧ sumP cdL (sampL 5 1 1) 0 = (31, 0) ∧ sumP cdL (sampL 5 1 1) (0 + 1) = (0, 0) := by decide +kernel
theorem m5 : smE [] 16 = 0 ∧ stepsE [(1, 0), (0, 1)] 4 = 0 ∧ stepsL [(1, 0), (0, 1)] 4 4 = [32258, 64516, 32258, 0] ∧ stepsE [(1, 0)] 3 = 3 := by decide +kernel
theorem m6 : bestE [(1, 0), (0, -2), (2, 0)] = 0 ∧ bestK [((1 : Int), (0 : Int)), (0, -2), (2, 0)] [((1 : Int), (0 : Int)), (0, -2), (2, 0)].length = 1 ∧ powP (0, -2) = 4 ∧ bestE [] = 3 := by decide +kernel
theorem e_one : (1 : Int).toNat = 1 := rfl
theorem n1 : bsumE cdL 5 1 34 0 = .tuple [.agg [.int .i64 0, .int .i64 0], .int .i64 2] := by unfold bsumE; rw [m1.1, if_neg (by decide)]; rfl
theorem n2 : bsumE [(128, 0)] 5 1 1 0 = .tuple [.agg [.int .i64 0, .int .i64 0], .int .i64 2] := by unfold bsumE; rw [m1.2, if_neg (by decide)]; rfl
theorem n3 : bankE cdL 5 1 1 (-1) 3 = 0 := by unfold bankE; rw [m2.1]; rfl
theorem n4 : bankE cdL 5 1 1 0 8193 = 2 := by unfold bankE; rw [m4.1]; rfl
theorem n5 : winE (cdL ++ cdL) 5 1 1 0 2 = 0 := by unfold winE; rw [m3.1]; rfl
theorem n6 : threeE cdL 5 1 1 0 1 = .tuple [.agg [.int .i64 0, .int .i64 0, .int .i64 31, .int .i64 0, .int .i64 0, .int .i64 0], .int .i64 0] := by unfold threeE; rw [m4.1, if_neg (by decide), if_neg (by decide), e_one, m4.2.1, m4.2.2.1, m4.2.2.2]; rfl
theorem n7 : threeE cdL 5 1 1 0 65 = .tuple [.agg [.int .i64 0, .int .i64 0, .int .i64 0, .int .i64 0, .int .i64 0, .int .i64 0], .int .i64 2] := by unfold threeE; rw [m4.1, if_neg (by decide), if_pos (by decide)]; rfl
theorem n8 : spinE [] 5 = .tuple [.agg [.int .i64 0, .int .i64 0], .int .i64 0] := by unfold spinE; rw [if_pos m5.1]; rfl
theorem n9 : bestOut [(1, 0), (0, -2), (2, 0)] = .tuple [.int .i64 1, .int .i64 4, .int .i64 0] := by
 unfold bestOut
 rw [m6.1, if_pos rfl, if_pos rfl, m6.2.1]
 show AV.tuple [.int .i64 1, .int .i64 (powP (0, -2)), .int .i64 0] = _
 rw [m6.2.2.1]
theorem n10 : bestOut [] = .tuple [.int .i64 0, .int .i64 0, .int .i64 3] := by unfold bestOut; rw [m6.2.2.2]; rfl
theorem eqs_six2 {a b c d e f : Int} : eqsA false [(0, false), (1, false), (2, false), (3, false), (4, false), (5, false)] (.agg [.int .i64 a, .int .i64 b, .int .i64 c, .int .i64 d, .int .i64 e, .int .i64 f]) (.agg [.int .i64 a, .int .i64 b, .int .i64 c, .int .i64 d, .int .i64 e, .int .i64 f]) = some (.bool true) := by
 simp [eqsA, eqCells]
section
variable {C : Ctx}
set_option maxHeartbeats 8000000 in
set_option maxRecDepth 40000 in
theorem known265_spec (hC : Has C T265) {h : Heap} : ACalls C 265 [] h (fun r h' => r = .bool true ∧ h' = h) := by
 refine ACalls.gc0 (P := fun r h' => r = .bool true ∧ HSub h h') ?_ (fun r h' hp => ⟨by rw [hp.1]; trivial, hp.2, hp.1, rfl⟩)
 have I : ∀ n : Int, -10000 ≤ n ∧ n ≤ 10000 → In64 n := fun n hn => by unfold In64; omega
 have kc := fun h => code283_spec (hC.sub (T' := T283) (by decide)) (h := h)
 have aw := fun h => awake267_spec (hC.sub (T' := T267) (by decide)) (h := h)
 have S := fun (l : List (Int × Int)) (p a : Int) (hp : In64 p) (ha : In64 a) (v : AV) h1 (q : SI h1 v l) => BSum_spec (hC.sub (T' := T275) (by decide)) (d := 5) (o := 1) q (I _ (by omega)) (I _ (by omega)) hp ha
 have Bk := fun (v : AV) h1 (a m : Int) (ha : In64 a) (hm : In64 m) (hn : ¬ (64 < m ∧ m ≤ 8192)) (q : SI h1 v cdL) => Bank_spec (hC.sub (T' := T277) (by decide)) (d := 5) (o := 1) (p := 1) q (I _ (by omega)) (I _ (by omega)) (I _ (by omega)) ha hm hn
 have Wn := fun (v : AV) h1 (q : SI h1 v (cdL ++ cdL)) => Windows_spec (hC.sub (T' := T279) (by decide)) (d := 5) (o := 1) (p := 1) (a := 0) (many := 2) q (I _ (by omega)) (I _ (by omega)) (I _ (by omega)) (I _ (by omega)) (I _ (by omega))
 have Th := fun (v : AV) h1 (b : Int) (hb : In64 b) (q : SI h1 v cdL) => Three_spec (hC.sub (T' := T281) (by decide)) (d := 5) (o := 1) (p := 1) (a := 0) q (I _ (by omega)) (I _ (by omega)) (I _ (by omega)) (I _ (by omega)) hb
 have Sp := fun h1 => Spin_spec (hC.sub (T' := T268) (by decide)) (l := []) (st := 5) (h := h1) SI.nil (by unfold U32; omega)
 have St := fun (v : AV) h1 (l : List (Int × Int)) (b : Int) (hb : In64 b) (q : SI h1 v l) => Steps_spec (hC.sub (T' := T270) (by decide)) q hb
 have Be := fun (v : AV) h1 (l : List (Int × Int)) (q : SI h1 v l) => Best_spec (hC.sub (T' := T272) (by decide)) q
 have sl : cdL.length = 31 := by unfold cdL; rw [List.length_map]; exact k_code.2
 (refine calls_intro (hC.body (by decide) tab265) (Nat.le_of_ble_eq_true rfl) ?_); (show wp C _ none B265.code _ _); (simp only [B265]); simp -implicitDefEqProofs (disch := first | assumption | decide | omega | (simp only [wpD1] <;> omega) | (simp only [wpD2] <;> assumption) | solve_by_elim [zR, zP, zV] | fail) only [↓wpPre, wpPost, wpPoly, Int.reduceToNat, Int.reducePow, Int.reduceMul, Int.reduceAdd, Int.reduceSub, Int.reduceNeg, Nat.reduceAdd, Nat.reduceMul, Nat.reducePow, Int.reduceLT, Int.reduceLE, Int.reduceEq, Nat.reduceEqDiff]
 refine ACallsK.of (kc _) ?_
 rintro v h1 ⟨s1, R⟩
 simp -implicitDefEqProofs (disch := first | assumption | decide | omega | (simp only [wpD1] <;> omega) | (simp only [wpD2] <;> assumption) | solve_by_elim [zR, zP, zV] | fail) only [↓wpPre, wpPost, wpPoly, Int.reduceToNat, Int.reducePow, Int.reduceMul, Int.reduceAdd, Int.reduceSub, Int.reduceNeg, Nat.reduceAdd, Nat.reduceMul, Nat.reducePow, Int.reduceLT, Int.reduceLE, Int.reduceEq, Nat.reduceEqDiff]
 refine ACallsK.eq2 (S cdL 34 0 (I _ (by omega)) (I _ (by omega)) _ _ R) n1 ?_
 simp -implicitDefEqProofs (disch := first | assumption | decide | omega | (simp only [wpD1] <;> omega) | (simp only [wpD2] <;> assumption) | solve_by_elim [zR, zP, zV] | fail) only [↓wpPre, wpPost, wpPoly, Int.reduceToNat, Int.reducePow, Int.reduceMul, Int.reduceAdd, Int.reduceSub, Int.reduceNeg, Nat.reduceAdd, Nat.reduceMul, Nat.reducePow, Int.reduceLT, Int.reduceLE, Int.reduceEq, Nat.reduceEqDiff]
 refine ACallsK.eq2 (S [(128, 0)] 1 0 (I _ (by omega)) (I _ (by omega)) _ _ (SI.known (wr := true) (u := 0) (by simp -implicitDefEqProofs (disch := first | assumption | decide | omega | (simp only [wpD1] <;> omega) | (simp only [wpD2] <;> assumption) | solve_by_elim [zR, zP, zV] | fail) only [↓wpPre, wpPost, wpPoly, Int.reduceToNat, Int.reducePow, Int.reduceMul, Int.reduceAdd, Int.reduceSub, Int.reduceNeg, Nat.reduceAdd, Nat.reduceMul, Nat.reducePow, Int.reduceLT, Int.reduceLE, Int.reduceEq, Nat.reduceEqDiff]; rfl) ⟨rfl, by decide⟩ (Nat.le_refl _))) n2 ?_
 simp -implicitDefEqProofs (disch := first | assumption | decide | omega | (simp only [wpD1] <;> omega) | (simp only [wpD2] <;> assumption) | solve_by_elim [zR, zP, zV] | fail) only [↓wpPre, wpPost, wpPoly, Int.reduceToNat, Int.reducePow, Int.reduceMul, Int.reduceAdd, Int.reduceSub, Int.reduceNeg, Nat.reduceAdd, Nat.reduceMul, Nat.reducePow, Int.reduceLT, Int.reduceLE, Int.reduceEq, Nat.reduceEqDiff]
 have B1 := fun h1 q => Bk v h1 (-1) 3 (I _ (by omega)) (I _ (by omega)) (by omega) q
 rw [n3, if_pos rfl, e_one] at B1
 refine ACallsK.of (B1 _ (R.mono (by repeat (first | exact HSub.refl h1 | refine HSub.put ?_ (by (try simp only [Heap.size_put, Heap.size_push, Heap.size_reserve]); omega) _ | refine HSub.push ?_ _ | refine HSub.reserve ?_ _)))) ?_
 rintro r h2 ⟨w2, rfl, s2, Q2⟩
 have Q2 : SI h2 w2 [(0, 0), (31, 0), (0, 0)] := by have e : (3 : Int).toNat = 3 := rfl; rw [e, m2.2] at Q2; exact Q2
 have t2 : HSub h1 h2 := (by exact (by repeat (first | exact HSub.refl h1 | refine HSub.put ?_ (by (try simp only [Heap.size_put, Heap.size_push, Heap.size_reserve]); omega) _ | refine HSub.push ?_ _ | refine HSub.reserve ?_ _)) : HSub h1 _).trans s2
 have R2 := R.mono t2
 have ct := fun h3 (q : HSub h2 h3) => R2.contentC h3 q
 rw [sl] at ct
 simp -implicitDefEqProofs (disch := first | assumption | decide | omega | (simp only [wpD1] <;> omega) | (simp only [wpD2] <;> assumption) | solve_by_elim [zR, zP, zV] | fail) only [↓wpPre, wpPost, wpPoly, Int.reduceToNat, Int.reducePow, Int.reduceMul, Int.reduceAdd, Int.reduceSub, Int.reduceNeg, Nat.reduceAdd, Nat.reduceMul, Nat.reducePow, Int.reduceLT, Int.reduceLE, Int.reduceEq, Nat.reduceEqDiff, lstErr, ct]
 have ecut : cut (smps cdL) 0 62 ++ smps cdL = smps (cdL ++ cdL) := by
  have e1 : (smps cdL).length = 62 := by rw [smps_length, sl]
  unfold cut
  rw [List.drop_zero, List.take_of_length_le (by omega)]
  exact (List.flatMap_append).symm
 have W1 := fun v h1 q => Wn v h1 q
 have e31 : ((sampL 5 1 1).length : Int) = 31 := by rw [k_code.2]; rfl
 rw [n5, if_pos rfl, e_one, e31] at W1
 refine ACallsK.of (W1 _ _ (GrwS.mk (h0 := Heap.empty) (l := cdL ++ cdL) ⟨Nat.zero_le _, fun i hi => absurd hi (Nat.not_lt_zero i)⟩ (Nat.zero_le _) ⟨by rw [List.length_append, sl], by rw [List.length_append, sl]; decide⟩ (by rw [← ecut]; simp -implicitDefEqProofs (disch := first | assumption | decide | omega | (simp only [wpD1] <;> omega) | (simp only [wpD2] <;> assumption) | solve_by_elim [zR, zP, zV] | fail) only [↓wpPre, wpPost, wpPoly, Int.reduceToNat, Int.reducePow, Int.reduceMul, Int.reduceAdd, Int.reduceSub, Int.reduceNeg, Nat.reduceAdd, Nat.reduceMul, Nat.reducePow, Int.reduceLT, Int.reduceLE, Int.reduceEq, Nat.reduceEqDiff])).si) ?_
 rintro r h3 ⟨w3, rfl, s3, Q3⟩
 have Q3 : SI h3 w3 [(31, 0), (31, 0)] := by have e : (2 : Int).toNat = 2 := rfl; rw [e, m3.2] at Q3; exact Q3
 have t3 : HSub h2 h3 := (by exact (by repeat (first | exact HSub.refl h2 | refine HSub.put ?_ (by (try simp only [Heap.size_put, Heap.size_push, Heap.size_reserve]); omega) _ | refine HSub.push ?_ _ | refine HSub.reserve ?_ _)) : HSub h2 _).trans s3
 have R3 := R2.mono t3
 have Q2 := Q2.mono t3
 simp -implicitDefEqProofs (disch := first | assumption | decide | omega | (simp only [wpD1] <;> omega) | (simp only [wpD2] <;> assumption) | solve_by_elim [zR, zP, zV] | fail) only [↓wpPre, wpPost, wpPoly, Int.reduceToNat, Int.reducePow, Int.reduceMul, Int.reduceAdd, Int.reduceSub, Int.reduceNeg, Nat.reduceAdd, Nat.reduceMul, Nat.reducePow, Int.reduceLT, Int.reduceLE, Int.reduceEq, Nat.reduceEqDiff, lstErr]
 have B2 := fun h1 q => Bk v h1 0 8193 (I _ (by omega)) (I _ (by omega)) (by omega) q
 rw [n4] at B2
 refine ACallsK.of (B2 _ R3) ?_
 rintro r h4 ⟨w4, rfl, s4, Q4⟩
 have R4 := R3.mono s4
 have Q2 := Q2.mono s4
 have Q3 := Q3.mono s4
 have E1 := fun h5 w (q : HSub h4 h5) (qb : SI h5 w [(0, 0), (31, 0), (0, 0)]) => Samples_spec (hC.sub (T' := T123) (by decide)) (Q2.mono q) qb
 have E2 := fun h5 w (q : HSub h4 h5) (qb : SI h5 w [(31, 0), (31, 0)]) => Samples_spec (hC.sub (T' := T123) (by decide)) (Q3.mono q) qb
 simp only [decide_true] at E1 E2
 simp -implicitDefEqProofs (disch := first | assumption | decide | omega | (simp only [wpD1] <;> omega) | (simp only [wpD2] <;> assumption) | solve_by_elim [zR, zP, zV] | fail) only [↓wpPre, wpPost, wpPoly, Int.reduceToNat, Int.reducePow, Int.reduceMul, Int.reduceAdd, Int.reduceSub, Int.reduceNeg, Nat.reduceAdd, Nat.reduceMul, Nat.reducePow, Int.reduceLT, Int.reduceLE, Int.reduceEq, Nat.reduceEqDiff, lstErr]
 refine ACallsK.eq (E1 _ _ (by repeat (first | exact HSub.refl h4 | refine HSub.put ?_ (by (try simp only [Heap.size_put, Heap.size_push, Heap.size_reserve]); omega) _ | refine HSub.push ?_ _ | refine HSub.reserve ?_ _)) (SI.known (wr := true) (u := 0) (by simp -implicitDefEqProofs (disch := first | assumption | decide | omega | (simp only [wpD1] <;> omega) | (simp only [wpD2] <;> assumption) | solve_by_elim [zR, zP, zV] | fail) only [↓wpPre, wpPost, wpPoly, Int.reduceToNat, Int.reducePow, Int.reduceMul, Int.reduceAdd, Int.reduceSub, Int.reduceNeg, Nat.reduceAdd, Nat.reduceMul, Nat.reducePow, Int.reduceLT, Int.reduceLE, Int.reduceEq, Nat.reduceEqDiff]; rfl) ⟨rfl, by decide⟩ (Nat.le_refl _))) ?_
 simp -implicitDefEqProofs (disch := first | assumption | decide | omega | (simp only [wpD1] <;> omega) | (simp only [wpD2] <;> assumption) | solve_by_elim [zR, zP, zV] | fail) only [↓wpPre, wpPost, wpPoly, Int.reduceToNat, Int.reducePow, Int.reduceMul, Int.reduceAdd, Int.reduceSub, Int.reduceNeg, Nat.reduceAdd, Nat.reduceMul, Nat.reducePow, Int.reduceLT, Int.reduceLE, Int.reduceEq, Nat.reduceEqDiff]
 refine ACallsK.eq (E2 _ _ (by repeat (first | exact HSub.refl h4 | refine HSub.put ?_ (by (try simp only [Heap.size_put, Heap.size_push, Heap.size_reserve]); omega) _ | refine HSub.push ?_ _ | refine HSub.reserve ?_ _)) (SI.known (wr := true) (u := 0) (by simp -implicitDefEqProofs (disch := first | assumption | decide | omega | (simp only [wpD1] <;> omega) | (simp only [wpD2] <;> assumption) | solve_by_elim [zR, zP, zV] | fail) only [↓wpPre, wpPost, wpPoly, Int.reduceToNat, Int.reducePow, Int.reduceMul, Int.reduceAdd, Int.reduceSub, Int.reduceNeg, Nat.reduceAdd, Nat.reduceMul, Nat.reducePow, Int.reduceLT, Int.reduceLE, Int.reduceEq, Nat.reduceEqDiff]; rfl) ⟨rfl, by decide⟩ (Nat.le_refl _))) ?_
 simp -implicitDefEqProofs (disch := first | assumption | decide | omega | (simp only [wpD1] <;> omega) | (simp only [wpD2] <;> assumption) | solve_by_elim [zR, zP, zV] | fail) only [↓wpPre, wpPost, wpPoly, Int.reduceToNat, Int.reducePow, Int.reduceMul, Int.reduceAdd, Int.reduceSub, Int.reduceNeg, Nat.reduceAdd, Nat.reduceMul, Nat.reducePow, Int.reduceLT, Int.reduceLE, Int.reduceEq, Nat.reduceEqDiff]
 refine ACallsK.eq2 (Th _ _ 1 (I _ (by omega)) (R4.mono (by exact (by repeat (first | exact HSub.refl h4 | refine HSub.put ?_ (by (try simp only [Heap.size_put, Heap.size_push, Heap.size_reserve]); omega) _ | refine HSub.push ?_ _ | refine HSub.reserve ?_ _))))) n6 ?_
 simp -implicitDefEqProofs (disch := first | assumption | decide | omega | (simp only [wpD1] <;> omega) | (simp only [wpD2] <;> assumption) | solve_by_elim [zR, zP, zV] | fail) only [↓wpPre, wpPost, wpPoly, Int.reduceToNat, Int.reducePow, Int.reduceMul, Int.reduceAdd, Int.reduceSub, Int.reduceNeg, Nat.reduceAdd, Nat.reduceMul, Nat.reducePow, Int.reduceLT, Int.reduceLE, Int.reduceEq, Nat.reduceEqDiff]
 refine ACallsK.eq2 (Th _ _ 65 (I _ (by omega)) (R4.mono (by exact (by repeat (first | exact HSub.refl h4 | refine HSub.put ?_ (by (try simp only [Heap.size_put, Heap.size_push, Heap.size_reserve]); omega) _ | refine HSub.push ?_ _ | refine HSub.reserve ?_ _))))) n7 ?_
 simp -implicitDefEqProofs (disch := first | assumption | decide | omega | (simp only [wpD1] <;> omega) | (simp only [wpD2] <;> assumption) | solve_by_elim [zR, zP, zV] | fail) only [↓wpPre, wpPost, wpPoly, Int.reduceToNat, Int.reducePow, Int.reduceMul, Int.reduceAdd, Int.reduceSub, Int.reduceNeg, Nat.reduceAdd, Nat.reduceMul, Nat.reducePow, Int.reduceLT, Int.reduceLE, Int.reduceEq, Nat.reduceEqDiff]
 refine ACallsK.eq2 (Sp _) n8 ?_
 simp -implicitDefEqProofs (disch := first | assumption | decide | omega | (simp only [wpD1] <;> omega) | (simp only [wpD2] <;> assumption) | solve_by_elim [zR, zP, zV] | fail) only [↓wpPre, wpPost, wpPoly, Int.reduceToNat, Int.reducePow, Int.reduceMul, Int.reduceAdd, Int.reduceSub, Int.reduceNeg, Nat.reduceAdd, Nat.reduceMul, Nat.reducePow, Int.reduceLT, Int.reduceLE, Int.reduceEq, Nat.reduceEqDiff]
 have St1 := fun v h1 q => St v h1 [(1, 0), (0, 1)] 4 (I _ (by omega)) q
 have e4 : (4 : Int).toNat = 4 := rfl
 rw [m5.2.1, if_pos rfl, e4, m5.2.2.1] at St1
 have St2 := fun v h1 q => St v h1 [(1, 0)] 3 (I _ (by omega)) q
 rw [m5.2.2.2] at St2
 refine ACallsK.of (St1 _ _ (SI.known (wr := true) (u := 0) (by simp -implicitDefEqProofs (disch := first | assumption | decide | omega | (simp only [wpD1] <;> omega) | (simp only [wpD2] <;> assumption) | solve_by_elim [zR, zP, zV] | fail) only [↓wpPre, wpPost, wpPoly, Int.reduceToNat, Int.reducePow, Int.reduceMul, Int.reduceAdd, Int.reduceSub, Int.reduceNeg, Nat.reduceAdd, Nat.reduceMul, Nat.reducePow, Int.reduceLT, Int.reduceLE, Int.reduceEq, Nat.reduceEqDiff]; rfl) ⟨rfl, by decide⟩ (Nat.le_refl _))) ?_
 rintro r h5 ⟨w5, rfl, s5, Q5⟩
 have g13 : h5.get (h4.size + 1 + 1) = some (.cells [.int .i64 0, .int .i64 0, .int .i64 31, .int .i64 0, .int .i64 0, .int .i64 0] true 0) := (s5.get _ (by simp only [Heap.size_push]; omega)).trans (by simp -implicitDefEqProofs (disch := first | assumption | decide | omega | (simp only [wpD1] <;> omega) | (simp only [wpD2] <;> assumption) | solve_by_elim [zR, zP, zV] | fail) only [↓wpPre, wpPost, wpPoly, Int.reduceToNat, Int.reducePow, Int.reduceMul, Int.reduceAdd, Int.reduceSub, Int.reduceNeg, Nat.reduceAdd, Nat.reduceMul, Nat.reducePow, Int.reduceLT, Int.reduceLE, Int.reduceEq, Nat.reduceEqDiff])
 have g14 : h5.get (h4.size + 1 + 1 + 1) = some (.cells [.int .i64 0, .int .i64 0] true 0) := (s5.get _ (by simp only [Heap.size_push]; omega)).trans (by simp -implicitDefEqProofs (disch := first | assumption | decide | omega | (simp only [wpD1] <;> omega) | (simp only [wpD2] <;> assumption) | solve_by_elim [zR, zP, zV] | fail) only [↓wpPre, wpPost, wpPoly, Int.reduceToNat, Int.reducePow, Int.reduceMul, Int.reduceAdd, Int.reduceSub, Int.reduceNeg, Nat.reduceAdd, Nat.reduceMul, Nat.reducePow, Int.reduceLT, Int.reduceLE, Int.reduceEq, Nat.reduceEqDiff])
 have t5 : HSub h4 h5 := (by exact (by repeat (first | exact HSub.refl h4 | refine HSub.put ?_ (by (try simp only [Heap.size_put, Heap.size_push, Heap.size_reserve]); omega) _ | refine HSub.push ?_ _ | refine HSub.reserve ?_ _)) : HSub h4 _).trans s5
 have N5 := t5.size
 simp -implicitDefEqProofs (disch := first | assumption | decide | omega | (simp only [wpD1] <;> omega) | (simp only [wpD2] <;> assumption) | solve_by_elim [zR, zP, zV] | fail) only [↓wpPre, wpPost, wpPoly, Int.reduceToNat, Int.reducePow, Int.reduceMul, Int.reduceAdd, Int.reduceSub, Int.reduceNeg, Nat.reduceAdd, Nat.reduceMul, Nat.reducePow, Int.reduceLT, Int.reduceLE, Int.reduceEq, Nat.reduceEqDiff, lstErr]
 refine ACallsK.of (St2 _ _ (SI.known (wr := true) (u := 0) (by simp -implicitDefEqProofs (disch := first | assumption | decide | omega | (simp only [wpD1] <;> omega) | (simp only [wpD2] <;> assumption) | solve_by_elim [zR, zP, zV] | fail) only [↓wpPre, wpPost, wpPoly, Int.reduceToNat, Int.reducePow, Int.reduceMul, Int.reduceAdd, Int.reduceSub, Int.reduceNeg, Nat.reduceAdd, Nat.reduceMul, Nat.reducePow, Int.reduceLT, Int.reduceLE, Int.reduceEq, Nat.reduceEqDiff]; rfl) ⟨rfl, by decide⟩ (Nat.le_refl _))) ?_
 rintro r h6 ⟨w6, rfl, s6, Q6⟩
 have t6 : HSub h5 h6 := (by exact (by repeat (first | exact HSub.refl h5 | refine HSub.put ?_ (by (try simp only [Heap.size_put, Heap.size_push, Heap.size_reserve]); omega) _ | refine HSub.push ?_ _ | refine HSub.reserve ?_ _)) : HSub h5 _).trans s6
 have g13 := (t6.get _ (Heap.lt_of_get g13)).trans g13
 have g14 := (t6.get _ (Heap.lt_of_get g14)).trans g14
 have Q5 := Q5.mono t6
 have z13 := Heap.lt_of_get g13
 have z14 := Heap.lt_of_get g14
 have N6 := t6.size
 have Eq := fun h7 w (q : HSub h6 h7) (qb : RI h7 w [32258, 64516, 32258, 0]) => Equal_spec (hC.sub (T' := T12) (by decide)) (Q5.mono q) qb
 simp only [decide_true] at Eq
 simp -implicitDefEqProofs (disch := first | assumption | decide | omega | (simp only [wpD1] <;> omega) | (simp only [wpD2] <;> assumption) | solve_by_elim [zR, zP, zV] | fail) only [↓wpPre, wpPost, wpPoly, Int.reduceToNat, Int.reducePow, Int.reduceMul, Int.reduceAdd, Int.reduceSub, Int.reduceNeg, Nat.reduceAdd, Nat.reduceMul, Nat.reducePow, Int.reduceLT, Int.reduceLE, Int.reduceEq, Nat.reduceEqDiff, lstErr]
 refine ACallsK.eq2 (Be _ _ [(1, 0), (0, -2), (2, 0)] (SI.known (wr := true) (u := 0) (by simp -implicitDefEqProofs (disch := first | assumption | decide | omega | (simp only [wpD1] <;> omega) | (simp only [wpD2] <;> assumption) | solve_by_elim [zR, zP, zV] | fail) only [↓wpPre, wpPost, wpPoly, Int.reduceToNat, Int.reducePow, Int.reduceMul, Int.reduceAdd, Int.reduceSub, Int.reduceNeg, Nat.reduceAdd, Nat.reduceMul, Nat.reducePow, Int.reduceLT, Int.reduceLE, Int.reduceEq, Nat.reduceEqDiff]; rfl) ⟨rfl, by decide⟩ (Nat.le_refl _))) n9 ?_
 simp -implicitDefEqProofs (disch := first | assumption | decide | omega | (simp only [wpD1] <;> omega) | (simp only [wpD2] <;> assumption) | solve_by_elim [zR, zP, zV] | fail) only [↓wpPre, wpPost, wpPoly, Int.reduceToNat, Int.reducePow, Int.reduceMul, Int.reduceAdd, Int.reduceSub, Int.reduceNeg, Nat.reduceAdd, Nat.reduceMul, Nat.reducePow, Int.reduceLT, Int.reduceLE, Int.reduceEq, Nat.reduceEqDiff]
 refine ACallsK.eq2 (Be _ _ [] SI.nil) n10 ?_
 simp -implicitDefEqProofs (disch := first | assumption | decide | omega | (simp only [wpD1] <;> omega) | (simp only [wpD2] <;> assumption) | solve_by_elim [zR, zP, zV] | fail) only [↓wpPre, wpPost, wpPoly, Int.reduceToNat, Int.reducePow, Int.reduceMul, Int.reduceAdd, Int.reduceSub, Int.reduceNeg, Nat.reduceAdd, Nat.reduceMul, Nat.reducePow, Int.reduceLT, Int.reduceLE, Int.reduceEq, Nat.reduceEqDiff]
 refine ACallsK.eq (aw _) ?_
 simp -implicitDefEqProofs (disch := first | assumption | decide | omega | (simp only [wpD1] <;> omega) | (simp only [wpD2] <;> assumption) | solve_by_elim [zR, zP, zV] | fail) only [↓wpPre, wpPost, wpPoly, Int.reduceToNat, Int.reducePow, Int.reduceMul, Int.reduceAdd, Int.reduceSub, Int.reduceNeg, Nat.reduceAdd, Nat.reduceMul, Nat.reducePow, Int.reduceLT, Int.reduceLE, Int.reduceEq, Nat.reduceEqDiff, g13, g14, eqs_six2, eqs_two_f]
 refine ACallsK.eq (Eq _ _ (by repeat (first | exact HSub.refl h6 | refine HSub.put ?_ (by (try simp only [Heap.size_put, Heap.size_push, Heap.size_reserve]); omega) _ | refine HSub.push ?_ _ | refine HSub.reserve ?_ _)) (RI.known (wr := true) (u := 0) ?_ ⟨rfl, by decide⟩ (Nat.le_refl _))) ?_
 ·first | rfl | exact get_push_eq rfl | (simp -implicitDefEqProofs (disch := first | assumption | decide | omega | (simp only [wpD1] <;> omega) | (simp only [wpD2] <;> assumption) | solve_by_elim [zR, zP, zV] | fail) only [↓wpPre, wpPost, wpPoly, Int.reduceToNat, Int.reducePow, Int.reduceMul, Int.reduceAdd, Int.reduceSub, Int.reduceNeg, Nat.reduceAdd, Nat.reduceMul, Nat.reducePow, Int.reduceLT, Int.reduceLE, Int.reduceEq, Nat.reduceEqDiff]; rfl)
 simp -implicitDefEqProofs (disch := first | assumption | decide | omega | (simp only [wpD1] <;> omega) | (simp only [wpD2] <;> assumption) | solve_by_elim [zR, zP, zV] | fail) only [↓wpPre, wpPost, wpPoly, Int.reduceToNat, Int.reducePow, Int.reduceMul, Int.reduceAdd, Int.reduceSub, Int.reduceNeg, Nat.reduceAdd, Nat.reduceMul, Nat.reducePow, Int.reduceLT, Int.reduceLE, Int.reduceEq, Nat.reduceEqDiff]
 exact (((((s1.trans t2).trans t3).trans s4).trans t5).trans t6).trans (by exact (by repeat (first | exact HSub.refl h6 | refine HSub.put ?_ (by (try simp only [Heap.size_put, Heap.size_push, Heap.size_reserve]); omega) _ | refine HSub.push ?_ _ | refine HSub.reserve ?_ _)))
end
end Go.Ae
/- A number, turned into a range. -/
set_option linter.unusedSimpArgs false
set_option linter.unusedVariables false
namespace Go.Ae
theorem turnN {x : Int} {n : Nat} (hn : 0 < n) : ∃ k : Nat, x % (n : Int) = k ∧ k < n := by
 have h1 := Int.emod_nonneg x (show (n : Int) ≠ 0 by omega)
 have h2 := Int.emod_lt_of_pos x (show (0 : Int) < n by omega)
 exact ⟨(x % n).toNat, by omega, by omega⟩
end Go.Ae
/- Sums of lists, of shifted lists, in plain numbers; the levels that numbers select. -/
set_option linter.unusedSimpArgs false
set_option linter.unusedVariables false
namespace Go.Ae
theorem bankErr_zero {s : List (Int × Int)} {d o p a : Int} (h1 : s.length ≤ 1048576) (h2 : ∀ x ∈ s, inS 127 x) (h3 : sampErr d o [p] = 0) (h4 : -2000000 ≤ a ∧ a ≤ 2000000) : bankErr s d o p a = 0 := by
 unfold bankErr
 rw [if_neg (by omega), if_neg (not_not_intro h2), if_neg (not_not_intro h3), if_neg (by omega)]
section
variable {C : Ctx}
end
end Go.Ae
/- Scenes of one emitter that does not drift, in plain numbers. -/
set_option linter.unusedSimpArgs false
set_option linter.unusedVariables false
namespace Go.Ae
def planB (l : List Int) : PlanP := ⟨5, (planOf l).o, (planOf l).pb, (planOf l).w, 1, 1, (planOf l).nz, (planOf l).prns⟩
def noRt (e : EmitP) : EmitP := ⟨e.prn, e.dl, 0, e.st, e.ph, e.amp, e.ba, e.bits⟩
def emitB (l : List Int) : EmitP := noRt (emitOf (planB l) l)
theorem planB_nums (l : List Int) : (planB l).numsOk := by
 have h := planOf_nums l
 unfold PlanP.numsOk planB at *
 dsimp only
 exact ⟨by decide, h.2.1, h.2.2.1, h.2.2.2.1, by omega, by omega, h.2.2.2.2.2.2⟩
theorem planB_err (l : List Int) : (planB l).err = 0 := by
 have h6 := someOf_range (l := l) (i := 6) (n := 20) (by omega)
 have h7 := someOf_range (l := l) (i := 7) (n := 3) (by omega)
 have hn := planB_nums l
 have hl : (planB l).prns.length = (someOf l 7 3 + 1).toNat := prnK_length _ _
 unfold PlanP.err
 rw [if_pos hn, if_neg (by omega), if_neg (by omega)]
 have := prnK_err (lenN (planB l).d) (1 + someOf l 6 20) (by omega) (someOf l 7 3 + 1).toNat 0 (by
  have : lenN (planB l).d = 31 := by show lenN 5 = 31; decide
  omega)
 have e : (planB l).prns = (List.range (someOf l 7 3 + 1).toNat).map fun i => (1 + someOf l 6 20) + 4 * ((0 + i : Nat) : Int) := by
  show prnK _ _ = _
  unfold prnK
  refine List.map_congr_left fun i _ => ?_
  rw [Nat.zero_add]
 rw [e]
 exact this
theorem planB_64 (l : List Int) : (planB l).ok64 := by
 have h := planOf_64 l
 unfold PlanP.ok64 planB at *
 dsimp only
 exact ⟨by unfold In64; omega, h.2.1, h.2.2.1, h.2.2.2.1, by unfold In64; omega, by unfold In64; omega, h.2.2.2.2.2.2.1, h.2.2.2.2.2.2.2⟩
theorem planB_len (l : List Int) : 0 < (planB l).prns.length := by
 have h7 := someOf_range (l := l) (i := 7) (n := 3) (by omega)
 show 0 < (prnK _ _).length
 rw [prnK_length]; omega
theorem emitErr_rt {p : PlanP} {e : EmitP} (h : emitErr p e = 0) : emitErr p (noRt e) = 0 := by
 unfold emitErr at h ⊢
 dsimp only [noRt]
 split at h
 ·rename_i h1
  refine (if_pos h1).trans ?_
  split at h
  ·rename_i h2
   refine (if_pos h2).trans ?_
   split at h
   ·rename_i h3
    exact (if_pos (by unfold EmitP.numsOk at *; dsimp only; omega)).trans h
   ·omega
  ·omega
 ·rename_i q; exact absurd h q
theorem emitB_err (l : List Int) : emitErr (planB l) (emitB l) = 0 := emitErr_rt (emitOf_err (planB_err l))
theorem emitB_64 (l : List Int) : (emitB l).ok64 := by
 have h := emitOf_64 (l := l) (planB_nums l) (planB_64 l) (planB_len l)
 unfold emitB noRt
 unfold EmitP.ok64 at *
 dsimp only
 exact ⟨h.1, h.2.1, by unfold In64; omega, h.2.2.2⟩
theorem emitB_amp (l : List Int) : (emitB l).amp = 1 := by
 have h5 := someOf_range (l := l) (i := 5) (n := 1) (by omega)
 show 1 + someOf l 5 (1 - 1 + 1) = 1
 have e : (1 : Int) - 1 + 1 = 1 := rfl
 rw [e]; omega
theorem planB_size (l : List Int) : (planB l).size = 31 * (planB l).o := by
 unfold PlanP.size
 rw [show lenN (planB l).d = 31 by show lenN 5 = 31; decide]; rfl
theorem SI.off {h h' : Heap} {v : AV} {l : List (Int × Int)} (H : SI h v l) (hh : ∀ i ∈ v.ids, h'.get i = h.get i) : SI h' v l := by
 obtain ⟨a, b, ⟨rfl, h1⟩ | ⟨i, o, c, ws, wr', u', rfl, hg', hle, hc, x⟩⟩ := H
 ·exact ⟨a, b, .inl ⟨rfl, h1⟩⟩
 ·exact ⟨a, b, .inr ⟨i, o, c, ws, wr', u', rfl, (hh i (by simp [AV.ids])).trans hg', hle, hc, x⟩⟩
theorem atV_amp {p : PlanP} {e : EmitP} (ok : EmOk p e) (ha : e.amp = 1) (n : Int) : inS 127 (atV p e n) := by
 have cp := chip_pm ok (ok.per n).1
 have bb := ok.bit (e.pl p n)
 have cl := carP_le (phI_u32 e.ph e.st (e.pl p n))
 unfold atV inS
 rw [ha]
 dsimp only
 generalize chipI p e (n - e.sta p (e.pl p n)) = x at *
 generalize bitI p e (e.pl p n) = y at *
 generalize carP (phI e.ph e.st (e.pl p n)) = cc at *
 obtain ⟨c1, c2⟩ := cc
 dsimp only at *
 rcases cp with rfl | rfl <;> rcases bb with rfl | rfl <;> omega
theorem emS_in {p : PlanP} {e : EmitP} (ok : EmOk p e) (ha : e.amp = 1) (m : Nat) : ∀ x ∈ emS p e m, inS 127 x := by
 intro x hx
 unfold emS at hx
 obtain ⟨i, _, rfl⟩ := List.mem_map.1 hx
 exact atV_amp ok ha _
theorem samp_ok {p : PlanP} {e : EmitP} (ok : EmOk p e) : sampErr p.d p.o [e.prn] = 0 := by
 unfold sampErr
 rw [if_pos]
 refine ⟨?_, fun x hx => ?_⟩
 ·unfold knownErr
  rw [if_pos ⟨ok.pn.1, ok.pn.2.1.1, ok.pn.2.1.2⟩]
 ·rw [List.mem_singleton] at hx; rw [hx]; exact ok.code
theorem sum_own {s : List (Int × Int)} {c : List Int} {a g x y : Int} : ∀ k : Nat, (∀ i : Nat, i < k → atP s (a + (i : Nat)) = (g * c.getD i 0 * x, g * c.getD i 0 * y)) → (∀ i : Nat, i < k → c.getD i 0 = 1 ∨ c.getD i 0 = -1) → sumK s c a k = (g * k * x, g * k * y)
 | 0, _, _ => by simp [sumK]
 | k + 1, h, hc => by
  rw [sumK, sum_own k (fun i hi => h i (by omega)) (fun i hi => hc i (by omega)), h k (by omega)]
  have q := hc k (by omega)
  unfold addP mulP
  dsimp only
  rcases q with e | e <;> rw [e] <;> refine Prod.ext ?_ ?_ <;> simp only <;> push_cast <;> grind
theorem emS_at {p : PlanP} {e : EmitP} {m : Nat} {x : Int} (h0 : 0 ≤ x) (h1 : x < m) : atP (emS p e m) x = atV p e x := by
 obtain ⟨k, rfl⟩ := Int.eq_ofNat_of_zero_le h0
 rw [atP_in (by omega) (by rw [emS_length]; omega), Int.toNat_natCast]
 unfold emS
 simp [show k < m by omega]
theorem sampL_pm {d p : Int} {o i : Nat} (ho : 1 ≤ o) (h : i < lenN d * o) : (sampL d p o).getD i 0 = 1 ∨ (sampL d p o).getD i 0 = -1 := by
 rw [sampL_get' ho h]
 exact codeL_pm (by rw [Nat.div_lt_iff_lt_mul (by omega)]; exact h)
theorem sta_no {p : PlanP} {e : EmitP} (hr : e.rt = 0) (k : Int) : e.sta p k = e.dl + k * p.size := by
 unfold EmitP.sta stI
 rw [hr, Int.mul_zero]; simp
theorem own_sum {p : PlanP} {e : EmitP} (ok : EmOk p e) (hr : e.rt = 0) {m : Nat} {K : Int} (h0 : 0 ≤ e.sta p K) (h1 : e.sta p (K + 1) ≤ m) :
  sumP (emS p e m) (sampL p.d e.prn p.o.toNat) (e.sta p K) = (e.amp * (1 - 2 * bitI p e K) * p.size * (carP (phI e.ph e.st K)).1, e.amp * (1 - 2 * bitI p e K) * p.size * (carP (phI e.ph e.st K)).2) := by
 have o' := ok.pn.2.1
 have hl : ((sampL p.d e.prn p.o.toNat).length : Int) = p.size := by
  rw [sampL_length]; unfold PlanP.size
  rw [Int.natCast_mul, Int.toNat_of_nonneg (by omega)]
 have st1 : e.sta p (K + 1) = e.sta p K + p.size := by
  rw [sta_no hr, sta_no hr, Int.add_mul, Int.one_mul, Int.add_assoc]
 unfold sumP
 have q := sum_own (s := emS p e m) (c := sampL p.d e.prn p.o.toNat) (a := e.sta p K) (g := e.amp * (1 - 2 * bitI p e K)) (x := (carP (phI e.ph e.st K)).1) (y := (carP (phI e.ph e.st K)).2) (sampL p.d e.prn p.o.toNat).length
  (fun i hi => by
   rw [emS_at (by omega) (by omega), at_in ok (K := K) (by omega) (by omega), show min (e.sta p K + (i : Nat) - e.sta p K) (p.size - 1) = (i : Nat) by omega, Int.toNat_natCast])
  (fun i hi => sampL_pm (by omega) (by rw [sampL_length] at hi; exact hi))
 rw [hl] at q
 exact q
end Go.Ae
/- Windows of an emitter, spun, in plain numbers. -/
set_option linter.unusedSimpArgs false
set_option linter.unusedVariables false
namespace Go.Ae
theorem sq_nonneg (x : Int) : 0 ≤ x * x := by
 rcases Int.le_total 0 x with c | c
 ·exact Int.mul_nonneg c c
 ·exact Int.mul_nonneg_of_nonpos_of_nonpos c c
theorem le_of_sq {x y : Int} (hy : 0 ≤ y) (h : x * x ≤ y * y) : x ≤ y := by
 rcases Int.lt_or_le y x with c | c
 ·have h1 : y * y ≤ y * x := Int.mul_le_mul_of_nonneg_left (by omega) hy
  have h2 : y * x < x * x := Int.mul_lt_mul_of_pos_right c (by omega)
  omega
 ·exact c
theorem norm_add {a1 a2 b1 b2 A B : Int} (hA : 0 ≤ A) (hB : 0 ≤ B) (ha : a1 * a1 + a2 * a2 ≤ A * A) (hb : b1 * b1 + b2 * b2 ≤ B * B) : (a1 + b1) * (a1 + b1) + (a2 + b2) * (a2 + b2) ≤ (A + B) * (A + B) := by
 have d : a1 * b1 + a2 * b2 ≤ A * B := le_of_sq (Int.mul_nonneg hA hB) (by
  have l : (a1 * b1 + a2 * b2) * (a1 * b1 + a2 * b2) + (a1 * b2 - a2 * b1) * (a1 * b2 - a2 * b1) = (a1 * a1 + a2 * a2) * (b1 * b1 + b2 * b2) := by grind
  have p := sq_nonneg (a1 * b2 - a2 * b1)
  have q : (a1 * a1 + a2 * a2) * (b1 * b1 + b2 * b2) ≤ (A * A) * (B * B) := Int.mul_le_mul ha hb (by have := sq_nonneg b1; have := sq_nonneg b2; omega) (sq_nonneg A)
  have e : (A * A) * (B * B) = (A * B) * (A * B) := by grind
  omega)
 have e1 : (a1 + b1) * (a1 + b1) + (a2 + b2) * (a2 + b2) = (a1 * a1 + a2 * a2) + (b1 * b1 + b2 * b2) + 2 * (a1 * b1 + a2 * b2) := by grind
 have e2 : (A + B) * (A + B) = A * A + B * B + 2 * (A * B) := by grind
 omega
theorem carr_norm : (List.range 64).all (fun k => decide ((carr k).1 * (carr k).1 + (carr k).2 * (carr k).2 ≤ 16384)) = true := by decide +kernel
theorem carP_norm {a : Int} (ha : U32 a) : (carP a).1 * (carP a).1 + (carP a).2 * (carP a).2 ≤ 16384 := by
 unfold U32 at ha
 unfold carP
 have h := List.all_eq_true.1 carr_norm (a / 67108864).toNat (List.mem_range.2 (by omega))
 exact of_decide_eq_true h
def wantK (sz st : Int) : Nat → Int
 | 0 => 0
 | k + 1 => wantK sz st k + sz * ((carP (phI 0 st k)).1 * (carP (phI 0 st k)).1 + (carP (phI 0 st k)).2 * (carP (phI 0 st k)).2)
theorem wantK_in {sz st : Int} (hs : 0 ≤ sz ∧ sz ≤ 248) : ∀ k : Nat, 0 ≤ wantK sz st k ∧ wantK sz st k ≤ k * 4063232
 | 0 => ⟨Int.le_refl _, by simp [wantK]⟩
 | k + 1 => by
  have ih := wantK_in (st := st) hs k
  have n := carP_norm (phI_u32 0 st k)
  have p1 := sq_nonneg (carP (phI 0 st k)).1
  have p2 := sq_nonneg (carP (phI 0 st k)).2
  have p3 := Int.add_nonneg p1 p2
  clear p1 p2
  rw [wantK]
  generalize (carP (phI 0 st k)).1 * (carP (phI 0 st k)).1 + (carP (phI 0 st k)).2 * (carP (phI 0 st k)).2 = q at *
  have h1 := Int.mul_nonneg hs.1 p3
  have h2 : sz * q ≤ 248 * 16384 := Int.mul_le_mul hs.2 n p3 (by omega)
  omega
theorem spin_self {W : List (Int × Int)} {sz st : Int} : ∀ n : Nat, (∀ i : Nat, i < n → W.getD i (0, 0) = (sz * (carP (phI 0 st i)).1, sz * (carP (phI 0 st i)).2)) → spinK W st n = (wantK sz st n, 0)
 | 0, _ => rfl
 | n + 1, h => by
  rw [spinK, wantK, spin_self n (fun i hi => h i (by omega)), h n (by omega)]
  generalize carP (phI 0 st n) = c
  obtain ⟨x, y⟩ := c
  unfold addP mixP
  refine Prod.ext ?_ ?_ <;> simp only <;> grind
theorem spin_norm {W : List (Int × Int)} {sz st st' : Int} (hs : 0 ≤ sz) : ∀ n : Nat, (∀ i : Nat, i < n → W.getD i (0, 0) = (sz * (carP (phI 0 st i)).1, sz * (carP (phI 0 st i)).2)) →
  (spinK W st' n).1 * (spinK W st' n).1 + (spinK W st' n).2 * (spinK W st' n).2 ≤ (n * (16384 * sz)) * (n * (16384 * sz))
 | 0, _ => by simp [spinK]
 | n + 1, h => by
  have ih := spin_norm (st' := st') hs n (fun i hi => h i (by omega))
  rw [spinK, h n (by omega)]
  have n1 := carP_norm (phI_u32 0 st n)
  have n2 := carP_norm (phI_u32 0 st' n)
  generalize carP (phI 0 st n) = c at *
  generalize carP (phI 0 st' n) = t at *
  generalize spinK W st' n = S at *
  obtain ⟨x, y⟩ := c
  obtain ⟨u, v⟩ := t
  obtain ⟨a, b⟩ := S
  dsimp only at *
  unfold addP mixP
  dsimp only
  have key : (sz * x * u + sz * y * v) * (sz * x * u + sz * y * v) + (sz * y * u - sz * x * v) * (sz * y * u - sz * x * v) ≤ (16384 * sz) * (16384 * sz) := by
   have e : (sz * x * u + sz * y * v) * (sz * x * u + sz * y * v) + (sz * y * u - sz * x * v) * (sz * y * u - sz * x * v) = (sz * sz) * ((x * x + y * y) * (u * u + v * v)) := by grind
   have q : (x * x + y * y) * (u * u + v * v) ≤ 16384 * 16384 := Int.mul_le_mul n1 n2 (by have := sq_nonneg u; have := sq_nonneg v; omega) (by omega)
   have r : (sz * sz) * ((x * x + y * y) * (u * u + v * v)) ≤ (sz * sz) * (16384 * 16384) := Int.mul_le_mul_of_nonneg_left q (sq_nonneg sz)
   have e2 : (16384 * sz) * (16384 * sz) = (sz * sz) * (16384 * 16384) := by grind
   omega
  have r := norm_add (A := n * (16384 * sz)) (B := 16384 * sz) (Int.mul_nonneg (by omega) (by omega)) (by omega) ih key
  have e : ((n + 1 : Nat) : Int) * (16384 * sz) = n * (16384 * sz) + 16384 * sz := by rw [Int.natCast_add, Int.add_mul]; simp
  rw [e]
  exact r
def noPh (e : EmitP) : EmitP := ⟨e.prn, e.dl, e.rt, e.st, 0, e.amp, e.ba, e.bits⟩
theorem emitErr_ph (p : PlanP) (e : EmitP) : emitErr p (noPh e) = emitErr p e := rfl
theorem noPh_64 {e : EmitP} (h : e.ok64) : (noPh e).ok64 := by
 unfold noPh
 unfold EmitP.ok64 at *
 dsimp only
 exact ⟨h.1, h.2.1, h.2.2.1, h.2.2.2.1, by unfold U32; omega, h.2.2.2.2.2⟩
theorem emitB_nobits {l : List Int} (h : l.length ≤ 7) : (emitB l).bits = [] := by
 show bitK l (min l.length 20 - 7) = []
 rw [show min l.length 20 - 7 = 0 by omega]; rfl
theorem bit_none {p : PlanP} {e : EmitP} (h : e.bits = []) (k : Int) : bitI p e k = 0 := by
 unfold bitI
 rw [h]; rfl
theorem own_wins {p : PlanP} {e : EmitP} (ok : EmOk p e) (hr : e.rt = 0) (ha : e.amp = 1) (hb : e.bits = []) (hp : e.ph = 0) {m n : Nat} (h1 : e.dl + n * p.size ≤ m) (i : Nat) (hi : i < n) :
  (bankL (emS p e m) (sampL p.d e.prn p.o.toNat) e.dl (sampL p.d e.prn p.o.toNat).length n).getD i (0, 0) = (p.size * (carP (phI 0 e.st i)).1, p.size * (carP (phI 0 e.st i)).2) := by
 have o' := ok.pn.2.1
 have hl : ((sampL p.d e.prn p.o.toNat).length : Int) = p.size := by
  rw [sampL_length]; unfold PlanP.size
  rw [Int.natCast_mul, Int.toNat_of_nonneg (by omega)]
 have sz := size_range ok.pn
 have e1 : (bankL (emS p e m) (sampL p.d e.prn p.o.toNat) e.dl (sampL p.d e.prn p.o.toNat).length n).getD i (0, 0) = sumP (emS p e m) (sampL p.d e.prn p.o.toNat) (e.dl + (i : Nat) * p.size) := by
  unfold bankL
  rw [hl]
  simp [hi]
 have dl := ok.en.1
 have k1 : ((i : Int) + 1) * p.size ≤ n * p.size := Int.mul_le_mul_of_nonneg_right (by omega) (by omega)
 have k0 := Int.mul_nonneg (show 0 ≤ (i : Int) by omega) (show 0 ≤ p.size by omega)
 have own := own_sum ok hr (m := m) (K := (i : Nat)) (by rw [sta_no hr]; omega) (by rw [sta_no hr]; omega)
 rw [sta_no hr, ha, hp, bit_none hb] at own
 rw [e1, own]
 simp
end Go.Ae
/- Emitters that numbers select: the contract. -/
set_option linter.unusedSimpArgs false
set_option linter.unusedVariables false
namespace Go.Ae
section
variable {C : Ctx}
set_option maxHeartbeats 4000000 in
set_option maxRecDepth 20000 in
theorem EmitterOf_new (hC : Has C T236) {v w : AV} {p : PlanP} {l : List Int} {h : Heap} (hp : PlI h w p) (pn : p.numsOk) (hp0 : 0 < p.prns.length) (h64 : p.ok64) (hl : RI h v l) (hx : ∀ x ∈ l, In64 x) :
  ACalls C 236 [w, .int .i64 0, v] h (fun r h' => HSub h h' ∧ ∃ vb, r = .agg [.int .i64 (emitOf p l).prn, .int .i64 (emitOf p l).dl, .int .i64 (emitOf p l).rt, .int .u32 (emitOf p l).st, .int .u32 (emitOf p l).ph, .int .i64 (emitOf p l).amp, .int .i64 (emitOf p l).ba, vb] ∧ RI h' vb (emitOf p l).bits ∧ ∀ i ∈ vb.ids, h.size ≤ i) := by
 have hlt := hl.lt
 obtain ⟨vp, rfl, R⟩ := hp
 have v1 := R.one
 have plt := R.lt
 have sz := size_range pn
 have hN := lenN_eq pn.1
 have hlc := lenOk_cases pn.1
 have pm := pn.2.2.2.2
 have pbb := pn.2.2.1
 have po := pn.2.1
 have eN1 : ((lenN p.d + 1 : Nat) : Int) - 1 = lenN p.d := by omega
 have es : (lenN p.d : Int) * p.o = p.size := rfl
 have S := fun (i : Nat) (n : Int) (hn : 1 ≤ n ∧ n ≤ 9223372036854775807) h1 (q : HSub h h1) => Some_spec (hC.sub (T' := T45) (by decide)) (i := i) (hl.mono q) hx hn
 have T0 := fun h1 => Turn_spec (h := h1) (x := 0) (n := (p.prns.length : Int)) (hC.sub (T' := T23) (by decide)) (by unfold In64; omega) (by omega)
 rw [Int.zero_emod] at T0
 have h0 := someOf_range (l := l) (i := 0) (n := p.size) (by omega)
 have h1 := someOf_range (l := l) (i := 1) (n := 129) (by omega)
 have h2 := someOf_range (l := l) (i := 2) (n := 64) (by omega)
 have h3 := someOf_range (l := l) (i := 3) (n := 67108864) (by omega)
 have h4 := someOf_range (l := l) (i := 4) (n := 64) (by omega)
 have h5 := someOf_range (l := l) (i := 5) (n := p.mx - p.mn + 1) (by omega)
 have h6 := someOf_range (l := l) (i := 6) (n := p.pb) (by omega)
 have S0 := S 0 p.size (by omega)
 have S1 := S 1 129 (by omega)
 have S2 := S 2 64 (by omega)
 have S3 := S 3 67108864 (by omega)
 have S4 := S 4 64 (by omega)
 have S5 := S 5 (p.mx - p.mn + 1) (by omega)
 have S6 := S 6 p.pb (by omega)
 unfold emitOf
 dsimp only
 generalize someOf l 0 p.size = a0 at *
 generalize someOf l 1 129 = a1 at *
 generalize someOf l 2 64 = a2 at *
 generalize someOf l 3 67108864 = a3 at *
 generalize someOf l 4 64 = a4 at *
 generalize someOf l 5 (p.mx - p.mn + 1) = a5 at *
 generalize someOf l 6 p.pb = a6 at *
 have R2 := fun b c => R.mono (((HSub.push1 h b).push c).reserve 51)
 have ld := fun b c => (R2 b c).load (k := 0) hp0
 have ix : idxA 1 vp (.int .i64 0) = some (elA 1 vp 0) := R.idx (kk := .i64) (k := (0 : Int)) ⟨by omega, by omega⟩
 generalize p.prns.getD 0 0 = pr at *
 generalize p.size = z at *
 obtain ⟨pd, o, pb, w, mn, mx, nz, prns⟩ := p
 dsimp only at *
 (refine calls_intro (hC.body (by decide) tab236) (Nat.le_of_ble_eq_true rfl) ?_); (show wp C _ none B236.code _ _); (simp only [B236]); simp -implicitDefEqProofs (disch := first | assumption | decide | omega | (simp only [wpD1] <;> omega) | (simp only [wpD2] <;> assumption) | solve_by_elim [zR, zP, zV] | fail) only [↓wpPre, wpPost, wpPoly, Int.reduceToNat, Int.reducePow, Int.reduceMul, Int.reduceAdd, Int.reduceSub, Int.reduceNeg, Nat.reduceAdd, Nat.reduceMul, Nat.reducePow, Int.reduceLT, Int.reduceLE, Int.reduceEq, Nat.reduceEqDiff, R.len, Int.one_mul, hN.2.2, eN1, es]
 refine ACallsK.eq (T0 _) ?_
 simp -implicitDefEqProofs (disch := first | assumption | decide | omega | (simp only [wpD1] <;> omega) | (simp only [wpD2] <;> assumption) | solve_by_elim [zR, zP, zV] | fail) only [↓wpPre, wpPost, wpPoly, Int.reduceToNat, Int.reducePow, Int.reduceMul, Int.reduceAdd, Int.reduceSub, Int.reduceNeg, Nat.reduceAdd, Nat.reduceMul, Nat.reducePow, Int.reduceLT, Int.reduceLE, Int.reduceEq, Nat.reduceEqDiff, ix, ld, Int.one_mul, hN.2.2, eN1, es]
 refine ACallsK.eq (S0 _ (by repeat (first | exact HSub.refl h | refine HSub.put ?_ (by (try simp only [Heap.size_put, Heap.size_push, Heap.size_reserve]); omega) _ | refine HSub.push ?_ _ | refine HSub.reserve ?_ _))) ?_
 simp -implicitDefEqProofs (disch := first | assumption | decide | omega | (simp only [wpD1] <;> omega) | (simp only [wpD2] <;> assumption) | solve_by_elim [zR, zP, zV] | fail) only [↓wpPre, wpPost, wpPoly, Int.reduceToNat, Int.reducePow, Int.reduceMul, Int.reduceAdd, Int.reduceSub, Int.reduceNeg, Nat.reduceAdd, Nat.reduceMul, Nat.reducePow, Int.reduceLT, Int.reduceLE, Int.reduceEq, Nat.reduceEqDiff]
 refine ACallsK.eq (S1 _ (by repeat (first | exact HSub.refl h | refine HSub.put ?_ (by (try simp only [Heap.size_put, Heap.size_push, Heap.size_reserve]); omega) _ | refine HSub.push ?_ _ | refine HSub.reserve ?_ _))) ?_
 simp -implicitDefEqProofs (disch := first | assumption | decide | omega | (simp only [wpD1] <;> omega) | (simp only [wpD2] <;> assumption) | solve_by_elim [zR, zP, zV] | fail) only [↓wpPre, wpPost, wpPoly, Int.reduceToNat, Int.reducePow, Int.reduceMul, Int.reduceAdd, Int.reduceSub, Int.reduceNeg, Nat.reduceAdd, Nat.reduceMul, Nat.reducePow, Int.reduceLT, Int.reduceLE, Int.reduceEq, Nat.reduceEqDiff]
 refine ACallsK.eq (S2 _ (by repeat (first | exact HSub.refl h | refine HSub.put ?_ (by (try simp only [Heap.size_put, Heap.size_push, Heap.size_reserve]); omega) _ | refine HSub.push ?_ _ | refine HSub.reserve ?_ _))) ?_
 simp -implicitDefEqProofs (disch := first | assumption | decide | omega | (simp only [wpD1] <;> omega) | (simp only [wpD2] <;> assumption) | solve_by_elim [zR, zP, zV] | fail) only [↓wpPre, wpPost, wpPoly, Int.reduceToNat, Int.reducePow, Int.reduceMul, Int.reduceAdd, Int.reduceSub, Int.reduceNeg, Nat.reduceAdd, Nat.reduceMul, Nat.reducePow, Int.reduceLT, Int.reduceLE, Int.reduceEq, Nat.reduceEqDiff]
 refine ACallsK.eq (S3 _ (by repeat (first | exact HSub.refl h | refine HSub.put ?_ (by (try simp only [Heap.size_put, Heap.size_push, Heap.size_reserve]); omega) _ | refine HSub.push ?_ _ | refine HSub.reserve ?_ _))) ?_
 simp -implicitDefEqProofs (disch := first | assumption | decide | omega | (simp only [wpD1] <;> omega) | (simp only [wpD2] <;> assumption) | solve_by_elim [zR, zP, zV] | fail) only [↓wpPre, wpPost, wpPoly, Int.reduceToNat, Int.reducePow, Int.reduceMul, Int.reduceAdd, Int.reduceSub, Int.reduceNeg, Nat.reduceAdd, Nat.reduceMul, Nat.reducePow, Int.reduceLT, Int.reduceLE, Int.reduceEq, Nat.reduceEqDiff]
 refine ACallsK.eq (S4 _ (by repeat (first | exact HSub.refl h | refine HSub.put ?_ (by (try simp only [Heap.size_put, Heap.size_push, Heap.size_reserve]); omega) _ | refine HSub.push ?_ _ | refine HSub.reserve ?_ _))) ?_
 simp -implicitDefEqProofs (disch := first | assumption | decide | omega | (simp only [wpD1] <;> omega) | (simp only [wpD2] <;> assumption) | solve_by_elim [zR, zP, zV] | fail) only [↓wpPre, wpPost, wpPoly, Int.reduceToNat, Int.reducePow, Int.reduceMul, Int.reduceAdd, Int.reduceSub, Int.reduceNeg, Nat.reduceAdd, Nat.reduceMul, Nat.reducePow, Int.reduceLT, Int.reduceLE, Int.reduceEq, Nat.reduceEqDiff]
 refine ACallsK.eq (S5 _ (by repeat (first | exact HSub.refl h | refine HSub.put ?_ (by (try simp only [Heap.size_put, Heap.size_push, Heap.size_reserve]); omega) _ | refine HSub.push ?_ _ | refine HSub.reserve ?_ _))) ?_
 simp -implicitDefEqProofs (disch := first | assumption | decide | omega | (simp only [wpD1] <;> omega) | (simp only [wpD2] <;> assumption) | solve_by_elim [zR, zP, zV] | fail) only [↓wpPre, wpPost, wpPoly, Int.reduceToNat, Int.reducePow, Int.reduceMul, Int.reduceAdd, Int.reduceSub, Int.reduceNeg, Nat.reduceAdd, Nat.reduceMul, Nat.reducePow, Int.reduceLT, Int.reduceLE, Int.reduceEq, Nat.reduceEqDiff]
 refine ACallsK.eq (S6 _ (by repeat (first | exact HSub.refl h | refine HSub.put ?_ (by (try simp only [Heap.size_put, Heap.size_push, Heap.size_reserve]); omega) _ | refine HSub.push ?_ _ | refine HSub.reserve ?_ _))) ?_
 simp -implicitDefEqProofs (disch := first | assumption | decide | omega | (simp only [wpD1] <;> omega) | (simp only [wpD2] <;> assumption) | solve_by_elim [zR, zP, zV] | fail) only [↓wpPre, wpPost, wpPoly, Int.reduceToNat, Int.reducePow, Int.reduceMul, Int.reduceAdd, Int.reduceSub, Int.reduceNeg, Nat.reduceAdd, Nat.reduceMul, Nat.reducePow, Int.reduceLT, Int.reduceLE, Int.reduceEq, Nat.reduceEqDiff, Heap.wf]
 refine wp_loopI (fun j t h' => ∃ (k : Nat) (bv : AV), GrwI h h' bv (bitK l k) ∧ (∀ i ∈ bv.ids, h.size + 1 + 1 + 49 < i) ∧ h.size + 1 + 1 + 49 < h'.size ∧ h'.get (h.size + 1) = some (.cells [.int .i64 0, .int .i64 0, .int .i64 0, .int .u32 0, .int .u32 0, .int .i64 0, .int .i64 0, .nilslice] true 0) ∧ h'.get (h.size + 1 + 1 + 49) = some (.cells [.int .i64 pr, .int .i64 a0, .int .i64 (a1 - 64), .int .u32 (a2 * 67108864 + a3), .int .u32 (a4 * 67108864), .int .i64 (mn + a5), .int .i64 a6, bv] true 0) ∧ t 2 = v ∧ t 6 = .ptr (h.size + 1) 0 ∧ t 7 = .ptr (h.size + 1 + 1 + 49) 0 ∧ t 8 = .int .i64 ((7 + k : Nat) : Int) ∧ k ≤ min l.length 20 - 7 ∧ j = min l.length 20 - 7 - k) (j0 := min l.length 20 - 7)
  ⟨0, .nilslice, GrwI.nil' (by repeat (first | exact HSub.refl h | refine HSub.put ?_ (by (try simp only [Heap.size_put, Heap.size_push, Heap.size_reserve]); omega) _ | refine HSub.push ?_ _ | refine HSub.reserve ?_ _)), by simp [AV.ids], by simp, by simp -implicitDefEqProofs (disch := first | assumption | decide | omega | (simp only [wpD1] <;> omega) | (simp only [wpD2] <;> assumption) | solve_by_elim [zR, zP, zV] | fail) only [↓wpPre, wpPost, wpPoly, Int.reduceToNat, Int.reducePow, Int.reduceMul, Int.reduceAdd, Int.reduceSub, Int.reduceNeg, Nat.reduceAdd, Nat.reduceMul, Nat.reducePow, Int.reduceLT, Int.reduceLE, Int.reduceEq, Nat.reduceEqDiff], by simp -implicitDefEqProofs (disch := first | assumption | decide | omega | (simp only [wpD1] <;> omega) | (simp only [wpD2] <;> assumption) | solve_by_elim [zR, zP, zV] | fail) only [↓wpPre, wpPost, wpPoly, Int.reduceToNat, Int.reducePow, Int.reduceMul, Int.reduceAdd, Int.reduceSub, Int.reduceNeg, Nat.reduceAdd, Nat.reduceMul, Nat.reducePow, Int.reduceLT, Int.reduceLE, Int.reduceEq, Nat.reduceEqDiff], rfl, rfl, rfl, rfl, by omega, rfl⟩ ?_
 rintro j t H ⟨k, bv, A, hid, hz, g0, g1, e2, e6, e7, e8, hk, hj⟩
 have bone := A.ri.one
 have hl1 := hl.mono A.sub
 by_cases c : 7 + k < l.length ∧ 7 + k < 20
 ·have c1 : ((7 + k : Nat) : Int) < l.length := by omega
  have c2 : ((7 + k : Nat) : Int) < 20 := by omega
  have pl := bitK_length l k
  have ps := bitK_succ l k
  have hx1 := hx _ (getD_mem (i := 7 + k) c.1)
  have T1 := fun h1 => Turn_spec (h := h1) (x := l.getD (7 + k) 0) (n := 2) (hC.sub (T' := T23) (by decide)) hx1 (by omega)
  have ld := (hl.mono (A.sub.reserve 11)).load (k := 7 + k) c.1
  have ix := hl1.idx (kk := .i64) (k := ((7 + k : Nat) : Int)) ⟨by omega, by omega⟩
  rw [Int.toNat_natCast] at ix
  generalize hm : l.getD (7 + k) 0 % 2 = m at *
  simp -implicitDefEqProofs (disch := first | assumption | decide | omega | (simp only [wpD1] <;> omega) | (simp only [wpD2] <;> assumption) | solve_by_elim [zR, zP, zV] | fail) only [↓wpPre, wpPost, wpPoly, Int.reduceToNat, Int.reducePow, Int.reduceMul, Int.reduceAdd, Int.reduceSub, Int.reduceNeg, Nat.reduceAdd, Nat.reduceMul, Nat.reducePow, Int.reduceLT, Int.reduceLE, Int.reduceEq, Nat.reduceEqDiff, e2, e7, e8, hl1.len, gV_u, c1, c2, g1, ix, ld]
  refine ACallsK.eq (T1 _) ?_
  have hsH : HSub H ((H.reserve 11).put (H.size + 7) (.cells [.int .i64 m] true 0)) := ((HSub.refl H).reserve 11).put (by omega) _
  have hkk : H.size ≤ H.size + 8 ∧ H.size + 8 < ((H.reserve 11).put (H.size + 7) (.cells [.int .i64 m] true 0)).size := ⟨by omega, by simp only [Heap.size_put, Heap.size_reserve]; omega⟩
  have ap := A.appS (x := m) _ (H.size + 8) hsH hkk (by omega)
  have gN : ((H.reserve 11).put (H.size + 7) (.cells [.int .i64 m] true 0)).get (H.size + 8) = none := by
   rw [get_put_ne (by omega), Heap.get_reserve]; exact H.wf _ (by omega)
  have Ac := A.snocS (x := m) hsH hkk (by omega)
  rw [← ps] at ap Ac
  have nn1 : h.size + 1 + 1 + 49 ∉ bv.ids := fun q => by have := hid _ q; omega
  have nn0 : h.size + 1 ∉ bv.ids := fun q => by have := hid _ q; omega
  have q1 : (snocH ((H.reserve 11).put (H.size + 7) (.cells [.int .i64 m] true 0)) (some (H.size + 8)) bv 1 (ints (bitK l (k + 1)))).get (h.size + 1 + 1 + 49) = some (.cells [.int .i64 pr, .int .i64 a0, .int .i64 (a1 - 64), .int .u32 (a2 * 67108864 + a3), .int .u32 (a4 * 67108864), .int .i64 (mn + a5), .int .i64 a6, bv] true 0) := (snocS_ne (by omega) nn1).trans ((get_put_ne (by omega)).trans ((Heap.get_reserve _ _ _).trans g1))
  have q0 : (snocH ((H.reserve 11).put (H.size + 7) (.cells [.int .i64 m] true 0)) (some (H.size + 8)) bv 1 (ints (bitK l (k + 1)))).get (h.size + 1) = some (.cells [.int .i64 0, .int .i64 0, .int .i64 0, .int .u32 0, .int .u32 0, .int .i64 0, .int .i64 0, .nilslice] true 0) := (snocS_ne (by omega) nn0).trans ((get_put_ne (by omega)).trans ((Heap.get_reserve _ _ _).trans g0))
  have qz : (snocH ((H.reserve 11).put (H.size + 7) (.cells [.int .i64 m] true 0)) (some (H.size + 8)) bv 1 (ints (bitK l (k + 1)))).size = H.size + 11 := by rw [snocS_size]; simp only [Heap.size_put, Heap.size_reserve]
  simp -implicitDefEqProofs (disch := first | assumption | decide | omega | (simp only [wpD1] <;> omega) | (simp only [wpD2] <;> assumption) | solve_by_elim [zR, zP, zV] | fail) only [↓wpPre, wpPost, wpPoly, Int.reduceToNat, Int.reducePow, Int.reduceMul, Int.reduceAdd, Int.reduceSub, Int.reduceNeg, Nat.reduceAdd, Nat.reduceMul, Nat.reducePow, Int.reduceLT, Int.reduceLE, Int.reduceEq, Nat.reduceEqDiff, cont_slice, contB_one, ap, gN, appK_none, Heap.wf]
  generalize hT : (snocH ((H.reserve 11).put (H.size + 7) (.cells [.int .i64 m] true 0)) (some (H.size + 8)) bv 1 (ints (bitK l (k + 1)))) = T at *
  simp -implicitDefEqProofs (disch := first | assumption | decide | omega | (simp only [wpD1] <;> omega) | (simp only [wpD2] <;> assumption) | solve_by_elim [zR, zP, zV] | fail) only [↓wpPre, wpPost, wpPoly, Int.reduceToNat, Int.reducePow, Int.reduceMul, Int.reduceAdd, Int.reduceSub, Int.reduceNeg, Nat.reduceAdd, Nat.reduceMul, Nat.reducePow, Int.reduceLT, Int.reduceLE, Int.reduceEq, Nat.reduceEqDiff, q0, q1, qz, e2, e6, e7, e8]
  have idn : ∀ i ∈ (AV.slice (H.size + 8) 0 ((bitK l k).length + 1) (.unk 0)).ids, i = H.size + 8 := fun i hi => by simpa [AV.ids] using hi
  have Ac2 := fun b => Ac.putNe (i := h.size + 1 + 1 + 49) (b := b) (by omega) (fun j hj => by have := idn j hj; omega)
  exact ⟨_, ⟨k + 1, _, Ac2 _, fun i hi => by have := idn i hi; omega, by omega, rfl, by omega, by omega, rfl⟩, by omega⟩
 ·have ek : min l.length 20 - 7 = k := by omega
  rw [ek]
  by_cases c1 : ((7 + k : Nat) : Int) < l.length
  ·have c2 : ¬ ((7 + k : Nat) : Int) < 20 := by omega
   simp -implicitDefEqProofs (disch := first | assumption | decide | omega | (simp only [wpD1] <;> omega) | (simp only [wpD2] <;> assumption) | solve_by_elim [zR, zP, zV] | fail) only [↓wpPre, wpPost, wpPoly, Int.reduceToNat, Int.reducePow, Int.reduceMul, Int.reduceAdd, Int.reduceSub, Int.reduceNeg, Nat.reduceAdd, Nat.reduceMul, Nat.reducePow, Int.reduceLT, Int.reduceLE, Int.reduceEq, Nat.reduceEqDiff, e2, e6, e7, e8, hl1.len, gV_u, c1, c2, g0, g1]
   exact ⟨A.sub.put (by omega) _, bv, rfl, (A.putNe (by omega) (fun j hj => by have := hid j hj; omega)).ri, fun j hj => by have := hid j hj; omega⟩
  ·simp -implicitDefEqProofs (disch := first | assumption | decide | omega | (simp only [wpD1] <;> omega) | (simp only [wpD2] <;> assumption) | solve_by_elim [zR, zP, zV] | fail) only [↓wpPre, wpPost, wpPoly, Int.reduceToNat, Int.reducePow, Int.reduceMul, Int.reduceAdd, Int.reduceSub, Int.reduceNeg, Nat.reduceAdd, Nat.reduceMul, Nat.reducePow, Int.reduceLT, Int.reduceLE, Int.reduceEq, Nat.reduceEqDiff, e2, e6, e7, e8, hl1.len, gV_u, c1, g0, g1]
   exact ⟨A.sub.put (by omega) _, bv, rfl, (A.putNe (by omega) (fun j hj => by have := hid j hj; omega)).ri, fun j hj => by have := hid j hj; omega⟩
end
end Go.Ae
/- The statement on aligned sums, of layer 14. -/
set_option linter.unusedSimpArgs false
set_option linter.unusedVariables false
namespace Go.Ae
section
variable {C : Ctx}
set_option maxHeartbeats 4000000 in
set_option maxRecDepth 20000 in
theorem scene364_spec (hC : Has C T364) {v : AV} {l : List Int} {n : Int} {h : Heap} (hl : RI h v l) (hx : ∀ x ∈ l, In64 x) (hn : 0 ≤ n ∧ n ≤ 6) :
  ACalls C 364 [v, .int .i64 n] h (fun r h' => ∃ vp vb w, r = .tuple [plA (planB l) vp, emA (emitB l) vb, w] ∧ HSub h h' ∧ RI h' vp (planB l).prns ∧ RI h' vb (emitB l).bits ∧ SI h' w (emS (planB l) (emitB l) ((emitB l).dl + n * 31 * (planB l).o).toNat)) := by
 have v1 := hl.one
 have kP : ∀ h1, HSub h h1 → ACalls C 235 [v] h1 (fun r h' => HSub h1 h' ∧ ∃ vp d0 mn0 mx0, r = .agg [.int .i64 d0, .int .i64 (planB l).o, .int .i64 (planB l).pb, .int .i64 (planB l).w, .int .i64 mn0, .int .i64 mx0, .int .i64 (planB l).nz, vp] ∧ RI h' vp (planB l).prns ∧ ∀ i ∈ vp.ids, h1.size ≤ i) :=
  fun h1 q => (PlanOf_new (hC.sub (T' := T235) (by decide)) (hl.mono q) hx).mono (fun r h' q => ⟨q.1, by obtain ⟨vp, e, R⟩ := q.2; exact ⟨vp, _, _, _, e, R⟩⟩)
 have kE := fun w h1 (q : HSub h h1) (hp : PlI h1 w (planB l)) => EmitterOf_new (hC.sub (T' := T236) (by decide)) hp (planB_nums l) (planB_len l) (planB_64 l) (hl.mono q) hx
 have pn := planB_nums l
 have p64 := planB_64 l
 have e65 := emitB_64 l
 have ez := emitB_err l
 have pd : (planB l).d = 5 := rfl
 have pmn : (planB l).mn = 1 := rfl
 have pmx : (planB l).mx = 1 := rfl
 have psz := planB_size l
 unfold emitB at *
 generalize planB l = p at *
 generalize emitOf p l = e at *
 have ok := emit_ok ez
 have o' := pn.2.1
 have dl : 0 ≤ e.dl ∧ e.dl < p.size := ok.en.1
 have q1 := mul_bd (k := n * 31) (s := p.o) (K := 186) (S := 8) (by omega) (by omega)
 have q2 : 0 ≤ n * 31 * p.o := Int.mul_nonneg (by omega) (by omega)
 obtain ⟨m, hm⟩ := Int.eq_ofNat_of_zero_le (show 0 ≤ e.dl + n * 31 * p.o by omega)
 have hmt : (e.dl + n * 31 * p.o).toNat = m := by omega
 have kM := fun vp vb b h1 (R : RI h1 vp p.prns) (B : RI h1 vb (noRt e).bits) (hg : h1.get b = some (.cells [.int .i64 e.prn, .int .i64 e.dl, .int .i64 0, .int .u32 e.st, .int .u32 e.ph, .int .i64 e.amp, .int .i64 e.ba, vb] true 0)) => MakeR_one (hC.sub (T' := T232) (by decide)) (c := 1) (m := m) (b := b) R p64 ez B e65 hg (by omega)
 unfold plA at kM
 rw [pd, pmn, pmx, ← hm] at kM
 have ed : (noRt e).dl = e.dl := rfl
 rw [ed, hmt]
 unfold plA emA
 rw [pd, pmn, pmx]
 (refine calls_intro (hC.body (by decide) tab364) (Nat.le_of_ble_eq_true rfl) ?_); (show wp C _ none B364.code _ _); (simp only [B364]); simp -implicitDefEqProofs (disch := first | assumption | decide | omega | (simp only [wpD1] <;> omega) | (simp only [wpD2] <;> assumption) | solve_by_elim [zR, zP, zV] | fail) only [↓wpPre, wpPost, wpPoly, Int.reduceToNat, Int.reducePow, Int.reduceMul, Int.reduceAdd, Int.reduceSub, Int.reduceNeg, Nat.reduceAdd, Nat.reduceMul, Nat.reducePow, Int.reduceLT, Int.reduceLE, Int.reduceEq, Nat.reduceEqDiff]
 refine ACallsK.of (kP _ ((HSub.push1 _ _).push _)) ?_
 rintro r h1 ⟨s1, vp, d0, mn0, mx0, rfl, R, ip⟩
 have vp1 := R.one
 have g4 : h1.get h.size = some (.cells [.int .i64 0, .int .i64 0, .int .i64 0, .int .i64 0, .int .i64 0, .int .i64 0, .int .i64 0, .nilslice] true 0) := (s1.get _ (by simp only [Heap.size_push]; omega)).trans (by simp -implicitDefEqProofs (disch := first | assumption | decide | omega | (simp only [wpD1] <;> omega) | (simp only [wpD2] <;> assumption) | solve_by_elim [zR, zP, zV] | fail) only [↓wpPre, wpPost, wpPoly, Int.reduceToNat, Int.reducePow, Int.reduceMul, Int.reduceAdd, Int.reduceSub, Int.reduceNeg, Nat.reduceAdd, Nat.reduceMul, Nat.reducePow, Int.reduceLT, Int.reduceLE, Int.reduceEq, Nat.reduceEqDiff])
 have g5 : h1.get (h.size + 1) = some (.cells [.int .i64 0, .int .i64 0, .int .i64 0, .int .u32 0, .int .u32 0, .int .i64 0, .int .i64 0, .nilslice] true 0) := (s1.get _ (by simp only [Heap.size_push]; omega)).trans (by simp -implicitDefEqProofs (disch := first | assumption | decide | omega | (simp only [wpD1] <;> omega) | (simp only [wpD2] <;> assumption) | solve_by_elim [zR, zP, zV] | fail) only [↓wpPre, wpPost, wpPoly, Int.reduceToNat, Int.reducePow, Int.reduceMul, Int.reduceAdd, Int.reduceSub, Int.reduceNeg, Nat.reduceAdd, Nat.reduceMul, Nat.reducePow, Int.reduceLT, Int.reduceLE, Int.reduceEq, Nat.reduceEqDiff])
 have t1 := ((HSub.push1 h (.cells [.int .i64 0, .int .i64 0, .int .i64 0, .int .i64 0, .int .i64 0, .int .i64 0, .int .i64 0, .nilslice] true 0)).push (.cells [.int .i64 0, .int .i64 0, .int .i64 0, .int .u32 0, .int .u32 0, .int .i64 0, .int .i64 0, .nilslice] true 0)).trans s1
 have z1 : h.size + 2 ≤ h1.size := by have := s1.size; simp only [Heap.size_push] at this; omega
 simp -implicitDefEqProofs (disch := first | assumption | decide | omega | (simp only [wpD1] <;> omega) | (simp only [wpD2] <;> assumption) | solve_by_elim [zR, zP, zV] | fail) only [↓wpPre, wpPost, wpPoly, Int.reduceToNat, Int.reducePow, Int.reduceMul, Int.reduceAdd, Int.reduceSub, Int.reduceNeg, Nat.reduceAdd, Nat.reduceMul, Nat.reducePow, Int.reduceLT, Int.reduceLE, Int.reduceEq, Nat.reduceEqDiff]
 refine ACallsK.of (kE _ _ (by repeat (first | exact t1 | refine HSub.put ?_ (by (try simp only [Heap.size_put, Heap.size_push, Heap.size_reserve]); omega) _ | refine HSub.push ?_ _ | refine HSub.reserve ?_ _)) ⟨vp, by rw [pd, pmn, pmx], R.mono (HSub.push1 _ _)⟩) ?_
 rintro r h2 ⟨s2, vb, rfl, B, ib⟩
 have vb1 := B.one
 have z2 : h1.size + 1 ≤ h2.size := by have := s2.size; simp only [Heap.size_push] at this; omega
 have gp : h2.get h1.size = some (.cells [.int .i64 5, .int .i64 p.o, .int .i64 p.pb, .int .i64 p.w, .int .i64 1, .int .i64 1, .int .i64 p.nz, vp] true 0) := (s2.get _ (by simp only [Heap.size_push]; omega)).trans (by simp -implicitDefEqProofs (disch := first | assumption | decide | omega | (simp only [wpD1] <;> omega) | (simp only [wpD2] <;> assumption) | solve_by_elim [zR, zP, zV] | fail) only [↓wpPre, wpPost, wpPoly, Int.reduceToNat, Int.reducePow, Int.reduceMul, Int.reduceAdd, Int.reduceSub, Int.reduceNeg, Nat.reduceAdd, Nat.reduceMul, Nat.reducePow, Int.reduceLT, Int.reduceLE, Int.reduceEq, Nat.reduceEqDiff])
 have t2 := (HSub.push1 h1 (.cells [.int .i64 5, .int .i64 p.o, .int .i64 p.pb, .int .i64 p.w, .int .i64 1, .int .i64 1, .int .i64 p.nz, vp] true 0)).trans s2
 have R2 := R.mono t2
 simp -implicitDefEqProofs (disch := first | assumption | decide | omega | (simp only [wpD1] <;> omega) | (simp only [wpD2] <;> assumption) | solve_by_elim [zR, zP, zV] | fail) only [↓wpPre, wpPost, wpPoly, Int.reduceToNat, Int.reducePow, Int.reduceMul, Int.reduceAdd, Int.reduceSub, Int.reduceNeg, Nat.reduceAdd, Nat.reduceMul, Nat.reducePow, Int.reduceLT, Int.reduceLE, Int.reduceEq, Nat.reduceEqDiff, gp]
 refine ACallsK.of (kM _ _ _ _ (R2.mono (by repeat (first | exact HSub.refl h2 | refine HSub.put ?_ (by (try simp only [Heap.size_put, Heap.size_push, Heap.size_reserve]); omega) _ | refine HSub.push ?_ _ | refine HSub.reserve ?_ _))) (RI.mono B (by repeat (first | exact HSub.refl h2 | refine HSub.put ?_ (by (try simp only [Heap.size_put, Heap.size_push, Heap.size_reserve]); omega) _ | refine HSub.push ?_ _ | refine HSub.reserve ?_ _))) (by simp -implicitDefEqProofs (disch := first | assumption | decide | omega | (simp only [wpD1] <;> omega) | (simp only [wpD2] <;> assumption) | solve_by_elim [zR, zP, zV] | fail) only [↓wpPre, wpPost, wpPoly, Int.reduceToNat, Int.reducePow, Int.reduceMul, Int.reduceAdd, Int.reduceSub, Int.reduceNeg, Nat.reduceAdd, Nat.reduceMul, Nat.reducePow, Int.reduceLT, Int.reduceLE, Int.reduceEq, Nat.reduceEqDiff])) ?_
 rintro r h3 ⟨w, rfl, s3, S, iw⟩
 have t3 : HSub h2 h3 := HSub.trans (by exact (by repeat (first | exact HSub.refl h2 | refine HSub.put ?_ (by (try simp only [Heap.size_put, Heap.size_push, Heap.size_reserve]); omega) _ | refine HSub.push ?_ _ | refine HSub.reserve ?_ _))) s3
 have g4 := (t3.get _ (by omega)).trans ((t2.get _ (by omega)).trans g4)
 have g5 := (t3.get _ (by omega)).trans ((t2.get _ (by omega)).trans g5)
 have gp := (t3.get _ (by omega)).trans gp
 have z3 := t3.size
 have ge : h3.get h2.size = some (.cells [.int .i64 e.prn, .int .i64 e.dl, .int .i64 0, .int .u32 e.st, .int .u32 e.ph, .int .i64 e.amp, .int .i64 e.ba, vb] true 0) := (s3.get _ (by simp only [Heap.size_push]; omega)).trans (by simp -implicitDefEqProofs (disch := first | assumption | decide | omega | (simp only [wpD1] <;> omega) | (simp only [wpD2] <;> assumption) | solve_by_elim [zR, zP, zV] | fail) only [↓wpPre, wpPost, wpPoly, Int.reduceToNat, Int.reducePow, Int.reduceMul, Int.reduceAdd, Int.reduceSub, Int.reduceNeg, Nat.reduceAdd, Nat.reduceMul, Nat.reducePow, Int.reduceLT, Int.reduceLE, Int.reduceEq, Nat.reduceEqDiff])
 have w1 := S.one
 simp -implicitDefEqProofs (disch := first | assumption | decide | omega | (simp only [wpD1] <;> omega) | (simp only [wpD2] <;> assumption) | solve_by_elim [zR, zP, zV] | fail) only [↓wpPre, wpPost, wpPoly, Int.reduceToNat, Int.reducePow, Int.reduceMul, Int.reduceAdd, Int.reduceSub, Int.reduceNeg, Nat.reduceAdd, Nat.reduceMul, Nat.reducePow, Int.reduceLT, Int.reduceLE, Int.reduceEq, Nat.reduceEqDiff, g4, g5, gp, ge]
 simp only [Heap.size_push] at ip ib iw
 have off : ∀ A B, ∀ i, h.size + 2 ≤ i → ((h3.put h.size A).put (h.size + 1) B).get i = h3.get i := fun A B i hi => (get_put_ne (by omega)).trans (get_put_ne (by omega))
 refine ⟨vp, vb, w, rfl, ((t1.trans (t2.trans t3)).put (by omega) _).put (by omega) _, (R2.mono t3).off fun i hi => off _ _ i ?_, (RI.mono B t3).off fun i hi => off _ _ i ?_, S.off fun i hi => off _ _ i ?_⟩
 ·have := ip i hi; omega
 ·have := ib i hi; omega
 ·have := iw i hi; omega
def copyV (l : List Int) (H : Heap) (i : Nat) : AV := if l.length = 0 then .slice i 0 0 (.known 0) else .slice H.size 0 l.length (.unk 0)
def copyH (l : List Int) (H : Heap) : Heap := if l.length = 0 then H else H.push (.cells (ints l) true 1)
theorem copy_app {l : List Int} {H : Heap} {i : Nat} (hg : H.get i = some (.cells [] true 0)) (hl : l.length ≤ 1000) : appendA H none 1 8 (.slice i 0 0 (.known 0)) l.length (ints l) = some (copyV l H i, copyH l H) := by
 unfold copyV copyH
 by_cases c : l.length = 0
 ·rw [if_pos c, if_pos c, c]
  simp [appendA, hg]
 ·rw [if_neg c, if_neg c]
  simp only [appendA, if_neg c, hg]
  rw [if_pos (by simp), if_neg (by omega), if_pos ⟨by omega, rfl⟩]
  simp [cut, Heap.nid, Heap.new]
theorem copyH_sub (l : List Int) (H : Heap) : HSub H (copyH l H) := by
 unfold copyH
 split
 ·exact HSub.refl _
 ·exact HSub.push1 _ _
theorem copy_ri {l : List Int} {H : Heap} {i : Nat} (hg : H.get i = some (.cells [] true 0)) (hl : l.length ≤ 1000) : RI (copyH l H) (copyV l H i) l := by
 unfold copyV copyH
 by_cases c : l.length = 0
 ·rw [if_pos c, if_pos c, List.eq_nil_of_length_eq_zero c]
  exact RI.known (wr := true) (u := 0) (by rw [hg]; rfl) ⟨by simp, by omega⟩ (Nat.le_refl _)
 ·rw [if_neg c, if_neg c]
  have g : GrwI Heap.empty (H.push (.cells (ints l) true 1)) (.slice H.size 0 l.length (.unk 0)) l :=
   ⟨⟨Nat.zero_le _, fun i hi => absurd hi (Nat.not_lt_zero i)⟩, by simp [ints], by omega, .inr ⟨H.size, [], Nat.zero_le _, rfl, by rw [List.append_nil, Heap.get_push, if_pos rfl]⟩⟩
  exact g.ri
set_option maxHeartbeats 8000000 in
set_option maxRecDepth 20000 in
theorem BankSpun_law (hC : Has C T363) {v : AV} {l : List Int} {k0 st2 : Int} {h : Heap} (hl : RI h v l) (hk : In64 k0) (hst2 : U32 st2) (hx : ∀ x ∈ l, In64 x) : ACalls C 363 [v, .int .i64 k0, .int .u32 st2] h (fun r _ => r = .bool true) := by
 have kn := fun h => known265_spec (hC.sub (T' := T265) (by decide)) (h := h)
 by_cases c1 : 20 < l.length
 ·(refine calls_intro (hC.body (by decide) tab363) (Nat.le_of_ble_eq_true rfl) ?_); (show wp C _ none B363.code _ _); (simp only [B363]); simp -implicitDefEqProofs (disch := first | assumption | decide | omega | (simp only [wpD1] <;> omega) | (simp only [wpD2] <;> assumption) | solve_by_elim [zR, zP, zV] | fail) only [↓wpPre, wpPost, wpPoly, Int.reduceToNat, Int.reducePow, Int.reduceMul, Int.reduceAdd, Int.reduceSub, Int.reduceNeg, Nat.reduceAdd, Nat.reduceMul, Nat.reducePow, Int.reduceLT, Int.reduceLE, Int.reduceEq, Nat.reduceEqDiff, hl.len]
  refine ACallsK.eq (kn _) ?_
  simp -implicitDefEqProofs (disch := first | assumption | decide | omega | (simp only [wpD1] <;> omega) | (simp only [wpD2] <;> assumption) | solve_by_elim [zR, zP, zV] | fail) only [↓wpPre, wpPost, wpPoly, Int.reduceToNat, Int.reducePow, Int.reduceMul, Int.reduceAdd, Int.reduceSub, Int.reduceNeg, Nat.reduceAdd, Nat.reduceMul, Nat.reducePow, Int.reduceLT, Int.reduceLE, Int.reduceEq, Nat.reduceEqDiff, hl.len]
 obtain ⟨k, ek, lk⟩ := turnN (x := k0) (n := 8) (by omega)
 replace ek : k0 % 8 = (k : Int) := ek
 have t1 := fun h1 => Turn_spec (h := h1) (x := k0) (n := 8) (hC.sub (T' := T23) (by decide)) hk (by omega)
 rw [ek] at t1
 have hmin : (min (l.length : Int) 7) = ((min l.length 7 : Nat) : Int) := by omega
 have ln7 : (l.take (min l.length 7)).length = min l.length 7 := by rw [List.length_take]; omega
 have ll7 : (l.take (min l.length 7)).length ≤ 7 := by omega
 have hx7 : ∀ x ∈ l.take (min l.length 7), In64 x := fun x q => hx x (List.mem_of_mem_take q)
 have pt := fun h1 (q : HSub h h1) => (hl.mono q).part0_b (k2 := .i64) (b := ((min l.length 7 : Nat) : Int)) (by omega)
 simp only [Int.toNat_natCast] at pt
 generalize l.take (min l.length 7) = l7 at *
 have kS := fun h1 w (R : RI h1 w l7) => scene364_spec (hC.sub (T' := T364) (by decide)) (n := 1) R hx7 (by omega)
 have pn := planB_nums l7
 have p64 := planB_64 l7
 have e65 := noPh_64 (emitB_64 l7)
 have ez := (emitErr_ph (planB l7) (emitB l7)).trans (emitB_err l7)
 have ea : (noPh (emitB l7)).amp = 1 := emitB_amp l7
 have er : (noPh (emitB l7)).rt = 0 := rfl
 have eb : (noPh (emitB l7)).bits = [] := emitB_nobits ll7
 have pd : (planB l7).d = 5 := rfl
 have psz := planB_size l7
 generalize planB l7 = p at *
 generalize emitB l7 = e at *
 have ok := emit_ok ez
 have o' := pn.2.1
 have dl : 0 ≤ e.dl ∧ e.dl < p.size := ok.en.1
 have sE := samp_ok ok
 have mb := mul_bd (k := (1 + (k : Int))) (s := 31 * p.o) (K := 8) (S := 248) (by omega) (by omega)
 have mn := Int.mul_nonneg (show 0 ≤ 1 + (k : Int) by omega) (show 0 ≤ 31 * p.o by omega)
 obtain ⟨m, hm⟩ := Int.eq_ofNat_of_zero_le (show 0 ≤ e.dl + (1 + (k : Int)) * (31 * p.o) by omega)
 have own := own_wins ok er ea eb rfl (m := m) (n := k + 1) (by
  have q : (noPh e).dl = e.dl := rfl
  rw [psz, q, Int.natCast_add, Int.add_comm ((k : Nat) : Int)]; exact Int.le_of_eq hm)
 have inb := emS_in ok ea m
 have len := emS_length p (noPh e) m
 have hcl : ((sampL p.d e.prn p.o.toNat).length : Int) = p.size := by
  rw [sampL_length]; unfold PlanP.size
  rw [Int.natCast_mul, Int.toNat_of_nonneg (by omega)]
 have wl := bankL_length (emS p (noPh e) m) (sampL p.d (noPh e).prn p.o.toNat) (noPh e).dl (sampL p.d (noPh e).prn p.o.toNat).length (k + 1)
 rw [psz, pd] at own
 rw [pd] at sE wl
 have eprn : (noPh e).prn = e.prn := rfl
 have edl : (noPh e).dl = e.dl := rfl
 have est : (noPh e).st = e.st := rfl
 rw [eprn, edl, est] at own
 rw [eprn] at sE
 rw [eprn, edl] at wl
 have kM := fun vp vb b h1 (R : RI h1 vp p.prns) (B : RI h1 vb (noPh e).bits) (hg : h1.get b = some (.cells [.int .i64 e.prn, .int .i64 e.dl, .int .i64 e.rt, .int .u32 e.st, .int .u32 0, .int .i64 e.amp, .int .i64 e.ba, vb] true 0)) => MakeR_one (hC.sub (T' := T232) (by decide)) (c := 1) (m := m) (b := b) R p64 ez B e65 hg (by omega)
 rw [← hm] at kM
 have kW := fun h1 w (S : SI h1 w (emS p (noPh e) m)) => Windows_spec (hC.sub (T' := T279) (by decide)) (d := 5) (o := p.o) (p := e.prn) (a := e.dl) (many := 1 + (k : Int)) S (by unfold In64; omega) p64.2.1 e65.1 (by unfold In64; omega) (by unfold In64; omega)
 unfold winE manyE at kW
 rw [bankErr_zero (by rw [len]; omega) inb sE (by omega), if_neg (by decide), if_neg (by omega), if_pos rfl, show (1 + (k : Int)).toNat = k + 1 by omega] at kW
 generalize bankL (emS p (noPh e) m) (sampL 5 e.prn p.o.toNat) e.dl (sampL 5 e.prn p.o.toNat).length (k + 1) = W at *
 have s1 := spin_self (W := W) (k + 1) own
 have s2 := spin_norm (W := W) (st' := st2) (show 0 ≤ 31 * p.o by omega) (k + 1) own
 have sm : smE W 16 = 0 := by
  unfold smE
  rw [if_neg (by omega), if_pos]
  intro x hx
  obtain ⟨i, hi, rfl⟩ := List.mem_iff_getElem.1 hx
  have q := own i (by omega)
  rw [List.getD_eq_getElem?_getD, List.getElem?_eq_getElem hi, Option.getD_some] at q
  rw [q]
  have cl := carP_le (phI_u32 0 e.st i)
  have b1 := mul_bd (k := 31 * p.o) (s := (carP (phI 0 e.st i)).1) (K := 248) (S := 127) (by omega) ⟨cl.1, cl.2.1⟩
  have b2 := mul_bd (k := 31 * p.o) (s := (carP (phI 0 e.st i)).2) (K := 248) (S := 127) (by omega) ⟨cl.2.2.1, cl.2.2.2⟩
  unfold inS
  dsimp only
  omega
 have kA := fun h1 w (q : SI h1 w W) => Spin_spec (hC.sub (T' := T268) (by decide)) q e65.2.2.2.1
 have kZ := fun h1 w (q : SI h1 w W) => Spin_spec (hC.sub (T' := T268) (by decide)) q hst2
 unfold spinE at kA kZ
 rw [sm, if_pos rfl, wl, est, s1] at kA
 rw [sm, if_pos rfl, wl] at kZ
 generalize spinK W st2 (k + 1) = Z at *
 obtain ⟨Z1, Z2⟩ := Z
 unfold smp at kA kZ
 dsimp only at kA kZ s2
 have kAd := fun h1 (n : Nat) => AdvanceR_spec (hC.sub (T' := T139) (by decide)) (a := 0) (s := e.st) (n := (n : Int)) (h := h1)
 have kCa := fun h1 (n : Nat) => CarrierR_spec (hC.sub (T' := T130) (by decide)) (h := h1) (phI_u32 0 e.st (n : Nat))
 have hz0 := sq_nonneg Z1
 have hz1 := sq_nonneg Z2
 have eb1 : 16384 * (31 * p.o) * (1 + (k : Int)) = ((k + 1 : Nat) : Int) * (16384 * (31 * p.o)) := by
  rw [Int.mul_comm, Int.natCast_add, Int.add_comm]; rfl
 have hB := mul_bd (k := ((k + 1 : Nat) : Int)) (s := 16384 * (31 * p.o)) (K := 8) (S := 4063232) (by omega) (by omega)
 generalize ((k + 1 : Nat) : Int) * (16384 * (31 * p.o)) = Bd at *
 have hB2 := mul_bd (k := Bd) (s := Bd) (K := 32505856) (S := 32505856) hB hB
 have wi := wantK_in (sz := 31 * p.o) (st := e.st) (by omega)
 have cop := fun (H : Heap) (i : Nat) g => copy_app (l := l7) (H := H) (i := i) g (by omega)
 (refine calls_intro (hC.body (by decide) tab363) (Nat.le_of_ble_eq_true rfl) ?_); (show wp C _ none B363.code _ _); (simp only [B363]); simp -implicitDefEqProofs (disch := first | assumption | decide | omega | (simp only [wpD1] <;> omega) | (simp only [wpD2] <;> assumption) | solve_by_elim [zR, zP, zV] | fail) only [↓wpPre, wpPost, wpPoly, Int.reduceToNat, Int.reducePow, Int.reduceMul, Int.reduceAdd, Int.reduceSub, Int.reduceNeg, Nat.reduceAdd, Nat.reduceMul, Nat.reducePow, Int.reduceLT, Int.reduceLE, Int.reduceEq, Nat.reduceEqDiff, hl.len]
 refine ACallsK.eq (kn _) ?_
 simp -implicitDefEqProofs (disch := first | assumption | decide | omega | (simp only [wpD1] <;> omega) | (simp only [wpD2] <;> assumption) | solve_by_elim [zR, zP, zV] | fail) only [↓wpPre, wpPost, wpPoly, Int.reduceToNat, Int.reducePow, Int.reduceMul, Int.reduceAdd, Int.reduceSub, Int.reduceNeg, Nat.reduceAdd, Nat.reduceMul, Nat.reducePow, Int.reduceLT, Int.reduceLE, Int.reduceEq, Nat.reduceEqDiff, hl.len]
 refine ACallsK.eq (t1 _) ?_
 obtain ⟨v7, hv7, R7⟩ := pt _ (HSub.push1 h (.cells [] true 0))
 have gE : (h.push (.cells [] true 0)).get h.size = some (.cells [] true 0) := get_push_eq rfl
 have cp := copy_app (l := l7) gE (by omega)
 have cr := copy_ri (l := l7) gE (by omega)
 have cs := (HSub.push1 h (.cells [] true 0)).trans (copyH_sub l7 _)
 have c7 := R7.content
 simp -implicitDefEqProofs (disch := first | assumption | decide | omega | (simp only [wpD1] <;> omega) | (simp only [wpD2] <;> assumption) | solve_by_elim [zR, zP, zV] | fail) only [↓wpPre, wpPost, wpPoly, Int.reduceToNat, Int.reducePow, Int.reduceMul, Int.reduceAdd, Int.reduceSub, Int.reduceNeg, Nat.reduceAdd, Nat.reduceMul, Nat.reducePow, Int.reduceLT, Int.reduceLE, Int.reduceEq, Nat.reduceEqDiff, hl.len, min_two, hmin, hv7, c7, cp]
 refine ACallsK.of (kS _ _ cr) ?_
 rintro r h1 ⟨vp, vb, w0, rfl, sA, R, B, S⟩
 clear cp cr c7 hv7 R7 pt
 have vp1 := R.one
 have vb1 := B.one
 unfold plA emA
 simp -implicitDefEqProofs (disch := first | assumption | decide | omega | (simp only [wpD1] <;> omega) | (simp only [wpD2] <;> assumption) | solve_by_elim [zR, zP, zV] | fail) only [↓wpPre, wpPost, wpPoly, Int.reduceToNat, Int.reducePow, Int.reduceMul, Int.reduceAdd, Int.reduceSub, Int.reduceNeg, Nat.reduceAdd, Nat.reduceMul, Nat.reducePow, Int.reduceLT, Int.reduceLE, Int.reduceEq, Nat.reduceEqDiff]
 refine ACallsK.of (kM _ _ _ _ (R.mono (by repeat (first | exact HSub.refl h1 | refine HSub.put ?_ (by (try simp only [Heap.size_put, Heap.size_push, Heap.size_reserve]); omega) _ | refine HSub.push ?_ _ | refine HSub.reserve ?_ _))) (RI.mono B (by repeat (first | exact HSub.refl h1 | refine HSub.put ?_ (by (try simp only [Heap.size_put, Heap.size_push, Heap.size_reserve]); omega) _ | refine HSub.push ?_ _ | refine HSub.reserve ?_ _))) (by simp -implicitDefEqProofs (disch := first | assumption | decide | omega | (simp only [wpD1] <;> omega) | (simp only [wpD2] <;> assumption) | solve_by_elim [zR, zP, zV] | fail) only [↓wpPre, wpPost, wpPoly, Int.reduceToNat, Int.reducePow, Int.reduceMul, Int.reduceAdd, Int.reduceSub, Int.reduceNeg, Nat.reduceAdd, Nat.reduceMul, Nat.reducePow, Int.reduceLT, Int.reduceLE, Int.reduceEq, Nat.reduceEqDiff])) ?_
 rintro r h2 ⟨w, rfl, sB, S2, _⟩
 have gP : h2.get h1.size = some (.cells [.int .i64 p.d, .int .i64 p.o, .int .i64 p.pb, .int .i64 p.w, .int .i64 p.mn, .int .i64 p.mx, .int .i64 p.nz, vp] true 0) := (sB.get _ (by simp only [Heap.size_push]; omega)).trans (by simp -implicitDefEqProofs (disch := first | assumption | decide | omega | (simp only [wpD1] <;> omega) | (simp only [wpD2] <;> assumption) | solve_by_elim [zR, zP, zV] | fail) only [↓wpPre, wpPost, wpPoly, Int.reduceToNat, Int.reducePow, Int.reduceMul, Int.reduceAdd, Int.reduceSub, Int.reduceNeg, Nat.reduceAdd, Nat.reduceMul, Nat.reducePow, Int.reduceLT, Int.reduceLE, Int.reduceEq, Nat.reduceEqDiff])
 have gE : h2.get (h1.size + 1) = some (.cells [.int .i64 e.prn, .int .i64 e.dl, .int .i64 e.rt, .int .u32 e.st, .int .u32 0, .int .i64 e.amp, .int .i64 e.ba, vb] true 0) := (sB.get _ (by simp only [Heap.size_push]; omega)).trans (by simp -implicitDefEqProofs (disch := first | assumption | decide | omega | (simp only [wpD1] <;> omega) | (simp only [wpD2] <;> assumption) | solve_by_elim [zR, zP, zV] | fail) only [↓wpPre, wpPost, wpPoly, Int.reduceToNat, Int.reducePow, Int.reduceMul, Int.reduceAdd, Int.reduceSub, Int.reduceNeg, Nat.reduceAdd, Nat.reduceMul, Nat.reducePow, Int.reduceLT, Int.reduceLE, Int.reduceEq, Nat.reduceEqDiff])
 have zB := sB.size
 simp only [Heap.size_push] at zB
 simp -implicitDefEqProofs (disch := first | assumption | decide | omega | (simp only [wpD1] <;> omega) | (simp only [wpD2] <;> assumption) | solve_by_elim [zR, zP, zV] | fail) only [↓wpPre, wpPost, wpPoly, Int.reduceToNat, Int.reducePow, Int.reduceMul, Int.reduceAdd, Int.reduceSub, Int.reduceNeg, Nat.reduceAdd, Nat.reduceMul, Nat.reducePow, Int.reduceLT, Int.reduceLE, Int.reduceEq, Nat.reduceEqDiff, gP, gE]
 refine ACallsK.of (kW _ _ S2) ?_
 rintro r h3 ⟨w3, rfl, sC, R3⟩
 have gE := (sC.get _ (by omega)).trans gE
 have zC := sC.size
 have lenW : lenA w3 = some (.int .i64 (1 + (k : Int))) := by
  rw [R3.len, wl, Int.natCast_add, Int.add_comm]; rfl
 simp -implicitDefEqProofs (disch := first | assumption | decide | omega | (simp only [wpD1] <;> omega) | (simp only [wpD2] <;> assumption) | solve_by_elim [zR, zP, zV] | fail) only [↓wpPre, wpPost, wpPoly, Int.reduceToNat, Int.reducePow, Int.reduceMul, Int.reduceAdd, Int.reduceSub, Int.reduceNeg, Nat.reduceAdd, Nat.reduceMul, Nat.reducePow, Int.reduceLT, Int.reduceLE, Int.reduceEq, Nat.reduceEqDiff, lstErr, lenW, gE, gV_u]
 refine ACallsK.eq (kA _ _ R3) ?_
 simp -implicitDefEqProofs (disch := first | assumption | decide | omega | (simp only [wpD1] <;> omega) | (simp only [wpD2] <;> assumption) | solve_by_elim [zR, zP, zV] | fail) only [↓wpPre, wpPost, wpPoly, Int.reduceToNat, Int.reducePow, Int.reduceMul, Int.reduceAdd, Int.reduceSub, Int.reduceNeg, Nat.reduceAdd, Nat.reduceMul, Nat.reducePow, Int.reduceLT, Int.reduceLE, Int.reduceEq, Nat.reduceEqDiff]
 refine ACallsK.eq (kZ _ _ (R3.mono (HSub.push1 _ _))) ?_
 simp -implicitDefEqProofs (disch := first | assumption | decide | omega | (simp only [wpD1] <;> omega) | (simp only [wpD2] <;> assumption) | solve_by_elim [zR, zP, zV] | fail) only [↓wpPre, wpPost, wpPoly, Int.reduceToNat, Int.reducePow, Int.reduceMul, Int.reduceAdd, Int.reduceSub, Int.reduceNeg, Nat.reduceAdd, Nat.reduceMul, Nat.reducePow, Int.reduceLT, Int.reduceLE, Int.reduceEq, Nat.reduceEqDiff]
 refine wp_loopI (fun j t h' => HSub ((h3.push (.cells [.int .i64 (wantK (31 * p.o) e.st (k + 1)), .int .i64 0] true 0)).push (.cells [.int .i64 Z1, .int .i64 Z2] true 0)) h' ∧ ∃ n : Nat, t 20 = .int .i64 (wantK (31 * p.o) e.st n) ∧ t 21 = .int .i64 (n : Nat) ∧ t 1 = .int .i64 (1 + (k : Int)) ∧ t 7 = .bool true ∧ t 10 = .ptr (h1.size + 1) 0 ∧ t 12 = .int .i64 (31 * p.o) ∧ t 16 = .int .i64 0 ∧ t 17 = .ptr h3.size 0 ∧ t 18 = .ptr (h3.size + 1) 0 ∧ t 19 = .int .i64 0 ∧ n ≤ k + 1 ∧ j = k + 1 - n) (j0 := k + 1)
  ⟨HSub.refl _, 0, rfl, rfl, rfl, rfl, rfl, rfl, rfl, rfl, rfl, rfl, by omega, rfl⟩ ?_
 rintro j t h4 ⟨sD, n, e20, e21, e1, e7, e10, e12, e16, e17, e18, e19, hn, hj⟩
 have gE4 : h4.get (h1.size + 1) = some (.cells [.int .i64 e.prn, .int .i64 e.dl, .int .i64 e.rt, .int .u32 e.st, .int .u32 0, .int .i64 e.amp, .int .i64 e.ba, vb] true 0) := (sD.get _ (by simp only [Heap.size_push]; omega)).trans (by simp -implicitDefEqProofs (disch := first | assumption | decide | omega | (simp only [wpD1] <;> omega) | (simp only [wpD2] <;> assumption) | solve_by_elim [zR, zP, zV] | fail) only [↓wpPre, wpPost, wpPoly, Int.reduceToNat, Int.reducePow, Int.reduceMul, Int.reduceAdd, Int.reduceSub, Int.reduceNeg, Nat.reduceAdd, Nat.reduceMul, Nat.reducePow, Int.reduceLT, Int.reduceLE, Int.reduceEq, Nat.reduceEqDiff]; exact gE)
 have g17 : h4.get h3.size = some (.cells [.int .i64 (wantK (31 * p.o) e.st (k + 1)), .int .i64 0] true 0) := (sD.get _ (by simp only [Heap.size_push]; omega)).trans (by simp -implicitDefEqProofs (disch := first | assumption | decide | omega | (simp only [wpD1] <;> omega) | (simp only [wpD2] <;> assumption) | solve_by_elim [zR, zP, zV] | fail) only [↓wpPre, wpPost, wpPoly, Int.reduceToNat, Int.reducePow, Int.reduceMul, Int.reduceAdd, Int.reduceSub, Int.reduceNeg, Nat.reduceAdd, Nat.reduceMul, Nat.reducePow, Int.reduceLT, Int.reduceLE, Int.reduceEq, Nat.reduceEqDiff])
 have g18 : h4.get (h3.size + 1) = some (.cells [.int .i64 Z1, .int .i64 Z2] true 0) := (sD.get _ (by simp only [Heap.size_push]; omega)).trans (by simp -implicitDefEqProofs (disch := first | assumption | decide | omega | (simp only [wpD1] <;> omega) | (simp only [wpD2] <;> assumption) | solve_by_elim [zR, zP, zV] | fail) only [↓wpPre, wpPost, wpPoly, Int.reduceToNat, Int.reducePow, Int.reduceMul, Int.reduceAdd, Int.reduceSub, Int.reduceNeg, Nat.reduceAdd, Nat.reduceMul, Nat.reducePow, Int.reduceLT, Int.reduceLE, Int.reduceEq, Nat.reduceEqDiff])
 simp -implicitDefEqProofs (disch := first | assumption | decide | omega | (simp only [wpD1] <;> omega) | (simp only [wpD2] <;> assumption) | solve_by_elim [zR, zP, zV] | fail) only [↓wpPre, wpPost, wpPoly, Int.reduceToNat, Int.reducePow, Int.reduceMul, Int.reduceAdd, Int.reduceSub, Int.reduceNeg, Nat.reduceAdd, Nat.reduceMul, Nat.reducePow, Int.reduceLT, Int.reduceLE, Int.reduceEq, Nat.reduceEqDiff, e1, e21]
 refine Br.by (fun c2 => ?_) (fun c2 => ?_)
 ·have kAd := fun h1 => kAd h1 n
  have kCa := fun h1 => kCa h1 n
  have wn := wi n
  have wn1 := wi (n + 1)
  have cl := carP_le (phI_u32 0 e.st n)
  have nm := carP_norm (phI_u32 0 e.st n)
  have q1 := sq_nonneg (carP (phI 0 e.st n)).1
  have q2 := sq_nonneg (carP (phI 0 e.st n)).2
  obtain ⟨w2, hw2⟩ : ∃ w2, w2 = wantK (31 * p.o) e.st (n + 1) := ⟨_, rfl⟩
  have ws : wantK (31 * p.o) e.st (n + 1) = wantK (31 * p.o) e.st n + 31 * p.o * ((carP (phI 0 e.st n)).1 * (carP (phI 0 e.st n)).1 + (carP (phI 0 e.st n)).2 * (carP (phI 0 e.st n)).2) := rfl
  have b1 := mul_bd (k := 31 * p.o) (s := (carP (phI 0 e.st n)).1 * (carP (phI 0 e.st n)).1 + (carP (phI 0 e.st n)).2 * (carP (phI 0 e.st n)).2) (K := 248) (S := 16384) (by omega) (by omega)
  rw [← hw2] at ws wn1
  generalize wantK (31 * p.o) e.st n = w0 at *
  generalize phI 0 e.st n = ph at *
  generalize carP ph = cc at *
  obtain ⟨x, y⟩ := cc
  unfold smp at kCa
  dsimp only at kCa nm q1 q2 ws b1
  simp -implicitDefEqProofs (disch := first | assumption | decide | omega | (simp only [wpD1] <;> omega) | (simp only [wpD2] <;> assumption) | solve_by_elim [zR, zP, zV] | fail) only [↓wpPre, wpPost, wpPoly, Int.reduceToNat, Int.reducePow, Int.reduceMul, Int.reduceAdd, Int.reduceSub, Int.reduceNeg, Nat.reduceAdd, Nat.reduceMul, Nat.reducePow, Int.reduceLT, Int.reduceLE, Int.reduceEq, Nat.reduceEqDiff, e1, e7, e10, e12, e16, e17, e18, e19, e20, e21, gE4]
  refine ACallsK.eq (kAd _) ?_
  simp -implicitDefEqProofs (disch := first | assumption | decide | omega | (simp only [wpD1] <;> omega) | (simp only [wpD2] <;> assumption) | solve_by_elim [zR, zP, zV] | fail) only [↓wpPre, wpPost, wpPoly, Int.reduceToNat, Int.reducePow, Int.reduceMul, Int.reduceAdd, Int.reduceSub, Int.reduceNeg, Nat.reduceAdd, Nat.reduceMul, Nat.reducePow, Int.reduceLT, Int.reduceLE, Int.reduceEq, Nat.reduceEqDiff]
  refine ACallsK.eq (kCa _) ?_
  simp -implicitDefEqProofs (disch := first | assumption | decide | omega | (simp only [wpD1] <;> omega) | (simp only [wpD2] <;> assumption) | solve_by_elim [zR, zP, zV] | fail) only [↓wpPre, wpPost, wpPoly, Int.reduceToNat, Int.reducePow, Int.reduceMul, Int.reduceAdd, Int.reduceSub, Int.reduceNeg, Nat.reduceAdd, Nat.reduceMul, Nat.reducePow, Int.reduceLT, Int.reduceLE, Int.reduceEq, Nat.reduceEqDiff, e1, e7, e10, e12, e16, e17, e18, e19, e20, e21]
  exact ⟨_, ⟨sD.push _, n + 1, by rw [← hw2]; exact ws.symm, by omega, by omega, rfl⟩, by omega⟩
 ·obtain rfl : n = k + 1 := by omega
  simp -implicitDefEqProofs (disch := first | assumption | decide | omega | (simp only [wpD1] <;> omega) | (simp only [wpD2] <;> assumption) | solve_by_elim [zR, zP, zV] | fail) only [↓wpPre, wpPost, wpPoly, Int.reduceToNat, Int.reducePow, Int.reduceMul, Int.reduceAdd, Int.reduceSub, Int.reduceNeg, Nat.reduceAdd, Nat.reduceMul, Nat.reducePow, Int.reduceLT, Int.reduceLE, Int.reduceEq, Nat.reduceEqDiff, e1, e7, e10, e12, e16, e17, e18, e19, e20, e21, g17, g18, gV_u, eqs_two_f, eb1]
  exact congrArg AV.bool (decide_eq_true s2)
end
end Go.Ae
