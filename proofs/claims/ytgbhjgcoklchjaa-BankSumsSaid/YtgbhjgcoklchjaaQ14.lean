/- Texts of the proof, part 14: a second reading of the lowered code, proved sound, and what the functions compute. -/
import Derived.Sort.Row
import Derived.Sort.Grow
import Derived.Test.YtgbhjgcoklchjaaQ13

/- Go's sort of a list of numbers, as the library's contract tells it. -/
set_option linter.unusedSimpArgs false
set_option linter.unusedVariables false
namespace Go.Ae
open Go.Sort
def sortL (l : List Int) : List Int := l.mergeSort fun x y => decide (x ≤ y)
def SortOk (C : Ctx) (g : Nat) : Prop := Enters C.P (C.lk g) ∧ ∀ (blk off cap : Nat) (zs : List Int) (w : World), Holds (Value.int .i64) w blk off zs.toArray → blk < w.heap.size → zs.length < 4611686018427387904 →
  Calls C.P (C.lk g) #[.slice (some ⟨blk, off, none⟩) zs.length cap] w fun e w' => e = .returned (.tuple #[]) ∧ ∃ n os, w' = grow (putRow (Value.int .i64) (Go.Sort.ahead w n) blk off (zs.mergeSort fun x y => decide (x ≤ y)).toArray) os
end Go.Ae

/- Absolute values, sums and bounds of lists. -/
set_option linter.unusedSimpArgs false
set_option linter.unusedVariables false
namespace Go.Ae
def absI (x : Int) : Int := max x (-x)
def sumAbs : List Int → Int
  | [] => 0
  | x :: l => absI x + sumAbs l
def maxAbs : List Int → Int
  | [] => 0
  | x :: l => max (absI x) (maxAbs l)
def small (l : List Int) : Prop := ∀ x ∈ l, -1000000 ≤ x ∧ x ≤ 1000000
def bigs (x : Int) : Bool := decide (x < -1000000 ∨ 1000000 < x)
end Go.Ae

/- Circular sums of the reference of layer 9. -/
set_option linter.unusedSimpArgs false
set_option linter.unusedVariables false
namespace Go.Ae

def cs (a b : List Int) (k : Nat) : Nat → Int
  | 0 => 0
  | i + 1 => cs a b k i + a.getD i 0 * b.getD ((i + k) % b.length) 0
def circ (a b : List Int) : List Int := (List.range a.length).map fun k => cs a b k a.length
def cpre (a b : List Int) (k i n : Nat) : Int := if n < k then cs a b n a.length else if n = k then cs a b k i else 0

section
variable {C : Ctx}
end
end Go.Ae

/- Circular of the references. -/
set_option linter.unusedSimpArgs false
set_option linter.unusedVariables false
namespace Go.Ae

def circErr (a b : List Int) : Int :=
  if a.length = 0 then 3 else if 8192 < a.length then 4 else if a.length ≠ b.length then 10 else if a.any bigs = true ∨ b.any bigs = true then 2 else 0

section
variable {C : Ctx}
end
end Go.Ae

/- Circular of the program's package cross. -/
set_option linter.unusedSimpArgs false
set_option linter.unusedVariables false
namespace Go.Ae
section
variable {C : Ctx}
end
end Go.Ae

/- Spectra, in plain numbers: how often the circular sums occur. -/
set_option linter.unusedSimpArgs false
set_option linter.unusedVariables false
namespace Go.Ae
def stepR (acc : List (Int × Int)) (x : Int) : List (Int × Int) :=
  if 0 < acc.length ∧ (acc.getD (acc.length - 1) (0, 0)).1 = x then acc.set (acc.length - 1) (x, (acc.getD (acc.length - 1) (0, 0)).2 + 1) else acc ++ [(x, 1)]
def rleL (l : List Int) (k : Nat) : List (Int × Int) := (l.take k).foldl stepR []
def cntL (l : List Int) (v : Int) : Nat → Int
  | 0 => 0
  | k + 1 => cntL l v k + if l.getD k 0 = v then 1 else 0
def specK (l : List Int) (n : Nat) : Nat → List (Int × Int)
  | 0 => []
  | k + 1 => specK l n k ++ if 0 < cntL l ((k : Int) - n) l.length then [((k : Int) - n, cntL l ((k : Int) - n) l.length)] else []
end Go.Ae

/- Counting behind sorting is counting by values. -/
set_option linter.unusedSimpArgs false
set_option linter.unusedVariables false
namespace Go.Ae
def repL (l : List Int) (n : Nat) : Nat → List Int
  | 0 => []
  | k + 1 => repL l n k ++ List.replicate (l.count ((k : Int) - n)) ((k : Int) - n)
end Go.Ae

/- The spectrum of two codes, of the program. -/
set_option linter.unusedSimpArgs false
set_option linter.unusedVariables false
namespace Go.Ae
theorem GrwS.at {h0 h : Heap} {v : AV} {l : List (Int × Int)} (A : GrwS h0 h v l) (hl : 0 < l.length) : ∃ i ex, h0.size ≤ i ∧ v = .slice i 0 l.length (.unk 0) ∧ h.get i = some (.cells (smps l ++ ex) true 2) := by
  obtain ⟨_, _, _, ⟨_, h1⟩ | ⟨i, ex, hi, hv, hg⟩⟩ := A
  · omega
  · exact ⟨i, ex, hi, hv, hg⟩
def specOut (d p q : Int) : List (Int × Int) := rleL (sortL (circ (sampL d p 1) (sampL d q 1))) (lenN d)
section
variable {C : Ctx}
end
end Go.Ae

/- The spectrum of two codes, of the reference. -/
set_option linter.unusedSimpArgs false
set_option linter.unusedVariables false
namespace Go.Ae
section
variable {C : Ctx}
end
end Go.Ae

/- Lists of lists of numbers, read and compared; pairs as lists. -/
set_option linter.unusedSimpArgs false
set_option linter.unusedVariables false
namespace Go.Ae
def LLI (h : Heap) (v : AV) (ll : List (List Int)) : Prop := ∃ vs : List AV, SL h 1 v ll.length vs ∧ vs.length = ll.length ∧ ∀ i, i < ll.length → RI h (vs.getD i .nilslice) (ll.getD i [])
theorem LLI.mono {h h' : Heap} {v : AV} {ll : List (List Int)} (H : LLI h v ll) (hs : HSub h h') : LLI h' v ll := by
  obtain ⟨vs, a, b, c⟩ := H
  exact ⟨vs, a.mono hs, b, fun i hi => (c i hi).mono hs⟩
theorem LLI.len {h : Heap} {v : AV} {ll : List (List Int)} (H : LLI h v ll) : lenA v = some (.int .i64 ll.length) := by obtain ⟨vs, a, _, _⟩ := H; exact a.len
theorem LLI.nil {h : Heap} : LLI h .nilslice [] := ⟨[], ⟨rfl, by decide, .inl ⟨rfl, rfl⟩⟩, rfl, fun i hi => by simp at hi⟩
theorem LLI.at {h : Heap} {v : AV} {ll : List (List Int)} (H : LLI h v ll) {i : Nat} (hi : i < ll.length) : ∃ w, idxA 1 v (.int .i64 (i : Nat)) = some (elA 1 v i) ∧ loadA h false 1 (elA 1 v i) = some w ∧ RI h w (ll.getD i []) := by
  obtain ⟨vs, a, b, c⟩ := H
  refine ⟨vs.getD i .nilslice, a.idx ⟨by omega, by omega⟩, ?_, c i hi⟩
  rw [SL.load1 a hi]
  simp [show i < vs.length by omega]
section
variable {C : Ctx}
def pairL (l : List (Int × Int)) : List (List Int) := l.map fun p => [p.1, p.2]
def Two (h0 h : Heap) (v w : AV) (p : Int × Int) : Prop := ∃ j, h0.size ≤ j ∧ w = .slice j 0 2 (.known 2) ∧ h.get j = some (.cells [.int .i64 p.1, .int .i64 p.2] true 0) ∧ j ∉ v.ids
end
end Go.Ae

/- Examples of layer 9, by contracts. -/
set_option linter.unusedSimpArgs false
set_option linter.unusedVariables false
namespace Go.Ae
section
variable {C : Ctx}
end
end Go.Ae

/- The statement on parts of placements of layer 9. -/
set_option linter.unusedSimpArgs false
set_option linter.unusedVariables false
namespace Go.Ae
section
variable {C : Ctx}
end
end Go.Ae

/- The statements on spins and on sums, of layer 14. -/
set_option linter.unusedSimpArgs false
set_option linter.unusedVariables false
namespace Go.Ae
def cdL : List (Int × Int) := (sampL 5 1 1).map fun x => (x, 0)
def cdK (k : Nat) : List (Int × Int) := (List.range k).map fun i => ((sampL 5 1 1).getD i 0, 0)
theorem cdK_succ (k : Nat) : cdK (k + 1) = cdK k ++ [((sampL 5 1 1).getD k 0, 0)] := by simp [cdK, List.range_succ]
theorem cdK_length (k : Nat) : (cdK k).length = k := by simp [cdK]
theorem cdL_eq : cdK (sampL 5 1 1).length = cdL := by
  refine List.ext_getElem (by simp [cdK, cdL]) fun i h1 h2 => ?_
  simp [cdK, cdL] at h1 h2 ⊢
  simp [List.getElem?_eq_getElem h2]
theorem k_code : sampErr 5 1 [1] = 0 ∧ (sampL 5 1 1).length = 31 := by decide +kernel
theorem k_sum0 : bankErr cdL 5 1 1 0 = 0 ∧ sumP cdL (sampL 5 1 1) 0 = (31, 0) := by decide +kernel
theorem k_sum1 : bankErr cdL 5 1 1 1 = 0 ∧ sumP cdL (sampL 5 1 1) 1 = (0, 0) := by decide +kernel
theorem k_spin0 : smE [(1, 0), (0, 1)] 16 = 0 ∧ spinK [(1, 0), (0, 1)] 1073741824 [((1 : Int), (0 : Int)), (0, 1)].length = (254, 0) := by decide +kernel
theorem k_spin : spinE [(1, 0), (0, 1)] 1073741824 = .tuple [smp (254, 0), .int .i64 0] := by
  unfold spinE
  rw [if_pos k_spin0.1, k_spin0.2]
theorem k_bs0 : bsumE cdL 5 1 1 0 = .tuple [smp (31, 0), .int .i64 0] := by
  have e : (1 : Int).toNat = 1 := rfl
  unfold bsumE
  rw [if_pos k_sum0.1, e, k_sum0.2]
theorem k_bs1 : bsumE cdL 5 1 1 1 = .tuple [smp (0, 0), .int .i64 0] := by
  have e : (1 : Int).toNat = 1 := rfl
  unfold bsumE
  rw [if_pos k_sum1.1, e, k_sum1.2]
section
variable {C : Ctx}
theorem code283_spec (hC : Has C T283) {h : Heap} : ACalls C 283 [] h (fun r h' => HSub h h' ∧ SI h' r cdL) := by
  have kS := fun h1 => SamplesR_spec (hC.sub (T' := T169) (by decide)) (d := 5) (o := 1) (p := 1) (h := h1) (by unfold In64; omega) (by unfold In64; omega) (by unfold In64; omega)
  rw [k_code.1, if_pos rfl] at kS
  have kl := k_code.2
  have e1 : (1 : Int).toNat = 1 := rfl
  rw [e1] at kS
  have ce := cdL_eq
  have cs := cdK_succ
  generalize sampL 5 1 1 = c at *
  (refine calls_intro (hC.body (by decide) tab283) (Nat.le_of_ble_eq_true rfl) ?_); (show wp C _ none B283.code _ _); (simp only [B283]); simp -implicitDefEqProofs (disch := first | assumption | decide | omega | (simp only [wpD1] <;> omega) | (simp only [wpD2] <;> assumption) | solve_by_elim [HSub.refl, HSub.push, HSub.reserve] | fail) only [↓wpPre, wpPost, wpPoly, Int.reduceToNat, Int.reducePow, Int.reduceMul, Int.reduceAdd, Int.reduceSub, Int.reduceNeg, Nat.reduceAdd, Nat.reduceMul, Nat.reducePow, Int.reduceLT, Int.reduceLE, Int.reduceEq, Nat.reduceEqDiff]
  refine ACallsK.of (kS _) ?_
  rintro r h1 ⟨w, rfl, s1, R⟩
  simp -implicitDefEqProofs (disch := first | assumption | decide | omega | (simp only [wpD1] <;> omega) | (simp only [wpD2] <;> assumption) | solve_by_elim [HSub.refl, HSub.push, HSub.reserve] | fail) only [↓wpPre, wpPost, wpPoly, Int.reduceToNat, Int.reducePow, Int.reduceMul, Int.reduceAdd, Int.reduceSub, Int.reduceNeg, Nat.reduceAdd, Nat.reduceMul, Nat.reducePow, Int.reduceLT, Int.reduceLE, Int.reduceEq, Nat.reduceEqDiff, lstErr]
  refine wp_loopI (fun j t h' => ∃ k : Nat, GrwS h1 h' (t 3) (cdK k) ∧ t 1 = w ∧ t 4 = .int .i64 (k : Nat) ∧ k ≤ c.length ∧ j = c.length - k) (j0 := c.length)
    ⟨0, GrwS.nil _, rfl, rfl, by omega, rfl⟩ ?_
  rintro j t h2 ⟨k, A, e1, e4, hk, hj⟩
  have Rl := R.mono A.sub
  simp -implicitDefEqProofs (disch := first | assumption | decide | omega | (simp only [wpD1] <;> omega) | (simp only [wpD2] <;> assumption) | solve_by_elim [HSub.refl, HSub.push, HSub.reserve] | fail) only [↓wpPre, wpPost, wpPoly, Int.reduceToNat, Int.reducePow, Int.reduceMul, Int.reduceAdd, Int.reduceSub, Int.reduceNeg, Nat.reduceAdd, Nat.reduceMul, Nat.reducePow, Int.reduceLT, Int.reduceLE, Int.reduceEq, Nat.reduceEqDiff, e1, e4, Rl.len]
  refine Br.by (fun c3 => ?_) (fun c3 => ?_)
  · have hk' : k < c.length := by omega
    have cs := cs k
    have cl := cdK_length k
    have ld := Rl.load hk'
    generalize c.getD k 0 = x at *
    have ap := A.app (x := x) (y := 0)
    have Ac := A.snoc (x := x) (y := 0) (HSub.push1 h2 (.cells [.int .i64 x, .int .i64 0] true 0)) (by omega)
    rw [← cs] at Ac
    simp -implicitDefEqProofs (disch := first | assumption | decide | omega | (simp only [wpD1] <;> omega) | (simp only [wpD2] <;> assumption) | solve_by_elim [HSub.refl, HSub.push, HSub.reserve] | fail) only [↓wpPre, wpPost, wpPoly, Int.reduceToNat, Int.reducePow, Int.reduceMul, Int.reduceAdd, Int.reduceSub, Int.reduceNeg, Nat.reduceAdd, Nat.reduceMul, Nat.reducePow, Int.reduceLT, Int.reduceLE, Int.reduceEq, Nat.reduceEqDiff, e1, e4, Rl.idx, ld, cont_slice, contB_two, ap, ← cs]
    exact ⟨_, ⟨k + 1, Ac, by simp, by omega, rfl⟩, by omega⟩
  · have ek : k = c.length := by omega
    subst ek
    rw [ce] at A
    simp -implicitDefEqProofs (disch := first | assumption | decide | omega | (simp only [wpD1] <;> omega) | (simp only [wpD2] <;> assumption) | solve_by_elim [HSub.refl, HSub.push, HSub.reserve] | fail) only [↓wpPre, wpPost, wpPoly, Int.reduceToNat, Int.reducePow, Int.reduceMul, Int.reduceAdd, Int.reduceSub, Int.reduceNeg, Nat.reduceAdd, Nat.reduceMul, Nat.reducePow, Int.reduceLT, Int.reduceLE, Int.reduceEq, Nat.reduceEqDiff]
    exact ⟨s1.trans A.sub, A.si⟩
set_option maxHeartbeats 1000000 in
theorem awake267_spec (hC : Has C T267) {h : Heap} : ACalls C 267 [] h (fun r h' => r = .bool true ∧ h' = h) := by
  refine ACalls.gc0 (P := fun r h' => r = .bool true ∧ HSub h h') ?_ (fun r h' hp => ⟨by rw [hp.1]; trivial, hp.2, hp.1, rfl⟩)
  have kc := fun h => code283_spec (hC.sub (T' := T283) (by decide)) (h := h)
  have k1 := fun (v : AV) h1 (q : SI h1 v cdL) => BSum_spec (hC.sub (T' := T275) (by decide)) (d := 5) (o := 1) (p := 1) (a := 0) q (by unfold In64; omega) (by unfold In64; omega) (by unfold In64; omega) (by unfold In64; omega)
  have k2 := fun (v : AV) h1 (q : SI h1 v cdL) => BSum_spec (hC.sub (T' := T275) (by decide)) (d := 5) (o := 1) (p := 1) (a := 1) q (by unfold In64; omega) (by unfold In64; omega) (by unfold In64; omega) (by unfold In64; omega)
  have k3 := fun (v : AV) h1 (q : SI h1 v [(1, 0), (0, 1)]) => Spin_spec (hC.sub (T' := T268) (by decide)) (st := 1073741824) q (by unfold U32; omega)
  simp only [k_bs0] at k1
  simp only [k_bs1] at k2
  simp only [k_spin] at k3
  unfold smp at k1 k2 k3
  dsimp only at k1 k2 k3
  (refine calls_intro (hC.body (by decide) tab267) (Nat.le_of_ble_eq_true rfl) ?_); (show wp C _ none B267.code _ _); (simp only [B267]); simp -implicitDefEqProofs (disch := first | assumption | decide | omega | (simp only [wpD1] <;> omega) | (simp only [wpD2] <;> assumption) | solve_by_elim [HSub.refl, HSub.push, HSub.reserve] | fail) only [↓wpPre, wpPost, wpPoly, Int.reduceToNat, Int.reducePow, Int.reduceMul, Int.reduceAdd, Int.reduceSub, Int.reduceNeg, Nat.reduceAdd, Nat.reduceMul, Nat.reducePow, Int.reduceLT, Int.reduceLE, Int.reduceEq, Nat.reduceEqDiff]
  refine ACallsK.of (kc _) ?_
  rintro r h1 ⟨s1, R1⟩
  simp -implicitDefEqProofs (disch := first | assumption | decide | omega | (simp only [wpD1] <;> omega) | (simp only [wpD2] <;> assumption) | solve_by_elim [HSub.refl, HSub.push, HSub.reserve] | fail) only [↓wpPre, wpPost, wpPoly, Int.reduceToNat, Int.reducePow, Int.reduceMul, Int.reduceAdd, Int.reduceSub, Int.reduceNeg, Nat.reduceAdd, Nat.reduceMul, Nat.reducePow, Int.reduceLT, Int.reduceLE, Int.reduceEq, Nat.reduceEqDiff]
  refine ACallsK.eq (k1 _ _ R1) ?_
  simp -implicitDefEqProofs (disch := first | assumption | decide | omega | (simp only [wpD1] <;> omega) | (simp only [wpD2] <;> assumption) | solve_by_elim [HSub.refl, HSub.push, HSub.reserve] | fail) only [↓wpPre, wpPost, wpPoly, Int.reduceToNat, Int.reducePow, Int.reduceMul, Int.reduceAdd, Int.reduceSub, Int.reduceNeg, Nat.reduceAdd, Nat.reduceMul, Nat.reducePow, Int.reduceLT, Int.reduceLE, Int.reduceEq, Nat.reduceEqDiff]
  refine ACallsK.of (kc _) ?_
  rintro r2 h2 ⟨s2, R2⟩
  have s0 := (s1.push (.cells [.int .i64 31, .int .i64 0] true 0)).trans s2
  have g1 : h2.get h1.size = some (.cells [.int .i64 31, .int .i64 0] true 0) := (s2.get _ (by simp)).trans (get_push_eq rfl)
  have z2 : h1.size < h2.size := by have := s2.size; simp only [Heap.size_push] at this; omega
  simp -implicitDefEqProofs (disch := first | assumption | decide | omega | (simp only [wpD1] <;> omega) | (simp only [wpD2] <;> assumption) | solve_by_elim [HSub.refl, HSub.push, HSub.reserve] | fail) only [↓wpPre, wpPost, wpPoly, Int.reduceToNat, Int.reducePow, Int.reduceMul, Int.reduceAdd, Int.reduceSub, Int.reduceNeg, Nat.reduceAdd, Nat.reduceMul, Nat.reducePow, Int.reduceLT, Int.reduceLE, Int.reduceEq, Nat.reduceEqDiff]
  refine ACallsK.eq (k2 _ _ R2) ?_
  simp -implicitDefEqProofs (disch := first | assumption | decide | omega | (simp only [wpD1] <;> omega) | (simp only [wpD2] <;> assumption) | solve_by_elim [HSub.refl, HSub.push, HSub.reserve] | fail) only [↓wpPre, wpPost, wpPoly, Int.reduceToNat, Int.reducePow, Int.reduceMul, Int.reduceAdd, Int.reduceSub, Int.reduceNeg, Nat.reduceAdd, Nat.reduceMul, Nat.reducePow, Int.reduceLT, Int.reduceLE, Int.reduceEq, Nat.reduceEqDiff]
  refine ACallsK.eq (k3 _ _ ?_) ?_
  · refine SI.known (l := [(1, 0), (0, 1)]) (wr := true) (u := 0) (get_push_eq ?_) ⟨rfl, by decide⟩ (Nat.le_refl _)
    simp -implicitDefEqProofs (disch := first | assumption | decide | omega | (simp only [wpD1] <;> omega) | (simp only [wpD2] <;> assumption) | solve_by_elim [HSub.refl, HSub.push, HSub.reserve] | fail) only [↓wpPre, wpPost, wpPoly, Int.reduceToNat, Int.reducePow, Int.reduceMul, Int.reduceAdd, Int.reduceSub, Int.reduceNeg, Nat.reduceAdd, Nat.reduceMul, Nat.reducePow, Int.reduceLT, Int.reduceLE, Int.reduceEq, Nat.reduceEqDiff]
  simp -implicitDefEqProofs (disch := first | assumption | decide | omega | (simp only [wpD1] <;> omega) | (simp only [wpD2] <;> assumption) | solve_by_elim [HSub.refl, HSub.push, HSub.reserve] | fail) only [↓wpPre, wpPost, wpPoly, Int.reduceToNat, Int.reducePow, Int.reduceMul, Int.reduceAdd, Int.reduceSub, Int.reduceNeg, Nat.reduceAdd, Nat.reduceMul, Nat.reducePow, Int.reduceLT, Int.reduceLE, Int.reduceEq, Nat.reduceEqDiff, g1, eqs_two_f]
  exact (by repeat (first | exact s0 | refine HSub.put ?_ (by (try simp only [Heap.size_put, Heap.size_push, Heap.size_reserve]); omega) _ | refine HSub.push ?_ _ | refine HSub.reserve ?_ _))
end
end Go.Ae

/- The statement on sums, of layer 14. -/
set_option linter.unusedSimpArgs false
set_option linter.unusedVariables false
namespace Go.Ae
section
variable {C : Ctx}
theorem heavy274_spec (hC : Has C T274) {d o : Int} {h : Heap} (hd : In64 d) (ho : In64 o) : ACalls C 274 [.int .i64 d, .int .i64 o] h (fun r h' => (∃ b, r = .bool b) ∧ h' = h) := by
  unfold In64 at hd ho
  by_cases c1 : 4 < d ∧ d < 11
  · by_cases c2 : 0 < o ∧ o < 9
    · have : d = 5 ∨ d = 6 ∨ d = 7 ∨ d = 8 ∨ d = 9 ∨ d = 10 := by omega
      rcases this with rfl | rfl | rfl | rfl | rfl | rfl <;>
      · (refine calls_intro (hC.body (by decide) tab274) (Nat.le_of_ble_eq_true rfl) ?_); (show wp C _ none B274.code _ _); (simp only [B274]); simp -implicitDefEqProofs (disch := first | assumption | decide | omega | (simp only [wpD1] <;> omega) | (simp only [wpD2] <;> assumption) | solve_by_elim [HSub.refl, HSub.push, HSub.reserve] | fail) only [↓wpPre, wpPost, wpPoly, Int.reduceToNat, Int.reducePow, Int.reduceMul, Int.reduceAdd, Int.reduceSub, Int.reduceNeg, Nat.reduceAdd, Nat.reduceMul, Nat.reducePow, Int.reduceLT, Int.reduceLE, Int.reduceEq, Nat.reduceEqDiff]
        exact ⟨_, rfl⟩
    · (refine calls_intro (hC.body (by decide) tab274) (Nat.le_of_ble_eq_true rfl) ?_); (show wp C _ none B274.code _ _); (simp only [B274]); simp -implicitDefEqProofs (disch := first | assumption | decide | omega | (simp only [wpD1] <;> omega) | (simp only [wpD2] <;> assumption) | solve_by_elim [HSub.refl, HSub.push, HSub.reserve] | fail) only [↓wpPre, wpPost, wpPoly, Int.reduceToNat, Int.reducePow, Int.reduceMul, Int.reduceAdd, Int.reduceSub, Int.reduceNeg, Nat.reduceAdd, Nat.reduceMul, Nat.reducePow, Int.reduceLT, Int.reduceLE, Int.reduceEq, Nat.reduceEqDiff]
      (repeat' (first | (refine Br.by (fun _ => ?_) (fun _ => ?_)) | (simp -implicitDefEqProofs (disch := first | assumption | decide | omega | (simp only [wpD1] <;> omega) | (simp only [wpD2] <;> assumption) | solve_by_elim [HSub.refl, HSub.push, HSub.reserve] | fail) only [↓wpPre, wpPost, wpPoly, Int.reduceToNat, Int.reducePow, Int.reduceMul, Int.reduceAdd, Int.reduceSub, Int.reduceNeg, Nat.reduceAdd, Nat.reduceMul, Nat.reducePow, Int.reduceLT, Int.reduceLE, Int.reduceEq, Nat.reduceEqDiff])))
      all_goals first | exact ⟨_, rfl⟩ | (exfalso; omega)
  · (refine calls_intro (hC.body (by decide) tab274) (Nat.le_of_ble_eq_true rfl) ?_); (show wp C _ none B274.code _ _); (simp only [B274]); simp -implicitDefEqProofs (disch := first | assumption | decide | omega | (simp only [wpD1] <;> omega) | (simp only [wpD2] <;> assumption) | solve_by_elim [HSub.refl, HSub.push, HSub.reserve] | fail) only [↓wpPre, wpPost, wpPoly, Int.reduceToNat, Int.reducePow, Int.reduceMul, Int.reduceAdd, Int.reduceSub, Int.reduceNeg, Nat.reduceAdd, Nat.reduceMul, Nat.reducePow, Int.reduceLT, Int.reduceLE, Int.reduceEq, Nat.reduceEqDiff]
    (repeat' (first | (refine Br.by (fun _ => ?_) (fun _ => ?_)) | (simp -implicitDefEqProofs (disch := first | assumption | decide | omega | (simp only [wpD1] <;> omega) | (simp only [wpD2] <;> assumption) | solve_by_elim [HSub.refl, HSub.push, HSub.reserve] | fail) only [↓wpPre, wpPost, wpPoly, Int.reduceToNat, Int.reducePow, Int.reduceMul, Int.reduceAdd, Int.reduceSub, Int.reduceNeg, Nat.reduceAdd, Nat.reduceMul, Nat.reducePow, Int.reduceLT, Int.reduceLE, Int.reduceEq, Nat.reduceEqDiff])))
    all_goals first | exact ⟨_, rfl⟩ | (exfalso; omega)
theorem eqs_six {a b c d e f : Int} : eqsA false [(0, false), (1, false), (2, false), (3, false), (4, false), (5, false)] (.agg [.int .i64 a, .int .i64 b, .int .i64 c, .int .i64 d, .int .i64 e, .int .i64 f]) (.agg [.int .i64 a, .int .i64 b, .int .i64 c, .int .i64 d, .int .i64 e, .int .i64 f]) = some (.bool true) := by
  simp [eqsA, eqCells]
set_option maxHeartbeats 4000000 in
set_option maxRecDepth 20000 in
theorem BankSums_law (hC : Has C T264) {v : AV} {s : List (Int × Int)} {d o p a many half : Int} {h : Heap} (hs : SI h v s) (hd : In64 d) (ho : In64 o) (hp : In64 p) (ha : In64 a) (hm : In64 many) (hh : In64 half) (_hx : ∀ p ∈ s, In64 p.1 ∧ In64 p.2) :
    ACalls C 264 [v, .int .i64 d, .int .i64 o, .int .i64 p, .int .i64 a, .int .i64 many, .int .i64 half] h (fun r _ => r = .bool true) := by
  have hlt := hs.lt
  have aw := fun h => awake267_spec (hC.sub (T' := T267) (by decide)) (h := h)
  have hv := heavy274_spec (hC.sub (T' := T274) (by decide)) (h := h) hd ho
  by_cases c0 : 300 < s.length
  · (refine calls_intro (hC.body (by decide) tab264) (Nat.le_of_ble_eq_true rfl) ?_); (show wp C _ none B264.code _ _); (simp only [B264]); simp -implicitDefEqProofs (disch := first | assumption | decide | omega | (simp only [wpD1] <;> omega) | (simp only [wpD2] <;> assumption) | solve_by_elim [HSub.refl, HSub.push, HSub.reserve] | fail) only [↓wpPre, wpPost, wpPoly, Int.reduceToNat, Int.reducePow, Int.reduceMul, Int.reduceAdd, Int.reduceSub, Int.reduceNeg, Nat.reduceAdd, Nat.reduceMul, Nat.reducePow, Int.reduceLT, Int.reduceLE, Int.reduceEq, Nat.reduceEqDiff, hs.len, gV_u]
    refine ACallsK.eq (aw _) ?_
    simp -implicitDefEqProofs (disch := first | assumption | decide | omega | (simp only [wpD1] <;> omega) | (simp only [wpD2] <;> assumption) | solve_by_elim [HSub.refl, HSub.push, HSub.reserve] | fail) only [↓wpPre, wpPost, wpPoly, Int.reduceToNat, Int.reducePow, Int.reduceMul, Int.reduceAdd, Int.reduceSub, Int.reduceNeg, Nat.reduceAdd, Nat.reduceMul, Nat.reducePow, Int.reduceLT, Int.reduceLE, Int.reduceEq, Nat.reduceEqDiff]
  · (refine calls_intro (hC.body (by decide) tab264) (Nat.le_of_ble_eq_true rfl) ?_); (show wp C _ none B264.code _ _); (simp only [B264]); simp -implicitDefEqProofs (disch := first | assumption | decide | omega | (simp only [wpD1] <;> omega) | (simp only [wpD2] <;> assumption) | solve_by_elim [HSub.refl, HSub.push, HSub.reserve] | fail) only [↓wpPre, wpPost, wpPoly, Int.reduceToNat, Int.reducePow, Int.reduceMul, Int.reduceAdd, Int.reduceSub, Int.reduceNeg, Nat.reduceAdd, Nat.reduceMul, Nat.reducePow, Int.reduceLT, Int.reduceLE, Int.reduceEq, Nat.reduceEqDiff, hs.len, gV_u]
    refine ACallsK.of hv ?_
    rintro r h0 ⟨⟨b, rfl⟩, rfl⟩
    by_cases c1 : b = true ∨ (60 < many ∧ many ≤ 8192)
    · (repeat' (first | (refine Br.by (fun _ => ?_) (fun _ => ?_)) | (simp -implicitDefEqProofs (disch := first | assumption | decide | omega | (simp only [wpD1] <;> omega) | (simp only [wpD2] <;> assumption) | solve_by_elim [HSub.refl, HSub.push, HSub.reserve] | fail) only [↓wpPre, wpPost, wpPoly, Int.reduceToNat, Int.reducePow, Int.reduceMul, Int.reduceAdd, Int.reduceSub, Int.reduceNeg, Nat.reduceAdd, Nat.reduceMul, Nat.reducePow, Int.reduceLT, Int.reduceLE, Int.reduceEq, Nat.reduceEqDiff, gV_u])))
      all_goals first
        | (refine ACallsK.eq (aw _) ?_; (try simp -implicitDefEqProofs (disch := first | assumption | decide | omega | (simp only [wpD1] <;> omega) | (simp only [wpD2] <;> assumption) | solve_by_elim [HSub.refl, HSub.push, HSub.reserve] | fail) only [↓wpPre, wpPost, wpPoly, Int.reduceToNat, Int.reducePow, Int.reduceMul, Int.reduceAdd, Int.reduceSub, Int.reduceNeg, Nat.reduceAdd, Nat.reduceMul, Nat.reducePow, Int.reduceLT, Int.reduceLE, Int.reduceEq, Nat.reduceEqDiff]); done)
        | (exfalso; simp_all; done)
        | (exfalso; omega)
        | (exfalso; simp_all; omega)
    · have b0 : b = false := by cases b <;> simp_all
      subst b0
      have hn : ¬ (64 < many ∧ many ≤ 8192) := by omega
      have c2 : ¬ (60 < many ∧ many ≤ 8192) := by omega
      have k1 := fun h1 (q : HSub h0 h1) => BSum_spec (hC.sub (T' := T275) (by decide)) (hs.mono q) hd ho hp ha
      have k2 := fun h1 (q : HSub h0 h1) => BSumR_spec (hC.sub (T' := T276) (by decide)) (hs.mono q) hd ho hp ha
      have k3 := fun h1 (q : HSub h0 h1) => Bank_spec (hC.sub (T' := T277) (by decide)) (hs.mono q) hd ho hp ha hm hn
      have k4 := fun h1 (q : HSub h0 h1) => BankR_spec (hC.sub (T' := T278) (by decide)) (hs.mono q) hd ho hp ha hm
      have k5 := fun h1 (q : HSub h0 h1) => Windows_spec (hC.sub (T' := T279) (by decide)) (hs.mono q) hd ho hp ha hm
      have k6 := fun h1 (q : HSub h0 h1) => WindowsR_spec (hC.sub (T' := T280) (by decide)) (hs.mono q) hd ho hp ha hm
      have k7 := fun h1 (q : HSub h0 h1) => Three_spec (hC.sub (T' := T281) (by decide)) (hs.mono q) hd ho hp ha hh
      have k8 := fun h1 (q : HSub h0 h1) => ThreeR_spec (hC.sub (T' := T282) (by decide)) (hs.mono q) hd ho hp ha hh
      have xs : ∃ x y e, bsumE s d o p a = .tuple [.agg [.int .i64 x, .int .i64 y], .int .i64 e] := by
        unfold bsumE smp
        split <;> exact ⟨_, _, _, rfl⟩
      obtain ⟨x, y, e, xs⟩ := xs
      simp only [xs] at k1 k2
      have xt : ∃ x1 x2 x3 x4 x5 x6 e, threeE s d o p a half = .tuple [.agg [.int .i64 x1, .int .i64 x2, .int .i64 x3, .int .i64 x4, .int .i64 x5, .int .i64 x6], .int .i64 e] := by
        unfold threeE sums3
        split
        · exact ⟨_, _, _, _, _, _, _, rfl⟩
        · split <;> exact ⟨_, _, _, _, _, _, _, rfl⟩
      obtain ⟨x1, x2, x3, x4, x5, x6, e2, xt⟩ := xt
      simp only [xt] at k7 k8
      by_cases c3 : many > 60
      · have c4 : ¬ many ≤ 8192 := by omega
        simp -implicitDefEqProofs (disch := first | assumption | decide | omega | (simp only [wpD1] <;> omega) | (simp only [wpD2] <;> assumption) | solve_by_elim [HSub.refl, HSub.push, HSub.reserve] | fail) only [↓wpPre, wpPost, wpPoly, Int.reduceToNat, Int.reducePow, Int.reduceMul, Int.reduceAdd, Int.reduceSub, Int.reduceNeg, Nat.reduceAdd, Nat.reduceMul, Nat.reducePow, Int.reduceLT, Int.reduceLE, Int.reduceEq, Nat.reduceEqDiff, gV_u, c3, c4]
        refine ACallsK.eq (k1 _ (HSub.refl _)) ?_
        simp -implicitDefEqProofs (disch := first | assumption | decide | omega | (simp only [wpD1] <;> omega) | (simp only [wpD2] <;> assumption) | solve_by_elim [HSub.refl, HSub.push, HSub.reserve] | fail) only [↓wpPre, wpPost, wpPoly, Int.reduceToNat, Int.reducePow, Int.reduceMul, Int.reduceAdd, Int.reduceSub, Int.reduceNeg, Nat.reduceAdd, Nat.reduceMul, Nat.reducePow, Int.reduceLT, Int.reduceLE, Int.reduceEq, Nat.reduceEqDiff]
        refine ACallsK.eq (k2 _ (HSub.push1 _ _)) ?_
        simp -implicitDefEqProofs (disch := first | assumption | decide | omega | (simp only [wpD1] <;> omega) | (simp only [wpD2] <;> assumption) | solve_by_elim [HSub.refl, HSub.push, HSub.reserve] | fail) only [↓wpPre, wpPost, wpPoly, Int.reduceToNat, Int.reducePow, Int.reduceMul, Int.reduceAdd, Int.reduceSub, Int.reduceNeg, Nat.reduceAdd, Nat.reduceMul, Nat.reducePow, Int.reduceLT, Int.reduceLE, Int.reduceEq, Nat.reduceEqDiff, eqs_two_t]
        refine ACallsK.of (k3 _ ((HSub.push1 _ _).push _)) ?_
        rintro r h1 ⟨v1, rfl, s1, R1⟩
        have s1' := ((HSub.push1 h0 (.cells [.int .i64 x, .int .i64 y] true 0)).push (.cells [.int .i64 x, .int .i64 y] true 0)).trans s1
        simp -implicitDefEqProofs (disch := first | assumption | decide | omega | (simp only [wpD1] <;> omega) | (simp only [wpD2] <;> assumption) | solve_by_elim [HSub.refl, HSub.push, HSub.reserve] | fail) only [↓wpPre, wpPost, wpPoly, Int.reduceToNat, Int.reducePow, Int.reduceMul, Int.reduceAdd, Int.reduceSub, Int.reduceNeg, Nat.reduceAdd, Nat.reduceMul, Nat.reducePow, Int.reduceLT, Int.reduceLE, Int.reduceEq, Nat.reduceEqDiff, lstErr]
        refine ACallsK.of (k4 _ s1') ?_
        rintro r h2 ⟨v2, rfl, s2, R2⟩
        have E1 := Samples_spec (hC.sub (T' := T123) (by decide)) (R1.mono s2) R2
        rw [decide_eq_true rfl] at E1
        have s2' := s1'.trans s2
        simp -implicitDefEqProofs (disch := first | assumption | decide | omega | (simp only [wpD1] <;> omega) | (simp only [wpD2] <;> assumption) | solve_by_elim [HSub.refl, HSub.push, HSub.reserve] | fail) only [↓wpPre, wpPost, wpPoly, Int.reduceToNat, Int.reducePow, Int.reduceMul, Int.reduceAdd, Int.reduceSub, Int.reduceNeg, Nat.reduceAdd, Nat.reduceMul, Nat.reducePow, Int.reduceLT, Int.reduceLE, Int.reduceEq, Nat.reduceEqDiff, lstErr]
        refine ACallsK.eq E1 ?_
        simp -implicitDefEqProofs (disch := first | assumption | decide | omega | (simp only [wpD1] <;> omega) | (simp only [wpD2] <;> assumption) | solve_by_elim [HSub.refl, HSub.push, HSub.reserve] | fail) only [↓wpPre, wpPost, wpPoly, Int.reduceToNat, Int.reducePow, Int.reduceMul, Int.reduceAdd, Int.reduceSub, Int.reduceNeg, Nat.reduceAdd, Nat.reduceMul, Nat.reducePow, Int.reduceLT, Int.reduceLE, Int.reduceEq, Nat.reduceEqDiff, gV_u]
        refine ACallsK.of (k5 _ s2') ?_
        rintro r h3 ⟨v3, rfl, s3, R3⟩
        have s3' := s2'.trans s3
        simp -implicitDefEqProofs (disch := first | assumption | decide | omega | (simp only [wpD1] <;> omega) | (simp only [wpD2] <;> assumption) | solve_by_elim [HSub.refl, HSub.push, HSub.reserve] | fail) only [↓wpPre, wpPost, wpPoly, Int.reduceToNat, Int.reducePow, Int.reduceMul, Int.reduceAdd, Int.reduceSub, Int.reduceNeg, Nat.reduceAdd, Nat.reduceMul, Nat.reducePow, Int.reduceLT, Int.reduceLE, Int.reduceEq, Nat.reduceEqDiff, lstErr]
        refine ACallsK.of (k6 _ s3') ?_
        rintro r h4 ⟨v4, rfl, s4, R4⟩
        have s4' := s3'.trans s4
        simp -implicitDefEqProofs (disch := first | assumption | decide | omega | (simp only [wpD1] <;> omega) | (simp only [wpD2] <;> assumption) | solve_by_elim [HSub.refl, HSub.push, HSub.reserve] | fail) only [↓wpPre, wpPost, wpPoly, Int.reduceToNat, Int.reducePow, Int.reduceMul, Int.reduceAdd, Int.reduceSub, Int.reduceNeg, Nat.reduceAdd, Nat.reduceMul, Nat.reducePow, Int.reduceLT, Int.reduceLE, Int.reduceEq, Nat.reduceEqDiff, lstErr]
        refine ACallsK.eq (k7 _ s4') ?_
        simp -implicitDefEqProofs (disch := first | assumption | decide | omega | (simp only [wpD1] <;> omega) | (simp only [wpD2] <;> assumption) | solve_by_elim [HSub.refl, HSub.push, HSub.reserve] | fail) only [↓wpPre, wpPost, wpPoly, Int.reduceToNat, Int.reducePow, Int.reduceMul, Int.reduceAdd, Int.reduceSub, Int.reduceNeg, Nat.reduceAdd, Nat.reduceMul, Nat.reducePow, Int.reduceLT, Int.reduceLE, Int.reduceEq, Nat.reduceEqDiff]
        refine ACallsK.eq (k8 _ (s4'.push _)) ?_
        simp -implicitDefEqProofs (disch := first | assumption | decide | omega | (simp only [wpD1] <;> omega) | (simp only [wpD2] <;> assumption) | solve_by_elim [HSub.refl, HSub.push, HSub.reserve] | fail) only [↓wpPre, wpPost, wpPoly, Int.reduceToNat, Int.reducePow, Int.reduceMul, Int.reduceAdd, Int.reduceSub, Int.reduceNeg, Nat.reduceAdd, Nat.reduceMul, Nat.reducePow, Int.reduceLT, Int.reduceLE, Int.reduceEq, Nat.reduceEqDiff]
        have E2 := fun h5 (q : HSub h4 h5) => Samples_spec (hC.sub (T' := T123) (by decide)) (R3.mono (s4.trans q)) (R4.mono q)
        simp only [decide_true] at E2
        refine ACallsK.eq (E2 _ ((HSub.push1 _ _).push _)) ?_
        simp -implicitDefEqProofs (disch := first | assumption | decide | omega | (simp only [wpD1] <;> omega) | (simp only [wpD2] <;> assumption) | solve_by_elim [HSub.refl, HSub.push, HSub.reserve] | fail) only [↓wpPre, wpPost, wpPoly, Int.reduceToNat, Int.reducePow, Int.reduceMul, Int.reduceAdd, Int.reduceSub, Int.reduceNeg, Nat.reduceAdd, Nat.reduceMul, Nat.reducePow, Int.reduceLT, Int.reduceLE, Int.reduceEq, Nat.reduceEqDiff, eqs_six]
        refine ACallsK.eq (aw _) ?_
        simp -implicitDefEqProofs (disch := first | assumption | decide | omega | (simp only [wpD1] <;> omega) | (simp only [wpD2] <;> assumption) | solve_by_elim [HSub.refl, HSub.push, HSub.reserve] | fail) only [↓wpPre, wpPost, wpPoly, Int.reduceToNat, Int.reducePow, Int.reduceMul, Int.reduceAdd, Int.reduceSub, Int.reduceNeg, Nat.reduceAdd, Nat.reduceMul, Nat.reducePow, Int.reduceLT, Int.reduceLE, Int.reduceEq, Nat.reduceEqDiff]
      · have c4 : True := trivial
        simp -implicitDefEqProofs (disch := first | assumption | decide | omega | (simp only [wpD1] <;> omega) | (simp only [wpD2] <;> assumption) | solve_by_elim [HSub.refl, HSub.push, HSub.reserve] | fail) only [↓wpPre, wpPost, wpPoly, Int.reduceToNat, Int.reducePow, Int.reduceMul, Int.reduceAdd, Int.reduceSub, Int.reduceNeg, Nat.reduceAdd, Nat.reduceMul, Nat.reducePow, Int.reduceLT, Int.reduceLE, Int.reduceEq, Nat.reduceEqDiff, gV_u, c3]
        refine ACallsK.eq (k1 _ (HSub.refl _)) ?_
        simp -implicitDefEqProofs (disch := first | assumption | decide | omega | (simp only [wpD1] <;> omega) | (simp only [wpD2] <;> assumption) | solve_by_elim [HSub.refl, HSub.push, HSub.reserve] | fail) only [↓wpPre, wpPost, wpPoly, Int.reduceToNat, Int.reducePow, Int.reduceMul, Int.reduceAdd, Int.reduceSub, Int.reduceNeg, Nat.reduceAdd, Nat.reduceMul, Nat.reducePow, Int.reduceLT, Int.reduceLE, Int.reduceEq, Nat.reduceEqDiff]
        refine ACallsK.eq (k2 _ (HSub.push1 _ _)) ?_
        simp -implicitDefEqProofs (disch := first | assumption | decide | omega | (simp only [wpD1] <;> omega) | (simp only [wpD2] <;> assumption) | solve_by_elim [HSub.refl, HSub.push, HSub.reserve] | fail) only [↓wpPre, wpPost, wpPoly, Int.reduceToNat, Int.reducePow, Int.reduceMul, Int.reduceAdd, Int.reduceSub, Int.reduceNeg, Nat.reduceAdd, Nat.reduceMul, Nat.reducePow, Int.reduceLT, Int.reduceLE, Int.reduceEq, Nat.reduceEqDiff, eqs_two_t]
        refine ACallsK.of (k3 _ ((HSub.push1 _ _).push _)) ?_
        rintro r h1 ⟨v1, rfl, s1, R1⟩
        have s1' := ((HSub.push1 h0 (.cells [.int .i64 x, .int .i64 y] true 0)).push (.cells [.int .i64 x, .int .i64 y] true 0)).trans s1
        simp -implicitDefEqProofs (disch := first | assumption | decide | omega | (simp only [wpD1] <;> omega) | (simp only [wpD2] <;> assumption) | solve_by_elim [HSub.refl, HSub.push, HSub.reserve] | fail) only [↓wpPre, wpPost, wpPoly, Int.reduceToNat, Int.reducePow, Int.reduceMul, Int.reduceAdd, Int.reduceSub, Int.reduceNeg, Nat.reduceAdd, Nat.reduceMul, Nat.reducePow, Int.reduceLT, Int.reduceLE, Int.reduceEq, Nat.reduceEqDiff, lstErr]
        refine ACallsK.of (k4 _ s1') ?_
        rintro r h2 ⟨v2, rfl, s2, R2⟩
        have E1 := Samples_spec (hC.sub (T' := T123) (by decide)) (R1.mono s2) R2
        rw [decide_eq_true rfl] at E1
        have s2' := s1'.trans s2
        simp -implicitDefEqProofs (disch := first | assumption | decide | omega | (simp only [wpD1] <;> omega) | (simp only [wpD2] <;> assumption) | solve_by_elim [HSub.refl, HSub.push, HSub.reserve] | fail) only [↓wpPre, wpPost, wpPoly, Int.reduceToNat, Int.reducePow, Int.reduceMul, Int.reduceAdd, Int.reduceSub, Int.reduceNeg, Nat.reduceAdd, Nat.reduceMul, Nat.reducePow, Int.reduceLT, Int.reduceLE, Int.reduceEq, Nat.reduceEqDiff, lstErr]
        refine ACallsK.eq E1 ?_
        simp -implicitDefEqProofs (disch := first | assumption | decide | omega | (simp only [wpD1] <;> omega) | (simp only [wpD2] <;> assumption) | solve_by_elim [HSub.refl, HSub.push, HSub.reserve] | fail) only [↓wpPre, wpPost, wpPoly, Int.reduceToNat, Int.reducePow, Int.reduceMul, Int.reduceAdd, Int.reduceSub, Int.reduceNeg, Nat.reduceAdd, Nat.reduceMul, Nat.reducePow, Int.reduceLT, Int.reduceLE, Int.reduceEq, Nat.reduceEqDiff, gV_u]
        refine ACallsK.of (k5 _ s2') ?_
        rintro r h3 ⟨v3, rfl, s3, R3⟩
        have s3' := s2'.trans s3
        simp -implicitDefEqProofs (disch := first | assumption | decide | omega | (simp only [wpD1] <;> omega) | (simp only [wpD2] <;> assumption) | solve_by_elim [HSub.refl, HSub.push, HSub.reserve] | fail) only [↓wpPre, wpPost, wpPoly, Int.reduceToNat, Int.reducePow, Int.reduceMul, Int.reduceAdd, Int.reduceSub, Int.reduceNeg, Nat.reduceAdd, Nat.reduceMul, Nat.reducePow, Int.reduceLT, Int.reduceLE, Int.reduceEq, Nat.reduceEqDiff, lstErr]
        refine ACallsK.of (k6 _ s3') ?_
        rintro r h4 ⟨v4, rfl, s4, R4⟩
        have s4' := s3'.trans s4
        simp -implicitDefEqProofs (disch := first | assumption | decide | omega | (simp only [wpD1] <;> omega) | (simp only [wpD2] <;> assumption) | solve_by_elim [HSub.refl, HSub.push, HSub.reserve] | fail) only [↓wpPre, wpPost, wpPoly, Int.reduceToNat, Int.reducePow, Int.reduceMul, Int.reduceAdd, Int.reduceSub, Int.reduceNeg, Nat.reduceAdd, Nat.reduceMul, Nat.reducePow, Int.reduceLT, Int.reduceLE, Int.reduceEq, Nat.reduceEqDiff, lstErr]
        refine ACallsK.eq (k7 _ s4') ?_
        simp -implicitDefEqProofs (disch := first | assumption | decide | omega | (simp only [wpD1] <;> omega) | (simp only [wpD2] <;> assumption) | solve_by_elim [HSub.refl, HSub.push, HSub.reserve] | fail) only [↓wpPre, wpPost, wpPoly, Int.reduceToNat, Int.reducePow, Int.reduceMul, Int.reduceAdd, Int.reduceSub, Int.reduceNeg, Nat.reduceAdd, Nat.reduceMul, Nat.reducePow, Int.reduceLT, Int.reduceLE, Int.reduceEq, Nat.reduceEqDiff]
        refine ACallsK.eq (k8 _ (s4'.push _)) ?_
        simp -implicitDefEqProofs (disch := first | assumption | decide | omega | (simp only [wpD1] <;> omega) | (simp only [wpD2] <;> assumption) | solve_by_elim [HSub.refl, HSub.push, HSub.reserve] | fail) only [↓wpPre, wpPost, wpPoly, Int.reduceToNat, Int.reducePow, Int.reduceMul, Int.reduceAdd, Int.reduceSub, Int.reduceNeg, Nat.reduceAdd, Nat.reduceMul, Nat.reducePow, Int.reduceLT, Int.reduceLE, Int.reduceEq, Nat.reduceEqDiff]
        have E2 := fun h5 (q : HSub h4 h5) => Samples_spec (hC.sub (T' := T123) (by decide)) (R3.mono (s4.trans q)) (R4.mono q)
        simp only [decide_true] at E2
        refine ACallsK.eq (E2 _ ((HSub.push1 _ _).push _)) ?_
        simp -implicitDefEqProofs (disch := first | assumption | decide | omega | (simp only [wpD1] <;> omega) | (simp only [wpD2] <;> assumption) | solve_by_elim [HSub.refl, HSub.push, HSub.reserve] | fail) only [↓wpPre, wpPost, wpPoly, Int.reduceToNat, Int.reducePow, Int.reduceMul, Int.reduceAdd, Int.reduceSub, Int.reduceNeg, Nat.reduceAdd, Nat.reduceMul, Nat.reducePow, Int.reduceLT, Int.reduceLE, Int.reduceEq, Nat.reduceEqDiff, eqs_six]
        refine ACallsK.eq (aw _) ?_
        simp -implicitDefEqProofs (disch := first | assumption | decide | omega | (simp only [wpD1] <;> omega) | (simp only [wpD2] <;> assumption) | solve_by_elim [HSub.refl, HSub.push, HSub.reserve] | fail) only [↓wpPre, wpPost, wpPoly, Int.reduceToNat, Int.reducePow, Int.reduceMul, Int.reduceAdd, Int.reduceSub, Int.reduceNeg, Nat.reduceAdd, Nat.reduceMul, Nat.reducePow, Int.reduceLT, Int.reduceLE, Int.reduceEq, Nat.reduceEqDiff]
end
end Go.Ae
