/- Texts of the proof, part 13: a second reading of the lowered code, proved sound, and what the functions compute. -/
import Derived.Sort.Row
import Derived.Sort.Grow
import Derived.Test.YtgbhjgcoklchjaaR12

/- Go's sort of a list of numbers, as the library's contract tells it. -/
set_option linter.unusedSimpArgs false
set_option linter.unusedVariables false
namespace Go.Ae
open Go.Sort
def sortL (l : List Int) : List Int := l.mergeSort fun x y => decide (x ≤ y)
def SortOk (C : Ctx) (g : Nat) : Prop := Enters C.P (C.lk g) ∧ ∀ (blk off cap : Nat) (zs : List Int) (w : World), Holds (Value.int .i64) w blk off zs.toArray → blk < w.heap.size → zs.length < 4611686018427387904 →
  Calls C.P (C.lk g) #[.slice (some ⟨blk, off, none⟩) zs.length cap] w fun e w' => e = .returned (.tuple #[]) ∧ ∃ n os, w' = grow (putRow (Value.int .i64) (Go.Sort.ahead w n) blk off (zs.mergeSort fun x y => decide (x ≤ y)).toArray) os
end Go.Ae

/- Absolute values, sums and bounds of lists. -/
set_option linter.unusedSimpArgs false
set_option linter.unusedVariables false
namespace Go.Ae
def absI (x : Int) : Int := max x (-x)
def sumAbs : List Int → Int
  | [] => 0
  | x :: l => absI x + sumAbs l
def maxAbs : List Int → Int
  | [] => 0
  | x :: l => max (absI x) (maxAbs l)
def small (l : List Int) : Prop := ∀ x ∈ l, -1000000 ≤ x ∧ x ≤ 1000000
def bigs (x : Int) : Bool := decide (x < -1000000 ∨ 1000000 < x)
end Go.Ae

/- Circular sums of the reference of layer 9. -/
set_option linter.unusedSimpArgs false
set_option linter.unusedVariables false
namespace Go.Ae

def cs (a b : List Int) (k : Nat) : Nat → Int
  | 0 => 0
  | i + 1 => cs a b k i + a.getD i 0 * b.getD ((i + k) % b.length) 0
def circ (a b : List Int) : List Int := (List.range a.length).map fun k => cs a b k a.length
def cpre (a b : List Int) (k i n : Nat) : Int := if n < k then cs a b n a.length else if n = k then cs a b k i else 0

section
variable {C : Ctx}
end
end Go.Ae

/- Circular of the references. -/
set_option linter.unusedSimpArgs false
set_option linter.unusedVariables false
namespace Go.Ae

def circErr (a b : List Int) : Int :=
  if a.length = 0 then 3 else if 8192 < a.length then 4 else if a.length ≠ b.length then 10 else if a.any bigs = true ∨ b.any bigs = true then 2 else 0

section
variable {C : Ctx}
end
end Go.Ae

/- Circular of the program's package cross. -/
set_option linter.unusedSimpArgs false
set_option linter.unusedVariables false
namespace Go.Ae
section
variable {C : Ctx}
end
end Go.Ae

/- Spectra, in plain numbers: how often the circular sums occur. -/
set_option linter.unusedSimpArgs false
set_option linter.unusedVariables false
namespace Go.Ae
def stepR (acc : List (Int × Int)) (x : Int) : List (Int × Int) :=
  if 0 < acc.length ∧ (acc.getD (acc.length - 1) (0, 0)).1 = x then acc.set (acc.length - 1) (x, (acc.getD (acc.length - 1) (0, 0)).2 + 1) else acc ++ [(x, 1)]
def rleL (l : List Int) (k : Nat) : List (Int × Int) := (l.take k).foldl stepR []
def cntL (l : List Int) (v : Int) : Nat → Int
  | 0 => 0
  | k + 1 => cntL l v k + if l.getD k 0 = v then 1 else 0
def specK (l : List Int) (n : Nat) : Nat → List (Int × Int)
  | 0 => []
  | k + 1 => specK l n k ++ if 0 < cntL l ((k : Int) - n) l.length then [((k : Int) - n, cntL l ((k : Int) - n) l.length)] else []
end Go.Ae

/- Counting behind sorting is counting by values. -/
set_option linter.unusedSimpArgs false
set_option linter.unusedVariables false
namespace Go.Ae
def repL (l : List Int) (n : Nat) : Nat → List Int
  | 0 => []
  | k + 1 => repL l n k ++ List.replicate (l.count ((k : Int) - n)) ((k : Int) - n)
end Go.Ae

/- The spectrum of two codes, of the program. -/
set_option linter.unusedSimpArgs false
set_option linter.unusedVariables false
namespace Go.Ae
theorem GrwS.at {h0 h : Heap} {v : AV} {l : List (Int × Int)} (A : GrwS h0 h v l) (hl : 0 < l.length) : ∃ i ex, h0.size ≤ i ∧ v = .slice i 0 l.length (.unk 0) ∧ h.get i = some (.cells (smps l ++ ex) true 2) := by
  obtain ⟨_, _, _, ⟨_, h1⟩ | ⟨i, ex, hi, hv, hg⟩⟩ := A
  · omega
  · exact ⟨i, ex, hi, hv, hg⟩
def specOut (d p q : Int) : List (Int × Int) := rleL (sortL (circ (sampL d p 1) (sampL d q 1))) (lenN d)
section
variable {C : Ctx}
end
end Go.Ae

/- The spectrum of two codes, of the reference. -/
set_option linter.unusedSimpArgs false
set_option linter.unusedVariables false
namespace Go.Ae
section
variable {C : Ctx}
end
end Go.Ae

/- Lists of lists of numbers, read and compared; pairs as lists. -/
set_option linter.unusedSimpArgs false
set_option linter.unusedVariables false
namespace Go.Ae
def LLI (h : Heap) (v : AV) (ll : List (List Int)) : Prop := ∃ vs : List AV, SL h 1 v ll.length vs ∧ vs.length = ll.length ∧ ∀ i, i < ll.length → RI h (vs.getD i .nilslice) (ll.getD i [])
theorem LLI.mono {h h' : Heap} {v : AV} {ll : List (List Int)} (H : LLI h v ll) (hs : HSub h h') : LLI h' v ll := by
  obtain ⟨vs, a, b, c⟩ := H
  exact ⟨vs, a.mono hs, b, fun i hi => (c i hi).mono hs⟩
theorem LLI.len {h : Heap} {v : AV} {ll : List (List Int)} (H : LLI h v ll) : lenA v = some (.int .i64 ll.length) := by obtain ⟨vs, a, _, _⟩ := H; exact a.len
theorem LLI.nil {h : Heap} : LLI h .nilslice [] := ⟨[], ⟨rfl, by decide, .inl ⟨rfl, rfl⟩⟩, rfl, fun i hi => by simp at hi⟩
theorem LLI.at {h : Heap} {v : AV} {ll : List (List Int)} (H : LLI h v ll) {i : Nat} (hi : i < ll.length) : ∃ w, idxA 1 v (.int .i64 (i : Nat)) = some (elA 1 v i) ∧ loadA h false 1 (elA 1 v i) = some w ∧ RI h w (ll.getD i []) := by
  obtain ⟨vs, a, b, c⟩ := H
  refine ⟨vs.getD i .nilslice, a.idx ⟨by omega, by omega⟩, ?_, c i hi⟩
  rw [SL.load1 a hi]
  simp [show i < vs.length by omega]
section
variable {C : Ctx}
def pairL (l : List (Int × Int)) : List (List Int) := l.map fun p => [p.1, p.2]
def Two (h0 h : Heap) (v w : AV) (p : Int × Int) : Prop := ∃ j, h0.size ≤ j ∧ w = .slice j 0 2 (.known 2) ∧ h.get j = some (.cells [.int .i64 p.1, .int .i64 p.2] true 0) ∧ j ∉ v.ids
end
end Go.Ae

/- Examples of layer 9, by contracts. -/
set_option linter.unusedSimpArgs false
set_option linter.unusedVariables false
namespace Go.Ae
section
variable {C : Ctx}
end
end Go.Ae

/- The statement on parts of placements of layer 9. -/
set_option linter.unusedSimpArgs false
set_option linter.unusedVariables false
namespace Go.Ae
section
variable {C : Ctx}
end
end Go.Ae

/- The statements on spins and on sums, of layer 14. -/
set_option linter.unusedSimpArgs false
set_option linter.unusedVariables false
namespace Go.Ae
def cdL : List (Int × Int) := (sampL 5 1 1).map fun x => (x, 0)
def cdK (k : Nat) : List (Int × Int) := (List.range k).map fun i => ((sampL 5 1 1).getD i 0, 0)
theorem cdK_succ (k : Nat) : cdK (k + 1) = cdK k ++ [((sampL 5 1 1).getD k 0, 0)] := by simp [cdK, List.range_succ]
theorem cdK_length (k : Nat) : (cdK k).length = k := by simp [cdK]
theorem cdL_eq : cdK (sampL 5 1 1).length = cdL := by
  refine List.ext_getElem (by simp [cdK, cdL]) fun i h1 h2 => ?_
  simp [cdK, cdL] at h1 h2 ⊢
  simp [List.getElem?_eq_getElem h2]
theorem k_code : sampErr 5 1 [1] = 0 ∧ (sampL 5 1 1).length = 31 := by decide +kernel
theorem k_sum0 : bankErr cdL 5 1 1 0 = 0 ∧ sumP cdL (sampL 5 1 1) 0 = (31, 0) := by decide +kernel
theorem k_sum1 : bankErr cdL 5 1 1 1 = 0 ∧ sumP cdL (sampL 5 1 1) 1 = (0, 0) := by decide +kernel
theorem k_spin0 : smE [(1, 0), (0, 1)] 16 = 0 ∧ spinK [(1, 0), (0, 1)] 1073741824 [((1 : Int), (0 : Int)), (0, 1)].length = (254, 0) := by decide +kernel
theorem k_spin : spinE [(1, 0), (0, 1)] 1073741824 = .tuple [smp (254, 0), .int .i64 0] := by
  unfold spinE
  rw [if_pos k_spin0.1, k_spin0.2]
theorem k_bs0 : bsumE cdL 5 1 1 0 = .tuple [smp (31, 0), .int .i64 0] := by
  have e : (1 : Int).toNat = 1 := rfl
  unfold bsumE
  rw [if_pos k_sum0.1, e, k_sum0.2]
theorem k_bs1 : bsumE cdL 5 1 1 1 = .tuple [smp (0, 0), .int .i64 0] := by
  have e : (1 : Int).toNat = 1 := rfl
  unfold bsumE
  rw [if_pos k_sum1.1, e, k_sum1.2]
section
variable {C : Ctx}
theorem code283_spec (hC : Has C T283) {h : Heap} : ACalls C 283 [] h (fun r h' => HSub h h' ∧ SI h' r cdL) := by
  have kS := fun h1 => SamplesR_spec (hC.sub (T' := T169) (by decide)) (d := 5) (o := 1) (p := 1) (h := h1) (by unfold In64; omega) (by unfold In64; omega) (by unfold In64; omega)
  rw [k_code.1, if_pos rfl] at kS
  have kl := k_code.2
  have e1 : (1 : Int).toNat = 1 := rfl
  rw [e1] at kS
  have ce := cdL_eq
  have cs := cdK_succ
  generalize sampL 5 1 1 = c at *
  (refine calls_intro (hC.body (by decide) tab283) (Nat.le_of_ble_eq_true rfl) ?_); (show wp C _ none B283.code _ _); (simp only [B283]); simp -implicitDefEqProofs (disch := first | assumption | decide | omega | (simp only [wpD1] <;> omega) | (simp only [wpD2] <;> assumption) | solve_by_elim [HSub.refl, HSub.push, HSub.reserve] | fail) only [↓wpPre, wpPost, wpPoly, Int.reduceToNat, Int.reducePow, Int.reduceMul, Int.reduceAdd, Int.reduceSub, Int.reduceNeg, Nat.reduceAdd, Nat.reduceMul, Nat.reducePow, Int.reduceLT, Int.reduceLE, Int.reduceEq, Nat.reduceEqDiff]
  refine ACallsK.of (kS _) ?_
  rintro r h1 ⟨w, rfl, s1, R⟩
  simp -implicitDefEqProofs (disch := first | assumption | decide | omega | (simp only [wpD1] <;> omega) | (simp only [wpD2] <;> assumption) | solve_by_elim [HSub.refl, HSub.push, HSub.reserve] | fail) only [↓wpPre, wpPost, wpPoly, Int.reduceToNat, Int.reducePow, Int.reduceMul, Int.reduceAdd, Int.reduceSub, Int.reduceNeg, Nat.reduceAdd, Nat.reduceMul, Nat.reducePow, Int.reduceLT, Int.reduceLE, Int.reduceEq, Nat.reduceEqDiff, lstErr]
  refine wp_loopI (fun j t h' => ∃ k : Nat, GrwS h1 h' (t 3) (cdK k) ∧ t 1 = w ∧ t 4 = .int .i64 (k : Nat) ∧ k ≤ c.length ∧ j = c.length - k) (j0 := c.length)
    ⟨0, GrwS.nil _, rfl, rfl, by omega, rfl⟩ ?_
  rintro j t h2 ⟨k, A, e1, e4, hk, hj⟩
  have Rl := R.mono A.sub
  simp -implicitDefEqProofs (disch := first | assumption | decide | omega | (simp only [wpD1] <;> omega) | (simp only [wpD2] <;> assumption) | solve_by_elim [HSub.refl, HSub.push, HSub.reserve] | fail) only [↓wpPre, wpPost, wpPoly, Int.reduceToNat, Int.reducePow, Int.reduceMul, Int.reduceAdd, Int.reduceSub, Int.reduceNeg, Nat.reduceAdd, Nat.reduceMul, Nat.reducePow, Int.reduceLT, Int.reduceLE, Int.reduceEq, Nat.reduceEqDiff, e1, e4, Rl.len]
  refine Br.by (fun c3 => ?_) (fun c3 => ?_)
  · have hk' : k < c.length := by omega
    have cs := cs k
    have cl := cdK_length k
    have ld := Rl.load hk'
    generalize c.getD k 0 = x at *
    have ap := A.app (x := x) (y := 0)
    have Ac := A.snoc (x := x) (y := 0) (HSub.push1 h2 (.cells [.int .i64 x, .int .i64 0] true 0)) (by omega)
    rw [← cs] at Ac
    simp -implicitDefEqProofs (disch := first | assumption | decide | omega | (simp only [wpD1] <;> omega) | (simp only [wpD2] <;> assumption) | solve_by_elim [HSub.refl, HSub.push, HSub.reserve] | fail) only [↓wpPre, wpPost, wpPoly, Int.reduceToNat, Int.reducePow, Int.reduceMul, Int.reduceAdd, Int.reduceSub, Int.reduceNeg, Nat.reduceAdd, Nat.reduceMul, Nat.reducePow, Int.reduceLT, Int.reduceLE, Int.reduceEq, Nat.reduceEqDiff, e1, e4, Rl.idx, ld, cont_slice, contB_two, ap, ← cs]
    exact ⟨_, ⟨k + 1, Ac, by simp, by omega, rfl⟩, by omega⟩
  · have ek : k = c.length := by omega
    subst ek
    rw [ce] at A
    simp -implicitDefEqProofs (disch := first | assumption | decide | omega | (simp only [wpD1] <;> omega) | (simp only [wpD2] <;> assumption) | solve_by_elim [HSub.refl, HSub.push, HSub.reserve] | fail) only [↓wpPre, wpPost, wpPoly, Int.reduceToNat, Int.reducePow, Int.reduceMul, Int.reduceAdd, Int.reduceSub, Int.reduceNeg, Nat.reduceAdd, Nat.reduceMul, Nat.reducePow, Int.reduceLT, Int.reduceLE, Int.reduceEq, Nat.reduceEqDiff]
    exact ⟨s1.trans A.sub, A.si⟩
set_option maxHeartbeats 1000000 in
theorem awake267_spec (hC : Has C T267) {h : Heap} : ACalls C 267 [] h (fun r h' => r = .bool true ∧ h' = h) := by
  refine ACalls.gc0 (P := fun r h' => r = .bool true ∧ HSub h h') ?_ (fun r h' hp => ⟨by rw [hp.1]; trivial, hp.2, hp.1, rfl⟩)
  have kc := fun h => code283_spec (hC.sub (T' := T283) (by decide)) (h := h)
  have k1 := fun (v : AV) h1 (q : SI h1 v cdL) => BSum_spec (hC.sub (T' := T275) (by decide)) (d := 5) (o := 1) (p := 1) (a := 0) q (by unfold In64; omega) (by unfold In64; omega) (by unfold In64; omega) (by unfold In64; omega)
  have k2 := fun (v : AV) h1 (q : SI h1 v cdL) => BSum_spec (hC.sub (T' := T275) (by decide)) (d := 5) (o := 1) (p := 1) (a := 1) q (by unfold In64; omega) (by unfold In64; omega) (by unfold In64; omega) (by unfold In64; omega)
  have k3 := fun (v : AV) h1 (q : SI h1 v [(1, 0), (0, 1)]) => Spin_spec (hC.sub (T' := T268) (by decide)) (st := 1073741824) q (by unfold U32; omega)
  simp only [k_bs0] at k1
  simp only [k_bs1] at k2
  simp only [k_spin] at k3
  unfold smp at k1 k2 k3
  dsimp only at k1 k2 k3
  (refine calls_intro (hC.body (by decide) tab267) (Nat.le_of_ble_eq_true rfl) ?_); (show wp C _ none B267.code _ _); (simp only [B267]); simp -implicitDefEqProofs (disch := first | assumption | decide | omega | (simp only [wpD1] <;> omega) | (simp only [wpD2] <;> assumption) | solve_by_elim [HSub.refl, HSub.push, HSub.reserve] | fail) only [↓wpPre, wpPost, wpPoly, Int.reduceToNat, Int.reducePow, Int.reduceMul, Int.reduceAdd, Int.reduceSub, Int.reduceNeg, Nat.reduceAdd, Nat.reduceMul, Nat.reducePow, Int.reduceLT, Int.reduceLE, Int.reduceEq, Nat.reduceEqDiff]
  refine ACallsK.of (kc _) ?_
  rintro r h1 ⟨s1, R1⟩
  simp -implicitDefEqProofs (disch := first | assumption | decide | omega | (simp only [wpD1] <;> omega) | (simp only [wpD2] <;> assumption) | solve_by_elim [HSub.refl, HSub.push, HSub.reserve] | fail) only [↓wpPre, wpPost, wpPoly, Int.reduceToNat, Int.reducePow, Int.reduceMul, Int.reduceAdd, Int.reduceSub, Int.reduceNeg, Nat.reduceAdd, Nat.reduceMul, Nat.reducePow, Int.reduceLT, Int.reduceLE, Int.reduceEq, Nat.reduceEqDiff]
  refine ACallsK.eq (k1 _ _ R1) ?_
  simp -implicitDefEqProofs (disch := first | assumption | decide | omega | (simp only [wpD1] <;> omega) | (simp only [wpD2] <;> assumption) | solve_by_elim [HSub.refl, HSub.push, HSub.reserve] | fail) only [↓wpPre, wpPost, wpPoly, Int.reduceToNat, Int.reducePow, Int.reduceMul, Int.reduceAdd, Int.reduceSub, Int.reduceNeg, Nat.reduceAdd, Nat.reduceMul, Nat.reducePow, Int.reduceLT, Int.reduceLE, Int.reduceEq, Nat.reduceEqDiff]
  refine ACallsK.of (kc _) ?_
  rintro r2 h2 ⟨s2, R2⟩
  have s0 := (s1.push (.cells [.int .i64 31, .int .i64 0] true 0)).trans s2
  have g1 : h2.get h1.size = some (.cells [.int .i64 31, .int .i64 0] true 0) := (s2.get _ (by simp)).trans (get_push_eq rfl)
  have z2 : h1.size < h2.size := by have := s2.size; simp only [Heap.size_push] at this; omega
  simp -implicitDefEqProofs (disch := first | assumption | decide | omega | (simp only [wpD1] <;> omega) | (simp only [wpD2] <;> assumption) | solve_by_elim [HSub.refl, HSub.push, HSub.reserve] | fail) only [↓wpPre, wpPost, wpPoly, Int.reduceToNat, Int.reducePow, Int.reduceMul, Int.reduceAdd, Int.reduceSub, Int.reduceNeg, Nat.reduceAdd, Nat.reduceMul, Nat.reducePow, Int.reduceLT, Int.reduceLE, Int.reduceEq, Nat.reduceEqDiff]
  refine ACallsK.eq (k2 _ _ R2) ?_
  simp -implicitDefEqProofs (disch := first | assumption | decide | omega | (simp only [wpD1] <;> omega) | (simp only [wpD2] <;> assumption) | solve_by_elim [HSub.refl, HSub.push, HSub.reserve] | fail) only [↓wpPre, wpPost, wpPoly, Int.reduceToNat, Int.reducePow, Int.reduceMul, Int.reduceAdd, Int.reduceSub, Int.reduceNeg, Nat.reduceAdd, Nat.reduceMul, Nat.reducePow, Int.reduceLT, Int.reduceLE, Int.reduceEq, Nat.reduceEqDiff]
  refine ACallsK.eq (k3 _ _ ?_) ?_
  · refine SI.known (l := [(1, 0), (0, 1)]) (wr := true) (u := 0) (get_push_eq ?_) ⟨rfl, by decide⟩ (Nat.le_refl _)
    simp -implicitDefEqProofs (disch := first | assumption | decide | omega | (simp only [wpD1] <;> omega) | (simp only [wpD2] <;> assumption) | solve_by_elim [HSub.refl, HSub.push, HSub.reserve] | fail) only [↓wpPre, wpPost, wpPoly, Int.reduceToNat, Int.reducePow, Int.reduceMul, Int.reduceAdd, Int.reduceSub, Int.reduceNeg, Nat.reduceAdd, Nat.reduceMul, Nat.reducePow, Int.reduceLT, Int.reduceLE, Int.reduceEq, Nat.reduceEqDiff]
  simp -implicitDefEqProofs (disch := first | assumption | decide | omega | (simp only [wpD1] <;> omega) | (simp only [wpD2] <;> assumption) | solve_by_elim [HSub.refl, HSub.push, HSub.reserve] | fail) only [↓wpPre, wpPost, wpPoly, Int.reduceToNat, Int.reducePow, Int.reduceMul, Int.reduceAdd, Int.reduceSub, Int.reduceNeg, Nat.reduceAdd, Nat.reduceMul, Nat.reducePow, Int.reduceLT, Int.reduceLE, Int.reduceEq, Nat.reduceEqDiff, g1, eqs_two_f]
  exact (by repeat (first | exact s0 | refine HSub.put ?_ (by (try simp only [Heap.size_put, Heap.size_push, Heap.size_reserve]); omega) _ | refine HSub.push ?_ _ | refine HSub.reserve ?_ _))
end
end Go.Ae

/- The statement on the chapter's examples, of layer 14. -/
set_option linter.unusedSimpArgs false
set_option linter.unusedVariables false
namespace Go.Ae
theorem m1 : bankErr cdL 5 1 34 0 = 2 ∧ bankErr [(128, 0)] 5 1 1 0 = 2 := by decide +kernel
theorem m2 : bankErr cdL 5 1 1 (-1) = 0 ∧ bankL cdL (sampL 5 1 1) (-1) 1 3 = [(0, 0), (31, 0), (0, 0)] := by decide +kernel
theorem m3 : bankErr (cdL ++ cdL) 5 1 1 0 = 0 ∧ bankL (cdL ++ cdL) (sampL 5 1 1) 0 31 2 = [(31, 0), (31, 0)] := by decide +kernel
theorem m4 : bankErr cdL 5 1 1 0 = 0 ∧ sumP cdL (sampL 5 1 1) (0 - 1) = (0, 0) ∧ sumP cdL (sampL 5 1 1) 0 = (31, 0) ∧ sumP cdL (sampL 5 1 1) (0 + 1) = (0, 0) := by decide +kernel
theorem m5 : smE [] 16 = 0 ∧ stepsE [(1, 0), (0, 1)] 4 = 0 ∧ stepsL [(1, 0), (0, 1)] 4 4 = [32258, 64516, 32258, 0] ∧ stepsE [(1, 0)] 3 = 3 := by decide +kernel
theorem m6 : bestE [(1, 0), (0, -2), (2, 0)] = 0 ∧ bestK [((1 : Int), (0 : Int)), (0, -2), (2, 0)] [((1 : Int), (0 : Int)), (0, -2), (2, 0)].length = 1 ∧ powP (0, -2) = 4 ∧ bestE [] = 3 := by decide +kernel
theorem e_one : (1 : Int).toNat = 1 := rfl
theorem n1 : bsumE cdL 5 1 34 0 = .tuple [.agg [.int .i64 0, .int .i64 0], .int .i64 2] := by unfold bsumE; rw [m1.1, if_neg (by decide)]; rfl
theorem n2 : bsumE [(128, 0)] 5 1 1 0 = .tuple [.agg [.int .i64 0, .int .i64 0], .int .i64 2] := by unfold bsumE; rw [m1.2, if_neg (by decide)]; rfl
theorem n3 : bankE cdL 5 1 1 (-1) 3 = 0 := by unfold bankE; rw [m2.1]; rfl
theorem n4 : bankE cdL 5 1 1 0 8193 = 2 := by unfold bankE; rw [m4.1]; rfl
theorem n5 : winE (cdL ++ cdL) 5 1 1 0 2 = 0 := by unfold winE; rw [m3.1]; rfl
theorem n6 : threeE cdL 5 1 1 0 1 = .tuple [.agg [.int .i64 0, .int .i64 0, .int .i64 31, .int .i64 0, .int .i64 0, .int .i64 0], .int .i64 0] := by unfold threeE; rw [m4.1, if_neg (by decide), if_neg (by decide), e_one, m4.2.1, m4.2.2.1, m4.2.2.2]; rfl
theorem n7 : threeE cdL 5 1 1 0 65 = .tuple [.agg [.int .i64 0, .int .i64 0, .int .i64 0, .int .i64 0, .int .i64 0, .int .i64 0], .int .i64 2] := by unfold threeE; rw [m4.1, if_neg (by decide), if_pos (by decide)]; rfl
theorem n8 : spinE [] 5 = .tuple [.agg [.int .i64 0, .int .i64 0], .int .i64 0] := by unfold spinE; rw [if_pos m5.1]; rfl
theorem n9 : bestOut [(1, 0), (0, -2), (2, 0)] = .tuple [.int .i64 1, .int .i64 4, .int .i64 0] := by
  unfold bestOut
  rw [m6.1, if_pos rfl, if_pos rfl, m6.2.1]
  show AV.tuple [.int .i64 1, .int .i64 (powP (0, -2)), .int .i64 0] = _
  rw [m6.2.2.1]
theorem n10 : bestOut [] = .tuple [.int .i64 0, .int .i64 0, .int .i64 3] := by unfold bestOut; rw [m6.2.2.2]; rfl
theorem eqs_six2 {a b c d e f : Int} : eqsA false [(0, false), (1, false), (2, false), (3, false), (4, false), (5, false)] (.agg [.int .i64 a, .int .i64 b, .int .i64 c, .int .i64 d, .int .i64 e, .int .i64 f]) (.agg [.int .i64 a, .int .i64 b, .int .i64 c, .int .i64 d, .int .i64 e, .int .i64 f]) = some (.bool true) := by
  simp [eqsA, eqCells]
section
variable {C : Ctx}
set_option maxHeartbeats 8000000 in
set_option maxRecDepth 40000 in
theorem known265_spec (hC : Has C T265) {h : Heap} : ACalls C 265 [] h (fun r h' => r = .bool true ∧ h' = h) := by
  refine ACalls.gc0 (P := fun r h' => r = .bool true ∧ HSub h h') ?_ (fun r h' hp => ⟨by rw [hp.1]; trivial, hp.2, hp.1, rfl⟩)
  have I : ∀ n : Int, -10000 ≤ n ∧ n ≤ 10000 → In64 n := fun n hn => by unfold In64; omega
  have kc := fun h => code283_spec (hC.sub (T' := T283) (by decide)) (h := h)
  have aw := fun h => awake267_spec (hC.sub (T' := T267) (by decide)) (h := h)
  have S := fun (l : List (Int × Int)) (p a : Int) (hp : In64 p) (ha : In64 a) (v : AV) h1 (q : SI h1 v l) => BSum_spec (hC.sub (T' := T275) (by decide)) (d := 5) (o := 1) q (I _ (by omega)) (I _ (by omega)) hp ha
  have Bk := fun (v : AV) h1 (a m : Int) (ha : In64 a) (hm : In64 m) (hn : ¬ (64 < m ∧ m ≤ 8192)) (q : SI h1 v cdL) => Bank_spec (hC.sub (T' := T277) (by decide)) (d := 5) (o := 1) (p := 1) q (I _ (by omega)) (I _ (by omega)) (I _ (by omega)) ha hm hn
  have Wn := fun (v : AV) h1 (q : SI h1 v (cdL ++ cdL)) => Windows_spec (hC.sub (T' := T279) (by decide)) (d := 5) (o := 1) (p := 1) (a := 0) (many := 2) q (I _ (by omega)) (I _ (by omega)) (I _ (by omega)) (I _ (by omega)) (I _ (by omega))
  have Th := fun (v : AV) h1 (b : Int) (hb : In64 b) (q : SI h1 v cdL) => Three_spec (hC.sub (T' := T281) (by decide)) (d := 5) (o := 1) (p := 1) (a := 0) q (I _ (by omega)) (I _ (by omega)) (I _ (by omega)) (I _ (by omega)) hb
  have Sp := fun h1 => Spin_spec (hC.sub (T' := T268) (by decide)) (l := []) (st := 5) (h := h1) SI.nil (by unfold U32; omega)
  have St := fun (v : AV) h1 (l : List (Int × Int)) (b : Int) (hb : In64 b) (q : SI h1 v l) => Steps_spec (hC.sub (T' := T270) (by decide)) q hb
  have Be := fun (v : AV) h1 (l : List (Int × Int)) (q : SI h1 v l) => Best_spec (hC.sub (T' := T272) (by decide)) q
  have sl : cdL.length = 31 := by unfold cdL; rw [List.length_map]; exact k_code.2
  (refine calls_intro (hC.body (by decide) tab265) (Nat.le_of_ble_eq_true rfl) ?_); (show wp C _ none B265.code _ _); (simp only [B265]); simp -implicitDefEqProofs (disch := first | assumption | decide | omega | (simp only [wpD1] <;> omega) | (simp only [wpD2] <;> assumption) | solve_by_elim [HSub.refl, HSub.push, HSub.reserve] | fail) only [↓wpPre, wpPost, wpPoly, Int.reduceToNat, Int.reducePow, Int.reduceMul, Int.reduceAdd, Int.reduceSub, Int.reduceNeg, Nat.reduceAdd, Nat.reduceMul, Nat.reducePow, Int.reduceLT, Int.reduceLE, Int.reduceEq, Nat.reduceEqDiff]
  refine ACallsK.of (kc _) ?_
  rintro v h1 ⟨s1, R⟩
  simp -implicitDefEqProofs (disch := first | assumption | decide | omega | (simp only [wpD1] <;> omega) | (simp only [wpD2] <;> assumption) | solve_by_elim [HSub.refl, HSub.push, HSub.reserve] | fail) only [↓wpPre, wpPost, wpPoly, Int.reduceToNat, Int.reducePow, Int.reduceMul, Int.reduceAdd, Int.reduceSub, Int.reduceNeg, Nat.reduceAdd, Nat.reduceMul, Nat.reducePow, Int.reduceLT, Int.reduceLE, Int.reduceEq, Nat.reduceEqDiff]
  refine ACallsK.eq2 (S cdL 34 0 (I _ (by omega)) (I _ (by omega)) _ _ R) n1 ?_
  simp -implicitDefEqProofs (disch := first | assumption | decide | omega | (simp only [wpD1] <;> omega) | (simp only [wpD2] <;> assumption) | solve_by_elim [HSub.refl, HSub.push, HSub.reserve] | fail) only [↓wpPre, wpPost, wpPoly, Int.reduceToNat, Int.reducePow, Int.reduceMul, Int.reduceAdd, Int.reduceSub, Int.reduceNeg, Nat.reduceAdd, Nat.reduceMul, Nat.reducePow, Int.reduceLT, Int.reduceLE, Int.reduceEq, Nat.reduceEqDiff]
  refine ACallsK.eq2 (S [(128, 0)] 1 0 (I _ (by omega)) (I _ (by omega)) _ _ (SI.known (wr := true) (u := 0) (by simp -implicitDefEqProofs (disch := first | assumption | decide | omega | (simp only [wpD1] <;> omega) | (simp only [wpD2] <;> assumption) | solve_by_elim [HSub.refl, HSub.push, HSub.reserve] | fail) only [↓wpPre, wpPost, wpPoly, Int.reduceToNat, Int.reducePow, Int.reduceMul, Int.reduceAdd, Int.reduceSub, Int.reduceNeg, Nat.reduceAdd, Nat.reduceMul, Nat.reducePow, Int.reduceLT, Int.reduceLE, Int.reduceEq, Nat.reduceEqDiff]; rfl) ⟨rfl, by decide⟩ (Nat.le_refl _))) n2 ?_
  simp -implicitDefEqProofs (disch := first | assumption | decide | omega | (simp only [wpD1] <;> omega) | (simp only [wpD2] <;> assumption) | solve_by_elim [HSub.refl, HSub.push, HSub.reserve] | fail) only [↓wpPre, wpPost, wpPoly, Int.reduceToNat, Int.reducePow, Int.reduceMul, Int.reduceAdd, Int.reduceSub, Int.reduceNeg, Nat.reduceAdd, Nat.reduceMul, Nat.reducePow, Int.reduceLT, Int.reduceLE, Int.reduceEq, Nat.reduceEqDiff]
  have B1 := fun h1 q => Bk v h1 (-1) 3 (I _ (by omega)) (I _ (by omega)) (by omega) q
  rw [n3, if_pos rfl, e_one] at B1
  refine ACallsK.of (B1 _ (R.mono (by repeat (first | exact HSub.refl h1 | refine HSub.put ?_ (by (try simp only [Heap.size_put, Heap.size_push, Heap.size_reserve]); omega) _ | refine HSub.push ?_ _ | refine HSub.reserve ?_ _)))) ?_
  rintro r h2 ⟨w2, rfl, s2, Q2⟩
  have Q2 : SI h2 w2 [(0, 0), (31, 0), (0, 0)] := by have e : (3 : Int).toNat = 3 := rfl; rw [e, m2.2] at Q2; exact Q2
  have t2 : HSub h1 h2 := (by exact (by repeat (first | exact HSub.refl h1 | refine HSub.put ?_ (by (try simp only [Heap.size_put, Heap.size_push, Heap.size_reserve]); omega) _ | refine HSub.push ?_ _ | refine HSub.reserve ?_ _)) : HSub h1 _).trans s2
  have R2 := R.mono t2
  have ct := fun h3 (q : HSub h2 h3) => R2.contentC h3 q
  rw [sl] at ct
  simp -implicitDefEqProofs (disch := first | assumption | decide | omega | (simp only [wpD1] <;> omega) | (simp only [wpD2] <;> assumption) | solve_by_elim [HSub.refl, HSub.push, HSub.reserve] | fail) only [↓wpPre, wpPost, wpPoly, Int.reduceToNat, Int.reducePow, Int.reduceMul, Int.reduceAdd, Int.reduceSub, Int.reduceNeg, Nat.reduceAdd, Nat.reduceMul, Nat.reducePow, Int.reduceLT, Int.reduceLE, Int.reduceEq, Nat.reduceEqDiff, lstErr, ct]
  have ecut : cut (smps cdL) 0 62 ++ smps cdL = smps (cdL ++ cdL) := by
    have e1 : (smps cdL).length = 62 := by rw [smps_length, sl]
    unfold cut
    rw [List.drop_zero, List.take_of_length_le (by omega)]
    exact (List.flatMap_append).symm
  have W1 := fun v h1 q => Wn v h1 q
  have e31 : ((sampL 5 1 1).length : Int) = 31 := by rw [k_code.2]; rfl
  rw [n5, if_pos rfl, e_one, e31] at W1
  refine ACallsK.of (W1 _ _ (GrwS.mk (h0 := Heap.empty) (l := cdL ++ cdL) ⟨Nat.zero_le _, fun i hi => absurd hi (Nat.not_lt_zero i)⟩ (Nat.zero_le _) ⟨by rw [List.length_append, sl], by rw [List.length_append, sl]; decide⟩ (by rw [← ecut]; simp -implicitDefEqProofs (disch := first | assumption | decide | omega | (simp only [wpD1] <;> omega) | (simp only [wpD2] <;> assumption) | solve_by_elim [HSub.refl, HSub.push, HSub.reserve] | fail) only [↓wpPre, wpPost, wpPoly, Int.reduceToNat, Int.reducePow, Int.reduceMul, Int.reduceAdd, Int.reduceSub, Int.reduceNeg, Nat.reduceAdd, Nat.reduceMul, Nat.reducePow, Int.reduceLT, Int.reduceLE, Int.reduceEq, Nat.reduceEqDiff])).si) ?_
  rintro r h3 ⟨w3, rfl, s3, Q3⟩
  have Q3 : SI h3 w3 [(31, 0), (31, 0)] := by have e : (2 : Int).toNat = 2 := rfl; rw [e, m3.2] at Q3; exact Q3
  have t3 : HSub h2 h3 := (by exact (by repeat (first | exact HSub.refl h2 | refine HSub.put ?_ (by (try simp only [Heap.size_put, Heap.size_push, Heap.size_reserve]); omega) _ | refine HSub.push ?_ _ | refine HSub.reserve ?_ _)) : HSub h2 _).trans s3
  have R3 := R2.mono t3
  have Q2 := Q2.mono t3
  simp -implicitDefEqProofs (disch := first | assumption | decide | omega | (simp only [wpD1] <;> omega) | (simp only [wpD2] <;> assumption) | solve_by_elim [HSub.refl, HSub.push, HSub.reserve] | fail) only [↓wpPre, wpPost, wpPoly, Int.reduceToNat, Int.reducePow, Int.reduceMul, Int.reduceAdd, Int.reduceSub, Int.reduceNeg, Nat.reduceAdd, Nat.reduceMul, Nat.reducePow, Int.reduceLT, Int.reduceLE, Int.reduceEq, Nat.reduceEqDiff, lstErr]
  have B2 := fun h1 q => Bk v h1 0 8193 (I _ (by omega)) (I _ (by omega)) (by omega) q
  rw [n4] at B2
  refine ACallsK.of (B2 _ R3) ?_
  rintro r h4 ⟨w4, rfl, s4, Q4⟩
  have R4 := R3.mono s4
  have Q2 := Q2.mono s4
  have Q3 := Q3.mono s4
  have E1 := fun h5 w (q : HSub h4 h5) (qb : SI h5 w [(0, 0), (31, 0), (0, 0)]) => Samples_spec (hC.sub (T' := T123) (by decide)) (Q2.mono q) qb
  have E2 := fun h5 w (q : HSub h4 h5) (qb : SI h5 w [(31, 0), (31, 0)]) => Samples_spec (hC.sub (T' := T123) (by decide)) (Q3.mono q) qb
  simp only [decide_true] at E1 E2
  simp -implicitDefEqProofs (disch := first | assumption | decide | omega | (simp only [wpD1] <;> omega) | (simp only [wpD2] <;> assumption) | solve_by_elim [HSub.refl, HSub.push, HSub.reserve] | fail) only [↓wpPre, wpPost, wpPoly, Int.reduceToNat, Int.reducePow, Int.reduceMul, Int.reduceAdd, Int.reduceSub, Int.reduceNeg, Nat.reduceAdd, Nat.reduceMul, Nat.reducePow, Int.reduceLT, Int.reduceLE, Int.reduceEq, Nat.reduceEqDiff, lstErr]
  refine ACallsK.eq (E1 _ _ (by repeat (first | exact HSub.refl h4 | refine HSub.put ?_ (by (try simp only [Heap.size_put, Heap.size_push, Heap.size_reserve]); omega) _ | refine HSub.push ?_ _ | refine HSub.reserve ?_ _)) (SI.known (wr := true) (u := 0) (by simp -implicitDefEqProofs (disch := first | assumption | decide | omega | (simp only [wpD1] <;> omega) | (simp only [wpD2] <;> assumption) | solve_by_elim [HSub.refl, HSub.push, HSub.reserve] | fail) only [↓wpPre, wpPost, wpPoly, Int.reduceToNat, Int.reducePow, Int.reduceMul, Int.reduceAdd, Int.reduceSub, Int.reduceNeg, Nat.reduceAdd, Nat.reduceMul, Nat.reducePow, Int.reduceLT, Int.reduceLE, Int.reduceEq, Nat.reduceEqDiff]; rfl) ⟨rfl, by decide⟩ (Nat.le_refl _))) ?_
  simp -implicitDefEqProofs (disch := first | assumption | decide | omega | (simp only [wpD1] <;> omega) | (simp only [wpD2] <;> assumption) | solve_by_elim [HSub.refl, HSub.push, HSub.reserve] | fail) only [↓wpPre, wpPost, wpPoly, Int.reduceToNat, Int.reducePow, Int.reduceMul, Int.reduceAdd, Int.reduceSub, Int.reduceNeg, Nat.reduceAdd, Nat.reduceMul, Nat.reducePow, Int.reduceLT, Int.reduceLE, Int.reduceEq, Nat.reduceEqDiff]
  refine ACallsK.eq (E2 _ _ (by repeat (first | exact HSub.refl h4 | refine HSub.put ?_ (by (try simp only [Heap.size_put, Heap.size_push, Heap.size_reserve]); omega) _ | refine HSub.push ?_ _ | refine HSub.reserve ?_ _)) (SI.known (wr := true) (u := 0) (by simp -implicitDefEqProofs (disch := first | assumption | decide | omega | (simp only [wpD1] <;> omega) | (simp only [wpD2] <;> assumption) | solve_by_elim [HSub.refl, HSub.push, HSub.reserve] | fail) only [↓wpPre, wpPost, wpPoly, Int.reduceToNat, Int.reducePow, Int.reduceMul, Int.reduceAdd, Int.reduceSub, Int.reduceNeg, Nat.reduceAdd, Nat.reduceMul, Nat.reducePow, Int.reduceLT, Int.reduceLE, Int.reduceEq, Nat.reduceEqDiff]; rfl) ⟨rfl, by decide⟩ (Nat.le_refl _))) ?_
  simp -implicitDefEqProofs (disch := first | assumption | decide | omega | (simp only [wpD1] <;> omega) | (simp only [wpD2] <;> assumption) | solve_by_elim [HSub.refl, HSub.push, HSub.reserve] | fail) only [↓wpPre, wpPost, wpPoly, Int.reduceToNat, Int.reducePow, Int.reduceMul, Int.reduceAdd, Int.reduceSub, Int.reduceNeg, Nat.reduceAdd, Nat.reduceMul, Nat.reducePow, Int.reduceLT, Int.reduceLE, Int.reduceEq, Nat.reduceEqDiff]
  refine ACallsK.eq2 (Th _ _ 1 (I _ (by omega)) (R4.mono (by exact (by repeat (first | exact HSub.refl h4 | refine HSub.put ?_ (by (try simp only [Heap.size_put, Heap.size_push, Heap.size_reserve]); omega) _ | refine HSub.push ?_ _ | refine HSub.reserve ?_ _))))) n6 ?_
  simp -implicitDefEqProofs (disch := first | assumption | decide | omega | (simp only [wpD1] <;> omega) | (simp only [wpD2] <;> assumption) | solve_by_elim [HSub.refl, HSub.push, HSub.reserve] | fail) only [↓wpPre, wpPost, wpPoly, Int.reduceToNat, Int.reducePow, Int.reduceMul, Int.reduceAdd, Int.reduceSub, Int.reduceNeg, Nat.reduceAdd, Nat.reduceMul, Nat.reducePow, Int.reduceLT, Int.reduceLE, Int.reduceEq, Nat.reduceEqDiff]
  refine ACallsK.eq2 (Th _ _ 65 (I _ (by omega)) (R4.mono (by exact (by repeat (first | exact HSub.refl h4 | refine HSub.put ?_ (by (try simp only [Heap.size_put, Heap.size_push, Heap.size_reserve]); omega) _ | refine HSub.push ?_ _ | refine HSub.reserve ?_ _))))) n7 ?_
  simp -implicitDefEqProofs (disch := first | assumption | decide | omega | (simp only [wpD1] <;> omega) | (simp only [wpD2] <;> assumption) | solve_by_elim [HSub.refl, HSub.push, HSub.reserve] | fail) only [↓wpPre, wpPost, wpPoly, Int.reduceToNat, Int.reducePow, Int.reduceMul, Int.reduceAdd, Int.reduceSub, Int.reduceNeg, Nat.reduceAdd, Nat.reduceMul, Nat.reducePow, Int.reduceLT, Int.reduceLE, Int.reduceEq, Nat.reduceEqDiff]
  refine ACallsK.eq2 (Sp _) n8 ?_
  simp -implicitDefEqProofs (disch := first | assumption | decide | omega | (simp only [wpD1] <;> omega) | (simp only [wpD2] <;> assumption) | solve_by_elim [HSub.refl, HSub.push, HSub.reserve] | fail) only [↓wpPre, wpPost, wpPoly, Int.reduceToNat, Int.reducePow, Int.reduceMul, Int.reduceAdd, Int.reduceSub, Int.reduceNeg, Nat.reduceAdd, Nat.reduceMul, Nat.reducePow, Int.reduceLT, Int.reduceLE, Int.reduceEq, Nat.reduceEqDiff]
  have St1 := fun v h1 q => St v h1 [(1, 0), (0, 1)] 4 (I _ (by omega)) q
  have e4 : (4 : Int).toNat = 4 := rfl
  rw [m5.2.1, if_pos rfl, e4, m5.2.2.1] at St1
  have St2 := fun v h1 q => St v h1 [(1, 0)] 3 (I _ (by omega)) q
  rw [m5.2.2.2] at St2
  refine ACallsK.of (St1 _ _ (SI.known (wr := true) (u := 0) (by simp -implicitDefEqProofs (disch := first | assumption | decide | omega | (simp only [wpD1] <;> omega) | (simp only [wpD2] <;> assumption) | solve_by_elim [HSub.refl, HSub.push, HSub.reserve] | fail) only [↓wpPre, wpPost, wpPoly, Int.reduceToNat, Int.reducePow, Int.reduceMul, Int.reduceAdd, Int.reduceSub, Int.reduceNeg, Nat.reduceAdd, Nat.reduceMul, Nat.reducePow, Int.reduceLT, Int.reduceLE, Int.reduceEq, Nat.reduceEqDiff]; rfl) ⟨rfl, by decide⟩ (Nat.le_refl _))) ?_
  rintro r h5 ⟨w5, rfl, s5, Q5⟩
  have g13 : h5.get (h4.size + 1 + 1) = some (.cells [.int .i64 0, .int .i64 0, .int .i64 31, .int .i64 0, .int .i64 0, .int .i64 0] true 0) := (s5.get _ (by simp only [Heap.size_push]; omega)).trans (by simp -implicitDefEqProofs (disch := first | assumption | decide | omega | (simp only [wpD1] <;> omega) | (simp only [wpD2] <;> assumption) | solve_by_elim [HSub.refl, HSub.push, HSub.reserve] | fail) only [↓wpPre, wpPost, wpPoly, Int.reduceToNat, Int.reducePow, Int.reduceMul, Int.reduceAdd, Int.reduceSub, Int.reduceNeg, Nat.reduceAdd, Nat.reduceMul, Nat.reducePow, Int.reduceLT, Int.reduceLE, Int.reduceEq, Nat.reduceEqDiff])
  have g14 : h5.get (h4.size + 1 + 1 + 1) = some (.cells [.int .i64 0, .int .i64 0] true 0) := (s5.get _ (by simp only [Heap.size_push]; omega)).trans (by simp -implicitDefEqProofs (disch := first | assumption | decide | omega | (simp only [wpD1] <;> omega) | (simp only [wpD2] <;> assumption) | solve_by_elim [HSub.refl, HSub.push, HSub.reserve] | fail) only [↓wpPre, wpPost, wpPoly, Int.reduceToNat, Int.reducePow, Int.reduceMul, Int.reduceAdd, Int.reduceSub, Int.reduceNeg, Nat.reduceAdd, Nat.reduceMul, Nat.reducePow, Int.reduceLT, Int.reduceLE, Int.reduceEq, Nat.reduceEqDiff])
  have t5 : HSub h4 h5 := (by exact (by repeat (first | exact HSub.refl h4 | refine HSub.put ?_ (by (try simp only [Heap.size_put, Heap.size_push, Heap.size_reserve]); omega) _ | refine HSub.push ?_ _ | refine HSub.reserve ?_ _)) : HSub h4 _).trans s5
  have N5 := t5.size
  simp -implicitDefEqProofs (disch := first | assumption | decide | omega | (simp only [wpD1] <;> omega) | (simp only [wpD2] <;> assumption) | solve_by_elim [HSub.refl, HSub.push, HSub.reserve] | fail) only [↓wpPre, wpPost, wpPoly, Int.reduceToNat, Int.reducePow, Int.reduceMul, Int.reduceAdd, Int.reduceSub, Int.reduceNeg, Nat.reduceAdd, Nat.reduceMul, Nat.reducePow, Int.reduceLT, Int.reduceLE, Int.reduceEq, Nat.reduceEqDiff, lstErr]
  refine ACallsK.of (St2 _ _ (SI.known (wr := true) (u := 0) (by simp -implicitDefEqProofs (disch := first | assumption | decide | omega | (simp only [wpD1] <;> omega) | (simp only [wpD2] <;> assumption) | solve_by_elim [HSub.refl, HSub.push, HSub.reserve] | fail) only [↓wpPre, wpPost, wpPoly, Int.reduceToNat, Int.reducePow, Int.reduceMul, Int.reduceAdd, Int.reduceSub, Int.reduceNeg, Nat.reduceAdd, Nat.reduceMul, Nat.reducePow, Int.reduceLT, Int.reduceLE, Int.reduceEq, Nat.reduceEqDiff]; rfl) ⟨rfl, by decide⟩ (Nat.le_refl _))) ?_
  rintro r h6 ⟨w6, rfl, s6, Q6⟩
  have t6 : HSub h5 h6 := (by exact (by repeat (first | exact HSub.refl h5 | refine HSub.put ?_ (by (try simp only [Heap.size_put, Heap.size_push, Heap.size_reserve]); omega) _ | refine HSub.push ?_ _ | refine HSub.reserve ?_ _)) : HSub h5 _).trans s6
  have g13 := (t6.get _ (Heap.lt_of_get g13)).trans g13
  have g14 := (t6.get _ (Heap.lt_of_get g14)).trans g14
  have Q5 := Q5.mono t6
  have z13 := Heap.lt_of_get g13
  have z14 := Heap.lt_of_get g14
  have N6 := t6.size
  have Eq := fun h7 w (q : HSub h6 h7) (qb : RI h7 w [32258, 64516, 32258, 0]) => Equal_spec (hC.sub (T' := T12) (by decide)) (Q5.mono q) qb
  simp only [decide_true] at Eq
  simp -implicitDefEqProofs (disch := first | assumption | decide | omega | (simp only [wpD1] <;> omega) | (simp only [wpD2] <;> assumption) | solve_by_elim [HSub.refl, HSub.push, HSub.reserve] | fail) only [↓wpPre, wpPost, wpPoly, Int.reduceToNat, Int.reducePow, Int.reduceMul, Int.reduceAdd, Int.reduceSub, Int.reduceNeg, Nat.reduceAdd, Nat.reduceMul, Nat.reducePow, Int.reduceLT, Int.reduceLE, Int.reduceEq, Nat.reduceEqDiff, lstErr]
  refine ACallsK.eq2 (Be _ _ [(1, 0), (0, -2), (2, 0)] (SI.known (wr := true) (u := 0) (by simp -implicitDefEqProofs (disch := first | assumption | decide | omega | (simp only [wpD1] <;> omega) | (simp only [wpD2] <;> assumption) | solve_by_elim [HSub.refl, HSub.push, HSub.reserve] | fail) only [↓wpPre, wpPost, wpPoly, Int.reduceToNat, Int.reducePow, Int.reduceMul, Int.reduceAdd, Int.reduceSub, Int.reduceNeg, Nat.reduceAdd, Nat.reduceMul, Nat.reducePow, Int.reduceLT, Int.reduceLE, Int.reduceEq, Nat.reduceEqDiff]; rfl) ⟨rfl, by decide⟩ (Nat.le_refl _))) n9 ?_
  simp -implicitDefEqProofs (disch := first | assumption | decide | omega | (simp only [wpD1] <;> omega) | (simp only [wpD2] <;> assumption) | solve_by_elim [HSub.refl, HSub.push, HSub.reserve] | fail) only [↓wpPre, wpPost, wpPoly, Int.reduceToNat, Int.reducePow, Int.reduceMul, Int.reduceAdd, Int.reduceSub, Int.reduceNeg, Nat.reduceAdd, Nat.reduceMul, Nat.reducePow, Int.reduceLT, Int.reduceLE, Int.reduceEq, Nat.reduceEqDiff]
  refine ACallsK.eq2 (Be _ _ [] SI.nil) n10 ?_
  simp -implicitDefEqProofs (disch := first | assumption | decide | omega | (simp only [wpD1] <;> omega) | (simp only [wpD2] <;> assumption) | solve_by_elim [HSub.refl, HSub.push, HSub.reserve] | fail) only [↓wpPre, wpPost, wpPoly, Int.reduceToNat, Int.reducePow, Int.reduceMul, Int.reduceAdd, Int.reduceSub, Int.reduceNeg, Nat.reduceAdd, Nat.reduceMul, Nat.reducePow, Int.reduceLT, Int.reduceLE, Int.reduceEq, Nat.reduceEqDiff]
  refine ACallsK.eq (aw _) ?_
  simp -implicitDefEqProofs (disch := first | assumption | decide | omega | (simp only [wpD1] <;> omega) | (simp only [wpD2] <;> assumption) | solve_by_elim [HSub.refl, HSub.push, HSub.reserve] | fail) only [↓wpPre, wpPost, wpPoly, Int.reduceToNat, Int.reducePow, Int.reduceMul, Int.reduceAdd, Int.reduceSub, Int.reduceNeg, Nat.reduceAdd, Nat.reduceMul, Nat.reducePow, Int.reduceLT, Int.reduceLE, Int.reduceEq, Nat.reduceEqDiff, g13, g14, eqs_six2, eqs_two_f]
  refine ACallsK.eq (Eq _ _ (by repeat (first | exact HSub.refl h6 | refine HSub.put ?_ (by (try simp only [Heap.size_put, Heap.size_push, Heap.size_reserve]); omega) _ | refine HSub.push ?_ _ | refine HSub.reserve ?_ _)) (RI.known (wr := true) (u := 0) ?_ ⟨rfl, by decide⟩ (Nat.le_refl _))) ?_
  · first | rfl | exact get_push_eq rfl | (simp -implicitDefEqProofs (disch := first | assumption | decide | omega | (simp only [wpD1] <;> omega) | (simp only [wpD2] <;> assumption) | solve_by_elim [HSub.refl, HSub.push, HSub.reserve] | fail) only [↓wpPre, wpPost, wpPoly, Int.reduceToNat, Int.reducePow, Int.reduceMul, Int.reduceAdd, Int.reduceSub, Int.reduceNeg, Nat.reduceAdd, Nat.reduceMul, Nat.reducePow, Int.reduceLT, Int.reduceLE, Int.reduceEq, Nat.reduceEqDiff]; rfl)
  simp -implicitDefEqProofs (disch := first | assumption | decide | omega | (simp only [wpD1] <;> omega) | (simp only [wpD2] <;> assumption) | solve_by_elim [HSub.refl, HSub.push, HSub.reserve] | fail) only [↓wpPre, wpPost, wpPoly, Int.reduceToNat, Int.reducePow, Int.reduceMul, Int.reduceAdd, Int.reduceSub, Int.reduceNeg, Nat.reduceAdd, Nat.reduceMul, Nat.reducePow, Int.reduceLT, Int.reduceLE, Int.reduceEq, Nat.reduceEqDiff]
  exact (((((s1.trans t2).trans t3).trans s4).trans t5).trans t6).trans (by exact (by repeat (first | exact HSub.refl h6 | refine HSub.put ?_ (by (try simp only [Heap.size_put, Heap.size_push, Heap.size_reserve]); omega) _ | refine HSub.push ?_ _ | refine HSub.reserve ?_ _)))
theorem BankKnown_law (hC : Has C T265) {h : Heap} : ACalls C 265 [] h (fun r _ => r = .bool true) := (known265_spec hC).mono fun _ _ q => q.1
end
end Go.Ae
