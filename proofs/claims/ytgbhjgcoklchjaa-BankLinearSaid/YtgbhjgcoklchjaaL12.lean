/- Texts of the proof, part 12: a second reading of the lowered code, proved sound, and what the functions compute. -/
import Derived.Sort.Row
import Derived.Sort.Grow
import Derived.Test.YtgbhjgcoklchjaaL11

/- Go's sort of a list of numbers, as the library's contract tells it. -/
set_option linter.unusedSimpArgs false
set_option linter.unusedVariables false
namespace Go.Ae
open Go.Sort
def sortL (l : List Int) : List Int := l.mergeSort fun x y => decide (x ≤ y)
def SortOk (C : Ctx) (g : Nat) : Prop := Enters C.P (C.lk g) ∧ ∀ (blk off cap : Nat) (zs : List Int) (w : World), Holds (Value.int .i64) w blk off zs.toArray → blk < w.heap.size → zs.length < 4611686018427387904 →
  Calls C.P (C.lk g) #[.slice (some ⟨blk, off, none⟩) zs.length cap] w fun e w' => e = .returned (.tuple #[]) ∧ ∃ n os, w' = grow (putRow (Value.int .i64) (Go.Sort.ahead w n) blk off (zs.mergeSort fun x y => decide (x ≤ y)).toArray) os
end Go.Ae

/- Absolute values, sums and bounds of lists. -/
set_option linter.unusedSimpArgs false
set_option linter.unusedVariables false
namespace Go.Ae
def absI (x : Int) : Int := max x (-x)
def sumAbs : List Int → Int
  | [] => 0
  | x :: l => absI x + sumAbs l
def maxAbs : List Int → Int
  | [] => 0
  | x :: l => max (absI x) (maxAbs l)
def small (l : List Int) : Prop := ∀ x ∈ l, -1000000 ≤ x ∧ x ≤ 1000000
def bigs (x : Int) : Bool := decide (x < -1000000 ∨ 1000000 < x)
end Go.Ae

/- Circular sums of the reference of layer 9. -/
set_option linter.unusedSimpArgs false
set_option linter.unusedVariables false
namespace Go.Ae

def cs (a b : List Int) (k : Nat) : Nat → Int
  | 0 => 0
  | i + 1 => cs a b k i + a.getD i 0 * b.getD ((i + k) % b.length) 0
def circ (a b : List Int) : List Int := (List.range a.length).map fun k => cs a b k a.length
def cpre (a b : List Int) (k i n : Nat) : Int := if n < k then cs a b n a.length else if n = k then cs a b k i else 0

section
variable {C : Ctx}
end
end Go.Ae

/- Circular of the references. -/
set_option linter.unusedSimpArgs false
set_option linter.unusedVariables false
namespace Go.Ae

def circErr (a b : List Int) : Int :=
  if a.length = 0 then 3 else if 8192 < a.length then 4 else if a.length ≠ b.length then 10 else if a.any bigs = true ∨ b.any bigs = true then 2 else 0

section
variable {C : Ctx}
end
end Go.Ae

/- Circular of the program's package cross. -/
set_option linter.unusedSimpArgs false
set_option linter.unusedVariables false
namespace Go.Ae
section
variable {C : Ctx}
end
end Go.Ae

/- Spectra, in plain numbers: how often the circular sums occur. -/
set_option linter.unusedSimpArgs false
set_option linter.unusedVariables false
namespace Go.Ae
def stepR (acc : List (Int × Int)) (x : Int) : List (Int × Int) :=
  if 0 < acc.length ∧ (acc.getD (acc.length - 1) (0, 0)).1 = x then acc.set (acc.length - 1) (x, (acc.getD (acc.length - 1) (0, 0)).2 + 1) else acc ++ [(x, 1)]
def rleL (l : List Int) (k : Nat) : List (Int × Int) := (l.take k).foldl stepR []
def cntL (l : List Int) (v : Int) : Nat → Int
  | 0 => 0
  | k + 1 => cntL l v k + if l.getD k 0 = v then 1 else 0
def specK (l : List Int) (n : Nat) : Nat → List (Int × Int)
  | 0 => []
  | k + 1 => specK l n k ++ if 0 < cntL l ((k : Int) - n) l.length then [((k : Int) - n, cntL l ((k : Int) - n) l.length)] else []
end Go.Ae

/- Counting behind sorting is counting by values. -/
set_option linter.unusedSimpArgs false
set_option linter.unusedVariables false
namespace Go.Ae
def repL (l : List Int) (n : Nat) : Nat → List Int
  | 0 => []
  | k + 1 => repL l n k ++ List.replicate (l.count ((k : Int) - n)) ((k : Int) - n)
end Go.Ae

/- The spectrum of two codes, of the program. -/
set_option linter.unusedSimpArgs false
set_option linter.unusedVariables false
namespace Go.Ae
theorem GrwS.at {h0 h : Heap} {v : AV} {l : List (Int × Int)} (A : GrwS h0 h v l) (hl : 0 < l.length) : ∃ i ex, h0.size ≤ i ∧ v = .slice i 0 l.length (.unk 0) ∧ h.get i = some (.cells (smps l ++ ex) true 2) := by
  obtain ⟨_, _, _, ⟨_, h1⟩ | ⟨i, ex, hi, hv, hg⟩⟩ := A
  · omega
  · exact ⟨i, ex, hi, hv, hg⟩
def specOut (d p q : Int) : List (Int × Int) := rleL (sortL (circ (sampL d p 1) (sampL d q 1))) (lenN d)
section
variable {C : Ctx}
end
end Go.Ae

/- The spectrum of two codes, of the reference. -/
set_option linter.unusedSimpArgs false
set_option linter.unusedVariables false
namespace Go.Ae
section
variable {C : Ctx}
end
end Go.Ae

/- Lists of lists of numbers, read and compared; pairs as lists. -/
set_option linter.unusedSimpArgs false
set_option linter.unusedVariables false
namespace Go.Ae
def LLI (h : Heap) (v : AV) (ll : List (List Int)) : Prop := ∃ vs : List AV, SL h 1 v ll.length vs ∧ vs.length = ll.length ∧ ∀ i, i < ll.length → RI h (vs.getD i .nilslice) (ll.getD i [])
theorem LLI.mono {h h' : Heap} {v : AV} {ll : List (List Int)} (H : LLI h v ll) (hs : HSub h h') : LLI h' v ll := by
  obtain ⟨vs, a, b, c⟩ := H
  exact ⟨vs, a.mono hs, b, fun i hi => (c i hi).mono hs⟩
theorem LLI.len {h : Heap} {v : AV} {ll : List (List Int)} (H : LLI h v ll) : lenA v = some (.int .i64 ll.length) := by obtain ⟨vs, a, _, _⟩ := H; exact a.len
theorem LLI.nil {h : Heap} : LLI h .nilslice [] := ⟨[], ⟨rfl, by decide, .inl ⟨rfl, rfl⟩⟩, rfl, fun i hi => by simp at hi⟩
theorem LLI.at {h : Heap} {v : AV} {ll : List (List Int)} (H : LLI h v ll) {i : Nat} (hi : i < ll.length) : ∃ w, idxA 1 v (.int .i64 (i : Nat)) = some (elA 1 v i) ∧ loadA h false 1 (elA 1 v i) = some w ∧ RI h w (ll.getD i []) := by
  obtain ⟨vs, a, b, c⟩ := H
  refine ⟨vs.getD i .nilslice, a.idx ⟨by omega, by omega⟩, ?_, c i hi⟩
  rw [SL.load1 a hi]
  simp [show i < vs.length by omega]
section
variable {C : Ctx}
def pairL (l : List (Int × Int)) : List (List Int) := l.map fun p => [p.1, p.2]
def Two (h0 h : Heap) (v w : AV) (p : Int × Int) : Prop := ∃ j, h0.size ≤ j ∧ w = .slice j 0 2 (.known 2) ∧ h.get j = some (.cells [.int .i64 p.1, .int .i64 p.2] true 0) ∧ j ∉ v.ids
end
end Go.Ae

/- Examples of layer 9, by contracts. -/
set_option linter.unusedSimpArgs false
set_option linter.unusedVariables false
namespace Go.Ae
section
variable {C : Ctx}
end
end Go.Ae

/- The statement on parts of placements of layer 9. -/
set_option linter.unusedSimpArgs false
set_option linter.unusedVariables false
namespace Go.Ae
section
variable {C : Ctx}
end
end Go.Ae

/- The statements on spins and on sums, of layer 14. -/
set_option linter.unusedSimpArgs false
set_option linter.unusedVariables false
namespace Go.Ae
def cdL : List (Int × Int) := (sampL 5 1 1).map fun x => (x, 0)
def cdK (k : Nat) : List (Int × Int) := (List.range k).map fun i => ((sampL 5 1 1).getD i 0, 0)
theorem cdK_succ (k : Nat) : cdK (k + 1) = cdK k ++ [((sampL 5 1 1).getD k 0, 0)] := by simp [cdK, List.range_succ]
theorem cdK_length (k : Nat) : (cdK k).length = k := by simp [cdK]
theorem cdL_eq : cdK (sampL 5 1 1).length = cdL := by
  refine List.ext_getElem (by simp [cdK, cdL]) fun i h1 h2 => ?_
  simp [cdK, cdL] at h1 h2 ⊢
  simp [List.getElem?_eq_getElem h2]
theorem k_code : sampErr 5 1 [1] = 0 ∧ (sampL 5 1 1).length = 31 := by decide +kernel
theorem k_sum0 : bankErr cdL 5 1 1 0 = 0 ∧ sumP cdL (sampL 5 1 1) 0 = (31, 0) := by decide +kernel
theorem k_sum1 : bankErr cdL 5 1 1 1 = 0 ∧ sumP cdL (sampL 5 1 1) 1 = (0, 0) := by decide +kernel
theorem k_spin0 : smE [(1, 0), (0, 1)] 16 = 0 ∧ spinK [(1, 0), (0, 1)] 1073741824 [((1 : Int), (0 : Int)), (0, 1)].length = (254, 0) := by decide +kernel
theorem k_spin : spinE [(1, 0), (0, 1)] 1073741824 = .tuple [smp (254, 0), .int .i64 0] := by
  unfold spinE
  rw [if_pos k_spin0.1, k_spin0.2]
theorem k_bs0 : bsumE cdL 5 1 1 0 = .tuple [smp (31, 0), .int .i64 0] := by
  have e : (1 : Int).toNat = 1 := rfl
  unfold bsumE
  rw [if_pos k_sum0.1, e, k_sum0.2]
theorem k_bs1 : bsumE cdL 5 1 1 1 = .tuple [smp (0, 0), .int .i64 0] := by
  have e : (1 : Int).toNat = 1 := rfl
  unfold bsumE
  rw [if_pos k_sum1.1, e, k_sum1.2]
section
variable {C : Ctx}
theorem code283_spec (hC : Has C T283) {h : Heap} : ACalls C 283 [] h (fun r h' => HSub h h' ∧ SI h' r cdL) := by
  have kS := fun h1 => SamplesR_spec (hC.sub (T' := T169) (by decide)) (d := 5) (o := 1) (p := 1) (h := h1) (by unfold In64; omega) (by unfold In64; omega) (by unfold In64; omega)
  rw [k_code.1, if_pos rfl] at kS
  have kl := k_code.2
  have e1 : (1 : Int).toNat = 1 := rfl
  rw [e1] at kS
  have ce := cdL_eq
  have cs := cdK_succ
  generalize sampL 5 1 1 = c at *
  (refine calls_intro (hC.body (by decide) tab283) (Nat.le_of_ble_eq_true rfl) ?_); (show wp C _ none B283.code _ _); (simp only [B283]); simp -implicitDefEqProofs (disch := first | assumption | decide | omega | (simp only [wpD1] <;> omega) | (simp only [wpD2] <;> assumption) | solve_by_elim [HSub.refl, HSub.push, HSub.reserve] | fail) only [↓wpPre, wpPost, wpPoly, Int.reduceToNat, Int.reducePow, Int.reduceMul, Int.reduceAdd, Int.reduceSub, Int.reduceNeg, Nat.reduceAdd, Nat.reduceMul, Nat.reducePow, Int.reduceLT, Int.reduceLE, Int.reduceEq, Nat.reduceEqDiff]
  refine ACallsK.of (kS _) ?_
  rintro r h1 ⟨w, rfl, s1, R⟩
  simp -implicitDefEqProofs (disch := first | assumption | decide | omega | (simp only [wpD1] <;> omega) | (simp only [wpD2] <;> assumption) | solve_by_elim [HSub.refl, HSub.push, HSub.reserve] | fail) only [↓wpPre, wpPost, wpPoly, Int.reduceToNat, Int.reducePow, Int.reduceMul, Int.reduceAdd, Int.reduceSub, Int.reduceNeg, Nat.reduceAdd, Nat.reduceMul, Nat.reducePow, Int.reduceLT, Int.reduceLE, Int.reduceEq, Nat.reduceEqDiff, lstErr]
  refine wp_loopI (fun j t h' => ∃ k : Nat, GrwS h1 h' (t 3) (cdK k) ∧ t 1 = w ∧ t 4 = .int .i64 (k : Nat) ∧ k ≤ c.length ∧ j = c.length - k) (j0 := c.length)
    ⟨0, GrwS.nil _, rfl, rfl, by omega, rfl⟩ ?_
  rintro j t h2 ⟨k, A, e1, e4, hk, hj⟩
  have Rl := R.mono A.sub
  simp -implicitDefEqProofs (disch := first | assumption | decide | omega | (simp only [wpD1] <;> omega) | (simp only [wpD2] <;> assumption) | solve_by_elim [HSub.refl, HSub.push, HSub.reserve] | fail) only [↓wpPre, wpPost, wpPoly, Int.reduceToNat, Int.reducePow, Int.reduceMul, Int.reduceAdd, Int.reduceSub, Int.reduceNeg, Nat.reduceAdd, Nat.reduceMul, Nat.reducePow, Int.reduceLT, Int.reduceLE, Int.reduceEq, Nat.reduceEqDiff, e1, e4, Rl.len]
  refine Br.by (fun c3 => ?_) (fun c3 => ?_)
  · have hk' : k < c.length := by omega
    have cs := cs k
    have cl := cdK_length k
    have ld := Rl.load hk'
    generalize c.getD k 0 = x at *
    have ap := A.app (x := x) (y := 0)
    have Ac := A.snoc (x := x) (y := 0) (HSub.push1 h2 (.cells [.int .i64 x, .int .i64 0] true 0)) (by omega)
    rw [← cs] at Ac
    simp -implicitDefEqProofs (disch := first | assumption | decide | omega | (simp only [wpD1] <;> omega) | (simp only [wpD2] <;> assumption) | solve_by_elim [HSub.refl, HSub.push, HSub.reserve] | fail) only [↓wpPre, wpPost, wpPoly, Int.reduceToNat, Int.reducePow, Int.reduceMul, Int.reduceAdd, Int.reduceSub, Int.reduceNeg, Nat.reduceAdd, Nat.reduceMul, Nat.reducePow, Int.reduceLT, Int.reduceLE, Int.reduceEq, Nat.reduceEqDiff, e1, e4, Rl.idx, ld, cont_slice, contB_two, ap, ← cs]
    exact ⟨_, ⟨k + 1, Ac, by simp, by omega, rfl⟩, by omega⟩
  · have ek : k = c.length := by omega
    subst ek
    rw [ce] at A
    simp -implicitDefEqProofs (disch := first | assumption | decide | omega | (simp only [wpD1] <;> omega) | (simp only [wpD2] <;> assumption) | solve_by_elim [HSub.refl, HSub.push, HSub.reserve] | fail) only [↓wpPre, wpPost, wpPoly, Int.reduceToNat, Int.reducePow, Int.reduceMul, Int.reduceAdd, Int.reduceSub, Int.reduceNeg, Nat.reduceAdd, Nat.reduceMul, Nat.reducePow, Int.reduceLT, Int.reduceLE, Int.reduceEq, Nat.reduceEqDiff]
    exact ⟨s1.trans A.sub, A.si⟩
set_option maxHeartbeats 1000000 in
theorem awake267_spec (hC : Has C T267) {h : Heap} : ACalls C 267 [] h (fun r h' => r = .bool true ∧ h' = h) := by
  refine ACalls.gc0 (P := fun r h' => r = .bool true ∧ HSub h h') ?_ (fun r h' hp => ⟨by rw [hp.1]; trivial, hp.2, hp.1, rfl⟩)
  have kc := fun h => code283_spec (hC.sub (T' := T283) (by decide)) (h := h)
  have k1 := fun (v : AV) h1 (q : SI h1 v cdL) => BSum_spec (hC.sub (T' := T275) (by decide)) (d := 5) (o := 1) (p := 1) (a := 0) q (by unfold In64; omega) (by unfold In64; omega) (by unfold In64; omega) (by unfold In64; omega)
  have k2 := fun (v : AV) h1 (q : SI h1 v cdL) => BSum_spec (hC.sub (T' := T275) (by decide)) (d := 5) (o := 1) (p := 1) (a := 1) q (by unfold In64; omega) (by unfold In64; omega) (by unfold In64; omega) (by unfold In64; omega)
  have k3 := fun (v : AV) h1 (q : SI h1 v [(1, 0), (0, 1)]) => Spin_spec (hC.sub (T' := T268) (by decide)) (st := 1073741824) q (by unfold U32; omega)
  simp only [k_bs0] at k1
  simp only [k_bs1] at k2
  simp only [k_spin] at k3
  unfold smp at k1 k2 k3
  dsimp only at k1 k2 k3
  (refine calls_intro (hC.body (by decide) tab267) (Nat.le_of_ble_eq_true rfl) ?_); (show wp C _ none B267.code _ _); (simp only [B267]); simp -implicitDefEqProofs (disch := first | assumption | decide | omega | (simp only [wpD1] <;> omega) | (simp only [wpD2] <;> assumption) | solve_by_elim [HSub.refl, HSub.push, HSub.reserve] | fail) only [↓wpPre, wpPost, wpPoly, Int.reduceToNat, Int.reducePow, Int.reduceMul, Int.reduceAdd, Int.reduceSub, Int.reduceNeg, Nat.reduceAdd, Nat.reduceMul, Nat.reducePow, Int.reduceLT, Int.reduceLE, Int.reduceEq, Nat.reduceEqDiff]
  refine ACallsK.of (kc _) ?_
  rintro r h1 ⟨s1, R1⟩
  simp -implicitDefEqProofs (disch := first | assumption | decide | omega | (simp only [wpD1] <;> omega) | (simp only [wpD2] <;> assumption) | solve_by_elim [HSub.refl, HSub.push, HSub.reserve] | fail) only [↓wpPre, wpPost, wpPoly, Int.reduceToNat, Int.reducePow, Int.reduceMul, Int.reduceAdd, Int.reduceSub, Int.reduceNeg, Nat.reduceAdd, Nat.reduceMul, Nat.reducePow, Int.reduceLT, Int.reduceLE, Int.reduceEq, Nat.reduceEqDiff]
  refine ACallsK.eq (k1 _ _ R1) ?_
  simp -implicitDefEqProofs (disch := first | assumption | decide | omega | (simp only [wpD1] <;> omega) | (simp only [wpD2] <;> assumption) | solve_by_elim [HSub.refl, HSub.push, HSub.reserve] | fail) only [↓wpPre, wpPost, wpPoly, Int.reduceToNat, Int.reducePow, Int.reduceMul, Int.reduceAdd, Int.reduceSub, Int.reduceNeg, Nat.reduceAdd, Nat.reduceMul, Nat.reducePow, Int.reduceLT, Int.reduceLE, Int.reduceEq, Nat.reduceEqDiff]
  refine ACallsK.of (kc _) ?_
  rintro r2 h2 ⟨s2, R2⟩
  have s0 := (s1.push (.cells [.int .i64 31, .int .i64 0] true 0)).trans s2
  have g1 : h2.get h1.size = some (.cells [.int .i64 31, .int .i64 0] true 0) := (s2.get _ (by simp)).trans (get_push_eq rfl)
  have z2 : h1.size < h2.size := by have := s2.size; simp only [Heap.size_push] at this; omega
  simp -implicitDefEqProofs (disch := first | assumption | decide | omega | (simp only [wpD1] <;> omega) | (simp only [wpD2] <;> assumption) | solve_by_elim [HSub.refl, HSub.push, HSub.reserve] | fail) only [↓wpPre, wpPost, wpPoly, Int.reduceToNat, Int.reducePow, Int.reduceMul, Int.reduceAdd, Int.reduceSub, Int.reduceNeg, Nat.reduceAdd, Nat.reduceMul, Nat.reducePow, Int.reduceLT, Int.reduceLE, Int.reduceEq, Nat.reduceEqDiff]
  refine ACallsK.eq (k2 _ _ R2) ?_
  simp -implicitDefEqProofs (disch := first | assumption | decide | omega | (simp only [wpD1] <;> omega) | (simp only [wpD2] <;> assumption) | solve_by_elim [HSub.refl, HSub.push, HSub.reserve] | fail) only [↓wpPre, wpPost, wpPoly, Int.reduceToNat, Int.reducePow, Int.reduceMul, Int.reduceAdd, Int.reduceSub, Int.reduceNeg, Nat.reduceAdd, Nat.reduceMul, Nat.reducePow, Int.reduceLT, Int.reduceLE, Int.reduceEq, Nat.reduceEqDiff]
  refine ACallsK.eq (k3 _ _ ?_) ?_
  · refine SI.known (l := [(1, 0), (0, 1)]) (wr := true) (u := 0) (get_push_eq ?_) ⟨rfl, by decide⟩ (Nat.le_refl _)
    simp -implicitDefEqProofs (disch := first | assumption | decide | omega | (simp only [wpD1] <;> omega) | (simp only [wpD2] <;> assumption) | solve_by_elim [HSub.refl, HSub.push, HSub.reserve] | fail) only [↓wpPre, wpPost, wpPoly, Int.reduceToNat, Int.reducePow, Int.reduceMul, Int.reduceAdd, Int.reduceSub, Int.reduceNeg, Nat.reduceAdd, Nat.reduceMul, Nat.reducePow, Int.reduceLT, Int.reduceLE, Int.reduceEq, Nat.reduceEqDiff]
  simp -implicitDefEqProofs (disch := first | assumption | decide | omega | (simp only [wpD1] <;> omega) | (simp only [wpD2] <;> assumption) | solve_by_elim [HSub.refl, HSub.push, HSub.reserve] | fail) only [↓wpPre, wpPost, wpPoly, Int.reduceToNat, Int.reducePow, Int.reduceMul, Int.reduceAdd, Int.reduceSub, Int.reduceNeg, Nat.reduceAdd, Nat.reduceMul, Nat.reducePow, Int.reduceLT, Int.reduceLE, Int.reduceEq, Nat.reduceEqDiff, g1, eqs_two_f]
  exact (by repeat (first | exact s0 | refine HSub.put ?_ (by (try simp only [Heap.size_put, Heap.size_push, Heap.size_reserve]); omega) _ | refine HSub.push ?_ _ | refine HSub.reserve ?_ _))
end
end Go.Ae

/- The statement on the chapter's examples, of layer 14. -/
set_option linter.unusedSimpArgs false
set_option linter.unusedVariables false
namespace Go.Ae
theorem m1 : bankErr cdL 5 1 34 0 = 2 ∧ bankErr [(128, 0)] 5 1 1 0 = 2 := by decide +kernel
theorem m2 : bankErr cdL 5 1 1 (-1) = 0 ∧ bankL cdL (sampL 5 1 1) (-1) 1 3 = [(0, 0), (31, 0), (0, 0)] := by decide +kernel
theorem m3 : bankErr (cdL ++ cdL) 5 1 1 0 = 0 ∧ bankL (cdL ++ cdL) (sampL 5 1 1) 0 31 2 = [(31, 0), (31, 0)] := by decide +kernel
theorem m4 : bankErr cdL 5 1 1 0 = 0 ∧ sumP cdL (sampL 5 1 1) (0 - 1) = (0, 0) ∧ sumP cdL (sampL 5 1 1) 0 = (31, 0) ∧ sumP cdL (sampL 5 1 1) (0 + 1) = (0, 0) := by decide +kernel
theorem m5 : smE [] 16 = 0 ∧ stepsE [(1, 0), (0, 1)] 4 = 0 ∧ stepsL [(1, 0), (0, 1)] 4 4 = [32258, 64516, 32258, 0] ∧ stepsE [(1, 0)] 3 = 3 := by decide +kernel
theorem m6 : bestE [(1, 0), (0, -2), (2, 0)] = 0 ∧ bestK [((1 : Int), (0 : Int)), (0, -2), (2, 0)] [((1 : Int), (0 : Int)), (0, -2), (2, 0)].length = 1 ∧ powP (0, -2) = 4 ∧ bestE [] = 3 := by decide +kernel
theorem e_one : (1 : Int).toNat = 1 := rfl
theorem n1 : bsumE cdL 5 1 34 0 = .tuple [.agg [.int .i64 0, .int .i64 0], .int .i64 2] := by unfold bsumE; rw [m1.1, if_neg (by decide)]; rfl
theorem n2 : bsumE [(128, 0)] 5 1 1 0 = .tuple [.agg [.int .i64 0, .int .i64 0], .int .i64 2] := by unfold bsumE; rw [m1.2, if_neg (by decide)]; rfl
theorem n3 : bankE cdL 5 1 1 (-1) 3 = 0 := by unfold bankE; rw [m2.1]; rfl
theorem n4 : bankE cdL 5 1 1 0 8193 = 2 := by unfold bankE; rw [m4.1]; rfl
theorem n5 : winE (cdL ++ cdL) 5 1 1 0 2 = 0 := by unfold winE; rw [m3.1]; rfl
theorem n6 : threeE cdL 5 1 1 0 1 = .tuple [.agg [.int .i64 0, .int .i64 0, .int .i64 31, .int .i64 0, .int .i64 0, .int .i64 0], .int .i64 0] := by unfold threeE; rw [m4.1, if_neg (by decide), if_neg (by decide), e_one, m4.2.1, m4.2.2.1, m4.2.2.2]; rfl
theorem n7 : threeE cdL 5 1 1 0 65 = .tuple [.agg [.int .i64 0, .int .i64 0, .int .i64 0, .int .i64 0, .int .i64 0, .int .i64 0], .int .i64 2] := by unfold threeE; rw [m4.1, if_neg (by decide), if_pos (by decide)]; rfl
theorem n8 : spinE [] 5 = .tuple [.agg [.int .i64 0, .int .i64 0], .int .i64 0] := by unfold spinE; rw [if_pos m5.1]; rfl
theorem n9 : bestOut [(1, 0), (0, -2), (2, 0)] = .tuple [.int .i64 1, .int .i64 4, .int .i64 0] := by
  unfold bestOut
  rw [m6.1, if_pos rfl, if_pos rfl, m6.2.1]
  show AV.tuple [.int .i64 1, .int .i64 (powP (0, -2)), .int .i64 0] = _
  rw [m6.2.2.1]
theorem n10 : bestOut [] = .tuple [.int .i64 0, .int .i64 0, .int .i64 3] := by unfold bestOut; rw [m6.2.2.2]; rfl
theorem eqs_six2 {a b c d e f : Int} : eqsA false [(0, false), (1, false), (2, false), (3, false), (4, false), (5, false)] (.agg [.int .i64 a, .int .i64 b, .int .i64 c, .int .i64 d, .int .i64 e, .int .i64 f]) (.agg [.int .i64 a, .int .i64 b, .int .i64 c, .int .i64 d, .int .i64 e, .int .i64 f]) = some (.bool true) := by
  simp [eqsA, eqCells]
section
variable {C : Ctx}
set_option maxHeartbeats 8000000 in
set_option maxRecDepth 40000 in
theorem known265_spec (hC : Has C T265) {h : Heap} : ACalls C 265 [] h (fun r h' => r = .bool true ∧ h' = h) := by
  refine ACalls.gc0 (P := fun r h' => r = .bool true ∧ HSub h h') ?_ (fun r h' hp => ⟨by rw [hp.1]; trivial, hp.2, hp.1, rfl⟩)
  have I : ∀ n : Int, -10000 ≤ n ∧ n ≤ 10000 → In64 n := fun n hn => by unfold In64; omega
  have kc := fun h => code283_spec (hC.sub (T' := T283) (by decide)) (h := h)
  have aw := fun h => awake267_spec (hC.sub (T' := T267) (by decide)) (h := h)
  have S := fun (l : List (Int × Int)) (p a : Int) (hp : In64 p) (ha : In64 a) (v : AV) h1 (q : SI h1 v l) => BSum_spec (hC.sub (T' := T275) (by decide)) (d := 5) (o := 1) q (I _ (by omega)) (I _ (by omega)) hp ha
  have Bk := fun (v : AV) h1 (a m : Int) (ha : In64 a) (hm : In64 m) (hn : ¬ (64 < m ∧ m ≤ 8192)) (q : SI h1 v cdL) => Bank_spec (hC.sub (T' := T277) (by decide)) (d := 5) (o := 1) (p := 1) q (I _ (by omega)) (I _ (by omega)) (I _ (by omega)) ha hm hn
  have Wn := fun (v : AV) h1 (q : SI h1 v (cdL ++ cdL)) => Windows_spec (hC.sub (T' := T279) (by decide)) (d := 5) (o := 1) (p := 1) (a := 0) (many := 2) q (I _ (by omega)) (I _ (by omega)) (I _ (by omega)) (I _ (by omega)) (I _ (by omega))
  have Th := fun (v : AV) h1 (b : Int) (hb : In64 b) (q : SI h1 v cdL) => Three_spec (hC.sub (T' := T281) (by decide)) (d := 5) (o := 1) (p := 1) (a := 0) q (I _ (by omega)) (I _ (by omega)) (I _ (by omega)) (I _ (by omega)) hb
  have Sp := fun h1 => Spin_spec (hC.sub (T' := T268) (by decide)) (l := []) (st := 5) (h := h1) SI.nil (by unfold U32; omega)
  have St := fun (v : AV) h1 (l : List (Int × Int)) (b : Int) (hb : In64 b) (q : SI h1 v l) => Steps_spec (hC.sub (T' := T270) (by decide)) q hb
  have Be := fun (v : AV) h1 (l : List (Int × Int)) (q : SI h1 v l) => Best_spec (hC.sub (T' := T272) (by decide)) q
  have sl : cdL.length = 31 := by unfold cdL; rw [List.length_map]; exact k_code.2
  (refine calls_intro (hC.body (by decide) tab265) (Nat.le_of_ble_eq_true rfl) ?_); (show wp C _ none B265.code _ _); (simp only [B265]); simp -implicitDefEqProofs (disch := first | assumption | decide | omega | (simp only [wpD1] <;> omega) | (simp only [wpD2] <;> assumption) | solve_by_elim [HSub.refl, HSub.push, HSub.reserve] | fail) only [↓wpPre, wpPost, wpPoly, Int.reduceToNat, Int.reducePow, Int.reduceMul, Int.reduceAdd, Int.reduceSub, Int.reduceNeg, Nat.reduceAdd, Nat.reduceMul, Nat.reducePow, Int.reduceLT, Int.reduceLE, Int.reduceEq, Nat.reduceEqDiff]
  refine ACallsK.of (kc _) ?_
  rintro v h1 ⟨s1, R⟩
  simp -implicitDefEqProofs (disch := first | assumption | decide | omega | (simp only [wpD1] <;> omega) | (simp only [wpD2] <;> assumption) | solve_by_elim [HSub.refl, HSub.push, HSub.reserve] | fail) only [↓wpPre, wpPost, wpPoly, Int.reduceToNat, Int.reducePow, Int.reduceMul, Int.reduceAdd, Int.reduceSub, Int.reduceNeg, Nat.reduceAdd, Nat.reduceMul, Nat.reducePow, Int.reduceLT, Int.reduceLE, Int.reduceEq, Nat.reduceEqDiff]
  refine ACallsK.eq2 (S cdL 34 0 (I _ (by omega)) (I _ (by omega)) _ _ R) n1 ?_
  simp -implicitDefEqProofs (disch := first | assumption | decide | omega | (simp only [wpD1] <;> omega) | (simp only [wpD2] <;> assumption) | solve_by_elim [HSub.refl, HSub.push, HSub.reserve] | fail) only [↓wpPre, wpPost, wpPoly, Int.reduceToNat, Int.reducePow, Int.reduceMul, Int.reduceAdd, Int.reduceSub, Int.reduceNeg, Nat.reduceAdd, Nat.reduceMul, Nat.reducePow, Int.reduceLT, Int.reduceLE, Int.reduceEq, Nat.reduceEqDiff]
  refine ACallsK.eq2 (S [(128, 0)] 1 0 (I _ (by omega)) (I _ (by omega)) _ _ (SI.known (wr := true) (u := 0) (by simp -implicitDefEqProofs (disch := first | assumption | decide | omega | (simp only [wpD1] <;> omega) | (simp only [wpD2] <;> assumption) | solve_by_elim [HSub.refl, HSub.push, HSub.reserve] | fail) only [↓wpPre, wpPost, wpPoly, Int.reduceToNat, Int.reducePow, Int.reduceMul, Int.reduceAdd, Int.reduceSub, Int.reduceNeg, Nat.reduceAdd, Nat.reduceMul, Nat.reducePow, Int.reduceLT, Int.reduceLE, Int.reduceEq, Nat.reduceEqDiff]; rfl) ⟨rfl, by decide⟩ (Nat.le_refl _))) n2 ?_
  simp -implicitDefEqProofs (disch := first | assumption | decide | omega | (simp only [wpD1] <;> omega) | (simp only [wpD2] <;> assumption) | solve_by_elim [HSub.refl, HSub.push, HSub.reserve] | fail) only [↓wpPre, wpPost, wpPoly, Int.reduceToNat, Int.reducePow, Int.reduceMul, Int.reduceAdd, Int.reduceSub, Int.reduceNeg, Nat.reduceAdd, Nat.reduceMul, Nat.reducePow, Int.reduceLT, Int.reduceLE, Int.reduceEq, Nat.reduceEqDiff]
  have B1 := fun h1 q => Bk v h1 (-1) 3 (I _ (by omega)) (I _ (by omega)) (by omega) q
  rw [n3, if_pos rfl, e_one] at B1
  refine ACallsK.of (B1 _ (R.mono (by repeat (first | exact HSub.refl h1 | refine HSub.put ?_ (by (try simp only [Heap.size_put, Heap.size_push, Heap.size_reserve]); omega) _ | refine HSub.push ?_ _ | refine HSub.reserve ?_ _)))) ?_
  rintro r h2 ⟨w2, rfl, s2, Q2⟩
  have Q2 : SI h2 w2 [(0, 0), (31, 0), (0, 0)] := by have e : (3 : Int).toNat = 3 := rfl; rw [e, m2.2] at Q2; exact Q2
  have t2 : HSub h1 h2 := (by exact (by repeat (first | exact HSub.refl h1 | refine HSub.put ?_ (by (try simp only [Heap.size_put, Heap.size_push, Heap.size_reserve]); omega) _ | refine HSub.push ?_ _ | refine HSub.reserve ?_ _)) : HSub h1 _).trans s2
  have R2 := R.mono t2
  have ct := fun h3 (q : HSub h2 h3) => R2.contentC h3 q
  rw [sl] at ct
  simp -implicitDefEqProofs (disch := first | assumption | decide | omega | (simp only [wpD1] <;> omega) | (simp only [wpD2] <;> assumption) | solve_by_elim [HSub.refl, HSub.push, HSub.reserve] | fail) only [↓wpPre, wpPost, wpPoly, Int.reduceToNat, Int.reducePow, Int.reduceMul, Int.reduceAdd, Int.reduceSub, Int.reduceNeg, Nat.reduceAdd, Nat.reduceMul, Nat.reducePow, Int.reduceLT, Int.reduceLE, Int.reduceEq, Nat.reduceEqDiff, lstErr, ct]
  have ecut : cut (smps cdL) 0 62 ++ smps cdL = smps (cdL ++ cdL) := by
    have e1 : (smps cdL).length = 62 := by rw [smps_length, sl]
    unfold cut
    rw [List.drop_zero, List.take_of_length_le (by omega)]
    exact (List.flatMap_append).symm
  have W1 := fun v h1 q => Wn v h1 q
  have e31 : ((sampL 5 1 1).length : Int) = 31 := by rw [k_code.2]; rfl
  rw [n5, if_pos rfl, e_one, e31] at W1
  refine ACallsK.of (W1 _ _ (GrwS.mk (h0 := Heap.empty) (l := cdL ++ cdL) ⟨Nat.zero_le _, fun i hi => absurd hi (Nat.not_lt_zero i)⟩ (Nat.zero_le _) ⟨by rw [List.length_append, sl], by rw [List.length_append, sl]; decide⟩ (by rw [← ecut]; simp -implicitDefEqProofs (disch := first | assumption | decide | omega | (simp only [wpD1] <;> omega) | (simp only [wpD2] <;> assumption) | solve_by_elim [HSub.refl, HSub.push, HSub.reserve] | fail) only [↓wpPre, wpPost, wpPoly, Int.reduceToNat, Int.reducePow, Int.reduceMul, Int.reduceAdd, Int.reduceSub, Int.reduceNeg, Nat.reduceAdd, Nat.reduceMul, Nat.reducePow, Int.reduceLT, Int.reduceLE, Int.reduceEq, Nat.reduceEqDiff])).si) ?_
  rintro r h3 ⟨w3, rfl, s3, Q3⟩
  have Q3 : SI h3 w3 [(31, 0), (31, 0)] := by have e : (2 : Int).toNat = 2 := rfl; rw [e, m3.2] at Q3; exact Q3
  have t3 : HSub h2 h3 := (by exact (by repeat (first | exact HSub.refl h2 | refine HSub.put ?_ (by (try simp only [Heap.size_put, Heap.size_push, Heap.size_reserve]); omega) _ | refine HSub.push ?_ _ | refine HSub.reserve ?_ _)) : HSub h2 _).trans s3
  have R3 := R2.mono t3
  have Q2 := Q2.mono t3
  simp -implicitDefEqProofs (disch := first | assumption | decide | omega | (simp only [wpD1] <;> omega) | (simp only [wpD2] <;> assumption) | solve_by_elim [HSub.refl, HSub.push, HSub.reserve] | fail) only [↓wpPre, wpPost, wpPoly, Int.reduceToNat, Int.reducePow, Int.reduceMul, Int.reduceAdd, Int.reduceSub, Int.reduceNeg, Nat.reduceAdd, Nat.reduceMul, Nat.reducePow, Int.reduceLT, Int.reduceLE, Int.reduceEq, Nat.reduceEqDiff, lstErr]
  have B2 := fun h1 q => Bk v h1 0 8193 (I _ (by omega)) (I _ (by omega)) (by omega) q
  rw [n4] at B2
  refine ACallsK.of (B2 _ R3) ?_
  rintro r h4 ⟨w4, rfl, s4, Q4⟩
  have R4 := R3.mono s4
  have Q2 := Q2.mono s4
  have Q3 := Q3.mono s4
  have E1 := fun h5 w (q : HSub h4 h5) (qb : SI h5 w [(0, 0), (31, 0), (0, 0)]) => Samples_spec (hC.sub (T' := T123) (by decide)) (Q2.mono q) qb
  have E2 := fun h5 w (q : HSub h4 h5) (qb : SI h5 w [(31, 0), (31, 0)]) => Samples_spec (hC.sub (T' := T123) (by decide)) (Q3.mono q) qb
  simp only [decide_true] at E1 E2
  simp -implicitDefEqProofs (disch := first | assumption | decide | omega | (simp only [wpD1] <;> omega) | (simp only [wpD2] <;> assumption) | solve_by_elim [HSub.refl, HSub.push, HSub.reserve] | fail) only [↓wpPre, wpPost, wpPoly, Int.reduceToNat, Int.reducePow, Int.reduceMul, Int.reduceAdd, Int.reduceSub, Int.reduceNeg, Nat.reduceAdd, Nat.reduceMul, Nat.reducePow, Int.reduceLT, Int.reduceLE, Int.reduceEq, Nat.reduceEqDiff, lstErr]
  refine ACallsK.eq (E1 _ _ (by repeat (first | exact HSub.refl h4 | refine HSub.put ?_ (by (try simp only [Heap.size_put, Heap.size_push, Heap.size_reserve]); omega) _ | refine HSub.push ?_ _ | refine HSub.reserve ?_ _)) (SI.known (wr := true) (u := 0) (by simp -implicitDefEqProofs (disch := first | assumption | decide | omega | (simp only [wpD1] <;> omega) | (simp only [wpD2] <;> assumption) | solve_by_elim [HSub.refl, HSub.push, HSub.reserve] | fail) only [↓wpPre, wpPost, wpPoly, Int.reduceToNat, Int.reducePow, Int.reduceMul, Int.reduceAdd, Int.reduceSub, Int.reduceNeg, Nat.reduceAdd, Nat.reduceMul, Nat.reducePow, Int.reduceLT, Int.reduceLE, Int.reduceEq, Nat.reduceEqDiff]; rfl) ⟨rfl, by decide⟩ (Nat.le_refl _))) ?_
  simp -implicitDefEqProofs (disch := first | assumption | decide | omega | (simp only [wpD1] <;> omega) | (simp only [wpD2] <;> assumption) | solve_by_elim [HSub.refl, HSub.push, HSub.reserve] | fail) only [↓wpPre, wpPost, wpPoly, Int.reduceToNat, Int.reducePow, Int.reduceMul, Int.reduceAdd, Int.reduceSub, Int.reduceNeg, Nat.reduceAdd, Nat.reduceMul, Nat.reducePow, Int.reduceLT, Int.reduceLE, Int.reduceEq, Nat.reduceEqDiff]
  refine ACallsK.eq (E2 _ _ (by repeat (first | exact HSub.refl h4 | refine HSub.put ?_ (by (try simp only [Heap.size_put, Heap.size_push, Heap.size_reserve]); omega) _ | refine HSub.push ?_ _ | refine HSub.reserve ?_ _)) (SI.known (wr := true) (u := 0) (by simp -implicitDefEqProofs (disch := first | assumption | decide | omega | (simp only [wpD1] <;> omega) | (simp only [wpD2] <;> assumption) | solve_by_elim [HSub.refl, HSub.push, HSub.reserve] | fail) only [↓wpPre, wpPost, wpPoly, Int.reduceToNat, Int.reducePow, Int.reduceMul, Int.reduceAdd, Int.reduceSub, Int.reduceNeg, Nat.reduceAdd, Nat.reduceMul, Nat.reducePow, Int.reduceLT, Int.reduceLE, Int.reduceEq, Nat.reduceEqDiff]; rfl) ⟨rfl, by decide⟩ (Nat.le_refl _))) ?_
  simp -implicitDefEqProofs (disch := first | assumption | decide | omega | (simp only [wpD1] <;> omega) | (simp only [wpD2] <;> assumption) | solve_by_elim [HSub.refl, HSub.push, HSub.reserve] | fail) only [↓wpPre, wpPost, wpPoly, Int.reduceToNat, Int.reducePow, Int.reduceMul, Int.reduceAdd, Int.reduceSub, Int.reduceNeg, Nat.reduceAdd, Nat.reduceMul, Nat.reducePow, Int.reduceLT, Int.reduceLE, Int.reduceEq, Nat.reduceEqDiff]
  refine ACallsK.eq2 (Th _ _ 1 (I _ (by omega)) (R4.mono (by exact (by repeat (first | exact HSub.refl h4 | refine HSub.put ?_ (by (try simp only [Heap.size_put, Heap.size_push, Heap.size_reserve]); omega) _ | refine HSub.push ?_ _ | refine HSub.reserve ?_ _))))) n6 ?_
  simp -implicitDefEqProofs (disch := first | assumption | decide | omega | (simp only [wpD1] <;> omega) | (simp only [wpD2] <;> assumption) | solve_by_elim [HSub.refl, HSub.push, HSub.reserve] | fail) only [↓wpPre, wpPost, wpPoly, Int.reduceToNat, Int.reducePow, Int.reduceMul, Int.reduceAdd, Int.reduceSub, Int.reduceNeg, Nat.reduceAdd, Nat.reduceMul, Nat.reducePow, Int.reduceLT, Int.reduceLE, Int.reduceEq, Nat.reduceEqDiff]
  refine ACallsK.eq2 (Th _ _ 65 (I _ (by omega)) (R4.mono (by exact (by repeat (first | exact HSub.refl h4 | refine HSub.put ?_ (by (try simp only [Heap.size_put, Heap.size_push, Heap.size_reserve]); omega) _ | refine HSub.push ?_ _ | refine HSub.reserve ?_ _))))) n7 ?_
  simp -implicitDefEqProofs (disch := first | assumption | decide | omega | (simp only [wpD1] <;> omega) | (simp only [wpD2] <;> assumption) | solve_by_elim [HSub.refl, HSub.push, HSub.reserve] | fail) only [↓wpPre, wpPost, wpPoly, Int.reduceToNat, Int.reducePow, Int.reduceMul, Int.reduceAdd, Int.reduceSub, Int.reduceNeg, Nat.reduceAdd, Nat.reduceMul, Nat.reducePow, Int.reduceLT, Int.reduceLE, Int.reduceEq, Nat.reduceEqDiff]
  refine ACallsK.eq2 (Sp _) n8 ?_
  simp -implicitDefEqProofs (disch := first | assumption | decide | omega | (simp only [wpD1] <;> omega) | (simp only [wpD2] <;> assumption) | solve_by_elim [HSub.refl, HSub.push, HSub.reserve] | fail) only [↓wpPre, wpPost, wpPoly, Int.reduceToNat, Int.reducePow, Int.reduceMul, Int.reduceAdd, Int.reduceSub, Int.reduceNeg, Nat.reduceAdd, Nat.reduceMul, Nat.reducePow, Int.reduceLT, Int.reduceLE, Int.reduceEq, Nat.reduceEqDiff]
  have St1 := fun v h1 q => St v h1 [(1, 0), (0, 1)] 4 (I _ (by omega)) q
  have e4 : (4 : Int).toNat = 4 := rfl
  rw [m5.2.1, if_pos rfl, e4, m5.2.2.1] at St1
  have St2 := fun v h1 q => St v h1 [(1, 0)] 3 (I _ (by omega)) q
  rw [m5.2.2.2] at St2
  refine ACallsK.of (St1 _ _ (SI.known (wr := true) (u := 0) (by simp -implicitDefEqProofs (disch := first | assumption | decide | omega | (simp only [wpD1] <;> omega) | (simp only [wpD2] <;> assumption) | solve_by_elim [HSub.refl, HSub.push, HSub.reserve] | fail) only [↓wpPre, wpPost, wpPoly, Int.reduceToNat, Int.reducePow, Int.reduceMul, Int.reduceAdd, Int.reduceSub, Int.reduceNeg, Nat.reduceAdd, Nat.reduceMul, Nat.reducePow, Int.reduceLT, Int.reduceLE, Int.reduceEq, Nat.reduceEqDiff]; rfl) ⟨rfl, by decide⟩ (Nat.le_refl _))) ?_
  rintro r h5 ⟨w5, rfl, s5, Q5⟩
  have g13 : h5.get (h4.size + 1 + 1) = some (.cells [.int .i64 0, .int .i64 0, .int .i64 31, .int .i64 0, .int .i64 0, .int .i64 0] true 0) := (s5.get _ (by simp only [Heap.size_push]; omega)).trans (by simp -implicitDefEqProofs (disch := first | assumption | decide | omega | (simp only [wpD1] <;> omega) | (simp only [wpD2] <;> assumption) | solve_by_elim [HSub.refl, HSub.push, HSub.reserve] | fail) only [↓wpPre, wpPost, wpPoly, Int.reduceToNat, Int.reducePow, Int.reduceMul, Int.reduceAdd, Int.reduceSub, Int.reduceNeg, Nat.reduceAdd, Nat.reduceMul, Nat.reducePow, Int.reduceLT, Int.reduceLE, Int.reduceEq, Nat.reduceEqDiff])
  have g14 : h5.get (h4.size + 1 + 1 + 1) = some (.cells [.int .i64 0, .int .i64 0] true 0) := (s5.get _ (by simp only [Heap.size_push]; omega)).trans (by simp -implicitDefEqProofs (disch := first | assumption | decide | omega | (simp only [wpD1] <;> omega) | (simp only [wpD2] <;> assumption) | solve_by_elim [HSub.refl, HSub.push, HSub.reserve] | fail) only [↓wpPre, wpPost, wpPoly, Int.reduceToNat, Int.reducePow, Int.reduceMul, Int.reduceAdd, Int.reduceSub, Int.reduceNeg, Nat.reduceAdd, Nat.reduceMul, Nat.reducePow, Int.reduceLT, Int.reduceLE, Int.reduceEq, Nat.reduceEqDiff])
  have t5 : HSub h4 h5 := (by exact (by repeat (first | exact HSub.refl h4 | refine HSub.put ?_ (by (try simp only [Heap.size_put, Heap.size_push, Heap.size_reserve]); omega) _ | refine HSub.push ?_ _ | refine HSub.reserve ?_ _)) : HSub h4 _).trans s5
  have N5 := t5.size
  simp -implicitDefEqProofs (disch := first | assumption | decide | omega | (simp only [wpD1] <;> omega) | (simp only [wpD2] <;> assumption) | solve_by_elim [HSub.refl, HSub.push, HSub.reserve] | fail) only [↓wpPre, wpPost, wpPoly, Int.reduceToNat, Int.reducePow, Int.reduceMul, Int.reduceAdd, Int.reduceSub, Int.reduceNeg, Nat.reduceAdd, Nat.reduceMul, Nat.reducePow, Int.reduceLT, Int.reduceLE, Int.reduceEq, Nat.reduceEqDiff, lstErr]
  refine ACallsK.of (St2 _ _ (SI.known (wr := true) (u := 0) (by simp -implicitDefEqProofs (disch := first | assumption | decide | omega | (simp only [wpD1] <;> omega) | (simp only [wpD2] <;> assumption) | solve_by_elim [HSub.refl, HSub.push, HSub.reserve] | fail) only [↓wpPre, wpPost, wpPoly, Int.reduceToNat, Int.reducePow, Int.reduceMul, Int.reduceAdd, Int.reduceSub, Int.reduceNeg, Nat.reduceAdd, Nat.reduceMul, Nat.reducePow, Int.reduceLT, Int.reduceLE, Int.reduceEq, Nat.reduceEqDiff]; rfl) ⟨rfl, by decide⟩ (Nat.le_refl _))) ?_
  rintro r h6 ⟨w6, rfl, s6, Q6⟩
  have t6 : HSub h5 h6 := (by exact (by repeat (first | exact HSub.refl h5 | refine HSub.put ?_ (by (try simp only [Heap.size_put, Heap.size_push, Heap.size_reserve]); omega) _ | refine HSub.push ?_ _ | refine HSub.reserve ?_ _)) : HSub h5 _).trans s6
  have g13 := (t6.get _ (Heap.lt_of_get g13)).trans g13
  have g14 := (t6.get _ (Heap.lt_of_get g14)).trans g14
  have Q5 := Q5.mono t6
  have z13 := Heap.lt_of_get g13
  have z14 := Heap.lt_of_get g14
  have N6 := t6.size
  have Eq := fun h7 w (q : HSub h6 h7) (qb : RI h7 w [32258, 64516, 32258, 0]) => Equal_spec (hC.sub (T' := T12) (by decide)) (Q5.mono q) qb
  simp only [decide_true] at Eq
  simp -implicitDefEqProofs (disch := first | assumption | decide | omega | (simp only [wpD1] <;> omega) | (simp only [wpD2] <;> assumption) | solve_by_elim [HSub.refl, HSub.push, HSub.reserve] | fail) only [↓wpPre, wpPost, wpPoly, Int.reduceToNat, Int.reducePow, Int.reduceMul, Int.reduceAdd, Int.reduceSub, Int.reduceNeg, Nat.reduceAdd, Nat.reduceMul, Nat.reducePow, Int.reduceLT, Int.reduceLE, Int.reduceEq, Nat.reduceEqDiff, lstErr]
  refine ACallsK.eq2 (Be _ _ [(1, 0), (0, -2), (2, 0)] (SI.known (wr := true) (u := 0) (by simp -implicitDefEqProofs (disch := first | assumption | decide | omega | (simp only [wpD1] <;> omega) | (simp only [wpD2] <;> assumption) | solve_by_elim [HSub.refl, HSub.push, HSub.reserve] | fail) only [↓wpPre, wpPost, wpPoly, Int.reduceToNat, Int.reducePow, Int.reduceMul, Int.reduceAdd, Int.reduceSub, Int.reduceNeg, Nat.reduceAdd, Nat.reduceMul, Nat.reducePow, Int.reduceLT, Int.reduceLE, Int.reduceEq, Nat.reduceEqDiff]; rfl) ⟨rfl, by decide⟩ (Nat.le_refl _))) n9 ?_
  simp -implicitDefEqProofs (disch := first | assumption | decide | omega | (simp only [wpD1] <;> omega) | (simp only [wpD2] <;> assumption) | solve_by_elim [HSub.refl, HSub.push, HSub.reserve] | fail) only [↓wpPre, wpPost, wpPoly, Int.reduceToNat, Int.reducePow, Int.reduceMul, Int.reduceAdd, Int.reduceSub, Int.reduceNeg, Nat.reduceAdd, Nat.reduceMul, Nat.reducePow, Int.reduceLT, Int.reduceLE, Int.reduceEq, Nat.reduceEqDiff]
  refine ACallsK.eq2 (Be _ _ [] SI.nil) n10 ?_
  simp -implicitDefEqProofs (disch := first | assumption | decide | omega | (simp only [wpD1] <;> omega) | (simp only [wpD2] <;> assumption) | solve_by_elim [HSub.refl, HSub.push, HSub.reserve] | fail) only [↓wpPre, wpPost, wpPoly, Int.reduceToNat, Int.reducePow, Int.reduceMul, Int.reduceAdd, Int.reduceSub, Int.reduceNeg, Nat.reduceAdd, Nat.reduceMul, Nat.reducePow, Int.reduceLT, Int.reduceLE, Int.reduceEq, Nat.reduceEqDiff]
  refine ACallsK.eq (aw _) ?_
  simp -implicitDefEqProofs (disch := first | assumption | decide | omega | (simp only [wpD1] <;> omega) | (simp only [wpD2] <;> assumption) | solve_by_elim [HSub.refl, HSub.push, HSub.reserve] | fail) only [↓wpPre, wpPost, wpPoly, Int.reduceToNat, Int.reducePow, Int.reduceMul, Int.reduceAdd, Int.reduceSub, Int.reduceNeg, Nat.reduceAdd, Nat.reduceMul, Nat.reducePow, Int.reduceLT, Int.reduceLE, Int.reduceEq, Nat.reduceEqDiff, g13, g14, eqs_six2, eqs_two_f]
  refine ACallsK.eq (Eq _ _ (by repeat (first | exact HSub.refl h6 | refine HSub.put ?_ (by (try simp only [Heap.size_put, Heap.size_push, Heap.size_reserve]); omega) _ | refine HSub.push ?_ _ | refine HSub.reserve ?_ _)) (RI.known (wr := true) (u := 0) ?_ ⟨rfl, by decide⟩ (Nat.le_refl _))) ?_
  · first | rfl | exact get_push_eq rfl | (simp -implicitDefEqProofs (disch := first | assumption | decide | omega | (simp only [wpD1] <;> omega) | (simp only [wpD2] <;> assumption) | solve_by_elim [HSub.refl, HSub.push, HSub.reserve] | fail) only [↓wpPre, wpPost, wpPoly, Int.reduceToNat, Int.reducePow, Int.reduceMul, Int.reduceAdd, Int.reduceSub, Int.reduceNeg, Nat.reduceAdd, Nat.reduceMul, Nat.reducePow, Int.reduceLT, Int.reduceLE, Int.reduceEq, Nat.reduceEqDiff]; rfl)
  simp -implicitDefEqProofs (disch := first | assumption | decide | omega | (simp only [wpD1] <;> omega) | (simp only [wpD2] <;> assumption) | solve_by_elim [HSub.refl, HSub.push, HSub.reserve] | fail) only [↓wpPre, wpPost, wpPoly, Int.reduceToNat, Int.reducePow, Int.reduceMul, Int.reduceAdd, Int.reduceSub, Int.reduceNeg, Nat.reduceAdd, Nat.reduceMul, Nat.reducePow, Int.reduceLT, Int.reduceLE, Int.reduceEq, Nat.reduceEqDiff]
  exact (((((s1.trans t2).trans t3).trans s4).trans t5).trans t6).trans (by exact (by repeat (first | exact HSub.refl h6 | refine HSub.put ?_ (by (try simp only [Heap.size_put, Heap.size_push, Heap.size_reserve]); omega) _ | refine HSub.push ?_ _ | refine HSub.reserve ?_ _)))
end
end Go.Ae

/- A number, turned into a range. -/
set_option linter.unusedSimpArgs false
set_option linter.unusedVariables false
namespace Go.Ae
theorem turnN {x : Int} {n : Nat} (hn : 0 < n) : ∃ k : Nat, x % (n : Int) = k ∧ k < n := by
  have h1 := Int.emod_nonneg x (show (n : Int) ≠ 0 by omega)
  have h2 := Int.emod_lt_of_pos x (show (0 : Int) < n by omega)
  exact ⟨(x % n).toNat, by omega, by omega⟩
end Go.Ae

/- Sums of lists, of shifted lists, in plain numbers; the levels that numbers select. -/
set_option linter.unusedSimpArgs false
set_option linter.unusedVariables false
namespace Go.Ae
def lv (x : Int) : Int × Int := (x % 127 - 63, x.tdiv 127 % 127 - 63)
def lvL (l : List Int) : List (Int × Int) := l.map lv
theorem lvL_length (l : List Int) : (lvL l).length = l.length := by simp [lvL]
theorem lv_in (x : Int) : inS 63 (lv x) := by unfold inS lv; simp only; omega
theorem lvL_in (l : List Int) : ∀ p ∈ lvL l, inS 63 p := by
  intro p hp
  unfold lvL at hp
  obtain ⟨x, _, rfl⟩ := List.mem_map.1 hp
  exact lv_in x
theorem lvL_take (l : List Int) {k : Nat} (hk : k < l.length) : lvL (l.take (k + 1)) = lvL (l.take k) ++ [lv (l.getD k 0)] := by
  rw [List.take_succ_eq_append_getElem hk, show l[k] = l.getD k 0 by simp [hk]]
  unfold lvL
  rw [List.map_append]; rfl
theorem atP_le' {s : List (Int × Int)} {B : Int} (h0 : 0 ≤ B) (h : ∀ x ∈ s, inS B x) (i : Int) : inS B (atP s i) := by
  unfold atP
  split
  · unfold inS; simp; omega
  · exact h _ (getP_mem (by omega))
def bothL (s t : List (Int × Int)) (k : Nat) : List (Int × Int) := (List.range k).map fun i => addP (atP s (i : Nat)) (atP t (i : Nat))
theorem bothL_length (s t : List (Int × Int)) (k : Nat) : (bothL s t k).length = k := by simp [bothL]
theorem bothL_succ (s t : List (Int × Int)) (k : Nat) : bothL s t (k + 1) = bothL s t k ++ [addP (atP s (k : Nat)) (atP t (k : Nat))] := by simp [bothL, List.range_succ]
theorem bothL_in {s t : List (Int × Int)} (hs : ∀ x ∈ s, inS 63 x) (ht : ∀ x ∈ t, inS 63 x) (k : Nat) : ∀ x ∈ bothL s t k, inS 127 x := by
  intro x hx
  unfold bothL at hx
  obtain ⟨i, _, rfl⟩ := List.mem_map.1 hx
  exact inS_mono (inS_add (atP_le' (by omega) hs _) (atP_le' (by omega) ht _)) (by omega)
theorem atP_both (s t : List (Int × Int)) (i : Int) : atP (bothL s t (max s.length t.length)) i = addP (atP s i) (atP t i) := by
  have hl := bothL_length s t (max s.length t.length)
  rcases Int.lt_or_le i 0 with c | c
  · unfold atP
    rw [if_pos (.inl c), if_pos (.inl c), if_pos (.inl c)]; rfl
  · obtain ⟨k, rfl⟩ := Int.eq_ofNat_of_zero_le c
    rcases Nat.lt_or_ge k (max s.length t.length) with d | d
    · rw [atP_in (s := bothL s t _) (by omega) (by omega), Int.toNat_natCast]
      unfold bothL
      simp [d]
    · unfold atP
      rw [if_pos (.inr (by omega)), if_pos (.inr (by omega)), if_pos (.inr (by omega))]; rfl
theorem sumK_both (s t : List (Int × Int)) (c : List Int) (a : Int) : ∀ k, sumK (bothL s t (max s.length t.length)) c a k = addP (sumK s c a k) (sumK t c a k)
  | 0 => rfl
  | k + 1 => by
    rw [sumK, sumK, sumK, sumK_both s t c a k, atP_both]
    unfold addP mulP
    refine Prod.ext ?_ ?_ <;> simp only [Int.add_mul] <;> omega
theorem atP_front (s : List (Int × Int)) (f : Nat) (i : Int) : atP (List.replicate f (0, 0) ++ s) (i + f) = atP s i := by
  rcases Int.lt_or_le i 0 with c | c
  · rw [show atP s i = (0, 0) from if_pos (.inl c)]
    unfold atP
    split
    · rfl
    · rename_i q
      rw [List.getD_eq_getElem?_getD, List.getElem?_append_left (by simp; omega), List.getElem?_replicate]
      split <;> rfl
  · obtain ⟨k, rfl⟩ := Int.eq_ofNat_of_zero_le c
    unfold atP
    rw [List.length_append, List.length_replicate]
    rcases Nat.lt_or_ge k s.length with d | d
    · rw [if_neg (by omega), if_neg (by omega), show ((k : Int) + (f : Int)).toNat = f + k by omega, Int.toNat_natCast, List.getD_eq_getElem?_getD, List.getElem?_append_right (by simp), List.length_replicate, Nat.add_sub_cancel_left, List.getD_eq_getElem?_getD]
    · rw [if_pos (.inr (by omega)), if_pos (.inr (by omega))]
theorem sumK_front (s : List (Int × Int)) (f : Nat) (c : List Int) (a : Int) : ∀ k, sumK (List.replicate f (0, 0) ++ s) c (a + f) k = sumK s c a k
  | 0 => rfl
  | k + 1 => by
    rw [sumK, sumK, sumK_front s f c a k, show a + (f : Int) + ((k : Nat) : Int) = a + (k : Nat) + f by omega, atP_front]
theorem bankErr_zero {s : List (Int × Int)} {d o p a : Int} (h1 : s.length ≤ 1048576) (h2 : ∀ x ∈ s, inS 127 x) (h3 : sampErr d o [p] = 0) (h4 : -2000000 ≤ a ∧ a ≤ 2000000) : bankErr s d o p a = 0 := by
  unfold bankErr
  rw [if_neg (by omega), if_neg (not_not_intro h2), if_neg (not_not_intro h3), if_neg (by omega)]
section
variable {C : Ctx}
set_option maxHeartbeats 1000000 in
theorem levels284_spec (hC : Has C T284) {v : AV} {l : List Int} {h : Heap} (hl : RI h v l) (hb : l.length ≤ 100000) (hx : ∀ x ∈ l, In64 x) : ACalls C 284 [v] h (fun r h' => HSub h h' ∧ SI h' r (lvL l)) := by
  have hlt := hl.lt
  have tn := fun (h1 : Heap) (x : Int) (q : In64 x) => Turn_spec (h := h1) (x := x) (n := 127) (hC.sub (T' := T23) (by decide)) q (by omega)
  (refine calls_intro (hC.body (by decide) tab284) (Nat.le_of_ble_eq_true rfl) ?_); (show wp C _ none B284.code _ _); (simp only [B284]); simp -implicitDefEqProofs (disch := first | assumption | decide | omega | (simp only [wpD1] <;> omega) | (simp only [wpD2] <;> assumption) | solve_by_elim [HSub.refl, HSub.push, HSub.reserve] | fail) only [↓wpPre, wpPost, wpPoly, Int.reduceToNat, Int.reducePow, Int.reduceMul, Int.reduceAdd, Int.reduceSub, Int.reduceNeg, Nat.reduceAdd, Nat.reduceMul, Nat.reducePow, Int.reduceLT, Int.reduceLE, Int.reduceEq, Nat.reduceEqDiff]
  refine wp_loopI (fun j t h' => ∃ k : Nat, GrwS h h' (t 3) (lvL (l.take k)) ∧ t 0 = v ∧ t 4 = .int .i64 (k : Nat) ∧ k ≤ l.length ∧ j = l.length - k) (j0 := l.length)
    ⟨0, GrwS.nil _, rfl, rfl, by omega, rfl⟩ ?_
  rintro j t h2 ⟨k, A, e0, e4, hk, hj⟩
  have Rl := hl.mono A.sub
  simp -implicitDefEqProofs (disch := first | assumption | decide | omega | (simp only [wpD1] <;> omega) | (simp only [wpD2] <;> assumption) | solve_by_elim [HSub.refl, HSub.push, HSub.reserve] | fail) only [↓wpPre, wpPost, wpPoly, Int.reduceToNat, Int.reducePow, Int.reduceMul, Int.reduceAdd, Int.reduceSub, Int.reduceNeg, Nat.reduceAdd, Nat.reduceMul, Nat.reducePow, Int.reduceLT, Int.reduceLE, Int.reduceEq, Nat.reduceEqDiff, e0, e4, Rl.len]
  refine Br.by (fun c3 => ?_) (fun c3 => ?_)
  · have hk' : k < l.length := by omega
    have cs := lvL_take l hk'
    have cl : (lvL (l.take k)).length = k := by rw [lvL_length, List.length_take]; omega
    have ld := Rl.load hk'
    have x64 : In64 (l.getD k 0) := hx _ (getD_mem hk')
    have d64 : In64 ((l.getD k 0).tdiv 127) := by
      have q : ((l.getD k 0).tdiv 127).natAbs = (l.getD k 0).natAbs / 127 := Int.natAbs_tdiv _ _
      unfold In64 at x64 ⊢
      generalize (l.getD k 0).tdiv 127 = y at *
      omega
    have t1 := fun h1 => tn h1 _ x64
    have t2 := fun h1 => tn h1 _ d64
    have d1 := d64
    unfold In64 at d1
    unfold lv at cs
    have xv := lv_in (l.getD k 0)
    unfold lv inS at xv
    simp only at xv
    simp -implicitDefEqProofs (disch := first | assumption | decide | omega | (simp only [wpD1] <;> omega) | (simp only [wpD2] <;> assumption) | solve_by_elim [HSub.refl, HSub.push, HSub.reserve] | fail) only [↓wpPre, wpPost, wpPoly, Int.reduceToNat, Int.reducePow, Int.reduceMul, Int.reduceAdd, Int.reduceSub, Int.reduceNeg, Nat.reduceAdd, Nat.reduceMul, Nat.reducePow, Int.reduceLT, Int.reduceLE, Int.reduceEq, Nat.reduceEqDiff, e0, e4, Rl.idx, Rl.loadC]
    refine ACallsK.eq (t1 _) ?_
    simp -implicitDefEqProofs (disch := first | assumption | decide | omega | (simp only [wpD1] <;> omega) | (simp only [wpD2] <;> assumption) | solve_by_elim [HSub.refl, HSub.push, HSub.reserve] | fail) only [↓wpPre, wpPost, wpPoly, Int.reduceToNat, Int.reducePow, Int.reduceMul, Int.reduceAdd, Int.reduceSub, Int.reduceNeg, Nat.reduceAdd, Nat.reduceMul, Nat.reducePow, Int.reduceLT, Int.reduceLE, Int.reduceEq, Nat.reduceEqDiff]
    refine ACallsK.eq (t2 _) ?_
    have hsH : HSub h2 ((h2.reserve 18).put (h2.size + 15) (.cells [.int .i64 (l.getD k 0 % 127 - 63), .int .i64 ((l.getD k 0).tdiv 127 % 127 - 63)] true 0)) := ((HSub.refl h2).reserve 18).put (by omega) _
    have zH : ((h2.reserve 18).put (h2.size + 15) (.cells [.int .i64 (l.getD k 0 % 127 - 63), .int .i64 ((l.getD k 0).tdiv 127 % 127 - 63)] true 0)).size = h2.size + 18 := by simp only [Heap.size_put, Heap.size_reserve]
    have ap := A.appG (a := l.getD k 0 % 127 - 63) (b := (l.getD k 0).tdiv 127 % 127 - 63) (k := h2.size + 16) (fun i hi => hsH.get i (Grw.ids_lt A i hi).2) ⟨by omega, by omega⟩ (by omega)
    have gN : ((h2.reserve 18).put (h2.size + 15) (.cells [.int .i64 (l.getD k 0 % 127 - 63), .int .i64 ((l.getD k 0).tdiv 127 % 127 - 63)] true 0)).get (h2.size + 16) = none := by
      rw [get_put_ne (by omega), Heap.get_reserve]; exact h2.wf _ (by omega)
    have bS := snocS_sub (k := h2.size + 16) (ds := smps (lvL (l.take (k + 1)))) A (A.sub.trans hsH) (by have := A.sub.size; omega)
    have cS : (snocH ((h2.reserve 18).put (h2.size + 15) (.cells [.int .i64 (l.getD k 0 % 127 - 63), .int .i64 ((l.getD k 0).tdiv 127 % 127 - 63)] true 0)) (some (h2.size + 16)) (t 3) 2 (smps (lvL (l.take (k + 1))))).get (h2.size + 16) = some (.cells (smps (lvL (l.take (k + 1)))) true 2) := snocS_same (by omega)
    rw [← cs] at ap
    simp -implicitDefEqProofs (disch := first | assumption | decide | omega | (simp only [wpD1] <;> omega) | (simp only [wpD2] <;> assumption) | solve_by_elim [HSub.refl, HSub.push, HSub.reserve] | fail) only [↓wpPre, wpPost, wpPoly, Int.reduceToNat, Int.reducePow, Int.reduceMul, Int.reduceAdd, Int.reduceSub, Int.reduceNeg, Nat.reduceAdd, Nat.reduceMul, Nat.reducePow, Int.reduceLT, Int.reduceLE, Int.reduceEq, Nat.reduceEqDiff, cont_slice, contB_two, Heap.wf, ap, gN, appK_none, e0, e4]
    refine ⟨_, ⟨k + 1, ?_, by omega, by omega, rfl⟩, by omega⟩
    rw [cl]
    exact GrwS.mk bS (by have := A.sub.size; omega) ⟨by rw [lvL_length, List.length_take]; omega, by rw [lvL_length, List.length_take]; omega⟩ cS
  · have ek : k = l.length := by omega
    subst ek
    rw [List.take_length] at A
    simp -implicitDefEqProofs (disch := first | assumption | decide | omega | (simp only [wpD1] <;> omega) | (simp only [wpD2] <;> assumption) | solve_by_elim [HSub.refl, HSub.push, HSub.reserve] | fail) only [↓wpPre, wpPost, wpPoly, Int.reduceToNat, Int.reducePow, Int.reduceMul, Int.reduceAdd, Int.reduceSub, Int.reduceNeg, Nat.reduceAdd, Nat.reduceMul, Nat.reducePow, Int.reduceLT, Int.reduceLE, Int.reduceEq, Nat.reduceEqDiff]
    exact ⟨A.sub, A.si⟩
end
end Go.Ae

/- The statement on sums of sums, of layer 14. -/
set_option linter.unusedSimpArgs false
set_option linter.unusedVariables false
namespace Go.Ae
def bothM (s t : List (Int × Int)) (M k : Nat) (x : Int × Int) : List (Int × Int) := bothL s t k ++ x :: List.replicate (M - (k + 1)) (0, 0)
theorem bothM_length {s t : List (Int × Int)} {M k : Nat} {x : Int × Int} (h : k < M) : (bothM s t M k x).length = M := by simp [bothM, bothL_length]; omega
theorem bothM_zero {s t : List (Int × Int)} {M k : Nat} (h : k < M) : bothL s t k ++ List.replicate (M - k) (0, 0) = bothM s t M k (0, 0) := by
  unfold bothM
  rw [show M - k = M - (k + 1) + 1 by omega, List.replicate_succ]
theorem bothM_next {s t : List (Int × Int)} {M k : Nat} : bothM s t M k (addP (atP s (k : Nat)) (atP t (k : Nat))) = bothL s t (k + 1) ++ List.replicate (M - (k + 1)) (0, 0) := by
  unfold bothM
  rw [bothL_succ, List.append_assoc]; rfl
theorem bothM_set {s t : List (Int × Int)} {M k : Nat} {x y : Int × Int} (h : k < M) : (bothM s t M k x).set k y = bothM s t M k y := by
  unfold bothM
  rw [List.set_append_right _ _ (by rw [bothL_length]; omega), bothL_length, Nat.sub_self, List.set_cons_zero]
theorem bothM_splice {s t : List (Int × Int)} {M k : Nat} {x : Int × Int} {a b : Int} (h : k < M) : splice (smps (bothM s t M k x)) (k * 2) [.int .i64 a, .int .i64 b] = smps (bothM s t M k (a, b)) := by
  have e := smps_splice (l := bothM s t M k x) (k := k) (p := (a, b)) (by rw [bothM_length h]; exact h)
  rw [bothM_set h] at e
  exact e
theorem bothM_get {s t : List (Int × Int)} {M k : Nat} {x : Int × Int} : (bothM s t M k x)[k]? = some x := by
  unfold bothM
  rw [List.getElem?_append_right (by rw [bothL_length]; omega), bothL_length, Nat.sub_self]; rfl
theorem bothM_get0 {s t : List (Int × Int)} {M k : Nat} {x : Int × Int} : (smps (bothM s t M k x))[k * 2]? = some (.int .i64 x.1) := by
  rw [smps_get0, bothM_get]; rfl
theorem bothM_get1 {s t : List (Int × Int)} {M k : Nat} {x : Int × Int} : (smps (bothM s t M k x))[k * 2 + 1]? = some (.int .i64 x.2) := by
  rw [smps_get1, bothM_get]; rfl
def frontV (S : List (Int × Int)) (H : Heap) (i f : Nat) : AV := if S.length = 0 then .slice i 0 f (.known f) else .slice H.size 0 (f + S.length) (.unk 0)
def frontH (S : List (Int × Int)) (H : Heap) (f : Nat) : Heap := if S.length = 0 then H else H.push (.cells (smps (List.replicate f (0, 0) ++ S)) true 2)
theorem front_app {S : List (Int × Int)} {H : Heap} {i f : Nat} (hg : H.get i = some (.cells (smps (List.replicate f (0, 0))) true 0)) (hf : f ≤ 1000) (hS : S.length ≤ 1000) :
    appendA H none 2 16 (.slice i 0 f (.known f)) S.length (smps S) = some (frontV S H i f, frontH S H f) := by
  unfold frontV frontH
  by_cases c : S.length = 0
  · rw [if_pos c, if_pos c, c]
    simp [appendA, hg]
  · rw [if_neg c, if_neg c]
    have e : cut (smps (List.replicate f (0, 0))) 0 (f * 2) ++ smps S = smps (List.replicate f (0, 0) ++ S) := by
      have e1 : (smps (List.replicate f ((0 : Int), (0 : Int)))).length = f * 2 := by rw [smps_length, List.length_replicate]
      unfold cut
      rw [List.drop_zero, List.take_of_length_le (by omega)]
      exact (List.flatMap_append).symm
    have e2 : (smps (List.replicate f ((0 : Int), (0 : Int)))).length = f * 2 := by rw [smps_length, List.length_replicate]
    simp only [appendA, if_neg c, hg]
    rw [if_pos (by omega), if_neg (by omega), if_pos ⟨by omega, rfl⟩, e]
    rfl
theorem frontH_sub (S : List (Int × Int)) (H : Heap) (f : Nat) : HSub H (frontH S H f) := by
  unfold frontH
  split
  · exact HSub.refl _
  · exact HSub.push1 _ _
theorem front_si {S : List (Int × Int)} {H : Heap} {i f : Nat} (hg : H.get i = some (.cells (smps (List.replicate f (0, 0))) true 0)) (hf : f ≤ 1000) (hS : S.length ≤ 1000) : SI (frontH S H f) (frontV S H i f) (List.replicate f (0, 0) ++ S) := by
  unfold frontV frontH
  by_cases c : S.length = 0
  · rw [if_pos c, if_pos c, List.eq_nil_of_length_eq_zero c, List.append_nil]
    exact SI.known hg ⟨by simp, by omega⟩ (Nat.le_refl _)
  · rw [if_neg c, if_neg c]
    have ln : f + S.length = (List.replicate f ((0 : Int), (0 : Int)) ++ S).length := by simp
    exact (GrwS.mk (h0 := Heap.empty) (l := List.replicate f (0, 0) ++ S) ⟨Nat.zero_le _, fun i hi => absurd hi (Nat.not_lt_zero i)⟩ (Nat.zero_le _) ⟨ln, by rw [← ln]; omega⟩ (by rw [Heap.get_push, if_pos rfl])).si
theorem samp5 : ∀ ko < 3, ∀ kp < 33, sampErr 5 (1 + ((ko : Nat) : Int)) [1 + ((kp : Nat) : Int)] = 0 := by decide +kernel
theorem bank5 (s : List (Int × Int)) (c : List Int) (a : Int) : bankL s c (a - 2) 1 5 = [sumP s c (a - 2), sumP s c (a - 1), sumP s c a, sumP s c (a + 1), sumP s c (a + 2)] := by
  unfold bankL
  rw [show List.range 5 = [0, 1, 2, 3, 4] from rfl]
  simp only [List.map_cons, List.map_nil]
  rw [show a - 2 + ((0 : Nat) : Int) * 1 = a - 2 by omega, show a - 2 + ((1 : Nat) : Int) * 1 = a - 1 by omega, show a - 2 + ((2 : Nat) : Int) * 1 = a by omega, show a - 2 + ((3 : Nat) : Int) * 1 = a + 1 by omega, show a - 2 + ((4 : Nat) : Int) * 1 = a + 2 by omega]
theorem win3 (s : List (Int × Int)) (c : List Int) (a w : Int) : bankL s c a w 3 = [sumP s c a, sumP s c (a + w), sumP s c (a + 2 * w)] := by
  unfold bankL
  rw [show List.range 3 = [0, 1, 2] from rfl]
  simp only [List.map_cons, List.map_nil]
  rw [show a + ((0 : Nat) : Int) * w = a by omega, show a + ((1 : Nat) : Int) * w = a + w by omega, show a + ((2 : Nat) : Int) * w = a + 2 * w by omega]
theorem atP_none {s : List (Int × Int)} {k : Nat} (h : s.length ≤ k) : atP s (k : Nat) = (0, 0) := by unfold atP; rw [if_pos (.inr (by omega))]
theorem max_four {k : IntKind} {a b c d : Int} : maxA [.int k a, .int k b, .int k c, .int k d] = some (.int k (max (max (max a b) c) d)) := by
  have e : ∀ x y : Int, (if x < y then y else x) = max x y := fun x y => by rw [Int.max_def]; split <;> split <;> omega
  simp only [maxA, List.foldl_cons, List.foldl_nil, maxStep, e]
  simp [maxStep, e]
section
variable {C : Ctx}
set_option maxHeartbeats 8000000 in
set_option maxRecDepth 40000 in
theorem BankLinear_law (hC : Has C T266) {vl vm : AV} {l m : List Int} {ov pr pa fr : Int} {h : Heap} (hl : RI h vl l) (hm : RI h vm m) (hov : In64 ov) (hpr : In64 pr) (hpa : In64 pa) (hfr : In64 fr) (hxl : ∀ x ∈ l, In64 x) (hxm : ∀ x ∈ m, In64 x) :
    ACalls C 266 [vl, vm, .int .i64 ov, .int .i64 pr, .int .i64 pa, .int .i64 fr] h (fun r _ => r = .bool true) := by
  have I : ∀ n : Int, -10000 ≤ n ∧ n ≤ 10000 → In64 n := fun n hn => by unfold In64; omega
  have kn := fun h => known265_spec (hC.sub (T' := T265) (by decide)) (h := h)
  by_cases c1 : 150 < l.length
  · (refine calls_intro (hC.body (by decide) tab266) (Nat.le_of_ble_eq_true rfl) ?_); (show wp C _ none B266.code _ _); (simp only [B266]); simp -implicitDefEqProofs (disch := first | assumption | decide | omega | (simp only [wpD1] <;> omega) | (simp only [wpD2] <;> assumption) | solve_by_elim [HSub.refl, HSub.push, HSub.reserve] | fail) only [↓wpPre, wpPost, wpPoly, Int.reduceToNat, Int.reducePow, Int.reduceMul, Int.reduceAdd, Int.reduceSub, Int.reduceNeg, Nat.reduceAdd, Nat.reduceMul, Nat.reducePow, Int.reduceLT, Int.reduceLE, Int.reduceEq, Nat.reduceEqDiff, hl.len, hm.len, gV_u]
    refine ACallsK.eq (kn _) ?_
    simp -implicitDefEqProofs (disch := first | assumption | decide | omega | (simp only [wpD1] <;> omega) | (simp only [wpD2] <;> assumption) | solve_by_elim [HSub.refl, HSub.push, HSub.reserve] | fail) only [↓wpPre, wpPost, wpPoly, Int.reduceToNat, Int.reducePow, Int.reduceMul, Int.reduceAdd, Int.reduceSub, Int.reduceNeg, Nat.reduceAdd, Nat.reduceMul, Nat.reducePow, Int.reduceLT, Int.reduceLE, Int.reduceEq, Nat.reduceEqDiff, hl.len, hm.len, gV_u]
  by_cases c2 : 150 < m.length
  · (refine calls_intro (hC.body (by decide) tab266) (Nat.le_of_ble_eq_true rfl) ?_); (show wp C _ none B266.code _ _); (simp only [B266]); simp -implicitDefEqProofs (disch := first | assumption | decide | omega | (simp only [wpD1] <;> omega) | (simp only [wpD2] <;> assumption) | solve_by_elim [HSub.refl, HSub.push, HSub.reserve] | fail) only [↓wpPre, wpPost, wpPoly, Int.reduceToNat, Int.reducePow, Int.reduceMul, Int.reduceAdd, Int.reduceSub, Int.reduceNeg, Nat.reduceAdd, Nat.reduceMul, Nat.reducePow, Int.reduceLT, Int.reduceLE, Int.reduceEq, Nat.reduceEqDiff, hl.len, hm.len, gV_u]
    refine ACallsK.eq (kn _) ?_
    simp -implicitDefEqProofs (disch := first | assumption | decide | omega | (simp only [wpD1] <;> omega) | (simp only [wpD2] <;> assumption) | solve_by_elim [HSub.refl, HSub.push, HSub.reserve] | fail) only [↓wpPre, wpPost, wpPoly, Int.reduceToNat, Int.reducePow, Int.reduceMul, Int.reduceAdd, Int.reduceSub, Int.reduceNeg, Nat.reduceAdd, Nat.reduceMul, Nat.reducePow, Int.reduceLT, Int.reduceLE, Int.reduceEq, Nat.reduceEqDiff, hl.len, hm.len, gV_u]
  obtain ⟨ko, eo, lo⟩ := turnN (x := ov) (n := 3) (by omega)
  obtain ⟨kp, ep, lp⟩ := turnN (x := pr) (n := 33) (by omega)
  obtain ⟨ka, ea, la⟩ := turnN (x := pa) (n := 201) (by omega)
  obtain ⟨kf, ef, lf⟩ := turnN (x := fr) (n := 30) (by omega)
  have t1 := fun h1 => Turn_spec (h := h1) (x := ov) (n := 3) (hC.sub (T' := T23) (by decide)) hov (by omega)
  have t2 := fun h1 => Turn_spec (h := h1) (x := pr) (n := 33) (hC.sub (T' := T23) (by decide)) hpr (by omega)
  have t3 := fun h1 => Turn_spec (h := h1) (x := pa) (n := 201) (hC.sub (T' := T23) (by decide)) hpa (by omega)
  have t4 := fun h1 => Turn_spec (h := h1) (x := fr) (n := 30) (hC.sub (T' := T23) (by decide)) hfr (by omega)
  replace eo : ov % 3 = (ko : Int) := eo
  replace ep : pr % 33 = (kp : Int) := ep
  replace ea : pa % 201 = (ka : Int) := ea
  replace ef : fr % 30 = (kf : Int) := ef
  rw [eo] at t1
  rw [ep] at t2
  rw [ea] at t3
  rw [ef] at t4
  have Ls := lvL_length l
  have Lt := lvL_length m
  have Is := lvL_in l
  have It := lvL_in m
  have L1 := fun h1 v (q : RI h1 v l) => levels284_spec (hC.sub (T' := T284) (by decide)) q (by omega) hxl
  have L2 := fun h1 v (q : RI h1 v m) => levels284_spec (hC.sub (T' := T284) (by decide)) q (by omega) hxm
  generalize lvL l = S at Ls Is L1
  generalize lvL m = T at Lt It L2
  have sE := samp5 ko lo kp lp
  have cL : ((sampL 5 (1 + (kp : Int)) (1 + (ko : Int)).toNat).length : Int) = 31 * (1 + ko) := by
    rw [sampL_length, show lenN 5 = 31 by decide]; omega
  have cO := sampL_one1 5 (1 + (kp : Int)) (1 + (ko : Int)).toNat
  obtain ⟨M, hM⟩ : ∃ M, M = max S.length T.length := ⟨_, rfl⟩
  have hmx : max (S.length : Int) (T.length : Int) = (M : Int) := by omega
  have hz := smps_replicate (p := (0, 0)) (n := M)
  have hzf := smps_replicate (p := (0, 0)) (n := kf)
  simp only at hz hzf
  have Bs : ∀ x ∈ S, inS 127 x := fun x hx => inS_mono (Is x hx) (by omega)
  have Bt : ∀ x ∈ T, inS 127 x := fun x hx => inS_mono (It x hx) (by omega)
  have Bb : ∀ x ∈ bothL S T M, inS 127 x := bothL_in Is It M
  have Bf : ∀ x ∈ List.replicate kf (0, 0) ++ S, inS 127 x := by
    intro x hx
    rcases List.mem_append.1 hx with q | q
    · rw [List.eq_of_mem_replicate q]; unfold inS; simp only; omega
    · exact Bs x q
  have Lf : (List.replicate kf ((0 : Int), (0 : Int)) ++ S).length = kf + S.length := by simp
  have Lb := bothL_length S T M
  have zE : ∀ (L : List (Int × Int)) (a : Int), (∀ x ∈ L, inS 127 x) → L.length ≤ 1000 → -10000 ≤ a ∧ a ≤ 10000 → bankErr L 5 (1 + (ko : Int)) (1 + (kp : Int)) a = 0 := fun L a b1 b2 b3 => bankErr_zero (by omega) b1 sE (by omega)
  have kS : ∀ (L : List (Int × Int)) (a : Int), (∀ x ∈ L, inS 127 x) → L.length ≤ 1000 → -10000 ≤ a ∧ a ≤ 10000 → ∀ h1 v, SI h1 v L → ACalls C 275 [v, .int .i64 5, .int .i64 (1 + (ko : Int)), .int .i64 (1 + (kp : Int)), .int .i64 a] h1 (fun r h' => r = .tuple [.agg [.int .i64 (sumP L (sampL 5 (1 + (kp : Int)) (1 + (ko : Int)).toNat) a).1, .int .i64 (sumP L (sampL 5 (1 + (kp : Int)) (1 + (ko : Int)).toNat) a).2], .int .i64 0] ∧ h' = h1) := by
    intro L a b1 b2 b3 h1 v q
    have k := BSum_spec (hC.sub (T' := T275) (by decide)) (d := 5) (o := 1 + (ko : Int)) (p := 1 + (kp : Int)) (a := a) q (I _ (by omega)) (I _ (by omega)) (I _ (by omega)) (I _ b3)
    unfold bsumE at k
    rw [zE L a b1 b2 b3, if_pos rfl] at k
    exact k
  have kB : ∀ h1 v, SI h1 v S → ACalls C 277 [v, .int .i64 5, .int .i64 (1 + (ko : Int)), .int .i64 (1 + (kp : Int)), .int .i64 ((ka : Int) - 40 - 2), .int .i64 5] h1 (fun r h' => ∃ w, r = lstErr w 0 ∧ HSub h1 h' ∧ SI h' w [sumP S (sampL 5 (1 + (kp : Int)) (1 + (ko : Int)).toNat) ((ka : Int) - 40 - 2), sumP S (sampL 5 (1 + (kp : Int)) (1 + (ko : Int)).toNat) ((ka : Int) - 40 - 1), sumP S (sampL 5 (1 + (kp : Int)) (1 + (ko : Int)).toNat) ((ka : Int) - 40), sumP S (sampL 5 (1 + (kp : Int)) (1 + (ko : Int)).toNat) ((ka : Int) - 40 + 1), sumP S (sampL 5 (1 + (kp : Int)) (1 + (ko : Int)).toNat) ((ka : Int) - 40 + 2)]) := by
    intro h1 v q
    have k := Bank_spec (hC.sub (T' := T277) (by decide)) (d := 5) (o := 1 + (ko : Int)) (p := 1 + (kp : Int)) (a := (ka : Int) - 40 - 2) (many := 5) q (I _ (by omega)) (I _ (by omega)) (I _ (by omega)) (I _ (by omega)) (I _ (by omega)) (by omega)
    unfold bankE manyE at k
    rw [zE S _ Bs (by omega) (by omega), if_neg (by decide), if_neg (by decide), if_pos rfl, show (5 : Int).toNat = 5 from rfl, bank5] at k
    exact k
  have kW : ∀ h1 v, SI h1 v S → ACalls C 279 [v, .int .i64 5, .int .i64 (1 + (ko : Int)), .int .i64 (1 + (kp : Int)), .int .i64 ((ka : Int) - 40), .int .i64 3] h1 (fun r h' => ∃ w, r = lstErr w 0 ∧ HSub h1 h' ∧ SI h' w [sumP S (sampL 5 (1 + (kp : Int)) (1 + (ko : Int)).toNat) ((ka : Int) - 40), sumP S (sampL 5 (1 + (kp : Int)) (1 + (ko : Int)).toNat) ((ka : Int) - 40 + 31 * (1 + (ko : Int))), sumP S (sampL 5 (1 + (kp : Int)) (1 + (ko : Int)).toNat) ((ka : Int) - 40 + 2 * (31 * (1 + (ko : Int))))]) := by
    intro h1 v q
    have k := Windows_spec (hC.sub (T' := T279) (by decide)) (d := 5) (o := 1 + (ko : Int)) (p := 1 + (kp : Int)) (a := (ka : Int) - 40) (many := 3) q (I _ (by omega)) (I _ (by omega)) (I _ (by omega)) (I _ (by omega)) (I _ (by omega))
    unfold winE manyE at k
    rw [zE S _ Bs (by omega) (by omega), if_neg (by decide), if_neg (by decide), if_pos rfl, show (3 : Int).toNat = 3 from rfl, win3, cL] at k
    exact k
  have kT : ∀ h1 v, SI h1 v S → ACalls C 281 [v, .int .i64 5, .int .i64 (1 + (ko : Int)), .int .i64 (1 + (kp : Int)), .int .i64 ((ka : Int) - 40), .int .i64 2] h1 (fun r h' => r = .tuple [sums3 (sumP S (sampL 5 (1 + (kp : Int)) (1 + (ko : Int)).toNat) ((ka : Int) - 40 - 2)) (sumP S (sampL 5 (1 + (kp : Int)) (1 + (ko : Int)).toNat) ((ka : Int) - 40)) (sumP S (sampL 5 (1 + (kp : Int)) (1 + (ko : Int)).toNat) ((ka : Int) - 40 + 2)), .int .i64 0] ∧ h' = h1) := by
    intro h1 v q
    have k := Three_spec (hC.sub (T' := T281) (by decide)) (d := 5) (o := 1 + (ko : Int)) (p := 1 + (kp : Int)) (a := (ka : Int) - 40) (half := 2) q (I _ (by omega)) (I _ (by omega)) (I _ (by omega)) (I _ (by omega)) (I _ (by omega))
    unfold threeE at k
    rw [zE S _ Bs (by omega) (by omega), if_neg (by decide), if_neg (by decide)] at k
    exact k
  have k1 := kS S ((ka : Int) - 40) Bs (by omega) (by omega)
  have k2 := kS T ((ka : Int) - 40) Bt (by omega) (by omega)
  have k3 := kS (bothL S T M) ((ka : Int) - 40) Bb (by omega) (by omega)
  have k4 := kS (List.replicate kf (0, 0) ++ S) ((ka : Int) - 40 + (kf : Int)) Bf (by omega) (by omega)
  have k7 := kS S ((ka : Int) - 40 + 2 * (31 * (1 + (ko : Int)))) Bs (by omega) (by omega)
  have e3 : sumP (bothL S T M) (sampL 5 (1 + (kp : Int)) (1 + (ko : Int)).toNat) ((ka : Int) - 40) = addP (sumP S (sampL 5 (1 + (kp : Int)) (1 + (ko : Int)).toNat) ((ka : Int) - 40)) (sumP T (sampL 5 (1 + (kp : Int)) (1 + (ko : Int)).toNat) ((ka : Int) - 40)) := by
    rw [hM]; exact sumK_both S T _ _ _
  have e4 : sumP (List.replicate kf (0, 0) ++ S) (sampL 5 (1 + (kp : Int)) (1 + (ko : Int)).toNat) ((ka : Int) - 40 + (kf : Int)) = sumP S (sampL 5 (1 + (kp : Int)) (1 + (ko : Int)).toNat) ((ka : Int) - 40) := sumK_front S kf _ _ _
  have bA : inS (127 * (31 * (1 + ko))) (sumP S (sampL 5 (1 + (kp : Int)) (1 + (ko : Int)).toNat) ((ka : Int) - 40)) := by
    rw [← cL]; exact sumK_le Bs cO _
  have bB : inS (127 * (31 * (1 + ko))) (sumP T (sampL 5 (1 + (kp : Int)) (1 + (ko : Int)).toNat) ((ka : Int) - 40)) := by
    rw [← cL]; exact sumK_le Bt cO _
  rw [e3] at k3
  rw [e4] at k4
  clear e3 e4 kS zE cO cL sE
  generalize sumP S (sampL 5 (1 + (kp : Int)) (1 + (ko : Int)).toNat) ((ka : Int) - 40) = A at k1 k3 k4 kB kW kT bA
  generalize sumP T (sampL 5 (1 + (kp : Int)) (1 + (ko : Int)).toNat) ((ka : Int) - 40) = B at k2 k3 bB
  generalize sumP S (sampL 5 (1 + (kp : Int)) (1 + (ko : Int)).toNat) ((ka : Int) - 40 - 2) = E0 at kB kT
  generalize sumP S (sampL 5 (1 + (kp : Int)) (1 + (ko : Int)).toNat) ((ka : Int) - 40 + 2) = E4 at kB kT
  generalize sumP S (sampL 5 (1 + (kp : Int)) (1 + (ko : Int)).toNat) ((ka : Int) - 40 - 1) = E1 at kB
  generalize sumP S (sampL 5 (1 + (kp : Int)) (1 + (ko : Int)).toNat) ((ka : Int) - 40 + 1) = E3 at kB
  generalize sumP S (sampL 5 (1 + (kp : Int)) (1 + (ko : Int)).toNat) ((ka : Int) - 40 + 31 * (1 + (ko : Int))) = F1 at kW
  generalize sumP S (sampL 5 (1 + (kp : Int)) (1 + (ko : Int)).toNat) ((ka : Int) - 40 + 2 * (31 * (1 + (ko : Int)))) = Z at kW k7
  obtain ⟨A1, A2⟩ := A
  obtain ⟨B1, B2⟩ := B
  obtain ⟨X1, X2⟩ := E0
  obtain ⟨Y1, Y2⟩ := E4
  obtain ⟨Z1, Z2⟩ := Z
  simp only [sums3, addP, inS] at k1 k2 k3 k4 k7 kT bA bB
  have g' : 31 * (1 + (ko : Int)) ≤ 93 := by omega
  (refine calls_intro (hC.body (by decide) tab266) (Nat.le_of_ble_eq_true rfl) ?_); (show wp C _ none B266.code _ _); (simp only [B266]); simp -implicitDefEqProofs (disch := first | assumption | decide | omega | (simp only [wpD1] <;> omega) | (simp only [wpD2] <;> assumption) | solve_by_elim [HSub.refl, HSub.push, HSub.reserve] | fail) only [↓wpPre, wpPost, wpPoly, Int.reduceToNat, Int.reducePow, Int.reduceMul, Int.reduceAdd, Int.reduceSub, Int.reduceNeg, Nat.reduceAdd, Nat.reduceMul, Nat.reducePow, Int.reduceLT, Int.reduceLE, Int.reduceEq, Nat.reduceEqDiff, hl.len, hm.len, gV_u]
  refine ACallsK.eq (kn _) ?_
  simp -implicitDefEqProofs (disch := first | assumption | decide | omega | (simp only [wpD1] <;> omega) | (simp only [wpD2] <;> assumption) | solve_by_elim [HSub.refl, HSub.push, HSub.reserve] | fail) only [↓wpPre, wpPost, wpPoly, Int.reduceToNat, Int.reducePow, Int.reduceMul, Int.reduceAdd, Int.reduceSub, Int.reduceNeg, Nat.reduceAdd, Nat.reduceMul, Nat.reducePow, Int.reduceLT, Int.reduceLE, Int.reduceEq, Nat.reduceEqDiff, hl.len, hm.len, gV_u]
  refine ACallsK.eq (t1 _) ?_
  simp -implicitDefEqProofs (disch := first | assumption | decide | omega | (simp only [wpD1] <;> omega) | (simp only [wpD2] <;> assumption) | solve_by_elim [HSub.refl, HSub.push, HSub.reserve] | fail) only [↓wpPre, wpPost, wpPoly, Int.reduceToNat, Int.reducePow, Int.reduceMul, Int.reduceAdd, Int.reduceSub, Int.reduceNeg, Nat.reduceAdd, Nat.reduceMul, Nat.reducePow, Int.reduceLT, Int.reduceLE, Int.reduceEq, Nat.reduceEqDiff]
  refine ACallsK.eq (t2 _) ?_
  simp -implicitDefEqProofs (disch := first | assumption | decide | omega | (simp only [wpD1] <;> omega) | (simp only [wpD2] <;> assumption) | solve_by_elim [HSub.refl, HSub.push, HSub.reserve] | fail) only [↓wpPre, wpPost, wpPoly, Int.reduceToNat, Int.reducePow, Int.reduceMul, Int.reduceAdd, Int.reduceSub, Int.reduceNeg, Nat.reduceAdd, Nat.reduceMul, Nat.reducePow, Int.reduceLT, Int.reduceLE, Int.reduceEq, Nat.reduceEqDiff]
  refine ACallsK.eq (t3 _) ?_
  simp -implicitDefEqProofs (disch := first | assumption | decide | omega | (simp only [wpD1] <;> omega) | (simp only [wpD2] <;> assumption) | solve_by_elim [HSub.refl, HSub.push, HSub.reserve] | fail) only [↓wpPre, wpPost, wpPoly, Int.reduceToNat, Int.reducePow, Int.reduceMul, Int.reduceAdd, Int.reduceSub, Int.reduceNeg, Nat.reduceAdd, Nat.reduceMul, Nat.reducePow, Int.reduceLT, Int.reduceLE, Int.reduceEq, Nat.reduceEqDiff]
  refine ACallsK.eq (t4 _) ?_
  simp -implicitDefEqProofs (disch := first | assumption | decide | omega | (simp only [wpD1] <;> omega) | (simp only [wpD2] <;> assumption) | solve_by_elim [HSub.refl, HSub.push, HSub.reserve] | fail) only [↓wpPre, wpPost, wpPoly, Int.reduceToNat, Int.reducePow, Int.reduceMul, Int.reduceAdd, Int.reduceSub, Int.reduceNeg, Nat.reduceAdd, Nat.reduceMul, Nat.reducePow, Int.reduceLT, Int.reduceLE, Int.reduceEq, Nat.reduceEqDiff]
  refine ACallsK.of (L1 _ _ hl) ?_
  rintro v1 h1 ⟨s1, R1⟩
  simp -implicitDefEqProofs (disch := first | assumption | decide | omega | (simp only [wpD1] <;> omega) | (simp only [wpD2] <;> assumption) | solve_by_elim [HSub.refl, HSub.push, HSub.reserve] | fail) only [↓wpPre, wpPost, wpPoly, Int.reduceToNat, Int.reducePow, Int.reduceMul, Int.reduceAdd, Int.reduceSub, Int.reduceNeg, Nat.reduceAdd, Nat.reduceMul, Nat.reducePow, Int.reduceLT, Int.reduceLE, Int.reduceEq, Nat.reduceEqDiff]
  refine ACallsK.of (L2 _ _ (hm.mono s1)) ?_
  rintro v2 h2 ⟨s2, Q2⟩
  have P2 := R1.mono s2
  simp -implicitDefEqProofs (disch := first | assumption | decide | omega | (simp only [wpD1] <;> omega) | (simp only [wpD2] <;> assumption) | solve_by_elim [HSub.refl, HSub.push, HSub.reserve] | fail) only [↓wpPre, wpPost, wpPoly, Int.reduceToNat, Int.reducePow, Int.reduceMul, Int.reduceAdd, Int.reduceSub, Int.reduceNeg, Nat.reduceAdd, Nat.reduceMul, Nat.reducePow, Int.reduceLT, Int.reduceLE, Int.reduceEq, Nat.reduceEqDiff, P2.len, Q2.len, max_two, hmx, hz]
  refine wp_loopI (fun j t h' => HSub h2 h' ∧ h2.size < h'.size ∧ ∃ k : Nat, h'.get h2.size = some (.cells (smps (bothL S T k ++ List.replicate (M - k) (0, 0))) true 0) ∧ t 13 = .bool true ∧ t 2 = .int .i64 (1 + (ko : Int)) ∧ t 3 = .int .i64 (1 + (kp : Int)) ∧ t 4 = .int .i64 ((ka : Int) - 40) ∧ t 5 = .int .i64 (kf : Int) ∧ t 14 = v1 ∧ t 15 = v2 ∧ t 16 = .slice h2.size 0 M (.known M) ∧ t 17 = .int .i64 (k : Nat) ∧ k ≤ M ∧ j = M - k) (j0 := M)
    ⟨HSub.push1 _ _, by simp, 0, by simp -implicitDefEqProofs (disch := first | assumption | decide | omega | (simp only [wpD1] <;> omega) | (simp only [wpD2] <;> assumption) | solve_by_elim [HSub.refl, HSub.push, HSub.reserve] | fail) only [↓wpPre, wpPost, wpPoly, Int.reduceToNat, Int.reducePow, Int.reduceMul, Int.reduceAdd, Int.reduceSub, Int.reduceNeg, Nat.reduceAdd, Nat.reduceMul, Nat.reducePow, Int.reduceLT, Int.reduceLE, Int.reduceEq, Nat.reduceEqDiff]; rfl, rfl, rfl, rfl, rfl, rfl, rfl, rfl, rfl, rfl, by omega, rfl⟩ ?_
  rintro j t h3 ⟨s3, z3, k, g3, e13, e2, e3, e4, e5, e14, e15, e16, e17, hk, hj⟩
  have P3 := P2.mono s3
  have Q3 := Q2.mono s3
  simp -implicitDefEqProofs (disch := first | assumption | decide | omega | (simp only [wpD1] <;> omega) | (simp only [wpD2] <;> assumption) | solve_by_elim [HSub.refl, HSub.push, HSub.reserve] | fail) only [↓wpPre, wpPost, wpPoly, Int.reduceToNat, Int.reducePow, Int.reduceMul, Int.reduceAdd, Int.reduceSub, Int.reduceNeg, Nat.reduceAdd, Nat.reduceMul, Nat.reducePow, Int.reduceLT, Int.reduceLE, Int.reduceEq, Nat.reduceEqDiff, e16, e17]
  refine Br.by (fun c3 => ?_) (fun c3 => ?_)
  · have hk' : k < M := by omega
    rw [bothM_zero hk'] at g3
    have ln : ∀ x, (smps (bothM S T M k x)).length = M * 2 := fun x => by rw [smps_length, bothM_length hk']
    have ln0 := ln (0, 0)
    have sp : ∀ (x : Int × Int) (a b : Int), splice (smps (bothM S T M k x)) (k * 2) [.int .i64 a, .int .i64 b] = smps (bothM S T M k (a, b)) := fun x a b => bothM_splice hk'
    have i0 := fun x => bothM_get0 (s := S) (t := T) (M := M) (k := k) (x := x)
    have i1 := fun x => bothM_get1 (s := S) (t := T) (M := M) (k := k) (x := x)
    have nx := bothM_next (s := S) (t := T) (M := M) (k := k)
    have bs := atP_le' (s := S) (by omega) Is (k : Nat)
    have bt := atP_le' (s := T) (by omega) It (k : Nat)
    have hP : ∀ b, HSub h2 (h3.put h2.size b) := fun b => s3.put (by omega) b
    by_cases cs : k < S.length
    · obtain ⟨sx, sy, eS⟩ : ∃ a b, S.getD k (0, 0) = (a, b) := ⟨_, _, rfl⟩
      have lS := P3.loadA cs
      rw [atP_in (by omega) (by omega), Int.toNat_natCast, eS] at bs nx
      rw [eS] at lS
      have ln1 := ln (sx, sy)
      unfold smp at lS
      unfold inS at bs
      dsimp only at lS bs
      by_cases ct : k < T.length
      · obtain ⟨tx, ty, eT⟩ : ∃ a b, T.getD k (0, 0) = (a, b) := ⟨_, _, rfl⟩
        have lT0 : ∀ H, HSub h2 H → loadA H false 1 (elF 2 v2 k 0) = some (.int .i64 tx) := fun H q => by have := Q2.load0C H k q ct; rw [eT] at this; exact this
        have lT1 : ∀ H, HSub h2 H → loadA H false 1 (elF 2 v2 k 1) = some (.int .i64 ty) := fun H q => by have := Q2.load1C H k q ct; rw [eT] at this; exact this
        rw [atP_in (s := T) (by omega) (by omega), Int.toNat_natCast, eT] at bt nx
        unfold inS at bt
        dsimp only at bt
        unfold addP at nx
        dsimp only at nx
        simp -implicitDefEqProofs (disch := first | assumption | decide | omega | (simp only [wpD1] <;> omega) | (simp only [wpD2] <;> assumption) | solve_by_elim [HSub.refl, HSub.push, HSub.reserve] | fail) only [↓wpPre, wpPost, wpPoly, Int.reduceToNat, Int.reducePow, Int.reduceMul, Int.reduceAdd, Int.reduceSub, Int.reduceNeg, Nat.reduceAdd, Nat.reduceMul, Nat.reducePow, Int.reduceLT, Int.reduceLE, Int.reduceEq, Nat.reduceEqDiff, e14, e15, e16, e17, P3.len, Q3.len, P3.idx, lS, g3, sp]
        simp -implicitDefEqProofs (disch := first | assumption | decide | omega | (simp only [wpD1] <;> omega) | (simp only [wpD2] <;> assumption) | solve_by_elim [HSub.refl, HSub.push, HSub.reserve] | fail) only [↓wpPre, wpPost, wpPoly, Int.reduceToNat, Int.reducePow, Int.reduceMul, Int.reduceAdd, Int.reduceSub, Int.reduceNeg, Nat.reduceAdd, Nat.reduceMul, Nat.reducePow, Int.reduceLT, Int.reduceLE, Int.reduceEq, Nat.reduceEqDiff, e14, e15, e16, e17, Q3.len, Q3.idx, Q3.fld, lT0, lT1, i0, i1, sp, nx]
        exact ⟨_, ⟨hP _, z3, k + 1, rfl, e13, e2, e3, e4, e5, by omega, by omega, rfl⟩, by omega⟩
      · rw [atP_none (s := T) (by omega)] at nx
        simp only [addP, Int.add_zero] at nx
        simp -implicitDefEqProofs (disch := first | assumption | decide | omega | (simp only [wpD1] <;> omega) | (simp only [wpD2] <;> assumption) | solve_by_elim [HSub.refl, HSub.push, HSub.reserve] | fail) only [↓wpPre, wpPost, wpPoly, Int.reduceToNat, Int.reducePow, Int.reduceMul, Int.reduceAdd, Int.reduceSub, Int.reduceNeg, Nat.reduceAdd, Nat.reduceMul, Nat.reducePow, Int.reduceLT, Int.reduceLE, Int.reduceEq, Nat.reduceEqDiff, e14, e15, e16, e17, P3.len, Q3.len, P3.idx, lS, g3, sp, nx]
        exact ⟨_, ⟨hP _, z3, k + 1, rfl, e13, e2, e3, e4, e5, by omega, by omega, rfl⟩, by omega⟩
    · by_cases ct : k < T.length
      · obtain ⟨tx, ty, eT⟩ : ∃ a b, T.getD k (0, 0) = (a, b) := ⟨_, _, rfl⟩
        have lT0 : ∀ H, HSub h2 H → loadA H false 1 (elF 2 v2 k 0) = some (.int .i64 tx) := fun H q => by have := Q2.load0C H k q ct; rw [eT] at this; exact this
        have lT1 : ∀ H, HSub h2 H → loadA H false 1 (elF 2 v2 k 1) = some (.int .i64 ty) := fun H q => by have := Q2.load1C H k q ct; rw [eT] at this; exact this
        rw [atP_none (s := S) (by omega), atP_in (s := T) (by omega) (by omega), Int.toNat_natCast, eT] at nx
        rw [atP_in (s := T) (by omega) (by omega), Int.toNat_natCast, eT] at bt
        unfold inS at bt
        dsimp only at bt
        unfold addP at nx
        dsimp only at nx
        simp -implicitDefEqProofs (disch := first | assumption | decide | omega | (simp only [wpD1] <;> omega) | (simp only [wpD2] <;> assumption) | solve_by_elim [HSub.refl, HSub.push, HSub.reserve] | fail) only [↓wpPre, wpPost, wpPoly, Int.reduceToNat, Int.reducePow, Int.reduceMul, Int.reduceAdd, Int.reduceSub, Int.reduceNeg, Nat.reduceAdd, Nat.reduceMul, Nat.reducePow, Int.reduceLT, Int.reduceLE, Int.reduceEq, Nat.reduceEqDiff, e14, e15, e16, e17, P3.len, Q3.len, Q3.idx, Q3.fld, lT0, lT1, g3, i0, i1, sp, nx]
        exact ⟨_, ⟨hP _, z3, k + 1, rfl, e13, e2, e3, e4, e5, by omega, by omega, rfl⟩, by omega⟩
      · exfalso; omega
  · have ek : k = M := by omega
    subst ek
    rw [Nat.sub_self, List.replicate_zero, List.append_nil] at g3
    have P3 := P2.mono s3
    have Q3 := Q2.mono s3
    have B3 : SI h3 (.slice h2.size 0 k (.known k)) (bothL S T k) := SI.known g3 ⟨Lb.symm, by omega⟩ (Nat.le_refl _)
    have gf : ((((h3.push (.cells [.int .i64 A1, .int .i64 A2] true 0)).push (.cells [.int .i64 B1, .int .i64 B2] true 0)).push (.cells [.int .i64 (A1 + B1), .int .i64 (A2 + B2)] true 0)).push (.cells (smps (List.replicate kf (0, 0))) true 0)).get (h3.size + 1 + 1 + 1) = some (.cells (smps (List.replicate kf (0, 0))) true 0) := by simp -implicitDefEqProofs (disch := first | assumption | decide | omega | (simp only [wpD1] <;> omega) | (simp only [wpD2] <;> assumption) | solve_by_elim [HSub.refl, HSub.push, HSub.reserve] | fail) only [↓wpPre, wpPost, wpPoly, Int.reduceToNat, Int.reducePow, Int.reduceMul, Int.reduceAdd, Int.reduceSub, Int.reduceNeg, Nat.reduceAdd, Nat.reduceMul, Nat.reducePow, Int.reduceLT, Int.reduceLE, Int.reduceEq, Nat.reduceEqDiff]
    have fa := front_app (S := S) (f := kf) gf (by omega) (by omega)
    have fs := front_si (S := S) (f := kf) gf (by omega) (by omega)
    have fh := frontH_sub S ((((h3.push (.cells [.int .i64 A1, .int .i64 A2] true 0)).push (.cells [.int .i64 B1, .int .i64 B2] true 0)).push (.cells [.int .i64 (A1 + B1), .int .i64 (A2 + B2)] true 0)).push (.cells (smps (List.replicate kf (0, 0))) true 0)) kf
    have g18 := fh.get (h3.size) (by simp only [Heap.size_push]; omega)
    have g20 := fh.get (h3.size + 1) (by simp only [Heap.size_push]; omega)
    have g22 := fh.get (h3.size + 1 + 1) (by simp only [Heap.size_push]; omega)
    simp -implicitDefEqProofs (disch := first | assumption | decide | omega | (simp only [wpD1] <;> omega) | (simp only [wpD2] <;> assumption) | solve_by_elim [HSub.refl, HSub.push, HSub.reserve] | fail) only [↓wpPre, wpPost, wpPoly, Int.reduceToNat, Int.reducePow, Int.reduceMul, Int.reduceAdd, Int.reduceSub, Int.reduceNeg, Nat.reduceAdd, Nat.reduceMul, Nat.reducePow, Int.reduceLT, Int.reduceLE, Int.reduceEq, Nat.reduceEqDiff] at g18 g20 g22
    have ct := P3.contentC
    simp -implicitDefEqProofs (disch := first | assumption | decide | omega | (simp only [wpD1] <;> omega) | (simp only [wpD2] <;> assumption) | solve_by_elim [HSub.refl, HSub.push, HSub.reserve] | fail) only [↓wpPre, wpPost, wpPoly, Int.reduceToNat, Int.reducePow, Int.reduceMul, Int.reduceAdd, Int.reduceSub, Int.reduceNeg, Nat.reduceAdd, Nat.reduceMul, Nat.reducePow, Int.reduceLT, Int.reduceLE, Int.reduceEq, Nat.reduceEqDiff, e13, e2, e3, e4, e5, e14, e15, e16]
    refine ACallsK.eq (k1 _ _ P3) ?_
    simp -implicitDefEqProofs (disch := first | assumption | decide | omega | (simp only [wpD1] <;> omega) | (simp only [wpD2] <;> assumption) | solve_by_elim [HSub.refl, HSub.push, HSub.reserve] | fail) only [↓wpPre, wpPost, wpPoly, Int.reduceToNat, Int.reducePow, Int.reduceMul, Int.reduceAdd, Int.reduceSub, Int.reduceNeg, Nat.reduceAdd, Nat.reduceMul, Nat.reducePow, Int.reduceLT, Int.reduceLE, Int.reduceEq, Nat.reduceEqDiff, e2, e3, e4, e5, e14, e15, e16]
    refine ACallsK.eq (k2 _ _ (Q3.mono (HSub.push1 _ _))) ?_
    simp -implicitDefEqProofs (disch := first | assumption | decide | omega | (simp only [wpD1] <;> omega) | (simp only [wpD2] <;> assumption) | solve_by_elim [HSub.refl, HSub.push, HSub.reserve] | fail) only [↓wpPre, wpPost, wpPoly, Int.reduceToNat, Int.reducePow, Int.reduceMul, Int.reduceAdd, Int.reduceSub, Int.reduceNeg, Nat.reduceAdd, Nat.reduceMul, Nat.reducePow, Int.reduceLT, Int.reduceLE, Int.reduceEq, Nat.reduceEqDiff, e2, e3, e4, e5, e14, e15, e16]
    refine ACallsK.eq (k3 _ _ (B3.mono ((HSub.push1 _ _).push _))) ?_
    simp -implicitDefEqProofs (disch := first | assumption | decide | omega | (simp only [wpD1] <;> omega) | (simp only [wpD2] <;> assumption) | solve_by_elim [HSub.refl, HSub.push, HSub.reserve] | fail) only [↓wpPre, wpPost, wpPoly, Int.reduceToNat, Int.reducePow, Int.reduceMul, Int.reduceAdd, Int.reduceSub, Int.reduceNeg, Nat.reduceAdd, Nat.reduceMul, Nat.reducePow, Int.reduceLT, Int.reduceLE, Int.reduceEq, Nat.reduceEqDiff, e2, e3, e4, e5, e14, e15, e16, hzf, ct, fa]
    have fh3 := (((((HSub.refl h3).push _).push _).push _).push _).trans fh
    have P4 := P3.mono fh3
    have z4 := fh.size
    simp only [Heap.size_push] at z4
    have k4 := (k4 _ _ fs).mono (Q := fun r h' => r = .tuple [.agg [.int .i64 A1, .int .i64 A2], .int .i64 0] ∧ HSub h3 h' ∧ h3.size + 4 ≤ h'.size ∧ h'.get h3.size = some (.cells [.int .i64 A1, .int .i64 A2] true 0) ∧ h'.get (h3.size + 1) = some (.cells [.int .i64 B1, .int .i64 B2] true 0) ∧ h'.get (h3.size + 1 + 1) = some (.cells [.int .i64 (A1 + B1), .int .i64 (A2 + B2)] true 0)) (fun r h' q => by
      rw [q.2]
      exact ⟨q.1, fh3, by omega, g18, g20, g22⟩)
    refine ACallsK.of k4 ?_
    rintro r h4 ⟨rfl, s4, z4, g18, g20, g22⟩
    have P4 := P3.mono s4
    simp -implicitDefEqProofs (disch := first | assumption | decide | omega | (simp only [wpD1] <;> omega) | (simp only [wpD2] <;> assumption) | solve_by_elim [HSub.refl, HSub.push, HSub.reserve] | fail) only [↓wpPre, wpPost, wpPoly, Int.reduceToNat, Int.reducePow, Int.reduceMul, Int.reduceAdd, Int.reduceSub, Int.reduceNeg, Nat.reduceAdd, Nat.reduceMul, Nat.reducePow, Int.reduceLT, Int.reduceLE, Int.reduceEq, Nat.reduceEqDiff, e2, e3, e4, e5, e14, e15, e16, max_four, eqs_two_t, g18, g20, g22, gV_u]
    refine ACallsK.of (kB _ _ (P4.mono (HSub.push1 _ _))) ?_
    rintro r h5 ⟨w5, rfl, s5, R5⟩
    have t5 := (HSub.push1 h4 (.cells [.int .i64 A1, .int .i64 A2] true 0)).trans s5
    have P5 := P4.mono t5
    have g18 := (t5.get _ (by omega)).trans g18
    have z5 := t5.size
    simp -implicitDefEqProofs (disch := first | assumption | decide | omega | (simp only [wpD1] <;> omega) | (simp only [wpD2] <;> assumption) | solve_by_elim [HSub.refl, HSub.push, HSub.reserve] | fail) only [↓wpPre, wpPost, wpPoly, Int.reduceToNat, Int.reducePow, Int.reduceMul, Int.reduceAdd, Int.reduceSub, Int.reduceNeg, Nat.reduceAdd, Nat.reduceMul, Nat.reducePow, Int.reduceLT, Int.reduceLE, Int.reduceEq, Nat.reduceEqDiff, lstErr, e2, e3, e4, e5, e14]
    refine ACallsK.of (kW _ _ P5) ?_
    rintro r h6 ⟨w6, rfl, s6, R6⟩
    have P6 := P5.mono s6
    have R5 := R5.mono s6
    have g18 := (s6.get _ (by omega)).trans g18
    have z6 := s6.size
    simp -implicitDefEqProofs (disch := first | assumption | decide | omega | (simp only [wpD1] <;> omega) | (simp only [wpD2] <;> assumption) | solve_by_elim [HSub.refl, HSub.push, HSub.reserve] | fail) only [↓wpPre, wpPost, wpPoly, Int.reduceToNat, Int.reducePow, Int.reduceMul, Int.reduceAdd, Int.reduceSub, Int.reduceNeg, Nat.reduceAdd, Nat.reduceMul, Nat.reducePow, Int.reduceLT, Int.reduceLE, Int.reduceEq, Nat.reduceEqDiff, lstErr, e2, e3, e4, e5, e14]
    refine ACallsK.eq (k7 _ _ P6) ?_
    simp -implicitDefEqProofs (disch := first | assumption | decide | omega | (simp only [wpD1] <;> omega) | (simp only [wpD2] <;> assumption) | solve_by_elim [HSub.refl, HSub.push, HSub.reserve] | fail) only [↓wpPre, wpPost, wpPoly, Int.reduceToNat, Int.reducePow, Int.reduceMul, Int.reduceAdd, Int.reduceSub, Int.reduceNeg, Nat.reduceAdd, Nat.reduceMul, Nat.reducePow, Int.reduceLT, Int.reduceLE, Int.reduceEq, Nat.reduceEqDiff, e2, e3, e4, e5, e14]
    refine ACallsK.eq (kT _ _ (P6.mono (HSub.push1 _ _))) ?_
    have lX : lenA w5 = some (.int .i64 5) := R5.len
    have lY : lenA w6 = some (.int .i64 3) := R6.len
    have iX0 : idxA 2 w5 (.int .i64 0) = some (elA 2 w5 0) := R5.idx (by simp)
    have iX2 : idxA 2 w5 (.int .i64 2) = some (elA 2 w5 2) := R5.idx (by simp)
    have iX4 : idxA 2 w5 (.int .i64 4) = some (elA 2 w5 4) := R5.idx (by simp)
    have iY0 : idxA 2 w6 (.int .i64 0) = some (elA 2 w6 0) := R6.idx (by simp)
    have iY2 : idxA 2 w6 (.int .i64 2) = some (elA 2 w6 2) := R6.idx (by simp)
    have lX0 : ∀ H, HSub h6 H → loadA H true 2 (elA 2 w5 0) = some (.agg [.int .i64 X1, .int .i64 X2]) := fun H q => R5.loadAC H 0 q (by simp)
    have lX2 : ∀ H, HSub h6 H → loadA H true 2 (elA 2 w5 2) = some (.agg [.int .i64 A1, .int .i64 A2]) := fun H q => R5.loadAC H 2 q (by simp)
    have lX4 : ∀ H, HSub h6 H → loadA H true 2 (elA 2 w5 4) = some (.agg [.int .i64 Y1, .int .i64 Y2]) := fun H q => R5.loadAC H 4 q (by simp)
    have lY0 : ∀ H, HSub h6 H → loadA H true 2 (elA 2 w6 0) = some (.agg [.int .i64 A1, .int .i64 A2]) := fun H q => R6.loadAC H 0 q (by simp)
    have lY2 : ∀ H, HSub h6 H → loadA H true 2 (elA 2 w6 2) = some (.agg [.int .i64 Z1, .int .i64 Z2]) := fun H q => R6.loadAC H 2 q (by simp)
    simp -implicitDefEqProofs (disch := first | assumption | decide | omega | (simp only [wpD1] <;> omega) | (simp only [wpD2] <;> assumption) | solve_by_elim [HSub.refl, HSub.push, HSub.reserve] | fail) only [↓wpPre, wpPost, wpPoly, Int.reduceToNat, Int.reducePow, Int.reduceMul, Int.reduceAdd, Int.reduceSub, Int.reduceNeg, Nat.reduceAdd, Nat.reduceMul, Nat.reducePow, Int.reduceLT, Int.reduceLE, Int.reduceEq, Nat.reduceEqDiff, e13, lX, lY, iX0, iX2, iX4, iY0, iY2, lX0, lX2, lX4, lY0, lY2, g18, eqs_two_f, eqs_six2, gV_u]

end
end Go.Ae
