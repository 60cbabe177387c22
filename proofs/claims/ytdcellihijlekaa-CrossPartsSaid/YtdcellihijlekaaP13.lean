/- Texts of the proof, part 13: a second reading of the lowered code, proved sound, and what the functions compute. -/
import Derived.Sort.Row
import Derived.Sort.Grow
import Derived.Test.YtdcellihijlekaaP12

/- Go's sort of a list of numbers, as the library's contract tells it. -/
set_option linter.unusedSimpArgs false
set_option linter.unusedVariables false
namespace Go.Ae
open Go.Sort
def sortL (l : List Int) : List Int := l.mergeSort fun x y => decide (x ≤ y)
/-- The library's contract of slices.Sort, for the function with a number. -/
def SortOk (C : Ctx) (g : Nat) : Prop := Enters C.P (C.lk g) ∧ ∀ (blk off cap : Nat) (zs : List Int) (w : World), Holds (Value.int .i64) w blk off zs.toArray → blk < w.heap.size → zs.length < 4611686018427387904 →
  Calls C.P (C.lk g) #[.slice (some ⟨blk, off, none⟩) zs.length cap] w fun e w' => e = .returned (.tuple #[]) ∧ ∃ n os, w' = grow (putRow (Value.int .i64) (Go.Sort.ahead w n) blk off (zs.mergeSort fun x y => decide (x ≤ y)).toArray) os
theorem sortA_spec {C : Ctx} {g : Nat} (hS : SortOk C g) {i u : Nat} {c : Cap} {l : List Int} {h : Heap} (hg : h.get i = some (.cells (ints l) true u)) (hn : l.length < 4611686018427387904) :
    ACalls C g [.slice i 0 l.length c] h (fun r h' => r = .tuple [] ∧ h' = h.put i (.cells (ints (sortL l)) true u)) := by
  refine ⟨hS.1, fun keep env w R hb => ?_⟩
  obtain ⟨cur, t, hrow, hcs, hu⟩ := R.blk i _ hg
  have hlt := R.lt i _ hg
  have hsl : (sortL l).length = l.length := List.length_mergeSort l
  have hH : Holds (Value.int .i64) w (env i).blk ((env i).sh + 0) l.toArray := by
    intro j hj
    have hj' : j < l.length := by simpa using hj
    have hc := hcs j _ (ints_get hj')
    refine ⟨?_, ?_⟩
    · simp only [World.cell?, hrow, Option.isSome_none, Bool.false_eq_true, if_false, Nat.add_zero]
      rw [hc]
      simp [AV.val, hj']
    · simp [World.frozen?, hrow]
  have hcall := hS.2 (env i).blk ((env i).sh + 0) (c.at (env i)) l w hH hlt hn
  refine Calls.mono hcall ?_
  rintro e w' ⟨rfl, n, os, rfl⟩
  have hmod : (putRow (Value.int .i64) (Go.Sort.ahead w n) (env i).blk ((env i).sh + 0) (sortL l).toArray).heap[(env i).blk]? = some (.cells (putCells (Value.int .i64) ((env i).sh + 0) (sortL l).toArray cur) t (0, 0)) := by
    simp [putRow, mapBlock, Go.Sort.ahead, Array.getElem?_modify, hrow, onCells]
  have W := R.write (w' := putRow (Value.int .i64) (Go.Sort.ahead w n) (env i).blk ((env i).sh + 0) (sortL l).toArray) (b' := .cells (ints (sortL l)) true u) hg rfl rfl rfl rfl (by simp [putRow, mapBlock, Go.Sort.ahead])
    (fun r hr => by simp [putRow, mapBlock, Go.Sort.ahead, Array.getElem?_modify, Ne.symm hr]) (fun v hv => by obtain ⟨x, _, rfl⟩ := List.mem_map.1 hv; trivial)
    ⟨_, t, hmod, fun k v hk => by
      simp only [ints, List.getElem?_map, Option.map_eq_some_iff] at hk
      obtain ⟨x, hx, rfl⟩ := hk
      obtain ⟨hk', hx'⟩ := List.getElem?_eq_some_iff.1 hx
      have hcur : (env i).sh + k < cur.size := by
        have := hcs k _ (ints_get (by omega))
        exact (Array.getElem?_eq_some_iff.1 this).1
      simp only [putCells, Array.getElem?_mapIdx]
      rw [Array.getElem?_eq_getElem hcur]
      simp [AV.val, hk', hx'], fun h0 => by
      have := hu h0
      simp only [putCells, Array.size_mapIdx]
      rw [ints_length] at this ⊢
      omega⟩
  obtain ⟨R1, K1⟩ := W
  have R2 := rel_same R1 (w' := grow (putRow (Value.int .i64) (Go.Sort.ahead w n) (env i).blk ((env i).sh + 0) (sortL l).toArray) os) (by simp [grow]) (fun r hr => by
    exact Array.getElem?_append_left hr)
  refine ⟨env, .tuple [], _, rfl, ⟨rfl, rfl⟩, R2, ⟨K1.os, K1.tape, K1.output, Nat.le_trans K1.size (by simp [grow]), fun r hr => ?_⟩, Ext.refl _ _, hle_put hg, trivial⟩
  have hlr := R.keepLt r hr
  have := K1.block r hr
  rw [← this]
  have hlr' : r < (putRow (Value.int .i64) (Go.Sort.ahead w n) (env i).blk ((env i).sh + 0) (sortL l).toArray).heap.size := by simpa [putRow, mapBlock, Go.Sort.ahead] using hlr
  exact Array.getElem?_append_left hlr' 
theorem enters_of_body {C : Ctx} {g : Nat} {b : ABody} (hbody : C.body g = some b) : Enters C.P (C.lk g) := by
  unfold Ctx.body lowerFn at hbody
  split at hbody
  · rename_i fn hf
    split at hbody
    · cases hbody
    · rename_i hname
      split at hbody
      · rename_i c rs hc hrs
        cases hbody
        intro args w
        simp [callFunc, hf, hname, hc, mark]
      · cases hbody
  · cases hbody
end Go.Ae

/- Absolute values, sums and bounds of lists. -/
set_option linter.unusedSimpArgs false
set_option linter.unusedVariables false
namespace Go.Ae
def absI (x : Int) : Int := max x (-x)
def sumAbs : List Int → Int
  | [] => 0
  | x :: l => absI x + sumAbs l
def maxAbs : List Int → Int
  | [] => 0
  | x :: l => max (absI x) (maxAbs l)
theorem absI_nonneg (x : Int) : 0 ≤ absI x := by unfold absI; omega
theorem sumAbs_nonneg : ∀ l, 0 ≤ sumAbs l
  | [] => by simp [sumAbs]
  | x :: l => by have := sumAbs_nonneg l; have := absI_nonneg x; simp only [sumAbs]; omega
theorem maxAbs_nonneg : ∀ l, 0 ≤ maxAbs l
  | [] => by simp [maxAbs]
  | x :: l => by have := maxAbs_nonneg l; have := absI_nonneg x; simp only [maxAbs]; omega
theorem maxAbs_le : ∀ {l : List Int} {x : Int}, x ∈ l → absI x ≤ maxAbs l
  | y :: l, x, h => by
    simp only [maxAbs]
    rcases List.mem_cons.1 h with rfl | h
    · omega
    · have := maxAbs_le h; omega
theorem sumAbs_append (l m : List Int) : sumAbs (l ++ m) = sumAbs l + sumAbs m := by
  induction l with
  | nil => simp [sumAbs]
  | cons x l ih => simp only [List.cons_append, sumAbs, ih]; omega
theorem maxAbs_append (l m : List Int) : maxAbs (l ++ m) = max (maxAbs l) (maxAbs m) := by
  induction l with
  | nil => have := maxAbs_nonneg m; simp only [List.nil_append, maxAbs]; omega
  | cons x l ih => simp only [List.cons_append, maxAbs, ih]; omega
theorem sumAbs_take {l : List Int} {i : Nat} (h : i < l.length) : sumAbs (l.take (i + 1)) = sumAbs (l.take i) + absI (l.getD i 0) := by
  rw [take_succ_getD h, sumAbs_append]; simp [sumAbs]
theorem maxAbs_take {l : List Int} {i : Nat} (h : i < l.length) : maxAbs (l.take (i + 1)) = max (maxAbs (l.take i)) (absI (l.getD i 0)) := by
  have := absI_nonneg (l.getD i 0)
  rw [take_succ_getD h, maxAbs_append]; simp only [maxAbs]; omega
theorem sumAbs_take_le (l : List Int) (i : Nat) : sumAbs (l.take i) ≤ sumAbs l := by
  have := sumAbs_append (l.take i) (l.drop i)
  rw [List.take_append_drop] at this
  have := sumAbs_nonneg (l.drop i); omega
theorem absI_mul (x y : Int) : absI (x * y) = absI x * absI y := by
  unfold absI
  rcases Int.le_total 0 x with hx | hx <;> rcases Int.le_total 0 y with hy | hy
  · have := Int.mul_nonneg hx hy
    rw [Int.max_eq_left (by omega), Int.max_eq_left (by omega), Int.max_eq_left (by omega)]
  · have := Int.mul_nonpos_of_nonneg_of_nonpos hx hy
    rw [Int.max_eq_right (by omega), Int.max_eq_left (by omega), Int.max_eq_right (by omega), Int.mul_neg]
  · have := Int.mul_nonpos_of_nonpos_of_nonneg hx hy
    rw [Int.max_eq_right (by omega), Int.max_eq_right (by omega), Int.max_eq_left (by omega), Int.neg_mul]
  · have := Int.mul_nonneg_of_nonpos_of_nonpos hx hy
    rw [Int.max_eq_left (by omega), Int.max_eq_right (by omega), Int.max_eq_right (by omega), Int.neg_mul_neg]
theorem absI_add (x y : Int) : absI (x + y) ≤ absI x + absI y := by unfold absI; omega
theorem absI_le {x b : Int} (h : absI x ≤ b) : -b ≤ x ∧ x ≤ b := by unfold absI at h; omega

def small (l : List Int) : Prop := ∀ x ∈ l, -1000000 ≤ x ∧ x ≤ 1000000
theorem small_abs {l : List Int} (h : small l) {i : Nat} (hi : i < l.length) : absI (l.getD i 0) ≤ 1000000 := by
  have := h _ (getD_mem hi); unfold absI; omega
theorem sumAbs_small {l : List Int} (h : small l) : sumAbs l ≤ 1000000 * l.length := by
  induction l with
  | nil => simp [sumAbs]
  | cons x l ih =>
    have h1 := ih (fun y hy => h y (List.mem_cons_of_mem _ hy))
    have h2 := h x List.mem_cons_self
    simp only [sumAbs, List.length_cons, absI]; omega
theorem maxAbs_small {l : List Int} (h : small l) : maxAbs l ≤ 1000000 := by
  induction l with
  | nil => simp [maxAbs]
  | cons x l ih =>
    have h1 := ih (fun y hy => h y (List.mem_cons_of_mem _ hy))
    have h2 := h x List.mem_cons_self
    simp only [maxAbs, absI]; omega
theorem small_take {l : List Int} (h : small l) (i : Nat) : small (l.take i) := fun x hx => h x (List.mem_of_mem_take hx)

theorem range_get {N m : Nat} {f : Nat → Int} (h : m < N) : ((List.range N).map f).getD m 0 = f m := by simp [h]
theorem range_set {N m : Nat} {f g : Nat → Int} {y : Int} (hm : g m = y) (hn : ∀ n, n ≠ m → g n = f n) : ((List.range N).map f).set m y = (List.range N).map g := by
  refine List.ext_getElem (by simp) fun n h1 h2 => ?_
  simp only [List.length_set, List.length_map, List.length_range] at h1
  rw [List.getElem_set]
  split
  · rename_i e; subst e; simp [hm]
  · rename_i e; simp [hn n (Ne.symm e)]

def bigs (x : Int) : Bool := decide (x < -1000000 ∨ 1000000 < x)
theorem small_of {l : List Int} (h : l.any bigs = false) : small l := fun x hx => by
  have := List.any_eq_false.1 h x hx
  simp only [bigs, decide_eq_true_eq] at this; omega
end Go.Ae

/- Circular sums of the reference of layer 9. -/
set_option linter.unusedSimpArgs false
set_option linter.unusedVariables false
namespace Go.Ae

/-- The first i summands of the circular sum k. -/
def cs (a b : List Int) (k : Nat) : Nat → Int
  | 0 => 0
  | i + 1 => cs a b k i + a.getD i 0 * b.getD ((i + k) % b.length) 0
def circ (a b : List Int) : List Int := (List.range a.length).map fun k => cs a b k a.length
theorem circ_length (a b : List Int) : (circ a b).length = a.length := by simp [circ]
theorem cs_abs (a b : List Int) (k : Nat) (hb : 1 ≤ b.length) : ∀ i, i ≤ a.length → absI (cs a b k i) ≤ sumAbs (a.take i) * maxAbs b
  | 0, _ => by simp [cs, absI, sumAbs]
  | i + 1, hi => by
    have ih := cs_abs a b k hb i (by omega)
    have h2 := absI_add (cs a b k i) (a.getD i 0 * b.getD ((i + k) % b.length) 0)
    have h3 : absI (a.getD i 0 * b.getD ((i + k) % b.length) 0) ≤ absI (a.getD i 0) * maxAbs b := by
      rw [absI_mul]
      exact Int.mul_le_mul_of_nonneg_left (maxAbs_le (getD_mem (Nat.mod_lt _ (by omega)))) (absI_nonneg _)
    rw [sumAbs_take (by omega), Int.add_mul]
    simp only [cs]; omega

/-- The circular sums before k, then k's own first i summands, then zeros. -/
def cpre (a b : List Int) (k i n : Nat) : Int := if n < k then cs a b n a.length else if n = k then cs a b k i else 0

section
variable {C : Ctx}
theorem circular_spec (hC : Has C T55) {va vb : AV} {a b : List Int} {h : Heap} (ha : RI h va a) (hb : RI h vb b) (hl : a.length = b.length ∧ a.length ≤ 8192) (sa : small a) (sb : small b) :
    ACalls C 55 [va, vb] h (fun r h' => Fresh h h' r (circ a b)) := by
  have l1 := ha.lt
  have s1 := sumAbs_small sa
  have s2 := sumAbs_nonneg a
  have s3 := maxAbs_small sb
  have s4 := maxAbs_nonneg b
  have p2 : sumAbs a * maxAbs b ≤ 8192000000 * 1000000 := Int.mul_le_mul (by omega) s3 s4 (by omega)
  have hN : ∀ f : Nat → Int, ((List.range a.length).map f).length = a.length := fun f => by simp
  (refine calls_intro (hC.body (by decide) tab55) (Nat.le_of_ble_eq_true rfl) ?_); (show wp C _ none B55.code _ _); (simp only [B55]); simp -implicitDefEqProofs (disch := first | assumption | decide | omega | (simp only [wpD1] <;> omega) | (simp only [wpD2] <;> assumption) | solve_by_elim [HSub.refl, HSub.push, HSub.reserve] | fail) only [↓wpPre, wpPost, wpPoly, Int.reduceToNat, Int.reducePow, Int.reduceMul, Int.reduceAdd, Int.reduceSub, Int.reduceNeg, Nat.reduceAdd, Nat.reduceMul, Nat.reducePow, Int.reduceLT, Int.reduceLE, Int.reduceEq, Nat.reduceEqDiff, ha.len, ints_replicate]
  refine wp_loopI (fun j t h' => ∃ k : Nat, h' = h.push (.cells (ints ((List.range a.length).map (cpre a b k 0))) true 0) ∧ t 0 = va ∧ t 1 = vb ∧ t 5 = .slice h.size 0 a.length (.known a.length) ∧ t 6 = .int .i64 (k : Nat) ∧ k ≤ a.length ∧ j = a.length - k) (j0 := a.length)
    ⟨0, ?_, rfl, rfl, rfl, rfl, by omega, rfl⟩ ?_
  · have e : (List.range a.length).map (cpre a b 0 0) = List.replicate a.length 0 := by
      have : cpre a b 0 0 = fun _ => 0 := by funext n; simp [cpre, cs]
      rw [this, List.map_const', List.length_range]
    rw [e]
  rintro j t h2 ⟨k, rfl, e0, e1, e5, e6, hk, hj⟩
  simp -implicitDefEqProofs (disch := first | assumption | decide | omega | (simp only [wpD1] <;> omega) | (simp only [wpD2] <;> assumption) | solve_by_elim [HSub.refl, HSub.push, HSub.reserve] | fail) only [↓wpPre, wpPost, wpPoly, Int.reduceToNat, Int.reducePow, Int.reduceMul, Int.reduceAdd, Int.reduceSub, Int.reduceNeg, Nat.reduceAdd, Nat.reduceMul, Nat.reducePow, Int.reduceLT, Int.reduceLE, Int.reduceEq, Nat.reduceEqDiff, e0, e6, ha.len]
  refine Br.by (fun c => ?_) (fun c => ?_)
  · have hk' : k < a.length := by omega
    simp -implicitDefEqProofs (disch := first | assumption | decide | omega | (simp only [wpD1] <;> omega) | (simp only [wpD2] <;> assumption) | solve_by_elim [HSub.refl, HSub.push, HSub.reserve] | fail) only [↓wpPre, wpPost, wpPoly, Int.reduceToNat, Int.reducePow, Int.reduceMul, Int.reduceAdd, Int.reduceSub, Int.reduceNeg, Nat.reduceAdd, Nat.reduceMul, Nat.reducePow, Int.reduceLT, Int.reduceLE, Int.reduceEq, Nat.reduceEqDiff]
    refine wp_loopI (fun j t h' => ∃ i : Nat, h' = h.push (.cells (ints ((List.range a.length).map (cpre a b k i))) true 0) ∧ t 0 = va ∧ t 1 = vb ∧ t 5 = .slice h.size 0 a.length (.known a.length) ∧ t 6 = .int .i64 (k : Nat) ∧ t 7 = .int .i64 (i : Nat) ∧ i ≤ a.length ∧ j = a.length - i) (j0 := a.length)
      ⟨0, rfl, e0, e1, e5, e6, rfl, by omega, rfl⟩ ?_
    rintro j t h3 ⟨i, rfl, e0, e1, e5, e6, e7, hi, hj⟩
    simp -implicitDefEqProofs (disch := first | assumption | decide | omega | (simp only [wpD1] <;> omega) | (simp only [wpD2] <;> assumption) | solve_by_elim [HSub.refl, HSub.push, HSub.reserve] | fail) only [↓wpPre, wpPost, wpPoly, Int.reduceToNat, Int.reducePow, Int.reduceMul, Int.reduceAdd, Int.reduceSub, Int.reduceNeg, Nat.reduceAdd, Nat.reduceMul, Nat.reducePow, Int.reduceLT, Int.reduceLE, Int.reduceEq, Nat.reduceEqDiff, e0, e7, ha.len]
    refine Br.by (fun c2 => ?_) (fun c2 => ?_)
    · have hi' : i < a.length := by omega
      have hm : (i + k) % b.length < b.length := Nat.mod_lt _ (by omega)
      have b1 := absI_le (Int.le_trans (cs_abs a b k (by omega) i hi) (Int.mul_le_mul_of_nonneg_right (sumAbs_take_le a i) s4))
      have b4 : absI (a.getD i 0 * b.getD ((i + k) % b.length) 0) ≤ 1000000 * 1000000 := by
        rw [absI_mul]
        exact Int.mul_le_mul (small_abs sa hi') (small_abs sb hm) (absI_nonneg _) (by omega)
      have b5 := absI_le b4
      have e3 : ((i : Int) + k) % b.length = (((i + k) % b.length : Nat) : Int) := by
        rw [← Int.natCast_add]; exact (Int.natCast_emod _ _).symm
      have g : ((List.range a.length).map (cpre a b k i)).getD k 0 = cs a b k i := by rw [range_get hk']; simp [cpre]
      have hNk := hN (cpre a b k i)
      generalize hq : (i + k) % b.length = q at hm b4 b5 e3
      simp -implicitDefEqProofs (disch := first | assumption | decide | omega | (simp only [wpD1] <;> omega) | (simp only [wpD2] <;> assumption) | solve_by_elim [HSub.refl, HSub.push, HSub.reserve] | fail) only [↓wpPre, wpPost, wpPoly, Int.reduceToNat, Int.reducePow, Int.reduceMul, Int.reduceAdd, Int.reduceSub, Int.reduceNeg, Nat.reduceAdd, Nat.reduceMul, Nat.reducePow, Int.reduceLT, Int.reduceLE, Int.reduceEq, Nat.reduceEqDiff, e0, e1, e5, e6, e7, ha.idx, hb.idx, hb.len, ha.loadC, hb.loadC, e3, g]
      refine ⟨_, ⟨i + 1, ?_, by simp, by omega, rfl⟩, by omega⟩
      rw [range_set (g := cpre a b k (i + 1)) (by simp [cpre, cs, hq]) (fun n hn => by simp only [cpre, if_neg hn])]
    · have : i = a.length := by omega
      subst this
      have e : cpre a b k a.length = cpre a b (k + 1) 0 := by
        funext n
        simp only [cpre]
        by_cases h1 : n < k
        · rw [if_pos h1, if_pos (by omega)]
        · rw [if_neg h1]
          by_cases h2 : n = k
          · rw [if_pos h2, if_pos (by omega), h2]
          · rw [if_neg h2, if_neg (by omega)]; simp [cs]
      rw [e]
      simp -implicitDefEqProofs (disch := first | assumption | decide | omega | (simp only [wpD1] <;> omega) | (simp only [wpD2] <;> assumption) | solve_by_elim [HSub.refl, HSub.push, HSub.reserve] | fail) only [↓wpPre, wpPost, wpPoly, Int.reduceToNat, Int.reducePow, Int.reduceMul, Int.reduceAdd, Int.reduceSub, Int.reduceNeg, Nat.reduceAdd, Nat.reduceMul, Nat.reducePow, Int.reduceLT, Int.reduceLE, Int.reduceEq, Nat.reduceEqDiff, e0, e1, e5, e6]
      exact ⟨_, ⟨k + 1, rfl, by simp, by omega, rfl⟩, by omega⟩
  · have : k = a.length := by omega
    subst this
    simp -implicitDefEqProofs (disch := first | assumption | decide | omega | (simp only [wpD1] <;> omega) | (simp only [wpD2] <;> assumption) | solve_by_elim [HSub.refl, HSub.push, HSub.reserve] | fail) only [↓wpPre, wpPost, wpPoly, Int.reduceToNat, Int.reducePow, Int.reduceMul, Int.reduceAdd, Int.reduceSub, Int.reduceNeg, Nat.reduceAdd, Nat.reduceMul, Nat.reducePow, Int.reduceLT, Int.reduceLE, Int.reduceEq, Nat.reduceEqDiff, e5]
    have e : (List.range a.length).map (cpre a b a.length 0) = circ a b := by
      refine List.map_congr_left fun n hn => ?_
      rw [List.mem_range] at hn
      simp only [cpre, if_pos hn]
    rw [e]
    exact ⟨HSub.push1 _ _, by rw [circ_length]; omega, h.size, Nat.le_refl _, by rw [circ_length], get_push_eq rfl⟩
end
end Go.Ae

/- Circular of the references. -/
set_option linter.unusedSimpArgs false
set_option linter.unusedVariables false
namespace Go.Ae

/-- The error of circular sums. -/
def circErr (a b : List Int) : Int :=
  if a.length = 0 then 3 else if 8192 < a.length then 4 else if a.length ≠ b.length then 10 else if a.any bigs = true ∨ b.any bigs = true then 2 else 0

section
variable {C : Ctx}
theorem Circ09_spec (hC : Has C T44) {va vb : AV} {a b : List Int} {h : Heap} (ha : RI h va a) (hb : RI h vb b) :
    ACalls C 44 [va, vb] h (fun r h' => ∃ v', r = lstErr v' (circErr a b) ∧ HSub h h' ∧ RI h' v' (if circErr a b = 0 then circ a b else [])) := by
  have l1 := ha.lt
  have l2 := hb.lt
  have fin : ∀ e, circErr a b = e → e ≠ 0 → ∃ v', AV.tuple [.nilslice, .int .i64 e] = lstErr v' (circErr a b) ∧ HSub h h ∧ RI h v' (if circErr a b = 0 then circ a b else []) := fun e h0 he => ⟨.nilslice, by rw [h0, lstErr], HSub.refl _, by rw [if_neg (by rw [h0]; exact he)]; exact RI.nil⟩
  have pe : circErr a b = if a.length = 0 then 3 else if 8192 < a.length then 4 else if a.length ≠ b.length then 10 else if a.any bigs = true ∨ b.any bigs = true then 2 else 0 := rfl
  by_cases c0 : a.length = 0
  · rw [if_pos c0] at pe
    (refine calls_intro (hC.body (by decide) tab44) (Nat.le_of_ble_eq_true rfl) ?_); (show wp C _ none B44.code _ _); (simp only [B44]); simp -implicitDefEqProofs (disch := first | assumption | decide | omega | (simp only [wpD1] <;> omega) | (simp only [wpD2] <;> assumption) | solve_by_elim [HSub.refl, HSub.push, HSub.reserve] | fail) only [↓wpPre, wpPost, wpPoly, Int.reduceToNat, Int.reducePow, Int.reduceMul, Int.reduceAdd, Int.reduceSub, Int.reduceNeg, Nat.reduceAdd, Nat.reduceMul, Nat.reducePow, Int.reduceLT, Int.reduceLE, Int.reduceEq, Nat.reduceEqDiff, ha.len]
    exact fin 3 pe (by decide)
  rw [if_neg c0] at pe
  by_cases c1 : 8192 < a.length
  · rw [if_pos c1] at pe
    (refine calls_intro (hC.body (by decide) tab44) (Nat.le_of_ble_eq_true rfl) ?_); (show wp C _ none B44.code _ _); (simp only [B44]); simp -implicitDefEqProofs (disch := first | assumption | decide | omega | (simp only [wpD1] <;> omega) | (simp only [wpD2] <;> assumption) | solve_by_elim [HSub.refl, HSub.push, HSub.reserve] | fail) only [↓wpPre, wpPost, wpPoly, Int.reduceToNat, Int.reducePow, Int.reduceMul, Int.reduceAdd, Int.reduceSub, Int.reduceNeg, Nat.reduceAdd, Nat.reduceMul, Nat.reducePow, Int.reduceLT, Int.reduceLE, Int.reduceEq, Nat.reduceEqDiff, ha.len]
    exact fin 4 pe (by decide)
  rw [if_neg c1] at pe
  by_cases c2 : a.length ≠ b.length
  · rw [if_pos c2] at pe
    (refine calls_intro (hC.body (by decide) tab44) (Nat.le_of_ble_eq_true rfl) ?_); (show wp C _ none B44.code _ _); (simp only [B44]); simp -implicitDefEqProofs (disch := first | assumption | decide | omega | (simp only [wpD1] <;> omega) | (simp only [wpD2] <;> assumption) | solve_by_elim [HSub.refl, HSub.push, HSub.reserve] | fail) only [↓wpPre, wpPost, wpPoly, Int.reduceToNat, Int.reducePow, Int.reduceMul, Int.reduceAdd, Int.reduceSub, Int.reduceNeg, Nat.reduceAdd, Nat.reduceMul, Nat.reducePow, Int.reduceLT, Int.reduceLE, Int.reduceEq, Nat.reduceEqDiff, ha.len, hb.len]
    exact fin 10 pe (by decide)
  have c2' : a.length = b.length := by omega
  rw [if_neg c2] at pe
  (refine calls_intro (hC.body (by decide) tab44) (Nat.le_of_ble_eq_true rfl) ?_); (show wp C _ none B44.code _ _); (simp only [B44]); simp -implicitDefEqProofs (disch := first | assumption | decide | omega | (simp only [wpD1] <;> omega) | (simp only [wpD2] <;> assumption) | solve_by_elim [HSub.refl, HSub.push, HSub.reserve] | fail) only [↓wpPre, wpPost, wpPoly, Int.reduceToNat, Int.reducePow, Int.reduceMul, Int.reduceAdd, Int.reduceSub, Int.reduceNeg, Nat.reduceAdd, Nat.reduceMul, Nat.reducePow, Int.reduceLT, Int.reduceLE, Int.reduceEq, Nat.reduceEqDiff, ha.len, hb.len]
  refine wp_loopI (fun j t h' => h' = h ∧ t 0 = va ∧ t 1 = vb ∧ ∃ i : Nat, t 6 = .int .i64 (i : Nat) ∧ i ≤ a.length ∧ (a.take i).any bigs = false ∧ (b.take i).any bigs = false ∧ j = a.length - i) (j0 := a.length) ⟨rfl, rfl, rfl, 0, rfl, by omega, by simp, by simp, rfl⟩ ?_
  rintro j t h2 ⟨hh, e0, e1, i, e6, hi, hp, hp2, hj⟩
  subst hh
  simp -implicitDefEqProofs (disch := first | assumption | decide | omega | (simp only [wpD1] <;> omega) | (simp only [wpD2] <;> assumption) | solve_by_elim [HSub.refl, HSub.push, HSub.reserve] | fail) only [↓wpPre, wpPost, wpPoly, Int.reduceToNat, Int.reducePow, Int.reduceMul, Int.reduceAdd, Int.reduceSub, Int.reduceNeg, Nat.reduceAdd, Nat.reduceMul, Nat.reducePow, Int.reduceLT, Int.reduceLE, Int.reduceEq, Nat.reduceEqDiff, e0, e6, ha.len]
  refine Br.by (fun c => ?_) (fun c => ?_)
  · have hi' : i < a.length := by omega
    have hib : i < b.length := by omega
    by_cases d : (a.getD i 0 < -1000000 ∨ 1000000 < a.getD i 0) ∨ (b.getD i 0 < -1000000 ∨ 1000000 < b.getD i 0)
    · have hbad : a.any bigs = true ∨ b.any bigs = true := by
        rcases d with d | d
        · exact .inl (List.any_eq_true.2 ⟨_, getD_mem hi', by simp only [bigs, decide_eq_true_eq]; exact d⟩)
        · exact .inr (List.any_eq_true.2 ⟨_, getD_mem hib, by simp only [bigs, decide_eq_true_eq]; exact d⟩)
      rw [if_pos hbad] at pe
      (repeat' (first | (refine Br.by (fun _ => ?_) (fun _ => ?_)) | (simp -implicitDefEqProofs (disch := first | assumption | decide | omega | (simp only [wpD1] <;> omega) | (simp only [wpD2] <;> assumption) | solve_by_elim [HSub.refl, HSub.push, HSub.reserve] | fail) only [↓wpPre, wpPost, wpPoly, Int.reduceToNat, Int.reducePow, Int.reduceMul, Int.reduceAdd, Int.reduceSub, Int.reduceNeg, Nat.reduceAdd, Nat.reduceMul, Nat.reducePow, Int.reduceLT, Int.reduceLE, Int.reduceEq, Nat.reduceEqDiff, e0, e1, e6, ha.idx, ha.load, hb.idx, hb.load])))
      all_goals first | exact fin 2 pe (by decide) | omega
    · simp -implicitDefEqProofs (disch := first | assumption | decide | omega | (simp only [wpD1] <;> omega) | (simp only [wpD2] <;> assumption) | solve_by_elim [HSub.refl, HSub.push, HSub.reserve] | fail) only [↓wpPre, wpPost, wpPoly, Int.reduceToNat, Int.reducePow, Int.reduceMul, Int.reduceAdd, Int.reduceSub, Int.reduceNeg, Nat.reduceAdd, Nat.reduceMul, Nat.reducePow, Int.reduceLT, Int.reduceLE, Int.reduceEq, Nat.reduceEqDiff, e0, e1, e6, ha.idx, ha.load, hb.idx, hb.load]
      exact ⟨_, ⟨i + 1, by simp, by omega, any_take_succ hi' hp (by simp only [bigs, decide_eq_false_iff_not]; omega), any_take_succ hib hp2 (by simp only [bigs, decide_eq_false_iff_not]; omega), rfl⟩, by omega⟩
  · have : i = a.length := by omega
    subst this
    rw [List.take_length] at hp
    rw [c2', List.take_length] at hp2
    rw [if_neg (by rw [hp, hp2]; simp)] at pe
    simp -implicitDefEqProofs (disch := first | assumption | decide | omega | (simp only [wpD1] <;> omega) | (simp only [wpD2] <;> assumption) | solve_by_elim [HSub.refl, HSub.push, HSub.reserve] | fail) only [↓wpPre, wpPost, wpPoly, Int.reduceToNat, Int.reducePow, Int.reduceMul, Int.reduceAdd, Int.reduceSub, Int.reduceNeg, Nat.reduceAdd, Nat.reduceMul, Nat.reducePow, Int.reduceLT, Int.reduceLE, Int.reduceEq, Nat.reduceEqDiff, e0, e1]
    refine ACallsK.of (circular_spec (hC.sub (T' := T55) (by decide)) ha hb (by omega) (small_of hp) (small_of hp2)) ?_
    rintro r h3 F
    simp -implicitDefEqProofs (disch := first | assumption | decide | omega | (simp only [wpD1] <;> omega) | (simp only [wpD2] <;> assumption) | solve_by_elim [HSub.refl, HSub.push, HSub.reserve] | fail) only [↓wpPre, wpPost, wpPoly, Int.reduceToNat, Int.reducePow, Int.reduceMul, Int.reduceAdd, Int.reduceSub, Int.reduceNeg, Nat.reduceAdd, Nat.reduceMul, Nat.reducePow, Int.reduceLT, Int.reduceLE, Int.reduceEq, Nat.reduceEqDiff]
    exact ⟨r, by rw [pe, lstErr], F.sub, by rw [if_pos pe]; exact F.ri⟩

end
end Go.Ae

/- Circular of the program's package cross. -/
set_option linter.unusedSimpArgs false
set_option linter.unusedVariables false
namespace Go.Ae
section
variable {C : Ctx}
theorem bigs46_spec (hC : Has C T46) {x : Int} {h : Heap} : ACalls C 46 [.int .i64 x] h (fun r h' => r = .bool (bigs x) ∧ h' = h) := by
  (refine calls_intro (hC.body (by decide) tab46) (Nat.le_of_ble_eq_true rfl) ?_); (show wp C _ none B46.code _ _); (simp only [B46]); simp -implicitDefEqProofs (disch := first | assumption | decide | omega | (simp only [wpD1] <;> omega) | (simp only [wpD2] <;> assumption) | solve_by_elim [HSub.refl, HSub.push, HSub.reserve] | fail) only [↓wpPre, wpPost, wpPoly, Int.reduceToNat, Int.reducePow, Int.reduceMul, Int.reduceAdd, Int.reduceSub, Int.reduceNeg, Nat.reduceAdd, Nat.reduceMul, Nat.reducePow, Int.reduceLT, Int.reduceLE, Int.reduceEq, Nat.reduceEqDiff]
  (repeat' (first | (refine Br.by (fun _ => ?_) (fun _ => ?_)) | (simp -implicitDefEqProofs (disch := first | assumption | decide | omega | (simp only [wpD1] <;> omega) | (simp only [wpD2] <;> assumption) | solve_by_elim [HSub.refl, HSub.push, HSub.reserve] | fail) only [↓wpPre, wpPost, wpPoly, Int.reduceToNat, Int.reducePow, Int.reduceMul, Int.reduceAdd, Int.reduceSub, Int.reduceNeg, Nat.reduceAdd, Nat.reduceMul, Nat.reducePow, Int.reduceLT, Int.reduceLE, Int.reduceEq, Nat.reduceEqDiff])))
  all_goals (simp [bigs]; omega)
theorem twice_get {b : List Int} {i k : Nat} (hi : i < b.length) (hk : k < b.length) : (b ++ b).getD (k + i) 0 = b.getD ((i + k) % b.length) 0 := by
  simp only [List.getD_eq_getElem?_getD]
  by_cases c : i + k < b.length
  · rw [Nat.mod_eq_of_lt c, List.getElem?_append_left (by omega), Nat.add_comm]
  · rw [List.getElem?_append_right (by omega), Nat.mod_eq_sub_mod (by omega), Nat.mod_eq_of_lt (by omega), Nat.add_comm]

set_option maxHeartbeats 1000000 in
theorem CircP_specF (hC : Has C T25) {va vb : AV} {a b : List Int} {h : Heap} (ha : RI h va a) (hb : RI h vb b) :
    ACalls C 25 [va, vb] h (fun r h' => ∃ v', r = lstErr v' (circErr a b) ∧ HSub h h' ∧ RI h' v' (if circErr a b = 0 then circ a b else []) ∧ (circErr a b = 0 → Fresh h h' v' (circ a b))) := by
  have asks : ∀ {l : List Int} {h : Heap}, Asks C (.func 46 [] []) bigs l h := fun {l h} => ⟨46, [], rfl, fun x _ => bigs46_spec (hC.sub (T' := T46) (by decide))⟩
  have l1 := ha.lt
  have l2 := hb.lt
  have c0 := hb.cells
  have o0 := hb.one
  have fin : ∀ e, circErr a b = e → e ≠ 0 → ∃ v', AV.tuple [.nilslice, .int .i64 e] = lstErr v' (circErr a b) ∧ HSub h h ∧ RI h v' (if circErr a b = 0 then circ a b else []) ∧ (circErr a b = 0 → Fresh h h v' (circ a b)) := fun e h0 he => ⟨.nilslice, by rw [h0, lstErr], HSub.refl _, by rw [if_neg (by rw [h0]; exact he)]; exact RI.nil, fun q => absurd (h0.symm.trans q) he⟩
  have pe : circErr a b = if a.length = 0 then 3 else if 8192 < a.length then 4 else if a.length ≠ b.length then 10 else if a.any bigs = true ∨ b.any bigs = true then 2 else 0 := rfl
  by_cases c0 : a.length = 0
  · rw [if_pos c0] at pe
    (refine calls_intro (hC.body (by decide) tab25) (Nat.le_of_ble_eq_true rfl) ?_); (show wp C _ none B25.code _ _); (simp only [B25]); simp -implicitDefEqProofs (disch := first | assumption | decide | omega | (simp only [wpD1] <;> omega) | (simp only [wpD2] <;> assumption) | solve_by_elim [HSub.refl, HSub.push, HSub.reserve] | fail) only [↓wpPre, wpPost, wpPoly, Int.reduceToNat, Int.reducePow, Int.reduceMul, Int.reduceAdd, Int.reduceSub, Int.reduceNeg, Nat.reduceAdd, Nat.reduceMul, Nat.reducePow, Int.reduceLT, Int.reduceLE, Int.reduceEq, Nat.reduceEqDiff, ha.len]
    exact fin 3 pe (by decide)
  rw [if_neg c0] at pe
  by_cases c1 : 8192 < a.length
  · rw [if_pos c1] at pe
    (refine calls_intro (hC.body (by decide) tab25) (Nat.le_of_ble_eq_true rfl) ?_); (show wp C _ none B25.code _ _); (simp only [B25]); simp -implicitDefEqProofs (disch := first | assumption | decide | omega | (simp only [wpD1] <;> omega) | (simp only [wpD2] <;> assumption) | solve_by_elim [HSub.refl, HSub.push, HSub.reserve] | fail) only [↓wpPre, wpPost, wpPoly, Int.reduceToNat, Int.reducePow, Int.reduceMul, Int.reduceAdd, Int.reduceSub, Int.reduceNeg, Nat.reduceAdd, Nat.reduceMul, Nat.reducePow, Int.reduceLT, Int.reduceLE, Int.reduceEq, Nat.reduceEqDiff, ha.len]
    exact fin 4 pe (by decide)
  rw [if_neg c1] at pe
  by_cases c2 : a.length ≠ b.length
  · rw [if_pos c2] at pe
    (refine calls_intro (hC.body (by decide) tab25) (Nat.le_of_ble_eq_true rfl) ?_); (show wp C _ none B25.code _ _); (simp only [B25]); simp -implicitDefEqProofs (disch := first | assumption | decide | omega | (simp only [wpD1] <;> omega) | (simp only [wpD2] <;> assumption) | solve_by_elim [HSub.refl, HSub.push, HSub.reserve] | fail) only [↓wpPre, wpPost, wpPoly, Int.reduceToNat, Int.reducePow, Int.reduceMul, Int.reduceAdd, Int.reduceSub, Int.reduceNeg, Nat.reduceAdd, Nat.reduceMul, Nat.reducePow, Int.reduceLT, Int.reduceLE, Int.reduceEq, Nat.reduceEqDiff, ha.len, hb.len]
    exact fin 10 pe (by decide)
  have c2' : a.length = b.length := by omega
  rw [if_neg c2] at pe
  (refine calls_intro (hC.body (by decide) tab25) (Nat.le_of_ble_eq_true rfl) ?_); (show wp C _ none B25.code _ _); (simp only [B25]); simp -implicitDefEqProofs (disch := first | assumption | decide | omega | (simp only [wpD1] <;> omega) | (simp only [wpD2] <;> assumption) | solve_by_elim [HSub.refl, HSub.push, HSub.reserve] | fail) only [↓wpPre, wpPost, wpPoly, Int.reduceToNat, Int.reducePow, Int.reduceMul, Int.reduceAdd, Int.reduceSub, Int.reduceNeg, Nat.reduceAdd, Nat.reduceMul, Nat.reducePow, Int.reduceLT, Int.reduceLE, Int.reduceEq, Nat.reduceEqDiff, ha.len, hb.len]
  refine ACallsK.eq (ContainsFunc_spec (hC.sub (T' := T37) (by decide)) ha asks) ?_
  by_cases hA : a.any bigs = true
  · rw [if_pos (.inl hA)] at pe
    simp -implicitDefEqProofs (disch := first | assumption | decide | omega | (simp only [wpD1] <;> omega) | (simp only [wpD2] <;> assumption) | solve_by_elim [HSub.refl, HSub.push, HSub.reserve] | fail) only [↓wpPre, wpPost, wpPoly, Int.reduceToNat, Int.reducePow, Int.reduceMul, Int.reduceAdd, Int.reduceSub, Int.reduceNeg, Nat.reduceAdd, Nat.reduceMul, Nat.reducePow, Int.reduceLT, Int.reduceLE, Int.reduceEq, Nat.reduceEqDiff]
    exact fin 2 pe (by decide)
  simp -implicitDefEqProofs (disch := first | assumption | decide | omega | (simp only [wpD1] <;> omega) | (simp only [wpD2] <;> assumption) | solve_by_elim [HSub.refl, HSub.push, HSub.reserve] | fail) only [↓wpPre, wpPost, wpPoly, Int.reduceToNat, Int.reducePow, Int.reduceMul, Int.reduceAdd, Int.reduceSub, Int.reduceNeg, Nat.reduceAdd, Nat.reduceMul, Nat.reducePow, Int.reduceLT, Int.reduceLE, Int.reduceEq, Nat.reduceEqDiff]
  refine ACallsK.eq (ContainsFunc_spec (hC.sub (T' := T37) (by decide)) hb asks) ?_
  by_cases hB : b.any bigs = true
  · rw [if_pos (.inr hB)] at pe
    simp -implicitDefEqProofs (disch := first | assumption | decide | omega | (simp only [wpD1] <;> omega) | (simp only [wpD2] <;> assumption) | solve_by_elim [HSub.refl, HSub.push, HSub.reserve] | fail) only [↓wpPre, wpPost, wpPoly, Int.reduceToNat, Int.reducePow, Int.reduceMul, Int.reduceAdd, Int.reduceSub, Int.reduceNeg, Nat.reduceAdd, Nat.reduceMul, Nat.reducePow, Int.reduceLT, Int.reduceLE, Int.reduceEq, Nat.reduceEqDiff]
    exact fin 2 pe (by decide)
  rw [if_neg (by rintro (h | h) <;> contradiction)] at pe
  have sa := small_of (Bool.eq_false_iff.2 hA)
  have sb := small_of (Bool.eq_false_iff.2 hB)
  simp -implicitDefEqProofs (disch := first | assumption | decide | omega | (simp only [wpD1] <;> omega) | (simp only [wpD2] <;> assumption) | solve_by_elim [HSub.refl, HSub.push, HSub.reserve] | fail) only [↓wpPre, wpPost, wpPoly, Int.reduceToNat, Int.reducePow, Int.reduceMul, Int.reduceAdd, Int.reduceSub, Int.reduceNeg, Nat.reduceAdd, Nat.reduceMul, Nat.reducePow, Int.reduceLT, Int.reduceLE, Int.reduceEq, Nat.reduceEqDiff]
  have s1 := sumAbs_small sa
  have s2 := sumAbs_nonneg a
  have s3 := maxAbs_small sb
  have s4 := maxAbs_nonneg b
  have p2 : sumAbs a * maxAbs b ≤ 8192000000 * 1000000 := Int.mul_le_mul (by omega) s3 s4 (by omega)
  have hbb : RI (h.push (.cells [vb, vb] true 0)) vb b := hb.mono (HSub.push1 _ _)
  have efl : flatP [(vb, b), (vb, b)] = b ++ b := by simp [flatP]
  refine ACallsK.of (Concat_spec (hC.sub (T' := T47) (by decide)) (ps := [(vb, b), (vb, b)]) (j := h.size) (u := 0) (wr := true) (get_push_eq rfl) (by intro p hp; simp only [List.mem_cons, List.not_mem_nil, or_false] at hp; rcases hp with rfl | rfl <;> exact ⟨hbb, by simp only; omega⟩) (by simp) (by rw [efl]; simp; omega)) ?_
  rintro r h1 A
  rw [efl] at A
  have A0 := A.sub
  have hs0 : HSub h h1 := (HSub.push1 _ _).trans A0
  have hr := A.ri
  have ha1 := ha.mono hs0
  simp -implicitDefEqProofs (disch := first | assumption | decide | omega | (simp only [wpD1] <;> omega) | (simp only [wpD2] <;> assumption) | solve_by_elim [HSub.refl, HSub.push, HSub.reserve] | fail) only [↓wpPre, wpPost, wpPoly, Int.reduceToNat, Int.reducePow, Int.reduceMul, Int.reduceAdd, Int.reduceSub, Int.reduceNeg, Nat.reduceAdd, Nat.reduceMul, Nat.reducePow, Int.reduceLT, Int.reduceLE, Int.reduceEq, Nat.reduceEqDiff, ha.len, ints_replicate]
  have hN : ∀ f : Nat → Int, ((List.range a.length).map f).length = a.length := fun f => by simp
  refine wp_loopI (fun j t h' => ∃ k : Nat, h' = h1.push (.cells (ints ((List.range a.length).map (cpre a b k 0))) true 0) ∧ t 0 = va ∧ t 7 = r ∧ t 8 = .slice h1.size 0 a.length (.known a.length) ∧ t 40 = .slice h1.size 0 a.length (.known a.length) ∧ t 41 = .int .i64 a.length ∧ t 42 = .int .i64 (k : Nat) ∧ k ≤ a.length ∧ j = a.length - k) (j0 := a.length)
    ⟨0, ?_, rfl, rfl, rfl, rfl, rfl, rfl, by omega, rfl⟩ ?_
  · have e : (List.range a.length).map (cpre a b 0 0) = List.replicate a.length 0 := by
      have : cpre a b 0 0 = fun _ => 0 := by funext n; simp [cpre, cs]
      rw [this, List.map_const', List.length_range]
    rw [e]
  rintro j t h2 ⟨k, rfl, e0, e7, e8, e40, e41, e42, hk, hj⟩
  simp -implicitDefEqProofs (disch := first | assumption | decide | omega | (simp only [wpD1] <;> omega) | (simp only [wpD2] <;> assumption) | solve_by_elim [HSub.refl, HSub.push, HSub.reserve] | fail) only [↓wpPre, wpPost, wpPoly, Int.reduceToNat, Int.reducePow, Int.reduceMul, Int.reduceAdd, Int.reduceSub, Int.reduceNeg, Nat.reduceAdd, Nat.reduceMul, Nat.reducePow, Int.reduceLT, Int.reduceLE, Int.reduceEq, Nat.reduceEqDiff, e41, e42]
  refine Br.by (fun c => ?_) (fun c => ?_)
  · have hk' : k < a.length := by omega
    simp -implicitDefEqProofs (disch := first | assumption | decide | omega | (simp only [wpD1] <;> omega) | (simp only [wpD2] <;> assumption) | solve_by_elim [HSub.refl, HSub.push, HSub.reserve] | fail) only [↓wpPre, wpPost, wpPoly, Int.reduceToNat, Int.reducePow, Int.reduceMul, Int.reduceAdd, Int.reduceSub, Int.reduceNeg, Nat.reduceAdd, Nat.reduceMul, Nat.reducePow, Int.reduceLT, Int.reduceLE, Int.reduceEq, Nat.reduceEqDiff, e0, ha.len, e42]
    refine wp_loopI (fun j t h' => ∃ i : Nat, h' = h1.push (.cells (ints ((List.range a.length).map (cpre a b k i))) true 0) ∧ t 0 = va ∧ t 7 = r ∧ t 8 = .slice h1.size 0 a.length (.known a.length) ∧ t 40 = .slice h1.size 0 a.length (.known a.length) ∧ t 41 = .int .i64 a.length ∧ t 42 = .int .i64 (k : Nat) ∧ t 9 = .int .i64 (k : Nat) ∧ t 45 = va ∧ t 46 = .int .i64 a.length ∧ t 47 = .int .i64 (i : Nat) ∧ i ≤ a.length ∧ j = a.length - i) (j0 := a.length)
      ⟨0, rfl, e0, e7, e8, e40, e41, e42, rfl, rfl, rfl, rfl, by omega, rfl⟩ ?_
    rintro j t h3 ⟨i, rfl, e0, e7, e8, e40, e41, e42, e9, e45, e46, e47, hi, hj⟩
    simp -implicitDefEqProofs (disch := first | assumption | decide | omega | (simp only [wpD1] <;> omega) | (simp only [wpD2] <;> assumption) | solve_by_elim [HSub.refl, HSub.push, HSub.reserve] | fail) only [↓wpPre, wpPost, wpPoly, Int.reduceToNat, Int.reducePow, Int.reduceMul, Int.reduceAdd, Int.reduceSub, Int.reduceNeg, Nat.reduceAdd, Nat.reduceMul, Nat.reducePow, Int.reduceLT, Int.reduceLE, Int.reduceEq, Nat.reduceEqDiff, e46, e47]
    refine Br.by (fun c2 => ?_) (fun c2 => ?_)
    · have hi' : i < a.length := by omega
      have hm : (i + k) % b.length < b.length := Nat.mod_lt _ (by omega)
      have b1 := absI_le (Int.le_trans (cs_abs a b k (by omega) i hi) (Int.mul_le_mul_of_nonneg_right (sumAbs_take_le a i) s4))
      have b4 : absI (a.getD i 0 * b.getD ((i + k) % b.length) 0) ≤ 1000000 * 1000000 := by
        rw [absI_mul]
        exact Int.mul_le_mul (small_abs sa hi') (small_abs sb hm) (absI_nonneg _) (by omega)
      have b5 := absI_le b4
      have g : ((List.range a.length).map (cpre a b k i)).getD k 0 = cs a b k i := by rw [range_get hk']; simp [cpre]
      have hNk := hN (cpre a b k i)
      have tg := twice_get (b := b) (i := i) (k := k) (by omega) (by omega)
      have tl : (b ++ b).length = b.length + b.length := List.length_append
      have tn : ((k : Int) + i).toNat = k + i := by omega
      generalize hq : (i + k) % b.length = q at hm b4 b5 tg
      simp -implicitDefEqProofs (disch := first | assumption | decide | omega | (simp only [wpD1] <;> omega) | (simp only [wpD2] <;> assumption) | solve_by_elim [HSub.refl, HSub.push, HSub.reserve] | fail) only [↓wpPre, wpPost, wpPoly, Int.reduceToNat, Int.reducePow, Int.reduceMul, Int.reduceAdd, Int.reduceSub, Int.reduceNeg, Nat.reduceAdd, Nat.reduceMul, Nat.reducePow, Int.reduceLT, Int.reduceLE, Int.reduceEq, Nat.reduceEqDiff, e0, e7, e8, e9, e40, e41, e42, e45, e46, e47, ha1.idx, hr.idx, ha1.loadC, hr.loadC, tn, tg, g]
      refine ⟨_, ⟨i + 1, ?_, by simp, by omega, rfl⟩, by omega⟩
      rw [range_set (g := cpre a b k (i + 1)) (by simp [cpre, cs, hq]) (fun n hn => by simp only [cpre, if_neg hn])]
    · have : i = a.length := by omega
      subst this
      have e : cpre a b k a.length = cpre a b (k + 1) 0 := by
        funext n
        simp only [cpre]
        by_cases h1 : n < k
        · rw [if_pos h1, if_pos (by omega)]
        · rw [if_neg h1]
          by_cases h2 : n = k
          · rw [if_pos h2, if_pos (by omega), h2]
          · rw [if_neg h2, if_neg (by omega)]; simp [cs]
      rw [e]
      simp -implicitDefEqProofs (disch := first | assumption | decide | omega | (simp only [wpD1] <;> omega) | (simp only [wpD2] <;> assumption) | solve_by_elim [HSub.refl, HSub.push, HSub.reserve] | fail) only [↓wpPre, wpPost, wpPoly, Int.reduceToNat, Int.reducePow, Int.reduceMul, Int.reduceAdd, Int.reduceSub, Int.reduceNeg, Nat.reduceAdd, Nat.reduceMul, Nat.reducePow, Int.reduceLT, Int.reduceLE, Int.reduceEq, Nat.reduceEqDiff, e0, e7, e8, e40, e41, e42]
      exact ⟨_, ⟨k + 1, rfl, by simp, by omega, rfl⟩, by omega⟩
  · have : k = a.length := by omega
    subst this
    simp -implicitDefEqProofs (disch := first | assumption | decide | omega | (simp only [wpD1] <;> omega) | (simp only [wpD2] <;> assumption) | solve_by_elim [HSub.refl, HSub.push, HSub.reserve] | fail) only [↓wpPre, wpPost, wpPoly, Int.reduceToNat, Int.reducePow, Int.reduceMul, Int.reduceAdd, Int.reduceSub, Int.reduceNeg, Nat.reduceAdd, Nat.reduceMul, Nat.reducePow, Int.reduceLT, Int.reduceLE, Int.reduceEq, Nat.reduceEqDiff, e8]
    have e : (List.range a.length).map (cpre a b a.length 0) = circ a b := by
      refine List.map_congr_left fun n hn => ?_
      rw [List.mem_range] at hn
      simp only [cpre, if_pos hn]
    rw [e]
    have cl := circ_length a b
    exact ⟨.slice h1.size 0 a.length (.known a.length), by simp only [pe, lstErr], hs0.push _, by rw [if_pos pe]; exact RI.known (get_push_eq rfl) ⟨by rw [cl], by omega⟩ (by omega), fun _ => ⟨hs0.push _, by omega, h1.size, hs0.size, by rw [cl], get_push_eq rfl⟩⟩
theorem CircP_spec (hC : Has C T25) {va vb : AV} {a b : List Int} {h : Heap} (ha : RI h va a) (hb : RI h vb b) :
    ACalls C 25 [va, vb] h (fun r h' => ∃ v', r = lstErr v' (circErr a b) ∧ HSub h h' ∧ RI h' v' (if circErr a b = 0 then circ a b else [])) :=
  (CircP_specF hC ha hb).mono fun _ _ ⟨v, q1, q2, q3, _⟩ => ⟨v, q1, q2, q3⟩
end
end Go.Ae

/- Spectra, in plain numbers: how often the circular sums occur. -/
set_option linter.unusedSimpArgs false
set_option linter.unusedVariables false
namespace Go.Ae
/-- One number more in a list of numbers with their counts, whose numbers come in order. -/
def stepR (acc : List (Int × Int)) (x : Int) : List (Int × Int) :=
  if 0 < acc.length ∧ (acc.getD (acc.length - 1) (0, 0)).1 = x then acc.set (acc.length - 1) (x, (acc.getD (acc.length - 1) (0, 0)).2 + 1) else acc ++ [(x, 1)]
def rleL (l : List Int) (k : Nat) : List (Int × Int) := (l.take k).foldl stepR []
theorem rleL_succ {l : List Int} {k : Nat} (h : k < l.length) : rleL l (k + 1) = stepR (rleL l k) (l.getD k 0) := by
  unfold rleL
  rw [take_succ_getD h, List.foldl_append]; rfl
theorem stepR_len (acc : List (Int × Int)) (x : Int) : (stepR acc x).length ≤ acc.length + 1 := by
  unfold stepR; split <;> simp
theorem rleL_len (l : List Int) : ∀ k, (rleL l k).length ≤ k
  | 0 => by simp [rleL]
  | k + 1 => by
    by_cases h : k < l.length
    · rw [rleL_succ h]
      have := stepR_len (rleL l k) (l.getD k 0)
      have := rleL_len l k
      omega
    · have e : rleL l (k + 1) = rleL l k := by unfold rleL; rw [List.take_of_length_le (by omega), List.take_of_length_le (by omega)]
      rw [e]
      have := rleL_len l k
      omega
theorem rleL_pos (l : List Int) : ∀ k, ∀ p ∈ rleL l k, 0 ≤ p.2 ∧ p.2 ≤ k
  | 0, p, hp => by simp [rleL] at hp
  | k + 1, p, hp => by
    by_cases h : k < l.length
    · rw [rleL_succ h] at hp
      have ih := rleL_pos l k
      unfold stepR at hp
      split at hp
      · rename_i c
        rcases List.mem_or_eq_of_mem_set hp with q | q
        · have := ih p q; omega
        · rw [q]
          have := ih _ (getP_mem (l := rleL l k) (k := (rleL l k).length - 1) (by omega))
          simp only; omega
      · rcases List.mem_append.1 hp with q | q
        · have := ih p q; omega
        · simp only [List.mem_singleton] at q; rw [q]; simp only; omega
    · have e : rleL l (k + 1) = rleL l k := by unfold rleL; rw [List.take_of_length_le (by omega), List.take_of_length_le (by omega)]
      rw [e] at hp
      have := rleL_pos l k p hp; omega
/-- How often a number occurs in the first places. -/
def cntL (l : List Int) (v : Int) : Nat → Int
  | 0 => 0
  | k + 1 => cntL l v k + if l.getD k 0 = v then 1 else 0
theorem cntL_range (l : List Int) (v : Int) : ∀ k, 0 ≤ cntL l v k ∧ cntL l v k ≤ k
  | 0 => by simp [cntL]
  | k + 1 => by have := cntL_range l v k; rw [cntL]; split <;> omega
/-- The numbers from -n on that occur, with their counts. -/
def specK (l : List Int) (n : Nat) : Nat → List (Int × Int)
  | 0 => []
  | k + 1 => specK l n k ++ if 0 < cntL l ((k : Int) - n) l.length then [((k : Int) - n, cntL l ((k : Int) - n) l.length)] else []
theorem specK_len (l : List Int) (n : Nat) : ∀ k, (specK l n k).length ≤ k
  | 0 => by simp [specK]
  | k + 1 => by
    have := specK_len l n k
    rw [specK, List.length_append]
    split <;> simp <;> omega
end Go.Ae

/- Counting behind sorting is counting by values. -/
set_option linter.unusedSimpArgs false
set_option linter.unusedVariables false
namespace Go.Ae
/-- The numbers from -n on, each as often as it occurs. -/
def repL (l : List Int) (n : Nat) : Nat → List Int
  | 0 => []
  | k + 1 => repL l n k ++ List.replicate (l.count ((k : Int) - n)) ((k : Int) - n)
theorem repL_lt (l : List Int) (n : Nat) : ∀ k, ∀ x ∈ repL l n k, -(n : Int) ≤ x ∧ x < (k : Int) - n
  | 0, x, hx => by simp [repL] at hx
  | k + 1, x, hx => by
    rw [repL] at hx
    rcases List.mem_append.1 hx with q | q
    · have := repL_lt l n k x q; omega
    · have := (List.mem_replicate.1 q).2; omega
theorem repL_sorted (l : List Int) (n : Nat) : ∀ k, (repL l n k).Pairwise (fun a b => a ≤ b)
  | 0 => List.Pairwise.nil
  | k + 1 => by
    rw [repL, List.pairwise_append]
    refine ⟨repL_sorted l n k, ?_, ?_⟩
    · exact List.pairwise_replicate.2 (.inr (Int.le_refl _))
    · intro a ha b hb
      have := repL_lt l n k a ha
      have := (List.mem_replicate.1 hb).2
      omega
theorem repL_count (l : List Int) (n : Nat) (x : Int) : ∀ k, (repL l n k).count x = if -(n : Int) ≤ x ∧ x < (k : Int) - n then l.count x else 0
  | 0 => by rw [if_neg (by omega)]; simp [repL]
  | k + 1 => by
    rw [repL, List.count_append, repL_count l n x k, List.count_replicate]
    by_cases h1 : x = (k : Int) - n
    · have a1 : ¬(-(n : Int) ≤ x ∧ x < (k : Int) - n) := by omega
      have a2 : -(n : Int) ≤ x ∧ x < ((k + 1 : Nat) : Int) - n := by omega
      rw [if_neg a1, if_pos a2, ← h1]
      simp
    · have a3 : ((k : Int) - n == x) = false := by simpa using fun h => h1 h.symm
      rw [a3]
      by_cases h2 : -(n : Int) ≤ x ∧ x < (k : Int) - n
      · have a4 : -(n : Int) ≤ x ∧ x < ((k + 1 : Nat) : Int) - n := by omega
        rw [if_pos h2, if_pos a4]; simp
      · have a4 : ¬(-(n : Int) ≤ x ∧ x < ((k + 1 : Nat) : Int) - n) := by omega
        rw [if_neg h2, if_neg a4]; simp
theorem sort_rep {l : List Int} {n : Nat} (h : ∀ x ∈ l, -(n : Int) ≤ x ∧ x ≤ n) : sortL l = repL l n (2 * n + 1) := by
  have p1 : (sortL l).Perm l := List.mergeSort_perm _ _
  have p2 : (repL l n (2 * n + 1)).Perm l := by
    rw [List.perm_iff_count]
    intro a
    rw [repL_count]
    split
    · rfl
    · rename_i c
      refine (List.count_eq_zero_of_not_mem fun hm => c ?_).symm
      have := h a hm; omega
  have s1 : (sortL l).Pairwise (fun a b => a ≤ b) := by
    have := List.pairwise_mergeSort (le := fun x y : Int => decide (x ≤ y)) (by intro a b c; simp; omega) (by intro a b; simp; omega) l
    exact this.imp (by intro a b h; simpa using h)
  exact List.Perm.eq_of_pairwise (le := fun a b : Int => a ≤ b) (fun a b _ _ h1 h2 => Int.le_antisymm h1 h2) s1 (repL_sorted l n _) (p1.trans p2.symm)
theorem cntL_count (l : List Int) (v : Int) : ∀ k, k ≤ l.length → cntL l v k = ((l.take k).count v : Nat)
  | 0, _ => by simp [cntL]
  | k + 1, h => by
    rw [cntL, cntL_count l v k (by omega), take_succ_getD (by omega), List.count_append, List.count_singleton]
    by_cases e : l.getD k 0 = v
    · rw [if_pos e, if_pos (by simpa using e)]; omega
    · rw [if_neg e, if_neg (by simpa using e)]; omega
theorem cntL_all (l : List Int) (v : Int) : cntL l v l.length = (l.count v : Nat) := by rw [cntL_count l v _ (Nat.le_refl _), List.take_length]
theorem fold_rep {v : Int} : ∀ (c : Nat) {acc : List (Int × Int)}, (0 < acc.length → (acc.getD (acc.length - 1) (0, 0)).1 ≠ v) → (List.replicate c v).foldl stepR acc = if c = 0 then acc else acc ++ [(v, (c : Int))]
  | 0, acc, _ => rfl
  | c + 1, acc, h => by
    rw [List.replicate_succ', List.foldl_append, fold_rep c h]
    simp only [List.foldl_cons, List.foldl_nil]
    by_cases e : c = 0
    · subst e
      rw [if_pos rfl, stepR, if_neg (fun q => h q.1 q.2)]; rfl
    · rw [if_neg e, if_neg (by omega), stepR]
      have h1 : (acc ++ [(v, (c : Int))]).length - 1 = acc.length := by simp
      have h2 : (acc ++ [(v, (c : Int))]).getD acc.length (0, 0) = (v, (c : Int)) := by simp [List.getD_eq_getElem?_getD]
      rw [h1, h2, if_pos ⟨by simp, rfl⟩, List.set_append_right _ _ (Nat.le_refl _), Nat.sub_self]
      simp
theorem specK_lt (l : List Int) (n : Nat) : ∀ k, ∀ p ∈ specK l n k, p.1 < (k : Int) - n
  | 0, p, hp => by simp [specK] at hp
  | k + 1, p, hp => by
    rw [specK] at hp
    rcases List.mem_append.1 hp with q | q
    · have := specK_lt l n k p q; omega
    · split at q
      · simp only [List.mem_singleton] at q; rw [q]; simp only; omega
      · simp at q
theorem fold_repL (l : List Int) (n : Nat) : ∀ k, (repL l n k).foldl stepR [] = specK l n k
  | 0 => rfl
  | k + 1 => by
    rw [repL, List.foldl_append, fold_repL l n k, fold_rep _ (fun hl => ?_), specK, cntL_all]
    · by_cases e : l.count ((k : Int) - n) = 0
      · rw [if_pos e, if_neg (by omega), List.append_nil]
      · rw [if_neg e, if_pos (by omega)]
    · have := specK_lt l n k _ (getP_mem (l := specK l n k) (k := (specK l n k).length - 1) (by omega))
      omega
/-- Counting behind sorting. -/
theorem rle_spec {l : List Int} {n : Nat} (h : ∀ x ∈ l, -(n : Int) ≤ x ∧ x ≤ n) : rleL (sortL l) l.length = specK l n (2 * n + 1) := by
  have e : (sortL l).length = l.length := List.length_mergeSort l
  unfold rleL
  rw [← e, List.take_length, sort_rep h, fold_repL]
end Go.Ae

/- The spectrum of two codes, of the program. -/
set_option linter.unusedSimpArgs false
set_option linter.unusedVariables false
namespace Go.Ae
theorem GrwS.at {h0 h : Heap} {v : AV} {l : List (Int × Int)} (A : GrwS h0 h v l) (hl : 0 < l.length) : ∃ i ex, h0.size ≤ i ∧ v = .slice i 0 l.length (.unk 0) ∧ h.get i = some (.cells (smps l ++ ex) true 2) := by
  obtain ⟨_, _, _, ⟨_, h1⟩ | ⟨i, ex, hi, hv, hg⟩⟩ := A
  · omega
  · exact ⟨i, ex, hi, hv, hg⟩
/-- A count that is turned in its place. -/
theorem GrwS.turn {h0 h : Heap} {i : Nat} {l : List (Int × Int)} {ex : List AV} {k : Nat} {x y : Int} (A : GrwS h0 h (.slice i 0 l.length (.unk 0)) l) (hi : h0.size ≤ i) (hg : h.get i = some (.cells (smps l ++ ex) true 2)) (hk : k < l.length) (hx : (l.getD k (0, 0)).1 = x) :
    (smps l ++ ex).set (k * 2 + 1) (.int .i64 y) = smps (l.set k (x, y)) ++ ex ∧ GrwS h0 (h.put i (.cells (smps (l.set k (x, y)) ++ ex) true 2)) (.slice i 0 l.length (.unk 0)) (l.set k (x, y)) := by
  have hlt := Heap.lt_of_get hg
  have hle : (l.set k (x, y)).length = l.length := List.length_set
  refine ⟨?_, ⟨A.sub.put hi _, smps_length, by have := A.2.2.1; omega, .inr ⟨i, ex, hi, by rw [hle], get_put_eq rfl hlt⟩⟩⟩
  rw [List.set_append_left _ _ (by rw [smps_length]; omega)]
  congr 1
  clear A hg hi hlt hle
  induction l generalizing k with
  | nil => simp at hk
  | cons p l ih =>
    cases k with
    | zero =>
      simp only [List.getD_cons_zero] at hx
      rw [smps_cons, List.set_cons_zero, smps_cons, hx]; rfl
    | succ k =>
      rw [List.getD_cons_succ] at hx
      rw [show (k + 1) * 2 + 1 = k * 2 + 1 + 1 + 1 by omega, smps_cons, List.set_cons_succ, List.set_cons_succ, List.set_cons_succ, smps_cons, ih (by simpa using hk) hx]
theorem idxArr_zero {sz len i o : Nat} {k : Nat} (hk : k < len) : idxArrA sz len (.ptr i o) (.int .i64 (k : Nat)) = some (.ptr i (o + k * sz)) := idxArr_ptr ⟨by omega, by omega⟩
theorem CLs.twoF {h : Heap} {v : AV} {d o p q : Int} {vs : List AV} (H : CLs h v d o [p, q] vs) : ∃ w1 w2, RI h w1 (sampL d p o.toNat) ∧ RI h w2 (sampL d q o.toNat) ∧ idxA 2 v (.int .i64 0) = some (elA 2 v 0) ∧ idxA 2 v (.int .i64 1) = some (elA 2 v 1) ∧
    fieldAddrA 0 (elA 2 v 0) = some (elF 2 v 0 0) ∧ fieldAddrA 0 (elA 2 v 1) = some (elF 2 v 1 0) ∧ Ae.loadA h false 1 (elF 2 v 0 0) = some w1 ∧ Ae.loadA h false 1 (elF 2 v 1 0) = some w2 := by
  obtain ⟨w1, w2, rfl⟩ : ∃ w1 w2, vs = [w1, w2] := by
    have := H.len
    match vs, this with
    | [a, b], _ => exact ⟨a, b, rfl⟩
  have lf := H.sl.loadE (k := 0) (off := 0) (by simp) (by decide)
  have lg := H.sl.loadE (k := 1) (off := 0) (by simp) (by decide)
  exact ⟨w1, w2, H.ri 0 (by simp), H.ri 1 (by simp), H.sl.idx (k := 0) (by simp), H.sl.idx (k := 1) (by simp), H.sl.fldE 0 0 (by simp), H.sl.fldE 1 0 (by simp), lf, lg⟩
/-- What a spectrum comes to. -/
def specOut (d p q : Int) : List (Int × Int) := rleL (sortL (circ (sampL d p 1) (sampL d q 1))) (lenN d)
theorem one1_bigs {l : List Int} (h : one1 l) : l.any bigs = false := by
  rw [List.any_eq_false]
  intro x hx
  have := h x hx
  unfold bigs
  simp
  omega
section
variable {C : Ctx}
set_option maxHeartbeats 2000000 in
theorem Spectrum_spec (hC : Has C T164) (hS : SortOk C 178) {d p q : Int} {h : Heap} (hd : In64 d) (hp : In64 p) (hq : In64 q) :
    ACalls C 164 [.int .i64 d, .int .i64 p, .int .i64 q] h (fun r h' => ∃ v, r = lstErr v (sampErr d 1 [p, q]) ∧ HSub h h' ∧ SI h' v (if sampErr d 1 [p, q] = 0 then specOut d p q else [])) := by
  have hsd := fun (h : Heap) (i : Nat) (hg : h.get i = some (.cells [.int .i64 p, .int .i64 q] true 0)) => sampled_spec (hC.sub (T' := T142) (by decide)) (vp := .slice i 0 2 (.known 2)) (ps := [p, q]) (h := h) hd (show In64 1 by unfold In64; omega) (RI.known hg ⟨rfl, by decide⟩ (by decide)) (by simp [hp, hq]) (by simp)
  rcases sampErr_cases d 1 [p, q] with c | c
  · simp only [c] at hsd
    rw [c, if_pos rfl]
    have ok := sampErr_ok c
    have hN := lenN_eq ok.1
    have ln1 := sampL_length d p 1
    have ln2 := sampL_length d q 1
    rw [Nat.mul_one] at ln1 ln2
    have ce : circErr (sampL d p 1) (sampL d q 1) = 0 := by
      unfold circErr
      rw [if_neg (by omega), if_neg (by omega), if_neg (by omega), if_neg (by rw [one1_bigs (sampL_one1 _ _ _), one1_bigs (sampL_one1 _ _ _)]; simp)]
    have cl := circ_length (sampL d p 1) (sampL d q 1)
    rw [ln1] at cl
    obtain ⟨l, hl⟩ : ∃ l, l = circ (sampL d p 1) (sampL d q 1) := ⟨_, rfl⟩
    have lle : l.length = lenN d := by rw [hl, cl]
    have so : specOut d p q = rleL (sortL l) l.length := by unfold specOut; rw [hl.symm, lle]
    rw [so]
    have sll : (sortL l).length = l.length := by unfold sortL; rw [List.length_mergeSort]
    (refine calls_intro (hC.body (by decide) tab164) (Nat.le_of_ble_eq_true rfl) ?_); (show wp C _ none B164.code _ _); (simp only [B164]); simp -implicitDefEqProofs (disch := first | assumption | decide | omega | (simp only [wpD1] <;> omega) | (simp only [wpD2] <;> assumption) | solve_by_elim [HSub.refl, HSub.push, HSub.reserve] | fail) only [↓wpPre, wpPost, wpPoly, Int.reduceToNat, Int.reducePow, Int.reduceMul, Int.reduceAdd, Int.reduceSub, Int.reduceNeg, Nat.reduceAdd, Nat.reduceMul, Nat.reducePow, Int.reduceLT, Int.reduceLE, Int.reduceEq, Nat.reduceEqDiff]
    refine ACallsK.of (hsd _ _ (get_push_eq rfl)) ?_
    rintro r h1 ⟨v, vs, rfl, s1, hcl⟩
    have hsub : HSub h h1 := (HSub.push1 _ _).trans s1
    have x := (hcl trivial).twoF
    obtain ⟨w1, w2, R1, R2, ix0, ix1, fx, fx1, lf, lf1⟩ := x
    rw [show (1 : Int).toNat = 1 from rfl] at R1 R2
    have hcirc := CircP_specF (hC.sub (T' := T25) (by decide)) (h := h1) R1 R2
    rw [ce] at hcirc
    simp -implicitDefEqProofs (disch := first | assumption | decide | omega | (simp only [wpD1] <;> omega) | (simp only [wpD2] <;> assumption) | solve_by_elim [HSub.refl, HSub.push, HSub.reserve] | fail) only [↓wpPre, wpPost, wpPoly, Int.reduceToNat, Int.reducePow, Int.reduceMul, Int.reduceAdd, Int.reduceSub, Int.reduceNeg, Nat.reduceAdd, Nat.reduceMul, Nat.reducePow, Int.reduceLT, Int.reduceLE, Int.reduceEq, Nat.reduceEqDiff, lstErr, ix0, ix1, fx, fx1, lf, lf1]
    refine ACallsK.of hcirc ?_
    rintro r h2 ⟨v2, rfl, s2, _, F0⟩
    have F := F0 rfl
    rw [← hl] at F
    obtain ⟨_, _, i2, hi2, rfl, g2⟩ := F
    have l2 := Heap.lt_of_get g2
    have srt := sortA_spec (c := .known l.length) hS g2 (by rw [hl, cl]; omega)
    simp -implicitDefEqProofs (disch := first | assumption | decide | omega | (simp only [wpD1] <;> omega) | (simp only [wpD2] <;> assumption) | solve_by_elim [HSub.refl, HSub.push, HSub.reserve] | fail) only [↓wpPre, wpPost, wpPoly, Int.reduceToNat, Int.reducePow, Int.reduceMul, Int.reduceAdd, Int.reduceSub, Int.reduceNeg, Nat.reduceAdd, Nat.reduceMul, Nat.reducePow, Int.reduceLT, Int.reduceLE, Int.reduceEq, Nat.reduceEqDiff, lstErr]
    refine ACallsK.eq srt ?_
    have g3 : (h2.put i2 (.cells (ints (sortL l)) true 0)).get i2 = some (.cells (ints (sortL l)) true 0) := get_put_eq rfl l2
    have R3 : RI (h2.put i2 (.cells (ints (sortL l)) true 0)) (.slice i2 0 l.length (.known l.length)) (sortL l) := RI.known g3 ⟨sll.symm, by omega⟩ (Nat.le_refl _)
    have hsub3 : HSub h (h2.put i2 (.cells (ints (sortL l)) true 0)) := (hsub.trans s2).put (by have := hsub.size; omega) _
    simp -implicitDefEqProofs (disch := first | assumption | decide | omega | (simp only [wpD1] <;> omega) | (simp only [wpD2] <;> assumption) | solve_by_elim [HSub.refl, HSub.push, HSub.reserve] | fail) only [↓wpPre, wpPost, wpPoly, Int.reduceToNat, Int.reducePow, Int.reduceMul, Int.reduceAdd, Int.reduceSub, Int.reduceNeg, Nat.reduceAdd, Nat.reduceMul, Nat.reducePow, Int.reduceLT, Int.reduceLE, Int.reduceEq, Nat.reduceEqDiff]
    refine wp_loopI (fun j t h' => ∃ k : Nat, GrwS (h2.put i2 (.cells (ints (sortL l)) true 0)) h' (t 12) (rleL (sortL l) k) ∧ t 41 = .slice i2 0 l.length (.known l.length) ∧ t 42 = .int .i64 (l.length : Nat) ∧ t 43 = .int .i64 (k : Nat) ∧ k ≤ l.length ∧ j = l.length - k) (j0 := l.length)
      ⟨0, GrwS.nil _, rfl, rfl, rfl, by omega, rfl⟩ ?_
    rintro j t h4 ⟨k, A, e41, e42, e43, hk, hj⟩
    simp -implicitDefEqProofs (disch := first | assumption | decide | omega | (simp only [wpD1] <;> omega) | (simp only [wpD2] <;> assumption) | solve_by_elim [HSub.refl, HSub.push, HSub.reserve] | fail) only [↓wpPre, wpPost, wpPoly, Int.reduceToNat, Int.reducePow, Int.reduceMul, Int.reduceAdd, Int.reduceSub, Int.reduceNeg, Nat.reduceAdd, Nat.reduceMul, Nat.reducePow, Int.reduceLT, Int.reduceLE, Int.reduceEq, Nat.reduceEqDiff, e42, e43]
    refine Br.by (fun c1 => ?_) (fun c1 => ?_)
    · have hk' : k < l.length := by omega
      have g4 : h4.get i2 = some (.cells (ints (sortL l)) true 0) := (A.sub.get _ (by simpa using l2)).trans g3
      have ld : (ints (sortL l))[k]? = some (.int .i64 ((sortL l).getD k 0)) := ints_get (by omega)
      have rl := rleL_len (sortL l) k
      have rp := rleL_pos (sortL l) k
      have rs := rleL_succ (l := sortL l) (k := k) (by omega)
      have xy : ∃ y, y = (sortL l).getD k 0 := ⟨_, rfl⟩
      obtain ⟨y, hy⟩ := xy
      rw [← hy] at ld rs
      have A' := A
      unfold stepR at rs
      by_cases c2 : 0 < (rleL (sortL l) k).length
      · have x3 := A.at c2
        obtain ⟨i, ex, hi, hv, hg⟩ := x3
        have xm : ∃ m, (rleL (sortL l) k).length = m + 1 := ⟨(rleL (sortL l) k).length - 1, by omega⟩
        obtain ⟨m, hm⟩ := xm
        rw [hm, Nat.add_sub_cancel] at rs
        rw [hm] at hv
        have P := rp _ (getP_mem (k := m) (by omega))
        have q0 : (smps (rleL (sortL l) k) ++ ex)[m * 2]? = some (.int .i64 ((rleL (sortL l) k).getD m (0, 0)).1) := by
          rw [List.getElem?_append_left (by rw [smps_length]; omega), smps_get0, List.getElem?_eq_getElem (by omega)]; simp [show m < (rleL (sortL l) k).length by omega]
        have q1 : (smps (rleL (sortL l) k) ++ ex)[m * 2 + 1]? = some (.int .i64 ((rleL (sortL l) k).getD m (0, 0)).2) := by
          rw [List.getElem?_append_left (by rw [smps_length]; omega), smps_get1, List.getElem?_eq_getElem (by omega)]; simp [show m < (rleL (sortL l) k).length by omega]
        have hlt := Heap.lt_of_get hg
        have em : ((m + 1 : Nat) : Int) - 1 = (m : Nat) := by omega
        have wl : (smps (rleL (sortL l) k) ++ ex).length = (m + 1) * 2 + ex.length := by rw [List.length_append, smps_length, hm]
        by_cases c3 : ((rleL (sortL l) k).getD m (0, 0)).1 = y
        · rw [if_pos ⟨by omega, c3⟩] at rs
          rw [hv] at A'
          have At := (hm ▸ A').turn (y := ((rleL (sortL l) k).getD m (0, 0)).2 + 1) hi hg (by omega) c3
          simp -implicitDefEqProofs (disch := first | assumption | decide | omega | (simp only [wpD1] <;> omega) | (simp only [wpD2] <;> assumption) | solve_by_elim [HSub.refl, HSub.push, HSub.reserve] | fail) only [↓wpPre, wpPost, wpPoly, Int.reduceToNat, Int.reducePow, Int.reduceMul, Int.reduceAdd, Int.reduceSub, Int.reduceNeg, Nat.reduceAdd, Nat.reduceMul, Nat.reducePow, Int.reduceLT, Int.reduceLE, Int.reduceEq, Nat.reduceEqDiff, e41, e43, g4, ld, hv, hg, q0, q1, c3, em, At.1, e42]
          exact ⟨_, ⟨k + 1, by rw [rs]; have q2 := At.2; rw [hm] at q2; exact q2, by simp, by omega, rfl⟩, by omega⟩
        · rw [if_neg (fun h => c3 h.2)] at rs
          have sl := A.snoc (x := y) (y := 1) (HSub.push1 h4 (.cells [.int .i64 y, .int .i64 1] true 0)) (by omega)
          rw [← rs] at sl
          have ap := A.app (x := y) (y := 1)
          rw [← rs, hm] at ap
          rw [hm] at sl
          have ne : ¬ ((rleL (sortL l) k).getD m (0, 0)).1 = y := c3
          rw [hv] at ap sl
          simp -implicitDefEqProofs (disch := first | assumption | decide | omega | (simp only [wpD1] <;> omega) | (simp only [wpD2] <;> assumption) | solve_by_elim [HSub.refl, HSub.push, HSub.reserve] | fail) only [↓wpPre, wpPost, wpPoly, Int.reduceToNat, Int.reducePow, Int.reduceMul, Int.reduceAdd, Int.reduceSub, Int.reduceNeg, Nat.reduceAdd, Nat.reduceMul, Nat.reducePow, Int.reduceLT, Int.reduceLE, Int.reduceEq, Nat.reduceEqDiff, e41, e43, g4, ld, hv, hg, q0, q1, em, cont_slice, contB_two, ap, e42]
          exact ⟨_, ⟨k + 1, sl, by simp, by omega, rfl⟩, by omega⟩
      · have z0 : (rleL (sortL l) k).length = 0 := by omega
        rw [if_neg (fun h => c2 h.1)] at rs
        have ap := A.app (x := y) (y := 1)
        have sl := A.snoc (x := y) (y := 1) (HSub.push1 h4 (.cells [.int .i64 y, .int .i64 1] true 0)) (by omega)
        rw [← rs] at sl ap
        have lv := A.si.len
        rw [z0] at lv
        simp -implicitDefEqProofs (disch := first | assumption | decide | omega | (simp only [wpD1] <;> omega) | (simp only [wpD2] <;> assumption) | solve_by_elim [HSub.refl, HSub.push, HSub.reserve] | fail) only [↓wpPre, wpPost, wpPoly, Int.reduceToNat, Int.reducePow, Int.reduceMul, Int.reduceAdd, Int.reduceSub, Int.reduceNeg, Nat.reduceAdd, Nat.reduceMul, Nat.reducePow, Int.reduceLT, Int.reduceLE, Int.reduceEq, Nat.reduceEqDiff, e41, e43, g4, ld, lv, cont_slice, contB_two, ap, e42]
        exact ⟨_, ⟨k + 1, sl, by simp, by omega, rfl⟩, by omega⟩
    · have ek : k = l.length := by omega
      subst ek
      simp -implicitDefEqProofs (disch := first | assumption | decide | omega | (simp only [wpD1] <;> omega) | (simp only [wpD2] <;> assumption) | solve_by_elim [HSub.refl, HSub.push, HSub.reserve] | fail) only [↓wpPre, wpPost, wpPoly, Int.reduceToNat, Int.reducePow, Int.reduceMul, Int.reduceAdd, Int.reduceSub, Int.reduceNeg, Nat.reduceAdd, Nat.reduceMul, Nat.reducePow, Int.reduceLT, Int.reduceLE, Int.reduceEq, Nat.reduceEqDiff]
      exact ⟨_, rfl, hsub3.trans A.sub, A.si⟩
  · simp only [c] at hsd
    rw [c, if_neg (by decide)]
    (refine calls_intro (hC.body (by decide) tab164) (Nat.le_of_ble_eq_true rfl) ?_); (show wp C _ none B164.code _ _); (simp only [B164]); simp -implicitDefEqProofs (disch := first | assumption | decide | omega | (simp only [wpD1] <;> omega) | (simp only [wpD2] <;> assumption) | solve_by_elim [HSub.refl, HSub.push, HSub.reserve] | fail) only [↓wpPre, wpPost, wpPoly, Int.reduceToNat, Int.reducePow, Int.reduceMul, Int.reduceAdd, Int.reduceSub, Int.reduceNeg, Nat.reduceAdd, Nat.reduceMul, Nat.reducePow, Int.reduceLT, Int.reduceLE, Int.reduceEq, Nat.reduceEqDiff]
    refine ACallsK.of (hsd _ _ (get_push_eq rfl)) ?_
    rintro r h1 ⟨v, vs, rfl, s1, hcl⟩
    have hsub : HSub h h1 := (HSub.push1 _ _).trans s1
    simp -implicitDefEqProofs (disch := first | assumption | decide | omega | (simp only [wpD1] <;> omega) | (simp only [wpD2] <;> assumption) | solve_by_elim [HSub.refl, HSub.push, HSub.reserve] | fail) only [↓wpPre, wpPost, wpPoly, Int.reduceToNat, Int.reducePow, Int.reduceMul, Int.reduceAdd, Int.reduceSub, Int.reduceNeg, Nat.reduceAdd, Nat.reduceMul, Nat.reducePow, Int.reduceLT, Int.reduceLE, Int.reduceEq, Nat.reduceEqDiff, lstErr]
    exact ⟨_, rfl, hsub, SI.nil⟩
end
end Go.Ae

/- The spectrum of two codes, of the reference. -/
set_option linter.unusedSimpArgs false
set_option linter.unusedVariables false
namespace Go.Ae
theorem sampL_one (d p : Int) : sampL d p 1 = codeL d p := by
  unfold sampL
  induction codeL d p with
  | nil => rfl
  | cons x l ih => rw [List.map_cons, List.flatten_cons, ih]; rfl
theorem cs_one1 {a b : List Int} (oa : one1 a) (ob : one1 b) (k : Nat) : ∀ i : Nat, -(i : Int) ≤ cs a b k i ∧ cs a b k i ≤ i
  | 0 => by simp [cs]
  | i + 1 => by
    have ih := cs_one1 oa ob k i
    have := mul_one1 (oa.get i) (ob.get ((i + k) % b.length))
    rw [cs]; omega
theorem circ_in {a b : List Int} (oa : one1 a) (ob : one1 b) : ∀ x ∈ circ a b, -(a.length : Int) ≤ x ∧ x ≤ a.length := by
  intro x hx
  obtain ⟨k, _, rfl⟩ := List.mem_map.1 hx
  exact cs_one1 oa ob k _
theorem specOut_eq (d p q : Int) : specOut d p q = specK (circ (codeL d p) (codeL d q)) (lenN d) (2 * lenN d + 1) := by
  unfold specOut
  rw [sampL_one, sampL_one]
  have oa : one1 (codeL d p) := codeL_range
  have ob : one1 (codeL d q) := codeL_range
  have := rle_spec (l := circ (codeL d p) (codeL d q)) (n := lenN d) (by have := circ_in oa ob; rwa [codeL_length] at this)
  rw [circ_length, codeL_length] at this
  exact this
theorem codeErr_cases (d p : Int) : codeErr d p = 0 ∨ codeErr d p = 2 := by unfold codeErr; split <;> simp
theorem sampErr_code (d p q : Int) : sampErr d 1 [p, q] = if codeErr d p = 0 ∧ codeErr d q = 0 then 0 else 2 := by
  have key : codeErr d p = 0 → knownErr d 1 = 0 := by
    intro h
    unfold codeErr at h
    split at h
    · rename_i c; unfold knownErr; rw [if_pos ⟨c.1, by omega, by omega⟩]
    · cases h
  unfold sampErr
  by_cases c1 : codeErr d p = 0
  · simp [key c1, c1]
  · simp [c1]
section
variable {C : Ctx}
set_option maxHeartbeats 1000000 in
theorem SpectrumR_spec (hC : Has C T165) {d p q : Int} {h : Heap} (hd : In64 d) (hp : In64 p) (hq : In64 q) :
    ACalls C 165 [.int .i64 d, .int .i64 p, .int .i64 q] h (fun r h' => ∃ v, r = lstErr v (sampErr d 1 [p, q]) ∧ HSub h h' ∧ SI h' v (if sampErr d 1 [p, q] = 0 then specOut d p q else [])) := by
  rw [sampErr_code, specOut_eq]
  have k1 := fun h => Code08_spec (hC.sub (T' := T77) (by decide)) (h := h) hd hp
  have k2 := fun h => Code08_spec (hC.sub (T' := T77) (by decide)) (h := h) hd hq
  rcases codeErr_cases d p with c1 | c1
  · simp only [c1, if_true] at k1
    rcases codeErr_cases d q with c2 | c2
    · simp only [c2, if_true] at k2
      rw [if_pos ⟨c1, c2⟩, if_pos rfl]
      have dok : lenOk d = true := by unfold codeErr at c1; split at c1 <;> first | (rename_i c; exact c.1) | cases c1
      have hN := lenN_eq dok
      have oa : one1 (codeL d p) := codeL_range
      have ob : one1 (codeL d q) := codeL_range
      have l1 := codeL_length d p
      have l2 := codeL_length d q
      have cl := circ_length (codeL d p) (codeL d q)
      rw [l1] at cl
      obtain ⟨l, hl⟩ : ∃ l, l = circ (codeL d p) (codeL d q) := ⟨_, rfl⟩
      rw [← hl] at cl ⊢
      have sa := small_of (one1_bigs oa)
      have sb := small_of (one1_bigs ob)
      (refine calls_intro (hC.body (by decide) tab165) (Nat.le_of_ble_eq_true rfl) ?_); (show wp C _ none B165.code _ _); (simp only [B165]); simp -implicitDefEqProofs (disch := first | assumption | decide | omega | (simp only [wpD1] <;> omega) | (simp only [wpD2] <;> assumption) | solve_by_elim [HSub.refl, HSub.push, HSub.reserve] | fail) only [↓wpPre, wpPost, wpPoly, Int.reduceToNat, Int.reducePow, Int.reduceMul, Int.reduceAdd, Int.reduceSub, Int.reduceNeg, Nat.reduceAdd, Nat.reduceMul, Nat.reducePow, Int.reduceLT, Int.reduceLE, Int.reduceEq, Nat.reduceEqDiff]
      refine ACallsK.of (k1 _) ?_
      rintro r h1 ⟨v1, rfl, s1, R1⟩
      simp -implicitDefEqProofs (disch := first | assumption | decide | omega | (simp only [wpD1] <;> omega) | (simp only [wpD2] <;> assumption) | solve_by_elim [HSub.refl, HSub.push, HSub.reserve] | fail) only [↓wpPre, wpPost, wpPoly, Int.reduceToNat, Int.reducePow, Int.reduceMul, Int.reduceAdd, Int.reduceSub, Int.reduceNeg, Nat.reduceAdd, Nat.reduceMul, Nat.reducePow, Int.reduceLT, Int.reduceLE, Int.reduceEq, Nat.reduceEqDiff, lstErr]
      refine ACallsK.of (k2 _) ?_
      rintro r h2 ⟨v2, rfl, s2, R2⟩
      have R1 := R1.mono s2
      simp -implicitDefEqProofs (disch := first | assumption | decide | omega | (simp only [wpD1] <;> omega) | (simp only [wpD2] <;> assumption) | solve_by_elim [HSub.refl, HSub.push, HSub.reserve] | fail) only [↓wpPre, wpPost, wpPoly, Int.reduceToNat, Int.reducePow, Int.reduceMul, Int.reduceAdd, Int.reduceSub, Int.reduceNeg, Nat.reduceAdd, Nat.reduceMul, Nat.reducePow, Int.reduceLT, Int.reduceLE, Int.reduceEq, Nat.reduceEqDiff, lstErr]
      refine ACallsK.of (circular_spec (hC.sub (T' := T55) (by decide)) R1 R2 (by omega) sa sb) ?_
      rintro r h3 F
      have R3 := F.ri
      rw [← hl] at R3
      have s3 := F.sub
      have R1 := R1.mono s3
      simp -implicitDefEqProofs (disch := first | assumption | decide | omega | (simp only [wpD1] <;> omega) | (simp only [wpD2] <;> assumption) | solve_by_elim [HSub.refl, HSub.push, HSub.reserve] | fail) only [↓wpPre, wpPost, wpPoly, Int.reduceToNat, Int.reducePow, Int.reduceMul, Int.reduceAdd, Int.reduceSub, Int.reduceNeg, Nat.reduceAdd, Nat.reduceMul, Nat.reducePow, Int.reduceLT, Int.reduceLE, Int.reduceEq, Nat.reduceEqDiff, R1.len, l1]
      refine wp_loopI (fun j t h' => ∃ k : Nat, GrwS h3 h' (t 12) (specK l (lenN d) k) ∧ t 8 = v1 ∧ t 11 = r ∧ t 13 = .int .i64 ((k : Int) - lenN d) ∧ k ≤ 2 * lenN d + 1 ∧ j = 2 * lenN d + 1 - k) (j0 := 2 * lenN d + 1)
        ⟨0, GrwS.nil _, rfl, rfl, by congr 1, by omega, rfl⟩ ?_
      rintro j t h4 ⟨k, A, e8, e11, e13, hk, hj⟩
      have R4 := R3.mono A.sub
      have R5 := R1.mono A.sub
      simp -implicitDefEqProofs (disch := first | assumption | decide | omega | (simp only [wpD1] <;> omega) | (simp only [wpD2] <;> assumption) | solve_by_elim [HSub.refl, HSub.push, HSub.reserve] | fail) only [↓wpPre, wpPost, wpPoly, Int.reduceToNat, Int.reducePow, Int.reduceMul, Int.reduceAdd, Int.reduceSub, Int.reduceNeg, Nat.reduceAdd, Nat.reduceMul, Nat.reducePow, Int.reduceLT, Int.reduceLE, Int.reduceEq, Nat.reduceEqDiff, e8, e13, R5.len, l1]
      refine Br.by (fun c3 => ?_) (fun c3 => ?_)
      · have hk' : k < 2 * lenN d + 1 := by omega
        simp -implicitDefEqProofs (disch := first | assumption | decide | omega | (simp only [wpD1] <;> omega) | (simp only [wpD2] <;> assumption) | solve_by_elim [HSub.refl, HSub.push, HSub.reserve] | fail) only [↓wpPre, wpPost, wpPoly, Int.reduceToNat, Int.reducePow, Int.reduceMul, Int.reduceAdd, Int.reduceSub, Int.reduceNeg, Nat.reduceAdd, Nat.reduceMul, Nat.reducePow, Int.reduceLT, Int.reduceLE, Int.reduceEq, Nat.reduceEqDiff]
        refine wp_loopI (fun j t' h' => h' = h4 ∧ ∃ i : Nat, t' 12 = t 12 ∧ t' 8 = v1 ∧ t' 11 = r ∧ t' 13 = .int .i64 ((k : Int) - lenN d) ∧ t' 14 = .int .i64 (cntL l ((k : Int) - lenN d) i) ∧ t' 15 = .int .i64 (i : Nat) ∧ i ≤ l.length ∧ j = l.length - i) (j0 := l.length)
          ⟨rfl, 0, rfl, e8, e11, e13, rfl, rfl, by omega, rfl⟩ ?_
        rintro j t' h5 ⟨rfl, i, e12', e8', e11', e13', e14', e15', hi, hj'⟩
        simp -implicitDefEqProofs (disch := first | assumption | decide | omega | (simp only [wpD1] <;> omega) | (simp only [wpD2] <;> assumption) | solve_by_elim [HSub.refl, HSub.push, HSub.reserve] | fail) only [↓wpPre, wpPost, wpPoly, Int.reduceToNat, Int.reducePow, Int.reduceMul, Int.reduceAdd, Int.reduceSub, Int.reduceNeg, Nat.reduceAdd, Nat.reduceMul, Nat.reducePow, Int.reduceLT, Int.reduceLE, Int.reduceEq, Nat.reduceEqDiff, e11', e15', R4.len]
        refine Br.by (fun c4 => ?_) (fun c4 => ?_)
        · have hi' : i < l.length := by omega
          have ld := R4.load hi'
          have cr := cntL_range l ((k : Int) - lenN d) i
          have cn : cntL l ((k : Int) - lenN d) (i + 1) = cntL l ((k : Int) - lenN d) i + if l.getD i 0 = (k : Int) - lenN d then 1 else 0 := rfl
          simp -implicitDefEqProofs (disch := first | assumption | decide | omega | (simp only [wpD1] <;> omega) | (simp only [wpD2] <;> assumption) | solve_by_elim [HSub.refl, HSub.push, HSub.reserve] | fail) only [↓wpPre, wpPost, wpPoly, Int.reduceToNat, Int.reducePow, Int.reduceMul, Int.reduceAdd, Int.reduceSub, Int.reduceNeg, Nat.reduceAdd, Nat.reduceMul, Nat.reducePow, Int.reduceLT, Int.reduceLE, Int.reduceEq, Nat.reduceEqDiff, e11', e13', e15', R4.idx, ld]
          refine Br.by (fun c5 => ?_) (fun c5 => ?_)
          · rw [if_pos c5] at cn
            simp -implicitDefEqProofs (disch := first | assumption | decide | omega | (simp only [wpD1] <;> omega) | (simp only [wpD2] <;> assumption) | solve_by_elim [HSub.refl, HSub.push, HSub.reserve] | fail) only [↓wpPre, wpPost, wpPoly, Int.reduceToNat, Int.reducePow, Int.reduceMul, Int.reduceAdd, Int.reduceSub, Int.reduceNeg, Nat.reduceAdd, Nat.reduceMul, Nat.reducePow, Int.reduceLT, Int.reduceLE, Int.reduceEq, Nat.reduceEqDiff, e14', e15', e12', e8', e11', e13', ← cn]
            exact ⟨_, ⟨i + 1, rfl, by simp, by omega, rfl⟩, by omega⟩
          · rw [if_neg c5, Int.add_zero] at cn
            simp -implicitDefEqProofs (disch := first | assumption | decide | omega | (simp only [wpD1] <;> omega) | (simp only [wpD2] <;> assumption) | solve_by_elim [HSub.refl, HSub.push, HSub.reserve] | fail) only [↓wpPre, wpPost, wpPoly, Int.reduceToNat, Int.reducePow, Int.reduceMul, Int.reduceAdd, Int.reduceSub, Int.reduceNeg, Nat.reduceAdd, Nat.reduceMul, Nat.reducePow, Int.reduceLT, Int.reduceLE, Int.reduceEq, Nat.reduceEqDiff, e14', e15', e12', e8', e11', e13']
            exact ⟨_, ⟨i + 1, by rw [cn], by simp, by omega, rfl⟩, by omega⟩
        · have ei : i = l.length := by omega
          subst ei
          have sn : specK l (lenN d) (k + 1) = specK l (lenN d) k ++ if 0 < cntL l ((k : Int) - lenN d) l.length then [((k : Int) - lenN d, cntL l ((k : Int) - lenN d) l.length)] else [] := rfl
          have sl := specK_len l (lenN d) k
          simp -implicitDefEqProofs (disch := first | assumption | decide | omega | (simp only [wpD1] <;> omega) | (simp only [wpD2] <;> assumption) | solve_by_elim [HSub.refl, HSub.push, HSub.reserve] | fail) only [↓wpPre, wpPost, wpPoly, Int.reduceToNat, Int.reducePow, Int.reduceMul, Int.reduceAdd, Int.reduceSub, Int.reduceNeg, Nat.reduceAdd, Nat.reduceMul, Nat.reducePow, Int.reduceLT, Int.reduceLE, Int.reduceEq, Nat.reduceEqDiff, e14']
          refine Br.by (fun c6 => ?_) (fun c6 => ?_)
          · rw [if_pos c6] at sn
            have ap := A.app (x := (k : Int) - lenN d) (y := cntL l ((k : Int) - lenN d) l.length)
            have A2 := A.snoc (x := (k : Int) - lenN d) (y := cntL l ((k : Int) - lenN d) l.length) (HSub.push1 h5 (.cells [.int .i64 ((k : Int) - lenN d), .int .i64 (cntL l ((k : Int) - lenN d) l.length)] true 0)) (by omega)
            rw [← sn] at ap A2
            simp -implicitDefEqProofs (disch := first | assumption | decide | omega | (simp only [wpD1] <;> omega) | (simp only [wpD2] <;> assumption) | solve_by_elim [HSub.refl, HSub.push, HSub.reserve] | fail) only [↓wpPre, wpPost, wpPoly, Int.reduceToNat, Int.reducePow, Int.reduceMul, Int.reduceAdd, Int.reduceSub, Int.reduceNeg, Nat.reduceAdd, Nat.reduceMul, Nat.reducePow, Int.reduceLT, Int.reduceLE, Int.reduceEq, Nat.reduceEqDiff, e12', e13', e14', e8', e11', cont_slice, contB_two, ap]
            exact ⟨_, ⟨k + 1, A2, by rw [show ((k + 1 : Nat) : Int) - lenN d = (k : Int) - lenN d + 1 by omega], by omega, rfl⟩, by omega⟩
          · rw [if_neg c6, List.append_nil] at sn
            simp -implicitDefEqProofs (disch := first | assumption | decide | omega | (simp only [wpD1] <;> omega) | (simp only [wpD2] <;> assumption) | solve_by_elim [HSub.refl, HSub.push, HSub.reserve] | fail) only [↓wpPre, wpPost, wpPoly, Int.reduceToNat, Int.reducePow, Int.reduceMul, Int.reduceAdd, Int.reduceSub, Int.reduceNeg, Nat.reduceAdd, Nat.reduceMul, Nat.reducePow, Int.reduceLT, Int.reduceLE, Int.reduceEq, Nat.reduceEqDiff, e12', e13', e8', e11']
            exact ⟨_, ⟨k + 1, by rw [sn]; exact A, by rw [show ((k + 1 : Nat) : Int) - lenN d = (k : Int) - lenN d + 1 by omega], by omega, rfl⟩, by omega⟩
      · have ek : k = 2 * lenN d + 1 := by omega
        subst ek
        simp -implicitDefEqProofs (disch := first | assumption | decide | omega | (simp only [wpD1] <;> omega) | (simp only [wpD2] <;> assumption) | solve_by_elim [HSub.refl, HSub.push, HSub.reserve] | fail) only [↓wpPre, wpPost, wpPoly, Int.reduceToNat, Int.reducePow, Int.reduceMul, Int.reduceAdd, Int.reduceSub, Int.reduceNeg, Nat.reduceAdd, Nat.reduceMul, Nat.reducePow, Int.reduceLT, Int.reduceLE, Int.reduceEq, Nat.reduceEqDiff]
        exact ⟨_, rfl, ((s1.trans s2).trans s3).trans A.sub, A.si⟩
    · simp only [c2] at k2
      rw [if_neg (by omega), if_neg (by decide)]
      (refine calls_intro (hC.body (by decide) tab165) (Nat.le_of_ble_eq_true rfl) ?_); (show wp C _ none B165.code _ _); (simp only [B165]); simp -implicitDefEqProofs (disch := first | assumption | decide | omega | (simp only [wpD1] <;> omega) | (simp only [wpD2] <;> assumption) | solve_by_elim [HSub.refl, HSub.push, HSub.reserve] | fail) only [↓wpPre, wpPost, wpPoly, Int.reduceToNat, Int.reducePow, Int.reduceMul, Int.reduceAdd, Int.reduceSub, Int.reduceNeg, Nat.reduceAdd, Nat.reduceMul, Nat.reducePow, Int.reduceLT, Int.reduceLE, Int.reduceEq, Nat.reduceEqDiff]
      refine ACallsK.of (k1 _) ?_
      rintro r h1 ⟨v1, rfl, s1, R1⟩
      simp -implicitDefEqProofs (disch := first | assumption | decide | omega | (simp only [wpD1] <;> omega) | (simp only [wpD2] <;> assumption) | solve_by_elim [HSub.refl, HSub.push, HSub.reserve] | fail) only [↓wpPre, wpPost, wpPoly, Int.reduceToNat, Int.reducePow, Int.reduceMul, Int.reduceAdd, Int.reduceSub, Int.reduceNeg, Nat.reduceAdd, Nat.reduceMul, Nat.reducePow, Int.reduceLT, Int.reduceLE, Int.reduceEq, Nat.reduceEqDiff, lstErr]
      refine ACallsK.of (k2 _) ?_
      rintro r h2 ⟨v2, rfl, s2, R2⟩
      simp -implicitDefEqProofs (disch := first | assumption | decide | omega | (simp only [wpD1] <;> omega) | (simp only [wpD2] <;> assumption) | solve_by_elim [HSub.refl, HSub.push, HSub.reserve] | fail) only [↓wpPre, wpPost, wpPoly, Int.reduceToNat, Int.reducePow, Int.reduceMul, Int.reduceAdd, Int.reduceSub, Int.reduceNeg, Nat.reduceAdd, Nat.reduceMul, Nat.reducePow, Int.reduceLT, Int.reduceLE, Int.reduceEq, Nat.reduceEqDiff, lstErr]
      exact ⟨_, rfl, s1.trans s2, SI.nil⟩
  · simp only [c1] at k1
    rw [if_neg (by omega), if_neg (by decide)]
    (refine calls_intro (hC.body (by decide) tab165) (Nat.le_of_ble_eq_true rfl) ?_); (show wp C _ none B165.code _ _); (simp only [B165]); simp -implicitDefEqProofs (disch := first | assumption | decide | omega | (simp only [wpD1] <;> omega) | (simp only [wpD2] <;> assumption) | solve_by_elim [HSub.refl, HSub.push, HSub.reserve] | fail) only [↓wpPre, wpPost, wpPoly, Int.reduceToNat, Int.reducePow, Int.reduceMul, Int.reduceAdd, Int.reduceSub, Int.reduceNeg, Nat.reduceAdd, Nat.reduceMul, Nat.reducePow, Int.reduceLT, Int.reduceLE, Int.reduceEq, Nat.reduceEqDiff]
    refine ACallsK.of (k1 _) ?_
    rintro r h1 ⟨v1, rfl, s1, R1⟩
    simp -implicitDefEqProofs (disch := first | assumption | decide | omega | (simp only [wpD1] <;> omega) | (simp only [wpD2] <;> assumption) | solve_by_elim [HSub.refl, HSub.push, HSub.reserve] | fail) only [↓wpPre, wpPost, wpPoly, Int.reduceToNat, Int.reducePow, Int.reduceMul, Int.reduceAdd, Int.reduceSub, Int.reduceNeg, Nat.reduceAdd, Nat.reduceMul, Nat.reducePow, Int.reduceLT, Int.reduceLE, Int.reduceEq, Nat.reduceEqDiff, lstErr]
    exact ⟨_, rfl, s1, SI.nil⟩
end
end Go.Ae

/- Lists of lists of numbers, read and compared; pairs as lists. -/
set_option linter.unusedSimpArgs false
set_option linter.unusedVariables false
namespace Go.Ae
/-- A list of lists of numbers that can be read. -/
def LLI (h : Heap) (v : AV) (ll : List (List Int)) : Prop := ∃ vs : List AV, SL h 1 v ll.length vs ∧ vs.length = ll.length ∧ ∀ i, i < ll.length → RI h (vs.getD i .nilslice) (ll.getD i [])
theorem LLI.mono {h h' : Heap} {v : AV} {ll : List (List Int)} (H : LLI h v ll) (hs : HSub h h') : LLI h' v ll := by
  obtain ⟨vs, a, b, c⟩ := H
  exact ⟨vs, a.mono hs, b, fun i hi => (c i hi).mono hs⟩
theorem LLI.len {h : Heap} {v : AV} {ll : List (List Int)} (H : LLI h v ll) : lenA v = some (.int .i64 ll.length) := by obtain ⟨vs, a, _, _⟩ := H; exact a.len
theorem LLI.nil {h : Heap} : LLI h .nilslice [] := ⟨[], ⟨rfl, by decide, .inl ⟨rfl, rfl⟩⟩, rfl, fun i hi => by simp at hi⟩
theorem LLI.at {h : Heap} {v : AV} {ll : List (List Int)} (H : LLI h v ll) {i : Nat} (hi : i < ll.length) : ∃ w, idxA 1 v (.int .i64 (i : Nat)) = some (elA 1 v i) ∧ loadA h false 1 (elA 1 v i) = some w ∧ RI h w (ll.getD i []) := by
  obtain ⟨vs, a, b, c⟩ := H
  refine ⟨vs.getD i .nilslice, a.idx ⟨by omega, by omega⟩, ?_, c i hi⟩
  rw [SL.load1 a hi]
  simp [show i < vs.length by omega]
section
variable {C : Ctx}
theorem lists_spec (hC : Has C T166) {va vb : AV} {A B : List (List Int)} {h : Heap} (ha : LLI h va A) (hb : LLI h vb B) : ACalls C 166 [va, vb] h (fun r h' => r = .bool (decide (A = B)) ∧ h' = h) := by
  have l1 : A.length < 9223372036854775808 := by obtain ⟨_, a, _⟩ := ha; exact a.lt
  have l2 : B.length < 9223372036854775808 := by obtain ⟨_, a, _⟩ := hb; exact a.lt
  (refine calls_intro (hC.body (by decide) tab166) (Nat.le_of_ble_eq_true rfl) ?_); (show wp C _ none B166.code _ _); (simp only [B166]); simp -implicitDefEqProofs (disch := first | assumption | decide | omega | (simp only [wpD1] <;> omega) | (simp only [wpD2] <;> assumption) | solve_by_elim [HSub.refl, HSub.push, HSub.reserve] | fail) only [↓wpPre, wpPost, wpPoly, Int.reduceToNat, Int.reducePow, Int.reduceMul, Int.reduceAdd, Int.reduceSub, Int.reduceNeg, Nat.reduceAdd, Nat.reduceMul, Nat.reducePow, Int.reduceLT, Int.reduceLE, Int.reduceEq, Nat.reduceEqDiff, ha.len, hb.len]
  refine Br.by (fun c => ?_) (fun c => ?_)
  · simp -implicitDefEqProofs (disch := first | assumption | decide | omega | (simp only [wpD1] <;> omega) | (simp only [wpD2] <;> assumption) | solve_by_elim [HSub.refl, HSub.push, HSub.reserve] | fail) only [↓wpPre, wpPost, wpPoly, Int.reduceToNat, Int.reducePow, Int.reduceMul, Int.reduceAdd, Int.reduceSub, Int.reduceNeg, Nat.reduceAdd, Nat.reduceMul, Nat.reducePow, Int.reduceLT, Int.reduceLE, Int.reduceEq, Nat.reduceEqDiff]
    have : A ≠ B := fun e => by subst e; omega
    simp [this]
  · simp -implicitDefEqProofs (disch := first | assumption | decide | omega | (simp only [wpD1] <;> omega) | (simp only [wpD2] <;> assumption) | solve_by_elim [HSub.refl, HSub.push, HSub.reserve] | fail) only [↓wpPre, wpPost, wpPoly, Int.reduceToNat, Int.reducePow, Int.reduceMul, Int.reduceAdd, Int.reduceSub, Int.reduceNeg, Nat.reduceAdd, Nat.reduceMul, Nat.reducePow, Int.reduceLT, Int.reduceLE, Int.reduceEq, Nat.reduceEqDiff]
    refine wp_loopI (fun j t h' => h' = h ∧ t 0 = va ∧ t 1 = vb ∧ ∃ i : Nat, t 5 = .int .i64 (i : Nat) ∧ i ≤ A.length ∧ A.take i = B.take i ∧ j = A.length - i) ⟨rfl, rfl, rfl, 0, rfl, by omega, by simp, rfl⟩ ?_
    rintro j t h' ⟨rfl, e0, e1, i, e5, hi, hp, hj⟩
    simp -implicitDefEqProofs (disch := first | assumption | decide | omega | (simp only [wpD1] <;> omega) | (simp only [wpD2] <;> assumption) | solve_by_elim [HSub.refl, HSub.push, HSub.reserve] | fail) only [↓wpPre, wpPost, wpPoly, Int.reduceToNat, Int.reducePow, Int.reduceMul, Int.reduceAdd, Int.reduceSub, Int.reduceNeg, Nat.reduceAdd, Nat.reduceMul, Nat.reducePow, Int.reduceLT, Int.reduceLE, Int.reduceEq, Nat.reduceEqDiff, e0, e1, e5, ha.len]
    refine Br.by (fun c1 => ?_) (fun c1 => ?_)
    · have i1 : i < A.length := by omega
      have i2 : i < B.length := by omega
      have x1 := ha.at i1
      obtain ⟨w1, ix1, ld1, R1⟩ := x1
      have x2 := hb.at i2
      obtain ⟨w2, ix2, ld2, R2⟩ := x2
      simp -implicitDefEqProofs (disch := first | assumption | decide | omega | (simp only [wpD1] <;> omega) | (simp only [wpD2] <;> assumption) | solve_by_elim [HSub.refl, HSub.push, HSub.reserve] | fail) only [↓wpPre, wpPost, wpPoly, Int.reduceToNat, Int.reducePow, Int.reduceMul, Int.reduceAdd, Int.reduceSub, Int.reduceNeg, Nat.reduceAdd, Nat.reduceMul, Nat.reducePow, Int.reduceLT, Int.reduceLE, Int.reduceEq, Nat.reduceEqDiff, e0, e1, e5, ix1, ix2, ld1, ld2]
      refine ACallsK.eq (Equal_spec (hC.sub (T' := T12) (by decide)) R1 R2) ?_
      by_cases c2 : A.getD i [] = B.getD i []
      · rw [decide_eq_true c2]
        simp -implicitDefEqProofs (disch := first | assumption | decide | omega | (simp only [wpD1] <;> omega) | (simp only [wpD2] <;> assumption) | solve_by_elim [HSub.refl, HSub.push, HSub.reserve] | fail) only [↓wpPre, wpPost, wpPoly, Int.reduceToNat, Int.reducePow, Int.reduceMul, Int.reduceAdd, Int.reduceSub, Int.reduceNeg, Nat.reduceAdd, Nat.reduceMul, Nat.reducePow, Int.reduceLT, Int.reduceLE, Int.reduceEq, Nat.reduceEqDiff, e0, e1, e5]
        refine ⟨_, ⟨i + 1, by simp, by omega, ?_, rfl⟩, by omega⟩
        rw [List.take_succ_eq_append_getElem i1, List.take_succ_eq_append_getElem i2, hp]
        simp only [List.getD_eq_getElem?_getD, List.getElem?_eq_getElem i1, List.getElem?_eq_getElem i2, Option.getD_some] at c2
        rw [c2]
      · rw [decide_eq_false c2]
        simp -implicitDefEqProofs (disch := first | assumption | decide | omega | (simp only [wpD1] <;> omega) | (simp only [wpD2] <;> assumption) | solve_by_elim [HSub.refl, HSub.push, HSub.reserve] | fail) only [↓wpPre, wpPost, wpPoly, Int.reduceToNat, Int.reducePow, Int.reduceMul, Int.reduceAdd, Int.reduceSub, Int.reduceNeg, Nat.reduceAdd, Nat.reduceMul, Nat.reducePow, Int.reduceLT, Int.reduceLE, Int.reduceEq, Nat.reduceEqDiff]
        have : A ≠ B := fun e => c2 (by rw [e])
        simp [this]
    · simp -implicitDefEqProofs (disch := first | assumption | decide | omega | (simp only [wpD1] <;> omega) | (simp only [wpD2] <;> assumption) | solve_by_elim [HSub.refl, HSub.push, HSub.reserve] | fail) only [↓wpPre, wpPost, wpPoly, Int.reduceToNat, Int.reducePow, Int.reduceMul, Int.reduceAdd, Int.reduceSub, Int.reduceNeg, Nat.reduceAdd, Nat.reduceMul, Nat.reducePow, Int.reduceLT, Int.reduceLE, Int.reduceEq, Nat.reduceEqDiff]
      have e1 : i = A.length := by omega
      subst e1
      rw [List.take_of_length_le (by omega), List.take_of_length_le (by omega)] at hp
      simp [hp]
/-- Pairs as lists. -/
def pairL (l : List (Int × Int)) : List (List Int) := l.map fun p => [p.1, p.2]
/-- A row of two numbers of one's own. -/
def Two (h0 h : Heap) (v w : AV) (p : Int × Int) : Prop := ∃ j, h0.size ≤ j ∧ w = .slice j 0 2 (.known 2) ∧ h.get j = some (.cells [.int .i64 p.1, .int .i64 p.2] true 0) ∧ j ∉ v.ids
set_option maxHeartbeats 1000000 in
theorem pairs_spec (hC : Has C T167) {v : AV} {l : List (Int × Int)} {h : Heap} (hl : SI h v l) (hll : l.length ≤ 1000000) : ACalls C 167 [v] h (fun r h' => HSub h h' ∧ LLI h' r (pairL l)) := by
  have hlt := hl.lt
  (refine calls_intro (hC.body (by decide) tab167) (Nat.le_of_ble_eq_true rfl) ?_); (show wp C _ none B167.code _ _); (simp only [B167]); simp -implicitDefEqProofs (disch := first | assumption | decide | omega | (simp only [wpD1] <;> omega) | (simp only [wpD2] <;> assumption) | solve_by_elim [HSub.refl, HSub.push, HSub.reserve] | fail) only [↓wpPre, wpPost, wpPoly, Int.reduceToNat, Int.reducePow, Int.reduceMul, Int.reduceAdd, Int.reduceSub, Int.reduceNeg, Nat.reduceAdd, Nat.reduceMul, Nat.reducePow, Int.reduceLT, Int.reduceLE, Int.reduceEq, Nat.reduceEqDiff]
  refine wp_loopI (fun j t h' => ∃ (k : Nat) (vs : List AV), Grw h h' 1 (t 3) k vs ∧ vs.length = k ∧ (∀ i, i < k → Two h h' (t 3) (vs.getD i .nilslice) (l.getD i (0, 0))) ∧ t 0 = v ∧ t 4 = .int .i64 (k : Nat) ∧ k ≤ l.length ∧ j = l.length - k) (j0 := l.length)
    ⟨0, [], Grw.nil _ _, rfl, fun i hi => by omega, rfl, rfl, by omega, rfl⟩ ?_
  rintro j t h1 ⟨k, vs, A, hvl, hvs, e0, e4, hk, hj⟩
  have hl1 := hl.mono A.sub
  simp -implicitDefEqProofs (disch := first | assumption | decide | omega | (simp only [wpD1] <;> omega) | (simp only [wpD2] <;> assumption) | solve_by_elim [HSub.refl, HSub.push, HSub.reserve] | fail) only [↓wpPre, wpPost, wpPoly, Int.reduceToNat, Int.reducePow, Int.reduceMul, Int.reduceAdd, Int.reduceSub, Int.reduceNeg, Nat.reduceAdd, Nat.reduceMul, Nat.reducePow, Int.reduceLT, Int.reduceLE, Int.reduceEq, Nat.reduceEqDiff, e0, e4, hl1.len]
  refine Br.by (fun c => ?_) (fun c => ?_)
  · have hk' : k < l.length := by omega
    have ld := (hl1.mono ((HSub.refl h1).reserve 15)).loadA hk'
    have f0 := (hl1.mono ((HSub.refl h1).reserve 15)).load0 hk'
    have f1 := (hl1.mono ((HSub.refl h1).reserve 15)).load1 hk'
    have ai0 : ∀ o : Nat, o < 2 → idxArrA 1 2 (elA 2 v k) (.int .i64 (o : Nat)) = some (elF 2 v k o) := by
      intro o ho
      obtain ⟨_, _, ⟨rfl, h1⟩ | ⟨i, oo, c, ws, wr, u, rfl, _⟩⟩ := hl
      · omega
      · simp only [elA, elF]
        rw [idxArr_ptr ⟨by omega, by omega⟩, Int.toNat_natCast, Nat.mul_one]
    have a0 : idxArrA 1 2 (elA 2 v k) (.int .i64 0) = some (elF 2 v k 0) := ai0 0 (by decide)
    have a1 : idxArrA 1 2 (elA 2 v k) (.int .i64 1) = some (elF 2 v k 1) := ai0 1 (by decide)
    have hz := A.sub.size
    have hsR := fun b1 b2 => (show HSub h (((h1.reserve 15).put (h1.size + 11) b1).put (h1.size + 12) b2) from (by repeat (first | exact A.sub | refine HSub.put ?_ (by (try simp only [Heap.size_put, Heap.size_push, Heap.size_reserve]); omega) _ | refine HSub.push ?_ _ | refine HSub.reserve ?_ _)))
    have gR : ∀ b1 b2 i, i < h1.size → (((h1.reserve 15).put (h1.size + 11) b1).put (h1.size + 12) b2).get i = h1.get i := fun b1 b2 i hi => by
      rw [get_put_ne (by omega), get_put_ne (by omega), Heap.get_reserve]
    have gN : ∀ b1 b2, (((h1.reserve 15).put (h1.size + 11) b1).put (h1.size + 12) b2).get (h1.size + 13) = none := fun b1 b2 => by
      rw [get_put_ne (by omega), get_put_ne (by omega), Heap.get_reserve]; exact h1.wf _ (by omega)
    have hap := fun b1 b2 => Grw.appG (H := ((h1.reserve 15).put (h1.size + 11) b1).put (h1.size + 12) b2) (k := h1.size + 13) (m := 1) (bytes := 24) (news := [.slice (h1.size + 11) 0 2 (.known 2)]) A (fun i hi => gR b1 b2 i (Grw.ids_lt A i hi).2) ⟨by omega, by simp only [Heap.size_put, Heap.size_reserve]; omega⟩ (by decide) (by omega) (by rfl)
    simp -implicitDefEqProofs (disch := first | assumption | decide | omega | (simp only [wpD1] <;> omega) | (simp only [wpD2] <;> assumption) | solve_by_elim [HSub.refl, HSub.push, HSub.reserve] | fail) only [↓wpPre, wpPost, wpPoly, Int.reduceToNat, Int.reducePow, Int.reduceMul, Int.reduceAdd, Int.reduceSub, Int.reduceNeg, Nat.reduceAdd, Nat.reduceMul, Nat.reducePow, Int.reduceLT, Int.reduceLE, Int.reduceEq, Nat.reduceEqDiff, e0, e4, hl1.idx, a0, a1, f0, f1, Heap.wf, cont_slice, contB_one, hap, gN, appK_none]
    have bF := fun b1 b2 => snocS_sub (k := h1.size + 13) (ds := vs ++ [.slice (h1.size + 11) 0 2 (.known 2)]) A (hsR b1 b2) (by omega)
    have rF := fun b1 b2 => snocS_same (H := ((h1.reserve 15).put (h1.size + 11) b1).put (h1.size + 12) b2) (k := h1.size + 13) (v := t 3) (sz := 1) (cs := vs ++ [.slice (h1.size + 11) 0 2 (.known 2)]) (by simp only [Heap.size_put, Heap.size_reserve]; omega)
    refine ⟨_, ⟨k + 1, vs ++ [.slice (h1.size + 11) 0 2 (.known 2)], ⟨bF _ _, by simp [hvl], by omega, .inr ⟨_, [], by omega, rfl, by rw [List.append_nil]; exact rF _ _⟩⟩, by simp [hvl], fun i hi => ?_, by simp, by omega, rfl⟩, by omega⟩
    rcases Nat.lt_or_ge i k with x | x
    · have e : (vs ++ [AV.slice (h1.size + 11) 0 2 (.known 2)]).getD i .nilslice = vs.getD i .nilslice := by simp [List.getD_eq_getElem?_getD, List.getElem?_append_left (show i < vs.length by omega)]
      rw [e]
      have y := hvs i x
      obtain ⟨j, hj1, hw, hg, hn⟩ := y
      have jl := Heap.lt_of_get hg
      exact ⟨j, hj1, hw, (snocS_ne (by omega) hn).trans ((gR _ _ _ jl).trans hg), by simp only [AV.ids, List.mem_singleton]; omega⟩
    · have ei : i = k := by omega
      subst ei
      have e : (vs ++ [AV.slice (h1.size + 11) 0 2 (.known 2)]).getD i .nilslice = .slice (h1.size + 11) 0 2 (.known 2) := by simp [List.getD_eq_getElem?_getD, ← hvl]
      rw [e]
      refine ⟨h1.size + 11, by omega, rfl, (snocS_ne (by omega) (fun q => by have := (Grw.ids_lt A _ q).2; omega)).trans ?_, by simp only [AV.ids, List.mem_singleton]; omega⟩
      rw [get_put_ne (by omega), get_put_eq rfl (by simp only [Heap.size_reserve]; omega)]
  · have ek : k = l.length := by omega
    subst ek
    simp -implicitDefEqProofs (disch := first | assumption | decide | omega | (simp only [wpD1] <;> omega) | (simp only [wpD2] <;> assumption) | solve_by_elim [HSub.refl, HSub.push, HSub.reserve] | fail) only [↓wpPre, wpPost, wpPoly, Int.reduceToNat, Int.reducePow, Int.reduceMul, Int.reduceAdd, Int.reduceSub, Int.reduceNeg, Nat.reduceAdd, Nat.reduceMul, Nat.reducePow, Int.reduceLT, Int.reduceLE, Int.reduceEq, Nat.reduceEqDiff]
    refine ⟨A.sub, vs, ?_, by simp [pairL, hvl], fun i hi => ?_⟩
    · have := A.sl
      simpa [pairL] using this
    · have hi' : i < l.length := by simpa [pairL] using hi
      have x := hvs i hi'
      obtain ⟨j, hj1, hw, hg, _⟩ := x
      rw [hw]
      have e : (pairL l).getD i [] = [(l.getD i (0, 0)).1, (l.getD i (0, 0)).2] := by simp [pairL, hi']
      rw [e]
      exact RI.known hg ⟨rfl, by decide⟩ (by decide)
end
end Go.Ae

/- Examples of layer 9, by contracts. -/
set_option linter.unusedSimpArgs false
set_option linter.unusedVariables false
namespace Go.Ae
theorem spec511 : specOut 5 1 1 = [(-1, 30), (31, 1)] := by rw [specOut_eq]; decide +kernel
theorem spec512 : ∃ a b c, specOut 5 1 2 = [(-9, a), (-1, b), (7, c)] := ⟨(specK (circ (codeL 5 1) (codeL 5 2)) 31 63).getD 0 (0, 0) |>.2, (specK (circ (codeL 5 1) (codeL 5 2)) 31 63).getD 1 (0, 0) |>.2, (specK (circ (codeL 5 1) (codeL 5 2)) 31 63).getD 2 (0, 0) |>.2, by rw [specOut_eq]; decide +kernel⟩
theorem sampErr511 : sampErr 5 1 [1, 1] = 0 := by decide +kernel
theorem parts511 : partsE 5 1 1 1 1 1 = tup3 (-1) 0 0 := by
  have ok : partsOk 5 1 1 1 1 1 := by decide +kernel
  unfold partsE
  rw [if_pos ok]
  have e1 : pf (sampL 5 1 (1 : Int).toNat) (sampL 5 1 (1 : Int).toNat) 1 1 (1 : Int).toNat = -1 := by decide +kernel
  have e2 : ps (sampL 5 1 (1 : Int).toNat) (sampL 5 1 (1 : Int).toNat) (1 : Int).toNat ((sampL 5 1 (1 : Int).toNat).length - (1 : Int).toNat) = 0 := by decide +kernel
  rw [e1, e2]
theorem circ123 : circErr [1, 2, 3] [1, 0, 0] = 0 ∧ circ [1, 2, 3] [1, 0, 0] = [1, 3, 2] := by decide +kernel
section
variable {C : Ctx}
set_option maxHeartbeats 2000000 in
theorem awake163_spec (hC : Has C T163) (hS : SortOk C 178) {h : Heap} : ACalls C 163 [] h (fun r h' => r = .bool true ∧ h' = h) := by
  refine ACalls.gc0 (P := fun r h' => r = .bool true ∧ HSub h h') ?_ (fun r h' hp => ⟨by rw [hp.1]; trivial, hp.2, hp.1, rfl⟩)
  have i5 : In64 5 := by unfold In64; omega
  have i1 : In64 1 := by unfold In64; omega
  have k1 := fun (h : Heap) (i j : Nat) (g1 : h.get i = some (.cells (ints [1, 2, 3]) true 0)) (g2 : h.get j = some (.cells (ints [1, 0, 0]) true 0)) => CircP_spec (hC.sub (T' := T25) (by decide)) (h := h) (va := .slice i 0 3 (.known 3)) (vb := .slice j 0 3 (.known 3)) (RI.known g1 ⟨rfl, by decide⟩ (by decide)) (RI.known g2 ⟨rfl, by decide⟩ (by decide))
  simp only [circ123.1, circ123.2, if_true] at k1
  have k2 := fun h => Spectrum_spec (hC.sub (T' := T164) (by decide)) hS (h := h) i5 i1 i1
  simp only [sampErr511, if_true, spec511] at k2
  have k3 := fun h => Parts_spec (hC.sub (T' := T170) (by decide)) (h := h) i5 i1 i1 i1 i1 i1
  simp only [parts511] at k3
  (refine calls_intro (hC.body (by decide) tab163) (Nat.le_of_ble_eq_true rfl) ?_); (show wp C _ none B163.code _ _); (simp only [B163]); simp -implicitDefEqProofs (disch := first | assumption | decide | omega | (simp only [wpD1] <;> omega) | (simp only [wpD2] <;> assumption) | solve_by_elim [HSub.refl, HSub.push, HSub.reserve] | fail) only [↓wpPre, wpPost, wpPoly, Int.reduceToNat, Int.reducePow, Int.reduceMul, Int.reduceAdd, Int.reduceSub, Int.reduceNeg, Nat.reduceAdd, Nat.reduceMul, Nat.reducePow, Int.reduceLT, Int.reduceLE, Int.reduceEq, Nat.reduceEqDiff]
  refine ACallsK.of (k1 _ _ _ (by simp -implicitDefEqProofs (disch := first | assumption | decide | omega | (simp only [wpD1] <;> omega) | (simp only [wpD2] <;> assumption) | solve_by_elim [HSub.refl, HSub.push, HSub.reserve] | fail) only [↓wpPre, wpPost, wpPoly, Int.reduceToNat, Int.reducePow, Int.reduceMul, Int.reduceAdd, Int.reduceSub, Int.reduceNeg, Nat.reduceAdd, Nat.reduceMul, Nat.reducePow, Int.reduceLT, Int.reduceLE, Int.reduceEq, Nat.reduceEqDiff]; rfl) (by simp -implicitDefEqProofs (disch := first | assumption | decide | omega | (simp only [wpD1] <;> omega) | (simp only [wpD2] <;> assumption) | solve_by_elim [HSub.refl, HSub.push, HSub.reserve] | fail) only [↓wpPre, wpPost, wpPoly, Int.reduceToNat, Int.reducePow, Int.reduceMul, Int.reduceAdd, Int.reduceSub, Int.reduceNeg, Nat.reduceAdd, Nat.reduceMul, Nat.reducePow, Int.reduceLT, Int.reduceLE, Int.reduceEq, Nat.reduceEqDiff]; rfl)) ?_
  rintro r h1 ⟨v1, rfl, s1, R1⟩
  have t1 : HSub h h1 := ((HSub.push1 _ _).push _).trans s1
  simp -implicitDefEqProofs (disch := first | assumption | decide | omega | (simp only [wpD1] <;> omega) | (simp only [wpD2] <;> assumption) | solve_by_elim [HSub.refl, HSub.push, HSub.reserve] | fail) only [↓wpPre, wpPost, wpPoly, Int.reduceToNat, Int.reducePow, Int.reduceMul, Int.reduceAdd, Int.reduceSub, Int.reduceNeg, Nat.reduceAdd, Nat.reduceMul, Nat.reducePow, Int.reduceLT, Int.reduceLE, Int.reduceEq, Nat.reduceEqDiff, lstErr]
  refine ACallsK.of (k2 _) ?_
  rintro r h2 ⟨v2, rfl, s2, R2⟩
  have t2 := t1.trans s2
  simp -implicitDefEqProofs (disch := first | assumption | decide | omega | (simp only [wpD1] <;> omega) | (simp only [wpD2] <;> assumption) | solve_by_elim [HSub.refl, HSub.push, HSub.reserve] | fail) only [↓wpPre, wpPost, wpPoly, Int.reduceToNat, Int.reducePow, Int.reduceMul, Int.reduceAdd, Int.reduceSub, Int.reduceNeg, Nat.reduceAdd, Nat.reduceMul, Nat.reducePow, Int.reduceLT, Int.reduceLE, Int.reduceEq, Nat.reduceEqDiff, lstErr]
  refine ACallsK.of (k3 _) ?_
  rintro r h3 ⟨rfl, s3⟩
  have t3 := t2.trans s3
  have R1 := R1.mono (s2.trans s3)
  have R2 := R2.mono s3
  have E := Equal_spec (hC.sub (T' := T12) (by decide)) (h := h3.push (.cells [.int .i64 1, .int .i64 3, .int .i64 2] true 0)) (vb := .slice h3.size 0 3 (.known 3)) (b := [1, 3, 2]) (R1.mono (HSub.push1 _ _)) (RI.known (get_push_eq rfl) ⟨rfl, by decide⟩ (by decide))
  rw [decide_eq_true rfl] at E
  simp -implicitDefEqProofs (disch := first | assumption | decide | omega | (simp only [wpD1] <;> omega) | (simp only [wpD2] <;> assumption) | solve_by_elim [HSub.refl, HSub.push, HSub.reserve] | fail) only [↓wpPre, wpPost, wpPoly, Int.reduceToNat, Int.reducePow, Int.reduceMul, Int.reduceAdd, Int.reduceSub, Int.reduceNeg, Nat.reduceAdd, Nat.reduceMul, Nat.reducePow, Int.reduceLT, Int.reduceLE, Int.reduceEq, Nat.reduceEqDiff, tup3]
  refine ACallsK.eq E ?_
  simp -implicitDefEqProofs (disch := first | assumption | decide | omega | (simp only [wpD1] <;> omega) | (simp only [wpD2] <;> assumption) | solve_by_elim [HSub.refl, HSub.push, HSub.reserve] | fail) only [↓wpPre, wpPost, wpPoly, Int.reduceToNat, Int.reducePow, Int.reduceMul, Int.reduceAdd, Int.reduceSub, Int.reduceNeg, Nat.reduceAdd, Nat.reduceMul, Nat.reducePow, Int.reduceLT, Int.reduceLE, Int.reduceEq, Nat.reduceEqDiff]
  refine ACallsK.of (pairs_spec (hC.sub (T' := T167) (by decide)) (R2.mono (HSub.push1 _ _)) (by decide)) ?_
  rintro r h4 ⟨s4, R4⟩
  have t4 : HSub h h4 := (t3.push _).trans s4
  have hq : HSub h4 (((h4.push (.cells [.int .i64 (-1), .int .i64 30] true 0)).push (.cells [.int .i64 31, .int .i64 1] true 0)).push (.cells [.slice h4.size 0 2 (.known 2), .slice (h4.size + 1) 0 2 (.known 2)] true 0)) := (by repeat (first | exact HSub.refl _ | refine HSub.put ?_ (by (try simp only [Heap.size_put, Heap.size_push, Heap.size_reserve]); omega) _ | refine HSub.push ?_ _ | refine HSub.reserve ?_ _))
  have L2 : LLI (((h4.push (.cells [.int .i64 (-1), .int .i64 30] true 0)).push (.cells [.int .i64 31, .int .i64 1] true 0)).push (.cells [.slice h4.size 0 2 (.known 2), .slice (h4.size + 1) 0 2 (.known 2)] true 0)) (.slice (h4.size + 1 + 1) 0 2 (.known 2)) [[-1, 30], [31, 1]] := by
    refine ⟨[.slice h4.size 0 2 (.known 2), .slice (h4.size + 1) 0 2 (.known 2)], ⟨rfl, by decide, .inr ⟨_, 0, _, [.slice h4.size 0 2 (.known 2), .slice (h4.size + 1) 0 2 (.known 2)], true, 0, rfl, get_push_eq rfl, by simp, rfl, by decide⟩⟩, rfl, fun i hi => ?_⟩
    have : i = 0 ∨ i = 1 := by simp at hi; omega
    rcases this with rfl | rfl
    · exact RI.known (wr := true) (u := 0) (by simp -implicitDefEqProofs (disch := first | assumption | decide | omega | (simp only [wpD1] <;> omega) | (simp only [wpD2] <;> assumption) | solve_by_elim [HSub.refl, HSub.push, HSub.reserve] | fail) only [↓wpPre, wpPost, wpPoly, Int.reduceToNat, Int.reducePow, Int.reduceMul, Int.reduceAdd, Int.reduceSub, Int.reduceNeg, Nat.reduceAdd, Nat.reduceMul, Nat.reducePow, Int.reduceLT, Int.reduceLE, Int.reduceEq, Nat.reduceEqDiff]; rfl) ⟨rfl, by decide⟩ (by decide)
    · exact RI.known (wr := true) (u := 0) (by simp -implicitDefEqProofs (disch := first | assumption | decide | omega | (simp only [wpD1] <;> omega) | (simp only [wpD2] <;> assumption) | solve_by_elim [HSub.refl, HSub.push, HSub.reserve] | fail) only [↓wpPre, wpPost, wpPoly, Int.reduceToNat, Int.reducePow, Int.reduceMul, Int.reduceAdd, Int.reduceSub, Int.reduceNeg, Nat.reduceAdd, Nat.reduceMul, Nat.reducePow, Int.reduceLT, Int.reduceLE, Int.reduceEq, Nat.reduceEqDiff]; rfl) ⟨rfl, by decide⟩ (by decide)
  have L := lists_spec (hC.sub (T' := T166) (by decide)) (R4.mono hq) L2
  rw [decide_eq_true (show pairL [(-1, 30), (31, 1)] = [[-1, 30], [31, 1]] from rfl)] at L
  simp -implicitDefEqProofs (disch := first | assumption | decide | omega | (simp only [wpD1] <;> omega) | (simp only [wpD2] <;> assumption) | solve_by_elim [HSub.refl, HSub.push, HSub.reserve] | fail) only [↓wpPre, wpPost, wpPoly, Int.reduceToNat, Int.reducePow, Int.reduceMul, Int.reduceAdd, Int.reduceSub, Int.reduceNeg, Nat.reduceAdd, Nat.reduceMul, Nat.reducePow, Int.reduceLT, Int.reduceLE, Int.reduceEq, Nat.reduceEqDiff]
  refine ACallsK.eq L ?_
  simp -implicitDefEqProofs (disch := first | assumption | decide | omega | (simp only [wpD1] <;> omega) | (simp only [wpD2] <;> assumption) | solve_by_elim [HSub.refl, HSub.push, HSub.reserve] | fail) only [↓wpPre, wpPost, wpPoly, Int.reduceToNat, Int.reducePow, Int.reduceMul, Int.reduceAdd, Int.reduceSub, Int.reduceNeg, Nat.reduceAdd, Nat.reduceMul, Nat.reducePow, Int.reduceLT, Int.reduceLE, Int.reduceEq, Nat.reduceEqDiff]
  exact t4.trans hq
end
end Go.Ae

/- The statement on parts of placements of layer 9. -/
set_option linter.unusedSimpArgs false
set_option linter.unusedVariables false
namespace Go.Ae
section
variable {C : Ctx}
theorem heavy09_spec (hC : Has C T168) {d o : Int} {h : Heap} (hd : In64 d) (ho : In64 o) : ACalls C 168 [.int .i64 d, .int .i64 o] h (fun r h' => (∃ b, r = .bool b) ∧ h' = h) := by
  unfold In64 at hd ho
  by_cases c1 : 4 < d ∧ d < 11
  · by_cases c2 : 0 < o ∧ o < 9
    · have : d = 5 ∨ d = 6 ∨ d = 7 ∨ d = 8 ∨ d = 9 ∨ d = 10 := by omega
      rcases this with rfl | rfl | rfl | rfl | rfl | rfl <;>
      · (refine calls_intro (hC.body (by decide) tab168) (Nat.le_of_ble_eq_true rfl) ?_); (show wp C _ none B168.code _ _); (simp only [B168]); simp -implicitDefEqProofs (disch := first | assumption | decide | omega | (simp only [wpD1] <;> omega) | (simp only [wpD2] <;> assumption) | solve_by_elim [HSub.refl, HSub.push, HSub.reserve] | fail) only [↓wpPre, wpPost, wpPoly, Int.reduceToNat, Int.reducePow, Int.reduceMul, Int.reduceAdd, Int.reduceSub, Int.reduceNeg, Nat.reduceAdd, Nat.reduceMul, Nat.reducePow, Int.reduceLT, Int.reduceLE, Int.reduceEq, Nat.reduceEqDiff]
        exact ⟨_, rfl⟩
    · (refine calls_intro (hC.body (by decide) tab168) (Nat.le_of_ble_eq_true rfl) ?_); (show wp C _ none B168.code _ _); (simp only [B168]); simp -implicitDefEqProofs (disch := first | assumption | decide | omega | (simp only [wpD1] <;> omega) | (simp only [wpD2] <;> assumption) | solve_by_elim [HSub.refl, HSub.push, HSub.reserve] | fail) only [↓wpPre, wpPost, wpPoly, Int.reduceToNat, Int.reducePow, Int.reduceMul, Int.reduceAdd, Int.reduceSub, Int.reduceNeg, Nat.reduceAdd, Nat.reduceMul, Nat.reducePow, Int.reduceLT, Int.reduceLE, Int.reduceEq, Nat.reduceEqDiff]
      (repeat' (first | (refine Br.by (fun _ => ?_) (fun _ => ?_)) | (simp -implicitDefEqProofs (disch := first | assumption | decide | omega | (simp only [wpD1] <;> omega) | (simp only [wpD2] <;> assumption) | solve_by_elim [HSub.refl, HSub.push, HSub.reserve] | fail) only [↓wpPre, wpPost, wpPoly, Int.reduceToNat, Int.reducePow, Int.reduceMul, Int.reduceAdd, Int.reduceSub, Int.reduceNeg, Nat.reduceAdd, Nat.reduceMul, Nat.reducePow, Int.reduceLT, Int.reduceLE, Int.reduceEq, Nat.reduceEqDiff])))
      all_goals first | exact ⟨_, rfl⟩ | (exfalso; omega)
  · (refine calls_intro (hC.body (by decide) tab168) (Nat.le_of_ble_eq_true rfl) ?_); (show wp C _ none B168.code _ _); (simp only [B168]); simp -implicitDefEqProofs (disch := first | assumption | decide | omega | (simp only [wpD1] <;> omega) | (simp only [wpD2] <;> assumption) | solve_by_elim [HSub.refl, HSub.push, HSub.reserve] | fail) only [↓wpPre, wpPost, wpPoly, Int.reduceToNat, Int.reducePow, Int.reduceMul, Int.reduceAdd, Int.reduceSub, Int.reduceNeg, Nat.reduceAdd, Nat.reduceMul, Nat.reducePow, Int.reduceLT, Int.reduceLE, Int.reduceEq, Nat.reduceEqDiff]
    (repeat' (first | (refine Br.by (fun _ => ?_) (fun _ => ?_)) | (simp -implicitDefEqProofs (disch := first | assumption | decide | omega | (simp only [wpD1] <;> omega) | (simp only [wpD2] <;> assumption) | solve_by_elim [HSub.refl, HSub.push, HSub.reserve] | fail) only [↓wpPre, wpPost, wpPoly, Int.reduceToNat, Int.reducePow, Int.reduceMul, Int.reduceAdd, Int.reduceSub, Int.reduceNeg, Nat.reduceAdd, Nat.reduceMul, Nat.reducePow, Int.reduceLT, Int.reduceLE, Int.reduceEq, Nat.reduceEqDiff])))
    all_goals first | exact ⟨_, rfl⟩ | (exfalso; omega)
set_option maxHeartbeats 2000000 in
set_option maxRecDepth 20000 in
theorem CrossParts_law (hC : Has C T156) (hS : SortOk C 178) {d o p q m s : Int} {h : Heap} (hd : In64 d) (ho : In64 o) (hp : In64 p) (hq : In64 q) (hm : In64 m) (hs : In64 s) :
    ACalls C 156 [.int .i64 d, .int .i64 o, .int .i64 p, .int .i64 q, .int .i64 m, .int .i64 s] h (fun r _ => r = .bool true) := by
  have a1 := fun h => SamplesC_spec (hC.sub (T' := T131) (by decide)) (h := h) hd ho hp
  have a2 := fun h => SamplesR_spec (hC.sub (T' := T169) (by decide)) (h := h) hd ho hp
  have a3 := fun h => Parts_spec (hC.sub (T' := T170) (by decide)) (h := h) hd ho hp hq hm hs
  have a4 := fun h => PartsR_spec (hC.sub (T' := T171) (by decide)) (h := h) hd ho hp hq hm hs
  obtain ⟨x, y, e, he⟩ : ∃ x y e, partsE d o p q m s = tup3 x y e := by unfold partsE; split <;> exact ⟨_, _, _, rfl⟩
  rw [he] at a3 a4
  (refine calls_intro (hC.body (by decide) tab156) (Nat.le_of_ble_eq_true rfl) ?_); (show wp C _ none B156.code _ _); (simp only [B156]); simp -implicitDefEqProofs (disch := first | assumption | decide | omega | (simp only [wpD1] <;> omega) | (simp only [wpD2] <;> assumption) | solve_by_elim [HSub.refl, HSub.push, HSub.reserve] | fail) only [↓wpPre, wpPost, wpPoly, Int.reduceToNat, Int.reducePow, Int.reduceMul, Int.reduceAdd, Int.reduceSub, Int.reduceNeg, Nat.reduceAdd, Nat.reduceMul, Nat.reducePow, Int.reduceLT, Int.reduceLE, Int.reduceEq, Nat.reduceEqDiff]
  refine ACallsK.of (heavy09_spec (hC.sub (T' := T168) (by decide)) hd ho) ?_
  rintro r h0 ⟨⟨b, rfl⟩, rfl⟩
  cases b with
  | true =>
    simp -implicitDefEqProofs (disch := first | assumption | decide | omega | (simp only [wpD1] <;> omega) | (simp only [wpD2] <;> assumption) | solve_by_elim [HSub.refl, HSub.push, HSub.reserve] | fail) only [↓wpPre, wpPost, wpPoly, Int.reduceToNat, Int.reducePow, Int.reduceMul, Int.reduceAdd, Int.reduceSub, Int.reduceNeg, Nat.reduceAdd, Nat.reduceMul, Nat.reducePow, Int.reduceLT, Int.reduceLE, Int.reduceEq, Nat.reduceEqDiff]
    refine ACallsK.eq (awake163_spec (hC.sub (T' := T163) (by decide)) hS) ?_
    simp -implicitDefEqProofs (disch := first | assumption | decide | omega | (simp only [wpD1] <;> omega) | (simp only [wpD2] <;> assumption) | solve_by_elim [HSub.refl, HSub.push, HSub.reserve] | fail) only [↓wpPre, wpPost, wpPoly, Int.reduceToNat, Int.reducePow, Int.reduceMul, Int.reduceAdd, Int.reduceSub, Int.reduceNeg, Nat.reduceAdd, Nat.reduceMul, Nat.reducePow, Int.reduceLT, Int.reduceLE, Int.reduceEq, Nat.reduceEqDiff]
  | false =>
    simp -implicitDefEqProofs (disch := first | assumption | decide | omega | (simp only [wpD1] <;> omega) | (simp only [wpD2] <;> assumption) | solve_by_elim [HSub.refl, HSub.push, HSub.reserve] | fail) only [↓wpPre, wpPost, wpPoly, Int.reduceToNat, Int.reducePow, Int.reduceMul, Int.reduceAdd, Int.reduceSub, Int.reduceNeg, Nat.reduceAdd, Nat.reduceMul, Nat.reducePow, Int.reduceLT, Int.reduceLE, Int.reduceEq, Nat.reduceEqDiff]
    refine ACallsK.of (a1 _) ?_
    rintro r h1 ⟨v1, rfl, s1, R1⟩
    simp -implicitDefEqProofs (disch := first | assumption | decide | omega | (simp only [wpD1] <;> omega) | (simp only [wpD2] <;> assumption) | solve_by_elim [HSub.refl, HSub.push, HSub.reserve] | fail) only [↓wpPre, wpPost, wpPoly, Int.reduceToNat, Int.reducePow, Int.reduceMul, Int.reduceAdd, Int.reduceSub, Int.reduceNeg, Nat.reduceAdd, Nat.reduceMul, Nat.reducePow, Int.reduceLT, Int.reduceLE, Int.reduceEq, Nat.reduceEqDiff, lstErr]
    refine ACallsK.of (a2 _) ?_
    rintro r h2 ⟨v2, rfl, s2, R2⟩
    simp -implicitDefEqProofs (disch := first | assumption | decide | omega | (simp only [wpD1] <;> omega) | (simp only [wpD2] <;> assumption) | solve_by_elim [HSub.refl, HSub.push, HSub.reserve] | fail) only [↓wpPre, wpPost, wpPoly, Int.reduceToNat, Int.reducePow, Int.reduceMul, Int.reduceAdd, Int.reduceSub, Int.reduceNeg, Nat.reduceAdd, Nat.reduceMul, Nat.reducePow, Int.reduceLT, Int.reduceLE, Int.reduceEq, Nat.reduceEqDiff, lstErr]
    refine ACallsK.of (a3 _) ?_
    rintro r h3 ⟨rfl, s3⟩
    simp -implicitDefEqProofs (disch := first | assumption | decide | omega | (simp only [wpD1] <;> omega) | (simp only [wpD2] <;> assumption) | solve_by_elim [HSub.refl, HSub.push, HSub.reserve] | fail) only [↓wpPre, wpPost, wpPoly, Int.reduceToNat, Int.reducePow, Int.reduceMul, Int.reduceAdd, Int.reduceSub, Int.reduceNeg, Nat.reduceAdd, Nat.reduceMul, Nat.reducePow, Int.reduceLT, Int.reduceLE, Int.reduceEq, Nat.reduceEqDiff, tup3]
    refine ACallsK.of (a4 _) ?_
    rintro r h4 ⟨rfl, s4⟩
    have E := Equal_spec (hC.sub (T' := T12) (by decide)) (R1.mono ((s2.trans s3).trans s4)) (R2.mono (s3.trans s4))
    rw [decide_eq_true rfl] at E
    simp -implicitDefEqProofs (disch := first | assumption | decide | omega | (simp only [wpD1] <;> omega) | (simp only [wpD2] <;> assumption) | solve_by_elim [HSub.refl, HSub.push, HSub.reserve] | fail) only [↓wpPre, wpPost, wpPoly, Int.reduceToNat, Int.reducePow, Int.reduceMul, Int.reduceAdd, Int.reduceSub, Int.reduceNeg, Nat.reduceAdd, Nat.reduceMul, Nat.reducePow, Int.reduceLT, Int.reduceLE, Int.reduceEq, Nat.reduceEqDiff, tup3]
    refine ACallsK.eq E ?_
    simp -implicitDefEqProofs (disch := first | assumption | decide | omega | (simp only [wpD1] <;> omega) | (simp only [wpD2] <;> assumption) | solve_by_elim [HSub.refl, HSub.push, HSub.reserve] | fail) only [↓wpPre, wpPost, wpPoly, Int.reduceToNat, Int.reducePow, Int.reduceMul, Int.reduceAdd, Int.reduceSub, Int.reduceNeg, Nat.reduceAdd, Nat.reduceMul, Nat.reducePow, Int.reduceLT, Int.reduceLE, Int.reduceEq, Nat.reduceEqDiff]
    refine ACallsK.eq (awake163_spec (hC.sub (T' := T163) (by decide)) hS) ?_
    simp -implicitDefEqProofs (disch := first | assumption | decide | omega | (simp only [wpD1] <;> omega) | (simp only [wpD2] <;> assumption) | solve_by_elim [HSub.refl, HSub.push, HSub.reserve] | fail) only [↓wpPre, wpPost, wpPoly, Int.reduceToNat, Int.reducePow, Int.reduceMul, Int.reduceAdd, Int.reduceSub, Int.reduceNeg, Nat.reduceAdd, Nat.reduceMul, Nat.reducePow, Int.reduceLT, Int.reduceLE, Int.reduceEq, Nat.reduceEqDiff]
end
end Go.Ae
