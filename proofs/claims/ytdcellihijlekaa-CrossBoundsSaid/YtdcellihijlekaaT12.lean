/- Texts of the proof, part 12: a second reading of the lowered code, proved sound, and what the functions compute. -/
import Derived.Test.YtdcellihijlekaaT11

/- Circular sums of the reference of layer 9. -/
set_option linter.unusedSimpArgs false
set_option linter.unusedVariables false
namespace Go.Ae

def cs (a b : List Int) (k : Nat) : Nat → Int
  | 0 => 0
  | i + 1 => cs a b k i + a.getD i 0 * b.getD ((i + k) % b.length) 0
def circ (a b : List Int) : List Int := (List.range a.length).map fun k => cs a b k a.length
theorem circ_length (a b : List Int) : (circ a b).length = a.length := by simp [circ]
theorem cs_abs (a b : List Int) (k : Nat) (hb : 1 ≤ b.length) : ∀ i, i ≤ a.length → absI (cs a b k i) ≤ sumAbs (a.take i) * maxAbs b
  | 0, _ => by simp [cs, absI, sumAbs]
  | i + 1, hi => by
    have ih := cs_abs a b k hb i (by omega)
    have h2 := absI_add (cs a b k i) (a.getD i 0 * b.getD ((i + k) % b.length) 0)
    have h3 : absI (a.getD i 0 * b.getD ((i + k) % b.length) 0) ≤ absI (a.getD i 0) * maxAbs b := by
      rw [absI_mul]
      exact Int.mul_le_mul_of_nonneg_left (maxAbs_le (getD_mem (Nat.mod_lt _ (by omega)))) (absI_nonneg _)
    rw [sumAbs_take (by omega), Int.add_mul]
    simp only [cs]; omega

def cpre (a b : List Int) (k i n : Nat) : Int := if n < k then cs a b n a.length else if n = k then cs a b k i else 0

section
variable {C : Ctx}
end
end Go.Ae

/- Circular of the references. -/
set_option linter.unusedSimpArgs false
set_option linter.unusedVariables false
namespace Go.Ae

def circErr (a b : List Int) : Int :=
  if a.length = 0 then 3 else if 8192 < a.length then 4 else if a.length ≠ b.length then 10 else if a.any bigs = true ∨ b.any bigs = true then 2 else 0

section
variable {C : Ctx}
end
end Go.Ae

/- Circular of the program's package cross. -/
set_option linter.unusedSimpArgs false
set_option linter.unusedVariables false
namespace Go.Ae
section
variable {C : Ctx}
theorem bigs46_spec (hC : Has C T46) {x : Int} {h : Heap} : ACalls C 46 [.int .i64 x] h (fun r h' => r = .bool (bigs x) ∧ h' = h) := by
  (refine calls_intro (hC.body (by decide) tab46) (Nat.le_of_ble_eq_true rfl) ?_); (show wp C _ none B46.code _ _); (simp only [B46]); simp -implicitDefEqProofs (disch := first | assumption | decide | omega | (simp only [wpD1] <;> omega) | (simp only [wpD2] <;> assumption) | solve_by_elim [HSub.refl, HSub.push, HSub.reserve] | fail) only [↓wpPre, wpPost, wpPoly, Int.reduceToNat, Int.reducePow, Int.reduceMul, Int.reduceAdd, Int.reduceSub, Int.reduceNeg, Nat.reduceAdd, Nat.reduceMul, Nat.reducePow, Int.reduceLT, Int.reduceLE, Int.reduceEq, Nat.reduceEqDiff]
  (repeat' (first | (refine Br.by (fun _ => ?_) (fun _ => ?_)) | (simp -implicitDefEqProofs (disch := first | assumption | decide | omega | (simp only [wpD1] <;> omega) | (simp only [wpD2] <;> assumption) | solve_by_elim [HSub.refl, HSub.push, HSub.reserve] | fail) only [↓wpPre, wpPost, wpPoly, Int.reduceToNat, Int.reducePow, Int.reduceMul, Int.reduceAdd, Int.reduceSub, Int.reduceNeg, Nat.reduceAdd, Nat.reduceMul, Nat.reducePow, Int.reduceLT, Int.reduceLE, Int.reduceEq, Nat.reduceEqDiff])))
  all_goals (simp [bigs]; omega)
theorem twice_get {b : List Int} {i k : Nat} (hi : i < b.length) (hk : k < b.length) : (b ++ b).getD (k + i) 0 = b.getD ((i + k) % b.length) 0 := by
  simp only [List.getD_eq_getElem?_getD]
  by_cases c : i + k < b.length
  · rw [Nat.mod_eq_of_lt c, List.getElem?_append_left (by omega), Nat.add_comm]
  · rw [List.getElem?_append_right (by omega), Nat.mod_eq_sub_mod (by omega), Nat.mod_eq_of_lt (by omega), Nat.add_comm]

set_option maxHeartbeats 1000000 in
theorem CircP_specF (hC : Has C T25) {va vb : AV} {a b : List Int} {h : Heap} (ha : RI h va a) (hb : RI h vb b) :
    ACalls C 25 [va, vb] h (fun r h' => ∃ v', r = lstErr v' (circErr a b) ∧ HSub h h' ∧ RI h' v' (if circErr a b = 0 then circ a b else []) ∧ (circErr a b = 0 → Fresh h h' v' (circ a b))) := by
  have asks : ∀ {l : List Int} {h : Heap}, Asks C (.func 46 [] []) bigs l h := fun {l h} => ⟨46, [], rfl, fun x _ => bigs46_spec (hC.sub (T' := T46) (by decide))⟩
  have l1 := ha.lt
  have l2 := hb.lt
  have c0 := hb.cells
  have o0 := hb.one
  have fin : ∀ e, circErr a b = e → e ≠ 0 → ∃ v', AV.tuple [.nilslice, .int .i64 e] = lstErr v' (circErr a b) ∧ HSub h h ∧ RI h v' (if circErr a b = 0 then circ a b else []) ∧ (circErr a b = 0 → Fresh h h v' (circ a b)) := fun e h0 he => ⟨.nilslice, by rw [h0, lstErr], HSub.refl _, by rw [if_neg (by rw [h0]; exact he)]; exact RI.nil, fun q => absurd (h0.symm.trans q) he⟩
  have pe : circErr a b = if a.length = 0 then 3 else if 8192 < a.length then 4 else if a.length ≠ b.length then 10 else if a.any bigs = true ∨ b.any bigs = true then 2 else 0 := rfl
  by_cases c0 : a.length = 0
  · rw [if_pos c0] at pe
    (refine calls_intro (hC.body (by decide) tab25) (Nat.le_of_ble_eq_true rfl) ?_); (show wp C _ none B25.code _ _); (simp only [B25]); simp -implicitDefEqProofs (disch := first | assumption | decide | omega | (simp only [wpD1] <;> omega) | (simp only [wpD2] <;> assumption) | solve_by_elim [HSub.refl, HSub.push, HSub.reserve] | fail) only [↓wpPre, wpPost, wpPoly, Int.reduceToNat, Int.reducePow, Int.reduceMul, Int.reduceAdd, Int.reduceSub, Int.reduceNeg, Nat.reduceAdd, Nat.reduceMul, Nat.reducePow, Int.reduceLT, Int.reduceLE, Int.reduceEq, Nat.reduceEqDiff, ha.len]
    exact fin 3 pe (by decide)
  rw [if_neg c0] at pe
  by_cases c1 : 8192 < a.length
  · rw [if_pos c1] at pe
    (refine calls_intro (hC.body (by decide) tab25) (Nat.le_of_ble_eq_true rfl) ?_); (show wp C _ none B25.code _ _); (simp only [B25]); simp -implicitDefEqProofs (disch := first | assumption | decide | omega | (simp only [wpD1] <;> omega) | (simp only [wpD2] <;> assumption) | solve_by_elim [HSub.refl, HSub.push, HSub.reserve] | fail) only [↓wpPre, wpPost, wpPoly, Int.reduceToNat, Int.reducePow, Int.reduceMul, Int.reduceAdd, Int.reduceSub, Int.reduceNeg, Nat.reduceAdd, Nat.reduceMul, Nat.reducePow, Int.reduceLT, Int.reduceLE, Int.reduceEq, Nat.reduceEqDiff, ha.len]
    exact fin 4 pe (by decide)
  rw [if_neg c1] at pe
  by_cases c2 : a.length ≠ b.length
  · rw [if_pos c2] at pe
    (refine calls_intro (hC.body (by decide) tab25) (Nat.le_of_ble_eq_true rfl) ?_); (show wp C _ none B25.code _ _); (simp only [B25]); simp -implicitDefEqProofs (disch := first | assumption | decide | omega | (simp only [wpD1] <;> omega) | (simp only [wpD2] <;> assumption) | solve_by_elim [HSub.refl, HSub.push, HSub.reserve] | fail) only [↓wpPre, wpPost, wpPoly, Int.reduceToNat, Int.reducePow, Int.reduceMul, Int.reduceAdd, Int.reduceSub, Int.reduceNeg, Nat.reduceAdd, Nat.reduceMul, Nat.reducePow, Int.reduceLT, Int.reduceLE, Int.reduceEq, Nat.reduceEqDiff, ha.len, hb.len]
    exact fin 10 pe (by decide)
  have c2' : a.length = b.length := by omega
  rw [if_neg c2] at pe
  (refine calls_intro (hC.body (by decide) tab25) (Nat.le_of_ble_eq_true rfl) ?_); (show wp C _ none B25.code _ _); (simp only [B25]); simp -implicitDefEqProofs (disch := first | assumption | decide | omega | (simp only [wpD1] <;> omega) | (simp only [wpD2] <;> assumption) | solve_by_elim [HSub.refl, HSub.push, HSub.reserve] | fail) only [↓wpPre, wpPost, wpPoly, Int.reduceToNat, Int.reducePow, Int.reduceMul, Int.reduceAdd, Int.reduceSub, Int.reduceNeg, Nat.reduceAdd, Nat.reduceMul, Nat.reducePow, Int.reduceLT, Int.reduceLE, Int.reduceEq, Nat.reduceEqDiff, ha.len, hb.len]
  refine ACallsK.eq (ContainsFunc_spec (hC.sub (T' := T37) (by decide)) ha asks) ?_
  by_cases hA : a.any bigs = true
  · rw [if_pos (.inl hA)] at pe
    simp -implicitDefEqProofs (disch := first | assumption | decide | omega | (simp only [wpD1] <;> omega) | (simp only [wpD2] <;> assumption) | solve_by_elim [HSub.refl, HSub.push, HSub.reserve] | fail) only [↓wpPre, wpPost, wpPoly, Int.reduceToNat, Int.reducePow, Int.reduceMul, Int.reduceAdd, Int.reduceSub, Int.reduceNeg, Nat.reduceAdd, Nat.reduceMul, Nat.reducePow, Int.reduceLT, Int.reduceLE, Int.reduceEq, Nat.reduceEqDiff]
    exact fin 2 pe (by decide)
  simp -implicitDefEqProofs (disch := first | assumption | decide | omega | (simp only [wpD1] <;> omega) | (simp only [wpD2] <;> assumption) | solve_by_elim [HSub.refl, HSub.push, HSub.reserve] | fail) only [↓wpPre, wpPost, wpPoly, Int.reduceToNat, Int.reducePow, Int.reduceMul, Int.reduceAdd, Int.reduceSub, Int.reduceNeg, Nat.reduceAdd, Nat.reduceMul, Nat.reducePow, Int.reduceLT, Int.reduceLE, Int.reduceEq, Nat.reduceEqDiff]
  refine ACallsK.eq (ContainsFunc_spec (hC.sub (T' := T37) (by decide)) hb asks) ?_
  by_cases hB : b.any bigs = true
  · rw [if_pos (.inr hB)] at pe
    simp -implicitDefEqProofs (disch := first | assumption | decide | omega | (simp only [wpD1] <;> omega) | (simp only [wpD2] <;> assumption) | solve_by_elim [HSub.refl, HSub.push, HSub.reserve] | fail) only [↓wpPre, wpPost, wpPoly, Int.reduceToNat, Int.reducePow, Int.reduceMul, Int.reduceAdd, Int.reduceSub, Int.reduceNeg, Nat.reduceAdd, Nat.reduceMul, Nat.reducePow, Int.reduceLT, Int.reduceLE, Int.reduceEq, Nat.reduceEqDiff]
    exact fin 2 pe (by decide)
  rw [if_neg (by rintro (h | h) <;> contradiction)] at pe
  have sa := small_of (Bool.eq_false_iff.2 hA)
  have sb := small_of (Bool.eq_false_iff.2 hB)
  simp -implicitDefEqProofs (disch := first | assumption | decide | omega | (simp only [wpD1] <;> omega) | (simp only [wpD2] <;> assumption) | solve_by_elim [HSub.refl, HSub.push, HSub.reserve] | fail) only [↓wpPre, wpPost, wpPoly, Int.reduceToNat, Int.reducePow, Int.reduceMul, Int.reduceAdd, Int.reduceSub, Int.reduceNeg, Nat.reduceAdd, Nat.reduceMul, Nat.reducePow, Int.reduceLT, Int.reduceLE, Int.reduceEq, Nat.reduceEqDiff]
  have s1 := sumAbs_small sa
  have s2 := sumAbs_nonneg a
  have s3 := maxAbs_small sb
  have s4 := maxAbs_nonneg b
  have p2 : sumAbs a * maxAbs b ≤ 8192000000 * 1000000 := Int.mul_le_mul (by omega) s3 s4 (by omega)
  have hbb : RI (h.push (.cells [vb, vb] true 0)) vb b := hb.mono (HSub.push1 _ _)
  have efl : flatP [(vb, b), (vb, b)] = b ++ b := by simp [flatP]
  refine ACallsK.of (Concat_spec (hC.sub (T' := T47) (by decide)) (ps := [(vb, b), (vb, b)]) (j := h.size) (u := 0) (wr := true) (get_push_eq rfl) (by intro p hp; simp only [List.mem_cons, List.not_mem_nil, or_false] at hp; rcases hp with rfl | rfl <;> exact ⟨hbb, by simp only; omega⟩) (by simp) (by rw [efl]; simp; omega)) ?_
  rintro r h1 A
  rw [efl] at A
  have A0 := A.sub
  have hs0 : HSub h h1 := (HSub.push1 _ _).trans A0
  have hr := A.ri
  have ha1 := ha.mono hs0
  simp -implicitDefEqProofs (disch := first | assumption | decide | omega | (simp only [wpD1] <;> omega) | (simp only [wpD2] <;> assumption) | solve_by_elim [HSub.refl, HSub.push, HSub.reserve] | fail) only [↓wpPre, wpPost, wpPoly, Int.reduceToNat, Int.reducePow, Int.reduceMul, Int.reduceAdd, Int.reduceSub, Int.reduceNeg, Nat.reduceAdd, Nat.reduceMul, Nat.reducePow, Int.reduceLT, Int.reduceLE, Int.reduceEq, Nat.reduceEqDiff, ha.len, ints_replicate]
  have hN : ∀ f : Nat → Int, ((List.range a.length).map f).length = a.length := fun f => by simp
  refine wp_loopI (fun j t h' => ∃ k : Nat, h' = h1.push (.cells (ints ((List.range a.length).map (cpre a b k 0))) true 0) ∧ t 0 = va ∧ t 7 = r ∧ t 8 = .slice h1.size 0 a.length (.known a.length) ∧ t 40 = .slice h1.size 0 a.length (.known a.length) ∧ t 41 = .int .i64 a.length ∧ t 42 = .int .i64 (k : Nat) ∧ k ≤ a.length ∧ j = a.length - k) (j0 := a.length)
    ⟨0, ?_, rfl, rfl, rfl, rfl, rfl, rfl, by omega, rfl⟩ ?_
  · have e : (List.range a.length).map (cpre a b 0 0) = List.replicate a.length 0 := by
      have : cpre a b 0 0 = fun _ => 0 := by funext n; simp [cpre, cs]
      rw [this, List.map_const', List.length_range]
    rw [e]
  rintro j t h2 ⟨k, rfl, e0, e7, e8, e40, e41, e42, hk, hj⟩
  simp -implicitDefEqProofs (disch := first | assumption | decide | omega | (simp only [wpD1] <;> omega) | (simp only [wpD2] <;> assumption) | solve_by_elim [HSub.refl, HSub.push, HSub.reserve] | fail) only [↓wpPre, wpPost, wpPoly, Int.reduceToNat, Int.reducePow, Int.reduceMul, Int.reduceAdd, Int.reduceSub, Int.reduceNeg, Nat.reduceAdd, Nat.reduceMul, Nat.reducePow, Int.reduceLT, Int.reduceLE, Int.reduceEq, Nat.reduceEqDiff, e41, e42]
  refine Br.by (fun c => ?_) (fun c => ?_)
  · have hk' : k < a.length := by omega
    simp -implicitDefEqProofs (disch := first | assumption | decide | omega | (simp only [wpD1] <;> omega) | (simp only [wpD2] <;> assumption) | solve_by_elim [HSub.refl, HSub.push, HSub.reserve] | fail) only [↓wpPre, wpPost, wpPoly, Int.reduceToNat, Int.reducePow, Int.reduceMul, Int.reduceAdd, Int.reduceSub, Int.reduceNeg, Nat.reduceAdd, Nat.reduceMul, Nat.reducePow, Int.reduceLT, Int.reduceLE, Int.reduceEq, Nat.reduceEqDiff, e0, ha.len, e42]
    refine wp_loopI (fun j t h' => ∃ i : Nat, h' = h1.push (.cells (ints ((List.range a.length).map (cpre a b k i))) true 0) ∧ t 0 = va ∧ t 7 = r ∧ t 8 = .slice h1.size 0 a.length (.known a.length) ∧ t 40 = .slice h1.size 0 a.length (.known a.length) ∧ t 41 = .int .i64 a.length ∧ t 42 = .int .i64 (k : Nat) ∧ t 9 = .int .i64 (k : Nat) ∧ t 45 = va ∧ t 46 = .int .i64 a.length ∧ t 47 = .int .i64 (i : Nat) ∧ i ≤ a.length ∧ j = a.length - i) (j0 := a.length)
      ⟨0, rfl, e0, e7, e8, e40, e41, e42, rfl, rfl, rfl, rfl, by omega, rfl⟩ ?_
    rintro j t h3 ⟨i, rfl, e0, e7, e8, e40, e41, e42, e9, e45, e46, e47, hi, hj⟩
    simp -implicitDefEqProofs (disch := first | assumption | decide | omega | (simp only [wpD1] <;> omega) | (simp only [wpD2] <;> assumption) | solve_by_elim [HSub.refl, HSub.push, HSub.reserve] | fail) only [↓wpPre, wpPost, wpPoly, Int.reduceToNat, Int.reducePow, Int.reduceMul, Int.reduceAdd, Int.reduceSub, Int.reduceNeg, Nat.reduceAdd, Nat.reduceMul, Nat.reducePow, Int.reduceLT, Int.reduceLE, Int.reduceEq, Nat.reduceEqDiff, e46, e47]
    refine Br.by (fun c2 => ?_) (fun c2 => ?_)
    · have hi' : i < a.length := by omega
      have hm : (i + k) % b.length < b.length := Nat.mod_lt _ (by omega)
      have b1 := absI_le (Int.le_trans (cs_abs a b k (by omega) i hi) (Int.mul_le_mul_of_nonneg_right (sumAbs_take_le a i) s4))
      have b4 : absI (a.getD i 0 * b.getD ((i + k) % b.length) 0) ≤ 1000000 * 1000000 := by
        rw [absI_mul]
        exact Int.mul_le_mul (small_abs sa hi') (small_abs sb hm) (absI_nonneg _) (by omega)
      have b5 := absI_le b4
      have g : ((List.range a.length).map (cpre a b k i)).getD k 0 = cs a b k i := by rw [range_get hk']; simp [cpre]
      have hNk := hN (cpre a b k i)
      have tg := twice_get (b := b) (i := i) (k := k) (by omega) (by omega)
      have tl : (b ++ b).length = b.length + b.length := List.length_append
      have tn : ((k : Int) + i).toNat = k + i := by omega
      generalize hq : (i + k) % b.length = q at hm b4 b5 tg
      simp -implicitDefEqProofs (disch := first | assumption | decide | omega | (simp only [wpD1] <;> omega) | (simp only [wpD2] <;> assumption) | solve_by_elim [HSub.refl, HSub.push, HSub.reserve] | fail) only [↓wpPre, wpPost, wpPoly, Int.reduceToNat, Int.reducePow, Int.reduceMul, Int.reduceAdd, Int.reduceSub, Int.reduceNeg, Nat.reduceAdd, Nat.reduceMul, Nat.reducePow, Int.reduceLT, Int.reduceLE, Int.reduceEq, Nat.reduceEqDiff, e0, e7, e8, e9, e40, e41, e42, e45, e46, e47, ha1.idx, hr.idx, ha1.loadC, hr.loadC, tn, tg, g]
      refine ⟨_, ⟨i + 1, ?_, by simp, by omega, rfl⟩, by omega⟩
      rw [range_set (g := cpre a b k (i + 1)) (by simp [cpre, cs, hq]) (fun n hn => by simp only [cpre, if_neg hn])]
    · have : i = a.length := by omega
      subst this
      have e : cpre a b k a.length = cpre a b (k + 1) 0 := by
        funext n
        simp only [cpre]
        by_cases h1 : n < k
        · rw [if_pos h1, if_pos (by omega)]
        · rw [if_neg h1]
          by_cases h2 : n = k
          · rw [if_pos h2, if_pos (by omega), h2]
          · rw [if_neg h2, if_neg (by omega)]; simp [cs]
      rw [e]
      simp -implicitDefEqProofs (disch := first | assumption | decide | omega | (simp only [wpD1] <;> omega) | (simp only [wpD2] <;> assumption) | solve_by_elim [HSub.refl, HSub.push, HSub.reserve] | fail) only [↓wpPre, wpPost, wpPoly, Int.reduceToNat, Int.reducePow, Int.reduceMul, Int.reduceAdd, Int.reduceSub, Int.reduceNeg, Nat.reduceAdd, Nat.reduceMul, Nat.reducePow, Int.reduceLT, Int.reduceLE, Int.reduceEq, Nat.reduceEqDiff, e0, e7, e8, e40, e41, e42]
      exact ⟨_, ⟨k + 1, rfl, by simp, by omega, rfl⟩, by omega⟩
  · have : k = a.length := by omega
    subst this
    simp -implicitDefEqProofs (disch := first | assumption | decide | omega | (simp only [wpD1] <;> omega) | (simp only [wpD2] <;> assumption) | solve_by_elim [HSub.refl, HSub.push, HSub.reserve] | fail) only [↓wpPre, wpPost, wpPoly, Int.reduceToNat, Int.reducePow, Int.reduceMul, Int.reduceAdd, Int.reduceSub, Int.reduceNeg, Nat.reduceAdd, Nat.reduceMul, Nat.reducePow, Int.reduceLT, Int.reduceLE, Int.reduceEq, Nat.reduceEqDiff, e8]
    have e : (List.range a.length).map (cpre a b a.length 0) = circ a b := by
      refine List.map_congr_left fun n hn => ?_
      rw [List.mem_range] at hn
      simp only [cpre, if_pos hn]
    rw [e]
    have cl := circ_length a b
    exact ⟨.slice h1.size 0 a.length (.known a.length), by simp only [pe, lstErr], hs0.push _, by rw [if_pos pe]; exact RI.known (get_push_eq rfl) ⟨by rw [cl], by omega⟩ (by omega), fun _ => ⟨hs0.push _, by omega, h1.size, hs0.size, by rw [cl], get_push_eq rfl⟩⟩
theorem CircP_spec (hC : Has C T25) {va vb : AV} {a b : List Int} {h : Heap} (ha : RI h va a) (hb : RI h vb b) :
    ACalls C 25 [va, vb] h (fun r h' => ∃ v', r = lstErr v' (circErr a b) ∧ HSub h h' ∧ RI h' v' (if circErr a b = 0 then circ a b else [])) :=
  (CircP_specF hC ha hb).mono fun _ _ ⟨v, q1, q2, q3, _⟩ => ⟨v, q1, q2, q3⟩
end
end Go.Ae

/- Spectra, in plain numbers: how often the circular sums occur. -/
set_option linter.unusedSimpArgs false
set_option linter.unusedVariables false
namespace Go.Ae
def stepR (acc : List (Int × Int)) (x : Int) : List (Int × Int) :=
  if 0 < acc.length ∧ (acc.getD (acc.length - 1) (0, 0)).1 = x then acc.set (acc.length - 1) (x, (acc.getD (acc.length - 1) (0, 0)).2 + 1) else acc ++ [(x, 1)]
def rleL (l : List Int) (k : Nat) : List (Int × Int) := (l.take k).foldl stepR []
theorem rleL_succ {l : List Int} {k : Nat} (h : k < l.length) : rleL l (k + 1) = stepR (rleL l k) (l.getD k 0) := by
  unfold rleL
  rw [take_succ_getD h, List.foldl_append]; rfl
theorem stepR_len (acc : List (Int × Int)) (x : Int) : (stepR acc x).length ≤ acc.length + 1 := by
  unfold stepR; split <;> simp
theorem rleL_len (l : List Int) : ∀ k, (rleL l k).length ≤ k
  | 0 => by simp [rleL]
  | k + 1 => by
    by_cases h : k < l.length
    · rw [rleL_succ h]
      have := stepR_len (rleL l k) (l.getD k 0)
      have := rleL_len l k
      omega
    · have e : rleL l (k + 1) = rleL l k := by unfold rleL; rw [List.take_of_length_le (by omega), List.take_of_length_le (by omega)]
      rw [e]
      have := rleL_len l k
      omega
theorem rleL_pos (l : List Int) : ∀ k, ∀ p ∈ rleL l k, 0 ≤ p.2 ∧ p.2 ≤ k
  | 0, p, hp => by simp [rleL] at hp
  | k + 1, p, hp => by
    by_cases h : k < l.length
    · rw [rleL_succ h] at hp
      have ih := rleL_pos l k
      unfold stepR at hp
      split at hp
      · rename_i c
        rcases List.mem_or_eq_of_mem_set hp with q | q
        · have := ih p q; omega
        · rw [q]
          have := ih _ (getP_mem (l := rleL l k) (k := (rleL l k).length - 1) (by omega))
          simp only; omega
      · rcases List.mem_append.1 hp with q | q
        · have := ih p q; omega
        · simp only [List.mem_singleton] at q; rw [q]; simp only; omega
    · have e : rleL l (k + 1) = rleL l k := by unfold rleL; rw [List.take_of_length_le (by omega), List.take_of_length_le (by omega)]
      rw [e] at hp
      have := rleL_pos l k p hp; omega
def cntL (l : List Int) (v : Int) : Nat → Int
  | 0 => 0
  | k + 1 => cntL l v k + if l.getD k 0 = v then 1 else 0
def specK (l : List Int) (n : Nat) : Nat → List (Int × Int)
  | 0 => []
  | k + 1 => specK l n k ++ if 0 < cntL l ((k : Int) - n) l.length then [((k : Int) - n, cntL l ((k : Int) - n) l.length)] else []
end Go.Ae

/- Counting behind sorting is counting by values. -/
set_option linter.unusedSimpArgs false
set_option linter.unusedVariables false
namespace Go.Ae
def repL (l : List Int) (n : Nat) : Nat → List Int
  | 0 => []
  | k + 1 => repL l n k ++ List.replicate (l.count ((k : Int) - n)) ((k : Int) - n)
theorem repL_lt (l : List Int) (n : Nat) : ∀ k, ∀ x ∈ repL l n k, -(n : Int) ≤ x ∧ x < (k : Int) - n
  | 0, x, hx => by simp [repL] at hx
  | k + 1, x, hx => by
    rw [repL] at hx
    rcases List.mem_append.1 hx with q | q
    · have := repL_lt l n k x q; omega
    · have := (List.mem_replicate.1 q).2; omega
theorem repL_sorted (l : List Int) (n : Nat) : ∀ k, (repL l n k).Pairwise (fun a b => a ≤ b)
  | 0 => List.Pairwise.nil
  | k + 1 => by
    rw [repL, List.pairwise_append]
    refine ⟨repL_sorted l n k, ?_, ?_⟩
    · exact List.pairwise_replicate.2 (.inr (Int.le_refl _))
    · intro a ha b hb
      have := repL_lt l n k a ha
      have := (List.mem_replicate.1 hb).2
      omega
theorem repL_count (l : List Int) (n : Nat) (x : Int) : ∀ k, (repL l n k).count x = if -(n : Int) ≤ x ∧ x < (k : Int) - n then l.count x else 0
  | 0 => by rw [if_neg (by omega)]; simp [repL]
  | k + 1 => by
    rw [repL, List.count_append, repL_count l n x k, List.count_replicate]
    by_cases h1 : x = (k : Int) - n
    · have a1 : ¬(-(n : Int) ≤ x ∧ x < (k : Int) - n) := by omega
      have a2 : -(n : Int) ≤ x ∧ x < ((k + 1 : Nat) : Int) - n := by omega
      rw [if_neg a1, if_pos a2, ← h1]
      simp
    · have a3 : ((k : Int) - n == x) = false := by simpa using fun h => h1 h.symm
      rw [a3]
      by_cases h2 : -(n : Int) ≤ x ∧ x < (k : Int) - n
      · have a4 : -(n : Int) ≤ x ∧ x < ((k + 1 : Nat) : Int) - n := by omega
        rw [if_pos h2, if_pos a4]; simp
      · have a4 : ¬(-(n : Int) ≤ x ∧ x < ((k + 1 : Nat) : Int) - n) := by omega
        rw [if_neg h2, if_neg a4]; simp
theorem sort_rep {l : List Int} {n : Nat} (h : ∀ x ∈ l, -(n : Int) ≤ x ∧ x ≤ n) : sortL l = repL l n (2 * n + 1) := by
  have p1 : (sortL l).Perm l := List.mergeSort_perm _ _
  have p2 : (repL l n (2 * n + 1)).Perm l := by
    rw [List.perm_iff_count]
    intro a
    rw [repL_count]
    split
    · rfl
    · rename_i c
      refine (List.count_eq_zero_of_not_mem fun hm => c ?_).symm
      have := h a hm; omega
  have s1 : (sortL l).Pairwise (fun a b => a ≤ b) := by
    have := List.pairwise_mergeSort (le := fun x y : Int => decide (x ≤ y)) (by intro a b c; simp; omega) (by intro a b; simp; omega) l
    exact this.imp (by intro a b h; simpa using h)
  exact List.Perm.eq_of_pairwise (le := fun a b : Int => a ≤ b) (fun a b _ _ h1 h2 => Int.le_antisymm h1 h2) s1 (repL_sorted l n _) (p1.trans p2.symm)
theorem cntL_count (l : List Int) (v : Int) : ∀ k, k ≤ l.length → cntL l v k = ((l.take k).count v : Nat)
  | 0, _ => by simp [cntL]
  | k + 1, h => by
    rw [cntL, cntL_count l v k (by omega), take_succ_getD (by omega), List.count_append, List.count_singleton]
    by_cases e : l.getD k 0 = v
    · rw [if_pos e, if_pos (by simpa using e)]; omega
    · rw [if_neg e, if_neg (by simpa using e)]; omega
theorem cntL_all (l : List Int) (v : Int) : cntL l v l.length = (l.count v : Nat) := by rw [cntL_count l v _ (Nat.le_refl _), List.take_length]
theorem fold_rep {v : Int} : ∀ (c : Nat) {acc : List (Int × Int)}, (0 < acc.length → (acc.getD (acc.length - 1) (0, 0)).1 ≠ v) → (List.replicate c v).foldl stepR acc = if c = 0 then acc else acc ++ [(v, (c : Int))]
  | 0, acc, _ => rfl
  | c + 1, acc, h => by
    rw [List.replicate_succ', List.foldl_append, fold_rep c h]
    simp only [List.foldl_cons, List.foldl_nil]
    by_cases e : c = 0
    · subst e
      rw [if_pos rfl, stepR, if_neg (fun q => h q.1 q.2)]; rfl
    · rw [if_neg e, if_neg (by omega), stepR]
      have h1 : (acc ++ [(v, (c : Int))]).length - 1 = acc.length := by simp
      have h2 : (acc ++ [(v, (c : Int))]).getD acc.length (0, 0) = (v, (c : Int)) := by simp [List.getD_eq_getElem?_getD]
      rw [h1, h2, if_pos ⟨by simp, rfl⟩, List.set_append_right _ _ (Nat.le_refl _), Nat.sub_self]
      simp
theorem specK_lt (l : List Int) (n : Nat) : ∀ k, ∀ p ∈ specK l n k, p.1 < (k : Int) - n
  | 0, p, hp => by simp [specK] at hp
  | k + 1, p, hp => by
    rw [specK] at hp
    rcases List.mem_append.1 hp with q | q
    · have := specK_lt l n k p q; omega
    · split at q
      · simp only [List.mem_singleton] at q; rw [q]; simp only; omega
      · simp at q
theorem fold_repL (l : List Int) (n : Nat) : ∀ k, (repL l n k).foldl stepR [] = specK l n k
  | 0 => rfl
  | k + 1 => by
    rw [repL, List.foldl_append, fold_repL l n k, fold_rep _ (fun hl => ?_), specK, cntL_all]
    · by_cases e : l.count ((k : Int) - n) = 0
      · rw [if_pos e, if_neg (by omega), List.append_nil]
      · rw [if_neg e, if_pos (by omega)]
    · have := specK_lt l n k _ (getP_mem (l := specK l n k) (k := (specK l n k).length - 1) (by omega))
      omega
theorem rle_spec {l : List Int} {n : Nat} (h : ∀ x ∈ l, -(n : Int) ≤ x ∧ x ≤ n) : rleL (sortL l) l.length = specK l n (2 * n + 1) := by
  have e : (sortL l).length = l.length := List.length_mergeSort l
  unfold rleL
  rw [← e, List.take_length, sort_rep h, fold_repL]
end Go.Ae

/- Parts of placements, of the program and of the reference. -/
set_option linter.unusedSimpArgs false
set_option linter.unusedVariables false
namespace Go.Ae
section
variable {C : Ctx}
theorem chip_spec (hC : Has C T154) {w : AV} {l : List Int} {o i : Int} {h : Heap} (hl : RI h w l) (hi : 0 ≤ i) (h1 : 1 ≤ l.length) (hi2 : i ≤ 1000000000) : ACalls C 154 [.agg [w, .int .i64 o], .int .i64 i] h (fun r h' => r = .int .i64 (l.getD (min i ((l.length : Int) - 1)).toNat 0) ∧ h' = h) := by
  refine ACalls.gc0 (P := fun r h' => r = .int .i64 (l.getD (min i ((l.length : Int) - 1)).toNat 0) ∧ HSub h h') ?_ (fun r h' hp => ⟨by rw [hp.1]; trivial, hp.2, hp.1, rfl⟩)
  have hlt := hl.lt
  have c0 := hl.cells
  have o0 := hl.one
  have ld := (hl.mono (HSub.push1 h (.cells [w, .int .i64 o] true 0))).load (k := (min i ((l.length : Int) - 1)).toNat) (by omega)
  (refine calls_intro (hC.body (by decide) tab154) (Nat.le_of_ble_eq_true rfl) ?_); (show wp C _ none B154.code _ _); (simp only [B154]); simp -implicitDefEqProofs (disch := first | assumption | decide | omega | (simp only [wpD1] <;> omega) | (simp only [wpD2] <;> assumption) | solve_by_elim [HSub.refl, HSub.push, HSub.reserve] | fail) only [↓wpPre, wpPost, wpPoly, Int.reduceToNat, Int.reducePow, Int.reduceMul, Int.reduceAdd, Int.reduceSub, Int.reduceNeg, Nat.reduceAdd, Nat.reduceMul, Nat.reducePow, Int.reduceLT, Int.reduceLE, Int.reduceEq, Nat.reduceEqDiff, hl.len, hl.idx, ld]
  exact HSub.push1 _ _
def tupPP (x y : Int) : AV := .tuple [.int .i64 x, .int .i64 y]
set_option maxHeartbeats 1000000 in
theorem parts_spec (hC : Has C T180) {w1 w2 : AV} {a b : List Int} {o1 o2 s : Int} {m : Nat} {h : Heap} (ha : RI h w1 a) (hb : RI h w2 b) (oa : one1 a) (ob : one1 b) (hl : a.length = b.length ∧ 1 ≤ a.length ∧ a.length ≤ 10000) (hm : m ≤ a.length) (hs : -1 ≤ s ∧ s ≤ 1) (hms : (m : Int) ≤ a.length + s) :
    ACalls C 180 [.agg [w1, .int .i64 o1], .agg [w2, .int .i64 o2], .int .i64 (m : Nat), .int .i64 s] h (fun r h' => r = tupPP (pf a b m s m) (ps a b m (a.length - m)) ∧ h' = h) := by
  refine ACalls.gc0 (P := fun r h' => r = tupPP (pf a b m s m) (ps a b m (a.length - m)) ∧ HSub h h') ?_ (fun r h' hp => ⟨by rw [hp.1]; exact free_tuple (by simp [AV.free, AV.bel]), hp.2, hp.1, rfl⟩)
  have hlt := ha.lt
  have c0 := ha.cells
  have o0 := ha.one
  have c1 := hb.cells
  have o1' := hb.one
  have chp := fun (h' : Heap) (q : HSub h h') (i : Int) (x : 0 ≤ i) (y : i ≤ 1000000000) => chip_spec (hC.sub (T' := T154) (by decide)) (o := o2) (hb.mono q) x (by omega) y
  (refine calls_intro (hC.body (by decide) tab180) (Nat.le_of_ble_eq_true rfl) ?_); (show wp C _ none B180.code _ _); (simp only [B180]); simp -implicitDefEqProofs (disch := first | assumption | decide | omega | (simp only [wpD1] <;> omega) | (simp only [wpD2] <;> assumption) | solve_by_elim [HSub.refl, HSub.push, HSub.reserve] | fail) only [↓wpPre, wpPost, wpPoly, Int.reduceToNat, Int.reducePow, Int.reduceMul, Int.reduceAdd, Int.reduceSub, Int.reduceNeg, Nat.reduceAdd, Nat.reduceMul, Nat.reducePow, Int.reduceLT, Int.reduceLE, Int.reduceEq, Nat.reduceEqDiff, ha.len]
  refine wp_loopI (fun j t h' => h' = (h.push (.cells [w1, .int .i64 o1] true 0)).push (.cells [w2, .int .i64 o2] true 0) ∧ ∃ k : Nat, t 2 = .int .i64 (m : Nat) ∧ t 3 = .int .i64 s ∧ t 5 = .ptr (h.size + 1) 0 ∧ t 8 = .int .i64 (pf a b m s (min k m)) ∧ t 9 = .int .i64 (ps a b m (k - m)) ∧ t 10 = .int .i64 (a.length : Nat) ∧ t 17 = w1 ∧ t 18 = .int .i64 (a.length : Nat) ∧ t 19 = .int .i64 (k : Nat) ∧ k ≤ a.length ∧ j = a.length - k) (j0 := a.length)
    ⟨rfl, 0, rfl, rfl, rfl, by rw [Nat.zero_min]; rfl, by rw [Nat.zero_sub]; rfl, rfl, rfl, rfl, rfl, by omega, rfl⟩ ?_
  rintro j t h' ⟨rfl, k, e2, e3, e5, e8, e9, e10, e17, e18, e19, hk, hj⟩
  simp -implicitDefEqProofs (disch := first | assumption | decide | omega | (simp only [wpD1] <;> omega) | (simp only [wpD2] <;> assumption) | solve_by_elim [HSub.refl, HSub.push, HSub.reserve] | fail) only [↓wpPre, wpPost, wpPoly, Int.reduceToNat, Int.reducePow, Int.reduceMul, Int.reduceAdd, Int.reduceSub, Int.reduceNeg, Nat.reduceAdd, Nat.reduceMul, Nat.reducePow, Int.reduceLT, Int.reduceLE, Int.reduceEq, Nat.reduceEqDiff, e18, e19]
  refine Br.by (fun c => ?_) (fun c => ?_)
  · have hk' : k < a.length := by omega
    have ld := (ha.mono ((HSub.push1 h (.cells [w1, .int .i64 o1] true 0)).push (.cells [w2, .int .i64 o2] true 0))).load hk'
    have p1 := pf_le oa ob (m := m) (s := s) (min k m)
    have p2 := ps_le oa ob (m := m) (k - m)
    by_cases c2 : k < m
    · rw [Nat.min_eq_left (by omega)] at e8 p1
      have q := mul_one1 (oa.get k) (ob.get (min ((k : Int) - m + a.length + s) ((a.length : Int) - 1)).toNat)
      have nx : pf a b m s (k + 1) = pf a b m s k + a.getD k 0 * b.getD (min ((k : Int) - m + a.length + s) ((a.length : Int) - 1)).toNat 0 := rfl
      have ny : k + 1 - m = k - m := by omega
      have cs := chp _ ((HSub.push1 h (.cells [w1, .int .i64 o1] true 0)).push (.cells [w2, .int .i64 o2] true 0)) ((k : Int) - m + a.length + s) (by omega) (by omega)
      rw [← hl.1] at cs
      simp -implicitDefEqProofs (disch := first | assumption | decide | omega | (simp only [wpD1] <;> omega) | (simp only [wpD2] <;> assumption) | solve_by_elim [HSub.refl, HSub.push, HSub.reserve] | fail) only [↓wpPre, wpPost, wpPoly, Int.reduceToNat, Int.reducePow, Int.reduceMul, Int.reduceAdd, Int.reduceSub, Int.reduceNeg, Nat.reduceAdd, Nat.reduceMul, Nat.reducePow, Int.reduceLT, Int.reduceLE, Int.reduceEq, Nat.reduceEqDiff, e2, e3, e5, e8, e9, e10, e17, e19, ha.idx, ld]
      refine ACallsK.eq cs ?_
      simp -implicitDefEqProofs (disch := first | assumption | decide | omega | (simp only [wpD1] <;> omega) | (simp only [wpD2] <;> assumption) | solve_by_elim [HSub.refl, HSub.push, HSub.reserve] | fail) only [↓wpPre, wpPost, wpPoly, Int.reduceToNat, Int.reducePow, Int.reduceMul, Int.reduceAdd, Int.reduceSub, Int.reduceNeg, Nat.reduceAdd, Nat.reduceMul, Nat.reducePow, Int.reduceLT, Int.reduceLE, Int.reduceEq, Nat.reduceEqDiff, ← nx, e8, e9, e2, e3, e5, e10, e17, e18, e19]
      exact ⟨_, ⟨k + 1, by rw [Nat.min_eq_left (by omega)], by rw [ny], by simp, by omega, rfl⟩, by omega⟩
    · have q := mul_one1 (oa.get k) (ob.get (k - m))
      have nx : min (k + 1) m = min k m := by omega
      have ny : ps a b m (k + 1 - m) = ps a b m (k - m) + a.getD k 0 * b.getD (k - m) 0 := by
        rw [show k + 1 - m = (k - m) + 1 by omega, ps, show m + (k - m) = k by omega]
      have cs := chp _ ((HSub.push1 h (.cells [w1, .int .i64 o1] true 0)).push (.cells [w2, .int .i64 o2] true 0)) ((k : Int) - m) (by omega) (by omega)
      rw [show (min ((k : Int) - m) ((b.length : Int) - 1)).toNat = k - m by omega] at cs
      simp -implicitDefEqProofs (disch := first | assumption | decide | omega | (simp only [wpD1] <;> omega) | (simp only [wpD2] <;> assumption) | solve_by_elim [HSub.refl, HSub.push, HSub.reserve] | fail) only [↓wpPre, wpPost, wpPoly, Int.reduceToNat, Int.reducePow, Int.reduceMul, Int.reduceAdd, Int.reduceSub, Int.reduceNeg, Nat.reduceAdd, Nat.reduceMul, Nat.reducePow, Int.reduceLT, Int.reduceLE, Int.reduceEq, Nat.reduceEqDiff, e2, e3, e5, e8, e9, e10, e17, e19, ha.idx, ld]
      refine ACallsK.eq cs ?_
      simp -implicitDefEqProofs (disch := first | assumption | decide | omega | (simp only [wpD1] <;> omega) | (simp only [wpD2] <;> assumption) | solve_by_elim [HSub.refl, HSub.push, HSub.reserve] | fail) only [↓wpPre, wpPost, wpPoly, Int.reduceToNat, Int.reducePow, Int.reduceMul, Int.reduceAdd, Int.reduceSub, Int.reduceNeg, Nat.reduceAdd, Nat.reduceMul, Nat.reducePow, Int.reduceLT, Int.reduceLE, Int.reduceEq, Nat.reduceEqDiff, ← ny, e8, e9, e2, e3, e5, e10, e17, e18, e19]
      exact ⟨_, ⟨k + 1, by rw [nx], rfl, by simp, by omega, rfl⟩, by omega⟩
  · have ek : k = a.length := by omega
    subst ek
    rw [Nat.min_eq_right hm] at e8
    simp -implicitDefEqProofs (disch := first | assumption | decide | omega | (simp only [wpD1] <;> omega) | (simp only [wpD2] <;> assumption) | solve_by_elim [HSub.refl, HSub.push, HSub.reserve] | fail) only [↓wpPre, wpPost, wpPoly, Int.reduceToNat, Int.reducePow, Int.reduceMul, Int.reduceAdd, Int.reduceSub, Int.reduceNeg, Nat.reduceAdd, Nat.reduceMul, Nat.reducePow, Int.reduceLT, Int.reduceLE, Int.reduceEq, Nat.reduceEqDiff, e8, e9]
    exact ⟨rfl, (HSub.push1 _ _).push _⟩
set_option maxHeartbeats 1000000 in
theorem partsR_spec (hC : Has C T182) {w1 w2 : AV} {a b : List Int} {s : Int} {m : Nat} {h : Heap} (ha : RI h w1 a) (hb : RI h w2 b) (oa : one1 a) (ob : one1 b) (hl : a.length = b.length ∧ 1 ≤ a.length ∧ a.length ≤ 10000) (hm : m ≤ a.length) (hs : -1 ≤ s ∧ s ≤ 1) (hms : (m : Int) ≤ a.length + s) :
    ACalls C 182 [w1, w2, .int .i64 (m : Nat), .int .i64 s] h (fun r h' => r = tupPP (pf a b m s m) (ps a b m (a.length - m)) ∧ h' = h) := by
  have hlt := ha.lt
  (refine calls_intro (hC.body (by decide) tab182) (Nat.le_of_ble_eq_true rfl) ?_); (show wp C _ none B182.code _ _); (simp only [B182]); simp -implicitDefEqProofs (disch := first | assumption | decide | omega | (simp only [wpD1] <;> omega) | (simp only [wpD2] <;> assumption) | solve_by_elim [HSub.refl, HSub.push, HSub.reserve] | fail) only [↓wpPre, wpPost, wpPoly, Int.reduceToNat, Int.reducePow, Int.reduceMul, Int.reduceAdd, Int.reduceSub, Int.reduceNeg, Nat.reduceAdd, Nat.reduceMul, Nat.reducePow, Int.reduceLT, Int.reduceLE, Int.reduceEq, Nat.reduceEqDiff]
  refine wp_loopI (fun j t h' => h' = h ∧ ∃ k : Nat, t 0 = w1 ∧ t 1 = w2 ∧ t 2 = .int .i64 (m : Nat) ∧ t 3 = .int .i64 s ∧ t 8 = .int .i64 (pf a b m s k) ∧ t 9 = .int .i64 0 ∧ t 10 = .int .i64 (k : Nat) ∧ k ≤ m ∧ j = m - k) (j0 := m)
    ⟨rfl, 0, rfl, rfl, rfl, rfl, rfl, rfl, rfl, by omega, rfl⟩ ?_
  rintro j t h' ⟨rfl, k, e0, e1, e2, e3, e8, e9, e10, hk, hj⟩
  simp -implicitDefEqProofs (disch := first | assumption | decide | omega | (simp only [wpD1] <;> omega) | (simp only [wpD2] <;> assumption) | solve_by_elim [HSub.refl, HSub.push, HSub.reserve] | fail) only [↓wpPre, wpPost, wpPoly, Int.reduceToNat, Int.reducePow, Int.reduceMul, Int.reduceAdd, Int.reduceSub, Int.reduceNeg, Nat.reduceAdd, Nat.reduceMul, Nat.reducePow, Int.reduceLT, Int.reduceLE, Int.reduceEq, Nat.reduceEqDiff, e2, e10]
  refine Br.by (fun c => ?_) (fun c => ?_)
  · have p1 := pf_le oa ob (m := m) (s := s) k
    have q := mul_one1 (oa.get k) (ob.get (min ((k : Int) - m + a.length + s) ((a.length : Int) - 1)).toNat)
    have nx : pf a b m s (k + 1) = pf a b m s k + a.getD k 0 * b.getD (min ((k : Int) - m + a.length + s) ((a.length : Int) - 1)).toNat 0 := rfl
    have ld := ha.load (k := k) (by omega)
    have lb := hb.load (k := (min ((k : Int) - m + a.length + s) ((a.length : Int) - 1)).toNat) (by omega)
    simp -implicitDefEqProofs (disch := first | assumption | decide | omega | (simp only [wpD1] <;> omega) | (simp only [wpD2] <;> assumption) | solve_by_elim [HSub.refl, HSub.push, HSub.reserve] | fail) only [↓wpPre, wpPost, wpPoly, Int.reduceToNat, Int.reducePow, Int.reduceMul, Int.reduceAdd, Int.reduceSub, Int.reduceNeg, Nat.reduceAdd, Nat.reduceMul, Nat.reducePow, Int.reduceLT, Int.reduceLE, Int.reduceEq, Nat.reduceEqDiff, e0, e1, e2, e3, e8, e9, e10, ha.idx, ha.len, hb.idx, ld, lb, ← nx]
    exact ⟨_, ⟨k + 1, rfl, by simp, by omega, rfl⟩, by omega⟩
  · have ek : k = m := by omega
    subst ek
    simp -implicitDefEqProofs (disch := first | assumption | decide | omega | (simp only [wpD1] <;> omega) | (simp only [wpD2] <;> assumption) | solve_by_elim [HSub.refl, HSub.push, HSub.reserve] | fail) only [↓wpPre, wpPost, wpPoly, Int.reduceToNat, Int.reducePow, Int.reduceMul, Int.reduceAdd, Int.reduceSub, Int.reduceNeg, Nat.reduceAdd, Nat.reduceMul, Nat.reducePow, Int.reduceLT, Int.reduceLE, Int.reduceEq, Nat.reduceEqDiff, e2]
    refine wp_loopI (fun j t h2 => h2 = h' ∧ ∃ i : Nat, t 0 = w1 ∧ t 1 = w2 ∧ t 2 = .int .i64 (k : Nat) ∧ t 8 = .int .i64 (pf a b k s k) ∧ t 9 = .int .i64 (ps a b k i) ∧ t 11 = .int .i64 (k + i : Nat) ∧ k + i ≤ a.length ∧ j = a.length - (k + i)) (j0 := a.length - k)
      ⟨rfl, 0, e0, e1, e2, e8, e9, rfl, by omega, rfl⟩ ?_
    rintro j t h2 ⟨rfl, i, e0, e1, e2, e8, e9, e11, hi, hj⟩
    simp -implicitDefEqProofs (disch := first | assumption | decide | omega | (simp only [wpD1] <;> omega) | (simp only [wpD2] <;> assumption) | solve_by_elim [HSub.refl, HSub.push, HSub.reserve] | fail) only [↓wpPre, wpPost, wpPoly, Int.reduceToNat, Int.reducePow, Int.reduceMul, Int.reduceAdd, Int.reduceSub, Int.reduceNeg, Nat.reduceAdd, Nat.reduceMul, Nat.reducePow, Int.reduceLT, Int.reduceLE, Int.reduceEq, Nat.reduceEqDiff, e0, e11, ha.len]
    refine Br.by (fun c => ?_) (fun c => ?_)
    · have p1 := ps_le oa ob (m := k) i
      have q := mul_one1 (oa.get (k + i)) (ob.get i)
      have nx : ps a b k (i + 1) = ps a b k i + a.getD (k + i) 0 * b.getD i 0 := rfl
      have ld := ha.load (k := k + i) (by omega)
      have lb := hb.load (k := i) (by omega)
      have ei : ((k + i : Nat) : Int) - k = (i : Nat) := by omega
      simp -implicitDefEqProofs (disch := first | assumption | decide | omega | (simp only [wpD1] <;> omega) | (simp only [wpD2] <;> assumption) | solve_by_elim [HSub.refl, HSub.push, HSub.reserve] | fail) only [↓wpPre, wpPost, wpPoly, Int.reduceToNat, Int.reducePow, Int.reduceMul, Int.reduceAdd, Int.reduceSub, Int.reduceNeg, Nat.reduceAdd, Nat.reduceMul, Nat.reducePow, Int.reduceLT, Int.reduceLE, Int.reduceEq, Nat.reduceEqDiff, e0, e1, e2, e8, e9, e11, ha.idx, hb.idx, ld, lb, ei, ← nx]
      exact ⟨_, ⟨i + 1, rfl, by simp; omega, by omega, rfl⟩, by omega⟩
    · have ek : a.length - k = i := by omega
      rw [ek]
      simp -implicitDefEqProofs (disch := first | assumption | decide | omega | (simp only [wpD1] <;> omega) | (simp only [wpD2] <;> assumption) | solve_by_elim [HSub.refl, HSub.push, HSub.reserve] | fail) only [↓wpPre, wpPost, wpPoly, Int.reduceToNat, Int.reducePow, Int.reduceMul, Int.reduceAdd, Int.reduceSub, Int.reduceNeg, Nat.reduceAdd, Nat.reduceMul, Nat.reducePow, Int.reduceLT, Int.reduceLE, Int.reduceEq, Nat.reduceEqDiff, e8, e9]
      rfl
end
end Go.Ae

/- The greatest sum over placements, of the program and of the reference. -/
set_option linter.unusedSimpArgs false
set_option linter.unusedVariables false
namespace Go.Ae
theorem cnt_in {n mg k : Nat} {s : Int} (hs : -1 ≤ s ∧ s ≤ 1) (hk : k < cntM n mg s) : mg + k ≤ n ∧ ((mg + k : Nat) : Int) ≤ n + s := by
  unfold cntM lastM at hk
  split at hk <;> omega
theorem cnt_le {n mg : Nat} {s : Int} (hs : -1 ≤ s ∧ s ≤ 1) (k : Nat) : k < cntM n mg s ↔ ((mg : Int) + k ≤ lastM n mg s) := by
  unfold cntM
  omega
def rowG (a b : List Int) (mg : Nat) : Nat → Int
  | 0 => 0
  | si + 1 => gM a b ((si : Int) - 1) mg (cntM a.length mg ((si : Int) - 1)) (rowG a b mg si)
theorem rowG_le {a b : List Int} (oa : one1 a) (ob : one1 b) (mg : Nat) : ∀ si, si ≤ 3 → 0 ≤ rowG a b mg si ∧ rowG a b mg si ≤ a.length
  | 0, _ => by simp [rowG]
  | si + 1, h => by
    have ih := rowG_le oa ob mg si (by omega)
    by_cases c : cntM a.length mg ((si : Int) - 1) = 0
    · rw [rowG, c]; exact ih
    · have := cnt_in (n := a.length) (mg := mg) (s := (si : Int) - 1) (k := cntM a.length mg ((si : Int) - 1) - 1) (by omega) (by omega)
      exact gM_le oa ob _ _ (by omega) ih
section
variable {C : Ctx}
theorem plac_iter (hC : Has C T201) {l b1 b2 n mg : Nat} {h : Heap} (hn : n ≤ 10000 ∧ mg ≤ 10000) (J : Nat → Nat → Heap → Prop) (D : Heap → Prop) (h0 : J 0 0 h)
    (hb : ∀ si k h', J si k h' → h'.get b1 = some (.cells [.int .i64 (n : Nat)] true 0) ∧ h'.get b2 = some (.cells [.int .i64 (mg : Nat)] true 0))
    (hy : ∀ (si k : Nat) (h' : Heap), si < 3 → k < cntM n mg ((si : Int) - 1) → J si k h' → AYield C l [.int .i64 (mg + k : Nat), .int .i64 ((si : Int) - 1)] h' (fun r h'' => (r = .bool true ∧ J si (k + 1) h'') ∨ (r = .bool false ∧ D h'')))
    (hx : ∀ (si : Nat) (h' : Heap), si < 3 → J si (cntM n mg ((si : Int) - 1)) h' → J (si + 1) 0 h') (hd : ∀ h', J 3 0 h' → D h') :
    ACalls C 201 [.yield l, .ptr b1 0, .ptr b2 0] h (fun _ h' => D h') := by
  (refine calls_intro (hC.body (by decide) tab201) (Nat.le_of_ble_eq_true rfl) ?_); (show wp C _ none B201.code _ _); (simp only [B201]); simp -implicitDefEqProofs (disch := first | assumption | decide | omega | (simp only [wpD1] <;> omega) | (simp only [wpD2] <;> assumption) | solve_by_elim [HSub.refl, HSub.push, HSub.reserve] | fail) only [↓wpPre, wpPost, wpPoly, Int.reduceToNat, Int.reducePow, Int.reduceMul, Int.reduceAdd, Int.reduceSub, Int.reduceNeg, Nat.reduceAdd, Nat.reduceMul, Nat.reducePow, Int.reduceLT, Int.reduceLE, Int.reduceEq, Nat.reduceEqDiff]
  refine wp_loopI (fun j t h' => ∃ si : Nat, J si 0 h' ∧ t 0 = .yield l ∧ t 1 = .ptr b1 0 ∧ t 2 = .ptr b2 0 ∧ t 4 = .int .i64 ((si : Int) - 1) ∧ si ≤ 3 ∧ j = 3 - si) (j0 := 3) ⟨0, h0, rfl, rfl, rfl, rfl, by omega, rfl⟩ ?_
  rintro j t h' ⟨si, hJ, e0, e1, e2, e4, hsi, hj⟩
  obtain ⟨g1, g2⟩ := hb _ _ _ hJ
  simp -implicitDefEqProofs (disch := first | assumption | decide | omega | (simp only [wpD1] <;> omega) | (simp only [wpD2] <;> assumption) | solve_by_elim [HSub.refl, HSub.push, HSub.reserve] | fail) only [↓wpPre, wpPost, wpPoly, Int.reduceToNat, Int.reducePow, Int.reduceMul, Int.reduceAdd, Int.reduceSub, Int.reduceNeg, Nat.reduceAdd, Nat.reduceMul, Nat.reducePow, Int.reduceLT, Int.reduceLE, Int.reduceEq, Nat.reduceEqDiff, e4]
  refine Br.by (fun c => ?_) (fun c => ?_)
  · have hsi' : si < 3 := by omega
    have hls : ∃ L : Int, L = lastM n mg ((si : Int) - 1) ∧ -10001 ≤ L ∧ L ≤ 10001 := ⟨_, rfl, by unfold lastM; split <;> omega, by unfold lastM; split <;> omega⟩
    obtain ⟨L, hL, hL1⟩ := hls
    by_cases cm : 0 < (mg : Int)
    · have eL : L = n + ((si : Int) - 1) - mg := by rw [hL]; unfold lastM; rw [if_pos cm]
      simp -implicitDefEqProofs (disch := first | assumption | decide | omega | (simp only [wpD1] <;> omega) | (simp only [wpD2] <;> assumption) | solve_by_elim [HSub.refl, HSub.push, HSub.reserve] | fail) only [↓wpPre, wpPost, wpPoly, Int.reduceToNat, Int.reducePow, Int.reduceMul, Int.reduceAdd, Int.reduceSub, Int.reduceNeg, Nat.reduceAdd, Nat.reduceMul, Nat.reducePow, Int.reduceLT, Int.reduceLE, Int.reduceEq, Nat.reduceEqDiff, e1, e2, e4, g1, g2]
      rw [← eL]
      refine wp_loopI (fun j t h' => ∃ k : Nat, J si k h' ∧ t 0 = .yield l ∧ t 1 = .ptr b1 0 ∧ t 2 = .ptr b2 0 ∧ t 4 = .int .i64 ((si : Int) - 1) ∧ t 5 = .int .i64 L ∧ t 6 = .int .i64 (mg + k : Nat) ∧ k ≤ cntM n mg ((si : Int) - 1) ∧ j = cntM n mg ((si : Int) - 1) - k) (j0 := cntM n mg ((si : Int) - 1))
        ⟨0, hJ, e0, e1, e2, e4, rfl, rfl, by omega, rfl⟩ ?_
      rintro j t h'' ⟨k, hJ, e0, e1, e2, e4, e5, e6, hk, hj'⟩
      simp -implicitDefEqProofs (disch := first | assumption | decide | omega | (simp only [wpD1] <;> omega) | (simp only [wpD2] <;> assumption) | solve_by_elim [HSub.refl, HSub.push, HSub.reserve] | fail) only [↓wpPre, wpPost, wpPoly, Int.reduceToNat, Int.reducePow, Int.reduceMul, Int.reduceAdd, Int.reduceSub, Int.reduceNeg, Nat.reduceAdd, Nat.reduceMul, Nat.reducePow, Int.reduceLT, Int.reduceLE, Int.reduceEq, Nat.reduceEqDiff, e5, e6]
      refine Br.by (fun c2 => ?_) (fun c2 => ?_)
      · have hk' : k < cntM n mg ((si : Int) - 1) := (cnt_le (by omega) k).2 (by omega)
        have := cnt_in (by omega) hk'
        simp -implicitDefEqProofs (disch := first | assumption | decide | omega | (simp only [wpD1] <;> omega) | (simp only [wpD2] <;> assumption) | solve_by_elim [HSub.refl, HSub.push, HSub.reserve] | fail) only [↓wpPre, wpPost, wpPoly, Int.reduceToNat, Int.reducePow, Int.reduceMul, Int.reduceAdd, Int.reduceSub, Int.reduceNeg, Nat.reduceAdd, Nat.reduceMul, Nat.reducePow, Int.reduceLT, Int.reduceLE, Int.reduceEq, Nat.reduceEqDiff, e0, e4, e6]
        refine AYieldK.of (hy si k h'' hsi' hk' hJ) ?_
        rintro r h3 (⟨rfl, hJ'⟩ | ⟨rfl, hD⟩)
        · simp -implicitDefEqProofs (disch := first | assumption | decide | omega | (simp only [wpD1] <;> omega) | (simp only [wpD2] <;> assumption) | solve_by_elim [HSub.refl, HSub.push, HSub.reserve] | fail) only [↓wpPre, wpPost, wpPoly, Int.reduceToNat, Int.reducePow, Int.reduceMul, Int.reduceAdd, Int.reduceSub, Int.reduceNeg, Nat.reduceAdd, Nat.reduceMul, Nat.reducePow, Int.reduceLT, Int.reduceLE, Int.reduceEq, Nat.reduceEqDiff, e0, e1, e2, e4, e5, e6]
          exact ⟨_, ⟨k + 1, hJ', by simp; omega, by omega, rfl⟩, by omega⟩
        · simp -implicitDefEqProofs (disch := first | assumption | decide | omega | (simp only [wpD1] <;> omega) | (simp only [wpD2] <;> assumption) | solve_by_elim [HSub.refl, HSub.push, HSub.reserve] | fail) only [↓wpPre, wpPost, wpPoly, Int.reduceToNat, Int.reducePow, Int.reduceMul, Int.reduceAdd, Int.reduceSub, Int.reduceNeg, Nat.reduceAdd, Nat.reduceMul, Nat.reducePow, Int.reduceLT, Int.reduceLE, Int.reduceEq, Nat.reduceEqDiff]
          exact hD
      · have ek : k = cntM n mg ((si : Int) - 1) := by
          have := (cnt_le (n := n) (mg := mg) (s := (si : Int) - 1) (by omega) k).1
          omega
        subst ek
        simp -implicitDefEqProofs (disch := first | assumption | decide | omega | (simp only [wpD1] <;> omega) | (simp only [wpD2] <;> assumption) | solve_by_elim [HSub.refl, HSub.push, HSub.reserve] | fail) only [↓wpPre, wpPost, wpPoly, Int.reduceToNat, Int.reducePow, Int.reduceMul, Int.reduceAdd, Int.reduceSub, Int.reduceNeg, Nat.reduceAdd, Nat.reduceMul, Nat.reducePow, Int.reduceLT, Int.reduceLE, Int.reduceEq, Nat.reduceEqDiff, e0, e1, e2, e4]
        exact ⟨_, ⟨si + 1, hx si h'' hsi' hJ, by congr 1; omega, by omega, rfl⟩, by omega⟩
    · have eL : L = n + min ((si : Int) - 1) 0 := by rw [hL]; unfold lastM; rw [if_neg cm]
      simp -implicitDefEqProofs (disch := first | assumption | decide | omega | (simp only [wpD1] <;> omega) | (simp only [wpD2] <;> assumption) | solve_by_elim [HSub.refl, HSub.push, HSub.reserve] | fail) only [↓wpPre, wpPost, wpPoly, Int.reduceToNat, Int.reducePow, Int.reduceMul, Int.reduceAdd, Int.reduceSub, Int.reduceNeg, Nat.reduceAdd, Nat.reduceMul, Nat.reducePow, Int.reduceLT, Int.reduceLE, Int.reduceEq, Nat.reduceEqDiff, e1, e2, e4, g1, g2]
      rw [← eL]
      refine wp_loopI (fun j t h' => ∃ k : Nat, J si k h' ∧ t 0 = .yield l ∧ t 1 = .ptr b1 0 ∧ t 2 = .ptr b2 0 ∧ t 4 = .int .i64 ((si : Int) - 1) ∧ t 5 = .int .i64 L ∧ t 6 = .int .i64 (mg + k : Nat) ∧ k ≤ cntM n mg ((si : Int) - 1) ∧ j = cntM n mg ((si : Int) - 1) - k) (j0 := cntM n mg ((si : Int) - 1))
        ⟨0, hJ, e0, e1, e2, e4, rfl, rfl, by omega, rfl⟩ ?_
      rintro j t h'' ⟨k, hJ, e0, e1, e2, e4, e5, e6, hk, hj'⟩
      simp -implicitDefEqProofs (disch := first | assumption | decide | omega | (simp only [wpD1] <;> omega) | (simp only [wpD2] <;> assumption) | solve_by_elim [HSub.refl, HSub.push, HSub.reserve] | fail) only [↓wpPre, wpPost, wpPoly, Int.reduceToNat, Int.reducePow, Int.reduceMul, Int.reduceAdd, Int.reduceSub, Int.reduceNeg, Nat.reduceAdd, Nat.reduceMul, Nat.reducePow, Int.reduceLT, Int.reduceLE, Int.reduceEq, Nat.reduceEqDiff, e5, e6]
      refine Br.by (fun c2 => ?_) (fun c2 => ?_)
      · have hk' : k < cntM n mg ((si : Int) - 1) := (cnt_le (by omega) k).2 (by omega)
        have := cnt_in (by omega) hk'
        simp -implicitDefEqProofs (disch := first | assumption | decide | omega | (simp only [wpD1] <;> omega) | (simp only [wpD2] <;> assumption) | solve_by_elim [HSub.refl, HSub.push, HSub.reserve] | fail) only [↓wpPre, wpPost, wpPoly, Int.reduceToNat, Int.reducePow, Int.reduceMul, Int.reduceAdd, Int.reduceSub, Int.reduceNeg, Nat.reduceAdd, Nat.reduceMul, Nat.reducePow, Int.reduceLT, Int.reduceLE, Int.reduceEq, Nat.reduceEqDiff, e0, e4, e6]
        refine AYieldK.of (hy si k h'' hsi' hk' hJ) ?_
        rintro r h3 (⟨rfl, hJ'⟩ | ⟨rfl, hD⟩)
        · simp -implicitDefEqProofs (disch := first | assumption | decide | omega | (simp only [wpD1] <;> omega) | (simp only [wpD2] <;> assumption) | solve_by_elim [HSub.refl, HSub.push, HSub.reserve] | fail) only [↓wpPre, wpPost, wpPoly, Int.reduceToNat, Int.reducePow, Int.reduceMul, Int.reduceAdd, Int.reduceSub, Int.reduceNeg, Nat.reduceAdd, Nat.reduceMul, Nat.reducePow, Int.reduceLT, Int.reduceLE, Int.reduceEq, Nat.reduceEqDiff, e0, e1, e2, e4, e5, e6]
          exact ⟨_, ⟨k + 1, hJ', by simp; omega, by omega, rfl⟩, by omega⟩
        · simp -implicitDefEqProofs (disch := first | assumption | decide | omega | (simp only [wpD1] <;> omega) | (simp only [wpD2] <;> assumption) | solve_by_elim [HSub.refl, HSub.push, HSub.reserve] | fail) only [↓wpPre, wpPost, wpPoly, Int.reduceToNat, Int.reducePow, Int.reduceMul, Int.reduceAdd, Int.reduceSub, Int.reduceNeg, Nat.reduceAdd, Nat.reduceMul, Nat.reducePow, Int.reduceLT, Int.reduceLE, Int.reduceEq, Nat.reduceEqDiff]
          exact hD
      · have ek : k = cntM n mg ((si : Int) - 1) := by
          have := (cnt_le (n := n) (mg := mg) (s := (si : Int) - 1) (by omega) k).1
          omega
        subst ek
        simp -implicitDefEqProofs (disch := first | assumption | decide | omega | (simp only [wpD1] <;> omega) | (simp only [wpD2] <;> assumption) | solve_by_elim [HSub.refl, HSub.push, HSub.reserve] | fail) only [↓wpPre, wpPost, wpPoly, Int.reduceToNat, Int.reducePow, Int.reduceMul, Int.reduceAdd, Int.reduceSub, Int.reduceNeg, Nat.reduceAdd, Nat.reduceMul, Nat.reducePow, Int.reduceLT, Int.reduceLE, Int.reduceEq, Nat.reduceEqDiff, e0, e1, e2, e4]
        exact ⟨_, ⟨si + 1, hx si h'' hsi' hJ, by congr 1; omega, by omega, rfl⟩, by omega⟩
  · have : si = 3 := by omega
    subst this
    simp -implicitDefEqProofs (disch := first | assumption | decide | omega | (simp only [wpD1] <;> omega) | (simp only [wpD2] <;> assumption) | solve_by_elim [HSub.refl, HSub.push, HSub.reserve] | fail) only [↓wpPre, wpPost, wpPoly, Int.reduceToNat, Int.reducePow, Int.reduceMul, Int.reduceAdd, Int.reduceSub, Int.reduceNeg, Nat.reduceAdd, Nat.reduceMul, Nat.reducePow, Int.reduceLT, Int.reduceLE, Int.reduceEq, Nat.reduceEqDiff]
    exact hd _ hJ
end
end Go.Ae

/- The greatest sum over placements, of the program and of the reference: contracts. -/
set_option linter.unusedSimpArgs false
set_option linter.unusedVariables false
namespace Go.Ae
theorem rowG_succ {a b : List Int} {mg si k : Nat} : gM a b ((si : Int) - 1) mg (k + 1) (rowG a b mg si) = max (gM a b ((si : Int) - 1) mg k (rowG a b mg si)) (plc a b ((si : Int) - 1) (mg + k)) := rfl
section
variable {C : Ctx}
theorem great1_spec (hC : Has C T189) {w1 w2 : AV} {a b : List Int} {o1 o2 s x : Int} {m i1 i2 : Nat} {h : Heap} (g1 : h.get i1 = some (.cells [w1, .int .i64 o1] true 0)) (g2 : h.get i2 = some (.cells [w2, .int .i64 o2] true 0)) (ha : RI h w1 a) (hb : RI h w2 b) (oa : one1 a) (ob : one1 b) (hl : a.length = b.length ∧ 1 ≤ a.length ∧ a.length ≤ 10000) (hm : m ≤ a.length) (hs : -1 ≤ s ∧ s ≤ 1) (hms : (m : Int) ≤ a.length + s) (hx : 0 ≤ x ∧ x ≤ 10000) :
    ACalls C 189 [.int .i64 x, .int .i64 (m : Nat), .int .i64 s, .ptr i1 0, .ptr i2 0] h (fun r h' => r = .int .i64 (max x (plc a b s m)) ∧ h' = h) := by
  have p1 := pf_le oa ob (m := m) (s := s) m
  have p2 := ps_le oa ob (m := m) (a.length - m)
  have pp := parts_spec (hC.sub (T' := T180) (by decide)) (o1 := o1) (o2 := o2) (h := h) ha hb oa ob hl hm hs hms
  unfold plc
  (refine calls_intro (hC.body (by decide) tab189) (Nat.le_of_ble_eq_true rfl) ?_); (show wp C _ none B189.code _ _); (simp only [B189]); simp -implicitDefEqProofs (disch := first | assumption | decide | omega | (simp only [wpD1] <;> omega) | (simp only [wpD2] <;> assumption) | solve_by_elim [HSub.refl, HSub.push, HSub.reserve] | fail) only [↓wpPre, wpPost, wpPoly, Int.reduceToNat, Int.reducePow, Int.reduceMul, Int.reduceAdd, Int.reduceSub, Int.reduceNeg, Nat.reduceAdd, Nat.reduceMul, Nat.reducePow, Int.reduceLT, Int.reduceLE, Int.reduceEq, Nat.reduceEqDiff, g1, g2]
  refine ACallsK.eq pp ?_
  generalize pf a b m s m = X at *
  generalize ps a b m (a.length - m) = Y at *
  simp -implicitDefEqProofs (disch := first | assumption | decide | omega | (simp only [wpD1] <;> omega) | (simp only [wpD2] <;> assumption) | solve_by_elim [HSub.refl, HSub.push, HSub.reserve] | fail) only [↓wpPre, wpPost, wpPoly, Int.reduceToNat, Int.reducePow, Int.reduceMul, Int.reduceAdd, Int.reduceSub, Int.reduceNeg, Nat.reduceAdd, Nat.reduceMul, Nat.reducePow, Int.reduceLT, Int.reduceLE, Int.reduceEq, Nat.reduceEqDiff, tupPP]
  rw [show (0 - X) = -X by omega, show (0 - Y) = -Y by omega]
set_option maxHeartbeats 1000000 in
theorem fold_spec (hC : Has C T187) (hP : Has C T201) (hG : Has C T189) {w1 w2 : AV} {a b : List Int} {o1 o2 : Int} {mg i1 i2 b1 b2 : Nat} {h : Heap} (g1 : h.get i1 = some (.cells [w1, .int .i64 o1] true 0)) (g2 : h.get i2 = some (.cells [w2, .int .i64 o2] true 0))
    (k1 : h.get b1 = some (.cells [.int .i64 (a.length : Nat)] true 0)) (k2 : h.get b2 = some (.cells [.int .i64 (mg : Nat)] true 0)) (ha : RI h w1 a) (hb : RI h w2 b) (oa : one1 a) (ob : one1 b) (hl : a.length = b.length ∧ 1 ≤ a.length ∧ a.length ≤ 10000) (hmg : mg ≤ 10000) :
    ACalls C 187 [.func 201 [] [.ptr b1 0, .ptr b2 0], .int .i64 0, .func 189 [] [.ptr i1 0, .ptr i2 0]] h (fun r h' => r = .int .i64 (greatI a b mg) ∧ HSub h h') := by
  have l1 := Heap.lt_of_get g1
  have l2 := Heap.lt_of_get g2
  have l3 := Heap.lt_of_get k1
  have l4 := Heap.lt_of_get k2
  (refine calls_intro (hC.body (by decide) tab187) (Nat.le_of_ble_eq_true rfl) ?_); (show wp C _ none B187.code _ _); (simp only [B187]); simp -implicitDefEqProofs (disch := first | assumption | decide | omega | (simp only [wpD1] <;> omega) | (simp only [wpD2] <;> assumption) | solve_by_elim [HSub.refl, HSub.push, HSub.reserve] | fail) only [↓wpPre, wpPost, wpPoly, Int.reduceToNat, Int.reducePow, Int.reduceMul, Int.reduceAdd, Int.reduceSub, Int.reduceNeg, Nat.reduceAdd, Nat.reduceMul, Nat.reducePow, Int.reduceLT, Int.reduceLE, Int.reduceEq, Nat.reduceEqDiff]
  refine wpRange_none (D := fun h' => ∃ R, h'.get (h.size + 3) = some (.loop R) ∧ R.state = .ready ∧ R.pend = none ∧ HSub h h' ∧ h'.get (h.size + 2) = some (.defd true) ∧ h'.get h.size = some (.cells [.int .i64 (greatI a b mg)] true 0) ∧ h.size + 4 ≤ h'.size) ?_ ?_
  · refine ACalls.hideLoop (fun R hR => ?_)
    show ACalls C 201 [.yield (h.size + 3), .ptr b1 0, .ptr b2 0] _ _
    have rs : R.state = .ready := by rw [hR]
    have rp : R.pend = none := by rw [hR]
    have rb := loop_back rs rp
    refine plac_iter hP (n := a.length) (mg := mg) ⟨hl.2.2, hmg⟩ (fun si k h' => h'.get (h.size + 3) = some (.loop R) ∧ HSub h h' ∧ h'.get (h.size + 2) = some (.defd true) ∧ h'.get (h.size + 1) = some (.cells [.func 189 [] [.ptr i1 0, .ptr i2 0]] true 0) ∧
      h'.get h.size = some (.cells [.int .i64 (gM a b ((si : Int) - 1) mg k (rowG a b mg si))] true 0) ∧ h.size + 4 ≤ h'.size) _ ?_ ?_ ?_ ?_ ?_
    · refine ⟨?_, (((HSub.push1 _ _).push _).push _).push _, ?_, ?_, ?_, ?_⟩
      · simp -implicitDefEqProofs (disch := first | assumption | decide | omega | (simp only [wpD1] <;> omega) | (simp only [wpD2] <;> assumption) | solve_by_elim [HSub.refl, HSub.push, HSub.reserve] | fail) only [↓wpPre, wpPost, wpPoly, Int.reduceToNat, Int.reducePow, Int.reduceMul, Int.reduceAdd, Int.reduceSub, Int.reduceNeg, Nat.reduceAdd, Nat.reduceMul, Nat.reducePow, Int.reduceLT, Int.reduceLE, Int.reduceEq, Nat.reduceEqDiff]
      · simp -implicitDefEqProofs (disch := first | assumption | decide | omega | (simp only [wpD1] <;> omega) | (simp only [wpD2] <;> assumption) | solve_by_elim [HSub.refl, HSub.push, HSub.reserve] | fail) only [↓wpPre, wpPost, wpPoly, Int.reduceToNat, Int.reducePow, Int.reduceMul, Int.reduceAdd, Int.reduceSub, Int.reduceNeg, Nat.reduceAdd, Nat.reduceMul, Nat.reducePow, Int.reduceLT, Int.reduceLE, Int.reduceEq, Nat.reduceEqDiff]
      · simp -implicitDefEqProofs (disch := first | assumption | decide | omega | (simp only [wpD1] <;> omega) | (simp only [wpD2] <;> assumption) | solve_by_elim [HSub.refl, HSub.push, HSub.reserve] | fail) only [↓wpPre, wpPost, wpPoly, Int.reduceToNat, Int.reducePow, Int.reduceMul, Int.reduceAdd, Int.reduceSub, Int.reduceNeg, Nat.reduceAdd, Nat.reduceMul, Nat.reducePow, Int.reduceLT, Int.reduceLE, Int.reduceEq, Nat.reduceEqDiff]
      · simp -implicitDefEqProofs (disch := first | assumption | decide | omega | (simp only [wpD1] <;> omega) | (simp only [wpD2] <;> assumption) | solve_by_elim [HSub.refl, HSub.push, HSub.reserve] | fail) only [↓wpPre, wpPost, wpPoly, Int.reduceToNat, Int.reducePow, Int.reduceMul, Int.reduceAdd, Int.reduceSub, Int.reduceNeg, Nat.reduceAdd, Nat.reduceMul, Nat.reducePow, Int.reduceLT, Int.reduceLE, Int.reduceEq, Nat.reduceEqDiff]
        rfl
      · simp -implicitDefEqProofs (disch := first | assumption | decide | omega | (simp only [wpD1] <;> omega) | (simp only [wpD2] <;> assumption) | solve_by_elim [HSub.refl, HSub.push, HSub.reserve] | fail) only [↓wpPre, wpPost, wpPoly, Int.reduceToNat, Int.reducePow, Int.reduceMul, Int.reduceAdd, Int.reduceSub, Int.reduceNeg, Nat.reduceAdd, Nat.reduceMul, Nat.reducePow, Int.reduceLT, Int.reduceLE, Int.reduceEq, Nat.reduceEqDiff]
        omega
    · rintro si k h' ⟨_, hs, _⟩
      exact ⟨(hs.get _ l3).trans k1, (hs.get _ l4).trans k2⟩
    · rintro si k h' hsi hk ⟨hlp, hsub, hd, gf, gv, hsz⟩
      have hin := cnt_in (n := a.length) (mg := mg) (s := (si : Int) - 1) (by omega) hk
      have rg := rowG_le oa ob mg si (by omega)
      have gl := gM_le oa ob (s := (si : Int) - 1) (lo := mg) k _ (by omega) rg
      have gs := rowG_succ (a := a) (b := b) (mg := mg) (si := si) (k := k)
      refine yield_intro (r := R) hlp rs (by rw [hR]; rfl) ?_
      simp only [congrArg ALoop.nt hR, congrArg ALoop.t hR, congrArg ALoop.params hR, congrArg ALoop.assign hR, congrArg ALoop.body hR]
      have hsH := fun bb => (hsub.put (i := h.size + 3) (by omega) bb)
      have gr := fun bb => great1_spec hG (s := (si : Int) - 1) (x := gM a b ((si : Int) - 1) mg k (rowG a b mg si)) (m := mg + k) (((hsH bb).get _ l1).trans g1) (((hsH bb).get _ l2).trans g2) (ha.mono (hsH bb)) (hb.mono (hsH bb)) oa ob hl hin.1 (by omega) hin.2 (by omega)
      simp -implicitDefEqProofs (disch := first | assumption | decide | omega | (simp only [wpD1] <;> omega) | (simp only [wpD2] <;> assumption) | solve_by_elim [HSub.refl, HSub.push, HSub.reserve] | fail) only [↓wpPre, wpPost, wpPoly, Int.reduceToNat, Int.reducePow, Int.reduceMul, Int.reduceAdd, Int.reduceSub, Int.reduceNeg, Nat.reduceAdd, Nat.reduceMul, Nat.reducePow, Int.reduceLT, Int.reduceLE, Int.reduceEq, Nat.reduceEqDiff, hlp, rs, gf, gv]
      refine ACallsK.eq (gr _) ?_
      simp -implicitDefEqProofs (disch := first | assumption | decide | omega | (simp only [wpD1] <;> omega) | (simp only [wpD2] <;> assumption) | solve_by_elim [HSub.refl, HSub.push, HSub.reserve] | fail) only [↓wpPre, wpPost, wpPoly, Int.reduceToNat, Int.reducePow, Int.reduceMul, Int.reduceAdd, Int.reduceSub, Int.reduceNeg, Nat.reduceAdd, Nat.reduceMul, Nat.reducePow, Int.reduceLT, Int.reduceLE, Int.reduceEq, Nat.reduceEqDiff, hlp, gv]
      exact .inl ⟨by rw [rb], (by repeat (first | exact hsub | refine HSub.put ?_ (by (try simp only [Heap.size_put, Heap.size_push, Heap.size_reserve]); omega) _ | refine HSub.push ?_ _ | refine HSub.reserve ?_ _)), hd, gf, by rw [gs], hsz⟩
    · rintro si h' hsi ⟨hlp, hsub, hd, gf, gv, hsz⟩
      exact ⟨hlp, hsub, hd, gf, gv, hsz⟩
    · rintro h' ⟨hlp, hsub, hd, gf, gv, hsz⟩
      exact ⟨R, hlp, rs, rp, hsub, hd, gv, hsz⟩
  · rintro h' ⟨R, hlp, hst, hpd, hsub, hd, gv, hsz⟩
    refine ⟨R, hlp, by rw [hst]; decide, ?_⟩
    rw [hpd]
    show blockO _ _ .normal _
    simp -implicitDefEqProofs (disch := first | assumption | decide | omega | (simp only [wpD1] <;> omega) | (simp only [wpD2] <;> assumption) | solve_by_elim [HSub.refl, HSub.push, HSub.reserve] | fail) only [↓wpPre, wpPost, wpPoly, Int.reduceToNat, Int.reducePow, Int.reduceMul, Int.reduceAdd, Int.reduceSub, Int.reduceNeg, Nat.reduceAdd, Nat.reduceMul, Nat.reducePow, Int.reduceLT, Int.reduceLE, Int.reduceEq, Nat.reduceEqDiff, hd, gv]
    exact (by repeat (first | exact hsub | refine HSub.put ?_ (by (try simp only [Heap.size_put, Heap.size_push, Heap.size_reserve]); omega) _ | refine HSub.push ?_ _ | refine HSub.reserve ?_ _))
theorem great_spec (hC : Has C T183) {w1 w2 : AV} {a b : List Int} {o1 o2 : Int} {mg : Nat} {h : Heap} (ha : RI h w1 a) (hb : RI h w2 b) (oa : one1 a) (ob : one1 b) (hl : a.length = b.length ∧ 1 ≤ a.length ∧ a.length ≤ 10000) (hmg : mg ≤ 10000) :
    ACalls C 183 [.agg [w1, .int .i64 o1], .agg [w2, .int .i64 o2], .int .i64 (mg : Nat)] h (fun r h' => r = .int .i64 (greatI a b mg) ∧ h' = h) := by
  refine ACalls.gc0 (P := fun r h' => r = .int .i64 (greatI a b mg) ∧ HSub h h') ?_ (fun r h' hp => ⟨by rw [hp.1]; trivial, hp.2, hp.1, rfl⟩)
  have hlt := ha.lt
  have c0 := ha.cells
  have o0 := ha.one
  have c1 := hb.cells
  have o1' := hb.one
  have hpl : ∀ h (n : Int), ACalls C 188 [.int .i64 n, .int .i64 (mg : Nat)] h (fun r h' => r = .func 201 [] [.ptr h.size 0, .ptr (h.size + 1) 0] ∧ h' = (h.push (.cells [.int .i64 n] true 0)).push (.cells [.int .i64 (mg : Nat)] true 0)) := by
    intro h n
    have hC' : Has C T188 := (hC.sub (T' := T188) (by decide))
    have hC := hC'
    (refine calls_intro (hC.body (by decide) tab188) (Nat.le_of_ble_eq_true rfl) ?_); (show wp C _ none B188.code _ _); (simp only [B188]); simp -implicitDefEqProofs (disch := first | assumption | decide | omega | (simp only [wpD1] <;> omega) | (simp only [wpD2] <;> assumption) | solve_by_elim [HSub.refl, HSub.push, HSub.reserve] | fail) only [↓wpPre, wpPost, wpPoly, Int.reduceToNat, Int.reducePow, Int.reduceMul, Int.reduceAdd, Int.reduceSub, Int.reduceNeg, Nat.reduceAdd, Nat.reduceMul, Nat.reducePow, Int.reduceLT, Int.reduceLE, Int.reduceEq, Nat.reduceEqDiff]
  have hsub4 : HSub h ((((h.push (.cells [w1, .int .i64 o1] true 0)).push (.cells [w2, .int .i64 o2] true 0)).push (.cells [.int .i64 (a.length : Nat)] true 0)).push (.cells [.int .i64 (mg : Nat)] true 0)) := (by repeat (first | exact HSub.refl _ | refine HSub.put ?_ (by (try simp only [Heap.size_put, Heap.size_push, Heap.size_reserve]); omega) _ | refine HSub.push ?_ _ | refine HSub.reserve ?_ _))
  have hfd := fold_spec (hC.sub (T' := T187) (by decide)) (hC.sub (T' := T201) (by decide)) (hC.sub (T' := T189) (by decide)) (i1 := h.size) (i2 := h.size + 1) (b1 := h.size + 2) (b2 := h.size + 3) (o1 := o1) (o2 := o2) (w1 := w1) (w2 := w2) (mg := mg)
    (h := (((h.push (.cells [w1, .int .i64 o1] true 0)).push (.cells [w2, .int .i64 o2] true 0)).push (.cells [.int .i64 (a.length : Nat)] true 0)).push (.cells [.int .i64 (mg : Nat)] true 0))
    (by simp -implicitDefEqProofs (disch := first | assumption | decide | omega | (simp only [wpD1] <;> omega) | (simp only [wpD2] <;> assumption) | solve_by_elim [HSub.refl, HSub.push, HSub.reserve] | fail) only [↓wpPre, wpPost, wpPoly, Int.reduceToNat, Int.reducePow, Int.reduceMul, Int.reduceAdd, Int.reduceSub, Int.reduceNeg, Nat.reduceAdd, Nat.reduceMul, Nat.reducePow, Int.reduceLT, Int.reduceLE, Int.reduceEq, Nat.reduceEqDiff]) (by simp -implicitDefEqProofs (disch := first | assumption | decide | omega | (simp only [wpD1] <;> omega) | (simp only [wpD2] <;> assumption) | solve_by_elim [HSub.refl, HSub.push, HSub.reserve] | fail) only [↓wpPre, wpPost, wpPoly, Int.reduceToNat, Int.reducePow, Int.reduceMul, Int.reduceAdd, Int.reduceSub, Int.reduceNeg, Nat.reduceAdd, Nat.reduceMul, Nat.reducePow, Int.reduceLT, Int.reduceLE, Int.reduceEq, Nat.reduceEqDiff]) (by simp -implicitDefEqProofs (disch := first | assumption | decide | omega | (simp only [wpD1] <;> omega) | (simp only [wpD2] <;> assumption) | solve_by_elim [HSub.refl, HSub.push, HSub.reserve] | fail) only [↓wpPre, wpPost, wpPoly, Int.reduceToNat, Int.reducePow, Int.reduceMul, Int.reduceAdd, Int.reduceSub, Int.reduceNeg, Nat.reduceAdd, Nat.reduceMul, Nat.reducePow, Int.reduceLT, Int.reduceLE, Int.reduceEq, Nat.reduceEqDiff]) (by simp -implicitDefEqProofs (disch := first | assumption | decide | omega | (simp only [wpD1] <;> omega) | (simp only [wpD2] <;> assumption) | solve_by_elim [HSub.refl, HSub.push, HSub.reserve] | fail) only [↓wpPre, wpPost, wpPoly, Int.reduceToNat, Int.reducePow, Int.reduceMul, Int.reduceAdd, Int.reduceSub, Int.reduceNeg, Nat.reduceAdd, Nat.reduceMul, Nat.reducePow, Int.reduceLT, Int.reduceLE, Int.reduceEq, Nat.reduceEqDiff]) (ha.mono hsub4) (hb.mono hsub4) oa ob hl hmg
  (refine calls_intro (hC.body (by decide) tab183) (Nat.le_of_ble_eq_true rfl) ?_); (show wp C _ none B183.code _ _); (simp only [B183]); simp -implicitDefEqProofs (disch := first | assumption | decide | omega | (simp only [wpD1] <;> omega) | (simp only [wpD2] <;> assumption) | solve_by_elim [HSub.refl, HSub.push, HSub.reserve] | fail) only [↓wpPre, wpPost, wpPoly, Int.reduceToNat, Int.reducePow, Int.reduceMul, Int.reduceAdd, Int.reduceSub, Int.reduceNeg, Nat.reduceAdd, Nat.reduceMul, Nat.reducePow, Int.reduceLT, Int.reduceLE, Int.reduceEq, Nat.reduceEqDiff, ha.len]
  refine ACallsK.eq (hpl _ _) ?_
  simp -implicitDefEqProofs (disch := first | assumption | decide | omega | (simp only [wpD1] <;> omega) | (simp only [wpD2] <;> assumption) | solve_by_elim [HSub.refl, HSub.push, HSub.reserve] | fail) only [↓wpPre, wpPost, wpPoly, Int.reduceToNat, Int.reducePow, Int.reduceMul, Int.reduceAdd, Int.reduceSub, Int.reduceNeg, Nat.reduceAdd, Nat.reduceMul, Nat.reducePow, Int.reduceLT, Int.reduceLE, Int.reduceEq, Nat.reduceEqDiff]
  refine ACallsK.of hfd ?_
  rintro r h' ⟨rfl, s1⟩
  simp -implicitDefEqProofs (disch := first | assumption | decide | omega | (simp only [wpD1] <;> omega) | (simp only [wpD2] <;> assumption) | solve_by_elim [HSub.refl, HSub.push, HSub.reserve] | fail) only [↓wpPre, wpPost, wpPoly, Int.reduceToNat, Int.reducePow, Int.reduceMul, Int.reduceAdd, Int.reduceSub, Int.reduceNeg, Nat.reduceAdd, Nat.reduceMul, Nat.reducePow, Int.reduceLT, Int.reduceLE, Int.reduceEq, Nat.reduceEqDiff]
  exact hsub4.trans s1
set_option maxHeartbeats 1000000 in
theorem greatR_spec (hC : Has C T184) {w1 w2 : AV} {a b : List Int} {mg : Nat} {h : Heap} (ha : RI h w1 a) (hb : RI h w2 b) (oa : one1 a) (ob : one1 b) (hl : a.length = b.length ∧ 1 ≤ a.length ∧ a.length ≤ 10000) (hmg : mg ≤ 10000) :
    ACalls C 184 [w1, w2, .int .i64 (mg : Nat), .int .i64 (mg : Nat)] h (fun r h' => r = .int .i64 (greatI a b mg) ∧ h' = h) := by
  have hlt := ha.lt
  (refine calls_intro (hC.body (by decide) tab184) (Nat.le_of_ble_eq_true rfl) ?_); (show wp C _ none B184.code _ _); (simp only [B184]); simp -implicitDefEqProofs (disch := first | assumption | decide | omega | (simp only [wpD1] <;> omega) | (simp only [wpD2] <;> assumption) | solve_by_elim [HSub.refl, HSub.push, HSub.reserve] | fail) only [↓wpPre, wpPost, wpPoly, Int.reduceToNat, Int.reducePow, Int.reduceMul, Int.reduceAdd, Int.reduceSub, Int.reduceNeg, Nat.reduceAdd, Nat.reduceMul, Nat.reducePow, Int.reduceLT, Int.reduceLE, Int.reduceEq, Nat.reduceEqDiff]
  refine wp_loopI (fun j t h' => h' = h ∧ ∃ si : Nat, t 0 = w1 ∧ t 1 = w2 ∧ t 2 = .int .i64 (mg : Nat) ∧ t 3 = .int .i64 (mg : Nat) ∧ t 9 = .int .i64 (rowG a b mg si) ∧ t 10 = .int .i64 ((si : Int) - 1) ∧ si ≤ 3 ∧ j = 3 - si) (j0 := 3)
    ⟨rfl, 0, rfl, rfl, rfl, rfl, rfl, rfl, by omega, rfl⟩ ?_
  rintro j t h' ⟨rfl, si, e0, e1, e2, e3, e9, e10, hsi, hj⟩
  simp -implicitDefEqProofs (disch := first | assumption | decide | omega | (simp only [wpD1] <;> omega) | (simp only [wpD2] <;> assumption) | solve_by_elim [HSub.refl, HSub.push, HSub.reserve] | fail) only [↓wpPre, wpPost, wpPoly, Int.reduceToNat, Int.reducePow, Int.reduceMul, Int.reduceAdd, Int.reduceSub, Int.reduceNeg, Nat.reduceAdd, Nat.reduceMul, Nat.reducePow, Int.reduceLT, Int.reduceLE, Int.reduceEq, Nat.reduceEqDiff, e10]
  refine Br.by (fun c => ?_) (fun c => ?_)
  · have hsi' : si < 3 := by omega
    have rg := rowG_le oa ob mg si (by omega)
    obtain ⟨L, hL, hL1⟩ : ∃ L : Int, L = lastM a.length mg ((si : Int) - 1) ∧ -10001 ≤ L ∧ L ≤ 10001 := ⟨_, rfl, by unfold lastM; split <;> omega, by unfold lastM; split <;> omega⟩
    by_cases cm : 0 < (mg : Int)
    · have eL : L = a.length + ((si : Int) - 1) - mg := by rw [hL]; unfold lastM; rw [if_pos cm]
      simp -implicitDefEqProofs (disch := first | assumption | decide | omega | (simp only [wpD1] <;> omega) | (simp only [wpD2] <;> assumption) | solve_by_elim [HSub.refl, HSub.push, HSub.reserve] | fail) only [↓wpPre, wpPost, wpPoly, Int.reduceToNat, Int.reducePow, Int.reduceMul, Int.reduceAdd, Int.reduceSub, Int.reduceNeg, Nat.reduceAdd, Nat.reduceMul, Nat.reducePow, Int.reduceLT, Int.reduceLE, Int.reduceEq, Nat.reduceEqDiff, e0, e2, e3, e10, ha.len]
      rw [← eL]
      refine wp_loopI (fun j t h2 => h2 = h' ∧ ∃ k : Nat, t 0 = w1 ∧ t 1 = w2 ∧ t 2 = .int .i64 (mg : Nat) ∧ t 3 = .int .i64 (mg : Nat) ∧ t 9 = .int .i64 (gM a b ((si : Int) - 1) mg k (rowG a b mg si)) ∧ t 10 = .int .i64 ((si : Int) - 1) ∧ t 11 = .int .i64 L ∧ t 12 = .int .i64 (mg + k : Nat) ∧ k ≤ cntM a.length mg ((si : Int) - 1) ∧ j = cntM a.length mg ((si : Int) - 1) - k) (j0 := cntM a.length mg ((si : Int) - 1))
        ⟨rfl, 0, e0, e1, e2, e3, e9, e10, rfl, rfl, by omega, rfl⟩ ?_
      rintro j t h2 ⟨rfl, k, e0, e1, e2, e3, e9, e10, e11, e12, hk, hj'⟩
      simp -implicitDefEqProofs (disch := first | assumption | decide | omega | (simp only [wpD1] <;> omega) | (simp only [wpD2] <;> assumption) | solve_by_elim [HSub.refl, HSub.push, HSub.reserve] | fail) only [↓wpPre, wpPost, wpPoly, Int.reduceToNat, Int.reducePow, Int.reduceMul, Int.reduceAdd, Int.reduceSub, Int.reduceNeg, Nat.reduceAdd, Nat.reduceMul, Nat.reducePow, Int.reduceLT, Int.reduceLE, Int.reduceEq, Nat.reduceEqDiff, e11, e12]
      refine Br.by (fun c2 => ?_) (fun c2 => ?_)
      · have hk' : k < cntM a.length mg ((si : Int) - 1) := (cnt_le (by omega) k).2 (by omega)
        have hin := cnt_in (by omega) hk'
        have gl := gM_le oa ob (s := (si : Int) - 1) (lo := mg) k _ (by omega) rg
        have gs := rowG_succ (a := a) (b := b) (mg := mg) (si := si) (k := k)
        have p1 := pf_le oa ob (m := (mg + k : Nat)) (s := (si : Int) - 1) (mg + k)
        have p2 := ps_le oa ob (m := mg + k) (a.length - (mg + k))
        have pp := partsR_spec (hC.sub (T' := T182) (by decide)) (s := (si : Int) - 1) (m := mg + k) (h := h2) ha hb oa ob hl hin.1 (by omega) hin.2
        have pl : plc a b ((si : Int) - 1) (mg + k) = max (pf a b (mg + k : Nat) ((si : Int) - 1) (mg + k)) (-pf a b (mg + k : Nat) ((si : Int) - 1) (mg + k)) + max (ps a b (mg + k) (a.length - (mg + k))) (-ps a b (mg + k) (a.length - (mg + k))) := rfl
        simp -implicitDefEqProofs (disch := first | assumption | decide | omega | (simp only [wpD1] <;> omega) | (simp only [wpD2] <;> assumption) | solve_by_elim [HSub.refl, HSub.push, HSub.reserve] | fail) only [↓wpPre, wpPost, wpPoly, Int.reduceToNat, Int.reducePow, Int.reduceMul, Int.reduceAdd, Int.reduceSub, Int.reduceNeg, Nat.reduceAdd, Nat.reduceMul, Nat.reducePow, Int.reduceLT, Int.reduceLE, Int.reduceEq, Nat.reduceEqDiff, e0, e1, e10, e12]
        refine ACallsK.eq pp ?_
        generalize pf a b (mg + k : Nat) ((si : Int) - 1) (mg + k) = X at *
        generalize ps a b (mg + k) (a.length - (mg + k)) = Y at *
        simp -implicitDefEqProofs (disch := first | assumption | decide | omega | (simp only [wpD1] <;> omega) | (simp only [wpD2] <;> assumption) | solve_by_elim [HSub.refl, HSub.push, HSub.reserve] | fail) only [↓wpPre, wpPost, wpPoly, Int.reduceToNat, Int.reducePow, Int.reduceMul, Int.reduceAdd, Int.reduceSub, Int.reduceNeg, Nat.reduceAdd, Nat.reduceMul, Nat.reducePow, Int.reduceLT, Int.reduceLE, Int.reduceEq, Nat.reduceEqDiff, tupPP, e9, e0, e1, e2, e3, e10, e11, e12]
        exact ⟨_, ⟨k + 1, by rw [gs, pl, Int.zero_sub, Int.zero_sub], by congr 1 <;> omega, by omega, rfl⟩, by omega⟩
      · have ek : k = cntM a.length mg ((si : Int) - 1) := by
          have := (cnt_le (n := a.length) (mg := mg) (s := (si : Int) - 1) (by omega) k).1
          omega
        subst ek
        simp -implicitDefEqProofs (disch := first | assumption | decide | omega | (simp only [wpD1] <;> omega) | (simp only [wpD2] <;> assumption) | solve_by_elim [HSub.refl, HSub.push, HSub.reserve] | fail) only [↓wpPre, wpPost, wpPoly, Int.reduceToNat, Int.reducePow, Int.reduceMul, Int.reduceAdd, Int.reduceSub, Int.reduceNeg, Nat.reduceAdd, Nat.reduceMul, Nat.reducePow, Int.reduceLT, Int.reduceLE, Int.reduceEq, Nat.reduceEqDiff, e0, e1, e2, e3, e9, e10]
        exact ⟨_, ⟨si + 1, rfl, by congr 1; omega, by omega, rfl⟩, by omega⟩
    · have eL : L = a.length + min ((si : Int) - 1) 0 := by rw [hL]; unfold lastM; rw [if_neg cm]
      simp -implicitDefEqProofs (disch := first | assumption | decide | omega | (simp only [wpD1] <;> omega) | (simp only [wpD2] <;> assumption) | solve_by_elim [HSub.refl, HSub.push, HSub.reserve] | fail) only [↓wpPre, wpPost, wpPoly, Int.reduceToNat, Int.reducePow, Int.reduceMul, Int.reduceAdd, Int.reduceSub, Int.reduceNeg, Nat.reduceAdd, Nat.reduceMul, Nat.reducePow, Int.reduceLT, Int.reduceLE, Int.reduceEq, Nat.reduceEqDiff, e0, e2, e3, e10, ha.len]
      rw [← eL]
      refine wp_loopI (fun j t h2 => h2 = h' ∧ ∃ k : Nat, t 0 = w1 ∧ t 1 = w2 ∧ t 2 = .int .i64 (mg : Nat) ∧ t 3 = .int .i64 (mg : Nat) ∧ t 9 = .int .i64 (gM a b ((si : Int) - 1) mg k (rowG a b mg si)) ∧ t 10 = .int .i64 ((si : Int) - 1) ∧ t 11 = .int .i64 L ∧ t 12 = .int .i64 (mg + k : Nat) ∧ k ≤ cntM a.length mg ((si : Int) - 1) ∧ j = cntM a.length mg ((si : Int) - 1) - k) (j0 := cntM a.length mg ((si : Int) - 1))
        ⟨rfl, 0, e0, e1, e2, e3, e9, e10, rfl, rfl, by omega, rfl⟩ ?_
      rintro j t h2 ⟨rfl, k, e0, e1, e2, e3, e9, e10, e11, e12, hk, hj'⟩
      simp -implicitDefEqProofs (disch := first | assumption | decide | omega | (simp only [wpD1] <;> omega) | (simp only [wpD2] <;> assumption) | solve_by_elim [HSub.refl, HSub.push, HSub.reserve] | fail) only [↓wpPre, wpPost, wpPoly, Int.reduceToNat, Int.reducePow, Int.reduceMul, Int.reduceAdd, Int.reduceSub, Int.reduceNeg, Nat.reduceAdd, Nat.reduceMul, Nat.reducePow, Int.reduceLT, Int.reduceLE, Int.reduceEq, Nat.reduceEqDiff, e11, e12]
      refine Br.by (fun c2 => ?_) (fun c2 => ?_)
      · have hk' : k < cntM a.length mg ((si : Int) - 1) := (cnt_le (by omega) k).2 (by omega)
        have hin := cnt_in (by omega) hk'
        have gl := gM_le oa ob (s := (si : Int) - 1) (lo := mg) k _ (by omega) rg
        have gs := rowG_succ (a := a) (b := b) (mg := mg) (si := si) (k := k)
        have p1 := pf_le oa ob (m := (mg + k : Nat)) (s := (si : Int) - 1) (mg + k)
        have p2 := ps_le oa ob (m := mg + k) (a.length - (mg + k))
        have pp := partsR_spec (hC.sub (T' := T182) (by decide)) (s := (si : Int) - 1) (m := mg + k) (h := h2) ha hb oa ob hl hin.1 (by omega) hin.2
        have pl : plc a b ((si : Int) - 1) (mg + k) = max (pf a b (mg + k : Nat) ((si : Int) - 1) (mg + k)) (-pf a b (mg + k : Nat) ((si : Int) - 1) (mg + k)) + max (ps a b (mg + k) (a.length - (mg + k))) (-ps a b (mg + k) (a.length - (mg + k))) := rfl
        simp -implicitDefEqProofs (disch := first | assumption | decide | omega | (simp only [wpD1] <;> omega) | (simp only [wpD2] <;> assumption) | solve_by_elim [HSub.refl, HSub.push, HSub.reserve] | fail) only [↓wpPre, wpPost, wpPoly, Int.reduceToNat, Int.reducePow, Int.reduceMul, Int.reduceAdd, Int.reduceSub, Int.reduceNeg, Nat.reduceAdd, Nat.reduceMul, Nat.reducePow, Int.reduceLT, Int.reduceLE, Int.reduceEq, Nat.reduceEqDiff, e0, e1, e10, e12]
        refine ACallsK.eq pp ?_
        generalize pf a b (mg + k : Nat) ((si : Int) - 1) (mg + k) = X at *
        generalize ps a b (mg + k) (a.length - (mg + k)) = Y at *
        simp -implicitDefEqProofs (disch := first | assumption | decide | omega | (simp only [wpD1] <;> omega) | (simp only [wpD2] <;> assumption) | solve_by_elim [HSub.refl, HSub.push, HSub.reserve] | fail) only [↓wpPre, wpPost, wpPoly, Int.reduceToNat, Int.reducePow, Int.reduceMul, Int.reduceAdd, Int.reduceSub, Int.reduceNeg, Nat.reduceAdd, Nat.reduceMul, Nat.reducePow, Int.reduceLT, Int.reduceLE, Int.reduceEq, Nat.reduceEqDiff, tupPP, e9, e0, e1, e2, e3, e10, e11, e12]
        exact ⟨_, ⟨k + 1, by rw [gs, pl, Int.zero_sub, Int.zero_sub], by congr 1 <;> omega, by omega, rfl⟩, by omega⟩
      · have ek : k = cntM a.length mg ((si : Int) - 1) := by
          have := (cnt_le (n := a.length) (mg := mg) (s := (si : Int) - 1) (by omega) k).1
          omega
        subst ek
        simp -implicitDefEqProofs (disch := first | assumption | decide | omega | (simp only [wpD1] <;> omega) | (simp only [wpD2] <;> assumption) | solve_by_elim [HSub.refl, HSub.push, HSub.reserve] | fail) only [↓wpPre, wpPost, wpPoly, Int.reduceToNat, Int.reducePow, Int.reduceMul, Int.reduceAdd, Int.reduceSub, Int.reduceNeg, Nat.reduceAdd, Nat.reduceMul, Nat.reducePow, Int.reduceLT, Int.reduceLE, Int.reduceEq, Nat.reduceEqDiff, e0, e1, e2, e3, e9, e10]
        exact ⟨_, ⟨si + 1, rfl, by congr 1; omega, by omega, rfl⟩, by omega⟩
  · have : si = 3 := by omega
    subst this
    simp -implicitDefEqProofs (disch := first | assumption | decide | omega | (simp only [wpD1] <;> omega) | (simp only [wpD2] <;> assumption) | solve_by_elim [HSub.refl, HSub.push, HSub.reserve] | fail) only [↓wpPre, wpPost, wpPoly, Int.reduceToNat, Int.reducePow, Int.reduceMul, Int.reduceAdd, Int.reduceSub, Int.reduceNeg, Nat.reduceAdd, Nat.reduceMul, Nat.reducePow, Int.reduceLT, Int.reduceLE, Int.reduceEq, Nat.reduceEqDiff, e9]
    rfl
end
end Go.Ae

/- Parts, Side and Cross, of the program. -/
set_option linter.unusedSimpArgs false
set_option linter.unusedVariables false
namespace Go.Ae
theorem CLs.two {h : Heap} {v : AV} {d o p q : Int} {vs : List AV} (H : CLs h v d o [p, q] vs) : ∃ w1 w2, RI h w1 (sampL d p o.toNat) ∧ RI h w2 (sampL d q o.toNat) ∧ idxA 2 v (.int .i64 0) = some (elA 2 v 0) ∧ idxA 2 v (.int .i64 1) = some (elA 2 v 1) ∧
    Ae.loadA h true 2 (elA 2 v 0) = some (.agg [w1, .int .i64 o]) ∧ Ae.loadA h true 2 (elA 2 v 1) = some (.agg [w2, .int .i64 o]) ∧ fieldAddrA 0 (elA 2 v 0) = some (elF 2 v 0 0) ∧ Ae.loadA h false 1 (elF 2 v 0 0) = some w1 := by
  obtain ⟨w1, w2, rfl⟩ : ∃ w1 w2, vs = [w1, w2] := by
    have := H.len
    match vs, this with
    | [a, b], _ => exact ⟨a, b, rfl⟩
  have l0 := H.sl.loadA (k := 0) (by simp)
  have l1 := H.sl.loadA (k := 1) (by simp)
  have lf := H.sl.loadE (k := 0) (off := 0) (by simp) (by decide)
  exact ⟨w1, w2, H.ri 0 (by simp), H.ri 1 (by simp), H.sl.idx (k := 0) (by simp), H.sl.idx (k := 1) (by simp), l0, l1, H.sl.fldE 0 0 (by simp), lf⟩
theorem CLs.one {h : Heap} {v : AV} {d o p : Int} {vs : List AV} (H : CLs h v d o [p] vs) : ∃ w1, RI h w1 (sampL d p o.toNat) ∧ idxA 2 v (.int .i64 0) = some (elA 2 v 0) ∧ Ae.loadA h true 2 (elA 2 v 0) = some (.agg [w1, .int .i64 o]) := by
  obtain ⟨w1, rfl⟩ : ∃ w1, vs = [w1] := by
    have := H.len
    match vs, this with
    | [a], _ => exact ⟨a, rfl⟩
  exact ⟨w1, H.ri 0 (by simp), H.sl.idx (k := 0) (by simp), H.sl.loadA (k := 0) (by simp)⟩
theorem sampErr_cases (d o : Int) (ps : List Int) : sampErr d o ps = 0 ∨ sampErr d o ps = 2 := by unfold sampErr; split <;> simp
theorem sampErr_ok {d o : Int} {ps : List Int} (h : sampErr d o ps = 0) : lenOk d = true ∧ (1 ≤ o ∧ o ≤ 8) ∧ ∀ p ∈ ps, codeErr d p = 0 := by
  unfold sampErr at h
  split at h
  · rename_i c
    have k := c.1
    unfold knownErr at k
    split at k
    · rename_i kk; exact ⟨kk.1, kk.2, c.2⟩
    · cases k
  · cases h
def tup3 (x y e : Int) : AV := .tuple [.int .i64 x, .int .i64 y, .int .i64 e]
def partsOk (d o p q m s : Int) : Prop := sampErr d o [p, q] = 0 ∧ (-1 ≤ s ∧ s ≤ 1) ∧ 0 ≤ m ∧ m ≤ lenN d * o + min s 0
instance (d o p q m s : Int) : Decidable (partsOk d o p q m s) := by unfold partsOk; exact inferInstance
def partsE (d o p q m s : Int) : AV := if partsOk d o p q m s then tup3 (pf (sampL d p o.toNat) (sampL d q o.toNat) m s m.toNat) (ps (sampL d p o.toNat) (sampL d q o.toNat) m.toNat ((sampL d p o.toNat).length - m.toNat)) 0 else tup3 0 0 2
def crossE (d o p q : Int) : AV := if sampErr d o [p, q] = 0 then tup2 (greatI (sampL d p o.toNat) (sampL d q o.toNat) 0) 0 else tup2 0 2
def sideE (d o p : Int) : AV := if sampErr d o [p] = 0 then tup2 (greatI (sampL d p o.toNat) (sampL d p o.toNat) o.toNat) 0 else tup2 0 2
section
variable {C : Ctx}
set_option maxHeartbeats 1000000 in
theorem Parts_spec (hC : Has C T170) {d o p q m s : Int} {h : Heap} (hd : In64 d) (ho : In64 o) (hp : In64 p) (hq : In64 q) (hm : In64 m) (hs : In64 s) :
    ACalls C 170 [.int .i64 d, .int .i64 o, .int .i64 p, .int .i64 q, .int .i64 m, .int .i64 s] h (fun r h' => r = partsE d o p q m s ∧ HSub h h') := by
  have hsd := fun (h : Heap) (i : Nat) (hg : h.get i = some (.cells [.int .i64 p, .int .i64 q] true 0)) => sampled_spec (hC.sub (T' := T142) (by decide)) (vp := .slice i 0 2 (.known 2)) (ps := [p, q]) (h := h) hd ho (RI.known hg ⟨rfl, by decide⟩ (by decide)) (by simp [hp, hq]) (by simp)
  unfold In64 at hm hs
  rcases sampErr_cases d o [p, q] with c | c
  · simp only [c] at hsd
    have ok := sampErr_ok c
    have hN := lenN_eq ok.1
    obtain ⟨k, rfl⟩ := Int.eq_ofNat_of_zero_le (show 0 ≤ o by omega)
    have ln1 := sampL_length d p k
    have ln2 := sampL_length d q k
    have sz1 : lenN d ≤ lenN d * k := Nat.le_mul_of_pos_right _ (by omega)
    have sz2 : lenN d * k ≤ 1023 * 8 := Nat.mul_le_mul (by omega) (by omega)
    have em : (lenN d : Int) * (k : Nat) = ((lenN d * k : Nat) : Int) := by omega
    by_cases c2 : (-1 ≤ s ∧ s ≤ 1) ∧ 0 ≤ m ∧ m ≤ ((lenN d * k : Nat) : Int) + min s 0
    · obtain ⟨i, rfl⟩ := Int.eq_ofNat_of_zero_le c2.2.1
      have e : partsE d (k : Nat) p q (i : Nat) s = tup3 (pf (sampL d p k) (sampL d q k) (i : Nat) s i) (ps (sampL d p k) (sampL d q k) i ((sampL d p k).length - i)) 0 := by
        have hok : partsOk d (k : Nat) p q (i : Nat) s := ⟨c, c2.1, c2.2.1, by rw [em]; exact c2.2.2⟩
        unfold partsE
        rw [if_pos hok]; rfl
      rw [e]
      (refine calls_intro (hC.body (by decide) tab170) (Nat.le_of_ble_eq_true rfl) ?_); (show wp C _ none B170.code _ _); (simp only [B170]); simp -implicitDefEqProofs (disch := first | assumption | decide | omega | (simp only [wpD1] <;> omega) | (simp only [wpD2] <;> assumption) | solve_by_elim [HSub.refl, HSub.push, HSub.reserve] | fail) only [↓wpPre, wpPost, wpPoly, Int.reduceToNat, Int.reducePow, Int.reduceMul, Int.reduceAdd, Int.reduceSub, Int.reduceNeg, Nat.reduceAdd, Nat.reduceMul, Nat.reducePow, Int.reduceLT, Int.reduceLE, Int.reduceEq, Nat.reduceEqDiff]
      refine ACallsK.of (hsd _ _ (get_push_eq rfl)) ?_
      rintro r h1 ⟨v, vs, rfl, s1, hcl⟩
      have hsub : HSub h h1 := (HSub.push1 _ _).trans s1
      have x := (hcl trivial).two
      obtain ⟨w1, w2, R1, R2, ix0, ix1, ld0, ld1, fx, lf⟩ := x
      rw [Int.toNat_natCast] at R1 R2
      have pp := parts_spec (hC.sub (T' := T180) (by decide)) (o1 := k) (o2 := k) (s := s) (m := i) (h := h1) R1 R2 (sampL_one1 _ _ _) (sampL_one1 _ _ _) (by omega) (by omega) c2.1 (by omega)
      simp -implicitDefEqProofs (disch := first | assumption | decide | omega | (simp only [wpD1] <;> omega) | (simp only [wpD2] <;> assumption) | solve_by_elim [HSub.refl, HSub.push, HSub.reserve] | fail) only [↓wpPre, wpPost, wpPoly, Int.reduceToNat, Int.reducePow, Int.reduceMul, Int.reduceAdd, Int.reduceSub, Int.reduceNeg, Nat.reduceAdd, Nat.reduceMul, Nat.reducePow, Int.reduceLT, Int.reduceLE, Int.reduceEq, Nat.reduceEqDiff, lstErr, ix0, ix1, fx, lf, R1.len, ln1, ld0, ld1]
      refine ACallsK.eq pp ?_
      simp -implicitDefEqProofs (disch := first | assumption | decide | omega | (simp only [wpD1] <;> omega) | (simp only [wpD2] <;> assumption) | solve_by_elim [HSub.refl, HSub.push, HSub.reserve] | fail) only [↓wpPre, wpPost, wpPoly, Int.reduceToNat, Int.reducePow, Int.reduceMul, Int.reduceAdd, Int.reduceSub, Int.reduceNeg, Nat.reduceAdd, Nat.reduceMul, Nat.reducePow, Int.reduceLT, Int.reduceLE, Int.reduceEq, Nat.reduceEqDiff, tupPP]
      exact ⟨rfl, hsub⟩
    · have e : partsE d (k : Nat) p q m s = tup3 0 0 2 := by
        have hok : ¬ partsOk d (k : Nat) p q m s := fun h => c2 ⟨h.2.1, h.2.2.1, by have := h.2.2.2; rw [em] at this; exact this⟩
        unfold partsE
        rw [if_neg hok]
      rw [e]
      (refine calls_intro (hC.body (by decide) tab170) (Nat.le_of_ble_eq_true rfl) ?_); (show wp C _ none B170.code _ _); (simp only [B170]); simp -implicitDefEqProofs (disch := first | assumption | decide | omega | (simp only [wpD1] <;> omega) | (simp only [wpD2] <;> assumption) | solve_by_elim [HSub.refl, HSub.push, HSub.reserve] | fail) only [↓wpPre, wpPost, wpPoly, Int.reduceToNat, Int.reducePow, Int.reduceMul, Int.reduceAdd, Int.reduceSub, Int.reduceNeg, Nat.reduceAdd, Nat.reduceMul, Nat.reducePow, Int.reduceLT, Int.reduceLE, Int.reduceEq, Nat.reduceEqDiff]
      refine ACallsK.of (hsd _ _ (get_push_eq rfl)) ?_
      rintro r h1 ⟨v, vs, rfl, s1, hcl⟩
      have hsub : HSub h h1 := (HSub.push1 _ _).trans s1
      have x := (hcl trivial).two
      obtain ⟨w1, w2, R1, R2, ix0, ix1, ld0, ld1, fx, lf⟩ := x
      rw [Int.toNat_natCast] at R1 R2
      simp -implicitDefEqProofs (disch := first | assumption | decide | omega | (simp only [wpD1] <;> omega) | (simp only [wpD2] <;> assumption) | solve_by_elim [HSub.refl, HSub.push, HSub.reserve] | fail) only [↓wpPre, wpPost, wpPoly, Int.reduceToNat, Int.reducePow, Int.reduceMul, Int.reduceAdd, Int.reduceSub, Int.reduceNeg, Nat.reduceAdd, Nat.reduceMul, Nat.reducePow, Int.reduceLT, Int.reduceLE, Int.reduceEq, Nat.reduceEqDiff, lstErr, ix0, fx, lf, R1.len, ln1]
      (repeat' (first | (refine Br.by (fun _ => ?_) (fun _ => ?_)) | (simp -implicitDefEqProofs (disch := first | assumption | decide | omega | (simp only [wpD1] <;> omega) | (simp only [wpD2] <;> assumption) | solve_by_elim [HSub.refl, HSub.push, HSub.reserve] | fail) only [↓wpPre, wpPost, wpPoly, Int.reduceToNat, Int.reducePow, Int.reduceMul, Int.reduceAdd, Int.reduceSub, Int.reduceNeg, Nat.reduceAdd, Nat.reduceMul, Nat.reducePow, Int.reduceLT, Int.reduceLE, Int.reduceEq, Nat.reduceEqDiff, ix0, fx, lf, R1.len, ln1])))
      all_goals first | exact ⟨rfl, hsub⟩ | (exfalso; omega)
  · simp only [c] at hsd
    have e : partsE d o p q m s = tup3 0 0 2 := by
      have hok : ¬ partsOk d o p q m s := fun h => by have := h.1; omega
      unfold partsE
      rw [if_neg hok]
    rw [e]
    (refine calls_intro (hC.body (by decide) tab170) (Nat.le_of_ble_eq_true rfl) ?_); (show wp C _ none B170.code _ _); (simp only [B170]); simp -implicitDefEqProofs (disch := first | assumption | decide | omega | (simp only [wpD1] <;> omega) | (simp only [wpD2] <;> assumption) | solve_by_elim [HSub.refl, HSub.push, HSub.reserve] | fail) only [↓wpPre, wpPost, wpPoly, Int.reduceToNat, Int.reducePow, Int.reduceMul, Int.reduceAdd, Int.reduceSub, Int.reduceNeg, Nat.reduceAdd, Nat.reduceMul, Nat.reducePow, Int.reduceLT, Int.reduceLE, Int.reduceEq, Nat.reduceEqDiff]
    refine ACallsK.of (hsd _ _ (get_push_eq rfl)) ?_
    rintro r h1 ⟨v, vs, rfl, s1, hcl⟩
    have hsub : HSub h h1 := (HSub.push1 _ _).trans s1
    simp -implicitDefEqProofs (disch := first | assumption | decide | omega | (simp only [wpD1] <;> omega) | (simp only [wpD2] <;> assumption) | solve_by_elim [HSub.refl, HSub.push, HSub.reserve] | fail) only [↓wpPre, wpPost, wpPoly, Int.reduceToNat, Int.reducePow, Int.reduceMul, Int.reduceAdd, Int.reduceSub, Int.reduceNeg, Nat.reduceAdd, Nat.reduceMul, Nat.reducePow, Int.reduceLT, Int.reduceLE, Int.reduceEq, Nat.reduceEqDiff, lstErr]
    exact ⟨rfl, hsub⟩
theorem Cross_spec (hC : Has C T173) {d o p q : Int} {h : Heap} (hd : In64 d) (ho : In64 o) (hp : In64 p) (hq : In64 q) :
    ACalls C 173 [.int .i64 d, .int .i64 o, .int .i64 p, .int .i64 q] h (fun r h' => r = crossE d o p q ∧ HSub h h') := by
  have hsd := fun (h : Heap) (i : Nat) (hg : h.get i = some (.cells [.int .i64 p, .int .i64 q] true 0)) => sampled_spec (hC.sub (T' := T142) (by decide)) (vp := .slice i 0 2 (.known 2)) (ps := [p, q]) (h := h) hd ho (RI.known hg ⟨rfl, by decide⟩ (by decide)) (by simp [hp, hq]) (by simp)
  unfold crossE
  rcases sampErr_cases d o [p, q] with c | c
  · simp only [c] at hsd
    rw [if_pos c]
    have ok := sampErr_ok c
    have hN := lenN_eq ok.1
    obtain ⟨k, rfl⟩ := Int.eq_ofNat_of_zero_le (show 0 ≤ o by omega)
    have ln1 := sampL_length d p k
    have ln2 := sampL_length d q k
    have sz1 : lenN d ≤ lenN d * k := Nat.le_mul_of_pos_right _ (by omega)
    have sz2 : lenN d * k ≤ 1023 * 8 := Nat.mul_le_mul (by omega) (by omega)
    rw [Int.toNat_natCast]
    (refine calls_intro (hC.body (by decide) tab173) (Nat.le_of_ble_eq_true rfl) ?_); (show wp C _ none B173.code _ _); (simp only [B173]); simp -implicitDefEqProofs (disch := first | assumption | decide | omega | (simp only [wpD1] <;> omega) | (simp only [wpD2] <;> assumption) | solve_by_elim [HSub.refl, HSub.push, HSub.reserve] | fail) only [↓wpPre, wpPost, wpPoly, Int.reduceToNat, Int.reducePow, Int.reduceMul, Int.reduceAdd, Int.reduceSub, Int.reduceNeg, Nat.reduceAdd, Nat.reduceMul, Nat.reducePow, Int.reduceLT, Int.reduceLE, Int.reduceEq, Nat.reduceEqDiff]
    refine ACallsK.of (hsd _ _ (get_push_eq rfl)) ?_
    rintro r h1 ⟨v, vs, rfl, s1, hcl⟩
    have hsub : HSub h h1 := (HSub.push1 _ _).trans s1
    have x := (hcl trivial).two
    obtain ⟨w1, w2, R1, R2, ix0, ix1, ld0, ld1, fx, lf⟩ := x
    rw [Int.toNat_natCast] at R1 R2
    have pp := great_spec (hC.sub (T' := T183) (by decide)) (o1 := k) (o2 := k) (mg := 0) (h := h1) R1 R2 (sampL_one1 _ _ _) (sampL_one1 _ _ _) (by omega) (by omega)
    simp -implicitDefEqProofs (disch := first | assumption | decide | omega | (simp only [wpD1] <;> omega) | (simp only [wpD2] <;> assumption) | solve_by_elim [HSub.refl, HSub.push, HSub.reserve] | fail) only [↓wpPre, wpPost, wpPoly, Int.reduceToNat, Int.reducePow, Int.reduceMul, Int.reduceAdd, Int.reduceSub, Int.reduceNeg, Nat.reduceAdd, Nat.reduceMul, Nat.reducePow, Int.reduceLT, Int.reduceLE, Int.reduceEq, Nat.reduceEqDiff, lstErr, ix0, ix1, ld0, ld1]
    refine ACallsK.eq pp ?_
    simp -implicitDefEqProofs (disch := first | assumption | decide | omega | (simp only [wpD1] <;> omega) | (simp only [wpD2] <;> assumption) | solve_by_elim [HSub.refl, HSub.push, HSub.reserve] | fail) only [↓wpPre, wpPost, wpPoly, Int.reduceToNat, Int.reducePow, Int.reduceMul, Int.reduceAdd, Int.reduceSub, Int.reduceNeg, Nat.reduceAdd, Nat.reduceMul, Nat.reducePow, Int.reduceLT, Int.reduceLE, Int.reduceEq, Nat.reduceEqDiff]
    exact ⟨rfl, hsub⟩
  · simp only [c] at hsd
    rw [if_neg (by omega)]
    (refine calls_intro (hC.body (by decide) tab173) (Nat.le_of_ble_eq_true rfl) ?_); (show wp C _ none B173.code _ _); (simp only [B173]); simp -implicitDefEqProofs (disch := first | assumption | decide | omega | (simp only [wpD1] <;> omega) | (simp only [wpD2] <;> assumption) | solve_by_elim [HSub.refl, HSub.push, HSub.reserve] | fail) only [↓wpPre, wpPost, wpPoly, Int.reduceToNat, Int.reducePow, Int.reduceMul, Int.reduceAdd, Int.reduceSub, Int.reduceNeg, Nat.reduceAdd, Nat.reduceMul, Nat.reducePow, Int.reduceLT, Int.reduceLE, Int.reduceEq, Nat.reduceEqDiff]
    refine ACallsK.of (hsd _ _ (get_push_eq rfl)) ?_
    rintro r h1 ⟨v, vs, rfl, s1, hcl⟩
    have hsub : HSub h h1 := (HSub.push1 _ _).trans s1
    simp -implicitDefEqProofs (disch := first | assumption | decide | omega | (simp only [wpD1] <;> omega) | (simp only [wpD2] <;> assumption) | solve_by_elim [HSub.refl, HSub.push, HSub.reserve] | fail) only [↓wpPre, wpPost, wpPoly, Int.reduceToNat, Int.reducePow, Int.reduceMul, Int.reduceAdd, Int.reduceSub, Int.reduceNeg, Nat.reduceAdd, Nat.reduceMul, Nat.reducePow, Int.reduceLT, Int.reduceLE, Int.reduceEq, Nat.reduceEqDiff, lstErr]
    exact ⟨rfl, hsub⟩
theorem Side_spec (hC : Has C T175) {d o p : Int} {h : Heap} (hd : In64 d) (ho : In64 o) (hp : In64 p) :
    ACalls C 175 [.int .i64 d, .int .i64 o, .int .i64 p] h (fun r h' => r = sideE d o p ∧ HSub h h') := by
  have hsd := fun (h : Heap) (i : Nat) (hg : h.get i = some (.cells [.int .i64 p] true 0)) => sampled_spec (hC.sub (T' := T142) (by decide)) (vp := .slice i 0 1 (.known 1)) (ps := [p]) (h := h) hd ho (RI.known hg ⟨rfl, by decide⟩ (by decide)) (by simp [hp]) (by simp)
  unfold sideE
  rcases sampErr_cases d o [p] with c | c
  · simp only [c] at hsd
    rw [if_pos c]
    have ok := sampErr_ok c
    have hN := lenN_eq ok.1
    obtain ⟨k, rfl⟩ := Int.eq_ofNat_of_zero_le (show 0 ≤ o by omega)
    have ln1 := sampL_length d p k
    have sz1 : lenN d ≤ lenN d * k := Nat.le_mul_of_pos_right _ (by omega)
    have sz2 : lenN d * k ≤ 1023 * 8 := Nat.mul_le_mul (by omega) (by omega)
    rw [Int.toNat_natCast]
    (refine calls_intro (hC.body (by decide) tab175) (Nat.le_of_ble_eq_true rfl) ?_); (show wp C _ none B175.code _ _); (simp only [B175]); simp -implicitDefEqProofs (disch := first | assumption | decide | omega | (simp only [wpD1] <;> omega) | (simp only [wpD2] <;> assumption) | solve_by_elim [HSub.refl, HSub.push, HSub.reserve] | fail) only [↓wpPre, wpPost, wpPoly, Int.reduceToNat, Int.reducePow, Int.reduceMul, Int.reduceAdd, Int.reduceSub, Int.reduceNeg, Nat.reduceAdd, Nat.reduceMul, Nat.reducePow, Int.reduceLT, Int.reduceLE, Int.reduceEq, Nat.reduceEqDiff]
    refine ACallsK.of (hsd _ _ (get_push_eq rfl)) ?_
    rintro r h1 ⟨v, vs, rfl, s1, hcl⟩
    have hsub : HSub h h1 := (HSub.push1 _ _).trans s1
    have x := (hcl trivial).one
    obtain ⟨w1, R1, ix0, ld0⟩ := x
    rw [Int.toNat_natCast] at R1
    have pp := great_spec (hC.sub (T' := T183) (by decide)) (o1 := k) (o2 := k) (mg := k) (h := h1) R1 R1 (sampL_one1 _ _ _) (sampL_one1 _ _ _) (by omega) (by omega)
    simp -implicitDefEqProofs (disch := first | assumption | decide | omega | (simp only [wpD1] <;> omega) | (simp only [wpD2] <;> assumption) | solve_by_elim [HSub.refl, HSub.push, HSub.reserve] | fail) only [↓wpPre, wpPost, wpPoly, Int.reduceToNat, Int.reducePow, Int.reduceMul, Int.reduceAdd, Int.reduceSub, Int.reduceNeg, Nat.reduceAdd, Nat.reduceMul, Nat.reducePow, Int.reduceLT, Int.reduceLE, Int.reduceEq, Nat.reduceEqDiff, lstErr, ix0, ld0]
    refine ACallsK.eq pp ?_
    simp -implicitDefEqProofs (disch := first | assumption | decide | omega | (simp only [wpD1] <;> omega) | (simp only [wpD2] <;> assumption) | solve_by_elim [HSub.refl, HSub.push, HSub.reserve] | fail) only [↓wpPre, wpPost, wpPoly, Int.reduceToNat, Int.reducePow, Int.reduceMul, Int.reduceAdd, Int.reduceSub, Int.reduceNeg, Nat.reduceAdd, Nat.reduceMul, Nat.reducePow, Int.reduceLT, Int.reduceLE, Int.reduceEq, Nat.reduceEqDiff]
    exact ⟨rfl, hsub⟩
  · simp only [c] at hsd
    rw [if_neg (by omega)]
    (refine calls_intro (hC.body (by decide) tab175) (Nat.le_of_ble_eq_true rfl) ?_); (show wp C _ none B175.code _ _); (simp only [B175]); simp -implicitDefEqProofs (disch := first | assumption | decide | omega | (simp only [wpD1] <;> omega) | (simp only [wpD2] <;> assumption) | solve_by_elim [HSub.refl, HSub.push, HSub.reserve] | fail) only [↓wpPre, wpPost, wpPoly, Int.reduceToNat, Int.reducePow, Int.reduceMul, Int.reduceAdd, Int.reduceSub, Int.reduceNeg, Nat.reduceAdd, Nat.reduceMul, Nat.reducePow, Int.reduceLT, Int.reduceLE, Int.reduceEq, Nat.reduceEqDiff]
    refine ACallsK.of (hsd _ _ (get_push_eq rfl)) ?_
    rintro r h1 ⟨v, vs, rfl, s1, hcl⟩
    have hsub : HSub h h1 := (HSub.push1 _ _).trans s1
    simp -implicitDefEqProofs (disch := first | assumption | decide | omega | (simp only [wpD1] <;> omega) | (simp only [wpD2] <;> assumption) | solve_by_elim [HSub.refl, HSub.push, HSub.reserve] | fail) only [↓wpPre, wpPost, wpPoly, Int.reduceToNat, Int.reducePow, Int.reduceMul, Int.reduceAdd, Int.reduceSub, Int.reduceNeg, Nat.reduceAdd, Nat.reduceMul, Nat.reducePow, Int.reduceLT, Int.reduceLE, Int.reduceEq, Nat.reduceEqDiff, lstErr]
    exact ⟨rfl, hsub⟩
end
end Go.Ae

/- The spectrum of two codes, of the program. -/
set_option linter.unusedSimpArgs false
set_option linter.unusedVariables false
namespace Go.Ae
theorem GrwS.at {h0 h : Heap} {v : AV} {l : List (Int × Int)} (A : GrwS h0 h v l) (hl : 0 < l.length) : ∃ i ex, h0.size ≤ i ∧ v = .slice i 0 l.length (.unk 0) ∧ h.get i = some (.cells (smps l ++ ex) true 2) := by
  obtain ⟨_, _, _, ⟨_, h1⟩ | ⟨i, ex, hi, hv, hg⟩⟩ := A
  · omega
  · exact ⟨i, ex, hi, hv, hg⟩
theorem GrwS.turn {h0 h : Heap} {i : Nat} {l : List (Int × Int)} {ex : List AV} {k : Nat} {x y : Int} (A : GrwS h0 h (.slice i 0 l.length (.unk 0)) l) (hi : h0.size ≤ i) (hg : h.get i = some (.cells (smps l ++ ex) true 2)) (hk : k < l.length) (hx : (l.getD k (0, 0)).1 = x) :
    (smps l ++ ex).set (k * 2 + 1) (.int .i64 y) = smps (l.set k (x, y)) ++ ex ∧ GrwS h0 (h.put i (.cells (smps (l.set k (x, y)) ++ ex) true 2)) (.slice i 0 l.length (.unk 0)) (l.set k (x, y)) := by
  have hlt := Heap.lt_of_get hg
  have hle : (l.set k (x, y)).length = l.length := List.length_set
  refine ⟨?_, ⟨A.sub.put hi _, smps_length, by have := A.2.2.1; omega, .inr ⟨i, ex, hi, by rw [hle], get_put_eq rfl hlt⟩⟩⟩
  rw [List.set_append_left _ _ (by rw [smps_length]; omega)]
  congr 1
  clear A hg hi hlt hle
  induction l generalizing k with
  | nil => simp at hk
  | cons p l ih =>
    cases k with
    | zero =>
      simp only [List.getD_cons_zero] at hx
      rw [smps_cons, List.set_cons_zero, smps_cons, hx]; rfl
    | succ k =>
      rw [List.getD_cons_succ] at hx
      rw [show (k + 1) * 2 + 1 = k * 2 + 1 + 1 + 1 by omega, smps_cons, List.set_cons_succ, List.set_cons_succ, List.set_cons_succ, smps_cons, ih (by simpa using hk) hx]
theorem CLs.twoF {h : Heap} {v : AV} {d o p q : Int} {vs : List AV} (H : CLs h v d o [p, q] vs) : ∃ w1 w2, RI h w1 (sampL d p o.toNat) ∧ RI h w2 (sampL d q o.toNat) ∧ idxA 2 v (.int .i64 0) = some (elA 2 v 0) ∧ idxA 2 v (.int .i64 1) = some (elA 2 v 1) ∧
    fieldAddrA 0 (elA 2 v 0) = some (elF 2 v 0 0) ∧ fieldAddrA 0 (elA 2 v 1) = some (elF 2 v 1 0) ∧ Ae.loadA h false 1 (elF 2 v 0 0) = some w1 ∧ Ae.loadA h false 1 (elF 2 v 1 0) = some w2 := by
  obtain ⟨w1, w2, rfl⟩ : ∃ w1 w2, vs = [w1, w2] := by
    have := H.len
    match vs, this with
    | [a, b], _ => exact ⟨a, b, rfl⟩
  have lf := H.sl.loadE (k := 0) (off := 0) (by simp) (by decide)
  have lg := H.sl.loadE (k := 1) (off := 0) (by simp) (by decide)
  exact ⟨w1, w2, H.ri 0 (by simp), H.ri 1 (by simp), H.sl.idx (k := 0) (by simp), H.sl.idx (k := 1) (by simp), H.sl.fldE 0 0 (by simp), H.sl.fldE 1 0 (by simp), lf, lg⟩
def specOut (d p q : Int) : List (Int × Int) := rleL (sortL (circ (sampL d p 1) (sampL d q 1))) (lenN d)
theorem one1_bigs {l : List Int} (h : one1 l) : l.any bigs = false := by
  rw [List.any_eq_false]
  intro x hx
  have := h x hx
  unfold bigs
  simp
  omega
section
variable {C : Ctx}
set_option maxHeartbeats 2000000 in
theorem Spectrum_spec (hC : Has C T164) (hS : SortOk C 178) {d p q : Int} {h : Heap} (hd : In64 d) (hp : In64 p) (hq : In64 q) :
    ACalls C 164 [.int .i64 d, .int .i64 p, .int .i64 q] h (fun r h' => ∃ v, r = lstErr v (sampErr d 1 [p, q]) ∧ HSub h h' ∧ SI h' v (if sampErr d 1 [p, q] = 0 then specOut d p q else [])) := by
  have hsd := fun (h : Heap) (i : Nat) (hg : h.get i = some (.cells [.int .i64 p, .int .i64 q] true 0)) => sampled_spec (hC.sub (T' := T142) (by decide)) (vp := .slice i 0 2 (.known 2)) (ps := [p, q]) (h := h) hd (show In64 1 by unfold In64; omega) (RI.known hg ⟨rfl, by decide⟩ (by decide)) (by simp [hp, hq]) (by simp)
  rcases sampErr_cases d 1 [p, q] with c | c
  · simp only [c] at hsd
    rw [c, if_pos rfl]
    have ok := sampErr_ok c
    have hN := lenN_eq ok.1
    have ln1 := sampL_length d p 1
    have ln2 := sampL_length d q 1
    rw [Nat.mul_one] at ln1 ln2
    have ce : circErr (sampL d p 1) (sampL d q 1) = 0 := by
      unfold circErr
      rw [if_neg (by omega), if_neg (by omega), if_neg (by omega), if_neg (by rw [one1_bigs (sampL_one1 _ _ _), one1_bigs (sampL_one1 _ _ _)]; simp)]
    have cl := circ_length (sampL d p 1) (sampL d q 1)
    rw [ln1] at cl
    obtain ⟨l, hl⟩ : ∃ l, l = circ (sampL d p 1) (sampL d q 1) := ⟨_, rfl⟩
    have lle : l.length = lenN d := by rw [hl, cl]
    have so : specOut d p q = rleL (sortL l) l.length := by unfold specOut; rw [hl.symm, lle]
    rw [so]
    have sll : (sortL l).length = l.length := by unfold sortL; rw [List.length_mergeSort]
    (refine calls_intro (hC.body (by decide) tab164) (Nat.le_of_ble_eq_true rfl) ?_); (show wp C _ none B164.code _ _); (simp only [B164]); simp -implicitDefEqProofs (disch := first | assumption | decide | omega | (simp only [wpD1] <;> omega) | (simp only [wpD2] <;> assumption) | solve_by_elim [HSub.refl, HSub.push, HSub.reserve] | fail) only [↓wpPre, wpPost, wpPoly, Int.reduceToNat, Int.reducePow, Int.reduceMul, Int.reduceAdd, Int.reduceSub, Int.reduceNeg, Nat.reduceAdd, Nat.reduceMul, Nat.reducePow, Int.reduceLT, Int.reduceLE, Int.reduceEq, Nat.reduceEqDiff]
    refine ACallsK.of (hsd _ _ (get_push_eq rfl)) ?_
    rintro r h1 ⟨v, vs, rfl, s1, hcl⟩
    have hsub : HSub h h1 := (HSub.push1 _ _).trans s1
    have x := (hcl trivial).twoF
    obtain ⟨w1, w2, R1, R2, ix0, ix1, fx, fx1, lf, lf1⟩ := x
    rw [show (1 : Int).toNat = 1 from rfl] at R1 R2
    have hcirc := CircP_specF (hC.sub (T' := T25) (by decide)) (h := h1) R1 R2
    rw [ce] at hcirc
    simp -implicitDefEqProofs (disch := first | assumption | decide | omega | (simp only [wpD1] <;> omega) | (simp only [wpD2] <;> assumption) | solve_by_elim [HSub.refl, HSub.push, HSub.reserve] | fail) only [↓wpPre, wpPost, wpPoly, Int.reduceToNat, Int.reducePow, Int.reduceMul, Int.reduceAdd, Int.reduceSub, Int.reduceNeg, Nat.reduceAdd, Nat.reduceMul, Nat.reducePow, Int.reduceLT, Int.reduceLE, Int.reduceEq, Nat.reduceEqDiff, lstErr, ix0, ix1, fx, fx1, lf, lf1]
    refine ACallsK.of hcirc ?_
    rintro r h2 ⟨v2, rfl, s2, _, F0⟩
    have F := F0 rfl
    rw [← hl] at F
    obtain ⟨_, _, i2, hi2, rfl, g2⟩ := F
    have l2 := Heap.lt_of_get g2
    have srt := sortA_spec (c := .known l.length) hS g2 (by rw [hl, cl]; omega)
    simp -implicitDefEqProofs (disch := first | assumption | decide | omega | (simp only [wpD1] <;> omega) | (simp only [wpD2] <;> assumption) | solve_by_elim [HSub.refl, HSub.push, HSub.reserve] | fail) only [↓wpPre, wpPost, wpPoly, Int.reduceToNat, Int.reducePow, Int.reduceMul, Int.reduceAdd, Int.reduceSub, Int.reduceNeg, Nat.reduceAdd, Nat.reduceMul, Nat.reducePow, Int.reduceLT, Int.reduceLE, Int.reduceEq, Nat.reduceEqDiff, lstErr]
    refine ACallsK.eq srt ?_
    have g3 : (h2.put i2 (.cells (ints (sortL l)) true 0)).get i2 = some (.cells (ints (sortL l)) true 0) := get_put_eq rfl l2
    have R3 : RI (h2.put i2 (.cells (ints (sortL l)) true 0)) (.slice i2 0 l.length (.known l.length)) (sortL l) := RI.known g3 ⟨sll.symm, by omega⟩ (Nat.le_refl _)
    have hsub3 : HSub h (h2.put i2 (.cells (ints (sortL l)) true 0)) := (hsub.trans s2).put (by have := hsub.size; omega) _
    simp -implicitDefEqProofs (disch := first | assumption | decide | omega | (simp only [wpD1] <;> omega) | (simp only [wpD2] <;> assumption) | solve_by_elim [HSub.refl, HSub.push, HSub.reserve] | fail) only [↓wpPre, wpPost, wpPoly, Int.reduceToNat, Int.reducePow, Int.reduceMul, Int.reduceAdd, Int.reduceSub, Int.reduceNeg, Nat.reduceAdd, Nat.reduceMul, Nat.reducePow, Int.reduceLT, Int.reduceLE, Int.reduceEq, Nat.reduceEqDiff]
    refine wp_loopI (fun j t h' => ∃ k : Nat, GrwS (h2.put i2 (.cells (ints (sortL l)) true 0)) h' (t 12) (rleL (sortL l) k) ∧ t 41 = .slice i2 0 l.length (.known l.length) ∧ t 42 = .int .i64 (l.length : Nat) ∧ t 43 = .int .i64 (k : Nat) ∧ k ≤ l.length ∧ j = l.length - k) (j0 := l.length)
      ⟨0, GrwS.nil _, rfl, rfl, rfl, by omega, rfl⟩ ?_
    rintro j t h4 ⟨k, A, e41, e42, e43, hk, hj⟩
    simp -implicitDefEqProofs (disch := first | assumption | decide | omega | (simp only [wpD1] <;> omega) | (simp only [wpD2] <;> assumption) | solve_by_elim [HSub.refl, HSub.push, HSub.reserve] | fail) only [↓wpPre, wpPost, wpPoly, Int.reduceToNat, Int.reducePow, Int.reduceMul, Int.reduceAdd, Int.reduceSub, Int.reduceNeg, Nat.reduceAdd, Nat.reduceMul, Nat.reducePow, Int.reduceLT, Int.reduceLE, Int.reduceEq, Nat.reduceEqDiff, e42, e43]
    refine Br.by (fun c1 => ?_) (fun c1 => ?_)
    · have hk' : k < l.length := by omega
      have g4 : h4.get i2 = some (.cells (ints (sortL l)) true 0) := (A.sub.get _ (by simpa using l2)).trans g3
      have ld : (ints (sortL l))[k]? = some (.int .i64 ((sortL l).getD k 0)) := ints_get (by omega)
      have rl := rleL_len (sortL l) k
      have rp := rleL_pos (sortL l) k
      have rs := rleL_succ (l := sortL l) (k := k) (by omega)
      have xy : ∃ y, y = (sortL l).getD k 0 := ⟨_, rfl⟩
      obtain ⟨y, hy⟩ := xy
      rw [← hy] at ld rs
      have A' := A
      unfold stepR at rs
      by_cases c2 : 0 < (rleL (sortL l) k).length
      · have x3 := A.at c2
        obtain ⟨i, ex, hi, hv, hg⟩ := x3
        have xm : ∃ m, (rleL (sortL l) k).length = m + 1 := ⟨(rleL (sortL l) k).length - 1, by omega⟩
        obtain ⟨m, hm⟩ := xm
        rw [hm, Nat.add_sub_cancel] at rs
        rw [hm] at hv
        have P := rp _ (getP_mem (k := m) (by omega))
        have q0 : (smps (rleL (sortL l) k) ++ ex)[m * 2]? = some (.int .i64 ((rleL (sortL l) k).getD m (0, 0)).1) := by
          rw [List.getElem?_append_left (by rw [smps_length]; omega), smps_get0, List.getElem?_eq_getElem (by omega)]; simp [show m < (rleL (sortL l) k).length by omega]
        have q1 : (smps (rleL (sortL l) k) ++ ex)[m * 2 + 1]? = some (.int .i64 ((rleL (sortL l) k).getD m (0, 0)).2) := by
          rw [List.getElem?_append_left (by rw [smps_length]; omega), smps_get1, List.getElem?_eq_getElem (by omega)]; simp [show m < (rleL (sortL l) k).length by omega]
        have hlt := Heap.lt_of_get hg
        have em : ((m + 1 : Nat) : Int) - 1 = (m : Nat) := by omega
        have wl : (smps (rleL (sortL l) k) ++ ex).length = (m + 1) * 2 + ex.length := by rw [List.length_append, smps_length, hm]
        by_cases c3 : ((rleL (sortL l) k).getD m (0, 0)).1 = y
        · rw [if_pos ⟨by omega, c3⟩] at rs
          rw [hv] at A'
          have At := (hm ▸ A').turn (y := ((rleL (sortL l) k).getD m (0, 0)).2 + 1) hi hg (by omega) c3
          simp -implicitDefEqProofs (disch := first | assumption | decide | omega | (simp only [wpD1] <;> omega) | (simp only [wpD2] <;> assumption) | solve_by_elim [HSub.refl, HSub.push, HSub.reserve] | fail) only [↓wpPre, wpPost, wpPoly, Int.reduceToNat, Int.reducePow, Int.reduceMul, Int.reduceAdd, Int.reduceSub, Int.reduceNeg, Nat.reduceAdd, Nat.reduceMul, Nat.reducePow, Int.reduceLT, Int.reduceLE, Int.reduceEq, Nat.reduceEqDiff, e41, e43, g4, ld, hv, hg, q0, q1, c3, em, At.1, e42]
          exact ⟨_, ⟨k + 1, by rw [rs]; have q2 := At.2; rw [hm] at q2; exact q2, by simp, by omega, rfl⟩, by omega⟩
        · rw [if_neg (fun h => c3 h.2)] at rs
          have sl := A.snoc (x := y) (y := 1) (HSub.push1 h4 (.cells [.int .i64 y, .int .i64 1] true 0)) (by omega)
          rw [← rs] at sl
          have ap := A.app (x := y) (y := 1)
          rw [← rs, hm] at ap
          rw [hm] at sl
          have ne : ¬ ((rleL (sortL l) k).getD m (0, 0)).1 = y := c3
          rw [hv] at ap sl
          simp -implicitDefEqProofs (disch := first | assumption | decide | omega | (simp only [wpD1] <;> omega) | (simp only [wpD2] <;> assumption) | solve_by_elim [HSub.refl, HSub.push, HSub.reserve] | fail) only [↓wpPre, wpPost, wpPoly, Int.reduceToNat, Int.reducePow, Int.reduceMul, Int.reduceAdd, Int.reduceSub, Int.reduceNeg, Nat.reduceAdd, Nat.reduceMul, Nat.reducePow, Int.reduceLT, Int.reduceLE, Int.reduceEq, Nat.reduceEqDiff, e41, e43, g4, ld, hv, hg, q0, q1, em, cont_slice, contB_two, ap, e42]
          exact ⟨_, ⟨k + 1, sl, by simp, by omega, rfl⟩, by omega⟩
      · have z0 : (rleL (sortL l) k).length = 0 := by omega
        rw [if_neg (fun h => c2 h.1)] at rs
        have ap := A.app (x := y) (y := 1)
        have sl := A.snoc (x := y) (y := 1) (HSub.push1 h4 (.cells [.int .i64 y, .int .i64 1] true 0)) (by omega)
        rw [← rs] at sl ap
        have lv := A.si.len
        rw [z0] at lv
        simp -implicitDefEqProofs (disch := first | assumption | decide | omega | (simp only [wpD1] <;> omega) | (simp only [wpD2] <;> assumption) | solve_by_elim [HSub.refl, HSub.push, HSub.reserve] | fail) only [↓wpPre, wpPost, wpPoly, Int.reduceToNat, Int.reducePow, Int.reduceMul, Int.reduceAdd, Int.reduceSub, Int.reduceNeg, Nat.reduceAdd, Nat.reduceMul, Nat.reducePow, Int.reduceLT, Int.reduceLE, Int.reduceEq, Nat.reduceEqDiff, e41, e43, g4, ld, lv, cont_slice, contB_two, ap, e42]
        exact ⟨_, ⟨k + 1, sl, by simp, by omega, rfl⟩, by omega⟩
    · have ek : k = l.length := by omega
      subst ek
      simp -implicitDefEqProofs (disch := first | assumption | decide | omega | (simp only [wpD1] <;> omega) | (simp only [wpD2] <;> assumption) | solve_by_elim [HSub.refl, HSub.push, HSub.reserve] | fail) only [↓wpPre, wpPost, wpPoly, Int.reduceToNat, Int.reducePow, Int.reduceMul, Int.reduceAdd, Int.reduceSub, Int.reduceNeg, Nat.reduceAdd, Nat.reduceMul, Nat.reducePow, Int.reduceLT, Int.reduceLE, Int.reduceEq, Nat.reduceEqDiff]
      exact ⟨_, rfl, hsub3.trans A.sub, A.si⟩
  · simp only [c] at hsd
    rw [c, if_neg (by decide)]
    (refine calls_intro (hC.body (by decide) tab164) (Nat.le_of_ble_eq_true rfl) ?_); (show wp C _ none B164.code _ _); (simp only [B164]); simp -implicitDefEqProofs (disch := first | assumption | decide | omega | (simp only [wpD1] <;> omega) | (simp only [wpD2] <;> assumption) | solve_by_elim [HSub.refl, HSub.push, HSub.reserve] | fail) only [↓wpPre, wpPost, wpPoly, Int.reduceToNat, Int.reducePow, Int.reduceMul, Int.reduceAdd, Int.reduceSub, Int.reduceNeg, Nat.reduceAdd, Nat.reduceMul, Nat.reducePow, Int.reduceLT, Int.reduceLE, Int.reduceEq, Nat.reduceEqDiff]
    refine ACallsK.of (hsd _ _ (get_push_eq rfl)) ?_
    rintro r h1 ⟨v, vs, rfl, s1, hcl⟩
    have hsub : HSub h h1 := (HSub.push1 _ _).trans s1
    simp -implicitDefEqProofs (disch := first | assumption | decide | omega | (simp only [wpD1] <;> omega) | (simp only [wpD2] <;> assumption) | solve_by_elim [HSub.refl, HSub.push, HSub.reserve] | fail) only [↓wpPre, wpPost, wpPoly, Int.reduceToNat, Int.reducePow, Int.reduceMul, Int.reduceAdd, Int.reduceSub, Int.reduceNeg, Nat.reduceAdd, Nat.reduceMul, Nat.reducePow, Int.reduceLT, Int.reduceLE, Int.reduceEq, Nat.reduceEqDiff, lstErr]
    exact ⟨_, rfl, hsub, SI.nil⟩
end
end Go.Ae

/- The spectrum of two codes, of the reference. -/
set_option linter.unusedSimpArgs false
set_option linter.unusedVariables false
namespace Go.Ae
theorem sampL_one (d p : Int) : sampL d p 1 = codeL d p := by
  unfold sampL
  induction codeL d p with
  | nil => rfl
  | cons x l ih => rw [List.map_cons, List.flatten_cons, ih]; rfl
theorem cs_one1 {a b : List Int} (oa : one1 a) (ob : one1 b) (k : Nat) : ∀ i : Nat, -(i : Int) ≤ cs a b k i ∧ cs a b k i ≤ i
  | 0 => by simp [cs]
  | i + 1 => by
    have ih := cs_one1 oa ob k i
    have := mul_one1 (oa.get i) (ob.get ((i + k) % b.length))
    rw [cs]; omega
theorem circ_in {a b : List Int} (oa : one1 a) (ob : one1 b) : ∀ x ∈ circ a b, -(a.length : Int) ≤ x ∧ x ≤ a.length := by
  intro x hx
  obtain ⟨k, _, rfl⟩ := List.mem_map.1 hx
  exact cs_one1 oa ob k _
theorem specOut_eq (d p q : Int) : specOut d p q = specK (circ (codeL d p) (codeL d q)) (lenN d) (2 * lenN d + 1) := by
  unfold specOut
  rw [sampL_one, sampL_one]
  have oa : one1 (codeL d p) := codeL_range
  have ob : one1 (codeL d q) := codeL_range
  have := rle_spec (l := circ (codeL d p) (codeL d q)) (n := lenN d) (by have := circ_in oa ob; rwa [codeL_length] at this)
  rw [circ_length, codeL_length] at this
  exact this
theorem codeErr_cases (d p : Int) : codeErr d p = 0 ∨ codeErr d p = 2 := by unfold codeErr; split <;> simp
section
variable {C : Ctx}
end
end Go.Ae

/- Lists of lists of numbers, read and compared; pairs as lists. -/
set_option linter.unusedSimpArgs false
set_option linter.unusedVariables false
namespace Go.Ae
def LLI (h : Heap) (v : AV) (ll : List (List Int)) : Prop := ∃ vs : List AV, SL h 1 v ll.length vs ∧ vs.length = ll.length ∧ ∀ i, i < ll.length → RI h (vs.getD i .nilslice) (ll.getD i [])
theorem LLI.mono {h h' : Heap} {v : AV} {ll : List (List Int)} (H : LLI h v ll) (hs : HSub h h') : LLI h' v ll := by
  obtain ⟨vs, a, b, c⟩ := H
  exact ⟨vs, a.mono hs, b, fun i hi => (c i hi).mono hs⟩
theorem LLI.len {h : Heap} {v : AV} {ll : List (List Int)} (H : LLI h v ll) : lenA v = some (.int .i64 ll.length) := by obtain ⟨vs, a, _, _⟩ := H; exact a.len
theorem LLI.nil {h : Heap} : LLI h .nilslice [] := ⟨[], ⟨rfl, by decide, .inl ⟨rfl, rfl⟩⟩, rfl, fun i hi => by simp at hi⟩
theorem LLI.at {h : Heap} {v : AV} {ll : List (List Int)} (H : LLI h v ll) {i : Nat} (hi : i < ll.length) : ∃ w, idxA 1 v (.int .i64 (i : Nat)) = some (elA 1 v i) ∧ loadA h false 1 (elA 1 v i) = some w ∧ RI h w (ll.getD i []) := by
  obtain ⟨vs, a, b, c⟩ := H
  refine ⟨vs.getD i .nilslice, a.idx ⟨by omega, by omega⟩, ?_, c i hi⟩
  rw [SL.load1 a hi]
  simp [show i < vs.length by omega]
section
variable {C : Ctx}
theorem lists_spec (hC : Has C T166) {va vb : AV} {A B : List (List Int)} {h : Heap} (ha : LLI h va A) (hb : LLI h vb B) : ACalls C 166 [va, vb] h (fun r h' => r = .bool (decide (A = B)) ∧ h' = h) := by
  have l1 : A.length < 9223372036854775808 := by obtain ⟨_, a, _⟩ := ha; exact a.lt
  have l2 : B.length < 9223372036854775808 := by obtain ⟨_, a, _⟩ := hb; exact a.lt
  (refine calls_intro (hC.body (by decide) tab166) (Nat.le_of_ble_eq_true rfl) ?_); (show wp C _ none B166.code _ _); (simp only [B166]); simp -implicitDefEqProofs (disch := first | assumption | decide | omega | (simp only [wpD1] <;> omega) | (simp only [wpD2] <;> assumption) | solve_by_elim [HSub.refl, HSub.push, HSub.reserve] | fail) only [↓wpPre, wpPost, wpPoly, Int.reduceToNat, Int.reducePow, Int.reduceMul, Int.reduceAdd, Int.reduceSub, Int.reduceNeg, Nat.reduceAdd, Nat.reduceMul, Nat.reducePow, Int.reduceLT, Int.reduceLE, Int.reduceEq, Nat.reduceEqDiff, ha.len, hb.len]
  refine Br.by (fun c => ?_) (fun c => ?_)
  · simp -implicitDefEqProofs (disch := first | assumption | decide | omega | (simp only [wpD1] <;> omega) | (simp only [wpD2] <;> assumption) | solve_by_elim [HSub.refl, HSub.push, HSub.reserve] | fail) only [↓wpPre, wpPost, wpPoly, Int.reduceToNat, Int.reducePow, Int.reduceMul, Int.reduceAdd, Int.reduceSub, Int.reduceNeg, Nat.reduceAdd, Nat.reduceMul, Nat.reducePow, Int.reduceLT, Int.reduceLE, Int.reduceEq, Nat.reduceEqDiff]
    have : A ≠ B := fun e => by subst e; omega
    simp [this]
  · simp -implicitDefEqProofs (disch := first | assumption | decide | omega | (simp only [wpD1] <;> omega) | (simp only [wpD2] <;> assumption) | solve_by_elim [HSub.refl, HSub.push, HSub.reserve] | fail) only [↓wpPre, wpPost, wpPoly, Int.reduceToNat, Int.reducePow, Int.reduceMul, Int.reduceAdd, Int.reduceSub, Int.reduceNeg, Nat.reduceAdd, Nat.reduceMul, Nat.reducePow, Int.reduceLT, Int.reduceLE, Int.reduceEq, Nat.reduceEqDiff]
    refine wp_loopI (fun j t h' => h' = h ∧ t 0 = va ∧ t 1 = vb ∧ ∃ i : Nat, t 5 = .int .i64 (i : Nat) ∧ i ≤ A.length ∧ A.take i = B.take i ∧ j = A.length - i) ⟨rfl, rfl, rfl, 0, rfl, by omega, by simp, rfl⟩ ?_
    rintro j t h' ⟨rfl, e0, e1, i, e5, hi, hp, hj⟩
    simp -implicitDefEqProofs (disch := first | assumption | decide | omega | (simp only [wpD1] <;> omega) | (simp only [wpD2] <;> assumption) | solve_by_elim [HSub.refl, HSub.push, HSub.reserve] | fail) only [↓wpPre, wpPost, wpPoly, Int.reduceToNat, Int.reducePow, Int.reduceMul, Int.reduceAdd, Int.reduceSub, Int.reduceNeg, Nat.reduceAdd, Nat.reduceMul, Nat.reducePow, Int.reduceLT, Int.reduceLE, Int.reduceEq, Nat.reduceEqDiff, e0, e1, e5, ha.len]
    refine Br.by (fun c1 => ?_) (fun c1 => ?_)
    · have i1 : i < A.length := by omega
      have i2 : i < B.length := by omega
      have x1 := ha.at i1
      obtain ⟨w1, ix1, ld1, R1⟩ := x1
      have x2 := hb.at i2
      obtain ⟨w2, ix2, ld2, R2⟩ := x2
      simp -implicitDefEqProofs (disch := first | assumption | decide | omega | (simp only [wpD1] <;> omega) | (simp only [wpD2] <;> assumption) | solve_by_elim [HSub.refl, HSub.push, HSub.reserve] | fail) only [↓wpPre, wpPost, wpPoly, Int.reduceToNat, Int.reducePow, Int.reduceMul, Int.reduceAdd, Int.reduceSub, Int.reduceNeg, Nat.reduceAdd, Nat.reduceMul, Nat.reducePow, Int.reduceLT, Int.reduceLE, Int.reduceEq, Nat.reduceEqDiff, e0, e1, e5, ix1, ix2, ld1, ld2]
      refine ACallsK.eq (Equal_spec (hC.sub (T' := T12) (by decide)) R1 R2) ?_
      by_cases c2 : A.getD i [] = B.getD i []
      · rw [decide_eq_true c2]
        simp -implicitDefEqProofs (disch := first | assumption | decide | omega | (simp only [wpD1] <;> omega) | (simp only [wpD2] <;> assumption) | solve_by_elim [HSub.refl, HSub.push, HSub.reserve] | fail) only [↓wpPre, wpPost, wpPoly, Int.reduceToNat, Int.reducePow, Int.reduceMul, Int.reduceAdd, Int.reduceSub, Int.reduceNeg, Nat.reduceAdd, Nat.reduceMul, Nat.reducePow, Int.reduceLT, Int.reduceLE, Int.reduceEq, Nat.reduceEqDiff, e0, e1, e5]
        refine ⟨_, ⟨i + 1, by simp, by omega, ?_, rfl⟩, by omega⟩
        rw [List.take_succ_eq_append_getElem i1, List.take_succ_eq_append_getElem i2, hp]
        simp only [List.getD_eq_getElem?_getD, List.getElem?_eq_getElem i1, List.getElem?_eq_getElem i2, Option.getD_some] at c2
        rw [c2]
      · rw [decide_eq_false c2]
        simp -implicitDefEqProofs (disch := first | assumption | decide | omega | (simp only [wpD1] <;> omega) | (simp only [wpD2] <;> assumption) | solve_by_elim [HSub.refl, HSub.push, HSub.reserve] | fail) only [↓wpPre, wpPost, wpPoly, Int.reduceToNat, Int.reducePow, Int.reduceMul, Int.reduceAdd, Int.reduceSub, Int.reduceNeg, Nat.reduceAdd, Nat.reduceMul, Nat.reducePow, Int.reduceLT, Int.reduceLE, Int.reduceEq, Nat.reduceEqDiff]
        have : A ≠ B := fun e => c2 (by rw [e])
        simp [this]
    · simp -implicitDefEqProofs (disch := first | assumption | decide | omega | (simp only [wpD1] <;> omega) | (simp only [wpD2] <;> assumption) | solve_by_elim [HSub.refl, HSub.push, HSub.reserve] | fail) only [↓wpPre, wpPost, wpPoly, Int.reduceToNat, Int.reducePow, Int.reduceMul, Int.reduceAdd, Int.reduceSub, Int.reduceNeg, Nat.reduceAdd, Nat.reduceMul, Nat.reducePow, Int.reduceLT, Int.reduceLE, Int.reduceEq, Nat.reduceEqDiff]
      have e1 : i = A.length := by omega
      subst e1
      rw [List.take_of_length_le (by omega), List.take_of_length_le (by omega)] at hp
      simp [hp]
def pairL (l : List (Int × Int)) : List (List Int) := l.map fun p => [p.1, p.2]
def Two (h0 h : Heap) (v w : AV) (p : Int × Int) : Prop := ∃ j, h0.size ≤ j ∧ w = .slice j 0 2 (.known 2) ∧ h.get j = some (.cells [.int .i64 p.1, .int .i64 p.2] true 0) ∧ j ∉ v.ids
set_option maxHeartbeats 1000000 in
theorem pairs_spec (hC : Has C T167) {v : AV} {l : List (Int × Int)} {h : Heap} (hl : SI h v l) (hll : l.length ≤ 1000000) : ACalls C 167 [v] h (fun r h' => HSub h h' ∧ LLI h' r (pairL l)) := by
  have hlt := hl.lt
  (refine calls_intro (hC.body (by decide) tab167) (Nat.le_of_ble_eq_true rfl) ?_); (show wp C _ none B167.code _ _); (simp only [B167]); simp -implicitDefEqProofs (disch := first | assumption | decide | omega | (simp only [wpD1] <;> omega) | (simp only [wpD2] <;> assumption) | solve_by_elim [HSub.refl, HSub.push, HSub.reserve] | fail) only [↓wpPre, wpPost, wpPoly, Int.reduceToNat, Int.reducePow, Int.reduceMul, Int.reduceAdd, Int.reduceSub, Int.reduceNeg, Nat.reduceAdd, Nat.reduceMul, Nat.reducePow, Int.reduceLT, Int.reduceLE, Int.reduceEq, Nat.reduceEqDiff]
  refine wp_loopI (fun j t h' => ∃ (k : Nat) (vs : List AV), Grw h h' 1 (t 3) k vs ∧ vs.length = k ∧ (∀ i, i < k → Two h h' (t 3) (vs.getD i .nilslice) (l.getD i (0, 0))) ∧ t 0 = v ∧ t 4 = .int .i64 (k : Nat) ∧ k ≤ l.length ∧ j = l.length - k) (j0 := l.length)
    ⟨0, [], Grw.nil _ _, rfl, fun i hi => by omega, rfl, rfl, by omega, rfl⟩ ?_
  rintro j t h1 ⟨k, vs, A, hvl, hvs, e0, e4, hk, hj⟩
  have hl1 := hl.mono A.sub
  simp -implicitDefEqProofs (disch := first | assumption | decide | omega | (simp only [wpD1] <;> omega) | (simp only [wpD2] <;> assumption) | solve_by_elim [HSub.refl, HSub.push, HSub.reserve] | fail) only [↓wpPre, wpPost, wpPoly, Int.reduceToNat, Int.reducePow, Int.reduceMul, Int.reduceAdd, Int.reduceSub, Int.reduceNeg, Nat.reduceAdd, Nat.reduceMul, Nat.reducePow, Int.reduceLT, Int.reduceLE, Int.reduceEq, Nat.reduceEqDiff, e0, e4, hl1.len]
  refine Br.by (fun c => ?_) (fun c => ?_)
  · have hk' : k < l.length := by omega
    have ld := (hl1.mono ((HSub.refl h1).reserve 15)).loadA hk'
    have f0 := (hl1.mono ((HSub.refl h1).reserve 15)).load0 hk'
    have f1 := (hl1.mono ((HSub.refl h1).reserve 15)).load1 hk'
    have ai0 : ∀ o : Nat, o < 2 → idxArrA 1 2 (elA 2 v k) (.int .i64 (o : Nat)) = some (elF 2 v k o) := by
      intro o ho
      obtain ⟨_, _, ⟨rfl, h1⟩ | ⟨i, oo, c, ws, wr, u, rfl, _⟩⟩ := hl
      · omega
      · simp only [elA, elF]
        rw [idxArr_ptr ⟨by omega, by omega⟩, Int.toNat_natCast, Nat.mul_one]
    have a0 : idxArrA 1 2 (elA 2 v k) (.int .i64 0) = some (elF 2 v k 0) := ai0 0 (by decide)
    have a1 : idxArrA 1 2 (elA 2 v k) (.int .i64 1) = some (elF 2 v k 1) := ai0 1 (by decide)
    have hz := A.sub.size
    have hsR := fun b1 b2 => (show HSub h (((h1.reserve 15).put (h1.size + 11) b1).put (h1.size + 12) b2) from (by repeat (first | exact A.sub | refine HSub.put ?_ (by (try simp only [Heap.size_put, Heap.size_push, Heap.size_reserve]); omega) _ | refine HSub.push ?_ _ | refine HSub.reserve ?_ _)))
    have gR : ∀ b1 b2 i, i < h1.size → (((h1.reserve 15).put (h1.size + 11) b1).put (h1.size + 12) b2).get i = h1.get i := fun b1 b2 i hi => by
      rw [get_put_ne (by omega), get_put_ne (by omega), Heap.get_reserve]
    have gN : ∀ b1 b2, (((h1.reserve 15).put (h1.size + 11) b1).put (h1.size + 12) b2).get (h1.size + 13) = none := fun b1 b2 => by
      rw [get_put_ne (by omega), get_put_ne (by omega), Heap.get_reserve]; exact h1.wf _ (by omega)
    have hap := fun b1 b2 => Grw.appG (H := ((h1.reserve 15).put (h1.size + 11) b1).put (h1.size + 12) b2) (k := h1.size + 13) (m := 1) (bytes := 24) (news := [.slice (h1.size + 11) 0 2 (.known 2)]) A (fun i hi => gR b1 b2 i (Grw.ids_lt A i hi).2) ⟨by omega, by simp only [Heap.size_put, Heap.size_reserve]; omega⟩ (by decide) (by omega) (by rfl)
    simp -implicitDefEqProofs (disch := first | assumption | decide | omega | (simp only [wpD1] <;> omega) | (simp only [wpD2] <;> assumption) | solve_by_elim [HSub.refl, HSub.push, HSub.reserve] | fail) only [↓wpPre, wpPost, wpPoly, Int.reduceToNat, Int.reducePow, Int.reduceMul, Int.reduceAdd, Int.reduceSub, Int.reduceNeg, Nat.reduceAdd, Nat.reduceMul, Nat.reducePow, Int.reduceLT, Int.reduceLE, Int.reduceEq, Nat.reduceEqDiff, e0, e4, hl1.idx, a0, a1, f0, f1, Heap.wf, cont_slice, contB_one, hap, gN, appK_none]
    have bF := fun b1 b2 => snocS_sub (k := h1.size + 13) (ds := vs ++ [.slice (h1.size + 11) 0 2 (.known 2)]) A (hsR b1 b2) (by omega)
    have rF := fun b1 b2 => snocS_same (H := ((h1.reserve 15).put (h1.size + 11) b1).put (h1.size + 12) b2) (k := h1.size + 13) (v := t 3) (sz := 1) (cs := vs ++ [.slice (h1.size + 11) 0 2 (.known 2)]) (by simp only [Heap.size_put, Heap.size_reserve]; omega)
    refine ⟨_, ⟨k + 1, vs ++ [.slice (h1.size + 11) 0 2 (.known 2)], ⟨bF _ _, by simp [hvl], by omega, .inr ⟨_, [], by omega, rfl, by rw [List.append_nil]; exact rF _ _⟩⟩, by simp [hvl], fun i hi => ?_, by simp, by omega, rfl⟩, by omega⟩
    rcases Nat.lt_or_ge i k with x | x
    · have e : (vs ++ [AV.slice (h1.size + 11) 0 2 (.known 2)]).getD i .nilslice = vs.getD i .nilslice := by simp [List.getD_eq_getElem?_getD, List.getElem?_append_left (show i < vs.length by omega)]
      rw [e]
      have y := hvs i x
      obtain ⟨j, hj1, hw, hg, hn⟩ := y
      have jl := Heap.lt_of_get hg
      exact ⟨j, hj1, hw, (snocS_ne (by omega) hn).trans ((gR _ _ _ jl).trans hg), by simp only [AV.ids, List.mem_singleton]; omega⟩
    · have ei : i = k := by omega
      subst ei
      have e : (vs ++ [AV.slice (h1.size + 11) 0 2 (.known 2)]).getD i .nilslice = .slice (h1.size + 11) 0 2 (.known 2) := by simp [List.getD_eq_getElem?_getD, ← hvl]
      rw [e]
      refine ⟨h1.size + 11, by omega, rfl, (snocS_ne (by omega) (fun q => by have := (Grw.ids_lt A _ q).2; omega)).trans ?_, by simp only [AV.ids, List.mem_singleton]; omega⟩
      rw [get_put_ne (by omega), get_put_eq rfl (by simp only [Heap.size_reserve]; omega)]
  · have ek : k = l.length := by omega
    subst ek
    simp -implicitDefEqProofs (disch := first | assumption | decide | omega | (simp only [wpD1] <;> omega) | (simp only [wpD2] <;> assumption) | solve_by_elim [HSub.refl, HSub.push, HSub.reserve] | fail) only [↓wpPre, wpPost, wpPoly, Int.reduceToNat, Int.reducePow, Int.reduceMul, Int.reduceAdd, Int.reduceSub, Int.reduceNeg, Nat.reduceAdd, Nat.reduceMul, Nat.reducePow, Int.reduceLT, Int.reduceLE, Int.reduceEq, Nat.reduceEqDiff]
    refine ⟨A.sub, vs, ?_, by simp [pairL, hvl], fun i hi => ?_⟩
    · have := A.sl
      simpa [pairL] using this
    · have hi' : i < l.length := by simpa [pairL] using hi
      have x := hvs i hi'
      obtain ⟨j, hj1, hw, hg, _⟩ := x
      rw [hw]
      have e : (pairL l).getD i [] = [(l.getD i (0, 0)).1, (l.getD i (0, 0)).2] := by simp [pairL, hi']
      rw [e]
      exact RI.known hg ⟨rfl, by decide⟩ (by decide)
end
end Go.Ae

/- Examples of layer 9, by contracts. -/
set_option linter.unusedSimpArgs false
set_option linter.unusedVariables false
namespace Go.Ae
theorem spec511 : specOut 5 1 1 = [(-1, 30), (31, 1)] := by rw [specOut_eq]; decide +kernel
theorem sampErr511 : sampErr 5 1 [1, 1] = 0 := by decide +kernel
theorem parts511 : partsE 5 1 1 1 1 1 = tup3 (-1) 0 0 := by
  have ok : partsOk 5 1 1 1 1 1 := by decide +kernel
  unfold partsE
  rw [if_pos ok]
  have e1 : pf (sampL 5 1 (1 : Int).toNat) (sampL 5 1 (1 : Int).toNat) 1 1 (1 : Int).toNat = -1 := by decide +kernel
  have e2 : ps (sampL 5 1 (1 : Int).toNat) (sampL 5 1 (1 : Int).toNat) (1 : Int).toNat ((sampL 5 1 (1 : Int).toNat).length - (1 : Int).toNat) = 0 := by decide +kernel
  rw [e1, e2]
theorem circ123 : circErr [1, 2, 3] [1, 0, 0] = 0 ∧ circ [1, 2, 3] [1, 0, 0] = [1, 3, 2] := by decide +kernel
section
variable {C : Ctx}
set_option maxHeartbeats 2000000 in
theorem awake163_spec (hC : Has C T163) (hS : SortOk C 178) {h : Heap} : ACalls C 163 [] h (fun r h' => r = .bool true ∧ h' = h) := by
  refine ACalls.gc0 (P := fun r h' => r = .bool true ∧ HSub h h') ?_ (fun r h' hp => ⟨by rw [hp.1]; trivial, hp.2, hp.1, rfl⟩)
  have i5 : In64 5 := by unfold In64; omega
  have i1 : In64 1 := by unfold In64; omega
  have k1 := fun (h : Heap) (i j : Nat) (g1 : h.get i = some (.cells (ints [1, 2, 3]) true 0)) (g2 : h.get j = some (.cells (ints [1, 0, 0]) true 0)) => CircP_spec (hC.sub (T' := T25) (by decide)) (h := h) (va := .slice i 0 3 (.known 3)) (vb := .slice j 0 3 (.known 3)) (RI.known g1 ⟨rfl, by decide⟩ (by decide)) (RI.known g2 ⟨rfl, by decide⟩ (by decide))
  simp only [circ123.1, circ123.2, if_true] at k1
  have k2 := fun h => Spectrum_spec (hC.sub (T' := T164) (by decide)) hS (h := h) i5 i1 i1
  simp only [sampErr511, if_true, spec511] at k2
  have k3 := fun h => Parts_spec (hC.sub (T' := T170) (by decide)) (h := h) i5 i1 i1 i1 i1 i1
  simp only [parts511] at k3
  (refine calls_intro (hC.body (by decide) tab163) (Nat.le_of_ble_eq_true rfl) ?_); (show wp C _ none B163.code _ _); (simp only [B163]); simp -implicitDefEqProofs (disch := first | assumption | decide | omega | (simp only [wpD1] <;> omega) | (simp only [wpD2] <;> assumption) | solve_by_elim [HSub.refl, HSub.push, HSub.reserve] | fail) only [↓wpPre, wpPost, wpPoly, Int.reduceToNat, Int.reducePow, Int.reduceMul, Int.reduceAdd, Int.reduceSub, Int.reduceNeg, Nat.reduceAdd, Nat.reduceMul, Nat.reducePow, Int.reduceLT, Int.reduceLE, Int.reduceEq, Nat.reduceEqDiff]
  refine ACallsK.of (k1 _ _ _ (by simp -implicitDefEqProofs (disch := first | assumption | decide | omega | (simp only [wpD1] <;> omega) | (simp only [wpD2] <;> assumption) | solve_by_elim [HSub.refl, HSub.push, HSub.reserve] | fail) only [↓wpPre, wpPost, wpPoly, Int.reduceToNat, Int.reducePow, Int.reduceMul, Int.reduceAdd, Int.reduceSub, Int.reduceNeg, Nat.reduceAdd, Nat.reduceMul, Nat.reducePow, Int.reduceLT, Int.reduceLE, Int.reduceEq, Nat.reduceEqDiff]; rfl) (by simp -implicitDefEqProofs (disch := first | assumption | decide | omega | (simp only [wpD1] <;> omega) | (simp only [wpD2] <;> assumption) | solve_by_elim [HSub.refl, HSub.push, HSub.reserve] | fail) only [↓wpPre, wpPost, wpPoly, Int.reduceToNat, Int.reducePow, Int.reduceMul, Int.reduceAdd, Int.reduceSub, Int.reduceNeg, Nat.reduceAdd, Nat.reduceMul, Nat.reducePow, Int.reduceLT, Int.reduceLE, Int.reduceEq, Nat.reduceEqDiff]; rfl)) ?_
  rintro r h1 ⟨v1, rfl, s1, R1⟩
  have t1 : HSub h h1 := ((HSub.push1 _ _).push _).trans s1
  simp -implicitDefEqProofs (disch := first | assumption | decide | omega | (simp only [wpD1] <;> omega) | (simp only [wpD2] <;> assumption) | solve_by_elim [HSub.refl, HSub.push, HSub.reserve] | fail) only [↓wpPre, wpPost, wpPoly, Int.reduceToNat, Int.reducePow, Int.reduceMul, Int.reduceAdd, Int.reduceSub, Int.reduceNeg, Nat.reduceAdd, Nat.reduceMul, Nat.reducePow, Int.reduceLT, Int.reduceLE, Int.reduceEq, Nat.reduceEqDiff, lstErr]
  refine ACallsK.of (k2 _) ?_
  rintro r h2 ⟨v2, rfl, s2, R2⟩
  have t2 := t1.trans s2
  simp -implicitDefEqProofs (disch := first | assumption | decide | omega | (simp only [wpD1] <;> omega) | (simp only [wpD2] <;> assumption) | solve_by_elim [HSub.refl, HSub.push, HSub.reserve] | fail) only [↓wpPre, wpPost, wpPoly, Int.reduceToNat, Int.reducePow, Int.reduceMul, Int.reduceAdd, Int.reduceSub, Int.reduceNeg, Nat.reduceAdd, Nat.reduceMul, Nat.reducePow, Int.reduceLT, Int.reduceLE, Int.reduceEq, Nat.reduceEqDiff, lstErr]
  refine ACallsK.of (k3 _) ?_
  rintro r h3 ⟨rfl, s3⟩
  have t3 := t2.trans s3
  have R1 := R1.mono (s2.trans s3)
  have R2 := R2.mono s3
  have E := Equal_spec (hC.sub (T' := T12) (by decide)) (h := h3.push (.cells [.int .i64 1, .int .i64 3, .int .i64 2] true 0)) (vb := .slice h3.size 0 3 (.known 3)) (b := [1, 3, 2]) (R1.mono (HSub.push1 _ _)) (RI.known (get_push_eq rfl) ⟨rfl, by decide⟩ (by decide))
  rw [decide_eq_true rfl] at E
  simp -implicitDefEqProofs (disch := first | assumption | decide | omega | (simp only [wpD1] <;> omega) | (simp only [wpD2] <;> assumption) | solve_by_elim [HSub.refl, HSub.push, HSub.reserve] | fail) only [↓wpPre, wpPost, wpPoly, Int.reduceToNat, Int.reducePow, Int.reduceMul, Int.reduceAdd, Int.reduceSub, Int.reduceNeg, Nat.reduceAdd, Nat.reduceMul, Nat.reducePow, Int.reduceLT, Int.reduceLE, Int.reduceEq, Nat.reduceEqDiff, tup3]
  refine ACallsK.eq E ?_
  simp -implicitDefEqProofs (disch := first | assumption | decide | omega | (simp only [wpD1] <;> omega) | (simp only [wpD2] <;> assumption) | solve_by_elim [HSub.refl, HSub.push, HSub.reserve] | fail) only [↓wpPre, wpPost, wpPoly, Int.reduceToNat, Int.reducePow, Int.reduceMul, Int.reduceAdd, Int.reduceSub, Int.reduceNeg, Nat.reduceAdd, Nat.reduceMul, Nat.reducePow, Int.reduceLT, Int.reduceLE, Int.reduceEq, Nat.reduceEqDiff]
  refine ACallsK.of (pairs_spec (hC.sub (T' := T167) (by decide)) (R2.mono (HSub.push1 _ _)) (by decide)) ?_
  rintro r h4 ⟨s4, R4⟩
  have t4 : HSub h h4 := (t3.push _).trans s4
  have hq : HSub h4 (((h4.push (.cells [.int .i64 (-1), .int .i64 30] true 0)).push (.cells [.int .i64 31, .int .i64 1] true 0)).push (.cells [.slice h4.size 0 2 (.known 2), .slice (h4.size + 1) 0 2 (.known 2)] true 0)) := (by repeat (first | exact HSub.refl _ | refine HSub.put ?_ (by (try simp only [Heap.size_put, Heap.size_push, Heap.size_reserve]); omega) _ | refine HSub.push ?_ _ | refine HSub.reserve ?_ _))
  have L2 : LLI (((h4.push (.cells [.int .i64 (-1), .int .i64 30] true 0)).push (.cells [.int .i64 31, .int .i64 1] true 0)).push (.cells [.slice h4.size 0 2 (.known 2), .slice (h4.size + 1) 0 2 (.known 2)] true 0)) (.slice (h4.size + 1 + 1) 0 2 (.known 2)) [[-1, 30], [31, 1]] := by
    refine ⟨[.slice h4.size 0 2 (.known 2), .slice (h4.size + 1) 0 2 (.known 2)], ⟨rfl, by decide, .inr ⟨_, 0, _, [.slice h4.size 0 2 (.known 2), .slice (h4.size + 1) 0 2 (.known 2)], true, 0, rfl, get_push_eq rfl, by simp, rfl, by decide⟩⟩, rfl, fun i hi => ?_⟩
    have : i = 0 ∨ i = 1 := by simp at hi; omega
    rcases this with rfl | rfl
    · exact RI.known (wr := true) (u := 0) (by simp -implicitDefEqProofs (disch := first | assumption | decide | omega | (simp only [wpD1] <;> omega) | (simp only [wpD2] <;> assumption) | solve_by_elim [HSub.refl, HSub.push, HSub.reserve] | fail) only [↓wpPre, wpPost, wpPoly, Int.reduceToNat, Int.reducePow, Int.reduceMul, Int.reduceAdd, Int.reduceSub, Int.reduceNeg, Nat.reduceAdd, Nat.reduceMul, Nat.reducePow, Int.reduceLT, Int.reduceLE, Int.reduceEq, Nat.reduceEqDiff]; rfl) ⟨rfl, by decide⟩ (by decide)
    · exact RI.known (wr := true) (u := 0) (by simp -implicitDefEqProofs (disch := first | assumption | decide | omega | (simp only [wpD1] <;> omega) | (simp only [wpD2] <;> assumption) | solve_by_elim [HSub.refl, HSub.push, HSub.reserve] | fail) only [↓wpPre, wpPost, wpPoly, Int.reduceToNat, Int.reducePow, Int.reduceMul, Int.reduceAdd, Int.reduceSub, Int.reduceNeg, Nat.reduceAdd, Nat.reduceMul, Nat.reducePow, Int.reduceLT, Int.reduceLE, Int.reduceEq, Nat.reduceEqDiff]; rfl) ⟨rfl, by decide⟩ (by decide)
  have L := lists_spec (hC.sub (T' := T166) (by decide)) (R4.mono hq) L2
  rw [decide_eq_true (show pairL [(-1, 30), (31, 1)] = [[-1, 30], [31, 1]] from rfl)] at L
  simp -implicitDefEqProofs (disch := first | assumption | decide | omega | (simp only [wpD1] <;> omega) | (simp only [wpD2] <;> assumption) | solve_by_elim [HSub.refl, HSub.push, HSub.reserve] | fail) only [↓wpPre, wpPost, wpPoly, Int.reduceToNat, Int.reducePow, Int.reduceMul, Int.reduceAdd, Int.reduceSub, Int.reduceNeg, Nat.reduceAdd, Nat.reduceMul, Nat.reducePow, Int.reduceLT, Int.reduceLE, Int.reduceEq, Nat.reduceEqDiff]
  refine ACallsK.eq L ?_
  simp -implicitDefEqProofs (disch := first | assumption | decide | omega | (simp only [wpD1] <;> omega) | (simp only [wpD2] <;> assumption) | solve_by_elim [HSub.refl, HSub.push, HSub.reserve] | fail) only [↓wpPre, wpPost, wpPoly, Int.reduceToNat, Int.reducePow, Int.reduceMul, Int.reduceAdd, Int.reduceSub, Int.reduceNeg, Nat.reduceAdd, Nat.reduceMul, Nat.reducePow, Int.reduceLT, Int.reduceLE, Int.reduceEq, Nat.reduceEqDiff]
  exact t4.trans hq
end
end Go.Ae

/- Samples, Parts, Side and Cross, of the reference. -/
set_option linter.unusedSimpArgs false
set_option linter.unusedVariables false
namespace Go.Ae
theorem sampErr_two (d o p q : Int) : sampErr d o [p, q] = if sampErr d o [p] = 0 ∧ sampErr d o [q] = 0 then 0 else 2 := by
  unfold sampErr
  by_cases c : knownErr d o = 0 <;> by_cases c1 : codeErr d p = 0 <;> by_cases c2 : codeErr d q = 0 <;> simp [c, c1, c2]
section
variable {C : Ctx}
theorem knownR_spec (hC : Has C T179) {d o : Int} {h : Heap} (hd : In64 d) (ho : In64 o) : ACalls C 179 [.int .i64 d, .int .i64 o] h (fun r h' => r = .int .i64 (knownErr d o) ∧ h' = h) := by
  unfold In64 at ho
  by_cases c : lenOk d = true
  · have e : lenE d = tup2 (lenN d) 0 := by unfold lenE; rw [if_pos c]
    by_cases co : 1 ≤ o ∧ o ≤ 8
    · have pe : knownErr d o = 0 := by unfold knownErr; rw [if_pos ⟨c, co⟩]
      rw [pe]
      (refine calls_intro (hC.body (by decide) tab179) (Nat.le_of_ble_eq_true rfl) ?_); (show wp C _ none B179.code _ _); (simp only [B179]); simp -implicitDefEqProofs (disch := first | assumption | decide | omega | (simp only [wpD1] <;> omega) | (simp only [wpD2] <;> assumption) | solve_by_elim [HSub.refl, HSub.push, HSub.reserve] | fail) only [↓wpPre, wpPost, wpPoly, Int.reduceToNat, Int.reducePow, Int.reduceMul, Int.reduceAdd, Int.reduceSub, Int.reduceNeg, Nat.reduceAdd, Nat.reduceMul, Nat.reducePow, Int.reduceLT, Int.reduceLE, Int.reduceEq, Nat.reduceEqDiff]
      refine ACallsK.eq2 (Length08_spec (hC.sub (T' := T71) (by decide)) hd) e ?_
      simp -implicitDefEqProofs (disch := first | assumption | decide | omega | (simp only [wpD1] <;> omega) | (simp only [wpD2] <;> assumption) | solve_by_elim [HSub.refl, HSub.push, HSub.reserve] | fail) only [↓wpPre, wpPost, wpPoly, Int.reduceToNat, Int.reducePow, Int.reduceMul, Int.reduceAdd, Int.reduceSub, Int.reduceNeg, Nat.reduceAdd, Nat.reduceMul, Nat.reducePow, Int.reduceLT, Int.reduceLE, Int.reduceEq, Nat.reduceEqDiff, tup2]
    · have pe : knownErr d o = 2 := by unfold knownErr; rw [if_neg (fun h => co h.2)]
      rw [pe]
      (refine calls_intro (hC.body (by decide) tab179) (Nat.le_of_ble_eq_true rfl) ?_); (show wp C _ none B179.code _ _); (simp only [B179]); simp -implicitDefEqProofs (disch := first | assumption | decide | omega | (simp only [wpD1] <;> omega) | (simp only [wpD2] <;> assumption) | solve_by_elim [HSub.refl, HSub.push, HSub.reserve] | fail) only [↓wpPre, wpPost, wpPoly, Int.reduceToNat, Int.reducePow, Int.reduceMul, Int.reduceAdd, Int.reduceSub, Int.reduceNeg, Nat.reduceAdd, Nat.reduceMul, Nat.reducePow, Int.reduceLT, Int.reduceLE, Int.reduceEq, Nat.reduceEqDiff]
      refine ACallsK.eq2 (Length08_spec (hC.sub (T' := T71) (by decide)) hd) e ?_
      simp -implicitDefEqProofs (disch := first | assumption | decide | omega | (simp only [wpD1] <;> omega) | (simp only [wpD2] <;> assumption) | solve_by_elim [HSub.refl, HSub.push, HSub.reserve] | fail) only [↓wpPre, wpPost, wpPoly, Int.reduceToNat, Int.reducePow, Int.reduceMul, Int.reduceAdd, Int.reduceSub, Int.reduceNeg, Nat.reduceAdd, Nat.reduceMul, Nat.reducePow, Int.reduceLT, Int.reduceLE, Int.reduceEq, Nat.reduceEqDiff, tup2]
      (repeat' (first | (refine Br.by (fun _ => ?_) (fun _ => ?_)) | (simp -implicitDefEqProofs (disch := first | assumption | decide | omega | (simp only [wpD1] <;> omega) | (simp only [wpD2] <;> assumption) | solve_by_elim [HSub.refl, HSub.push, HSub.reserve] | fail) only [↓wpPre, wpPost, wpPoly, Int.reduceToNat, Int.reducePow, Int.reduceMul, Int.reduceAdd, Int.reduceSub, Int.reduceNeg, Nat.reduceAdd, Nat.reduceMul, Nat.reducePow, Int.reduceLT, Int.reduceLE, Int.reduceEq, Nat.reduceEqDiff])))
      all_goals omega
  · have e : lenE d = tup2 0 2 := by unfold lenE; rw [if_neg c]
    have pe : knownErr d o = 2 := by unfold knownErr; rw [if_neg (fun h => c h.1)]
    rw [pe]
    (refine calls_intro (hC.body (by decide) tab179) (Nat.le_of_ble_eq_true rfl) ?_); (show wp C _ none B179.code _ _); (simp only [B179]); simp -implicitDefEqProofs (disch := first | assumption | decide | omega | (simp only [wpD1] <;> omega) | (simp only [wpD2] <;> assumption) | solve_by_elim [HSub.refl, HSub.push, HSub.reserve] | fail) only [↓wpPre, wpPost, wpPoly, Int.reduceToNat, Int.reducePow, Int.reduceMul, Int.reduceAdd, Int.reduceSub, Int.reduceNeg, Nat.reduceAdd, Nat.reduceMul, Nat.reducePow, Int.reduceLT, Int.reduceLE, Int.reduceEq, Nat.reduceEqDiff]
    refine ACallsK.eq2 (Length08_spec (hC.sub (T' := T71) (by decide)) hd) e ?_
    simp -implicitDefEqProofs (disch := first | assumption | decide | omega | (simp only [wpD1] <;> omega) | (simp only [wpD2] <;> assumption) | solve_by_elim [HSub.refl, HSub.push, HSub.reserve] | fail) only [↓wpPre, wpPost, wpPoly, Int.reduceToNat, Int.reducePow, Int.reduceMul, Int.reduceAdd, Int.reduceSub, Int.reduceNeg, Nat.reduceAdd, Nat.reduceMul, Nat.reducePow, Int.reduceLT, Int.reduceLE, Int.reduceEq, Nat.reduceEqDiff, tup2]
def sampK (d p : Int) (o k : Nat) : List Int := (List.range k).map fun i => (codeL d p).getD (i / o) 0
theorem sampK_length (d p : Int) (o k : Nat) : (sampK d p o k).length = k := by simp [sampK]
theorem sampK_succ (d p : Int) (o k : Nat) : sampK d p o (k + 1) = sampK d p o k ++ [(codeL d p).getD (k / o) 0] := by simp [sampK, List.range_succ]
set_option maxHeartbeats 1000000 in
theorem SamplesR_spec (hC : Has C T169) {d o p : Int} {h : Heap} (hd : In64 d) (ho : In64 o) (hp : In64 p) :
    ACalls C 169 [.int .i64 d, .int .i64 o, .int .i64 p] h (fun r h' => ∃ v, r = lstErr v (sampErr d o [p]) ∧ HSub h h' ∧ RI h' v (if sampErr d o [p] = 0 then sampL d p o.toNat else [])) := by
  rcases sampErr_cases d o [p] with c | c
  · have ok := sampErr_ok c
    have hN := lenN_eq ok.1
    have ck : knownErr d o = 0 := by unfold knownErr; rw [if_pos ⟨ok.1, ok.2.1⟩]
    have cc : codeErr d p = 0 := ok.2.2 p (by simp)
    obtain ⟨q, rfl⟩ := Int.eq_ofNat_of_zero_le (show 0 ≤ o by omega)
    have ho1 : 1 ≤ q := by omega
    rw [c, if_pos rfl, Int.toNat_natCast]
    have hcode := Code08_spec (hC.sub (T' := T77) (by decide)) (h := h) hd hp
    rw [cc, if_pos rfl] at hcode
    have cl := codeL_length d p
    have sz1 : lenN d ≤ lenN d * q := Nat.le_mul_of_pos_right _ (by omega)
    have sz2 : lenN d * q ≤ 1023 * 8 := Nat.mul_le_mul (by omega) (by omega)
    have em : (lenN d : Int) * (q : Nat) = ((lenN d * q : Nat) : Int) := by omega
    have full : sampK d p q (lenN d * q) = sampL d p q := (sampL_eq d p ho1).symm
    (refine calls_intro (hC.body (by decide) tab169) (Nat.le_of_ble_eq_true rfl) ?_); (show wp C _ none B169.code _ _); (simp only [B169]); simp -implicitDefEqProofs (disch := first | assumption | decide | omega | (simp only [wpD1] <;> omega) | (simp only [wpD2] <;> assumption) | solve_by_elim [HSub.refl, HSub.push, HSub.reserve] | fail) only [↓wpPre, wpPost, wpPoly, Int.reduceToNat, Int.reducePow, Int.reduceMul, Int.reduceAdd, Int.reduceSub, Int.reduceNeg, Nat.reduceAdd, Nat.reduceMul, Nat.reducePow, Int.reduceLT, Int.reduceLE, Int.reduceEq, Nat.reduceEqDiff]
    refine ACallsK.eq (knownR_spec (hC.sub (T' := T179) (by decide)) hd ho) ?_
    rw [ck]
    simp -implicitDefEqProofs (disch := first | assumption | decide | omega | (simp only [wpD1] <;> omega) | (simp only [wpD2] <;> assumption) | solve_by_elim [HSub.refl, HSub.push, HSub.reserve] | fail) only [↓wpPre, wpPost, wpPoly, Int.reduceToNat, Int.reducePow, Int.reduceMul, Int.reduceAdd, Int.reduceSub, Int.reduceNeg, Nat.reduceAdd, Nat.reduceMul, Nat.reducePow, Int.reduceLT, Int.reduceLE, Int.reduceEq, Nat.reduceEqDiff]
    refine ACallsK.of hcode ?_
    rintro r h1 ⟨v1, rfl, s1, R1⟩
    simp -implicitDefEqProofs (disch := first | assumption | decide | omega | (simp only [wpD1] <;> omega) | (simp only [wpD2] <;> assumption) | solve_by_elim [HSub.refl, HSub.push, HSub.reserve] | fail) only [↓wpPre, wpPost, wpPoly, Int.reduceToNat, Int.reducePow, Int.reduceMul, Int.reduceAdd, Int.reduceSub, Int.reduceNeg, Nat.reduceAdd, Nat.reduceMul, Nat.reducePow, Int.reduceLT, Int.reduceLE, Int.reduceEq, Nat.reduceEqDiff, lstErr]
    refine wp_loopI (fun j t h' => ∃ k : Nat, GrwI h1 h' (t 11) (sampK d p q k) ∧ t 1 = .int .i64 (q : Nat) ∧ t 9 = v1 ∧ t 12 = .int .i64 (k : Nat) ∧ k ≤ lenN d * q ∧ j = lenN d * q - k) (j0 := lenN d * q)
      ⟨0, GrwI.nil _, rfl, rfl, rfl, by omega, rfl⟩ ?_
    rintro j t h2 ⟨k, A, e1, e9, e12, hk, hj⟩
    have R2 := R1.mono A.sub
    simp -implicitDefEqProofs (disch := first | assumption | decide | omega | (simp only [wpD1] <;> omega) | (simp only [wpD2] <;> assumption) | solve_by_elim [HSub.refl, HSub.push, HSub.reserve] | fail) only [↓wpPre, wpPost, wpPoly, Int.reduceToNat, Int.reducePow, Int.reduceMul, Int.reduceAdd, Int.reduceSub, Int.reduceNeg, Nat.reduceAdd, Nat.reduceMul, Nat.reducePow, Int.reduceLT, Int.reduceLE, Int.reduceEq, Nat.reduceEqDiff, e1, e9, e12, R2.len, cl, em]
    refine Br.by (fun c1 => ?_) (fun c1 => ?_)
    · have hk' : k < lenN d * q := by omega
      have hdv : k / q < lenN d := Nat.div_lt_of_lt_mul (by rw [Nat.mul_comm]; exact hk')
      have ed : (k : Int) / (q : Nat) = ((k / q : Nat) : Int) := (Int.natCast_ediv _ _).symm
      generalize hg : k / q = g at hdv ed
      have ld := R2.load (k := g) (by omega)
      have sl := sampK_length d p q k
      have su := sampK_succ d p q k
      rw [hg] at su
      obtain ⟨x, hx⟩ : ∃ x, x = (codeL d p).getD g 0 := ⟨_, rfl⟩
      rw [← hx] at su ld
      have A2 := A.snoc (x := x) (HSub.push1 h2 (.cells [.int .i64 x] true 0)) (by omega)
      rw [← su, sl] at A2
      simp -implicitDefEqProofs (disch := first | assumption | decide | omega | (simp only [wpD1] <;> omega) | (simp only [wpD2] <;> assumption) | solve_by_elim [HSub.refl, HSub.push, HSub.reserve] | fail) only [↓wpPre, wpPost, wpPoly, Int.reduceToNat, Int.reducePow, Int.reduceMul, Int.reduceAdd, Int.reduceSub, Int.reduceNeg, Nat.reduceAdd, Nat.reduceMul, Nat.reducePow, Int.reduceLT, Int.reduceLE, Int.reduceEq, Nat.reduceEqDiff, e1, e9, e12, ed, R2.idx, ld, cont_slice, contB_one, A.app, sl, ← su]
      exact ⟨_, ⟨k + 1, A2, by simp, by omega, rfl⟩, by omega⟩
    · have ek : k = lenN d * q := by omega
      subst ek
      rw [full] at A
      simp -implicitDefEqProofs (disch := first | assumption | decide | omega | (simp only [wpD1] <;> omega) | (simp only [wpD2] <;> assumption) | solve_by_elim [HSub.refl, HSub.push, HSub.reserve] | fail) only [↓wpPre, wpPost, wpPoly, Int.reduceToNat, Int.reducePow, Int.reduceMul, Int.reduceAdd, Int.reduceSub, Int.reduceNeg, Nat.reduceAdd, Nat.reduceMul, Nat.reducePow, Int.reduceLT, Int.reduceLE, Int.reduceEq, Nat.reduceEqDiff]
      exact ⟨_, rfl, s1.trans A.sub, A.ri⟩
  · rw [c, if_neg (by decide)]
    by_cases ck : knownErr d o = 0
    · have cc : codeErr d p = 2 := by
        rw [sampErr_one] at c
        have : ¬ codeErr d p = 0 := fun h => by rw [if_pos ⟨ck, h⟩] at c; cases c
        unfold codeErr at this ⊢; split at this <;> first | exact absurd rfl this | (rename_i h; rw [if_neg h])
      have hcode := Code08_spec (hC.sub (T' := T77) (by decide)) (h := h) hd hp
      rw [cc] at hcode
      (refine calls_intro (hC.body (by decide) tab169) (Nat.le_of_ble_eq_true rfl) ?_); (show wp C _ none B169.code _ _); (simp only [B169]); simp -implicitDefEqProofs (disch := first | assumption | decide | omega | (simp only [wpD1] <;> omega) | (simp only [wpD2] <;> assumption) | solve_by_elim [HSub.refl, HSub.push, HSub.reserve] | fail) only [↓wpPre, wpPost, wpPoly, Int.reduceToNat, Int.reducePow, Int.reduceMul, Int.reduceAdd, Int.reduceSub, Int.reduceNeg, Nat.reduceAdd, Nat.reduceMul, Nat.reducePow, Int.reduceLT, Int.reduceLE, Int.reduceEq, Nat.reduceEqDiff]
      refine ACallsK.eq (knownR_spec (hC.sub (T' := T179) (by decide)) hd ho) ?_
      rw [ck]
      simp -implicitDefEqProofs (disch := first | assumption | decide | omega | (simp only [wpD1] <;> omega) | (simp only [wpD2] <;> assumption) | solve_by_elim [HSub.refl, HSub.push, HSub.reserve] | fail) only [↓wpPre, wpPost, wpPoly, Int.reduceToNat, Int.reducePow, Int.reduceMul, Int.reduceAdd, Int.reduceSub, Int.reduceNeg, Nat.reduceAdd, Nat.reduceMul, Nat.reducePow, Int.reduceLT, Int.reduceLE, Int.reduceEq, Nat.reduceEqDiff]
      refine ACallsK.of hcode ?_
      rintro r h1 ⟨v1, rfl, s1, R1⟩
      simp -implicitDefEqProofs (disch := first | assumption | decide | omega | (simp only [wpD1] <;> omega) | (simp only [wpD2] <;> assumption) | solve_by_elim [HSub.refl, HSub.push, HSub.reserve] | fail) only [↓wpPre, wpPost, wpPoly, Int.reduceToNat, Int.reducePow, Int.reduceMul, Int.reduceAdd, Int.reduceSub, Int.reduceNeg, Nat.reduceAdd, Nat.reduceMul, Nat.reducePow, Int.reduceLT, Int.reduceLE, Int.reduceEq, Nat.reduceEqDiff, lstErr]
      exact ⟨_, rfl, s1, RI.nil⟩
    · have ck2 : knownErr d o = 2 := by unfold knownErr at ck ⊢; split at ck <;> first | exact absurd rfl ck | (rename_i h; rw [if_neg h])
      (refine calls_intro (hC.body (by decide) tab169) (Nat.le_of_ble_eq_true rfl) ?_); (show wp C _ none B169.code _ _); (simp only [B169]); simp -implicitDefEqProofs (disch := first | assumption | decide | omega | (simp only [wpD1] <;> omega) | (simp only [wpD2] <;> assumption) | solve_by_elim [HSub.refl, HSub.push, HSub.reserve] | fail) only [↓wpPre, wpPost, wpPoly, Int.reduceToNat, Int.reducePow, Int.reduceMul, Int.reduceAdd, Int.reduceSub, Int.reduceNeg, Nat.reduceAdd, Nat.reduceMul, Nat.reducePow, Int.reduceLT, Int.reduceLE, Int.reduceEq, Nat.reduceEqDiff]
      refine ACallsK.eq (knownR_spec (hC.sub (T' := T179) (by decide)) hd ho) ?_
      rw [ck2]
      simp -implicitDefEqProofs (disch := first | assumption | decide | omega | (simp only [wpD1] <;> omega) | (simp only [wpD2] <;> assumption) | solve_by_elim [HSub.refl, HSub.push, HSub.reserve] | fail) only [↓wpPre, wpPost, wpPoly, Int.reduceToNat, Int.reducePow, Int.reduceMul, Int.reduceAdd, Int.reduceSub, Int.reduceNeg, Nat.reduceAdd, Nat.reduceMul, Nat.reducePow, Int.reduceLT, Int.reduceLE, Int.reduceEq, Nat.reduceEqDiff, lstErr]
      exact ⟨_, rfl, HSub.refl _, RI.nil⟩
theorem pairR_spec (hC : Has C T181) {d o p q : Int} {h : Heap} (hd : In64 d) (ho : In64 o) (hp : In64 p) (hq : In64 q) :
    ACalls C 181 [.int .i64 d, .int .i64 o, .int .i64 p, .int .i64 q] h (fun r h' => ∃ v w, r = .tuple [v, w, .int .i64 (sampErr d o [p, q])] ∧ HSub h h' ∧ (sampErr d o [p, q] = 0 → RI h' v (sampL d p o.toNat) ∧ RI h' w (sampL d q o.toNat))) := by
  have s1 := fun h => SamplesR_spec (hC.sub (T' := T169) (by decide)) (h := h) hd ho hp
  have s2 := fun h => SamplesR_spec (hC.sub (T' := T169) (by decide)) (h := h) hd ho hq
  rw [sampErr_two]
  rcases sampErr_cases d o [p] with c | c
  · simp only [c, if_true] at s1
    rcases sampErr_cases d o [q] with c2 | c2
    · simp only [c2, if_true] at s2
      rw [if_pos ⟨c, c2⟩]
      (refine calls_intro (hC.body (by decide) tab181) (Nat.le_of_ble_eq_true rfl) ?_); (show wp C _ none B181.code _ _); (simp only [B181]); simp -implicitDefEqProofs (disch := first | assumption | decide | omega | (simp only [wpD1] <;> omega) | (simp only [wpD2] <;> assumption) | solve_by_elim [HSub.refl, HSub.push, HSub.reserve] | fail) only [↓wpPre, wpPost, wpPoly, Int.reduceToNat, Int.reducePow, Int.reduceMul, Int.reduceAdd, Int.reduceSub, Int.reduceNeg, Nat.reduceAdd, Nat.reduceMul, Nat.reducePow, Int.reduceLT, Int.reduceLE, Int.reduceEq, Nat.reduceEqDiff]
      refine ACallsK.of (s1 _) ?_
      rintro r h1 ⟨v1, rfl, q1, R1⟩
      simp -implicitDefEqProofs (disch := first | assumption | decide | omega | (simp only [wpD1] <;> omega) | (simp only [wpD2] <;> assumption) | solve_by_elim [HSub.refl, HSub.push, HSub.reserve] | fail) only [↓wpPre, wpPost, wpPoly, Int.reduceToNat, Int.reducePow, Int.reduceMul, Int.reduceAdd, Int.reduceSub, Int.reduceNeg, Nat.reduceAdd, Nat.reduceMul, Nat.reducePow, Int.reduceLT, Int.reduceLE, Int.reduceEq, Nat.reduceEqDiff, lstErr]
      refine ACallsK.of (s2 _) ?_
      rintro r h2 ⟨v2, rfl, q2, R2⟩
      simp -implicitDefEqProofs (disch := first | assumption | decide | omega | (simp only [wpD1] <;> omega) | (simp only [wpD2] <;> assumption) | solve_by_elim [HSub.refl, HSub.push, HSub.reserve] | fail) only [↓wpPre, wpPost, wpPoly, Int.reduceToNat, Int.reducePow, Int.reduceMul, Int.reduceAdd, Int.reduceSub, Int.reduceNeg, Nat.reduceAdd, Nat.reduceMul, Nat.reducePow, Int.reduceLT, Int.reduceLE, Int.reduceEq, Nat.reduceEqDiff, lstErr]
      exact ⟨_, _, rfl, q1.trans q2, fun _ => ⟨R1.mono q2, R2⟩⟩
    · simp only [c2] at s2
      rw [if_neg (by omega)]
      (refine calls_intro (hC.body (by decide) tab181) (Nat.le_of_ble_eq_true rfl) ?_); (show wp C _ none B181.code _ _); (simp only [B181]); simp -implicitDefEqProofs (disch := first | assumption | decide | omega | (simp only [wpD1] <;> omega) | (simp only [wpD2] <;> assumption) | solve_by_elim [HSub.refl, HSub.push, HSub.reserve] | fail) only [↓wpPre, wpPost, wpPoly, Int.reduceToNat, Int.reducePow, Int.reduceMul, Int.reduceAdd, Int.reduceSub, Int.reduceNeg, Nat.reduceAdd, Nat.reduceMul, Nat.reducePow, Int.reduceLT, Int.reduceLE, Int.reduceEq, Nat.reduceEqDiff]
      refine ACallsK.of (s1 _) ?_
      rintro r h1 ⟨v1, rfl, q1, R1⟩
      simp -implicitDefEqProofs (disch := first | assumption | decide | omega | (simp only [wpD1] <;> omega) | (simp only [wpD2] <;> assumption) | solve_by_elim [HSub.refl, HSub.push, HSub.reserve] | fail) only [↓wpPre, wpPost, wpPoly, Int.reduceToNat, Int.reducePow, Int.reduceMul, Int.reduceAdd, Int.reduceSub, Int.reduceNeg, Nat.reduceAdd, Nat.reduceMul, Nat.reducePow, Int.reduceLT, Int.reduceLE, Int.reduceEq, Nat.reduceEqDiff, lstErr]
      refine ACallsK.of (s2 _) ?_
      rintro r h2 ⟨v2, rfl, q2, R2⟩
      simp -implicitDefEqProofs (disch := first | assumption | decide | omega | (simp only [wpD1] <;> omega) | (simp only [wpD2] <;> assumption) | solve_by_elim [HSub.refl, HSub.push, HSub.reserve] | fail) only [↓wpPre, wpPost, wpPoly, Int.reduceToNat, Int.reducePow, Int.reduceMul, Int.reduceAdd, Int.reduceSub, Int.reduceNeg, Nat.reduceAdd, Nat.reduceMul, Nat.reducePow, Int.reduceLT, Int.reduceLE, Int.reduceEq, Nat.reduceEqDiff, lstErr]
      exact ⟨_, _, rfl, q1.trans q2⟩
  · simp only [c] at s1
    rw [if_neg (by omega)]
    (refine calls_intro (hC.body (by decide) tab181) (Nat.le_of_ble_eq_true rfl) ?_); (show wp C _ none B181.code _ _); (simp only [B181]); simp -implicitDefEqProofs (disch := first | assumption | decide | omega | (simp only [wpD1] <;> omega) | (simp only [wpD2] <;> assumption) | solve_by_elim [HSub.refl, HSub.push, HSub.reserve] | fail) only [↓wpPre, wpPost, wpPoly, Int.reduceToNat, Int.reducePow, Int.reduceMul, Int.reduceAdd, Int.reduceSub, Int.reduceNeg, Nat.reduceAdd, Nat.reduceMul, Nat.reducePow, Int.reduceLT, Int.reduceLE, Int.reduceEq, Nat.reduceEqDiff]
    refine ACallsK.of (s1 _) ?_
    rintro r h1 ⟨v1, rfl, q1, R1⟩
    simp -implicitDefEqProofs (disch := first | assumption | decide | omega | (simp only [wpD1] <;> omega) | (simp only [wpD2] <;> assumption) | solve_by_elim [HSub.refl, HSub.push, HSub.reserve] | fail) only [↓wpPre, wpPost, wpPoly, Int.reduceToNat, Int.reducePow, Int.reduceMul, Int.reduceAdd, Int.reduceSub, Int.reduceNeg, Nat.reduceAdd, Nat.reduceMul, Nat.reducePow, Int.reduceLT, Int.reduceLE, Int.reduceEq, Nat.reduceEqDiff, lstErr]
    exact ⟨_, _, rfl, q1⟩
theorem CrossR_spec (hC : Has C T177) {d o p q : Int} {h : Heap} (hd : In64 d) (ho : In64 o) (hp : In64 p) (hq : In64 q) :
    ACalls C 177 [.int .i64 d, .int .i64 o, .int .i64 p, .int .i64 q] h (fun r h' => r = crossE d o p q ∧ HSub h h') := by
  have hpr := fun h => pairR_spec (hC.sub (T' := T181) (by decide)) (h := h) hd ho hp hq
  unfold crossE
  rcases sampErr_cases d o [p, q] with c | c
  · simp only [c] at hpr
    rw [if_pos c]
    have ok := sampErr_ok c
    have hN := lenN_eq ok.1
    obtain ⟨k, rfl⟩ := Int.eq_ofNat_of_zero_le (show 0 ≤ o by omega)
    have ln1 := sampL_length d p k
    have ln2 := sampL_length d q k
    have sz1 : lenN d ≤ lenN d * k := Nat.le_mul_of_pos_right _ (by omega)
    have sz2 : lenN d * k ≤ 1023 * 8 := Nat.mul_le_mul (by omega) (by omega)
    rw [Int.toNat_natCast]
    (refine calls_intro (hC.body (by decide) tab177) (Nat.le_of_ble_eq_true rfl) ?_); (show wp C _ none B177.code _ _); (simp only [B177]); simp -implicitDefEqProofs (disch := first | assumption | decide | omega | (simp only [wpD1] <;> omega) | (simp only [wpD2] <;> assumption) | solve_by_elim [HSub.refl, HSub.push, HSub.reserve] | fail) only [↓wpPre, wpPost, wpPoly, Int.reduceToNat, Int.reducePow, Int.reduceMul, Int.reduceAdd, Int.reduceSub, Int.reduceNeg, Nat.reduceAdd, Nat.reduceMul, Nat.reducePow, Int.reduceLT, Int.reduceLE, Int.reduceEq, Nat.reduceEqDiff]
    refine ACallsK.of (hpr _) ?_
    rintro r h1 ⟨w1, w2, rfl, s1, hri⟩
    have x := hri trivial
    obtain ⟨R1, R2⟩ := x
    rw [Int.toNat_natCast] at R1 R2
    have pp := greatR_spec (hC.sub (T' := T184) (by decide)) (mg := 0) (h := h1) R1 R2 (sampL_one1 _ _ _) (sampL_one1 _ _ _) (by omega) (by omega)
    simp -implicitDefEqProofs (disch := first | assumption | decide | omega | (simp only [wpD1] <;> omega) | (simp only [wpD2] <;> assumption) | solve_by_elim [HSub.refl, HSub.push, HSub.reserve] | fail) only [↓wpPre, wpPost, wpPoly, Int.reduceToNat, Int.reducePow, Int.reduceMul, Int.reduceAdd, Int.reduceSub, Int.reduceNeg, Nat.reduceAdd, Nat.reduceMul, Nat.reducePow, Int.reduceLT, Int.reduceLE, Int.reduceEq, Nat.reduceEqDiff]
    refine ACallsK.eq pp ?_
    simp -implicitDefEqProofs (disch := first | assumption | decide | omega | (simp only [wpD1] <;> omega) | (simp only [wpD2] <;> assumption) | solve_by_elim [HSub.refl, HSub.push, HSub.reserve] | fail) only [↓wpPre, wpPost, wpPoly, Int.reduceToNat, Int.reducePow, Int.reduceMul, Int.reduceAdd, Int.reduceSub, Int.reduceNeg, Nat.reduceAdd, Nat.reduceMul, Nat.reducePow, Int.reduceLT, Int.reduceLE, Int.reduceEq, Nat.reduceEqDiff]
    exact ⟨rfl, s1⟩
  · simp only [c] at hpr
    rw [if_neg (by omega)]
    (refine calls_intro (hC.body (by decide) tab177) (Nat.le_of_ble_eq_true rfl) ?_); (show wp C _ none B177.code _ _); (simp only [B177]); simp -implicitDefEqProofs (disch := first | assumption | decide | omega | (simp only [wpD1] <;> omega) | (simp only [wpD2] <;> assumption) | solve_by_elim [HSub.refl, HSub.push, HSub.reserve] | fail) only [↓wpPre, wpPost, wpPoly, Int.reduceToNat, Int.reducePow, Int.reduceMul, Int.reduceAdd, Int.reduceSub, Int.reduceNeg, Nat.reduceAdd, Nat.reduceMul, Nat.reducePow, Int.reduceLT, Int.reduceLE, Int.reduceEq, Nat.reduceEqDiff]
    refine ACallsK.of (hpr _) ?_
    rintro r h1 ⟨w1, w2, rfl, s1, hri⟩
    simp -implicitDefEqProofs (disch := first | assumption | decide | omega | (simp only [wpD1] <;> omega) | (simp only [wpD2] <;> assumption) | solve_by_elim [HSub.refl, HSub.push, HSub.reserve] | fail) only [↓wpPre, wpPost, wpPoly, Int.reduceToNat, Int.reducePow, Int.reduceMul, Int.reduceAdd, Int.reduceSub, Int.reduceNeg, Nat.reduceAdd, Nat.reduceMul, Nat.reducePow, Int.reduceLT, Int.reduceLE, Int.reduceEq, Nat.reduceEqDiff]
    exact ⟨rfl, s1⟩
theorem SideR_spec (hC : Has C T176) {d o p : Int} {h : Heap} (hd : In64 d) (ho : In64 o) (hp : In64 p) :
    ACalls C 176 [.int .i64 d, .int .i64 o, .int .i64 p] h (fun r h' => r = sideE d o p ∧ HSub h h') := by
  have hpr := fun h => SamplesR_spec (hC.sub (T' := T169) (by decide)) (h := h) hd ho hp
  unfold sideE
  rcases sampErr_cases d o [p] with c | c
  · simp only [c, if_true] at hpr
    rw [if_pos c]
    have ok := sampErr_ok c
    have hN := lenN_eq ok.1
    obtain ⟨k, rfl⟩ := Int.eq_ofNat_of_zero_le (show 0 ≤ o by omega)
    have ln1 := sampL_length d p k
    have sz1 : lenN d ≤ lenN d * k := Nat.le_mul_of_pos_right _ (by omega)
    have sz2 : lenN d * k ≤ 1023 * 8 := Nat.mul_le_mul (by omega) (by omega)
    rw [Int.toNat_natCast] at hpr ⊢
    (refine calls_intro (hC.body (by decide) tab176) (Nat.le_of_ble_eq_true rfl) ?_); (show wp C _ none B176.code _ _); (simp only [B176]); simp -implicitDefEqProofs (disch := first | assumption | decide | omega | (simp only [wpD1] <;> omega) | (simp only [wpD2] <;> assumption) | solve_by_elim [HSub.refl, HSub.push, HSub.reserve] | fail) only [↓wpPre, wpPost, wpPoly, Int.reduceToNat, Int.reducePow, Int.reduceMul, Int.reduceAdd, Int.reduceSub, Int.reduceNeg, Nat.reduceAdd, Nat.reduceMul, Nat.reducePow, Int.reduceLT, Int.reduceLE, Int.reduceEq, Nat.reduceEqDiff]
    refine ACallsK.of (hpr _) ?_
    rintro r h1 ⟨w1, rfl, s1, R1⟩
    have pp := greatR_spec (hC.sub (T' := T184) (by decide)) (mg := k) (h := h1) R1 R1 (sampL_one1 _ _ _) (sampL_one1 _ _ _) (by omega) (by omega)
    simp -implicitDefEqProofs (disch := first | assumption | decide | omega | (simp only [wpD1] <;> omega) | (simp only [wpD2] <;> assumption) | solve_by_elim [HSub.refl, HSub.push, HSub.reserve] | fail) only [↓wpPre, wpPost, wpPoly, Int.reduceToNat, Int.reducePow, Int.reduceMul, Int.reduceAdd, Int.reduceSub, Int.reduceNeg, Nat.reduceAdd, Nat.reduceMul, Nat.reducePow, Int.reduceLT, Int.reduceLE, Int.reduceEq, Nat.reduceEqDiff, lstErr]
    refine ACallsK.eq pp ?_
    simp -implicitDefEqProofs (disch := first | assumption | decide | omega | (simp only [wpD1] <;> omega) | (simp only [wpD2] <;> assumption) | solve_by_elim [HSub.refl, HSub.push, HSub.reserve] | fail) only [↓wpPre, wpPost, wpPoly, Int.reduceToNat, Int.reducePow, Int.reduceMul, Int.reduceAdd, Int.reduceSub, Int.reduceNeg, Nat.reduceAdd, Nat.reduceMul, Nat.reducePow, Int.reduceLT, Int.reduceLE, Int.reduceEq, Nat.reduceEqDiff]
    exact ⟨rfl, s1⟩
  · simp only [c] at hpr
    rw [if_neg (by omega)]
    (refine calls_intro (hC.body (by decide) tab176) (Nat.le_of_ble_eq_true rfl) ?_); (show wp C _ none B176.code _ _); (simp only [B176]); simp -implicitDefEqProofs (disch := first | assumption | decide | omega | (simp only [wpD1] <;> omega) | (simp only [wpD2] <;> assumption) | solve_by_elim [HSub.refl, HSub.push, HSub.reserve] | fail) only [↓wpPre, wpPost, wpPoly, Int.reduceToNat, Int.reducePow, Int.reduceMul, Int.reduceAdd, Int.reduceSub, Int.reduceNeg, Nat.reduceAdd, Nat.reduceMul, Nat.reducePow, Int.reduceLT, Int.reduceLE, Int.reduceEq, Nat.reduceEqDiff]
    refine ACallsK.of (hpr _) ?_
    rintro r h1 ⟨w1, rfl, s1, R1⟩
    simp -implicitDefEqProofs (disch := first | assumption | decide | omega | (simp only [wpD1] <;> omega) | (simp only [wpD2] <;> assumption) | solve_by_elim [HSub.refl, HSub.push, HSub.reserve] | fail) only [↓wpPre, wpPost, wpPoly, Int.reduceToNat, Int.reducePow, Int.reduceMul, Int.reduceAdd, Int.reduceSub, Int.reduceNeg, Nat.reduceAdd, Nat.reduceMul, Nat.reducePow, Int.reduceLT, Int.reduceLE, Int.reduceEq, Nat.reduceEqDiff, lstErr]
    exact ⟨rfl, s1⟩
end
end Go.Ae

/- Tables of sums, of the program. -/
set_option linter.unusedSimpArgs false
set_option linter.unusedVariables false
namespace Go.Ae
def tabE (d : Int) (ps : List Int) : Nat → Int
  | 0 => 0
  | k + 1 => if tabE d ps k ≠ 0 then tabE d ps k else if codeErr d (ps.getD k 0) ≠ 0 then 2 else if ((ps.take k).any fun y => ps.getD k 0 == y) = true then 8 else 0
def tabErr (d o : Int) (ps : List Int) : Int := if knownErr d o ≠ 0 then 2 else if ps.length = 0 then 3 else if 8 < ps.length then 4 else tabE d ps ps.length
theorem tabE_mono {d : Int} {ps : List Int} {k : Nat} (h : tabE d ps k ≠ 0) : ∀ m, tabE d ps (k + m) = tabE d ps k
  | 0 => rfl
  | m + 1 => by
    rw [← Nat.add_assoc, tabE, if_pos (by rw [tabE_mono h m]; exact h), tabE_mono h m]
theorem tabE_at {d : Int} {ps : List Int} {k n : Nat} (h : tabE d ps k ≠ 0) (hk : k ≤ n) : tabE d ps n = tabE d ps k := by
  have := tabE_mono h (n - k)
  rwa [show k + (n - k) = n by omega] at this
def tabRow (d : Int) (o : Nat) (ps : List Int) (i k : Nat) : List Int := (List.range k).map fun j => greatI (sampL d (ps.getD i 0) o) (sampL d (ps.getD j 0) o) (if i = j then o else 0)
theorem tabRow_length (d : Int) (o : Nat) (ps : List Int) (i k : Nat) : (tabRow d o ps i k).length = k := by simp [tabRow]
theorem tabRow_succ (d : Int) (o : Nat) (ps : List Int) (i k : Nat) : tabRow d o ps i (k + 1) = tabRow d o ps i k ++ [greatI (sampL d (ps.getD i 0) o) (sampL d (ps.getD k 0) o) (if i = k then o else 0)] := by simp [tabRow, List.range_succ]
def tblL (d : Int) (o : Nat) (ps : List Int) : List (List Int) := (List.range ps.length).map fun i => tabRow d o ps i ps.length
theorem Grw.move {h0 h F : Heap} {sz n : Nat} {w : AV} {ds : List AV} (B : Grw h0 h sz w n ds) (hs : HSub h0 F) (hg : ∀ x ∈ w.ids, F.get x = h.get x) : Grw h0 F sz w n ds := by
  obtain ⟨_, hl, hn, ⟨rfl, rfl⟩ | ⟨i, ex, hi, rfl, hgi⟩⟩ := B
  · exact ⟨hs, hl, hn, .inl ⟨rfl, rfl⟩⟩
  · exact ⟨hs, hl, hn, .inr ⟨i, ex, hi, rfl, (hg i (by simp [AV.ids])).trans hgi⟩⟩
section
variable {C : Ctx}
set_option maxHeartbeats 4000000 in
set_option maxRecDepth 20000 in
theorem Table_spec (hC : Has C T172) {d o : Int} {vp : AV} {ps : List Int} {h : Heap} (hd : In64 d) (ho : In64 o) (hp : RI h vp ps) (hx : ∀ x ∈ ps, In64 x) :
    ACalls C 172 [.int .i64 d, .int .i64 o, vp] h (fun r h' => ∃ v, r = lstErr v (tabErr d o ps) ∧ HSub h h' ∧ LLI h' v (if tabErr d o ps = 0 then tblL d o.toNat ps else [])) := by
  have hplt := hp.lt
  have fin : ∀ (h' : Heap) (e : Int), HSub h h' → tabErr d o ps = e → e ≠ 0 → ∃ v, AV.tuple [.nilslice, .int .i64 e] = lstErr v (tabErr d o ps) ∧ HSub h h' ∧ LLI h' v (if tabErr d o ps = 0 then tblL d o.toNat ps else []) := fun h' e hs he h0 => ⟨.nilslice, by rw [he]; rfl, hs, by rw [if_neg (by omega)]; exact LLI.nil⟩
  by_cases ck : knownErr d o = 0
  · have kr : lenOk d = true ∧ 1 ≤ o ∧ o ≤ 8 := by
      unfold knownErr at ck
      split at ck
      · assumption
      · cases ck
    obtain ⟨q, rfl⟩ := Int.eq_ofNat_of_zero_le (show 0 ≤ o by omega)
    have hN := lenN_eq kr.1
    by_cases c0 : ps.length = 0
    · have pe : tabErr d (q : Nat) ps = 3 := by unfold tabErr; rw [if_neg (by omega), if_pos c0]
      (refine calls_intro (hC.body (by decide) tab172) (Nat.le_of_ble_eq_true rfl) ?_); (show wp C _ none B172.code _ _); (simp only [B172]); simp -implicitDefEqProofs (disch := first | assumption | decide | omega | (simp only [wpD1] <;> omega) | (simp only [wpD2] <;> assumption) | solve_by_elim [HSub.refl, HSub.push, HSub.reserve] | fail) only [↓wpPre, wpPost, wpPoly, Int.reduceToNat, Int.reducePow, Int.reduceMul, Int.reduceAdd, Int.reduceSub, Int.reduceNeg, Nat.reduceAdd, Nat.reduceMul, Nat.reducePow, Int.reduceLT, Int.reduceLE, Int.reduceEq, Nat.reduceEqDiff]
      refine ACallsK.eq (known09_spec (hC.sub (T' := T150) (by decide)) hd ho) ?_
      rw [ck]
      simp -implicitDefEqProofs (disch := first | assumption | decide | omega | (simp only [wpD1] <;> omega) | (simp only [wpD2] <;> assumption) | solve_by_elim [HSub.refl, HSub.push, HSub.reserve] | fail) only [↓wpPre, wpPost, wpPoly, Int.reduceToNat, Int.reducePow, Int.reduceMul, Int.reduceAdd, Int.reduceSub, Int.reduceNeg, Nat.reduceAdd, Nat.reduceMul, Nat.reducePow, Int.reduceLT, Int.reduceLE, Int.reduceEq, Nat.reduceEqDiff, hp.len]
      exact fin _ _ (HSub.refl _) pe (by decide)
    by_cases c8 : 8 < ps.length
    · have pe : tabErr d (q : Nat) ps = 4 := by unfold tabErr; rw [if_neg (by omega), if_neg c0, if_pos c8]
      (refine calls_intro (hC.body (by decide) tab172) (Nat.le_of_ble_eq_true rfl) ?_); (show wp C _ none B172.code _ _); (simp only [B172]); simp -implicitDefEqProofs (disch := first | assumption | decide | omega | (simp only [wpD1] <;> omega) | (simp only [wpD2] <;> assumption) | solve_by_elim [HSub.refl, HSub.push, HSub.reserve] | fail) only [↓wpPre, wpPost, wpPoly, Int.reduceToNat, Int.reducePow, Int.reduceMul, Int.reduceAdd, Int.reduceSub, Int.reduceNeg, Nat.reduceAdd, Nat.reduceMul, Nat.reducePow, Int.reduceLT, Int.reduceLE, Int.reduceEq, Nat.reduceEqDiff]
      refine ACallsK.eq (known09_spec (hC.sub (T' := T150) (by decide)) hd ho) ?_
      rw [ck]
      simp -implicitDefEqProofs (disch := first | assumption | decide | omega | (simp only [wpD1] <;> omega) | (simp only [wpD2] <;> assumption) | solve_by_elim [HSub.refl, HSub.push, HSub.reserve] | fail) only [↓wpPre, wpPost, wpPoly, Int.reduceToNat, Int.reducePow, Int.reduceMul, Int.reduceAdd, Int.reduceSub, Int.reduceNeg, Nat.reduceAdd, Nat.reduceMul, Nat.reducePow, Int.reduceLT, Int.reduceLE, Int.reduceEq, Nat.reduceEqDiff, hp.len]
      exact fin _ _ (HSub.refl _) pe (by decide)
    have pe : tabErr d (q : Nat) ps = tabE d ps ps.length := by unfold tabErr; rw [if_neg (by omega), if_neg c0, if_neg c8]
    rw [pe] at fin ⊢
    have fin2 : tabE d ps ps.length = 0 → ∀ (h' : Heap) (v : AV), HSub h h' → LLI h' v (tblL d q ps) → ∃ v', AV.tuple [v, .int .i64 0] = lstErr v' (tabE d ps ps.length) ∧ HSub h h' ∧ LLI h' v' (if tabE d ps ps.length = 0 then tblL d (q : Int).toNat ps else []) := fun he h' v hs hl => ⟨v, by rw [he]; rfl, hs, by rw [if_pos he]; exact hl⟩
    have hsd := fun (h : Heap) (i : Nat) (p : Int) (hp : In64 p) (hg : h.get i = some (.cells [.int .i64 p] true 0)) => sampled_specF (hC.sub (T' := T142) (by decide)) (vp := .slice i 0 1 (.known 1)) (ps := [p]) (h := h) hd ho (RI.known hg ⟨rfl, by decide⟩ (by decide)) (by simp [hp]) (by simp)
    (refine calls_intro (hC.body (by decide) tab172) (Nat.le_of_ble_eq_true rfl) ?_); (show wp C _ none B172.code _ _); (simp only [B172]); simp -implicitDefEqProofs (disch := first | assumption | decide | omega | (simp only [wpD1] <;> omega) | (simp only [wpD2] <;> assumption) | solve_by_elim [HSub.refl, HSub.push, HSub.reserve] | fail) only [↓wpPre, wpPost, wpPoly, Int.reduceToNat, Int.reducePow, Int.reduceMul, Int.reduceAdd, Int.reduceSub, Int.reduceNeg, Nat.reduceAdd, Nat.reduceMul, Nat.reducePow, Int.reduceLT, Int.reduceLE, Int.reduceEq, Nat.reduceEqDiff]
    refine ACallsK.eq (known09_spec (hC.sub (T' := T150) (by decide)) hd ho) ?_
    rw [ck]
    simp -implicitDefEqProofs (disch := first | assumption | decide | omega | (simp only [wpD1] <;> omega) | (simp only [wpD2] <;> assumption) | solve_by_elim [HSub.refl, HSub.push, HSub.reserve] | fail) only [↓wpPre, wpPost, wpPoly, Int.reduceToNat, Int.reducePow, Int.reduceMul, Int.reduceAdd, Int.reduceSub, Int.reduceNeg, Nat.reduceAdd, Nat.reduceMul, Nat.reducePow, Int.reduceLT, Int.reduceLE, Int.reduceEq, Nat.reduceEqDiff, hp.len]
    refine wp_loopI (fun j t h' => ∃ (k : Nat) (vs : List AV), Grw h h' 2 (t 9) k (codeCells vs (q : Nat)) ∧ vs.length = k ∧ (∀ i, i < k → GrwI h h' (vs.getD i .nilslice) (sampL d (ps.getD i 0) q) ∧ Dj (vs.getD i .nilslice) (t 9)) ∧ tabE d ps k = 0 ∧
      t 0 = .int .i64 d ∧ t 1 = .int .i64 (q : Nat) ∧ t 2 = vp ∧ t 34 = vp ∧ t 35 = .int .i64 (ps.length : Nat) ∧ t 36 = .int .i64 (k : Nat) ∧ k ≤ ps.length ∧ j = ps.length - k) (j0 := ps.length)
      ⟨0, [], Grw.nil _ _, rfl, fun i hi => by omega, rfl, rfl, rfl, rfl, rfl, rfl, rfl, by omega, rfl⟩ ?_
    rintro j t h2 ⟨k, vs, A, hvl, hvs, hte, e0, e1, e2, e34, e35, e36, hk, hj⟩
    simp -implicitDefEqProofs (disch := first | assumption | decide | omega | (simp only [wpD1] <;> omega) | (simp only [wpD2] <;> assumption) | solve_by_elim [HSub.refl, HSub.push, HSub.reserve] | fail) only [↓wpPre, wpPost, wpPoly, Int.reduceToNat, Int.reducePow, Int.reduceMul, Int.reduceAdd, Int.reduceSub, Int.reduceNeg, Nat.reduceAdd, Nat.reduceMul, Nat.reducePow, Int.reduceLT, Int.reduceLE, Int.reduceEq, Nat.reduceEqDiff, e35, e36]
    refine Br.by (fun c1 => ?_) (fun c1 => ?_)
    · have hk' : k < ps.length := by omega
      have hp2 := hp.mono A.sub
      have hxk := hx _ (getD_mem hk')
      have ts : tabE d ps (k + 1) = if codeErr d (ps.getD k 0) ≠ 0 then 2 else if ((ps.take k).any fun y => ps.getD k 0 == y) = true then 8 else 0 := by rw [tabE, if_neg (by omega)]
      have ld := hp2.load hk'
      have xp : ∃ p, p = ps.getD k 0 := ⟨_, rfl⟩
      obtain ⟨p, hpd⟩ := xp
      rw [← hpd] at ld ts hxk
      have se : sampErr d (q : Nat) [p] = codeErr d p := by
        rw [sampErr_one]
        rcases codeErr_cases d p with c | c
        · rw [if_pos ⟨ck, c⟩, c]
        · rw [if_neg (by omega), c]
      have hsd := hsd (h2.push (.cells [.int .i64 p] true 0)) h2.size p hxk (get_push_eq rfl)
      rw [se] at hsd
      by_cases cc : codeErr d p = 0
      · rw [if_neg (by omega)] at ts
        simp only [cc] at hsd
        simp -implicitDefEqProofs (disch := first | assumption | decide | omega | (simp only [wpD1] <;> omega) | (simp only [wpD2] <;> assumption) | solve_by_elim [HSub.refl, HSub.push, HSub.reserve] | fail) only [↓wpPre, wpPost, wpPoly, Int.reduceToNat, Int.reducePow, Int.reduceMul, Int.reduceAdd, Int.reduceSub, Int.reduceNeg, Nat.reduceAdd, Nat.reduceMul, Nat.reducePow, Int.reduceLT, Int.reduceLE, Int.reduceEq, Nat.reduceEqDiff, e0, e1, e34, e36, hp2.idx, ld]
        refine ACallsK.of hsd ?_
        rintro r h3 ⟨v, ws, rfl, s1, hcl⟩
        have s2 : HSub h2 h3 := (HSub.push1 _ _).trans s1
        have x0 := hcl trivial
        obtain ⟨cl, gw⟩ := x0
        have xw : ∃ w, ws = [w] := by
          have := cl.len
          match ws, this with
          | [w], _ => exact ⟨w, rfl⟩
        obtain ⟨w, rfl⟩ := xw
        have B : GrwI (h2.push (.cells [.int .i64 p] true 0)) h3 w (sampL d p q) := gw 0 (by simp)
        have hp3 := hp.mono (A.sub.trans s2)
        have xs := hp3.part_b (k2 := .i64) (b := (k : Nat)) (by omega)
        obtain ⟨v', ev, Rv⟩ := xs
        have ev := ev h3 (HSub.refl _)
        rw [Int.toNat_natCast] at Rv
        have hcn := Contains_spec (hC.sub (T' := T89) (by decide)) (x := p) Rv
        simp -implicitDefEqProofs (disch := first | assumption | decide | omega | (simp only [wpD1] <;> omega) | (simp only [wpD2] <;> assumption) | solve_by_elim [HSub.refl, HSub.push, HSub.reserve] | fail) only [↓wpPre, wpPost, wpPoly, Int.reduceToNat, Int.reducePow, Int.reduceMul, Int.reduceAdd, Int.reduceSub, Int.reduceNeg, Nat.reduceAdd, Nat.reduceMul, Nat.reducePow, Int.reduceLT, Int.reduceLE, Int.reduceEq, Nat.reduceEqDiff, lstErr, e2, ev]
        by_cases c3 : ((ps.take k).any fun y => p == y) = true
        · rw [if_pos c3] at ts
          rw [c3] at hcn
          refine ACallsK.eq hcn ?_
          simp -implicitDefEqProofs (disch := first | assumption | decide | omega | (simp only [wpD1] <;> omega) | (simp only [wpD2] <;> assumption) | solve_by_elim [HSub.refl, HSub.push, HSub.reserve] | fail) only [↓wpPre, wpPost, wpPoly, Int.reduceToNat, Int.reducePow, Int.reduceMul, Int.reduceAdd, Int.reduceSub, Int.reduceNeg, Nat.reduceAdd, Nat.reduceMul, Nat.reducePow, Int.reduceLT, Int.reduceLE, Int.reduceEq, Nat.reduceEqDiff]
          exact fin _ _ (A.sub.trans s2) ((tabE_at (by rw [ts]; decide) (by omega)).trans ts) (by decide)
        · rw [if_neg c3] at ts
          rw [Bool.eq_false_iff.2 c3] at hcn
          refine ACallsK.eq hcn ?_
          have cw := cl.sl.content
          rw [show ([p] : List Int).length = 1 from rfl, show codeCells [w] (q : Nat) = [w, .int .i64 (q : Nat)] from rfl] at cw
          have wone : w.one = true := (Grw.sl B).one
          have hn1 : [w, AV.int .i64 (q : Nat)].all AV.one = true := by simp [wone, one_int]
          have ap := Grw.app A (bytes := 32) (m := 1) (news := [w, .int .i64 (q : Nat)]) s2 (by decide) (by omega) hn1
          have A5 := Grw.snoc A (m := 1) (news := [w, .int .i64 (q : Nat)]) s2 rfl (by omega)
          rw [← codeCells_snoc] at ap A5
          simp -implicitDefEqProofs (disch := first | assumption | decide | omega | (simp only [wpD1] <;> omega) | (simp only [wpD2] <;> assumption) | solve_by_elim [HSub.refl, HSub.push, HSub.reserve] | fail) only [↓wpPre, wpPost, wpPoly, Int.reduceToNat, Int.reducePow, Int.reduceMul, Int.reduceAdd, Int.reduceSub, Int.reduceNeg, Nat.reduceAdd, Nat.reduceMul, Nat.reducePow, Int.reduceLT, Int.reduceLE, Int.reduceEq, Nat.reduceEqDiff, cw, ap, e0, e1, e2, e34, e35, e36]
          have A4 := A.mono s2
          have B0 : GrwI h h3 w (sampL d p q) := B.base (A.sub.trans (HSub.push1 _ _))
          have dw : Dj w (t 9) := fun j hj hj9 => by
            have q1 := (Grw.ids_lt B j hj).1
            have q2 := (Grw.ids_lt A j hj9).2
            simp only [Heap.size_push] at q1
            omega
          refine ⟨_, ⟨k + 1, vs ++ [w], A5, by simp [hvl], fun i hi => ?_, ts, by simp, by omega, rfl⟩, by omega⟩
          rcases Nat.lt_or_ge i k with x | x
          · have e : (vs ++ [w]).getD i .nilslice = vs.getD i .nilslice := by simp [List.getD_eq_getElem?_getD, List.getElem?_append_left (show i < vs.length by omega)]
            rw [e]
            have B1 := (hvs i x).1.mono s2
            exact ⟨Grw.keep A4 B1 (HSub.refl _) (hvs i x).2, Grw.dj B1 (Nat.le_refl _)⟩
          · have ei : i = k := by omega
            subst ei
            have e : (vs ++ [w]).getD i .nilslice = w := by simp [List.getD_eq_getElem?_getD, ← hvl]
            rw [e, ← hpd]
            exact ⟨Grw.keep A4 B0 (HSub.refl _) dw, Grw.dj B0 (Nat.le_refl _)⟩
      · have c2 : codeErr d p = 2 := by rcases codeErr_cases d p with c | c <;> first | exact absurd c cc | exact c
        rw [if_pos (by omega)] at ts
        simp only [c2] at hsd
        simp -implicitDefEqProofs (disch := first | assumption | decide | omega | (simp only [wpD1] <;> omega) | (simp only [wpD2] <;> assumption) | solve_by_elim [HSub.refl, HSub.push, HSub.reserve] | fail) only [↓wpPre, wpPost, wpPoly, Int.reduceToNat, Int.reducePow, Int.reduceMul, Int.reduceAdd, Int.reduceSub, Int.reduceNeg, Nat.reduceAdd, Nat.reduceMul, Nat.reducePow, Int.reduceLT, Int.reduceLE, Int.reduceEq, Nat.reduceEqDiff, e0, e1, e34, e36, hp2.idx, ld]
        refine ACallsK.of hsd ?_
        rintro r h3 ⟨v, ws, rfl, s1, hcl⟩
        have s2 : HSub h2 h3 := (HSub.push1 _ _).trans s1
        simp -implicitDefEqProofs (disch := first | assumption | decide | omega | (simp only [wpD1] <;> omega) | (simp only [wpD2] <;> assumption) | solve_by_elim [HSub.refl, HSub.push, HSub.reserve] | fail) only [↓wpPre, wpPost, wpPoly, Int.reduceToNat, Int.reducePow, Int.reduceMul, Int.reduceAdd, Int.reduceSub, Int.reduceNeg, Nat.reduceAdd, Nat.reduceMul, Nat.reducePow, Int.reduceLT, Int.reduceLE, Int.reduceEq, Nat.reduceEqDiff, lstErr]
        exact fin _ _ (A.sub.trans s2) ((tabE_at (by rw [ts]; decide) (by omega)).trans ts) (by decide)
    · have ek : k = ps.length := by omega
      subst ek
      have fin3 := fin2 hte
      have lA := A.sl
      have hzA := A.sub.size
      have RV : ∀ i, i < ps.length → RI h2 (vs.getD i .nilslice) (sampL d (ps.getD i 0) q) := fun i hi => (hvs i hi).1.ri
      have hL8 : ps.length ≤ 8 := by omega
      have sz : ∀ i, (sampL d (ps.getD i 0) q).length = lenN d * q := fun i => sampL_length _ _ _
      have sz1 : lenN d ≤ lenN d * q := Nat.le_mul_of_pos_right _ (by omega)
      have sz2 : lenN d * q ≤ 1023 * 8 := Nat.mul_le_mul (by omega) (by omega)
      have lenA9 := lA.len
      have xlv : ∃ lv, lv = t 9 := ⟨_, rfl⟩
      obtain ⟨lv, hlv⟩ := xlv
      rw [← hlv] at lA lenA9
      have e9 : t 9 = lv := hlv.symm
      simp -implicitDefEqProofs (disch := first | assumption | decide | omega | (simp only [wpD1] <;> omega) | (simp only [wpD2] <;> assumption) | solve_by_elim [HSub.refl, HSub.push, HSub.reserve] | fail) only [↓wpPre, wpPost, wpPoly, Int.reduceToNat, Int.reducePow, Int.reduceMul, Int.reduceAdd, Int.reduceSub, Int.reduceNeg, Nat.reduceAdd, Nat.reduceMul, Nat.reducePow, Int.reduceLT, Int.reduceLE, Int.reduceEq, Nat.reduceEqDiff, e9, lenA9]
      refine wp_loopI (fun j t h' => ∃ (i : Nat) (rows : List AV), h'.get h2.size = some (.cells rows true 0) ∧ rows.length = ps.length ∧ HSub h2 h' ∧ h2.size < h'.size ∧ (∀ j, j < i → GrwI h2 h' (rows.getD j .nilslice) (tabRow d q ps j ps.length) ∧ h2.size ∉ (rows.getD j .nilslice).ids) ∧ (∀ j, i ≤ j → j < ps.length → rows[j]? = some .nilslice) ∧
        t 1 = .int .i64 (q : Nat) ∧ t 9 = lv ∧ t 14 = .slice h2.size 0 ps.length (.known ps.length) ∧ t 64 = lv ∧ t 65 = .int .i64 (ps.length : Nat) ∧ t 66 = .int .i64 (i : Nat) ∧ i ≤ ps.length ∧ j = ps.length - i) (j0 := ps.length)
        ⟨0, List.replicate ps.length .nilslice, get_push_eq rfl, by simp, HSub.push1 _ _, by simp, fun j hj => by omega, fun j _ hj => by simp [hj], e1, e9, rfl, rfl, rfl, rfl, by omega, rfl⟩ ?_
      rintro j t h4 ⟨i, rows, gO, hrl, s4, z4, hrow, hnil, e1, e9, e14, e64, e65, e66, hi, hj⟩
      simp -implicitDefEqProofs (disch := first | assumption | decide | omega | (simp only [wpD1] <;> omega) | (simp only [wpD2] <;> assumption) | solve_by_elim [HSub.refl, HSub.push, HSub.reserve] | fail) only [↓wpPre, wpPost, wpPoly, Int.reduceToNat, Int.reducePow, Int.reduceMul, Int.reduceAdd, Int.reduceSub, Int.reduceNeg, Nat.reduceAdd, Nat.reduceMul, Nat.reducePow, Int.reduceLT, Int.reduceLE, Int.reduceEq, Nat.reduceEqDiff, e65, e66]
      refine Br.by (fun c2 => ?_) (fun c2 => ?_)
      · have hi' : i < ps.length := by omega
        have ixi : idxA 2 lv (.int .i64 (i : Nat)) = some (elA 2 lv i) := lA.idx ⟨by omega, by omega⟩
        have ldi := (lA.mono s4).loadA hi'
        rw [codeCells_cut (q : Nat) vs i (by omega)] at ldi
        have xwi : ∃ wi, wi = vs.getD i .nilslice := ⟨_, rfl⟩
        obtain ⟨wi, hwi⟩ := xwi
        have Ri := RV i hi'
        rw [← hwi] at ldi Ri
        have one := Ri.one
        simp -implicitDefEqProofs (disch := first | assumption | decide | omega | (simp only [wpD1] <;> omega) | (simp only [wpD2] <;> assumption) | solve_by_elim [HSub.refl, HSub.push, HSub.reserve] | fail) only [↓wpPre, wpPost, wpPoly, Int.reduceToNat, Int.reducePow, Int.reduceMul, Int.reduceAdd, Int.reduceSub, Int.reduceNeg, Nat.reduceAdd, Nat.reduceMul, Nat.reducePow, Int.reduceLT, Int.reduceLE, Int.reduceEq, Nat.reduceEqDiff, e1, e9, e64, e66, ixi, ldi, lenA9]
        have gO5 : (h4.push (.cells [wi, .int .i64 (q : Nat)] true 0)).get h2.size = some (.cells rows true 0) := (get_push_lt z4).trans gO
        refine wp_loopI (fun j t h' => ∃ (k : Nat) (rws : List AV), h'.get h2.size = some (.cells rws true 0) ∧ rws.length = ps.length ∧ HSub h2 h' ∧ h4.size < h'.size ∧ h'.get h4.size = some (.cells [wi, .int .i64 (q : Nat)] true 0) ∧ h4.size ∉ (rws.getD i .nilslice).ids ∧
          (∀ j, j < i → GrwI h2 h' (rws.getD j .nilslice) (tabRow d q ps j ps.length) ∧ h2.size ∉ (rws.getD j .nilslice).ids ∧ Dj (rws.getD j .nilslice) (rws.getD i .nilslice)) ∧ GrwI h2 h' (rws.getD i .nilslice) (tabRow d q ps i k) ∧ h2.size ∉ (rws.getD i .nilslice).ids ∧ (∀ j, i < j → j < ps.length → rws[j]? = some .nilslice) ∧
          t 1 = .int .i64 (q : Nat) ∧ t 9 = lv ∧ t 14 = .slice h2.size 0 ps.length (.known ps.length) ∧ t 15 = .int .i64 (i : Nat) ∧ t 16 = .ptr h4.size 0 ∧ t 64 = lv ∧ t 65 = .int .i64 (ps.length : Nat) ∧ t 66 = .int .i64 (i : Nat) ∧ t 71 = lv ∧ t 72 = .int .i64 (ps.length : Nat) ∧ t 73 = .int .i64 (k : Nat) ∧ k ≤ ps.length ∧ j = ps.length - k) (j0 := ps.length)
          ⟨0, rows, gO5, hrl, s4.push _, by simp, get_push_eq rfl, ?_, ?_, ?_, ?_, ?_, e1, e9, e14, rfl, rfl, e64, e65, e66, rfl, rfl, rfl, by omega, rfl⟩ ?_
        · have := hnil i (Nat.le_refl _) hi'
          rw [List.getD_eq_getElem?_getD, this]; simp [AV.ids]
        · intro j hj
          have hni := hnil i (Nat.le_refl _) hi'
          refine ⟨(hrow j hj).1.mono (HSub.push1 _ _), (hrow j hj).2, ?_⟩
          rw [List.getD_eq_getElem?_getD (i := i), hni]
          exact Dj.nilR
        · have hni := hnil i (Nat.le_refl _) hi'
          rw [List.getD_eq_getElem?_getD (i := i), hni]
          exact GrwI.nil' (s4.push _)
        · have hni := hnil i (Nat.le_refl _) hi'
          rw [List.getD_eq_getElem?_getD (i := i), hni]
          simp [AV.ids]
        · intro j hj hj2
          exact hnil j (by omega) hj2
        rintro j t h5 ⟨k, rws, gO, hrl, s5, z5, g16, n16, hrow, hri, nri, hnil, e1, e9, e14, e15, e16, e64, e65, e66, e71, e72, e73, hk, hj⟩
        simp -implicitDefEqProofs (disch := first | assumption | decide | omega | (simp only [wpD1] <;> omega) | (simp only [wpD2] <;> assumption) | solve_by_elim [HSub.refl, HSub.push, HSub.reserve] | fail) only [↓wpPre, wpPost, wpPoly, Int.reduceToNat, Int.reducePow, Int.reduceMul, Int.reduceAdd, Int.reduceSub, Int.reduceNeg, Nat.reduceAdd, Nat.reduceMul, Nat.reducePow, Int.reduceLT, Int.reduceLE, Int.reduceEq, Nat.reduceEqDiff, e72, e73]
        refine Br.by (fun c3 => ?_) (fun c3 => ?_)
        · have hk' : k < ps.length := by omega
          have ixk : idxA 2 lv (.int .i64 (k : Nat)) = some (elA 2 lv k) := lA.idx ⟨by omega, by omega⟩
          have ldk := (lA.mono s5).loadA hk'
          rw [codeCells_cut (q : Nat) vs k (by omega)] at ldk
          have xwk : ∃ wk, wk = vs.getD k .nilslice := ⟨_, rfl⟩
          obtain ⟨wk, hwk⟩ := xwk
          have Rk := RV k hk'
          rw [← hwk] at ldk Rk
          have onek := Rk.one
          have xr : ∃ ri, ri = rws.getD i .nilslice := ⟨_, rfl⟩
          obtain ⟨ri, hrid⟩ := xr
          rw [← hrid] at hri nri n16
          have rget : rws[i]? = some ri := by rw [hrid]; simp [List.getD_eq_getElem?_getD, show i < rws.length by omega]
          by_cases cik : i = k
          · subst cik
            have sx := tabRow_succ d q ps i i
            rw [if_pos rfl] at sx
            have sl := tabRow_length d q ps i i
            simp -implicitDefEqProofs (disch := first | assumption | decide | omega | (simp only [wpD1] <;> omega) | (simp only [wpD2] <;> assumption) | solve_by_elim [HSub.refl, HSub.push, HSub.reserve] | fail) only [↓wpPre, wpPost, wpPoly, Int.reduceToNat, Int.reducePow, Int.reduceMul, Int.reduceAdd, Int.reduceSub, Int.reduceNeg, Nat.reduceAdd, Nat.reduceMul, Nat.reducePow, Int.reduceLT, Int.reduceLE, Int.reduceEq, Nat.reduceEqDiff, e1, e14, e15, e16, e71, e73, ixk, ldk, gO, rget, g16]
            refine ACallsK.hide (fun H hH => ?_)
            have N : H.size = h5.size + 15 := by rw [hH]; simp -implicitDefEqProofs (disch := first | assumption | decide | omega | (simp only [wpD1] <;> omega) | (simp only [wpD2] <;> assumption) | solve_by_elim [HSub.refl, HSub.push, HSub.reserve] | fail) only [↓wpPre, wpPost, wpPoly, Int.reduceToNat, Int.reducePow, Int.reduceMul, Int.reduceAdd, Int.reduceSub, Int.reduceNeg, Nat.reduceAdd, Nat.reduceMul, Nat.reducePow, Int.reduceLT, Int.reduceLE, Int.reduceEq, Nat.reduceEqDiff]
            have gH : ∀ j, j < h5.size → H.get j = h5.get j := by
              intro j hj
              rw [hH, Heap.get_reserve, get_push_lt hj]
            have gN : ∀ j, h5.size + 1 ≤ j → H.get j = none := by
              intro j hj
              rw [hH, Heap.get_reserve]
              exact Heap.wf _ j (by simpa using hj)
            have hs5 : HSub h5 H := ⟨by omega, gH⟩
            clear hH
            have gO6 := (gH _ (by omega)).trans gO
            have gp := great_spec (hC.sub (T' := T183) (by decide)) (o1 := (q : Nat)) (o2 := (q : Nat)) (mg := q) (h := H) (Ri.mono (s5.trans hs5)) (Rk.mono (s5.trans hs5)) (sampL_one1 _ _ _) (sampL_one1 _ _ _) ⟨by simp only [sz], by rw [sz]; omega, by rw [sz]; omega⟩ (by omega)
            refine ACallsK.eq gp ?_
            have ap := fun b => Grw.appG (H := H.put (h5.size + 1 + 10) b) (k := h5.size + 1 + 11) (m := 1) (bytes := 8) (news := [.int .i64 (greatI (sampL d (ps.getD i 0) q) (sampL d (ps.getD i 0) q) q)]) hri (fun j hj => by rw [get_put_ne (by have := (Grw.ids_lt hri j hj).2; omega)]; exact gH j (Grw.ids_lt hri j hj).2) ⟨by omega, by simp only [Heap.size_put]; omega⟩ (by decide) (by omega) (by rfl)
            rw [ints_snoc, ← sx, sl] at ap
            have g10 := gN (h5.size + 1 + 10) (by omega)
            have g11 := gN (h5.size + 1 + 11) (by omega)
            simp -implicitDefEqProofs (disch := first | assumption | decide | omega | (simp only [wpD1] <;> omega) | (simp only [wpD2] <;> assumption) | solve_by_elim [HSub.refl, HSub.push, HSub.reserve] | fail) only [↓wpPre, wpPost, wpPoly, Int.reduceToNat, Int.reducePow, Int.reduceMul, Int.reduceAdd, Int.reduceSub, Int.reduceNeg, Nat.reduceAdd, Nat.reduceMul, Nat.reducePow, Int.reduceLT, Int.reduceLE, Int.reduceEq, Nat.reduceEqDiff, g10, g11, cont_slice, contB_one, ap, appK_none, e14]
            refine ⟨gH _ (by omega), ?_⟩
            have gF := fun b => (snocS_ne (H := H.put (h5.size + 1 + 10) b) (k := h5.size + 1 + 11) (v := ri) (sz := 1) (cs := ints (tabRow d q ps i (i + 1))) (j := h2.size) (by omega) nri).trans ((get_put_ne (by omega)).trans gO6)
            have zF := fun b => snocS_size (H := H.put (h5.size + 1 + 10) b) (k := h5.size + 1 + 11) (v := ri) (sz := 1) (cs := ints (tabRow d q ps i (i + 1)))
            have rF := fun b => snocS_same (H := H.put (h5.size + 1 + 10) b) (k := h5.size + 1 + 11) (v := ri) (sz := 1) (cs := ints (tabRow d q ps i (i + 1))) (by simp only [Heap.size_put]; omega)
            have bF := fun b => snocS_sub (H := H.put (h5.size + 1 + 10) b) (k := h5.size + 1 + 11) (ds := ints (tabRow d q ps i (i + 1))) hri ((s5.trans hs5).put (by omega) b) (by omega)
            have oF := fun b (j : Nat) (hj : j < h5.size) (hv : j ∉ ri.ids) => (snocS_ne (H := H.put (h5.size + 1 + 10) b) (k := h5.size + 1 + 11) (v := ri) (sz := 1) (cs := ints (tabRow d q ps i (i + 1))) (j := j) (by omega) hv).trans ((get_put_ne (by omega)).trans (gH j hj))
            simp only [Heap.size_put] at zF
            simp -implicitDefEqProofs (disch := first | assumption | decide | omega | (simp only [wpD1] <;> omega) | (simp only [wpD2] <;> assumption) | solve_by_elim [HSub.refl, HSub.push, HSub.reserve] | fail) only [↓wpPre, wpPost, wpPoly, Int.reduceToNat, Int.reducePow, Int.reduceMul, Int.reduceAdd, Int.reduceSub, Int.reduceNeg, Nat.reduceAdd, Nat.reduceMul, Nat.reducePow, Int.reduceLT, Int.reduceLE, Int.reduceEq, Nat.reduceEqDiff, gF, e15, e1, e9, e14, e16, e64, e65, e66, e71, e72, e73]
            have nw : ∀ j, j < i → (rws.set i (.slice (h5.size + 1 + 11) 0 (i + 1) (.unk 0))).getD j .nilslice = rws.getD j .nilslice := fun j hj => by simp [List.getD_eq_getElem?_getD, List.getElem?_set, show ¬ i = j by omega]
            have ne' : (rws.set i (.slice (h5.size + 1 + 11) 0 (i + 1) (.unk 0))).getD i .nilslice = .slice (h5.size + 1 + 11) 0 (i + 1) (.unk 0) := by simp [List.getD_eq_getElem?_getD, List.getElem?_set, show i < rws.length by omega]
            refine ⟨_, ⟨i + 1, rws.set i (.slice (h5.size + 1 + 11) 0 (i + 1) (.unk 0)), get_put_eq rfl (by rw [zF]; omega), by simp [hrl], (bF _).put (Nat.le_refl _) _, by rw [zF]; omega, (oF _ _ z5 n16).trans g16, by rw [ne']; simp only [AV.ids, List.mem_singleton]; omega, fun j hj => ?_, ?_, by rw [ne']; simp only [AV.ids, List.mem_singleton]; omega, fun j hj hj2 => ?_, by simp, by omega, rfl⟩, by omega⟩
            · rw [nw j hj, ne']
              obtain ⟨B, nb, dj⟩ := hrow j hj
              rw [← hrid] at dj
              refine ⟨Grw.move B ((bF _).put (Nat.le_refl _) _) (fun x hx => ?_), nb, fun x hx hy => ?_⟩
              · have xl := (Grw.ids_lt B x hx).2
                exact (get_put_ne (fun (e : x = h2.size) => nb (by rw [← e]; exact hx))).trans (oF _ x xl (dj x hx))
              · have xl := (Grw.ids_lt B x hx).2
                simp only [AV.ids, List.mem_singleton] at hy
                omega
            · rw [ne']
              exact grwI_mk ((bF _).put (Nat.le_refl _) _) (by omega) ⟨(tabRow_length _ _ _ _ _).symm, by rw [tabRow_length]; omega⟩ ((get_put_ne (by omega)).trans (rF _))
            · rw [List.getElem?_set, if_neg (by omega)]
              exact hnil j hj hj2
          · have cik' : ¬ ((i : Nat) : Int) = (k : Nat) := by omega
            have sx := tabRow_succ d q ps i k
            rw [if_neg cik] at sx
            have sl := tabRow_length d q ps i k
            simp -implicitDefEqProofs (disch := first | assumption | decide | omega | (simp only [wpD1] <;> omega) | (simp only [wpD2] <;> assumption) | solve_by_elim [HSub.refl, HSub.push, HSub.reserve] | fail) only [↓wpPre, wpPost, wpPoly, Int.reduceToNat, Int.reducePow, Int.reduceMul, Int.reduceAdd, Int.reduceSub, Int.reduceNeg, Nat.reduceAdd, Nat.reduceMul, Nat.reducePow, Int.reduceLT, Int.reduceLE, Int.reduceEq, Nat.reduceEqDiff, e1, e14, e15, e16, e71, e73, ixk, ldk, gO, rget, g16]
            refine ACallsK.hide (fun H hH => ?_)
            have N : H.size = h5.size + 15 := by rw [hH]; simp -implicitDefEqProofs (disch := first | assumption | decide | omega | (simp only [wpD1] <;> omega) | (simp only [wpD2] <;> assumption) | solve_by_elim [HSub.refl, HSub.push, HSub.reserve] | fail) only [↓wpPre, wpPost, wpPoly, Int.reduceToNat, Int.reducePow, Int.reduceMul, Int.reduceAdd, Int.reduceSub, Int.reduceNeg, Nat.reduceAdd, Nat.reduceMul, Nat.reducePow, Int.reduceLT, Int.reduceLE, Int.reduceEq, Nat.reduceEqDiff]
            have gH : ∀ j, j < h5.size → H.get j = h5.get j := by
              intro j hj
              rw [hH, Heap.get_reserve, get_push_lt hj]
            have gN : ∀ j, h5.size + 1 ≤ j → H.get j = none := by
              intro j hj
              rw [hH, Heap.get_reserve]
              exact Heap.wf _ j (by simpa using hj)
            have hs5 : HSub h5 H := ⟨by omega, gH⟩
            clear hH
            have gO6 := (gH _ (by omega)).trans gO
            have gp := great_spec (hC.sub (T' := T183) (by decide)) (o1 := (q : Nat)) (o2 := (q : Nat)) (mg := 0) (h := H) (Ri.mono (s5.trans hs5)) (Rk.mono (s5.trans hs5)) (sampL_one1 _ _ _) (sampL_one1 _ _ _) ⟨by simp only [sz], by rw [sz]; omega, by rw [sz]; omega⟩ (by omega)
            refine ACallsK.eq gp ?_
            have ap := fun b => Grw.appG (H := H.put (h5.size + 1 + 10) b) (k := h5.size + 1 + 11) (m := 1) (bytes := 8) (news := [.int .i64 (greatI (sampL d (ps.getD i 0) q) (sampL d (ps.getD k 0) q) 0)]) hri (fun j hj => by rw [get_put_ne (by have := (Grw.ids_lt hri j hj).2; omega)]; exact gH j (Grw.ids_lt hri j hj).2) ⟨by omega, by simp only [Heap.size_put]; omega⟩ (by decide) (by omega) (by rfl)
            rw [ints_snoc, ← sx, sl] at ap
            have g10 := gN (h5.size + 1 + 10) (by omega)
            have g11 := gN (h5.size + 1 + 11) (by omega)
            simp -implicitDefEqProofs (disch := first | assumption | decide | omega | (simp only [wpD1] <;> omega) | (simp only [wpD2] <;> assumption) | solve_by_elim [HSub.refl, HSub.push, HSub.reserve] | fail) only [↓wpPre, wpPost, wpPoly, Int.reduceToNat, Int.reducePow, Int.reduceMul, Int.reduceAdd, Int.reduceSub, Int.reduceNeg, Nat.reduceAdd, Nat.reduceMul, Nat.reducePow, Int.reduceLT, Int.reduceLE, Int.reduceEq, Nat.reduceEqDiff, g10, g11, cont_slice, contB_one, ap, appK_none, e14]
            refine ⟨gH _ (by omega), ?_⟩
            have gF := fun b => (snocS_ne (H := H.put (h5.size + 1 + 10) b) (k := h5.size + 1 + 11) (v := ri) (sz := 1) (cs := ints (tabRow d q ps i (k + 1))) (j := h2.size) (by omega) nri).trans ((get_put_ne (by omega)).trans gO6)
            have zF := fun b => snocS_size (H := H.put (h5.size + 1 + 10) b) (k := h5.size + 1 + 11) (v := ri) (sz := 1) (cs := ints (tabRow d q ps i (k + 1)))
            have rF := fun b => snocS_same (H := H.put (h5.size + 1 + 10) b) (k := h5.size + 1 + 11) (v := ri) (sz := 1) (cs := ints (tabRow d q ps i (k + 1))) (by simp only [Heap.size_put]; omega)
            have bF := fun b => snocS_sub (H := H.put (h5.size + 1 + 10) b) (k := h5.size + 1 + 11) (ds := ints (tabRow d q ps i (k + 1))) hri ((s5.trans hs5).put (by omega) b) (by omega)
            have oF := fun b (j : Nat) (hj : j < h5.size) (hv : j ∉ ri.ids) => (snocS_ne (H := H.put (h5.size + 1 + 10) b) (k := h5.size + 1 + 11) (v := ri) (sz := 1) (cs := ints (tabRow d q ps i (k + 1))) (j := j) (by omega) hv).trans ((get_put_ne (by omega)).trans (gH j hj))
            simp only [Heap.size_put] at zF
            simp -implicitDefEqProofs (disch := first | assumption | decide | omega | (simp only [wpD1] <;> omega) | (simp only [wpD2] <;> assumption) | solve_by_elim [HSub.refl, HSub.push, HSub.reserve] | fail) only [↓wpPre, wpPost, wpPoly, Int.reduceToNat, Int.reducePow, Int.reduceMul, Int.reduceAdd, Int.reduceSub, Int.reduceNeg, Nat.reduceAdd, Nat.reduceMul, Nat.reducePow, Int.reduceLT, Int.reduceLE, Int.reduceEq, Nat.reduceEqDiff, gF, e15, e1, e9, e14, e16, e64, e65, e66, e71, e72, e73]
            have nw : ∀ j, j < i → (rws.set i (.slice (h5.size + 1 + 11) 0 (k + 1) (.unk 0))).getD j .nilslice = rws.getD j .nilslice := fun j hj => by simp [List.getD_eq_getElem?_getD, List.getElem?_set, show ¬ i = j by omega]
            have ne' : (rws.set i (.slice (h5.size + 1 + 11) 0 (k + 1) (.unk 0))).getD i .nilslice = .slice (h5.size + 1 + 11) 0 (k + 1) (.unk 0) := by simp [List.getD_eq_getElem?_getD, List.getElem?_set, show i < rws.length by omega]
            refine ⟨_, ⟨k + 1, rws.set i (.slice (h5.size + 1 + 11) 0 (k + 1) (.unk 0)), get_put_eq rfl (by rw [zF]; omega), by simp [hrl], (bF _).put (Nat.le_refl _) _, by rw [zF]; omega, (oF _ _ z5 n16).trans g16, by rw [ne']; simp only [AV.ids, List.mem_singleton]; omega, fun j hj => ?_, ?_, by rw [ne']; simp only [AV.ids, List.mem_singleton]; omega, fun j hj hj2 => ?_, by simp, by omega, rfl⟩, by omega⟩
            · rw [nw j hj, ne']
              obtain ⟨B, nb, dj⟩ := hrow j hj
              rw [← hrid] at dj
              refine ⟨Grw.move B ((bF _).put (Nat.le_refl _) _) (fun x hx => ?_), nb, fun x hx hy => ?_⟩
              · have xl := (Grw.ids_lt B x hx).2
                exact (get_put_ne (fun (e : x = h2.size) => nb (by rw [← e]; exact hx))).trans (oF _ x xl (dj x hx))
              · have xl := (Grw.ids_lt B x hx).2
                simp only [AV.ids, List.mem_singleton] at hy
                omega
            · rw [ne']
              exact grwI_mk ((bF _).put (Nat.le_refl _) _) (by omega) ⟨(tabRow_length _ _ _ _ _).symm, by rw [tabRow_length]; omega⟩ ((get_put_ne (by omega)).trans (rF _))
            · rw [List.getElem?_set, if_neg (by omega)]
              exact hnil j hj hj2
        · have ek : k = ps.length := by omega
          subst ek
          simp -implicitDefEqProofs (disch := first | assumption | decide | omega | (simp only [wpD1] <;> omega) | (simp only [wpD2] <;> assumption) | solve_by_elim [HSub.refl, HSub.push, HSub.reserve] | fail) only [↓wpPre, wpPost, wpPoly, Int.reduceToNat, Int.reducePow, Int.reduceMul, Int.reduceAdd, Int.reduceSub, Int.reduceNeg, Nat.reduceAdd, Nat.reduceMul, Nat.reducePow, Int.reduceLT, Int.reduceLE, Int.reduceEq, Nat.reduceEqDiff, e1, e9, e14, e64, e65, e66]
          refine ⟨_, ⟨i + 1, rws, gO, hrl, s5, by omega, fun j hj => ?_, fun j hj hj2 => hnil j (by omega) hj2, by simp, by omega, rfl⟩, by omega⟩
          rcases Nat.lt_or_ge j i with x | x
          · exact ⟨(hrow j x).1, (hrow j x).2.1⟩
          · have : j = i := by omega
            subst this
            exact ⟨hri, nri⟩
      · have ei : i = ps.length := by omega
        subst ei
        have tl : (tblL d q ps).length = ps.length := by simp [tblL]
        simp -implicitDefEqProofs (disch := first | assumption | decide | omega | (simp only [wpD1] <;> omega) | (simp only [wpD2] <;> assumption) | solve_by_elim [HSub.refl, HSub.push, HSub.reserve] | fail) only [↓wpPre, wpPost, wpPoly, Int.reduceToNat, Int.reducePow, Int.reduceMul, Int.reduceAdd, Int.reduceSub, Int.reduceNeg, Nat.reduceAdd, Nat.reduceMul, Nat.reducePow, Int.reduceLT, Int.reduceLE, Int.reduceEq, Nat.reduceEqDiff, e14]
        refine fin3 _ _ (A.sub.trans s4) ⟨rows, ⟨by rw [tl, Nat.mul_one]; exact hrl, by rw [tl]; omega, .inr ⟨h2.size, 0, .known ps.length, rows, true, 0, by rw [tl], gO, by rw [tl]; omega, by rw [tl]; exact cut_all (by omega), by rw [tl]; exact Nat.le_refl _⟩⟩, by rw [tl]; exact hrl, fun j hj => ?_⟩
        have hj' : j < ps.length := by simpa [tblL] using hj
        have e : (tblL d q ps).getD j [] = tabRow d q ps j ps.length := by simp [tblL, hj']
        rw [e]
        exact (hrow j hj').1.ri
  · have pe : tabErr d o ps = 2 := by unfold tabErr; rw [if_pos ck]
    have ck2 : knownErr d o = 2 := by unfold knownErr at ck ⊢; split at ck <;> first | exact absurd rfl ck | (rename_i h; rw [if_neg h])
    (refine calls_intro (hC.body (by decide) tab172) (Nat.le_of_ble_eq_true rfl) ?_); (show wp C _ none B172.code _ _); (simp only [B172]); simp -implicitDefEqProofs (disch := first | assumption | decide | omega | (simp only [wpD1] <;> omega) | (simp only [wpD2] <;> assumption) | solve_by_elim [HSub.refl, HSub.push, HSub.reserve] | fail) only [↓wpPre, wpPost, wpPoly, Int.reduceToNat, Int.reducePow, Int.reduceMul, Int.reduceAdd, Int.reduceSub, Int.reduceNeg, Nat.reduceAdd, Nat.reduceMul, Nat.reducePow, Int.reduceLT, Int.reduceLE, Int.reduceEq, Nat.reduceEqDiff]
    refine ACallsK.eq (known09_spec (hC.sub (T' := T150) (by decide)) hd ho) ?_
    rw [ck2]
    simp -implicitDefEqProofs (disch := first | assumption | decide | omega | (simp only [wpD1] <;> omega) | (simp only [wpD2] <;> assumption) | solve_by_elim [HSub.refl, HSub.push, HSub.reserve] | fail) only [↓wpPre, wpPost, wpPoly, Int.reduceToNat, Int.reducePow, Int.reduceMul, Int.reduceAdd, Int.reduceSub, Int.reduceNeg, Nat.reduceAdd, Nat.reduceMul, Nat.reducePow, Int.reduceLT, Int.reduceLE, Int.reduceEq, Nat.reduceEqDiff]
    exact fin _ _ (HSub.refl _) pe (by decide)
end
end Go.Ae

/- Tables of sums, of the reference. -/
set_option linter.unusedSimpArgs false
set_option linter.unusedVariables false
namespace Go.Ae
theorem anyeq_take_succ {ps : List Int} {p : Int} {m : Nat} (hm : m < ps.length) : ((ps.take (m + 1)).any fun y => p == y) = (((ps.take m).any fun y => p == y) || p == ps.getD m 0) := by
  rw [take_succ_getD hm, List.any_append]; simp
theorem tabE_zero {d : Int} {ps : List Int} {n : Nat} (h : tabE d ps n = 0) {i : Nat} (hi : i < n) : codeErr d (ps.getD i 0) = 0 := by
  by_cases c : tabE d ps (i + 1) = 0
  · rw [tabE] at c
    split at c
    · contradiction
    · split at c
      · cases c
      · rename_i h2; omega
  · exact absurd ((tabE_at c (show i + 1 ≤ n by omega)).symm.trans h) c
theorem fill_one1 {w : AV} (h : w.one = true) : fillA [AV.nilslice] [(0, 1, w)] = some [w] := by
  have hc : w.cells = [w] := by cases w <;> first | rfl | (simp [AV.one] at h)
  simp [fillA, hc]
section
variable {C : Ctx}
set_option maxHeartbeats 4000000 in
set_option maxRecDepth 20000 in
theorem TableR_spec (hC : Has C T174) {d o : Int} {vp : AV} {ps : List Int} {h : Heap} (hd : In64 d) (ho : In64 o) (hp : RI h vp ps) (hx : ∀ x ∈ ps, In64 x) :
    ACalls C 174 [.int .i64 d, .int .i64 o, vp] h (fun r h' => ∃ v, r = lstErr v (tabErr d o ps) ∧ HSub h h' ∧ LLI h' v (if tabErr d o ps = 0 then tblL d o.toNat ps else [])) := by
  have hplt := hp.lt
  have fin : ∀ (h' : Heap) (e : Int), HSub h h' → tabErr d o ps = e → e ≠ 0 → ∃ v, AV.tuple [.nilslice, .int .i64 e] = lstErr v (tabErr d o ps) ∧ HSub h h' ∧ LLI h' v (if tabErr d o ps = 0 then tblL d o.toNat ps else []) := fun h' e hs he h0 => ⟨.nilslice, by rw [he]; rfl, hs, by rw [if_neg (by omega)]; exact LLI.nil⟩
  by_cases ck : knownErr d o = 0
  · have kr : lenOk d = true ∧ 1 ≤ o ∧ o ≤ 8 := by
      unfold knownErr at ck
      split at ck
      · assumption
      · cases ck
    obtain ⟨q, rfl⟩ := Int.eq_ofNat_of_zero_le (show 0 ≤ o by omega)
    have hN := lenN_eq kr.1
    by_cases c0 : ps.length = 0
    · have pe : tabErr d (q : Nat) ps = 3 := by unfold tabErr; rw [if_neg (by omega), if_pos c0]
      (refine calls_intro (hC.body (by decide) tab174) (Nat.le_of_ble_eq_true rfl) ?_); (show wp C _ none B174.code _ _); (simp only [B174]); simp -implicitDefEqProofs (disch := first | assumption | decide | omega | (simp only [wpD1] <;> omega) | (simp only [wpD2] <;> assumption) | solve_by_elim [HSub.refl, HSub.push, HSub.reserve] | fail) only [↓wpPre, wpPost, wpPoly, Int.reduceToNat, Int.reducePow, Int.reduceMul, Int.reduceAdd, Int.reduceSub, Int.reduceNeg, Nat.reduceAdd, Nat.reduceMul, Nat.reducePow, Int.reduceLT, Int.reduceLE, Int.reduceEq, Nat.reduceEqDiff]
      refine ACallsK.eq (knownR_spec (hC.sub (T' := T179) (by decide)) hd ho) ?_
      rw [ck]
      simp -implicitDefEqProofs (disch := first | assumption | decide | omega | (simp only [wpD1] <;> omega) | (simp only [wpD2] <;> assumption) | solve_by_elim [HSub.refl, HSub.push, HSub.reserve] | fail) only [↓wpPre, wpPost, wpPoly, Int.reduceToNat, Int.reducePow, Int.reduceMul, Int.reduceAdd, Int.reduceSub, Int.reduceNeg, Nat.reduceAdd, Nat.reduceMul, Nat.reducePow, Int.reduceLT, Int.reduceLE, Int.reduceEq, Nat.reduceEqDiff, hp.len]
      exact fin _ _ (HSub.refl _) pe (by decide)
    by_cases c8 : 8 < ps.length
    · have pe : tabErr d (q : Nat) ps = 4 := by unfold tabErr; rw [if_neg (by omega), if_neg c0, if_pos c8]
      (refine calls_intro (hC.body (by decide) tab174) (Nat.le_of_ble_eq_true rfl) ?_); (show wp C _ none B174.code _ _); (simp only [B174]); simp -implicitDefEqProofs (disch := first | assumption | decide | omega | (simp only [wpD1] <;> omega) | (simp only [wpD2] <;> assumption) | solve_by_elim [HSub.refl, HSub.push, HSub.reserve] | fail) only [↓wpPre, wpPost, wpPoly, Int.reduceToNat, Int.reducePow, Int.reduceMul, Int.reduceAdd, Int.reduceSub, Int.reduceNeg, Nat.reduceAdd, Nat.reduceMul, Nat.reducePow, Int.reduceLT, Int.reduceLE, Int.reduceEq, Nat.reduceEqDiff]
      refine ACallsK.eq (knownR_spec (hC.sub (T' := T179) (by decide)) hd ho) ?_
      rw [ck]
      simp -implicitDefEqProofs (disch := first | assumption | decide | omega | (simp only [wpD1] <;> omega) | (simp only [wpD2] <;> assumption) | solve_by_elim [HSub.refl, HSub.push, HSub.reserve] | fail) only [↓wpPre, wpPost, wpPoly, Int.reduceToNat, Int.reducePow, Int.reduceMul, Int.reduceAdd, Int.reduceSub, Int.reduceNeg, Nat.reduceAdd, Nat.reduceMul, Nat.reducePow, Int.reduceLT, Int.reduceLE, Int.reduceEq, Nat.reduceEqDiff, hp.len]
      exact fin _ _ (HSub.refl _) pe (by decide)
    have pe : tabErr d (q : Nat) ps = tabE d ps ps.length := by unfold tabErr; rw [if_neg (by omega), if_neg c0, if_neg c8]
    rw [pe] at fin ⊢
    have fin2 : tabE d ps ps.length = 0 → ∀ (h' : Heap) (v : AV), HSub h h' → LLI h' v (tblL d q ps) → ∃ v', AV.tuple [v, .int .i64 0] = lstErr v' (tabE d ps ps.length) ∧ HSub h h' ∧ LLI h' v' (if tabE d ps ps.length = 0 then tblL d (q : Int).toNat ps else []) := fun he h' v hs hl => ⟨v, by rw [he]; rfl, hs, by rw [if_pos he]; exact hl⟩
    (refine calls_intro (hC.body (by decide) tab174) (Nat.le_of_ble_eq_true rfl) ?_); (show wp C _ none B174.code _ _); (simp only [B174]); simp -implicitDefEqProofs (disch := first | assumption | decide | omega | (simp only [wpD1] <;> omega) | (simp only [wpD2] <;> assumption) | solve_by_elim [HSub.refl, HSub.push, HSub.reserve] | fail) only [↓wpPre, wpPost, wpPoly, Int.reduceToNat, Int.reducePow, Int.reduceMul, Int.reduceAdd, Int.reduceSub, Int.reduceNeg, Nat.reduceAdd, Nat.reduceMul, Nat.reducePow, Int.reduceLT, Int.reduceLE, Int.reduceEq, Nat.reduceEqDiff]
    refine ACallsK.eq (knownR_spec (hC.sub (T' := T179) (by decide)) hd ho) ?_
    rw [ck]
    simp -implicitDefEqProofs (disch := first | assumption | decide | omega | (simp only [wpD1] <;> omega) | (simp only [wpD2] <;> assumption) | solve_by_elim [HSub.refl, HSub.push, HSub.reserve] | fail) only [↓wpPre, wpPost, wpPoly, Int.reduceToNat, Int.reducePow, Int.reduceMul, Int.reduceAdd, Int.reduceSub, Int.reduceNeg, Nat.reduceAdd, Nat.reduceMul, Nat.reducePow, Int.reduceLT, Int.reduceLE, Int.reduceEq, Nat.reduceEqDiff, hp.len]
    refine wp_loopI (fun j t h' => ∃ k : Nat, HSub h h' ∧ tabE d ps k = 0 ∧ t 0 = .int .i64 d ∧ t 1 = .int .i64 (q : Nat) ∧ t 2 = vp ∧ t 9 = .int .i64 (k : Nat) ∧ k ≤ ps.length ∧ j = ps.length - k) (j0 := ps.length)
      ⟨0, HSub.refl _, rfl, rfl, rfl, rfl, rfl, by omega, rfl⟩ ?_
    rintro j t h2 ⟨k, s2, hte, e0, e1, e2, e9, hk, hj⟩
    simp -implicitDefEqProofs (disch := first | assumption | decide | omega | (simp only [wpD1] <;> omega) | (simp only [wpD2] <;> assumption) | solve_by_elim [HSub.refl, HSub.push, HSub.reserve] | fail) only [↓wpPre, wpPost, wpPoly, Int.reduceToNat, Int.reducePow, Int.reduceMul, Int.reduceAdd, Int.reduceSub, Int.reduceNeg, Nat.reduceAdd, Nat.reduceMul, Nat.reducePow, Int.reduceLT, Int.reduceLE, Int.reduceEq, Nat.reduceEqDiff, e2, e9, hp.len]
    refine Br.by (fun c1 => ?_) (fun c1 => ?_)
    · have hk' : k < ps.length := by omega
      have hp2 := hp.mono s2
      have hxk := hx _ (getD_mem hk')
      have ts : tabE d ps (k + 1) = if codeErr d (ps.getD k 0) ≠ 0 then 2 else if ((ps.take k).any fun y => ps.getD k 0 == y) = true then 8 else 0 := by rw [tabE, if_neg (by omega)]
      have hc := Code08_spec (hC.sub (T' := T77) (by decide)) (h := h2) hd hxk
      by_cases cc : codeErr d (ps.getD k 0) = 0
      · rw [if_neg (by omega)] at ts
        simp only [cc] at hc
        simp -implicitDefEqProofs (disch := first | assumption | decide | omega | (simp only [wpD1] <;> omega) | (simp only [wpD2] <;> assumption) | solve_by_elim [HSub.refl, HSub.push, HSub.reserve] | fail) only [↓wpPre, wpPost, wpPoly, Int.reduceToNat, Int.reducePow, Int.reduceMul, Int.reduceAdd, Int.reduceSub, Int.reduceNeg, Nat.reduceAdd, Nat.reduceMul, Nat.reducePow, Int.reduceLT, Int.reduceLE, Int.reduceEq, Nat.reduceEqDiff, e0, e2, e9, hp2.idx, hp2.loadC]
        refine ACallsK.of hc ?_
        rintro r h3 ⟨v, rfl, s3, _⟩
        have hp3 := hp2.mono s3
        simp -implicitDefEqProofs (disch := first | assumption | decide | omega | (simp only [wpD1] <;> omega) | (simp only [wpD2] <;> assumption) | solve_by_elim [HSub.refl, HSub.push, HSub.reserve] | fail) only [↓wpPre, wpPost, wpPoly, Int.reduceToNat, Int.reducePow, Int.reduceMul, Int.reduceAdd, Int.reduceSub, Int.reduceNeg, Nat.reduceAdd, Nat.reduceMul, Nat.reducePow, Int.reduceLT, Int.reduceLE, Int.reduceEq, Nat.reduceEqDiff, lstErr]
        refine wp_loopI (fun j t h' => h' = h3 ∧ ∃ m : Nat, ((ps.take m).any fun y => ps.getD k 0 == y) = false ∧ t 0 = .int .i64 d ∧ t 1 = .int .i64 (q : Nat) ∧ t 2 = vp ∧ t 9 = .int .i64 (k : Nat) ∧ t 12 = .int .i64 (m : Nat) ∧ m ≤ k ∧ j = k - m) (j0 := k)
          ⟨rfl, 0, rfl, e0, e1, e2, e9, rfl, by omega, rfl⟩ ?_
        rintro j t h4 ⟨rfl, m, hm, e0, e1, e2, e9, e12, hmk, hj⟩
        simp -implicitDefEqProofs (disch := first | assumption | decide | omega | (simp only [wpD1] <;> omega) | (simp only [wpD2] <;> assumption) | solve_by_elim [HSub.refl, HSub.push, HSub.reserve] | fail) only [↓wpPre, wpPost, wpPoly, Int.reduceToNat, Int.reducePow, Int.reduceMul, Int.reduceAdd, Int.reduceSub, Int.reduceNeg, Nat.reduceAdd, Nat.reduceMul, Nat.reducePow, Int.reduceLT, Int.reduceLE, Int.reduceEq, Nat.reduceEqDiff, e9, e12]
        refine Br.by (fun c2 => ?_) (fun c2 => ?_)
        · have hm' : m < ps.length := by omega
          have sx := anyeq_take_succ (p := ps.getD k 0) hm'
          rw [hm, Bool.false_or] at sx
          by_cases c3 : ps.getD m 0 = ps.getD k 0
          · have up : ((ps.take k).any fun y => ps.getD k 0 == y) = true := by
              rw [List.any_eq_true]
              refine ⟨ps.getD m 0, ?_, by rw [c3]; simp⟩
              rw [List.getD_eq_getElem?_getD, List.getElem?_eq_getElem hm']
              exact List.mem_take_iff_getElem.2 ⟨m, by omega, rfl⟩
            rw [if_pos up] at ts
            simp -implicitDefEqProofs (disch := first | assumption | decide | omega | (simp only [wpD1] <;> omega) | (simp only [wpD2] <;> assumption) | solve_by_elim [HSub.refl, HSub.push, HSub.reserve] | fail) only [↓wpPre, wpPost, wpPoly, Int.reduceToNat, Int.reducePow, Int.reduceMul, Int.reduceAdd, Int.reduceSub, Int.reduceNeg, Nat.reduceAdd, Nat.reduceMul, Nat.reducePow, Int.reduceLT, Int.reduceLE, Int.reduceEq, Nat.reduceEqDiff, e2, e9, e12, hp3.idx, hp3.loadC]
            exact fin _ _ (s2.trans s3) ((tabE_at (by rw [ts]; decide) (by omega)).trans ts) (by decide)
          · have c3' : (ps.getD k 0 == ps.getD m 0) = false := beq_eq_false_iff_ne.2 (fun e => c3 e.symm)
            rw [c3'] at sx
            simp -implicitDefEqProofs (disch := first | assumption | decide | omega | (simp only [wpD1] <;> omega) | (simp only [wpD2] <;> assumption) | solve_by_elim [HSub.refl, HSub.push, HSub.reserve] | fail) only [↓wpPre, wpPost, wpPoly, Int.reduceToNat, Int.reducePow, Int.reduceMul, Int.reduceAdd, Int.reduceSub, Int.reduceNeg, Nat.reduceAdd, Nat.reduceMul, Nat.reducePow, Int.reduceLT, Int.reduceLE, Int.reduceEq, Nat.reduceEqDiff, e2, e9, e12, hp3.idx, hp3.loadC, e0, e1]
            exact ⟨_, ⟨m + 1, sx, by simp, by omega, rfl⟩, by omega⟩
        · have em : m = k := by omega
          subst em
          rw [hm] at ts
          simp -implicitDefEqProofs (disch := first | assumption | decide | omega | (simp only [wpD1] <;> omega) | (simp only [wpD2] <;> assumption) | solve_by_elim [HSub.refl, HSub.push, HSub.reserve] | fail) only [↓wpPre, wpPost, wpPoly, Int.reduceToNat, Int.reducePow, Int.reduceMul, Int.reduceAdd, Int.reduceSub, Int.reduceNeg, Nat.reduceAdd, Nat.reduceMul, Nat.reducePow, Int.reduceLT, Int.reduceLE, Int.reduceEq, Nat.reduceEqDiff, e0, e1, e2, e9]
          exact ⟨_, ⟨m + 1, s2.trans s3, ts, by simp, by omega, rfl⟩, by omega⟩
      · have c2 : codeErr d (ps.getD k 0) = 2 := by rcases codeErr_cases d (ps.getD k 0) with c | c <;> first | exact absurd c cc | exact c
        rw [if_pos (by omega)] at ts
        simp only [c2] at hc
        simp -implicitDefEqProofs (disch := first | assumption | decide | omega | (simp only [wpD1] <;> omega) | (simp only [wpD2] <;> assumption) | solve_by_elim [HSub.refl, HSub.push, HSub.reserve] | fail) only [↓wpPre, wpPost, wpPoly, Int.reduceToNat, Int.reducePow, Int.reduceMul, Int.reduceAdd, Int.reduceSub, Int.reduceNeg, Nat.reduceAdd, Nat.reduceMul, Nat.reducePow, Int.reduceLT, Int.reduceLE, Int.reduceEq, Nat.reduceEqDiff, e0, e2, e9, hp2.idx, hp2.loadC]
        refine ACallsK.of hc ?_
        rintro r h3 ⟨v, rfl, s3, _⟩
        simp -implicitDefEqProofs (disch := first | assumption | decide | omega | (simp only [wpD1] <;> omega) | (simp only [wpD2] <;> assumption) | solve_by_elim [HSub.refl, HSub.push, HSub.reserve] | fail) only [↓wpPre, wpPost, wpPoly, Int.reduceToNat, Int.reducePow, Int.reduceMul, Int.reduceAdd, Int.reduceSub, Int.reduceNeg, Nat.reduceAdd, Nat.reduceMul, Nat.reducePow, Int.reduceLT, Int.reduceLE, Int.reduceEq, Nat.reduceEqDiff, lstErr]
        exact fin _ _ (s2.trans s3) ((tabE_at (by rw [ts]; decide) (by omega)).trans ts) (by decide)
    · have ek : k = ps.length := by omega
      subst ek
      have fin3 := fin2 hte
      have hce := fun i (hi : i < ps.length) => tabE_zero hte hi
      have hL8 : ps.length ≤ 8 := by omega
      have se := fun i (hi : i < ps.length) => show sampErr d (q : Nat) [ps.getD i 0] = 0 by rw [sampErr_one, if_pos ⟨ck, hce i hi⟩]
      have sd := fun (h : Heap) i (hi : i < ps.length) => SideR_spec (hC.sub (T' := T176) (by decide)) (h := h) hd ho (hx _ (getD_mem hi))
      have cr := fun (h : Heap) i j (hi : i < ps.length) (hj : j < ps.length) => CrossR_spec (hC.sub (T' := T177) (by decide)) (h := h) hd ho (hx _ (getD_mem hi)) (hx _ (getD_mem hj))
      have sdv := fun i (hi : i < ps.length) => show sideE d (q : Nat) (ps.getD i 0) = tup2 (greatI (sampL d (ps.getD i 0) q) (sampL d (ps.getD i 0) q) q) 0 by unfold sideE; rw [if_pos (se i hi)]; rfl
      have crv := fun i j (hi : i < ps.length) (hj : j < ps.length) => show crossE d (q : Nat) (ps.getD i 0) (ps.getD j 0) = tup2 (greatI (sampL d (ps.getD i 0) q) (sampL d (ps.getD j 0) q) 0) 0 by unfold crossE; rw [if_pos (show sampErr d (q : Nat) [ps.getD i 0, ps.getD j 0] = 0 by rw [sampErr_two, if_pos ⟨se i hi, se j hj⟩])]; rfl
      simp -implicitDefEqProofs (disch := first | assumption | decide | omega | (simp only [wpD1] <;> omega) | (simp only [wpD2] <;> assumption) | solve_by_elim [HSub.refl, HSub.push, HSub.reserve] | fail) only [↓wpPre, wpPost, wpPoly, Int.reduceToNat, Int.reducePow, Int.reduceMul, Int.reduceAdd, Int.reduceSub, Int.reduceNeg, Nat.reduceAdd, Nat.reduceMul, Nat.reducePow, Int.reduceLT, Int.reduceLE, Int.reduceEq, Nat.reduceEqDiff]
      refine wp_loopI (fun j t h' => ∃ (i : Nat) (rows : List AV), Grw h2 h' 1 (t 13) i rows ∧ rows.length = i ∧ (∀ j, j < i → GrwI h2 h' (rows.getD j .nilslice) (tabRow d q ps j ps.length) ∧ Dj (rows.getD j .nilslice) (t 13)) ∧ t 0 = .int .i64 d ∧ t 1 = .int .i64 (q : Nat) ∧ t 2 = vp ∧ t 14 = .int .i64 (i : Nat) ∧ i ≤ ps.length ∧ j = ps.length - i) (j0 := ps.length)
        ⟨0, [], Grw.nil _ _, rfl, fun j hj => by omega, e0, e1, e2, rfl, by omega, rfl⟩ ?_
      rintro j t h4 ⟨i, rows, A, hrl, hrow, e0, e1, e2, e14, hi, hj⟩
      have xlv : ∃ lv, lv = t 13 := ⟨_, rfl⟩
      obtain ⟨lv, hlv⟩ := xlv
      rw [← hlv] at A hrow
      have e13 := hlv.symm
      simp -implicitDefEqProofs (disch := first | assumption | decide | omega | (simp only [wpD1] <;> omega) | (simp only [wpD2] <;> assumption) | solve_by_elim [HSub.refl, HSub.push, HSub.reserve] | fail) only [↓wpPre, wpPost, wpPoly, Int.reduceToNat, Int.reducePow, Int.reduceMul, Int.reduceAdd, Int.reduceSub, Int.reduceNeg, Nat.reduceAdd, Nat.reduceMul, Nat.reducePow, Int.reduceLT, Int.reduceLE, Int.reduceEq, Nat.reduceEqDiff, e2, e14, hp.len]
      refine Br.by (fun c2 => ?_) (fun c2 => ?_)
      · have hi' : i < ps.length := by omega
        simp -implicitDefEqProofs (disch := first | assumption | decide | omega | (simp only [wpD1] <;> omega) | (simp only [wpD2] <;> assumption) | solve_by_elim [HSub.refl, HSub.push, HSub.reserve] | fail) only [↓wpPre, wpPost, wpPoly, Int.reduceToNat, Int.reducePow, Int.reduceMul, Int.reduceAdd, Int.reduceSub, Int.reduceNeg, Nat.reduceAdd, Nat.reduceMul, Nat.reducePow, Int.reduceLT, Int.reduceLE, Int.reduceEq, Nat.reduceEqDiff]
        refine wp_loopI (fun j t h' => ∃ k : Nat, GrwI h4 h' (t 15) (tabRow d q ps i k) ∧ t 0 = .int .i64 d ∧ t 1 = .int .i64 (q : Nat) ∧ t 2 = vp ∧ t 13 = lv ∧ t 14 = .int .i64 (i : Nat) ∧ t 16 = .int .i64 (k : Nat) ∧ k ≤ ps.length ∧ j = ps.length - k) (j0 := ps.length)
          ⟨0, GrwI.nil _, e0, e1, e2, e13, e14, rfl, by omega, rfl⟩ ?_
        rintro j t h5 ⟨k, B, e0, e1, e2, e13, e14, e16, hk, hj⟩
        simp -implicitDefEqProofs (disch := first | assumption | decide | omega | (simp only [wpD1] <;> omega) | (simp only [wpD2] <;> assumption) | solve_by_elim [HSub.refl, HSub.push, HSub.reserve] | fail) only [↓wpPre, wpPost, wpPoly, Int.reduceToNat, Int.reducePow, Int.reduceMul, Int.reduceAdd, Int.reduceSub, Int.reduceNeg, Nat.reduceAdd, Nat.reduceMul, Nat.reducePow, Int.reduceLT, Int.reduceLE, Int.reduceEq, Nat.reduceEqDiff, e2, e16, hp.len]
        refine Br.by (fun c3 => ?_) (fun c3 => ?_)
        · have hk' : k < ps.length := by omega
          have hp5 := hp.mono ((s2.trans A.sub).trans B.sub)
          have sdh := sd h5 i hi'
          rw [sdv i hi'] at sdh
          have sx := tabRow_succ d q ps i k
          have sl := tabRow_length d q ps i k
          simp -implicitDefEqProofs (disch := first | assumption | decide | omega | (simp only [wpD1] <;> omega) | (simp only [wpD2] <;> assumption) | solve_by_elim [HSub.refl, HSub.push, HSub.reserve] | fail) only [↓wpPre, wpPost, wpPoly, Int.reduceToNat, Int.reducePow, Int.reduceMul, Int.reduceAdd, Int.reduceSub, Int.reduceNeg, Nat.reduceAdd, Nat.reduceMul, Nat.reducePow, Int.reduceLT, Int.reduceLE, Int.reduceEq, Nat.reduceEqDiff, e0, e1, e2, e14, hp5.idx, hp5.loadC]
          refine ACallsK.of sdh ?_
          rintro r h6 ⟨rfl, s6⟩
          by_cases cik : k = i
          · subst cik
            rw [if_pos rfl] at sx
            have B6 := B.mono s6
            simp -implicitDefEqProofs (disch := first | assumption | decide | omega | (simp only [wpD1] <;> omega) | (simp only [wpD2] <;> assumption) | solve_by_elim [HSub.refl, HSub.push, HSub.reserve] | fail) only [↓wpPre, wpPost, wpPoly, Int.reduceToNat, Int.reducePow, Int.reduceMul, Int.reduceAdd, Int.reduceSub, Int.reduceNeg, Nat.reduceAdd, Nat.reduceMul, Nat.reducePow, Int.reduceLT, Int.reduceLE, Int.reduceEq, Nat.reduceEqDiff, tup2, e14, e16, cont_slice, contB_one, B6.app, sl, ← sx, e0, e1, e2, e13]
            have B8 := B6.snoc (x := greatI (sampL d (ps.getD k 0) q) (sampL d (ps.getD k 0) q) q) (HSub.push1 h6 (.cells [.int .i64 (greatI (sampL d (ps.getD k 0) q) (sampL d (ps.getD k 0) q) q)] true 0)) (by omega)
            rw [← sx, sl] at B8
            exact ⟨_, ⟨k + 1, B8, by simp, by omega, rfl⟩, by omega⟩
          · have cik' : ¬ ((k : Nat) : Int) = (i : Nat) := by omega
            rw [if_neg (fun e => cik e.symm)] at sx
            have hp6 := hp5.mono s6
            have crh := cr h6 i k hi' hk'
            rw [crv i k hi' hk'] at crh
            simp -implicitDefEqProofs (disch := first | assumption | decide | omega | (simp only [wpD1] <;> omega) | (simp only [wpD2] <;> assumption) | solve_by_elim [HSub.refl, HSub.push, HSub.reserve] | fail) only [↓wpPre, wpPost, wpPoly, Int.reduceToNat, Int.reducePow, Int.reduceMul, Int.reduceAdd, Int.reduceSub, Int.reduceNeg, Nat.reduceAdd, Nat.reduceMul, Nat.reducePow, Int.reduceLT, Int.reduceLE, Int.reduceEq, Nat.reduceEqDiff, tup2, e14, e16, e0, e1, e2, hp6.idx, hp6.loadC]
            refine ACallsK.of crh ?_
            rintro r h7 ⟨rfl, s7⟩
            have B7 := (B.mono s6).mono s7
            simp -implicitDefEqProofs (disch := first | assumption | decide | omega | (simp only [wpD1] <;> omega) | (simp only [wpD2] <;> assumption) | solve_by_elim [HSub.refl, HSub.push, HSub.reserve] | fail) only [↓wpPre, wpPost, wpPoly, Int.reduceToNat, Int.reducePow, Int.reduceMul, Int.reduceAdd, Int.reduceSub, Int.reduceNeg, Nat.reduceAdd, Nat.reduceMul, Nat.reducePow, Int.reduceLT, Int.reduceLE, Int.reduceEq, Nat.reduceEqDiff, tup2, cont_slice, contB_one, B7.app, sl, ← sx, e0, e1, e2, e13, e14, e16]
            have B8 := B7.snoc (x := greatI (sampL d (ps.getD i 0) q) (sampL d (ps.getD k 0) q) 0) (HSub.push1 h7 (.cells [.int .i64 (greatI (sampL d (ps.getD i 0) q) (sampL d (ps.getD k 0) q) 0)] true 0)) (by omega)
            rw [← sx, sl] at B8
            exact ⟨_, ⟨k + 1, B8, by simp, by omega, rfl⟩, by omega⟩
        · have ek : k = ps.length := by omega
          subst ek
          have xw : ∃ w, w = t 15 := ⟨_, rfl⟩
          obtain ⟨w, hw⟩ := xw
          rw [← hw] at B
          have e15 := hw.symm
          have wone : w.one = true := (Grw.sl B).one
          have A6 := A.mono B.sub
          have ap := Grw.app A6 (bytes := 24) (m := 1) (news := [w]) (HSub.push1 h5 (.cells [w] true 0)) (by decide) (by omega) (by simp [wone])
          have A7 := Grw.snoc A6 (m := 1) (news := [w]) (HSub.push1 h5 (.cells [w] true 0)) rfl (by omega)
          have fw := fill_one1 wone
          simp -implicitDefEqProofs (disch := first | assumption | decide | omega | (simp only [wpD1] <;> omega) | (simp only [wpD2] <;> assumption) | solve_by_elim [HSub.refl, HSub.push, HSub.reserve] | fail) only [↓wpPre, wpPost, wpPoly, Int.reduceToNat, Int.reducePow, Int.reduceMul, Int.reduceAdd, Int.reduceSub, Int.reduceNeg, Nat.reduceAdd, Nat.reduceMul, Nat.reducePow, Int.reduceLT, Int.reduceLE, Int.reduceEq, Nat.reduceEqDiff, e15, fw, wone, cont_slice, contB_one, e13, ap, e0, e1, e2, e14]
          have dw : Dj w lv := fun j hj hj9 => by
            have q1 := (Grw.ids_lt B j hj).1
            have q2 := (Grw.ids_lt A j hj9).2
            omega
          refine ⟨_, ⟨i + 1, rows ++ [w], A7, by simp [hrl], fun j hj => ?_, by simp, by omega, rfl⟩, by omega⟩
          rcases Nat.lt_or_ge j i with x | x
          · have e : (rows ++ [w]).getD j .nilslice = rows.getD j .nilslice := by simp [List.getD_eq_getElem?_getD, List.getElem?_append_left (show j < rows.length by omega)]
            rw [e]
            have B1 := (hrow j x).1.mono B.sub
            exact ⟨Grw.keep A6 B1 (HSub.push1 _ _) (hrow j x).2, Grw.dj B1 (by simp)⟩
          · have ei : j = i := by omega
            subst ei
            have e : (rows ++ [w]).getD j .nilslice = w := by simp [List.getD_eq_getElem?_getD, ← hrl]
            rw [e]
            have B1 : GrwI h2 h5 w (tabRow d q ps j ps.length) := GrwI.base B A.sub
            exact ⟨Grw.keep A6 B1 (HSub.push1 _ _) dw, Grw.dj B1 (by simp)⟩
      · have ei : i = ps.length := by omega
        subst ei
        have tl : (tblL d q ps).length = ps.length := by simp [tblL]
        simp -implicitDefEqProofs (disch := first | assumption | decide | omega | (simp only [wpD1] <;> omega) | (simp only [wpD2] <;> assumption) | solve_by_elim [HSub.refl, HSub.push, HSub.reserve] | fail) only [↓wpPre, wpPost, wpPoly, Int.reduceToNat, Int.reducePow, Int.reduceMul, Int.reduceAdd, Int.reduceSub, Int.reduceNeg, Nat.reduceAdd, Nat.reduceMul, Nat.reducePow, Int.reduceLT, Int.reduceLE, Int.reduceEq, Nat.reduceEqDiff, e13]
        refine fin3 _ _ (s2.trans A.sub) ⟨rows, by rw [tl]; exact A.sl, by rw [tl]; exact hrl, fun j hj => ?_⟩
        have hj' : j < ps.length := by simpa [tblL] using hj
        have e : (tblL d q ps).getD j [] = tabRow d q ps j ps.length := by simp [tblL, hj']
        rw [e]
        exact (hrow j hj').1.ri
  · have pe : tabErr d o ps = 2 := by unfold tabErr; rw [if_pos ck]
    have ck2 : knownErr d o = 2 := by unfold knownErr at ck ⊢; split at ck <;> first | exact absurd rfl ck | (rename_i h; rw [if_neg h])
    (refine calls_intro (hC.body (by decide) tab174) (Nat.le_of_ble_eq_true rfl) ?_); (show wp C _ none B174.code _ _); (simp only [B174]); simp -implicitDefEqProofs (disch := first | assumption | decide | omega | (simp only [wpD1] <;> omega) | (simp only [wpD2] <;> assumption) | solve_by_elim [HSub.refl, HSub.push, HSub.reserve] | fail) only [↓wpPre, wpPost, wpPoly, Int.reduceToNat, Int.reducePow, Int.reduceMul, Int.reduceAdd, Int.reduceSub, Int.reduceNeg, Nat.reduceAdd, Nat.reduceMul, Nat.reducePow, Int.reduceLT, Int.reduceLE, Int.reduceEq, Nat.reduceEqDiff]
    refine ACallsK.eq (knownR_spec (hC.sub (T' := T179) (by decide)) hd ho) ?_
    rw [ck2]
    simp -implicitDefEqProofs (disch := first | assumption | decide | omega | (simp only [wpD1] <;> omega) | (simp only [wpD2] <;> assumption) | solve_by_elim [HSub.refl, HSub.push, HSub.reserve] | fail) only [↓wpPre, wpPost, wpPoly, Int.reduceToNat, Int.reducePow, Int.reduceMul, Int.reduceAdd, Int.reduceSub, Int.reduceNeg, Nat.reduceAdd, Nat.reduceMul, Nat.reducePow, Int.reduceLT, Int.reduceLE, Int.reduceEq, Nat.reduceEqDiff]
    exact fin _ _ (HSub.refl _) pe (by decide)
end
end Go.Ae

/- The statement on parts of placements of layer 9. -/
set_option linter.unusedSimpArgs false
set_option linter.unusedVariables false
namespace Go.Ae
section
variable {C : Ctx}
theorem heavy09_spec (hC : Has C T168) {d o : Int} {h : Heap} (hd : In64 d) (ho : In64 o) : ACalls C 168 [.int .i64 d, .int .i64 o] h (fun r h' => (∃ b, r = .bool b) ∧ h' = h) := by
  unfold In64 at hd ho
  by_cases c1 : 4 < d ∧ d < 11
  · by_cases c2 : 0 < o ∧ o < 9
    · have : d = 5 ∨ d = 6 ∨ d = 7 ∨ d = 8 ∨ d = 9 ∨ d = 10 := by omega
      rcases this with rfl | rfl | rfl | rfl | rfl | rfl <;>
      · (refine calls_intro (hC.body (by decide) tab168) (Nat.le_of_ble_eq_true rfl) ?_); (show wp C _ none B168.code _ _); (simp only [B168]); simp -implicitDefEqProofs (disch := first | assumption | decide | omega | (simp only [wpD1] <;> omega) | (simp only [wpD2] <;> assumption) | solve_by_elim [HSub.refl, HSub.push, HSub.reserve] | fail) only [↓wpPre, wpPost, wpPoly, Int.reduceToNat, Int.reducePow, Int.reduceMul, Int.reduceAdd, Int.reduceSub, Int.reduceNeg, Nat.reduceAdd, Nat.reduceMul, Nat.reducePow, Int.reduceLT, Int.reduceLE, Int.reduceEq, Nat.reduceEqDiff]
        exact ⟨_, rfl⟩
    · (refine calls_intro (hC.body (by decide) tab168) (Nat.le_of_ble_eq_true rfl) ?_); (show wp C _ none B168.code _ _); (simp only [B168]); simp -implicitDefEqProofs (disch := first | assumption | decide | omega | (simp only [wpD1] <;> omega) | (simp only [wpD2] <;> assumption) | solve_by_elim [HSub.refl, HSub.push, HSub.reserve] | fail) only [↓wpPre, wpPost, wpPoly, Int.reduceToNat, Int.reducePow, Int.reduceMul, Int.reduceAdd, Int.reduceSub, Int.reduceNeg, Nat.reduceAdd, Nat.reduceMul, Nat.reducePow, Int.reduceLT, Int.reduceLE, Int.reduceEq, Nat.reduceEqDiff]
      (repeat' (first | (refine Br.by (fun _ => ?_) (fun _ => ?_)) | (simp -implicitDefEqProofs (disch := first | assumption | decide | omega | (simp only [wpD1] <;> omega) | (simp only [wpD2] <;> assumption) | solve_by_elim [HSub.refl, HSub.push, HSub.reserve] | fail) only [↓wpPre, wpPost, wpPoly, Int.reduceToNat, Int.reducePow, Int.reduceMul, Int.reduceAdd, Int.reduceSub, Int.reduceNeg, Nat.reduceAdd, Nat.reduceMul, Nat.reducePow, Int.reduceLT, Int.reduceLE, Int.reduceEq, Nat.reduceEqDiff])))
      all_goals first | exact ⟨_, rfl⟩ | (exfalso; omega)
  · (refine calls_intro (hC.body (by decide) tab168) (Nat.le_of_ble_eq_true rfl) ?_); (show wp C _ none B168.code _ _); (simp only [B168]); simp -implicitDefEqProofs (disch := first | assumption | decide | omega | (simp only [wpD1] <;> omega) | (simp only [wpD2] <;> assumption) | solve_by_elim [HSub.refl, HSub.push, HSub.reserve] | fail) only [↓wpPre, wpPost, wpPoly, Int.reduceToNat, Int.reducePow, Int.reduceMul, Int.reduceAdd, Int.reduceSub, Int.reduceNeg, Nat.reduceAdd, Nat.reduceMul, Nat.reducePow, Int.reduceLT, Int.reduceLE, Int.reduceEq, Nat.reduceEqDiff]
    (repeat' (first | (refine Br.by (fun _ => ?_) (fun _ => ?_)) | (simp -implicitDefEqProofs (disch := first | assumption | decide | omega | (simp only [wpD1] <;> omega) | (simp only [wpD2] <;> assumption) | solve_by_elim [HSub.refl, HSub.push, HSub.reserve] | fail) only [↓wpPre, wpPost, wpPoly, Int.reduceToNat, Int.reducePow, Int.reduceMul, Int.reduceAdd, Int.reduceSub, Int.reduceNeg, Nat.reduceAdd, Nat.reduceMul, Nat.reducePow, Int.reduceLT, Int.reduceLE, Int.reduceEq, Nat.reduceEqDiff])))
    all_goals first | exact ⟨_, rfl⟩ | (exfalso; omega)
end
end Go.Ae

/- The statement on bounds of sums, of layer 9. -/
set_option linter.unusedSimpArgs false
set_option linter.unusedVariables false
namespace Go.Ae
theorem sideE_two (d o p : Int) : ∃ a e, sideE d o p = tup2 a e := by unfold sideE; split <;> exact ⟨_, _, rfl⟩
theorem crossE_two (d o p q : Int) : ∃ a e, crossE d o p q = tup2 a e := by unfold crossE; split <;> exact ⟨_, _, rfl⟩
section
variable {C : Ctx}
set_option maxHeartbeats 4000000 in
set_option maxRecDepth 20000 in
theorem CrossBounds_law (hC : Has C T158) (hS : SortOk C 178) {d o : Int} {vp : AV} {ps : List Int} {h : Heap} (hd : In64 d) (ho : In64 o) (hp : RI h vp ps) (hx : ∀ x ∈ ps, In64 x) :
    ACalls C 158 [.int .i64 d, .int .i64 o, vp] h (fun r _ => r = .bool true) := by
  have hplt := hp.lt
  have aw := fun h => awake163_spec (hC.sub (T' := T163) (by decide)) hS (h := h)
  have hv := heavy09_spec (hC.sub (T' := T168) (by decide)) (h := h) hd ho
  have k1 := Table_spec (hC.sub (T' := T172) (by decide)) hd ho hp hx
  have k2 := fun h1 (q : HSub h h1) => TableR_spec (hC.sub (T' := T174) (by decide)) hd ho (hp.mono q) hx
  have xpq : ∃ p q, p = (if ps.length = 0 then 1 else ps.getD 0 0) ∧ q = (if ps.length = 0 then 2 else ps.getD (ps.length - 1) 0) := ⟨_, _, rfl, rfl⟩
  obtain ⟨p, q, ep, eq⟩ := xpq
  have ip : In64 p := by
    rw [ep]; split
    · unfold In64; omega
    · exact hx _ (getD_mem (by omega))
  have iq : In64 q := by
    rw [eq]; split
    · unfold In64; omega
    · exact hx _ (getD_mem (by omega))
  have s1 := fun h => Side_spec (hC.sub (T' := T175) (by decide)) (h := h) hd ho ip
  have s2 := fun h => SideR_spec (hC.sub (T' := T176) (by decide)) (h := h) hd ho ip
  have s3 := fun h => Cross_spec (hC.sub (T' := T173) (by decide)) (h := h) hd ho ip iq
  have s4 := fun h => CrossR_spec (hC.sub (T' := T177) (by decide)) (h := h) hd ho ip iq
  have x1 := sideE_two d o p
  have x2 := crossE_two d o p q
  obtain ⟨a1, b1, y1⟩ := x1
  obtain ⟨a2, b2, y2⟩ := x2
  simp only [y1] at s1 s2
  simp only [y2] at s3 s4
  (refine calls_intro (hC.body (by decide) tab158) (Nat.le_of_ble_eq_true rfl) ?_); (show wp C _ none B158.code _ _); (simp only [B158]); simp -implicitDefEqProofs (disch := first | assumption | decide | omega | (simp only [wpD1] <;> omega) | (simp only [wpD2] <;> assumption) | solve_by_elim [HSub.refl, HSub.push, HSub.reserve] | fail) only [↓wpPre, wpPost, wpPoly, Int.reduceToNat, Int.reducePow, Int.reduceMul, Int.reduceAdd, Int.reduceSub, Int.reduceNeg, Nat.reduceAdd, Nat.reduceMul, Nat.reducePow, Int.reduceLT, Int.reduceLE, Int.reduceEq, Nat.reduceEqDiff]
  refine ACallsK.of hv ?_
  rintro r h0 ⟨⟨b, rfl⟩, rfl⟩
  by_cases c : b = true ∨ (3 < ps.length ∧ ps.length < 9)
  · (repeat' (first | (refine Br.by (fun _ => ?_) (fun _ => ?_)) | (simp -implicitDefEqProofs (disch := first | assumption | decide | omega | (simp only [wpD1] <;> omega) | (simp only [wpD2] <;> assumption) | solve_by_elim [HSub.refl, HSub.push, HSub.reserve] | fail) only [↓wpPre, wpPost, wpPoly, Int.reduceToNat, Int.reducePow, Int.reduceMul, Int.reduceAdd, Int.reduceSub, Int.reduceNeg, Nat.reduceAdd, Nat.reduceMul, Nat.reducePow, Int.reduceLT, Int.reduceLE, Int.reduceEq, Nat.reduceEqDiff, hp.len, gV_u])))
    all_goals first
      | (refine ACallsK.eq (aw _) ?_; simp -implicitDefEqProofs (disch := first | assumption | decide | omega | (simp only [wpD1] <;> omega) | (simp only [wpD2] <;> assumption) | solve_by_elim [HSub.refl, HSub.push, HSub.reserve] | fail) only [↓wpPre, wpPost, wpPoly, Int.reduceToNat, Int.reducePow, Int.reduceMul, Int.reduceAdd, Int.reduceSub, Int.reduceNeg, Nat.reduceAdd, Nat.reduceMul, Nat.reducePow, Int.reduceLT, Int.reduceLE, Int.reduceEq, Nat.reduceEqDiff]; done)
      | (exfalso; simp_all; omega)
  · (repeat' (first | (refine Br.by (fun _ => ?_) (fun _ => ?_)) | (simp -implicitDefEqProofs (disch := first | assumption | decide | omega | (simp only [wpD1] <;> omega) | (simp only [wpD2] <;> assumption) | solve_by_elim [HSub.refl, HSub.push, HSub.reserve] | fail) only [↓wpPre, wpPost, wpPoly, Int.reduceToNat, Int.reducePow, Int.reduceMul, Int.reduceAdd, Int.reduceSub, Int.reduceNeg, Nat.reduceAdd, Nat.reduceMul, Nat.reducePow, Int.reduceLT, Int.reduceLE, Int.reduceEq, Nat.reduceEqDiff, hp.len, gV_u])))
    all_goals first
      | (exfalso; simp_all; done)
      | (exfalso; omega)
      | skip
    all_goals
      refine ACallsK.of k1 ?_
      rintro r h1 ⟨v1, rfl, q1, L1⟩
      simp -implicitDefEqProofs (disch := first | assumption | decide | omega | (simp only [wpD1] <;> omega) | (simp only [wpD2] <;> assumption) | solve_by_elim [HSub.refl, HSub.push, HSub.reserve] | fail) only [↓wpPre, wpPost, wpPoly, Int.reduceToNat, Int.reducePow, Int.reduceMul, Int.reduceAdd, Int.reduceSub, Int.reduceNeg, Nat.reduceAdd, Nat.reduceMul, Nat.reducePow, Int.reduceLT, Int.reduceLE, Int.reduceEq, Nat.reduceEqDiff, lstErr]
      refine ACallsK.of (k2 _ q1) ?_
      rintro r h2 ⟨v2, rfl, q2, L2⟩
      have L := lists_spec (hC.sub (T' := T166) (by decide)) (L1.mono q2) L2
      rw [decide_eq_true rfl] at L
      simp -implicitDefEqProofs (disch := first | assumption | decide | omega | (simp only [wpD1] <;> omega) | (simp only [wpD2] <;> assumption) | solve_by_elim [HSub.refl, HSub.push, HSub.reserve] | fail) only [↓wpPre, wpPost, wpPoly, Int.reduceToNat, Int.reducePow, Int.reduceMul, Int.reduceAdd, Int.reduceSub, Int.reduceNeg, Nat.reduceAdd, Nat.reduceMul, Nat.reducePow, Int.reduceLT, Int.reduceLE, Int.reduceEq, Nat.reduceEqDiff, lstErr]
      refine ACallsK.eq L ?_
      have R := hp.mono (q1.trans q2)
      by_cases c0 : ps.length = 0
      · first
        | (exfalso; omega; done)
        | (rw [if_pos c0] at ep eq
           subst ep
           subst eq
           simp -implicitDefEqProofs (disch := first | assumption | decide | omega | (simp only [wpD1] <;> omega) | (simp only [wpD2] <;> assumption) | solve_by_elim [HSub.refl, HSub.push, HSub.reserve] | fail) only [↓wpPre, wpPost, wpPoly, Int.reduceToNat, Int.reducePow, Int.reduceMul, Int.reduceAdd, Int.reduceSub, Int.reduceNeg, Nat.reduceAdd, Nat.reduceMul, Nat.reducePow, Int.reduceLT, Int.reduceLE, Int.reduceEq, Nat.reduceEqDiff, hp.len]
           refine ACallsK.of (s1 _) ?_
           rintro r h3 ⟨rfl, t3⟩
           simp -implicitDefEqProofs (disch := first | assumption | decide | omega | (simp only [wpD1] <;> omega) | (simp only [wpD2] <;> assumption) | solve_by_elim [HSub.refl, HSub.push, HSub.reserve] | fail) only [↓wpPre, wpPost, wpPoly, Int.reduceToNat, Int.reducePow, Int.reduceMul, Int.reduceAdd, Int.reduceSub, Int.reduceNeg, Nat.reduceAdd, Nat.reduceMul, Nat.reducePow, Int.reduceLT, Int.reduceLE, Int.reduceEq, Nat.reduceEqDiff, tup2]
           refine ACallsK.of (s2 _) ?_
           rintro r h4 ⟨rfl, t4⟩
           simp -implicitDefEqProofs (disch := first | assumption | decide | omega | (simp only [wpD1] <;> omega) | (simp only [wpD2] <;> assumption) | solve_by_elim [HSub.refl, HSub.push, HSub.reserve] | fail) only [↓wpPre, wpPost, wpPoly, Int.reduceToNat, Int.reducePow, Int.reduceMul, Int.reduceAdd, Int.reduceSub, Int.reduceNeg, Nat.reduceAdd, Nat.reduceMul, Nat.reducePow, Int.reduceLT, Int.reduceLE, Int.reduceEq, Nat.reduceEqDiff, tup2]
           refine ACallsK.of (s3 _) ?_
           rintro r h5 ⟨rfl, t5⟩
           simp -implicitDefEqProofs (disch := first | assumption | decide | omega | (simp only [wpD1] <;> omega) | (simp only [wpD2] <;> assumption) | solve_by_elim [HSub.refl, HSub.push, HSub.reserve] | fail) only [↓wpPre, wpPost, wpPoly, Int.reduceToNat, Int.reducePow, Int.reduceMul, Int.reduceAdd, Int.reduceSub, Int.reduceNeg, Nat.reduceAdd, Nat.reduceMul, Nat.reducePow, Int.reduceLT, Int.reduceLE, Int.reduceEq, Nat.reduceEqDiff, tup2]
           refine ACallsK.of (s4 _) ?_
           rintro r h6 ⟨rfl, t6⟩
           simp -implicitDefEqProofs (disch := first | assumption | decide | omega | (simp only [wpD1] <;> omega) | (simp only [wpD2] <;> assumption) | solve_by_elim [HSub.refl, HSub.push, HSub.reserve] | fail) only [↓wpPre, wpPost, wpPoly, Int.reduceToNat, Int.reducePow, Int.reduceMul, Int.reduceAdd, Int.reduceSub, Int.reduceNeg, Nat.reduceAdd, Nat.reduceMul, Nat.reducePow, Int.reduceLT, Int.reduceLE, Int.reduceEq, Nat.reduceEqDiff, tup2]
           refine ACallsK.eq (aw _) ?_
           simp -implicitDefEqProofs (disch := first | assumption | decide | omega | (simp only [wpD1] <;> omega) | (simp only [wpD2] <;> assumption) | solve_by_elim [HSub.refl, HSub.push, HSub.reserve] | fail) only [↓wpPre, wpPost, wpPoly, Int.reduceToNat, Int.reducePow, Int.reduceMul, Int.reduceAdd, Int.reduceSub, Int.reduceNeg, Nat.reduceAdd, Nat.reduceMul, Nat.reducePow, Int.reduceLT, Int.reduceLE, Int.reduceEq, Nat.reduceEqDiff])
      · rw [if_neg c0] at ep eq
        have en : (ps.length : Int) - 1 = ((ps.length - 1 : Nat) : Int) := by omega
        have ld0 := R.load (k := 0) (by omega)
        have ld1 := R.load (k := ps.length - 1) (by omega)
        have ix0 : idxA 1 vp (.int .i64 0) = some (elA 1 vp 0) := R.idx (kk := .i64) (k := (0 : Int)) ⟨by omega, by omega⟩
        have ix1 : idxA 1 vp (.int .i64 ((ps.length - 1 : Nat) : Int)) = some (elA 1 vp (ps.length - 1)) := R.idx (kk := .i64) (k := ((ps.length - 1 : Nat) : Int)) ⟨by omega, by omega⟩
        rw [← ep] at ld0
        rw [← eq] at ld1
        simp -implicitDefEqProofs (disch := first | assumption | decide | omega | (simp only [wpD1] <;> omega) | (simp only [wpD2] <;> assumption) | solve_by_elim [HSub.refl, HSub.push, HSub.reserve] | fail) only [↓wpPre, wpPost, wpPoly, Int.reduceToNat, Int.reducePow, Int.reduceMul, Int.reduceAdd, Int.reduceSub, Int.reduceNeg, Nat.reduceAdd, Nat.reduceMul, Nat.reducePow, Int.reduceLT, Int.reduceLE, Int.reduceEq, Nat.reduceEqDiff, hp.len, en, ix0, ix1, ld0, ld1]
        refine ACallsK.of (s1 _) ?_
        rintro r h3 ⟨rfl, t3⟩
        simp -implicitDefEqProofs (disch := first | assumption | decide | omega | (simp only [wpD1] <;> omega) | (simp only [wpD2] <;> assumption) | solve_by_elim [HSub.refl, HSub.push, HSub.reserve] | fail) only [↓wpPre, wpPost, wpPoly, Int.reduceToNat, Int.reducePow, Int.reduceMul, Int.reduceAdd, Int.reduceSub, Int.reduceNeg, Nat.reduceAdd, Nat.reduceMul, Nat.reducePow, Int.reduceLT, Int.reduceLE, Int.reduceEq, Nat.reduceEqDiff, tup2]
        refine ACallsK.of (s2 _) ?_
        rintro r h4 ⟨rfl, t4⟩
        simp -implicitDefEqProofs (disch := first | assumption | decide | omega | (simp only [wpD1] <;> omega) | (simp only [wpD2] <;> assumption) | solve_by_elim [HSub.refl, HSub.push, HSub.reserve] | fail) only [↓wpPre, wpPost, wpPoly, Int.reduceToNat, Int.reducePow, Int.reduceMul, Int.reduceAdd, Int.reduceSub, Int.reduceNeg, Nat.reduceAdd, Nat.reduceMul, Nat.reducePow, Int.reduceLT, Int.reduceLE, Int.reduceEq, Nat.reduceEqDiff, tup2]
        refine ACallsK.of (s3 _) ?_
        rintro r h5 ⟨rfl, t5⟩
        simp -implicitDefEqProofs (disch := first | assumption | decide | omega | (simp only [wpD1] <;> omega) | (simp only [wpD2] <;> assumption) | solve_by_elim [HSub.refl, HSub.push, HSub.reserve] | fail) only [↓wpPre, wpPost, wpPoly, Int.reduceToNat, Int.reducePow, Int.reduceMul, Int.reduceAdd, Int.reduceSub, Int.reduceNeg, Nat.reduceAdd, Nat.reduceMul, Nat.reducePow, Int.reduceLT, Int.reduceLE, Int.reduceEq, Nat.reduceEqDiff, tup2]
        refine ACallsK.of (s4 _) ?_
        rintro r h6 ⟨rfl, t6⟩
        simp -implicitDefEqProofs (disch := first | assumption | decide | omega | (simp only [wpD1] <;> omega) | (simp only [wpD2] <;> assumption) | solve_by_elim [HSub.refl, HSub.push, HSub.reserve] | fail) only [↓wpPre, wpPost, wpPoly, Int.reduceToNat, Int.reducePow, Int.reduceMul, Int.reduceAdd, Int.reduceSub, Int.reduceNeg, Nat.reduceAdd, Nat.reduceMul, Nat.reducePow, Int.reduceLT, Int.reduceLE, Int.reduceEq, Nat.reduceEqDiff, tup2]
        refine ACallsK.eq (aw _) ?_
        simp -implicitDefEqProofs (disch := first | assumption | decide | omega | (simp only [wpD1] <;> omega) | (simp only [wpD2] <;> assumption) | solve_by_elim [HSub.refl, HSub.push, HSub.reserve] | fail) only [↓wpPre, wpPost, wpPoly, Int.reduceToNat, Int.reducePow, Int.reduceMul, Int.reduceAdd, Int.reduceSub, Int.reduceNeg, Nat.reduceAdd, Nat.reduceMul, Nat.reducePow, Int.reduceLT, Int.reduceLE, Int.reduceEq, Nat.reduceEqDiff]
end
end Go.Ae
