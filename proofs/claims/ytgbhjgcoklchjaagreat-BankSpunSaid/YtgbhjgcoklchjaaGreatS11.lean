/- Texts of the proof, part 11: a second reading of the lowered code, proved sound, and what the functions compute. -/
import Derived.Test.YtgbhjgcoklchjaaGreatS10
/- Repeat of Go's slices package, on one number; the sequences of the registers. -/
set_option linter.unusedSimpArgs false
set_option linter.unusedVariables false
namespace Go.Ae
theorem nat64 {n : Nat} (h : n < 18446744073709551616) : (BitVec.ofInt 64 (n : Int)).toNat = n := by
 rw [BitVec.toNat_ofInt]
 have : ((n : Int) % ((2 ^ 64 : Nat) : Int)).toNat = n := by
  rw [Int.emod_eq_of_lt (by omega) (by omega)]; simp
 exact this
theorem and_u64m {a : Int} (h : 0 ≤ a ∧ a < 18446744073709551616) : bitsA .and .u64 a 4294967295 = a % 4294967296 := by
 obtain ⟨n, rfl⟩ := Int.eq_ofNat_of_zero_le h.1
 show IntKind.u64.wrap ((BitVec.ofInt 64 (n : Int) &&& BitVec.ofInt 64 ((4294967295 : Nat) : Int)).toNat : Int) = _
 rw [BitVec.toNat_and, nat64 (by omega), nat64 (by decide)]
 have e : n &&& 4294967295 = n % 4294967296 := Nat.and_two_pow_sub_one_eq_mod n 32
 rw [e, w_u64 (by omega)]; omega
theorem copy_slice {h : Heap} {i o n u : Nat} {c : Cap} {s : AV} {m : Nat} {cs vs : List AV} (hc : contentA h 1 s = some (m, cs)) (hg : h.get i = some (.cells vs true u)) (hb : o + min m n ≤ vs.length) (h1 : (cs.take (min m n)).all AV.one = true) :
  copyA h 1 (.slice i o n c) s = some (.int .i64 (min m n : Nat), h.put i (.cells (splice vs o (cs.take (min m n))) true u)) := by
 simp only [copyA, hc, hg, Nat.mul_one]
 rw [if_pos ⟨hb, h1⟩]
def ones01 (x : Int) (n p : Nat) : List Int := List.replicate p x ++ List.replicate (n - p) 0
theorem ones01_length {x : Int} {n p : Nat} (h : p ≤ n) : (ones01 x n p).length = n := by simp [ones01]; omega
theorem splice_gen {vs cs : List AV} {o : Nat} (h : o + cs.length ≤ vs.length) : splice vs o cs = vs.take o ++ cs ++ vs.drop (o + cs.length) := by
 match cs, h with
 | [], _ => rfl
 | [c], h =>
  rw [splice_one, List.set_eq_take_append_cons_drop, if_pos (by simp at h; omega)]
  simp
 | x :: y :: cs, _ => rfl
theorem ones01_splice {x : Int} {n p k : Nat} (h : p + k ≤ n) : splice (ints (ones01 x n p)) p (ints (List.replicate k x)) = ints (ones01 x n (p + k)) := by
 rw [splice_gen (by rw [ints_length, ints_length, ones01_length (by omega), List.length_replicate]; exact h)]
 unfold ones01 ints
 have e1 : (List.replicate p x ++ List.replicate (n - p) (0 : Int)).take p = List.replicate p x := by simp
 have e2 : (List.replicate p x ++ List.replicate (n - p) (0 : Int)).drop (p + k) = List.replicate (n - (p + k)) 0 := by
  rw [List.drop_append]; simp; omega
 have e3 : (List.map (AV.int .i64) (List.replicate k x)).length = k := by simp
 rw [e3, ← List.map_take, ← List.map_drop, e1, e2, ← List.map_append, ← List.map_append, List.replicate_append_replicate]
section
variable {C : Ctx}
theorem Mul64_spec (hC : Has C T105) {a b : Int} {h : Heap} (ha : 0 ≤ a ∧ a < 4294967296) (hb : 0 ≤ b ∧ b < 4294967296) (hab : 0 ≤ a * b ∧ a * b < 4294967296) : ACalls C 105 [.int .u64 a, .int .u64 b] h (fun r h' => r = .tuple [.int .u64 0, .int .u64 (a * b)] ∧ h' = h) := by
 have e1 : a % 4294967296 = a := Int.emod_eq_of_lt ha.1 ha.2
 have e2 : b % 4294967296 = b := Int.emod_eq_of_lt hb.1 hb.2
 have e3 : a / 4294967296 = 0 := Int.ediv_eq_zero_of_lt ha.1 ha.2
 have e4 : b / 4294967296 = 0 := Int.ediv_eq_zero_of_lt hb.1 hb.2
 have e5 : a * b / 4294967296 = 0 := Int.ediv_eq_zero_of_lt hab.1 hab.2
 (refine calls_intro (hC.body (by decide) tab105) (Nat.le_of_ble_eq_true rfl) ?_); (show wp C _ none B105.code _ _); (simp only [B105]); simp -implicitDefEqProofs (disch := first | assumption | decide | omega | (simp only [wpD1] <;> omega) | (simp only [wpD2] <;> assumption) | solve_by_elim [zR, zP, zV] | fail) only [↓wpPre, wpPost, wpPoly, Int.reduceToNat, Int.reducePow, Int.reduceMul, Int.reduceAdd, Int.reduceSub, Int.reduceNeg, Nat.reduceAdd, Nat.reduceMul, Nat.reducePow, Int.reduceLT, Int.reduceLE, Int.reduceEq, Nat.reduceEqDiff, and_u64m, e1, e2, e3, e4, e5, Int.zero_mul, Int.mul_zero, Int.add_zero, Int.zero_ediv, Int.zero_emod]
theorem Mul_spec (hC : Has C T100) {a b : Int} {h : Heap} (ha : 0 ≤ a ∧ a < 4294967296) (hb : 0 ≤ b ∧ b < 4294967296) (hab : 0 ≤ a * b ∧ a * b < 4294967296) : ACalls C 100 [.int .u64 a, .int .u64 b] h (fun r h' => r = .tuple [.int .u64 0, .int .u64 (a * b)] ∧ h' = h) := by
 (refine calls_intro (hC.body (by decide) tab100) (Nat.le_of_ble_eq_true rfl) ?_); (show wp C _ none B100.code _ _); (simp only [B100]); simp -implicitDefEqProofs (disch := first | assumption | decide | omega | (simp only [wpD1] <;> omega) | (simp only [wpD2] <;> assumption) | solve_by_elim [zR, zP, zV] | fail) only [↓wpPre, wpPost, wpPoly, Int.reduceToNat, Int.reducePow, Int.reduceMul, Int.reduceAdd, Int.reduceSub, Int.reduceNeg, Nat.reduceAdd, Nat.reduceMul, Nat.reducePow, Int.reduceLT, Int.reduceLE, Int.reduceEq, Nat.reduceEqDiff]
 refine ACallsK.eq (Mul64_spec (hC.sub (T' := T105) (by decide)) ha hb hab) ?_
 simp -implicitDefEqProofs (disch := first | assumption | decide | omega | (simp only [wpD1] <;> omega) | (simp only [wpD2] <;> assumption) | solve_by_elim [zR, zP, zV] | fail) only [↓wpPre, wpPost, wpPoly, Int.reduceToNat, Int.reducePow, Int.reduceMul, Int.reduceAdd, Int.reduceSub, Int.reduceNeg, Nat.reduceAdd, Nat.reduceMul, Nat.reducePow, Int.reduceLT, Int.reduceLE, Int.reduceEq, Nat.reduceEqDiff]
set_option maxHeartbeats 1000000 in
theorem Repeat_spec (hC : Has C T90) {v : AV} {x : Int} {n : Nat} {h : Heap} (hv : RI h v [x]) (hn : 1 ≤ n ∧ n ≤ 1000000) : ACalls C 90 [v, .int .i64 (n : Nat)] h (fun r h' => Fresh h h' r (List.replicate n x)) := by
 have hcv := (hv.mono (HSub.push1 h (.cells (ints (List.replicate n 0)) true 0))).content
 have m1 : min 1 n = 1 := by omega
 have es : splice (ints (List.replicate n 0)) 0 ((ints [x]).take (min [x].length n)) = ints (ones01 x n 1) := by
  have h0 : ints (List.replicate n 0) = ints (ones01 x n 0) := by simp [ones01]
  have h1 : (ints [x]).take (min [x].length n) = ints (List.replicate 1 x) := by show (ints [x]).take (min 1 n) = _; rw [m1]; rfl
  rw [h1, h0, ones01_splice (by omega)]
 have hcp := copy_slice (h := h.push (.cells (ints (List.replicate n 0)) true 0)) (i := h.size) (o := 0) (n := n) (c := .known n) (u := 0) hcv (get_push_eq rfl) (by simp [ints]; omega) (by show ((ints [x]).take (min 1 n)).all AV.one = true; rw [m1]; rfl)
 rw [es] at hcp
 have hcp : copyA (h.push (.cells (ints (List.replicate n 0)) true 0)) 1 (.slice h.size 0 n (.known n)) v = some (.int .i64 ((1 : Nat) : Int), (h.push (.cells (ints (List.replicate n 0)) true 0)).put h.size (.cells (ints (ones01 x n 1)) true 0)) := by
  have : min [x].length n = 1 := m1
  rw [this] at hcp; exact hcp
 have m3 : (1 : Int) * (n : Int) = (n : Int) := Int.one_mul _
 (refine calls_intro (hC.body (by decide) tab90) (Nat.le_of_ble_eq_true rfl) ?_); (show wp C _ none B90.code _ _); (simp only [B90]); simp -implicitDefEqProofs (disch := first | assumption | decide | omega | (simp only [wpD1] <;> omega) | (simp only [wpD2] <;> assumption) | solve_by_elim [zR, zP, zV] | fail) only [↓wpPre, wpPost, wpPoly, Int.reduceToNat, Int.reducePow, Int.reduceMul, Int.reduceAdd, Int.reduceSub, Int.reduceNeg, Nat.reduceAdd, Nat.reduceMul, Nat.reducePow, Int.reduceLT, Int.reduceLE, Int.reduceEq, Nat.reduceEqDiff, hv.len]
 refine ACallsK.eq (Mul_spec (hC.sub (T' := T100) (by decide)) (a := 1) (b := (n : Int)) (by decide) (by omega) (by omega)) ?_
 simp -implicitDefEqProofs (disch := first | assumption | decide | omega | (simp only [wpD1] <;> omega) | (simp only [wpD2] <;> assumption) | solve_by_elim [zR, zP, zV] | fail) only [↓wpPre, wpPost, wpPoly, Int.reduceToNat, Int.reducePow, Int.reduceMul, Int.reduceAdd, Int.reduceSub, Int.reduceNeg, Nat.reduceAdd, Nat.reduceMul, Nat.reducePow, Int.reduceLT, Int.reduceLE, Int.reduceEq, Nat.reduceEqDiff, m3, ints_replicate, hcp]
 have s1 : ∀ (H : Heap) (p : Nat), p < n → sliceA H 1 (.slice h.size 0 n (.known n)) (some (.int .i64 p)) none none = some (.slice h.size p (n - p) (.known (n - p))) := by
  intro H p hp
  simp only [sliceA]
  rw [bounds_ok (a := p) (b := n) (c := n) rfl rfl rfl (by omega)]
  simp only
  rw [if_neg (by omega)]; simp
 have s2 : ∀ (H : Heap) (p : Nat), p < n → sliceA H 1 (.slice h.size 0 n (.known n)) none (some (.int .i64 p)) none = some (.slice h.size 0 p (.known n)) := by
  intro H p hp
  simp only [sliceA]
  rw [bounds_ok (a := 0) (b := p) (c := n) rfl rfl rfl (by omega)]
  simp only
  rw [if_neg (by omega)]; simp
 refine wp_loopI (fun j t h' => ∃ p : Nat, HSub h h' ∧ h'.get h.size = some (.cells (ints (ones01 x n p)) true 0) ∧ t 7 = .slice h.size 0 n (.known n) ∧ t 8 = .int .i64 (p : Nat) ∧ 1 ≤ p ∧ p ≤ n ∧ j = n - p) (j0 := n - 1)
  ⟨1, HSub.push1 _ _, get_push_eq rfl, rfl, rfl, by omega, by omega, rfl⟩ ?_
 rintro j t h' ⟨p, hs, hg, e7, e8, hp1, hp2, hj⟩
 simp -implicitDefEqProofs (disch := first | assumption | decide | omega | (simp only [wpD1] <;> omega) | (simp only [wpD2] <;> assumption) | solve_by_elim [zR, zP, zV] | fail) only [↓wpPre, wpPost, wpPoly, Int.reduceToNat, Int.reducePow, Int.reduceMul, Int.reduceAdd, Int.reduceSub, Int.reduceNeg, Nat.reduceAdd, Nat.reduceMul, Nat.reducePow, Int.reduceLT, Int.reduceLE, Int.reduceEq, Nat.reduceEqDiff, e7, e8]
 refine Br.by (fun c => ?_) (fun c => ?_)
 ·have hp : p < n := by omega
  have hol := ones01_length (x := x) (n := n) (p := p) hp2
  have hgr : (h'.reserve 10).get h.size = some (.cells (ints (ones01 x n p)) true 0) := hg
  have hc2 : contentA (h'.reserve 10) 1 (.slice h.size 0 p (.known n)) = some (p, ints (List.replicate p x)) := by
   rw [cont_slice, hgr, contB_some (by rw [ints_length, hol]; omega)]
   congr 2
   rw [Nat.mul_one, ints_cut]; congr 1
   simp [ones01]
  have hk : p + min p (n - p) ≤ n := by omega
  have h3 := copy_slice (h := h'.reserve 10) (i := h.size) (o := p) (n := n - p) (c := .known (n - p)) (u := 0) hc2 hgr (by rw [ints_length, hol]; exact hk) (by unfold ints; rw [← List.map_take]; exact ints_one)
  have h4 : (ints (List.replicate p x)).take (min p (n - p)) = ints (List.replicate (min p (n - p)) x) := by unfold ints; rw [← List.map_take, List.take_replicate]; congr 2; omega
  rw [h4, ones01_splice hk] at h3
  simp -implicitDefEqProofs (disch := first | assumption | decide | omega | (simp only [wpD1] <;> omega) | (simp only [wpD2] <;> assumption) | solve_by_elim [zR, zP, zV] | fail) only [↓wpPre, wpPost, wpPoly, Int.reduceToNat, Int.reducePow, Int.reduceMul, Int.reduceAdd, Int.reduceSub, Int.reduceNeg, Nat.reduceAdd, Nat.reduceMul, Nat.reducePow, Int.reduceLT, Int.reduceLE, Int.reduceEq, Nat.reduceEqDiff, e7, e8, s1, s2, h3]
  refine ⟨_, ⟨p + min p (n - p), ?_, ?_, by omega, by omega, by omega, rfl⟩, by omega⟩
  ·exact (hs.reserve _).put (Nat.le_refl _) _
  ·exact get_put_eq rfl (Heap.lt_of_get hgr)
 ·have : p = n := by omega
  subst this
  simp -implicitDefEqProofs (disch := first | assumption | decide | omega | (simp only [wpD1] <;> omega) | (simp only [wpD2] <;> assumption) | solve_by_elim [zR, zP, zV] | fail) only [↓wpPre, wpPost, wpPoly, Int.reduceToNat, Int.reducePow, Int.reduceMul, Int.reduceAdd, Int.reduceSub, Int.reduceNeg, Nat.reduceAdd, Nat.reduceMul, Nat.reducePow, Int.reduceLT, Int.reduceLE, Int.reduceEq, Nat.reduceEqDiff, e7]
  have : ones01 x p p = List.replicate p x := by simp [ones01]
  rw [this] at hg
  exact ⟨hs, by simp; omega, h.size, Nat.le_refl _, by simp, hg⟩
end
end Go.Ae
/- The sequences of the degrees. -/
set_option linter.unusedSimpArgs false
set_option linter.unusedVariables false
namespace Go.Ae
def onesL (d : Int) : List Int := List.replicate d.toNat 1
def bitsL (d w : Int) : List Int := runL (tapsL d w) (onesL d) (lenN d)
theorem bitsL_length (d w : Int) : (bitsL d w).length = lenN d := runL_length _ _ _
theorem reg_ok {d w : Int} (hd : lenOk d = true) (hw : w = 1 ∨ w = 2) : regErr d (tapsL d w) (onesL d) = 0 := by
 rcases lenOk_cases hd with rfl | rfl | rfl | rfl | rfl <;> rcases hw with rfl | rfl <;> decide
theorem bitsL_01 {d w : Int} : ∀ x ∈ bitsL d w, x = 0 ∨ x = 1 := by
 intro x hx
 obtain ⟨k, _, rfl⟩ := List.mem_map.1 hx
 exact seqB_01 (fun y hy => .inr (List.mem_replicate.1 hy).2) k
section
variable {C : Ctx}
set_option maxRecDepth 100000 in
theorem Bits_spec (hC : Has C T74) {d w : Int} {h : Heap} (hd : In64 d) (hw : In64 w) : ACalls C 74 [.int .i64 d, .int .i64 w] h (fun r h' => ∃ v, r = lstErr v (tapsErr d w) ∧ HSub h h' ∧ RI h' v (if tapsErr d w = 0 then bitsL d w else []) ∧ (tapsErr d w = 0 → Fresh h h' v (bitsL d w))) := by
 by_cases c : lenOk d = true ∧ (w = 1 ∨ w = 2)
 ·have pe : tapsErr d w = 0 := by unfold tapsErr; rw [if_pos c]
  have hl := lenN_eq c.1
  have hr := reg_ok c.1 c.2
  have hd5 : 5 ≤ d ∧ d ≤ 10 := by have := lenOk_cases c.1; omega
  have hT := Taps_spec (d := d) (w := w) (h := h) (hC.sub (T' := T72) (by decide)) hd hw
  rw [pe, if_pos rfl] at hT
  rw [pe]
  obtain ⟨k, rfl⟩ := Int.eq_ofNat_of_zero_le (show 0 ≤ d by omega)
  have re : runErr (k : Nat) (tapsL (k : Nat) w) (onesL (k : Nat)) (lenN (k : Nat)) = 0 := by unfold runErr; rw [if_pos hr, if_neg (by omega)]
  (refine calls_intro (hC.body (by decide) tab74) (Nat.le_of_ble_eq_true rfl) ?_); (show wp C _ none B74.code _ _); (simp only [B74]); simp -implicitDefEqProofs (disch := first | assumption | decide | omega | (simp only [wpD1] <;> omega) | (simp only [wpD2] <;> assumption) | solve_by_elim [zR, zP, zV] | fail) only [↓wpPre, wpPost, wpPoly, Int.reduceToNat, Int.reducePow, Int.reduceMul, Int.reduceAdd, Int.reduceSub, Int.reduceNeg, Nat.reduceAdd, Nat.reduceMul, Nat.reducePow, Int.reduceLT, Int.reduceLE, Int.reduceEq, Nat.reduceEqDiff]
  refine ACallsK.of hT ?_
  rintro r h1 ⟨v1, rfl, s1, R1⟩
  have h22 : (2 : Int) ^ k = ((lenN (k : Nat) + 1 : Nat) : Int) := by have := hl.2.2; rwa [Int.toNat_natCast] at this
  have e3 : ((lenN (k : Nat) + 1 : Nat) : Int) - 1 = lenN (k : Nat) := by omega
  simp -implicitDefEqProofs (disch := first | assumption | decide | omega | (simp only [wpD1] <;> omega) | (simp only [wpD2] <;> assumption) | solve_by_elim [zR, zP, zV] | fail) only [↓wpPre, wpPost, wpPoly, Int.reduceToNat, Int.reducePow, Int.reduceMul, Int.reduceAdd, Int.reduceSub, Int.reduceNeg, Nat.reduceAdd, Nat.reduceMul, Nat.reducePow, Int.reduceLT, Int.reduceLE, Int.reduceEq, Nat.reduceEqDiff, lstErr, Int.one_mul, h22, e3, Heap.wf]
  have eo : onesL ((k : Nat) : Int) = List.replicate k 1 := by simp [onesL]
  have hsH : HSub h1 ((h1.reserve 13).put (h1.size + 2) (.cells [.int .i64 1] true 0)) := ((HSub.refl _).reserve _).put (by omega) _
  refine ACallsK.of (Repeat_spec (hC.sub (T' := T90) (by decide)) (x := 1) (n := k) (RI.known (get_put_eq rfl (by simp)) ⟨rfl, by decide⟩ (by decide)) (by omega)) ?_
  rintro r h2 F
  have s2 := F.sub
  have s02 := s1.trans (hsH.trans s2)
  have hR := Run_spec (m := (lenN (k : Nat) : Int)) (h := h2) (hC.sub (T' := T81) (by decide)) (R1.mono (hsH.trans s2)) (w := onesL (k : Nat)) (n := (k : Nat)) (by rw [eo]; exact F.ri) (by unfold In64; omega)
  rw [re] at hR
  simp -implicitDefEqProofs (disch := first | assumption | decide | omega | (simp only [wpD1] <;> omega) | (simp only [wpD2] <;> assumption) | solve_by_elim [zR, zP, zV] | fail) only [↓wpPre, wpPost, wpPoly, Int.reduceToNat, Int.reducePow, Int.reduceMul, Int.reduceAdd, Int.reduceSub, Int.reduceNeg, Nat.reduceAdd, Nat.reduceMul, Nat.reducePow, Int.reduceLT, Int.reduceLE, Int.reduceEq, Nat.reduceEqDiff, h22, e3, Int.one_mul]
  refine ACallsK.of hR ?_
  rintro r h3 ⟨v3, rfl, s3, R3, F3⟩
  simp -implicitDefEqProofs (disch := first | assumption | decide | omega | (simp only [wpD1] <;> omega) | (simp only [wpD2] <;> assumption) | solve_by_elim [zR, zP, zV] | fail) only [↓wpPre, wpPost, wpPoly, Int.reduceToNat, Int.reducePow, Int.reduceMul, Int.reduceAdd, Int.reduceSub, Int.reduceNeg, Nat.reduceAdd, Nat.reduceMul, Nat.reducePow, Int.reduceLT, Int.reduceLE, Int.reduceEq, Nat.reduceEqDiff, lstErr]
  have F3 := F3 rfl
  have : (lenN (k : Nat) : Int).toNat = lenN (k : Nat) := Int.toNat_natCast _
  rw [this] at F3
  exact ⟨v3, rfl, s02.trans s3, by rw [if_pos trivial]; exact F3.ri, fun _ => F3.mono s02⟩
 ·have pe : tapsErr d w = 2 := by unfold tapsErr; rw [if_neg c]
  have hT := Taps_spec (d := d) (w := w) (h := h) (hC.sub (T' := T72) (by decide)) hd hw
  rw [pe] at hT
  rw [pe]
  (refine calls_intro (hC.body (by decide) tab74) (Nat.le_of_ble_eq_true rfl) ?_); (show wp C _ none B74.code _ _); (simp only [B74]); simp -implicitDefEqProofs (disch := first | assumption | decide | omega | (simp only [wpD1] <;> omega) | (simp only [wpD2] <;> assumption) | solve_by_elim [zR, zP, zV] | fail) only [↓wpPre, wpPost, wpPoly, Int.reduceToNat, Int.reducePow, Int.reduceMul, Int.reduceAdd, Int.reduceSub, Int.reduceNeg, Nat.reduceAdd, Nat.reduceMul, Nat.reducePow, Int.reduceLT, Int.reduceLE, Int.reduceEq, Nat.reduceEqDiff]
  refine ACallsK.of hT ?_
  rintro r h1 ⟨v1, rfl, s1, R1⟩
  simp -implicitDefEqProofs (disch := first | assumption | decide | omega | (simp only [wpD1] <;> omega) | (simp only [wpD2] <;> assumption) | solve_by_elim [zR, zP, zV] | fail) only [↓wpPre, wpPost, wpPoly, Int.reduceToNat, Int.reducePow, Int.reduceMul, Int.reduceAdd, Int.reduceSub, Int.reduceNeg, Nat.reduceAdd, Nat.reduceMul, Nat.reducePow, Int.reduceLT, Int.reduceLE, Int.reduceEq, Nat.reduceEqDiff, lstErr]
  exact ⟨.nilslice, rfl, s1, by rw [if_neg id]; exact RI.nil⟩
set_option maxRecDepth 100000 in
theorem Bits08_spec (hC : Has C T75) {d w : Int} {h : Heap} (hd : In64 d) (hw : In64 w) : ACalls C 75 [.int .i64 d, .int .i64 w] h (fun r h' => ∃ v, r = lstErr v (tapsErr d w) ∧ HSub h h' ∧ RI h' v (if tapsErr d w = 0 then bitsL d w else [])) := by
 by_cases c : lenOk d = true ∧ (w = 1 ∨ w = 2)
 ·have pe : tapsErr d w = 0 := by unfold tapsErr; rw [if_pos c]
  have hl := lenN_eq c.1
  have hr := reg_ok c.1 c.2
  have hd5 : 5 ≤ d ∧ d ≤ 10 := by have := lenOk_cases c.1; omega
  have hT := Taps08_spec (d := d) (w := w) (h := h) (hC.sub (T' := T73) (by decide)) hd hw
  rw [pe, if_pos rfl] at hT
  have eL : lenE d = tup2 (lenN d) 0 := by unfold lenE; rw [if_pos c.1]
  rw [pe]
  obtain ⟨k, rfl⟩ := Int.eq_ofNat_of_zero_le (show 0 ≤ d by omega)
  obtain ⟨kk, hkk, R⟩ := regErr_ok hr
  have : kk = k := by omega
  subst this
  (refine calls_intro (hC.body (by decide) tab75) (Nat.le_of_ble_eq_true rfl) ?_); (show wp C _ none B75.code _ _); (simp only [B75]); simp -implicitDefEqProofs (disch := first | assumption | decide | omega | (simp only [wpD1] <;> omega) | (simp only [wpD2] <;> assumption) | solve_by_elim [zR, zP, zV] | fail) only [↓wpPre, wpPost, wpPoly, Int.reduceToNat, Int.reducePow, Int.reduceMul, Int.reduceAdd, Int.reduceSub, Int.reduceNeg, Nat.reduceAdd, Nat.reduceMul, Nat.reducePow, Int.reduceLT, Int.reduceLE, Int.reduceEq, Nat.reduceEqDiff]
  refine ACallsK.of hT ?_
  rintro r h1 ⟨v1, rfl, s1, R1⟩
  simp -implicitDefEqProofs (disch := first | assumption | decide | omega | (simp only [wpD1] <;> omega) | (simp only [wpD2] <;> assumption) | solve_by_elim [zR, zP, zV] | fail) only [↓wpPre, wpPost, wpPoly, Int.reduceToNat, Int.reducePow, Int.reduceMul, Int.reduceAdd, Int.reduceSub, Int.reduceNeg, Nat.reduceAdd, Nat.reduceMul, Nat.reducePow, Int.reduceLT, Int.reduceLE, Int.reduceEq, Nat.reduceEqDiff, lstErr]
  refine ACallsK.eq2 (Length08_spec (hC.sub (T' := T71) (by decide)) hd) eL ?_
  simp -implicitDefEqProofs (disch := first | assumption | decide | omega | (simp only [wpD1] <;> omega) | (simp only [wpD2] <;> assumption) | solve_by_elim [zR, zP, zV] | fail) only [↓wpPre, wpPost, wpPoly, Int.reduceToNat, Int.reducePow, Int.reduceMul, Int.reduceAdd, Int.reduceSub, Int.reduceNeg, Nat.reduceAdd, Nat.reduceMul, Nat.reducePow, Int.reduceLT, Int.reduceLE, Int.reduceEq, Nat.reduceEqDiff, tup2, ints_replicate]
  have hol : ∀ p, p ≤ kk → (ones01 1 kk p).length = kk := fun p hp => ones01_length hp
  refine wp_loopI (fun j t h' => ∃ p : Nat, h' = h1.push (.cells (ints (ones01 1 kk p)) true 0) ∧ t 0 = .int .i64 (kk : Nat) ∧ t 6 = v1 ∧ t 8 = .int .i64 (lenN (kk : Nat)) ∧ t 10 = .slice h1.size 0 kk (.known kk) ∧ t 11 = .int .i64 (p : Nat) ∧ p ≤ kk ∧ j = kk - p) (j0 := kk)
   ⟨0, by simp [ones01], rfl, rfl, rfl, rfl, rfl, by omega, rfl⟩ ?_
  rintro j t h' ⟨p, rfl, e0, e6, e8, e10, e11, hp, hj⟩
  have holp := hol p hp
  simp -implicitDefEqProofs (disch := first | assumption | decide | omega | (simp only [wpD1] <;> omega) | (simp only [wpD2] <;> assumption) | solve_by_elim [zR, zP, zV] | fail) only [↓wpPre, wpPost, wpPoly, Int.reduceToNat, Int.reducePow, Int.reduceMul, Int.reduceAdd, Int.reduceSub, Int.reduceNeg, Nat.reduceAdd, Nat.reduceMul, Nat.reducePow, Int.reduceLT, Int.reduceLE, Int.reduceEq, Nat.reduceEqDiff, e0, e11]
  refine Br.by (fun c1 => ?_) (fun c1 => ?_)
  ·have hset : (ones01 1 kk p).set p 1 = ones01 1 kk (p + 1) := by
    unfold ones01
    rw [List.set_append_right _ _ (by simp), List.length_replicate, Nat.sub_self, show kk - p = kk - (p + 1) + 1 by omega, List.replicate_succ, List.set_cons_zero]
    rw [show List.replicate (p + 1) (1 : Int) = List.replicate p 1 ++ [1] from List.replicate_succ', List.append_assoc]; rfl
   simp -implicitDefEqProofs (disch := first | assumption | decide | omega | (simp only [wpD1] <;> omega) | (simp only [wpD2] <;> assumption) | solve_by_elim [zR, zP, zV] | fail) only [↓wpPre, wpPost, wpPoly, Int.reduceToNat, Int.reducePow, Int.reduceMul, Int.reduceAdd, Int.reduceSub, Int.reduceNeg, Nat.reduceAdd, Nat.reduceMul, Nat.reducePow, Int.reduceLT, Int.reduceLE, Int.reduceEq, Nat.reduceEqDiff, e0, e6, e8, e10, e11, hset]
   exact ⟨_, ⟨p + 1, rfl, by simp, by omega, rfl⟩, by omega⟩
  ·have : p = kk := by omega
   subst this
   have eo : ones01 1 p p = onesL (p : Nat) := by simp [ones01, onesL]
   rw [eo] at holp ⊢
   have RO : RI (h1.push (.cells (ints (onesL (p : Nat))) true 0)) (.slice h1.size 0 p (.known p)) (onesL (p : Nat)) := RI.known (get_push_eq rfl) ⟨by rw [holp], by omega⟩ (by omega)
   simp -implicitDefEqProofs (disch := first | assumption | decide | omega | (simp only [wpD1] <;> omega) | (simp only [wpD2] <;> assumption) | solve_by_elim [zR, zP, zV] | fail) only [↓wpPre, wpPost, wpPoly, Int.reduceToNat, Int.reducePow, Int.reduceMul, Int.reduceAdd, Int.reduceSub, Int.reduceNeg, Nat.reduceAdd, Nat.reduceMul, Nat.reducePow, Int.reduceLT, Int.reduceLE, Int.reduceEq, Nat.reduceEqDiff, e0, e6, e8, e10]
   refine ACallsK.of (run08_spec (hC.sub (T' := T91) (by decide)) (m := (lenN (p : Nat) : Int)) (R1.mono (HSub.push1 _ _)) RO R (by omega) (by unfold In64; omega)) ?_
   rintro r h3 ⟨L, A, hL1, hL2, hL3⟩
   have RA := A.ri
   have rl := runL_length (tapsL (p : Nat) w) (onesL (p : Nat)) L
   have Pa := RA.part_b (k2 := .i64) (b := (lenN (p : Nat) : Int)) (by omega)
   obtain ⟨wa, ea, Rwa⟩ := Pa
   simp -implicitDefEqProofs (disch := first | assumption | decide | omega | (simp only [wpD1] <;> omega) | (simp only [wpD2] <;> assumption) | solve_by_elim [zR, zP, zV] | fail) only [↓wpPre, wpPost, wpPoly, Int.reduceToNat, Int.reducePow, Int.reduceMul, Int.reduceAdd, Int.reduceSub, Int.reduceNeg, Nat.reduceAdd, Nat.reduceMul, Nat.reducePow, Int.reduceLT, Int.reduceLE, Int.reduceEq, Nat.reduceEqDiff, e8, ea]
   refine ⟨wa, rfl, (s1.trans (HSub.push1 _ _)).trans A.sub, ?_⟩
   rw [Int.toNat_natCast, runL_take (by omega)] at Rwa
   rw [if_pos trivial]; exact Rwa
 ·have pe : tapsErr d w = 2 := by unfold tapsErr; rw [if_neg c]
  have hT := Taps08_spec (d := d) (w := w) (h := h) (hC.sub (T' := T73) (by decide)) hd hw
  rw [pe] at hT
  rw [pe]
  (refine calls_intro (hC.body (by decide) tab75) (Nat.le_of_ble_eq_true rfl) ?_); (show wp C _ none B75.code _ _); (simp only [B75]); simp -implicitDefEqProofs (disch := first | assumption | decide | omega | (simp only [wpD1] <;> omega) | (simp only [wpD2] <;> assumption) | solve_by_elim [zR, zP, zV] | fail) only [↓wpPre, wpPost, wpPoly, Int.reduceToNat, Int.reducePow, Int.reduceMul, Int.reduceAdd, Int.reduceSub, Int.reduceNeg, Nat.reduceAdd, Nat.reduceMul, Nat.reducePow, Int.reduceLT, Int.reduceLE, Int.reduceEq, Nat.reduceEqDiff]
  refine ACallsK.of hT ?_
  rintro r h1 ⟨v1, rfl, s1, R1⟩
  simp -implicitDefEqProofs (disch := first | assumption | decide | omega | (simp only [wpD1] <;> omega) | (simp only [wpD2] <;> assumption) | solve_by_elim [zR, zP, zV] | fail) only [↓wpPre, wpPost, wpPoly, Int.reduceToNat, Int.reducePow, Int.reduceMul, Int.reduceAdd, Int.reduceSub, Int.reduceNeg, Nat.reduceAdd, Nat.reduceMul, Nat.reducePow, Int.reduceLT, Int.reduceLE, Int.reduceEq, Nat.reduceEqDiff, lstErr]
  exact ⟨.nilslice, rfl, s1, by rw [if_neg id]; exact RI.nil⟩
end
end Go.Ae
/- The codes. -/
set_option linter.unusedSimpArgs false
set_option linter.unusedVariables false
namespace Go.Ae
def codeB (d p : Int) (i : Nat) : Int :=
 if p = 1 then (bitsL d 1).getD i 0 else if p = 2 then (bitsL d 2).getD i 0 else ((bitsL d 1).getD i 0 + (bitsL d 2).getD ((i + (p - 3).toNat) % lenN d) 0) % 2
def bitC (d p : Int) : List Int := (List.range (lenN d)).map (codeB d p)
def codeL (d p : Int) : List Int := (bitC d p).map fun b => 1 - 2 * b
def codeErr (d p : Int) : Int := if lenOk d = true ∧ 1 ≤ p ∧ p ≤ lenN d + 2 then 0 else 2
theorem bitC_length (d p : Int) : (bitC d p).length = lenN d := by simp [bitC]
theorem codeL_length (d p : Int) : (codeL d p).length = lenN d := by simp [codeL, bitC]
theorem bit01_getD {l : List Int} (h : ∀ x ∈ l, x = 0 ∨ x = 1) (i : Nat) : l.getD i 0 = 0 ∨ l.getD i 0 = 1 := bit01.get h i
theorem codeB_01 (d p : Int) (i : Nat) : codeB d p i = 0 ∨ codeB d p i = 1 := by
 unfold codeB
 have h1 := bit01_getD (bitsL_01 (d := d) (w := 1)) i
 have h2 := bit01_getD (bitsL_01 (d := d) (w := 2)) i
 split
 ·exact h1
 ·split
  ·exact h2
  ·omega
theorem codeB_one (d : Int) : bitC d 1 = bitsL d 1 := by
 refine seqx (by rw [bitC_length, bitsL_length]) fun i hi => ?_
 rw [bitC_length] at hi
 simp [bitC, hi, codeB]
theorem codeB_two (d : Int) : bitC d 2 = bitsL d 2 := by
 refine seqx (by rw [bitC_length, bitsL_length]) fun i hi => ?_
 rw [bitC_length] at hi
 simp [bitC, hi, codeB]
def codeP (d p : Int) (k : Nat) : List Int := (List.range (lenN d)).map fun i => if i < k then codeB d p i else (bitsL d 1).getD i 0
theorem codeP_length (d p : Int) (k : Nat) : (codeP d p k).length = lenN d := by simp [codeP]
theorem codeP_get {d p : Int} {k i : Nat} (hi : i < lenN d) : (codeP d p k).getD i 0 = if i < k then codeB d p i else (bitsL d 1).getD i 0 := by simp [codeP, hi]
theorem codeP_zero (d p : Int) : codeP d p 0 = bitsL d 1 := by
 refine seqx (by rw [codeP_length, bitsL_length]) fun i hi => ?_
 rw [codeP_length] at hi
 rw [codeP_get hi, if_neg (by omega)]
theorem codeP_full (d p : Int) : codeP d p (lenN d) = bitC d p := by
 refine seqx (by rw [codeP_length, bitC_length]) fun i hi => ?_
 rw [codeP_length] at hi
 rw [codeP_get hi, if_pos hi]; simp [bitC, hi]
theorem codeP_set {d p : Int} {k : Nat} (hk : k < lenN d) : (codeP d p k).set k (codeB d p k) = codeP d p (k + 1) := by
 refine seqx (by simp [codeP]) fun i hi => ?_
 simp only [List.length_set, codeP_length] at hi
 rw [codeP_get hi]
 simp only [List.getD_eq_getElem?_getD, List.getElem?_set, codeP_length]
 by_cases e : k = i
 ·subst e; rw [if_pos rfl, if_pos hk, if_pos (by omega)]; rfl
 ·rw [if_neg e]
  have := codeP_get (p := p) (k := k) hi
  rw [List.getD_eq_getElem?_getD] at this
  rw [this]
  by_cases c : i < k
  ·rw [if_pos c, if_pos (by omega)]
  ·rw [if_neg c, if_neg (by omega)]; simp
section
variable {C : Ctx}
set_option maxRecDepth 100000 in
set_option maxHeartbeats 2000000 in
theorem Code_spec (hC : Has C T76) {d p : Int} {h : Heap} (hd : In64 d) (hp : In64 p) : ACalls C 76 [.int .i64 d, .int .i64 p] h (fun r h' => ∃ v, r = lstErr v (codeErr d p) ∧ HSub h h' ∧ RI h' v (if codeErr d p = 0 then codeL d p else []) ∧ (codeErr d p = 0 → Fresh h h' v (codeL d p))) := by
 have hp' := hp
 unfold In64 at hp'
 have pe : codeErr d p = if lenOk d = true ∧ 1 ≤ p ∧ p ≤ lenN d + 2 then 0 else 2 := rfl
 by_cases c : lenOk d = true
 ·have hl := lenN_eq c
  have eL : lenE d = tup2 (lenN d) 0 := by unfold lenE; rw [if_pos c]
  by_cases cp : 1 ≤ p ∧ p ≤ lenN d + 2
  ·rw [if_pos ⟨c, cp⟩] at pe
   rw [pe]
   have t1 : tapsErr d 1 = 0 := by unfold tapsErr; rw [if_pos ⟨c, .inl rfl⟩]
   have t2 : tapsErr d 2 = 0 := by unfold tapsErr; rw [if_pos ⟨c, .inr rfl⟩]
   have lb1 := bitsL_length d 1
   have lb2 := bitsL_length d 2
   have hB : ∀ {w : Int} {h : Heap}, tapsErr d w = 0 → In64 w → ACalls C 74 [.int .i64 d, .int .i64 w] h (fun r h' => ∃ i, h.size ≤ i ∧ r = lstErr (.slice i 0 (lenN d) (.known (lenN d))) 0 ∧ HSub h h' ∧ h'.get i = some (.cells (ints (bitsL d w)) true 0)) := by
    intro w h e hw
    refine (Bits_spec (hC.sub (T' := T74) (by decide)) hd hw).mono ?_
    rintro r h' ⟨v, h1, _, _, h4⟩
    obtain ⟨s, _, i, hi, hv, hg⟩ := h4 e
    rw [bitsL_length] at hv
    exact ⟨i, hi, by rw [h1, e, hv], s, hg⟩
   have bC : ∀ k, (bitC d p).getD k 0 = 0 ∨ (bitC d p).getD k 0 = 1 := fun k => bit01_getD (fun x hx => by
    obtain ⟨i, _, rfl⟩ := List.mem_map.1 hx
    exact codeB_01 d p i) k
   have lC := bitC_length d p
   (refine calls_intro (hC.body (by decide) tab76) (Nat.le_of_ble_eq_true rfl) ?_); (show wp C _ none B76.code _ _); (simp only [B76]); simp -implicitDefEqProofs (disch := first | assumption | decide | omega | (simp only [wpD1] <;> omega) | (simp only [wpD2] <;> assumption) | solve_by_elim [zR, zP, zV] | fail) only [↓wpPre, wpPost, wpPoly, Int.reduceToNat, Int.reducePow, Int.reduceMul, Int.reduceAdd, Int.reduceSub, Int.reduceNeg, Nat.reduceAdd, Nat.reduceMul, Nat.reducePow, Int.reduceLT, Int.reduceLE, Int.reduceEq, Nat.reduceEqDiff]
   refine ACallsK.eq2 (Length_spec (hC.sub (T' := T70) (by decide)) hd) eL ?_
   simp -implicitDefEqProofs (disch := first | assumption | decide | omega | (simp only [wpD1] <;> omega) | (simp only [wpD2] <;> assumption) | solve_by_elim [zR, zP, zV] | fail) only [↓wpPre, wpPost, wpPoly, Int.reduceToNat, Int.reducePow, Int.reduceMul, Int.reduceAdd, Int.reduceSub, Int.reduceNeg, Nat.reduceAdd, Nat.reduceMul, Nat.reducePow, Int.reduceLT, Int.reduceLE, Int.reduceEq, Nat.reduceEqDiff, tup2]
   refine ACallsK.of (hB t1 (by unfold In64; omega)) ?_
   rintro r h1 ⟨i1, hi1, rfl, s1, g1⟩
   simp -implicitDefEqProofs (disch := first | assumption | decide | omega | (simp only [wpD1] <;> omega) | (simp only [wpD2] <;> assumption) | solve_by_elim [zR, zP, zV] | fail) only [↓wpPre, wpPost, wpPoly, Int.reduceToNat, Int.reducePow, Int.reduceMul, Int.reduceAdd, Int.reduceSub, Int.reduceNeg, Nat.reduceAdd, Nat.reduceMul, Nat.reducePow, Int.reduceLT, Int.reduceLE, Int.reduceEq, Nat.reduceEqDiff, lstErr]
   refine ACallsK.of (hB t2 (by unfold In64; omega)) ?_
   rintro r h2 ⟨i2, hi2, rfl, s2, g2⟩
   have hl1 := Heap.lt_of_get g1
   have hl2 := Heap.lt_of_get g2
   have g1' := (s2.get i1 hl1).trans g1
   have s12 := s1.trans s2
   have z2 := s2.size
   have z1 := s1.size
   by_cases p1 : p = 1
   ·have gi1 : h2.get i1 = some (.cells (ints (bitC d p)) true 0) := by rw [p1, codeB_one]; exact g1'
    simp -implicitDefEqProofs (disch := first | assumption | decide | omega | (simp only [wpD1] <;> omega) | (simp only [wpD2] <;> assumption) | solve_by_elim [zR, zP, zV] | fail) only [↓wpPre, wpPost, wpPoly, Int.reduceToNat, Int.reducePow, Int.reduceMul, Int.reduceAdd, Int.reduceSub, Int.reduceNeg, Nat.reduceAdd, Nat.reduceMul, Nat.reducePow, Int.reduceLT, Int.reduceLE, Int.reduceEq, Nat.reduceEqDiff, lstErr]
    have gX : h2.get i1 = some (.cells (ints (mapPre (fun b => 1 - 2 * b) (bitC d p) 0)) true 0) := by rw [mapPre_zero]; exact gi1
    refine wp_loopI (fun j t h' => ∃ k : Nat, HSub h h' ∧ i1 < h'.size ∧ h'.get i1 = some (.cells (ints (mapPre (fun b => 1 - 2 * b) (bitC d p) k)) true 0) ∧ t 8 = .slice i1 0 (lenN d) (.known (lenN d)) ∧ t 68 = .slice i1 0 (lenN d) (.known (lenN d)) ∧ t 69 = .int .i64 (lenN d) ∧ t 70 = .int .i64 (k : Nat) ∧ k ≤ lenN d ∧ j = lenN d - k) (j0 := lenN d)
     ⟨0, s12, Heap.lt_of_get gi1, gX, rfl, rfl, rfl, rfl, by omega, rfl⟩ ?_
    rintro j t h' ⟨k, hs, hlt, hg, e8, e68, e69, e70, hk, hj⟩
    have hml := mapPre_length (fun b => 1 - 2 * b) (bitC d p) k
    simp -implicitDefEqProofs (disch := first | assumption | decide | omega | (simp only [wpD1] <;> omega) | (simp only [wpD2] <;> assumption) | solve_by_elim [zR, zP, zV] | fail) only [↓wpPre, wpPost, wpPoly, Int.reduceToNat, Int.reducePow, Int.reduceMul, Int.reduceAdd, Int.reduceSub, Int.reduceNeg, Nat.reduceAdd, Nat.reduceMul, Nat.reducePow, Int.reduceLT, Int.reduceLE, Int.reduceEq, Nat.reduceEqDiff, e69, e70]
    refine Br.by (fun c1 => ?_) (fun c1 => ?_)
    ·have hk' : k < (bitC d p).length := by omega
     have hg2 := mapPre_get (fun b => 1 - 2 * b) hk'
     have hst := mapPre_set (fun b => 1 - 2 * b) hk'
     have b01 := bC k
     simp -implicitDefEqProofs (disch := first | assumption | decide | omega | (simp only [wpD1] <;> omega) | (simp only [wpD2] <;> assumption) | solve_by_elim [zR, zP, zV] | fail) only [↓wpPre, wpPost, wpPoly, Int.reduceToNat, Int.reducePow, Int.reduceMul, Int.reduceAdd, Int.reduceSub, Int.reduceNeg, Nat.reduceAdd, Nat.reduceMul, Nat.reducePow, Int.reduceLT, Int.reduceLE, Int.reduceEq, Nat.reduceEqDiff, e8, e68, e69, e70, hg, hg2]
     exact ⟨_, ⟨k + 1, hs.put (by omega) _, hlt, by rw [← hst], by simp, by omega, rfl⟩, by omega⟩
    ·have : k = (bitC d p).length := by omega
     subst this
     rw [mapPre_full] at hg
     simp -implicitDefEqProofs (disch := first | assumption | decide | omega | (simp only [wpD1] <;> omega) | (simp only [wpD2] <;> assumption) | solve_by_elim [zR, zP, zV] | fail) only [↓wpPre, wpPost, wpPoly, Int.reduceToNat, Int.reducePow, Int.reduceMul, Int.reduceAdd, Int.reduceSub, Int.reduceNeg, Nat.reduceAdd, Nat.reduceMul, Nat.reducePow, Int.reduceLT, Int.reduceLE, Int.reduceEq, Nat.reduceEqDiff, e8]
     have cl := codeL_length d p
     have F : Fresh h h' (.slice i1 0 (lenN d) (.known (lenN d))) (codeL d p) := ⟨hs, by omega, i1, by omega, by rw [cl], hg⟩
     exact ⟨_, rfl, hs, by rw [if_pos trivial]; exact F.ri, fun _ => F⟩
   by_cases p2 : p = 2
   ·have gi2 : h2.get i2 = some (.cells (ints (bitC d p)) true 0) := by rw [p2, codeB_two]; exact g2
    simp -implicitDefEqProofs (disch := first | assumption | decide | omega | (simp only [wpD1] <;> omega) | (simp only [wpD2] <;> assumption) | solve_by_elim [zR, zP, zV] | fail) only [↓wpPre, wpPost, wpPoly, Int.reduceToNat, Int.reducePow, Int.reduceMul, Int.reduceAdd, Int.reduceSub, Int.reduceNeg, Nat.reduceAdd, Nat.reduceMul, Nat.reducePow, Int.reduceLT, Int.reduceLE, Int.reduceEq, Nat.reduceEqDiff, lstErr]
    have gX : h2.get i2 = some (.cells (ints (mapPre (fun b => 1 - 2 * b) (bitC d p) 0)) true 0) := by rw [mapPre_zero]; exact gi2
    refine wp_loopI (fun j t h' => ∃ k : Nat, HSub h h' ∧ i2 < h'.size ∧ h'.get i2 = some (.cells (ints (mapPre (fun b => 1 - 2 * b) (bitC d p) k)) true 0) ∧ t 8 = .slice i2 0 (lenN d) (.known (lenN d)) ∧ t 68 = .slice i2 0 (lenN d) (.known (lenN d)) ∧ t 69 = .int .i64 (lenN d) ∧ t 70 = .int .i64 (k : Nat) ∧ k ≤ lenN d ∧ j = lenN d - k) (j0 := lenN d)
     ⟨0, s12, Heap.lt_of_get gi2, gX, rfl, rfl, rfl, rfl, by omega, rfl⟩ ?_
    rintro j t h' ⟨k, hs, hlt, hg, e8, e68, e69, e70, hk, hj⟩
    have hml := mapPre_length (fun b => 1 - 2 * b) (bitC d p) k
    simp -implicitDefEqProofs (disch := first | assumption | decide | omega | (simp only [wpD1] <;> omega) | (simp only [wpD2] <;> assumption) | solve_by_elim [zR, zP, zV] | fail) only [↓wpPre, wpPost, wpPoly, Int.reduceToNat, Int.reducePow, Int.reduceMul, Int.reduceAdd, Int.reduceSub, Int.reduceNeg, Nat.reduceAdd, Nat.reduceMul, Nat.reducePow, Int.reduceLT, Int.reduceLE, Int.reduceEq, Nat.reduceEqDiff, e69, e70]
    refine Br.by (fun c1 => ?_) (fun c1 => ?_)
    ·have hk' : k < (bitC d p).length := by omega
     have hg2 := mapPre_get (fun b => 1 - 2 * b) hk'
     have hst := mapPre_set (fun b => 1 - 2 * b) hk'
     have b01 := bC k
     simp -implicitDefEqProofs (disch := first | assumption | decide | omega | (simp only [wpD1] <;> omega) | (simp only [wpD2] <;> assumption) | solve_by_elim [zR, zP, zV] | fail) only [↓wpPre, wpPost, wpPoly, Int.reduceToNat, Int.reducePow, Int.reduceMul, Int.reduceAdd, Int.reduceSub, Int.reduceNeg, Nat.reduceAdd, Nat.reduceMul, Nat.reducePow, Int.reduceLT, Int.reduceLE, Int.reduceEq, Nat.reduceEqDiff, e8, e68, e69, e70, hg, hg2]
     exact ⟨_, ⟨k + 1, hs.put (by omega) _, hlt, by rw [← hst], by simp, by omega, rfl⟩, by omega⟩
    ·have : k = (bitC d p).length := by omega
     subst this
     rw [mapPre_full] at hg
     simp -implicitDefEqProofs (disch := first | assumption | decide | omega | (simp only [wpD1] <;> omega) | (simp only [wpD2] <;> assumption) | solve_by_elim [zR, zP, zV] | fail) only [↓wpPre, wpPost, wpPoly, Int.reduceToNat, Int.reducePow, Int.reduceMul, Int.reduceAdd, Int.reduceSub, Int.reduceNeg, Nat.reduceAdd, Nat.reduceMul, Nat.reducePow, Int.reduceLT, Int.reduceLE, Int.reduceEq, Nat.reduceEqDiff, e8]
     have cl := codeL_length d p
     have F : Fresh h h' (.slice i2 0 (lenN d) (.known (lenN d))) (codeL d p) := ⟨hs, by omega, i2, by omega, by rw [cl], hg⟩
     exact ⟨_, rfl, hs, by rw [if_pos trivial]; exact F.ri, fun _ => F⟩
   have hp3 : 3 ≤ p := by omega
   have lP := codeP_length d p
   have g0 : h2.get i1 = some (.cells (ints (codeP d p 0)) true 0) := by rw [codeP_zero]; exact g1'
   simp -implicitDefEqProofs (disch := first | assumption | decide | omega | (simp only [wpD1] <;> omega) | (simp only [wpD2] <;> assumption) | solve_by_elim [zR, zP, zV] | fail) only [↓wpPre, wpPost, wpPoly, Int.reduceToNat, Int.reducePow, Int.reduceMul, Int.reduceAdd, Int.reduceSub, Int.reduceNeg, Nat.reduceAdd, Nat.reduceMul, Nat.reducePow, Int.reduceLT, Int.reduceLE, Int.reduceEq, Nat.reduceEqDiff, lstErr]
   refine wp_loopI (fun j t h' => ∃ k : Nat, HSub h h' ∧ i1 < h'.size ∧ h'.get i1 = some (.cells (ints (codeP d p k)) true 0) ∧ h'.get i2 = some (.cells (ints (bitsL d 2)) true 0) ∧ t 1 = .int .i64 p ∧ t 6 = .int .i64 (lenN d) ∧ t 8 = .slice i1 0 (lenN d) (.known (lenN d)) ∧ t 10 = .slice i2 0 (lenN d) (.known (lenN d)) ∧
     t 42 = .slice i1 0 (lenN d) (.known (lenN d)) ∧ t 43 = .int .i64 (lenN d) ∧ t 44 = .int .i64 (k : Nat) ∧ k ≤ lenN d ∧ j = lenN d - k) (j0 := lenN d)
    ⟨0, s12, by omega, g0, g2, rfl, rfl, rfl, rfl, rfl, rfl, rfl, by omega, rfl⟩ ?_
   rintro j t h3 ⟨k, hs3, hlt3, hg1, hg2, e1, e6, e8, e10, e42, e43, e44, hk, hj⟩
   have lPk := lP k
   simp -implicitDefEqProofs (disch := first | assumption | decide | omega | (simp only [wpD1] <;> omega) | (simp only [wpD2] <;> assumption) | solve_by_elim [zR, zP, zV] | fail) only [↓wpPre, wpPost, wpPoly, Int.reduceToNat, Int.reducePow, Int.reduceMul, Int.reduceAdd, Int.reduceSub, Int.reduceNeg, Nat.reduceAdd, Nat.reduceMul, Nat.reducePow, Int.reduceLT, Int.reduceLE, Int.reduceEq, Nat.reduceEqDiff, e43, e44]
   refine Br.by (fun c1 => ?_) (fun c1 => ?_)
   ·have hk' : k < lenN d := by omega
    have gP : (codeP d p k).getD k 0 = (bitsL d 1).getD k 0 := by rw [codeP_get hk', if_neg (by omega)]
    have em : ((k : Int) + p - 3) % (lenN d : Int) = (((k + (p - 3).toNat) % lenN d : Nat) : Int) := by
     rw [show (k : Int) + p - 3 = ((k + (p - 3).toNat : Nat) : Int) by omega]; exact (Int.natCast_emod _ _).symm
    have hm : (k + (p - 3).toNat) % lenN d < lenN d := Nat.mod_lt _ (by omega)
    have lb2 := bitsL_length d 2
    have ex := xor01 (bit01_getD (bitsL_01 (d := d) (w := 1)) k) (bit01_getD (bitsL_01 (d := d) (w := 2)) ((k + (p - 3).toNat) % lenN d))
    have hcb : codeB d p k = ((bitsL d 1).getD k 0 + (bitsL d 2).getD ((k + (p - 3).toNat) % lenN d) 0) % 2 := by unfold codeB; rw [if_neg p1, if_neg p2]
    rw [← hcb] at ex
    have hst := codeP_set (p := p) hk'
    simp -implicitDefEqProofs (disch := first | assumption | decide | omega | (simp only [wpD1] <;> omega) | (simp only [wpD2] <;> assumption) | solve_by_elim [zR, zP, zV] | fail) only [↓wpPre, wpPost, wpPoly, Int.reduceToNat, Int.reducePow, Int.reduceMul, Int.reduceAdd, Int.reduceSub, Int.reduceNeg, Nat.reduceAdd, Nat.reduceMul, Nat.reducePow, Int.reduceLT, Int.reduceLE, Int.reduceEq, Nat.reduceEqDiff, e1, e6, e8, e10, e42, e43, e44, hg1, hg2, gP, em, ex, hst]
    exact ⟨_, ⟨k + 1, hs3.put (by omega) _, hlt3, rfl, by simp, by omega, rfl⟩, by omega⟩
   ·have ek : k = lenN d := by omega
    rw [ek] at hg1
    have gi3 : h3.get i1 = some (.cells (ints (bitC d p)) true 0) := by rw [← codeP_full]; exact hg1
    simp -implicitDefEqProofs (disch := first | assumption | decide | omega | (simp only [wpD1] <;> omega) | (simp only [wpD2] <;> assumption) | solve_by_elim [zR, zP, zV] | fail) only [↓wpPre, wpPost, wpPoly, Int.reduceToNat, Int.reducePow, Int.reduceMul, Int.reduceAdd, Int.reduceSub, Int.reduceNeg, Nat.reduceAdd, Nat.reduceMul, Nat.reducePow, Int.reduceLT, Int.reduceLE, Int.reduceEq, Nat.reduceEqDiff, e8]
    have gX : h3.get i1 = some (.cells (ints (mapPre (fun b => 1 - 2 * b) (bitC d p) 0)) true 0) := by rw [mapPre_zero]; exact gi3
    refine wp_loopI (fun j t h' => ∃ k : Nat, HSub h h' ∧ i1 < h'.size ∧ h'.get i1 = some (.cells (ints (mapPre (fun b => 1 - 2 * b) (bitC d p) k)) true 0) ∧ t 8 = .slice i1 0 (lenN d) (.known (lenN d)) ∧ t 68 = .slice i1 0 (lenN d) (.known (lenN d)) ∧ t 69 = .int .i64 (lenN d) ∧ t 70 = .int .i64 (k : Nat) ∧ k ≤ lenN d ∧ j = lenN d - k) (j0 := lenN d)
     ⟨0, hs3, Heap.lt_of_get gi3, gX, e8, rfl, rfl, rfl, by omega, rfl⟩ ?_
    rintro j u h' ⟨k, hs, hlt, hg, f8, e68, e69, e70, hk, hj⟩
    have hml := mapPre_length (fun b => 1 - 2 * b) (bitC d p) k
    simp -implicitDefEqProofs (disch := first | assumption | decide | omega | (simp only [wpD1] <;> omega) | (simp only [wpD2] <;> assumption) | solve_by_elim [zR, zP, zV] | fail) only [↓wpPre, wpPost, wpPoly, Int.reduceToNat, Int.reducePow, Int.reduceMul, Int.reduceAdd, Int.reduceSub, Int.reduceNeg, Nat.reduceAdd, Nat.reduceMul, Nat.reducePow, Int.reduceLT, Int.reduceLE, Int.reduceEq, Nat.reduceEqDiff, e69, e70]
    refine Br.by (fun c1 => ?_) (fun c1 => ?_)
    ·have hk' : k < (bitC d p).length := by omega
     have hg2 := mapPre_get (fun b => 1 - 2 * b) hk'
     have hst := mapPre_set (fun b => 1 - 2 * b) hk'
     have b01 := bC k
     simp -implicitDefEqProofs (disch := first | assumption | decide | omega | (simp only [wpD1] <;> omega) | (simp only [wpD2] <;> assumption) | solve_by_elim [zR, zP, zV] | fail) only [↓wpPre, wpPost, wpPoly, Int.reduceToNat, Int.reducePow, Int.reduceMul, Int.reduceAdd, Int.reduceSub, Int.reduceNeg, Nat.reduceAdd, Nat.reduceMul, Nat.reducePow, Int.reduceLT, Int.reduceLE, Int.reduceEq, Nat.reduceEqDiff, f8, e68, e69, e70, hg, hg2]
     exact ⟨_, ⟨k + 1, hs.put (by omega) _, hlt, by rw [← hst], by simp, by omega, rfl⟩, by omega⟩
    ·have : k = (bitC d p).length := by omega
     subst this
     rw [mapPre_full] at hg
     simp -implicitDefEqProofs (disch := first | assumption | decide | omega | (simp only [wpD1] <;> omega) | (simp only [wpD2] <;> assumption) | solve_by_elim [zR, zP, zV] | fail) only [↓wpPre, wpPost, wpPoly, Int.reduceToNat, Int.reducePow, Int.reduceMul, Int.reduceAdd, Int.reduceSub, Int.reduceNeg, Nat.reduceAdd, Nat.reduceMul, Nat.reducePow, Int.reduceLT, Int.reduceLE, Int.reduceEq, Nat.reduceEqDiff, f8]
     have cl := codeL_length d p
     have F : Fresh h h' (.slice i1 0 (lenN d) (.known (lenN d))) (codeL d p) := ⟨hs, by omega, i1, by omega, by rw [cl], hg⟩
     exact ⟨_, rfl, hs, by rw [if_pos trivial]; exact F.ri, fun _ => F⟩
  ·have cp' : ¬ (lenOk d = true ∧ 1 ≤ p ∧ p ≤ lenN d + 2) := fun h => cp h.2
   rw [if_neg cp'] at pe
   rw [pe]
   (refine calls_intro (hC.body (by decide) tab76) (Nat.le_of_ble_eq_true rfl) ?_); (show wp C _ none B76.code _ _); (simp only [B76]); simp -implicitDefEqProofs (disch := first | assumption | decide | omega | (simp only [wpD1] <;> omega) | (simp only [wpD2] <;> assumption) | solve_by_elim [zR, zP, zV] | fail) only [↓wpPre, wpPost, wpPoly, Int.reduceToNat, Int.reducePow, Int.reduceMul, Int.reduceAdd, Int.reduceSub, Int.reduceNeg, Nat.reduceAdd, Nat.reduceMul, Nat.reducePow, Int.reduceLT, Int.reduceLE, Int.reduceEq, Nat.reduceEqDiff]
   refine ACallsK.eq2 (Length_spec (hC.sub (T' := T70) (by decide)) hd) eL ?_
   simp -implicitDefEqProofs (disch := first | assumption | decide | omega | (simp only [wpD1] <;> omega) | (simp only [wpD2] <;> assumption) | solve_by_elim [zR, zP, zV] | fail) only [↓wpPre, wpPost, wpPoly, Int.reduceToNat, Int.reducePow, Int.reduceMul, Int.reduceAdd, Int.reduceSub, Int.reduceNeg, Nat.reduceAdd, Nat.reduceMul, Nat.reducePow, Int.reduceLT, Int.reduceLE, Int.reduceEq, Nat.reduceEqDiff, tup2]
   (repeat' (first | (refine Br.by (fun _ => ?_) (fun _ => ?_)) | (simp -implicitDefEqProofs (disch := first | assumption | decide | omega | (simp only [wpD1] <;> omega) | (simp only [wpD2] <;> assumption) | solve_by_elim [zR, zP, zV] | fail) only [↓wpPre, wpPost, wpPoly, Int.reduceToNat, Int.reducePow, Int.reduceMul, Int.reduceAdd, Int.reduceSub, Int.reduceNeg, Nat.reduceAdd, Nat.reduceMul, Nat.reducePow, Int.reduceLT, Int.reduceLE, Int.reduceEq, Nat.reduceEqDiff])))
   all_goals first | exact ⟨.nilslice, by rw [lstErr], HSub.refl _, by rw [if_neg id]; exact RI.nil⟩ | omega
 ·have eL : lenE d = tup2 0 2 := by unfold lenE; rw [if_neg c]
  have cp' : ¬ (lenOk d = true ∧ 1 ≤ p ∧ p ≤ lenN d + 2) := fun h => c h.1
  rw [if_neg cp'] at pe
  rw [pe]
  (refine calls_intro (hC.body (by decide) tab76) (Nat.le_of_ble_eq_true rfl) ?_); (show wp C _ none B76.code _ _); (simp only [B76]); simp -implicitDefEqProofs (disch := first | assumption | decide | omega | (simp only [wpD1] <;> omega) | (simp only [wpD2] <;> assumption) | solve_by_elim [zR, zP, zV] | fail) only [↓wpPre, wpPost, wpPoly, Int.reduceToNat, Int.reducePow, Int.reduceMul, Int.reduceAdd, Int.reduceSub, Int.reduceNeg, Nat.reduceAdd, Nat.reduceMul, Nat.reducePow, Int.reduceLT, Int.reduceLE, Int.reduceEq, Nat.reduceEqDiff]
  refine ACallsK.eq2 (Length_spec (hC.sub (T' := T70) (by decide)) hd) eL ?_
  simp -implicitDefEqProofs (disch := first | assumption | decide | omega | (simp only [wpD1] <;> omega) | (simp only [wpD2] <;> assumption) | solve_by_elim [zR, zP, zV] | fail) only [↓wpPre, wpPost, wpPoly, Int.reduceToNat, Int.reducePow, Int.reduceMul, Int.reduceAdd, Int.reduceSub, Int.reduceNeg, Nat.reduceAdd, Nat.reduceMul, Nat.reducePow, Int.reduceLT, Int.reduceLE, Int.reduceEq, Nat.reduceEqDiff, tup2]
  exact ⟨.nilslice, by rw [lstErr], HSub.refl _, by rw [if_neg id]; exact RI.nil⟩
end
end Go.Ae
/- Plans are checked: the program and the reference. -/
set_option linter.unusedSimpArgs false
set_option linter.unusedVariables false
namespace Go.Ae
def plA (p : PlanP) (vp : AV) : AV := .agg [.int .i64 p.d, .int .i64 p.o, .int .i64 p.pb, .int .i64 p.w, .int .i64 p.mn, .int .i64 p.mx, .int .i64 p.nz, vp]
theorem prns_step (n : Int) (l : List Int) (k : Nat) (hk : k < l.length) : prnsErr n (l.take k) (l.drop k) = if ¬(1 ≤ l.getD k 0 ∧ l.getD k 0 ≤ n + 2) then 2 else if ((l.take k).any fun y => l.getD k 0 == y) = true then 8 else prnsErr n (l.take (k + 1)) (l.drop (k + 1)) := by
 rw [List.drop_eq_getElem_cons hk, prnsErr, take_succ_getD hk, List.getD_eq_getElem?_getD, List.getElem?_eq_getElem hk]
 rfl
section
variable {C : Ctx}
theorem any_take {l : List Int} {k i : Nat} {x : Int} (hk : k ≤ l.length) (hi : i < k) (h : l.getD i 0 = x) : ((l.take k).any fun y => x == y) = true := by
 rw [List.any_eq_true]
 refine ⟨x, ?_, by simp⟩
 rw [← h, List.getD_eq_getElem?_getD, List.getElem?_eq_getElem (by omega)]
 exact List.mem_take_iff_getElem.2 ⟨i, by omega, rfl⟩
theorem any_take_no {l : List Int} {k : Nat} {x : Int} (hk : k ≤ l.length) (h : ∀ i, i < k → l.getD i 0 ≠ x) : ((l.take k).any fun y => x == y) = false := by
 rw [List.any_eq_false]
 intro y hy
 obtain ⟨i, hi, e⟩ := List.mem_take_iff_getElem.1 hy
 have := h i (by omega)
 rw [List.getD_eq_getElem?_getD, List.getElem?_eq_getElem (by omega)] at this
 simp only [Option.getD_some] at this
 rw [e] at this
 simp only [beq_iff_eq]
 exact fun q => this q.symm
set_option maxHeartbeats 2000000 in
set_option maxRecDepth 20000 in
theorem CheckPlanR_spec (hC : Has C T220) {v : AV} {p : PlanP} {h : Heap} (hp : PlI h v p) (h64 : p.ok64) : ACalls C 220 [v] h (fun r h' => r = .int .i64 p.err ∧ h' = h) := by
 refine ACalls.gc0 (P := fun r h' => r = .int .i64 p.err ∧ HSub h h') ?_ (fun r h' hp => ⟨by rw [hp.1]; trivial, hp.2, hp.1, rfl⟩)
 obtain ⟨vp, rfl, R⟩ := hp
 have v1 := R.one
 have hlt := R.lt
 obtain ⟨i1, i2, i3, i4, i5, i6, i7, i8⟩ := h64
 have L := fun h => Length08_spec (hC.sub (T' := T71) (by decide)) (h := h) i1
 have e2 : ¬ p.numsOk → p.err = 2 := fun q => by unfold PlanP.err; rw [if_neg q]
 have s1 : ∀ b, HSub h (h.push b) := HSub.push1 h
 have e3 : p.numsOk → p.err = if p.prns.length = 0 then 3 else if 8 < p.prns.length then 4 else prnsErr (lenN p.d) [] p.prns := fun q => by unfold PlanP.err; rw [if_pos q]
 have eN : p.numsOk ↔ lenOk p.d = true ∧ (1 ≤ p.o ∧ p.o ≤ 8) ∧ (1 ≤ p.pb ∧ p.pb ≤ 20) ∧ (2 ≤ p.w ∧ p.w ≤ 10) ∧ (1 ≤ p.mn ∧ p.mn ≤ p.mx) ∧ p.mx ≤ 1000 ∧ (0 ≤ p.nz ∧ p.nz ≤ 100000) := Iff.rfl
 generalize p.err = E at *
 generalize p.numsOk = Q at *
 obtain ⟨d, o, pb, w, mn, mx, nz, prns⟩ := p
 dsimp only at *
 by_cases c1 : lenOk d = true
 ·have el : lenE d = tup2 (lenN d) 0 := by unfold lenE; rw [if_pos c1]
  simp only [el] at L
  have hN := lenN_eq c1
  by_cases cA : (1 ≤ o ∧ o ≤ 8) ∧ (1 ≤ pb ∧ pb ≤ 20) ∧ (2 ≤ w ∧ w ≤ 10)
  ·have n1 : ¬ o < 1 := by omega
   have n2 : ¬ 8 < o := by omega
   have n3 : ¬ pb < 1 := by omega
   have n4 : ¬ 20 < pb := by omega
   have n5 : ¬ w < 2 := by omega
   have n6 : ¬ 10 < w := by omega
   by_cases cB : (1 ≤ mn ∧ mn ≤ mx) ∧ mx ≤ 1000 ∧ (0 ≤ nz ∧ nz ≤ 100000)
   ·have m1 : ¬ mn < 1 := by omega
    have m2 : ¬ mx < mn := by omega
    have m3 : ¬ 1000 < mx := by omega
    have m4 : ¬ nz < 0 := by omega
    have m5 : ¬ 100000 < nz := by omega
    have e := e3 (eN.2 ⟨c1, cA.1, cA.2.1, cA.2.2, cB.1, cB.2.1, cB.2.2⟩)
    by_cases c8 : prns.length = 0
    ·rw [if_pos c8] at e
     (refine calls_intro (hC.body (by decide) tab220) (Nat.le_of_ble_eq_true rfl) ?_); (show wp C _ none B220.code _ _); (simp only [B220]); simp -implicitDefEqProofs (disch := first | assumption | decide | omega | (simp only [wpD1] <;> omega) | (simp only [wpD2] <;> assumption) | solve_by_elim [zR, zP, zV] | fail) only [↓wpPre, wpPost, wpPoly, Int.reduceToNat, Int.reducePow, Int.reduceMul, Int.reduceAdd, Int.reduceSub, Int.reduceNeg, Nat.reduceAdd, Nat.reduceMul, Nat.reducePow, Int.reduceLT, Int.reduceLE, Int.reduceEq, Nat.reduceEqDiff]
     refine ACallsK.eq (L _) ?_
     simp -implicitDefEqProofs (disch := first | assumption | decide | omega | (simp only [wpD1] <;> omega) | (simp only [wpD2] <;> assumption) | solve_by_elim [zR, zP, zV] | fail) only [↓wpPre, wpPost, wpPoly, Int.reduceToNat, Int.reducePow, Int.reduceMul, Int.reduceAdd, Int.reduceSub, Int.reduceNeg, Nat.reduceAdd, Nat.reduceMul, Nat.reducePow, Int.reduceLT, Int.reduceLE, Int.reduceEq, Nat.reduceEqDiff, tup2, gV_u, n1, n2, n3, n4, n5, n6, m1, m2, m3, m4, m5, R.len, c8]
     exact ⟨e.symm, s1 _⟩
    ·rw [if_neg c8] at e
     by_cases c9 : 8 < prns.length
     ·rw [if_pos c9] at e
      (refine calls_intro (hC.body (by decide) tab220) (Nat.le_of_ble_eq_true rfl) ?_); (show wp C _ none B220.code _ _); (simp only [B220]); simp -implicitDefEqProofs (disch := first | assumption | decide | omega | (simp only [wpD1] <;> omega) | (simp only [wpD2] <;> assumption) | solve_by_elim [zR, zP, zV] | fail) only [↓wpPre, wpPost, wpPoly, Int.reduceToNat, Int.reducePow, Int.reduceMul, Int.reduceAdd, Int.reduceSub, Int.reduceNeg, Nat.reduceAdd, Nat.reduceMul, Nat.reducePow, Int.reduceLT, Int.reduceLE, Int.reduceEq, Nat.reduceEqDiff]
      refine ACallsK.eq (L _) ?_
      simp -implicitDefEqProofs (disch := first | assumption | decide | omega | (simp only [wpD1] <;> omega) | (simp only [wpD2] <;> assumption) | solve_by_elim [zR, zP, zV] | fail) only [↓wpPre, wpPost, wpPoly, Int.reduceToNat, Int.reducePow, Int.reduceMul, Int.reduceAdd, Int.reduceSub, Int.reduceNeg, Nat.reduceAdd, Nat.reduceMul, Nat.reducePow, Int.reduceLT, Int.reduceLE, Int.reduceEq, Nat.reduceEqDiff, tup2, gV_u, n1, n2, n3, n4, n5, n6, m1, m2, m3, m4, m5, R.len, c8, c9]
      exact ⟨e.symm, s1 _⟩
     ·rw [if_neg c9] at e
      (refine calls_intro (hC.body (by decide) tab220) (Nat.le_of_ble_eq_true rfl) ?_); (show wp C _ none B220.code _ _); (simp only [B220]); simp -implicitDefEqProofs (disch := first | assumption | decide | omega | (simp only [wpD1] <;> omega) | (simp only [wpD2] <;> assumption) | solve_by_elim [zR, zP, zV] | fail) only [↓wpPre, wpPost, wpPoly, Int.reduceToNat, Int.reducePow, Int.reduceMul, Int.reduceAdd, Int.reduceSub, Int.reduceNeg, Nat.reduceAdd, Nat.reduceMul, Nat.reducePow, Int.reduceLT, Int.reduceLE, Int.reduceEq, Nat.reduceEqDiff]
      refine ACallsK.eq (L _) ?_
      simp -implicitDefEqProofs (disch := first | assumption | decide | omega | (simp only [wpD1] <;> omega) | (simp only [wpD2] <;> assumption) | solve_by_elim [zR, zP, zV] | fail) only [↓wpPre, wpPost, wpPoly, Int.reduceToNat, Int.reducePow, Int.reduceMul, Int.reduceAdd, Int.reduceSub, Int.reduceNeg, Nat.reduceAdd, Nat.reduceMul, Nat.reducePow, Int.reduceLT, Int.reduceLE, Int.reduceEq, Nat.reduceEqDiff, tup2, gV_u, n1, n2, n3, n4, n5, n6, m1, m2, m3, m4, m5, R.len, c8, c9]
      refine wp_loopI (fun j t h' => h' = h.push (.cells [.int .i64 d, .int .i64 o, .int .i64 pb, .int .i64 w, .int .i64 mn, .int .i64 mx, .int .i64 nz, vp] true 0) ∧ ∃ k : Nat, prnsErr (lenN d) (prns.take k) (prns.drop k) = E ∧ t 1 = .ptr h.size 0 ∧ t 3 = .int .i64 (lenN d) ∧ t 5 = .int .i64 (k : Nat) ∧ k ≤ prns.length ∧ j = prns.length - k) (j0 := prns.length)
       ⟨rfl, 0, e.symm, rfl, rfl, rfl, by omega, rfl⟩ ?_
      rintro j t h1 ⟨hh, k, ek, e1, e3, e5, hk, hj⟩
      have gp : h1.get h.size = some (.cells [.int .i64 d, .int .i64 o, .int .i64 pb, .int .i64 w, .int .i64 mn, .int .i64 mx, .int .i64 nz, vp] true 0) := by rw [hh]; exact get_push_eq rfl
      have t1 : HSub h h1 := by rw [hh]; exact s1 _
      have R1 := R.mono t1
      simp -implicitDefEqProofs (disch := first | assumption | decide | omega | (simp only [wpD1] <;> omega) | (simp only [wpD2] <;> assumption) | solve_by_elim [zR, zP, zV] | fail) only [↓wpPre, wpPost, wpPoly, Int.reduceToNat, Int.reducePow, Int.reduceMul, Int.reduceAdd, Int.reduceSub, Int.reduceNeg, Nat.reduceAdd, Nat.reduceMul, Nat.reducePow, Int.reduceLT, Int.reduceLE, Int.reduceEq, Nat.reduceEqDiff, e1, e5, gp, R1.len]
      refine Br.by (fun d1 => ?_) (fun d1 => ?_)
      ·have hk' : k < prns.length := by omega
       have ld := R1.load hk'
       have st := prns_step (lenN d) prns k hk'
       rw [ek] at st
       have at1 := fun i (hi : i < k) (q : prns.getD i 0 = prns.getD k 0) => any_take (by omega) hi q
       have at2 := fun (q : ∀ i, i < k → prns.getD i 0 ≠ prns.getD k 0) => any_take_no (x := prns.getD k 0) (by omega) q
       generalize hx : prns.getD k 0 = x at *
       by_cases d2 : 1 ≤ x ∧ x ≤ (lenN d : Int) + 2
       ·rw [if_neg (fun q => q d2)] at st
        have d3 : ¬ x < 1 := by omega
        have d4 : ¬ (lenN d : Int) + 2 < x := by omega
        simp -implicitDefEqProofs (disch := first | assumption | decide | omega | (simp only [wpD1] <;> omega) | (simp only [wpD2] <;> assumption) | solve_by_elim [zR, zP, zV] | fail) only [↓wpPre, wpPost, wpPoly, Int.reduceToNat, Int.reducePow, Int.reduceMul, Int.reduceAdd, Int.reduceSub, Int.reduceNeg, Nat.reduceAdd, Nat.reduceMul, Nat.reducePow, Int.reduceLT, Int.reduceLE, Int.reduceEq, Nat.reduceEqDiff, e1, e3, e5, gp, R1.idx, ld, gV_u, d3, d4]
        refine wp_loopI (fun j t h' => h' = h1 ∧ ∃ i : Nat, (∀ m, m < i → prns.getD m 0 ≠ x) ∧ t 1 = .ptr h.size 0 ∧ t 3 = .int .i64 (lenN d) ∧ t 5 = .int .i64 (k : Nat) ∧ t 6 = .int .i64 (i : Nat) ∧ i ≤ k ∧ j = k - i) (j0 := k)
         ⟨rfl, 0, fun m hm => by omega, e1, e3, e5, rfl, by omega, rfl⟩ ?_
        rintro j t h2 ⟨rfl, i, hm, e1, e3, e5, e6, hi, hj2⟩
        simp -implicitDefEqProofs (disch := first | assumption | decide | omega | (simp only [wpD1] <;> omega) | (simp only [wpD2] <;> assumption) | solve_by_elim [zR, zP, zV] | fail) only [↓wpPre, wpPost, wpPoly, Int.reduceToNat, Int.reducePow, Int.reduceMul, Int.reduceAdd, Int.reduceSub, Int.reduceNeg, Nat.reduceAdd, Nat.reduceMul, Nat.reducePow, Int.reduceLT, Int.reduceLE, Int.reduceEq, Nat.reduceEqDiff, e5, e6]
        refine Br.by (fun d5 => ?_) (fun d5 => ?_)
        ·have hi' : i < k := by omega
         have ld2 := R1.load (k := i) (by omega)
         by_cases d6 : prns.getD i 0 = x
         ·rw [if_pos (at1 i hi' d6)] at st
          simp -implicitDefEqProofs (disch := first | assumption | decide | omega | (simp only [wpD1] <;> omega) | (simp only [wpD2] <;> assumption) | solve_by_elim [zR, zP, zV] | fail) only [↓wpPre, wpPost, wpPoly, Int.reduceToNat, Int.reducePow, Int.reduceMul, Int.reduceAdd, Int.reduceSub, Int.reduceNeg, Nat.reduceAdd, Nat.reduceMul, Nat.reducePow, Int.reduceLT, Int.reduceLE, Int.reduceEq, Nat.reduceEqDiff, e1, e5, e6, gp, R1.idx, ld, ld2, d6]
          exact ⟨st.symm, t1⟩
         ·simp -implicitDefEqProofs (disch := first | assumption | decide | omega | (simp only [wpD1] <;> omega) | (simp only [wpD2] <;> assumption) | solve_by_elim [zR, zP, zV] | fail) only [↓wpPre, wpPost, wpPoly, Int.reduceToNat, Int.reducePow, Int.reduceMul, Int.reduceAdd, Int.reduceSub, Int.reduceNeg, Nat.reduceAdd, Nat.reduceMul, Nat.reducePow, Int.reduceLT, Int.reduceLE, Int.reduceEq, Nat.reduceEqDiff, e1, e3, e5, e6, gp, R1.idx, ld, ld2, d6]
          refine ⟨_, ⟨i + 1, fun m hm2 => ?_, by simp, by omega, rfl⟩, by omega⟩
          rcases Nat.lt_or_ge m i with y | y
          ·exact hm m y
          ·have : m = i := by omega
           subst this; exact d6
        ·have ei : i = k := by omega
         subst ei
         rw [if_neg (by rw [at2 hm]; simp)] at st
         simp -implicitDefEqProofs (disch := first | assumption | decide | omega | (simp only [wpD1] <;> omega) | (simp only [wpD2] <;> assumption) | solve_by_elim [zR, zP, zV] | fail) only [↓wpPre, wpPost, wpPoly, Int.reduceToNat, Int.reducePow, Int.reduceMul, Int.reduceAdd, Int.reduceSub, Int.reduceNeg, Nat.reduceAdd, Nat.reduceMul, Nat.reducePow, Int.reduceLT, Int.reduceLE, Int.reduceEq, Nat.reduceEqDiff, e1, e3, e5, hh]
         exact ⟨_, ⟨i + 1, st.symm, by simp, by omega, rfl⟩, by omega⟩
       ·rw [if_pos d2] at st
        by_cases d3 : x < 1
        ·simp -implicitDefEqProofs (disch := first | assumption | decide | omega | (simp only [wpD1] <;> omega) | (simp only [wpD2] <;> assumption) | solve_by_elim [zR, zP, zV] | fail) only [↓wpPre, wpPost, wpPoly, Int.reduceToNat, Int.reducePow, Int.reduceMul, Int.reduceAdd, Int.reduceSub, Int.reduceNeg, Nat.reduceAdd, Nat.reduceMul, Nat.reducePow, Int.reduceLT, Int.reduceLE, Int.reduceEq, Nat.reduceEqDiff, e1, e3, e5, gp, R1.idx, ld, gV_u, d3]
         exact ⟨st.symm, t1⟩
        ·have d4 : (lenN d : Int) + 2 < x := by omega
         simp -implicitDefEqProofs (disch := first | assumption | decide | omega | (simp only [wpD1] <;> omega) | (simp only [wpD2] <;> assumption) | solve_by_elim [zR, zP, zV] | fail) only [↓wpPre, wpPost, wpPoly, Int.reduceToNat, Int.reducePow, Int.reduceMul, Int.reduceAdd, Int.reduceSub, Int.reduceNeg, Nat.reduceAdd, Nat.reduceMul, Nat.reducePow, Int.reduceLT, Int.reduceLE, Int.reduceEq, Nat.reduceEqDiff, e1, e3, e5, gp, R1.idx, ld, gV_u, d3, d4]
         exact ⟨st.symm, t1⟩
      ·have ek2 : k = prns.length := by omega
       rw [ek2, List.drop_length, prnsErr] at ek
       simp -implicitDefEqProofs (disch := first | assumption | decide | omega | (simp only [wpD1] <;> omega) | (simp only [wpD2] <;> assumption) | solve_by_elim [zR, zP, zV] | fail) only [↓wpPre, wpPost, wpPoly, Int.reduceToNat, Int.reducePow, Int.reduceMul, Int.reduceAdd, Int.reduceSub, Int.reduceNeg, Nat.reduceAdd, Nat.reduceMul, Nat.reducePow, Int.reduceLT, Int.reduceLE, Int.reduceEq, Nat.reduceEqDiff]
       exact ⟨ek, t1⟩
   ·have e := e2 (fun q => cB (eN.1 q).2.2.2.2)
    (refine calls_intro (hC.body (by decide) tab220) (Nat.le_of_ble_eq_true rfl) ?_); (show wp C _ none B220.code _ _); (simp only [B220]); simp -implicitDefEqProofs (disch := first | assumption | decide | omega | (simp only [wpD1] <;> omega) | (simp only [wpD2] <;> assumption) | solve_by_elim [zR, zP, zV] | fail) only [↓wpPre, wpPost, wpPoly, Int.reduceToNat, Int.reducePow, Int.reduceMul, Int.reduceAdd, Int.reduceSub, Int.reduceNeg, Nat.reduceAdd, Nat.reduceMul, Nat.reducePow, Int.reduceLT, Int.reduceLE, Int.reduceEq, Nat.reduceEqDiff]
    refine ACallsK.eq (L _) ?_
    simp -implicitDefEqProofs (disch := first | assumption | decide | omega | (simp only [wpD1] <;> omega) | (simp only [wpD2] <;> assumption) | solve_by_elim [zR, zP, zV] | fail) only [↓wpPre, wpPost, wpPoly, Int.reduceToNat, Int.reducePow, Int.reduceMul, Int.reduceAdd, Int.reduceSub, Int.reduceNeg, Nat.reduceAdd, Nat.reduceMul, Nat.reducePow, Int.reduceLT, Int.reduceLE, Int.reduceEq, Nat.reduceEqDiff, tup2, gV_u, n1, n2, n3, n4, n5, n6]
    (repeat' (first | (refine Br.by (fun _ => ?_) (fun _ => ?_)) | (simp -implicitDefEqProofs (disch := first | assumption | decide | omega | (simp only [wpD1] <;> omega) | (simp only [wpD2] <;> assumption) | solve_by_elim [zR, zP, zV] | fail) only [↓wpPre, wpPost, wpPoly, Int.reduceToNat, Int.reducePow, Int.reduceMul, Int.reduceAdd, Int.reduceSub, Int.reduceNeg, Nat.reduceAdd, Nat.reduceMul, Nat.reducePow, Int.reduceLT, Int.reduceLE, Int.reduceEq, Nat.reduceEqDiff, gV_u])))
    all_goals first
     | exact ⟨e.symm, s1 _⟩
     | (exfalso; omega)
  ·have e := e2 (fun q => cA ⟨(eN.1 q).2.1, (eN.1 q).2.2.1, (eN.1 q).2.2.2.1⟩)
   (refine calls_intro (hC.body (by decide) tab220) (Nat.le_of_ble_eq_true rfl) ?_); (show wp C _ none B220.code _ _); (simp only [B220]); simp -implicitDefEqProofs (disch := first | assumption | decide | omega | (simp only [wpD1] <;> omega) | (simp only [wpD2] <;> assumption) | solve_by_elim [zR, zP, zV] | fail) only [↓wpPre, wpPost, wpPoly, Int.reduceToNat, Int.reducePow, Int.reduceMul, Int.reduceAdd, Int.reduceSub, Int.reduceNeg, Nat.reduceAdd, Nat.reduceMul, Nat.reducePow, Int.reduceLT, Int.reduceLE, Int.reduceEq, Nat.reduceEqDiff]
   refine ACallsK.eq (L _) ?_
   simp -implicitDefEqProofs (disch := first | assumption | decide | omega | (simp only [wpD1] <;> omega) | (simp only [wpD2] <;> assumption) | solve_by_elim [zR, zP, zV] | fail) only [↓wpPre, wpPost, wpPoly, Int.reduceToNat, Int.reducePow, Int.reduceMul, Int.reduceAdd, Int.reduceSub, Int.reduceNeg, Nat.reduceAdd, Nat.reduceMul, Nat.reducePow, Int.reduceLT, Int.reduceLE, Int.reduceEq, Nat.reduceEqDiff, tup2, gV_u]
   (repeat' (first | (refine Br.by (fun _ => ?_) (fun _ => ?_)) | (simp -implicitDefEqProofs (disch := first | assumption | decide | omega | (simp only [wpD1] <;> omega) | (simp only [wpD2] <;> assumption) | solve_by_elim [zR, zP, zV] | fail) only [↓wpPre, wpPost, wpPoly, Int.reduceToNat, Int.reducePow, Int.reduceMul, Int.reduceAdd, Int.reduceSub, Int.reduceNeg, Nat.reduceAdd, Nat.reduceMul, Nat.reducePow, Int.reduceLT, Int.reduceLE, Int.reduceEq, Nat.reduceEqDiff, gV_u])))
   all_goals first
    | exact ⟨e.symm, s1 _⟩
    | (exfalso; omega)
 ·have el : lenE d = tup2 0 2 := by unfold lenE; rw [if_neg c1]
  simp only [el] at L
  have e := e2 (fun q => c1 (eN.1 q).1)
  (refine calls_intro (hC.body (by decide) tab220) (Nat.le_of_ble_eq_true rfl) ?_); (show wp C _ none B220.code _ _); (simp only [B220]); simp -implicitDefEqProofs (disch := first | assumption | decide | omega | (simp only [wpD1] <;> omega) | (simp only [wpD2] <;> assumption) | solve_by_elim [zR, zP, zV] | fail) only [↓wpPre, wpPost, wpPoly, Int.reduceToNat, Int.reducePow, Int.reduceMul, Int.reduceAdd, Int.reduceSub, Int.reduceNeg, Nat.reduceAdd, Nat.reduceMul, Nat.reducePow, Int.reduceLT, Int.reduceLE, Int.reduceEq, Nat.reduceEqDiff]
  refine ACallsK.eq (L _) ?_
  simp -implicitDefEqProofs (disch := first | assumption | decide | omega | (simp only [wpD1] <;> omega) | (simp only [wpD2] <;> assumption) | solve_by_elim [zR, zP, zV] | fail) only [↓wpPre, wpPost, wpPoly, Int.reduceToNat, Int.reducePow, Int.reduceMul, Int.reduceAdd, Int.reduceSub, Int.reduceNeg, Nat.reduceAdd, Nat.reduceMul, Nat.reducePow, Int.reduceLT, Int.reduceLE, Int.reduceEq, Nat.reduceEqDiff, tup2, gV_u]
  exact ⟨e.symm, s1 _⟩
end
end Go.Ae
/- Emitters are checked: the program and the reference. -/
set_option linter.unusedSimpArgs false
set_option linter.unusedVariables false
namespace Go.Ae
theorem plan_ok {p : PlanP} (h : p.err = 0) : p.numsOk := by
 unfold PlanP.err at h
 split at h
 ·assumption
 ·omega
theorem size_range {p : PlanP} (h : p.numsOk) : 31 ≤ p.size ∧ p.size ≤ 8184 ∧ p.size = ((lenN p.d * p.o.toNat : Nat) : Int) := by
 have hN := lenN_eq h.1
 have ho := h.2.1
 obtain ⟨o, eo⟩ := Int.eq_ofNat_of_zero_le (show 0 ≤ p.o by omega)
 have e : p.size = ((lenN p.d * p.o.toNat : Nat) : Int) := by
  unfold PlanP.size
  rw [eo, Int.toNat_natCast]; exact (Int.natCast_mul _ _).symm
 have a1 : lenN p.d * 1 ≤ lenN p.d * p.o.toNat := Nat.mul_le_mul_left _ (by omega)
 have a2 : lenN p.d * p.o.toNat ≤ 1023 * 8 := Nat.mul_le_mul (by omega) (by omega)
 omega
theorem emit_range (p : PlanP) (e : EmitP) : emitErr p e = 0 ∨ emitErr p e = 2 ∨ emitErr p e = 3 ∨ emitErr p e = 4 ∨ emitErr p e = 8 ∨ emitErr p e = 18 := by
 unfold emitErr
 have hp : p.err = 0 ∨ p.err = 2 ∨ p.err = 3 ∨ p.err = 4 ∨ p.err = 8 := by
  unfold PlanP.err
  split
  ·split
   ·simp
   ·split
    ·simp
    ·have := prnsErr_range (lenN p.d) p.prns []
     omega
  ·simp
 split
 ·repeat' split
  all_goals simp
 ·omega
section
variable {C : Ctx}
theorem size244_spec (hC : Has C T244) {p : PlanP} {vp : AV} {h : Heap} (hn : p.numsOk) (v1 : vp.one = true) : ACalls C 244 [plA p vp] h (fun r h' => r = .int .i64 p.size ∧ h' = h) := by
 refine ACalls.gc0 (P := fun r h' => r = .int .i64 p.size ∧ HSub h h') ?_ (fun r h' hp => ⟨by rw [hp.1]; trivial, hp.2, hp.1, rfl⟩)
 have sr := size_range hn
 have hN := lenN_eq hn.1
 have hl := lenOk_cases hn.1
 have ho := hn.2.1
 have e1 : ((lenN p.d + 1 : Nat) : Int) - 1 = lenN p.d := by omega
 have es : p.size = (lenN p.d : Int) * p.o := rfl
 rw [es] at sr ⊢
 unfold plA
 obtain ⟨d, o, pb, w, mn, mx, nz, prns⟩ := p
 dsimp only at *
 (refine calls_intro (hC.body (by decide) tab244) (Nat.le_of_ble_eq_true rfl) ?_); (show wp C _ none B244.code _ _); (simp only [B244]); simp -implicitDefEqProofs (disch := first | assumption | decide | omega | (simp only [wpD1] <;> omega) | (simp only [wpD2] <;> assumption) | solve_by_elim [zR, zP, zV] | fail) only [↓wpPre, wpPost, wpPoly, Int.reduceToNat, Int.reducePow, Int.reduceMul, Int.reduceAdd, Int.reduceSub, Int.reduceNeg, Nat.reduceAdd, Nat.reduceMul, Nat.reducePow, Int.reduceLT, Int.reduceLE, Int.reduceEq, Nat.reduceEqDiff, Int.one_mul, hN.2.2, e1]
 exact HSub.push1 _ _
end
end Go.Ae
/- Emitters are checked: the reference. -/
set_option linter.unusedSimpArgs false
set_option linter.unusedVariables false
namespace Go.Ae
theorem any_succ {l : List Int} {k : Nat} (hk : k < l.length) (p : Int → Bool) : ((l.take (k + 1)).any p) = ((l.take k).any p || p (l.getD k 0)) := by
 rw [take_succ_getD hk, List.any_append]
 simp
section
variable {C : Ctx}
set_option maxHeartbeats 2000000 in
set_option maxRecDepth 20000 in
theorem CheckR_spec (hC : Has C T224) {v w : AV} {p : PlanP} {e : EmitP} {h : Heap} (hp : PlI h v p) (he : EmI h w e) (h64 : p.ok64) (h65 : e.ok64) : ACalls C 224 [v, w] h (fun r h' => r = .int .i64 (emitErr p e) ∧ h' = h) := by
 refine ACalls.gc0 (P := fun r h' => r = .int .i64 (emitErr p e) ∧ HSub h h') ?_ (fun r h' hp => ⟨by rw [hp.1]; trivial, hp.2, hp.1, rfl⟩)
 have kc := fun h1 (q : HSub h h1) => CheckPlanR_spec (hC.sub (T' := T220) (by decide)) (hp.mono q) h64
 have pr := emit_range p e
 obtain ⟨vp, rfl, R⟩ := hp
 obtain ⟨vb, rfl, B⟩ := he
 have v1 := R.one
 have b1 := B.one
 have hlt := R.lt
 have blt := B.lt
 have hE : emitErr p e = if p.err = 0 then if (p.prns.any fun y => e.prn == y) = true then if e.numsOk p then if 10000 < e.bits.length then 4 else if e.bits.any (fun b => b != 0 && b != 1) = true then 3 else 0 else 2 else 18 else p.err := rfl
 generalize emitErr p e = E at *
 have kS := fun (q : p.numsOk) h1 => size244_spec (hC.sub (T' := T244) (by decide)) (vp := vp) (h := h1) q v1
 unfold plA at kS
 by_cases c : p.err = 0
 ·have hn := plan_ok c
  have kS := kS hn
  rw [if_pos c] at hE
  rw [c] at kc
  have g1 : (p.prns.any fun y => e.prn == y) = false → E = 18 := fun q => by rw [hE, if_neg (by rw [q]; decide)]
  have g2 : (p.prns.any fun y => e.prn == y) = true → ¬ ((0 ≤ e.dl ∧ e.dl < p.size) ∧ (-64 ≤ e.rt ∧ e.rt ≤ 64) ∧ (p.mn ≤ e.amp ∧ e.amp ≤ p.mx) ∧ (0 ≤ e.ba ∧ e.ba < p.pb)) → E = 2 := fun q q2 => by rw [hE, if_pos q, if_neg (show ¬ e.numsOk p from q2)]
  have g3 : (p.prns.any fun y => e.prn == y) = true → ((0 ≤ e.dl ∧ e.dl < p.size) ∧ (-64 ≤ e.rt ∧ e.rt ≤ 64) ∧ (p.mn ≤ e.amp ∧ e.amp ≤ p.mx) ∧ (0 ≤ e.ba ∧ e.ba < p.pb)) → E = if 10000 < e.bits.length then 4 else if e.bits.any (fun b => b != 0 && b != 1) = true then 3 else 0 := fun q q2 => by rw [hE, if_pos q, if_pos (show e.numsOk p from q2)]
  clear hE
  generalize p.size = sz at *
  obtain ⟨d, o, pb, wo, mn, mx, nz, prns⟩ := p
  obtain ⟨prn, dl, rt, st, ph, amp, ba, bits⟩ := e
  dsimp only at *
  have sH : ∀ b c, HSub h ((h.push b).push c) := fun b c => (HSub.push1 h b).push c
  have a0 : (prns.take prns.length).any (fun y => prn == y) = (prns.any fun y => prn == y) := by rw [List.take_length]
  have z0 : (bits.take bits.length).any (fun b => b != 0 && b != 1) = (bits.any fun b => b != 0 && b != 1) := by rw [List.take_length]
  generalize (prns.any fun y => prn == y) = b at *
  generalize (bits.any fun b => b != 0 && b != 1) = z at *
  (refine calls_intro (hC.body (by decide) tab224) (Nat.le_of_ble_eq_true rfl) ?_); (show wp C _ none B224.code _ _); (simp only [B224]); simp -implicitDefEqProofs (disch := first | assumption | decide | omega | (simp only [wpD1] <;> omega) | (simp only [wpD2] <;> assumption) | solve_by_elim [zR, zP, zV] | fail) only [↓wpPre, wpPost, wpPoly, Int.reduceToNat, Int.reducePow, Int.reduceMul, Int.reduceAdd, Int.reduceSub, Int.reduceNeg, Nat.reduceAdd, Nat.reduceMul, Nat.reducePow, Int.reduceLT, Int.reduceLE, Int.reduceEq, Nat.reduceEqDiff]
  refine ACallsK.hide (fun H hH => ?_)
  have t1 : HSub h H := by rw [hH]; exact sH _ _
  have gp : H.get h.size = some (.cells [.int .i64 d, .int .i64 o, .int .i64 pb, .int .i64 wo, .int .i64 mn, .int .i64 mx, .int .i64 nz, vp] true 0) := by rw [hH]; simp -implicitDefEqProofs (disch := first | assumption | decide | omega | (simp only [wpD1] <;> omega) | (simp only [wpD2] <;> assumption) | solve_by_elim [zR, zP, zV] | fail) only [↓wpPre, wpPost, wpPoly, Int.reduceToNat, Int.reducePow, Int.reduceMul, Int.reduceAdd, Int.reduceSub, Int.reduceNeg, Nat.reduceAdd, Nat.reduceMul, Nat.reducePow, Int.reduceLT, Int.reduceLE, Int.reduceEq, Nat.reduceEqDiff]
  have ge : H.get (h.size + 1) = some (.cells [.int .i64 prn, .int .i64 dl, .int .i64 rt, .int .u32 st, .int .u32 ph, .int .i64 amp, .int .i64 ba, vb] true 0) := by rw [hH]; simp -implicitDefEqProofs (disch := first | assumption | decide | omega | (simp only [wpD1] <;> omega) | (simp only [wpD2] <;> assumption) | solve_by_elim [zR, zP, zV] | fail) only [↓wpPre, wpPost, wpPoly, Int.reduceToNat, Int.reducePow, Int.reduceMul, Int.reduceAdd, Int.reduceSub, Int.reduceNeg, Nat.reduceAdd, Nat.reduceMul, Nat.reducePow, Int.reduceLT, Int.reduceLE, Int.reduceEq, Nat.reduceEqDiff]
  have R1 := R.mono t1
  have B1 := B.mono t1
  have kc := kc H t1
  clear hH
  refine ACallsK.eq kc ?_
  simp -implicitDefEqProofs (disch := first | assumption | decide | omega | (simp only [wpD1] <;> omega) | (simp only [wpD2] <;> assumption) | solve_by_elim [zR, zP, zV] | fail) only [↓wpPre, wpPost, wpPoly, Int.reduceToNat, Int.reducePow, Int.reduceMul, Int.reduceAdd, Int.reduceSub, Int.reduceNeg, Nat.reduceAdd, Nat.reduceMul, Nat.reducePow, Int.reduceLT, Int.reduceLE, Int.reduceEq, Nat.reduceEqDiff]
  refine wp_loopI (fun j t h' => h' = H ∧ ∃ k : Nat, t 2 = .ptr h.size 0 ∧ t 3 = .ptr (h.size + 1) 0 ∧ t 6 = .bool ((prns.take k).any fun y => prn == y) ∧ t 7 = .int .i64 (k : Nat) ∧ k ≤ prns.length ∧ j = prns.length - k) (j0 := prns.length)
   ⟨rfl, 0, rfl, rfl, rfl, rfl, by omega, rfl⟩ ?_
  rintro j t h1 ⟨rfl, k, e2, e3, e6, e7, hk, hj⟩
  simp -implicitDefEqProofs (disch := first | assumption | decide | omega | (simp only [wpD1] <;> omega) | (simp only [wpD2] <;> assumption) | solve_by_elim [zR, zP, zV] | fail) only [↓wpPre, wpPost, wpPoly, Int.reduceToNat, Int.reducePow, Int.reduceMul, Int.reduceAdd, Int.reduceSub, Int.reduceNeg, Nat.reduceAdd, Nat.reduceMul, Nat.reducePow, Int.reduceLT, Int.reduceLE, Int.reduceEq, Nat.reduceEqDiff, e2, e7, gp, R1.len]
  refine Br.by (fun d1 => ?_) (fun d1 => ?_)
  ·have hk' : k < prns.length := by omega
   have ld := R1.load hk'
   have asx := any_succ hk' (fun y => prn == y)
   have eb : (prn == prns.getD k 0) = decide (prns.getD k 0 = prn) := by
    rw [Bool.eq_iff_iff]; simp; exact ⟨fun q => q.symm, fun q => q.symm⟩
   rw [eb] at asx
   cases hb : (prns.take k).any (fun y => prn == y)
   ·rw [hb] at e6 asx
    simp -implicitDefEqProofs (disch := first | assumption | decide | omega | (simp only [wpD1] <;> omega) | (simp only [wpD2] <;> assumption) | solve_by_elim [zR, zP, zV] | fail) only [↓wpPre, wpPost, wpPoly, Int.reduceToNat, Int.reducePow, Int.reduceMul, Int.reduceAdd, Int.reduceSub, Int.reduceNeg, Nat.reduceAdd, Nat.reduceMul, Nat.reducePow, Int.reduceLT, Int.reduceLE, Int.reduceEq, Nat.reduceEqDiff, e2, e3, e6, e7, gp, ge, R1.idx, ld, gV_u]
    exact ⟨_, ⟨k + 1, by rw [asx]; simp, by simp, by omega, rfl⟩, by omega⟩
   ·rw [hb] at e6 asx
    simp -implicitDefEqProofs (disch := first | assumption | decide | omega | (simp only [wpD1] <;> omega) | (simp only [wpD2] <;> assumption) | solve_by_elim [zR, zP, zV] | fail) only [↓wpPre, wpPost, wpPoly, Int.reduceToNat, Int.reducePow, Int.reduceMul, Int.reduceAdd, Int.reduceSub, Int.reduceNeg, Nat.reduceAdd, Nat.reduceMul, Nat.reducePow, Int.reduceLT, Int.reduceLE, Int.reduceEq, Nat.reduceEqDiff, e2, e3, e6, e7, gp, ge, R1.idx, ld, gV_u]
    exact ⟨_, ⟨k + 1, by rw [asx]; simp, by simp, by omega, rfl⟩, by omega⟩
  ·have ek : k = prns.length := by omega
   rw [ek, a0] at e6
   cases b
   ·have g := g1 rfl
    simp -implicitDefEqProofs (disch := first | assumption | decide | omega | (simp only [wpD1] <;> omega) | (simp only [wpD2] <;> assumption) | solve_by_elim [zR, zP, zV] | fail) only [↓wpPre, wpPost, wpPoly, Int.reduceToNat, Int.reducePow, Int.reduceMul, Int.reduceAdd, Int.reduceSub, Int.reduceNeg, Nat.reduceAdd, Nat.reduceMul, Nat.reducePow, Int.reduceLT, Int.reduceLE, Int.reduceEq, Nat.reduceEqDiff, e6]
    exact ⟨g.symm, t1⟩
   ·have g2 := g2 rfl
    have g3 := g3 rfl
    by_cases c2 : ((0 ≤ dl ∧ dl < sz) ∧ (-64 ≤ rt ∧ rt ≤ 64) ∧ (mn ≤ amp ∧ amp ≤ mx) ∧ (0 ≤ ba ∧ ba < pb))
    ·have n0 : ¬ dl < 0 := by omega
     have n1 : ¬ sz ≤ dl := by omega
     have n2 : ¬ rt < -64 := by omega
     have n3 : ¬ 64 < rt := by omega
     have n4 : ¬ amp < mn := by omega
     have n5 : ¬ mx < amp := by omega
     have n6 : ¬ ba < 0 := by omega
     have n7 : ¬ pb ≤ ba := by omega
     have g := g3 c2
     simp -implicitDefEqProofs (disch := first | assumption | decide | omega | (simp only [wpD1] <;> omega) | (simp only [wpD2] <;> assumption) | solve_by_elim [zR, zP, zV] | fail) only [↓wpPre, wpPost, wpPoly, Int.reduceToNat, Int.reducePow, Int.reduceMul, Int.reduceAdd, Int.reduceSub, Int.reduceNeg, Nat.reduceAdd, Nat.reduceMul, Nat.reducePow, Int.reduceLT, Int.reduceLE, Int.reduceEq, Nat.reduceEqDiff, e2, e3, e6, gp, ge, gV_u, n0]
     refine ACallsK.eq (kS _) ?_
     by_cases c3 : 10000 < bits.length
     ·rw [if_pos c3] at g
      simp -implicitDefEqProofs (disch := first | assumption | decide | omega | (simp only [wpD1] <;> omega) | (simp only [wpD2] <;> assumption) | solve_by_elim [zR, zP, zV] | fail) only [↓wpPre, wpPost, wpPoly, Int.reduceToNat, Int.reducePow, Int.reduceMul, Int.reduceAdd, Int.reduceSub, Int.reduceNeg, Nat.reduceAdd, Nat.reduceMul, Nat.reducePow, Int.reduceLT, Int.reduceLE, Int.reduceEq, Nat.reduceEqDiff, e2, e3, e6, gp, ge, gV_u, n1, n2, n3, n4, n5, n6, n7, B1.len, c3]
      exact ⟨g.symm, t1⟩
     ·rw [if_neg c3] at g
      simp -implicitDefEqProofs (disch := first | assumption | decide | omega | (simp only [wpD1] <;> omega) | (simp only [wpD2] <;> assumption) | solve_by_elim [zR, zP, zV] | fail) only [↓wpPre, wpPost, wpPoly, Int.reduceToNat, Int.reducePow, Int.reduceMul, Int.reduceAdd, Int.reduceSub, Int.reduceNeg, Nat.reduceAdd, Nat.reduceMul, Nat.reducePow, Int.reduceLT, Int.reduceLE, Int.reduceEq, Nat.reduceEqDiff, e2, e3, e6, gp, ge, gV_u, n1, n2, n3, n4, n5, n6, n7, B1.len, c3]
      refine wp_loopI (fun j t h' => h' = h1 ∧ ∃ k : Nat, (bits.take k).any (fun b => b != 0 && b != 1) = false ∧ t 3 = .ptr (h.size + 1) 0 ∧ t 8 = .int .i64 (k : Nat) ∧ k ≤ bits.length ∧ j = bits.length - k) (j0 := bits.length)
       ⟨rfl, 0, rfl, e3, rfl, by omega, rfl⟩ ?_
      rintro j t h2 ⟨rfl, k, hb, e3, e8, hk, hj⟩
      simp -implicitDefEqProofs (disch := first | assumption | decide | omega | (simp only [wpD1] <;> omega) | (simp only [wpD2] <;> assumption) | solve_by_elim [zR, zP, zV] | fail) only [↓wpPre, wpPost, wpPoly, Int.reduceToNat, Int.reducePow, Int.reduceMul, Int.reduceAdd, Int.reduceSub, Int.reduceNeg, Nat.reduceAdd, Nat.reduceMul, Nat.reducePow, Int.reduceLT, Int.reduceLE, Int.reduceEq, Nat.reduceEqDiff, e3, e8, ge, B1.len]
      refine Br.by (fun d2 => ?_) (fun d2 => ?_)
      ·have hk' : k < bits.length := by omega
       have ld := B1.load hk'
       have asx := any_succ hk' (fun b => b != 0 && b != 1)
       rw [hb, Bool.false_or] at asx
       have zz : ((bits.take (k + 1)).any fun b => b != 0 && b != 1) = true → z = true := fun q => by
        rw [← z0, List.any_eq_true]
        rw [List.any_eq_true] at q
        obtain ⟨x, hx, q⟩ := q
        exact ⟨x, by rw [List.take_length]; exact List.mem_of_mem_take hx, q⟩
       generalize bits.getD k 0 = x at *
       by_cases d3 : x = 0
       ·have asx : ((bits.take (k + 1)).any fun b => b != 0 && b != 1) = false := by rw [asx, d3]; rfl
        simp -implicitDefEqProofs (disch := first | assumption | decide | omega | (simp only [wpD1] <;> omega) | (simp only [wpD2] <;> assumption) | solve_by_elim [zR, zP, zV] | fail) only [↓wpPre, wpPost, wpPoly, Int.reduceToNat, Int.reducePow, Int.reduceMul, Int.reduceAdd, Int.reduceSub, Int.reduceNeg, Nat.reduceAdd, Nat.reduceMul, Nat.reducePow, Int.reduceLT, Int.reduceLE, Int.reduceEq, Nat.reduceEqDiff, e3, e8, ge, B1.idx, ld, d3, gV_u]
        exact ⟨_, ⟨k + 1, asx, by simp, by omega, rfl⟩, by omega⟩
       ·by_cases d4 : x = 1
        ·have asx : ((bits.take (k + 1)).any fun b => b != 0 && b != 1) = false := by rw [asx, d4]; rfl
         have d5 : ¬ (1 : Int) = 0 := by decide
         simp -implicitDefEqProofs (disch := first | assumption | decide | omega | (simp only [wpD1] <;> omega) | (simp only [wpD2] <;> assumption) | solve_by_elim [zR, zP, zV] | fail) only [↓wpPre, wpPost, wpPoly, Int.reduceToNat, Int.reducePow, Int.reduceMul, Int.reduceAdd, Int.reduceSub, Int.reduceNeg, Nat.reduceAdd, Nat.reduceMul, Nat.reducePow, Int.reduceLT, Int.reduceLE, Int.reduceEq, Nat.reduceEqDiff, e3, e8, ge, B1.idx, ld, d4, d5, gV_u]
         exact ⟨_, ⟨k + 1, asx, by simp, by omega, rfl⟩, by omega⟩
        ·have zt := zz (by rw [asx]; simp [d3, d4])
         rw [if_pos zt] at g
         simp -implicitDefEqProofs (disch := first | assumption | decide | omega | (simp only [wpD1] <;> omega) | (simp only [wpD2] <;> assumption) | solve_by_elim [zR, zP, zV] | fail) only [↓wpPre, wpPost, wpPoly, Int.reduceToNat, Int.reducePow, Int.reduceMul, Int.reduceAdd, Int.reduceSub, Int.reduceNeg, Nat.reduceAdd, Nat.reduceMul, Nat.reducePow, Int.reduceLT, Int.reduceLE, Int.reduceEq, Nat.reduceEqDiff, e3, e8, ge, B1.idx, ld, d3, d4, gV_u]
         exact ⟨g.symm, t1⟩
      ·have ek : k = bits.length := by omega
       rw [ek, z0] at hb
       rw [if_neg (by rw [hb]; decide)] at g
       simp -implicitDefEqProofs (disch := first | assumption | decide | omega | (simp only [wpD1] <;> omega) | (simp only [wpD2] <;> assumption) | solve_by_elim [zR, zP, zV] | fail) only [↓wpPre, wpPost, wpPoly, Int.reduceToNat, Int.reducePow, Int.reduceMul, Int.reduceAdd, Int.reduceSub, Int.reduceNeg, Nat.reduceAdd, Nat.reduceMul, Nat.reducePow, Int.reduceLT, Int.reduceLE, Int.reduceEq, Nat.reduceEqDiff]
       exact ⟨g.symm, t1⟩
    ·have g := g2 c2
     by_cases c3 : dl < 0
     ·simp -implicitDefEqProofs (disch := first | assumption | decide | omega | (simp only [wpD1] <;> omega) | (simp only [wpD2] <;> assumption) | solve_by_elim [zR, zP, zV] | fail) only [↓wpPre, wpPost, wpPoly, Int.reduceToNat, Int.reducePow, Int.reduceMul, Int.reduceAdd, Int.reduceSub, Int.reduceNeg, Nat.reduceAdd, Nat.reduceMul, Nat.reducePow, Int.reduceLT, Int.reduceLE, Int.reduceEq, Nat.reduceEqDiff, e2, e3, e6, gp, ge, gV_u, c3]
      exact ⟨g.symm, t1⟩
     ·simp -implicitDefEqProofs (disch := first | assumption | decide | omega | (simp only [wpD1] <;> omega) | (simp only [wpD2] <;> assumption) | solve_by_elim [zR, zP, zV] | fail) only [↓wpPre, wpPost, wpPoly, Int.reduceToNat, Int.reducePow, Int.reduceMul, Int.reduceAdd, Int.reduceSub, Int.reduceNeg, Nat.reduceAdd, Nat.reduceMul, Nat.reducePow, Int.reduceLT, Int.reduceLE, Int.reduceEq, Nat.reduceEqDiff, e2, e3, e6, gp, ge, gV_u, c3]
      refine ACallsK.eq (kS _) ?_
      (repeat' (first | (refine Br.by (fun _ => ?_) (fun _ => ?_)) | (simp -implicitDefEqProofs (disch := first | assumption | decide | omega | (simp only [wpD1] <;> omega) | (simp only [wpD2] <;> assumption) | solve_by_elim [zR, zP, zV] | fail) only [↓wpPre, wpPost, wpPoly, Int.reduceToNat, Int.reducePow, Int.reduceMul, Int.reduceAdd, Int.reduceSub, Int.reduceNeg, Nat.reduceAdd, Nat.reduceMul, Nat.reducePow, Int.reduceLT, Int.reduceLE, Int.reduceEq, Nat.reduceEqDiff, e2, e3, e6, gp, ge, gV_u])))
      all_goals first
       | exact ⟨g.symm, t1⟩
       | (exfalso; omega)
 ·rw [if_neg c] at hE
  subst hE
  generalize p.err = E at *
  obtain ⟨d, o, pb, wo, mn, mx, nz, prns⟩ := p
  obtain ⟨prn, dl, rt, st, ph, amp, ba, bits⟩ := e
  dsimp only at *
  (refine calls_intro (hC.body (by decide) tab224) (Nat.le_of_ble_eq_true rfl) ?_); (show wp C _ none B224.code _ _); (simp only [B224]); simp -implicitDefEqProofs (disch := first | assumption | decide | omega | (simp only [wpD1] <;> omega) | (simp only [wpD2] <;> assumption) | solve_by_elim [zR, zP, zV] | fail) only [↓wpPre, wpPost, wpPoly, Int.reduceToNat, Int.reducePow, Int.reduceMul, Int.reduceAdd, Int.reduceSub, Int.reduceNeg, Nat.reduceAdd, Nat.reduceMul, Nat.reducePow, Int.reduceLT, Int.reduceLE, Int.reduceEq, Nat.reduceEqDiff]
  refine ACallsK.eq (kc _ ((HSub.push1 _ _).push _)) ?_
  simp -implicitDefEqProofs (disch := first | assumption | decide | omega | (simp only [wpD1] <;> omega) | (simp only [wpD2] <;> assumption) | solve_by_elim [zR, zP, zV] | fail) only [↓wpPre, wpPost, wpPoly, Int.reduceToNat, Int.reducePow, Int.reduceMul, Int.reduceAdd, Int.reduceSub, Int.reduceNeg, Nat.reduceAdd, Nat.reduceMul, Nat.reducePow, Int.reduceLT, Int.reduceLE, Int.reduceEq, Nat.reduceEqDiff, c]
  exact ((HSub.push1 _ _).push _)
end
end Go.Ae
/- Absolute values, sums and bounds of lists. -/
set_option linter.unusedSimpArgs false
set_option linter.unusedVariables false
namespace Go.Ae
def absI (x : Int) : Int := max x (-x)
theorem absI_nonneg (x : Int) : 0 ≤ absI x := by unfold absI; omega
theorem absI_mul (x y : Int) : absI (x * y) = absI x * absI y := by
 unfold absI
 rcases Int.le_total 0 x with hx | hx <;> rcases Int.le_total 0 y with hy | hy
 ·have := Int.mul_nonneg hx hy
  rw [Int.max_eq_left (by omega), Int.max_eq_left (by omega), Int.max_eq_left (by omega)]
 ·have := Int.mul_nonpos_of_nonneg_of_nonpos hx hy
  rw [Int.max_eq_right (by omega), Int.max_eq_left (by omega), Int.max_eq_right (by omega), Int.mul_neg]
 ·have := Int.mul_nonpos_of_nonpos_of_nonneg hx hy
  rw [Int.max_eq_right (by omega), Int.max_eq_right (by omega), Int.max_eq_left (by omega), Int.neg_mul]
 ·have := Int.mul_nonneg_of_nonpos_of_nonpos hx hy
  rw [Int.max_eq_left (by omega), Int.max_eq_right (by omega), Int.max_eq_right (by omega), Int.neg_mul_neg]
end Go.Ae
/- Periods and bits, in plain numbers. -/
set_option linter.unusedSimpArgs false
set_option linter.unusedVariables false
namespace Go.Ae
theorem mul_bd {k s K S : Int} (hk : -K ≤ k ∧ k ≤ K) (hs : -S ≤ s ∧ s ≤ S) : -(K * S) ≤ k * s ∧ k * s ≤ K * S := by
 have h1 : absI (k * s) ≤ K * S := by
  rw [absI_mul]
  exact Int.mul_le_mul (by unfold absI; omega) (by unfold absI; omega) (absI_nonneg _) (by omega)
 unfold absI at h1
 omega
theorem tdiv_floor {k b : Int} (hb : 0 < b) : (if k.tmod b < 0 then k.tdiv b - 1 else k.tdiv b) = k / b := by
 rcases Int.le_total 0 k with c | c
 ·rw [if_neg (by have := Int.tmod_nonneg b c; omega), Int.tdiv_eq_ediv_of_nonneg c]
 ·obtain ⟨m, rfl⟩ : ∃ m, k = -m := ⟨-k, by omega⟩
  have hm : 0 ≤ m := by omega
  rw [Int.neg_tmod, Int.neg_tdiv, Int.tmod_eq_emod_of_nonneg hm, Int.tdiv_eq_ediv_of_nonneg hm]
  have h := Int.emod_add_mul_ediv m b
  have h1 := Int.emod_nonneg m (show b ≠ 0 by omega)
  have h2 := Int.emod_lt_of_pos m hb
  split
  ·symm
   rw [Int.ediv_eq_iff_of_pos hb]
   have e : (-(m / b) - 1) * b = -(b * (m / b)) - b := by grind
   have e2 : (-(m / b) - 1 + 1) * b = -(b * (m / b)) := by grind
   omega
  ·symm
   rw [Int.ediv_eq_iff_of_pos hb]
   have e : -(m / b) * b = -(b * (m / b)) := by grind
   have e2 : (-(m / b) + 1) * b = -(b * (m / b)) + b := by grind
   omega
theorem ref_mod {j n : Int} : j - n * (j / n) = j % n := by
 have := Int.emod_add_mul_ediv j n
 omega
theorem prns_ok (n : Int) : ∀ (xs seen : List Int), prnsErr n seen xs = 0 → ∀ x ∈ xs, 1 ≤ x ∧ x ≤ n + 2
 | [], _, _, x, hx => by simp at hx
 | y :: xs, seen, h, x, hx => by
  rw [prnsErr] at h
  split at h
  ·omega
  ·rename_i c
   split at h
   ·omega
   ·rcases List.mem_cons.1 hx with q | q
    ·rw [q]; exact Classical.not_not.1 c
    ·exact prns_ok n xs _ h x q
structure EmOk (p : PlanP) (e : EmitP) : Prop where
 pn : p.numsOk
 en : e.numsOk p
 code : codeErr p.d e.prn = 0
 bits : ∀ x ∈ e.bits, x = 0 ∨ x = 1
 prn : 1 ≤ e.prn ∧ e.prn ≤ lenN p.d + 2
 len : e.bits.length ≤ 10000
theorem emit_ok {p : PlanP} {e : EmitP} (h : emitErr p e = 0) : EmOk p e := by
 unfold emitErr at h
 by_cases c : p.err = 0
 ·rw [if_pos c] at h
  by_cases c2 : (p.prns.any fun y => e.prn == y) = true
  ·rw [if_pos c2] at h
   by_cases c3 : e.numsOk p
   ·rw [if_pos c3] at h
    by_cases c4 : 10000 < e.bits.length
    ·rw [if_pos c4] at h; omega
    ·rw [if_neg c4] at h
     by_cases c5 : e.bits.any (fun b => b != 0 && b != 1) = true
     ·rw [if_pos c5] at h; omega
     ·have pn := plan_ok c
      have pz : prnsErr (lenN p.d) [] p.prns = 0 := by
       unfold PlanP.err at c
       rw [if_pos pn] at c
       split at c
       ·omega
       ·split at c
        ·omega
        ·exact c
      have pr : 1 ≤ e.prn ∧ e.prn ≤ lenN p.d + 2 := by
       rw [List.any_eq_true] at c2
       obtain ⟨x, hx, q⟩ := c2
       rw [beq_iff_eq] at q
       rw [q]
       exact prns_ok _ _ _ pz x hx
      refine ⟨pn, c3, ?_, ?_, pr, by omega⟩
      ·unfold codeErr
       rw [if_pos ⟨pn.1, pr.1, pr.2⟩]
      ·intro x hx
       have c5 := Bool.eq_false_iff.2 c5
       rw [List.any_eq_false] at c5
       have := c5 x hx
       simp only [Bool.and_eq_true, bne_iff_ne, ne_eq, not_and, Classical.not_not] at this
       by_cases z : x = 0
       ·exact .inl z
       ·exact .inr (this z)
   ·rw [if_neg c3] at h; omega
  ·rw [if_neg c2] at h; omega
 ·rw [if_neg c] at h; omega
def EmitP.sta (e : EmitP) (p : PlanP) (k : Int) : Int := stI e.dl p.size e.rt k
def EmitP.pl (e : EmitP) (p : PlanP) (n : Int) : Int := plI e.dl p.size e.rt n
theorem EmOk.den {p : PlanP} {e : EmitP} (h : EmOk p e) : 0 < 1024 * p.size + e.rt := by
 have := size_range h.pn
 have := h.en.2.1
 omega
theorem EmOk.bit {p : PlanP} {e : EmitP} (h : EmOk p e) (k : Int) : bitI p e k = 0 ∨ bitI p e k = 1 := by
 unfold bitI
 split
 ·simp
 ·rename_i c
  have := Int.emod_lt_of_pos ((k - e.ba) / p.pb) (show (0 : Int) < e.bits.length by omega)
  have := Int.emod_nonneg ((k - e.ba) / p.pb) (show (e.bits.length : Int) ≠ 0 by omega)
  exact h.bits _ (getD_mem (by omega))
theorem EmOk.stb {p : PlanP} {e : EmitP} (h : EmOk p e) {k : Int} (hk : -20000000 ≤ k ∧ k ≤ 20000000) : -200000000000 ≤ e.sta p k ∧ e.sta p k ≤ 200000000000 ∧ (-163680000000 ≤ k * p.size ∧ k * p.size ≤ 163680000000) ∧ (-1280000000 ≤ k * e.rt ∧ k * e.rt ≤ 1280000000) := by
 have s := size_range h.pn
 have r := h.en.2.1
 have d := h.en.1
 have a := mul_bd (S := 8184) hk (show -8184 ≤ p.size ∧ p.size ≤ 8184 by omega)
 have b := mul_bd (S := 64) hk r
 unfold EmitP.sta stI
 omega
theorem EmOk.plb {p : PlanP} {e : EmitP} (h : EmOk p e) {n : Int} (hn : -10100000 ≤ n ∧ n ≤ 10100000) : -11000000 ≤ e.pl p n ∧ e.pl p n ≤ 11000000 := by
 have s := size_range h.pn
 have r := h.en.2.1
 have d := h.en.1
 unfold EmitP.pl plI
 generalize hD : 1024 * p.size + e.rt = D
 have hD2 : 1024 ≤ D := by omega
 generalize hM : 1024 * (n - e.dl + 1) - 1 = M
 have hM2 : -(1024 * 11000000) ≤ M ∧ M ≤ 1024 * 11000000 := by omega
 constructor
 ·rw [Int.le_ediv_iff_mul_le (by omega)]
  omega
 ·rw [← Int.lt_add_one_iff, Int.ediv_lt_iff_lt_mul (by omega)]
  omega
def chipI (p : PlanP) (e : EmitP) (i : Int) : Int := (codeL p.d e.prn).getD (min (i / p.o) ((lenN p.d : Int) - 1)).toNat 0
def atV (p : PlanP) (e : EmitP) (n : Int) : Int × Int :=
 ((e.amp * chipI p e (n - e.sta p (e.pl p n)) * (1 - 2 * bitI p e (e.pl p n))) * (carP (phI e.ph e.st (e.pl p n))).1, (e.amp * chipI p e (n - e.sta p (e.pl p n)) * (1 - 2 * bitI p e (e.pl p n))) * (carP (phI e.ph e.st (e.pl p n))).2)
end Go.Ae
/- Periods and bits: the program and the reference. -/
set_option linter.unusedSimpArgs false
set_option linter.unusedVariables false
namespace Go.Ae
def emA (e : EmitP) (vb : AV) : AV := .agg [.int .i64 e.prn, .int .i64 e.dl, .int .i64 e.rt, .int .u32 e.st, .int .u32 e.ph, .int .i64 e.amp, .int .i64 e.ba, vb]
section
variable {C : Ctx}
theorem floor258_spec (hC : Has C T258) {a b : Int} {h : Heap} (ha : In64 a) (hb : 0 < b ∧ b ≤ 1000000) : ACalls C 258 [.int .i64 a, .int .i64 b] h (fun r h' => r = .int .i64 (a / b) ∧ h' = h) := by
 have e := tdiv_floor (k := a) hb.1
 unfold In64 at ha
 have q1 : a.tdiv b = if a.tmod b < 0 then a / b + 1 else a / b := by split at e <;> rename_i c <;> simp only [c, if_true, if_false] <;> omega
 have r1 : -9223372036854775808 ≤ a / b ∧ a / b ≤ 9223372036854775807 := by
  constructor
  ·rw [Int.le_ediv_iff_mul_le hb.1]
   have : (1 : Int) ≤ b := hb.1
   omega
  ·rw [← Int.lt_add_one_iff, Int.ediv_lt_iff_lt_mul hb.1]
   have : (1 : Int) ≤ b := hb.1
   omega
 by_cases c : a.tmod b < 0
 ·rw [if_pos c] at q1
  have r2 : a / b + 1 ≤ 9223372036854775807 := by
   have c0 : ¬ 0 ≤ a := fun q => by have := Int.tmod_nonneg b q; omega
   have := Int.ediv_neg_of_neg_of_pos (show a < 0 by omega) hb.1
   omega
  (refine calls_intro (hC.body (by decide) tab258) (Nat.le_of_ble_eq_true rfl) ?_); (show wp C _ none B258.code _ _); (simp only [B258]); simp -implicitDefEqProofs (disch := first | assumption | decide | omega | (simp only [wpD1] <;> omega) | (simp only [wpD2] <;> assumption) | solve_by_elim [zR, zP, zV] | fail) only [↓wpPre, wpPost, wpPoly, Int.reduceToNat, Int.reducePow, Int.reduceMul, Int.reduceAdd, Int.reduceSub, Int.reduceNeg, Nat.reduceAdd, Nat.reduceMul, Nat.reducePow, Int.reduceLT, Int.reduceLE, Int.reduceEq, Nat.reduceEqDiff, c, q1]
  omega
 ·rw [if_neg c] at q1
  (refine calls_intro (hC.body (by decide) tab258) (Nat.le_of_ble_eq_true rfl) ?_); (show wp C _ none B258.code _ _); (simp only [B258]); simp -implicitDefEqProofs (disch := first | assumption | decide | omega | (simp only [wpD1] <;> omega) | (simp only [wpD2] <;> assumption) | solve_by_elim [zR, zP, zV] | fail) only [↓wpPre, wpPost, wpPoly, Int.reduceToNat, Int.reducePow, Int.reduceMul, Int.reduceAdd, Int.reduceSub, Int.reduceNeg, Nat.reduceAdd, Nat.reduceMul, Nat.reducePow, Int.reduceLT, Int.reduceLE, Int.reduceEq, Nat.reduceEqDiff, c, q1]
set_option maxRecDepth 20000 in
theorem start241_spec (hC : Has C T241) {p : PlanP} {e : EmitP} {vp vb : AV} {k : Int} {h : Heap} (ok : EmOk p e) (v1 : vp.one = true) (b1 : vb.one = true) (hk : -20000000 ≤ k ∧ k ≤ 20000000) :
  ACalls C 241 [plA p vp, emA e vb, .int .i64 k] h (fun r h' => r = .int .i64 (e.sta p k) ∧ h' = h) := by
 refine ACalls.gc0 (P := fun r h' => r = .int .i64 (e.sta p k) ∧ HSub h h') ?_ (fun r h' hp => ⟨by rw [hp.1]; trivial, hp.2, hp.1, rfl⟩)
 have sz := fun h => size244_spec (hC.sub (T' := T244) (by decide)) (vp := vp) (h := h) ok.pn v1
 have sb := ok.stb hk
 have d := ok.en.1
 have s := size_range ok.pn
 have fl := fun h => floor258_spec (hC.sub (T' := T258) (by decide)) (a := k * e.rt) (b := 1024) (h := h) (by unfold In64; omega) (by omega)
 unfold EmitP.sta stI at sb ⊢
 unfold plA at sz ⊢
 unfold emA
 generalize p.size = z at *
 obtain ⟨pd, o, pb, w, mn, mx, nz, prns⟩ := p
 obtain ⟨prn, dl, rt, st, ph, amp, ba, bits⟩ := e
 dsimp only at *
 (refine calls_intro (hC.body (by decide) tab241) (Nat.le_of_ble_eq_true rfl) ?_); (show wp C _ none B241.code _ _); (simp only [B241]); simp -implicitDefEqProofs (disch := first | assumption | decide | omega | (simp only [wpD1] <;> omega) | (simp only [wpD2] <;> assumption) | solve_by_elim [zR, zP, zV] | fail) only [↓wpPre, wpPost, wpPoly, Int.reduceToNat, Int.reducePow, Int.reduceMul, Int.reduceAdd, Int.reduceSub, Int.reduceNeg, Nat.reduceAdd, Nat.reduceMul, Nat.reducePow, Int.reduceLT, Int.reduceLE, Int.reduceEq, Nat.reduceEqDiff]
 refine ACallsK.eq (sz _) ?_
 simp -implicitDefEqProofs (disch := first | assumption | decide | omega | (simp only [wpD1] <;> omega) | (simp only [wpD2] <;> assumption) | solve_by_elim [zR, zP, zV] | fail) only [↓wpPre, wpPost, wpPoly, Int.reduceToNat, Int.reducePow, Int.reduceMul, Int.reduceAdd, Int.reduceSub, Int.reduceNeg, Nat.reduceAdd, Nat.reduceMul, Nat.reducePow, Int.reduceLT, Int.reduceLE, Int.reduceEq, Nat.reduceEqDiff]
 refine ACallsK.eq (fl _) ?_
 simp -implicitDefEqProofs (disch := first | assumption | decide | omega | (simp only [wpD1] <;> omega) | (simp only [wpD2] <;> assumption) | solve_by_elim [zR, zP, zV] | fail) only [↓wpPre, wpPost, wpPoly, Int.reduceToNat, Int.reducePow, Int.reduceMul, Int.reduceAdd, Int.reduceSub, Int.reduceNeg, Nat.reduceAdd, Nat.reduceMul, Nat.reducePow, Int.reduceLT, Int.reduceLE, Int.reduceEq, Nat.reduceEqDiff]
 exact (HSub.push1 _ _).push _
theorem st_gt {p : PlanP} {e : EmitP} (ok : EmOk p e) {n k : Int} : e.sta p k ≤ n ↔ k ≤ e.pl p n := st_le ok.den
set_option maxHeartbeats 1000000 in
set_option maxRecDepth 20000 in
theorem place246_spec (hC : Has C T246) {p : PlanP} {e : EmitP} {vp vb : AV} {n : Int} {h : Heap} (ok : EmOk p e) (v1 : vp.one = true) (b1 : vb.one = true) (hn : -10100000 ≤ n ∧ n ≤ 10100000) :
  ACalls C 246 [plA p vp, emA e vb, .int .i64 n] h (fun r h' => r = .int .i64 (e.pl p n) ∧ h' = h) := by
 refine ACalls.gc0 (P := fun r h' => r = .int .i64 (e.pl p n) ∧ HSub h h') ?_ (fun r h' hp => ⟨by rw [hp.1]; trivial, hp.2, hp.1, rfl⟩)
 have sz := fun h => size244_spec (hC.sub (T' := T244) (by decide)) (vp := vp) (h := h) ok.pn v1
 have ks := fun (k : Int) (hk : -20000000 ≤ k ∧ k ≤ 20000000) h => start241_spec (hC.sub (T' := T241) (by decide)) (k := k) (h := h) ok v1 b1 hk
 have gt := fun (k : Int) => st_gt ok (n := n) (k := k)
 have pb := ok.plb hn
 have d := ok.en.1
 have s := size_range ok.pn
 have fl := fun h => floor258_spec (hC.sub (T' := T258) (by decide)) (a := n - e.dl) (b := p.size) (h := h) (by unfold In64; omega) (by omega)
 have td : -11000000 ≤ (n - e.dl) / p.size ∧ (n - e.dl) / p.size ≤ 11000000 := by
  constructor
  ·rw [Int.le_ediv_iff_mul_le (by omega)]
   omega
  ·rw [← Int.lt_add_one_iff, Int.ediv_lt_iff_lt_mul (by omega)]
   omega
 unfold plA at sz ks ⊢
 unfold emA at ks ⊢
 generalize e.pl p n = K at *
 generalize hSt : e.sta p = St at *
 generalize p.size = z at *
 obtain ⟨pd, o, pb, w, mn, mx, nz, prns⟩ := p
 obtain ⟨prn, dl, rt, st, ph, amp, ba, bits⟩ := e
 dsimp only at *
 (refine calls_intro (hC.body (by decide) tab246) (Nat.le_of_ble_eq_true rfl) ?_); (show wp C _ none B246.code _ _); (simp only [B246]); simp -implicitDefEqProofs (disch := first | assumption | decide | omega | (simp only [wpD1] <;> omega) | (simp only [wpD2] <;> assumption) | solve_by_elim [zR, zP, zV] | fail) only [↓wpPre, wpPost, wpPoly, Int.reduceToNat, Int.reducePow, Int.reduceMul, Int.reduceAdd, Int.reduceSub, Int.reduceNeg, Nat.reduceAdd, Nat.reduceMul, Nat.reducePow, Int.reduceLT, Int.reduceLE, Int.reduceEq, Nat.reduceEqDiff]
 refine ACallsK.eq (sz _) ?_
 simp -implicitDefEqProofs (disch := first | assumption | decide | omega | (simp only [wpD1] <;> omega) | (simp only [wpD2] <;> assumption) | solve_by_elim [zR, zP, zV] | fail) only [↓wpPre, wpPost, wpPoly, Int.reduceToNat, Int.reducePow, Int.reduceMul, Int.reduceAdd, Int.reduceSub, Int.reduceNeg, Nat.reduceAdd, Nat.reduceMul, Nat.reducePow, Int.reduceLT, Int.reduceLE, Int.reduceEq, Nat.reduceEqDiff]
 refine ACallsK.eq (fl _) ?_
 simp -implicitDefEqProofs (disch := first | assumption | decide | omega | (simp only [wpD1] <;> omega) | (simp only [wpD2] <;> assumption) | solve_by_elim [zR, zP, zV] | fail) only [↓wpPre, wpPost, wpPoly, Int.reduceToNat, Int.reducePow, Int.reduceMul, Int.reduceAdd, Int.reduceSub, Int.reduceNeg, Nat.reduceAdd, Nat.reduceMul, Nat.reducePow, Int.reduceLT, Int.reduceLE, Int.reduceEq, Nat.reduceEqDiff]
 refine wp_loopI (fun j t h' => h' = (h.push (.cells [.int .i64 pd, .int .i64 o, .int .i64 pb, .int .i64 w, .int .i64 mn, .int .i64 mx, .int .i64 nz, vp] true 0)).push (.cells [.int .i64 prn, .int .i64 dl, .int .i64 rt, .int .u32 st, .int .u32 ph, .int .i64 amp, .int .i64 ba, vb] true 0) ∧ ∃ k : Int, t 2 = .int .i64 n ∧ t 3 = .ptr h.size 0 ∧ t 4 = .ptr (h.size + 1) 0 ∧ t 7 = .int .i64 k ∧ -11000000 ≤ k ∧ k ≤ 11000002 ∧ j = (k - K).toNat) (j0 := ((n - dl) / z - K).toNat)
  ⟨rfl, _, rfl, rfl, rfl, rfl, by omega, by omega, rfl⟩ ?_
 rintro j t h1 ⟨hh, k, e2, e3, e4, ek, k1, k2, hj⟩
 have gp : h1.get h.size = some (.cells [.int .i64 pd, .int .i64 o, .int .i64 pb, .int .i64 w, .int .i64 mn, .int .i64 mx, .int .i64 nz, vp] true 0) := by rw [hh]; simp -implicitDefEqProofs (disch := first | assumption | decide | omega | (simp only [wpD1] <;> omega) | (simp only [wpD2] <;> assumption) | solve_by_elim [zR, zP, zV] | fail) only [↓wpPre, wpPost, wpPoly, Int.reduceToNat, Int.reducePow, Int.reduceMul, Int.reduceAdd, Int.reduceSub, Int.reduceNeg, Nat.reduceAdd, Nat.reduceMul, Nat.reducePow, Int.reduceLT, Int.reduceLE, Int.reduceEq, Nat.reduceEqDiff]
 have ge : h1.get (h.size + 1) = some (.cells [.int .i64 prn, .int .i64 dl, .int .i64 rt, .int .u32 st, .int .u32 ph, .int .i64 amp, .int .i64 ba, vb] true 0) := by rw [hh]; simp -implicitDefEqProofs (disch := first | assumption | decide | omega | (simp only [wpD1] <;> omega) | (simp only [wpD2] <;> assumption) | solve_by_elim [zR, zP, zV] | fail) only [↓wpPre, wpPost, wpPoly, Int.reduceToNat, Int.reducePow, Int.reduceMul, Int.reduceAdd, Int.reduceSub, Int.reduceNeg, Nat.reduceAdd, Nat.reduceMul, Nat.reducePow, Int.reduceLT, Int.reduceLE, Int.reduceEq, Nat.reduceEqDiff]
 have s1 : HSub h h1 := by rw [hh]; exact (HSub.push1 _ _).push _
 have g := gt k
 simp -implicitDefEqProofs (disch := first | assumption | decide | omega | (simp only [wpD1] <;> omega) | (simp only [wpD2] <;> assumption) | solve_by_elim [zR, zP, zV] | fail) only [↓wpPre, wpPost, wpPoly, Int.reduceToNat, Int.reducePow, Int.reduceMul, Int.reduceAdd, Int.reduceSub, Int.reduceNeg, Nat.reduceAdd, Nat.reduceMul, Nat.reducePow, Int.reduceLT, Int.reduceLE, Int.reduceEq, Nat.reduceEqDiff, e2, e3, e4, ek, gp, ge]
 refine ACallsK.eq (ks k (by omega) _) ?_
 simp -implicitDefEqProofs (disch := first | assumption | decide | omega | (simp only [wpD1] <;> omega) | (simp only [wpD2] <;> assumption) | solve_by_elim [zR, zP, zV] | fail) only [↓wpPre, wpPost, wpPoly, Int.reduceToNat, Int.reducePow, Int.reduceMul, Int.reduceAdd, Int.reduceSub, Int.reduceNeg, Nat.reduceAdd, Nat.reduceMul, Nat.reducePow, Int.reduceLT, Int.reduceLE, Int.reduceEq, Nat.reduceEqDiff, e2, e3, e4]
 refine Br.by (fun c => ?_) (fun c => ?_)
 ·have kK : K < k := by
   rcases Int.lt_or_le K k with q | q
   ·exact q
   ·have := g.2 q; omega
  simp -implicitDefEqProofs (disch := first | assumption | decide | omega | (simp only [wpD1] <;> omega) | (simp only [wpD2] <;> assumption) | solve_by_elim [zR, zP, zV] | fail) only [↓wpPre, wpPost, wpPoly, Int.reduceToNat, Int.reducePow, Int.reduceMul, Int.reduceAdd, Int.reduceSub, Int.reduceNeg, Nat.reduceAdd, Nat.reduceMul, Nat.reducePow, Int.reduceLT, Int.reduceLE, Int.reduceEq, Nat.reduceEqDiff, e2, e3, e4, ek, hh]
  exact ⟨_, ⟨by omega, by omega, rfl⟩, by omega⟩
 ·have kK : k ≤ K := g.1 (by omega)
  simp -implicitDefEqProofs (disch := first | assumption | decide | omega | (simp only [wpD1] <;> omega) | (simp only [wpD2] <;> assumption) | solve_by_elim [zR, zP, zV] | fail) only [↓wpPre, wpPost, wpPoly, Int.reduceToNat, Int.reducePow, Int.reduceMul, Int.reduceAdd, Int.reduceSub, Int.reduceNeg, Nat.reduceAdd, Nat.reduceMul, Nat.reducePow, Int.reduceLT, Int.reduceLE, Int.reduceEq, Nat.reduceEqDiff]
  refine wp_loopI (fun j t h' => h' = h1 ∧ ∃ k : Int, t 2 = .int .i64 n ∧ t 3 = .ptr h.size 0 ∧ t 4 = .ptr (h.size + 1) 0 ∧ t 7 = .int .i64 k ∧ -11000000 ≤ k ∧ k ≤ K ∧ j = (K - k).toNat) (j0 := (K - k).toNat)
   ⟨rfl, k, e2, e3, e4, ek, k1, kK, rfl⟩ ?_
  rintro j t h2 ⟨rfl, k, e2, e3, e4, ek, k3, k4, hj⟩
  have g := gt (k + 1)
  simp -implicitDefEqProofs (disch := first | assumption | decide | omega | (simp only [wpD1] <;> omega) | (simp only [wpD2] <;> assumption) | solve_by_elim [zR, zP, zV] | fail) only [↓wpPre, wpPost, wpPoly, Int.reduceToNat, Int.reducePow, Int.reduceMul, Int.reduceAdd, Int.reduceSub, Int.reduceNeg, Nat.reduceAdd, Nat.reduceMul, Nat.reducePow, Int.reduceLT, Int.reduceLE, Int.reduceEq, Nat.reduceEqDiff, e2, e3, e4, ek, gp, ge]
  refine ACallsK.eq (ks (k + 1) (by omega) _) ?_
  simp -implicitDefEqProofs (disch := first | assumption | decide | omega | (simp only [wpD1] <;> omega) | (simp only [wpD2] <;> assumption) | solve_by_elim [zR, zP, zV] | fail) only [↓wpPre, wpPost, wpPoly, Int.reduceToNat, Int.reducePow, Int.reduceMul, Int.reduceAdd, Int.reduceSub, Int.reduceNeg, Nat.reduceAdd, Nat.reduceMul, Nat.reducePow, Int.reduceLT, Int.reduceLE, Int.reduceEq, Nat.reduceEqDiff, e2, e3, e4]
  refine Br.by (fun c => ?_) (fun c => ?_)
  ·have kK : k + 1 ≤ K := g.1 c
   simp -implicitDefEqProofs (disch := first | assumption | decide | omega | (simp only [wpD1] <;> omega) | (simp only [wpD2] <;> assumption) | solve_by_elim [zR, zP, zV] | fail) only [↓wpPre, wpPost, wpPoly, Int.reduceToNat, Int.reducePow, Int.reduceMul, Int.reduceAdd, Int.reduceSub, Int.reduceNeg, Nat.reduceAdd, Nat.reduceMul, Nat.reducePow, Int.reduceLT, Int.reduceLE, Int.reduceEq, Nat.reduceEqDiff, e2, e3, e4, ek]
   exact ⟨_, ⟨by omega, by omega, rfl⟩, by omega⟩
  ·have kK : k = K := by
    rcases Int.lt_or_le k K with q | q
    ·have := g.2 (by omega); omega
    ·omega
   simp -implicitDefEqProofs (disch := first | assumption | decide | omega | (simp only [wpD1] <;> omega) | (simp only [wpD2] <;> assumption) | solve_by_elim [zR, zP, zV] | fail) only [↓wpPre, wpPost, wpPoly, Int.reduceToNat, Int.reducePow, Int.reduceMul, Int.reduceAdd, Int.reduceSub, Int.reduceNeg, Nat.reduceAdd, Nat.reduceMul, Nat.reducePow, Int.reduceLT, Int.reduceLE, Int.reduceEq, Nat.reduceEqDiff, ek, kK]
   exact s1
end
end Go.Ae
/- The carrier's functions, waves, mixes. -/
set_option linter.unusedSimpArgs false
set_option linter.unusedVariables false
namespace Go.Ae
section
variable {C : Ctx}
theorem entry_runs : (List.range 64).all (fun k => runsAs (tabIn T146) 1000 60 146 [.int .i64 (k : Nat)] (smp (carr k))) = true := by kernel_rfl
theorem entryR_runs : (List.range 64).all (fun k => runsAs (tabIn T141) 1000 60 141 [.int .i64 (k : Nat)] (smp (carr k))) = true := by kernel_rfl
theorem entry_spec (hC : Has C T146) {k : Nat} {h : Heap} (hk : k < 64) : ACalls C 146 [.int .i64 (k : Nat)] h (fun r h' => r = smp (carr k) ∧ h' = h) :=
 runsAs_sound (tabIn_ok hC) (by simp [AV.free, AV.bel]) (smp_free _) (List.all_eq_true.1 entry_runs k (by simpa using hk)) h
theorem entryR_spec (hC : Has C T141) {k : Nat} {h : Heap} (hk : k < 64) : ACalls C 141 [.int .i64 (k : Nat)] h (fun r h' => r = smp (carr k) ∧ h' = h) :=
 runsAs_sound (tabIn_ok hC) (by simp [AV.free, AV.bel]) (smp_free _) (List.all_eq_true.1 entryR_runs k (by simpa using hk)) h
theorem Carrier_spec (hC : Has C T135) {ph : Int} {h : Heap} (hp : U32 ph) : ACalls C 135 [.int .u32 ph] h (fun r h' => r = smp (carP ph) ∧ h' = h) := by
 refine ACalls.gc0 (P := fun r h' => r = smp (carP ph) ∧ HSub h h') ?_ (fun r h' hp => ⟨by rw [hp.1]; exact smp_free _, hp.2, hp.1, rfl⟩)
 unfold U32 at hp
 unfold carP
 obtain ⟨k, hk⟩ := Int.eq_ofNat_of_zero_le (show 0 ≤ ph / 67108864 by omega)
 rw [hk, Int.toNat_natCast]
 have hk' : k < 64 := by omega
 (refine calls_intro (hC.body (by decide) tab135) (Nat.le_of_ble_eq_true rfl) ?_); (show wp C _ none B135.code _ _); (simp only [B135]); simp -implicitDefEqProofs (disch := first | assumption | decide | omega | (simp only [wpD1] <;> omega) | (simp only [wpD2] <;> assumption) | solve_by_elim [zR, zP, zV] | fail) only [↓wpPre, wpPost, wpPoly, Int.reduceToNat, Int.reducePow, Int.reduceMul, Int.reduceAdd, Int.reduceSub, Int.reduceNeg, Nat.reduceAdd, Nat.reduceMul, Nat.reducePow, Int.reduceLT, Int.reduceLE, Int.reduceEq, Nat.reduceEqDiff, hk]
 refine ACallsK.eq (entry_spec (hC.sub (T' := T146) (by decide)) hk') ?_
 simp -implicitDefEqProofs (disch := first | assumption | decide | omega | (simp only [wpD1] <;> omega) | (simp only [wpD2] <;> assumption) | solve_by_elim [zR, zP, zV] | fail) only [↓wpPre, wpPost, wpPoly, Int.reduceToNat, Int.reducePow, Int.reduceMul, Int.reduceAdd, Int.reduceSub, Int.reduceNeg, Nat.reduceAdd, Nat.reduceMul, Nat.reducePow, Int.reduceLT, Int.reduceLE, Int.reduceEq, Nat.reduceEqDiff, smp]
 exact HSub.push1 _ _
theorem CarrierR_spec (hC : Has C T130) {ph : Int} {h : Heap} (hp : U32 ph) : ACalls C 130 [.int .u32 ph] h (fun r h' => r = smp (carP ph) ∧ h' = h) := by
 refine ACalls.gc0 (P := fun r h' => r = smp (carP ph) ∧ HSub h h') ?_ (fun r h' hp => ⟨by rw [hp.1]; exact smp_free _, hp.2, hp.1, rfl⟩)
 unfold U32 at hp
 unfold carP
 obtain ⟨k, hk⟩ := Int.eq_ofNat_of_zero_le (show 0 ≤ ph / 67108864 by omega)
 rw [hk, Int.toNat_natCast]
 have hk' : k < 64 := by omega
 (refine calls_intro (hC.body (by decide) tab130) (Nat.le_of_ble_eq_true rfl) ?_); (show wp C _ none B130.code _ _); (simp only [B130]); simp -implicitDefEqProofs (disch := first | assumption | decide | omega | (simp only [wpD1] <;> omega) | (simp only [wpD2] <;> assumption) | solve_by_elim [zR, zP, zV] | fail) only [↓wpPre, wpPost, wpPoly, Int.reduceToNat, Int.reducePow, Int.reduceMul, Int.reduceAdd, Int.reduceSub, Int.reduceNeg, Nat.reduceAdd, Nat.reduceMul, Nat.reducePow, Int.reduceLT, Int.reduceLE, Int.reduceEq, Nat.reduceEqDiff, hk]
 refine ACallsK.eq (entryR_spec (hC.sub (T' := T141) (by decide)) hk') ?_
 simp -implicitDefEqProofs (disch := first | assumption | decide | omega | (simp only [wpD1] <;> omega) | (simp only [wpD2] <;> assumption) | solve_by_elim [zR, zP, zV] | fail) only [↓wpPre, wpPost, wpPoly, Int.reduceToNat, Int.reducePow, Int.reduceMul, Int.reduceAdd, Int.reduceSub, Int.reduceNeg, Nat.reduceAdd, Nat.reduceMul, Nat.reducePow, Int.reduceLT, Int.reduceLE, Int.reduceEq, Nat.reduceEqDiff, smp]
 exact HSub.push1 _ _
/-! ### Waves -/
end
end Go.Ae
/- Bits, chips and levels: the program and the reference. -/
set_option linter.unusedSimpArgs false
set_option linter.unusedVariables false
namespace Go.Ae
theorem ediv_bd {a b : Int} (hb : 1 ≤ b) {A : Int} (ha : -A ≤ a ∧ a ≤ A) : -A ≤ a / b ∧ a / b ≤ A := by
 have hA : 0 ≤ A := by omega
 constructor
 ·rw [Int.le_ediv_iff_mul_le (by omega)]
  have : A * 1 ≤ A * b := Int.mul_le_mul_of_nonneg_left hb hA
  have e : -A * b = -(A * b) := by grind
  omega
 ·rw [← Int.lt_add_one_iff, Int.ediv_lt_iff_lt_mul (by omega)]
  have : (A + 1) * 1 ≤ (A + 1) * b := Int.mul_le_mul_of_nonneg_left hb (by omega)
  omega
section
variable {C : Ctx}
set_option maxHeartbeats 1000000 in
set_option maxRecDepth 20000 in
theorem bit248_spec (hC : Has C T248) {p : PlanP} {e : EmitP} {vp vb : AV} {k : Int} {h : Heap} (ok : EmOk p e) (B : RI h vb e.bits) (v1 : vp.one = true) (hk : -20000000 ≤ k ∧ k ≤ 20000000) :
  ACalls C 248 [plA p vp, emA e vb, .int .i64 k] h (fun r h' => r = .int .i64 (bitI p e k) ∧ h' = h) := by
 refine ACalls.gc0 (P := fun r h' => r = .int .i64 (bitI p e k) ∧ HSub h h') ?_ (fun r h' hp => ⟨by rw [hp.1]; trivial, hp.2, hp.1, rfl⟩)
 have b1 := B.one
 have blt := B.lt
 have bl := ok.len
 have ba' := ok.en.2.2.2
 have pb' := ok.pn.2.2.1
 have hB : bitI p e k = if e.bits.length = 0 then 0 else e.bits.getD (((k - e.ba) / p.pb) % e.bits.length).toNat 0 := rfl
 have Bm := fun b c => B.mono ((HSub.push1 h b).push c)
 generalize bitI p e k = X at *
 unfold plA emA
 obtain ⟨pd, o, pb, w, mn, mx, nz, prns⟩ := p
 obtain ⟨prn, dl, rt, st, ph, amp, ba, bits⟩ := e
 dsimp only at *
 by_cases c : bits.length = 0
 ·rw [if_pos c] at hB
  subst hB
  (refine calls_intro (hC.body (by decide) tab248) (Nat.le_of_ble_eq_true rfl) ?_); (show wp C _ none B248.code _ _); (simp only [B248]); simp -implicitDefEqProofs (disch := first | assumption | decide | omega | (simp only [wpD1] <;> omega) | (simp only [wpD2] <;> assumption) | solve_by_elim [zR, zP, zV] | fail) only [↓wpPre, wpPost, wpPoly, Int.reduceToNat, Int.reducePow, Int.reduceMul, Int.reduceAdd, Int.reduceSub, Int.reduceNeg, Nat.reduceAdd, Nat.reduceMul, Nat.reducePow, Int.reduceLT, Int.reduceLE, Int.reduceEq, Nat.reduceEqDiff, B.len, c]
  exact (HSub.push1 _ _).push _
 ·rw [if_neg c] at hB
  have q3 := ediv_bd (a := k - ba) (b := pb) (A := 20000020) (by omega) (by omega)
  have f1 := fun h => floor258_spec (hC.sub (T' := T258) (by decide)) (a := k - ba) (b := pb) (h := h) (by unfold In64; omega) (by omega)
  generalize (k - ba) / pb = J at *
  have f2 := fun h => floor258_spec (hC.sub (T' := T258) (by decide)) (a := J) (b := (bits.length : Nat)) (h := h) (by unfold In64; omega) (by omega)
  have rm := ref_mod (j := J) (n := (bits.length : Int))
  have m1 := Int.emod_nonneg J (show (bits.length : Int) ≠ 0 by omega)
  have m2 := Int.emod_lt_of_pos J (show (0 : Int) < bits.length by omega)
  obtain ⟨m, hm⟩ : ∃ m : Nat, J % (bits.length : Int) = (m : Int) := ⟨(J % (bits.length : Int)).toNat, by omega⟩
  rw [hm] at rm m1 m2 hB
  rw [Int.toNat_natCast] at hB
  have ld := fun b c => (Bm b c).load (k := m) (by omega)
  have ix := B.idx (kk := .i64) (k := (m : Int)) ⟨by omega, by omega⟩
  rw [Int.toNat_natCast] at ix
  rw [← hB] at ld
  have nb : ¬ (bits.length : Int) = 0 := by omega
  have pq : (bits.length : Int) * (J / (bits.length : Int)) = J - m := by omega
  (refine calls_intro (hC.body (by decide) tab248) (Nat.le_of_ble_eq_true rfl) ?_); (show wp C _ none B248.code _ _); (simp only [B248]); simp -implicitDefEqProofs (disch := first | assumption | decide | omega | (simp only [wpD1] <;> omega) | (simp only [wpD2] <;> assumption) | solve_by_elim [zR, zP, zV] | fail) only [↓wpPre, wpPost, wpPoly, Int.reduceToNat, Int.reducePow, Int.reduceMul, Int.reduceAdd, Int.reduceSub, Int.reduceNeg, Nat.reduceAdd, Nat.reduceMul, Nat.reducePow, Int.reduceLT, Int.reduceLE, Int.reduceEq, Nat.reduceEqDiff, B.len, nb]
  refine ACallsK.eq (f1 _) ?_
  simp -implicitDefEqProofs (disch := first | assumption | decide | omega | (simp only [wpD1] <;> omega) | (simp only [wpD2] <;> assumption) | solve_by_elim [zR, zP, zV] | fail) only [↓wpPre, wpPost, wpPoly, Int.reduceToNat, Int.reducePow, Int.reduceMul, Int.reduceAdd, Int.reduceSub, Int.reduceNeg, Nat.reduceAdd, Nat.reduceMul, Nat.reducePow, Int.reduceLT, Int.reduceLE, Int.reduceEq, Nat.reduceEqDiff]
  refine ACallsK.eq (f2 _) ?_
  have jm : J - (J - (m : Int)) = m := by omega
  simp -implicitDefEqProofs (disch := first | assumption | decide | omega | (simp only [wpD1] <;> omega) | (simp only [wpD2] <;> assumption) | solve_by_elim [zR, zP, zV] | fail) only [↓wpPre, wpPost, wpPoly, Int.reduceToNat, Int.reducePow, Int.reduceMul, Int.reduceAdd, Int.reduceSub, Int.reduceNeg, Nat.reduceAdd, Nat.reduceMul, Nat.reducePow, Int.reduceLT, Int.reduceLE, Int.reduceEq, Nat.reduceEqDiff, pq, jm, ix, ld]
  exact (HSub.push1 _ _).push _
end
end Go.Ae
/- The codes of the reference; sums. -/
set_option linter.unusedSimpArgs false
set_option linter.unusedVariables false
namespace Go.Ae
def codeK (d p : Int) (k : Nat) : List Int := (codeL d p).take k ++ List.replicate (lenN d - k) 0
theorem codeK_length {d p : Int} {k : Nat} (h : k ≤ lenN d) : (codeK d p k).length = lenN d := by simp [codeK, codeL_length]; omega
theorem codeL_get {d p : Int} {k : Nat} (h : k < lenN d) : (codeL d p).getD k 0 = 1 - 2 * codeB d p k := by simp [codeL, bitC, h]
theorem codeK_set {d p : Int} {k : Nat} (h : k < lenN d) : (codeK d p k).set k (1 - 2 * codeB d p k) = codeK d p (k + 1) := by
 unfold codeK
 have cl := codeL_length d p
 have hl : ((codeL d p).take k).length = k := by simp [cl]; omega
 rw [List.set_append_right _ _ (by omega), hl, Nat.sub_self, show lenN d - k = lenN d - (k + 1) + 1 by omega, List.replicate_succ, List.set_cons_zero, take_succ_getD (by omega), codeL_get h, List.append_assoc]
 rfl
theorem codeK_full (d p : Int) : codeK d p (lenN d) = codeL d p := by
 have cl := codeL_length d p
 simp [codeK, ← cl]
theorem codeL_range {d p : Int} : ∀ x ∈ codeL d p, -1 ≤ x ∧ x ≤ 1 := by
 intro x hx
 obtain ⟨b, hb, rfl⟩ := List.mem_map.1 hx
 obtain ⟨i, _, rfl⟩ := List.mem_map.1 hb
 have := codeB_01 d p i
 omega
section
variable {C : Ctx}
set_option maxRecDepth 100000 in
set_option maxHeartbeats 2000000 in
theorem Code08_spec (hC : Has C T77) {d p : Int} {h : Heap} (hd : In64 d) (hp : In64 p) : ACalls C 77 [.int .i64 d, .int .i64 p] h (fun r h' => ∃ v, r = lstErr v (codeErr d p) ∧ HSub h h' ∧ RI h' v (if codeErr d p = 0 then codeL d p else [])) := by
 have hp' := hp
 unfold In64 at hp'
 have pe : codeErr d p = if lenOk d = true ∧ 1 ≤ p ∧ p ≤ lenN d + 2 then 0 else 2 := rfl
 by_cases c : lenOk d = true
 ·have hl := lenN_eq c
  have eL : lenE d = tup2 (lenN d) 0 := by unfold lenE; rw [if_pos c]
  by_cases cp : 1 ≤ p ∧ p ≤ lenN d + 2
  ·rw [if_pos ⟨c, cp⟩] at pe
   rw [pe]
   have t1 : tapsErr d 1 = 0 := by unfold tapsErr; rw [if_pos ⟨c, .inl rfl⟩]
   have t2 : tapsErr d 2 = 0 := by unfold tapsErr; rw [if_pos ⟨c, .inr rfl⟩]
   have lb1 := bitsL_length d 1
   have lb2 := bitsL_length d 2
   have hB : ∀ {w : Int} {h : Heap}, tapsErr d w = 0 → In64 w → ACalls C 75 [.int .i64 d, .int .i64 w] h (fun r h' => ∃ v, r = lstErr v 0 ∧ HSub h h' ∧ RI h' v (bitsL d w)) := by
    intro w h e hw
    refine (Bits08_spec (hC.sub (T' := T75) (by decide)) hd hw).mono ?_
    rintro r h' ⟨v, h1, h2, h3⟩
    rw [e, if_pos rfl] at h3
    exact ⟨v, by rw [h1, e], h2, h3⟩
   (refine calls_intro (hC.body (by decide) tab77) (Nat.le_of_ble_eq_true rfl) ?_); (show wp C _ none B77.code _ _); (simp only [B77]); simp -implicitDefEqProofs (disch := first | assumption | decide | omega | (simp only [wpD1] <;> omega) | (simp only [wpD2] <;> assumption) | solve_by_elim [zR, zP, zV] | fail) only [↓wpPre, wpPost, wpPoly, Int.reduceToNat, Int.reducePow, Int.reduceMul, Int.reduceAdd, Int.reduceSub, Int.reduceNeg, Nat.reduceAdd, Nat.reduceMul, Nat.reducePow, Int.reduceLT, Int.reduceLE, Int.reduceEq, Nat.reduceEqDiff]
   refine ACallsK.eq2 (Length08_spec (hC.sub (T' := T71) (by decide)) hd) eL ?_
   simp -implicitDefEqProofs (disch := first | assumption | decide | omega | (simp only [wpD1] <;> omega) | (simp only [wpD2] <;> assumption) | solve_by_elim [zR, zP, zV] | fail) only [↓wpPre, wpPost, wpPoly, Int.reduceToNat, Int.reducePow, Int.reduceMul, Int.reduceAdd, Int.reduceSub, Int.reduceNeg, Nat.reduceAdd, Nat.reduceMul, Nat.reducePow, Int.reduceLT, Int.reduceLE, Int.reduceEq, Nat.reduceEqDiff, tup2]
   refine ACallsK.of (hB t1 (by unfold In64; omega)) ?_
   rintro r h1 ⟨v1, rfl, s1, R1⟩
   simp -implicitDefEqProofs (disch := first | assumption | decide | omega | (simp only [wpD1] <;> omega) | (simp only [wpD2] <;> assumption) | solve_by_elim [zR, zP, zV] | fail) only [↓wpPre, wpPost, wpPoly, Int.reduceToNat, Int.reducePow, Int.reduceMul, Int.reduceAdd, Int.reduceSub, Int.reduceNeg, Nat.reduceAdd, Nat.reduceMul, Nat.reducePow, Int.reduceLT, Int.reduceLE, Int.reduceEq, Nat.reduceEqDiff, lstErr]
   refine ACallsK.of (hB t2 (by unfold In64; omega)) ?_
   rintro r h2 ⟨v2, rfl, s2, R2⟩
   have R1 := R1.mono s2
   have s12 := s1.trans s2
   simp -implicitDefEqProofs (disch := first | assumption | decide | omega | (simp only [wpD1] <;> omega) | (simp only [wpD2] <;> assumption) | solve_by_elim [zR, zP, zV] | fail) only [↓wpPre, wpPost, wpPoly, Int.reduceToNat, Int.reducePow, Int.reduceMul, Int.reduceAdd, Int.reduceSub, Int.reduceNeg, Nat.reduceAdd, Nat.reduceMul, Nat.reducePow, Int.reduceLT, Int.reduceLE, Int.reduceEq, Nat.reduceEqDiff, lstErr, ints_replicate]
   refine wp_loopI (fun j t h' => ∃ k : Nat, h' = h2.push (.cells (ints (codeK d p k)) true 0) ∧ t 1 = .int .i64 p ∧ t 6 = .int .i64 (lenN d) ∧ t 8 = v1 ∧ t 10 = v2 ∧ t 12 = .slice h2.size 0 (lenN d) (.known (lenN d)) ∧ t 13 = .int .i64 (k : Nat) ∧ k ≤ lenN d ∧ j = lenN d - k) (j0 := lenN d)
    ⟨0, by simp [codeK], rfl, rfl, rfl, rfl, rfl, rfl, by omega, rfl⟩ ?_
   rintro j t h3 ⟨k, rfl, e1, e6, e8, e10, e12, e13, hk, hj⟩
   have lK := codeK_length (p := p) hk
   simp -implicitDefEqProofs (disch := first | assumption | decide | omega | (simp only [wpD1] <;> omega) | (simp only [wpD2] <;> assumption) | solve_by_elim [zR, zP, zV] | fail) only [↓wpPre, wpPost, wpPoly, Int.reduceToNat, Int.reducePow, Int.reduceMul, Int.reduceAdd, Int.reduceSub, Int.reduceNeg, Nat.reduceAdd, Nat.reduceMul, Nat.reducePow, Int.reduceLT, Int.reduceLE, Int.reduceEq, Nat.reduceEqDiff, e6, e13]
   refine Br.by (fun c1 => ?_) (fun c1 => ?_)
   ·have hk' : k < lenN d := by omega
    have b1 := bit01_getD (bitsL_01 (d := d) (w := 1)) k
    have b2 := bit01_getD (bitsL_01 (d := d) (w := 2)) k
    have b12 := codeB_01 d p k
    have hst := codeK_set (p := p) hk'
    by_cases p1 : p = 1
    ·have hcb : codeB d p k = (bitsL d 1).getD k 0 := by unfold codeB; rw [if_pos p1]
     rw [hcb] at hst
     simp -implicitDefEqProofs (disch := first | assumption | decide | omega | (simp only [wpD1] <;> omega) | (simp only [wpD2] <;> assumption) | solve_by_elim [zR, zP, zV] | fail) only [↓wpPre, wpPost, wpPoly, Int.reduceToNat, Int.reducePow, Int.reduceMul, Int.reduceAdd, Int.reduceSub, Int.reduceNeg, Nat.reduceAdd, Nat.reduceMul, Nat.reducePow, Int.reduceLT, Int.reduceLE, Int.reduceEq, Nat.reduceEqDiff, e1, e6, e8, e10, e12, e13, R1.idx, R1.loadC, hst]
     exact ⟨_, ⟨k + 1, rfl, by simp, by omega, rfl⟩, by omega⟩
    by_cases p2 : p = 2
    ·have hcb : codeB d p k = (bitsL d 2).getD k 0 := by unfold codeB; rw [if_neg p1, if_pos p2]
     rw [hcb] at hst
     simp -implicitDefEqProofs (disch := first | assumption | decide | omega | (simp only [wpD1] <;> omega) | (simp only [wpD2] <;> assumption) | solve_by_elim [zR, zP, zV] | fail) only [↓wpPre, wpPost, wpPoly, Int.reduceToNat, Int.reducePow, Int.reduceMul, Int.reduceAdd, Int.reduceSub, Int.reduceNeg, Nat.reduceAdd, Nat.reduceMul, Nat.reducePow, Int.reduceLT, Int.reduceLE, Int.reduceEq, Nat.reduceEqDiff, e1, e6, e8, e10, e12, e13, R2.idx, R2.loadC, hst]
     exact ⟨_, ⟨k + 1, rfl, by simp, by omega, rfl⟩, by omega⟩
    have em : ((k : Int) + p - 3) % (lenN d : Int) = (((k + (p - 3).toNat) % lenN d : Nat) : Int) := by
     rw [show (k : Int) + p - 3 = ((k + (p - 3).toNat : Nat) : Int) by omega]; exact (Int.natCast_emod _ _).symm
    have hm : (k + (p - 3).toNat) % lenN d < lenN d := Nat.mod_lt _ (by omega)
    have ex := xor01 b1 (bit01_getD (bitsL_01 (d := d) (w := 2)) ((k + (p - 3).toNat) % lenN d))
    have hcb : codeB d p k = ((bitsL d 1).getD k 0 + (bitsL d 2).getD ((k + (p - 3).toNat) % lenN d) 0) % 2 := by unfold codeB; rw [if_neg p1, if_neg p2]
    rw [← hcb] at ex
    simp -implicitDefEqProofs (disch := first | assumption | decide | omega | (simp only [wpD1] <;> omega) | (simp only [wpD2] <;> assumption) | solve_by_elim [zR, zP, zV] | fail) only [↓wpPre, wpPost, wpPoly, Int.reduceToNat, Int.reducePow, Int.reduceMul, Int.reduceAdd, Int.reduceSub, Int.reduceNeg, Nat.reduceAdd, Nat.reduceMul, Nat.reducePow, Int.reduceLT, Int.reduceLE, Int.reduceEq, Nat.reduceEqDiff, e1, e6, e8, e10, e12, e13, R1.idx, R1.loadC, R2.idx, R2.loadC, em, ex, hst]
    exact ⟨_, ⟨k + 1, rfl, by simp, by omega, rfl⟩, by omega⟩
   ·have ek : k = lenN d := by omega
    have cl := codeL_length d p
    have hcf : codeK d p k = codeL d p := by rw [ek, codeK_full]
    simp -implicitDefEqProofs (disch := first | assumption | decide | omega | (simp only [wpD1] <;> omega) | (simp only [wpD2] <;> assumption) | solve_by_elim [zR, zP, zV] | fail) only [↓wpPre, wpPost, wpPoly, Int.reduceToNat, Int.reducePow, Int.reduceMul, Int.reduceAdd, Int.reduceSub, Int.reduceNeg, Nat.reduceAdd, Nat.reduceMul, Nat.reducePow, Int.reduceLT, Int.reduceLE, Int.reduceEq, Nat.reduceEqDiff, e12]
    exact ⟨_, rfl, s12.push _, by rw [if_pos trivial, ← hcf]; exact RI.known (get_push_eq rfl) ⟨by rw [lK], by omega⟩ (by omega)⟩
  ·have cp' : ¬ (lenOk d = true ∧ 1 ≤ p ∧ p ≤ lenN d + 2) := fun h => cp h.2
   rw [if_neg cp'] at pe
   rw [pe]
   (refine calls_intro (hC.body (by decide) tab77) (Nat.le_of_ble_eq_true rfl) ?_); (show wp C _ none B77.code _ _); (simp only [B77]); simp -implicitDefEqProofs (disch := first | assumption | decide | omega | (simp only [wpD1] <;> omega) | (simp only [wpD2] <;> assumption) | solve_by_elim [zR, zP, zV] | fail) only [↓wpPre, wpPost, wpPoly, Int.reduceToNat, Int.reducePow, Int.reduceMul, Int.reduceAdd, Int.reduceSub, Int.reduceNeg, Nat.reduceAdd, Nat.reduceMul, Nat.reducePow, Int.reduceLT, Int.reduceLE, Int.reduceEq, Nat.reduceEqDiff]
   refine ACallsK.eq2 (Length08_spec (hC.sub (T' := T71) (by decide)) hd) eL ?_
   simp -implicitDefEqProofs (disch := first | assumption | decide | omega | (simp only [wpD1] <;> omega) | (simp only [wpD2] <;> assumption) | solve_by_elim [zR, zP, zV] | fail) only [↓wpPre, wpPost, wpPoly, Int.reduceToNat, Int.reducePow, Int.reduceMul, Int.reduceAdd, Int.reduceSub, Int.reduceNeg, Nat.reduceAdd, Nat.reduceMul, Nat.reducePow, Int.reduceLT, Int.reduceLE, Int.reduceEq, Nat.reduceEqDiff, tup2]
   (repeat' (first | (refine Br.by (fun _ => ?_) (fun _ => ?_)) | (simp -implicitDefEqProofs (disch := first | assumption | decide | omega | (simp only [wpD1] <;> omega) | (simp only [wpD2] <;> assumption) | solve_by_elim [zR, zP, zV] | fail) only [↓wpPre, wpPost, wpPoly, Int.reduceToNat, Int.reducePow, Int.reduceMul, Int.reduceAdd, Int.reduceSub, Int.reduceNeg, Nat.reduceAdd, Nat.reduceMul, Nat.reducePow, Int.reduceLT, Int.reduceLE, Int.reduceEq, Nat.reduceEqDiff])))
   all_goals first | exact ⟨.nilslice, by rw [lstErr], HSub.refl _, by rw [if_neg id]; exact RI.nil⟩ | omega
 ·have eL : lenE d = tup2 0 2 := by unfold lenE; rw [if_neg c]
  have cp' : ¬ (lenOk d = true ∧ 1 ≤ p ∧ p ≤ lenN d + 2) := fun h => c h.1
  rw [if_neg cp'] at pe
  rw [pe]
  (refine calls_intro (hC.body (by decide) tab77) (Nat.le_of_ble_eq_true rfl) ?_); (show wp C _ none B77.code _ _); (simp only [B77]); simp -implicitDefEqProofs (disch := first | assumption | decide | omega | (simp only [wpD1] <;> omega) | (simp only [wpD2] <;> assumption) | solve_by_elim [zR, zP, zV] | fail) only [↓wpPre, wpPost, wpPoly, Int.reduceToNat, Int.reducePow, Int.reduceMul, Int.reduceAdd, Int.reduceSub, Int.reduceNeg, Nat.reduceAdd, Nat.reduceMul, Nat.reducePow, Int.reduceLT, Int.reduceLE, Int.reduceEq, Nat.reduceEqDiff]
  refine ACallsK.eq2 (Length08_spec (hC.sub (T' := T71) (by decide)) hd) eL ?_
  simp -implicitDefEqProofs (disch := first | assumption | decide | omega | (simp only [wpD1] <;> omega) | (simp only [wpD2] <;> assumption) | solve_by_elim [zR, zP, zV] | fail) only [↓wpPre, wpPost, wpPoly, Int.reduceToNat, Int.reducePow, Int.reduceMul, Int.reduceAdd, Int.reduceSub, Int.reduceNeg, Nat.reduceAdd, Nat.reduceMul, Nat.reducePow, Int.reduceLT, Int.reduceLE, Int.reduceEq, Nat.reduceEqDiff, tup2]
  exact ⟨.nilslice, by rw [lstErr], HSub.refl _, by rw [if_neg id]; exact RI.nil⟩
end
end Go.Ae
/- Samples of codes, of the program. -/
set_option linter.unusedSimpArgs false
set_option linter.unusedVariables false
namespace Go.Ae
def knownErr (d o : Int) : Int := if lenOk d = true ∧ 1 ≤ o ∧ o ≤ 8 then 0 else 2
def sampL (d p : Int) (o : Nat) : List Int := ((codeL d p).map fun x => List.replicate o x).flatten
def sampP (d p : Int) (o k : Nat) : List Int := (((codeL d p).take k).map fun x => List.replicate o x).flatten
theorem sampP_succ {d p : Int} {o k : Nat} (h : k < (codeL d p).length) : sampP d p o (k + 1) = sampP d p o k ++ List.replicate o ((codeL d p).getD k 0) := by
 unfold sampP; rw [take_succ_getD h]; simp
theorem sampP_length {d p : Int} {o : Nat} : ∀ k, k ≤ (codeL d p).length → (sampP d p o k).length = k * o
 | 0, _ => by simp [sampP]
 | k + 1, h => by rw [sampP_succ (by omega), List.length_append, sampP_length k (by omega), List.length_replicate, Nat.add_mul, Nat.one_mul]
theorem sampP_full (d p : Int) (o : Nat) : sampP d p o (codeL d p).length = sampL d p o := by unfold sampP sampL; rw [List.take_length]
section
variable {C : Ctx}
theorem known09_spec (hC : Has C T150) {d o : Int} {h : Heap} (hd : In64 d) (ho : In64 o) : ACalls C 150 [.int .i64 d, .int .i64 o] h (fun r h' => r = .int .i64 (knownErr d o) ∧ h' = h) := by
 unfold In64 at ho
 by_cases c : lenOk d = true
 ·have e : lenE d = tup2 (lenN d) 0 := by unfold lenE; rw [if_pos c]
  by_cases co : 1 ≤ o ∧ o ≤ 8
  ·have pe : knownErr d o = 0 := by unfold knownErr; rw [if_pos ⟨c, co⟩]
   rw [pe]
   (refine calls_intro (hC.body (by decide) tab150) (Nat.le_of_ble_eq_true rfl) ?_); (show wp C _ none B150.code _ _); (simp only [B150]); simp -implicitDefEqProofs (disch := first | assumption | decide | omega | (simp only [wpD1] <;> omega) | (simp only [wpD2] <;> assumption) | solve_by_elim [zR, zP, zV] | fail) only [↓wpPre, wpPost, wpPoly, Int.reduceToNat, Int.reducePow, Int.reduceMul, Int.reduceAdd, Int.reduceSub, Int.reduceNeg, Nat.reduceAdd, Nat.reduceMul, Nat.reducePow, Int.reduceLT, Int.reduceLE, Int.reduceEq, Nat.reduceEqDiff]
   refine ACallsK.eq2 (Length_spec (hC.sub (T' := T70) (by decide)) hd) e ?_
   simp -implicitDefEqProofs (disch := first | assumption | decide | omega | (simp only [wpD1] <;> omega) | (simp only [wpD2] <;> assumption) | solve_by_elim [zR, zP, zV] | fail) only [↓wpPre, wpPost, wpPoly, Int.reduceToNat, Int.reducePow, Int.reduceMul, Int.reduceAdd, Int.reduceSub, Int.reduceNeg, Nat.reduceAdd, Nat.reduceMul, Nat.reducePow, Int.reduceLT, Int.reduceLE, Int.reduceEq, Nat.reduceEqDiff, tup2]
  ·have pe : knownErr d o = 2 := by unfold knownErr; rw [if_neg (fun h => co h.2)]
   rw [pe]
   (refine calls_intro (hC.body (by decide) tab150) (Nat.le_of_ble_eq_true rfl) ?_); (show wp C _ none B150.code _ _); (simp only [B150]); simp -implicitDefEqProofs (disch := first | assumption | decide | omega | (simp only [wpD1] <;> omega) | (simp only [wpD2] <;> assumption) | solve_by_elim [zR, zP, zV] | fail) only [↓wpPre, wpPost, wpPoly, Int.reduceToNat, Int.reducePow, Int.reduceMul, Int.reduceAdd, Int.reduceSub, Int.reduceNeg, Nat.reduceAdd, Nat.reduceMul, Nat.reducePow, Int.reduceLT, Int.reduceLE, Int.reduceEq, Nat.reduceEqDiff]
   refine ACallsK.eq2 (Length_spec (hC.sub (T' := T70) (by decide)) hd) e ?_
   simp -implicitDefEqProofs (disch := first | assumption | decide | omega | (simp only [wpD1] <;> omega) | (simp only [wpD2] <;> assumption) | solve_by_elim [zR, zP, zV] | fail) only [↓wpPre, wpPost, wpPoly, Int.reduceToNat, Int.reducePow, Int.reduceMul, Int.reduceAdd, Int.reduceSub, Int.reduceNeg, Nat.reduceAdd, Nat.reduceMul, Nat.reducePow, Int.reduceLT, Int.reduceLE, Int.reduceEq, Nat.reduceEqDiff, tup2]
   (repeat' (first | (refine Br.by (fun _ => ?_) (fun _ => ?_)) | (simp -implicitDefEqProofs (disch := first | assumption | decide | omega | (simp only [wpD1] <;> omega) | (simp only [wpD2] <;> assumption) | solve_by_elim [zR, zP, zV] | fail) only [↓wpPre, wpPost, wpPoly, Int.reduceToNat, Int.reducePow, Int.reduceMul, Int.reduceAdd, Int.reduceSub, Int.reduceNeg, Nat.reduceAdd, Nat.reduceMul, Nat.reducePow, Int.reduceLT, Int.reduceLE, Int.reduceEq, Nat.reduceEqDiff])))
   all_goals omega
 ·have e : lenE d = tup2 0 2 := by unfold lenE; rw [if_neg c]
  have pe : knownErr d o = 2 := by unfold knownErr; rw [if_neg (fun h => c h.1)]
  rw [pe]
  (refine calls_intro (hC.body (by decide) tab150) (Nat.le_of_ble_eq_true rfl) ?_); (show wp C _ none B150.code _ _); (simp only [B150]); simp -implicitDefEqProofs (disch := first | assumption | decide | omega | (simp only [wpD1] <;> omega) | (simp only [wpD2] <;> assumption) | solve_by_elim [zR, zP, zV] | fail) only [↓wpPre, wpPost, wpPoly, Int.reduceToNat, Int.reducePow, Int.reduceMul, Int.reduceAdd, Int.reduceSub, Int.reduceNeg, Nat.reduceAdd, Nat.reduceMul, Nat.reducePow, Int.reduceLT, Int.reduceLE, Int.reduceEq, Nat.reduceEqDiff]
  refine ACallsK.eq2 (Length_spec (hC.sub (T' := T70) (by decide)) hd) e ?_
  simp -implicitDefEqProofs (disch := first | assumption | decide | omega | (simp only [wpD1] <;> omega) | (simp only [wpD2] <;> assumption) | solve_by_elim [zR, zP, zV] | fail) only [↓wpPre, wpPost, wpPoly, Int.reduceToNat, Int.reducePow, Int.reduceMul, Int.reduceAdd, Int.reduceSub, Int.reduceNeg, Nat.reduceAdd, Nat.reduceMul, Nat.reducePow, Int.reduceLT, Int.reduceLE, Int.reduceEq, Nat.reduceEqDiff, tup2]
end
end Go.Ae
/- Two lists that grow side by side. -/
set_option linter.unusedSimpArgs false
set_option linter.unusedVariables false
namespace Go.Ae
def Dj (v w : AV) : Prop := ∀ i, i ∈ v.ids → i ∉ w.ids
theorem Dj.nilL {w : AV} : Dj .nilslice w := fun i hi => by simp [AV.ids] at hi
theorem Dj.nilR {v : AV} : Dj v .nilslice := fun i _ => by simp [AV.ids]
theorem Dj.symm {v w : AV} (h : Dj v w) : Dj w v := fun i hi hv => h i hv hi
section
variable {h0 h H : Heap} {sz sz' n m k k' : Nat} {v w : AV} {cs ds es : List AV} {c : Cap} {x : Int} {l l' : List Int}
theorem Grw.dj (B : Grw h0 h sz w n ds) (hk : h.size ≤ k) : Dj w (.slice k 0 k' c) := by
 obtain ⟨_, _, _, ⟨rfl, rfl⟩ | ⟨i, ex, hi, rfl, hg⟩⟩ := B
 ·exact Dj.nilL
 ·intro j hj
  have := Heap.lt_of_get hg
  simp only [AV.ids, List.mem_singleton] at hj ⊢
  omega
theorem Grw.keep (A : Grw h0 h sz' v m es) (B : Grw h0 h sz w n ds) (hs : HSub h H) (hd : Dj w v) : Grw h0 (snocH H none v sz' cs) sz w n ds := by
 have hsub : HSub h0 (snocH H none v sz' cs) := by
  obtain ⟨h1, _, _, ⟨rfl, rfl⟩ | ⟨i, ex, hi, rfl, hg⟩⟩ := A
  ·exact (h1.trans hs).push _
  ·exact ((h1.trans hs).put hi _).push _
 obtain ⟨h1, hl, hn, ⟨rfl, rfl⟩ | ⟨i, ex, hi, rfl, hg⟩⟩ := B
 ·exact ⟨hsub, hl, hn, .inl ⟨rfl, rfl⟩⟩
 ·refine ⟨hsub, hl, hn, .inr ⟨i, ex, hi, rfl, ?_⟩⟩
  have hlt := Heap.lt_of_get hg
  have hsz := hs.size
  have hH := (hs.get i hlt).trans hg
  obtain ⟨_, _, _, ⟨rfl, rfl⟩ | ⟨j, ex', hj, rfl, hg'⟩⟩ := A
  ·exact (get_push_lt (by omega)).trans hH
  ·have hne : i ≠ j := fun e => hd i (by simp [AV.ids]) (by simp [AV.ids, e])
   exact (get_push_lt (by simp only [Heap.size_put]; omega)).trans ((get_put_ne hne).trans hH)
theorem Grw.keepS (A : Grw h0 h sz' v m es) (B : Grw h0 h sz w n ds) (hs : HSub h H) (hk : h.size ≤ k ∧ k < H.size) (hd : Dj w v) : Grw h0 (snocH H (some k) v sz' cs) sz w n ds := by
 have hsub : HSub h0 (snocH H (some k) v sz' cs) := by
  have := A.sub.size
  obtain ⟨h1, _, _, ⟨rfl, rfl⟩ | ⟨i, ex, hi, rfl, hg⟩⟩ := A
  ·exact (h1.trans hs).put (by omega) _
  ·exact ((h1.trans hs).put hi _).put (by omega) _
 obtain ⟨h1, hl, hn, ⟨rfl, rfl⟩ | ⟨i, ex, hi, rfl, hg⟩⟩ := B
 ·exact ⟨hsub, hl, hn, .inl ⟨rfl, rfl⟩⟩
 ·refine ⟨hsub, hl, hn, .inr ⟨i, ex, hi, rfl, ?_⟩⟩
  have hlt := Heap.lt_of_get hg
  have hH := (hs.get i hlt).trans hg
  obtain ⟨_, _, _, ⟨rfl, rfl⟩ | ⟨j, ex', hj, rfl, hg'⟩⟩ := A
  ·exact (get_put_ne (by omega)).trans hH
  ·have hne : i ≠ j := fun e => hd i (by simp [AV.ids]) (by simp [AV.ids, e])
   exact (get_put_ne (by omega)).trans ((get_put_ne hne).trans hH)
theorem GrwI.keep (A : GrwI h0 h v l) (B : GrwI h0 h w l') (hs : HSub h H) (hd : Dj w v) : GrwI h0 (snocH H none v 1 (ints (l ++ [x]))) w l' := Grw.keep A B hs hd
theorem GrwI.keepS (A : GrwI h0 h v l) (B : GrwI h0 h w l') (hs : HSub h H) (hk : h.size ≤ k ∧ k < H.size) (hd : Dj w v) : GrwI h0 (snocH H (some k) v 1 (ints (l ++ [x]))) w l' := Grw.keepS A B hs hk hd
theorem GrwI.dj (B : GrwI h0 h w l) (hk : h.size ≤ k) : Dj w (.slice k 0 k' c) := Grw.dj B hk
end
end Go.Ae
/- Lists that grow in a region that draws its order, several at once. -/
set_option linter.unusedSimpArgs false
set_option linter.unusedVariables false
namespace Go.Ae
section
variable {h0 h H : Heap} {sz bytes n m k j x y : Nat} {v : AV} {cs news : List AV} {l : List (Int × Int)} {li : List Int}
theorem Grw.ids_lt (A : Grw h0 h sz v n cs) : ∀ i ∈ v.ids, h0.size ≤ i ∧ i < h.size := by
 obtain ⟨_, _, _, ⟨rfl, rfl⟩ | ⟨i, ex, hi, rfl, hg⟩⟩ := A
 ·intro i hi; simp [AV.ids] at hi
 ·intro j hj
  simp only [AV.ids, List.mem_singleton] at hj
  subst hj
  exact ⟨hi, Heap.lt_of_get hg⟩
theorem Grw.appG (A : Grw h0 h sz v n cs) (hg : ∀ i ∈ v.ids, H.get i = h.get i) (hk : h.size ≤ k ∧ k < H.size) (hm : m ≠ 0) (hb : (n + m) * bytes ≤ 1099511627776) (h1 : news.all AV.one = true) :
  appendA H (some k) sz bytes v m news = appK k H v (.slice k 0 (n + m) (.unk 0)) sz (cs ++ news) (H.get k) := by
 obtain ⟨_, hl, hn, ⟨rfl, rfl⟩ | ⟨i, ex, hi, rfl, hgi⟩⟩ := A
 ·have : cs = [] := List.eq_nil_of_length_eq_zero (by omega)
  subst this
  exact Grw.appS (h0 := Heap.empty) (h := Heap.empty) (cs := []) (n := 0) ⟨HSub.refl _, by simp, by omega, .inl ⟨rfl, rfl⟩⟩ ⟨Nat.zero_le _, fun i hi => absurd hi (Nat.not_lt_zero i)⟩ ⟨Nat.zero_le _, hk.2⟩ hm hb h1
 ·have e0 := (hg i (by simp [AV.ids])).trans hgi
  have hlt := Heap.lt_of_get hgi
  have hr : H.room (some k) = ((H.get k).isNone && decide (k < H.size)) := rfl
  simp only [appendA, e0]
  by_cases e : (H.get k).isNone = true
  ·have e' : H.get k = none := by simpa using e
   rw [if_pos ⟨trivial, by omega, by rw [List.length_append]; omega, h1, hb, by rw [hr, e]; simpa using hk.2, by omega⟩, cut_pre hl]
   exact (congrArg (appK k H (.slice i 0 n (.unk 0)) (.slice k 0 (n + m) (.unk 0)) sz (cs ++ news)) e').symm
  ·rw [if_neg (by rw [hr]; simp [e]), if_neg (by omega)]
   obtain ⟨b, e'⟩ : ∃ b, H.get k = some b := by cases x : H.get k with | none => simp [x] at e | some b => exact ⟨b, rfl⟩
   exact (congrArg (appK k H (.slice i 0 n (.unk 0)) (.slice k 0 (n + m) (.unk 0)) sz (cs ++ news)) e').symm
theorem snocS_size : (snocH H (some k) v sz cs).size = H.size := by unfold snocH; cases v <;> rfl
theorem snocS_same (hk : k < H.size) : (snocH H (some k) v sz cs).get k = some (.cells cs true sz) := by
 unfold snocH
 cases v <;> exact get_put_eq rfl (by simpa using hk)
theorem snocS_ne (hk : j ≠ k) (hv : j ∉ v.ids) : (snocH H (some k) v sz cs).get j = H.get j := by
 unfold snocH
 cases v
 case slice i o n c => exact (get_put_ne hk).trans (get_put_ne (fun e => hv (by simp [AV.ids, e])))
 all_goals exact get_put_ne hk
theorem snocS_sub {hB : Heap} (A : Grw hB h sz v n cs) {ds : List AV} (hs : HSub hB H) (hk : hB.size ≤ k) : HSub hB (snocH H (some k) v sz ds) := by
 obtain ⟨_, _, _, ⟨rfl, rfl⟩ | ⟨i, ex, hi, rfl, hg⟩⟩ := A
 ·exact hs.put hk _
 ·exact (hs.put hi _).put hk _
theorem GrwS.appG {a b : Int} (A : GrwS h0 h v l) (hg : ∀ i ∈ v.ids, H.get i = h.get i) (hk : h.size ≤ k ∧ k < H.size) (hb : l.length + 1 ≤ 1073741824) : appendA H (some k) 2 16 v 1 [.int .i64 a, .int .i64 b] = appK k H v (.slice k 0 (l.length + 1) (.unk 0)) 2 (smps (l ++ [(a, b)])) (H.get k) := by
 rw [Grw.appG A hg hk (by decide) (by omega) (by rfl), smps_snoc]
theorem GrwS.mk {K : Nat} (hs : HSub h0 h) (hk : h0.size ≤ k) (hl : K = l.length ∧ l.length < 9223372036854775808) (hg : h.get k = some (.cells (smps l) true 2)) : GrwS h0 h (.slice k 0 K (.unk 0)) l := by
 obtain ⟨rfl, hl⟩ := hl
 exact ⟨hs, smps_length, hl, .inr ⟨k, [], hk, rfl, by rw [List.append_nil]; exact hg⟩⟩
theorem SL.fldE {cs : List AV} (A : SL h sz v n cs) : ∀ (k off : Nat), k < n → fieldAddrA off (elA sz v k) = some (elF sz v k off) := by
 intro k off hk
 obtain ⟨_, _, ⟨rfl, h1⟩ | ⟨i, o, c, vs, wr, u, rfl, _⟩⟩ := A
 ·omega
 ·rfl
theorem SL.loadE {cs : List AV} (A : SL h sz v n cs) {k off : Nat} (hk : k < n) (ho : off < sz) : Ae.loadA h false 1 (elF sz v k off) = cs[k * sz + off]? := by
 obtain ⟨hl, hlt, ⟨rfl, h1⟩ | ⟨i, o, c, vs, wr, u, rfl, hg, hle, hc, _⟩⟩ := A
 ·omega
 ·have h1 : (k + 1) * sz ≤ n * sz := Nat.mul_le_mul_right sz hk
  have h2 : (k + 1) * sz = k * sz + sz := by rw [Nat.add_mul, Nat.one_mul]
  rw [← hc, cut, List.getElem?_take_of_lt (by omega), List.getElem?_drop]
  simp only [elF, Ae.loadA, hg, partA, Bool.false_eq_true, if_false]
  rw [Nat.add_assoc]
theorem Dj.not {v w : AV} (h : Dj v w) {i : Nat} (hi : i ∈ w.ids) : i ∉ v.ids := fun hv => h i hv hi
end
end Go.Ae
/- Codes with their samples, of the program. -/
set_option linter.unusedSimpArgs false
set_option linter.unusedVariables false
namespace Go.Ae
theorem sampL_length (d p : Int) (o : Nat) : (sampL d p o).length = lenN d * o := by rw [← sampP_full, sampP_length _ (Nat.le_refl _), codeL_length]
def sampErr (d o : Int) (ps : List Int) : Int := if knownErr d o = 0 ∧ ∀ p ∈ ps, codeErr d p = 0 then 0 else 2
def codeCells (vs : List AV) (o : Int) : List AV := vs.flatMap fun v => [v, .int .i64 o]
theorem codeCells_snoc (vs : List AV) (v : AV) (o : Int) : codeCells (vs ++ [v]) o = codeCells vs o ++ [v, .int .i64 o] := by simp [codeCells]
structure CLs (h : Heap) (v : AV) (d o : Int) (ps : List Int) (vs : List AV) : Prop where
 sl : SL h 2 v ps.length (codeCells vs o)
 len : vs.length = ps.length
 ri : ∀ i, i < ps.length → RI h (vs.getD i .nilslice) (sampL d (ps.getD i 0) o.toNat)
theorem CLs.mono {h h' : Heap} {v : AV} {d o : Int} {ps : List Int} {vs : List AV} (H : CLs h v d o ps vs) (hs : HSub h h') : CLs h' v d o ps vs := ⟨H.sl.mono hs, H.len, fun i hi => (H.ri i hi).mono hs⟩
theorem grwI_mk {h0 h : Heap} {k K : Nat} {l : List Int} (hs : HSub h0 h) (hk : h0.size ≤ k) (hl : K = l.length ∧ l.length < 9223372036854775808) (hg : h.get k = some (.cells (ints l) true 1)) : GrwI h0 h (.slice k 0 K (.unk 0)) l := by
 obtain ⟨rfl, hl⟩ := hl
 exact Grw.fresh hs hk hl hg
section
variable {C : Ctx}
set_option maxHeartbeats 4000000 in
set_option maxRecDepth 20000 in
theorem sampled_specF (hC : Has C T142) {d o : Int} {vp : AV} {ps : List Int} {h : Heap} (hd : In64 d) (ho : In64 o) (hp : RI h vp ps) (hx : ∀ x ∈ ps, In64 x) (hpl : ps.length ≤ 1000) :
  ACalls C 142 [.int .i64 d, .int .i64 o, vp] h (fun r h' => ∃ v vs, r = lstErr v (sampErr d o ps) ∧ HSub h h' ∧ (sampErr d o ps = 0 → CLs h' v d o ps vs ∧ ∀ i, i < ps.length → GrwI h h' (vs.getD i .nilslice) (sampL d (ps.getD i 0) o.toNat))) := by
 have hplt := hp.lt
 by_cases ck : knownErr d o = 0
 ·have pe : sampErr d o ps = if ∀ p ∈ ps, codeErr d p = 0 then 0 else 2 := by unfold sampErr; simp only [ck, true_and]
  have kr : lenOk d = true ∧ 1 ≤ o ∧ o ≤ 8 := by
   unfold knownErr at ck
   split at ck
   ·assumption
   ·cases ck
  obtain ⟨q, rfl⟩ := Int.eq_ofNat_of_zero_le (show 0 ≤ o by omega)
  have hN := lenN_eq kr.1
  (refine calls_intro (hC.body (by decide) tab142) (Nat.le_of_ble_eq_true rfl) ?_); (show wp C _ none B142.code _ _); (simp only [B142]); simp -implicitDefEqProofs (disch := first | assumption | decide | omega | (simp only [wpD1] <;> omega) | (simp only [wpD2] <;> assumption) | solve_by_elim [zR, zP, zV] | fail) only [↓wpPre, wpPost, wpPoly, Int.reduceToNat, Int.reducePow, Int.reduceMul, Int.reduceAdd, Int.reduceSub, Int.reduceNeg, Nat.reduceAdd, Nat.reduceMul, Nat.reducePow, Int.reduceLT, Int.reduceLE, Int.reduceEq, Nat.reduceEqDiff]
  refine ACallsK.eq (known09_spec (hC.sub (T' := T150) (by decide)) hd ho) ?_
  rw [ck]
  simp -implicitDefEqProofs (disch := first | assumption | decide | omega | (simp only [wpD1] <;> omega) | (simp only [wpD2] <;> assumption) | solve_by_elim [zR, zP, zV] | fail) only [↓wpPre, wpPost, wpPoly, Int.reduceToNat, Int.reducePow, Int.reduceMul, Int.reduceAdd, Int.reduceSub, Int.reduceNeg, Nat.reduceAdd, Nat.reduceMul, Nat.reducePow, Int.reduceLT, Int.reduceLE, Int.reduceEq, Nat.reduceEqDiff, hp.len]
  refine wp_loopI (fun j t h' => ∃ (k : Nat) (vs : List AV), Grw h h' 2 (t 9) k (codeCells vs (q : Nat)) ∧ vs.length = k ∧ (∀ i, i < k → GrwI h h' (vs.getD i .nilslice) (sampL d (ps.getD i 0) q) ∧ Dj (vs.getD i .nilslice) (t 9)) ∧ (∀ i, i < k → codeErr d (ps.getD i 0) = 0) ∧
   t 0 = .int .i64 d ∧ t 1 = .int .i64 (q : Nat) ∧ t 23 = vp ∧ t 24 = .int .i64 (ps.length : Nat) ∧ t 25 = .int .i64 (k : Nat) ∧ k ≤ ps.length ∧ j = ps.length - k) (j0 := ps.length)
   ⟨0, [], Grw.nil _ _, rfl, fun i hi => by omega, fun i hi => by omega, rfl, rfl, rfl, rfl, rfl, by omega, rfl⟩ ?_
  rintro j t h2 ⟨k, vs, A, hvl, hvs, hce, e0, e1, e23, e24, e25, hk, hj⟩
  simp -implicitDefEqProofs (disch := first | assumption | decide | omega | (simp only [wpD1] <;> omega) | (simp only [wpD2] <;> assumption) | solve_by_elim [zR, zP, zV] | fail) only [↓wpPre, wpPost, wpPoly, Int.reduceToNat, Int.reducePow, Int.reduceMul, Int.reduceAdd, Int.reduceSub, Int.reduceNeg, Nat.reduceAdd, Nat.reduceMul, Nat.reducePow, Int.reduceLT, Int.reduceLE, Int.reduceEq, Nat.reduceEqDiff, e24, e25]
  refine Br.by (fun c1 => ?_) (fun c1 => ?_)
  ·have hk' : k < ps.length := by omega
   have hp2 := hp.mono A.sub
   have hxk := hx _ (getD_mem hk')
   obtain ⟨p, hpd⟩ : ∃ p, p = ps.getD k 0 := ⟨_, rfl⟩
   have hld := hp2.load hk'
   rw [← hpd] at hld hxk
   have hcode := Code_spec (hC.sub (T' := T76) (by decide)) (h := h2) hd hxk
   simp -implicitDefEqProofs (disch := first | assumption | decide | omega | (simp only [wpD1] <;> omega) | (simp only [wpD2] <;> assumption) | solve_by_elim [zR, zP, zV] | fail) only [↓wpPre, wpPost, wpPoly, Int.reduceToNat, Int.reducePow, Int.reduceMul, Int.reduceAdd, Int.reduceSub, Int.reduceNeg, Nat.reduceAdd, Nat.reduceMul, Nat.reducePow, Int.reduceLT, Int.reduceLE, Int.reduceEq, Nat.reduceEqDiff, e0, e1, e23, e25, hp2.idx, hld]
   refine ACallsK.of hcode ?_
   rintro r h3 ⟨v1, rfl, s1, R1, _⟩
   by_cases cc : codeErr d p = 0
   ·rw [cc, if_pos rfl] at R1
    rw [cc]
    have cl := codeL_length d p
    simp -implicitDefEqProofs (disch := first | assumption | decide | omega | (simp only [wpD1] <;> omega) | (simp only [wpD2] <;> assumption) | solve_by_elim [zR, zP, zV] | fail) only [↓wpPre, wpPost, wpPoly, Int.reduceToNat, Int.reducePow, Int.reduceMul, Int.reduceAdd, Int.reduceSub, Int.reduceNeg, Nat.reduceAdd, Nat.reduceMul, Nat.reducePow, Int.reduceLT, Int.reduceLE, Int.reduceEq, Nat.reduceEqDiff, lstErr, e1, R1.len, cl]
    have R1' := R1.mono (HSub.push1 h3 (.cells [.nilslice, .int .i64 (q : Nat)] true 0))
    refine wp_loopI (fun j t' h' => ∃ (i : Nat) (w : AV), GrwI h3 h' w (sampP d p q i) ∧ Dj (.ptr h3.size 0) w ∧ h'.get h3.size = some (.cells [w, .int .i64 (q : Nat)] true 0) ∧ h3.size + 1 ≤ h'.size ∧
     t' 0 = .int .i64 d ∧ t' 1 = .int .i64 (q : Nat) ∧ t' 9 = t 9 ∧ t' 14 = .ptr h3.size 0 ∧ t' 23 = vp ∧ t' 24 = .int .i64 (ps.length : Nat) ∧ t' 25 = .int .i64 (k : Nat) ∧ t' 40 = v1 ∧ t' 41 = .int .i64 (lenN d : Nat) ∧ t' 42 = .int .i64 (i : Nat) ∧ i ≤ lenN d ∧ j = lenN d - i) (j0 := lenN d)
     ⟨0, .nilslice, GrwI.nil' (HSub.push1 _ _), Dj.nilR, get_push_eq rfl, by simp, e0, e1, rfl, rfl, e23, e24, e25, rfl, rfl, rfl, by omega, rfl⟩ ?_
    rintro j t' h4 ⟨i, w, B, dj, gb, hsz, e0', e1', e9', e14', e23', e24', e25', e40', e41', e42', hi, hj'⟩
    simp -implicitDefEqProofs (disch := first | assumption | decide | omega | (simp only [wpD1] <;> omega) | (simp only [wpD2] <;> assumption) | solve_by_elim [zR, zP, zV] | fail) only [↓wpPre, wpPost, wpPoly, Int.reduceToNat, Int.reducePow, Int.reduceMul, Int.reduceAdd, Int.reduceSub, Int.reduceNeg, Nat.reduceAdd, Nat.reduceMul, Nat.reducePow, Int.reduceLT, Int.reduceLE, Int.reduceEq, Nat.reduceEqDiff, e41', e42']
    refine Br.by (fun c2 => ?_) (fun c2 => ?_)
    ·have hi' : i < lenN d := by omega
     have R4 := R1.mono B.sub
     have hl4 := R4.load (k := i) (by omega)
     obtain ⟨x, hx⟩ : ∃ x, x = (codeL d p).getD i 0 := ⟨_, rfl⟩
     rw [← hx] at hl4
     have rep := fun (H : Heap) (hg : H.get (h4.size + 3) = some (.cells [.int .i64 x] true 0)) => Repeat_spec (hC.sub (T' := T90) (by decide)) (v := .slice (h4.size + 3) 0 1 (.known 1)) (x := x) (n := q) (h := H) (RI.known hg ⟨rfl, by decide⟩ (by decide)) (by omega)
     simp -implicitDefEqProofs (disch := first | assumption | decide | omega | (simp only [wpD1] <;> omega) | (simp only [wpD2] <;> assumption) | solve_by_elim [zR, zP, zV] | fail) only [↓wpPre, wpPost, wpPoly, Int.reduceToNat, Int.reducePow, Int.reduceMul, Int.reduceAdd, Int.reduceSub, Int.reduceNeg, Nat.reduceAdd, Nat.reduceMul, Nat.reducePow, Int.reduceLT, Int.reduceLE, Int.reduceEq, Nat.reduceEqDiff, e1', e14', e40', e42', R4.idx, hl4, gb, Heap.wf]
     refine ACallsK.hide (fun H hH => ?_)
     have N : H.size = h4.size + 9 := by rw [hH]; simp -implicitDefEqProofs (disch := first | assumption | decide | omega | (simp only [wpD1] <;> omega) | (simp only [wpD2] <;> assumption) | solve_by_elim [zR, zP, zV] | fail) only [↓wpPre, wpPost, wpPoly, Int.reduceToNat, Int.reducePow, Int.reduceMul, Int.reduceAdd, Int.reduceSub, Int.reduceNeg, Nat.reduceAdd, Nat.reduceMul, Nat.reducePow, Int.reduceLT, Int.reduceLE, Int.reduceEq, Nat.reduceEqDiff]
     have g3 : H.get (h4.size + 3) = some (.cells [.int .i64 x] true 0) := by rw [hH]; simp -implicitDefEqProofs (disch := first | assumption | decide | omega | (simp only [wpD1] <;> omega) | (simp only [wpD2] <;> assumption) | solve_by_elim [zR, zP, zV] | fail) only [↓wpPre, wpPost, wpPoly, Int.reduceToNat, Int.reducePow, Int.reduceMul, Int.reduceAdd, Int.reduceSub, Int.reduceNeg, Nat.reduceAdd, Nat.reduceMul, Nat.reducePow, Int.reduceLT, Int.reduceLE, Int.reduceEq, Nat.reduceEqDiff]
     have gn : H.get (h4.size + 6) = none := by rw [hH]; simp -implicitDefEqProofs (disch := first | assumption | decide | omega | (simp only [wpD1] <;> omega) | (simp only [wpD2] <;> assumption) | solve_by_elim [zR, zP, zV] | fail) only [↓wpPre, wpPost, wpPoly, Int.reduceToNat, Int.reducePow, Int.reduceMul, Int.reduceAdd, Int.reduceSub, Int.reduceNeg, Nat.reduceAdd, Nat.reduceMul, Nat.reducePow, Int.reduceLT, Int.reduceLE, Int.reduceEq, Nat.reduceEqDiff, Heap.wf]
     have hs4 : HSub h4 H := by rw [hH]; exact (by repeat (first | exact HSub.refl _ | refine HSub.put ?_ (by (try simp only [Heap.size_put, Heap.size_push, Heap.size_reserve]); omega) _ | refine HSub.push ?_ _ | refine HSub.reserve ?_ _))
     clear hH
     refine ACallsK.of (rep H g3) ?_
     rintro r h5 F
     have F' := F
     obtain ⟨s5, fl, i5, hi5, rfl, g5⟩ := F'
     have z5 := s5.size
     have gb5 : h5.get h3.size = some (.cells [w, .int .i64 (q : Nat)] true 0) := (s5.get _ (by omega)).trans ((hs4.get _ (by omega)).trans gb)
     have gb6 : H.get h3.size = some (.cells [w, .int .i64 (q : Nat)] true 0) := (hs4.get _ (by omega)).trans gb
     have gn5 : h5.get (h4.size + 6) = none := (s5.get _ (by omega)).trans gn
     have sp := sampP_succ (d := d) (p := p) (o := q) (k := i) (by omega)
     rw [← hx] at sp
     have sl := sampP_length (d := d) (p := p) (o := q) i (by omega)
     have iq : i * q ≤ 1023 * 8 := Nat.mul_le_mul (by omega) (by omega)
     have ap := Grw.appG (H := h5) (k := h4.size + 6) (m := q) (bytes := 8) (news := ints (List.replicate q x)) B (fun j hj => (s5.get _ (by have := (Grw.ids_lt B j hj).2; omega)).trans (hs4.get _ (Grw.ids_lt B j hj).2)) ⟨by omega, by omega⟩ (by omega) (by rw [sl]; omega) ints_one
     rw [ints_append, ← sp] at ap
     have cF := F.ri.content
     simp only [List.length_replicate] at cF
     have cN : (List.replicate q x).length = q := List.length_replicate
     have hw : h3.size ∉ w.ids := dj _ (by simp [AV.ids])
     have gS : (snocH h5 (some (h4.size + 6)) w 1 (ints (sampP d p q (i + 1)))).get h3.size = some (.cells [w, .int .i64 (q : Nat)] true 0) := (snocS_ne (by omega) hw).trans gb5
     have zS : (snocH h5 (some (h4.size + 6)) w 1 (ints (sampP d p q (i + 1)))).size = h5.size := snocS_size
     have rS : (snocH h5 (some (h4.size + 6)) w 1 (ints (sampP d p q (i + 1)))).get (h4.size + 6) = some (.cells (ints (sampP d p q (i + 1))) true 1) := snocS_same (by omega)
     have bS := snocS_sub (k := h4.size + 6) (ds := ints (sampP d p q (i + 1))) B ((B.sub.trans hs4).trans s5) (by have := B.sub.size; omega)
     have sl2 := sampP_length (d := d) (p := p) (o := q) (i + 1) (by omega)
     have iq2 : (i + 1) * q ≤ 1023 * 8 := Nat.mul_le_mul (by omega) (by omega)
     have slq : (sampP d p q i).length + q = (sampP d p q (i + 1)).length := by rw [sp, List.length_append, List.length_replicate]
     simp -implicitDefEqProofs (disch := first | assumption | decide | omega | (simp only [wpD1] <;> omega) | (simp only [wpD2] <;> assumption) | solve_by_elim [zR, zP, zV] | fail) only [↓wpPre, wpPost, wpPoly, Int.reduceToNat, Int.reducePow, Int.reduceMul, Int.reduceAdd, Int.reduceSub, Int.reduceNeg, Nat.reduceAdd, Nat.reduceMul, Nat.reducePow, Int.reduceLT, Int.reduceLE, Int.reduceEq, Nat.reduceEqDiff, cN, gb5, gb6, gn5, cF, ap, appK_none, e14']
     refine ⟨gb.symm, ?_⟩
     simp -implicitDefEqProofs (disch := first | assumption | decide | omega | (simp only [wpD1] <;> omega) | (simp only [wpD2] <;> assumption) | solve_by_elim [zR, zP, zV] | fail) only [↓wpPre, wpPost, wpPoly, Int.reduceToNat, Int.reducePow, Int.reduceMul, Int.reduceAdd, Int.reduceSub, Int.reduceNeg, Nat.reduceAdd, Nat.reduceMul, Nat.reducePow, Int.reduceLT, Int.reduceLE, Int.reduceEq, Nat.reduceEqDiff, gS, e0', e1', e9', e14', e23', e24', e25', e40', e41', e42']
     refine ⟨_, ⟨i + 1, _, grwI_mk (bS.put (Nat.le_refl _) _) (by have := B.sub.size; omega) ⟨slq, by omega⟩ ((get_put_ne (by omega)).trans rS), ?_, rfl, by rw [zS]; omega, by simp, by omega, rfl⟩, by omega⟩
     intro j hj
     simp only [AV.ids, List.mem_singleton] at hj ⊢
     omega
    ·have ei : i = lenN d := by omega
     subst ei
     have wone : w.one = true := (Grw.sl B).one
     have full : sampP d p q (lenN d) = sampL d p q := by rw [← sampP_full, codeL_length]
     rw [full] at B
     have A4 := A.mono (s1.trans B.sub)
     have hn1 : [w, AV.int .i64 (q : Nat)].all AV.one = true := by simp [wone, one_int]
     have ap := fun b => Grw.app A4 (bytes := 32) (m := 1) (news := [w, .int .i64 (q : Nat)]) (HSub.push1 h4 b) (by decide) (by omega) hn1
     have A5 := fun b => Grw.snoc A4 (m := 1) (news := [w, .int .i64 (q : Nat)]) (HSub.push1 h4 b) rfl (by omega)
     rw [← codeCells_snoc] at ap A5
     simp -implicitDefEqProofs (disch := first | assumption | decide | omega | (simp only [wpD1] <;> omega) | (simp only [wpD2] <;> assumption) | solve_by_elim [zR, zP, zV] | fail) only [↓wpPre, wpPost, wpPoly, Int.reduceToNat, Int.reducePow, Int.reduceMul, Int.reduceAdd, Int.reduceSub, Int.reduceNeg, Nat.reduceAdd, Nat.reduceMul, Nat.reducePow, Int.reduceLT, Int.reduceLE, Int.reduceEq, Nat.reduceEqDiff, e9', e14', gb, cont_slice, contB_two, ap, e0', e1', e23', e24', e25']
     have B0 : GrwI h h4 w (sampL d p q) := B.base (A.sub.trans s1)
     have z1 := s1.size
     have z4 := B.sub.size
     have dw : Dj w (t 9) := fun j hj hj9 => by
      have q1 := (Grw.ids_lt B j hj).1
      have q2 := (Grw.ids_lt A j hj9).2
      omega
     refine ⟨_, ⟨k + 1, vs ++ [w], A5 _, by simp [hvl], fun i hi => ?_, fun i hi => ?_, by simp, by omega, rfl⟩, by omega⟩
     ·rcases Nat.lt_or_ge i k with x | x
      ·have e : (vs ++ [w]).getD i .nilslice = vs.getD i .nilslice := by simp [List.getD_eq_getElem?_getD, List.getElem?_append_left (show i < vs.length by omega)]
       rw [e]
       have B1 := (hvs i x).1.mono (s1.trans B.sub)
       exact ⟨Grw.keep A4 B1 (HSub.push1 _ _) (hvs i x).2, Grw.dj B1 (by omega)⟩
      ·have ei : i = k := by omega
       subst ei
       have e : (vs ++ [w]).getD i .nilslice = w := by simp [List.getD_eq_getElem?_getD, ← hvl]
       rw [e, ← hpd]
       exact ⟨Grw.keep A4 B0 (HSub.push1 _ _) dw, Grw.dj B0 (by omega)⟩
     ·rcases Nat.lt_or_ge i k with x | x
      ·exact hce i x
      ·have ei : i = k := by omega
       subst ei
       rw [← hpd]; exact cc
   ·have c2 : codeErr d p = 2 := by unfold codeErr at cc ⊢; split at cc <;> first | exact absurd rfl cc | (rename_i h; rw [if_neg h])
    rw [c2]
    simp -implicitDefEqProofs (disch := first | assumption | decide | omega | (simp only [wpD1] <;> omega) | (simp only [wpD2] <;> assumption) | solve_by_elim [zR, zP, zV] | fail) only [↓wpPre, wpPost, wpPoly, Int.reduceToNat, Int.reducePow, Int.reduceMul, Int.reduceAdd, Int.reduceSub, Int.reduceNeg, Nat.reduceAdd, Nat.reduceMul, Nat.reducePow, Int.reduceLT, Int.reduceLE, Int.reduceEq, Nat.reduceEqDiff, lstErr]
    have hne : ¬ ∀ p ∈ ps, codeErr d p = 0 := fun h => cc (h _ (by rw [hpd]; exact getD_mem hk'))
    rw [pe, if_neg hne]
    exact ⟨_, [], rfl, A.sub.trans s1, fun h => by cases h⟩
  ·have ek : k = ps.length := by omega
   subst ek
   have hall : ∀ p ∈ ps, codeErr d p = 0 := fun p hp => by
    obtain ⟨i, hi, rfl⟩ := List.mem_iff_getElem.1 hp
    have := hce i hi
    rwa [List.getD_eq_getElem?_getD, List.getElem?_eq_getElem hi] at this
   rw [pe, if_pos hall]
   simp -implicitDefEqProofs (disch := first | assumption | decide | omega | (simp only [wpD1] <;> omega) | (simp only [wpD2] <;> assumption) | solve_by_elim [zR, zP, zV] | fail) only [↓wpPre, wpPost, wpPoly, Int.reduceToNat, Int.reducePow, Int.reduceMul, Int.reduceAdd, Int.reduceSub, Int.reduceNeg, Nat.reduceAdd, Nat.reduceMul, Nat.reducePow, Int.reduceLT, Int.reduceLE, Int.reduceEq, Nat.reduceEqDiff]
   exact ⟨_, vs, rfl, A.sub, fun _ => ⟨⟨A.sl, hvl, fun i hi => by rw [Int.toNat_natCast]; exact (hvs i hi).1.ri⟩, fun i hi => (hvs i hi).1⟩⟩
 ·have pe : sampErr d o ps = 2 := by unfold sampErr; rw [if_neg (fun h => ck h.1)]
  have ck2 : knownErr d o = 2 := by unfold knownErr at ck ⊢; split at ck <;> first | exact absurd rfl ck | (rename_i h; rw [if_neg h])
  rw [pe]
  (refine calls_intro (hC.body (by decide) tab142) (Nat.le_of_ble_eq_true rfl) ?_); (show wp C _ none B142.code _ _); (simp only [B142]); simp -implicitDefEqProofs (disch := first | assumption | decide | omega | (simp only [wpD1] <;> omega) | (simp only [wpD2] <;> assumption) | solve_by_elim [zR, zP, zV] | fail) only [↓wpPre, wpPost, wpPoly, Int.reduceToNat, Int.reducePow, Int.reduceMul, Int.reduceAdd, Int.reduceSub, Int.reduceNeg, Nat.reduceAdd, Nat.reduceMul, Nat.reducePow, Int.reduceLT, Int.reduceLE, Int.reduceEq, Nat.reduceEqDiff]
  refine ACallsK.eq (known09_spec (hC.sub (T' := T150) (by decide)) hd ho) ?_
  rw [ck2]
  simp -implicitDefEqProofs (disch := first | assumption | decide | omega | (simp only [wpD1] <;> omega) | (simp only [wpD2] <;> assumption) | solve_by_elim [zR, zP, zV] | fail) only [↓wpPre, wpPost, wpPoly, Int.reduceToNat, Int.reducePow, Int.reduceMul, Int.reduceAdd, Int.reduceSub, Int.reduceNeg, Nat.reduceAdd, Nat.reduceMul, Nat.reducePow, Int.reduceLT, Int.reduceLE, Int.reduceEq, Nat.reduceEqDiff]
  exact ⟨_, [], rfl, HSub.refl _⟩
theorem sampled_spec (hC : Has C T142) {d o : Int} {vp : AV} {ps : List Int} {h : Heap} (hd : In64 d) (ho : In64 o) (hp : RI h vp ps) (hx : ∀ x ∈ ps, In64 x) (hpl : ps.length ≤ 1000) :
  ACalls C 142 [.int .i64 d, .int .i64 o, vp] h (fun r h' => ∃ v vs, r = lstErr v (sampErr d o ps) ∧ HSub h h' ∧ (sampErr d o ps = 0 → CLs h' v d o ps vs)) :=
 (sampled_specF hC hd ho hp hx hpl).mono fun _ _ ⟨v, vs, q1, q2, q3⟩ => ⟨v, vs, q1, q2, fun e => (q3 e).1⟩
end
end Go.Ae
/- The samples of a code, of the program; the samples by their places. -/
set_option linter.unusedSimpArgs false
set_option linter.unusedVariables false
namespace Go.Ae
theorem sampP_eq (d p : Int) {o : Nat} (ho : 1 ≤ o) : ∀ k, k ≤ lenN d → sampP d p o k = (List.range (k * o)).map fun i => (codeL d p).getD (i / o) 0
 | 0, _ => by simp [sampP]
 | k + 1, h => by
  have hl := codeL_length d p
  rw [sampP_succ (by omega), sampP_eq d p ho k (by omega), Nat.add_mul, Nat.one_mul, List.range_add, List.map_append]
  congr 1
  rw [List.map_map]
  refine List.ext_getElem (by simp) fun i h1 h2 => ?_
  have hi : i < o := by simpa using h1
  simp only [List.getElem_replicate, List.getElem_map, List.getElem_range, Function.comp]
  rw [Nat.mul_comm k o, Nat.mul_add_div (by omega), Nat.div_eq_of_lt hi, Nat.add_zero]
theorem sampL_eq (d p : Int) {o : Nat} (ho : 1 ≤ o) : sampL d p o = (List.range (lenN d * o)).map fun i => (codeL d p).getD (i / o) 0 := by
 rw [← sampP_full, codeL_length, sampP_eq d p ho _ (Nat.le_refl _)]
theorem sampErr_one (d o p : Int) : sampErr d o [p] = if knownErr d o = 0 ∧ codeErr d p = 0 then 0 else 2 := by simp [sampErr]
section
variable {C : Ctx}
theorem SamplesC_spec (hC : Has C T131) {d o p : Int} {h : Heap} (hd : In64 d) (ho : In64 o) (hp : In64 p) :
  ACalls C 131 [.int .i64 d, .int .i64 o, .int .i64 p] h (fun r h' => ∃ v, r = lstErr v (sampErr d o [p]) ∧ HSub h h' ∧ RI h' v (if sampErr d o [p] = 0 then sampL d p o.toNat else [])) := by
 have hsd := fun (h : Heap) (i : Nat) (hg : h.get i = some (.cells [.int .i64 p] true 0)) => sampled_spec (hC.sub (T' := T142) (by decide)) (vp := .slice i 0 1 (.known 1)) (ps := [p]) (h := h) hd ho (RI.known hg ⟨rfl, by decide⟩ (by decide)) (by simpa using hp) (by simp)
 (refine calls_intro (hC.body (by decide) tab131) (Nat.le_of_ble_eq_true rfl) ?_); (show wp C _ none B131.code _ _); (simp only [B131]); simp -implicitDefEqProofs (disch := first | assumption | decide | omega | (simp only [wpD1] <;> omega) | (simp only [wpD2] <;> assumption) | solve_by_elim [zR, zP, zV] | fail) only [↓wpPre, wpPost, wpPoly, Int.reduceToNat, Int.reducePow, Int.reduceMul, Int.reduceAdd, Int.reduceSub, Int.reduceNeg, Nat.reduceAdd, Nat.reduceMul, Nat.reducePow, Int.reduceLT, Int.reduceLE, Int.reduceEq, Nat.reduceEqDiff]
 refine ACallsK.of (hsd _ _ (get_push_eq rfl)) ?_
 rintro r h1 ⟨v, vs, rfl, s1, hcl⟩
 by_cases c : sampErr d o [p] = 0
 ·have cl := hcl c
  rw [c, if_pos rfl]
  obtain ⟨w, rfl⟩ : ∃ w, vs = [w] := by
   have := cl.len
   match vs, this with
   | [w], _ => exact ⟨w, rfl⟩
  have ld := cl.sl.loadE (k := 0) (off := 0) (by simp) (by decide)
  rw [show (codeCells [w] o)[0 * 2 + 0]? = some w from rfl] at ld
  have ix : idxA 2 v (.int .i64 0) = some (elA 2 v 0) := cl.sl.idx (k := 0) (by simp)
  have fx : fieldAddrA 0 (elA 2 v 0) = some (elF 2 v 0 0) := cl.sl.fldE 0 0 (by simp)
  simp -implicitDefEqProofs (disch := first | assumption | decide | omega | (simp only [wpD1] <;> omega) | (simp only [wpD2] <;> assumption) | solve_by_elim [zR, zP, zV] | fail) only [↓wpPre, wpPost, wpPoly, Int.reduceToNat, Int.reducePow, Int.reduceMul, Int.reduceAdd, Int.reduceSub, Int.reduceNeg, Nat.reduceAdd, Nat.reduceMul, Nat.reducePow, Int.reduceLT, Int.reduceLE, Int.reduceEq, Nat.reduceEqDiff, lstErr, ix, fx, ld]
  exact ⟨_, rfl, (HSub.push1 _ _).trans s1, cl.ri 0 (by simp)⟩
 ·have e2 : sampErr d o [p] = 2 := by unfold sampErr at c ⊢; split at c <;> first | exact absurd rfl c | (rename_i h; rw [if_neg h])
  rw [e2, if_neg (by decide)]
  simp -implicitDefEqProofs (disch := first | assumption | decide | omega | (simp only [wpD1] <;> omega) | (simp only [wpD2] <;> assumption) | solve_by_elim [zR, zP, zV] | fail) only [↓wpPre, wpPost, wpPoly, Int.reduceToNat, Int.reducePow, Int.reduceMul, Int.reduceAdd, Int.reduceSub, Int.reduceNeg, Nat.reduceAdd, Nat.reduceMul, Nat.reducePow, Int.reduceLT, Int.reduceLE, Int.reduceEq, Nat.reduceEqDiff, lstErr]
  exact ⟨_, rfl, (HSub.push1 _ _).trans s1, RI.nil⟩
end
end Go.Ae
/- Parts of placements and their greatest sum, in plain numbers. -/
set_option linter.unusedSimpArgs false
set_option linter.unusedVariables false
namespace Go.Ae
def ps (a b : List Int) (m : Nat) : Nat → Int
 | 0 => 0
 | k + 1 => ps a b m k + a.getD (m + k) 0 * b.getD k 0
def one1 (l : List Int) : Prop := ∀ x ∈ l, -1 ≤ x ∧ x ≤ 1
theorem one1.get {l : List Int} (h : one1 l) (i : Nat) : -1 ≤ l.getD i 0 ∧ l.getD i 0 ≤ 1 := by
 by_cases c : i < l.length
 ·exact h _ (getD_mem c)
 ·rw [List.getD_eq_getElem?_getD, List.getElem?_eq_none (by omega)]; decide
theorem sampL_one1 (d p : Int) (o : Nat) : one1 (sampL d p o) := by
 intro x hx
 unfold sampL at hx
 obtain ⟨l, hl, hxl⟩ := List.mem_flatten.1 hx
 obtain ⟨y, hy, rfl⟩ := List.mem_map.1 hl
 have := codeL_range y hy
 rw [(List.mem_replicate.1 hxl).2]; exact this
end Go.Ae
/- Correlators, in plain numbers. -/
set_option linter.unusedSimpArgs false
set_option linter.unusedVariables false
namespace Go.Ae
def inS (B : Int) (x : Int × Int) : Prop := (-B ≤ x.1 ∧ x.1 ≤ B) ∧ (-B ≤ x.2 ∧ x.2 ≤ B)
instance (B : Int) (x : Int × Int) : Decidable (inS B x) := by unfold inS; exact inferInstance
def addP (x y : Int × Int) : Int × Int := (x.1 + y.1, x.2 + y.2)
def powP (x : Int × Int) : Int := IntKind.i64.wrap (IntKind.i64.wrap (x.1 * x.1) + IntKind.i64.wrap (x.2 * x.2))
def smE (l : List (Int × Int)) (most : Nat) : Int := if most < l.length then 4 else if ∀ x ∈ l, inS 1048576 x then 0 else 2
def spinK (l : List (Int × Int)) (st : Int) : Nat → Int × Int
 | 0 => (0, 0)
 | k + 1 => addP (spinK l st k) (mixP (l.getD k (0, 0)) (carP (phI 0 st k)))
theorem mix_le {x t : Int × Int} {B : Int} (hx : inS B x) (ht : -127 ≤ t.1 ∧ t.1 ≤ 127 ∧ -127 ≤ t.2 ∧ t.2 ≤ 127) : inS (2 * (B * 127)) (mixP x t) := by
 have a1 := mul_le127 hx.1 ⟨ht.1, ht.2.1⟩
 have a2 := mul_le127 hx.2 ⟨ht.2.2.1, ht.2.2.2⟩
 have a3 := mul_le127 hx.2 ⟨ht.1, ht.2.1⟩
 have a4 := mul_le127 hx.1 ⟨ht.2.2.1, ht.2.2.2⟩
 unfold inS mixP
 simp only
 omega
theorem spinK_le {l : List (Int × Int)} {st : Int} (h : ∀ x ∈ l, inS 1048576 x) : ∀ k : Nat, k ≤ l.length → inS (k * 266338304) (spinK l st k)
 | 0, _ => by simp [inS, spinK]
 | k + 1, hk => by
  have ih := spinK_le (st := st) h k (by omega)
  have hm := mix_le (h _ (getP_mem (l := l) (k := k) (by omega))) (carP_le (phI_u32 0 st k))
  rw [spinK]
  unfold inS addP at *
  simp only
  omega
def stepP (l : List (Int × Int)) (bins : Int) (j : Nat) : Int := powP (spinK l ((j : Int) * (4294967296 / bins) % 4294967296) l.length)
def stepsL (l : List (Int × Int)) (bins : Int) (k : Nat) : List Int := (List.range k).map fun j => stepP l bins j
theorem stepsL_length (l : List (Int × Int)) (bins : Int) (k : Nat) : (stepsL l bins k).length = k := by simp [stepsL]
theorem stepsL_succ (l : List (Int × Int)) (bins : Int) (k : Nat) : stepsL l bins (k + 1) = stepsL l bins k ++ [stepP l bins k] := by simp [stepsL, List.range_succ]
def binsOk (b : Int) : Prop := b = 1 ∨ b = 2 ∨ b = 4 ∨ b = 8 ∨ b = 16 ∨ b = 32 ∨ b = 64
instance (b : Int) : Decidable (binsOk b) := by unfold binsOk; exact inferInstance
def stepsE (l : List (Int × Int)) (b : Int) : Int := if smE l 16 ≠ 0 then smE l 16 else if binsOk b then 0 else 3
def bestK (l : List (Int × Int)) : Nat → Nat
 | 0 => 0
 | k + 1 => if powP (l.getD (bestK l k) (0, 0)) < powP (l.getD k (0, 0)) then k else bestK l k
theorem bestK_lt (l : List (Int × Int)) : ∀ k, bestK l k ≤ k - 1
 | 0 => by simp [bestK]
 | k + 1 => by
  have := bestK_lt l k
  rw [bestK]; split <;> omega
def bestE (l : List (Int × Int)) : Int := if l.length = 0 then 3 else smE l 8192
end Go.Ae
/- Waves of the program and of the reference. -/
set_option linter.unusedSimpArgs false
set_option linter.unusedVariables false
namespace Go.Ae
def KnownCap (v : AV) : Prop := v = .nilslice ∨ ∃ i o n c, v = .slice i o n (.known c)
theorem SL.dropK {h : Heap} {sz n a : Nat} {v : AV} {cs : List AV} {kk : IntKind} (H : SL h sz v n cs) (K : KnownCap v) (ha : a ≤ n) : ∃ v', (∀ h', sliceA h' sz v (some (.int kk (a : Nat))) none none = some v') ∧ SL h sz v' (n - a) (cs.drop (a * sz)) := by
 obtain ⟨hl, hlt, ⟨rfl, rfl⟩ | ⟨i, o, cp, vs, wr, u, rfl, hg, hle, hc, hcap⟩⟩ := H
 ·have : a = 0 := by omega
  subst this
  have : cs = [] := List.eq_nil_of_length_eq_zero (by omega)
  subst this
  exact ⟨.nilslice, fun _ => rfl, by simp, by omega, .inl ⟨rfl, rfl⟩⟩
 ·obtain ⟨c, rfl⟩ : ∃ c, cp = .known c := by
   rcases K with K | ⟨_, _, _, c, K⟩
   ·cases K
   ·cases K; exact ⟨c, rfl⟩
  dsimp only at hcap
  have hbd : boundsA n c (some (.int kk (a : Nat))) none none = some (a, n, c) := bounds_ok (len := n) (cap := c) (a := a) (b := n) (c := c) rfl rfl rfl ⟨ha, hcap, Nat.le_refl _⟩
  refine ⟨.slice i (if c = a then o else o + a * sz) (n - a) (.known (c - a)), fun _ => by simp only [sliceA, hbd], ?_⟩
  have hm : a * sz ≤ n * sz := Nat.mul_le_mul_right _ ha
  have hs : (n - a) * sz = n * sz - a * sz := Nat.sub_mul _ _ _
  refine ⟨by rw [List.length_drop, hl, hs], by omega, .inr ⟨i, _, _, vs, wr, u, rfl, hg, ?_, ?_, by dsimp only; omega⟩⟩
  ·split
   ·rename_i e; have : n - a = 0 := by omega
    rw [this]; omega
   ·omega
  ·subst hc
   split
   ·rename_i e; have : n = a := by omega
    subst this
    simp [cut]
   ·simp only [cut, List.drop_take, List.drop_drop, hs]
theorem SI.dropK {h : Heap} {v : AV} {l : List (Int × Int)} {a : Nat} {kk : IntKind} (H : SI h v l) (K : KnownCap v) (ha : a ≤ l.length) : ∃ v', (∀ h', sliceA h' 2 v (some (.int kk (a : Nat))) none none = some v') ∧ SI h v' (l.drop a) := by
 obtain ⟨v', e, q⟩ := SL.dropK (kk := kk) H K ha
 refine ⟨v', e, ?_⟩
 rw [smps_drop] at q
 unfold SI
 rwa [List.length_drop]
section
variable {C : Ctx}
end
end Go.Ae
/- Mixes of the program and of the reference. -/
set_option linter.unusedSimpArgs false
set_option linter.unusedVariables false
namespace Go.Ae
def wipeE (p : Int × Int) (ph : Int) : AV := if smallP p then .tuple [smp (mixP p (carP ph)), .int .i64 0] else .tuple [smp (0, 0), .int .i64 2]
theorem wipeE_free (p : Int × Int) (ph : Int) : (wipeE p ph).free := by
 unfold wipeE
 split <;> exact free_tuple (by simp [smp, AV.free, AV.bel, AV.bels])
section
variable {C : Ctx}
theorem small147_spec (hC : Has C T147) {p : Int × Int} {h : Heap} : ACalls C 147 [smp p] h (fun r h' => r = .bool (decide (smallP p)) ∧ h' = h) := by
 refine ACalls.gc0 (P := fun r h' => r = .bool (decide (smallP p)) ∧ HSub h h') ?_ (fun r h' hp => ⟨by rw [hp.1]; trivial, hp.2, hp.1, rfl⟩)
 obtain ⟨x, y⟩ := p
 unfold smp smallP
 (refine calls_intro (hC.body (by decide) tab147) (Nat.le_of_ble_eq_true rfl) ?_); (show wp C _ none B147.code _ _); (simp only [B147]); simp -implicitDefEqProofs (disch := first | assumption | decide | omega | (simp only [wpD1] <;> omega) | (simp only [wpD2] <;> assumption) | solve_by_elim [zR, zP, zV] | fail) only [↓wpPre, wpPost, wpPoly, Int.reduceToNat, Int.reducePow, Int.reduceMul, Int.reduceAdd, Int.reduceSub, Int.reduceNeg, Nat.reduceAdd, Nat.reduceMul, Nat.reducePow, Int.reduceLT, Int.reduceLE, Int.reduceEq, Nat.reduceEqDiff]
 (repeat' (first | (refine Br.by (fun _ => ?_) (fun _ => ?_)) | (simp -implicitDefEqProofs (disch := first | assumption | decide | omega | (simp only [wpD1] <;> omega) | (simp only [wpD2] <;> assumption) | solve_by_elim [zR, zP, zV] | fail) only [↓wpPre, wpPost, wpPoly, Int.reduceToNat, Int.reducePow, Int.reduceMul, Int.reduceAdd, Int.reduceSub, Int.reduceNeg, Nat.reduceAdd, Nat.reduceMul, Nat.reducePow, Int.reduceLT, Int.reduceLE, Int.reduceEq, Nat.reduceEqDiff])))
 all_goals first
  | exact ⟨by congr 1; apply decide_eq_decide.2; constructor <;> intro q <;> omega, HSub.push1 _ _⟩
  | (refine ⟨?_, HSub.push1 _ _⟩; congr 1; first | (rw [eq_comm]; apply decide_eq_false; omega) | (rw [eq_comm]; apply decide_eq_true; omega))
theorem Wipe_spec (hC : Has C T137) {p : Int × Int} {ph : Int} {h : Heap} (hp : U32 ph) : ACalls C 137 [smp p, .int .u32 ph] h (fun r h' => r = wipeE p ph ∧ h' = h) := by
 refine ACalls.gc0 (P := fun r h' => r = wipeE p ph ∧ HSub h h') ?_ (fun r h' hp => ⟨by rw [hp.1]; exact wipeE_free _ _, hp.2, hp.1, rfl⟩)
 have hc := carP_le hp
 have hsm := fun h => small147_spec (p := p) (h := h) (hC.sub (T' := T147) (by decide))
 have hca := fun h => Carrier_spec (h := h) (hC.sub (T' := T135) (by decide)) hp
 unfold wipeE
 obtain ⟨x, y⟩ := p
 generalize carP ph = q at hc hca ⊢
 obtain ⟨u, w⟩ := q
 unfold smp at hsm hca ⊢
 by_cases c : smallP (x, y)
 ·rw [if_pos c]
  have c' := c
  unfold smallP at c'
  have m1 := mul_le127 c'.1 ⟨hc.1, hc.2.1⟩
  have m2 := mul_le127 c'.2 ⟨hc.2.2.1, hc.2.2.2⟩
  have m3 := mul_le127 c'.2 ⟨hc.1, hc.2.1⟩
  have m4 := mul_le127 c'.1 ⟨hc.2.2.1, hc.2.2.2⟩
  simp only at m1 m2 m3 m4 c'
  (refine calls_intro (hC.body (by decide) tab137) (Nat.le_of_ble_eq_true rfl) ?_); (show wp C _ none B137.code _ _); (simp only [B137]); simp -implicitDefEqProofs (disch := first | assumption | decide | omega | (simp only [wpD1] <;> omega) | (simp only [wpD2] <;> assumption) | solve_by_elim [zR, zP, zV] | fail) only [↓wpPre, wpPost, wpPoly, Int.reduceToNat, Int.reducePow, Int.reduceMul, Int.reduceAdd, Int.reduceSub, Int.reduceNeg, Nat.reduceAdd, Nat.reduceMul, Nat.reducePow, Int.reduceLT, Int.reduceLE, Int.reduceEq, Nat.reduceEqDiff]
  refine ACallsK.eq (hsm _) ?_
  simp -implicitDefEqProofs (disch := first | assumption | decide | omega | (simp only [wpD1] <;> omega) | (simp only [wpD2] <;> assumption) | solve_by_elim [zR, zP, zV] | fail) only [↓wpPre, wpPost, wpPoly, Int.reduceToNat, Int.reducePow, Int.reduceMul, Int.reduceAdd, Int.reduceSub, Int.reduceNeg, Nat.reduceAdd, Nat.reduceMul, Nat.reducePow, Int.reduceLT, Int.reduceLE, Int.reduceEq, Nat.reduceEqDiff]
  refine ACallsK.eq (hca _) ?_
  simp -implicitDefEqProofs (disch := first | assumption | decide | omega | (simp only [wpD1] <;> omega) | (simp only [wpD2] <;> assumption) | solve_by_elim [zR, zP, zV] | fail) only [↓wpPre, wpPost, wpPoly, Int.reduceToNat, Int.reducePow, Int.reduceMul, Int.reduceAdd, Int.reduceSub, Int.reduceNeg, Nat.reduceAdd, Nat.reduceMul, Nat.reducePow, Int.reduceLT, Int.reduceLE, Int.reduceEq, Nat.reduceEqDiff]
  exact ⟨rfl, ((HSub.push1 _ _).push _).push _⟩
 ·rw [if_neg c]
  (refine calls_intro (hC.body (by decide) tab137) (Nat.le_of_ble_eq_true rfl) ?_); (show wp C _ none B137.code _ _); (simp only [B137]); simp -implicitDefEqProofs (disch := first | assumption | decide | omega | (simp only [wpD1] <;> omega) | (simp only [wpD2] <;> assumption) | solve_by_elim [zR, zP, zV] | fail) only [↓wpPre, wpPost, wpPoly, Int.reduceToNat, Int.reducePow, Int.reduceMul, Int.reduceAdd, Int.reduceSub, Int.reduceNeg, Nat.reduceAdd, Nat.reduceMul, Nat.reducePow, Int.reduceLT, Int.reduceLE, Int.reduceEq, Nat.reduceEqDiff]
  refine ACallsK.eq (hsm _) ?_
  simp -implicitDefEqProofs (disch := first | assumption | decide | omega | (simp only [wpD1] <;> omega) | (simp only [wpD2] <;> assumption) | solve_by_elim [zR, zP, zV] | fail) only [↓wpPre, wpPost, wpPoly, Int.reduceToNat, Int.reducePow, Int.reduceMul, Int.reduceAdd, Int.reduceSub, Int.reduceNeg, Nat.reduceAdd, Nat.reduceMul, Nat.reducePow, Int.reduceLT, Int.reduceLE, Int.reduceEq, Nat.reduceEqDiff]
  exact (HSub.push1 _ _).push _
end
end Go.Ae
/- Small lists of complex integers, spins and powers, of the program and of the reference. -/
set_option linter.unusedSimpArgs false
set_option linter.unusedVariables false
namespace Go.Ae
section
variable {C : Ctx}
theorem inside_spec (hC : Has C T300) {p : Int × Int} {B : Int} {h : Heap} (hB : 0 ≤ B ∧ B ≤ 4294967296) : ACalls C 300 [smp p, .int .i64 B] h (fun r h' => r = .bool (decide (inS B p)) ∧ h' = h) := by
 refine ACalls.gc0 (P := fun r h' => r = .bool (decide (inS B p)) ∧ HSub h h') ?_ (fun r h' hp => ⟨by rw [hp.1]; trivial, hp.2, hp.1, rfl⟩)
 obtain ⟨x, y⟩ := p
 unfold smp inS
 (refine calls_intro (hC.body (by decide) tab300) (Nat.le_of_ble_eq_true rfl) ?_); (show wp C _ none B300.code _ _); (simp only [B300]); simp -implicitDefEqProofs (disch := first | assumption | decide | omega | (simp only [wpD1] <;> omega) | (simp only [wpD2] <;> assumption) | solve_by_elim [zR, zP, zV] | fail) only [↓wpPre, wpPost, wpPoly, Int.reduceToNat, Int.reducePow, Int.reduceMul, Int.reduceAdd, Int.reduceSub, Int.reduceNeg, Nat.reduceAdd, Nat.reduceMul, Nat.reducePow, Int.reduceLT, Int.reduceLE, Int.reduceEq, Nat.reduceEqDiff]
 (repeat' (first | (refine Br.by (fun _ => ?_) (fun _ => ?_)) | (simp -implicitDefEqProofs (disch := first | assumption | decide | omega | (simp only [wpD1] <;> omega) | (simp only [wpD2] <;> assumption) | solve_by_elim [zR, zP, zV] | fail) only [↓wpPre, wpPost, wpPoly, Int.reduceToNat, Int.reducePow, Int.reduceMul, Int.reduceAdd, Int.reduceSub, Int.reduceNeg, Nat.reduceAdd, Nat.reduceMul, Nat.reducePow, Int.reduceLT, Int.reduceLE, Int.reduceEq, Nat.reduceEqDiff])))
 all_goals first
  | exact ⟨by congr 1; apply decide_eq_decide.2; constructor <;> intro q <;> omega, HSub.push1 _ _⟩
  | (refine ⟨?_, HSub.push1 _ _⟩; congr 1; first | (rw [eq_comm]; apply decide_eq_false; omega) | (rw [eq_comm]; apply decide_eq_true; omega))
theorem out299_spec (hC : Has C T299) {p : Int × Int} {h : Heap} : ACalls C 299 [smp p] h (fun r h' => r = .bool (!decide (inS 1048576 p)) ∧ h' = h) := by
 refine ACalls.gc0 (P := fun r h' => r = .bool (!decide (inS 1048576 p)) ∧ HSub h h') ?_ (fun r h' hp => ⟨by rw [hp.1]; trivial, hp.2, hp.1, rfl⟩)
 have hI := fun h => inside_spec (p := p) (B := 1048576) (h := h) (hC.sub (T' := T300) (by decide)) (by omega)
 obtain ⟨x, y⟩ := p
 unfold smp at hI ⊢
 (refine calls_intro (hC.body (by decide) tab299) (Nat.le_of_ble_eq_true rfl) ?_); (show wp C _ none B299.code _ _); (simp only [B299]); simp -implicitDefEqProofs (disch := first | assumption | decide | omega | (simp only [wpD1] <;> omega) | (simp only [wpD2] <;> assumption) | solve_by_elim [zR, zP, zV] | fail) only [↓wpPre, wpPost, wpPoly, Int.reduceToNat, Int.reducePow, Int.reduceMul, Int.reduceAdd, Int.reduceSub, Int.reduceNeg, Nat.reduceAdd, Nat.reduceMul, Nat.reducePow, Int.reduceLT, Int.reduceLE, Int.reduceEq, Nat.reduceEqDiff]
 refine ACallsK.eq (hI _) ?_
 simp -implicitDefEqProofs (disch := first | assumption | decide | omega | (simp only [wpD1] <;> omega) | (simp only [wpD2] <;> assumption) | solve_by_elim [zR, zP, zV] | fail) only [↓wpPre, wpPost, wpPoly, Int.reduceToNat, Int.reducePow, Int.reduceMul, Int.reduceAdd, Int.reduceSub, Int.reduceNeg, Nat.reduceAdd, Nat.reduceMul, Nat.reducePow, Int.reduceLT, Int.reduceLE, Int.reduceEq, Nat.reduceEqDiff]
 exact HSub.push1 _ _
theorem out302_spec (hC : Has C T302) {p : Int × Int} {h : Heap} : ACalls C 302 [smp p] h (fun r h' => r = .bool (!decide (inS 127 p)) ∧ h' = h) := by
 refine ACalls.gc0 (P := fun r h' => r = .bool (!decide (inS 127 p)) ∧ HSub h h') ?_ (fun r h' hp => ⟨by rw [hp.1]; trivial, hp.2, hp.1, rfl⟩)
 have hI := fun h => inside_spec (p := p) (B := 127) (h := h) (hC.sub (T' := T300) (by decide)) (by omega)
 obtain ⟨x, y⟩ := p
 unfold smp at hI ⊢
 (refine calls_intro (hC.body (by decide) tab302) (Nat.le_of_ble_eq_true rfl) ?_); (show wp C _ none B302.code _ _); (simp only [B302]); simp -implicitDefEqProofs (disch := first | assumption | decide | omega | (simp only [wpD1] <;> omega) | (simp only [wpD2] <;> assumption) | solve_by_elim [zR, zP, zV] | fail) only [↓wpPre, wpPost, wpPoly, Int.reduceToNat, Int.reducePow, Int.reduceMul, Int.reduceAdd, Int.reduceSub, Int.reduceNeg, Nat.reduceAdd, Nat.reduceMul, Nat.reducePow, Int.reduceLT, Int.reduceLE, Int.reduceEq, Nat.reduceEqDiff]
 refine ACallsK.eq (hI _) ?_
 simp -implicitDefEqProofs (disch := first | assumption | decide | omega | (simp only [wpD1] <;> omega) | (simp only [wpD2] <;> assumption) | solve_by_elim [zR, zP, zV] | fail) only [↓wpPre, wpPost, wpPoly, Int.reduceToNat, Int.reducePow, Int.reduceMul, Int.reduceAdd, Int.reduceSub, Int.reduceNeg, Nat.reduceAdd, Nat.reduceMul, Nat.reducePow, Int.reduceLT, Int.reduceLE, Int.reduceEq, Nat.reduceEqDiff]
 exact HSub.push1 _ _
theorem containsF_spec (hC : Has C T255) {v : AV} {l : List (Int × Int)} {g : Nat} {P : Int × Int → Prop} [DecidablePred P] {h : Heap} (hg : ∀ p h, ACalls C g [smp p] h (fun r h' => r = .bool (!decide (P p)) ∧ h' = h)) (hl : SI h v l) :
  ACalls C 255 [v, .func g [] []] h (fun r h' => r = .bool (!decide (∀ x ∈ l, P x)) ∧ h' = h) := by
 have hlt := hl.lt
 have hI : ACalls C 260 [v, .func g [] []] h (fun r h' => (∃ i : Int, r = .int .i64 i ∧ -1 ≤ i ∧ (0 ≤ i ↔ ¬ ∀ x ∈ l, P x)) ∧ h' = h) := by
  have hC' : Has C T260 := (hC.sub (T' := T260) (by decide))
  have hC := hC'
  (refine calls_intro (hC.body (by decide) tab260) (Nat.le_of_ble_eq_true rfl) ?_); (show wp C _ none B260.code _ _); (simp only [B260]); simp -implicitDefEqProofs (disch := first | assumption | decide | omega | (simp only [wpD1] <;> omega) | (simp only [wpD2] <;> assumption) | solve_by_elim [zR, zP, zV] | fail) only [↓wpPre, wpPost, wpPoly, Int.reduceToNat, Int.reducePow, Int.reduceMul, Int.reduceAdd, Int.reduceSub, Int.reduceNeg, Nat.reduceAdd, Nat.reduceMul, Nat.reducePow, Int.reduceLT, Int.reduceLE, Int.reduceEq, Nat.reduceEqDiff, hl.len]
  refine wp_loopI (fun j t h' => h' = h ∧ ∃ k : Nat, t 0 = v ∧ t 1 = .func g [] [] ∧ t 7 = .int .i64 (l.length : Nat) ∧ t 8 = .int .i64 (k : Nat) ∧ (∀ i, i < k → P (l.getD i (0, 0))) ∧ k ≤ l.length ∧ j = l.length - k) (j0 := l.length)
   ⟨rfl, 0, rfl, rfl, rfl, rfl, fun i hi => by omega, by omega, rfl⟩ ?_
  rintro j t h1 ⟨rfl, k, e0, e1, e7, e8, hp, hk, hj⟩
  simp -implicitDefEqProofs (disch := first | assumption | decide | omega | (simp only [wpD1] <;> omega) | (simp only [wpD2] <;> assumption) | solve_by_elim [zR, zP, zV] | fail) only [↓wpPre, wpPost, wpPoly, Int.reduceToNat, Int.reducePow, Int.reduceMul, Int.reduceAdd, Int.reduceSub, Int.reduceNeg, Nat.reduceAdd, Nat.reduceMul, Nat.reducePow, Int.reduceLT, Int.reduceLE, Int.reduceEq, Nat.reduceEqDiff, e7, e8]
  refine Br.by (fun c => ?_) (fun c => ?_)
  ·have hk' : k < l.length := by omega
   have ld := hl.loadA hk'
   simp -implicitDefEqProofs (disch := first | assumption | decide | omega | (simp only [wpD1] <;> omega) | (simp only [wpD2] <;> assumption) | solve_by_elim [zR, zP, zV] | fail) only [↓wpPre, wpPost, wpPoly, Int.reduceToNat, Int.reducePow, Int.reduceMul, Int.reduceAdd, Int.reduceSub, Int.reduceNeg, Nat.reduceAdd, Nat.reduceMul, Nat.reducePow, Int.reduceLT, Int.reduceLE, Int.reduceEq, Nat.reduceEqDiff, e0, e1, e8, hl.idx, ld]
   refine ACallsK.eq (hg _ _) ?_
   by_cases c2 : P (l.getD k (0, 0))
   ·simp -implicitDefEqProofs (disch := first | assumption | decide | omega | (simp only [wpD1] <;> omega) | (simp only [wpD2] <;> assumption) | solve_by_elim [zR, zP, zV] | fail) only [↓wpPre, wpPost, wpPoly, Int.reduceToNat, Int.reducePow, Int.reduceMul, Int.reduceAdd, Int.reduceSub, Int.reduceNeg, Nat.reduceAdd, Nat.reduceMul, Nat.reducePow, Int.reduceLT, Int.reduceLE, Int.reduceEq, Nat.reduceEqDiff, c2, e0, e1, e7, e8]
    refine ⟨_, ⟨k + 1, by simp, fun i hi => ?_, by omega, rfl⟩, by omega⟩
    rcases Nat.lt_or_ge i k with x | x
    ·exact hp i x
    ·have : i = k := by omega
     subst this; exact c2
   ·simp -implicitDefEqProofs (disch := first | assumption | decide | omega | (simp only [wpD1] <;> omega) | (simp only [wpD2] <;> assumption) | solve_by_elim [zR, zP, zV] | fail) only [↓wpPre, wpPost, wpPoly, Int.reduceToNat, Int.reducePow, Int.reduceMul, Int.reduceAdd, Int.reduceSub, Int.reduceNeg, Nat.reduceAdd, Nat.reduceMul, Nat.reducePow, Int.reduceLT, Int.reduceLE, Int.reduceEq, Nat.reduceEqDiff, c2, e0, e1, e7, e8]
    refine ⟨by omega, ⟨fun _ q => c2 (q _ (getP_mem hk')), fun _ => by omega⟩⟩
  ·have ek : k = l.length := by omega
   simp -implicitDefEqProofs (disch := first | assumption | decide | omega | (simp only [wpD1] <;> omega) | (simp only [wpD2] <;> assumption) | solve_by_elim [zR, zP, zV] | fail) only [↓wpPre, wpPost, wpPoly, Int.reduceToNat, Int.reducePow, Int.reduceMul, Int.reduceAdd, Int.reduceSub, Int.reduceNeg, Nat.reduceAdd, Nat.reduceMul, Nat.reducePow, Int.reduceLT, Int.reduceLE, Int.reduceEq, Nat.reduceEqDiff]
   refine ⟨fun q => q.elim, fun q => absurd (fun x hx => ?_) q⟩
   obtain ⟨i, hi, rfl⟩ := List.getElem_of_mem hx
   have := hp i (by omega)
   rwa [List.getD_eq_getElem?_getD, List.getElem?_eq_getElem hi] at this
 (refine calls_intro (hC.body (by decide) tab255) (Nat.le_of_ble_eq_true rfl) ?_); (show wp C _ none B255.code _ _); (simp only [B255]); simp -implicitDefEqProofs (disch := first | assumption | decide | omega | (simp only [wpD1] <;> omega) | (simp only [wpD2] <;> assumption) | solve_by_elim [zR, zP, zV] | fail) only [↓wpPre, wpPost, wpPoly, Int.reduceToNat, Int.reducePow, Int.reduceMul, Int.reduceAdd, Int.reduceSub, Int.reduceNeg, Nat.reduceAdd, Nat.reduceMul, Nat.reducePow, Int.reduceLT, Int.reduceLE, Int.reduceEq, Nat.reduceEqDiff]
 refine ACallsK.of hI ?_
 rintro r h1 ⟨⟨i, rfl, h1, h2⟩, rfl⟩
 simp -implicitDefEqProofs (disch := first | assumption | decide | omega | (simp only [wpD1] <;> omega) | (simp only [wpD2] <;> assumption) | solve_by_elim [zR, zP, zV] | fail) only [↓wpPre, wpPost, wpPoly, Int.reduceToNat, Int.reducePow, Int.reduceMul, Int.reduceAdd, Int.reduceSub, Int.reduceNeg, Nat.reduceAdd, Nat.reduceMul, Nat.reducePow, Int.reduceLT, Int.reduceLE, Int.reduceEq, Nat.reduceEqDiff]
 by_cases c : ∀ x ∈ l, P x
 ·rw [decide_eq_true c]
  have : ¬ 0 ≤ i := fun q => h2.1 q c
  simp [this]
 ·rw [decide_eq_false c]
  have : 0 ≤ i := h2.2 c
  simp [this]
theorem small_spec (hC : Has C T285) {v : AV} {l : List (Int × Int)} {most : Nat} {h : Heap} (hl : SI h v l) (hm : most ≤ 100000) : ACalls C 285 [v, .int .i64 (most : Nat)] h (fun r h' => r = .int .i64 (smE l most) ∧ h' = h) := by
 have hlt := hl.lt
 have hc := containsF_spec (hC.sub (T' := T255) (by decide)) (g := 299) (P := fun p => inS 1048576 p) (fun p h => out299_spec (hC.sub (T' := T299) (by decide))) hl
 unfold smE
 by_cases c : most < l.length
 ·rw [if_pos c]
  (refine calls_intro (hC.body (by decide) tab285) (Nat.le_of_ble_eq_true rfl) ?_); (show wp C _ none B285.code _ _); (simp only [B285]); simp -implicitDefEqProofs (disch := first | assumption | decide | omega | (simp only [wpD1] <;> omega) | (simp only [wpD2] <;> assumption) | solve_by_elim [zR, zP, zV] | fail) only [↓wpPre, wpPost, wpPoly, Int.reduceToNat, Int.reducePow, Int.reduceMul, Int.reduceAdd, Int.reduceSub, Int.reduceNeg, Nat.reduceAdd, Nat.reduceMul, Nat.reducePow, Int.reduceLT, Int.reduceLE, Int.reduceEq, Nat.reduceEqDiff, hl.len]
 ·rw [if_neg c]
  (refine calls_intro (hC.body (by decide) tab285) (Nat.le_of_ble_eq_true rfl) ?_); (show wp C _ none B285.code _ _); (simp only [B285]); simp -implicitDefEqProofs (disch := first | assumption | decide | omega | (simp only [wpD1] <;> omega) | (simp only [wpD2] <;> assumption) | solve_by_elim [zR, zP, zV] | fail) only [↓wpPre, wpPost, wpPoly, Int.reduceToNat, Int.reducePow, Int.reduceMul, Int.reduceAdd, Int.reduceSub, Int.reduceNeg, Nat.reduceAdd, Nat.reduceMul, Nat.reducePow, Int.reduceLT, Int.reduceLE, Int.reduceEq, Nat.reduceEqDiff, hl.len]
  refine ACallsK.eq hc ?_
  by_cases c2 : ∀ x ∈ l, inS 1048576 x
  ·rw [decide_eq_true c2, if_pos c2]
   simp -implicitDefEqProofs (disch := first | assumption | decide | omega | (simp only [wpD1] <;> omega) | (simp only [wpD2] <;> assumption) | solve_by_elim [zR, zP, zV] | fail) only [↓wpPre, wpPost, wpPoly, Int.reduceToNat, Int.reducePow, Int.reduceMul, Int.reduceAdd, Int.reduceSub, Int.reduceNeg, Nat.reduceAdd, Nat.reduceMul, Nat.reducePow, Int.reduceLT, Int.reduceLE, Int.reduceEq, Nat.reduceEqDiff]
  ·rw [decide_eq_false c2, if_neg c2]
   simp -implicitDefEqProofs (disch := first | assumption | decide | omega | (simp only [wpD1] <;> omega) | (simp only [wpD2] <;> assumption) | solve_by_elim [zR, zP, zV] | fail) only [↓wpPre, wpPost, wpPoly, Int.reduceToNat, Int.reducePow, Int.reduceMul, Int.reduceAdd, Int.reduceSub, Int.reduceNeg, Nat.reduceAdd, Nat.reduceMul, Nat.reducePow, Int.reduceLT, Int.reduceLE, Int.reduceEq, Nat.reduceEqDiff]
theorem power_spec (hC : Has C T289) {p : Int × Int} {h : Heap} : ACalls C 289 [smp p] h (fun r h' => r = .int .i64 (powP p) ∧ h' = h) := by
 refine ACalls.gc0 (P := fun r h' => r = .int .i64 (powP p) ∧ HSub h h') ?_ (fun r h' hp => ⟨by rw [hp.1]; trivial, hp.2, hp.1, rfl⟩)
 obtain ⟨x, y⟩ := p
 unfold powP
 unfold smp
 (refine calls_intro (hC.body (by decide) tab289) (Nat.le_of_ble_eq_true rfl) ?_); (show wp C _ none B289.code _ _); (simp only [B289]); simp -implicitDefEqProofs (disch := first | assumption | decide | omega | (simp only [wpD1] <;> omega) | (simp only [wpD2] <;> assumption) | solve_by_elim [zR, zP, zV] | fail) only [↓wpPre, wpPost, wpPoly, Int.reduceToNat, Int.reducePow, Int.reduceMul, Int.reduceAdd, Int.reduceSub, Int.reduceNeg, Nat.reduceAdd, Nat.reduceMul, Nat.reducePow, Int.reduceLT, Int.reduceLE, Int.reduceEq, Nat.reduceEqDiff]
 exact HSub.push1 _ _
end
end Go.Ae
/- Spin, Steps and Best, of the program and of the reference. -/
set_option linter.unusedSimpArgs false
set_option linter.unusedVariables false
namespace Go.Ae
theorem spin_phase (k : Nat) (st : Int) : IntKind.u32.wrap ((k : Int) * st) = phI 0 st k := by
 rw [wrap_u32, phI_eq, Int.zero_add, Int.mul_comm st]
section
variable {C : Ctx}
theorem AdvanceR_spec (hC : Has C T139) {a s n : Int} {h : Heap} : ACalls C 139 [.int .u32 a, .int .u32 s, .int .i64 n] h (fun r h' => r = .int .u32 (phI a s n) ∧ h' = h) := by
 (refine calls_intro (hC.body (by decide) tab139) (Nat.le_of_ble_eq_true rfl) ?_); (show wp C _ none B139.code _ _); (simp only [B139]); simp -implicitDefEqProofs (disch := first | assumption | decide | omega | (simp only [wpD1] <;> omega) | (simp only [wpD2] <;> assumption) | solve_by_elim [zR, zP, zV] | fail) only [↓wpPre, wpPost, wpPoly, Int.reduceToNat, Int.reducePow, Int.reduceMul, Int.reduceAdd, Int.reduceSub, Int.reduceNeg, Nat.reduceAdd, Nat.reduceMul, Nat.reducePow, Int.reduceLT, Int.reduceLE, Int.reduceEq, Nat.reduceEqDiff, wrap_u32]
 unfold phI
 rw [Int.mul_comm s]
 rw [Int.add_emod_emod]
set_option maxHeartbeats 2000000 in
set_option maxRecDepth 20000 in
theorem spin_spec (hC : Has C T286) {v : AV} {l : List (Int × Int)} {st : Int} {h : Heap} (hl : SI h v l) (hll : l.length ≤ 16) (hi : ∀ x ∈ l, inS 1048576 x) (hst : U32 st) :
  ACalls C 286 [v, .int .u32 st] h (fun r h' => r = smp (spinK l st l.length) ∧ h' = h) := by
 refine ACalls.gc0 (P := fun r h' => r = smp (spinK l st l.length) ∧ HSub h h') ?_ (fun r h' hp => ⟨by rw [hp.1]; exact smp_free _, hp.2, hp.1, rfl⟩)
 have hlt := hl.lt
 have hw := fun p (ph : Int) (hph : U32 ph) h => Wipe_spec (p := p) (ph := ph) (h := h) (hC.sub (T' := T137) (by decide)) hph
 (refine calls_intro (hC.body (by decide) tab286) (Nat.le_of_ble_eq_true rfl) ?_); (show wp C _ none B286.code _ _); (simp only [B286]); simp -implicitDefEqProofs (disch := first | assumption | decide | omega | (simp only [wpD1] <;> omega) | (simp only [wpD2] <;> assumption) | solve_by_elim [zR, zP, zV] | fail) only [↓wpPre, wpPost, wpPoly, Int.reduceToNat, Int.reducePow, Int.reduceMul, Int.reduceAdd, Int.reduceSub, Int.reduceNeg, Nat.reduceAdd, Nat.reduceMul, Nat.reducePow, Int.reduceLT, Int.reduceLE, Int.reduceEq, Nat.reduceEqDiff, hl.len]
 refine wp_loopI (fun j t h' => HSub h h' ∧ h.size < h'.size ∧ ∃ k : Nat, h'.get h.size = some (.cells [.int .i64 (spinK l st k).1, .int .i64 (spinK l st k).2] true 0) ∧ t 1 = .int .u32 st ∧ t 4 = .ptr h.size 0 ∧ t 9 = v ∧ t 10 = .int .i64 (l.length : Nat) ∧ t 11 = .int .i64 (k : Nat) ∧ k ≤ l.length ∧ j = l.length - k) (j0 := l.length)
  ⟨HSub.push1 _ _, by simp, 0, get_push_eq rfl, rfl, rfl, rfl, rfl, rfl, by omega, rfl⟩ ?_
 rintro j t h1 ⟨s1, hz, k, gb, e1, e4, e9, e10, e11, hk, hj⟩
 simp -implicitDefEqProofs (disch := first | assumption | decide | omega | (simp only [wpD1] <;> omega) | (simp only [wpD2] <;> assumption) | solve_by_elim [zR, zP, zV] | fail) only [↓wpPre, wpPost, wpPoly, Int.reduceToNat, Int.reducePow, Int.reduceMul, Int.reduceAdd, Int.reduceSub, Int.reduceNeg, Nat.reduceAdd, Nat.reduceMul, Nat.reducePow, Int.reduceLT, Int.reduceLE, Int.reduceEq, Nat.reduceEqDiff, e10, e11]
 refine Br.by (fun c => ?_) (fun c => ?_)
 ·have hk' : k < l.length := by omega
  have hl1 := hl.mono s1
  have ld := hl1.loadA hk'
  have hin := hi _ (getP_mem hk')
  have sm : smallP (l.getD k (0, 0)) := by unfold smallP; unfold inS at hin; omega
  have hb := spinK_le (st := st) hi k (by omega)
  have hb2 := spinK_le (st := st) hi (k + 1) (by omega)
  have es : spinK l st (k + 1) = addP (spinK l st k) (mixP (l.getD k (0, 0)) (carP (phI 0 st k))) := rfl
  rw [es] at hb2
  have hw := fun h => hw (l.getD k (0, 0)) (phI 0 st k) (phI_u32 0 st k) h
  simp only [wipeE, if_pos sm] at hw
  generalize mixP (l.getD k (0, 0)) (carP (phI 0 st k)) = w at *
  generalize spinK l st k = q at *
  generalize l.getD k (0, 0) = x at *
  obtain ⟨wx, wy⟩ := w
  obtain ⟨qx, qy⟩ := q
  obtain ⟨xx, xy⟩ := x
  unfold inS at hb hb2
  unfold addP at hb2
  unfold smp at hw ld
  have ph := spin_phase k st
  dsimp only at hb hb2 gb hw ld
  simp -implicitDefEqProofs (disch := first | assumption | decide | omega | (simp only [wpD1] <;> omega) | (simp only [wpD2] <;> assumption) | solve_by_elim [zR, zP, zV] | fail) only [↓wpPre, wpPost, wpPoly, Int.reduceToNat, Int.reducePow, Int.reduceMul, Int.reduceAdd, Int.reduceSub, Int.reduceNeg, Nat.reduceAdd, Nat.reduceMul, Nat.reducePow, Int.reduceLT, Int.reduceLE, Int.reduceEq, Nat.reduceEqDiff, e9, e11, hl1.idx, ld, e1, ph]
  refine ACallsK.eq (hw _) ?_
  simp -implicitDefEqProofs (disch := first | assumption | decide | omega | (simp only [wpD1] <;> omega) | (simp only [wpD2] <;> assumption) | solve_by_elim [zR, zP, zV] | fail) only [↓wpPre, wpPost, wpPoly, Int.reduceToNat, Int.reducePow, Int.reduceMul, Int.reduceAdd, Int.reduceSub, Int.reduceNeg, Nat.reduceAdd, Nat.reduceMul, Nat.reducePow, Int.reduceLT, Int.reduceLE, Int.reduceEq, Nat.reduceEqDiff, e4, gb, e1, e9, e10, e11]
  exact ⟨_, ⟨(by repeat (first | exact s1 | refine HSub.put ?_ (by (try simp only [Heap.size_put, Heap.size_push, Heap.size_reserve]); omega) _ | refine HSub.push ?_ _ | refine HSub.reserve ?_ _)), by omega, k + 1, by rw [es]; rfl, by simp, by omega, rfl⟩, by omega⟩
 ·have ek : k = l.length := by omega
  subst ek
  generalize spinK l st l.length = q at *
  obtain ⟨qx, qy⟩ := q
  unfold smp
  simp -implicitDefEqProofs (disch := first | assumption | decide | omega | (simp only [wpD1] <;> omega) | (simp only [wpD2] <;> assumption) | solve_by_elim [zR, zP, zV] | fail) only [↓wpPre, wpPost, wpPoly, Int.reduceToNat, Int.reducePow, Int.reduceMul, Int.reduceAdd, Int.reduceSub, Int.reduceNeg, Nat.reduceAdd, Nat.reduceMul, Nat.reducePow, Int.reduceLT, Int.reduceLE, Int.reduceEq, Nat.reduceEqDiff, e4, gb]
  exact (by repeat (first | exact s1 | refine HSub.put ?_ (by (try simp only [Heap.size_put, Heap.size_push, Heap.size_reserve]); omega) _ | refine HSub.push ?_ _ | refine HSub.reserve ?_ _))
end
end Go.Ae
/- Samples of emitters: the reference; sources are made. -/
set_option linter.unusedSimpArgs false
set_option linter.unusedVariables false
namespace Go.Ae
theorem EmOk.per {p : PlanP} {e : EmitP} (ok : EmOk p e) (n : Int) : 0 ≤ n - e.sta p (e.pl p n) ∧ n - e.sta p (e.pl p n) ≤ 8184 := by
 have a := (st_gt ok (n := n) (k := e.pl p n)).2 (Int.le_refl _)
 have b := pl_lt (dl := e.dl) (n := n) ok.den
 have c := (st_step (dl := e.dl) (sz := p.size) (k := e.pl p n) ok.en.2.1).2
 have s := size_range ok.pn
 unfold EmitP.sta EmitP.pl at *
 omega
theorem chip_pm {p : PlanP} {e : EmitP} (ok : EmOk p e) {i : Int} (hi : 0 ≤ i) : chipI p e i = 1 ∨ chipI p e i = -1 := by
 have hN := lenN_eq ok.pn.1
 have o' := ok.pn.2.1
 have q : 0 ≤ i / p.o := Int.ediv_nonneg hi (by omega)
 unfold chipI
 rw [codeL_get (by omega)]
 rcases codeB_01 p.d e.prn (min (i / p.o) ((lenN p.d : Int) - 1)).toNat with h | h <;> rw [h] <;> simp
section
variable {C : Ctx}
set_option maxHeartbeats 2000000 in
set_option maxRecDepth 20000 in
theorem at251_spec (hC : Has C T251) {p : PlanP} {e : EmitP} {vp vb vc : AV} {n : Int} {h : Heap} (ok : EmOk p e) (h65 : e.ok64) (B : RI h vb e.bits) (W : RI h vc (codeL p.d e.prn)) (v1 : vp.one = true) (hn : -10100000 ≤ n ∧ n ≤ 10100000) :
  ACalls C 251 [plA p vp, emA e vb, vc, .int .i64 n] h (fun r h' => r = smp (atV p e n) ∧ h' = h) := by
 refine ACalls.gc0 (P := fun r h' => r = smp (atV p e n) ∧ HSub h h') ?_ (fun r h' hp => ⟨by rw [hp.1]; exact smp_free _, hp.2, hp.1, rfl⟩)
 have b1 := B.one
 have w1 := W.one
 have am := ok.en.2.2.1
 have pm := ok.pn.2.2.2.2
 have per := ok.per n
 have pb' := ok.plb hn
 have kp := fun h => place246_spec (hC.sub (T' := T246) (by decide)) (vp := vp) (vb := vb) (h := h) ok v1 b1 hn
 have ks := fun h => start241_spec (hC.sub (T' := T241) (by decide)) (vp := vp) (vb := vb) (h := h) (k := e.pl p n) ok v1 b1 (by omega)
 have kb := fun h1 (q : HSub h h1) => bit248_spec (hC.sub (T' := T248) (by decide)) (vp := vp) (k := e.pl p n) ok (B.mono q) v1 (by omega)
 have bb := ok.bit (e.pl p n)
 have cp := chip_pm ok per.1
 have ka := fun h => AdvanceR_spec (hC.sub (T' := T139) (by decide)) (a := e.ph) (s := e.st) (n := e.pl p n) (h := h)
 have kc := fun h => CarrierR_spec (hC.sub (T' := T130) (by decide)) (h := h) (phI_u32 e.ph e.st (e.pl p n))
 have cl := carP_le (phI_u32 e.ph e.st (e.pl p n))
 have stb := ok.stb (k := e.pl p n) (by omega)
 have o' := ok.pn.2.1
 have cll : (codeL p.d e.prn).length = lenN p.d := codeL_length _ _
 have hN := lenN_eq ok.pn.1
 have Wm := fun b c d => W.mono (((HSub.push1 h b).push c).push d)
 have wl := W.len
 rw [cll] at wl
 unfold atV
 generalize e.pl p n = K at *
 have sr : -200000000000 ≤ e.sta p K ∧ e.sta p K ≤ 200000000000 := ⟨stb.1, stb.2.1⟩
 clear stb
 generalize e.sta p K = S at *
 have q3 := ediv_bd (a := n - S) (b := p.o) (A := 100000) (by omega) (by omega)
 have q4 : 0 ≤ (n - S) / p.o := Int.ediv_nonneg per.1 (by omega)
 have td : (n - S).tdiv p.o = (n - S) / p.o := Int.tdiv_eq_ediv_of_nonneg per.1
 have ch : chipI p e (n - S) = (codeL p.d e.prn).getD (min ((n - S) / p.o) ((lenN p.d : Int) - 1)).toNat 0 := rfl
 obtain ⟨m, hm⟩ : ∃ m : Nat, min ((n - S) / p.o) ((lenN p.d : Int) - 1) = (m : Int) := ⟨(min ((n - S) / p.o) ((lenN p.d : Int) - 1)).toNat, by omega⟩
 rw [hm, Int.toNat_natCast] at ch
 have ld := fun b c d => (Wm b c d).load (k := m) (by omega)
 have ix := W.idx (kk := .i64) (k := (m : Int)) ⟨by omega, by omega⟩
 rw [Int.toNat_natCast] at ix
 rw [← ch] at ld
 generalize chipI p e (n - S) = x at *
 generalize lenN p.d = N at *
 generalize carP (phI e.ph e.st K) = t at *
 generalize phI e.ph e.st K = f at *
 generalize bitI p e K = b at *
 have no : ¬ p.o = 0 := by omega
 have xa : -1000 ≤ e.amp * x ∧ e.amp * x ≤ 1000 := by rcases cp with q | q <;> subst q <;> omega
 have y1 := mul_le127 xa ⟨cl.1, cl.2.1⟩
 have y2 := mul_le127 xa ⟨cl.2.2.1, cl.2.2.2⟩
 have z1 := mul_le127 (x := 0 - e.amp * x) (B := 1000) (by omega) ⟨cl.1, cl.2.1⟩
 have z2 := mul_le127 (x := 0 - e.amp * x) (B := 1000) (by omega) ⟨cl.2.2.1, cl.2.2.2⟩
 obtain ⟨tx, ty⟩ := t
 unfold plA emA at kp ks kb ⊢
 unfold smp at kc ⊢
 obtain ⟨pd, o, pb, w, mn, mx, nz, prns⟩ := p
 obtain ⟨prn, dl, rt, st, ph, amp, ba, bits⟩ := e
 dsimp only at *
 rcases bb with q | q <;> subst q <;>
 ·(refine calls_intro (hC.body (by decide) tab251) (Nat.le_of_ble_eq_true rfl) ?_); (show wp C _ none B251.code _ _); (simp only [B251]); simp -implicitDefEqProofs (disch := first | assumption | decide | omega | (simp only [wpD1] <;> omega) | (simp only [wpD2] <;> assumption) | solve_by_elim [zR, zP, zV] | fail) only [↓wpPre, wpPost, wpPoly, Int.reduceToNat, Int.reducePow, Int.reduceMul, Int.reduceAdd, Int.reduceSub, Int.reduceNeg, Nat.reduceAdd, Nat.reduceMul, Nat.reducePow, Int.reduceLT, Int.reduceLE, Int.reduceEq, Nat.reduceEqDiff]
  refine ACallsK.eq (kp _) ?_
  simp -implicitDefEqProofs (disch := first | assumption | decide | omega | (simp only [wpD1] <;> omega) | (simp only [wpD2] <;> assumption) | solve_by_elim [zR, zP, zV] | fail) only [↓wpPre, wpPost, wpPoly, Int.reduceToNat, Int.reducePow, Int.reduceMul, Int.reduceAdd, Int.reduceSub, Int.reduceNeg, Nat.reduceAdd, Nat.reduceMul, Nat.reducePow, Int.reduceLT, Int.reduceLE, Int.reduceEq, Nat.reduceEqDiff, wl]
  refine ACallsK.eq (ks _) ?_
  simp -implicitDefEqProofs (disch := first | assumption | decide | omega | (simp only [wpD1] <;> omega) | (simp only [wpD2] <;> assumption) | solve_by_elim [zR, zP, zV] | fail) only [↓wpPre, wpPost, wpPoly, Int.reduceToNat, Int.reducePow, Int.reduceMul, Int.reduceAdd, Int.reduceSub, Int.reduceNeg, Nat.reduceAdd, Nat.reduceMul, Nat.reducePow, Int.reduceLT, Int.reduceLE, Int.reduceEq, Nat.reduceEqDiff, td, no, wl, hm, ix, ld]
  refine ACallsK.eq (kb _ (by repeat (first | exact HSub.refl h | refine HSub.put ?_ (by (try simp only [Heap.size_put, Heap.size_push, Heap.size_reserve]); omega) _ | refine HSub.push ?_ _ | refine HSub.reserve ?_ _))) ?_
  simp -implicitDefEqProofs (disch := first | assumption | decide | omega | (simp only [wpD1] <;> omega) | (simp only [wpD2] <;> assumption) | solve_by_elim [zR, zP, zV] | fail) only [↓wpPre, wpPost, wpPoly, Int.reduceToNat, Int.reducePow, Int.reduceMul, Int.reduceAdd, Int.reduceSub, Int.reduceNeg, Nat.reduceAdd, Nat.reduceMul, Nat.reducePow, Int.reduceLT, Int.reduceLE, Int.reduceEq, Nat.reduceEqDiff]
  refine ACallsK.eq (ka _) ?_
  simp -implicitDefEqProofs (disch := first | assumption | decide | omega | (simp only [wpD1] <;> omega) | (simp only [wpD2] <;> assumption) | solve_by_elim [zR, zP, zV] | fail) only [↓wpPre, wpPost, wpPoly, Int.reduceToNat, Int.reducePow, Int.reduceMul, Int.reduceAdd, Int.reduceSub, Int.reduceNeg, Nat.reduceAdd, Nat.reduceMul, Nat.reducePow, Int.reduceLT, Int.reduceLE, Int.reduceEq, Nat.reduceEqDiff]
  refine ACallsK.eq (kc _) ?_
  simp -implicitDefEqProofs (disch := first | assumption | decide | omega | (simp only [wpD1] <;> omega) | (simp only [wpD2] <;> assumption) | solve_by_elim [zR, zP, zV] | fail) only [↓wpPre, wpPost, wpPoly, Int.reduceToNat, Int.reducePow, Int.reduceMul, Int.reduceAdd, Int.reduceSub, Int.reduceNeg, Nat.reduceAdd, Nat.reduceMul, Nat.reducePow, Int.reduceLT, Int.reduceLE, Int.reduceEq, Nat.reduceEqDiff]
  exact ⟨by grind, (by repeat (first | exact HSub.refl h | refine HSub.put ?_ (by (try simp only [Heap.size_put, Heap.size_push, Heap.size_reserve]); omega) _ | refine HSub.push ?_ _ | refine HSub.reserve ?_ _))⟩
end
end Go.Ae
/- Start, Place, Bit and At: the program and the reference. -/
set_option linter.unusedSimpArgs false
set_option linter.unusedVariables false
namespace Go.Ae
section
variable {C : Ctx}
end
end Go.Ae
/- Start of the reference; Place, Bit and At of both. -/
set_option linter.unusedSimpArgs false
set_option linter.unusedVariables false
namespace Go.Ae
section
variable {C : Ctx}
end
end Go.Ae
/- Start, Place, Bit and At of the reference. -/
set_option linter.unusedSimpArgs false
set_option linter.unusedVariables false
namespace Go.Ae
section
variable {C : Ctx}
end
end Go.Ae
/- Numbers that elements of a list select. -/
set_option linter.unusedSimpArgs false
set_option linter.unusedVariables false
namespace Go.Ae
section
variable {C : Ctx}
def someOf (l : List Int) (i : Nat) (n : Int) : Int := if i < l.length then l.getD i 0 % n else 0
theorem Some_spec (hC : Has C T45) {v : AV} {l : List Int} {i : Nat} {n : Int} {h : Heap} (hl : RI h v l) (hx : ∀ x ∈ l, In64 x) (hn : 1 ≤ n ∧ n ≤ 9223372036854775807) :
  ACalls C 45 [v, .int .i64 (i : Nat), .int .i64 n] h (fun r h' => r = .int .i64 (someOf l i n) ∧ h' = h) := by
 have hlt := hl.lt
 (refine calls_intro (hC.body (by decide) tab45) (Nat.le_of_ble_eq_true rfl) ?_); (show wp C _ none B45.code _ _); (simp only [B45]); simp -implicitDefEqProofs (disch := first | assumption | decide | omega | (simp only [wpD1] <;> omega) | (simp only [wpD2] <;> assumption) | solve_by_elim [zR, zP, zV] | fail) only [↓wpPre, wpPost, wpPoly, Int.reduceToNat, Int.reducePow, Int.reduceMul, Int.reduceAdd, Int.reduceSub, Int.reduceNeg, Nat.reduceAdd, Nat.reduceMul, Nat.reducePow, Int.reduceLT, Int.reduceLE, Int.reduceEq, Nat.reduceEqDiff, hl.len]
 refine Br.by (fun c => ?_) (fun c => ?_)
 ·simp -implicitDefEqProofs (disch := first | assumption | decide | omega | (simp only [wpD1] <;> omega) | (simp only [wpD2] <;> assumption) | solve_by_elim [zR, zP, zV] | fail) only [↓wpPre, wpPost, wpPoly, Int.reduceToNat, Int.reducePow, Int.reduceMul, Int.reduceAdd, Int.reduceSub, Int.reduceNeg, Nat.reduceAdd, Nat.reduceMul, Nat.reducePow, Int.reduceLT, Int.reduceLE, Int.reduceEq, Nat.reduceEqDiff, someOf, if_neg (show ¬ i < l.length by omega)]
 ·have hi : i < l.length := by omega
  simp -implicitDefEqProofs (disch := first | assumption | decide | omega | (simp only [wpD1] <;> omega) | (simp only [wpD2] <;> assumption) | solve_by_elim [zR, zP, zV] | fail) only [↓wpPre, wpPost, wpPoly, Int.reduceToNat, Int.reducePow, Int.reduceMul, Int.reduceAdd, Int.reduceSub, Int.reduceNeg, Nat.reduceAdd, Nat.reduceMul, Nat.reducePow, Int.reduceLT, Int.reduceLE, Int.reduceEq, Nat.reduceEqDiff, hl.idx, hl.load]
  refine ACallsK.eq (Turn_spec (hC.sub (T' := T23) (by decide)) (hx _ (getD_mem hi)) hn) ?_
  simp -implicitDefEqProofs (disch := first | assumption | decide | omega | (simp only [wpD1] <;> omega) | (simp only [wpD2] <;> assumption) | solve_by_elim [zR, zP, zV] | fail) only [↓wpPre, wpPost, wpPoly, Int.reduceToNat, Int.reducePow, Int.reduceMul, Int.reduceAdd, Int.reduceSub, Int.reduceNeg, Nat.reduceAdd, Nat.reduceMul, Nat.reducePow, Int.reduceLT, Int.reduceLE, Int.reduceEq, Nat.reduceEqDiff, someOf, if_pos hi]
end
end Go.Ae
/- Plans and emitters that numbers select. -/
set_option linter.unusedSimpArgs false
set_option linter.unusedVariables false
namespace Go.Ae
theorem someOf_range {l : List Int} {i : Nat} {n : Int} (hn : 1 ≤ n) : 0 ≤ someOf l i n ∧ someOf l i n < n := by
 unfold someOf
 split
 ·exact ⟨Int.emod_nonneg _ (by omega), Int.emod_lt_of_pos _ (by omega)⟩
 ·omega
def prnK (f : Int) (k : Nat) : List Int := (List.range k).map fun i => f + 4 * (i : Nat)
theorem prnK_length (f : Int) (k : Nat) : (prnK f k).length = k := by simp [prnK]
theorem prnK_succ (f : Int) (k : Nat) : prnK f (k + 1) = prnK f k ++ [f + 4 * (k : Nat)] := by simp [prnK, List.range_succ]
def planOf (l : List Int) : PlanP := ⟨5 + someOf l 0 2, 1 + someOf l 1 3, 1 + someOf l 2 3, 2, 1 + someOf l 3 20, 1 + someOf l 3 20 + someOf l 5 20, someOf l 4 50, prnK (1 + someOf l 6 20) (someOf l 7 3 + 1).toNat⟩
theorem prnK_err (n f : Int) (hf : 1 ≤ f) : ∀ (m k : Nat), f + 4 * ((k + m : Nat) : Int) ≤ n + 6 → prnsErr n (prnK f k) ((List.range m).map fun i => f + 4 * ((k + i : Nat) : Int)) = 0
 | 0, k, _ => rfl
 | m + 1, k, h => by
  rw [List.range_succ_eq_map, List.map_cons, prnsErr, if_neg (by omega), if_neg]
  ·have e : prnK f k ++ [f + 4 * ((k + 0 : Nat) : Int)] = prnK f (k + 1) := by rw [prnK_succ]; simp
   rw [e, List.map_map]
   have ih := prnK_err n f hf m (k + 1) (by omega)
   have e2 : ((fun i => f + 4 * ((k + i : Nat) : Int)) ∘ Nat.succ) = fun i => f + 4 * ((k + 1 + i : Nat) : Int) := by
    funext i
    show f + 4 * ((k + (i + 1) : Nat) : Int) = _
    omega
   rw [e2]
   exact ih
  ·intro q
   rw [List.any_eq_true] at q
   obtain ⟨x, hx, q⟩ := q
   obtain ⟨i, hi, rfl⟩ := List.mem_map.1 hx
   rw [beq_iff_eq] at q
   have := List.mem_range.1 hi
   omega
theorem planOf_nums (l : List Int) : (planOf l).numsOk := by
 have h0 := someOf_range (l := l) (i := 0) (n := 2) (by omega)
 have h1 := someOf_range (l := l) (i := 1) (n := 3) (by omega)
 have h2 := someOf_range (l := l) (i := 2) (n := 3) (by omega)
 have h3 := someOf_range (l := l) (i := 3) (n := 20) (by omega)
 have h4 := someOf_range (l := l) (i := 4) (n := 50) (by omega)
 have h5 := someOf_range (l := l) (i := 5) (n := 20) (by omega)
 unfold PlanP.numsOk planOf
 dsimp only
 refine ⟨?_, by omega, by omega, by omega, by omega, by omega, by omega⟩
 rcases (show someOf l 0 2 = 0 ∨ someOf l 0 2 = 1 by omega) with e | e <;> rw [e] <;> decide
theorem planOf_64 (l : List Int) : (planOf l).ok64 := by
 have h0 := someOf_range (l := l) (i := 0) (n := 2) (by omega)
 have h1 := someOf_range (l := l) (i := 1) (n := 3) (by omega)
 have h2 := someOf_range (l := l) (i := 2) (n := 3) (by omega)
 have h3 := someOf_range (l := l) (i := 3) (n := 20) (by omega)
 have h4 := someOf_range (l := l) (i := 4) (n := 50) (by omega)
 have h5 := someOf_range (l := l) (i := 5) (n := 20) (by omega)
 have h6 := someOf_range (l := l) (i := 6) (n := 20) (by omega)
 have h7 := someOf_range (l := l) (i := 7) (n := 3) (by omega)
 unfold PlanP.ok64 planOf In64
 dsimp only
 refine ⟨by omega, by omega, by omega, by omega, by omega, by omega, by omega, fun x hx => ?_⟩
 obtain ⟨i, hi, rfl⟩ := List.mem_map.1 hx
 have := List.mem_range.1 hi
 omega
def bitK (l : List Int) (k : Nat) : List Int := (List.range k).map fun i => l.getD (7 + i) 0 % 2
theorem bitK_length (l : List Int) (k : Nat) : (bitK l k).length = k := by simp [bitK]
theorem bitK_succ (l : List Int) (k : Nat) : bitK l (k + 1) = bitK l k ++ [l.getD (7 + k) 0 % 2] := by simp [bitK, List.range_succ]
def emitOf (p : PlanP) (l : List Int) : EmitP := ⟨p.prns.getD 0 0, someOf l 0 p.size, someOf l 1 129 - 64, someOf l 2 64 * 67108864 + someOf l 3 67108864, someOf l 4 64 * 67108864, p.mn + someOf l 5 (p.mx - p.mn + 1), someOf l 6 p.pb, bitK l (min l.length 20 - 7)⟩
theorem emitOf_64 {p : PlanP} {l : List Int} (hp : p.numsOk) (h64 : p.ok64) (hl : 0 < p.prns.length) : (emitOf p l).ok64 := by
 have sz := size_range hp
 have h0 := someOf_range (l := l) (i := 0) (n := p.size) (by omega)
 have h1 := someOf_range (l := l) (i := 1) (n := 129) (by omega)
 have h2 := someOf_range (l := l) (i := 2) (n := 64) (by omega)
 have h3 := someOf_range (l := l) (i := 3) (n := 67108864) (by omega)
 have h4 := someOf_range (l := l) (i := 4) (n := 64) (by omega)
 have pm := hp.2.2.2.2
 have h5 := someOf_range (l := l) (i := 5) (n := p.mx - p.mn + 1) (by omega)
 have pb := hp.2.2.1
 have h6 := someOf_range (l := l) (i := 6) (n := p.pb) (by omega)
 have hx := h64.2.2.2.2.2.2.2 _ (getD_mem (l := p.prns) (i := 0) hl)
 unfold EmitP.ok64 emitOf
 dsimp only
 refine ⟨hx, by unfold In64; omega, by unfold In64; omega, by unfold U32; omega, by unfold U32; omega, by unfold In64; omega, by unfold In64; omega, fun x hx => ?_⟩
 obtain ⟨i, _, rfl⟩ := List.mem_map.1 hx
 unfold In64; omega
theorem emitOf_err {p : PlanP} {l : List Int} (hp : p.err = 0) : emitErr p (emitOf p l) = 0 := by
 have pn := plan_ok hp
 have sz := size_range pn
 have h0 := someOf_range (l := l) (i := 0) (n := p.size) (by omega)
 have h1 := someOf_range (l := l) (i := 1) (n := 129) (by omega)
 have pm := pn.2.2.2.2
 have h5 := someOf_range (l := l) (i := 5) (n := p.mx - p.mn + 1) (by omega)
 have pb := pn.2.2.1
 have h6 := someOf_range (l := l) (i := 6) (n := p.pb) (by omega)
 have hl : 0 < p.prns.length := by
  unfold PlanP.err at hp
  rw [if_pos pn] at hp
  by_cases c : p.prns.length = 0
  ·rw [if_pos c] at hp; omega
  ·omega
 have ha : (p.prns.any fun y => (emitOf p l).prn == y) = true := by
  rw [List.any_eq_true]
  exact ⟨_, getD_mem hl, by simp [emitOf]⟩
 have hn : (emitOf p l).numsOk p := by
  unfold EmitP.numsOk emitOf
  dsimp only
  omega
 have hb : (emitOf p l).bits.any (fun b => b != 0 && b != 1) = false := by
  rw [List.any_eq_false]
  intro x hx
  obtain ⟨i, _, rfl⟩ := List.mem_map.1 hx
  have := Int.emod_two_eq (l.getD (7 + i) 0)
  rcases this with e | e <;> rw [e] <;> decide
 have hlen : (emitOf p l).bits.length ≤ 20 := by
  show (bitK _ _).length ≤ 20
  rw [bitK_length]; omega
 unfold emitErr
 rw [if_pos hp, if_pos ha, if_pos hn, if_neg (by omega), if_neg (by rw [hb]; decide)]
theorem GrwI.putNe {h0 H : Heap} {v : AV} {l : List Int} {i : Nat} {b : ABlk} (A : GrwI h0 H v l) (hi : h0.size ≤ i) (hn : ∀ j ∈ v.ids, j ≠ i) : GrwI h0 (H.put i b) v l := by
 obtain ⟨hs, hl, hn', ⟨rfl, e⟩ | ⟨j, ex, hj, rfl, hg⟩⟩ := A
 ·exact ⟨hs.put hi b, hl, hn', .inl ⟨rfl, e⟩⟩
 ·exact ⟨hs.put hi b, hl, hn', .inr ⟨j, ex, hj, rfl, (get_put_ne (hn j (by simp [AV.ids]))).trans hg⟩⟩
theorem snocN_ne {H : Heap} {v : AV} {sz j : Nat} {cs : List AV} (hj : j < H.size) (hv : j ∉ v.ids) : (snocH H none v sz cs).get j = H.get j := by
 unfold snocH
 cases v
 case slice i o n c => exact (get_push_lt (by simpa using hj)).trans (get_put_ne (fun e => hv (by simp [AV.ids, e])))
 all_goals exact get_push_lt hj
theorem snocN_size {H : Heap} {v : AV} {sz : Nat} {cs : List AV} : (snocH H none v sz cs).size = H.size + 1 := by
 unfold snocH
 cases v <;> simp [Heap.new]
section
variable {C : Ctx}
set_option maxHeartbeats 4000000 in
set_option maxRecDepth 20000 in
theorem PlanOf_new (hC : Has C T235) {v : AV} {l : List Int} {h : Heap} (hl : RI h v l) (hx : ∀ x ∈ l, In64 x) : ACalls C 235 [v] h (fun r h' => HSub h h' ∧ ∃ vp, r = .agg [.int .i64 (planOf l).d, .int .i64 (planOf l).o, .int .i64 (planOf l).pb, .int .i64 (planOf l).w, .int .i64 (planOf l).mn, .int .i64 (planOf l).mx, .int .i64 (planOf l).nz, vp] ∧ RI h' vp (planOf l).prns ∧ ∀ i ∈ vp.ids, h.size ≤ i) := by
 have hlt := hl.lt
 have S := fun (i : Nat) (n : Int) (hn : 1 ≤ n ∧ n ≤ 9223372036854775807) h1 (q : HSub h h1) => Some_spec (hC.sub (T' := T45) (by decide)) (i := i) (hl.mono q) hx hn
 have h0 := someOf_range (l := l) (i := 0) (n := 2) (by omega)
 have h1 := someOf_range (l := l) (i := 1) (n := 3) (by omega)
 have h2 := someOf_range (l := l) (i := 2) (n := 3) (by omega)
 have h3 := someOf_range (l := l) (i := 3) (n := 20) (by omega)
 have h4 := someOf_range (l := l) (i := 4) (n := 50) (by omega)
 have h5 := someOf_range (l := l) (i := 5) (n := 20) (by omega)
 have h6 := someOf_range (l := l) (i := 6) (n := 20) (by omega)
 have h7 := someOf_range (l := l) (i := 7) (n := 3) (by omega)
 unfold planOf
 dsimp only
 have S0 := S 0 2 (by omega)
 have S1 := S 1 3 (by omega)
 have S2 := S 2 3 (by omega)
 have S3 := S 3 20 (by omega)
 have S4 := S 4 50 (by omega)
 have S5 := S 5 20 (by omega)
 have S6 := S 6 20 (by omega)
 have S7 := S 7 3 (by omega)
 generalize someOf l 0 2 = a0 at *
 generalize someOf l 1 3 = a1 at *
 generalize someOf l 2 3 = a2 at *
 generalize someOf l 3 20 = a3 at *
 generalize someOf l 4 50 = a4 at *
 generalize someOf l 5 20 = a5 at *
 generalize someOf l 6 20 = a6 at *
 generalize someOf l 7 3 = a7 at *
 (refine calls_intro (hC.body (by decide) tab235) (Nat.le_of_ble_eq_true rfl) ?_); (show wp C _ none B235.code _ _); (simp only [B235]); simp -implicitDefEqProofs (disch := first | assumption | decide | omega | (simp only [wpD1] <;> omega) | (simp only [wpD2] <;> assumption) | solve_by_elim [zR, zP, zV] | fail) only [↓wpPre, wpPost, wpPoly, Int.reduceToNat, Int.reducePow, Int.reduceMul, Int.reduceAdd, Int.reduceSub, Int.reduceNeg, Nat.reduceAdd, Nat.reduceMul, Nat.reducePow, Int.reduceLT, Int.reduceLE, Int.reduceEq, Nat.reduceEqDiff]
 refine ACallsK.eq (S0 _ (by repeat (first | exact HSub.refl h | refine HSub.put ?_ (by (try simp only [Heap.size_put, Heap.size_push, Heap.size_reserve]); omega) _ | refine HSub.push ?_ _ | refine HSub.reserve ?_ _))) ?_
 simp -implicitDefEqProofs (disch := first | assumption | decide | omega | (simp only [wpD1] <;> omega) | (simp only [wpD2] <;> assumption) | solve_by_elim [zR, zP, zV] | fail) only [↓wpPre, wpPost, wpPoly, Int.reduceToNat, Int.reducePow, Int.reduceMul, Int.reduceAdd, Int.reduceSub, Int.reduceNeg, Nat.reduceAdd, Nat.reduceMul, Nat.reducePow, Int.reduceLT, Int.reduceLE, Int.reduceEq, Nat.reduceEqDiff]
 refine ACallsK.eq (S1 _ (by repeat (first | exact HSub.refl h | refine HSub.put ?_ (by (try simp only [Heap.size_put, Heap.size_push, Heap.size_reserve]); omega) _ | refine HSub.push ?_ _ | refine HSub.reserve ?_ _))) ?_
 simp -implicitDefEqProofs (disch := first | assumption | decide | omega | (simp only [wpD1] <;> omega) | (simp only [wpD2] <;> assumption) | solve_by_elim [zR, zP, zV] | fail) only [↓wpPre, wpPost, wpPoly, Int.reduceToNat, Int.reducePow, Int.reduceMul, Int.reduceAdd, Int.reduceSub, Int.reduceNeg, Nat.reduceAdd, Nat.reduceMul, Nat.reducePow, Int.reduceLT, Int.reduceLE, Int.reduceEq, Nat.reduceEqDiff]
 refine ACallsK.eq (S2 _ (by repeat (first | exact HSub.refl h | refine HSub.put ?_ (by (try simp only [Heap.size_put, Heap.size_push, Heap.size_reserve]); omega) _ | refine HSub.push ?_ _ | refine HSub.reserve ?_ _))) ?_
 simp -implicitDefEqProofs (disch := first | assumption | decide | omega | (simp only [wpD1] <;> omega) | (simp only [wpD2] <;> assumption) | solve_by_elim [zR, zP, zV] | fail) only [↓wpPre, wpPost, wpPoly, Int.reduceToNat, Int.reducePow, Int.reduceMul, Int.reduceAdd, Int.reduceSub, Int.reduceNeg, Nat.reduceAdd, Nat.reduceMul, Nat.reducePow, Int.reduceLT, Int.reduceLE, Int.reduceEq, Nat.reduceEqDiff]
 refine ACallsK.eq (S3 _ (by repeat (first | exact HSub.refl h | refine HSub.put ?_ (by (try simp only [Heap.size_put, Heap.size_push, Heap.size_reserve]); omega) _ | refine HSub.push ?_ _ | refine HSub.reserve ?_ _))) ?_
 simp -implicitDefEqProofs (disch := first | assumption | decide | omega | (simp only [wpD1] <;> omega) | (simp only [wpD2] <;> assumption) | solve_by_elim [zR, zP, zV] | fail) only [↓wpPre, wpPost, wpPoly, Int.reduceToNat, Int.reducePow, Int.reduceMul, Int.reduceAdd, Int.reduceSub, Int.reduceNeg, Nat.reduceAdd, Nat.reduceMul, Nat.reducePow, Int.reduceLT, Int.reduceLE, Int.reduceEq, Nat.reduceEqDiff]
 refine ACallsK.eq (S4 _ (by repeat (first | exact HSub.refl h | refine HSub.put ?_ (by (try simp only [Heap.size_put, Heap.size_push, Heap.size_reserve]); omega) _ | refine HSub.push ?_ _ | refine HSub.reserve ?_ _))) ?_
 simp -implicitDefEqProofs (disch := first | assumption | decide | omega | (simp only [wpD1] <;> omega) | (simp only [wpD2] <;> assumption) | solve_by_elim [zR, zP, zV] | fail) only [↓wpPre, wpPost, wpPoly, Int.reduceToNat, Int.reducePow, Int.reduceMul, Int.reduceAdd, Int.reduceSub, Int.reduceNeg, Nat.reduceAdd, Nat.reduceMul, Nat.reducePow, Int.reduceLT, Int.reduceLE, Int.reduceEq, Nat.reduceEqDiff]
 refine ACallsK.eq (S5 _ (by repeat (first | exact HSub.refl h | refine HSub.put ?_ (by (try simp only [Heap.size_put, Heap.size_push, Heap.size_reserve]); omega) _ | refine HSub.push ?_ _ | refine HSub.reserve ?_ _))) ?_
 simp -implicitDefEqProofs (disch := first | assumption | decide | omega | (simp only [wpD1] <;> omega) | (simp only [wpD2] <;> assumption) | solve_by_elim [zR, zP, zV] | fail) only [↓wpPre, wpPost, wpPoly, Int.reduceToNat, Int.reducePow, Int.reduceMul, Int.reduceAdd, Int.reduceSub, Int.reduceNeg, Nat.reduceAdd, Nat.reduceMul, Nat.reducePow, Int.reduceLT, Int.reduceLE, Int.reduceEq, Nat.reduceEqDiff]
 refine ACallsK.eq (S6 _ (by repeat (first | exact HSub.refl h | refine HSub.put ?_ (by (try simp only [Heap.size_put, Heap.size_push, Heap.size_reserve]); omega) _ | refine HSub.push ?_ _ | refine HSub.reserve ?_ _))) ?_
 simp -implicitDefEqProofs (disch := first | assumption | decide | omega | (simp only [wpD1] <;> omega) | (simp only [wpD2] <;> assumption) | solve_by_elim [zR, zP, zV] | fail) only [↓wpPre, wpPost, wpPoly, Int.reduceToNat, Int.reducePow, Int.reduceMul, Int.reduceAdd, Int.reduceSub, Int.reduceNeg, Nat.reduceAdd, Nat.reduceMul, Nat.reducePow, Int.reduceLT, Int.reduceLE, Int.reduceEq, Nat.reduceEqDiff]
 refine wp_loopI (fun j t h' => ∃ (k : Nat) (pv : AV), HSub h h' ∧ GrwI h h' pv (prnK (1 + a6) k) ∧ (∀ i ∈ pv.ids, h.size + 1 < i) ∧ h.size + 1 < h'.size ∧ h'.get h.size = some (.cells [.int .i64 0, .int .i64 0, .int .i64 0, .int .i64 0, .int .i64 0, .int .i64 0, .int .i64 0, .nilslice] true 0) ∧
   h'.get (h.size + 1) = some (.cells [.int .i64 (5 + a0), .int .i64 (1 + a1), .int .i64 (1 + a2), .int .i64 2, .int .i64 (1 + a3), .int .i64 (1 + a3 + a5), .int .i64 a4, pv] true 0) ∧ t 0 = v ∧ t 2 = .ptr h.size 0 ∧ t 3 = .ptr (h.size + 1) 0 ∧ t 4 = .int .i64 (1 + a6) ∧ t 5 = .int .i64 (k : Nat) ∧ (k : Int) ≤ a7 + 1 ∧ j = (a7 + 1 - k).toNat) (j0 := (a7 + 1).toNat)
  ⟨0, .nilslice, (by repeat (first | exact HSub.refl h | refine HSub.put ?_ (by (try simp only [Heap.size_put, Heap.size_push, Heap.size_reserve]); omega) _ | refine HSub.push ?_ _ | refine HSub.reserve ?_ _)), GrwI.nil' (by repeat (first | exact HSub.refl h | refine HSub.put ?_ (by (try simp only [Heap.size_put, Heap.size_push, Heap.size_reserve]); omega) _ | refine HSub.push ?_ _ | refine HSub.reserve ?_ _)), by simp [AV.ids], by simp, by simp -implicitDefEqProofs (disch := first | assumption | decide | omega | (simp only [wpD1] <;> omega) | (simp only [wpD2] <;> assumption) | solve_by_elim [zR, zP, zV] | fail) only [↓wpPre, wpPost, wpPoly, Int.reduceToNat, Int.reducePow, Int.reduceMul, Int.reduceAdd, Int.reduceSub, Int.reduceNeg, Nat.reduceAdd, Nat.reduceMul, Nat.reducePow, Int.reduceLT, Int.reduceLE, Int.reduceEq, Nat.reduceEqDiff], by simp -implicitDefEqProofs (disch := first | assumption | decide | omega | (simp only [wpD1] <;> omega) | (simp only [wpD2] <;> assumption) | solve_by_elim [zR, zP, zV] | fail) only [↓wpPre, wpPost, wpPoly, Int.reduceToNat, Int.reducePow, Int.reduceMul, Int.reduceAdd, Int.reduceSub, Int.reduceNeg, Nat.reduceAdd, Nat.reduceMul, Nat.reducePow, Int.reduceLT, Int.reduceLE, Int.reduceEq, Nat.reduceEqDiff], rfl, rfl, rfl, rfl, rfl, by omega, by simp⟩ ?_
 rintro j t H ⟨k, pv, s1, A, hid, hz, g0, g1, e0, e2, e3, e4, e5, hk, hj⟩
 simp -implicitDefEqProofs (disch := first | assumption | decide | omega | (simp only [wpD1] <;> omega) | (simp only [wpD2] <;> assumption) | solve_by_elim [zR, zP, zV] | fail) only [↓wpPre, wpPost, wpPoly, Int.reduceToNat, Int.reducePow, Int.reduceMul, Int.reduceAdd, Int.reduceSub, Int.reduceNeg, Nat.reduceAdd, Nat.reduceMul, Nat.reducePow, Int.reduceLT, Int.reduceLE, Int.reduceEq, Nat.reduceEqDiff, e0, e5]
 refine ACallsK.eq (S7 _ s1) ?_
 simp -implicitDefEqProofs (disch := first | assumption | decide | omega | (simp only [wpD1] <;> omega) | (simp only [wpD2] <;> assumption) | solve_by_elim [zR, zP, zV] | fail) only [↓wpPre, wpPost, wpPoly, Int.reduceToNat, Int.reducePow, Int.reduceMul, Int.reduceAdd, Int.reduceSub, Int.reduceNeg, Nat.reduceAdd, Nat.reduceMul, Nat.reducePow, Int.reduceLT, Int.reduceLE, Int.reduceEq, Nat.reduceEqDiff, e5]
 refine Br.by (fun c => ?_) (fun c => ?_)
 ·have pl := prnK_length (1 + a6) k
  have ps := prnK_succ (1 + a6) k
  have pone := A.ri.one
  have pcells := A.ri.cells
  have hk2 : k ≤ 3 := by omega
  have ap := fun (H' : Heap) (hH : HSub H H') => A.app (x := 1 + a6 + 4 * (k : Nat)) H' hH (by omega)
  have Ac := A.snoc (x := 1 + a6 + 4 * (k : Nat)) (HSub.push1 H (.cells [.int .i64 (1 + a6 + 4 * (k : Nat))] true 0)) (by omega)
  rw [← ps] at Ac
  have nn1 : h.size + 1 ∉ pv.ids := fun q => by have := hid _ q; omega
  have nn0 : h.size ∉ pv.ids := fun q => by have := hid _ q; omega
  have q1 : (snocH (H.push (.cells [.int .i64 (1 + a6 + 4 * (k : Nat))] true 0)) none pv 1 (ints (prnK (1 + a6) (k + 1)))).get (h.size + 1) = some (.cells [.int .i64 (5 + a0), .int .i64 (1 + a1), .int .i64 (1 + a2), .int .i64 2, .int .i64 (1 + a3), .int .i64 (1 + a3 + a5), .int .i64 a4, pv] true 0) := (snocN_ne (by simp only [Heap.size_push]; omega) nn1).trans ((get_push_lt (by omega)).trans g1)
  have q0 : (snocH (H.push (.cells [.int .i64 (1 + a6 + 4 * (k : Nat))] true 0)) none pv 1 (ints (prnK (1 + a6) (k + 1)))).get h.size = some (.cells [.int .i64 0, .int .i64 0, .int .i64 0, .int .i64 0, .int .i64 0, .int .i64 0, .int .i64 0, .nilslice] true 0) := (snocN_ne (by simp only [Heap.size_push]; omega) nn0).trans ((get_push_lt (by omega)).trans g0)
  have qz : (snocH (H.push (.cells [.int .i64 (1 + a6 + 4 * (k : Nat))] true 0)) none pv 1 (ints (prnK (1 + a6) (k + 1)))).size = H.size + 1 + 1 := snocN_size
  simp -implicitDefEqProofs (disch := first | assumption | decide | omega | (simp only [wpD1] <;> omega) | (simp only [wpD2] <;> assumption) | solve_by_elim [zR, zP, zV] | fail) only [↓wpPre, wpPost, wpPoly, Int.reduceToNat, Int.reducePow, Int.reduceMul, Int.reduceAdd, Int.reduceSub, Int.reduceNeg, Nat.reduceAdd, Nat.reduceMul, Nat.reducePow, Int.reduceLT, Int.reduceLE, Int.reduceEq, Nat.reduceEqDiff, e3, e4, e5, g1, cont_slice, contB_one, ap, ← ps]
  generalize hT : snocH (H.push (.cells [.int .i64 (1 + a6 + 4 * (k : Nat))] true 0)) none pv 1 (ints (prnK (1 + a6) (k + 1))) = T at *
  simp -implicitDefEqProofs (disch := first | assumption | decide | omega | (simp only [wpD1] <;> omega) | (simp only [wpD2] <;> assumption) | solve_by_elim [zR, zP, zV] | fail) only [↓wpPre, wpPost, wpPoly, Int.reduceToNat, Int.reducePow, Int.reduceMul, Int.reduceAdd, Int.reduceSub, Int.reduceNeg, Nat.reduceAdd, Nat.reduceMul, Nat.reducePow, Int.reduceLT, Int.reduceLE, Int.reduceEq, Nat.reduceEqDiff, q0, q1, qz, e0, e2, e3, e4, e5]
  have idn : ∀ i ∈ (AV.slice (H.size + 1) 0 ((prnK (1 + a6) k).length + 1) (.unk 0)).ids, i = H.size + 1 := fun i hi => by simpa [AV.ids] using hi
  have Ac2 := Ac.putNe (i := h.size + 1) (b := .cells [.int .i64 (5 + a0), .int .i64 (1 + a1), .int .i64 (1 + a2), .int .i64 2, .int .i64 (1 + a3), .int .i64 (1 + a3 + a5), .int .i64 a4, .slice (H.size + 1) 0 ((prnK (1 + a6) k).length + 1) (.unk 0)] true 0) (by omega) (fun j hj => by have := idn j hj; omega)
  exact ⟨_, ⟨k + 1, _, Ac2.sub, Ac2, fun i hi => by have := idn i hi; omega, by omega, rfl, by simp, by omega, rfl⟩, by omega⟩
 ·have ek : (a7 + 1).toNat = k := by omega
  rw [ek]
  have pone := A.ri.one
  have pcells := A.ri.cells
  simp -implicitDefEqProofs (disch := first | assumption | decide | omega | (simp only [wpD1] <;> omega) | (simp only [wpD2] <;> assumption) | solve_by_elim [zR, zP, zV] | fail) only [↓wpPre, wpPost, wpPoly, Int.reduceToNat, Int.reducePow, Int.reduceMul, Int.reduceAdd, Int.reduceSub, Int.reduceNeg, Nat.reduceAdd, Nat.reduceMul, Nat.reducePow, Int.reduceLT, Int.reduceLE, Int.reduceEq, Nat.reduceEqDiff, e2, e3, g0, g1]
  exact ⟨(by repeat (first | exact s1 | refine HSub.put ?_ (by (try simp only [Heap.size_put, Heap.size_push, Heap.size_reserve]); omega) _ | refine HSub.push ?_ _ | refine HSub.reserve ?_ _)), pv, rfl, (A.putNe (by omega) (fun j hj => by have := hid j hj; omega)).ri, fun j hj => by have := hid j hj; omega⟩
end
end Go.Ae
/- An emitter's sample in a known period. -/
set_option linter.unusedSimpArgs false
set_option linter.unusedVariables false
namespace Go.Ae
theorem sampL_get' {d p : Int} {o i : Nat} (ho : 1 ≤ o) (h : i < lenN d * o) : (sampL d p o).getD i 0 = (codeL d p).getD (i / o) 0 := by
 have key : ∀ (l : List Int) (i : Nat), i < l.length * o → ((l.map fun x => List.replicate o x).flatten).getD i 0 = l.getD (i / o) 0 := by
  intro l
  induction l with
  | nil => intro i hi; simp at hi
  | cons x l ih =>
   intro i hi
   rw [List.map_cons, List.flatten_cons, List.getD_eq_getElem?_getD]
   rcases Nat.lt_or_ge i o with c | c
   ·rw [List.getElem?_append_left (by simpa using c), Nat.div_eq_of_lt c]
    simp [c]
   ·rw [List.getElem?_append_right (by simpa using c), List.length_replicate, ← List.getD_eq_getElem?_getD, ih (i - o) (by simp [Nat.succ_mul] at hi; omega)]
    have e : i / o = (i - o) / o + 1 := by
     rw [← Nat.add_div_right _ (by omega)]
     congr 1; omega
    rw [e, List.getD_cons_succ]
 have := key (codeL d p) i (by rw [codeL_length]; exact h)
 exact this
theorem chip_samp {p : PlanP} {e : EmitP} (ok : EmOk p e) {i : Int} (hi : 0 ≤ i) : chipI p e i = (sampL p.d e.prn p.o.toNat).getD (min i (p.size - 1)).toNat 0 := by
 have sz := size_range ok.pn
 have o' := ok.pn.2.1
 have hN := lenN_eq ok.pn.1
 obtain ⟨o, eo⟩ := Int.eq_ofNat_of_zero_le (show 0 ≤ p.o by omega)
 have es : p.size = ((lenN p.d * o : Nat) : Int) := by rw [sz.2.2, eo, Int.toNat_natCast]
 rw [eo, Int.toNat_natCast, sampL_get' (by omega) (by omega)]
 unfold chipI
 congr 1
 rw [eo]
 obtain ⟨m, rfl⟩ := Int.eq_ofNat_of_zero_le hi
 have e1 : ((m : Int) / (o : Int)) = ((m / o : Nat) : Int) := (Int.natCast_ediv m o).symm
 rw [e1, es]
 rcases Nat.lt_or_ge m (lenN p.d * o) with c | c
 ·have q : m / o < lenN p.d := (Nat.div_lt_iff_lt_mul (by omega)).2 c
  rw [show (min (m : Int) (((lenN p.d * o : Nat) : Int) - 1)).toNat = m by omega]
  generalize m / o = w at *
  omega
 ·have q : lenN p.d ≤ m / o := (Nat.le_div_iff_mul_le (by omega)).2 c
  rw [show (min (m : Int) (((lenN p.d * o : Nat) : Int) - 1)).toNat = lenN p.d * o - 1 by omega]
  have q2 : (lenN p.d * o - 1) / o = lenN p.d - 1 := by
   rw [Nat.div_eq_iff (by omega)]
   obtain ⟨N, hN2⟩ : ∃ N, lenN p.d = N + 1 := ⟨lenN p.d - 1, by omega⟩
   rw [hN2, Nat.add_sub_cancel, Nat.add_mul]
   omega
  rw [q2]
  generalize m / o = w at *
  omega
theorem at_in {p : PlanP} {e : EmitP} (ok : EmOk p e) {x K : Int} (h1 : e.sta p K ≤ x) (h2 : x < e.sta p (K + 1)) : atV p e x = (e.amp * (1 - 2 * bitI p e K) * (sampL p.d e.prn p.o.toNat).getD (min (x - e.sta p K) (p.size - 1)).toNat 0 * (carP (phI e.ph e.st K)).1, e.amp * (1 - 2 * bitI p e K) * (sampL p.d e.prn p.o.toNat).getD (min (x - e.sta p K) (p.size - 1)).toNat 0 * (carP (phI e.ph e.st K)).2) := by
 have hk : e.pl p x = K := (pl_of (dl := e.dl) ok.den h1 h2).symm
 unfold atV
 rw [hk, chip_samp ok (by omega)]
 refine Prod.ext ?_ ?_ <;> grind
end Go.Ae
/- Three numbers as a value. -/
set_option linter.unusedSimpArgs false
set_option linter.unusedVariables false
namespace Go.Ae
end Go.Ae
/- Finding the code that chips are a rotation of. -/
set_option linter.unusedSimpArgs false
set_option linter.unusedVariables false
namespace Go.Ae
section
variable {C : Ctx}
end
end Go.Ae
/- Sums of products of codes have three values. -/
set_option linter.unusedSimpArgs false
set_option linter.unusedVariables false
namespace Go.Ae
/-! ### Words -/
def rotN (n a W : Nat) : Nat := (W >>> a ||| W <<< (n - a)) % 2 ^ n
theorem rotN_bit {n a W i : Nat} (hW : W < 2 ^ n) (ha : a < n) (hi : i < n) : (rotN n a W).testBit i = W.testBit ((i + a) % n) := by
 unfold rotN
 rw [Nat.testBit_mod_two_pow, Nat.testBit_or, Nat.testBit_shiftRight, Nat.testBit_shiftLeft, decide_eq_true hi, Bool.true_and]
 by_cases c : i + a < n
 ·rw [Nat.mod_eq_of_lt c, Nat.add_comm a i, decide_eq_false (by omega), Bool.false_and, Bool.or_false]
 ·have h1 : W.testBit (a + i) = false := Nat.testBit_lt_two_pow (Nat.lt_of_lt_of_le hW (Nat.pow_le_pow_right (by decide) (by omega)))
  rw [h1, Bool.false_or, decide_eq_true (by omega), Bool.true_and, Nat.mod_eq_sub_mod (by omega), Nat.mod_eq_of_lt (by omega)]
  congr 1; omega
def popc : Nat → Nat → Nat
 | 0, _ => 0
 | n + 1, W => W % 2 + popc n (W / 2)
theorem popc_eq : ∀ n W, popc n W = pop W n
 | 0, W => rfl
 | n + 1, W => by
  rw [popc, popc_eq n, Nat.add_comm n 1, pop_add]
  have e1 : pop W 1 = W % 2 := by
   simp only [pop, bsum, bitN, Nat.testBit_zero, Nat.zero_add]
   have := Nat.mod_two_eq_zero_or_one W
   rcases this with h | h <;> simp [h]
  rw [e1, Nat.shiftRight_eq_div_pow, Nat.pow_one]
def saOk (n W : Nat) : Bool := (List.range n).all fun a => Nat.beq a 0 || (List.range n).any fun s => Nat.beq (W ^^^ rotN n a W) (rotN n s W)
def corrOk (n W V t : Nat) : Bool := (List.range n).all fun e => let s := popc n (W ^^^ rotN n e V); Nat.beq (n + 1) (2 * s) || Nat.beq (n + t) (2 * s) || Nat.beq (n + 2) (2 * s + t)
/-! ### Sums -/
def isum (f : Nat → Int) : Nat → Int
 | 0 => 0
 | n + 1 => isum f n + f n
theorem isum_congr {f g : Nat → Int} : ∀ n, (∀ i, i < n → f i = g i) → isum f n = isum g n
 | 0, _ => rfl
 | n + 1, h => by simp only [isum]; rw [isum_congr n (fun i hi => h i (by omega)), h n (by omega)]
theorem isum_one (f : Nat → Int) : ∀ n, isum (fun i => f (i + 1)) n = isum f n + f n - f 0
 | 0 => by simp [isum]
 | n + 1 => by simp only [isum, isum_one f n]; omega
theorem isum_shift {f : Nat → Int} {n : Nat} (hf : ∀ i, f (i + n) = f i) : ∀ s, isum (fun i => f (i + s)) n = isum f n
 | 0 => rfl
 | s + 1 => by
  have ih := isum_shift hf s
  have h1 := isum_one (fun i => f (i + s)) n
  have h2 : f (n + s) = f (0 + s) := by rw [Nat.add_comm n s, hf, Nat.zero_add]
  rw [ih] at h1
  have h3 : isum (fun i => f (i + 1 + s)) n = isum (fun i => f (i + (s + 1))) n := isum_congr n fun i _ => by congr 1; omega
  rw [← h3, h1]; omega
theorem isum_bits {x : Nat → Int} (hx : ∀ i, x i = 0 ∨ x i = 1) : ∀ n, isum (fun i => 1 - 2 * x i) n = n - 2 * (bsum (fun i => (x i).toNat) n : Nat)
 | 0 => by simp [isum, bsum]
 | n + 1 => by
  simp only [isum, bsum, isum_bits hx n]
  rcases hx n with h | h <;> rw [h] <;> simp <;> omega
/-! ### Periodic bits -/
structure Pair (n : Nat) (t : Int) (U V : Nat → Int) : Prop where
 pos : 0 < n
 u01 : ∀ i, U i = 0 ∨ U i = 1
 v01 : ∀ i, V i = 0 ∨ V i = 1
 uper : ∀ i, U (i + n) = U i
 vper : ∀ i, V (i + n) = V i
 usa : ∀ a, a % n ≠ 0 → ∃ s, ∀ i, (U i + U (i + a)) % 2 = U (i + s)
 vsa : ∀ a, a % n ≠ 0 → ∃ s, ∀ i, (V i + V (i + a)) % 2 = V (i + s)
 usum : isum (fun i => 1 - 2 * U i) n = -1
 vsum : isum (fun i => 1 - 2 * V i) n = -1
 corr : ∀ e, let S := isum (fun i => 1 - 2 * ((U i + V (i + e)) % 2)) n; S = -1 ∨ S = -t ∨ S = t - 2
section
variable {n : Nat} {t : Int} {U V : Nat → Int}
theorem per_mod {f : Nat → Int} (hf : ∀ i, f (i + n) = f i) (i : Nat) : f (i % n) = f i := by
 have h : ∀ k r, f (r + n * k) = f r := by
  intro k
  induction k with
  | zero => intro r; rfl
  | succ k ih => intro r; rw [Nat.mul_succ, ← Nat.add_assoc, hf, ih]
 have := h (i / n) (i % n)
 rw [Nat.add_comm, Nat.div_add_mod] at this
 exact this.symm
theorem per_zero {f : Nat → Int} (hf : ∀ i, f (i + n) = f i) {a : Nat} (ha : a % n = 0) (i : Nat) : f (i + a) = f i := by
 rw [← per_mod hf (i + a), Nat.add_mod, ha, Nat.add_zero, Nat.mod_mod, per_mod hf]
theorem two_shift {f : Nat → Int} (f01 : ∀ i, f i = 0 ∨ f i = 1) (hf : ∀ i, f (i + n) = f i) (hn : 0 < n) (sa : ∀ a, a % n ≠ 0 → ∃ s, ∀ i, (f i + f (i + a)) % 2 = f (i + s)) (a b : Nat) :
  (a % n = b % n ∧ ∀ i, (f (i + a) + f (i + b)) % 2 = 0) ∨ (a % n ≠ b % n ∧ ∃ s, ∀ i, (f (i + a) + f (i + b)) % 2 = f (i + s)) := by
 by_cases c : a % n = b % n
 ·left
  refine ⟨c, fun i => ?_⟩
  have : f (i + a) = f (i + b) := by rw [← per_mod hf (i + a), ← per_mod hf (i + b), Nat.add_mod, c, ← Nat.add_mod]
  have h1 := f01 (i + b)
  rw [this]; omega
 ·right
  refine ⟨c, ?_⟩
  -- the shift of b past a
  have hd : (b + (n - a % n)) % n ≠ 0 := by
   intro h0
   apply c
   have h1 := Nat.div_add_mod b n
   have h2 := Nat.mod_lt a hn
   have h3 := Nat.mod_lt b hn
   rw [Nat.add_mod] at h0
   by_cases ha : a % n = 0
   ·rw [ha, Nat.sub_zero, Nat.mod_self, Nat.add_zero, Nat.mod_mod] at h0; omega
   ·rw [Nat.mod_eq_of_lt (show n - a % n < n by omega)] at h0
    by_cases hb : b % n + (n - a % n) < n
    ·rw [Nat.mod_eq_of_lt hb] at h0; omega
    ·rw [Nat.mod_eq_sub_mod (by omega), Nat.mod_eq_of_lt (by omega)] at h0; omega
  obtain ⟨s, hs⟩ := sa _ hd
  refine ⟨a + s, fun i => ?_⟩
  have h1 := hs (i + a)
  have h2 : f (i + a + (b + (n - a % n))) = f (i + b) := by
   have h3 : i + a + (b + (n - a % n)) = i + b + (a - a % n + n) := by
    have := Nat.mod_le a n
    have := Nat.mod_lt a hn
    omega
   rw [h3]
   refine per_zero hf ?_ _
   rw [Nat.add_mod_right]
   have : a - a % n = n * (a / n) := by have := Nat.div_add_mod a n; omega
   rw [this, Nat.mul_mod_right]
  rw [h2] at h1
  rw [h1, Nat.add_assoc]
def mixB (U V : Nat → Int) (al be : Bool) (b i : Nat) : Int := ((if al then U i else 0) + (if be then V (i + b) else 0)) % 2
theorem mix_three (P : Pair n t U V) (al be al' be' : Bool) (b b' k : Nat) (h1 : al = true ∨ be = true) (h2 : al' = true ∨ be' = true) :
  let S := isum (fun i => (1 - 2 * mixB U V al be b i) * (1 - 2 * mixB U V al' be' b' (i + k))) n
  (al = al' ∧ be = be' ∧ (al = true → k % n = 0) ∧ (be = true → b % n = (k + b') % n) ∧ S = n) ∨ (S = -1 ∨ S = -t ∨ S = t - 2) := by
 intro S
 -- each part
 have hu : (al = al' ∧ (al = true → k % n = 0) ∧ ∀ i, ((if al then U i else 0) + (if al' then U (i + k) else 0)) % 2 = 0) ∨ ∃ s, ∀ i, ((if al then U i else 0) + (if al' then U (i + k) else 0)) % 2 = U (i + s) := by
  cases al <;> cases al'
  ·left; exact ⟨rfl, by simp, fun i => by simp⟩
  ·right; exact ⟨k, fun i => by have := P.u01 (i + k); simp; omega⟩
  ·right; exact ⟨0, fun i => by have := P.u01 i; simp; omega⟩
  ·rcases two_shift P.u01 P.uper P.pos P.usa 0 k with ⟨a1, a2⟩ | ⟨a1, s, a2⟩
   ·left; exact ⟨rfl, fun _ => by rw [← a1, Nat.zero_mod], fun i => by simpa using a2 i⟩
   ·right; exact ⟨s, fun i => by simpa using a2 i⟩
 have hv : (be = be' ∧ (be = true → b % n = (k + b') % n) ∧ ∀ i, ((if be then V (i + b) else 0) + (if be' then V (i + k + b') else 0)) % 2 = 0) ∨ ∃ s, ∀ i, ((if be then V (i + b) else 0) + (if be' then V (i + k + b') else 0)) % 2 = V (i + s) := by
  cases be <;> cases be'
  ·left; exact ⟨rfl, by simp, fun i => by simp⟩
  ·right; exact ⟨k + b', fun i => by have := P.v01 (i + k + b'); rw [← Nat.add_assoc]; simp; omega⟩
  ·right; exact ⟨b, fun i => by have := P.v01 (i + b); simp; omega⟩
  ·rcases two_shift P.v01 P.vper P.pos P.vsa b (k + b') with ⟨a1, a2⟩ | ⟨a1, s, a2⟩
   ·left; exact ⟨rfl, fun _ => a1, fun i => by have := a2 i; rw [← Nat.add_assoc] at this; simpa using this⟩
   ·right; exact ⟨s, fun i => by have := a2 i; rw [← Nat.add_assoc] at this; simpa using this⟩
 have key : ∀ i, (1 - 2 * mixB U V al be b i) * (1 - 2 * mixB U V al' be' b' (i + k)) = 1 - 2 * ((((if al then U i else 0) + (if al' then U (i + k) else 0)) % 2 + ((if be then V (i + b) else 0) + (if be' then V (i + k + b') else 0)) % 2) % 2) := by
  intro i
  unfold mixB
  have x1 : (if al then U i else 0) = 0 ∨ (if al then U i else 0) = 1 := by cases al <;> simp; exact P.u01 i
  have x2 : (if al' then U (i + k) else 0) = 0 ∨ (if al' then U (i + k) else 0) = 1 := by cases al' <;> simp; exact P.u01 _
  have x3 : (if be then V (i + b) else 0) = 0 ∨ (if be then V (i + b) else 0) = 1 := by cases be <;> simp; exact P.v01 _
  have x4 : (if be' then V (i + k + b') else 0) = 0 ∨ (if be' then V (i + k + b') else 0) = 1 := by cases be' <;> simp; exact P.v01 _
  generalize (if al then U i else 0) = a1 at *
  generalize (if al' then U (i + k) else 0) = a2 at *
  generalize (if be then V (i + b) else 0) = a3 at *
  generalize (if be' then V (i + k + b') else 0) = a4 at *
  rcases x1 with rfl | rfl <;> rcases x2 with rfl | rfl <;> rcases x3 with rfl | rfl <;> rcases x4 with rfl | rfl <;> decide
 have eS : S = isum (fun i => 1 - 2 * ((((if al then U i else 0) + (if al' then U (i + k) else 0)) % 2 + ((if be then V (i + b) else 0) + (if be' then V (i + k + b') else 0)) % 2) % 2)) n := isum_congr n fun i _ => key i
 rcases hu with ⟨u1, u2, u3⟩ | ⟨s, u3⟩ <;> rcases hv with ⟨v1, v2, v3⟩ | ⟨s', v3⟩
 ·left
  refine ⟨u1, v1, u2, v2, ?_⟩
  rw [eS, isum_congr n (g := fun _ => 1) (fun i _ => by rw [u3, v3]; rfl)]
  have : ∀ m, isum (fun _ => 1) m = m := by
   intro m
   induction m with
   | zero => rfl
   | succ m ih => simp only [isum, ih]; omega
  exact this n
 ·right; left
  rw [eS, isum_congr n (g := fun i => 1 - 2 * V (i + s')) (fun i _ => by rw [u3, v3]; have := P.v01 (i + s'); omega)]
  exact (isum_shift (f := fun i => 1 - 2 * V i) (fun i => by rw [P.vper]) s').trans P.vsum
 ·right; left
  rw [eS, isum_congr n (g := fun i => 1 - 2 * U (i + s)) (fun i _ => by rw [u3, v3]; have := P.u01 (i + s); omega)]
  exact (isum_shift (f := fun i => 1 - 2 * U i) (fun i => by rw [P.uper]) s).trans P.usum
 ·right
  -- both: shift by s, then the place of v
  have hn := P.pos
  have h1 : S = isum (fun i => 1 - 2 * ((U i + V (i + (s' + (n * s - s)))) % 2)) n := by
   rw [eS, isum_congr n (g := fun i => 1 - 2 * ((U (i + s) + V (i + s + (s' + (n * s - s)))) % 2)) (fun i _ => by
    have hle : s ≤ n * s := Nat.le_mul_of_pos_left s hn
    have : V (i + s + (s' + (n * s - s))) = V (i + s') := by
     rw [show i + s + (s' + (n * s - s)) = i + s' + n * s by omega]
     exact per_zero P.vper (Nat.mul_mod_right n s) _
    rw [u3, v3, this])]
   exact isum_shift (f := fun i => 1 - 2 * ((U i + V (i + (s' + (n * s - s)))) % 2)) (fun i => by
    rw [P.uper, show i + n + (s' + (n * s - s)) = i + (s' + (n * s - s)) + n by omega, P.vper]) s
  have h2 := P.corr (s' + (n * s - s))
  rw [h1]; exact h2
end
end Go.Ae
