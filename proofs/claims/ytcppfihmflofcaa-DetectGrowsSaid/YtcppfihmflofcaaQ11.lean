/- Texts of the proof, part 11: a second reading of the lowered code, proved sound, and what the functions compute. -/
import Derived.Test.YtcppfihmflofcaaQ10
/- The sequences of the degrees. -/
set_option linter.unusedSimpArgs false
set_option linter.unusedVariables false
namespace Go.Ae
def onesL (d : Int) : List Int := List.replicate d.toNat 1
def bitsL (d w : Int) : List Int := runL (tapsL d w) (onesL d) (lenN d)
theorem bitsL_length (d w : Int) : (bitsL d w).length = lenN d := runL_length _ _ _
theorem reg_ok {d w : Int} (hd : lenOk d = true) (hw : w = 1 ∨ w = 2) : regErr d (tapsL d w) (onesL d) = 0 := by
 rcases lenOk_cases hd with rfl | rfl | rfl | rfl | rfl <;> rcases hw with rfl | rfl <;> decide
theorem bitsL_01 {d w : Int} : ∀ x ∈ bitsL d w, x = 0 ∨ x = 1 := by
 intro x hx
 obtain ⟨k, _, rfl⟩ := List.mem_map.1 hx
 exact seqB_01 (fun y hy => .inr (List.mem_replicate.1 hy).2) k
section
variable {C : Ctx}
set_option maxRecDepth 100000 in
theorem Bits_spec (hC : Has C T74) {d w : Int} {h : Heap} (hd : In64 d) (hw : In64 w) : ACalls C 74 [.int .i64 d, .int .i64 w] h (fun r h' => ∃ v, r = lstErr v (tapsErr d w) ∧ HSub h h' ∧ RI h' v (if tapsErr d w = 0 then bitsL d w else []) ∧ (tapsErr d w = 0 → Fresh h h' v (bitsL d w))) := by
 by_cases c : lenOk d = true ∧ (w = 1 ∨ w = 2)
 ·have pe : tapsErr d w = 0 := by unfold tapsErr; rw [if_pos c]
  have hl := lenN_eq c.1
  have hr := reg_ok c.1 c.2
  have hd5 : 5 ≤ d ∧ d ≤ 10 := by have := lenOk_cases c.1; omega
  have hT := Taps_spec (d := d) (w := w) (h := h) (hC.sub (T' := T72) (by decide)) hd hw
  rw [pe, if_pos rfl] at hT
  rw [pe]
  obtain ⟨k, rfl⟩ := Int.eq_ofNat_of_zero_le (show 0 ≤ d by omega)
  have re : runErr (k : Nat) (tapsL (k : Nat) w) (onesL (k : Nat)) (lenN (k : Nat)) = 0 := by unfold runErr; rw [if_pos hr, if_neg (by omega)]
  (refine calls_intro (hC.body (by decide) tab74) (Nat.le_of_ble_eq_true rfl) ?_); (show wp C _ none B74.code _ _); (simp only [B74]); simp -implicitDefEqProofs (disch := first | assumption | decide | omega | (simp only [wpD1] <;> omega) | (simp only [wpD2] <;> assumption) | solve_by_elim [zR, zP, zV] | fail) only [↓wpPre, wpPost, wpPoly, Int.reduceToNat, Int.reducePow, Int.reduceMul, Int.reduceAdd, Int.reduceSub, Int.reduceNeg, Nat.reduceAdd, Nat.reduceMul, Nat.reducePow, Int.reduceLT, Int.reduceLE, Int.reduceEq, Nat.reduceEqDiff]
  refine ACallsK.of hT ?_
  rintro r h1 ⟨v1, rfl, s1, R1⟩
  have h22 : (2 : Int) ^ k = ((lenN (k : Nat) + 1 : Nat) : Int) := by have := hl.2.2; rwa [Int.toNat_natCast] at this
  have e3 : ((lenN (k : Nat) + 1 : Nat) : Int) - 1 = lenN (k : Nat) := by omega
  simp -implicitDefEqProofs (disch := first | assumption | decide | omega | (simp only [wpD1] <;> omega) | (simp only [wpD2] <;> assumption) | solve_by_elim [zR, zP, zV] | fail) only [↓wpPre, wpPost, wpPoly, Int.reduceToNat, Int.reducePow, Int.reduceMul, Int.reduceAdd, Int.reduceSub, Int.reduceNeg, Nat.reduceAdd, Nat.reduceMul, Nat.reducePow, Int.reduceLT, Int.reduceLE, Int.reduceEq, Nat.reduceEqDiff, lstErr, Int.one_mul, h22, e3, Heap.wf]
  have eo : onesL ((k : Nat) : Int) = List.replicate k 1 := by simp [onesL]
  have hsH : HSub h1 ((h1.reserve 13).put (h1.size + 2) (.cells [.int .i64 1] true 0)) := ((HSub.refl _).reserve _).put (by omega) _
  refine ACallsK.of (Repeat_spec (hC.sub (T' := T90) (by decide)) (x := 1) (n := k) (RI.known (get_put_eq rfl (by simp)) ⟨rfl, by decide⟩ (by decide)) (by omega)) ?_
  rintro r h2 F
  have s2 := F.sub
  have s02 := s1.trans (hsH.trans s2)
  have hR := Run_spec (m := (lenN (k : Nat) : Int)) (h := h2) (hC.sub (T' := T81) (by decide)) (R1.mono (hsH.trans s2)) (w := onesL (k : Nat)) (n := (k : Nat)) (by rw [eo]; exact F.ri) (by unfold In64; omega)
  rw [re] at hR
  simp -implicitDefEqProofs (disch := first | assumption | decide | omega | (simp only [wpD1] <;> omega) | (simp only [wpD2] <;> assumption) | solve_by_elim [zR, zP, zV] | fail) only [↓wpPre, wpPost, wpPoly, Int.reduceToNat, Int.reducePow, Int.reduceMul, Int.reduceAdd, Int.reduceSub, Int.reduceNeg, Nat.reduceAdd, Nat.reduceMul, Nat.reducePow, Int.reduceLT, Int.reduceLE, Int.reduceEq, Nat.reduceEqDiff, h22, e3, Int.one_mul]
  refine ACallsK.of hR ?_
  rintro r h3 ⟨v3, rfl, s3, R3, F3⟩
  simp -implicitDefEqProofs (disch := first | assumption | decide | omega | (simp only [wpD1] <;> omega) | (simp only [wpD2] <;> assumption) | solve_by_elim [zR, zP, zV] | fail) only [↓wpPre, wpPost, wpPoly, Int.reduceToNat, Int.reducePow, Int.reduceMul, Int.reduceAdd, Int.reduceSub, Int.reduceNeg, Nat.reduceAdd, Nat.reduceMul, Nat.reducePow, Int.reduceLT, Int.reduceLE, Int.reduceEq, Nat.reduceEqDiff, lstErr]
  have F3 := F3 rfl
  have : (lenN (k : Nat) : Int).toNat = lenN (k : Nat) := Int.toNat_natCast _
  rw [this] at F3
  exact ⟨v3, rfl, s02.trans s3, by rw [if_pos trivial]; exact F3.ri, fun _ => F3.mono s02⟩
 ·have pe : tapsErr d w = 2 := by unfold tapsErr; rw [if_neg c]
  have hT := Taps_spec (d := d) (w := w) (h := h) (hC.sub (T' := T72) (by decide)) hd hw
  rw [pe] at hT
  rw [pe]
  (refine calls_intro (hC.body (by decide) tab74) (Nat.le_of_ble_eq_true rfl) ?_); (show wp C _ none B74.code _ _); (simp only [B74]); simp -implicitDefEqProofs (disch := first | assumption | decide | omega | (simp only [wpD1] <;> omega) | (simp only [wpD2] <;> assumption) | solve_by_elim [zR, zP, zV] | fail) only [↓wpPre, wpPost, wpPoly, Int.reduceToNat, Int.reducePow, Int.reduceMul, Int.reduceAdd, Int.reduceSub, Int.reduceNeg, Nat.reduceAdd, Nat.reduceMul, Nat.reducePow, Int.reduceLT, Int.reduceLE, Int.reduceEq, Nat.reduceEqDiff]
  refine ACallsK.of hT ?_
  rintro r h1 ⟨v1, rfl, s1, R1⟩
  simp -implicitDefEqProofs (disch := first | assumption | decide | omega | (simp only [wpD1] <;> omega) | (simp only [wpD2] <;> assumption) | solve_by_elim [zR, zP, zV] | fail) only [↓wpPre, wpPost, wpPoly, Int.reduceToNat, Int.reducePow, Int.reduceMul, Int.reduceAdd, Int.reduceSub, Int.reduceNeg, Nat.reduceAdd, Nat.reduceMul, Nat.reducePow, Int.reduceLT, Int.reduceLE, Int.reduceEq, Nat.reduceEqDiff, lstErr]
  exact ⟨.nilslice, rfl, s1, by rw [if_neg id]; exact RI.nil⟩
set_option maxRecDepth 100000 in
theorem Bits08_spec (hC : Has C T75) {d w : Int} {h : Heap} (hd : In64 d) (hw : In64 w) : ACalls C 75 [.int .i64 d, .int .i64 w] h (fun r h' => ∃ v, r = lstErr v (tapsErr d w) ∧ HSub h h' ∧ RI h' v (if tapsErr d w = 0 then bitsL d w else [])) := by
 by_cases c : lenOk d = true ∧ (w = 1 ∨ w = 2)
 ·have pe : tapsErr d w = 0 := by unfold tapsErr; rw [if_pos c]
  have hl := lenN_eq c.1
  have hr := reg_ok c.1 c.2
  have hd5 : 5 ≤ d ∧ d ≤ 10 := by have := lenOk_cases c.1; omega
  have hT := Taps08_spec (d := d) (w := w) (h := h) (hC.sub (T' := T73) (by decide)) hd hw
  rw [pe, if_pos rfl] at hT
  have eL : lenE d = tup2 (lenN d) 0 := by unfold lenE; rw [if_pos c.1]
  rw [pe]
  obtain ⟨k, rfl⟩ := Int.eq_ofNat_of_zero_le (show 0 ≤ d by omega)
  obtain ⟨kk, hkk, R⟩ := regErr_ok hr
  have : kk = k := by omega
  subst this
  (refine calls_intro (hC.body (by decide) tab75) (Nat.le_of_ble_eq_true rfl) ?_); (show wp C _ none B75.code _ _); (simp only [B75]); simp -implicitDefEqProofs (disch := first | assumption | decide | omega | (simp only [wpD1] <;> omega) | (simp only [wpD2] <;> assumption) | solve_by_elim [zR, zP, zV] | fail) only [↓wpPre, wpPost, wpPoly, Int.reduceToNat, Int.reducePow, Int.reduceMul, Int.reduceAdd, Int.reduceSub, Int.reduceNeg, Nat.reduceAdd, Nat.reduceMul, Nat.reducePow, Int.reduceLT, Int.reduceLE, Int.reduceEq, Nat.reduceEqDiff]
  refine ACallsK.of hT ?_
  rintro r h1 ⟨v1, rfl, s1, R1⟩
  simp -implicitDefEqProofs (disch := first | assumption | decide | omega | (simp only [wpD1] <;> omega) | (simp only [wpD2] <;> assumption) | solve_by_elim [zR, zP, zV] | fail) only [↓wpPre, wpPost, wpPoly, Int.reduceToNat, Int.reducePow, Int.reduceMul, Int.reduceAdd, Int.reduceSub, Int.reduceNeg, Nat.reduceAdd, Nat.reduceMul, Nat.reducePow, Int.reduceLT, Int.reduceLE, Int.reduceEq, Nat.reduceEqDiff, lstErr]
  refine ACallsK.eq2 (Length08_spec (hC.sub (T' := T71) (by decide)) hd) eL ?_
  simp -implicitDefEqProofs (disch := first | assumption | decide | omega | (simp only [wpD1] <;> omega) | (simp only [wpD2] <;> assumption) | solve_by_elim [zR, zP, zV] | fail) only [↓wpPre, wpPost, wpPoly, Int.reduceToNat, Int.reducePow, Int.reduceMul, Int.reduceAdd, Int.reduceSub, Int.reduceNeg, Nat.reduceAdd, Nat.reduceMul, Nat.reducePow, Int.reduceLT, Int.reduceLE, Int.reduceEq, Nat.reduceEqDiff, tup2, ints_replicate]
  have hol : ∀ p, p ≤ kk → (ones01 1 kk p).length = kk := fun p hp => ones01_length hp
  refine wp_loopI (fun j t h' => ∃ p : Nat, h' = h1.push (.cells (ints (ones01 1 kk p)) true 0) ∧ t 0 = .int .i64 (kk : Nat) ∧ t 6 = v1 ∧ t 8 = .int .i64 (lenN (kk : Nat)) ∧ t 10 = .slice h1.size 0 kk (.known kk) ∧ t 11 = .int .i64 (p : Nat) ∧ p ≤ kk ∧ j = kk - p) (j0 := kk)
   ⟨0, by simp [ones01], rfl, rfl, rfl, rfl, rfl, by omega, rfl⟩ ?_
  rintro j t h' ⟨p, rfl, e0, e6, e8, e10, e11, hp, hj⟩
  have holp := hol p hp
  simp -implicitDefEqProofs (disch := first | assumption | decide | omega | (simp only [wpD1] <;> omega) | (simp only [wpD2] <;> assumption) | solve_by_elim [zR, zP, zV] | fail) only [↓wpPre, wpPost, wpPoly, Int.reduceToNat, Int.reducePow, Int.reduceMul, Int.reduceAdd, Int.reduceSub, Int.reduceNeg, Nat.reduceAdd, Nat.reduceMul, Nat.reducePow, Int.reduceLT, Int.reduceLE, Int.reduceEq, Nat.reduceEqDiff, e0, e11]
  refine Br.by (fun c1 => ?_) (fun c1 => ?_)
  ·have hset : (ones01 1 kk p).set p 1 = ones01 1 kk (p + 1) := by
    unfold ones01
    rw [List.set_append_right _ _ (by simp), List.length_replicate, Nat.sub_self, show kk - p = kk - (p + 1) + 1 by omega, List.replicate_succ, List.set_cons_zero]
    rw [show List.replicate (p + 1) (1 : Int) = List.replicate p 1 ++ [1] from List.replicate_succ', List.append_assoc]; rfl
   simp -implicitDefEqProofs (disch := first | assumption | decide | omega | (simp only [wpD1] <;> omega) | (simp only [wpD2] <;> assumption) | solve_by_elim [zR, zP, zV] | fail) only [↓wpPre, wpPost, wpPoly, Int.reduceToNat, Int.reducePow, Int.reduceMul, Int.reduceAdd, Int.reduceSub, Int.reduceNeg, Nat.reduceAdd, Nat.reduceMul, Nat.reducePow, Int.reduceLT, Int.reduceLE, Int.reduceEq, Nat.reduceEqDiff, e0, e6, e8, e10, e11, hset]
   exact ⟨_, ⟨p + 1, rfl, by simp, by omega, rfl⟩, by omega⟩
  ·have : p = kk := by omega
   subst this
   have eo : ones01 1 p p = onesL (p : Nat) := by simp [ones01, onesL]
   rw [eo] at holp ⊢
   have RO : RI (h1.push (.cells (ints (onesL (p : Nat))) true 0)) (.slice h1.size 0 p (.known p)) (onesL (p : Nat)) := RI.known (get_push_eq rfl) ⟨by rw [holp], by omega⟩ (by omega)
   simp -implicitDefEqProofs (disch := first | assumption | decide | omega | (simp only [wpD1] <;> omega) | (simp only [wpD2] <;> assumption) | solve_by_elim [zR, zP, zV] | fail) only [↓wpPre, wpPost, wpPoly, Int.reduceToNat, Int.reducePow, Int.reduceMul, Int.reduceAdd, Int.reduceSub, Int.reduceNeg, Nat.reduceAdd, Nat.reduceMul, Nat.reducePow, Int.reduceLT, Int.reduceLE, Int.reduceEq, Nat.reduceEqDiff, e0, e6, e8, e10]
   refine ACallsK.of (run08_spec (hC.sub (T' := T91) (by decide)) (m := (lenN (p : Nat) : Int)) (R1.mono (HSub.push1 _ _)) RO R (by omega) (by unfold In64; omega)) ?_
   rintro r h3 ⟨L, A, hL1, hL2, hL3⟩
   have RA := A.ri
   have rl := runL_length (tapsL (p : Nat) w) (onesL (p : Nat)) L
   have Pa := RA.part_b (k2 := .i64) (b := (lenN (p : Nat) : Int)) (by omega)
   obtain ⟨wa, ea, Rwa⟩ := Pa
   simp -implicitDefEqProofs (disch := first | assumption | decide | omega | (simp only [wpD1] <;> omega) | (simp only [wpD2] <;> assumption) | solve_by_elim [zR, zP, zV] | fail) only [↓wpPre, wpPost, wpPoly, Int.reduceToNat, Int.reducePow, Int.reduceMul, Int.reduceAdd, Int.reduceSub, Int.reduceNeg, Nat.reduceAdd, Nat.reduceMul, Nat.reducePow, Int.reduceLT, Int.reduceLE, Int.reduceEq, Nat.reduceEqDiff, e8, ea]
   refine ⟨wa, rfl, (s1.trans (HSub.push1 _ _)).trans A.sub, ?_⟩
   rw [Int.toNat_natCast, runL_take (by omega)] at Rwa
   rw [if_pos trivial]; exact Rwa
 ·have pe : tapsErr d w = 2 := by unfold tapsErr; rw [if_neg c]
  have hT := Taps08_spec (d := d) (w := w) (h := h) (hC.sub (T' := T73) (by decide)) hd hw
  rw [pe] at hT
  rw [pe]
  (refine calls_intro (hC.body (by decide) tab75) (Nat.le_of_ble_eq_true rfl) ?_); (show wp C _ none B75.code _ _); (simp only [B75]); simp -implicitDefEqProofs (disch := first | assumption | decide | omega | (simp only [wpD1] <;> omega) | (simp only [wpD2] <;> assumption) | solve_by_elim [zR, zP, zV] | fail) only [↓wpPre, wpPost, wpPoly, Int.reduceToNat, Int.reducePow, Int.reduceMul, Int.reduceAdd, Int.reduceSub, Int.reduceNeg, Nat.reduceAdd, Nat.reduceMul, Nat.reducePow, Int.reduceLT, Int.reduceLE, Int.reduceEq, Nat.reduceEqDiff]
  refine ACallsK.of hT ?_
  rintro r h1 ⟨v1, rfl, s1, R1⟩
  simp -implicitDefEqProofs (disch := first | assumption | decide | omega | (simp only [wpD1] <;> omega) | (simp only [wpD2] <;> assumption) | solve_by_elim [zR, zP, zV] | fail) only [↓wpPre, wpPost, wpPoly, Int.reduceToNat, Int.reducePow, Int.reduceMul, Int.reduceAdd, Int.reduceSub, Int.reduceNeg, Nat.reduceAdd, Nat.reduceMul, Nat.reducePow, Int.reduceLT, Int.reduceLE, Int.reduceEq, Nat.reduceEqDiff, lstErr]
  exact ⟨.nilslice, rfl, s1, by rw [if_neg id]; exact RI.nil⟩
end
end Go.Ae
/- The codes. -/
set_option linter.unusedSimpArgs false
set_option linter.unusedVariables false
namespace Go.Ae
def codeB (d p : Int) (i : Nat) : Int :=
 if p = 1 then (bitsL d 1).getD i 0 else if p = 2 then (bitsL d 2).getD i 0 else ((bitsL d 1).getD i 0 + (bitsL d 2).getD ((i + (p - 3).toNat) % lenN d) 0) % 2
def bitC (d p : Int) : List Int := (List.range (lenN d)).map (codeB d p)
def codeL (d p : Int) : List Int := (bitC d p).map fun b => 1 - 2 * b
def codeErr (d p : Int) : Int := if lenOk d = true ∧ 1 ≤ p ∧ p ≤ lenN d + 2 then 0 else 2
theorem bitC_length (d p : Int) : (bitC d p).length = lenN d := by simp [bitC]
theorem codeL_length (d p : Int) : (codeL d p).length = lenN d := by simp [codeL, bitC]
theorem bit01_getD {l : List Int} (h : ∀ x ∈ l, x = 0 ∨ x = 1) (i : Nat) : l.getD i 0 = 0 ∨ l.getD i 0 = 1 := bit01.get h i
theorem codeB_01 (d p : Int) (i : Nat) : codeB d p i = 0 ∨ codeB d p i = 1 := by
 unfold codeB
 have h1 := bit01_getD (bitsL_01 (d := d) (w := 1)) i
 have h2 := bit01_getD (bitsL_01 (d := d) (w := 2)) i
 split
 ·exact h1
 ·split
  ·exact h2
  ·omega
theorem codeB_one (d : Int) : bitC d 1 = bitsL d 1 := by
 refine seqx (by rw [bitC_length, bitsL_length]) fun i hi => ?_
 rw [bitC_length] at hi
 simp [bitC, hi, codeB]
theorem codeB_two (d : Int) : bitC d 2 = bitsL d 2 := by
 refine seqx (by rw [bitC_length, bitsL_length]) fun i hi => ?_
 rw [bitC_length] at hi
 simp [bitC, hi, codeB]
def codeP (d p : Int) (k : Nat) : List Int := (List.range (lenN d)).map fun i => if i < k then codeB d p i else (bitsL d 1).getD i 0
theorem codeP_length (d p : Int) (k : Nat) : (codeP d p k).length = lenN d := by simp [codeP]
theorem codeP_get {d p : Int} {k i : Nat} (hi : i < lenN d) : (codeP d p k).getD i 0 = if i < k then codeB d p i else (bitsL d 1).getD i 0 := by simp [codeP, hi]
theorem codeP_zero (d p : Int) : codeP d p 0 = bitsL d 1 := by
 refine seqx (by rw [codeP_length, bitsL_length]) fun i hi => ?_
 rw [codeP_length] at hi
 rw [codeP_get hi, if_neg (by omega)]
theorem codeP_full (d p : Int) : codeP d p (lenN d) = bitC d p := by
 refine seqx (by rw [codeP_length, bitC_length]) fun i hi => ?_
 rw [codeP_length] at hi
 rw [codeP_get hi, if_pos hi]; simp [bitC, hi]
theorem codeP_set {d p : Int} {k : Nat} (hk : k < lenN d) : (codeP d p k).set k (codeB d p k) = codeP d p (k + 1) := by
 refine seqx (by simp [codeP]) fun i hi => ?_
 simp only [List.length_set, codeP_length] at hi
 rw [codeP_get hi]
 simp only [List.getD_eq_getElem?_getD, List.getElem?_set, codeP_length]
 by_cases e : k = i
 ·subst e; rw [if_pos rfl, if_pos hk, if_pos (by omega)]; rfl
 ·rw [if_neg e]
  have := codeP_get (p := p) (k := k) hi
  rw [List.getD_eq_getElem?_getD] at this
  rw [this]
  by_cases c : i < k
  ·rw [if_pos c, if_pos (by omega)]
  ·rw [if_neg c, if_neg (by omega)]; simp
section
variable {C : Ctx}
set_option maxRecDepth 100000 in
set_option maxHeartbeats 2000000 in
theorem Code_spec (hC : Has C T76) {d p : Int} {h : Heap} (hd : In64 d) (hp : In64 p) : ACalls C 76 [.int .i64 d, .int .i64 p] h (fun r h' => ∃ v, r = lstErr v (codeErr d p) ∧ HSub h h' ∧ RI h' v (if codeErr d p = 0 then codeL d p else []) ∧ (codeErr d p = 0 → Fresh h h' v (codeL d p))) := by
 have hp' := hp
 unfold In64 at hp'
 have pe : codeErr d p = if lenOk d = true ∧ 1 ≤ p ∧ p ≤ lenN d + 2 then 0 else 2 := rfl
 by_cases c : lenOk d = true
 ·have hl := lenN_eq c
  have eL : lenE d = tup2 (lenN d) 0 := by unfold lenE; rw [if_pos c]
  by_cases cp : 1 ≤ p ∧ p ≤ lenN d + 2
  ·rw [if_pos ⟨c, cp⟩] at pe
   rw [pe]
   have t1 : tapsErr d 1 = 0 := by unfold tapsErr; rw [if_pos ⟨c, .inl rfl⟩]
   have t2 : tapsErr d 2 = 0 := by unfold tapsErr; rw [if_pos ⟨c, .inr rfl⟩]
   have lb1 := bitsL_length d 1
   have lb2 := bitsL_length d 2
   have hB : ∀ {w : Int} {h : Heap}, tapsErr d w = 0 → In64 w → ACalls C 74 [.int .i64 d, .int .i64 w] h (fun r h' => ∃ i, h.size ≤ i ∧ r = lstErr (.slice i 0 (lenN d) (.known (lenN d))) 0 ∧ HSub h h' ∧ h'.get i = some (.cells (ints (bitsL d w)) true 0)) := by
    intro w h e hw
    refine (Bits_spec (hC.sub (T' := T74) (by decide)) hd hw).mono ?_
    rintro r h' ⟨v, h1, _, _, h4⟩
    obtain ⟨s, _, i, hi, hv, hg⟩ := h4 e
    rw [bitsL_length] at hv
    exact ⟨i, hi, by rw [h1, e, hv], s, hg⟩
   have bC : ∀ k, (bitC d p).getD k 0 = 0 ∨ (bitC d p).getD k 0 = 1 := fun k => bit01_getD (fun x hx => by
    obtain ⟨i, _, rfl⟩ := List.mem_map.1 hx
    exact codeB_01 d p i) k
   have lC := bitC_length d p
   (refine calls_intro (hC.body (by decide) tab76) (Nat.le_of_ble_eq_true rfl) ?_); (show wp C _ none B76.code _ _); (simp only [B76]); simp -implicitDefEqProofs (disch := first | assumption | decide | omega | (simp only [wpD1] <;> omega) | (simp only [wpD2] <;> assumption) | solve_by_elim [zR, zP, zV] | fail) only [↓wpPre, wpPost, wpPoly, Int.reduceToNat, Int.reducePow, Int.reduceMul, Int.reduceAdd, Int.reduceSub, Int.reduceNeg, Nat.reduceAdd, Nat.reduceMul, Nat.reducePow, Int.reduceLT, Int.reduceLE, Int.reduceEq, Nat.reduceEqDiff]
   refine ACallsK.eq2 (Length_spec (hC.sub (T' := T70) (by decide)) hd) eL ?_
   simp -implicitDefEqProofs (disch := first | assumption | decide | omega | (simp only [wpD1] <;> omega) | (simp only [wpD2] <;> assumption) | solve_by_elim [zR, zP, zV] | fail) only [↓wpPre, wpPost, wpPoly, Int.reduceToNat, Int.reducePow, Int.reduceMul, Int.reduceAdd, Int.reduceSub, Int.reduceNeg, Nat.reduceAdd, Nat.reduceMul, Nat.reducePow, Int.reduceLT, Int.reduceLE, Int.reduceEq, Nat.reduceEqDiff, tup2]
   refine ACallsK.of (hB t1 (by unfold In64; omega)) ?_
   rintro r h1 ⟨i1, hi1, rfl, s1, g1⟩
   simp -implicitDefEqProofs (disch := first | assumption | decide | omega | (simp only [wpD1] <;> omega) | (simp only [wpD2] <;> assumption) | solve_by_elim [zR, zP, zV] | fail) only [↓wpPre, wpPost, wpPoly, Int.reduceToNat, Int.reducePow, Int.reduceMul, Int.reduceAdd, Int.reduceSub, Int.reduceNeg, Nat.reduceAdd, Nat.reduceMul, Nat.reducePow, Int.reduceLT, Int.reduceLE, Int.reduceEq, Nat.reduceEqDiff, lstErr]
   refine ACallsK.of (hB t2 (by unfold In64; omega)) ?_
   rintro r h2 ⟨i2, hi2, rfl, s2, g2⟩
   have hl1 := Heap.lt_of_get g1
   have hl2 := Heap.lt_of_get g2
   have g1' := (s2.get i1 hl1).trans g1
   have s12 := s1.trans s2
   have z2 := s2.size
   have z1 := s1.size
   by_cases p1 : p = 1
   ·have gi1 : h2.get i1 = some (.cells (ints (bitC d p)) true 0) := by rw [p1, codeB_one]; exact g1'
    simp -implicitDefEqProofs (disch := first | assumption | decide | omega | (simp only [wpD1] <;> omega) | (simp only [wpD2] <;> assumption) | solve_by_elim [zR, zP, zV] | fail) only [↓wpPre, wpPost, wpPoly, Int.reduceToNat, Int.reducePow, Int.reduceMul, Int.reduceAdd, Int.reduceSub, Int.reduceNeg, Nat.reduceAdd, Nat.reduceMul, Nat.reducePow, Int.reduceLT, Int.reduceLE, Int.reduceEq, Nat.reduceEqDiff, lstErr]
    have gX : h2.get i1 = some (.cells (ints (mapPre (fun b => 1 - 2 * b) (bitC d p) 0)) true 0) := by rw [mapPre_zero]; exact gi1
    refine wp_loopI (fun j t h' => ∃ k : Nat, HSub h h' ∧ i1 < h'.size ∧ h'.get i1 = some (.cells (ints (mapPre (fun b => 1 - 2 * b) (bitC d p) k)) true 0) ∧ t 8 = .slice i1 0 (lenN d) (.known (lenN d)) ∧ t 68 = .slice i1 0 (lenN d) (.known (lenN d)) ∧ t 69 = .int .i64 (lenN d) ∧ t 70 = .int .i64 (k : Nat) ∧ k ≤ lenN d ∧ j = lenN d - k) (j0 := lenN d)
     ⟨0, s12, Heap.lt_of_get gi1, gX, rfl, rfl, rfl, rfl, by omega, rfl⟩ ?_
    rintro j t h' ⟨k, hs, hlt, hg, e8, e68, e69, e70, hk, hj⟩
    have hml := mapPre_length (fun b => 1 - 2 * b) (bitC d p) k
    simp -implicitDefEqProofs (disch := first | assumption | decide | omega | (simp only [wpD1] <;> omega) | (simp only [wpD2] <;> assumption) | solve_by_elim [zR, zP, zV] | fail) only [↓wpPre, wpPost, wpPoly, Int.reduceToNat, Int.reducePow, Int.reduceMul, Int.reduceAdd, Int.reduceSub, Int.reduceNeg, Nat.reduceAdd, Nat.reduceMul, Nat.reducePow, Int.reduceLT, Int.reduceLE, Int.reduceEq, Nat.reduceEqDiff, e69, e70]
    refine Br.by (fun c1 => ?_) (fun c1 => ?_)
    ·have hk' : k < (bitC d p).length := by omega
     have hg2 := mapPre_get (fun b => 1 - 2 * b) hk'
     have hst := mapPre_set (fun b => 1 - 2 * b) hk'
     have b01 := bC k
     simp -implicitDefEqProofs (disch := first | assumption | decide | omega | (simp only [wpD1] <;> omega) | (simp only [wpD2] <;> assumption) | solve_by_elim [zR, zP, zV] | fail) only [↓wpPre, wpPost, wpPoly, Int.reduceToNat, Int.reducePow, Int.reduceMul, Int.reduceAdd, Int.reduceSub, Int.reduceNeg, Nat.reduceAdd, Nat.reduceMul, Nat.reducePow, Int.reduceLT, Int.reduceLE, Int.reduceEq, Nat.reduceEqDiff, e8, e68, e69, e70, hg, hg2]
     exact ⟨_, ⟨k + 1, hs.put (by omega) _, hlt, by rw [← hst], by simp, by omega, rfl⟩, by omega⟩
    ·have : k = (bitC d p).length := by omega
     subst this
     rw [mapPre_full] at hg
     simp -implicitDefEqProofs (disch := first | assumption | decide | omega | (simp only [wpD1] <;> omega) | (simp only [wpD2] <;> assumption) | solve_by_elim [zR, zP, zV] | fail) only [↓wpPre, wpPost, wpPoly, Int.reduceToNat, Int.reducePow, Int.reduceMul, Int.reduceAdd, Int.reduceSub, Int.reduceNeg, Nat.reduceAdd, Nat.reduceMul, Nat.reducePow, Int.reduceLT, Int.reduceLE, Int.reduceEq, Nat.reduceEqDiff, e8]
     have cl := codeL_length d p
     have F : Fresh h h' (.slice i1 0 (lenN d) (.known (lenN d))) (codeL d p) := ⟨hs, by omega, i1, by omega, by rw [cl], hg⟩
     exact ⟨_, rfl, hs, by rw [if_pos trivial]; exact F.ri, fun _ => F⟩
   by_cases p2 : p = 2
   ·have gi2 : h2.get i2 = some (.cells (ints (bitC d p)) true 0) := by rw [p2, codeB_two]; exact g2
    simp -implicitDefEqProofs (disch := first | assumption | decide | omega | (simp only [wpD1] <;> omega) | (simp only [wpD2] <;> assumption) | solve_by_elim [zR, zP, zV] | fail) only [↓wpPre, wpPost, wpPoly, Int.reduceToNat, Int.reducePow, Int.reduceMul, Int.reduceAdd, Int.reduceSub, Int.reduceNeg, Nat.reduceAdd, Nat.reduceMul, Nat.reducePow, Int.reduceLT, Int.reduceLE, Int.reduceEq, Nat.reduceEqDiff, lstErr]
    have gX : h2.get i2 = some (.cells (ints (mapPre (fun b => 1 - 2 * b) (bitC d p) 0)) true 0) := by rw [mapPre_zero]; exact gi2
    refine wp_loopI (fun j t h' => ∃ k : Nat, HSub h h' ∧ i2 < h'.size ∧ h'.get i2 = some (.cells (ints (mapPre (fun b => 1 - 2 * b) (bitC d p) k)) true 0) ∧ t 8 = .slice i2 0 (lenN d) (.known (lenN d)) ∧ t 68 = .slice i2 0 (lenN d) (.known (lenN d)) ∧ t 69 = .int .i64 (lenN d) ∧ t 70 = .int .i64 (k : Nat) ∧ k ≤ lenN d ∧ j = lenN d - k) (j0 := lenN d)
     ⟨0, s12, Heap.lt_of_get gi2, gX, rfl, rfl, rfl, rfl, by omega, rfl⟩ ?_
    rintro j t h' ⟨k, hs, hlt, hg, e8, e68, e69, e70, hk, hj⟩
    have hml := mapPre_length (fun b => 1 - 2 * b) (bitC d p) k
    simp -implicitDefEqProofs (disch := first | assumption | decide | omega | (simp only [wpD1] <;> omega) | (simp only [wpD2] <;> assumption) | solve_by_elim [zR, zP, zV] | fail) only [↓wpPre, wpPost, wpPoly, Int.reduceToNat, Int.reducePow, Int.reduceMul, Int.reduceAdd, Int.reduceSub, Int.reduceNeg, Nat.reduceAdd, Nat.reduceMul, Nat.reducePow, Int.reduceLT, Int.reduceLE, Int.reduceEq, Nat.reduceEqDiff, e69, e70]
    refine Br.by (fun c1 => ?_) (fun c1 => ?_)
    ·have hk' : k < (bitC d p).length := by omega
     have hg2 := mapPre_get (fun b => 1 - 2 * b) hk'
     have hst := mapPre_set (fun b => 1 - 2 * b) hk'
     have b01 := bC k
     simp -implicitDefEqProofs (disch := first | assumption | decide | omega | (simp only [wpD1] <;> omega) | (simp only [wpD2] <;> assumption) | solve_by_elim [zR, zP, zV] | fail) only [↓wpPre, wpPost, wpPoly, Int.reduceToNat, Int.reducePow, Int.reduceMul, Int.reduceAdd, Int.reduceSub, Int.reduceNeg, Nat.reduceAdd, Nat.reduceMul, Nat.reducePow, Int.reduceLT, Int.reduceLE, Int.reduceEq, Nat.reduceEqDiff, e8, e68, e69, e70, hg, hg2]
     exact ⟨_, ⟨k + 1, hs.put (by omega) _, hlt, by rw [← hst], by simp, by omega, rfl⟩, by omega⟩
    ·have : k = (bitC d p).length := by omega
     subst this
     rw [mapPre_full] at hg
     simp -implicitDefEqProofs (disch := first | assumption | decide | omega | (simp only [wpD1] <;> omega) | (simp only [wpD2] <;> assumption) | solve_by_elim [zR, zP, zV] | fail) only [↓wpPre, wpPost, wpPoly, Int.reduceToNat, Int.reducePow, Int.reduceMul, Int.reduceAdd, Int.reduceSub, Int.reduceNeg, Nat.reduceAdd, Nat.reduceMul, Nat.reducePow, Int.reduceLT, Int.reduceLE, Int.reduceEq, Nat.reduceEqDiff, e8]
     have cl := codeL_length d p
     have F : Fresh h h' (.slice i2 0 (lenN d) (.known (lenN d))) (codeL d p) := ⟨hs, by omega, i2, by omega, by rw [cl], hg⟩
     exact ⟨_, rfl, hs, by rw [if_pos trivial]; exact F.ri, fun _ => F⟩
   have hp3 : 3 ≤ p := by omega
   have lP := codeP_length d p
   have g0 : h2.get i1 = some (.cells (ints (codeP d p 0)) true 0) := by rw [codeP_zero]; exact g1'
   simp -implicitDefEqProofs (disch := first | assumption | decide | omega | (simp only [wpD1] <;> omega) | (simp only [wpD2] <;> assumption) | solve_by_elim [zR, zP, zV] | fail) only [↓wpPre, wpPost, wpPoly, Int.reduceToNat, Int.reducePow, Int.reduceMul, Int.reduceAdd, Int.reduceSub, Int.reduceNeg, Nat.reduceAdd, Nat.reduceMul, Nat.reducePow, Int.reduceLT, Int.reduceLE, Int.reduceEq, Nat.reduceEqDiff, lstErr]
   refine wp_loopI (fun j t h' => ∃ k : Nat, HSub h h' ∧ i1 < h'.size ∧ h'.get i1 = some (.cells (ints (codeP d p k)) true 0) ∧ h'.get i2 = some (.cells (ints (bitsL d 2)) true 0) ∧ t 1 = .int .i64 p ∧ t 6 = .int .i64 (lenN d) ∧ t 8 = .slice i1 0 (lenN d) (.known (lenN d)) ∧ t 10 = .slice i2 0 (lenN d) (.known (lenN d)) ∧
     t 42 = .slice i1 0 (lenN d) (.known (lenN d)) ∧ t 43 = .int .i64 (lenN d) ∧ t 44 = .int .i64 (k : Nat) ∧ k ≤ lenN d ∧ j = lenN d - k) (j0 := lenN d)
    ⟨0, s12, by omega, g0, g2, rfl, rfl, rfl, rfl, rfl, rfl, rfl, by omega, rfl⟩ ?_
   rintro j t h3 ⟨k, hs3, hlt3, hg1, hg2, e1, e6, e8, e10, e42, e43, e44, hk, hj⟩
   have lPk := lP k
   simp -implicitDefEqProofs (disch := first | assumption | decide | omega | (simp only [wpD1] <;> omega) | (simp only [wpD2] <;> assumption) | solve_by_elim [zR, zP, zV] | fail) only [↓wpPre, wpPost, wpPoly, Int.reduceToNat, Int.reducePow, Int.reduceMul, Int.reduceAdd, Int.reduceSub, Int.reduceNeg, Nat.reduceAdd, Nat.reduceMul, Nat.reducePow, Int.reduceLT, Int.reduceLE, Int.reduceEq, Nat.reduceEqDiff, e43, e44]
   refine Br.by (fun c1 => ?_) (fun c1 => ?_)
   ·have hk' : k < lenN d := by omega
    have gP : (codeP d p k).getD k 0 = (bitsL d 1).getD k 0 := by rw [codeP_get hk', if_neg (by omega)]
    have em : ((k : Int) + p - 3) % (lenN d : Int) = (((k + (p - 3).toNat) % lenN d : Nat) : Int) := by
     rw [show (k : Int) + p - 3 = ((k + (p - 3).toNat : Nat) : Int) by omega]; exact (Int.natCast_emod _ _).symm
    have hm : (k + (p - 3).toNat) % lenN d < lenN d := Nat.mod_lt _ (by omega)
    have lb2 := bitsL_length d 2
    have ex := xor01 (bit01_getD (bitsL_01 (d := d) (w := 1)) k) (bit01_getD (bitsL_01 (d := d) (w := 2)) ((k + (p - 3).toNat) % lenN d))
    have hcb : codeB d p k = ((bitsL d 1).getD k 0 + (bitsL d 2).getD ((k + (p - 3).toNat) % lenN d) 0) % 2 := by unfold codeB; rw [if_neg p1, if_neg p2]
    rw [← hcb] at ex
    have hst := codeP_set (p := p) hk'
    simp -implicitDefEqProofs (disch := first | assumption | decide | omega | (simp only [wpD1] <;> omega) | (simp only [wpD2] <;> assumption) | solve_by_elim [zR, zP, zV] | fail) only [↓wpPre, wpPost, wpPoly, Int.reduceToNat, Int.reducePow, Int.reduceMul, Int.reduceAdd, Int.reduceSub, Int.reduceNeg, Nat.reduceAdd, Nat.reduceMul, Nat.reducePow, Int.reduceLT, Int.reduceLE, Int.reduceEq, Nat.reduceEqDiff, e1, e6, e8, e10, e42, e43, e44, hg1, hg2, gP, em, ex, hst]
    exact ⟨_, ⟨k + 1, hs3.put (by omega) _, hlt3, rfl, by simp, by omega, rfl⟩, by omega⟩
   ·have ek : k = lenN d := by omega
    rw [ek] at hg1
    have gi3 : h3.get i1 = some (.cells (ints (bitC d p)) true 0) := by rw [← codeP_full]; exact hg1
    simp -implicitDefEqProofs (disch := first | assumption | decide | omega | (simp only [wpD1] <;> omega) | (simp only [wpD2] <;> assumption) | solve_by_elim [zR, zP, zV] | fail) only [↓wpPre, wpPost, wpPoly, Int.reduceToNat, Int.reducePow, Int.reduceMul, Int.reduceAdd, Int.reduceSub, Int.reduceNeg, Nat.reduceAdd, Nat.reduceMul, Nat.reducePow, Int.reduceLT, Int.reduceLE, Int.reduceEq, Nat.reduceEqDiff, e8]
    have gX : h3.get i1 = some (.cells (ints (mapPre (fun b => 1 - 2 * b) (bitC d p) 0)) true 0) := by rw [mapPre_zero]; exact gi3
    refine wp_loopI (fun j t h' => ∃ k : Nat, HSub h h' ∧ i1 < h'.size ∧ h'.get i1 = some (.cells (ints (mapPre (fun b => 1 - 2 * b) (bitC d p) k)) true 0) ∧ t 8 = .slice i1 0 (lenN d) (.known (lenN d)) ∧ t 68 = .slice i1 0 (lenN d) (.known (lenN d)) ∧ t 69 = .int .i64 (lenN d) ∧ t 70 = .int .i64 (k : Nat) ∧ k ≤ lenN d ∧ j = lenN d - k) (j0 := lenN d)
     ⟨0, hs3, Heap.lt_of_get gi3, gX, e8, rfl, rfl, rfl, by omega, rfl⟩ ?_
    rintro j u h' ⟨k, hs, hlt, hg, f8, e68, e69, e70, hk, hj⟩
    have hml := mapPre_length (fun b => 1 - 2 * b) (bitC d p) k
    simp -implicitDefEqProofs (disch := first | assumption | decide | omega | (simp only [wpD1] <;> omega) | (simp only [wpD2] <;> assumption) | solve_by_elim [zR, zP, zV] | fail) only [↓wpPre, wpPost, wpPoly, Int.reduceToNat, Int.reducePow, Int.reduceMul, Int.reduceAdd, Int.reduceSub, Int.reduceNeg, Nat.reduceAdd, Nat.reduceMul, Nat.reducePow, Int.reduceLT, Int.reduceLE, Int.reduceEq, Nat.reduceEqDiff, e69, e70]
    refine Br.by (fun c1 => ?_) (fun c1 => ?_)
    ·have hk' : k < (bitC d p).length := by omega
     have hg2 := mapPre_get (fun b => 1 - 2 * b) hk'
     have hst := mapPre_set (fun b => 1 - 2 * b) hk'
     have b01 := bC k
     simp -implicitDefEqProofs (disch := first | assumption | decide | omega | (simp only [wpD1] <;> omega) | (simp only [wpD2] <;> assumption) | solve_by_elim [zR, zP, zV] | fail) only [↓wpPre, wpPost, wpPoly, Int.reduceToNat, Int.reducePow, Int.reduceMul, Int.reduceAdd, Int.reduceSub, Int.reduceNeg, Nat.reduceAdd, Nat.reduceMul, Nat.reducePow, Int.reduceLT, Int.reduceLE, Int.reduceEq, Nat.reduceEqDiff, f8, e68, e69, e70, hg, hg2]
     exact ⟨_, ⟨k + 1, hs.put (by omega) _, hlt, by rw [← hst], by simp, by omega, rfl⟩, by omega⟩
    ·have : k = (bitC d p).length := by omega
     subst this
     rw [mapPre_full] at hg
     simp -implicitDefEqProofs (disch := first | assumption | decide | omega | (simp only [wpD1] <;> omega) | (simp only [wpD2] <;> assumption) | solve_by_elim [zR, zP, zV] | fail) only [↓wpPre, wpPost, wpPoly, Int.reduceToNat, Int.reducePow, Int.reduceMul, Int.reduceAdd, Int.reduceSub, Int.reduceNeg, Nat.reduceAdd, Nat.reduceMul, Nat.reducePow, Int.reduceLT, Int.reduceLE, Int.reduceEq, Nat.reduceEqDiff, f8]
     have cl := codeL_length d p
     have F : Fresh h h' (.slice i1 0 (lenN d) (.known (lenN d))) (codeL d p) := ⟨hs, by omega, i1, by omega, by rw [cl], hg⟩
     exact ⟨_, rfl, hs, by rw [if_pos trivial]; exact F.ri, fun _ => F⟩
  ·have cp' : ¬ (lenOk d = true ∧ 1 ≤ p ∧ p ≤ lenN d + 2) := fun h => cp h.2
   rw [if_neg cp'] at pe
   rw [pe]
   (refine calls_intro (hC.body (by decide) tab76) (Nat.le_of_ble_eq_true rfl) ?_); (show wp C _ none B76.code _ _); (simp only [B76]); simp -implicitDefEqProofs (disch := first | assumption | decide | omega | (simp only [wpD1] <;> omega) | (simp only [wpD2] <;> assumption) | solve_by_elim [zR, zP, zV] | fail) only [↓wpPre, wpPost, wpPoly, Int.reduceToNat, Int.reducePow, Int.reduceMul, Int.reduceAdd, Int.reduceSub, Int.reduceNeg, Nat.reduceAdd, Nat.reduceMul, Nat.reducePow, Int.reduceLT, Int.reduceLE, Int.reduceEq, Nat.reduceEqDiff]
   refine ACallsK.eq2 (Length_spec (hC.sub (T' := T70) (by decide)) hd) eL ?_
   simp -implicitDefEqProofs (disch := first | assumption | decide | omega | (simp only [wpD1] <;> omega) | (simp only [wpD2] <;> assumption) | solve_by_elim [zR, zP, zV] | fail) only [↓wpPre, wpPost, wpPoly, Int.reduceToNat, Int.reducePow, Int.reduceMul, Int.reduceAdd, Int.reduceSub, Int.reduceNeg, Nat.reduceAdd, Nat.reduceMul, Nat.reducePow, Int.reduceLT, Int.reduceLE, Int.reduceEq, Nat.reduceEqDiff, tup2]
   (repeat' (first | (refine Br.by (fun _ => ?_) (fun _ => ?_)) | (simp -implicitDefEqProofs (disch := first | assumption | decide | omega | (simp only [wpD1] <;> omega) | (simp only [wpD2] <;> assumption) | solve_by_elim [zR, zP, zV] | fail) only [↓wpPre, wpPost, wpPoly, Int.reduceToNat, Int.reducePow, Int.reduceMul, Int.reduceAdd, Int.reduceSub, Int.reduceNeg, Nat.reduceAdd, Nat.reduceMul, Nat.reducePow, Int.reduceLT, Int.reduceLE, Int.reduceEq, Nat.reduceEqDiff])))
   all_goals first | exact ⟨.nilslice, by rw [lstErr], HSub.refl _, by rw [if_neg id]; exact RI.nil⟩ | omega
 ·have eL : lenE d = tup2 0 2 := by unfold lenE; rw [if_neg c]
  have cp' : ¬ (lenOk d = true ∧ 1 ≤ p ∧ p ≤ lenN d + 2) := fun h => c h.1
  rw [if_neg cp'] at pe
  rw [pe]
  (refine calls_intro (hC.body (by decide) tab76) (Nat.le_of_ble_eq_true rfl) ?_); (show wp C _ none B76.code _ _); (simp only [B76]); simp -implicitDefEqProofs (disch := first | assumption | decide | omega | (simp only [wpD1] <;> omega) | (simp only [wpD2] <;> assumption) | solve_by_elim [zR, zP, zV] | fail) only [↓wpPre, wpPost, wpPoly, Int.reduceToNat, Int.reducePow, Int.reduceMul, Int.reduceAdd, Int.reduceSub, Int.reduceNeg, Nat.reduceAdd, Nat.reduceMul, Nat.reducePow, Int.reduceLT, Int.reduceLE, Int.reduceEq, Nat.reduceEqDiff]
  refine ACallsK.eq2 (Length_spec (hC.sub (T' := T70) (by decide)) hd) eL ?_
  simp -implicitDefEqProofs (disch := first | assumption | decide | omega | (simp only [wpD1] <;> omega) | (simp only [wpD2] <;> assumption) | solve_by_elim [zR, zP, zV] | fail) only [↓wpPre, wpPost, wpPoly, Int.reduceToNat, Int.reducePow, Int.reduceMul, Int.reduceAdd, Int.reduceSub, Int.reduceNeg, Nat.reduceAdd, Nat.reduceMul, Nat.reducePow, Int.reduceLT, Int.reduceLE, Int.reduceEq, Nat.reduceEqDiff, tup2]
  exact ⟨.nilslice, by rw [lstErr], HSub.refl _, by rw [if_neg id]; exact RI.nil⟩
end
end Go.Ae
/- Plans are checked: the program and the reference. -/
set_option linter.unusedSimpArgs false
set_option linter.unusedVariables false
namespace Go.Ae
def plA (p : PlanP) (vp : AV) : AV := .agg [.int .i64 p.d, .int .i64 p.o, .int .i64 p.pb, .int .i64 p.w, .int .i64 p.mn, .int .i64 p.mx, .int .i64 p.nz, vp]
theorem prns_step (n : Int) (l : List Int) (k : Nat) (hk : k < l.length) : prnsErr n (l.take k) (l.drop k) = if ¬(1 ≤ l.getD k 0 ∧ l.getD k 0 ≤ n + 2) then 2 else if ((l.take k).any fun y => l.getD k 0 == y) = true then 8 else prnsErr n (l.take (k + 1)) (l.drop (k + 1)) := by
 rw [List.drop_eq_getElem_cons hk, prnsErr, take_succ_getD hk, List.getD_eq_getElem?_getD, List.getElem?_eq_getElem hk]
 rfl
section
variable {C : Ctx}
theorem within237_spec (hC : Has C T237) {x lo hi : Int} {h : Heap} : ACalls C 237 [.int .i64 x, .int .i64 lo, .int .i64 hi] h (fun r h' => r = .bool (decide (lo ≤ x ∧ x ≤ hi)) ∧ h' = h) := by
 (refine calls_intro (hC.body (by decide) tab237) (Nat.le_of_ble_eq_true rfl) ?_); (show wp C _ none B237.code _ _); (simp only [B237]); simp -implicitDefEqProofs (disch := first | assumption | decide | omega | (simp only [wpD1] <;> omega) | (simp only [wpD2] <;> assumption) | solve_by_elim [zR, zP, zV] | fail) only [↓wpPre, wpPost, wpPoly, Int.reduceToNat, Int.reducePow, Int.reduceMul, Int.reduceAdd, Int.reduceSub, Int.reduceNeg, Nat.reduceAdd, Nat.reduceMul, Nat.reducePow, Int.reduceLT, Int.reduceLE, Int.reduceEq, Nat.reduceEqDiff]
 by_cases c : lo ≤ x
 ·simp -implicitDefEqProofs (disch := first | assumption | decide | omega | (simp only [wpD1] <;> omega) | (simp only [wpD2] <;> assumption) | solve_by_elim [zR, zP, zV] | fail) only [↓wpPre, wpPost, wpPoly, Int.reduceToNat, Int.reducePow, Int.reduceMul, Int.reduceAdd, Int.reduceSub, Int.reduceNeg, Nat.reduceAdd, Nat.reduceMul, Nat.reducePow, Int.reduceLT, Int.reduceLE, Int.reduceEq, Nat.reduceEqDiff, gV_u, c]
 ·simp -implicitDefEqProofs (disch := first | assumption | decide | omega | (simp only [wpD1] <;> omega) | (simp only [wpD2] <;> assumption) | solve_by_elim [zR, zP, zV] | fail) only [↓wpPre, wpPost, wpPoly, Int.reduceToNat, Int.reducePow, Int.reduceMul, Int.reduceAdd, Int.reduceSub, Int.reduceNeg, Nat.reduceAdd, Nat.reduceMul, Nat.reducePow, Int.reduceLT, Int.reduceLE, Int.reduceEq, Nat.reduceEqDiff, gV_u, c]
  simp
set_option maxHeartbeats 1000000 in
theorem CheckPlan_spec (hC : Has C T219) {v : AV} {p : PlanP} {h : Heap} (hp : PlI h v p) (h64 : p.ok64) : ACalls C 219 [v] h (fun r h' => r = .int .i64 p.err ∧ h' = h) := by
 refine ACalls.gc0 (P := fun r h' => r = .int .i64 p.err ∧ HSub h h') ?_ (fun r h' hp => ⟨by rw [hp.1]; trivial, hp.2, hp.1, rfl⟩)
 obtain ⟨vp, rfl, R⟩ := hp
 have v1 := R.one
 have hlt := R.lt
 obtain ⟨i1, i2, i3, i4, i5, i6, i7, i8⟩ := h64
 have W := fun x lo hi h => within237_spec (x := x) (lo := lo) (hi := hi) (h := h) (hC.sub (T' := T237) (by decide))
 have L := fun h => Length_spec (hC.sub (T' := T70) (by decide)) (h := h) i1
 have e2 : ¬ p.numsOk → p.err = 2 := fun q => by unfold PlanP.err; rw [if_neg q]
 have s1 : ∀ b, HSub h (h.push b) := HSub.push1 h
 have e3 : p.numsOk → p.err = if p.prns.length = 0 then 3 else if 8 < p.prns.length then 4 else prnsErr (lenN p.d) [] p.prns := fun q => by unfold PlanP.err; rw [if_pos q]
 have eN : p.numsOk ↔ lenOk p.d = true ∧ (1 ≤ p.o ∧ p.o ≤ 8) ∧ (1 ≤ p.pb ∧ p.pb ≤ 20) ∧ (2 ≤ p.w ∧ p.w ≤ 10) ∧ (1 ≤ p.mn ∧ p.mn ≤ p.mx) ∧ p.mx ≤ 1000 ∧ (0 ≤ p.nz ∧ p.nz ≤ 100000) := Iff.rfl
 generalize p.err = E at *
 generalize p.numsOk = Q at *
 obtain ⟨d, o, pb, w, mn, mx, nz, prns⟩ := p
 dsimp only at *
 have q1 : ∀ b, Q → False → HSub h (h.push b) := fun b _ f => f.elim
 by_cases c1 : lenOk d = true
 ·have el : lenE d = tup2 (lenN d) 0 := by unfold lenE; rw [if_pos c1]
  simp only [el] at L
  have hN := lenN_eq c1
  (refine calls_intro (hC.body (by decide) tab219) (Nat.le_of_ble_eq_true rfl) ?_); (show wp C _ none B219.code _ _); (simp only [B219]); simp -implicitDefEqProofs (disch := first | assumption | decide | omega | (simp only [wpD1] <;> omega) | (simp only [wpD2] <;> assumption) | solve_by_elim [zR, zP, zV] | fail) only [↓wpPre, wpPost, wpPoly, Int.reduceToNat, Int.reducePow, Int.reduceMul, Int.reduceAdd, Int.reduceSub, Int.reduceNeg, Nat.reduceAdd, Nat.reduceMul, Nat.reducePow, Int.reduceLT, Int.reduceLE, Int.reduceEq, Nat.reduceEqDiff]
  refine ACallsK.eq (L _) ?_
  simp -implicitDefEqProofs (disch := first | assumption | decide | omega | (simp only [wpD1] <;> omega) | (simp only [wpD2] <;> assumption) | solve_by_elim [zR, zP, zV] | fail) only [↓wpPre, wpPost, wpPoly, Int.reduceToNat, Int.reducePow, Int.reduceMul, Int.reduceAdd, Int.reduceSub, Int.reduceNeg, Nat.reduceAdd, Nat.reduceMul, Nat.reducePow, Int.reduceLT, Int.reduceLE, Int.reduceEq, Nat.reduceEqDiff, tup2]
  refine ACallsK.eq (W _ _ _ _) ?_
  by_cases c2 : 1 ≤ o ∧ o ≤ 8
  ·simp -implicitDefEqProofs (disch := first | assumption | decide | omega | (simp only [wpD1] <;> omega) | (simp only [wpD2] <;> assumption) | solve_by_elim [zR, zP, zV] | fail) only [↓wpPre, wpPost, wpPoly, Int.reduceToNat, Int.reducePow, Int.reduceMul, Int.reduceAdd, Int.reduceSub, Int.reduceNeg, Nat.reduceAdd, Nat.reduceMul, Nat.reducePow, Int.reduceLT, Int.reduceLE, Int.reduceEq, Nat.reduceEqDiff, c2]
   refine ACallsK.eq (W _ _ _ _) ?_
   by_cases c3 : 1 ≤ pb ∧ pb ≤ 20
   ·simp -implicitDefEqProofs (disch := first | assumption | decide | omega | (simp only [wpD1] <;> omega) | (simp only [wpD2] <;> assumption) | solve_by_elim [zR, zP, zV] | fail) only [↓wpPre, wpPost, wpPoly, Int.reduceToNat, Int.reducePow, Int.reduceMul, Int.reduceAdd, Int.reduceSub, Int.reduceNeg, Nat.reduceAdd, Nat.reduceMul, Nat.reducePow, Int.reduceLT, Int.reduceLE, Int.reduceEq, Nat.reduceEqDiff, c3]
    refine ACallsK.eq (W _ _ _ _) ?_
    by_cases c4 : 2 ≤ w ∧ w ≤ 10
    ·simp -implicitDefEqProofs (disch := first | assumption | decide | omega | (simp only [wpD1] <;> omega) | (simp only [wpD2] <;> assumption) | solve_by_elim [zR, zP, zV] | fail) only [↓wpPre, wpPost, wpPoly, Int.reduceToNat, Int.reducePow, Int.reduceMul, Int.reduceAdd, Int.reduceSub, Int.reduceNeg, Nat.reduceAdd, Nat.reduceMul, Nat.reducePow, Int.reduceLT, Int.reduceLE, Int.reduceEq, Nat.reduceEqDiff, c4]
     refine ACallsK.eq (W _ _ _ _) ?_
     by_cases c5 : 1 ≤ mn ∧ mn ≤ mx
     ·simp -implicitDefEqProofs (disch := first | assumption | decide | omega | (simp only [wpD1] <;> omega) | (simp only [wpD2] <;> assumption) | solve_by_elim [zR, zP, zV] | fail) only [↓wpPre, wpPost, wpPoly, Int.reduceToNat, Int.reducePow, Int.reduceMul, Int.reduceAdd, Int.reduceSub, Int.reduceNeg, Nat.reduceAdd, Nat.reduceMul, Nat.reducePow, Int.reduceLT, Int.reduceLE, Int.reduceEq, Nat.reduceEqDiff, c5]
      by_cases c6 : mx ≤ 1000
      ·simp -implicitDefEqProofs (disch := first | assumption | decide | omega | (simp only [wpD1] <;> omega) | (simp only [wpD2] <;> assumption) | solve_by_elim [zR, zP, zV] | fail) only [↓wpPre, wpPost, wpPoly, Int.reduceToNat, Int.reducePow, Int.reduceMul, Int.reduceAdd, Int.reduceSub, Int.reduceNeg, Nat.reduceAdd, Nat.reduceMul, Nat.reducePow, Int.reduceLT, Int.reduceLE, Int.reduceEq, Nat.reduceEqDiff, c6]
       refine ACallsK.eq (W _ _ _ _) ?_
       by_cases c7 : 0 ≤ nz ∧ nz ≤ 100000
       ·simp -implicitDefEqProofs (disch := first | assumption | decide | omega | (simp only [wpD1] <;> omega) | (simp only [wpD2] <;> assumption) | solve_by_elim [zR, zP, zV] | fail) only [↓wpPre, wpPost, wpPoly, Int.reduceToNat, Int.reducePow, Int.reduceMul, Int.reduceAdd, Int.reduceSub, Int.reduceNeg, Nat.reduceAdd, Nat.reduceMul, Nat.reducePow, Int.reduceLT, Int.reduceLE, Int.reduceEq, Nat.reduceEqDiff, c7]
        have e := e3 (eN.2 ⟨c1, c2, c3, c4, c5, c6, c7⟩)
        by_cases c8 : prns.length = 0
        ·rw [if_pos c8] at e
         simp -implicitDefEqProofs (disch := first | assumption | decide | omega | (simp only [wpD1] <;> omega) | (simp only [wpD2] <;> assumption) | solve_by_elim [zR, zP, zV] | fail) only [↓wpPre, wpPost, wpPoly, Int.reduceToNat, Int.reducePow, Int.reduceMul, Int.reduceAdd, Int.reduceSub, Int.reduceNeg, Nat.reduceAdd, Nat.reduceMul, Nat.reducePow, Int.reduceLT, Int.reduceLE, Int.reduceEq, Nat.reduceEqDiff, R.len, c8]
         exact ⟨e.symm, s1 _⟩
        ·rw [if_neg c8] at e
         by_cases c9 : 8 < prns.length
         ·rw [if_pos c9] at e
          simp -implicitDefEqProofs (disch := first | assumption | decide | omega | (simp only [wpD1] <;> omega) | (simp only [wpD2] <;> assumption) | solve_by_elim [zR, zP, zV] | fail) only [↓wpPre, wpPost, wpPoly, Int.reduceToNat, Int.reducePow, Int.reduceMul, Int.reduceAdd, Int.reduceSub, Int.reduceNeg, Nat.reduceAdd, Nat.reduceMul, Nat.reducePow, Int.reduceLT, Int.reduceLE, Int.reduceEq, Nat.reduceEqDiff, R.len, c8, c9]
          exact ⟨e.symm, s1 _⟩
         ·rw [if_neg c9] at e
          simp -implicitDefEqProofs (disch := first | assumption | decide | omega | (simp only [wpD1] <;> omega) | (simp only [wpD2] <;> assumption) | solve_by_elim [zR, zP, zV] | fail) only [↓wpPre, wpPost, wpPoly, Int.reduceToNat, Int.reducePow, Int.reduceMul, Int.reduceAdd, Int.reduceSub, Int.reduceNeg, Nat.reduceAdd, Nat.reduceMul, Nat.reducePow, Int.reduceLT, Int.reduceLE, Int.reduceEq, Nat.reduceEqDiff, R.len, c8, c9]
          refine wp_loopI (fun j t h' => HSub h h' ∧ h.size < h'.size ∧ h'.get h.size = some (.cells [.int .i64 d, .int .i64 o, .int .i64 pb, .int .i64 w, .int .i64 mn, .int .i64 mx, .int .i64 nz, vp] true 0) ∧ ∃ k : Nat, prnsErr (lenN d) (prns.take k) (prns.drop k) = E ∧ t 1 = .ptr h.size 0 ∧ t 3 = .int .i64 (lenN d) ∧ t 5 = .func 237 [] [] ∧ t 58 = vp ∧ t 59 = .int .i64 (prns.length : Nat) ∧ t 60 = .int .i64 (k : Nat) ∧ k ≤ prns.length ∧ j = prns.length - k) (j0 := prns.length)
           ⟨s1 _, by simp, by simp -implicitDefEqProofs (disch := first | assumption | decide | omega | (simp only [wpD1] <;> omega) | (simp only [wpD2] <;> assumption) | solve_by_elim [zR, zP, zV] | fail) only [↓wpPre, wpPost, wpPoly, Int.reduceToNat, Int.reducePow, Int.reduceMul, Int.reduceAdd, Int.reduceSub, Int.reduceNeg, Nat.reduceAdd, Nat.reduceMul, Nat.reducePow, Int.reduceLT, Int.reduceLE, Int.reduceEq, Nat.reduceEqDiff], 0, e.symm, rfl, rfl, rfl, rfl, rfl, rfl, by omega, rfl⟩ ?_
          rintro j t h1 ⟨t1, hz, gp, k, ek, e1, e3, e5, e58, e59, e60, hk, hj⟩
          simp -implicitDefEqProofs (disch := first | assumption | decide | omega | (simp only [wpD1] <;> omega) | (simp only [wpD2] <;> assumption) | solve_by_elim [zR, zP, zV] | fail) only [↓wpPre, wpPost, wpPoly, Int.reduceToNat, Int.reducePow, Int.reduceMul, Int.reduceAdd, Int.reduceSub, Int.reduceNeg, Nat.reduceAdd, Nat.reduceMul, Nat.reducePow, Int.reduceLT, Int.reduceLE, Int.reduceEq, Nat.reduceEqDiff, e59, e60]
          refine Br.by (fun d1 => ?_) (fun d1 => ?_)
          ·have hk' : k < prns.length := by omega
           have R1 := R.mono t1
           have ld := R1.load hk'
           have st := prns_step (lenN d) prns k hk'
           rw [ek] at st
           have hx := i8 _ (getD_mem hk')
           have pt := R1.part_b (k2 := .i64) (b := (k : Int)) ⟨by omega, by omega⟩
           obtain ⟨v', hv', R'⟩ := pt
           rw [Int.toNat_natCast] at R'
           have ct := Contains_spec (hC.sub (T' := T89) (by decide)) (x := prns.getD k 0) R'
           have ctn := fun h2 (q : HSub h1 h2) => Contains_spec (hC.sub (T' := T89) (by decide)) (x := prns.getD k 0) (R'.mono q)
           generalize prns.getD k 0 = x at *
           simp -implicitDefEqProofs (disch := first | assumption | decide | omega | (simp only [wpD1] <;> omega) | (simp only [wpD2] <;> assumption) | solve_by_elim [zR, zP, zV] | fail) only [↓wpPre, wpPost, wpPoly, Int.reduceToNat, Int.reducePow, Int.reduceMul, Int.reduceAdd, Int.reduceSub, Int.reduceNeg, Nat.reduceAdd, Nat.reduceMul, Nat.reducePow, Int.reduceLT, Int.reduceLE, Int.reduceEq, Nat.reduceEqDiff, e1, e3, e5, e58, e60, R1.idx, ld]
           refine ACallsK.eq (W _ _ _ _) ?_
           by_cases d2 : 1 ≤ x ∧ x ≤ (lenN d : Int) + 2
           ·rw [if_neg (fun q => q d2)] at st
            simp -implicitDefEqProofs (disch := first | assumption | decide | omega | (simp only [wpD1] <;> omega) | (simp only [wpD2] <;> assumption) | solve_by_elim [zR, zP, zV] | fail) only [↓wpPre, wpPost, wpPoly, Int.reduceToNat, Int.reducePow, Int.reduceMul, Int.reduceAdd, Int.reduceSub, Int.reduceNeg, Nat.reduceAdd, Nat.reduceMul, Nat.reducePow, Int.reduceLT, Int.reduceLE, Int.reduceEq, Nat.reduceEqDiff, d2, e1, gp, hv', e60]
            refine ACallsK.eq (ctn _ (by repeat (first | exact HSub.refl h1 | refine HSub.put ?_ (by (try simp only [Heap.size_put, Heap.size_push, Heap.size_reserve]); omega) _ | refine HSub.push ?_ _ | refine HSub.reserve ?_ _))) ?_
            by_cases d3 : ((prns.take k).any fun y => x == y) = true
            ·rw [if_pos d3] at st
             simp -implicitDefEqProofs (disch := first | assumption | decide | omega | (simp only [wpD1] <;> omega) | (simp only [wpD2] <;> assumption) | solve_by_elim [zR, zP, zV] | fail) only [↓wpPre, wpPost, wpPoly, Int.reduceToNat, Int.reducePow, Int.reduceMul, Int.reduceAdd, Int.reduceSub, Int.reduceNeg, Nat.reduceAdd, Nat.reduceMul, Nat.reducePow, Int.reduceLT, Int.reduceLE, Int.reduceEq, Nat.reduceEqDiff, d3]
             exact ⟨st.symm, (by repeat (first | exact t1 | refine HSub.put ?_ (by (try simp only [Heap.size_put, Heap.size_push, Heap.size_reserve]); omega) _ | refine HSub.push ?_ _ | refine HSub.reserve ?_ _))⟩
            ·rw [if_neg d3] at st
             have d4 : ((prns.take k).any fun y => x == y) = false := Bool.eq_false_iff.2 d3
             simp -implicitDefEqProofs (disch := first | assumption | decide | omega | (simp only [wpD1] <;> omega) | (simp only [wpD2] <;> assumption) | solve_by_elim [zR, zP, zV] | fail) only [↓wpPre, wpPost, wpPoly, Int.reduceToNat, Int.reducePow, Int.reduceMul, Int.reduceAdd, Int.reduceSub, Int.reduceNeg, Nat.reduceAdd, Nat.reduceMul, Nat.reducePow, Int.reduceLT, Int.reduceLE, Int.reduceEq, Nat.reduceEqDiff, d4, e1, e3, e5, e58, e59, e60]
             exact ⟨_, ⟨t1, hz, gp, k + 1, st.symm, by simp, by omega, rfl⟩, by omega⟩
           ·rw [if_pos d2] at st
            simp -implicitDefEqProofs (disch := first | assumption | decide | omega | (simp only [wpD1] <;> omega) | (simp only [wpD2] <;> assumption) | solve_by_elim [zR, zP, zV] | fail) only [↓wpPre, wpPost, wpPoly, Int.reduceToNat, Int.reducePow, Int.reduceMul, Int.reduceAdd, Int.reduceSub, Int.reduceNeg, Nat.reduceAdd, Nat.reduceMul, Nat.reducePow, Int.reduceLT, Int.reduceLE, Int.reduceEq, Nat.reduceEqDiff, d2]
            exact ⟨st.symm, (by repeat (first | exact t1 | refine HSub.put ?_ (by (try simp only [Heap.size_put, Heap.size_push, Heap.size_reserve]); omega) _ | refine HSub.push ?_ _ | refine HSub.reserve ?_ _))⟩
          ·have ek2 : k = prns.length := by omega
           subst ek2
           rw [List.drop_length, prnsErr] at ek
           simp -implicitDefEqProofs (disch := first | assumption | decide | omega | (simp only [wpD1] <;> omega) | (simp only [wpD2] <;> assumption) | solve_by_elim [zR, zP, zV] | fail) only [↓wpPre, wpPost, wpPoly, Int.reduceToNat, Int.reducePow, Int.reduceMul, Int.reduceAdd, Int.reduceSub, Int.reduceNeg, Nat.reduceAdd, Nat.reduceMul, Nat.reducePow, Int.reduceLT, Int.reduceLE, Int.reduceEq, Nat.reduceEqDiff]
           exact ⟨ek, t1⟩
       ·have e := e2 (fun q => c7 (eN.1 q).2.2.2.2.2.2)
        simp -implicitDefEqProofs (disch := first | assumption | decide | omega | (simp only [wpD1] <;> omega) | (simp only [wpD2] <;> assumption) | solve_by_elim [zR, zP, zV] | fail) only [↓wpPre, wpPost, wpPoly, Int.reduceToNat, Int.reducePow, Int.reduceMul, Int.reduceAdd, Int.reduceSub, Int.reduceNeg, Nat.reduceAdd, Nat.reduceMul, Nat.reducePow, Int.reduceLT, Int.reduceLE, Int.reduceEq, Nat.reduceEqDiff, c7]
        exact ⟨e.symm, s1 _⟩
      ·have e := e2 (fun q => c6 (eN.1 q).2.2.2.2.2.1)
       simp -implicitDefEqProofs (disch := first | assumption | decide | omega | (simp only [wpD1] <;> omega) | (simp only [wpD2] <;> assumption) | solve_by_elim [zR, zP, zV] | fail) only [↓wpPre, wpPost, wpPoly, Int.reduceToNat, Int.reducePow, Int.reduceMul, Int.reduceAdd, Int.reduceSub, Int.reduceNeg, Nat.reduceAdd, Nat.reduceMul, Nat.reducePow, Int.reduceLT, Int.reduceLE, Int.reduceEq, Nat.reduceEqDiff, c6]
       exact ⟨e.symm, s1 _⟩
     ·have e := e2 (fun q => c5 (eN.1 q).2.2.2.2.1)
      simp -implicitDefEqProofs (disch := first | assumption | decide | omega | (simp only [wpD1] <;> omega) | (simp only [wpD2] <;> assumption) | solve_by_elim [zR, zP, zV] | fail) only [↓wpPre, wpPost, wpPoly, Int.reduceToNat, Int.reducePow, Int.reduceMul, Int.reduceAdd, Int.reduceSub, Int.reduceNeg, Nat.reduceAdd, Nat.reduceMul, Nat.reducePow, Int.reduceLT, Int.reduceLE, Int.reduceEq, Nat.reduceEqDiff, c5]
      exact ⟨e.symm, s1 _⟩
    ·have e := e2 (fun q => c4 (eN.1 q).2.2.2.1)
     simp -implicitDefEqProofs (disch := first | assumption | decide | omega | (simp only [wpD1] <;> omega) | (simp only [wpD2] <;> assumption) | solve_by_elim [zR, zP, zV] | fail) only [↓wpPre, wpPost, wpPoly, Int.reduceToNat, Int.reducePow, Int.reduceMul, Int.reduceAdd, Int.reduceSub, Int.reduceNeg, Nat.reduceAdd, Nat.reduceMul, Nat.reducePow, Int.reduceLT, Int.reduceLE, Int.reduceEq, Nat.reduceEqDiff, c4]
     exact ⟨e.symm, s1 _⟩
   ·have e := e2 (fun q => c3 (eN.1 q).2.2.1)
    simp -implicitDefEqProofs (disch := first | assumption | decide | omega | (simp only [wpD1] <;> omega) | (simp only [wpD2] <;> assumption) | solve_by_elim [zR, zP, zV] | fail) only [↓wpPre, wpPost, wpPoly, Int.reduceToNat, Int.reducePow, Int.reduceMul, Int.reduceAdd, Int.reduceSub, Int.reduceNeg, Nat.reduceAdd, Nat.reduceMul, Nat.reducePow, Int.reduceLT, Int.reduceLE, Int.reduceEq, Nat.reduceEqDiff, c3]
    exact ⟨e.symm, s1 _⟩
  ·have e := e2 (fun q => c2 (eN.1 q).2.1)
   simp -implicitDefEqProofs (disch := first | assumption | decide | omega | (simp only [wpD1] <;> omega) | (simp only [wpD2] <;> assumption) | solve_by_elim [zR, zP, zV] | fail) only [↓wpPre, wpPost, wpPoly, Int.reduceToNat, Int.reducePow, Int.reduceMul, Int.reduceAdd, Int.reduceSub, Int.reduceNeg, Nat.reduceAdd, Nat.reduceMul, Nat.reducePow, Int.reduceLT, Int.reduceLE, Int.reduceEq, Nat.reduceEqDiff, c2]
   exact ⟨e.symm, s1 _⟩
 ·have el : lenE d = tup2 0 2 := by unfold lenE; rw [if_neg c1]
  simp only [el] at L
  have e := e2 (fun q => c1 (eN.1 q).1)
  (refine calls_intro (hC.body (by decide) tab219) (Nat.le_of_ble_eq_true rfl) ?_); (show wp C _ none B219.code _ _); (simp only [B219]); simp -implicitDefEqProofs (disch := first | assumption | decide | omega | (simp only [wpD1] <;> omega) | (simp only [wpD2] <;> assumption) | solve_by_elim [zR, zP, zV] | fail) only [↓wpPre, wpPost, wpPoly, Int.reduceToNat, Int.reducePow, Int.reduceMul, Int.reduceAdd, Int.reduceSub, Int.reduceNeg, Nat.reduceAdd, Nat.reduceMul, Nat.reducePow, Int.reduceLT, Int.reduceLE, Int.reduceEq, Nat.reduceEqDiff]
  refine ACallsK.eq (L _) ?_
  simp -implicitDefEqProofs (disch := first | assumption | decide | omega | (simp only [wpD1] <;> omega) | (simp only [wpD2] <;> assumption) | solve_by_elim [zR, zP, zV] | fail) only [↓wpPre, wpPost, wpPoly, Int.reduceToNat, Int.reducePow, Int.reduceMul, Int.reduceAdd, Int.reduceSub, Int.reduceNeg, Nat.reduceAdd, Nat.reduceMul, Nat.reducePow, Int.reduceLT, Int.reduceLE, Int.reduceEq, Nat.reduceEqDiff, tup2]
  exact ⟨e.symm, s1 _⟩
theorem any_take {l : List Int} {k i : Nat} {x : Int} (hk : k ≤ l.length) (hi : i < k) (h : l.getD i 0 = x) : ((l.take k).any fun y => x == y) = true := by
 rw [List.any_eq_true]
 refine ⟨x, ?_, by simp⟩
 rw [← h, List.getD_eq_getElem?_getD, List.getElem?_eq_getElem (by omega)]
 exact List.mem_take_iff_getElem.2 ⟨i, by omega, rfl⟩
theorem any_take_no {l : List Int} {k : Nat} {x : Int} (hk : k ≤ l.length) (h : ∀ i, i < k → l.getD i 0 ≠ x) : ((l.take k).any fun y => x == y) = false := by
 rw [List.any_eq_false]
 intro y hy
 obtain ⟨i, hi, e⟩ := List.mem_take_iff_getElem.1 hy
 have := h i (by omega)
 rw [List.getD_eq_getElem?_getD, List.getElem?_eq_getElem (by omega)] at this
 simp only [Option.getD_some] at this
 rw [e] at this
 simp only [beq_iff_eq]
 exact fun q => this q.symm
set_option maxHeartbeats 2000000 in
set_option maxRecDepth 20000 in
theorem CheckPlanR_spec (hC : Has C T220) {v : AV} {p : PlanP} {h : Heap} (hp : PlI h v p) (h64 : p.ok64) : ACalls C 220 [v] h (fun r h' => r = .int .i64 p.err ∧ h' = h) := by
 refine ACalls.gc0 (P := fun r h' => r = .int .i64 p.err ∧ HSub h h') ?_ (fun r h' hp => ⟨by rw [hp.1]; trivial, hp.2, hp.1, rfl⟩)
 obtain ⟨vp, rfl, R⟩ := hp
 have v1 := R.one
 have hlt := R.lt
 obtain ⟨i1, i2, i3, i4, i5, i6, i7, i8⟩ := h64
 have L := fun h => Length08_spec (hC.sub (T' := T71) (by decide)) (h := h) i1
 have e2 : ¬ p.numsOk → p.err = 2 := fun q => by unfold PlanP.err; rw [if_neg q]
 have s1 : ∀ b, HSub h (h.push b) := HSub.push1 h
 have e3 : p.numsOk → p.err = if p.prns.length = 0 then 3 else if 8 < p.prns.length then 4 else prnsErr (lenN p.d) [] p.prns := fun q => by unfold PlanP.err; rw [if_pos q]
 have eN : p.numsOk ↔ lenOk p.d = true ∧ (1 ≤ p.o ∧ p.o ≤ 8) ∧ (1 ≤ p.pb ∧ p.pb ≤ 20) ∧ (2 ≤ p.w ∧ p.w ≤ 10) ∧ (1 ≤ p.mn ∧ p.mn ≤ p.mx) ∧ p.mx ≤ 1000 ∧ (0 ≤ p.nz ∧ p.nz ≤ 100000) := Iff.rfl
 generalize p.err = E at *
 generalize p.numsOk = Q at *
 obtain ⟨d, o, pb, w, mn, mx, nz, prns⟩ := p
 dsimp only at *
 by_cases c1 : lenOk d = true
 ·have el : lenE d = tup2 (lenN d) 0 := by unfold lenE; rw [if_pos c1]
  simp only [el] at L
  have hN := lenN_eq c1
  by_cases cA : (1 ≤ o ∧ o ≤ 8) ∧ (1 ≤ pb ∧ pb ≤ 20) ∧ (2 ≤ w ∧ w ≤ 10)
  ·have n1 : ¬ o < 1 := by omega
   have n2 : ¬ 8 < o := by omega
   have n3 : ¬ pb < 1 := by omega
   have n4 : ¬ 20 < pb := by omega
   have n5 : ¬ w < 2 := by omega
   have n6 : ¬ 10 < w := by omega
   by_cases cB : (1 ≤ mn ∧ mn ≤ mx) ∧ mx ≤ 1000 ∧ (0 ≤ nz ∧ nz ≤ 100000)
   ·have m1 : ¬ mn < 1 := by omega
    have m2 : ¬ mx < mn := by omega
    have m3 : ¬ 1000 < mx := by omega
    have m4 : ¬ nz < 0 := by omega
    have m5 : ¬ 100000 < nz := by omega
    have e := e3 (eN.2 ⟨c1, cA.1, cA.2.1, cA.2.2, cB.1, cB.2.1, cB.2.2⟩)
    by_cases c8 : prns.length = 0
    ·rw [if_pos c8] at e
     (refine calls_intro (hC.body (by decide) tab220) (Nat.le_of_ble_eq_true rfl) ?_); (show wp C _ none B220.code _ _); (simp only [B220]); simp -implicitDefEqProofs (disch := first | assumption | decide | omega | (simp only [wpD1] <;> omega) | (simp only [wpD2] <;> assumption) | solve_by_elim [zR, zP, zV] | fail) only [↓wpPre, wpPost, wpPoly, Int.reduceToNat, Int.reducePow, Int.reduceMul, Int.reduceAdd, Int.reduceSub, Int.reduceNeg, Nat.reduceAdd, Nat.reduceMul, Nat.reducePow, Int.reduceLT, Int.reduceLE, Int.reduceEq, Nat.reduceEqDiff]
     refine ACallsK.eq (L _) ?_
     simp -implicitDefEqProofs (disch := first | assumption | decide | omega | (simp only [wpD1] <;> omega) | (simp only [wpD2] <;> assumption) | solve_by_elim [zR, zP, zV] | fail) only [↓wpPre, wpPost, wpPoly, Int.reduceToNat, Int.reducePow, Int.reduceMul, Int.reduceAdd, Int.reduceSub, Int.reduceNeg, Nat.reduceAdd, Nat.reduceMul, Nat.reducePow, Int.reduceLT, Int.reduceLE, Int.reduceEq, Nat.reduceEqDiff, tup2, gV_u, n1, n2, n3, n4, n5, n6, m1, m2, m3, m4, m5, R.len, c8]
     exact ⟨e.symm, s1 _⟩
    ·rw [if_neg c8] at e
     by_cases c9 : 8 < prns.length
     ·rw [if_pos c9] at e
      (refine calls_intro (hC.body (by decide) tab220) (Nat.le_of_ble_eq_true rfl) ?_); (show wp C _ none B220.code _ _); (simp only [B220]); simp -implicitDefEqProofs (disch := first | assumption | decide | omega | (simp only [wpD1] <;> omega) | (simp only [wpD2] <;> assumption) | solve_by_elim [zR, zP, zV] | fail) only [↓wpPre, wpPost, wpPoly, Int.reduceToNat, Int.reducePow, Int.reduceMul, Int.reduceAdd, Int.reduceSub, Int.reduceNeg, Nat.reduceAdd, Nat.reduceMul, Nat.reducePow, Int.reduceLT, Int.reduceLE, Int.reduceEq, Nat.reduceEqDiff]
      refine ACallsK.eq (L _) ?_
      simp -implicitDefEqProofs (disch := first | assumption | decide | omega | (simp only [wpD1] <;> omega) | (simp only [wpD2] <;> assumption) | solve_by_elim [zR, zP, zV] | fail) only [↓wpPre, wpPost, wpPoly, Int.reduceToNat, Int.reducePow, Int.reduceMul, Int.reduceAdd, Int.reduceSub, Int.reduceNeg, Nat.reduceAdd, Nat.reduceMul, Nat.reducePow, Int.reduceLT, Int.reduceLE, Int.reduceEq, Nat.reduceEqDiff, tup2, gV_u, n1, n2, n3, n4, n5, n6, m1, m2, m3, m4, m5, R.len, c8, c9]
      exact ⟨e.symm, s1 _⟩
     ·rw [if_neg c9] at e
      (refine calls_intro (hC.body (by decide) tab220) (Nat.le_of_ble_eq_true rfl) ?_); (show wp C _ none B220.code _ _); (simp only [B220]); simp -implicitDefEqProofs (disch := first | assumption | decide | omega | (simp only [wpD1] <;> omega) | (simp only [wpD2] <;> assumption) | solve_by_elim [zR, zP, zV] | fail) only [↓wpPre, wpPost, wpPoly, Int.reduceToNat, Int.reducePow, Int.reduceMul, Int.reduceAdd, Int.reduceSub, Int.reduceNeg, Nat.reduceAdd, Nat.reduceMul, Nat.reducePow, Int.reduceLT, Int.reduceLE, Int.reduceEq, Nat.reduceEqDiff]
      refine ACallsK.eq (L _) ?_
      simp -implicitDefEqProofs (disch := first | assumption | decide | omega | (simp only [wpD1] <;> omega) | (simp only [wpD2] <;> assumption) | solve_by_elim [zR, zP, zV] | fail) only [↓wpPre, wpPost, wpPoly, Int.reduceToNat, Int.reducePow, Int.reduceMul, Int.reduceAdd, Int.reduceSub, Int.reduceNeg, Nat.reduceAdd, Nat.reduceMul, Nat.reducePow, Int.reduceLT, Int.reduceLE, Int.reduceEq, Nat.reduceEqDiff, tup2, gV_u, n1, n2, n3, n4, n5, n6, m1, m2, m3, m4, m5, R.len, c8, c9]
      refine wp_loopI (fun j t h' => h' = h.push (.cells [.int .i64 d, .int .i64 o, .int .i64 pb, .int .i64 w, .int .i64 mn, .int .i64 mx, .int .i64 nz, vp] true 0) ∧ ∃ k : Nat, prnsErr (lenN d) (prns.take k) (prns.drop k) = E ∧ t 1 = .ptr h.size 0 ∧ t 3 = .int .i64 (lenN d) ∧ t 5 = .int .i64 (k : Nat) ∧ k ≤ prns.length ∧ j = prns.length - k) (j0 := prns.length)
       ⟨rfl, 0, e.symm, rfl, rfl, rfl, by omega, rfl⟩ ?_
      rintro j t h1 ⟨hh, k, ek, e1, e3, e5, hk, hj⟩
      have gp : h1.get h.size = some (.cells [.int .i64 d, .int .i64 o, .int .i64 pb, .int .i64 w, .int .i64 mn, .int .i64 mx, .int .i64 nz, vp] true 0) := by rw [hh]; exact get_push_eq rfl
      have t1 : HSub h h1 := by rw [hh]; exact s1 _
      have R1 := R.mono t1
      simp -implicitDefEqProofs (disch := first | assumption | decide | omega | (simp only [wpD1] <;> omega) | (simp only [wpD2] <;> assumption) | solve_by_elim [zR, zP, zV] | fail) only [↓wpPre, wpPost, wpPoly, Int.reduceToNat, Int.reducePow, Int.reduceMul, Int.reduceAdd, Int.reduceSub, Int.reduceNeg, Nat.reduceAdd, Nat.reduceMul, Nat.reducePow, Int.reduceLT, Int.reduceLE, Int.reduceEq, Nat.reduceEqDiff, e1, e5, gp, R1.len]
      refine Br.by (fun d1 => ?_) (fun d1 => ?_)
      ·have hk' : k < prns.length := by omega
       have ld := R1.load hk'
       have st := prns_step (lenN d) prns k hk'
       rw [ek] at st
       have at1 := fun i (hi : i < k) (q : prns.getD i 0 = prns.getD k 0) => any_take (by omega) hi q
       have at2 := fun (q : ∀ i, i < k → prns.getD i 0 ≠ prns.getD k 0) => any_take_no (x := prns.getD k 0) (by omega) q
       generalize hx : prns.getD k 0 = x at *
       by_cases d2 : 1 ≤ x ∧ x ≤ (lenN d : Int) + 2
       ·rw [if_neg (fun q => q d2)] at st
        have d3 : ¬ x < 1 := by omega
        have d4 : ¬ (lenN d : Int) + 2 < x := by omega
        simp -implicitDefEqProofs (disch := first | assumption | decide | omega | (simp only [wpD1] <;> omega) | (simp only [wpD2] <;> assumption) | solve_by_elim [zR, zP, zV] | fail) only [↓wpPre, wpPost, wpPoly, Int.reduceToNat, Int.reducePow, Int.reduceMul, Int.reduceAdd, Int.reduceSub, Int.reduceNeg, Nat.reduceAdd, Nat.reduceMul, Nat.reducePow, Int.reduceLT, Int.reduceLE, Int.reduceEq, Nat.reduceEqDiff, e1, e3, e5, gp, R1.idx, ld, gV_u, d3, d4]
        refine wp_loopI (fun j t h' => h' = h1 ∧ ∃ i : Nat, (∀ m, m < i → prns.getD m 0 ≠ x) ∧ t 1 = .ptr h.size 0 ∧ t 3 = .int .i64 (lenN d) ∧ t 5 = .int .i64 (k : Nat) ∧ t 6 = .int .i64 (i : Nat) ∧ i ≤ k ∧ j = k - i) (j0 := k)
         ⟨rfl, 0, fun m hm => by omega, e1, e3, e5, rfl, by omega, rfl⟩ ?_
        rintro j t h2 ⟨rfl, i, hm, e1, e3, e5, e6, hi, hj2⟩
        simp -implicitDefEqProofs (disch := first | assumption | decide | omega | (simp only [wpD1] <;> omega) | (simp only [wpD2] <;> assumption) | solve_by_elim [zR, zP, zV] | fail) only [↓wpPre, wpPost, wpPoly, Int.reduceToNat, Int.reducePow, Int.reduceMul, Int.reduceAdd, Int.reduceSub, Int.reduceNeg, Nat.reduceAdd, Nat.reduceMul, Nat.reducePow, Int.reduceLT, Int.reduceLE, Int.reduceEq, Nat.reduceEqDiff, e5, e6]
        refine Br.by (fun d5 => ?_) (fun d5 => ?_)
        ·have hi' : i < k := by omega
         have ld2 := R1.load (k := i) (by omega)
         by_cases d6 : prns.getD i 0 = x
         ·rw [if_pos (at1 i hi' d6)] at st
          simp -implicitDefEqProofs (disch := first | assumption | decide | omega | (simp only [wpD1] <;> omega) | (simp only [wpD2] <;> assumption) | solve_by_elim [zR, zP, zV] | fail) only [↓wpPre, wpPost, wpPoly, Int.reduceToNat, Int.reducePow, Int.reduceMul, Int.reduceAdd, Int.reduceSub, Int.reduceNeg, Nat.reduceAdd, Nat.reduceMul, Nat.reducePow, Int.reduceLT, Int.reduceLE, Int.reduceEq, Nat.reduceEqDiff, e1, e5, e6, gp, R1.idx, ld, ld2, d6]
          exact ⟨st.symm, t1⟩
         ·simp -implicitDefEqProofs (disch := first | assumption | decide | omega | (simp only [wpD1] <;> omega) | (simp only [wpD2] <;> assumption) | solve_by_elim [zR, zP, zV] | fail) only [↓wpPre, wpPost, wpPoly, Int.reduceToNat, Int.reducePow, Int.reduceMul, Int.reduceAdd, Int.reduceSub, Int.reduceNeg, Nat.reduceAdd, Nat.reduceMul, Nat.reducePow, Int.reduceLT, Int.reduceLE, Int.reduceEq, Nat.reduceEqDiff, e1, e3, e5, e6, gp, R1.idx, ld, ld2, d6]
          refine ⟨_, ⟨i + 1, fun m hm2 => ?_, by simp, by omega, rfl⟩, by omega⟩
          rcases Nat.lt_or_ge m i with y | y
          ·exact hm m y
          ·have : m = i := by omega
           subst this; exact d6
        ·have ei : i = k := by omega
         subst ei
         rw [if_neg (by rw [at2 hm]; simp)] at st
         simp -implicitDefEqProofs (disch := first | assumption | decide | omega | (simp only [wpD1] <;> omega) | (simp only [wpD2] <;> assumption) | solve_by_elim [zR, zP, zV] | fail) only [↓wpPre, wpPost, wpPoly, Int.reduceToNat, Int.reducePow, Int.reduceMul, Int.reduceAdd, Int.reduceSub, Int.reduceNeg, Nat.reduceAdd, Nat.reduceMul, Nat.reducePow, Int.reduceLT, Int.reduceLE, Int.reduceEq, Nat.reduceEqDiff, e1, e3, e5, hh]
         exact ⟨_, ⟨i + 1, st.symm, by simp, by omega, rfl⟩, by omega⟩
       ·rw [if_pos d2] at st
        by_cases d3 : x < 1
        ·simp -implicitDefEqProofs (disch := first | assumption | decide | omega | (simp only [wpD1] <;> omega) | (simp only [wpD2] <;> assumption) | solve_by_elim [zR, zP, zV] | fail) only [↓wpPre, wpPost, wpPoly, Int.reduceToNat, Int.reducePow, Int.reduceMul, Int.reduceAdd, Int.reduceSub, Int.reduceNeg, Nat.reduceAdd, Nat.reduceMul, Nat.reducePow, Int.reduceLT, Int.reduceLE, Int.reduceEq, Nat.reduceEqDiff, e1, e3, e5, gp, R1.idx, ld, gV_u, d3]
         exact ⟨st.symm, t1⟩
        ·have d4 : (lenN d : Int) + 2 < x := by omega
         simp -implicitDefEqProofs (disch := first | assumption | decide | omega | (simp only [wpD1] <;> omega) | (simp only [wpD2] <;> assumption) | solve_by_elim [zR, zP, zV] | fail) only [↓wpPre, wpPost, wpPoly, Int.reduceToNat, Int.reducePow, Int.reduceMul, Int.reduceAdd, Int.reduceSub, Int.reduceNeg, Nat.reduceAdd, Nat.reduceMul, Nat.reducePow, Int.reduceLT, Int.reduceLE, Int.reduceEq, Nat.reduceEqDiff, e1, e3, e5, gp, R1.idx, ld, gV_u, d3, d4]
         exact ⟨st.symm, t1⟩
      ·have ek2 : k = prns.length := by omega
       rw [ek2, List.drop_length, prnsErr] at ek
       simp -implicitDefEqProofs (disch := first | assumption | decide | omega | (simp only [wpD1] <;> omega) | (simp only [wpD2] <;> assumption) | solve_by_elim [zR, zP, zV] | fail) only [↓wpPre, wpPost, wpPoly, Int.reduceToNat, Int.reducePow, Int.reduceMul, Int.reduceAdd, Int.reduceSub, Int.reduceNeg, Nat.reduceAdd, Nat.reduceMul, Nat.reducePow, Int.reduceLT, Int.reduceLE, Int.reduceEq, Nat.reduceEqDiff]
       exact ⟨ek, t1⟩
   ·have e := e2 (fun q => cB (eN.1 q).2.2.2.2)
    (refine calls_intro (hC.body (by decide) tab220) (Nat.le_of_ble_eq_true rfl) ?_); (show wp C _ none B220.code _ _); (simp only [B220]); simp -implicitDefEqProofs (disch := first | assumption | decide | omega | (simp only [wpD1] <;> omega) | (simp only [wpD2] <;> assumption) | solve_by_elim [zR, zP, zV] | fail) only [↓wpPre, wpPost, wpPoly, Int.reduceToNat, Int.reducePow, Int.reduceMul, Int.reduceAdd, Int.reduceSub, Int.reduceNeg, Nat.reduceAdd, Nat.reduceMul, Nat.reducePow, Int.reduceLT, Int.reduceLE, Int.reduceEq, Nat.reduceEqDiff]
    refine ACallsK.eq (L _) ?_
    simp -implicitDefEqProofs (disch := first | assumption | decide | omega | (simp only [wpD1] <;> omega) | (simp only [wpD2] <;> assumption) | solve_by_elim [zR, zP, zV] | fail) only [↓wpPre, wpPost, wpPoly, Int.reduceToNat, Int.reducePow, Int.reduceMul, Int.reduceAdd, Int.reduceSub, Int.reduceNeg, Nat.reduceAdd, Nat.reduceMul, Nat.reducePow, Int.reduceLT, Int.reduceLE, Int.reduceEq, Nat.reduceEqDiff, tup2, gV_u, n1, n2, n3, n4, n5, n6]
    (repeat' (first | (refine Br.by (fun _ => ?_) (fun _ => ?_)) | (simp -implicitDefEqProofs (disch := first | assumption | decide | omega | (simp only [wpD1] <;> omega) | (simp only [wpD2] <;> assumption) | solve_by_elim [zR, zP, zV] | fail) only [↓wpPre, wpPost, wpPoly, Int.reduceToNat, Int.reducePow, Int.reduceMul, Int.reduceAdd, Int.reduceSub, Int.reduceNeg, Nat.reduceAdd, Nat.reduceMul, Nat.reducePow, Int.reduceLT, Int.reduceLE, Int.reduceEq, Nat.reduceEqDiff, gV_u])))
    all_goals first
     | exact ⟨e.symm, s1 _⟩
     | (exfalso; omega)
  ·have e := e2 (fun q => cA ⟨(eN.1 q).2.1, (eN.1 q).2.2.1, (eN.1 q).2.2.2.1⟩)
   (refine calls_intro (hC.body (by decide) tab220) (Nat.le_of_ble_eq_true rfl) ?_); (show wp C _ none B220.code _ _); (simp only [B220]); simp -implicitDefEqProofs (disch := first | assumption | decide | omega | (simp only [wpD1] <;> omega) | (simp only [wpD2] <;> assumption) | solve_by_elim [zR, zP, zV] | fail) only [↓wpPre, wpPost, wpPoly, Int.reduceToNat, Int.reducePow, Int.reduceMul, Int.reduceAdd, Int.reduceSub, Int.reduceNeg, Nat.reduceAdd, Nat.reduceMul, Nat.reducePow, Int.reduceLT, Int.reduceLE, Int.reduceEq, Nat.reduceEqDiff]
   refine ACallsK.eq (L _) ?_
   simp -implicitDefEqProofs (disch := first | assumption | decide | omega | (simp only [wpD1] <;> omega) | (simp only [wpD2] <;> assumption) | solve_by_elim [zR, zP, zV] | fail) only [↓wpPre, wpPost, wpPoly, Int.reduceToNat, Int.reducePow, Int.reduceMul, Int.reduceAdd, Int.reduceSub, Int.reduceNeg, Nat.reduceAdd, Nat.reduceMul, Nat.reducePow, Int.reduceLT, Int.reduceLE, Int.reduceEq, Nat.reduceEqDiff, tup2, gV_u]
   (repeat' (first | (refine Br.by (fun _ => ?_) (fun _ => ?_)) | (simp -implicitDefEqProofs (disch := first | assumption | decide | omega | (simp only [wpD1] <;> omega) | (simp only [wpD2] <;> assumption) | solve_by_elim [zR, zP, zV] | fail) only [↓wpPre, wpPost, wpPoly, Int.reduceToNat, Int.reducePow, Int.reduceMul, Int.reduceAdd, Int.reduceSub, Int.reduceNeg, Nat.reduceAdd, Nat.reduceMul, Nat.reducePow, Int.reduceLT, Int.reduceLE, Int.reduceEq, Nat.reduceEqDiff, gV_u])))
   all_goals first
    | exact ⟨e.symm, s1 _⟩
    | (exfalso; omega)
 ·have el : lenE d = tup2 0 2 := by unfold lenE; rw [if_neg c1]
  simp only [el] at L
  have e := e2 (fun q => c1 (eN.1 q).1)
  (refine calls_intro (hC.body (by decide) tab220) (Nat.le_of_ble_eq_true rfl) ?_); (show wp C _ none B220.code _ _); (simp only [B220]); simp -implicitDefEqProofs (disch := first | assumption | decide | omega | (simp only [wpD1] <;> omega) | (simp only [wpD2] <;> assumption) | solve_by_elim [zR, zP, zV] | fail) only [↓wpPre, wpPost, wpPoly, Int.reduceToNat, Int.reducePow, Int.reduceMul, Int.reduceAdd, Int.reduceSub, Int.reduceNeg, Nat.reduceAdd, Nat.reduceMul, Nat.reducePow, Int.reduceLT, Int.reduceLE, Int.reduceEq, Nat.reduceEqDiff]
  refine ACallsK.eq (L _) ?_
  simp -implicitDefEqProofs (disch := first | assumption | decide | omega | (simp only [wpD1] <;> omega) | (simp only [wpD2] <;> assumption) | solve_by_elim [zR, zP, zV] | fail) only [↓wpPre, wpPost, wpPoly, Int.reduceToNat, Int.reducePow, Int.reduceMul, Int.reduceAdd, Int.reduceSub, Int.reduceNeg, Nat.reduceAdd, Nat.reduceMul, Nat.reducePow, Int.reduceLT, Int.reduceLE, Int.reduceEq, Nat.reduceEqDiff, tup2, gV_u]
  exact ⟨e.symm, s1 _⟩
end
end Go.Ae
/- Emitters are checked: the program and the reference. -/
set_option linter.unusedSimpArgs false
set_option linter.unusedVariables false
namespace Go.Ae
theorem size_range {p : PlanP} (h : p.numsOk) : 31 ≤ p.size ∧ p.size ≤ 8184 ∧ p.size = ((lenN p.d * p.o.toNat : Nat) : Int) := by
 have hN := lenN_eq h.1
 have ho := h.2.1
 obtain ⟨o, eo⟩ := Int.eq_ofNat_of_zero_le (show 0 ≤ p.o by omega)
 have e : p.size = ((lenN p.d * p.o.toNat : Nat) : Int) := by
  unfold PlanP.size
  rw [eo, Int.toNat_natCast]; exact (Int.natCast_mul _ _).symm
 have a1 : lenN p.d * 1 ≤ lenN p.d * p.o.toNat := Nat.mul_le_mul_left _ (by omega)
 have a2 : lenN p.d * p.o.toNat ≤ 1023 * 8 := Nat.mul_le_mul (by omega) (by omega)
 omega
section
variable {C : Ctx}
theorem size244_spec (hC : Has C T244) {p : PlanP} {vp : AV} {h : Heap} (hn : p.numsOk) (v1 : vp.one = true) : ACalls C 244 [plA p vp] h (fun r h' => r = .int .i64 p.size ∧ h' = h) := by
 refine ACalls.gc0 (P := fun r h' => r = .int .i64 p.size ∧ HSub h h') ?_ (fun r h' hp => ⟨by rw [hp.1]; trivial, hp.2, hp.1, rfl⟩)
 have sr := size_range hn
 have hN := lenN_eq hn.1
 have hl := lenOk_cases hn.1
 have ho := hn.2.1
 have e1 : ((lenN p.d + 1 : Nat) : Int) - 1 = lenN p.d := by omega
 have es : p.size = (lenN p.d : Int) * p.o := rfl
 rw [es] at sr ⊢
 unfold plA
 obtain ⟨d, o, pb, w, mn, mx, nz, prns⟩ := p
 dsimp only at *
 (refine calls_intro (hC.body (by decide) tab244) (Nat.le_of_ble_eq_true rfl) ?_); (show wp C _ none B244.code _ _); (simp only [B244]); simp -implicitDefEqProofs (disch := first | assumption | decide | omega | (simp only [wpD1] <;> omega) | (simp only [wpD2] <;> assumption) | solve_by_elim [zR, zP, zV] | fail) only [↓wpPre, wpPost, wpPoly, Int.reduceToNat, Int.reducePow, Int.reduceMul, Int.reduceAdd, Int.reduceSub, Int.reduceNeg, Nat.reduceAdd, Nat.reduceMul, Nat.reducePow, Int.reduceLT, Int.reduceLE, Int.reduceEq, Nat.reduceEqDiff, Int.one_mul, hN.2.2, e1]
 exact HSub.push1 _ _
end
end Go.Ae
/- Emitters are checked: the reference. -/
set_option linter.unusedSimpArgs false
set_option linter.unusedVariables false
namespace Go.Ae
section
variable {C : Ctx}
end
end Go.Ae
/- Absolute values, sums and bounds of lists. -/
set_option linter.unusedSimpArgs false
set_option linter.unusedVariables false
namespace Go.Ae
theorem range_get {N m : Nat} {f : Nat → Int} (h : m < N) : ((List.range N).map f).getD m 0 = f m := by simp [h]
end Go.Ae
/- Periods and bits, in plain numbers. -/
set_option linter.unusedSimpArgs false
set_option linter.unusedVariables false
namespace Go.Ae
structure EmOk (p : PlanP) (e : EmitP) : Prop where
 pn : p.numsOk
 en : e.numsOk p
 code : codeErr p.d e.prn = 0
 bits : ∀ x ∈ e.bits, x = 0 ∨ x = 1
 prn : 1 ≤ e.prn ∧ e.prn ≤ lenN p.d + 2
 len : e.bits.length ≤ 10000
def EmitP.pl (e : EmitP) (p : PlanP) (n : Int) : Int := plI e.dl p.size e.rt n
theorem EmOk.bit {p : PlanP} {e : EmitP} (h : EmOk p e) (k : Int) : bitI p e k = 0 ∨ bitI p e k = 1 := by
 unfold bitI
 split
 ·simp
 ·rename_i c
  have := Int.emod_lt_of_pos ((k - e.ba) / p.pb) (show (0 : Int) < e.bits.length by omega)
  have := Int.emod_nonneg ((k - e.ba) / p.pb) (show (e.bits.length : Int) ≠ 0 by omega)
  exact h.bits _ (getD_mem (by omega))
end Go.Ae
/- Periods and bits: the program and the reference. -/
set_option linter.unusedSimpArgs false
set_option linter.unusedVariables false
namespace Go.Ae
section
variable {C : Ctx}
end
end Go.Ae
