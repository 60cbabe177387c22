/- Texts of the proof, part 11: a second reading of the lowered code, proved sound, and what the functions compute. -/
import Derived.Test.YtgbhjgcoklchjaaL10

/- The sequences of the degrees. -/
set_option linter.unusedSimpArgs false
set_option linter.unusedVariables false
namespace Go.Ae
def onesL (d : Int) : List Int := List.replicate d.toNat 1
def bitsL (d w : Int) : List Int := runL (tapsL d w) (onesL d) (lenN d)
theorem bitsL_length (d w : Int) : (bitsL d w).length = lenN d := runL_length _ _ _
theorem reg_ok {d w : Int} (hd : lenOk d = true) (hw : w = 1 ∨ w = 2) : regErr d (tapsL d w) (onesL d) = 0 := by
  rcases lenOk_cases hd with rfl | rfl | rfl | rfl | rfl <;> rcases hw with rfl | rfl <;> decide
theorem bitsL_01 {d w : Int} : ∀ x ∈ bitsL d w, x = 0 ∨ x = 1 := by
  intro x hx
  obtain ⟨k, _, rfl⟩ := List.mem_map.1 hx
  exact seqB_01 (fun y hy => .inr (List.mem_replicate.1 hy).2) k
section
variable {C : Ctx}
set_option maxRecDepth 100000 in
theorem Bits_spec (hC : Has C T74) {d w : Int} {h : Heap} (hd : In64 d) (hw : In64 w) : ACalls C 74 [.int .i64 d, .int .i64 w] h (fun r h' => ∃ v, r = lstErr v (tapsErr d w) ∧ HSub h h' ∧ RI h' v (if tapsErr d w = 0 then bitsL d w else []) ∧ (tapsErr d w = 0 → Fresh h h' v (bitsL d w))) := by
  by_cases c : lenOk d = true ∧ (w = 1 ∨ w = 2)
  · have pe : tapsErr d w = 0 := by unfold tapsErr; rw [if_pos c]
    have hl := lenN_eq c.1
    have hr := reg_ok c.1 c.2
    have hd5 : 5 ≤ d ∧ d ≤ 10 := by have := lenOk_cases c.1; omega
    have hT := Taps_spec (d := d) (w := w) (h := h) (hC.sub (T' := T72) (by decide)) hd hw
    rw [pe, if_pos rfl] at hT
    rw [pe]
    obtain ⟨k, rfl⟩ := Int.eq_ofNat_of_zero_le (show 0 ≤ d by omega)
    have re : runErr (k : Nat) (tapsL (k : Nat) w) (onesL (k : Nat)) (lenN (k : Nat)) = 0 := by unfold runErr; rw [if_pos hr, if_neg (by omega)]
    (refine calls_intro (hC.body (by decide) tab74) (Nat.le_of_ble_eq_true rfl) ?_); (show wp C _ none B74.code _ _); (simp only [B74]); simp -implicitDefEqProofs (disch := first | assumption | decide | omega | (simp only [wpD1] <;> omega) | (simp only [wpD2] <;> assumption) | solve_by_elim [HSub.refl, HSub.push, HSub.reserve] | fail) only [↓wpPre, wpPost, wpPoly, Int.reduceToNat, Int.reducePow, Int.reduceMul, Int.reduceAdd, Int.reduceSub, Int.reduceNeg, Nat.reduceAdd, Nat.reduceMul, Nat.reducePow, Int.reduceLT, Int.reduceLE, Int.reduceEq, Nat.reduceEqDiff]
    refine ACallsK.of hT ?_
    rintro r h1 ⟨v1, rfl, s1, R1⟩
    have h22 : (2 : Int) ^ k = ((lenN (k : Nat) + 1 : Nat) : Int) := by have := hl.2.2; rwa [Int.toNat_natCast] at this
    have e3 : ((lenN (k : Nat) + 1 : Nat) : Int) - 1 = lenN (k : Nat) := by omega
    simp -implicitDefEqProofs (disch := first | assumption | decide | omega | (simp only [wpD1] <;> omega) | (simp only [wpD2] <;> assumption) | solve_by_elim [HSub.refl, HSub.push, HSub.reserve] | fail) only [↓wpPre, wpPost, wpPoly, Int.reduceToNat, Int.reducePow, Int.reduceMul, Int.reduceAdd, Int.reduceSub, Int.reduceNeg, Nat.reduceAdd, Nat.reduceMul, Nat.reducePow, Int.reduceLT, Int.reduceLE, Int.reduceEq, Nat.reduceEqDiff, lstErr, Int.one_mul, h22, e3, Heap.wf]
    have eo : onesL ((k : Nat) : Int) = List.replicate k 1 := by simp [onesL]
    have hsH : HSub h1 ((h1.reserve 13).put (h1.size + 2) (.cells [.int .i64 1] true 0)) := ((HSub.refl _).reserve _).put (by omega) _
    refine ACallsK.of (Repeat_spec (hC.sub (T' := T90) (by decide)) (x := 1) (n := k) (RI.known (get_put_eq rfl (by simp)) ⟨rfl, by decide⟩ (by decide)) (by omega)) ?_
    rintro r h2 F
    have s2 := F.sub
    have s02 := s1.trans (hsH.trans s2)
    have hR := Run_spec (m := (lenN (k : Nat) : Int)) (h := h2) (hC.sub (T' := T81) (by decide)) (R1.mono (hsH.trans s2)) (w := onesL (k : Nat)) (n := (k : Nat)) (by rw [eo]; exact F.ri) (by unfold In64; omega)
    rw [re] at hR
    simp -implicitDefEqProofs (disch := first | assumption | decide | omega | (simp only [wpD1] <;> omega) | (simp only [wpD2] <;> assumption) | solve_by_elim [HSub.refl, HSub.push, HSub.reserve] | fail) only [↓wpPre, wpPost, wpPoly, Int.reduceToNat, Int.reducePow, Int.reduceMul, Int.reduceAdd, Int.reduceSub, Int.reduceNeg, Nat.reduceAdd, Nat.reduceMul, Nat.reducePow, Int.reduceLT, Int.reduceLE, Int.reduceEq, Nat.reduceEqDiff, h22, e3, Int.one_mul]
    refine ACallsK.of hR ?_
    rintro r h3 ⟨v3, rfl, s3, R3, F3⟩
    simp -implicitDefEqProofs (disch := first | assumption | decide | omega | (simp only [wpD1] <;> omega) | (simp only [wpD2] <;> assumption) | solve_by_elim [HSub.refl, HSub.push, HSub.reserve] | fail) only [↓wpPre, wpPost, wpPoly, Int.reduceToNat, Int.reducePow, Int.reduceMul, Int.reduceAdd, Int.reduceSub, Int.reduceNeg, Nat.reduceAdd, Nat.reduceMul, Nat.reducePow, Int.reduceLT, Int.reduceLE, Int.reduceEq, Nat.reduceEqDiff, lstErr]
    have F3 := F3 rfl
    have : (lenN (k : Nat) : Int).toNat = lenN (k : Nat) := Int.toNat_natCast _
    rw [this] at F3
    exact ⟨v3, rfl, s02.trans s3, by rw [if_pos trivial]; exact F3.ri, fun _ => F3.mono s02⟩
  · have pe : tapsErr d w = 2 := by unfold tapsErr; rw [if_neg c]
    have hT := Taps_spec (d := d) (w := w) (h := h) (hC.sub (T' := T72) (by decide)) hd hw
    rw [pe] at hT
    rw [pe]
    (refine calls_intro (hC.body (by decide) tab74) (Nat.le_of_ble_eq_true rfl) ?_); (show wp C _ none B74.code _ _); (simp only [B74]); simp -implicitDefEqProofs (disch := first | assumption | decide | omega | (simp only [wpD1] <;> omega) | (simp only [wpD2] <;> assumption) | solve_by_elim [HSub.refl, HSub.push, HSub.reserve] | fail) only [↓wpPre, wpPost, wpPoly, Int.reduceToNat, Int.reducePow, Int.reduceMul, Int.reduceAdd, Int.reduceSub, Int.reduceNeg, Nat.reduceAdd, Nat.reduceMul, Nat.reducePow, Int.reduceLT, Int.reduceLE, Int.reduceEq, Nat.reduceEqDiff]
    refine ACallsK.of hT ?_
    rintro r h1 ⟨v1, rfl, s1, R1⟩
    simp -implicitDefEqProofs (disch := first | assumption | decide | omega | (simp only [wpD1] <;> omega) | (simp only [wpD2] <;> assumption) | solve_by_elim [HSub.refl, HSub.push, HSub.reserve] | fail) only [↓wpPre, wpPost, wpPoly, Int.reduceToNat, Int.reducePow, Int.reduceMul, Int.reduceAdd, Int.reduceSub, Int.reduceNeg, Nat.reduceAdd, Nat.reduceMul, Nat.reducePow, Int.reduceLT, Int.reduceLE, Int.reduceEq, Nat.reduceEqDiff, lstErr]
    exact ⟨.nilslice, rfl, s1, by rw [if_neg id]; exact RI.nil⟩

set_option maxRecDepth 100000 in
theorem Bits08_spec (hC : Has C T75) {d w : Int} {h : Heap} (hd : In64 d) (hw : In64 w) : ACalls C 75 [.int .i64 d, .int .i64 w] h (fun r h' => ∃ v, r = lstErr v (tapsErr d w) ∧ HSub h h' ∧ RI h' v (if tapsErr d w = 0 then bitsL d w else [])) := by
  by_cases c : lenOk d = true ∧ (w = 1 ∨ w = 2)
  · have pe : tapsErr d w = 0 := by unfold tapsErr; rw [if_pos c]
    have hl := lenN_eq c.1
    have hr := reg_ok c.1 c.2
    have hd5 : 5 ≤ d ∧ d ≤ 10 := by have := lenOk_cases c.1; omega
    have hT := Taps08_spec (d := d) (w := w) (h := h) (hC.sub (T' := T73) (by decide)) hd hw
    rw [pe, if_pos rfl] at hT
    have eL : lenE d = tup2 (lenN d) 0 := by unfold lenE; rw [if_pos c.1]
    rw [pe]
    obtain ⟨k, rfl⟩ := Int.eq_ofNat_of_zero_le (show 0 ≤ d by omega)
    obtain ⟨kk, hkk, R⟩ := regErr_ok hr
    have : kk = k := by omega
    subst this
    (refine calls_intro (hC.body (by decide) tab75) (Nat.le_of_ble_eq_true rfl) ?_); (show wp C _ none B75.code _ _); (simp only [B75]); simp -implicitDefEqProofs (disch := first | assumption | decide | omega | (simp only [wpD1] <;> omega) | (simp only [wpD2] <;> assumption) | solve_by_elim [HSub.refl, HSub.push, HSub.reserve] | fail) only [↓wpPre, wpPost, wpPoly, Int.reduceToNat, Int.reducePow, Int.reduceMul, Int.reduceAdd, Int.reduceSub, Int.reduceNeg, Nat.reduceAdd, Nat.reduceMul, Nat.reducePow, Int.reduceLT, Int.reduceLE, Int.reduceEq, Nat.reduceEqDiff]
    refine ACallsK.of hT ?_
    rintro r h1 ⟨v1, rfl, s1, R1⟩
    simp -implicitDefEqProofs (disch := first | assumption | decide | omega | (simp only [wpD1] <;> omega) | (simp only [wpD2] <;> assumption) | solve_by_elim [HSub.refl, HSub.push, HSub.reserve] | fail) only [↓wpPre, wpPost, wpPoly, Int.reduceToNat, Int.reducePow, Int.reduceMul, Int.reduceAdd, Int.reduceSub, Int.reduceNeg, Nat.reduceAdd, Nat.reduceMul, Nat.reducePow, Int.reduceLT, Int.reduceLE, Int.reduceEq, Nat.reduceEqDiff, lstErr]
    refine ACallsK.eq2 (Length08_spec (hC.sub (T' := T71) (by decide)) hd) eL ?_
    simp -implicitDefEqProofs (disch := first | assumption | decide | omega | (simp only [wpD1] <;> omega) | (simp only [wpD2] <;> assumption) | solve_by_elim [HSub.refl, HSub.push, HSub.reserve] | fail) only [↓wpPre, wpPost, wpPoly, Int.reduceToNat, Int.reducePow, Int.reduceMul, Int.reduceAdd, Int.reduceSub, Int.reduceNeg, Nat.reduceAdd, Nat.reduceMul, Nat.reducePow, Int.reduceLT, Int.reduceLE, Int.reduceEq, Nat.reduceEqDiff, tup2, ints_replicate]
    have hol : ∀ p, p ≤ kk → (ones01 1 kk p).length = kk := fun p hp => ones01_length hp
    refine wp_loopI (fun j t h' => ∃ p : Nat, h' = h1.push (.cells (ints (ones01 1 kk p)) true 0) ∧ t 0 = .int .i64 (kk : Nat) ∧ t 6 = v1 ∧ t 8 = .int .i64 (lenN (kk : Nat)) ∧ t 10 = .slice h1.size 0 kk (.known kk) ∧ t 11 = .int .i64 (p : Nat) ∧ p ≤ kk ∧ j = kk - p) (j0 := kk)
      ⟨0, by simp [ones01], rfl, rfl, rfl, rfl, rfl, by omega, rfl⟩ ?_
    rintro j t h' ⟨p, rfl, e0, e6, e8, e10, e11, hp, hj⟩
    have holp := hol p hp
    simp -implicitDefEqProofs (disch := first | assumption | decide | omega | (simp only [wpD1] <;> omega) | (simp only [wpD2] <;> assumption) | solve_by_elim [HSub.refl, HSub.push, HSub.reserve] | fail) only [↓wpPre, wpPost, wpPoly, Int.reduceToNat, Int.reducePow, Int.reduceMul, Int.reduceAdd, Int.reduceSub, Int.reduceNeg, Nat.reduceAdd, Nat.reduceMul, Nat.reducePow, Int.reduceLT, Int.reduceLE, Int.reduceEq, Nat.reduceEqDiff, e0, e11]
    refine Br.by (fun c1 => ?_) (fun c1 => ?_)
    · have hset : (ones01 1 kk p).set p 1 = ones01 1 kk (p + 1) := by
        unfold ones01
        rw [List.set_append_right _ _ (by simp), List.length_replicate, Nat.sub_self, show kk - p = kk - (p + 1) + 1 by omega, List.replicate_succ, List.set_cons_zero]
        rw [show List.replicate (p + 1) (1 : Int) = List.replicate p 1 ++ [1] from List.replicate_succ', List.append_assoc]; rfl
      simp -implicitDefEqProofs (disch := first | assumption | decide | omega | (simp only [wpD1] <;> omega) | (simp only [wpD2] <;> assumption) | solve_by_elim [HSub.refl, HSub.push, HSub.reserve] | fail) only [↓wpPre, wpPost, wpPoly, Int.reduceToNat, Int.reducePow, Int.reduceMul, Int.reduceAdd, Int.reduceSub, Int.reduceNeg, Nat.reduceAdd, Nat.reduceMul, Nat.reducePow, Int.reduceLT, Int.reduceLE, Int.reduceEq, Nat.reduceEqDiff, e0, e6, e8, e10, e11, hset]
      exact ⟨_, ⟨p + 1, rfl, by simp, by omega, rfl⟩, by omega⟩
    · have : p = kk := by omega
      subst this
      have eo : ones01 1 p p = onesL (p : Nat) := by simp [ones01, onesL]
      rw [eo] at holp ⊢
      have RO : RI (h1.push (.cells (ints (onesL (p : Nat))) true 0)) (.slice h1.size 0 p (.known p)) (onesL (p : Nat)) := RI.known (get_push_eq rfl) ⟨by rw [holp], by omega⟩ (by omega)
      simp -implicitDefEqProofs (disch := first | assumption | decide | omega | (simp only [wpD1] <;> omega) | (simp only [wpD2] <;> assumption) | solve_by_elim [HSub.refl, HSub.push, HSub.reserve] | fail) only [↓wpPre, wpPost, wpPoly, Int.reduceToNat, Int.reducePow, Int.reduceMul, Int.reduceAdd, Int.reduceSub, Int.reduceNeg, Nat.reduceAdd, Nat.reduceMul, Nat.reducePow, Int.reduceLT, Int.reduceLE, Int.reduceEq, Nat.reduceEqDiff, e0, e6, e8, e10]
      refine ACallsK.of (run08_spec (hC.sub (T' := T91) (by decide)) (m := (lenN (p : Nat) : Int)) (R1.mono (HSub.push1 _ _)) RO R (by omega) (by unfold In64; omega)) ?_
      rintro r h3 ⟨L, A, hL1, hL2, hL3⟩
      have RA := A.ri
      have rl := runL_length (tapsL (p : Nat) w) (onesL (p : Nat)) L
      have Pa := RA.part_b (k2 := .i64) (b := (lenN (p : Nat) : Int)) (by omega)
      obtain ⟨wa, ea, Rwa⟩ := Pa
      simp -implicitDefEqProofs (disch := first | assumption | decide | omega | (simp only [wpD1] <;> omega) | (simp only [wpD2] <;> assumption) | solve_by_elim [HSub.refl, HSub.push, HSub.reserve] | fail) only [↓wpPre, wpPost, wpPoly, Int.reduceToNat, Int.reducePow, Int.reduceMul, Int.reduceAdd, Int.reduceSub, Int.reduceNeg, Nat.reduceAdd, Nat.reduceMul, Nat.reducePow, Int.reduceLT, Int.reduceLE, Int.reduceEq, Nat.reduceEqDiff, e8, ea]
      refine ⟨wa, rfl, (s1.trans (HSub.push1 _ _)).trans A.sub, ?_⟩
      rw [Int.toNat_natCast, runL_take (by omega)] at Rwa
      rw [if_pos trivial]; exact Rwa
  · have pe : tapsErr d w = 2 := by unfold tapsErr; rw [if_neg c]
    have hT := Taps08_spec (d := d) (w := w) (h := h) (hC.sub (T' := T73) (by decide)) hd hw
    rw [pe] at hT
    rw [pe]
    (refine calls_intro (hC.body (by decide) tab75) (Nat.le_of_ble_eq_true rfl) ?_); (show wp C _ none B75.code _ _); (simp only [B75]); simp -implicitDefEqProofs (disch := first | assumption | decide | omega | (simp only [wpD1] <;> omega) | (simp only [wpD2] <;> assumption) | solve_by_elim [HSub.refl, HSub.push, HSub.reserve] | fail) only [↓wpPre, wpPost, wpPoly, Int.reduceToNat, Int.reducePow, Int.reduceMul, Int.reduceAdd, Int.reduceSub, Int.reduceNeg, Nat.reduceAdd, Nat.reduceMul, Nat.reducePow, Int.reduceLT, Int.reduceLE, Int.reduceEq, Nat.reduceEqDiff]
    refine ACallsK.of hT ?_
    rintro r h1 ⟨v1, rfl, s1, R1⟩
    simp -implicitDefEqProofs (disch := first | assumption | decide | omega | (simp only [wpD1] <;> omega) | (simp only [wpD2] <;> assumption) | solve_by_elim [HSub.refl, HSub.push, HSub.reserve] | fail) only [↓wpPre, wpPost, wpPoly, Int.reduceToNat, Int.reducePow, Int.reduceMul, Int.reduceAdd, Int.reduceSub, Int.reduceNeg, Nat.reduceAdd, Nat.reduceMul, Nat.reducePow, Int.reduceLT, Int.reduceLE, Int.reduceEq, Nat.reduceEqDiff, lstErr]
    exact ⟨.nilslice, rfl, s1, by rw [if_neg id]; exact RI.nil⟩
end
end Go.Ae

/- The codes. -/
set_option linter.unusedSimpArgs false
set_option linter.unusedVariables false
namespace Go.Ae
def codeB (d p : Int) (i : Nat) : Int :=
  if p = 1 then (bitsL d 1).getD i 0 else if p = 2 then (bitsL d 2).getD i 0 else ((bitsL d 1).getD i 0 + (bitsL d 2).getD ((i + (p - 3).toNat) % lenN d) 0) % 2
def bitC (d p : Int) : List Int := (List.range (lenN d)).map (codeB d p)
def codeL (d p : Int) : List Int := (bitC d p).map fun b => 1 - 2 * b
def codeErr (d p : Int) : Int := if lenOk d = true ∧ 1 ≤ p ∧ p ≤ lenN d + 2 then 0 else 2
theorem bitC_length (d p : Int) : (bitC d p).length = lenN d := by simp [bitC]
theorem codeL_length (d p : Int) : (codeL d p).length = lenN d := by simp [codeL, bitC]
theorem bit01_getD {l : List Int} (h : ∀ x ∈ l, x = 0 ∨ x = 1) (i : Nat) : l.getD i 0 = 0 ∨ l.getD i 0 = 1 := bit01.get h i
theorem codeB_01 (d p : Int) (i : Nat) : codeB d p i = 0 ∨ codeB d p i = 1 := by
  unfold codeB
  have h1 := bit01_getD (bitsL_01 (d := d) (w := 1)) i
  have h2 := bit01_getD (bitsL_01 (d := d) (w := 2)) i
  split
  · exact h1
  · split
    · exact h2
    · omega
theorem codeB_one (d : Int) : bitC d 1 = bitsL d 1 := by
  refine seqx (by rw [bitC_length, bitsL_length]) fun i hi => ?_
  rw [bitC_length] at hi
  simp [bitC, hi, codeB]
theorem codeB_two (d : Int) : bitC d 2 = bitsL d 2 := by
  refine seqx (by rw [bitC_length, bitsL_length]) fun i hi => ?_
  rw [bitC_length] at hi
  simp [bitC, hi, codeB]
def codeP (d p : Int) (k : Nat) : List Int := (List.range (lenN d)).map fun i => if i < k then codeB d p i else (bitsL d 1).getD i 0
theorem codeP_length (d p : Int) (k : Nat) : (codeP d p k).length = lenN d := by simp [codeP]
theorem codeP_get {d p : Int} {k i : Nat} (hi : i < lenN d) : (codeP d p k).getD i 0 = if i < k then codeB d p i else (bitsL d 1).getD i 0 := by simp [codeP, hi]
theorem codeP_zero (d p : Int) : codeP d p 0 = bitsL d 1 := by
  refine seqx (by rw [codeP_length, bitsL_length]) fun i hi => ?_
  rw [codeP_length] at hi
  rw [codeP_get hi, if_neg (by omega)]
theorem codeP_full (d p : Int) : codeP d p (lenN d) = bitC d p := by
  refine seqx (by rw [codeP_length, bitC_length]) fun i hi => ?_
  rw [codeP_length] at hi
  rw [codeP_get hi, if_pos hi]; simp [bitC, hi]
theorem codeP_set {d p : Int} {k : Nat} (hk : k < lenN d) : (codeP d p k).set k (codeB d p k) = codeP d p (k + 1) := by
  refine seqx (by simp [codeP]) fun i hi => ?_
  simp only [List.length_set, codeP_length] at hi
  rw [codeP_get hi]
  simp only [List.getD_eq_getElem?_getD, List.getElem?_set, codeP_length]
  by_cases e : k = i
  · subst e; rw [if_pos rfl, if_pos hk, if_pos (by omega)]; rfl
  · rw [if_neg e]
    have := codeP_get (p := p) (k := k) hi
    rw [List.getD_eq_getElem?_getD] at this
    rw [this]
    by_cases c : i < k
    · rw [if_pos c, if_pos (by omega)]
    · rw [if_neg c, if_neg (by omega)]; simp
section
variable {C : Ctx}
set_option maxRecDepth 100000 in
set_option maxHeartbeats 2000000 in
theorem Code_spec (hC : Has C T76) {d p : Int} {h : Heap} (hd : In64 d) (hp : In64 p) : ACalls C 76 [.int .i64 d, .int .i64 p] h (fun r h' => ∃ v, r = lstErr v (codeErr d p) ∧ HSub h h' ∧ RI h' v (if codeErr d p = 0 then codeL d p else []) ∧ (codeErr d p = 0 → Fresh h h' v (codeL d p))) := by
  have hp' := hp
  unfold In64 at hp'
  have pe : codeErr d p = if lenOk d = true ∧ 1 ≤ p ∧ p ≤ lenN d + 2 then 0 else 2 := rfl
  by_cases c : lenOk d = true
  · have hl := lenN_eq c
    have eL : lenE d = tup2 (lenN d) 0 := by unfold lenE; rw [if_pos c]
    by_cases cp : 1 ≤ p ∧ p ≤ lenN d + 2
    · rw [if_pos ⟨c, cp⟩] at pe
      rw [pe]
      have t1 : tapsErr d 1 = 0 := by unfold tapsErr; rw [if_pos ⟨c, .inl rfl⟩]
      have t2 : tapsErr d 2 = 0 := by unfold tapsErr; rw [if_pos ⟨c, .inr rfl⟩]
      have lb1 := bitsL_length d 1
      have lb2 := bitsL_length d 2
      have hB : ∀ {w : Int} {h : Heap}, tapsErr d w = 0 → In64 w → ACalls C 74 [.int .i64 d, .int .i64 w] h (fun r h' => ∃ i, h.size ≤ i ∧ r = lstErr (.slice i 0 (lenN d) (.known (lenN d))) 0 ∧ HSub h h' ∧ h'.get i = some (.cells (ints (bitsL d w)) true 0)) := by
        intro w h e hw
        refine (Bits_spec (hC.sub (T' := T74) (by decide)) hd hw).mono ?_
        rintro r h' ⟨v, h1, _, _, h4⟩
        obtain ⟨s, _, i, hi, hv, hg⟩ := h4 e
        rw [bitsL_length] at hv
        exact ⟨i, hi, by rw [h1, e, hv], s, hg⟩
      have bC : ∀ k, (bitC d p).getD k 0 = 0 ∨ (bitC d p).getD k 0 = 1 := fun k => bit01_getD (fun x hx => by
        obtain ⟨i, _, rfl⟩ := List.mem_map.1 hx
        exact codeB_01 d p i) k
      have lC := bitC_length d p
      (refine calls_intro (hC.body (by decide) tab76) (Nat.le_of_ble_eq_true rfl) ?_); (show wp C _ none B76.code _ _); (simp only [B76]); simp -implicitDefEqProofs (disch := first | assumption | decide | omega | (simp only [wpD1] <;> omega) | (simp only [wpD2] <;> assumption) | solve_by_elim [HSub.refl, HSub.push, HSub.reserve] | fail) only [↓wpPre, wpPost, wpPoly, Int.reduceToNat, Int.reducePow, Int.reduceMul, Int.reduceAdd, Int.reduceSub, Int.reduceNeg, Nat.reduceAdd, Nat.reduceMul, Nat.reducePow, Int.reduceLT, Int.reduceLE, Int.reduceEq, Nat.reduceEqDiff]
      refine ACallsK.eq2 (Length_spec (hC.sub (T' := T70) (by decide)) hd) eL ?_
      simp -implicitDefEqProofs (disch := first | assumption | decide | omega | (simp only [wpD1] <;> omega) | (simp only [wpD2] <;> assumption) | solve_by_elim [HSub.refl, HSub.push, HSub.reserve] | fail) only [↓wpPre, wpPost, wpPoly, Int.reduceToNat, Int.reducePow, Int.reduceMul, Int.reduceAdd, Int.reduceSub, Int.reduceNeg, Nat.reduceAdd, Nat.reduceMul, Nat.reducePow, Int.reduceLT, Int.reduceLE, Int.reduceEq, Nat.reduceEqDiff, tup2]
      refine ACallsK.of (hB t1 (by unfold In64; omega)) ?_
      rintro r h1 ⟨i1, hi1, rfl, s1, g1⟩
      simp -implicitDefEqProofs (disch := first | assumption | decide | omega | (simp only [wpD1] <;> omega) | (simp only [wpD2] <;> assumption) | solve_by_elim [HSub.refl, HSub.push, HSub.reserve] | fail) only [↓wpPre, wpPost, wpPoly, Int.reduceToNat, Int.reducePow, Int.reduceMul, Int.reduceAdd, Int.reduceSub, Int.reduceNeg, Nat.reduceAdd, Nat.reduceMul, Nat.reducePow, Int.reduceLT, Int.reduceLE, Int.reduceEq, Nat.reduceEqDiff, lstErr]
      refine ACallsK.of (hB t2 (by unfold In64; omega)) ?_
      rintro r h2 ⟨i2, hi2, rfl, s2, g2⟩
      have hl1 := Heap.lt_of_get g1
      have hl2 := Heap.lt_of_get g2
      have g1' := (s2.get i1 hl1).trans g1
      have s12 := s1.trans s2
      have z2 := s2.size
      have z1 := s1.size
      by_cases p1 : p = 1
      · have gi1 : h2.get i1 = some (.cells (ints (bitC d p)) true 0) := by rw [p1, codeB_one]; exact g1'
        simp -implicitDefEqProofs (disch := first | assumption | decide | omega | (simp only [wpD1] <;> omega) | (simp only [wpD2] <;> assumption) | solve_by_elim [HSub.refl, HSub.push, HSub.reserve] | fail) only [↓wpPre, wpPost, wpPoly, Int.reduceToNat, Int.reducePow, Int.reduceMul, Int.reduceAdd, Int.reduceSub, Int.reduceNeg, Nat.reduceAdd, Nat.reduceMul, Nat.reducePow, Int.reduceLT, Int.reduceLE, Int.reduceEq, Nat.reduceEqDiff, lstErr]
        have gX : h2.get i1 = some (.cells (ints (mapPre (fun b => 1 - 2 * b) (bitC d p) 0)) true 0) := by rw [mapPre_zero]; exact gi1
        refine wp_loopI (fun j t h' => ∃ k : Nat, HSub h h' ∧ i1 < h'.size ∧ h'.get i1 = some (.cells (ints (mapPre (fun b => 1 - 2 * b) (bitC d p) k)) true 0) ∧ t 8 = .slice i1 0 (lenN d) (.known (lenN d)) ∧ t 68 = .slice i1 0 (lenN d) (.known (lenN d)) ∧ t 69 = .int .i64 (lenN d) ∧ t 70 = .int .i64 (k : Nat) ∧ k ≤ lenN d ∧ j = lenN d - k) (j0 := lenN d)
          ⟨0, s12, Heap.lt_of_get gi1, gX, rfl, rfl, rfl, rfl, by omega, rfl⟩ ?_
        rintro j t h' ⟨k, hs, hlt, hg, e8, e68, e69, e70, hk, hj⟩
        have hml := mapPre_length (fun b => 1 - 2 * b) (bitC d p) k
        simp -implicitDefEqProofs (disch := first | assumption | decide | omega | (simp only [wpD1] <;> omega) | (simp only [wpD2] <;> assumption) | solve_by_elim [HSub.refl, HSub.push, HSub.reserve] | fail) only [↓wpPre, wpPost, wpPoly, Int.reduceToNat, Int.reducePow, Int.reduceMul, Int.reduceAdd, Int.reduceSub, Int.reduceNeg, Nat.reduceAdd, Nat.reduceMul, Nat.reducePow, Int.reduceLT, Int.reduceLE, Int.reduceEq, Nat.reduceEqDiff, e69, e70]
        refine Br.by (fun c1 => ?_) (fun c1 => ?_)
        · have hk' : k < (bitC d p).length := by omega
          have hg2 := mapPre_get (fun b => 1 - 2 * b) hk'
          have hst := mapPre_set (fun b => 1 - 2 * b) hk'
          have b01 := bC k
          simp -implicitDefEqProofs (disch := first | assumption | decide | omega | (simp only [wpD1] <;> omega) | (simp only [wpD2] <;> assumption) | solve_by_elim [HSub.refl, HSub.push, HSub.reserve] | fail) only [↓wpPre, wpPost, wpPoly, Int.reduceToNat, Int.reducePow, Int.reduceMul, Int.reduceAdd, Int.reduceSub, Int.reduceNeg, Nat.reduceAdd, Nat.reduceMul, Nat.reducePow, Int.reduceLT, Int.reduceLE, Int.reduceEq, Nat.reduceEqDiff, e8, e68, e69, e70, hg, hg2]
          exact ⟨_, ⟨k + 1, hs.put (by omega) _, hlt, by rw [← hst], by simp, by omega, rfl⟩, by omega⟩
        · have : k = (bitC d p).length := by omega
          subst this
          rw [mapPre_full] at hg
          simp -implicitDefEqProofs (disch := first | assumption | decide | omega | (simp only [wpD1] <;> omega) | (simp only [wpD2] <;> assumption) | solve_by_elim [HSub.refl, HSub.push, HSub.reserve] | fail) only [↓wpPre, wpPost, wpPoly, Int.reduceToNat, Int.reducePow, Int.reduceMul, Int.reduceAdd, Int.reduceSub, Int.reduceNeg, Nat.reduceAdd, Nat.reduceMul, Nat.reducePow, Int.reduceLT, Int.reduceLE, Int.reduceEq, Nat.reduceEqDiff, e8]
          have cl := codeL_length d p
          have F : Fresh h h' (.slice i1 0 (lenN d) (.known (lenN d))) (codeL d p) := ⟨hs, by omega, i1, by omega, by rw [cl], hg⟩
          exact ⟨_, rfl, hs, by rw [if_pos trivial]; exact F.ri, fun _ => F⟩
      by_cases p2 : p = 2
      · have gi2 : h2.get i2 = some (.cells (ints (bitC d p)) true 0) := by rw [p2, codeB_two]; exact g2
        simp -implicitDefEqProofs (disch := first | assumption | decide | omega | (simp only [wpD1] <;> omega) | (simp only [wpD2] <;> assumption) | solve_by_elim [HSub.refl, HSub.push, HSub.reserve] | fail) only [↓wpPre, wpPost, wpPoly, Int.reduceToNat, Int.reducePow, Int.reduceMul, Int.reduceAdd, Int.reduceSub, Int.reduceNeg, Nat.reduceAdd, Nat.reduceMul, Nat.reducePow, Int.reduceLT, Int.reduceLE, Int.reduceEq, Nat.reduceEqDiff, lstErr]
        have gX : h2.get i2 = some (.cells (ints (mapPre (fun b => 1 - 2 * b) (bitC d p) 0)) true 0) := by rw [mapPre_zero]; exact gi2
        refine wp_loopI (fun j t h' => ∃ k : Nat, HSub h h' ∧ i2 < h'.size ∧ h'.get i2 = some (.cells (ints (mapPre (fun b => 1 - 2 * b) (bitC d p) k)) true 0) ∧ t 8 = .slice i2 0 (lenN d) (.known (lenN d)) ∧ t 68 = .slice i2 0 (lenN d) (.known (lenN d)) ∧ t 69 = .int .i64 (lenN d) ∧ t 70 = .int .i64 (k : Nat) ∧ k ≤ lenN d ∧ j = lenN d - k) (j0 := lenN d)
          ⟨0, s12, Heap.lt_of_get gi2, gX, rfl, rfl, rfl, rfl, by omega, rfl⟩ ?_
        rintro j t h' ⟨k, hs, hlt, hg, e8, e68, e69, e70, hk, hj⟩
        have hml := mapPre_length (fun b => 1 - 2 * b) (bitC d p) k
        simp -implicitDefEqProofs (disch := first | assumption | decide | omega | (simp only [wpD1] <;> omega) | (simp only [wpD2] <;> assumption) | solve_by_elim [HSub.refl, HSub.push, HSub.reserve] | fail) only [↓wpPre, wpPost, wpPoly, Int.reduceToNat, Int.reducePow, Int.reduceMul, Int.reduceAdd, Int.reduceSub, Int.reduceNeg, Nat.reduceAdd, Nat.reduceMul, Nat.reducePow, Int.reduceLT, Int.reduceLE, Int.reduceEq, Nat.reduceEqDiff, e69, e70]
        refine Br.by (fun c1 => ?_) (fun c1 => ?_)
        · have hk' : k < (bitC d p).length := by omega
          have hg2 := mapPre_get (fun b => 1 - 2 * b) hk'
          have hst := mapPre_set (fun b => 1 - 2 * b) hk'
          have b01 := bC k
          simp -implicitDefEqProofs (disch := first | assumption | decide | omega | (simp only [wpD1] <;> omega) | (simp only [wpD2] <;> assumption) | solve_by_elim [HSub.refl, HSub.push, HSub.reserve] | fail) only [↓wpPre, wpPost, wpPoly, Int.reduceToNat, Int.reducePow, Int.reduceMul, Int.reduceAdd, Int.reduceSub, Int.reduceNeg, Nat.reduceAdd, Nat.reduceMul, Nat.reducePow, Int.reduceLT, Int.reduceLE, Int.reduceEq, Nat.reduceEqDiff, e8, e68, e69, e70, hg, hg2]
          exact ⟨_, ⟨k + 1, hs.put (by omega) _, hlt, by rw [← hst], by simp, by omega, rfl⟩, by omega⟩
        · have : k = (bitC d p).length := by omega
          subst this
          rw [mapPre_full] at hg
          simp -implicitDefEqProofs (disch := first | assumption | decide | omega | (simp only [wpD1] <;> omega) | (simp only [wpD2] <;> assumption) | solve_by_elim [HSub.refl, HSub.push, HSub.reserve] | fail) only [↓wpPre, wpPost, wpPoly, Int.reduceToNat, Int.reducePow, Int.reduceMul, Int.reduceAdd, Int.reduceSub, Int.reduceNeg, Nat.reduceAdd, Nat.reduceMul, Nat.reducePow, Int.reduceLT, Int.reduceLE, Int.reduceEq, Nat.reduceEqDiff, e8]
          have cl := codeL_length d p
          have F : Fresh h h' (.slice i2 0 (lenN d) (.known (lenN d))) (codeL d p) := ⟨hs, by omega, i2, by omega, by rw [cl], hg⟩
          exact ⟨_, rfl, hs, by rw [if_pos trivial]; exact F.ri, fun _ => F⟩
      have hp3 : 3 ≤ p := by omega
      have lP := codeP_length d p
      have g0 : h2.get i1 = some (.cells (ints (codeP d p 0)) true 0) := by rw [codeP_zero]; exact g1'
      simp -implicitDefEqProofs (disch := first | assumption | decide | omega | (simp only [wpD1] <;> omega) | (simp only [wpD2] <;> assumption) | solve_by_elim [HSub.refl, HSub.push, HSub.reserve] | fail) only [↓wpPre, wpPost, wpPoly, Int.reduceToNat, Int.reducePow, Int.reduceMul, Int.reduceAdd, Int.reduceSub, Int.reduceNeg, Nat.reduceAdd, Nat.reduceMul, Nat.reducePow, Int.reduceLT, Int.reduceLE, Int.reduceEq, Nat.reduceEqDiff, lstErr]
      refine wp_loopI (fun j t h' => ∃ k : Nat, HSub h h' ∧ i1 < h'.size ∧ h'.get i1 = some (.cells (ints (codeP d p k)) true 0) ∧ h'.get i2 = some (.cells (ints (bitsL d 2)) true 0) ∧ t 1 = .int .i64 p ∧ t 6 = .int .i64 (lenN d) ∧ t 8 = .slice i1 0 (lenN d) (.known (lenN d)) ∧ t 10 = .slice i2 0 (lenN d) (.known (lenN d)) ∧
          t 42 = .slice i1 0 (lenN d) (.known (lenN d)) ∧ t 43 = .int .i64 (lenN d) ∧ t 44 = .int .i64 (k : Nat) ∧ k ≤ lenN d ∧ j = lenN d - k) (j0 := lenN d)
        ⟨0, s12, by omega, g0, g2, rfl, rfl, rfl, rfl, rfl, rfl, rfl, by omega, rfl⟩ ?_
      rintro j t h3 ⟨k, hs3, hlt3, hg1, hg2, e1, e6, e8, e10, e42, e43, e44, hk, hj⟩
      have lPk := lP k
      simp -implicitDefEqProofs (disch := first | assumption | decide | omega | (simp only [wpD1] <;> omega) | (simp only [wpD2] <;> assumption) | solve_by_elim [HSub.refl, HSub.push, HSub.reserve] | fail) only [↓wpPre, wpPost, wpPoly, Int.reduceToNat, Int.reducePow, Int.reduceMul, Int.reduceAdd, Int.reduceSub, Int.reduceNeg, Nat.reduceAdd, Nat.reduceMul, Nat.reducePow, Int.reduceLT, Int.reduceLE, Int.reduceEq, Nat.reduceEqDiff, e43, e44]
      refine Br.by (fun c1 => ?_) (fun c1 => ?_)
      · have hk' : k < lenN d := by omega
        have gP : (codeP d p k).getD k 0 = (bitsL d 1).getD k 0 := by rw [codeP_get hk', if_neg (by omega)]
        have em : ((k : Int) + p - 3) % (lenN d : Int) = (((k + (p - 3).toNat) % lenN d : Nat) : Int) := by
          rw [show (k : Int) + p - 3 = ((k + (p - 3).toNat : Nat) : Int) by omega]; exact (Int.natCast_emod _ _).symm
        have hm : (k + (p - 3).toNat) % lenN d < lenN d := Nat.mod_lt _ (by omega)
        have lb2 := bitsL_length d 2
        have ex := xor01 (bit01_getD (bitsL_01 (d := d) (w := 1)) k) (bit01_getD (bitsL_01 (d := d) (w := 2)) ((k + (p - 3).toNat) % lenN d))
        have hcb : codeB d p k = ((bitsL d 1).getD k 0 + (bitsL d 2).getD ((k + (p - 3).toNat) % lenN d) 0) % 2 := by unfold codeB; rw [if_neg p1, if_neg p2]
        rw [← hcb] at ex
        have hst := codeP_set (p := p) hk'
        simp -implicitDefEqProofs (disch := first | assumption | decide | omega | (simp only [wpD1] <;> omega) | (simp only [wpD2] <;> assumption) | solve_by_elim [HSub.refl, HSub.push, HSub.reserve] | fail) only [↓wpPre, wpPost, wpPoly, Int.reduceToNat, Int.reducePow, Int.reduceMul, Int.reduceAdd, Int.reduceSub, Int.reduceNeg, Nat.reduceAdd, Nat.reduceMul, Nat.reducePow, Int.reduceLT, Int.reduceLE, Int.reduceEq, Nat.reduceEqDiff, e1, e6, e8, e10, e42, e43, e44, hg1, hg2, gP, em, ex, hst]
        exact ⟨_, ⟨k + 1, hs3.put (by omega) _, hlt3, rfl, by simp, by omega, rfl⟩, by omega⟩
      · have ek : k = lenN d := by omega
        rw [ek] at hg1
        have gi3 : h3.get i1 = some (.cells (ints (bitC d p)) true 0) := by rw [← codeP_full]; exact hg1
        simp -implicitDefEqProofs (disch := first | assumption | decide | omega | (simp only [wpD1] <;> omega) | (simp only [wpD2] <;> assumption) | solve_by_elim [HSub.refl, HSub.push, HSub.reserve] | fail) only [↓wpPre, wpPost, wpPoly, Int.reduceToNat, Int.reducePow, Int.reduceMul, Int.reduceAdd, Int.reduceSub, Int.reduceNeg, Nat.reduceAdd, Nat.reduceMul, Nat.reducePow, Int.reduceLT, Int.reduceLE, Int.reduceEq, Nat.reduceEqDiff, e8]
        have gX : h3.get i1 = some (.cells (ints (mapPre (fun b => 1 - 2 * b) (bitC d p) 0)) true 0) := by rw [mapPre_zero]; exact gi3
        refine wp_loopI (fun j t h' => ∃ k : Nat, HSub h h' ∧ i1 < h'.size ∧ h'.get i1 = some (.cells (ints (mapPre (fun b => 1 - 2 * b) (bitC d p) k)) true 0) ∧ t 8 = .slice i1 0 (lenN d) (.known (lenN d)) ∧ t 68 = .slice i1 0 (lenN d) (.known (lenN d)) ∧ t 69 = .int .i64 (lenN d) ∧ t 70 = .int .i64 (k : Nat) ∧ k ≤ lenN d ∧ j = lenN d - k) (j0 := lenN d)
          ⟨0, hs3, Heap.lt_of_get gi3, gX, e8, rfl, rfl, rfl, by omega, rfl⟩ ?_
        rintro j u h' ⟨k, hs, hlt, hg, f8, e68, e69, e70, hk, hj⟩
        have hml := mapPre_length (fun b => 1 - 2 * b) (bitC d p) k
        simp -implicitDefEqProofs (disch := first | assumption | decide | omega | (simp only [wpD1] <;> omega) | (simp only [wpD2] <;> assumption) | solve_by_elim [HSub.refl, HSub.push, HSub.reserve] | fail) only [↓wpPre, wpPost, wpPoly, Int.reduceToNat, Int.reducePow, Int.reduceMul, Int.reduceAdd, Int.reduceSub, Int.reduceNeg, Nat.reduceAdd, Nat.reduceMul, Nat.reducePow, Int.reduceLT, Int.reduceLE, Int.reduceEq, Nat.reduceEqDiff, e69, e70]
        refine Br.by (fun c1 => ?_) (fun c1 => ?_)
        · have hk' : k < (bitC d p).length := by omega
          have hg2 := mapPre_get (fun b => 1 - 2 * b) hk'
          have hst := mapPre_set (fun b => 1 - 2 * b) hk'
          have b01 := bC k
          simp -implicitDefEqProofs (disch := first | assumption | decide | omega | (simp only [wpD1] <;> omega) | (simp only [wpD2] <;> assumption) | solve_by_elim [HSub.refl, HSub.push, HSub.reserve] | fail) only [↓wpPre, wpPost, wpPoly, Int.reduceToNat, Int.reducePow, Int.reduceMul, Int.reduceAdd, Int.reduceSub, Int.reduceNeg, Nat.reduceAdd, Nat.reduceMul, Nat.reducePow, Int.reduceLT, Int.reduceLE, Int.reduceEq, Nat.reduceEqDiff, f8, e68, e69, e70, hg, hg2]
          exact ⟨_, ⟨k + 1, hs.put (by omega) _, hlt, by rw [← hst], by simp, by omega, rfl⟩, by omega⟩
        · have : k = (bitC d p).length := by omega
          subst this
          rw [mapPre_full] at hg
          simp -implicitDefEqProofs (disch := first | assumption | decide | omega | (simp only [wpD1] <;> omega) | (simp only [wpD2] <;> assumption) | solve_by_elim [HSub.refl, HSub.push, HSub.reserve] | fail) only [↓wpPre, wpPost, wpPoly, Int.reduceToNat, Int.reducePow, Int.reduceMul, Int.reduceAdd, Int.reduceSub, Int.reduceNeg, Nat.reduceAdd, Nat.reduceMul, Nat.reducePow, Int.reduceLT, Int.reduceLE, Int.reduceEq, Nat.reduceEqDiff, f8]
          have cl := codeL_length d p
          have F : Fresh h h' (.slice i1 0 (lenN d) (.known (lenN d))) (codeL d p) := ⟨hs, by omega, i1, by omega, by rw [cl], hg⟩
          exact ⟨_, rfl, hs, by rw [if_pos trivial]; exact F.ri, fun _ => F⟩
    · have cp' : ¬ (lenOk d = true ∧ 1 ≤ p ∧ p ≤ lenN d + 2) := fun h => cp h.2
      rw [if_neg cp'] at pe
      rw [pe]
      (refine calls_intro (hC.body (by decide) tab76) (Nat.le_of_ble_eq_true rfl) ?_); (show wp C _ none B76.code _ _); (simp only [B76]); simp -implicitDefEqProofs (disch := first | assumption | decide | omega | (simp only [wpD1] <;> omega) | (simp only [wpD2] <;> assumption) | solve_by_elim [HSub.refl, HSub.push, HSub.reserve] | fail) only [↓wpPre, wpPost, wpPoly, Int.reduceToNat, Int.reducePow, Int.reduceMul, Int.reduceAdd, Int.reduceSub, Int.reduceNeg, Nat.reduceAdd, Nat.reduceMul, Nat.reducePow, Int.reduceLT, Int.reduceLE, Int.reduceEq, Nat.reduceEqDiff]
      refine ACallsK.eq2 (Length_spec (hC.sub (T' := T70) (by decide)) hd) eL ?_
      simp -implicitDefEqProofs (disch := first | assumption | decide | omega | (simp only [wpD1] <;> omega) | (simp only [wpD2] <;> assumption) | solve_by_elim [HSub.refl, HSub.push, HSub.reserve] | fail) only [↓wpPre, wpPost, wpPoly, Int.reduceToNat, Int.reducePow, Int.reduceMul, Int.reduceAdd, Int.reduceSub, Int.reduceNeg, Nat.reduceAdd, Nat.reduceMul, Nat.reducePow, Int.reduceLT, Int.reduceLE, Int.reduceEq, Nat.reduceEqDiff, tup2]
      (repeat' (first | (refine Br.by (fun _ => ?_) (fun _ => ?_)) | (simp -implicitDefEqProofs (disch := first | assumption | decide | omega | (simp only [wpD1] <;> omega) | (simp only [wpD2] <;> assumption) | solve_by_elim [HSub.refl, HSub.push, HSub.reserve] | fail) only [↓wpPre, wpPost, wpPoly, Int.reduceToNat, Int.reducePow, Int.reduceMul, Int.reduceAdd, Int.reduceSub, Int.reduceNeg, Nat.reduceAdd, Nat.reduceMul, Nat.reducePow, Int.reduceLT, Int.reduceLE, Int.reduceEq, Nat.reduceEqDiff])))
      all_goals first | exact ⟨.nilslice, by rw [lstErr], HSub.refl _, by rw [if_neg id]; exact RI.nil⟩ | omega
  · have eL : lenE d = tup2 0 2 := by unfold lenE; rw [if_neg c]
    have cp' : ¬ (lenOk d = true ∧ 1 ≤ p ∧ p ≤ lenN d + 2) := fun h => c h.1
    rw [if_neg cp'] at pe
    rw [pe]
    (refine calls_intro (hC.body (by decide) tab76) (Nat.le_of_ble_eq_true rfl) ?_); (show wp C _ none B76.code _ _); (simp only [B76]); simp -implicitDefEqProofs (disch := first | assumption | decide | omega | (simp only [wpD1] <;> omega) | (simp only [wpD2] <;> assumption) | solve_by_elim [HSub.refl, HSub.push, HSub.reserve] | fail) only [↓wpPre, wpPost, wpPoly, Int.reduceToNat, Int.reducePow, Int.reduceMul, Int.reduceAdd, Int.reduceSub, Int.reduceNeg, Nat.reduceAdd, Nat.reduceMul, Nat.reducePow, Int.reduceLT, Int.reduceLE, Int.reduceEq, Nat.reduceEqDiff]
    refine ACallsK.eq2 (Length_spec (hC.sub (T' := T70) (by decide)) hd) eL ?_
    simp -implicitDefEqProofs (disch := first | assumption | decide | omega | (simp only [wpD1] <;> omega) | (simp only [wpD2] <;> assumption) | solve_by_elim [HSub.refl, HSub.push, HSub.reserve] | fail) only [↓wpPre, wpPost, wpPoly, Int.reduceToNat, Int.reducePow, Int.reduceMul, Int.reduceAdd, Int.reduceSub, Int.reduceNeg, Nat.reduceAdd, Nat.reduceMul, Nat.reducePow, Int.reduceLT, Int.reduceLE, Int.reduceEq, Nat.reduceEqDiff, tup2]
    exact ⟨.nilslice, by rw [lstErr], HSub.refl _, by rw [if_neg id]; exact RI.nil⟩
end
end Go.Ae

/- The codes of the reference; sums. -/
set_option linter.unusedSimpArgs false
set_option linter.unusedVariables false
namespace Go.Ae
def codeK (d p : Int) (k : Nat) : List Int := (codeL d p).take k ++ List.replicate (lenN d - k) 0
theorem codeK_length {d p : Int} {k : Nat} (h : k ≤ lenN d) : (codeK d p k).length = lenN d := by simp [codeK, codeL_length]; omega
theorem codeL_get {d p : Int} {k : Nat} (h : k < lenN d) : (codeL d p).getD k 0 = 1 - 2 * codeB d p k := by simp [codeL, bitC, h]
theorem codeK_set {d p : Int} {k : Nat} (h : k < lenN d) : (codeK d p k).set k (1 - 2 * codeB d p k) = codeK d p (k + 1) := by
  unfold codeK
  have cl := codeL_length d p
  have hl : ((codeL d p).take k).length = k := by simp [cl]; omega
  rw [List.set_append_right _ _ (by omega), hl, Nat.sub_self, show lenN d - k = lenN d - (k + 1) + 1 by omega, List.replicate_succ, List.set_cons_zero, take_succ_getD (by omega), codeL_get h, List.append_assoc]
  rfl
theorem codeK_full (d p : Int) : codeK d p (lenN d) = codeL d p := by
  have cl := codeL_length d p
  simp [codeK, ← cl]
theorem codeL_range {d p : Int} : ∀ x ∈ codeL d p, -1 ≤ x ∧ x ≤ 1 := by
  intro x hx
  obtain ⟨b, hb, rfl⟩ := List.mem_map.1 hx
  obtain ⟨i, _, rfl⟩ := List.mem_map.1 hb
  have := codeB_01 d p i
  omega
def sumE (d p : Int) : AV := if codeErr d p = 0 then tup2 (codeL d p).sum 0 else tup2 0 2
section
variable {C : Ctx}
set_option maxRecDepth 100000 in
set_option maxHeartbeats 2000000 in
theorem Code08_spec (hC : Has C T77) {d p : Int} {h : Heap} (hd : In64 d) (hp : In64 p) : ACalls C 77 [.int .i64 d, .int .i64 p] h (fun r h' => ∃ v, r = lstErr v (codeErr d p) ∧ HSub h h' ∧ RI h' v (if codeErr d p = 0 then codeL d p else [])) := by
  have hp' := hp
  unfold In64 at hp'
  have pe : codeErr d p = if lenOk d = true ∧ 1 ≤ p ∧ p ≤ lenN d + 2 then 0 else 2 := rfl
  by_cases c : lenOk d = true
  · have hl := lenN_eq c
    have eL : lenE d = tup2 (lenN d) 0 := by unfold lenE; rw [if_pos c]
    by_cases cp : 1 ≤ p ∧ p ≤ lenN d + 2
    · rw [if_pos ⟨c, cp⟩] at pe
      rw [pe]
      have t1 : tapsErr d 1 = 0 := by unfold tapsErr; rw [if_pos ⟨c, .inl rfl⟩]
      have t2 : tapsErr d 2 = 0 := by unfold tapsErr; rw [if_pos ⟨c, .inr rfl⟩]
      have lb1 := bitsL_length d 1
      have lb2 := bitsL_length d 2
      have hB : ∀ {w : Int} {h : Heap}, tapsErr d w = 0 → In64 w → ACalls C 75 [.int .i64 d, .int .i64 w] h (fun r h' => ∃ v, r = lstErr v 0 ∧ HSub h h' ∧ RI h' v (bitsL d w)) := by
        intro w h e hw
        refine (Bits08_spec (hC.sub (T' := T75) (by decide)) hd hw).mono ?_
        rintro r h' ⟨v, h1, h2, h3⟩
        rw [e, if_pos rfl] at h3
        exact ⟨v, by rw [h1, e], h2, h3⟩
      (refine calls_intro (hC.body (by decide) tab77) (Nat.le_of_ble_eq_true rfl) ?_); (show wp C _ none B77.code _ _); (simp only [B77]); simp -implicitDefEqProofs (disch := first | assumption | decide | omega | (simp only [wpD1] <;> omega) | (simp only [wpD2] <;> assumption) | solve_by_elim [HSub.refl, HSub.push, HSub.reserve] | fail) only [↓wpPre, wpPost, wpPoly, Int.reduceToNat, Int.reducePow, Int.reduceMul, Int.reduceAdd, Int.reduceSub, Int.reduceNeg, Nat.reduceAdd, Nat.reduceMul, Nat.reducePow, Int.reduceLT, Int.reduceLE, Int.reduceEq, Nat.reduceEqDiff]
      refine ACallsK.eq2 (Length08_spec (hC.sub (T' := T71) (by decide)) hd) eL ?_
      simp -implicitDefEqProofs (disch := first | assumption | decide | omega | (simp only [wpD1] <;> omega) | (simp only [wpD2] <;> assumption) | solve_by_elim [HSub.refl, HSub.push, HSub.reserve] | fail) only [↓wpPre, wpPost, wpPoly, Int.reduceToNat, Int.reducePow, Int.reduceMul, Int.reduceAdd, Int.reduceSub, Int.reduceNeg, Nat.reduceAdd, Nat.reduceMul, Nat.reducePow, Int.reduceLT, Int.reduceLE, Int.reduceEq, Nat.reduceEqDiff, tup2]
      refine ACallsK.of (hB t1 (by unfold In64; omega)) ?_
      rintro r h1 ⟨v1, rfl, s1, R1⟩
      simp -implicitDefEqProofs (disch := first | assumption | decide | omega | (simp only [wpD1] <;> omega) | (simp only [wpD2] <;> assumption) | solve_by_elim [HSub.refl, HSub.push, HSub.reserve] | fail) only [↓wpPre, wpPost, wpPoly, Int.reduceToNat, Int.reducePow, Int.reduceMul, Int.reduceAdd, Int.reduceSub, Int.reduceNeg, Nat.reduceAdd, Nat.reduceMul, Nat.reducePow, Int.reduceLT, Int.reduceLE, Int.reduceEq, Nat.reduceEqDiff, lstErr]
      refine ACallsK.of (hB t2 (by unfold In64; omega)) ?_
      rintro r h2 ⟨v2, rfl, s2, R2⟩
      have R1 := R1.mono s2
      have s12 := s1.trans s2
      simp -implicitDefEqProofs (disch := first | assumption | decide | omega | (simp only [wpD1] <;> omega) | (simp only [wpD2] <;> assumption) | solve_by_elim [HSub.refl, HSub.push, HSub.reserve] | fail) only [↓wpPre, wpPost, wpPoly, Int.reduceToNat, Int.reducePow, Int.reduceMul, Int.reduceAdd, Int.reduceSub, Int.reduceNeg, Nat.reduceAdd, Nat.reduceMul, Nat.reducePow, Int.reduceLT, Int.reduceLE, Int.reduceEq, Nat.reduceEqDiff, lstErr, ints_replicate]
      refine wp_loopI (fun j t h' => ∃ k : Nat, h' = h2.push (.cells (ints (codeK d p k)) true 0) ∧ t 1 = .int .i64 p ∧ t 6 = .int .i64 (lenN d) ∧ t 8 = v1 ∧ t 10 = v2 ∧ t 12 = .slice h2.size 0 (lenN d) (.known (lenN d)) ∧ t 13 = .int .i64 (k : Nat) ∧ k ≤ lenN d ∧ j = lenN d - k) (j0 := lenN d)
        ⟨0, by simp [codeK], rfl, rfl, rfl, rfl, rfl, rfl, by omega, rfl⟩ ?_
      rintro j t h3 ⟨k, rfl, e1, e6, e8, e10, e12, e13, hk, hj⟩
      have lK := codeK_length (p := p) hk
      simp -implicitDefEqProofs (disch := first | assumption | decide | omega | (simp only [wpD1] <;> omega) | (simp only [wpD2] <;> assumption) | solve_by_elim [HSub.refl, HSub.push, HSub.reserve] | fail) only [↓wpPre, wpPost, wpPoly, Int.reduceToNat, Int.reducePow, Int.reduceMul, Int.reduceAdd, Int.reduceSub, Int.reduceNeg, Nat.reduceAdd, Nat.reduceMul, Nat.reducePow, Int.reduceLT, Int.reduceLE, Int.reduceEq, Nat.reduceEqDiff, e6, e13]
      refine Br.by (fun c1 => ?_) (fun c1 => ?_)
      · have hk' : k < lenN d := by omega
        have b1 := bit01_getD (bitsL_01 (d := d) (w := 1)) k
        have b2 := bit01_getD (bitsL_01 (d := d) (w := 2)) k
        have b12 := codeB_01 d p k
        have hst := codeK_set (p := p) hk'
        by_cases p1 : p = 1
        · have hcb : codeB d p k = (bitsL d 1).getD k 0 := by unfold codeB; rw [if_pos p1]
          rw [hcb] at hst
          simp -implicitDefEqProofs (disch := first | assumption | decide | omega | (simp only [wpD1] <;> omega) | (simp only [wpD2] <;> assumption) | solve_by_elim [HSub.refl, HSub.push, HSub.reserve] | fail) only [↓wpPre, wpPost, wpPoly, Int.reduceToNat, Int.reducePow, Int.reduceMul, Int.reduceAdd, Int.reduceSub, Int.reduceNeg, Nat.reduceAdd, Nat.reduceMul, Nat.reducePow, Int.reduceLT, Int.reduceLE, Int.reduceEq, Nat.reduceEqDiff, e1, e6, e8, e10, e12, e13, R1.idx, R1.loadC, hst]
          exact ⟨_, ⟨k + 1, rfl, by simp, by omega, rfl⟩, by omega⟩
        by_cases p2 : p = 2
        · have hcb : codeB d p k = (bitsL d 2).getD k 0 := by unfold codeB; rw [if_neg p1, if_pos p2]
          rw [hcb] at hst
          simp -implicitDefEqProofs (disch := first | assumption | decide | omega | (simp only [wpD1] <;> omega) | (simp only [wpD2] <;> assumption) | solve_by_elim [HSub.refl, HSub.push, HSub.reserve] | fail) only [↓wpPre, wpPost, wpPoly, Int.reduceToNat, Int.reducePow, Int.reduceMul, Int.reduceAdd, Int.reduceSub, Int.reduceNeg, Nat.reduceAdd, Nat.reduceMul, Nat.reducePow, Int.reduceLT, Int.reduceLE, Int.reduceEq, Nat.reduceEqDiff, e1, e6, e8, e10, e12, e13, R2.idx, R2.loadC, hst]
          exact ⟨_, ⟨k + 1, rfl, by simp, by omega, rfl⟩, by omega⟩
        have em : ((k : Int) + p - 3) % (lenN d : Int) = (((k + (p - 3).toNat) % lenN d : Nat) : Int) := by
          rw [show (k : Int) + p - 3 = ((k + (p - 3).toNat : Nat) : Int) by omega]; exact (Int.natCast_emod _ _).symm
        have hm : (k + (p - 3).toNat) % lenN d < lenN d := Nat.mod_lt _ (by omega)
        have ex := xor01 b1 (bit01_getD (bitsL_01 (d := d) (w := 2)) ((k + (p - 3).toNat) % lenN d))
        have hcb : codeB d p k = ((bitsL d 1).getD k 0 + (bitsL d 2).getD ((k + (p - 3).toNat) % lenN d) 0) % 2 := by unfold codeB; rw [if_neg p1, if_neg p2]
        rw [← hcb] at ex
        simp -implicitDefEqProofs (disch := first | assumption | decide | omega | (simp only [wpD1] <;> omega) | (simp only [wpD2] <;> assumption) | solve_by_elim [HSub.refl, HSub.push, HSub.reserve] | fail) only [↓wpPre, wpPost, wpPoly, Int.reduceToNat, Int.reducePow, Int.reduceMul, Int.reduceAdd, Int.reduceSub, Int.reduceNeg, Nat.reduceAdd, Nat.reduceMul, Nat.reducePow, Int.reduceLT, Int.reduceLE, Int.reduceEq, Nat.reduceEqDiff, e1, e6, e8, e10, e12, e13, R1.idx, R1.loadC, R2.idx, R2.loadC, em, ex, hst]
        exact ⟨_, ⟨k + 1, rfl, by simp, by omega, rfl⟩, by omega⟩
      · have ek : k = lenN d := by omega
        have cl := codeL_length d p
        have hcf : codeK d p k = codeL d p := by rw [ek, codeK_full]
        simp -implicitDefEqProofs (disch := first | assumption | decide | omega | (simp only [wpD1] <;> omega) | (simp only [wpD2] <;> assumption) | solve_by_elim [HSub.refl, HSub.push, HSub.reserve] | fail) only [↓wpPre, wpPost, wpPoly, Int.reduceToNat, Int.reducePow, Int.reduceMul, Int.reduceAdd, Int.reduceSub, Int.reduceNeg, Nat.reduceAdd, Nat.reduceMul, Nat.reducePow, Int.reduceLT, Int.reduceLE, Int.reduceEq, Nat.reduceEqDiff, e12]
        exact ⟨_, rfl, s12.push _, by rw [if_pos trivial, ← hcf]; exact RI.known (get_push_eq rfl) ⟨by rw [lK], by omega⟩ (by omega)⟩
    · have cp' : ¬ (lenOk d = true ∧ 1 ≤ p ∧ p ≤ lenN d + 2) := fun h => cp h.2
      rw [if_neg cp'] at pe
      rw [pe]
      (refine calls_intro (hC.body (by decide) tab77) (Nat.le_of_ble_eq_true rfl) ?_); (show wp C _ none B77.code _ _); (simp only [B77]); simp -implicitDefEqProofs (disch := first | assumption | decide | omega | (simp only [wpD1] <;> omega) | (simp only [wpD2] <;> assumption) | solve_by_elim [HSub.refl, HSub.push, HSub.reserve] | fail) only [↓wpPre, wpPost, wpPoly, Int.reduceToNat, Int.reducePow, Int.reduceMul, Int.reduceAdd, Int.reduceSub, Int.reduceNeg, Nat.reduceAdd, Nat.reduceMul, Nat.reducePow, Int.reduceLT, Int.reduceLE, Int.reduceEq, Nat.reduceEqDiff]
      refine ACallsK.eq2 (Length08_spec (hC.sub (T' := T71) (by decide)) hd) eL ?_
      simp -implicitDefEqProofs (disch := first | assumption | decide | omega | (simp only [wpD1] <;> omega) | (simp only [wpD2] <;> assumption) | solve_by_elim [HSub.refl, HSub.push, HSub.reserve] | fail) only [↓wpPre, wpPost, wpPoly, Int.reduceToNat, Int.reducePow, Int.reduceMul, Int.reduceAdd, Int.reduceSub, Int.reduceNeg, Nat.reduceAdd, Nat.reduceMul, Nat.reducePow, Int.reduceLT, Int.reduceLE, Int.reduceEq, Nat.reduceEqDiff, tup2]
      (repeat' (first | (refine Br.by (fun _ => ?_) (fun _ => ?_)) | (simp -implicitDefEqProofs (disch := first | assumption | decide | omega | (simp only [wpD1] <;> omega) | (simp only [wpD2] <;> assumption) | solve_by_elim [HSub.refl, HSub.push, HSub.reserve] | fail) only [↓wpPre, wpPost, wpPoly, Int.reduceToNat, Int.reducePow, Int.reduceMul, Int.reduceAdd, Int.reduceSub, Int.reduceNeg, Nat.reduceAdd, Nat.reduceMul, Nat.reducePow, Int.reduceLT, Int.reduceLE, Int.reduceEq, Nat.reduceEqDiff])))
      all_goals first | exact ⟨.nilslice, by rw [lstErr], HSub.refl _, by rw [if_neg id]; exact RI.nil⟩ | omega
  · have eL : lenE d = tup2 0 2 := by unfold lenE; rw [if_neg c]
    have cp' : ¬ (lenOk d = true ∧ 1 ≤ p ∧ p ≤ lenN d + 2) := fun h => c h.1
    rw [if_neg cp'] at pe
    rw [pe]
    (refine calls_intro (hC.body (by decide) tab77) (Nat.le_of_ble_eq_true rfl) ?_); (show wp C _ none B77.code _ _); (simp only [B77]); simp -implicitDefEqProofs (disch := first | assumption | decide | omega | (simp only [wpD1] <;> omega) | (simp only [wpD2] <;> assumption) | solve_by_elim [HSub.refl, HSub.push, HSub.reserve] | fail) only [↓wpPre, wpPost, wpPoly, Int.reduceToNat, Int.reducePow, Int.reduceMul, Int.reduceAdd, Int.reduceSub, Int.reduceNeg, Nat.reduceAdd, Nat.reduceMul, Nat.reducePow, Int.reduceLT, Int.reduceLE, Int.reduceEq, Nat.reduceEqDiff]
    refine ACallsK.eq2 (Length08_spec (hC.sub (T' := T71) (by decide)) hd) eL ?_
    simp -implicitDefEqProofs (disch := first | assumption | decide | omega | (simp only [wpD1] <;> omega) | (simp only [wpD2] <;> assumption) | solve_by_elim [HSub.refl, HSub.push, HSub.reserve] | fail) only [↓wpPre, wpPost, wpPoly, Int.reduceToNat, Int.reducePow, Int.reduceMul, Int.reduceAdd, Int.reduceSub, Int.reduceNeg, Nat.reduceAdd, Nat.reduceMul, Nat.reducePow, Int.reduceLT, Int.reduceLE, Int.reduceEq, Nat.reduceEqDiff, tup2]
    exact ⟨.nilslice, by rw [lstErr], HSub.refl _, by rw [if_neg id]; exact RI.nil⟩

end
end Go.Ae

/- Samples of codes, of the program. -/
set_option linter.unusedSimpArgs false
set_option linter.unusedVariables false
namespace Go.Ae
def knownErr (d o : Int) : Int := if lenOk d = true ∧ 1 ≤ o ∧ o ≤ 8 then 0 else 2
def sampL (d p : Int) (o : Nat) : List Int := ((codeL d p).map fun x => List.replicate o x).flatten
def sampP (d p : Int) (o k : Nat) : List Int := (((codeL d p).take k).map fun x => List.replicate o x).flatten
theorem sampP_succ {d p : Int} {o k : Nat} (h : k < (codeL d p).length) : sampP d p o (k + 1) = sampP d p o k ++ List.replicate o ((codeL d p).getD k 0) := by
  unfold sampP; rw [take_succ_getD h]; simp
theorem sampP_length {d p : Int} {o : Nat} : ∀ k, k ≤ (codeL d p).length → (sampP d p o k).length = k * o
  | 0, _ => by simp [sampP]
  | k + 1, h => by rw [sampP_succ (by omega), List.length_append, sampP_length k (by omega), List.length_replicate, Nat.add_mul, Nat.one_mul]
theorem sampP_full (d p : Int) (o : Nat) : sampP d p o (codeL d p).length = sampL d p o := by unfold sampP sampL; rw [List.take_length]
section
variable {C : Ctx}
theorem known09_spec (hC : Has C T150) {d o : Int} {h : Heap} (hd : In64 d) (ho : In64 o) : ACalls C 150 [.int .i64 d, .int .i64 o] h (fun r h' => r = .int .i64 (knownErr d o) ∧ h' = h) := by
  unfold In64 at ho
  by_cases c : lenOk d = true
  · have e : lenE d = tup2 (lenN d) 0 := by unfold lenE; rw [if_pos c]
    by_cases co : 1 ≤ o ∧ o ≤ 8
    · have pe : knownErr d o = 0 := by unfold knownErr; rw [if_pos ⟨c, co⟩]
      rw [pe]
      (refine calls_intro (hC.body (by decide) tab150) (Nat.le_of_ble_eq_true rfl) ?_); (show wp C _ none B150.code _ _); (simp only [B150]); simp -implicitDefEqProofs (disch := first | assumption | decide | omega | (simp only [wpD1] <;> omega) | (simp only [wpD2] <;> assumption) | solve_by_elim [HSub.refl, HSub.push, HSub.reserve] | fail) only [↓wpPre, wpPost, wpPoly, Int.reduceToNat, Int.reducePow, Int.reduceMul, Int.reduceAdd, Int.reduceSub, Int.reduceNeg, Nat.reduceAdd, Nat.reduceMul, Nat.reducePow, Int.reduceLT, Int.reduceLE, Int.reduceEq, Nat.reduceEqDiff]
      refine ACallsK.eq2 (Length_spec (hC.sub (T' := T70) (by decide)) hd) e ?_
      simp -implicitDefEqProofs (disch := first | assumption | decide | omega | (simp only [wpD1] <;> omega) | (simp only [wpD2] <;> assumption) | solve_by_elim [HSub.refl, HSub.push, HSub.reserve] | fail) only [↓wpPre, wpPost, wpPoly, Int.reduceToNat, Int.reducePow, Int.reduceMul, Int.reduceAdd, Int.reduceSub, Int.reduceNeg, Nat.reduceAdd, Nat.reduceMul, Nat.reducePow, Int.reduceLT, Int.reduceLE, Int.reduceEq, Nat.reduceEqDiff, tup2]
    · have pe : knownErr d o = 2 := by unfold knownErr; rw [if_neg (fun h => co h.2)]
      rw [pe]
      (refine calls_intro (hC.body (by decide) tab150) (Nat.le_of_ble_eq_true rfl) ?_); (show wp C _ none B150.code _ _); (simp only [B150]); simp -implicitDefEqProofs (disch := first | assumption | decide | omega | (simp only [wpD1] <;> omega) | (simp only [wpD2] <;> assumption) | solve_by_elim [HSub.refl, HSub.push, HSub.reserve] | fail) only [↓wpPre, wpPost, wpPoly, Int.reduceToNat, Int.reducePow, Int.reduceMul, Int.reduceAdd, Int.reduceSub, Int.reduceNeg, Nat.reduceAdd, Nat.reduceMul, Nat.reducePow, Int.reduceLT, Int.reduceLE, Int.reduceEq, Nat.reduceEqDiff]
      refine ACallsK.eq2 (Length_spec (hC.sub (T' := T70) (by decide)) hd) e ?_
      simp -implicitDefEqProofs (disch := first | assumption | decide | omega | (simp only [wpD1] <;> omega) | (simp only [wpD2] <;> assumption) | solve_by_elim [HSub.refl, HSub.push, HSub.reserve] | fail) only [↓wpPre, wpPost, wpPoly, Int.reduceToNat, Int.reducePow, Int.reduceMul, Int.reduceAdd, Int.reduceSub, Int.reduceNeg, Nat.reduceAdd, Nat.reduceMul, Nat.reducePow, Int.reduceLT, Int.reduceLE, Int.reduceEq, Nat.reduceEqDiff, tup2]
      (repeat' (first | (refine Br.by (fun _ => ?_) (fun _ => ?_)) | (simp -implicitDefEqProofs (disch := first | assumption | decide | omega | (simp only [wpD1] <;> omega) | (simp only [wpD2] <;> assumption) | solve_by_elim [HSub.refl, HSub.push, HSub.reserve] | fail) only [↓wpPre, wpPost, wpPoly, Int.reduceToNat, Int.reducePow, Int.reduceMul, Int.reduceAdd, Int.reduceSub, Int.reduceNeg, Nat.reduceAdd, Nat.reduceMul, Nat.reducePow, Int.reduceLT, Int.reduceLE, Int.reduceEq, Nat.reduceEqDiff])))
      all_goals omega
  · have e : lenE d = tup2 0 2 := by unfold lenE; rw [if_neg c]
    have pe : knownErr d o = 2 := by unfold knownErr; rw [if_neg (fun h => c h.1)]
    rw [pe]
    (refine calls_intro (hC.body (by decide) tab150) (Nat.le_of_ble_eq_true rfl) ?_); (show wp C _ none B150.code _ _); (simp only [B150]); simp -implicitDefEqProofs (disch := first | assumption | decide | omega | (simp only [wpD1] <;> omega) | (simp only [wpD2] <;> assumption) | solve_by_elim [HSub.refl, HSub.push, HSub.reserve] | fail) only [↓wpPre, wpPost, wpPoly, Int.reduceToNat, Int.reducePow, Int.reduceMul, Int.reduceAdd, Int.reduceSub, Int.reduceNeg, Nat.reduceAdd, Nat.reduceMul, Nat.reducePow, Int.reduceLT, Int.reduceLE, Int.reduceEq, Nat.reduceEqDiff]
    refine ACallsK.eq2 (Length_spec (hC.sub (T' := T70) (by decide)) hd) e ?_
    simp -implicitDefEqProofs (disch := first | assumption | decide | omega | (simp only [wpD1] <;> omega) | (simp only [wpD2] <;> assumption) | solve_by_elim [HSub.refl, HSub.push, HSub.reserve] | fail) only [↓wpPre, wpPost, wpPoly, Int.reduceToNat, Int.reducePow, Int.reduceMul, Int.reduceAdd, Int.reduceSub, Int.reduceNeg, Nat.reduceAdd, Nat.reduceMul, Nat.reducePow, Int.reduceLT, Int.reduceLE, Int.reduceEq, Nat.reduceEqDiff, tup2]
end
end Go.Ae

/- Two lists that grow side by side. -/
set_option linter.unusedSimpArgs false
set_option linter.unusedVariables false
namespace Go.Ae
def Dj (v w : AV) : Prop := ∀ i, i ∈ v.ids → i ∉ w.ids
theorem Dj.nilL {w : AV} : Dj .nilslice w := fun i hi => by simp [AV.ids] at hi
theorem Dj.nilR {v : AV} : Dj v .nilslice := fun i _ => by simp [AV.ids]
theorem Dj.symm {v w : AV} (h : Dj v w) : Dj w v := fun i hi hv => h i hv hi
section
variable {h0 h H : Heap} {sz sz' n m k k' : Nat} {v w : AV} {cs ds es : List AV} {c : Cap} {x : Int} {l l' : List Int}
theorem Grw.dj (B : Grw h0 h sz w n ds) (hk : h.size ≤ k) : Dj w (.slice k 0 k' c) := by
  obtain ⟨_, _, _, ⟨rfl, rfl⟩ | ⟨i, ex, hi, rfl, hg⟩⟩ := B
  · exact Dj.nilL
  · intro j hj
    have := Heap.lt_of_get hg
    simp only [AV.ids, List.mem_singleton] at hj ⊢
    omega
theorem Grw.keep (A : Grw h0 h sz' v m es) (B : Grw h0 h sz w n ds) (hs : HSub h H) (hd : Dj w v) : Grw h0 (snocH H none v sz' cs) sz w n ds := by
  have hsub : HSub h0 (snocH H none v sz' cs) := by
    obtain ⟨h1, _, _, ⟨rfl, rfl⟩ | ⟨i, ex, hi, rfl, hg⟩⟩ := A
    · exact (h1.trans hs).push _
    · exact ((h1.trans hs).put hi _).push _
  obtain ⟨h1, hl, hn, ⟨rfl, rfl⟩ | ⟨i, ex, hi, rfl, hg⟩⟩ := B
  · exact ⟨hsub, hl, hn, .inl ⟨rfl, rfl⟩⟩
  · refine ⟨hsub, hl, hn, .inr ⟨i, ex, hi, rfl, ?_⟩⟩
    have hlt := Heap.lt_of_get hg
    have hsz := hs.size
    have hH := (hs.get i hlt).trans hg
    obtain ⟨_, _, _, ⟨rfl, rfl⟩ | ⟨j, ex', hj, rfl, hg'⟩⟩ := A
    · exact (get_push_lt (by omega)).trans hH
    · have hne : i ≠ j := fun e => hd i (by simp [AV.ids]) (by simp [AV.ids, e])
      exact (get_push_lt (by simp only [Heap.size_put]; omega)).trans ((get_put_ne hne).trans hH)
theorem Grw.keepS (A : Grw h0 h sz' v m es) (B : Grw h0 h sz w n ds) (hs : HSub h H) (hk : h.size ≤ k ∧ k < H.size) (hd : Dj w v) : Grw h0 (snocH H (some k) v sz' cs) sz w n ds := by
  have hsub : HSub h0 (snocH H (some k) v sz' cs) := by
    have := A.sub.size
    obtain ⟨h1, _, _, ⟨rfl, rfl⟩ | ⟨i, ex, hi, rfl, hg⟩⟩ := A
    · exact (h1.trans hs).put (by omega) _
    · exact ((h1.trans hs).put hi _).put (by omega) _
  obtain ⟨h1, hl, hn, ⟨rfl, rfl⟩ | ⟨i, ex, hi, rfl, hg⟩⟩ := B
  · exact ⟨hsub, hl, hn, .inl ⟨rfl, rfl⟩⟩
  · refine ⟨hsub, hl, hn, .inr ⟨i, ex, hi, rfl, ?_⟩⟩
    have hlt := Heap.lt_of_get hg
    have hH := (hs.get i hlt).trans hg
    obtain ⟨_, _, _, ⟨rfl, rfl⟩ | ⟨j, ex', hj, rfl, hg'⟩⟩ := A
    · exact (get_put_ne (by omega)).trans hH
    · have hne : i ≠ j := fun e => hd i (by simp [AV.ids]) (by simp [AV.ids, e])
      exact (get_put_ne (by omega)).trans ((get_put_ne hne).trans hH)
theorem GrwI.keep (A : GrwI h0 h v l) (B : GrwI h0 h w l') (hs : HSub h H) (hd : Dj w v) : GrwI h0 (snocH H none v 1 (ints (l ++ [x]))) w l' := Grw.keep A B hs hd
theorem GrwI.keepS (A : GrwI h0 h v l) (B : GrwI h0 h w l') (hs : HSub h H) (hk : h.size ≤ k ∧ k < H.size) (hd : Dj w v) : GrwI h0 (snocH H (some k) v 1 (ints (l ++ [x]))) w l' := Grw.keepS A B hs hk hd
theorem GrwI.dj (B : GrwI h0 h w l) (hk : h.size ≤ k) : Dj w (.slice k 0 k' c) := Grw.dj B hk
end
end Go.Ae

/- Lists that grow in a region that draws its order, several at once. -/
set_option linter.unusedSimpArgs false
set_option linter.unusedVariables false
namespace Go.Ae
section
variable {h0 h H : Heap} {sz bytes n m k j x y : Nat} {v : AV} {cs news : List AV} {l : List (Int × Int)} {li : List Int}
theorem Grw.ids_lt (A : Grw h0 h sz v n cs) : ∀ i ∈ v.ids, h0.size ≤ i ∧ i < h.size := by
  obtain ⟨_, _, _, ⟨rfl, rfl⟩ | ⟨i, ex, hi, rfl, hg⟩⟩ := A
  · intro i hi; simp [AV.ids] at hi
  · intro j hj
    simp only [AV.ids, List.mem_singleton] at hj
    subst hj
    exact ⟨hi, Heap.lt_of_get hg⟩
theorem Grw.appG (A : Grw h0 h sz v n cs) (hg : ∀ i ∈ v.ids, H.get i = h.get i) (hk : h.size ≤ k ∧ k < H.size) (hm : m ≠ 0) (hb : (n + m) * bytes ≤ 1099511627776) (h1 : news.all AV.one = true) :
    appendA H (some k) sz bytes v m news = appK k H v (.slice k 0 (n + m) (.unk 0)) sz (cs ++ news) (H.get k) := by
  obtain ⟨_, hl, hn, ⟨rfl, rfl⟩ | ⟨i, ex, hi, rfl, hgi⟩⟩ := A
  · have : cs = [] := List.eq_nil_of_length_eq_zero (by omega)
    subst this
    exact Grw.appS (h0 := Heap.empty) (h := Heap.empty) (cs := []) (n := 0) ⟨HSub.refl _, by simp, by omega, .inl ⟨rfl, rfl⟩⟩ ⟨Nat.zero_le _, fun i hi => absurd hi (Nat.not_lt_zero i)⟩ ⟨Nat.zero_le _, hk.2⟩ hm hb h1
  · have e0 := (hg i (by simp [AV.ids])).trans hgi
    have hlt := Heap.lt_of_get hgi
    have hr : H.room (some k) = ((H.get k).isNone && decide (k < H.size)) := rfl
    simp only [appendA, e0]
    by_cases e : (H.get k).isNone = true
    · have e' : H.get k = none := by simpa using e
      rw [if_pos ⟨trivial, by omega, by rw [List.length_append]; omega, h1, hb, by rw [hr, e]; simpa using hk.2, by omega⟩, cut_pre hl]
      exact (congrArg (appK k H (.slice i 0 n (.unk 0)) (.slice k 0 (n + m) (.unk 0)) sz (cs ++ news)) e').symm
    · rw [if_neg (by rw [hr]; simp [e]), if_neg (by omega)]
      obtain ⟨b, e'⟩ : ∃ b, H.get k = some b := by cases x : H.get k with | none => simp [x] at e | some b => exact ⟨b, rfl⟩
      exact (congrArg (appK k H (.slice i 0 n (.unk 0)) (.slice k 0 (n + m) (.unk 0)) sz (cs ++ news)) e').symm
theorem snocS_size : (snocH H (some k) v sz cs).size = H.size := by unfold snocH; cases v <;> rfl
theorem snocS_same (hk : k < H.size) : (snocH H (some k) v sz cs).get k = some (.cells cs true sz) := by
  unfold snocH
  cases v <;> exact get_put_eq rfl (by simpa using hk)
theorem snocS_ne (hk : j ≠ k) (hv : j ∉ v.ids) : (snocH H (some k) v sz cs).get j = H.get j := by
  unfold snocH
  cases v
  case slice i o n c => exact (get_put_ne hk).trans (get_put_ne (fun e => hv (by simp [AV.ids, e])))
  all_goals exact get_put_ne hk
theorem snocS_sub {hB : Heap} (A : Grw hB h sz v n cs) {ds : List AV} (hs : HSub hB H) (hk : hB.size ≤ k) : HSub hB (snocH H (some k) v sz ds) := by
  obtain ⟨_, _, _, ⟨rfl, rfl⟩ | ⟨i, ex, hi, rfl, hg⟩⟩ := A
  · exact hs.put hk _
  · exact (hs.put hi _).put hk _
theorem GrwS.appG {a b : Int} (A : GrwS h0 h v l) (hg : ∀ i ∈ v.ids, H.get i = h.get i) (hk : h.size ≤ k ∧ k < H.size) (hb : l.length + 1 ≤ 1073741824) : appendA H (some k) 2 16 v 1 [.int .i64 a, .int .i64 b] = appK k H v (.slice k 0 (l.length + 1) (.unk 0)) 2 (smps (l ++ [(a, b)])) (H.get k) := by
  rw [Grw.appG A hg hk (by decide) (by omega) (by rfl), smps_snoc]
theorem GrwS.mk {K : Nat} (hs : HSub h0 h) (hk : h0.size ≤ k) (hl : K = l.length ∧ l.length < 9223372036854775808) (hg : h.get k = some (.cells (smps l) true 2)) : GrwS h0 h (.slice k 0 K (.unk 0)) l := by
  obtain ⟨rfl, hl⟩ := hl
  exact ⟨hs, smps_length, hl, .inr ⟨k, [], hk, rfl, by rw [List.append_nil]; exact hg⟩⟩
theorem SL.fldE {cs : List AV} (A : SL h sz v n cs) : ∀ (k off : Nat), k < n → fieldAddrA off (elA sz v k) = some (elF sz v k off) := by
  intro k off hk
  obtain ⟨_, _, ⟨rfl, h1⟩ | ⟨i, o, c, vs, wr, u, rfl, _⟩⟩ := A
  · omega
  · rfl
theorem SL.loadE {cs : List AV} (A : SL h sz v n cs) {k off : Nat} (hk : k < n) (ho : off < sz) : Ae.loadA h false 1 (elF sz v k off) = cs[k * sz + off]? := by
  obtain ⟨hl, hlt, ⟨rfl, h1⟩ | ⟨i, o, c, vs, wr, u, rfl, hg, hle, hc, _⟩⟩ := A
  · omega
  · have h1 : (k + 1) * sz ≤ n * sz := Nat.mul_le_mul_right sz hk
    have h2 : (k + 1) * sz = k * sz + sz := by rw [Nat.add_mul, Nat.one_mul]
    rw [← hc, cut, List.getElem?_take_of_lt (by omega), List.getElem?_drop]
    simp only [elF, Ae.loadA, hg, partA, Bool.false_eq_true, if_false]
    rw [Nat.add_assoc]
theorem Dj.not {v w : AV} (h : Dj v w) {i : Nat} (hi : i ∈ w.ids) : i ∉ v.ids := fun hv => h i hv hi
end
end Go.Ae

/- Codes with their samples, of the program. -/
set_option linter.unusedSimpArgs false
set_option linter.unusedVariables false
namespace Go.Ae
theorem sampL_length (d p : Int) (o : Nat) : (sampL d p o).length = lenN d * o := by rw [← sampP_full, sampP_length _ (Nat.le_refl _), codeL_length]
def sampErr (d o : Int) (ps : List Int) : Int := if knownErr d o = 0 ∧ ∀ p ∈ ps, codeErr d p = 0 then 0 else 2
def codeCells (vs : List AV) (o : Int) : List AV := vs.flatMap fun v => [v, .int .i64 o]
theorem codeCells_snoc (vs : List AV) (v : AV) (o : Int) : codeCells (vs ++ [v]) o = codeCells vs o ++ [v, .int .i64 o] := by simp [codeCells]
structure CLs (h : Heap) (v : AV) (d o : Int) (ps : List Int) (vs : List AV) : Prop where
  sl : SL h 2 v ps.length (codeCells vs o)
  len : vs.length = ps.length
  ri : ∀ i, i < ps.length → RI h (vs.getD i .nilslice) (sampL d (ps.getD i 0) o.toNat)
theorem CLs.mono {h h' : Heap} {v : AV} {d o : Int} {ps : List Int} {vs : List AV} (H : CLs h v d o ps vs) (hs : HSub h h') : CLs h' v d o ps vs := ⟨H.sl.mono hs, H.len, fun i hi => (H.ri i hi).mono hs⟩
theorem grwI_mk {h0 h : Heap} {k K : Nat} {l : List Int} (hs : HSub h0 h) (hk : h0.size ≤ k) (hl : K = l.length ∧ l.length < 9223372036854775808) (hg : h.get k = some (.cells (ints l) true 1)) : GrwI h0 h (.slice k 0 K (.unk 0)) l := by
  obtain ⟨rfl, hl⟩ := hl
  exact Grw.fresh hs hk hl hg
section
variable {C : Ctx}
set_option maxHeartbeats 4000000 in
set_option maxRecDepth 20000 in
theorem sampled_specF (hC : Has C T142) {d o : Int} {vp : AV} {ps : List Int} {h : Heap} (hd : In64 d) (ho : In64 o) (hp : RI h vp ps) (hx : ∀ x ∈ ps, In64 x) (hpl : ps.length ≤ 1000) :
    ACalls C 142 [.int .i64 d, .int .i64 o, vp] h (fun r h' => ∃ v vs, r = lstErr v (sampErr d o ps) ∧ HSub h h' ∧ (sampErr d o ps = 0 → CLs h' v d o ps vs ∧ ∀ i, i < ps.length → GrwI h h' (vs.getD i .nilslice) (sampL d (ps.getD i 0) o.toNat))) := by
  have hplt := hp.lt
  by_cases ck : knownErr d o = 0
  · have pe : sampErr d o ps = if ∀ p ∈ ps, codeErr d p = 0 then 0 else 2 := by unfold sampErr; simp only [ck, true_and]
    have kr : lenOk d = true ∧ 1 ≤ o ∧ o ≤ 8 := by
      unfold knownErr at ck
      split at ck
      · assumption
      · cases ck
    obtain ⟨q, rfl⟩ := Int.eq_ofNat_of_zero_le (show 0 ≤ o by omega)
    have hN := lenN_eq kr.1
    (refine calls_intro (hC.body (by decide) tab142) (Nat.le_of_ble_eq_true rfl) ?_); (show wp C _ none B142.code _ _); (simp only [B142]); simp -implicitDefEqProofs (disch := first | assumption | decide | omega | (simp only [wpD1] <;> omega) | (simp only [wpD2] <;> assumption) | solve_by_elim [HSub.refl, HSub.push, HSub.reserve] | fail) only [↓wpPre, wpPost, wpPoly, Int.reduceToNat, Int.reducePow, Int.reduceMul, Int.reduceAdd, Int.reduceSub, Int.reduceNeg, Nat.reduceAdd, Nat.reduceMul, Nat.reducePow, Int.reduceLT, Int.reduceLE, Int.reduceEq, Nat.reduceEqDiff]
    refine ACallsK.eq (known09_spec (hC.sub (T' := T150) (by decide)) hd ho) ?_
    rw [ck]
    simp -implicitDefEqProofs (disch := first | assumption | decide | omega | (simp only [wpD1] <;> omega) | (simp only [wpD2] <;> assumption) | solve_by_elim [HSub.refl, HSub.push, HSub.reserve] | fail) only [↓wpPre, wpPost, wpPoly, Int.reduceToNat, Int.reducePow, Int.reduceMul, Int.reduceAdd, Int.reduceSub, Int.reduceNeg, Nat.reduceAdd, Nat.reduceMul, Nat.reducePow, Int.reduceLT, Int.reduceLE, Int.reduceEq, Nat.reduceEqDiff, hp.len]
    refine wp_loopI (fun j t h' => ∃ (k : Nat) (vs : List AV), Grw h h' 2 (t 9) k (codeCells vs (q : Nat)) ∧ vs.length = k ∧ (∀ i, i < k → GrwI h h' (vs.getD i .nilslice) (sampL d (ps.getD i 0) q) ∧ Dj (vs.getD i .nilslice) (t 9)) ∧ (∀ i, i < k → codeErr d (ps.getD i 0) = 0) ∧
      t 0 = .int .i64 d ∧ t 1 = .int .i64 (q : Nat) ∧ t 23 = vp ∧ t 24 = .int .i64 (ps.length : Nat) ∧ t 25 = .int .i64 (k : Nat) ∧ k ≤ ps.length ∧ j = ps.length - k) (j0 := ps.length)
      ⟨0, [], Grw.nil _ _, rfl, fun i hi => by omega, fun i hi => by omega, rfl, rfl, rfl, rfl, rfl, by omega, rfl⟩ ?_
    rintro j t h2 ⟨k, vs, A, hvl, hvs, hce, e0, e1, e23, e24, e25, hk, hj⟩
    simp -implicitDefEqProofs (disch := first | assumption | decide | omega | (simp only [wpD1] <;> omega) | (simp only [wpD2] <;> assumption) | solve_by_elim [HSub.refl, HSub.push, HSub.reserve] | fail) only [↓wpPre, wpPost, wpPoly, Int.reduceToNat, Int.reducePow, Int.reduceMul, Int.reduceAdd, Int.reduceSub, Int.reduceNeg, Nat.reduceAdd, Nat.reduceMul, Nat.reducePow, Int.reduceLT, Int.reduceLE, Int.reduceEq, Nat.reduceEqDiff, e24, e25]
    refine Br.by (fun c1 => ?_) (fun c1 => ?_)
    · have hk' : k < ps.length := by omega
      have hp2 := hp.mono A.sub
      have hxk := hx _ (getD_mem hk')
      obtain ⟨p, hpd⟩ : ∃ p, p = ps.getD k 0 := ⟨_, rfl⟩
      have hld := hp2.load hk'
      rw [← hpd] at hld hxk
      have hcode := Code_spec (hC.sub (T' := T76) (by decide)) (h := h2) hd hxk
      simp -implicitDefEqProofs (disch := first | assumption | decide | omega | (simp only [wpD1] <;> omega) | (simp only [wpD2] <;> assumption) | solve_by_elim [HSub.refl, HSub.push, HSub.reserve] | fail) only [↓wpPre, wpPost, wpPoly, Int.reduceToNat, Int.reducePow, Int.reduceMul, Int.reduceAdd, Int.reduceSub, Int.reduceNeg, Nat.reduceAdd, Nat.reduceMul, Nat.reducePow, Int.reduceLT, Int.reduceLE, Int.reduceEq, Nat.reduceEqDiff, e0, e1, e23, e25, hp2.idx, hld]
      refine ACallsK.of hcode ?_
      rintro r h3 ⟨v1, rfl, s1, R1, _⟩
      by_cases cc : codeErr d p = 0
      · rw [cc, if_pos rfl] at R1
        rw [cc]
        have cl := codeL_length d p
        simp -implicitDefEqProofs (disch := first | assumption | decide | omega | (simp only [wpD1] <;> omega) | (simp only [wpD2] <;> assumption) | solve_by_elim [HSub.refl, HSub.push, HSub.reserve] | fail) only [↓wpPre, wpPost, wpPoly, Int.reduceToNat, Int.reducePow, Int.reduceMul, Int.reduceAdd, Int.reduceSub, Int.reduceNeg, Nat.reduceAdd, Nat.reduceMul, Nat.reducePow, Int.reduceLT, Int.reduceLE, Int.reduceEq, Nat.reduceEqDiff, lstErr, e1, R1.len, cl]
        have R1' := R1.mono (HSub.push1 h3 (.cells [.nilslice, .int .i64 (q : Nat)] true 0))
        refine wp_loopI (fun j t' h' => ∃ (i : Nat) (w : AV), GrwI h3 h' w (sampP d p q i) ∧ Dj (.ptr h3.size 0) w ∧ h'.get h3.size = some (.cells [w, .int .i64 (q : Nat)] true 0) ∧ h3.size + 1 ≤ h'.size ∧
          t' 0 = .int .i64 d ∧ t' 1 = .int .i64 (q : Nat) ∧ t' 9 = t 9 ∧ t' 14 = .ptr h3.size 0 ∧ t' 23 = vp ∧ t' 24 = .int .i64 (ps.length : Nat) ∧ t' 25 = .int .i64 (k : Nat) ∧ t' 40 = v1 ∧ t' 41 = .int .i64 (lenN d : Nat) ∧ t' 42 = .int .i64 (i : Nat) ∧ i ≤ lenN d ∧ j = lenN d - i) (j0 := lenN d)
          ⟨0, .nilslice, GrwI.nil' (HSub.push1 _ _), Dj.nilR, get_push_eq rfl, by simp, e0, e1, rfl, rfl, e23, e24, e25, rfl, rfl, rfl, by omega, rfl⟩ ?_
        rintro j t' h4 ⟨i, w, B, dj, gb, hsz, e0', e1', e9', e14', e23', e24', e25', e40', e41', e42', hi, hj'⟩
        simp -implicitDefEqProofs (disch := first | assumption | decide | omega | (simp only [wpD1] <;> omega) | (simp only [wpD2] <;> assumption) | solve_by_elim [HSub.refl, HSub.push, HSub.reserve] | fail) only [↓wpPre, wpPost, wpPoly, Int.reduceToNat, Int.reducePow, Int.reduceMul, Int.reduceAdd, Int.reduceSub, Int.reduceNeg, Nat.reduceAdd, Nat.reduceMul, Nat.reducePow, Int.reduceLT, Int.reduceLE, Int.reduceEq, Nat.reduceEqDiff, e41', e42']
        refine Br.by (fun c2 => ?_) (fun c2 => ?_)
        · have hi' : i < lenN d := by omega
          have R4 := R1.mono B.sub
          have hl4 := R4.load (k := i) (by omega)
          obtain ⟨x, hx⟩ : ∃ x, x = (codeL d p).getD i 0 := ⟨_, rfl⟩
          rw [← hx] at hl4
          have rep := fun (H : Heap) (hg : H.get (h4.size + 3) = some (.cells [.int .i64 x] true 0)) => Repeat_spec (hC.sub (T' := T90) (by decide)) (v := .slice (h4.size + 3) 0 1 (.known 1)) (x := x) (n := q) (h := H) (RI.known hg ⟨rfl, by decide⟩ (by decide)) (by omega)
          simp -implicitDefEqProofs (disch := first | assumption | decide | omega | (simp only [wpD1] <;> omega) | (simp only [wpD2] <;> assumption) | solve_by_elim [HSub.refl, HSub.push, HSub.reserve] | fail) only [↓wpPre, wpPost, wpPoly, Int.reduceToNat, Int.reducePow, Int.reduceMul, Int.reduceAdd, Int.reduceSub, Int.reduceNeg, Nat.reduceAdd, Nat.reduceMul, Nat.reducePow, Int.reduceLT, Int.reduceLE, Int.reduceEq, Nat.reduceEqDiff, e1', e14', e40', e42', R4.idx, hl4, gb, Heap.wf]
          refine ACallsK.hide (fun H hH => ?_)
          have N : H.size = h4.size + 9 := by rw [hH]; simp -implicitDefEqProofs (disch := first | assumption | decide | omega | (simp only [wpD1] <;> omega) | (simp only [wpD2] <;> assumption) | solve_by_elim [HSub.refl, HSub.push, HSub.reserve] | fail) only [↓wpPre, wpPost, wpPoly, Int.reduceToNat, Int.reducePow, Int.reduceMul, Int.reduceAdd, Int.reduceSub, Int.reduceNeg, Nat.reduceAdd, Nat.reduceMul, Nat.reducePow, Int.reduceLT, Int.reduceLE, Int.reduceEq, Nat.reduceEqDiff]
          have g3 : H.get (h4.size + 3) = some (.cells [.int .i64 x] true 0) := by rw [hH]; simp -implicitDefEqProofs (disch := first | assumption | decide | omega | (simp only [wpD1] <;> omega) | (simp only [wpD2] <;> assumption) | solve_by_elim [HSub.refl, HSub.push, HSub.reserve] | fail) only [↓wpPre, wpPost, wpPoly, Int.reduceToNat, Int.reducePow, Int.reduceMul, Int.reduceAdd, Int.reduceSub, Int.reduceNeg, Nat.reduceAdd, Nat.reduceMul, Nat.reducePow, Int.reduceLT, Int.reduceLE, Int.reduceEq, Nat.reduceEqDiff]
          have gn : H.get (h4.size + 6) = none := by rw [hH]; simp -implicitDefEqProofs (disch := first | assumption | decide | omega | (simp only [wpD1] <;> omega) | (simp only [wpD2] <;> assumption) | solve_by_elim [HSub.refl, HSub.push, HSub.reserve] | fail) only [↓wpPre, wpPost, wpPoly, Int.reduceToNat, Int.reducePow, Int.reduceMul, Int.reduceAdd, Int.reduceSub, Int.reduceNeg, Nat.reduceAdd, Nat.reduceMul, Nat.reducePow, Int.reduceLT, Int.reduceLE, Int.reduceEq, Nat.reduceEqDiff, Heap.wf]
          have hs4 : HSub h4 H := by rw [hH]; exact (by repeat (first | exact HSub.refl _ | refine HSub.put ?_ (by (try simp only [Heap.size_put, Heap.size_push, Heap.size_reserve]); omega) _ | refine HSub.push ?_ _ | refine HSub.reserve ?_ _))
          clear hH
          refine ACallsK.of (rep H g3) ?_
          rintro r h5 F
          have F' := F
          obtain ⟨s5, fl, i5, hi5, rfl, g5⟩ := F'
          have z5 := s5.size
          have gb5 : h5.get h3.size = some (.cells [w, .int .i64 (q : Nat)] true 0) := (s5.get _ (by omega)).trans ((hs4.get _ (by omega)).trans gb)
          have gb6 : H.get h3.size = some (.cells [w, .int .i64 (q : Nat)] true 0) := (hs4.get _ (by omega)).trans gb
          have gn5 : h5.get (h4.size + 6) = none := (s5.get _ (by omega)).trans gn
          have sp := sampP_succ (d := d) (p := p) (o := q) (k := i) (by omega)
          rw [← hx] at sp
          have sl := sampP_length (d := d) (p := p) (o := q) i (by omega)
          have iq : i * q ≤ 1023 * 8 := Nat.mul_le_mul (by omega) (by omega)
          have ap := Grw.appG (H := h5) (k := h4.size + 6) (m := q) (bytes := 8) (news := ints (List.replicate q x)) B (fun j hj => (s5.get _ (by have := (Grw.ids_lt B j hj).2; omega)).trans (hs4.get _ (Grw.ids_lt B j hj).2)) ⟨by omega, by omega⟩ (by omega) (by rw [sl]; omega) ints_one
          rw [ints_append, ← sp] at ap
          have cF := F.ri.content
          simp only [List.length_replicate] at cF
          have cN : (List.replicate q x).length = q := List.length_replicate
          have hw : h3.size ∉ w.ids := dj _ (by simp [AV.ids])
          have gS : (snocH h5 (some (h4.size + 6)) w 1 (ints (sampP d p q (i + 1)))).get h3.size = some (.cells [w, .int .i64 (q : Nat)] true 0) := (snocS_ne (by omega) hw).trans gb5
          have zS : (snocH h5 (some (h4.size + 6)) w 1 (ints (sampP d p q (i + 1)))).size = h5.size := snocS_size
          have rS : (snocH h5 (some (h4.size + 6)) w 1 (ints (sampP d p q (i + 1)))).get (h4.size + 6) = some (.cells (ints (sampP d p q (i + 1))) true 1) := snocS_same (by omega)
          have bS := snocS_sub (k := h4.size + 6) (ds := ints (sampP d p q (i + 1))) B ((B.sub.trans hs4).trans s5) (by have := B.sub.size; omega)
          have sl2 := sampP_length (d := d) (p := p) (o := q) (i + 1) (by omega)
          have iq2 : (i + 1) * q ≤ 1023 * 8 := Nat.mul_le_mul (by omega) (by omega)
          have slq : (sampP d p q i).length + q = (sampP d p q (i + 1)).length := by rw [sp, List.length_append, List.length_replicate]
          simp -implicitDefEqProofs (disch := first | assumption | decide | omega | (simp only [wpD1] <;> omega) | (simp only [wpD2] <;> assumption) | solve_by_elim [HSub.refl, HSub.push, HSub.reserve] | fail) only [↓wpPre, wpPost, wpPoly, Int.reduceToNat, Int.reducePow, Int.reduceMul, Int.reduceAdd, Int.reduceSub, Int.reduceNeg, Nat.reduceAdd, Nat.reduceMul, Nat.reducePow, Int.reduceLT, Int.reduceLE, Int.reduceEq, Nat.reduceEqDiff, cN, gb5, gb6, gn5, cF, ap, appK_none, e14']
          refine ⟨gb.symm, ?_⟩
          simp -implicitDefEqProofs (disch := first | assumption | decide | omega | (simp only [wpD1] <;> omega) | (simp only [wpD2] <;> assumption) | solve_by_elim [HSub.refl, HSub.push, HSub.reserve] | fail) only [↓wpPre, wpPost, wpPoly, Int.reduceToNat, Int.reducePow, Int.reduceMul, Int.reduceAdd, Int.reduceSub, Int.reduceNeg, Nat.reduceAdd, Nat.reduceMul, Nat.reducePow, Int.reduceLT, Int.reduceLE, Int.reduceEq, Nat.reduceEqDiff, gS, e0', e1', e9', e14', e23', e24', e25', e40', e41', e42']
          refine ⟨_, ⟨i + 1, _, grwI_mk (bS.put (Nat.le_refl _) _) (by have := B.sub.size; omega) ⟨slq, by omega⟩ ((get_put_ne (by omega)).trans rS), ?_, rfl, by rw [zS]; omega, by simp, by omega, rfl⟩, by omega⟩
          intro j hj
          simp only [AV.ids, List.mem_singleton] at hj ⊢
          omega
        · have ei : i = lenN d := by omega
          subst ei
          have wone : w.one = true := (Grw.sl B).one
          have full : sampP d p q (lenN d) = sampL d p q := by rw [← sampP_full, codeL_length]
          rw [full] at B
          have A4 := A.mono (s1.trans B.sub)
          have hn1 : [w, AV.int .i64 (q : Nat)].all AV.one = true := by simp [wone, one_int]
          have ap := fun b => Grw.app A4 (bytes := 32) (m := 1) (news := [w, .int .i64 (q : Nat)]) (HSub.push1 h4 b) (by decide) (by omega) hn1
          have A5 := fun b => Grw.snoc A4 (m := 1) (news := [w, .int .i64 (q : Nat)]) (HSub.push1 h4 b) rfl (by omega)
          rw [← codeCells_snoc] at ap A5
          simp -implicitDefEqProofs (disch := first | assumption | decide | omega | (simp only [wpD1] <;> omega) | (simp only [wpD2] <;> assumption) | solve_by_elim [HSub.refl, HSub.push, HSub.reserve] | fail) only [↓wpPre, wpPost, wpPoly, Int.reduceToNat, Int.reducePow, Int.reduceMul, Int.reduceAdd, Int.reduceSub, Int.reduceNeg, Nat.reduceAdd, Nat.reduceMul, Nat.reducePow, Int.reduceLT, Int.reduceLE, Int.reduceEq, Nat.reduceEqDiff, e9', e14', gb, cont_slice, contB_two, ap, e0', e1', e23', e24', e25']
          have B0 : GrwI h h4 w (sampL d p q) := B.base (A.sub.trans s1)
          have z1 := s1.size
          have z4 := B.sub.size
          have dw : Dj w (t 9) := fun j hj hj9 => by
            have q1 := (Grw.ids_lt B j hj).1
            have q2 := (Grw.ids_lt A j hj9).2
            omega
          refine ⟨_, ⟨k + 1, vs ++ [w], A5 _, by simp [hvl], fun i hi => ?_, fun i hi => ?_, by simp, by omega, rfl⟩, by omega⟩
          · rcases Nat.lt_or_ge i k with x | x
            · have e : (vs ++ [w]).getD i .nilslice = vs.getD i .nilslice := by simp [List.getD_eq_getElem?_getD, List.getElem?_append_left (show i < vs.length by omega)]
              rw [e]
              have B1 := (hvs i x).1.mono (s1.trans B.sub)
              exact ⟨Grw.keep A4 B1 (HSub.push1 _ _) (hvs i x).2, Grw.dj B1 (by omega)⟩
            · have ei : i = k := by omega
              subst ei
              have e : (vs ++ [w]).getD i .nilslice = w := by simp [List.getD_eq_getElem?_getD, ← hvl]
              rw [e, ← hpd]
              exact ⟨Grw.keep A4 B0 (HSub.push1 _ _) dw, Grw.dj B0 (by omega)⟩
          · rcases Nat.lt_or_ge i k with x | x
            · exact hce i x
            · have ei : i = k := by omega
              subst ei
              rw [← hpd]; exact cc
      · have c2 : codeErr d p = 2 := by unfold codeErr at cc ⊢; split at cc <;> first | exact absurd rfl cc | (rename_i h; rw [if_neg h])
        rw [c2]
        simp -implicitDefEqProofs (disch := first | assumption | decide | omega | (simp only [wpD1] <;> omega) | (simp only [wpD2] <;> assumption) | solve_by_elim [HSub.refl, HSub.push, HSub.reserve] | fail) only [↓wpPre, wpPost, wpPoly, Int.reduceToNat, Int.reducePow, Int.reduceMul, Int.reduceAdd, Int.reduceSub, Int.reduceNeg, Nat.reduceAdd, Nat.reduceMul, Nat.reducePow, Int.reduceLT, Int.reduceLE, Int.reduceEq, Nat.reduceEqDiff, lstErr]
        have hne : ¬ ∀ p ∈ ps, codeErr d p = 0 := fun h => cc (h _ (by rw [hpd]; exact getD_mem hk'))
        rw [pe, if_neg hne]
        exact ⟨_, [], rfl, A.sub.trans s1, fun h => by cases h⟩
    · have ek : k = ps.length := by omega
      subst ek
      have hall : ∀ p ∈ ps, codeErr d p = 0 := fun p hp => by
        obtain ⟨i, hi, rfl⟩ := List.mem_iff_getElem.1 hp
        have := hce i hi
        rwa [List.getD_eq_getElem?_getD, List.getElem?_eq_getElem hi] at this
      rw [pe, if_pos hall]
      simp -implicitDefEqProofs (disch := first | assumption | decide | omega | (simp only [wpD1] <;> omega) | (simp only [wpD2] <;> assumption) | solve_by_elim [HSub.refl, HSub.push, HSub.reserve] | fail) only [↓wpPre, wpPost, wpPoly, Int.reduceToNat, Int.reducePow, Int.reduceMul, Int.reduceAdd, Int.reduceSub, Int.reduceNeg, Nat.reduceAdd, Nat.reduceMul, Nat.reducePow, Int.reduceLT, Int.reduceLE, Int.reduceEq, Nat.reduceEqDiff]
      exact ⟨_, vs, rfl, A.sub, fun _ => ⟨⟨A.sl, hvl, fun i hi => by rw [Int.toNat_natCast]; exact (hvs i hi).1.ri⟩, fun i hi => (hvs i hi).1⟩⟩
  · have pe : sampErr d o ps = 2 := by unfold sampErr; rw [if_neg (fun h => ck h.1)]
    have ck2 : knownErr d o = 2 := by unfold knownErr at ck ⊢; split at ck <;> first | exact absurd rfl ck | (rename_i h; rw [if_neg h])
    rw [pe]
    (refine calls_intro (hC.body (by decide) tab142) (Nat.le_of_ble_eq_true rfl) ?_); (show wp C _ none B142.code _ _); (simp only [B142]); simp -implicitDefEqProofs (disch := first | assumption | decide | omega | (simp only [wpD1] <;> omega) | (simp only [wpD2] <;> assumption) | solve_by_elim [HSub.refl, HSub.push, HSub.reserve] | fail) only [↓wpPre, wpPost, wpPoly, Int.reduceToNat, Int.reducePow, Int.reduceMul, Int.reduceAdd, Int.reduceSub, Int.reduceNeg, Nat.reduceAdd, Nat.reduceMul, Nat.reducePow, Int.reduceLT, Int.reduceLE, Int.reduceEq, Nat.reduceEqDiff]
    refine ACallsK.eq (known09_spec (hC.sub (T' := T150) (by decide)) hd ho) ?_
    rw [ck2]
    simp -implicitDefEqProofs (disch := first | assumption | decide | omega | (simp only [wpD1] <;> omega) | (simp only [wpD2] <;> assumption) | solve_by_elim [HSub.refl, HSub.push, HSub.reserve] | fail) only [↓wpPre, wpPost, wpPoly, Int.reduceToNat, Int.reducePow, Int.reduceMul, Int.reduceAdd, Int.reduceSub, Int.reduceNeg, Nat.reduceAdd, Nat.reduceMul, Nat.reducePow, Int.reduceLT, Int.reduceLE, Int.reduceEq, Nat.reduceEqDiff]
    exact ⟨_, [], rfl, HSub.refl _⟩
theorem sampled_spec (hC : Has C T142) {d o : Int} {vp : AV} {ps : List Int} {h : Heap} (hd : In64 d) (ho : In64 o) (hp : RI h vp ps) (hx : ∀ x ∈ ps, In64 x) (hpl : ps.length ≤ 1000) :
    ACalls C 142 [.int .i64 d, .int .i64 o, vp] h (fun r h' => ∃ v vs, r = lstErr v (sampErr d o ps) ∧ HSub h h' ∧ (sampErr d o ps = 0 → CLs h' v d o ps vs)) :=
  (sampled_specF hC hd ho hp hx hpl).mono fun _ _ ⟨v, vs, q1, q2, q3⟩ => ⟨v, vs, q1, q2, fun e => (q3 e).1⟩
end
end Go.Ae

/- The samples of a code, of the program; the samples by their places. -/
set_option linter.unusedSimpArgs false
set_option linter.unusedVariables false
namespace Go.Ae
theorem sampP_eq (d p : Int) {o : Nat} (ho : 1 ≤ o) : ∀ k, k ≤ lenN d → sampP d p o k = (List.range (k * o)).map fun i => (codeL d p).getD (i / o) 0
  | 0, _ => by simp [sampP]
  | k + 1, h => by
    have hl := codeL_length d p
    rw [sampP_succ (by omega), sampP_eq d p ho k (by omega), Nat.add_mul, Nat.one_mul, List.range_add, List.map_append]
    congr 1
    rw [List.map_map]
    refine List.ext_getElem (by simp) fun i h1 h2 => ?_
    have hi : i < o := by simpa using h1
    simp only [List.getElem_replicate, List.getElem_map, List.getElem_range, Function.comp]
    rw [Nat.mul_comm k o, Nat.mul_add_div (by omega), Nat.div_eq_of_lt hi, Nat.add_zero]
theorem sampL_eq (d p : Int) {o : Nat} (ho : 1 ≤ o) : sampL d p o = (List.range (lenN d * o)).map fun i => (codeL d p).getD (i / o) 0 := by
  rw [← sampP_full, codeL_length, sampP_eq d p ho _ (Nat.le_refl _)]
theorem sampErr_one (d o p : Int) : sampErr d o [p] = if knownErr d o = 0 ∧ codeErr d p = 0 then 0 else 2 := by simp [sampErr]
section
variable {C : Ctx}
theorem SamplesC_spec (hC : Has C T131) {d o p : Int} {h : Heap} (hd : In64 d) (ho : In64 o) (hp : In64 p) :
    ACalls C 131 [.int .i64 d, .int .i64 o, .int .i64 p] h (fun r h' => ∃ v, r = lstErr v (sampErr d o [p]) ∧ HSub h h' ∧ RI h' v (if sampErr d o [p] = 0 then sampL d p o.toNat else [])) := by
  have hsd := fun (h : Heap) (i : Nat) (hg : h.get i = some (.cells [.int .i64 p] true 0)) => sampled_spec (hC.sub (T' := T142) (by decide)) (vp := .slice i 0 1 (.known 1)) (ps := [p]) (h := h) hd ho (RI.known hg ⟨rfl, by decide⟩ (by decide)) (by simpa using hp) (by simp)
  (refine calls_intro (hC.body (by decide) tab131) (Nat.le_of_ble_eq_true rfl) ?_); (show wp C _ none B131.code _ _); (simp only [B131]); simp -implicitDefEqProofs (disch := first | assumption | decide | omega | (simp only [wpD1] <;> omega) | (simp only [wpD2] <;> assumption) | solve_by_elim [HSub.refl, HSub.push, HSub.reserve] | fail) only [↓wpPre, wpPost, wpPoly, Int.reduceToNat, Int.reducePow, Int.reduceMul, Int.reduceAdd, Int.reduceSub, Int.reduceNeg, Nat.reduceAdd, Nat.reduceMul, Nat.reducePow, Int.reduceLT, Int.reduceLE, Int.reduceEq, Nat.reduceEqDiff]
  refine ACallsK.of (hsd _ _ (get_push_eq rfl)) ?_
  rintro r h1 ⟨v, vs, rfl, s1, hcl⟩
  by_cases c : sampErr d o [p] = 0
  · have cl := hcl c
    rw [c, if_pos rfl]
    obtain ⟨w, rfl⟩ : ∃ w, vs = [w] := by
      have := cl.len
      match vs, this with
      | [w], _ => exact ⟨w, rfl⟩
    have ld := cl.sl.loadE (k := 0) (off := 0) (by simp) (by decide)
    rw [show (codeCells [w] o)[0 * 2 + 0]? = some w from rfl] at ld
    have ix : idxA 2 v (.int .i64 0) = some (elA 2 v 0) := cl.sl.idx (k := 0) (by simp)
    have fx : fieldAddrA 0 (elA 2 v 0) = some (elF 2 v 0 0) := cl.sl.fldE 0 0 (by simp)
    simp -implicitDefEqProofs (disch := first | assumption | decide | omega | (simp only [wpD1] <;> omega) | (simp only [wpD2] <;> assumption) | solve_by_elim [HSub.refl, HSub.push, HSub.reserve] | fail) only [↓wpPre, wpPost, wpPoly, Int.reduceToNat, Int.reducePow, Int.reduceMul, Int.reduceAdd, Int.reduceSub, Int.reduceNeg, Nat.reduceAdd, Nat.reduceMul, Nat.reducePow, Int.reduceLT, Int.reduceLE, Int.reduceEq, Nat.reduceEqDiff, lstErr, ix, fx, ld]
    exact ⟨_, rfl, (HSub.push1 _ _).trans s1, cl.ri 0 (by simp)⟩
  · have e2 : sampErr d o [p] = 2 := by unfold sampErr at c ⊢; split at c <;> first | exact absurd rfl c | (rename_i h; rw [if_neg h])
    rw [e2, if_neg (by decide)]
    simp -implicitDefEqProofs (disch := first | assumption | decide | omega | (simp only [wpD1] <;> omega) | (simp only [wpD2] <;> assumption) | solve_by_elim [HSub.refl, HSub.push, HSub.reserve] | fail) only [↓wpPre, wpPost, wpPoly, Int.reduceToNat, Int.reducePow, Int.reduceMul, Int.reduceAdd, Int.reduceSub, Int.reduceNeg, Nat.reduceAdd, Nat.reduceMul, Nat.reducePow, Int.reduceLT, Int.reduceLE, Int.reduceEq, Nat.reduceEqDiff, lstErr]
    exact ⟨_, rfl, (HSub.push1 _ _).trans s1, RI.nil⟩
end
end Go.Ae

/- Parts of placements and their greatest sum, in plain numbers. -/
set_option linter.unusedSimpArgs false
set_option linter.unusedVariables false
namespace Go.Ae
def pf (a b : List Int) (m s : Int) : Nat → Int
  | 0 => 0
  | k + 1 => pf a b m s k + a.getD k 0 * b.getD (min ((k : Int) - m + a.length + s) ((a.length : Int) - 1)).toNat 0
def ps (a b : List Int) (m : Nat) : Nat → Int
  | 0 => 0
  | k + 1 => ps a b m k + a.getD (m + k) 0 * b.getD k 0
def one1 (l : List Int) : Prop := ∀ x ∈ l, -1 ≤ x ∧ x ≤ 1
theorem one1.get {l : List Int} (h : one1 l) (i : Nat) : -1 ≤ l.getD i 0 ∧ l.getD i 0 ≤ 1 := by
  by_cases c : i < l.length
  · exact h _ (getD_mem c)
  · rw [List.getD_eq_getElem?_getD, List.getElem?_eq_none (by omega)]; decide
def plc (a b : List Int) (s : Int) (m : Nat) : Int := max (pf a b m s m) (-pf a b m s m) + max (ps a b m (a.length - m)) (-ps a b m (a.length - m))
def gM (a b : List Int) (s : Int) (lo : Nat) : Nat → Int → Int
  | 0, x => x
  | k + 1, x => max (gM a b s lo k x) (plc a b s (lo + k))
def lastM (n : Nat) (mg s : Int) : Int := if 0 < mg then n + s - mg else n + min s 0
def cntM (n : Nat) (mg s : Int) : Nat := (lastM n mg s + 1 - mg).toNat
def greatI (a b : List Int) (mg : Nat) : Int := gM a b 1 mg (cntM a.length mg 1) (gM a b 0 mg (cntM a.length mg 0) (gM a b (-1) mg (cntM a.length mg (-1)) 0))
theorem sampL_one1 (d p : Int) (o : Nat) : one1 (sampL d p o) := by
  intro x hx
  unfold sampL at hx
  obtain ⟨l, hl, hxl⟩ := List.mem_flatten.1 hx
  obtain ⟨y, hy, rfl⟩ := List.mem_map.1 hl
  have := codeL_range y hy
  rw [(List.mem_replicate.1 hxl).2]; exact this
end Go.Ae

/- Correlators, in plain numbers. -/
set_option linter.unusedSimpArgs false
set_option linter.unusedVariables false
namespace Go.Ae
def inS (B : Int) (x : Int × Int) : Prop := (-B ≤ x.1 ∧ x.1 ≤ B) ∧ (-B ≤ x.2 ∧ x.2 ≤ B)
instance (B : Int) (x : Int × Int) : Decidable (inS B x) := by unfold inS; exact inferInstance
def addP (x y : Int × Int) : Int × Int := (x.1 + y.1, x.2 + y.2)
def powP (x : Int × Int) : Int := IntKind.i64.wrap (IntKind.i64.wrap (x.1 * x.1) + IntKind.i64.wrap (x.2 * x.2))
def smE (l : List (Int × Int)) (most : Nat) : Int := if most < l.length then 4 else if ∀ x ∈ l, inS 1048576 x then 0 else 2
def spinK (l : List (Int × Int)) (st : Int) : Nat → Int × Int
  | 0 => (0, 0)
  | k + 1 => addP (spinK l st k) (mixP (l.getD k (0, 0)) (carP (phI 0 st k)))
theorem mix_le {x t : Int × Int} {B : Int} (hx : inS B x) (ht : -127 ≤ t.1 ∧ t.1 ≤ 127 ∧ -127 ≤ t.2 ∧ t.2 ≤ 127) : inS (2 * (B * 127)) (mixP x t) := by
  have a1 := mul_le127 hx.1 ⟨ht.1, ht.2.1⟩
  have a2 := mul_le127 hx.2 ⟨ht.2.2.1, ht.2.2.2⟩
  have a3 := mul_le127 hx.2 ⟨ht.1, ht.2.1⟩
  have a4 := mul_le127 hx.1 ⟨ht.2.2.1, ht.2.2.2⟩
  unfold inS mixP
  simp only
  omega
theorem spinK_le {l : List (Int × Int)} {st : Int} (h : ∀ x ∈ l, inS 1048576 x) : ∀ k : Nat, k ≤ l.length → inS (k * 266338304) (spinK l st k)
  | 0, _ => by simp [inS, spinK]
  | k + 1, hk => by
    have ih := spinK_le (st := st) h k (by omega)
    have hm := mix_le (h _ (getP_mem (l := l) (k := k) (by omega))) (carP_le (phI_u32 0 st k))
    rw [spinK]
    unfold inS addP at *
    simp only
    omega
def stepP (l : List (Int × Int)) (bins : Int) (j : Nat) : Int := powP (spinK l ((j : Int) * (4294967296 / bins) % 4294967296) l.length)
def stepsL (l : List (Int × Int)) (bins : Int) (k : Nat) : List Int := (List.range k).map fun j => stepP l bins j
theorem stepsL_length (l : List (Int × Int)) (bins : Int) (k : Nat) : (stepsL l bins k).length = k := by simp [stepsL]
theorem stepsL_succ (l : List (Int × Int)) (bins : Int) (k : Nat) : stepsL l bins (k + 1) = stepsL l bins k ++ [stepP l bins k] := by simp [stepsL, List.range_succ]
def binsOk (b : Int) : Prop := b = 1 ∨ b = 2 ∨ b = 4 ∨ b = 8 ∨ b = 16 ∨ b = 32 ∨ b = 64
instance (b : Int) : Decidable (binsOk b) := by unfold binsOk; exact inferInstance
def stepsE (l : List (Int × Int)) (b : Int) : Int := if smE l 16 ≠ 0 then smE l 16 else if binsOk b then 0 else 3
def bestK (l : List (Int × Int)) : Nat → Nat
  | 0 => 0
  | k + 1 => if powP (l.getD (bestK l k) (0, 0)) < powP (l.getD k (0, 0)) then k else bestK l k
theorem bestK_lt (l : List (Int × Int)) : ∀ k, bestK l k ≤ k - 1
  | 0 => by simp [bestK]
  | k + 1 => by
    have := bestK_lt l k
    rw [bestK]; split <;> omega
def bestE (l : List (Int × Int)) : Int := if l.length = 0 then 3 else smE l 8192
end Go.Ae

/- Sums of levels with codes, in plain numbers. -/
set_option linter.unusedSimpArgs false
set_option linter.unusedVariables false
namespace Go.Ae
def atP (s : List (Int × Int)) (i : Int) : Int × Int := if i < 0 ∨ (s.length : Int) ≤ i then (0, 0) else s.getD i.toNat (0, 0)
def mulP (x : Int × Int) (c : Int) : Int × Int := (x.1 * c, x.2 * c)
def sumK (s : List (Int × Int)) (c : List Int) (a : Int) : Nat → Int × Int
  | 0 => (0, 0)
  | k + 1 => addP (sumK s c a k) (mulP (atP s (a + (k : Nat))) (c.getD k 0))
def sumP (s : List (Int × Int)) (c : List Int) (a : Int) : Int × Int := sumK s c a c.length
theorem inS_mono {A B : Int} {x : Int × Int} (h : inS A x) (hB : A ≤ B) : inS B x := by unfold inS at *; omega
theorem inS_add {A B : Int} {x y : Int × Int} (h : inS A x) (h' : inS B y) : inS (A + B) (addP x y) := by unfold inS addP at *; simp only; omega
theorem atP_le {s : List (Int × Int)} (h : ∀ x ∈ s, inS 127 x) (i : Int) : inS 127 (atP s i) := by
  unfold atP
  split
  · unfold inS; simp
  · exact h _ (getP_mem (by omega))
theorem mul_one {x c B : Int} (hx : -B ≤ x ∧ x ≤ B) (hc : -1 ≤ c ∧ c ≤ 1) : -B ≤ x * c ∧ x * c ≤ B := by
  rcases (show c = -1 ∨ c = 0 ∨ c = 1 by omega) with rfl | rfl | rfl <;> omega
theorem mulP_le {x : Int × Int} {c B : Int} (hx : inS B x) (hc : -1 ≤ c ∧ c ≤ 1) : inS B (mulP x c) := ⟨mul_one hx.1 hc, mul_one hx.2 hc⟩
theorem sumK_le {s : List (Int × Int)} {c : List Int} {a : Int} (hs : ∀ x ∈ s, inS 127 x) (hc : one1 c) : ∀ k : Nat, inS (127 * k) (sumK s c a k)
  | 0 => by unfold inS sumK; simp
  | k + 1 => by
    have := inS_add (sumK_le (a := a) hs hc k) (mulP_le (atP_le hs (a + (k : Nat))) (hc.get k))
    rw [sumK]
    exact inS_mono this (by omega)
theorem atP_in {s : List (Int × Int)} {i : Int} (h0 : 0 ≤ i) (h1 : i < s.length) : atP s i = s.getD i.toNat (0, 0) := by unfold atP; rw [if_neg (by omega)]
def bankErr (s : List (Int × Int)) (d o p a : Int) : Int := if 1048576 < s.length then 4 else if ¬ ∀ x ∈ s, inS 127 x then 2 else if sampErr d o [p] ≠ 0 then 2 else if a < -2000000 ∨ 2000000 < a then 2 else 0
def manyE (e many most : Int) : Int := if e ≠ 0 then e else if many < 0 ∨ most < many then 2 else 0
def bankL (s : List (Int × Int)) (c : List Int) (a w : Int) (k : Nat) : List (Int × Int) := (List.range k).map fun j => sumP s c (a + (j : Nat) * w)
theorem bankL_length (s : List (Int × Int)) (c : List Int) (a w : Int) (k : Nat) : (bankL s c a w k).length = k := by simp [bankL]
theorem bankL_succ (s : List (Int × Int)) (c : List Int) (a w : Int) (k : Nat) : bankL s c a w (k + 1) = bankL s c a w k ++ [sumP s c (a + (k : Nat) * w)] := by simp [bankL, List.range_succ]
theorem bankZ_set {s : List (Int × Int)} {c : List Int} {a w : Int} {m k : Nat} (h : k < m) : (bankL s c a w k ++ List.replicate (m - k) (0, 0)).set k (sumP s c (a + (k : Nat) * w)) = bankL s c a w (k + 1) ++ List.replicate (m - (k + 1)) (0, 0) := by
  rw [List.set_append_right _ _ (by rw [bankL_length]; omega), bankL_length, Nat.sub_self, show m - k = m - (k + 1) + 1 by omega, List.replicate_succ, List.set_cons_zero, bankL_succ, List.append_assoc]
  rfl
end Go.Ae

/- The carrier's functions, waves, mixes. -/
set_option linter.unusedSimpArgs false
set_option linter.unusedVariables false
namespace Go.Ae
section
variable {C : Ctx}
theorem entry_runs : (List.range 64).all (fun k => runsAs (tabIn T146) 1000 60 146 [.int .i64 (k : Nat)] (smp (carr k))) = true := by kernel_rfl
theorem entry_spec (hC : Has C T146) {k : Nat} {h : Heap} (hk : k < 64) : ACalls C 146 [.int .i64 (k : Nat)] h (fun r h' => r = smp (carr k) ∧ h' = h) :=
  runsAs_sound (tabIn_ok hC) (by simp [AV.free, AV.bel]) (smp_free _) (List.all_eq_true.1 entry_runs k (by simpa using hk)) h
theorem Carrier_spec (hC : Has C T135) {ph : Int} {h : Heap} (hp : U32 ph) : ACalls C 135 [.int .u32 ph] h (fun r h' => r = smp (carP ph) ∧ h' = h) := by
  refine ACalls.gc0 (P := fun r h' => r = smp (carP ph) ∧ HSub h h') ?_ (fun r h' hp => ⟨by rw [hp.1]; exact smp_free _, hp.2, hp.1, rfl⟩)
  unfold U32 at hp
  unfold carP
  obtain ⟨k, hk⟩ := Int.eq_ofNat_of_zero_le (show 0 ≤ ph / 67108864 by omega)
  rw [hk, Int.toNat_natCast]
  have hk' : k < 64 := by omega
  (refine calls_intro (hC.body (by decide) tab135) (Nat.le_of_ble_eq_true rfl) ?_); (show wp C _ none B135.code _ _); (simp only [B135]); simp -implicitDefEqProofs (disch := first | assumption | decide | omega | (simp only [wpD1] <;> omega) | (simp only [wpD2] <;> assumption) | solve_by_elim [HSub.refl, HSub.push, HSub.reserve] | fail) only [↓wpPre, wpPost, wpPoly, Int.reduceToNat, Int.reducePow, Int.reduceMul, Int.reduceAdd, Int.reduceSub, Int.reduceNeg, Nat.reduceAdd, Nat.reduceMul, Nat.reducePow, Int.reduceLT, Int.reduceLE, Int.reduceEq, Nat.reduceEqDiff, hk]
  refine ACallsK.eq (entry_spec (hC.sub (T' := T146) (by decide)) hk') ?_
  simp -implicitDefEqProofs (disch := first | assumption | decide | omega | (simp only [wpD1] <;> omega) | (simp only [wpD2] <;> assumption) | solve_by_elim [HSub.refl, HSub.push, HSub.reserve] | fail) only [↓wpPre, wpPost, wpPoly, Int.reduceToNat, Int.reducePow, Int.reduceMul, Int.reduceAdd, Int.reduceSub, Int.reduceNeg, Nat.reduceAdd, Nat.reduceMul, Nat.reducePow, Int.reduceLT, Int.reduceLE, Int.reduceEq, Nat.reduceEqDiff, smp]
  exact HSub.push1 _ _
/-! ### Waves -/
end
end Go.Ae

/- Waves of the program and of the reference. -/
set_option linter.unusedSimpArgs false
set_option linter.unusedVariables false
namespace Go.Ae
def waveErr (n : Int) : Int := if n < 0 ∨ 100000 < n then 2 else 0
def waveK (a s : Int) (m k : Nat) : List (Int × Int) := waveL a s k ++ List.replicate (m - k) (0, 0)
def KnownCap (v : AV) : Prop := v = .nilslice ∨ ∃ i o n c, v = .slice i o n (.known c)
theorem SL.dropK {h : Heap} {sz n a : Nat} {v : AV} {cs : List AV} {kk : IntKind} (H : SL h sz v n cs) (K : KnownCap v) (ha : a ≤ n) : ∃ v', (∀ h', sliceA h' sz v (some (.int kk (a : Nat))) none none = some v') ∧ SL h sz v' (n - a) (cs.drop (a * sz)) := by
  obtain ⟨hl, hlt, ⟨rfl, rfl⟩ | ⟨i, o, cp, vs, wr, u, rfl, hg, hle, hc, hcap⟩⟩ := H
  · have : a = 0 := by omega
    subst this
    have : cs = [] := List.eq_nil_of_length_eq_zero (by omega)
    subst this
    exact ⟨.nilslice, fun _ => rfl, by simp, by omega, .inl ⟨rfl, rfl⟩⟩
  · obtain ⟨c, rfl⟩ : ∃ c, cp = .known c := by
      rcases K with K | ⟨_, _, _, c, K⟩
      · cases K
      · cases K; exact ⟨c, rfl⟩
    dsimp only at hcap
    have hbd : boundsA n c (some (.int kk (a : Nat))) none none = some (a, n, c) := bounds_ok (len := n) (cap := c) (a := a) (b := n) (c := c) rfl rfl rfl ⟨ha, hcap, Nat.le_refl _⟩
    refine ⟨.slice i (if c = a then o else o + a * sz) (n - a) (.known (c - a)), fun _ => by simp only [sliceA, hbd], ?_⟩
    have hm : a * sz ≤ n * sz := Nat.mul_le_mul_right _ ha
    have hs : (n - a) * sz = n * sz - a * sz := Nat.sub_mul _ _ _
    refine ⟨by rw [List.length_drop, hl, hs], by omega, .inr ⟨i, _, _, vs, wr, u, rfl, hg, ?_, ?_, by dsimp only; omega⟩⟩
    · split
      · rename_i e; have : n - a = 0 := by omega
        rw [this]; omega
      · omega
    · subst hc
      split
      · rename_i e; have : n = a := by omega
        subst this
        simp [cut]
      · simp only [cut, List.drop_take, List.drop_drop, hs]
theorem SI.dropK {h : Heap} {v : AV} {l : List (Int × Int)} {a : Nat} {kk : IntKind} (H : SI h v l) (K : KnownCap v) (ha : a ≤ l.length) : ∃ v', (∀ h', sliceA h' 2 v (some (.int kk (a : Nat))) none none = some v') ∧ SI h v' (l.drop a) := by
  obtain ⟨v', e, q⟩ := SL.dropK (kk := kk) H K ha
  refine ⟨v', e, ?_⟩
  rw [smps_drop] at q
  unfold SI
  rwa [List.length_drop]
section
variable {C : Ctx}
end
end Go.Ae

/- Mixes of the program and of the reference. -/
set_option linter.unusedSimpArgs false
set_option linter.unusedVariables false
namespace Go.Ae
def wipeE (p : Int × Int) (ph : Int) : AV := if smallP p then .tuple [smp (mixP p (carP ph)), .int .i64 0] else .tuple [smp (0, 0), .int .i64 2]
theorem wipeE_free (p : Int × Int) (ph : Int) : (wipeE p ph).free := by
  unfold wipeE
  split <;> exact free_tuple (by simp [smp, AV.free, AV.bel, AV.bels])
section
variable {C : Ctx}
theorem small147_spec (hC : Has C T147) {p : Int × Int} {h : Heap} : ACalls C 147 [smp p] h (fun r h' => r = .bool (decide (smallP p)) ∧ h' = h) := by
  refine ACalls.gc0 (P := fun r h' => r = .bool (decide (smallP p)) ∧ HSub h h') ?_ (fun r h' hp => ⟨by rw [hp.1]; trivial, hp.2, hp.1, rfl⟩)
  obtain ⟨x, y⟩ := p
  unfold smp smallP
  (refine calls_intro (hC.body (by decide) tab147) (Nat.le_of_ble_eq_true rfl) ?_); (show wp C _ none B147.code _ _); (simp only [B147]); simp -implicitDefEqProofs (disch := first | assumption | decide | omega | (simp only [wpD1] <;> omega) | (simp only [wpD2] <;> assumption) | solve_by_elim [HSub.refl, HSub.push, HSub.reserve] | fail) only [↓wpPre, wpPost, wpPoly, Int.reduceToNat, Int.reducePow, Int.reduceMul, Int.reduceAdd, Int.reduceSub, Int.reduceNeg, Nat.reduceAdd, Nat.reduceMul, Nat.reducePow, Int.reduceLT, Int.reduceLE, Int.reduceEq, Nat.reduceEqDiff]
  (repeat' (first | (refine Br.by (fun _ => ?_) (fun _ => ?_)) | (simp -implicitDefEqProofs (disch := first | assumption | decide | omega | (simp only [wpD1] <;> omega) | (simp only [wpD2] <;> assumption) | solve_by_elim [HSub.refl, HSub.push, HSub.reserve] | fail) only [↓wpPre, wpPost, wpPoly, Int.reduceToNat, Int.reducePow, Int.reduceMul, Int.reduceAdd, Int.reduceSub, Int.reduceNeg, Nat.reduceAdd, Nat.reduceMul, Nat.reducePow, Int.reduceLT, Int.reduceLE, Int.reduceEq, Nat.reduceEqDiff])))
  all_goals first
    | exact ⟨by congr 1; apply decide_eq_decide.2; constructor <;> intro q <;> omega, HSub.push1 _ _⟩
    | (refine ⟨?_, HSub.push1 _ _⟩; congr 1; first | (rw [eq_comm]; apply decide_eq_false; omega) | (rw [eq_comm]; apply decide_eq_true; omega))
theorem Wipe_spec (hC : Has C T137) {p : Int × Int} {ph : Int} {h : Heap} (hp : U32 ph) : ACalls C 137 [smp p, .int .u32 ph] h (fun r h' => r = wipeE p ph ∧ h' = h) := by
  refine ACalls.gc0 (P := fun r h' => r = wipeE p ph ∧ HSub h h') ?_ (fun r h' hp => ⟨by rw [hp.1]; exact wipeE_free _ _, hp.2, hp.1, rfl⟩)
  have hc := carP_le hp
  have hsm := fun h => small147_spec (p := p) (h := h) (hC.sub (T' := T147) (by decide))
  have hca := fun h => Carrier_spec (h := h) (hC.sub (T' := T135) (by decide)) hp
  unfold wipeE
  obtain ⟨x, y⟩ := p
  generalize carP ph = q at hc hca ⊢
  obtain ⟨u, w⟩ := q
  unfold smp at hsm hca ⊢
  by_cases c : smallP (x, y)
  · rw [if_pos c]
    have c' := c
    unfold smallP at c'
    have m1 := mul_le127 c'.1 ⟨hc.1, hc.2.1⟩
    have m2 := mul_le127 c'.2 ⟨hc.2.2.1, hc.2.2.2⟩
    have m3 := mul_le127 c'.2 ⟨hc.1, hc.2.1⟩
    have m4 := mul_le127 c'.1 ⟨hc.2.2.1, hc.2.2.2⟩
    simp only at m1 m2 m3 m4 c'
    (refine calls_intro (hC.body (by decide) tab137) (Nat.le_of_ble_eq_true rfl) ?_); (show wp C _ none B137.code _ _); (simp only [B137]); simp -implicitDefEqProofs (disch := first | assumption | decide | omega | (simp only [wpD1] <;> omega) | (simp only [wpD2] <;> assumption) | solve_by_elim [HSub.refl, HSub.push, HSub.reserve] | fail) only [↓wpPre, wpPost, wpPoly, Int.reduceToNat, Int.reducePow, Int.reduceMul, Int.reduceAdd, Int.reduceSub, Int.reduceNeg, Nat.reduceAdd, Nat.reduceMul, Nat.reducePow, Int.reduceLT, Int.reduceLE, Int.reduceEq, Nat.reduceEqDiff]
    refine ACallsK.eq (hsm _) ?_
    simp -implicitDefEqProofs (disch := first | assumption | decide | omega | (simp only [wpD1] <;> omega) | (simp only [wpD2] <;> assumption) | solve_by_elim [HSub.refl, HSub.push, HSub.reserve] | fail) only [↓wpPre, wpPost, wpPoly, Int.reduceToNat, Int.reducePow, Int.reduceMul, Int.reduceAdd, Int.reduceSub, Int.reduceNeg, Nat.reduceAdd, Nat.reduceMul, Nat.reducePow, Int.reduceLT, Int.reduceLE, Int.reduceEq, Nat.reduceEqDiff]
    refine ACallsK.eq (hca _) ?_
    simp -implicitDefEqProofs (disch := first | assumption | decide | omega | (simp only [wpD1] <;> omega) | (simp only [wpD2] <;> assumption) | solve_by_elim [HSub.refl, HSub.push, HSub.reserve] | fail) only [↓wpPre, wpPost, wpPoly, Int.reduceToNat, Int.reducePow, Int.reduceMul, Int.reduceAdd, Int.reduceSub, Int.reduceNeg, Nat.reduceAdd, Nat.reduceMul, Nat.reducePow, Int.reduceLT, Int.reduceLE, Int.reduceEq, Nat.reduceEqDiff]
    exact ⟨rfl, ((HSub.push1 _ _).push _).push _⟩
  · rw [if_neg c]
    (refine calls_intro (hC.body (by decide) tab137) (Nat.le_of_ble_eq_true rfl) ?_); (show wp C _ none B137.code _ _); (simp only [B137]); simp -implicitDefEqProofs (disch := first | assumption | decide | omega | (simp only [wpD1] <;> omega) | (simp only [wpD2] <;> assumption) | solve_by_elim [HSub.refl, HSub.push, HSub.reserve] | fail) only [↓wpPre, wpPost, wpPoly, Int.reduceToNat, Int.reducePow, Int.reduceMul, Int.reduceAdd, Int.reduceSub, Int.reduceNeg, Nat.reduceAdd, Nat.reduceMul, Nat.reducePow, Int.reduceLT, Int.reduceLE, Int.reduceEq, Nat.reduceEqDiff]
    refine ACallsK.eq (hsm _) ?_
    simp -implicitDefEqProofs (disch := first | assumption | decide | omega | (simp only [wpD1] <;> omega) | (simp only [wpD2] <;> assumption) | solve_by_elim [HSub.refl, HSub.push, HSub.reserve] | fail) only [↓wpPre, wpPost, wpPoly, Int.reduceToNat, Int.reducePow, Int.reduceMul, Int.reduceAdd, Int.reduceSub, Int.reduceNeg, Nat.reduceAdd, Nat.reduceMul, Nat.reducePow, Int.reduceLT, Int.reduceLE, Int.reduceEq, Nat.reduceEqDiff]
    exact (HSub.push1 _ _).push _
end
end Go.Ae

/- Small lists of complex integers, spins and powers, of the program and of the reference. -/
set_option linter.unusedSimpArgs false
set_option linter.unusedVariables false
namespace Go.Ae
section
variable {C : Ctx}
theorem inside_spec (hC : Has C T300) {p : Int × Int} {B : Int} {h : Heap} (hB : 0 ≤ B ∧ B ≤ 4294967296) : ACalls C 300 [smp p, .int .i64 B] h (fun r h' => r = .bool (decide (inS B p)) ∧ h' = h) := by
  refine ACalls.gc0 (P := fun r h' => r = .bool (decide (inS B p)) ∧ HSub h h') ?_ (fun r h' hp => ⟨by rw [hp.1]; trivial, hp.2, hp.1, rfl⟩)
  obtain ⟨x, y⟩ := p
  unfold smp inS
  (refine calls_intro (hC.body (by decide) tab300) (Nat.le_of_ble_eq_true rfl) ?_); (show wp C _ none B300.code _ _); (simp only [B300]); simp -implicitDefEqProofs (disch := first | assumption | decide | omega | (simp only [wpD1] <;> omega) | (simp only [wpD2] <;> assumption) | solve_by_elim [HSub.refl, HSub.push, HSub.reserve] | fail) only [↓wpPre, wpPost, wpPoly, Int.reduceToNat, Int.reducePow, Int.reduceMul, Int.reduceAdd, Int.reduceSub, Int.reduceNeg, Nat.reduceAdd, Nat.reduceMul, Nat.reducePow, Int.reduceLT, Int.reduceLE, Int.reduceEq, Nat.reduceEqDiff]
  (repeat' (first | (refine Br.by (fun _ => ?_) (fun _ => ?_)) | (simp -implicitDefEqProofs (disch := first | assumption | decide | omega | (simp only [wpD1] <;> omega) | (simp only [wpD2] <;> assumption) | solve_by_elim [HSub.refl, HSub.push, HSub.reserve] | fail) only [↓wpPre, wpPost, wpPoly, Int.reduceToNat, Int.reducePow, Int.reduceMul, Int.reduceAdd, Int.reduceSub, Int.reduceNeg, Nat.reduceAdd, Nat.reduceMul, Nat.reducePow, Int.reduceLT, Int.reduceLE, Int.reduceEq, Nat.reduceEqDiff])))
  all_goals first
    | exact ⟨by congr 1; apply decide_eq_decide.2; constructor <;> intro q <;> omega, HSub.push1 _ _⟩
    | (refine ⟨?_, HSub.push1 _ _⟩; congr 1; first | (rw [eq_comm]; apply decide_eq_false; omega) | (rw [eq_comm]; apply decide_eq_true; omega))
theorem out299_spec (hC : Has C T299) {p : Int × Int} {h : Heap} : ACalls C 299 [smp p] h (fun r h' => r = .bool (!decide (inS 1048576 p)) ∧ h' = h) := by
  refine ACalls.gc0 (P := fun r h' => r = .bool (!decide (inS 1048576 p)) ∧ HSub h h') ?_ (fun r h' hp => ⟨by rw [hp.1]; trivial, hp.2, hp.1, rfl⟩)
  have hI := fun h => inside_spec (p := p) (B := 1048576) (h := h) (hC.sub (T' := T300) (by decide)) (by omega)
  obtain ⟨x, y⟩ := p
  unfold smp at hI ⊢
  (refine calls_intro (hC.body (by decide) tab299) (Nat.le_of_ble_eq_true rfl) ?_); (show wp C _ none B299.code _ _); (simp only [B299]); simp -implicitDefEqProofs (disch := first | assumption | decide | omega | (simp only [wpD1] <;> omega) | (simp only [wpD2] <;> assumption) | solve_by_elim [HSub.refl, HSub.push, HSub.reserve] | fail) only [↓wpPre, wpPost, wpPoly, Int.reduceToNat, Int.reducePow, Int.reduceMul, Int.reduceAdd, Int.reduceSub, Int.reduceNeg, Nat.reduceAdd, Nat.reduceMul, Nat.reducePow, Int.reduceLT, Int.reduceLE, Int.reduceEq, Nat.reduceEqDiff]
  refine ACallsK.eq (hI _) ?_
  simp -implicitDefEqProofs (disch := first | assumption | decide | omega | (simp only [wpD1] <;> omega) | (simp only [wpD2] <;> assumption) | solve_by_elim [HSub.refl, HSub.push, HSub.reserve] | fail) only [↓wpPre, wpPost, wpPoly, Int.reduceToNat, Int.reducePow, Int.reduceMul, Int.reduceAdd, Int.reduceSub, Int.reduceNeg, Nat.reduceAdd, Nat.reduceMul, Nat.reducePow, Int.reduceLT, Int.reduceLE, Int.reduceEq, Nat.reduceEqDiff]
  exact HSub.push1 _ _
theorem out302_spec (hC : Has C T302) {p : Int × Int} {h : Heap} : ACalls C 302 [smp p] h (fun r h' => r = .bool (!decide (inS 127 p)) ∧ h' = h) := by
  refine ACalls.gc0 (P := fun r h' => r = .bool (!decide (inS 127 p)) ∧ HSub h h') ?_ (fun r h' hp => ⟨by rw [hp.1]; trivial, hp.2, hp.1, rfl⟩)
  have hI := fun h => inside_spec (p := p) (B := 127) (h := h) (hC.sub (T' := T300) (by decide)) (by omega)
  obtain ⟨x, y⟩ := p
  unfold smp at hI ⊢
  (refine calls_intro (hC.body (by decide) tab302) (Nat.le_of_ble_eq_true rfl) ?_); (show wp C _ none B302.code _ _); (simp only [B302]); simp -implicitDefEqProofs (disch := first | assumption | decide | omega | (simp only [wpD1] <;> omega) | (simp only [wpD2] <;> assumption) | solve_by_elim [HSub.refl, HSub.push, HSub.reserve] | fail) only [↓wpPre, wpPost, wpPoly, Int.reduceToNat, Int.reducePow, Int.reduceMul, Int.reduceAdd, Int.reduceSub, Int.reduceNeg, Nat.reduceAdd, Nat.reduceMul, Nat.reducePow, Int.reduceLT, Int.reduceLE, Int.reduceEq, Nat.reduceEqDiff]
  refine ACallsK.eq (hI _) ?_
  simp -implicitDefEqProofs (disch := first | assumption | decide | omega | (simp only [wpD1] <;> omega) | (simp only [wpD2] <;> assumption) | solve_by_elim [HSub.refl, HSub.push, HSub.reserve] | fail) only [↓wpPre, wpPost, wpPoly, Int.reduceToNat, Int.reducePow, Int.reduceMul, Int.reduceAdd, Int.reduceSub, Int.reduceNeg, Nat.reduceAdd, Nat.reduceMul, Nat.reducePow, Int.reduceLT, Int.reduceLE, Int.reduceEq, Nat.reduceEqDiff]
  exact HSub.push1 _ _
theorem containsF_spec (hC : Has C T255) {v : AV} {l : List (Int × Int)} {g : Nat} {P : Int × Int → Prop} [DecidablePred P] {h : Heap} (hg : ∀ p h, ACalls C g [smp p] h (fun r h' => r = .bool (!decide (P p)) ∧ h' = h)) (hl : SI h v l) :
    ACalls C 255 [v, .func g [] []] h (fun r h' => r = .bool (!decide (∀ x ∈ l, P x)) ∧ h' = h) := by
  have hlt := hl.lt
  have hI : ACalls C 260 [v, .func g [] []] h (fun r h' => (∃ i : Int, r = .int .i64 i ∧ -1 ≤ i ∧ (0 ≤ i ↔ ¬ ∀ x ∈ l, P x)) ∧ h' = h) := by
    have hC' : Has C T260 := (hC.sub (T' := T260) (by decide))
    have hC := hC'
    (refine calls_intro (hC.body (by decide) tab260) (Nat.le_of_ble_eq_true rfl) ?_); (show wp C _ none B260.code _ _); (simp only [B260]); simp -implicitDefEqProofs (disch := first | assumption | decide | omega | (simp only [wpD1] <;> omega) | (simp only [wpD2] <;> assumption) | solve_by_elim [HSub.refl, HSub.push, HSub.reserve] | fail) only [↓wpPre, wpPost, wpPoly, Int.reduceToNat, Int.reducePow, Int.reduceMul, Int.reduceAdd, Int.reduceSub, Int.reduceNeg, Nat.reduceAdd, Nat.reduceMul, Nat.reducePow, Int.reduceLT, Int.reduceLE, Int.reduceEq, Nat.reduceEqDiff, hl.len]
    refine wp_loopI (fun j t h' => h' = h ∧ ∃ k : Nat, t 0 = v ∧ t 1 = .func g [] [] ∧ t 7 = .int .i64 (l.length : Nat) ∧ t 8 = .int .i64 (k : Nat) ∧ (∀ i, i < k → P (l.getD i (0, 0))) ∧ k ≤ l.length ∧ j = l.length - k) (j0 := l.length)
      ⟨rfl, 0, rfl, rfl, rfl, rfl, fun i hi => by omega, by omega, rfl⟩ ?_
    rintro j t h1 ⟨rfl, k, e0, e1, e7, e8, hp, hk, hj⟩
    simp -implicitDefEqProofs (disch := first | assumption | decide | omega | (simp only [wpD1] <;> omega) | (simp only [wpD2] <;> assumption) | solve_by_elim [HSub.refl, HSub.push, HSub.reserve] | fail) only [↓wpPre, wpPost, wpPoly, Int.reduceToNat, Int.reducePow, Int.reduceMul, Int.reduceAdd, Int.reduceSub, Int.reduceNeg, Nat.reduceAdd, Nat.reduceMul, Nat.reducePow, Int.reduceLT, Int.reduceLE, Int.reduceEq, Nat.reduceEqDiff, e7, e8]
    refine Br.by (fun c => ?_) (fun c => ?_)
    · have hk' : k < l.length := by omega
      have ld := hl.loadA hk'
      simp -implicitDefEqProofs (disch := first | assumption | decide | omega | (simp only [wpD1] <;> omega) | (simp only [wpD2] <;> assumption) | solve_by_elim [HSub.refl, HSub.push, HSub.reserve] | fail) only [↓wpPre, wpPost, wpPoly, Int.reduceToNat, Int.reducePow, Int.reduceMul, Int.reduceAdd, Int.reduceSub, Int.reduceNeg, Nat.reduceAdd, Nat.reduceMul, Nat.reducePow, Int.reduceLT, Int.reduceLE, Int.reduceEq, Nat.reduceEqDiff, e0, e1, e8, hl.idx, ld]
      refine ACallsK.eq (hg _ _) ?_
      by_cases c2 : P (l.getD k (0, 0))
      · simp -implicitDefEqProofs (disch := first | assumption | decide | omega | (simp only [wpD1] <;> omega) | (simp only [wpD2] <;> assumption) | solve_by_elim [HSub.refl, HSub.push, HSub.reserve] | fail) only [↓wpPre, wpPost, wpPoly, Int.reduceToNat, Int.reducePow, Int.reduceMul, Int.reduceAdd, Int.reduceSub, Int.reduceNeg, Nat.reduceAdd, Nat.reduceMul, Nat.reducePow, Int.reduceLT, Int.reduceLE, Int.reduceEq, Nat.reduceEqDiff, c2, e0, e1, e7, e8]
        refine ⟨_, ⟨k + 1, by simp, fun i hi => ?_, by omega, rfl⟩, by omega⟩
        rcases Nat.lt_or_ge i k with x | x
        · exact hp i x
        · have : i = k := by omega
          subst this; exact c2
      · simp -implicitDefEqProofs (disch := first | assumption | decide | omega | (simp only [wpD1] <;> omega) | (simp only [wpD2] <;> assumption) | solve_by_elim [HSub.refl, HSub.push, HSub.reserve] | fail) only [↓wpPre, wpPost, wpPoly, Int.reduceToNat, Int.reducePow, Int.reduceMul, Int.reduceAdd, Int.reduceSub, Int.reduceNeg, Nat.reduceAdd, Nat.reduceMul, Nat.reducePow, Int.reduceLT, Int.reduceLE, Int.reduceEq, Nat.reduceEqDiff, c2, e0, e1, e7, e8]
        refine ⟨by omega, ⟨fun _ q => c2 (q _ (getP_mem hk')), fun _ => by omega⟩⟩
    · have ek : k = l.length := by omega
      simp -implicitDefEqProofs (disch := first | assumption | decide | omega | (simp only [wpD1] <;> omega) | (simp only [wpD2] <;> assumption) | solve_by_elim [HSub.refl, HSub.push, HSub.reserve] | fail) only [↓wpPre, wpPost, wpPoly, Int.reduceToNat, Int.reducePow, Int.reduceMul, Int.reduceAdd, Int.reduceSub, Int.reduceNeg, Nat.reduceAdd, Nat.reduceMul, Nat.reducePow, Int.reduceLT, Int.reduceLE, Int.reduceEq, Nat.reduceEqDiff]
      refine ⟨fun q => q.elim, fun q => absurd (fun x hx => ?_) q⟩
      obtain ⟨i, hi, rfl⟩ := List.getElem_of_mem hx
      have := hp i (by omega)
      rwa [List.getD_eq_getElem?_getD, List.getElem?_eq_getElem hi] at this
  (refine calls_intro (hC.body (by decide) tab255) (Nat.le_of_ble_eq_true rfl) ?_); (show wp C _ none B255.code _ _); (simp only [B255]); simp -implicitDefEqProofs (disch := first | assumption | decide | omega | (simp only [wpD1] <;> omega) | (simp only [wpD2] <;> assumption) | solve_by_elim [HSub.refl, HSub.push, HSub.reserve] | fail) only [↓wpPre, wpPost, wpPoly, Int.reduceToNat, Int.reducePow, Int.reduceMul, Int.reduceAdd, Int.reduceSub, Int.reduceNeg, Nat.reduceAdd, Nat.reduceMul, Nat.reducePow, Int.reduceLT, Int.reduceLE, Int.reduceEq, Nat.reduceEqDiff]
  refine ACallsK.of hI ?_
  rintro r h1 ⟨⟨i, rfl, h1, h2⟩, rfl⟩
  simp -implicitDefEqProofs (disch := first | assumption | decide | omega | (simp only [wpD1] <;> omega) | (simp only [wpD2] <;> assumption) | solve_by_elim [HSub.refl, HSub.push, HSub.reserve] | fail) only [↓wpPre, wpPost, wpPoly, Int.reduceToNat, Int.reducePow, Int.reduceMul, Int.reduceAdd, Int.reduceSub, Int.reduceNeg, Nat.reduceAdd, Nat.reduceMul, Nat.reducePow, Int.reduceLT, Int.reduceLE, Int.reduceEq, Nat.reduceEqDiff]
  by_cases c : ∀ x ∈ l, P x
  · rw [decide_eq_true c]
    have : ¬ 0 ≤ i := fun q => h2.1 q c
    simp [this]
  · rw [decide_eq_false c]
    have : 0 ≤ i := h2.2 c
    simp [this]
theorem small_spec (hC : Has C T285) {v : AV} {l : List (Int × Int)} {most : Nat} {h : Heap} (hl : SI h v l) (hm : most ≤ 100000) : ACalls C 285 [v, .int .i64 (most : Nat)] h (fun r h' => r = .int .i64 (smE l most) ∧ h' = h) := by
  have hlt := hl.lt
  have hc := containsF_spec (hC.sub (T' := T255) (by decide)) (g := 299) (P := fun p => inS 1048576 p) (fun p h => out299_spec (hC.sub (T' := T299) (by decide))) hl
  unfold smE
  by_cases c : most < l.length
  · rw [if_pos c]
    (refine calls_intro (hC.body (by decide) tab285) (Nat.le_of_ble_eq_true rfl) ?_); (show wp C _ none B285.code _ _); (simp only [B285]); simp -implicitDefEqProofs (disch := first | assumption | decide | omega | (simp only [wpD1] <;> omega) | (simp only [wpD2] <;> assumption) | solve_by_elim [HSub.refl, HSub.push, HSub.reserve] | fail) only [↓wpPre, wpPost, wpPoly, Int.reduceToNat, Int.reducePow, Int.reduceMul, Int.reduceAdd, Int.reduceSub, Int.reduceNeg, Nat.reduceAdd, Nat.reduceMul, Nat.reducePow, Int.reduceLT, Int.reduceLE, Int.reduceEq, Nat.reduceEqDiff, hl.len]
  · rw [if_neg c]
    (refine calls_intro (hC.body (by decide) tab285) (Nat.le_of_ble_eq_true rfl) ?_); (show wp C _ none B285.code _ _); (simp only [B285]); simp -implicitDefEqProofs (disch := first | assumption | decide | omega | (simp only [wpD1] <;> omega) | (simp only [wpD2] <;> assumption) | solve_by_elim [HSub.refl, HSub.push, HSub.reserve] | fail) only [↓wpPre, wpPost, wpPoly, Int.reduceToNat, Int.reducePow, Int.reduceMul, Int.reduceAdd, Int.reduceSub, Int.reduceNeg, Nat.reduceAdd, Nat.reduceMul, Nat.reducePow, Int.reduceLT, Int.reduceLE, Int.reduceEq, Nat.reduceEqDiff, hl.len]
    refine ACallsK.eq hc ?_
    by_cases c2 : ∀ x ∈ l, inS 1048576 x
    · rw [decide_eq_true c2, if_pos c2]
      simp -implicitDefEqProofs (disch := first | assumption | decide | omega | (simp only [wpD1] <;> omega) | (simp only [wpD2] <;> assumption) | solve_by_elim [HSub.refl, HSub.push, HSub.reserve] | fail) only [↓wpPre, wpPost, wpPoly, Int.reduceToNat, Int.reducePow, Int.reduceMul, Int.reduceAdd, Int.reduceSub, Int.reduceNeg, Nat.reduceAdd, Nat.reduceMul, Nat.reducePow, Int.reduceLT, Int.reduceLE, Int.reduceEq, Nat.reduceEqDiff]
    · rw [decide_eq_false c2, if_neg c2]
      simp -implicitDefEqProofs (disch := first | assumption | decide | omega | (simp only [wpD1] <;> omega) | (simp only [wpD2] <;> assumption) | solve_by_elim [HSub.refl, HSub.push, HSub.reserve] | fail) only [↓wpPre, wpPost, wpPoly, Int.reduceToNat, Int.reducePow, Int.reduceMul, Int.reduceAdd, Int.reduceSub, Int.reduceNeg, Nat.reduceAdd, Nat.reduceMul, Nat.reducePow, Int.reduceLT, Int.reduceLE, Int.reduceEq, Nat.reduceEqDiff]
theorem power_spec (hC : Has C T289) {p : Int × Int} {h : Heap} : ACalls C 289 [smp p] h (fun r h' => r = .int .i64 (powP p) ∧ h' = h) := by
  refine ACalls.gc0 (P := fun r h' => r = .int .i64 (powP p) ∧ HSub h h') ?_ (fun r h' hp => ⟨by rw [hp.1]; trivial, hp.2, hp.1, rfl⟩)
  obtain ⟨x, y⟩ := p
  unfold powP
  unfold smp
  (refine calls_intro (hC.body (by decide) tab289) (Nat.le_of_ble_eq_true rfl) ?_); (show wp C _ none B289.code _ _); (simp only [B289]); simp -implicitDefEqProofs (disch := first | assumption | decide | omega | (simp only [wpD1] <;> omega) | (simp only [wpD2] <;> assumption) | solve_by_elim [HSub.refl, HSub.push, HSub.reserve] | fail) only [↓wpPre, wpPost, wpPoly, Int.reduceToNat, Int.reducePow, Int.reduceMul, Int.reduceAdd, Int.reduceSub, Int.reduceNeg, Nat.reduceAdd, Nat.reduceMul, Nat.reducePow, Int.reduceLT, Int.reduceLE, Int.reduceEq, Nat.reduceEqDiff]
  exact HSub.push1 _ _
end
end Go.Ae

/- Three numbers as a value. -/
set_option linter.unusedSimpArgs false
set_option linter.unusedVariables false
namespace Go.Ae
def tup3 (x y e : Int) : AV := .tuple [.int .i64 x, .int .i64 y, .int .i64 e]
end Go.Ae

/- Parts of placements, of the program and of the reference. -/
set_option linter.unusedSimpArgs false
set_option linter.unusedVariables false
namespace Go.Ae
section
variable {C : Ctx}
def tupPP (x y : Int) : AV := .tuple [.int .i64 x, .int .i64 y]
end
end Go.Ae

/- The greatest sum over placements, of the program and of the reference. -/
set_option linter.unusedSimpArgs false
set_option linter.unusedVariables false
namespace Go.Ae
def rowG (a b : List Int) (mg : Nat) : Nat → Int
  | 0 => 0
  | si + 1 => gM a b ((si : Int) - 1) mg (cntM a.length mg ((si : Int) - 1)) (rowG a b mg si)
section
variable {C : Ctx}
end
end Go.Ae

/- The greatest sum over placements, of the program and of the reference: contracts. -/
set_option linter.unusedSimpArgs false
set_option linter.unusedVariables false
namespace Go.Ae
section
variable {C : Ctx}
end
end Go.Ae

/- Parts, Side and Cross, of the program. -/
set_option linter.unusedSimpArgs false
set_option linter.unusedVariables false
namespace Go.Ae
theorem CLs.two {h : Heap} {v : AV} {d o p q : Int} {vs : List AV} (H : CLs h v d o [p, q] vs) : ∃ w1 w2, RI h w1 (sampL d p o.toNat) ∧ RI h w2 (sampL d q o.toNat) ∧ idxA 2 v (.int .i64 0) = some (elA 2 v 0) ∧ idxA 2 v (.int .i64 1) = some (elA 2 v 1) ∧
    Ae.loadA h true 2 (elA 2 v 0) = some (.agg [w1, .int .i64 o]) ∧ Ae.loadA h true 2 (elA 2 v 1) = some (.agg [w2, .int .i64 o]) ∧ fieldAddrA 0 (elA 2 v 0) = some (elF 2 v 0 0) ∧ Ae.loadA h false 1 (elF 2 v 0 0) = some w1 := by
  obtain ⟨w1, w2, rfl⟩ : ∃ w1 w2, vs = [w1, w2] := by
    have := H.len
    match vs, this with
    | [a, b], _ => exact ⟨a, b, rfl⟩
  have l0 := H.sl.loadA (k := 0) (by simp)
  have l1 := H.sl.loadA (k := 1) (by simp)
  have lf := H.sl.loadE (k := 0) (off := 0) (by simp) (by decide)
  exact ⟨w1, w2, H.ri 0 (by simp), H.ri 1 (by simp), H.sl.idx (k := 0) (by simp), H.sl.idx (k := 1) (by simp), l0, l1, H.sl.fldE 0 0 (by simp), lf⟩
theorem CLs.one {h : Heap} {v : AV} {d o p : Int} {vs : List AV} (H : CLs h v d o [p] vs) : ∃ w1, RI h w1 (sampL d p o.toNat) ∧ idxA 2 v (.int .i64 0) = some (elA 2 v 0) ∧ Ae.loadA h true 2 (elA 2 v 0) = some (.agg [w1, .int .i64 o]) := by
  obtain ⟨w1, rfl⟩ : ∃ w1, vs = [w1] := by
    have := H.len
    match vs, this with
    | [a], _ => exact ⟨a, rfl⟩
  exact ⟨w1, H.ri 0 (by simp), H.sl.idx (k := 0) (by simp), H.sl.loadA (k := 0) (by simp)⟩
theorem sampErr_cases (d o : Int) (ps : List Int) : sampErr d o ps = 0 ∨ sampErr d o ps = 2 := by unfold sampErr; split <;> simp
theorem sampErr_ok {d o : Int} {ps : List Int} (h : sampErr d o ps = 0) : lenOk d = true ∧ (1 ≤ o ∧ o ≤ 8) ∧ ∀ p ∈ ps, codeErr d p = 0 := by
  unfold sampErr at h
  split at h
  · rename_i c
    have k := c.1
    unfold knownErr at k
    split at k
    · rename_i kk; exact ⟨kk.1, kk.2, c.2⟩
    · cases k
  · cases h
def partsOk (d o p q m s : Int) : Prop := sampErr d o [p, q] = 0 ∧ (-1 ≤ s ∧ s ≤ 1) ∧ 0 ≤ m ∧ m ≤ lenN d * o + min s 0
instance (d o p q m s : Int) : Decidable (partsOk d o p q m s) := by unfold partsOk; exact inferInstance
def partsE (d o p q m s : Int) : AV := if partsOk d o p q m s then tup3 (pf (sampL d p o.toNat) (sampL d q o.toNat) m s m.toNat) (ps (sampL d p o.toNat) (sampL d q o.toNat) m.toNat ((sampL d p o.toNat).length - m.toNat)) 0 else tup3 0 0 2
def crossE (d o p q : Int) : AV := if sampErr d o [p, q] = 0 then tup2 (greatI (sampL d p o.toNat) (sampL d q o.toNat) 0) 0 else tup2 0 2
def sideE (d o p : Int) : AV := if sampErr d o [p] = 0 then tup2 (greatI (sampL d p o.toNat) (sampL d p o.toNat) o.toNat) 0 else tup2 0 2
section
variable {C : Ctx}
end
end Go.Ae

/- Samples, Parts, Side and Cross, of the reference. -/
set_option linter.unusedSimpArgs false
set_option linter.unusedVariables false
namespace Go.Ae
section
variable {C : Ctx}
theorem knownR_spec (hC : Has C T179) {d o : Int} {h : Heap} (hd : In64 d) (ho : In64 o) : ACalls C 179 [.int .i64 d, .int .i64 o] h (fun r h' => r = .int .i64 (knownErr d o) ∧ h' = h) := by
  unfold In64 at ho
  by_cases c : lenOk d = true
  · have e : lenE d = tup2 (lenN d) 0 := by unfold lenE; rw [if_pos c]
    by_cases co : 1 ≤ o ∧ o ≤ 8
    · have pe : knownErr d o = 0 := by unfold knownErr; rw [if_pos ⟨c, co⟩]
      rw [pe]
      (refine calls_intro (hC.body (by decide) tab179) (Nat.le_of_ble_eq_true rfl) ?_); (show wp C _ none B179.code _ _); (simp only [B179]); simp -implicitDefEqProofs (disch := first | assumption | decide | omega | (simp only [wpD1] <;> omega) | (simp only [wpD2] <;> assumption) | solve_by_elim [HSub.refl, HSub.push, HSub.reserve] | fail) only [↓wpPre, wpPost, wpPoly, Int.reduceToNat, Int.reducePow, Int.reduceMul, Int.reduceAdd, Int.reduceSub, Int.reduceNeg, Nat.reduceAdd, Nat.reduceMul, Nat.reducePow, Int.reduceLT, Int.reduceLE, Int.reduceEq, Nat.reduceEqDiff]
      refine ACallsK.eq2 (Length08_spec (hC.sub (T' := T71) (by decide)) hd) e ?_
      simp -implicitDefEqProofs (disch := first | assumption | decide | omega | (simp only [wpD1] <;> omega) | (simp only [wpD2] <;> assumption) | solve_by_elim [HSub.refl, HSub.push, HSub.reserve] | fail) only [↓wpPre, wpPost, wpPoly, Int.reduceToNat, Int.reducePow, Int.reduceMul, Int.reduceAdd, Int.reduceSub, Int.reduceNeg, Nat.reduceAdd, Nat.reduceMul, Nat.reducePow, Int.reduceLT, Int.reduceLE, Int.reduceEq, Nat.reduceEqDiff, tup2]
    · have pe : knownErr d o = 2 := by unfold knownErr; rw [if_neg (fun h => co h.2)]
      rw [pe]
      (refine calls_intro (hC.body (by decide) tab179) (Nat.le_of_ble_eq_true rfl) ?_); (show wp C _ none B179.code _ _); (simp only [B179]); simp -implicitDefEqProofs (disch := first | assumption | decide | omega | (simp only [wpD1] <;> omega) | (simp only [wpD2] <;> assumption) | solve_by_elim [HSub.refl, HSub.push, HSub.reserve] | fail) only [↓wpPre, wpPost, wpPoly, Int.reduceToNat, Int.reducePow, Int.reduceMul, Int.reduceAdd, Int.reduceSub, Int.reduceNeg, Nat.reduceAdd, Nat.reduceMul, Nat.reducePow, Int.reduceLT, Int.reduceLE, Int.reduceEq, Nat.reduceEqDiff]
      refine ACallsK.eq2 (Length08_spec (hC.sub (T' := T71) (by decide)) hd) e ?_
      simp -implicitDefEqProofs (disch := first | assumption | decide | omega | (simp only [wpD1] <;> omega) | (simp only [wpD2] <;> assumption) | solve_by_elim [HSub.refl, HSub.push, HSub.reserve] | fail) only [↓wpPre, wpPost, wpPoly, Int.reduceToNat, Int.reducePow, Int.reduceMul, Int.reduceAdd, Int.reduceSub, Int.reduceNeg, Nat.reduceAdd, Nat.reduceMul, Nat.reducePow, Int.reduceLT, Int.reduceLE, Int.reduceEq, Nat.reduceEqDiff, tup2]
      (repeat' (first | (refine Br.by (fun _ => ?_) (fun _ => ?_)) | (simp -implicitDefEqProofs (disch := first | assumption | decide | omega | (simp only [wpD1] <;> omega) | (simp only [wpD2] <;> assumption) | solve_by_elim [HSub.refl, HSub.push, HSub.reserve] | fail) only [↓wpPre, wpPost, wpPoly, Int.reduceToNat, Int.reducePow, Int.reduceMul, Int.reduceAdd, Int.reduceSub, Int.reduceNeg, Nat.reduceAdd, Nat.reduceMul, Nat.reducePow, Int.reduceLT, Int.reduceLE, Int.reduceEq, Nat.reduceEqDiff])))
      all_goals omega
  · have e : lenE d = tup2 0 2 := by unfold lenE; rw [if_neg c]
    have pe : knownErr d o = 2 := by unfold knownErr; rw [if_neg (fun h => c h.1)]
    rw [pe]
    (refine calls_intro (hC.body (by decide) tab179) (Nat.le_of_ble_eq_true rfl) ?_); (show wp C _ none B179.code _ _); (simp only [B179]); simp -implicitDefEqProofs (disch := first | assumption | decide | omega | (simp only [wpD1] <;> omega) | (simp only [wpD2] <;> assumption) | solve_by_elim [HSub.refl, HSub.push, HSub.reserve] | fail) only [↓wpPre, wpPost, wpPoly, Int.reduceToNat, Int.reducePow, Int.reduceMul, Int.reduceAdd, Int.reduceSub, Int.reduceNeg, Nat.reduceAdd, Nat.reduceMul, Nat.reducePow, Int.reduceLT, Int.reduceLE, Int.reduceEq, Nat.reduceEqDiff]
    refine ACallsK.eq2 (Length08_spec (hC.sub (T' := T71) (by decide)) hd) e ?_
    simp -implicitDefEqProofs (disch := first | assumption | decide | omega | (simp only [wpD1] <;> omega) | (simp only [wpD2] <;> assumption) | solve_by_elim [HSub.refl, HSub.push, HSub.reserve] | fail) only [↓wpPre, wpPost, wpPoly, Int.reduceToNat, Int.reducePow, Int.reduceMul, Int.reduceAdd, Int.reduceSub, Int.reduceNeg, Nat.reduceAdd, Nat.reduceMul, Nat.reducePow, Int.reduceLT, Int.reduceLE, Int.reduceEq, Nat.reduceEqDiff, tup2]
def sampK (d p : Int) (o k : Nat) : List Int := (List.range k).map fun i => (codeL d p).getD (i / o) 0
theorem sampK_length (d p : Int) (o k : Nat) : (sampK d p o k).length = k := by simp [sampK]
theorem sampK_succ (d p : Int) (o k : Nat) : sampK d p o (k + 1) = sampK d p o k ++ [(codeL d p).getD (k / o) 0] := by simp [sampK, List.range_succ]
set_option maxHeartbeats 1000000 in
theorem SamplesR_spec (hC : Has C T169) {d o p : Int} {h : Heap} (hd : In64 d) (ho : In64 o) (hp : In64 p) :
    ACalls C 169 [.int .i64 d, .int .i64 o, .int .i64 p] h (fun r h' => ∃ v, r = lstErr v (sampErr d o [p]) ∧ HSub h h' ∧ RI h' v (if sampErr d o [p] = 0 then sampL d p o.toNat else [])) := by
  rcases sampErr_cases d o [p] with c | c
  · have ok := sampErr_ok c
    have hN := lenN_eq ok.1
    have ck : knownErr d o = 0 := by unfold knownErr; rw [if_pos ⟨ok.1, ok.2.1⟩]
    have cc : codeErr d p = 0 := ok.2.2 p (by simp)
    obtain ⟨q, rfl⟩ := Int.eq_ofNat_of_zero_le (show 0 ≤ o by omega)
    have ho1 : 1 ≤ q := by omega
    rw [c, if_pos rfl, Int.toNat_natCast]
    have hcode := Code08_spec (hC.sub (T' := T77) (by decide)) (h := h) hd hp
    rw [cc, if_pos rfl] at hcode
    have cl := codeL_length d p
    have sz1 : lenN d ≤ lenN d * q := Nat.le_mul_of_pos_right _ (by omega)
    have sz2 : lenN d * q ≤ 1023 * 8 := Nat.mul_le_mul (by omega) (by omega)
    have em : (lenN d : Int) * (q : Nat) = ((lenN d * q : Nat) : Int) := by omega
    have full : sampK d p q (lenN d * q) = sampL d p q := (sampL_eq d p ho1).symm
    (refine calls_intro (hC.body (by decide) tab169) (Nat.le_of_ble_eq_true rfl) ?_); (show wp C _ none B169.code _ _); (simp only [B169]); simp -implicitDefEqProofs (disch := first | assumption | decide | omega | (simp only [wpD1] <;> omega) | (simp only [wpD2] <;> assumption) | solve_by_elim [HSub.refl, HSub.push, HSub.reserve] | fail) only [↓wpPre, wpPost, wpPoly, Int.reduceToNat, Int.reducePow, Int.reduceMul, Int.reduceAdd, Int.reduceSub, Int.reduceNeg, Nat.reduceAdd, Nat.reduceMul, Nat.reducePow, Int.reduceLT, Int.reduceLE, Int.reduceEq, Nat.reduceEqDiff]
    refine ACallsK.eq (knownR_spec (hC.sub (T' := T179) (by decide)) hd ho) ?_
    rw [ck]
    simp -implicitDefEqProofs (disch := first | assumption | decide | omega | (simp only [wpD1] <;> omega) | (simp only [wpD2] <;> assumption) | solve_by_elim [HSub.refl, HSub.push, HSub.reserve] | fail) only [↓wpPre, wpPost, wpPoly, Int.reduceToNat, Int.reducePow, Int.reduceMul, Int.reduceAdd, Int.reduceSub, Int.reduceNeg, Nat.reduceAdd, Nat.reduceMul, Nat.reducePow, Int.reduceLT, Int.reduceLE, Int.reduceEq, Nat.reduceEqDiff]
    refine ACallsK.of hcode ?_
    rintro r h1 ⟨v1, rfl, s1, R1⟩
    simp -implicitDefEqProofs (disch := first | assumption | decide | omega | (simp only [wpD1] <;> omega) | (simp only [wpD2] <;> assumption) | solve_by_elim [HSub.refl, HSub.push, HSub.reserve] | fail) only [↓wpPre, wpPost, wpPoly, Int.reduceToNat, Int.reducePow, Int.reduceMul, Int.reduceAdd, Int.reduceSub, Int.reduceNeg, Nat.reduceAdd, Nat.reduceMul, Nat.reducePow, Int.reduceLT, Int.reduceLE, Int.reduceEq, Nat.reduceEqDiff, lstErr]
    refine wp_loopI (fun j t h' => ∃ k : Nat, GrwI h1 h' (t 11) (sampK d p q k) ∧ t 1 = .int .i64 (q : Nat) ∧ t 9 = v1 ∧ t 12 = .int .i64 (k : Nat) ∧ k ≤ lenN d * q ∧ j = lenN d * q - k) (j0 := lenN d * q)
      ⟨0, GrwI.nil _, rfl, rfl, rfl, by omega, rfl⟩ ?_
    rintro j t h2 ⟨k, A, e1, e9, e12, hk, hj⟩
    have R2 := R1.mono A.sub
    simp -implicitDefEqProofs (disch := first | assumption | decide | omega | (simp only [wpD1] <;> omega) | (simp only [wpD2] <;> assumption) | solve_by_elim [HSub.refl, HSub.push, HSub.reserve] | fail) only [↓wpPre, wpPost, wpPoly, Int.reduceToNat, Int.reducePow, Int.reduceMul, Int.reduceAdd, Int.reduceSub, Int.reduceNeg, Nat.reduceAdd, Nat.reduceMul, Nat.reducePow, Int.reduceLT, Int.reduceLE, Int.reduceEq, Nat.reduceEqDiff, e1, e9, e12, R2.len, cl, em]
    refine Br.by (fun c1 => ?_) (fun c1 => ?_)
    · have hk' : k < lenN d * q := by omega
      have hdv : k / q < lenN d := Nat.div_lt_of_lt_mul (by rw [Nat.mul_comm]; exact hk')
      have ed : (k : Int) / (q : Nat) = ((k / q : Nat) : Int) := (Int.natCast_ediv _ _).symm
      generalize hg : k / q = g at hdv ed
      have ld := R2.load (k := g) (by omega)
      have sl := sampK_length d p q k
      have su := sampK_succ d p q k
      rw [hg] at su
      obtain ⟨x, hx⟩ : ∃ x, x = (codeL d p).getD g 0 := ⟨_, rfl⟩
      rw [← hx] at su ld
      have A2 := A.snoc (x := x) (HSub.push1 h2 (.cells [.int .i64 x] true 0)) (by omega)
      rw [← su, sl] at A2
      simp -implicitDefEqProofs (disch := first | assumption | decide | omega | (simp only [wpD1] <;> omega) | (simp only [wpD2] <;> assumption) | solve_by_elim [HSub.refl, HSub.push, HSub.reserve] | fail) only [↓wpPre, wpPost, wpPoly, Int.reduceToNat, Int.reducePow, Int.reduceMul, Int.reduceAdd, Int.reduceSub, Int.reduceNeg, Nat.reduceAdd, Nat.reduceMul, Nat.reducePow, Int.reduceLT, Int.reduceLE, Int.reduceEq, Nat.reduceEqDiff, e1, e9, e12, ed, R2.idx, ld, cont_slice, contB_one, A.app, sl, ← su]
      exact ⟨_, ⟨k + 1, A2, by simp, by omega, rfl⟩, by omega⟩
    · have ek : k = lenN d * q := by omega
      subst ek
      rw [full] at A
      simp -implicitDefEqProofs (disch := first | assumption | decide | omega | (simp only [wpD1] <;> omega) | (simp only [wpD2] <;> assumption) | solve_by_elim [HSub.refl, HSub.push, HSub.reserve] | fail) only [↓wpPre, wpPost, wpPoly, Int.reduceToNat, Int.reducePow, Int.reduceMul, Int.reduceAdd, Int.reduceSub, Int.reduceNeg, Nat.reduceAdd, Nat.reduceMul, Nat.reducePow, Int.reduceLT, Int.reduceLE, Int.reduceEq, Nat.reduceEqDiff]
      exact ⟨_, rfl, s1.trans A.sub, A.ri⟩
  · rw [c, if_neg (by decide)]
    by_cases ck : knownErr d o = 0
    · have cc : codeErr d p = 2 := by
        rw [sampErr_one] at c
        have : ¬ codeErr d p = 0 := fun h => by rw [if_pos ⟨ck, h⟩] at c; cases c
        unfold codeErr at this ⊢; split at this <;> first | exact absurd rfl this | (rename_i h; rw [if_neg h])
      have hcode := Code08_spec (hC.sub (T' := T77) (by decide)) (h := h) hd hp
      rw [cc] at hcode
      (refine calls_intro (hC.body (by decide) tab169) (Nat.le_of_ble_eq_true rfl) ?_); (show wp C _ none B169.code _ _); (simp only [B169]); simp -implicitDefEqProofs (disch := first | assumption | decide | omega | (simp only [wpD1] <;> omega) | (simp only [wpD2] <;> assumption) | solve_by_elim [HSub.refl, HSub.push, HSub.reserve] | fail) only [↓wpPre, wpPost, wpPoly, Int.reduceToNat, Int.reducePow, Int.reduceMul, Int.reduceAdd, Int.reduceSub, Int.reduceNeg, Nat.reduceAdd, Nat.reduceMul, Nat.reducePow, Int.reduceLT, Int.reduceLE, Int.reduceEq, Nat.reduceEqDiff]
      refine ACallsK.eq (knownR_spec (hC.sub (T' := T179) (by decide)) hd ho) ?_
      rw [ck]
      simp -implicitDefEqProofs (disch := first | assumption | decide | omega | (simp only [wpD1] <;> omega) | (simp only [wpD2] <;> assumption) | solve_by_elim [HSub.refl, HSub.push, HSub.reserve] | fail) only [↓wpPre, wpPost, wpPoly, Int.reduceToNat, Int.reducePow, Int.reduceMul, Int.reduceAdd, Int.reduceSub, Int.reduceNeg, Nat.reduceAdd, Nat.reduceMul, Nat.reducePow, Int.reduceLT, Int.reduceLE, Int.reduceEq, Nat.reduceEqDiff]
      refine ACallsK.of hcode ?_
      rintro r h1 ⟨v1, rfl, s1, R1⟩
      simp -implicitDefEqProofs (disch := first | assumption | decide | omega | (simp only [wpD1] <;> omega) | (simp only [wpD2] <;> assumption) | solve_by_elim [HSub.refl, HSub.push, HSub.reserve] | fail) only [↓wpPre, wpPost, wpPoly, Int.reduceToNat, Int.reducePow, Int.reduceMul, Int.reduceAdd, Int.reduceSub, Int.reduceNeg, Nat.reduceAdd, Nat.reduceMul, Nat.reducePow, Int.reduceLT, Int.reduceLE, Int.reduceEq, Nat.reduceEqDiff, lstErr]
      exact ⟨_, rfl, s1, RI.nil⟩
    · have ck2 : knownErr d o = 2 := by unfold knownErr at ck ⊢; split at ck <;> first | exact absurd rfl ck | (rename_i h; rw [if_neg h])
      (refine calls_intro (hC.body (by decide) tab169) (Nat.le_of_ble_eq_true rfl) ?_); (show wp C _ none B169.code _ _); (simp only [B169]); simp -implicitDefEqProofs (disch := first | assumption | decide | omega | (simp only [wpD1] <;> omega) | (simp only [wpD2] <;> assumption) | solve_by_elim [HSub.refl, HSub.push, HSub.reserve] | fail) only [↓wpPre, wpPost, wpPoly, Int.reduceToNat, Int.reducePow, Int.reduceMul, Int.reduceAdd, Int.reduceSub, Int.reduceNeg, Nat.reduceAdd, Nat.reduceMul, Nat.reducePow, Int.reduceLT, Int.reduceLE, Int.reduceEq, Nat.reduceEqDiff]
      refine ACallsK.eq (knownR_spec (hC.sub (T' := T179) (by decide)) hd ho) ?_
      rw [ck2]
      simp -implicitDefEqProofs (disch := first | assumption | decide | omega | (simp only [wpD1] <;> omega) | (simp only [wpD2] <;> assumption) | solve_by_elim [HSub.refl, HSub.push, HSub.reserve] | fail) only [↓wpPre, wpPost, wpPoly, Int.reduceToNat, Int.reducePow, Int.reduceMul, Int.reduceAdd, Int.reduceSub, Int.reduceNeg, Nat.reduceAdd, Nat.reduceMul, Nat.reducePow, Int.reduceLT, Int.reduceLE, Int.reduceEq, Nat.reduceEqDiff, lstErr]
      exact ⟨_, rfl, HSub.refl _, RI.nil⟩
end
end Go.Ae

/- Sums of levels with codes, of the program and of the reference. -/
set_option linter.unusedSimpArgs false
set_option linter.unusedVariables false
namespace Go.Ae
def corA (v w : AV) : AV := .agg [v, w]
theorem fill_two {v w : AV} (hv : v.cells = [v]) (hw : w.cells = [w]) : fillA [.nilslice, .nilslice] [(0, 1, v), (1, 1, w)] = some [v, w] := by simp [fillA, hv, hw]
theorem storeB_two {H : Heap} {i : Nat} {v w a b : AV} (hv : v.one = true) (hw : w.one = true) : storeB H i 2 0 (.agg [v, w]) (some (.cells [a, b] true 0)) = some (H.put i (.cells [v, w] true 0)) :=
  storeB_agg (xs := [v, w]) (vs := [a, b]) rfl (Nat.le_refl _) (by simp [hv, hw])
theorem RI.putNil {h : Heap} {v : AV} {l : List Int} {i : Nat} {b : ABlk} {wr : Bool} {u : Nat} (R : RI h v l) (h0 : 0 < l.length) (hg : h.get i = some (.cells [.nilslice, .nilslice] wr u)) : RI (h.put i b) v l := by
  obtain ⟨hl, hlt, ⟨rfl, e⟩ | ⟨j, o, cp, vs, wr', u', rfl, hj, ho, hc, r⟩⟩ := R
  · omega
  · have ne : j ≠ i := by
      rintro rfl
      rw [hg] at hj
      cases hj
      have m1 : AV.int .i64 (l.getD 0 0) ∈ ints l := List.mem_map.2 ⟨_, getD_mem h0, rfl⟩
      rw [← hc] at m1
      have m2 := List.mem_of_mem_drop (List.mem_of_mem_take m1)
      simp at m2
    exact ⟨hl, hlt, .inr ⟨j, o, cp, vs, wr', u', rfl, (get_put_ne ne).trans hj, ho, hc, r⟩⟩
section
variable {C : Ctx}
theorem at303_spec (hC : Has C T303) {v w : AV} {s : List (Int × Int)} {i : Int} {h : Heap} (hs : SI h v s) : ACalls C 303 [corA v w, .int .i64 i] h (fun r h' => r = smp (atP s i) ∧ h' = h) := by
  refine ACalls.gc0 (P := fun r h' => r = smp (atP s i) ∧ HSub h h') ?_ (fun r h' hp => ⟨by rw [hp.1]; exact smp_free _, hp.2, hp.1, rfl⟩)
  have hlt := hs.lt
  have h1 := hs.one
  unfold corA
  by_cases c : i < 0 ∨ (s.length : Int) ≤ i
  · have e : atP s i = (0, 0) := by unfold atP; rw [if_pos c]
    rw [e]
    unfold smp
    (refine calls_intro (hC.body (by decide) tab303) (Nat.le_of_ble_eq_true rfl) ?_); (show wp C _ none B303.code _ _); (simp only [B303]); simp -implicitDefEqProofs (disch := first | assumption | decide | omega | (simp only [wpD1] <;> omega) | (simp only [wpD2] <;> assumption) | solve_by_elim [HSub.refl, HSub.push, HSub.reserve] | fail) only [↓wpPre, wpPost, wpPoly, Int.reduceToNat, Int.reducePow, Int.reduceMul, Int.reduceAdd, Int.reduceSub, Int.reduceNeg, Nat.reduceAdd, Nat.reduceMul, Nat.reducePow, Int.reduceLT, Int.reduceLE, Int.reduceEq, Nat.reduceEqDiff, hs.len, gV_u]
    (repeat' (first | (refine Br.by (fun _ => ?_) (fun _ => ?_)) | (simp -implicitDefEqProofs (disch := first | assumption | decide | omega | (simp only [wpD1] <;> omega) | (simp only [wpD2] <;> assumption) | solve_by_elim [HSub.refl, HSub.push, HSub.reserve] | fail) only [↓wpPre, wpPost, wpPoly, Int.reduceToNat, Int.reducePow, Int.reduceMul, Int.reduceAdd, Int.reduceSub, Int.reduceNeg, Nat.reduceAdd, Nat.reduceMul, Nat.reducePow, Int.reduceLT, Int.reduceLE, Int.reduceEq, Nat.reduceEqDiff, hs.len, gV_u])))
    all_goals first
      | (exfalso; omega)
      | exact (by repeat (first | exact HSub.refl h | refine HSub.put ?_ (by (try simp only [Heap.size_put, Heap.size_push, Heap.size_reserve]); omega) _ | refine HSub.push ?_ _ | refine HSub.reserve ?_ _))
  · have e : atP s i = s.getD i.toNat (0, 0) := by unfold atP; rw [if_neg c]
    rw [e]
    have ld := fun b c => (hs.mono ((HSub.push1 h b).push c)).loadA (k := i.toNat) (by omega)
    generalize s.getD i.toNat (0, 0) = x at *
    obtain ⟨xx, xy⟩ := x
    unfold smp at ld ⊢
    dsimp only at ld
    have hi : 0 ≤ i ∧ i < s.length := by omega
    have ix := hs.idx (kk := .i64) hi
    (refine calls_intro (hC.body (by decide) tab303) (Nat.le_of_ble_eq_true rfl) ?_); (show wp C _ none B303.code _ _); (simp only [B303]); simp -implicitDefEqProofs (disch := first | assumption | decide | omega | (simp only [wpD1] <;> omega) | (simp only [wpD2] <;> assumption) | solve_by_elim [HSub.refl, HSub.push, HSub.reserve] | fail) only [↓wpPre, wpPost, wpPoly, Int.reduceToNat, Int.reducePow, Int.reduceMul, Int.reduceAdd, Int.reduceSub, Int.reduceNeg, Nat.reduceAdd, Nat.reduceMul, Nat.reducePow, Int.reduceLT, Int.reduceLE, Int.reduceEq, Nat.reduceEqDiff, hs.len, gV_u, ix, ld]
    exact (by repeat (first | exact HSub.refl h | refine HSub.put ?_ (by (try simp only [Heap.size_put, Heap.size_push, Heap.size_reserve]); omega) _ | refine HSub.push ?_ _ | refine HSub.reserve ?_ _))
set_option maxHeartbeats 2000000 in
set_option maxRecDepth 20000 in
theorem sum293_spec (hC : Has C T293) {v w : AV} {s : List (Int × Int)} {c : List Int} {a : Int} {h : Heap} (hs : SI h v s) (hc : RI h w c) (hi : ∀ x ∈ s, inS 127 x) (ho : one1 c) (hcl : c.length ≤ 100000) (ha : -100000000 ≤ a ∧ a ≤ 100000000) :
    ACalls C 293 [corA v w, .int .i64 a] h (fun r h' => r = smp (sumP s c a) ∧ h' = h) := by
  refine ACalls.gc0 (P := fun r h' => r = smp (sumP s c a) ∧ HSub h h') ?_ (fun r h' hp => ⟨by rw [hp.1]; exact smp_free _, hp.2, hp.1, rfl⟩)
  have hlt := hs.lt
  have v1 := hs.one
  have w1 := hc.one
  have kat := fun (i : Int) h1 (q : HSub h h1) => at303_spec (hC.sub (T' := T303) (by decide)) (w := w) (i := i) (hs.mono q)
  unfold corA at kat ⊢
  (refine calls_intro (hC.body (by decide) tab293) (Nat.le_of_ble_eq_true rfl) ?_); (show wp C _ none B293.code _ _); (simp only [B293]); simp -implicitDefEqProofs (disch := first | assumption | decide | omega | (simp only [wpD1] <;> omega) | (simp only [wpD2] <;> assumption) | solve_by_elim [HSub.refl, HSub.push, HSub.reserve] | fail) only [↓wpPre, wpPost, wpPoly, Int.reduceToNat, Int.reducePow, Int.reduceMul, Int.reduceAdd, Int.reduceSub, Int.reduceNeg, Nat.reduceAdd, Nat.reduceMul, Nat.reducePow, Int.reduceLT, Int.reduceLE, Int.reduceEq, Nat.reduceEqDiff, hc.len]
  refine wp_loopI (fun j t h' => HSub h h' ∧ h.size + 1 < h'.size ∧ h'.get h.size = some (.cells [v, w] true 0) ∧ ∃ k : Nat, h'.get (h.size + 1) = some (.cells [.int .i64 (sumK s c a k).1, .int .i64 (sumK s c a k).2] true 0) ∧ t 1 = .int .i64 a ∧ t 2 = .ptr h.size 0 ∧ t 4 = .ptr (h.size + 1) 0 ∧ t 9 = w ∧ t 10 = .int .i64 (c.length : Nat) ∧ t 11 = .int .i64 (k : Nat) ∧ k ≤ c.length ∧ j = c.length - k) (j0 := c.length)
    ⟨(HSub.push1 _ _).push _, by simp, by simp -implicitDefEqProofs (disch := first | assumption | decide | omega | (simp only [wpD1] <;> omega) | (simp only [wpD2] <;> assumption) | solve_by_elim [HSub.refl, HSub.push, HSub.reserve] | fail) only [↓wpPre, wpPost, wpPoly, Int.reduceToNat, Int.reducePow, Int.reduceMul, Int.reduceAdd, Int.reduceSub, Int.reduceNeg, Nat.reduceAdd, Nat.reduceMul, Nat.reducePow, Int.reduceLT, Int.reduceLE, Int.reduceEq, Nat.reduceEqDiff], 0, by simp -implicitDefEqProofs (disch := first | assumption | decide | omega | (simp only [wpD1] <;> omega) | (simp only [wpD2] <;> assumption) | solve_by_elim [HSub.refl, HSub.push, HSub.reserve] | fail) only [↓wpPre, wpPost, wpPoly, Int.reduceToNat, Int.reducePow, Int.reduceMul, Int.reduceAdd, Int.reduceSub, Int.reduceNeg, Nat.reduceAdd, Nat.reduceMul, Nat.reducePow, Int.reduceLT, Int.reduceLE, Int.reduceEq, Nat.reduceEqDiff]; rfl, rfl, rfl, rfl, rfl, rfl, rfl, by omega, rfl⟩ ?_
  rintro j t h1 ⟨s1, hz, gv, k, gb, e1, e2, e4, e9, e10, e11, hk, hj⟩
  simp -implicitDefEqProofs (disch := first | assumption | decide | omega | (simp only [wpD1] <;> omega) | (simp only [wpD2] <;> assumption) | solve_by_elim [HSub.refl, HSub.push, HSub.reserve] | fail) only [↓wpPre, wpPost, wpPoly, Int.reduceToNat, Int.reducePow, Int.reduceMul, Int.reduceAdd, Int.reduceSub, Int.reduceNeg, Nat.reduceAdd, Nat.reduceMul, Nat.reducePow, Int.reduceLT, Int.reduceLE, Int.reduceEq, Nat.reduceEqDiff, e10, e11]
  refine Br.by (fun c3 => ?_) (fun c3 => ?_)
  · have hk' : k < c.length := by omega
    have hc1 := hc.mono s1
    have ld := hc1.load hk'
    have hb := sumK_le (a := a) hi ho k
    have hm := mulP_le (atP_le hi (a + (k : Nat))) (ho.get k)
    have es : sumK s c a (k + 1) = addP (sumK s c a k) (mulP (atP s (a + (k : Nat))) (c.getD k 0)) := rfl
    have kat := kat (a + (k : Nat)) h1 s1
    generalize sumK s c a k = q at *
    generalize atP s (a + (k : Nat)) = x at *
    generalize c.getD k 0 = y at *
    obtain ⟨qx, qy⟩ := q
    obtain ⟨xx, xy⟩ := x
    unfold smp at kat
    unfold inS at hb hm
    unfold mulP at hm
    dsimp only at kat hb hm gb
    simp -implicitDefEqProofs (disch := first | assumption | decide | omega | (simp only [wpD1] <;> omega) | (simp only [wpD2] <;> assumption) | solve_by_elim [HSub.refl, HSub.push, HSub.reserve] | fail) only [↓wpPre, wpPost, wpPoly, Int.reduceToNat, Int.reducePow, Int.reduceMul, Int.reduceAdd, Int.reduceSub, Int.reduceNeg, Nat.reduceAdd, Nat.reduceMul, Nat.reducePow, Int.reduceLT, Int.reduceLE, Int.reduceEq, Nat.reduceEqDiff, e1, e2, e9, e11, hc1.idx, ld, gv]
    refine ACallsK.eq kat ?_
    simp -implicitDefEqProofs (disch := first | assumption | decide | omega | (simp only [wpD1] <;> omega) | (simp only [wpD2] <;> assumption) | solve_by_elim [HSub.refl, HSub.push, HSub.reserve] | fail) only [↓wpPre, wpPost, wpPoly, Int.reduceToNat, Int.reducePow, Int.reduceMul, Int.reduceAdd, Int.reduceSub, Int.reduceNeg, Nat.reduceAdd, Nat.reduceMul, Nat.reducePow, Int.reduceLT, Int.reduceLE, Int.reduceEq, Nat.reduceEqDiff, e1, e2, e4, e9, e10, e11, gv, gb]
    exact ⟨_, ⟨(by repeat (first | exact s1 | refine HSub.put ?_ (by (try simp only [Heap.size_put, Heap.size_push, Heap.size_reserve]); omega) _ | refine HSub.push ?_ _ | refine HSub.reserve ?_ _)), by omega, k + 1, by rw [es]; rfl, by simp, by omega, rfl⟩, by omega⟩
  · have ek : k = c.length := by omega
    subst ek
    unfold sumP
    generalize sumK s c a c.length = q at *
    obtain ⟨qx, qy⟩ := q
    unfold smp
    simp -implicitDefEqProofs (disch := first | assumption | decide | omega | (simp only [wpD1] <;> omega) | (simp only [wpD2] <;> assumption) | solve_by_elim [HSub.refl, HSub.push, HSub.reserve] | fail) only [↓wpPre, wpPost, wpPoly, Int.reduceToNat, Int.reducePow, Int.reduceMul, Int.reduceAdd, Int.reduceSub, Int.reduceNeg, Nat.reduceAdd, Nat.reduceMul, Nat.reducePow, Int.reduceLT, Int.reduceLE, Int.reduceEq, Nat.reduceEqDiff, e4, gb]
    exact (by repeat (first | exact s1 | refine HSub.put ?_ (by (try simp only [Heap.size_put, Heap.size_push, Heap.size_reserve]); omega) _ | refine HSub.push ?_ _ | refine HSub.reserve ?_ _))
def corE (x : AV) (e : Int) : AV := .tuple [x, .int .i64 e]
theorem bankErr_ok {s : List (Int × Int)} {d o p a : Int} (h : bankErr s d o p a = 0) : s.length ≤ 1048576 ∧ (∀ x ∈ s, inS 127 x) ∧ sampErr d o [p] = 0 ∧ -2000000 ≤ a ∧ a ≤ 2000000 := by
  unfold bankErr at h
  split at h
  · omega
  · split at h
    · omega
    · rename_i c2
      split at h
      · omega
      · split at h
        · omega
        · exact ⟨by omega, Classical.not_not.1 c2, by omega, by omega, by omega⟩
set_option maxHeartbeats 1000000 in
theorem made292_spec (hC : Has C T292) {v : AV} {s : List (Int × Int)} {d o p a : Int} {h : Heap} (hs : SI h v s) (hd : In64 d) (ho : In64 o) (hp : In64 p) (ha : In64 a) :
    ACalls C 292 [v, .int .i64 d, .int .i64 o, .int .i64 p, .int .i64 a] h (fun r h' => HSub h h' ∧ ∃ x, r = corE x (bankErr s d o p a) ∧ (bankErr s d o p a = 0 → ∃ w, x = corA v w ∧ RI h' w (sampL d p o.toNat)) ∧ (bankErr s d o p a ≠ 0 → x = corA .nilslice .nilslice)) := by
  have hlt := hs.lt
  have v1 := hs.one
  have kc := fun h1 (q : HSub h h1) => containsF_spec (hC.sub (T' := T255) (by decide)) (g := 302) (P := fun p => inS 127 p) (fun p h => out302_spec (hC.sub (T' := T302) (by decide))) (hs.mono q)
  have kS := fun h1 => SamplesC_spec (hC.sub (T' := T131) (by decide)) (h := h1) hd ho hp
  have sc := sampErr_cases d o [p]
  unfold In64 at ha
  unfold bankErr corA corE
  by_cases c1 : 1048576 < s.length
  · rw [if_pos c1]
    (refine calls_intro (hC.body (by decide) tab292) (Nat.le_of_ble_eq_true rfl) ?_); (show wp C _ none B292.code _ _); (simp only [B292]); simp -implicitDefEqProofs (disch := first | assumption | decide | omega | (simp only [wpD1] <;> omega) | (simp only [wpD2] <;> assumption) | solve_by_elim [HSub.refl, HSub.push, HSub.reserve] | fail) only [↓wpPre, wpPost, wpPoly, Int.reduceToNat, Int.reducePow, Int.reduceMul, Int.reduceAdd, Int.reduceSub, Int.reduceNeg, Nat.reduceAdd, Nat.reduceMul, Nat.reducePow, Int.reduceLT, Int.reduceLE, Int.reduceEq, Nat.reduceEqDiff, hs.len]
    exact ⟨(by repeat (first | exact HSub.refl h | refine HSub.put ?_ (by (try simp only [Heap.size_put, Heap.size_push, Heap.size_reserve]); omega) _ | refine HSub.push ?_ _ | refine HSub.reserve ?_ _)), _, rfl, fun _ => rfl⟩
  · rw [if_neg c1]
    by_cases c2 : ∀ x ∈ s, inS 127 x
    · simp only [decide_eq_true c2] at kc
      rw [if_neg (fun q => q c2)]
      (refine calls_intro (hC.body (by decide) tab292) (Nat.le_of_ble_eq_true rfl) ?_); (show wp C _ none B292.code _ _); (simp only [B292]); simp -implicitDefEqProofs (disch := first | assumption | decide | omega | (simp only [wpD1] <;> omega) | (simp only [wpD2] <;> assumption) | solve_by_elim [HSub.refl, HSub.push, HSub.reserve] | fail) only [↓wpPre, wpPost, wpPoly, Int.reduceToNat, Int.reducePow, Int.reduceMul, Int.reduceAdd, Int.reduceSub, Int.reduceNeg, Nat.reduceAdd, Nat.reduceMul, Nat.reducePow, Int.reduceLT, Int.reduceLE, Int.reduceEq, Nat.reduceEqDiff, hs.len]
      refine ACallsK.eq (kc _ (HSub.push1 _ _)) ?_
      simp -implicitDefEqProofs (disch := first | assumption | decide | omega | (simp only [wpD1] <;> omega) | (simp only [wpD2] <;> assumption) | solve_by_elim [HSub.refl, HSub.push, HSub.reserve] | fail) only [↓wpPre, wpPost, wpPoly, Int.reduceToNat, Int.reducePow, Int.reduceMul, Int.reduceAdd, Int.reduceSub, Int.reduceNeg, Nat.reduceAdd, Nat.reduceMul, Nat.reducePow, Int.reduceLT, Int.reduceLE, Int.reduceEq, Nat.reduceEqDiff]
      refine ACallsK.of (kS _) ?_
      rintro r h1 ⟨w, rfl, s1, R⟩
      have s0 := (HSub.push1 h (.cells [.nilslice, .nilslice] true 0)).trans s1
      have gz : h1.get h.size = some (.cells [.nilslice, .nilslice] true 0) := (s1.get _ (by simp)).trans (get_push_eq rfl)
      have w1 := R.one
      have ft := fill_two hs.cells R.cells
      have h0 : sampErr d o [p] = 0 → 0 < (sampL d p o.toNat).length := fun q => by
        have ok := sampErr_ok q
        have := lenN_eq ok.1
        rw [sampL_length]
        exact Nat.mul_pos (by omega) (by omega)
      have sb := fun (H : Heap) i => storeB_two (H := H) (i := i) (a := .nilslice) (b := .nilslice) v1 w1
      have hz : h.size < h1.size := by have := s1.size; simp only [Heap.size_push] at this; omega
      by_cases c3 : sampErr d o [p] = 0
      · have h0 := h0 c3
        rw [c3] at R ⊢
        rw [if_pos rfl] at R
        rw [if_neg (by decide)]
        by_cases c4 : a < -2000000 ∨ 2000000 < a
        · rw [if_pos c4]
          simp -implicitDefEqProofs (disch := first | assumption | decide | omega | (simp only [wpD1] <;> omega) | (simp only [wpD2] <;> assumption) | solve_by_elim [HSub.refl, HSub.push, HSub.reserve] | fail) only [↓wpPre, wpPost, wpPoly, Int.reduceToNat, Int.reducePow, Int.reduceMul, Int.reduceAdd, Int.reduceSub, Int.reduceNeg, Nat.reduceAdd, Nat.reduceMul, Nat.reducePow, Int.reduceLT, Int.reduceLE, Int.reduceEq, Nat.reduceEqDiff, lstErr, gz]
          (repeat' (first | (refine Br.by (fun _ => ?_) (fun _ => ?_)) | (simp -implicitDefEqProofs (disch := first | assumption | decide | omega | (simp only [wpD1] <;> omega) | (simp only [wpD2] <;> assumption) | solve_by_elim [HSub.refl, HSub.push, HSub.reserve] | fail) only [↓wpPre, wpPost, wpPoly, Int.reduceToNat, Int.reducePow, Int.reduceMul, Int.reduceAdd, Int.reduceSub, Int.reduceNeg, Nat.reduceAdd, Nat.reduceMul, Nat.reducePow, Int.reduceLT, Int.reduceLE, Int.reduceEq, Nat.reduceEqDiff, gz, gV_u])))
          all_goals first
            | (exfalso; omega)
            | exact ⟨(by repeat (first | exact s0 | refine HSub.put ?_ (by (try simp only [Heap.size_put, Heap.size_push, Heap.size_reserve]); omega) _ | refine HSub.push ?_ _ | refine HSub.reserve ?_ _)), _, rfl, fun _ => rfl⟩
        · rw [if_neg c4]
          simp -implicitDefEqProofs (disch := first | assumption | decide | omega | (simp only [wpD1] <;> omega) | (simp only [wpD2] <;> assumption) | solve_by_elim [HSub.refl, HSub.push, HSub.reserve] | fail) only [↓wpPre, wpPost, wpPoly, Int.reduceToNat, Int.reducePow, Int.reduceMul, Int.reduceAdd, Int.reduceSub, Int.reduceNeg, Nat.reduceAdd, Nat.reduceMul, Nat.reducePow, Int.reduceLT, Int.reduceLE, Int.reduceEq, Nat.reduceEqDiff, lstErr, gz, gV_u, ft, sb]
          exact ⟨(by repeat (first | exact s0 | refine HSub.put ?_ (by (try simp only [Heap.size_put, Heap.size_push, Heap.size_reserve]); omega) _ | refine HSub.push ?_ _ | refine HSub.reserve ?_ _)), _, rfl, fun _ => ⟨w, rfl, R.putNil h0 gz⟩, fun q => absurd trivial q⟩
      · have c4 : sampErr d o [p] = 2 := by omega
        rw [if_pos c3]
        rw [c4]
        simp -implicitDefEqProofs (disch := first | assumption | decide | omega | (simp only [wpD1] <;> omega) | (simp only [wpD2] <;> assumption) | solve_by_elim [HSub.refl, HSub.push, HSub.reserve] | fail) only [↓wpPre, wpPost, wpPoly, Int.reduceToNat, Int.reducePow, Int.reduceMul, Int.reduceAdd, Int.reduceSub, Int.reduceNeg, Nat.reduceAdd, Nat.reduceMul, Nat.reducePow, Int.reduceLT, Int.reduceLE, Int.reduceEq, Nat.reduceEqDiff, lstErr, gz]
        exact ⟨(by repeat (first | exact s0 | refine HSub.put ?_ (by (try simp only [Heap.size_put, Heap.size_push, Heap.size_reserve]); omega) _ | refine HSub.push ?_ _ | refine HSub.reserve ?_ _)), _, rfl, fun _ => rfl⟩
    · simp only [decide_eq_false c2] at kc
      rw [if_pos c2]
      (refine calls_intro (hC.body (by decide) tab292) (Nat.le_of_ble_eq_true rfl) ?_); (show wp C _ none B292.code _ _); (simp only [B292]); simp -implicitDefEqProofs (disch := first | assumption | decide | omega | (simp only [wpD1] <;> omega) | (simp only [wpD2] <;> assumption) | solve_by_elim [HSub.refl, HSub.push, HSub.reserve] | fail) only [↓wpPre, wpPost, wpPoly, Int.reduceToNat, Int.reducePow, Int.reduceMul, Int.reduceAdd, Int.reduceSub, Int.reduceNeg, Nat.reduceAdd, Nat.reduceMul, Nat.reducePow, Int.reduceLT, Int.reduceLE, Int.reduceEq, Nat.reduceEqDiff, hs.len]
      refine ACallsK.eq (kc _ (HSub.push1 _ _)) ?_
      simp -implicitDefEqProofs (disch := first | assumption | decide | omega | (simp only [wpD1] <;> omega) | (simp only [wpD2] <;> assumption) | solve_by_elim [HSub.refl, HSub.push, HSub.reserve] | fail) only [↓wpPre, wpPost, wpPoly, Int.reduceToNat, Int.reducePow, Int.reduceMul, Int.reduceAdd, Int.reduceSub, Int.reduceNeg, Nat.reduceAdd, Nat.reduceMul, Nat.reducePow, Int.reduceLT, Int.reduceLE, Int.reduceEq, Nat.reduceEqDiff]
      exact ⟨(by repeat (first | exact HSub.refl h | refine HSub.put ?_ (by (try simp only [Heap.size_put, Heap.size_push, Heap.size_reserve]); omega) _ | refine HSub.push ?_ _ | refine HSub.reserve ?_ _)), _, rfl, fun _ => rfl⟩
end
end Go.Ae

/- Sum, Bank and Three, of the program and of the reference. -/
set_option linter.unusedSimpArgs false
set_option linter.unusedVariables false
namespace Go.Ae
def bsumE (s : List (Int × Int)) (d o p a : Int) : AV := if bankErr s d o p a = 0 then .tuple [smp (sumP s (sampL d p o.toNat) a), .int .i64 0] else .tuple [smp (0, 0), .int .i64 (bankErr s d o p a)]
theorem bsumE_free (s : List (Int × Int)) (d o p a : Int) : (bsumE s d o p a).free := by
  unfold bsumE
  split <;> exact free_tuple (by simp [smp, AV.free, AV.bel, AV.bels])
theorem samp_len {d o p : Int} (h : sampErr d o [p] = 0) : (sampL d p o.toNat).length ≤ 8184 := by
  have ok := sampErr_ok h
  have n := lenN_eq ok.1
  rw [sampL_length]
  exact Nat.mul_le_mul (show lenN d ≤ 1023 by omega) (show o.toNat ≤ 8 by omega)
section
variable {C : Ctx}
set_option maxHeartbeats 1000000 in
theorem BSum_spec (hC : Has C T275) {v : AV} {s : List (Int × Int)} {d o p a : Int} {h : Heap} (hs : SI h v s) (hd : In64 d) (ho : In64 o) (hp : In64 p) (ha : In64 a) :
    ACalls C 275 [v, .int .i64 d, .int .i64 o, .int .i64 p, .int .i64 a] h (fun r h' => r = bsumE s d o p a ∧ h' = h) := by
  refine ACalls.gc0 (P := fun r h' => r = bsumE s d o p a ∧ HSub h h') ?_ (fun r h' hp => ⟨by rw [hp.1]; exact bsumE_free _ _ _ _ _, hp.2, hp.1, rfl⟩)
  have kM := fun h1 (q : HSub h h1) => made292_spec (hC.sub (T' := T292) (by decide)) (hs.mono q) hd ho hp ha
  have v1 := hs.one
  unfold bsumE
  (refine calls_intro (hC.body (by decide) tab275) (Nat.le_of_ble_eq_true rfl) ?_); (show wp C _ none B275.code _ _); (simp only [B275]); simp -implicitDefEqProofs (disch := first | assumption | decide | omega | (simp only [wpD1] <;> omega) | (simp only [wpD2] <;> assumption) | solve_by_elim [HSub.refl, HSub.push, HSub.reserve] | fail) only [↓wpPre, wpPost, wpPoly, Int.reduceToNat, Int.reducePow, Int.reduceMul, Int.reduceAdd, Int.reduceSub, Int.reduceNeg, Nat.reduceAdd, Nat.reduceMul, Nat.reducePow, Int.reduceLT, Int.reduceLE, Int.reduceEq, Nat.reduceEqDiff]
  refine ACallsK.of (kM _ (HSub.push1 _ _)) ?_
  rintro r h1 ⟨s1, x, rfl, g0, g1⟩
  have gz : h1.get h.size = some (.cells [.int .i64 0, .int .i64 0] true 0) := (s1.get _ (by simp)).trans (get_push_eq rfl)
  have hz : h.size < h1.size := by have := s1.size; simp only [Heap.size_push] at this; omega
  have s0 := (HSub.push1 h (.cells [.int .i64 0, .int .i64 0] true 0)).trans s1
  by_cases c : bankErr s d o p a = 0
  · have ok := bankErr_ok c
    obtain ⟨w, rfl, R⟩ := g0 c
    have w1 := R.one
    have sb := fun (H : Heap) i => storeB_two (H := H) (i := i) (a := .nilslice) (b := .nilslice) v1 w1
    have kS := fun h2 (q : HSub h1 h2) => sum293_spec (hC.sub (T' := T293) (by decide)) (a := a) (hs.mono (s0.trans q)) (R.mono q) ok.2.1 (sampL_one1 _ _ _) (by have := samp_len ok.2.2.1; omega) (by omega)
    rw [c, if_pos rfl]
    unfold corA at kS ⊢
    generalize sumP s (sampL d p o.toNat) a = q at *
    obtain ⟨qx, qy⟩ := q
    unfold smp at kS ⊢
    dsimp only at kS ⊢
    simp -implicitDefEqProofs (disch := first | assumption | decide | omega | (simp only [wpD1] <;> omega) | (simp only [wpD2] <;> assumption) | solve_by_elim [HSub.refl, HSub.push, HSub.reserve] | fail) only [↓wpPre, wpPost, wpPoly, Int.reduceToNat, Int.reducePow, Int.reduceMul, Int.reduceAdd, Int.reduceSub, Int.reduceNeg, Nat.reduceAdd, Nat.reduceMul, Nat.reducePow, Int.reduceLT, Int.reduceLE, Int.reduceEq, Nat.reduceEqDiff, corE, sb]
    refine ACallsK.eq (kS _ (by repeat (first | exact HSub.refl h1 | refine HSub.put ?_ (by (try simp only [Heap.size_put, Heap.size_push, Heap.size_reserve]); omega) _ | refine HSub.push ?_ _ | refine HSub.reserve ?_ _))) ?_
    simp -implicitDefEqProofs (disch := first | assumption | decide | omega | (simp only [wpD1] <;> omega) | (simp only [wpD2] <;> assumption) | solve_by_elim [HSub.refl, HSub.push, HSub.reserve] | fail) only [↓wpPre, wpPost, wpPoly, Int.reduceToNat, Int.reducePow, Int.reduceMul, Int.reduceAdd, Int.reduceSub, Int.reduceNeg, Nat.reduceAdd, Nat.reduceMul, Nat.reducePow, Int.reduceLT, Int.reduceLE, Int.reduceEq, Nat.reduceEqDiff, gz]
    exact (by repeat (first | exact s0 | refine HSub.put ?_ (by (try simp only [Heap.size_put, Heap.size_push, Heap.size_reserve]); omega) _ | refine HSub.push ?_ _ | refine HSub.reserve ?_ _))
  · rw [g1 c, if_neg c]
    unfold corA smp
    generalize bankErr s d o p a = e at *
    simp -implicitDefEqProofs (disch := first | assumption | decide | omega | (simp only [wpD1] <;> omega) | (simp only [wpD2] <;> assumption) | solve_by_elim [HSub.refl, HSub.push, HSub.reserve] | fail) only [↓wpPre, wpPost, wpPoly, Int.reduceToNat, Int.reducePow, Int.reduceMul, Int.reduceAdd, Int.reduceSub, Int.reduceNeg, Nat.reduceAdd, Nat.reduceMul, Nat.reducePow, Int.reduceLT, Int.reduceLE, Int.reduceEq, Nat.reduceEqDiff, corE, c, gz]
    exact (by repeat (first | exact s0 | refine HSub.put ?_ (by (try simp only [Heap.size_put, Heap.size_push, Heap.size_reserve]); omega) _ | refine HSub.push ?_ _ | refine HSub.reserve ?_ _))
end
end Go.Ae

/- Bank and Three, of the program and of the reference. -/
set_option linter.unusedSimpArgs false
set_option linter.unusedVariables false
namespace Go.Ae
def bankE (s : List (Int × Int)) (d o p a many : Int) : Int := manyE (bankErr s d o p a) many 8192
section
variable {C : Ctx}
set_option maxHeartbeats 1000000 in
theorem plain296_spec (hC : Has C T296) {v w : AV} {s : List (Int × Int)} {c : List Int} {a : Int} {m : Nat} {h : Heap} (hs : SI h v s) (hc : RI h w c) (hi : ∀ x ∈ s, inS 127 x) (ho : one1 c) (hcl : c.length ≤ 100000) (ha : -10000000 ≤ a ∧ a ≤ 10000000) (hm : m ≤ 8192) :
    ACalls C 296 [corA v w, .int .i64 a, .int .i64 (m : Nat)] h (fun r h' => HSub h h' ∧ SI h' r (bankL s c a 1 m)) := by
  have v1 := hs.one
  have w1 := hc.one
  have hz := smps_replicate (p := (0, 0)) (n := m)
  simp only at hz
  have kS := fun (b : Int) (hb : -100000000 ≤ b ∧ b ≤ 100000000) h1 (q : HSub h h1) => sum293_spec (hC.sub (T' := T293) (by decide)) (a := b) (hs.mono q) (hc.mono q) hi ho hcl hb
  unfold corA at kS ⊢
  (refine calls_intro (hC.body (by decide) tab296) (Nat.le_of_ble_eq_true rfl) ?_); (show wp C _ none B296.code _ _); (simp only [B296]); simp -implicitDefEqProofs (disch := first | assumption | decide | omega | (simp only [wpD1] <;> omega) | (simp only [wpD2] <;> assumption) | solve_by_elim [HSub.refl, HSub.push, HSub.reserve] | fail) only [↓wpPre, wpPost, wpPoly, Int.reduceToNat, Int.reducePow, Int.reduceMul, Int.reduceAdd, Int.reduceSub, Int.reduceNeg, Nat.reduceAdd, Nat.reduceMul, Nat.reducePow, Int.reduceLT, Int.reduceLE, Int.reduceEq, Nat.reduceEqDiff, hz]
  refine wp_loopI (fun j t h' => HSub h h' ∧ h.size + 1 < h'.size ∧ h'.get h.size = some (.cells [v, w] true 0) ∧ ∃ k : Nat, h'.get (h.size + 1) = some (.cells (smps (bankL s c a 1 k ++ List.replicate (m - k) (0, 0))) true 0) ∧ t 1 = .int .i64 a ∧ t 3 = .ptr h.size 0 ∧ t 7 = .slice (h.size + 1) 0 m (.known m) ∧ t 12 = .int .i64 (m : Nat) ∧ t 13 = .int .i64 (k : Nat) ∧ k ≤ m ∧ j = m - k) (j0 := m)
    ⟨(HSub.push1 _ _).push _, by simp, by simp -implicitDefEqProofs (disch := first | assumption | decide | omega | (simp only [wpD1] <;> omega) | (simp only [wpD2] <;> assumption) | solve_by_elim [HSub.refl, HSub.push, HSub.reserve] | fail) only [↓wpPre, wpPost, wpPoly, Int.reduceToNat, Int.reducePow, Int.reduceMul, Int.reduceAdd, Int.reduceSub, Int.reduceNeg, Nat.reduceAdd, Nat.reduceMul, Nat.reducePow, Int.reduceLT, Int.reduceLE, Int.reduceEq, Nat.reduceEqDiff], 0, by simp -implicitDefEqProofs (disch := first | assumption | decide | omega | (simp only [wpD1] <;> omega) | (simp only [wpD2] <;> assumption) | solve_by_elim [HSub.refl, HSub.push, HSub.reserve] | fail) only [↓wpPre, wpPost, wpPoly, Int.reduceToNat, Int.reducePow, Int.reduceMul, Int.reduceAdd, Int.reduceSub, Int.reduceNeg, Nat.reduceAdd, Nat.reduceMul, Nat.reducePow, Int.reduceLT, Int.reduceLE, Int.reduceEq, Nat.reduceEqDiff]; rfl, rfl, rfl, rfl, rfl, rfl, by omega, rfl⟩ ?_
  rintro j t h1 ⟨s1, hz, gv, k, gb, e1, e3, e7, e12, e13, hk, hj⟩
  simp -implicitDefEqProofs (disch := first | assumption | decide | omega | (simp only [wpD1] <;> omega) | (simp only [wpD2] <;> assumption) | solve_by_elim [HSub.refl, HSub.push, HSub.reserve] | fail) only [↓wpPre, wpPost, wpPoly, Int.reduceToNat, Int.reducePow, Int.reduceMul, Int.reduceAdd, Int.reduceSub, Int.reduceNeg, Nat.reduceAdd, Nat.reduceMul, Nat.reducePow, Int.reduceLT, Int.reduceLE, Int.reduceEq, Nat.reduceEqDiff, e12, e13]
  refine Br.by (fun c3 => ?_) (fun c3 => ?_)
  · have hk' : k < m := by omega
    have kS := kS (a + (k : Nat)) (by omega) h1 s1
    have bs := bankZ_set (s := s) (c := c) (a := a) (w := 1) hk'
    rw [Int.mul_one] at bs
    have hwl : (bankL s c a 1 k ++ List.replicate (m - k) (0, 0)).length = m := by simp [bankL_length]; omega
    have hsl : (smps (bankL s c a 1 k ++ List.replicate (m - k) (0, 0))).length = m * 2 := by rw [smps_length, hwl]
    have hset := smps_splice (l := bankL s c a 1 k ++ List.replicate (m - k) (0, 0)) (k := k) (p := sumP s c (a + (k : Nat))) (by rw [hwl]; exact hk')
    rw [bs] at hset
    generalize sumP s c (a + (k : Nat)) = q at *
    obtain ⟨qx, qy⟩ := q
    unfold smp at kS
    dsimp only at kS hset
    simp -implicitDefEqProofs (disch := first | assumption | decide | omega | (simp only [wpD1] <;> omega) | (simp only [wpD2] <;> assumption) | solve_by_elim [HSub.refl, HSub.push, HSub.reserve] | fail) only [↓wpPre, wpPost, wpPoly, Int.reduceToNat, Int.reducePow, Int.reduceMul, Int.reduceAdd, Int.reduceSub, Int.reduceNeg, Nat.reduceAdd, Nat.reduceMul, Nat.reducePow, Int.reduceLT, Int.reduceLE, Int.reduceEq, Nat.reduceEqDiff, e1, e3, e7, e13, gv]
    refine ACallsK.eq kS ?_
    simp -implicitDefEqProofs (disch := first | assumption | decide | omega | (simp only [wpD1] <;> omega) | (simp only [wpD2] <;> assumption) | solve_by_elim [HSub.refl, HSub.push, HSub.reserve] | fail) only [↓wpPre, wpPost, wpPoly, Int.reduceToNat, Int.reducePow, Int.reduceMul, Int.reduceAdd, Int.reduceSub, Int.reduceNeg, Nat.reduceAdd, Nat.reduceMul, Nat.reducePow, Int.reduceLT, Int.reduceLE, Int.reduceEq, Nat.reduceEqDiff, e1, e3, e7, e12, e13, gv, gb, hset, hsl]
    exact ⟨_, ⟨(by repeat (first | exact s1 | refine HSub.put ?_ (by (try simp only [Heap.size_put, Heap.size_push, Heap.size_reserve]); omega) _ | refine HSub.push ?_ _ | refine HSub.reserve ?_ _)), hz, k + 1, rfl, by simp, by omega, rfl⟩, by omega⟩
  · have ek : k = m := by omega
    subst ek
    rw [Nat.sub_self, List.replicate_zero, List.append_nil] at gb
    simp -implicitDefEqProofs (disch := first | assumption | decide | omega | (simp only [wpD1] <;> omega) | (simp only [wpD2] <;> assumption) | solve_by_elim [HSub.refl, HSub.push, HSub.reserve] | fail) only [↓wpPre, wpPost, wpPoly, Int.reduceToNat, Int.reducePow, Int.reduceMul, Int.reduceAdd, Int.reduceSub, Int.reduceNeg, Nat.reduceAdd, Nat.reduceMul, Nat.reducePow, Int.reduceLT, Int.reduceLE, Int.reduceEq, Nat.reduceEqDiff, e7]
    exact ⟨s1, SI.known gb ⟨(bankL_length _ _ _ _ _).symm, by omega⟩ (Nat.le_refl _)⟩
set_option maxHeartbeats 1000000 in
theorem Bank_spec (hC : Has C T277) {v : AV} {s : List (Int × Int)} {d o p a many : Int} {h : Heap} (hs : SI h v s) (hd : In64 d) (ho : In64 o) (hp : In64 p) (ha : In64 a) (hm : In64 many) (hn : ¬ (64 < many ∧ many ≤ 8192)) :
    ACalls C 277 [v, .int .i64 d, .int .i64 o, .int .i64 p, .int .i64 a, .int .i64 many] h (fun r h' => ∃ w, r = lstErr w (bankE s d o p a many) ∧ HSub h h' ∧ SI h' w (if bankE s d o p a many = 0 then bankL s (sampL d p o.toNat) a 1 many.toNat else [])) := by
  have kM := made292_spec (hC.sub (T' := T292) (by decide)) hs hd ho hp ha
  have v1 := hs.one
  unfold In64 at hm
  unfold bankE manyE
  (refine calls_intro (hC.body (by decide) tab277) (Nat.le_of_ble_eq_true rfl) ?_); (show wp C _ none B277.code _ _); (simp only [B277]); simp -implicitDefEqProofs (disch := first | assumption | decide | omega | (simp only [wpD1] <;> omega) | (simp only [wpD2] <;> assumption) | solve_by_elim [HSub.refl, HSub.push, HSub.reserve] | fail) only [↓wpPre, wpPost, wpPoly, Int.reduceToNat, Int.reducePow, Int.reduceMul, Int.reduceAdd, Int.reduceSub, Int.reduceNeg, Nat.reduceAdd, Nat.reduceMul, Nat.reducePow, Int.reduceLT, Int.reduceLE, Int.reduceEq, Nat.reduceEqDiff]
  refine ACallsK.of kM ?_
  rintro r h1 ⟨s1, x, rfl, g0, g1⟩
  by_cases c : bankErr s d o p a = 0
  · have ok := bankErr_ok c
    obtain ⟨w, rfl, R⟩ := g0 c
    have w1 := R.one
    have sb := fun (H : Heap) i => storeB_two (H := H) (i := i) (a := .nilslice) (b := .nilslice) v1 w1
    rw [c, if_neg (by decide)]
    unfold corA
    by_cases c2 : many < 0 ∨ 8192 < many
    · rw [if_pos c2]
      simp -implicitDefEqProofs (disch := first | assumption | decide | omega | (simp only [wpD1] <;> omega) | (simp only [wpD2] <;> assumption) | solve_by_elim [HSub.refl, HSub.push, HSub.reserve] | fail) only [↓wpPre, wpPost, wpPoly, Int.reduceToNat, Int.reducePow, Int.reduceMul, Int.reduceAdd, Int.reduceSub, Int.reduceNeg, Nat.reduceAdd, Nat.reduceMul, Nat.reducePow, Int.reduceLT, Int.reduceLE, Int.reduceEq, Nat.reduceEqDiff, corE, sb]
      (repeat' (first | (refine Br.by (fun _ => ?_) (fun _ => ?_)) | (simp -implicitDefEqProofs (disch := first | assumption | decide | omega | (simp only [wpD1] <;> omega) | (simp only [wpD2] <;> assumption) | solve_by_elim [HSub.refl, HSub.push, HSub.reserve] | fail) only [↓wpPre, wpPost, wpPoly, Int.reduceToNat, Int.reducePow, Int.reduceMul, Int.reduceAdd, Int.reduceSub, Int.reduceNeg, Nat.reduceAdd, Nat.reduceMul, Nat.reducePow, Int.reduceLT, Int.reduceLE, Int.reduceEq, Nat.reduceEqDiff, gV_u])))
      all_goals first
        | (exfalso; omega)
        | exact ⟨_, rfl, (by repeat (first | exact s1 | refine HSub.put ?_ (by (try simp only [Heap.size_put, Heap.size_push, Heap.size_reserve]); omega) _ | refine HSub.push ?_ _ | refine HSub.reserve ?_ _)), SI.nil⟩
    · obtain ⟨m, rfl⟩ := Int.eq_ofNat_of_zero_le (show 0 ≤ many by omega)
      have kS := fun h2 (q : HSub h1 h2) => plain296_spec (hC.sub (T' := T296) (by decide)) (a := a) (m := m) (hs.mono (s1.trans q)) (R.mono q) ok.2.1 (sampL_one1 _ _ _) (by have := samp_len ok.2.2.1; omega) (by omega) (by omega)
      unfold corA at kS
      rw [if_neg c2, if_pos rfl, Int.toNat_natCast]
      simp -implicitDefEqProofs (disch := first | assumption | decide | omega | (simp only [wpD1] <;> omega) | (simp only [wpD2] <;> assumption) | solve_by_elim [HSub.refl, HSub.push, HSub.reserve] | fail) only [↓wpPre, wpPost, wpPoly, Int.reduceToNat, Int.reducePow, Int.reduceMul, Int.reduceAdd, Int.reduceSub, Int.reduceNeg, Nat.reduceAdd, Nat.reduceMul, Nat.reducePow, Int.reduceLT, Int.reduceLE, Int.reduceEq, Nat.reduceEqDiff, corE, sb, gV_u]
      refine ACallsK.of (kS _ (by repeat (first | exact HSub.refl h1 | refine HSub.put ?_ (by (try simp only [Heap.size_put, Heap.size_push, Heap.size_reserve]); omega) _ | refine HSub.push ?_ _ | refine HSub.reserve ?_ _))) ?_
      rintro r h2 ⟨s2, R2⟩
      simp -implicitDefEqProofs (disch := first | assumption | decide | omega | (simp only [wpD1] <;> omega) | (simp only [wpD2] <;> assumption) | solve_by_elim [HSub.refl, HSub.push, HSub.reserve] | fail) only [↓wpPre, wpPost, wpPoly, Int.reduceToNat, Int.reducePow, Int.reduceMul, Int.reduceAdd, Int.reduceSub, Int.reduceNeg, Nat.reduceAdd, Nat.reduceMul, Nat.reducePow, Int.reduceLT, Int.reduceLE, Int.reduceEq, Nat.reduceEqDiff]
      exact ⟨_, rfl, s1.trans (by exact ((HSub.push1 _ _).trans s2)), R2⟩
  · rw [g1 c, if_pos c, if_neg c]
    unfold corA
    generalize bankErr s d o p a = e at *
    simp -implicitDefEqProofs (disch := first | assumption | decide | omega | (simp only [wpD1] <;> omega) | (simp only [wpD2] <;> assumption) | solve_by_elim [HSub.refl, HSub.push, HSub.reserve] | fail) only [↓wpPre, wpPost, wpPoly, Int.reduceToNat, Int.reducePow, Int.reduceMul, Int.reduceAdd, Int.reduceSub, Int.reduceNeg, Nat.reduceAdd, Nat.reduceMul, Nat.reducePow, Int.reduceLT, Int.reduceLE, Int.reduceEq, Nat.reduceEqDiff, corE, c]
    exact ⟨_, rfl, (by repeat (first | exact s1 | refine HSub.put ?_ (by (try simp only [Heap.size_put, Heap.size_push, Heap.size_reserve]); omega) _ | refine HSub.push ?_ _ | refine HSub.reserve ?_ _)), SI.nil⟩
end
end Go.Ae

/- Bank of the reference, Windows of the reference, Three of both. -/
set_option linter.unusedSimpArgs false
set_option linter.unusedVariables false
namespace Go.Ae
def winE (s : List (Int × Int)) (d o p a many : Int) : Int := manyE (bankErr s d o p a) many 1000
def sums3 (x y z : Int × Int) : AV := .agg [.int .i64 x.1, .int .i64 x.2, .int .i64 y.1, .int .i64 y.2, .int .i64 z.1, .int .i64 z.2]
def threeE (s : List (Int × Int)) (d o p a half : Int) : AV :=
  if bankErr s d o p a ≠ 0 then .tuple [sums3 (0, 0) (0, 0) (0, 0), .int .i64 (bankErr s d o p a)] else if half < 0 ∨ 64 < half then .tuple [sums3 (0, 0) (0, 0) (0, 0), .int .i64 2]
  else .tuple [sums3 (sumP s (sampL d p o.toNat) (a - half)) (sumP s (sampL d p o.toNat) a) (sumP s (sampL d p o.toNat) (a + half)), .int .i64 0]
theorem sums3_free (x y z : Int × Int) (e : Int) : (AV.tuple [sums3 x y z, .int .i64 e]).free := free_tuple (by simp [sums3, AV.free, AV.bel, AV.bels])
theorem threeE_free (s : List (Int × Int)) (d o p a half : Int) : (threeE s d o p a half).free := by
  unfold threeE
  split
  · exact sums3_free _ _ _ _
  · split <;> exact sums3_free _ _ _ _
section
variable {C : Ctx}
set_option maxHeartbeats 1000000 in
theorem Three_spec (hC : Has C T281) {v : AV} {s : List (Int × Int)} {d o p a half : Int} {h : Heap} (hs : SI h v s) (hd : In64 d) (ho : In64 o) (hp : In64 p) (ha : In64 a) (hm : In64 half) :
    ACalls C 281 [v, .int .i64 d, .int .i64 o, .int .i64 p, .int .i64 a, .int .i64 half] h (fun r h' => r = threeE s d o p a half ∧ h' = h) := by
  refine ACalls.gc0 (P := fun r h' => r = threeE s d o p a half ∧ HSub h h') ?_ (fun r h' hp => ⟨by rw [hp.1]; exact threeE_free _ _ _ _ _ _, hp.2, hp.1, rfl⟩)
  have kM := fun h1 (q : HSub h h1) => made292_spec (hC.sub (T' := T292) (by decide)) (hs.mono q) hd ho hp ha
  have v1 := hs.one
  unfold In64 at hm
  unfold threeE
  (refine calls_intro (hC.body (by decide) tab281) (Nat.le_of_ble_eq_true rfl) ?_); (show wp C _ none B281.code _ _); (simp only [B281]); simp -implicitDefEqProofs (disch := first | assumption | decide | omega | (simp only [wpD1] <;> omega) | (simp only [wpD2] <;> assumption) | solve_by_elim [HSub.refl, HSub.push, HSub.reserve] | fail) only [↓wpPre, wpPost, wpPoly, Int.reduceToNat, Int.reducePow, Int.reduceMul, Int.reduceAdd, Int.reduceSub, Int.reduceNeg, Nat.reduceAdd, Nat.reduceMul, Nat.reducePow, Int.reduceLT, Int.reduceLE, Int.reduceEq, Nat.reduceEqDiff]
  refine ACallsK.of (kM _ (HSub.push1 _ _)) ?_
  rintro r h1 ⟨s1, x, rfl, g0, g1⟩
  have gz : h1.get h.size = some (.cells [.int .i64 0, .int .i64 0, .int .i64 0, .int .i64 0, .int .i64 0, .int .i64 0] true 0) := (s1.get _ (by simp)).trans (get_push_eq rfl)
  have hz : h.size < h1.size := by have := s1.size; simp only [Heap.size_push] at this; omega
  have s0 := (HSub.push1 h (.cells [.int .i64 0, .int .i64 0, .int .i64 0, .int .i64 0, .int .i64 0, .int .i64 0] true 0)).trans s1
  by_cases c : bankErr s d o p a = 0
  · have ok := bankErr_ok c
    obtain ⟨w, rfl, R⟩ := g0 c
    have w1 := R.one
    have sb := fun (H : Heap) i => storeB_two (H := H) (i := i) (a := .nilslice) (b := .nilslice) v1 w1
    rw [c, if_neg (by decide)]
    unfold corA
    by_cases c2 : half < 0 ∨ 64 < half
    · rw [if_pos c2]
      unfold sums3
      simp -implicitDefEqProofs (disch := first | assumption | decide | omega | (simp only [wpD1] <;> omega) | (simp only [wpD2] <;> assumption) | solve_by_elim [HSub.refl, HSub.push, HSub.reserve] | fail) only [↓wpPre, wpPost, wpPoly, Int.reduceToNat, Int.reducePow, Int.reduceMul, Int.reduceAdd, Int.reduceSub, Int.reduceNeg, Nat.reduceAdd, Nat.reduceMul, Nat.reducePow, Int.reduceLT, Int.reduceLE, Int.reduceEq, Nat.reduceEqDiff, corE, sb]
      (repeat' (first | (refine Br.by (fun _ => ?_) (fun _ => ?_)) | (simp -implicitDefEqProofs (disch := first | assumption | decide | omega | (simp only [wpD1] <;> omega) | (simp only [wpD2] <;> assumption) | solve_by_elim [HSub.refl, HSub.push, HSub.reserve] | fail) only [↓wpPre, wpPost, wpPoly, Int.reduceToNat, Int.reducePow, Int.reduceMul, Int.reduceAdd, Int.reduceSub, Int.reduceNeg, Nat.reduceAdd, Nat.reduceMul, Nat.reducePow, Int.reduceLT, Int.reduceLE, Int.reduceEq, Nat.reduceEqDiff, gV_u, gz])))
      all_goals first
        | (exfalso; omega)
        | exact (by repeat (first | exact s0 | refine HSub.put ?_ (by (try simp only [Heap.size_put, Heap.size_push, Heap.size_reserve]); omega) _ | refine HSub.push ?_ _ | refine HSub.reserve ?_ _))
    · have kS := fun (b : Int) (hb : -100000000 ≤ b ∧ b ≤ 100000000) h2 (q : HSub h1 h2) => sum293_spec (hC.sub (T' := T293) (by decide)) (a := b) (hs.mono (s0.trans q)) (R.mono q) ok.2.1 (sampL_one1 _ _ _) (by have := samp_len ok.2.2.1; omega) hb
      rw [if_neg c2]
      have q1 := fun h2 q => kS (a - half) (by omega) h2 q
      have q2 := fun h2 q => kS a (by omega) h2 q
      have q3 := fun h2 q => kS (a + half) (by omega) h2 q
      unfold corA at q1 q2 q3
      unfold sums3
      generalize sumP s (sampL d p o.toNat) (a - half) = y1 at *
      generalize sumP s (sampL d p o.toNat) a = y2 at *
      generalize sumP s (sampL d p o.toNat) (a + half) = y3 at *
      obtain ⟨a1, a2⟩ := y1
      obtain ⟨b1, b2⟩ := y2
      obtain ⟨c1, c2⟩ := y3
      unfold smp at q1 q2 q3
      dsimp only at q1 q2 q3 ⊢
      simp -implicitDefEqProofs (disch := first | assumption | decide | omega | (simp only [wpD1] <;> omega) | (simp only [wpD2] <;> assumption) | solve_by_elim [HSub.refl, HSub.push, HSub.reserve] | fail) only [↓wpPre, wpPost, wpPoly, Int.reduceToNat, Int.reducePow, Int.reduceMul, Int.reduceAdd, Int.reduceSub, Int.reduceNeg, Nat.reduceAdd, Nat.reduceMul, Nat.reducePow, Int.reduceLT, Int.reduceLE, Int.reduceEq, Nat.reduceEqDiff, corE, sb, gV_u]
      refine ACallsK.eq (q1 _ (by repeat (first | exact HSub.refl h1 | refine HSub.put ?_ (by (try simp only [Heap.size_put, Heap.size_push, Heap.size_reserve]); omega) _ | refine HSub.push ?_ _ | refine HSub.reserve ?_ _))) ?_
      simp -implicitDefEqProofs (disch := first | assumption | decide | omega | (simp only [wpD1] <;> omega) | (simp only [wpD2] <;> assumption) | solve_by_elim [HSub.refl, HSub.push, HSub.reserve] | fail) only [↓wpPre, wpPost, wpPoly, Int.reduceToNat, Int.reducePow, Int.reduceMul, Int.reduceAdd, Int.reduceSub, Int.reduceNeg, Nat.reduceAdd, Nat.reduceMul, Nat.reducePow, Int.reduceLT, Int.reduceLE, Int.reduceEq, Nat.reduceEqDiff]
      refine ACallsK.eq (q2 _ (by repeat (first | exact HSub.refl h1 | refine HSub.put ?_ (by (try simp only [Heap.size_put, Heap.size_push, Heap.size_reserve]); omega) _ | refine HSub.push ?_ _ | refine HSub.reserve ?_ _))) ?_
      simp -implicitDefEqProofs (disch := first | assumption | decide | omega | (simp only [wpD1] <;> omega) | (simp only [wpD2] <;> assumption) | solve_by_elim [HSub.refl, HSub.push, HSub.reserve] | fail) only [↓wpPre, wpPost, wpPoly, Int.reduceToNat, Int.reducePow, Int.reduceMul, Int.reduceAdd, Int.reduceSub, Int.reduceNeg, Nat.reduceAdd, Nat.reduceMul, Nat.reducePow, Int.reduceLT, Int.reduceLE, Int.reduceEq, Nat.reduceEqDiff]
      refine ACallsK.eq (q3 _ (by repeat (first | exact HSub.refl h1 | refine HSub.put ?_ (by (try simp only [Heap.size_put, Heap.size_push, Heap.size_reserve]); omega) _ | refine HSub.push ?_ _ | refine HSub.reserve ?_ _))) ?_
      simp -implicitDefEqProofs (disch := first | assumption | decide | omega | (simp only [wpD1] <;> omega) | (simp only [wpD2] <;> assumption) | solve_by_elim [HSub.refl, HSub.push, HSub.reserve] | fail) only [↓wpPre, wpPost, wpPoly, Int.reduceToNat, Int.reducePow, Int.reduceMul, Int.reduceAdd, Int.reduceSub, Int.reduceNeg, Nat.reduceAdd, Nat.reduceMul, Nat.reducePow, Int.reduceLT, Int.reduceLE, Int.reduceEq, Nat.reduceEqDiff, gz]
      exact (by repeat (first | exact s0 | refine HSub.put ?_ (by (try simp only [Heap.size_put, Heap.size_push, Heap.size_reserve]); omega) _ | refine HSub.push ?_ _ | refine HSub.reserve ?_ _))
  · rw [g1 c, if_pos c]
    unfold corA sums3
    generalize bankErr s d o p a = e at *
    simp -implicitDefEqProofs (disch := first | assumption | decide | omega | (simp only [wpD1] <;> omega) | (simp only [wpD2] <;> assumption) | solve_by_elim [HSub.refl, HSub.push, HSub.reserve] | fail) only [↓wpPre, wpPost, wpPoly, Int.reduceToNat, Int.reducePow, Int.reduceMul, Int.reduceAdd, Int.reduceSub, Int.reduceNeg, Nat.reduceAdd, Nat.reduceMul, Nat.reducePow, Int.reduceLT, Int.reduceLE, Int.reduceEq, Nat.reduceEqDiff, corE, c, gz]
    exact (by repeat (first | exact s0 | refine HSub.put ?_ (by (try simp only [Heap.size_put, Heap.size_push, Heap.size_reserve]); omega) _ | refine HSub.push ?_ _ | refine HSub.reserve ?_ _))
end
end Go.Ae

/- Windows, of the program and of the reference. -/
set_option linter.unusedSimpArgs false
set_option linter.unusedVariables false
namespace Go.Ae
theorem win_prod {k L : Nat} (hk : k ≤ 1000) (hL : L ≤ 8184) : 0 ≤ (k : Int) * (L : Int) ∧ (k : Int) * (L : Int) ≤ 8184000 := by
  have : k * L ≤ 1000 * 8184 := Nat.mul_le_mul hk hL
  have e : (k : Int) * (L : Int) = ((k * L : Nat) : Int) := (Int.natCast_mul k L).symm
  omega
section
variable {C : Ctx}
theorem windows298_spec (hC : Has C T298) {a L m : Int} {h : Heap} : ACalls C 298 [.int .i64 a, .int .i64 L, .int .i64 m] h (fun r h' => r = .func 304 [] [.ptr (h.size + 2) 0, .ptr h.size 0, .ptr (h.size + 1) 0] ∧
    h' = ((h.push (.cells [.int .i64 a] true 0)).push (.cells [.int .i64 L] true 0)).push (.cells [.int .i64 m] true 0)) := by
  (refine calls_intro (hC.body (by decide) tab298) (Nat.le_of_ble_eq_true rfl) ?_); (show wp C _ none B298.code _ _); (simp only [B298]); simp -implicitDefEqProofs (disch := first | assumption | decide | omega | (simp only [wpD1] <;> omega) | (simp only [wpD2] <;> assumption) | solve_by_elim [HSub.refl, HSub.push, HSub.reserve] | fail) only [↓wpPre, wpPost, wpPoly, Int.reduceToNat, Int.reducePow, Int.reduceMul, Int.reduceAdd, Int.reduceSub, Int.reduceNeg, Nat.reduceAdd, Nat.reduceMul, Nat.reducePow, Int.reduceLT, Int.reduceLE, Int.reduceEq, Nat.reduceEqDiff]
theorem windows304_iter (hC : Has C T304) {l bm ba bs m L : Nat} {a : Int} {h : Heap} (hm : m ≤ 1000) (hL : L ≤ 8184) (ha : -10000000 ≤ a ∧ a ≤ 10000000) (J : Nat → Heap → Prop) (D : Heap → Prop) (h0 : J 0 h)
    (hb : ∀ k h', J k h' → h'.get bm = some (.cells [.int .i64 (m : Nat)] true 0) ∧ h'.get ba = some (.cells [.int .i64 a] true 0) ∧ h'.get bs = some (.cells [.int .i64 (L : Nat)] true 0))
    (hy : ∀ k h', J k h' → k < m → AYield C l [.int .i64 (k : Nat), .int .i64 (a + (k : Nat) * (L : Nat))] h' (fun r h'' => (r = .bool true ∧ J (k + 1) h'') ∨ (r = .bool false ∧ D h'')))
    (hd : ∀ h', J m h' → D h') : ACalls C 304 [.yield l, .ptr bm 0, .ptr ba 0, .ptr bs 0] h (fun _ h' => D h') := by
  obtain ⟨g0, g1, g2⟩ := hb 0 h h0
  (refine calls_intro (hC.body (by decide) tab304) (Nat.le_of_ble_eq_true rfl) ?_); (show wp C _ none B304.code _ _); (simp only [B304]); simp -implicitDefEqProofs (disch := first | assumption | decide | omega | (simp only [wpD1] <;> omega) | (simp only [wpD2] <;> assumption) | solve_by_elim [HSub.refl, HSub.push, HSub.reserve] | fail) only [↓wpPre, wpPost, wpPoly, Int.reduceToNat, Int.reducePow, Int.reduceMul, Int.reduceAdd, Int.reduceSub, Int.reduceNeg, Nat.reduceAdd, Nat.reduceMul, Nat.reducePow, Int.reduceLT, Int.reduceLE, Int.reduceEq, Nat.reduceEqDiff, g0]
  refine wp_loopI (fun j t h' => ∃ k : Nat, J k h' ∧ t 0 = .yield l ∧ t 2 = .ptr ba 0 ∧ t 3 = .ptr bs 0 ∧ t 6 = .int .i64 (m : Nat) ∧ t 7 = .int .i64 (k : Nat) ∧ k ≤ m ∧ j = m - k) (j0 := m) ⟨0, h0, rfl, rfl, rfl, rfl, rfl, by omega, rfl⟩ ?_
  rintro j t h' ⟨k, hJ, e0, e2, e3, e6, e7, hk, hj⟩
  obtain ⟨g0, g1, g2⟩ := hb k h' hJ
  simp -implicitDefEqProofs (disch := first | assumption | decide | omega | (simp only [wpD1] <;> omega) | (simp only [wpD2] <;> assumption) | solve_by_elim [HSub.refl, HSub.push, HSub.reserve] | fail) only [↓wpPre, wpPost, wpPoly, Int.reduceToNat, Int.reducePow, Int.reduceMul, Int.reduceAdd, Int.reduceSub, Int.reduceNeg, Nat.reduceAdd, Nat.reduceMul, Nat.reducePow, Int.reduceLT, Int.reduceLE, Int.reduceEq, Nat.reduceEqDiff, e6, e7]
  refine Br.by (fun c => ?_) (fun c => ?_)
  · have hk' : k < m := by omega
    have wp := win_prod (k := k) (by omega) hL
    have hy := hy k h' hJ hk'
    generalize hkc : (k : Int) * (L : Int) = kc at *
    simp -implicitDefEqProofs (disch := first | assumption | decide | omega | (simp only [wpD1] <;> omega) | (simp only [wpD2] <;> assumption) | solve_by_elim [HSub.refl, HSub.push, HSub.reserve] | fail) only [↓wpPre, wpPost, wpPoly, Int.reduceToNat, Int.reducePow, Int.reduceMul, Int.reduceAdd, Int.reduceSub, Int.reduceNeg, Nat.reduceAdd, Nat.reduceMul, Nat.reducePow, Int.reduceLT, Int.reduceLE, Int.reduceEq, Nat.reduceEqDiff, e0, e2, e3, e7, g1, g2, hkc]
    refine AYieldK.of hy ?_
    rintro r h'' (⟨rfl, hJ'⟩ | ⟨rfl, hD⟩)
    · simp -implicitDefEqProofs (disch := first | assumption | decide | omega | (simp only [wpD1] <;> omega) | (simp only [wpD2] <;> assumption) | solve_by_elim [HSub.refl, HSub.push, HSub.reserve] | fail) only [↓wpPre, wpPost, wpPoly, Int.reduceToNat, Int.reducePow, Int.reduceMul, Int.reduceAdd, Int.reduceSub, Int.reduceNeg, Nat.reduceAdd, Nat.reduceMul, Nat.reducePow, Int.reduceLT, Int.reduceLE, Int.reduceEq, Nat.reduceEqDiff, e0, e2, e3, e6, e7]
      exact ⟨_, ⟨k + 1, hJ', by simp, by omega, rfl⟩, by omega⟩
    · simp -implicitDefEqProofs (disch := first | assumption | decide | omega | (simp only [wpD1] <;> omega) | (simp only [wpD2] <;> assumption) | solve_by_elim [HSub.refl, HSub.push, HSub.reserve] | fail) only [↓wpPre, wpPost, wpPoly, Int.reduceToNat, Int.reducePow, Int.reduceMul, Int.reduceAdd, Int.reduceSub, Int.reduceNeg, Nat.reduceAdd, Nat.reduceMul, Nat.reducePow, Int.reduceLT, Int.reduceLE, Int.reduceEq, Nat.reduceEqDiff]
      exact hD
  · have ek : k = m := by omega
    subst ek
    simp -implicitDefEqProofs (disch := first | assumption | decide | omega | (simp only [wpD1] <;> omega) | (simp only [wpD2] <;> assumption) | solve_by_elim [HSub.refl, HSub.push, HSub.reserve] | fail) only [↓wpPre, wpPost, wpPoly, Int.reduceToNat, Int.reducePow, Int.reduceMul, Int.reduceAdd, Int.reduceSub, Int.reduceNeg, Nat.reduceAdd, Nat.reduceMul, Nat.reducePow, Int.reduceLT, Int.reduceLE, Int.reduceEq, Nat.reduceEqDiff]
    exact hd _ hJ
set_option maxHeartbeats 2000000 in
set_option maxRecDepth 20000 in
theorem Windows_spec (hC : Has C T279) {v : AV} {s : List (Int × Int)} {d o p a many : Int} {h : Heap} (hs : SI h v s) (hd : In64 d) (ho : In64 o) (hp : In64 p) (ha : In64 a) (hm : In64 many) :
    ACalls C 279 [v, .int .i64 d, .int .i64 o, .int .i64 p, .int .i64 a, .int .i64 many] h (fun r h' => ∃ w, r = lstErr w (winE s d o p a many) ∧ HSub h h' ∧ SI h' w (if winE s d o p a many = 0 then bankL s (sampL d p o.toNat) a (sampL d p o.toNat).length many.toNat else [])) := by
  have kM := made292_spec (hC.sub (T' := T292) (by decide)) hs hd ho hp ha
  have v1 := hs.one
  unfold In64 at hm
  unfold winE manyE
  (refine calls_intro (hC.body (by decide) tab279) (Nat.le_of_ble_eq_true rfl) ?_); (show wp C _ none B279.code _ _); (simp only [B279]); simp -implicitDefEqProofs (disch := first | assumption | decide | omega | (simp only [wpD1] <;> omega) | (simp only [wpD2] <;> assumption) | solve_by_elim [HSub.refl, HSub.push, HSub.reserve] | fail) only [↓wpPre, wpPost, wpPoly, Int.reduceToNat, Int.reducePow, Int.reduceMul, Int.reduceAdd, Int.reduceSub, Int.reduceNeg, Nat.reduceAdd, Nat.reduceMul, Nat.reducePow, Int.reduceLT, Int.reduceLE, Int.reduceEq, Nat.reduceEqDiff]
  refine ACallsK.of kM ?_
  rintro r h1 ⟨s1, x, rfl, g0, g1⟩
  by_cases c : bankErr s d o p a = 0
  · have ok := bankErr_ok c
    obtain ⟨w, rfl, R⟩ := g0 c
    have w1 := R.one
    have sb := fun (H : Heap) i => storeB_two (H := H) (i := i) (a := .nilslice) (b := .nilslice) v1 w1
    rw [c, if_neg (by decide)]
    unfold corA
    by_cases c2 : many < 0 ∨ 1000 < many
    · rw [if_pos c2]
      simp -implicitDefEqProofs (disch := first | assumption | decide | omega | (simp only [wpD1] <;> omega) | (simp only [wpD2] <;> assumption) | solve_by_elim [HSub.refl, HSub.push, HSub.reserve] | fail) only [↓wpPre, wpPost, wpPoly, Int.reduceToNat, Int.reducePow, Int.reduceMul, Int.reduceAdd, Int.reduceSub, Int.reduceNeg, Nat.reduceAdd, Nat.reduceMul, Nat.reducePow, Int.reduceLT, Int.reduceLE, Int.reduceEq, Nat.reduceEqDiff, corE, sb]
      (repeat' (first | (refine Br.by (fun _ => ?_) (fun _ => ?_)) | (simp -implicitDefEqProofs (disch := first | assumption | decide | omega | (simp only [wpD1] <;> omega) | (simp only [wpD2] <;> assumption) | solve_by_elim [HSub.refl, HSub.push, HSub.reserve] | fail) only [↓wpPre, wpPost, wpPoly, Int.reduceToNat, Int.reducePow, Int.reduceMul, Int.reduceAdd, Int.reduceSub, Int.reduceNeg, Nat.reduceAdd, Nat.reduceMul, Nat.reducePow, Int.reduceLT, Int.reduceLE, Int.reduceEq, Nat.reduceEqDiff, gV_u])))
      all_goals first
        | (exfalso; omega)
        | exact ⟨_, rfl, (by repeat (first | exact s1 | refine HSub.put ?_ (by (try simp only [Heap.size_put, Heap.size_push, Heap.size_reserve]); omega) _ | refine HSub.push ?_ _ | refine HSub.reserve ?_ _)), SI.nil⟩
    · obtain ⟨m, rfl⟩ := Int.eq_ofNat_of_zero_le (show 0 ≤ many by omega)
      have sl := samp_len ok.2.2.1
      have kS := fun (b : Int) (hb : -100000000 ≤ b ∧ b ≤ 100000000) h2 (q : HSub h1 h2) => sum293_spec (hC.sub (T' := T293) (by decide)) (a := b) (hs.mono (s1.trans q)) (R.mono q) ok.2.1 (sampL_one1 _ _ _) (by omega) hb
      have hz := smps_replicate (p := (0, 0)) (n := m)
      simp only at hz
      rw [if_neg c2, if_pos rfl, Int.toNat_natCast]
      generalize sampL d p o.toNat = c at *
      unfold corA at kS
      simp -implicitDefEqProofs (disch := first | assumption | decide | omega | (simp only [wpD1] <;> omega) | (simp only [wpD2] <;> assumption) | solve_by_elim [HSub.refl, HSub.push, HSub.reserve] | fail) only [↓wpPre, wpPost, wpPoly, Int.reduceToNat, Int.reducePow, Int.reduceMul, Int.reduceAdd, Int.reduceSub, Int.reduceNeg, Nat.reduceAdd, Nat.reduceMul, Nat.reducePow, Int.reduceLT, Int.reduceLE, Int.reduceEq, Nat.reduceEqDiff, corE, sb, gV_u, hz, R.len]
      refine ACallsK.hide (fun H hH => ?_)
      have N : H.size = h1.size + 3 := by rw [hH]; simp -implicitDefEqProofs (disch := first | assumption | decide | omega | (simp only [wpD1] <;> omega) | (simp only [wpD2] <;> assumption) | solve_by_elim [HSub.refl, HSub.push, HSub.reserve] | fail) only [↓wpPre, wpPost, wpPoly, Int.reduceToNat, Int.reducePow, Int.reduceMul, Int.reduceAdd, Int.reduceSub, Int.reduceNeg, Nat.reduceAdd, Nat.reduceMul, Nat.reducePow, Int.reduceLT, Int.reduceLE, Int.reduceEq, Nat.reduceEqDiff]
      have gv : H.get h1.size = some (.cells [v, w] true 0) := by rw [hH]; simp -implicitDefEqProofs (disch := first | assumption | decide | omega | (simp only [wpD1] <;> omega) | (simp only [wpD2] <;> assumption) | solve_by_elim [HSub.refl, HSub.push, HSub.reserve] | fail) only [↓wpPre, wpPost, wpPoly, Int.reduceToNat, Int.reducePow, Int.reduceMul, Int.reduceAdd, Int.reduceSub, Int.reduceNeg, Nat.reduceAdd, Nat.reduceMul, Nat.reducePow, Int.reduceLT, Int.reduceLE, Int.reduceEq, Nat.reduceEqDiff]
      have go : H.get (h1.size + 1) = some (.cells (smps (List.replicate m (0, 0))) true 0) := by rw [hH]; simp -implicitDefEqProofs (disch := first | assumption | decide | omega | (simp only [wpD1] <;> omega) | (simp only [wpD2] <;> assumption) | solve_by_elim [HSub.refl, HSub.push, HSub.reserve] | fail) only [↓wpPre, wpPost, wpPoly, Int.reduceToNat, Int.reducePow, Int.reduceMul, Int.reduceAdd, Int.reduceSub, Int.reduceNeg, Nat.reduceAdd, Nat.reduceMul, Nat.reducePow, Int.reduceLT, Int.reduceLE, Int.reduceEq, Nat.reduceEqDiff]
      have gs : H.get (h1.size + 2) = some (.cells [.slice (h1.size + 1) 0 m (.known m)] true 0) := by rw [hH]; simp -implicitDefEqProofs (disch := first | assumption | decide | omega | (simp only [wpD1] <;> omega) | (simp only [wpD2] <;> assumption) | solve_by_elim [HSub.refl, HSub.push, HSub.reserve] | fail) only [↓wpPre, wpPost, wpPoly, Int.reduceToNat, Int.reducePow, Int.reduceMul, Int.reduceAdd, Int.reduceSub, Int.reduceNeg, Nat.reduceAdd, Nat.reduceMul, Nat.reducePow, Int.reduceLT, Int.reduceLE, Int.reduceEq, Nat.reduceEqDiff]
      have hsH : HSub h1 H := by
        rw [hH]
        exact (by repeat (first | exact HSub.refl h1 | refine HSub.put ?_ (by (try simp only [Heap.size_put, Heap.size_push, Heap.size_reserve]); omega) _ | refine HSub.push ?_ _ | refine HSub.reserve ?_ _))
      clear hH
      refine ACallsK.eq (windows298_spec (hC.sub (T' := T298) (by decide))) ?_
      simp -implicitDefEqProofs (disch := first | assumption | decide | omega | (simp only [wpD1] <;> omega) | (simp only [wpD2] <;> assumption) | solve_by_elim [HSub.refl, HSub.push, HSub.reserve] | fail) only [↓wpPre, wpPost, wpPoly, Int.reduceToNat, Int.reducePow, Int.reduceMul, Int.reduceAdd, Int.reduceSub, Int.reduceNeg, Nat.reduceAdd, Nat.reduceMul, Nat.reducePow, Int.reduceLT, Int.reduceLE, Int.reduceEq, Nat.reduceEqDiff]
      refine wpRange_none (D := fun h' => ∃ R, h'.get (H.size + 4) = some (.loop R) ∧ HSub h1 h' ∧ h'.get (H.size + 3) = some (.defd true) ∧ H.size + 5 ≤ h'.size ∧ R.state = .ready ∧ R.pend = none ∧
        h'.get (h1.size + 2) = some (.cells [.slice (h1.size + 1) 0 m (.known m)] true 0) ∧ h'.get (h1.size + 1) = some (.cells (smps (bankL s c a c.length m)) true 0)) ?_ ?_
      · refine ACalls.hideLoop (fun R hR => ?_)
        show ACalls C 304 [.yield (H.size + 4), .ptr (H.size + 2) 0, .ptr H.size 0, .ptr (H.size + 1) 0] _ _
        have rs : R.state = .ready := by rw [hR]
        have rp : R.pend = none := by rw [hR]
        have rb := loop_back rs rp
        refine windows304_iter (hC.sub (T' := T304) (by decide)) (m := m) (L := c.length) (a := a) (by omega) sl (by omega) (fun k h' => k ≤ m ∧ h'.get (H.size + 4) = some (.loop R) ∧ h'.get (H.size + 3) = some (.defd true) ∧
          h'.get (H.size + 2) = some (.cells [.int .i64 (m : Nat)] true 0) ∧ h'.get H.size = some (.cells [.int .i64 a] true 0) ∧ h'.get (H.size + 1) = some (.cells [.int .i64 (c.length : Nat)] true 0) ∧ HSub h1 h' ∧ H.size + 5 ≤ h'.size ∧
          h'.get h1.size = some (.cells [v, w] true 0) ∧ h'.get (h1.size + 2) = some (.cells [.slice (h1.size + 1) 0 m (.known m)] true 0) ∧ h'.get (h1.size + 1) = some (.cells (smps (bankL s c a c.length k ++ List.replicate (m - k) (0, 0))) true 0)) _ ?_ ?_ ?_ ?_
        · refine ⟨by omega, ?_, ?_, ?_, ?_, ?_, ?_, ?_, ?_, ?_, ?_⟩
          · simp -implicitDefEqProofs (disch := first | assumption | decide | omega | (simp only [wpD1] <;> omega) | (simp only [wpD2] <;> assumption) | solve_by_elim [HSub.refl, HSub.push, HSub.reserve] | fail) only [↓wpPre, wpPost, wpPoly, Int.reduceToNat, Int.reducePow, Int.reduceMul, Int.reduceAdd, Int.reduceSub, Int.reduceNeg, Nat.reduceAdd, Nat.reduceMul, Nat.reducePow, Int.reduceLT, Int.reduceLE, Int.reduceEq, Nat.reduceEqDiff]
          · simp -implicitDefEqProofs (disch := first | assumption | decide | omega | (simp only [wpD1] <;> omega) | (simp only [wpD2] <;> assumption) | solve_by_elim [HSub.refl, HSub.push, HSub.reserve] | fail) only [↓wpPre, wpPost, wpPoly, Int.reduceToNat, Int.reducePow, Int.reduceMul, Int.reduceAdd, Int.reduceSub, Int.reduceNeg, Nat.reduceAdd, Nat.reduceMul, Nat.reducePow, Int.reduceLT, Int.reduceLE, Int.reduceEq, Nat.reduceEqDiff]
          · simp -implicitDefEqProofs (disch := first | assumption | decide | omega | (simp only [wpD1] <;> omega) | (simp only [wpD2] <;> assumption) | solve_by_elim [HSub.refl, HSub.push, HSub.reserve] | fail) only [↓wpPre, wpPost, wpPoly, Int.reduceToNat, Int.reducePow, Int.reduceMul, Int.reduceAdd, Int.reduceSub, Int.reduceNeg, Nat.reduceAdd, Nat.reduceMul, Nat.reducePow, Int.reduceLT, Int.reduceLE, Int.reduceEq, Nat.reduceEqDiff]
          · simp -implicitDefEqProofs (disch := first | assumption | decide | omega | (simp only [wpD1] <;> omega) | (simp only [wpD2] <;> assumption) | solve_by_elim [HSub.refl, HSub.push, HSub.reserve] | fail) only [↓wpPre, wpPost, wpPoly, Int.reduceToNat, Int.reducePow, Int.reduceMul, Int.reduceAdd, Int.reduceSub, Int.reduceNeg, Nat.reduceAdd, Nat.reduceMul, Nat.reducePow, Int.reduceLT, Int.reduceLE, Int.reduceEq, Nat.reduceEqDiff]
          · simp -implicitDefEqProofs (disch := first | assumption | decide | omega | (simp only [wpD1] <;> omega) | (simp only [wpD2] <;> assumption) | solve_by_elim [HSub.refl, HSub.push, HSub.reserve] | fail) only [↓wpPre, wpPost, wpPoly, Int.reduceToNat, Int.reducePow, Int.reduceMul, Int.reduceAdd, Int.reduceSub, Int.reduceNeg, Nat.reduceAdd, Nat.reduceMul, Nat.reducePow, Int.reduceLT, Int.reduceLE, Int.reduceEq, Nat.reduceEqDiff]
          · exact ((((hsH.push _).push _).push _).push _).push _
          · simp -implicitDefEqProofs (disch := first | assumption | decide | omega | (simp only [wpD1] <;> omega) | (simp only [wpD2] <;> assumption) | solve_by_elim [HSub.refl, HSub.push, HSub.reserve] | fail) only [↓wpPre, wpPost, wpPoly, Int.reduceToNat, Int.reducePow, Int.reduceMul, Int.reduceAdd, Int.reduceSub, Int.reduceNeg, Nat.reduceAdd, Nat.reduceMul, Nat.reducePow, Int.reduceLT, Int.reduceLE, Int.reduceEq, Nat.reduceEqDiff]
            omega
          · simp -implicitDefEqProofs (disch := first | assumption | decide | omega | (simp only [wpD1] <;> omega) | (simp only [wpD2] <;> assumption) | solve_by_elim [HSub.refl, HSub.push, HSub.reserve] | fail) only [↓wpPre, wpPost, wpPoly, Int.reduceToNat, Int.reducePow, Int.reduceMul, Int.reduceAdd, Int.reduceSub, Int.reduceNeg, Nat.reduceAdd, Nat.reduceMul, Nat.reducePow, Int.reduceLT, Int.reduceLE, Int.reduceEq, Nat.reduceEqDiff, gv]
          · simp -implicitDefEqProofs (disch := first | assumption | decide | omega | (simp only [wpD1] <;> omega) | (simp only [wpD2] <;> assumption) | solve_by_elim [HSub.refl, HSub.push, HSub.reserve] | fail) only [↓wpPre, wpPost, wpPoly, Int.reduceToNat, Int.reducePow, Int.reduceMul, Int.reduceAdd, Int.reduceSub, Int.reduceNeg, Nat.reduceAdd, Nat.reduceMul, Nat.reducePow, Int.reduceLT, Int.reduceLE, Int.reduceEq, Nat.reduceEqDiff, gs]
          · simp -implicitDefEqProofs (disch := first | assumption | decide | omega | (simp only [wpD1] <;> omega) | (simp only [wpD2] <;> assumption) | solve_by_elim [HSub.refl, HSub.push, HSub.reserve] | fail) only [↓wpPre, wpPost, wpPoly, Int.reduceToNat, Int.reducePow, Int.reduceMul, Int.reduceAdd, Int.reduceSub, Int.reduceNeg, Nat.reduceAdd, Nat.reduceMul, Nat.reducePow, Int.reduceLT, Int.reduceLE, Int.reduceEq, Nat.reduceEqDiff, go]
            rfl
        · rintro k h' ⟨_, _, _, q0, q1, q2, _⟩
          exact ⟨q0, q1, q2⟩
        · rintro k h' ⟨hk, hlp, hd, p0, p1, p2, hsub, hsz, gv, gs, go⟩ hk'
          have wp := win_prod (k := k) (by omega) sl
          have bs := bankZ_set (s := s) (c := c) (a := a) (w := (c.length : Int)) hk'
          have hwl : (bankL s c a c.length k ++ List.replicate (m - k) (0, 0)).length = m := by simp [bankL_length]; omega
          have hsl : (smps (bankL s c a c.length k ++ List.replicate (m - k) (0, 0))).length = m * 2 := by rw [smps_length, hwl]
          have hset := smps_splice (l := bankL s c a c.length k ++ List.replicate (m - k) (0, 0)) (k := k) (p := sumP s c (a + (k : Nat) * (c.length : Nat))) (by rw [hwl]; exact hk')
          rw [bs] at hset
          have kS := kS (a + (k : Nat) * (c.length : Nat)) (by omega)
          generalize hkc : a + (k : Int) * (c.length : Int) = kc at *
          generalize sumP s c kc = q at *
          obtain ⟨qx, qy⟩ := q
          unfold smp at kS
          dsimp only at kS hset
          refine yield_intro (r := R) (by simp -implicitDefEqProofs (disch := first | assumption | decide | omega | (simp only [wpD1] <;> omega) | (simp only [wpD2] <;> assumption) | solve_by_elim [HSub.refl, HSub.push, HSub.reserve] | fail) only [↓wpPre, wpPost, wpPoly, Int.reduceToNat, Int.reducePow, Int.reduceMul, Int.reduceAdd, Int.reduceSub, Int.reduceNeg, Nat.reduceAdd, Nat.reduceMul, Nat.reducePow, Int.reduceLT, Int.reduceLE, Int.reduceEq, Nat.reduceEqDiff, hlp]) rs (by rw [hR]; rfl) ?_
          simp only [congrArg ALoop.nt hR, congrArg ALoop.t hR, congrArg ALoop.params hR, congrArg ALoop.assign hR, congrArg ALoop.body hR]
          simp -implicitDefEqProofs (disch := first | assumption | decide | omega | (simp only [wpD1] <;> omega) | (simp only [wpD2] <;> assumption) | solve_by_elim [HSub.refl, HSub.push, HSub.reserve] | fail) only [↓wpPre, wpPost, wpPoly, Int.reduceToNat, Int.reducePow, Int.reduceMul, Int.reduceAdd, Int.reduceSub, Int.reduceNeg, Nat.reduceAdd, Nat.reduceMul, Nat.reducePow, Int.reduceLT, Int.reduceLE, Int.reduceEq, Nat.reduceEqDiff, hlp, rs, gv, gs]
          refine ACallsK.eq (kS _ (hsub.put (by omega) _)) ?_
          simp -implicitDefEqProofs (disch := first | assumption | decide | omega | (simp only [wpD1] <;> omega) | (simp only [wpD2] <;> assumption) | solve_by_elim [HSub.refl, HSub.push, HSub.reserve] | fail) only [↓wpPre, wpPost, wpPoly, Int.reduceToNat, Int.reducePow, Int.reduceMul, Int.reduceAdd, Int.reduceSub, Int.reduceNeg, Nat.reduceAdd, Nat.reduceMul, Nat.reducePow, Int.reduceLT, Int.reduceLE, Int.reduceEq, Nat.reduceEqDiff, hlp, gs, go, hset, hsl]
          exact .inl ⟨by omega, by rw [rb], hd, p0, p1, p2, ((hsub.put (by omega) _).put (by omega) _).put (by omega) _, by omega, gv⟩
        · rintro h' ⟨_, hlp, hd, p0, p1, p2, hsub, hsz, gv, gs, go⟩
          rw [Nat.sub_self, List.replicate_zero, List.append_nil] at go
          exact ⟨R, hlp, hsub, hd, hsz, rs, rp, gs, go⟩
      · rintro h' ⟨R, hlp, hsub, hd, hsz, hst, hpd, gs, go⟩
        refine ⟨R, hlp, by rw [hst]; decide, ?_⟩
        rw [hpd]
        show blockO _ _ .normal _
        simp -implicitDefEqProofs (disch := first | assumption | decide | omega | (simp only [wpD1] <;> omega) | (simp only [wpD2] <;> assumption) | solve_by_elim [HSub.refl, HSub.push, HSub.reserve] | fail) only [↓wpPre, wpPost, wpPoly, Int.reduceToNat, Int.reducePow, Int.reduceMul, Int.reduceAdd, Int.reduceSub, Int.reduceNeg, Nat.reduceAdd, Nat.reduceMul, Nat.reducePow, Int.reduceLT, Int.reduceLE, Int.reduceEq, Nat.reduceEqDiff, hd, gs, go]
        refine ⟨_, rfl, ((s1.trans hsub).put (by have := s1.size; omega) _).put (by have := s1.size; omega) _, SI.known (wr := true) (u := 0) ?_ ⟨(bankL_length _ _ _ _ _).symm, by omega⟩ (Nat.le_refl _)⟩
        simp -implicitDefEqProofs (disch := first | assumption | decide | omega | (simp only [wpD1] <;> omega) | (simp only [wpD2] <;> assumption) | solve_by_elim [HSub.refl, HSub.push, HSub.reserve] | fail) only [↓wpPre, wpPost, wpPoly, Int.reduceToNat, Int.reducePow, Int.reduceMul, Int.reduceAdd, Int.reduceSub, Int.reduceNeg, Nat.reduceAdd, Nat.reduceMul, Nat.reducePow, Int.reduceLT, Int.reduceLE, Int.reduceEq, Nat.reduceEqDiff, go]
  · rw [g1 c, if_pos c, if_neg c]
    unfold corA
    generalize bankErr s d o p a = e at *
    simp -implicitDefEqProofs (disch := first | assumption | decide | omega | (simp only [wpD1] <;> omega) | (simp only [wpD2] <;> assumption) | solve_by_elim [HSub.refl, HSub.push, HSub.reserve] | fail) only [↓wpPre, wpPost, wpPoly, Int.reduceToNat, Int.reducePow, Int.reduceMul, Int.reduceAdd, Int.reduceSub, Int.reduceNeg, Nat.reduceAdd, Nat.reduceMul, Nat.reducePow, Int.reduceLT, Int.reduceLE, Int.reduceEq, Nat.reduceEqDiff, corE, c]
    exact ⟨_, rfl, (by repeat (first | exact s1 | refine HSub.put ?_ (by (try simp only [Heap.size_put, Heap.size_push, Heap.size_reserve]); omega) _ | refine HSub.push ?_ _ | refine HSub.reserve ?_ _)), SI.nil⟩
end
end Go.Ae

/- Spin, Steps and Best, of the program and of the reference. -/
set_option linter.unusedSimpArgs false
set_option linter.unusedVariables false
namespace Go.Ae
theorem spin_phase (k : Nat) (st : Int) : IntKind.u32.wrap ((k : Int) * st) = phI 0 st k := by
  rw [wrap_u32, phI_eq, Int.zero_add, Int.mul_comm st]
section
variable {C : Ctx}
set_option maxHeartbeats 2000000 in
set_option maxRecDepth 20000 in
theorem spin_spec (hC : Has C T286) {v : AV} {l : List (Int × Int)} {st : Int} {h : Heap} (hl : SI h v l) (hll : l.length ≤ 16) (hi : ∀ x ∈ l, inS 1048576 x) (hst : U32 st) :
    ACalls C 286 [v, .int .u32 st] h (fun r h' => r = smp (spinK l st l.length) ∧ h' = h) := by
  refine ACalls.gc0 (P := fun r h' => r = smp (spinK l st l.length) ∧ HSub h h') ?_ (fun r h' hp => ⟨by rw [hp.1]; exact smp_free _, hp.2, hp.1, rfl⟩)
  have hlt := hl.lt
  have hw := fun p (ph : Int) (hph : U32 ph) h => Wipe_spec (p := p) (ph := ph) (h := h) (hC.sub (T' := T137) (by decide)) hph
  (refine calls_intro (hC.body (by decide) tab286) (Nat.le_of_ble_eq_true rfl) ?_); (show wp C _ none B286.code _ _); (simp only [B286]); simp -implicitDefEqProofs (disch := first | assumption | decide | omega | (simp only [wpD1] <;> omega) | (simp only [wpD2] <;> assumption) | solve_by_elim [HSub.refl, HSub.push, HSub.reserve] | fail) only [↓wpPre, wpPost, wpPoly, Int.reduceToNat, Int.reducePow, Int.reduceMul, Int.reduceAdd, Int.reduceSub, Int.reduceNeg, Nat.reduceAdd, Nat.reduceMul, Nat.reducePow, Int.reduceLT, Int.reduceLE, Int.reduceEq, Nat.reduceEqDiff, hl.len]
  refine wp_loopI (fun j t h' => HSub h h' ∧ h.size < h'.size ∧ ∃ k : Nat, h'.get h.size = some (.cells [.int .i64 (spinK l st k).1, .int .i64 (spinK l st k).2] true 0) ∧ t 1 = .int .u32 st ∧ t 4 = .ptr h.size 0 ∧ t 9 = v ∧ t 10 = .int .i64 (l.length : Nat) ∧ t 11 = .int .i64 (k : Nat) ∧ k ≤ l.length ∧ j = l.length - k) (j0 := l.length)
    ⟨HSub.push1 _ _, by simp, 0, get_push_eq rfl, rfl, rfl, rfl, rfl, rfl, by omega, rfl⟩ ?_
  rintro j t h1 ⟨s1, hz, k, gb, e1, e4, e9, e10, e11, hk, hj⟩
  simp -implicitDefEqProofs (disch := first | assumption | decide | omega | (simp only [wpD1] <;> omega) | (simp only [wpD2] <;> assumption) | solve_by_elim [HSub.refl, HSub.push, HSub.reserve] | fail) only [↓wpPre, wpPost, wpPoly, Int.reduceToNat, Int.reducePow, Int.reduceMul, Int.reduceAdd, Int.reduceSub, Int.reduceNeg, Nat.reduceAdd, Nat.reduceMul, Nat.reducePow, Int.reduceLT, Int.reduceLE, Int.reduceEq, Nat.reduceEqDiff, e10, e11]
  refine Br.by (fun c => ?_) (fun c => ?_)
  · have hk' : k < l.length := by omega
    have hl1 := hl.mono s1
    have ld := hl1.loadA hk'
    have hin := hi _ (getP_mem hk')
    have sm : smallP (l.getD k (0, 0)) := by unfold smallP; unfold inS at hin; omega
    have hb := spinK_le (st := st) hi k (by omega)
    have hb2 := spinK_le (st := st) hi (k + 1) (by omega)
    have es : spinK l st (k + 1) = addP (spinK l st k) (mixP (l.getD k (0, 0)) (carP (phI 0 st k))) := rfl
    rw [es] at hb2
    have hw := fun h => hw (l.getD k (0, 0)) (phI 0 st k) (phI_u32 0 st k) h
    simp only [wipeE, if_pos sm] at hw
    generalize mixP (l.getD k (0, 0)) (carP (phI 0 st k)) = w at *
    generalize spinK l st k = q at *
    generalize l.getD k (0, 0) = x at *
    obtain ⟨wx, wy⟩ := w
    obtain ⟨qx, qy⟩ := q
    obtain ⟨xx, xy⟩ := x
    unfold inS at hb hb2
    unfold addP at hb2
    unfold smp at hw ld
    have ph := spin_phase k st
    dsimp only at hb hb2 gb hw ld
    simp -implicitDefEqProofs (disch := first | assumption | decide | omega | (simp only [wpD1] <;> omega) | (simp only [wpD2] <;> assumption) | solve_by_elim [HSub.refl, HSub.push, HSub.reserve] | fail) only [↓wpPre, wpPost, wpPoly, Int.reduceToNat, Int.reducePow, Int.reduceMul, Int.reduceAdd, Int.reduceSub, Int.reduceNeg, Nat.reduceAdd, Nat.reduceMul, Nat.reducePow, Int.reduceLT, Int.reduceLE, Int.reduceEq, Nat.reduceEqDiff, e9, e11, hl1.idx, ld, e1, ph]
    refine ACallsK.eq (hw _) ?_
    simp -implicitDefEqProofs (disch := first | assumption | decide | omega | (simp only [wpD1] <;> omega) | (simp only [wpD2] <;> assumption) | solve_by_elim [HSub.refl, HSub.push, HSub.reserve] | fail) only [↓wpPre, wpPost, wpPoly, Int.reduceToNat, Int.reducePow, Int.reduceMul, Int.reduceAdd, Int.reduceSub, Int.reduceNeg, Nat.reduceAdd, Nat.reduceMul, Nat.reducePow, Int.reduceLT, Int.reduceLE, Int.reduceEq, Nat.reduceEqDiff, e4, gb, e1, e9, e10, e11]
    exact ⟨_, ⟨(by repeat (first | exact s1 | refine HSub.put ?_ (by (try simp only [Heap.size_put, Heap.size_push, Heap.size_reserve]); omega) _ | refine HSub.push ?_ _ | refine HSub.reserve ?_ _)), by omega, k + 1, by rw [es]; rfl, by simp, by omega, rfl⟩, by omega⟩
  · have ek : k = l.length := by omega
    subst ek
    generalize spinK l st l.length = q at *
    obtain ⟨qx, qy⟩ := q
    unfold smp
    simp -implicitDefEqProofs (disch := first | assumption | decide | omega | (simp only [wpD1] <;> omega) | (simp only [wpD2] <;> assumption) | solve_by_elim [HSub.refl, HSub.push, HSub.reserve] | fail) only [↓wpPre, wpPost, wpPoly, Int.reduceToNat, Int.reducePow, Int.reduceMul, Int.reduceAdd, Int.reduceSub, Int.reduceNeg, Nat.reduceAdd, Nat.reduceMul, Nat.reducePow, Int.reduceLT, Int.reduceLE, Int.reduceEq, Nat.reduceEqDiff, e4, gb]
    exact (by repeat (first | exact s1 | refine HSub.put ?_ (by (try simp only [Heap.size_put, Heap.size_push, Heap.size_reserve]); omega) _ | refine HSub.push ?_ _ | refine HSub.reserve ?_ _))
end
end Go.Ae

/- Spin, Steps and Best: the exported functions, and the reference's. -/
set_option linter.unusedSimpArgs false
set_option linter.unusedVariables false
namespace Go.Ae
def spinE (l : List (Int × Int)) (st : Int) : AV := if smE l 16 = 0 then .tuple [smp (spinK l st l.length), .int .i64 0] else .tuple [smp (0, 0), .int .i64 (smE l 16)]
theorem spinE_free (l : List (Int × Int)) (st : Int) : (spinE l st).free := by
  unfold spinE
  split <;> exact free_tuple (by simp [smp, AV.free, AV.bel, AV.bels])
theorem smE_zero {l : List (Int × Int)} {m : Nat} (h : smE l m = 0) : l.length ≤ m ∧ ∀ x ∈ l, inS 1048576 x := by
  unfold smE at h
  split at h
  · omega
  · split at h
    · exact ⟨by omega, by assumption⟩
    · omega
theorem smE_cases (l : List (Int × Int)) (m : Nat) : smE l m = 0 ∨ smE l m = 2 ∨ smE l m = 4 := by
  unfold smE
  split
  · simp
  · split <;> simp
theorem bins_any (b : Int) : ([1, 2, 4, 8, 16, 32, 64].any fun y => b == y) = decide (binsOk b) := by
  have k : ([1, 2, 4, 8, 16, 32, 64].any fun y => b == y) = true ↔ binsOk b := by unfold binsOk; simp
  by_cases c : binsOk b
  · rw [decide_eq_true c]; exact k.2 c
  · rw [decide_eq_false c]; exact Bool.eq_false_iff.2 fun q => c (k.1 q)
theorem stepsZ_set {l : List (Int × Int)} {b : Int} {m k : Nat} (h : k < m) : (stepsL l b k ++ List.replicate (m - k) 0).set k (stepP l b k) = stepsL l b (k + 1) ++ List.replicate (m - (k + 1)) 0 := by
  rw [List.set_append_right _ _ (by rw [stepsL_length]; omega), stepsL_length, Nat.sub_self, show m - k = m - (k + 1) + 1 by omega, List.replicate_succ, List.set_cons_zero, stepsL_succ, List.append_assoc]
  rfl
theorem step_u32 {j : Nat} {b : Int} : U32 ((j : Int) * (4294967296 / b) % 4294967296) := by unfold U32; omega
section
variable {C : Ctx}
theorem Spin_spec (hC : Has C T268) {v : AV} {l : List (Int × Int)} {st : Int} {h : Heap} (hl : SI h v l) (hst : U32 st) : ACalls C 268 [v, .int .u32 st] h (fun r h' => r = spinE l st ∧ h' = h) := by
  refine ACalls.gc0 (P := fun r h' => r = spinE l st ∧ HSub h h') ?_ (fun r h' hp => ⟨by rw [hp.1]; exact spinE_free _ _, hp.2, hp.1, rfl⟩)
  have k1 := fun h1 (q : HSub h h1) => small_spec (hC.sub (T' := T285) (by decide)) (most := 16) (hl.mono q) (by omega)
  unfold spinE
  by_cases c : smE l 16 = 0
  · have z := smE_zero c
    have k2 := fun h1 (q : HSub h h1) => spin_spec (hC.sub (T' := T286) (by decide)) (hl.mono q) z.1 z.2 hst
    rw [c] at k1
    rw [if_pos c]
    generalize spinK l st l.length = q at *
    obtain ⟨qx, qy⟩ := q
    unfold smp at k2 ⊢
    (refine calls_intro (hC.body (by decide) tab268) (Nat.le_of_ble_eq_true rfl) ?_); (show wp C _ none B268.code _ _); (simp only [B268]); simp -implicitDefEqProofs (disch := first | assumption | decide | omega | (simp only [wpD1] <;> omega) | (simp only [wpD2] <;> assumption) | solve_by_elim [HSub.refl, HSub.push, HSub.reserve] | fail) only [↓wpPre, wpPost, wpPoly, Int.reduceToNat, Int.reducePow, Int.reduceMul, Int.reduceAdd, Int.reduceSub, Int.reduceNeg, Nat.reduceAdd, Nat.reduceMul, Nat.reducePow, Int.reduceLT, Int.reduceLE, Int.reduceEq, Nat.reduceEqDiff]
    refine ACallsK.eq (k1 _ (HSub.push1 _ _)) ?_
    simp -implicitDefEqProofs (disch := first | assumption | decide | omega | (simp only [wpD1] <;> omega) | (simp only [wpD2] <;> assumption) | solve_by_elim [HSub.refl, HSub.push, HSub.reserve] | fail) only [↓wpPre, wpPost, wpPoly, Int.reduceToNat, Int.reducePow, Int.reduceMul, Int.reduceAdd, Int.reduceSub, Int.reduceNeg, Nat.reduceAdd, Nat.reduceMul, Nat.reducePow, Int.reduceLT, Int.reduceLE, Int.reduceEq, Nat.reduceEqDiff]
    refine ACallsK.eq (k2 _ (HSub.push1 _ _)) ?_
    simp -implicitDefEqProofs (disch := first | assumption | decide | omega | (simp only [wpD1] <;> omega) | (simp only [wpD2] <;> assumption) | solve_by_elim [HSub.refl, HSub.push, HSub.reserve] | fail) only [↓wpPre, wpPost, wpPoly, Int.reduceToNat, Int.reducePow, Int.reduceMul, Int.reduceAdd, Int.reduceSub, Int.reduceNeg, Nat.reduceAdd, Nat.reduceMul, Nat.reducePow, Int.reduceLT, Int.reduceLE, Int.reduceEq, Nat.reduceEqDiff]
    exact (by repeat (first | exact HSub.refl h | refine HSub.put ?_ (by (try simp only [Heap.size_put, Heap.size_push, Heap.size_reserve]); omega) _ | refine HSub.push ?_ _ | refine HSub.reserve ?_ _))
  · rw [if_neg c]
    have cc := smE_cases l 16
    generalize smE l 16 = e at *
    unfold smp
    (refine calls_intro (hC.body (by decide) tab268) (Nat.le_of_ble_eq_true rfl) ?_); (show wp C _ none B268.code _ _); (simp only [B268]); simp -implicitDefEqProofs (disch := first | assumption | decide | omega | (simp only [wpD1] <;> omega) | (simp only [wpD2] <;> assumption) | solve_by_elim [HSub.refl, HSub.push, HSub.reserve] | fail) only [↓wpPre, wpPost, wpPoly, Int.reduceToNat, Int.reducePow, Int.reduceMul, Int.reduceAdd, Int.reduceSub, Int.reduceNeg, Nat.reduceAdd, Nat.reduceMul, Nat.reducePow, Int.reduceLT, Int.reduceLE, Int.reduceEq, Nat.reduceEqDiff]
    refine ACallsK.eq (k1 _ (HSub.push1 _ _)) ?_
    simp -implicitDefEqProofs (disch := first | assumption | decide | omega | (simp only [wpD1] <;> omega) | (simp only [wpD2] <;> assumption) | solve_by_elim [HSub.refl, HSub.push, HSub.reserve] | fail) only [↓wpPre, wpPost, wpPoly, Int.reduceToNat, Int.reducePow, Int.reduceMul, Int.reduceAdd, Int.reduceSub, Int.reduceNeg, Nat.reduceAdd, Nat.reduceMul, Nat.reducePow, Int.reduceLT, Int.reduceLE, Int.reduceEq, Nat.reduceEqDiff, c]
    exact (by repeat (first | exact HSub.refl h | refine HSub.put ?_ (by (try simp only [Heap.size_put, Heap.size_push, Heap.size_reserve]); omega) _ | refine HSub.push ?_ _ | refine HSub.reserve ?_ _))
set_option maxHeartbeats 1000000 in
set_option maxRecDepth 20000 in
theorem Steps_spec (hC : Has C T270) {v : AV} {l : List (Int × Int)} {b : Int} {h : Heap} (hl : SI h v l) (hb : In64 b) :
    ACalls C 270 [v, .int .i64 b] h (fun r h' => ∃ w, r = lstErr w (stepsE l b) ∧ HSub h h' ∧ RI h' w (if stepsE l b = 0 then stepsL l b b.toNat else [])) := by
  have k1 := fun h1 (q : HSub h h1) => small_spec (hC.sub (T' := T285) (by decide)) (most := 16) (hl.mono q) (by omega)
  have cc := smE_cases l 16
  by_cases c : smE l 16 = 0
  · have z := smE_zero c
    rw [c] at k1
    have k2 := fun (st : Int) (hst : U32 st) h1 (q : HSub h h1) => spin_spec (st := st) (hC.sub (T' := T286) (by decide)) (hl.mono q) z.1 z.2 hst
    have k3 := fun p h => power_spec (p := p) (h := h) (hC.sub (T' := T289) (by decide))
    have k4 := fun h1 (q : RI h1 (.slice h.size 0 7 (.known 7)) [1, 2, 4, 8, 16, 32, 64]) => Contains_spec (hC.sub (T' := T89) (by decide)) (x := b) q
    simp only [bins_any] at k4
    (refine calls_intro (hC.body (by decide) tab270) (Nat.le_of_ble_eq_true rfl) ?_); (show wp C _ none B270.code _ _); (simp only [B270]); simp -implicitDefEqProofs (disch := first | assumption | decide | omega | (simp only [wpD1] <;> omega) | (simp only [wpD2] <;> assumption) | solve_by_elim [HSub.refl, HSub.push, HSub.reserve] | fail) only [↓wpPre, wpPost, wpPoly, Int.reduceToNat, Int.reducePow, Int.reduceMul, Int.reduceAdd, Int.reduceSub, Int.reduceNeg, Nat.reduceAdd, Nat.reduceMul, Nat.reducePow, Int.reduceLT, Int.reduceLE, Int.reduceEq, Nat.reduceEqDiff]
    refine ACallsK.eq (k1 _ (HSub.refl _)) ?_
    simp -implicitDefEqProofs (disch := first | assumption | decide | omega | (simp only [wpD1] <;> omega) | (simp only [wpD2] <;> assumption) | solve_by_elim [HSub.refl, HSub.push, HSub.reserve] | fail) only [↓wpPre, wpPost, wpPoly, Int.reduceToNat, Int.reducePow, Int.reduceMul, Int.reduceAdd, Int.reduceSub, Int.reduceNeg, Nat.reduceAdd, Nat.reduceMul, Nat.reducePow, Int.reduceLT, Int.reduceLE, Int.reduceEq, Nat.reduceEqDiff]
    refine ACallsK.eq (k4 _ (RI.known (get_push_eq rfl) ⟨rfl, by decide⟩ (by decide))) ?_
    by_cases c2 : binsOk b
    · have e : stepsE l b = 0 := by unfold stepsE; rw [if_neg (by omega), if_pos c2]
      have hb2 : 1 ≤ b ∧ b ≤ 64 := by unfold binsOk at c2; omega
      obtain ⟨m, rfl⟩ := Int.eq_ofNat_of_zero_le (show 0 ≤ b by omega)
      rw [e, if_pos rfl, Int.toNat_natCast]
      simp -implicitDefEqProofs (disch := first | assumption | decide | omega | (simp only [wpD1] <;> omega) | (simp only [wpD2] <;> assumption) | solve_by_elim [HSub.refl, HSub.push, HSub.reserve] | fail) only [↓wpPre, wpPost, wpPoly, Int.reduceToNat, Int.reducePow, Int.reduceMul, Int.reduceAdd, Int.reduceSub, Int.reduceNeg, Nat.reduceAdd, Nat.reduceMul, Nat.reducePow, Int.reduceLT, Int.reduceLE, Int.reduceEq, Nat.reduceEqDiff, c2, ints_replicate]
      refine wp_loopI (fun j t h' => HSub h h' ∧ h.size + 1 < h'.size ∧ ∃ k : Nat, h'.get (h.size + 1) = some (.cells (ints (stepsL l m k ++ List.replicate (m - k) 0)) true 0) ∧ t 0 = v ∧ t 1 = .int .i64 (m : Nat) ∧ t 7 = .slice (h.size + 1) 0 m (.known m) ∧ t 21 = .int .i64 (m : Nat) ∧ t 22 = .int .i64 (k : Nat) ∧ k ≤ m ∧ j = m - k) (j0 := m)
        ⟨(HSub.push1 _ _).push _, by simp, 0, by simp -implicitDefEqProofs (disch := first | assumption | decide | omega | (simp only [wpD1] <;> omega) | (simp only [wpD2] <;> assumption) | solve_by_elim [HSub.refl, HSub.push, HSub.reserve] | fail) only [↓wpPre, wpPost, wpPoly, Int.reduceToNat, Int.reducePow, Int.reduceMul, Int.reduceAdd, Int.reduceSub, Int.reduceNeg, Nat.reduceAdd, Nat.reduceMul, Nat.reducePow, Int.reduceLT, Int.reduceLE, Int.reduceEq, Nat.reduceEqDiff]; rfl, rfl, rfl, rfl, rfl, rfl, by omega, rfl⟩ ?_
      rintro j t h1 ⟨s1, hz, k, gb, e0, e1, e7, e21, e22, hk, hj⟩
      simp -implicitDefEqProofs (disch := first | assumption | decide | omega | (simp only [wpD1] <;> omega) | (simp only [wpD2] <;> assumption) | solve_by_elim [HSub.refl, HSub.push, HSub.reserve] | fail) only [↓wpPre, wpPost, wpPoly, Int.reduceToNat, Int.reducePow, Int.reduceMul, Int.reduceAdd, Int.reduceSub, Int.reduceNeg, Nat.reduceAdd, Nat.reduceMul, Nat.reducePow, Int.reduceLT, Int.reduceLE, Int.reduceEq, Nat.reduceEqDiff, e21, e22]
      refine Br.by (fun c3 => ?_) (fun c3 => ?_)
      · have hk' : k < m := by omega
        have hu := step_u32 (j := k) (b := (m : Int))
        have k2 := k2 _ hu h1 s1
        have es : stepP l m k = powP (spinK l ((k : Int) * (4294967296 / (m : Int)) % 4294967296) l.length) := rfl
        have sz := stepsZ_set (l := l) (b := (m : Int)) hk'
        rw [es] at sz
        have q0 : (4294967296 : Int).tdiv (m : Int) = 4294967296 / (m : Int) := Int.tdiv_eq_ediv_of_nonneg (by decide)
        have Q1 : 0 ≤ 4294967296 / (m : Int) := Int.ediv_nonneg (by decide) (by omega)
        have Q2 : 4294967296 / (m : Int) ≤ 4294967296 := Int.ediv_le_self _ (by decide)
        have kQ : 0 ≤ (k : Int) * (4294967296 / (m : Int)) ∧ (k : Int) * (4294967296 / (m : Int)) ≤ 64 * 4294967296 := ⟨Int.mul_nonneg (by omega) Q1, Int.mul_le_mul (by omega) Q2 Q1 (by decide)⟩
        have zl : (stepsL l m k ++ List.replicate (m - k) 0).length = m := by simp [stepsL_length]; omega
        generalize hQ : 4294967296 / (m : Int) = Q at *
        simp -implicitDefEqProofs (disch := first | assumption | decide | omega | (simp only [wpD1] <;> omega) | (simp only [wpD2] <;> assumption) | solve_by_elim [HSub.refl, HSub.push, HSub.reserve] | fail) only [↓wpPre, wpPost, wpPoly, Int.reduceToNat, Int.reducePow, Int.reduceMul, Int.reduceAdd, Int.reduceSub, Int.reduceNeg, Nat.reduceAdd, Nat.reduceMul, Nat.reducePow, Int.reduceLT, Int.reduceLE, Int.reduceEq, Nat.reduceEqDiff, e0, e1, e7, e22, q0, hQ, wrap_u32]
        refine ACallsK.eq k2 ?_
        simp -implicitDefEqProofs (disch := first | assumption | decide | omega | (simp only [wpD1] <;> omega) | (simp only [wpD2] <;> assumption) | solve_by_elim [HSub.refl, HSub.push, HSub.reserve] | fail) only [↓wpPre, wpPost, wpPoly, Int.reduceToNat, Int.reducePow, Int.reduceMul, Int.reduceAdd, Int.reduceSub, Int.reduceNeg, Nat.reduceAdd, Nat.reduceMul, Nat.reducePow, Int.reduceLT, Int.reduceLE, Int.reduceEq, Nat.reduceEqDiff]
        refine ACallsK.eq (k3 _ _) ?_
        simp -implicitDefEqProofs (disch := first | assumption | decide | omega | (simp only [wpD1] <;> omega) | (simp only [wpD2] <;> assumption) | solve_by_elim [HSub.refl, HSub.push, HSub.reserve] | fail) only [↓wpPre, wpPost, wpPoly, Int.reduceToNat, Int.reducePow, Int.reduceMul, Int.reduceAdd, Int.reduceSub, Int.reduceNeg, Nat.reduceAdd, Nat.reduceMul, Nat.reducePow, Int.reduceLT, Int.reduceLE, Int.reduceEq, Nat.reduceEqDiff, e0, e1, e7, e21, e22, gb, sz, zl]
        exact ⟨_, ⟨(by repeat (first | exact s1 | refine HSub.put ?_ (by (try simp only [Heap.size_put, Heap.size_push, Heap.size_reserve]); omega) _ | refine HSub.push ?_ _ | refine HSub.reserve ?_ _)), hz, k + 1, rfl, by simp, by omega, rfl⟩, by omega⟩
      · have ek : k = m := by omega
        subst ek
        rw [Nat.sub_self, List.replicate_zero, List.append_nil] at gb
        simp -implicitDefEqProofs (disch := first | assumption | decide | omega | (simp only [wpD1] <;> omega) | (simp only [wpD2] <;> assumption) | solve_by_elim [HSub.refl, HSub.push, HSub.reserve] | fail) only [↓wpPre, wpPost, wpPoly, Int.reduceToNat, Int.reducePow, Int.reduceMul, Int.reduceAdd, Int.reduceSub, Int.reduceNeg, Nat.reduceAdd, Nat.reduceMul, Nat.reducePow, Int.reduceLT, Int.reduceLE, Int.reduceEq, Nat.reduceEqDiff, e7]
        exact ⟨_, rfl, s1, RI.known gb ⟨(stepsL_length _ _ _).symm, by omega⟩ (Nat.le_refl _)⟩
    · have e : stepsE l b = 3 := by unfold stepsE; rw [if_neg (by omega), if_neg c2]
      rw [e, if_neg (by decide)]
      simp -implicitDefEqProofs (disch := first | assumption | decide | omega | (simp only [wpD1] <;> omega) | (simp only [wpD2] <;> assumption) | solve_by_elim [HSub.refl, HSub.push, HSub.reserve] | fail) only [↓wpPre, wpPost, wpPoly, Int.reduceToNat, Int.reducePow, Int.reduceMul, Int.reduceAdd, Int.reduceSub, Int.reduceNeg, Nat.reduceAdd, Nat.reduceMul, Nat.reducePow, Int.reduceLT, Int.reduceLE, Int.reduceEq, Nat.reduceEqDiff, c2]
      exact ⟨_, rfl, HSub.push1 _ _, RI.nil⟩
  · have e : stepsE l b = smE l 16 := by unfold stepsE; rw [if_pos c]
    rw [e, if_neg c]
    generalize smE l 16 = e at *
    (refine calls_intro (hC.body (by decide) tab270) (Nat.le_of_ble_eq_true rfl) ?_); (show wp C _ none B270.code _ _); (simp only [B270]); simp -implicitDefEqProofs (disch := first | assumption | decide | omega | (simp only [wpD1] <;> omega) | (simp only [wpD2] <;> assumption) | solve_by_elim [HSub.refl, HSub.push, HSub.reserve] | fail) only [↓wpPre, wpPost, wpPoly, Int.reduceToNat, Int.reducePow, Int.reduceMul, Int.reduceAdd, Int.reduceSub, Int.reduceNeg, Nat.reduceAdd, Nat.reduceMul, Nat.reducePow, Int.reduceLT, Int.reduceLE, Int.reduceEq, Nat.reduceEqDiff]
    refine ACallsK.eq (k1 _ (HSub.refl _)) ?_
    simp -implicitDefEqProofs (disch := first | assumption | decide | omega | (simp only [wpD1] <;> omega) | (simp only [wpD2] <;> assumption) | solve_by_elim [HSub.refl, HSub.push, HSub.reserve] | fail) only [↓wpPre, wpPost, wpPoly, Int.reduceToNat, Int.reducePow, Int.reduceMul, Int.reduceAdd, Int.reduceSub, Int.reduceNeg, Nat.reduceAdd, Nat.reduceMul, Nat.reducePow, Int.reduceLT, Int.reduceLE, Int.reduceEq, Nat.reduceEqDiff, c]
    exact ⟨_, rfl, HSub.refl _, RI.nil⟩
def bestOut (l : List (Int × Int)) : AV := .tuple [.int .i64 (if bestE l = 0 then (bestK l l.length : Nat) else 0), .int .i64 (if bestE l = 0 then powP (l.getD (bestK l l.length) (0, 0)) else 0), .int .i64 (bestE l)]
set_option maxHeartbeats 1000000 in
theorem first291_spec (hC : Has C T291) (hP : Has C T289) {v : AV} {l : List (Int × Int)} {h : Heap} (hl : SI h v l) (h0 : 0 < l.length) (hll : l.length ≤ 100000) :
    ACalls C 291 [v, .func 289 [] []] h (fun r h' => r = .int .i64 (bestK l l.length : Nat) ∧ h' = h) := by
  refine ACalls.gc0 (P := fun r h' => r = .int .i64 (bestK l l.length : Nat) ∧ HSub h h') ?_ (fun r h' hp => ⟨by rw [hp.1]; trivial, hp.2, hp.1, rfl⟩)
  have k3 := fun p h => power_spec (p := p) (h := h) hP
  (refine calls_intro (hC.body (by decide) tab291) (Nat.le_of_ble_eq_true rfl) ?_); (show wp C _ none B291.code _ _); (simp only [B291]); simp -implicitDefEqProofs (disch := first | assumption | decide | omega | (simp only [wpD1] <;> omega) | (simp only [wpD2] <;> assumption) | solve_by_elim [HSub.refl, HSub.push, HSub.reserve] | fail) only [↓wpPre, wpPost, wpPoly, Int.reduceToNat, Int.reducePow, Int.reduceMul, Int.reduceAdd, Int.reduceSub, Int.reduceNeg, Nat.reduceAdd, Nat.reduceMul, Nat.reducePow, Int.reduceLT, Int.reduceLE, Int.reduceEq, Nat.reduceEqDiff, hl.len]
  refine wp_loopI (fun j t h' => HSub h h' ∧ ∃ k : Nat, t 0 = v ∧ t 1 = .func 289 [] [] ∧ t 5 = .int .i64 (bestK l k : Nat) ∧ t 8 = v ∧ t 9 = .int .i64 (l.length : Nat) ∧ t 10 = .int .i64 (k : Nat) ∧ k ≤ l.length ∧ j = l.length - k) (j0 := l.length)
    ⟨HSub.refl _, 0, rfl, rfl, rfl, rfl, rfl, rfl, by omega, rfl⟩ ?_
  rintro j t h1 ⟨s1, k, e0, e1, e5, e8, e9, e10, hk, hj⟩
  simp -implicitDefEqProofs (disch := first | assumption | decide | omega | (simp only [wpD1] <;> omega) | (simp only [wpD2] <;> assumption) | solve_by_elim [HSub.refl, HSub.push, HSub.reserve] | fail) only [↓wpPre, wpPost, wpPoly, Int.reduceToNat, Int.reducePow, Int.reduceMul, Int.reduceAdd, Int.reduceSub, Int.reduceNeg, Nat.reduceAdd, Nat.reduceMul, Nat.reducePow, Int.reduceLT, Int.reduceLE, Int.reduceEq, Nat.reduceEqDiff, e9, e10]
  refine Br.by (fun c3 => ?_) (fun c3 => ?_)
  · have hk' : k < l.length := by omega
    have hl1 := hl.mono s1
    have ld := hl1.loadA hk'
    have bl := bestK_lt l k
    have hl2 := fun c => (hl.mono (s1.push c)).loadA (k := bestK l k) (by omega)
    have es : bestK l (k + 1) = if powP (l.getD (bestK l k) (0, 0)) < powP (l.getD k (0, 0)) then k else bestK l k := rfl
    generalize bestK l k = m at *
    have k5 := k3 (l.getD k (0, 0))
    generalize l.getD k (0, 0) = x at *
    obtain ⟨xx, xy⟩ := x
    unfold smp at ld k5
    dsimp only at ld k5
    simp -implicitDefEqProofs (disch := first | assumption | decide | omega | (simp only [wpD1] <;> omega) | (simp only [wpD2] <;> assumption) | solve_by_elim [HSub.refl, HSub.push, HSub.reserve] | fail) only [↓wpPre, wpPost, wpPoly, Int.reduceToNat, Int.reducePow, Int.reduceMul, Int.reduceAdd, Int.reduceSub, Int.reduceNeg, Nat.reduceAdd, Nat.reduceMul, Nat.reducePow, Int.reduceLT, Int.reduceLE, Int.reduceEq, Nat.reduceEqDiff, e0, e1, e5, e8, e10, hl1.idx, ld, hl2]
    refine ACallsK.eq (k5 _) ?_
    simp -implicitDefEqProofs (disch := first | assumption | decide | omega | (simp only [wpD1] <;> omega) | (simp only [wpD2] <;> assumption) | solve_by_elim [HSub.refl, HSub.push, HSub.reserve] | fail) only [↓wpPre, wpPost, wpPoly, Int.reduceToNat, Int.reducePow, Int.reduceMul, Int.reduceAdd, Int.reduceSub, Int.reduceNeg, Nat.reduceAdd, Nat.reduceMul, Nat.reducePow, Int.reduceLT, Int.reduceLE, Int.reduceEq, Nat.reduceEqDiff, e1]
    refine ACallsK.eq (k3 _ _) ?_
    simp -implicitDefEqProofs (disch := first | assumption | decide | omega | (simp only [wpD1] <;> omega) | (simp only [wpD2] <;> assumption) | solve_by_elim [HSub.refl, HSub.push, HSub.reserve] | fail) only [↓wpPre, wpPost, wpPoly, Int.reduceToNat, Int.reducePow, Int.reduceMul, Int.reduceAdd, Int.reduceSub, Int.reduceNeg, Nat.reduceAdd, Nat.reduceMul, Nat.reducePow, Int.reduceLT, Int.reduceLE, Int.reduceEq, Nat.reduceEqDiff]
    refine Br.by (fun c4 => ?_) (fun c4 => ?_)
    · rw [if_pos c4] at es
      simp -implicitDefEqProofs (disch := first | assumption | decide | omega | (simp only [wpD1] <;> omega) | (simp only [wpD2] <;> assumption) | solve_by_elim [HSub.refl, HSub.push, HSub.reserve] | fail) only [↓wpPre, wpPost, wpPoly, Int.reduceToNat, Int.reducePow, Int.reduceMul, Int.reduceAdd, Int.reduceSub, Int.reduceNeg, Nat.reduceAdd, Nat.reduceMul, Nat.reducePow, Int.reduceLT, Int.reduceLE, Int.reduceEq, Nat.reduceEqDiff, e0, e1, e5, e8, e9, e10]
      exact ⟨_, ⟨(by repeat (first | exact s1 | refine HSub.put ?_ (by (try simp only [Heap.size_put, Heap.size_push, Heap.size_reserve]); omega) _ | refine HSub.push ?_ _ | refine HSub.reserve ?_ _)), k + 1, by rw [es], by simp, by omega, rfl⟩, by omega⟩
    · rw [if_neg c4] at es
      simp -implicitDefEqProofs (disch := first | assumption | decide | omega | (simp only [wpD1] <;> omega) | (simp only [wpD2] <;> assumption) | solve_by_elim [HSub.refl, HSub.push, HSub.reserve] | fail) only [↓wpPre, wpPost, wpPoly, Int.reduceToNat, Int.reducePow, Int.reduceMul, Int.reduceAdd, Int.reduceSub, Int.reduceNeg, Nat.reduceAdd, Nat.reduceMul, Nat.reducePow, Int.reduceLT, Int.reduceLE, Int.reduceEq, Nat.reduceEqDiff, e0, e1, e5, e8, e9, e10]
      exact ⟨_, ⟨(by repeat (first | exact s1 | refine HSub.put ?_ (by (try simp only [Heap.size_put, Heap.size_push, Heap.size_reserve]); omega) _ | refine HSub.push ?_ _ | refine HSub.reserve ?_ _)), k + 1, by rw [es], by simp, by omega, rfl⟩, by omega⟩
  · have ek : k = l.length := by omega
    subst ek
    simp -implicitDefEqProofs (disch := first | assumption | decide | omega | (simp only [wpD1] <;> omega) | (simp only [wpD2] <;> assumption) | solve_by_elim [HSub.refl, HSub.push, HSub.reserve] | fail) only [↓wpPre, wpPost, wpPoly, Int.reduceToNat, Int.reducePow, Int.reduceMul, Int.reduceAdd, Int.reduceSub, Int.reduceNeg, Nat.reduceAdd, Nat.reduceMul, Nat.reducePow, Int.reduceLT, Int.reduceLE, Int.reduceEq, Nat.reduceEqDiff, e5]
    exact s1
theorem Best_spec (hC : Has C T272) {v : AV} {l : List (Int × Int)} {h : Heap} (hl : SI h v l) : ACalls C 272 [v] h (fun r h' => r = bestOut l ∧ h' = h) := by
  have hlt := hl.lt
  have k1 := small_spec (hC.sub (T' := T285) (by decide)) (most := 8192) hl (by omega)
  have cc := smE_cases l 8192
  unfold bestOut bestE
  by_cases c0 : l.length = 0
  · rw [if_pos c0, if_neg (by decide), if_neg (by decide)]
    (refine calls_intro (hC.body (by decide) tab272) (Nat.le_of_ble_eq_true rfl) ?_); (show wp C _ none B272.code _ _); (simp only [B272]); simp -implicitDefEqProofs (disch := first | assumption | decide | omega | (simp only [wpD1] <;> omega) | (simp only [wpD2] <;> assumption) | solve_by_elim [HSub.refl, HSub.push, HSub.reserve] | fail) only [↓wpPre, wpPost, wpPoly, Int.reduceToNat, Int.reducePow, Int.reduceMul, Int.reduceAdd, Int.reduceSub, Int.reduceNeg, Nat.reduceAdd, Nat.reduceMul, Nat.reducePow, Int.reduceLT, Int.reduceLE, Int.reduceEq, Nat.reduceEqDiff, hl.len]
  · rw [if_neg c0]
    by_cases c : smE l 8192 = 0
    · have z := smE_zero c
      have k2 := first291_spec (hC.sub (T' := T291) (by decide)) (hC.sub (T' := T289) (by decide)) hl (by omega) (by omega)
      have k3 := fun p h => power_spec (p := p) (h := h) (hC.sub (T' := T289) (by decide))
      have bl := bestK_lt l l.length
      rw [c] at k1 ⊢
      have ld := hl.loadA (k := bestK l l.length) (by omega)
      (refine calls_intro (hC.body (by decide) tab272) (Nat.le_of_ble_eq_true rfl) ?_); (show wp C _ none B272.code _ _); (simp only [B272]); simp -implicitDefEqProofs (disch := first | assumption | decide | omega | (simp only [wpD1] <;> omega) | (simp only [wpD2] <;> assumption) | solve_by_elim [HSub.refl, HSub.push, HSub.reserve] | fail) only [↓wpPre, wpPost, wpPoly, Int.reduceToNat, Int.reducePow, Int.reduceMul, Int.reduceAdd, Int.reduceSub, Int.reduceNeg, Nat.reduceAdd, Nat.reduceMul, Nat.reducePow, Int.reduceLT, Int.reduceLE, Int.reduceEq, Nat.reduceEqDiff, hl.len]
      refine ACallsK.eq k1 ?_
      simp -implicitDefEqProofs (disch := first | assumption | decide | omega | (simp only [wpD1] <;> omega) | (simp only [wpD2] <;> assumption) | solve_by_elim [HSub.refl, HSub.push, HSub.reserve] | fail) only [↓wpPre, wpPost, wpPoly, Int.reduceToNat, Int.reducePow, Int.reduceMul, Int.reduceAdd, Int.reduceSub, Int.reduceNeg, Nat.reduceAdd, Nat.reduceMul, Nat.reducePow, Int.reduceLT, Int.reduceLE, Int.reduceEq, Nat.reduceEqDiff]
      refine ACallsK.eq k2 ?_
      simp -implicitDefEqProofs (disch := first | assumption | decide | omega | (simp only [wpD1] <;> omega) | (simp only [wpD2] <;> assumption) | solve_by_elim [HSub.refl, HSub.push, HSub.reserve] | fail) only [↓wpPre, wpPost, wpPoly, Int.reduceToNat, Int.reducePow, Int.reduceMul, Int.reduceAdd, Int.reduceSub, Int.reduceNeg, Nat.reduceAdd, Nat.reduceMul, Nat.reducePow, Int.reduceLT, Int.reduceLE, Int.reduceEq, Nat.reduceEqDiff, hl.idx, ld]
      refine ACallsK.eq (k3 _ _) ?_
      simp -implicitDefEqProofs (disch := first | assumption | decide | omega | (simp only [wpD1] <;> omega) | (simp only [wpD2] <;> assumption) | solve_by_elim [HSub.refl, HSub.push, HSub.reserve] | fail) only [↓wpPre, wpPost, wpPoly, Int.reduceToNat, Int.reducePow, Int.reduceMul, Int.reduceAdd, Int.reduceSub, Int.reduceNeg, Nat.reduceAdd, Nat.reduceMul, Nat.reducePow, Int.reduceLT, Int.reduceLE, Int.reduceEq, Nat.reduceEqDiff]
      rw [if_pos trivial, if_pos trivial]
    · rw [if_neg c, if_neg c]
      generalize smE l 8192 = e at *
      (refine calls_intro (hC.body (by decide) tab272) (Nat.le_of_ble_eq_true rfl) ?_); (show wp C _ none B272.code _ _); (simp only [B272]); simp -implicitDefEqProofs (disch := first | assumption | decide | omega | (simp only [wpD1] <;> omega) | (simp only [wpD2] <;> assumption) | solve_by_elim [HSub.refl, HSub.push, HSub.reserve] | fail) only [↓wpPre, wpPost, wpPoly, Int.reduceToNat, Int.reducePow, Int.reduceMul, Int.reduceAdd, Int.reduceSub, Int.reduceNeg, Nat.reduceAdd, Nat.reduceMul, Nat.reducePow, Int.reduceLT, Int.reduceLE, Int.reduceEq, Nat.reduceEqDiff, hl.len]
      refine ACallsK.eq k1 ?_
      simp -implicitDefEqProofs (disch := first | assumption | decide | omega | (simp only [wpD1] <;> omega) | (simp only [wpD2] <;> assumption) | solve_by_elim [HSub.refl, HSub.push, HSub.reserve] | fail) only [↓wpPre, wpPost, wpPoly, Int.reduceToNat, Int.reducePow, Int.reduceMul, Int.reduceAdd, Int.reduceSub, Int.reduceNeg, Nat.reduceAdd, Nat.reduceMul, Nat.reducePow, Int.reduceLT, Int.reduceLE, Int.reduceEq, Nat.reduceEqDiff, c]
end
end Go.Ae
