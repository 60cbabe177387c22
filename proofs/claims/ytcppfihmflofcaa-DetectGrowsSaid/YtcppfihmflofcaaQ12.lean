/- Texts of the proof, part 12: a second reading of the lowered code, proved sound, and what the functions compute. -/
import Derived.Sort.Row
import Derived.Sort.Grow
import Derived.Test.YtcppfihmflofcaaQ11
/- Go's sort of a list of numbers, as the library's contract tells it. -/
set_option linter.unusedSimpArgs false
set_option linter.unusedVariables false
namespace Go.Ae
open Go.Sort
end Go.Ae
/- The codes of the reference; sums. -/
set_option linter.unusedSimpArgs false
set_option linter.unusedVariables false
namespace Go.Ae
def codeK (d p : Int) (k : Nat) : List Int := (codeL d p).take k ++ List.replicate (lenN d - k) 0
theorem codeK_length {d p : Int} {k : Nat} (h : k ≤ lenN d) : (codeK d p k).length = lenN d := by simp [codeK, codeL_length]; omega
theorem codeL_get {d p : Int} {k : Nat} (h : k < lenN d) : (codeL d p).getD k 0 = 1 - 2 * codeB d p k := by simp [codeL, bitC, h]
theorem codeK_set {d p : Int} {k : Nat} (h : k < lenN d) : (codeK d p k).set k (1 - 2 * codeB d p k) = codeK d p (k + 1) := by
 unfold codeK
 have cl := codeL_length d p
 have hl : ((codeL d p).take k).length = k := by simp [cl]; omega
 rw [List.set_append_right _ _ (by omega), hl, Nat.sub_self, show lenN d - k = lenN d - (k + 1) + 1 by omega, List.replicate_succ, List.set_cons_zero, take_succ_getD (by omega), codeL_get h, List.append_assoc]
 rfl
theorem codeK_full (d p : Int) : codeK d p (lenN d) = codeL d p := by
 have cl := codeL_length d p
 simp [codeK, ← cl]
theorem codeL_range {d p : Int} : ∀ x ∈ codeL d p, -1 ≤ x ∧ x ≤ 1 := by
 intro x hx
 obtain ⟨b, hb, rfl⟩ := List.mem_map.1 hx
 obtain ⟨i, _, rfl⟩ := List.mem_map.1 hb
 have := codeB_01 d p i
 omega
section
variable {C : Ctx}
set_option maxRecDepth 100000 in
set_option maxHeartbeats 2000000 in
theorem Code08_new (hC : Has C T77) {d p : Int} {h : Heap} (hd : In64 d) (hp : In64 p) : ACalls C 77 [.int .i64 d, .int .i64 p] h (fun r h' => ∃ v, r = lstErr v (codeErr d p) ∧ HSub h h' ∧ RI h' v (if codeErr d p = 0 then codeL d p else []) ∧ ∀ i ∈ v.ids, h.size ≤ i) := by
 have hp' := hp
 unfold In64 at hp'
 have pe : codeErr d p = if lenOk d = true ∧ 1 ≤ p ∧ p ≤ lenN d + 2 then 0 else 2 := rfl
 by_cases c : lenOk d = true
 ·have hl := lenN_eq c
  have eL : lenE d = tup2 (lenN d) 0 := by unfold lenE; rw [if_pos c]
  by_cases cp : 1 ≤ p ∧ p ≤ lenN d + 2
  ·rw [if_pos ⟨c, cp⟩] at pe
   rw [pe]
   have t1 : tapsErr d 1 = 0 := by unfold tapsErr; rw [if_pos ⟨c, .inl rfl⟩]
   have t2 : tapsErr d 2 = 0 := by unfold tapsErr; rw [if_pos ⟨c, .inr rfl⟩]
   have lb1 := bitsL_length d 1
   have lb2 := bitsL_length d 2
   have hB : ∀ {w : Int} {h : Heap}, tapsErr d w = 0 → In64 w → ACalls C 75 [.int .i64 d, .int .i64 w] h (fun r h' => ∃ v, r = lstErr v 0 ∧ HSub h h' ∧ RI h' v (bitsL d w)) := by
    intro w h e hw
    refine (Bits08_spec (hC.sub (T' := T75) (by decide)) hd hw).mono ?_
    rintro r h' ⟨v, h1, h2, h3⟩
    rw [e, if_pos rfl] at h3
    exact ⟨v, by rw [h1, e], h2, h3⟩
   (refine calls_intro (hC.body (by decide) tab77) (Nat.le_of_ble_eq_true rfl) ?_); (show wp C _ none B77.code _ _); (simp only [B77]); simp -implicitDefEqProofs (disch := first | assumption | decide | omega | (simp only [wpD1] <;> omega) | (simp only [wpD2] <;> assumption) | solve_by_elim [zR, zP, zV] | fail) only [↓wpPre, wpPost, wpPoly, Int.reduceToNat, Int.reducePow, Int.reduceMul, Int.reduceAdd, Int.reduceSub, Int.reduceNeg, Nat.reduceAdd, Nat.reduceMul, Nat.reducePow, Int.reduceLT, Int.reduceLE, Int.reduceEq, Nat.reduceEqDiff]
   refine ACallsK.eq2 (Length08_spec (hC.sub (T' := T71) (by decide)) hd) eL ?_
   simp -implicitDefEqProofs (disch := first | assumption | decide | omega | (simp only [wpD1] <;> omega) | (simp only [wpD2] <;> assumption) | solve_by_elim [zR, zP, zV] | fail) only [↓wpPre, wpPost, wpPoly, Int.reduceToNat, Int.reducePow, Int.reduceMul, Int.reduceAdd, Int.reduceSub, Int.reduceNeg, Nat.reduceAdd, Nat.reduceMul, Nat.reducePow, Int.reduceLT, Int.reduceLE, Int.reduceEq, Nat.reduceEqDiff, tup2]
   refine ACallsK.of (hB t1 (by unfold In64; omega)) ?_
   rintro r h1 ⟨v1, rfl, s1, R1⟩
   simp -implicitDefEqProofs (disch := first | assumption | decide | omega | (simp only [wpD1] <;> omega) | (simp only [wpD2] <;> assumption) | solve_by_elim [zR, zP, zV] | fail) only [↓wpPre, wpPost, wpPoly, Int.reduceToNat, Int.reducePow, Int.reduceMul, Int.reduceAdd, Int.reduceSub, Int.reduceNeg, Nat.reduceAdd, Nat.reduceMul, Nat.reducePow, Int.reduceLT, Int.reduceLE, Int.reduceEq, Nat.reduceEqDiff, lstErr]
   refine ACallsK.of (hB t2 (by unfold In64; omega)) ?_
   rintro r h2 ⟨v2, rfl, s2, R2⟩
   have R1 := R1.mono s2
   have s12 := s1.trans s2
   simp -implicitDefEqProofs (disch := first | assumption | decide | omega | (simp only [wpD1] <;> omega) | (simp only [wpD2] <;> assumption) | solve_by_elim [zR, zP, zV] | fail) only [↓wpPre, wpPost, wpPoly, Int.reduceToNat, Int.reducePow, Int.reduceMul, Int.reduceAdd, Int.reduceSub, Int.reduceNeg, Nat.reduceAdd, Nat.reduceMul, Nat.reducePow, Int.reduceLT, Int.reduceLE, Int.reduceEq, Nat.reduceEqDiff, lstErr, ints_replicate]
   refine wp_loopI (fun j t h' => ∃ k : Nat, h' = h2.push (.cells (ints (codeK d p k)) true 0) ∧ t 1 = .int .i64 p ∧ t 6 = .int .i64 (lenN d) ∧ t 8 = v1 ∧ t 10 = v2 ∧ t 12 = .slice h2.size 0 (lenN d) (.known (lenN d)) ∧ t 13 = .int .i64 (k : Nat) ∧ k ≤ lenN d ∧ j = lenN d - k) (j0 := lenN d)
    ⟨0, by simp [codeK], rfl, rfl, rfl, rfl, rfl, rfl, by omega, rfl⟩ ?_
   rintro j t h3 ⟨k, rfl, e1, e6, e8, e10, e12, e13, hk, hj⟩
   have lK := codeK_length (p := p) hk
   simp -implicitDefEqProofs (disch := first | assumption | decide | omega | (simp only [wpD1] <;> omega) | (simp only [wpD2] <;> assumption) | solve_by_elim [zR, zP, zV] | fail) only [↓wpPre, wpPost, wpPoly, Int.reduceToNat, Int.reducePow, Int.reduceMul, Int.reduceAdd, Int.reduceSub, Int.reduceNeg, Nat.reduceAdd, Nat.reduceMul, Nat.reducePow, Int.reduceLT, Int.reduceLE, Int.reduceEq, Nat.reduceEqDiff, e6, e13]
   refine Br.by (fun c1 => ?_) (fun c1 => ?_)
   ·have hk' : k < lenN d := by omega
    have b1 := bit01_getD (bitsL_01 (d := d) (w := 1)) k
    have b2 := bit01_getD (bitsL_01 (d := d) (w := 2)) k
    have b12 := codeB_01 d p k
    have hst := codeK_set (p := p) hk'
    by_cases p1 : p = 1
    ·have hcb : codeB d p k = (bitsL d 1).getD k 0 := by unfold codeB; rw [if_pos p1]
     rw [hcb] at hst
     simp -implicitDefEqProofs (disch := first | assumption | decide | omega | (simp only [wpD1] <;> omega) | (simp only [wpD2] <;> assumption) | solve_by_elim [zR, zP, zV] | fail) only [↓wpPre, wpPost, wpPoly, Int.reduceToNat, Int.reducePow, Int.reduceMul, Int.reduceAdd, Int.reduceSub, Int.reduceNeg, Nat.reduceAdd, Nat.reduceMul, Nat.reducePow, Int.reduceLT, Int.reduceLE, Int.reduceEq, Nat.reduceEqDiff, e1, e6, e8, e10, e12, e13, R1.idx, R1.loadC, hst]
     exact ⟨_, ⟨k + 1, rfl, by simp, by omega, rfl⟩, by omega⟩
    by_cases p2 : p = 2
    ·have hcb : codeB d p k = (bitsL d 2).getD k 0 := by unfold codeB; rw [if_neg p1, if_pos p2]
     rw [hcb] at hst
     simp -implicitDefEqProofs (disch := first | assumption | decide | omega | (simp only [wpD1] <;> omega) | (simp only [wpD2] <;> assumption) | solve_by_elim [zR, zP, zV] | fail) only [↓wpPre, wpPost, wpPoly, Int.reduceToNat, Int.reducePow, Int.reduceMul, Int.reduceAdd, Int.reduceSub, Int.reduceNeg, Nat.reduceAdd, Nat.reduceMul, Nat.reducePow, Int.reduceLT, Int.reduceLE, Int.reduceEq, Nat.reduceEqDiff, e1, e6, e8, e10, e12, e13, R2.idx, R2.loadC, hst]
     exact ⟨_, ⟨k + 1, rfl, by simp, by omega, rfl⟩, by omega⟩
    have em : ((k : Int) + p - 3) % (lenN d : Int) = (((k + (p - 3).toNat) % lenN d : Nat) : Int) := by
     rw [show (k : Int) + p - 3 = ((k + (p - 3).toNat : Nat) : Int) by omega]; exact (Int.natCast_emod _ _).symm
    have hm : (k + (p - 3).toNat) % lenN d < lenN d := Nat.mod_lt _ (by omega)
    have ex := xor01 b1 (bit01_getD (bitsL_01 (d := d) (w := 2)) ((k + (p - 3).toNat) % lenN d))
    have hcb : codeB d p k = ((bitsL d 1).getD k 0 + (bitsL d 2).getD ((k + (p - 3).toNat) % lenN d) 0) % 2 := by unfold codeB; rw [if_neg p1, if_neg p2]
    rw [← hcb] at ex
    simp -implicitDefEqProofs (disch := first | assumption | decide | omega | (simp only [wpD1] <;> omega) | (simp only [wpD2] <;> assumption) | solve_by_elim [zR, zP, zV] | fail) only [↓wpPre, wpPost, wpPoly, Int.reduceToNat, Int.reducePow, Int.reduceMul, Int.reduceAdd, Int.reduceSub, Int.reduceNeg, Nat.reduceAdd, Nat.reduceMul, Nat.reducePow, Int.reduceLT, Int.reduceLE, Int.reduceEq, Nat.reduceEqDiff, e1, e6, e8, e10, e12, e13, R1.idx, R1.loadC, R2.idx, R2.loadC, em, ex, hst]
    exact ⟨_, ⟨k + 1, rfl, by simp, by omega, rfl⟩, by omega⟩
   ·have ek : k = lenN d := by omega
    have cl := codeL_length d p
    have hcf : codeK d p k = codeL d p := by rw [ek, codeK_full]
    simp -implicitDefEqProofs (disch := first | assumption | decide | omega | (simp only [wpD1] <;> omega) | (simp only [wpD2] <;> assumption) | solve_by_elim [zR, zP, zV] | fail) only [↓wpPre, wpPost, wpPoly, Int.reduceToNat, Int.reducePow, Int.reduceMul, Int.reduceAdd, Int.reduceSub, Int.reduceNeg, Nat.reduceAdd, Nat.reduceMul, Nat.reducePow, Int.reduceLT, Int.reduceLE, Int.reduceEq, Nat.reduceEqDiff, e12]
    exact ⟨_, rfl, s12.push _, by rw [if_pos trivial, ← hcf]; exact RI.known (get_push_eq rfl) ⟨by rw [lK], by omega⟩ (by omega), fun i hi => by simp only [AV.ids, List.mem_singleton] at hi; have := s12.size; omega⟩
  ·have cp' : ¬ (lenOk d = true ∧ 1 ≤ p ∧ p ≤ lenN d + 2) := fun h => cp h.2
   rw [if_neg cp'] at pe
   rw [pe]
   (refine calls_intro (hC.body (by decide) tab77) (Nat.le_of_ble_eq_true rfl) ?_); (show wp C _ none B77.code _ _); (simp only [B77]); simp -implicitDefEqProofs (disch := first | assumption | decide | omega | (simp only [wpD1] <;> omega) | (simp only [wpD2] <;> assumption) | solve_by_elim [zR, zP, zV] | fail) only [↓wpPre, wpPost, wpPoly, Int.reduceToNat, Int.reducePow, Int.reduceMul, Int.reduceAdd, Int.reduceSub, Int.reduceNeg, Nat.reduceAdd, Nat.reduceMul, Nat.reducePow, Int.reduceLT, Int.reduceLE, Int.reduceEq, Nat.reduceEqDiff]
   refine ACallsK.eq2 (Length08_spec (hC.sub (T' := T71) (by decide)) hd) eL ?_
   simp -implicitDefEqProofs (disch := first | assumption | decide | omega | (simp only [wpD1] <;> omega) | (simp only [wpD2] <;> assumption) | solve_by_elim [zR, zP, zV] | fail) only [↓wpPre, wpPost, wpPoly, Int.reduceToNat, Int.reducePow, Int.reduceMul, Int.reduceAdd, Int.reduceSub, Int.reduceNeg, Nat.reduceAdd, Nat.reduceMul, Nat.reducePow, Int.reduceLT, Int.reduceLE, Int.reduceEq, Nat.reduceEqDiff, tup2]
   (repeat' (first | (refine Br.by (fun _ => ?_) (fun _ => ?_)) | (simp -implicitDefEqProofs (disch := first | assumption | decide | omega | (simp only [wpD1] <;> omega) | (simp only [wpD2] <;> assumption) | solve_by_elim [zR, zP, zV] | fail) only [↓wpPre, wpPost, wpPoly, Int.reduceToNat, Int.reducePow, Int.reduceMul, Int.reduceAdd, Int.reduceSub, Int.reduceNeg, Nat.reduceAdd, Nat.reduceMul, Nat.reducePow, Int.reduceLT, Int.reduceLE, Int.reduceEq, Nat.reduceEqDiff])))
   all_goals first | exact ⟨.nilslice, by rw [lstErr], HSub.refl _, by rw [if_neg id]; exact RI.nil, by simp [AV.ids]⟩ | omega
 ·have eL : lenE d = tup2 0 2 := by unfold lenE; rw [if_neg c]
  have cp' : ¬ (lenOk d = true ∧ 1 ≤ p ∧ p ≤ lenN d + 2) := fun h => c h.1
  rw [if_neg cp'] at pe
  rw [pe]
  (refine calls_intro (hC.body (by decide) tab77) (Nat.le_of_ble_eq_true rfl) ?_); (show wp C _ none B77.code _ _); (simp only [B77]); simp -implicitDefEqProofs (disch := first | assumption | decide | omega | (simp only [wpD1] <;> omega) | (simp only [wpD2] <;> assumption) | solve_by_elim [zR, zP, zV] | fail) only [↓wpPre, wpPost, wpPoly, Int.reduceToNat, Int.reducePow, Int.reduceMul, Int.reduceAdd, Int.reduceSub, Int.reduceNeg, Nat.reduceAdd, Nat.reduceMul, Nat.reducePow, Int.reduceLT, Int.reduceLE, Int.reduceEq, Nat.reduceEqDiff]
  refine ACallsK.eq2 (Length08_spec (hC.sub (T' := T71) (by decide)) hd) eL ?_
  simp -implicitDefEqProofs (disch := first | assumption | decide | omega | (simp only [wpD1] <;> omega) | (simp only [wpD2] <;> assumption) | solve_by_elim [zR, zP, zV] | fail) only [↓wpPre, wpPost, wpPoly, Int.reduceToNat, Int.reducePow, Int.reduceMul, Int.reduceAdd, Int.reduceSub, Int.reduceNeg, Nat.reduceAdd, Nat.reduceMul, Nat.reducePow, Int.reduceLT, Int.reduceLE, Int.reduceEq, Nat.reduceEqDiff, tup2]
  exact ⟨.nilslice, by rw [lstErr], HSub.refl _, by rw [if_neg id]; exact RI.nil, by simp [AV.ids]⟩
theorem Code08_spec (hC : Has C T77) {d p : Int} {h : Heap} (hd : In64 d) (hp : In64 p) : ACalls C 77 [.int .i64 d, .int .i64 p] h (fun r h' => ∃ v, r = lstErr v (codeErr d p) ∧ HSub h h' ∧ RI h' v (if codeErr d p = 0 then codeL d p else [])) :=
 (Code08_new hC hd hp).mono fun r h' ⟨v, a, b, c, _⟩ => ⟨v, a, b, c⟩
end
end Go.Ae
/- Samples of codes, of the program. -/
set_option linter.unusedSimpArgs false
set_option linter.unusedVariables false
namespace Go.Ae
def knownErr (d o : Int) : Int := if lenOk d = true ∧ 1 ≤ o ∧ o ≤ 8 then 0 else 2
def sampL (d p : Int) (o : Nat) : List Int := ((codeL d p).map fun x => List.replicate o x).flatten
def sampP (d p : Int) (o k : Nat) : List Int := (((codeL d p).take k).map fun x => List.replicate o x).flatten
theorem sampP_succ {d p : Int} {o k : Nat} (h : k < (codeL d p).length) : sampP d p o (k + 1) = sampP d p o k ++ List.replicate o ((codeL d p).getD k 0) := by
 unfold sampP; rw [take_succ_getD h]; simp
theorem sampP_length {d p : Int} {o : Nat} : ∀ k, k ≤ (codeL d p).length → (sampP d p o k).length = k * o
 | 0, _ => by simp [sampP]
 | k + 1, h => by rw [sampP_succ (by omega), List.length_append, sampP_length k (by omega), List.length_replicate, Nat.add_mul, Nat.one_mul]
theorem sampP_full (d p : Int) (o : Nat) : sampP d p o (codeL d p).length = sampL d p o := by unfold sampP sampL; rw [List.take_length]
section
variable {C : Ctx}
theorem known09_spec (hC : Has C T150) {d o : Int} {h : Heap} (hd : In64 d) (ho : In64 o) : ACalls C 150 [.int .i64 d, .int .i64 o] h (fun r h' => r = .int .i64 (knownErr d o) ∧ h' = h) := by
 unfold In64 at ho
 by_cases c : lenOk d = true
 ·have e : lenE d = tup2 (lenN d) 0 := by unfold lenE; rw [if_pos c]
  by_cases co : 1 ≤ o ∧ o ≤ 8
  ·have pe : knownErr d o = 0 := by unfold knownErr; rw [if_pos ⟨c, co⟩]
   rw [pe]
   (refine calls_intro (hC.body (by decide) tab150) (Nat.le_of_ble_eq_true rfl) ?_); (show wp C _ none B150.code _ _); (simp only [B150]); simp -implicitDefEqProofs (disch := first | assumption | decide | omega | (simp only [wpD1] <;> omega) | (simp only [wpD2] <;> assumption) | solve_by_elim [zR, zP, zV] | fail) only [↓wpPre, wpPost, wpPoly, Int.reduceToNat, Int.reducePow, Int.reduceMul, Int.reduceAdd, Int.reduceSub, Int.reduceNeg, Nat.reduceAdd, Nat.reduceMul, Nat.reducePow, Int.reduceLT, Int.reduceLE, Int.reduceEq, Nat.reduceEqDiff]
   refine ACallsK.eq2 (Length_spec (hC.sub (T' := T70) (by decide)) hd) e ?_
   simp -implicitDefEqProofs (disch := first | assumption | decide | omega | (simp only [wpD1] <;> omega) | (simp only [wpD2] <;> assumption) | solve_by_elim [zR, zP, zV] | fail) only [↓wpPre, wpPost, wpPoly, Int.reduceToNat, Int.reducePow, Int.reduceMul, Int.reduceAdd, Int.reduceSub, Int.reduceNeg, Nat.reduceAdd, Nat.reduceMul, Nat.reducePow, Int.reduceLT, Int.reduceLE, Int.reduceEq, Nat.reduceEqDiff, tup2]
  ·have pe : knownErr d o = 2 := by unfold knownErr; rw [if_neg (fun h => co h.2)]
   rw [pe]
   (refine calls_intro (hC.body (by decide) tab150) (Nat.le_of_ble_eq_true rfl) ?_); (show wp C _ none B150.code _ _); (simp only [B150]); simp -implicitDefEqProofs (disch := first | assumption | decide | omega | (simp only [wpD1] <;> omega) | (simp only [wpD2] <;> assumption) | solve_by_elim [zR, zP, zV] | fail) only [↓wpPre, wpPost, wpPoly, Int.reduceToNat, Int.reducePow, Int.reduceMul, Int.reduceAdd, Int.reduceSub, Int.reduceNeg, Nat.reduceAdd, Nat.reduceMul, Nat.reducePow, Int.reduceLT, Int.reduceLE, Int.reduceEq, Nat.reduceEqDiff]
   refine ACallsK.eq2 (Length_spec (hC.sub (T' := T70) (by decide)) hd) e ?_
   simp -implicitDefEqProofs (disch := first | assumption | decide | omega | (simp only [wpD1] <;> omega) | (simp only [wpD2] <;> assumption) | solve_by_elim [zR, zP, zV] | fail) only [↓wpPre, wpPost, wpPoly, Int.reduceToNat, Int.reducePow, Int.reduceMul, Int.reduceAdd, Int.reduceSub, Int.reduceNeg, Nat.reduceAdd, Nat.reduceMul, Nat.reducePow, Int.reduceLT, Int.reduceLE, Int.reduceEq, Nat.reduceEqDiff, tup2]
   (repeat' (first | (refine Br.by (fun _ => ?_) (fun _ => ?_)) | (simp -implicitDefEqProofs (disch := first | assumption | decide | omega | (simp only [wpD1] <;> omega) | (simp only [wpD2] <;> assumption) | solve_by_elim [zR, zP, zV] | fail) only [↓wpPre, wpPost, wpPoly, Int.reduceToNat, Int.reducePow, Int.reduceMul, Int.reduceAdd, Int.reduceSub, Int.reduceNeg, Nat.reduceAdd, Nat.reduceMul, Nat.reducePow, Int.reduceLT, Int.reduceLE, Int.reduceEq, Nat.reduceEqDiff])))
   all_goals omega
 ·have e : lenE d = tup2 0 2 := by unfold lenE; rw [if_neg c]
  have pe : knownErr d o = 2 := by unfold knownErr; rw [if_neg (fun h => c h.1)]
  rw [pe]
  (refine calls_intro (hC.body (by decide) tab150) (Nat.le_of_ble_eq_true rfl) ?_); (show wp C _ none B150.code _ _); (simp only [B150]); simp -implicitDefEqProofs (disch := first | assumption | decide | omega | (simp only [wpD1] <;> omega) | (simp only [wpD2] <;> assumption) | solve_by_elim [zR, zP, zV] | fail) only [↓wpPre, wpPost, wpPoly, Int.reduceToNat, Int.reducePow, Int.reduceMul, Int.reduceAdd, Int.reduceSub, Int.reduceNeg, Nat.reduceAdd, Nat.reduceMul, Nat.reducePow, Int.reduceLT, Int.reduceLE, Int.reduceEq, Nat.reduceEqDiff]
  refine ACallsK.eq2 (Length_spec (hC.sub (T' := T70) (by decide)) hd) e ?_
  simp -implicitDefEqProofs (disch := first | assumption | decide | omega | (simp only [wpD1] <;> omega) | (simp only [wpD2] <;> assumption) | solve_by_elim [zR, zP, zV] | fail) only [↓wpPre, wpPost, wpPoly, Int.reduceToNat, Int.reducePow, Int.reduceMul, Int.reduceAdd, Int.reduceSub, Int.reduceNeg, Nat.reduceAdd, Nat.reduceMul, Nat.reducePow, Int.reduceLT, Int.reduceLE, Int.reduceEq, Nat.reduceEqDiff, tup2]
end
end Go.Ae
/- Two lists that grow side by side. -/
set_option linter.unusedSimpArgs false
set_option linter.unusedVariables false
namespace Go.Ae
def Dj (v w : AV) : Prop := ∀ i, i ∈ v.ids → i ∉ w.ids
theorem Dj.nilL {w : AV} : Dj .nilslice w := fun i hi => by simp [AV.ids] at hi
theorem Dj.nilR {v : AV} : Dj v .nilslice := fun i _ => by simp [AV.ids]
theorem Dj.symm {v w : AV} (h : Dj v w) : Dj w v := fun i hi hv => h i hv hi
section
variable {h0 h H : Heap} {sz sz' n m k k' : Nat} {v w : AV} {cs ds es : List AV} {c : Cap} {x : Int} {l l' : List Int}
theorem Grw.dj (B : Grw h0 h sz w n ds) (hk : h.size ≤ k) : Dj w (.slice k 0 k' c) := by
 obtain ⟨_, _, _, ⟨rfl, rfl⟩ | ⟨i, ex, hi, rfl, hg⟩⟩ := B
 ·exact Dj.nilL
 ·intro j hj
  have := Heap.lt_of_get hg
  simp only [AV.ids, List.mem_singleton] at hj ⊢
  omega
theorem Grw.keep (A : Grw h0 h sz' v m es) (B : Grw h0 h sz w n ds) (hs : HSub h H) (hd : Dj w v) : Grw h0 (snocH H none v sz' cs) sz w n ds := by
 have hsub : HSub h0 (snocH H none v sz' cs) := by
  obtain ⟨h1, _, _, ⟨rfl, rfl⟩ | ⟨i, ex, hi, rfl, hg⟩⟩ := A
  ·exact (h1.trans hs).push _
  ·exact ((h1.trans hs).put hi _).push _
 obtain ⟨h1, hl, hn, ⟨rfl, rfl⟩ | ⟨i, ex, hi, rfl, hg⟩⟩ := B
 ·exact ⟨hsub, hl, hn, .inl ⟨rfl, rfl⟩⟩
 ·refine ⟨hsub, hl, hn, .inr ⟨i, ex, hi, rfl, ?_⟩⟩
  have hlt := Heap.lt_of_get hg
  have hsz := hs.size
  have hH := (hs.get i hlt).trans hg
  obtain ⟨_, _, _, ⟨rfl, rfl⟩ | ⟨j, ex', hj, rfl, hg'⟩⟩ := A
  ·exact (get_push_lt (by omega)).trans hH
  ·have hne : i ≠ j := fun e => hd i (by simp [AV.ids]) (by simp [AV.ids, e])
   exact (get_push_lt (by simp only [Heap.size_put]; omega)).trans ((get_put_ne hne).trans hH)
theorem Grw.keepS (A : Grw h0 h sz' v m es) (B : Grw h0 h sz w n ds) (hs : HSub h H) (hk : h.size ≤ k ∧ k < H.size) (hd : Dj w v) : Grw h0 (snocH H (some k) v sz' cs) sz w n ds := by
 have hsub : HSub h0 (snocH H (some k) v sz' cs) := by
  have := A.sub.size
  obtain ⟨h1, _, _, ⟨rfl, rfl⟩ | ⟨i, ex, hi, rfl, hg⟩⟩ := A
  ·exact (h1.trans hs).put (by omega) _
  ·exact ((h1.trans hs).put hi _).put (by omega) _
 obtain ⟨h1, hl, hn, ⟨rfl, rfl⟩ | ⟨i, ex, hi, rfl, hg⟩⟩ := B
 ·exact ⟨hsub, hl, hn, .inl ⟨rfl, rfl⟩⟩
 ·refine ⟨hsub, hl, hn, .inr ⟨i, ex, hi, rfl, ?_⟩⟩
  have hlt := Heap.lt_of_get hg
  have hH := (hs.get i hlt).trans hg
  obtain ⟨_, _, _, ⟨rfl, rfl⟩ | ⟨j, ex', hj, rfl, hg'⟩⟩ := A
  ·exact (get_put_ne (by omega)).trans hH
  ·have hne : i ≠ j := fun e => hd i (by simp [AV.ids]) (by simp [AV.ids, e])
   exact (get_put_ne (by omega)).trans ((get_put_ne hne).trans hH)
theorem GrwI.keep (A : GrwI h0 h v l) (B : GrwI h0 h w l') (hs : HSub h H) (hd : Dj w v) : GrwI h0 (snocH H none v 1 (ints (l ++ [x]))) w l' := Grw.keep A B hs hd
theorem GrwI.keepS (A : GrwI h0 h v l) (B : GrwI h0 h w l') (hs : HSub h H) (hk : h.size ≤ k ∧ k < H.size) (hd : Dj w v) : GrwI h0 (snocH H (some k) v 1 (ints (l ++ [x]))) w l' := Grw.keepS A B hs hk hd
theorem GrwI.dj (B : GrwI h0 h w l) (hk : h.size ≤ k) : Dj w (.slice k 0 k' c) := Grw.dj B hk
end
end Go.Ae
/- Lists that grow in a region that draws its order, several at once. -/
set_option linter.unusedSimpArgs false
set_option linter.unusedVariables false
namespace Go.Ae
section
variable {h0 h H : Heap} {sz bytes n m k j x y : Nat} {v : AV} {cs news : List AV} {l : List (Int × Int)} {li : List Int}
theorem Grw.ids_lt (A : Grw h0 h sz v n cs) : ∀ i ∈ v.ids, h0.size ≤ i ∧ i < h.size := by
 obtain ⟨_, _, _, ⟨rfl, rfl⟩ | ⟨i, ex, hi, rfl, hg⟩⟩ := A
 ·intro i hi; simp [AV.ids] at hi
 ·intro j hj
  simp only [AV.ids, List.mem_singleton] at hj
  subst hj
  exact ⟨hi, Heap.lt_of_get hg⟩
theorem Grw.appG (A : Grw h0 h sz v n cs) (hg : ∀ i ∈ v.ids, H.get i = h.get i) (hk : h.size ≤ k ∧ k < H.size) (hm : m ≠ 0) (hb : (n + m) * bytes ≤ 1099511627776) (h1 : news.all AV.one = true) :
  appendA H (some k) sz bytes v m news = appK k H v (.slice k 0 (n + m) (.unk 0)) sz (cs ++ news) (H.get k) := by
 obtain ⟨_, hl, hn, ⟨rfl, rfl⟩ | ⟨i, ex, hi, rfl, hgi⟩⟩ := A
 ·have : cs = [] := List.eq_nil_of_length_eq_zero (by omega)
  subst this
  exact Grw.appS (h0 := Heap.empty) (h := Heap.empty) (cs := []) (n := 0) ⟨HSub.refl _, by simp, by omega, .inl ⟨rfl, rfl⟩⟩ ⟨Nat.zero_le _, fun i hi => absurd hi (Nat.not_lt_zero i)⟩ ⟨Nat.zero_le _, hk.2⟩ hm hb h1
 ·have e0 := (hg i (by simp [AV.ids])).trans hgi
  have hlt := Heap.lt_of_get hgi
  have hr : H.room (some k) = ((H.get k).isNone && decide (k < H.size)) := rfl
  simp only [appendA, e0]
  by_cases e : (H.get k).isNone = true
  ·have e' : H.get k = none := by simpa using e
   rw [if_pos ⟨trivial, by omega, by rw [List.length_append]; omega, h1, hb, by rw [hr, e]; simpa using hk.2, by omega⟩, cut_pre hl]
   exact (congrArg (appK k H (.slice i 0 n (.unk 0)) (.slice k 0 (n + m) (.unk 0)) sz (cs ++ news)) e').symm
  ·rw [if_neg (by rw [hr]; simp [e]), if_neg (by omega)]
   obtain ⟨b, e'⟩ : ∃ b, H.get k = some b := by cases x : H.get k with | none => simp [x] at e | some b => exact ⟨b, rfl⟩
   exact (congrArg (appK k H (.slice i 0 n (.unk 0)) (.slice k 0 (n + m) (.unk 0)) sz (cs ++ news)) e').symm
theorem snocS_size : (snocH H (some k) v sz cs).size = H.size := by unfold snocH; cases v <;> rfl
theorem snocS_same (hk : k < H.size) : (snocH H (some k) v sz cs).get k = some (.cells cs true sz) := by
 unfold snocH
 cases v <;> exact get_put_eq rfl (by simpa using hk)
theorem snocS_ne (hk : j ≠ k) (hv : j ∉ v.ids) : (snocH H (some k) v sz cs).get j = H.get j := by
 unfold snocH
 cases v
 case slice i o n c => exact (get_put_ne hk).trans (get_put_ne (fun e => hv (by simp [AV.ids, e])))
 all_goals exact get_put_ne hk
theorem snocS_sub {hB : Heap} (A : Grw hB h sz v n cs) {ds : List AV} (hs : HSub hB H) (hk : hB.size ≤ k) : HSub hB (snocH H (some k) v sz ds) := by
 obtain ⟨_, _, _, ⟨rfl, rfl⟩ | ⟨i, ex, hi, rfl, hg⟩⟩ := A
 ·exact hs.put hk _
 ·exact (hs.put hi _).put hk _
theorem GrwS.appG {a b : Int} (A : GrwS h0 h v l) (hg : ∀ i ∈ v.ids, H.get i = h.get i) (hk : h.size ≤ k ∧ k < H.size) (hb : l.length + 1 ≤ 1073741824) : appendA H (some k) 2 16 v 1 [.int .i64 a, .int .i64 b] = appK k H v (.slice k 0 (l.length + 1) (.unk 0)) 2 (smps (l ++ [(a, b)])) (H.get k) := by
 rw [Grw.appG A hg hk (by decide) (by omega) (by rfl), smps_snoc]
theorem GrwS.mk {K : Nat} (hs : HSub h0 h) (hk : h0.size ≤ k) (hl : K = l.length ∧ l.length < 9223372036854775808) (hg : h.get k = some (.cells (smps l) true 2)) : GrwS h0 h (.slice k 0 K (.unk 0)) l := by
 obtain ⟨rfl, hl⟩ := hl
 exact ⟨hs, smps_length, hl, .inr ⟨k, [], hk, rfl, by rw [List.append_nil]; exact hg⟩⟩
theorem SL.fldE {cs : List AV} (A : SL h sz v n cs) : ∀ (k off : Nat), k < n → fieldAddrA off (elA sz v k) = some (elF sz v k off) := by
 intro k off hk
 obtain ⟨_, _, ⟨rfl, h1⟩ | ⟨i, o, c, vs, wr, u, rfl, _⟩⟩ := A
 ·omega
 ·rfl
theorem SL.loadE {cs : List AV} (A : SL h sz v n cs) {k off : Nat} (hk : k < n) (ho : off < sz) : Ae.loadA h false 1 (elF sz v k off) = cs[k * sz + off]? := by
 obtain ⟨hl, hlt, ⟨rfl, h1⟩ | ⟨i, o, c, vs, wr, u, rfl, hg, hle, hc, _⟩⟩ := A
 ·omega
 ·have h1 : (k + 1) * sz ≤ n * sz := Nat.mul_le_mul_right sz hk
  have h2 : (k + 1) * sz = k * sz + sz := by rw [Nat.add_mul, Nat.one_mul]
  rw [← hc, cut, List.getElem?_take_of_lt (by omega), List.getElem?_drop]
  simp only [elF, Ae.loadA, hg, partA, Bool.false_eq_true, if_false]
  rw [Nat.add_assoc]
theorem Dj.not {v w : AV} (h : Dj v w) {i : Nat} (hi : i ∈ w.ids) : i ∉ v.ids := fun hv => h i hv hi
end
end Go.Ae
/- Codes with their samples, of the program. -/
set_option linter.unusedSimpArgs false
set_option linter.unusedVariables false
namespace Go.Ae
theorem sampL_length (d p : Int) (o : Nat) : (sampL d p o).length = lenN d * o := by rw [← sampP_full, sampP_length _ (Nat.le_refl _), codeL_length]
def sampErr (d o : Int) (ps : List Int) : Int := if knownErr d o = 0 ∧ ∀ p ∈ ps, codeErr d p = 0 then 0 else 2
def codeCells (vs : List AV) (o : Int) : List AV := vs.flatMap fun v => [v, .int .i64 o]
theorem codeCells_snoc (vs : List AV) (v : AV) (o : Int) : codeCells (vs ++ [v]) o = codeCells vs o ++ [v, .int .i64 o] := by simp [codeCells]
theorem codeCells_cut (o : Int) : ∀ (vs : List AV) (k : Nat), k < vs.length → cut (codeCells vs o) (k * 2) 2 = [vs.getD k .nilslice, .int .i64 o]
 | [], k, h => by simp at h
 | v :: vs, 0, _ => rfl
 | v :: vs, k + 1, h => by
  rw [show codeCells (v :: vs) o = v :: .int .i64 o :: codeCells vs o from rfl, show (k + 1) * 2 = k * 2 + 1 + 1 by omega, cut_succ, cut_succ, codeCells_cut o vs k (by simpa using h)]; rfl
structure CLs (h : Heap) (v : AV) (d o : Int) (ps : List Int) (vs : List AV) : Prop where
 sl : SL h 2 v ps.length (codeCells vs o)
 len : vs.length = ps.length
 ri : ∀ i, i < ps.length → RI h (vs.getD i .nilslice) (sampL d (ps.getD i 0) o.toNat)
theorem CLs.mono {h h' : Heap} {v : AV} {d o : Int} {ps : List Int} {vs : List AV} (H : CLs h v d o ps vs) (hs : HSub h h') : CLs h' v d o ps vs := ⟨H.sl.mono hs, H.len, fun i hi => (H.ri i hi).mono hs⟩
theorem grwI_mk {h0 h : Heap} {k K : Nat} {l : List Int} (hs : HSub h0 h) (hk : h0.size ≤ k) (hl : K = l.length ∧ l.length < 9223372036854775808) (hg : h.get k = some (.cells (ints l) true 1)) : GrwI h0 h (.slice k 0 K (.unk 0)) l := by
 obtain ⟨rfl, hl⟩ := hl
 exact Grw.fresh hs hk hl hg
section
variable {C : Ctx}
set_option maxHeartbeats 4000000 in
set_option maxRecDepth 20000 in
theorem sampled_specF (hC : Has C T142) {d o : Int} {vp : AV} {ps : List Int} {h : Heap} (hd : In64 d) (ho : In64 o) (hp : RI h vp ps) (hx : ∀ x ∈ ps, In64 x) (hpl : ps.length ≤ 1000) :
  ACalls C 142 [.int .i64 d, .int .i64 o, vp] h (fun r h' => ∃ v vs, r = lstErr v (sampErr d o ps) ∧ HSub h h' ∧ (sampErr d o ps = 0 → CLs h' v d o ps vs ∧ ∀ i, i < ps.length → GrwI h h' (vs.getD i .nilslice) (sampL d (ps.getD i 0) o.toNat))) := by
 have hplt := hp.lt
 by_cases ck : knownErr d o = 0
 ·have pe : sampErr d o ps = if ∀ p ∈ ps, codeErr d p = 0 then 0 else 2 := by unfold sampErr; simp only [ck, true_and]
  have kr : lenOk d = true ∧ 1 ≤ o ∧ o ≤ 8 := by
   unfold knownErr at ck
   split at ck
   ·assumption
   ·cases ck
  obtain ⟨q, rfl⟩ := Int.eq_ofNat_of_zero_le (show 0 ≤ o by omega)
  have hN := lenN_eq kr.1
  (refine calls_intro (hC.body (by decide) tab142) (Nat.le_of_ble_eq_true rfl) ?_); (show wp C _ none B142.code _ _); (simp only [B142]); simp -implicitDefEqProofs (disch := first | assumption | decide | omega | (simp only [wpD1] <;> omega) | (simp only [wpD2] <;> assumption) | solve_by_elim [zR, zP, zV] | fail) only [↓wpPre, wpPost, wpPoly, Int.reduceToNat, Int.reducePow, Int.reduceMul, Int.reduceAdd, Int.reduceSub, Int.reduceNeg, Nat.reduceAdd, Nat.reduceMul, Nat.reducePow, Int.reduceLT, Int.reduceLE, Int.reduceEq, Nat.reduceEqDiff]
  refine ACallsK.eq (known09_spec (hC.sub (T' := T150) (by decide)) hd ho) ?_
  rw [ck]
  simp -implicitDefEqProofs (disch := first | assumption | decide | omega | (simp only [wpD1] <;> omega) | (simp only [wpD2] <;> assumption) | solve_by_elim [zR, zP, zV] | fail) only [↓wpPre, wpPost, wpPoly, Int.reduceToNat, Int.reducePow, Int.reduceMul, Int.reduceAdd, Int.reduceSub, Int.reduceNeg, Nat.reduceAdd, Nat.reduceMul, Nat.reducePow, Int.reduceLT, Int.reduceLE, Int.reduceEq, Nat.reduceEqDiff, hp.len]
  refine wp_loopI (fun j t h' => ∃ (k : Nat) (vs : List AV), Grw h h' 2 (t 9) k (codeCells vs (q : Nat)) ∧ vs.length = k ∧ (∀ i, i < k → GrwI h h' (vs.getD i .nilslice) (sampL d (ps.getD i 0) q) ∧ Dj (vs.getD i .nilslice) (t 9)) ∧ (∀ i, i < k → codeErr d (ps.getD i 0) = 0) ∧
   t 0 = .int .i64 d ∧ t 1 = .int .i64 (q : Nat) ∧ t 23 = vp ∧ t 24 = .int .i64 (ps.length : Nat) ∧ t 25 = .int .i64 (k : Nat) ∧ k ≤ ps.length ∧ j = ps.length - k) (j0 := ps.length)
   ⟨0, [], Grw.nil _ _, rfl, fun i hi => by omega, fun i hi => by omega, rfl, rfl, rfl, rfl, rfl, by omega, rfl⟩ ?_
  rintro j t h2 ⟨k, vs, A, hvl, hvs, hce, e0, e1, e23, e24, e25, hk, hj⟩
  simp -implicitDefEqProofs (disch := first | assumption | decide | omega | (simp only [wpD1] <;> omega) | (simp only [wpD2] <;> assumption) | solve_by_elim [zR, zP, zV] | fail) only [↓wpPre, wpPost, wpPoly, Int.reduceToNat, Int.reducePow, Int.reduceMul, Int.reduceAdd, Int.reduceSub, Int.reduceNeg, Nat.reduceAdd, Nat.reduceMul, Nat.reducePow, Int.reduceLT, Int.reduceLE, Int.reduceEq, Nat.reduceEqDiff, e24, e25]
  refine Br.by (fun c1 => ?_) (fun c1 => ?_)
  ·have hk' : k < ps.length := by omega
   have hp2 := hp.mono A.sub
   have hxk := hx _ (getD_mem hk')
   obtain ⟨p, hpd⟩ : ∃ p, p = ps.getD k 0 := ⟨_, rfl⟩
   have hld := hp2.load hk'
   rw [← hpd] at hld hxk
   have hcode := Code_spec (hC.sub (T' := T76) (by decide)) (h := h2) hd hxk
   simp -implicitDefEqProofs (disch := first | assumption | decide | omega | (simp only [wpD1] <;> omega) | (simp only [wpD2] <;> assumption) | solve_by_elim [zR, zP, zV] | fail) only [↓wpPre, wpPost, wpPoly, Int.reduceToNat, Int.reducePow, Int.reduceMul, Int.reduceAdd, Int.reduceSub, Int.reduceNeg, Nat.reduceAdd, Nat.reduceMul, Nat.reducePow, Int.reduceLT, Int.reduceLE, Int.reduceEq, Nat.reduceEqDiff, e0, e1, e23, e25, hp2.idx, hld]
   refine ACallsK.of hcode ?_
   rintro r h3 ⟨v1, rfl, s1, R1, _⟩
   by_cases cc : codeErr d p = 0
   ·rw [cc, if_pos rfl] at R1
    rw [cc]
    have cl := codeL_length d p
    simp -implicitDefEqProofs (disch := first | assumption | decide | omega | (simp only [wpD1] <;> omega) | (simp only [wpD2] <;> assumption) | solve_by_elim [zR, zP, zV] | fail) only [↓wpPre, wpPost, wpPoly, Int.reduceToNat, Int.reducePow, Int.reduceMul, Int.reduceAdd, Int.reduceSub, Int.reduceNeg, Nat.reduceAdd, Nat.reduceMul, Nat.reducePow, Int.reduceLT, Int.reduceLE, Int.reduceEq, Nat.reduceEqDiff, lstErr, e1, R1.len, cl]
    have R1' := R1.mono (HSub.push1 h3 (.cells [.nilslice, .int .i64 (q : Nat)] true 0))
    refine wp_loopI (fun j t' h' => ∃ (i : Nat) (w : AV), GrwI h3 h' w (sampP d p q i) ∧ Dj (.ptr h3.size 0) w ∧ h'.get h3.size = some (.cells [w, .int .i64 (q : Nat)] true 0) ∧ h3.size + 1 ≤ h'.size ∧
     t' 0 = .int .i64 d ∧ t' 1 = .int .i64 (q : Nat) ∧ t' 9 = t 9 ∧ t' 14 = .ptr h3.size 0 ∧ t' 23 = vp ∧ t' 24 = .int .i64 (ps.length : Nat) ∧ t' 25 = .int .i64 (k : Nat) ∧ t' 40 = v1 ∧ t' 41 = .int .i64 (lenN d : Nat) ∧ t' 42 = .int .i64 (i : Nat) ∧ i ≤ lenN d ∧ j = lenN d - i) (j0 := lenN d)
     ⟨0, .nilslice, GrwI.nil' (HSub.push1 _ _), Dj.nilR, get_push_eq rfl, by simp, e0, e1, rfl, rfl, e23, e24, e25, rfl, rfl, rfl, by omega, rfl⟩ ?_
    rintro j t' h4 ⟨i, w, B, dj, gb, hsz, e0', e1', e9', e14', e23', e24', e25', e40', e41', e42', hi, hj'⟩
    simp -implicitDefEqProofs (disch := first | assumption | decide | omega | (simp only [wpD1] <;> omega) | (simp only [wpD2] <;> assumption) | solve_by_elim [zR, zP, zV] | fail) only [↓wpPre, wpPost, wpPoly, Int.reduceToNat, Int.reducePow, Int.reduceMul, Int.reduceAdd, Int.reduceSub, Int.reduceNeg, Nat.reduceAdd, Nat.reduceMul, Nat.reducePow, Int.reduceLT, Int.reduceLE, Int.reduceEq, Nat.reduceEqDiff, e41', e42']
    refine Br.by (fun c2 => ?_) (fun c2 => ?_)
    ·have hi' : i < lenN d := by omega
     have R4 := R1.mono B.sub
     have hl4 := R4.load (k := i) (by omega)
     obtain ⟨x, hx⟩ : ∃ x, x = (codeL d p).getD i 0 := ⟨_, rfl⟩
     rw [← hx] at hl4
     have rep := fun (H : Heap) (hg : H.get (h4.size + 3) = some (.cells [.int .i64 x] true 0)) => Repeat_spec (hC.sub (T' := T90) (by decide)) (v := .slice (h4.size + 3) 0 1 (.known 1)) (x := x) (n := q) (h := H) (RI.known hg ⟨rfl, by decide⟩ (by decide)) (by omega)
     simp -implicitDefEqProofs (disch := first | assumption | decide | omega | (simp only [wpD1] <;> omega) | (simp only [wpD2] <;> assumption) | solve_by_elim [zR, zP, zV] | fail) only [↓wpPre, wpPost, wpPoly, Int.reduceToNat, Int.reducePow, Int.reduceMul, Int.reduceAdd, Int.reduceSub, Int.reduceNeg, Nat.reduceAdd, Nat.reduceMul, Nat.reducePow, Int.reduceLT, Int.reduceLE, Int.reduceEq, Nat.reduceEqDiff, e1', e14', e40', e42', R4.idx, hl4, gb, Heap.wf]
     refine ACallsK.hide (fun H hH => ?_)
     have N : H.size = h4.size + 9 := by rw [hH]; simp -implicitDefEqProofs (disch := first | assumption | decide | omega | (simp only [wpD1] <;> omega) | (simp only [wpD2] <;> assumption) | solve_by_elim [zR, zP, zV] | fail) only [↓wpPre, wpPost, wpPoly, Int.reduceToNat, Int.reducePow, Int.reduceMul, Int.reduceAdd, Int.reduceSub, Int.reduceNeg, Nat.reduceAdd, Nat.reduceMul, Nat.reducePow, Int.reduceLT, Int.reduceLE, Int.reduceEq, Nat.reduceEqDiff]
     have g3 : H.get (h4.size + 3) = some (.cells [.int .i64 x] true 0) := by rw [hH]; simp -implicitDefEqProofs (disch := first | assumption | decide | omega | (simp only [wpD1] <;> omega) | (simp only [wpD2] <;> assumption) | solve_by_elim [zR, zP, zV] | fail) only [↓wpPre, wpPost, wpPoly, Int.reduceToNat, Int.reducePow, Int.reduceMul, Int.reduceAdd, Int.reduceSub, Int.reduceNeg, Nat.reduceAdd, Nat.reduceMul, Nat.reducePow, Int.reduceLT, Int.reduceLE, Int.reduceEq, Nat.reduceEqDiff]
     have gn : H.get (h4.size + 6) = none := by rw [hH]; simp -implicitDefEqProofs (disch := first | assumption | decide | omega | (simp only [wpD1] <;> omega) | (simp only [wpD2] <;> assumption) | solve_by_elim [zR, zP, zV] | fail) only [↓wpPre, wpPost, wpPoly, Int.reduceToNat, Int.reducePow, Int.reduceMul, Int.reduceAdd, Int.reduceSub, Int.reduceNeg, Nat.reduceAdd, Nat.reduceMul, Nat.reducePow, Int.reduceLT, Int.reduceLE, Int.reduceEq, Nat.reduceEqDiff, Heap.wf]
     have hs4 : HSub h4 H := by rw [hH]; exact (by repeat (first | exact HSub.refl _ | refine HSub.put ?_ (by (try simp only [Heap.size_put, Heap.size_push, Heap.size_reserve]); omega) _ | refine HSub.push ?_ _ | refine HSub.reserve ?_ _))
     clear hH
     refine ACallsK.of (rep H g3) ?_
     rintro r h5 F
     have F' := F
     obtain ⟨s5, fl, i5, hi5, rfl, g5⟩ := F'
     have z5 := s5.size
     have gb5 : h5.get h3.size = some (.cells [w, .int .i64 (q : Nat)] true 0) := (s5.get _ (by omega)).trans ((hs4.get _ (by omega)).trans gb)
     have gb6 : H.get h3.size = some (.cells [w, .int .i64 (q : Nat)] true 0) := (hs4.get _ (by omega)).trans gb
     have gn5 : h5.get (h4.size + 6) = none := (s5.get _ (by omega)).trans gn
     have sp := sampP_succ (d := d) (p := p) (o := q) (k := i) (by omega)
     rw [← hx] at sp
     have sl := sampP_length (d := d) (p := p) (o := q) i (by omega)
     have iq : i * q ≤ 1023 * 8 := Nat.mul_le_mul (by omega) (by omega)
     have ap := Grw.appG (H := h5) (k := h4.size + 6) (m := q) (bytes := 8) (news := ints (List.replicate q x)) B (fun j hj => (s5.get _ (by have := (Grw.ids_lt B j hj).2; omega)).trans (hs4.get _ (Grw.ids_lt B j hj).2)) ⟨by omega, by omega⟩ (by omega) (by rw [sl]; omega) ints_one
     rw [ints_append, ← sp] at ap
     have cF := F.ri.content
     simp only [List.length_replicate] at cF
     have cN : (List.replicate q x).length = q := List.length_replicate
     have hw : h3.size ∉ w.ids := dj _ (by simp [AV.ids])
     have gS : (snocH h5 (some (h4.size + 6)) w 1 (ints (sampP d p q (i + 1)))).get h3.size = some (.cells [w, .int .i64 (q : Nat)] true 0) := (snocS_ne (by omega) hw).trans gb5
     have zS : (snocH h5 (some (h4.size + 6)) w 1 (ints (sampP d p q (i + 1)))).size = h5.size := snocS_size
     have rS : (snocH h5 (some (h4.size + 6)) w 1 (ints (sampP d p q (i + 1)))).get (h4.size + 6) = some (.cells (ints (sampP d p q (i + 1))) true 1) := snocS_same (by omega)
     have bS := snocS_sub (k := h4.size + 6) (ds := ints (sampP d p q (i + 1))) B ((B.sub.trans hs4).trans s5) (by have := B.sub.size; omega)
     have sl2 := sampP_length (d := d) (p := p) (o := q) (i + 1) (by omega)
     have iq2 : (i + 1) * q ≤ 1023 * 8 := Nat.mul_le_mul (by omega) (by omega)
     have slq : (sampP d p q i).length + q = (sampP d p q (i + 1)).length := by rw [sp, List.length_append, List.length_replicate]
     simp -implicitDefEqProofs (disch := first | assumption | decide | omega | (simp only [wpD1] <;> omega) | (simp only [wpD2] <;> assumption) | solve_by_elim [zR, zP, zV] | fail) only [↓wpPre, wpPost, wpPoly, Int.reduceToNat, Int.reducePow, Int.reduceMul, Int.reduceAdd, Int.reduceSub, Int.reduceNeg, Nat.reduceAdd, Nat.reduceMul, Nat.reducePow, Int.reduceLT, Int.reduceLE, Int.reduceEq, Nat.reduceEqDiff, cN, gb5, gb6, gn5, cF, ap, appK_none, e14']
     refine ⟨gb.symm, ?_⟩
     simp -implicitDefEqProofs (disch := first | assumption | decide | omega | (simp only [wpD1] <;> omega) | (simp only [wpD2] <;> assumption) | solve_by_elim [zR, zP, zV] | fail) only [↓wpPre, wpPost, wpPoly, Int.reduceToNat, Int.reducePow, Int.reduceMul, Int.reduceAdd, Int.reduceSub, Int.reduceNeg, Nat.reduceAdd, Nat.reduceMul, Nat.reducePow, Int.reduceLT, Int.reduceLE, Int.reduceEq, Nat.reduceEqDiff, gS, e0', e1', e9', e14', e23', e24', e25', e40', e41', e42']
     refine ⟨_, ⟨i + 1, _, grwI_mk (bS.put (Nat.le_refl _) _) (by have := B.sub.size; omega) ⟨slq, by omega⟩ ((get_put_ne (by omega)).trans rS), ?_, rfl, by rw [zS]; omega, by simp, by omega, rfl⟩, by omega⟩
     intro j hj
     simp only [AV.ids, List.mem_singleton] at hj ⊢
     omega
    ·have ei : i = lenN d := by omega
     subst ei
     have wone : w.one = true := (Grw.sl B).one
     have full : sampP d p q (lenN d) = sampL d p q := by rw [← sampP_full, codeL_length]
     rw [full] at B
     have A4 := A.mono (s1.trans B.sub)
     have hn1 : [w, AV.int .i64 (q : Nat)].all AV.one = true := by simp [wone, one_int]
     have ap := fun b => Grw.app A4 (bytes := 32) (m := 1) (news := [w, .int .i64 (q : Nat)]) (HSub.push1 h4 b) (by decide) (by omega) hn1
     have A5 := fun b => Grw.snoc A4 (m := 1) (news := [w, .int .i64 (q : Nat)]) (HSub.push1 h4 b) rfl (by omega)
     rw [← codeCells_snoc] at ap A5
     simp -implicitDefEqProofs (disch := first | assumption | decide | omega | (simp only [wpD1] <;> omega) | (simp only [wpD2] <;> assumption) | solve_by_elim [zR, zP, zV] | fail) only [↓wpPre, wpPost, wpPoly, Int.reduceToNat, Int.reducePow, Int.reduceMul, Int.reduceAdd, Int.reduceSub, Int.reduceNeg, Nat.reduceAdd, Nat.reduceMul, Nat.reducePow, Int.reduceLT, Int.reduceLE, Int.reduceEq, Nat.reduceEqDiff, e9', e14', gb, cont_slice, contB_two, ap, e0', e1', e23', e24', e25']
     have B0 : GrwI h h4 w (sampL d p q) := B.base (A.sub.trans s1)
     have z1 := s1.size
     have z4 := B.sub.size
     have dw : Dj w (t 9) := fun j hj hj9 => by
      have q1 := (Grw.ids_lt B j hj).1
      have q2 := (Grw.ids_lt A j hj9).2
      omega
     refine ⟨_, ⟨k + 1, vs ++ [w], A5 _, by simp [hvl], fun i hi => ?_, fun i hi => ?_, by simp, by omega, rfl⟩, by omega⟩
     ·rcases Nat.lt_or_ge i k with x | x
      ·have e : (vs ++ [w]).getD i .nilslice = vs.getD i .nilslice := by simp [List.getD_eq_getElem?_getD, List.getElem?_append_left (show i < vs.length by omega)]
       rw [e]
       have B1 := (hvs i x).1.mono (s1.trans B.sub)
       exact ⟨Grw.keep A4 B1 (HSub.push1 _ _) (hvs i x).2, Grw.dj B1 (by omega)⟩
      ·have ei : i = k := by omega
       subst ei
       have e : (vs ++ [w]).getD i .nilslice = w := by simp [List.getD_eq_getElem?_getD, ← hvl]
       rw [e, ← hpd]
       exact ⟨Grw.keep A4 B0 (HSub.push1 _ _) dw, Grw.dj B0 (by omega)⟩
     ·rcases Nat.lt_or_ge i k with x | x
      ·exact hce i x
      ·have ei : i = k := by omega
       subst ei
       rw [← hpd]; exact cc
   ·have c2 : codeErr d p = 2 := by unfold codeErr at cc ⊢; split at cc <;> first | exact absurd rfl cc | (rename_i h; rw [if_neg h])
    rw [c2]
    simp -implicitDefEqProofs (disch := first | assumption | decide | omega | (simp only [wpD1] <;> omega) | (simp only [wpD2] <;> assumption) | solve_by_elim [zR, zP, zV] | fail) only [↓wpPre, wpPost, wpPoly, Int.reduceToNat, Int.reducePow, Int.reduceMul, Int.reduceAdd, Int.reduceSub, Int.reduceNeg, Nat.reduceAdd, Nat.reduceMul, Nat.reducePow, Int.reduceLT, Int.reduceLE, Int.reduceEq, Nat.reduceEqDiff, lstErr]
    have hne : ¬ ∀ p ∈ ps, codeErr d p = 0 := fun h => cc (h _ (by rw [hpd]; exact getD_mem hk'))
    rw [pe, if_neg hne]
    exact ⟨_, [], rfl, A.sub.trans s1, fun h => by cases h⟩
  ·have ek : k = ps.length := by omega
   subst ek
   have hall : ∀ p ∈ ps, codeErr d p = 0 := fun p hp => by
    obtain ⟨i, hi, rfl⟩ := List.mem_iff_getElem.1 hp
    have := hce i hi
    rwa [List.getD_eq_getElem?_getD, List.getElem?_eq_getElem hi] at this
   rw [pe, if_pos hall]
   simp -implicitDefEqProofs (disch := first | assumption | decide | omega | (simp only [wpD1] <;> omega) | (simp only [wpD2] <;> assumption) | solve_by_elim [zR, zP, zV] | fail) only [↓wpPre, wpPost, wpPoly, Int.reduceToNat, Int.reducePow, Int.reduceMul, Int.reduceAdd, Int.reduceSub, Int.reduceNeg, Nat.reduceAdd, Nat.reduceMul, Nat.reducePow, Int.reduceLT, Int.reduceLE, Int.reduceEq, Nat.reduceEqDiff]
   exact ⟨_, vs, rfl, A.sub, fun _ => ⟨⟨A.sl, hvl, fun i hi => by rw [Int.toNat_natCast]; exact (hvs i hi).1.ri⟩, fun i hi => (hvs i hi).1⟩⟩
 ·have pe : sampErr d o ps = 2 := by unfold sampErr; rw [if_neg (fun h => ck h.1)]
  have ck2 : knownErr d o = 2 := by unfold knownErr at ck ⊢; split at ck <;> first | exact absurd rfl ck | (rename_i h; rw [if_neg h])
  rw [pe]
  (refine calls_intro (hC.body (by decide) tab142) (Nat.le_of_ble_eq_true rfl) ?_); (show wp C _ none B142.code _ _); (simp only [B142]); simp -implicitDefEqProofs (disch := first | assumption | decide | omega | (simp only [wpD1] <;> omega) | (simp only [wpD2] <;> assumption) | solve_by_elim [zR, zP, zV] | fail) only [↓wpPre, wpPost, wpPoly, Int.reduceToNat, Int.reducePow, Int.reduceMul, Int.reduceAdd, Int.reduceSub, Int.reduceNeg, Nat.reduceAdd, Nat.reduceMul, Nat.reducePow, Int.reduceLT, Int.reduceLE, Int.reduceEq, Nat.reduceEqDiff]
  refine ACallsK.eq (known09_spec (hC.sub (T' := T150) (by decide)) hd ho) ?_
  rw [ck2]
  simp -implicitDefEqProofs (disch := first | assumption | decide | omega | (simp only [wpD1] <;> omega) | (simp only [wpD2] <;> assumption) | solve_by_elim [zR, zP, zV] | fail) only [↓wpPre, wpPost, wpPoly, Int.reduceToNat, Int.reducePow, Int.reduceMul, Int.reduceAdd, Int.reduceSub, Int.reduceNeg, Nat.reduceAdd, Nat.reduceMul, Nat.reducePow, Int.reduceLT, Int.reduceLE, Int.reduceEq, Nat.reduceEqDiff]
  exact ⟨_, [], rfl, HSub.refl _⟩
end
end Go.Ae
/- The samples of a code, of the program; the samples by their places. -/
set_option linter.unusedSimpArgs false
set_option linter.unusedVariables false
namespace Go.Ae
theorem sampP_eq (d p : Int) {o : Nat} (ho : 1 ≤ o) : ∀ k, k ≤ lenN d → sampP d p o k = (List.range (k * o)).map fun i => (codeL d p).getD (i / o) 0
 | 0, _ => by simp [sampP]
 | k + 1, h => by
  have hl := codeL_length d p
  rw [sampP_succ (by omega), sampP_eq d p ho k (by omega), Nat.add_mul, Nat.one_mul, List.range_add, List.map_append]
  congr 1
  rw [List.map_map]
  refine List.ext_getElem (by simp) fun i h1 h2 => ?_
  have hi : i < o := by simpa using h1
  simp only [List.getElem_replicate, List.getElem_map, List.getElem_range, Function.comp]
  rw [Nat.mul_comm k o, Nat.mul_add_div (by omega), Nat.div_eq_of_lt hi, Nat.add_zero]
theorem sampL_eq (d p : Int) {o : Nat} (ho : 1 ≤ o) : sampL d p o = (List.range (lenN d * o)).map fun i => (codeL d p).getD (i / o) 0 := by
 rw [← sampP_full, codeL_length, sampP_eq d p ho _ (Nat.le_refl _)]
theorem sampErr_one (d o p : Int) : sampErr d o [p] = if knownErr d o = 0 ∧ codeErr d p = 0 then 0 else 2 := by simp [sampErr]
section
variable {C : Ctx}
end
end Go.Ae
/- Parts of placements and their greatest sum, in plain numbers. -/
set_option linter.unusedSimpArgs false
set_option linter.unusedVariables false
namespace Go.Ae
def pf (a b : List Int) (m s : Int) : Nat → Int
 | 0 => 0
 | k + 1 => pf a b m s k + a.getD k 0 * b.getD (min ((k : Int) - m + a.length + s) ((a.length : Int) - 1)).toNat 0
def ps (a b : List Int) (m : Nat) : Nat → Int
 | 0 => 0
 | k + 1 => ps a b m k + a.getD (m + k) 0 * b.getD k 0
def one1 (l : List Int) : Prop := ∀ x ∈ l, -1 ≤ x ∧ x ≤ 1
theorem one1.get {l : List Int} (h : one1 l) (i : Nat) : -1 ≤ l.getD i 0 ∧ l.getD i 0 ≤ 1 := by
 by_cases c : i < l.length
 ·exact h _ (getD_mem c)
 ·rw [List.getD_eq_getElem?_getD, List.getElem?_eq_none (by omega)]; decide
theorem mul_one1 {x y : Int} (hx : -1 ≤ x ∧ x ≤ 1) (hy : -1 ≤ y ∧ y ≤ 1) : -1 ≤ x * y ∧ x * y ≤ 1 := by
 have h : x = -1 ∨ x = 0 ∨ x = 1 := by omega
 rcases h with rfl | rfl | rfl <;> omega
theorem pf_le {a b : List Int} {m s : Int} (ha : one1 a) (hb : one1 b) : ∀ k : Nat, -(k : Int) ≤ pf a b m s k ∧ pf a b m s k ≤ k
 | 0 => by simp [pf]
 | k + 1 => by
  have ih := pf_le ha hb (m := m) (s := s) k
  have := mul_one1 (ha.get k) (hb.get (min ((k : Int) - m + a.length + s) ((a.length : Int) - 1)).toNat)
  rw [pf]; omega
theorem ps_le {a b : List Int} {m : Nat} (ha : one1 a) (hb : one1 b) : ∀ k : Nat, -(k : Int) ≤ ps a b m k ∧ ps a b m k ≤ k
 | 0 => by simp [ps]
 | k + 1 => by
  have ih := ps_le ha hb (m := m) k
  have := mul_one1 (ha.get (m + k)) (hb.get k)
  rw [ps]; omega
def plc (a b : List Int) (s : Int) (m : Nat) : Int := max (pf a b m s m) (-pf a b m s m) + max (ps a b m (a.length - m)) (-ps a b m (a.length - m))
theorem plc_le {a b : List Int} (ha : one1 a) (hb : one1 b) {s : Int} {m : Nat} (hm : m ≤ a.length) : 0 ≤ plc a b s m ∧ plc a b s m ≤ a.length := by
 have h1 := pf_le ha hb (m := m) (s := s) m
 have h2 := ps_le ha hb (m := m) (a.length - m)
 unfold plc
 omega
def gM (a b : List Int) (s : Int) (lo : Nat) : Nat → Int → Int
 | 0, x => x
 | k + 1, x => max (gM a b s lo k x) (plc a b s (lo + k))
def lastM (n : Nat) (mg s : Int) : Int := if 0 < mg then n + s - mg else n + min s 0
def cntM (n : Nat) (mg s : Int) : Nat := (lastM n mg s + 1 - mg).toNat
def greatI (a b : List Int) (mg : Nat) : Int := gM a b 1 mg (cntM a.length mg 1) (gM a b 0 mg (cntM a.length mg 0) (gM a b (-1) mg (cntM a.length mg (-1)) 0))
theorem gM_le {a b : List Int} (ha : one1 a) (hb : one1 b) {s : Int} {lo : Nat} : ∀ (k : Nat) (x : Int), lo + k ≤ a.length + 1 → 0 ≤ x ∧ x ≤ a.length → 0 ≤ gM a b s lo k x ∧ gM a b s lo k x ≤ a.length
 | 0, x, _, hx => hx
 | k + 1, x, hk, hx => by
  have ih := gM_le ha hb (s := s) (lo := lo) k x (by omega) hx
  have := plc_le ha hb (s := s) (m := lo + k) (by omega)
  rw [gM]; omega
theorem sampL_one1 (d p : Int) (o : Nat) : one1 (sampL d p o) := by
 intro x hx
 unfold sampL at hx
 obtain ⟨l, hl, hxl⟩ := List.mem_flatten.1 hx
 obtain ⟨y, hy, rfl⟩ := List.mem_map.1 hl
 have := codeL_range y hy
 rw [(List.mem_replicate.1 hxl).2]; exact this
end Go.Ae
/- Circular sums of the reference of layer 9. -/
set_option linter.unusedSimpArgs false
set_option linter.unusedVariables false
namespace Go.Ae
def cs (a b : List Int) (k : Nat) : Nat → Int
 | 0 => 0
 | i + 1 => cs a b k i + a.getD i 0 * b.getD ((i + k) % b.length) 0
section
variable {C : Ctx}
end
end Go.Ae
/- Circular of the references. -/
set_option linter.unusedSimpArgs false
set_option linter.unusedVariables false
namespace Go.Ae
section
variable {C : Ctx}
end
end Go.Ae
/- Circular of the program's package cross. -/
set_option linter.unusedSimpArgs false
set_option linter.unusedVariables false
namespace Go.Ae
section
variable {C : Ctx}
end
end Go.Ae
/- Spectra, in plain numbers: how often the circular sums occur. -/
set_option linter.unusedSimpArgs false
set_option linter.unusedVariables false
namespace Go.Ae
end Go.Ae
/- Counting behind sorting is counting by values. -/
set_option linter.unusedSimpArgs false
set_option linter.unusedVariables false
namespace Go.Ae
end Go.Ae
/- Three numbers as a value. -/
set_option linter.unusedSimpArgs false
set_option linter.unusedVariables false
namespace Go.Ae
end Go.Ae
/- Parts of placements, of the program and of the reference. -/
set_option linter.unusedSimpArgs false
set_option linter.unusedVariables false
namespace Go.Ae
section
variable {C : Ctx}
theorem chip_spec (hC : Has C T154) {w : AV} {l : List Int} {o i : Int} {h : Heap} (hl : RI h w l) (hi : 0 ≤ i) (h1 : 1 ≤ l.length) (hi2 : i ≤ 1000000000) : ACalls C 154 [.agg [w, .int .i64 o], .int .i64 i] h (fun r h' => r = .int .i64 (l.getD (min i ((l.length : Int) - 1)).toNat 0) ∧ h' = h) := by
 refine ACalls.gc0 (P := fun r h' => r = .int .i64 (l.getD (min i ((l.length : Int) - 1)).toNat 0) ∧ HSub h h') ?_ (fun r h' hp => ⟨by rw [hp.1]; trivial, hp.2, hp.1, rfl⟩)
 have hlt := hl.lt
 have c0 := hl.cells
 have o0 := hl.one
 have ld := (hl.mono (HSub.push1 h (.cells [w, .int .i64 o] true 0))).load (k := (min i ((l.length : Int) - 1)).toNat) (by omega)
 (refine calls_intro (hC.body (by decide) tab154) (Nat.le_of_ble_eq_true rfl) ?_); (show wp C _ none B154.code _ _); (simp only [B154]); simp -implicitDefEqProofs (disch := first | assumption | decide | omega | (simp only [wpD1] <;> omega) | (simp only [wpD2] <;> assumption) | solve_by_elim [zR, zP, zV] | fail) only [↓wpPre, wpPost, wpPoly, Int.reduceToNat, Int.reducePow, Int.reduceMul, Int.reduceAdd, Int.reduceSub, Int.reduceNeg, Nat.reduceAdd, Nat.reduceMul, Nat.reducePow, Int.reduceLT, Int.reduceLE, Int.reduceEq, Nat.reduceEqDiff, hl.len, hl.idx, ld]
 exact HSub.push1 _ _
def tupPP (x y : Int) : AV := .tuple [.int .i64 x, .int .i64 y]
set_option maxHeartbeats 1000000 in
theorem parts_spec (hC : Has C T180) {w1 w2 : AV} {a b : List Int} {o1 o2 s : Int} {m : Nat} {h : Heap} (ha : RI h w1 a) (hb : RI h w2 b) (oa : one1 a) (ob : one1 b) (hl : a.length = b.length ∧ 1 ≤ a.length ∧ a.length ≤ 10000) (hm : m ≤ a.length) (hs : -1 ≤ s ∧ s ≤ 1) (hms : (m : Int) ≤ a.length + s) :
  ACalls C 180 [.agg [w1, .int .i64 o1], .agg [w2, .int .i64 o2], .int .i64 (m : Nat), .int .i64 s] h (fun r h' => r = tupPP (pf a b m s m) (ps a b m (a.length - m)) ∧ h' = h) := by
 refine ACalls.gc0 (P := fun r h' => r = tupPP (pf a b m s m) (ps a b m (a.length - m)) ∧ HSub h h') ?_ (fun r h' hp => ⟨by rw [hp.1]; exact free_tuple (by simp [AV.free, AV.bel]), hp.2, hp.1, rfl⟩)
 have hlt := ha.lt
 have c0 := ha.cells
 have o0 := ha.one
 have c1 := hb.cells
 have o1' := hb.one
 have chp := fun (h' : Heap) (q : HSub h h') (i : Int) (x : 0 ≤ i) (y : i ≤ 1000000000) => chip_spec (hC.sub (T' := T154) (by decide)) (o := o2) (hb.mono q) x (by omega) y
 (refine calls_intro (hC.body (by decide) tab180) (Nat.le_of_ble_eq_true rfl) ?_); (show wp C _ none B180.code _ _); (simp only [B180]); simp -implicitDefEqProofs (disch := first | assumption | decide | omega | (simp only [wpD1] <;> omega) | (simp only [wpD2] <;> assumption) | solve_by_elim [zR, zP, zV] | fail) only [↓wpPre, wpPost, wpPoly, Int.reduceToNat, Int.reducePow, Int.reduceMul, Int.reduceAdd, Int.reduceSub, Int.reduceNeg, Nat.reduceAdd, Nat.reduceMul, Nat.reducePow, Int.reduceLT, Int.reduceLE, Int.reduceEq, Nat.reduceEqDiff, ha.len]
 refine wp_loopI (fun j t h' => h' = (h.push (.cells [w1, .int .i64 o1] true 0)).push (.cells [w2, .int .i64 o2] true 0) ∧ ∃ k : Nat, t 2 = .int .i64 (m : Nat) ∧ t 3 = .int .i64 s ∧ t 5 = .ptr (h.size + 1) 0 ∧ t 8 = .int .i64 (pf a b m s (min k m)) ∧ t 9 = .int .i64 (ps a b m (k - m)) ∧ t 10 = .int .i64 (a.length : Nat) ∧ t 17 = w1 ∧ t 18 = .int .i64 (a.length : Nat) ∧ t 19 = .int .i64 (k : Nat) ∧ k ≤ a.length ∧ j = a.length - k) (j0 := a.length)
  ⟨rfl, 0, rfl, rfl, rfl, by rw [Nat.zero_min]; rfl, by rw [Nat.zero_sub]; rfl, rfl, rfl, rfl, rfl, by omega, rfl⟩ ?_
 rintro j t h' ⟨rfl, k, e2, e3, e5, e8, e9, e10, e17, e18, e19, hk, hj⟩
 simp -implicitDefEqProofs (disch := first | assumption | decide | omega | (simp only [wpD1] <;> omega) | (simp only [wpD2] <;> assumption) | solve_by_elim [zR, zP, zV] | fail) only [↓wpPre, wpPost, wpPoly, Int.reduceToNat, Int.reducePow, Int.reduceMul, Int.reduceAdd, Int.reduceSub, Int.reduceNeg, Nat.reduceAdd, Nat.reduceMul, Nat.reducePow, Int.reduceLT, Int.reduceLE, Int.reduceEq, Nat.reduceEqDiff, e18, e19]
 refine Br.by (fun c => ?_) (fun c => ?_)
 ·have hk' : k < a.length := by omega
  have ld := (ha.mono ((HSub.push1 h (.cells [w1, .int .i64 o1] true 0)).push (.cells [w2, .int .i64 o2] true 0))).load hk'
  have p1 := pf_le oa ob (m := m) (s := s) (min k m)
  have p2 := ps_le oa ob (m := m) (k - m)
  by_cases c2 : k < m
  ·rw [Nat.min_eq_left (by omega)] at e8 p1
   have q := mul_one1 (oa.get k) (ob.get (min ((k : Int) - m + a.length + s) ((a.length : Int) - 1)).toNat)
   have nx : pf a b m s (k + 1) = pf a b m s k + a.getD k 0 * b.getD (min ((k : Int) - m + a.length + s) ((a.length : Int) - 1)).toNat 0 := rfl
   have ny : k + 1 - m = k - m := by omega
   have cs := chp _ ((HSub.push1 h (.cells [w1, .int .i64 o1] true 0)).push (.cells [w2, .int .i64 o2] true 0)) ((k : Int) - m + a.length + s) (by omega) (by omega)
   rw [← hl.1] at cs
   simp -implicitDefEqProofs (disch := first | assumption | decide | omega | (simp only [wpD1] <;> omega) | (simp only [wpD2] <;> assumption) | solve_by_elim [zR, zP, zV] | fail) only [↓wpPre, wpPost, wpPoly, Int.reduceToNat, Int.reducePow, Int.reduceMul, Int.reduceAdd, Int.reduceSub, Int.reduceNeg, Nat.reduceAdd, Nat.reduceMul, Nat.reducePow, Int.reduceLT, Int.reduceLE, Int.reduceEq, Nat.reduceEqDiff, e2, e3, e5, e8, e9, e10, e17, e19, ha.idx, ld]
   refine ACallsK.eq cs ?_
   simp -implicitDefEqProofs (disch := first | assumption | decide | omega | (simp only [wpD1] <;> omega) | (simp only [wpD2] <;> assumption) | solve_by_elim [zR, zP, zV] | fail) only [↓wpPre, wpPost, wpPoly, Int.reduceToNat, Int.reducePow, Int.reduceMul, Int.reduceAdd, Int.reduceSub, Int.reduceNeg, Nat.reduceAdd, Nat.reduceMul, Nat.reducePow, Int.reduceLT, Int.reduceLE, Int.reduceEq, Nat.reduceEqDiff, ← nx, e8, e9, e2, e3, e5, e10, e17, e18, e19]
   exact ⟨_, ⟨k + 1, by rw [Nat.min_eq_left (by omega)], by rw [ny], by simp, by omega, rfl⟩, by omega⟩
  ·have q := mul_one1 (oa.get k) (ob.get (k - m))
   have nx : min (k + 1) m = min k m := by omega
   have ny : ps a b m (k + 1 - m) = ps a b m (k - m) + a.getD k 0 * b.getD (k - m) 0 := by
    rw [show k + 1 - m = (k - m) + 1 by omega, ps, show m + (k - m) = k by omega]
   have cs := chp _ ((HSub.push1 h (.cells [w1, .int .i64 o1] true 0)).push (.cells [w2, .int .i64 o2] true 0)) ((k : Int) - m) (by omega) (by omega)
   rw [show (min ((k : Int) - m) ((b.length : Int) - 1)).toNat = k - m by omega] at cs
   simp -implicitDefEqProofs (disch := first | assumption | decide | omega | (simp only [wpD1] <;> omega) | (simp only [wpD2] <;> assumption) | solve_by_elim [zR, zP, zV] | fail) only [↓wpPre, wpPost, wpPoly, Int.reduceToNat, Int.reducePow, Int.reduceMul, Int.reduceAdd, Int.reduceSub, Int.reduceNeg, Nat.reduceAdd, Nat.reduceMul, Nat.reducePow, Int.reduceLT, Int.reduceLE, Int.reduceEq, Nat.reduceEqDiff, e2, e3, e5, e8, e9, e10, e17, e19, ha.idx, ld]
   refine ACallsK.eq cs ?_
   simp -implicitDefEqProofs (disch := first | assumption | decide | omega | (simp only [wpD1] <;> omega) | (simp only [wpD2] <;> assumption) | solve_by_elim [zR, zP, zV] | fail) only [↓wpPre, wpPost, wpPoly, Int.reduceToNat, Int.reducePow, Int.reduceMul, Int.reduceAdd, Int.reduceSub, Int.reduceNeg, Nat.reduceAdd, Nat.reduceMul, Nat.reducePow, Int.reduceLT, Int.reduceLE, Int.reduceEq, Nat.reduceEqDiff, ← ny, e8, e9, e2, e3, e5, e10, e17, e18, e19]
   exact ⟨_, ⟨k + 1, by rw [nx], rfl, by simp, by omega, rfl⟩, by omega⟩
 ·have ek : k = a.length := by omega
  subst ek
  rw [Nat.min_eq_right hm] at e8
  simp -implicitDefEqProofs (disch := first | assumption | decide | omega | (simp only [wpD1] <;> omega) | (simp only [wpD2] <;> assumption) | solve_by_elim [zR, zP, zV] | fail) only [↓wpPre, wpPost, wpPoly, Int.reduceToNat, Int.reducePow, Int.reduceMul, Int.reduceAdd, Int.reduceSub, Int.reduceNeg, Nat.reduceAdd, Nat.reduceMul, Nat.reducePow, Int.reduceLT, Int.reduceLE, Int.reduceEq, Nat.reduceEqDiff, e8, e9]
  exact ⟨rfl, (HSub.push1 _ _).push _⟩
set_option maxHeartbeats 1000000 in
theorem partsR_spec (hC : Has C T182) {w1 w2 : AV} {a b : List Int} {s : Int} {m : Nat} {h : Heap} (ha : RI h w1 a) (hb : RI h w2 b) (oa : one1 a) (ob : one1 b) (hl : a.length = b.length ∧ 1 ≤ a.length ∧ a.length ≤ 10000) (hm : m ≤ a.length) (hs : -1 ≤ s ∧ s ≤ 1) (hms : (m : Int) ≤ a.length + s) :
  ACalls C 182 [w1, w2, .int .i64 (m : Nat), .int .i64 s] h (fun r h' => r = tupPP (pf a b m s m) (ps a b m (a.length - m)) ∧ h' = h) := by
 have hlt := ha.lt
 (refine calls_intro (hC.body (by decide) tab182) (Nat.le_of_ble_eq_true rfl) ?_); (show wp C _ none B182.code _ _); (simp only [B182]); simp -implicitDefEqProofs (disch := first | assumption | decide | omega | (simp only [wpD1] <;> omega) | (simp only [wpD2] <;> assumption) | solve_by_elim [zR, zP, zV] | fail) only [↓wpPre, wpPost, wpPoly, Int.reduceToNat, Int.reducePow, Int.reduceMul, Int.reduceAdd, Int.reduceSub, Int.reduceNeg, Nat.reduceAdd, Nat.reduceMul, Nat.reducePow, Int.reduceLT, Int.reduceLE, Int.reduceEq, Nat.reduceEqDiff]
 refine wp_loopI (fun j t h' => h' = h ∧ ∃ k : Nat, t 0 = w1 ∧ t 1 = w2 ∧ t 2 = .int .i64 (m : Nat) ∧ t 3 = .int .i64 s ∧ t 8 = .int .i64 (pf a b m s k) ∧ t 9 = .int .i64 0 ∧ t 10 = .int .i64 (k : Nat) ∧ k ≤ m ∧ j = m - k) (j0 := m)
  ⟨rfl, 0, rfl, rfl, rfl, rfl, rfl, rfl, rfl, by omega, rfl⟩ ?_
 rintro j t h' ⟨rfl, k, e0, e1, e2, e3, e8, e9, e10, hk, hj⟩
 simp -implicitDefEqProofs (disch := first | assumption | decide | omega | (simp only [wpD1] <;> omega) | (simp only [wpD2] <;> assumption) | solve_by_elim [zR, zP, zV] | fail) only [↓wpPre, wpPost, wpPoly, Int.reduceToNat, Int.reducePow, Int.reduceMul, Int.reduceAdd, Int.reduceSub, Int.reduceNeg, Nat.reduceAdd, Nat.reduceMul, Nat.reducePow, Int.reduceLT, Int.reduceLE, Int.reduceEq, Nat.reduceEqDiff, e2, e10]
 refine Br.by (fun c => ?_) (fun c => ?_)
 ·have p1 := pf_le oa ob (m := m) (s := s) k
  have q := mul_one1 (oa.get k) (ob.get (min ((k : Int) - m + a.length + s) ((a.length : Int) - 1)).toNat)
  have nx : pf a b m s (k + 1) = pf a b m s k + a.getD k 0 * b.getD (min ((k : Int) - m + a.length + s) ((a.length : Int) - 1)).toNat 0 := rfl
  have ld := ha.load (k := k) (by omega)
  have lb := hb.load (k := (min ((k : Int) - m + a.length + s) ((a.length : Int) - 1)).toNat) (by omega)
  simp -implicitDefEqProofs (disch := first | assumption | decide | omega | (simp only [wpD1] <;> omega) | (simp only [wpD2] <;> assumption) | solve_by_elim [zR, zP, zV] | fail) only [↓wpPre, wpPost, wpPoly, Int.reduceToNat, Int.reducePow, Int.reduceMul, Int.reduceAdd, Int.reduceSub, Int.reduceNeg, Nat.reduceAdd, Nat.reduceMul, Nat.reducePow, Int.reduceLT, Int.reduceLE, Int.reduceEq, Nat.reduceEqDiff, e0, e1, e2, e3, e8, e9, e10, ha.idx, ha.len, hb.idx, ld, lb, ← nx]
  exact ⟨_, ⟨k + 1, rfl, by simp, by omega, rfl⟩, by omega⟩
 ·have ek : k = m := by omega
  subst ek
  simp -implicitDefEqProofs (disch := first | assumption | decide | omega | (simp only [wpD1] <;> omega) | (simp only [wpD2] <;> assumption) | solve_by_elim [zR, zP, zV] | fail) only [↓wpPre, wpPost, wpPoly, Int.reduceToNat, Int.reducePow, Int.reduceMul, Int.reduceAdd, Int.reduceSub, Int.reduceNeg, Nat.reduceAdd, Nat.reduceMul, Nat.reducePow, Int.reduceLT, Int.reduceLE, Int.reduceEq, Nat.reduceEqDiff, e2]
  refine wp_loopI (fun j t h2 => h2 = h' ∧ ∃ i : Nat, t 0 = w1 ∧ t 1 = w2 ∧ t 2 = .int .i64 (k : Nat) ∧ t 8 = .int .i64 (pf a b k s k) ∧ t 9 = .int .i64 (ps a b k i) ∧ t 11 = .int .i64 (k + i : Nat) ∧ k + i ≤ a.length ∧ j = a.length - (k + i)) (j0 := a.length - k)
   ⟨rfl, 0, e0, e1, e2, e8, e9, rfl, by omega, rfl⟩ ?_
  rintro j t h2 ⟨rfl, i, e0, e1, e2, e8, e9, e11, hi, hj⟩
  simp -implicitDefEqProofs (disch := first | assumption | decide | omega | (simp only [wpD1] <;> omega) | (simp only [wpD2] <;> assumption) | solve_by_elim [zR, zP, zV] | fail) only [↓wpPre, wpPost, wpPoly, Int.reduceToNat, Int.reducePow, Int.reduceMul, Int.reduceAdd, Int.reduceSub, Int.reduceNeg, Nat.reduceAdd, Nat.reduceMul, Nat.reducePow, Int.reduceLT, Int.reduceLE, Int.reduceEq, Nat.reduceEqDiff, e0, e11, ha.len]
  refine Br.by (fun c => ?_) (fun c => ?_)
  ·have p1 := ps_le oa ob (m := k) i
   have q := mul_one1 (oa.get (k + i)) (ob.get i)
   have nx : ps a b k (i + 1) = ps a b k i + a.getD (k + i) 0 * b.getD i 0 := rfl
   have ld := ha.load (k := k + i) (by omega)
   have lb := hb.load (k := i) (by omega)
   have ei : ((k + i : Nat) : Int) - k = (i : Nat) := by omega
   simp -implicitDefEqProofs (disch := first | assumption | decide | omega | (simp only [wpD1] <;> omega) | (simp only [wpD2] <;> assumption) | solve_by_elim [zR, zP, zV] | fail) only [↓wpPre, wpPost, wpPoly, Int.reduceToNat, Int.reducePow, Int.reduceMul, Int.reduceAdd, Int.reduceSub, Int.reduceNeg, Nat.reduceAdd, Nat.reduceMul, Nat.reducePow, Int.reduceLT, Int.reduceLE, Int.reduceEq, Nat.reduceEqDiff, e0, e1, e2, e8, e9, e11, ha.idx, hb.idx, ld, lb, ei, ← nx]
   exact ⟨_, ⟨i + 1, rfl, by simp; omega, by omega, rfl⟩, by omega⟩
  ·have ek : a.length - k = i := by omega
   rw [ek]
   simp -implicitDefEqProofs (disch := first | assumption | decide | omega | (simp only [wpD1] <;> omega) | (simp only [wpD2] <;> assumption) | solve_by_elim [zR, zP, zV] | fail) only [↓wpPre, wpPost, wpPoly, Int.reduceToNat, Int.reducePow, Int.reduceMul, Int.reduceAdd, Int.reduceSub, Int.reduceNeg, Nat.reduceAdd, Nat.reduceMul, Nat.reducePow, Int.reduceLT, Int.reduceLE, Int.reduceEq, Nat.reduceEqDiff, e8, e9]
   rfl
end
end Go.Ae
/- The greatest sum over placements, of the program and of the reference. -/
set_option linter.unusedSimpArgs false
set_option linter.unusedVariables false
namespace Go.Ae
theorem cnt_in {n mg k : Nat} {s : Int} (hs : -1 ≤ s ∧ s ≤ 1) (hk : k < cntM n mg s) : mg + k ≤ n ∧ ((mg + k : Nat) : Int) ≤ n + s := by
 unfold cntM lastM at hk
 split at hk <;> omega
theorem cnt_le {n mg : Nat} {s : Int} (hs : -1 ≤ s ∧ s ≤ 1) (k : Nat) : k < cntM n mg s ↔ ((mg : Int) + k ≤ lastM n mg s) := by
 unfold cntM
 omega
def rowG (a b : List Int) (mg : Nat) : Nat → Int
 | 0 => 0
 | si + 1 => gM a b ((si : Int) - 1) mg (cntM a.length mg ((si : Int) - 1)) (rowG a b mg si)
theorem rowG_three (a b : List Int) (mg : Nat) : rowG a b mg 3 = greatI a b mg := rfl
theorem rowG_le {a b : List Int} (oa : one1 a) (ob : one1 b) (mg : Nat) : ∀ si, si ≤ 3 → 0 ≤ rowG a b mg si ∧ rowG a b mg si ≤ a.length
 | 0, _ => by simp [rowG]
 | si + 1, h => by
  have ih := rowG_le oa ob mg si (by omega)
  by_cases c : cntM a.length mg ((si : Int) - 1) = 0
  ·rw [rowG, c]; exact ih
  ·have := cnt_in (n := a.length) (mg := mg) (s := (si : Int) - 1) (k := cntM a.length mg ((si : Int) - 1) - 1) (by omega) (by omega)
   exact gM_le oa ob _ _ (by omega) ih
section
variable {C : Ctx}
theorem plac_iter (hC : Has C T201) {l b1 b2 n mg : Nat} {h : Heap} (hn : n ≤ 10000 ∧ mg ≤ 10000) (J : Nat → Nat → Heap → Prop) (D : Heap → Prop) (h0 : J 0 0 h)
  (hb : ∀ si k h', J si k h' → h'.get b1 = some (.cells [.int .i64 (n : Nat)] true 0) ∧ h'.get b2 = some (.cells [.int .i64 (mg : Nat)] true 0))
  (hy : ∀ (si k : Nat) (h' : Heap), si < 3 → k < cntM n mg ((si : Int) - 1) → J si k h' → AYield C l [.int .i64 (mg + k : Nat), .int .i64 ((si : Int) - 1)] h' (fun r h'' => (r = .bool true ∧ J si (k + 1) h'') ∨ (r = .bool false ∧ D h'')))
  (hx : ∀ (si : Nat) (h' : Heap), si < 3 → J si (cntM n mg ((si : Int) - 1)) h' → J (si + 1) 0 h') (hd : ∀ h', J 3 0 h' → D h') :
  ACalls C 201 [.yield l, .ptr b1 0, .ptr b2 0] h (fun _ h' => D h') := by
 (refine calls_intro (hC.body (by decide) tab201) (Nat.le_of_ble_eq_true rfl) ?_); (show wp C _ none B201.code _ _); (simp only [B201]); simp -implicitDefEqProofs (disch := first | assumption | decide | omega | (simp only [wpD1] <;> omega) | (simp only [wpD2] <;> assumption) | solve_by_elim [zR, zP, zV] | fail) only [↓wpPre, wpPost, wpPoly, Int.reduceToNat, Int.reducePow, Int.reduceMul, Int.reduceAdd, Int.reduceSub, Int.reduceNeg, Nat.reduceAdd, Nat.reduceMul, Nat.reducePow, Int.reduceLT, Int.reduceLE, Int.reduceEq, Nat.reduceEqDiff]
 refine wp_loopI (fun j t h' => ∃ si : Nat, J si 0 h' ∧ t 0 = .yield l ∧ t 1 = .ptr b1 0 ∧ t 2 = .ptr b2 0 ∧ t 4 = .int .i64 ((si : Int) - 1) ∧ si ≤ 3 ∧ j = 3 - si) (j0 := 3) ⟨0, h0, rfl, rfl, rfl, rfl, by omega, rfl⟩ ?_
 rintro j t h' ⟨si, hJ, e0, e1, e2, e4, hsi, hj⟩
 obtain ⟨g1, g2⟩ := hb _ _ _ hJ
 simp -implicitDefEqProofs (disch := first | assumption | decide | omega | (simp only [wpD1] <;> omega) | (simp only [wpD2] <;> assumption) | solve_by_elim [zR, zP, zV] | fail) only [↓wpPre, wpPost, wpPoly, Int.reduceToNat, Int.reducePow, Int.reduceMul, Int.reduceAdd, Int.reduceSub, Int.reduceNeg, Nat.reduceAdd, Nat.reduceMul, Nat.reducePow, Int.reduceLT, Int.reduceLE, Int.reduceEq, Nat.reduceEqDiff, e4]
 refine Br.by (fun c => ?_) (fun c => ?_)
 ·have hsi' : si < 3 := by omega
  have hls : ∃ L : Int, L = lastM n mg ((si : Int) - 1) ∧ -10001 ≤ L ∧ L ≤ 10001 := ⟨_, rfl, by unfold lastM; split <;> omega, by unfold lastM; split <;> omega⟩
  obtain ⟨L, hL, hL1⟩ := hls
  by_cases cm : 0 < (mg : Int)
  ·have eL : L = n + ((si : Int) - 1) - mg := by rw [hL]; unfold lastM; rw [if_pos cm]
   simp -implicitDefEqProofs (disch := first | assumption | decide | omega | (simp only [wpD1] <;> omega) | (simp only [wpD2] <;> assumption) | solve_by_elim [zR, zP, zV] | fail) only [↓wpPre, wpPost, wpPoly, Int.reduceToNat, Int.reducePow, Int.reduceMul, Int.reduceAdd, Int.reduceSub, Int.reduceNeg, Nat.reduceAdd, Nat.reduceMul, Nat.reducePow, Int.reduceLT, Int.reduceLE, Int.reduceEq, Nat.reduceEqDiff, e1, e2, e4, g1, g2]
   rw [← eL]
   refine wp_loopI (fun j t h' => ∃ k : Nat, J si k h' ∧ t 0 = .yield l ∧ t 1 = .ptr b1 0 ∧ t 2 = .ptr b2 0 ∧ t 4 = .int .i64 ((si : Int) - 1) ∧ t 5 = .int .i64 L ∧ t 6 = .int .i64 (mg + k : Nat) ∧ k ≤ cntM n mg ((si : Int) - 1) ∧ j = cntM n mg ((si : Int) - 1) - k) (j0 := cntM n mg ((si : Int) - 1))
    ⟨0, hJ, e0, e1, e2, e4, rfl, rfl, by omega, rfl⟩ ?_
   rintro j t h'' ⟨k, hJ, e0, e1, e2, e4, e5, e6, hk, hj'⟩
   simp -implicitDefEqProofs (disch := first | assumption | decide | omega | (simp only [wpD1] <;> omega) | (simp only [wpD2] <;> assumption) | solve_by_elim [zR, zP, zV] | fail) only [↓wpPre, wpPost, wpPoly, Int.reduceToNat, Int.reducePow, Int.reduceMul, Int.reduceAdd, Int.reduceSub, Int.reduceNeg, Nat.reduceAdd, Nat.reduceMul, Nat.reducePow, Int.reduceLT, Int.reduceLE, Int.reduceEq, Nat.reduceEqDiff, e5, e6]
   refine Br.by (fun c2 => ?_) (fun c2 => ?_)
   ·have hk' : k < cntM n mg ((si : Int) - 1) := (cnt_le (by omega) k).2 (by omega)
    have := cnt_in (by omega) hk'
    simp -implicitDefEqProofs (disch := first | assumption | decide | omega | (simp only [wpD1] <;> omega) | (simp only [wpD2] <;> assumption) | solve_by_elim [zR, zP, zV] | fail) only [↓wpPre, wpPost, wpPoly, Int.reduceToNat, Int.reducePow, Int.reduceMul, Int.reduceAdd, Int.reduceSub, Int.reduceNeg, Nat.reduceAdd, Nat.reduceMul, Nat.reducePow, Int.reduceLT, Int.reduceLE, Int.reduceEq, Nat.reduceEqDiff, e0, e4, e6]
    refine AYieldK.of (hy si k h'' hsi' hk' hJ) ?_
    rintro r h3 (⟨rfl, hJ'⟩ | ⟨rfl, hD⟩)
    ·simp -implicitDefEqProofs (disch := first | assumption | decide | omega | (simp only [wpD1] <;> omega) | (simp only [wpD2] <;> assumption) | solve_by_elim [zR, zP, zV] | fail) only [↓wpPre, wpPost, wpPoly, Int.reduceToNat, Int.reducePow, Int.reduceMul, Int.reduceAdd, Int.reduceSub, Int.reduceNeg, Nat.reduceAdd, Nat.reduceMul, Nat.reducePow, Int.reduceLT, Int.reduceLE, Int.reduceEq, Nat.reduceEqDiff, e0, e1, e2, e4, e5, e6]
     exact ⟨_, ⟨k + 1, hJ', by simp; omega, by omega, rfl⟩, by omega⟩
    ·simp -implicitDefEqProofs (disch := first | assumption | decide | omega | (simp only [wpD1] <;> omega) | (simp only [wpD2] <;> assumption) | solve_by_elim [zR, zP, zV] | fail) only [↓wpPre, wpPost, wpPoly, Int.reduceToNat, Int.reducePow, Int.reduceMul, Int.reduceAdd, Int.reduceSub, Int.reduceNeg, Nat.reduceAdd, Nat.reduceMul, Nat.reducePow, Int.reduceLT, Int.reduceLE, Int.reduceEq, Nat.reduceEqDiff]
     exact hD
   ·have ek : k = cntM n mg ((si : Int) - 1) := by
     have := (cnt_le (n := n) (mg := mg) (s := (si : Int) - 1) (by omega) k).1
     omega
    subst ek
    simp -implicitDefEqProofs (disch := first | assumption | decide | omega | (simp only [wpD1] <;> omega) | (simp only [wpD2] <;> assumption) | solve_by_elim [zR, zP, zV] | fail) only [↓wpPre, wpPost, wpPoly, Int.reduceToNat, Int.reducePow, Int.reduceMul, Int.reduceAdd, Int.reduceSub, Int.reduceNeg, Nat.reduceAdd, Nat.reduceMul, Nat.reducePow, Int.reduceLT, Int.reduceLE, Int.reduceEq, Nat.reduceEqDiff, e0, e1, e2, e4]
    exact ⟨_, ⟨si + 1, hx si h'' hsi' hJ, by congr 1; omega, by omega, rfl⟩, by omega⟩
  ·have eL : L = n + min ((si : Int) - 1) 0 := by rw [hL]; unfold lastM; rw [if_neg cm]
   simp -implicitDefEqProofs (disch := first | assumption | decide | omega | (simp only [wpD1] <;> omega) | (simp only [wpD2] <;> assumption) | solve_by_elim [zR, zP, zV] | fail) only [↓wpPre, wpPost, wpPoly, Int.reduceToNat, Int.reducePow, Int.reduceMul, Int.reduceAdd, Int.reduceSub, Int.reduceNeg, Nat.reduceAdd, Nat.reduceMul, Nat.reducePow, Int.reduceLT, Int.reduceLE, Int.reduceEq, Nat.reduceEqDiff, e1, e2, e4, g1, g2]
   rw [← eL]
   refine wp_loopI (fun j t h' => ∃ k : Nat, J si k h' ∧ t 0 = .yield l ∧ t 1 = .ptr b1 0 ∧ t 2 = .ptr b2 0 ∧ t 4 = .int .i64 ((si : Int) - 1) ∧ t 5 = .int .i64 L ∧ t 6 = .int .i64 (mg + k : Nat) ∧ k ≤ cntM n mg ((si : Int) - 1) ∧ j = cntM n mg ((si : Int) - 1) - k) (j0 := cntM n mg ((si : Int) - 1))
    ⟨0, hJ, e0, e1, e2, e4, rfl, rfl, by omega, rfl⟩ ?_
   rintro j t h'' ⟨k, hJ, e0, e1, e2, e4, e5, e6, hk, hj'⟩
   simp -implicitDefEqProofs (disch := first | assumption | decide | omega | (simp only [wpD1] <;> omega) | (simp only [wpD2] <;> assumption) | solve_by_elim [zR, zP, zV] | fail) only [↓wpPre, wpPost, wpPoly, Int.reduceToNat, Int.reducePow, Int.reduceMul, Int.reduceAdd, Int.reduceSub, Int.reduceNeg, Nat.reduceAdd, Nat.reduceMul, Nat.reducePow, Int.reduceLT, Int.reduceLE, Int.reduceEq, Nat.reduceEqDiff, e5, e6]
   refine Br.by (fun c2 => ?_) (fun c2 => ?_)
   ·have hk' : k < cntM n mg ((si : Int) - 1) := (cnt_le (by omega) k).2 (by omega)
    have := cnt_in (by omega) hk'
    simp -implicitDefEqProofs (disch := first | assumption | decide | omega | (simp only [wpD1] <;> omega) | (simp only [wpD2] <;> assumption) | solve_by_elim [zR, zP, zV] | fail) only [↓wpPre, wpPost, wpPoly, Int.reduceToNat, Int.reducePow, Int.reduceMul, Int.reduceAdd, Int.reduceSub, Int.reduceNeg, Nat.reduceAdd, Nat.reduceMul, Nat.reducePow, Int.reduceLT, Int.reduceLE, Int.reduceEq, Nat.reduceEqDiff, e0, e4, e6]
    refine AYieldK.of (hy si k h'' hsi' hk' hJ) ?_
    rintro r h3 (⟨rfl, hJ'⟩ | ⟨rfl, hD⟩)
    ·simp -implicitDefEqProofs (disch := first | assumption | decide | omega | (simp only [wpD1] <;> omega) | (simp only [wpD2] <;> assumption) | solve_by_elim [zR, zP, zV] | fail) only [↓wpPre, wpPost, wpPoly, Int.reduceToNat, Int.reducePow, Int.reduceMul, Int.reduceAdd, Int.reduceSub, Int.reduceNeg, Nat.reduceAdd, Nat.reduceMul, Nat.reducePow, Int.reduceLT, Int.reduceLE, Int.reduceEq, Nat.reduceEqDiff, e0, e1, e2, e4, e5, e6]
     exact ⟨_, ⟨k + 1, hJ', by simp; omega, by omega, rfl⟩, by omega⟩
    ·simp -implicitDefEqProofs (disch := first | assumption | decide | omega | (simp only [wpD1] <;> omega) | (simp only [wpD2] <;> assumption) | solve_by_elim [zR, zP, zV] | fail) only [↓wpPre, wpPost, wpPoly, Int.reduceToNat, Int.reducePow, Int.reduceMul, Int.reduceAdd, Int.reduceSub, Int.reduceNeg, Nat.reduceAdd, Nat.reduceMul, Nat.reducePow, Int.reduceLT, Int.reduceLE, Int.reduceEq, Nat.reduceEqDiff]
     exact hD
   ·have ek : k = cntM n mg ((si : Int) - 1) := by
     have := (cnt_le (n := n) (mg := mg) (s := (si : Int) - 1) (by omega) k).1
     omega
    subst ek
    simp -implicitDefEqProofs (disch := first | assumption | decide | omega | (simp only [wpD1] <;> omega) | (simp only [wpD2] <;> assumption) | solve_by_elim [zR, zP, zV] | fail) only [↓wpPre, wpPost, wpPoly, Int.reduceToNat, Int.reducePow, Int.reduceMul, Int.reduceAdd, Int.reduceSub, Int.reduceNeg, Nat.reduceAdd, Nat.reduceMul, Nat.reducePow, Int.reduceLT, Int.reduceLE, Int.reduceEq, Nat.reduceEqDiff, e0, e1, e2, e4]
    exact ⟨_, ⟨si + 1, hx si h'' hsi' hJ, by congr 1; omega, by omega, rfl⟩, by omega⟩
 ·have : si = 3 := by omega
  subst this
  simp -implicitDefEqProofs (disch := first | assumption | decide | omega | (simp only [wpD1] <;> omega) | (simp only [wpD2] <;> assumption) | solve_by_elim [zR, zP, zV] | fail) only [↓wpPre, wpPost, wpPoly, Int.reduceToNat, Int.reducePow, Int.reduceMul, Int.reduceAdd, Int.reduceSub, Int.reduceNeg, Nat.reduceAdd, Nat.reduceMul, Nat.reducePow, Int.reduceLT, Int.reduceLE, Int.reduceEq, Nat.reduceEqDiff]
  exact hd _ hJ
end
end Go.Ae
/- The greatest sum over placements, of the program and of the reference: contracts. -/
set_option linter.unusedSimpArgs false
set_option linter.unusedVariables false
namespace Go.Ae
theorem rowG_succ {a b : List Int} {mg si k : Nat} : gM a b ((si : Int) - 1) mg (k + 1) (rowG a b mg si) = max (gM a b ((si : Int) - 1) mg k (rowG a b mg si)) (plc a b ((si : Int) - 1) (mg + k)) := rfl
section
variable {C : Ctx}
theorem great1_spec (hC : Has C T189) {w1 w2 : AV} {a b : List Int} {o1 o2 s x : Int} {m i1 i2 : Nat} {h : Heap} (g1 : h.get i1 = some (.cells [w1, .int .i64 o1] true 0)) (g2 : h.get i2 = some (.cells [w2, .int .i64 o2] true 0)) (ha : RI h w1 a) (hb : RI h w2 b) (oa : one1 a) (ob : one1 b) (hl : a.length = b.length ∧ 1 ≤ a.length ∧ a.length ≤ 10000) (hm : m ≤ a.length) (hs : -1 ≤ s ∧ s ≤ 1) (hms : (m : Int) ≤ a.length + s) (hx : 0 ≤ x ∧ x ≤ 10000) :
  ACalls C 189 [.int .i64 x, .int .i64 (m : Nat), .int .i64 s, .ptr i1 0, .ptr i2 0] h (fun r h' => r = .int .i64 (max x (plc a b s m)) ∧ h' = h) := by
 have p1 := pf_le oa ob (m := m) (s := s) m
 have p2 := ps_le oa ob (m := m) (a.length - m)
 have pp := parts_spec (hC.sub (T' := T180) (by decide)) (o1 := o1) (o2 := o2) (h := h) ha hb oa ob hl hm hs hms
 unfold plc
 (refine calls_intro (hC.body (by decide) tab189) (Nat.le_of_ble_eq_true rfl) ?_); (show wp C _ none B189.code _ _); (simp only [B189]); simp -implicitDefEqProofs (disch := first | assumption | decide | omega | (simp only [wpD1] <;> omega) | (simp only [wpD2] <;> assumption) | solve_by_elim [zR, zP, zV] | fail) only [↓wpPre, wpPost, wpPoly, Int.reduceToNat, Int.reducePow, Int.reduceMul, Int.reduceAdd, Int.reduceSub, Int.reduceNeg, Nat.reduceAdd, Nat.reduceMul, Nat.reducePow, Int.reduceLT, Int.reduceLE, Int.reduceEq, Nat.reduceEqDiff, g1, g2]
 refine ACallsK.eq pp ?_
 generalize pf a b m s m = X at *
 generalize ps a b m (a.length - m) = Y at *
 simp -implicitDefEqProofs (disch := first | assumption | decide | omega | (simp only [wpD1] <;> omega) | (simp only [wpD2] <;> assumption) | solve_by_elim [zR, zP, zV] | fail) only [↓wpPre, wpPost, wpPoly, Int.reduceToNat, Int.reducePow, Int.reduceMul, Int.reduceAdd, Int.reduceSub, Int.reduceNeg, Nat.reduceAdd, Nat.reduceMul, Nat.reducePow, Int.reduceLT, Int.reduceLE, Int.reduceEq, Nat.reduceEqDiff, tupPP]
 rw [show (0 - X) = -X by omega, show (0 - Y) = -Y by omega]
set_option maxHeartbeats 1000000 in
theorem fold_spec (hC : Has C T187) (hP : Has C T201) (hG : Has C T189) {w1 w2 : AV} {a b : List Int} {o1 o2 : Int} {mg i1 i2 b1 b2 : Nat} {h : Heap} (g1 : h.get i1 = some (.cells [w1, .int .i64 o1] true 0)) (g2 : h.get i2 = some (.cells [w2, .int .i64 o2] true 0))
  (k1 : h.get b1 = some (.cells [.int .i64 (a.length : Nat)] true 0)) (k2 : h.get b2 = some (.cells [.int .i64 (mg : Nat)] true 0)) (ha : RI h w1 a) (hb : RI h w2 b) (oa : one1 a) (ob : one1 b) (hl : a.length = b.length ∧ 1 ≤ a.length ∧ a.length ≤ 10000) (hmg : mg ≤ 10000) :
  ACalls C 187 [.func 201 [] [.ptr b1 0, .ptr b2 0], .int .i64 0, .func 189 [] [.ptr i1 0, .ptr i2 0]] h (fun r h' => r = .int .i64 (greatI a b mg) ∧ HSub h h') := by
 have l1 := Heap.lt_of_get g1
 have l2 := Heap.lt_of_get g2
 have l3 := Heap.lt_of_get k1
 have l4 := Heap.lt_of_get k2
 (refine calls_intro (hC.body (by decide) tab187) (Nat.le_of_ble_eq_true rfl) ?_); (show wp C _ none B187.code _ _); (simp only [B187]); simp -implicitDefEqProofs (disch := first | assumption | decide | omega | (simp only [wpD1] <;> omega) | (simp only [wpD2] <;> assumption) | solve_by_elim [zR, zP, zV] | fail) only [↓wpPre, wpPost, wpPoly, Int.reduceToNat, Int.reducePow, Int.reduceMul, Int.reduceAdd, Int.reduceSub, Int.reduceNeg, Nat.reduceAdd, Nat.reduceMul, Nat.reducePow, Int.reduceLT, Int.reduceLE, Int.reduceEq, Nat.reduceEqDiff]
 refine wpRange_none (D := fun h' => ∃ R, h'.get (h.size + 3) = some (.loop R) ∧ R.state = .ready ∧ R.pend = none ∧ HSub h h' ∧ h'.get (h.size + 2) = some (.defd true) ∧ h'.get h.size = some (.cells [.int .i64 (greatI a b mg)] true 0) ∧ h.size + 4 ≤ h'.size) ?_ ?_
 ·refine ACalls.hideLoop (fun R hR => ?_)
  show ACalls C 201 [.yield (h.size + 3), .ptr b1 0, .ptr b2 0] _ _
  have rs : R.state = .ready := by rw [hR]
  have rp : R.pend = none := by rw [hR]
  have rb := loop_back rs rp
  refine plac_iter hP (n := a.length) (mg := mg) ⟨hl.2.2, hmg⟩ (fun si k h' => h'.get (h.size + 3) = some (.loop R) ∧ HSub h h' ∧ h'.get (h.size + 2) = some (.defd true) ∧ h'.get (h.size + 1) = some (.cells [.func 189 [] [.ptr i1 0, .ptr i2 0]] true 0) ∧
   h'.get h.size = some (.cells [.int .i64 (gM a b ((si : Int) - 1) mg k (rowG a b mg si))] true 0) ∧ h.size + 4 ≤ h'.size) _ ?_ ?_ ?_ ?_ ?_
  ·refine ⟨?_, (((HSub.push1 _ _).push _).push _).push _, ?_, ?_, ?_, ?_⟩
   ·simp -implicitDefEqProofs (disch := first | assumption | decide | omega | (simp only [wpD1] <;> omega) | (simp only [wpD2] <;> assumption) | solve_by_elim [zR, zP, zV] | fail) only [↓wpPre, wpPost, wpPoly, Int.reduceToNat, Int.reducePow, Int.reduceMul, Int.reduceAdd, Int.reduceSub, Int.reduceNeg, Nat.reduceAdd, Nat.reduceMul, Nat.reducePow, Int.reduceLT, Int.reduceLE, Int.reduceEq, Nat.reduceEqDiff]
   ·simp -implicitDefEqProofs (disch := first | assumption | decide | omega | (simp only [wpD1] <;> omega) | (simp only [wpD2] <;> assumption) | solve_by_elim [zR, zP, zV] | fail) only [↓wpPre, wpPost, wpPoly, Int.reduceToNat, Int.reducePow, Int.reduceMul, Int.reduceAdd, Int.reduceSub, Int.reduceNeg, Nat.reduceAdd, Nat.reduceMul, Nat.reducePow, Int.reduceLT, Int.reduceLE, Int.reduceEq, Nat.reduceEqDiff]
   ·simp -implicitDefEqProofs (disch := first | assumption | decide | omega | (simp only [wpD1] <;> omega) | (simp only [wpD2] <;> assumption) | solve_by_elim [zR, zP, zV] | fail) only [↓wpPre, wpPost, wpPoly, Int.reduceToNat, Int.reducePow, Int.reduceMul, Int.reduceAdd, Int.reduceSub, Int.reduceNeg, Nat.reduceAdd, Nat.reduceMul, Nat.reducePow, Int.reduceLT, Int.reduceLE, Int.reduceEq, Nat.reduceEqDiff]
   ·simp -implicitDefEqProofs (disch := first | assumption | decide | omega | (simp only [wpD1] <;> omega) | (simp only [wpD2] <;> assumption) | solve_by_elim [zR, zP, zV] | fail) only [↓wpPre, wpPost, wpPoly, Int.reduceToNat, Int.reducePow, Int.reduceMul, Int.reduceAdd, Int.reduceSub, Int.reduceNeg, Nat.reduceAdd, Nat.reduceMul, Nat.reducePow, Int.reduceLT, Int.reduceLE, Int.reduceEq, Nat.reduceEqDiff]
    rfl
   ·simp -implicitDefEqProofs (disch := first | assumption | decide | omega | (simp only [wpD1] <;> omega) | (simp only [wpD2] <;> assumption) | solve_by_elim [zR, zP, zV] | fail) only [↓wpPre, wpPost, wpPoly, Int.reduceToNat, Int.reducePow, Int.reduceMul, Int.reduceAdd, Int.reduceSub, Int.reduceNeg, Nat.reduceAdd, Nat.reduceMul, Nat.reducePow, Int.reduceLT, Int.reduceLE, Int.reduceEq, Nat.reduceEqDiff]
    omega
  ·rintro si k h' ⟨_, hs, _⟩
   exact ⟨(hs.get _ l3).trans k1, (hs.get _ l4).trans k2⟩
  ·rintro si k h' hsi hk ⟨hlp, hsub, hd, gf, gv, hsz⟩
   have hin := cnt_in (n := a.length) (mg := mg) (s := (si : Int) - 1) (by omega) hk
   have rg := rowG_le oa ob mg si (by omega)
   have gl := gM_le oa ob (s := (si : Int) - 1) (lo := mg) k _ (by omega) rg
   have gs := rowG_succ (a := a) (b := b) (mg := mg) (si := si) (k := k)
   refine yield_intro (r := R) hlp rs (by rw [hR]; rfl) ?_
   simp only [congrArg ALoop.nt hR, congrArg ALoop.t hR, congrArg ALoop.params hR, congrArg ALoop.assign hR, congrArg ALoop.body hR]
   have hsH := fun bb => (hsub.put (i := h.size + 3) (by omega) bb)
   have gr := fun bb => great1_spec hG (s := (si : Int) - 1) (x := gM a b ((si : Int) - 1) mg k (rowG a b mg si)) (m := mg + k) (((hsH bb).get _ l1).trans g1) (((hsH bb).get _ l2).trans g2) (ha.mono (hsH bb)) (hb.mono (hsH bb)) oa ob hl hin.1 (by omega) hin.2 (by omega)
   simp -implicitDefEqProofs (disch := first | assumption | decide | omega | (simp only [wpD1] <;> omega) | (simp only [wpD2] <;> assumption) | solve_by_elim [zR, zP, zV] | fail) only [↓wpPre, wpPost, wpPoly, Int.reduceToNat, Int.reducePow, Int.reduceMul, Int.reduceAdd, Int.reduceSub, Int.reduceNeg, Nat.reduceAdd, Nat.reduceMul, Nat.reducePow, Int.reduceLT, Int.reduceLE, Int.reduceEq, Nat.reduceEqDiff, hlp, rs, gf, gv]
   refine ACallsK.eq (gr _) ?_
   simp -implicitDefEqProofs (disch := first | assumption | decide | omega | (simp only [wpD1] <;> omega) | (simp only [wpD2] <;> assumption) | solve_by_elim [zR, zP, zV] | fail) only [↓wpPre, wpPost, wpPoly, Int.reduceToNat, Int.reducePow, Int.reduceMul, Int.reduceAdd, Int.reduceSub, Int.reduceNeg, Nat.reduceAdd, Nat.reduceMul, Nat.reducePow, Int.reduceLT, Int.reduceLE, Int.reduceEq, Nat.reduceEqDiff, hlp, gv]
   exact .inl ⟨by rw [rb], (by repeat (first | exact hsub | refine HSub.put ?_ (by (try simp only [Heap.size_put, Heap.size_push, Heap.size_reserve]); omega) _ | refine HSub.push ?_ _ | refine HSub.reserve ?_ _)), hd, gf, by rw [gs], hsz⟩
  ·rintro si h' hsi ⟨hlp, hsub, hd, gf, gv, hsz⟩
   exact ⟨hlp, hsub, hd, gf, gv, hsz⟩
  ·rintro h' ⟨hlp, hsub, hd, gf, gv, hsz⟩
   exact ⟨R, hlp, rs, rp, hsub, hd, gv, hsz⟩
 ·rintro h' ⟨R, hlp, hst, hpd, hsub, hd, gv, hsz⟩
  refine ⟨R, hlp, by rw [hst]; decide, ?_⟩
  rw [hpd]
  show blockO _ _ .normal _
  simp -implicitDefEqProofs (disch := first | assumption | decide | omega | (simp only [wpD1] <;> omega) | (simp only [wpD2] <;> assumption) | solve_by_elim [zR, zP, zV] | fail) only [↓wpPre, wpPost, wpPoly, Int.reduceToNat, Int.reducePow, Int.reduceMul, Int.reduceAdd, Int.reduceSub, Int.reduceNeg, Nat.reduceAdd, Nat.reduceMul, Nat.reducePow, Int.reduceLT, Int.reduceLE, Int.reduceEq, Nat.reduceEqDiff, hd, gv]
  exact (by repeat (first | exact hsub | refine HSub.put ?_ (by (try simp only [Heap.size_put, Heap.size_push, Heap.size_reserve]); omega) _ | refine HSub.push ?_ _ | refine HSub.reserve ?_ _))
theorem great_spec (hC : Has C T183) {w1 w2 : AV} {a b : List Int} {o1 o2 : Int} {mg : Nat} {h : Heap} (ha : RI h w1 a) (hb : RI h w2 b) (oa : one1 a) (ob : one1 b) (hl : a.length = b.length ∧ 1 ≤ a.length ∧ a.length ≤ 10000) (hmg : mg ≤ 10000) :
  ACalls C 183 [.agg [w1, .int .i64 o1], .agg [w2, .int .i64 o2], .int .i64 (mg : Nat)] h (fun r h' => r = .int .i64 (greatI a b mg) ∧ h' = h) := by
 refine ACalls.gc0 (P := fun r h' => r = .int .i64 (greatI a b mg) ∧ HSub h h') ?_ (fun r h' hp => ⟨by rw [hp.1]; trivial, hp.2, hp.1, rfl⟩)
 have hlt := ha.lt
 have c0 := ha.cells
 have o0 := ha.one
 have c1 := hb.cells
 have o1' := hb.one
 have hpl : ∀ h (n : Int), ACalls C 188 [.int .i64 n, .int .i64 (mg : Nat)] h (fun r h' => r = .func 201 [] [.ptr h.size 0, .ptr (h.size + 1) 0] ∧ h' = (h.push (.cells [.int .i64 n] true 0)).push (.cells [.int .i64 (mg : Nat)] true 0)) := by
  intro h n
  have hC' : Has C T188 := (hC.sub (T' := T188) (by decide))
  have hC := hC'
  (refine calls_intro (hC.body (by decide) tab188) (Nat.le_of_ble_eq_true rfl) ?_); (show wp C _ none B188.code _ _); (simp only [B188]); simp -implicitDefEqProofs (disch := first | assumption | decide | omega | (simp only [wpD1] <;> omega) | (simp only [wpD2] <;> assumption) | solve_by_elim [zR, zP, zV] | fail) only [↓wpPre, wpPost, wpPoly, Int.reduceToNat, Int.reducePow, Int.reduceMul, Int.reduceAdd, Int.reduceSub, Int.reduceNeg, Nat.reduceAdd, Nat.reduceMul, Nat.reducePow, Int.reduceLT, Int.reduceLE, Int.reduceEq, Nat.reduceEqDiff]
 have hsub4 : HSub h ((((h.push (.cells [w1, .int .i64 o1] true 0)).push (.cells [w2, .int .i64 o2] true 0)).push (.cells [.int .i64 (a.length : Nat)] true 0)).push (.cells [.int .i64 (mg : Nat)] true 0)) := (by repeat (first | exact HSub.refl _ | refine HSub.put ?_ (by (try simp only [Heap.size_put, Heap.size_push, Heap.size_reserve]); omega) _ | refine HSub.push ?_ _ | refine HSub.reserve ?_ _))
 have hfd := fold_spec (hC.sub (T' := T187) (by decide)) (hC.sub (T' := T201) (by decide)) (hC.sub (T' := T189) (by decide)) (i1 := h.size) (i2 := h.size + 1) (b1 := h.size + 2) (b2 := h.size + 3) (o1 := o1) (o2 := o2) (w1 := w1) (w2 := w2) (mg := mg)
  (h := (((h.push (.cells [w1, .int .i64 o1] true 0)).push (.cells [w2, .int .i64 o2] true 0)).push (.cells [.int .i64 (a.length : Nat)] true 0)).push (.cells [.int .i64 (mg : Nat)] true 0))
  (by simp -implicitDefEqProofs (disch := first | assumption | decide | omega | (simp only [wpD1] <;> omega) | (simp only [wpD2] <;> assumption) | solve_by_elim [zR, zP, zV] | fail) only [↓wpPre, wpPost, wpPoly, Int.reduceToNat, Int.reducePow, Int.reduceMul, Int.reduceAdd, Int.reduceSub, Int.reduceNeg, Nat.reduceAdd, Nat.reduceMul, Nat.reducePow, Int.reduceLT, Int.reduceLE, Int.reduceEq, Nat.reduceEqDiff]) (by simp -implicitDefEqProofs (disch := first | assumption | decide | omega | (simp only [wpD1] <;> omega) | (simp only [wpD2] <;> assumption) | solve_by_elim [zR, zP, zV] | fail) only [↓wpPre, wpPost, wpPoly, Int.reduceToNat, Int.reducePow, Int.reduceMul, Int.reduceAdd, Int.reduceSub, Int.reduceNeg, Nat.reduceAdd, Nat.reduceMul, Nat.reducePow, Int.reduceLT, Int.reduceLE, Int.reduceEq, Nat.reduceEqDiff]) (by simp -implicitDefEqProofs (disch := first | assumption | decide | omega | (simp only [wpD1] <;> omega) | (simp only [wpD2] <;> assumption) | solve_by_elim [zR, zP, zV] | fail) only [↓wpPre, wpPost, wpPoly, Int.reduceToNat, Int.reducePow, Int.reduceMul, Int.reduceAdd, Int.reduceSub, Int.reduceNeg, Nat.reduceAdd, Nat.reduceMul, Nat.reducePow, Int.reduceLT, Int.reduceLE, Int.reduceEq, Nat.reduceEqDiff]) (by simp -implicitDefEqProofs (disch := first | assumption | decide | omega | (simp only [wpD1] <;> omega) | (simp only [wpD2] <;> assumption) | solve_by_elim [zR, zP, zV] | fail) only [↓wpPre, wpPost, wpPoly, Int.reduceToNat, Int.reducePow, Int.reduceMul, Int.reduceAdd, Int.reduceSub, Int.reduceNeg, Nat.reduceAdd, Nat.reduceMul, Nat.reducePow, Int.reduceLT, Int.reduceLE, Int.reduceEq, Nat.reduceEqDiff]) (ha.mono hsub4) (hb.mono hsub4) oa ob hl hmg
 (refine calls_intro (hC.body (by decide) tab183) (Nat.le_of_ble_eq_true rfl) ?_); (show wp C _ none B183.code _ _); (simp only [B183]); simp -implicitDefEqProofs (disch := first | assumption | decide | omega | (simp only [wpD1] <;> omega) | (simp only [wpD2] <;> assumption) | solve_by_elim [zR, zP, zV] | fail) only [↓wpPre, wpPost, wpPoly, Int.reduceToNat, Int.reducePow, Int.reduceMul, Int.reduceAdd, Int.reduceSub, Int.reduceNeg, Nat.reduceAdd, Nat.reduceMul, Nat.reducePow, Int.reduceLT, Int.reduceLE, Int.reduceEq, Nat.reduceEqDiff, ha.len]
 refine ACallsK.eq (hpl _ _) ?_
 simp -implicitDefEqProofs (disch := first | assumption | decide | omega | (simp only [wpD1] <;> omega) | (simp only [wpD2] <;> assumption) | solve_by_elim [zR, zP, zV] | fail) only [↓wpPre, wpPost, wpPoly, Int.reduceToNat, Int.reducePow, Int.reduceMul, Int.reduceAdd, Int.reduceSub, Int.reduceNeg, Nat.reduceAdd, Nat.reduceMul, Nat.reducePow, Int.reduceLT, Int.reduceLE, Int.reduceEq, Nat.reduceEqDiff]
 refine ACallsK.of hfd ?_
 rintro r h' ⟨rfl, s1⟩
 simp -implicitDefEqProofs (disch := first | assumption | decide | omega | (simp only [wpD1] <;> omega) | (simp only [wpD2] <;> assumption) | solve_by_elim [zR, zP, zV] | fail) only [↓wpPre, wpPost, wpPoly, Int.reduceToNat, Int.reducePow, Int.reduceMul, Int.reduceAdd, Int.reduceSub, Int.reduceNeg, Nat.reduceAdd, Nat.reduceMul, Nat.reducePow, Int.reduceLT, Int.reduceLE, Int.reduceEq, Nat.reduceEqDiff]
 exact hsub4.trans s1
set_option maxHeartbeats 1000000 in
theorem greatR_spec (hC : Has C T184) {w1 w2 : AV} {a b : List Int} {mg : Nat} {h : Heap} (ha : RI h w1 a) (hb : RI h w2 b) (oa : one1 a) (ob : one1 b) (hl : a.length = b.length ∧ 1 ≤ a.length ∧ a.length ≤ 10000) (hmg : mg ≤ 10000) :
  ACalls C 184 [w1, w2, .int .i64 (mg : Nat), .int .i64 (mg : Nat)] h (fun r h' => r = .int .i64 (greatI a b mg) ∧ h' = h) := by
 have hlt := ha.lt
 (refine calls_intro (hC.body (by decide) tab184) (Nat.le_of_ble_eq_true rfl) ?_); (show wp C _ none B184.code _ _); (simp only [B184]); simp -implicitDefEqProofs (disch := first | assumption | decide | omega | (simp only [wpD1] <;> omega) | (simp only [wpD2] <;> assumption) | solve_by_elim [zR, zP, zV] | fail) only [↓wpPre, wpPost, wpPoly, Int.reduceToNat, Int.reducePow, Int.reduceMul, Int.reduceAdd, Int.reduceSub, Int.reduceNeg, Nat.reduceAdd, Nat.reduceMul, Nat.reducePow, Int.reduceLT, Int.reduceLE, Int.reduceEq, Nat.reduceEqDiff]
 refine wp_loopI (fun j t h' => h' = h ∧ ∃ si : Nat, t 0 = w1 ∧ t 1 = w2 ∧ t 2 = .int .i64 (mg : Nat) ∧ t 3 = .int .i64 (mg : Nat) ∧ t 9 = .int .i64 (rowG a b mg si) ∧ t 10 = .int .i64 ((si : Int) - 1) ∧ si ≤ 3 ∧ j = 3 - si) (j0 := 3)
  ⟨rfl, 0, rfl, rfl, rfl, rfl, rfl, rfl, by omega, rfl⟩ ?_
 rintro j t h' ⟨rfl, si, e0, e1, e2, e3, e9, e10, hsi, hj⟩
 simp -implicitDefEqProofs (disch := first | assumption | decide | omega | (simp only [wpD1] <;> omega) | (simp only [wpD2] <;> assumption) | solve_by_elim [zR, zP, zV] | fail) only [↓wpPre, wpPost, wpPoly, Int.reduceToNat, Int.reducePow, Int.reduceMul, Int.reduceAdd, Int.reduceSub, Int.reduceNeg, Nat.reduceAdd, Nat.reduceMul, Nat.reducePow, Int.reduceLT, Int.reduceLE, Int.reduceEq, Nat.reduceEqDiff, e10]
 refine Br.by (fun c => ?_) (fun c => ?_)
 ·have hsi' : si < 3 := by omega
  have rg := rowG_le oa ob mg si (by omega)
  obtain ⟨L, hL, hL1⟩ : ∃ L : Int, L = lastM a.length mg ((si : Int) - 1) ∧ -10001 ≤ L ∧ L ≤ 10001 := ⟨_, rfl, by unfold lastM; split <;> omega, by unfold lastM; split <;> omega⟩
  by_cases cm : 0 < (mg : Int)
  ·have eL : L = a.length + ((si : Int) - 1) - mg := by rw [hL]; unfold lastM; rw [if_pos cm]
   simp -implicitDefEqProofs (disch := first | assumption | decide | omega | (simp only [wpD1] <;> omega) | (simp only [wpD2] <;> assumption) | solve_by_elim [zR, zP, zV] | fail) only [↓wpPre, wpPost, wpPoly, Int.reduceToNat, Int.reducePow, Int.reduceMul, Int.reduceAdd, Int.reduceSub, Int.reduceNeg, Nat.reduceAdd, Nat.reduceMul, Nat.reducePow, Int.reduceLT, Int.reduceLE, Int.reduceEq, Nat.reduceEqDiff, e0, e2, e3, e10, ha.len]
   rw [← eL]
   refine wp_loopI (fun j t h2 => h2 = h' ∧ ∃ k : Nat, t 0 = w1 ∧ t 1 = w2 ∧ t 2 = .int .i64 (mg : Nat) ∧ t 3 = .int .i64 (mg : Nat) ∧ t 9 = .int .i64 (gM a b ((si : Int) - 1) mg k (rowG a b mg si)) ∧ t 10 = .int .i64 ((si : Int) - 1) ∧ t 11 = .int .i64 L ∧ t 12 = .int .i64 (mg + k : Nat) ∧ k ≤ cntM a.length mg ((si : Int) - 1) ∧ j = cntM a.length mg ((si : Int) - 1) - k) (j0 := cntM a.length mg ((si : Int) - 1))
    ⟨rfl, 0, e0, e1, e2, e3, e9, e10, rfl, rfl, by omega, rfl⟩ ?_
   rintro j t h2 ⟨rfl, k, e0, e1, e2, e3, e9, e10, e11, e12, hk, hj'⟩
   simp -implicitDefEqProofs (disch := first | assumption | decide | omega | (simp only [wpD1] <;> omega) | (simp only [wpD2] <;> assumption) | solve_by_elim [zR, zP, zV] | fail) only [↓wpPre, wpPost, wpPoly, Int.reduceToNat, Int.reducePow, Int.reduceMul, Int.reduceAdd, Int.reduceSub, Int.reduceNeg, Nat.reduceAdd, Nat.reduceMul, Nat.reducePow, Int.reduceLT, Int.reduceLE, Int.reduceEq, Nat.reduceEqDiff, e11, e12]
   refine Br.by (fun c2 => ?_) (fun c2 => ?_)
   ·have hk' : k < cntM a.length mg ((si : Int) - 1) := (cnt_le (by omega) k).2 (by omega)
    have hin := cnt_in (by omega) hk'
    have gl := gM_le oa ob (s := (si : Int) - 1) (lo := mg) k _ (by omega) rg
    have gs := rowG_succ (a := a) (b := b) (mg := mg) (si := si) (k := k)
    have p1 := pf_le oa ob (m := (mg + k : Nat)) (s := (si : Int) - 1) (mg + k)
    have p2 := ps_le oa ob (m := mg + k) (a.length - (mg + k))
    have pp := partsR_spec (hC.sub (T' := T182) (by decide)) (s := (si : Int) - 1) (m := mg + k) (h := h2) ha hb oa ob hl hin.1 (by omega) hin.2
    have pl : plc a b ((si : Int) - 1) (mg + k) = max (pf a b (mg + k : Nat) ((si : Int) - 1) (mg + k)) (-pf a b (mg + k : Nat) ((si : Int) - 1) (mg + k)) + max (ps a b (mg + k) (a.length - (mg + k))) (-ps a b (mg + k) (a.length - (mg + k))) := rfl
    simp -implicitDefEqProofs (disch := first | assumption | decide | omega | (simp only [wpD1] <;> omega) | (simp only [wpD2] <;> assumption) | solve_by_elim [zR, zP, zV] | fail) only [↓wpPre, wpPost, wpPoly, Int.reduceToNat, Int.reducePow, Int.reduceMul, Int.reduceAdd, Int.reduceSub, Int.reduceNeg, Nat.reduceAdd, Nat.reduceMul, Nat.reducePow, Int.reduceLT, Int.reduceLE, Int.reduceEq, Nat.reduceEqDiff, e0, e1, e10, e12]
    refine ACallsK.eq pp ?_
    generalize pf a b (mg + k : Nat) ((si : Int) - 1) (mg + k) = X at *
    generalize ps a b (mg + k) (a.length - (mg + k)) = Y at *
    simp -implicitDefEqProofs (disch := first | assumption | decide | omega | (simp only [wpD1] <;> omega) | (simp only [wpD2] <;> assumption) | solve_by_elim [zR, zP, zV] | fail) only [↓wpPre, wpPost, wpPoly, Int.reduceToNat, Int.reducePow, Int.reduceMul, Int.reduceAdd, Int.reduceSub, Int.reduceNeg, Nat.reduceAdd, Nat.reduceMul, Nat.reducePow, Int.reduceLT, Int.reduceLE, Int.reduceEq, Nat.reduceEqDiff, tupPP, e9, e0, e1, e2, e3, e10, e11, e12]
    exact ⟨_, ⟨k + 1, by rw [gs, pl, Int.zero_sub, Int.zero_sub], by congr 1 <;> omega, by omega, rfl⟩, by omega⟩
   ·have ek : k = cntM a.length mg ((si : Int) - 1) := by
     have := (cnt_le (n := a.length) (mg := mg) (s := (si : Int) - 1) (by omega) k).1
     omega
    subst ek
    simp -implicitDefEqProofs (disch := first | assumption | decide | omega | (simp only [wpD1] <;> omega) | (simp only [wpD2] <;> assumption) | solve_by_elim [zR, zP, zV] | fail) only [↓wpPre, wpPost, wpPoly, Int.reduceToNat, Int.reducePow, Int.reduceMul, Int.reduceAdd, Int.reduceSub, Int.reduceNeg, Nat.reduceAdd, Nat.reduceMul, Nat.reducePow, Int.reduceLT, Int.reduceLE, Int.reduceEq, Nat.reduceEqDiff, e0, e1, e2, e3, e9, e10]
    exact ⟨_, ⟨si + 1, rfl, by congr 1; omega, by omega, rfl⟩, by omega⟩
  ·have eL : L = a.length + min ((si : Int) - 1) 0 := by rw [hL]; unfold lastM; rw [if_neg cm]
   simp -implicitDefEqProofs (disch := first | assumption | decide | omega | (simp only [wpD1] <;> omega) | (simp only [wpD2] <;> assumption) | solve_by_elim [zR, zP, zV] | fail) only [↓wpPre, wpPost, wpPoly, Int.reduceToNat, Int.reducePow, Int.reduceMul, Int.reduceAdd, Int.reduceSub, Int.reduceNeg, Nat.reduceAdd, Nat.reduceMul, Nat.reducePow, Int.reduceLT, Int.reduceLE, Int.reduceEq, Nat.reduceEqDiff, e0, e2, e3, e10, ha.len]
   rw [← eL]
   refine wp_loopI (fun j t h2 => h2 = h' ∧ ∃ k : Nat, t 0 = w1 ∧ t 1 = w2 ∧ t 2 = .int .i64 (mg : Nat) ∧ t 3 = .int .i64 (mg : Nat) ∧ t 9 = .int .i64 (gM a b ((si : Int) - 1) mg k (rowG a b mg si)) ∧ t 10 = .int .i64 ((si : Int) - 1) ∧ t 11 = .int .i64 L ∧ t 12 = .int .i64 (mg + k : Nat) ∧ k ≤ cntM a.length mg ((si : Int) - 1) ∧ j = cntM a.length mg ((si : Int) - 1) - k) (j0 := cntM a.length mg ((si : Int) - 1))
    ⟨rfl, 0, e0, e1, e2, e3, e9, e10, rfl, rfl, by omega, rfl⟩ ?_
   rintro j t h2 ⟨rfl, k, e0, e1, e2, e3, e9, e10, e11, e12, hk, hj'⟩
   simp -implicitDefEqProofs (disch := first | assumption | decide | omega | (simp only [wpD1] <;> omega) | (simp only [wpD2] <;> assumption) | solve_by_elim [zR, zP, zV] | fail) only [↓wpPre, wpPost, wpPoly, Int.reduceToNat, Int.reducePow, Int.reduceMul, Int.reduceAdd, Int.reduceSub, Int.reduceNeg, Nat.reduceAdd, Nat.reduceMul, Nat.reducePow, Int.reduceLT, Int.reduceLE, Int.reduceEq, Nat.reduceEqDiff, e11, e12]
   refine Br.by (fun c2 => ?_) (fun c2 => ?_)
   ·have hk' : k < cntM a.length mg ((si : Int) - 1) := (cnt_le (by omega) k).2 (by omega)
    have hin := cnt_in (by omega) hk'
    have gl := gM_le oa ob (s := (si : Int) - 1) (lo := mg) k _ (by omega) rg
    have gs := rowG_succ (a := a) (b := b) (mg := mg) (si := si) (k := k)
    have p1 := pf_le oa ob (m := (mg + k : Nat)) (s := (si : Int) - 1) (mg + k)
    have p2 := ps_le oa ob (m := mg + k) (a.length - (mg + k))
    have pp := partsR_spec (hC.sub (T' := T182) (by decide)) (s := (si : Int) - 1) (m := mg + k) (h := h2) ha hb oa ob hl hin.1 (by omega) hin.2
    have pl : plc a b ((si : Int) - 1) (mg + k) = max (pf a b (mg + k : Nat) ((si : Int) - 1) (mg + k)) (-pf a b (mg + k : Nat) ((si : Int) - 1) (mg + k)) + max (ps a b (mg + k) (a.length - (mg + k))) (-ps a b (mg + k) (a.length - (mg + k))) := rfl
    simp -implicitDefEqProofs (disch := first | assumption | decide | omega | (simp only [wpD1] <;> omega) | (simp only [wpD2] <;> assumption) | solve_by_elim [zR, zP, zV] | fail) only [↓wpPre, wpPost, wpPoly, Int.reduceToNat, Int.reducePow, Int.reduceMul, Int.reduceAdd, Int.reduceSub, Int.reduceNeg, Nat.reduceAdd, Nat.reduceMul, Nat.reducePow, Int.reduceLT, Int.reduceLE, Int.reduceEq, Nat.reduceEqDiff, e0, e1, e10, e12]
    refine ACallsK.eq pp ?_
    generalize pf a b (mg + k : Nat) ((si : Int) - 1) (mg + k) = X at *
    generalize ps a b (mg + k) (a.length - (mg + k)) = Y at *
    simp -implicitDefEqProofs (disch := first | assumption | decide | omega | (simp only [wpD1] <;> omega) | (simp only [wpD2] <;> assumption) | solve_by_elim [zR, zP, zV] | fail) only [↓wpPre, wpPost, wpPoly, Int.reduceToNat, Int.reducePow, Int.reduceMul, Int.reduceAdd, Int.reduceSub, Int.reduceNeg, Nat.reduceAdd, Nat.reduceMul, Nat.reducePow, Int.reduceLT, Int.reduceLE, Int.reduceEq, Nat.reduceEqDiff, tupPP, e9, e0, e1, e2, e3, e10, e11, e12]
    exact ⟨_, ⟨k + 1, by rw [gs, pl, Int.zero_sub, Int.zero_sub], by congr 1 <;> omega, by omega, rfl⟩, by omega⟩
   ·have ek : k = cntM a.length mg ((si : Int) - 1) := by
     have := (cnt_le (n := a.length) (mg := mg) (s := (si : Int) - 1) (by omega) k).1
     omega
    subst ek
    simp -implicitDefEqProofs (disch := first | assumption | decide | omega | (simp only [wpD1] <;> omega) | (simp only [wpD2] <;> assumption) | solve_by_elim [zR, zP, zV] | fail) only [↓wpPre, wpPost, wpPoly, Int.reduceToNat, Int.reducePow, Int.reduceMul, Int.reduceAdd, Int.reduceSub, Int.reduceNeg, Nat.reduceAdd, Nat.reduceMul, Nat.reducePow, Int.reduceLT, Int.reduceLE, Int.reduceEq, Nat.reduceEqDiff, e0, e1, e2, e3, e9, e10]
    exact ⟨_, ⟨si + 1, rfl, by congr 1; omega, by omega, rfl⟩, by omega⟩
 ·have : si = 3 := by omega
  subst this
  simp -implicitDefEqProofs (disch := first | assumption | decide | omega | (simp only [wpD1] <;> omega) | (simp only [wpD2] <;> assumption) | solve_by_elim [zR, zP, zV] | fail) only [↓wpPre, wpPost, wpPoly, Int.reduceToNat, Int.reducePow, Int.reduceMul, Int.reduceAdd, Int.reduceSub, Int.reduceNeg, Nat.reduceAdd, Nat.reduceMul, Nat.reducePow, Int.reduceLT, Int.reduceLE, Int.reduceEq, Nat.reduceEqDiff, e9]
  rfl
end
end Go.Ae
/- Parts, Side and Cross, of the program. -/
set_option linter.unusedSimpArgs false
set_option linter.unusedVariables false
namespace Go.Ae
theorem CLs.two {h : Heap} {v : AV} {d o p q : Int} {vs : List AV} (H : CLs h v d o [p, q] vs) : ∃ w1 w2, RI h w1 (sampL d p o.toNat) ∧ RI h w2 (sampL d q o.toNat) ∧ idxA 2 v (.int .i64 0) = some (elA 2 v 0) ∧ idxA 2 v (.int .i64 1) = some (elA 2 v 1) ∧
  Ae.loadA h true 2 (elA 2 v 0) = some (.agg [w1, .int .i64 o]) ∧ Ae.loadA h true 2 (elA 2 v 1) = some (.agg [w2, .int .i64 o]) ∧ fieldAddrA 0 (elA 2 v 0) = some (elF 2 v 0 0) ∧ Ae.loadA h false 1 (elF 2 v 0 0) = some w1 := by
 obtain ⟨w1, w2, rfl⟩ : ∃ w1 w2, vs = [w1, w2] := by
  have := H.len
  match vs, this with
  | [a, b], _ => exact ⟨a, b, rfl⟩
 have l0 := H.sl.loadA (k := 0) (by simp)
 have l1 := H.sl.loadA (k := 1) (by simp)
 have lf := H.sl.loadE (k := 0) (off := 0) (by simp) (by decide)
 exact ⟨w1, w2, H.ri 0 (by simp), H.ri 1 (by simp), H.sl.idx (k := 0) (by simp), H.sl.idx (k := 1) (by simp), l0, l1, H.sl.fldE 0 0 (by simp), lf⟩
theorem CLs.one {h : Heap} {v : AV} {d o p : Int} {vs : List AV} (H : CLs h v d o [p] vs) : ∃ w1, RI h w1 (sampL d p o.toNat) ∧ idxA 2 v (.int .i64 0) = some (elA 2 v 0) ∧ Ae.loadA h true 2 (elA 2 v 0) = some (.agg [w1, .int .i64 o]) := by
 obtain ⟨w1, rfl⟩ : ∃ w1, vs = [w1] := by
  have := H.len
  match vs, this with
  | [a], _ => exact ⟨a, rfl⟩
 exact ⟨w1, H.ri 0 (by simp), H.sl.idx (k := 0) (by simp), H.sl.loadA (k := 0) (by simp)⟩
theorem sampErr_cases (d o : Int) (ps : List Int) : sampErr d o ps = 0 ∨ sampErr d o ps = 2 := by unfold sampErr; split <;> simp
theorem sampErr_ok {d o : Int} {ps : List Int} (h : sampErr d o ps = 0) : lenOk d = true ∧ (1 ≤ o ∧ o ≤ 8) ∧ ∀ p ∈ ps, codeErr d p = 0 := by
 unfold sampErr at h
 split at h
 ·rename_i c
  have k := c.1
  unfold knownErr at k
  split at k
  ·rename_i kk; exact ⟨kk.1, kk.2, c.2⟩
  ·cases k
 ·cases h
def partsOk (d o p q m s : Int) : Prop := sampErr d o [p, q] = 0 ∧ (-1 ≤ s ∧ s ≤ 1) ∧ 0 ≤ m ∧ m ≤ lenN d * o + min s 0
instance (d o p q m s : Int) : Decidable (partsOk d o p q m s) := by unfold partsOk; exact inferInstance
def crossE (d o p q : Int) : AV := if sampErr d o [p, q] = 0 then tup2 (greatI (sampL d p o.toNat) (sampL d q o.toNat) 0) 0 else tup2 0 2
def sideE (d o p : Int) : AV := if sampErr d o [p] = 0 then tup2 (greatI (sampL d p o.toNat) (sampL d p o.toNat) o.toNat) 0 else tup2 0 2
section
variable {C : Ctx}
end
end Go.Ae
/- The spectrum of two codes, of the program. -/
set_option linter.unusedSimpArgs false
set_option linter.unusedVariables false
namespace Go.Ae
theorem GrwS.at {h0 h : Heap} {v : AV} {l : List (Int × Int)} (A : GrwS h0 h v l) (hl : 0 < l.length) : ∃ i ex, h0.size ≤ i ∧ v = .slice i 0 l.length (.unk 0) ∧ h.get i = some (.cells (smps l ++ ex) true 2) := by
 obtain ⟨_, _, _, ⟨_, h1⟩ | ⟨i, ex, hi, hv, hg⟩⟩ := A
 ·omega
 ·exact ⟨i, ex, hi, hv, hg⟩
theorem GrwS.turn {h0 h : Heap} {i : Nat} {l : List (Int × Int)} {ex : List AV} {k : Nat} {x y : Int} (A : GrwS h0 h (.slice i 0 l.length (.unk 0)) l) (hi : h0.size ≤ i) (hg : h.get i = some (.cells (smps l ++ ex) true 2)) (hk : k < l.length) (hx : (l.getD k (0, 0)).1 = x) :
  (smps l ++ ex).set (k * 2 + 1) (.int .i64 y) = smps (l.set k (x, y)) ++ ex ∧ GrwS h0 (h.put i (.cells (smps (l.set k (x, y)) ++ ex) true 2)) (.slice i 0 l.length (.unk 0)) (l.set k (x, y)) := by
 have hlt := Heap.lt_of_get hg
 have hle : (l.set k (x, y)).length = l.length := List.length_set
 refine ⟨?_, ⟨A.sub.put hi _, smps_length, by have := A.2.2.1; omega, .inr ⟨i, ex, hi, by rw [hle], get_put_eq rfl hlt⟩⟩⟩
 rw [List.set_append_left _ _ (by rw [smps_length]; omega)]
 congr 1
 clear A hg hi hlt hle
 induction l generalizing k with
 | nil => simp at hk
 | cons p l ih =>
  cases k with
  | zero =>
   simp only [List.getD_cons_zero] at hx
   rw [smps_cons, List.set_cons_zero, smps_cons, hx]; rfl
  | succ k =>
   rw [List.getD_cons_succ] at hx
   rw [show (k + 1) * 2 + 1 = k * 2 + 1 + 1 + 1 by omega, smps_cons, List.set_cons_succ, List.set_cons_succ, List.set_cons_succ, smps_cons, ih (by simpa using hk) hx]
section
variable {C : Ctx}
end
end Go.Ae
/- The spectrum of two codes, of the reference. -/
set_option linter.unusedSimpArgs false
set_option linter.unusedVariables false
namespace Go.Ae
theorem codeErr_cases (d p : Int) : codeErr d p = 0 ∨ codeErr d p = 2 := by unfold codeErr; split <;> simp
section
variable {C : Ctx}
end
end Go.Ae
/- Samples, Parts, Side and Cross, of the reference. -/
set_option linter.unusedSimpArgs false
set_option linter.unusedVariables false
namespace Go.Ae
theorem sampErr_two (d o p q : Int) : sampErr d o [p, q] = if sampErr d o [p] = 0 ∧ sampErr d o [q] = 0 then 0 else 2 := by
 unfold sampErr
 by_cases c : knownErr d o = 0 <;> by_cases c1 : codeErr d p = 0 <;> by_cases c2 : codeErr d q = 0 <;> simp [c, c1, c2]
section
variable {C : Ctx}
theorem knownR_spec (hC : Has C T179) {d o : Int} {h : Heap} (hd : In64 d) (ho : In64 o) : ACalls C 179 [.int .i64 d, .int .i64 o] h (fun r h' => r = .int .i64 (knownErr d o) ∧ h' = h) := by
 unfold In64 at ho
 by_cases c : lenOk d = true
 ·have e : lenE d = tup2 (lenN d) 0 := by unfold lenE; rw [if_pos c]
  by_cases co : 1 ≤ o ∧ o ≤ 8
  ·have pe : knownErr d o = 0 := by unfold knownErr; rw [if_pos ⟨c, co⟩]
   rw [pe]
   (refine calls_intro (hC.body (by decide) tab179) (Nat.le_of_ble_eq_true rfl) ?_); (show wp C _ none B179.code _ _); (simp only [B179]); simp -implicitDefEqProofs (disch := first | assumption | decide | omega | (simp only [wpD1] <;> omega) | (simp only [wpD2] <;> assumption) | solve_by_elim [zR, zP, zV] | fail) only [↓wpPre, wpPost, wpPoly, Int.reduceToNat, Int.reducePow, Int.reduceMul, Int.reduceAdd, Int.reduceSub, Int.reduceNeg, Nat.reduceAdd, Nat.reduceMul, Nat.reducePow, Int.reduceLT, Int.reduceLE, Int.reduceEq, Nat.reduceEqDiff]
   refine ACallsK.eq2 (Length08_spec (hC.sub (T' := T71) (by decide)) hd) e ?_
   simp -implicitDefEqProofs (disch := first | assumption | decide | omega | (simp only [wpD1] <;> omega) | (simp only [wpD2] <;> assumption) | solve_by_elim [zR, zP, zV] | fail) only [↓wpPre, wpPost, wpPoly, Int.reduceToNat, Int.reducePow, Int.reduceMul, Int.reduceAdd, Int.reduceSub, Int.reduceNeg, Nat.reduceAdd, Nat.reduceMul, Nat.reducePow, Int.reduceLT, Int.reduceLE, Int.reduceEq, Nat.reduceEqDiff, tup2]
  ·have pe : knownErr d o = 2 := by unfold knownErr; rw [if_neg (fun h => co h.2)]
   rw [pe]
   (refine calls_intro (hC.body (by decide) tab179) (Nat.le_of_ble_eq_true rfl) ?_); (show wp C _ none B179.code _ _); (simp only [B179]); simp -implicitDefEqProofs (disch := first | assumption | decide | omega | (simp only [wpD1] <;> omega) | (simp only [wpD2] <;> assumption) | solve_by_elim [zR, zP, zV] | fail) only [↓wpPre, wpPost, wpPoly, Int.reduceToNat, Int.reducePow, Int.reduceMul, Int.reduceAdd, Int.reduceSub, Int.reduceNeg, Nat.reduceAdd, Nat.reduceMul, Nat.reducePow, Int.reduceLT, Int.reduceLE, Int.reduceEq, Nat.reduceEqDiff]
   refine ACallsK.eq2 (Length08_spec (hC.sub (T' := T71) (by decide)) hd) e ?_
   simp -implicitDefEqProofs (disch := first | assumption | decide | omega | (simp only [wpD1] <;> omega) | (simp only [wpD2] <;> assumption) | solve_by_elim [zR, zP, zV] | fail) only [↓wpPre, wpPost, wpPoly, Int.reduceToNat, Int.reducePow, Int.reduceMul, Int.reduceAdd, Int.reduceSub, Int.reduceNeg, Nat.reduceAdd, Nat.reduceMul, Nat.reducePow, Int.reduceLT, Int.reduceLE, Int.reduceEq, Nat.reduceEqDiff, tup2]
   (repeat' (first | (refine Br.by (fun _ => ?_) (fun _ => ?_)) | (simp -implicitDefEqProofs (disch := first | assumption | decide | omega | (simp only [wpD1] <;> omega) | (simp only [wpD2] <;> assumption) | solve_by_elim [zR, zP, zV] | fail) only [↓wpPre, wpPost, wpPoly, Int.reduceToNat, Int.reducePow, Int.reduceMul, Int.reduceAdd, Int.reduceSub, Int.reduceNeg, Nat.reduceAdd, Nat.reduceMul, Nat.reducePow, Int.reduceLT, Int.reduceLE, Int.reduceEq, Nat.reduceEqDiff])))
   all_goals omega
 ·have e : lenE d = tup2 0 2 := by unfold lenE; rw [if_neg c]
  have pe : knownErr d o = 2 := by unfold knownErr; rw [if_neg (fun h => c h.1)]
  rw [pe]
  (refine calls_intro (hC.body (by decide) tab179) (Nat.le_of_ble_eq_true rfl) ?_); (show wp C _ none B179.code _ _); (simp only [B179]); simp -implicitDefEqProofs (disch := first | assumption | decide | omega | (simp only [wpD1] <;> omega) | (simp only [wpD2] <;> assumption) | solve_by_elim [zR, zP, zV] | fail) only [↓wpPre, wpPost, wpPoly, Int.reduceToNat, Int.reducePow, Int.reduceMul, Int.reduceAdd, Int.reduceSub, Int.reduceNeg, Nat.reduceAdd, Nat.reduceMul, Nat.reducePow, Int.reduceLT, Int.reduceLE, Int.reduceEq, Nat.reduceEqDiff]
  refine ACallsK.eq2 (Length08_spec (hC.sub (T' := T71) (by decide)) hd) e ?_
  simp -implicitDefEqProofs (disch := first | assumption | decide | omega | (simp only [wpD1] <;> omega) | (simp only [wpD2] <;> assumption) | solve_by_elim [zR, zP, zV] | fail) only [↓wpPre, wpPost, wpPoly, Int.reduceToNat, Int.reducePow, Int.reduceMul, Int.reduceAdd, Int.reduceSub, Int.reduceNeg, Nat.reduceAdd, Nat.reduceMul, Nat.reducePow, Int.reduceLT, Int.reduceLE, Int.reduceEq, Nat.reduceEqDiff, tup2]
def sampK (d p : Int) (o k : Nat) : List Int := (List.range k).map fun i => (codeL d p).getD (i / o) 0
theorem sampK_length (d p : Int) (o k : Nat) : (sampK d p o k).length = k := by simp [sampK]
theorem sampK_succ (d p : Int) (o k : Nat) : sampK d p o (k + 1) = sampK d p o k ++ [(codeL d p).getD (k / o) 0] := by simp [sampK, List.range_succ]
set_option maxHeartbeats 1000000 in
theorem SamplesR_spec (hC : Has C T169) {d o p : Int} {h : Heap} (hd : In64 d) (ho : In64 o) (hp : In64 p) :
  ACalls C 169 [.int .i64 d, .int .i64 o, .int .i64 p] h (fun r h' => ∃ v, r = lstErr v (sampErr d o [p]) ∧ HSub h h' ∧ RI h' v (if sampErr d o [p] = 0 then sampL d p o.toNat else [])) := by
 rcases sampErr_cases d o [p] with c | c
 ·have ok := sampErr_ok c
  have hN := lenN_eq ok.1
  have ck : knownErr d o = 0 := by unfold knownErr; rw [if_pos ⟨ok.1, ok.2.1⟩]
  have cc : codeErr d p = 0 := ok.2.2 p (by simp)
  obtain ⟨q, rfl⟩ := Int.eq_ofNat_of_zero_le (show 0 ≤ o by omega)
  have ho1 : 1 ≤ q := by omega
  rw [c, if_pos rfl, Int.toNat_natCast]
  have hcode := Code08_spec (hC.sub (T' := T77) (by decide)) (h := h) hd hp
  rw [cc, if_pos rfl] at hcode
  have cl := codeL_length d p
  have sz1 : lenN d ≤ lenN d * q := Nat.le_mul_of_pos_right _ (by omega)
  have sz2 : lenN d * q ≤ 1023 * 8 := Nat.mul_le_mul (by omega) (by omega)
  have em : (lenN d : Int) * (q : Nat) = ((lenN d * q : Nat) : Int) := by omega
  have full : sampK d p q (lenN d * q) = sampL d p q := (sampL_eq d p ho1).symm
  (refine calls_intro (hC.body (by decide) tab169) (Nat.le_of_ble_eq_true rfl) ?_); (show wp C _ none B169.code _ _); (simp only [B169]); simp -implicitDefEqProofs (disch := first | assumption | decide | omega | (simp only [wpD1] <;> omega) | (simp only [wpD2] <;> assumption) | solve_by_elim [zR, zP, zV] | fail) only [↓wpPre, wpPost, wpPoly, Int.reduceToNat, Int.reducePow, Int.reduceMul, Int.reduceAdd, Int.reduceSub, Int.reduceNeg, Nat.reduceAdd, Nat.reduceMul, Nat.reducePow, Int.reduceLT, Int.reduceLE, Int.reduceEq, Nat.reduceEqDiff]
  refine ACallsK.eq (knownR_spec (hC.sub (T' := T179) (by decide)) hd ho) ?_
  rw [ck]
  simp -implicitDefEqProofs (disch := first | assumption | decide | omega | (simp only [wpD1] <;> omega) | (simp only [wpD2] <;> assumption) | solve_by_elim [zR, zP, zV] | fail) only [↓wpPre, wpPost, wpPoly, Int.reduceToNat, Int.reducePow, Int.reduceMul, Int.reduceAdd, Int.reduceSub, Int.reduceNeg, Nat.reduceAdd, Nat.reduceMul, Nat.reducePow, Int.reduceLT, Int.reduceLE, Int.reduceEq, Nat.reduceEqDiff]
  refine ACallsK.of hcode ?_
  rintro r h1 ⟨v1, rfl, s1, R1⟩
  simp -implicitDefEqProofs (disch := first | assumption | decide | omega | (simp only [wpD1] <;> omega) | (simp only [wpD2] <;> assumption) | solve_by_elim [zR, zP, zV] | fail) only [↓wpPre, wpPost, wpPoly, Int.reduceToNat, Int.reducePow, Int.reduceMul, Int.reduceAdd, Int.reduceSub, Int.reduceNeg, Nat.reduceAdd, Nat.reduceMul, Nat.reducePow, Int.reduceLT, Int.reduceLE, Int.reduceEq, Nat.reduceEqDiff, lstErr]
  refine wp_loopI (fun j t h' => ∃ k : Nat, GrwI h1 h' (t 11) (sampK d p q k) ∧ t 1 = .int .i64 (q : Nat) ∧ t 9 = v1 ∧ t 12 = .int .i64 (k : Nat) ∧ k ≤ lenN d * q ∧ j = lenN d * q - k) (j0 := lenN d * q)
   ⟨0, GrwI.nil _, rfl, rfl, rfl, by omega, rfl⟩ ?_
  rintro j t h2 ⟨k, A, e1, e9, e12, hk, hj⟩
  have R2 := R1.mono A.sub
  simp -implicitDefEqProofs (disch := first | assumption | decide | omega | (simp only [wpD1] <;> omega) | (simp only [wpD2] <;> assumption) | solve_by_elim [zR, zP, zV] | fail) only [↓wpPre, wpPost, wpPoly, Int.reduceToNat, Int.reducePow, Int.reduceMul, Int.reduceAdd, Int.reduceSub, Int.reduceNeg, Nat.reduceAdd, Nat.reduceMul, Nat.reducePow, Int.reduceLT, Int.reduceLE, Int.reduceEq, Nat.reduceEqDiff, e1, e9, e12, R2.len, cl, em]
  refine Br.by (fun c1 => ?_) (fun c1 => ?_)
  ·have hk' : k < lenN d * q := by omega
   have hdv : k / q < lenN d := Nat.div_lt_of_lt_mul (by rw [Nat.mul_comm]; exact hk')
   have ed : (k : Int) / (q : Nat) = ((k / q : Nat) : Int) := (Int.natCast_ediv _ _).symm
   generalize hg : k / q = g at hdv ed
   have ld := R2.load (k := g) (by omega)
   have sl := sampK_length d p q k
   have su := sampK_succ d p q k
   rw [hg] at su
   obtain ⟨x, hx⟩ : ∃ x, x = (codeL d p).getD g 0 := ⟨_, rfl⟩
   rw [← hx] at su ld
   have A2 := A.snoc (x := x) (HSub.push1 h2 (.cells [.int .i64 x] true 0)) (by omega)
   rw [← su, sl] at A2
   simp -implicitDefEqProofs (disch := first | assumption | decide | omega | (simp only [wpD1] <;> omega) | (simp only [wpD2] <;> assumption) | solve_by_elim [zR, zP, zV] | fail) only [↓wpPre, wpPost, wpPoly, Int.reduceToNat, Int.reducePow, Int.reduceMul, Int.reduceAdd, Int.reduceSub, Int.reduceNeg, Nat.reduceAdd, Nat.reduceMul, Nat.reducePow, Int.reduceLT, Int.reduceLE, Int.reduceEq, Nat.reduceEqDiff, e1, e9, e12, ed, R2.idx, ld, cont_slice, contB_one, A.app, sl, ← su]
   exact ⟨_, ⟨k + 1, A2, by simp, by omega, rfl⟩, by omega⟩
  ·have ek : k = lenN d * q := by omega
   subst ek
   rw [full] at A
   simp -implicitDefEqProofs (disch := first | assumption | decide | omega | (simp only [wpD1] <;> omega) | (simp only [wpD2] <;> assumption) | solve_by_elim [zR, zP, zV] | fail) only [↓wpPre, wpPost, wpPoly, Int.reduceToNat, Int.reducePow, Int.reduceMul, Int.reduceAdd, Int.reduceSub, Int.reduceNeg, Nat.reduceAdd, Nat.reduceMul, Nat.reducePow, Int.reduceLT, Int.reduceLE, Int.reduceEq, Nat.reduceEqDiff]
   exact ⟨_, rfl, s1.trans A.sub, A.ri⟩
 ·rw [c, if_neg (by decide)]
  by_cases ck : knownErr d o = 0
  ·have cc : codeErr d p = 2 := by
    rw [sampErr_one] at c
    have : ¬ codeErr d p = 0 := fun h => by rw [if_pos ⟨ck, h⟩] at c; cases c
    unfold codeErr at this ⊢; split at this <;> first | exact absurd rfl this | (rename_i h; rw [if_neg h])
   have hcode := Code08_spec (hC.sub (T' := T77) (by decide)) (h := h) hd hp
   rw [cc] at hcode
   (refine calls_intro (hC.body (by decide) tab169) (Nat.le_of_ble_eq_true rfl) ?_); (show wp C _ none B169.code _ _); (simp only [B169]); simp -implicitDefEqProofs (disch := first | assumption | decide | omega | (simp only [wpD1] <;> omega) | (simp only [wpD2] <;> assumption) | solve_by_elim [zR, zP, zV] | fail) only [↓wpPre, wpPost, wpPoly, Int.reduceToNat, Int.reducePow, Int.reduceMul, Int.reduceAdd, Int.reduceSub, Int.reduceNeg, Nat.reduceAdd, Nat.reduceMul, Nat.reducePow, Int.reduceLT, Int.reduceLE, Int.reduceEq, Nat.reduceEqDiff]
   refine ACallsK.eq (knownR_spec (hC.sub (T' := T179) (by decide)) hd ho) ?_
   rw [ck]
   simp -implicitDefEqProofs (disch := first | assumption | decide | omega | (simp only [wpD1] <;> omega) | (simp only [wpD2] <;> assumption) | solve_by_elim [zR, zP, zV] | fail) only [↓wpPre, wpPost, wpPoly, Int.reduceToNat, Int.reducePow, Int.reduceMul, Int.reduceAdd, Int.reduceSub, Int.reduceNeg, Nat.reduceAdd, Nat.reduceMul, Nat.reducePow, Int.reduceLT, Int.reduceLE, Int.reduceEq, Nat.reduceEqDiff]
   refine ACallsK.of hcode ?_
   rintro r h1 ⟨v1, rfl, s1, R1⟩
   simp -implicitDefEqProofs (disch := first | assumption | decide | omega | (simp only [wpD1] <;> omega) | (simp only [wpD2] <;> assumption) | solve_by_elim [zR, zP, zV] | fail) only [↓wpPre, wpPost, wpPoly, Int.reduceToNat, Int.reducePow, Int.reduceMul, Int.reduceAdd, Int.reduceSub, Int.reduceNeg, Nat.reduceAdd, Nat.reduceMul, Nat.reducePow, Int.reduceLT, Int.reduceLE, Int.reduceEq, Nat.reduceEqDiff, lstErr]
   exact ⟨_, rfl, s1, RI.nil⟩
  ·have ck2 : knownErr d o = 2 := by unfold knownErr at ck ⊢; split at ck <;> first | exact absurd rfl ck | (rename_i h; rw [if_neg h])
   (refine calls_intro (hC.body (by decide) tab169) (Nat.le_of_ble_eq_true rfl) ?_); (show wp C _ none B169.code _ _); (simp only [B169]); simp -implicitDefEqProofs (disch := first | assumption | decide | omega | (simp only [wpD1] <;> omega) | (simp only [wpD2] <;> assumption) | solve_by_elim [zR, zP, zV] | fail) only [↓wpPre, wpPost, wpPoly, Int.reduceToNat, Int.reducePow, Int.reduceMul, Int.reduceAdd, Int.reduceSub, Int.reduceNeg, Nat.reduceAdd, Nat.reduceMul, Nat.reducePow, Int.reduceLT, Int.reduceLE, Int.reduceEq, Nat.reduceEqDiff]
   refine ACallsK.eq (knownR_spec (hC.sub (T' := T179) (by decide)) hd ho) ?_
   rw [ck2]
   simp -implicitDefEqProofs (disch := first | assumption | decide | omega | (simp only [wpD1] <;> omega) | (simp only [wpD2] <;> assumption) | solve_by_elim [zR, zP, zV] | fail) only [↓wpPre, wpPost, wpPoly, Int.reduceToNat, Int.reducePow, Int.reduceMul, Int.reduceAdd, Int.reduceSub, Int.reduceNeg, Nat.reduceAdd, Nat.reduceMul, Nat.reducePow, Int.reduceLT, Int.reduceLE, Int.reduceEq, Nat.reduceEqDiff, lstErr]
   exact ⟨_, rfl, HSub.refl _, RI.nil⟩
theorem pairR_spec (hC : Has C T181) {d o p q : Int} {h : Heap} (hd : In64 d) (ho : In64 o) (hp : In64 p) (hq : In64 q) :
  ACalls C 181 [.int .i64 d, .int .i64 o, .int .i64 p, .int .i64 q] h (fun r h' => ∃ v w, r = .tuple [v, w, .int .i64 (sampErr d o [p, q])] ∧ HSub h h' ∧ (sampErr d o [p, q] = 0 → RI h' v (sampL d p o.toNat) ∧ RI h' w (sampL d q o.toNat))) := by
 have s1 := fun h => SamplesR_spec (hC.sub (T' := T169) (by decide)) (h := h) hd ho hp
 have s2 := fun h => SamplesR_spec (hC.sub (T' := T169) (by decide)) (h := h) hd ho hq
 rw [sampErr_two]
 rcases sampErr_cases d o [p] with c | c
 ·simp only [c, if_true] at s1
  rcases sampErr_cases d o [q] with c2 | c2
  ·simp only [c2, if_true] at s2
   rw [if_pos ⟨c, c2⟩]
   (refine calls_intro (hC.body (by decide) tab181) (Nat.le_of_ble_eq_true rfl) ?_); (show wp C _ none B181.code _ _); (simp only [B181]); simp -implicitDefEqProofs (disch := first | assumption | decide | omega | (simp only [wpD1] <;> omega) | (simp only [wpD2] <;> assumption) | solve_by_elim [zR, zP, zV] | fail) only [↓wpPre, wpPost, wpPoly, Int.reduceToNat, Int.reducePow, Int.reduceMul, Int.reduceAdd, Int.reduceSub, Int.reduceNeg, Nat.reduceAdd, Nat.reduceMul, Nat.reducePow, Int.reduceLT, Int.reduceLE, Int.reduceEq, Nat.reduceEqDiff]
   refine ACallsK.of (s1 _) ?_
   rintro r h1 ⟨v1, rfl, q1, R1⟩
   simp -implicitDefEqProofs (disch := first | assumption | decide | omega | (simp only [wpD1] <;> omega) | (simp only [wpD2] <;> assumption) | solve_by_elim [zR, zP, zV] | fail) only [↓wpPre, wpPost, wpPoly, Int.reduceToNat, Int.reducePow, Int.reduceMul, Int.reduceAdd, Int.reduceSub, Int.reduceNeg, Nat.reduceAdd, Nat.reduceMul, Nat.reducePow, Int.reduceLT, Int.reduceLE, Int.reduceEq, Nat.reduceEqDiff, lstErr]
   refine ACallsK.of (s2 _) ?_
   rintro r h2 ⟨v2, rfl, q2, R2⟩
   simp -implicitDefEqProofs (disch := first | assumption | decide | omega | (simp only [wpD1] <;> omega) | (simp only [wpD2] <;> assumption) | solve_by_elim [zR, zP, zV] | fail) only [↓wpPre, wpPost, wpPoly, Int.reduceToNat, Int.reducePow, Int.reduceMul, Int.reduceAdd, Int.reduceSub, Int.reduceNeg, Nat.reduceAdd, Nat.reduceMul, Nat.reducePow, Int.reduceLT, Int.reduceLE, Int.reduceEq, Nat.reduceEqDiff, lstErr]
   exact ⟨_, _, rfl, q1.trans q2, fun _ => ⟨R1.mono q2, R2⟩⟩
  ·simp only [c2] at s2
   rw [if_neg (by omega)]
   (refine calls_intro (hC.body (by decide) tab181) (Nat.le_of_ble_eq_true rfl) ?_); (show wp C _ none B181.code _ _); (simp only [B181]); simp -implicitDefEqProofs (disch := first | assumption | decide | omega | (simp only [wpD1] <;> omega) | (simp only [wpD2] <;> assumption) | solve_by_elim [zR, zP, zV] | fail) only [↓wpPre, wpPost, wpPoly, Int.reduceToNat, Int.reducePow, Int.reduceMul, Int.reduceAdd, Int.reduceSub, Int.reduceNeg, Nat.reduceAdd, Nat.reduceMul, Nat.reducePow, Int.reduceLT, Int.reduceLE, Int.reduceEq, Nat.reduceEqDiff]
   refine ACallsK.of (s1 _) ?_
   rintro r h1 ⟨v1, rfl, q1, R1⟩
   simp -implicitDefEqProofs (disch := first | assumption | decide | omega | (simp only [wpD1] <;> omega) | (simp only [wpD2] <;> assumption) | solve_by_elim [zR, zP, zV] | fail) only [↓wpPre, wpPost, wpPoly, Int.reduceToNat, Int.reducePow, Int.reduceMul, Int.reduceAdd, Int.reduceSub, Int.reduceNeg, Nat.reduceAdd, Nat.reduceMul, Nat.reducePow, Int.reduceLT, Int.reduceLE, Int.reduceEq, Nat.reduceEqDiff, lstErr]
   refine ACallsK.of (s2 _) ?_
   rintro r h2 ⟨v2, rfl, q2, R2⟩
   simp -implicitDefEqProofs (disch := first | assumption | decide | omega | (simp only [wpD1] <;> omega) | (simp only [wpD2] <;> assumption) | solve_by_elim [zR, zP, zV] | fail) only [↓wpPre, wpPost, wpPoly, Int.reduceToNat, Int.reducePow, Int.reduceMul, Int.reduceAdd, Int.reduceSub, Int.reduceNeg, Nat.reduceAdd, Nat.reduceMul, Nat.reducePow, Int.reduceLT, Int.reduceLE, Int.reduceEq, Nat.reduceEqDiff, lstErr]
   exact ⟨_, _, rfl, q1.trans q2⟩
 ·simp only [c] at s1
  rw [if_neg (by omega)]
  (refine calls_intro (hC.body (by decide) tab181) (Nat.le_of_ble_eq_true rfl) ?_); (show wp C _ none B181.code _ _); (simp only [B181]); simp -implicitDefEqProofs (disch := first | assumption | decide | omega | (simp only [wpD1] <;> omega) | (simp only [wpD2] <;> assumption) | solve_by_elim [zR, zP, zV] | fail) only [↓wpPre, wpPost, wpPoly, Int.reduceToNat, Int.reducePow, Int.reduceMul, Int.reduceAdd, Int.reduceSub, Int.reduceNeg, Nat.reduceAdd, Nat.reduceMul, Nat.reducePow, Int.reduceLT, Int.reduceLE, Int.reduceEq, Nat.reduceEqDiff]
  refine ACallsK.of (s1 _) ?_
  rintro r h1 ⟨v1, rfl, q1, R1⟩
  simp -implicitDefEqProofs (disch := first | assumption | decide | omega | (simp only [wpD1] <;> omega) | (simp only [wpD2] <;> assumption) | solve_by_elim [zR, zP, zV] | fail) only [↓wpPre, wpPost, wpPoly, Int.reduceToNat, Int.reducePow, Int.reduceMul, Int.reduceAdd, Int.reduceSub, Int.reduceNeg, Nat.reduceAdd, Nat.reduceMul, Nat.reducePow, Int.reduceLT, Int.reduceLE, Int.reduceEq, Nat.reduceEqDiff, lstErr]
  exact ⟨_, _, rfl, q1⟩
theorem CrossR_spec (hC : Has C T177) {d o p q : Int} {h : Heap} (hd : In64 d) (ho : In64 o) (hp : In64 p) (hq : In64 q) :
  ACalls C 177 [.int .i64 d, .int .i64 o, .int .i64 p, .int .i64 q] h (fun r h' => r = crossE d o p q ∧ HSub h h') := by
 have hpr := fun h => pairR_spec (hC.sub (T' := T181) (by decide)) (h := h) hd ho hp hq
 unfold crossE
 rcases sampErr_cases d o [p, q] with c | c
 ·simp only [c] at hpr
  rw [if_pos c]
  have ok := sampErr_ok c
  have hN := lenN_eq ok.1
  obtain ⟨k, rfl⟩ := Int.eq_ofNat_of_zero_le (show 0 ≤ o by omega)
  have ln1 := sampL_length d p k
  have ln2 := sampL_length d q k
  have sz1 : lenN d ≤ lenN d * k := Nat.le_mul_of_pos_right _ (by omega)
  have sz2 : lenN d * k ≤ 1023 * 8 := Nat.mul_le_mul (by omega) (by omega)
  rw [Int.toNat_natCast]
  (refine calls_intro (hC.body (by decide) tab177) (Nat.le_of_ble_eq_true rfl) ?_); (show wp C _ none B177.code _ _); (simp only [B177]); simp -implicitDefEqProofs (disch := first | assumption | decide | omega | (simp only [wpD1] <;> omega) | (simp only [wpD2] <;> assumption) | solve_by_elim [zR, zP, zV] | fail) only [↓wpPre, wpPost, wpPoly, Int.reduceToNat, Int.reducePow, Int.reduceMul, Int.reduceAdd, Int.reduceSub, Int.reduceNeg, Nat.reduceAdd, Nat.reduceMul, Nat.reducePow, Int.reduceLT, Int.reduceLE, Int.reduceEq, Nat.reduceEqDiff]
  refine ACallsK.of (hpr _) ?_
  rintro r h1 ⟨w1, w2, rfl, s1, hri⟩
  have x := hri trivial
  obtain ⟨R1, R2⟩ := x
  rw [Int.toNat_natCast] at R1 R2
  have pp := greatR_spec (hC.sub (T' := T184) (by decide)) (mg := 0) (h := h1) R1 R2 (sampL_one1 _ _ _) (sampL_one1 _ _ _) (by omega) (by omega)
  simp -implicitDefEqProofs (disch := first | assumption | decide | omega | (simp only [wpD1] <;> omega) | (simp only [wpD2] <;> assumption) | solve_by_elim [zR, zP, zV] | fail) only [↓wpPre, wpPost, wpPoly, Int.reduceToNat, Int.reducePow, Int.reduceMul, Int.reduceAdd, Int.reduceSub, Int.reduceNeg, Nat.reduceAdd, Nat.reduceMul, Nat.reducePow, Int.reduceLT, Int.reduceLE, Int.reduceEq, Nat.reduceEqDiff]
  refine ACallsK.eq pp ?_
  simp -implicitDefEqProofs (disch := first | assumption | decide | omega | (simp only [wpD1] <;> omega) | (simp only [wpD2] <;> assumption) | solve_by_elim [zR, zP, zV] | fail) only [↓wpPre, wpPost, wpPoly, Int.reduceToNat, Int.reducePow, Int.reduceMul, Int.reduceAdd, Int.reduceSub, Int.reduceNeg, Nat.reduceAdd, Nat.reduceMul, Nat.reducePow, Int.reduceLT, Int.reduceLE, Int.reduceEq, Nat.reduceEqDiff]
  exact ⟨rfl, s1⟩
 ·simp only [c] at hpr
  rw [if_neg (by omega)]
  (refine calls_intro (hC.body (by decide) tab177) (Nat.le_of_ble_eq_true rfl) ?_); (show wp C _ none B177.code _ _); (simp only [B177]); simp -implicitDefEqProofs (disch := first | assumption | decide | omega | (simp only [wpD1] <;> omega) | (simp only [wpD2] <;> assumption) | solve_by_elim [zR, zP, zV] | fail) only [↓wpPre, wpPost, wpPoly, Int.reduceToNat, Int.reducePow, Int.reduceMul, Int.reduceAdd, Int.reduceSub, Int.reduceNeg, Nat.reduceAdd, Nat.reduceMul, Nat.reducePow, Int.reduceLT, Int.reduceLE, Int.reduceEq, Nat.reduceEqDiff]
  refine ACallsK.of (hpr _) ?_
  rintro r h1 ⟨w1, w2, rfl, s1, hri⟩
  simp -implicitDefEqProofs (disch := first | assumption | decide | omega | (simp only [wpD1] <;> omega) | (simp only [wpD2] <;> assumption) | solve_by_elim [zR, zP, zV] | fail) only [↓wpPre, wpPost, wpPoly, Int.reduceToNat, Int.reducePow, Int.reduceMul, Int.reduceAdd, Int.reduceSub, Int.reduceNeg, Nat.reduceAdd, Nat.reduceMul, Nat.reducePow, Int.reduceLT, Int.reduceLE, Int.reduceEq, Nat.reduceEqDiff]
  exact ⟨rfl, s1⟩
theorem SideR_spec (hC : Has C T176) {d o p : Int} {h : Heap} (hd : In64 d) (ho : In64 o) (hp : In64 p) :
  ACalls C 176 [.int .i64 d, .int .i64 o, .int .i64 p] h (fun r h' => r = sideE d o p ∧ HSub h h') := by
 have hpr := fun h => SamplesR_spec (hC.sub (T' := T169) (by decide)) (h := h) hd ho hp
 unfold sideE
 rcases sampErr_cases d o [p] with c | c
 ·simp only [c, if_true] at hpr
  rw [if_pos c]
  have ok := sampErr_ok c
  have hN := lenN_eq ok.1
  obtain ⟨k, rfl⟩ := Int.eq_ofNat_of_zero_le (show 0 ≤ o by omega)
  have ln1 := sampL_length d p k
  have sz1 : lenN d ≤ lenN d * k := Nat.le_mul_of_pos_right _ (by omega)
  have sz2 : lenN d * k ≤ 1023 * 8 := Nat.mul_le_mul (by omega) (by omega)
  rw [Int.toNat_natCast] at hpr ⊢
  (refine calls_intro (hC.body (by decide) tab176) (Nat.le_of_ble_eq_true rfl) ?_); (show wp C _ none B176.code _ _); (simp only [B176]); simp -implicitDefEqProofs (disch := first | assumption | decide | omega | (simp only [wpD1] <;> omega) | (simp only [wpD2] <;> assumption) | solve_by_elim [zR, zP, zV] | fail) only [↓wpPre, wpPost, wpPoly, Int.reduceToNat, Int.reducePow, Int.reduceMul, Int.reduceAdd, Int.reduceSub, Int.reduceNeg, Nat.reduceAdd, Nat.reduceMul, Nat.reducePow, Int.reduceLT, Int.reduceLE, Int.reduceEq, Nat.reduceEqDiff]
  refine ACallsK.of (hpr _) ?_
  rintro r h1 ⟨w1, rfl, s1, R1⟩
  have pp := greatR_spec (hC.sub (T' := T184) (by decide)) (mg := k) (h := h1) R1 R1 (sampL_one1 _ _ _) (sampL_one1 _ _ _) (by omega) (by omega)
  simp -implicitDefEqProofs (disch := first | assumption | decide | omega | (simp only [wpD1] <;> omega) | (simp only [wpD2] <;> assumption) | solve_by_elim [zR, zP, zV] | fail) only [↓wpPre, wpPost, wpPoly, Int.reduceToNat, Int.reducePow, Int.reduceMul, Int.reduceAdd, Int.reduceSub, Int.reduceNeg, Nat.reduceAdd, Nat.reduceMul, Nat.reducePow, Int.reduceLT, Int.reduceLE, Int.reduceEq, Nat.reduceEqDiff, lstErr]
  refine ACallsK.eq pp ?_
  simp -implicitDefEqProofs (disch := first | assumption | decide | omega | (simp only [wpD1] <;> omega) | (simp only [wpD2] <;> assumption) | solve_by_elim [zR, zP, zV] | fail) only [↓wpPre, wpPost, wpPoly, Int.reduceToNat, Int.reducePow, Int.reduceMul, Int.reduceAdd, Int.reduceSub, Int.reduceNeg, Nat.reduceAdd, Nat.reduceMul, Nat.reducePow, Int.reduceLT, Int.reduceLE, Int.reduceEq, Nat.reduceEqDiff]
  exact ⟨rfl, s1⟩
 ·simp only [c] at hpr
  rw [if_neg (by omega)]
  (refine calls_intro (hC.body (by decide) tab176) (Nat.le_of_ble_eq_true rfl) ?_); (show wp C _ none B176.code _ _); (simp only [B176]); simp -implicitDefEqProofs (disch := first | assumption | decide | omega | (simp only [wpD1] <;> omega) | (simp only [wpD2] <;> assumption) | solve_by_elim [zR, zP, zV] | fail) only [↓wpPre, wpPost, wpPoly, Int.reduceToNat, Int.reducePow, Int.reduceMul, Int.reduceAdd, Int.reduceSub, Int.reduceNeg, Nat.reduceAdd, Nat.reduceMul, Nat.reducePow, Int.reduceLT, Int.reduceLE, Int.reduceEq, Nat.reduceEqDiff]
  refine ACallsK.of (hpr _) ?_
  rintro r h1 ⟨w1, rfl, s1, R1⟩
  simp -implicitDefEqProofs (disch := first | assumption | decide | omega | (simp only [wpD1] <;> omega) | (simp only [wpD2] <;> assumption) | solve_by_elim [zR, zP, zV] | fail) only [↓wpPre, wpPost, wpPoly, Int.reduceToNat, Int.reducePow, Int.reduceMul, Int.reduceAdd, Int.reduceSub, Int.reduceNeg, Nat.reduceAdd, Nat.reduceMul, Nat.reducePow, Int.reduceLT, Int.reduceLE, Int.reduceEq, Nat.reduceEqDiff, lstErr]
  exact ⟨rfl, s1⟩
end
end Go.Ae
/- Lists of lists of numbers, read and compared; pairs as lists. -/
set_option linter.unusedSimpArgs false
set_option linter.unusedVariables false
namespace Go.Ae
def LLI (h : Heap) (v : AV) (ll : List (List Int)) : Prop := ∃ vs : List AV, SL h 1 v ll.length vs ∧ vs.length = ll.length ∧ ∀ i, i < ll.length → RI h (vs.getD i .nilslice) (ll.getD i [])
theorem LLI.mono {h h' : Heap} {v : AV} {ll : List (List Int)} (H : LLI h v ll) (hs : HSub h h') : LLI h' v ll := by
 obtain ⟨vs, a, b, c⟩ := H
 exact ⟨vs, a.mono hs, b, fun i hi => (c i hi).mono hs⟩
theorem LLI.len {h : Heap} {v : AV} {ll : List (List Int)} (H : LLI h v ll) : lenA v = some (.int .i64 ll.length) := by obtain ⟨vs, a, _, _⟩ := H; exact a.len
theorem LLI.nil {h : Heap} : LLI h .nilslice [] := ⟨[], ⟨rfl, by decide, .inl ⟨rfl, rfl⟩⟩, rfl, fun i hi => by simp at hi⟩
theorem LLI.at {h : Heap} {v : AV} {ll : List (List Int)} (H : LLI h v ll) {i : Nat} (hi : i < ll.length) : ∃ w, idxA 1 v (.int .i64 (i : Nat)) = some (elA 1 v i) ∧ loadA h false 1 (elA 1 v i) = some w ∧ RI h w (ll.getD i []) := by
 obtain ⟨vs, a, b, c⟩ := H
 refine ⟨vs.getD i .nilslice, a.idx ⟨by omega, by omega⟩, ?_, c i hi⟩
 rw [SL.load1 a hi]
 simp [show i < vs.length by omega]
section
variable {C : Ctx}
def Two (h0 h : Heap) (v w : AV) (p : Int × Int) : Prop := ∃ j, h0.size ≤ j ∧ w = .slice j 0 2 (.known 2) ∧ h.get j = some (.cells [.int .i64 p.1, .int .i64 p.2] true 0) ∧ j ∉ v.ids
end
end Go.Ae
/- Tables of sums, of the program. -/
set_option linter.unusedSimpArgs false
set_option linter.unusedVariables false
namespace Go.Ae
def tabE (d : Int) (ps : List Int) : Nat → Int
 | 0 => 0
 | k + 1 => if tabE d ps k ≠ 0 then tabE d ps k else if codeErr d (ps.getD k 0) ≠ 0 then 2 else if ((ps.take k).any fun y => ps.getD k 0 == y) = true then 8 else 0
def tabErr (d o : Int) (ps : List Int) : Int := if knownErr d o ≠ 0 then 2 else if ps.length = 0 then 3 else if 8 < ps.length then 4 else tabE d ps ps.length
theorem tabE_mono {d : Int} {ps : List Int} {k : Nat} (h : tabE d ps k ≠ 0) : ∀ m, tabE d ps (k + m) = tabE d ps k
 | 0 => rfl
 | m + 1 => by
  rw [← Nat.add_assoc, tabE, if_pos (by rw [tabE_mono h m]; exact h), tabE_mono h m]
theorem tabE_at {d : Int} {ps : List Int} {k n : Nat} (h : tabE d ps k ≠ 0) (hk : k ≤ n) : tabE d ps n = tabE d ps k := by
 have := tabE_mono h (n - k)
 rwa [show k + (n - k) = n by omega] at this
def tabRow (d : Int) (o : Nat) (ps : List Int) (i k : Nat) : List Int := (List.range k).map fun j => greatI (sampL d (ps.getD i 0) o) (sampL d (ps.getD j 0) o) (if i = j then o else 0)
theorem tabRow_length (d : Int) (o : Nat) (ps : List Int) (i k : Nat) : (tabRow d o ps i k).length = k := by simp [tabRow]
theorem tabRow_succ (d : Int) (o : Nat) (ps : List Int) (i k : Nat) : tabRow d o ps i (k + 1) = tabRow d o ps i k ++ [greatI (sampL d (ps.getD i 0) o) (sampL d (ps.getD k 0) o) (if i = k then o else 0)] := by simp [tabRow, List.range_succ]
def tblL (d : Int) (o : Nat) (ps : List Int) : List (List Int) := (List.range ps.length).map fun i => tabRow d o ps i ps.length
theorem Grw.move {h0 h F : Heap} {sz n : Nat} {w : AV} {ds : List AV} (B : Grw h0 h sz w n ds) (hs : HSub h0 F) (hg : ∀ x ∈ w.ids, F.get x = h.get x) : Grw h0 F sz w n ds := by
 obtain ⟨_, hl, hn, ⟨rfl, rfl⟩ | ⟨i, ex, hi, rfl, hgi⟩⟩ := B
 ·exact ⟨hs, hl, hn, .inl ⟨rfl, rfl⟩⟩
 ·exact ⟨hs, hl, hn, .inr ⟨i, ex, hi, rfl, (hg i (by simp [AV.ids])).trans hgi⟩⟩
section
variable {C : Ctx}
set_option maxHeartbeats 4000000 in
set_option maxRecDepth 20000 in
theorem Table_spec (hC : Has C T172) {d o : Int} {vp : AV} {ps : List Int} {h : Heap} (hd : In64 d) (ho : In64 o) (hp : RI h vp ps) (hx : ∀ x ∈ ps, In64 x) :
  ACalls C 172 [.int .i64 d, .int .i64 o, vp] h (fun r h' => ∃ v, r = lstErr v (tabErr d o ps) ∧ HSub h h' ∧ LLI h' v (if tabErr d o ps = 0 then tblL d o.toNat ps else [])) := by
 have hplt := hp.lt
 have fin : ∀ (h' : Heap) (e : Int), HSub h h' → tabErr d o ps = e → e ≠ 0 → ∃ v, AV.tuple [.nilslice, .int .i64 e] = lstErr v (tabErr d o ps) ∧ HSub h h' ∧ LLI h' v (if tabErr d o ps = 0 then tblL d o.toNat ps else []) := fun h' e hs he h0 => ⟨.nilslice, by rw [he]; rfl, hs, by rw [if_neg (by omega)]; exact LLI.nil⟩
 by_cases ck : knownErr d o = 0
 ·have kr : lenOk d = true ∧ 1 ≤ o ∧ o ≤ 8 := by
   unfold knownErr at ck
   split at ck
   ·assumption
   ·cases ck
  obtain ⟨q, rfl⟩ := Int.eq_ofNat_of_zero_le (show 0 ≤ o by omega)
  have hN := lenN_eq kr.1
  by_cases c0 : ps.length = 0
  ·have pe : tabErr d (q : Nat) ps = 3 := by unfold tabErr; rw [if_neg (by omega), if_pos c0]
   (refine calls_intro (hC.body (by decide) tab172) (Nat.le_of_ble_eq_true rfl) ?_); (show wp C _ none B172.code _ _); (simp only [B172]); simp -implicitDefEqProofs (disch := first | assumption | decide | omega | (simp only [wpD1] <;> omega) | (simp only [wpD2] <;> assumption) | solve_by_elim [zR, zP, zV] | fail) only [↓wpPre, wpPost, wpPoly, Int.reduceToNat, Int.reducePow, Int.reduceMul, Int.reduceAdd, Int.reduceSub, Int.reduceNeg, Nat.reduceAdd, Nat.reduceMul, Nat.reducePow, Int.reduceLT, Int.reduceLE, Int.reduceEq, Nat.reduceEqDiff]
   refine ACallsK.eq (known09_spec (hC.sub (T' := T150) (by decide)) hd ho) ?_
   rw [ck]
   simp -implicitDefEqProofs (disch := first | assumption | decide | omega | (simp only [wpD1] <;> omega) | (simp only [wpD2] <;> assumption) | solve_by_elim [zR, zP, zV] | fail) only [↓wpPre, wpPost, wpPoly, Int.reduceToNat, Int.reducePow, Int.reduceMul, Int.reduceAdd, Int.reduceSub, Int.reduceNeg, Nat.reduceAdd, Nat.reduceMul, Nat.reducePow, Int.reduceLT, Int.reduceLE, Int.reduceEq, Nat.reduceEqDiff, hp.len]
   exact fin _ _ (HSub.refl _) pe (by decide)
  by_cases c8 : 8 < ps.length
  ·have pe : tabErr d (q : Nat) ps = 4 := by unfold tabErr; rw [if_neg (by omega), if_neg c0, if_pos c8]
   (refine calls_intro (hC.body (by decide) tab172) (Nat.le_of_ble_eq_true rfl) ?_); (show wp C _ none B172.code _ _); (simp only [B172]); simp -implicitDefEqProofs (disch := first | assumption | decide | omega | (simp only [wpD1] <;> omega) | (simp only [wpD2] <;> assumption) | solve_by_elim [zR, zP, zV] | fail) only [↓wpPre, wpPost, wpPoly, Int.reduceToNat, Int.reducePow, Int.reduceMul, Int.reduceAdd, Int.reduceSub, Int.reduceNeg, Nat.reduceAdd, Nat.reduceMul, Nat.reducePow, Int.reduceLT, Int.reduceLE, Int.reduceEq, Nat.reduceEqDiff]
   refine ACallsK.eq (known09_spec (hC.sub (T' := T150) (by decide)) hd ho) ?_
   rw [ck]
   simp -implicitDefEqProofs (disch := first | assumption | decide | omega | (simp only [wpD1] <;> omega) | (simp only [wpD2] <;> assumption) | solve_by_elim [zR, zP, zV] | fail) only [↓wpPre, wpPost, wpPoly, Int.reduceToNat, Int.reducePow, Int.reduceMul, Int.reduceAdd, Int.reduceSub, Int.reduceNeg, Nat.reduceAdd, Nat.reduceMul, Nat.reducePow, Int.reduceLT, Int.reduceLE, Int.reduceEq, Nat.reduceEqDiff, hp.len]
   exact fin _ _ (HSub.refl _) pe (by decide)
  have pe : tabErr d (q : Nat) ps = tabE d ps ps.length := by unfold tabErr; rw [if_neg (by omega), if_neg c0, if_neg c8]
  rw [pe] at fin ⊢
  have fin2 : tabE d ps ps.length = 0 → ∀ (h' : Heap) (v : AV), HSub h h' → LLI h' v (tblL d q ps) → ∃ v', AV.tuple [v, .int .i64 0] = lstErr v' (tabE d ps ps.length) ∧ HSub h h' ∧ LLI h' v' (if tabE d ps ps.length = 0 then tblL d (q : Int).toNat ps else []) := fun he h' v hs hl => ⟨v, by rw [he]; rfl, hs, by rw [if_pos he]; exact hl⟩
  have hsd := fun (h : Heap) (i : Nat) (p : Int) (hp : In64 p) (hg : h.get i = some (.cells [.int .i64 p] true 0)) => sampled_specF (hC.sub (T' := T142) (by decide)) (vp := .slice i 0 1 (.known 1)) (ps := [p]) (h := h) hd ho (RI.known hg ⟨rfl, by decide⟩ (by decide)) (by simp [hp]) (by simp)
  (refine calls_intro (hC.body (by decide) tab172) (Nat.le_of_ble_eq_true rfl) ?_); (show wp C _ none B172.code _ _); (simp only [B172]); simp -implicitDefEqProofs (disch := first | assumption | decide | omega | (simp only [wpD1] <;> omega) | (simp only [wpD2] <;> assumption) | solve_by_elim [zR, zP, zV] | fail) only [↓wpPre, wpPost, wpPoly, Int.reduceToNat, Int.reducePow, Int.reduceMul, Int.reduceAdd, Int.reduceSub, Int.reduceNeg, Nat.reduceAdd, Nat.reduceMul, Nat.reducePow, Int.reduceLT, Int.reduceLE, Int.reduceEq, Nat.reduceEqDiff]
  refine ACallsK.eq (known09_spec (hC.sub (T' := T150) (by decide)) hd ho) ?_
  rw [ck]
  simp -implicitDefEqProofs (disch := first | assumption | decide | omega | (simp only [wpD1] <;> omega) | (simp only [wpD2] <;> assumption) | solve_by_elim [zR, zP, zV] | fail) only [↓wpPre, wpPost, wpPoly, Int.reduceToNat, Int.reducePow, Int.reduceMul, Int.reduceAdd, Int.reduceSub, Int.reduceNeg, Nat.reduceAdd, Nat.reduceMul, Nat.reducePow, Int.reduceLT, Int.reduceLE, Int.reduceEq, Nat.reduceEqDiff, hp.len]
  refine wp_loopI (fun j t h' => ∃ (k : Nat) (vs : List AV), Grw h h' 2 (t 9) k (codeCells vs (q : Nat)) ∧ vs.length = k ∧ (∀ i, i < k → GrwI h h' (vs.getD i .nilslice) (sampL d (ps.getD i 0) q) ∧ Dj (vs.getD i .nilslice) (t 9)) ∧ tabE d ps k = 0 ∧
   t 0 = .int .i64 d ∧ t 1 = .int .i64 (q : Nat) ∧ t 2 = vp ∧ t 34 = vp ∧ t 35 = .int .i64 (ps.length : Nat) ∧ t 36 = .int .i64 (k : Nat) ∧ k ≤ ps.length ∧ j = ps.length - k) (j0 := ps.length)
   ⟨0, [], Grw.nil _ _, rfl, fun i hi => by omega, rfl, rfl, rfl, rfl, rfl, rfl, rfl, by omega, rfl⟩ ?_
  rintro j t h2 ⟨k, vs, A, hvl, hvs, hte, e0, e1, e2, e34, e35, e36, hk, hj⟩
  simp -implicitDefEqProofs (disch := first | assumption | decide | omega | (simp only [wpD1] <;> omega) | (simp only [wpD2] <;> assumption) | solve_by_elim [zR, zP, zV] | fail) only [↓wpPre, wpPost, wpPoly, Int.reduceToNat, Int.reducePow, Int.reduceMul, Int.reduceAdd, Int.reduceSub, Int.reduceNeg, Nat.reduceAdd, Nat.reduceMul, Nat.reducePow, Int.reduceLT, Int.reduceLE, Int.reduceEq, Nat.reduceEqDiff, e35, e36]
  refine Br.by (fun c1 => ?_) (fun c1 => ?_)
  ·have hk' : k < ps.length := by omega
   have hp2 := hp.mono A.sub
   have hxk := hx _ (getD_mem hk')
   have ts : tabE d ps (k + 1) = if codeErr d (ps.getD k 0) ≠ 0 then 2 else if ((ps.take k).any fun y => ps.getD k 0 == y) = true then 8 else 0 := by rw [tabE, if_neg (by omega)]
   have ld := hp2.load hk'
   have xp : ∃ p, p = ps.getD k 0 := ⟨_, rfl⟩
   obtain ⟨p, hpd⟩ := xp
   rw [← hpd] at ld ts hxk
   have se : sampErr d (q : Nat) [p] = codeErr d p := by
    rw [sampErr_one]
    rcases codeErr_cases d p with c | c
    ·rw [if_pos ⟨ck, c⟩, c]
    ·rw [if_neg (by omega), c]
   have hsd := hsd (h2.push (.cells [.int .i64 p] true 0)) h2.size p hxk (get_push_eq rfl)
   rw [se] at hsd
   by_cases cc : codeErr d p = 0
   ·rw [if_neg (by omega)] at ts
    simp only [cc] at hsd
    simp -implicitDefEqProofs (disch := first | assumption | decide | omega | (simp only [wpD1] <;> omega) | (simp only [wpD2] <;> assumption) | solve_by_elim [zR, zP, zV] | fail) only [↓wpPre, wpPost, wpPoly, Int.reduceToNat, Int.reducePow, Int.reduceMul, Int.reduceAdd, Int.reduceSub, Int.reduceNeg, Nat.reduceAdd, Nat.reduceMul, Nat.reducePow, Int.reduceLT, Int.reduceLE, Int.reduceEq, Nat.reduceEqDiff, e0, e1, e34, e36, hp2.idx, ld]
    refine ACallsK.of hsd ?_
    rintro r h3 ⟨v, ws, rfl, s1, hcl⟩
    have s2 : HSub h2 h3 := (HSub.push1 _ _).trans s1
    have x0 := hcl trivial
    obtain ⟨cl, gw⟩ := x0
    have xw : ∃ w, ws = [w] := by
     have := cl.len
     match ws, this with
     | [w], _ => exact ⟨w, rfl⟩
    obtain ⟨w, rfl⟩ := xw
    have B : GrwI (h2.push (.cells [.int .i64 p] true 0)) h3 w (sampL d p q) := gw 0 (by simp)
    have hp3 := hp.mono (A.sub.trans s2)
    have xs := hp3.part_b (k2 := .i64) (b := (k : Nat)) (by omega)
    obtain ⟨v', ev, Rv⟩ := xs
    have ev := ev h3 (HSub.refl _)
    rw [Int.toNat_natCast] at Rv
    have hcn := Contains_spec (hC.sub (T' := T89) (by decide)) (x := p) Rv
    simp -implicitDefEqProofs (disch := first | assumption | decide | omega | (simp only [wpD1] <;> omega) | (simp only [wpD2] <;> assumption) | solve_by_elim [zR, zP, zV] | fail) only [↓wpPre, wpPost, wpPoly, Int.reduceToNat, Int.reducePow, Int.reduceMul, Int.reduceAdd, Int.reduceSub, Int.reduceNeg, Nat.reduceAdd, Nat.reduceMul, Nat.reducePow, Int.reduceLT, Int.reduceLE, Int.reduceEq, Nat.reduceEqDiff, lstErr, e2, ev]
    by_cases c3 : ((ps.take k).any fun y => p == y) = true
    ·rw [if_pos c3] at ts
     rw [c3] at hcn
     refine ACallsK.eq hcn ?_
     simp -implicitDefEqProofs (disch := first | assumption | decide | omega | (simp only [wpD1] <;> omega) | (simp only [wpD2] <;> assumption) | solve_by_elim [zR, zP, zV] | fail) only [↓wpPre, wpPost, wpPoly, Int.reduceToNat, Int.reducePow, Int.reduceMul, Int.reduceAdd, Int.reduceSub, Int.reduceNeg, Nat.reduceAdd, Nat.reduceMul, Nat.reducePow, Int.reduceLT, Int.reduceLE, Int.reduceEq, Nat.reduceEqDiff]
     exact fin _ _ (A.sub.trans s2) ((tabE_at (by rw [ts]; decide) (by omega)).trans ts) (by decide)
    ·rw [if_neg c3] at ts
     rw [Bool.eq_false_iff.2 c3] at hcn
     refine ACallsK.eq hcn ?_
     have cw := cl.sl.content
     rw [show ([p] : List Int).length = 1 from rfl, show codeCells [w] (q : Nat) = [w, .int .i64 (q : Nat)] from rfl] at cw
     have wone : w.one = true := (Grw.sl B).one
     have hn1 : [w, AV.int .i64 (q : Nat)].all AV.one = true := by simp [wone, one_int]
     have ap := Grw.app A (bytes := 32) (m := 1) (news := [w, .int .i64 (q : Nat)]) s2 (by decide) (by omega) hn1
     have A5 := Grw.snoc A (m := 1) (news := [w, .int .i64 (q : Nat)]) s2 rfl (by omega)
     rw [← codeCells_snoc] at ap A5
     simp -implicitDefEqProofs (disch := first | assumption | decide | omega | (simp only [wpD1] <;> omega) | (simp only [wpD2] <;> assumption) | solve_by_elim [zR, zP, zV] | fail) only [↓wpPre, wpPost, wpPoly, Int.reduceToNat, Int.reducePow, Int.reduceMul, Int.reduceAdd, Int.reduceSub, Int.reduceNeg, Nat.reduceAdd, Nat.reduceMul, Nat.reducePow, Int.reduceLT, Int.reduceLE, Int.reduceEq, Nat.reduceEqDiff, cw, ap, e0, e1, e2, e34, e35, e36]
     have A4 := A.mono s2
     have B0 : GrwI h h3 w (sampL d p q) := B.base (A.sub.trans (HSub.push1 _ _))
     have dw : Dj w (t 9) := fun j hj hj9 => by
      have q1 := (Grw.ids_lt B j hj).1
      have q2 := (Grw.ids_lt A j hj9).2
      simp only [Heap.size_push] at q1
      omega
     refine ⟨_, ⟨k + 1, vs ++ [w], A5, by simp [hvl], fun i hi => ?_, ts, by simp, by omega, rfl⟩, by omega⟩
     rcases Nat.lt_or_ge i k with x | x
     ·have e : (vs ++ [w]).getD i .nilslice = vs.getD i .nilslice := by simp [List.getD_eq_getElem?_getD, List.getElem?_append_left (show i < vs.length by omega)]
      rw [e]
      have B1 := (hvs i x).1.mono s2
      exact ⟨Grw.keep A4 B1 (HSub.refl _) (hvs i x).2, Grw.dj B1 (Nat.le_refl _)⟩
     ·have ei : i = k := by omega
      subst ei
      have e : (vs ++ [w]).getD i .nilslice = w := by simp [List.getD_eq_getElem?_getD, ← hvl]
      rw [e, ← hpd]
      exact ⟨Grw.keep A4 B0 (HSub.refl _) dw, Grw.dj B0 (Nat.le_refl _)⟩
   ·have c2 : codeErr d p = 2 := by rcases codeErr_cases d p with c | c <;> first | exact absurd c cc | exact c
    rw [if_pos (by omega)] at ts
    simp only [c2] at hsd
    simp -implicitDefEqProofs (disch := first | assumption | decide | omega | (simp only [wpD1] <;> omega) | (simp only [wpD2] <;> assumption) | solve_by_elim [zR, zP, zV] | fail) only [↓wpPre, wpPost, wpPoly, Int.reduceToNat, Int.reducePow, Int.reduceMul, Int.reduceAdd, Int.reduceSub, Int.reduceNeg, Nat.reduceAdd, Nat.reduceMul, Nat.reducePow, Int.reduceLT, Int.reduceLE, Int.reduceEq, Nat.reduceEqDiff, e0, e1, e34, e36, hp2.idx, ld]
    refine ACallsK.of hsd ?_
    rintro r h3 ⟨v, ws, rfl, s1, hcl⟩
    have s2 : HSub h2 h3 := (HSub.push1 _ _).trans s1
    simp -implicitDefEqProofs (disch := first | assumption | decide | omega | (simp only [wpD1] <;> omega) | (simp only [wpD2] <;> assumption) | solve_by_elim [zR, zP, zV] | fail) only [↓wpPre, wpPost, wpPoly, Int.reduceToNat, Int.reducePow, Int.reduceMul, Int.reduceAdd, Int.reduceSub, Int.reduceNeg, Nat.reduceAdd, Nat.reduceMul, Nat.reducePow, Int.reduceLT, Int.reduceLE, Int.reduceEq, Nat.reduceEqDiff, lstErr]
    exact fin _ _ (A.sub.trans s2) ((tabE_at (by rw [ts]; decide) (by omega)).trans ts) (by decide)
  ·have ek : k = ps.length := by omega
   subst ek
   have fin3 := fin2 hte
   have lA := A.sl
   have hzA := A.sub.size
   have RV : ∀ i, i < ps.length → RI h2 (vs.getD i .nilslice) (sampL d (ps.getD i 0) q) := fun i hi => (hvs i hi).1.ri
   have hL8 : ps.length ≤ 8 := by omega
   have sz : ∀ i, (sampL d (ps.getD i 0) q).length = lenN d * q := fun i => sampL_length _ _ _
   have sz1 : lenN d ≤ lenN d * q := Nat.le_mul_of_pos_right _ (by omega)
   have sz2 : lenN d * q ≤ 1023 * 8 := Nat.mul_le_mul (by omega) (by omega)
   have lenA9 := lA.len
   have xlv : ∃ lv, lv = t 9 := ⟨_, rfl⟩
   obtain ⟨lv, hlv⟩ := xlv
   rw [← hlv] at lA lenA9
   have e9 : t 9 = lv := hlv.symm
   simp -implicitDefEqProofs (disch := first | assumption | decide | omega | (simp only [wpD1] <;> omega) | (simp only [wpD2] <;> assumption) | solve_by_elim [zR, zP, zV] | fail) only [↓wpPre, wpPost, wpPoly, Int.reduceToNat, Int.reducePow, Int.reduceMul, Int.reduceAdd, Int.reduceSub, Int.reduceNeg, Nat.reduceAdd, Nat.reduceMul, Nat.reducePow, Int.reduceLT, Int.reduceLE, Int.reduceEq, Nat.reduceEqDiff, e9, lenA9]
   refine wp_loopI (fun j t h' => ∃ (i : Nat) (rows : List AV), h'.get h2.size = some (.cells rows true 0) ∧ rows.length = ps.length ∧ HSub h2 h' ∧ h2.size < h'.size ∧ (∀ j, j < i → GrwI h2 h' (rows.getD j .nilslice) (tabRow d q ps j ps.length) ∧ h2.size ∉ (rows.getD j .nilslice).ids) ∧ (∀ j, i ≤ j → j < ps.length → rows[j]? = some .nilslice) ∧
    t 1 = .int .i64 (q : Nat) ∧ t 9 = lv ∧ t 14 = .slice h2.size 0 ps.length (.known ps.length) ∧ t 64 = lv ∧ t 65 = .int .i64 (ps.length : Nat) ∧ t 66 = .int .i64 (i : Nat) ∧ i ≤ ps.length ∧ j = ps.length - i) (j0 := ps.length)
    ⟨0, List.replicate ps.length .nilslice, get_push_eq rfl, by simp, HSub.push1 _ _, by simp, fun j hj => by omega, fun j _ hj => by simp [hj], e1, e9, rfl, rfl, rfl, rfl, by omega, rfl⟩ ?_
   rintro j t h4 ⟨i, rows, gO, hrl, s4, z4, hrow, hnil, e1, e9, e14, e64, e65, e66, hi, hj⟩
   simp -implicitDefEqProofs (disch := first | assumption | decide | omega | (simp only [wpD1] <;> omega) | (simp only [wpD2] <;> assumption) | solve_by_elim [zR, zP, zV] | fail) only [↓wpPre, wpPost, wpPoly, Int.reduceToNat, Int.reducePow, Int.reduceMul, Int.reduceAdd, Int.reduceSub, Int.reduceNeg, Nat.reduceAdd, Nat.reduceMul, Nat.reducePow, Int.reduceLT, Int.reduceLE, Int.reduceEq, Nat.reduceEqDiff, e65, e66]
   refine Br.by (fun c2 => ?_) (fun c2 => ?_)
   ·have hi' : i < ps.length := by omega
    have ixi : idxA 2 lv (.int .i64 (i : Nat)) = some (elA 2 lv i) := lA.idx ⟨by omega, by omega⟩
    have ldi := (lA.mono s4).loadA hi'
    rw [codeCells_cut (q : Nat) vs i (by omega)] at ldi
    have xwi : ∃ wi, wi = vs.getD i .nilslice := ⟨_, rfl⟩
    obtain ⟨wi, hwi⟩ := xwi
    have Ri := RV i hi'
    rw [← hwi] at ldi Ri
    have one := Ri.one
    simp -implicitDefEqProofs (disch := first | assumption | decide | omega | (simp only [wpD1] <;> omega) | (simp only [wpD2] <;> assumption) | solve_by_elim [zR, zP, zV] | fail) only [↓wpPre, wpPost, wpPoly, Int.reduceToNat, Int.reducePow, Int.reduceMul, Int.reduceAdd, Int.reduceSub, Int.reduceNeg, Nat.reduceAdd, Nat.reduceMul, Nat.reducePow, Int.reduceLT, Int.reduceLE, Int.reduceEq, Nat.reduceEqDiff, e1, e9, e64, e66, ixi, ldi, lenA9]
    have gO5 : (h4.push (.cells [wi, .int .i64 (q : Nat)] true 0)).get h2.size = some (.cells rows true 0) := (get_push_lt z4).trans gO
    refine wp_loopI (fun j t h' => ∃ (k : Nat) (rws : List AV), h'.get h2.size = some (.cells rws true 0) ∧ rws.length = ps.length ∧ HSub h2 h' ∧ h4.size < h'.size ∧ h'.get h4.size = some (.cells [wi, .int .i64 (q : Nat)] true 0) ∧ h4.size ∉ (rws.getD i .nilslice).ids ∧
     (∀ j, j < i → GrwI h2 h' (rws.getD j .nilslice) (tabRow d q ps j ps.length) ∧ h2.size ∉ (rws.getD j .nilslice).ids ∧ Dj (rws.getD j .nilslice) (rws.getD i .nilslice)) ∧ GrwI h2 h' (rws.getD i .nilslice) (tabRow d q ps i k) ∧ h2.size ∉ (rws.getD i .nilslice).ids ∧ (∀ j, i < j → j < ps.length → rws[j]? = some .nilslice) ∧
     t 1 = .int .i64 (q : Nat) ∧ t 9 = lv ∧ t 14 = .slice h2.size 0 ps.length (.known ps.length) ∧ t 15 = .int .i64 (i : Nat) ∧ t 16 = .ptr h4.size 0 ∧ t 64 = lv ∧ t 65 = .int .i64 (ps.length : Nat) ∧ t 66 = .int .i64 (i : Nat) ∧ t 71 = lv ∧ t 72 = .int .i64 (ps.length : Nat) ∧ t 73 = .int .i64 (k : Nat) ∧ k ≤ ps.length ∧ j = ps.length - k) (j0 := ps.length)
     ⟨0, rows, gO5, hrl, s4.push _, by simp, get_push_eq rfl, ?_, ?_, ?_, ?_, ?_, e1, e9, e14, rfl, rfl, e64, e65, e66, rfl, rfl, rfl, by omega, rfl⟩ ?_
    ·have := hnil i (Nat.le_refl _) hi'
     rw [List.getD_eq_getElem?_getD, this]; simp [AV.ids]
    ·intro j hj
     have hni := hnil i (Nat.le_refl _) hi'
     refine ⟨(hrow j hj).1.mono (HSub.push1 _ _), (hrow j hj).2, ?_⟩
     rw [List.getD_eq_getElem?_getD (i := i), hni]
     exact Dj.nilR
    ·have hni := hnil i (Nat.le_refl _) hi'
     rw [List.getD_eq_getElem?_getD (i := i), hni]
     exact GrwI.nil' (s4.push _)
    ·have hni := hnil i (Nat.le_refl _) hi'
     rw [List.getD_eq_getElem?_getD (i := i), hni]
     simp [AV.ids]
    ·intro j hj hj2
     exact hnil j (by omega) hj2
    rintro j t h5 ⟨k, rws, gO, hrl, s5, z5, g16, n16, hrow, hri, nri, hnil, e1, e9, e14, e15, e16, e64, e65, e66, e71, e72, e73, hk, hj⟩
    simp -implicitDefEqProofs (disch := first | assumption | decide | omega | (simp only [wpD1] <;> omega) | (simp only [wpD2] <;> assumption) | solve_by_elim [zR, zP, zV] | fail) only [↓wpPre, wpPost, wpPoly, Int.reduceToNat, Int.reducePow, Int.reduceMul, Int.reduceAdd, Int.reduceSub, Int.reduceNeg, Nat.reduceAdd, Nat.reduceMul, Nat.reducePow, Int.reduceLT, Int.reduceLE, Int.reduceEq, Nat.reduceEqDiff, e72, e73]
    refine Br.by (fun c3 => ?_) (fun c3 => ?_)
    ·have hk' : k < ps.length := by omega
     have ixk : idxA 2 lv (.int .i64 (k : Nat)) = some (elA 2 lv k) := lA.idx ⟨by omega, by omega⟩
     have ldk := (lA.mono s5).loadA hk'
     rw [codeCells_cut (q : Nat) vs k (by omega)] at ldk
     have xwk : ∃ wk, wk = vs.getD k .nilslice := ⟨_, rfl⟩
     obtain ⟨wk, hwk⟩ := xwk
     have Rk := RV k hk'
     rw [← hwk] at ldk Rk
     have onek := Rk.one
     have xr : ∃ ri, ri = rws.getD i .nilslice := ⟨_, rfl⟩
     obtain ⟨ri, hrid⟩ := xr
     rw [← hrid] at hri nri n16
     have rget : rws[i]? = some ri := by rw [hrid]; simp [List.getD_eq_getElem?_getD, show i < rws.length by omega]
     by_cases cik : i = k
     ·subst cik
      have sx := tabRow_succ d q ps i i
      rw [if_pos rfl] at sx
      have sl := tabRow_length d q ps i i
      simp -implicitDefEqProofs (disch := first | assumption | decide | omega | (simp only [wpD1] <;> omega) | (simp only [wpD2] <;> assumption) | solve_by_elim [zR, zP, zV] | fail) only [↓wpPre, wpPost, wpPoly, Int.reduceToNat, Int.reducePow, Int.reduceMul, Int.reduceAdd, Int.reduceSub, Int.reduceNeg, Nat.reduceAdd, Nat.reduceMul, Nat.reducePow, Int.reduceLT, Int.reduceLE, Int.reduceEq, Nat.reduceEqDiff, e1, e14, e15, e16, e71, e73, ixk, ldk, gO, rget, g16]
      refine ACallsK.hide (fun H hH => ?_)
      have N : H.size = h5.size + 15 := by rw [hH]; simp -implicitDefEqProofs (disch := first | assumption | decide | omega | (simp only [wpD1] <;> omega) | (simp only [wpD2] <;> assumption) | solve_by_elim [zR, zP, zV] | fail) only [↓wpPre, wpPost, wpPoly, Int.reduceToNat, Int.reducePow, Int.reduceMul, Int.reduceAdd, Int.reduceSub, Int.reduceNeg, Nat.reduceAdd, Nat.reduceMul, Nat.reducePow, Int.reduceLT, Int.reduceLE, Int.reduceEq, Nat.reduceEqDiff]
      have gH : ∀ j, j < h5.size → H.get j = h5.get j := by
       intro j hj
       rw [hH, Heap.get_reserve, get_push_lt hj]
      have gN : ∀ j, h5.size + 1 ≤ j → H.get j = none := by
       intro j hj
       rw [hH, Heap.get_reserve]
       exact Heap.wf _ j (by simpa using hj)
      have hs5 : HSub h5 H := ⟨by omega, gH⟩
      clear hH
      have gO6 := (gH _ (by omega)).trans gO
      have gp := great_spec (hC.sub (T' := T183) (by decide)) (o1 := (q : Nat)) (o2 := (q : Nat)) (mg := q) (h := H) (Ri.mono (s5.trans hs5)) (Rk.mono (s5.trans hs5)) (sampL_one1 _ _ _) (sampL_one1 _ _ _) ⟨by simp only [sz], by rw [sz]; omega, by rw [sz]; omega⟩ (by omega)
      refine ACallsK.eq gp ?_
      have ap := fun b => Grw.appG (H := H.put (h5.size + 1 + 10) b) (k := h5.size + 1 + 11) (m := 1) (bytes := 8) (news := [.int .i64 (greatI (sampL d (ps.getD i 0) q) (sampL d (ps.getD i 0) q) q)]) hri (fun j hj => by rw [get_put_ne (by have := (Grw.ids_lt hri j hj).2; omega)]; exact gH j (Grw.ids_lt hri j hj).2) ⟨by omega, by simp only [Heap.size_put]; omega⟩ (by decide) (by omega) (by rfl)
      rw [ints_snoc, ← sx, sl] at ap
      have g10 := gN (h5.size + 1 + 10) (by omega)
      have g11 := gN (h5.size + 1 + 11) (by omega)
      simp -implicitDefEqProofs (disch := first | assumption | decide | omega | (simp only [wpD1] <;> omega) | (simp only [wpD2] <;> assumption) | solve_by_elim [zR, zP, zV] | fail) only [↓wpPre, wpPost, wpPoly, Int.reduceToNat, Int.reducePow, Int.reduceMul, Int.reduceAdd, Int.reduceSub, Int.reduceNeg, Nat.reduceAdd, Nat.reduceMul, Nat.reducePow, Int.reduceLT, Int.reduceLE, Int.reduceEq, Nat.reduceEqDiff, g10, g11, cont_slice, contB_one, ap, appK_none, e14]
      refine ⟨gH _ (by omega), ?_⟩
      have gF := fun b => (snocS_ne (H := H.put (h5.size + 1 + 10) b) (k := h5.size + 1 + 11) (v := ri) (sz := 1) (cs := ints (tabRow d q ps i (i + 1))) (j := h2.size) (by omega) nri).trans ((get_put_ne (by omega)).trans gO6)
      have zF := fun b => snocS_size (H := H.put (h5.size + 1 + 10) b) (k := h5.size + 1 + 11) (v := ri) (sz := 1) (cs := ints (tabRow d q ps i (i + 1)))
      have rF := fun b => snocS_same (H := H.put (h5.size + 1 + 10) b) (k := h5.size + 1 + 11) (v := ri) (sz := 1) (cs := ints (tabRow d q ps i (i + 1))) (by simp only [Heap.size_put]; omega)
      have bF := fun b => snocS_sub (H := H.put (h5.size + 1 + 10) b) (k := h5.size + 1 + 11) (ds := ints (tabRow d q ps i (i + 1))) hri ((s5.trans hs5).put (by omega) b) (by omega)
      have oF := fun b (j : Nat) (hj : j < h5.size) (hv : j ∉ ri.ids) => (snocS_ne (H := H.put (h5.size + 1 + 10) b) (k := h5.size + 1 + 11) (v := ri) (sz := 1) (cs := ints (tabRow d q ps i (i + 1))) (j := j) (by omega) hv).trans ((get_put_ne (by omega)).trans (gH j hj))
      simp only [Heap.size_put] at zF
      simp -implicitDefEqProofs (disch := first | assumption | decide | omega | (simp only [wpD1] <;> omega) | (simp only [wpD2] <;> assumption) | solve_by_elim [zR, zP, zV] | fail) only [↓wpPre, wpPost, wpPoly, Int.reduceToNat, Int.reducePow, Int.reduceMul, Int.reduceAdd, Int.reduceSub, Int.reduceNeg, Nat.reduceAdd, Nat.reduceMul, Nat.reducePow, Int.reduceLT, Int.reduceLE, Int.reduceEq, Nat.reduceEqDiff, gF, e15, e1, e9, e14, e16, e64, e65, e66, e71, e72, e73]
      have nw : ∀ j, j < i → (rws.set i (.slice (h5.size + 1 + 11) 0 (i + 1) (.unk 0))).getD j .nilslice = rws.getD j .nilslice := fun j hj => by simp [List.getD_eq_getElem?_getD, List.getElem?_set, show ¬ i = j by omega]
      have ne' : (rws.set i (.slice (h5.size + 1 + 11) 0 (i + 1) (.unk 0))).getD i .nilslice = .slice (h5.size + 1 + 11) 0 (i + 1) (.unk 0) := by simp [List.getD_eq_getElem?_getD, List.getElem?_set, show i < rws.length by omega]
      refine ⟨_, ⟨i + 1, rws.set i (.slice (h5.size + 1 + 11) 0 (i + 1) (.unk 0)), get_put_eq rfl (by rw [zF]; omega), by simp [hrl], (bF _).put (Nat.le_refl _) _, by rw [zF]; omega, (oF _ _ z5 n16).trans g16, by rw [ne']; simp only [AV.ids, List.mem_singleton]; omega, fun j hj => ?_, ?_, by rw [ne']; simp only [AV.ids, List.mem_singleton]; omega, fun j hj hj2 => ?_, by simp, by omega, rfl⟩, by omega⟩
      ·rw [nw j hj, ne']
       obtain ⟨B, nb, dj⟩ := hrow j hj
       rw [← hrid] at dj
       refine ⟨Grw.move B ((bF _).put (Nat.le_refl _) _) (fun x hx => ?_), nb, fun x hx hy => ?_⟩
       ·have xl := (Grw.ids_lt B x hx).2
        exact (get_put_ne (fun (e : x = h2.size) => nb (by rw [← e]; exact hx))).trans (oF _ x xl (dj x hx))
       ·have xl := (Grw.ids_lt B x hx).2
        simp only [AV.ids, List.mem_singleton] at hy
        omega
      ·rw [ne']
       exact grwI_mk ((bF _).put (Nat.le_refl _) _) (by omega) ⟨(tabRow_length _ _ _ _ _).symm, by rw [tabRow_length]; omega⟩ ((get_put_ne (by omega)).trans (rF _))
      ·rw [List.getElem?_set, if_neg (by omega)]
       exact hnil j hj hj2
     ·have cik' : ¬ ((i : Nat) : Int) = (k : Nat) := by omega
      have sx := tabRow_succ d q ps i k
      rw [if_neg cik] at sx
      have sl := tabRow_length d q ps i k
      simp -implicitDefEqProofs (disch := first | assumption | decide | omega | (simp only [wpD1] <;> omega) | (simp only [wpD2] <;> assumption) | solve_by_elim [zR, zP, zV] | fail) only [↓wpPre, wpPost, wpPoly, Int.reduceToNat, Int.reducePow, Int.reduceMul, Int.reduceAdd, Int.reduceSub, Int.reduceNeg, Nat.reduceAdd, Nat.reduceMul, Nat.reducePow, Int.reduceLT, Int.reduceLE, Int.reduceEq, Nat.reduceEqDiff, e1, e14, e15, e16, e71, e73, ixk, ldk, gO, rget, g16]
      refine ACallsK.hide (fun H hH => ?_)
      have N : H.size = h5.size + 15 := by rw [hH]; simp -implicitDefEqProofs (disch := first | assumption | decide | omega | (simp only [wpD1] <;> omega) | (simp only [wpD2] <;> assumption) | solve_by_elim [zR, zP, zV] | fail) only [↓wpPre, wpPost, wpPoly, Int.reduceToNat, Int.reducePow, Int.reduceMul, Int.reduceAdd, Int.reduceSub, Int.reduceNeg, Nat.reduceAdd, Nat.reduceMul, Nat.reducePow, Int.reduceLT, Int.reduceLE, Int.reduceEq, Nat.reduceEqDiff]
      have gH : ∀ j, j < h5.size → H.get j = h5.get j := by
       intro j hj
       rw [hH, Heap.get_reserve, get_push_lt hj]
      have gN : ∀ j, h5.size + 1 ≤ j → H.get j = none := by
       intro j hj
       rw [hH, Heap.get_reserve]
       exact Heap.wf _ j (by simpa using hj)
      have hs5 : HSub h5 H := ⟨by omega, gH⟩
      clear hH
      have gO6 := (gH _ (by omega)).trans gO
      have gp := great_spec (hC.sub (T' := T183) (by decide)) (o1 := (q : Nat)) (o2 := (q : Nat)) (mg := 0) (h := H) (Ri.mono (s5.trans hs5)) (Rk.mono (s5.trans hs5)) (sampL_one1 _ _ _) (sampL_one1 _ _ _) ⟨by simp only [sz], by rw [sz]; omega, by rw [sz]; omega⟩ (by omega)
      refine ACallsK.eq gp ?_
      have ap := fun b => Grw.appG (H := H.put (h5.size + 1 + 10) b) (k := h5.size + 1 + 11) (m := 1) (bytes := 8) (news := [.int .i64 (greatI (sampL d (ps.getD i 0) q) (sampL d (ps.getD k 0) q) 0)]) hri (fun j hj => by rw [get_put_ne (by have := (Grw.ids_lt hri j hj).2; omega)]; exact gH j (Grw.ids_lt hri j hj).2) ⟨by omega, by simp only [Heap.size_put]; omega⟩ (by decide) (by omega) (by rfl)
      rw [ints_snoc, ← sx, sl] at ap
      have g10 := gN (h5.size + 1 + 10) (by omega)
      have g11 := gN (h5.size + 1 + 11) (by omega)
      simp -implicitDefEqProofs (disch := first | assumption | decide | omega | (simp only [wpD1] <;> omega) | (simp only [wpD2] <;> assumption) | solve_by_elim [zR, zP, zV] | fail) only [↓wpPre, wpPost, wpPoly, Int.reduceToNat, Int.reducePow, Int.reduceMul, Int.reduceAdd, Int.reduceSub, Int.reduceNeg, Nat.reduceAdd, Nat.reduceMul, Nat.reducePow, Int.reduceLT, Int.reduceLE, Int.reduceEq, Nat.reduceEqDiff, g10, g11, cont_slice, contB_one, ap, appK_none, e14]
      refine ⟨gH _ (by omega), ?_⟩
      have gF := fun b => (snocS_ne (H := H.put (h5.size + 1 + 10) b) (k := h5.size + 1 + 11) (v := ri) (sz := 1) (cs := ints (tabRow d q ps i (k + 1))) (j := h2.size) (by omega) nri).trans ((get_put_ne (by omega)).trans gO6)
      have zF := fun b => snocS_size (H := H.put (h5.size + 1 + 10) b) (k := h5.size + 1 + 11) (v := ri) (sz := 1) (cs := ints (tabRow d q ps i (k + 1)))
      have rF := fun b => snocS_same (H := H.put (h5.size + 1 + 10) b) (k := h5.size + 1 + 11) (v := ri) (sz := 1) (cs := ints (tabRow d q ps i (k + 1))) (by simp only [Heap.size_put]; omega)
      have bF := fun b => snocS_sub (H := H.put (h5.size + 1 + 10) b) (k := h5.size + 1 + 11) (ds := ints (tabRow d q ps i (k + 1))) hri ((s5.trans hs5).put (by omega) b) (by omega)
      have oF := fun b (j : Nat) (hj : j < h5.size) (hv : j ∉ ri.ids) => (snocS_ne (H := H.put (h5.size + 1 + 10) b) (k := h5.size + 1 + 11) (v := ri) (sz := 1) (cs := ints (tabRow d q ps i (k + 1))) (j := j) (by omega) hv).trans ((get_put_ne (by omega)).trans (gH j hj))
      simp only [Heap.size_put] at zF
      simp -implicitDefEqProofs (disch := first | assumption | decide | omega | (simp only [wpD1] <;> omega) | (simp only [wpD2] <;> assumption) | solve_by_elim [zR, zP, zV] | fail) only [↓wpPre, wpPost, wpPoly, Int.reduceToNat, Int.reducePow, Int.reduceMul, Int.reduceAdd, Int.reduceSub, Int.reduceNeg, Nat.reduceAdd, Nat.reduceMul, Nat.reducePow, Int.reduceLT, Int.reduceLE, Int.reduceEq, Nat.reduceEqDiff, gF, e15, e1, e9, e14, e16, e64, e65, e66, e71, e72, e73]
      have nw : ∀ j, j < i → (rws.set i (.slice (h5.size + 1 + 11) 0 (k + 1) (.unk 0))).getD j .nilslice = rws.getD j .nilslice := fun j hj => by simp [List.getD_eq_getElem?_getD, List.getElem?_set, show ¬ i = j by omega]
      have ne' : (rws.set i (.slice (h5.size + 1 + 11) 0 (k + 1) (.unk 0))).getD i .nilslice = .slice (h5.size + 1 + 11) 0 (k + 1) (.unk 0) := by simp [List.getD_eq_getElem?_getD, List.getElem?_set, show i < rws.length by omega]
      refine ⟨_, ⟨k + 1, rws.set i (.slice (h5.size + 1 + 11) 0 (k + 1) (.unk 0)), get_put_eq rfl (by rw [zF]; omega), by simp [hrl], (bF _).put (Nat.le_refl _) _, by rw [zF]; omega, (oF _ _ z5 n16).trans g16, by rw [ne']; simp only [AV.ids, List.mem_singleton]; omega, fun j hj => ?_, ?_, by rw [ne']; simp only [AV.ids, List.mem_singleton]; omega, fun j hj hj2 => ?_, by simp, by omega, rfl⟩, by omega⟩
      ·rw [nw j hj, ne']
       obtain ⟨B, nb, dj⟩ := hrow j hj
       rw [← hrid] at dj
       refine ⟨Grw.move B ((bF _).put (Nat.le_refl _) _) (fun x hx => ?_), nb, fun x hx hy => ?_⟩
       ·have xl := (Grw.ids_lt B x hx).2
        exact (get_put_ne (fun (e : x = h2.size) => nb (by rw [← e]; exact hx))).trans (oF _ x xl (dj x hx))
       ·have xl := (Grw.ids_lt B x hx).2
        simp only [AV.ids, List.mem_singleton] at hy
        omega
      ·rw [ne']
       exact grwI_mk ((bF _).put (Nat.le_refl _) _) (by omega) ⟨(tabRow_length _ _ _ _ _).symm, by rw [tabRow_length]; omega⟩ ((get_put_ne (by omega)).trans (rF _))
      ·rw [List.getElem?_set, if_neg (by omega)]
       exact hnil j hj hj2
    ·have ek : k = ps.length := by omega
     subst ek
     simp -implicitDefEqProofs (disch := first | assumption | decide | omega | (simp only [wpD1] <;> omega) | (simp only [wpD2] <;> assumption) | solve_by_elim [zR, zP, zV] | fail) only [↓wpPre, wpPost, wpPoly, Int.reduceToNat, Int.reducePow, Int.reduceMul, Int.reduceAdd, Int.reduceSub, Int.reduceNeg, Nat.reduceAdd, Nat.reduceMul, Nat.reducePow, Int.reduceLT, Int.reduceLE, Int.reduceEq, Nat.reduceEqDiff, e1, e9, e14, e64, e65, e66]
     refine ⟨_, ⟨i + 1, rws, gO, hrl, s5, by omega, fun j hj => ?_, fun j hj hj2 => hnil j (by omega) hj2, by simp, by omega, rfl⟩, by omega⟩
     rcases Nat.lt_or_ge j i with x | x
     ·exact ⟨(hrow j x).1, (hrow j x).2.1⟩
     ·have : j = i := by omega
      subst this
      exact ⟨hri, nri⟩
   ·have ei : i = ps.length := by omega
    subst ei
    have tl : (tblL d q ps).length = ps.length := by simp [tblL]
    simp -implicitDefEqProofs (disch := first | assumption | decide | omega | (simp only [wpD1] <;> omega) | (simp only [wpD2] <;> assumption) | solve_by_elim [zR, zP, zV] | fail) only [↓wpPre, wpPost, wpPoly, Int.reduceToNat, Int.reducePow, Int.reduceMul, Int.reduceAdd, Int.reduceSub, Int.reduceNeg, Nat.reduceAdd, Nat.reduceMul, Nat.reducePow, Int.reduceLT, Int.reduceLE, Int.reduceEq, Nat.reduceEqDiff, e14]
    refine fin3 _ _ (A.sub.trans s4) ⟨rows, ⟨by rw [tl, Nat.mul_one]; exact hrl, by rw [tl]; omega, .inr ⟨h2.size, 0, .known ps.length, rows, true, 0, by rw [tl], gO, by rw [tl]; omega, by rw [tl]; exact cut_all (by omega), by rw [tl]; exact Nat.le_refl _⟩⟩, by rw [tl]; exact hrl, fun j hj => ?_⟩
    have hj' : j < ps.length := by simpa [tblL] using hj
    have e : (tblL d q ps).getD j [] = tabRow d q ps j ps.length := by simp [tblL, hj']
    rw [e]
    exact (hrow j hj').1.ri
 ·have pe : tabErr d o ps = 2 := by unfold tabErr; rw [if_pos ck]
  have ck2 : knownErr d o = 2 := by unfold knownErr at ck ⊢; split at ck <;> first | exact absurd rfl ck | (rename_i h; rw [if_neg h])
  (refine calls_intro (hC.body (by decide) tab172) (Nat.le_of_ble_eq_true rfl) ?_); (show wp C _ none B172.code _ _); (simp only [B172]); simp -implicitDefEqProofs (disch := first | assumption | decide | omega | (simp only [wpD1] <;> omega) | (simp only [wpD2] <;> assumption) | solve_by_elim [zR, zP, zV] | fail) only [↓wpPre, wpPost, wpPoly, Int.reduceToNat, Int.reducePow, Int.reduceMul, Int.reduceAdd, Int.reduceSub, Int.reduceNeg, Nat.reduceAdd, Nat.reduceMul, Nat.reducePow, Int.reduceLT, Int.reduceLE, Int.reduceEq, Nat.reduceEqDiff]
  refine ACallsK.eq (known09_spec (hC.sub (T' := T150) (by decide)) hd ho) ?_
  rw [ck2]
  simp -implicitDefEqProofs (disch := first | assumption | decide | omega | (simp only [wpD1] <;> omega) | (simp only [wpD2] <;> assumption) | solve_by_elim [zR, zP, zV] | fail) only [↓wpPre, wpPost, wpPoly, Int.reduceToNat, Int.reducePow, Int.reduceMul, Int.reduceAdd, Int.reduceSub, Int.reduceNeg, Nat.reduceAdd, Nat.reduceMul, Nat.reducePow, Int.reduceLT, Int.reduceLE, Int.reduceEq, Nat.reduceEqDiff]
  exact fin _ _ (HSub.refl _) pe (by decide)
end
end Go.Ae
/- The rules of the simplifier for maps. -/
namespace Go.Ae
def lookB (ks : AKey) (z : AV) (comma : Bool) (k : AV) : Option ABlk → Option AV
 | some (.map es) => if (keyEq ks k k).isSome = true then (findA ks k es 0).map (giveA z comma) else none
 | _ => none
def updB (h : Heap) (i : Nat) (ks : AKey) (k v : AV) : Option ABlk → Option Heap
 | some (.map es) => if (keyEq ks k k).isSome = true then (setA ks k v es).map fun es' => h.put i (.map es') else none
 | _ => none
def newMapA (nid : Option Nat) (h : Heap) : Option (AV × Heap) := if h.room nid = true then some (.map (h.nid nid), h.new nid (.map [])) else none
theorem opR_lookup {nid : Option Nat} {ev : AOpd → AV} {h : Heap} {K : AV → Heap → Prop} {ks : AKey} {z : AV} {comma : Bool} {m k : AOpd} : @opR nid (.lookup ks z comma m k) ev h ⟨K⟩ = @opt1 (lookA h ks z comma (ev m) (ev k)) h ⟨K⟩ := by
 simp only [opR, aOp, pureA, opt1]; cases lookA h ks z comma (ev m) (ev k) <;> rfl
theorem opR_mapUpd {nid : Option Nat} {ev : AOpd → AV} {h : Heap} {K : AV → Heap → Prop} {ks : AKey} {m k v : AOpd} : @opR nid (.mapUpd ks m k v) ev h ⟨K⟩ = @opt2 (storeOA (mapUpdA h ks (ev m) (ev k) (ev v))) ⟨K⟩ := by
 simp only [opR, aOp, opt2]; cases mapUpdA h ks (ev m) (ev k) (ev v) <;> rfl
theorem opR_makeMap {nid : Option Nat} {ev : AOpd → AV} {h : Heap} {K : AV → Heap → Prop} : @opR nid .makeMap ev h ⟨K⟩ = @opt2 (newMapA nid h) ⟨K⟩ := by
 simp only [opR, aOp, opt2, newMapA]; split <;> simp_all
theorem newMap_some {n : Nat} {h : Heap} : newMapA (some n) h = kept n h (h.get n) (fun n _ p => some (.map n, p (.map []))) := by
 simp only [newMapA, room_some, kept]
 cases hg : h.get n with
 | none => by_cases hn : n < h.size <;> simp [hn, Heap.nid, Heap.new]
 | some b => simp
theorem look_map {h : Heap} {ks : AKey} {z : AV} {comma : Bool} {i : Nat} {k : AV} : lookA h ks z comma (.map i) k = lookB ks z comma k (h.get i) := by
 unfold lookA lookB; dsimp only; cases h.get i with
 | none => rfl
 | some b => cases b <;> rfl
theorem upd_map {h : Heap} {ks : AKey} {i : Nat} {k v : AV} : mapUpdA h ks (.map i) k v = updB h i ks k v (h.get i) := by
 unfold mapUpdA updB; dsimp only; cases h.get i with
 | none => rfl
 | some b => cases b <;> rfl
theorem wpMap :
  (∀ {ks : AKey} {z : AV} {c : Bool} {m k : AOpd} {ev : AOpd → AV} {n : Nat}, footA (.lookup ks z c m k) ev n = (ev m).ids) ∧
  (∀ {ks : AKey} {z : AV} {c : Bool} {m k : AOpd} {ev : AOpd → AV} {n : Nat}, wrA (.lookup ks z c m k) ev n = []) ∧
  (∀ {ks : AKey} {m k v : AOpd} {ev : AOpd → AV} {n : Nat}, footA (.mapUpd ks m k v) ev n = (ev m).ids) ∧
  (∀ {ks : AKey} {m k v : AOpd} {ev : AOpd → AV} {n : Nat}, wrA (.mapUpd ks m k v) ev n = (ev m).ids) ∧
  (∀ {ev : AOpd → AV} {n : Nat}, footA .makeMap ev n = [n]) ∧ (∀ {ev : AOpd → AV} {n : Nat}, wrA .makeMap ev n = [n]) ∧
  (∀ {i : Nat}, AV.ids (.map i) = [i]) ∧ (∀ {i : Nat}, AV.cells (.map i) = [.map i]) ∧ (AV.cells .nilmap = [.nilmap]) ∧
  (∀ {i : Nat}, AV.one (.map i) = true) ∧ (AV.one .nilmap = true) ∧
  (∀ {nid : Option Nat} {ev : AOpd → AV} {h : Heap} {K : AV → Heap → Prop} {ks : AKey} {z : AV} {comma : Bool} {m k : AOpd}, @opR nid (.lookup ks z comma m k) ev h ⟨K⟩ = @opt1 (lookA h ks z comma (ev m) (ev k)) h ⟨K⟩) ∧
  (∀ {nid : Option Nat} {ev : AOpd → AV} {h : Heap} {K : AV → Heap → Prop} {ks : AKey} {m k v : AOpd}, @opR nid (.mapUpd ks m k v) ev h ⟨K⟩ = @opt2 (storeOA (mapUpdA h ks (ev m) (ev k) (ev v))) ⟨K⟩) ∧
  (∀ {nid : Option Nat} {ev : AOpd → AV} {h : Heap} {K : AV → Heap → Prop}, @opR nid .makeMap ev h ⟨K⟩ = @opt2 (newMapA nid h) ⟨K⟩) ∧
  (∀ {h : Heap}, newMapA none h = some (.map h.size, h.push (.map []))) ∧
  (∀ {n : Nat} {h : Heap}, newMapA (some n) h = kept n h (h.get n) (fun n _ p => some (.map n, p (.map [])))) ∧
  (∀ {h : Heap} {ks : AKey} {z : AV} {comma : Bool} {i : Nat} {k : AV}, lookA h ks z comma (.map i) k = lookB ks z comma k (h.get i)) ∧
  (∀ {h : Heap} {ks : AKey} {i : Nat} {k v : AV}, mapUpdA h ks (.map i) k v = updB h i ks k v (h.get i)) ∧
  (∀ {z : List AV} {o i : Nat} {rest : List (Nat × Nat × AV)}, o < z.length → fillA z ((o, 1, .map i) :: rest) = fillA (z.set o (.map i)) rest) ∧
  (∀ {z : List AV} {o : Nat} {rest : List (Nat × Nat × AV)}, o < z.length → fillA z ((o, 1, .nilmap) :: rest) = fillA (z.set o .nilmap) rest) :=
 ⟨rfl, rfl, rfl, rfl, rfl, rfl, rfl, rfl, rfl, rfl, rfl, opR_lookup, opR_mapUpd, opR_makeMap, rfl, newMap_some, look_map, upd_map, fun ho => fill_one rfl ho, fun ho => fill_one rfl ho⟩
end Go.Ae
/- Gains and plans are checked; the coarseness; both. -/
set_option linter.unusedSimpArgs false
set_option linter.unusedVariables false
namespace Go.Ae
def gErr (b s : Int) : Int := if 2 ≤ b ∧ b ≤ 8 ∧ 0 ≤ s ∧ s ≤ 30 then 0 else 2
def gA (b s : Int) : AV := .agg [.int .i64 b, .int .i64 s]
def coarI (s : Int) : Int := 2 ^ s.toNat / 2
theorem gErr_ok {b s : Int} (h : gErr b s = 0) : 2 ≤ b ∧ b ≤ 8 ∧ 0 ≤ s ∧ s ≤ 30 := by
 unfold gErr at h
 split at h
 ·assumption
 ·cases h
theorem gErr_cases (b s : Int) : gErr b s = 0 ∨ gErr b s = 2 := by unfold gErr; split <;> simp
theorem pow_30 {s : Int} (h : 0 ≤ s ∧ s ≤ 30) : 1 ≤ (2 : Int) ^ s.toNat ∧ (2 : Int) ^ s.toNat ≤ 1073741824 := by
 obtain ⟨k, rfl⟩ := Int.eq_ofNat_of_zero_le h.1
 rw [Int.toNat_natCast]
 have e : (2 : Int) ^ k = ((2 ^ k : Nat) : Int) := by rw [Int.natCast_pow]; rfl
 have h1 : (2 : Nat) ^ k ≤ 2 ^ 30 := Nat.pow_le_pow_right (by decide) (by omega)
 have h2 : 1 ≤ (2 : Nat) ^ k := Nat.one_le_two_pow
 have h3 : (2 : Nat) ^ 30 = 1073741824 := by decide
 rw [e]
 generalize (2 : Nat) ^ k = q at *
 omega
section
variable {C : Ctx}
theorem qCheck_spec (hC : Has C T357) {b s : Int} {h : Heap} : ACalls C 357 [gA b s] h (fun r h' => r = .int .i64 (gErr b s) ∧ h' = h) := by
 refine ACalls.gc0 (P := fun r h' => r = .int .i64 (gErr b s) ∧ HSub h h') ?_ (fun r h' hp => ⟨by rw [hp.1]; trivial, hp.2, hp.1, rfl⟩)
 unfold gErr gA
 by_cases c1 : b < 2
 ·rw [if_neg (by omega)]
  (refine calls_intro (hC.body (by decide) tab357) (Nat.le_of_ble_eq_true rfl) ?_); (show wp C _ none B357.code _ _); (simp only [B357]); simp -implicitDefEqProofs (disch := first | assumption | decide | omega | (simp only [wpD1] <;> omega) | (simp only [wpD2] <;> assumption) | solve_by_elim [zR, zP, zV] | fail) only [↓wpPre, wpPost, wpPoly, Int.reduceToNat, Int.reducePow, Int.reduceMul, Int.reduceAdd, Int.reduceSub, Int.reduceNeg, Nat.reduceAdd, Nat.reduceMul, Nat.reducePow, Int.reduceLT, Int.reduceLE, Int.reduceEq, Nat.reduceEqDiff, c1, gV_u]
  exact HSub.push1 _ _
 by_cases c2 : 8 < b
 ·rw [if_neg (by omega)]
  (refine calls_intro (hC.body (by decide) tab357) (Nat.le_of_ble_eq_true rfl) ?_); (show wp C _ none B357.code _ _); (simp only [B357]); simp -implicitDefEqProofs (disch := first | assumption | decide | omega | (simp only [wpD1] <;> omega) | (simp only [wpD2] <;> assumption) | solve_by_elim [zR, zP, zV] | fail) only [↓wpPre, wpPost, wpPoly, Int.reduceToNat, Int.reducePow, Int.reduceMul, Int.reduceAdd, Int.reduceSub, Int.reduceNeg, Nat.reduceAdd, Nat.reduceMul, Nat.reducePow, Int.reduceLT, Int.reduceLE, Int.reduceEq, Nat.reduceEqDiff, c1, c2, gV_u]
  exact HSub.push1 _ _
 by_cases c3 : s < 0
 ·rw [if_neg (by omega)]
  (refine calls_intro (hC.body (by decide) tab357) (Nat.le_of_ble_eq_true rfl) ?_); (show wp C _ none B357.code _ _); (simp only [B357]); simp -implicitDefEqProofs (disch := first | assumption | decide | omega | (simp only [wpD1] <;> omega) | (simp only [wpD2] <;> assumption) | solve_by_elim [zR, zP, zV] | fail) only [↓wpPre, wpPost, wpPoly, Int.reduceToNat, Int.reducePow, Int.reduceMul, Int.reduceAdd, Int.reduceSub, Int.reduceNeg, Nat.reduceAdd, Nat.reduceMul, Nat.reducePow, Int.reduceLT, Int.reduceLE, Int.reduceEq, Nat.reduceEqDiff, c1, c2, c3, gV_u]
  exact HSub.push1 _ _
 by_cases c4 : 30 < s
 ·rw [if_neg (by omega)]
  (refine calls_intro (hC.body (by decide) tab357) (Nat.le_of_ble_eq_true rfl) ?_); (show wp C _ none B357.code _ _); (simp only [B357]); simp -implicitDefEqProofs (disch := first | assumption | decide | omega | (simp only [wpD1] <;> omega) | (simp only [wpD2] <;> assumption) | solve_by_elim [zR, zP, zV] | fail) only [↓wpPre, wpPost, wpPoly, Int.reduceToNat, Int.reducePow, Int.reduceMul, Int.reduceAdd, Int.reduceSub, Int.reduceNeg, Nat.reduceAdd, Nat.reduceMul, Nat.reducePow, Int.reduceLT, Int.reduceLE, Int.reduceEq, Nat.reduceEqDiff, c1, c2, c3, c4, gV_u]
  exact HSub.push1 _ _
 rw [if_pos (by omega)]
 (refine calls_intro (hC.body (by decide) tab357) (Nat.le_of_ble_eq_true rfl) ?_); (show wp C _ none B357.code _ _); (simp only [B357]); simp -implicitDefEqProofs (disch := first | assumption | decide | omega | (simp only [wpD1] <;> omega) | (simp only [wpD2] <;> assumption) | solve_by_elim [zR, zP, zV] | fail) only [↓wpPre, wpPost, wpPoly, Int.reduceToNat, Int.reducePow, Int.reduceMul, Int.reduceAdd, Int.reduceSub, Int.reduceNeg, Nat.reduceAdd, Nat.reduceMul, Nat.reducePow, Int.reduceLT, Int.reduceLE, Int.reduceEq, Nat.reduceEqDiff, c1, c2, c3, c4, gV_u]
 exact HSub.push1 _ _
theorem rCheck_spec (hC : Has C T352) {b s : Int} {h : Heap} : ACalls C 352 [gA b s] h (fun r h' => r = .int .i64 (gErr b s) ∧ h' = h) := by
 refine ACalls.gc0 (P := fun r h' => r = .int .i64 (gErr b s) ∧ HSub h h') ?_ (fun r h' hp => ⟨by rw [hp.1]; trivial, hp.2, hp.1, rfl⟩)
 unfold gErr gA
 by_cases c1 : b < 2
 ·rw [if_neg (by omega)]
  (refine calls_intro (hC.body (by decide) tab352) (Nat.le_of_ble_eq_true rfl) ?_); (show wp C _ none B352.code _ _); (simp only [B352]); simp -implicitDefEqProofs (disch := first | assumption | decide | omega | (simp only [wpD1] <;> omega) | (simp only [wpD2] <;> assumption) | solve_by_elim [zR, zP, zV] | fail) only [↓wpPre, wpPost, wpPoly, Int.reduceToNat, Int.reducePow, Int.reduceMul, Int.reduceAdd, Int.reduceSub, Int.reduceNeg, Nat.reduceAdd, Nat.reduceMul, Nat.reducePow, Int.reduceLT, Int.reduceLE, Int.reduceEq, Nat.reduceEqDiff, c1, gV_u]
  exact HSub.push1 _ _
 by_cases c2 : 8 < b
 ·rw [if_neg (by omega)]
  (refine calls_intro (hC.body (by decide) tab352) (Nat.le_of_ble_eq_true rfl) ?_); (show wp C _ none B352.code _ _); (simp only [B352]); simp -implicitDefEqProofs (disch := first | assumption | decide | omega | (simp only [wpD1] <;> omega) | (simp only [wpD2] <;> assumption) | solve_by_elim [zR, zP, zV] | fail) only [↓wpPre, wpPost, wpPoly, Int.reduceToNat, Int.reducePow, Int.reduceMul, Int.reduceAdd, Int.reduceSub, Int.reduceNeg, Nat.reduceAdd, Nat.reduceMul, Nat.reducePow, Int.reduceLT, Int.reduceLE, Int.reduceEq, Nat.reduceEqDiff, c1, c2, gV_u]
  exact HSub.push1 _ _
 by_cases c3 : s < 0
 ·rw [if_neg (by omega)]
  (refine calls_intro (hC.body (by decide) tab352) (Nat.le_of_ble_eq_true rfl) ?_); (show wp C _ none B352.code _ _); (simp only [B352]); simp -implicitDefEqProofs (disch := first | assumption | decide | omega | (simp only [wpD1] <;> omega) | (simp only [wpD2] <;> assumption) | solve_by_elim [zR, zP, zV] | fail) only [↓wpPre, wpPost, wpPoly, Int.reduceToNat, Int.reducePow, Int.reduceMul, Int.reduceAdd, Int.reduceSub, Int.reduceNeg, Nat.reduceAdd, Nat.reduceMul, Nat.reducePow, Int.reduceLT, Int.reduceLE, Int.reduceEq, Nat.reduceEqDiff, c1, c2, c3, gV_u]
  exact HSub.push1 _ _
 by_cases c4 : 30 < s
 ·rw [if_neg (by omega)]
  (refine calls_intro (hC.body (by decide) tab352) (Nat.le_of_ble_eq_true rfl) ?_); (show wp C _ none B352.code _ _); (simp only [B352]); simp -implicitDefEqProofs (disch := first | assumption | decide | omega | (simp only [wpD1] <;> omega) | (simp only [wpD2] <;> assumption) | solve_by_elim [zR, zP, zV] | fail) only [↓wpPre, wpPost, wpPoly, Int.reduceToNat, Int.reducePow, Int.reduceMul, Int.reduceAdd, Int.reduceSub, Int.reduceNeg, Nat.reduceAdd, Nat.reduceMul, Nat.reducePow, Int.reduceLT, Int.reduceLE, Int.reduceEq, Nat.reduceEqDiff, c1, c2, c3, c4, gV_u]
  exact HSub.push1 _ _
 rw [if_pos (by omega)]
 (refine calls_intro (hC.body (by decide) tab352) (Nat.le_of_ble_eq_true rfl) ?_); (show wp C _ none B352.code _ _); (simp only [B352]); simp -implicitDefEqProofs (disch := first | assumption | decide | omega | (simp only [wpD1] <;> omega) | (simp only [wpD2] <;> assumption) | solve_by_elim [zR, zP, zV] | fail) only [↓wpPre, wpPost, wpPoly, Int.reduceToNat, Int.reducePow, Int.reduceMul, Int.reduceAdd, Int.reduceSub, Int.reduceNeg, Nat.reduceAdd, Nat.reduceMul, Nat.reducePow, Int.reduceLT, Int.reduceLE, Int.reduceEq, Nat.reduceEqDiff, c1, c2, c3, c4, gV_u]
 exact HSub.push1 _ _
def coarE (b s : Int) : AV := if gErr b s = 0 then tup2 (coarI s) 0 else tup2 0 2
theorem qCoarse_spec (hC : Has C T351) {b s : Int} {h : Heap} : ACalls C 351 [gA b s] h (fun r h' => r = coarE b s ∧ h' = h) := by
 refine ACalls.gc0 (P := fun r h' => r = coarE b s ∧ HSub h h') ?_ (fun r h' hp => ⟨by rw [hp.1]; unfold coarE tup2; split <;> exact ⟨trivial, trivial, trivial⟩, hp.2, hp.1, rfl⟩)
 have kc := fun h => qCheck_spec (b := b) (s := s) (h := h) (hC.sub (T' := T357) (by decide))
 unfold coarE coarI
 unfold gA at kc ⊢
 rcases gErr_cases b s with c | c
 ·rw [if_pos c]
  have g := gErr_ok c
  have p := pow_30 g.2.2
  rw [c] at kc
  generalize hP : (2 : Int) ^ s.toNat = P at *
  (refine calls_intro (hC.body (by decide) tab351) (Nat.le_of_ble_eq_true rfl) ?_); (show wp C _ none B351.code _ _); (simp only [B351]); simp -implicitDefEqProofs (disch := first | assumption | decide | omega | (simp only [wpD1] <;> omega) | (simp only [wpD2] <;> assumption) | solve_by_elim [zR, zP, zV] | fail) only [↓wpPre, wpPost, wpPoly, Int.reduceToNat, Int.reducePow, Int.reduceMul, Int.reduceAdd, Int.reduceSub, Int.reduceNeg, Nat.reduceAdd, Nat.reduceMul, Nat.reducePow, Int.reduceLT, Int.reduceLE, Int.reduceEq, Nat.reduceEqDiff]
  refine ACallsK.eq (kc _) ?_
  simp -implicitDefEqProofs (disch := first | assumption | decide | omega | (simp only [wpD1] <;> omega) | (simp only [wpD2] <;> assumption) | solve_by_elim [zR, zP, zV] | fail) only [↓wpPre, wpPost, wpPoly, Int.reduceToNat, Int.reducePow, Int.reduceMul, Int.reduceAdd, Int.reduceSub, Int.reduceNeg, Nat.reduceAdd, Nat.reduceMul, Nat.reducePow, Int.reduceLT, Int.reduceLE, Int.reduceEq, Nat.reduceEqDiff]
  rw [hP, Int.one_mul]
  exact ⟨rfl, HSub.push1 _ _⟩
 ·rw [if_neg (by omega)]
  rw [c] at kc
  (refine calls_intro (hC.body (by decide) tab351) (Nat.le_of_ble_eq_true rfl) ?_); (show wp C _ none B351.code _ _); (simp only [B351]); simp -implicitDefEqProofs (disch := first | assumption | decide | omega | (simp only [wpD1] <;> omega) | (simp only [wpD2] <;> assumption) | solve_by_elim [zR, zP, zV] | fail) only [↓wpPre, wpPost, wpPoly, Int.reduceToNat, Int.reducePow, Int.reduceMul, Int.reduceAdd, Int.reduceSub, Int.reduceNeg, Nat.reduceAdd, Nat.reduceMul, Nat.reducePow, Int.reduceLT, Int.reduceLE, Int.reduceEq, Nat.reduceEqDiff]
  refine ACallsK.eq (kc _) ?_
  simp -implicitDefEqProofs (disch := first | assumption | decide | omega | (simp only [wpD1] <;> omega) | (simp only [wpD2] <;> assumption) | solve_by_elim [zR, zP, zV] | fail) only [↓wpPre, wpPost, wpPoly, Int.reduceToNat, Int.reducePow, Int.reduceMul, Int.reduceAdd, Int.reduceSub, Int.reduceNeg, Nat.reduceAdd, Nat.reduceMul, Nat.reducePow, Int.reduceLT, Int.reduceLE, Int.reduceEq, Nat.reduceEqDiff]
  exact ⟨rfl, HSub.push1 _ _⟩
theorem rCoarse_spec (hC : Has C T348) {b s : Int} {h : Heap} : ACalls C 348 [gA b s] h (fun r h' => r = coarE b s ∧ h' = h) := by
 refine ACalls.gc0 (P := fun r h' => r = coarE b s ∧ HSub h h') ?_ (fun r h' hp => ⟨by rw [hp.1]; unfold coarE tup2; split <;> exact ⟨trivial, trivial, trivial⟩, hp.2, hp.1, rfl⟩)
 have kc := fun h => rCheck_spec (b := b) (s := s) (h := h) (hC.sub (T' := T352) (by decide))
 unfold coarE coarI
 unfold gA at kc ⊢
 rcases gErr_cases b s with c | c
 ·rw [if_pos c]
  have g := gErr_ok c
  have p := pow_30 g.2.2
  rw [c] at kc
  generalize hP : (2 : Int) ^ s.toNat = P at *
  (refine calls_intro (hC.body (by decide) tab348) (Nat.le_of_ble_eq_true rfl) ?_); (show wp C _ none B348.code _ _); (simp only [B348]); simp -implicitDefEqProofs (disch := first | assumption | decide | omega | (simp only [wpD1] <;> omega) | (simp only [wpD2] <;> assumption) | solve_by_elim [zR, zP, zV] | fail) only [↓wpPre, wpPost, wpPoly, Int.reduceToNat, Int.reducePow, Int.reduceMul, Int.reduceAdd, Int.reduceSub, Int.reduceNeg, Nat.reduceAdd, Nat.reduceMul, Nat.reducePow, Int.reduceLT, Int.reduceLE, Int.reduceEq, Nat.reduceEqDiff]
  refine ACallsK.eq (kc _) ?_
  simp -implicitDefEqProofs (disch := first | assumption | decide | omega | (simp only [wpD1] <;> omega) | (simp only [wpD2] <;> assumption) | solve_by_elim [zR, zP, zV] | fail) only [↓wpPre, wpPost, wpPoly, Int.reduceToNat, Int.reducePow, Int.reduceMul, Int.reduceAdd, Int.reduceSub, Int.reduceNeg, Nat.reduceAdd, Nat.reduceMul, Nat.reducePow, Int.reduceLT, Int.reduceLE, Int.reduceEq, Nat.reduceEqDiff]
  rw [hP, Int.one_mul]
  exact ⟨rfl, HSub.push1 _ _⟩
 ·rw [if_neg (by omega)]
  rw [c] at kc
  (refine calls_intro (hC.body (by decide) tab348) (Nat.le_of_ble_eq_true rfl) ?_); (show wp C _ none B348.code _ _); (simp only [B348]); simp -implicitDefEqProofs (disch := first | assumption | decide | omega | (simp only [wpD1] <;> omega) | (simp only [wpD2] <;> assumption) | solve_by_elim [zR, zP, zV] | fail) only [↓wpPre, wpPost, wpPoly, Int.reduceToNat, Int.reducePow, Int.reduceMul, Int.reduceAdd, Int.reduceSub, Int.reduceNeg, Nat.reduceAdd, Nat.reduceMul, Nat.reducePow, Int.reduceLT, Int.reduceLE, Int.reduceEq, Nat.reduceEqDiff]
  refine ACallsK.eq (kc _) ?_
  simp -implicitDefEqProofs (disch := first | assumption | decide | omega | (simp only [wpD1] <;> omega) | (simp only [wpD2] <;> assumption) | solve_by_elim [zR, zP, zV] | fail) only [↓wpPre, wpPost, wpPoly, Int.reduceToNat, Int.reducePow, Int.reduceMul, Int.reduceAdd, Int.reduceSub, Int.reduceNeg, Nat.reduceAdd, Nat.reduceMul, Nat.reducePow, Int.reduceLT, Int.reduceLE, Int.reduceEq, Nat.reduceEqDiff]
  exact ⟨rfl, HSub.push1 _ _⟩
end
end Go.Ae
/- Maps from pairs of numbers, in plain lists; plans without errors have tables without errors. -/
set_option linter.unusedSimpArgs false
set_option linter.unusedVariables false
namespace Go.Ae
abbrev keyP (x y : Int) : AV := .agg [.int .i64 x, .int .i64 y]
abbrev ksP : AKey := .struct [(0, false), (1, false)]
def ents (f : Int → Int → Int) (K : List (Int × Int)) : List (AV × AV) := K.map fun t => (keyP t.1 t.2, .int .i64 (f t.1 t.2))
theorem keyP_eq (x y a b : Int) : keyEq ksP (keyP x y) (keyP a b) = some (x == a && (y == b && true)) := by
 simp [keyEq, eqCells]
theorem find_in {f : Int → Int → Int} {x y : Int} : ∀ {K : List (Int × Int)} {s : Nat}, (x, y) ∈ K → ∃ j, findA ksP (keyP x y) (ents f K) s = some (some (j, .int .i64 (f x y)))
 | [], s, h => by cases h
 | (a, b) :: K, s, h => by
  simp only [ents, List.map_cons, findA, keyP_eq]
  by_cases c : x = a ∧ y = b
  ·obtain ⟨rfl, rfl⟩ := c
   exact ⟨s, by simp⟩
  ·have e : (x == a && (y == b && true)) = false := by
    rcases Classical.em (x = a) with q | q
    ·subst q
     have : ¬ y = b := fun e => c ⟨rfl, e⟩
     simp [this]
    ·simp [q]
   rw [e]
   have h' : (x, y) ∈ K := by
    rcases List.mem_cons.1 h with q | q
    ·cases q; exact absurd ⟨rfl, rfl⟩ c
    ·exact q
   exact find_in h'
theorem find_out {f : Int → Int → Int} {x y : Int} : ∀ {K : List (Int × Int)} {s : Nat}, (x, y) ∉ K → findA ksP (keyP x y) (ents f K) s = some none
 | [], s, h => rfl
 | (a, b) :: K, s, h => by
  simp only [ents, List.map_cons, findA, keyP_eq]
  simp only [List.mem_cons, Prod.mk.injEq, not_or] at h
  have e : (x == a && (y == b && true)) = false := by
   rcases Classical.em (x = a) with q | q
   ·subst q
    have : ¬ y = b := fun e => h.1 ⟨rfl, e⟩
    simp [this]
   ·simp [q]
  rw [e]
  exact find_out h.2
theorem look_in {f : Int → Int → Int} {x y : Int} {K : List (Int × Int)} {z : AV} (h : (x, y) ∈ K) : lookB ksP z false (keyP x y) (some (.map (ents f K))) = some (.int .i64 (f x y)) := by
 obtain ⟨j, e⟩ := find_in (f := f) (s := 0) h
 simp only [lookB, keyP_eq, Option.isSome_some, if_true, e, Option.map_some, giveA]
 rfl
theorem look_in2 {f : Int → Int → Int} {x y : Int} {K : List (Int × Int)} {z : AV} (h : (x, y) ∈ K) : lookB ksP z true (keyP x y) (some (.map (ents f K))) = some (.tuple [.int .i64 (f x y), .bool true]) := by
 obtain ⟨j, e⟩ := find_in (f := f) (s := 0) h
 simp only [lookB, keyP_eq, Option.isSome_some, if_true, e, Option.map_some, giveA]
theorem look_out2 {f : Int → Int → Int} {x y : Int} {K : List (Int × Int)} {z : AV} (h : (x, y) ∉ K) : lookB ksP z true (keyP x y) (some (.map (ents f K))) = some (.tuple [z, .bool false]) := by
 simp only [lookB, keyP_eq, Option.isSome_some, if_true, find_out h, Option.map_some, giveA]
theorem upd_out {f : Int → Int → Int} {x y : Int} {K : List (Int × Int)} {h : Heap} {i : Nat} (hk : (x, y) ∉ K) : updB h i ksP (keyP x y) (.int .i64 (f x y)) (some (.map (ents f K))) = some (h.put i (.map (ents f (K ++ [(x, y)])))) := by
 simp only [updB, keyP_eq, Option.isSome_some, if_true, setA, find_out hk, Option.map_some]
 simp only [ents, List.map_append, List.map_cons, List.map_nil]
def grid (xs ys : List Int) : List (Int × Int) := xs.flatMap fun a => ys.map fun b => (a, b)
theorem mem_grid {xs ys : List Int} {x y : Int} : (x, y) ∈ grid xs ys ↔ x ∈ xs ∧ y ∈ ys := by
 simp [grid]
def keysTo (ps : List Int) (i k : Nat) : List (Int × Int) := grid (ps.take i) ps ++ (ps.take k).map fun b => (ps.getD i 0, b)
theorem take_one {l : List Int} {k : Nat} (hk : k < l.length) : l.take (k + 1) = l.take k ++ [l.getD k 0] := by
 rw [List.take_succ_eq_append_getElem hk, List.getD_eq_getElem?_getD, List.getElem?_eq_getElem hk]; rfl
theorem keysTo_step {ps : List Int} {i k : Nat} (hk : k < ps.length) : keysTo ps i (k + 1) = keysTo ps i k ++ [(ps.getD i 0, ps.getD k 0)] := by
 simp [keysTo, take_one hk]
theorem keysTo_row {ps : List Int} {i : Nat} (hi : i < ps.length) : keysTo ps i ps.length = keysTo ps (i + 1) 0 := by
 simp [keysTo, take_one hi, grid]
theorem keysTo_end (ps : List Int) : keysTo ps ps.length 0 = grid ps ps := by simp [keysTo]
theorem nodup_get {ps : List Int} (hn : ps.Nodup) {i k : Nat} (hi : i < ps.length) (hk : k < ps.length) (e : ps.getD i 0 = ps.getD k 0) : i = k := by
 rw [List.getD_eq_getElem?_getD, List.getD_eq_getElem?_getD, List.getElem?_eq_getElem hi, List.getElem?_eq_getElem hk, Option.getD_some, Option.getD_some] at e
 have P := List.pairwise_iff_getElem.1 hn
 rcases Nat.lt_trichotomy i k with c | c | c
 ·exact absurd e (P i k hi hk c)
 ·exact c
 ·exact absurd e.symm (P k i hk hi c)
theorem get_not_take {ps : List Int} (hn : ps.Nodup) {i : Nat} (hi : i < ps.length) : ps.getD i 0 ∉ ps.take i := by
 intro h
 obtain ⟨j, hj, e⟩ := List.mem_iff_getElem.1 h
 have hjl : j < min i ps.length := by simpa using hj
 have hj2 : j < ps.length := by omega
 rw [List.getElem_take] at e
 have := nodup_get hn hj2 hi (by rw [List.getD_eq_getElem?_getD (i := j), List.getElem?_eq_getElem hj2]; exact e)
 omega
theorem keysTo_new {ps : List Int} (hn : ps.Nodup) {i k : Nat} (hi : i < ps.length) (hk : k < ps.length) : (ps.getD i 0, ps.getD k 0) ∉ keysTo ps i k := by
 simp only [keysTo, List.mem_append, mem_grid, List.mem_map, Prod.mk.injEq, not_or, not_and, not_exists]
 exact ⟨fun h => absurd h (get_not_take hn hi), fun x hx _ e => get_not_take hn hk (e ▸ hx)⟩
/-! ### Plans -/
theorem prnsErr_zero {n : Int} : ∀ {xs seen : List Int}, prnsErr n seen xs = 0 → (∀ x ∈ xs, 1 ≤ x ∧ x ≤ n + 2) ∧ xs.Nodup ∧ ∀ x ∈ xs, x ∉ seen
 | [], seen, h => ⟨by simp, by simp, by simp⟩
 | x :: xs, seen, h => by
  unfold prnsErr at h
  split at h
  ·cases h
  ·rename_i c1
   split at h
   ·cases h
   ·rename_i c2
    obtain ⟨h1, h2, h3⟩ := prnsErr_zero h
    have hx : x ∉ seen := fun hm => c2 (List.any_eq_true.2 ⟨x, hm, by simp⟩)
    have c1' : 1 ≤ x ∧ x ≤ n + 2 := Classical.not_not.1 c1
    refine ⟨fun y hy => ?_, ?_, fun y hy => ?_⟩
    ·rcases List.mem_cons.1 hy with rfl | hy
     ·exact c1'
     ·exact h1 y hy
    ·exact List.nodup_cons.2 ⟨fun hm => h3 x hm (by simp), h2⟩
    ·rcases List.mem_cons.1 hy with rfl | hy
     ·exact hx
     ·exact fun hm => h3 y hy (by simp [hm])
structure PlanOk (p : PlanP) : Prop where
 nums : p.numsOk
 len : 1 ≤ p.prns.length ∧ p.prns.length ≤ 8
 prn : ∀ x ∈ p.prns, 1 ≤ x ∧ x ≤ lenN p.d + 2
 nodup : p.prns.Nodup
theorem planOk_of {p : PlanP} (h : p.err = 0) : PlanOk p := by
 unfold PlanP.err at h
 split at h
 ·rename_i c1
  split at h
  ·cases h
  ·split at h
   ·cases h
   ·obtain ⟨h1, h2, _⟩ := prnsErr_zero h
    exact ⟨c1, by omega, h1, h2⟩
 ·cases h
theorem PlanOk.code {p : PlanP} (ok : PlanOk p) {x : Int} (hx : x ∈ p.prns) : codeErr p.d x = 0 := by
 unfold codeErr
 rw [if_pos ⟨ok.nums.1, (ok.prn x hx).1, (ok.prn x hx).2⟩]
theorem PlanOk.tabE {p : PlanP} (ok : PlanOk p) : ∀ k, k ≤ p.prns.length → tabE p.d p.prns k = 0
 | 0, _ => rfl
 | k + 1, hk => by
  rw [Ae.tabE, if_neg (by rw [ok.tabE k (by omega)]; decide), if_neg, if_neg]
  ·intro h
   obtain ⟨y, hy, e⟩ := List.any_eq_true.1 h
   have : p.prns.getD k 0 = y := by simpa using e
   exact get_not_take ok.nodup (by omega) (this ▸ hy)
  ·rw [ok.code (getD_mem (by omega))]; decide
theorem PlanOk.known {p : PlanP} (ok : PlanOk p) : knownErr p.d p.o = 0 := by
 unfold knownErr
 rw [if_pos ⟨ok.nums.1, ok.nums.2.1⟩]
theorem PlanOk.tab {p : PlanP} (ok : PlanOk p) : tabErr p.d p.o p.prns = 0 := by
 unfold tabErr
 rw [if_neg (by rw [ok.known]; decide), if_neg (by have := ok.len; omega), if_neg (by have := ok.len; omega), ok.tabE _ (Nat.le_refl _)]
theorem PlanOk.samp {p : PlanP} (ok : PlanOk p) {xs : List Int} (h : ∀ x ∈ xs, x ∈ p.prns) : sampErr p.d p.o xs = 0 := by
 unfold sampErr
 rw [if_pos ⟨ok.known, fun x hx => ok.code (h x hx)⟩]
def sumI (d o a b : Int) : Int := greatI (sampL d a o.toNat) (sampL d b o.toNat) (if a = b then o.toNat else 0)
theorem PlanOk.tbl {p : PlanP} (ok : PlanOk p) {i k : Nat} (hi : i < p.prns.length) (hk : k < p.prns.length) : ((tblL p.d p.o.toNat p.prns).getD i []).getD k 0 = sumI p.d p.o (p.prns.getD i 0) (p.prns.getD k 0) := by
 have e : (i = k) = (p.prns.getD i 0 = p.prns.getD k 0) := propext ⟨fun e => by rw [e], fun e => nodup_get ok.nodup hi hk e⟩
 simp only [tblL, List.getD_eq_getElem?_getD, List.getElem?_map, List.getElem?_range hi, Option.map_some, Option.getD_some, tabRow, List.getElem?_range hk, sumI]
 simp only [List.getD_eq_getElem?_getD] at e
 simp only [e]
end Go.Ae
/- What the sums of a plan are: the program. -/
set_option linter.unusedSimpArgs false
set_option linter.unusedVariables false
namespace Go.Ae
def askA (p : PlanP) (vp : AV) (b s : Int) : AV := .agg [.int .i64 p.d, .int .i64 p.o, .int .i64 p.pb, .int .i64 p.w, .int .i64 p.mn, .int .i64 p.mx, .int .i64 p.nz, vp, .int .i64 b, .int .i64 s]
def humI (p : PlanP) (s : Int) : Int := (3 * p.size * (p.nz + coarI s) + 1) / 2
def SumV (h : Heap) (v : AV) (p : PlanP) (s : Int) : Prop := ∃ j, v = .agg [.map j, .int .i64 p.size, .int .i64 (humI p s)] ∧ h.get j = some (.map (ents (sumI p.d p.o) (grid p.prns p.prns)))
theorem SumV.mono {h h' : Heap} {v : AV} {p : PlanP} {s : Int} (H : SumV h v p s) (hs : HSub h h') : SumV h' v p s := by
 obtain ⟨j, e, g⟩ := H
 exact ⟨j, e, (hs.get j (Heap.lt_of_get g)).trans g⟩
theorem LLI.atC {h : Heap} {v : AV} {ll : List (List Int)} (H : LLI h v ll) {i : Nat} (hi : i < ll.length) : ∃ w, idxA 1 v (.int .i64 (i : Nat)) = some (elA 1 v i) ∧ (∀ h', HSub h h' → Ae.loadA h' false 1 (elA 1 v i) = some w) ∧ RI h w (ll.getD i []) := by
 obtain ⟨vs, a, b, c⟩ := H
 refine ⟨vs.getD i .nilslice, a.idx ⟨by omega, by omega⟩, fun h' hs => ?_, c i hi⟩
 rw [SL.load1 (a.mono hs) hi]
 simp [show i < vs.length by omega]
theorem coar_range {s : Int} (h : 0 ≤ s ∧ s ≤ 30) : 0 ≤ coarI s ∧ coarI s ≤ 536870912 := by
 have := pow_30 h
 unfold coarI
 generalize (2 : Int) ^ s.toNat = q at *
 omega
theorem hum_range {p : PlanP} {s : Int} (ok : PlanOk p) (h : 0 ≤ s ∧ s ≤ 30) : 0 ≤ 3 * p.size * (p.nz + coarI s) ∧ 3 * p.size * (p.nz + coarI s) ≤ 13183710000000 ∧ 0 ≤ 3 * p.size ∧ 3 * p.size ≤ 24552 := by
 have a : 31 ≤ p.size ∧ p.size ≤ 8184 := ⟨(size_range ok.nums).1, (size_range ok.nums).2.1⟩
 have b := coar_range h
 have n := ok.nums.2.2.2.2.2.2
 have q1 : 0 ≤ p.nz + coarI s := by omega
 have q2 : p.nz + coarI s ≤ 536970912 := by omega
 have m1 := Int.mul_nonneg (show 0 ≤ 3 * p.size by omega) q1
 have m2 := Int.mul_le_mul (show 3 * p.size ≤ 24552 by omega) q2 q1 (by decide)
 refine ⟨m1, Int.le_trans m2 (by decide), by omega, by omega⟩
section
variable {C : Ctx}
set_option maxHeartbeats 4000000 in
set_option maxRecDepth 20000 in
theorem known340_spec (hC : Has C T340) {p : PlanP} {vp : AV} {b s : Int} {h : Heap} (ok : PlanOk p) (hg : gErr b s = 0) (h64 : p.ok64) (R : RI h vp p.prns) :
  ACalls C 340 [askA p vp b s] h (fun r h' => SumV h' r p s ∧ HSub h h') := by
 have v1 := R.one
 have g := gErr_ok hg
 have L := fun h => Length_spec (hC.sub (T' := T70) (by decide)) (h := h) h64.1
 have el : lenE p.d = tup2 (lenN p.d) 0 := by unfold lenE; rw [if_pos ok.nums.1]
 simp only [el] at L
 have kt := fun h1 (R1 : RI h1 vp p.prns) => Table_spec (hC.sub (T' := T172) (by decide)) (h := h1) h64.1 h64.2.1 R1 h64.2.2.2.2.2.2.2
 rw [ok.tab] at kt
 simp only [if_true] at kt
 have kc := fun h1 => qCoarse_spec (b := b) (s := s) (h := h1) (hC.sub (T' := T351) (by decide))
 unfold coarE at kc
 rw [if_pos hg] at kc
 have sz := size_range ok.nums
 have hu := hum_range ok g.2.2
 have cr := coar_range g.2.2
 have tv := fun (i k : Nat) (hi : i < p.prns.length) (hk : k < p.prns.length) => ok.tbl hi hk
 have tl : (tblL p.d p.o.toNat p.prns).length = p.prns.length := by simp [tblL]
 have tr : ∀ i, i < p.prns.length → ((tblL p.d p.o.toNat p.prns).getD i []).length = p.prns.length := by
  intro i hi
  simp [tblL, List.getD_eq_getElem?_getD, hi, tabRow_length]
 have new := fun (i k : Nat) (hi : i < p.prns.length) (hk : k < p.prns.length) => keysTo_new ok.nodup hi hk
 have kend := keysTo_end p.prns
 have kstep := fun (i k : Nat) (hk : k < p.prns.length) => keysTo_step (ps := p.prns) (i := i) hk
 have krow := fun (i : Nat) (hi : i < p.prns.length) => keysTo_row (ps := p.prns) hi
 have l8 := ok.len
 have ez : (lenN p.d : Int) * p.o = p.size := rfl
 have nzr := ok.nums.2.2.2.2.2.2
 have np := ok.nums.2.1
 have xl : ∃ N : Int, N = (lenN p.d : Int) := ⟨_, rfl⟩
 obtain ⟨N, hN⟩ := xl
 have hN1 := lenN_eq ok.nums.1
 have hNr : 31 ≤ N ∧ N ≤ 1023 := by omega
 rw [← hN] at L ez
 unfold SumV humI askA
 generalize hf : sumI p.d p.o = f at *
 generalize tblL p.d p.o.toNat p.prns = TT at *
 generalize p.size = S at *
 generalize coarI s = cs at *
 obtain ⟨d, o, pb, w, mn, mx, nz, prns⟩ := p
 dsimp only at *
 (refine calls_intro (hC.body (by decide) tab340) (Nat.le_of_ble_eq_true rfl) ?_); (show wp C _ none B340.code _ _); (simp only [B340]); simp -implicitDefEqProofs (disch := first | assumption | decide | omega | (simp only [wpD1] <;> omega) | (simp only [wpD2] <;> assumption) | solve_by_elim [zR, zP, zV] | fail) only [↓wpPre, wpPost, wpPoly, Int.reduceToNat, Int.reducePow, Int.reduceMul, Int.reduceAdd, Int.reduceSub, Int.reduceNeg, Nat.reduceAdd, Nat.reduceMul, Nat.reducePow, Int.reduceLT, Int.reduceLE, Int.reduceEq, Nat.reduceEqDiff]
 refine ACallsK.eq (L _) ?_
 simp -implicitDefEqProofs (disch := first | assumption | decide | omega | (simp only [wpD1] <;> omega) | (simp only [wpD2] <;> assumption) | solve_by_elim [zR, zP, zV] | fail) only [↓wpPre, wpPost, wpPoly, Int.reduceToNat, Int.reducePow, Int.reduceMul, Int.reduceAdd, Int.reduceSub, Int.reduceNeg, Nat.reduceAdd, Nat.reduceMul, Nat.reducePow, Int.reduceLT, Int.reduceLE, Int.reduceEq, Nat.reduceEqDiff, tup2]
 refine ACallsK.of (kt _ (R.mono (by repeat (first | exact HSub.refl h | refine HSub.put ?_ (by (try simp only [Heap.size_put, Heap.size_push, Heap.size_reserve]); omega) _ | refine HSub.push ?_ _ | refine HSub.reserve ?_ _)))) ?_
 rintro r h2 ⟨v, rfl, sA, TL⟩
 have R2 := R.mono ((show HSub h ((h.push (.cells [.int .i64 d, .int .i64 o, .int .i64 pb, .int .i64 w, .int .i64 mn, .int .i64 mx, .int .i64 nz, vp, .int .i64 b, .int .i64 s] true 0)).push (.cells [.nilmap, .int .i64 0, .int .i64 0] true 0)) from (by repeat (first | exact HSub.refl h | refine HSub.put ?_ (by (try simp only [Heap.size_put, Heap.size_push, Heap.size_reserve]); omega) _ | refine HSub.push ?_ _ | refine HSub.reserve ?_ _))).trans sA)
 have z2 := sA.size
 simp only [Heap.size_push] at z2
 have gP : h2.get h.size = some (.cells [.int .i64 d, .int .i64 o, .int .i64 pb, .int .i64 w, .int .i64 mn, .int .i64 mx, .int .i64 nz, vp, .int .i64 b, .int .i64 s] true 0) := (sA.get _ (by simp only [Heap.size_push]; omega)).trans (by simp -implicitDefEqProofs (disch := first | assumption | decide | omega | (simp only [wpD1] <;> omega) | (simp only [wpD2] <;> assumption) | solve_by_elim [zR, zP, zV] | fail) only [↓wpPre, wpPost, wpPoly, Int.reduceToNat, Int.reducePow, Int.reduceMul, Int.reduceAdd, Int.reduceSub, Int.reduceNeg, Nat.reduceAdd, Nat.reduceMul, Nat.reducePow, Int.reduceLT, Int.reduceLE, Int.reduceEq, Nat.reduceEqDiff])
 have gT : h2.get (h.size + 1) = some (.cells [.nilmap, .int .i64 0, .int .i64 0] true 0) := (sA.get _ (by simp only [Heap.size_push]; omega)).trans (by simp -implicitDefEqProofs (disch := first | assumption | decide | omega | (simp only [wpD1] <;> omega) | (simp only [wpD2] <;> assumption) | solve_by_elim [zR, zP, zV] | fail) only [↓wpPre, wpPost, wpPoly, Int.reduceToNat, Int.reducePow, Int.reduceMul, Int.reduceAdd, Int.reduceSub, Int.reduceNeg, Nat.reduceAdd, Nat.reduceMul, Nat.reducePow, Int.reduceLT, Int.reduceLE, Int.reduceEq, Nat.reduceEqDiff])
 have hs2 : HSub h h2 := (show HSub h _ from (by repeat (first | exact HSub.refl h | refine HSub.put ?_ (by (try simp only [Heap.size_put, Heap.size_push, Heap.size_reserve]); omega) _ | refine HSub.push ?_ _ | refine HSub.reserve ?_ _))).trans sA
 clear sA kt
 unfold gA at kc
 simp -implicitDefEqProofs (disch := first | assumption | decide | omega | (simp only [wpD1] <;> omega) | (simp only [wpD2] <;> assumption) | solve_by_elim [zR, zP, zV] | fail) only [↓wpPre, wpPost, wpPoly, Int.reduceToNat, Int.reducePow, Int.reduceMul, Int.reduceAdd, Int.reduceSub, Int.reduceNeg, Nat.reduceAdd, Nat.reduceMul, Nat.reducePow, Int.reduceLT, Int.reduceLE, Int.reduceEq, Nat.reduceEqDiff, lstErr, gP, wpMap]
 refine ACallsK.eq (kc _) ?_
 have o1 : (AV.map h2.size).one = true := rfl
 have o0 : AV.nilmap.one = true := rfl
 simp -implicitDefEqProofs (disch := first | assumption | decide | omega | (simp only [wpD1] <;> omega) | (simp only [wpD2] <;> assumption) | solve_by_elim [zR, zP, zV] | fail) only [↓wpPre, wpPost, wpPoly, Int.reduceToNat, Int.reducePow, Int.reduceMul, Int.reduceAdd, Int.reduceSub, Int.reduceNeg, Nat.reduceAdd, Nat.reduceMul, Nat.reducePow, Int.reduceLT, Int.reduceLE, Int.reduceEq, Nat.reduceEqDiff, tup2, gP, gT, wpMap, ez, TL.len]
 refine wp_loopI (fun j t h' => ∃ i : Nat, HSub h2 h' ∧ h'.get h2.size = some (.map (ents f (keysTo prns i 0))) ∧ h'.get (h2.size + 1) = some (.cells [.map h2.size, .int .i64 S, .int .i64 0] true 0) ∧
  t 1 = .ptr h.size 0 ∧ t 2 = .ptr (h.size + 1) 0 ∧ t 7 = .int .i64 cs ∧ t 9 = .ptr (h2.size + 1) 0 ∧ t 47 = v ∧ t 48 = .int .i64 (TT.length : Nat) ∧ t 49 = .int .i64 (i : Nat) ∧ i ≤ prns.length ∧ j = prns.length - i) (j0 := prns.length)
  ⟨0, (by repeat (first | exact HSub.refl h2 | refine HSub.put ?_ (by (try simp only [Heap.size_put, Heap.size_push, Heap.size_reserve]); omega) _ | refine HSub.push ?_ _ | refine HSub.reserve ?_ _)), by simp -implicitDefEqProofs (disch := first | assumption | decide | omega | (simp only [wpD1] <;> omega) | (simp only [wpD2] <;> assumption) | solve_by_elim [zR, zP, zV] | fail) only [↓wpPre, wpPost, wpPoly, Int.reduceToNat, Int.reducePow, Int.reduceMul, Int.reduceAdd, Int.reduceSub, Int.reduceNeg, Nat.reduceAdd, Nat.reduceMul, Nat.reducePow, Int.reduceLT, Int.reduceLE, Int.reduceEq, Nat.reduceEqDiff]; simp [keysTo, grid, ents], by simp -implicitDefEqProofs (disch := first | assumption | decide | omega | (simp only [wpD1] <;> omega) | (simp only [wpD2] <;> assumption) | solve_by_elim [zR, zP, zV] | fail) only [↓wpPre, wpPost, wpPoly, Int.reduceToNat, Int.reducePow, Int.reduceMul, Int.reduceAdd, Int.reduceSub, Int.reduceNeg, Nat.reduceAdd, Nat.reduceMul, Nat.reducePow, Int.reduceLT, Int.reduceLE, Int.reduceEq, Nat.reduceEqDiff], rfl, rfl, rfl, rfl, rfl, rfl, rfl, by omega, rfl⟩ ?_
 rintro j t h3 ⟨i, s3, gM, gC, e1, e2, e7, e9, e47, e48, e49, hi, hj⟩
 simp -implicitDefEqProofs (disch := first | assumption | decide | omega | (simp only [wpD1] <;> omega) | (simp only [wpD2] <;> assumption) | solve_by_elim [zR, zP, zV] | fail) only [↓wpPre, wpPost, wpPoly, Int.reduceToNat, Int.reducePow, Int.reduceMul, Int.reduceAdd, Int.reduceSub, Int.reduceNeg, Nat.reduceAdd, Nat.reduceMul, Nat.reducePow, Int.reduceLT, Int.reduceLE, Int.reduceEq, Nat.reduceEqDiff, e48, e49]
 refine Br.by (fun c1 => ?_) (fun c1 => ?_)
 ·have hi' : i < prns.length := by omega
  have xr := TL.atC (i := i) (by omega)
  obtain ⟨w, ix, ld, Rw⟩ := xr
  have ld := ld _ s3
  have lenw := Rw.len
  have lw := tr i hi'
  rw [lw] at lenw
  simp -implicitDefEqProofs (disch := first | assumption | decide | omega | (simp only [wpD1] <;> omega) | (simp only [wpD2] <;> assumption) | solve_by_elim [zR, zP, zV] | fail) only [↓wpPre, wpPost, wpPoly, Int.reduceToNat, Int.reducePow, Int.reduceMul, Int.reduceAdd, Int.reduceSub, Int.reduceNeg, Nat.reduceAdd, Nat.reduceMul, Nat.reducePow, Int.reduceLT, Int.reduceLE, Int.reduceEq, Nat.reduceEqDiff, e1, e2, e7, e9, e47, e48, e49, ix, ld, lenw]
  refine wp_loopI (fun j t h' => ∃ k : Nat, HSub h2 h' ∧ h'.get h2.size = some (.map (ents f (keysTo prns i k))) ∧ h'.get (h2.size + 1) = some (.cells [.map h2.size, .int .i64 S, .int .i64 0] true 0) ∧
   t 1 = .ptr h.size 0 ∧ t 2 = .ptr (h.size + 1) 0 ∧ t 7 = .int .i64 cs ∧ t 9 = .ptr (h2.size + 1) 0 ∧ t 10 = .int .i64 (i : Nat) ∧ t 47 = v ∧ t 48 = .int .i64 (TT.length : Nat) ∧ t 49 = .int .i64 (i : Nat) ∧ t 54 = w ∧ t 55 = .int .i64 (prns.length : Nat) ∧ t 56 = .int .i64 (k : Nat) ∧ k ≤ prns.length ∧ j = prns.length - k) (j0 := prns.length)
   ⟨0, s3, gM, gC, e1, e2, e7, e9, rfl, e47, e48, e49, rfl, rfl, rfl, by omega, rfl⟩ ?_
  clear ix ld gM gC e1 e2 e7 e9 e47 e48 e49
  rintro j t h4 ⟨k, s4, gM, gC, e1, e2, e7, e9, e10, e47, e48, e49, e54, e55, e56, hk, hj⟩
  simp -implicitDefEqProofs (disch := first | assumption | decide | omega | (simp only [wpD1] <;> omega) | (simp only [wpD2] <;> assumption) | solve_by_elim [zR, zP, zV] | fail) only [↓wpPre, wpPost, wpPoly, Int.reduceToNat, Int.reducePow, Int.reduceMul, Int.reduceAdd, Int.reduceSub, Int.reduceNeg, Nat.reduceAdd, Nat.reduceMul, Nat.reducePow, Int.reduceLT, Int.reduceLE, Int.reduceEq, Nat.reduceEqDiff, e55, e56]
  refine Br.by (fun c2 => ?_) (fun c2 => ?_)
  ·have hk' : k < prns.length := by omega
   have Rw4 := Rw.mono s4
   have Rp4 := R2.mono s4
   have gP4 := (s4.get _ (by omega)).trans gP
   have lk := Rw4.load (k := k) (by omega)
   rw [tv i k hi' hk'] at lk
   have li := Rp4.load hi'
   have lj := Rp4.load hk'
   have up := fun H => upd_out (f := f) (h := H) (i := h2.size) (new i k hi' hk')
   rw [← kstep i k hk'] at up
   simp only [keyP, ksP] at up
   have one := Rw.one
   simp -implicitDefEqProofs (disch := first | assumption | decide | omega | (simp only [wpD1] <;> omega) | (simp only [wpD2] <;> assumption) | solve_by_elim [zR, zP, zV] | fail) only [↓wpPre, wpPost, wpPoly, Int.reduceToNat, Int.reducePow, Int.reduceMul, Int.reduceAdd, Int.reduceSub, Int.reduceNeg, Nat.reduceAdd, Nat.reduceMul, Nat.reducePow, Int.reduceLT, Int.reduceLE, Int.reduceEq, Nat.reduceEqDiff, e1, e2, e7, e9, e10, e47, e48, e49, e54, e55, e56, Rw4.idx, Rp4.idx, lk, li, lj, gP4, gC, gM, wpMap, up]
   have z4 := Heap.lt_of_get gM
   exact ⟨_, ⟨k + 1, HSub.put s4 (Nat.le_refl _) _, get_put_eq rfl z4, by omega, by omega, rfl⟩, by omega⟩
  ·obtain rfl : k = prns.length := by omega
   simp -implicitDefEqProofs (disch := first | assumption | decide | omega | (simp only [wpD1] <;> omega) | (simp only [wpD2] <;> assumption) | solve_by_elim [zR, zP, zV] | fail) only [↓wpPre, wpPost, wpPoly, Int.reduceToNat, Int.reducePow, Int.reduceMul, Int.reduceAdd, Int.reduceSub, Int.reduceNeg, Nat.reduceAdd, Nat.reduceMul, Nat.reducePow, Int.reduceLT, Int.reduceLE, Int.reduceEq, Nat.reduceEqDiff, e1, e2, e7, e9, e47, e48, e49]
   rw [krow i hi'] at gM
   exact ⟨_, ⟨i + 1, s4, gM, gC, by omega, by omega, rfl⟩, by omega⟩
 ·obtain rfl : i = prns.length := by omega
  rw [kend] at gM
  have gT3 := (s3.get _ (by omega)).trans gT
  have gP3 := (s3.get _ (by omega)).trans gP
  have z3 := Heap.lt_of_get gC
  simp -implicitDefEqProofs (disch := first | assumption | decide | omega | (simp only [wpD1] <;> omega) | (simp only [wpD2] <;> assumption) | solve_by_elim [zR, zP, zV] | fail) only [↓wpPre, wpPost, wpPoly, Int.reduceToNat, Int.reducePow, Int.reduceMul, Int.reduceAdd, Int.reduceSub, Int.reduceNeg, Nat.reduceAdd, Nat.reduceMul, Nat.reducePow, Int.reduceLT, Int.reduceLE, Int.reduceEq, Nat.reduceEqDiff, e1, e2, e7, e9, e47, e48, e49, gC, gP3, gT3, o1, o0]
  exact ⟨⟨h2.size, rfl, by rw [get_put_ne (by omega), get_put_ne (by omega)]; exact gM⟩, HSub.put (HSub.put (hs2.trans s3) (by omega) _) (by omega) _⟩
end
end Go.Ae
/- Bounds, thresholds and floors out of the sums of a plan: the program. -/
set_option linter.unusedSimpArgs false
set_option linter.unusedVariables false
namespace Go.Ae
def othK (f : Int → Int → Int) (prn : Int) (ps : List Int) : Nat → Int
 | 0 => 0
 | k + 1 => othK f prn ps k + if ps.getD k 0 = prn then 0 else f prn (ps.getD k 0)
theorem othK_range {f : Int → Int → Int} (fr : ∀ a b, 0 ≤ f a b ∧ f a b ≤ 8184) {prn : Int} {ps : List Int} : ∀ k : Nat, 0 ≤ othK f prn ps k ∧ othK f prn ps k ≤ 8184 * k
 | 0 => by simp [othK]
 | k + 1 => by
  have h := othK_range fr (prn := prn) (ps := ps) k
  have q := fr prn (ps.getD k 0)
  unfold othK
  split <;> omega
def PlanP.oth (p : PlanP) (prn : Int) : Int := othK (sumI p.d p.o) prn p.prns p.prns.length
def boundI (p : PlanP) (s prn : Int) : Int := 128 * p.mx * (sumI p.d p.o prn prn + p.oth prn) + humI p s
def thrI (p : PlanP) (s prn : Int) : Int := (boundI p s prn + 2 ^ s.toNat - 1) / 2 ^ s.toNat
def floorI (p : PlanP) (s prn : Int) : Int := 126 * p.mn * (p.size - 2) - 128 * p.mx * p.oth prn - humI p s
theorem sumI_range {p : PlanP} (hn : p.numsOk) (a b : Int) : 0 ≤ sumI p.d p.o a b ∧ sumI p.d p.o a b ≤ 8184 := by
 have h := rowG_le (sampL_one1 p.d a p.o.toNat) (sampL_one1 p.d b p.o.toNat) (if a = b then p.o.toNat else 0) 3 (Nat.le_refl _)
 rw [rowG_three, sampL_length] at h
 have sz := size_range hn
 unfold sumI
 omega
theorem oth_range {p : PlanP} (ok : PlanOk p) (prn : Int) : 0 ≤ p.oth prn ∧ p.oth prn ≤ 65472 := by
 have h := othK_range (f := sumI p.d p.o) (fun a b => sumI_range ok.nums a b) (prn := prn) (ps := p.prns) p.prns.length
 have := ok.len
 unfold PlanP.oth
 omega
theorem humI_range {p : PlanP} {s : Int} (ok : PlanOk p) (h : 0 ≤ s ∧ s ≤ 30) : 0 ≤ humI p s ∧ humI p s ≤ 6591855000000 := by
 have := hum_range ok h
 unfold humI
 generalize 3 * p.size * (p.nz + coarI s) = q at *
 omega
theorem mx_range {p : PlanP} (ok : PlanOk p) {x : Int} (h : 0 ≤ x ∧ x ≤ 73656) : 0 ≤ 128 * p.mx * x ∧ 128 * p.mx * x ≤ 9427968000 := by
 have n := ok.nums.2.2.2.2
 have q1 : 0 ≤ 128 * p.mx := by omega
 have m1 := Int.mul_nonneg q1 h.1
 have m2 := Int.mul_le_mul (show 128 * p.mx ≤ 128000 by omega) h.2 h.1 (by decide)
 exact ⟨m1, Int.le_trans m2 (by decide)⟩
theorem mn_range {p : PlanP} (ok : PlanOk p) : 0 ≤ 126 * p.mn * (p.size - 2) ∧ 126 * p.mn * (p.size - 2) ≤ 1030932000 := by
 have n := ok.nums.2.2.2.2
 have sz := size_range ok.nums
 have q1 : 0 ≤ 126 * p.mn := by omega
 have q2 : 0 ≤ p.size - 2 := by omega
 have m1 := Int.mul_nonneg q1 q2
 have m2 := Int.mul_le_mul (show 126 * p.mn ≤ 126000 by omega) (show p.size - 2 ≤ 8182 by omega) q2 (by decide)
 exact ⟨m1, Int.le_trans m2 (by decide)⟩
theorem bound_range {p : PlanP} {s : Int} (ok : PlanOk p) (h : 0 ≤ s ∧ s ≤ 30) (prn : Int) : 0 ≤ boundI p s prn ∧ boundI p s prn ≤ 6601282968000 := by
 have a := sumI_range ok.nums prn prn
 have b := oth_range ok prn
 have c := humI_range ok h
 have d := mx_range ok (x := sumI p.d p.o prn prn + p.oth prn) (by omega)
 unfold boundI
 omega
theorem thr_range {p : PlanP} {s : Int} (ok : PlanOk p) (h : 0 ≤ s ∧ s ≤ 30) (prn : Int) : 0 ≤ thrI p s prn ∧ thrI p s prn ≤ 6602356709823 := by
 have b := bound_range ok h prn
 have q := pow_30 h
 unfold thrI
 generalize (2 : Int) ^ s.toNat = P at *
 generalize boundI p s prn = B at *
 constructor
 ·exact Int.ediv_nonneg (by omega) (by omega)
 ·have := Int.ediv_le_self P (show 0 ≤ B + P - 1 by omega)
  omega
section
variable {C : Ctx}
set_option maxRecDepth 20000 in
theorem other356_spec (hC : Has C T356) {f : Int → Int → Int} {K : List (Int × Int)} {n q prn S H : Int} {i5 i3 j u5 u3 : Nat} {h : Heap} (fr : ∀ a b, 0 ≤ f a b ∧ f a b ≤ 8184) (hn : 0 ≤ n ∧ n ≤ 1000000)
  (g5 : h.get i5 = some (.cells [.int .i64 prn] true u5)) (g3 : h.get i3 = some (.cells [.map j, .int .i64 S, .int .i64 H] true u3)) (gm : h.get j = some (.map (ents f K))) (hin : (prn, q) ∈ K) :
  ACalls C 356 [.int .i64 n, .int .i64 q, .ptr i5 0, .ptr i3 0] h (fun r h' => r = .int .i64 (n + if q = prn then 0 else f prn q) ∧ h' = h) := by
 have lk := look_in (f := f) (z := .int .i64 0) hin
 simp only [keyP, ksP] at lk
 have fq := fr prn q
 by_cases c : q = prn
 ·rw [if_pos c]
  (refine calls_intro (hC.body (by decide) tab356) (Nat.le_of_ble_eq_true rfl) ?_); (show wp C _ none B356.code _ _); (simp only [B356]); simp -implicitDefEqProofs (disch := first | assumption | decide | omega | (simp only [wpD1] <;> omega) | (simp only [wpD2] <;> assumption) | solve_by_elim [zR, zP, zV] | fail) only [↓wpPre, wpPost, wpPoly, Int.reduceToNat, Int.reducePow, Int.reduceMul, Int.reduceAdd, Int.reduceSub, Int.reduceNeg, Nat.reduceAdd, Nat.reduceMul, Nat.reducePow, Int.reduceLT, Int.reduceLE, Int.reduceEq, Nat.reduceEqDiff, g5, c]
  omega
 ·rw [if_neg c]
  (refine calls_intro (hC.body (by decide) tab356) (Nat.le_of_ble_eq_true rfl) ?_); (show wp C _ none B356.code _ _); (simp only [B356]); simp -implicitDefEqProofs (disch := first | assumption | decide | omega | (simp only [wpD1] <;> omega) | (simp only [wpD2] <;> assumption) | solve_by_elim [zR, zP, zV] | fail) only [↓wpPre, wpPost, wpPoly, Int.reduceToNat, Int.reducePow, Int.reduceMul, Int.reduceAdd, Int.reduceSub, Int.reduceNeg, Nat.reduceAdd, Nat.reduceMul, Nat.reducePow, Int.reduceLT, Int.reduceLE, Int.reduceEq, Nat.reduceEqDiff, g5, g3, gm, c, wpMap, lk]
set_option maxRecDepth 20000 in
theorem fold355_spec (hC : Has C T347) {f : Int → Int → Int} {K : List (Int × Int)} {prn S H : Int} {i5 i3 j u5 u3 : Nat} {v : AV} {l : List Int} {h : Heap} (fr : ∀ a b, 0 ≤ f a b ∧ f a b ≤ 8184) (R : RI h v l) (l8 : l.length ≤ 8)
  (g5 : h.get i5 = some (.cells [.int .i64 prn] true u5)) (g3 : h.get i3 = some (.cells [.map j, .int .i64 S, .int .i64 H] true u3)) (gm : h.get j = some (.map (ents f K))) (hin : ∀ q ∈ l, (prn, q) ∈ K) :
  ACalls C 355 [v, .int .i64 0, .func 356 [] [.ptr i5 0, .ptr i3 0]] h (fun r h' => r = .int .i64 (othK f prn l l.length) ∧ h' = h) := by
 have rg := fun k => othK_range fr (prn := prn) (ps := l) k
 have st := fun (k : Nat) (hk : k < l.length) => other356_spec (hC.sub (T' := T356) (by decide)) (n := othK f prn l k) (q := l.getD k 0) fr (by have := rg k; omega) g5 g3 gm (hin _ (getD_mem hk))
 have hC := hC.sub (T' := T355) (by decide)
 (refine calls_intro (hC.body (by decide) tab355) (Nat.le_of_ble_eq_true rfl) ?_); (show wp C _ none B355.code _ _); (simp only [B355]); simp -implicitDefEqProofs (disch := first | assumption | decide | omega | (simp only [wpD1] <;> omega) | (simp only [wpD2] <;> assumption) | solve_by_elim [zR, zP, zV] | fail) only [↓wpPre, wpPost, wpPoly, Int.reduceToNat, Int.reducePow, Int.reduceMul, Int.reduceAdd, Int.reduceSub, Int.reduceNeg, Nat.reduceAdd, Nat.reduceMul, Nat.reducePow, Int.reduceLT, Int.reduceLE, Int.reduceEq, Nat.reduceEqDiff, R.len]
 refine wp_loopI (fun j t h' => h' = h ∧ ∃ k : Nat, t 1 = .int .i64 (othK f prn l k) ∧ t 2 = .func 356 [] [.ptr i5 0, .ptr i3 0] ∧ t 9 = v ∧ t 10 = .int .i64 (l.length : Nat) ∧ t 11 = .int .i64 (k : Nat) ∧ k ≤ l.length ∧ j = l.length - k) (j0 := l.length)
  ⟨rfl, 0, rfl, rfl, rfl, rfl, rfl, by omega, rfl⟩ ?_
 rintro j t h' ⟨rfl, k, e1, e2, e9, e10, e11, hk, hj⟩
 simp -implicitDefEqProofs (disch := first | assumption | decide | omega | (simp only [wpD1] <;> omega) | (simp only [wpD2] <;> assumption) | solve_by_elim [zR, zP, zV] | fail) only [↓wpPre, wpPost, wpPoly, Int.reduceToNat, Int.reducePow, Int.reduceMul, Int.reduceAdd, Int.reduceSub, Int.reduceNeg, Nat.reduceAdd, Nat.reduceMul, Nat.reducePow, Int.reduceLT, Int.reduceLE, Int.reduceEq, Nat.reduceEqDiff, e10, e11]
 refine Br.by (fun c => ?_) (fun c => ?_)
 ·have hk' : k < l.length := by omega
  simp -implicitDefEqProofs (disch := first | assumption | decide | omega | (simp only [wpD1] <;> omega) | (simp only [wpD2] <;> assumption) | solve_by_elim [zR, zP, zV] | fail) only [↓wpPre, wpPost, wpPoly, Int.reduceToNat, Int.reducePow, Int.reduceMul, Int.reduceAdd, Int.reduceSub, Int.reduceNeg, Nat.reduceAdd, Nat.reduceMul, Nat.reducePow, Int.reduceLT, Int.reduceLE, Int.reduceEq, Nat.reduceEqDiff, e1, e2, e9, e10, e11, R.idx, R.load hk']
  refine ACallsK.eq (st k hk') ?_
  simp -implicitDefEqProofs (disch := first | assumption | decide | omega | (simp only [wpD1] <;> omega) | (simp only [wpD2] <;> assumption) | solve_by_elim [zR, zP, zV] | fail) only [↓wpPre, wpPost, wpPoly, Int.reduceToNat, Int.reducePow, Int.reduceMul, Int.reduceAdd, Int.reduceSub, Int.reduceNeg, Nat.reduceAdd, Nat.reduceMul, Nat.reducePow, Int.reduceLT, Int.reduceLE, Int.reduceEq, Nat.reduceEqDiff, e1, e2, e9, e10, e11]
  exact ⟨_, ⟨k + 1, rfl, by omega, by omega, rfl⟩, by omega⟩
 ·obtain rfl : k = l.length := by omega
  simp -implicitDefEqProofs (disch := first | assumption | decide | omega | (simp only [wpD1] <;> omega) | (simp only [wpD2] <;> assumption) | solve_by_elim [zR, zP, zV] | fail) only [↓wpPre, wpPost, wpPoly, Int.reduceToNat, Int.reducePow, Int.reduceMul, Int.reduceAdd, Int.reduceSub, Int.reduceNeg, Nat.reduceAdd, Nat.reduceMul, Nat.reducePow, Int.reduceLT, Int.reduceLE, Int.reduceEq, Nat.reduceEqDiff, e1]
set_option maxRecDepth 20000 in
theorem others347_spec (hC : Has C T347) {p : PlanP} {vp sv : AV} {b s prn : Int} {h : Heap} (ok : PlanOk p) (R : RI h vp p.prns) (V : SumV h sv p s) (hin : prn ∈ p.prns) :
  ACalls C 347 [sv, askA p vp b s, .int .i64 prn] h (fun r h' => r = .int .i64 (p.oth prn) ∧ h' = h) := by
 refine ACalls.gc0 (P := fun r h' => r = .int .i64 (p.oth prn) ∧ HSub h h') ?_ (fun r h' hp => ⟨by rw [hp.1]; trivial, hp.2, hp.1, rfl⟩)
 have v1 := R.one
 obtain ⟨j, rfl, gm⟩ := V
 have jl := Heap.lt_of_get gm
 have ff := fun (H : Heap) (i5 i3 u5 u3 : Nat) (R1 : RI H vp p.prns) g5 g3 gm1 => fold355_spec hC (h := H) (prn := prn) (S := p.size) (H := humI p s) (i5 := i5) (i3 := i3) (u5 := u5) (u3 := u3) (j := j) (fun a b => sumI_range ok.nums a b) R1 ok.len.2 g5 g3 gm1 (fun q hq => mem_grid.2 ⟨hin, hq⟩)
 unfold PlanP.oth askA
 generalize sumI p.d p.o = f at *
 generalize p.size = S at *
 generalize humI p s = HM at *
 have o1 : (AV.map j).one = true := rfl
 (refine calls_intro (hC.body (by decide) tab347) (Nat.le_of_ble_eq_true rfl) ?_); (show wp C _ none B347.code _ _); (simp only [B347]); simp -implicitDefEqProofs (disch := first | assumption | decide | omega | (simp only [wpD1] <;> omega) | (simp only [wpD2] <;> assumption) | solve_by_elim [zR, zP, zV] | fail) only [↓wpPre, wpPost, wpPoly, Int.reduceToNat, Int.reducePow, Int.reduceMul, Int.reduceAdd, Int.reduceSub, Int.reduceNeg, Nat.reduceAdd, Nat.reduceMul, Nat.reducePow, Int.reduceLT, Int.reduceLE, Int.reduceEq, Nat.reduceEqDiff, wpMap]
 refine ACallsK.eq (ff _ _ _ 0 0 (R.mono (by repeat (first | exact HSub.refl h | refine HSub.put ?_ (by (try simp only [Heap.size_put, Heap.size_push, Heap.size_reserve]); omega) _ | refine HSub.push ?_ _ | refine HSub.reserve ?_ _))) (by simp -implicitDefEqProofs (disch := first | assumption | decide | omega | (simp only [wpD1] <;> omega) | (simp only [wpD2] <;> assumption) | solve_by_elim [zR, zP, zV] | fail) only [↓wpPre, wpPost, wpPoly, Int.reduceToNat, Int.reducePow, Int.reduceMul, Int.reduceAdd, Int.reduceSub, Int.reduceNeg, Nat.reduceAdd, Nat.reduceMul, Nat.reducePow, Int.reduceLT, Int.reduceLE, Int.reduceEq, Nat.reduceEqDiff]) (by simp -implicitDefEqProofs (disch := first | assumption | decide | omega | (simp only [wpD1] <;> omega) | (simp only [wpD2] <;> assumption) | solve_by_elim [zR, zP, zV] | fail) only [↓wpPre, wpPost, wpPoly, Int.reduceToNat, Int.reducePow, Int.reduceMul, Int.reduceAdd, Int.reduceSub, Int.reduceNeg, Nat.reduceAdd, Nat.reduceMul, Nat.reducePow, Int.reduceLT, Int.reduceLE, Int.reduceEq, Nat.reduceEqDiff]) (by simp -implicitDefEqProofs (disch := first | assumption | decide | omega | (simp only [wpD1] <;> omega) | (simp only [wpD2] <;> assumption) | solve_by_elim [zR, zP, zV] | fail) only [↓wpPre, wpPost, wpPoly, Int.reduceToNat, Int.reducePow, Int.reduceMul, Int.reduceAdd, Int.reduceSub, Int.reduceNeg, Nat.reduceAdd, Nat.reduceMul, Nat.reducePow, Int.reduceLT, Int.reduceLE, Int.reduceEq, Nat.reduceEqDiff]; exact gm)) ?_
 simp -implicitDefEqProofs (disch := first | assumption | decide | omega | (simp only [wpD1] <;> omega) | (simp only [wpD2] <;> assumption) | solve_by_elim [zR, zP, zV] | fail) only [↓wpPre, wpPost, wpPoly, Int.reduceToNat, Int.reducePow, Int.reduceMul, Int.reduceAdd, Int.reduceSub, Int.reduceNeg, Nat.reduceAdd, Nat.reduceMul, Nat.reducePow, Int.reduceLT, Int.reduceLE, Int.reduceEq, Nat.reduceEqDiff]
 exact (by repeat (first | exact HSub.refl h | refine HSub.put ?_ (by (try simp only [Heap.size_put, Heap.size_push, Heap.size_reserve]); omega) _ | refine HSub.push ?_ _ | refine HSub.reserve ?_ _))
set_option maxRecDepth 20000 in
theorem bound334_spec (hC : Has C T334) {p : PlanP} {vp sv : AV} {b s prn : Int} {h : Heap} (ok : PlanOk p) (hs : 0 ≤ s ∧ s ≤ 30) (R : RI h vp p.prns) (V : SumV h sv p s) (hin : prn ∈ p.prns) :
  ACalls C 334 [sv, askA p vp b s, .int .i64 prn] h (fun r h' => r = .int .i64 (boundI p s prn) ∧ h' = h) := by
 refine ACalls.gc0 (P := fun r h' => r = .int .i64 (boundI p s prn) ∧ HSub h h') ?_ (fun r h' hp => ⟨by rw [hp.1]; trivial, hp.2, hp.1, rfl⟩)
 have v1 := R.one
 have lk := fun (H : Heap) => others347_spec (b := b) (hC.sub (T' := T347) (by decide)) (h := H) (sv := sv) (vp := vp) (prn := prn) (s := s) ok
 have bd := bound_range ok hs prn
 have m1 := sumI_range ok.nums prn prn
 have m2 := oth_range ok prn
 have m3 := mx_range ok (x := sumI p.d p.o prn prn + p.oth prn) (by omega)
 have m4 := ok.nums.2.2.2.2
 have V0 := V
 obtain ⟨j, rfl, gm⟩ := V
 have jl := Heap.lt_of_get gm
 have kin := look_in (f := sumI p.d p.o) (z := .int .i64 0) (mem_grid.2 ⟨hin, hin⟩)
 simp only [keyP, ksP] at kin
 have o1 : (AV.map j).one = true := rfl
 unfold boundI askA at *
 generalize p.oth prn = O at *
 generalize sumI p.d p.o = f at *
 generalize p.size = S at *
 generalize humI p s = HM at *
 obtain ⟨d, o, pb, w, mn, mx, nz, prns⟩ := p
 dsimp only at *
 (refine calls_intro (hC.body (by decide) tab334) (Nat.le_of_ble_eq_true rfl) ?_); (show wp C _ none B334.code _ _); (simp only [B334]); simp -implicitDefEqProofs (disch := first | assumption | decide | omega | (simp only [wpD1] <;> omega) | (simp only [wpD2] <;> assumption) | solve_by_elim [zR, zP, zV] | fail) only [↓wpPre, wpPost, wpPoly, Int.reduceToNat, Int.reducePow, Int.reduceMul, Int.reduceAdd, Int.reduceSub, Int.reduceNeg, Nat.reduceAdd, Nat.reduceMul, Nat.reducePow, Int.reduceLT, Int.reduceLE, Int.reduceEq, Nat.reduceEqDiff, wpMap, gm, kin]
 refine ACallsK.eq (lk _ (R.mono (by repeat (first | exact HSub.refl h | refine HSub.put ?_ (by (try simp only [Heap.size_put, Heap.size_push, Heap.size_reserve]); omega) _ | refine HSub.push ?_ _ | refine HSub.reserve ?_ _))) (V0.mono (by repeat (first | exact HSub.refl h | refine HSub.put ?_ (by (try simp only [Heap.size_put, Heap.size_push, Heap.size_reserve]); omega) _ | refine HSub.push ?_ _ | refine HSub.reserve ?_ _))) hin) ?_
 simp -implicitDefEqProofs (disch := first | assumption | decide | omega | (simp only [wpD1] <;> omega) | (simp only [wpD2] <;> assumption) | solve_by_elim [zR, zP, zV] | fail) only [↓wpPre, wpPost, wpPoly, Int.reduceToNat, Int.reducePow, Int.reduceMul, Int.reduceAdd, Int.reduceSub, Int.reduceNeg, Nat.reduceAdd, Nat.reduceMul, Nat.reducePow, Int.reduceLT, Int.reduceLE, Int.reduceEq, Nat.reduceEqDiff, wpMap]
 exact (by repeat (first | exact HSub.refl h | refine HSub.put ?_ (by (try simp only [Heap.size_put, Heap.size_push, Heap.size_reserve]); omega) _ | refine HSub.push ?_ _ | refine HSub.reserve ?_ _))
set_option maxRecDepth 20000 in
theorem thr332_spec (hC : Has C T332) {p : PlanP} {vp sv : AV} {b s prn : Int} {h : Heap} (ok : PlanOk p) (hs : 0 ≤ s ∧ s ≤ 30) (R : RI h vp p.prns) (V : SumV h sv p s) (hin : prn ∈ p.prns) :
  ACalls C 332 [sv, askA p vp b s, .int .i64 prn] h (fun r h' => r = .int .i64 (thrI p s prn) ∧ h' = h) := by
 refine ACalls.gc0 (P := fun r h' => r = .int .i64 (thrI p s prn) ∧ HSub h h') ?_ (fun r h' hp => ⟨by rw [hp.1]; trivial, hp.2, hp.1, rfl⟩)
 have v1 := R.one
 have lk := fun (H : Heap) => bound334_spec (b := b) (hC.sub (T' := T334) (by decide)) (h := H) (sv := sv) (vp := vp) (prn := prn) ok hs
 have bd := bound_range ok hs prn
 have p30 := pow_30 hs
 have V0 := V
 obtain ⟨j, rfl, gm⟩ := V
 have o1 : (AV.map j).one = true := rfl
 have fd := Int.fdiv_eq_ediv_of_nonneg (boundI p s prn + 2 ^ s.toNat - 1) (show 0 ≤ (2 : Int) ^ s.toNat by omega)
 unfold thrI askA at *
 generalize boundI p s prn = B at *
 generalize p.size = S at *
 generalize humI p s = HM at *
 generalize hP : (2 : Int) ^ s.toNat = P at *
 obtain ⟨d, o, pb, w, mn, mx, nz, prns⟩ := p
 dsimp only at *
 (refine calls_intro (hC.body (by decide) tab332) (Nat.le_of_ble_eq_true rfl) ?_); (show wp C _ none B332.code _ _); (simp only [B332]); simp -implicitDefEqProofs (disch := first | assumption | decide | omega | (simp only [wpD1] <;> omega) | (simp only [wpD2] <;> assumption) | solve_by_elim [zR, zP, zV] | fail) only [↓wpPre, wpPost, wpPoly, Int.reduceToNat, Int.reducePow, Int.reduceMul, Int.reduceAdd, Int.reduceSub, Int.reduceNeg, Nat.reduceAdd, Nat.reduceMul, Nat.reducePow, Int.reduceLT, Int.reduceLE, Int.reduceEq, Nat.reduceEqDiff, wpMap, gm, hP, Int.one_mul]
 refine ACallsK.eq (lk _ (R.mono (by repeat (first | exact HSub.refl h | refine HSub.put ?_ (by (try simp only [Heap.size_put, Heap.size_push, Heap.size_reserve]); omega) _ | refine HSub.push ?_ _ | refine HSub.reserve ?_ _))) (V0.mono (by repeat (first | exact HSub.refl h | refine HSub.put ?_ (by (try simp only [Heap.size_put, Heap.size_push, Heap.size_reserve]); omega) _ | refine HSub.push ?_ _ | refine HSub.reserve ?_ _))) hin) ?_
 simp -implicitDefEqProofs (disch := first | assumption | decide | omega | (simp only [wpD1] <;> omega) | (simp only [wpD2] <;> assumption) | solve_by_elim [zR, zP, zV] | fail) only [↓wpPre, wpPost, wpPoly, Int.reduceToNat, Int.reducePow, Int.reduceMul, Int.reduceAdd, Int.reduceSub, Int.reduceNeg, Nat.reduceAdd, Nat.reduceMul, Nat.reducePow, Int.reduceLT, Int.reduceLE, Int.reduceEq, Nat.reduceEqDiff, wpMap, hP, fd, Int.one_mul]
 exact (by repeat (first | exact HSub.refl h | refine HSub.put ?_ (by (try simp only [Heap.size_put, Heap.size_push, Heap.size_reserve]); omega) _ | refine HSub.push ?_ _ | refine HSub.reserve ?_ _))
set_option maxRecDepth 20000 in
theorem floor338_spec (hC : Has C T338) {p : PlanP} {vp sv : AV} {b s prn : Int} {h : Heap} (ok : PlanOk p) (hs : 0 ≤ s ∧ s ≤ 30) (R : RI h vp p.prns) (V : SumV h sv p s) (hin : prn ∈ p.prns) :
  ACalls C 338 [sv, askA p vp b s, .int .i64 prn] h (fun r h' => r = .int .i64 (floorI p s prn) ∧ h' = h) := by
 refine ACalls.gc0 (P := fun r h' => r = .int .i64 (floorI p s prn) ∧ HSub h h') ?_ (fun r h' hp => ⟨by rw [hp.1]; trivial, hp.2, hp.1, rfl⟩)
 have v1 := R.one
 have lk := fun (H : Heap) => others347_spec (b := b) (hC.sub (T' := T347) (by decide)) (h := H) (sv := sv) (vp := vp) (prn := prn) (s := s) ok
 have m2 := oth_range ok prn
 have m3 := mx_range ok (x := p.oth prn) (by omega)
 have m4 := ok.nums.2.2.2.2
 have m5 := mn_range ok
 have m6 := size_range ok.nums
 have m7 := humI_range ok hs
 have V0 := V
 obtain ⟨j, rfl, gm⟩ := V
 have jl := Heap.lt_of_get gm
 have o1 : (AV.map j).one = true := rfl
 unfold floorI askA at *
 generalize p.oth prn = O at *
 generalize p.size = S at *
 generalize humI p s = HM at *
 obtain ⟨d, o, pb, w, mn, mx, nz, prns⟩ := p
 dsimp only at *
 (refine calls_intro (hC.body (by decide) tab338) (Nat.le_of_ble_eq_true rfl) ?_); (show wp C _ none B338.code _ _); (simp only [B338]); simp -implicitDefEqProofs (disch := first | assumption | decide | omega | (simp only [wpD1] <;> omega) | (simp only [wpD2] <;> assumption) | solve_by_elim [zR, zP, zV] | fail) only [↓wpPre, wpPost, wpPoly, Int.reduceToNat, Int.reducePow, Int.reduceMul, Int.reduceAdd, Int.reduceSub, Int.reduceNeg, Nat.reduceAdd, Nat.reduceMul, Nat.reducePow, Int.reduceLT, Int.reduceLE, Int.reduceEq, Nat.reduceEqDiff, wpMap, gm]
 refine ACallsK.eq (lk _ (R.mono (by repeat (first | exact HSub.refl h | refine HSub.put ?_ (by (try simp only [Heap.size_put, Heap.size_push, Heap.size_reserve]); omega) _ | refine HSub.push ?_ _ | refine HSub.reserve ?_ _))) (V0.mono (by repeat (first | exact HSub.refl h | refine HSub.put ?_ (by (try simp only [Heap.size_put, Heap.size_push, Heap.size_reserve]); omega) _ | refine HSub.push ?_ _ | refine HSub.reserve ?_ _))) hin) ?_
 simp -implicitDefEqProofs (disch := first | assumption | decide | omega | (simp only [wpD1] <;> omega) | (simp only [wpD2] <;> assumption) | solve_by_elim [zR, zP, zV] | fail) only [↓wpPre, wpPost, wpPoly, Int.reduceToNat, Int.reducePow, Int.reduceMul, Int.reduceAdd, Int.reduceSub, Int.reduceNeg, Nat.reduceAdd, Nat.reduceMul, Nat.reducePow, Int.reduceLT, Int.reduceLE, Int.reduceEq, Nat.reduceEqDiff, wpMap]
 exact (by repeat (first | exact HSub.refl h | refine HSub.put ?_ (by (try simp only [Heap.size_put, Heap.size_push, Heap.size_reserve]); omega) _ | refine HSub.push ?_ _ | refine HSub.reserve ?_ _))
end
end Go.Ae
