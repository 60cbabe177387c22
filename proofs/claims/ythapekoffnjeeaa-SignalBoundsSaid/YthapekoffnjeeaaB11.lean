/- Texts of the proof, part 11: a second reading of the lowered code, proved sound, and what the functions compute. -/
import Derived.Test.YthapekoffnjeeaaB10

/- The codes. -/
set_option linter.unusedSimpArgs false
set_option linter.unusedVariables false
namespace Go.Ae
def codeB (d p : Int) (i : Nat) : Int :=
  if p = 1 then (bitsL d 1).getD i 0 else if p = 2 then (bitsL d 2).getD i 0 else ((bitsL d 1).getD i 0 + (bitsL d 2).getD ((i + (p - 3).toNat) % lenN d) 0) % 2
def bitC (d p : Int) : List Int := (List.range (lenN d)).map (codeB d p)
def codeL (d p : Int) : List Int := (bitC d p).map fun b => 1 - 2 * b
def codeErr (d p : Int) : Int := if lenOk d = true ∧ 1 ≤ p ∧ p ≤ lenN d + 2 then 0 else 2
theorem bitC_length (d p : Int) : (bitC d p).length = lenN d := by simp [bitC]
theorem codeL_length (d p : Int) : (codeL d p).length = lenN d := by simp [codeL, bitC]
theorem bit01_getD {l : List Int} (h : ∀ x ∈ l, x = 0 ∨ x = 1) (i : Nat) : l.getD i 0 = 0 ∨ l.getD i 0 = 1 := bit01.get h i
theorem codeB_01 (d p : Int) (i : Nat) : codeB d p i = 0 ∨ codeB d p i = 1 := by
  unfold codeB
  have h1 := bit01_getD (bitsL_01 (d := d) (w := 1)) i
  have h2 := bit01_getD (bitsL_01 (d := d) (w := 2)) i
  split
  · exact h1
  · split
    · exact h2
    · omega
theorem codeB_one (d : Int) : bitC d 1 = bitsL d 1 := by
  refine seqx (by rw [bitC_length, bitsL_length]) fun i hi => ?_
  rw [bitC_length] at hi
  simp [bitC, hi, codeB]
theorem codeB_two (d : Int) : bitC d 2 = bitsL d 2 := by
  refine seqx (by rw [bitC_length, bitsL_length]) fun i hi => ?_
  rw [bitC_length] at hi
  simp [bitC, hi, codeB]
def codeP (d p : Int) (k : Nat) : List Int := (List.range (lenN d)).map fun i => if i < k then codeB d p i else (bitsL d 1).getD i 0
theorem codeP_length (d p : Int) (k : Nat) : (codeP d p k).length = lenN d := by simp [codeP]
theorem codeP_get {d p : Int} {k i : Nat} (hi : i < lenN d) : (codeP d p k).getD i 0 = if i < k then codeB d p i else (bitsL d 1).getD i 0 := by simp [codeP, hi]
theorem codeP_zero (d p : Int) : codeP d p 0 = bitsL d 1 := by
  refine seqx (by rw [codeP_length, bitsL_length]) fun i hi => ?_
  rw [codeP_length] at hi
  rw [codeP_get hi, if_neg (by omega)]
theorem codeP_full (d p : Int) : codeP d p (lenN d) = bitC d p := by
  refine seqx (by rw [codeP_length, bitC_length]) fun i hi => ?_
  rw [codeP_length] at hi
  rw [codeP_get hi, if_pos hi]; simp [bitC, hi]
theorem codeP_set {d p : Int} {k : Nat} (hk : k < lenN d) : (codeP d p k).set k (codeB d p k) = codeP d p (k + 1) := by
  refine seqx (by simp [codeP]) fun i hi => ?_
  simp only [List.length_set, codeP_length] at hi
  rw [codeP_get hi]
  simp only [List.getD_eq_getElem?_getD, List.getElem?_set, codeP_length]
  by_cases e : k = i
  · subst e; rw [if_pos rfl, if_pos hk, if_pos (by omega)]; rfl
  · rw [if_neg e]
    have := codeP_get (p := p) (k := k) hi
    rw [List.getD_eq_getElem?_getD] at this
    rw [this]
    by_cases c : i < k
    · rw [if_pos c, if_pos (by omega)]
    · rw [if_neg c, if_neg (by omega)]; simp
section
variable {C : Ctx}
set_option maxRecDepth 100000 in
set_option maxHeartbeats 2000000 in
theorem Code_spec (hC : Has C T76) {d p : Int} {h : Heap} (hd : In64 d) (hp : In64 p) : ACalls C 76 [.int .i64 d, .int .i64 p] h (fun r h' => ∃ v, r = lstErr v (codeErr d p) ∧ HSub h h' ∧ RI h' v (if codeErr d p = 0 then codeL d p else []) ∧ (codeErr d p = 0 → Fresh h h' v (codeL d p))) := by
  have hp' := hp
  unfold In64 at hp'
  have pe : codeErr d p = if lenOk d = true ∧ 1 ≤ p ∧ p ≤ lenN d + 2 then 0 else 2 := rfl
  by_cases c : lenOk d = true
  · have hl := lenN_eq c
    have eL : lenE d = tup2 (lenN d) 0 := by unfold lenE; rw [if_pos c]
    by_cases cp : 1 ≤ p ∧ p ≤ lenN d + 2
    · rw [if_pos ⟨c, cp⟩] at pe
      rw [pe]
      have t1 : tapsErr d 1 = 0 := by unfold tapsErr; rw [if_pos ⟨c, .inl rfl⟩]
      have t2 : tapsErr d 2 = 0 := by unfold tapsErr; rw [if_pos ⟨c, .inr rfl⟩]
      have lb1 := bitsL_length d 1
      have lb2 := bitsL_length d 2
      have hB : ∀ {w : Int} {h : Heap}, tapsErr d w = 0 → In64 w → ACalls C 74 [.int .i64 d, .int .i64 w] h (fun r h' => ∃ i, h.size ≤ i ∧ r = lstErr (.slice i 0 (lenN d) (.known (lenN d))) 0 ∧ HSub h h' ∧ h'.get i = some (.cells (ints (bitsL d w)) true 0)) := by
        intro w h e hw
        refine (Bits_spec (hC.sub (T' := T74) (by decide)) hd hw).mono ?_
        rintro r h' ⟨v, h1, _, _, h4⟩
        obtain ⟨s, _, i, hi, hv, hg⟩ := h4 e
        rw [bitsL_length] at hv
        exact ⟨i, hi, by rw [h1, e, hv], s, hg⟩
      have bC : ∀ k, (bitC d p).getD k 0 = 0 ∨ (bitC d p).getD k 0 = 1 := fun k => bit01_getD (fun x hx => by
        obtain ⟨i, _, rfl⟩ := List.mem_map.1 hx
        exact codeB_01 d p i) k
      have lC := bitC_length d p
      (refine calls_intro (hC.body (by decide) tab76) (Nat.le_of_ble_eq_true rfl) ?_); (show wp C _ none B76.code _ _); (simp only [B76]); simp -implicitDefEqProofs (disch := first | assumption | decide | omega | (simp only [wpD1] <;> omega) | (simp only [wpD2] <;> assumption) | solve_by_elim [HSub.refl, HSub.push, HSub.reserve] | fail) only [↓wpPre, wpPost, wpPoly, Int.reduceToNat, Int.reducePow, Int.reduceMul, Int.reduceAdd, Int.reduceSub, Int.reduceNeg, Nat.reduceAdd, Nat.reduceMul, Nat.reducePow, Int.reduceLT, Int.reduceLE, Int.reduceEq, Nat.reduceEqDiff]
      refine ACallsK.eq2 (Length_spec (hC.sub (T' := T70) (by decide)) hd) eL ?_
      simp -implicitDefEqProofs (disch := first | assumption | decide | omega | (simp only [wpD1] <;> omega) | (simp only [wpD2] <;> assumption) | solve_by_elim [HSub.refl, HSub.push, HSub.reserve] | fail) only [↓wpPre, wpPost, wpPoly, Int.reduceToNat, Int.reducePow, Int.reduceMul, Int.reduceAdd, Int.reduceSub, Int.reduceNeg, Nat.reduceAdd, Nat.reduceMul, Nat.reducePow, Int.reduceLT, Int.reduceLE, Int.reduceEq, Nat.reduceEqDiff, tup2]
      refine ACallsK.of (hB t1 (by unfold In64; omega)) ?_
      rintro r h1 ⟨i1, hi1, rfl, s1, g1⟩
      simp -implicitDefEqProofs (disch := first | assumption | decide | omega | (simp only [wpD1] <;> omega) | (simp only [wpD2] <;> assumption) | solve_by_elim [HSub.refl, HSub.push, HSub.reserve] | fail) only [↓wpPre, wpPost, wpPoly, Int.reduceToNat, Int.reducePow, Int.reduceMul, Int.reduceAdd, Int.reduceSub, Int.reduceNeg, Nat.reduceAdd, Nat.reduceMul, Nat.reducePow, Int.reduceLT, Int.reduceLE, Int.reduceEq, Nat.reduceEqDiff, lstErr]
      refine ACallsK.of (hB t2 (by unfold In64; omega)) ?_
      rintro r h2 ⟨i2, hi2, rfl, s2, g2⟩
      have hl1 := Heap.lt_of_get g1
      have hl2 := Heap.lt_of_get g2
      have g1' := (s2.get i1 hl1).trans g1
      have s12 := s1.trans s2
      have z2 := s2.size
      have z1 := s1.size
      by_cases p1 : p = 1
      · have gi1 : h2.get i1 = some (.cells (ints (bitC d p)) true 0) := by rw [p1, codeB_one]; exact g1'
        simp -implicitDefEqProofs (disch := first | assumption | decide | omega | (simp only [wpD1] <;> omega) | (simp only [wpD2] <;> assumption) | solve_by_elim [HSub.refl, HSub.push, HSub.reserve] | fail) only [↓wpPre, wpPost, wpPoly, Int.reduceToNat, Int.reducePow, Int.reduceMul, Int.reduceAdd, Int.reduceSub, Int.reduceNeg, Nat.reduceAdd, Nat.reduceMul, Nat.reducePow, Int.reduceLT, Int.reduceLE, Int.reduceEq, Nat.reduceEqDiff, lstErr]
        have gX : h2.get i1 = some (.cells (ints (mapPre (fun b => 1 - 2 * b) (bitC d p) 0)) true 0) := by rw [mapPre_zero]; exact gi1
        refine wp_loopI (fun j t h' => ∃ k : Nat, HSub h h' ∧ i1 < h'.size ∧ h'.get i1 = some (.cells (ints (mapPre (fun b => 1 - 2 * b) (bitC d p) k)) true 0) ∧ t 8 = .slice i1 0 (lenN d) (.known (lenN d)) ∧ t 68 = .slice i1 0 (lenN d) (.known (lenN d)) ∧ t 69 = .int .i64 (lenN d) ∧ t 70 = .int .i64 (k : Nat) ∧ k ≤ lenN d ∧ j = lenN d - k) (j0 := lenN d)
          ⟨0, s12, Heap.lt_of_get gi1, gX, rfl, rfl, rfl, rfl, by omega, rfl⟩ ?_
        rintro j t h' ⟨k, hs, hlt, hg, e8, e68, e69, e70, hk, hj⟩
        have hml := mapPre_length (fun b => 1 - 2 * b) (bitC d p) k
        simp -implicitDefEqProofs (disch := first | assumption | decide | omega | (simp only [wpD1] <;> omega) | (simp only [wpD2] <;> assumption) | solve_by_elim [HSub.refl, HSub.push, HSub.reserve] | fail) only [↓wpPre, wpPost, wpPoly, Int.reduceToNat, Int.reducePow, Int.reduceMul, Int.reduceAdd, Int.reduceSub, Int.reduceNeg, Nat.reduceAdd, Nat.reduceMul, Nat.reducePow, Int.reduceLT, Int.reduceLE, Int.reduceEq, Nat.reduceEqDiff, e69, e70]
        refine Br.by (fun c1 => ?_) (fun c1 => ?_)
        · have hk' : k < (bitC d p).length := by omega
          have hg2 := mapPre_get (fun b => 1 - 2 * b) hk'
          have hst := mapPre_set (fun b => 1 - 2 * b) hk'
          have b01 := bC k
          simp -implicitDefEqProofs (disch := first | assumption | decide | omega | (simp only [wpD1] <;> omega) | (simp only [wpD2] <;> assumption) | solve_by_elim [HSub.refl, HSub.push, HSub.reserve] | fail) only [↓wpPre, wpPost, wpPoly, Int.reduceToNat, Int.reducePow, Int.reduceMul, Int.reduceAdd, Int.reduceSub, Int.reduceNeg, Nat.reduceAdd, Nat.reduceMul, Nat.reducePow, Int.reduceLT, Int.reduceLE, Int.reduceEq, Nat.reduceEqDiff, e8, e68, e69, e70, hg, hg2]
          exact ⟨_, ⟨k + 1, hs.put (by omega) _, hlt, by rw [← hst], by simp, by omega, rfl⟩, by omega⟩
        · have : k = (bitC d p).length := by omega
          subst this
          rw [mapPre_full] at hg
          simp -implicitDefEqProofs (disch := first | assumption | decide | omega | (simp only [wpD1] <;> omega) | (simp only [wpD2] <;> assumption) | solve_by_elim [HSub.refl, HSub.push, HSub.reserve] | fail) only [↓wpPre, wpPost, wpPoly, Int.reduceToNat, Int.reducePow, Int.reduceMul, Int.reduceAdd, Int.reduceSub, Int.reduceNeg, Nat.reduceAdd, Nat.reduceMul, Nat.reducePow, Int.reduceLT, Int.reduceLE, Int.reduceEq, Nat.reduceEqDiff, e8]
          have cl := codeL_length d p
          have F : Fresh h h' (.slice i1 0 (lenN d) (.known (lenN d))) (codeL d p) := ⟨hs, by omega, i1, by omega, by rw [cl], hg⟩
          exact ⟨_, rfl, hs, by rw [if_pos trivial]; exact F.ri, fun _ => F⟩
      by_cases p2 : p = 2
      · have gi2 : h2.get i2 = some (.cells (ints (bitC d p)) true 0) := by rw [p2, codeB_two]; exact g2
        simp -implicitDefEqProofs (disch := first | assumption | decide | omega | (simp only [wpD1] <;> omega) | (simp only [wpD2] <;> assumption) | solve_by_elim [HSub.refl, HSub.push, HSub.reserve] | fail) only [↓wpPre, wpPost, wpPoly, Int.reduceToNat, Int.reducePow, Int.reduceMul, Int.reduceAdd, Int.reduceSub, Int.reduceNeg, Nat.reduceAdd, Nat.reduceMul, Nat.reducePow, Int.reduceLT, Int.reduceLE, Int.reduceEq, Nat.reduceEqDiff, lstErr]
        have gX : h2.get i2 = some (.cells (ints (mapPre (fun b => 1 - 2 * b) (bitC d p) 0)) true 0) := by rw [mapPre_zero]; exact gi2
        refine wp_loopI (fun j t h' => ∃ k : Nat, HSub h h' ∧ i2 < h'.size ∧ h'.get i2 = some (.cells (ints (mapPre (fun b => 1 - 2 * b) (bitC d p) k)) true 0) ∧ t 8 = .slice i2 0 (lenN d) (.known (lenN d)) ∧ t 68 = .slice i2 0 (lenN d) (.known (lenN d)) ∧ t 69 = .int .i64 (lenN d) ∧ t 70 = .int .i64 (k : Nat) ∧ k ≤ lenN d ∧ j = lenN d - k) (j0 := lenN d)
          ⟨0, s12, Heap.lt_of_get gi2, gX, rfl, rfl, rfl, rfl, by omega, rfl⟩ ?_
        rintro j t h' ⟨k, hs, hlt, hg, e8, e68, e69, e70, hk, hj⟩
        have hml := mapPre_length (fun b => 1 - 2 * b) (bitC d p) k
        simp -implicitDefEqProofs (disch := first | assumption | decide | omega | (simp only [wpD1] <;> omega) | (simp only [wpD2] <;> assumption) | solve_by_elim [HSub.refl, HSub.push, HSub.reserve] | fail) only [↓wpPre, wpPost, wpPoly, Int.reduceToNat, Int.reducePow, Int.reduceMul, Int.reduceAdd, Int.reduceSub, Int.reduceNeg, Nat.reduceAdd, Nat.reduceMul, Nat.reducePow, Int.reduceLT, Int.reduceLE, Int.reduceEq, Nat.reduceEqDiff, e69, e70]
        refine Br.by (fun c1 => ?_) (fun c1 => ?_)
        · have hk' : k < (bitC d p).length := by omega
          have hg2 := mapPre_get (fun b => 1 - 2 * b) hk'
          have hst := mapPre_set (fun b => 1 - 2 * b) hk'
          have b01 := bC k
          simp -implicitDefEqProofs (disch := first | assumption | decide | omega | (simp only [wpD1] <;> omega) | (simp only [wpD2] <;> assumption) | solve_by_elim [HSub.refl, HSub.push, HSub.reserve] | fail) only [↓wpPre, wpPost, wpPoly, Int.reduceToNat, Int.reducePow, Int.reduceMul, Int.reduceAdd, Int.reduceSub, Int.reduceNeg, Nat.reduceAdd, Nat.reduceMul, Nat.reducePow, Int.reduceLT, Int.reduceLE, Int.reduceEq, Nat.reduceEqDiff, e8, e68, e69, e70, hg, hg2]
          exact ⟨_, ⟨k + 1, hs.put (by omega) _, hlt, by rw [← hst], by simp, by omega, rfl⟩, by omega⟩
        · have : k = (bitC d p).length := by omega
          subst this
          rw [mapPre_full] at hg
          simp -implicitDefEqProofs (disch := first | assumption | decide | omega | (simp only [wpD1] <;> omega) | (simp only [wpD2] <;> assumption) | solve_by_elim [HSub.refl, HSub.push, HSub.reserve] | fail) only [↓wpPre, wpPost, wpPoly, Int.reduceToNat, Int.reducePow, Int.reduceMul, Int.reduceAdd, Int.reduceSub, Int.reduceNeg, Nat.reduceAdd, Nat.reduceMul, Nat.reducePow, Int.reduceLT, Int.reduceLE, Int.reduceEq, Nat.reduceEqDiff, e8]
          have cl := codeL_length d p
          have F : Fresh h h' (.slice i2 0 (lenN d) (.known (lenN d))) (codeL d p) := ⟨hs, by omega, i2, by omega, by rw [cl], hg⟩
          exact ⟨_, rfl, hs, by rw [if_pos trivial]; exact F.ri, fun _ => F⟩
      have hp3 : 3 ≤ p := by omega
      have lP := codeP_length d p
      have g0 : h2.get i1 = some (.cells (ints (codeP d p 0)) true 0) := by rw [codeP_zero]; exact g1'
      simp -implicitDefEqProofs (disch := first | assumption | decide | omega | (simp only [wpD1] <;> omega) | (simp only [wpD2] <;> assumption) | solve_by_elim [HSub.refl, HSub.push, HSub.reserve] | fail) only [↓wpPre, wpPost, wpPoly, Int.reduceToNat, Int.reducePow, Int.reduceMul, Int.reduceAdd, Int.reduceSub, Int.reduceNeg, Nat.reduceAdd, Nat.reduceMul, Nat.reducePow, Int.reduceLT, Int.reduceLE, Int.reduceEq, Nat.reduceEqDiff, lstErr]
      refine wp_loopI (fun j t h' => ∃ k : Nat, HSub h h' ∧ i1 < h'.size ∧ h'.get i1 = some (.cells (ints (codeP d p k)) true 0) ∧ h'.get i2 = some (.cells (ints (bitsL d 2)) true 0) ∧ t 1 = .int .i64 p ∧ t 6 = .int .i64 (lenN d) ∧ t 8 = .slice i1 0 (lenN d) (.known (lenN d)) ∧ t 10 = .slice i2 0 (lenN d) (.known (lenN d)) ∧
          t 42 = .slice i1 0 (lenN d) (.known (lenN d)) ∧ t 43 = .int .i64 (lenN d) ∧ t 44 = .int .i64 (k : Nat) ∧ k ≤ lenN d ∧ j = lenN d - k) (j0 := lenN d)
        ⟨0, s12, by omega, g0, g2, rfl, rfl, rfl, rfl, rfl, rfl, rfl, by omega, rfl⟩ ?_
      rintro j t h3 ⟨k, hs3, hlt3, hg1, hg2, e1, e6, e8, e10, e42, e43, e44, hk, hj⟩
      have lPk := lP k
      simp -implicitDefEqProofs (disch := first | assumption | decide | omega | (simp only [wpD1] <;> omega) | (simp only [wpD2] <;> assumption) | solve_by_elim [HSub.refl, HSub.push, HSub.reserve] | fail) only [↓wpPre, wpPost, wpPoly, Int.reduceToNat, Int.reducePow, Int.reduceMul, Int.reduceAdd, Int.reduceSub, Int.reduceNeg, Nat.reduceAdd, Nat.reduceMul, Nat.reducePow, Int.reduceLT, Int.reduceLE, Int.reduceEq, Nat.reduceEqDiff, e43, e44]
      refine Br.by (fun c1 => ?_) (fun c1 => ?_)
      · have hk' : k < lenN d := by omega
        have gP : (codeP d p k).getD k 0 = (bitsL d 1).getD k 0 := by rw [codeP_get hk', if_neg (by omega)]
        have em : ((k : Int) + p - 3) % (lenN d : Int) = (((k + (p - 3).toNat) % lenN d : Nat) : Int) := by
          rw [show (k : Int) + p - 3 = ((k + (p - 3).toNat : Nat) : Int) by omega]; exact (Int.natCast_emod _ _).symm
        have hm : (k + (p - 3).toNat) % lenN d < lenN d := Nat.mod_lt _ (by omega)
        have lb2 := bitsL_length d 2
        have ex := xor01 (bit01_getD (bitsL_01 (d := d) (w := 1)) k) (bit01_getD (bitsL_01 (d := d) (w := 2)) ((k + (p - 3).toNat) % lenN d))
        have hcb : codeB d p k = ((bitsL d 1).getD k 0 + (bitsL d 2).getD ((k + (p - 3).toNat) % lenN d) 0) % 2 := by unfold codeB; rw [if_neg p1, if_neg p2]
        rw [← hcb] at ex
        have hst := codeP_set (p := p) hk'
        simp -implicitDefEqProofs (disch := first | assumption | decide | omega | (simp only [wpD1] <;> omega) | (simp only [wpD2] <;> assumption) | solve_by_elim [HSub.refl, HSub.push, HSub.reserve] | fail) only [↓wpPre, wpPost, wpPoly, Int.reduceToNat, Int.reducePow, Int.reduceMul, Int.reduceAdd, Int.reduceSub, Int.reduceNeg, Nat.reduceAdd, Nat.reduceMul, Nat.reducePow, Int.reduceLT, Int.reduceLE, Int.reduceEq, Nat.reduceEqDiff, e1, e6, e8, e10, e42, e43, e44, hg1, hg2, gP, em, ex, hst]
        exact ⟨_, ⟨k + 1, hs3.put (by omega) _, hlt3, rfl, by simp, by omega, rfl⟩, by omega⟩
      · have ek : k = lenN d := by omega
        rw [ek] at hg1
        have gi3 : h3.get i1 = some (.cells (ints (bitC d p)) true 0) := by rw [← codeP_full]; exact hg1
        simp -implicitDefEqProofs (disch := first | assumption | decide | omega | (simp only [wpD1] <;> omega) | (simp only [wpD2] <;> assumption) | solve_by_elim [HSub.refl, HSub.push, HSub.reserve] | fail) only [↓wpPre, wpPost, wpPoly, Int.reduceToNat, Int.reducePow, Int.reduceMul, Int.reduceAdd, Int.reduceSub, Int.reduceNeg, Nat.reduceAdd, Nat.reduceMul, Nat.reducePow, Int.reduceLT, Int.reduceLE, Int.reduceEq, Nat.reduceEqDiff, e8]
        have gX : h3.get i1 = some (.cells (ints (mapPre (fun b => 1 - 2 * b) (bitC d p) 0)) true 0) := by rw [mapPre_zero]; exact gi3
        refine wp_loopI (fun j t h' => ∃ k : Nat, HSub h h' ∧ i1 < h'.size ∧ h'.get i1 = some (.cells (ints (mapPre (fun b => 1 - 2 * b) (bitC d p) k)) true 0) ∧ t 8 = .slice i1 0 (lenN d) (.known (lenN d)) ∧ t 68 = .slice i1 0 (lenN d) (.known (lenN d)) ∧ t 69 = .int .i64 (lenN d) ∧ t 70 = .int .i64 (k : Nat) ∧ k ≤ lenN d ∧ j = lenN d - k) (j0 := lenN d)
          ⟨0, hs3, Heap.lt_of_get gi3, gX, e8, rfl, rfl, rfl, by omega, rfl⟩ ?_
        rintro j u h' ⟨k, hs, hlt, hg, f8, e68, e69, e70, hk, hj⟩
        have hml := mapPre_length (fun b => 1 - 2 * b) (bitC d p) k
        simp -implicitDefEqProofs (disch := first | assumption | decide | omega | (simp only [wpD1] <;> omega) | (simp only [wpD2] <;> assumption) | solve_by_elim [HSub.refl, HSub.push, HSub.reserve] | fail) only [↓wpPre, wpPost, wpPoly, Int.reduceToNat, Int.reducePow, Int.reduceMul, Int.reduceAdd, Int.reduceSub, Int.reduceNeg, Nat.reduceAdd, Nat.reduceMul, Nat.reducePow, Int.reduceLT, Int.reduceLE, Int.reduceEq, Nat.reduceEqDiff, e69, e70]
        refine Br.by (fun c1 => ?_) (fun c1 => ?_)
        · have hk' : k < (bitC d p).length := by omega
          have hg2 := mapPre_get (fun b => 1 - 2 * b) hk'
          have hst := mapPre_set (fun b => 1 - 2 * b) hk'
          have b01 := bC k
          simp -implicitDefEqProofs (disch := first | assumption | decide | omega | (simp only [wpD1] <;> omega) | (simp only [wpD2] <;> assumption) | solve_by_elim [HSub.refl, HSub.push, HSub.reserve] | fail) only [↓wpPre, wpPost, wpPoly, Int.reduceToNat, Int.reducePow, Int.reduceMul, Int.reduceAdd, Int.reduceSub, Int.reduceNeg, Nat.reduceAdd, Nat.reduceMul, Nat.reducePow, Int.reduceLT, Int.reduceLE, Int.reduceEq, Nat.reduceEqDiff, f8, e68, e69, e70, hg, hg2]
          exact ⟨_, ⟨k + 1, hs.put (by omega) _, hlt, by rw [← hst], by simp, by omega, rfl⟩, by omega⟩
        · have : k = (bitC d p).length := by omega
          subst this
          rw [mapPre_full] at hg
          simp -implicitDefEqProofs (disch := first | assumption | decide | omega | (simp only [wpD1] <;> omega) | (simp only [wpD2] <;> assumption) | solve_by_elim [HSub.refl, HSub.push, HSub.reserve] | fail) only [↓wpPre, wpPost, wpPoly, Int.reduceToNat, Int.reducePow, Int.reduceMul, Int.reduceAdd, Int.reduceSub, Int.reduceNeg, Nat.reduceAdd, Nat.reduceMul, Nat.reducePow, Int.reduceLT, Int.reduceLE, Int.reduceEq, Nat.reduceEqDiff, f8]
          have cl := codeL_length d p
          have F : Fresh h h' (.slice i1 0 (lenN d) (.known (lenN d))) (codeL d p) := ⟨hs, by omega, i1, by omega, by rw [cl], hg⟩
          exact ⟨_, rfl, hs, by rw [if_pos trivial]; exact F.ri, fun _ => F⟩
    · have cp' : ¬ (lenOk d = true ∧ 1 ≤ p ∧ p ≤ lenN d + 2) := fun h => cp h.2
      rw [if_neg cp'] at pe
      rw [pe]
      (refine calls_intro (hC.body (by decide) tab76) (Nat.le_of_ble_eq_true rfl) ?_); (show wp C _ none B76.code _ _); (simp only [B76]); simp -implicitDefEqProofs (disch := first | assumption | decide | omega | (simp only [wpD1] <;> omega) | (simp only [wpD2] <;> assumption) | solve_by_elim [HSub.refl, HSub.push, HSub.reserve] | fail) only [↓wpPre, wpPost, wpPoly, Int.reduceToNat, Int.reducePow, Int.reduceMul, Int.reduceAdd, Int.reduceSub, Int.reduceNeg, Nat.reduceAdd, Nat.reduceMul, Nat.reducePow, Int.reduceLT, Int.reduceLE, Int.reduceEq, Nat.reduceEqDiff]
      refine ACallsK.eq2 (Length_spec (hC.sub (T' := T70) (by decide)) hd) eL ?_
      simp -implicitDefEqProofs (disch := first | assumption | decide | omega | (simp only [wpD1] <;> omega) | (simp only [wpD2] <;> assumption) | solve_by_elim [HSub.refl, HSub.push, HSub.reserve] | fail) only [↓wpPre, wpPost, wpPoly, Int.reduceToNat, Int.reducePow, Int.reduceMul, Int.reduceAdd, Int.reduceSub, Int.reduceNeg, Nat.reduceAdd, Nat.reduceMul, Nat.reducePow, Int.reduceLT, Int.reduceLE, Int.reduceEq, Nat.reduceEqDiff, tup2]
      (repeat' (first | (refine Br.by (fun _ => ?_) (fun _ => ?_)) | (simp -implicitDefEqProofs (disch := first | assumption | decide | omega | (simp only [wpD1] <;> omega) | (simp only [wpD2] <;> assumption) | solve_by_elim [HSub.refl, HSub.push, HSub.reserve] | fail) only [↓wpPre, wpPost, wpPoly, Int.reduceToNat, Int.reducePow, Int.reduceMul, Int.reduceAdd, Int.reduceSub, Int.reduceNeg, Nat.reduceAdd, Nat.reduceMul, Nat.reducePow, Int.reduceLT, Int.reduceLE, Int.reduceEq, Nat.reduceEqDiff])))
      all_goals first | exact ⟨.nilslice, by rw [lstErr], HSub.refl _, by rw [if_neg id]; exact RI.nil⟩ | omega
  · have eL : lenE d = tup2 0 2 := by unfold lenE; rw [if_neg c]
    have cp' : ¬ (lenOk d = true ∧ 1 ≤ p ∧ p ≤ lenN d + 2) := fun h => c h.1
    rw [if_neg cp'] at pe
    rw [pe]
    (refine calls_intro (hC.body (by decide) tab76) (Nat.le_of_ble_eq_true rfl) ?_); (show wp C _ none B76.code _ _); (simp only [B76]); simp -implicitDefEqProofs (disch := first | assumption | decide | omega | (simp only [wpD1] <;> omega) | (simp only [wpD2] <;> assumption) | solve_by_elim [HSub.refl, HSub.push, HSub.reserve] | fail) only [↓wpPre, wpPost, wpPoly, Int.reduceToNat, Int.reducePow, Int.reduceMul, Int.reduceAdd, Int.reduceSub, Int.reduceNeg, Nat.reduceAdd, Nat.reduceMul, Nat.reducePow, Int.reduceLT, Int.reduceLE, Int.reduceEq, Nat.reduceEqDiff]
    refine ACallsK.eq2 (Length_spec (hC.sub (T' := T70) (by decide)) hd) eL ?_
    simp -implicitDefEqProofs (disch := first | assumption | decide | omega | (simp only [wpD1] <;> omega) | (simp only [wpD2] <;> assumption) | solve_by_elim [HSub.refl, HSub.push, HSub.reserve] | fail) only [↓wpPre, wpPost, wpPoly, Int.reduceToNat, Int.reducePow, Int.reduceMul, Int.reduceAdd, Int.reduceSub, Int.reduceNeg, Nat.reduceAdd, Nat.reduceMul, Nat.reducePow, Int.reduceLT, Int.reduceLE, Int.reduceEq, Nat.reduceEqDiff, tup2]
    exact ⟨.nilslice, by rw [lstErr], HSub.refl _, by rw [if_neg id]; exact RI.nil⟩
end
end Go.Ae

/- Plans are checked: the program and the reference. -/
set_option linter.unusedSimpArgs false
set_option linter.unusedVariables false
namespace Go.Ae
def plA (p : PlanP) (vp : AV) : AV := .agg [.int .i64 p.d, .int .i64 p.o, .int .i64 p.pb, .int .i64 p.w, .int .i64 p.mn, .int .i64 p.mx, .int .i64 p.nz, vp]
def plC (p : PlanP) (vp : AV) : List AV := [.int .i64 p.d, .int .i64 p.o, .int .i64 p.pb, .int .i64 p.w, .int .i64 p.mn, .int .i64 p.mx, .int .i64 p.nz, vp]
theorem prns_step (n : Int) (l : List Int) (k : Nat) (hk : k < l.length) : prnsErr n (l.take k) (l.drop k) = if ¬(1 ≤ l.getD k 0 ∧ l.getD k 0 ≤ n + 2) then 2 else if ((l.take k).any fun y => l.getD k 0 == y) = true then 8 else prnsErr n (l.take (k + 1)) (l.drop (k + 1)) := by
  rw [List.drop_eq_getElem_cons hk, prnsErr, take_succ_getD hk, List.getD_eq_getElem?_getD, List.getElem?_eq_getElem hk]
  rfl
section
variable {C : Ctx}
theorem within237_spec (hC : Has C T237) {x lo hi : Int} {h : Heap} : ACalls C 237 [.int .i64 x, .int .i64 lo, .int .i64 hi] h (fun r h' => r = .bool (decide (lo ≤ x ∧ x ≤ hi)) ∧ h' = h) := by
  (refine calls_intro (hC.body (by decide) tab237) (Nat.le_of_ble_eq_true rfl) ?_); (show wp C _ none B237.code _ _); (simp only [B237]); simp -implicitDefEqProofs (disch := first | assumption | decide | omega | (simp only [wpD1] <;> omega) | (simp only [wpD2] <;> assumption) | solve_by_elim [HSub.refl, HSub.push, HSub.reserve] | fail) only [↓wpPre, wpPost, wpPoly, Int.reduceToNat, Int.reducePow, Int.reduceMul, Int.reduceAdd, Int.reduceSub, Int.reduceNeg, Nat.reduceAdd, Nat.reduceMul, Nat.reducePow, Int.reduceLT, Int.reduceLE, Int.reduceEq, Nat.reduceEqDiff]
  by_cases c : lo ≤ x
  · simp -implicitDefEqProofs (disch := first | assumption | decide | omega | (simp only [wpD1] <;> omega) | (simp only [wpD2] <;> assumption) | solve_by_elim [HSub.refl, HSub.push, HSub.reserve] | fail) only [↓wpPre, wpPost, wpPoly, Int.reduceToNat, Int.reducePow, Int.reduceMul, Int.reduceAdd, Int.reduceSub, Int.reduceNeg, Nat.reduceAdd, Nat.reduceMul, Nat.reducePow, Int.reduceLT, Int.reduceLE, Int.reduceEq, Nat.reduceEqDiff, gV_u, c]
  · simp -implicitDefEqProofs (disch := first | assumption | decide | omega | (simp only [wpD1] <;> omega) | (simp only [wpD2] <;> assumption) | solve_by_elim [HSub.refl, HSub.push, HSub.reserve] | fail) only [↓wpPre, wpPost, wpPoly, Int.reduceToNat, Int.reducePow, Int.reduceMul, Int.reduceAdd, Int.reduceSub, Int.reduceNeg, Nat.reduceAdd, Nat.reduceMul, Nat.reducePow, Int.reduceLT, Int.reduceLE, Int.reduceEq, Nat.reduceEqDiff, gV_u, c]
    simp
set_option maxHeartbeats 1000000 in
theorem CheckPlan_spec (hC : Has C T219) {v : AV} {p : PlanP} {h : Heap} (hp : PlI h v p) (h64 : p.ok64) : ACalls C 219 [v] h (fun r h' => r = .int .i64 p.err ∧ h' = h) := by
  refine ACalls.gc0 (P := fun r h' => r = .int .i64 p.err ∧ HSub h h') ?_ (fun r h' hp => ⟨by rw [hp.1]; trivial, hp.2, hp.1, rfl⟩)
  obtain ⟨vp, rfl, R⟩ := hp
  have v1 := R.one
  have hlt := R.lt
  obtain ⟨i1, i2, i3, i4, i5, i6, i7, i8⟩ := h64
  have W := fun x lo hi h => within237_spec (x := x) (lo := lo) (hi := hi) (h := h) (hC.sub (T' := T237) (by decide))
  have L := fun h => Length_spec (hC.sub (T' := T70) (by decide)) (h := h) i1
  have e2 : ¬ p.numsOk → p.err = 2 := fun q => by unfold PlanP.err; rw [if_neg q]
  have s1 : ∀ b, HSub h (h.push b) := HSub.push1 h
  have e3 : p.numsOk → p.err = if p.prns.length = 0 then 3 else if 8 < p.prns.length then 4 else prnsErr (lenN p.d) [] p.prns := fun q => by unfold PlanP.err; rw [if_pos q]
  have eN : p.numsOk ↔ lenOk p.d = true ∧ (1 ≤ p.o ∧ p.o ≤ 8) ∧ (1 ≤ p.pb ∧ p.pb ≤ 20) ∧ (2 ≤ p.w ∧ p.w ≤ 10) ∧ (1 ≤ p.mn ∧ p.mn ≤ p.mx) ∧ p.mx ≤ 1000 ∧ (0 ≤ p.nz ∧ p.nz ≤ 100000) := Iff.rfl
  generalize p.err = E at *
  generalize p.numsOk = Q at *
  obtain ⟨d, o, pb, w, mn, mx, nz, prns⟩ := p
  dsimp only at *
  have q1 : ∀ b, Q → False → HSub h (h.push b) := fun b _ f => f.elim
  by_cases c1 : lenOk d = true
  · have el : lenE d = tup2 (lenN d) 0 := by unfold lenE; rw [if_pos c1]
    simp only [el] at L
    have hN := lenN_eq c1
    (refine calls_intro (hC.body (by decide) tab219) (Nat.le_of_ble_eq_true rfl) ?_); (show wp C _ none B219.code _ _); (simp only [B219]); simp -implicitDefEqProofs (disch := first | assumption | decide | omega | (simp only [wpD1] <;> omega) | (simp only [wpD2] <;> assumption) | solve_by_elim [HSub.refl, HSub.push, HSub.reserve] | fail) only [↓wpPre, wpPost, wpPoly, Int.reduceToNat, Int.reducePow, Int.reduceMul, Int.reduceAdd, Int.reduceSub, Int.reduceNeg, Nat.reduceAdd, Nat.reduceMul, Nat.reducePow, Int.reduceLT, Int.reduceLE, Int.reduceEq, Nat.reduceEqDiff]
    refine ACallsK.eq (L _) ?_
    simp -implicitDefEqProofs (disch := first | assumption | decide | omega | (simp only [wpD1] <;> omega) | (simp only [wpD2] <;> assumption) | solve_by_elim [HSub.refl, HSub.push, HSub.reserve] | fail) only [↓wpPre, wpPost, wpPoly, Int.reduceToNat, Int.reducePow, Int.reduceMul, Int.reduceAdd, Int.reduceSub, Int.reduceNeg, Nat.reduceAdd, Nat.reduceMul, Nat.reducePow, Int.reduceLT, Int.reduceLE, Int.reduceEq, Nat.reduceEqDiff, tup2]
    refine ACallsK.eq (W _ _ _ _) ?_
    by_cases c2 : 1 ≤ o ∧ o ≤ 8
    · simp -implicitDefEqProofs (disch := first | assumption | decide | omega | (simp only [wpD1] <;> omega) | (simp only [wpD2] <;> assumption) | solve_by_elim [HSub.refl, HSub.push, HSub.reserve] | fail) only [↓wpPre, wpPost, wpPoly, Int.reduceToNat, Int.reducePow, Int.reduceMul, Int.reduceAdd, Int.reduceSub, Int.reduceNeg, Nat.reduceAdd, Nat.reduceMul, Nat.reducePow, Int.reduceLT, Int.reduceLE, Int.reduceEq, Nat.reduceEqDiff, c2]
      refine ACallsK.eq (W _ _ _ _) ?_
      by_cases c3 : 1 ≤ pb ∧ pb ≤ 20
      · simp -implicitDefEqProofs (disch := first | assumption | decide | omega | (simp only [wpD1] <;> omega) | (simp only [wpD2] <;> assumption) | solve_by_elim [HSub.refl, HSub.push, HSub.reserve] | fail) only [↓wpPre, wpPost, wpPoly, Int.reduceToNat, Int.reducePow, Int.reduceMul, Int.reduceAdd, Int.reduceSub, Int.reduceNeg, Nat.reduceAdd, Nat.reduceMul, Nat.reducePow, Int.reduceLT, Int.reduceLE, Int.reduceEq, Nat.reduceEqDiff, c3]
        refine ACallsK.eq (W _ _ _ _) ?_
        by_cases c4 : 2 ≤ w ∧ w ≤ 10
        · simp -implicitDefEqProofs (disch := first | assumption | decide | omega | (simp only [wpD1] <;> omega) | (simp only [wpD2] <;> assumption) | solve_by_elim [HSub.refl, HSub.push, HSub.reserve] | fail) only [↓wpPre, wpPost, wpPoly, Int.reduceToNat, Int.reducePow, Int.reduceMul, Int.reduceAdd, Int.reduceSub, Int.reduceNeg, Nat.reduceAdd, Nat.reduceMul, Nat.reducePow, Int.reduceLT, Int.reduceLE, Int.reduceEq, Nat.reduceEqDiff, c4]
          refine ACallsK.eq (W _ _ _ _) ?_
          by_cases c5 : 1 ≤ mn ∧ mn ≤ mx
          · simp -implicitDefEqProofs (disch := first | assumption | decide | omega | (simp only [wpD1] <;> omega) | (simp only [wpD2] <;> assumption) | solve_by_elim [HSub.refl, HSub.push, HSub.reserve] | fail) only [↓wpPre, wpPost, wpPoly, Int.reduceToNat, Int.reducePow, Int.reduceMul, Int.reduceAdd, Int.reduceSub, Int.reduceNeg, Nat.reduceAdd, Nat.reduceMul, Nat.reducePow, Int.reduceLT, Int.reduceLE, Int.reduceEq, Nat.reduceEqDiff, c5]
            by_cases c6 : mx ≤ 1000
            · simp -implicitDefEqProofs (disch := first | assumption | decide | omega | (simp only [wpD1] <;> omega) | (simp only [wpD2] <;> assumption) | solve_by_elim [HSub.refl, HSub.push, HSub.reserve] | fail) only [↓wpPre, wpPost, wpPoly, Int.reduceToNat, Int.reducePow, Int.reduceMul, Int.reduceAdd, Int.reduceSub, Int.reduceNeg, Nat.reduceAdd, Nat.reduceMul, Nat.reducePow, Int.reduceLT, Int.reduceLE, Int.reduceEq, Nat.reduceEqDiff, c6]
              refine ACallsK.eq (W _ _ _ _) ?_
              by_cases c7 : 0 ≤ nz ∧ nz ≤ 100000
              · simp -implicitDefEqProofs (disch := first | assumption | decide | omega | (simp only [wpD1] <;> omega) | (simp only [wpD2] <;> assumption) | solve_by_elim [HSub.refl, HSub.push, HSub.reserve] | fail) only [↓wpPre, wpPost, wpPoly, Int.reduceToNat, Int.reducePow, Int.reduceMul, Int.reduceAdd, Int.reduceSub, Int.reduceNeg, Nat.reduceAdd, Nat.reduceMul, Nat.reducePow, Int.reduceLT, Int.reduceLE, Int.reduceEq, Nat.reduceEqDiff, c7]
                have e := e3 (eN.2 ⟨c1, c2, c3, c4, c5, c6, c7⟩)
                by_cases c8 : prns.length = 0
                · rw [if_pos c8] at e
                  simp -implicitDefEqProofs (disch := first | assumption | decide | omega | (simp only [wpD1] <;> omega) | (simp only [wpD2] <;> assumption) | solve_by_elim [HSub.refl, HSub.push, HSub.reserve] | fail) only [↓wpPre, wpPost, wpPoly, Int.reduceToNat, Int.reducePow, Int.reduceMul, Int.reduceAdd, Int.reduceSub, Int.reduceNeg, Nat.reduceAdd, Nat.reduceMul, Nat.reducePow, Int.reduceLT, Int.reduceLE, Int.reduceEq, Nat.reduceEqDiff, R.len, c8]
                  exact ⟨e.symm, s1 _⟩
                · rw [if_neg c8] at e
                  by_cases c9 : 8 < prns.length
                  · rw [if_pos c9] at e
                    simp -implicitDefEqProofs (disch := first | assumption | decide | omega | (simp only [wpD1] <;> omega) | (simp only [wpD2] <;> assumption) | solve_by_elim [HSub.refl, HSub.push, HSub.reserve] | fail) only [↓wpPre, wpPost, wpPoly, Int.reduceToNat, Int.reducePow, Int.reduceMul, Int.reduceAdd, Int.reduceSub, Int.reduceNeg, Nat.reduceAdd, Nat.reduceMul, Nat.reducePow, Int.reduceLT, Int.reduceLE, Int.reduceEq, Nat.reduceEqDiff, R.len, c8, c9]
                    exact ⟨e.symm, s1 _⟩
                  · rw [if_neg c9] at e
                    simp -implicitDefEqProofs (disch := first | assumption | decide | omega | (simp only [wpD1] <;> omega) | (simp only [wpD2] <;> assumption) | solve_by_elim [HSub.refl, HSub.push, HSub.reserve] | fail) only [↓wpPre, wpPost, wpPoly, Int.reduceToNat, Int.reducePow, Int.reduceMul, Int.reduceAdd, Int.reduceSub, Int.reduceNeg, Nat.reduceAdd, Nat.reduceMul, Nat.reducePow, Int.reduceLT, Int.reduceLE, Int.reduceEq, Nat.reduceEqDiff, R.len, c8, c9]
                    refine wp_loopI (fun j t h' => HSub h h' ∧ h.size < h'.size ∧ h'.get h.size = some (.cells [.int .i64 d, .int .i64 o, .int .i64 pb, .int .i64 w, .int .i64 mn, .int .i64 mx, .int .i64 nz, vp] true 0) ∧ ∃ k : Nat, prnsErr (lenN d) (prns.take k) (prns.drop k) = E ∧ t 1 = .ptr h.size 0 ∧ t 3 = .int .i64 (lenN d) ∧ t 5 = .func 237 [] [] ∧ t 58 = vp ∧ t 59 = .int .i64 (prns.length : Nat) ∧ t 60 = .int .i64 (k : Nat) ∧ k ≤ prns.length ∧ j = prns.length - k) (j0 := prns.length)
                      ⟨s1 _, by simp, by simp -implicitDefEqProofs (disch := first | assumption | decide | omega | (simp only [wpD1] <;> omega) | (simp only [wpD2] <;> assumption) | solve_by_elim [HSub.refl, HSub.push, HSub.reserve] | fail) only [↓wpPre, wpPost, wpPoly, Int.reduceToNat, Int.reducePow, Int.reduceMul, Int.reduceAdd, Int.reduceSub, Int.reduceNeg, Nat.reduceAdd, Nat.reduceMul, Nat.reducePow, Int.reduceLT, Int.reduceLE, Int.reduceEq, Nat.reduceEqDiff], 0, e.symm, rfl, rfl, rfl, rfl, rfl, rfl, by omega, rfl⟩ ?_
                    rintro j t h1 ⟨t1, hz, gp, k, ek, e1, e3, e5, e58, e59, e60, hk, hj⟩
                    simp -implicitDefEqProofs (disch := first | assumption | decide | omega | (simp only [wpD1] <;> omega) | (simp only [wpD2] <;> assumption) | solve_by_elim [HSub.refl, HSub.push, HSub.reserve] | fail) only [↓wpPre, wpPost, wpPoly, Int.reduceToNat, Int.reducePow, Int.reduceMul, Int.reduceAdd, Int.reduceSub, Int.reduceNeg, Nat.reduceAdd, Nat.reduceMul, Nat.reducePow, Int.reduceLT, Int.reduceLE, Int.reduceEq, Nat.reduceEqDiff, e59, e60]
                    refine Br.by (fun d1 => ?_) (fun d1 => ?_)
                    · have hk' : k < prns.length := by omega
                      have R1 := R.mono t1
                      have ld := R1.load hk'
                      have st := prns_step (lenN d) prns k hk'
                      rw [ek] at st
                      have hx := i8 _ (getD_mem hk')
                      have pt := R1.part_b (k2 := .i64) (b := (k : Int)) ⟨by omega, by omega⟩
                      obtain ⟨v', hv', R'⟩ := pt
                      rw [Int.toNat_natCast] at R'
                      have ct := Contains_spec (hC.sub (T' := T89) (by decide)) (x := prns.getD k 0) R'
                      have ctn := fun h2 (q : HSub h1 h2) => Contains_spec (hC.sub (T' := T89) (by decide)) (x := prns.getD k 0) (R'.mono q)
                      generalize prns.getD k 0 = x at *
                      simp -implicitDefEqProofs (disch := first | assumption | decide | omega | (simp only [wpD1] <;> omega) | (simp only [wpD2] <;> assumption) | solve_by_elim [HSub.refl, HSub.push, HSub.reserve] | fail) only [↓wpPre, wpPost, wpPoly, Int.reduceToNat, Int.reducePow, Int.reduceMul, Int.reduceAdd, Int.reduceSub, Int.reduceNeg, Nat.reduceAdd, Nat.reduceMul, Nat.reducePow, Int.reduceLT, Int.reduceLE, Int.reduceEq, Nat.reduceEqDiff, e1, e3, e5, e58, e60, R1.idx, ld]
                      refine ACallsK.eq (W _ _ _ _) ?_
                      by_cases d2 : 1 ≤ x ∧ x ≤ (lenN d : Int) + 2
                      · rw [if_neg (fun q => q d2)] at st
                        simp -implicitDefEqProofs (disch := first | assumption | decide | omega | (simp only [wpD1] <;> omega) | (simp only [wpD2] <;> assumption) | solve_by_elim [HSub.refl, HSub.push, HSub.reserve] | fail) only [↓wpPre, wpPost, wpPoly, Int.reduceToNat, Int.reducePow, Int.reduceMul, Int.reduceAdd, Int.reduceSub, Int.reduceNeg, Nat.reduceAdd, Nat.reduceMul, Nat.reducePow, Int.reduceLT, Int.reduceLE, Int.reduceEq, Nat.reduceEqDiff, d2, e1, gp, hv', e60]
                        refine ACallsK.eq (ctn _ (by repeat (first | exact HSub.refl h1 | refine HSub.put ?_ (by (try simp only [Heap.size_put, Heap.size_push, Heap.size_reserve]); omega) _ | refine HSub.push ?_ _ | refine HSub.reserve ?_ _))) ?_
                        by_cases d3 : ((prns.take k).any fun y => x == y) = true
                        · rw [if_pos d3] at st
                          simp -implicitDefEqProofs (disch := first | assumption | decide | omega | (simp only [wpD1] <;> omega) | (simp only [wpD2] <;> assumption) | solve_by_elim [HSub.refl, HSub.push, HSub.reserve] | fail) only [↓wpPre, wpPost, wpPoly, Int.reduceToNat, Int.reducePow, Int.reduceMul, Int.reduceAdd, Int.reduceSub, Int.reduceNeg, Nat.reduceAdd, Nat.reduceMul, Nat.reducePow, Int.reduceLT, Int.reduceLE, Int.reduceEq, Nat.reduceEqDiff, d3]
                          exact ⟨st.symm, (by repeat (first | exact t1 | refine HSub.put ?_ (by (try simp only [Heap.size_put, Heap.size_push, Heap.size_reserve]); omega) _ | refine HSub.push ?_ _ | refine HSub.reserve ?_ _))⟩
                        · rw [if_neg d3] at st
                          have d4 : ((prns.take k).any fun y => x == y) = false := Bool.eq_false_iff.2 d3
                          simp -implicitDefEqProofs (disch := first | assumption | decide | omega | (simp only [wpD1] <;> omega) | (simp only [wpD2] <;> assumption) | solve_by_elim [HSub.refl, HSub.push, HSub.reserve] | fail) only [↓wpPre, wpPost, wpPoly, Int.reduceToNat, Int.reducePow, Int.reduceMul, Int.reduceAdd, Int.reduceSub, Int.reduceNeg, Nat.reduceAdd, Nat.reduceMul, Nat.reducePow, Int.reduceLT, Int.reduceLE, Int.reduceEq, Nat.reduceEqDiff, d4, e1, e3, e5, e58, e59, e60]
                          exact ⟨_, ⟨t1, hz, gp, k + 1, st.symm, by simp, by omega, rfl⟩, by omega⟩
                      · rw [if_pos d2] at st
                        simp -implicitDefEqProofs (disch := first | assumption | decide | omega | (simp only [wpD1] <;> omega) | (simp only [wpD2] <;> assumption) | solve_by_elim [HSub.refl, HSub.push, HSub.reserve] | fail) only [↓wpPre, wpPost, wpPoly, Int.reduceToNat, Int.reducePow, Int.reduceMul, Int.reduceAdd, Int.reduceSub, Int.reduceNeg, Nat.reduceAdd, Nat.reduceMul, Nat.reducePow, Int.reduceLT, Int.reduceLE, Int.reduceEq, Nat.reduceEqDiff, d2]
                        exact ⟨st.symm, (by repeat (first | exact t1 | refine HSub.put ?_ (by (try simp only [Heap.size_put, Heap.size_push, Heap.size_reserve]); omega) _ | refine HSub.push ?_ _ | refine HSub.reserve ?_ _))⟩
                    · have ek2 : k = prns.length := by omega
                      subst ek2
                      rw [List.drop_length, prnsErr] at ek
                      simp -implicitDefEqProofs (disch := first | assumption | decide | omega | (simp only [wpD1] <;> omega) | (simp only [wpD2] <;> assumption) | solve_by_elim [HSub.refl, HSub.push, HSub.reserve] | fail) only [↓wpPre, wpPost, wpPoly, Int.reduceToNat, Int.reducePow, Int.reduceMul, Int.reduceAdd, Int.reduceSub, Int.reduceNeg, Nat.reduceAdd, Nat.reduceMul, Nat.reducePow, Int.reduceLT, Int.reduceLE, Int.reduceEq, Nat.reduceEqDiff]
                      exact ⟨ek, t1⟩
              · have e := e2 (fun q => c7 (eN.1 q).2.2.2.2.2.2)
                simp -implicitDefEqProofs (disch := first | assumption | decide | omega | (simp only [wpD1] <;> omega) | (simp only [wpD2] <;> assumption) | solve_by_elim [HSub.refl, HSub.push, HSub.reserve] | fail) only [↓wpPre, wpPost, wpPoly, Int.reduceToNat, Int.reducePow, Int.reduceMul, Int.reduceAdd, Int.reduceSub, Int.reduceNeg, Nat.reduceAdd, Nat.reduceMul, Nat.reducePow, Int.reduceLT, Int.reduceLE, Int.reduceEq, Nat.reduceEqDiff, c7]
                exact ⟨e.symm, s1 _⟩
            · have e := e2 (fun q => c6 (eN.1 q).2.2.2.2.2.1)
              simp -implicitDefEqProofs (disch := first | assumption | decide | omega | (simp only [wpD1] <;> omega) | (simp only [wpD2] <;> assumption) | solve_by_elim [HSub.refl, HSub.push, HSub.reserve] | fail) only [↓wpPre, wpPost, wpPoly, Int.reduceToNat, Int.reducePow, Int.reduceMul, Int.reduceAdd, Int.reduceSub, Int.reduceNeg, Nat.reduceAdd, Nat.reduceMul, Nat.reducePow, Int.reduceLT, Int.reduceLE, Int.reduceEq, Nat.reduceEqDiff, c6]
              exact ⟨e.symm, s1 _⟩
          · have e := e2 (fun q => c5 (eN.1 q).2.2.2.2.1)
            simp -implicitDefEqProofs (disch := first | assumption | decide | omega | (simp only [wpD1] <;> omega) | (simp only [wpD2] <;> assumption) | solve_by_elim [HSub.refl, HSub.push, HSub.reserve] | fail) only [↓wpPre, wpPost, wpPoly, Int.reduceToNat, Int.reducePow, Int.reduceMul, Int.reduceAdd, Int.reduceSub, Int.reduceNeg, Nat.reduceAdd, Nat.reduceMul, Nat.reducePow, Int.reduceLT, Int.reduceLE, Int.reduceEq, Nat.reduceEqDiff, c5]
            exact ⟨e.symm, s1 _⟩
        · have e := e2 (fun q => c4 (eN.1 q).2.2.2.1)
          simp -implicitDefEqProofs (disch := first | assumption | decide | omega | (simp only [wpD1] <;> omega) | (simp only [wpD2] <;> assumption) | solve_by_elim [HSub.refl, HSub.push, HSub.reserve] | fail) only [↓wpPre, wpPost, wpPoly, Int.reduceToNat, Int.reducePow, Int.reduceMul, Int.reduceAdd, Int.reduceSub, Int.reduceNeg, Nat.reduceAdd, Nat.reduceMul, Nat.reducePow, Int.reduceLT, Int.reduceLE, Int.reduceEq, Nat.reduceEqDiff, c4]
          exact ⟨e.symm, s1 _⟩
      · have e := e2 (fun q => c3 (eN.1 q).2.2.1)
        simp -implicitDefEqProofs (disch := first | assumption | decide | omega | (simp only [wpD1] <;> omega) | (simp only [wpD2] <;> assumption) | solve_by_elim [HSub.refl, HSub.push, HSub.reserve] | fail) only [↓wpPre, wpPost, wpPoly, Int.reduceToNat, Int.reducePow, Int.reduceMul, Int.reduceAdd, Int.reduceSub, Int.reduceNeg, Nat.reduceAdd, Nat.reduceMul, Nat.reducePow, Int.reduceLT, Int.reduceLE, Int.reduceEq, Nat.reduceEqDiff, c3]
        exact ⟨e.symm, s1 _⟩
    · have e := e2 (fun q => c2 (eN.1 q).2.1)
      simp -implicitDefEqProofs (disch := first | assumption | decide | omega | (simp only [wpD1] <;> omega) | (simp only [wpD2] <;> assumption) | solve_by_elim [HSub.refl, HSub.push, HSub.reserve] | fail) only [↓wpPre, wpPost, wpPoly, Int.reduceToNat, Int.reducePow, Int.reduceMul, Int.reduceAdd, Int.reduceSub, Int.reduceNeg, Nat.reduceAdd, Nat.reduceMul, Nat.reducePow, Int.reduceLT, Int.reduceLE, Int.reduceEq, Nat.reduceEqDiff, c2]
      exact ⟨e.symm, s1 _⟩
  · have el : lenE d = tup2 0 2 := by unfold lenE; rw [if_neg c1]
    simp only [el] at L
    have e := e2 (fun q => c1 (eN.1 q).1)
    (refine calls_intro (hC.body (by decide) tab219) (Nat.le_of_ble_eq_true rfl) ?_); (show wp C _ none B219.code _ _); (simp only [B219]); simp -implicitDefEqProofs (disch := first | assumption | decide | omega | (simp only [wpD1] <;> omega) | (simp only [wpD2] <;> assumption) | solve_by_elim [HSub.refl, HSub.push, HSub.reserve] | fail) only [↓wpPre, wpPost, wpPoly, Int.reduceToNat, Int.reducePow, Int.reduceMul, Int.reduceAdd, Int.reduceSub, Int.reduceNeg, Nat.reduceAdd, Nat.reduceMul, Nat.reducePow, Int.reduceLT, Int.reduceLE, Int.reduceEq, Nat.reduceEqDiff]
    refine ACallsK.eq (L _) ?_
    simp -implicitDefEqProofs (disch := first | assumption | decide | omega | (simp only [wpD1] <;> omega) | (simp only [wpD2] <;> assumption) | solve_by_elim [HSub.refl, HSub.push, HSub.reserve] | fail) only [↓wpPre, wpPost, wpPoly, Int.reduceToNat, Int.reducePow, Int.reduceMul, Int.reduceAdd, Int.reduceSub, Int.reduceNeg, Nat.reduceAdd, Nat.reduceMul, Nat.reducePow, Int.reduceLT, Int.reduceLE, Int.reduceEq, Nat.reduceEqDiff, tup2]
    exact ⟨e.symm, s1 _⟩
end
end Go.Ae

/- Emitters are checked: the program and the reference. -/
set_option linter.unusedSimpArgs false
set_option linter.unusedVariables false
namespace Go.Ae
theorem plan_ok {p : PlanP} (h : p.err = 0) : p.numsOk := by
  unfold PlanP.err at h
  split at h
  · assumption
  · omega
theorem size_range {p : PlanP} (h : p.numsOk) : 31 ≤ p.size ∧ p.size ≤ 8184 ∧ p.size = ((lenN p.d * p.o.toNat : Nat) : Int) := by
  have hN := lenN_eq h.1
  have ho := h.2.1
  obtain ⟨o, eo⟩ := Int.eq_ofNat_of_zero_le (show 0 ≤ p.o by omega)
  have e : p.size = ((lenN p.d * p.o.toNat : Nat) : Int) := by
    unfold PlanP.size
    rw [eo, Int.toNat_natCast]; exact (Int.natCast_mul _ _).symm
  have a1 : lenN p.d * 1 ≤ lenN p.d * p.o.toNat := Nat.mul_le_mul_left _ (by omega)
  have a2 : lenN p.d * p.o.toNat ≤ 1023 * 8 := Nat.mul_le_mul (by omega) (by omega)
  omega
theorem emit_range (p : PlanP) (e : EmitP) : emitErr p e = 0 ∨ emitErr p e = 2 ∨ emitErr p e = 3 ∨ emitErr p e = 4 ∨ emitErr p e = 8 ∨ emitErr p e = 18 := by
  unfold emitErr
  have hp : p.err = 0 ∨ p.err = 2 ∨ p.err = 3 ∨ p.err = 4 ∨ p.err = 8 := by
    unfold PlanP.err
    split
    · split
      · simp
      · split
        · simp
        · have := prnsErr_range (lenN p.d) p.prns []
          omega
    · simp
  split
  · repeat' split
    all_goals simp
  · omega
section
variable {C : Ctx}
theorem size242_spec (hC : Has C T242) {p : PlanP} {vp : AV} {h : Heap} (hn : p.numsOk) (v1 : vp.one = true) : ACalls C 242 [plA p vp] h (fun r h' => r = .int .i64 p.size ∧ h' = h) := by
  refine ACalls.gc0 (P := fun r h' => r = .int .i64 p.size ∧ HSub h h') ?_ (fun r h' hp => ⟨by rw [hp.1]; trivial, hp.2, hp.1, rfl⟩)
  have sr := size_range hn
  have hN := lenN_eq hn.1
  have hl := lenOk_cases hn.1
  have ho := hn.2.1
  have e1 : ((lenN p.d + 1 : Nat) : Int) - 1 = lenN p.d := by omega
  have es : p.size = (lenN p.d : Int) * p.o := rfl
  rw [es] at sr ⊢
  unfold plA
  obtain ⟨d, o, pb, w, mn, mx, nz, prns⟩ := p
  dsimp only at *
  (refine calls_intro (hC.body (by decide) tab242) (Nat.le_of_ble_eq_true rfl) ?_); (show wp C _ none B242.code _ _); (simp only [B242]); simp -implicitDefEqProofs (disch := first | assumption | decide | omega | (simp only [wpD1] <;> omega) | (simp only [wpD2] <;> assumption) | solve_by_elim [HSub.refl, HSub.push, HSub.reserve] | fail) only [↓wpPre, wpPost, wpPoly, Int.reduceToNat, Int.reducePow, Int.reduceMul, Int.reduceAdd, Int.reduceSub, Int.reduceNeg, Nat.reduceAdd, Nat.reduceMul, Nat.reducePow, Int.reduceLT, Int.reduceLE, Int.reduceEq, Nat.reduceEqDiff, Int.one_mul, hN.2.2, e1]
  exact HSub.push1 _ _
theorem bad243_spec (hC : Has C T243) {x : Int} {h : Heap} : ACalls C 243 [.int .i64 x] h (fun r h' => r = .bool (x != 0 && x != 1) ∧ h' = h) := by
  by_cases c : x = 0
  · subst c
    (refine calls_intro (hC.body (by decide) tab243) (Nat.le_of_ble_eq_true rfl) ?_); (show wp C _ none B243.code _ _); (simp only [B243]); simp -implicitDefEqProofs (disch := first | assumption | decide | omega | (simp only [wpD1] <;> omega) | (simp only [wpD2] <;> assumption) | solve_by_elim [HSub.refl, HSub.push, HSub.reserve] | fail) only [↓wpPre, wpPost, wpPoly, Int.reduceToNat, Int.reducePow, Int.reduceMul, Int.reduceAdd, Int.reduceSub, Int.reduceNeg, Nat.reduceAdd, Nat.reduceMul, Nat.reducePow, Int.reduceLT, Int.reduceLE, Int.reduceEq, Nat.reduceEqDiff, gV_u]
    rfl
  · by_cases c2 : x = 1
    · subst c2
      (refine calls_intro (hC.body (by decide) tab243) (Nat.le_of_ble_eq_true rfl) ?_); (show wp C _ none B243.code _ _); (simp only [B243]); simp -implicitDefEqProofs (disch := first | assumption | decide | omega | (simp only [wpD1] <;> omega) | (simp only [wpD2] <;> assumption) | solve_by_elim [HSub.refl, HSub.push, HSub.reserve] | fail) only [↓wpPre, wpPost, wpPoly, Int.reduceToNat, Int.reducePow, Int.reduceMul, Int.reduceAdd, Int.reduceSub, Int.reduceNeg, Nat.reduceAdd, Nat.reduceMul, Nat.reducePow, Int.reduceLT, Int.reduceLE, Int.reduceEq, Nat.reduceEqDiff, gV_u]
      simp
    · (refine calls_intro (hC.body (by decide) tab243) (Nat.le_of_ble_eq_true rfl) ?_); (show wp C _ none B243.code _ _); (simp only [B243]); simp -implicitDefEqProofs (disch := first | assumption | decide | omega | (simp only [wpD1] <;> omega) | (simp only [wpD2] <;> assumption) | solve_by_elim [HSub.refl, HSub.push, HSub.reserve] | fail) only [↓wpPre, wpPost, wpPoly, Int.reduceToNat, Int.reducePow, Int.reduceMul, Int.reduceAdd, Int.reduceSub, Int.reduceNeg, Nat.reduceAdd, Nat.reduceMul, Nat.reducePow, Int.reduceLT, Int.reduceLE, Int.reduceEq, Nat.reduceEqDiff, gV_u, c, c2]
      simp [c, c2]
set_option maxHeartbeats 2000000 in
set_option maxRecDepth 20000 in
theorem Check_spec (hC : Has C T223) {v w : AV} {p : PlanP} {e : EmitP} {h : Heap} (hp : PlI h v p) (he : EmI h w e) (h64 : p.ok64) (h65 : e.ok64) : ACalls C 223 [v, w] h (fun r h' => r = .int .i64 (emitErr p e) ∧ h' = h) := by
  refine ACalls.gc0 (P := fun r h' => r = .int .i64 (emitErr p e) ∧ HSub h h') ?_ (fun r h' hp => ⟨by rw [hp.1]; trivial, hp.2, hp.1, rfl⟩)
  have kc := fun h1 (q : HSub h h1) => CheckPlan_spec (hC.sub (T' := T219) (by decide)) (hp.mono q) h64
  have pr := emit_range p e
  obtain ⟨vp, rfl, R⟩ := hp
  obtain ⟨vb, rfl, B⟩ := he
  have v1 := R.one
  have b1 := B.one
  have hlt := R.lt
  have blt := B.lt
  have hE : emitErr p e = if p.err = 0 then if (p.prns.any fun y => e.prn == y) = true then if e.numsOk p then if 10000 < e.bits.length then 4 else if e.bits.any (fun b => b != 0 && b != 1) = true then 3 else 0 else 2 else 18 else p.err := rfl
  generalize emitErr p e = E at *
  have kC := fun h1 (q : HSub h h1) => Contains_spec (hC.sub (T' := T89) (by decide)) (x := e.prn) (R.mono q)
  have kS := fun (q : p.numsOk) h1 => size242_spec (hC.sub (T' := T242) (by decide)) (vp := vp) (h := h1) q v1
  unfold plA at kS
  by_cases c : p.err = 0
  · have hn := plan_ok c
    have kS := kS hn
    rw [if_pos c] at hE
    rw [c] at kc
    have asks : ∀ h1 (q : HSub h h1), Asks C (.func 243 [] []) (fun b => b != 0 && b != 1) e.bits h1 := fun h1 q => ⟨243, [], rfl, fun x _ => bad243_spec (hC.sub (T' := T243) (by decide))⟩
    have kF := fun h1 (q : HSub h h1) => ContainsFunc_spec (hC.sub (T' := T37) (by decide)) (B.mono q) (asks h1 q)
    have g1 : (p.prns.any fun y => e.prn == y) = false → E = 18 := fun q => by rw [hE, if_neg (by rw [q]; decide)]
    have g2 : (p.prns.any fun y => e.prn == y) = true → ¬ ((0 ≤ e.dl ∧ e.dl < p.size) ∧ (-64 ≤ e.rt ∧ e.rt ≤ 64) ∧ (p.mn ≤ e.amp ∧ e.amp ≤ p.mx) ∧ (0 ≤ e.ba ∧ e.ba < p.pb)) → E = 2 := fun q q2 => by rw [hE, if_pos q, if_neg (show ¬ e.numsOk p from q2)]
    have g3 : (p.prns.any fun y => e.prn == y) = true → ((0 ≤ e.dl ∧ e.dl < p.size) ∧ (-64 ≤ e.rt ∧ e.rt ≤ 64) ∧ (p.mn ≤ e.amp ∧ e.amp ≤ p.mx) ∧ (0 ≤ e.ba ∧ e.ba < p.pb)) → E = if 10000 < e.bits.length then 4 else if e.bits.any (fun b => b != 0 && b != 1) = true then 3 else 0 := fun q q2 => by rw [hE, if_pos q, if_pos (show e.numsOk p from q2)]
    clear hE
    generalize p.size = sz at *
    obtain ⟨d, o, pb, wo, mn, mx, nz, prns⟩ := p
    obtain ⟨prn, dl, rt, st, ph, amp, ba, bits⟩ := e
    dsimp only at *
    generalize (prns.any fun y => prn == y) = b at *
    generalize (bits.any fun b => b != 0 && b != 1) = z at *
    (refine calls_intro (hC.body (by decide) tab223) (Nat.le_of_ble_eq_true rfl) ?_); (show wp C _ none B223.code _ _); (simp only [B223]); simp -implicitDefEqProofs (disch := first | assumption | decide | omega | (simp only [wpD1] <;> omega) | (simp only [wpD2] <;> assumption) | solve_by_elim [HSub.refl, HSub.push, HSub.reserve] | fail) only [↓wpPre, wpPost, wpPoly, Int.reduceToNat, Int.reducePow, Int.reduceMul, Int.reduceAdd, Int.reduceSub, Int.reduceNeg, Nat.reduceAdd, Nat.reduceMul, Nat.reducePow, Int.reduceLT, Int.reduceLE, Int.reduceEq, Nat.reduceEqDiff]
    refine ACallsK.eq (kc _ ((HSub.push1 _ _).push _)) ?_
    simp -implicitDefEqProofs (disch := first | assumption | decide | omega | (simp only [wpD1] <;> omega) | (simp only [wpD2] <;> assumption) | solve_by_elim [HSub.refl, HSub.push, HSub.reserve] | fail) only [↓wpPre, wpPost, wpPoly, Int.reduceToNat, Int.reducePow, Int.reduceMul, Int.reduceAdd, Int.reduceSub, Int.reduceNeg, Nat.reduceAdd, Nat.reduceMul, Nat.reducePow, Int.reduceLT, Int.reduceLE, Int.reduceEq, Nat.reduceEqDiff]
    refine ACallsK.eq (kC _ ((HSub.push1 _ _).push _)) ?_
    have sH : ∀ b c, HSub h ((h.push b).push c) := fun b c => (HSub.push1 h b).push c
    cases b
    · have g := g1 rfl
      simp -implicitDefEqProofs (disch := first | assumption | decide | omega | (simp only [wpD1] <;> omega) | (simp only [wpD2] <;> assumption) | solve_by_elim [HSub.refl, HSub.push, HSub.reserve] | fail) only [↓wpPre, wpPost, wpPoly, Int.reduceToNat, Int.reducePow, Int.reduceMul, Int.reduceAdd, Int.reduceSub, Int.reduceNeg, Nat.reduceAdd, Nat.reduceMul, Nat.reducePow, Int.reduceLT, Int.reduceLE, Int.reduceEq, Nat.reduceEqDiff]
      exact ⟨g.symm, sH _ _⟩
    · have g2 := g2 rfl
      have g3 := g3 rfl
      simp -implicitDefEqProofs (disch := first | assumption | decide | omega | (simp only [wpD1] <;> omega) | (simp only [wpD2] <;> assumption) | solve_by_elim [HSub.refl, HSub.push, HSub.reserve] | fail) only [↓wpPre, wpPost, wpPoly, Int.reduceToNat, Int.reducePow, Int.reduceMul, Int.reduceAdd, Int.reduceSub, Int.reduceNeg, Nat.reduceAdd, Nat.reduceMul, Nat.reducePow, Int.reduceLT, Int.reduceLE, Int.reduceEq, Nat.reduceEqDiff]
      by_cases c1 : 0 ≤ dl
      · have c1' : ¬ dl < 0 := by omega
        simp -implicitDefEqProofs (disch := first | assumption | decide | omega | (simp only [wpD1] <;> omega) | (simp only [wpD2] <;> assumption) | solve_by_elim [HSub.refl, HSub.push, HSub.reserve] | fail) only [↓wpPre, wpPost, wpPoly, Int.reduceToNat, Int.reducePow, Int.reduceMul, Int.reduceAdd, Int.reduceSub, Int.reduceNeg, Nat.reduceAdd, Nat.reduceMul, Nat.reducePow, Int.reduceLT, Int.reduceLE, Int.reduceEq, Nat.reduceEqDiff, c1']
        refine ACallsK.eq (kS _) ?_
        by_cases c2 : (dl < sz) ∧ (-64 ≤ rt ∧ rt ≤ 64) ∧ (mn ≤ amp ∧ amp ≤ mx) ∧ (0 ≤ ba ∧ ba < pb)
        · have n1 : ¬ sz ≤ dl := by omega
          have n2 : ¬ rt < -64 := by omega
          have n3 : ¬ 64 < rt := by omega
          have n4 : ¬ amp < mn := by omega
          have n5 : ¬ mx < amp := by omega
          have n6 : ¬ ba < 0 := by omega
          have n7 : ¬ pb ≤ ba := by omega
          have g := g3 ⟨⟨c1, c2.1⟩, c2.2⟩
          by_cases c3 : 10000 < bits.length
          · rw [if_pos c3] at g
            simp -implicitDefEqProofs (disch := first | assumption | decide | omega | (simp only [wpD1] <;> omega) | (simp only [wpD2] <;> assumption) | solve_by_elim [HSub.refl, HSub.push, HSub.reserve] | fail) only [↓wpPre, wpPost, wpPoly, Int.reduceToNat, Int.reducePow, Int.reduceMul, Int.reduceAdd, Int.reduceSub, Int.reduceNeg, Nat.reduceAdd, Nat.reduceMul, Nat.reducePow, Int.reduceLT, Int.reduceLE, Int.reduceEq, Nat.reduceEqDiff, n1, n2, n3, n4, n5, n6, n7, B.len, c3]
            exact ⟨g.symm, sH _ _⟩
          · rw [if_neg c3] at g
            simp -implicitDefEqProofs (disch := first | assumption | decide | omega | (simp only [wpD1] <;> omega) | (simp only [wpD2] <;> assumption) | solve_by_elim [HSub.refl, HSub.push, HSub.reserve] | fail) only [↓wpPre, wpPost, wpPoly, Int.reduceToNat, Int.reducePow, Int.reduceMul, Int.reduceAdd, Int.reduceSub, Int.reduceNeg, Nat.reduceAdd, Nat.reduceMul, Nat.reducePow, Int.reduceLT, Int.reduceLE, Int.reduceEq, Nat.reduceEqDiff, n1, n2, n3, n4, n5, n6, n7, B.len, c3]
            refine ACallsK.eq (kF _ (sH _ _)) ?_
            cases z
            · simp -implicitDefEqProofs (disch := first | assumption | decide | omega | (simp only [wpD1] <;> omega) | (simp only [wpD2] <;> assumption) | solve_by_elim [HSub.refl, HSub.push, HSub.reserve] | fail) only [↓wpPre, wpPost, wpPoly, Int.reduceToNat, Int.reducePow, Int.reduceMul, Int.reduceAdd, Int.reduceSub, Int.reduceNeg, Nat.reduceAdd, Nat.reduceMul, Nat.reducePow, Int.reduceLT, Int.reduceLE, Int.reduceEq, Nat.reduceEqDiff]
              exact ⟨g.symm, sH _ _⟩
            · simp -implicitDefEqProofs (disch := first | assumption | decide | omega | (simp only [wpD1] <;> omega) | (simp only [wpD2] <;> assumption) | solve_by_elim [HSub.refl, HSub.push, HSub.reserve] | fail) only [↓wpPre, wpPost, wpPoly, Int.reduceToNat, Int.reducePow, Int.reduceMul, Int.reduceAdd, Int.reduceSub, Int.reduceNeg, Nat.reduceAdd, Nat.reduceMul, Nat.reducePow, Int.reduceLT, Int.reduceLE, Int.reduceEq, Nat.reduceEqDiff]
              exact ⟨g.symm, sH _ _⟩
        · have g := g2 (fun q => c2 ⟨q.1.2, q.2⟩)
          (repeat' (first | (refine Br.by (fun _ => ?_) (fun _ => ?_)) | (simp -implicitDefEqProofs (disch := first | assumption | decide | omega | (simp only [wpD1] <;> omega) | (simp only [wpD2] <;> assumption) | solve_by_elim [HSub.refl, HSub.push, HSub.reserve] | fail) only [↓wpPre, wpPost, wpPoly, Int.reduceToNat, Int.reducePow, Int.reduceMul, Int.reduceAdd, Int.reduceSub, Int.reduceNeg, Nat.reduceAdd, Nat.reduceMul, Nat.reducePow, Int.reduceLT, Int.reduceLE, Int.reduceEq, Nat.reduceEqDiff])))
          all_goals first
            | exact ⟨g.symm, sH _ _⟩
            | (exfalso; omega)
      · have g := g2 (fun q => c1 q.1.1)
        have c1' : dl < 0 := by omega
        simp -implicitDefEqProofs (disch := first | assumption | decide | omega | (simp only [wpD1] <;> omega) | (simp only [wpD2] <;> assumption) | solve_by_elim [HSub.refl, HSub.push, HSub.reserve] | fail) only [↓wpPre, wpPost, wpPoly, Int.reduceToNat, Int.reducePow, Int.reduceMul, Int.reduceAdd, Int.reduceSub, Int.reduceNeg, Nat.reduceAdd, Nat.reduceMul, Nat.reducePow, Int.reduceLT, Int.reduceLE, Int.reduceEq, Nat.reduceEqDiff, c1']
        exact ⟨g.symm, sH _ _⟩
  · rw [if_neg c] at hE
    subst hE
    generalize p.err = E at *
    obtain ⟨d, o, pb, wo, mn, mx, nz, prns⟩ := p
    obtain ⟨prn, dl, rt, st, ph, amp, ba, bits⟩ := e
    dsimp only at *
    (refine calls_intro (hC.body (by decide) tab223) (Nat.le_of_ble_eq_true rfl) ?_); (show wp C _ none B223.code _ _); (simp only [B223]); simp -implicitDefEqProofs (disch := first | assumption | decide | omega | (simp only [wpD1] <;> omega) | (simp only [wpD2] <;> assumption) | solve_by_elim [HSub.refl, HSub.push, HSub.reserve] | fail) only [↓wpPre, wpPost, wpPoly, Int.reduceToNat, Int.reducePow, Int.reduceMul, Int.reduceAdd, Int.reduceSub, Int.reduceNeg, Nat.reduceAdd, Nat.reduceMul, Nat.reducePow, Int.reduceLT, Int.reduceLE, Int.reduceEq, Nat.reduceEqDiff]
    refine ACallsK.eq (kc _ ((HSub.push1 _ _).push _)) ?_
    simp -implicitDefEqProofs (disch := first | assumption | decide | omega | (simp only [wpD1] <;> omega) | (simp only [wpD2] <;> assumption) | solve_by_elim [HSub.refl, HSub.push, HSub.reserve] | fail) only [↓wpPre, wpPost, wpPoly, Int.reduceToNat, Int.reducePow, Int.reduceMul, Int.reduceAdd, Int.reduceSub, Int.reduceNeg, Nat.reduceAdd, Nat.reduceMul, Nat.reducePow, Int.reduceLT, Int.reduceLE, Int.reduceEq, Nat.reduceEqDiff, c]
    exact ((HSub.push1 _ _).push _)
end
end Go.Ae

/- Emitters are checked: the reference. -/
set_option linter.unusedSimpArgs false
set_option linter.unusedVariables false
namespace Go.Ae
section
variable {C : Ctx}
end
end Go.Ae

/- Absolute values, sums and bounds of lists. -/
set_option linter.unusedSimpArgs false
set_option linter.unusedVariables false
namespace Go.Ae
def absI (x : Int) : Int := max x (-x)
def sumAbs : List Int → Int
  | [] => 0
  | x :: l => absI x + sumAbs l
def maxAbs : List Int → Int
  | [] => 0
  | x :: l => max (absI x) (maxAbs l)
theorem absI_nonneg (x : Int) : 0 ≤ absI x := by unfold absI; omega
theorem absI_mul (x y : Int) : absI (x * y) = absI x * absI y := by
  unfold absI
  rcases Int.le_total 0 x with hx | hx <;> rcases Int.le_total 0 y with hy | hy
  · have := Int.mul_nonneg hx hy
    rw [Int.max_eq_left (by omega), Int.max_eq_left (by omega), Int.max_eq_left (by omega)]
  · have := Int.mul_nonpos_of_nonneg_of_nonpos hx hy
    rw [Int.max_eq_right (by omega), Int.max_eq_left (by omega), Int.max_eq_right (by omega), Int.mul_neg]
  · have := Int.mul_nonpos_of_nonpos_of_nonneg hx hy
    rw [Int.max_eq_right (by omega), Int.max_eq_right (by omega), Int.max_eq_left (by omega), Int.neg_mul]
  · have := Int.mul_nonneg_of_nonpos_of_nonpos hx hy
    rw [Int.max_eq_left (by omega), Int.max_eq_right (by omega), Int.max_eq_right (by omega), Int.neg_mul_neg]
def small (l : List Int) : Prop := ∀ x ∈ l, -1000000 ≤ x ∧ x ≤ 1000000
def bigs (x : Int) : Bool := decide (x < -1000000 ∨ 1000000 < x)
end Go.Ae

/- Periods and bits, in plain numbers. -/
set_option linter.unusedSimpArgs false
set_option linter.unusedVariables false
namespace Go.Ae
theorem mul_bd {k s K S : Int} (hk : -K ≤ k ∧ k ≤ K) (hs : -S ≤ s ∧ s ≤ S) : -(K * S) ≤ k * s ∧ k * s ≤ K * S := by
  have h1 : absI (k * s) ≤ K * S := by
    rw [absI_mul]
    exact Int.mul_le_mul (by unfold absI; omega) (by unfold absI; omega) (absI_nonneg _) (by omega)
  unfold absI at h1
  omega
theorem floor_neg {k b : Int} (hb : 0 < b) : -((b - 1 - k) / b) = k / b := by
  have h := Int.emod_add_mul_ediv k b
  have h1 := Int.emod_nonneg k (show b ≠ 0 by omega)
  have h2 := Int.emod_lt_of_pos k hb
  have : (b - 1 - k) / b = -(k / b) := by
    rw [Int.ediv_eq_iff_of_pos hb]
    have e : -(k / b) * b = -(b * (k / b)) := by grind
    have e2 : (-(k / b) + 1) * b = -(b * (k / b)) + b := by grind
    omega
  omega
theorem tmod_twice {j n : Int} (hn : 0 < n) : (j.tmod n + n).tmod n = j % n := by
  have h1 := Int.tmod_lt_of_pos j hn
  have h2 : -n < j.tmod n := by
    have := Int.lt_tmod_of_pos j hn
    omega
  rw [Int.tmod_eq_emod_of_nonneg (by omega), Int.add_emod_right]
  exact Int.emod_eq_emod_iff_emod_sub_eq_zero.2 (by
    have := Int.tmod_add_mul_tdiv j n
    have e : j.tmod n - j = n * (-(j.tdiv n)) := by grind
    rw [e]; exact Int.mul_emod_right _ _)
theorem prns_ok (n : Int) : ∀ (xs seen : List Int), prnsErr n seen xs = 0 → ∀ x ∈ xs, 1 ≤ x ∧ x ≤ n + 2
  | [], _, _, x, hx => by simp at hx
  | y :: xs, seen, h, x, hx => by
    rw [prnsErr] at h
    split at h
    · omega
    · rename_i c
      split at h
      · omega
      · rcases List.mem_cons.1 hx with q | q
        · rw [q]; exact Classical.not_not.1 c
        · exact prns_ok n xs _ h x q
structure EmOk (p : PlanP) (e : EmitP) : Prop where
  pn : p.numsOk
  en : e.numsOk p
  code : codeErr p.d e.prn = 0
  bits : ∀ x ∈ e.bits, x = 0 ∨ x = 1
  prn : 1 ≤ e.prn ∧ e.prn ≤ lenN p.d + 2
  len : e.bits.length ≤ 10000
theorem emit_ok {p : PlanP} {e : EmitP} (h : emitErr p e = 0) : EmOk p e := by
  unfold emitErr at h
  by_cases c : p.err = 0
  · rw [if_pos c] at h
    by_cases c2 : (p.prns.any fun y => e.prn == y) = true
    · rw [if_pos c2] at h
      by_cases c3 : e.numsOk p
      · rw [if_pos c3] at h
        by_cases c4 : 10000 < e.bits.length
        · rw [if_pos c4] at h; omega
        · rw [if_neg c4] at h
          by_cases c5 : e.bits.any (fun b => b != 0 && b != 1) = true
          · rw [if_pos c5] at h; omega
          · have pn := plan_ok c
            have pz : prnsErr (lenN p.d) [] p.prns = 0 := by
              unfold PlanP.err at c
              rw [if_pos pn] at c
              split at c
              · omega
              · split at c
                · omega
                · exact c
            have pr : 1 ≤ e.prn ∧ e.prn ≤ lenN p.d + 2 := by
              rw [List.any_eq_true] at c2
              obtain ⟨x, hx, q⟩ := c2
              rw [beq_iff_eq] at q
              rw [q]
              exact prns_ok _ _ _ pz x hx
            refine ⟨pn, c3, ?_, ?_, pr, by omega⟩
            · unfold codeErr
              rw [if_pos ⟨pn.1, pr.1, pr.2⟩]
            · intro x hx
              have c5 := Bool.eq_false_iff.2 c5
              rw [List.any_eq_false] at c5
              have := c5 x hx
              simp only [Bool.and_eq_true, bne_iff_ne, ne_eq, not_and, Classical.not_not] at this
              by_cases z : x = 0
              · exact .inl z
              · exact .inr (this z)
      · rw [if_neg c3] at h; omega
    · rw [if_neg c2] at h; omega
  · rw [if_neg c] at h; omega
def EmitP.sta (e : EmitP) (p : PlanP) (k : Int) : Int := stI e.dl p.size e.rt k
def EmitP.pl (e : EmitP) (p : PlanP) (n : Int) : Int := plI e.dl p.size e.rt n
theorem EmOk.den {p : PlanP} {e : EmitP} (h : EmOk p e) : 0 < 1024 * p.size + e.rt := by
  have := size_range h.pn
  have := h.en.2.1
  omega
theorem EmOk.bit {p : PlanP} {e : EmitP} (h : EmOk p e) (k : Int) : bitI p e k = 0 ∨ bitI p e k = 1 := by
  unfold bitI
  split
  · simp
  · rename_i c
    have := Int.emod_lt_of_pos ((k - e.ba) / p.pb) (show (0 : Int) < e.bits.length by omega)
    have := Int.emod_nonneg ((k - e.ba) / p.pb) (show (e.bits.length : Int) ≠ 0 by omega)
    exact h.bits _ (getD_mem (by omega))
theorem EmOk.stb {p : PlanP} {e : EmitP} (h : EmOk p e) {k : Int} (hk : -20000000 ≤ k ∧ k ≤ 20000000) : -200000000000 ≤ e.sta p k ∧ e.sta p k ≤ 200000000000 ∧ (-163680000000 ≤ k * p.size ∧ k * p.size ≤ 163680000000) ∧ (-1280000000 ≤ k * e.rt ∧ k * e.rt ≤ 1280000000) := by
  have s := size_range h.pn
  have r := h.en.2.1
  have d := h.en.1
  have a := mul_bd (S := 8184) hk (show -8184 ≤ p.size ∧ p.size ≤ 8184 by omega)
  have b := mul_bd (S := 64) hk r
  unfold EmitP.sta stI
  omega
theorem EmOk.plb {p : PlanP} {e : EmitP} (h : EmOk p e) {n : Int} (hn : -10100000 ≤ n ∧ n ≤ 10100000) : -11000000 ≤ e.pl p n ∧ e.pl p n ≤ 11000000 := by
  have s := size_range h.pn
  have r := h.en.2.1
  have d := h.en.1
  unfold EmitP.pl plI
  generalize hD : 1024 * p.size + e.rt = D
  have hD2 : 1024 ≤ D := by omega
  generalize hM : 1024 * (n - e.dl + 1) - 1 = M
  have hM2 : -(1024 * 11000000) ≤ M ∧ M ≤ 1024 * 11000000 := by omega
  constructor
  · rw [Int.le_ediv_iff_mul_le (by omega)]
    omega
  · rw [← Int.lt_add_one_iff, Int.ediv_lt_iff_lt_mul (by omega)]
    omega
def chipI (p : PlanP) (e : EmitP) (i : Int) : Int := (codeL p.d e.prn).getD (min (i / p.o) ((lenN p.d : Int) - 1)).toNat 0
def atV (p : PlanP) (e : EmitP) (n : Int) : Int × Int :=
  ((e.amp * chipI p e (n - e.sta p (e.pl p n)) * (1 - 2 * bitI p e (e.pl p n))) * (carP (phI e.ph e.st (e.pl p n))).1, (e.amp * chipI p e (n - e.sta p (e.pl p n)) * (1 - 2 * bitI p e (e.pl p n))) * (carP (phI e.ph e.st (e.pl p n))).2)
end Go.Ae

/- Periods and bits: the program and the reference. -/
set_option linter.unusedSimpArgs false
set_option linter.unusedVariables false
namespace Go.Ae
def emA (e : EmitP) (vb : AV) : AV := .agg [.int .i64 e.prn, .int .i64 e.dl, .int .i64 e.rt, .int .u32 e.st, .int .u32 e.ph, .int .i64 e.amp, .int .i64 e.ba, vb]
def srcA (p : PlanP) (e : EmitP) (vp vb vc : AV) : AV := .agg [.int .i64 e.prn, .int .i64 e.dl, .int .i64 e.rt, .int .u32 e.st, .int .u32 e.ph, .int .i64 e.amp, .int .i64 e.ba, vb, .int .i64 p.d, .int .i64 p.o, .int .i64 p.pb, .int .i64 p.w, .int .i64 p.mn, .int .i64 p.mx, .int .i64 p.nz, vp, vc]
theorem fdiv_1024 (x : Int) : Int.fdiv x 1024 = x / 1024 := Int.fdiv_eq_ediv_of_nonneg x (by decide)
section
variable {C : Ctx}
set_option maxRecDepth 20000 in
theorem start239_spec (hC : Has C T239) {p : PlanP} {e : EmitP} {vp vb vc : AV} {k : Int} {h : Heap} (ok : EmOk p e) (v1 : vp.one = true) (b1 : vb.one = true) (w1 : vc.one = true) (hk : -20000000 ≤ k ∧ k ≤ 20000000) :
    ACalls C 239 [srcA p e vp vb vc, .int .i64 k] h (fun r h' => r = .int .i64 (e.sta p k) ∧ h' = h) := by
  refine ACalls.gc0 (P := fun r h' => r = .int .i64 (e.sta p k) ∧ HSub h h') ?_ (fun r h' hp => ⟨by rw [hp.1]; trivial, hp.2, hp.1, rfl⟩)
  have sz := fun h => size242_spec (hC.sub (T' := T242) (by decide)) (vp := vp) (h := h) ok.pn v1
  have sb := ok.stb hk
  have d := ok.en.1
  have s := size_range ok.pn
  unfold EmitP.sta stI at sb ⊢
  unfold plA at sz
  unfold srcA
  generalize p.size = z at *
  obtain ⟨pd, o, pb, w, mn, mx, nz, prns⟩ := p
  obtain ⟨prn, dl, rt, st, ph, amp, ba, bits⟩ := e
  dsimp only at *
  (refine calls_intro (hC.body (by decide) tab239) (Nat.le_of_ble_eq_true rfl) ?_); (show wp C _ none B239.code _ _); (simp only [B239]); simp -implicitDefEqProofs (disch := first | assumption | decide | omega | (simp only [wpD1] <;> omega) | (simp only [wpD2] <;> assumption) | solve_by_elim [HSub.refl, HSub.push, HSub.reserve] | fail) only [↓wpPre, wpPost, wpPoly, Int.reduceToNat, Int.reducePow, Int.reduceMul, Int.reduceAdd, Int.reduceSub, Int.reduceNeg, Nat.reduceAdd, Nat.reduceMul, Nat.reducePow, Int.reduceLT, Int.reduceLE, Int.reduceEq, Nat.reduceEqDiff]
  refine ACallsK.eq (sz _) ?_
  simp -implicitDefEqProofs (disch := first | assumption | decide | omega | (simp only [wpD1] <;> omega) | (simp only [wpD2] <;> assumption) | solve_by_elim [HSub.refl, HSub.push, HSub.reserve] | fail) only [↓wpPre, wpPost, wpPoly, Int.reduceToNat, Int.reducePow, Int.reduceMul, Int.reduceAdd, Int.reduceSub, Int.reduceNeg, Nat.reduceAdd, Nat.reduceMul, Nat.reducePow, Int.reduceLT, Int.reduceLE, Int.reduceEq, Nat.reduceEqDiff, fdiv_1024]
  exact HSub.push1 _ _
theorem st_gt {p : PlanP} {e : EmitP} (ok : EmOk p e) {n k : Int} : e.sta p k ≤ n ↔ k ≤ e.pl p n := st_le ok.den
set_option maxHeartbeats 1000000 in
set_option maxRecDepth 20000 in
theorem place245_spec (hC : Has C T245) {p : PlanP} {e : EmitP} {vp vb vc : AV} {n : Int} {h : Heap} (ok : EmOk p e) (v1 : vp.one = true) (b1 : vb.one = true) (w1 : vc.one = true) (hn : -10100000 ≤ n ∧ n ≤ 10100000) :
    ACalls C 245 [srcA p e vp vb vc, .int .i64 n] h (fun r h' => r = .int .i64 (e.pl p n) ∧ h' = h) := by
  refine ACalls.gc0 (P := fun r h' => r = .int .i64 (e.pl p n) ∧ HSub h h') ?_ (fun r h' hp => ⟨by rw [hp.1]; trivial, hp.2, hp.1, rfl⟩)
  have sz := fun h => size242_spec (hC.sub (T' := T242) (by decide)) (vp := vp) (h := h) ok.pn v1
  have ks := fun (k : Int) (hk : -20000000 ≤ k ∧ k ≤ 20000000) h => start239_spec (hC.sub (T' := T239) (by decide)) (k := k) (h := h) ok v1 b1 w1 hk
  have gt := fun (k : Int) => st_gt ok (n := n) (k := k)
  have pb := ok.plb hn
  have d := ok.en.1
  have s := size_range ok.pn
  have td : -11000000 ≤ (n - e.dl).tdiv p.size ∧ (n - e.dl).tdiv p.size ≤ 11000000 := by
    have h1 := Int.natAbs_tdiv_le_natAbs (n - e.dl) p.size
    omega
  have szn : p.size ≠ 0 := by omega
  unfold plA at sz
  unfold srcA at ks ⊢
  generalize e.pl p n = K at *
  generalize hSt : e.sta p = St at *
  generalize p.size = z at *
  obtain ⟨pd, o, pb, w, mn, mx, nz, prns⟩ := p
  obtain ⟨prn, dl, rt, st, ph, amp, ba, bits⟩ := e
  dsimp only at *
  (refine calls_intro (hC.body (by decide) tab245) (Nat.le_of_ble_eq_true rfl) ?_); (show wp C _ none B245.code _ _); (simp only [B245]); simp -implicitDefEqProofs (disch := first | assumption | decide | omega | (simp only [wpD1] <;> omega) | (simp only [wpD2] <;> assumption) | solve_by_elim [HSub.refl, HSub.push, HSub.reserve] | fail) only [↓wpPre, wpPost, wpPoly, Int.reduceToNat, Int.reducePow, Int.reduceMul, Int.reduceAdd, Int.reduceSub, Int.reduceNeg, Nat.reduceAdd, Nat.reduceMul, Nat.reducePow, Int.reduceLT, Int.reduceLE, Int.reduceEq, Nat.reduceEqDiff]
  refine ACallsK.eq (sz _) ?_
  simp -implicitDefEqProofs (disch := first | assumption | decide | omega | (simp only [wpD1] <;> omega) | (simp only [wpD2] <;> assumption) | solve_by_elim [HSub.refl, HSub.push, HSub.reserve] | fail) only [↓wpPre, wpPost, wpPoly, Int.reduceToNat, Int.reducePow, Int.reduceMul, Int.reduceAdd, Int.reduceSub, Int.reduceNeg, Nat.reduceAdd, Nat.reduceMul, Nat.reducePow, Int.reduceLT, Int.reduceLE, Int.reduceEq, Nat.reduceEqDiff, szn]
  refine wp_loopI (fun j t h' => h' = h.push (.cells [.int .i64 prn, .int .i64 dl, .int .i64 rt, .int .u32 st, .int .u32 ph, .int .i64 amp, .int .i64 ba, vb, .int .i64 pd, .int .i64 o, .int .i64 pb, .int .i64 w, .int .i64 mn, .int .i64 mx, .int .i64 nz, vp, vc] true 0) ∧ ∃ k : Int, t 1 = .int .i64 n ∧ t 2 = .ptr h.size 0 ∧ t 5 = .int .i64 k ∧ -11000000 ≤ k ∧ k ≤ 11000002 ∧ j = (k - K).toNat) (j0 := ((n - dl).tdiv z + 2 - K).toNat)
    ⟨rfl, _, rfl, rfl, rfl, by omega, by omega, rfl⟩ ?_
  rintro j t h1 ⟨hh, k, e1, e2, ek, k1, k2, hj⟩
  have gp : h1.get h.size = some (.cells [.int .i64 prn, .int .i64 dl, .int .i64 rt, .int .u32 st, .int .u32 ph, .int .i64 amp, .int .i64 ba, vb, .int .i64 pd, .int .i64 o, .int .i64 pb, .int .i64 w, .int .i64 mn, .int .i64 mx, .int .i64 nz, vp, vc] true 0) := by rw [hh]; exact get_push_eq rfl
  have s1 : HSub h h1 := by rw [hh]; exact HSub.push1 _ _
  have g := gt k
  simp -implicitDefEqProofs (disch := first | assumption | decide | omega | (simp only [wpD1] <;> omega) | (simp only [wpD2] <;> assumption) | solve_by_elim [HSub.refl, HSub.push, HSub.reserve] | fail) only [↓wpPre, wpPost, wpPoly, Int.reduceToNat, Int.reducePow, Int.reduceMul, Int.reduceAdd, Int.reduceSub, Int.reduceNeg, Nat.reduceAdd, Nat.reduceMul, Nat.reducePow, Int.reduceLT, Int.reduceLE, Int.reduceEq, Nat.reduceEqDiff, e1, e2, ek, gp]
  refine ACallsK.eq (ks k (by omega) _) ?_
  simp -implicitDefEqProofs (disch := first | assumption | decide | omega | (simp only [wpD1] <;> omega) | (simp only [wpD2] <;> assumption) | solve_by_elim [HSub.refl, HSub.push, HSub.reserve] | fail) only [↓wpPre, wpPost, wpPoly, Int.reduceToNat, Int.reducePow, Int.reduceMul, Int.reduceAdd, Int.reduceSub, Int.reduceNeg, Nat.reduceAdd, Nat.reduceMul, Nat.reducePow, Int.reduceLT, Int.reduceLE, Int.reduceEq, Nat.reduceEqDiff, e1, e2]
  refine Br.by (fun c => ?_) (fun c => ?_)
  · have kK : K < k := by
      rcases Int.lt_or_le K k with q | q
      · exact q
      · have := g.2 q; omega
    simp -implicitDefEqProofs (disch := first | assumption | decide | omega | (simp only [wpD1] <;> omega) | (simp only [wpD2] <;> assumption) | solve_by_elim [HSub.refl, HSub.push, HSub.reserve] | fail) only [↓wpPre, wpPost, wpPoly, Int.reduceToNat, Int.reducePow, Int.reduceMul, Int.reduceAdd, Int.reduceSub, Int.reduceNeg, Nat.reduceAdd, Nat.reduceMul, Nat.reducePow, Int.reduceLT, Int.reduceLE, Int.reduceEq, Nat.reduceEqDiff, e1, e2, ek, hh]
    exact ⟨_, ⟨by omega, by omega, rfl⟩, by omega⟩
  · have kK : k ≤ K := g.1 (by omega)
    simp -implicitDefEqProofs (disch := first | assumption | decide | omega | (simp only [wpD1] <;> omega) | (simp only [wpD2] <;> assumption) | solve_by_elim [HSub.refl, HSub.push, HSub.reserve] | fail) only [↓wpPre, wpPost, wpPoly, Int.reduceToNat, Int.reducePow, Int.reduceMul, Int.reduceAdd, Int.reduceSub, Int.reduceNeg, Nat.reduceAdd, Nat.reduceMul, Nat.reducePow, Int.reduceLT, Int.reduceLE, Int.reduceEq, Nat.reduceEqDiff]
    refine wp_loopI (fun j t h' => h' = h1 ∧ ∃ k : Int, t 1 = .int .i64 n ∧ t 2 = .ptr h.size 0 ∧ t 5 = .int .i64 k ∧ -11000000 ≤ k ∧ k ≤ K ∧ j = (K - k).toNat) (j0 := (K - k).toNat)
      ⟨rfl, k, e1, e2, ek, k1, kK, rfl⟩ ?_
    rintro j t h2 ⟨rfl, k, e1, e2, ek, k3, k4, hj⟩
    have g := gt (k + 1)
    simp -implicitDefEqProofs (disch := first | assumption | decide | omega | (simp only [wpD1] <;> omega) | (simp only [wpD2] <;> assumption) | solve_by_elim [HSub.refl, HSub.push, HSub.reserve] | fail) only [↓wpPre, wpPost, wpPoly, Int.reduceToNat, Int.reducePow, Int.reduceMul, Int.reduceAdd, Int.reduceSub, Int.reduceNeg, Nat.reduceAdd, Nat.reduceMul, Nat.reducePow, Int.reduceLT, Int.reduceLE, Int.reduceEq, Nat.reduceEqDiff, e1, e2, ek, gp]
    refine ACallsK.eq (ks (k + 1) (by omega) _) ?_
    simp -implicitDefEqProofs (disch := first | assumption | decide | omega | (simp only [wpD1] <;> omega) | (simp only [wpD2] <;> assumption) | solve_by_elim [HSub.refl, HSub.push, HSub.reserve] | fail) only [↓wpPre, wpPost, wpPoly, Int.reduceToNat, Int.reducePow, Int.reduceMul, Int.reduceAdd, Int.reduceSub, Int.reduceNeg, Nat.reduceAdd, Nat.reduceMul, Nat.reducePow, Int.reduceLT, Int.reduceLE, Int.reduceEq, Nat.reduceEqDiff, e1, e2]
    refine Br.by (fun c => ?_) (fun c => ?_)
    · have kK : k + 1 ≤ K := g.1 c
      simp -implicitDefEqProofs (disch := first | assumption | decide | omega | (simp only [wpD1] <;> omega) | (simp only [wpD2] <;> assumption) | solve_by_elim [HSub.refl, HSub.push, HSub.reserve] | fail) only [↓wpPre, wpPost, wpPoly, Int.reduceToNat, Int.reducePow, Int.reduceMul, Int.reduceAdd, Int.reduceSub, Int.reduceNeg, Nat.reduceAdd, Nat.reduceMul, Nat.reducePow, Int.reduceLT, Int.reduceLE, Int.reduceEq, Nat.reduceEqDiff, e1, e2, ek]
      exact ⟨_, ⟨by omega, by omega, rfl⟩, by omega⟩
    · have kK : k = K := by
        rcases Int.lt_or_le k K with q | q
        · have := g.2 (by omega); omega
        · omega
      simp -implicitDefEqProofs (disch := first | assumption | decide | omega | (simp only [wpD1] <;> omega) | (simp only [wpD2] <;> assumption) | solve_by_elim [HSub.refl, HSub.push, HSub.reserve] | fail) only [↓wpPre, wpPost, wpPoly, Int.reduceToNat, Int.reducePow, Int.reduceMul, Int.reduceAdd, Int.reduceSub, Int.reduceNeg, Nat.reduceAdd, Nat.reduceMul, Nat.reducePow, Int.reduceLT, Int.reduceLE, Int.reduceEq, Nat.reduceEqDiff, ek, kK]
      exact s1
end
end Go.Ae

/- The carrier's functions, waves, mixes. -/
set_option linter.unusedSimpArgs false
set_option linter.unusedVariables false
namespace Go.Ae
section
variable {C : Ctx}
theorem entry_runs : (List.range 64).all (fun k => runsAs (tabIn T146) 1000 60 146 [.int .i64 (k : Nat)] (smp (carr k))) = true := by kernel_rfl
theorem entry_spec (hC : Has C T146) {k : Nat} {h : Heap} (hk : k < 64) : ACalls C 146 [.int .i64 (k : Nat)] h (fun r h' => r = smp (carr k) ∧ h' = h) :=
  runsAs_sound (tabIn_ok hC) (by simp [AV.free, AV.bel]) (smp_free _) (List.all_eq_true.1 entry_runs k (by simpa using hk)) h
theorem Carrier_spec (hC : Has C T135) {ph : Int} {h : Heap} (hp : U32 ph) : ACalls C 135 [.int .u32 ph] h (fun r h' => r = smp (carP ph) ∧ h' = h) := by
  refine ACalls.gc0 (P := fun r h' => r = smp (carP ph) ∧ HSub h h') ?_ (fun r h' hp => ⟨by rw [hp.1]; exact smp_free _, hp.2, hp.1, rfl⟩)
  unfold U32 at hp
  unfold carP
  obtain ⟨k, hk⟩ := Int.eq_ofNat_of_zero_le (show 0 ≤ ph / 67108864 by omega)
  rw [hk, Int.toNat_natCast]
  have hk' : k < 64 := by omega
  (refine calls_intro (hC.body (by decide) tab135) (Nat.le_of_ble_eq_true rfl) ?_); (show wp C _ none B135.code _ _); (simp only [B135]); simp -implicitDefEqProofs (disch := first | assumption | decide | omega | (simp only [wpD1] <;> omega) | (simp only [wpD2] <;> assumption) | solve_by_elim [HSub.refl, HSub.push, HSub.reserve] | fail) only [↓wpPre, wpPost, wpPoly, Int.reduceToNat, Int.reducePow, Int.reduceMul, Int.reduceAdd, Int.reduceSub, Int.reduceNeg, Nat.reduceAdd, Nat.reduceMul, Nat.reducePow, Int.reduceLT, Int.reduceLE, Int.reduceEq, Nat.reduceEqDiff, hk]
  refine ACallsK.eq (entry_spec (hC.sub (T' := T146) (by decide)) hk') ?_
  simp -implicitDefEqProofs (disch := first | assumption | decide | omega | (simp only [wpD1] <;> omega) | (simp only [wpD2] <;> assumption) | solve_by_elim [HSub.refl, HSub.push, HSub.reserve] | fail) only [↓wpPre, wpPost, wpPoly, Int.reduceToNat, Int.reducePow, Int.reduceMul, Int.reduceAdd, Int.reduceSub, Int.reduceNeg, Nat.reduceAdd, Nat.reduceMul, Nat.reducePow, Int.reduceLT, Int.reduceLE, Int.reduceEq, Nat.reduceEqDiff, smp]
  exact HSub.push1 _ _
/-! ### Waves -/
end
end Go.Ae

/- Bits, chips and levels: the program and the reference. -/
set_option linter.unusedSimpArgs false
set_option linter.unusedVariables false
namespace Go.Ae
def sgnI (p : PlanP) (e : EmitP) (k : Int) : Int := 1 - 2 * bitI p e k
def lvl (p : PlanP) (e : EmitP) (k : Int) : Int × Int := ((e.amp * (1 - 2 * bitI p e k)) * (carP (phI e.ph e.st k)).1, (e.amp * (1 - 2 * bitI p e k)) * (carP (phI e.ph e.st k)).2)
theorem ediv_bd {a b : Int} (hb : 1 ≤ b) {A : Int} (ha : -A ≤ a ∧ a ≤ A) : -A ≤ a / b ∧ a / b ≤ A := by
  have hA : 0 ≤ A := by omega
  constructor
  · rw [Int.le_ediv_iff_mul_le (by omega)]
    have : A * 1 ≤ A * b := Int.mul_le_mul_of_nonneg_left hb hA
    have e : -A * b = -(A * b) := by grind
    omega
  · rw [← Int.lt_add_one_iff, Int.ediv_lt_iff_lt_mul (by omega)]
    have : (A + 1) * 1 ≤ (A + 1) * b := Int.mul_le_mul_of_nonneg_left hb (by omega)
    omega
section
variable {C : Ctx}
set_option maxHeartbeats 1000000 in
set_option maxRecDepth 20000 in
theorem bit247_spec (hC : Has C T247) {p : PlanP} {e : EmitP} {vp vb vc : AV} {k : Int} {h : Heap} (ok : EmOk p e) (B : RI h vb e.bits) (v1 : vp.one = true) (w1 : vc.one = true) (hk : -20000000 ≤ k ∧ k ≤ 20000000) :
    ACalls C 247 [srcA p e vp vb vc, .int .i64 k] h (fun r h' => r = .int .i64 (bitI p e k) ∧ h' = h) := by
  refine ACalls.gc0 (P := fun r h' => r = .int .i64 (bitI p e k) ∧ HSub h h') ?_ (fun r h' hp => ⟨by rw [hp.1]; trivial, hp.2, hp.1, rfl⟩)
  have b1 := B.one
  have blt := B.lt
  have bl := ok.len
  have ba' := ok.en.2.2.2
  have pb' := ok.pn.2.2.1
  have hB : bitI p e k = if e.bits.length = 0 then 0 else e.bits.getD (((k - e.ba) / p.pb) % e.bits.length).toNat 0 := rfl
  have Bm := fun b => B.mono (HSub.push1 h b)
  generalize bitI p e k = X at *
  unfold srcA
  obtain ⟨pd, o, pb, w, mn, mx, nz, prns⟩ := p
  obtain ⟨prn, dl, rt, st, ph, amp, ba, bits⟩ := e
  dsimp only at *
  by_cases c : bits.length = 0
  · rw [if_pos c] at hB
    subst hB
    (refine calls_intro (hC.body (by decide) tab247) (Nat.le_of_ble_eq_true rfl) ?_); (show wp C _ none B247.code _ _); (simp only [B247]); simp -implicitDefEqProofs (disch := first | assumption | decide | omega | (simp only [wpD1] <;> omega) | (simp only [wpD2] <;> assumption) | solve_by_elim [HSub.refl, HSub.push, HSub.reserve] | fail) only [↓wpPre, wpPost, wpPoly, Int.reduceToNat, Int.reducePow, Int.reduceMul, Int.reduceAdd, Int.reduceSub, Int.reduceNeg, Nat.reduceAdd, Nat.reduceMul, Nat.reducePow, Int.reduceLT, Int.reduceLE, Int.reduceEq, Nat.reduceEqDiff, B.len, c]
    exact HSub.push1 _ _
  · rw [if_neg c] at hB
    have tm := tmod_twice (j := (k - ba) / pb) (n := (bits.length : Int)) (by omega)
    have m1 := Int.emod_nonneg ((k - ba) / pb) (show (bits.length : Int) ≠ 0 by omega)
    have m2 := Int.emod_lt_of_pos ((k - ba) / pb) (show (0 : Int) < bits.length by omega)
    have q1 := Int.tmod_lt_of_pos ((k - ba) / pb) (show (0 : Int) < bits.length by omega)
    have q2 := Int.lt_tmod_of_pos ((k - ba) / pb) (show (0 : Int) < bits.length by omega)
    have q3 := ediv_bd (a := k - ba) (b := pb) (A := 20000020) (by omega) (by omega)
    have fn := floor_neg (k := k - ba) (b := pb) (by omega)
    have q4 := ediv_bd (a := pb - 1 - (k - ba)) (b := pb) (A := 20000060) (by omega) (by omega)
    obtain ⟨m, hm⟩ : ∃ m : Nat, ((k - ba) / pb) % (bits.length : Int) = (m : Int) := ⟨(((k - ba) / pb) % (bits.length : Int)).toNat, by omega⟩
    rw [Int.tmod_eq_emod_of_nonneg (by omega)] at tm
    rw [hm] at tm m1 m2 hB
    rw [Int.toNat_natCast] at hB
    have ld := fun b => (Bm b).load (k := m) (by omega)
    have ix := B.idx (kk := .i64) (k := (m : Int)) ⟨by omega, by omega⟩
    rw [Int.toNat_natCast] at ix
    rw [← hB] at ld
    have nb : ¬ (bits.length : Int) = 0 := by omega
    have npb : ¬ pb = 0 := by omega
    by_cases c2 : k - ba < 0
    · have td : (pb - 1 - (k - ba)).tdiv pb = (pb - 1 - (k - ba)) / pb := Int.tdiv_eq_ediv_of_nonneg (by omega)
      have q5 : -40000000 ≤ (k - ba).tdiv pb ∧ (k - ba).tdiv pb ≤ 40000000 := by
        have := Int.natAbs_tdiv_le_natAbs (k - ba) pb
        omega
      have fn' : 0 - (pb - 1 - (k - ba)) / pb = (k - ba) / pb := by omega
      generalize (k - ba) / pb = J at *
      generalize hD : (pb - 1 - (k - ba)) / pb = D at *
      (refine calls_intro (hC.body (by decide) tab247) (Nat.le_of_ble_eq_true rfl) ?_); (show wp C _ none B247.code _ _); (simp only [B247]); simp -implicitDefEqProofs (disch := first | assumption | decide | omega | (simp only [wpD1] <;> omega) | (simp only [wpD2] <;> assumption) | solve_by_elim [HSub.refl, HSub.push, HSub.reserve] | fail) only [↓wpPre, wpPost, wpPoly, Int.reduceToNat, Int.reducePow, Int.reduceMul, Int.reduceAdd, Int.reduceSub, Int.reduceNeg, Nat.reduceAdd, Nat.reduceMul, Nat.reducePow, Int.reduceLT, Int.reduceLE, Int.reduceEq, Nat.reduceEqDiff, B.len, nb, npb, c2, td, hD, fn', tm, ix, ld, gV_u]
      exact HSub.push1 _ _
    · have td : (k - ba).tdiv pb = (k - ba) / pb := Int.tdiv_eq_ediv_of_nonneg (by omega)
      generalize hJ : (k - ba) / pb = J at *
      (refine calls_intro (hC.body (by decide) tab247) (Nat.le_of_ble_eq_true rfl) ?_); (show wp C _ none B247.code _ _); (simp only [B247]); simp -implicitDefEqProofs (disch := first | assumption | decide | omega | (simp only [wpD1] <;> omega) | (simp only [wpD2] <;> assumption) | solve_by_elim [HSub.refl, HSub.push, HSub.reserve] | fail) only [↓wpPre, wpPost, wpPoly, Int.reduceToNat, Int.reducePow, Int.reduceMul, Int.reduceAdd, Int.reduceSub, Int.reduceNeg, Nat.reduceAdd, Nat.reduceMul, Nat.reducePow, Int.reduceLT, Int.reduceLE, Int.reduceEq, Nat.reduceEqDiff, B.len, nb, npb, c2, td, hJ, tm, ix, ld, gV_u]
      exact HSub.push1 _ _
theorem chip249_spec (hC : Has C T249) {p : PlanP} {e : EmitP} {vp vb vc : AV} {i : Int} {h : Heap} (ok : EmOk p e) (W : RI h vc (codeL p.d e.prn)) (v1 : vp.one = true) (b1 : vb.one = true) (hi : 0 ≤ i ∧ i ≤ 100000) :
    ACalls C 249 [srcA p e vp vb vc, .int .i64 i] h (fun r h' => r = .int .i64 (chipI p e i) ∧ h' = h) := by
  refine ACalls.gc0 (P := fun r h' => r = .int .i64 (chipI p e i) ∧ HSub h h') ?_ (fun r h' hp => ⟨by rw [hp.1]; trivial, hp.2, hp.1, rfl⟩)
  have w1 := W.one
  have o' := ok.pn.2.1
  have cl : (codeL p.d e.prn).length = lenN p.d := codeL_length _ _
  have hN := lenN_eq ok.pn.1
  have Wm := fun b => W.mono (HSub.push1 h b)
  have q3 := ediv_bd (a := i) (b := p.o) (A := 100000) (by omega) (by omega)
  have q4 : 0 ≤ i / p.o := Int.ediv_nonneg (by omega) (by omega)
  have td : i.tdiv p.o = i / p.o := Int.tdiv_eq_ediv_of_nonneg (by omega)
  unfold chipI
  obtain ⟨m, hm⟩ : ∃ m : Nat, min (i / p.o) ((lenN p.d : Int) - 1) = (m : Int) := ⟨(min (i / p.o) ((lenN p.d : Int) - 1)).toNat, by omega⟩
  rw [hm, Int.toNat_natCast]
  have ld := fun b => (Wm b).load (k := m) (by omega)
  have ix := W.idx (kk := .i64) (k := (m : Int)) ⟨by omega, by omega⟩
  rw [Int.toNat_natCast] at ix
  have wl := W.len
  rw [cl] at wl
  generalize (codeL p.d e.prn).getD m 0 = x at *
  generalize lenN p.d = N at *
  have no : ¬ p.o = 0 := by omega
  unfold srcA
  obtain ⟨pd, o, pb, w, mn, mx, nz, prns⟩ := p
  obtain ⟨prn, dl, rt, st, ph, amp, ba, bits⟩ := e
  dsimp only at *
  (refine calls_intro (hC.body (by decide) tab249) (Nat.le_of_ble_eq_true rfl) ?_); (show wp C _ none B249.code _ _); (simp only [B249]); simp -implicitDefEqProofs (disch := first | assumption | decide | omega | (simp only [wpD1] <;> omega) | (simp only [wpD2] <;> assumption) | solve_by_elim [HSub.refl, HSub.push, HSub.reserve] | fail) only [↓wpPre, wpPost, wpPoly, Int.reduceToNat, Int.reducePow, Int.reduceMul, Int.reduceAdd, Int.reduceSub, Int.reduceNeg, Nat.reduceAdd, Nat.reduceMul, Nat.reducePow, Int.reduceLT, Int.reduceLE, Int.reduceEq, Nat.reduceEqDiff, td, no, wl, hm, ix, ld]
  exact HSub.push1 _ _
set_option maxHeartbeats 1000000 in
set_option maxRecDepth 20000 in
theorem level250_spec (hC : Has C T250) {p : PlanP} {e : EmitP} {vp vb vc : AV} {k : Int} {h : Heap} (ok : EmOk p e) (h65 : e.ok64) (B : RI h vb e.bits) (v1 : vp.one = true) (w1 : vc.one = true) (hk : -20000000 ≤ k ∧ k ≤ 20000000) :
    ACalls C 250 [srcA p e vp vb vc, .int .i64 k] h (fun r h' => r = smp (lvl p e k) ∧ h' = h) := by
  refine ACalls.gc0 (P := fun r h' => r = smp (lvl p e k) ∧ HSub h h') ?_ (fun r h' hp => ⟨by rw [hp.1]; exact smp_free _, hp.2, hp.1, rfl⟩)
  have b1 := B.one
  have am := ok.en.2.2.1
  have pm := ok.pn.2.2.2.2
  have bb := ok.bit k
  have ka := fun h => Advance_spec (hC.sub (T' := T143) (by decide)) (a := e.ph) (s := e.st) (n := k) (h := h)
  have kc := fun h => Carrier_spec (hC.sub (T' := T135) (by decide)) (h := h) (phI_u32 e.ph e.st k)
  have cl := carP_le (phI_u32 e.ph e.st k)
  have kb := fun h1 (q : HSub h h1) => bit247_spec (hC.sub (T' := T247) (by decide)) (vp := vp) (vc := vc) ok (B.mono q) v1 w1 hk
  unfold lvl
  generalize carP (phI e.ph e.st k) = t at *
  generalize hb : bitI p e k = b at *
  generalize phI e.ph e.st k = f at *
  have xb : -1000 ≤ e.amp * (1 - 2 * b) ∧ e.amp * (1 - 2 * b) ≤ 1000 := by rcases bb with q | q <;> subst q <;> omega
  have x1 := mul_le127 xb ⟨cl.1, cl.2.1⟩
  have x2 := mul_le127 xb ⟨cl.2.2.1, cl.2.2.2⟩
  obtain ⟨tx, ty⟩ := t
  unfold srcA at kb ⊢
  unfold smp at kc ⊢
  obtain ⟨pd, o, pb, w, mn, mx, nz, prns⟩ := p
  obtain ⟨prn, dl, rt, st, ph, amp, ba, bits⟩ := e
  dsimp only at *
  (refine calls_intro (hC.body (by decide) tab250) (Nat.le_of_ble_eq_true rfl) ?_); (show wp C _ none B250.code _ _); (simp only [B250]); simp -implicitDefEqProofs (disch := first | assumption | decide | omega | (simp only [wpD1] <;> omega) | (simp only [wpD2] <;> assumption) | solve_by_elim [HSub.refl, HSub.push, HSub.reserve] | fail) only [↓wpPre, wpPost, wpPoly, Int.reduceToNat, Int.reducePow, Int.reduceMul, Int.reduceAdd, Int.reduceSub, Int.reduceNeg, Nat.reduceAdd, Nat.reduceMul, Nat.reducePow, Int.reduceLT, Int.reduceLE, Int.reduceEq, Nat.reduceEqDiff]
  refine ACallsK.eq (ka _) ?_
  simp -implicitDefEqProofs (disch := first | assumption | decide | omega | (simp only [wpD1] <;> omega) | (simp only [wpD2] <;> assumption) | solve_by_elim [HSub.refl, HSub.push, HSub.reserve] | fail) only [↓wpPre, wpPost, wpPoly, Int.reduceToNat, Int.reducePow, Int.reduceMul, Int.reduceAdd, Int.reduceSub, Int.reduceNeg, Nat.reduceAdd, Nat.reduceMul, Nat.reducePow, Int.reduceLT, Int.reduceLE, Int.reduceEq, Nat.reduceEqDiff]
  refine ACallsK.eq (kc _) ?_
  simp -implicitDefEqProofs (disch := first | assumption | decide | omega | (simp only [wpD1] <;> omega) | (simp only [wpD2] <;> assumption) | solve_by_elim [HSub.refl, HSub.push, HSub.reserve] | fail) only [↓wpPre, wpPost, wpPoly, Int.reduceToNat, Int.reducePow, Int.reduceMul, Int.reduceAdd, Int.reduceSub, Int.reduceNeg, Nat.reduceAdd, Nat.reduceMul, Nat.reducePow, Int.reduceLT, Int.reduceLE, Int.reduceEq, Nat.reduceEqDiff]
  refine ACallsK.eq (kb _ (by repeat (first | exact HSub.refl h | refine HSub.put ?_ (by (try simp only [Heap.size_put, Heap.size_push, Heap.size_reserve]); omega) _ | refine HSub.push ?_ _ | refine HSub.reserve ?_ _))) ?_
  simp -implicitDefEqProofs (disch := first | assumption | decide | omega | (simp only [wpD1] <;> omega) | (simp only [wpD2] <;> assumption) | solve_by_elim [HSub.refl, HSub.push, HSub.reserve] | fail) only [↓wpPre, wpPost, wpPoly, Int.reduceToNat, Int.reducePow, Int.reduceMul, Int.reduceAdd, Int.reduceSub, Int.reduceNeg, Nat.reduceAdd, Nat.reduceMul, Nat.reducePow, Int.reduceLT, Int.reduceLE, Int.reduceEq, Nat.reduceEqDiff]
  exact (by repeat (first | exact HSub.refl h | refine HSub.put ?_ (by (try simp only [Heap.size_put, Heap.size_push, Heap.size_reserve]); omega) _ | refine HSub.push ?_ _ | refine HSub.reserve ?_ _))
end
end Go.Ae

/- The codes of the reference; sums. -/
set_option linter.unusedSimpArgs false
set_option linter.unusedVariables false
namespace Go.Ae
def codeK (d p : Int) (k : Nat) : List Int := (codeL d p).take k ++ List.replicate (lenN d - k) 0
theorem codeL_get {d p : Int} {k : Nat} (h : k < lenN d) : (codeL d p).getD k 0 = 1 - 2 * codeB d p k := by simp [codeL, bitC, h]
theorem codeL_range {d p : Int} : ∀ x ∈ codeL d p, -1 ≤ x ∧ x ≤ 1 := by
  intro x hx
  obtain ⟨b, hb, rfl⟩ := List.mem_map.1 hx
  obtain ⟨i, _, rfl⟩ := List.mem_map.1 hb
  have := codeB_01 d p i
  omega
def sumE (d p : Int) : AV := if codeErr d p = 0 then tup2 (codeL d p).sum 0 else tup2 0 2
section
variable {C : Ctx}
end
end Go.Ae

/- Samples of codes, of the program. -/
set_option linter.unusedSimpArgs false
set_option linter.unusedVariables false
namespace Go.Ae
def knownErr (d o : Int) : Int := if lenOk d = true ∧ 1 ≤ o ∧ o ≤ 8 then 0 else 2
def sampL (d p : Int) (o : Nat) : List Int := ((codeL d p).map fun x => List.replicate o x).flatten
def sampP (d p : Int) (o k : Nat) : List Int := (((codeL d p).take k).map fun x => List.replicate o x).flatten
theorem sampP_succ {d p : Int} {o k : Nat} (h : k < (codeL d p).length) : sampP d p o (k + 1) = sampP d p o k ++ List.replicate o ((codeL d p).getD k 0) := by
  unfold sampP; rw [take_succ_getD h]; simp
theorem sampP_length {d p : Int} {o : Nat} : ∀ k, k ≤ (codeL d p).length → (sampP d p o k).length = k * o
  | 0, _ => by simp [sampP]
  | k + 1, h => by rw [sampP_succ (by omega), List.length_append, sampP_length k (by omega), List.length_replicate, Nat.add_mul, Nat.one_mul]
theorem sampP_full (d p : Int) (o : Nat) : sampP d p o (codeL d p).length = sampL d p o := by unfold sampP sampL; rw [List.take_length]
section
variable {C : Ctx}
theorem known09_spec (hC : Has C T150) {d o : Int} {h : Heap} (hd : In64 d) (ho : In64 o) : ACalls C 150 [.int .i64 d, .int .i64 o] h (fun r h' => r = .int .i64 (knownErr d o) ∧ h' = h) := by
  unfold In64 at ho
  by_cases c : lenOk d = true
  · have e : lenE d = tup2 (lenN d) 0 := by unfold lenE; rw [if_pos c]
    by_cases co : 1 ≤ o ∧ o ≤ 8
    · have pe : knownErr d o = 0 := by unfold knownErr; rw [if_pos ⟨c, co⟩]
      rw [pe]
      (refine calls_intro (hC.body (by decide) tab150) (Nat.le_of_ble_eq_true rfl) ?_); (show wp C _ none B150.code _ _); (simp only [B150]); simp -implicitDefEqProofs (disch := first | assumption | decide | omega | (simp only [wpD1] <;> omega) | (simp only [wpD2] <;> assumption) | solve_by_elim [HSub.refl, HSub.push, HSub.reserve] | fail) only [↓wpPre, wpPost, wpPoly, Int.reduceToNat, Int.reducePow, Int.reduceMul, Int.reduceAdd, Int.reduceSub, Int.reduceNeg, Nat.reduceAdd, Nat.reduceMul, Nat.reducePow, Int.reduceLT, Int.reduceLE, Int.reduceEq, Nat.reduceEqDiff]
      refine ACallsK.eq2 (Length_spec (hC.sub (T' := T70) (by decide)) hd) e ?_
      simp -implicitDefEqProofs (disch := first | assumption | decide | omega | (simp only [wpD1] <;> omega) | (simp only [wpD2] <;> assumption) | solve_by_elim [HSub.refl, HSub.push, HSub.reserve] | fail) only [↓wpPre, wpPost, wpPoly, Int.reduceToNat, Int.reducePow, Int.reduceMul, Int.reduceAdd, Int.reduceSub, Int.reduceNeg, Nat.reduceAdd, Nat.reduceMul, Nat.reducePow, Int.reduceLT, Int.reduceLE, Int.reduceEq, Nat.reduceEqDiff, tup2]
    · have pe : knownErr d o = 2 := by unfold knownErr; rw [if_neg (fun h => co h.2)]
      rw [pe]
      (refine calls_intro (hC.body (by decide) tab150) (Nat.le_of_ble_eq_true rfl) ?_); (show wp C _ none B150.code _ _); (simp only [B150]); simp -implicitDefEqProofs (disch := first | assumption | decide | omega | (simp only [wpD1] <;> omega) | (simp only [wpD2] <;> assumption) | solve_by_elim [HSub.refl, HSub.push, HSub.reserve] | fail) only [↓wpPre, wpPost, wpPoly, Int.reduceToNat, Int.reducePow, Int.reduceMul, Int.reduceAdd, Int.reduceSub, Int.reduceNeg, Nat.reduceAdd, Nat.reduceMul, Nat.reducePow, Int.reduceLT, Int.reduceLE, Int.reduceEq, Nat.reduceEqDiff]
      refine ACallsK.eq2 (Length_spec (hC.sub (T' := T70) (by decide)) hd) e ?_
      simp -implicitDefEqProofs (disch := first | assumption | decide | omega | (simp only [wpD1] <;> omega) | (simp only [wpD2] <;> assumption) | solve_by_elim [HSub.refl, HSub.push, HSub.reserve] | fail) only [↓wpPre, wpPost, wpPoly, Int.reduceToNat, Int.reducePow, Int.reduceMul, Int.reduceAdd, Int.reduceSub, Int.reduceNeg, Nat.reduceAdd, Nat.reduceMul, Nat.reducePow, Int.reduceLT, Int.reduceLE, Int.reduceEq, Nat.reduceEqDiff, tup2]
      (repeat' (first | (refine Br.by (fun _ => ?_) (fun _ => ?_)) | (simp -implicitDefEqProofs (disch := first | assumption | decide | omega | (simp only [wpD1] <;> omega) | (simp only [wpD2] <;> assumption) | solve_by_elim [HSub.refl, HSub.push, HSub.reserve] | fail) only [↓wpPre, wpPost, wpPoly, Int.reduceToNat, Int.reducePow, Int.reduceMul, Int.reduceAdd, Int.reduceSub, Int.reduceNeg, Nat.reduceAdd, Nat.reduceMul, Nat.reducePow, Int.reduceLT, Int.reduceLE, Int.reduceEq, Nat.reduceEqDiff])))
      all_goals omega
  · have e : lenE d = tup2 0 2 := by unfold lenE; rw [if_neg c]
    have pe : knownErr d o = 2 := by unfold knownErr; rw [if_neg (fun h => c h.1)]
    rw [pe]
    (refine calls_intro (hC.body (by decide) tab150) (Nat.le_of_ble_eq_true rfl) ?_); (show wp C _ none B150.code _ _); (simp only [B150]); simp -implicitDefEqProofs (disch := first | assumption | decide | omega | (simp only [wpD1] <;> omega) | (simp only [wpD2] <;> assumption) | solve_by_elim [HSub.refl, HSub.push, HSub.reserve] | fail) only [↓wpPre, wpPost, wpPoly, Int.reduceToNat, Int.reducePow, Int.reduceMul, Int.reduceAdd, Int.reduceSub, Int.reduceNeg, Nat.reduceAdd, Nat.reduceMul, Nat.reducePow, Int.reduceLT, Int.reduceLE, Int.reduceEq, Nat.reduceEqDiff]
    refine ACallsK.eq2 (Length_spec (hC.sub (T' := T70) (by decide)) hd) e ?_
    simp -implicitDefEqProofs (disch := first | assumption | decide | omega | (simp only [wpD1] <;> omega) | (simp only [wpD2] <;> assumption) | solve_by_elim [HSub.refl, HSub.push, HSub.reserve] | fail) only [↓wpPre, wpPost, wpPoly, Int.reduceToNat, Int.reducePow, Int.reduceMul, Int.reduceAdd, Int.reduceSub, Int.reduceNeg, Nat.reduceAdd, Nat.reduceMul, Nat.reducePow, Int.reduceLT, Int.reduceLE, Int.reduceEq, Nat.reduceEqDiff, tup2]
end
end Go.Ae

/- Two lists that grow side by side. -/
set_option linter.unusedSimpArgs false
set_option linter.unusedVariables false
namespace Go.Ae
def Dj (v w : AV) : Prop := ∀ i, i ∈ v.ids → i ∉ w.ids
theorem Dj.nilL {w : AV} : Dj .nilslice w := fun i hi => by simp [AV.ids] at hi
theorem Dj.nilR {v : AV} : Dj v .nilslice := fun i _ => by simp [AV.ids]
theorem Dj.symm {v w : AV} (h : Dj v w) : Dj w v := fun i hi hv => h i hv hi
section
variable {h0 h H : Heap} {sz sz' n m k k' : Nat} {v w : AV} {cs ds es : List AV} {c : Cap} {x : Int} {l l' : List Int}
theorem Grw.dj (B : Grw h0 h sz w n ds) (hk : h.size ≤ k) : Dj w (.slice k 0 k' c) := by
  obtain ⟨_, _, _, ⟨rfl, rfl⟩ | ⟨i, ex, hi, rfl, hg⟩⟩ := B
  · exact Dj.nilL
  · intro j hj
    have := Heap.lt_of_get hg
    simp only [AV.ids, List.mem_singleton] at hj ⊢
    omega
theorem Grw.keep (A : Grw h0 h sz' v m es) (B : Grw h0 h sz w n ds) (hs : HSub h H) (hd : Dj w v) : Grw h0 (snocH H none v sz' cs) sz w n ds := by
  have hsub : HSub h0 (snocH H none v sz' cs) := by
    obtain ⟨h1, _, _, ⟨rfl, rfl⟩ | ⟨i, ex, hi, rfl, hg⟩⟩ := A
    · exact (h1.trans hs).push _
    · exact ((h1.trans hs).put hi _).push _
  obtain ⟨h1, hl, hn, ⟨rfl, rfl⟩ | ⟨i, ex, hi, rfl, hg⟩⟩ := B
  · exact ⟨hsub, hl, hn, .inl ⟨rfl, rfl⟩⟩
  · refine ⟨hsub, hl, hn, .inr ⟨i, ex, hi, rfl, ?_⟩⟩
    have hlt := Heap.lt_of_get hg
    have hsz := hs.size
    have hH := (hs.get i hlt).trans hg
    obtain ⟨_, _, _, ⟨rfl, rfl⟩ | ⟨j, ex', hj, rfl, hg'⟩⟩ := A
    · exact (get_push_lt (by omega)).trans hH
    · have hne : i ≠ j := fun e => hd i (by simp [AV.ids]) (by simp [AV.ids, e])
      exact (get_push_lt (by simp only [Heap.size_put]; omega)).trans ((get_put_ne hne).trans hH)
theorem Grw.keepS (A : Grw h0 h sz' v m es) (B : Grw h0 h sz w n ds) (hs : HSub h H) (hk : h.size ≤ k ∧ k < H.size) (hd : Dj w v) : Grw h0 (snocH H (some k) v sz' cs) sz w n ds := by
  have hsub : HSub h0 (snocH H (some k) v sz' cs) := by
    have := A.sub.size
    obtain ⟨h1, _, _, ⟨rfl, rfl⟩ | ⟨i, ex, hi, rfl, hg⟩⟩ := A
    · exact (h1.trans hs).put (by omega) _
    · exact ((h1.trans hs).put hi _).put (by omega) _
  obtain ⟨h1, hl, hn, ⟨rfl, rfl⟩ | ⟨i, ex, hi, rfl, hg⟩⟩ := B
  · exact ⟨hsub, hl, hn, .inl ⟨rfl, rfl⟩⟩
  · refine ⟨hsub, hl, hn, .inr ⟨i, ex, hi, rfl, ?_⟩⟩
    have hlt := Heap.lt_of_get hg
    have hH := (hs.get i hlt).trans hg
    obtain ⟨_, _, _, ⟨rfl, rfl⟩ | ⟨j, ex', hj, rfl, hg'⟩⟩ := A
    · exact (get_put_ne (by omega)).trans hH
    · have hne : i ≠ j := fun e => hd i (by simp [AV.ids]) (by simp [AV.ids, e])
      exact (get_put_ne (by omega)).trans ((get_put_ne hne).trans hH)
theorem GrwI.keep (A : GrwI h0 h v l) (B : GrwI h0 h w l') (hs : HSub h H) (hd : Dj w v) : GrwI h0 (snocH H none v 1 (ints (l ++ [x]))) w l' := Grw.keep A B hs hd
theorem GrwI.keepS (A : GrwI h0 h v l) (B : GrwI h0 h w l') (hs : HSub h H) (hk : h.size ≤ k ∧ k < H.size) (hd : Dj w v) : GrwI h0 (snocH H (some k) v 1 (ints (l ++ [x]))) w l' := Grw.keepS A B hs hk hd
theorem GrwI.dj (B : GrwI h0 h w l) (hk : h.size ≤ k) : Dj w (.slice k 0 k' c) := Grw.dj B hk
end
end Go.Ae

/- Lists that grow in a region that draws its order, several at once. -/
set_option linter.unusedSimpArgs false
set_option linter.unusedVariables false
namespace Go.Ae
section
variable {h0 h H : Heap} {sz bytes n m k j x y : Nat} {v : AV} {cs news : List AV} {l : List (Int × Int)} {li : List Int}
theorem Grw.ids_lt (A : Grw h0 h sz v n cs) : ∀ i ∈ v.ids, h0.size ≤ i ∧ i < h.size := by
  obtain ⟨_, _, _, ⟨rfl, rfl⟩ | ⟨i, ex, hi, rfl, hg⟩⟩ := A
  · intro i hi; simp [AV.ids] at hi
  · intro j hj
    simp only [AV.ids, List.mem_singleton] at hj
    subst hj
    exact ⟨hi, Heap.lt_of_get hg⟩
theorem Grw.appG (A : Grw h0 h sz v n cs) (hg : ∀ i ∈ v.ids, H.get i = h.get i) (hk : h.size ≤ k ∧ k < H.size) (hm : m ≠ 0) (hb : (n + m) * bytes ≤ 1099511627776) (h1 : news.all AV.one = true) :
    appendA H (some k) sz bytes v m news = appK k H v (.slice k 0 (n + m) (.unk 0)) sz (cs ++ news) (H.get k) := by
  obtain ⟨_, hl, hn, ⟨rfl, rfl⟩ | ⟨i, ex, hi, rfl, hgi⟩⟩ := A
  · have : cs = [] := List.eq_nil_of_length_eq_zero (by omega)
    subst this
    exact Grw.appS (h0 := Heap.empty) (h := Heap.empty) (cs := []) (n := 0) ⟨HSub.refl _, by simp, by omega, .inl ⟨rfl, rfl⟩⟩ ⟨Nat.zero_le _, fun i hi => absurd hi (Nat.not_lt_zero i)⟩ ⟨Nat.zero_le _, hk.2⟩ hm hb h1
  · have e0 := (hg i (by simp [AV.ids])).trans hgi
    have hlt := Heap.lt_of_get hgi
    have hr : H.room (some k) = ((H.get k).isNone && decide (k < H.size)) := rfl
    simp only [appendA, e0]
    by_cases e : (H.get k).isNone = true
    · have e' : H.get k = none := by simpa using e
      rw [if_pos ⟨trivial, by omega, by rw [List.length_append]; omega, h1, hb, by rw [hr, e]; simpa using hk.2, by omega⟩, cut_pre hl]
      exact (congrArg (appK k H (.slice i 0 n (.unk 0)) (.slice k 0 (n + m) (.unk 0)) sz (cs ++ news)) e').symm
    · rw [if_neg (by rw [hr]; simp [e]), if_neg (by omega)]
      obtain ⟨b, e'⟩ : ∃ b, H.get k = some b := by cases x : H.get k with | none => simp [x] at e | some b => exact ⟨b, rfl⟩
      exact (congrArg (appK k H (.slice i 0 n (.unk 0)) (.slice k 0 (n + m) (.unk 0)) sz (cs ++ news)) e').symm
theorem snocS_size : (snocH H (some k) v sz cs).size = H.size := by unfold snocH; cases v <;> rfl
theorem snocS_same (hk : k < H.size) : (snocH H (some k) v sz cs).get k = some (.cells cs true sz) := by
  unfold snocH
  cases v <;> exact get_put_eq rfl (by simpa using hk)
theorem snocS_ne (hk : j ≠ k) (hv : j ∉ v.ids) : (snocH H (some k) v sz cs).get j = H.get j := by
  unfold snocH
  cases v
  case slice i o n c => exact (get_put_ne hk).trans (get_put_ne (fun e => hv (by simp [AV.ids, e])))
  all_goals exact get_put_ne hk
theorem snocS_sub {hB : Heap} (A : Grw hB h sz v n cs) {ds : List AV} (hs : HSub hB H) (hk : hB.size ≤ k) : HSub hB (snocH H (some k) v sz ds) := by
  obtain ⟨_, _, _, ⟨rfl, rfl⟩ | ⟨i, ex, hi, rfl, hg⟩⟩ := A
  · exact hs.put hk _
  · exact (hs.put hi _).put hk _
theorem GrwS.appG {a b : Int} (A : GrwS h0 h v l) (hg : ∀ i ∈ v.ids, H.get i = h.get i) (hk : h.size ≤ k ∧ k < H.size) (hb : l.length + 1 ≤ 1073741824) : appendA H (some k) 2 16 v 1 [.int .i64 a, .int .i64 b] = appK k H v (.slice k 0 (l.length + 1) (.unk 0)) 2 (smps (l ++ [(a, b)])) (H.get k) := by
  rw [Grw.appG A hg hk (by decide) (by omega) (by rfl), smps_snoc]
theorem GrwS.mk {K : Nat} (hs : HSub h0 h) (hk : h0.size ≤ k) (hl : K = l.length ∧ l.length < 9223372036854775808) (hg : h.get k = some (.cells (smps l) true 2)) : GrwS h0 h (.slice k 0 K (.unk 0)) l := by
  obtain ⟨rfl, hl⟩ := hl
  exact ⟨hs, smps_length, hl, .inr ⟨k, [], hk, rfl, by rw [List.append_nil]; exact hg⟩⟩
theorem SL.fldE {cs : List AV} (A : SL h sz v n cs) : ∀ (k off : Nat), k < n → fieldAddrA off (elA sz v k) = some (elF sz v k off) := by
  intro k off hk
  obtain ⟨_, _, ⟨rfl, h1⟩ | ⟨i, o, c, vs, wr, u, rfl, _⟩⟩ := A
  · omega
  · rfl
theorem SL.loadE {cs : List AV} (A : SL h sz v n cs) {k off : Nat} (hk : k < n) (ho : off < sz) : Ae.loadA h false 1 (elF sz v k off) = cs[k * sz + off]? := by
  obtain ⟨hl, hlt, ⟨rfl, h1⟩ | ⟨i, o, c, vs, wr, u, rfl, hg, hle, hc, _⟩⟩ := A
  · omega
  · have h1 : (k + 1) * sz ≤ n * sz := Nat.mul_le_mul_right sz hk
    have h2 : (k + 1) * sz = k * sz + sz := by rw [Nat.add_mul, Nat.one_mul]
    rw [← hc, cut, List.getElem?_take_of_lt (by omega), List.getElem?_drop]
    simp only [elF, Ae.loadA, hg, partA, Bool.false_eq_true, if_false]
    rw [Nat.add_assoc]
theorem Dj.not {v w : AV} (h : Dj v w) {i : Nat} (hi : i ∈ w.ids) : i ∉ v.ids := fun hv => h i hv hi
end
end Go.Ae

/- Codes with their samples, of the program. -/
set_option linter.unusedSimpArgs false
set_option linter.unusedVariables false
namespace Go.Ae
theorem sampL_length (d p : Int) (o : Nat) : (sampL d p o).length = lenN d * o := by rw [← sampP_full, sampP_length _ (Nat.le_refl _), codeL_length]
def sampErr (d o : Int) (ps : List Int) : Int := if knownErr d o = 0 ∧ ∀ p ∈ ps, codeErr d p = 0 then 0 else 2
def codeCells (vs : List AV) (o : Int) : List AV := vs.flatMap fun v => [v, .int .i64 o]
theorem codeCells_snoc (vs : List AV) (v : AV) (o : Int) : codeCells (vs ++ [v]) o = codeCells vs o ++ [v, .int .i64 o] := by simp [codeCells]
structure CLs (h : Heap) (v : AV) (d o : Int) (ps : List Int) (vs : List AV) : Prop where
  sl : SL h 2 v ps.length (codeCells vs o)
  len : vs.length = ps.length
  ri : ∀ i, i < ps.length → RI h (vs.getD i .nilslice) (sampL d (ps.getD i 0) o.toNat)
theorem CLs.mono {h h' : Heap} {v : AV} {d o : Int} {ps : List Int} {vs : List AV} (H : CLs h v d o ps vs) (hs : HSub h h') : CLs h' v d o ps vs := ⟨H.sl.mono hs, H.len, fun i hi => (H.ri i hi).mono hs⟩
theorem grwI_mk {h0 h : Heap} {k K : Nat} {l : List Int} (hs : HSub h0 h) (hk : h0.size ≤ k) (hl : K = l.length ∧ l.length < 9223372036854775808) (hg : h.get k = some (.cells (ints l) true 1)) : GrwI h0 h (.slice k 0 K (.unk 0)) l := by
  obtain ⟨rfl, hl⟩ := hl
  exact Grw.fresh hs hk hl hg
section
variable {C : Ctx}
set_option maxHeartbeats 4000000 in
set_option maxRecDepth 20000 in
theorem sampled_specF (hC : Has C T142) {d o : Int} {vp : AV} {ps : List Int} {h : Heap} (hd : In64 d) (ho : In64 o) (hp : RI h vp ps) (hx : ∀ x ∈ ps, In64 x) (hpl : ps.length ≤ 1000) :
    ACalls C 142 [.int .i64 d, .int .i64 o, vp] h (fun r h' => ∃ v vs, r = lstErr v (sampErr d o ps) ∧ HSub h h' ∧ (sampErr d o ps = 0 → CLs h' v d o ps vs ∧ ∀ i, i < ps.length → GrwI h h' (vs.getD i .nilslice) (sampL d (ps.getD i 0) o.toNat))) := by
  have hplt := hp.lt
  by_cases ck : knownErr d o = 0
  · have pe : sampErr d o ps = if ∀ p ∈ ps, codeErr d p = 0 then 0 else 2 := by unfold sampErr; simp only [ck, true_and]
    have kr : lenOk d = true ∧ 1 ≤ o ∧ o ≤ 8 := by
      unfold knownErr at ck
      split at ck
      · assumption
      · cases ck
    obtain ⟨q, rfl⟩ := Int.eq_ofNat_of_zero_le (show 0 ≤ o by omega)
    have hN := lenN_eq kr.1
    (refine calls_intro (hC.body (by decide) tab142) (Nat.le_of_ble_eq_true rfl) ?_); (show wp C _ none B142.code _ _); (simp only [B142]); simp -implicitDefEqProofs (disch := first | assumption | decide | omega | (simp only [wpD1] <;> omega) | (simp only [wpD2] <;> assumption) | solve_by_elim [HSub.refl, HSub.push, HSub.reserve] | fail) only [↓wpPre, wpPost, wpPoly, Int.reduceToNat, Int.reducePow, Int.reduceMul, Int.reduceAdd, Int.reduceSub, Int.reduceNeg, Nat.reduceAdd, Nat.reduceMul, Nat.reducePow, Int.reduceLT, Int.reduceLE, Int.reduceEq, Nat.reduceEqDiff]
    refine ACallsK.eq (known09_spec (hC.sub (T' := T150) (by decide)) hd ho) ?_
    rw [ck]
    simp -implicitDefEqProofs (disch := first | assumption | decide | omega | (simp only [wpD1] <;> omega) | (simp only [wpD2] <;> assumption) | solve_by_elim [HSub.refl, HSub.push, HSub.reserve] | fail) only [↓wpPre, wpPost, wpPoly, Int.reduceToNat, Int.reducePow, Int.reduceMul, Int.reduceAdd, Int.reduceSub, Int.reduceNeg, Nat.reduceAdd, Nat.reduceMul, Nat.reducePow, Int.reduceLT, Int.reduceLE, Int.reduceEq, Nat.reduceEqDiff, hp.len]
    refine wp_loopI (fun j t h' => ∃ (k : Nat) (vs : List AV), Grw h h' 2 (t 9) k (codeCells vs (q : Nat)) ∧ vs.length = k ∧ (∀ i, i < k → GrwI h h' (vs.getD i .nilslice) (sampL d (ps.getD i 0) q) ∧ Dj (vs.getD i .nilslice) (t 9)) ∧ (∀ i, i < k → codeErr d (ps.getD i 0) = 0) ∧
      t 0 = .int .i64 d ∧ t 1 = .int .i64 (q : Nat) ∧ t 23 = vp ∧ t 24 = .int .i64 (ps.length : Nat) ∧ t 25 = .int .i64 (k : Nat) ∧ k ≤ ps.length ∧ j = ps.length - k) (j0 := ps.length)
      ⟨0, [], Grw.nil _ _, rfl, fun i hi => by omega, fun i hi => by omega, rfl, rfl, rfl, rfl, rfl, by omega, rfl⟩ ?_
    rintro j t h2 ⟨k, vs, A, hvl, hvs, hce, e0, e1, e23, e24, e25, hk, hj⟩
    simp -implicitDefEqProofs (disch := first | assumption | decide | omega | (simp only [wpD1] <;> omega) | (simp only [wpD2] <;> assumption) | solve_by_elim [HSub.refl, HSub.push, HSub.reserve] | fail) only [↓wpPre, wpPost, wpPoly, Int.reduceToNat, Int.reducePow, Int.reduceMul, Int.reduceAdd, Int.reduceSub, Int.reduceNeg, Nat.reduceAdd, Nat.reduceMul, Nat.reducePow, Int.reduceLT, Int.reduceLE, Int.reduceEq, Nat.reduceEqDiff, e24, e25]
    refine Br.by (fun c1 => ?_) (fun c1 => ?_)
    · have hk' : k < ps.length := by omega
      have hp2 := hp.mono A.sub
      have hxk := hx _ (getD_mem hk')
      obtain ⟨p, hpd⟩ : ∃ p, p = ps.getD k 0 := ⟨_, rfl⟩
      have hld := hp2.load hk'
      rw [← hpd] at hld hxk
      have hcode := Code_spec (hC.sub (T' := T76) (by decide)) (h := h2) hd hxk
      simp -implicitDefEqProofs (disch := first | assumption | decide | omega | (simp only [wpD1] <;> omega) | (simp only [wpD2] <;> assumption) | solve_by_elim [HSub.refl, HSub.push, HSub.reserve] | fail) only [↓wpPre, wpPost, wpPoly, Int.reduceToNat, Int.reducePow, Int.reduceMul, Int.reduceAdd, Int.reduceSub, Int.reduceNeg, Nat.reduceAdd, Nat.reduceMul, Nat.reducePow, Int.reduceLT, Int.reduceLE, Int.reduceEq, Nat.reduceEqDiff, e0, e1, e23, e25, hp2.idx, hld]
      refine ACallsK.of hcode ?_
      rintro r h3 ⟨v1, rfl, s1, R1, _⟩
      by_cases cc : codeErr d p = 0
      · rw [cc, if_pos rfl] at R1
        rw [cc]
        have cl := codeL_length d p
        simp -implicitDefEqProofs (disch := first | assumption | decide | omega | (simp only [wpD1] <;> omega) | (simp only [wpD2] <;> assumption) | solve_by_elim [HSub.refl, HSub.push, HSub.reserve] | fail) only [↓wpPre, wpPost, wpPoly, Int.reduceToNat, Int.reducePow, Int.reduceMul, Int.reduceAdd, Int.reduceSub, Int.reduceNeg, Nat.reduceAdd, Nat.reduceMul, Nat.reducePow, Int.reduceLT, Int.reduceLE, Int.reduceEq, Nat.reduceEqDiff, lstErr, e1, R1.len, cl]
        have R1' := R1.mono (HSub.push1 h3 (.cells [.nilslice, .int .i64 (q : Nat)] true 0))
        refine wp_loopI (fun j t' h' => ∃ (i : Nat) (w : AV), GrwI h3 h' w (sampP d p q i) ∧ Dj (.ptr h3.size 0) w ∧ h'.get h3.size = some (.cells [w, .int .i64 (q : Nat)] true 0) ∧ h3.size + 1 ≤ h'.size ∧
          t' 0 = .int .i64 d ∧ t' 1 = .int .i64 (q : Nat) ∧ t' 9 = t 9 ∧ t' 14 = .ptr h3.size 0 ∧ t' 23 = vp ∧ t' 24 = .int .i64 (ps.length : Nat) ∧ t' 25 = .int .i64 (k : Nat) ∧ t' 40 = v1 ∧ t' 41 = .int .i64 (lenN d : Nat) ∧ t' 42 = .int .i64 (i : Nat) ∧ i ≤ lenN d ∧ j = lenN d - i) (j0 := lenN d)
          ⟨0, .nilslice, GrwI.nil' (HSub.push1 _ _), Dj.nilR, get_push_eq rfl, by simp, e0, e1, rfl, rfl, e23, e24, e25, rfl, rfl, rfl, by omega, rfl⟩ ?_
        rintro j t' h4 ⟨i, w, B, dj, gb, hsz, e0', e1', e9', e14', e23', e24', e25', e40', e41', e42', hi, hj'⟩
        simp -implicitDefEqProofs (disch := first | assumption | decide | omega | (simp only [wpD1] <;> omega) | (simp only [wpD2] <;> assumption) | solve_by_elim [HSub.refl, HSub.push, HSub.reserve] | fail) only [↓wpPre, wpPost, wpPoly, Int.reduceToNat, Int.reducePow, Int.reduceMul, Int.reduceAdd, Int.reduceSub, Int.reduceNeg, Nat.reduceAdd, Nat.reduceMul, Nat.reducePow, Int.reduceLT, Int.reduceLE, Int.reduceEq, Nat.reduceEqDiff, e41', e42']
        refine Br.by (fun c2 => ?_) (fun c2 => ?_)
        · have hi' : i < lenN d := by omega
          have R4 := R1.mono B.sub
          have hl4 := R4.load (k := i) (by omega)
          obtain ⟨x, hx⟩ : ∃ x, x = (codeL d p).getD i 0 := ⟨_, rfl⟩
          rw [← hx] at hl4
          have rep := fun (H : Heap) (hg : H.get (h4.size + 3) = some (.cells [.int .i64 x] true 0)) => Repeat_spec (hC.sub (T' := T90) (by decide)) (v := .slice (h4.size + 3) 0 1 (.known 1)) (x := x) (n := q) (h := H) (RI.known hg ⟨rfl, by decide⟩ (by decide)) (by omega)
          simp -implicitDefEqProofs (disch := first | assumption | decide | omega | (simp only [wpD1] <;> omega) | (simp only [wpD2] <;> assumption) | solve_by_elim [HSub.refl, HSub.push, HSub.reserve] | fail) only [↓wpPre, wpPost, wpPoly, Int.reduceToNat, Int.reducePow, Int.reduceMul, Int.reduceAdd, Int.reduceSub, Int.reduceNeg, Nat.reduceAdd, Nat.reduceMul, Nat.reducePow, Int.reduceLT, Int.reduceLE, Int.reduceEq, Nat.reduceEqDiff, e1', e14', e40', e42', R4.idx, hl4, gb, Heap.wf]
          refine ACallsK.hide (fun H hH => ?_)
          have N : H.size = h4.size + 9 := by rw [hH]; simp -implicitDefEqProofs (disch := first | assumption | decide | omega | (simp only [wpD1] <;> omega) | (simp only [wpD2] <;> assumption) | solve_by_elim [HSub.refl, HSub.push, HSub.reserve] | fail) only [↓wpPre, wpPost, wpPoly, Int.reduceToNat, Int.reducePow, Int.reduceMul, Int.reduceAdd, Int.reduceSub, Int.reduceNeg, Nat.reduceAdd, Nat.reduceMul, Nat.reducePow, Int.reduceLT, Int.reduceLE, Int.reduceEq, Nat.reduceEqDiff]
          have g3 : H.get (h4.size + 3) = some (.cells [.int .i64 x] true 0) := by rw [hH]; simp -implicitDefEqProofs (disch := first | assumption | decide | omega | (simp only [wpD1] <;> omega) | (simp only [wpD2] <;> assumption) | solve_by_elim [HSub.refl, HSub.push, HSub.reserve] | fail) only [↓wpPre, wpPost, wpPoly, Int.reduceToNat, Int.reducePow, Int.reduceMul, Int.reduceAdd, Int.reduceSub, Int.reduceNeg, Nat.reduceAdd, Nat.reduceMul, Nat.reducePow, Int.reduceLT, Int.reduceLE, Int.reduceEq, Nat.reduceEqDiff]
          have gn : H.get (h4.size + 6) = none := by rw [hH]; simp -implicitDefEqProofs (disch := first | assumption | decide | omega | (simp only [wpD1] <;> omega) | (simp only [wpD2] <;> assumption) | solve_by_elim [HSub.refl, HSub.push, HSub.reserve] | fail) only [↓wpPre, wpPost, wpPoly, Int.reduceToNat, Int.reducePow, Int.reduceMul, Int.reduceAdd, Int.reduceSub, Int.reduceNeg, Nat.reduceAdd, Nat.reduceMul, Nat.reducePow, Int.reduceLT, Int.reduceLE, Int.reduceEq, Nat.reduceEqDiff, Heap.wf]
          have hs4 : HSub h4 H := by rw [hH]; exact (by repeat (first | exact HSub.refl _ | refine HSub.put ?_ (by (try simp only [Heap.size_put, Heap.size_push, Heap.size_reserve]); omega) _ | refine HSub.push ?_ _ | refine HSub.reserve ?_ _))
          clear hH
          refine ACallsK.of (rep H g3) ?_
          rintro r h5 F
          have F' := F
          obtain ⟨s5, fl, i5, hi5, rfl, g5⟩ := F'
          have z5 := s5.size
          have gb5 : h5.get h3.size = some (.cells [w, .int .i64 (q : Nat)] true 0) := (s5.get _ (by omega)).trans ((hs4.get _ (by omega)).trans gb)
          have gb6 : H.get h3.size = some (.cells [w, .int .i64 (q : Nat)] true 0) := (hs4.get _ (by omega)).trans gb
          have gn5 : h5.get (h4.size + 6) = none := (s5.get _ (by omega)).trans gn
          have sp := sampP_succ (d := d) (p := p) (o := q) (k := i) (by omega)
          rw [← hx] at sp
          have sl := sampP_length (d := d) (p := p) (o := q) i (by omega)
          have iq : i * q ≤ 1023 * 8 := Nat.mul_le_mul (by omega) (by omega)
          have ap := Grw.appG (H := h5) (k := h4.size + 6) (m := q) (bytes := 8) (news := ints (List.replicate q x)) B (fun j hj => (s5.get _ (by have := (Grw.ids_lt B j hj).2; omega)).trans (hs4.get _ (Grw.ids_lt B j hj).2)) ⟨by omega, by omega⟩ (by omega) (by rw [sl]; omega) ints_one
          rw [ints_append, ← sp] at ap
          have cF := F.ri.content
          simp only [List.length_replicate] at cF
          have cN : (List.replicate q x).length = q := List.length_replicate
          have hw : h3.size ∉ w.ids := dj _ (by simp [AV.ids])
          have gS : (snocH h5 (some (h4.size + 6)) w 1 (ints (sampP d p q (i + 1)))).get h3.size = some (.cells [w, .int .i64 (q : Nat)] true 0) := (snocS_ne (by omega) hw).trans gb5
          have zS : (snocH h5 (some (h4.size + 6)) w 1 (ints (sampP d p q (i + 1)))).size = h5.size := snocS_size
          have rS : (snocH h5 (some (h4.size + 6)) w 1 (ints (sampP d p q (i + 1)))).get (h4.size + 6) = some (.cells (ints (sampP d p q (i + 1))) true 1) := snocS_same (by omega)
          have bS := snocS_sub (k := h4.size + 6) (ds := ints (sampP d p q (i + 1))) B ((B.sub.trans hs4).trans s5) (by have := B.sub.size; omega)
          have sl2 := sampP_length (d := d) (p := p) (o := q) (i + 1) (by omega)
          have iq2 : (i + 1) * q ≤ 1023 * 8 := Nat.mul_le_mul (by omega) (by omega)
          have slq : (sampP d p q i).length + q = (sampP d p q (i + 1)).length := by rw [sp, List.length_append, List.length_replicate]
          simp -implicitDefEqProofs (disch := first | assumption | decide | omega | (simp only [wpD1] <;> omega) | (simp only [wpD2] <;> assumption) | solve_by_elim [HSub.refl, HSub.push, HSub.reserve] | fail) only [↓wpPre, wpPost, wpPoly, Int.reduceToNat, Int.reducePow, Int.reduceMul, Int.reduceAdd, Int.reduceSub, Int.reduceNeg, Nat.reduceAdd, Nat.reduceMul, Nat.reducePow, Int.reduceLT, Int.reduceLE, Int.reduceEq, Nat.reduceEqDiff, cN, gb5, gb6, gn5, cF, ap, appK_none, e14']
          refine ⟨gb.symm, ?_⟩
          simp -implicitDefEqProofs (disch := first | assumption | decide | omega | (simp only [wpD1] <;> omega) | (simp only [wpD2] <;> assumption) | solve_by_elim [HSub.refl, HSub.push, HSub.reserve] | fail) only [↓wpPre, wpPost, wpPoly, Int.reduceToNat, Int.reducePow, Int.reduceMul, Int.reduceAdd, Int.reduceSub, Int.reduceNeg, Nat.reduceAdd, Nat.reduceMul, Nat.reducePow, Int.reduceLT, Int.reduceLE, Int.reduceEq, Nat.reduceEqDiff, gS, e0', e1', e9', e14', e23', e24', e25', e40', e41', e42']
          refine ⟨_, ⟨i + 1, _, grwI_mk (bS.put (Nat.le_refl _) _) (by have := B.sub.size; omega) ⟨slq, by omega⟩ ((get_put_ne (by omega)).trans rS), ?_, rfl, by rw [zS]; omega, by simp, by omega, rfl⟩, by omega⟩
          intro j hj
          simp only [AV.ids, List.mem_singleton] at hj ⊢
          omega
        · have ei : i = lenN d := by omega
          subst ei
          have wone : w.one = true := (Grw.sl B).one
          have full : sampP d p q (lenN d) = sampL d p q := by rw [← sampP_full, codeL_length]
          rw [full] at B
          have A4 := A.mono (s1.trans B.sub)
          have hn1 : [w, AV.int .i64 (q : Nat)].all AV.one = true := by simp [wone, one_int]
          have ap := fun b => Grw.app A4 (bytes := 32) (m := 1) (news := [w, .int .i64 (q : Nat)]) (HSub.push1 h4 b) (by decide) (by omega) hn1
          have A5 := fun b => Grw.snoc A4 (m := 1) (news := [w, .int .i64 (q : Nat)]) (HSub.push1 h4 b) rfl (by omega)
          rw [← codeCells_snoc] at ap A5
          simp -implicitDefEqProofs (disch := first | assumption | decide | omega | (simp only [wpD1] <;> omega) | (simp only [wpD2] <;> assumption) | solve_by_elim [HSub.refl, HSub.push, HSub.reserve] | fail) only [↓wpPre, wpPost, wpPoly, Int.reduceToNat, Int.reducePow, Int.reduceMul, Int.reduceAdd, Int.reduceSub, Int.reduceNeg, Nat.reduceAdd, Nat.reduceMul, Nat.reducePow, Int.reduceLT, Int.reduceLE, Int.reduceEq, Nat.reduceEqDiff, e9', e14', gb, cont_slice, contB_two, ap, e0', e1', e23', e24', e25']
          have B0 : GrwI h h4 w (sampL d p q) := B.base (A.sub.trans s1)
          have z1 := s1.size
          have z4 := B.sub.size
          have dw : Dj w (t 9) := fun j hj hj9 => by
            have q1 := (Grw.ids_lt B j hj).1
            have q2 := (Grw.ids_lt A j hj9).2
            omega
          refine ⟨_, ⟨k + 1, vs ++ [w], A5 _, by simp [hvl], fun i hi => ?_, fun i hi => ?_, by simp, by omega, rfl⟩, by omega⟩
          · rcases Nat.lt_or_ge i k with x | x
            · have e : (vs ++ [w]).getD i .nilslice = vs.getD i .nilslice := by simp [List.getD_eq_getElem?_getD, List.getElem?_append_left (show i < vs.length by omega)]
              rw [e]
              have B1 := (hvs i x).1.mono (s1.trans B.sub)
              exact ⟨Grw.keep A4 B1 (HSub.push1 _ _) (hvs i x).2, Grw.dj B1 (by omega)⟩
            · have ei : i = k := by omega
              subst ei
              have e : (vs ++ [w]).getD i .nilslice = w := by simp [List.getD_eq_getElem?_getD, ← hvl]
              rw [e, ← hpd]
              exact ⟨Grw.keep A4 B0 (HSub.push1 _ _) dw, Grw.dj B0 (by omega)⟩
          · rcases Nat.lt_or_ge i k with x | x
            · exact hce i x
            · have ei : i = k := by omega
              subst ei
              rw [← hpd]; exact cc
      · have c2 : codeErr d p = 2 := by unfold codeErr at cc ⊢; split at cc <;> first | exact absurd rfl cc | (rename_i h; rw [if_neg h])
        rw [c2]
        simp -implicitDefEqProofs (disch := first | assumption | decide | omega | (simp only [wpD1] <;> omega) | (simp only [wpD2] <;> assumption) | solve_by_elim [HSub.refl, HSub.push, HSub.reserve] | fail) only [↓wpPre, wpPost, wpPoly, Int.reduceToNat, Int.reducePow, Int.reduceMul, Int.reduceAdd, Int.reduceSub, Int.reduceNeg, Nat.reduceAdd, Nat.reduceMul, Nat.reducePow, Int.reduceLT, Int.reduceLE, Int.reduceEq, Nat.reduceEqDiff, lstErr]
        have hne : ¬ ∀ p ∈ ps, codeErr d p = 0 := fun h => cc (h _ (by rw [hpd]; exact getD_mem hk'))
        rw [pe, if_neg hne]
        exact ⟨_, [], rfl, A.sub.trans s1, fun h => by cases h⟩
    · have ek : k = ps.length := by omega
      subst ek
      have hall : ∀ p ∈ ps, codeErr d p = 0 := fun p hp => by
        obtain ⟨i, hi, rfl⟩ := List.mem_iff_getElem.1 hp
        have := hce i hi
        rwa [List.getD_eq_getElem?_getD, List.getElem?_eq_getElem hi] at this
      rw [pe, if_pos hall]
      simp -implicitDefEqProofs (disch := first | assumption | decide | omega | (simp only [wpD1] <;> omega) | (simp only [wpD2] <;> assumption) | solve_by_elim [HSub.refl, HSub.push, HSub.reserve] | fail) only [↓wpPre, wpPost, wpPoly, Int.reduceToNat, Int.reducePow, Int.reduceMul, Int.reduceAdd, Int.reduceSub, Int.reduceNeg, Nat.reduceAdd, Nat.reduceMul, Nat.reducePow, Int.reduceLT, Int.reduceLE, Int.reduceEq, Nat.reduceEqDiff]
      exact ⟨_, vs, rfl, A.sub, fun _ => ⟨⟨A.sl, hvl, fun i hi => by rw [Int.toNat_natCast]; exact (hvs i hi).1.ri⟩, fun i hi => (hvs i hi).1⟩⟩
  · have pe : sampErr d o ps = 2 := by unfold sampErr; rw [if_neg (fun h => ck h.1)]
    have ck2 : knownErr d o = 2 := by unfold knownErr at ck ⊢; split at ck <;> first | exact absurd rfl ck | (rename_i h; rw [if_neg h])
    rw [pe]
    (refine calls_intro (hC.body (by decide) tab142) (Nat.le_of_ble_eq_true rfl) ?_); (show wp C _ none B142.code _ _); (simp only [B142]); simp -implicitDefEqProofs (disch := first | assumption | decide | omega | (simp only [wpD1] <;> omega) | (simp only [wpD2] <;> assumption) | solve_by_elim [HSub.refl, HSub.push, HSub.reserve] | fail) only [↓wpPre, wpPost, wpPoly, Int.reduceToNat, Int.reducePow, Int.reduceMul, Int.reduceAdd, Int.reduceSub, Int.reduceNeg, Nat.reduceAdd, Nat.reduceMul, Nat.reducePow, Int.reduceLT, Int.reduceLE, Int.reduceEq, Nat.reduceEqDiff]
    refine ACallsK.eq (known09_spec (hC.sub (T' := T150) (by decide)) hd ho) ?_
    rw [ck2]
    simp -implicitDefEqProofs (disch := first | assumption | decide | omega | (simp only [wpD1] <;> omega) | (simp only [wpD2] <;> assumption) | solve_by_elim [HSub.refl, HSub.push, HSub.reserve] | fail) only [↓wpPre, wpPost, wpPoly, Int.reduceToNat, Int.reducePow, Int.reduceMul, Int.reduceAdd, Int.reduceSub, Int.reduceNeg, Nat.reduceAdd, Nat.reduceMul, Nat.reducePow, Int.reduceLT, Int.reduceLE, Int.reduceEq, Nat.reduceEqDiff]
    exact ⟨_, [], rfl, HSub.refl _⟩
theorem sampled_spec (hC : Has C T142) {d o : Int} {vp : AV} {ps : List Int} {h : Heap} (hd : In64 d) (ho : In64 o) (hp : RI h vp ps) (hx : ∀ x ∈ ps, In64 x) (hpl : ps.length ≤ 1000) :
    ACalls C 142 [.int .i64 d, .int .i64 o, vp] h (fun r h' => ∃ v vs, r = lstErr v (sampErr d o ps) ∧ HSub h h' ∧ (sampErr d o ps = 0 → CLs h' v d o ps vs)) :=
  (sampled_specF hC hd ho hp hx hpl).mono fun _ _ ⟨v, vs, q1, q2, q3⟩ => ⟨v, vs, q1, q2, fun e => (q3 e).1⟩
end
end Go.Ae

/- The samples of a code, of the program; the samples by their places. -/
set_option linter.unusedSimpArgs false
set_option linter.unusedVariables false
namespace Go.Ae
section
variable {C : Ctx}
theorem SamplesC_spec (hC : Has C T131) {d o p : Int} {h : Heap} (hd : In64 d) (ho : In64 o) (hp : In64 p) :
    ACalls C 131 [.int .i64 d, .int .i64 o, .int .i64 p] h (fun r h' => ∃ v, r = lstErr v (sampErr d o [p]) ∧ HSub h h' ∧ RI h' v (if sampErr d o [p] = 0 then sampL d p o.toNat else [])) := by
  have hsd := fun (h : Heap) (i : Nat) (hg : h.get i = some (.cells [.int .i64 p] true 0)) => sampled_spec (hC.sub (T' := T142) (by decide)) (vp := .slice i 0 1 (.known 1)) (ps := [p]) (h := h) hd ho (RI.known hg ⟨rfl, by decide⟩ (by decide)) (by simpa using hp) (by simp)
  (refine calls_intro (hC.body (by decide) tab131) (Nat.le_of_ble_eq_true rfl) ?_); (show wp C _ none B131.code _ _); (simp only [B131]); simp -implicitDefEqProofs (disch := first | assumption | decide | omega | (simp only [wpD1] <;> omega) | (simp only [wpD2] <;> assumption) | solve_by_elim [HSub.refl, HSub.push, HSub.reserve] | fail) only [↓wpPre, wpPost, wpPoly, Int.reduceToNat, Int.reducePow, Int.reduceMul, Int.reduceAdd, Int.reduceSub, Int.reduceNeg, Nat.reduceAdd, Nat.reduceMul, Nat.reducePow, Int.reduceLT, Int.reduceLE, Int.reduceEq, Nat.reduceEqDiff]
  refine ACallsK.of (hsd _ _ (get_push_eq rfl)) ?_
  rintro r h1 ⟨v, vs, rfl, s1, hcl⟩
  by_cases c : sampErr d o [p] = 0
  · have cl := hcl c
    rw [c, if_pos rfl]
    obtain ⟨w, rfl⟩ : ∃ w, vs = [w] := by
      have := cl.len
      match vs, this with
      | [w], _ => exact ⟨w, rfl⟩
    have ld := cl.sl.loadE (k := 0) (off := 0) (by simp) (by decide)
    rw [show (codeCells [w] o)[0 * 2 + 0]? = some w from rfl] at ld
    have ix : idxA 2 v (.int .i64 0) = some (elA 2 v 0) := cl.sl.idx (k := 0) (by simp)
    have fx : fieldAddrA 0 (elA 2 v 0) = some (elF 2 v 0 0) := cl.sl.fldE 0 0 (by simp)
    simp -implicitDefEqProofs (disch := first | assumption | decide | omega | (simp only [wpD1] <;> omega) | (simp only [wpD2] <;> assumption) | solve_by_elim [HSub.refl, HSub.push, HSub.reserve] | fail) only [↓wpPre, wpPost, wpPoly, Int.reduceToNat, Int.reducePow, Int.reduceMul, Int.reduceAdd, Int.reduceSub, Int.reduceNeg, Nat.reduceAdd, Nat.reduceMul, Nat.reducePow, Int.reduceLT, Int.reduceLE, Int.reduceEq, Nat.reduceEqDiff, lstErr, ix, fx, ld]
    exact ⟨_, rfl, (HSub.push1 _ _).trans s1, cl.ri 0 (by simp)⟩
  · have e2 : sampErr d o [p] = 2 := by unfold sampErr at c ⊢; split at c <;> first | exact absurd rfl c | (rename_i h; rw [if_neg h])
    rw [e2, if_neg (by decide)]
    simp -implicitDefEqProofs (disch := first | assumption | decide | omega | (simp only [wpD1] <;> omega) | (simp only [wpD2] <;> assumption) | solve_by_elim [HSub.refl, HSub.push, HSub.reserve] | fail) only [↓wpPre, wpPost, wpPoly, Int.reduceToNat, Int.reducePow, Int.reduceMul, Int.reduceAdd, Int.reduceSub, Int.reduceNeg, Nat.reduceAdd, Nat.reduceMul, Nat.reducePow, Int.reduceLT, Int.reduceLE, Int.reduceEq, Nat.reduceEqDiff, lstErr]
    exact ⟨_, rfl, (HSub.push1 _ _).trans s1, RI.nil⟩
end
end Go.Ae

/- Parts of placements and their greatest sum, in plain numbers. -/
set_option linter.unusedSimpArgs false
set_option linter.unusedVariables false
namespace Go.Ae
def pf (a b : List Int) (m s : Int) : Nat → Int
  | 0 => 0
  | k + 1 => pf a b m s k + a.getD k 0 * b.getD (min ((k : Int) - m + a.length + s) ((a.length : Int) - 1)).toNat 0
def ps (a b : List Int) (m : Nat) : Nat → Int
  | 0 => 0
  | k + 1 => ps a b m k + a.getD (m + k) 0 * b.getD k 0
def one1 (l : List Int) : Prop := ∀ x ∈ l, -1 ≤ x ∧ x ≤ 1
theorem one1.get {l : List Int} (h : one1 l) (i : Nat) : -1 ≤ l.getD i 0 ∧ l.getD i 0 ≤ 1 := by
  by_cases c : i < l.length
  · exact h _ (getD_mem c)
  · rw [List.getD_eq_getElem?_getD, List.getElem?_eq_none (by omega)]; decide
theorem mul_one1 {x y : Int} (hx : -1 ≤ x ∧ x ≤ 1) (hy : -1 ≤ y ∧ y ≤ 1) : -1 ≤ x * y ∧ x * y ≤ 1 := by
  have h : x = -1 ∨ x = 0 ∨ x = 1 := by omega
  rcases h with rfl | rfl | rfl <;> omega
theorem pf_le {a b : List Int} {m s : Int} (ha : one1 a) (hb : one1 b) : ∀ k : Nat, -(k : Int) ≤ pf a b m s k ∧ pf a b m s k ≤ k
  | 0 => by simp [pf]
  | k + 1 => by
    have ih := pf_le ha hb (m := m) (s := s) k
    have := mul_one1 (ha.get k) (hb.get (min ((k : Int) - m + a.length + s) ((a.length : Int) - 1)).toNat)
    rw [pf]; omega
theorem ps_le {a b : List Int} {m : Nat} (ha : one1 a) (hb : one1 b) : ∀ k : Nat, -(k : Int) ≤ ps a b m k ∧ ps a b m k ≤ k
  | 0 => by simp [ps]
  | k + 1 => by
    have ih := ps_le ha hb (m := m) k
    have := mul_one1 (ha.get (m + k)) (hb.get k)
    rw [ps]; omega
def plc (a b : List Int) (s : Int) (m : Nat) : Int := max (pf a b m s m) (-pf a b m s m) + max (ps a b m (a.length - m)) (-ps a b m (a.length - m))
theorem plc_le {a b : List Int} (ha : one1 a) (hb : one1 b) {s : Int} {m : Nat} (hm : m ≤ a.length) : 0 ≤ plc a b s m ∧ plc a b s m ≤ a.length := by
  have h1 := pf_le ha hb (m := m) (s := s) m
  have h2 := ps_le ha hb (m := m) (a.length - m)
  unfold plc
  omega
def gM (a b : List Int) (s : Int) (lo : Nat) : Nat → Int → Int
  | 0, x => x
  | k + 1, x => max (gM a b s lo k x) (plc a b s (lo + k))
def lastM (n : Nat) (mg s : Int) : Int := if 0 < mg then n + s - mg else n + min s 0
def cntM (n : Nat) (mg s : Int) : Nat := (lastM n mg s + 1 - mg).toNat
def greatI (a b : List Int) (mg : Nat) : Int := gM a b 1 mg (cntM a.length mg 1) (gM a b 0 mg (cntM a.length mg 0) (gM a b (-1) mg (cntM a.length mg (-1)) 0))
theorem gM_le {a b : List Int} (ha : one1 a) (hb : one1 b) {s : Int} {lo : Nat} : ∀ (k : Nat) (x : Int), lo + k ≤ a.length + 1 → 0 ≤ x ∧ x ≤ a.length → 0 ≤ gM a b s lo k x ∧ gM a b s lo k x ≤ a.length
  | 0, x, _, hx => hx
  | k + 1, x, hk, hx => by
    have ih := gM_le ha hb (s := s) (lo := lo) k x (by omega) hx
    have := plc_le ha hb (s := s) (m := lo + k) (by omega)
    rw [gM]; omega
theorem sampL_one1 (d p : Int) (o : Nat) : one1 (sampL d p o) := by
  intro x hx
  unfold sampL at hx
  obtain ⟨l, hl, hxl⟩ := List.mem_flatten.1 hx
  obtain ⟨y, hy, rfl⟩ := List.mem_map.1 hl
  have := codeL_range y hy
  rw [(List.mem_replicate.1 hxl).2]; exact this
end Go.Ae

/- Correlators, in plain numbers. -/
set_option linter.unusedSimpArgs false
set_option linter.unusedVariables false
namespace Go.Ae
def inS (B : Int) (x : Int × Int) : Prop := (-B ≤ x.1 ∧ x.1 ≤ B) ∧ (-B ≤ x.2 ∧ x.2 ≤ B)
instance (B : Int) (x : Int × Int) : Decidable (inS B x) := by unfold inS; exact inferInstance
def addP (x y : Int × Int) : Int × Int := (x.1 + y.1, x.2 + y.2)
def powP (x : Int × Int) : Int := IntKind.i64.wrap (IntKind.i64.wrap (x.1 * x.1) + IntKind.i64.wrap (x.2 * x.2))
def smE (l : List (Int × Int)) (most : Nat) : Int := if most < l.length then 4 else if ∀ x ∈ l, inS 1048576 x then 0 else 2
def spinK (l : List (Int × Int)) (st : Int) : Nat → Int × Int
  | 0 => (0, 0)
  | k + 1 => addP (spinK l st k) (mixP (l.getD k (0, 0)) (carP (phI 0 st k)))
def stepP (l : List (Int × Int)) (bins : Int) (j : Nat) : Int := powP (spinK l ((j : Int) * (4294967296 / bins) % 4294967296) l.length)
def stepsL (l : List (Int × Int)) (bins : Int) (k : Nat) : List Int := (List.range k).map fun j => stepP l bins j
def binsOk (b : Int) : Prop := b = 1 ∨ b = 2 ∨ b = 4 ∨ b = 8 ∨ b = 16 ∨ b = 32 ∨ b = 64
instance (b : Int) : Decidable (binsOk b) := by unfold binsOk; exact inferInstance
def stepsE (l : List (Int × Int)) (b : Int) : Int := if smE l 16 ≠ 0 then smE l 16 else if binsOk b then 0 else 3
def bestK (l : List (Int × Int)) : Nat → Nat
  | 0 => 0
  | k + 1 => if powP (l.getD (bestK l k) (0, 0)) < powP (l.getD k (0, 0)) then k else bestK l k
def bestE (l : List (Int × Int)) : Int := if l.length = 0 then 3 else smE l 8192
end Go.Ae

/- Waves of the program and of the reference. -/
set_option linter.unusedSimpArgs false
set_option linter.unusedVariables false
namespace Go.Ae
def waveErr (n : Int) : Int := if n < 0 ∨ 100000 < n then 2 else 0
def waveK (a s : Int) (m k : Nat) : List (Int × Int) := waveL a s k ++ List.replicate (m - k) (0, 0)
def KnownCap (v : AV) : Prop := v = .nilslice ∨ ∃ i o n c, v = .slice i o n (.known c)
theorem SL.dropK {h : Heap} {sz n a : Nat} {v : AV} {cs : List AV} {kk : IntKind} (H : SL h sz v n cs) (K : KnownCap v) (ha : a ≤ n) : ∃ v', (∀ h', sliceA h' sz v (some (.int kk (a : Nat))) none none = some v') ∧ SL h sz v' (n - a) (cs.drop (a * sz)) := by
  obtain ⟨hl, hlt, ⟨rfl, rfl⟩ | ⟨i, o, cp, vs, wr, u, rfl, hg, hle, hc, hcap⟩⟩ := H
  · have : a = 0 := by omega
    subst this
    have : cs = [] := List.eq_nil_of_length_eq_zero (by omega)
    subst this
    exact ⟨.nilslice, fun _ => rfl, by simp, by omega, .inl ⟨rfl, rfl⟩⟩
  · obtain ⟨c, rfl⟩ : ∃ c, cp = .known c := by
      rcases K with K | ⟨_, _, _, c, K⟩
      · cases K
      · cases K; exact ⟨c, rfl⟩
    dsimp only at hcap
    have hbd : boundsA n c (some (.int kk (a : Nat))) none none = some (a, n, c) := bounds_ok (len := n) (cap := c) (a := a) (b := n) (c := c) rfl rfl rfl ⟨ha, hcap, Nat.le_refl _⟩
    refine ⟨.slice i (if c = a then o else o + a * sz) (n - a) (.known (c - a)), fun _ => by simp only [sliceA, hbd], ?_⟩
    have hm : a * sz ≤ n * sz := Nat.mul_le_mul_right _ ha
    have hs : (n - a) * sz = n * sz - a * sz := Nat.sub_mul _ _ _
    refine ⟨by rw [List.length_drop, hl, hs], by omega, .inr ⟨i, _, _, vs, wr, u, rfl, hg, ?_, ?_, by dsimp only; omega⟩⟩
    · split
      · rename_i e; have : n - a = 0 := by omega
        rw [this]; omega
      · omega
    · subst hc
      split
      · rename_i e; have : n = a := by omega
        subst this
        simp [cut]
      · simp only [cut, List.drop_take, List.drop_drop, hs]
theorem SI.dropK {h : Heap} {v : AV} {l : List (Int × Int)} {a : Nat} {kk : IntKind} (H : SI h v l) (K : KnownCap v) (ha : a ≤ l.length) : ∃ v', (∀ h', sliceA h' 2 v (some (.int kk (a : Nat))) none none = some v') ∧ SI h v' (l.drop a) := by
  obtain ⟨v', e, q⟩ := SL.dropK (kk := kk) H K ha
  refine ⟨v', e, ?_⟩
  rw [smps_drop] at q
  unfold SI
  rwa [List.length_drop]
section
variable {C : Ctx}
end
end Go.Ae

/- Mixes of the program and of the reference. -/
set_option linter.unusedSimpArgs false
set_option linter.unusedVariables false
namespace Go.Ae
def wipeE (p : Int × Int) (ph : Int) : AV := if smallP p then .tuple [smp (mixP p (carP ph)), .int .i64 0] else .tuple [smp (0, 0), .int .i64 2]
section
variable {C : Ctx}
end
end Go.Ae

/- Small lists of complex integers, spins and powers, of the program and of the reference. -/
set_option linter.unusedSimpArgs false
set_option linter.unusedVariables false
namespace Go.Ae
section
variable {C : Ctx}
end
end Go.Ae

/- Spin, Steps and Best, of the program and of the reference. -/
set_option linter.unusedSimpArgs false
set_option linter.unusedVariables false
namespace Go.Ae
section
variable {C : Ctx}
end
end Go.Ae

/- Samples of emitters: the reference; sources are made. -/
set_option linter.unusedSimpArgs false
set_option linter.unusedVariables false
namespace Go.Ae
theorem fill17 {p : PlanP} {e : EmitP} {vp vb vc : AV} (h1 : vc.one = true) : fillA [.int .i64 0, .int .i64 0, .int .i64 0, .int .u32 0, .int .u32 0, .int .i64 0, .int .i64 0, .nilslice, .int .i64 0, .int .i64 0, .int .i64 0, .int .i64 0, .int .i64 0, .int .i64 0, .int .i64 0, .nilslice, .nilslice] [(0, 8, emA e vb), (8, 8, plA p vp), (16, 1, vc)] = some [.int .i64 e.prn, .int .i64 e.dl, .int .i64 e.rt, .int .u32 e.st, .int .u32 e.ph, .int .i64 e.amp, .int .i64 e.ba, vb, .int .i64 p.d, .int .i64 p.o, .int .i64 p.pb, .int .i64 p.w, .int .i64 p.mn, .int .i64 p.mx, .int .i64 p.nz, vp, vc] := by
  have hc : vc.cells = [vc] := by cases vc <;> first | rfl | (simp [AV.one] at h1)
  have e1 : (emA e vb).cells = [.int .i64 e.prn, .int .i64 e.dl, .int .i64 e.rt, .int .u32 e.st, .int .u32 e.ph, .int .i64 e.amp, .int .i64 e.ba, vb] := rfl
  have p1 : (plA p vp).cells = [.int .i64 p.d, .int .i64 p.o, .int .i64 p.pb, .int .i64 p.w, .int .i64 p.mn, .int .i64 p.mx, .int .i64 p.nz, vp] := rfl
  simp [fillA, hc, e1, p1]
theorem EmOk.per {p : PlanP} {e : EmitP} (ok : EmOk p e) (n : Int) : 0 ≤ n - e.sta p (e.pl p n) ∧ n - e.sta p (e.pl p n) ≤ 8184 := by
  have a := (st_gt ok (n := n) (k := e.pl p n)).2 (Int.le_refl _)
  have b := pl_lt (dl := e.dl) (n := n) ok.den
  have c := (st_step (dl := e.dl) (sz := p.size) (k := e.pl p n) ok.en.2.1).2
  have s := size_range ok.pn
  unfold EmitP.sta EmitP.pl at *
  omega
theorem chip_pm {p : PlanP} {e : EmitP} (ok : EmOk p e) {i : Int} (hi : 0 ≤ i) : chipI p e i = 1 ∨ chipI p e i = -1 := by
  have hN := lenN_eq ok.pn.1
  have o' := ok.pn.2.1
  have q : 0 ≤ i / p.o := Int.ediv_nonneg hi (by omega)
  unfold chipI
  rw [codeL_get (by omega)]
  rcases codeB_01 p.d e.prn (min (i / p.o) ((lenN p.d : Int) - 1)).toNat with h | h <;> rw [h] <;> simp
section
variable {C : Ctx}
end
end Go.Ae

/- Start, Place, Bit and At: the program and the reference. -/
set_option linter.unusedSimpArgs false
set_option linter.unusedVariables false
namespace Go.Ae
def zsrc : AV := .agg [.int .i64 0, .int .i64 0, .int .i64 0, .int .u32 0, .int .u32 0, .int .i64 0, .int .i64 0, .nilslice, .int .i64 0, .int .i64 0, .int .i64 0, .int .i64 0, .int .i64 0, .int .i64 0, .int .i64 0, .nilslice, .nilslice]
theorem made_range (p : PlanP) (e : EmitP) (n : Int) : madeErr p e n = 0 ∨ madeErr p e n = 2 ∨ madeErr p e n = 3 ∨ madeErr p e n = 4 ∨ madeErr p e n = 8 ∨ madeErr p e n = 18 := by
  have := emit_range p e
  unfold madeErr
  split
  · split <;> simp
  · omega
theorem made_ok {p : PlanP} {e : EmitP} {n : Int} (h : madeErr p e n = 0) : EmOk p e ∧ -10000000 ≤ n ∧ n ≤ 10000000 := by
  unfold madeErr at h
  split at h
  · rename_i c
    split at h
    · omega
    · exact ⟨emit_ok c, by omega, by omega⟩
  · omega
theorem storeB_full {H : Heap} {i n : Nat} {x y : AV} {xs vs : List AV} (h1 : (x :: y :: xs).length = n) (h2 : vs.length = n) (h3 : (x :: y :: xs).all AV.one = true) : storeB H i n 0 (.agg (x :: y :: xs)) (some (.cells vs true 0)) = some (H.put i (.cells (x :: y :: xs) true 0)) := by
  rw [storeB_agg h1 (by omega) h3]
  have e : splice vs 0 (x :: y :: xs) = x :: y :: xs := by
    show vs.take 0 ++ (x :: y :: xs) ++ vs.drop (0 + (x :: y :: xs).length) = _
    rw [List.take_zero, List.nil_append, Nat.zero_add, List.drop_eq_nil_of_le (by omega), List.append_nil]
  rw [e]
section
variable {C : Ctx}
set_option maxHeartbeats 2000000 in
set_option maxRecDepth 20000 in
theorem made238_spec (hC : Has C T238) {v w : AV} {p : PlanP} {e : EmitP} {n : Int} {h : Heap} (hp : PlI h v p) (he : EmI h w e) (h64 : p.ok64) (h65 : e.ok64) (hn : In64 n) :
    ACalls C 238 [v, w, .int .i64 n] h (fun r h' => HSub h h' ∧ ∃ x, r = .tuple [x, .int .i64 (madeErr p e n)] ∧ (madeErr p e n ≠ 0 → x = zsrc) ∧ (madeErr p e n = 0 → ∃ vp vb vc, v = plA p vp ∧ w = emA e vb ∧ x = srcA p e vp vb vc ∧ RI h vp p.prns ∧ RI h vb e.bits ∧ RI h' vc (codeL p.d e.prn))) := by
  have kc := fun h1 (q : HSub h h1) => Check_spec (hC.sub (T' := T223) (by decide)) (hp.mono q) (he.mono q) h64 h65
  have kk := fun h => Code_spec (hC.sub (T' := T76) (by decide)) (h := h) h64.1 h65.1
  have er := emit_range p e
  obtain ⟨vp, rfl, R⟩ := hp
  obtain ⟨vb, rfl, B⟩ := he
  have v1 := R.one
  have b1 := B.one
  unfold In64 at hn
  unfold madeErr
  have sH : ∀ b c d, HSub h (((h.push b).push c).push d) := fun b c d => ((HSub.push1 h b).push c).push d
  by_cases c : emitErr p e = 0
  · have ok := emit_ok c
    rw [if_pos c]
    rw [c] at kc
    rw [ok.code] at kk
    by_cases c2 : n < -10000000 ∨ 10000000 < n
    · rw [if_pos c2]
      unfold zsrc
      (refine calls_intro (hC.body (by decide) tab238) (Nat.le_of_ble_eq_true rfl) ?_); (show wp C _ none B238.code _ _); (simp only [B238]); simp -implicitDefEqProofs (disch := first | assumption | decide | omega | (simp only [wpD1] <;> omega) | (simp only [wpD2] <;> assumption) | solve_by_elim [HSub.refl, HSub.push, HSub.reserve] | fail) only [↓wpPre, wpPost, wpPoly, Int.reduceToNat, Int.reducePow, Int.reduceMul, Int.reduceAdd, Int.reduceSub, Int.reduceNeg, Nat.reduceAdd, Nat.reduceMul, Nat.reducePow, Int.reduceLT, Int.reduceLE, Int.reduceEq, Nat.reduceEqDiff]
      refine ACallsK.eq (kc _ (sH _ _ _)) ?_
      (repeat' (first | (refine Br.by (fun _ => ?_) (fun _ => ?_)) | (simp -implicitDefEqProofs (disch := first | assumption | decide | omega | (simp only [wpD1] <;> omega) | (simp only [wpD2] <;> assumption) | solve_by_elim [HSub.refl, HSub.push, HSub.reserve] | fail) only [↓wpPre, wpPost, wpPoly, Int.reduceToNat, Int.reducePow, Int.reduceMul, Int.reduceAdd, Int.reduceSub, Int.reduceNeg, Nat.reduceAdd, Nat.reduceMul, Nat.reducePow, Int.reduceLT, Int.reduceLE, Int.reduceEq, Nat.reduceEqDiff, gV_u])))
      all_goals first
        | (exfalso; omega)
        | exact ⟨(by repeat (first | exact HSub.refl h | refine HSub.put ?_ (by (try simp only [Heap.size_put, Heap.size_push, Heap.size_reserve]); omega) _ | refine HSub.push ?_ _ | refine HSub.reserve ?_ _)), _, rfl, fun _ => rfl⟩
    · rw [if_neg c2]
      have f17 := fun vc (w1 : vc.one = true) => fill17 (p := p) (e := e) (vp := vp) (vb := vb) (vc := vc) w1
      unfold plA emA at f17
      unfold plA emA srcA
      have n1 : ¬ n < -10000000 := by omega
      have n2 : ¬ 10000000 < n := by omega
      (refine calls_intro (hC.body (by decide) tab238) (Nat.le_of_ble_eq_true rfl) ?_); (show wp C _ none B238.code _ _); (simp only [B238]); simp -implicitDefEqProofs (disch := first | assumption | decide | omega | (simp only [wpD1] <;> omega) | (simp only [wpD2] <;> assumption) | solve_by_elim [HSub.refl, HSub.push, HSub.reserve] | fail) only [↓wpPre, wpPost, wpPoly, Int.reduceToNat, Int.reducePow, Int.reduceMul, Int.reduceAdd, Int.reduceSub, Int.reduceNeg, Nat.reduceAdd, Nat.reduceMul, Nat.reducePow, Int.reduceLT, Int.reduceLE, Int.reduceEq, Nat.reduceEqDiff]
      refine ACallsK.eq (kc _ (sH _ _ _)) ?_
      simp -implicitDefEqProofs (disch := first | assumption | decide | omega | (simp only [wpD1] <;> omega) | (simp only [wpD2] <;> assumption) | solve_by_elim [HSub.refl, HSub.push, HSub.reserve] | fail) only [↓wpPre, wpPost, wpPoly, Int.reduceToNat, Int.reducePow, Int.reduceMul, Int.reduceAdd, Int.reduceSub, Int.reduceNeg, Nat.reduceAdd, Nat.reduceMul, Nat.reducePow, Int.reduceLT, Int.reduceLE, Int.reduceEq, Nat.reduceEqDiff, gV_u, n1, n2]
      refine ACallsK.of (kk _) ?_
      rintro r h1 ⟨vc, rfl, s1, W, F⟩
      have w1 := W.one
      have F := F rfl
      obtain ⟨_, fl, i, fi, fv, fg⟩ := F
      simp only [Heap.size_push] at fi
      have f17 := f17 vc w1
      have sz1 := s1.size
      simp only [Heap.size_push] at sz1
      have gp : h1.get h.size = some (.cells [.int .i64 p.d, .int .i64 p.o, .int .i64 p.pb, .int .i64 p.w, .int .i64 p.mn, .int .i64 p.mx, .int .i64 p.nz, vp] true 0) := (s1.get _ (by simp only [Heap.size_push]; omega)).trans (by simp -implicitDefEqProofs (disch := first | assumption | decide | omega | (simp only [wpD1] <;> omega) | (simp only [wpD2] <;> assumption) | solve_by_elim [HSub.refl, HSub.push, HSub.reserve] | fail) only [↓wpPre, wpPost, wpPoly, Int.reduceToNat, Int.reducePow, Int.reduceMul, Int.reduceAdd, Int.reduceSub, Int.reduceNeg, Nat.reduceAdd, Nat.reduceMul, Nat.reducePow, Int.reduceLT, Int.reduceLE, Int.reduceEq, Nat.reduceEqDiff])
      have ge : h1.get (h.size + 1) = some (.cells [.int .i64 e.prn, .int .i64 e.dl, .int .i64 e.rt, .int .u32 e.st, .int .u32 e.ph, .int .i64 e.amp, .int .i64 e.ba, vb] true 0) := (s1.get _ (by simp only [Heap.size_push]; omega)).trans (by simp -implicitDefEqProofs (disch := first | assumption | decide | omega | (simp only [wpD1] <;> omega) | (simp only [wpD2] <;> assumption) | solve_by_elim [HSub.refl, HSub.push, HSub.reserve] | fail) only [↓wpPre, wpPost, wpPoly, Int.reduceToNat, Int.reducePow, Int.reduceMul, Int.reduceAdd, Int.reduceSub, Int.reduceNeg, Nat.reduceAdd, Nat.reduceMul, Nat.reducePow, Int.reduceLT, Int.reduceLE, Int.reduceEq, Nat.reduceEqDiff])
      have gz : h1.get (h.size + 2) = some (.cells [.int .i64 0, .int .i64 0, .int .i64 0, .int .u32 0, .int .u32 0, .int .i64 0, .int .i64 0, .nilslice, .int .i64 0, .int .i64 0, .int .i64 0, .int .i64 0, .int .i64 0, .int .i64 0, .int .i64 0, .nilslice, .nilslice] true 0) := (s1.get _ (by simp)).trans (by simp -implicitDefEqProofs (disch := first | assumption | decide | omega | (simp only [wpD1] <;> omega) | (simp only [wpD2] <;> assumption) | solve_by_elim [HSub.refl, HSub.push, HSub.reserve] | fail) only [↓wpPre, wpPost, wpPoly, Int.reduceToNat, Int.reducePow, Int.reduceMul, Int.reduceAdd, Int.reduceSub, Int.reduceNeg, Nat.reduceAdd, Nat.reduceMul, Nat.reducePow, Int.reduceLT, Int.reduceLE, Int.reduceEq, Nat.reduceEqDiff])
      have s0 := (sH (.cells [.int .i64 p.d, .int .i64 p.o, .int .i64 p.pb, .int .i64 p.w, .int .i64 p.mn, .int .i64 p.mx, .int .i64 p.nz, vp] true 0) (.cells [.int .i64 e.prn, .int .i64 e.dl, .int .i64 e.rt, .int .u32 e.st, .int .u32 e.ph, .int .i64 e.amp, .int .i64 e.ba, vb] true 0) (.cells [.int .i64 0, .int .i64 0, .int .i64 0, .int .u32 0, .int .u32 0, .int .i64 0, .int .i64 0, .nilslice, .int .i64 0, .int .i64 0, .int .i64 0, .int .i64 0, .int .i64 0, .int .i64 0, .int .i64 0, .nilslice, .nilslice] true 0)).trans s1
      have sb := fun (H : Heap) (i : Nat) => storeB_full (H := H) (i := i) (n := 17) (x := .int .i64 e.prn) (y := .int .i64 e.dl) (xs := [.int .i64 e.rt, .int .u32 e.st, .int .u32 e.ph, .int .i64 e.amp, .int .i64 e.ba, vb, .int .i64 p.d, .int .i64 p.o, .int .i64 p.pb, .int .i64 p.w, .int .i64 p.mn, .int .i64 p.mx, .int .i64 p.nz, vp, vc]) (vs := [.int .i64 0, .int .i64 0, .int .i64 0, .int .u32 0, .int .u32 0, .int .i64 0, .int .i64 0, .nilslice, .int .i64 0, .int .i64 0, .int .i64 0, .int .i64 0, .int .i64 0, .int .i64 0, .int .i64 0, .nilslice, .nilslice]) rfl rfl (by simp [one_int, v1, b1, w1])
      simp -implicitDefEqProofs (disch := first | assumption | decide | omega | (simp only [wpD1] <;> omega) | (simp only [wpD2] <;> assumption) | solve_by_elim [HSub.refl, HSub.push, HSub.reserve] | fail) only [↓wpPre, wpPost, wpPoly, Int.reduceToNat, Int.reducePow, Int.reduceMul, Int.reduceAdd, Int.reduceSub, Int.reduceNeg, Nat.reduceAdd, Nat.reduceMul, Nat.reducePow, Int.reduceLT, Int.reduceLE, Int.reduceEq, Nat.reduceEqDiff, lstErr, gp, ge, gz, f17, sb]
      exact ⟨s0.put (by omega) _, _, rfl, fun q => absurd trivial q, fun _ => ⟨vp, vb, vc, rfl, rfl, rfl, R, B, by rw [fv]; exact RI.known ((get_put_ne (by omega)).trans fg) ⟨rfl, fl⟩ (Nat.le_refl _)⟩⟩
  · rw [if_neg c]
    generalize emitErr p e = E at *
    unfold zsrc
    (refine calls_intro (hC.body (by decide) tab238) (Nat.le_of_ble_eq_true rfl) ?_); (show wp C _ none B238.code _ _); (simp only [B238]); simp -implicitDefEqProofs (disch := first | assumption | decide | omega | (simp only [wpD1] <;> omega) | (simp only [wpD2] <;> assumption) | solve_by_elim [HSub.refl, HSub.push, HSub.reserve] | fail) only [↓wpPre, wpPost, wpPoly, Int.reduceToNat, Int.reducePow, Int.reduceMul, Int.reduceAdd, Int.reduceSub, Int.reduceNeg, Nat.reduceAdd, Nat.reduceMul, Nat.reducePow, Int.reduceLT, Int.reduceLE, Int.reduceEq, Nat.reduceEqDiff]
    refine ACallsK.eq (kc _ (sH _ _ _)) ?_
    simp -implicitDefEqProofs (disch := first | assumption | decide | omega | (simp only [wpD1] <;> omega) | (simp only [wpD2] <;> assumption) | solve_by_elim [HSub.refl, HSub.push, HSub.reserve] | fail) only [↓wpPre, wpPost, wpPoly, Int.reduceToNat, Int.reducePow, Int.reduceMul, Int.reduceAdd, Int.reduceSub, Int.reduceNeg, Nat.reduceAdd, Nat.reduceMul, Nat.reducePow, Int.reduceLT, Int.reduceLE, Int.reduceEq, Nat.reduceEqDiff, c]
    exact ⟨(by repeat (first | exact HSub.refl h | refine HSub.put ?_ (by (try simp only [Heap.size_put, Heap.size_push, Heap.size_reserve]); omega) _ | refine HSub.push ?_ _ | refine HSub.reserve ?_ _)), _, rfl, fun _ => rfl⟩
def startE (p : PlanP) (e : EmitP) (n : Int) : AV := if madeErr p e n = 0 then tup2 (e.sta p n) 0 else tup2 0 (madeErr p e n)
theorem tup2_free (a b : Int) : (tup2 a b).free := by unfold tup2; exact free_tuple (by simp [AV.free, AV.bel])
set_option maxHeartbeats 1000000 in
set_option maxRecDepth 20000 in
theorem Start_spec (hC : Has C T221) {v w : AV} {p : PlanP} {e : EmitP} {n : Int} {h : Heap} (hp : PlI h v p) (he : EmI h w e) (h64 : p.ok64) (h65 : e.ok64) (hn : In64 n) :
    ACalls C 221 [v, w, .int .i64 n] h (fun r h' => r = startE p e n ∧ h' = h) := by
  refine ACalls.gc0 (P := fun r h' => r = startE p e n ∧ HSub h h') ?_ (fun r h' hp => ⟨by rw [hp.1]; unfold startE; split <;> exact tup2_free _ _, hp.2, hp.1, rfl⟩)
  have km := fun h1 (q : HSub h h1) => made238_spec (hC.sub (T' := T238) (by decide)) (hp.mono q) (he.mono q) h64 h65 hn
  have mr := made_range p e n
  unfold startE
  obtain ⟨vp, rfl, R⟩ := hp
  obtain ⟨vb, rfl, B⟩ := he
  have v1 := R.one
  have b1 := B.one
  have sH : ∀ b c, HSub h ((h.push b).push c) := fun b c => (HSub.push1 h b).push c
  by_cases c : madeErr p e n = 0
  · have ok := made_ok c
    rw [if_pos c]
    rw [c] at km
    have ks := fun vp vb vc (x1 : vp.one = true) (x2 : vb.one = true) (x3 : vc.one = true) h => start239_spec (hC.sub (T' := T239) (by decide)) (vp := vp) (vb := vb) (vc := vc) (k := n) (h := h) ok.1 x1 x2 x3 (by omega)
    generalize e.sta p n = S at *
    (refine calls_intro (hC.body (by decide) tab221) (Nat.le_of_ble_eq_true rfl) ?_); (show wp C _ none B221.code _ _); (simp only [B221]); simp -implicitDefEqProofs (disch := first | assumption | decide | omega | (simp only [wpD1] <;> omega) | (simp only [wpD2] <;> assumption) | solve_by_elim [HSub.refl, HSub.push, HSub.reserve] | fail) only [↓wpPre, wpPost, wpPoly, Int.reduceToNat, Int.reducePow, Int.reduceMul, Int.reduceAdd, Int.reduceSub, Int.reduceNeg, Nat.reduceAdd, Nat.reduceMul, Nat.reducePow, Int.reduceLT, Int.reduceLE, Int.reduceEq, Nat.reduceEqDiff]
    refine ACallsK.of (km _ (sH _ _)) ?_
    rintro r h1 ⟨s1, x, rfl, g0, g1⟩
    have g1 := g1 rfl
    obtain ⟨vp', vb', vc, e1, e2, rfl, R', B', W⟩ := g1
    have x1 := R'.one
    have x2 := B'.one
    have x3 := W.one
    have ks := ks vp' vb' vc x1 x2 x3
    unfold srcA at ks ⊢
    have sb := fun (H : Heap) (i : Nat) => storeB_full (H := H) (i := i) (n := 17) (x := .int .i64 e.prn) (y := .int .i64 e.dl) (xs := [.int .i64 e.rt, .int .u32 e.st, .int .u32 e.ph, .int .i64 e.amp, .int .i64 e.ba, vb', .int .i64 p.d, .int .i64 p.o, .int .i64 p.pb, .int .i64 p.w, .int .i64 p.mn, .int .i64 p.mx, .int .i64 p.nz, vp', vc]) (vs := [.int .i64 0, .int .i64 0, .int .i64 0, .int .u32 0, .int .u32 0, .int .i64 0, .int .i64 0, .nilslice, .int .i64 0, .int .i64 0, .int .i64 0, .int .i64 0, .int .i64 0, .int .i64 0, .int .i64 0, .nilslice, .nilslice]) rfl rfl (by simp [one_int, x1, x2, x3])
    simp -implicitDefEqProofs (disch := first | assumption | decide | omega | (simp only [wpD1] <;> omega) | (simp only [wpD2] <;> assumption) | solve_by_elim [HSub.refl, HSub.push, HSub.reserve] | fail) only [↓wpPre, wpPost, wpPoly, Int.reduceToNat, Int.reducePow, Int.reduceMul, Int.reduceAdd, Int.reduceSub, Int.reduceNeg, Nat.reduceAdd, Nat.reduceMul, Nat.reducePow, Int.reduceLT, Int.reduceLE, Int.reduceEq, Nat.reduceEqDiff, sb]
    refine ACallsK.eq (ks _) ?_
    simp -implicitDefEqProofs (disch := first | assumption | decide | omega | (simp only [wpD1] <;> omega) | (simp only [wpD2] <;> assumption) | solve_by_elim [HSub.refl, HSub.push, HSub.reserve] | fail) only [↓wpPre, wpPost, wpPoly, Int.reduceToNat, Int.reducePow, Int.reduceMul, Int.reduceAdd, Int.reduceSub, Int.reduceNeg, Nat.reduceAdd, Nat.reduceMul, Nat.reducePow, Int.reduceLT, Int.reduceLE, Int.reduceEq, Nat.reduceEqDiff, tup2]
    exact (sH _ _).trans (s1.trans (by exact (by repeat (first | exact HSub.refl h1 | refine HSub.put ?_ (by (try simp only [Heap.size_put, Heap.size_push, Heap.size_reserve]); omega) _ | refine HSub.push ?_ _ | refine HSub.reserve ?_ _))))
  · rw [if_neg c]
    generalize madeErr p e n = E at *
    (refine calls_intro (hC.body (by decide) tab221) (Nat.le_of_ble_eq_true rfl) ?_); (show wp C _ none B221.code _ _); (simp only [B221]); simp -implicitDefEqProofs (disch := first | assumption | decide | omega | (simp only [wpD1] <;> omega) | (simp only [wpD2] <;> assumption) | solve_by_elim [HSub.refl, HSub.push, HSub.reserve] | fail) only [↓wpPre, wpPost, wpPoly, Int.reduceToNat, Int.reducePow, Int.reduceMul, Int.reduceAdd, Int.reduceSub, Int.reduceNeg, Nat.reduceAdd, Nat.reduceMul, Nat.reducePow, Int.reduceLT, Int.reduceLE, Int.reduceEq, Nat.reduceEqDiff]
    refine ACallsK.of (km _ (sH _ _)) ?_
    rintro r h1 ⟨s1, x, rfl, g0, g1⟩
    have g0 := g0 c
    subst g0
    unfold zsrc
    simp -implicitDefEqProofs (disch := first | assumption | decide | omega | (simp only [wpD1] <;> omega) | (simp only [wpD2] <;> assumption) | solve_by_elim [HSub.refl, HSub.push, HSub.reserve] | fail) only [↓wpPre, wpPost, wpPoly, Int.reduceToNat, Int.reducePow, Int.reduceMul, Int.reduceAdd, Int.reduceSub, Int.reduceNeg, Nat.reduceAdd, Nat.reduceMul, Nat.reducePow, Int.reduceLT, Int.reduceLE, Int.reduceEq, Nat.reduceEqDiff, c, tup2]
    exact (sH _ _).trans (s1.trans (by exact (by repeat (first | exact HSub.refl h1 | refine HSub.put ?_ (by (try simp only [Heap.size_put, Heap.size_push, Heap.size_reserve]); omega) _ | refine HSub.push ?_ _ | refine HSub.reserve ?_ _))))
end
end Go.Ae

/- Start of the reference; Place, Bit and At of both. -/
set_option linter.unusedSimpArgs false
set_option linter.unusedVariables false
namespace Go.Ae
def tupI3 (x y z : Int) : AV := .tuple [.int .i64 x, .int .i64 y, .int .i64 z]
theorem tupI3_free (a b c : Int) : (tupI3 a b c).free := by unfold tupI3; exact free_tuple (by simp [AV.free, AV.bel])
def placeE (p : PlanP) (e : EmitP) (n : Int) : AV := if madeErr p e n = 0 then tupI3 (e.pl p n) (n - e.sta p (e.pl p n)) 0 else tupI3 0 0 (madeErr p e n)
def bitE (p : PlanP) (e : EmitP) (n : Int) : AV := if madeErr p e n = 0 then tup2 (bitI p e n) 0 else tup2 0 (madeErr p e n)
def atE (p : PlanP) (e : EmitP) (n : Int) : AV := if madeErr p e n = 0 then .tuple [smp (atV p e n), .int .i64 0] else .tuple [smp (0, 0), .int .i64 (madeErr p e n)]
theorem placeE_free (p : PlanP) (e : EmitP) (n : Int) : (placeE p e n).free := by unfold placeE; split <;> exact tupI3_free _ _ _
theorem bitE_free (p : PlanP) (e : EmitP) (n : Int) : (bitE p e n).free := by unfold bitE; split <;> exact tup2_free _ _
theorem atE_free (p : PlanP) (e : EmitP) (n : Int) : (atE p e n).free := by
  unfold atE
  split <;> exact free_tuple (by simp [smp, AV.free, AV.bel, AV.bels])
section
variable {C : Ctx}
set_option maxHeartbeats 1000000 in
set_option maxRecDepth 20000 in
theorem Place_spec (hC : Has C T225) {v w : AV} {p : PlanP} {e : EmitP} {n : Int} {h : Heap} (hp : PlI h v p) (he : EmI h w e) (h64 : p.ok64) (h65 : e.ok64) (hn : In64 n) :
    ACalls C 225 [v, w, .int .i64 n] h (fun r h' => r = placeE p e n ∧ h' = h) := by
  refine ACalls.gc0 (P := fun r h' => r = placeE p e n ∧ HSub h h') ?_ (fun r h' hp => ⟨by rw [hp.1]; exact placeE_free _ _ _, hp.2, hp.1, rfl⟩)
  have km := fun h1 (q : HSub h h1) => made238_spec (hC.sub (T' := T238) (by decide)) (hp.mono q) (he.mono q) h64 h65 hn
  have mr := made_range p e n
  unfold placeE
  obtain ⟨vp, rfl, R⟩ := hp
  obtain ⟨vb, rfl, B⟩ := he
  have v1 := R.one
  have b1 := B.one
  have sH : ∀ b c, HSub h ((h.push b).push c) := fun b c => (HSub.push1 h b).push c
  by_cases c : madeErr p e n = 0
  · have ok := made_ok c
    rw [if_pos c]
    rw [c] at km
    have kp := fun vp vb vc (x1 : vp.one = true) (x2 : vb.one = true) (x3 : vc.one = true) h => place245_spec (hC.sub (T' := T245) (by decide)) (vp := vp) (vb := vb) (vc := vc) (n := n) (h := h) ok.1 x1 x2 x3 (by omega)
    have pb := ok.1.plb (n := n) (by omega)
    have per := ok.1.per n
    have ks := fun vp vb vc (x1 : vp.one = true) (x2 : vb.one = true) (x3 : vc.one = true) h => start239_spec (hC.sub (T' := T239) (by decide)) (vp := vp) (vb := vb) (vc := vc) (k := e.pl p n) (h := h) ok.1 x1 x2 x3 (by omega)
    generalize e.pl p n = K at *
    generalize e.sta p K = S at *
    (refine calls_intro (hC.body (by decide) tab225) (Nat.le_of_ble_eq_true rfl) ?_); (show wp C _ none B225.code _ _); (simp only [B225]); simp -implicitDefEqProofs (disch := first | assumption | decide | omega | (simp only [wpD1] <;> omega) | (simp only [wpD2] <;> assumption) | solve_by_elim [HSub.refl, HSub.push, HSub.reserve] | fail) only [↓wpPre, wpPost, wpPoly, Int.reduceToNat, Int.reducePow, Int.reduceMul, Int.reduceAdd, Int.reduceSub, Int.reduceNeg, Nat.reduceAdd, Nat.reduceMul, Nat.reducePow, Int.reduceLT, Int.reduceLE, Int.reduceEq, Nat.reduceEqDiff]
    refine ACallsK.of (km _ (sH _ _)) ?_
    rintro r h1 ⟨s1, x, rfl, g0, g1⟩
    have g1 := g1 rfl
    obtain ⟨vp', vb', vc, e1, e2, rfl, R', B', W⟩ := g1
    have x1 := R'.one
    have x2 := B'.one
    have x3 := W.one
    have s0 := (sH _ _).trans s1
    have kp := kp vp' vb' vc x1 x2 x3
    have ks := ks vp' vb' vc x1 x2 x3
    unfold srcA at kp ks ⊢
    have sb := fun (H : Heap) (i : Nat) => storeB_full (H := H) (i := i) (n := 17) (x := .int .i64 e.prn) (y := .int .i64 e.dl) (xs := [.int .i64 e.rt, .int .u32 e.st, .int .u32 e.ph, .int .i64 e.amp, .int .i64 e.ba, vb', .int .i64 p.d, .int .i64 p.o, .int .i64 p.pb, .int .i64 p.w, .int .i64 p.mn, .int .i64 p.mx, .int .i64 p.nz, vp', vc]) (vs := [.int .i64 0, .int .i64 0, .int .i64 0, .int .u32 0, .int .u32 0, .int .i64 0, .int .i64 0, .nilslice, .int .i64 0, .int .i64 0, .int .i64 0, .int .i64 0, .int .i64 0, .int .i64 0, .int .i64 0, .nilslice, .nilslice]) rfl rfl (by simp [one_int, x1, x2, x3])
    simp -implicitDefEqProofs (disch := first | assumption | decide | omega | (simp only [wpD1] <;> omega) | (simp only [wpD2] <;> assumption) | solve_by_elim [HSub.refl, HSub.push, HSub.reserve] | fail) only [↓wpPre, wpPost, wpPoly, Int.reduceToNat, Int.reducePow, Int.reduceMul, Int.reduceAdd, Int.reduceSub, Int.reduceNeg, Nat.reduceAdd, Nat.reduceMul, Nat.reducePow, Int.reduceLT, Int.reduceLE, Int.reduceEq, Nat.reduceEqDiff, sb]
    refine ACallsK.eq (kp _) ?_
    simp -implicitDefEqProofs (disch := first | assumption | decide | omega | (simp only [wpD1] <;> omega) | (simp only [wpD2] <;> assumption) | solve_by_elim [HSub.refl, HSub.push, HSub.reserve] | fail) only [↓wpPre, wpPost, wpPoly, Int.reduceToNat, Int.reducePow, Int.reduceMul, Int.reduceAdd, Int.reduceSub, Int.reduceNeg, Nat.reduceAdd, Nat.reduceMul, Nat.reducePow, Int.reduceLT, Int.reduceLE, Int.reduceEq, Nat.reduceEqDiff]
    refine ACallsK.eq (ks _) ?_
    simp -implicitDefEqProofs (disch := first | assumption | decide | omega | (simp only [wpD1] <;> omega) | (simp only [wpD2] <;> assumption) | solve_by_elim [HSub.refl, HSub.push, HSub.reserve] | fail) only [↓wpPre, wpPost, wpPoly, Int.reduceToNat, Int.reducePow, Int.reduceMul, Int.reduceAdd, Int.reduceSub, Int.reduceNeg, Nat.reduceAdd, Nat.reduceMul, Nat.reducePow, Int.reduceLT, Int.reduceLE, Int.reduceEq, Nat.reduceEqDiff, tupI3]
    exact s0.trans (by exact (by repeat (first | exact HSub.refl h1 | refine HSub.put ?_ (by (try simp only [Heap.size_put, Heap.size_push, Heap.size_reserve]); omega) _ | refine HSub.push ?_ _ | refine HSub.reserve ?_ _)))
  · rw [if_neg c]
    generalize madeErr p e n = E at *
    (refine calls_intro (hC.body (by decide) tab225) (Nat.le_of_ble_eq_true rfl) ?_); (show wp C _ none B225.code _ _); (simp only [B225]); simp -implicitDefEqProofs (disch := first | assumption | decide | omega | (simp only [wpD1] <;> omega) | (simp only [wpD2] <;> assumption) | solve_by_elim [HSub.refl, HSub.push, HSub.reserve] | fail) only [↓wpPre, wpPost, wpPoly, Int.reduceToNat, Int.reducePow, Int.reduceMul, Int.reduceAdd, Int.reduceSub, Int.reduceNeg, Nat.reduceAdd, Nat.reduceMul, Nat.reducePow, Int.reduceLT, Int.reduceLE, Int.reduceEq, Nat.reduceEqDiff]
    refine ACallsK.of (km _ (sH _ _)) ?_
    rintro r h1 ⟨s1, x, rfl, g0, g1⟩
    have g0 := g0 c
    subst g0
    have s0 := (sH _ _).trans s1
    unfold zsrc
    simp -implicitDefEqProofs (disch := first | assumption | decide | omega | (simp only [wpD1] <;> omega) | (simp only [wpD2] <;> assumption) | solve_by_elim [HSub.refl, HSub.push, HSub.reserve] | fail) only [↓wpPre, wpPost, wpPoly, Int.reduceToNat, Int.reducePow, Int.reduceMul, Int.reduceAdd, Int.reduceSub, Int.reduceNeg, Nat.reduceAdd, Nat.reduceMul, Nat.reducePow, Int.reduceLT, Int.reduceLE, Int.reduceEq, Nat.reduceEqDiff, c, tupI3]
    exact s0.trans (by exact (by repeat (first | exact HSub.refl h1 | refine HSub.put ?_ (by (try simp only [Heap.size_put, Heap.size_push, Heap.size_reserve]); omega) _ | refine HSub.push ?_ _ | refine HSub.reserve ?_ _)))
set_option maxHeartbeats 1000000 in
set_option maxRecDepth 20000 in
theorem Bit_spec (hC : Has C T227) {v w : AV} {p : PlanP} {e : EmitP} {n : Int} {h : Heap} (hp : PlI h v p) (he : EmI h w e) (h64 : p.ok64) (h65 : e.ok64) (hn : In64 n) :
    ACalls C 227 [v, w, .int .i64 n] h (fun r h' => r = bitE p e n ∧ h' = h) := by
  refine ACalls.gc0 (P := fun r h' => r = bitE p e n ∧ HSub h h') ?_ (fun r h' hp => ⟨by rw [hp.1]; exact bitE_free _ _ _, hp.2, hp.1, rfl⟩)
  have km := fun h1 (q : HSub h h1) => made238_spec (hC.sub (T' := T238) (by decide)) (hp.mono q) (he.mono q) h64 h65 hn
  have mr := made_range p e n
  unfold bitE
  obtain ⟨vp, rfl, R⟩ := hp
  obtain ⟨vb, rfl, B⟩ := he
  have v1 := R.one
  have b1 := B.one
  have sH : ∀ b c, HSub h ((h.push b).push c) := fun b c => (HSub.push1 h b).push c
  by_cases c : madeErr p e n = 0
  · have ok := made_ok c
    rw [if_pos c]
    rw [c] at km
    have kb := fun vp vb vc h1 (x1 : vp.one = true) (x3 : vc.one = true) (B : RI h1 vb e.bits) => bit247_spec (hC.sub (T' := T247) (by decide)) (vp := vp) (vc := vc) (k := n) ok.1 B x1 x3 (by omega)
    generalize bitI p e n = b at *
    (refine calls_intro (hC.body (by decide) tab227) (Nat.le_of_ble_eq_true rfl) ?_); (show wp C _ none B227.code _ _); (simp only [B227]); simp -implicitDefEqProofs (disch := first | assumption | decide | omega | (simp only [wpD1] <;> omega) | (simp only [wpD2] <;> assumption) | solve_by_elim [HSub.refl, HSub.push, HSub.reserve] | fail) only [↓wpPre, wpPost, wpPoly, Int.reduceToNat, Int.reducePow, Int.reduceMul, Int.reduceAdd, Int.reduceSub, Int.reduceNeg, Nat.reduceAdd, Nat.reduceMul, Nat.reducePow, Int.reduceLT, Int.reduceLE, Int.reduceEq, Nat.reduceEqDiff]
    refine ACallsK.of (km _ (sH _ _)) ?_
    rintro r h1 ⟨s1, x, rfl, g0, g1⟩
    have g1 := g1 rfl
    obtain ⟨vp', vb', vc, e1, e2, rfl, R', B', W⟩ := g1
    have x1 := R'.one
    have x2 := B'.one
    have x3 := W.one
    have s0 := (sH _ _).trans s1
    have kb := fun h2 q => kb vp' vb' vc h2 x1 x3 (B'.mono q)
    unfold srcA at kb ⊢
    have sb := fun (H : Heap) (i : Nat) => storeB_full (H := H) (i := i) (n := 17) (x := .int .i64 e.prn) (y := .int .i64 e.dl) (xs := [.int .i64 e.rt, .int .u32 e.st, .int .u32 e.ph, .int .i64 e.amp, .int .i64 e.ba, vb', .int .i64 p.d, .int .i64 p.o, .int .i64 p.pb, .int .i64 p.w, .int .i64 p.mn, .int .i64 p.mx, .int .i64 p.nz, vp', vc]) (vs := [.int .i64 0, .int .i64 0, .int .i64 0, .int .u32 0, .int .u32 0, .int .i64 0, .int .i64 0, .nilslice, .int .i64 0, .int .i64 0, .int .i64 0, .int .i64 0, .int .i64 0, .int .i64 0, .int .i64 0, .nilslice, .nilslice]) rfl rfl (by simp [one_int, x1, x2, x3])
    simp -implicitDefEqProofs (disch := first | assumption | decide | omega | (simp only [wpD1] <;> omega) | (simp only [wpD2] <;> assumption) | solve_by_elim [HSub.refl, HSub.push, HSub.reserve] | fail) only [↓wpPre, wpPost, wpPoly, Int.reduceToNat, Int.reducePow, Int.reduceMul, Int.reduceAdd, Int.reduceSub, Int.reduceNeg, Nat.reduceAdd, Nat.reduceMul, Nat.reducePow, Int.reduceLT, Int.reduceLE, Int.reduceEq, Nat.reduceEqDiff, sb]
    refine ACallsK.eq (kb _ (s1.trans (by exact (by repeat (first | exact HSub.refl h1 | refine HSub.put ?_ (by (try simp only [Heap.size_put, Heap.size_push, Heap.size_reserve]); omega) _ | refine HSub.push ?_ _ | refine HSub.reserve ?_ _))))) ?_
    simp -implicitDefEqProofs (disch := first | assumption | decide | omega | (simp only [wpD1] <;> omega) | (simp only [wpD2] <;> assumption) | solve_by_elim [HSub.refl, HSub.push, HSub.reserve] | fail) only [↓wpPre, wpPost, wpPoly, Int.reduceToNat, Int.reducePow, Int.reduceMul, Int.reduceAdd, Int.reduceSub, Int.reduceNeg, Nat.reduceAdd, Nat.reduceMul, Nat.reducePow, Int.reduceLT, Int.reduceLE, Int.reduceEq, Nat.reduceEqDiff, tup2]
    exact s0.trans (by exact (by repeat (first | exact HSub.refl h1 | refine HSub.put ?_ (by (try simp only [Heap.size_put, Heap.size_push, Heap.size_reserve]); omega) _ | refine HSub.push ?_ _ | refine HSub.reserve ?_ _)))
  · rw [if_neg c]
    generalize madeErr p e n = E at *
    (refine calls_intro (hC.body (by decide) tab227) (Nat.le_of_ble_eq_true rfl) ?_); (show wp C _ none B227.code _ _); (simp only [B227]); simp -implicitDefEqProofs (disch := first | assumption | decide | omega | (simp only [wpD1] <;> omega) | (simp only [wpD2] <;> assumption) | solve_by_elim [HSub.refl, HSub.push, HSub.reserve] | fail) only [↓wpPre, wpPost, wpPoly, Int.reduceToNat, Int.reducePow, Int.reduceMul, Int.reduceAdd, Int.reduceSub, Int.reduceNeg, Nat.reduceAdd, Nat.reduceMul, Nat.reducePow, Int.reduceLT, Int.reduceLE, Int.reduceEq, Nat.reduceEqDiff]
    refine ACallsK.of (km _ (sH _ _)) ?_
    rintro r h1 ⟨s1, x, rfl, g0, g1⟩
    have g0 := g0 c
    subst g0
    have s0 := (sH _ _).trans s1
    unfold zsrc
    simp -implicitDefEqProofs (disch := first | assumption | decide | omega | (simp only [wpD1] <;> omega) | (simp only [wpD2] <;> assumption) | solve_by_elim [HSub.refl, HSub.push, HSub.reserve] | fail) only [↓wpPre, wpPost, wpPoly, Int.reduceToNat, Int.reducePow, Int.reduceMul, Int.reduceAdd, Int.reduceSub, Int.reduceNeg, Nat.reduceAdd, Nat.reduceMul, Nat.reducePow, Int.reduceLT, Int.reduceLE, Int.reduceEq, Nat.reduceEqDiff, c, tup2]
    exact s0.trans (by exact (by repeat (first | exact HSub.refl h1 | refine HSub.put ?_ (by (try simp only [Heap.size_put, Heap.size_push, Heap.size_reserve]); omega) _ | refine HSub.push ?_ _ | refine HSub.reserve ?_ _)))
set_option maxHeartbeats 1000000 in
set_option maxRecDepth 20000 in
theorem At_spec (hC : Has C T229) {v w : AV} {p : PlanP} {e : EmitP} {n : Int} {h : Heap} (hp : PlI h v p) (he : EmI h w e) (h64 : p.ok64) (h65 : e.ok64) (hn : In64 n) :
    ACalls C 229 [v, w, .int .i64 n] h (fun r h' => r = atE p e n ∧ h' = h) := by
  refine ACalls.gc0 (P := fun r h' => r = atE p e n ∧ HSub h h') ?_ (fun r h' hp => ⟨by rw [hp.1]; exact atE_free _ _ _, hp.2, hp.1, rfl⟩)
  have km := fun h1 (q : HSub h h1) => made238_spec (hC.sub (T' := T238) (by decide)) (hp.mono q) (he.mono q) h64 h65 hn
  have mr := made_range p e n
  unfold atE
  obtain ⟨vp, rfl, R⟩ := hp
  obtain ⟨vb, rfl, B⟩ := he
  have v1 := R.one
  have b1 := B.one
  have sH : ∀ b c d, HSub h (((h.push b).push c).push d) := fun b c d => ((HSub.push1 h b).push c).push d
  by_cases c : madeErr p e n = 0
  · have ok := made_ok c
    rw [if_pos c]
    rw [c] at km
    have kp := fun vp vb vc (x1 : vp.one = true) (x2 : vb.one = true) (x3 : vc.one = true) h => place245_spec (hC.sub (T' := T245) (by decide)) (vp := vp) (vb := vb) (vc := vc) (n := n) (h := h) ok.1 x1 x2 x3 (by omega)
    have pb := ok.1.plb (n := n) (by omega)
    have per := ok.1.per n
    have stb := ok.1.stb (k := e.pl p n) (by omega)
    have sr : -200000000000 ≤ e.sta p (e.pl p n) ∧ e.sta p (e.pl p n) ≤ 200000000000 := ⟨stb.1, stb.2.1⟩
    clear stb
    have ks := fun vp vb vc (x1 : vp.one = true) (x2 : vb.one = true) (x3 : vc.one = true) h => start239_spec (hC.sub (T' := T239) (by decide)) (vp := vp) (vb := vb) (vc := vc) (k := e.pl p n) (h := h) ok.1 x1 x2 x3 (by omega)
    have kc := fun vp vb vc h1 (x1 : vp.one = true) (x2 : vb.one = true) (W : RI h1 vc (codeL p.d e.prn)) => chip249_spec (hC.sub (T' := T249) (by decide)) (vp := vp) (vb := vb) (i := n - e.sta p (e.pl p n)) ok.1 W x1 x2 (by omega)
    have kl := fun vp vb vc h1 (x1 : vp.one = true) (x3 : vc.one = true) (B : RI h1 vb e.bits) => level250_spec (hC.sub (T' := T250) (by decide)) (vp := vp) (vc := vc) (k := e.pl p n) ok.1 h65 B x1 x3 (by omega)
    have cp := chip_pm ok.1 per.1
    have am := ok.1.en.2.2.1
    have pm := ok.1.pn.2.2.2.2
    have bb := ok.1.bit (e.pl p n)
    have cl := carP_le (phI_u32 e.ph e.st (e.pl p n))
    unfold lvl at kl
    unfold atV
    generalize e.pl p n = K at *
    generalize e.sta p K = S at *
    generalize chipI p e (n - S) = x at *
    generalize carP (phI e.ph e.st K) = t at *
    generalize bitI p e K = b at *
    have xb : -1000 ≤ e.amp * (1 - 2 * b) ∧ e.amp * (1 - 2 * b) ≤ 1000 := by rcases bb with q | q <;> subst q <;> omega
    have y1 := mul_le127 xb ⟨cl.1, cl.2.1⟩
    have y2 := mul_le127 xb ⟨cl.2.2.1, cl.2.2.2⟩
    obtain ⟨tx, ty⟩ := t
    have e1 : e.amp * x * (1 - 2 * b) * tx = x * (e.amp * (1 - 2 * b) * tx) := by grind
    have e2 : e.amp * x * (1 - 2 * b) * ty = x * (e.amp * (1 - 2 * b) * ty) := by grind
    dsimp only at e1 e2 kl y1 y2 ⊢
    rw [e1, e2]
    generalize e.amp * (1 - 2 * b) * tx = u1 at *
    generalize e.amp * (1 - 2 * b) * ty = u2 at *
    have z1 : -127000 ≤ x * u1 ∧ x * u1 ≤ 127000 := by rcases cp with q | q <;> subst q <;> omega
    have z2 : -127000 ≤ x * u2 ∧ x * u2 ≤ 127000 := by rcases cp with q | q <;> subst q <;> omega
    unfold smp at kl ⊢
    dsimp only at kl ⊢
    (refine calls_intro (hC.body (by decide) tab229) (Nat.le_of_ble_eq_true rfl) ?_); (show wp C _ none B229.code _ _); (simp only [B229]); simp -implicitDefEqProofs (disch := first | assumption | decide | omega | (simp only [wpD1] <;> omega) | (simp only [wpD2] <;> assumption) | solve_by_elim [HSub.refl, HSub.push, HSub.reserve] | fail) only [↓wpPre, wpPost, wpPoly, Int.reduceToNat, Int.reducePow, Int.reduceMul, Int.reduceAdd, Int.reduceSub, Int.reduceNeg, Nat.reduceAdd, Nat.reduceMul, Nat.reducePow, Int.reduceLT, Int.reduceLE, Int.reduceEq, Nat.reduceEqDiff]
    refine ACallsK.of (km _ (sH _ _ _)) ?_
    rintro r h1 ⟨s1, x, rfl, g0, g1⟩
    have g1 := g1 rfl
    obtain ⟨vp', vb', vc, e1, e2, rfl, R', B', W⟩ := g1
    have x1 := R'.one
    have x2 := B'.one
    have x3 := W.one
    have s0 := (sH _ _ _).trans s1
    have kp := kp vp' vb' vc x1 x2 x3
    have ks := ks vp' vb' vc x1 x2 x3
    have kc := fun h2 q => kc vp' vb' vc h2 x1 x2 (W.mono q)
    have kl := fun h2 q => kl vp' vb' vc h2 x1 x3 (B'.mono q)
    unfold srcA at kp ks kc kl ⊢
    have sb := fun (H : Heap) (i : Nat) => storeB_full (H := H) (i := i) (n := 17) (x := .int .i64 e.prn) (y := .int .i64 e.dl) (xs := [.int .i64 e.rt, .int .u32 e.st, .int .u32 e.ph, .int .i64 e.amp, .int .i64 e.ba, vb', .int .i64 p.d, .int .i64 p.o, .int .i64 p.pb, .int .i64 p.w, .int .i64 p.mn, .int .i64 p.mx, .int .i64 p.nz, vp', vc]) (vs := [.int .i64 0, .int .i64 0, .int .i64 0, .int .u32 0, .int .u32 0, .int .i64 0, .int .i64 0, .nilslice, .int .i64 0, .int .i64 0, .int .i64 0, .int .i64 0, .int .i64 0, .int .i64 0, .int .i64 0, .nilslice, .nilslice]) rfl rfl (by simp [one_int, x1, x2, x3])
    have gz : h1.get (h.size + 2) = some (.cells [.int .i64 0, .int .i64 0] true 0) := (s1.get _ (by simp)).trans (by simp -implicitDefEqProofs (disch := first | assumption | decide | omega | (simp only [wpD1] <;> omega) | (simp only [wpD2] <;> assumption) | solve_by_elim [HSub.refl, HSub.push, HSub.reserve] | fail) only [↓wpPre, wpPost, wpPoly, Int.reduceToNat, Int.reducePow, Int.reduceMul, Int.reduceAdd, Int.reduceSub, Int.reduceNeg, Nat.reduceAdd, Nat.reduceMul, Nat.reducePow, Int.reduceLT, Int.reduceLE, Int.reduceEq, Nat.reduceEqDiff])
    have hz : h.size + 2 < h1.size := by have := s1.size; simp only [Heap.size_push] at this; omega
    simp -implicitDefEqProofs (disch := first | assumption | decide | omega | (simp only [wpD1] <;> omega) | (simp only [wpD2] <;> assumption) | solve_by_elim [HSub.refl, HSub.push, HSub.reserve] | fail) only [↓wpPre, wpPost, wpPoly, Int.reduceToNat, Int.reducePow, Int.reduceMul, Int.reduceAdd, Int.reduceSub, Int.reduceNeg, Nat.reduceAdd, Nat.reduceMul, Nat.reducePow, Int.reduceLT, Int.reduceLE, Int.reduceEq, Nat.reduceEqDiff, sb]
    refine ACallsK.eq (kp _) ?_
    simp -implicitDefEqProofs (disch := first | assumption | decide | omega | (simp only [wpD1] <;> omega) | (simp only [wpD2] <;> assumption) | solve_by_elim [HSub.refl, HSub.push, HSub.reserve] | fail) only [↓wpPre, wpPost, wpPoly, Int.reduceToNat, Int.reducePow, Int.reduceMul, Int.reduceAdd, Int.reduceSub, Int.reduceNeg, Nat.reduceAdd, Nat.reduceMul, Nat.reducePow, Int.reduceLT, Int.reduceLE, Int.reduceEq, Nat.reduceEqDiff]
    refine ACallsK.eq (ks _) ?_
    simp -implicitDefEqProofs (disch := first | assumption | decide | omega | (simp only [wpD1] <;> omega) | (simp only [wpD2] <;> assumption) | solve_by_elim [HSub.refl, HSub.push, HSub.reserve] | fail) only [↓wpPre, wpPost, wpPoly, Int.reduceToNat, Int.reducePow, Int.reduceMul, Int.reduceAdd, Int.reduceSub, Int.reduceNeg, Nat.reduceAdd, Nat.reduceMul, Nat.reducePow, Int.reduceLT, Int.reduceLE, Int.reduceEq, Nat.reduceEqDiff]
    refine ACallsK.eq (kc _ (by exact (by repeat (first | exact HSub.refl h1 | refine HSub.put ?_ (by (try simp only [Heap.size_put, Heap.size_push, Heap.size_reserve]); omega) _ | refine HSub.push ?_ _ | refine HSub.reserve ?_ _)))) ?_
    simp -implicitDefEqProofs (disch := first | assumption | decide | omega | (simp only [wpD1] <;> omega) | (simp only [wpD2] <;> assumption) | solve_by_elim [HSub.refl, HSub.push, HSub.reserve] | fail) only [↓wpPre, wpPost, wpPoly, Int.reduceToNat, Int.reducePow, Int.reduceMul, Int.reduceAdd, Int.reduceSub, Int.reduceNeg, Nat.reduceAdd, Nat.reduceMul, Nat.reducePow, Int.reduceLT, Int.reduceLE, Int.reduceEq, Nat.reduceEqDiff]
    refine ACallsK.eq (kl _ (s1.trans (by exact (by repeat (first | exact HSub.refl h1 | refine HSub.put ?_ (by (try simp only [Heap.size_put, Heap.size_push, Heap.size_reserve]); omega) _ | refine HSub.push ?_ _ | refine HSub.reserve ?_ _))))) ?_
    simp -implicitDefEqProofs (disch := first | assumption | decide | omega | (simp only [wpD1] <;> omega) | (simp only [wpD2] <;> assumption) | solve_by_elim [HSub.refl, HSub.push, HSub.reserve] | fail) only [↓wpPre, wpPost, wpPoly, Int.reduceToNat, Int.reducePow, Int.reduceMul, Int.reduceAdd, Int.reduceSub, Int.reduceNeg, Nat.reduceAdd, Nat.reduceMul, Nat.reducePow, Int.reduceLT, Int.reduceLE, Int.reduceEq, Nat.reduceEqDiff, gz, Heap.wf]
    exact (by repeat (first | exact s0 | refine HSub.put ?_ (by (try simp only [Heap.size_put, Heap.size_push, Heap.size_reserve]); omega) _ | refine HSub.push ?_ _ | refine HSub.reserve ?_ _))
  · rw [if_neg c]
    generalize madeErr p e n = E at *
    (refine calls_intro (hC.body (by decide) tab229) (Nat.le_of_ble_eq_true rfl) ?_); (show wp C _ none B229.code _ _); (simp only [B229]); simp -implicitDefEqProofs (disch := first | assumption | decide | omega | (simp only [wpD1] <;> omega) | (simp only [wpD2] <;> assumption) | solve_by_elim [HSub.refl, HSub.push, HSub.reserve] | fail) only [↓wpPre, wpPost, wpPoly, Int.reduceToNat, Int.reducePow, Int.reduceMul, Int.reduceAdd, Int.reduceSub, Int.reduceNeg, Nat.reduceAdd, Nat.reduceMul, Nat.reducePow, Int.reduceLT, Int.reduceLE, Int.reduceEq, Nat.reduceEqDiff]
    refine ACallsK.of (km _ (sH _ _ _)) ?_
    rintro r h1 ⟨s1, x, rfl, g0, g1⟩
    have g0 := g0 c
    subst g0
    have s0 := (sH _ _ _).trans s1
    unfold zsrc
    have gz : h1.get (h.size + 2) = some (.cells [.int .i64 0, .int .i64 0] true 0) := (s1.get _ (by simp)).trans (by simp -implicitDefEqProofs (disch := first | assumption | decide | omega | (simp only [wpD1] <;> omega) | (simp only [wpD2] <;> assumption) | solve_by_elim [HSub.refl, HSub.push, HSub.reserve] | fail) only [↓wpPre, wpPost, wpPoly, Int.reduceToNat, Int.reducePow, Int.reduceMul, Int.reduceAdd, Int.reduceSub, Int.reduceNeg, Nat.reduceAdd, Nat.reduceMul, Nat.reducePow, Int.reduceLT, Int.reduceLE, Int.reduceEq, Nat.reduceEqDiff])
    have hz : h.size + 2 < h1.size := by have := s1.size; simp only [Heap.size_push] at this; omega
    unfold smp
    simp -implicitDefEqProofs (disch := first | assumption | decide | omega | (simp only [wpD1] <;> omega) | (simp only [wpD2] <;> assumption) | solve_by_elim [HSub.refl, HSub.push, HSub.reserve] | fail) only [↓wpPre, wpPost, wpPoly, Int.reduceToNat, Int.reducePow, Int.reduceMul, Int.reduceAdd, Int.reduceSub, Int.reduceNeg, Nat.reduceAdd, Nat.reduceMul, Nat.reducePow, Int.reduceLT, Int.reduceLE, Int.reduceEq, Nat.reduceEqDiff, c, gz]
    exact (by repeat (first | exact s0 | refine HSub.put ?_ (by (try simp only [Heap.size_put, Heap.size_push, Heap.size_reserve]); omega) _ | refine HSub.push ?_ _ | refine HSub.reserve ?_ _))
end
end Go.Ae

/- Start, Place, Bit and At of the reference. -/
set_option linter.unusedSimpArgs false
set_option linter.unusedVariables false
namespace Go.Ae
section
variable {C : Ctx}
end
end Go.Ae

/- The statements on plans and on emitters, of layer 12. -/
set_option linter.unusedSimpArgs false
set_option linter.unusedVariables false
namespace Go.Ae
def P0 : PlanP := ⟨5, 2, 2, 2, 1, 10, 5, [1, 2]⟩
def E0 : EmitP := ⟨1, 3, 0, 0, 0, 2, 0, [0, 1]⟩
theorem k12a : madeErr P0 E0 1 = 0 ∧ E0.sta P0 1 = 65 ∧ madeErr P0 E0 2 = 0 ∧ E0.pl P0 2 = -1 ∧ 2 - E0.sta P0 (-1) = 61 ∧ madeErr P0 E0 13 = 0 ∧ atV P0 E0 13 = (254, 0) := by decide +kernel
theorem k_start : startE P0 E0 1 = tup2 65 0 := by unfold startE; rw [if_pos k12a.1, k12a.2.1]
theorem k_place : placeE P0 E0 2 = tupI3 (-1) 61 0 := by unfold placeE; rw [if_pos k12a.2.2.1, k12a.2.2.2.1, k12a.2.2.2.2.1]
theorem k_at : atE P0 E0 13 = .tuple [smp (254, 0), .int .i64 0] := by unfold atE; rw [if_pos k12a.2.2.2.2.2.1, k12a.2.2.2.2.2.2]
theorem P0_64 : P0.ok64 := by unfold PlanP.ok64 P0 In64; simp
theorem E0_64 : E0.ok64 := by unfold EmitP.ok64 E0 In64 U32; simp
section
variable {C : Ctx}
theorem plan233_spec (hC : Has C T233) {h : Heap} : ACalls C 233 [] h (fun r h' => HSub h h' ∧ PlI h' r P0) := by
  unfold PlI P0
  (refine calls_intro (hC.body (by decide) tab233) (Nat.le_of_ble_eq_true rfl) ?_); (show wp C _ none B233.code _ _); (simp only [B233]); simp -implicitDefEqProofs (disch := first | assumption | decide | omega | (simp only [wpD1] <;> omega) | (simp only [wpD2] <;> assumption) | solve_by_elim [HSub.refl, HSub.push, HSub.reserve] | fail) only [↓wpPre, wpPost, wpPoly, Int.reduceToNat, Int.reducePow, Int.reduceMul, Int.reduceAdd, Int.reduceSub, Int.reduceNeg, Nat.reduceAdd, Nat.reduceMul, Nat.reducePow, Int.reduceLT, Int.reduceLE, Int.reduceEq, Nat.reduceEqDiff]
  refine ⟨(by repeat (first | exact HSub.refl h | refine HSub.put ?_ (by (try simp only [Heap.size_put, Heap.size_push, Heap.size_reserve]); omega) _ | refine HSub.push ?_ _ | refine HSub.reserve ?_ _)), _, rfl, RI.known (wr := true) (u := 0) (i := h.size + 1) ?_ ⟨rfl, by decide⟩ (Nat.le_refl _)⟩
  simp -implicitDefEqProofs (disch := first | assumption | decide | omega | (simp only [wpD1] <;> omega) | (simp only [wpD2] <;> assumption) | solve_by_elim [HSub.refl, HSub.push, HSub.reserve] | fail) only [↓wpPre, wpPost, wpPoly, Int.reduceToNat, Int.reducePow, Int.reduceMul, Int.reduceAdd, Int.reduceSub, Int.reduceNeg, Nat.reduceAdd, Nat.reduceMul, Nat.reducePow, Int.reduceLT, Int.reduceLE, Int.reduceEq, Nat.reduceEqDiff]
  rfl
theorem emitter234_spec (hC : Has C T234) {h : Heap} : ACalls C 234 [] h (fun r h' => HSub h h' ∧ EmI h' r E0) := by
  unfold EmI E0
  (refine calls_intro (hC.body (by decide) tab234) (Nat.le_of_ble_eq_true rfl) ?_); (show wp C _ none B234.code _ _); (simp only [B234]); simp -implicitDefEqProofs (disch := first | assumption | decide | omega | (simp only [wpD1] <;> omega) | (simp only [wpD2] <;> assumption) | solve_by_elim [HSub.refl, HSub.push, HSub.reserve] | fail) only [↓wpPre, wpPost, wpPoly, Int.reduceToNat, Int.reducePow, Int.reduceMul, Int.reduceAdd, Int.reduceSub, Int.reduceNeg, Nat.reduceAdd, Nat.reduceMul, Nat.reducePow, Int.reduceLT, Int.reduceLE, Int.reduceEq, Nat.reduceEqDiff]
  refine ⟨(by repeat (first | exact HSub.refl h | refine HSub.put ?_ (by (try simp only [Heap.size_put, Heap.size_push, Heap.size_reserve]); omega) _ | refine HSub.push ?_ _ | refine HSub.reserve ?_ _)), _, rfl, RI.known (wr := true) (u := 0) (i := h.size + 1) ?_ ⟨rfl, by decide⟩ (Nat.le_refl _)⟩
  simp -implicitDefEqProofs (disch := first | assumption | decide | omega | (simp only [wpD1] <;> omega) | (simp only [wpD2] <;> assumption) | solve_by_elim [HSub.refl, HSub.push, HSub.reserve] | fail) only [↓wpPre, wpPost, wpPoly, Int.reduceToNat, Int.reducePow, Int.reduceMul, Int.reduceAdd, Int.reduceSub, Int.reduceNeg, Nat.reduceAdd, Nat.reduceMul, Nat.reducePow, Int.reduceLT, Int.reduceLE, Int.reduceEq, Nat.reduceEqDiff]
  rfl
set_option maxHeartbeats 1000000 in
theorem awake218_spec (hC : Has C T218) {h : Heap} : ACalls C 218 [] h (fun r h' => r = .bool true ∧ h' = h) := by
  refine ACalls.gc0 (P := fun r h' => r = .bool true ∧ HSub h h') ?_ (fun r h' hp => ⟨by rw [hp.1]; trivial, hp.2, hp.1, rfl⟩)
  have kp := fun h => plan233_spec (hC.sub (T' := T233) (by decide)) (h := h)
  have ke := fun h => emitter234_spec (hC.sub (T' := T234) (by decide)) (h := h)
  have k1 := fun v w h1 (hp : PlI h1 v P0) (he : EmI h1 w E0) => Start_spec (hC.sub (T' := T221) (by decide)) (n := 1) hp he P0_64 E0_64 (by unfold In64; omega)
  have k2 := fun v w h1 (hp : PlI h1 v P0) (he : EmI h1 w E0) => Place_spec (hC.sub (T' := T225) (by decide)) (n := 2) hp he P0_64 E0_64 (by unfold In64; omega)
  have k3 := fun v w h1 (hp : PlI h1 v P0) (he : EmI h1 w E0) => At_spec (hC.sub (T' := T229) (by decide)) (n := 13) hp he P0_64 E0_64 (by unfold In64; omega)
  simp only [k_start] at k1
  simp only [k_place] at k2
  simp only [k_at] at k3
  unfold smp at k3
  dsimp only at k3
  (refine calls_intro (hC.body (by decide) tab218) (Nat.le_of_ble_eq_true rfl) ?_); (show wp C _ none B218.code _ _); (simp only [B218]); simp -implicitDefEqProofs (disch := first | assumption | decide | omega | (simp only [wpD1] <;> omega) | (simp only [wpD2] <;> assumption) | solve_by_elim [HSub.refl, HSub.push, HSub.reserve] | fail) only [↓wpPre, wpPost, wpPoly, Int.reduceToNat, Int.reducePow, Int.reduceMul, Int.reduceAdd, Int.reduceSub, Int.reduceNeg, Nat.reduceAdd, Nat.reduceMul, Nat.reducePow, Int.reduceLT, Int.reduceLE, Int.reduceEq, Nat.reduceEqDiff]
  refine ACallsK.of (kp _) ?_
  rintro v1 h1 ⟨s1, p1⟩
  simp -implicitDefEqProofs (disch := first | assumption | decide | omega | (simp only [wpD1] <;> omega) | (simp only [wpD2] <;> assumption) | solve_by_elim [HSub.refl, HSub.push, HSub.reserve] | fail) only [↓wpPre, wpPost, wpPoly, Int.reduceToNat, Int.reducePow, Int.reduceMul, Int.reduceAdd, Int.reduceSub, Int.reduceNeg, Nat.reduceAdd, Nat.reduceMul, Nat.reducePow, Int.reduceLT, Int.reduceLE, Int.reduceEq, Nat.reduceEqDiff]
  refine ACallsK.of (ke _) ?_
  rintro w1 h2 ⟨s2, q1⟩
  simp -implicitDefEqProofs (disch := first | assumption | decide | omega | (simp only [wpD1] <;> omega) | (simp only [wpD2] <;> assumption) | solve_by_elim [HSub.refl, HSub.push, HSub.reserve] | fail) only [↓wpPre, wpPost, wpPoly, Int.reduceToNat, Int.reducePow, Int.reduceMul, Int.reduceAdd, Int.reduceSub, Int.reduceNeg, Nat.reduceAdd, Nat.reduceMul, Nat.reducePow, Int.reduceLT, Int.reduceLE, Int.reduceEq, Nat.reduceEqDiff]
  refine ACallsK.eq (k1 _ _ _ (p1.mono s2) q1) ?_
  simp -implicitDefEqProofs (disch := first | assumption | decide | omega | (simp only [wpD1] <;> omega) | (simp only [wpD2] <;> assumption) | solve_by_elim [HSub.refl, HSub.push, HSub.reserve] | fail) only [↓wpPre, wpPost, wpPoly, Int.reduceToNat, Int.reducePow, Int.reduceMul, Int.reduceAdd, Int.reduceSub, Int.reduceNeg, Nat.reduceAdd, Nat.reduceMul, Nat.reducePow, Int.reduceLT, Int.reduceLE, Int.reduceEq, Nat.reduceEqDiff, tup2]
  refine ACallsK.of (kp _) ?_
  rintro v2 h3 ⟨s3, p2⟩
  simp -implicitDefEqProofs (disch := first | assumption | decide | omega | (simp only [wpD1] <;> omega) | (simp only [wpD2] <;> assumption) | solve_by_elim [HSub.refl, HSub.push, HSub.reserve] | fail) only [↓wpPre, wpPost, wpPoly, Int.reduceToNat, Int.reducePow, Int.reduceMul, Int.reduceAdd, Int.reduceSub, Int.reduceNeg, Nat.reduceAdd, Nat.reduceMul, Nat.reducePow, Int.reduceLT, Int.reduceLE, Int.reduceEq, Nat.reduceEqDiff]
  refine ACallsK.of (ke _) ?_
  rintro w2 h4 ⟨s4, q2⟩
  simp -implicitDefEqProofs (disch := first | assumption | decide | omega | (simp only [wpD1] <;> omega) | (simp only [wpD2] <;> assumption) | solve_by_elim [HSub.refl, HSub.push, HSub.reserve] | fail) only [↓wpPre, wpPost, wpPoly, Int.reduceToNat, Int.reducePow, Int.reduceMul, Int.reduceAdd, Int.reduceSub, Int.reduceNeg, Nat.reduceAdd, Nat.reduceMul, Nat.reducePow, Int.reduceLT, Int.reduceLE, Int.reduceEq, Nat.reduceEqDiff]
  refine ACallsK.eq (k2 _ _ _ (p2.mono s4) q2) ?_
  simp -implicitDefEqProofs (disch := first | assumption | decide | omega | (simp only [wpD1] <;> omega) | (simp only [wpD2] <;> assumption) | solve_by_elim [HSub.refl, HSub.push, HSub.reserve] | fail) only [↓wpPre, wpPost, wpPoly, Int.reduceToNat, Int.reducePow, Int.reduceMul, Int.reduceAdd, Int.reduceSub, Int.reduceNeg, Nat.reduceAdd, Nat.reduceMul, Nat.reducePow, Int.reduceLT, Int.reduceLE, Int.reduceEq, Nat.reduceEqDiff, tupI3]
  refine ACallsK.of (kp _) ?_
  rintro v3 h5 ⟨s5, p3⟩
  simp -implicitDefEqProofs (disch := first | assumption | decide | omega | (simp only [wpD1] <;> omega) | (simp only [wpD2] <;> assumption) | solve_by_elim [HSub.refl, HSub.push, HSub.reserve] | fail) only [↓wpPre, wpPost, wpPoly, Int.reduceToNat, Int.reducePow, Int.reduceMul, Int.reduceAdd, Int.reduceSub, Int.reduceNeg, Nat.reduceAdd, Nat.reduceMul, Nat.reducePow, Int.reduceLT, Int.reduceLE, Int.reduceEq, Nat.reduceEqDiff]
  refine ACallsK.of (ke _) ?_
  rintro w3 h6 ⟨s6, q3⟩
  simp -implicitDefEqProofs (disch := first | assumption | decide | omega | (simp only [wpD1] <;> omega) | (simp only [wpD2] <;> assumption) | solve_by_elim [HSub.refl, HSub.push, HSub.reserve] | fail) only [↓wpPre, wpPost, wpPoly, Int.reduceToNat, Int.reducePow, Int.reduceMul, Int.reduceAdd, Int.reduceSub, Int.reduceNeg, Nat.reduceAdd, Nat.reduceMul, Nat.reducePow, Int.reduceLT, Int.reduceLE, Int.reduceEq, Nat.reduceEqDiff]
  refine ACallsK.eq (k3 _ _ _ (p3.mono s6) q3) ?_
  simp -implicitDefEqProofs (disch := first | assumption | decide | omega | (simp only [wpD1] <;> omega) | (simp only [wpD2] <;> assumption) | solve_by_elim [HSub.refl, HSub.push, HSub.reserve] | fail) only [↓wpPre, wpPost, wpPoly, Int.reduceToNat, Int.reducePow, Int.reduceMul, Int.reduceAdd, Int.reduceSub, Int.reduceNeg, Nat.reduceAdd, Nat.reduceMul, Nat.reducePow, Int.reduceLT, Int.reduceLE, Int.reduceEq, Nat.reduceEqDiff, eqs_two_f]
  exact ((((((s1.trans s2).trans s3).trans s4).trans s5).trans s6).push _)
end
end Go.Ae

/- Scenes that are refused: two of the chapter's examples. -/
set_option linter.unusedSimpArgs false
set_option linter.unusedVariables false
namespace Go.Ae
def plC0 (p : PlanP) (vp : AV) : List AV := [.int .i64 p.d, .int .i64 p.o, .int .i64 p.pb, .int .i64 p.w, .int .i64 p.mn, .int .i64 p.mx, .int .i64 p.nz, vp]
theorem contB_all {n : Nat} {xs : List AV} {wr : Bool} {u : Nat} (h : xs.length = n) : contB 1 n 0 (some (.cells xs wr u)) = some (1, xs) := by
  unfold contB
  simp [cut, h, List.take_of_length_le (Nat.le_of_eq h)]
section
variable {C : Ctx}
theorem same253_spec (hC : Has C T253) {p e : EmitP} {vb wb : AV} {b : Nat} {h : Heap} (w1 : wb.one = true) (hg : h.get b = some (.cells [.int .i64 e.prn, .int .i64 e.dl, .int .i64 e.rt, .int .u32 e.st, .int .u32 e.ph, .int .i64 e.amp, .int .i64 e.ba, vb] true 0)) :
    ACalls C 253 [emA p wb, .ptr b 0] h (fun r h' => r = .bool (decide (p.prn = e.prn)) ∧ h' = h) := by
  refine ACalls.gc0 (P := fun r h' => r = .bool (decide (p.prn = e.prn)) ∧ HSub h h') ?_ (fun r h' hp => ⟨by rw [hp.1]; trivial, hp.2, hp.1, rfl⟩)
  have hb := Heap.lt_of_get hg
  unfold emA
  (refine calls_intro (hC.body (by decide) tab253) (Nat.le_of_ble_eq_true rfl) ?_); (show wp C _ none B253.code _ _); (simp only [B253]); simp -implicitDefEqProofs (disch := first | assumption | decide | omega | (simp only [wpD1] <;> omega) | (simp only [wpD2] <;> assumption) | solve_by_elim [HSub.refl, HSub.push, HSub.reserve] | fail) only [↓wpPre, wpPost, wpPoly, Int.reduceToNat, Int.reducePow, Int.reduceMul, Int.reduceAdd, Int.reduceSub, Int.reduceNeg, Nat.reduceAdd, Nat.reduceMul, Nat.reducePow, Int.reduceLT, Int.reduceLE, Int.reduceEq, Nat.reduceEqDiff, hg]
  exact HSub.push1 _ _
theorem none252_spec (hC : Has C T252) {f : AV} {b c o : Nat} {h : Heap} : ACalls C 252 [.slice b o 0 (.known c), f] h (fun r h' => r = .bool false ∧ h' = h) := by
  have hI : ACalls C 259 [.slice b o 0 (.known c), f] h (fun r h' => r = .int .i64 (-1) ∧ h' = h) := by
    have hC' : Has C T259 := (hC.sub (T' := T259) (by decide))
    have hC := hC'
    (refine calls_intro (hC.body (by decide) tab259) (Nat.le_of_ble_eq_true rfl) ?_); (show wp C _ none B259.code _ _); (simp only [B259]); simp -implicitDefEqProofs (disch := first | assumption | decide | omega | (simp only [wpD1] <;> omega) | (simp only [wpD2] <;> assumption) | solve_by_elim [HSub.refl, HSub.push, HSub.reserve] | fail) only [↓wpPre, wpPost, wpPoly, Int.reduceToNat, Int.reducePow, Int.reduceMul, Int.reduceAdd, Int.reduceSub, Int.reduceNeg, Nat.reduceAdd, Nat.reduceMul, Nat.reducePow, Int.reduceLT, Int.reduceLE, Int.reduceEq, Nat.reduceEqDiff]
    refine wp_loopI (fun j t h' => h' = h ∧ t 7 = .int .i64 0 ∧ t 8 = .int .i64 0 ∧ j = 0) (j0 := 0) ⟨rfl, rfl, rfl, rfl⟩ ?_
    rintro j t h1 ⟨rfl, e7, e8, hj⟩
    simp -implicitDefEqProofs (disch := first | assumption | decide | omega | (simp only [wpD1] <;> omega) | (simp only [wpD2] <;> assumption) | solve_by_elim [HSub.refl, HSub.push, HSub.reserve] | fail) only [↓wpPre, wpPost, wpPoly, Int.reduceToNat, Int.reducePow, Int.reduceMul, Int.reduceAdd, Int.reduceSub, Int.reduceNeg, Nat.reduceAdd, Nat.reduceMul, Nat.reducePow, Int.reduceLT, Int.reduceLE, Int.reduceEq, Nat.reduceEqDiff, e7, e8]
  (refine calls_intro (hC.body (by decide) tab252) (Nat.le_of_ble_eq_true rfl) ?_); (show wp C _ none B252.code _ _); (simp only [B252]); simp -implicitDefEqProofs (disch := first | assumption | decide | omega | (simp only [wpD1] <;> omega) | (simp only [wpD2] <;> assumption) | solve_by_elim [HSub.refl, HSub.push, HSub.reserve] | fail) only [↓wpPre, wpPost, wpPoly, Int.reduceToNat, Int.reducePow, Int.reduceMul, Int.reduceAdd, Int.reduceSub, Int.reduceNeg, Nat.reduceAdd, Nat.reduceMul, Nat.reducePow, Int.reduceLT, Int.reduceLE, Int.reduceEq, Nat.reduceEqDiff]
  refine ACallsK.eq hI ?_
  simp -implicitDefEqProofs (disch := first | assumption | decide | omega | (simp only [wpD1] <;> omega) | (simp only [wpD2] <;> assumption) | solve_by_elim [HSub.refl, HSub.push, HSub.reserve] | fail) only [↓wpPre, wpPost, wpPoly, Int.reduceToNat, Int.reducePow, Int.reduceMul, Int.reduceAdd, Int.reduceSub, Int.reduceNeg, Nat.reduceAdd, Nat.reduceMul, Nat.reducePow, Int.reduceLT, Int.reduceLE, Int.reduceEq, Nat.reduceEqDiff]
theorem one252_spec (hC : Has C T252) (hS : Has C T253) {b c n : Nat} {e : EmitP} {vb wb : AV} {h : Heap} (hn : 1 ≤ n) (w1 : wb.one = true) (hg : h.get b = some (.cells ([.int .i64 e.prn, .int .i64 e.dl, .int .i64 e.rt, .int .u32 e.st, .int .u32 e.ph, .int .i64 e.amp, .int .i64 e.ba, wb] ++ [.int .i64 e.prn, .int .i64 e.dl, .int .i64 e.rt, .int .u32 e.st, .int .u32 e.ph, .int .i64 e.amp, .int .i64 e.ba, wb]) true 0))
    (hc : h.get c = some (.cells [.int .i64 e.prn, .int .i64 e.dl, .int .i64 e.rt, .int .u32 e.st, .int .u32 e.ph, .int .i64 e.amp, .int .i64 e.ba, vb] true 0)) : ACalls C 252 [.slice b 0 1 (.known n), .func 253 [] [.ptr c 0]] h (fun r h' => r = .bool true ∧ h' = h) := by
  have ks := same253_spec hS (p := e) (e := e) w1 hc
  rw [decide_eq_true rfl] at ks
  unfold emA at ks
  have hI : ACalls C 259 [.slice b 0 1 (.known n), .func 253 [] [.ptr c 0]] h (fun r h' => r = .int .i64 0 ∧ h' = h) := by
    have hC' : Has C T259 := (hC.sub (T' := T259) (by decide))
    have hC := hC'
    (refine calls_intro (hC.body (by decide) tab259) (Nat.le_of_ble_eq_true rfl) ?_); (show wp C _ none B259.code _ _); (simp only [B259]); simp -implicitDefEqProofs (disch := first | assumption | decide | omega | (simp only [wpD1] <;> omega) | (simp only [wpD2] <;> assumption) | solve_by_elim [HSub.refl, HSub.push, HSub.reserve] | fail) only [↓wpPre, wpPost, wpPoly, Int.reduceToNat, Int.reducePow, Int.reduceMul, Int.reduceAdd, Int.reduceSub, Int.reduceNeg, Nat.reduceAdd, Nat.reduceMul, Nat.reducePow, Int.reduceLT, Int.reduceLE, Int.reduceEq, Nat.reduceEqDiff]
    refine wp_loopI (fun j t h' => h' = h ∧ t 0 = .slice b 0 1 (.known n) ∧ t 1 = .func 253 [] [.ptr c 0] ∧ t 7 = .int .i64 1 ∧ t 8 = .int .i64 0 ∧ j = 0) (j0 := 0) ⟨rfl, rfl, rfl, rfl, rfl, rfl⟩ ?_
    rintro j t h1 ⟨rfl, e0, e1, e7, e8, hj⟩
    simp -implicitDefEqProofs (disch := first | assumption | decide | omega | (simp only [wpD1] <;> omega) | (simp only [wpD2] <;> assumption) | solve_by_elim [HSub.refl, HSub.push, HSub.reserve] | fail) only [↓wpPre, wpPost, wpPoly, Int.reduceToNat, Int.reducePow, Int.reduceMul, Int.reduceAdd, Int.reduceSub, Int.reduceNeg, Nat.reduceAdd, Nat.reduceMul, Nat.reducePow, Int.reduceLT, Int.reduceLE, Int.reduceEq, Nat.reduceEqDiff, e0, e1, e7, e8, hg]
    refine ACallsK.eq ks ?_
    simp -implicitDefEqProofs (disch := first | assumption | decide | omega | (simp only [wpD1] <;> omega) | (simp only [wpD2] <;> assumption) | solve_by_elim [HSub.refl, HSub.push, HSub.reserve] | fail) only [↓wpPre, wpPost, wpPoly, Int.reduceToNat, Int.reducePow, Int.reduceMul, Int.reduceAdd, Int.reduceSub, Int.reduceNeg, Nat.reduceAdd, Nat.reduceMul, Nat.reducePow, Int.reduceLT, Int.reduceLE, Int.reduceEq, Nat.reduceEqDiff]
  (refine calls_intro (hC.body (by decide) tab252) (Nat.le_of_ble_eq_true rfl) ?_); (show wp C _ none B252.code _ _); (simp only [B252]); simp -implicitDefEqProofs (disch := first | assumption | decide | omega | (simp only [wpD1] <;> omega) | (simp only [wpD2] <;> assumption) | solve_by_elim [HSub.refl, HSub.push, HSub.reserve] | fail) only [↓wpPre, wpPost, wpPoly, Int.reduceToNat, Int.reducePow, Int.reduceMul, Int.reduceAdd, Int.reduceSub, Int.reduceNeg, Nat.reduceAdd, Nat.reduceMul, Nat.reducePow, Int.reduceLT, Int.reduceLE, Int.reduceEq, Nat.reduceEqDiff]
  refine ACallsK.eq hI ?_
  simp -implicitDefEqProofs (disch := first | assumption | decide | omega | (simp only [wpD1] <;> omega) | (simp only [wpD2] <;> assumption) | solve_by_elim [HSub.refl, HSub.push, HSub.reserve] | fail) only [↓wpPre, wpPost, wpPoly, Int.reduceToNat, Int.reducePow, Int.reduceMul, Int.reduceAdd, Int.reduceSub, Int.reduceNeg, Nat.reduceAdd, Nat.reduceMul, Nat.reducePow, Int.reduceLT, Int.reduceLE, Int.reduceEq, Nat.reduceEqDiff]
theorem containsG_spec (hC : Has C T255) {v : AV} {l : List (Int × Int)} {g : Nat} {cs : List AV} {P : Int × Int → Prop} [DecidablePred P] {h : Heap} (hg : ∀ p, ACalls C g ([smp p] ++ cs) h (fun r h' => r = .bool (!decide (P p)) ∧ h' = h)) (hl : SI h v l) :
    ACalls C 255 [v, .func g [] cs] h (fun r h' => r = .bool (!decide (∀ x ∈ l, P x)) ∧ h' = h) := by
  have hlt := hl.lt
  have hI : ACalls C 260 [v, .func g [] cs] h (fun r h' => (∃ i : Int, r = .int .i64 i ∧ -1 ≤ i ∧ (0 ≤ i ↔ ¬ ∀ x ∈ l, P x)) ∧ h' = h) := by
    have hC' : Has C T260 := (hC.sub (T' := T260) (by decide))
    have hC := hC'
    (refine calls_intro (hC.body (by decide) tab260) (Nat.le_of_ble_eq_true rfl) ?_); (show wp C _ none B260.code _ _); (simp only [B260]); simp -implicitDefEqProofs (disch := first | assumption | decide | omega | (simp only [wpD1] <;> omega) | (simp only [wpD2] <;> assumption) | solve_by_elim [HSub.refl, HSub.push, HSub.reserve] | fail) only [↓wpPre, wpPost, wpPoly, Int.reduceToNat, Int.reducePow, Int.reduceMul, Int.reduceAdd, Int.reduceSub, Int.reduceNeg, Nat.reduceAdd, Nat.reduceMul, Nat.reducePow, Int.reduceLT, Int.reduceLE, Int.reduceEq, Nat.reduceEqDiff, hl.len]
    refine wp_loopI (fun j t h' => h' = h ∧ ∃ k : Nat, t 0 = v ∧ t 1 = .func g [] cs ∧ t 7 = .int .i64 (l.length : Nat) ∧ t 8 = .int .i64 (k : Nat) ∧ (∀ i, i < k → P (l.getD i (0, 0))) ∧ k ≤ l.length ∧ j = l.length - k) (j0 := l.length)
      ⟨rfl, 0, rfl, rfl, rfl, rfl, fun i hi => by omega, by omega, rfl⟩ ?_
    rintro j t h1 ⟨rfl, k, e0, e1, e7, e8, hp, hk, hj⟩
    simp -implicitDefEqProofs (disch := first | assumption | decide | omega | (simp only [wpD1] <;> omega) | (simp only [wpD2] <;> assumption) | solve_by_elim [HSub.refl, HSub.push, HSub.reserve] | fail) only [↓wpPre, wpPost, wpPoly, Int.reduceToNat, Int.reducePow, Int.reduceMul, Int.reduceAdd, Int.reduceSub, Int.reduceNeg, Nat.reduceAdd, Nat.reduceMul, Nat.reducePow, Int.reduceLT, Int.reduceLE, Int.reduceEq, Nat.reduceEqDiff, e7, e8]
    refine Br.by (fun c => ?_) (fun c => ?_)
    · have hk' : k < l.length := by omega
      have ld := hl.loadA hk'
      have hg := hg (l.getD k (0, 0))
      simp -implicitDefEqProofs (disch := first | assumption | decide | omega | (simp only [wpD1] <;> omega) | (simp only [wpD2] <;> assumption) | solve_by_elim [HSub.refl, HSub.push, HSub.reserve] | fail) only [↓wpPre, wpPost, wpPoly, Int.reduceToNat, Int.reducePow, Int.reduceMul, Int.reduceAdd, Int.reduceSub, Int.reduceNeg, Nat.reduceAdd, Nat.reduceMul, Nat.reducePow, Int.reduceLT, Int.reduceLE, Int.reduceEq, Nat.reduceEqDiff, e0, e1, e8, hl.idx, ld]
      refine ACallsK.eq hg ?_
      by_cases c2 : P (l.getD k (0, 0))
      · simp -implicitDefEqProofs (disch := first | assumption | decide | omega | (simp only [wpD1] <;> omega) | (simp only [wpD2] <;> assumption) | solve_by_elim [HSub.refl, HSub.push, HSub.reserve] | fail) only [↓wpPre, wpPost, wpPoly, Int.reduceToNat, Int.reducePow, Int.reduceMul, Int.reduceAdd, Int.reduceSub, Int.reduceNeg, Nat.reduceAdd, Nat.reduceMul, Nat.reducePow, Int.reduceLT, Int.reduceLE, Int.reduceEq, Nat.reduceEqDiff, c2, e0, e1, e7, e8]
        refine ⟨_, ⟨k + 1, by simp, fun i hi => ?_, by omega, rfl⟩, by omega⟩
        rcases Nat.lt_or_ge i k with x | x
        · exact hp i x
        · have : i = k := by omega
          subst this; exact c2
      · simp -implicitDefEqProofs (disch := first | assumption | decide | omega | (simp only [wpD1] <;> omega) | (simp only [wpD2] <;> assumption) | solve_by_elim [HSub.refl, HSub.push, HSub.reserve] | fail) only [↓wpPre, wpPost, wpPoly, Int.reduceToNat, Int.reducePow, Int.reduceMul, Int.reduceAdd, Int.reduceSub, Int.reduceNeg, Nat.reduceAdd, Nat.reduceMul, Nat.reducePow, Int.reduceLT, Int.reduceLE, Int.reduceEq, Nat.reduceEqDiff, c2, e0, e1, e7, e8]
        refine ⟨by omega, ⟨fun _ q => c2 (q _ (getP_mem hk')), fun _ => by omega⟩⟩
    · have ek : k = l.length := by omega
      simp -implicitDefEqProofs (disch := first | assumption | decide | omega | (simp only [wpD1] <;> omega) | (simp only [wpD2] <;> assumption) | solve_by_elim [HSub.refl, HSub.push, HSub.reserve] | fail) only [↓wpPre, wpPost, wpPoly, Int.reduceToNat, Int.reducePow, Int.reduceMul, Int.reduceAdd, Int.reduceSub, Int.reduceNeg, Nat.reduceAdd, Nat.reduceMul, Nat.reducePow, Int.reduceLT, Int.reduceLE, Int.reduceEq, Nat.reduceEqDiff]
      refine ⟨fun q => q.elim, fun q => absurd (fun x hx => ?_) q⟩
      obtain ⟨i, hi, rfl⟩ := List.getElem_of_mem hx
      have := hp i (by omega)
      rwa [List.getD_eq_getElem?_getD, List.getElem?_eq_getElem hi] at this
  (refine calls_intro (hC.body (by decide) tab255) (Nat.le_of_ble_eq_true rfl) ?_); (show wp C _ none B255.code _ _); (simp only [B255]); simp -implicitDefEqProofs (disch := first | assumption | decide | omega | (simp only [wpD1] <;> omega) | (simp only [wpD2] <;> assumption) | solve_by_elim [HSub.refl, HSub.push, HSub.reserve] | fail) only [↓wpPre, wpPost, wpPoly, Int.reduceToNat, Int.reducePow, Int.reduceMul, Int.reduceAdd, Int.reduceSub, Int.reduceNeg, Nat.reduceAdd, Nat.reduceMul, Nat.reducePow, Int.reduceLT, Int.reduceLE, Int.reduceEq, Nat.reduceEqDiff]
  refine ACallsK.of hI ?_
  rintro r h1 ⟨⟨i, rfl, h1, h2⟩, rfl⟩
  simp -implicitDefEqProofs (disch := first | assumption | decide | omega | (simp only [wpD1] <;> omega) | (simp only [wpD2] <;> assumption) | solve_by_elim [HSub.refl, HSub.push, HSub.reserve] | fail) only [↓wpPre, wpPost, wpPoly, Int.reduceToNat, Int.reducePow, Int.reduceMul, Int.reduceAdd, Int.reduceSub, Int.reduceNeg, Nat.reduceAdd, Nat.reduceMul, Nat.reducePow, Int.reduceLT, Int.reduceLE, Int.reduceEq, Nat.reduceEqDiff]
  by_cases c : ∀ x ∈ l, P x
  · rw [decide_eq_true c]
    have : ¬ 0 ≤ i := fun q => h2.1 q c
    simp [this]
  · rw [decide_eq_false c]
    have : 0 ≤ i := h2.2 c
    simp [this]
set_option maxHeartbeats 2000000 in
set_option maxRecDepth 20000 in
theorem make_double (hC : Has C T231) {vp wb : AV} {p : PlanP} {e : EmitP} {b : Nat} {h : Heap} (R : RI h vp p.prns) (h64 : p.ok64) (B : RI h wb e.bits) (h65 : e.ok64) (hm : madeErr p e 0 = 0) (hg : h.get b = some (.cells ([.int .i64 e.prn, .int .i64 e.dl, .int .i64 e.rt, .int .u32 e.st, .int .u32 e.ph, .int .i64 e.amp, .int .i64 e.ba, wb] ++ [.int .i64 e.prn, .int .i64 e.dl, .int .i64 e.rt, .int .u32 e.st, .int .u32 e.ph, .int .i64 e.amp, .int .i64 e.ba, wb]) true 0)) :
    ACalls C 231 [plA p vp, .slice b 0 2 (.known 2), .nilslice, .int .i64 1] h (fun r h' => HSub h h' ∧ r = .tuple [.nilslice, .int .i64 8]) := by
  have v1 := R.one
  have w1 := B.one
  have hb := Heap.lt_of_get hg
  have ok := made_ok hm
  have pz : p.err = 0 := by
    unfold madeErr emitErr at hm
    by_cases c : p.err = 0
    · exact c
    · rw [if_neg c, if_neg c] at hm; omega
  have kP := fun h1 (q : HSub h h1) => CheckPlan_spec (hC.sub (T' := T219) (by decide)) (v := plA p vp) (p := p) ⟨vp, rfl, R.mono q⟩ h64
  rw [pz] at kP
  have kM := fun h1 (q : HSub h h1) => made238_spec (hC.sub (T' := T238) (by decide)) (v := plA p vp) (w := emA e wb) (p := p) (e := e) (n := 0) ⟨vp, rfl, R.mono q⟩ ⟨wb, rfl, B.mono q⟩ h64 h65 (by unfold In64; omega)
  rw [hm] at kM
  have kN := fun b c o f h => none252_spec (hC.sub (T' := T252) (by decide)) (b := b) (c := c) (o := o) (f := f) (h := h)
  have kO := fun c h1 (q : HSub h h1) (hc : h1.get c = some (.cells [.int .i64 e.prn, .int .i64 e.dl, .int .i64 e.rt, .int .u32 e.st, .int .u32 e.ph, .int .i64 e.amp, .int .i64 e.ba, wb] true 0)) => one252_spec (hC.sub (T' := T252) (by decide)) (hC.sub (T' := T253) (by decide)) (n := 2) (vb := wb) (by omega) w1 ((q.get b hb).trans hg) hc
  have s20 : ∀ h1, sliceA h1 8 (.slice b 0 2 (.known 2)) none (some (.int .i64 0)) none = some (.slice b 0 0 (.known 2)) := fun h1 => rfl
  have s21 : ∀ h1, sliceA h1 8 (.slice b 0 2 (.known 2)) none (some (.int .i64 1)) none = some (.slice b 0 1 (.known 2)) := fun h1 => rfl
  unfold plA at kP kM
  unfold emA at kM
  unfold plA
  (refine calls_intro (hC.body (by decide) tab231) (Nat.le_of_ble_eq_true rfl) ?_); (show wp C _ none B231.code _ _); (simp only [B231]); simp -implicitDefEqProofs (disch := first | assumption | decide | omega | (simp only [wpD1] <;> omega) | (simp only [wpD2] <;> assumption) | solve_by_elim [HSub.refl, HSub.push, HSub.reserve] | fail) only [↓wpPre, wpPost, wpPoly, Int.reduceToNat, Int.reducePow, Int.reduceMul, Int.reduceAdd, Int.reduceSub, Int.reduceNeg, Nat.reduceAdd, Nat.reduceMul, Nat.reducePow, Int.reduceLT, Int.reduceLE, Int.reduceEq, Nat.reduceEqDiff]
  refine ACallsK.eq (kP _ (by repeat (first | exact HSub.refl h | refine HSub.put ?_ (by (try simp only [Heap.size_put, Heap.size_push, Heap.size_reserve]); omega) _ | refine HSub.push ?_ _ | refine HSub.reserve ?_ _))) ?_
  simp -implicitDefEqProofs (disch := first | assumption | decide | omega | (simp only [wpD1] <;> omega) | (simp only [wpD2] <;> assumption) | solve_by_elim [HSub.refl, HSub.push, HSub.reserve] | fail) only [↓wpPre, wpPost, wpPoly, Int.reduceToNat, Int.reducePow, Int.reduceMul, Int.reduceAdd, Int.reduceSub, Int.reduceNeg, Nat.reduceAdd, Nat.reduceMul, Nat.reducePow, Int.reduceLT, Int.reduceLE, Int.reduceEq, Nat.reduceEqDiff]
  refine wp_loopI (fun j t h' => HSub h h' ∧ h.size + 1 < h'.size ∧ h'.get h.size = some (.cells [.int .i64 p.d, .int .i64 p.o, .int .i64 p.pb, .int .i64 p.w, .int .i64 p.mn, .int .i64 p.mx, .int .i64 p.nz, vp] true 0) ∧ t 1 = .slice b 0 2 (.known 2) ∧ t 4 = .ptr h.size 0 ∧ t 31 = .slice b 0 2 (.known 2) ∧ t 32 = .int .i64 2 ∧ ((t 33 = .int .i64 0 ∧ t 11 = .nilslice ∧ j = 2) ∨ (t 33 = .int .i64 1 ∧ j = 1))) (j0 := 2)
    ⟨(by repeat (first | exact HSub.refl h | refine HSub.put ?_ (by (try simp only [Heap.size_put, Heap.size_push, Heap.size_reserve]); omega) _ | refine HSub.push ?_ _ | refine HSub.reserve ?_ _)), by simp, by simp -implicitDefEqProofs (disch := first | assumption | decide | omega | (simp only [wpD1] <;> omega) | (simp only [wpD2] <;> assumption) | solve_by_elim [HSub.refl, HSub.push, HSub.reserve] | fail) only [↓wpPre, wpPost, wpPoly, Int.reduceToNat, Int.reducePow, Int.reduceMul, Int.reduceAdd, Int.reduceSub, Int.reduceNeg, Nat.reduceAdd, Nat.reduceMul, Nat.reducePow, Int.reduceLT, Int.reduceLE, Int.reduceEq, Nat.reduceEqDiff], rfl, rfl, rfl, rfl, .inl ⟨rfl, rfl, rfl⟩⟩ ?_
  rintro j t h1 ⟨s1, hz, gp, e1, e4, e31, e32, hor⟩
  have hg1 := (s1.get b hb).trans hg
  rcases hor with ⟨e33, e11, rfl⟩ | ⟨e33, rfl⟩
  · simp -implicitDefEqProofs (disch := first | assumption | decide | omega | (simp only [wpD1] <;> omega) | (simp only [wpD2] <;> assumption) | solve_by_elim [HSub.refl, HSub.push, HSub.reserve] | fail) only [↓wpPre, wpPost, wpPoly, Int.reduceToNat, Int.reducePow, Int.reduceMul, Int.reduceAdd, Int.reduceSub, Int.reduceNeg, Nat.reduceAdd, Nat.reduceMul, Nat.reducePow, Int.reduceLT, Int.reduceLE, Int.reduceEq, Nat.reduceEqDiff, e1, e4, e31, e32, e33, hg1, gp]
    refine ACallsK.of (kM _ (by repeat (first | exact s1 | refine HSub.put ?_ (by (try simp only [Heap.size_put, Heap.size_push, Heap.size_reserve]); omega) _ | refine HSub.push ?_ _ | refine HSub.reserve ?_ _))) ?_
    rintro r h2 ⟨s2, x, rfl, g0, g1⟩
    have g1 := g1 rfl
    obtain ⟨vp', vb', vc, q1, q2, rfl, R', B', W⟩ := g1
    have x1 := R'.one
    have x2 := B'.one
    have x3 := W.one
    have sz2 := s2.size
    simp only [Heap.size_push] at sz2
    have s12 := s1.trans ((HSub.push1 h1 (.cells [.int .i64 e.prn, .int .i64 e.dl, .int .i64 e.rt, .int .u32 e.st, .int .u32 e.ph, .int .i64 e.amp, .int .i64 e.ba, wb] true 0)).trans s2)
    have gp2 : h2.get h.size = some (.cells [.int .i64 p.d, .int .i64 p.o, .int .i64 p.pb, .int .i64 p.w, .int .i64 p.mn, .int .i64 p.mx, .int .i64 p.nz, vp] true 0) := (s2.get _ (by simp only [Heap.size_push]; omega)).trans (by simp -implicitDefEqProofs (disch := first | assumption | decide | omega | (simp only [wpD1] <;> omega) | (simp only [wpD2] <;> assumption) | solve_by_elim [HSub.refl, HSub.push, HSub.reserve] | fail) only [↓wpPre, wpPost, wpPoly, Int.reduceToNat, Int.reducePow, Int.reduceMul, Int.reduceAdd, Int.reduceSub, Int.reduceNeg, Nat.reduceAdd, Nat.reduceMul, Nat.reducePow, Int.reduceLT, Int.reduceLE, Int.reduceEq, Nat.reduceEqDiff, gp])
    have ge2 : h2.get h1.size = some (.cells [.int .i64 e.prn, .int .i64 e.dl, .int .i64 e.rt, .int .u32 e.st, .int .u32 e.ph, .int .i64 e.amp, .int .i64 e.ba, wb] true 0) := (s2.get _ (by simp)).trans (by simp -implicitDefEqProofs (disch := first | assumption | decide | omega | (simp only [wpD1] <;> omega) | (simp only [wpD2] <;> assumption) | solve_by_elim [HSub.refl, HSub.push, HSub.reserve] | fail) only [↓wpPre, wpPost, wpPoly, Int.reduceToNat, Int.reducePow, Int.reduceMul, Int.reduceAdd, Int.reduceSub, Int.reduceNeg, Nat.reduceAdd, Nat.reduceMul, Nat.reducePow, Int.reduceLT, Int.reduceLE, Int.reduceEq, Nat.reduceEqDiff])
    unfold srcA
    have sb := fun (H : Heap) (i : Nat) => storeB_full (H := H) (i := i) (n := 17) (x := .int .i64 e.prn) (y := .int .i64 e.dl) (xs := [.int .i64 e.rt, .int .u32 e.st, .int .u32 e.ph, .int .i64 e.amp, .int .i64 e.ba, vb', .int .i64 p.d, .int .i64 p.o, .int .i64 p.pb, .int .i64 p.w, .int .i64 p.mn, .int .i64 p.mx, .int .i64 p.nz, vp', vc]) (vs := [.int .i64 0, .int .i64 0, .int .i64 0, .int .u32 0, .int .u32 0, .int .i64 0, .int .i64 0, .nilslice, .int .i64 0, .int .i64 0, .int .i64 0, .int .i64 0, .int .i64 0, .int .i64 0, .int .i64 0, .nilslice, .nilslice]) rfl rfl (by simp [one_int, x1, x2, x3])
    have cb := fun wr u => contB_all (n := 17) (xs := [.int .i64 e.prn, .int .i64 e.dl, .int .i64 e.rt, .int .u32 e.st, .int .u32 e.ph, .int .i64 e.amp, .int .i64 e.ba, vb', .int .i64 p.d, .int .i64 p.o, .int .i64 p.pb, .int .i64 p.w, .int .i64 p.mn, .int .i64 p.mx, .int .i64 p.nz, vp', vc]) (wr := wr) (u := u) rfl
    have an := fun (H : Heap) (bts : Nat) (hb : 1 * bts ≤ 1099511627776) => app_nil (h := H) (sz := 17) (bytes := bts) (m := 1) (news := [.int .i64 e.prn, .int .i64 e.dl, .int .i64 e.rt, .int .u32 e.st, .int .u32 e.ph, .int .i64 e.amp, .int .i64 e.ba, vb', .int .i64 p.d, .int .i64 p.o, .int .i64 p.pb, .int .i64 p.w, .int .i64 p.mn, .int .i64 p.mx, .int .i64 p.nz, vp', vc]) (by decide) hb
    simp -implicitDefEqProofs (disch := first | assumption | decide | omega | (simp only [wpD1] <;> omega) | (simp only [wpD2] <;> assumption) | solve_by_elim [HSub.refl, HSub.push, HSub.reserve] | fail) only [↓wpPre, wpPost, wpPoly, Int.reduceToNat, Int.reducePow, Int.reduceMul, Int.reduceAdd, Int.reduceSub, Int.reduceNeg, Nat.reduceAdd, Nat.reduceMul, Nat.reducePow, Int.reduceLT, Int.reduceLE, Int.reduceEq, Nat.reduceEqDiff, sb, e1, e4, s20]
    refine ACallsK.eq (kN _ _ _ _ _) ?_
    simp -implicitDefEqProofs (disch := first | assumption | decide | omega | (simp only [wpD1] <;> omega) | (simp only [wpD2] <;> assumption) | solve_by_elim [HSub.refl, HSub.push, HSub.reserve] | fail) only [↓wpPre, wpPost, wpPoly, Int.reduceToNat, Int.reducePow, Int.reduceMul, Int.reduceAdd, Int.reduceSub, Int.reduceNeg, Nat.reduceAdd, Nat.reduceMul, Nat.reducePow, Int.reduceLT, Int.reduceLE, Int.reduceEq, Nat.reduceEqDiff, cont_slice, cb, an, e1, e4, e11, e31, e32, e33, gp2]
    exact ⟨1, ⟨(by repeat (first | exact s12 | refine HSub.put ?_ (by (try simp only [Heap.size_put, Heap.size_push, Heap.size_reserve]); omega) _ | refine HSub.push ?_ _ | refine HSub.reserve ?_ _)), by omega, .inr rfl⟩, by decide⟩
  · simp -implicitDefEqProofs (disch := first | assumption | decide | omega | (simp only [wpD1] <;> omega) | (simp only [wpD2] <;> assumption) | solve_by_elim [HSub.refl, HSub.push, HSub.reserve] | fail) only [↓wpPre, wpPost, wpPoly, Int.reduceToNat, Int.reducePow, Int.reduceMul, Int.reduceAdd, Int.reduceSub, Int.reduceNeg, Nat.reduceAdd, Nat.reduceMul, Nat.reducePow, Int.reduceLT, Int.reduceLE, Int.reduceEq, Nat.reduceEqDiff, e1, e4, e31, e32, e33, hg1, gp]
    refine ACallsK.of (kM _ (by repeat (first | exact s1 | refine HSub.put ?_ (by (try simp only [Heap.size_put, Heap.size_push, Heap.size_reserve]); omega) _ | refine HSub.push ?_ _ | refine HSub.reserve ?_ _))) ?_
    rintro r h2 ⟨s2, x, rfl, g0, g1⟩
    have g1 := g1 rfl
    obtain ⟨vp', vb', vc, q1, q2, rfl, R', B', W⟩ := g1
    have x1 := R'.one
    have x2 := B'.one
    have x3 := W.one
    have sz2 := s2.size
    simp only [Heap.size_push] at sz2
    have s12 := s1.trans ((HSub.push1 h1 (.cells [.int .i64 e.prn, .int .i64 e.dl, .int .i64 e.rt, .int .u32 e.st, .int .u32 e.ph, .int .i64 e.amp, .int .i64 e.ba, wb] true 0)).trans s2)
    have gp2 : h2.get h.size = some (.cells [.int .i64 p.d, .int .i64 p.o, .int .i64 p.pb, .int .i64 p.w, .int .i64 p.mn, .int .i64 p.mx, .int .i64 p.nz, vp] true 0) := (s2.get _ (by simp only [Heap.size_push]; omega)).trans (by simp -implicitDefEqProofs (disch := first | assumption | decide | omega | (simp only [wpD1] <;> omega) | (simp only [wpD2] <;> assumption) | solve_by_elim [HSub.refl, HSub.push, HSub.reserve] | fail) only [↓wpPre, wpPost, wpPoly, Int.reduceToNat, Int.reducePow, Int.reduceMul, Int.reduceAdd, Int.reduceSub, Int.reduceNeg, Nat.reduceAdd, Nat.reduceMul, Nat.reducePow, Int.reduceLT, Int.reduceLE, Int.reduceEq, Nat.reduceEqDiff, gp])
    have ge2 : h2.get h1.size = some (.cells [.int .i64 e.prn, .int .i64 e.dl, .int .i64 e.rt, .int .u32 e.st, .int .u32 e.ph, .int .i64 e.amp, .int .i64 e.ba, wb] true 0) := (s2.get _ (by simp)).trans (by simp -implicitDefEqProofs (disch := first | assumption | decide | omega | (simp only [wpD1] <;> omega) | (simp only [wpD2] <;> assumption) | solve_by_elim [HSub.refl, HSub.push, HSub.reserve] | fail) only [↓wpPre, wpPost, wpPoly, Int.reduceToNat, Int.reducePow, Int.reduceMul, Int.reduceAdd, Int.reduceSub, Int.reduceNeg, Nat.reduceAdd, Nat.reduceMul, Nat.reducePow, Int.reduceLT, Int.reduceLE, Int.reduceEq, Nat.reduceEqDiff])
    unfold srcA
    have sb := fun (H : Heap) (i : Nat) => storeB_full (H := H) (i := i) (n := 17) (x := .int .i64 e.prn) (y := .int .i64 e.dl) (xs := [.int .i64 e.rt, .int .u32 e.st, .int .u32 e.ph, .int .i64 e.amp, .int .i64 e.ba, vb', .int .i64 p.d, .int .i64 p.o, .int .i64 p.pb, .int .i64 p.w, .int .i64 p.mn, .int .i64 p.mx, .int .i64 p.nz, vp', vc]) (vs := [.int .i64 0, .int .i64 0, .int .i64 0, .int .u32 0, .int .u32 0, .int .i64 0, .int .i64 0, .nilslice, .int .i64 0, .int .i64 0, .int .i64 0, .int .i64 0, .int .i64 0, .int .i64 0, .int .i64 0, .nilslice, .nilslice]) rfl rfl (by simp [one_int, x1, x2, x3])
    simp -implicitDefEqProofs (disch := first | assumption | decide | omega | (simp only [wpD1] <;> omega) | (simp only [wpD2] <;> assumption) | solve_by_elim [HSub.refl, HSub.push, HSub.reserve] | fail) only [↓wpPre, wpPost, wpPoly, Int.reduceToNat, Int.reducePow, Int.reduceMul, Int.reduceAdd, Int.reduceSub, Int.reduceNeg, Nat.reduceAdd, Nat.reduceMul, Nat.reducePow, Int.reduceLT, Int.reduceLE, Int.reduceEq, Nat.reduceEqDiff, sb, e1, e4, s21]
    refine ACallsK.eq (kO _ _ (by repeat (first | exact s12 | refine HSub.put ?_ (by (try simp only [Heap.size_put, Heap.size_push, Heap.size_reserve]); omega) _ | refine HSub.push ?_ _ | refine HSub.reserve ?_ _)) ?_) ?_
    · simp -implicitDefEqProofs (disch := first | assumption | decide | omega | (simp only [wpD1] <;> omega) | (simp only [wpD2] <;> assumption) | solve_by_elim [HSub.refl, HSub.push, HSub.reserve] | fail) only [↓wpPre, wpPost, wpPoly, Int.reduceToNat, Int.reducePow, Int.reduceMul, Int.reduceAdd, Int.reduceSub, Int.reduceNeg, Nat.reduceAdd, Nat.reduceMul, Nat.reducePow, Int.reduceLT, Int.reduceLE, Int.reduceEq, Nat.reduceEqDiff, ge2]
    simp -implicitDefEqProofs (disch := first | assumption | decide | omega | (simp only [wpD1] <;> omega) | (simp only [wpD2] <;> assumption) | solve_by_elim [HSub.refl, HSub.push, HSub.reserve] | fail) only [↓wpPre, wpPost, wpPoly, Int.reduceToNat, Int.reducePow, Int.reduceMul, Int.reduceAdd, Int.reduceSub, Int.reduceNeg, Nat.reduceAdd, Nat.reduceMul, Nat.reducePow, Int.reduceLT, Int.reduceLE, Int.reduceEq, Nat.reduceEqDiff]
    exact (by repeat (first | exact s12 | refine HSub.put ?_ (by (try simp only [Heap.size_put, Heap.size_push, Heap.size_reserve]); omega) _ | refine HSub.push ?_ _ | refine HSub.reserve ?_ _))
theorem loud254_spec (hC : Has C T254) {q : Int × Int} {p : PlanP} {vp : AV} {a : Nat} {h : Heap} (hnz : 0 ≤ p.nz ∧ p.nz ≤ 100000) (v1 : vp.one = true) (hg : h.get a = some (.cells [.int .i64 p.d, .int .i64 p.o, .int .i64 p.pb, .int .i64 p.w, .int .i64 p.mn, .int .i64 p.mx, .int .i64 p.nz, vp] true 0)) :
    ACalls C 254 ([smp q] ++ [.ptr a 0]) h (fun r h' => r = .bool (!decide (inS p.nz q)) ∧ h' = h) := by
  refine ACalls.gc0 (P := fun r h' => r = .bool (!decide (inS p.nz q)) ∧ HSub h h') ?_ (fun r h' hp => ⟨by rw [hp.1]; trivial, hp.2, hp.1, rfl⟩)
  have ha := Heap.lt_of_get hg
  obtain ⟨x, y⟩ := q
  unfold smp inS
  by_cases c1 : p.nz < max x y
  · (refine calls_intro (hC.body (by decide) tab254) (Nat.le_of_ble_eq_true rfl) ?_); (show wp C _ none B254.code _ _); (simp only [B254]); simp -implicitDefEqProofs (disch := first | assumption | decide | omega | (simp only [wpD1] <;> omega) | (simp only [wpD2] <;> assumption) | solve_by_elim [HSub.refl, HSub.push, HSub.reserve] | fail) only [↓wpPre, wpPost, wpPoly, Int.reduceToNat, Int.reducePow, Int.reduceMul, Int.reduceAdd, Int.reduceSub, Int.reduceNeg, Nat.reduceAdd, Nat.reduceMul, Nat.reducePow, Int.reduceLT, Int.reduceLE, Int.reduceEq, Nat.reduceEqDiff, hg, gV_u, c1]
    exact ⟨by congr 1; rw [eq_comm, Bool.not_eq_true']; apply decide_eq_false; omega, HSub.push1 _ _⟩
  · by_cases c2 : min x y < 0 - p.nz
    · (refine calls_intro (hC.body (by decide) tab254) (Nat.le_of_ble_eq_true rfl) ?_); (show wp C _ none B254.code _ _); (simp only [B254]); simp -implicitDefEqProofs (disch := first | assumption | decide | omega | (simp only [wpD1] <;> omega) | (simp only [wpD2] <;> assumption) | solve_by_elim [HSub.refl, HSub.push, HSub.reserve] | fail) only [↓wpPre, wpPost, wpPoly, Int.reduceToNat, Int.reducePow, Int.reduceMul, Int.reduceAdd, Int.reduceSub, Int.reduceNeg, Nat.reduceAdd, Nat.reduceMul, Nat.reducePow, Int.reduceLT, Int.reduceLE, Int.reduceEq, Nat.reduceEqDiff, hg, gV_u, c1, c2]
      exact ⟨by congr 1; rw [eq_comm, Bool.not_eq_true']; apply decide_eq_false; omega, HSub.push1 _ _⟩
    · (refine calls_intro (hC.body (by decide) tab254) (Nat.le_of_ble_eq_true rfl) ?_); (show wp C _ none B254.code _ _); (simp only [B254]); simp -implicitDefEqProofs (disch := first | assumption | decide | omega | (simp only [wpD1] <;> omega) | (simp only [wpD2] <;> assumption) | solve_by_elim [HSub.refl, HSub.push, HSub.reserve] | fail) only [↓wpPre, wpPost, wpPoly, Int.reduceToNat, Int.reducePow, Int.reduceMul, Int.reduceAdd, Int.reduceSub, Int.reduceNeg, Nat.reduceAdd, Nat.reduceMul, Nat.reducePow, Int.reduceLT, Int.reduceLE, Int.reduceEq, Nat.reduceEqDiff, hg, gV_u, c1, c2]
      exact ⟨by congr 1; rw [eq_comm, Bool.not_eq_false']; apply decide_eq_true; omega, HSub.push1 _ _⟩
set_option maxHeartbeats 2000000 in
set_option maxRecDepth 20000 in
theorem make_loud (hC : Has C T231) {vp wb : AV} {p : PlanP} {e : EmitP} {b nb : Nat} {h : Heap} (R : RI h vp p.prns) (h64 : p.ok64) (B : RI h wb e.bits) (h65 : e.ok64) (hm : madeErr p e 0 = 0) (hnz : 0 ≤ p.nz ∧ p.nz ≤ 5) (hg : h.get b = some (.cells [.int .i64 e.prn, .int .i64 e.dl, .int .i64 e.rt, .int .u32 e.st, .int .u32 e.ph, .int .i64 e.amp, .int .i64 e.ba, wb] true 0)) (hno : h.get nb = some (.cells [.int .i64 6, .int .i64 0] true 0)) :
    ACalls C 231 [plA p vp, .slice b 0 1 (.known 1), .slice nb 0 1 (.known 1), .int .i64 1] h (fun r h' => HSub h h' ∧ r = .tuple [.nilslice, .int .i64 2]) := by
  have v1 := R.one
  have w1 := B.one
  have hb := Heap.lt_of_get hg
  have ok := made_ok hm
  have hnb := Heap.lt_of_get hno
  have pz : p.err = 0 := by
    unfold madeErr emitErr at hm
    by_cases c : p.err = 0
    · exact c
    · rw [if_neg c, if_neg c] at hm; omega
  have kP := fun h1 (q : HSub h h1) => CheckPlan_spec (hC.sub (T' := T219) (by decide)) (v := plA p vp) (p := p) ⟨vp, rfl, R.mono q⟩ h64
  rw [pz] at kP
  have kM := fun h1 (q : HSub h h1) => made238_spec (hC.sub (T' := T238) (by decide)) (v := plA p vp) (w := emA e wb) (p := p) (e := e) (n := 0) ⟨vp, rfl, R.mono q⟩ ⟨wb, rfl, B.mono q⟩ h64 h65 (by unfold In64; omega)
  rw [hm] at kM
  have kN := fun b c o f h => none252_spec (hC.sub (T' := T252) (by decide)) (b := b) (c := c) (o := o) (f := f) (h := h)
  have s20 : ∀ h1, sliceA h1 8 (.slice b 0 1 (.known 1)) none (some (.int .i64 0)) none = some (.slice b 0 0 (.known 1)) := fun h1 => rfl
  unfold plA at kP kM
  unfold emA at kM
  unfold plA
  (refine calls_intro (hC.body (by decide) tab231) (Nat.le_of_ble_eq_true rfl) ?_); (show wp C _ none B231.code _ _); (simp only [B231]); simp -implicitDefEqProofs (disch := first | assumption | decide | omega | (simp only [wpD1] <;> omega) | (simp only [wpD2] <;> assumption) | solve_by_elim [HSub.refl, HSub.push, HSub.reserve] | fail) only [↓wpPre, wpPost, wpPoly, Int.reduceToNat, Int.reducePow, Int.reduceMul, Int.reduceAdd, Int.reduceSub, Int.reduceNeg, Nat.reduceAdd, Nat.reduceMul, Nat.reducePow, Int.reduceLT, Int.reduceLE, Int.reduceEq, Nat.reduceEqDiff]
  refine ACallsK.eq (kP _ (by repeat (first | exact HSub.refl h | refine HSub.put ?_ (by (try simp only [Heap.size_put, Heap.size_push, Heap.size_reserve]); omega) _ | refine HSub.push ?_ _ | refine HSub.reserve ?_ _))) ?_
  simp -implicitDefEqProofs (disch := first | assumption | decide | omega | (simp only [wpD1] <;> omega) | (simp only [wpD2] <;> assumption) | solve_by_elim [HSub.refl, HSub.push, HSub.reserve] | fail) only [↓wpPre, wpPost, wpPoly, Int.reduceToNat, Int.reducePow, Int.reduceMul, Int.reduceAdd, Int.reduceSub, Int.reduceNeg, Nat.reduceAdd, Nat.reduceMul, Nat.reducePow, Int.reduceLT, Int.reduceLE, Int.reduceEq, Nat.reduceEqDiff]
  refine wp_loopI (fun j t h' => HSub h h' ∧ h.size + 1 < h'.size ∧ h'.get (h.size + 1) = some (.cells [.int .i64 1] true 0) ∧ h'.get h.size = some (.cells [.int .i64 p.d, .int .i64 p.o, .int .i64 p.pb, .int .i64 p.w, .int .i64 p.mn, .int .i64 p.mx, .int .i64 p.nz, vp] true 0) ∧ t 2 = .slice nb 0 1 (.known 1) ∧ t 7 = .ptr (h.size + 1) 0 ∧ t 1 = .slice b 0 1 (.known 1) ∧ t 4 = .ptr h.size 0 ∧ t 31 = .slice b 0 1 (.known 1) ∧ t 32 = .int .i64 1 ∧ ((t 33 = .int .i64 0 ∧ t 11 = .nilslice ∧ j = 2) ∨ (t 33 = .int .i64 1 ∧ j = 1))) (j0 := 2)
    ⟨(by repeat (first | exact HSub.refl h | refine HSub.put ?_ (by (try simp only [Heap.size_put, Heap.size_push, Heap.size_reserve]); omega) _ | refine HSub.push ?_ _ | refine HSub.reserve ?_ _)), by simp, by simp -implicitDefEqProofs (disch := first | assumption | decide | omega | (simp only [wpD1] <;> omega) | (simp only [wpD2] <;> assumption) | solve_by_elim [HSub.refl, HSub.push, HSub.reserve] | fail) only [↓wpPre, wpPost, wpPoly, Int.reduceToNat, Int.reducePow, Int.reduceMul, Int.reduceAdd, Int.reduceSub, Int.reduceNeg, Nat.reduceAdd, Nat.reduceMul, Nat.reducePow, Int.reduceLT, Int.reduceLE, Int.reduceEq, Nat.reduceEqDiff], by simp -implicitDefEqProofs (disch := first | assumption | decide | omega | (simp only [wpD1] <;> omega) | (simp only [wpD2] <;> assumption) | solve_by_elim [HSub.refl, HSub.push, HSub.reserve] | fail) only [↓wpPre, wpPost, wpPoly, Int.reduceToNat, Int.reducePow, Int.reduceMul, Int.reduceAdd, Int.reduceSub, Int.reduceNeg, Nat.reduceAdd, Nat.reduceMul, Nat.reducePow, Int.reduceLT, Int.reduceLE, Int.reduceEq, Nat.reduceEqDiff], rfl, rfl, rfl, rfl, rfl, rfl, .inl ⟨rfl, rfl, rfl⟩⟩ ?_
  rintro j t h1 ⟨s1, hz, gm, gp, e2, e7, e1, e4, e31, e32, hor⟩
  have hg1 := (s1.get b hb).trans hg
  rcases hor with ⟨e33, e11, rfl⟩ | ⟨e33, rfl⟩
  · simp -implicitDefEqProofs (disch := first | assumption | decide | omega | (simp only [wpD1] <;> omega) | (simp only [wpD2] <;> assumption) | solve_by_elim [HSub.refl, HSub.push, HSub.reserve] | fail) only [↓wpPre, wpPost, wpPoly, Int.reduceToNat, Int.reducePow, Int.reduceMul, Int.reduceAdd, Int.reduceSub, Int.reduceNeg, Nat.reduceAdd, Nat.reduceMul, Nat.reducePow, Int.reduceLT, Int.reduceLE, Int.reduceEq, Nat.reduceEqDiff, e1, e4, e31, e32, e33, hg1, gp]
    refine ACallsK.of (kM _ (by repeat (first | exact s1 | refine HSub.put ?_ (by (try simp only [Heap.size_put, Heap.size_push, Heap.size_reserve]); omega) _ | refine HSub.push ?_ _ | refine HSub.reserve ?_ _))) ?_
    rintro r h2 ⟨s2, x, rfl, g0, g1⟩
    have g1 := g1 rfl
    obtain ⟨vp', vb', vc, q1, q2, rfl, R', B', W⟩ := g1
    have x1 := R'.one
    have x2 := B'.one
    have x3 := W.one
    have sz2 := s2.size
    simp only [Heap.size_push] at sz2
    have s12 := s1.trans ((HSub.push1 h1 (.cells [.int .i64 e.prn, .int .i64 e.dl, .int .i64 e.rt, .int .u32 e.st, .int .u32 e.ph, .int .i64 e.amp, .int .i64 e.ba, wb] true 0)).trans s2)
    have gp2 : h2.get h.size = some (.cells [.int .i64 p.d, .int .i64 p.o, .int .i64 p.pb, .int .i64 p.w, .int .i64 p.mn, .int .i64 p.mx, .int .i64 p.nz, vp] true 0) := (s2.get _ (by simp only [Heap.size_push]; omega)).trans (by simp -implicitDefEqProofs (disch := first | assumption | decide | omega | (simp only [wpD1] <;> omega) | (simp only [wpD2] <;> assumption) | solve_by_elim [HSub.refl, HSub.push, HSub.reserve] | fail) only [↓wpPre, wpPost, wpPoly, Int.reduceToNat, Int.reducePow, Int.reduceMul, Int.reduceAdd, Int.reduceSub, Int.reduceNeg, Nat.reduceAdd, Nat.reduceMul, Nat.reducePow, Int.reduceLT, Int.reduceLE, Int.reduceEq, Nat.reduceEqDiff, gp])
    have gm2 : h2.get (h.size + 1) = some (.cells [.int .i64 1] true 0) := (s2.get _ (by simp only [Heap.size_push]; omega)).trans (by simp -implicitDefEqProofs (disch := first | assumption | decide | omega | (simp only [wpD1] <;> omega) | (simp only [wpD2] <;> assumption) | solve_by_elim [HSub.refl, HSub.push, HSub.reserve] | fail) only [↓wpPre, wpPost, wpPoly, Int.reduceToNat, Int.reducePow, Int.reduceMul, Int.reduceAdd, Int.reduceSub, Int.reduceNeg, Nat.reduceAdd, Nat.reduceMul, Nat.reducePow, Int.reduceLT, Int.reduceLE, Int.reduceEq, Nat.reduceEqDiff, gm])
    have ge2 : h2.get h1.size = some (.cells [.int .i64 e.prn, .int .i64 e.dl, .int .i64 e.rt, .int .u32 e.st, .int .u32 e.ph, .int .i64 e.amp, .int .i64 e.ba, wb] true 0) := (s2.get _ (by simp)).trans (by simp -implicitDefEqProofs (disch := first | assumption | decide | omega | (simp only [wpD1] <;> omega) | (simp only [wpD2] <;> assumption) | solve_by_elim [HSub.refl, HSub.push, HSub.reserve] | fail) only [↓wpPre, wpPost, wpPoly, Int.reduceToNat, Int.reducePow, Int.reduceMul, Int.reduceAdd, Int.reduceSub, Int.reduceNeg, Nat.reduceAdd, Nat.reduceMul, Nat.reducePow, Int.reduceLT, Int.reduceLE, Int.reduceEq, Nat.reduceEqDiff])
    unfold srcA
    have sb := fun (H : Heap) (i : Nat) => storeB_full (H := H) (i := i) (n := 17) (x := .int .i64 e.prn) (y := .int .i64 e.dl) (xs := [.int .i64 e.rt, .int .u32 e.st, .int .u32 e.ph, .int .i64 e.amp, .int .i64 e.ba, vb', .int .i64 p.d, .int .i64 p.o, .int .i64 p.pb, .int .i64 p.w, .int .i64 p.mn, .int .i64 p.mx, .int .i64 p.nz, vp', vc]) (vs := [.int .i64 0, .int .i64 0, .int .i64 0, .int .u32 0, .int .u32 0, .int .i64 0, .int .i64 0, .nilslice, .int .i64 0, .int .i64 0, .int .i64 0, .int .i64 0, .int .i64 0, .int .i64 0, .int .i64 0, .nilslice, .nilslice]) rfl rfl (by simp [one_int, x1, x2, x3])
    have cb := fun wr u => contB_all (n := 17) (xs := [.int .i64 e.prn, .int .i64 e.dl, .int .i64 e.rt, .int .u32 e.st, .int .u32 e.ph, .int .i64 e.amp, .int .i64 e.ba, vb', .int .i64 p.d, .int .i64 p.o, .int .i64 p.pb, .int .i64 p.w, .int .i64 p.mn, .int .i64 p.mx, .int .i64 p.nz, vp', vc]) (wr := wr) (u := u) rfl
    have an := fun (H : Heap) (bts : Nat) (hb : 1 * bts ≤ 1099511627776) => app_nil (h := H) (sz := 17) (bytes := bts) (m := 1) (news := [.int .i64 e.prn, .int .i64 e.dl, .int .i64 e.rt, .int .u32 e.st, .int .u32 e.ph, .int .i64 e.amp, .int .i64 e.ba, vb', .int .i64 p.d, .int .i64 p.o, .int .i64 p.pb, .int .i64 p.w, .int .i64 p.mn, .int .i64 p.mx, .int .i64 p.nz, vp', vc]) (by decide) hb
    simp -implicitDefEqProofs (disch := first | assumption | decide | omega | (simp only [wpD1] <;> omega) | (simp only [wpD2] <;> assumption) | solve_by_elim [HSub.refl, HSub.push, HSub.reserve] | fail) only [↓wpPre, wpPost, wpPoly, Int.reduceToNat, Int.reducePow, Int.reduceMul, Int.reduceAdd, Int.reduceSub, Int.reduceNeg, Nat.reduceAdd, Nat.reduceMul, Nat.reducePow, Int.reduceLT, Int.reduceLE, Int.reduceEq, Nat.reduceEqDiff, sb, e1, e4, s20]
    refine ACallsK.eq (kN _ _ _ _ _) ?_
    simp -implicitDefEqProofs (disch := first | assumption | decide | omega | (simp only [wpD1] <;> omega) | (simp only [wpD2] <;> assumption) | solve_by_elim [HSub.refl, HSub.push, HSub.reserve] | fail) only [↓wpPre, wpPost, wpPoly, Int.reduceToNat, Int.reducePow, Int.reduceMul, Int.reduceAdd, Int.reduceSub, Int.reduceNeg, Nat.reduceAdd, Nat.reduceMul, Nat.reducePow, Int.reduceLT, Int.reduceLE, Int.reduceEq, Nat.reduceEqDiff, cont_slice, cb, an, e1, e2, e4, e7, e11, e31, e32, e33, gp2, gm2]
    exact ⟨1, ⟨(by repeat (first | exact s12 | refine HSub.put ?_ (by (try simp only [Heap.size_put, Heap.size_push, Heap.size_reserve]); omega) _ | refine HSub.push ?_ _ | refine HSub.reserve ?_ _)), by omega, .inr rfl⟩, by decide⟩
  · have qS := SI.known (h := h1) (l := [(6, 0)]) (wr := true) (u := 0) (m := 1) (c := 1) ((s1.get nb hnb).trans hno) ⟨rfl, by decide⟩ (Nat.le_refl _)
    have kG := containsG_spec (hC.sub (T' := T255) (by decide)) (g := 254) (cs := [.ptr h.size 0]) (P := fun q => inS p.nz q) (h := h1) (fun q => loud254_spec (hC.sub (T' := T254) (by decide)) ⟨hnz.1, by omega⟩ v1 gp) qS
    have nq : ¬ ∀ x ∈ [((6 : Int), (0 : Int))], inS p.nz x := fun q => by
      have := q (6, 0) (by simp)
      unfold inS at this
      omega
    rw [decide_eq_false nq] at kG
    simp -implicitDefEqProofs (disch := first | assumption | decide | omega | (simp only [wpD1] <;> omega) | (simp only [wpD2] <;> assumption) | solve_by_elim [HSub.refl, HSub.push, HSub.reserve] | fail) only [↓wpPre, wpPost, wpPoly, Int.reduceToNat, Int.reducePow, Int.reduceMul, Int.reduceAdd, Int.reduceSub, Int.reduceNeg, Nat.reduceAdd, Nat.reduceMul, Nat.reducePow, Int.reduceLT, Int.reduceLE, Int.reduceEq, Nat.reduceEqDiff, e1, e2, e4, e7, e31, e32, e33, gm]
    refine ACallsK.eq kG ?_
    simp -implicitDefEqProofs (disch := first | assumption | decide | omega | (simp only [wpD1] <;> omega) | (simp only [wpD2] <;> assumption) | solve_by_elim [HSub.refl, HSub.push, HSub.reserve] | fail) only [↓wpPre, wpPost, wpPoly, Int.reduceToNat, Int.reducePow, Int.reduceMul, Int.reduceAdd, Int.reduceSub, Int.reduceNeg, Nat.reduceAdd, Nat.reduceMul, Nat.reducePow, Int.reduceLT, Int.reduceLE, Int.reduceEq, Nat.reduceEqDiff]
    exact (by repeat (first | exact s1 | refine HSub.put ?_ (by (try simp only [Heap.size_put, Heap.size_push, Heap.size_reserve]); omega) _ | refine HSub.push ?_ _ | refine HSub.reserve ?_ _))
end
end Go.Ae
