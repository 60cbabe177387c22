/- Texts of the proof, part 11: a second reading of the lowered code, proved sound, and what the functions compute. -/
import Derived.Test.YtcfennjjkepgiaaP10

/- Chips that are read; the statement on them. -/
set_option linter.unusedSimpArgs false
set_option linter.unusedVariables false
namespace Go.Ae
def chipsBad (at0 rate many : Int) : Prop := at0 < -1099511627776 ∨ 1099511627776 < at0 ∨ rate < -1048576 ∨ 1048576 < rate ∨ many < 0 ∨ 100000 < many
instance (a r m : Int) : Decidable (chipsBad a r m) := by unfold chipsBad; infer_instance
def chipsErr (d p at0 rate many : Int) : Int := if codeErr d p = 0 then (if chipsBad at0 rate many then 2 else 0) else codeErr d p
/-- The chip that is read. -/
def chipI (d p at0 rate : Int) (i : Nat) : Int := (codeL d p).getD (((at0 + i * rate) / 65536) % lenN d).toNat 0
def chipsL (d p at0 rate : Int) (m : Nat) : List Int := (List.range m).map (chipI d p at0 rate)
theorem chipsL_length (d p a r : Int) (m : Nat) : (chipsL d p a r m).length = m := by simp [chipsL]
theorem chipsL_succ (d p a r : Int) (m : Nat) : chipsL d p a r (m + 1) = chipsL d p a r m ++ [chipI d p a r m] := by simp [chipsL, List.range_succ]
def chipsK (d p a r : Int) (m k : Nat) : List Int := chipsL d p a r k ++ List.replicate (m - k) 0
theorem chipsK_length {d p a r : Int} {m k : Nat} (h : k ≤ m) : (chipsK d p a r m k).length = m := by simp [chipsK, chipsL_length]; omega
theorem chipsK_set {d p a r : Int} {m k : Nat} (h : k < m) : (chipsK d p a r m k).set k (chipI d p a r k) = chipsK d p a r m (k + 1) := by
  unfold chipsK
  have hl := chipsL_length d p a r k
  rw [List.set_append_right _ _ (by omega), hl, Nat.sub_self, show m - k = m - (k + 1) + 1 by omega, List.replicate_succ, List.set_cons_zero, chipsL_succ, List.append_assoc]
  rfl
theorem tmod_fix {x n : Int} (hn : 1 ≤ n) : (x.tmod n + n) % n = x % n := by
  rw [Int.add_emod_right]
  have := Int.tmod_add_mul_tdiv x n
  conv => rhs; rw [← this, Int.add_mul_emod_self_left]
section
variable {C : Ctx}
set_option maxRecDepth 100000 in
set_option maxHeartbeats 2000000 in
theorem Chips_spec (hC : Has C T117) {d p a r m : Int} {h : Heap} (hd : In64 d) (hp : In64 p) (ha : In64 a) (hr : In64 r) (hm : In64 m) : ACalls C 117 [.int .i64 d, .int .i64 p, .int .i64 a, .int .i64 r, .int .i64 m] h (fun x h' => ∃ v, x = lstErr v (chipsErr d p a r m) ∧ HSub h h' ∧ RI h' v (if chipsErr d p a r m = 0 then chipsL d p a r m.toNat else [])) := by
  have hc := Code_spec (h := h) (hC.sub (T' := T76) (by decide)) hd hp
  have pe : chipsErr d p a r m = if codeErr d p = 0 then (if chipsBad a r m then 2 else 0) else codeErr d p := rfl
  unfold In64 at ha hr hm
  by_cases c : codeErr d p = 0
  · rw [if_pos c] at pe
    rw [c, if_pos rfl] at hc
    have hlen : lenOk d = true := by
      unfold codeErr at c
      split at c
      · rename_i h; exact h.1
      · cases c
    have hN := lenN_eq hlen
    have cl := codeL_length d p
    by_cases cb : chipsBad a r m
    · rw [if_pos cb] at pe
      rw [pe, if_neg (by decide)]
      unfold chipsBad at cb
      (refine calls_intro (hC.body (by decide) tab117) (Nat.le_of_ble_eq_true rfl) ?_); (show wp C _ none B117.code _ _); (simp only [B117]); simp -implicitDefEqProofs (disch := first | assumption | decide | omega | (simp -implicitDefEqProofs only [wpD1] <;> omega) | (refine not_in_one ?_; first | omega | (simp -implicitDefEqProofs only [wpD1] <;> omega) | fail) | (simp -implicitDefEqProofs only [wpD2] <;> assumption) | ((repeat (first | exact HSub.refl _ | assumption | refine HSub.push ?_ _ | refine HSub.reserve ?_ _ | refine HSub.put ?_ (by omega) _)); done) | fail) only [↓wpPre, wpPost, wpPoly, Int.reduceToNat, Int.reducePow, Int.reduceMul, Int.reduceAdd, Int.reduceSub, Int.reduceNeg, Nat.reduceAdd, Nat.reduceMul, Nat.reducePow, Int.reduceLT, Int.reduceLE, Int.reduceEq, Nat.reduceEqDiff]
      refine ACallsK.of hc ?_
      rintro x h1 ⟨v1, rfl, s1, R1, _⟩
      simp -implicitDefEqProofs (disch := first | assumption | decide | omega | (simp -implicitDefEqProofs only [wpD1] <;> omega) | (refine not_in_one ?_; first | omega | (simp -implicitDefEqProofs only [wpD1] <;> omega) | fail) | (simp -implicitDefEqProofs only [wpD2] <;> assumption) | ((repeat (first | exact HSub.refl _ | assumption | refine HSub.push ?_ _ | refine HSub.reserve ?_ _ | refine HSub.put ?_ (by omega) _)); done) | fail) only [↓wpPre, wpPost, wpPoly, Int.reduceToNat, Int.reducePow, Int.reduceMul, Int.reduceAdd, Int.reduceSub, Int.reduceNeg, Nat.reduceAdd, Nat.reduceMul, Nat.reducePow, Int.reduceLT, Int.reduceLE, Int.reduceEq, Nat.reduceEqDiff, lstErr]
      (repeat' (first | (refine Br.by (fun _ => ?_) (fun _ => ?_)) | (simp -implicitDefEqProofs (disch := first | assumption | decide | omega | (simp -implicitDefEqProofs only [wpD1] <;> omega) | (refine not_in_one ?_; first | omega | (simp -implicitDefEqProofs only [wpD1] <;> omega) | fail) | (simp -implicitDefEqProofs only [wpD2] <;> assumption) | ((repeat (first | exact HSub.refl _ | assumption | refine HSub.push ?_ _ | refine HSub.reserve ?_ _ | refine HSub.put ?_ (by omega) _)); done) | fail) only [↓wpPre, wpPost, wpPoly, Int.reduceToNat, Int.reducePow, Int.reduceMul, Int.reduceAdd, Int.reduceSub, Int.reduceNeg, Nat.reduceAdd, Nat.reduceMul, Nat.reducePow, Int.reduceLT, Int.reduceLE, Int.reduceEq, Nat.reduceEqDiff])))
      all_goals first | exact ⟨_, rfl, s1, RI.nil⟩ | (exfalso; omega)
    · rw [if_neg cb] at pe
      rw [pe, if_pos rfl]
      unfold chipsBad at cb
      obtain ⟨q, rfl⟩ := Int.eq_ofNat_of_zero_le (show 0 ≤ m by omega)
      rw [Int.toNat_natCast]
      (refine calls_intro (hC.body (by decide) tab117) (Nat.le_of_ble_eq_true rfl) ?_); (show wp C _ none B117.code _ _); (simp only [B117]); simp -implicitDefEqProofs (disch := first | assumption | decide | omega | (simp -implicitDefEqProofs only [wpD1] <;> omega) | (refine not_in_one ?_; first | omega | (simp -implicitDefEqProofs only [wpD1] <;> omega) | fail) | (simp -implicitDefEqProofs only [wpD2] <;> assumption) | ((repeat (first | exact HSub.refl _ | assumption | refine HSub.push ?_ _ | refine HSub.reserve ?_ _ | refine HSub.put ?_ (by omega) _)); done) | fail) only [↓wpPre, wpPost, wpPoly, Int.reduceToNat, Int.reducePow, Int.reduceMul, Int.reduceAdd, Int.reduceSub, Int.reduceNeg, Nat.reduceAdd, Nat.reduceMul, Nat.reducePow, Int.reduceLT, Int.reduceLE, Int.reduceEq, Nat.reduceEqDiff]
      refine ACallsK.of hc ?_
      rintro x h1 ⟨v1, rfl, s1, R1, _⟩
      simp -implicitDefEqProofs (disch := first | assumption | decide | omega | (simp -implicitDefEqProofs only [wpD1] <;> omega) | (refine not_in_one ?_; first | omega | (simp -implicitDefEqProofs only [wpD1] <;> omega) | fail) | (simp -implicitDefEqProofs only [wpD2] <;> assumption) | ((repeat (first | exact HSub.refl _ | assumption | refine HSub.push ?_ _ | refine HSub.reserve ?_ _ | refine HSub.put ?_ (by omega) _)); done) | fail) only [↓wpPre, wpPost, wpPoly, Int.reduceToNat, Int.reducePow, Int.reduceMul, Int.reduceAdd, Int.reduceSub, Int.reduceNeg, Nat.reduceAdd, Nat.reduceMul, Nat.reducePow, Int.reduceLT, Int.reduceLE, Int.reduceEq, Nat.reduceEqDiff, lstErr, R1.len, cl, ints_replicate]
      refine wp_loopI (fun j t h' => ∃ k : Nat, h' = h1.push (.cells (ints (chipsK d p a r q k)) true 0) ∧ t 2 = .int .i64 (a + k * r) ∧ t 3 = .int .i64 r ∧ t 12 = v1 ∧ t 14 = .int .i64 (lenN d) ∧ t 15 = .slice h1.size 0 q (.known q) ∧ t 45 = .int .i64 (q : Nat) ∧ t 46 = .int .i64 (k : Nat) ∧ k ≤ q ∧ j = q - k) (j0 := q)
        ⟨0, by simp [chipsK, chipsL], by simp [upd, argT], rfl, rfl, rfl, rfl, rfl, rfl, by omega, rfl⟩ ?_
      rintro j t h2 ⟨k, rfl, e2, e3, e12, e14, e15, e45, e46, hk, hj⟩
      have hlK := chipsK_length (d := d) (p := p) (a := a) (r := r) hk
      simp -implicitDefEqProofs (disch := first | assumption | decide | omega | (simp -implicitDefEqProofs only [wpD1] <;> omega) | (refine not_in_one ?_; first | omega | (simp -implicitDefEqProofs only [wpD1] <;> omega) | fail) | (simp -implicitDefEqProofs only [wpD2] <;> assumption) | ((repeat (first | exact HSub.refl _ | assumption | refine HSub.push ?_ _ | refine HSub.reserve ?_ _ | refine HSub.put ?_ (by omega) _)); done) | fail) only [↓wpPre, wpPost, wpPoly, Int.reduceToNat, Int.reducePow, Int.reduceMul, Int.reduceAdd, Int.reduceSub, Int.reduceNeg, Nat.reduceAdd, Nat.reduceMul, Nat.reducePow, Int.reduceLT, Int.reduceLE, Int.reduceEq, Nat.reduceEqDiff, e45, e46]
      refine Br.by (fun c1 => ?_) (fun c1 => ?_)
      · have hk' : k < q := by omega
        have b1 : -(100000 * 1048576) ≤ (k : Int) * r ∧ (k : Int) * r ≤ 100000 * 1048576 := by
          have h1 : (k : Int) * r ≤ k * 1048576 := Int.mul_le_mul_of_nonneg_left (by omega) (by omega)
          have h2 : (k : Int) * (-1048576) ≤ k * r := Int.mul_le_mul_of_nonneg_left (by omega) (by omega)
          constructor <;> omega
        have hst := chipsK_set (d := d) (p := p) (a := a) (r := r) hk'
        unfold chipI at hst
        have tf := tmod_fix (x := (a + k * r) / 65536) (n := lenN d) (by omega)
        have n1 := Int.emod_nonneg ((a + k * r) / 65536) (show ((lenN d : Nat) : Int) ≠ 0 by omega)
        have n2 := Int.emod_lt_of_pos ((a + k * r) / 65536) (show (0 : Int) < lenN d by omega)
        have tm1 := Int.tmod_lt_of_pos ((a + k * r) / 65536) (show (0 : Int) < lenN d by omega)
        have tm2 := Int.lt_tmod_of_pos ((a + k * r) / 65536) (show (0 : Int) < lenN d by omega)
        simp -implicitDefEqProofs (disch := first | assumption | decide | omega | (simp -implicitDefEqProofs only [wpD1] <;> omega) | (refine not_in_one ?_; first | omega | (simp -implicitDefEqProofs only [wpD1] <;> omega) | fail) | (simp -implicitDefEqProofs only [wpD2] <;> assumption) | ((repeat (first | exact HSub.refl _ | assumption | refine HSub.push ?_ _ | refine HSub.reserve ?_ _ | refine HSub.put ?_ (by omega) _)); done) | fail) only [↓wpPre, wpPost, wpPoly, Int.reduceToNat, Int.reducePow, Int.reduceMul, Int.reduceAdd, Int.reduceSub, Int.reduceNeg, Nat.reduceAdd, Nat.reduceMul, Nat.reducePow, Int.reduceLT, Int.reduceLE, Int.reduceEq, Nat.reduceEqDiff, e2, e3, e12, e14, e15, e45, e46, R1.idx, R1.loadC]
        rw [tf, hst]
        exact ⟨_, ⟨k + 1, rfl, by rw [Int.natCast_add, Int.add_mul]; simp; omega, by simp, by omega, rfl⟩, by omega⟩
      · have ek : k = q := by omega
        have cf : chipsK d p a r q k = chipsL d p a r q := by rw [ek]; simp [chipsK]
        have ll := chipsL_length d p a r q
        simp -implicitDefEqProofs (disch := first | assumption | decide | omega | (simp -implicitDefEqProofs only [wpD1] <;> omega) | (refine not_in_one ?_; first | omega | (simp -implicitDefEqProofs only [wpD1] <;> omega) | fail) | (simp -implicitDefEqProofs only [wpD2] <;> assumption) | ((repeat (first | exact HSub.refl _ | assumption | refine HSub.push ?_ _ | refine HSub.reserve ?_ _ | refine HSub.put ?_ (by omega) _)); done) | fail) only [↓wpPre, wpPost, wpPoly, Int.reduceToNat, Int.reducePow, Int.reduceMul, Int.reduceAdd, Int.reduceSub, Int.reduceNeg, Nat.reduceAdd, Nat.reduceMul, Nat.reducePow, Int.reduceLT, Int.reduceLE, Int.reduceEq, Nat.reduceEqDiff, e15]
        exact ⟨_, rfl, s1.push _, by rw [cf]; exact RI.known (get_push_eq rfl) ⟨by rw [ll], by omega⟩ (by omega)⟩
  · rw [if_neg c] at pe
    rw [if_neg c] at hc
    have c2 : codeErr d p = 2 := by unfold codeErr at c ⊢; split at c <;> first | exact absurd rfl c | (rename_i h; rw [if_neg h])
    rw [pe, c2, if_neg (by decide)]
    rw [c2] at hc
    (refine calls_intro (hC.body (by decide) tab117) (Nat.le_of_ble_eq_true rfl) ?_); (show wp C _ none B117.code _ _); (simp only [B117]); simp -implicitDefEqProofs (disch := first | assumption | decide | omega | (simp -implicitDefEqProofs only [wpD1] <;> omega) | (refine not_in_one ?_; first | omega | (simp -implicitDefEqProofs only [wpD1] <;> omega) | fail) | (simp -implicitDefEqProofs only [wpD2] <;> assumption) | ((repeat (first | exact HSub.refl _ | assumption | refine HSub.push ?_ _ | refine HSub.reserve ?_ _ | refine HSub.put ?_ (by omega) _)); done) | fail) only [↓wpPre, wpPost, wpPoly, Int.reduceToNat, Int.reducePow, Int.reduceMul, Int.reduceAdd, Int.reduceSub, Int.reduceNeg, Nat.reduceAdd, Nat.reduceMul, Nat.reducePow, Int.reduceLT, Int.reduceLE, Int.reduceEq, Nat.reduceEqDiff]
    refine ACallsK.of hc ?_
    rintro x h1 ⟨v1, rfl, s1, R1, _⟩
    simp -implicitDefEqProofs (disch := first | assumption | decide | omega | (simp -implicitDefEqProofs only [wpD1] <;> omega) | (refine not_in_one ?_; first | omega | (simp -implicitDefEqProofs only [wpD1] <;> omega) | fail) | (simp -implicitDefEqProofs only [wpD2] <;> assumption) | ((repeat (first | exact HSub.refl _ | assumption | refine HSub.push ?_ _ | refine HSub.reserve ?_ _ | refine HSub.put ?_ (by omega) _)); done) | fail) only [↓wpPre, wpPost, wpPoly, Int.reduceToNat, Int.reducePow, Int.reduceMul, Int.reduceAdd, Int.reduceSub, Int.reduceNeg, Nat.reduceAdd, Nat.reduceMul, Nat.reducePow, Int.reduceLT, Int.reduceLE, Int.reduceEq, Nat.reduceEqDiff, lstErr]
    exact ⟨_, rfl, s1, RI.nil⟩
set_option maxRecDepth 100000 in
set_option maxHeartbeats 2000000 in
theorem ChipsR_spec (hC : Has C T118) {d p a r m : Int} {h : Heap} (hd : In64 d) (hp : In64 p) (ha : In64 a) (hr : In64 r) (hm : In64 m) : ACalls C 118 [.int .i64 d, .int .i64 p, .int .i64 a, .int .i64 r, .int .i64 m] h (fun x h' => ∃ v, x = lstErr v (chipsErr d p a r m) ∧ HSub h h' ∧ RI h' v (if chipsErr d p a r m = 0 then chipsL d p a r m.toNat else [])) := by
  have hc := Code08_spec (h := h) (hC.sub (T' := T77) (by decide)) hd hp
  have pe : chipsErr d p a r m = if codeErr d p = 0 then (if chipsBad a r m then 2 else 0) else codeErr d p := rfl
  unfold In64 at ha hr hm
  by_cases c : codeErr d p = 0
  · rw [if_pos c] at pe
    rw [c, if_pos rfl] at hc
    have hlen : lenOk d = true := by
      unfold codeErr at c
      split at c
      · rename_i h; exact h.1
      · cases c
    have hN := lenN_eq hlen
    have cl := codeL_length d p
    by_cases cb : chipsBad a r m
    · rw [if_pos cb] at pe
      rw [pe, if_neg (by decide)]
      unfold chipsBad at cb
      (refine calls_intro (hC.body (by decide) tab118) (Nat.le_of_ble_eq_true rfl) ?_); (show wp C _ none B118.code _ _); (simp only [B118]); simp -implicitDefEqProofs (disch := first | assumption | decide | omega | (simp -implicitDefEqProofs only [wpD1] <;> omega) | (refine not_in_one ?_; first | omega | (simp -implicitDefEqProofs only [wpD1] <;> omega) | fail) | (simp -implicitDefEqProofs only [wpD2] <;> assumption) | ((repeat (first | exact HSub.refl _ | assumption | refine HSub.push ?_ _ | refine HSub.reserve ?_ _ | refine HSub.put ?_ (by omega) _)); done) | fail) only [↓wpPre, wpPost, wpPoly, Int.reduceToNat, Int.reducePow, Int.reduceMul, Int.reduceAdd, Int.reduceSub, Int.reduceNeg, Nat.reduceAdd, Nat.reduceMul, Nat.reducePow, Int.reduceLT, Int.reduceLE, Int.reduceEq, Nat.reduceEqDiff]
      refine ACallsK.of hc ?_
      rintro x h1 ⟨v1, rfl, s1, R1⟩
      simp -implicitDefEqProofs (disch := first | assumption | decide | omega | (simp -implicitDefEqProofs only [wpD1] <;> omega) | (refine not_in_one ?_; first | omega | (simp -implicitDefEqProofs only [wpD1] <;> omega) | fail) | (simp -implicitDefEqProofs only [wpD2] <;> assumption) | ((repeat (first | exact HSub.refl _ | assumption | refine HSub.push ?_ _ | refine HSub.reserve ?_ _ | refine HSub.put ?_ (by omega) _)); done) | fail) only [↓wpPre, wpPost, wpPoly, Int.reduceToNat, Int.reducePow, Int.reduceMul, Int.reduceAdd, Int.reduceSub, Int.reduceNeg, Nat.reduceAdd, Nat.reduceMul, Nat.reducePow, Int.reduceLT, Int.reduceLE, Int.reduceEq, Nat.reduceEqDiff, lstErr]
      (repeat' (first | (refine Br.by (fun _ => ?_) (fun _ => ?_)) | (simp -implicitDefEqProofs (disch := first | assumption | decide | omega | (simp -implicitDefEqProofs only [wpD1] <;> omega) | (refine not_in_one ?_; first | omega | (simp -implicitDefEqProofs only [wpD1] <;> omega) | fail) | (simp -implicitDefEqProofs only [wpD2] <;> assumption) | ((repeat (first | exact HSub.refl _ | assumption | refine HSub.push ?_ _ | refine HSub.reserve ?_ _ | refine HSub.put ?_ (by omega) _)); done) | fail) only [↓wpPre, wpPost, wpPoly, Int.reduceToNat, Int.reducePow, Int.reduceMul, Int.reduceAdd, Int.reduceSub, Int.reduceNeg, Nat.reduceAdd, Nat.reduceMul, Nat.reducePow, Int.reduceLT, Int.reduceLE, Int.reduceEq, Nat.reduceEqDiff])))
      all_goals first | exact ⟨_, rfl, s1, RI.nil⟩ | (exfalso; omega)
    · rw [if_neg cb] at pe
      rw [pe, if_pos rfl]
      unfold chipsBad at cb
      obtain ⟨q, rfl⟩ := Int.eq_ofNat_of_zero_le (show 0 ≤ m by omega)
      rw [Int.toNat_natCast]
      (refine calls_intro (hC.body (by decide) tab118) (Nat.le_of_ble_eq_true rfl) ?_); (show wp C _ none B118.code _ _); (simp only [B118]); simp -implicitDefEqProofs (disch := first | assumption | decide | omega | (simp -implicitDefEqProofs only [wpD1] <;> omega) | (refine not_in_one ?_; first | omega | (simp -implicitDefEqProofs only [wpD1] <;> omega) | fail) | (simp -implicitDefEqProofs only [wpD2] <;> assumption) | ((repeat (first | exact HSub.refl _ | assumption | refine HSub.push ?_ _ | refine HSub.reserve ?_ _ | refine HSub.put ?_ (by omega) _)); done) | fail) only [↓wpPre, wpPost, wpPoly, Int.reduceToNat, Int.reducePow, Int.reduceMul, Int.reduceAdd, Int.reduceSub, Int.reduceNeg, Nat.reduceAdd, Nat.reduceMul, Nat.reducePow, Int.reduceLT, Int.reduceLE, Int.reduceEq, Nat.reduceEqDiff]
      refine ACallsK.of hc ?_
      rintro x h1 ⟨v1, rfl, s1, R1⟩
      simp -implicitDefEqProofs (disch := first | assumption | decide | omega | (simp -implicitDefEqProofs only [wpD1] <;> omega) | (refine not_in_one ?_; first | omega | (simp -implicitDefEqProofs only [wpD1] <;> omega) | fail) | (simp -implicitDefEqProofs only [wpD2] <;> assumption) | ((repeat (first | exact HSub.refl _ | assumption | refine HSub.push ?_ _ | refine HSub.reserve ?_ _ | refine HSub.put ?_ (by omega) _)); done) | fail) only [↓wpPre, wpPost, wpPoly, Int.reduceToNat, Int.reducePow, Int.reduceMul, Int.reduceAdd, Int.reduceSub, Int.reduceNeg, Nat.reduceAdd, Nat.reduceMul, Nat.reducePow, Int.reduceLT, Int.reduceLE, Int.reduceEq, Nat.reduceEqDiff, lstErr]
      refine wp_loopI (fun j t h' => ∃ k : Nat, GrwI h1 h' (t 14) (chipsL d p a r k) ∧ t 2 = .int .i64 a ∧ t 3 = .int .i64 r ∧ t 4 = .int .i64 (q : Nat) ∧ t 12 = v1 ∧ t 15 = .int .i64 (k : Nat) ∧ k ≤ q ∧ j = q - k) (j0 := q)
        ⟨0, GrwI.nil _, rfl, rfl, rfl, rfl, rfl, by omega, rfl⟩ ?_
      rintro j t h2 ⟨k, A, e2, e3, e4, e12, e15, hk, hj⟩
      simp -implicitDefEqProofs (disch := first | assumption | decide | omega | (simp -implicitDefEqProofs only [wpD1] <;> omega) | (refine not_in_one ?_; first | omega | (simp -implicitDefEqProofs only [wpD1] <;> omega) | fail) | (simp -implicitDefEqProofs only [wpD2] <;> assumption) | ((repeat (first | exact HSub.refl _ | assumption | refine HSub.push ?_ _ | refine HSub.reserve ?_ _ | refine HSub.put ?_ (by omega) _)); done) | fail) only [↓wpPre, wpPost, wpPoly, Int.reduceToNat, Int.reducePow, Int.reduceMul, Int.reduceAdd, Int.reduceSub, Int.reduceNeg, Nat.reduceAdd, Nat.reduceMul, Nat.reducePow, Int.reduceLT, Int.reduceLE, Int.reduceEq, Nat.reduceEqDiff, e4, e15]
      refine Br.by (fun c1 => ?_) (fun c1 => ?_)
      · have hk' : k < q := by omega
        have b1 : -(100000 * 1048576) ≤ (k : Int) * r ∧ (k : Int) * r ≤ 100000 * 1048576 := by
          have h1 : (k : Int) * r ≤ k * 1048576 := Int.mul_le_mul_of_nonneg_left (by omega) (by omega)
          have h2 : (k : Int) * (-1048576) ≤ k * r := Int.mul_le_mul_of_nonneg_left (by omega) (by omega)
          constructor <;> omega
        have hsucc := chipsL_succ d p a r k
        have hlen := chipsL_length d p a r k
        have em := emod_of_tmod (x := (a + k * r) / 65536) (n := lenN d) (by omega)
        have n1 := Int.emod_nonneg ((a + k * r) / 65536) (show ((lenN d : Nat) : Int) ≠ 0 by omega)
        have n2 := Int.emod_lt_of_pos ((a + k * r) / 65536) (show (0 : Int) < lenN d by omega)
        have tm1 := Int.tmod_lt_of_pos ((a + k * r) / 65536) (show (0 : Int) < lenN d by omega)
        have tm2 := Int.lt_tmod_of_pos ((a + k * r) / 65536) (show (0 : Int) < lenN d by omega)
        have R2 := R1.mono A.sub
        have hch : chipI d p a r k = (codeL d p).getD (((a + k * r) / 65536) % lenN d).toNat 0 := rfl
        have A2 := A.snoc (x := chipI d p a r k) (HSub.push1 h2 (.cells [.int .i64 (chipI d p a r k)] true 0)) (by omega)
        rw [← hsucc, hlen] at A2
        by_cases cn : ((a + k * r) / 65536).tmod (lenN d) < 0
        · rw [if_pos cn] at em
          rw [em] at hch
          simp -implicitDefEqProofs (disch := first | assumption | decide | omega | (simp -implicitDefEqProofs only [wpD1] <;> omega) | (refine not_in_one ?_; first | omega | (simp -implicitDefEqProofs only [wpD1] <;> omega) | fail) | (simp -implicitDefEqProofs only [wpD2] <;> assumption) | ((repeat (first | exact HSub.refl _ | assumption | refine HSub.push ?_ _ | refine HSub.reserve ?_ _ | refine HSub.put ?_ (by omega) _)); done) | fail) only [↓wpPre, wpPost, wpPoly, Int.reduceToNat, Int.reducePow, Int.reduceMul, Int.reduceAdd, Int.reduceSub, Int.reduceNeg, Nat.reduceAdd, Nat.reduceMul, Nat.reducePow, Int.reduceLT, Int.reduceLE, Int.reduceEq, Nat.reduceEqDiff, e2, e3, e4, e12, e15, R2.len, cl, R2.idx, R2.load, cont_slice, contB_one, A.app, hlen, ← hch, ← hsucc]
          exact ⟨_, ⟨k + 1, A2, by simp, by omega, rfl⟩, by omega⟩
        · rw [if_neg cn] at em
          rw [em] at hch
          simp -implicitDefEqProofs (disch := first | assumption | decide | omega | (simp -implicitDefEqProofs only [wpD1] <;> omega) | (refine not_in_one ?_; first | omega | (simp -implicitDefEqProofs only [wpD1] <;> omega) | fail) | (simp -implicitDefEqProofs only [wpD2] <;> assumption) | ((repeat (first | exact HSub.refl _ | assumption | refine HSub.push ?_ _ | refine HSub.reserve ?_ _ | refine HSub.put ?_ (by omega) _)); done) | fail) only [↓wpPre, wpPost, wpPoly, Int.reduceToNat, Int.reducePow, Int.reduceMul, Int.reduceAdd, Int.reduceSub, Int.reduceNeg, Nat.reduceAdd, Nat.reduceMul, Nat.reducePow, Int.reduceLT, Int.reduceLE, Int.reduceEq, Nat.reduceEqDiff, e2, e3, e4, e12, e15, R2.len, cl, R2.idx, R2.load, cont_slice, contB_one, A.app, hlen, ← hch, ← hsucc]
          exact ⟨_, ⟨k + 1, A2, by simp, by omega, rfl⟩, by omega⟩
      · have ek : k = q := by omega
        rw [ek] at A
        simp -implicitDefEqProofs (disch := first | assumption | decide | omega | (simp -implicitDefEqProofs only [wpD1] <;> omega) | (refine not_in_one ?_; first | omega | (simp -implicitDefEqProofs only [wpD1] <;> omega) | fail) | (simp -implicitDefEqProofs only [wpD2] <;> assumption) | ((repeat (first | exact HSub.refl _ | assumption | refine HSub.push ?_ _ | refine HSub.reserve ?_ _ | refine HSub.put ?_ (by omega) _)); done) | fail) only [↓wpPre, wpPost, wpPoly, Int.reduceToNat, Int.reducePow, Int.reduceMul, Int.reduceAdd, Int.reduceSub, Int.reduceNeg, Nat.reduceAdd, Nat.reduceMul, Nat.reducePow, Int.reduceLT, Int.reduceLE, Int.reduceEq, Nat.reduceEqDiff]
        exact ⟨_, rfl, s1.trans A.sub, A.ri⟩
  · rw [if_neg c] at pe
    rw [if_neg c] at hc
    have c2 : codeErr d p = 2 := by unfold codeErr at c ⊢; split at c <;> first | exact absurd rfl c | (rename_i h; rw [if_neg h])
    rw [pe, c2, if_neg (by decide)]
    rw [c2] at hc
    (refine calls_intro (hC.body (by decide) tab118) (Nat.le_of_ble_eq_true rfl) ?_); (show wp C _ none B118.code _ _); (simp only [B118]); simp -implicitDefEqProofs (disch := first | assumption | decide | omega | (simp -implicitDefEqProofs only [wpD1] <;> omega) | (refine not_in_one ?_; first | omega | (simp -implicitDefEqProofs only [wpD1] <;> omega) | fail) | (simp -implicitDefEqProofs only [wpD2] <;> assumption) | ((repeat (first | exact HSub.refl _ | assumption | refine HSub.push ?_ _ | refine HSub.reserve ?_ _ | refine HSub.put ?_ (by omega) _)); done) | fail) only [↓wpPre, wpPost, wpPoly, Int.reduceToNat, Int.reducePow, Int.reduceMul, Int.reduceAdd, Int.reduceSub, Int.reduceNeg, Nat.reduceAdd, Nat.reduceMul, Nat.reducePow, Int.reduceLT, Int.reduceLE, Int.reduceEq, Nat.reduceEqDiff]
    refine ACallsK.of hc ?_
    rintro x h1 ⟨v1, rfl, s1, R1⟩
    simp -implicitDefEqProofs (disch := first | assumption | decide | omega | (simp -implicitDefEqProofs only [wpD1] <;> omega) | (refine not_in_one ?_; first | omega | (simp -implicitDefEqProofs only [wpD1] <;> omega) | fail) | (simp -implicitDefEqProofs only [wpD2] <;> assumption) | ((repeat (first | exact HSub.refl _ | assumption | refine HSub.push ?_ _ | refine HSub.reserve ?_ _ | refine HSub.put ?_ (by omega) _)); done) | fail) only [↓wpPre, wpPost, wpPoly, Int.reduceToNat, Int.reducePow, Int.reduceMul, Int.reduceAdd, Int.reduceSub, Int.reduceNeg, Nat.reduceAdd, Nat.reduceMul, Nat.reducePow, Int.reduceLT, Int.reduceLE, Int.reduceEq, Nat.reduceEqDiff, lstErr]
    exact ⟨_, rfl, s1, RI.nil⟩
theorem NcoChips_law (hC : Has C T107) {d p a r m : Int} {h : Heap} (hd : In64 d) (hp : In64 p) (ha : In64 a) (hr : In64 r) (hm : In64 m) : ACalls C 107 [.int .i64 d, .int .i64 p, .int .i64 a, .int .i64 r, .int .i64 m] h (fun r _ => r = .bool true) := by
  have hm' := hm
  unfold In64 at hm'
  by_cases c : 300 < m ∧ m ≤ 100000
  · (refine calls_intro (hC.body (by decide) tab107) (Nat.le_of_ble_eq_true rfl) ?_); (show wp C _ none B107.code _ _); (simp only [B107]); simp -implicitDefEqProofs (disch := first | assumption | decide | omega | (simp -implicitDefEqProofs only [wpD1] <;> omega) | (refine not_in_one ?_; first | omega | (simp -implicitDefEqProofs only [wpD1] <;> omega) | fail) | (simp -implicitDefEqProofs only [wpD2] <;> assumption) | ((repeat (first | exact HSub.refl _ | assumption | refine HSub.push ?_ _ | refine HSub.reserve ?_ _ | refine HSub.put ?_ (by omega) _)); done) | fail) only [↓wpPre, wpPost, wpPoly, Int.reduceToNat, Int.reducePow, Int.reduceMul, Int.reduceAdd, Int.reduceSub, Int.reduceNeg, Nat.reduceAdd, Nat.reduceMul, Nat.reducePow, Int.reduceLT, Int.reduceLE, Int.reduceEq, Nat.reduceEqDiff]
    refine ACallsK.eq (awake11_spec (hC.sub (T' := T116) (by decide))) ?_
    simp -implicitDefEqProofs (disch := first | assumption | decide | omega | (simp -implicitDefEqProofs only [wpD1] <;> omega) | (refine not_in_one ?_; first | omega | (simp -implicitDefEqProofs only [wpD1] <;> omega) | fail) | (simp -implicitDefEqProofs only [wpD2] <;> assumption) | ((repeat (first | exact HSub.refl _ | assumption | refine HSub.push ?_ _ | refine HSub.reserve ?_ _ | refine HSub.put ?_ (by omega) _)); done) | fail) only [↓wpPre, wpPost, wpPoly, Int.reduceToNat, Int.reducePow, Int.reduceMul, Int.reduceAdd, Int.reduceSub, Int.reduceNeg, Nat.reduceAdd, Nat.reduceMul, Nat.reducePow, Int.reduceLT, Int.reduceLE, Int.reduceEq, Nat.reduceEqDiff]
  have key : m ≤ 300 ∨ 100000 < m := by omega
  rcases key with k1 | k1
  · (refine calls_intro (hC.body (by decide) tab107) (Nat.le_of_ble_eq_true rfl) ?_); (show wp C _ none B107.code _ _); (simp only [B107]); simp -implicitDefEqProofs (disch := first | assumption | decide | omega | (simp -implicitDefEqProofs only [wpD1] <;> omega) | (refine not_in_one ?_; first | omega | (simp -implicitDefEqProofs only [wpD1] <;> omega) | fail) | (simp -implicitDefEqProofs only [wpD2] <;> assumption) | ((repeat (first | exact HSub.refl _ | assumption | refine HSub.push ?_ _ | refine HSub.reserve ?_ _ | refine HSub.put ?_ (by omega) _)); done) | fail) only [↓wpPre, wpPost, wpPoly, Int.reduceToNat, Int.reducePow, Int.reduceMul, Int.reduceAdd, Int.reduceSub, Int.reduceNeg, Nat.reduceAdd, Nat.reduceMul, Nat.reducePow, Int.reduceLT, Int.reduceLE, Int.reduceEq, Nat.reduceEqDiff]
    refine ACallsK.of (Chips_spec (hC.sub (T' := T117) (by decide)) hd hp ha hr hm) ?_
    rintro x h1 ⟨v1, rfl, s1, R1⟩
    simp -implicitDefEqProofs (disch := first | assumption | decide | omega | (simp -implicitDefEqProofs only [wpD1] <;> omega) | (refine not_in_one ?_; first | omega | (simp -implicitDefEqProofs only [wpD1] <;> omega) | fail) | (simp -implicitDefEqProofs only [wpD2] <;> assumption) | ((repeat (first | exact HSub.refl _ | assumption | refine HSub.push ?_ _ | refine HSub.reserve ?_ _ | refine HSub.put ?_ (by omega) _)); done) | fail) only [↓wpPre, wpPost, wpPoly, Int.reduceToNat, Int.reducePow, Int.reduceMul, Int.reduceAdd, Int.reduceSub, Int.reduceNeg, Nat.reduceAdd, Nat.reduceMul, Nat.reducePow, Int.reduceLT, Int.reduceLE, Int.reduceEq, Nat.reduceEqDiff, lstErr]
    refine ACallsK.of (ChipsR_spec (hC.sub (T' := T118) (by decide)) hd hp ha hr hm) ?_
    rintro x h2 ⟨v2, rfl, s2, R2⟩
    simp -implicitDefEqProofs (disch := first | assumption | decide | omega | (simp -implicitDefEqProofs only [wpD1] <;> omega) | (refine not_in_one ?_; first | omega | (simp -implicitDefEqProofs only [wpD1] <;> omega) | fail) | (simp -implicitDefEqProofs only [wpD2] <;> assumption) | ((repeat (first | exact HSub.refl _ | assumption | refine HSub.push ?_ _ | refine HSub.reserve ?_ _ | refine HSub.put ?_ (by omega) _)); done) | fail) only [↓wpPre, wpPost, wpPoly, Int.reduceToNat, Int.reducePow, Int.reduceMul, Int.reduceAdd, Int.reduceSub, Int.reduceNeg, Nat.reduceAdd, Nat.reduceMul, Nat.reducePow, Int.reduceLT, Int.reduceLE, Int.reduceEq, Nat.reduceEqDiff, lstErr]
    refine ACallsK.eq (Equal_spec (hC.sub (T' := T12) (by decide)) (R1.mono s2) R2) ?_
    simp -implicitDefEqProofs (disch := first | assumption | decide | omega | (simp -implicitDefEqProofs only [wpD1] <;> omega) | (refine not_in_one ?_; first | omega | (simp -implicitDefEqProofs only [wpD1] <;> omega) | fail) | (simp -implicitDefEqProofs only [wpD2] <;> assumption) | ((repeat (first | exact HSub.refl _ | assumption | refine HSub.push ?_ _ | refine HSub.reserve ?_ _ | refine HSub.put ?_ (by omega) _)); done) | fail) only [↓wpPre, wpPost, wpPoly, Int.reduceToNat, Int.reducePow, Int.reduceMul, Int.reduceAdd, Int.reduceSub, Int.reduceNeg, Nat.reduceAdd, Nat.reduceMul, Nat.reducePow, Int.reduceLT, Int.reduceLE, Int.reduceEq, Nat.reduceEqDiff]
    refine ACallsK.eq (awake11_spec (hC.sub (T' := T116) (by decide))) ?_
    simp -implicitDefEqProofs (disch := first | assumption | decide | omega | (simp -implicitDefEqProofs only [wpD1] <;> omega) | (refine not_in_one ?_; first | omega | (simp -implicitDefEqProofs only [wpD1] <;> omega) | fail) | (simp -implicitDefEqProofs only [wpD2] <;> assumption) | ((repeat (first | exact HSub.refl _ | assumption | refine HSub.push ?_ _ | refine HSub.reserve ?_ _ | refine HSub.put ?_ (by omega) _)); done) | fail) only [↓wpPre, wpPost, wpPoly, Int.reduceToNat, Int.reducePow, Int.reduceMul, Int.reduceAdd, Int.reduceSub, Int.reduceNeg, Nat.reduceAdd, Nat.reduceMul, Nat.reducePow, Int.reduceLT, Int.reduceLE, Int.reduceEq, Nat.reduceEqDiff]
  · (refine calls_intro (hC.body (by decide) tab107) (Nat.le_of_ble_eq_true rfl) ?_); (show wp C _ none B107.code _ _); (simp only [B107]); simp -implicitDefEqProofs (disch := first | assumption | decide | omega | (simp -implicitDefEqProofs only [wpD1] <;> omega) | (refine not_in_one ?_; first | omega | (simp -implicitDefEqProofs only [wpD1] <;> omega) | fail) | (simp -implicitDefEqProofs only [wpD2] <;> assumption) | ((repeat (first | exact HSub.refl _ | assumption | refine HSub.push ?_ _ | refine HSub.reserve ?_ _ | refine HSub.put ?_ (by omega) _)); done) | fail) only [↓wpPre, wpPost, wpPoly, Int.reduceToNat, Int.reducePow, Int.reduceMul, Int.reduceAdd, Int.reduceSub, Int.reduceNeg, Nat.reduceAdd, Nat.reduceMul, Nat.reducePow, Int.reduceLT, Int.reduceLE, Int.reduceEq, Nat.reduceEqDiff]
    refine ACallsK.of (Chips_spec (hC.sub (T' := T117) (by decide)) hd hp ha hr hm) ?_
    rintro x h1 ⟨v1, rfl, s1, R1⟩
    simp -implicitDefEqProofs (disch := first | assumption | decide | omega | (simp -implicitDefEqProofs only [wpD1] <;> omega) | (refine not_in_one ?_; first | omega | (simp -implicitDefEqProofs only [wpD1] <;> omega) | fail) | (simp -implicitDefEqProofs only [wpD2] <;> assumption) | ((repeat (first | exact HSub.refl _ | assumption | refine HSub.push ?_ _ | refine HSub.reserve ?_ _ | refine HSub.put ?_ (by omega) _)); done) | fail) only [↓wpPre, wpPost, wpPoly, Int.reduceToNat, Int.reducePow, Int.reduceMul, Int.reduceAdd, Int.reduceSub, Int.reduceNeg, Nat.reduceAdd, Nat.reduceMul, Nat.reducePow, Int.reduceLT, Int.reduceLE, Int.reduceEq, Nat.reduceEqDiff, lstErr]
    refine ACallsK.of (ChipsR_spec (hC.sub (T' := T118) (by decide)) hd hp ha hr hm) ?_
    rintro x h2 ⟨v2, rfl, s2, R2⟩
    simp -implicitDefEqProofs (disch := first | assumption | decide | omega | (simp -implicitDefEqProofs only [wpD1] <;> omega) | (refine not_in_one ?_; first | omega | (simp -implicitDefEqProofs only [wpD1] <;> omega) | fail) | (simp -implicitDefEqProofs only [wpD2] <;> assumption) | ((repeat (first | exact HSub.refl _ | assumption | refine HSub.push ?_ _ | refine HSub.reserve ?_ _ | refine HSub.put ?_ (by omega) _)); done) | fail) only [↓wpPre, wpPost, wpPoly, Int.reduceToNat, Int.reducePow, Int.reduceMul, Int.reduceAdd, Int.reduceSub, Int.reduceNeg, Nat.reduceAdd, Nat.reduceMul, Nat.reducePow, Int.reduceLT, Int.reduceLE, Int.reduceEq, Nat.reduceEqDiff, lstErr]
    refine ACallsK.eq (Equal_spec (hC.sub (T' := T12) (by decide)) (R1.mono s2) R2) ?_
    simp -implicitDefEqProofs (disch := first | assumption | decide | omega | (simp -implicitDefEqProofs only [wpD1] <;> omega) | (refine not_in_one ?_; first | omega | (simp -implicitDefEqProofs only [wpD1] <;> omega) | fail) | (simp -implicitDefEqProofs only [wpD2] <;> assumption) | ((repeat (first | exact HSub.refl _ | assumption | refine HSub.push ?_ _ | refine HSub.reserve ?_ _ | refine HSub.put ?_ (by omega) _)); done) | fail) only [↓wpPre, wpPost, wpPoly, Int.reduceToNat, Int.reducePow, Int.reduceMul, Int.reduceAdd, Int.reduceSub, Int.reduceNeg, Nat.reduceAdd, Nat.reduceMul, Nat.reducePow, Int.reduceLT, Int.reduceLE, Int.reduceEq, Nat.reduceEqDiff]
    refine ACallsK.eq (awake11_spec (hC.sub (T' := T116) (by decide))) ?_
    simp -implicitDefEqProofs (disch := first | assumption | decide | omega | (simp -implicitDefEqProofs only [wpD1] <;> omega) | (refine not_in_one ?_; first | omega | (simp -implicitDefEqProofs only [wpD1] <;> omega) | fail) | (simp -implicitDefEqProofs only [wpD2] <;> assumption) | ((repeat (first | exact HSub.refl _ | assumption | refine HSub.push ?_ _ | refine HSub.reserve ?_ _ | refine HSub.put ?_ (by omega) _)); done) | fail) only [↓wpPre, wpPost, wpPoly, Int.reduceToNat, Int.reducePow, Int.reduceMul, Int.reduceAdd, Int.reduceSub, Int.reduceNeg, Nat.reduceAdd, Nat.reduceMul, Nat.reducePow, Int.reduceLT, Int.reduceLE, Int.reduceEq, Nat.reduceEqDiff]
end
end Go.Ae
