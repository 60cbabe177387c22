/- Texts of the proof, part 11: a second reading of the lowered code, proved sound, and what the functions compute. -/
import Derived.Test.YtcmdajkkhghgdaaP10

/- Period of the program; the reference's registers. -/
set_option linter.unusedSimpArgs false
set_option linter.unusedVariables false
namespace Go.Ae

theorem RegOk.zero_tap {n : Nat} {ts w : List Int} (R : RegOk n ts w) : ∃ us, ts = 0 :: us ∧ ∀ u ∈ us, 0 < u := by
  match ts, R.t1, R.t0, R.taps with
  | t :: us, _, h0, ht =>
    rw [List.getD_cons_zero] at h0
    subst h0
    refine ⟨us, rfl, fun u hu => ?_⟩
    obtain ⟨i, hi, rfl⟩ := List.mem_iff_getElem.1 hu
    have h1 := tap_mono ht (i + 1) 0 (by omega) (by simp; omega)
    rw [List.getD_cons_zero, List.getD_cons_succ] at h1
    have e : us.getD i 0 = us[i] := by simp [hi]
    omega
theorem RegOk.period {n : Nat} {ts w : List Int} (R : RegOk n ts w) : ∃ K, IsPeriod ts w K ∧ K ≤ 2 ^ n := by
  obtain ⟨k, h1, h2, h3⟩ := period_ex R.zero_tap R.w1 R.bits
  rw [R.len] at h2
  have key : ∀ m, ∀ k, k ≤ m → 1 ≤ k → winW ts w k = w → ∃ K, IsPeriod ts w K ∧ K ≤ k := by
    intro m
    induction m with
    | zero => intro k hk h1; omega
    | succ m ih =>
      intro k hk h1 h3
      by_cases c : ∃ j, 1 ≤ j ∧ j < k ∧ winW ts w j = w
      · obtain ⟨j, j1, j2, j3⟩ := c
        obtain ⟨K, hK, hle⟩ := ih j (by omega) j1 j3
        exact ⟨K, hK, by omega⟩
      · exact ⟨k, ⟨h1, h3, fun j j1 j2 j3 => c ⟨j, j1, j2, j3⟩⟩, Nat.le_refl _⟩
  obtain ⟨K, hK, hle⟩ := key k k (Nat.le_refl _) h1 h3
  exact ⟨K, hK, by omega⟩
theorem RegOk.same {n : Nat} {ts w : List Int} (R : RegOk n ts w) (k : Nat) : packL (winW ts w k) = packL w ↔ winW ts w k = w :=
  ⟨fun h => packL_inj (winW_length R.w1 k) (winW_01 R.bits k) R.bits h, fun h => by rw [h]⟩

section
variable {C : Ctx}
set_option maxRecDepth 100000 in
set_option maxHeartbeats 2000000 in
theorem Period_spec (hC : Has C T83) {n : Int} {v1 v2 : AV} {ts w : List Int} {K : Nat} {h : Heap} (h1 : RI h v1 ts) (h2 : RI h v2 w) (hK : regErr n ts w = 0 → IsPeriod ts w K) (hK2 : K ≤ 65536) :
    ACalls C 83 [.int .i64 n, v1, v2] h (fun r h' => r = (if regErr n ts w = 0 then tup2 K 0 else tup2 0 (regErr n ts w)) ∧ HSub h h') := by
  by_cases c : regErr n ts w = 0
  · obtain ⟨k0, rfl, R⟩ := regErr_ok c
    have hP := hK c
    rw [if_pos c]
    have eR : madeR k0 ts w = .tuple [.agg [.int .i64 (k0 : Nat), .int .u32 (packL w), .int .u32 (maskT ts)], .int .i64 0] := by unfold madeR; rw [if_pos c]
    (refine calls_intro (hC.body (by decide) tab83) (Nat.le_of_ble_eq_true rfl) ?_); (show wp C _ none B83.code _ _); (simp only [B83]); simp -implicitDefEqProofs (disch := first | assumption | decide | omega | (simp -implicitDefEqProofs only [wpD1] <;> omega) | (refine not_in_one ?_; first | omega | (simp -implicitDefEqProofs only [wpD1] <;> omega) | fail) | (simp -implicitDefEqProofs only [wpD2] <;> assumption) | ((repeat (first | exact HSub.refl _ | assumption | refine HSub.push ?_ _ | refine HSub.reserve ?_ _ | refine HSub.put ?_ (by omega) _)); done) | fail) only [↓wpPre, wpPost, wpPoly, Int.reduceToNat, Int.reducePow, Int.reduceMul, Int.reduceAdd, Int.reduceSub, Int.reduceNeg, Nat.reduceAdd, Nat.reduceMul, Nat.reducePow, Int.reduceLT, Int.reduceLE, Int.reduceEq, Nat.reduceEqDiff]
    refine ACallsK.eq2 (made_spec (hC.sub (T' := T92) (by decide)) h1 h2) eR ?_
    simp -implicitDefEqProofs (disch := first | assumption | decide | omega | (simp -implicitDefEqProofs only [wpD1] <;> omega) | (refine not_in_one ?_; first | omega | (simp -implicitDefEqProofs only [wpD1] <;> omega) | fail) | (simp -implicitDefEqProofs only [wpD2] <;> assumption) | ((repeat (first | exact HSub.refl _ | assumption | refine HSub.push ?_ _ | refine HSub.reserve ?_ _ | refine HSub.put ?_ (by omega) _)); done) | fail) only [↓wpPre, wpPost, wpPoly, Int.reduceToNat, Int.reducePow, Int.reduceMul, Int.reduceAdd, Int.reduceSub, Int.reduceNeg, Nat.reduceAdd, Nat.reduceMul, Nat.reducePow, Int.reduceLT, Int.reduceLE, Int.reduceEq, Nat.reduceEqDiff]
    refine ACallsK.hide (fun H hH => ?_)
    have N : H.size = h.size + 2 := by rw [hH]; simp -implicitDefEqProofs (disch := first | assumption | decide | omega | (simp -implicitDefEqProofs only [wpD1] <;> omega) | (refine not_in_one ?_; first | omega | (simp -implicitDefEqProofs only [wpD1] <;> omega) | fail) | (simp -implicitDefEqProofs only [wpD2] <;> assumption) | ((repeat (first | exact HSub.refl _ | assumption | refine HSub.push ?_ _ | refine HSub.reserve ?_ _ | refine HSub.put ?_ (by omega) _)); done) | fail) only [↓wpPre, wpPost, wpPoly, Int.reduceToNat, Int.reducePow, Int.reduceMul, Int.reduceAdd, Int.reduceSub, Int.reduceNeg, Nat.reduceAdd, Nat.reduceMul, Nat.reducePow, Int.reduceLT, Int.reduceLE, Int.reduceEq, Nat.reduceEqDiff]
    have b8 : H.get h.size = some (.cells [.int .i64 (k0 : Nat), .int .u32 (packL w), .int .u32 (maskT ts)] true 0) := by rw [hH]; simp -implicitDefEqProofs (disch := first | assumption | decide | omega | (simp -implicitDefEqProofs only [wpD1] <;> omega) | (refine not_in_one ?_; first | omega | (simp -implicitDefEqProofs only [wpD1] <;> omega) | fail) | (simp -implicitDefEqProofs only [wpD2] <;> assumption) | ((repeat (first | exact HSub.refl _ | assumption | refine HSub.push ?_ _ | refine HSub.reserve ?_ _ | refine HSub.put ?_ (by omega) _)); done) | fail) only [↓wpPre, wpPost, wpPoly, Int.reduceToNat, Int.reducePow, Int.reduceMul, Int.reduceAdd, Int.reduceSub, Int.reduceNeg, Nat.reduceAdd, Nat.reduceMul, Nat.reducePow, Int.reduceLT, Int.reduceLE, Int.reduceEq, Nat.reduceEqDiff]
    have b10 : H.get (h.size + 1) = some (.cells [.int .i64 0] true 0) := by rw [hH]; simp -implicitDefEqProofs (disch := first | assumption | decide | omega | (simp -implicitDefEqProofs only [wpD1] <;> omega) | (refine not_in_one ?_; first | omega | (simp -implicitDefEqProofs only [wpD1] <;> omega) | fail) | (simp -implicitDefEqProofs only [wpD2] <;> assumption) | ((repeat (first | exact HSub.refl _ | assumption | refine HSub.push ?_ _ | refine HSub.reserve ?_ _ | refine HSub.put ?_ (by omega) _)); done) | fail) only [↓wpPre, wpPost, wpPoly, Int.reduceToNat, Int.reducePow, Int.reduceMul, Int.reduceAdd, Int.reduceSub, Int.reduceNeg, Nat.reduceAdd, Nat.reduceMul, Nat.reducePow, Int.reduceLT, Int.reduceLE, Int.reduceEq, Nat.reduceEqDiff]
    have hsH : HSub h H := by rw [hH]; exact (HSub.push1 h _).push _
    clear hH
    refine ACallsK.eq (bits_spec (hC.sub (T' := T95) (by decide))) ?_
    simp -implicitDefEqProofs (disch := first | assumption | decide | omega | (simp -implicitDefEqProofs only [wpD1] <;> omega) | (refine not_in_one ?_; first | omega | (simp -implicitDefEqProofs only [wpD1] <;> omega) | fail) | (simp -implicitDefEqProofs only [wpD2] <;> assumption) | ((repeat (first | exact HSub.refl _ | assumption | refine HSub.push ?_ _ | refine HSub.reserve ?_ _ | refine HSub.put ?_ (by omega) _)); done) | fail) only [↓wpPre, wpPost, wpPoly, Int.reduceToNat, Int.reducePow, Int.reduceMul, Int.reduceAdd, Int.reduceSub, Int.reduceNeg, Nat.reduceAdd, Nat.reduceMul, Nat.reducePow, Int.reduceLT, Int.reduceLE, Int.reduceEq, Nat.reduceEqDiff]
    refine wpRange_none (D := fun h' => ∃ R, h'.get (H.size + 2) = some (.loop R) ∧ R.state = .done ∧ R.pend = some (.exit 0) ∧ HSub h h' ∧ h'.get (H.size + 1) = some (.defd true) ∧
        h'.get (h.size + 1) = some (.cells [.int .i64 (K : Nat)] true 0) ∧ H.size + 3 ≤ h'.size) ?_ ?_
    · refine ACalls.hideLoop (fun Q hR => ?_)
      show ACalls C 101 [.yield (H.size + 2), .ptr H.size 0] _ _
      have rs : Q.state = .ready := by rw [hR]
      have rp : Q.pend = none := by rw [hR]
      have rb := loop_back rs rp
      refine bits1_iter (hC.sub (T' := T101) (by decide)) R (fun k h' => k < K ∧ h'.get (H.size + 2) = some (.loop Q) ∧ h'.get H.size = some (regBox k0 ts w k) ∧ h'.get (H.size + 1) = some (.defd true) ∧ HSub h h' ∧ H.size + 3 ≤ h'.size ∧
        h'.get h.size = some (.cells [.int .i64 (k0 : Nat), .int .u32 (packL w : Nat), .int .u32 (maskT ts : Nat)] true 0) ∧ h'.get (h.size + 1) = some (.cells [.int .i64 (k : Nat)] true 0)) _ K ?_ ?_ ?_ ?_
      · refine ⟨hP.1, ?_, ?_, ?_, ?_, ?_, ?_, ?_⟩
        · simp -implicitDefEqProofs (disch := first | assumption | decide | omega | (simp -implicitDefEqProofs only [wpD1] <;> omega) | (refine not_in_one ?_; first | omega | (simp -implicitDefEqProofs only [wpD1] <;> omega) | fail) | (simp -implicitDefEqProofs only [wpD2] <;> assumption) | ((repeat (first | exact HSub.refl _ | assumption | refine HSub.push ?_ _ | refine HSub.reserve ?_ _ | refine HSub.put ?_ (by omega) _)); done) | fail) only [↓wpPre, wpPost, wpPoly, Int.reduceToNat, Int.reducePow, Int.reduceMul, Int.reduceAdd, Int.reduceSub, Int.reduceNeg, Nat.reduceAdd, Nat.reduceMul, Nat.reducePow, Int.reduceLT, Int.reduceLE, Int.reduceEq, Nat.reduceEqDiff]
        · simp -implicitDefEqProofs (disch := first | assumption | decide | omega | (simp -implicitDefEqProofs only [wpD1] <;> omega) | (refine not_in_one ?_; first | omega | (simp -implicitDefEqProofs only [wpD1] <;> omega) | fail) | (simp -implicitDefEqProofs only [wpD2] <;> assumption) | ((repeat (first | exact HSub.refl _ | assumption | refine HSub.push ?_ _ | refine HSub.reserve ?_ _ | refine HSub.put ?_ (by omega) _)); done) | fail) only [↓wpPre, wpPost, wpPoly, Int.reduceToNat, Int.reducePow, Int.reduceMul, Int.reduceAdd, Int.reduceSub, Int.reduceNeg, Nat.reduceAdd, Nat.reduceMul, Nat.reducePow, Int.reduceLT, Int.reduceLE, Int.reduceEq, Nat.reduceEqDiff]
          rfl
        · simp -implicitDefEqProofs (disch := first | assumption | decide | omega | (simp -implicitDefEqProofs only [wpD1] <;> omega) | (refine not_in_one ?_; first | omega | (simp -implicitDefEqProofs only [wpD1] <;> omega) | fail) | (simp -implicitDefEqProofs only [wpD2] <;> assumption) | ((repeat (first | exact HSub.refl _ | assumption | refine HSub.push ?_ _ | refine HSub.reserve ?_ _ | refine HSub.put ?_ (by omega) _)); done) | fail) only [↓wpPre, wpPost, wpPoly, Int.reduceToNat, Int.reducePow, Int.reduceMul, Int.reduceAdd, Int.reduceSub, Int.reduceNeg, Nat.reduceAdd, Nat.reduceMul, Nat.reducePow, Int.reduceLT, Int.reduceLE, Int.reduceEq, Nat.reduceEqDiff]
        · exact ((hsH.push _).push _).push _
        · simp -implicitDefEqProofs (disch := first | assumption | decide | omega | (simp -implicitDefEqProofs only [wpD1] <;> omega) | (refine not_in_one ?_; first | omega | (simp -implicitDefEqProofs only [wpD1] <;> omega) | fail) | (simp -implicitDefEqProofs only [wpD2] <;> assumption) | ((repeat (first | exact HSub.refl _ | assumption | refine HSub.push ?_ _ | refine HSub.reserve ?_ _ | refine HSub.put ?_ (by omega) _)); done) | fail) only [↓wpPre, wpPost, wpPoly, Int.reduceToNat, Int.reducePow, Int.reduceMul, Int.reduceAdd, Int.reduceSub, Int.reduceNeg, Nat.reduceAdd, Nat.reduceMul, Nat.reducePow, Int.reduceLT, Int.reduceLE, Int.reduceEq, Nat.reduceEqDiff]
          omega
        · simp -implicitDefEqProofs (disch := first | assumption | decide | omega | (simp -implicitDefEqProofs only [wpD1] <;> omega) | (refine not_in_one ?_; first | omega | (simp -implicitDefEqProofs only [wpD1] <;> omega) | fail) | (simp -implicitDefEqProofs only [wpD2] <;> assumption) | ((repeat (first | exact HSub.refl _ | assumption | refine HSub.push ?_ _ | refine HSub.reserve ?_ _ | refine HSub.put ?_ (by omega) _)); done) | fail) only [↓wpPre, wpPost, wpPoly, Int.reduceToNat, Int.reducePow, Int.reduceMul, Int.reduceAdd, Int.reduceSub, Int.reduceNeg, Nat.reduceAdd, Nat.reduceMul, Nat.reducePow, Int.reduceLT, Int.reduceLE, Int.reduceEq, Nat.reduceEqDiff, b8]
        · simp -implicitDefEqProofs (disch := first | assumption | decide | omega | (simp -implicitDefEqProofs only [wpD1] <;> omega) | (refine not_in_one ?_; first | omega | (simp -implicitDefEqProofs only [wpD1] <;> omega) | fail) | (simp -implicitDefEqProofs only [wpD2] <;> assumption) | ((repeat (first | exact HSub.refl _ | assumption | refine HSub.push ?_ _ | refine HSub.reserve ?_ _ | refine HSub.put ?_ (by omega) _)); done) | fail) only [↓wpPre, wpPost, wpPoly, Int.reduceToNat, Int.reducePow, Int.reduceMul, Int.reduceAdd, Int.reduceSub, Int.reduceNeg, Nat.reduceAdd, Nat.reduceMul, Nat.reducePow, Int.reduceLT, Int.reduceLE, Int.reduceEq, Nat.reduceEqDiff, b10]
          rfl
      · rintro k h' ⟨_, _, q, _⟩
        exact q
      · rintro k h' ⟨q, _⟩
        omega
      · rintro k h' ⟨hk, hl, hw1, hd, hsub, hsz, q8, q10⟩
        have hsame := R.same (k + 1)
        have hl2 : (h'.put H.size (regBox k0 ts w (k + 1))).get (H.size + 2) = some (.loop Q) := (get_put_ne (by omega)).trans hl
        refine yield_intro hl2 rs (by rw [hR]; rfl) ?_
        simp only [congrArg ALoop.nt hR, congrArg ALoop.t hR, congrArg ALoop.params hR, congrArg ALoop.assign hR, congrArg ALoop.body hR]
        simp -implicitDefEqProofs (disch := first | assumption | decide | omega | (simp -implicitDefEqProofs only [wpD1] <;> omega) | (refine not_in_one ?_; first | omega | (simp -implicitDefEqProofs only [wpD1] <;> omega) | fail) | (simp -implicitDefEqProofs only [wpD2] <;> assumption) | ((repeat (first | exact HSub.refl _ | assumption | refine HSub.push ?_ _ | refine HSub.reserve ?_ _ | refine HSub.put ?_ (by omega) _)); done) | fail) only [↓wpPre, wpPost, wpPoly, Int.reduceToNat, Int.reducePow, Int.reduceMul, Int.reduceAdd, Int.reduceSub, Int.reduceNeg, Nat.reduceAdd, Nat.reduceMul, Nat.reducePow, Int.reduceLT, Int.reduceLE, Int.reduceEq, Nat.reduceEqDiff, hl, rs, q8, q10]
        refine Br.by (fun c => ?_) (fun c => ?_)
        · have c' : winW ts w (k + 1) = w := hsame.1 (by omega)
          have : k + 1 = K := by
            rcases Nat.lt_or_ge (k + 1) K with x | x
            · exact absurd c' (hP.2.2 (k + 1) (by omega) x)
            · omega
          subst this
          simp -implicitDefEqProofs (disch := first | assumption | decide | omega | (simp -implicitDefEqProofs only [wpD1] <;> omega) | (refine not_in_one ?_; first | omega | (simp -implicitDefEqProofs only [wpD1] <;> omega) | fail) | (simp -implicitDefEqProofs only [wpD2] <;> assumption) | ((repeat (first | exact HSub.refl _ | assumption | refine HSub.push ?_ _ | refine HSub.reserve ?_ _ | refine HSub.put ?_ (by omega) _)); done) | fail) only [↓wpPre, wpPost, wpPoly, Int.reduceToNat, Int.reducePow, Int.reduceMul, Int.reduceAdd, Int.reduceSub, Int.reduceNeg, Nat.reduceAdd, Nat.reduceMul, Nat.reducePow, Int.reduceLT, Int.reduceLE, Int.reduceEq, Nat.reduceEqDiff, hl]
          exact .inr ⟨_, rfl, rfl, rfl, (((hsub.put (by omega) _).put (by omega) _).put (by omega) _).put (by omega) _, hd, by simp, by omega⟩
        · have c' : winW ts w (k + 1) ≠ w := fun e => c (by have := hsame.2 e; omega)
          have hlt : k + 1 < K := by
            rcases Nat.lt_or_ge (k + 1) K with x | x
            · exact x
            · have : k + 1 = K := by omega
              rw [this] at c'; exact absurd hP.2.1 c'
          simp -implicitDefEqProofs (disch := first | assumption | decide | omega | (simp -implicitDefEqProofs only [wpD1] <;> omega) | (refine not_in_one ?_; first | omega | (simp -implicitDefEqProofs only [wpD1] <;> omega) | fail) | (simp -implicitDefEqProofs only [wpD2] <;> assumption) | ((repeat (first | exact HSub.refl _ | assumption | refine HSub.push ?_ _ | refine HSub.reserve ?_ _ | refine HSub.put ?_ (by omega) _)); done) | fail) only [↓wpPre, wpPost, wpPoly, Int.reduceToNat, Int.reducePow, Int.reduceMul, Int.reduceAdd, Int.reduceSub, Int.reduceNeg, Nat.reduceAdd, Nat.reduceMul, Nat.reducePow, Int.reduceLT, Int.reduceLE, Int.reduceEq, Nat.reduceEqDiff, hl, rs, q8, q10]
          exact .inl ⟨hlt, by rw [rb], hd, (((hsub.put (by omega) _).put (by omega) _).put (by omega) _).put (by omega) _, by omega, by simp⟩
    · rintro h' ⟨Q, hl, hst, hpd, hsub, hd, q10, hsz⟩
      refine ⟨Q, hl, by rw [hst]; decide, ?_⟩
      rw [hpd]
      show blockO _ _ (.exit 0) _
      simp -implicitDefEqProofs (disch := first | assumption | decide | omega | (simp -implicitDefEqProofs only [wpD1] <;> omega) | (refine not_in_one ?_; first | omega | (simp -implicitDefEqProofs only [wpD1] <;> omega) | fail) | (simp -implicitDefEqProofs only [wpD2] <;> assumption) | ((repeat (first | exact HSub.refl _ | assumption | refine HSub.push ?_ _ | refine HSub.reserve ?_ _ | refine HSub.put ?_ (by omega) _)); done) | fail) only [↓wpPre, wpPost, wpPoly, Int.reduceToNat, Int.reducePow, Int.reduceMul, Int.reduceAdd, Int.reduceSub, Int.reduceNeg, Nat.reduceAdd, Nat.reduceMul, Nat.reducePow, Int.reduceLT, Int.reduceLE, Int.reduceEq, Nat.reduceEqDiff, hd, q10]
      exact ⟨rfl, (hsub.put (by omega) _).put (by omega) _⟩
  · rw [if_neg c]
    have eR : madeR n ts w = .tuple [.agg [.int .i64 0, .int .u32 0, .int .u32 0], .int .i64 (regErr n ts w)] := by unfold madeR; rw [if_neg c]
    (refine calls_intro (hC.body (by decide) tab83) (Nat.le_of_ble_eq_true rfl) ?_); (show wp C _ none B83.code _ _); (simp only [B83]); simp -implicitDefEqProofs (disch := first | assumption | decide | omega | (simp -implicitDefEqProofs only [wpD1] <;> omega) | (refine not_in_one ?_; first | omega | (simp -implicitDefEqProofs only [wpD1] <;> omega) | fail) | (simp -implicitDefEqProofs only [wpD2] <;> assumption) | ((repeat (first | exact HSub.refl _ | assumption | refine HSub.push ?_ _ | refine HSub.reserve ?_ _ | refine HSub.put ?_ (by omega) _)); done) | fail) only [↓wpPre, wpPost, wpPoly, Int.reduceToNat, Int.reducePow, Int.reduceMul, Int.reduceAdd, Int.reduceSub, Int.reduceNeg, Nat.reduceAdd, Nat.reduceMul, Nat.reducePow, Int.reduceLT, Int.reduceLE, Int.reduceEq, Nat.reduceEqDiff]
    refine ACallsK.eq2 (made_spec (hC.sub (T' := T92) (by decide)) h1 h2) eR ?_
    simp -implicitDefEqProofs (disch := first | assumption | decide | omega | (simp -implicitDefEqProofs only [wpD1] <;> omega) | (refine not_in_one ?_; first | omega | (simp -implicitDefEqProofs only [wpD1] <;> omega) | fail) | (simp -implicitDefEqProofs only [wpD2] <;> assumption) | ((repeat (first | exact HSub.refl _ | assumption | refine HSub.push ?_ _ | refine HSub.reserve ?_ _ | refine HSub.put ?_ (by omega) _)); done) | fail) only [↓wpPre, wpPost, wpPoly, Int.reduceToNat, Int.reducePow, Int.reduceMul, Int.reduceAdd, Int.reduceSub, Int.reduceNeg, Nat.reduceAdd, Nat.reduceMul, Nat.reducePow, Int.reduceLT, Int.reduceLE, Int.reduceEq, Nat.reduceEqDiff]
    exact ⟨rfl, HSub.push1 _ _⟩
end
end Go.Ae

/- The reference's registers. -/
set_option linter.unusedSimpArgs false
set_option linter.unusedVariables false
namespace Go.Ae
theorem gV_u {w : Bool} {p q : Prop} : @gV .undef w ⟨p⟩ ⟨q⟩ = q := rfl
section
variable {C : Ctx}
theorem tap_pos {n : Int} {ts : List Int} {i : Nat} (hok : ∀ q, q < i → tapOk n ts q) (q : Nat) (hq : q < i) : 0 ≤ ts.getD q 0 := by
  induction q with
  | zero => have := (hok 0 hq).1; rw [if_pos rfl] at this; omega
  | succ q ih =>
    have h1 := (hok (q + 1) hq).1
    rw [if_neg (by omega), show q + 1 - 1 = q by omega] at h1
    have := ih (by omega); omega

set_option maxRecDepth 100000 in
set_option maxHeartbeats 1000000 in
theorem check08_spec (hC : Has C T94) {n : Int} {v1 v2 : AV} {ts w : List Int} {h : Heap} (h1 : RI h v1 ts) (h2 : RI h v2 w) : ACalls C 94 [.int .i64 n, v1, v2] h (fun r h' => r = .int .i64 (regErr n ts w) ∧ h' = h) := by
  have l1 := h1.lt
  have l2 := h2.lt
  have pe : regErr n ts w = if n < 2 ∨ 16 < n then 2 else if RegGood n ts w then 0 else 3 := rfl
  by_cases c0 : n < 2 ∨ 16 < n
  · rw [if_pos c0] at pe
    rw [pe]
    (refine calls_intro (hC.body (by decide) tab94) (Nat.le_of_ble_eq_true rfl) ?_); (show wp C _ none B94.code _ _); (simp only [B94]); simp -implicitDefEqProofs (disch := first | assumption | decide | omega | (simp -implicitDefEqProofs only [wpD1] <;> omega) | (refine not_in_one ?_; first | omega | (simp -implicitDefEqProofs only [wpD1] <;> omega) | fail) | (simp -implicitDefEqProofs only [wpD2] <;> assumption) | ((repeat (first | exact HSub.refl _ | assumption | refine HSub.push ?_ _ | refine HSub.reserve ?_ _ | refine HSub.put ?_ (by omega) _)); done) | fail) only [↓wpPre, wpPost, wpPoly, Int.reduceToNat, Int.reducePow, Int.reduceMul, Int.reduceAdd, Int.reduceSub, Int.reduceNeg, Nat.reduceAdd, Nat.reduceMul, Nat.reducePow, Int.reduceLT, Int.reduceLE, Int.reduceEq, Nat.reduceEqDiff]
    (repeat' (first | (refine Br.by (fun _ => ?_) (fun _ => ?_)) | (simp -implicitDefEqProofs (disch := first | assumption | decide | omega | (simp -implicitDefEqProofs only [wpD1] <;> omega) | (refine not_in_one ?_; first | omega | (simp -implicitDefEqProofs only [wpD1] <;> omega) | fail) | (simp -implicitDefEqProofs only [wpD2] <;> assumption) | ((repeat (first | exact HSub.refl _ | assumption | refine HSub.push ?_ _ | refine HSub.reserve ?_ _ | refine HSub.put ?_ (by omega) _)); done) | fail) only [↓wpPre, wpPost, wpPoly, Int.reduceToNat, Int.reducePow, Int.reduceMul, Int.reduceAdd, Int.reduceSub, Int.reduceNeg, Nat.reduceAdd, Nat.reduceMul, Nat.reducePow, Int.reduceLT, Int.reduceLE, Int.reduceEq, Nat.reduceEqDiff])))
    all_goals omega
  rw [if_neg c0] at pe
  by_cases c1 : ts.length = 0
  · rw [if_neg (fun hg => by have := hg.1.1; omega)] at pe
    rw [pe]
    (refine calls_intro (hC.body (by decide) tab94) (Nat.le_of_ble_eq_true rfl) ?_); (show wp C _ none B94.code _ _); (simp only [B94]); simp -implicitDefEqProofs (disch := first | assumption | decide | omega | (simp -implicitDefEqProofs only [wpD1] <;> omega) | (refine not_in_one ?_; first | omega | (simp -implicitDefEqProofs only [wpD1] <;> omega) | fail) | (simp -implicitDefEqProofs only [wpD2] <;> assumption) | ((repeat (first | exact HSub.refl _ | assumption | refine HSub.push ?_ _ | refine HSub.reserve ?_ _ | refine HSub.put ?_ (by omega) _)); done) | fail) only [↓wpPre, wpPost, wpPoly, Int.reduceToNat, Int.reducePow, Int.reduceMul, Int.reduceAdd, Int.reduceSub, Int.reduceNeg, Nat.reduceAdd, Nat.reduceMul, Nat.reducePow, Int.reduceLT, Int.reduceLE, Int.reduceEq, Nat.reduceEqDiff, h1.len]
  by_cases c2 : ts.getD 0 0 ≠ 0
  · rw [if_neg (fun hg => c2 hg.1.2.1)] at pe
    rw [pe]
    (refine calls_intro (hC.body (by decide) tab94) (Nat.le_of_ble_eq_true rfl) ?_); (show wp C _ none B94.code _ _); (simp only [B94]); simp -implicitDefEqProofs (disch := first | assumption | decide | omega | (simp -implicitDefEqProofs only [wpD1] <;> omega) | (refine not_in_one ?_; first | omega | (simp -implicitDefEqProofs only [wpD1] <;> omega) | fail) | (simp -implicitDefEqProofs only [wpD2] <;> assumption) | ((repeat (first | exact HSub.refl _ | assumption | refine HSub.push ?_ _ | refine HSub.reserve ?_ _ | refine HSub.put ?_ (by omega) _)); done) | fail) only [↓wpPre, wpPost, wpPoly, Int.reduceToNat, Int.reducePow, Int.reduceMul, Int.reduceAdd, Int.reduceSub, Int.reduceNeg, Nat.reduceAdd, Nat.reduceMul, Nat.reducePow, Int.reduceLT, Int.reduceLE, Int.reduceEq, Nat.reduceEqDiff, h1.len, h1.idx, h1.load]
  have c2' : ts.getD 0 0 = 0 := Decidable.not_not.1 c2
  generalize hE : regErr n ts w = E at pe
  (refine calls_intro (hC.body (by decide) tab94) (Nat.le_of_ble_eq_true rfl) ?_); (show wp C _ none B94.code _ _); (simp only [B94]); simp -implicitDefEqProofs (disch := first | assumption | decide | omega | (simp -implicitDefEqProofs only [wpD1] <;> omega) | (refine not_in_one ?_; first | omega | (simp -implicitDefEqProofs only [wpD1] <;> omega) | fail) | (simp -implicitDefEqProofs only [wpD2] <;> assumption) | ((repeat (first | exact HSub.refl _ | assumption | refine HSub.push ?_ _ | refine HSub.reserve ?_ _ | refine HSub.put ?_ (by omega) _)); done) | fail) only [↓wpPre, wpPost, wpPoly, Int.reduceToNat, Int.reducePow, Int.reduceMul, Int.reduceAdd, Int.reduceSub, Int.reduceNeg, Nat.reduceAdd, Nat.reduceMul, Nat.reducePow, Int.reduceLT, Int.reduceLE, Int.reduceEq, Nat.reduceEqDiff, h1.len, h1.idx, h1.load, c2']
  refine wp_loopI (fun j t h' => h' = h ∧ ∃ i : Nat, t 0 = .int .i64 n ∧ t 1 = v1 ∧ t 2 = v2 ∧ t 7 = .int .i64 (i : Nat) ∧ i ≤ ts.length ∧ (∀ q, q < i → tapOk n ts q) ∧ j = ts.length - i) (j0 := ts.length)
    ⟨rfl, 0, rfl, rfl, rfl, rfl, by omega, by omega, rfl⟩ ?_
  rintro j t h' ⟨hh, i, e0, e1, e2, e7, hi, hok, hj⟩
  subst hh
  simp -implicitDefEqProofs (disch := first | assumption | decide | omega | (simp -implicitDefEqProofs only [wpD1] <;> omega) | (refine not_in_one ?_; first | omega | (simp -implicitDefEqProofs only [wpD1] <;> omega) | fail) | (simp -implicitDefEqProofs only [wpD2] <;> assumption) | ((repeat (first | exact HSub.refl _ | assumption | refine HSub.push ?_ _ | refine HSub.reserve ?_ _ | refine HSub.put ?_ (by omega) _)); done) | fail) only [↓wpPre, wpPost, wpPoly, Int.reduceToNat, Int.reducePow, Int.reduceMul, Int.reduceAdd, Int.reduceSub, Int.reduceNeg, Nat.reduceAdd, Nat.reduceMul, Nat.reducePow, Int.reduceLT, Int.reduceLE, Int.reduceEq, Nat.reduceEqDiff, e1, e7, h1.len]
  refine Br.by (fun c => ?_) (fun c => ?_)
  · have hi' : i < ts.length := by omega
    by_cases ct : tapOk n ts i
    · have ct' := ct
      unfold tapOk at ct'
      by_cases hz : i = 0
      · subst hz
        rw [if_pos rfl] at ct'
        simp -implicitDefEqProofs (disch := first | assumption | decide | omega | (simp -implicitDefEqProofs only [wpD1] <;> omega) | (refine not_in_one ?_; first | omega | (simp -implicitDefEqProofs only [wpD1] <;> omega) | fail) | (simp -implicitDefEqProofs only [wpD2] <;> assumption) | ((repeat (first | exact HSub.refl _ | assumption | refine HSub.push ?_ _ | refine HSub.reserve ?_ _ | refine HSub.put ?_ (by omega) _)); done) | fail) only [↓wpPre, wpPost, wpPoly, Int.reduceToNat, Int.reducePow, Int.reduceMul, Int.reduceAdd, Int.reduceSub, Int.reduceNeg, Nat.reduceAdd, Nat.reduceMul, Nat.reducePow, Int.reduceLT, Int.reduceLE, Int.reduceEq, Nat.reduceEqDiff, gV_u, e0, e1, e2, e7, h1.idx, h1.load]
        exact ⟨_, ⟨1, by simp, by omega, fun q hq => by
          have : q = 0 := by omega
          subst this; exact ct, rfl⟩, by omega⟩
      · rw [if_neg hz] at ct'
        have hp := tap_pos hok (i - 1) (by omega)
        have ei : ((i : Int) - 1).toNat = i - 1 := by omega
        simp -implicitDefEqProofs (disch := first | assumption | decide | omega | (simp -implicitDefEqProofs only [wpD1] <;> omega) | (refine not_in_one ?_; first | omega | (simp -implicitDefEqProofs only [wpD1] <;> omega) | fail) | (simp -implicitDefEqProofs only [wpD2] <;> assumption) | ((repeat (first | exact HSub.refl _ | assumption | refine HSub.push ?_ _ | refine HSub.reserve ?_ _ | refine HSub.put ?_ (by omega) _)); done) | fail) only [↓wpPre, wpPost, wpPoly, Int.reduceToNat, Int.reducePow, Int.reduceMul, Int.reduceAdd, Int.reduceSub, Int.reduceNeg, Nat.reduceAdd, Nat.reduceMul, Nat.reducePow, Int.reduceLT, Int.reduceLE, Int.reduceEq, Nat.reduceEqDiff, gV_u, e0, e1, e2, e7, h1.idx, h1.load, ei]
        exact ⟨_, ⟨i + 1, by simp, by omega, fun q hq => by
          by_cases e : q = i
          · subst e; exact ct
          · exact hok q (by omega), rfl⟩, by omega⟩
    · have hbad : ¬ RegGood n ts w := fun hg => ct (hg.1.2.2 i hi')
      rw [if_neg hbad] at pe
      unfold tapOk at ct
      by_cases hz : i = 0
      · subst hz
        rw [if_pos rfl] at ct
        by_cases a1 : ts.getD 0 0 < 0
        · simp -implicitDefEqProofs (disch := first | assumption | decide | omega | (simp -implicitDefEqProofs only [wpD1] <;> omega) | (refine not_in_one ?_; first | omega | (simp -implicitDefEqProofs only [wpD1] <;> omega) | fail) | (simp -implicitDefEqProofs only [wpD2] <;> assumption) | ((repeat (first | exact HSub.refl _ | assumption | refine HSub.push ?_ _ | refine HSub.reserve ?_ _ | refine HSub.put ?_ (by omega) _)); done) | fail) only [↓wpPre, wpPost, wpPoly, Int.reduceToNat, Int.reducePow, Int.reduceMul, Int.reduceAdd, Int.reduceSub, Int.reduceNeg, Nat.reduceAdd, Nat.reduceMul, Nat.reducePow, Int.reduceLT, Int.reduceLE, Int.reduceEq, Nat.reduceEqDiff, gV_u, e0, e1, e2, e7, h1.idx, h1.load, pe]
        · simp -implicitDefEqProofs (disch := first | assumption | decide | omega | (simp -implicitDefEqProofs only [wpD1] <;> omega) | (refine not_in_one ?_; first | omega | (simp -implicitDefEqProofs only [wpD1] <;> omega) | fail) | (simp -implicitDefEqProofs only [wpD2] <;> assumption) | ((repeat (first | exact HSub.refl _ | assumption | refine HSub.push ?_ _ | refine HSub.reserve ?_ _ | refine HSub.put ?_ (by omega) _)); done) | fail) only [↓wpPre, wpPost, wpPoly, Int.reduceToNat, Int.reducePow, Int.reduceMul, Int.reduceAdd, Int.reduceSub, Int.reduceNeg, Nat.reduceAdd, Nat.reduceMul, Nat.reducePow, Int.reduceLT, Int.reduceLE, Int.reduceEq, Nat.reduceEqDiff, gV_u, e0, e1, e2, e7, h1.idx, h1.load, pe]
      · rw [if_neg hz] at ct
        have ei : ((i : Int) - 1).toNat = i - 1 := by omega
        by_cases a1 : ts.getD i 0 < 0
        · simp -implicitDefEqProofs (disch := first | assumption | decide | omega | (simp -implicitDefEqProofs only [wpD1] <;> omega) | (refine not_in_one ?_; first | omega | (simp -implicitDefEqProofs only [wpD1] <;> omega) | fail) | (simp -implicitDefEqProofs only [wpD2] <;> assumption) | ((repeat (first | exact HSub.refl _ | assumption | refine HSub.push ?_ _ | refine HSub.reserve ?_ _ | refine HSub.put ?_ (by omega) _)); done) | fail) only [↓wpPre, wpPost, wpPoly, Int.reduceToNat, Int.reducePow, Int.reduceMul, Int.reduceAdd, Int.reduceSub, Int.reduceNeg, Nat.reduceAdd, Nat.reduceMul, Nat.reducePow, Int.reduceLT, Int.reduceLE, Int.reduceEq, Nat.reduceEqDiff, gV_u, e0, e1, e2, e7, h1.idx, h1.load, pe]
        · by_cases a2 : n ≤ ts.getD i 0
          · simp -implicitDefEqProofs (disch := first | assumption | decide | omega | (simp -implicitDefEqProofs only [wpD1] <;> omega) | (refine not_in_one ?_; first | omega | (simp -implicitDefEqProofs only [wpD1] <;> omega) | fail) | (simp -implicitDefEqProofs only [wpD2] <;> assumption) | ((repeat (first | exact HSub.refl _ | assumption | refine HSub.push ?_ _ | refine HSub.reserve ?_ _ | refine HSub.put ?_ (by omega) _)); done) | fail) only [↓wpPre, wpPost, wpPoly, Int.reduceToNat, Int.reducePow, Int.reduceMul, Int.reduceAdd, Int.reduceSub, Int.reduceNeg, Nat.reduceAdd, Nat.reduceMul, Nat.reducePow, Int.reduceLT, Int.reduceLE, Int.reduceEq, Nat.reduceEqDiff, gV_u, e0, e1, e2, e7, h1.idx, h1.load, pe]
          · simp -implicitDefEqProofs (disch := first | assumption | decide | omega | (simp -implicitDefEqProofs only [wpD1] <;> omega) | (refine not_in_one ?_; first | omega | (simp -implicitDefEqProofs only [wpD1] <;> omega) | fail) | (simp -implicitDefEqProofs only [wpD2] <;> assumption) | ((repeat (first | exact HSub.refl _ | assumption | refine HSub.push ?_ _ | refine HSub.reserve ?_ _ | refine HSub.put ?_ (by omega) _)); done) | fail) only [↓wpPre, wpPost, wpPoly, Int.reduceToNat, Int.reducePow, Int.reduceMul, Int.reduceAdd, Int.reduceSub, Int.reduceNeg, Nat.reduceAdd, Nat.reduceMul, Nat.reducePow, Int.reduceLT, Int.reduceLE, Int.reduceEq, Nat.reduceEqDiff, gV_u, e0, e1, e2, e7, h1.idx, h1.load, ei, pe]
  · have : i = ts.length := by omega
    subst this
    by_cases c3 : (w.length : Int) ≠ n
    · rw [if_neg (fun hg => c3 hg.2.1)] at pe
      simp -implicitDefEqProofs (disch := first | assumption | decide | omega | (simp -implicitDefEqProofs only [wpD1] <;> omega) | (refine not_in_one ?_; first | omega | (simp -implicitDefEqProofs only [wpD1] <;> omega) | fail) | (simp -implicitDefEqProofs only [wpD2] <;> assumption) | ((repeat (first | exact HSub.refl _ | assumption | refine HSub.push ?_ _ | refine HSub.reserve ?_ _ | refine HSub.put ?_ (by omega) _)); done) | fail) only [↓wpPre, wpPost, wpPoly, Int.reduceToNat, Int.reducePow, Int.reduceMul, Int.reduceAdd, Int.reduceSub, Int.reduceNeg, Nat.reduceAdd, Nat.reduceMul, Nat.reducePow, Int.reduceLT, Int.reduceLE, Int.reduceEq, Nat.reduceEqDiff, e0, e2, h2.len, pe]
    have c3' : (w.length : Int) = n := Decidable.not_not.1 c3
    simp -implicitDefEqProofs (disch := first | assumption | decide | omega | (simp -implicitDefEqProofs only [wpD1] <;> omega) | (refine not_in_one ?_; first | omega | (simp -implicitDefEqProofs only [wpD1] <;> omega) | fail) | (simp -implicitDefEqProofs only [wpD2] <;> assumption) | ((repeat (first | exact HSub.refl _ | assumption | refine HSub.push ?_ _ | refine HSub.reserve ?_ _ | refine HSub.put ?_ (by omega) _)); done) | fail) only [↓wpPre, wpPost, wpPoly, Int.reduceToNat, Int.reducePow, Int.reduceMul, Int.reduceAdd, Int.reduceSub, Int.reduceNeg, Nat.reduceAdd, Nat.reduceMul, Nat.reducePow, Int.reduceLT, Int.reduceLE, Int.reduceEq, Nat.reduceEqDiff, e0, e2, h2.len]
    refine wp_loopI (fun j u hx => hx = h' ∧ ∃ i : Nat, u 0 = .int .i64 n ∧ u 2 = v2 ∧ u 8 = .int .i64 (i : Nat) ∧ i ≤ w.length ∧ bit01 (w.take i) ∧ j = w.length - i) (j0 := w.length)
      ⟨rfl, 0, e0, e2, rfl, by omega, fun x hx => by simp at hx, rfl⟩ ?_
    rintro j u h3 ⟨hh, i, f0, f2, f8, hi, hbt, hj⟩
    subst hh
    simp -implicitDefEqProofs (disch := first | assumption | decide | omega | (simp -implicitDefEqProofs only [wpD1] <;> omega) | (refine not_in_one ?_; first | omega | (simp -implicitDefEqProofs only [wpD1] <;> omega) | fail) | (simp -implicitDefEqProofs only [wpD2] <;> assumption) | ((repeat (first | exact HSub.refl _ | assumption | refine HSub.push ?_ _ | refine HSub.reserve ?_ _ | refine HSub.put ?_ (by omega) _)); done) | fail) only [↓wpPre, wpPost, wpPoly, Int.reduceToNat, Int.reducePow, Int.reduceMul, Int.reduceAdd, Int.reduceSub, Int.reduceNeg, Nat.reduceAdd, Nat.reduceMul, Nat.reducePow, Int.reduceLT, Int.reduceLE, Int.reduceEq, Nat.reduceEqDiff, f0, f8]
    refine Br.by (fun c => ?_) (fun c => ?_)
    · have hi' : i < w.length := by omega
      by_cases cb : w.getD i 0 = 0 ∨ w.getD i 0 = 1
      · have hb1 : bit01 (w.take (i + 1)) := fun x hx => by
          rw [take_succ_getD hi'] at hx
          rcases List.mem_append.1 hx with hx | hx
          · exact hbt x hx
          · rw [List.mem_singleton.1 hx]; exact cb
        rcases cb with cb | cb
        · simp -implicitDefEqProofs (disch := first | assumption | decide | omega | (simp -implicitDefEqProofs only [wpD1] <;> omega) | (refine not_in_one ?_; first | omega | (simp -implicitDefEqProofs only [wpD1] <;> omega) | fail) | (simp -implicitDefEqProofs only [wpD2] <;> assumption) | ((repeat (first | exact HSub.refl _ | assumption | refine HSub.push ?_ _ | refine HSub.reserve ?_ _ | refine HSub.put ?_ (by omega) _)); done) | fail) only [↓wpPre, wpPost, wpPoly, Int.reduceToNat, Int.reducePow, Int.reduceMul, Int.reduceAdd, Int.reduceSub, Int.reduceNeg, Nat.reduceAdd, Nat.reduceMul, Nat.reducePow, Int.reduceLT, Int.reduceLE, Int.reduceEq, Nat.reduceEqDiff, f0, f2, f8, h2.idx, h2.load]
          exact ⟨_, ⟨i + 1, by simp, by omega, hb1, rfl⟩, by omega⟩
        · simp -implicitDefEqProofs (disch := first | assumption | decide | omega | (simp -implicitDefEqProofs only [wpD1] <;> omega) | (refine not_in_one ?_; first | omega | (simp -implicitDefEqProofs only [wpD1] <;> omega) | fail) | (simp -implicitDefEqProofs only [wpD2] <;> assumption) | ((repeat (first | exact HSub.refl _ | assumption | refine HSub.push ?_ _ | refine HSub.reserve ?_ _ | refine HSub.put ?_ (by omega) _)); done) | fail) only [↓wpPre, wpPost, wpPoly, Int.reduceToNat, Int.reducePow, Int.reduceMul, Int.reduceAdd, Int.reduceSub, Int.reduceNeg, Nat.reduceAdd, Nat.reduceMul, Nat.reducePow, Int.reduceLT, Int.reduceLE, Int.reduceEq, Nat.reduceEqDiff, f0, f2, f8, h2.idx, h2.load]
          exact ⟨_, ⟨i + 1, by simp, by omega, hb1, rfl⟩, by omega⟩
      · have hbad : ¬ RegGood n ts w := fun hg => by
          have := List.any_eq_false.1 hg.2.2 _ (getD_mem hi')
          simp only [Bool.not_eq_true, Bool.not_eq_false', Bool.or_eq_true, beq_iff_eq] at this
          exact cb this
        rw [if_neg hbad] at pe
        simp -implicitDefEqProofs (disch := first | assumption | decide | omega | (simp -implicitDefEqProofs only [wpD1] <;> omega) | (refine not_in_one ?_; first | omega | (simp -implicitDefEqProofs only [wpD1] <;> omega) | fail) | (simp -implicitDefEqProofs only [wpD2] <;> assumption) | ((repeat (first | exact HSub.refl _ | assumption | refine HSub.push ?_ _ | refine HSub.reserve ?_ _ | refine HSub.put ?_ (by omega) _)); done) | fail) only [↓wpPre, wpPost, wpPoly, Int.reduceToNat, Int.reducePow, Int.reduceMul, Int.reduceAdd, Int.reduceSub, Int.reduceNeg, Nat.reduceAdd, Nat.reduceMul, Nat.reducePow, Int.reduceLT, Int.reduceLE, Int.reduceEq, Nat.reduceEqDiff, f0, f2, f8, h2.idx, h2.load, pe]
    · have : i = w.length := by omega
      subst this
      rw [List.take_length] at hbt
      have hgood : RegGood n ts w := ⟨⟨by omega, c2', hok⟩, c3', List.any_eq_false.2 fun x hx => by
        simp only [Bool.not_eq_true, Bool.not_eq_false', Bool.or_eq_true, beq_iff_eq]; exact hbt x hx⟩
      rw [if_pos hgood] at pe
      simp -implicitDefEqProofs (disch := first | assumption | decide | omega | (simp -implicitDefEqProofs only [wpD1] <;> omega) | (refine not_in_one ?_; first | omega | (simp -implicitDefEqProofs only [wpD1] <;> omega) | fail) | (simp -implicitDefEqProofs only [wpD2] <;> assumption) | ((repeat (first | exact HSub.refl _ | assumption | refine HSub.push ?_ _ | refine HSub.reserve ?_ _ | refine HSub.put ?_ (by omega) _)); done) | fail) only [↓wpPre, wpPost, wpPoly, Int.reduceToNat, Int.reducePow, Int.reduceMul, Int.reduceAdd, Int.reduceSub, Int.reduceNeg, Nat.reduceAdd, Nat.reduceMul, Nat.reducePow, Int.reduceLT, Int.reduceLE, Int.reduceEq, Nat.reduceEqDiff, pe]
end
end Go.Ae

/- The reference's sequences and periods. -/
set_option linter.unusedSimpArgs false
set_option linter.unusedVariables false
namespace Go.Ae
theorem xor01 {a b : Int} (ha : a = 0 ∨ a = 1) (hb : b = 0 ∨ b = 1) : bitsA .xor .i64 a b = (a + b) % 2 := by
  rcases ha with rfl | rfl <;> rcases hb with rfl | rfl <;> decide
theorem runL_idx {n : Nat} {ts w : List Int} (R : RegOk n ts w) {i t : Nat} (ht : t < n) : (runL ts w (n + i)).getD (i + t) 0 = (winW ts w i).getD t 0 := by
  rw [runL_get (by omega), winW_get R.w1 t i (by rw [R.len]; exact ht)]
section
variable {C : Ctx}
set_option maxRecDepth 100000 in
set_option maxHeartbeats 1000000 in
theorem run08_spec (hC : Has C T91) {n : Nat} {m : Int} {v1 v2 : AV} {ts w : List Int} {h : Heap} (h1 : RI h v1 ts) (h2 : RI h v2 w) (R : RegOk n ts w) (hm : m ≤ 1000000) (hm2 : In64 m) :
    ACalls C 91 [.int .i64 (n : Nat), v1, v2, .int .i64 m] h (fun r h' => ∃ L : Nat, GrwI h h' r (runL ts w L) ∧ n ≤ L ∧ (m ≤ L) ∧ (L : Int) = max (n : Int) m) := by
  have hn2 := R.n2
  have hn16 := R.n16
  have hwl := R.len
  have l1 := h1.lt
  unfold In64 at hm2
  obtain ⟨i, o, q, cp, rfl⟩ : ∃ i o n cp, v2 = .slice i o n cp := by
    obtain ⟨_, _, ⟨rfl, h1⟩ | ⟨i, o, cp, vs, wr, u, rfl, _⟩⟩ := h2
    · omega
    · exact ⟨_, _, _, _, rfl⟩
  have hc' : contentA (h.push (.cells [] true 0)) 1 (.slice i o q cp) = some (w.length, ints w) := (h2.mono (HSub.push1 _ _)).content
  have rs := runL_start (ts := ts) R.w1
  rw [hwl] at rs
  (refine calls_intro (hC.body (by decide) tab91) (Nat.le_of_ble_eq_true rfl) ?_); (show wp C _ none B91.code _ _); (simp only [B91]); simp -implicitDefEqProofs (disch := first | assumption | decide | omega | (simp -implicitDefEqProofs only [wpD1] <;> omega) | (refine not_in_one ?_; first | omega | (simp -implicitDefEqProofs only [wpD1] <;> omega) | fail) | (simp -implicitDefEqProofs only [wpD2] <;> assumption) | ((repeat (first | exact HSub.refl _ | assumption | refine HSub.push ?_ _ | refine HSub.reserve ?_ _ | refine HSub.put ?_ (by omega) _)); done) | fail) only [↓wpPre, wpPost, wpPoly, Int.reduceToNat, Int.reducePow, Int.reduceMul, Int.reduceAdd, Int.reduceSub, Int.reduceNeg, Nat.reduceAdd, Nat.reduceMul, Nat.reducePow, Int.reduceLT, Int.reduceLE, Int.reduceEq, Nat.reduceEqDiff, hc']
  refine wp_loopI (fun j t h' => ∃ i : Nat, GrwI h h' (t 9) (runL ts w (n + i)) ∧ t 1 = v1 ∧ t 3 = .int .i64 m ∧ t 10 = .int .i64 (i : Nat) ∧ (i = 0 ∨ n + i ≤ m) ∧ j = (m - (n + i)).toNat) (j0 := (m - n).toNat)
    ⟨0, ?_, rfl, rfl, rfl, by omega, by omega⟩ ?_
  · show GrwI h _ (.slice (h.size + 1) 0 w.length (.unk 0)) (runL ts w n)
    rw [rs]
    exact Grw.fresh ((HSub.push1 _ _).push _) (by omega) (by omega) (get_push_eq rfl)
  rintro j t h' ⟨i, A, e1, e3, e10, hi, hj⟩
  have rl := runL_length ts w (n + i)
  have RA := A.ri
  simp -implicitDefEqProofs (disch := first | assumption | decide | omega | (simp -implicitDefEqProofs only [wpD1] <;> omega) | (refine not_in_one ?_; first | omega | (simp -implicitDefEqProofs only [wpD1] <;> omega) | fail) | (simp -implicitDefEqProofs only [wpD2] <;> assumption) | ((repeat (first | exact HSub.refl _ | assumption | refine HSub.push ?_ _ | refine HSub.reserve ?_ _ | refine HSub.put ?_ (by omega) _)); done) | fail) only [↓wpPre, wpPost, wpPoly, Int.reduceToNat, Int.reducePow, Int.reduceMul, Int.reduceAdd, Int.reduceSub, Int.reduceNeg, Nat.reduceAdd, Nat.reduceMul, Nat.reducePow, Int.reduceLT, Int.reduceLE, Int.reduceEq, Nat.reduceEqDiff, e3, RA.len, rl]
  refine Br.by (fun c => ?_) (fun c => ?_)
  · simp -implicitDefEqProofs (disch := first | assumption | decide | omega | (simp -implicitDefEqProofs only [wpD1] <;> omega) | (refine not_in_one ?_; first | omega | (simp -implicitDefEqProofs only [wpD1] <;> omega) | fail) | (simp -implicitDefEqProofs only [wpD2] <;> assumption) | ((repeat (first | exact HSub.refl _ | assumption | refine HSub.push ?_ _ | refine HSub.reserve ?_ _ | refine HSub.put ?_ (by omega) _)); done) | fail) only [↓wpPre, wpPost, wpPoly, Int.reduceToNat, Int.reducePow, Int.reduceMul, Int.reduceAdd, Int.reduceSub, Int.reduceNeg, Nat.reduceAdd, Nat.reduceMul, Nat.reducePow, Int.reduceLT, Int.reduceLE, Int.reduceEq, Nat.reduceEqDiff]
    have h1' := h1.mono A.sub
    refine wp_loopI (fun j u hx => hx = h' ∧ ∃ k : Nat, u 9 = t 9 ∧ u 1 = v1 ∧ u 3 = .int .i64 m ∧ u 10 = .int .i64 (i : Nat) ∧ u 11 = .int .i64 (xorT (ts.take k) (winW ts w i)) ∧ u 12 = .int .i64 (k : Nat) ∧ k ≤ ts.length ∧ j = ts.length - k) (j0 := ts.length)
      ⟨rfl, 0, rfl, e1, e3, e10, rfl, rfl, by omega, rfl⟩ ?_
    rintro j u hx ⟨hh, k, f9, f1, f3, f10, f11, f12, hk, hj⟩
    subst hh
    simp -implicitDefEqProofs (disch := first | assumption | decide | omega | (simp -implicitDefEqProofs only [wpD1] <;> omega) | (refine not_in_one ?_; first | omega | (simp -implicitDefEqProofs only [wpD1] <;> omega) | fail) | (simp -implicitDefEqProofs only [wpD2] <;> assumption) | ((repeat (first | exact HSub.refl _ | assumption | refine HSub.push ?_ _ | refine HSub.reserve ?_ _ | refine HSub.put ?_ (by omega) _)); done) | fail) only [↓wpPre, wpPost, wpPoly, Int.reduceToNat, Int.reducePow, Int.reduceMul, Int.reduceAdd, Int.reduceSub, Int.reduceNeg, Nat.reduceAdd, Nat.reduceMul, Nat.reducePow, Int.reduceLT, Int.reduceLE, Int.reduceEq, Nat.reduceEqDiff, f1, f12, h1'.len]
    refine Br.by (fun c2 => ?_) (fun c2 => ?_)
    · have hk' : k < ts.length := by omega
      have t0 := tap_nonneg R.taps hk'
      have t1 := (R.taps k hk').2
      have ei : ((i : Int) + ts.getD k 0).toNat = i + (ts.getD k 0).toNat := by omega
      have eg := runL_idx R (i := i) (t := (ts.getD k 0).toNat) (by omega)
      have x1 := xorT_01 (ts.take k) (winW ts w i)
      have x2 := (winW_01 (ts := ts) R.bits i).get (ts.getD k 0).toNat
      have ex := xor01 x1 x2
      have es : xorT (ts.take (k + 1)) (winW ts w i) = (xorT (ts.take k) (winW ts w i) + (winW ts w i).getD (ts.getD k 0).toNat 0) % 2 := by rw [take_succ_getD hk', xorT_snoc]
      rw [← es] at ex
      simp -implicitDefEqProofs (disch := first | assumption | decide | omega | (simp -implicitDefEqProofs only [wpD1] <;> omega) | (refine not_in_one ?_; first | omega | (simp -implicitDefEqProofs only [wpD1] <;> omega) | fail) | (simp -implicitDefEqProofs only [wpD2] <;> assumption) | ((repeat (first | exact HSub.refl _ | assumption | refine HSub.push ?_ _ | refine HSub.reserve ?_ _ | refine HSub.put ?_ (by omega) _)); done) | fail) only [↓wpPre, wpPost, wpPoly, Int.reduceToNat, Int.reducePow, Int.reduceMul, Int.reduceAdd, Int.reduceSub, Int.reduceNeg, Nat.reduceAdd, Nat.reduceMul, Nat.reducePow, Int.reduceLT, Int.reduceLE, Int.reduceEq, Nat.reduceEqDiff, f1, f3, f9, f10, f11, f12, h1'.idx, h1'.load, RA.idx, RA.load, ei, eg, ex]
      exact ⟨_, ⟨k + 1, rfl, by simp, by omega, rfl⟩, by omega⟩
    · have : k = ts.length := by omega
      subst this
      rw [List.take_length] at f11
      have ex : xorT ts (winW ts w i) = seqB ts w (n + i) := by
        have := seqB_next (ts := ts) R.w1 i
        rw [hwl] at this
        rw [← this, Nat.add_comm]
      have A2 := A.snoc (x := seqB ts w (n + i)) (HSub.push1 hx (.cells [.int .i64 (seqB ts w (n + i))] true 0)) (by omega)
      rw [← runL_succ, rl] at A2
      have ers := runL_succ ts w (n + i)
      rw [ex] at f11
      simp -implicitDefEqProofs (disch := first | assumption | decide | omega | (simp -implicitDefEqProofs only [wpD1] <;> omega) | (refine not_in_one ?_; first | omega | (simp -implicitDefEqProofs only [wpD1] <;> omega) | fail) | (simp -implicitDefEqProofs only [wpD2] <;> assumption) | ((repeat (first | exact HSub.refl _ | assumption | refine HSub.push ?_ _ | refine HSub.reserve ?_ _ | refine HSub.put ?_ (by omega) _)); done) | fail) only [↓wpPre, wpPost, wpPoly, Int.reduceToNat, Int.reducePow, Int.reduceMul, Int.reduceAdd, Int.reduceSub, Int.reduceNeg, Nat.reduceAdd, Nat.reduceMul, Nat.reducePow, Int.reduceLT, Int.reduceLE, Int.reduceEq, Nat.reduceEqDiff, f1, f3, f9, f10, f11, cont_slice, contB_one, A.app, rl, ← ers]
      exact ⟨_, ⟨i + 1, A2, by simp, by omega, rfl⟩, by omega⟩
  · simp -implicitDefEqProofs (disch := first | assumption | decide | omega | (simp -implicitDefEqProofs only [wpD1] <;> omega) | (refine not_in_one ?_; first | omega | (simp -implicitDefEqProofs only [wpD1] <;> omega) | fail) | (simp -implicitDefEqProofs only [wpD2] <;> assumption) | ((repeat (first | exact HSub.refl _ | assumption | refine HSub.push ?_ _ | refine HSub.reserve ?_ _ | refine HSub.put ?_ (by omega) _)); done) | fail) only [↓wpPre, wpPost, wpPoly, Int.reduceToNat, Int.reducePow, Int.reduceMul, Int.reduceAdd, Int.reduceSub, Int.reduceNeg, Nat.reduceAdd, Nat.reduceMul, Nat.reducePow, Int.reduceLT, Int.reduceLE, Int.reduceEq, Nat.reduceEqDiff]
    exact ⟨n + i, A, by omega, by omega, by omega⟩

theorem Run08_spec (hC : Has C T82) {n m : Int} {v1 v2 : AV} {ts w : List Int} {h : Heap} (h1 : RI h v1 ts) (h2 : RI h v2 w) (hm : In64 m) :
    ACalls C 82 [.int .i64 n, v1, v2, .int .i64 m] h (fun r h' => ∃ v', r = lstErr v' (runErr n ts w m) ∧ HSub h h' ∧ RI h' v' (if runErr n ts w m = 0 then runL ts w m.toNat else [])) := by
  have pe : runErr n ts w m = if regErr n ts w = 0 then (if m < 0 ∨ 100000 < m then 4 else 0) else regErr n ts w := rfl
  have hm' := hm
  unfold In64 at hm'
  by_cases c : regErr n ts w = 0
  · rw [if_pos c] at pe
    obtain ⟨k, rfl, R⟩ := regErr_ok c
    (refine calls_intro (hC.body (by decide) tab82) (Nat.le_of_ble_eq_true rfl) ?_); (show wp C _ none B82.code _ _); (simp only [B82]); simp -implicitDefEqProofs (disch := first | assumption | decide | omega | (simp -implicitDefEqProofs only [wpD1] <;> omega) | (refine not_in_one ?_; first | omega | (simp -implicitDefEqProofs only [wpD1] <;> omega) | fail) | (simp -implicitDefEqProofs only [wpD2] <;> assumption) | ((repeat (first | exact HSub.refl _ | assumption | refine HSub.push ?_ _ | refine HSub.reserve ?_ _ | refine HSub.put ?_ (by omega) _)); done) | fail) only [↓wpPre, wpPost, wpPoly, Int.reduceToNat, Int.reducePow, Int.reduceMul, Int.reduceAdd, Int.reduceSub, Int.reduceNeg, Nat.reduceAdd, Nat.reduceMul, Nat.reducePow, Int.reduceLT, Int.reduceLE, Int.reduceEq, Nat.reduceEqDiff]
    refine ACallsK.eq2 (check08_spec (hC.sub (T' := T94) (by decide)) h1 h2) (by rw [c]) ?_
    by_cases c2 : m < 0 ∨ 100000 < m
    · rw [if_pos c2] at pe
      simp -implicitDefEqProofs (disch := first | assumption | decide | omega | (simp -implicitDefEqProofs only [wpD1] <;> omega) | (refine not_in_one ?_; first | omega | (simp -implicitDefEqProofs only [wpD1] <;> omega) | fail) | (simp -implicitDefEqProofs only [wpD2] <;> assumption) | ((repeat (first | exact HSub.refl _ | assumption | refine HSub.push ?_ _ | refine HSub.reserve ?_ _ | refine HSub.put ?_ (by omega) _)); done) | fail) only [↓wpPre, wpPost, wpPoly, Int.reduceToNat, Int.reducePow, Int.reduceMul, Int.reduceAdd, Int.reduceSub, Int.reduceNeg, Nat.reduceAdd, Nat.reduceMul, Nat.reducePow, Int.reduceLT, Int.reduceLE, Int.reduceEq, Nat.reduceEqDiff]
      (repeat' (first | (refine Br.by (fun _ => ?_) (fun _ => ?_)) | (simp -implicitDefEqProofs (disch := first | assumption | decide | omega | (simp -implicitDefEqProofs only [wpD1] <;> omega) | (refine not_in_one ?_; first | omega | (simp -implicitDefEqProofs only [wpD1] <;> omega) | fail) | (simp -implicitDefEqProofs only [wpD2] <;> assumption) | ((repeat (first | exact HSub.refl _ | assumption | refine HSub.push ?_ _ | refine HSub.reserve ?_ _ | refine HSub.put ?_ (by omega) _)); done) | fail) only [↓wpPre, wpPost, wpPoly, Int.reduceToNat, Int.reducePow, Int.reduceMul, Int.reduceAdd, Int.reduceSub, Int.reduceNeg, Nat.reduceAdd, Nat.reduceMul, Nat.reducePow, Int.reduceLT, Int.reduceLE, Int.reduceEq, Nat.reduceEqDiff])))
      all_goals first | exact ⟨.nilslice, by rw [pe, lstErr], HSub.refl _, by rw [if_neg (by rw [pe]; decide)]; exact RI.nil⟩ | omega
    · rw [if_neg c2] at pe
      obtain ⟨q, rfl⟩ := Int.eq_ofNat_of_zero_le (show 0 ≤ m by omega)
      simp -implicitDefEqProofs (disch := first | assumption | decide | omega | (simp -implicitDefEqProofs only [wpD1] <;> omega) | (refine not_in_one ?_; first | omega | (simp -implicitDefEqProofs only [wpD1] <;> omega) | fail) | (simp -implicitDefEqProofs only [wpD2] <;> assumption) | ((repeat (first | exact HSub.refl _ | assumption | refine HSub.push ?_ _ | refine HSub.reserve ?_ _ | refine HSub.put ?_ (by omega) _)); done) | fail) only [↓wpPre, wpPost, wpPoly, Int.reduceToNat, Int.reducePow, Int.reduceMul, Int.reduceAdd, Int.reduceSub, Int.reduceNeg, Nat.reduceAdd, Nat.reduceMul, Nat.reducePow, Int.reduceLT, Int.reduceLE, Int.reduceEq, Nat.reduceEqDiff]
      refine ACallsK.of (run08_spec (hC.sub (T' := T91) (by decide)) h1 h2 R (by omega) hm) ?_
      rintro r h' ⟨L, A, hL1, hL2, hL3⟩
      have RA := A.ri
      have rl := runL_length ts w L
      have Pa := RA.part_b (k2 := .i64) (b := ((q : Nat) : Int)) (by omega)
      obtain ⟨wa, ea, Rwa⟩ := Pa
      simp -implicitDefEqProofs (disch := first | assumption | decide | omega | (simp -implicitDefEqProofs only [wpD1] <;> omega) | (refine not_in_one ?_; first | omega | (simp -implicitDefEqProofs only [wpD1] <;> omega) | fail) | (simp -implicitDefEqProofs only [wpD2] <;> assumption) | ((repeat (first | exact HSub.refl _ | assumption | refine HSub.push ?_ _ | refine HSub.reserve ?_ _ | refine HSub.put ?_ (by omega) _)); done) | fail) only [↓wpPre, wpPost, wpPoly, Int.reduceToNat, Int.reducePow, Int.reduceMul, Int.reduceAdd, Int.reduceSub, Int.reduceNeg, Nat.reduceAdd, Nat.reduceMul, Nat.reducePow, Int.reduceLT, Int.reduceLE, Int.reduceEq, Nat.reduceEqDiff, ea]
      refine ⟨wa, by rw [pe, lstErr], A.sub, ?_⟩
      rw [if_pos pe]
      rw [runL_take (by omega)] at Rwa
      simpa using Rwa
  · rw [if_neg c] at pe
    (refine calls_intro (hC.body (by decide) tab82) (Nat.le_of_ble_eq_true rfl) ?_); (show wp C _ none B82.code _ _); (simp only [B82]); simp -implicitDefEqProofs (disch := first | assumption | decide | omega | (simp -implicitDefEqProofs only [wpD1] <;> omega) | (refine not_in_one ?_; first | omega | (simp -implicitDefEqProofs only [wpD1] <;> omega) | fail) | (simp -implicitDefEqProofs only [wpD2] <;> assumption) | ((repeat (first | exact HSub.refl _ | assumption | refine HSub.push ?_ _ | refine HSub.reserve ?_ _ | refine HSub.put ?_ (by omega) _)); done) | fail) only [↓wpPre, wpPost, wpPoly, Int.reduceToNat, Int.reducePow, Int.reduceMul, Int.reduceAdd, Int.reduceSub, Int.reduceNeg, Nat.reduceAdd, Nat.reduceMul, Nat.reducePow, Int.reduceLT, Int.reduceLE, Int.reduceEq, Nat.reduceEqDiff]
    refine ACallsK.eq (check08_spec (hC.sub (T' := T94) (by decide)) h1 h2) ?_
    simp -implicitDefEqProofs (disch := first | assumption | decide | omega | (simp -implicitDefEqProofs only [wpD1] <;> omega) | (refine not_in_one ?_; first | omega | (simp -implicitDefEqProofs only [wpD1] <;> omega) | fail) | (simp -implicitDefEqProofs only [wpD2] <;> assumption) | ((repeat (first | exact HSub.refl _ | assumption | refine HSub.push ?_ _ | refine HSub.reserve ?_ _ | refine HSub.put ?_ (by omega) _)); done) | fail) only [↓wpPre, wpPost, wpPoly, Int.reduceToNat, Int.reducePow, Int.reduceMul, Int.reduceAdd, Int.reduceSub, Int.reduceNeg, Nat.reduceAdd, Nat.reduceMul, Nat.reducePow, Int.reduceLT, Int.reduceLE, Int.reduceEq, Nat.reduceEqDiff]
    exact ⟨.nilslice, by rw [pe, lstErr], HSub.refl _, by rw [if_neg (by rw [pe]; exact c)]; exact RI.nil⟩
end
end Go.Ae

/- The reference's periods; the statement on registers of layer 8. -/
set_option linter.unusedSimpArgs false
set_option linter.unusedVariables false
namespace Go.Ae
theorem all_take {l m : List Int} {k q : Nat} : ((List.range (q + 1)).all fun i => l.getD (k + i) 0 == m.getD i 0) = (((List.range q).all fun i => l.getD (k + i) 0 == m.getD i 0) && (l.getD (k + q) 0 == m.getD q 0)) := by
  rw [List.range_succ, List.all_append]; simp
section
variable {C : Ctx}
set_option maxRecDepth 100000 in
set_option maxHeartbeats 1000000 in
theorem Period08_spec (hC : Has C T84) {n : Int} {v1 v2 : AV} {ts w : List Int} {K : Nat} {h : Heap} (h1 : RI h v1 ts) (h2 : RI h v2 w) (hK : regErr n ts w = 0 → IsPeriod ts w K ∧ (K : Int) ≤ 2 ^ n.toNat) (hK2 : K ≤ 65536) :
    ACalls C 84 [.int .i64 n, v1, v2] h (fun r h' => r = (if regErr n ts w = 0 then tup2 K 0 else tup2 0 (regErr n ts w)) ∧ HSub h h') := by
  by_cases c : regErr n ts w = 0
  · obtain ⟨k0, rfl, R⟩ := regErr_ok c
    obtain ⟨hP, hPK⟩ := hK c
    rw [if_pos c]
    rw [Int.toNat_natCast, cast_pow] at hPK
    have hn2 := R.n2
    have hn16 := R.n16
    have hwl := R.len
    have hpw := pow_le16 hn16
    have ec := cast_pow k0
    obtain ⟨P, hPp⟩ : ∃ P, P = 2 ^ k0 := ⟨_, rfl⟩
    rw [← hPp] at hpw ec hPK
    (refine calls_intro (hC.body (by decide) tab84) (Nat.le_of_ble_eq_true rfl) ?_); (show wp C _ none B84.code _ _); (simp only [B84]); simp -implicitDefEqProofs (disch := first | assumption | decide | omega | (simp -implicitDefEqProofs only [wpD1] <;> omega) | (refine not_in_one ?_; first | omega | (simp -implicitDefEqProofs only [wpD1] <;> omega) | fail) | (simp -implicitDefEqProofs only [wpD2] <;> assumption) | ((repeat (first | exact HSub.refl _ | assumption | refine HSub.push ?_ _ | refine HSub.reserve ?_ _ | refine HSub.put ?_ (by omega) _)); done) | fail) only [↓wpPre, wpPost, wpPoly, Int.reduceToNat, Int.reducePow, Int.reduceMul, Int.reduceAdd, Int.reduceSub, Int.reduceNeg, Nat.reduceAdd, Nat.reduceMul, Nat.reducePow, Int.reduceLT, Int.reduceLE, Int.reduceEq, Nat.reduceEqDiff]
    refine ACallsK.eq2 (check08_spec (hC.sub (T' := T94) (by decide)) h1 h2) (by rw [c]) ?_
    simp -implicitDefEqProofs (disch := first | assumption | decide | omega | (simp -implicitDefEqProofs only [wpD1] <;> omega) | (refine not_in_one ?_; first | omega | (simp -implicitDefEqProofs only [wpD1] <;> omega) | fail) | (simp -implicitDefEqProofs only [wpD2] <;> assumption) | ((repeat (first | exact HSub.refl _ | assumption | refine HSub.push ?_ _ | refine HSub.reserve ?_ _ | refine HSub.put ?_ (by omega) _)); done) | fail) only [↓wpPre, wpPost, wpPoly, Int.reduceToNat, Int.reducePow, Int.reduceMul, Int.reduceAdd, Int.reduceSub, Int.reduceNeg, Nat.reduceAdd, Nat.reduceMul, Nat.reducePow, Int.reduceLT, Int.reduceLE, Int.reduceEq, Nat.reduceEqDiff, Int.one_mul, ec]
    refine ACallsK.of (run08_spec (hC.sub (T' := T91) (by decide)) (m := (P : Int) + k0) h1 h2 R (by omega) (by unfold In64; omega)) ?_
    rintro r h' ⟨L, A, hL1, hL2, hL3⟩
    have RA := A.ri
    have rl := runL_length ts w L
    have h2' := h2.mono A.sub
    have hsame : ∀ k, k + k0 ≤ L → ((List.range k0).all fun i => (runL ts w L).getD (k + i) 0 == w.getD i 0) = decide (winW ts w k = w) := by
      intro k hk
      rw [Bool.eq_iff_iff]
      simp only [List.all_eq_true, List.mem_range, beq_iff_eq, decide_eq_true_eq]
      have hg : ∀ i, i < k0 → (runL ts w L).getD (k + i) 0 = (winW ts w k).getD i 0 := fun i hi => by
        rw [runL_get (by omega), winW_get R.w1 i k (by omega)]
      constructor
      · intro h
        refine seq_ext (by rw [winW_length R.w1]) fun i hi => ?_
        rw [winW_length R.w1, hwl] at hi
        rw [← hg i hi, h i hi]
      · intro h i hi
        rw [hg i hi, h]
    simp -implicitDefEqProofs (disch := first | assumption | decide | omega | (simp -implicitDefEqProofs only [wpD1] <;> omega) | (refine not_in_one ?_; first | omega | (simp -implicitDefEqProofs only [wpD1] <;> omega) | fail) | (simp -implicitDefEqProofs only [wpD2] <;> assumption) | ((repeat (first | exact HSub.refl _ | assumption | refine HSub.push ?_ _ | refine HSub.reserve ?_ _ | refine HSub.put ?_ (by omega) _)); done) | fail) only [↓wpPre, wpPost, wpPoly, Int.reduceToNat, Int.reducePow, Int.reduceMul, Int.reduceAdd, Int.reduceSub, Int.reduceNeg, Nat.reduceAdd, Nat.reduceMul, Nat.reducePow, Int.reduceLT, Int.reduceLE, Int.reduceEq, Nat.reduceEqDiff]
    refine wp_loopI (fun j t hx => hx = h' ∧ ∃ k : Nat, t 0 = .int .i64 (k0 : Nat) ∧ t 2 = v2 ∧ t 9 = r ∧ t 10 = .int .i64 (k : Nat) ∧ 1 ≤ k ∧ k ≤ K ∧ (∀ q, 1 ≤ q → q < k → winW ts w q ≠ w) ∧ j = K - k) (j0 := K - 1)
      ⟨rfl, 1, rfl, rfl, rfl, rfl, by omega, hP.1, fun q h1 h2 => by omega, rfl⟩ ?_
    rintro j t hx ⟨hh, k, e0, e2, e9, e10, hk1, hk2, hne, hj⟩
    subst hh
    simp -implicitDefEqProofs (disch := first | assumption | decide | omega | (simp -implicitDefEqProofs only [wpD1] <;> omega) | (refine not_in_one ?_; first | omega | (simp -implicitDefEqProofs only [wpD1] <;> omega) | fail) | (simp -implicitDefEqProofs only [wpD2] <;> assumption) | ((repeat (first | exact HSub.refl _ | assumption | refine HSub.push ?_ _ | refine HSub.reserve ?_ _ | refine HSub.put ?_ (by omega) _)); done) | fail) only [↓wpPre, wpPost, wpPoly, Int.reduceToNat, Int.reducePow, Int.reduceMul, Int.reduceAdd, Int.reduceSub, Int.reduceNeg, Nat.reduceAdd, Nat.reduceMul, Nat.reducePow, Int.reduceLT, Int.reduceLE, Int.reduceEq, Nat.reduceEqDiff]
    refine wp_loopI (fun j u hy => hy = hx ∧ ∃ q : Nat, u 0 = .int .i64 (k0 : Nat) ∧ u 2 = v2 ∧ u 9 = r ∧ u 10 = .int .i64 (k : Nat) ∧ u 11 = .bool ((List.range q).all fun i => (runL ts w L).getD (k + i) 0 == w.getD i 0) ∧ u 12 = .int .i64 (q : Nat) ∧ q ≤ k0 ∧ j = k0 - q) (j0 := k0)
      ⟨rfl, 0, e0, e2, e9, e10, rfl, rfl, by omega, rfl⟩ ?_
    rintro j u hy ⟨hh, q, f0, f2, f9, f10, f11, f12, hq, hj⟩
    subst hh
    simp -implicitDefEqProofs (disch := first | assumption | decide | omega | (simp -implicitDefEqProofs only [wpD1] <;> omega) | (refine not_in_one ?_; first | omega | (simp -implicitDefEqProofs only [wpD1] <;> omega) | fail) | (simp -implicitDefEqProofs only [wpD2] <;> assumption) | ((repeat (first | exact HSub.refl _ | assumption | refine HSub.push ?_ _ | refine HSub.reserve ?_ _ | refine HSub.put ?_ (by omega) _)); done) | fail) only [↓wpPre, wpPost, wpPoly, Int.reduceToNat, Int.reducePow, Int.reduceMul, Int.reduceAdd, Int.reduceSub, Int.reduceNeg, Nat.reduceAdd, Nat.reduceMul, Nat.reducePow, Int.reduceLT, Int.reduceLE, Int.reduceEq, Nat.reduceEqDiff, f0, f12]
    refine Br.by (fun c2 => ?_) (fun c2 => ?_)
    · have hq' : q < k0 := by omega
      have ei : ((k : Int) + q).toNat = k + q := by omega
      have ea := all_take (l := runL ts w L) (m := w) (k := k) (q := q)
      by_cases cb : ((List.range q).all fun i => (runL ts w L).getD (k + i) 0 == w.getD i 0) = true
      · rw [cb] at f11 ea
        rw [Bool.true_and] at ea
        simp -implicitDefEqProofs (disch := first | assumption | decide | omega | (simp -implicitDefEqProofs only [wpD1] <;> omega) | (refine not_in_one ?_; first | omega | (simp -implicitDefEqProofs only [wpD1] <;> omega) | fail) | (simp -implicitDefEqProofs only [wpD2] <;> assumption) | ((repeat (first | exact HSub.refl _ | assumption | refine HSub.push ?_ _ | refine HSub.reserve ?_ _ | refine HSub.put ?_ (by omega) _)); done) | fail) only [↓wpPre, wpPost, wpPoly, Int.reduceToNat, Int.reducePow, Int.reduceMul, Int.reduceAdd, Int.reduceSub, Int.reduceNeg, Nat.reduceAdd, Nat.reduceMul, Nat.reducePow, Int.reduceLT, Int.reduceLE, Int.reduceEq, Nat.reduceEqDiff, f0, f2, f9, f10, f11, f12, RA.idx, RA.load, h2'.idx, h2'.load, ei]
        refine ⟨_, ⟨q + 1, ?_, by simp, by omega, rfl⟩, by omega⟩
        rw [ea, Bool.beq_eq_decide_eq]
      · have cb' : ((List.range q).all fun i => (runL ts w L).getD (k + i) 0 == w.getD i 0) = false := Bool.eq_false_iff.2 cb
        rw [cb'] at f11 ea
        rw [Bool.false_and] at ea
        simp -implicitDefEqProofs (disch := first | assumption | decide | omega | (simp -implicitDefEqProofs only [wpD1] <;> omega) | (refine not_in_one ?_; first | omega | (simp -implicitDefEqProofs only [wpD1] <;> omega) | fail) | (simp -implicitDefEqProofs only [wpD2] <;> assumption) | ((repeat (first | exact HSub.refl _ | assumption | refine HSub.push ?_ _ | refine HSub.reserve ?_ _ | refine HSub.put ?_ (by omega) _)); done) | fail) only [↓wpPre, wpPost, wpPoly, Int.reduceToNat, Int.reducePow, Int.reduceMul, Int.reduceAdd, Int.reduceSub, Int.reduceNeg, Nat.reduceAdd, Nat.reduceMul, Nat.reducePow, Int.reduceLT, Int.reduceLE, Int.reduceEq, Nat.reduceEqDiff, f0, f2, f9, f10, f11, f12]
        exact ⟨_, ⟨q + 1, by rw [ea], by simp, by omega, rfl⟩, by omega⟩
    · have : q = k0 := by omega
      subst this
      rw [hsame k (by omega)] at f11
      simp -implicitDefEqProofs (disch := first | assumption | decide | omega | (simp -implicitDefEqProofs only [wpD1] <;> omega) | (refine not_in_one ?_; first | omega | (simp -implicitDefEqProofs only [wpD1] <;> omega) | fail) | (simp -implicitDefEqProofs only [wpD2] <;> assumption) | ((repeat (first | exact HSub.refl _ | assumption | refine HSub.push ?_ _ | refine HSub.reserve ?_ _ | refine HSub.put ?_ (by omega) _)); done) | fail) only [↓wpPre, wpPost, wpPoly, Int.reduceToNat, Int.reducePow, Int.reduceMul, Int.reduceAdd, Int.reduceSub, Int.reduceNeg, Nat.reduceAdd, Nat.reduceMul, Nat.reducePow, Int.reduceLT, Int.reduceLE, Int.reduceEq, Nat.reduceEqDiff, f11]
      refine Br.by (fun c3 => ?_) (fun c3 => ?_)
      · have : k = K := by
          rcases Nat.lt_or_ge k K with x | x
          · exact absurd c3 (hP.2.2 k hk1 x)
          · omega
        subst this
        simp -implicitDefEqProofs (disch := first | assumption | decide | omega | (simp -implicitDefEqProofs only [wpD1] <;> omega) | (refine not_in_one ?_; first | omega | (simp -implicitDefEqProofs only [wpD1] <;> omega) | fail) | (simp -implicitDefEqProofs only [wpD2] <;> assumption) | ((repeat (first | exact HSub.refl _ | assumption | refine HSub.push ?_ _ | refine HSub.reserve ?_ _ | refine HSub.put ?_ (by omega) _)); done) | fail) only [↓wpPre, wpPost, wpPoly, Int.reduceToNat, Int.reducePow, Int.reduceMul, Int.reduceAdd, Int.reduceSub, Int.reduceNeg, Nat.reduceAdd, Nat.reduceMul, Nat.reducePow, Int.reduceLT, Int.reduceLE, Int.reduceEq, Nat.reduceEqDiff, f10]
        exact ⟨rfl, A.sub⟩
      · have hlt : k < K := by
          rcases Nat.lt_or_ge k K with x | x
          · exact x
          · have : k = K := by omega
            rw [this] at c3; exact absurd hP.2.1 c3
        simp -implicitDefEqProofs (disch := first | assumption | decide | omega | (simp -implicitDefEqProofs only [wpD1] <;> omega) | (refine not_in_one ?_; first | omega | (simp -implicitDefEqProofs only [wpD1] <;> omega) | fail) | (simp -implicitDefEqProofs only [wpD2] <;> assumption) | ((repeat (first | exact HSub.refl _ | assumption | refine HSub.push ?_ _ | refine HSub.reserve ?_ _ | refine HSub.put ?_ (by omega) _)); done) | fail) only [↓wpPre, wpPost, wpPoly, Int.reduceToNat, Int.reducePow, Int.reduceMul, Int.reduceAdd, Int.reduceSub, Int.reduceNeg, Nat.reduceAdd, Nat.reduceMul, Nat.reducePow, Int.reduceLT, Int.reduceLE, Int.reduceEq, Nat.reduceEqDiff, f0, f2, f9, f10]
        exact ⟨_, ⟨k + 1, by simp, by omega, by omega, fun q h1 h2 => by
          by_cases e : q = k
          · subst e; exact c3
          · exact hne q h1 (by omega), rfl⟩, by omega⟩
  · rw [if_neg c]
    (refine calls_intro (hC.body (by decide) tab84) (Nat.le_of_ble_eq_true rfl) ?_); (show wp C _ none B84.code _ _); (simp only [B84]); simp -implicitDefEqProofs (disch := first | assumption | decide | omega | (simp -implicitDefEqProofs only [wpD1] <;> omega) | (refine not_in_one ?_; first | omega | (simp -implicitDefEqProofs only [wpD1] <;> omega) | fail) | (simp -implicitDefEqProofs only [wpD2] <;> assumption) | ((repeat (first | exact HSub.refl _ | assumption | refine HSub.push ?_ _ | refine HSub.reserve ?_ _ | refine HSub.put ?_ (by omega) _)); done) | fail) only [↓wpPre, wpPost, wpPoly, Int.reduceToNat, Int.reducePow, Int.reduceMul, Int.reduceAdd, Int.reduceSub, Int.reduceNeg, Nat.reduceAdd, Nat.reduceMul, Nat.reducePow, Int.reduceLT, Int.reduceLE, Int.reduceEq, Nat.reduceEqDiff]
    refine ACallsK.eq (check08_spec (hC.sub (T' := T94) (by decide)) h1 h2) ?_
    simp -implicitDefEqProofs (disch := first | assumption | decide | omega | (simp -implicitDefEqProofs only [wpD1] <;> omega) | (refine not_in_one ?_; first | omega | (simp -implicitDefEqProofs only [wpD1] <;> omega) | fail) | (simp -implicitDefEqProofs only [wpD2] <;> assumption) | ((repeat (first | exact HSub.refl _ | assumption | refine HSub.push ?_ _ | refine HSub.reserve ?_ _ | refine HSub.put ?_ (by omega) _)); done) | fail) only [↓wpPre, wpPost, wpPoly, Int.reduceToNat, Int.reducePow, Int.reduceMul, Int.reduceAdd, Int.reduceSub, Int.reduceNeg, Nat.reduceAdd, Nat.reduceMul, Nat.reducePow, Int.reduceLT, Int.reduceLE, Int.reduceEq, Nat.reduceEqDiff]
    exact ⟨rfl, HSub.refl _⟩

end
end Go.Ae

/- Lengths and taps of codes, of the program and of the reference. -/
set_option linter.unusedSimpArgs false
set_option linter.unusedVariables false
namespace Go.Ae

def lenOk (d : Int) : Bool := [5, 6, 7, 9, 10].any fun y => d == y
theorem lenOk_cases {d : Int} (h : lenOk d = true) : d = 5 ∨ d = 6 ∨ d = 7 ∨ d = 9 ∨ d = 10 := by
  simp only [lenOk, List.any_cons, List.any_nil, Bool.or_false, Bool.or_eq_true, beq_iff_eq] at h; exact h
def lenN (d : Int) : Nat := 2 ^ d.toNat - 1
theorem lenN_eq {d : Int} (h : lenOk d = true) : 31 ≤ lenN d ∧ lenN d ≤ 1023 ∧ (2 : Int) ^ d.toNat = ((lenN d + 1 : Nat) : Int) := by
  rcases lenOk_cases h with rfl | rfl | rfl | rfl | rfl <;> decide
def lenE (d : Int) : AV := if lenOk d = true then tup2 (lenN d) 0 else tup2 0 2
/-- The taps of the registers. -/
def tapsL (d w : Int) : List Int :=
  if d = 5 then (if w = 1 then [0, 2] else [0, 2, 3, 4]) else if d = 6 then (if w = 1 then [0, 1] else [0, 1, 2, 5]) else if d = 7 then (if w = 1 then [0, 3] else [0, 1, 2, 3])
  else if d = 9 then (if w = 1 then [0, 4] else [0, 3, 4, 6]) else (if w = 1 then [0, 3] else [0, 2, 3, 8])
def tapsErr (d w : Int) : Int := if lenOk d = true ∧ (w = 1 ∨ w = 2) then 0 else 2
theorem idxVal_agg {agg : Bool} {sz len : Nat} {vs : List AV} {kk : IntKind} {k : Int} (h : 0 ≤ k ∧ k < len) : idxValA agg sz len (.agg vs) (.int kk k) = partA agg vs (k.toNat * sz) sz := by simp [idxValA, h]
section
variable {C : Ctx}
theorem Length_spec (hC : Has C T70) {d : Int} {h : Heap} (hd : In64 d) : ACalls C 70 [.int .i64 d] h (fun r h' => r = lenE d ∧ h' = h) := by
  unfold In64 at hd
  refine ACalls.gc0 (P := fun r h' => r = lenE d ∧ HSub h h') ?_ (fun r h' hp => ⟨by rw [hp.1]; unfold lenE tup2; split <;> exact free_tuple (by simp [AV.free, AV.bel]), hp.2, hp.1, rfl⟩)
  (refine calls_intro (hC.body (by decide) tab70) (Nat.le_of_ble_eq_true rfl) ?_); (show wp C _ none B70.code _ _); (simp only [B70]); simp -implicitDefEqProofs (disch := first | assumption | decide | omega | (simp -implicitDefEqProofs only [wpD1] <;> omega) | (refine not_in_one ?_; first | omega | (simp -implicitDefEqProofs only [wpD1] <;> omega) | fail) | (simp -implicitDefEqProofs only [wpD2] <;> assumption) | ((repeat (first | exact HSub.refl _ | assumption | refine HSub.push ?_ _ | refine HSub.reserve ?_ _ | refine HSub.put ?_ (by omega) _)); done) | fail) only [↓wpPre, wpPost, wpPoly, Int.reduceToNat, Int.reducePow, Int.reduceMul, Int.reduceAdd, Int.reduceSub, Int.reduceNeg, Nat.reduceAdd, Nat.reduceMul, Nat.reducePow, Int.reduceLT, Int.reduceLE, Int.reduceEq, Nat.reduceEqDiff]
  refine ACallsK.eq (Contains_spec (hC.sub (T' := T89) (by decide)) (l := [5, 6, 7, 9, 10]) (RI.known (get_push_eq rfl) ⟨rfl, by decide⟩ (by decide))) ?_
  by_cases c : lenOk d = true
  · have hl := lenN_eq c
    have hc := lenOk_cases c
    have c' : ([5, 6, 7, 9, 10].any fun y => d == y) = true := c
    rw [c']
    simp -implicitDefEqProofs (disch := first | assumption | decide | omega | (simp -implicitDefEqProofs only [wpD1] <;> omega) | (refine not_in_one ?_; first | omega | (simp -implicitDefEqProofs only [wpD1] <;> omega) | fail) | (simp -implicitDefEqProofs only [wpD2] <;> assumption) | ((repeat (first | exact HSub.refl _ | assumption | refine HSub.push ?_ _ | refine HSub.reserve ?_ _ | refine HSub.put ?_ (by omega) _)); done) | fail) only [↓wpPre, wpPost, wpPoly, Int.reduceToNat, Int.reducePow, Int.reduceMul, Int.reduceAdd, Int.reduceSub, Int.reduceNeg, Nat.reduceAdd, Nat.reduceMul, Nat.reducePow, Int.reduceLT, Int.reduceLE, Int.reduceEq, Nat.reduceEqDiff, Int.one_mul, hl.2.2]
    exact ⟨by unfold lenE tup2; rw [if_pos c]; simp, HSub.push1 _ _⟩
  · have c' : ([5, 6, 7, 9, 10].any fun y => d == y) = false := Bool.eq_false_iff.2 c
    rw [c']
    simp -implicitDefEqProofs (disch := first | assumption | decide | omega | (simp -implicitDefEqProofs only [wpD1] <;> omega) | (refine not_in_one ?_; first | omega | (simp -implicitDefEqProofs only [wpD1] <;> omega) | fail) | (simp -implicitDefEqProofs only [wpD2] <;> assumption) | ((repeat (first | exact HSub.refl _ | assumption | refine HSub.push ?_ _ | refine HSub.reserve ?_ _ | refine HSub.put ?_ (by omega) _)); done) | fail) only [↓wpPre, wpPost, wpPoly, Int.reduceToNat, Int.reducePow, Int.reduceMul, Int.reduceAdd, Int.reduceSub, Int.reduceNeg, Nat.reduceAdd, Nat.reduceMul, Nat.reducePow, Int.reduceLT, Int.reduceLE, Int.reduceEq, Nat.reduceEqDiff]
    exact ⟨by unfold lenE tup2; rw [if_neg c], HSub.push1 _ _⟩
theorem Length08_spec (hC : Has C T71) {d : Int} {h : Heap} (hd : In64 d) : ACalls C 71 [.int .i64 d] h (fun r h' => r = lenE d ∧ h' = h) := by
  unfold In64 at hd
  by_cases c : lenOk d = true
  · have e : lenE d = tup2 (lenN d) 0 := by unfold lenE; rw [if_pos c]
    rw [e]
    have hl := lenN_eq c
    have e2 : ((lenN d + 1 : Nat) : Int) - 1 = lenN d := by omega
    rcases lenOk_cases c with rfl | rfl | rfl | rfl | rfl <;>
    · (refine calls_intro (hC.body (by decide) tab71) (Nat.le_of_ble_eq_true rfl) ?_); (show wp C _ none B71.code _ _); (simp only [B71]); simp -implicitDefEqProofs (disch := first | assumption | decide | omega | (simp -implicitDefEqProofs only [wpD1] <;> omega) | (refine not_in_one ?_; first | omega | (simp -implicitDefEqProofs only [wpD1] <;> omega) | fail) | (simp -implicitDefEqProofs only [wpD2] <;> assumption) | ((repeat (first | exact HSub.refl _ | assumption | refine HSub.push ?_ _ | refine HSub.reserve ?_ _ | refine HSub.put ?_ (by omega) _)); done) | fail) only [↓wpPre, wpPost, wpPoly, Int.reduceToNat, Int.reducePow, Int.reduceMul, Int.reduceAdd, Int.reduceSub, Int.reduceNeg, Nat.reduceAdd, Nat.reduceMul, Nat.reducePow, Int.reduceLT, Int.reduceLE, Int.reduceEq, Nat.reduceEqDiff]
      rfl
  · have e : lenE d = tup2 0 2 := by unfold lenE; rw [if_neg c]
    rw [e]
    have h5 : d ≠ 5 := fun h => c (by rw [h]; decide)
    have h6 : d ≠ 6 := fun h => c (by rw [h]; decide)
    have h7 : d ≠ 7 := fun h => c (by rw [h]; decide)
    have h9 : d ≠ 9 := fun h => c (by rw [h]; decide)
    have h10 : d ≠ 10 := fun h => c (by rw [h]; decide)
    (refine calls_intro (hC.body (by decide) tab71) (Nat.le_of_ble_eq_true rfl) ?_); (show wp C _ none B71.code _ _); (simp only [B71]); simp -implicitDefEqProofs (disch := first | assumption | decide | omega | (simp -implicitDefEqProofs only [wpD1] <;> omega) | (refine not_in_one ?_; first | omega | (simp -implicitDefEqProofs only [wpD1] <;> omega) | fail) | (simp -implicitDefEqProofs only [wpD2] <;> assumption) | ((repeat (first | exact HSub.refl _ | assumption | refine HSub.push ?_ _ | refine HSub.reserve ?_ _ | refine HSub.put ?_ (by omega) _)); done) | fail) only [↓wpPre, wpPost, wpPoly, Int.reduceToNat, Int.reducePow, Int.reduceMul, Int.reduceAdd, Int.reduceSub, Int.reduceNeg, Nat.reduceAdd, Nat.reduceMul, Nat.reducePow, Int.reduceLT, Int.reduceLE, Int.reduceEq, Nat.reduceEqDiff]
    rfl
end
end Go.Ae

/- Taps of the program and of the reference. -/
set_option linter.unusedSimpArgs false
set_option linter.unusedVariables false
namespace Go.Ae
/-- The rows that hold the taps of the table. -/
def TapRows (b : Nat) (h : Heap) : Prop :=
  h.get b = some (.cells (ints [0, 2]) true 0) ∧ h.get (b + 1) = some (.cells (ints [0, 2, 3, 4]) true 0) ∧ h.get (b + 2) = some (.cells (ints [0, 1]) true 0) ∧ h.get (b + 3) = some (.cells (ints [0, 1, 2, 5]) true 0) ∧
  h.get (b + 4) = some (.cells (ints [0, 3]) true 0) ∧ h.get (b + 5) = some (.cells (ints [0, 1, 2, 3]) true 0) ∧ h.get (b + 6) = some (.cells (ints [0, 4]) true 0) ∧ h.get (b + 7) = some (.cells (ints [0, 3, 4, 6]) true 0) ∧
  h.get (b + 8) = some (.cells (ints [0, 3]) true 0) ∧ h.get (b + 9) = some (.cells (ints [0, 2, 3, 8]) true 0)
theorem TapRows.mono {b : Nat} {h h' : Heap} (T : TapRows b h) (hs : HSub h h') : TapRows b h' := by
  obtain ⟨a0, a1, a2, a3, a4, a5, a6, a7, a8, a9⟩ := T
  have k : ∀ {i x}, h.get i = some x → h'.get i = some x := fun e => (hs.get _ (Heap.lt_of_get e)).trans e
  exact ⟨k a0, k a1, k a2, k a3, k a4, k a5, k a6, k a7, k a8, k a9⟩
def tapTab (b : Nat) : AV := .agg [.int .i64 5, .slice b 0 2 (.known 2), .slice (b + 1) 0 4 (.known 4), .int .i64 6, .slice (b + 2) 0 2 (.known 2), .slice (b + 3) 0 4 (.known 4), .int .i64 7, .slice (b + 4) 0 2 (.known 2), .slice (b + 5) 0 4 (.known 4),
  .int .i64 9, .slice (b + 6) 0 2 (.known 2), .slice (b + 7) 0 4 (.known 4), .int .i64 10, .slice (b + 8) 0 2 (.known 2), .slice (b + 9) 0 4 (.known 4)]
section
variable {C : Ctx}
set_option maxRecDepth 100000 in
set_option maxHeartbeats 4000000 in
theorem Taps_spec (hC : Has C T72) {d w : Int} {h : Heap} (hd : In64 d) (hw : In64 w) : ACalls C 72 [.int .i64 d, .int .i64 w] h (fun r h' => ∃ v, r = lstErr v (tapsErr d w) ∧ HSub h h' ∧ RI h' v (if tapsErr d w = 0 then tapsL d w else [])) := by
  unfold In64 at hw
  by_cases c : lenOk d = true
  · have e : lenE d = tup2 (lenN d) 0 := by unfold lenE; rw [if_pos c]
    by_cases cw : w = 1 ∨ w = 2
    · have pe : tapsErr d w = 0 := by unfold tapsErr; rw [if_pos ⟨c, cw⟩]
      rw [pe]
      (refine calls_intro (hC.body (by decide) tab72) (Nat.le_of_ble_eq_true rfl) ?_); (show wp C _ none B72.code _ _); (simp only [B72]); simp -implicitDefEqProofs (disch := first | assumption | decide | omega | (simp -implicitDefEqProofs only [wpD1] <;> omega) | (refine not_in_one ?_; first | omega | (simp -implicitDefEqProofs only [wpD1] <;> omega) | fail) | (simp -implicitDefEqProofs only [wpD2] <;> assumption) | ((repeat (first | exact HSub.refl _ | assumption | refine HSub.push ?_ _ | refine HSub.reserve ?_ _ | refine HSub.put ?_ (by omega) _)); done) | fail) only [↓wpPre, wpPost, wpPoly, Int.reduceToNat, Int.reducePow, Int.reduceMul, Int.reduceAdd, Int.reduceSub, Int.reduceNeg, Nat.reduceAdd, Nat.reduceMul, Nat.reducePow, Int.reduceLT, Int.reduceLE, Int.reduceEq, Nat.reduceEqDiff]
      refine ACallsK.eq2 (Length_spec (hC.sub (T' := T70) (by decide)) hd) e ?_
      simp -implicitDefEqProofs (disch := first | assumption | decide | omega | (simp -implicitDefEqProofs only [wpD1] <;> omega) | (refine not_in_one ?_; first | omega | (simp -implicitDefEqProofs only [wpD1] <;> omega) | fail) | (simp -implicitDefEqProofs only [wpD2] <;> assumption) | ((repeat (first | exact HSub.refl _ | assumption | refine HSub.push ?_ _ | refine HSub.reserve ?_ _ | refine HSub.put ?_ (by omega) _)); done) | fail) only [↓wpPre, wpPost, wpPoly, Int.reduceToNat, Int.reducePow, Int.reduceMul, Int.reduceAdd, Int.reduceSub, Int.reduceNeg, Nat.reduceAdd, Nat.reduceMul, Nat.reducePow, Int.reduceLT, Int.reduceLE, Int.reduceEq, Nat.reduceEqDiff, tup2]
      refine wp_loopI (fun j t h' => ∃ i : Nat, i ≤ 4 ∧ HSub h h' ∧ TapRows h.size h' ∧ t 0 = .int .i64 d ∧ t 1 = .int .i64 w ∧ t 46 = tapTab h.size ∧ t 47 = .int .i64 (i : Nat) ∧ (∀ y ∈ ([5, 6, 7, 9, 10] : List Int).take i, d ≠ y) ∧ j = 5 - i) (j0 := 5)
        ⟨0, by omega, ?_, ?_, rfl, rfl, rfl, rfl, by simp, rfl⟩ ?_
      · (repeat (first | exact HSub.refl _ | refine HSub.push ?_ _))
      · refine ⟨?_, ?_, ?_, ?_, ?_, ?_, ?_, ?_, ?_, ?_⟩ <;> (simp -implicitDefEqProofs (disch := first | assumption | decide | omega | (simp -implicitDefEqProofs only [wpD1] <;> omega) | (refine not_in_one ?_; first | omega | (simp -implicitDefEqProofs only [wpD1] <;> omega) | fail) | (simp -implicitDefEqProofs only [wpD2] <;> assumption) | ((repeat (first | exact HSub.refl _ | assumption | refine HSub.push ?_ _ | refine HSub.reserve ?_ _ | refine HSub.put ?_ (by omega) _)); done) | fail) only [↓wpPre, wpPost, wpPoly, Int.reduceToNat, Int.reducePow, Int.reduceMul, Int.reduceAdd, Int.reduceSub, Int.reduceNeg, Nat.reduceAdd, Nat.reduceMul, Nat.reducePow, Int.reduceLT, Int.reduceLE, Int.reduceEq, Nat.reduceEqDiff]; try rfl)
      rintro j t h' ⟨i, hi, hs, T, e0, e1, e46, e47, hne, hj⟩
      unfold tapTab at e46
      rcases (show i = 0 ∨ i = 1 ∨ i = 2 ∨ i = 3 ∨ i = 4 by omega) with rfl | rfl | rfl | rfl | rfl
      · by_cases cd : d = 5
        · subst cd
          rcases cw with rfl | rfl
          · simp -implicitDefEqProofs (disch := first | assumption | decide | omega | (simp -implicitDefEqProofs only [wpD1] <;> omega) | (refine not_in_one ?_; first | omega | (simp -implicitDefEqProofs only [wpD1] <;> omega) | fail) | (simp -implicitDefEqProofs only [wpD2] <;> assumption) | ((repeat (first | exact HSub.refl _ | assumption | refine HSub.push ?_ _ | refine HSub.reserve ?_ _ | refine HSub.put ?_ (by omega) _)); done) | fail) only [↓wpPre, wpPost, wpPoly, Int.reduceToNat, Int.reducePow, Int.reduceMul, Int.reduceAdd, Int.reduceSub, Int.reduceNeg, Nat.reduceAdd, Nat.reduceMul, Nat.reducePow, Int.reduceLT, Int.reduceLE, Int.reduceEq, Nat.reduceEqDiff, e0, e1, e46, e47, idxVal_agg]
            exact ⟨.slice (h.size + 0) 0 2 (.known 2), by simp [lstErr], hs.push _, RI.known ((get_push_lt (Heap.lt_of_get T.1)).trans T.1) ⟨rfl, by decide⟩ (by decide)⟩
          · simp -implicitDefEqProofs (disch := first | assumption | decide | omega | (simp -implicitDefEqProofs only [wpD1] <;> omega) | (refine not_in_one ?_; first | omega | (simp -implicitDefEqProofs only [wpD1] <;> omega) | fail) | (simp -implicitDefEqProofs only [wpD2] <;> assumption) | ((repeat (first | exact HSub.refl _ | assumption | refine HSub.push ?_ _ | refine HSub.reserve ?_ _ | refine HSub.put ?_ (by omega) _)); done) | fail) only [↓wpPre, wpPost, wpPoly, Int.reduceToNat, Int.reducePow, Int.reduceMul, Int.reduceAdd, Int.reduceSub, Int.reduceNeg, Nat.reduceAdd, Nat.reduceMul, Nat.reducePow, Int.reduceLT, Int.reduceLE, Int.reduceEq, Nat.reduceEqDiff, e0, e1, e46, e47, idxVal_agg]
            exact ⟨.slice (h.size + 1) 0 4 (.known 4), by simp [lstErr], hs.push _, RI.known ((get_push_lt (Heap.lt_of_get T.2.1)).trans T.2.1) ⟨rfl, by decide⟩ (by decide)⟩
        · simp -implicitDefEqProofs (disch := first | assumption | decide | omega | (simp -implicitDefEqProofs only [wpD1] <;> omega) | (refine not_in_one ?_; first | omega | (simp -implicitDefEqProofs only [wpD1] <;> omega) | fail) | (simp -implicitDefEqProofs only [wpD2] <;> assumption) | ((repeat (first | exact HSub.refl _ | assumption | refine HSub.push ?_ _ | refine HSub.reserve ?_ _ | refine HSub.put ?_ (by omega) _)); done) | fail) only [↓wpPre, wpPost, wpPoly, Int.reduceToNat, Int.reducePow, Int.reduceMul, Int.reduceAdd, Int.reduceSub, Int.reduceNeg, Nat.reduceAdd, Nat.reduceMul, Nat.reducePow, Int.reduceLT, Int.reduceLE, Int.reduceEq, Nat.reduceEqDiff, e0, e1, e46, e47, idxVal_agg]
          exact ⟨_, ⟨1, by omega, hs.push _, T.mono (HSub.push1 _ _), rfl, by simp, fun y hy => (by have hn := hne; simp at hn hy; omega), rfl⟩, by omega⟩
      · by_cases cd : d = 6
        · subst cd
          rcases cw with rfl | rfl
          · simp -implicitDefEqProofs (disch := first | assumption | decide | omega | (simp -implicitDefEqProofs only [wpD1] <;> omega) | (refine not_in_one ?_; first | omega | (simp -implicitDefEqProofs only [wpD1] <;> omega) | fail) | (simp -implicitDefEqProofs only [wpD2] <;> assumption) | ((repeat (first | exact HSub.refl _ | assumption | refine HSub.push ?_ _ | refine HSub.reserve ?_ _ | refine HSub.put ?_ (by omega) _)); done) | fail) only [↓wpPre, wpPost, wpPoly, Int.reduceToNat, Int.reducePow, Int.reduceMul, Int.reduceAdd, Int.reduceSub, Int.reduceNeg, Nat.reduceAdd, Nat.reduceMul, Nat.reducePow, Int.reduceLT, Int.reduceLE, Int.reduceEq, Nat.reduceEqDiff, e0, e1, e46, e47, idxVal_agg]
            exact ⟨.slice (h.size + 2) 0 2 (.known 2), by simp [lstErr], hs.push _, RI.known ((get_push_lt (Heap.lt_of_get T.2.2.1)).trans T.2.2.1) ⟨rfl, by decide⟩ (by decide)⟩
          · simp -implicitDefEqProofs (disch := first | assumption | decide | omega | (simp -implicitDefEqProofs only [wpD1] <;> omega) | (refine not_in_one ?_; first | omega | (simp -implicitDefEqProofs only [wpD1] <;> omega) | fail) | (simp -implicitDefEqProofs only [wpD2] <;> assumption) | ((repeat (first | exact HSub.refl _ | assumption | refine HSub.push ?_ _ | refine HSub.reserve ?_ _ | refine HSub.put ?_ (by omega) _)); done) | fail) only [↓wpPre, wpPost, wpPoly, Int.reduceToNat, Int.reducePow, Int.reduceMul, Int.reduceAdd, Int.reduceSub, Int.reduceNeg, Nat.reduceAdd, Nat.reduceMul, Nat.reducePow, Int.reduceLT, Int.reduceLE, Int.reduceEq, Nat.reduceEqDiff, e0, e1, e46, e47, idxVal_agg]
            exact ⟨.slice (h.size + 3) 0 4 (.known 4), by simp [lstErr], hs.push _, RI.known ((get_push_lt (Heap.lt_of_get T.2.2.2.1)).trans T.2.2.2.1) ⟨rfl, by decide⟩ (by decide)⟩
        · simp -implicitDefEqProofs (disch := first | assumption | decide | omega | (simp -implicitDefEqProofs only [wpD1] <;> omega) | (refine not_in_one ?_; first | omega | (simp -implicitDefEqProofs only [wpD1] <;> omega) | fail) | (simp -implicitDefEqProofs only [wpD2] <;> assumption) | ((repeat (first | exact HSub.refl _ | assumption | refine HSub.push ?_ _ | refine HSub.reserve ?_ _ | refine HSub.put ?_ (by omega) _)); done) | fail) only [↓wpPre, wpPost, wpPoly, Int.reduceToNat, Int.reducePow, Int.reduceMul, Int.reduceAdd, Int.reduceSub, Int.reduceNeg, Nat.reduceAdd, Nat.reduceMul, Nat.reducePow, Int.reduceLT, Int.reduceLE, Int.reduceEq, Nat.reduceEqDiff, e0, e1, e46, e47, idxVal_agg]
          exact ⟨_, ⟨2, by omega, hs.push _, T.mono (HSub.push1 _ _), rfl, by simp, fun y hy => (by have hn := hne; simp at hn hy; omega), rfl⟩, by omega⟩
      · by_cases cd : d = 7
        · subst cd
          rcases cw with rfl | rfl
          · simp -implicitDefEqProofs (disch := first | assumption | decide | omega | (simp -implicitDefEqProofs only [wpD1] <;> omega) | (refine not_in_one ?_; first | omega | (simp -implicitDefEqProofs only [wpD1] <;> omega) | fail) | (simp -implicitDefEqProofs only [wpD2] <;> assumption) | ((repeat (first | exact HSub.refl _ | assumption | refine HSub.push ?_ _ | refine HSub.reserve ?_ _ | refine HSub.put ?_ (by omega) _)); done) | fail) only [↓wpPre, wpPost, wpPoly, Int.reduceToNat, Int.reducePow, Int.reduceMul, Int.reduceAdd, Int.reduceSub, Int.reduceNeg, Nat.reduceAdd, Nat.reduceMul, Nat.reducePow, Int.reduceLT, Int.reduceLE, Int.reduceEq, Nat.reduceEqDiff, e0, e1, e46, e47, idxVal_agg]
            exact ⟨.slice (h.size + 4) 0 2 (.known 2), by simp [lstErr], hs.push _, RI.known ((get_push_lt (Heap.lt_of_get T.2.2.2.2.1)).trans T.2.2.2.2.1) ⟨rfl, by decide⟩ (by decide)⟩
          · simp -implicitDefEqProofs (disch := first | assumption | decide | omega | (simp -implicitDefEqProofs only [wpD1] <;> omega) | (refine not_in_one ?_; first | omega | (simp -implicitDefEqProofs only [wpD1] <;> omega) | fail) | (simp -implicitDefEqProofs only [wpD2] <;> assumption) | ((repeat (first | exact HSub.refl _ | assumption | refine HSub.push ?_ _ | refine HSub.reserve ?_ _ | refine HSub.put ?_ (by omega) _)); done) | fail) only [↓wpPre, wpPost, wpPoly, Int.reduceToNat, Int.reducePow, Int.reduceMul, Int.reduceAdd, Int.reduceSub, Int.reduceNeg, Nat.reduceAdd, Nat.reduceMul, Nat.reducePow, Int.reduceLT, Int.reduceLE, Int.reduceEq, Nat.reduceEqDiff, e0, e1, e46, e47, idxVal_agg]
            exact ⟨.slice (h.size + 5) 0 4 (.known 4), by simp [lstErr], hs.push _, RI.known ((get_push_lt (Heap.lt_of_get T.2.2.2.2.2.1)).trans T.2.2.2.2.2.1) ⟨rfl, by decide⟩ (by decide)⟩
        · simp -implicitDefEqProofs (disch := first | assumption | decide | omega | (simp -implicitDefEqProofs only [wpD1] <;> omega) | (refine not_in_one ?_; first | omega | (simp -implicitDefEqProofs only [wpD1] <;> omega) | fail) | (simp -implicitDefEqProofs only [wpD2] <;> assumption) | ((repeat (first | exact HSub.refl _ | assumption | refine HSub.push ?_ _ | refine HSub.reserve ?_ _ | refine HSub.put ?_ (by omega) _)); done) | fail) only [↓wpPre, wpPost, wpPoly, Int.reduceToNat, Int.reducePow, Int.reduceMul, Int.reduceAdd, Int.reduceSub, Int.reduceNeg, Nat.reduceAdd, Nat.reduceMul, Nat.reducePow, Int.reduceLT, Int.reduceLE, Int.reduceEq, Nat.reduceEqDiff, e0, e1, e46, e47, idxVal_agg]
          exact ⟨_, ⟨3, by omega, hs.push _, T.mono (HSub.push1 _ _), rfl, by simp, fun y hy => (by have hn := hne; simp at hn hy; omega), rfl⟩, by omega⟩
      · by_cases cd : d = 9
        · subst cd
          rcases cw with rfl | rfl
          · simp -implicitDefEqProofs (disch := first | assumption | decide | omega | (simp -implicitDefEqProofs only [wpD1] <;> omega) | (refine not_in_one ?_; first | omega | (simp -implicitDefEqProofs only [wpD1] <;> omega) | fail) | (simp -implicitDefEqProofs only [wpD2] <;> assumption) | ((repeat (first | exact HSub.refl _ | assumption | refine HSub.push ?_ _ | refine HSub.reserve ?_ _ | refine HSub.put ?_ (by omega) _)); done) | fail) only [↓wpPre, wpPost, wpPoly, Int.reduceToNat, Int.reducePow, Int.reduceMul, Int.reduceAdd, Int.reduceSub, Int.reduceNeg, Nat.reduceAdd, Nat.reduceMul, Nat.reducePow, Int.reduceLT, Int.reduceLE, Int.reduceEq, Nat.reduceEqDiff, e0, e1, e46, e47, idxVal_agg]
            exact ⟨.slice (h.size + 6) 0 2 (.known 2), by simp [lstErr], hs.push _, RI.known ((get_push_lt (Heap.lt_of_get T.2.2.2.2.2.2.1)).trans T.2.2.2.2.2.2.1) ⟨rfl, by decide⟩ (by decide)⟩
          · simp -implicitDefEqProofs (disch := first | assumption | decide | omega | (simp -implicitDefEqProofs only [wpD1] <;> omega) | (refine not_in_one ?_; first | omega | (simp -implicitDefEqProofs only [wpD1] <;> omega) | fail) | (simp -implicitDefEqProofs only [wpD2] <;> assumption) | ((repeat (first | exact HSub.refl _ | assumption | refine HSub.push ?_ _ | refine HSub.reserve ?_ _ | refine HSub.put ?_ (by omega) _)); done) | fail) only [↓wpPre, wpPost, wpPoly, Int.reduceToNat, Int.reducePow, Int.reduceMul, Int.reduceAdd, Int.reduceSub, Int.reduceNeg, Nat.reduceAdd, Nat.reduceMul, Nat.reducePow, Int.reduceLT, Int.reduceLE, Int.reduceEq, Nat.reduceEqDiff, e0, e1, e46, e47, idxVal_agg]
            exact ⟨.slice (h.size + 7) 0 4 (.known 4), by simp [lstErr], hs.push _, RI.known ((get_push_lt (Heap.lt_of_get T.2.2.2.2.2.2.2.1)).trans T.2.2.2.2.2.2.2.1) ⟨rfl, by decide⟩ (by decide)⟩
        · simp -implicitDefEqProofs (disch := first | assumption | decide | omega | (simp -implicitDefEqProofs only [wpD1] <;> omega) | (refine not_in_one ?_; first | omega | (simp -implicitDefEqProofs only [wpD1] <;> omega) | fail) | (simp -implicitDefEqProofs only [wpD2] <;> assumption) | ((repeat (first | exact HSub.refl _ | assumption | refine HSub.push ?_ _ | refine HSub.reserve ?_ _ | refine HSub.put ?_ (by omega) _)); done) | fail) only [↓wpPre, wpPost, wpPoly, Int.reduceToNat, Int.reducePow, Int.reduceMul, Int.reduceAdd, Int.reduceSub, Int.reduceNeg, Nat.reduceAdd, Nat.reduceMul, Nat.reducePow, Int.reduceLT, Int.reduceLE, Int.reduceEq, Nat.reduceEqDiff, e0, e1, e46, e47, idxVal_agg]
          exact ⟨_, ⟨4, by omega, hs.push _, T.mono (HSub.push1 _ _), rfl, by simp, fun y hy => (by have hn := hne; simp at hn hy; omega), rfl⟩, by omega⟩
      · by_cases cd : d = 10
        · subst cd
          rcases cw with rfl | rfl
          · simp -implicitDefEqProofs (disch := first | assumption | decide | omega | (simp -implicitDefEqProofs only [wpD1] <;> omega) | (refine not_in_one ?_; first | omega | (simp -implicitDefEqProofs only [wpD1] <;> omega) | fail) | (simp -implicitDefEqProofs only [wpD2] <;> assumption) | ((repeat (first | exact HSub.refl _ | assumption | refine HSub.push ?_ _ | refine HSub.reserve ?_ _ | refine HSub.put ?_ (by omega) _)); done) | fail) only [↓wpPre, wpPost, wpPoly, Int.reduceToNat, Int.reducePow, Int.reduceMul, Int.reduceAdd, Int.reduceSub, Int.reduceNeg, Nat.reduceAdd, Nat.reduceMul, Nat.reducePow, Int.reduceLT, Int.reduceLE, Int.reduceEq, Nat.reduceEqDiff, e0, e1, e46, e47, idxVal_agg]
            exact ⟨.slice (h.size + 8) 0 2 (.known 2), by simp [lstErr], hs.push _, RI.known ((get_push_lt (Heap.lt_of_get T.2.2.2.2.2.2.2.2.1)).trans T.2.2.2.2.2.2.2.2.1) ⟨rfl, by decide⟩ (by decide)⟩
          · simp -implicitDefEqProofs (disch := first | assumption | decide | omega | (simp -implicitDefEqProofs only [wpD1] <;> omega) | (refine not_in_one ?_; first | omega | (simp -implicitDefEqProofs only [wpD1] <;> omega) | fail) | (simp -implicitDefEqProofs only [wpD2] <;> assumption) | ((repeat (first | exact HSub.refl _ | assumption | refine HSub.push ?_ _ | refine HSub.reserve ?_ _ | refine HSub.put ?_ (by omega) _)); done) | fail) only [↓wpPre, wpPost, wpPoly, Int.reduceToNat, Int.reducePow, Int.reduceMul, Int.reduceAdd, Int.reduceSub, Int.reduceNeg, Nat.reduceAdd, Nat.reduceMul, Nat.reducePow, Int.reduceLT, Int.reduceLE, Int.reduceEq, Nat.reduceEqDiff, e0, e1, e46, e47, idxVal_agg]
            exact ⟨.slice (h.size + 9) 0 4 (.known 4), by simp [lstErr], hs.push _, RI.known ((get_push_lt (Heap.lt_of_get T.2.2.2.2.2.2.2.2.2)).trans T.2.2.2.2.2.2.2.2.2) ⟨rfl, by decide⟩ (by decide)⟩
        · exfalso
          rcases lenOk_cases c with h | h | h | h | h <;> simp_all
    · have pe : tapsErr d w = 2 := by unfold tapsErr; rw [if_neg (fun h => cw h.2)]
      rw [pe]
      (refine calls_intro (hC.body (by decide) tab72) (Nat.le_of_ble_eq_true rfl) ?_); (show wp C _ none B72.code _ _); (simp only [B72]); simp -implicitDefEqProofs (disch := first | assumption | decide | omega | (simp -implicitDefEqProofs only [wpD1] <;> omega) | (refine not_in_one ?_; first | omega | (simp -implicitDefEqProofs only [wpD1] <;> omega) | fail) | (simp -implicitDefEqProofs only [wpD2] <;> assumption) | ((repeat (first | exact HSub.refl _ | assumption | refine HSub.push ?_ _ | refine HSub.reserve ?_ _ | refine HSub.put ?_ (by omega) _)); done) | fail) only [↓wpPre, wpPost, wpPoly, Int.reduceToNat, Int.reducePow, Int.reduceMul, Int.reduceAdd, Int.reduceSub, Int.reduceNeg, Nat.reduceAdd, Nat.reduceMul, Nat.reducePow, Int.reduceLT, Int.reduceLE, Int.reduceEq, Nat.reduceEqDiff]
      refine ACallsK.eq2 (Length_spec (hC.sub (T' := T70) (by decide)) hd) e ?_
      simp -implicitDefEqProofs (disch := first | assumption | decide | omega | (simp -implicitDefEqProofs only [wpD1] <;> omega) | (refine not_in_one ?_; first | omega | (simp -implicitDefEqProofs only [wpD1] <;> omega) | fail) | (simp -implicitDefEqProofs only [wpD2] <;> assumption) | ((repeat (first | exact HSub.refl _ | assumption | refine HSub.push ?_ _ | refine HSub.reserve ?_ _ | refine HSub.put ?_ (by omega) _)); done) | fail) only [↓wpPre, wpPost, wpPoly, Int.reduceToNat, Int.reducePow, Int.reduceMul, Int.reduceAdd, Int.reduceSub, Int.reduceNeg, Nat.reduceAdd, Nat.reduceMul, Nat.reducePow, Int.reduceLT, Int.reduceLE, Int.reduceEq, Nat.reduceEqDiff, tup2]
      (repeat' (first | (refine Br.by (fun _ => ?_) (fun _ => ?_)) | (simp -implicitDefEqProofs (disch := first | assumption | decide | omega | (simp -implicitDefEqProofs only [wpD1] <;> omega) | (refine not_in_one ?_; first | omega | (simp -implicitDefEqProofs only [wpD1] <;> omega) | fail) | (simp -implicitDefEqProofs only [wpD2] <;> assumption) | ((repeat (first | exact HSub.refl _ | assumption | refine HSub.push ?_ _ | refine HSub.reserve ?_ _ | refine HSub.put ?_ (by omega) _)); done) | fail) only [↓wpPre, wpPost, wpPoly, Int.reduceToNat, Int.reducePow, Int.reduceMul, Int.reduceAdd, Int.reduceSub, Int.reduceNeg, Nat.reduceAdd, Nat.reduceMul, Nat.reducePow, Int.reduceLT, Int.reduceLE, Int.reduceEq, Nat.reduceEqDiff])))
      all_goals first | exact ⟨.nilslice, by rw [lstErr], HSub.refl _, RI.nil⟩ | omega
  · have e : lenE d = tup2 0 2 := by unfold lenE; rw [if_neg c]
    have pe : tapsErr d w = 2 := by unfold tapsErr; rw [if_neg (fun h => c h.1)]
    rw [pe]
    (refine calls_intro (hC.body (by decide) tab72) (Nat.le_of_ble_eq_true rfl) ?_); (show wp C _ none B72.code _ _); (simp only [B72]); simp -implicitDefEqProofs (disch := first | assumption | decide | omega | (simp -implicitDefEqProofs only [wpD1] <;> omega) | (refine not_in_one ?_; first | omega | (simp -implicitDefEqProofs only [wpD1] <;> omega) | fail) | (simp -implicitDefEqProofs only [wpD2] <;> assumption) | ((repeat (first | exact HSub.refl _ | assumption | refine HSub.push ?_ _ | refine HSub.reserve ?_ _ | refine HSub.put ?_ (by omega) _)); done) | fail) only [↓wpPre, wpPost, wpPoly, Int.reduceToNat, Int.reducePow, Int.reduceMul, Int.reduceAdd, Int.reduceSub, Int.reduceNeg, Nat.reduceAdd, Nat.reduceMul, Nat.reducePow, Int.reduceLT, Int.reduceLE, Int.reduceEq, Nat.reduceEqDiff]
    refine ACallsK.eq2 (Length_spec (hC.sub (T' := T70) (by decide)) hd) e ?_
    simp -implicitDefEqProofs (disch := first | assumption | decide | omega | (simp -implicitDefEqProofs only [wpD1] <;> omega) | (refine not_in_one ?_; first | omega | (simp -implicitDefEqProofs only [wpD1] <;> omega) | fail) | (simp -implicitDefEqProofs only [wpD2] <;> assumption) | ((repeat (first | exact HSub.refl _ | assumption | refine HSub.push ?_ _ | refine HSub.reserve ?_ _ | refine HSub.put ?_ (by omega) _)); done) | fail) only [↓wpPre, wpPost, wpPoly, Int.reduceToNat, Int.reducePow, Int.reduceMul, Int.reduceAdd, Int.reduceSub, Int.reduceNeg, Nat.reduceAdd, Nat.reduceMul, Nat.reducePow, Int.reduceLT, Int.reduceLE, Int.reduceEq, Nat.reduceEqDiff, tup2]
    exact ⟨.nilslice, by rw [lstErr], HSub.refl _, RI.nil⟩
end
end Go.Ae

/- Taps of the reference. -/
set_option linter.unusedSimpArgs false
set_option linter.unusedVariables false
namespace Go.Ae
section
variable {C : Ctx}
set_option maxRecDepth 100000 in
theorem Taps08_spec (hC : Has C T73) {d w : Int} {h : Heap} (hd : In64 d) (hw : In64 w) : ACalls C 73 [.int .i64 d, .int .i64 w] h (fun r h' => ∃ v, r = lstErr v (tapsErr d w) ∧ HSub h h' ∧ RI h' v (if tapsErr d w = 0 then tapsL d w else [])) := by
  have hw' := hw
  unfold In64 at hw'
  by_cases c : lenOk d = true
  · have e : lenE d = tup2 (lenN d) 0 := by unfold lenE; rw [if_pos c]
    by_cases cw : w = 1 ∨ w = 2
    · have pe : tapsErr d w = 0 := by unfold tapsErr; rw [if_pos ⟨c, cw⟩]
      rw [pe]
      have fin : ∀ {l : List Int}, l = tapsL d w → l.length < 9223372036854775808 → ∃ v, AV.tuple [.slice h.size 0 l.length (.known l.length), .int .i64 0] = lstErr v 0 ∧ HSub h (h.push (.cells (ints l) true 0)) ∧ RI (h.push (.cells (ints l) true 0)) v (if (0 : Int) = 0 then tapsL d w else []) := by
        rintro l rfl hl
        exact ⟨_, rfl, HSub.push1 _ _, by rw [if_pos rfl]; exact RI.known (get_push_eq rfl) ⟨rfl, hl⟩ (Nat.le_refl _)⟩
      rcases lenOk_cases c with rfl | rfl | rfl | rfl | rfl <;> rcases cw with rfl | rfl <;>
      · (refine calls_intro (hC.body (by decide) tab73) (Nat.le_of_ble_eq_true rfl) ?_); (show wp C _ none B73.code _ _); (simp only [B73]); simp -implicitDefEqProofs (disch := first | assumption | decide | omega | (simp -implicitDefEqProofs only [wpD1] <;> omega) | (refine not_in_one ?_; first | omega | (simp -implicitDefEqProofs only [wpD1] <;> omega) | fail) | (simp -implicitDefEqProofs only [wpD2] <;> assumption) | ((repeat (first | exact HSub.refl _ | assumption | refine HSub.push ?_ _ | refine HSub.reserve ?_ _ | refine HSub.put ?_ (by omega) _)); done) | fail) only [↓wpPre, wpPost, wpPoly, Int.reduceToNat, Int.reducePow, Int.reduceMul, Int.reduceAdd, Int.reduceSub, Int.reduceNeg, Nat.reduceAdd, Nat.reduceMul, Nat.reducePow, Int.reduceLT, Int.reduceLE, Int.reduceEq, Nat.reduceEqDiff]
        refine ACallsK.eq2 (Length08_spec (hC.sub (T' := T71) (by decide)) hd) e ?_
        simp -implicitDefEqProofs (disch := first | assumption | decide | omega | (simp -implicitDefEqProofs only [wpD1] <;> omega) | (refine not_in_one ?_; first | omega | (simp -implicitDefEqProofs only [wpD1] <;> omega) | fail) | (simp -implicitDefEqProofs only [wpD2] <;> assumption) | ((repeat (first | exact HSub.refl _ | assumption | refine HSub.push ?_ _ | refine HSub.reserve ?_ _ | refine HSub.put ?_ (by omega) _)); done) | fail) only [↓wpPre, wpPost, wpPoly, Int.reduceToNat, Int.reducePow, Int.reduceMul, Int.reduceAdd, Int.reduceSub, Int.reduceNeg, Nat.reduceAdd, Nat.reduceMul, Nat.reducePow, Int.reduceLT, Int.reduceLE, Int.reduceEq, Nat.reduceEqDiff, tup2]
        exact fin (l := tapsL _ _) rfl (by decide)
    · have pe : tapsErr d w = 2 := by unfold tapsErr; rw [if_neg (fun h => cw h.2)]
      rw [pe]
      (refine calls_intro (hC.body (by decide) tab73) (Nat.le_of_ble_eq_true rfl) ?_); (show wp C _ none B73.code _ _); (simp only [B73]); simp -implicitDefEqProofs (disch := first | assumption | decide | omega | (simp -implicitDefEqProofs only [wpD1] <;> omega) | (refine not_in_one ?_; first | omega | (simp -implicitDefEqProofs only [wpD1] <;> omega) | fail) | (simp -implicitDefEqProofs only [wpD2] <;> assumption) | ((repeat (first | exact HSub.refl _ | assumption | refine HSub.push ?_ _ | refine HSub.reserve ?_ _ | refine HSub.put ?_ (by omega) _)); done) | fail) only [↓wpPre, wpPost, wpPoly, Int.reduceToNat, Int.reducePow, Int.reduceMul, Int.reduceAdd, Int.reduceSub, Int.reduceNeg, Nat.reduceAdd, Nat.reduceMul, Nat.reducePow, Int.reduceLT, Int.reduceLE, Int.reduceEq, Nat.reduceEqDiff]
      refine ACallsK.eq2 (Length08_spec (hC.sub (T' := T71) (by decide)) hd) e ?_
      simp -implicitDefEqProofs (disch := first | assumption | decide | omega | (simp -implicitDefEqProofs only [wpD1] <;> omega) | (refine not_in_one ?_; first | omega | (simp -implicitDefEqProofs only [wpD1] <;> omega) | fail) | (simp -implicitDefEqProofs only [wpD2] <;> assumption) | ((repeat (first | exact HSub.refl _ | assumption | refine HSub.push ?_ _ | refine HSub.reserve ?_ _ | refine HSub.put ?_ (by omega) _)); done) | fail) only [↓wpPre, wpPost, wpPoly, Int.reduceToNat, Int.reducePow, Int.reduceMul, Int.reduceAdd, Int.reduceSub, Int.reduceNeg, Nat.reduceAdd, Nat.reduceMul, Nat.reducePow, Int.reduceLT, Int.reduceLE, Int.reduceEq, Nat.reduceEqDiff, tup2]
      (repeat' (first | (refine Br.by (fun _ => ?_) (fun _ => ?_)) | (simp -implicitDefEqProofs (disch := first | assumption | decide | omega | (simp -implicitDefEqProofs only [wpD1] <;> omega) | (refine not_in_one ?_; first | omega | (simp -implicitDefEqProofs only [wpD1] <;> omega) | fail) | (simp -implicitDefEqProofs only [wpD2] <;> assumption) | ((repeat (first | exact HSub.refl _ | assumption | refine HSub.push ?_ _ | refine HSub.reserve ?_ _ | refine HSub.put ?_ (by omega) _)); done) | fail) only [↓wpPre, wpPost, wpPoly, Int.reduceToNat, Int.reducePow, Int.reduceMul, Int.reduceAdd, Int.reduceSub, Int.reduceNeg, Nat.reduceAdd, Nat.reduceMul, Nat.reducePow, Int.reduceLT, Int.reduceLE, Int.reduceEq, Nat.reduceEqDiff])))
      all_goals first | exact ⟨.nilslice, by rw [lstErr], HSub.refl _, RI.nil⟩ | omega
  · have e : lenE d = tup2 0 2 := by unfold lenE; rw [if_neg c]
    have pe : tapsErr d w = 2 := by unfold tapsErr; rw [if_neg (fun h => c h.1)]
    rw [pe]
    (refine calls_intro (hC.body (by decide) tab73) (Nat.le_of_ble_eq_true rfl) ?_); (show wp C _ none B73.code _ _); (simp only [B73]); simp -implicitDefEqProofs (disch := first | assumption | decide | omega | (simp -implicitDefEqProofs only [wpD1] <;> omega) | (refine not_in_one ?_; first | omega | (simp -implicitDefEqProofs only [wpD1] <;> omega) | fail) | (simp -implicitDefEqProofs only [wpD2] <;> assumption) | ((repeat (first | exact HSub.refl _ | assumption | refine HSub.push ?_ _ | refine HSub.reserve ?_ _ | refine HSub.put ?_ (by omega) _)); done) | fail) only [↓wpPre, wpPost, wpPoly, Int.reduceToNat, Int.reducePow, Int.reduceMul, Int.reduceAdd, Int.reduceSub, Int.reduceNeg, Nat.reduceAdd, Nat.reduceMul, Nat.reducePow, Int.reduceLT, Int.reduceLE, Int.reduceEq, Nat.reduceEqDiff]
    refine ACallsK.eq2 (Length08_spec (hC.sub (T' := T71) (by decide)) hd) e ?_
    simp -implicitDefEqProofs (disch := first | assumption | decide | omega | (simp -implicitDefEqProofs only [wpD1] <;> omega) | (refine not_in_one ?_; first | omega | (simp -implicitDefEqProofs only [wpD1] <;> omega) | fail) | (simp -implicitDefEqProofs only [wpD2] <;> assumption) | ((repeat (first | exact HSub.refl _ | assumption | refine HSub.push ?_ _ | refine HSub.reserve ?_ _ | refine HSub.put ?_ (by omega) _)); done) | fail) only [↓wpPre, wpPost, wpPoly, Int.reduceToNat, Int.reducePow, Int.reduceMul, Int.reduceAdd, Int.reduceSub, Int.reduceNeg, Nat.reduceAdd, Nat.reduceMul, Nat.reducePow, Int.reduceLT, Int.reduceLE, Int.reduceEq, Nat.reduceEqDiff, tup2]
    exact ⟨.nilslice, by rw [lstErr], HSub.refl _, RI.nil⟩
end
end Go.Ae

/- Repeat of Go's slices package, on one number; the sequences of the registers. -/
set_option linter.unusedSimpArgs false
set_option linter.unusedVariables false
namespace Go.Ae
theorem nat64 {n : Nat} (h : n < 18446744073709551616) : (BitVec.ofInt 64 (n : Int)).toNat = n := by
  rw [BitVec.toNat_ofInt]
  have : ((n : Int) % ((2 ^ 64 : Nat) : Int)).toNat = n := by
    rw [Int.emod_eq_of_lt (by omega) (by omega)]; simp
  exact this
theorem and_u64m {a : Int} (h : 0 ≤ a ∧ a < 18446744073709551616) : bitsA .and .u64 a 4294967295 = a % 4294967296 := by
  obtain ⟨n, rfl⟩ := Int.eq_ofNat_of_zero_le h.1
  show IntKind.u64.wrap ((BitVec.ofInt 64 (n : Int) &&& BitVec.ofInt 64 ((4294967295 : Nat) : Int)).toNat : Int) = _
  rw [BitVec.toNat_and, nat64 (by omega), nat64 (by decide)]
  have e : n &&& 4294967295 = n % 4294967296 := Nat.and_two_pow_sub_one_eq_mod n 32
  rw [e, w_u64 (by omega)]; omega
/-- What is copied. -/
theorem copy_slice {h : Heap} {i o n u : Nat} {c : Cap} {s : AV} {m : Nat} {cs vs : List AV} (hc : contentA h 1 s = some (m, cs)) (hg : h.get i = some (.cells vs true u)) (hb : o + min m n ≤ vs.length) (h1 : (cs.take (min m n)).all AV.one = true) :
    copyA h 1 (.slice i o n c) s = some (.int .i64 (min m n : Nat), h.put i (.cells (splice vs o (cs.take (min m n))) true u)) := by
  simp only [copyA, hc, hg, Nat.mul_one]
  rw [if_pos ⟨hb, h1⟩]
def ones01 (x : Int) (n p : Nat) : List Int := List.replicate p x ++ List.replicate (n - p) 0
theorem ones01_length {x : Int} {n p : Nat} (h : p ≤ n) : (ones01 x n p).length = n := by simp [ones01]; omega
theorem splice_gen {vs cs : List AV} {o : Nat} (h : o + cs.length ≤ vs.length) : splice vs o cs = vs.take o ++ cs ++ vs.drop (o + cs.length) := by
  match cs, h with
  | [], _ => rfl
  | [c], h =>
    rw [splice_one, List.set_eq_take_append_cons_drop, if_pos (by simp at h; omega)]
    simp
  | x :: y :: cs, _ => rfl
theorem ones01_splice {x : Int} {n p k : Nat} (h : p + k ≤ n) : splice (ints (ones01 x n p)) p (ints (List.replicate k x)) = ints (ones01 x n (p + k)) := by
  rw [splice_gen (by rw [ints_length, ints_length, ones01_length (by omega), List.length_replicate]; exact h)]
  unfold ones01 ints
  have e1 : (List.replicate p x ++ List.replicate (n - p) (0 : Int)).take p = List.replicate p x := by simp
  have e2 : (List.replicate p x ++ List.replicate (n - p) (0 : Int)).drop (p + k) = List.replicate (n - (p + k)) 0 := by
    rw [List.drop_append]; simp; omega
  have e3 : (List.map (AV.int .i64) (List.replicate k x)).length = k := by simp
  rw [e3, ← List.map_take, ← List.map_drop, e1, e2, ← List.map_append, ← List.map_append, List.replicate_append_replicate]
section
variable {C : Ctx}
theorem Mul64_spec (hC : Has C T105) {a b : Int} {h : Heap} (ha : 0 ≤ a ∧ a < 4294967296) (hb : 0 ≤ b ∧ b < 4294967296) (hab : 0 ≤ a * b ∧ a * b < 4294967296) : ACalls C 105 [.int .u64 a, .int .u64 b] h (fun r h' => r = .tuple [.int .u64 0, .int .u64 (a * b)] ∧ h' = h) := by
  have e1 : a % 4294967296 = a := Int.emod_eq_of_lt ha.1 ha.2
  have e2 : b % 4294967296 = b := Int.emod_eq_of_lt hb.1 hb.2
  have e3 : a / 4294967296 = 0 := Int.ediv_eq_zero_of_lt ha.1 ha.2
  have e4 : b / 4294967296 = 0 := Int.ediv_eq_zero_of_lt hb.1 hb.2
  have e5 : a * b / 4294967296 = 0 := Int.ediv_eq_zero_of_lt hab.1 hab.2
  (refine calls_intro (hC.body (by decide) tab105) (Nat.le_of_ble_eq_true rfl) ?_); (show wp C _ none B105.code _ _); (simp only [B105]); simp -implicitDefEqProofs (disch := first | assumption | decide | omega | (simp -implicitDefEqProofs only [wpD1] <;> omega) | (refine not_in_one ?_; first | omega | (simp -implicitDefEqProofs only [wpD1] <;> omega) | fail) | (simp -implicitDefEqProofs only [wpD2] <;> assumption) | ((repeat (first | exact HSub.refl _ | assumption | refine HSub.push ?_ _ | refine HSub.reserve ?_ _ | refine HSub.put ?_ (by omega) _)); done) | fail) only [↓wpPre, wpPost, wpPoly, Int.reduceToNat, Int.reducePow, Int.reduceMul, Int.reduceAdd, Int.reduceSub, Int.reduceNeg, Nat.reduceAdd, Nat.reduceMul, Nat.reducePow, Int.reduceLT, Int.reduceLE, Int.reduceEq, Nat.reduceEqDiff, and_u64m, e1, e2, e3, e4, e5, Int.zero_mul, Int.mul_zero, Int.add_zero, Int.zero_ediv, Int.zero_emod]
theorem Mul_spec (hC : Has C T100) {a b : Int} {h : Heap} (ha : 0 ≤ a ∧ a < 4294967296) (hb : 0 ≤ b ∧ b < 4294967296) (hab : 0 ≤ a * b ∧ a * b < 4294967296) : ACalls C 100 [.int .u64 a, .int .u64 b] h (fun r h' => r = .tuple [.int .u64 0, .int .u64 (a * b)] ∧ h' = h) := by
  (refine calls_intro (hC.body (by decide) tab100) (Nat.le_of_ble_eq_true rfl) ?_); (show wp C _ none B100.code _ _); (simp only [B100]); simp -implicitDefEqProofs (disch := first | assumption | decide | omega | (simp -implicitDefEqProofs only [wpD1] <;> omega) | (refine not_in_one ?_; first | omega | (simp -implicitDefEqProofs only [wpD1] <;> omega) | fail) | (simp -implicitDefEqProofs only [wpD2] <;> assumption) | ((repeat (first | exact HSub.refl _ | assumption | refine HSub.push ?_ _ | refine HSub.reserve ?_ _ | refine HSub.put ?_ (by omega) _)); done) | fail) only [↓wpPre, wpPost, wpPoly, Int.reduceToNat, Int.reducePow, Int.reduceMul, Int.reduceAdd, Int.reduceSub, Int.reduceNeg, Nat.reduceAdd, Nat.reduceMul, Nat.reducePow, Int.reduceLT, Int.reduceLE, Int.reduceEq, Nat.reduceEqDiff]
  refine ACallsK.eq (Mul64_spec (hC.sub (T' := T105) (by decide)) ha hb hab) ?_
  simp -implicitDefEqProofs (disch := first | assumption | decide | omega | (simp -implicitDefEqProofs only [wpD1] <;> omega) | (refine not_in_one ?_; first | omega | (simp -implicitDefEqProofs only [wpD1] <;> omega) | fail) | (simp -implicitDefEqProofs only [wpD2] <;> assumption) | ((repeat (first | exact HSub.refl _ | assumption | refine HSub.push ?_ _ | refine HSub.reserve ?_ _ | refine HSub.put ?_ (by omega) _)); done) | fail) only [↓wpPre, wpPost, wpPoly, Int.reduceToNat, Int.reducePow, Int.reduceMul, Int.reduceAdd, Int.reduceSub, Int.reduceNeg, Nat.reduceAdd, Nat.reduceMul, Nat.reducePow, Int.reduceLT, Int.reduceLE, Int.reduceEq, Nat.reduceEqDiff]

set_option maxHeartbeats 1000000 in
/-- Repeat of one number. -/
theorem Repeat_spec (hC : Has C T90) {v : AV} {x : Int} {n : Nat} {h : Heap} (hv : RI h v [x]) (hn : 1 ≤ n ∧ n ≤ 1000000) : ACalls C 90 [v, .int .i64 (n : Nat)] h (fun r h' => Fresh h h' r (List.replicate n x)) := by
  have hcv := (hv.mono (HSub.push1 h (.cells (ints (List.replicate n 0)) true 0))).content
  have m1 : min 1 n = 1 := by omega
  have es : splice (ints (List.replicate n 0)) 0 ((ints [x]).take (min [x].length n)) = ints (ones01 x n 1) := by
    have h0 : ints (List.replicate n 0) = ints (ones01 x n 0) := by simp [ones01]
    have h1 : (ints [x]).take (min [x].length n) = ints (List.replicate 1 x) := by show (ints [x]).take (min 1 n) = _; rw [m1]; rfl
    rw [h1, h0, ones01_splice (by omega)]
  have hcp := copy_slice (h := h.push (.cells (ints (List.replicate n 0)) true 0)) (i := h.size) (o := 0) (n := n) (c := .known n) (u := 0) hcv (get_push_eq rfl) (by simp [ints]; omega) (by show ((ints [x]).take (min 1 n)).all AV.one = true; rw [m1]; rfl)
  rw [es] at hcp
  have hcp : copyA (h.push (.cells (ints (List.replicate n 0)) true 0)) 1 (.slice h.size 0 n (.known n)) v = some (.int .i64 ((1 : Nat) : Int), (h.push (.cells (ints (List.replicate n 0)) true 0)).put h.size (.cells (ints (ones01 x n 1)) true 0)) := by
    have : min [x].length n = 1 := m1
    rw [this] at hcp; exact hcp
  have m3 : (1 : Int) * (n : Int) = (n : Int) := Int.one_mul _
  (refine calls_intro (hC.body (by decide) tab90) (Nat.le_of_ble_eq_true rfl) ?_); (show wp C _ none B90.code _ _); (simp only [B90]); simp -implicitDefEqProofs (disch := first | assumption | decide | omega | (simp -implicitDefEqProofs only [wpD1] <;> omega) | (refine not_in_one ?_; first | omega | (simp -implicitDefEqProofs only [wpD1] <;> omega) | fail) | (simp -implicitDefEqProofs only [wpD2] <;> assumption) | ((repeat (first | exact HSub.refl _ | assumption | refine HSub.push ?_ _ | refine HSub.reserve ?_ _ | refine HSub.put ?_ (by omega) _)); done) | fail) only [↓wpPre, wpPost, wpPoly, Int.reduceToNat, Int.reducePow, Int.reduceMul, Int.reduceAdd, Int.reduceSub, Int.reduceNeg, Nat.reduceAdd, Nat.reduceMul, Nat.reducePow, Int.reduceLT, Int.reduceLE, Int.reduceEq, Nat.reduceEqDiff, hv.len]
  refine ACallsK.eq (Mul_spec (hC.sub (T' := T100) (by decide)) (a := 1) (b := (n : Int)) (by decide) (by omega) (by omega)) ?_
  simp -implicitDefEqProofs (disch := first | assumption | decide | omega | (simp -implicitDefEqProofs only [wpD1] <;> omega) | (refine not_in_one ?_; first | omega | (simp -implicitDefEqProofs only [wpD1] <;> omega) | fail) | (simp -implicitDefEqProofs only [wpD2] <;> assumption) | ((repeat (first | exact HSub.refl _ | assumption | refine HSub.push ?_ _ | refine HSub.reserve ?_ _ | refine HSub.put ?_ (by omega) _)); done) | fail) only [↓wpPre, wpPost, wpPoly, Int.reduceToNat, Int.reducePow, Int.reduceMul, Int.reduceAdd, Int.reduceSub, Int.reduceNeg, Nat.reduceAdd, Nat.reduceMul, Nat.reducePow, Int.reduceLT, Int.reduceLE, Int.reduceEq, Nat.reduceEqDiff, m3, ints_replicate, hcp]
  have s1 : ∀ (H : Heap) (p : Nat), p < n → sliceA H 1 (.slice h.size 0 n (.known n)) (some (.int .i64 p)) none none = some (.slice h.size p (n - p) (.known (n - p))) := by
    intro H p hp
    simp only [sliceA]
    rw [bounds_ok (a := p) (b := n) (c := n) rfl rfl rfl (by omega)]
    simp only
    rw [if_neg (by omega)]; simp
  have s2 : ∀ (H : Heap) (p : Nat), p < n → sliceA H 1 (.slice h.size 0 n (.known n)) none (some (.int .i64 p)) none = some (.slice h.size 0 p (.known n)) := by
    intro H p hp
    simp only [sliceA]
    rw [bounds_ok (a := 0) (b := p) (c := n) rfl rfl rfl (by omega)]
    simp only
    rw [if_neg (by omega)]; simp
  refine wp_loopI (fun j t h' => ∃ p : Nat, HSub h h' ∧ h'.get h.size = some (.cells (ints (ones01 x n p)) true 0) ∧ t 7 = .slice h.size 0 n (.known n) ∧ t 8 = .int .i64 (p : Nat) ∧ 1 ≤ p ∧ p ≤ n ∧ j = n - p) (j0 := n - 1)
    ⟨1, HSub.push1 _ _, get_push_eq rfl, rfl, rfl, by omega, by omega, rfl⟩ ?_
  rintro j t h' ⟨p, hs, hg, e7, e8, hp1, hp2, hj⟩
  simp -implicitDefEqProofs (disch := first | assumption | decide | omega | (simp -implicitDefEqProofs only [wpD1] <;> omega) | (refine not_in_one ?_; first | omega | (simp -implicitDefEqProofs only [wpD1] <;> omega) | fail) | (simp -implicitDefEqProofs only [wpD2] <;> assumption) | ((repeat (first | exact HSub.refl _ | assumption | refine HSub.push ?_ _ | refine HSub.reserve ?_ _ | refine HSub.put ?_ (by omega) _)); done) | fail) only [↓wpPre, wpPost, wpPoly, Int.reduceToNat, Int.reducePow, Int.reduceMul, Int.reduceAdd, Int.reduceSub, Int.reduceNeg, Nat.reduceAdd, Nat.reduceMul, Nat.reducePow, Int.reduceLT, Int.reduceLE, Int.reduceEq, Nat.reduceEqDiff, e7, e8]
  refine Br.by (fun c => ?_) (fun c => ?_)
  · have hp : p < n := by omega
    have hol := ones01_length (x := x) (n := n) (p := p) hp2
    have hgr : (h'.reserve 10).get h.size = some (.cells (ints (ones01 x n p)) true 0) := hg
    have hc2 : contentA (h'.reserve 10) 1 (.slice h.size 0 p (.known n)) = some (p, ints (List.replicate p x)) := by
      rw [cont_slice, hgr, contB_some (by rw [ints_length, hol]; omega)]
      congr 2
      rw [Nat.mul_one, ints_cut]; congr 1
      simp [ones01]
    have hk : p + min p (n - p) ≤ n := by omega
    have h3 := copy_slice (h := h'.reserve 10) (i := h.size) (o := p) (n := n - p) (c := .known (n - p)) (u := 0) hc2 hgr (by rw [ints_length, hol]; exact hk) (by unfold ints; rw [← List.map_take]; exact ints_one)
    have h4 : (ints (List.replicate p x)).take (min p (n - p)) = ints (List.replicate (min p (n - p)) x) := by unfold ints; rw [← List.map_take, List.take_replicate]; congr 2; omega
    rw [h4, ones01_splice hk] at h3
    simp -implicitDefEqProofs (disch := first | assumption | decide | omega | (simp -implicitDefEqProofs only [wpD1] <;> omega) | (refine not_in_one ?_; first | omega | (simp -implicitDefEqProofs only [wpD1] <;> omega) | fail) | (simp -implicitDefEqProofs only [wpD2] <;> assumption) | ((repeat (first | exact HSub.refl _ | assumption | refine HSub.push ?_ _ | refine HSub.reserve ?_ _ | refine HSub.put ?_ (by omega) _)); done) | fail) only [↓wpPre, wpPost, wpPoly, Int.reduceToNat, Int.reducePow, Int.reduceMul, Int.reduceAdd, Int.reduceSub, Int.reduceNeg, Nat.reduceAdd, Nat.reduceMul, Nat.reducePow, Int.reduceLT, Int.reduceLE, Int.reduceEq, Nat.reduceEqDiff, e7, e8, s1, s2, h3]
    refine ⟨_, ⟨p + min p (n - p), ?_, ?_, by omega, by omega, by omega, rfl⟩, by omega⟩
    · exact (hs.reserve _).put (Nat.le_refl _) _
    · exact get_put_eq rfl (Heap.lt_of_get hgr)
  · have : p = n := by omega
    subst this
    simp -implicitDefEqProofs (disch := first | assumption | decide | omega | (simp -implicitDefEqProofs only [wpD1] <;> omega) | (refine not_in_one ?_; first | omega | (simp -implicitDefEqProofs only [wpD1] <;> omega) | fail) | (simp -implicitDefEqProofs only [wpD2] <;> assumption) | ((repeat (first | exact HSub.refl _ | assumption | refine HSub.push ?_ _ | refine HSub.reserve ?_ _ | refine HSub.put ?_ (by omega) _)); done) | fail) only [↓wpPre, wpPost, wpPoly, Int.reduceToNat, Int.reducePow, Int.reduceMul, Int.reduceAdd, Int.reduceSub, Int.reduceNeg, Nat.reduceAdd, Nat.reduceMul, Nat.reducePow, Int.reduceLT, Int.reduceLE, Int.reduceEq, Nat.reduceEqDiff, e7]
    have : ones01 x p p = List.replicate p x := by simp [ones01]
    rw [this] at hg
    exact ⟨hs, by simp; omega, h.size, Nat.le_refl _, by simp, hg⟩
end
end Go.Ae

/- The sequences of the degrees. -/
set_option linter.unusedSimpArgs false
set_option linter.unusedVariables false
namespace Go.Ae
def onesL (d : Int) : List Int := List.replicate d.toNat 1
def bitsL (d w : Int) : List Int := runL (tapsL d w) (onesL d) (lenN d)
theorem bitsL_length (d w : Int) : (bitsL d w).length = lenN d := runL_length _ _ _
theorem reg_ok {d w : Int} (hd : lenOk d = true) (hw : w = 1 ∨ w = 2) : regErr d (tapsL d w) (onesL d) = 0 := by
  rcases lenOk_cases hd with rfl | rfl | rfl | rfl | rfl <;> rcases hw with rfl | rfl <;> decide
theorem bitsL_01 {d w : Int} : ∀ x ∈ bitsL d w, x = 0 ∨ x = 1 := by
  intro x hx
  obtain ⟨k, _, rfl⟩ := List.mem_map.1 hx
  exact seqB_01 (fun y hy => .inr (List.mem_replicate.1 hy).2) k
section
variable {C : Ctx}
set_option maxRecDepth 100000 in
theorem Bits_spec (hC : Has C T74) {d w : Int} {h : Heap} (hd : In64 d) (hw : In64 w) : ACalls C 74 [.int .i64 d, .int .i64 w] h (fun r h' => ∃ v, r = lstErr v (tapsErr d w) ∧ HSub h h' ∧ RI h' v (if tapsErr d w = 0 then bitsL d w else []) ∧ (tapsErr d w = 0 → Fresh h h' v (bitsL d w))) := by
  by_cases c : lenOk d = true ∧ (w = 1 ∨ w = 2)
  · have pe : tapsErr d w = 0 := by unfold tapsErr; rw [if_pos c]
    have hl := lenN_eq c.1
    have hr := reg_ok c.1 c.2
    have hd5 : 5 ≤ d ∧ d ≤ 10 := by have := lenOk_cases c.1; omega
    have hT := Taps_spec (d := d) (w := w) (h := h) (hC.sub (T' := T72) (by decide)) hd hw
    rw [pe, if_pos rfl] at hT
    rw [pe]
    obtain ⟨k, rfl⟩ := Int.eq_ofNat_of_zero_le (show 0 ≤ d by omega)
    have re : runErr (k : Nat) (tapsL (k : Nat) w) (onesL (k : Nat)) (lenN (k : Nat)) = 0 := by unfold runErr; rw [if_pos hr, if_neg (by omega)]
    (refine calls_intro (hC.body (by decide) tab74) (Nat.le_of_ble_eq_true rfl) ?_); (show wp C _ none B74.code _ _); (simp only [B74]); simp -implicitDefEqProofs (disch := first | assumption | decide | omega | (simp -implicitDefEqProofs only [wpD1] <;> omega) | (refine not_in_one ?_; first | omega | (simp -implicitDefEqProofs only [wpD1] <;> omega) | fail) | (simp -implicitDefEqProofs only [wpD2] <;> assumption) | ((repeat (first | exact HSub.refl _ | assumption | refine HSub.push ?_ _ | refine HSub.reserve ?_ _ | refine HSub.put ?_ (by omega) _)); done) | fail) only [↓wpPre, wpPost, wpPoly, Int.reduceToNat, Int.reducePow, Int.reduceMul, Int.reduceAdd, Int.reduceSub, Int.reduceNeg, Nat.reduceAdd, Nat.reduceMul, Nat.reducePow, Int.reduceLT, Int.reduceLE, Int.reduceEq, Nat.reduceEqDiff]
    refine ACallsK.of hT ?_
    rintro r h1 ⟨v1, rfl, s1, R1⟩
    have h22 : (2 : Int) ^ k = ((lenN (k : Nat) + 1 : Nat) : Int) := by have := hl.2.2; rwa [Int.toNat_natCast] at this
    have e3 : ((lenN (k : Nat) + 1 : Nat) : Int) - 1 = lenN (k : Nat) := by omega
    simp -implicitDefEqProofs (disch := first | assumption | decide | omega | (simp -implicitDefEqProofs only [wpD1] <;> omega) | (refine not_in_one ?_; first | omega | (simp -implicitDefEqProofs only [wpD1] <;> omega) | fail) | (simp -implicitDefEqProofs only [wpD2] <;> assumption) | ((repeat (first | exact HSub.refl _ | assumption | refine HSub.push ?_ _ | refine HSub.reserve ?_ _ | refine HSub.put ?_ (by omega) _)); done) | fail) only [↓wpPre, wpPost, wpPoly, Int.reduceToNat, Int.reducePow, Int.reduceMul, Int.reduceAdd, Int.reduceSub, Int.reduceNeg, Nat.reduceAdd, Nat.reduceMul, Nat.reducePow, Int.reduceLT, Int.reduceLE, Int.reduceEq, Nat.reduceEqDiff, lstErr, Int.one_mul, h22, e3, Heap.wf]
    have eo : onesL ((k : Nat) : Int) = List.replicate k 1 := by simp [onesL]
    have hsH : HSub h1 ((h1.reserve 13).put (h1.size + 2) (.cells [.int .i64 1] true 0)) := ((HSub.refl _).reserve _).put (by omega) _
    refine ACallsK.of (Repeat_spec (hC.sub (T' := T90) (by decide)) (x := 1) (n := k) (RI.known (get_put_eq rfl (by simp)) ⟨rfl, by decide⟩ (by decide)) (by omega)) ?_
    rintro r h2 F
    have s2 := F.sub
    have s02 := s1.trans (hsH.trans s2)
    have hR := Run_spec (m := (lenN (k : Nat) : Int)) (h := h2) (hC.sub (T' := T81) (by decide)) (R1.mono (hsH.trans s2)) (w := onesL (k : Nat)) (n := (k : Nat)) (by rw [eo]; exact F.ri) (by unfold In64; omega)
    rw [re] at hR
    simp -implicitDefEqProofs (disch := first | assumption | decide | omega | (simp -implicitDefEqProofs only [wpD1] <;> omega) | (refine not_in_one ?_; first | omega | (simp -implicitDefEqProofs only [wpD1] <;> omega) | fail) | (simp -implicitDefEqProofs only [wpD2] <;> assumption) | ((repeat (first | exact HSub.refl _ | assumption | refine HSub.push ?_ _ | refine HSub.reserve ?_ _ | refine HSub.put ?_ (by omega) _)); done) | fail) only [↓wpPre, wpPost, wpPoly, Int.reduceToNat, Int.reducePow, Int.reduceMul, Int.reduceAdd, Int.reduceSub, Int.reduceNeg, Nat.reduceAdd, Nat.reduceMul, Nat.reducePow, Int.reduceLT, Int.reduceLE, Int.reduceEq, Nat.reduceEqDiff, h22, e3, Int.one_mul]
    refine ACallsK.of hR ?_
    rintro r h3 ⟨v3, rfl, s3, R3, F3⟩
    simp -implicitDefEqProofs (disch := first | assumption | decide | omega | (simp -implicitDefEqProofs only [wpD1] <;> omega) | (refine not_in_one ?_; first | omega | (simp -implicitDefEqProofs only [wpD1] <;> omega) | fail) | (simp -implicitDefEqProofs only [wpD2] <;> assumption) | ((repeat (first | exact HSub.refl _ | assumption | refine HSub.push ?_ _ | refine HSub.reserve ?_ _ | refine HSub.put ?_ (by omega) _)); done) | fail) only [↓wpPre, wpPost, wpPoly, Int.reduceToNat, Int.reducePow, Int.reduceMul, Int.reduceAdd, Int.reduceSub, Int.reduceNeg, Nat.reduceAdd, Nat.reduceMul, Nat.reducePow, Int.reduceLT, Int.reduceLE, Int.reduceEq, Nat.reduceEqDiff, lstErr]
    have F3 := F3 rfl
    have : (lenN (k : Nat) : Int).toNat = lenN (k : Nat) := Int.toNat_natCast _
    rw [this] at F3
    exact ⟨v3, rfl, s02.trans s3, by rw [if_pos trivial]; exact F3.ri, fun _ => F3.mono s02⟩
  · have pe : tapsErr d w = 2 := by unfold tapsErr; rw [if_neg c]
    have hT := Taps_spec (d := d) (w := w) (h := h) (hC.sub (T' := T72) (by decide)) hd hw
    rw [pe] at hT
    rw [pe]
    (refine calls_intro (hC.body (by decide) tab74) (Nat.le_of_ble_eq_true rfl) ?_); (show wp C _ none B74.code _ _); (simp only [B74]); simp -implicitDefEqProofs (disch := first | assumption | decide | omega | (simp -implicitDefEqProofs only [wpD1] <;> omega) | (refine not_in_one ?_; first | omega | (simp -implicitDefEqProofs only [wpD1] <;> omega) | fail) | (simp -implicitDefEqProofs only [wpD2] <;> assumption) | ((repeat (first | exact HSub.refl _ | assumption | refine HSub.push ?_ _ | refine HSub.reserve ?_ _ | refine HSub.put ?_ (by omega) _)); done) | fail) only [↓wpPre, wpPost, wpPoly, Int.reduceToNat, Int.reducePow, Int.reduceMul, Int.reduceAdd, Int.reduceSub, Int.reduceNeg, Nat.reduceAdd, Nat.reduceMul, Nat.reducePow, Int.reduceLT, Int.reduceLE, Int.reduceEq, Nat.reduceEqDiff]
    refine ACallsK.of hT ?_
    rintro r h1 ⟨v1, rfl, s1, R1⟩
    simp -implicitDefEqProofs (disch := first | assumption | decide | omega | (simp -implicitDefEqProofs only [wpD1] <;> omega) | (refine not_in_one ?_; first | omega | (simp -implicitDefEqProofs only [wpD1] <;> omega) | fail) | (simp -implicitDefEqProofs only [wpD2] <;> assumption) | ((repeat (first | exact HSub.refl _ | assumption | refine HSub.push ?_ _ | refine HSub.reserve ?_ _ | refine HSub.put ?_ (by omega) _)); done) | fail) only [↓wpPre, wpPost, wpPoly, Int.reduceToNat, Int.reducePow, Int.reduceMul, Int.reduceAdd, Int.reduceSub, Int.reduceNeg, Nat.reduceAdd, Nat.reduceMul, Nat.reducePow, Int.reduceLT, Int.reduceLE, Int.reduceEq, Nat.reduceEqDiff, lstErr]
    exact ⟨.nilslice, rfl, s1, by rw [if_neg id]; exact RI.nil⟩

set_option maxRecDepth 100000 in
theorem Bits08_spec (hC : Has C T75) {d w : Int} {h : Heap} (hd : In64 d) (hw : In64 w) : ACalls C 75 [.int .i64 d, .int .i64 w] h (fun r h' => ∃ v, r = lstErr v (tapsErr d w) ∧ HSub h h' ∧ RI h' v (if tapsErr d w = 0 then bitsL d w else [])) := by
  by_cases c : lenOk d = true ∧ (w = 1 ∨ w = 2)
  · have pe : tapsErr d w = 0 := by unfold tapsErr; rw [if_pos c]
    have hl := lenN_eq c.1
    have hr := reg_ok c.1 c.2
    have hd5 : 5 ≤ d ∧ d ≤ 10 := by have := lenOk_cases c.1; omega
    have hT := Taps08_spec (d := d) (w := w) (h := h) (hC.sub (T' := T73) (by decide)) hd hw
    rw [pe, if_pos rfl] at hT
    have eL : lenE d = tup2 (lenN d) 0 := by unfold lenE; rw [if_pos c.1]
    rw [pe]
    obtain ⟨k, rfl⟩ := Int.eq_ofNat_of_zero_le (show 0 ≤ d by omega)
    obtain ⟨kk, hkk, R⟩ := regErr_ok hr
    have : kk = k := by omega
    subst this
    (refine calls_intro (hC.body (by decide) tab75) (Nat.le_of_ble_eq_true rfl) ?_); (show wp C _ none B75.code _ _); (simp only [B75]); simp -implicitDefEqProofs (disch := first | assumption | decide | omega | (simp -implicitDefEqProofs only [wpD1] <;> omega) | (refine not_in_one ?_; first | omega | (simp -implicitDefEqProofs only [wpD1] <;> omega) | fail) | (simp -implicitDefEqProofs only [wpD2] <;> assumption) | ((repeat (first | exact HSub.refl _ | assumption | refine HSub.push ?_ _ | refine HSub.reserve ?_ _ | refine HSub.put ?_ (by omega) _)); done) | fail) only [↓wpPre, wpPost, wpPoly, Int.reduceToNat, Int.reducePow, Int.reduceMul, Int.reduceAdd, Int.reduceSub, Int.reduceNeg, Nat.reduceAdd, Nat.reduceMul, Nat.reducePow, Int.reduceLT, Int.reduceLE, Int.reduceEq, Nat.reduceEqDiff]
    refine ACallsK.of hT ?_
    rintro r h1 ⟨v1, rfl, s1, R1⟩
    simp -implicitDefEqProofs (disch := first | assumption | decide | omega | (simp -implicitDefEqProofs only [wpD1] <;> omega) | (refine not_in_one ?_; first | omega | (simp -implicitDefEqProofs only [wpD1] <;> omega) | fail) | (simp -implicitDefEqProofs only [wpD2] <;> assumption) | ((repeat (first | exact HSub.refl _ | assumption | refine HSub.push ?_ _ | refine HSub.reserve ?_ _ | refine HSub.put ?_ (by omega) _)); done) | fail) only [↓wpPre, wpPost, wpPoly, Int.reduceToNat, Int.reducePow, Int.reduceMul, Int.reduceAdd, Int.reduceSub, Int.reduceNeg, Nat.reduceAdd, Nat.reduceMul, Nat.reducePow, Int.reduceLT, Int.reduceLE, Int.reduceEq, Nat.reduceEqDiff, lstErr]
    refine ACallsK.eq2 (Length08_spec (hC.sub (T' := T71) (by decide)) hd) eL ?_
    simp -implicitDefEqProofs (disch := first | assumption | decide | omega | (simp -implicitDefEqProofs only [wpD1] <;> omega) | (refine not_in_one ?_; first | omega | (simp -implicitDefEqProofs only [wpD1] <;> omega) | fail) | (simp -implicitDefEqProofs only [wpD2] <;> assumption) | ((repeat (first | exact HSub.refl _ | assumption | refine HSub.push ?_ _ | refine HSub.reserve ?_ _ | refine HSub.put ?_ (by omega) _)); done) | fail) only [↓wpPre, wpPost, wpPoly, Int.reduceToNat, Int.reducePow, Int.reduceMul, Int.reduceAdd, Int.reduceSub, Int.reduceNeg, Nat.reduceAdd, Nat.reduceMul, Nat.reducePow, Int.reduceLT, Int.reduceLE, Int.reduceEq, Nat.reduceEqDiff, tup2, ints_replicate]
    have hol : ∀ p, p ≤ kk → (ones01 1 kk p).length = kk := fun p hp => ones01_length hp
    refine wp_loopI (fun j t h' => ∃ p : Nat, h' = h1.push (.cells (ints (ones01 1 kk p)) true 0) ∧ t 0 = .int .i64 (kk : Nat) ∧ t 6 = v1 ∧ t 8 = .int .i64 (lenN (kk : Nat)) ∧ t 10 = .slice h1.size 0 kk (.known kk) ∧ t 11 = .int .i64 (p : Nat) ∧ p ≤ kk ∧ j = kk - p) (j0 := kk)
      ⟨0, by simp [ones01], rfl, rfl, rfl, rfl, rfl, by omega, rfl⟩ ?_
    rintro j t h' ⟨p, rfl, e0, e6, e8, e10, e11, hp, hj⟩
    have holp := hol p hp
    simp -implicitDefEqProofs (disch := first | assumption | decide | omega | (simp -implicitDefEqProofs only [wpD1] <;> omega) | (refine not_in_one ?_; first | omega | (simp -implicitDefEqProofs only [wpD1] <;> omega) | fail) | (simp -implicitDefEqProofs only [wpD2] <;> assumption) | ((repeat (first | exact HSub.refl _ | assumption | refine HSub.push ?_ _ | refine HSub.reserve ?_ _ | refine HSub.put ?_ (by omega) _)); done) | fail) only [↓wpPre, wpPost, wpPoly, Int.reduceToNat, Int.reducePow, Int.reduceMul, Int.reduceAdd, Int.reduceSub, Int.reduceNeg, Nat.reduceAdd, Nat.reduceMul, Nat.reducePow, Int.reduceLT, Int.reduceLE, Int.reduceEq, Nat.reduceEqDiff, e0, e11]
    refine Br.by (fun c1 => ?_) (fun c1 => ?_)
    · have hset : (ones01 1 kk p).set p 1 = ones01 1 kk (p + 1) := by
        unfold ones01
        rw [List.set_append_right _ _ (by simp), List.length_replicate, Nat.sub_self, show kk - p = kk - (p + 1) + 1 by omega, List.replicate_succ, List.set_cons_zero]
        rw [show List.replicate (p + 1) (1 : Int) = List.replicate p 1 ++ [1] from List.replicate_succ', List.append_assoc]; rfl
      simp -implicitDefEqProofs (disch := first | assumption | decide | omega | (simp -implicitDefEqProofs only [wpD1] <;> omega) | (refine not_in_one ?_; first | omega | (simp -implicitDefEqProofs only [wpD1] <;> omega) | fail) | (simp -implicitDefEqProofs only [wpD2] <;> assumption) | ((repeat (first | exact HSub.refl _ | assumption | refine HSub.push ?_ _ | refine HSub.reserve ?_ _ | refine HSub.put ?_ (by omega) _)); done) | fail) only [↓wpPre, wpPost, wpPoly, Int.reduceToNat, Int.reducePow, Int.reduceMul, Int.reduceAdd, Int.reduceSub, Int.reduceNeg, Nat.reduceAdd, Nat.reduceMul, Nat.reducePow, Int.reduceLT, Int.reduceLE, Int.reduceEq, Nat.reduceEqDiff, e0, e6, e8, e10, e11, hset]
      exact ⟨_, ⟨p + 1, rfl, by simp, by omega, rfl⟩, by omega⟩
    · have : p = kk := by omega
      subst this
      have eo : ones01 1 p p = onesL (p : Nat) := by simp [ones01, onesL]
      rw [eo] at holp ⊢
      have RO : RI (h1.push (.cells (ints (onesL (p : Nat))) true 0)) (.slice h1.size 0 p (.known p)) (onesL (p : Nat)) := RI.known (get_push_eq rfl) ⟨by rw [holp], by omega⟩ (by omega)
      simp -implicitDefEqProofs (disch := first | assumption | decide | omega | (simp -implicitDefEqProofs only [wpD1] <;> omega) | (refine not_in_one ?_; first | omega | (simp -implicitDefEqProofs only [wpD1] <;> omega) | fail) | (simp -implicitDefEqProofs only [wpD2] <;> assumption) | ((repeat (first | exact HSub.refl _ | assumption | refine HSub.push ?_ _ | refine HSub.reserve ?_ _ | refine HSub.put ?_ (by omega) _)); done) | fail) only [↓wpPre, wpPost, wpPoly, Int.reduceToNat, Int.reducePow, Int.reduceMul, Int.reduceAdd, Int.reduceSub, Int.reduceNeg, Nat.reduceAdd, Nat.reduceMul, Nat.reducePow, Int.reduceLT, Int.reduceLE, Int.reduceEq, Nat.reduceEqDiff, e0, e6, e8, e10]
      refine ACallsK.of (run08_spec (hC.sub (T' := T91) (by decide)) (m := (lenN (p : Nat) : Int)) (R1.mono (HSub.push1 _ _)) RO R (by omega) (by unfold In64; omega)) ?_
      rintro r h3 ⟨L, A, hL1, hL2, hL3⟩
      have RA := A.ri
      have rl := runL_length (tapsL (p : Nat) w) (onesL (p : Nat)) L
      have Pa := RA.part_b (k2 := .i64) (b := (lenN (p : Nat) : Int)) (by omega)
      obtain ⟨wa, ea, Rwa⟩ := Pa
      simp -implicitDefEqProofs (disch := first | assumption | decide | omega | (simp -implicitDefEqProofs only [wpD1] <;> omega) | (refine not_in_one ?_; first | omega | (simp -implicitDefEqProofs only [wpD1] <;> omega) | fail) | (simp -implicitDefEqProofs only [wpD2] <;> assumption) | ((repeat (first | exact HSub.refl _ | assumption | refine HSub.push ?_ _ | refine HSub.reserve ?_ _ | refine HSub.put ?_ (by omega) _)); done) | fail) only [↓wpPre, wpPost, wpPoly, Int.reduceToNat, Int.reducePow, Int.reduceMul, Int.reduceAdd, Int.reduceSub, Int.reduceNeg, Nat.reduceAdd, Nat.reduceMul, Nat.reducePow, Int.reduceLT, Int.reduceLE, Int.reduceEq, Nat.reduceEqDiff, e8, ea]
      refine ⟨wa, rfl, (s1.trans (HSub.push1 _ _)).trans A.sub, ?_⟩
      rw [Int.toNat_natCast, runL_take (by omega)] at Rwa
      rw [if_pos trivial]; exact Rwa
  · have pe : tapsErr d w = 2 := by unfold tapsErr; rw [if_neg c]
    have hT := Taps08_spec (d := d) (w := w) (h := h) (hC.sub (T' := T73) (by decide)) hd hw
    rw [pe] at hT
    rw [pe]
    (refine calls_intro (hC.body (by decide) tab75) (Nat.le_of_ble_eq_true rfl) ?_); (show wp C _ none B75.code _ _); (simp only [B75]); simp -implicitDefEqProofs (disch := first | assumption | decide | omega | (simp -implicitDefEqProofs only [wpD1] <;> omega) | (refine not_in_one ?_; first | omega | (simp -implicitDefEqProofs only [wpD1] <;> omega) | fail) | (simp -implicitDefEqProofs only [wpD2] <;> assumption) | ((repeat (first | exact HSub.refl _ | assumption | refine HSub.push ?_ _ | refine HSub.reserve ?_ _ | refine HSub.put ?_ (by omega) _)); done) | fail) only [↓wpPre, wpPost, wpPoly, Int.reduceToNat, Int.reducePow, Int.reduceMul, Int.reduceAdd, Int.reduceSub, Int.reduceNeg, Nat.reduceAdd, Nat.reduceMul, Nat.reducePow, Int.reduceLT, Int.reduceLE, Int.reduceEq, Nat.reduceEqDiff]
    refine ACallsK.of hT ?_
    rintro r h1 ⟨v1, rfl, s1, R1⟩
    simp -implicitDefEqProofs (disch := first | assumption | decide | omega | (simp -implicitDefEqProofs only [wpD1] <;> omega) | (refine not_in_one ?_; first | omega | (simp -implicitDefEqProofs only [wpD1] <;> omega) | fail) | (simp -implicitDefEqProofs only [wpD2] <;> assumption) | ((repeat (first | exact HSub.refl _ | assumption | refine HSub.push ?_ _ | refine HSub.reserve ?_ _ | refine HSub.put ?_ (by omega) _)); done) | fail) only [↓wpPre, wpPost, wpPoly, Int.reduceToNat, Int.reducePow, Int.reduceMul, Int.reduceAdd, Int.reduceSub, Int.reduceNeg, Nat.reduceAdd, Nat.reduceMul, Nat.reducePow, Int.reduceLT, Int.reduceLE, Int.reduceEq, Nat.reduceEqDiff, lstErr]
    exact ⟨.nilslice, rfl, s1, by rw [if_neg id]; exact RI.nil⟩
end
end Go.Ae

/- The codes. -/
set_option linter.unusedSimpArgs false
set_option linter.unusedVariables false
namespace Go.Ae
/-- The bit of a code's chip. -/
def codeB (d p : Int) (i : Nat) : Int :=
  if p = 1 then (bitsL d 1).getD i 0 else if p = 2 then (bitsL d 2).getD i 0 else ((bitsL d 1).getD i 0 + (bitsL d 2).getD ((i + (p - 3).toNat) % lenN d) 0) % 2
def bitC (d p : Int) : List Int := (List.range (lenN d)).map (codeB d p)
def codeL (d p : Int) : List Int := (bitC d p).map fun b => 1 - 2 * b
def codeErr (d p : Int) : Int := if lenOk d = true ∧ 1 ≤ p ∧ p ≤ lenN d + 2 then 0 else 2
theorem bitC_length (d p : Int) : (bitC d p).length = lenN d := by simp [bitC]
theorem codeL_length (d p : Int) : (codeL d p).length = lenN d := by simp [codeL, bitC]
theorem bit01_getD {l : List Int} (h : ∀ x ∈ l, x = 0 ∨ x = 1) (i : Nat) : l.getD i 0 = 0 ∨ l.getD i 0 = 1 := bit01.get h i
theorem codeB_01 (d p : Int) (i : Nat) : codeB d p i = 0 ∨ codeB d p i = 1 := by
  unfold codeB
  have h1 := bit01_getD (bitsL_01 (d := d) (w := 1)) i
  have h2 := bit01_getD (bitsL_01 (d := d) (w := 2)) i
  split
  · exact h1
  · split
    · exact h2
    · omega
theorem codeB_one (d : Int) : bitC d 1 = bitsL d 1 := by
  refine seqx (by rw [bitC_length, bitsL_length]) fun i hi => ?_
  rw [bitC_length] at hi
  simp [bitC, hi, codeB]
theorem codeB_two (d : Int) : bitC d 2 = bitsL d 2 := by
  refine seqx (by rw [bitC_length, bitsL_length]) fun i hi => ?_
  rw [bitC_length] at hi
  simp [bitC, hi, codeB]
/-- The first sequence, its first k bits those of the code. -/
def codeP (d p : Int) (k : Nat) : List Int := (List.range (lenN d)).map fun i => if i < k then codeB d p i else (bitsL d 1).getD i 0
theorem codeP_length (d p : Int) (k : Nat) : (codeP d p k).length = lenN d := by simp [codeP]
theorem codeP_get {d p : Int} {k i : Nat} (hi : i < lenN d) : (codeP d p k).getD i 0 = if i < k then codeB d p i else (bitsL d 1).getD i 0 := by simp [codeP, hi]
theorem codeP_zero (d p : Int) : codeP d p 0 = bitsL d 1 := by
  refine seqx (by rw [codeP_length, bitsL_length]) fun i hi => ?_
  rw [codeP_length] at hi
  rw [codeP_get hi, if_neg (by omega)]
theorem codeP_full (d p : Int) : codeP d p (lenN d) = bitC d p := by
  refine seqx (by rw [codeP_length, bitC_length]) fun i hi => ?_
  rw [codeP_length] at hi
  rw [codeP_get hi, if_pos hi]; simp [bitC, hi]
theorem codeP_set {d p : Int} {k : Nat} (hk : k < lenN d) : (codeP d p k).set k (codeB d p k) = codeP d p (k + 1) := by
  refine seqx (by simp [codeP]) fun i hi => ?_
  simp only [List.length_set, codeP_length] at hi
  rw [codeP_get hi]
  simp only [List.getD_eq_getElem?_getD, List.getElem?_set, codeP_length]
  by_cases e : k = i
  · subst e; rw [if_pos rfl, if_pos hk, if_pos (by omega)]; rfl
  · rw [if_neg e]
    have := codeP_get (p := p) (k := k) hi
    rw [List.getD_eq_getElem?_getD] at this
    rw [this]
    by_cases c : i < k
    · rw [if_pos c, if_pos (by omega)]
    · rw [if_neg c, if_neg (by omega)]; simp
section
variable {C : Ctx}
set_option maxRecDepth 100000 in
set_option maxHeartbeats 2000000 in
theorem Code_spec (hC : Has C T76) {d p : Int} {h : Heap} (hd : In64 d) (hp : In64 p) : ACalls C 76 [.int .i64 d, .int .i64 p] h (fun r h' => ∃ v, r = lstErr v (codeErr d p) ∧ HSub h h' ∧ RI h' v (if codeErr d p = 0 then codeL d p else []) ∧ (codeErr d p = 0 → Fresh h h' v (codeL d p))) := by
  have hp' := hp
  unfold In64 at hp'
  have pe : codeErr d p = if lenOk d = true ∧ 1 ≤ p ∧ p ≤ lenN d + 2 then 0 else 2 := rfl
  by_cases c : lenOk d = true
  · have hl := lenN_eq c
    have eL : lenE d = tup2 (lenN d) 0 := by unfold lenE; rw [if_pos c]
    by_cases cp : 1 ≤ p ∧ p ≤ lenN d + 2
    · rw [if_pos ⟨c, cp⟩] at pe
      rw [pe]
      have t1 : tapsErr d 1 = 0 := by unfold tapsErr; rw [if_pos ⟨c, .inl rfl⟩]
      have t2 : tapsErr d 2 = 0 := by unfold tapsErr; rw [if_pos ⟨c, .inr rfl⟩]
      have lb1 := bitsL_length d 1
      have lb2 := bitsL_length d 2
      have hB : ∀ {w : Int} {h : Heap}, tapsErr d w = 0 → In64 w → ACalls C 74 [.int .i64 d, .int .i64 w] h (fun r h' => ∃ i, h.size ≤ i ∧ r = lstErr (.slice i 0 (lenN d) (.known (lenN d))) 0 ∧ HSub h h' ∧ h'.get i = some (.cells (ints (bitsL d w)) true 0)) := by
        intro w h e hw
        refine (Bits_spec (hC.sub (T' := T74) (by decide)) hd hw).mono ?_
        rintro r h' ⟨v, h1, _, _, h4⟩
        obtain ⟨s, _, i, hi, hv, hg⟩ := h4 e
        rw [bitsL_length] at hv
        exact ⟨i, hi, by rw [h1, e, hv], s, hg⟩
      have bC : ∀ k, (bitC d p).getD k 0 = 0 ∨ (bitC d p).getD k 0 = 1 := fun k => bit01_getD (fun x hx => by
        obtain ⟨i, _, rfl⟩ := List.mem_map.1 hx
        exact codeB_01 d p i) k
      have lC := bitC_length d p
      (refine calls_intro (hC.body (by decide) tab76) (Nat.le_of_ble_eq_true rfl) ?_); (show wp C _ none B76.code _ _); (simp only [B76]); simp -implicitDefEqProofs (disch := first | assumption | decide | omega | (simp -implicitDefEqProofs only [wpD1] <;> omega) | (refine not_in_one ?_; first | omega | (simp -implicitDefEqProofs only [wpD1] <;> omega) | fail) | (simp -implicitDefEqProofs only [wpD2] <;> assumption) | ((repeat (first | exact HSub.refl _ | assumption | refine HSub.push ?_ _ | refine HSub.reserve ?_ _ | refine HSub.put ?_ (by omega) _)); done) | fail) only [↓wpPre, wpPost, wpPoly, Int.reduceToNat, Int.reducePow, Int.reduceMul, Int.reduceAdd, Int.reduceSub, Int.reduceNeg, Nat.reduceAdd, Nat.reduceMul, Nat.reducePow, Int.reduceLT, Int.reduceLE, Int.reduceEq, Nat.reduceEqDiff]
      refine ACallsK.eq2 (Length_spec (hC.sub (T' := T70) (by decide)) hd) eL ?_
      simp -implicitDefEqProofs (disch := first | assumption | decide | omega | (simp -implicitDefEqProofs only [wpD1] <;> omega) | (refine not_in_one ?_; first | omega | (simp -implicitDefEqProofs only [wpD1] <;> omega) | fail) | (simp -implicitDefEqProofs only [wpD2] <;> assumption) | ((repeat (first | exact HSub.refl _ | assumption | refine HSub.push ?_ _ | refine HSub.reserve ?_ _ | refine HSub.put ?_ (by omega) _)); done) | fail) only [↓wpPre, wpPost, wpPoly, Int.reduceToNat, Int.reducePow, Int.reduceMul, Int.reduceAdd, Int.reduceSub, Int.reduceNeg, Nat.reduceAdd, Nat.reduceMul, Nat.reducePow, Int.reduceLT, Int.reduceLE, Int.reduceEq, Nat.reduceEqDiff, tup2]
      refine ACallsK.of (hB t1 (by unfold In64; omega)) ?_
      rintro r h1 ⟨i1, hi1, rfl, s1, g1⟩
      simp -implicitDefEqProofs (disch := first | assumption | decide | omega | (simp -implicitDefEqProofs only [wpD1] <;> omega) | (refine not_in_one ?_; first | omega | (simp -implicitDefEqProofs only [wpD1] <;> omega) | fail) | (simp -implicitDefEqProofs only [wpD2] <;> assumption) | ((repeat (first | exact HSub.refl _ | assumption | refine HSub.push ?_ _ | refine HSub.reserve ?_ _ | refine HSub.put ?_ (by omega) _)); done) | fail) only [↓wpPre, wpPost, wpPoly, Int.reduceToNat, Int.reducePow, Int.reduceMul, Int.reduceAdd, Int.reduceSub, Int.reduceNeg, Nat.reduceAdd, Nat.reduceMul, Nat.reducePow, Int.reduceLT, Int.reduceLE, Int.reduceEq, Nat.reduceEqDiff, lstErr]
      refine ACallsK.of (hB t2 (by unfold In64; omega)) ?_
      rintro r h2 ⟨i2, hi2, rfl, s2, g2⟩
      have hl1 := Heap.lt_of_get g1
      have hl2 := Heap.lt_of_get g2
      have g1' := (s2.get i1 hl1).trans g1
      have s12 := s1.trans s2
      have z2 := s2.size
      have z1 := s1.size
      by_cases p1 : p = 1
      · have gi1 : h2.get i1 = some (.cells (ints (bitC d p)) true 0) := by rw [p1, codeB_one]; exact g1'
        simp -implicitDefEqProofs (disch := first | assumption | decide | omega | (simp -implicitDefEqProofs only [wpD1] <;> omega) | (refine not_in_one ?_; first | omega | (simp -implicitDefEqProofs only [wpD1] <;> omega) | fail) | (simp -implicitDefEqProofs only [wpD2] <;> assumption) | ((repeat (first | exact HSub.refl _ | assumption | refine HSub.push ?_ _ | refine HSub.reserve ?_ _ | refine HSub.put ?_ (by omega) _)); done) | fail) only [↓wpPre, wpPost, wpPoly, Int.reduceToNat, Int.reducePow, Int.reduceMul, Int.reduceAdd, Int.reduceSub, Int.reduceNeg, Nat.reduceAdd, Nat.reduceMul, Nat.reducePow, Int.reduceLT, Int.reduceLE, Int.reduceEq, Nat.reduceEqDiff, lstErr]
        have gX : h2.get i1 = some (.cells (ints (mapPre (fun b => 1 - 2 * b) (bitC d p) 0)) true 0) := by rw [mapPre_zero]; exact gi1
        refine wp_loopI (fun j t h' => ∃ k : Nat, HSub h h' ∧ i1 < h'.size ∧ h'.get i1 = some (.cells (ints (mapPre (fun b => 1 - 2 * b) (bitC d p) k)) true 0) ∧ t 8 = .slice i1 0 (lenN d) (.known (lenN d)) ∧ t 68 = .slice i1 0 (lenN d) (.known (lenN d)) ∧ t 69 = .int .i64 (lenN d) ∧ t 70 = .int .i64 (k : Nat) ∧ k ≤ lenN d ∧ j = lenN d - k) (j0 := lenN d)
          ⟨0, s12, Heap.lt_of_get gi1, gX, rfl, rfl, rfl, rfl, by omega, rfl⟩ ?_
        rintro j t h' ⟨k, hs, hlt, hg, e8, e68, e69, e70, hk, hj⟩
        have hml := mapPre_length (fun b => 1 - 2 * b) (bitC d p) k
        simp -implicitDefEqProofs (disch := first | assumption | decide | omega | (simp -implicitDefEqProofs only [wpD1] <;> omega) | (refine not_in_one ?_; first | omega | (simp -implicitDefEqProofs only [wpD1] <;> omega) | fail) | (simp -implicitDefEqProofs only [wpD2] <;> assumption) | ((repeat (first | exact HSub.refl _ | assumption | refine HSub.push ?_ _ | refine HSub.reserve ?_ _ | refine HSub.put ?_ (by omega) _)); done) | fail) only [↓wpPre, wpPost, wpPoly, Int.reduceToNat, Int.reducePow, Int.reduceMul, Int.reduceAdd, Int.reduceSub, Int.reduceNeg, Nat.reduceAdd, Nat.reduceMul, Nat.reducePow, Int.reduceLT, Int.reduceLE, Int.reduceEq, Nat.reduceEqDiff, e69, e70]
        refine Br.by (fun c1 => ?_) (fun c1 => ?_)
        · have hk' : k < (bitC d p).length := by omega
          have hg2 := mapPre_get (fun b => 1 - 2 * b) hk'
          have hst := mapPre_set (fun b => 1 - 2 * b) hk'
          have b01 := bC k
          simp -implicitDefEqProofs (disch := first | assumption | decide | omega | (simp -implicitDefEqProofs only [wpD1] <;> omega) | (refine not_in_one ?_; first | omega | (simp -implicitDefEqProofs only [wpD1] <;> omega) | fail) | (simp -implicitDefEqProofs only [wpD2] <;> assumption) | ((repeat (first | exact HSub.refl _ | assumption | refine HSub.push ?_ _ | refine HSub.reserve ?_ _ | refine HSub.put ?_ (by omega) _)); done) | fail) only [↓wpPre, wpPost, wpPoly, Int.reduceToNat, Int.reducePow, Int.reduceMul, Int.reduceAdd, Int.reduceSub, Int.reduceNeg, Nat.reduceAdd, Nat.reduceMul, Nat.reducePow, Int.reduceLT, Int.reduceLE, Int.reduceEq, Nat.reduceEqDiff, e8, e68, e69, e70, hg, hg2]
          exact ⟨_, ⟨k + 1, hs.put (by omega) _, hlt, by rw [← hst], by simp, by omega, rfl⟩, by omega⟩
        · have : k = (bitC d p).length := by omega
          subst this
          rw [mapPre_full] at hg
          simp -implicitDefEqProofs (disch := first | assumption | decide | omega | (simp -implicitDefEqProofs only [wpD1] <;> omega) | (refine not_in_one ?_; first | omega | (simp -implicitDefEqProofs only [wpD1] <;> omega) | fail) | (simp -implicitDefEqProofs only [wpD2] <;> assumption) | ((repeat (first | exact HSub.refl _ | assumption | refine HSub.push ?_ _ | refine HSub.reserve ?_ _ | refine HSub.put ?_ (by omega) _)); done) | fail) only [↓wpPre, wpPost, wpPoly, Int.reduceToNat, Int.reducePow, Int.reduceMul, Int.reduceAdd, Int.reduceSub, Int.reduceNeg, Nat.reduceAdd, Nat.reduceMul, Nat.reducePow, Int.reduceLT, Int.reduceLE, Int.reduceEq, Nat.reduceEqDiff, e8]
          have cl := codeL_length d p
          have F : Fresh h h' (.slice i1 0 (lenN d) (.known (lenN d))) (codeL d p) := ⟨hs, by omega, i1, by omega, by rw [cl], hg⟩
          exact ⟨_, rfl, hs, by rw [if_pos trivial]; exact F.ri, fun _ => F⟩
      by_cases p2 : p = 2
      · have gi2 : h2.get i2 = some (.cells (ints (bitC d p)) true 0) := by rw [p2, codeB_two]; exact g2
        simp -implicitDefEqProofs (disch := first | assumption | decide | omega | (simp -implicitDefEqProofs only [wpD1] <;> omega) | (refine not_in_one ?_; first | omega | (simp -implicitDefEqProofs only [wpD1] <;> omega) | fail) | (simp -implicitDefEqProofs only [wpD2] <;> assumption) | ((repeat (first | exact HSub.refl _ | assumption | refine HSub.push ?_ _ | refine HSub.reserve ?_ _ | refine HSub.put ?_ (by omega) _)); done) | fail) only [↓wpPre, wpPost, wpPoly, Int.reduceToNat, Int.reducePow, Int.reduceMul, Int.reduceAdd, Int.reduceSub, Int.reduceNeg, Nat.reduceAdd, Nat.reduceMul, Nat.reducePow, Int.reduceLT, Int.reduceLE, Int.reduceEq, Nat.reduceEqDiff, lstErr]
        have gX : h2.get i2 = some (.cells (ints (mapPre (fun b => 1 - 2 * b) (bitC d p) 0)) true 0) := by rw [mapPre_zero]; exact gi2
        refine wp_loopI (fun j t h' => ∃ k : Nat, HSub h h' ∧ i2 < h'.size ∧ h'.get i2 = some (.cells (ints (mapPre (fun b => 1 - 2 * b) (bitC d p) k)) true 0) ∧ t 8 = .slice i2 0 (lenN d) (.known (lenN d)) ∧ t 68 = .slice i2 0 (lenN d) (.known (lenN d)) ∧ t 69 = .int .i64 (lenN d) ∧ t 70 = .int .i64 (k : Nat) ∧ k ≤ lenN d ∧ j = lenN d - k) (j0 := lenN d)
          ⟨0, s12, Heap.lt_of_get gi2, gX, rfl, rfl, rfl, rfl, by omega, rfl⟩ ?_
        rintro j t h' ⟨k, hs, hlt, hg, e8, e68, e69, e70, hk, hj⟩
        have hml := mapPre_length (fun b => 1 - 2 * b) (bitC d p) k
        simp -implicitDefEqProofs (disch := first | assumption | decide | omega | (simp -implicitDefEqProofs only [wpD1] <;> omega) | (refine not_in_one ?_; first | omega | (simp -implicitDefEqProofs only [wpD1] <;> omega) | fail) | (simp -implicitDefEqProofs only [wpD2] <;> assumption) | ((repeat (first | exact HSub.refl _ | assumption | refine HSub.push ?_ _ | refine HSub.reserve ?_ _ | refine HSub.put ?_ (by omega) _)); done) | fail) only [↓wpPre, wpPost, wpPoly, Int.reduceToNat, Int.reducePow, Int.reduceMul, Int.reduceAdd, Int.reduceSub, Int.reduceNeg, Nat.reduceAdd, Nat.reduceMul, Nat.reducePow, Int.reduceLT, Int.reduceLE, Int.reduceEq, Nat.reduceEqDiff, e69, e70]
        refine Br.by (fun c1 => ?_) (fun c1 => ?_)
        · have hk' : k < (bitC d p).length := by omega
          have hg2 := mapPre_get (fun b => 1 - 2 * b) hk'
          have hst := mapPre_set (fun b => 1 - 2 * b) hk'
          have b01 := bC k
          simp -implicitDefEqProofs (disch := first | assumption | decide | omega | (simp -implicitDefEqProofs only [wpD1] <;> omega) | (refine not_in_one ?_; first | omega | (simp -implicitDefEqProofs only [wpD1] <;> omega) | fail) | (simp -implicitDefEqProofs only [wpD2] <;> assumption) | ((repeat (first | exact HSub.refl _ | assumption | refine HSub.push ?_ _ | refine HSub.reserve ?_ _ | refine HSub.put ?_ (by omega) _)); done) | fail) only [↓wpPre, wpPost, wpPoly, Int.reduceToNat, Int.reducePow, Int.reduceMul, Int.reduceAdd, Int.reduceSub, Int.reduceNeg, Nat.reduceAdd, Nat.reduceMul, Nat.reducePow, Int.reduceLT, Int.reduceLE, Int.reduceEq, Nat.reduceEqDiff, e8, e68, e69, e70, hg, hg2]
          exact ⟨_, ⟨k + 1, hs.put (by omega) _, hlt, by rw [← hst], by simp, by omega, rfl⟩, by omega⟩
        · have : k = (bitC d p).length := by omega
          subst this
          rw [mapPre_full] at hg
          simp -implicitDefEqProofs (disch := first | assumption | decide | omega | (simp -implicitDefEqProofs only [wpD1] <;> omega) | (refine not_in_one ?_; first | omega | (simp -implicitDefEqProofs only [wpD1] <;> omega) | fail) | (simp -implicitDefEqProofs only [wpD2] <;> assumption) | ((repeat (first | exact HSub.refl _ | assumption | refine HSub.push ?_ _ | refine HSub.reserve ?_ _ | refine HSub.put ?_ (by omega) _)); done) | fail) only [↓wpPre, wpPost, wpPoly, Int.reduceToNat, Int.reducePow, Int.reduceMul, Int.reduceAdd, Int.reduceSub, Int.reduceNeg, Nat.reduceAdd, Nat.reduceMul, Nat.reducePow, Int.reduceLT, Int.reduceLE, Int.reduceEq, Nat.reduceEqDiff, e8]
          have cl := codeL_length d p
          have F : Fresh h h' (.slice i2 0 (lenN d) (.known (lenN d))) (codeL d p) := ⟨hs, by omega, i2, by omega, by rw [cl], hg⟩
          exact ⟨_, rfl, hs, by rw [if_pos trivial]; exact F.ri, fun _ => F⟩
      have hp3 : 3 ≤ p := by omega
      have lP := codeP_length d p
      have g0 : h2.get i1 = some (.cells (ints (codeP d p 0)) true 0) := by rw [codeP_zero]; exact g1'
      simp -implicitDefEqProofs (disch := first | assumption | decide | omega | (simp -implicitDefEqProofs only [wpD1] <;> omega) | (refine not_in_one ?_; first | omega | (simp -implicitDefEqProofs only [wpD1] <;> omega) | fail) | (simp -implicitDefEqProofs only [wpD2] <;> assumption) | ((repeat (first | exact HSub.refl _ | assumption | refine HSub.push ?_ _ | refine HSub.reserve ?_ _ | refine HSub.put ?_ (by omega) _)); done) | fail) only [↓wpPre, wpPost, wpPoly, Int.reduceToNat, Int.reducePow, Int.reduceMul, Int.reduceAdd, Int.reduceSub, Int.reduceNeg, Nat.reduceAdd, Nat.reduceMul, Nat.reducePow, Int.reduceLT, Int.reduceLE, Int.reduceEq, Nat.reduceEqDiff, lstErr]
      refine wp_loopI (fun j t h' => ∃ k : Nat, HSub h h' ∧ i1 < h'.size ∧ h'.get i1 = some (.cells (ints (codeP d p k)) true 0) ∧ h'.get i2 = some (.cells (ints (bitsL d 2)) true 0) ∧ t 1 = .int .i64 p ∧ t 6 = .int .i64 (lenN d) ∧ t 8 = .slice i1 0 (lenN d) (.known (lenN d)) ∧ t 10 = .slice i2 0 (lenN d) (.known (lenN d)) ∧
          t 42 = .slice i1 0 (lenN d) (.known (lenN d)) ∧ t 43 = .int .i64 (lenN d) ∧ t 44 = .int .i64 (k : Nat) ∧ k ≤ lenN d ∧ j = lenN d - k) (j0 := lenN d)
        ⟨0, s12, by omega, g0, g2, rfl, rfl, rfl, rfl, rfl, rfl, rfl, by omega, rfl⟩ ?_
      rintro j t h3 ⟨k, hs3, hlt3, hg1, hg2, e1, e6, e8, e10, e42, e43, e44, hk, hj⟩
      have lPk := lP k
      simp -implicitDefEqProofs (disch := first | assumption | decide | omega | (simp -implicitDefEqProofs only [wpD1] <;> omega) | (refine not_in_one ?_; first | omega | (simp -implicitDefEqProofs only [wpD1] <;> omega) | fail) | (simp -implicitDefEqProofs only [wpD2] <;> assumption) | ((repeat (first | exact HSub.refl _ | assumption | refine HSub.push ?_ _ | refine HSub.reserve ?_ _ | refine HSub.put ?_ (by omega) _)); done) | fail) only [↓wpPre, wpPost, wpPoly, Int.reduceToNat, Int.reducePow, Int.reduceMul, Int.reduceAdd, Int.reduceSub, Int.reduceNeg, Nat.reduceAdd, Nat.reduceMul, Nat.reducePow, Int.reduceLT, Int.reduceLE, Int.reduceEq, Nat.reduceEqDiff, e43, e44]
      refine Br.by (fun c1 => ?_) (fun c1 => ?_)
      · have hk' : k < lenN d := by omega
        have gP : (codeP d p k).getD k 0 = (bitsL d 1).getD k 0 := by rw [codeP_get hk', if_neg (by omega)]
        have em : ((k : Int) + p - 3) % (lenN d : Int) = (((k + (p - 3).toNat) % lenN d : Nat) : Int) := by
          rw [show (k : Int) + p - 3 = ((k + (p - 3).toNat : Nat) : Int) by omega]; exact (Int.natCast_emod _ _).symm
        have hm : (k + (p - 3).toNat) % lenN d < lenN d := Nat.mod_lt _ (by omega)
        have lb2 := bitsL_length d 2
        have ex := xor01 (bit01_getD (bitsL_01 (d := d) (w := 1)) k) (bit01_getD (bitsL_01 (d := d) (w := 2)) ((k + (p - 3).toNat) % lenN d))
        have hcb : codeB d p k = ((bitsL d 1).getD k 0 + (bitsL d 2).getD ((k + (p - 3).toNat) % lenN d) 0) % 2 := by unfold codeB; rw [if_neg p1, if_neg p2]
        rw [← hcb] at ex
        have hst := codeP_set (p := p) hk'
        simp -implicitDefEqProofs (disch := first | assumption | decide | omega | (simp -implicitDefEqProofs only [wpD1] <;> omega) | (refine not_in_one ?_; first | omega | (simp -implicitDefEqProofs only [wpD1] <;> omega) | fail) | (simp -implicitDefEqProofs only [wpD2] <;> assumption) | ((repeat (first | exact HSub.refl _ | assumption | refine HSub.push ?_ _ | refine HSub.reserve ?_ _ | refine HSub.put ?_ (by omega) _)); done) | fail) only [↓wpPre, wpPost, wpPoly, Int.reduceToNat, Int.reducePow, Int.reduceMul, Int.reduceAdd, Int.reduceSub, Int.reduceNeg, Nat.reduceAdd, Nat.reduceMul, Nat.reducePow, Int.reduceLT, Int.reduceLE, Int.reduceEq, Nat.reduceEqDiff, e1, e6, e8, e10, e42, e43, e44, hg1, hg2, gP, em, ex, hst]
        exact ⟨_, ⟨k + 1, hs3.put (by omega) _, hlt3, rfl, by simp, by omega, rfl⟩, by omega⟩
      · have ek : k = lenN d := by omega
        rw [ek] at hg1
        have gi3 : h3.get i1 = some (.cells (ints (bitC d p)) true 0) := by rw [← codeP_full]; exact hg1
        simp -implicitDefEqProofs (disch := first | assumption | decide | omega | (simp -implicitDefEqProofs only [wpD1] <;> omega) | (refine not_in_one ?_; first | omega | (simp -implicitDefEqProofs only [wpD1] <;> omega) | fail) | (simp -implicitDefEqProofs only [wpD2] <;> assumption) | ((repeat (first | exact HSub.refl _ | assumption | refine HSub.push ?_ _ | refine HSub.reserve ?_ _ | refine HSub.put ?_ (by omega) _)); done) | fail) only [↓wpPre, wpPost, wpPoly, Int.reduceToNat, Int.reducePow, Int.reduceMul, Int.reduceAdd, Int.reduceSub, Int.reduceNeg, Nat.reduceAdd, Nat.reduceMul, Nat.reducePow, Int.reduceLT, Int.reduceLE, Int.reduceEq, Nat.reduceEqDiff, e8]
        have gX : h3.get i1 = some (.cells (ints (mapPre (fun b => 1 - 2 * b) (bitC d p) 0)) true 0) := by rw [mapPre_zero]; exact gi3
        refine wp_loopI (fun j t h' => ∃ k : Nat, HSub h h' ∧ i1 < h'.size ∧ h'.get i1 = some (.cells (ints (mapPre (fun b => 1 - 2 * b) (bitC d p) k)) true 0) ∧ t 8 = .slice i1 0 (lenN d) (.known (lenN d)) ∧ t 68 = .slice i1 0 (lenN d) (.known (lenN d)) ∧ t 69 = .int .i64 (lenN d) ∧ t 70 = .int .i64 (k : Nat) ∧ k ≤ lenN d ∧ j = lenN d - k) (j0 := lenN d)
          ⟨0, hs3, Heap.lt_of_get gi3, gX, e8, rfl, rfl, rfl, by omega, rfl⟩ ?_
        rintro j u h' ⟨k, hs, hlt, hg, f8, e68, e69, e70, hk, hj⟩
        have hml := mapPre_length (fun b => 1 - 2 * b) (bitC d p) k
        simp -implicitDefEqProofs (disch := first | assumption | decide | omega | (simp -implicitDefEqProofs only [wpD1] <;> omega) | (refine not_in_one ?_; first | omega | (simp -implicitDefEqProofs only [wpD1] <;> omega) | fail) | (simp -implicitDefEqProofs only [wpD2] <;> assumption) | ((repeat (first | exact HSub.refl _ | assumption | refine HSub.push ?_ _ | refine HSub.reserve ?_ _ | refine HSub.put ?_ (by omega) _)); done) | fail) only [↓wpPre, wpPost, wpPoly, Int.reduceToNat, Int.reducePow, Int.reduceMul, Int.reduceAdd, Int.reduceSub, Int.reduceNeg, Nat.reduceAdd, Nat.reduceMul, Nat.reducePow, Int.reduceLT, Int.reduceLE, Int.reduceEq, Nat.reduceEqDiff, e69, e70]
        refine Br.by (fun c1 => ?_) (fun c1 => ?_)
        · have hk' : k < (bitC d p).length := by omega
          have hg2 := mapPre_get (fun b => 1 - 2 * b) hk'
          have hst := mapPre_set (fun b => 1 - 2 * b) hk'
          have b01 := bC k
          simp -implicitDefEqProofs (disch := first | assumption | decide | omega | (simp -implicitDefEqProofs only [wpD1] <;> omega) | (refine not_in_one ?_; first | omega | (simp -implicitDefEqProofs only [wpD1] <;> omega) | fail) | (simp -implicitDefEqProofs only [wpD2] <;> assumption) | ((repeat (first | exact HSub.refl _ | assumption | refine HSub.push ?_ _ | refine HSub.reserve ?_ _ | refine HSub.put ?_ (by omega) _)); done) | fail) only [↓wpPre, wpPost, wpPoly, Int.reduceToNat, Int.reducePow, Int.reduceMul, Int.reduceAdd, Int.reduceSub, Int.reduceNeg, Nat.reduceAdd, Nat.reduceMul, Nat.reducePow, Int.reduceLT, Int.reduceLE, Int.reduceEq, Nat.reduceEqDiff, f8, e68, e69, e70, hg, hg2]
          exact ⟨_, ⟨k + 1, hs.put (by omega) _, hlt, by rw [← hst], by simp, by omega, rfl⟩, by omega⟩
        · have : k = (bitC d p).length := by omega
          subst this
          rw [mapPre_full] at hg
          simp -implicitDefEqProofs (disch := first | assumption | decide | omega | (simp -implicitDefEqProofs only [wpD1] <;> omega) | (refine not_in_one ?_; first | omega | (simp -implicitDefEqProofs only [wpD1] <;> omega) | fail) | (simp -implicitDefEqProofs only [wpD2] <;> assumption) | ((repeat (first | exact HSub.refl _ | assumption | refine HSub.push ?_ _ | refine HSub.reserve ?_ _ | refine HSub.put ?_ (by omega) _)); done) | fail) only [↓wpPre, wpPost, wpPoly, Int.reduceToNat, Int.reducePow, Int.reduceMul, Int.reduceAdd, Int.reduceSub, Int.reduceNeg, Nat.reduceAdd, Nat.reduceMul, Nat.reducePow, Int.reduceLT, Int.reduceLE, Int.reduceEq, Nat.reduceEqDiff, f8]
          have cl := codeL_length d p
          have F : Fresh h h' (.slice i1 0 (lenN d) (.known (lenN d))) (codeL d p) := ⟨hs, by omega, i1, by omega, by rw [cl], hg⟩
          exact ⟨_, rfl, hs, by rw [if_pos trivial]; exact F.ri, fun _ => F⟩
    · have cp' : ¬ (lenOk d = true ∧ 1 ≤ p ∧ p ≤ lenN d + 2) := fun h => cp h.2
      rw [if_neg cp'] at pe
      rw [pe]
      (refine calls_intro (hC.body (by decide) tab76) (Nat.le_of_ble_eq_true rfl) ?_); (show wp C _ none B76.code _ _); (simp only [B76]); simp -implicitDefEqProofs (disch := first | assumption | decide | omega | (simp -implicitDefEqProofs only [wpD1] <;> omega) | (refine not_in_one ?_; first | omega | (simp -implicitDefEqProofs only [wpD1] <;> omega) | fail) | (simp -implicitDefEqProofs only [wpD2] <;> assumption) | ((repeat (first | exact HSub.refl _ | assumption | refine HSub.push ?_ _ | refine HSub.reserve ?_ _ | refine HSub.put ?_ (by omega) _)); done) | fail) only [↓wpPre, wpPost, wpPoly, Int.reduceToNat, Int.reducePow, Int.reduceMul, Int.reduceAdd, Int.reduceSub, Int.reduceNeg, Nat.reduceAdd, Nat.reduceMul, Nat.reducePow, Int.reduceLT, Int.reduceLE, Int.reduceEq, Nat.reduceEqDiff]
      refine ACallsK.eq2 (Length_spec (hC.sub (T' := T70) (by decide)) hd) eL ?_
      simp -implicitDefEqProofs (disch := first | assumption | decide | omega | (simp -implicitDefEqProofs only [wpD1] <;> omega) | (refine not_in_one ?_; first | omega | (simp -implicitDefEqProofs only [wpD1] <;> omega) | fail) | (simp -implicitDefEqProofs only [wpD2] <;> assumption) | ((repeat (first | exact HSub.refl _ | assumption | refine HSub.push ?_ _ | refine HSub.reserve ?_ _ | refine HSub.put ?_ (by omega) _)); done) | fail) only [↓wpPre, wpPost, wpPoly, Int.reduceToNat, Int.reducePow, Int.reduceMul, Int.reduceAdd, Int.reduceSub, Int.reduceNeg, Nat.reduceAdd, Nat.reduceMul, Nat.reducePow, Int.reduceLT, Int.reduceLE, Int.reduceEq, Nat.reduceEqDiff, tup2]
      (repeat' (first | (refine Br.by (fun _ => ?_) (fun _ => ?_)) | (simp -implicitDefEqProofs (disch := first | assumption | decide | omega | (simp -implicitDefEqProofs only [wpD1] <;> omega) | (refine not_in_one ?_; first | omega | (simp -implicitDefEqProofs only [wpD1] <;> omega) | fail) | (simp -implicitDefEqProofs only [wpD2] <;> assumption) | ((repeat (first | exact HSub.refl _ | assumption | refine HSub.push ?_ _ | refine HSub.reserve ?_ _ | refine HSub.put ?_ (by omega) _)); done) | fail) only [↓wpPre, wpPost, wpPoly, Int.reduceToNat, Int.reducePow, Int.reduceMul, Int.reduceAdd, Int.reduceSub, Int.reduceNeg, Nat.reduceAdd, Nat.reduceMul, Nat.reducePow, Int.reduceLT, Int.reduceLE, Int.reduceEq, Nat.reduceEqDiff])))
      all_goals first | exact ⟨.nilslice, by rw [lstErr], HSub.refl _, by rw [if_neg id]; exact RI.nil⟩ | omega
  · have eL : lenE d = tup2 0 2 := by unfold lenE; rw [if_neg c]
    have cp' : ¬ (lenOk d = true ∧ 1 ≤ p ∧ p ≤ lenN d + 2) := fun h => c h.1
    rw [if_neg cp'] at pe
    rw [pe]
    (refine calls_intro (hC.body (by decide) tab76) (Nat.le_of_ble_eq_true rfl) ?_); (show wp C _ none B76.code _ _); (simp only [B76]); simp -implicitDefEqProofs (disch := first | assumption | decide | omega | (simp -implicitDefEqProofs only [wpD1] <;> omega) | (refine not_in_one ?_; first | omega | (simp -implicitDefEqProofs only [wpD1] <;> omega) | fail) | (simp -implicitDefEqProofs only [wpD2] <;> assumption) | ((repeat (first | exact HSub.refl _ | assumption | refine HSub.push ?_ _ | refine HSub.reserve ?_ _ | refine HSub.put ?_ (by omega) _)); done) | fail) only [↓wpPre, wpPost, wpPoly, Int.reduceToNat, Int.reducePow, Int.reduceMul, Int.reduceAdd, Int.reduceSub, Int.reduceNeg, Nat.reduceAdd, Nat.reduceMul, Nat.reducePow, Int.reduceLT, Int.reduceLE, Int.reduceEq, Nat.reduceEqDiff]
    refine ACallsK.eq2 (Length_spec (hC.sub (T' := T70) (by decide)) hd) eL ?_
    simp -implicitDefEqProofs (disch := first | assumption | decide | omega | (simp -implicitDefEqProofs only [wpD1] <;> omega) | (refine not_in_one ?_; first | omega | (simp -implicitDefEqProofs only [wpD1] <;> omega) | fail) | (simp -implicitDefEqProofs only [wpD2] <;> assumption) | ((repeat (first | exact HSub.refl _ | assumption | refine HSub.push ?_ _ | refine HSub.reserve ?_ _ | refine HSub.put ?_ (by omega) _)); done) | fail) only [↓wpPre, wpPost, wpPoly, Int.reduceToNat, Int.reducePow, Int.reduceMul, Int.reduceAdd, Int.reduceSub, Int.reduceNeg, Nat.reduceAdd, Nat.reduceMul, Nat.reducePow, Int.reduceLT, Int.reduceLE, Int.reduceEq, Nat.reduceEqDiff, tup2]
    exact ⟨.nilslice, by rw [lstErr], HSub.refl _, by rw [if_neg id]; exact RI.nil⟩
end
end Go.Ae

/- The codes of the reference; sums. -/
set_option linter.unusedSimpArgs false
set_option linter.unusedVariables false
namespace Go.Ae
def codeK (d p : Int) (k : Nat) : List Int := (codeL d p).take k ++ List.replicate (lenN d - k) 0
theorem codeK_length {d p : Int} {k : Nat} (h : k ≤ lenN d) : (codeK d p k).length = lenN d := by simp [codeK, codeL_length]; omega
theorem codeL_get {d p : Int} {k : Nat} (h : k < lenN d) : (codeL d p).getD k 0 = 1 - 2 * codeB d p k := by simp [codeL, bitC, h]
theorem codeK_set {d p : Int} {k : Nat} (h : k < lenN d) : (codeK d p k).set k (1 - 2 * codeB d p k) = codeK d p (k + 1) := by
  unfold codeK
  have cl := codeL_length d p
  have hl : ((codeL d p).take k).length = k := by simp [cl]; omega
  rw [List.set_append_right _ _ (by omega), hl, Nat.sub_self, show lenN d - k = lenN d - (k + 1) + 1 by omega, List.replicate_succ, List.set_cons_zero, take_succ_getD (by omega), codeL_get h, List.append_assoc]
  rfl
theorem codeK_full (d p : Int) : codeK d p (lenN d) = codeL d p := by
  have cl := codeL_length d p
  simp [codeK, ← cl]
theorem codeL_range {d p : Int} : ∀ x ∈ codeL d p, -1 ≤ x ∧ x ≤ 1 := by
  intro x hx
  obtain ⟨b, hb, rfl⟩ := List.mem_map.1 hx
  obtain ⟨i, _, rfl⟩ := List.mem_map.1 hb
  have := codeB_01 d p i
  omega
theorem sum_pm {c : Int} {l : List Int} (hl : ∀ x ∈ l, -c ≤ x ∧ x ≤ c) : -(c * l.length) ≤ l.sum ∧ l.sum ≤ c * l.length := by
  induction l with
  | nil => simp
  | cons x l ih =>
    have h1 := ih (fun y hy => hl y (List.mem_cons_of_mem _ hy))
    have h2 := hl x List.mem_cons_self
    simp only [List.sum_cons, List.length_cons, Int.natCast_add, Int.mul_add]
    omega
theorem sum_take_succ {l : List Int} {k : Nat} (h : k < l.length) : (l.take (k + 1)).sum = (l.take k).sum + l.getD k 0 := by rw [take_succ_getD h]; simp
def sumE (d p : Int) : AV := if codeErr d p = 0 then tup2 (codeL d p).sum 0 else tup2 0 2
section
variable {C : Ctx}
set_option maxRecDepth 100000 in
set_option maxHeartbeats 2000000 in
theorem Code08_spec (hC : Has C T77) {d p : Int} {h : Heap} (hd : In64 d) (hp : In64 p) : ACalls C 77 [.int .i64 d, .int .i64 p] h (fun r h' => ∃ v, r = lstErr v (codeErr d p) ∧ HSub h h' ∧ RI h' v (if codeErr d p = 0 then codeL d p else [])) := by
  have hp' := hp
  unfold In64 at hp'
  have pe : codeErr d p = if lenOk d = true ∧ 1 ≤ p ∧ p ≤ lenN d + 2 then 0 else 2 := rfl
  by_cases c : lenOk d = true
  · have hl := lenN_eq c
    have eL : lenE d = tup2 (lenN d) 0 := by unfold lenE; rw [if_pos c]
    by_cases cp : 1 ≤ p ∧ p ≤ lenN d + 2
    · rw [if_pos ⟨c, cp⟩] at pe
      rw [pe]
      have t1 : tapsErr d 1 = 0 := by unfold tapsErr; rw [if_pos ⟨c, .inl rfl⟩]
      have t2 : tapsErr d 2 = 0 := by unfold tapsErr; rw [if_pos ⟨c, .inr rfl⟩]
      have lb1 := bitsL_length d 1
      have lb2 := bitsL_length d 2
      have hB : ∀ {w : Int} {h : Heap}, tapsErr d w = 0 → In64 w → ACalls C 75 [.int .i64 d, .int .i64 w] h (fun r h' => ∃ v, r = lstErr v 0 ∧ HSub h h' ∧ RI h' v (bitsL d w)) := by
        intro w h e hw
        refine (Bits08_spec (hC.sub (T' := T75) (by decide)) hd hw).mono ?_
        rintro r h' ⟨v, h1, h2, h3⟩
        rw [e, if_pos rfl] at h3
        exact ⟨v, by rw [h1, e], h2, h3⟩
      (refine calls_intro (hC.body (by decide) tab77) (Nat.le_of_ble_eq_true rfl) ?_); (show wp C _ none B77.code _ _); (simp only [B77]); simp -implicitDefEqProofs (disch := first | assumption | decide | omega | (simp -implicitDefEqProofs only [wpD1] <;> omega) | (refine not_in_one ?_; first | omega | (simp -implicitDefEqProofs only [wpD1] <;> omega) | fail) | (simp -implicitDefEqProofs only [wpD2] <;> assumption) | ((repeat (first | exact HSub.refl _ | assumption | refine HSub.push ?_ _ | refine HSub.reserve ?_ _ | refine HSub.put ?_ (by omega) _)); done) | fail) only [↓wpPre, wpPost, wpPoly, Int.reduceToNat, Int.reducePow, Int.reduceMul, Int.reduceAdd, Int.reduceSub, Int.reduceNeg, Nat.reduceAdd, Nat.reduceMul, Nat.reducePow, Int.reduceLT, Int.reduceLE, Int.reduceEq, Nat.reduceEqDiff]
      refine ACallsK.eq2 (Length08_spec (hC.sub (T' := T71) (by decide)) hd) eL ?_
      simp -implicitDefEqProofs (disch := first | assumption | decide | omega | (simp -implicitDefEqProofs only [wpD1] <;> omega) | (refine not_in_one ?_; first | omega | (simp -implicitDefEqProofs only [wpD1] <;> omega) | fail) | (simp -implicitDefEqProofs only [wpD2] <;> assumption) | ((repeat (first | exact HSub.refl _ | assumption | refine HSub.push ?_ _ | refine HSub.reserve ?_ _ | refine HSub.put ?_ (by omega) _)); done) | fail) only [↓wpPre, wpPost, wpPoly, Int.reduceToNat, Int.reducePow, Int.reduceMul, Int.reduceAdd, Int.reduceSub, Int.reduceNeg, Nat.reduceAdd, Nat.reduceMul, Nat.reducePow, Int.reduceLT, Int.reduceLE, Int.reduceEq, Nat.reduceEqDiff, tup2]
      refine ACallsK.of (hB t1 (by unfold In64; omega)) ?_
      rintro r h1 ⟨v1, rfl, s1, R1⟩
      simp -implicitDefEqProofs (disch := first | assumption | decide | omega | (simp -implicitDefEqProofs only [wpD1] <;> omega) | (refine not_in_one ?_; first | omega | (simp -implicitDefEqProofs only [wpD1] <;> omega) | fail) | (simp -implicitDefEqProofs only [wpD2] <;> assumption) | ((repeat (first | exact HSub.refl _ | assumption | refine HSub.push ?_ _ | refine HSub.reserve ?_ _ | refine HSub.put ?_ (by omega) _)); done) | fail) only [↓wpPre, wpPost, wpPoly, Int.reduceToNat, Int.reducePow, Int.reduceMul, Int.reduceAdd, Int.reduceSub, Int.reduceNeg, Nat.reduceAdd, Nat.reduceMul, Nat.reducePow, Int.reduceLT, Int.reduceLE, Int.reduceEq, Nat.reduceEqDiff, lstErr]
      refine ACallsK.of (hB t2 (by unfold In64; omega)) ?_
      rintro r h2 ⟨v2, rfl, s2, R2⟩
      have R1 := R1.mono s2
      have s12 := s1.trans s2
      simp -implicitDefEqProofs (disch := first | assumption | decide | omega | (simp -implicitDefEqProofs only [wpD1] <;> omega) | (refine not_in_one ?_; first | omega | (simp -implicitDefEqProofs only [wpD1] <;> omega) | fail) | (simp -implicitDefEqProofs only [wpD2] <;> assumption) | ((repeat (first | exact HSub.refl _ | assumption | refine HSub.push ?_ _ | refine HSub.reserve ?_ _ | refine HSub.put ?_ (by omega) _)); done) | fail) only [↓wpPre, wpPost, wpPoly, Int.reduceToNat, Int.reducePow, Int.reduceMul, Int.reduceAdd, Int.reduceSub, Int.reduceNeg, Nat.reduceAdd, Nat.reduceMul, Nat.reducePow, Int.reduceLT, Int.reduceLE, Int.reduceEq, Nat.reduceEqDiff, lstErr, ints_replicate]
      refine wp_loopI (fun j t h' => ∃ k : Nat, h' = h2.push (.cells (ints (codeK d p k)) true 0) ∧ t 1 = .int .i64 p ∧ t 6 = .int .i64 (lenN d) ∧ t 8 = v1 ∧ t 10 = v2 ∧ t 12 = .slice h2.size 0 (lenN d) (.known (lenN d)) ∧ t 13 = .int .i64 (k : Nat) ∧ k ≤ lenN d ∧ j = lenN d - k) (j0 := lenN d)
        ⟨0, by simp [codeK], rfl, rfl, rfl, rfl, rfl, rfl, by omega, rfl⟩ ?_
      rintro j t h3 ⟨k, rfl, e1, e6, e8, e10, e12, e13, hk, hj⟩
      have lK := codeK_length (p := p) hk
      simp -implicitDefEqProofs (disch := first | assumption | decide | omega | (simp -implicitDefEqProofs only [wpD1] <;> omega) | (refine not_in_one ?_; first | omega | (simp -implicitDefEqProofs only [wpD1] <;> omega) | fail) | (simp -implicitDefEqProofs only [wpD2] <;> assumption) | ((repeat (first | exact HSub.refl _ | assumption | refine HSub.push ?_ _ | refine HSub.reserve ?_ _ | refine HSub.put ?_ (by omega) _)); done) | fail) only [↓wpPre, wpPost, wpPoly, Int.reduceToNat, Int.reducePow, Int.reduceMul, Int.reduceAdd, Int.reduceSub, Int.reduceNeg, Nat.reduceAdd, Nat.reduceMul, Nat.reducePow, Int.reduceLT, Int.reduceLE, Int.reduceEq, Nat.reduceEqDiff, e6, e13]
      refine Br.by (fun c1 => ?_) (fun c1 => ?_)
      · have hk' : k < lenN d := by omega
        have b1 := bit01_getD (bitsL_01 (d := d) (w := 1)) k
        have b2 := bit01_getD (bitsL_01 (d := d) (w := 2)) k
        have b12 := codeB_01 d p k
        have hst := codeK_set (p := p) hk'
        by_cases p1 : p = 1
        · have hcb : codeB d p k = (bitsL d 1).getD k 0 := by unfold codeB; rw [if_pos p1]
          rw [hcb] at hst
          simp -implicitDefEqProofs (disch := first | assumption | decide | omega | (simp -implicitDefEqProofs only [wpD1] <;> omega) | (refine not_in_one ?_; first | omega | (simp -implicitDefEqProofs only [wpD1] <;> omega) | fail) | (simp -implicitDefEqProofs only [wpD2] <;> assumption) | ((repeat (first | exact HSub.refl _ | assumption | refine HSub.push ?_ _ | refine HSub.reserve ?_ _ | refine HSub.put ?_ (by omega) _)); done) | fail) only [↓wpPre, wpPost, wpPoly, Int.reduceToNat, Int.reducePow, Int.reduceMul, Int.reduceAdd, Int.reduceSub, Int.reduceNeg, Nat.reduceAdd, Nat.reduceMul, Nat.reducePow, Int.reduceLT, Int.reduceLE, Int.reduceEq, Nat.reduceEqDiff, e1, e6, e8, e10, e12, e13, R1.idx, R1.loadC, hst]
          exact ⟨_, ⟨k + 1, rfl, by simp, by omega, rfl⟩, by omega⟩
        by_cases p2 : p = 2
        · have hcb : codeB d p k = (bitsL d 2).getD k 0 := by unfold codeB; rw [if_neg p1, if_pos p2]
          rw [hcb] at hst
          simp -implicitDefEqProofs (disch := first | assumption | decide | omega | (simp -implicitDefEqProofs only [wpD1] <;> omega) | (refine not_in_one ?_; first | omega | (simp -implicitDefEqProofs only [wpD1] <;> omega) | fail) | (simp -implicitDefEqProofs only [wpD2] <;> assumption) | ((repeat (first | exact HSub.refl _ | assumption | refine HSub.push ?_ _ | refine HSub.reserve ?_ _ | refine HSub.put ?_ (by omega) _)); done) | fail) only [↓wpPre, wpPost, wpPoly, Int.reduceToNat, Int.reducePow, Int.reduceMul, Int.reduceAdd, Int.reduceSub, Int.reduceNeg, Nat.reduceAdd, Nat.reduceMul, Nat.reducePow, Int.reduceLT, Int.reduceLE, Int.reduceEq, Nat.reduceEqDiff, e1, e6, e8, e10, e12, e13, R2.idx, R2.loadC, hst]
          exact ⟨_, ⟨k + 1, rfl, by simp, by omega, rfl⟩, by omega⟩
        have em : ((k : Int) + p - 3) % (lenN d : Int) = (((k + (p - 3).toNat) % lenN d : Nat) : Int) := by
          rw [show (k : Int) + p - 3 = ((k + (p - 3).toNat : Nat) : Int) by omega]; exact (Int.natCast_emod _ _).symm
        have hm : (k + (p - 3).toNat) % lenN d < lenN d := Nat.mod_lt _ (by omega)
        have ex := xor01 b1 (bit01_getD (bitsL_01 (d := d) (w := 2)) ((k + (p - 3).toNat) % lenN d))
        have hcb : codeB d p k = ((bitsL d 1).getD k 0 + (bitsL d 2).getD ((k + (p - 3).toNat) % lenN d) 0) % 2 := by unfold codeB; rw [if_neg p1, if_neg p2]
        rw [← hcb] at ex
        simp -implicitDefEqProofs (disch := first | assumption | decide | omega | (simp -implicitDefEqProofs only [wpD1] <;> omega) | (refine not_in_one ?_; first | omega | (simp -implicitDefEqProofs only [wpD1] <;> omega) | fail) | (simp -implicitDefEqProofs only [wpD2] <;> assumption) | ((repeat (first | exact HSub.refl _ | assumption | refine HSub.push ?_ _ | refine HSub.reserve ?_ _ | refine HSub.put ?_ (by omega) _)); done) | fail) only [↓wpPre, wpPost, wpPoly, Int.reduceToNat, Int.reducePow, Int.reduceMul, Int.reduceAdd, Int.reduceSub, Int.reduceNeg, Nat.reduceAdd, Nat.reduceMul, Nat.reducePow, Int.reduceLT, Int.reduceLE, Int.reduceEq, Nat.reduceEqDiff, e1, e6, e8, e10, e12, e13, R1.idx, R1.loadC, R2.idx, R2.loadC, em, ex, hst]
        exact ⟨_, ⟨k + 1, rfl, by simp, by omega, rfl⟩, by omega⟩
      · have ek : k = lenN d := by omega
        have cl := codeL_length d p
        have hcf : codeK d p k = codeL d p := by rw [ek, codeK_full]
        simp -implicitDefEqProofs (disch := first | assumption | decide | omega | (simp -implicitDefEqProofs only [wpD1] <;> omega) | (refine not_in_one ?_; first | omega | (simp -implicitDefEqProofs only [wpD1] <;> omega) | fail) | (simp -implicitDefEqProofs only [wpD2] <;> assumption) | ((repeat (first | exact HSub.refl _ | assumption | refine HSub.push ?_ _ | refine HSub.reserve ?_ _ | refine HSub.put ?_ (by omega) _)); done) | fail) only [↓wpPre, wpPost, wpPoly, Int.reduceToNat, Int.reducePow, Int.reduceMul, Int.reduceAdd, Int.reduceSub, Int.reduceNeg, Nat.reduceAdd, Nat.reduceMul, Nat.reducePow, Int.reduceLT, Int.reduceLE, Int.reduceEq, Nat.reduceEqDiff, e12]
        exact ⟨_, rfl, s12.push _, by rw [if_pos trivial, ← hcf]; exact RI.known (get_push_eq rfl) ⟨by rw [lK], by omega⟩ (by omega)⟩
    · have cp' : ¬ (lenOk d = true ∧ 1 ≤ p ∧ p ≤ lenN d + 2) := fun h => cp h.2
      rw [if_neg cp'] at pe
      rw [pe]
      (refine calls_intro (hC.body (by decide) tab77) (Nat.le_of_ble_eq_true rfl) ?_); (show wp C _ none B77.code _ _); (simp only [B77]); simp -implicitDefEqProofs (disch := first | assumption | decide | omega | (simp -implicitDefEqProofs only [wpD1] <;> omega) | (refine not_in_one ?_; first | omega | (simp -implicitDefEqProofs only [wpD1] <;> omega) | fail) | (simp -implicitDefEqProofs only [wpD2] <;> assumption) | ((repeat (first | exact HSub.refl _ | assumption | refine HSub.push ?_ _ | refine HSub.reserve ?_ _ | refine HSub.put ?_ (by omega) _)); done) | fail) only [↓wpPre, wpPost, wpPoly, Int.reduceToNat, Int.reducePow, Int.reduceMul, Int.reduceAdd, Int.reduceSub, Int.reduceNeg, Nat.reduceAdd, Nat.reduceMul, Nat.reducePow, Int.reduceLT, Int.reduceLE, Int.reduceEq, Nat.reduceEqDiff]
      refine ACallsK.eq2 (Length08_spec (hC.sub (T' := T71) (by decide)) hd) eL ?_
      simp -implicitDefEqProofs (disch := first | assumption | decide | omega | (simp -implicitDefEqProofs only [wpD1] <;> omega) | (refine not_in_one ?_; first | omega | (simp -implicitDefEqProofs only [wpD1] <;> omega) | fail) | (simp -implicitDefEqProofs only [wpD2] <;> assumption) | ((repeat (first | exact HSub.refl _ | assumption | refine HSub.push ?_ _ | refine HSub.reserve ?_ _ | refine HSub.put ?_ (by omega) _)); done) | fail) only [↓wpPre, wpPost, wpPoly, Int.reduceToNat, Int.reducePow, Int.reduceMul, Int.reduceAdd, Int.reduceSub, Int.reduceNeg, Nat.reduceAdd, Nat.reduceMul, Nat.reducePow, Int.reduceLT, Int.reduceLE, Int.reduceEq, Nat.reduceEqDiff, tup2]
      (repeat' (first | (refine Br.by (fun _ => ?_) (fun _ => ?_)) | (simp -implicitDefEqProofs (disch := first | assumption | decide | omega | (simp -implicitDefEqProofs only [wpD1] <;> omega) | (refine not_in_one ?_; first | omega | (simp -implicitDefEqProofs only [wpD1] <;> omega) | fail) | (simp -implicitDefEqProofs only [wpD2] <;> assumption) | ((repeat (first | exact HSub.refl _ | assumption | refine HSub.push ?_ _ | refine HSub.reserve ?_ _ | refine HSub.put ?_ (by omega) _)); done) | fail) only [↓wpPre, wpPost, wpPoly, Int.reduceToNat, Int.reducePow, Int.reduceMul, Int.reduceAdd, Int.reduceSub, Int.reduceNeg, Nat.reduceAdd, Nat.reduceMul, Nat.reducePow, Int.reduceLT, Int.reduceLE, Int.reduceEq, Nat.reduceEqDiff])))
      all_goals first | exact ⟨.nilslice, by rw [lstErr], HSub.refl _, by rw [if_neg id]; exact RI.nil⟩ | omega
  · have eL : lenE d = tup2 0 2 := by unfold lenE; rw [if_neg c]
    have cp' : ¬ (lenOk d = true ∧ 1 ≤ p ∧ p ≤ lenN d + 2) := fun h => c h.1
    rw [if_neg cp'] at pe
    rw [pe]
    (refine calls_intro (hC.body (by decide) tab77) (Nat.le_of_ble_eq_true rfl) ?_); (show wp C _ none B77.code _ _); (simp only [B77]); simp -implicitDefEqProofs (disch := first | assumption | decide | omega | (simp -implicitDefEqProofs only [wpD1] <;> omega) | (refine not_in_one ?_; first | omega | (simp -implicitDefEqProofs only [wpD1] <;> omega) | fail) | (simp -implicitDefEqProofs only [wpD2] <;> assumption) | ((repeat (first | exact HSub.refl _ | assumption | refine HSub.push ?_ _ | refine HSub.reserve ?_ _ | refine HSub.put ?_ (by omega) _)); done) | fail) only [↓wpPre, wpPost, wpPoly, Int.reduceToNat, Int.reducePow, Int.reduceMul, Int.reduceAdd, Int.reduceSub, Int.reduceNeg, Nat.reduceAdd, Nat.reduceMul, Nat.reducePow, Int.reduceLT, Int.reduceLE, Int.reduceEq, Nat.reduceEqDiff]
    refine ACallsK.eq2 (Length08_spec (hC.sub (T' := T71) (by decide)) hd) eL ?_
    simp -implicitDefEqProofs (disch := first | assumption | decide | omega | (simp -implicitDefEqProofs only [wpD1] <;> omega) | (refine not_in_one ?_; first | omega | (simp -implicitDefEqProofs only [wpD1] <;> omega) | fail) | (simp -implicitDefEqProofs only [wpD2] <;> assumption) | ((repeat (first | exact HSub.refl _ | assumption | refine HSub.push ?_ _ | refine HSub.reserve ?_ _ | refine HSub.put ?_ (by omega) _)); done) | fail) only [↓wpPre, wpPost, wpPoly, Int.reduceToNat, Int.reducePow, Int.reduceMul, Int.reduceAdd, Int.reduceSub, Int.reduceNeg, Nat.reduceAdd, Nat.reduceMul, Nat.reducePow, Int.reduceLT, Int.reduceLE, Int.reduceEq, Nat.reduceEqDiff, tup2]
    exact ⟨.nilslice, by rw [lstErr], HSub.refl _, by rw [if_neg id]; exact RI.nil⟩

theorem Sum_spec (hC : Has C T78) {d p : Int} {h : Heap} (hd : In64 d) (hp : In64 p) : ACalls C 78 [.int .i64 d, .int .i64 p] h (fun r h' => r = sumE d p ∧ HSub h h') := by
  have hc := (Code_spec (h := h) (hC.sub (T' := T76) (by decide)) hd hp)
  have cr := codeL_range (d := d) (p := p)
  by_cases c : codeErr d p = 0
  · have e : sumE d p = tup2 (codeL d p).sum 0 := by unfold sumE; rw [if_pos c]
    rw [e]
    rw [c, if_pos rfl] at hc
    have cl : (codeL d p).length ≤ 1023 := by
      rw [codeL_length]
      unfold codeErr at c
      split at c
      · rename_i h; exact (lenN_eq h.1).2.1
      · cases c
    have bs : ∀ k, -1023 ≤ ((codeL d p).take k).sum ∧ ((codeL d p).take k).sum ≤ 1023 := fun k => by
      have h1 := sum_pm (c := 1) (l := (codeL d p).take k) (fun x hx => cr x (List.mem_of_mem_take hx))
      have h2 : ((codeL d p).take k).length ≤ (codeL d p).length := by rw [List.length_take]; omega
      omega
    (refine calls_intro (hC.body (by decide) tab78) (Nat.le_of_ble_eq_true rfl) ?_); (show wp C _ none B78.code _ _); (simp only [B78]); simp -implicitDefEqProofs (disch := first | assumption | decide | omega | (simp -implicitDefEqProofs only [wpD1] <;> omega) | (refine not_in_one ?_; first | omega | (simp -implicitDefEqProofs only [wpD1] <;> omega) | fail) | (simp -implicitDefEqProofs only [wpD2] <;> assumption) | ((repeat (first | exact HSub.refl _ | assumption | refine HSub.push ?_ _ | refine HSub.reserve ?_ _ | refine HSub.put ?_ (by omega) _)); done) | fail) only [↓wpPre, wpPost, wpPoly, Int.reduceToNat, Int.reducePow, Int.reduceMul, Int.reduceAdd, Int.reduceSub, Int.reduceNeg, Nat.reduceAdd, Nat.reduceMul, Nat.reducePow, Int.reduceLT, Int.reduceLE, Int.reduceEq, Nat.reduceEqDiff]
    refine ACallsK.of hc ?_
    rintro r h1 ⟨v1, rfl, s1, R1, _⟩
    simp -implicitDefEqProofs (disch := first | assumption | decide | omega | (simp -implicitDefEqProofs only [wpD1] <;> omega) | (refine not_in_one ?_; first | omega | (simp -implicitDefEqProofs only [wpD1] <;> omega) | fail) | (simp -implicitDefEqProofs only [wpD2] <;> assumption) | ((repeat (first | exact HSub.refl _ | assumption | refine HSub.push ?_ _ | refine HSub.reserve ?_ _ | refine HSub.put ?_ (by omega) _)); done) | fail) only [↓wpPre, wpPost, wpPoly, Int.reduceToNat, Int.reducePow, Int.reduceMul, Int.reduceAdd, Int.reduceSub, Int.reduceNeg, Nat.reduceAdd, Nat.reduceMul, Nat.reducePow, Int.reduceLT, Int.reduceLE, Int.reduceEq, Nat.reduceEqDiff, lstErr, R1.len]
    refine wp_loopI (fun j t h' => h' = h1 ∧ ∃ k : Nat, t 7 = .int .i64 0 ∧ t 8 = .int .i64 ((codeL d p).take k).sum ∧ t 17 = v1 ∧ t 18 = .int .i64 (codeL d p).length ∧ t 19 = .int .i64 (k : Nat) ∧ k ≤ (codeL d p).length ∧ j = (codeL d p).length - k) (j0 := (codeL d p).length)
      ⟨rfl, 0, rfl, rfl, rfl, rfl, rfl, by omega, rfl⟩ ?_
    rintro j t h' ⟨hh, k, e7, e8, e17, e18, e19, hk, hj⟩
    subst hh
    simp -implicitDefEqProofs (disch := first | assumption | decide | omega | (simp -implicitDefEqProofs only [wpD1] <;> omega) | (refine not_in_one ?_; first | omega | (simp -implicitDefEqProofs only [wpD1] <;> omega) | fail) | (simp -implicitDefEqProofs only [wpD2] <;> assumption) | ((repeat (first | exact HSub.refl _ | assumption | refine HSub.push ?_ _ | refine HSub.reserve ?_ _ | refine HSub.put ?_ (by omega) _)); done) | fail) only [↓wpPre, wpPost, wpPoly, Int.reduceToNat, Int.reducePow, Int.reduceMul, Int.reduceAdd, Int.reduceSub, Int.reduceNeg, Nat.reduceAdd, Nat.reduceMul, Nat.reducePow, Int.reduceLT, Int.reduceLE, Int.reduceEq, Nat.reduceEqDiff, e18, e19]
    refine Br.by (fun c1 => ?_) (fun c1 => ?_)
    · have hk' : k < (codeL d p).length := by omega
      have es := sum_take_succ hk'
      have b1 := bs k
      have b2 := bs (k + 1)
      rw [es] at b2
      simp -implicitDefEqProofs (disch := first | assumption | decide | omega | (simp -implicitDefEqProofs only [wpD1] <;> omega) | (refine not_in_one ?_; first | omega | (simp -implicitDefEqProofs only [wpD1] <;> omega) | fail) | (simp -implicitDefEqProofs only [wpD2] <;> assumption) | ((repeat (first | exact HSub.refl _ | assumption | refine HSub.push ?_ _ | refine HSub.reserve ?_ _ | refine HSub.put ?_ (by omega) _)); done) | fail) only [↓wpPre, wpPost, wpPoly, Int.reduceToNat, Int.reducePow, Int.reduceMul, Int.reduceAdd, Int.reduceSub, Int.reduceNeg, Nat.reduceAdd, Nat.reduceMul, Nat.reducePow, Int.reduceLT, Int.reduceLE, Int.reduceEq, Nat.reduceEqDiff, e7, e8, e17, e18, e19, R1.idx, R1.load]
      exact ⟨_, ⟨k + 1, by rw [es], by simp, by omega, rfl⟩, by omega⟩
    · have ek : k = (codeL d p).length := by omega
      rw [ek, List.take_length] at e8
      simp -implicitDefEqProofs (disch := first | assumption | decide | omega | (simp -implicitDefEqProofs only [wpD1] <;> omega) | (refine not_in_one ?_; first | omega | (simp -implicitDefEqProofs only [wpD1] <;> omega) | fail) | (simp -implicitDefEqProofs only [wpD2] <;> assumption) | ((repeat (first | exact HSub.refl _ | assumption | refine HSub.push ?_ _ | refine HSub.reserve ?_ _ | refine HSub.put ?_ (by omega) _)); done) | fail) only [↓wpPre, wpPost, wpPoly, Int.reduceToNat, Int.reducePow, Int.reduceMul, Int.reduceAdd, Int.reduceSub, Int.reduceNeg, Nat.reduceAdd, Nat.reduceMul, Nat.reducePow, Int.reduceLT, Int.reduceLE, Int.reduceEq, Nat.reduceEqDiff, e7, e8]
      exact ⟨rfl, s1⟩
  · have e : sumE d p = tup2 0 2 := by unfold sumE; rw [if_neg c]
    have c2 : codeErr d p = 2 := by unfold codeErr at c ⊢; split at c <;> first | exact absurd rfl c | (rename_i h; rw [if_neg h])
    rw [e]
    rw [c2, if_neg (by decide)] at hc
    (refine calls_intro (hC.body (by decide) tab78) (Nat.le_of_ble_eq_true rfl) ?_); (show wp C _ none B78.code _ _); (simp only [B78]); simp -implicitDefEqProofs (disch := first | assumption | decide | omega | (simp -implicitDefEqProofs only [wpD1] <;> omega) | (refine not_in_one ?_; first | omega | (simp -implicitDefEqProofs only [wpD1] <;> omega) | fail) | (simp -implicitDefEqProofs only [wpD2] <;> assumption) | ((repeat (first | exact HSub.refl _ | assumption | refine HSub.push ?_ _ | refine HSub.reserve ?_ _ | refine HSub.put ?_ (by omega) _)); done) | fail) only [↓wpPre, wpPost, wpPoly, Int.reduceToNat, Int.reducePow, Int.reduceMul, Int.reduceAdd, Int.reduceSub, Int.reduceNeg, Nat.reduceAdd, Nat.reduceMul, Nat.reducePow, Int.reduceLT, Int.reduceLE, Int.reduceEq, Nat.reduceEqDiff]
    refine ACallsK.of hc ?_
    rintro r h1 ⟨v1, rfl, s1, R1, _⟩
    have l0 : (([] : List Int).length : Int) = 0 := rfl
    simp -implicitDefEqProofs (disch := first | assumption | decide | omega | (simp -implicitDefEqProofs only [wpD1] <;> omega) | (refine not_in_one ?_; first | omega | (simp -implicitDefEqProofs only [wpD1] <;> omega) | fail) | (simp -implicitDefEqProofs only [wpD2] <;> assumption) | ((repeat (first | exact HSub.refl _ | assumption | refine HSub.push ?_ _ | refine HSub.reserve ?_ _ | refine HSub.put ?_ (by omega) _)); done) | fail) only [↓wpPre, wpPost, wpPoly, Int.reduceToNat, Int.reducePow, Int.reduceMul, Int.reduceAdd, Int.reduceSub, Int.reduceNeg, Nat.reduceAdd, Nat.reduceMul, Nat.reducePow, Int.reduceLT, Int.reduceLE, Int.reduceEq, Nat.reduceEqDiff, lstErr, R1.len]
    refine wp_loopI (fun j t h' => h' = h1 ∧ t 7 = .int .i64 2 ∧ t 8 = .int .i64 0 ∧ t 18 = .int .i64 0 ∧ t 19 = .int .i64 0) (j0 := 0) ⟨rfl, rfl, rfl, rfl, rfl⟩ ?_
    rintro j t h' ⟨hh, e7, e8, e18, e19⟩
    subst hh
    simp -implicitDefEqProofs (disch := first | assumption | decide | omega | (simp -implicitDefEqProofs only [wpD1] <;> omega) | (refine not_in_one ?_; first | omega | (simp -implicitDefEqProofs only [wpD1] <;> omega) | fail) | (simp -implicitDefEqProofs only [wpD2] <;> assumption) | ((repeat (first | exact HSub.refl _ | assumption | refine HSub.push ?_ _ | refine HSub.reserve ?_ _ | refine HSub.put ?_ (by omega) _)); done) | fail) only [↓wpPre, wpPost, wpPoly, Int.reduceToNat, Int.reducePow, Int.reduceMul, Int.reduceAdd, Int.reduceSub, Int.reduceNeg, Nat.reduceAdd, Nat.reduceMul, Nat.reducePow, Int.reduceLT, Int.reduceLE, Int.reduceEq, Nat.reduceEqDiff, e18, e19, e7, e8]
    exact ⟨rfl, s1⟩
theorem Sum08_spec (hC : Has C T79) {d p : Int} {h : Heap} (hd : In64 d) (hp : In64 p) : ACalls C 79 [.int .i64 d, .int .i64 p] h (fun r h' => r = sumE d p ∧ HSub h h') := by
  have hc := (Code08_spec (h := h) (hC.sub (T' := T77) (by decide)) hd hp)
  have cr := codeL_range (d := d) (p := p)
  by_cases c : codeErr d p = 0
  · have e : sumE d p = tup2 (codeL d p).sum 0 := by unfold sumE; rw [if_pos c]
    rw [e]
    rw [c, if_pos rfl] at hc
    have cl : (codeL d p).length ≤ 1023 := by
      rw [codeL_length]
      unfold codeErr at c
      split at c
      · rename_i h; exact (lenN_eq h.1).2.1
      · cases c
    have bs : ∀ k, -1023 ≤ ((codeL d p).take k).sum ∧ ((codeL d p).take k).sum ≤ 1023 := fun k => by
      have h1 := sum_pm (c := 1) (l := (codeL d p).take k) (fun x hx => cr x (List.mem_of_mem_take hx))
      have h2 : ((codeL d p).take k).length ≤ (codeL d p).length := by rw [List.length_take]; omega
      omega
    (refine calls_intro (hC.body (by decide) tab79) (Nat.le_of_ble_eq_true rfl) ?_); (show wp C _ none B79.code _ _); (simp only [B79]); simp -implicitDefEqProofs (disch := first | assumption | decide | omega | (simp -implicitDefEqProofs only [wpD1] <;> omega) | (refine not_in_one ?_; first | omega | (simp -implicitDefEqProofs only [wpD1] <;> omega) | fail) | (simp -implicitDefEqProofs only [wpD2] <;> assumption) | ((repeat (first | exact HSub.refl _ | assumption | refine HSub.push ?_ _ | refine HSub.reserve ?_ _ | refine HSub.put ?_ (by omega) _)); done) | fail) only [↓wpPre, wpPost, wpPoly, Int.reduceToNat, Int.reducePow, Int.reduceMul, Int.reduceAdd, Int.reduceSub, Int.reduceNeg, Nat.reduceAdd, Nat.reduceMul, Nat.reducePow, Int.reduceLT, Int.reduceLE, Int.reduceEq, Nat.reduceEqDiff]
    refine ACallsK.of hc ?_
    rintro r h1 ⟨v1, rfl, s1, R1⟩
    simp -implicitDefEqProofs (disch := first | assumption | decide | omega | (simp -implicitDefEqProofs only [wpD1] <;> omega) | (refine not_in_one ?_; first | omega | (simp -implicitDefEqProofs only [wpD1] <;> omega) | fail) | (simp -implicitDefEqProofs only [wpD2] <;> assumption) | ((repeat (first | exact HSub.refl _ | assumption | refine HSub.push ?_ _ | refine HSub.reserve ?_ _ | refine HSub.put ?_ (by omega) _)); done) | fail) only [↓wpPre, wpPost, wpPoly, Int.reduceToNat, Int.reducePow, Int.reduceMul, Int.reduceAdd, Int.reduceSub, Int.reduceNeg, Nat.reduceAdd, Nat.reduceMul, Nat.reducePow, Int.reduceLT, Int.reduceLE, Int.reduceEq, Nat.reduceEqDiff, lstErr, R1.len]
    refine wp_loopI (fun j t h' => h' = h1 ∧ ∃ k : Nat, t 6 = v1 ∧ t 8 = .int .i64 ((codeL d p).take k).sum ∧ t 9 = .int .i64 (k : Nat) ∧ k ≤ (codeL d p).length ∧ j = (codeL d p).length - k) (j0 := (codeL d p).length)
      ⟨rfl, 0, rfl, rfl, rfl, by omega, rfl⟩ ?_
    rintro j t h' ⟨hh, k, e6, e8, e9, hk, hj⟩
    subst hh
    simp -implicitDefEqProofs (disch := first | assumption | decide | omega | (simp -implicitDefEqProofs only [wpD1] <;> omega) | (refine not_in_one ?_; first | omega | (simp -implicitDefEqProofs only [wpD1] <;> omega) | fail) | (simp -implicitDefEqProofs only [wpD2] <;> assumption) | ((repeat (first | exact HSub.refl _ | assumption | refine HSub.push ?_ _ | refine HSub.reserve ?_ _ | refine HSub.put ?_ (by omega) _)); done) | fail) only [↓wpPre, wpPost, wpPoly, Int.reduceToNat, Int.reducePow, Int.reduceMul, Int.reduceAdd, Int.reduceSub, Int.reduceNeg, Nat.reduceAdd, Nat.reduceMul, Nat.reducePow, Int.reduceLT, Int.reduceLE, Int.reduceEq, Nat.reduceEqDiff, e6, e9, R1.len]
    refine Br.by (fun c1 => ?_) (fun c1 => ?_)
    · have hk' : k < (codeL d p).length := by omega
      have es := sum_take_succ hk'
      have b1 := bs k
      have b2 := bs (k + 1)
      rw [es] at b2
      simp -implicitDefEqProofs (disch := first | assumption | decide | omega | (simp -implicitDefEqProofs only [wpD1] <;> omega) | (refine not_in_one ?_; first | omega | (simp -implicitDefEqProofs only [wpD1] <;> omega) | fail) | (simp -implicitDefEqProofs only [wpD2] <;> assumption) | ((repeat (first | exact HSub.refl _ | assumption | refine HSub.push ?_ _ | refine HSub.reserve ?_ _ | refine HSub.put ?_ (by omega) _)); done) | fail) only [↓wpPre, wpPost, wpPoly, Int.reduceToNat, Int.reducePow, Int.reduceMul, Int.reduceAdd, Int.reduceSub, Int.reduceNeg, Nat.reduceAdd, Nat.reduceMul, Nat.reducePow, Int.reduceLT, Int.reduceLE, Int.reduceEq, Nat.reduceEqDiff, e6, e8, e9, R1.idx, R1.load]
      exact ⟨_, ⟨k + 1, by rw [es], by simp, by omega, rfl⟩, by omega⟩
    · have ek : k = (codeL d p).length := by omega
      rw [ek, List.take_length] at e8
      simp -implicitDefEqProofs (disch := first | assumption | decide | omega | (simp -implicitDefEqProofs only [wpD1] <;> omega) | (refine not_in_one ?_; first | omega | (simp -implicitDefEqProofs only [wpD1] <;> omega) | fail) | (simp -implicitDefEqProofs only [wpD2] <;> assumption) | ((repeat (first | exact HSub.refl _ | assumption | refine HSub.push ?_ _ | refine HSub.reserve ?_ _ | refine HSub.put ?_ (by omega) _)); done) | fail) only [↓wpPre, wpPost, wpPoly, Int.reduceToNat, Int.reducePow, Int.reduceMul, Int.reduceAdd, Int.reduceSub, Int.reduceNeg, Nat.reduceAdd, Nat.reduceMul, Nat.reducePow, Int.reduceLT, Int.reduceLE, Int.reduceEq, Nat.reduceEqDiff, e8]
      exact ⟨rfl, s1⟩
  · have e : sumE d p = tup2 0 2 := by unfold sumE; rw [if_neg c]
    have c2 : codeErr d p = 2 := by unfold codeErr at c ⊢; split at c <;> first | exact absurd rfl c | (rename_i h; rw [if_neg h])
    rw [e]
    rw [c2, if_neg (by decide)] at hc
    (refine calls_intro (hC.body (by decide) tab79) (Nat.le_of_ble_eq_true rfl) ?_); (show wp C _ none B79.code _ _); (simp only [B79]); simp -implicitDefEqProofs (disch := first | assumption | decide | omega | (simp -implicitDefEqProofs only [wpD1] <;> omega) | (refine not_in_one ?_; first | omega | (simp -implicitDefEqProofs only [wpD1] <;> omega) | fail) | (simp -implicitDefEqProofs only [wpD2] <;> assumption) | ((repeat (first | exact HSub.refl _ | assumption | refine HSub.push ?_ _ | refine HSub.reserve ?_ _ | refine HSub.put ?_ (by omega) _)); done) | fail) only [↓wpPre, wpPost, wpPoly, Int.reduceToNat, Int.reducePow, Int.reduceMul, Int.reduceAdd, Int.reduceSub, Int.reduceNeg, Nat.reduceAdd, Nat.reduceMul, Nat.reducePow, Int.reduceLT, Int.reduceLE, Int.reduceEq, Nat.reduceEqDiff]
    refine ACallsK.of hc ?_
    rintro r h1 ⟨v1, rfl, s1, R1⟩
    simp -implicitDefEqProofs (disch := first | assumption | decide | omega | (simp -implicitDefEqProofs only [wpD1] <;> omega) | (refine not_in_one ?_; first | omega | (simp -implicitDefEqProofs only [wpD1] <;> omega) | fail) | (simp -implicitDefEqProofs only [wpD2] <;> assumption) | ((repeat (first | exact HSub.refl _ | assumption | refine HSub.push ?_ _ | refine HSub.reserve ?_ _ | refine HSub.put ?_ (by omega) _)); done) | fail) only [↓wpPre, wpPost, wpPoly, Int.reduceToNat, Int.reducePow, Int.reduceMul, Int.reduceAdd, Int.reduceSub, Int.reduceNeg, Nat.reduceAdd, Nat.reduceMul, Nat.reducePow, Int.reduceLT, Int.reduceLE, Int.reduceEq, Nat.reduceEqDiff, lstErr]
    exact ⟨rfl, s1⟩
end
end Go.Ae

/- Finding the code that chips are a rotation of. -/
set_option linter.unusedSimpArgs false
set_option linter.unusedVariables false
namespace Go.Ae
/-- A list, rotated. -/
def rotL (c : List Int) (k : Nat) : List Int := (List.range c.length).map fun i => c.getD ((i + k) % c.length) 0
theorem rotL_length (c : List Int) (k : Nat) : (rotL c k).length = c.length := by simp [rotL]
theorem rotL_get {c : List Int} {k i : Nat} (h : i < c.length) : (rotL c k).getD i 0 = c.getD ((i + k) % c.length) 0 := by simp [rotL, h]
theorem rotL_twice {c : List Int} {k : Nat} (hk : k < c.length) : ((c ++ c).drop k).take c.length = rotL c k := by
  refine seqx (by simp [rotL]; omega) fun i hi => ?_
  have hi' : i < c.length := by simp at hi; omega
  rw [rotL_get hi']
  simp only [List.getD_eq_getElem?_getD]
  rw [List.getElem?_take_of_lt hi', List.getElem?_drop]
  by_cases h : i + k < c.length
  · rw [Nat.mod_eq_of_lt h, List.getElem?_append_left (by omega), Nat.add_comm]
  · rw [List.getElem?_append_right (by omega), Nat.mod_eq_sub_mod (by omega), Nat.mod_eq_of_lt (by omega)]
    congr 2; omega
def tup3 (a b c : Int) : AV := .tuple [.int .i64 a, .int .i64 b, .int .i64 c]
/-- The first code and rotation that a list is. -/
def FindR (d : Int) (l : List Int) (r : AV) : Prop :=
  (∃ p k : Nat, 1 ≤ p ∧ p ≤ lenN d + 2 ∧ k < lenN d ∧ rotL (codeL d p) k = l ∧ (∀ q, q < k → rotL (codeL d p) q ≠ l) ∧ (∀ p' : Nat, 1 ≤ p' → p' < p → ∀ q, q < lenN d → rotL (codeL d p') q ≠ l) ∧ r = tup3 p k 0) ∨
  ((∀ p' : Nat, 1 ≤ p' → p' ≤ lenN d + 2 → ∀ q, q < lenN d → rotL (codeL d p') q ≠ l) ∧ r = tup3 0 0 18)
theorem FindR.unique {d : Int} {l : List Int} {r r' : AV} (h : FindR d l r) (h' : FindR d l r') : r = r' := by
  rcases h with ⟨p, k, a1, a2, a3, a4, a5, a6, rfl⟩ | ⟨a1, rfl⟩ <;> rcases h' with ⟨p', k', b1, b2, b3, b4, b5, b6, rfl⟩ | ⟨b1, rfl⟩
  · have hp : p = p' := by
      rcases Nat.lt_trichotomy p p' with x | x | x
      · exact absurd a4 (b6 p a1 x k a3)
      · exact x
      · exact absurd b4 (a6 p' b1 x k' b3)
    subst hp
    have hk : k = k' := by
      rcases Nat.lt_trichotomy k k' with x | x | x
      · exact absurd a4 (b5 k x)
      · exact x
      · exact absurd b4 (a5 k' x)
    rw [hk]
  · exact absurd a4 (b1 p a1 a2 k a3)
  · exact absurd b4 (a1 p' b1 b2 k' b3)
  · rfl
theorem FindR.exists (d : Int) (l : List Int) : ∃ a b c, FindR d l (tup3 a b c) := by
  by_cases h : ∃ p : Nat, 1 ≤ p ∧ p ≤ lenN d + 2 ∧ ∃ k, k < lenN d ∧ rotL (codeL d p) k = l
  · have h1 := least_spec h
    generalize least (fun p : Nat => 1 ≤ p ∧ p ≤ lenN d + 2 ∧ ∃ k, k < lenN d ∧ rotL (codeL d p) k = l) = p at h1
    obtain ⟨⟨a1, a2, a3⟩, a4⟩ := h1
    have h2 := least_spec a3
    generalize least (fun k => k < lenN d ∧ rotL (codeL d p) k = l) = k at h2
    obtain ⟨⟨b1, b2⟩, b3⟩ := h2
    exact ⟨p, k, 0, .inl ⟨p, k, a1, a2, b1, b2, fun q hq e => b3 q hq ⟨by omega, e⟩, fun p' c1 c2 q hq e => a4 p' c2 ⟨c1, by omega, q, hq, e⟩, rfl⟩⟩
  · exact ⟨0, 0, 18, .inr ⟨fun p' c1 c2 q hq e => h ⟨p', c1, c2, q, hq, e⟩, rfl⟩⟩
def badC (x : Int) : Bool := decide (x ≠ 1 ∧ x ≠ -1)
def findErr (d : Int) (l : List Int) : Int := if lenOk d = true then (if l.length ≠ lenN d ∨ l.any badC = true then 3 else 0) else 2
/-- Where a list is first the rotation of another one. -/
def RotR (c l : List Int) (r : Int) : Prop := (∃ k : Nat, k < c.length ∧ rotL c k = l ∧ (∀ q, q < k → rotL c q ≠ l) ∧ r = k) ∨ ((∀ q, q < c.length → rotL c q ≠ l) ∧ r = -1)
section
variable {C : Ctx}
theorem EqualS_spec (hC : Has C T103) {va vb : AV} {a b : List Int} {h : Heap} (ha : RI h va a) (hb : RI h vb b) : ACalls C 103 [va, vb] h (fun r h' => r = .bool (decide (a = b)) ∧ h' = h) := by
  have l1 := ha.lt
  have l2 := hb.lt
  by_cases c : a.length = b.length
  · (refine calls_intro (hC.body (by decide) tab103) (Nat.le_of_ble_eq_true rfl) ?_); (show wp C _ none B103.code _ _); (simp only [B103]); simp -implicitDefEqProofs (disch := first | assumption | decide | omega | (simp -implicitDefEqProofs only [wpD1] <;> omega) | (refine not_in_one ?_; first | omega | (simp -implicitDefEqProofs only [wpD1] <;> omega) | fail) | (simp -implicitDefEqProofs only [wpD2] <;> assumption) | ((repeat (first | exact HSub.refl _ | assumption | refine HSub.push ?_ _ | refine HSub.reserve ?_ _ | refine HSub.put ?_ (by omega) _)); done) | fail) only [↓wpPre, wpPost, wpPoly, Int.reduceToNat, Int.reducePow, Int.reduceMul, Int.reduceAdd, Int.reduceSub, Int.reduceNeg, Nat.reduceAdd, Nat.reduceMul, Nat.reducePow, Int.reduceLT, Int.reduceLE, Int.reduceEq, Nat.reduceEqDiff, ha.len, hb.len]
    refine wp_loopI (fun j t h' => h' = h ∧ t 0 = va ∧ t 1 = vb ∧ t 12 = .int .i64 a.length ∧ ∃ i : Nat, t 13 = .int .i64 (i : Nat) ∧ i ≤ a.length ∧ a.take i = b.take i ∧ j = a.length - i) (j0 := a.length) ⟨rfl, rfl, rfl, rfl, 0, rfl, by omega, by simp, rfl⟩ ?_
    rintro j t h' ⟨hh, e0, e1, e12, i, e13, hi, hp, hj⟩
    subst hh
    simp -implicitDefEqProofs (disch := first | assumption | decide | omega | (simp -implicitDefEqProofs only [wpD1] <;> omega) | (refine not_in_one ?_; first | omega | (simp -implicitDefEqProofs only [wpD1] <;> omega) | fail) | (simp -implicitDefEqProofs only [wpD2] <;> assumption) | ((repeat (first | exact HSub.refl _ | assumption | refine HSub.push ?_ _ | refine HSub.reserve ?_ _ | refine HSub.put ?_ (by omega) _)); done) | fail) only [↓wpPre, wpPost, wpPoly, Int.reduceToNat, Int.reducePow, Int.reduceMul, Int.reduceAdd, Int.reduceSub, Int.reduceNeg, Nat.reduceAdd, Nat.reduceMul, Nat.reducePow, Int.reduceLT, Int.reduceLE, Int.reduceEq, Nat.reduceEqDiff, e12, e13]
    refine Br.by (fun c1 => ?_) (fun c1 => ?_)
    · simp -implicitDefEqProofs (disch := first | assumption | decide | omega | (simp -implicitDefEqProofs only [wpD1] <;> omega) | (refine not_in_one ?_; first | omega | (simp -implicitDefEqProofs only [wpD1] <;> omega) | fail) | (simp -implicitDefEqProofs only [wpD2] <;> assumption) | ((repeat (first | exact HSub.refl _ | assumption | refine HSub.push ?_ _ | refine HSub.reserve ?_ _ | refine HSub.put ?_ (by omega) _)); done) | fail) only [↓wpPre, wpPost, wpPoly, Int.reduceToNat, Int.reducePow, Int.reduceMul, Int.reduceAdd, Int.reduceSub, Int.reduceNeg, Nat.reduceAdd, Nat.reduceMul, Nat.reducePow, Int.reduceLT, Int.reduceLE, Int.reduceEq, Nat.reduceEqDiff, e0, e1, e13, ha.idx, hb.idx, ha.load, hb.load]
      refine Br.by (fun c2 => ?_) (fun c2 => ?_)
      · simp -implicitDefEqProofs (disch := first | assumption | decide | omega | (simp -implicitDefEqProofs only [wpD1] <;> omega) | (refine not_in_one ?_; first | omega | (simp -implicitDefEqProofs only [wpD1] <;> omega) | fail) | (simp -implicitDefEqProofs only [wpD2] <;> assumption) | ((repeat (first | exact HSub.refl _ | assumption | refine HSub.push ?_ _ | refine HSub.reserve ?_ _ | refine HSub.put ?_ (by omega) _)); done) | fail) only [↓wpPre, wpPost, wpPoly, Int.reduceToNat, Int.reducePow, Int.reduceMul, Int.reduceAdd, Int.reduceSub, Int.reduceNeg, Nat.reduceAdd, Nat.reduceMul, Nat.reducePow, Int.reduceLT, Int.reduceLE, Int.reduceEq, Nat.reduceEqDiff]
        have : a ≠ b := fun e => c2 (by rw [e])
        simp [this]
      · simp -implicitDefEqProofs (disch := first | assumption | decide | omega | (simp -implicitDefEqProofs only [wpD1] <;> omega) | (refine not_in_one ?_; first | omega | (simp -implicitDefEqProofs only [wpD1] <;> omega) | fail) | (simp -implicitDefEqProofs only [wpD2] <;> assumption) | ((repeat (first | exact HSub.refl _ | assumption | refine HSub.push ?_ _ | refine HSub.reserve ?_ _ | refine HSub.put ?_ (by omega) _)); done) | fail) only [↓wpPre, wpPost, wpPoly, Int.reduceToNat, Int.reducePow, Int.reduceMul, Int.reduceAdd, Int.reduceSub, Int.reduceNeg, Nat.reduceAdd, Nat.reduceMul, Nat.reducePow, Int.reduceLT, Int.reduceLE, Int.reduceEq, Nat.reduceEqDiff, e0, e1, e12, e13]
        refine ⟨_, ⟨i + 1, by simp, by omega, ?_, rfl⟩, by omega⟩
        rw [take_succ_getD (by omega), take_succ_getD (by omega), hp, Decidable.not_not.1 c2]
    · simp -implicitDefEqProofs (disch := first | assumption | decide | omega | (simp -implicitDefEqProofs only [wpD1] <;> omega) | (refine not_in_one ?_; first | omega | (simp -implicitDefEqProofs only [wpD1] <;> omega) | fail) | (simp -implicitDefEqProofs only [wpD2] <;> assumption) | ((repeat (first | exact HSub.refl _ | assumption | refine HSub.push ?_ _ | refine HSub.reserve ?_ _ | refine HSub.put ?_ (by omega) _)); done) | fail) only [↓wpPre, wpPost, wpPoly, Int.reduceToNat, Int.reducePow, Int.reduceMul, Int.reduceAdd, Int.reduceSub, Int.reduceNeg, Nat.reduceAdd, Nat.reduceMul, Nat.reducePow, Int.reduceLT, Int.reduceLE, Int.reduceEq, Nat.reduceEqDiff]
      have e1 : i = a.length := by omega
      subst e1
      rw [List.take_of_length_le (by omega), List.take_of_length_le (by omega)] at hp
      simp [hp]
  · have hne : a ≠ b := fun e => c (by rw [e])
    (refine calls_intro (hC.body (by decide) tab103) (Nat.le_of_ble_eq_true rfl) ?_); (show wp C _ none B103.code _ _); (simp only [B103]); simp -implicitDefEqProofs (disch := first | assumption | decide | omega | (simp -implicitDefEqProofs only [wpD1] <;> omega) | (refine not_in_one ?_; first | omega | (simp -implicitDefEqProofs only [wpD1] <;> omega) | fail) | (simp -implicitDefEqProofs only [wpD2] <;> assumption) | ((repeat (first | exact HSub.refl _ | assumption | refine HSub.push ?_ _ | refine HSub.reserve ?_ _ | refine HSub.put ?_ (by omega) _)); done) | fail) only [↓wpPre, wpPost, wpPoly, Int.reduceToNat, Int.reducePow, Int.reduceMul, Int.reduceAdd, Int.reduceSub, Int.reduceNeg, Nat.reduceAdd, Nat.reduceMul, Nat.reducePow, Int.reduceLT, Int.reduceLE, Int.reduceEq, Nat.reduceEqDiff, ha.len, hb.len]
    simp [hne]
theorem badC_spec (hC : Has C T96) {x : Int} {h : Heap} : ACalls C 96 [.int .i64 x] h (fun r h' => r = .bool (badC x) ∧ h' = h) := by
  (refine calls_intro (hC.body (by decide) tab96) (Nat.le_of_ble_eq_true rfl) ?_); (show wp C _ none B96.code _ _); (simp only [B96]); simp -implicitDefEqProofs (disch := first | assumption | decide | omega | (simp -implicitDefEqProofs only [wpD1] <;> omega) | (refine not_in_one ?_; first | omega | (simp -implicitDefEqProofs only [wpD1] <;> omega) | fail) | (simp -implicitDefEqProofs only [wpD2] <;> assumption) | ((repeat (first | exact HSub.refl _ | assumption | refine HSub.push ?_ _ | refine HSub.reserve ?_ _ | refine HSub.put ?_ (by omega) _)); done) | fail) only [↓wpPre, wpPost, wpPoly, Int.reduceToNat, Int.reducePow, Int.reduceMul, Int.reduceAdd, Int.reduceSub, Int.reduceNeg, Nat.reduceAdd, Nat.reduceMul, Nat.reducePow, Int.reduceLT, Int.reduceLE, Int.reduceEq, Nat.reduceEqDiff]
  (repeat' (first | (refine Br.by (fun _ => ?_) (fun _ => ?_)) | (simp -implicitDefEqProofs (disch := first | assumption | decide | omega | (simp -implicitDefEqProofs only [wpD1] <;> omega) | (refine not_in_one ?_; first | omega | (simp -implicitDefEqProofs only [wpD1] <;> omega) | fail) | (simp -implicitDefEqProofs only [wpD2] <;> assumption) | ((repeat (first | exact HSub.refl _ | assumption | refine HSub.push ?_ _ | refine HSub.reserve ?_ _ | refine HSub.put ?_ (by omega) _)); done) | fail) only [↓wpPre, wpPost, wpPoly, Int.reduceToNat, Int.reducePow, Int.reduceMul, Int.reduceAdd, Int.reduceSub, Int.reduceNeg, Nat.reduceAdd, Nat.reduceMul, Nat.reducePow, Int.reduceLT, Int.reduceLE, Int.reduceEq, Nat.reduceEqDiff])))
  all_goals (simp [badC]; try omega)
set_option maxRecDepth 100000 in
theorem rotation_spec (hC : Has C T97) {vc vl : AV} {c l : List Int} {h : Heap} (hc : RI h vc c) (hl : RI h vl l) (hn : 1 ≤ c.length ∧ c.length ≤ 100000) : ACalls C 97 [vc, vl] h (fun r h' => ∃ x, r = .int .i64 x ∧ RotR c l x ∧ HSub h h') := by
  have c0 := hc.cells
  have o0 := hc.one
  have hcc : RI (h.push (.cells [vc, vc] true 0)) vc c := hc.mono (HSub.push1 _ _)
  have efl : flatP [(vc, c), (vc, c)] = c ++ c := by simp [flatP]
  (refine calls_intro (hC.body (by decide) tab97) (Nat.le_of_ble_eq_true rfl) ?_); (show wp C _ none B97.code _ _); (simp only [B97]); simp -implicitDefEqProofs (disch := first | assumption | decide | omega | (simp -implicitDefEqProofs only [wpD1] <;> omega) | (refine not_in_one ?_; first | omega | (simp -implicitDefEqProofs only [wpD1] <;> omega) | fail) | (simp -implicitDefEqProofs only [wpD2] <;> assumption) | ((repeat (first | exact HSub.refl _ | assumption | refine HSub.push ?_ _ | refine HSub.reserve ?_ _ | refine HSub.put ?_ (by omega) _)); done) | fail) only [↓wpPre, wpPost, wpPoly, Int.reduceToNat, Int.reducePow, Int.reduceMul, Int.reduceAdd, Int.reduceSub, Int.reduceNeg, Nat.reduceAdd, Nat.reduceMul, Nat.reducePow, Int.reduceLT, Int.reduceLE, Int.reduceEq, Nat.reduceEqDiff]
  refine ACallsK.of (Concat_spec (hC.sub (T' := T47) (by decide)) (ps := [(vc, c), (vc, c)]) (j := h.size) (u := 0) (wr := true) (get_push_eq rfl) (by intro p hp; simp only [List.mem_cons, List.not_mem_nil, or_false] at hp; rcases hp with rfl | rfl <;> exact ⟨hcc, by simp only; omega⟩) (by simp) (by rw [efl]; simp; omega)) ?_
  rintro r h1 A
  rw [efl] at A
  have hs0 : HSub h h1 := (HSub.push1 _ _).trans A.sub
  have hr := A.ri
  have hl1 := hl.mono hs0
  have hlen : (c ++ c).length = c.length + c.length := List.length_append
  simp -implicitDefEqProofs (disch := first | assumption | decide | omega | (simp -implicitDefEqProofs only [wpD1] <;> omega) | (refine not_in_one ?_; first | omega | (simp -implicitDefEqProofs only [wpD1] <;> omega) | fail) | (simp -implicitDefEqProofs only [wpD2] <;> assumption) | ((repeat (first | exact HSub.refl _ | assumption | refine HSub.push ?_ _ | refine HSub.reserve ?_ _ | refine HSub.put ?_ (by omega) _)); done) | fail) only [↓wpPre, wpPost, wpPoly, Int.reduceToNat, Int.reducePow, Int.reduceMul, Int.reduceAdd, Int.reduceSub, Int.reduceNeg, Nat.reduceAdd, Nat.reduceMul, Nat.reducePow, Int.reduceLT, Int.reduceLE, Int.reduceEq, Nat.reduceEqDiff, hc.len]
  refine wp_loopI (fun j t h' => h' = h1 ∧ ∃ k : Nat, t 0 = vc ∧ t 1 = vl ∧ t 5 = r ∧ t 12 = .int .i64 c.length ∧ t 13 = .int .i64 (k : Nat) ∧ k ≤ c.length ∧ (∀ q, q < k → rotL c q ≠ l) ∧ j = c.length - k) (j0 := c.length)
    ⟨rfl, 0, rfl, rfl, rfl, rfl, rfl, by omega, by omega, rfl⟩ ?_
  rintro j t h2 ⟨hh, k, e0, e1, e5, e12, e13, hk, hne, hj⟩
  subst hh
  simp -implicitDefEqProofs (disch := first | assumption | decide | omega | (simp -implicitDefEqProofs only [wpD1] <;> omega) | (refine not_in_one ?_; first | omega | (simp -implicitDefEqProofs only [wpD1] <;> omega) | fail) | (simp -implicitDefEqProofs only [wpD2] <;> assumption) | ((repeat (first | exact HSub.refl _ | assumption | refine HSub.push ?_ _ | refine HSub.reserve ?_ _ | refine HSub.put ?_ (by omega) _)); done) | fail) only [↓wpPre, wpPost, wpPoly, Int.reduceToNat, Int.reducePow, Int.reduceMul, Int.reduceAdd, Int.reduceSub, Int.reduceNeg, Nat.reduceAdd, Nat.reduceMul, Nat.reducePow, Int.reduceLT, Int.reduceLE, Int.reduceEq, Nat.reduceEqDiff, e12, e13]
  refine Br.by (fun c1 => ?_) (fun c1 => ?_)
  · have hk' : k < c.length := by omega
    have Pw := hr.part_ab (k1 := .i64) (k2 := .i64) (a := (k : Int)) (b := (k : Int) + c.length) (by omega) (by omega)
    obtain ⟨w, ew, Rw⟩ := Pw
    rw [show ((k : Int) + c.length).toNat - (k : Int).toNat = c.length by omega, Int.toNat_natCast, rotL_twice hk'] at Rw
    simp -implicitDefEqProofs (disch := first | assumption | decide | omega | (simp -implicitDefEqProofs only [wpD1] <;> omega) | (refine not_in_one ?_; first | omega | (simp -implicitDefEqProofs only [wpD1] <;> omega) | fail) | (simp -implicitDefEqProofs only [wpD2] <;> assumption) | ((repeat (first | exact HSub.refl _ | assumption | refine HSub.push ?_ _ | refine HSub.reserve ?_ _ | refine HSub.put ?_ (by omega) _)); done) | fail) only [↓wpPre, wpPost, wpPoly, Int.reduceToNat, Int.reducePow, Int.reduceMul, Int.reduceAdd, Int.reduceSub, Int.reduceNeg, Nat.reduceAdd, Nat.reduceMul, Nat.reducePow, Int.reduceLT, Int.reduceLE, Int.reduceEq, Nat.reduceEqDiff, e0, e1, e5, e13, hc.len, ew]
    refine ACallsK.eq (EqualS_spec (hC.sub (T' := T103) (by decide)) Rw hl1) ?_
    simp -implicitDefEqProofs (disch := first | assumption | decide | omega | (simp -implicitDefEqProofs only [wpD1] <;> omega) | (refine not_in_one ?_; first | omega | (simp -implicitDefEqProofs only [wpD1] <;> omega) | fail) | (simp -implicitDefEqProofs only [wpD2] <;> assumption) | ((repeat (first | exact HSub.refl _ | assumption | refine HSub.push ?_ _ | refine HSub.reserve ?_ _ | refine HSub.put ?_ (by omega) _)); done) | fail) only [↓wpPre, wpPost, wpPoly, Int.reduceToNat, Int.reducePow, Int.reduceMul, Int.reduceAdd, Int.reduceSub, Int.reduceNeg, Nat.reduceAdd, Nat.reduceMul, Nat.reducePow, Int.reduceLT, Int.reduceLE, Int.reduceEq, Nat.reduceEqDiff]
    refine Br.by (fun c2 => ?_) (fun c2 => ?_)
    · simp -implicitDefEqProofs (disch := first | assumption | decide | omega | (simp -implicitDefEqProofs only [wpD1] <;> omega) | (refine not_in_one ?_; first | omega | (simp -implicitDefEqProofs only [wpD1] <;> omega) | fail) | (simp -implicitDefEqProofs only [wpD2] <;> assumption) | ((repeat (first | exact HSub.refl _ | assumption | refine HSub.push ?_ _ | refine HSub.reserve ?_ _ | refine HSub.put ?_ (by omega) _)); done) | fail) only [↓wpPre, wpPost, wpPoly, Int.reduceToNat, Int.reducePow, Int.reduceMul, Int.reduceAdd, Int.reduceSub, Int.reduceNeg, Nat.reduceAdd, Nat.reduceMul, Nat.reducePow, Int.reduceLT, Int.reduceLE, Int.reduceEq, Nat.reduceEqDiff]
      exact ⟨.inl ⟨k, hk', c2, hne, rfl⟩, hs0⟩
    · simp -implicitDefEqProofs (disch := first | assumption | decide | omega | (simp -implicitDefEqProofs only [wpD1] <;> omega) | (refine not_in_one ?_; first | omega | (simp -implicitDefEqProofs only [wpD1] <;> omega) | fail) | (simp -implicitDefEqProofs only [wpD2] <;> assumption) | ((repeat (first | exact HSub.refl _ | assumption | refine HSub.push ?_ _ | refine HSub.reserve ?_ _ | refine HSub.put ?_ (by omega) _)); done) | fail) only [↓wpPre, wpPost, wpPoly, Int.reduceToNat, Int.reducePow, Int.reduceMul, Int.reduceAdd, Int.reduceSub, Int.reduceNeg, Nat.reduceAdd, Nat.reduceMul, Nat.reducePow, Int.reduceLT, Int.reduceLE, Int.reduceEq, Nat.reduceEqDiff, e0, e1, e5, e12, e13]
      exact ⟨_, ⟨k + 1, by simp, by omega, fun q hq => by
        by_cases e : q = k
        · subst e; exact c2
        · exact hne q (by omega), rfl⟩, by omega⟩
  · have : k = c.length := by omega
    simp -implicitDefEqProofs (disch := first | assumption | decide | omega | (simp -implicitDefEqProofs only [wpD1] <;> omega) | (refine not_in_one ?_; first | omega | (simp -implicitDefEqProofs only [wpD1] <;> omega) | fail) | (simp -implicitDefEqProofs only [wpD2] <;> assumption) | ((repeat (first | exact HSub.refl _ | assumption | refine HSub.push ?_ _ | refine HSub.reserve ?_ _ | refine HSub.put ?_ (by omega) _)); done) | fail) only [↓wpPre, wpPost, wpPoly, Int.reduceToNat, Int.reducePow, Int.reduceMul, Int.reduceAdd, Int.reduceSub, Int.reduceNeg, Nat.reduceAdd, Nat.reduceMul, Nat.reducePow, Int.reduceLT, Int.reduceLE, Int.reduceEq, Nat.reduceEqDiff]
    exact ⟨.inr ⟨fun q hq => hne q (by omega), rfl⟩, hs0⟩
theorem rotated_spec (hC : Has C T98) {vl vc : AV} {c l : List Int} {k : Nat} {h : Heap} (hl : RI h vl l) (hc : RI h vc c) (hn : c.length ≤ 100000) (hll : l.length = c.length) (hk : k ≤ 100000) : ACalls C 98 [vl, vc, .int .i64 (k : Nat)] h (fun r h' => r = .bool (decide (rotL c k = l)) ∧ h' = h) := by
  have rl := rotL_length c k
  (refine calls_intro (hC.body (by decide) tab98) (Nat.le_of_ble_eq_true rfl) ?_); (show wp C _ none B98.code _ _); (simp only [B98]); simp -implicitDefEqProofs (disch := first | assumption | decide | omega | (simp -implicitDefEqProofs only [wpD1] <;> omega) | (refine not_in_one ?_; first | omega | (simp -implicitDefEqProofs only [wpD1] <;> omega) | fail) | (simp -implicitDefEqProofs only [wpD2] <;> assumption) | ((repeat (first | exact HSub.refl _ | assumption | refine HSub.push ?_ _ | refine HSub.reserve ?_ _ | refine HSub.put ?_ (by omega) _)); done) | fail) only [↓wpPre, wpPost, wpPoly, Int.reduceToNat, Int.reducePow, Int.reduceMul, Int.reduceAdd, Int.reduceSub, Int.reduceNeg, Nat.reduceAdd, Nat.reduceMul, Nat.reducePow, Int.reduceLT, Int.reduceLE, Int.reduceEq, Nat.reduceEqDiff]
  refine wp_loopI (fun j t h' => h' = h ∧ ∃ i : Nat, t 0 = vl ∧ t 1 = vc ∧ t 2 = .int .i64 (k : Nat) ∧ t 7 = .int .i64 (i : Nat) ∧ i ≤ c.length ∧ (rotL c k).take i = l.take i ∧ j = c.length - i) (j0 := c.length) ⟨rfl, 0, rfl, rfl, rfl, rfl, by omega, by simp, rfl⟩ ?_
  rintro j t h' ⟨hh, i, e0, e1, e2, e7, hi, hp, hj⟩
  subst hh
  simp -implicitDefEqProofs (disch := first | assumption | decide | omega | (simp -implicitDefEqProofs only [wpD1] <;> omega) | (refine not_in_one ?_; first | omega | (simp -implicitDefEqProofs only [wpD1] <;> omega) | fail) | (simp -implicitDefEqProofs only [wpD2] <;> assumption) | ((repeat (first | exact HSub.refl _ | assumption | refine HSub.push ?_ _ | refine HSub.reserve ?_ _ | refine HSub.put ?_ (by omega) _)); done) | fail) only [↓wpPre, wpPost, wpPoly, Int.reduceToNat, Int.reducePow, Int.reduceMul, Int.reduceAdd, Int.reduceSub, Int.reduceNeg, Nat.reduceAdd, Nat.reduceMul, Nat.reducePow, Int.reduceLT, Int.reduceLE, Int.reduceEq, Nat.reduceEqDiff, e1, e7, hc.len]
  refine Br.by (fun c1 => ?_) (fun c1 => ?_)
  · have hi' : i < c.length := by omega
    have em : ((i : Int) + k) % (c.length : Int) = (((i + k) % c.length : Nat) : Int) := by rw [← Int.natCast_add]; exact (Int.natCast_emod _ _).symm
    have hm : (i + k) % c.length < c.length := Nat.mod_lt _ (by omega)
    have hg := rotL_get (k := k) hi'
    simp -implicitDefEqProofs (disch := first | assumption | decide | omega | (simp -implicitDefEqProofs only [wpD1] <;> omega) | (refine not_in_one ?_; first | omega | (simp -implicitDefEqProofs only [wpD1] <;> omega) | fail) | (simp -implicitDefEqProofs only [wpD2] <;> assumption) | ((repeat (first | exact HSub.refl _ | assumption | refine HSub.push ?_ _ | refine HSub.reserve ?_ _ | refine HSub.put ?_ (by omega) _)); done) | fail) only [↓wpPre, wpPost, wpPoly, Int.reduceToNat, Int.reducePow, Int.reduceMul, Int.reduceAdd, Int.reduceSub, Int.reduceNeg, Nat.reduceAdd, Nat.reduceMul, Nat.reducePow, Int.reduceLT, Int.reduceLE, Int.reduceEq, Nat.reduceEqDiff, e0, e1, e2, e7, hc.len, hl.idx, hl.load, hc.idx, hc.load, em]
    refine Br.by (fun c2 => ?_) (fun c2 => ?_)
    · simp -implicitDefEqProofs (disch := first | assumption | decide | omega | (simp -implicitDefEqProofs only [wpD1] <;> omega) | (refine not_in_one ?_; first | omega | (simp -implicitDefEqProofs only [wpD1] <;> omega) | fail) | (simp -implicitDefEqProofs only [wpD2] <;> assumption) | ((repeat (first | exact HSub.refl _ | assumption | refine HSub.push ?_ _ | refine HSub.reserve ?_ _ | refine HSub.put ?_ (by omega) _)); done) | fail) only [↓wpPre, wpPost, wpPoly, Int.reduceToNat, Int.reducePow, Int.reduceMul, Int.reduceAdd, Int.reduceSub, Int.reduceNeg, Nat.reduceAdd, Nat.reduceMul, Nat.reducePow, Int.reduceLT, Int.reduceLE, Int.reduceEq, Nat.reduceEqDiff]
      have : rotL c k ≠ l := fun e => c2 (by rw [← hg, e])
      simp [this]
    · simp -implicitDefEqProofs (disch := first | assumption | decide | omega | (simp -implicitDefEqProofs only [wpD1] <;> omega) | (refine not_in_one ?_; first | omega | (simp -implicitDefEqProofs only [wpD1] <;> omega) | fail) | (simp -implicitDefEqProofs only [wpD2] <;> assumption) | ((repeat (first | exact HSub.refl _ | assumption | refine HSub.push ?_ _ | refine HSub.reserve ?_ _ | refine HSub.put ?_ (by omega) _)); done) | fail) only [↓wpPre, wpPost, wpPoly, Int.reduceToNat, Int.reducePow, Int.reduceMul, Int.reduceAdd, Int.reduceSub, Int.reduceNeg, Nat.reduceAdd, Nat.reduceMul, Nat.reducePow, Int.reduceLT, Int.reduceLE, Int.reduceEq, Nat.reduceEqDiff, e0, e1, e2, e7]
      refine ⟨_, ⟨i + 1, by simp, by omega, ?_, rfl⟩, by omega⟩
      rw [take_succ_getD (by omega), take_succ_getD (by omega), hp, hg, Decidable.not_not.1 c2]
  · simp -implicitDefEqProofs (disch := first | assumption | decide | omega | (simp -implicitDefEqProofs only [wpD1] <;> omega) | (refine not_in_one ?_; first | omega | (simp -implicitDefEqProofs only [wpD1] <;> omega) | fail) | (simp -implicitDefEqProofs only [wpD2] <;> assumption) | ((repeat (first | exact HSub.refl _ | assumption | refine HSub.push ?_ _ | refine HSub.reserve ?_ _ | refine HSub.put ?_ (by omega) _)); done) | fail) only [↓wpPre, wpPost, wpPoly, Int.reduceToNat, Int.reducePow, Int.reduceMul, Int.reduceAdd, Int.reduceSub, Int.reduceNeg, Nat.reduceAdd, Nat.reduceMul, Nat.reducePow, Int.reduceLT, Int.reduceLE, Int.reduceEq, Nat.reduceEqDiff]
    have e1 : i = c.length := by omega
    rw [List.take_of_length_le (by omega), List.take_of_length_le (by omega)] at hp
    simp [hp]
end
end Go.Ae

/- Sums of products of codes have three values. -/
set_option linter.unusedSimpArgs false
set_option linter.unusedVariables false
namespace Go.Ae
/-! ### Words -/
def rotN (n a W : Nat) : Nat := (W >>> a ||| W <<< (n - a)) % 2 ^ n
theorem rotN_bit {n a W i : Nat} (hW : W < 2 ^ n) (ha : a < n) (hi : i < n) : (rotN n a W).testBit i = W.testBit ((i + a) % n) := by
  unfold rotN
  rw [Nat.testBit_mod_two_pow, Nat.testBit_or, Nat.testBit_shiftRight, Nat.testBit_shiftLeft, decide_eq_true hi, Bool.true_and]
  by_cases c : i + a < n
  · rw [Nat.mod_eq_of_lt c, Nat.add_comm a i, decide_eq_false (by omega), Bool.false_and, Bool.or_false]
  · have h1 : W.testBit (a + i) = false := Nat.testBit_lt_two_pow (Nat.lt_of_lt_of_le hW (Nat.pow_le_pow_right (by decide) (by omega)))
    rw [h1, Bool.false_or, decide_eq_true (by omega), Bool.true_and, Nat.mod_eq_sub_mod (by omega), Nat.mod_eq_of_lt (by omega)]
    congr 1; omega
def popc : Nat → Nat → Nat
  | 0, _ => 0
  | n + 1, W => W % 2 + popc n (W / 2)
theorem popc_eq : ∀ n W, popc n W = pop W n
  | 0, W => rfl
  | n + 1, W => by
    rw [popc, popc_eq n, Nat.add_comm n 1, pop_add]
    have e1 : pop W 1 = W % 2 := by
      simp only [pop, bsum, bitN, Nat.testBit_zero, Nat.zero_add]
      have := Nat.mod_two_eq_zero_or_one W
      rcases this with h | h <;> simp [h]
    rw [e1, Nat.shiftRight_eq_div_pow, Nat.pow_one]
def saOk (n W : Nat) : Bool := (List.range n).all fun a => Nat.beq a 0 || (List.range n).any fun s => Nat.beq (W ^^^ rotN n a W) (rotN n s W)
def corrOk (n W V t : Nat) : Bool := (List.range n).all fun e => let s := popc n (W ^^^ rotN n e V); Nat.beq (n + 1) (2 * s) || Nat.beq (n + t) (2 * s) || Nat.beq (n + 2) (2 * s + t)

/-! ### Sums -/
def isum (f : Nat → Int) : Nat → Int
  | 0 => 0
  | n + 1 => isum f n + f n
theorem isum_congr {f g : Nat → Int} : ∀ n, (∀ i, i < n → f i = g i) → isum f n = isum g n
  | 0, _ => rfl
  | n + 1, h => by simp only [isum]; rw [isum_congr n (fun i hi => h i (by omega)), h n (by omega)]
theorem isum_one (f : Nat → Int) : ∀ n, isum (fun i => f (i + 1)) n = isum f n + f n - f 0
  | 0 => by simp [isum]
  | n + 1 => by simp only [isum, isum_one f n]; omega
theorem isum_shift {f : Nat → Int} {n : Nat} (hf : ∀ i, f (i + n) = f i) : ∀ s, isum (fun i => f (i + s)) n = isum f n
  | 0 => rfl
  | s + 1 => by
    have ih := isum_shift hf s
    have h1 := isum_one (fun i => f (i + s)) n
    have h2 : f (n + s) = f (0 + s) := by rw [Nat.add_comm n s, hf, Nat.zero_add]
    rw [ih] at h1
    have h3 : isum (fun i => f (i + 1 + s)) n = isum (fun i => f (i + (s + 1))) n := isum_congr n fun i _ => by congr 1; omega
    rw [← h3, h1]; omega
theorem isum_bits {x : Nat → Int} (hx : ∀ i, x i = 0 ∨ x i = 1) : ∀ n, isum (fun i => 1 - 2 * x i) n = n - 2 * (bsum (fun i => (x i).toNat) n : Nat)
  | 0 => by simp [isum, bsum]
  | n + 1 => by
    simp only [isum, bsum, isum_bits hx n]
    rcases hx n with h | h <;> rw [h] <;> simp <;> omega

/-! ### Periodic bits -/
/-- The facts about the two sequences of a degree. -/
structure Pair (n : Nat) (t : Int) (U V : Nat → Int) : Prop where
  pos : 0 < n
  u01 : ∀ i, U i = 0 ∨ U i = 1
  v01 : ∀ i, V i = 0 ∨ V i = 1
  uper : ∀ i, U (i + n) = U i
  vper : ∀ i, V (i + n) = V i
  usa : ∀ a, a % n ≠ 0 → ∃ s, ∀ i, (U i + U (i + a)) % 2 = U (i + s)
  vsa : ∀ a, a % n ≠ 0 → ∃ s, ∀ i, (V i + V (i + a)) % 2 = V (i + s)
  usum : isum (fun i => 1 - 2 * U i) n = -1
  vsum : isum (fun i => 1 - 2 * V i) n = -1
  corr : ∀ e, let S := isum (fun i => 1 - 2 * ((U i + V (i + e)) % 2)) n; S = -1 ∨ S = -t ∨ S = t - 2
section
variable {n : Nat} {t : Int} {U V : Nat → Int}
theorem per_mod {f : Nat → Int} (hf : ∀ i, f (i + n) = f i) (i : Nat) : f (i % n) = f i := by
  have h : ∀ k r, f (r + n * k) = f r := by
    intro k
    induction k with
    | zero => intro r; rfl
    | succ k ih => intro r; rw [Nat.mul_succ, ← Nat.add_assoc, hf, ih]
  have := h (i / n) (i % n)
  rw [Nat.add_comm, Nat.div_add_mod] at this
  exact this.symm
theorem per_zero {f : Nat → Int} (hf : ∀ i, f (i + n) = f i) {a : Nat} (ha : a % n = 0) (i : Nat) : f (i + a) = f i := by
  rw [← per_mod hf (i + a), Nat.add_mod, ha, Nat.add_zero, Nat.mod_mod, per_mod hf]
/-- Two shifts of a sequence, added. -/
theorem two_shift {f : Nat → Int} (f01 : ∀ i, f i = 0 ∨ f i = 1) (hf : ∀ i, f (i + n) = f i) (hn : 0 < n) (sa : ∀ a, a % n ≠ 0 → ∃ s, ∀ i, (f i + f (i + a)) % 2 = f (i + s)) (a b : Nat) :
    (a % n = b % n ∧ ∀ i, (f (i + a) + f (i + b)) % 2 = 0) ∨ (a % n ≠ b % n ∧ ∃ s, ∀ i, (f (i + a) + f (i + b)) % 2 = f (i + s)) := by
  by_cases c : a % n = b % n
  · left
    refine ⟨c, fun i => ?_⟩
    have : f (i + a) = f (i + b) := by rw [← per_mod hf (i + a), ← per_mod hf (i + b), Nat.add_mod, c, ← Nat.add_mod]
    have h1 := f01 (i + b)
    rw [this]; omega
  · right
    refine ⟨c, ?_⟩
    -- the shift of b past a
    have hd : (b + (n - a % n)) % n ≠ 0 := by
      intro h0
      apply c
      have h1 := Nat.div_add_mod b n
      have h2 := Nat.mod_lt a hn
      have h3 := Nat.mod_lt b hn
      rw [Nat.add_mod] at h0
      by_cases ha : a % n = 0
      · rw [ha, Nat.sub_zero, Nat.mod_self, Nat.add_zero, Nat.mod_mod] at h0; omega
      · rw [Nat.mod_eq_of_lt (show n - a % n < n by omega)] at h0
        by_cases hb : b % n + (n - a % n) < n
        · rw [Nat.mod_eq_of_lt hb] at h0; omega
        · rw [Nat.mod_eq_sub_mod (by omega), Nat.mod_eq_of_lt (by omega)] at h0; omega
    obtain ⟨s, hs⟩ := sa _ hd
    refine ⟨a + s, fun i => ?_⟩
    have h1 := hs (i + a)
    have h2 : f (i + a + (b + (n - a % n))) = f (i + b) := by
      have h3 : i + a + (b + (n - a % n)) = i + b + (a - a % n + n) := by
        have := Nat.mod_le a n
        have := Nat.mod_lt a hn
        omega
      rw [h3]
      refine per_zero hf ?_ _
      rw [Nat.add_mod_right]
      have : a - a % n = n * (a / n) := by have := Nat.div_add_mod a n; omega
      rw [this, Nat.mul_mod_right]
    rw [h2] at h1
    rw [h1, Nat.add_assoc]
/-- A code's bits: shares of both sequences. -/
def mixB (U V : Nat → Int) (al be : Bool) (b i : Nat) : Int := ((if al then U i else 0) + (if be then V (i + b) else 0)) % 2
theorem mix_three (P : Pair n t U V) (al be al' be' : Bool) (b b' k : Nat) (h1 : al = true ∨ be = true) (h2 : al' = true ∨ be' = true) :
    let S := isum (fun i => (1 - 2 * mixB U V al be b i) * (1 - 2 * mixB U V al' be' b' (i + k))) n
    (al = al' ∧ be = be' ∧ (al = true → k % n = 0) ∧ (be = true → b % n = (k + b') % n) ∧ S = n) ∨ (S = -1 ∨ S = -t ∨ S = t - 2) := by
  intro S
  -- each part
  have hu : (al = al' ∧ (al = true → k % n = 0) ∧ ∀ i, ((if al then U i else 0) + (if al' then U (i + k) else 0)) % 2 = 0) ∨ ∃ s, ∀ i, ((if al then U i else 0) + (if al' then U (i + k) else 0)) % 2 = U (i + s) := by
    cases al <;> cases al'
    · left; exact ⟨rfl, by simp, fun i => by simp⟩
    · right; exact ⟨k, fun i => by have := P.u01 (i + k); simp; omega⟩
    · right; exact ⟨0, fun i => by have := P.u01 i; simp; omega⟩
    · rcases two_shift P.u01 P.uper P.pos P.usa 0 k with ⟨a1, a2⟩ | ⟨a1, s, a2⟩
      · left; exact ⟨rfl, fun _ => by rw [← a1, Nat.zero_mod], fun i => by simpa using a2 i⟩
      · right; exact ⟨s, fun i => by simpa using a2 i⟩
  have hv : (be = be' ∧ (be = true → b % n = (k + b') % n) ∧ ∀ i, ((if be then V (i + b) else 0) + (if be' then V (i + k + b') else 0)) % 2 = 0) ∨ ∃ s, ∀ i, ((if be then V (i + b) else 0) + (if be' then V (i + k + b') else 0)) % 2 = V (i + s) := by
    cases be <;> cases be'
    · left; exact ⟨rfl, by simp, fun i => by simp⟩
    · right; exact ⟨k + b', fun i => by have := P.v01 (i + k + b'); rw [← Nat.add_assoc]; simp; omega⟩
    · right; exact ⟨b, fun i => by have := P.v01 (i + b); simp; omega⟩
    · rcases two_shift P.v01 P.vper P.pos P.vsa b (k + b') with ⟨a1, a2⟩ | ⟨a1, s, a2⟩
      · left; exact ⟨rfl, fun _ => a1, fun i => by have := a2 i; rw [← Nat.add_assoc] at this; simpa using this⟩
      · right; exact ⟨s, fun i => by have := a2 i; rw [← Nat.add_assoc] at this; simpa using this⟩
  have key : ∀ i, (1 - 2 * mixB U V al be b i) * (1 - 2 * mixB U V al' be' b' (i + k)) = 1 - 2 * ((((if al then U i else 0) + (if al' then U (i + k) else 0)) % 2 + ((if be then V (i + b) else 0) + (if be' then V (i + k + b') else 0)) % 2) % 2) := by
    intro i
    unfold mixB
    have x1 : (if al then U i else 0) = 0 ∨ (if al then U i else 0) = 1 := by cases al <;> simp; exact P.u01 i
    have x2 : (if al' then U (i + k) else 0) = 0 ∨ (if al' then U (i + k) else 0) = 1 := by cases al' <;> simp; exact P.u01 _
    have x3 : (if be then V (i + b) else 0) = 0 ∨ (if be then V (i + b) else 0) = 1 := by cases be <;> simp; exact P.v01 _
    have x4 : (if be' then V (i + k + b') else 0) = 0 ∨ (if be' then V (i + k + b') else 0) = 1 := by cases be' <;> simp; exact P.v01 _
    generalize (if al then U i else 0) = a1 at *
    generalize (if al' then U (i + k) else 0) = a2 at *
    generalize (if be then V (i + b) else 0) = a3 at *
    generalize (if be' then V (i + k + b') else 0) = a4 at *
    rcases x1 with rfl | rfl <;> rcases x2 with rfl | rfl <;> rcases x3 with rfl | rfl <;> rcases x4 with rfl | rfl <;> decide
  have eS : S = isum (fun i => 1 - 2 * ((((if al then U i else 0) + (if al' then U (i + k) else 0)) % 2 + ((if be then V (i + b) else 0) + (if be' then V (i + k + b') else 0)) % 2) % 2)) n := isum_congr n fun i _ => key i
  rcases hu with ⟨u1, u2, u3⟩ | ⟨s, u3⟩ <;> rcases hv with ⟨v1, v2, v3⟩ | ⟨s', v3⟩
  · left
    refine ⟨u1, v1, u2, v2, ?_⟩
    rw [eS, isum_congr n (g := fun _ => 1) (fun i _ => by rw [u3, v3]; rfl)]
    have : ∀ m, isum (fun _ => 1) m = m := by
      intro m
      induction m with
      | zero => rfl
      | succ m ih => simp only [isum, ih]; omega
    exact this n
  · right; left
    rw [eS, isum_congr n (g := fun i => 1 - 2 * V (i + s')) (fun i _ => by rw [u3, v3]; have := P.v01 (i + s'); omega)]
    exact (isum_shift (f := fun i => 1 - 2 * V i) (fun i => by rw [P.vper]) s').trans P.vsum
  · right; left
    rw [eS, isum_congr n (g := fun i => 1 - 2 * U (i + s)) (fun i _ => by rw [u3, v3]; have := P.u01 (i + s); omega)]
    exact (isum_shift (f := fun i => 1 - 2 * U i) (fun i => by rw [P.uper]) s).trans P.usum
  · right
    -- both: shift by s, then the place of v
    have hn := P.pos
    have h1 : S = isum (fun i => 1 - 2 * ((U i + V (i + (s' + (n * s - s)))) % 2)) n := by
      rw [eS, isum_congr n (g := fun i => 1 - 2 * ((U (i + s) + V (i + s + (s' + (n * s - s)))) % 2)) (fun i _ => by
        have hle : s ≤ n * s := Nat.le_mul_of_pos_left s hn
        have : V (i + s + (s' + (n * s - s))) = V (i + s') := by
          rw [show i + s + (s' + (n * s - s)) = i + s' + n * s by omega]
          exact per_zero P.vper (Nat.mul_mod_right n s) _
        rw [u3, v3, this])]
      exact isum_shift (f := fun i => 1 - 2 * ((U i + V (i + (s' + (n * s - s)))) % 2)) (fun i => by
        rw [P.uper, show i + n + (s' + (n * s - s)) = i + (s' + (n * s - s)) + n by omega, P.vper]) s
    have h2 := P.corr (s' + (n * s - s))
    rw [h1]; exact h2
end
end Go.Ae

/- The sequences of the degrees 5 to 7, and their codes. -/
set_option linter.unusedSimpArgs false
set_option linter.unusedVariables false
namespace Go.Ae
def perL (x : List Int) (n i : Nat) : Int := x.getD (i % n) 0
theorem bit_toNat {b : Bool} {x : Int} (hx : x = 0 ∨ x = 1) (h : b.toNat = x.toNat) : b = decide (x = 1) := by
  rcases hx with rfl | rfl <;> cases b <;> simp at h ⊢
theorem list_bit {x : List Int} (hx : bit01 x) (i : Nat) : (packL x).testBit i = decide (x.getD i 0 = 1) := bit_toNat (hx.get i) (packL_bit hx i)
theorem xor_dec {a b : Int} (ha : a = 0 ∨ a = 1) (hb : b = 0 ∨ b = 1) : (decide (a = 1) ^^ decide (b = 1)) = decide ((a + b) % 2 = 1) := by
  rcases ha with rfl | rfl <;> rcases hb with rfl | rfl <;> decide
theorem sa_of {x : List Int} {n W : Nat} (hx : bit01 x) (hl : x.length = n) (hW : packL x = W) (hn : 0 < n) (h : saOk n W = true) : ∀ a, a % n ≠ 0 → ∃ s, ∀ i, (perL x n i + perL x n (i + a)) % 2 = perL x n (i + s) := by
  intro a ha
  have hlt : W < 2 ^ n := by rw [← hW, ← hl]; exact packL_lt hx
  have h1 := List.all_eq_true.1 h (a % n) (List.mem_range.2 (Nat.mod_lt _ hn))
  rw [Bool.or_eq_true] at h1
  rcases h1 with h1 | h1
  · exact absurd (Nat.eq_of_beq_eq_true h1) ha
  · obtain ⟨s, hs, h2⟩ := List.any_eq_true.1 h1
    have hs := List.mem_range.1 hs
    have h2 := Nat.eq_of_beq_eq_true h2
    refine ⟨s, fun i => ?_⟩
    have hj := Nat.mod_lt i hn
    have h3 : (W ^^^ rotN n (a % n) W).testBit (i % n) = (rotN n s W).testBit (i % n) := by rw [h2]
    rw [Nat.testBit_xor, rotN_bit hlt (Nat.mod_lt _ hn) hj, rotN_bit hlt hs hj, ← hW, list_bit hx, list_bit hx, list_bit hx] at h3
    have b1 := hx.get (i % n)
    have b2 := hx.get ((i % n + a % n) % n)
    have b3 := hx.get ((i % n + s) % n)
    rw [xor_dec b1 b2] at h3
    have e1 : (i + a) % n = (i % n + a % n) % n := Nat.add_mod i a n
    have e2 : (i + s) % n = (i % n + s) % n := by rw [Nat.mod_add_mod]
    unfold perL
    rw [e1, e2]
    have h4 := decide_eq_decide.1 h3
    omega
theorem pop_list {x : List Int} {n W : Nat} (hx : bit01 x) (hW : packL x = W) : bsum (fun i => (x.getD i 0).toNat) n = popc n W := by
  rw [popc_eq, ← hW]
  exact bsum_congr n fun i _ => (packL_bit hx i).symm
theorem perL_01 {x : List Int} (hx : bit01 x) (n i : Nat) : perL x n i = 0 ∨ perL x n i = 1 := hx.get _
theorem perL_per (x : List Int) (n i : Nat) : perL x n (i + n) = perL x n i := by unfold perL; rw [Nat.add_mod_right]
theorem sum_of {x : List Int} {n W : Nat} (hx : bit01 x) (hW : packL x = W) (h : 2 * popc n W = n + 1) : isum (fun i => 1 - 2 * perL x n i) n = -1 := by
  rw [isum_bits (perL_01 hx n)]
  have : bsum (fun i => (perL x n i).toNat) n = popc n W := by
    rw [← pop_list hx hW]
    exact bsum_congr n fun i hi => by unfold perL; rw [Nat.mod_eq_of_lt hi]
  rw [this]; omega
theorem corr_of {x y : List Int} {n W V t : Nat} (hx : bit01 x) (hy : bit01 y) (hl : y.length = n) (hW : packL x = W) (hV : packL y = V) (hn : 0 < n) (h : corrOk n W V t = true) :
    ∀ e, let S := isum (fun i => 1 - 2 * ((perL x n i + perL y n (i + e)) % 2)) n; S = -1 ∨ S = -(t : Int) ∨ S = (t : Int) - 2 := by
  intro e S
  have hlt : V < 2 ^ n := by rw [← hV, ← hl]; exact packL_lt hy
  have h1 := List.all_eq_true.1 h (e % n) (List.mem_range.2 (Nat.mod_lt _ hn))
  have hb : ∀ i, (perL x n i + perL y n (i + e)) % 2 = 0 ∨ (perL x n i + perL y n (i + e)) % 2 = 1 := fun i => by omega
  have hS : S = n - 2 * (bsum (fun i => ((perL x n i + perL y n (i + e)) % 2).toNat) n : Nat) := isum_bits hb n
  have hp : bsum (fun i => ((perL x n i + perL y n (i + e)) % 2).toNat) n = popc n (W ^^^ rotN n (e % n) V) := by
    rw [popc_eq]
    refine bsum_congr n fun i hi => ?_
    have b1 := hx.get i
    have b2 := hy.get ((i + e % n) % n)
    show _ = ((W ^^^ rotN n (e % n) V).testBit i).toNat
    rw [Nat.testBit_xor, rotN_bit hlt (Nat.mod_lt _ hn) hi, ← hW, ← hV, list_bit hx, list_bit hy, xor_dec b1 b2]
    have e1 : (i + e) % n = (i + e % n) % n := by rw [Nat.add_mod_mod]
    unfold perL
    rw [Nat.mod_eq_of_lt hi, e1]
    have : (x.getD i 0 + y.getD ((i + e % n) % n) 0) % 2 = 0 ∨ (x.getD i 0 + y.getD ((i + e % n) % n) 0) % 2 = 1 := by omega
    rcases this with h | h <;> rw [h] <;> rfl
  rw [hp] at hS
  simp only [Bool.or_eq_true] at h1
  rcases h1 with (h1 | h1) | h1 <;> have h1 := Nat.eq_of_beq_eq_true h1 <;> omega
theorem pair_of {x y : List Int} {n t W V : Nat} (hn : 0 < n) (hx : bit01 x) (hy : bit01 y) (lx : x.length = n) (ly : y.length = n) (hW : packL x = W) (hV : packL y = V) (s1 : saOk n W = true) (s2 : saOk n V = true) (h1 : 2 * popc n W = n + 1) (h2 : 2 * popc n V = n + 1) (hc : corrOk n W V t = true) :
    Pair n t (perL x n) (perL y n) :=
  ⟨hn, perL_01 hx n, perL_01 hy n, perL_per x n, perL_per y n, sa_of hx lx hW hn s1, sa_of hy ly hV hn s2, sum_of hx hW h1, sum_of hy hV h2, corr_of hx hy ly hW hV hn hc⟩
theorem w51 : packL (bitsL 5 1) = 440580895 := by decide +kernel
theorem w52 : packL (bitsL 5 2) = 319508959 := by decide +kernel
theorem pair5 : Pair 31 9 (perL (bitsL 5 1) 31) (perL (bitsL 5 2) 31) :=
  pair_of (by decide) bitsL_01 bitsL_01 (bitsL_length 5 1) (bitsL_length 5 2) w51 w52 (by decide +kernel) (by decide +kernel) (by decide +kernel) (by decide +kernel) (by decide +kernel)
theorem w61 : packL (bitsL 6 1) = 3114073359753873471 := by decide +kernel
theorem w62 : packL (bitsL 6 2) = 3765794974394322623 := by decide +kernel
theorem pair6 : Pair 63 17 (perL (bitsL 6 1) 63) (perL (bitsL 6 2) 63) :=
  pair_of (by decide) bitsL_01 bitsL_01 (bitsL_length 6 1) (bitsL_length 6 2) w61 w62 (by decide +kernel) (by decide +kernel) (by decide +kernel) (by decide +kernel) (by decide +kernel)
theorem w71 : packL (bitsL 7 1) = 19633041171262327947611635764423014527 := by decide +kernel
theorem w72 : packL (bitsL 7 2) = 79058819457452495440679678893767108735 := by decide +kernel
theorem pair7 : Pair 127 17 (perL (bitsL 7 1) 127) (perL (bitsL 7 2) 127) :=
  pair_of (by decide) bitsL_01 bitsL_01 (bitsL_length 7 1) (bitsL_length 7 2) w71 w72 (by decide +kernel) (by decide +kernel) (by decide +kernel) (by decide +kernel) (by decide +kernel)

/-- The value of the sums of a degree. -/
def thrT (d : Int) : Int := if d = 5 then 9 else 17
theorem pair_deg {d : Int} (hd : d = 5 ∨ d = 6 ∨ d = 7) : Pair (lenN d) (thrT d) (perL (bitsL d 1) (lenN d)) (perL (bitsL d 2) (lenN d)) := by
  rcases hd with rfl | rfl | rfl
  · exact pair5
  · exact pair6
  · exact pair7
theorem codeB_mix {d : Int} {p : Nat} (hp : 1 ≤ p) (i : Nat) (hi : i < lenN d) : codeB d p i = mixB (perL (bitsL d 1) (lenN d)) (perL (bitsL d 2) (lenN d)) (decide (p ≠ 2)) (decide (p ≠ 1)) (p - 3) i := by
  unfold codeB mixB perL
  have h1 := bit01_getD (bitsL_01 (d := d) (w := 1)) i
  have h2 := bit01_getD (bitsL_01 (d := d) (w := 2)) i
  by_cases c1 : p = 1
  · subst c1
    show (bitsL d 1).getD i 0 = ((bitsL d 1).getD (i % lenN d) 0 + 0) % 2
    rw [Nat.mod_eq_of_lt hi]; omega
  · by_cases c2 : p = 2
    · subst c2
      show (bitsL d 2).getD i 0 = (0 + (bitsL d 2).getD ((i + 0) % lenN d) 0) % 2
      rw [Nat.add_zero, Nat.mod_eq_of_lt hi]; omega
    · rw [if_neg (by omega), if_neg (by omega), Nat.mod_eq_of_lt hi, show ((p : Int) - 3).toNat = p - 3 by omega]
      simp [c1, c2]
/-- The sum of products of two codes, one of them rotated. -/
def prodS (d : Int) (p q k : Nat) : Int := isum (fun i => (codeL d p).getD i 0 * (codeL d q).getD ((i + k) % lenN d) 0) (lenN d)
theorem three {d : Int} (hd : d = 5 ∨ d = 6 ∨ d = 7) {p q k : Nat} (hp : 1 ≤ p ∧ p ≤ lenN d + 2) (hq : 1 ≤ q ∧ q ≤ lenN d + 2) (hk : k < lenN d) :
    (p = q ∧ k = 0 ∧ prodS d p q k = lenN d) ∨ (¬ (p = q ∧ k = 0) ∧ (prodS d p q k = -1 ∨ prodS d p q k = -thrT d ∨ prodS d p q k = thrT d - 2)) := by
  have P := pair_deg hd
  have hlen : 31 ≤ lenN d := by rcases hd with rfl | rfl | rfl <;> decide
  have hthr : thrT d = 9 ∨ thrT d = 17 := by unfold thrT; split <;> simp
  have h := mix_three P (decide (p ≠ 2)) (decide (p ≠ 1)) (decide (q ≠ 2)) (decide (q ≠ 1)) (p - 3) (q - 3) k (by by_cases c : p = 2 <;> simp [c]) (by by_cases c : q = 2 <;> simp [c])
  have e : prodS d p q k = isum (fun i => (1 - 2 * mixB (perL (bitsL d 1) (lenN d)) (perL (bitsL d 2) (lenN d)) (decide (p ≠ 2)) (decide (p ≠ 1)) (p - 3) i) * (1 - 2 * mixB (perL (bitsL d 1) (lenN d)) (perL (bitsL d 2) (lenN d)) (decide (q ≠ 2)) (decide (q ≠ 1)) (q - 3) (i + k))) (lenN d) := by
    refine isum_congr _ fun i hi => ?_
    have hm : (i + k) % lenN d < lenN d := Nat.mod_lt _ (by omega)
    rw [codeL_get hi, codeL_get hm, codeB_mix hp.1 i hi, codeB_mix hq.1 _ hm]
    congr 2
    unfold mixB perL
    rw [Nat.mod_mod, Nat.mod_add_mod]
  have hself : p = q → k = 0 → prodS d p q k = lenN d := by
    rintro rfl rfl
    have : prodS d p p 0 = isum (fun _ => 1) (lenN d) := isum_congr _ fun i hi => by
      have hm : (i + 0) % lenN d = i := Nat.mod_eq_of_lt (by omega)
      rw [hm, codeL_get hi]
      rcases codeB_01 d p i with h | h <;> rw [h] <;> rfl
    rw [this]
    have : ∀ m, isum (fun _ => 1) m = m := by
      intro m
      induction m with
      | zero => rfl
      | succ m ih => simp only [isum, ih]; omega
    exact this _
  by_cases c : p = q ∧ k = 0
  · exact .inl ⟨c.1, c.2, hself c.1 c.2⟩
  · refine .inr ⟨c, ?_⟩
    rw [e]
    rcases h with ⟨a1, a2, a3, a4, _⟩ | h
    · exfalso
      apply c
      have e1 := decide_eq_decide.1 a1
      have e2 := decide_eq_decide.1 a2
      simp only [decide_eq_true_eq] at a3 a4
      have hkm : k % lenN d = k := Nat.mod_eq_of_lt hk
      by_cases p2 : p = 2
      · have q2 : q = 2 := by omega
        have h4 := a4 (by omega)
        subst p2; subst q2
        simp only [show 2 - 3 = 0 from rfl, Nat.zero_mod, Nat.add_zero] at h4
        exact ⟨rfl, by omega⟩
      · have hk0 : k = 0 := by have := a3 p2; omega
        by_cases p1 : p = 1
        · exact ⟨by omega, hk0⟩
        · have h4 := a4 p1
          have q1 : q ≠ 1 := by omega
          have q2 : q ≠ 2 := by omega
          rw [hk0, Nat.zero_add, Nat.mod_eq_of_lt (by omega), Nat.mod_eq_of_lt (by omega)] at h4
          exact ⟨by omega, hk0⟩
    · exact h
end Go.Ae

/- The examples of layer 8, run. -/
set_option linter.unusedSimpArgs false
set_option linter.unusedVariables false
namespace Go.Ae
section
variable {C : Ctx}
theorem awake08_run : runsTo (tabIn T80) 1000 60 80 [] = true := by kernel_rfl
theorem awake08_spec (hC : Has C T80) {h : Heap} : ACalls C 80 [] h (fun r h' => r = .bool true ∧ h' = h) :=
  runsTo_sound (tabIn_ok hC) (by simp) awake08_run h

end
end Go.Ae
