/- Texts of the proof, part 12: a second reading of the lowered code, proved sound, and what the functions compute. -/
import Derived.Test.YtdcellihijlekaaV11

/- Parts of placements, of the program and of the reference. -/
set_option linter.unusedSimpArgs false
set_option linter.unusedVariables false
namespace Go.Ae
section
variable {C : Ctx}
theorem chip_spec (hC : Has C T154) {w : AV} {l : List Int} {o i : Int} {h : Heap} (hl : RI h w l) (hi : 0 ≤ i) (h1 : 1 ≤ l.length) (hi2 : i ≤ 1000000000) : ACalls C 154 [.agg [w, .int .i64 o], .int .i64 i] h (fun r h' => r = .int .i64 (l.getD (min i ((l.length : Int) - 1)).toNat 0) ∧ h' = h) := by
  refine ACalls.gc0 (P := fun r h' => r = .int .i64 (l.getD (min i ((l.length : Int) - 1)).toNat 0) ∧ HSub h h') ?_ (fun r h' hp => ⟨by rw [hp.1]; trivial, hp.2, hp.1, rfl⟩)
  have hlt := hl.lt
  have c0 := hl.cells
  have o0 := hl.one
  have ld := (hl.mono (HSub.push1 h (.cells [w, .int .i64 o] true 0))).load (k := (min i ((l.length : Int) - 1)).toNat) (by omega)
  (refine calls_intro (hC.body (by decide) tab154) (Nat.le_of_ble_eq_true rfl) ?_); (show wp C _ none B154.code _ _); (simp only [B154]); simp -implicitDefEqProofs (disch := first | assumption | decide | omega | (simp only [wpD1] <;> omega) | (simp only [wpD2] <;> assumption) | solve_by_elim [HSub.refl, HSub.push, HSub.reserve] | fail) only [↓wpPre, wpPost, wpPoly, Int.reduceToNat, Int.reducePow, Int.reduceMul, Int.reduceAdd, Int.reduceSub, Int.reduceNeg, Nat.reduceAdd, Nat.reduceMul, Nat.reducePow, Int.reduceLT, Int.reduceLE, Int.reduceEq, Nat.reduceEqDiff, hl.len, hl.idx, ld]
  exact HSub.push1 _ _
def tupPP (x y : Int) : AV := .tuple [.int .i64 x, .int .i64 y]
set_option maxHeartbeats 1000000 in
theorem parts_spec (hC : Has C T180) {w1 w2 : AV} {a b : List Int} {o1 o2 s : Int} {m : Nat} {h : Heap} (ha : RI h w1 a) (hb : RI h w2 b) (oa : one1 a) (ob : one1 b) (hl : a.length = b.length ∧ 1 ≤ a.length ∧ a.length ≤ 10000) (hm : m ≤ a.length) (hs : -1 ≤ s ∧ s ≤ 1) (hms : (m : Int) ≤ a.length + s) :
    ACalls C 180 [.agg [w1, .int .i64 o1], .agg [w2, .int .i64 o2], .int .i64 (m : Nat), .int .i64 s] h (fun r h' => r = tupPP (pf a b m s m) (ps a b m (a.length - m)) ∧ h' = h) := by
  refine ACalls.gc0 (P := fun r h' => r = tupPP (pf a b m s m) (ps a b m (a.length - m)) ∧ HSub h h') ?_ (fun r h' hp => ⟨by rw [hp.1]; exact free_tuple (by simp [AV.free, AV.bel]), hp.2, hp.1, rfl⟩)
  have hlt := ha.lt
  have c0 := ha.cells
  have o0 := ha.one
  have c1 := hb.cells
  have o1' := hb.one
  have chp := fun (h' : Heap) (q : HSub h h') (i : Int) (x : 0 ≤ i) (y : i ≤ 1000000000) => chip_spec (hC.sub (T' := T154) (by decide)) (o := o2) (hb.mono q) x (by omega) y
  (refine calls_intro (hC.body (by decide) tab180) (Nat.le_of_ble_eq_true rfl) ?_); (show wp C _ none B180.code _ _); (simp only [B180]); simp -implicitDefEqProofs (disch := first | assumption | decide | omega | (simp only [wpD1] <;> omega) | (simp only [wpD2] <;> assumption) | solve_by_elim [HSub.refl, HSub.push, HSub.reserve] | fail) only [↓wpPre, wpPost, wpPoly, Int.reduceToNat, Int.reducePow, Int.reduceMul, Int.reduceAdd, Int.reduceSub, Int.reduceNeg, Nat.reduceAdd, Nat.reduceMul, Nat.reducePow, Int.reduceLT, Int.reduceLE, Int.reduceEq, Nat.reduceEqDiff, ha.len]
  refine wp_loopI (fun j t h' => h' = (h.push (.cells [w1, .int .i64 o1] true 0)).push (.cells [w2, .int .i64 o2] true 0) ∧ ∃ k : Nat, t 2 = .int .i64 (m : Nat) ∧ t 3 = .int .i64 s ∧ t 5 = .ptr (h.size + 1) 0 ∧ t 8 = .int .i64 (pf a b m s (min k m)) ∧ t 9 = .int .i64 (ps a b m (k - m)) ∧ t 10 = .int .i64 (a.length : Nat) ∧ t 17 = w1 ∧ t 18 = .int .i64 (a.length : Nat) ∧ t 19 = .int .i64 (k : Nat) ∧ k ≤ a.length ∧ j = a.length - k) (j0 := a.length)
    ⟨rfl, 0, rfl, rfl, rfl, by rw [Nat.zero_min]; rfl, by rw [Nat.zero_sub]; rfl, rfl, rfl, rfl, rfl, by omega, rfl⟩ ?_
  rintro j t h' ⟨rfl, k, e2, e3, e5, e8, e9, e10, e17, e18, e19, hk, hj⟩
  simp -implicitDefEqProofs (disch := first | assumption | decide | omega | (simp only [wpD1] <;> omega) | (simp only [wpD2] <;> assumption) | solve_by_elim [HSub.refl, HSub.push, HSub.reserve] | fail) only [↓wpPre, wpPost, wpPoly, Int.reduceToNat, Int.reducePow, Int.reduceMul, Int.reduceAdd, Int.reduceSub, Int.reduceNeg, Nat.reduceAdd, Nat.reduceMul, Nat.reducePow, Int.reduceLT, Int.reduceLE, Int.reduceEq, Nat.reduceEqDiff, e18, e19]
  refine Br.by (fun c => ?_) (fun c => ?_)
  · have hk' : k < a.length := by omega
    have ld := (ha.mono ((HSub.push1 h (.cells [w1, .int .i64 o1] true 0)).push (.cells [w2, .int .i64 o2] true 0))).load hk'
    have p1 := pf_le oa ob (m := m) (s := s) (min k m)
    have p2 := ps_le oa ob (m := m) (k - m)
    by_cases c2 : k < m
    · rw [Nat.min_eq_left (by omega)] at e8 p1
      have q := mul_one1 (oa.get k) (ob.get (min ((k : Int) - m + a.length + s) ((a.length : Int) - 1)).toNat)
      have nx : pf a b m s (k + 1) = pf a b m s k + a.getD k 0 * b.getD (min ((k : Int) - m + a.length + s) ((a.length : Int) - 1)).toNat 0 := rfl
      have ny : k + 1 - m = k - m := by omega
      have cs := chp _ ((HSub.push1 h (.cells [w1, .int .i64 o1] true 0)).push (.cells [w2, .int .i64 o2] true 0)) ((k : Int) - m + a.length + s) (by omega) (by omega)
      rw [← hl.1] at cs
      simp -implicitDefEqProofs (disch := first | assumption | decide | omega | (simp only [wpD1] <;> omega) | (simp only [wpD2] <;> assumption) | solve_by_elim [HSub.refl, HSub.push, HSub.reserve] | fail) only [↓wpPre, wpPost, wpPoly, Int.reduceToNat, Int.reducePow, Int.reduceMul, Int.reduceAdd, Int.reduceSub, Int.reduceNeg, Nat.reduceAdd, Nat.reduceMul, Nat.reducePow, Int.reduceLT, Int.reduceLE, Int.reduceEq, Nat.reduceEqDiff, e2, e3, e5, e8, e9, e10, e17, e19, ha.idx, ld]
      refine ACallsK.eq cs ?_
      simp -implicitDefEqProofs (disch := first | assumption | decide | omega | (simp only [wpD1] <;> omega) | (simp only [wpD2] <;> assumption) | solve_by_elim [HSub.refl, HSub.push, HSub.reserve] | fail) only [↓wpPre, wpPost, wpPoly, Int.reduceToNat, Int.reducePow, Int.reduceMul, Int.reduceAdd, Int.reduceSub, Int.reduceNeg, Nat.reduceAdd, Nat.reduceMul, Nat.reducePow, Int.reduceLT, Int.reduceLE, Int.reduceEq, Nat.reduceEqDiff, ← nx, e8, e9, e2, e3, e5, e10, e17, e18, e19]
      exact ⟨_, ⟨k + 1, by rw [Nat.min_eq_left (by omega)], by rw [ny], by simp, by omega, rfl⟩, by omega⟩
    · have q := mul_one1 (oa.get k) (ob.get (k - m))
      have nx : min (k + 1) m = min k m := by omega
      have ny : ps a b m (k + 1 - m) = ps a b m (k - m) + a.getD k 0 * b.getD (k - m) 0 := by
        rw [show k + 1 - m = (k - m) + 1 by omega, ps, show m + (k - m) = k by omega]
      have cs := chp _ ((HSub.push1 h (.cells [w1, .int .i64 o1] true 0)).push (.cells [w2, .int .i64 o2] true 0)) ((k : Int) - m) (by omega) (by omega)
      rw [show (min ((k : Int) - m) ((b.length : Int) - 1)).toNat = k - m by omega] at cs
      simp -implicitDefEqProofs (disch := first | assumption | decide | omega | (simp only [wpD1] <;> omega) | (simp only [wpD2] <;> assumption) | solve_by_elim [HSub.refl, HSub.push, HSub.reserve] | fail) only [↓wpPre, wpPost, wpPoly, Int.reduceToNat, Int.reducePow, Int.reduceMul, Int.reduceAdd, Int.reduceSub, Int.reduceNeg, Nat.reduceAdd, Nat.reduceMul, Nat.reducePow, Int.reduceLT, Int.reduceLE, Int.reduceEq, Nat.reduceEqDiff, e2, e3, e5, e8, e9, e10, e17, e19, ha.idx, ld]
      refine ACallsK.eq cs ?_
      simp -implicitDefEqProofs (disch := first | assumption | decide | omega | (simp only [wpD1] <;> omega) | (simp only [wpD2] <;> assumption) | solve_by_elim [HSub.refl, HSub.push, HSub.reserve] | fail) only [↓wpPre, wpPost, wpPoly, Int.reduceToNat, Int.reducePow, Int.reduceMul, Int.reduceAdd, Int.reduceSub, Int.reduceNeg, Nat.reduceAdd, Nat.reduceMul, Nat.reducePow, Int.reduceLT, Int.reduceLE, Int.reduceEq, Nat.reduceEqDiff, ← ny, e8, e9, e2, e3, e5, e10, e17, e18, e19]
      exact ⟨_, ⟨k + 1, by rw [nx], rfl, by simp, by omega, rfl⟩, by omega⟩
  · have ek : k = a.length := by omega
    subst ek
    rw [Nat.min_eq_right hm] at e8
    simp -implicitDefEqProofs (disch := first | assumption | decide | omega | (simp only [wpD1] <;> omega) | (simp only [wpD2] <;> assumption) | solve_by_elim [HSub.refl, HSub.push, HSub.reserve] | fail) only [↓wpPre, wpPost, wpPoly, Int.reduceToNat, Int.reducePow, Int.reduceMul, Int.reduceAdd, Int.reduceSub, Int.reduceNeg, Nat.reduceAdd, Nat.reduceMul, Nat.reducePow, Int.reduceLT, Int.reduceLE, Int.reduceEq, Nat.reduceEqDiff, e8, e9]
    exact ⟨rfl, (HSub.push1 _ _).push _⟩
end
end Go.Ae

/- The greatest sum over placements, of the program and of the reference. -/
set_option linter.unusedSimpArgs false
set_option linter.unusedVariables false
namespace Go.Ae
theorem cnt_in {n mg k : Nat} {s : Int} (hs : -1 ≤ s ∧ s ≤ 1) (hk : k < cntM n mg s) : mg + k ≤ n ∧ ((mg + k : Nat) : Int) ≤ n + s := by
  unfold cntM lastM at hk
  split at hk <;> omega
theorem cnt_le {n mg : Nat} {s : Int} (hs : -1 ≤ s ∧ s ≤ 1) (k : Nat) : k < cntM n mg s ↔ ((mg : Int) + k ≤ lastM n mg s) := by
  unfold cntM
  omega
def rowG (a b : List Int) (mg : Nat) : Nat → Int
  | 0 => 0
  | si + 1 => gM a b ((si : Int) - 1) mg (cntM a.length mg ((si : Int) - 1)) (rowG a b mg si)
theorem rowG_le {a b : List Int} (oa : one1 a) (ob : one1 b) (mg : Nat) : ∀ si, si ≤ 3 → 0 ≤ rowG a b mg si ∧ rowG a b mg si ≤ a.length
  | 0, _ => by simp [rowG]
  | si + 1, h => by
    have ih := rowG_le oa ob mg si (by omega)
    by_cases c : cntM a.length mg ((si : Int) - 1) = 0
    · rw [rowG, c]; exact ih
    · have := cnt_in (n := a.length) (mg := mg) (s := (si : Int) - 1) (k := cntM a.length mg ((si : Int) - 1) - 1) (by omega) (by omega)
      exact gM_le oa ob _ _ (by omega) ih
section
variable {C : Ctx}
theorem plac_iter (hC : Has C T201) {l b1 b2 n mg : Nat} {h : Heap} (hn : n ≤ 10000 ∧ mg ≤ 10000) (J : Nat → Nat → Heap → Prop) (D : Heap → Prop) (h0 : J 0 0 h)
    (hb : ∀ si k h', J si k h' → h'.get b1 = some (.cells [.int .i64 (n : Nat)] true 0) ∧ h'.get b2 = some (.cells [.int .i64 (mg : Nat)] true 0))
    (hy : ∀ (si k : Nat) (h' : Heap), si < 3 → k < cntM n mg ((si : Int) - 1) → J si k h' → AYield C l [.int .i64 (mg + k : Nat), .int .i64 ((si : Int) - 1)] h' (fun r h'' => (r = .bool true ∧ J si (k + 1) h'') ∨ (r = .bool false ∧ D h'')))
    (hx : ∀ (si : Nat) (h' : Heap), si < 3 → J si (cntM n mg ((si : Int) - 1)) h' → J (si + 1) 0 h') (hd : ∀ h', J 3 0 h' → D h') :
    ACalls C 201 [.yield l, .ptr b1 0, .ptr b2 0] h (fun _ h' => D h') := by
  (refine calls_intro (hC.body (by decide) tab201) (Nat.le_of_ble_eq_true rfl) ?_); (show wp C _ none B201.code _ _); (simp only [B201]); simp -implicitDefEqProofs (disch := first | assumption | decide | omega | (simp only [wpD1] <;> omega) | (simp only [wpD2] <;> assumption) | solve_by_elim [HSub.refl, HSub.push, HSub.reserve] | fail) only [↓wpPre, wpPost, wpPoly, Int.reduceToNat, Int.reducePow, Int.reduceMul, Int.reduceAdd, Int.reduceSub, Int.reduceNeg, Nat.reduceAdd, Nat.reduceMul, Nat.reducePow, Int.reduceLT, Int.reduceLE, Int.reduceEq, Nat.reduceEqDiff]
  refine wp_loopI (fun j t h' => ∃ si : Nat, J si 0 h' ∧ t 0 = .yield l ∧ t 1 = .ptr b1 0 ∧ t 2 = .ptr b2 0 ∧ t 4 = .int .i64 ((si : Int) - 1) ∧ si ≤ 3 ∧ j = 3 - si) (j0 := 3) ⟨0, h0, rfl, rfl, rfl, rfl, by omega, rfl⟩ ?_
  rintro j t h' ⟨si, hJ, e0, e1, e2, e4, hsi, hj⟩
  obtain ⟨g1, g2⟩ := hb _ _ _ hJ
  simp -implicitDefEqProofs (disch := first | assumption | decide | omega | (simp only [wpD1] <;> omega) | (simp only [wpD2] <;> assumption) | solve_by_elim [HSub.refl, HSub.push, HSub.reserve] | fail) only [↓wpPre, wpPost, wpPoly, Int.reduceToNat, Int.reducePow, Int.reduceMul, Int.reduceAdd, Int.reduceSub, Int.reduceNeg, Nat.reduceAdd, Nat.reduceMul, Nat.reducePow, Int.reduceLT, Int.reduceLE, Int.reduceEq, Nat.reduceEqDiff, e4]
  refine Br.by (fun c => ?_) (fun c => ?_)
  · have hsi' : si < 3 := by omega
    have hls : ∃ L : Int, L = lastM n mg ((si : Int) - 1) ∧ -10001 ≤ L ∧ L ≤ 10001 := ⟨_, rfl, by unfold lastM; split <;> omega, by unfold lastM; split <;> omega⟩
    obtain ⟨L, hL, hL1⟩ := hls
    by_cases cm : 0 < (mg : Int)
    · have eL : L = n + ((si : Int) - 1) - mg := by rw [hL]; unfold lastM; rw [if_pos cm]
      simp -implicitDefEqProofs (disch := first | assumption | decide | omega | (simp only [wpD1] <;> omega) | (simp only [wpD2] <;> assumption) | solve_by_elim [HSub.refl, HSub.push, HSub.reserve] | fail) only [↓wpPre, wpPost, wpPoly, Int.reduceToNat, Int.reducePow, Int.reduceMul, Int.reduceAdd, Int.reduceSub, Int.reduceNeg, Nat.reduceAdd, Nat.reduceMul, Nat.reducePow, Int.reduceLT, Int.reduceLE, Int.reduceEq, Nat.reduceEqDiff, e1, e2, e4, g1, g2]
      rw [← eL]
      refine wp_loopI (fun j t h' => ∃ k : Nat, J si k h' ∧ t 0 = .yield l ∧ t 1 = .ptr b1 0 ∧ t 2 = .ptr b2 0 ∧ t 4 = .int .i64 ((si : Int) - 1) ∧ t 5 = .int .i64 L ∧ t 6 = .int .i64 (mg + k : Nat) ∧ k ≤ cntM n mg ((si : Int) - 1) ∧ j = cntM n mg ((si : Int) - 1) - k) (j0 := cntM n mg ((si : Int) - 1))
        ⟨0, hJ, e0, e1, e2, e4, rfl, rfl, by omega, rfl⟩ ?_
      rintro j t h'' ⟨k, hJ, e0, e1, e2, e4, e5, e6, hk, hj'⟩
      simp -implicitDefEqProofs (disch := first | assumption | decide | omega | (simp only [wpD1] <;> omega) | (simp only [wpD2] <;> assumption) | solve_by_elim [HSub.refl, HSub.push, HSub.reserve] | fail) only [↓wpPre, wpPost, wpPoly, Int.reduceToNat, Int.reducePow, Int.reduceMul, Int.reduceAdd, Int.reduceSub, Int.reduceNeg, Nat.reduceAdd, Nat.reduceMul, Nat.reducePow, Int.reduceLT, Int.reduceLE, Int.reduceEq, Nat.reduceEqDiff, e5, e6]
      refine Br.by (fun c2 => ?_) (fun c2 => ?_)
      · have hk' : k < cntM n mg ((si : Int) - 1) := (cnt_le (by omega) k).2 (by omega)
        have := cnt_in (by omega) hk'
        simp -implicitDefEqProofs (disch := first | assumption | decide | omega | (simp only [wpD1] <;> omega) | (simp only [wpD2] <;> assumption) | solve_by_elim [HSub.refl, HSub.push, HSub.reserve] | fail) only [↓wpPre, wpPost, wpPoly, Int.reduceToNat, Int.reducePow, Int.reduceMul, Int.reduceAdd, Int.reduceSub, Int.reduceNeg, Nat.reduceAdd, Nat.reduceMul, Nat.reducePow, Int.reduceLT, Int.reduceLE, Int.reduceEq, Nat.reduceEqDiff, e0, e4, e6]
        refine AYieldK.of (hy si k h'' hsi' hk' hJ) ?_
        rintro r h3 (⟨rfl, hJ'⟩ | ⟨rfl, hD⟩)
        · simp -implicitDefEqProofs (disch := first | assumption | decide | omega | (simp only [wpD1] <;> omega) | (simp only [wpD2] <;> assumption) | solve_by_elim [HSub.refl, HSub.push, HSub.reserve] | fail) only [↓wpPre, wpPost, wpPoly, Int.reduceToNat, Int.reducePow, Int.reduceMul, Int.reduceAdd, Int.reduceSub, Int.reduceNeg, Nat.reduceAdd, Nat.reduceMul, Nat.reducePow, Int.reduceLT, Int.reduceLE, Int.reduceEq, Nat.reduceEqDiff, e0, e1, e2, e4, e5, e6]
          exact ⟨_, ⟨k + 1, hJ', by simp; omega, by omega, rfl⟩, by omega⟩
        · simp -implicitDefEqProofs (disch := first | assumption | decide | omega | (simp only [wpD1] <;> omega) | (simp only [wpD2] <;> assumption) | solve_by_elim [HSub.refl, HSub.push, HSub.reserve] | fail) only [↓wpPre, wpPost, wpPoly, Int.reduceToNat, Int.reducePow, Int.reduceMul, Int.reduceAdd, Int.reduceSub, Int.reduceNeg, Nat.reduceAdd, Nat.reduceMul, Nat.reducePow, Int.reduceLT, Int.reduceLE, Int.reduceEq, Nat.reduceEqDiff]
          exact hD
      · have ek : k = cntM n mg ((si : Int) - 1) := by
          have := (cnt_le (n := n) (mg := mg) (s := (si : Int) - 1) (by omega) k).1
          omega
        subst ek
        simp -implicitDefEqProofs (disch := first | assumption | decide | omega | (simp only [wpD1] <;> omega) | (simp only [wpD2] <;> assumption) | solve_by_elim [HSub.refl, HSub.push, HSub.reserve] | fail) only [↓wpPre, wpPost, wpPoly, Int.reduceToNat, Int.reducePow, Int.reduceMul, Int.reduceAdd, Int.reduceSub, Int.reduceNeg, Nat.reduceAdd, Nat.reduceMul, Nat.reducePow, Int.reduceLT, Int.reduceLE, Int.reduceEq, Nat.reduceEqDiff, e0, e1, e2, e4]
        exact ⟨_, ⟨si + 1, hx si h'' hsi' hJ, by congr 1; omega, by omega, rfl⟩, by omega⟩
    · have eL : L = n + min ((si : Int) - 1) 0 := by rw [hL]; unfold lastM; rw [if_neg cm]
      simp -implicitDefEqProofs (disch := first | assumption | decide | omega | (simp only [wpD1] <;> omega) | (simp only [wpD2] <;> assumption) | solve_by_elim [HSub.refl, HSub.push, HSub.reserve] | fail) only [↓wpPre, wpPost, wpPoly, Int.reduceToNat, Int.reducePow, Int.reduceMul, Int.reduceAdd, Int.reduceSub, Int.reduceNeg, Nat.reduceAdd, Nat.reduceMul, Nat.reducePow, Int.reduceLT, Int.reduceLE, Int.reduceEq, Nat.reduceEqDiff, e1, e2, e4, g1, g2]
      rw [← eL]
      refine wp_loopI (fun j t h' => ∃ k : Nat, J si k h' ∧ t 0 = .yield l ∧ t 1 = .ptr b1 0 ∧ t 2 = .ptr b2 0 ∧ t 4 = .int .i64 ((si : Int) - 1) ∧ t 5 = .int .i64 L ∧ t 6 = .int .i64 (mg + k : Nat) ∧ k ≤ cntM n mg ((si : Int) - 1) ∧ j = cntM n mg ((si : Int) - 1) - k) (j0 := cntM n mg ((si : Int) - 1))
        ⟨0, hJ, e0, e1, e2, e4, rfl, rfl, by omega, rfl⟩ ?_
      rintro j t h'' ⟨k, hJ, e0, e1, e2, e4, e5, e6, hk, hj'⟩
      simp -implicitDefEqProofs (disch := first | assumption | decide | omega | (simp only [wpD1] <;> omega) | (simp only [wpD2] <;> assumption) | solve_by_elim [HSub.refl, HSub.push, HSub.reserve] | fail) only [↓wpPre, wpPost, wpPoly, Int.reduceToNat, Int.reducePow, Int.reduceMul, Int.reduceAdd, Int.reduceSub, Int.reduceNeg, Nat.reduceAdd, Nat.reduceMul, Nat.reducePow, Int.reduceLT, Int.reduceLE, Int.reduceEq, Nat.reduceEqDiff, e5, e6]
      refine Br.by (fun c2 => ?_) (fun c2 => ?_)
      · have hk' : k < cntM n mg ((si : Int) - 1) := (cnt_le (by omega) k).2 (by omega)
        have := cnt_in (by omega) hk'
        simp -implicitDefEqProofs (disch := first | assumption | decide | omega | (simp only [wpD1] <;> omega) | (simp only [wpD2] <;> assumption) | solve_by_elim [HSub.refl, HSub.push, HSub.reserve] | fail) only [↓wpPre, wpPost, wpPoly, Int.reduceToNat, Int.reducePow, Int.reduceMul, Int.reduceAdd, Int.reduceSub, Int.reduceNeg, Nat.reduceAdd, Nat.reduceMul, Nat.reducePow, Int.reduceLT, Int.reduceLE, Int.reduceEq, Nat.reduceEqDiff, e0, e4, e6]
        refine AYieldK.of (hy si k h'' hsi' hk' hJ) ?_
        rintro r h3 (⟨rfl, hJ'⟩ | ⟨rfl, hD⟩)
        · simp -implicitDefEqProofs (disch := first | assumption | decide | omega | (simp only [wpD1] <;> omega) | (simp only [wpD2] <;> assumption) | solve_by_elim [HSub.refl, HSub.push, HSub.reserve] | fail) only [↓wpPre, wpPost, wpPoly, Int.reduceToNat, Int.reducePow, Int.reduceMul, Int.reduceAdd, Int.reduceSub, Int.reduceNeg, Nat.reduceAdd, Nat.reduceMul, Nat.reducePow, Int.reduceLT, Int.reduceLE, Int.reduceEq, Nat.reduceEqDiff, e0, e1, e2, e4, e5, e6]
          exact ⟨_, ⟨k + 1, hJ', by simp; omega, by omega, rfl⟩, by omega⟩
        · simp -implicitDefEqProofs (disch := first | assumption | decide | omega | (simp only [wpD1] <;> omega) | (simp only [wpD2] <;> assumption) | solve_by_elim [HSub.refl, HSub.push, HSub.reserve] | fail) only [↓wpPre, wpPost, wpPoly, Int.reduceToNat, Int.reducePow, Int.reduceMul, Int.reduceAdd, Int.reduceSub, Int.reduceNeg, Nat.reduceAdd, Nat.reduceMul, Nat.reducePow, Int.reduceLT, Int.reduceLE, Int.reduceEq, Nat.reduceEqDiff]
          exact hD
      · have ek : k = cntM n mg ((si : Int) - 1) := by
          have := (cnt_le (n := n) (mg := mg) (s := (si : Int) - 1) (by omega) k).1
          omega
        subst ek
        simp -implicitDefEqProofs (disch := first | assumption | decide | omega | (simp only [wpD1] <;> omega) | (simp only [wpD2] <;> assumption) | solve_by_elim [HSub.refl, HSub.push, HSub.reserve] | fail) only [↓wpPre, wpPost, wpPoly, Int.reduceToNat, Int.reducePow, Int.reduceMul, Int.reduceAdd, Int.reduceSub, Int.reduceNeg, Nat.reduceAdd, Nat.reduceMul, Nat.reducePow, Int.reduceLT, Int.reduceLE, Int.reduceEq, Nat.reduceEqDiff, e0, e1, e2, e4]
        exact ⟨_, ⟨si + 1, hx si h'' hsi' hJ, by congr 1; omega, by omega, rfl⟩, by omega⟩
  · have : si = 3 := by omega
    subst this
    simp -implicitDefEqProofs (disch := first | assumption | decide | omega | (simp only [wpD1] <;> omega) | (simp only [wpD2] <;> assumption) | solve_by_elim [HSub.refl, HSub.push, HSub.reserve] | fail) only [↓wpPre, wpPost, wpPoly, Int.reduceToNat, Int.reducePow, Int.reduceMul, Int.reduceAdd, Int.reduceSub, Int.reduceNeg, Nat.reduceAdd, Nat.reduceMul, Nat.reducePow, Int.reduceLT, Int.reduceLE, Int.reduceEq, Nat.reduceEqDiff]
    exact hd _ hJ
end
end Go.Ae

/- The greatest sum over placements, of the program and of the reference: contracts. -/
set_option linter.unusedSimpArgs false
set_option linter.unusedVariables false
namespace Go.Ae
theorem rowG_succ {a b : List Int} {mg si k : Nat} : gM a b ((si : Int) - 1) mg (k + 1) (rowG a b mg si) = max (gM a b ((si : Int) - 1) mg k (rowG a b mg si)) (plc a b ((si : Int) - 1) (mg + k)) := rfl
section
variable {C : Ctx}
theorem great1_spec (hC : Has C T189) {w1 w2 : AV} {a b : List Int} {o1 o2 s x : Int} {m i1 i2 : Nat} {h : Heap} (g1 : h.get i1 = some (.cells [w1, .int .i64 o1] true 0)) (g2 : h.get i2 = some (.cells [w2, .int .i64 o2] true 0)) (ha : RI h w1 a) (hb : RI h w2 b) (oa : one1 a) (ob : one1 b) (hl : a.length = b.length ∧ 1 ≤ a.length ∧ a.length ≤ 10000) (hm : m ≤ a.length) (hs : -1 ≤ s ∧ s ≤ 1) (hms : (m : Int) ≤ a.length + s) (hx : 0 ≤ x ∧ x ≤ 10000) :
    ACalls C 189 [.int .i64 x, .int .i64 (m : Nat), .int .i64 s, .ptr i1 0, .ptr i2 0] h (fun r h' => r = .int .i64 (max x (plc a b s m)) ∧ h' = h) := by
  have p1 := pf_le oa ob (m := m) (s := s) m
  have p2 := ps_le oa ob (m := m) (a.length - m)
  have pp := parts_spec (hC.sub (T' := T180) (by decide)) (o1 := o1) (o2 := o2) (h := h) ha hb oa ob hl hm hs hms
  unfold plc
  (refine calls_intro (hC.body (by decide) tab189) (Nat.le_of_ble_eq_true rfl) ?_); (show wp C _ none B189.code _ _); (simp only [B189]); simp -implicitDefEqProofs (disch := first | assumption | decide | omega | (simp only [wpD1] <;> omega) | (simp only [wpD2] <;> assumption) | solve_by_elim [HSub.refl, HSub.push, HSub.reserve] | fail) only [↓wpPre, wpPost, wpPoly, Int.reduceToNat, Int.reducePow, Int.reduceMul, Int.reduceAdd, Int.reduceSub, Int.reduceNeg, Nat.reduceAdd, Nat.reduceMul, Nat.reducePow, Int.reduceLT, Int.reduceLE, Int.reduceEq, Nat.reduceEqDiff, g1, g2]
  refine ACallsK.eq pp ?_
  generalize pf a b m s m = X at *
  generalize ps a b m (a.length - m) = Y at *
  simp -implicitDefEqProofs (disch := first | assumption | decide | omega | (simp only [wpD1] <;> omega) | (simp only [wpD2] <;> assumption) | solve_by_elim [HSub.refl, HSub.push, HSub.reserve] | fail) only [↓wpPre, wpPost, wpPoly, Int.reduceToNat, Int.reducePow, Int.reduceMul, Int.reduceAdd, Int.reduceSub, Int.reduceNeg, Nat.reduceAdd, Nat.reduceMul, Nat.reducePow, Int.reduceLT, Int.reduceLE, Int.reduceEq, Nat.reduceEqDiff, tupPP]
  rw [show (0 - X) = -X by omega, show (0 - Y) = -Y by omega]
set_option maxHeartbeats 1000000 in
theorem fold_spec (hC : Has C T187) (hP : Has C T201) (hG : Has C T189) {w1 w2 : AV} {a b : List Int} {o1 o2 : Int} {mg i1 i2 b1 b2 : Nat} {h : Heap} (g1 : h.get i1 = some (.cells [w1, .int .i64 o1] true 0)) (g2 : h.get i2 = some (.cells [w2, .int .i64 o2] true 0))
    (k1 : h.get b1 = some (.cells [.int .i64 (a.length : Nat)] true 0)) (k2 : h.get b2 = some (.cells [.int .i64 (mg : Nat)] true 0)) (ha : RI h w1 a) (hb : RI h w2 b) (oa : one1 a) (ob : one1 b) (hl : a.length = b.length ∧ 1 ≤ a.length ∧ a.length ≤ 10000) (hmg : mg ≤ 10000) :
    ACalls C 187 [.func 201 [] [.ptr b1 0, .ptr b2 0], .int .i64 0, .func 189 [] [.ptr i1 0, .ptr i2 0]] h (fun r h' => r = .int .i64 (greatI a b mg) ∧ HSub h h') := by
  have l1 := Heap.lt_of_get g1
  have l2 := Heap.lt_of_get g2
  have l3 := Heap.lt_of_get k1
  have l4 := Heap.lt_of_get k2
  (refine calls_intro (hC.body (by decide) tab187) (Nat.le_of_ble_eq_true rfl) ?_); (show wp C _ none B187.code _ _); (simp only [B187]); simp -implicitDefEqProofs (disch := first | assumption | decide | omega | (simp only [wpD1] <;> omega) | (simp only [wpD2] <;> assumption) | solve_by_elim [HSub.refl, HSub.push, HSub.reserve] | fail) only [↓wpPre, wpPost, wpPoly, Int.reduceToNat, Int.reducePow, Int.reduceMul, Int.reduceAdd, Int.reduceSub, Int.reduceNeg, Nat.reduceAdd, Nat.reduceMul, Nat.reducePow, Int.reduceLT, Int.reduceLE, Int.reduceEq, Nat.reduceEqDiff]
  refine wpRange_none (D := fun h' => ∃ R, h'.get (h.size + 3) = some (.loop R) ∧ R.state = .ready ∧ R.pend = none ∧ HSub h h' ∧ h'.get (h.size + 2) = some (.defd true) ∧ h'.get h.size = some (.cells [.int .i64 (greatI a b mg)] true 0) ∧ h.size + 4 ≤ h'.size) ?_ ?_
  · refine ACalls.hideLoop (fun R hR => ?_)
    show ACalls C 201 [.yield (h.size + 3), .ptr b1 0, .ptr b2 0] _ _
    have rs : R.state = .ready := by rw [hR]
    have rp : R.pend = none := by rw [hR]
    have rb := loop_back rs rp
    refine plac_iter hP (n := a.length) (mg := mg) ⟨hl.2.2, hmg⟩ (fun si k h' => h'.get (h.size + 3) = some (.loop R) ∧ HSub h h' ∧ h'.get (h.size + 2) = some (.defd true) ∧ h'.get (h.size + 1) = some (.cells [.func 189 [] [.ptr i1 0, .ptr i2 0]] true 0) ∧
      h'.get h.size = some (.cells [.int .i64 (gM a b ((si : Int) - 1) mg k (rowG a b mg si))] true 0) ∧ h.size + 4 ≤ h'.size) _ ?_ ?_ ?_ ?_ ?_
    · refine ⟨?_, (((HSub.push1 _ _).push _).push _).push _, ?_, ?_, ?_, ?_⟩
      · simp -implicitDefEqProofs (disch := first | assumption | decide | omega | (simp only [wpD1] <;> omega) | (simp only [wpD2] <;> assumption) | solve_by_elim [HSub.refl, HSub.push, HSub.reserve] | fail) only [↓wpPre, wpPost, wpPoly, Int.reduceToNat, Int.reducePow, Int.reduceMul, Int.reduceAdd, Int.reduceSub, Int.reduceNeg, Nat.reduceAdd, Nat.reduceMul, Nat.reducePow, Int.reduceLT, Int.reduceLE, Int.reduceEq, Nat.reduceEqDiff]
      · simp -implicitDefEqProofs (disch := first | assumption | decide | omega | (simp only [wpD1] <;> omega) | (simp only [wpD2] <;> assumption) | solve_by_elim [HSub.refl, HSub.push, HSub.reserve] | fail) only [↓wpPre, wpPost, wpPoly, Int.reduceToNat, Int.reducePow, Int.reduceMul, Int.reduceAdd, Int.reduceSub, Int.reduceNeg, Nat.reduceAdd, Nat.reduceMul, Nat.reducePow, Int.reduceLT, Int.reduceLE, Int.reduceEq, Nat.reduceEqDiff]
      · simp -implicitDefEqProofs (disch := first | assumption | decide | omega | (simp only [wpD1] <;> omega) | (simp only [wpD2] <;> assumption) | solve_by_elim [HSub.refl, HSub.push, HSub.reserve] | fail) only [↓wpPre, wpPost, wpPoly, Int.reduceToNat, Int.reducePow, Int.reduceMul, Int.reduceAdd, Int.reduceSub, Int.reduceNeg, Nat.reduceAdd, Nat.reduceMul, Nat.reducePow, Int.reduceLT, Int.reduceLE, Int.reduceEq, Nat.reduceEqDiff]
      · simp -implicitDefEqProofs (disch := first | assumption | decide | omega | (simp only [wpD1] <;> omega) | (simp only [wpD2] <;> assumption) | solve_by_elim [HSub.refl, HSub.push, HSub.reserve] | fail) only [↓wpPre, wpPost, wpPoly, Int.reduceToNat, Int.reducePow, Int.reduceMul, Int.reduceAdd, Int.reduceSub, Int.reduceNeg, Nat.reduceAdd, Nat.reduceMul, Nat.reducePow, Int.reduceLT, Int.reduceLE, Int.reduceEq, Nat.reduceEqDiff]
        rfl
      · simp -implicitDefEqProofs (disch := first | assumption | decide | omega | (simp only [wpD1] <;> omega) | (simp only [wpD2] <;> assumption) | solve_by_elim [HSub.refl, HSub.push, HSub.reserve] | fail) only [↓wpPre, wpPost, wpPoly, Int.reduceToNat, Int.reducePow, Int.reduceMul, Int.reduceAdd, Int.reduceSub, Int.reduceNeg, Nat.reduceAdd, Nat.reduceMul, Nat.reducePow, Int.reduceLT, Int.reduceLE, Int.reduceEq, Nat.reduceEqDiff]
        omega
    · rintro si k h' ⟨_, hs, _⟩
      exact ⟨(hs.get _ l3).trans k1, (hs.get _ l4).trans k2⟩
    · rintro si k h' hsi hk ⟨hlp, hsub, hd, gf, gv, hsz⟩
      have hin := cnt_in (n := a.length) (mg := mg) (s := (si : Int) - 1) (by omega) hk
      have rg := rowG_le oa ob mg si (by omega)
      have gl := gM_le oa ob (s := (si : Int) - 1) (lo := mg) k _ (by omega) rg
      have gs := rowG_succ (a := a) (b := b) (mg := mg) (si := si) (k := k)
      refine yield_intro (r := R) hlp rs (by rw [hR]; rfl) ?_
      simp only [congrArg ALoop.nt hR, congrArg ALoop.t hR, congrArg ALoop.params hR, congrArg ALoop.assign hR, congrArg ALoop.body hR]
      have hsH := fun bb => (hsub.put (i := h.size + 3) (by omega) bb)
      have gr := fun bb => great1_spec hG (s := (si : Int) - 1) (x := gM a b ((si : Int) - 1) mg k (rowG a b mg si)) (m := mg + k) (((hsH bb).get _ l1).trans g1) (((hsH bb).get _ l2).trans g2) (ha.mono (hsH bb)) (hb.mono (hsH bb)) oa ob hl hin.1 (by omega) hin.2 (by omega)
      simp -implicitDefEqProofs (disch := first | assumption | decide | omega | (simp only [wpD1] <;> omega) | (simp only [wpD2] <;> assumption) | solve_by_elim [HSub.refl, HSub.push, HSub.reserve] | fail) only [↓wpPre, wpPost, wpPoly, Int.reduceToNat, Int.reducePow, Int.reduceMul, Int.reduceAdd, Int.reduceSub, Int.reduceNeg, Nat.reduceAdd, Nat.reduceMul, Nat.reducePow, Int.reduceLT, Int.reduceLE, Int.reduceEq, Nat.reduceEqDiff, hlp, rs, gf, gv]
      refine ACallsK.eq (gr _) ?_
      simp -implicitDefEqProofs (disch := first | assumption | decide | omega | (simp only [wpD1] <;> omega) | (simp only [wpD2] <;> assumption) | solve_by_elim [HSub.refl, HSub.push, HSub.reserve] | fail) only [↓wpPre, wpPost, wpPoly, Int.reduceToNat, Int.reducePow, Int.reduceMul, Int.reduceAdd, Int.reduceSub, Int.reduceNeg, Nat.reduceAdd, Nat.reduceMul, Nat.reducePow, Int.reduceLT, Int.reduceLE, Int.reduceEq, Nat.reduceEqDiff, hlp, gv]
      exact .inl ⟨by rw [rb], (by repeat (first | exact hsub | refine HSub.put ?_ (by (try simp only [Heap.size_put, Heap.size_push, Heap.size_reserve]); omega) _ | refine HSub.push ?_ _ | refine HSub.reserve ?_ _)), hd, gf, by rw [gs], hsz⟩
    · rintro si h' hsi ⟨hlp, hsub, hd, gf, gv, hsz⟩
      exact ⟨hlp, hsub, hd, gf, gv, hsz⟩
    · rintro h' ⟨hlp, hsub, hd, gf, gv, hsz⟩
      exact ⟨R, hlp, rs, rp, hsub, hd, gv, hsz⟩
  · rintro h' ⟨R, hlp, hst, hpd, hsub, hd, gv, hsz⟩
    refine ⟨R, hlp, by rw [hst]; decide, ?_⟩
    rw [hpd]
    show blockO _ _ .normal _
    simp -implicitDefEqProofs (disch := first | assumption | decide | omega | (simp only [wpD1] <;> omega) | (simp only [wpD2] <;> assumption) | solve_by_elim [HSub.refl, HSub.push, HSub.reserve] | fail) only [↓wpPre, wpPost, wpPoly, Int.reduceToNat, Int.reducePow, Int.reduceMul, Int.reduceAdd, Int.reduceSub, Int.reduceNeg, Nat.reduceAdd, Nat.reduceMul, Nat.reducePow, Int.reduceLT, Int.reduceLE, Int.reduceEq, Nat.reduceEqDiff, hd, gv]
    exact (by repeat (first | exact hsub | refine HSub.put ?_ (by (try simp only [Heap.size_put, Heap.size_push, Heap.size_reserve]); omega) _ | refine HSub.push ?_ _ | refine HSub.reserve ?_ _))
theorem great_spec (hC : Has C T183) {w1 w2 : AV} {a b : List Int} {o1 o2 : Int} {mg : Nat} {h : Heap} (ha : RI h w1 a) (hb : RI h w2 b) (oa : one1 a) (ob : one1 b) (hl : a.length = b.length ∧ 1 ≤ a.length ∧ a.length ≤ 10000) (hmg : mg ≤ 10000) :
    ACalls C 183 [.agg [w1, .int .i64 o1], .agg [w2, .int .i64 o2], .int .i64 (mg : Nat)] h (fun r h' => r = .int .i64 (greatI a b mg) ∧ h' = h) := by
  refine ACalls.gc0 (P := fun r h' => r = .int .i64 (greatI a b mg) ∧ HSub h h') ?_ (fun r h' hp => ⟨by rw [hp.1]; trivial, hp.2, hp.1, rfl⟩)
  have hlt := ha.lt
  have c0 := ha.cells
  have o0 := ha.one
  have c1 := hb.cells
  have o1' := hb.one
  have hpl : ∀ h (n : Int), ACalls C 188 [.int .i64 n, .int .i64 (mg : Nat)] h (fun r h' => r = .func 201 [] [.ptr h.size 0, .ptr (h.size + 1) 0] ∧ h' = (h.push (.cells [.int .i64 n] true 0)).push (.cells [.int .i64 (mg : Nat)] true 0)) := by
    intro h n
    have hC' : Has C T188 := (hC.sub (T' := T188) (by decide))
    have hC := hC'
    (refine calls_intro (hC.body (by decide) tab188) (Nat.le_of_ble_eq_true rfl) ?_); (show wp C _ none B188.code _ _); (simp only [B188]); simp -implicitDefEqProofs (disch := first | assumption | decide | omega | (simp only [wpD1] <;> omega) | (simp only [wpD2] <;> assumption) | solve_by_elim [HSub.refl, HSub.push, HSub.reserve] | fail) only [↓wpPre, wpPost, wpPoly, Int.reduceToNat, Int.reducePow, Int.reduceMul, Int.reduceAdd, Int.reduceSub, Int.reduceNeg, Nat.reduceAdd, Nat.reduceMul, Nat.reducePow, Int.reduceLT, Int.reduceLE, Int.reduceEq, Nat.reduceEqDiff]
  have hsub4 : HSub h ((((h.push (.cells [w1, .int .i64 o1] true 0)).push (.cells [w2, .int .i64 o2] true 0)).push (.cells [.int .i64 (a.length : Nat)] true 0)).push (.cells [.int .i64 (mg : Nat)] true 0)) := (by repeat (first | exact HSub.refl _ | refine HSub.put ?_ (by (try simp only [Heap.size_put, Heap.size_push, Heap.size_reserve]); omega) _ | refine HSub.push ?_ _ | refine HSub.reserve ?_ _))
  have hfd := fold_spec (hC.sub (T' := T187) (by decide)) (hC.sub (T' := T201) (by decide)) (hC.sub (T' := T189) (by decide)) (i1 := h.size) (i2 := h.size + 1) (b1 := h.size + 2) (b2 := h.size + 3) (o1 := o1) (o2 := o2) (w1 := w1) (w2 := w2) (mg := mg)
    (h := (((h.push (.cells [w1, .int .i64 o1] true 0)).push (.cells [w2, .int .i64 o2] true 0)).push (.cells [.int .i64 (a.length : Nat)] true 0)).push (.cells [.int .i64 (mg : Nat)] true 0))
    (by simp -implicitDefEqProofs (disch := first | assumption | decide | omega | (simp only [wpD1] <;> omega) | (simp only [wpD2] <;> assumption) | solve_by_elim [HSub.refl, HSub.push, HSub.reserve] | fail) only [↓wpPre, wpPost, wpPoly, Int.reduceToNat, Int.reducePow, Int.reduceMul, Int.reduceAdd, Int.reduceSub, Int.reduceNeg, Nat.reduceAdd, Nat.reduceMul, Nat.reducePow, Int.reduceLT, Int.reduceLE, Int.reduceEq, Nat.reduceEqDiff]) (by simp -implicitDefEqProofs (disch := first | assumption | decide | omega | (simp only [wpD1] <;> omega) | (simp only [wpD2] <;> assumption) | solve_by_elim [HSub.refl, HSub.push, HSub.reserve] | fail) only [↓wpPre, wpPost, wpPoly, Int.reduceToNat, Int.reducePow, Int.reduceMul, Int.reduceAdd, Int.reduceSub, Int.reduceNeg, Nat.reduceAdd, Nat.reduceMul, Nat.reducePow, Int.reduceLT, Int.reduceLE, Int.reduceEq, Nat.reduceEqDiff]) (by simp -implicitDefEqProofs (disch := first | assumption | decide | omega | (simp only [wpD1] <;> omega) | (simp only [wpD2] <;> assumption) | solve_by_elim [HSub.refl, HSub.push, HSub.reserve] | fail) only [↓wpPre, wpPost, wpPoly, Int.reduceToNat, Int.reducePow, Int.reduceMul, Int.reduceAdd, Int.reduceSub, Int.reduceNeg, Nat.reduceAdd, Nat.reduceMul, Nat.reducePow, Int.reduceLT, Int.reduceLE, Int.reduceEq, Nat.reduceEqDiff]) (by simp -implicitDefEqProofs (disch := first | assumption | decide | omega | (simp only [wpD1] <;> omega) | (simp only [wpD2] <;> assumption) | solve_by_elim [HSub.refl, HSub.push, HSub.reserve] | fail) only [↓wpPre, wpPost, wpPoly, Int.reduceToNat, Int.reducePow, Int.reduceMul, Int.reduceAdd, Int.reduceSub, Int.reduceNeg, Nat.reduceAdd, Nat.reduceMul, Nat.reducePow, Int.reduceLT, Int.reduceLE, Int.reduceEq, Nat.reduceEqDiff]) (ha.mono hsub4) (hb.mono hsub4) oa ob hl hmg
  (refine calls_intro (hC.body (by decide) tab183) (Nat.le_of_ble_eq_true rfl) ?_); (show wp C _ none B183.code _ _); (simp only [B183]); simp -implicitDefEqProofs (disch := first | assumption | decide | omega | (simp only [wpD1] <;> omega) | (simp only [wpD2] <;> assumption) | solve_by_elim [HSub.refl, HSub.push, HSub.reserve] | fail) only [↓wpPre, wpPost, wpPoly, Int.reduceToNat, Int.reducePow, Int.reduceMul, Int.reduceAdd, Int.reduceSub, Int.reduceNeg, Nat.reduceAdd, Nat.reduceMul, Nat.reducePow, Int.reduceLT, Int.reduceLE, Int.reduceEq, Nat.reduceEqDiff, ha.len]
  refine ACallsK.eq (hpl _ _) ?_
  simp -implicitDefEqProofs (disch := first | assumption | decide | omega | (simp only [wpD1] <;> omega) | (simp only [wpD2] <;> assumption) | solve_by_elim [HSub.refl, HSub.push, HSub.reserve] | fail) only [↓wpPre, wpPost, wpPoly, Int.reduceToNat, Int.reducePow, Int.reduceMul, Int.reduceAdd, Int.reduceSub, Int.reduceNeg, Nat.reduceAdd, Nat.reduceMul, Nat.reducePow, Int.reduceLT, Int.reduceLE, Int.reduceEq, Nat.reduceEqDiff]
  refine ACallsK.of hfd ?_
  rintro r h' ⟨rfl, s1⟩
  simp -implicitDefEqProofs (disch := first | assumption | decide | omega | (simp only [wpD1] <;> omega) | (simp only [wpD2] <;> assumption) | solve_by_elim [HSub.refl, HSub.push, HSub.reserve] | fail) only [↓wpPre, wpPost, wpPoly, Int.reduceToNat, Int.reducePow, Int.reduceMul, Int.reduceAdd, Int.reduceSub, Int.reduceNeg, Nat.reduceAdd, Nat.reduceMul, Nat.reducePow, Int.reduceLT, Int.reduceLE, Int.reduceEq, Nat.reduceEqDiff]
  exact hsub4.trans s1
end
end Go.Ae

/- Parts, Side and Cross, of the program. -/
set_option linter.unusedSimpArgs false
set_option linter.unusedVariables false
namespace Go.Ae
theorem CLs.two {h : Heap} {v : AV} {d o p q : Int} {vs : List AV} (H : CLs h v d o [p, q] vs) : ∃ w1 w2, RI h w1 (sampL d p o.toNat) ∧ RI h w2 (sampL d q o.toNat) ∧ idxA 2 v (.int .i64 0) = some (elA 2 v 0) ∧ idxA 2 v (.int .i64 1) = some (elA 2 v 1) ∧
    Ae.loadA h true 2 (elA 2 v 0) = some (.agg [w1, .int .i64 o]) ∧ Ae.loadA h true 2 (elA 2 v 1) = some (.agg [w2, .int .i64 o]) ∧ fieldAddrA 0 (elA 2 v 0) = some (elF 2 v 0 0) ∧ Ae.loadA h false 1 (elF 2 v 0 0) = some w1 := by
  obtain ⟨w1, w2, rfl⟩ : ∃ w1 w2, vs = [w1, w2] := by
    have := H.len
    match vs, this with
    | [a, b], _ => exact ⟨a, b, rfl⟩
  have l0 := H.sl.loadA (k := 0) (by simp)
  have l1 := H.sl.loadA (k := 1) (by simp)
  have lf := H.sl.loadE (k := 0) (off := 0) (by simp) (by decide)
  exact ⟨w1, w2, H.ri 0 (by simp), H.ri 1 (by simp), H.sl.idx (k := 0) (by simp), H.sl.idx (k := 1) (by simp), l0, l1, H.sl.fldE 0 0 (by simp), lf⟩
theorem CLs.one {h : Heap} {v : AV} {d o p : Int} {vs : List AV} (H : CLs h v d o [p] vs) : ∃ w1, RI h w1 (sampL d p o.toNat) ∧ idxA 2 v (.int .i64 0) = some (elA 2 v 0) ∧ Ae.loadA h true 2 (elA 2 v 0) = some (.agg [w1, .int .i64 o]) := by
  obtain ⟨w1, rfl⟩ : ∃ w1, vs = [w1] := by
    have := H.len
    match vs, this with
    | [a], _ => exact ⟨a, rfl⟩
  exact ⟨w1, H.ri 0 (by simp), H.sl.idx (k := 0) (by simp), H.sl.loadA (k := 0) (by simp)⟩
theorem sampErr_cases (d o : Int) (ps : List Int) : sampErr d o ps = 0 ∨ sampErr d o ps = 2 := by unfold sampErr; split <;> simp
theorem sampErr_ok {d o : Int} {ps : List Int} (h : sampErr d o ps = 0) : lenOk d = true ∧ (1 ≤ o ∧ o ≤ 8) ∧ ∀ p ∈ ps, codeErr d p = 0 := by
  unfold sampErr at h
  split at h
  · rename_i c
    have k := c.1
    unfold knownErr at k
    split at k
    · rename_i kk; exact ⟨kk.1, kk.2, c.2⟩
    · cases k
  · cases h
def partsOk (d o p q m s : Int) : Prop := sampErr d o [p, q] = 0 ∧ (-1 ≤ s ∧ s ≤ 1) ∧ 0 ≤ m ∧ m ≤ lenN d * o + min s 0
instance (d o p q m s : Int) : Decidable (partsOk d o p q m s) := by unfold partsOk; exact inferInstance
def partsE (d o p q m s : Int) : AV := if partsOk d o p q m s then tup3 (pf (sampL d p o.toNat) (sampL d q o.toNat) m s m.toNat) (ps (sampL d p o.toNat) (sampL d q o.toNat) m.toNat ((sampL d p o.toNat).length - m.toNat)) 0 else tup3 0 0 2
def crossE (d o p q : Int) : AV := if sampErr d o [p, q] = 0 then tup2 (greatI (sampL d p o.toNat) (sampL d q o.toNat) 0) 0 else tup2 0 2
def sideE (d o p : Int) : AV := if sampErr d o [p] = 0 then tup2 (greatI (sampL d p o.toNat) (sampL d p o.toNat) o.toNat) 0 else tup2 0 2
section
variable {C : Ctx}
set_option maxHeartbeats 1000000 in
theorem Parts_spec (hC : Has C T170) {d o p q m s : Int} {h : Heap} (hd : In64 d) (ho : In64 o) (hp : In64 p) (hq : In64 q) (hm : In64 m) (hs : In64 s) :
    ACalls C 170 [.int .i64 d, .int .i64 o, .int .i64 p, .int .i64 q, .int .i64 m, .int .i64 s] h (fun r h' => r = partsE d o p q m s ∧ HSub h h') := by
  have hsd := fun (h : Heap) (i : Nat) (hg : h.get i = some (.cells [.int .i64 p, .int .i64 q] true 0)) => sampled_spec (hC.sub (T' := T142) (by decide)) (vp := .slice i 0 2 (.known 2)) (ps := [p, q]) (h := h) hd ho (RI.known hg ⟨rfl, by decide⟩ (by decide)) (by simp [hp, hq]) (by simp)
  unfold In64 at hm hs
  rcases sampErr_cases d o [p, q] with c | c
  · simp only [c] at hsd
    have ok := sampErr_ok c
    have hN := lenN_eq ok.1
    obtain ⟨k, rfl⟩ := Int.eq_ofNat_of_zero_le (show 0 ≤ o by omega)
    have ln1 := sampL_length d p k
    have ln2 := sampL_length d q k
    have sz1 : lenN d ≤ lenN d * k := Nat.le_mul_of_pos_right _ (by omega)
    have sz2 : lenN d * k ≤ 1023 * 8 := Nat.mul_le_mul (by omega) (by omega)
    have em : (lenN d : Int) * (k : Nat) = ((lenN d * k : Nat) : Int) := by omega
    by_cases c2 : (-1 ≤ s ∧ s ≤ 1) ∧ 0 ≤ m ∧ m ≤ ((lenN d * k : Nat) : Int) + min s 0
    · obtain ⟨i, rfl⟩ := Int.eq_ofNat_of_zero_le c2.2.1
      have e : partsE d (k : Nat) p q (i : Nat) s = tup3 (pf (sampL d p k) (sampL d q k) (i : Nat) s i) (ps (sampL d p k) (sampL d q k) i ((sampL d p k).length - i)) 0 := by
        have hok : partsOk d (k : Nat) p q (i : Nat) s := ⟨c, c2.1, c2.2.1, by rw [em]; exact c2.2.2⟩
        unfold partsE
        rw [if_pos hok]; rfl
      rw [e]
      (refine calls_intro (hC.body (by decide) tab170) (Nat.le_of_ble_eq_true rfl) ?_); (show wp C _ none B170.code _ _); (simp only [B170]); simp -implicitDefEqProofs (disch := first | assumption | decide | omega | (simp only [wpD1] <;> omega) | (simp only [wpD2] <;> assumption) | solve_by_elim [HSub.refl, HSub.push, HSub.reserve] | fail) only [↓wpPre, wpPost, wpPoly, Int.reduceToNat, Int.reducePow, Int.reduceMul, Int.reduceAdd, Int.reduceSub, Int.reduceNeg, Nat.reduceAdd, Nat.reduceMul, Nat.reducePow, Int.reduceLT, Int.reduceLE, Int.reduceEq, Nat.reduceEqDiff]
      refine ACallsK.of (hsd _ _ (get_push_eq rfl)) ?_
      rintro r h1 ⟨v, vs, rfl, s1, hcl⟩
      have hsub : HSub h h1 := (HSub.push1 _ _).trans s1
      have x := (hcl trivial).two
      obtain ⟨w1, w2, R1, R2, ix0, ix1, ld0, ld1, fx, lf⟩ := x
      rw [Int.toNat_natCast] at R1 R2
      have pp := parts_spec (hC.sub (T' := T180) (by decide)) (o1 := k) (o2 := k) (s := s) (m := i) (h := h1) R1 R2 (sampL_one1 _ _ _) (sampL_one1 _ _ _) (by omega) (by omega) c2.1 (by omega)
      simp -implicitDefEqProofs (disch := first | assumption | decide | omega | (simp only [wpD1] <;> omega) | (simp only [wpD2] <;> assumption) | solve_by_elim [HSub.refl, HSub.push, HSub.reserve] | fail) only [↓wpPre, wpPost, wpPoly, Int.reduceToNat, Int.reducePow, Int.reduceMul, Int.reduceAdd, Int.reduceSub, Int.reduceNeg, Nat.reduceAdd, Nat.reduceMul, Nat.reducePow, Int.reduceLT, Int.reduceLE, Int.reduceEq, Nat.reduceEqDiff, lstErr, ix0, ix1, fx, lf, R1.len, ln1, ld0, ld1]
      refine ACallsK.eq pp ?_
      simp -implicitDefEqProofs (disch := first | assumption | decide | omega | (simp only [wpD1] <;> omega) | (simp only [wpD2] <;> assumption) | solve_by_elim [HSub.refl, HSub.push, HSub.reserve] | fail) only [↓wpPre, wpPost, wpPoly, Int.reduceToNat, Int.reducePow, Int.reduceMul, Int.reduceAdd, Int.reduceSub, Int.reduceNeg, Nat.reduceAdd, Nat.reduceMul, Nat.reducePow, Int.reduceLT, Int.reduceLE, Int.reduceEq, Nat.reduceEqDiff, tupPP]
      exact ⟨rfl, hsub⟩
    · have e : partsE d (k : Nat) p q m s = tup3 0 0 2 := by
        have hok : ¬ partsOk d (k : Nat) p q m s := fun h => c2 ⟨h.2.1, h.2.2.1, by have := h.2.2.2; rw [em] at this; exact this⟩
        unfold partsE
        rw [if_neg hok]
      rw [e]
      (refine calls_intro (hC.body (by decide) tab170) (Nat.le_of_ble_eq_true rfl) ?_); (show wp C _ none B170.code _ _); (simp only [B170]); simp -implicitDefEqProofs (disch := first | assumption | decide | omega | (simp only [wpD1] <;> omega) | (simp only [wpD2] <;> assumption) | solve_by_elim [HSub.refl, HSub.push, HSub.reserve] | fail) only [↓wpPre, wpPost, wpPoly, Int.reduceToNat, Int.reducePow, Int.reduceMul, Int.reduceAdd, Int.reduceSub, Int.reduceNeg, Nat.reduceAdd, Nat.reduceMul, Nat.reducePow, Int.reduceLT, Int.reduceLE, Int.reduceEq, Nat.reduceEqDiff]
      refine ACallsK.of (hsd _ _ (get_push_eq rfl)) ?_
      rintro r h1 ⟨v, vs, rfl, s1, hcl⟩
      have hsub : HSub h h1 := (HSub.push1 _ _).trans s1
      have x := (hcl trivial).two
      obtain ⟨w1, w2, R1, R2, ix0, ix1, ld0, ld1, fx, lf⟩ := x
      rw [Int.toNat_natCast] at R1 R2
      simp -implicitDefEqProofs (disch := first | assumption | decide | omega | (simp only [wpD1] <;> omega) | (simp only [wpD2] <;> assumption) | solve_by_elim [HSub.refl, HSub.push, HSub.reserve] | fail) only [↓wpPre, wpPost, wpPoly, Int.reduceToNat, Int.reducePow, Int.reduceMul, Int.reduceAdd, Int.reduceSub, Int.reduceNeg, Nat.reduceAdd, Nat.reduceMul, Nat.reducePow, Int.reduceLT, Int.reduceLE, Int.reduceEq, Nat.reduceEqDiff, lstErr, ix0, fx, lf, R1.len, ln1]
      (repeat' (first | (refine Br.by (fun _ => ?_) (fun _ => ?_)) | (simp -implicitDefEqProofs (disch := first | assumption | decide | omega | (simp only [wpD1] <;> omega) | (simp only [wpD2] <;> assumption) | solve_by_elim [HSub.refl, HSub.push, HSub.reserve] | fail) only [↓wpPre, wpPost, wpPoly, Int.reduceToNat, Int.reducePow, Int.reduceMul, Int.reduceAdd, Int.reduceSub, Int.reduceNeg, Nat.reduceAdd, Nat.reduceMul, Nat.reducePow, Int.reduceLT, Int.reduceLE, Int.reduceEq, Nat.reduceEqDiff, ix0, fx, lf, R1.len, ln1])))
      all_goals first | exact ⟨rfl, hsub⟩ | (exfalso; omega)
  · simp only [c] at hsd
    have e : partsE d o p q m s = tup3 0 0 2 := by
      have hok : ¬ partsOk d o p q m s := fun h => by have := h.1; omega
      unfold partsE
      rw [if_neg hok]
    rw [e]
    (refine calls_intro (hC.body (by decide) tab170) (Nat.le_of_ble_eq_true rfl) ?_); (show wp C _ none B170.code _ _); (simp only [B170]); simp -implicitDefEqProofs (disch := first | assumption | decide | omega | (simp only [wpD1] <;> omega) | (simp only [wpD2] <;> assumption) | solve_by_elim [HSub.refl, HSub.push, HSub.reserve] | fail) only [↓wpPre, wpPost, wpPoly, Int.reduceToNat, Int.reducePow, Int.reduceMul, Int.reduceAdd, Int.reduceSub, Int.reduceNeg, Nat.reduceAdd, Nat.reduceMul, Nat.reducePow, Int.reduceLT, Int.reduceLE, Int.reduceEq, Nat.reduceEqDiff]
    refine ACallsK.of (hsd _ _ (get_push_eq rfl)) ?_
    rintro r h1 ⟨v, vs, rfl, s1, hcl⟩
    have hsub : HSub h h1 := (HSub.push1 _ _).trans s1
    simp -implicitDefEqProofs (disch := first | assumption | decide | omega | (simp only [wpD1] <;> omega) | (simp only [wpD2] <;> assumption) | solve_by_elim [HSub.refl, HSub.push, HSub.reserve] | fail) only [↓wpPre, wpPost, wpPoly, Int.reduceToNat, Int.reducePow, Int.reduceMul, Int.reduceAdd, Int.reduceSub, Int.reduceNeg, Nat.reduceAdd, Nat.reduceMul, Nat.reducePow, Int.reduceLT, Int.reduceLE, Int.reduceEq, Nat.reduceEqDiff, lstErr]
    exact ⟨rfl, hsub⟩
theorem Cross_spec (hC : Has C T173) {d o p q : Int} {h : Heap} (hd : In64 d) (ho : In64 o) (hp : In64 p) (hq : In64 q) :
    ACalls C 173 [.int .i64 d, .int .i64 o, .int .i64 p, .int .i64 q] h (fun r h' => r = crossE d o p q ∧ HSub h h') := by
  have hsd := fun (h : Heap) (i : Nat) (hg : h.get i = some (.cells [.int .i64 p, .int .i64 q] true 0)) => sampled_spec (hC.sub (T' := T142) (by decide)) (vp := .slice i 0 2 (.known 2)) (ps := [p, q]) (h := h) hd ho (RI.known hg ⟨rfl, by decide⟩ (by decide)) (by simp [hp, hq]) (by simp)
  unfold crossE
  rcases sampErr_cases d o [p, q] with c | c
  · simp only [c] at hsd
    rw [if_pos c]
    have ok := sampErr_ok c
    have hN := lenN_eq ok.1
    obtain ⟨k, rfl⟩ := Int.eq_ofNat_of_zero_le (show 0 ≤ o by omega)
    have ln1 := sampL_length d p k
    have ln2 := sampL_length d q k
    have sz1 : lenN d ≤ lenN d * k := Nat.le_mul_of_pos_right _ (by omega)
    have sz2 : lenN d * k ≤ 1023 * 8 := Nat.mul_le_mul (by omega) (by omega)
    rw [Int.toNat_natCast]
    (refine calls_intro (hC.body (by decide) tab173) (Nat.le_of_ble_eq_true rfl) ?_); (show wp C _ none B173.code _ _); (simp only [B173]); simp -implicitDefEqProofs (disch := first | assumption | decide | omega | (simp only [wpD1] <;> omega) | (simp only [wpD2] <;> assumption) | solve_by_elim [HSub.refl, HSub.push, HSub.reserve] | fail) only [↓wpPre, wpPost, wpPoly, Int.reduceToNat, Int.reducePow, Int.reduceMul, Int.reduceAdd, Int.reduceSub, Int.reduceNeg, Nat.reduceAdd, Nat.reduceMul, Nat.reducePow, Int.reduceLT, Int.reduceLE, Int.reduceEq, Nat.reduceEqDiff]
    refine ACallsK.of (hsd _ _ (get_push_eq rfl)) ?_
    rintro r h1 ⟨v, vs, rfl, s1, hcl⟩
    have hsub : HSub h h1 := (HSub.push1 _ _).trans s1
    have x := (hcl trivial).two
    obtain ⟨w1, w2, R1, R2, ix0, ix1, ld0, ld1, fx, lf⟩ := x
    rw [Int.toNat_natCast] at R1 R2
    have pp := great_spec (hC.sub (T' := T183) (by decide)) (o1 := k) (o2 := k) (mg := 0) (h := h1) R1 R2 (sampL_one1 _ _ _) (sampL_one1 _ _ _) (by omega) (by omega)
    simp -implicitDefEqProofs (disch := first | assumption | decide | omega | (simp only [wpD1] <;> omega) | (simp only [wpD2] <;> assumption) | solve_by_elim [HSub.refl, HSub.push, HSub.reserve] | fail) only [↓wpPre, wpPost, wpPoly, Int.reduceToNat, Int.reducePow, Int.reduceMul, Int.reduceAdd, Int.reduceSub, Int.reduceNeg, Nat.reduceAdd, Nat.reduceMul, Nat.reducePow, Int.reduceLT, Int.reduceLE, Int.reduceEq, Nat.reduceEqDiff, lstErr, ix0, ix1, ld0, ld1]
    refine ACallsK.eq pp ?_
    simp -implicitDefEqProofs (disch := first | assumption | decide | omega | (simp only [wpD1] <;> omega) | (simp only [wpD2] <;> assumption) | solve_by_elim [HSub.refl, HSub.push, HSub.reserve] | fail) only [↓wpPre, wpPost, wpPoly, Int.reduceToNat, Int.reducePow, Int.reduceMul, Int.reduceAdd, Int.reduceSub, Int.reduceNeg, Nat.reduceAdd, Nat.reduceMul, Nat.reducePow, Int.reduceLT, Int.reduceLE, Int.reduceEq, Nat.reduceEqDiff]
    exact ⟨rfl, hsub⟩
  · simp only [c] at hsd
    rw [if_neg (by omega)]
    (refine calls_intro (hC.body (by decide) tab173) (Nat.le_of_ble_eq_true rfl) ?_); (show wp C _ none B173.code _ _); (simp only [B173]); simp -implicitDefEqProofs (disch := first | assumption | decide | omega | (simp only [wpD1] <;> omega) | (simp only [wpD2] <;> assumption) | solve_by_elim [HSub.refl, HSub.push, HSub.reserve] | fail) only [↓wpPre, wpPost, wpPoly, Int.reduceToNat, Int.reducePow, Int.reduceMul, Int.reduceAdd, Int.reduceSub, Int.reduceNeg, Nat.reduceAdd, Nat.reduceMul, Nat.reducePow, Int.reduceLT, Int.reduceLE, Int.reduceEq, Nat.reduceEqDiff]
    refine ACallsK.of (hsd _ _ (get_push_eq rfl)) ?_
    rintro r h1 ⟨v, vs, rfl, s1, hcl⟩
    have hsub : HSub h h1 := (HSub.push1 _ _).trans s1
    simp -implicitDefEqProofs (disch := first | assumption | decide | omega | (simp only [wpD1] <;> omega) | (simp only [wpD2] <;> assumption) | solve_by_elim [HSub.refl, HSub.push, HSub.reserve] | fail) only [↓wpPre, wpPost, wpPoly, Int.reduceToNat, Int.reducePow, Int.reduceMul, Int.reduceAdd, Int.reduceSub, Int.reduceNeg, Nat.reduceAdd, Nat.reduceMul, Nat.reducePow, Int.reduceLT, Int.reduceLE, Int.reduceEq, Nat.reduceEqDiff, lstErr]
    exact ⟨rfl, hsub⟩
theorem Side_spec (hC : Has C T175) {d o p : Int} {h : Heap} (hd : In64 d) (ho : In64 o) (hp : In64 p) :
    ACalls C 175 [.int .i64 d, .int .i64 o, .int .i64 p] h (fun r h' => r = sideE d o p ∧ HSub h h') := by
  have hsd := fun (h : Heap) (i : Nat) (hg : h.get i = some (.cells [.int .i64 p] true 0)) => sampled_spec (hC.sub (T' := T142) (by decide)) (vp := .slice i 0 1 (.known 1)) (ps := [p]) (h := h) hd ho (RI.known hg ⟨rfl, by decide⟩ (by decide)) (by simp [hp]) (by simp)
  unfold sideE
  rcases sampErr_cases d o [p] with c | c
  · simp only [c] at hsd
    rw [if_pos c]
    have ok := sampErr_ok c
    have hN := lenN_eq ok.1
    obtain ⟨k, rfl⟩ := Int.eq_ofNat_of_zero_le (show 0 ≤ o by omega)
    have ln1 := sampL_length d p k
    have sz1 : lenN d ≤ lenN d * k := Nat.le_mul_of_pos_right _ (by omega)
    have sz2 : lenN d * k ≤ 1023 * 8 := Nat.mul_le_mul (by omega) (by omega)
    rw [Int.toNat_natCast]
    (refine calls_intro (hC.body (by decide) tab175) (Nat.le_of_ble_eq_true rfl) ?_); (show wp C _ none B175.code _ _); (simp only [B175]); simp -implicitDefEqProofs (disch := first | assumption | decide | omega | (simp only [wpD1] <;> omega) | (simp only [wpD2] <;> assumption) | solve_by_elim [HSub.refl, HSub.push, HSub.reserve] | fail) only [↓wpPre, wpPost, wpPoly, Int.reduceToNat, Int.reducePow, Int.reduceMul, Int.reduceAdd, Int.reduceSub, Int.reduceNeg, Nat.reduceAdd, Nat.reduceMul, Nat.reducePow, Int.reduceLT, Int.reduceLE, Int.reduceEq, Nat.reduceEqDiff]
    refine ACallsK.of (hsd _ _ (get_push_eq rfl)) ?_
    rintro r h1 ⟨v, vs, rfl, s1, hcl⟩
    have hsub : HSub h h1 := (HSub.push1 _ _).trans s1
    have x := (hcl trivial).one
    obtain ⟨w1, R1, ix0, ld0⟩ := x
    rw [Int.toNat_natCast] at R1
    have pp := great_spec (hC.sub (T' := T183) (by decide)) (o1 := k) (o2 := k) (mg := k) (h := h1) R1 R1 (sampL_one1 _ _ _) (sampL_one1 _ _ _) (by omega) (by omega)
    simp -implicitDefEqProofs (disch := first | assumption | decide | omega | (simp only [wpD1] <;> omega) | (simp only [wpD2] <;> assumption) | solve_by_elim [HSub.refl, HSub.push, HSub.reserve] | fail) only [↓wpPre, wpPost, wpPoly, Int.reduceToNat, Int.reducePow, Int.reduceMul, Int.reduceAdd, Int.reduceSub, Int.reduceNeg, Nat.reduceAdd, Nat.reduceMul, Nat.reducePow, Int.reduceLT, Int.reduceLE, Int.reduceEq, Nat.reduceEqDiff, lstErr, ix0, ld0]
    refine ACallsK.eq pp ?_
    simp -implicitDefEqProofs (disch := first | assumption | decide | omega | (simp only [wpD1] <;> omega) | (simp only [wpD2] <;> assumption) | solve_by_elim [HSub.refl, HSub.push, HSub.reserve] | fail) only [↓wpPre, wpPost, wpPoly, Int.reduceToNat, Int.reducePow, Int.reduceMul, Int.reduceAdd, Int.reduceSub, Int.reduceNeg, Nat.reduceAdd, Nat.reduceMul, Nat.reducePow, Int.reduceLT, Int.reduceLE, Int.reduceEq, Nat.reduceEqDiff]
    exact ⟨rfl, hsub⟩
  · simp only [c] at hsd
    rw [if_neg (by omega)]
    (refine calls_intro (hC.body (by decide) tab175) (Nat.le_of_ble_eq_true rfl) ?_); (show wp C _ none B175.code _ _); (simp only [B175]); simp -implicitDefEqProofs (disch := first | assumption | decide | omega | (simp only [wpD1] <;> omega) | (simp only [wpD2] <;> assumption) | solve_by_elim [HSub.refl, HSub.push, HSub.reserve] | fail) only [↓wpPre, wpPost, wpPoly, Int.reduceToNat, Int.reducePow, Int.reduceMul, Int.reduceAdd, Int.reduceSub, Int.reduceNeg, Nat.reduceAdd, Nat.reduceMul, Nat.reducePow, Int.reduceLT, Int.reduceLE, Int.reduceEq, Nat.reduceEqDiff]
    refine ACallsK.of (hsd _ _ (get_push_eq rfl)) ?_
    rintro r h1 ⟨v, vs, rfl, s1, hcl⟩
    have hsub : HSub h h1 := (HSub.push1 _ _).trans s1
    simp -implicitDefEqProofs (disch := first | assumption | decide | omega | (simp only [wpD1] <;> omega) | (simp only [wpD2] <;> assumption) | solve_by_elim [HSub.refl, HSub.push, HSub.reserve] | fail) only [↓wpPre, wpPost, wpPoly, Int.reduceToNat, Int.reducePow, Int.reduceMul, Int.reduceAdd, Int.reduceSub, Int.reduceNeg, Nat.reduceAdd, Nat.reduceMul, Nat.reducePow, Int.reduceLT, Int.reduceLE, Int.reduceEq, Nat.reduceEqDiff, lstErr]
    exact ⟨rfl, hsub⟩
end
end Go.Ae

/- The spectrum of two codes, of the program. -/
set_option linter.unusedSimpArgs false
set_option linter.unusedVariables false
namespace Go.Ae
theorem GrwS.at {h0 h : Heap} {v : AV} {l : List (Int × Int)} (A : GrwS h0 h v l) (hl : 0 < l.length) : ∃ i ex, h0.size ≤ i ∧ v = .slice i 0 l.length (.unk 0) ∧ h.get i = some (.cells (smps l ++ ex) true 2) := by
  obtain ⟨_, _, _, ⟨_, h1⟩ | ⟨i, ex, hi, hv, hg⟩⟩ := A
  · omega
  · exact ⟨i, ex, hi, hv, hg⟩
theorem GrwS.turn {h0 h : Heap} {i : Nat} {l : List (Int × Int)} {ex : List AV} {k : Nat} {x y : Int} (A : GrwS h0 h (.slice i 0 l.length (.unk 0)) l) (hi : h0.size ≤ i) (hg : h.get i = some (.cells (smps l ++ ex) true 2)) (hk : k < l.length) (hx : (l.getD k (0, 0)).1 = x) :
    (smps l ++ ex).set (k * 2 + 1) (.int .i64 y) = smps (l.set k (x, y)) ++ ex ∧ GrwS h0 (h.put i (.cells (smps (l.set k (x, y)) ++ ex) true 2)) (.slice i 0 l.length (.unk 0)) (l.set k (x, y)) := by
  have hlt := Heap.lt_of_get hg
  have hle : (l.set k (x, y)).length = l.length := List.length_set
  refine ⟨?_, ⟨A.sub.put hi _, smps_length, by have := A.2.2.1; omega, .inr ⟨i, ex, hi, by rw [hle], get_put_eq rfl hlt⟩⟩⟩
  rw [List.set_append_left _ _ (by rw [smps_length]; omega)]
  congr 1
  clear A hg hi hlt hle
  induction l generalizing k with
  | nil => simp at hk
  | cons p l ih =>
    cases k with
    | zero =>
      simp only [List.getD_cons_zero] at hx
      rw [smps_cons, List.set_cons_zero, smps_cons, hx]; rfl
    | succ k =>
      rw [List.getD_cons_succ] at hx
      rw [show (k + 1) * 2 + 1 = k * 2 + 1 + 1 + 1 by omega, smps_cons, List.set_cons_succ, List.set_cons_succ, List.set_cons_succ, smps_cons, ih (by simpa using hk) hx]
theorem CLs.twoF {h : Heap} {v : AV} {d o p q : Int} {vs : List AV} (H : CLs h v d o [p, q] vs) : ∃ w1 w2, RI h w1 (sampL d p o.toNat) ∧ RI h w2 (sampL d q o.toNat) ∧ idxA 2 v (.int .i64 0) = some (elA 2 v 0) ∧ idxA 2 v (.int .i64 1) = some (elA 2 v 1) ∧
    fieldAddrA 0 (elA 2 v 0) = some (elF 2 v 0 0) ∧ fieldAddrA 0 (elA 2 v 1) = some (elF 2 v 1 0) ∧ Ae.loadA h false 1 (elF 2 v 0 0) = some w1 ∧ Ae.loadA h false 1 (elF 2 v 1 0) = some w2 := by
  obtain ⟨w1, w2, rfl⟩ : ∃ w1 w2, vs = [w1, w2] := by
    have := H.len
    match vs, this with
    | [a, b], _ => exact ⟨a, b, rfl⟩
  have lf := H.sl.loadE (k := 0) (off := 0) (by simp) (by decide)
  have lg := H.sl.loadE (k := 1) (off := 0) (by simp) (by decide)
  exact ⟨w1, w2, H.ri 0 (by simp), H.ri 1 (by simp), H.sl.idx (k := 0) (by simp), H.sl.idx (k := 1) (by simp), H.sl.fldE 0 0 (by simp), H.sl.fldE 1 0 (by simp), lf, lg⟩
def specOut (d p q : Int) : List (Int × Int) := rleL (sortL (circ (sampL d p 1) (sampL d q 1))) (lenN d)
theorem one1_bigs {l : List Int} (h : one1 l) : l.any bigs = false := by
  rw [List.any_eq_false]
  intro x hx
  have := h x hx
  unfold bigs
  simp
  omega
section
variable {C : Ctx}
set_option maxHeartbeats 2000000 in
theorem Spectrum_spec (hC : Has C T164) (hS : SortOk C 178) {d p q : Int} {h : Heap} (hd : In64 d) (hp : In64 p) (hq : In64 q) :
    ACalls C 164 [.int .i64 d, .int .i64 p, .int .i64 q] h (fun r h' => ∃ v, r = lstErr v (sampErr d 1 [p, q]) ∧ HSub h h' ∧ SI h' v (if sampErr d 1 [p, q] = 0 then specOut d p q else [])) := by
  have hsd := fun (h : Heap) (i : Nat) (hg : h.get i = some (.cells [.int .i64 p, .int .i64 q] true 0)) => sampled_spec (hC.sub (T' := T142) (by decide)) (vp := .slice i 0 2 (.known 2)) (ps := [p, q]) (h := h) hd (show In64 1 by unfold In64; omega) (RI.known hg ⟨rfl, by decide⟩ (by decide)) (by simp [hp, hq]) (by simp)
  rcases sampErr_cases d 1 [p, q] with c | c
  · simp only [c] at hsd
    rw [c, if_pos rfl]
    have ok := sampErr_ok c
    have hN := lenN_eq ok.1
    have ln1 := sampL_length d p 1
    have ln2 := sampL_length d q 1
    rw [Nat.mul_one] at ln1 ln2
    have ce : circErr (sampL d p 1) (sampL d q 1) = 0 := by
      unfold circErr
      rw [if_neg (by omega), if_neg (by omega), if_neg (by omega), if_neg (by rw [one1_bigs (sampL_one1 _ _ _), one1_bigs (sampL_one1 _ _ _)]; simp)]
    have cl := circ_length (sampL d p 1) (sampL d q 1)
    rw [ln1] at cl
    obtain ⟨l, hl⟩ : ∃ l, l = circ (sampL d p 1) (sampL d q 1) := ⟨_, rfl⟩
    have lle : l.length = lenN d := by rw [hl, cl]
    have so : specOut d p q = rleL (sortL l) l.length := by unfold specOut; rw [hl.symm, lle]
    rw [so]
    have sll : (sortL l).length = l.length := by unfold sortL; rw [List.length_mergeSort]
    (refine calls_intro (hC.body (by decide) tab164) (Nat.le_of_ble_eq_true rfl) ?_); (show wp C _ none B164.code _ _); (simp only [B164]); simp -implicitDefEqProofs (disch := first | assumption | decide | omega | (simp only [wpD1] <;> omega) | (simp only [wpD2] <;> assumption) | solve_by_elim [HSub.refl, HSub.push, HSub.reserve] | fail) only [↓wpPre, wpPost, wpPoly, Int.reduceToNat, Int.reducePow, Int.reduceMul, Int.reduceAdd, Int.reduceSub, Int.reduceNeg, Nat.reduceAdd, Nat.reduceMul, Nat.reducePow, Int.reduceLT, Int.reduceLE, Int.reduceEq, Nat.reduceEqDiff]
    refine ACallsK.of (hsd _ _ (get_push_eq rfl)) ?_
    rintro r h1 ⟨v, vs, rfl, s1, hcl⟩
    have hsub : HSub h h1 := (HSub.push1 _ _).trans s1
    have x := (hcl trivial).twoF
    obtain ⟨w1, w2, R1, R2, ix0, ix1, fx, fx1, lf, lf1⟩ := x
    rw [show (1 : Int).toNat = 1 from rfl] at R1 R2
    have hcirc := CircP_specF (hC.sub (T' := T25) (by decide)) (h := h1) R1 R2
    rw [ce] at hcirc
    simp -implicitDefEqProofs (disch := first | assumption | decide | omega | (simp only [wpD1] <;> omega) | (simp only [wpD2] <;> assumption) | solve_by_elim [HSub.refl, HSub.push, HSub.reserve] | fail) only [↓wpPre, wpPost, wpPoly, Int.reduceToNat, Int.reducePow, Int.reduceMul, Int.reduceAdd, Int.reduceSub, Int.reduceNeg, Nat.reduceAdd, Nat.reduceMul, Nat.reducePow, Int.reduceLT, Int.reduceLE, Int.reduceEq, Nat.reduceEqDiff, lstErr, ix0, ix1, fx, fx1, lf, lf1]
    refine ACallsK.of hcirc ?_
    rintro r h2 ⟨v2, rfl, s2, _, F0⟩
    have F := F0 rfl
    rw [← hl] at F
    obtain ⟨_, _, i2, hi2, rfl, g2⟩ := F
    have l2 := Heap.lt_of_get g2
    have srt := sortA_spec (c := .known l.length) hS g2 (by rw [hl, cl]; omega)
    simp -implicitDefEqProofs (disch := first | assumption | decide | omega | (simp only [wpD1] <;> omega) | (simp only [wpD2] <;> assumption) | solve_by_elim [HSub.refl, HSub.push, HSub.reserve] | fail) only [↓wpPre, wpPost, wpPoly, Int.reduceToNat, Int.reducePow, Int.reduceMul, Int.reduceAdd, Int.reduceSub, Int.reduceNeg, Nat.reduceAdd, Nat.reduceMul, Nat.reducePow, Int.reduceLT, Int.reduceLE, Int.reduceEq, Nat.reduceEqDiff, lstErr]
    refine ACallsK.eq srt ?_
    have g3 : (h2.put i2 (.cells (ints (sortL l)) true 0)).get i2 = some (.cells (ints (sortL l)) true 0) := get_put_eq rfl l2
    have R3 : RI (h2.put i2 (.cells (ints (sortL l)) true 0)) (.slice i2 0 l.length (.known l.length)) (sortL l) := RI.known g3 ⟨sll.symm, by omega⟩ (Nat.le_refl _)
    have hsub3 : HSub h (h2.put i2 (.cells (ints (sortL l)) true 0)) := (hsub.trans s2).put (by have := hsub.size; omega) _
    simp -implicitDefEqProofs (disch := first | assumption | decide | omega | (simp only [wpD1] <;> omega) | (simp only [wpD2] <;> assumption) | solve_by_elim [HSub.refl, HSub.push, HSub.reserve] | fail) only [↓wpPre, wpPost, wpPoly, Int.reduceToNat, Int.reducePow, Int.reduceMul, Int.reduceAdd, Int.reduceSub, Int.reduceNeg, Nat.reduceAdd, Nat.reduceMul, Nat.reducePow, Int.reduceLT, Int.reduceLE, Int.reduceEq, Nat.reduceEqDiff]
    refine wp_loopI (fun j t h' => ∃ k : Nat, GrwS (h2.put i2 (.cells (ints (sortL l)) true 0)) h' (t 12) (rleL (sortL l) k) ∧ t 41 = .slice i2 0 l.length (.known l.length) ∧ t 42 = .int .i64 (l.length : Nat) ∧ t 43 = .int .i64 (k : Nat) ∧ k ≤ l.length ∧ j = l.length - k) (j0 := l.length)
      ⟨0, GrwS.nil _, rfl, rfl, rfl, by omega, rfl⟩ ?_
    rintro j t h4 ⟨k, A, e41, e42, e43, hk, hj⟩
    simp -implicitDefEqProofs (disch := first | assumption | decide | omega | (simp only [wpD1] <;> omega) | (simp only [wpD2] <;> assumption) | solve_by_elim [HSub.refl, HSub.push, HSub.reserve] | fail) only [↓wpPre, wpPost, wpPoly, Int.reduceToNat, Int.reducePow, Int.reduceMul, Int.reduceAdd, Int.reduceSub, Int.reduceNeg, Nat.reduceAdd, Nat.reduceMul, Nat.reducePow, Int.reduceLT, Int.reduceLE, Int.reduceEq, Nat.reduceEqDiff, e42, e43]
    refine Br.by (fun c1 => ?_) (fun c1 => ?_)
    · have hk' : k < l.length := by omega
      have g4 : h4.get i2 = some (.cells (ints (sortL l)) true 0) := (A.sub.get _ (by simpa using l2)).trans g3
      have ld : (ints (sortL l))[k]? = some (.int .i64 ((sortL l).getD k 0)) := ints_get (by omega)
      have rl := rleL_len (sortL l) k
      have rp := rleL_pos (sortL l) k
      have rs := rleL_succ (l := sortL l) (k := k) (by omega)
      have xy : ∃ y, y = (sortL l).getD k 0 := ⟨_, rfl⟩
      obtain ⟨y, hy⟩ := xy
      rw [← hy] at ld rs
      have A' := A
      unfold stepR at rs
      by_cases c2 : 0 < (rleL (sortL l) k).length
      · have x3 := A.at c2
        obtain ⟨i, ex, hi, hv, hg⟩ := x3
        have xm : ∃ m, (rleL (sortL l) k).length = m + 1 := ⟨(rleL (sortL l) k).length - 1, by omega⟩
        obtain ⟨m, hm⟩ := xm
        rw [hm, Nat.add_sub_cancel] at rs
        rw [hm] at hv
        have P := rp _ (getP_mem (k := m) (by omega))
        have q0 : (smps (rleL (sortL l) k) ++ ex)[m * 2]? = some (.int .i64 ((rleL (sortL l) k).getD m (0, 0)).1) := by
          rw [List.getElem?_append_left (by rw [smps_length]; omega), smps_get0, List.getElem?_eq_getElem (by omega)]; simp [show m < (rleL (sortL l) k).length by omega]
        have q1 : (smps (rleL (sortL l) k) ++ ex)[m * 2 + 1]? = some (.int .i64 ((rleL (sortL l) k).getD m (0, 0)).2) := by
          rw [List.getElem?_append_left (by rw [smps_length]; omega), smps_get1, List.getElem?_eq_getElem (by omega)]; simp [show m < (rleL (sortL l) k).length by omega]
        have hlt := Heap.lt_of_get hg
        have em : ((m + 1 : Nat) : Int) - 1 = (m : Nat) := by omega
        have wl : (smps (rleL (sortL l) k) ++ ex).length = (m + 1) * 2 + ex.length := by rw [List.length_append, smps_length, hm]
        by_cases c3 : ((rleL (sortL l) k).getD m (0, 0)).1 = y
        · rw [if_pos ⟨by omega, c3⟩] at rs
          rw [hv] at A'
          have At := (hm ▸ A').turn (y := ((rleL (sortL l) k).getD m (0, 0)).2 + 1) hi hg (by omega) c3
          simp -implicitDefEqProofs (disch := first | assumption | decide | omega | (simp only [wpD1] <;> omega) | (simp only [wpD2] <;> assumption) | solve_by_elim [HSub.refl, HSub.push, HSub.reserve] | fail) only [↓wpPre, wpPost, wpPoly, Int.reduceToNat, Int.reducePow, Int.reduceMul, Int.reduceAdd, Int.reduceSub, Int.reduceNeg, Nat.reduceAdd, Nat.reduceMul, Nat.reducePow, Int.reduceLT, Int.reduceLE, Int.reduceEq, Nat.reduceEqDiff, e41, e43, g4, ld, hv, hg, q0, q1, c3, em, At.1, e42]
          exact ⟨_, ⟨k + 1, by rw [rs]; have q2 := At.2; rw [hm] at q2; exact q2, by simp, by omega, rfl⟩, by omega⟩
        · rw [if_neg (fun h => c3 h.2)] at rs
          have sl := A.snoc (x := y) (y := 1) (HSub.push1 h4 (.cells [.int .i64 y, .int .i64 1] true 0)) (by omega)
          rw [← rs] at sl
          have ap := A.app (x := y) (y := 1)
          rw [← rs, hm] at ap
          rw [hm] at sl
          have ne : ¬ ((rleL (sortL l) k).getD m (0, 0)).1 = y := c3
          rw [hv] at ap sl
          simp -implicitDefEqProofs (disch := first | assumption | decide | omega | (simp only [wpD1] <;> omega) | (simp only [wpD2] <;> assumption) | solve_by_elim [HSub.refl, HSub.push, HSub.reserve] | fail) only [↓wpPre, wpPost, wpPoly, Int.reduceToNat, Int.reducePow, Int.reduceMul, Int.reduceAdd, Int.reduceSub, Int.reduceNeg, Nat.reduceAdd, Nat.reduceMul, Nat.reducePow, Int.reduceLT, Int.reduceLE, Int.reduceEq, Nat.reduceEqDiff, e41, e43, g4, ld, hv, hg, q0, q1, em, cont_slice, contB_two, ap, e42]
          exact ⟨_, ⟨k + 1, sl, by simp, by omega, rfl⟩, by omega⟩
      · have z0 : (rleL (sortL l) k).length = 0 := by omega
        rw [if_neg (fun h => c2 h.1)] at rs
        have ap := A.app (x := y) (y := 1)
        have sl := A.snoc (x := y) (y := 1) (HSub.push1 h4 (.cells [.int .i64 y, .int .i64 1] true 0)) (by omega)
        rw [← rs] at sl ap
        have lv := A.si.len
        rw [z0] at lv
        simp -implicitDefEqProofs (disch := first | assumption | decide | omega | (simp only [wpD1] <;> omega) | (simp only [wpD2] <;> assumption) | solve_by_elim [HSub.refl, HSub.push, HSub.reserve] | fail) only [↓wpPre, wpPost, wpPoly, Int.reduceToNat, Int.reducePow, Int.reduceMul, Int.reduceAdd, Int.reduceSub, Int.reduceNeg, Nat.reduceAdd, Nat.reduceMul, Nat.reducePow, Int.reduceLT, Int.reduceLE, Int.reduceEq, Nat.reduceEqDiff, e41, e43, g4, ld, lv, cont_slice, contB_two, ap, e42]
        exact ⟨_, ⟨k + 1, sl, by simp, by omega, rfl⟩, by omega⟩
    · have ek : k = l.length := by omega
      subst ek
      simp -implicitDefEqProofs (disch := first | assumption | decide | omega | (simp only [wpD1] <;> omega) | (simp only [wpD2] <;> assumption) | solve_by_elim [HSub.refl, HSub.push, HSub.reserve] | fail) only [↓wpPre, wpPost, wpPoly, Int.reduceToNat, Int.reducePow, Int.reduceMul, Int.reduceAdd, Int.reduceSub, Int.reduceNeg, Nat.reduceAdd, Nat.reduceMul, Nat.reducePow, Int.reduceLT, Int.reduceLE, Int.reduceEq, Nat.reduceEqDiff]
      exact ⟨_, rfl, hsub3.trans A.sub, A.si⟩
  · simp only [c] at hsd
    rw [c, if_neg (by decide)]
    (refine calls_intro (hC.body (by decide) tab164) (Nat.le_of_ble_eq_true rfl) ?_); (show wp C _ none B164.code _ _); (simp only [B164]); simp -implicitDefEqProofs (disch := first | assumption | decide | omega | (simp only [wpD1] <;> omega) | (simp only [wpD2] <;> assumption) | solve_by_elim [HSub.refl, HSub.push, HSub.reserve] | fail) only [↓wpPre, wpPost, wpPoly, Int.reduceToNat, Int.reducePow, Int.reduceMul, Int.reduceAdd, Int.reduceSub, Int.reduceNeg, Nat.reduceAdd, Nat.reduceMul, Nat.reducePow, Int.reduceLT, Int.reduceLE, Int.reduceEq, Nat.reduceEqDiff]
    refine ACallsK.of (hsd _ _ (get_push_eq rfl)) ?_
    rintro r h1 ⟨v, vs, rfl, s1, hcl⟩
    have hsub : HSub h h1 := (HSub.push1 _ _).trans s1
    simp -implicitDefEqProofs (disch := first | assumption | decide | omega | (simp only [wpD1] <;> omega) | (simp only [wpD2] <;> assumption) | solve_by_elim [HSub.refl, HSub.push, HSub.reserve] | fail) only [↓wpPre, wpPost, wpPoly, Int.reduceToNat, Int.reducePow, Int.reduceMul, Int.reduceAdd, Int.reduceSub, Int.reduceNeg, Nat.reduceAdd, Nat.reduceMul, Nat.reducePow, Int.reduceLT, Int.reduceLE, Int.reduceEq, Nat.reduceEqDiff, lstErr]
    exact ⟨_, rfl, hsub, SI.nil⟩
end
end Go.Ae

/- The spectrum of two codes, of the reference. -/
set_option linter.unusedSimpArgs false
set_option linter.unusedVariables false
namespace Go.Ae
theorem sampL_one (d p : Int) : sampL d p 1 = codeL d p := by
  unfold sampL
  induction codeL d p with
  | nil => rfl
  | cons x l ih => rw [List.map_cons, List.flatten_cons, ih]; rfl
theorem cs_one1 {a b : List Int} (oa : one1 a) (ob : one1 b) (k : Nat) : ∀ i : Nat, -(i : Int) ≤ cs a b k i ∧ cs a b k i ≤ i
  | 0 => by simp [cs]
  | i + 1 => by
    have ih := cs_one1 oa ob k i
    have := mul_one1 (oa.get i) (ob.get ((i + k) % b.length))
    rw [cs]; omega
theorem circ_in {a b : List Int} (oa : one1 a) (ob : one1 b) : ∀ x ∈ circ a b, -(a.length : Int) ≤ x ∧ x ≤ a.length := by
  intro x hx
  obtain ⟨k, _, rfl⟩ := List.mem_map.1 hx
  exact cs_one1 oa ob k _
theorem specOut_eq (d p q : Int) : specOut d p q = specK (circ (codeL d p) (codeL d q)) (lenN d) (2 * lenN d + 1) := by
  unfold specOut
  rw [sampL_one, sampL_one]
  have oa : one1 (codeL d p) := codeL_range
  have ob : one1 (codeL d q) := codeL_range
  have := rle_spec (l := circ (codeL d p) (codeL d q)) (n := lenN d) (by have := circ_in oa ob; rwa [codeL_length] at this)
  rw [circ_length, codeL_length] at this
  exact this
theorem codeErr_cases (d p : Int) : codeErr d p = 0 ∨ codeErr d p = 2 := by unfold codeErr; split <;> simp
section
variable {C : Ctx}
end
end Go.Ae

/- Samples, Parts, Side and Cross, of the reference. -/
set_option linter.unusedSimpArgs false
set_option linter.unusedVariables false
namespace Go.Ae
section
variable {C : Ctx}
def sampK (d p : Int) (o k : Nat) : List Int := (List.range k).map fun i => (codeL d p).getD (i / o) 0
end
end Go.Ae

/- Lists of lists of numbers, read and compared; pairs as lists. -/
set_option linter.unusedSimpArgs false
set_option linter.unusedVariables false
namespace Go.Ae
def LLI (h : Heap) (v : AV) (ll : List (List Int)) : Prop := ∃ vs : List AV, SL h 1 v ll.length vs ∧ vs.length = ll.length ∧ ∀ i, i < ll.length → RI h (vs.getD i .nilslice) (ll.getD i [])
theorem LLI.mono {h h' : Heap} {v : AV} {ll : List (List Int)} (H : LLI h v ll) (hs : HSub h h') : LLI h' v ll := by
  obtain ⟨vs, a, b, c⟩ := H
  exact ⟨vs, a.mono hs, b, fun i hi => (c i hi).mono hs⟩
theorem LLI.len {h : Heap} {v : AV} {ll : List (List Int)} (H : LLI h v ll) : lenA v = some (.int .i64 ll.length) := by obtain ⟨vs, a, _, _⟩ := H; exact a.len
theorem LLI.nil {h : Heap} : LLI h .nilslice [] := ⟨[], ⟨rfl, by decide, .inl ⟨rfl, rfl⟩⟩, rfl, fun i hi => by simp at hi⟩
theorem LLI.at {h : Heap} {v : AV} {ll : List (List Int)} (H : LLI h v ll) {i : Nat} (hi : i < ll.length) : ∃ w, idxA 1 v (.int .i64 (i : Nat)) = some (elA 1 v i) ∧ loadA h false 1 (elA 1 v i) = some w ∧ RI h w (ll.getD i []) := by
  obtain ⟨vs, a, b, c⟩ := H
  refine ⟨vs.getD i .nilslice, a.idx ⟨by omega, by omega⟩, ?_, c i hi⟩
  rw [SL.load1 a hi]
  simp [show i < vs.length by omega]
section
variable {C : Ctx}
theorem lists_spec (hC : Has C T166) {va vb : AV} {A B : List (List Int)} {h : Heap} (ha : LLI h va A) (hb : LLI h vb B) : ACalls C 166 [va, vb] h (fun r h' => r = .bool (decide (A = B)) ∧ h' = h) := by
  have l1 : A.length < 9223372036854775808 := by obtain ⟨_, a, _⟩ := ha; exact a.lt
  have l2 : B.length < 9223372036854775808 := by obtain ⟨_, a, _⟩ := hb; exact a.lt
  (refine calls_intro (hC.body (by decide) tab166) (Nat.le_of_ble_eq_true rfl) ?_); (show wp C _ none B166.code _ _); (simp only [B166]); simp -implicitDefEqProofs (disch := first | assumption | decide | omega | (simp only [wpD1] <;> omega) | (simp only [wpD2] <;> assumption) | solve_by_elim [HSub.refl, HSub.push, HSub.reserve] | fail) only [↓wpPre, wpPost, wpPoly, Int.reduceToNat, Int.reducePow, Int.reduceMul, Int.reduceAdd, Int.reduceSub, Int.reduceNeg, Nat.reduceAdd, Nat.reduceMul, Nat.reducePow, Int.reduceLT, Int.reduceLE, Int.reduceEq, Nat.reduceEqDiff, ha.len, hb.len]
  refine Br.by (fun c => ?_) (fun c => ?_)
  · simp -implicitDefEqProofs (disch := first | assumption | decide | omega | (simp only [wpD1] <;> omega) | (simp only [wpD2] <;> assumption) | solve_by_elim [HSub.refl, HSub.push, HSub.reserve] | fail) only [↓wpPre, wpPost, wpPoly, Int.reduceToNat, Int.reducePow, Int.reduceMul, Int.reduceAdd, Int.reduceSub, Int.reduceNeg, Nat.reduceAdd, Nat.reduceMul, Nat.reducePow, Int.reduceLT, Int.reduceLE, Int.reduceEq, Nat.reduceEqDiff]
    have : A ≠ B := fun e => by subst e; omega
    simp [this]
  · simp -implicitDefEqProofs (disch := first | assumption | decide | omega | (simp only [wpD1] <;> omega) | (simp only [wpD2] <;> assumption) | solve_by_elim [HSub.refl, HSub.push, HSub.reserve] | fail) only [↓wpPre, wpPost, wpPoly, Int.reduceToNat, Int.reducePow, Int.reduceMul, Int.reduceAdd, Int.reduceSub, Int.reduceNeg, Nat.reduceAdd, Nat.reduceMul, Nat.reducePow, Int.reduceLT, Int.reduceLE, Int.reduceEq, Nat.reduceEqDiff]
    refine wp_loopI (fun j t h' => h' = h ∧ t 0 = va ∧ t 1 = vb ∧ ∃ i : Nat, t 5 = .int .i64 (i : Nat) ∧ i ≤ A.length ∧ A.take i = B.take i ∧ j = A.length - i) ⟨rfl, rfl, rfl, 0, rfl, by omega, by simp, rfl⟩ ?_
    rintro j t h' ⟨rfl, e0, e1, i, e5, hi, hp, hj⟩
    simp -implicitDefEqProofs (disch := first | assumption | decide | omega | (simp only [wpD1] <;> omega) | (simp only [wpD2] <;> assumption) | solve_by_elim [HSub.refl, HSub.push, HSub.reserve] | fail) only [↓wpPre, wpPost, wpPoly, Int.reduceToNat, Int.reducePow, Int.reduceMul, Int.reduceAdd, Int.reduceSub, Int.reduceNeg, Nat.reduceAdd, Nat.reduceMul, Nat.reducePow, Int.reduceLT, Int.reduceLE, Int.reduceEq, Nat.reduceEqDiff, e0, e1, e5, ha.len]
    refine Br.by (fun c1 => ?_) (fun c1 => ?_)
    · have i1 : i < A.length := by omega
      have i2 : i < B.length := by omega
      have x1 := ha.at i1
      obtain ⟨w1, ix1, ld1, R1⟩ := x1
      have x2 := hb.at i2
      obtain ⟨w2, ix2, ld2, R2⟩ := x2
      simp -implicitDefEqProofs (disch := first | assumption | decide | omega | (simp only [wpD1] <;> omega) | (simp only [wpD2] <;> assumption) | solve_by_elim [HSub.refl, HSub.push, HSub.reserve] | fail) only [↓wpPre, wpPost, wpPoly, Int.reduceToNat, Int.reducePow, Int.reduceMul, Int.reduceAdd, Int.reduceSub, Int.reduceNeg, Nat.reduceAdd, Nat.reduceMul, Nat.reducePow, Int.reduceLT, Int.reduceLE, Int.reduceEq, Nat.reduceEqDiff, e0, e1, e5, ix1, ix2, ld1, ld2]
      refine ACallsK.eq (Equal_spec (hC.sub (T' := T12) (by decide)) R1 R2) ?_
      by_cases c2 : A.getD i [] = B.getD i []
      · rw [decide_eq_true c2]
        simp -implicitDefEqProofs (disch := first | assumption | decide | omega | (simp only [wpD1] <;> omega) | (simp only [wpD2] <;> assumption) | solve_by_elim [HSub.refl, HSub.push, HSub.reserve] | fail) only [↓wpPre, wpPost, wpPoly, Int.reduceToNat, Int.reducePow, Int.reduceMul, Int.reduceAdd, Int.reduceSub, Int.reduceNeg, Nat.reduceAdd, Nat.reduceMul, Nat.reducePow, Int.reduceLT, Int.reduceLE, Int.reduceEq, Nat.reduceEqDiff, e0, e1, e5]
        refine ⟨_, ⟨i + 1, by simp, by omega, ?_, rfl⟩, by omega⟩
        rw [List.take_succ_eq_append_getElem i1, List.take_succ_eq_append_getElem i2, hp]
        simp only [List.getD_eq_getElem?_getD, List.getElem?_eq_getElem i1, List.getElem?_eq_getElem i2, Option.getD_some] at c2
        rw [c2]
      · rw [decide_eq_false c2]
        simp -implicitDefEqProofs (disch := first | assumption | decide | omega | (simp only [wpD1] <;> omega) | (simp only [wpD2] <;> assumption) | solve_by_elim [HSub.refl, HSub.push, HSub.reserve] | fail) only [↓wpPre, wpPost, wpPoly, Int.reduceToNat, Int.reducePow, Int.reduceMul, Int.reduceAdd, Int.reduceSub, Int.reduceNeg, Nat.reduceAdd, Nat.reduceMul, Nat.reducePow, Int.reduceLT, Int.reduceLE, Int.reduceEq, Nat.reduceEqDiff]
        have : A ≠ B := fun e => c2 (by rw [e])
        simp [this]
    · simp -implicitDefEqProofs (disch := first | assumption | decide | omega | (simp only [wpD1] <;> omega) | (simp only [wpD2] <;> assumption) | solve_by_elim [HSub.refl, HSub.push, HSub.reserve] | fail) only [↓wpPre, wpPost, wpPoly, Int.reduceToNat, Int.reducePow, Int.reduceMul, Int.reduceAdd, Int.reduceSub, Int.reduceNeg, Nat.reduceAdd, Nat.reduceMul, Nat.reducePow, Int.reduceLT, Int.reduceLE, Int.reduceEq, Nat.reduceEqDiff]
      have e1 : i = A.length := by omega
      subst e1
      rw [List.take_of_length_le (by omega), List.take_of_length_le (by omega)] at hp
      simp [hp]
def pairL (l : List (Int × Int)) : List (List Int) := l.map fun p => [p.1, p.2]
def Two (h0 h : Heap) (v w : AV) (p : Int × Int) : Prop := ∃ j, h0.size ≤ j ∧ w = .slice j 0 2 (.known 2) ∧ h.get j = some (.cells [.int .i64 p.1, .int .i64 p.2] true 0) ∧ j ∉ v.ids
set_option maxHeartbeats 1000000 in
theorem pairs_spec (hC : Has C T167) {v : AV} {l : List (Int × Int)} {h : Heap} (hl : SI h v l) (hll : l.length ≤ 1000000) : ACalls C 167 [v] h (fun r h' => HSub h h' ∧ LLI h' r (pairL l)) := by
  have hlt := hl.lt
  (refine calls_intro (hC.body (by decide) tab167) (Nat.le_of_ble_eq_true rfl) ?_); (show wp C _ none B167.code _ _); (simp only [B167]); simp -implicitDefEqProofs (disch := first | assumption | decide | omega | (simp only [wpD1] <;> omega) | (simp only [wpD2] <;> assumption) | solve_by_elim [HSub.refl, HSub.push, HSub.reserve] | fail) only [↓wpPre, wpPost, wpPoly, Int.reduceToNat, Int.reducePow, Int.reduceMul, Int.reduceAdd, Int.reduceSub, Int.reduceNeg, Nat.reduceAdd, Nat.reduceMul, Nat.reducePow, Int.reduceLT, Int.reduceLE, Int.reduceEq, Nat.reduceEqDiff]
  refine wp_loopI (fun j t h' => ∃ (k : Nat) (vs : List AV), Grw h h' 1 (t 3) k vs ∧ vs.length = k ∧ (∀ i, i < k → Two h h' (t 3) (vs.getD i .nilslice) (l.getD i (0, 0))) ∧ t 0 = v ∧ t 4 = .int .i64 (k : Nat) ∧ k ≤ l.length ∧ j = l.length - k) (j0 := l.length)
    ⟨0, [], Grw.nil _ _, rfl, fun i hi => by omega, rfl, rfl, by omega, rfl⟩ ?_
  rintro j t h1 ⟨k, vs, A, hvl, hvs, e0, e4, hk, hj⟩
  have hl1 := hl.mono A.sub
  simp -implicitDefEqProofs (disch := first | assumption | decide | omega | (simp only [wpD1] <;> omega) | (simp only [wpD2] <;> assumption) | solve_by_elim [HSub.refl, HSub.push, HSub.reserve] | fail) only [↓wpPre, wpPost, wpPoly, Int.reduceToNat, Int.reducePow, Int.reduceMul, Int.reduceAdd, Int.reduceSub, Int.reduceNeg, Nat.reduceAdd, Nat.reduceMul, Nat.reducePow, Int.reduceLT, Int.reduceLE, Int.reduceEq, Nat.reduceEqDiff, e0, e4, hl1.len]
  refine Br.by (fun c => ?_) (fun c => ?_)
  · have hk' : k < l.length := by omega
    have ld := (hl1.mono ((HSub.refl h1).reserve 15)).loadA hk'
    have f0 := (hl1.mono ((HSub.refl h1).reserve 15)).load0 hk'
    have f1 := (hl1.mono ((HSub.refl h1).reserve 15)).load1 hk'
    have ai0 : ∀ o : Nat, o < 2 → idxArrA 1 2 (elA 2 v k) (.int .i64 (o : Nat)) = some (elF 2 v k o) := by
      intro o ho
      obtain ⟨_, _, ⟨rfl, h1⟩ | ⟨i, oo, c, ws, wr, u, rfl, _⟩⟩ := hl
      · omega
      · simp only [elA, elF]
        rw [idxArr_ptr ⟨by omega, by omega⟩, Int.toNat_natCast, Nat.mul_one]
    have a0 : idxArrA 1 2 (elA 2 v k) (.int .i64 0) = some (elF 2 v k 0) := ai0 0 (by decide)
    have a1 : idxArrA 1 2 (elA 2 v k) (.int .i64 1) = some (elF 2 v k 1) := ai0 1 (by decide)
    have hz := A.sub.size
    have hsR := fun b1 b2 => (show HSub h (((h1.reserve 15).put (h1.size + 11) b1).put (h1.size + 12) b2) from (by repeat (first | exact A.sub | refine HSub.put ?_ (by (try simp only [Heap.size_put, Heap.size_push, Heap.size_reserve]); omega) _ | refine HSub.push ?_ _ | refine HSub.reserve ?_ _)))
    have gR : ∀ b1 b2 i, i < h1.size → (((h1.reserve 15).put (h1.size + 11) b1).put (h1.size + 12) b2).get i = h1.get i := fun b1 b2 i hi => by
      rw [get_put_ne (by omega), get_put_ne (by omega), Heap.get_reserve]
    have gN : ∀ b1 b2, (((h1.reserve 15).put (h1.size + 11) b1).put (h1.size + 12) b2).get (h1.size + 13) = none := fun b1 b2 => by
      rw [get_put_ne (by omega), get_put_ne (by omega), Heap.get_reserve]; exact h1.wf _ (by omega)
    have hap := fun b1 b2 => Grw.appG (H := ((h1.reserve 15).put (h1.size + 11) b1).put (h1.size + 12) b2) (k := h1.size + 13) (m := 1) (bytes := 24) (news := [.slice (h1.size + 11) 0 2 (.known 2)]) A (fun i hi => gR b1 b2 i (Grw.ids_lt A i hi).2) ⟨by omega, by simp only [Heap.size_put, Heap.size_reserve]; omega⟩ (by decide) (by omega) (by rfl)
    simp -implicitDefEqProofs (disch := first | assumption | decide | omega | (simp only [wpD1] <;> omega) | (simp only [wpD2] <;> assumption) | solve_by_elim [HSub.refl, HSub.push, HSub.reserve] | fail) only [↓wpPre, wpPost, wpPoly, Int.reduceToNat, Int.reducePow, Int.reduceMul, Int.reduceAdd, Int.reduceSub, Int.reduceNeg, Nat.reduceAdd, Nat.reduceMul, Nat.reducePow, Int.reduceLT, Int.reduceLE, Int.reduceEq, Nat.reduceEqDiff, e0, e4, hl1.idx, a0, a1, f0, f1, Heap.wf, cont_slice, contB_one, hap, gN, appK_none]
    have bF := fun b1 b2 => snocS_sub (k := h1.size + 13) (ds := vs ++ [.slice (h1.size + 11) 0 2 (.known 2)]) A (hsR b1 b2) (by omega)
    have rF := fun b1 b2 => snocS_same (H := ((h1.reserve 15).put (h1.size + 11) b1).put (h1.size + 12) b2) (k := h1.size + 13) (v := t 3) (sz := 1) (cs := vs ++ [.slice (h1.size + 11) 0 2 (.known 2)]) (by simp only [Heap.size_put, Heap.size_reserve]; omega)
    refine ⟨_, ⟨k + 1, vs ++ [.slice (h1.size + 11) 0 2 (.known 2)], ⟨bF _ _, by simp [hvl], by omega, .inr ⟨_, [], by omega, rfl, by rw [List.append_nil]; exact rF _ _⟩⟩, by simp [hvl], fun i hi => ?_, by simp, by omega, rfl⟩, by omega⟩
    rcases Nat.lt_or_ge i k with x | x
    · have e : (vs ++ [AV.slice (h1.size + 11) 0 2 (.known 2)]).getD i .nilslice = vs.getD i .nilslice := by simp [List.getD_eq_getElem?_getD, List.getElem?_append_left (show i < vs.length by omega)]
      rw [e]
      have y := hvs i x
      obtain ⟨j, hj1, hw, hg, hn⟩ := y
      have jl := Heap.lt_of_get hg
      exact ⟨j, hj1, hw, (snocS_ne (by omega) hn).trans ((gR _ _ _ jl).trans hg), by simp only [AV.ids, List.mem_singleton]; omega⟩
    · have ei : i = k := by omega
      subst ei
      have e : (vs ++ [AV.slice (h1.size + 11) 0 2 (.known 2)]).getD i .nilslice = .slice (h1.size + 11) 0 2 (.known 2) := by simp [List.getD_eq_getElem?_getD, ← hvl]
      rw [e]
      refine ⟨h1.size + 11, by omega, rfl, (snocS_ne (by omega) (fun q => by have := (Grw.ids_lt A _ q).2; omega)).trans ?_, by simp only [AV.ids, List.mem_singleton]; omega⟩
      rw [get_put_ne (by omega), get_put_eq rfl (by simp only [Heap.size_reserve]; omega)]
  · have ek : k = l.length := by omega
    subst ek
    simp -implicitDefEqProofs (disch := first | assumption | decide | omega | (simp only [wpD1] <;> omega) | (simp only [wpD2] <;> assumption) | solve_by_elim [HSub.refl, HSub.push, HSub.reserve] | fail) only [↓wpPre, wpPost, wpPoly, Int.reduceToNat, Int.reducePow, Int.reduceMul, Int.reduceAdd, Int.reduceSub, Int.reduceNeg, Nat.reduceAdd, Nat.reduceMul, Nat.reducePow, Int.reduceLT, Int.reduceLE, Int.reduceEq, Nat.reduceEqDiff]
    refine ⟨A.sub, vs, ?_, by simp [pairL, hvl], fun i hi => ?_⟩
    · have := A.sl
      simpa [pairL] using this
    · have hi' : i < l.length := by simpa [pairL] using hi
      have x := hvs i hi'
      obtain ⟨j, hj1, hw, hg, _⟩ := x
      rw [hw]
      have e : (pairL l).getD i [] = [(l.getD i (0, 0)).1, (l.getD i (0, 0)).2] := by simp [pairL, hi']
      rw [e]
      exact RI.known hg ⟨rfl, by decide⟩ (by decide)
end
end Go.Ae

/- Tables of sums, of the program. -/
set_option linter.unusedSimpArgs false
set_option linter.unusedVariables false
namespace Go.Ae
def tabE (d : Int) (ps : List Int) : Nat → Int
  | 0 => 0
  | k + 1 => if tabE d ps k ≠ 0 then tabE d ps k else if codeErr d (ps.getD k 0) ≠ 0 then 2 else if ((ps.take k).any fun y => ps.getD k 0 == y) = true then 8 else 0
def tabErr (d o : Int) (ps : List Int) : Int := if knownErr d o ≠ 0 then 2 else if ps.length = 0 then 3 else if 8 < ps.length then 4 else tabE d ps ps.length
theorem tabE_mono {d : Int} {ps : List Int} {k : Nat} (h : tabE d ps k ≠ 0) : ∀ m, tabE d ps (k + m) = tabE d ps k
  | 0 => rfl
  | m + 1 => by
    rw [← Nat.add_assoc, tabE, if_pos (by rw [tabE_mono h m]; exact h), tabE_mono h m]
theorem tabE_at {d : Int} {ps : List Int} {k n : Nat} (h : tabE d ps k ≠ 0) (hk : k ≤ n) : tabE d ps n = tabE d ps k := by
  have := tabE_mono h (n - k)
  rwa [show k + (n - k) = n by omega] at this
def tabRow (d : Int) (o : Nat) (ps : List Int) (i k : Nat) : List Int := (List.range k).map fun j => greatI (sampL d (ps.getD i 0) o) (sampL d (ps.getD j 0) o) (if i = j then o else 0)
theorem tabRow_length (d : Int) (o : Nat) (ps : List Int) (i k : Nat) : (tabRow d o ps i k).length = k := by simp [tabRow]
theorem tabRow_succ (d : Int) (o : Nat) (ps : List Int) (i k : Nat) : tabRow d o ps i (k + 1) = tabRow d o ps i k ++ [greatI (sampL d (ps.getD i 0) o) (sampL d (ps.getD k 0) o) (if i = k then o else 0)] := by simp [tabRow, List.range_succ]
def tblL (d : Int) (o : Nat) (ps : List Int) : List (List Int) := (List.range ps.length).map fun i => tabRow d o ps i ps.length
theorem Grw.move {h0 h F : Heap} {sz n : Nat} {w : AV} {ds : List AV} (B : Grw h0 h sz w n ds) (hs : HSub h0 F) (hg : ∀ x ∈ w.ids, F.get x = h.get x) : Grw h0 F sz w n ds := by
  obtain ⟨_, hl, hn, ⟨rfl, rfl⟩ | ⟨i, ex, hi, rfl, hgi⟩⟩ := B
  · exact ⟨hs, hl, hn, .inl ⟨rfl, rfl⟩⟩
  · exact ⟨hs, hl, hn, .inr ⟨i, ex, hi, rfl, (hg i (by simp [AV.ids])).trans hgi⟩⟩
section
variable {C : Ctx}
set_option maxHeartbeats 4000000 in
set_option maxRecDepth 20000 in
theorem Table_spec (hC : Has C T172) {d o : Int} {vp : AV} {ps : List Int} {h : Heap} (hd : In64 d) (ho : In64 o) (hp : RI h vp ps) (hx : ∀ x ∈ ps, In64 x) :
    ACalls C 172 [.int .i64 d, .int .i64 o, vp] h (fun r h' => ∃ v, r = lstErr v (tabErr d o ps) ∧ HSub h h' ∧ LLI h' v (if tabErr d o ps = 0 then tblL d o.toNat ps else [])) := by
  have hplt := hp.lt
  have fin : ∀ (h' : Heap) (e : Int), HSub h h' → tabErr d o ps = e → e ≠ 0 → ∃ v, AV.tuple [.nilslice, .int .i64 e] = lstErr v (tabErr d o ps) ∧ HSub h h' ∧ LLI h' v (if tabErr d o ps = 0 then tblL d o.toNat ps else []) := fun h' e hs he h0 => ⟨.nilslice, by rw [he]; rfl, hs, by rw [if_neg (by omega)]; exact LLI.nil⟩
  by_cases ck : knownErr d o = 0
  · have kr : lenOk d = true ∧ 1 ≤ o ∧ o ≤ 8 := by
      unfold knownErr at ck
      split at ck
      · assumption
      · cases ck
    obtain ⟨q, rfl⟩ := Int.eq_ofNat_of_zero_le (show 0 ≤ o by omega)
    have hN := lenN_eq kr.1
    by_cases c0 : ps.length = 0
    · have pe : tabErr d (q : Nat) ps = 3 := by unfold tabErr; rw [if_neg (by omega), if_pos c0]
      (refine calls_intro (hC.body (by decide) tab172) (Nat.le_of_ble_eq_true rfl) ?_); (show wp C _ none B172.code _ _); (simp only [B172]); simp -implicitDefEqProofs (disch := first | assumption | decide | omega | (simp only [wpD1] <;> omega) | (simp only [wpD2] <;> assumption) | solve_by_elim [HSub.refl, HSub.push, HSub.reserve] | fail) only [↓wpPre, wpPost, wpPoly, Int.reduceToNat, Int.reducePow, Int.reduceMul, Int.reduceAdd, Int.reduceSub, Int.reduceNeg, Nat.reduceAdd, Nat.reduceMul, Nat.reducePow, Int.reduceLT, Int.reduceLE, Int.reduceEq, Nat.reduceEqDiff]
      refine ACallsK.eq (known09_spec (hC.sub (T' := T150) (by decide)) hd ho) ?_
      rw [ck]
      simp -implicitDefEqProofs (disch := first | assumption | decide | omega | (simp only [wpD1] <;> omega) | (simp only [wpD2] <;> assumption) | solve_by_elim [HSub.refl, HSub.push, HSub.reserve] | fail) only [↓wpPre, wpPost, wpPoly, Int.reduceToNat, Int.reducePow, Int.reduceMul, Int.reduceAdd, Int.reduceSub, Int.reduceNeg, Nat.reduceAdd, Nat.reduceMul, Nat.reducePow, Int.reduceLT, Int.reduceLE, Int.reduceEq, Nat.reduceEqDiff, hp.len]
      exact fin _ _ (HSub.refl _) pe (by decide)
    by_cases c8 : 8 < ps.length
    · have pe : tabErr d (q : Nat) ps = 4 := by unfold tabErr; rw [if_neg (by omega), if_neg c0, if_pos c8]
      (refine calls_intro (hC.body (by decide) tab172) (Nat.le_of_ble_eq_true rfl) ?_); (show wp C _ none B172.code _ _); (simp only [B172]); simp -implicitDefEqProofs (disch := first | assumption | decide | omega | (simp only [wpD1] <;> omega) | (simp only [wpD2] <;> assumption) | solve_by_elim [HSub.refl, HSub.push, HSub.reserve] | fail) only [↓wpPre, wpPost, wpPoly, Int.reduceToNat, Int.reducePow, Int.reduceMul, Int.reduceAdd, Int.reduceSub, Int.reduceNeg, Nat.reduceAdd, Nat.reduceMul, Nat.reducePow, Int.reduceLT, Int.reduceLE, Int.reduceEq, Nat.reduceEqDiff]
      refine ACallsK.eq (known09_spec (hC.sub (T' := T150) (by decide)) hd ho) ?_
      rw [ck]
      simp -implicitDefEqProofs (disch := first | assumption | decide | omega | (simp only [wpD1] <;> omega) | (simp only [wpD2] <;> assumption) | solve_by_elim [HSub.refl, HSub.push, HSub.reserve] | fail) only [↓wpPre, wpPost, wpPoly, Int.reduceToNat, Int.reducePow, Int.reduceMul, Int.reduceAdd, Int.reduceSub, Int.reduceNeg, Nat.reduceAdd, Nat.reduceMul, Nat.reducePow, Int.reduceLT, Int.reduceLE, Int.reduceEq, Nat.reduceEqDiff, hp.len]
      exact fin _ _ (HSub.refl _) pe (by decide)
    have pe : tabErr d (q : Nat) ps = tabE d ps ps.length := by unfold tabErr; rw [if_neg (by omega), if_neg c0, if_neg c8]
    rw [pe] at fin ⊢
    have fin2 : tabE d ps ps.length = 0 → ∀ (h' : Heap) (v : AV), HSub h h' → LLI h' v (tblL d q ps) → ∃ v', AV.tuple [v, .int .i64 0] = lstErr v' (tabE d ps ps.length) ∧ HSub h h' ∧ LLI h' v' (if tabE d ps ps.length = 0 then tblL d (q : Int).toNat ps else []) := fun he h' v hs hl => ⟨v, by rw [he]; rfl, hs, by rw [if_pos he]; exact hl⟩
    have hsd := fun (h : Heap) (i : Nat) (p : Int) (hp : In64 p) (hg : h.get i = some (.cells [.int .i64 p] true 0)) => sampled_specF (hC.sub (T' := T142) (by decide)) (vp := .slice i 0 1 (.known 1)) (ps := [p]) (h := h) hd ho (RI.known hg ⟨rfl, by decide⟩ (by decide)) (by simp [hp]) (by simp)
    (refine calls_intro (hC.body (by decide) tab172) (Nat.le_of_ble_eq_true rfl) ?_); (show wp C _ none B172.code _ _); (simp only [B172]); simp -implicitDefEqProofs (disch := first | assumption | decide | omega | (simp only [wpD1] <;> omega) | (simp only [wpD2] <;> assumption) | solve_by_elim [HSub.refl, HSub.push, HSub.reserve] | fail) only [↓wpPre, wpPost, wpPoly, Int.reduceToNat, Int.reducePow, Int.reduceMul, Int.reduceAdd, Int.reduceSub, Int.reduceNeg, Nat.reduceAdd, Nat.reduceMul, Nat.reducePow, Int.reduceLT, Int.reduceLE, Int.reduceEq, Nat.reduceEqDiff]
    refine ACallsK.eq (known09_spec (hC.sub (T' := T150) (by decide)) hd ho) ?_
    rw [ck]
    simp -implicitDefEqProofs (disch := first | assumption | decide | omega | (simp only [wpD1] <;> omega) | (simp only [wpD2] <;> assumption) | solve_by_elim [HSub.refl, HSub.push, HSub.reserve] | fail) only [↓wpPre, wpPost, wpPoly, Int.reduceToNat, Int.reducePow, Int.reduceMul, Int.reduceAdd, Int.reduceSub, Int.reduceNeg, Nat.reduceAdd, Nat.reduceMul, Nat.reducePow, Int.reduceLT, Int.reduceLE, Int.reduceEq, Nat.reduceEqDiff, hp.len]
    refine wp_loopI (fun j t h' => ∃ (k : Nat) (vs : List AV), Grw h h' 2 (t 9) k (codeCells vs (q : Nat)) ∧ vs.length = k ∧ (∀ i, i < k → GrwI h h' (vs.getD i .nilslice) (sampL d (ps.getD i 0) q) ∧ Dj (vs.getD i .nilslice) (t 9)) ∧ tabE d ps k = 0 ∧
      t 0 = .int .i64 d ∧ t 1 = .int .i64 (q : Nat) ∧ t 2 = vp ∧ t 34 = vp ∧ t 35 = .int .i64 (ps.length : Nat) ∧ t 36 = .int .i64 (k : Nat) ∧ k ≤ ps.length ∧ j = ps.length - k) (j0 := ps.length)
      ⟨0, [], Grw.nil _ _, rfl, fun i hi => by omega, rfl, rfl, rfl, rfl, rfl, rfl, rfl, by omega, rfl⟩ ?_
    rintro j t h2 ⟨k, vs, A, hvl, hvs, hte, e0, e1, e2, e34, e35, e36, hk, hj⟩
    simp -implicitDefEqProofs (disch := first | assumption | decide | omega | (simp only [wpD1] <;> omega) | (simp only [wpD2] <;> assumption) | solve_by_elim [HSub.refl, HSub.push, HSub.reserve] | fail) only [↓wpPre, wpPost, wpPoly, Int.reduceToNat, Int.reducePow, Int.reduceMul, Int.reduceAdd, Int.reduceSub, Int.reduceNeg, Nat.reduceAdd, Nat.reduceMul, Nat.reducePow, Int.reduceLT, Int.reduceLE, Int.reduceEq, Nat.reduceEqDiff, e35, e36]
    refine Br.by (fun c1 => ?_) (fun c1 => ?_)
    · have hk' : k < ps.length := by omega
      have hp2 := hp.mono A.sub
      have hxk := hx _ (getD_mem hk')
      have ts : tabE d ps (k + 1) = if codeErr d (ps.getD k 0) ≠ 0 then 2 else if ((ps.take k).any fun y => ps.getD k 0 == y) = true then 8 else 0 := by rw [tabE, if_neg (by omega)]
      have ld := hp2.load hk'
      have xp : ∃ p, p = ps.getD k 0 := ⟨_, rfl⟩
      obtain ⟨p, hpd⟩ := xp
      rw [← hpd] at ld ts hxk
      have se : sampErr d (q : Nat) [p] = codeErr d p := by
        rw [sampErr_one]
        rcases codeErr_cases d p with c | c
        · rw [if_pos ⟨ck, c⟩, c]
        · rw [if_neg (by omega), c]
      have hsd := hsd (h2.push (.cells [.int .i64 p] true 0)) h2.size p hxk (get_push_eq rfl)
      rw [se] at hsd
      by_cases cc : codeErr d p = 0
      · rw [if_neg (by omega)] at ts
        simp only [cc] at hsd
        simp -implicitDefEqProofs (disch := first | assumption | decide | omega | (simp only [wpD1] <;> omega) | (simp only [wpD2] <;> assumption) | solve_by_elim [HSub.refl, HSub.push, HSub.reserve] | fail) only [↓wpPre, wpPost, wpPoly, Int.reduceToNat, Int.reducePow, Int.reduceMul, Int.reduceAdd, Int.reduceSub, Int.reduceNeg, Nat.reduceAdd, Nat.reduceMul, Nat.reducePow, Int.reduceLT, Int.reduceLE, Int.reduceEq, Nat.reduceEqDiff, e0, e1, e34, e36, hp2.idx, ld]
        refine ACallsK.of hsd ?_
        rintro r h3 ⟨v, ws, rfl, s1, hcl⟩
        have s2 : HSub h2 h3 := (HSub.push1 _ _).trans s1
        have x0 := hcl trivial
        obtain ⟨cl, gw⟩ := x0
        have xw : ∃ w, ws = [w] := by
          have := cl.len
          match ws, this with
          | [w], _ => exact ⟨w, rfl⟩
        obtain ⟨w, rfl⟩ := xw
        have B : GrwI (h2.push (.cells [.int .i64 p] true 0)) h3 w (sampL d p q) := gw 0 (by simp)
        have hp3 := hp.mono (A.sub.trans s2)
        have xs := hp3.part_b (k2 := .i64) (b := (k : Nat)) (by omega)
        obtain ⟨v', ev, Rv⟩ := xs
        have ev := ev h3 (HSub.refl _)
        rw [Int.toNat_natCast] at Rv
        have hcn := Contains_spec (hC.sub (T' := T89) (by decide)) (x := p) Rv
        simp -implicitDefEqProofs (disch := first | assumption | decide | omega | (simp only [wpD1] <;> omega) | (simp only [wpD2] <;> assumption) | solve_by_elim [HSub.refl, HSub.push, HSub.reserve] | fail) only [↓wpPre, wpPost, wpPoly, Int.reduceToNat, Int.reducePow, Int.reduceMul, Int.reduceAdd, Int.reduceSub, Int.reduceNeg, Nat.reduceAdd, Nat.reduceMul, Nat.reducePow, Int.reduceLT, Int.reduceLE, Int.reduceEq, Nat.reduceEqDiff, lstErr, e2, ev]
        by_cases c3 : ((ps.take k).any fun y => p == y) = true
        · rw [if_pos c3] at ts
          rw [c3] at hcn
          refine ACallsK.eq hcn ?_
          simp -implicitDefEqProofs (disch := first | assumption | decide | omega | (simp only [wpD1] <;> omega) | (simp only [wpD2] <;> assumption) | solve_by_elim [HSub.refl, HSub.push, HSub.reserve] | fail) only [↓wpPre, wpPost, wpPoly, Int.reduceToNat, Int.reducePow, Int.reduceMul, Int.reduceAdd, Int.reduceSub, Int.reduceNeg, Nat.reduceAdd, Nat.reduceMul, Nat.reducePow, Int.reduceLT, Int.reduceLE, Int.reduceEq, Nat.reduceEqDiff]
          exact fin _ _ (A.sub.trans s2) ((tabE_at (by rw [ts]; decide) (by omega)).trans ts) (by decide)
        · rw [if_neg c3] at ts
          rw [Bool.eq_false_iff.2 c3] at hcn
          refine ACallsK.eq hcn ?_
          have cw := cl.sl.content
          rw [show ([p] : List Int).length = 1 from rfl, show codeCells [w] (q : Nat) = [w, .int .i64 (q : Nat)] from rfl] at cw
          have wone : w.one = true := (Grw.sl B).one
          have hn1 : [w, AV.int .i64 (q : Nat)].all AV.one = true := by simp [wone, one_int]
          have ap := Grw.app A (bytes := 32) (m := 1) (news := [w, .int .i64 (q : Nat)]) s2 (by decide) (by omega) hn1
          have A5 := Grw.snoc A (m := 1) (news := [w, .int .i64 (q : Nat)]) s2 rfl (by omega)
          rw [← codeCells_snoc] at ap A5
          simp -implicitDefEqProofs (disch := first | assumption | decide | omega | (simp only [wpD1] <;> omega) | (simp only [wpD2] <;> assumption) | solve_by_elim [HSub.refl, HSub.push, HSub.reserve] | fail) only [↓wpPre, wpPost, wpPoly, Int.reduceToNat, Int.reducePow, Int.reduceMul, Int.reduceAdd, Int.reduceSub, Int.reduceNeg, Nat.reduceAdd, Nat.reduceMul, Nat.reducePow, Int.reduceLT, Int.reduceLE, Int.reduceEq, Nat.reduceEqDiff, cw, ap, e0, e1, e2, e34, e35, e36]
          have A4 := A.mono s2
          have B0 : GrwI h h3 w (sampL d p q) := B.base (A.sub.trans (HSub.push1 _ _))
          have dw : Dj w (t 9) := fun j hj hj9 => by
            have q1 := (Grw.ids_lt B j hj).1
            have q2 := (Grw.ids_lt A j hj9).2
            simp only [Heap.size_push] at q1
            omega
          refine ⟨_, ⟨k + 1, vs ++ [w], A5, by simp [hvl], fun i hi => ?_, ts, by simp, by omega, rfl⟩, by omega⟩
          rcases Nat.lt_or_ge i k with x | x
          · have e : (vs ++ [w]).getD i .nilslice = vs.getD i .nilslice := by simp [List.getD_eq_getElem?_getD, List.getElem?_append_left (show i < vs.length by omega)]
            rw [e]
            have B1 := (hvs i x).1.mono s2
            exact ⟨Grw.keep A4 B1 (HSub.refl _) (hvs i x).2, Grw.dj B1 (Nat.le_refl _)⟩
          · have ei : i = k := by omega
            subst ei
            have e : (vs ++ [w]).getD i .nilslice = w := by simp [List.getD_eq_getElem?_getD, ← hvl]
            rw [e, ← hpd]
            exact ⟨Grw.keep A4 B0 (HSub.refl _) dw, Grw.dj B0 (Nat.le_refl _)⟩
      · have c2 : codeErr d p = 2 := by rcases codeErr_cases d p with c | c <;> first | exact absurd c cc | exact c
        rw [if_pos (by omega)] at ts
        simp only [c2] at hsd
        simp -implicitDefEqProofs (disch := first | assumption | decide | omega | (simp only [wpD1] <;> omega) | (simp only [wpD2] <;> assumption) | solve_by_elim [HSub.refl, HSub.push, HSub.reserve] | fail) only [↓wpPre, wpPost, wpPoly, Int.reduceToNat, Int.reducePow, Int.reduceMul, Int.reduceAdd, Int.reduceSub, Int.reduceNeg, Nat.reduceAdd, Nat.reduceMul, Nat.reducePow, Int.reduceLT, Int.reduceLE, Int.reduceEq, Nat.reduceEqDiff, e0, e1, e34, e36, hp2.idx, ld]
        refine ACallsK.of hsd ?_
        rintro r h3 ⟨v, ws, rfl, s1, hcl⟩
        have s2 : HSub h2 h3 := (HSub.push1 _ _).trans s1
        simp -implicitDefEqProofs (disch := first | assumption | decide | omega | (simp only [wpD1] <;> omega) | (simp only [wpD2] <;> assumption) | solve_by_elim [HSub.refl, HSub.push, HSub.reserve] | fail) only [↓wpPre, wpPost, wpPoly, Int.reduceToNat, Int.reducePow, Int.reduceMul, Int.reduceAdd, Int.reduceSub, Int.reduceNeg, Nat.reduceAdd, Nat.reduceMul, Nat.reducePow, Int.reduceLT, Int.reduceLE, Int.reduceEq, Nat.reduceEqDiff, lstErr]
        exact fin _ _ (A.sub.trans s2) ((tabE_at (by rw [ts]; decide) (by omega)).trans ts) (by decide)
    · have ek : k = ps.length := by omega
      subst ek
      have fin3 := fin2 hte
      have lA := A.sl
      have hzA := A.sub.size
      have RV : ∀ i, i < ps.length → RI h2 (vs.getD i .nilslice) (sampL d (ps.getD i 0) q) := fun i hi => (hvs i hi).1.ri
      have hL8 : ps.length ≤ 8 := by omega
      have sz : ∀ i, (sampL d (ps.getD i 0) q).length = lenN d * q := fun i => sampL_length _ _ _
      have sz1 : lenN d ≤ lenN d * q := Nat.le_mul_of_pos_right _ (by omega)
      have sz2 : lenN d * q ≤ 1023 * 8 := Nat.mul_le_mul (by omega) (by omega)
      have lenA9 := lA.len
      have xlv : ∃ lv, lv = t 9 := ⟨_, rfl⟩
      obtain ⟨lv, hlv⟩ := xlv
      rw [← hlv] at lA lenA9
      have e9 : t 9 = lv := hlv.symm
      simp -implicitDefEqProofs (disch := first | assumption | decide | omega | (simp only [wpD1] <;> omega) | (simp only [wpD2] <;> assumption) | solve_by_elim [HSub.refl, HSub.push, HSub.reserve] | fail) only [↓wpPre, wpPost, wpPoly, Int.reduceToNat, Int.reducePow, Int.reduceMul, Int.reduceAdd, Int.reduceSub, Int.reduceNeg, Nat.reduceAdd, Nat.reduceMul, Nat.reducePow, Int.reduceLT, Int.reduceLE, Int.reduceEq, Nat.reduceEqDiff, e9, lenA9]
      refine wp_loopI (fun j t h' => ∃ (i : Nat) (rows : List AV), h'.get h2.size = some (.cells rows true 0) ∧ rows.length = ps.length ∧ HSub h2 h' ∧ h2.size < h'.size ∧ (∀ j, j < i → GrwI h2 h' (rows.getD j .nilslice) (tabRow d q ps j ps.length) ∧ h2.size ∉ (rows.getD j .nilslice).ids) ∧ (∀ j, i ≤ j → j < ps.length → rows[j]? = some .nilslice) ∧
        t 1 = .int .i64 (q : Nat) ∧ t 9 = lv ∧ t 14 = .slice h2.size 0 ps.length (.known ps.length) ∧ t 64 = lv ∧ t 65 = .int .i64 (ps.length : Nat) ∧ t 66 = .int .i64 (i : Nat) ∧ i ≤ ps.length ∧ j = ps.length - i) (j0 := ps.length)
        ⟨0, List.replicate ps.length .nilslice, get_push_eq rfl, by simp, HSub.push1 _ _, by simp, fun j hj => by omega, fun j _ hj => by simp [hj], e1, e9, rfl, rfl, rfl, rfl, by omega, rfl⟩ ?_
      rintro j t h4 ⟨i, rows, gO, hrl, s4, z4, hrow, hnil, e1, e9, e14, e64, e65, e66, hi, hj⟩
      simp -implicitDefEqProofs (disch := first | assumption | decide | omega | (simp only [wpD1] <;> omega) | (simp only [wpD2] <;> assumption) | solve_by_elim [HSub.refl, HSub.push, HSub.reserve] | fail) only [↓wpPre, wpPost, wpPoly, Int.reduceToNat, Int.reducePow, Int.reduceMul, Int.reduceAdd, Int.reduceSub, Int.reduceNeg, Nat.reduceAdd, Nat.reduceMul, Nat.reducePow, Int.reduceLT, Int.reduceLE, Int.reduceEq, Nat.reduceEqDiff, e65, e66]
      refine Br.by (fun c2 => ?_) (fun c2 => ?_)
      · have hi' : i < ps.length := by omega
        have ixi : idxA 2 lv (.int .i64 (i : Nat)) = some (elA 2 lv i) := lA.idx ⟨by omega, by omega⟩
        have ldi := (lA.mono s4).loadA hi'
        rw [codeCells_cut (q : Nat) vs i (by omega)] at ldi
        have xwi : ∃ wi, wi = vs.getD i .nilslice := ⟨_, rfl⟩
        obtain ⟨wi, hwi⟩ := xwi
        have Ri := RV i hi'
        rw [← hwi] at ldi Ri
        have one := Ri.one
        simp -implicitDefEqProofs (disch := first | assumption | decide | omega | (simp only [wpD1] <;> omega) | (simp only [wpD2] <;> assumption) | solve_by_elim [HSub.refl, HSub.push, HSub.reserve] | fail) only [↓wpPre, wpPost, wpPoly, Int.reduceToNat, Int.reducePow, Int.reduceMul, Int.reduceAdd, Int.reduceSub, Int.reduceNeg, Nat.reduceAdd, Nat.reduceMul, Nat.reducePow, Int.reduceLT, Int.reduceLE, Int.reduceEq, Nat.reduceEqDiff, e1, e9, e64, e66, ixi, ldi, lenA9]
        have gO5 : (h4.push (.cells [wi, .int .i64 (q : Nat)] true 0)).get h2.size = some (.cells rows true 0) := (get_push_lt z4).trans gO
        refine wp_loopI (fun j t h' => ∃ (k : Nat) (rws : List AV), h'.get h2.size = some (.cells rws true 0) ∧ rws.length = ps.length ∧ HSub h2 h' ∧ h4.size < h'.size ∧ h'.get h4.size = some (.cells [wi, .int .i64 (q : Nat)] true 0) ∧ h4.size ∉ (rws.getD i .nilslice).ids ∧
          (∀ j, j < i → GrwI h2 h' (rws.getD j .nilslice) (tabRow d q ps j ps.length) ∧ h2.size ∉ (rws.getD j .nilslice).ids ∧ Dj (rws.getD j .nilslice) (rws.getD i .nilslice)) ∧ GrwI h2 h' (rws.getD i .nilslice) (tabRow d q ps i k) ∧ h2.size ∉ (rws.getD i .nilslice).ids ∧ (∀ j, i < j → j < ps.length → rws[j]? = some .nilslice) ∧
          t 1 = .int .i64 (q : Nat) ∧ t 9 = lv ∧ t 14 = .slice h2.size 0 ps.length (.known ps.length) ∧ t 15 = .int .i64 (i : Nat) ∧ t 16 = .ptr h4.size 0 ∧ t 64 = lv ∧ t 65 = .int .i64 (ps.length : Nat) ∧ t 66 = .int .i64 (i : Nat) ∧ t 71 = lv ∧ t 72 = .int .i64 (ps.length : Nat) ∧ t 73 = .int .i64 (k : Nat) ∧ k ≤ ps.length ∧ j = ps.length - k) (j0 := ps.length)
          ⟨0, rows, gO5, hrl, s4.push _, by simp, get_push_eq rfl, ?_, ?_, ?_, ?_, ?_, e1, e9, e14, rfl, rfl, e64, e65, e66, rfl, rfl, rfl, by omega, rfl⟩ ?_
        · have := hnil i (Nat.le_refl _) hi'
          rw [List.getD_eq_getElem?_getD, this]; simp [AV.ids]
        · intro j hj
          have hni := hnil i (Nat.le_refl _) hi'
          refine ⟨(hrow j hj).1.mono (HSub.push1 _ _), (hrow j hj).2, ?_⟩
          rw [List.getD_eq_getElem?_getD (i := i), hni]
          exact Dj.nilR
        · have hni := hnil i (Nat.le_refl _) hi'
          rw [List.getD_eq_getElem?_getD (i := i), hni]
          exact GrwI.nil' (s4.push _)
        · have hni := hnil i (Nat.le_refl _) hi'
          rw [List.getD_eq_getElem?_getD (i := i), hni]
          simp [AV.ids]
        · intro j hj hj2
          exact hnil j (by omega) hj2
        rintro j t h5 ⟨k, rws, gO, hrl, s5, z5, g16, n16, hrow, hri, nri, hnil, e1, e9, e14, e15, e16, e64, e65, e66, e71, e72, e73, hk, hj⟩
        simp -implicitDefEqProofs (disch := first | assumption | decide | omega | (simp only [wpD1] <;> omega) | (simp only [wpD2] <;> assumption) | solve_by_elim [HSub.refl, HSub.push, HSub.reserve] | fail) only [↓wpPre, wpPost, wpPoly, Int.reduceToNat, Int.reducePow, Int.reduceMul, Int.reduceAdd, Int.reduceSub, Int.reduceNeg, Nat.reduceAdd, Nat.reduceMul, Nat.reducePow, Int.reduceLT, Int.reduceLE, Int.reduceEq, Nat.reduceEqDiff, e72, e73]
        refine Br.by (fun c3 => ?_) (fun c3 => ?_)
        · have hk' : k < ps.length := by omega
          have ixk : idxA 2 lv (.int .i64 (k : Nat)) = some (elA 2 lv k) := lA.idx ⟨by omega, by omega⟩
          have ldk := (lA.mono s5).loadA hk'
          rw [codeCells_cut (q : Nat) vs k (by omega)] at ldk
          have xwk : ∃ wk, wk = vs.getD k .nilslice := ⟨_, rfl⟩
          obtain ⟨wk, hwk⟩ := xwk
          have Rk := RV k hk'
          rw [← hwk] at ldk Rk
          have onek := Rk.one
          have xr : ∃ ri, ri = rws.getD i .nilslice := ⟨_, rfl⟩
          obtain ⟨ri, hrid⟩ := xr
          rw [← hrid] at hri nri n16
          have rget : rws[i]? = some ri := by rw [hrid]; simp [List.getD_eq_getElem?_getD, show i < rws.length by omega]
          by_cases cik : i = k
          · subst cik
            have sx := tabRow_succ d q ps i i
            rw [if_pos rfl] at sx
            have sl := tabRow_length d q ps i i
            simp -implicitDefEqProofs (disch := first | assumption | decide | omega | (simp only [wpD1] <;> omega) | (simp only [wpD2] <;> assumption) | solve_by_elim [HSub.refl, HSub.push, HSub.reserve] | fail) only [↓wpPre, wpPost, wpPoly, Int.reduceToNat, Int.reducePow, Int.reduceMul, Int.reduceAdd, Int.reduceSub, Int.reduceNeg, Nat.reduceAdd, Nat.reduceMul, Nat.reducePow, Int.reduceLT, Int.reduceLE, Int.reduceEq, Nat.reduceEqDiff, e1, e14, e15, e16, e71, e73, ixk, ldk, gO, rget, g16]
            refine ACallsK.hide (fun H hH => ?_)
            have N : H.size = h5.size + 15 := by rw [hH]; simp -implicitDefEqProofs (disch := first | assumption | decide | omega | (simp only [wpD1] <;> omega) | (simp only [wpD2] <;> assumption) | solve_by_elim [HSub.refl, HSub.push, HSub.reserve] | fail) only [↓wpPre, wpPost, wpPoly, Int.reduceToNat, Int.reducePow, Int.reduceMul, Int.reduceAdd, Int.reduceSub, Int.reduceNeg, Nat.reduceAdd, Nat.reduceMul, Nat.reducePow, Int.reduceLT, Int.reduceLE, Int.reduceEq, Nat.reduceEqDiff]
            have gH : ∀ j, j < h5.size → H.get j = h5.get j := by
              intro j hj
              rw [hH, Heap.get_reserve, get_push_lt hj]
            have gN : ∀ j, h5.size + 1 ≤ j → H.get j = none := by
              intro j hj
              rw [hH, Heap.get_reserve]
              exact Heap.wf _ j (by simpa using hj)
            have hs5 : HSub h5 H := ⟨by omega, gH⟩
            clear hH
            have gO6 := (gH _ (by omega)).trans gO
            have gp := great_spec (hC.sub (T' := T183) (by decide)) (o1 := (q : Nat)) (o2 := (q : Nat)) (mg := q) (h := H) (Ri.mono (s5.trans hs5)) (Rk.mono (s5.trans hs5)) (sampL_one1 _ _ _) (sampL_one1 _ _ _) ⟨by simp only [sz], by rw [sz]; omega, by rw [sz]; omega⟩ (by omega)
            refine ACallsK.eq gp ?_
            have ap := fun b => Grw.appG (H := H.put (h5.size + 1 + 10) b) (k := h5.size + 1 + 11) (m := 1) (bytes := 8) (news := [.int .i64 (greatI (sampL d (ps.getD i 0) q) (sampL d (ps.getD i 0) q) q)]) hri (fun j hj => by rw [get_put_ne (by have := (Grw.ids_lt hri j hj).2; omega)]; exact gH j (Grw.ids_lt hri j hj).2) ⟨by omega, by simp only [Heap.size_put]; omega⟩ (by decide) (by omega) (by rfl)
            rw [ints_snoc, ← sx, sl] at ap
            have g10 := gN (h5.size + 1 + 10) (by omega)
            have g11 := gN (h5.size + 1 + 11) (by omega)
            simp -implicitDefEqProofs (disch := first | assumption | decide | omega | (simp only [wpD1] <;> omega) | (simp only [wpD2] <;> assumption) | solve_by_elim [HSub.refl, HSub.push, HSub.reserve] | fail) only [↓wpPre, wpPost, wpPoly, Int.reduceToNat, Int.reducePow, Int.reduceMul, Int.reduceAdd, Int.reduceSub, Int.reduceNeg, Nat.reduceAdd, Nat.reduceMul, Nat.reducePow, Int.reduceLT, Int.reduceLE, Int.reduceEq, Nat.reduceEqDiff, g10, g11, cont_slice, contB_one, ap, appK_none, e14]
            refine ⟨gH _ (by omega), ?_⟩
            have gF := fun b => (snocS_ne (H := H.put (h5.size + 1 + 10) b) (k := h5.size + 1 + 11) (v := ri) (sz := 1) (cs := ints (tabRow d q ps i (i + 1))) (j := h2.size) (by omega) nri).trans ((get_put_ne (by omega)).trans gO6)
            have zF := fun b => snocS_size (H := H.put (h5.size + 1 + 10) b) (k := h5.size + 1 + 11) (v := ri) (sz := 1) (cs := ints (tabRow d q ps i (i + 1)))
            have rF := fun b => snocS_same (H := H.put (h5.size + 1 + 10) b) (k := h5.size + 1 + 11) (v := ri) (sz := 1) (cs := ints (tabRow d q ps i (i + 1))) (by simp only [Heap.size_put]; omega)
            have bF := fun b => snocS_sub (H := H.put (h5.size + 1 + 10) b) (k := h5.size + 1 + 11) (ds := ints (tabRow d q ps i (i + 1))) hri ((s5.trans hs5).put (by omega) b) (by omega)
            have oF := fun b (j : Nat) (hj : j < h5.size) (hv : j ∉ ri.ids) => (snocS_ne (H := H.put (h5.size + 1 + 10) b) (k := h5.size + 1 + 11) (v := ri) (sz := 1) (cs := ints (tabRow d q ps i (i + 1))) (j := j) (by omega) hv).trans ((get_put_ne (by omega)).trans (gH j hj))
            simp only [Heap.size_put] at zF
            simp -implicitDefEqProofs (disch := first | assumption | decide | omega | (simp only [wpD1] <;> omega) | (simp only [wpD2] <;> assumption) | solve_by_elim [HSub.refl, HSub.push, HSub.reserve] | fail) only [↓wpPre, wpPost, wpPoly, Int.reduceToNat, Int.reducePow, Int.reduceMul, Int.reduceAdd, Int.reduceSub, Int.reduceNeg, Nat.reduceAdd, Nat.reduceMul, Nat.reducePow, Int.reduceLT, Int.reduceLE, Int.reduceEq, Nat.reduceEqDiff, gF, e15, e1, e9, e14, e16, e64, e65, e66, e71, e72, e73]
            have nw : ∀ j, j < i → (rws.set i (.slice (h5.size + 1 + 11) 0 (i + 1) (.unk 0))).getD j .nilslice = rws.getD j .nilslice := fun j hj => by simp [List.getD_eq_getElem?_getD, List.getElem?_set, show ¬ i = j by omega]
            have ne' : (rws.set i (.slice (h5.size + 1 + 11) 0 (i + 1) (.unk 0))).getD i .nilslice = .slice (h5.size + 1 + 11) 0 (i + 1) (.unk 0) := by simp [List.getD_eq_getElem?_getD, List.getElem?_set, show i < rws.length by omega]
            refine ⟨_, ⟨i + 1, rws.set i (.slice (h5.size + 1 + 11) 0 (i + 1) (.unk 0)), get_put_eq rfl (by rw [zF]; omega), by simp [hrl], (bF _).put (Nat.le_refl _) _, by rw [zF]; omega, (oF _ _ z5 n16).trans g16, by rw [ne']; simp only [AV.ids, List.mem_singleton]; omega, fun j hj => ?_, ?_, by rw [ne']; simp only [AV.ids, List.mem_singleton]; omega, fun j hj hj2 => ?_, by simp, by omega, rfl⟩, by omega⟩
            · rw [nw j hj, ne']
              obtain ⟨B, nb, dj⟩ := hrow j hj
              rw [← hrid] at dj
              refine ⟨Grw.move B ((bF _).put (Nat.le_refl _) _) (fun x hx => ?_), nb, fun x hx hy => ?_⟩
              · have xl := (Grw.ids_lt B x hx).2
                exact (get_put_ne (fun (e : x = h2.size) => nb (by rw [← e]; exact hx))).trans (oF _ x xl (dj x hx))
              · have xl := (Grw.ids_lt B x hx).2
                simp only [AV.ids, List.mem_singleton] at hy
                omega
            · rw [ne']
              exact grwI_mk ((bF _).put (Nat.le_refl _) _) (by omega) ⟨(tabRow_length _ _ _ _ _).symm, by rw [tabRow_length]; omega⟩ ((get_put_ne (by omega)).trans (rF _))
            · rw [List.getElem?_set, if_neg (by omega)]
              exact hnil j hj hj2
          · have cik' : ¬ ((i : Nat) : Int) = (k : Nat) := by omega
            have sx := tabRow_succ d q ps i k
            rw [if_neg cik] at sx
            have sl := tabRow_length d q ps i k
            simp -implicitDefEqProofs (disch := first | assumption | decide | omega | (simp only [wpD1] <;> omega) | (simp only [wpD2] <;> assumption) | solve_by_elim [HSub.refl, HSub.push, HSub.reserve] | fail) only [↓wpPre, wpPost, wpPoly, Int.reduceToNat, Int.reducePow, Int.reduceMul, Int.reduceAdd, Int.reduceSub, Int.reduceNeg, Nat.reduceAdd, Nat.reduceMul, Nat.reducePow, Int.reduceLT, Int.reduceLE, Int.reduceEq, Nat.reduceEqDiff, e1, e14, e15, e16, e71, e73, ixk, ldk, gO, rget, g16]
            refine ACallsK.hide (fun H hH => ?_)
            have N : H.size = h5.size + 15 := by rw [hH]; simp -implicitDefEqProofs (disch := first | assumption | decide | omega | (simp only [wpD1] <;> omega) | (simp only [wpD2] <;> assumption) | solve_by_elim [HSub.refl, HSub.push, HSub.reserve] | fail) only [↓wpPre, wpPost, wpPoly, Int.reduceToNat, Int.reducePow, Int.reduceMul, Int.reduceAdd, Int.reduceSub, Int.reduceNeg, Nat.reduceAdd, Nat.reduceMul, Nat.reducePow, Int.reduceLT, Int.reduceLE, Int.reduceEq, Nat.reduceEqDiff]
            have gH : ∀ j, j < h5.size → H.get j = h5.get j := by
              intro j hj
              rw [hH, Heap.get_reserve, get_push_lt hj]
            have gN : ∀ j, h5.size + 1 ≤ j → H.get j = none := by
              intro j hj
              rw [hH, Heap.get_reserve]
              exact Heap.wf _ j (by simpa using hj)
            have hs5 : HSub h5 H := ⟨by omega, gH⟩
            clear hH
            have gO6 := (gH _ (by omega)).trans gO
            have gp := great_spec (hC.sub (T' := T183) (by decide)) (o1 := (q : Nat)) (o2 := (q : Nat)) (mg := 0) (h := H) (Ri.mono (s5.trans hs5)) (Rk.mono (s5.trans hs5)) (sampL_one1 _ _ _) (sampL_one1 _ _ _) ⟨by simp only [sz], by rw [sz]; omega, by rw [sz]; omega⟩ (by omega)
            refine ACallsK.eq gp ?_
            have ap := fun b => Grw.appG (H := H.put (h5.size + 1 + 10) b) (k := h5.size + 1 + 11) (m := 1) (bytes := 8) (news := [.int .i64 (greatI (sampL d (ps.getD i 0) q) (sampL d (ps.getD k 0) q) 0)]) hri (fun j hj => by rw [get_put_ne (by have := (Grw.ids_lt hri j hj).2; omega)]; exact gH j (Grw.ids_lt hri j hj).2) ⟨by omega, by simp only [Heap.size_put]; omega⟩ (by decide) (by omega) (by rfl)
            rw [ints_snoc, ← sx, sl] at ap
            have g10 := gN (h5.size + 1 + 10) (by omega)
            have g11 := gN (h5.size + 1 + 11) (by omega)
            simp -implicitDefEqProofs (disch := first | assumption | decide | omega | (simp only [wpD1] <;> omega) | (simp only [wpD2] <;> assumption) | solve_by_elim [HSub.refl, HSub.push, HSub.reserve] | fail) only [↓wpPre, wpPost, wpPoly, Int.reduceToNat, Int.reducePow, Int.reduceMul, Int.reduceAdd, Int.reduceSub, Int.reduceNeg, Nat.reduceAdd, Nat.reduceMul, Nat.reducePow, Int.reduceLT, Int.reduceLE, Int.reduceEq, Nat.reduceEqDiff, g10, g11, cont_slice, contB_one, ap, appK_none, e14]
            refine ⟨gH _ (by omega), ?_⟩
            have gF := fun b => (snocS_ne (H := H.put (h5.size + 1 + 10) b) (k := h5.size + 1 + 11) (v := ri) (sz := 1) (cs := ints (tabRow d q ps i (k + 1))) (j := h2.size) (by omega) nri).trans ((get_put_ne (by omega)).trans gO6)
            have zF := fun b => snocS_size (H := H.put (h5.size + 1 + 10) b) (k := h5.size + 1 + 11) (v := ri) (sz := 1) (cs := ints (tabRow d q ps i (k + 1)))
            have rF := fun b => snocS_same (H := H.put (h5.size + 1 + 10) b) (k := h5.size + 1 + 11) (v := ri) (sz := 1) (cs := ints (tabRow d q ps i (k + 1))) (by simp only [Heap.size_put]; omega)
            have bF := fun b => snocS_sub (H := H.put (h5.size + 1 + 10) b) (k := h5.size + 1 + 11) (ds := ints (tabRow d q ps i (k + 1))) hri ((s5.trans hs5).put (by omega) b) (by omega)
            have oF := fun b (j : Nat) (hj : j < h5.size) (hv : j ∉ ri.ids) => (snocS_ne (H := H.put (h5.size + 1 + 10) b) (k := h5.size + 1 + 11) (v := ri) (sz := 1) (cs := ints (tabRow d q ps i (k + 1))) (j := j) (by omega) hv).trans ((get_put_ne (by omega)).trans (gH j hj))
            simp only [Heap.size_put] at zF
            simp -implicitDefEqProofs (disch := first | assumption | decide | omega | (simp only [wpD1] <;> omega) | (simp only [wpD2] <;> assumption) | solve_by_elim [HSub.refl, HSub.push, HSub.reserve] | fail) only [↓wpPre, wpPost, wpPoly, Int.reduceToNat, Int.reducePow, Int.reduceMul, Int.reduceAdd, Int.reduceSub, Int.reduceNeg, Nat.reduceAdd, Nat.reduceMul, Nat.reducePow, Int.reduceLT, Int.reduceLE, Int.reduceEq, Nat.reduceEqDiff, gF, e15, e1, e9, e14, e16, e64, e65, e66, e71, e72, e73]
            have nw : ∀ j, j < i → (rws.set i (.slice (h5.size + 1 + 11) 0 (k + 1) (.unk 0))).getD j .nilslice = rws.getD j .nilslice := fun j hj => by simp [List.getD_eq_getElem?_getD, List.getElem?_set, show ¬ i = j by omega]
            have ne' : (rws.set i (.slice (h5.size + 1 + 11) 0 (k + 1) (.unk 0))).getD i .nilslice = .slice (h5.size + 1 + 11) 0 (k + 1) (.unk 0) := by simp [List.getD_eq_getElem?_getD, List.getElem?_set, show i < rws.length by omega]
            refine ⟨_, ⟨k + 1, rws.set i (.slice (h5.size + 1 + 11) 0 (k + 1) (.unk 0)), get_put_eq rfl (by rw [zF]; omega), by simp [hrl], (bF _).put (Nat.le_refl _) _, by rw [zF]; omega, (oF _ _ z5 n16).trans g16, by rw [ne']; simp only [AV.ids, List.mem_singleton]; omega, fun j hj => ?_, ?_, by rw [ne']; simp only [AV.ids, List.mem_singleton]; omega, fun j hj hj2 => ?_, by simp, by omega, rfl⟩, by omega⟩
            · rw [nw j hj, ne']
              obtain ⟨B, nb, dj⟩ := hrow j hj
              rw [← hrid] at dj
              refine ⟨Grw.move B ((bF _).put (Nat.le_refl _) _) (fun x hx => ?_), nb, fun x hx hy => ?_⟩
              · have xl := (Grw.ids_lt B x hx).2
                exact (get_put_ne (fun (e : x = h2.size) => nb (by rw [← e]; exact hx))).trans (oF _ x xl (dj x hx))
              · have xl := (Grw.ids_lt B x hx).2
                simp only [AV.ids, List.mem_singleton] at hy
                omega
            · rw [ne']
              exact grwI_mk ((bF _).put (Nat.le_refl _) _) (by omega) ⟨(tabRow_length _ _ _ _ _).symm, by rw [tabRow_length]; omega⟩ ((get_put_ne (by omega)).trans (rF _))
            · rw [List.getElem?_set, if_neg (by omega)]
              exact hnil j hj hj2
        · have ek : k = ps.length := by omega
          subst ek
          simp -implicitDefEqProofs (disch := first | assumption | decide | omega | (simp only [wpD1] <;> omega) | (simp only [wpD2] <;> assumption) | solve_by_elim [HSub.refl, HSub.push, HSub.reserve] | fail) only [↓wpPre, wpPost, wpPoly, Int.reduceToNat, Int.reducePow, Int.reduceMul, Int.reduceAdd, Int.reduceSub, Int.reduceNeg, Nat.reduceAdd, Nat.reduceMul, Nat.reducePow, Int.reduceLT, Int.reduceLE, Int.reduceEq, Nat.reduceEqDiff, e1, e9, e14, e64, e65, e66]
          refine ⟨_, ⟨i + 1, rws, gO, hrl, s5, by omega, fun j hj => ?_, fun j hj hj2 => hnil j (by omega) hj2, by simp, by omega, rfl⟩, by omega⟩
          rcases Nat.lt_or_ge j i with x | x
          · exact ⟨(hrow j x).1, (hrow j x).2.1⟩
          · have : j = i := by omega
            subst this
            exact ⟨hri, nri⟩
      · have ei : i = ps.length := by omega
        subst ei
        have tl : (tblL d q ps).length = ps.length := by simp [tblL]
        simp -implicitDefEqProofs (disch := first | assumption | decide | omega | (simp only [wpD1] <;> omega) | (simp only [wpD2] <;> assumption) | solve_by_elim [HSub.refl, HSub.push, HSub.reserve] | fail) only [↓wpPre, wpPost, wpPoly, Int.reduceToNat, Int.reducePow, Int.reduceMul, Int.reduceAdd, Int.reduceSub, Int.reduceNeg, Nat.reduceAdd, Nat.reduceMul, Nat.reducePow, Int.reduceLT, Int.reduceLE, Int.reduceEq, Nat.reduceEqDiff, e14]
        refine fin3 _ _ (A.sub.trans s4) ⟨rows, ⟨by rw [tl, Nat.mul_one]; exact hrl, by rw [tl]; omega, .inr ⟨h2.size, 0, .known ps.length, rows, true, 0, by rw [tl], gO, by rw [tl]; omega, by rw [tl]; exact cut_all (by omega), by rw [tl]; exact Nat.le_refl _⟩⟩, by rw [tl]; exact hrl, fun j hj => ?_⟩
        have hj' : j < ps.length := by simpa [tblL] using hj
        have e : (tblL d q ps).getD j [] = tabRow d q ps j ps.length := by simp [tblL, hj']
        rw [e]
        exact (hrow j hj').1.ri
  · have pe : tabErr d o ps = 2 := by unfold tabErr; rw [if_pos ck]
    have ck2 : knownErr d o = 2 := by unfold knownErr at ck ⊢; split at ck <;> first | exact absurd rfl ck | (rename_i h; rw [if_neg h])
    (refine calls_intro (hC.body (by decide) tab172) (Nat.le_of_ble_eq_true rfl) ?_); (show wp C _ none B172.code _ _); (simp only [B172]); simp -implicitDefEqProofs (disch := first | assumption | decide | omega | (simp only [wpD1] <;> omega) | (simp only [wpD2] <;> assumption) | solve_by_elim [HSub.refl, HSub.push, HSub.reserve] | fail) only [↓wpPre, wpPost, wpPoly, Int.reduceToNat, Int.reducePow, Int.reduceMul, Int.reduceAdd, Int.reduceSub, Int.reduceNeg, Nat.reduceAdd, Nat.reduceMul, Nat.reducePow, Int.reduceLT, Int.reduceLE, Int.reduceEq, Nat.reduceEqDiff]
    refine ACallsK.eq (known09_spec (hC.sub (T' := T150) (by decide)) hd ho) ?_
    rw [ck2]
    simp -implicitDefEqProofs (disch := first | assumption | decide | omega | (simp only [wpD1] <;> omega) | (simp only [wpD2] <;> assumption) | solve_by_elim [HSub.refl, HSub.push, HSub.reserve] | fail) only [↓wpPre, wpPost, wpPoly, Int.reduceToNat, Int.reducePow, Int.reduceMul, Int.reduceAdd, Int.reduceSub, Int.reduceNeg, Nat.reduceAdd, Nat.reduceMul, Nat.reducePow, Int.reduceLT, Int.reduceLE, Int.reduceEq, Nat.reduceEqDiff]
    exact fin _ _ (HSub.refl _) pe (by decide)
end
end Go.Ae

/- Examples of layer 9, by contracts. -/
set_option linter.unusedSimpArgs false
set_option linter.unusedVariables false
namespace Go.Ae
theorem spec511 : specOut 5 1 1 = [(-1, 30), (31, 1)] := by rw [specOut_eq]; decide +kernel
theorem spec512 : ∃ a b c, specOut 5 1 2 = [(-9, a), (-1, b), (7, c)] := ⟨(specK (circ (codeL 5 1) (codeL 5 2)) 31 63).getD 0 (0, 0) |>.2, (specK (circ (codeL 5 1) (codeL 5 2)) 31 63).getD 1 (0, 0) |>.2, (specK (circ (codeL 5 1) (codeL 5 2)) 31 63).getD 2 (0, 0) |>.2, by rw [specOut_eq]; decide +kernel⟩
theorem sampErr511 : sampErr 5 1 [1, 1] = 0 := by decide +kernel
theorem parts511 : partsE 5 1 1 1 1 1 = tup3 (-1) 0 0 := by
  have ok : partsOk 5 1 1 1 1 1 := by decide +kernel
  unfold partsE
  rw [if_pos ok]
  have e1 : pf (sampL 5 1 (1 : Int).toNat) (sampL 5 1 (1 : Int).toNat) 1 1 (1 : Int).toNat = -1 := by decide +kernel
  have e2 : ps (sampL 5 1 (1 : Int).toNat) (sampL 5 1 (1 : Int).toNat) (1 : Int).toNat ((sampL 5 1 (1 : Int).toNat).length - (1 : Int).toNat) = 0 := by decide +kernel
  rw [e1, e2]
theorem circ123 : circErr [1, 2, 3] [1, 0, 0] = 0 ∧ circ [1, 2, 3] [1, 0, 0] = [1, 3, 2] := by decide +kernel
section
variable {C : Ctx}
set_option maxHeartbeats 2000000 in
theorem awake163_spec (hC : Has C T163) (hS : SortOk C 178) {h : Heap} : ACalls C 163 [] h (fun r h' => r = .bool true ∧ h' = h) := by
  refine ACalls.gc0 (P := fun r h' => r = .bool true ∧ HSub h h') ?_ (fun r h' hp => ⟨by rw [hp.1]; trivial, hp.2, hp.1, rfl⟩)
  have i5 : In64 5 := by unfold In64; omega
  have i1 : In64 1 := by unfold In64; omega
  have k1 := fun (h : Heap) (i j : Nat) (g1 : h.get i = some (.cells (ints [1, 2, 3]) true 0)) (g2 : h.get j = some (.cells (ints [1, 0, 0]) true 0)) => CircP_spec (hC.sub (T' := T25) (by decide)) (h := h) (va := .slice i 0 3 (.known 3)) (vb := .slice j 0 3 (.known 3)) (RI.known g1 ⟨rfl, by decide⟩ (by decide)) (RI.known g2 ⟨rfl, by decide⟩ (by decide))
  simp only [circ123.1, circ123.2, if_true] at k1
  have k2 := fun h => Spectrum_spec (hC.sub (T' := T164) (by decide)) hS (h := h) i5 i1 i1
  simp only [sampErr511, if_true, spec511] at k2
  have k3 := fun h => Parts_spec (hC.sub (T' := T170) (by decide)) (h := h) i5 i1 i1 i1 i1 i1
  simp only [parts511] at k3
  (refine calls_intro (hC.body (by decide) tab163) (Nat.le_of_ble_eq_true rfl) ?_); (show wp C _ none B163.code _ _); (simp only [B163]); simp -implicitDefEqProofs (disch := first | assumption | decide | omega | (simp only [wpD1] <;> omega) | (simp only [wpD2] <;> assumption) | solve_by_elim [HSub.refl, HSub.push, HSub.reserve] | fail) only [↓wpPre, wpPost, wpPoly, Int.reduceToNat, Int.reducePow, Int.reduceMul, Int.reduceAdd, Int.reduceSub, Int.reduceNeg, Nat.reduceAdd, Nat.reduceMul, Nat.reducePow, Int.reduceLT, Int.reduceLE, Int.reduceEq, Nat.reduceEqDiff]
  refine ACallsK.of (k1 _ _ _ (by simp -implicitDefEqProofs (disch := first | assumption | decide | omega | (simp only [wpD1] <;> omega) | (simp only [wpD2] <;> assumption) | solve_by_elim [HSub.refl, HSub.push, HSub.reserve] | fail) only [↓wpPre, wpPost, wpPoly, Int.reduceToNat, Int.reducePow, Int.reduceMul, Int.reduceAdd, Int.reduceSub, Int.reduceNeg, Nat.reduceAdd, Nat.reduceMul, Nat.reducePow, Int.reduceLT, Int.reduceLE, Int.reduceEq, Nat.reduceEqDiff]; rfl) (by simp -implicitDefEqProofs (disch := first | assumption | decide | omega | (simp only [wpD1] <;> omega) | (simp only [wpD2] <;> assumption) | solve_by_elim [HSub.refl, HSub.push, HSub.reserve] | fail) only [↓wpPre, wpPost, wpPoly, Int.reduceToNat, Int.reducePow, Int.reduceMul, Int.reduceAdd, Int.reduceSub, Int.reduceNeg, Nat.reduceAdd, Nat.reduceMul, Nat.reducePow, Int.reduceLT, Int.reduceLE, Int.reduceEq, Nat.reduceEqDiff]; rfl)) ?_
  rintro r h1 ⟨v1, rfl, s1, R1⟩
  have t1 : HSub h h1 := ((HSub.push1 _ _).push _).trans s1
  simp -implicitDefEqProofs (disch := first | assumption | decide | omega | (simp only [wpD1] <;> omega) | (simp only [wpD2] <;> assumption) | solve_by_elim [HSub.refl, HSub.push, HSub.reserve] | fail) only [↓wpPre, wpPost, wpPoly, Int.reduceToNat, Int.reducePow, Int.reduceMul, Int.reduceAdd, Int.reduceSub, Int.reduceNeg, Nat.reduceAdd, Nat.reduceMul, Nat.reducePow, Int.reduceLT, Int.reduceLE, Int.reduceEq, Nat.reduceEqDiff, lstErr]
  refine ACallsK.of (k2 _) ?_
  rintro r h2 ⟨v2, rfl, s2, R2⟩
  have t2 := t1.trans s2
  simp -implicitDefEqProofs (disch := first | assumption | decide | omega | (simp only [wpD1] <;> omega) | (simp only [wpD2] <;> assumption) | solve_by_elim [HSub.refl, HSub.push, HSub.reserve] | fail) only [↓wpPre, wpPost, wpPoly, Int.reduceToNat, Int.reducePow, Int.reduceMul, Int.reduceAdd, Int.reduceSub, Int.reduceNeg, Nat.reduceAdd, Nat.reduceMul, Nat.reducePow, Int.reduceLT, Int.reduceLE, Int.reduceEq, Nat.reduceEqDiff, lstErr]
  refine ACallsK.of (k3 _) ?_
  rintro r h3 ⟨rfl, s3⟩
  have t3 := t2.trans s3
  have R1 := R1.mono (s2.trans s3)
  have R2 := R2.mono s3
  have E := Equal_spec (hC.sub (T' := T12) (by decide)) (h := h3.push (.cells [.int .i64 1, .int .i64 3, .int .i64 2] true 0)) (vb := .slice h3.size 0 3 (.known 3)) (b := [1, 3, 2]) (R1.mono (HSub.push1 _ _)) (RI.known (get_push_eq rfl) ⟨rfl, by decide⟩ (by decide))
  rw [decide_eq_true rfl] at E
  simp -implicitDefEqProofs (disch := first | assumption | decide | omega | (simp only [wpD1] <;> omega) | (simp only [wpD2] <;> assumption) | solve_by_elim [HSub.refl, HSub.push, HSub.reserve] | fail) only [↓wpPre, wpPost, wpPoly, Int.reduceToNat, Int.reducePow, Int.reduceMul, Int.reduceAdd, Int.reduceSub, Int.reduceNeg, Nat.reduceAdd, Nat.reduceMul, Nat.reducePow, Int.reduceLT, Int.reduceLE, Int.reduceEq, Nat.reduceEqDiff, tup3]
  refine ACallsK.eq E ?_
  simp -implicitDefEqProofs (disch := first | assumption | decide | omega | (simp only [wpD1] <;> omega) | (simp only [wpD2] <;> assumption) | solve_by_elim [HSub.refl, HSub.push, HSub.reserve] | fail) only [↓wpPre, wpPost, wpPoly, Int.reduceToNat, Int.reducePow, Int.reduceMul, Int.reduceAdd, Int.reduceSub, Int.reduceNeg, Nat.reduceAdd, Nat.reduceMul, Nat.reducePow, Int.reduceLT, Int.reduceLE, Int.reduceEq, Nat.reduceEqDiff]
  refine ACallsK.of (pairs_spec (hC.sub (T' := T167) (by decide)) (R2.mono (HSub.push1 _ _)) (by decide)) ?_
  rintro r h4 ⟨s4, R4⟩
  have t4 : HSub h h4 := (t3.push _).trans s4
  have hq : HSub h4 (((h4.push (.cells [.int .i64 (-1), .int .i64 30] true 0)).push (.cells [.int .i64 31, .int .i64 1] true 0)).push (.cells [.slice h4.size 0 2 (.known 2), .slice (h4.size + 1) 0 2 (.known 2)] true 0)) := (by repeat (first | exact HSub.refl _ | refine HSub.put ?_ (by (try simp only [Heap.size_put, Heap.size_push, Heap.size_reserve]); omega) _ | refine HSub.push ?_ _ | refine HSub.reserve ?_ _))
  have L2 : LLI (((h4.push (.cells [.int .i64 (-1), .int .i64 30] true 0)).push (.cells [.int .i64 31, .int .i64 1] true 0)).push (.cells [.slice h4.size 0 2 (.known 2), .slice (h4.size + 1) 0 2 (.known 2)] true 0)) (.slice (h4.size + 1 + 1) 0 2 (.known 2)) [[-1, 30], [31, 1]] := by
    refine ⟨[.slice h4.size 0 2 (.known 2), .slice (h4.size + 1) 0 2 (.known 2)], ⟨rfl, by decide, .inr ⟨_, 0, _, [.slice h4.size 0 2 (.known 2), .slice (h4.size + 1) 0 2 (.known 2)], true, 0, rfl, get_push_eq rfl, by simp, rfl, by decide⟩⟩, rfl, fun i hi => ?_⟩
    have : i = 0 ∨ i = 1 := by simp at hi; omega
    rcases this with rfl | rfl
    · exact RI.known (wr := true) (u := 0) (by simp -implicitDefEqProofs (disch := first | assumption | decide | omega | (simp only [wpD1] <;> omega) | (simp only [wpD2] <;> assumption) | solve_by_elim [HSub.refl, HSub.push, HSub.reserve] | fail) only [↓wpPre, wpPost, wpPoly, Int.reduceToNat, Int.reducePow, Int.reduceMul, Int.reduceAdd, Int.reduceSub, Int.reduceNeg, Nat.reduceAdd, Nat.reduceMul, Nat.reducePow, Int.reduceLT, Int.reduceLE, Int.reduceEq, Nat.reduceEqDiff]; rfl) ⟨rfl, by decide⟩ (by decide)
    · exact RI.known (wr := true) (u := 0) (by simp -implicitDefEqProofs (disch := first | assumption | decide | omega | (simp only [wpD1] <;> omega) | (simp only [wpD2] <;> assumption) | solve_by_elim [HSub.refl, HSub.push, HSub.reserve] | fail) only [↓wpPre, wpPost, wpPoly, Int.reduceToNat, Int.reducePow, Int.reduceMul, Int.reduceAdd, Int.reduceSub, Int.reduceNeg, Nat.reduceAdd, Nat.reduceMul, Nat.reducePow, Int.reduceLT, Int.reduceLE, Int.reduceEq, Nat.reduceEqDiff]; rfl) ⟨rfl, by decide⟩ (by decide)
  have L := lists_spec (hC.sub (T' := T166) (by decide)) (R4.mono hq) L2
  rw [decide_eq_true (show pairL [(-1, 30), (31, 1)] = [[-1, 30], [31, 1]] from rfl)] at L
  simp -implicitDefEqProofs (disch := first | assumption | decide | omega | (simp only [wpD1] <;> omega) | (simp only [wpD2] <;> assumption) | solve_by_elim [HSub.refl, HSub.push, HSub.reserve] | fail) only [↓wpPre, wpPost, wpPoly, Int.reduceToNat, Int.reducePow, Int.reduceMul, Int.reduceAdd, Int.reduceSub, Int.reduceNeg, Nat.reduceAdd, Nat.reduceMul, Nat.reducePow, Int.reduceLT, Int.reduceLE, Int.reduceEq, Nat.reduceEqDiff]
  refine ACallsK.eq L ?_
  simp -implicitDefEqProofs (disch := first | assumption | decide | omega | (simp only [wpD1] <;> omega) | (simp only [wpD2] <;> assumption) | solve_by_elim [HSub.refl, HSub.push, HSub.reserve] | fail) only [↓wpPre, wpPost, wpPoly, Int.reduceToNat, Int.reducePow, Int.reduceMul, Int.reduceAdd, Int.reduceSub, Int.reduceNeg, Nat.reduceAdd, Nat.reduceMul, Nat.reducePow, Int.reduceLT, Int.reduceLE, Int.reduceEq, Nat.reduceEqDiff]
  exact t4.trans hq
end
end Go.Ae

/- The chapter's examples of layer 9, by contracts. -/
set_option linter.unusedSimpArgs false
set_option linter.unusedVariables false
namespace Go.Ae
theorem k_samp1 : sampErr 5 2 [1] = 0 ∧ sampErr 5 9 [1] = 2 ∧ sampErr 8 2 [1] = 2 ∧ sampErr 5 2 [34] = 2 := by decide +kernel
theorem k_samp2 : (sampL 5 1 2).length = 62 ∧ (sampL 5 1 2).take 7 = [-1, -1, -1, -1, -1, -1, -1] := by decide +kernel
theorem k_circ : circErr [1, 2] [3] = 10 ∧ circErr [] [] = 3 := by decide +kernel
theorem k_spec : sampErr 5 1 [1, 2] = 0 := by decide +kernel
theorem k_parts1 : partsE 5 2 1 1 0 0 = tup3 0 62 0 := by
  have ok : partsOk 5 2 1 1 0 0 := by decide +kernel
  unfold partsE
  rw [if_pos ok]
  have e1 : pf (sampL 5 1 (2 : Int).toNat) (sampL 5 1 (2 : Int).toNat) 0 0 (0 : Int).toNat = 0 := by decide +kernel
  have e2 : ps (sampL 5 1 (2 : Int).toNat) (sampL 5 1 (2 : Int).toNat) (0 : Int).toNat ((sampL 5 1 (2 : Int).toNat).length - (0 : Int).toNat) = 62 := by decide +kernel
  rw [e1, e2]
theorem k_parts2 : partsE 5 2 1 1 62 0 = tup3 62 0 0 := by
  have ok : partsOk 5 2 1 1 62 0 := by decide +kernel
  unfold partsE
  rw [if_pos ok]
  have e1 : pf (sampL 5 1 (2 : Int).toNat) (sampL 5 1 (2 : Int).toNat) 62 0 (62 : Int).toNat = 62 := by decide +kernel
  have e2 : ps (sampL 5 1 (2 : Int).toNat) (sampL 5 1 (2 : Int).toNat) (62 : Int).toNat ((sampL 5 1 (2 : Int).toNat).length - (62 : Int).toNat) = 0 := by decide +kernel
  rw [e1, e2]
theorem k_parts3 : partsE 5 2 1 1 62 (-1) = tup3 0 0 2 := by
  have ok : ¬ partsOk 5 2 1 1 62 (-1) := by decide +kernel
  unfold partsE
  rw [if_neg ok]
theorem k_parts4 : partsE 5 2 1 1 0 2 = tup3 0 0 2 := by
  have ok : ¬ partsOk 5 2 1 1 0 2 := by decide +kernel
  unfold partsE
  rw [if_neg ok]
theorem k_parts5 : partsE 5 1 1 1 1 0 = tup3 (-1) 0 0 := by
  have ok : partsOk 5 1 1 1 1 0 := by decide +kernel
  unfold partsE
  rw [if_pos ok]
  have e1 : pf (sampL 5 1 (1 : Int).toNat) (sampL 5 1 (1 : Int).toNat) 1 0 (1 : Int).toNat = -1 := by decide +kernel
  have e2 : ps (sampL 5 1 (1 : Int).toNat) (sampL 5 1 (1 : Int).toNat) (1 : Int).toNat ((sampL 5 1 (1 : Int).toNat).length - (1 : Int).toNat) = 0 := by decide +kernel
  rw [e1, e2]
theorem k_tab : tabErr 5 2 [1, 1] = 8 ∧ tabErr 5 2 [] = 3 := by decide +kernel
theorem k_cross : crossE 5 2 1 1 = tup2 62 0 := by
  have ok : sampErr 5 2 [1, 1] = 0 := by decide +kernel
  unfold crossE
  rw [if_pos ok]
  have e : greatI (sampL 5 1 (2 : Int).toNat) (sampL 5 1 (2 : Int).toNat) 0 = 62 := by decide +kernel
  rw [e]
section
variable {C : Ctx}
set_option maxHeartbeats 4000000 in
set_option maxRecDepth 20000 in
theorem known157_spec (hC : Has C T157) (hS : SortOk C 178) {h : Heap} : ACalls C 157 [] h (fun r h' => r = .bool true ∧ h' = h) := by
  refine ACalls.gc0 (P := fun r h' => r = .bool true ∧ HSub h h') ?_ (fun r h' hp => ⟨by rw [hp.1]; trivial, hp.2, hp.1, rfl⟩)
  have iN : ∀ n : Int, -100 ≤ n ∧ n ≤ 100 → In64 n := fun n hn => by unfold In64; omega
  have hsC : Has C T131 := hC.sub (by decide)
  have a1 := fun h => SamplesC_spec hsC (d := 5) (o := 2) (p := 1) (h := h) (iN _ (by decide)) (iN _ (by decide)) (iN _ (by decide))
  have a2 := fun h => SamplesC_spec hsC (d := 5) (o := 9) (p := 1) (h := h) (iN _ (by decide)) (iN _ (by decide)) (iN _ (by decide))
  have a3 := fun h => SamplesC_spec hsC (d := 8) (o := 2) (p := 1) (h := h) (iN _ (by decide)) (iN _ (by decide)) (iN _ (by decide))
  have a4 := fun h => SamplesC_spec hsC (d := 5) (o := 2) (p := 34) (h := h) (iN _ (by decide)) (iN _ (by decide)) (iN _ (by decide))
  simp only [k_samp1.1, if_true, show (2 : Int).toNat = 2 from rfl] at a1
  simp only [k_samp1.2.1] at a2
  simp only [k_samp1.2.2.1] at a3
  simp only [k_samp1.2.2.2] at a4
  have b1 := fun (h : Heap) (i j : Nat) (g1 : h.get i = some (.cells (ints [1, 2]) true 0)) (g2 : h.get j = some (.cells (ints [3]) true 0)) => CircP_spec (hC.sub (T' := T25) (by decide)) (h := h) (va := .slice i 0 2 (.known 2)) (vb := .slice j 0 1 (.known 1)) (RI.known g1 ⟨rfl, by decide⟩ (by decide)) (RI.known g2 ⟨rfl, by decide⟩ (by decide))
  have b2 := fun (h : Heap) => CircP_spec (hC.sub (T' := T25) (by decide)) (h := h) (va := .nilslice) (vb := .nilslice) RI.nil RI.nil
  simp only [k_circ.1] at b1
  simp only [k_circ.2] at b2
  have c1 := fun h => Spectrum_spec (hC.sub (T' := T164) (by decide)) hS (d := 5) (p := 1) (q := 2) (h := h) (iN _ (by decide)) (iN _ (by decide)) (iN _ (by decide))
  obtain ⟨x1, x2, x3, hsp⟩ := spec512
  simp only [k_spec, if_true, hsp] at c1
  have hpC : Has C T170 := hC.sub (by decide)
  have d1 := fun h => Parts_spec hpC (d := 5) (o := 2) (p := 1) (q := 1) (m := 0) (s := 0) (h := h) (iN _ (by decide)) (iN _ (by decide)) (iN _ (by decide)) (iN _ (by decide)) (iN _ (by decide)) (iN _ (by decide))
  have d2 := fun h => Parts_spec hpC (d := 5) (o := 2) (p := 1) (q := 1) (m := 62) (s := 0) (h := h) (iN _ (by decide)) (iN _ (by decide)) (iN _ (by decide)) (iN _ (by decide)) (iN _ (by decide)) (iN _ (by decide))
  have d3 := fun h => Parts_spec hpC (d := 5) (o := 2) (p := 1) (q := 1) (m := 62) (s := -1) (h := h) (iN _ (by decide)) (iN _ (by decide)) (iN _ (by decide)) (iN _ (by decide)) (iN _ (by decide)) (iN _ (by decide))
  have d4 := fun h => Parts_spec hpC (d := 5) (o := 2) (p := 1) (q := 1) (m := 0) (s := 2) (h := h) (iN _ (by decide)) (iN _ (by decide)) (iN _ (by decide)) (iN _ (by decide)) (iN _ (by decide)) (iN _ (by decide))
  have d5 := fun h => Parts_spec hpC (d := 5) (o := 1) (p := 1) (q := 1) (m := 1) (s := 0) (h := h) (iN _ (by decide)) (iN _ (by decide)) (iN _ (by decide)) (iN _ (by decide)) (iN _ (by decide)) (iN _ (by decide))
  simp only [k_parts1] at d1
  simp only [k_parts2] at d2
  simp only [k_parts3] at d3
  simp only [k_parts4] at d4
  simp only [k_parts5] at d5
  have f1 := fun (h : Heap) (i : Nat) (g1 : h.get i = some (.cells (ints [1, 1]) true 0)) => Table_spec (hC.sub (T' := T172) (by decide)) (d := 5) (o := 2) (vp := .slice i 0 2 (.known 2)) (ps := [1, 1]) (h := h) (iN _ (by decide)) (iN _ (by decide)) (RI.known g1 ⟨rfl, by decide⟩ (by decide)) (by intro x hx; exact iN x (by simp at hx; omega))
  have f2 := fun (h : Heap) => Table_spec (hC.sub (T' := T172) (by decide)) (d := 5) (o := 2) (vp := .nilslice) (ps := []) (h := h) (iN _ (by decide)) (iN _ (by decide)) RI.nil (by simp)
  simp only [k_tab.1] at f1
  simp only [k_tab.2] at f2
  have g1 := fun h => Cross_spec (hC.sub (T' := T173) (by decide)) (d := 5) (o := 2) (p := 1) (q := 1) (h := h) (iN _ (by decide)) (iN _ (by decide)) (iN _ (by decide)) (iN _ (by decide))
  simp only [k_cross] at g1
  have aw := fun h => awake163_spec (hC.sub (T' := T163) (by decide)) hS (h := h)
  have l1 := k_samp2.1
  have tk := k_samp2.2
  generalize sampL 5 1 2 = L at a1 l1 tk
  (refine calls_intro (hC.body (by decide) tab157) (Nat.le_of_ble_eq_true rfl) ?_); (show wp C _ none B157.code _ _); (simp only [B157]); simp -implicitDefEqProofs (disch := first | assumption | decide | omega | (simp only [wpD1] <;> omega) | (simp only [wpD2] <;> assumption) | solve_by_elim [HSub.refl, HSub.push, HSub.reserve] | fail) only [↓wpPre, wpPost, wpPoly, Int.reduceToNat, Int.reducePow, Int.reduceMul, Int.reduceAdd, Int.reduceSub, Int.reduceNeg, Nat.reduceAdd, Nat.reduceMul, Nat.reducePow, Int.reduceLT, Int.reduceLE, Int.reduceEq, Nat.reduceEqDiff]
  refine ACallsK.of (a1 _) ?_
  rintro r h1 ⟨v1, rfl, s1, R1⟩
  simp -implicitDefEqProofs (disch := first | assumption | decide | omega | (simp only [wpD1] <;> omega) | (simp only [wpD2] <;> assumption) | solve_by_elim [HSub.refl, HSub.push, HSub.reserve] | fail) only [↓wpPre, wpPost, wpPoly, Int.reduceToNat, Int.reducePow, Int.reduceMul, Int.reduceAdd, Int.reduceSub, Int.reduceNeg, Nat.reduceAdd, Nat.reduceMul, Nat.reducePow, Int.reduceLT, Int.reduceLE, Int.reduceEq, Nat.reduceEqDiff, lstErr]
  refine ACallsK.of (a2 _) ?_
  rintro r h2 ⟨v2, rfl, s2, _⟩
  simp -implicitDefEqProofs (disch := first | assumption | decide | omega | (simp only [wpD1] <;> omega) | (simp only [wpD2] <;> assumption) | solve_by_elim [HSub.refl, HSub.push, HSub.reserve] | fail) only [↓wpPre, wpPost, wpPoly, Int.reduceToNat, Int.reducePow, Int.reduceMul, Int.reduceAdd, Int.reduceSub, Int.reduceNeg, Nat.reduceAdd, Nat.reduceMul, Nat.reducePow, Int.reduceLT, Int.reduceLE, Int.reduceEq, Nat.reduceEqDiff, lstErr]
  refine ACallsK.of (a3 _) ?_
  rintro r h3 ⟨v3, rfl, s3, _⟩
  simp -implicitDefEqProofs (disch := first | assumption | decide | omega | (simp only [wpD1] <;> omega) | (simp only [wpD2] <;> assumption) | solve_by_elim [HSub.refl, HSub.push, HSub.reserve] | fail) only [↓wpPre, wpPost, wpPoly, Int.reduceToNat, Int.reducePow, Int.reduceMul, Int.reduceAdd, Int.reduceSub, Int.reduceNeg, Nat.reduceAdd, Nat.reduceMul, Nat.reducePow, Int.reduceLT, Int.reduceLE, Int.reduceEq, Nat.reduceEqDiff, lstErr]
  refine ACallsK.of (a4 _) ?_
  rintro r h4 ⟨v4, rfl, s4, _⟩
  have S4 := ((s1.trans s2).trans s3).trans s4
  have R1 := R1.mono ((s2.trans s3).trans s4)
  have xp := R1.part_b (k2 := .i64) (b := 7) (by omega)
  obtain ⟨w, ew, Rw⟩ := xp
  rw [show (7 : Int).toNat = 7 from rfl, tk] at Rw
  have ew := ew h4 (HSub.refl _)
  simp -implicitDefEqProofs (disch := first | assumption | decide | omega | (simp only [wpD1] <;> omega) | (simp only [wpD2] <;> assumption) | solve_by_elim [HSub.refl, HSub.push, HSub.reserve] | fail) only [↓wpPre, wpPost, wpPoly, Int.reduceToNat, Int.reducePow, Int.reduceMul, Int.reduceAdd, Int.reduceSub, Int.reduceNeg, Nat.reduceAdd, Nat.reduceMul, Nat.reducePow, Int.reduceLT, Int.reduceLE, Int.reduceEq, Nat.reduceEqDiff, lstErr, R1.len, l1, ew]
  have E7 := Equal_spec (hC.sub (T' := T12) (by decide)) (h := h4.push (.cells (ints [-1, -1, -1, -1, -1, -1, -1]) true 0)) (vb := .slice h4.size 0 7 (.known 7)) (b := [-1, -1, -1, -1, -1, -1, -1]) (Rw.mono (HSub.push1 _ _)) (RI.known (get_push_eq rfl) ⟨rfl, by decide⟩ (by decide))
  rw [decide_eq_true rfl] at E7
  refine ACallsK.eq E7 ?_
  have S5 : HSub h (h4.push (.cells (ints [-1, -1, -1, -1, -1, -1, -1]) true 0)) := S4.push _
  simp -implicitDefEqProofs (disch := first | assumption | decide | omega | (simp only [wpD1] <;> omega) | (simp only [wpD2] <;> assumption) | solve_by_elim [HSub.refl, HSub.push, HSub.reserve] | fail) only [↓wpPre, wpPost, wpPoly, Int.reduceToNat, Int.reducePow, Int.reduceMul, Int.reduceAdd, Int.reduceSub, Int.reduceNeg, Nat.reduceAdd, Nat.reduceMul, Nat.reducePow, Int.reduceLT, Int.reduceLE, Int.reduceEq, Nat.reduceEqDiff]
  refine ACallsK.hide (fun H hH => ?_)
  have gA : H.get (h4.size + 1) = some (.cells (ints [1, 2]) true 0) := by rw [hH]; simp -implicitDefEqProofs (disch := first | assumption | decide | omega | (simp only [wpD1] <;> omega) | (simp only [wpD2] <;> assumption) | solve_by_elim [HSub.refl, HSub.push, HSub.reserve] | fail) only [↓wpPre, wpPost, wpPoly, Int.reduceToNat, Int.reducePow, Int.reduceMul, Int.reduceAdd, Int.reduceSub, Int.reduceNeg, Nat.reduceAdd, Nat.reduceMul, Nat.reducePow, Int.reduceLT, Int.reduceLE, Int.reduceEq, Nat.reduceEqDiff]; rfl
  have gB : H.get (h4.size + 2) = some (.cells (ints [3]) true 0) := by rw [hH]; simp -implicitDefEqProofs (disch := first | assumption | decide | omega | (simp only [wpD1] <;> omega) | (simp only [wpD2] <;> assumption) | solve_by_elim [HSub.refl, HSub.push, HSub.reserve] | fail) only [↓wpPre, wpPost, wpPoly, Int.reduceToNat, Int.reducePow, Int.reduceMul, Int.reduceAdd, Int.reduceSub, Int.reduceNeg, Nat.reduceAdd, Nat.reduceMul, Nat.reducePow, Int.reduceLT, Int.reduceLE, Int.reduceEq, Nat.reduceEqDiff]; rfl
  have SH : HSub h H := by rw [hH]; exact (S5.push _).push _
  clear hH
  refine ACallsK.of (b1 _ _ _ gA gB) ?_
  rintro r h6 ⟨v6, rfl, s6, _⟩
  have S6 : HSub h h6 := SH.trans s6
  simp -implicitDefEqProofs (disch := first | assumption | decide | omega | (simp only [wpD1] <;> omega) | (simp only [wpD2] <;> assumption) | solve_by_elim [HSub.refl, HSub.push, HSub.reserve] | fail) only [↓wpPre, wpPost, wpPoly, Int.reduceToNat, Int.reducePow, Int.reduceMul, Int.reduceAdd, Int.reduceSub, Int.reduceNeg, Nat.reduceAdd, Nat.reduceMul, Nat.reducePow, Int.reduceLT, Int.reduceLE, Int.reduceEq, Nat.reduceEqDiff, lstErr]
  refine ACallsK.of (b2 _) ?_
  rintro r h7 ⟨v7, rfl, s7, _⟩
  have S7 := S6.trans s7
  simp -implicitDefEqProofs (disch := first | assumption | decide | omega | (simp only [wpD1] <;> omega) | (simp only [wpD2] <;> assumption) | solve_by_elim [HSub.refl, HSub.push, HSub.reserve] | fail) only [↓wpPre, wpPost, wpPoly, Int.reduceToNat, Int.reducePow, Int.reduceMul, Int.reduceAdd, Int.reduceSub, Int.reduceNeg, Nat.reduceAdd, Nat.reduceMul, Nat.reducePow, Int.reduceLT, Int.reduceLE, Int.reduceEq, Nat.reduceEqDiff, lstErr]
  refine ACallsK.of (c1 _) ?_
  rintro r h8 ⟨v8, rfl, s8, R8⟩
  have S8 := S7.trans s8
  have q0 := R8.load0 (k := 0) (by simp)
  have q1 := R8.load0 (k := 1) (by simp)
  have q2 := R8.load0 (k := 2) (by simp)
  have ix : ∀ k : Nat, k < 3 → idxA 2 v8 (.int .i64 (k : Nat)) = some (elA 2 v8 k) := fun k hk => R8.idx ⟨by omega, by simp; omega⟩
  have ia : ∀ k : Nat, k < 3 → idxArrA 1 2 (elA 2 v8 k) (.int .i64 0) = some (elF 2 v8 k 0) := by
    intro k hk
    have x8 := R8.2.2
    rcases x8 with ⟨_, h1⟩ | ⟨i, oo, c, ws, wr, u, hv, _⟩
    · simp at h1
    · rw [hv]; rfl
  have i0 : idxA 2 v8 (.int .i64 0) = some (elA 2 v8 0) := ix 0 (by decide)
  have i1 : idxA 2 v8 (.int .i64 1) = some (elA 2 v8 1) := ix 1 (by decide)
  have i2 : idxA 2 v8 (.int .i64 2) = some (elA 2 v8 2) := ix 2 (by decide)
  have j0 := ia 0 (by decide)
  have j1 := ia 1 (by decide)
  have j2 := ia 2 (by decide)
  have ln := R8.len
  simp only [List.length_cons, List.length_nil, List.getD_cons_zero, List.getD_cons_succ] at ln q0 q1 q2
  simp -implicitDefEqProofs (disch := first | assumption | decide | omega | (simp only [wpD1] <;> omega) | (simp only [wpD2] <;> assumption) | solve_by_elim [HSub.refl, HSub.push, HSub.reserve] | fail) only [↓wpPre, wpPost, wpPoly, Int.reduceToNat, Int.reducePow, Int.reduceMul, Int.reduceAdd, Int.reduceSub, Int.reduceNeg, Nat.reduceAdd, Nat.reduceMul, Nat.reducePow, Int.reduceLT, Int.reduceLE, Int.reduceEq, Nat.reduceEqDiff, lstErr, ln, i0, i1, i2, j0, j1, j2, q0, q1, q2]
  refine ACallsK.of (d1 _) ?_
  rintro r h9 ⟨rfl, s9⟩
  have S9 := S8.trans s9
  simp -implicitDefEqProofs (disch := first | assumption | decide | omega | (simp only [wpD1] <;> omega) | (simp only [wpD2] <;> assumption) | solve_by_elim [HSub.refl, HSub.push, HSub.reserve] | fail) only [↓wpPre, wpPost, wpPoly, Int.reduceToNat, Int.reducePow, Int.reduceMul, Int.reduceAdd, Int.reduceSub, Int.reduceNeg, Nat.reduceAdd, Nat.reduceMul, Nat.reducePow, Int.reduceLT, Int.reduceLE, Int.reduceEq, Nat.reduceEqDiff, tup3]
  refine ACallsK.of (d2 _) ?_
  rintro r h10 ⟨rfl, s10⟩
  have S10 := S9.trans s10
  simp -implicitDefEqProofs (disch := first | assumption | decide | omega | (simp only [wpD1] <;> omega) | (simp only [wpD2] <;> assumption) | solve_by_elim [HSub.refl, HSub.push, HSub.reserve] | fail) only [↓wpPre, wpPost, wpPoly, Int.reduceToNat, Int.reducePow, Int.reduceMul, Int.reduceAdd, Int.reduceSub, Int.reduceNeg, Nat.reduceAdd, Nat.reduceMul, Nat.reducePow, Int.reduceLT, Int.reduceLE, Int.reduceEq, Nat.reduceEqDiff, tup3]
  refine ACallsK.of (d3 _) ?_
  rintro r h11 ⟨rfl, s11⟩
  have S11 := S10.trans s11
  simp -implicitDefEqProofs (disch := first | assumption | decide | omega | (simp only [wpD1] <;> omega) | (simp only [wpD2] <;> assumption) | solve_by_elim [HSub.refl, HSub.push, HSub.reserve] | fail) only [↓wpPre, wpPost, wpPoly, Int.reduceToNat, Int.reducePow, Int.reduceMul, Int.reduceAdd, Int.reduceSub, Int.reduceNeg, Nat.reduceAdd, Nat.reduceMul, Nat.reducePow, Int.reduceLT, Int.reduceLE, Int.reduceEq, Nat.reduceEqDiff, tup3]
  refine ACallsK.of (d4 _) ?_
  rintro r h12 ⟨rfl, s12⟩
  have S12 := S11.trans s12
  simp -implicitDefEqProofs (disch := first | assumption | decide | omega | (simp only [wpD1] <;> omega) | (simp only [wpD2] <;> assumption) | solve_by_elim [HSub.refl, HSub.push, HSub.reserve] | fail) only [↓wpPre, wpPost, wpPoly, Int.reduceToNat, Int.reducePow, Int.reduceMul, Int.reduceAdd, Int.reduceSub, Int.reduceNeg, Nat.reduceAdd, Nat.reduceMul, Nat.reducePow, Int.reduceLT, Int.reduceLE, Int.reduceEq, Nat.reduceEqDiff, tup3]
  refine ACallsK.of (d5 _) ?_
  rintro r h13 ⟨rfl, s13⟩
  have S13 := S12.trans s13
  simp -implicitDefEqProofs (disch := first | assumption | decide | omega | (simp only [wpD1] <;> omega) | (simp only [wpD2] <;> assumption) | solve_by_elim [HSub.refl, HSub.push, HSub.reserve] | fail) only [↓wpPre, wpPost, wpPoly, Int.reduceToNat, Int.reducePow, Int.reduceMul, Int.reduceAdd, Int.reduceSub, Int.reduceNeg, Nat.reduceAdd, Nat.reduceMul, Nat.reducePow, Int.reduceLT, Int.reduceLE, Int.reduceEq, Nat.reduceEqDiff, tup3]
  refine ACallsK.of (f1 _ _ (by simp -implicitDefEqProofs (disch := first | assumption | decide | omega | (simp only [wpD1] <;> omega) | (simp only [wpD2] <;> assumption) | solve_by_elim [HSub.refl, HSub.push, HSub.reserve] | fail) only [↓wpPre, wpPost, wpPoly, Int.reduceToNat, Int.reducePow, Int.reduceMul, Int.reduceAdd, Int.reduceSub, Int.reduceNeg, Nat.reduceAdd, Nat.reduceMul, Nat.reducePow, Int.reduceLT, Int.reduceLE, Int.reduceEq, Nat.reduceEqDiff]; rfl)) ?_
  rintro r h14 ⟨v14, rfl, s14, _⟩
  have S14 := (S13.push _).trans s14
  simp -implicitDefEqProofs (disch := first | assumption | decide | omega | (simp only [wpD1] <;> omega) | (simp only [wpD2] <;> assumption) | solve_by_elim [HSub.refl, HSub.push, HSub.reserve] | fail) only [↓wpPre, wpPost, wpPoly, Int.reduceToNat, Int.reducePow, Int.reduceMul, Int.reduceAdd, Int.reduceSub, Int.reduceNeg, Nat.reduceAdd, Nat.reduceMul, Nat.reducePow, Int.reduceLT, Int.reduceLE, Int.reduceEq, Nat.reduceEqDiff, lstErr]
  refine ACallsK.of (f2 _) ?_
  rintro r h15 ⟨v15, rfl, s15, _⟩
  have S15 := S14.trans s15
  simp -implicitDefEqProofs (disch := first | assumption | decide | omega | (simp only [wpD1] <;> omega) | (simp only [wpD2] <;> assumption) | solve_by_elim [HSub.refl, HSub.push, HSub.reserve] | fail) only [↓wpPre, wpPost, wpPoly, Int.reduceToNat, Int.reducePow, Int.reduceMul, Int.reduceAdd, Int.reduceSub, Int.reduceNeg, Nat.reduceAdd, Nat.reduceMul, Nat.reducePow, Int.reduceLT, Int.reduceLE, Int.reduceEq, Nat.reduceEqDiff, lstErr]
  refine ACallsK.of (g1 _) ?_
  rintro r h16 ⟨rfl, s16⟩
  have S16 := S15.trans s16
  simp -implicitDefEqProofs (disch := first | assumption | decide | omega | (simp only [wpD1] <;> omega) | (simp only [wpD2] <;> assumption) | solve_by_elim [HSub.refl, HSub.push, HSub.reserve] | fail) only [↓wpPre, wpPost, wpPoly, Int.reduceToNat, Int.reducePow, Int.reduceMul, Int.reduceAdd, Int.reduceSub, Int.reduceNeg, Nat.reduceAdd, Nat.reduceMul, Nat.reducePow, Int.reduceLT, Int.reduceLE, Int.reduceEq, Nat.reduceEqDiff, tup2]
  refine ACallsK.eq (aw _) ?_
  simp -implicitDefEqProofs (disch := first | assumption | decide | omega | (simp only [wpD1] <;> omega) | (simp only [wpD2] <;> assumption) | solve_by_elim [HSub.refl, HSub.push, HSub.reserve] | fail) only [↓wpPre, wpPost, wpPoly, Int.reduceToNat, Int.reducePow, Int.reduceMul, Int.reduceAdd, Int.reduceSub, Int.reduceNeg, Nat.reduceAdd, Nat.reduceMul, Nat.reducePow, Int.reduceLT, Int.reduceLE, Int.reduceEq, Nat.reduceEqDiff]
  exact S16
end
end Go.Ae

/- The statement on bounds that are reached, of layer 9. -/
set_option linter.unusedSimpArgs false
set_option linter.unusedVariables false
namespace Go.Ae
theorem gM_ge {a b : List Int} {s : Int} {lo : Nat} : ∀ (k : Nat) (x : Int), x ≤ gM a b s lo k x
  | 0, x => Int.le_refl _
  | k + 1, x => by have := gM_ge (a := a) (b := b) (s := s) (lo := lo) k x; rw [gM]; omega
theorem gM_at {a b : List Int} {s : Int} {lo : Nat} {x : Int} : ∀ (k j : Nat), j < k → plc a b s (lo + j) ≤ gM a b s lo k x
  | 0, j, h => by omega
  | k + 1, j, h => by
    rw [gM]
    rcases Nat.lt_or_ge j k with y | y
    · have := gM_at (a := a) (b := b) (s := s) (lo := lo) (x := x) k j y; omega
    · have : j = k := by omega
      subst this; omega
section
variable {C : Ctx}
end
end Go.Ae

/- Windows over a stream of four pieces: what one placement's sums are bounded by. -/
set_option linter.unusedSimpArgs false
set_option linter.unusedVariables false
namespace Go.Ae
theorem plc_great {a b : List Int} {s : Int} {mg m : Nat} (hs : -1 ≤ s ∧ s ≤ 1) (h1 : mg ≤ m) (h2 : m - mg < cntM a.length mg s) : plc a b s m ≤ greatI a b mg := by
  have g : ∀ x, plc a b s m ≤ gM a b s mg (cntM a.length mg s) x := fun x => by
    have := gM_at (a := a) (b := b) (s := s) (lo := mg) (x := x) (cntM a.length mg s) (m - mg) h2
    rwa [show mg + (m - mg) = m by omega] at this
  unfold greatI
  rcases (show s = -1 ∨ s = 0 ∨ s = 1 by omega) with rfl | rfl | rfl
  · exact Int.le_trans (g 0) (Int.le_trans (gM_ge _ _) (gM_ge _ _))
  · exact Int.le_trans (g _) (gM_ge _ _)
  · exact g _
def winS (a : List Int) (f : Nat → Int) : Nat → Int
  | 0 => 0
  | k + 1 => winS a f k + a.getD k 0 * f k
theorem win_first {a b : List Int} {f : Nat → Int} {m : Nat} {s g : Int} : ∀ k, k ≤ m → (∀ i, i < k → f i = g * b.getD (min ((i : Int) - m + a.length + s) ((a.length : Int) - 1)).toNat 0) → winS a f k = g * pf a b m s k
  | 0, _, _ => by simp [winS, pf]
  | k + 1, hk, h => by
    rw [winS, pf, win_first k (by omega) (fun i hi => h i (by omega)), h k (by omega), Int.mul_add]
    congr 1
    grind
theorem win_rest {a b : List Int} {f : Nat → Int} {m : Nat} {g : Int} : ∀ k, (∀ i, i < k → f (m + i) = g * b.getD i 0) → winS a f (m + k) = winS a f m + g * ps a b m k
  | 0, _ => by simp [ps]
  | k + 1, h => by
    rw [← Nat.add_assoc, winS, ps, win_rest k (fun i hi => h i (by omega)), h k (by omega), Int.mul_add]
    grind
theorem win_le {a b : List Int} {f : Nat → Int} {m : Nat} {s g1 g2 : Int} (hm : m ≤ a.length) (hg1 : g1 = 1 ∨ g1 = -1) (hg2 : g2 = 1 ∨ g2 = -1)
    (h1 : ∀ i, i < m → f i = g1 * b.getD (min ((i : Int) - m + a.length + s) ((a.length : Int) - 1)).toNat 0) (h2 : ∀ i, i < a.length - m → f (m + i) = g2 * b.getD i 0) :
    -plc a b s m ≤ winS a f a.length ∧ winS a f a.length ≤ plc a b s m := by
  have e1 := win_first (a := a) m (Nat.le_refl m) h1
  have e2 := win_rest (a := a) (a.length - m) h2
  rw [show m + (a.length - m) = a.length by omega, e1] at e2
  rw [e2]
  unfold plc
  generalize pf a b m s m = x
  generalize ps a b m (a.length - m) = y
  rcases hg1 with rfl | rfl <;> rcases hg2 with rfl | rfl <;> omega
def pieceL (b : List Int) (g s : Int) (k : Nat) : List Int := (List.range k).map fun i => g * b.getD (min i (b.length - 1)) 0
theorem pieceL_length (b : List Int) (g s : Int) (k : Nat) : (pieceL b g s k).length = k := by simp [pieceL]
theorem pieceL_succ (b : List Int) (g s : Int) (k : Nat) : pieceL b g s (k + 1) = pieceL b g s k ++ [g * b.getD (min k (b.length - 1)) 0] := by simp [pieceL, List.range_succ]
theorem pieceL_get (b : List Int) (g s : Int) {i k : Nat} (h : i < k) : (pieceL b g s k).getD i 0 = g * b.getD (min i (b.length - 1)) 0 := range_get h
theorem win_in {a b : List Int} {F : Nat → Int} {S u L L2 : Nat} {g1 g2 s : Int} (hab : a.length = b.length) (hs : -1 ≤ s ∧ s ≤ 1) (hL : (L : Int) = a.length + s) (hL2 : a.length ≤ L2 + 1) (hu : u < L)
    (hg1 : g1 = 1 ∨ g1 = -1) (hg2 : g2 = 1 ∨ g2 = -1) (F1 : ∀ i, i < L → F (S + i) = g1 * b.getD (min i (b.length - 1)) 0) (F2 : ∀ i, i < L2 → F (S + L + i) = g2 * b.getD (min i (b.length - 1)) 0) (o : Nat) (ho : o = 0 ∨ (1 ≤ o ∧ o ≤ u ∧ o ≤ L - u)) :
    -greatI a b o ≤ winS a (fun i => F (S + u + i)) a.length ∧ winS a (fun i => F (S + u + i)) a.length ≤ greatI a b o := by
  by_cases c : u = 0 ∧ s = 1
  · obtain ⟨rfl, rfl⟩ := c
    have ho' : o = 0 := by omega
    subst ho'
    have w := win_le (a := a) (b := b) (f := fun i => F (S + 0 + i)) (m := a.length) (s := 0) (Nat.le_refl _) hg1 hg2
      (fun i hi => by
        show F (S + 0 + i) = _
        rw [Nat.add_zero, F1 i (by omega)]
        congr 2
        omega) (fun i hi => by omega)
    have p := plc_great (a := a) (b := b) (s := 0) (mg := 0) (m := a.length) (by omega) (by omega) (by unfold cntM lastM; simp)
    omega
  · have w := win_le (a := a) (b := b) (f := fun i => F (S + u + i)) (m := L - u) (s := s) (by omega) hg1 hg2
      (fun i hi => by
        show F (S + u + i) = _
        rw [Nat.add_assoc, F1 (u + i) (by omega)]
        congr 2
        omega)
      (fun i hi => by
        show F (S + u + (L - u + i)) = _
        rw [show S + u + (L - u + i) = S + L + i by omega, F2 i (by omega)]
        congr 2
        omega)
    have p := plc_great (a := a) (b := b) (s := s) (mg := o) (m := L - u) hs (by omega) (by
      unfold cntM lastM
      split
      · omega
      · omega)
    omega
end Go.Ae

/- Windows over the whole stream of pieces. -/
set_option linter.unusedSimpArgs false
set_option linter.unusedVariables false
namespace Go.Ae
def lenP (b : List Int) (s : Int) : Nat := ((b.length : Int) + s).toNat
def stN (b : List Int) (s : Nat → Int) : Nat → Nat
  | 0 => 0
  | k + 1 => stN b s k + lenP b (s k)
def strL (b : List Int) (g s : Nat → Int) : Nat → List Int
  | 0 => []
  | k + 1 => strL b g s k ++ pieceL b (g k) (s k) (lenP b (s k))
def staL (b : List Int) (s : Nat → Int) (k : Nat) : List Int := (List.range k).map fun i => (stN b s i : Int)
theorem staL_length (b : List Int) (s : Nat → Int) (k : Nat) : (staL b s k).length = k := by simp [staL]
theorem staL_succ (b : List Int) (s : Nat → Int) (k : Nat) : staL b s (k + 1) = staL b s k ++ [(stN b s k : Int)] := by simp [staL, List.range_succ]
theorem staL_get (b : List Int) (s : Nat → Int) {i k : Nat} (h : i < k) : (staL b s k).getD i 0 = stN b s i := range_get h
theorem strL_length (b : List Int) (g s : Nat → Int) : ∀ k, (strL b g s k).length = stN b s k
  | 0 => rfl
  | k + 1 => by rw [strL, stN, List.length_append, strL_length b g s k, pieceL_length]
theorem stN_mono (b : List Int) (s : Nat → Int) {j k : Nat} (h : j ≤ k) : stN b s j ≤ stN b s k := by
  induction k with
  | zero => rw [show j = 0 by omega]; exact Nat.le_refl _
  | succ k ih =>
    rcases Nat.lt_or_ge k j with c | c
    · rw [show j = k + 1 by omega]; exact Nat.le_refl _
    · have := ih c
      rw [stN]; omega
theorem stN_range {b : List Int} {s : Nat → Int} (hb : 1 ≤ b.length) (hs : ∀ k, -1 ≤ s k ∧ s k ≤ 1) : ∀ k : Nat, k * (b.length - 1) ≤ stN b s k ∧ stN b s k ≤ k * (b.length + 1)
  | 0 => by simp [stN]
  | k + 1 => by
    have := stN_range hb hs k
    have := hs k
    rw [stN, Nat.succ_mul, Nat.succ_mul]
    unfold lenP
    omega
theorem strL_get {b : List Int} {g s : Nat → Int} {j i : Nat} : ∀ k, j < k → i < lenP b (s j) → (strL b g s k).getD (stN b s j + i) 0 = g j * b.getD (min i (b.length - 1)) 0
  | 0, h, _ => by omega
  | k + 1, h, hi => by
    rw [strL, List.getD_eq_getElem?_getD]
    rcases Nat.lt_or_ge j k with c | c
    · have := stN_mono b s (show j + 1 ≤ k by omega)
      rw [stN] at this
      rw [List.getElem?_append_left (by rw [strL_length]; omega), ← List.getD_eq_getElem?_getD]
      exact strL_get k c hi
    · have e : j = k := by omega
      subst e
      rw [List.getElem?_append_right (by rw [strL_length]; omega), strL_length, show stN b s j + i - stN b s j = i by omega, ← List.getD_eq_getElem?_getD]
      exact pieceL_get b (g j) (s j) hi
theorem str_win {a b : List Int} {g s : Nat → Int} {m : Nat} (hab : a.length = b.length) (hN : 31 ≤ a.length) (hs : ∀ k, -1 ≤ s k ∧ s k ≤ 1) (hg : ∀ k, g k = 1 ∨ g k = -1) (hm : m < 2 * a.length)
    (o : Nat) (ho : o = 0 ∨ (1 ≤ o ∧ ∀ k, k < 4 → (o : Int) ≤ (stN b s k : Int) - m ∨ (o : Int) ≤ (m : Int) - stN b s k)) :
    -greatI a b o ≤ winS a (fun i => (strL b g s 4).getD (m + i) 0) a.length ∧ winS a (fun i => (strL b g s 4).getD (m + i) 0) a.length ≤ greatI a b o := by
  have key : ∀ j, j < 3 → stN b s j ≤ m → m < stN b s (j + 1) → -greatI a b o ≤ winS a (fun i => (strL b g s 4).getD (m + i) 0) a.length ∧ winS a (fun i => (strL b g s 4).getD (m + i) 0) a.length ≤ greatI a b o := by
    intro j hj h1 h2
    have sj := hs j
    have sk := hs (j + 1)
    have e1 : stN b s (j + 1) = stN b s j + lenP b (s j) := rfl
    have l1 : ((lenP b (s j) : Nat) : Int) = a.length + s j := by unfold lenP; omega
    have l2 : a.length ≤ lenP b (s (j + 1)) + 1 := by unfold lenP; omega
    have w := win_in (a := a) (b := b) (F := fun x => (strL b g s 4).getD x 0) (S := stN b s j) (u := m - stN b s j) (L := lenP b (s j)) (L2 := lenP b (s (j + 1))) hab sj l1 l2 (by omega) (hg j) (hg (j + 1))
      (fun i hi => strL_get 4 (by omega) hi) (fun i hi => by rw [← e1]; exact strL_get 4 (by omega) hi) o (by
        rcases ho with c | ⟨c1, c2⟩
        · exact .inl c
        · refine .inr ⟨c1, ?_, ?_⟩
          · have := c2 j (by omega); omega
          · have := c2 (j + 1) (by omega); omega)
    rw [show stN b s j + (m - stN b s j) = m by omega] at w
    exact w
  have r := stN_range (b := b) (by omega) hs 3
  rcases Nat.lt_or_ge m (stN b s 1) with c1 | c1
  · exact key 0 (by omega) (by simp [stN]) c1
  · rcases Nat.lt_or_ge m (stN b s 2) with c2 | c2
    · exact key 1 (by omega) c1 c2
    · exact key 2 (by omega) c2 (by show m < stN b s 3; omega)
theorem winS_le {a : List Int} {f : Nat → Int} (ha : one1 a) (hf : ∀ i, -1 ≤ f i ∧ f i ≤ 1) : ∀ k : Nat, -(k : Int) ≤ winS a f k ∧ winS a f k ≤ k
  | 0 => by simp [winS]
  | k + 1 => by
    have ih := winS_le ha hf k
    have := mul_one1 (ha.get k) (hf k)
    rw [winS]; omega
theorem strL_one1 {b : List Int} {g s : Nat → Int} (hb : one1 b) (hg : ∀ k, g k = 1 ∨ g k = -1) : ∀ k, one1 (strL b g s k)
  | 0 => by intro x hx; simp [strL] at hx
  | k + 1 => by
    intro x hx
    rw [strL] at hx
    rcases List.mem_append.1 hx with q | q
    · exact strL_one1 hb hg k x q
    · obtain ⟨i, _, rfl⟩ := List.mem_map.1 q
      exact mul_one1 (by rcases hg k with e | e <;> rw [e] <;> omega) (hb.get _)
end Go.Ae

/- Finding the code that chips are a rotation of. -/
set_option linter.unusedSimpArgs false
set_option linter.unusedVariables false
namespace Go.Ae
def rotL (c : List Int) (k : Nat) : List Int := (List.range c.length).map fun i => c.getD ((i + k) % c.length) 0
def FindR (d : Int) (l : List Int) (r : AV) : Prop :=
  (∃ p k : Nat, 1 ≤ p ∧ p ≤ lenN d + 2 ∧ k < lenN d ∧ rotL (codeL d p) k = l ∧ (∀ q, q < k → rotL (codeL d p) q ≠ l) ∧ (∀ p' : Nat, 1 ≤ p' → p' < p → ∀ q, q < lenN d → rotL (codeL d p') q ≠ l) ∧ r = tup3 p k 0) ∨
  ((∀ p' : Nat, 1 ≤ p' → p' ≤ lenN d + 2 → ∀ q, q < lenN d → rotL (codeL d p') q ≠ l) ∧ r = tup3 0 0 18)
def badC (x : Int) : Bool := decide (x ≠ 1 ∧ x ≠ -1)
def findErr (d : Int) (l : List Int) : Int := if lenOk d = true then (if l.length ≠ lenN d ∨ l.any badC = true then 3 else 0) else 2
def RotR (c l : List Int) (r : Int) : Prop := (∃ k : Nat, k < c.length ∧ rotL c k = l ∧ (∀ q, q < k → rotL c q ≠ l) ∧ r = k) ∨ ((∀ q, q < c.length → rotL c q ≠ l) ∧ r = -1)
section
variable {C : Ctx}
end
end Go.Ae

/- Sums of products of codes have three values. -/
set_option linter.unusedSimpArgs false
set_option linter.unusedVariables false
namespace Go.Ae
/-! ### Words -/
def rotN (n a W : Nat) : Nat := (W >>> a ||| W <<< (n - a)) % 2 ^ n
theorem rotN_bit {n a W i : Nat} (hW : W < 2 ^ n) (ha : a < n) (hi : i < n) : (rotN n a W).testBit i = W.testBit ((i + a) % n) := by
  unfold rotN
  rw [Nat.testBit_mod_two_pow, Nat.testBit_or, Nat.testBit_shiftRight, Nat.testBit_shiftLeft, decide_eq_true hi, Bool.true_and]
  by_cases c : i + a < n
  · rw [Nat.mod_eq_of_lt c, Nat.add_comm a i, decide_eq_false (by omega), Bool.false_and, Bool.or_false]
  · have h1 : W.testBit (a + i) = false := Nat.testBit_lt_two_pow (Nat.lt_of_lt_of_le hW (Nat.pow_le_pow_right (by decide) (by omega)))
    rw [h1, Bool.false_or, decide_eq_true (by omega), Bool.true_and, Nat.mod_eq_sub_mod (by omega), Nat.mod_eq_of_lt (by omega)]
    congr 1; omega
def popc : Nat → Nat → Nat
  | 0, _ => 0
  | n + 1, W => W % 2 + popc n (W / 2)
theorem popc_eq : ∀ n W, popc n W = pop W n
  | 0, W => rfl
  | n + 1, W => by
    rw [popc, popc_eq n, Nat.add_comm n 1, pop_add]
    have e1 : pop W 1 = W % 2 := by
      simp only [pop, bsum, bitN, Nat.testBit_zero, Nat.zero_add]
      have := Nat.mod_two_eq_zero_or_one W
      rcases this with h | h <;> simp [h]
    rw [e1, Nat.shiftRight_eq_div_pow, Nat.pow_one]
def saOk (n W : Nat) : Bool := (List.range n).all fun a => Nat.beq a 0 || (List.range n).any fun s => Nat.beq (W ^^^ rotN n a W) (rotN n s W)
def corrOk (n W V t : Nat) : Bool := (List.range n).all fun e => let s := popc n (W ^^^ rotN n e V); Nat.beq (n + 1) (2 * s) || Nat.beq (n + t) (2 * s) || Nat.beq (n + 2) (2 * s + t)

/-! ### Sums -/
def isum (f : Nat → Int) : Nat → Int
  | 0 => 0
  | n + 1 => isum f n + f n
theorem isum_congr {f g : Nat → Int} : ∀ n, (∀ i, i < n → f i = g i) → isum f n = isum g n
  | 0, _ => rfl
  | n + 1, h => by simp only [isum]; rw [isum_congr n (fun i hi => h i (by omega)), h n (by omega)]
theorem isum_one (f : Nat → Int) : ∀ n, isum (fun i => f (i + 1)) n = isum f n + f n - f 0
  | 0 => by simp [isum]
  | n + 1 => by simp only [isum, isum_one f n]; omega
theorem isum_shift {f : Nat → Int} {n : Nat} (hf : ∀ i, f (i + n) = f i) : ∀ s, isum (fun i => f (i + s)) n = isum f n
  | 0 => rfl
  | s + 1 => by
    have ih := isum_shift hf s
    have h1 := isum_one (fun i => f (i + s)) n
    have h2 : f (n + s) = f (0 + s) := by rw [Nat.add_comm n s, hf, Nat.zero_add]
    rw [ih] at h1
    have h3 : isum (fun i => f (i + 1 + s)) n = isum (fun i => f (i + (s + 1))) n := isum_congr n fun i _ => by congr 1; omega
    rw [← h3, h1]; omega
theorem isum_bits {x : Nat → Int} (hx : ∀ i, x i = 0 ∨ x i = 1) : ∀ n, isum (fun i => 1 - 2 * x i) n = n - 2 * (bsum (fun i => (x i).toNat) n : Nat)
  | 0 => by simp [isum, bsum]
  | n + 1 => by
    simp only [isum, bsum, isum_bits hx n]
    rcases hx n with h | h <;> rw [h] <;> simp <;> omega

/-! ### Periodic bits -/
structure Pair (n : Nat) (t : Int) (U V : Nat → Int) : Prop where
  pos : 0 < n
  u01 : ∀ i, U i = 0 ∨ U i = 1
  v01 : ∀ i, V i = 0 ∨ V i = 1
  uper : ∀ i, U (i + n) = U i
  vper : ∀ i, V (i + n) = V i
  usa : ∀ a, a % n ≠ 0 → ∃ s, ∀ i, (U i + U (i + a)) % 2 = U (i + s)
  vsa : ∀ a, a % n ≠ 0 → ∃ s, ∀ i, (V i + V (i + a)) % 2 = V (i + s)
  usum : isum (fun i => 1 - 2 * U i) n = -1
  vsum : isum (fun i => 1 - 2 * V i) n = -1
  corr : ∀ e, let S := isum (fun i => 1 - 2 * ((U i + V (i + e)) % 2)) n; S = -1 ∨ S = -t ∨ S = t - 2
section
variable {n : Nat} {t : Int} {U V : Nat → Int}
theorem per_mod {f : Nat → Int} (hf : ∀ i, f (i + n) = f i) (i : Nat) : f (i % n) = f i := by
  have h : ∀ k r, f (r + n * k) = f r := by
    intro k
    induction k with
    | zero => intro r; rfl
    | succ k ih => intro r; rw [Nat.mul_succ, ← Nat.add_assoc, hf, ih]
  have := h (i / n) (i % n)
  rw [Nat.add_comm, Nat.div_add_mod] at this
  exact this.symm
theorem per_zero {f : Nat → Int} (hf : ∀ i, f (i + n) = f i) {a : Nat} (ha : a % n = 0) (i : Nat) : f (i + a) = f i := by
  rw [← per_mod hf (i + a), Nat.add_mod, ha, Nat.add_zero, Nat.mod_mod, per_mod hf]
theorem two_shift {f : Nat → Int} (f01 : ∀ i, f i = 0 ∨ f i = 1) (hf : ∀ i, f (i + n) = f i) (hn : 0 < n) (sa : ∀ a, a % n ≠ 0 → ∃ s, ∀ i, (f i + f (i + a)) % 2 = f (i + s)) (a b : Nat) :
    (a % n = b % n ∧ ∀ i, (f (i + a) + f (i + b)) % 2 = 0) ∨ (a % n ≠ b % n ∧ ∃ s, ∀ i, (f (i + a) + f (i + b)) % 2 = f (i + s)) := by
  by_cases c : a % n = b % n
  · left
    refine ⟨c, fun i => ?_⟩
    have : f (i + a) = f (i + b) := by rw [← per_mod hf (i + a), ← per_mod hf (i + b), Nat.add_mod, c, ← Nat.add_mod]
    have h1 := f01 (i + b)
    rw [this]; omega
  · right
    refine ⟨c, ?_⟩
    -- the shift of b past a
    have hd : (b + (n - a % n)) % n ≠ 0 := by
      intro h0
      apply c
      have h1 := Nat.div_add_mod b n
      have h2 := Nat.mod_lt a hn
      have h3 := Nat.mod_lt b hn
      rw [Nat.add_mod] at h0
      by_cases ha : a % n = 0
      · rw [ha, Nat.sub_zero, Nat.mod_self, Nat.add_zero, Nat.mod_mod] at h0; omega
      · rw [Nat.mod_eq_of_lt (show n - a % n < n by omega)] at h0
        by_cases hb : b % n + (n - a % n) < n
        · rw [Nat.mod_eq_of_lt hb] at h0; omega
        · rw [Nat.mod_eq_sub_mod (by omega), Nat.mod_eq_of_lt (by omega)] at h0; omega
    obtain ⟨s, hs⟩ := sa _ hd
    refine ⟨a + s, fun i => ?_⟩
    have h1 := hs (i + a)
    have h2 : f (i + a + (b + (n - a % n))) = f (i + b) := by
      have h3 : i + a + (b + (n - a % n)) = i + b + (a - a % n + n) := by
        have := Nat.mod_le a n
        have := Nat.mod_lt a hn
        omega
      rw [h3]
      refine per_zero hf ?_ _
      rw [Nat.add_mod_right]
      have : a - a % n = n * (a / n) := by have := Nat.div_add_mod a n; omega
      rw [this, Nat.mul_mod_right]
    rw [h2] at h1
    rw [h1, Nat.add_assoc]
def mixB (U V : Nat → Int) (al be : Bool) (b i : Nat) : Int := ((if al then U i else 0) + (if be then V (i + b) else 0)) % 2
theorem mix_three (P : Pair n t U V) (al be al' be' : Bool) (b b' k : Nat) (h1 : al = true ∨ be = true) (h2 : al' = true ∨ be' = true) :
    let S := isum (fun i => (1 - 2 * mixB U V al be b i) * (1 - 2 * mixB U V al' be' b' (i + k))) n
    (al = al' ∧ be = be' ∧ (al = true → k % n = 0) ∧ (be = true → b % n = (k + b') % n) ∧ S = n) ∨ (S = -1 ∨ S = -t ∨ S = t - 2) := by
  intro S
  -- each part
  have hu : (al = al' ∧ (al = true → k % n = 0) ∧ ∀ i, ((if al then U i else 0) + (if al' then U (i + k) else 0)) % 2 = 0) ∨ ∃ s, ∀ i, ((if al then U i else 0) + (if al' then U (i + k) else 0)) % 2 = U (i + s) := by
    cases al <;> cases al'
    · left; exact ⟨rfl, by simp, fun i => by simp⟩
    · right; exact ⟨k, fun i => by have := P.u01 (i + k); simp; omega⟩
    · right; exact ⟨0, fun i => by have := P.u01 i; simp; omega⟩
    · rcases two_shift P.u01 P.uper P.pos P.usa 0 k with ⟨a1, a2⟩ | ⟨a1, s, a2⟩
      · left; exact ⟨rfl, fun _ => by rw [← a1, Nat.zero_mod], fun i => by simpa using a2 i⟩
      · right; exact ⟨s, fun i => by simpa using a2 i⟩
  have hv : (be = be' ∧ (be = true → b % n = (k + b') % n) ∧ ∀ i, ((if be then V (i + b) else 0) + (if be' then V (i + k + b') else 0)) % 2 = 0) ∨ ∃ s, ∀ i, ((if be then V (i + b) else 0) + (if be' then V (i + k + b') else 0)) % 2 = V (i + s) := by
    cases be <;> cases be'
    · left; exact ⟨rfl, by simp, fun i => by simp⟩
    · right; exact ⟨k + b', fun i => by have := P.v01 (i + k + b'); rw [← Nat.add_assoc]; simp; omega⟩
    · right; exact ⟨b, fun i => by have := P.v01 (i + b); simp; omega⟩
    · rcases two_shift P.v01 P.vper P.pos P.vsa b (k + b') with ⟨a1, a2⟩ | ⟨a1, s, a2⟩
      · left; exact ⟨rfl, fun _ => a1, fun i => by have := a2 i; rw [← Nat.add_assoc] at this; simpa using this⟩
      · right; exact ⟨s, fun i => by have := a2 i; rw [← Nat.add_assoc] at this; simpa using this⟩
  have key : ∀ i, (1 - 2 * mixB U V al be b i) * (1 - 2 * mixB U V al' be' b' (i + k)) = 1 - 2 * ((((if al then U i else 0) + (if al' then U (i + k) else 0)) % 2 + ((if be then V (i + b) else 0) + (if be' then V (i + k + b') else 0)) % 2) % 2) := by
    intro i
    unfold mixB
    have x1 : (if al then U i else 0) = 0 ∨ (if al then U i else 0) = 1 := by cases al <;> simp; exact P.u01 i
    have x2 : (if al' then U (i + k) else 0) = 0 ∨ (if al' then U (i + k) else 0) = 1 := by cases al' <;> simp; exact P.u01 _
    have x3 : (if be then V (i + b) else 0) = 0 ∨ (if be then V (i + b) else 0) = 1 := by cases be <;> simp; exact P.v01 _
    have x4 : (if be' then V (i + k + b') else 0) = 0 ∨ (if be' then V (i + k + b') else 0) = 1 := by cases be' <;> simp; exact P.v01 _
    generalize (if al then U i else 0) = a1 at *
    generalize (if al' then U (i + k) else 0) = a2 at *
    generalize (if be then V (i + b) else 0) = a3 at *
    generalize (if be' then V (i + k + b') else 0) = a4 at *
    rcases x1 with rfl | rfl <;> rcases x2 with rfl | rfl <;> rcases x3 with rfl | rfl <;> rcases x4 with rfl | rfl <;> decide
  have eS : S = isum (fun i => 1 - 2 * ((((if al then U i else 0) + (if al' then U (i + k) else 0)) % 2 + ((if be then V (i + b) else 0) + (if be' then V (i + k + b') else 0)) % 2) % 2)) n := isum_congr n fun i _ => key i
  rcases hu with ⟨u1, u2, u3⟩ | ⟨s, u3⟩ <;> rcases hv with ⟨v1, v2, v3⟩ | ⟨s', v3⟩
  · left
    refine ⟨u1, v1, u2, v2, ?_⟩
    rw [eS, isum_congr n (g := fun _ => 1) (fun i _ => by rw [u3, v3]; rfl)]
    have : ∀ m, isum (fun _ => 1) m = m := by
      intro m
      induction m with
      | zero => rfl
      | succ m ih => simp only [isum, ih]; omega
    exact this n
  · right; left
    rw [eS, isum_congr n (g := fun i => 1 - 2 * V (i + s')) (fun i _ => by rw [u3, v3]; have := P.v01 (i + s'); omega)]
    exact (isum_shift (f := fun i => 1 - 2 * V i) (fun i => by rw [P.vper]) s').trans P.vsum
  · right; left
    rw [eS, isum_congr n (g := fun i => 1 - 2 * U (i + s)) (fun i _ => by rw [u3, v3]; have := P.u01 (i + s); omega)]
    exact (isum_shift (f := fun i => 1 - 2 * U i) (fun i => by rw [P.uper]) s).trans P.usum
  · right
    -- both: shift by s, then the place of v
    have hn := P.pos
    have h1 : S = isum (fun i => 1 - 2 * ((U i + V (i + (s' + (n * s - s)))) % 2)) n := by
      rw [eS, isum_congr n (g := fun i => 1 - 2 * ((U (i + s) + V (i + s + (s' + (n * s - s)))) % 2)) (fun i _ => by
        have hle : s ≤ n * s := Nat.le_mul_of_pos_left s hn
        have : V (i + s + (s' + (n * s - s))) = V (i + s') := by
          rw [show i + s + (s' + (n * s - s)) = i + s' + n * s by omega]
          exact per_zero P.vper (Nat.mul_mod_right n s) _
        rw [u3, v3, this])]
      exact isum_shift (f := fun i => 1 - 2 * ((U i + V (i + (s' + (n * s - s)))) % 2)) (fun i => by
        rw [P.uper, show i + n + (s' + (n * s - s)) = i + (s' + (n * s - s)) + n by omega, P.vper]) s
    have h2 := P.corr (s' + (n * s - s))
    rw [h1]; exact h2
end
end Go.Ae

/- The sequences of the degrees 5 to 7, and their codes. -/
set_option linter.unusedSimpArgs false
set_option linter.unusedVariables false
namespace Go.Ae
def perL (x : List Int) (n i : Nat) : Int := x.getD (i % n) 0
theorem bit_toNat {b : Bool} {x : Int} (hx : x = 0 ∨ x = 1) (h : b.toNat = x.toNat) : b = decide (x = 1) := by
  rcases hx with rfl | rfl <;> cases b <;> simp at h ⊢
theorem list_bit {x : List Int} (hx : bit01 x) (i : Nat) : (packL x).testBit i = decide (x.getD i 0 = 1) := bit_toNat (hx.get i) (packL_bit hx i)
theorem xor_dec {a b : Int} (ha : a = 0 ∨ a = 1) (hb : b = 0 ∨ b = 1) : (decide (a = 1) ^^ decide (b = 1)) = decide ((a + b) % 2 = 1) := by
  rcases ha with rfl | rfl <;> rcases hb with rfl | rfl <;> decide
theorem sa_of {x : List Int} {n W : Nat} (hx : bit01 x) (hl : x.length = n) (hW : packL x = W) (hn : 0 < n) (h : saOk n W = true) : ∀ a, a % n ≠ 0 → ∃ s, ∀ i, (perL x n i + perL x n (i + a)) % 2 = perL x n (i + s) := by
  intro a ha
  have hlt : W < 2 ^ n := by rw [← hW, ← hl]; exact packL_lt hx
  have h1 := List.all_eq_true.1 h (a % n) (List.mem_range.2 (Nat.mod_lt _ hn))
  rw [Bool.or_eq_true] at h1
  rcases h1 with h1 | h1
  · exact absurd (Nat.eq_of_beq_eq_true h1) ha
  · obtain ⟨s, hs, h2⟩ := List.any_eq_true.1 h1
    have hs := List.mem_range.1 hs
    have h2 := Nat.eq_of_beq_eq_true h2
    refine ⟨s, fun i => ?_⟩
    have hj := Nat.mod_lt i hn
    have h3 : (W ^^^ rotN n (a % n) W).testBit (i % n) = (rotN n s W).testBit (i % n) := by rw [h2]
    rw [Nat.testBit_xor, rotN_bit hlt (Nat.mod_lt _ hn) hj, rotN_bit hlt hs hj, ← hW, list_bit hx, list_bit hx, list_bit hx] at h3
    have b1 := hx.get (i % n)
    have b2 := hx.get ((i % n + a % n) % n)
    have b3 := hx.get ((i % n + s) % n)
    rw [xor_dec b1 b2] at h3
    have e1 : (i + a) % n = (i % n + a % n) % n := Nat.add_mod i a n
    have e2 : (i + s) % n = (i % n + s) % n := by rw [Nat.mod_add_mod]
    unfold perL
    rw [e1, e2]
    have h4 := decide_eq_decide.1 h3
    omega
theorem pop_list {x : List Int} {n W : Nat} (hx : bit01 x) (hW : packL x = W) : bsum (fun i => (x.getD i 0).toNat) n = popc n W := by
  rw [popc_eq, ← hW]
  exact bsum_congr n fun i _ => (packL_bit hx i).symm
theorem perL_01 {x : List Int} (hx : bit01 x) (n i : Nat) : perL x n i = 0 ∨ perL x n i = 1 := hx.get _
theorem perL_per (x : List Int) (n i : Nat) : perL x n (i + n) = perL x n i := by unfold perL; rw [Nat.add_mod_right]
theorem sum_of {x : List Int} {n W : Nat} (hx : bit01 x) (hW : packL x = W) (h : 2 * popc n W = n + 1) : isum (fun i => 1 - 2 * perL x n i) n = -1 := by
  rw [isum_bits (perL_01 hx n)]
  have : bsum (fun i => (perL x n i).toNat) n = popc n W := by
    rw [← pop_list hx hW]
    exact bsum_congr n fun i hi => by unfold perL; rw [Nat.mod_eq_of_lt hi]
  rw [this]; omega
theorem corr_of {x y : List Int} {n W V t : Nat} (hx : bit01 x) (hy : bit01 y) (hl : y.length = n) (hW : packL x = W) (hV : packL y = V) (hn : 0 < n) (h : corrOk n W V t = true) :
    ∀ e, let S := isum (fun i => 1 - 2 * ((perL x n i + perL y n (i + e)) % 2)) n; S = -1 ∨ S = -(t : Int) ∨ S = (t : Int) - 2 := by
  intro e S
  have hlt : V < 2 ^ n := by rw [← hV, ← hl]; exact packL_lt hy
  have h1 := List.all_eq_true.1 h (e % n) (List.mem_range.2 (Nat.mod_lt _ hn))
  have hb : ∀ i, (perL x n i + perL y n (i + e)) % 2 = 0 ∨ (perL x n i + perL y n (i + e)) % 2 = 1 := fun i => by omega
  have hS : S = n - 2 * (bsum (fun i => ((perL x n i + perL y n (i + e)) % 2).toNat) n : Nat) := isum_bits hb n
  have hp : bsum (fun i => ((perL x n i + perL y n (i + e)) % 2).toNat) n = popc n (W ^^^ rotN n (e % n) V) := by
    rw [popc_eq]
    refine bsum_congr n fun i hi => ?_
    have b1 := hx.get i
    have b2 := hy.get ((i + e % n) % n)
    show _ = ((W ^^^ rotN n (e % n) V).testBit i).toNat
    rw [Nat.testBit_xor, rotN_bit hlt (Nat.mod_lt _ hn) hi, ← hW, ← hV, list_bit hx, list_bit hy, xor_dec b1 b2]
    have e1 : (i + e) % n = (i + e % n) % n := by rw [Nat.add_mod_mod]
    unfold perL
    rw [Nat.mod_eq_of_lt hi, e1]
    have : (x.getD i 0 + y.getD ((i + e % n) % n) 0) % 2 = 0 ∨ (x.getD i 0 + y.getD ((i + e % n) % n) 0) % 2 = 1 := by omega
    rcases this with h | h <;> rw [h] <;> rfl
  rw [hp] at hS
  simp only [Bool.or_eq_true] at h1
  rcases h1 with (h1 | h1) | h1 <;> have h1 := Nat.eq_of_beq_eq_true h1 <;> omega
theorem pair_of {x y : List Int} {n t W V : Nat} (hn : 0 < n) (hx : bit01 x) (hy : bit01 y) (lx : x.length = n) (ly : y.length = n) (hW : packL x = W) (hV : packL y = V) (s1 : saOk n W = true) (s2 : saOk n V = true) (h1 : 2 * popc n W = n + 1) (h2 : 2 * popc n V = n + 1) (hc : corrOk n W V t = true) :
    Pair n t (perL x n) (perL y n) :=
  ⟨hn, perL_01 hx n, perL_01 hy n, perL_per x n, perL_per y n, sa_of hx lx hW hn s1, sa_of hy ly hV hn s2, sum_of hx hW h1, sum_of hy hV h2, corr_of hx hy ly hW hV hn hc⟩
theorem w51 : packL (bitsL 5 1) = 440580895 := by decide +kernel
theorem w52 : packL (bitsL 5 2) = 319508959 := by decide +kernel
theorem pair5 : Pair 31 9 (perL (bitsL 5 1) 31) (perL (bitsL 5 2) 31) :=
  pair_of (by decide) bitsL_01 bitsL_01 (bitsL_length 5 1) (bitsL_length 5 2) w51 w52 (by decide +kernel) (by decide +kernel) (by decide +kernel) (by decide +kernel) (by decide +kernel)
theorem w61 : packL (bitsL 6 1) = 3114073359753873471 := by decide +kernel
theorem w62 : packL (bitsL 6 2) = 3765794974394322623 := by decide +kernel
theorem pair6 : Pair 63 17 (perL (bitsL 6 1) 63) (perL (bitsL 6 2) 63) :=
  pair_of (by decide) bitsL_01 bitsL_01 (bitsL_length 6 1) (bitsL_length 6 2) w61 w62 (by decide +kernel) (by decide +kernel) (by decide +kernel) (by decide +kernel) (by decide +kernel)
theorem w71 : packL (bitsL 7 1) = 19633041171262327947611635764423014527 := by decide +kernel
theorem w72 : packL (bitsL 7 2) = 79058819457452495440679678893767108735 := by decide +kernel
theorem pair7 : Pair 127 17 (perL (bitsL 7 1) 127) (perL (bitsL 7 2) 127) :=
  pair_of (by decide) bitsL_01 bitsL_01 (bitsL_length 7 1) (bitsL_length 7 2) w71 w72 (by decide +kernel) (by decide +kernel) (by decide +kernel) (by decide +kernel) (by decide +kernel)

def thrT (d : Int) : Int := if d = 5 then 9 else 17
theorem pair_deg {d : Int} (hd : d = 5 ∨ d = 6 ∨ d = 7) : Pair (lenN d) (thrT d) (perL (bitsL d 1) (lenN d)) (perL (bitsL d 2) (lenN d)) := by
  rcases hd with rfl | rfl | rfl
  · exact pair5
  · exact pair6
  · exact pair7
theorem codeB_mix {d : Int} {p : Nat} (hp : 1 ≤ p) (i : Nat) (hi : i < lenN d) : codeB d p i = mixB (perL (bitsL d 1) (lenN d)) (perL (bitsL d 2) (lenN d)) (decide (p ≠ 2)) (decide (p ≠ 1)) (p - 3) i := by
  unfold codeB mixB perL
  have h1 := bit01_getD (bitsL_01 (d := d) (w := 1)) i
  have h2 := bit01_getD (bitsL_01 (d := d) (w := 2)) i
  by_cases c1 : p = 1
  · subst c1
    show (bitsL d 1).getD i 0 = ((bitsL d 1).getD (i % lenN d) 0 + 0) % 2
    rw [Nat.mod_eq_of_lt hi]; omega
  · by_cases c2 : p = 2
    · subst c2
      show (bitsL d 2).getD i 0 = (0 + (bitsL d 2).getD ((i + 0) % lenN d) 0) % 2
      rw [Nat.add_zero, Nat.mod_eq_of_lt hi]; omega
    · rw [if_neg (by omega), if_neg (by omega), Nat.mod_eq_of_lt hi, show ((p : Int) - 3).toNat = p - 3 by omega]
      simp [c1, c2]
def prodS (d : Int) (p q k : Nat) : Int := isum (fun i => (codeL d p).getD i 0 * (codeL d q).getD ((i + k) % lenN d) 0) (lenN d)
theorem three {d : Int} (hd : d = 5 ∨ d = 6 ∨ d = 7) {p q k : Nat} (hp : 1 ≤ p ∧ p ≤ lenN d + 2) (hq : 1 ≤ q ∧ q ≤ lenN d + 2) (hk : k < lenN d) :
    (p = q ∧ k = 0 ∧ prodS d p q k = lenN d) ∨ (¬ (p = q ∧ k = 0) ∧ (prodS d p q k = -1 ∨ prodS d p q k = -thrT d ∨ prodS d p q k = thrT d - 2)) := by
  have P := pair_deg hd
  have hlen : 31 ≤ lenN d := by rcases hd with rfl | rfl | rfl <;> decide
  have hthr : thrT d = 9 ∨ thrT d = 17 := by unfold thrT; split <;> simp
  have h := mix_three P (decide (p ≠ 2)) (decide (p ≠ 1)) (decide (q ≠ 2)) (decide (q ≠ 1)) (p - 3) (q - 3) k (by by_cases c : p = 2 <;> simp [c]) (by by_cases c : q = 2 <;> simp [c])
  have e : prodS d p q k = isum (fun i => (1 - 2 * mixB (perL (bitsL d 1) (lenN d)) (perL (bitsL d 2) (lenN d)) (decide (p ≠ 2)) (decide (p ≠ 1)) (p - 3) i) * (1 - 2 * mixB (perL (bitsL d 1) (lenN d)) (perL (bitsL d 2) (lenN d)) (decide (q ≠ 2)) (decide (q ≠ 1)) (q - 3) (i + k))) (lenN d) := by
    refine isum_congr _ fun i hi => ?_
    have hm : (i + k) % lenN d < lenN d := Nat.mod_lt _ (by omega)
    rw [codeL_get hi, codeL_get hm, codeB_mix hp.1 i hi, codeB_mix hq.1 _ hm]
    congr 2
    unfold mixB perL
    rw [Nat.mod_mod, Nat.mod_add_mod]
  have hself : p = q → k = 0 → prodS d p q k = lenN d := by
    rintro rfl rfl
    have : prodS d p p 0 = isum (fun _ => 1) (lenN d) := isum_congr _ fun i hi => by
      have hm : (i + 0) % lenN d = i := Nat.mod_eq_of_lt (by omega)
      rw [hm, codeL_get hi]
      rcases codeB_01 d p i with h | h <;> rw [h] <;> rfl
    rw [this]
    have : ∀ m, isum (fun _ => 1) m = m := by
      intro m
      induction m with
      | zero => rfl
      | succ m ih => simp only [isum, ih]; omega
    exact this _
  by_cases c : p = q ∧ k = 0
  · exact .inl ⟨c.1, c.2, hself c.1 c.2⟩
  · refine .inr ⟨c, ?_⟩
    rw [e]
    rcases h with ⟨a1, a2, a3, a4, _⟩ | h
    · exfalso
      apply c
      have e1 := decide_eq_decide.1 a1
      have e2 := decide_eq_decide.1 a2
      simp only [decide_eq_true_eq] at a3 a4
      have hkm : k % lenN d = k := Nat.mod_eq_of_lt hk
      by_cases p2 : p = 2
      · have q2 : q = 2 := by omega
        have h4 := a4 (by omega)
        subst p2; subst q2
        simp only [show 2 - 3 = 0 from rfl, Nat.zero_mod, Nat.add_zero] at h4
        exact ⟨rfl, by omega⟩
      · have hk0 : k = 0 := by have := a3 p2; omega
        by_cases p1 : p = 1
        · exact ⟨by omega, hk0⟩
        · have h4 := a4 p1
          have q1 : q ≠ 1 := by omega
          have q2 : q ≠ 2 := by omega
          rw [hk0, Nat.zero_add, Nat.mod_eq_of_lt (by omega), Nat.mod_eq_of_lt (by omega)] at h4
          exact ⟨by omega, hk0⟩
    · exact h
end Go.Ae

/- The examples of layer 8, run. -/
set_option linter.unusedSimpArgs false
set_option linter.unusedVariables false
namespace Go.Ae
section
variable {C : Ctx}
end
end Go.Ae

/- Find, of the program and of the reference; the statement on finding. -/
set_option linter.unusedSimpArgs false
set_option linter.unusedVariables false
namespace Go.Ae
section
variable {C : Ctx}
theorem codeErr_ok {d : Int} {p : Nat} (c : lenOk d = true) (h : 1 ≤ p ∧ p ≤ lenN d + 2) : codeErr d p = 0 := by unfold codeErr; rw [if_pos ⟨c, by omega, by omega⟩]
end
end Go.Ae

/- Rotations of codes are all different. -/
set_option linter.unusedSimpArgs false
set_option linter.unusedVariables false
namespace Go.Ae
def smallD (d : Int) : Prop := d = 5 ∨ d = 6 ∨ d = 7
theorem smallD.len {d : Int} (h : smallD d) : lenOk d = true ∧ 31 ≤ lenN d ∧ lenN d ≤ 127 ∧ (thrT d = 9 ∨ (thrT d = 17 ∧ 63 ≤ lenN d)) := by
  rcases h with rfl | rfl | rfl <;> decide
/-! ### The examples -/
def u5 : List Int := [1, 1, 1, 1, 1, 0, 0, 0, 1, 1, 0, 1, 1, 1, 0, 1, 0, 1, 0, 0, 0, 0, 1, 0, 0, 1, 0, 1, 1, 0, 0]
def v5 : List Int := runL [0, 2, 3, 4] [1, 1, 1, 1, 1] 31
section
variable {C : Ctx}
end
end Go.Ae

/- Sums of circular sums. -/
set_option linter.unusedSimpArgs false
set_option linter.unusedVariables false
namespace Go.Ae
def sg (f : Nat → Int) : Nat → Int
  | 0 => 0
  | n + 1 => sg f n + f n
end Go.Ae

/- Spectra of codes, in plain numbers: the counts add up, and there are only three values, and n once. -/
set_option linter.unusedSimpArgs false
set_option linter.unusedVariables false
namespace Go.Ae
def totP (E : List (Int × Int)) : Nat → Int
  | 0 => 0
  | k + 1 => totP E k + (E.getD k (0, 0)).2
def fullP (E : List (Int × Int)) (n : Int) : Nat → Int
  | 0 => 0
  | k + 1 => if (E.getD k (0, 0)).1 = n then (E.getD k (0, 0)).2 else fullP E n k
structure Spct (n : Nat) (t : Int) (same : Bool) (E : List (Int × Int)) : Prop where
  pos : 0 < E.length
  len : E.length ≤ 2 * n + 1
  cnt : ∀ i, i < E.length → 1 ≤ (E.getD i (0, 0)).2 ∧ (E.getD i (0, 0)).2 ≤ n
  inc : ∀ i, i < E.length → 0 < i → (E.getD (i - 1) (0, 0)).1 < (E.getD i (0, 0)).1
  val : ∀ i, i < E.length → (E.getD i (0, 0)).1 = -1 ∨ (E.getD i (0, 0)).1 = -t ∨ (E.getD i (0, 0)).1 = t - 2 ∨ (E.getD i (0, 0)).1 = n
  tot : totP E E.length = n
  full : fullP E n E.length = if same then 1 else 0
end Go.Ae

/- A number, turned into a range. -/
set_option linter.unusedSimpArgs false
set_option linter.unusedVariables false
namespace Go.Ae
theorem turnN {x : Int} {n : Nat} (hn : 0 < n) : ∃ k : Nat, x % (n : Int) = k ∧ k < n := by
  have h1 := Int.emod_nonneg x (show (n : Int) ≠ 0 by omega)
  have h2 := Int.emod_lt_of_pos x (show (0 : Int) < n by omega)
  exact ⟨(x % n).toNat, by omega, by omega⟩
end Go.Ae

/- The statement on windows over streams of codes, of layer 9. -/
set_option linter.unusedSimpArgs false
set_option linter.unusedVariables false
namespace Go.Ae
def sD (l : List Int) (k : Nat) : Int := if k < l.length then l.getD k 0 % 3 - 1 else 0
def sG (l : List Int) (k : Nat) : Int := if k < l.length ∧ l.getD k 0 % 2 = 1 then -1 else 1
theorem sD_range (l : List Int) (k : Nat) : -1 ≤ sD l k ∧ sD l k ≤ 1 := by unfold sD; split <;> omega
theorem sG_pm (l : List Int) (k : Nat) : sG l k = 1 ∨ sG l k = -1 := by unfold sG; split <;> simp
def nearW (b : List Int) (s : Nat → Int) (m o : Nat) (n0 : Bool) : Nat → Bool
  | 0 => n0
  | k + 1 => nearW b s m o n0 k || decide (max ((stN b s k : Int) - m) (0 - ((stN b s k : Int) - m)) < o)
theorem nearW_no {b : List Int} {s : Nat → Int} {m o : Nat} {n0 : Bool} : ∀ n, nearW b s m o n0 n = false → n0 = false ∧ ∀ k, k < n → (o : Int) ≤ (stN b s k : Int) - m ∨ (o : Int) ≤ (m : Int) - stN b s k
  | 0, h => ⟨h, fun k hk => by omega⟩
  | n + 1, h => by
    rw [nearW, Bool.or_eq_false_iff] at h
    have ih := nearW_no n h.1
    refine ⟨ih.1, fun k hk => ?_⟩
    rcases Nat.lt_or_ge k n with c | c
    · exact ih.2 k c
    · have e : k = n := by omega
      subst e
      have := of_decide_eq_false h.2
      omega
theorem strL_next {b : List Int} {g s : Nat → Int} {k i : Nat} : strL b g s k ++ pieceL b (g k) (s k) i ++ [g k * b.getD (min i (b.length - 1)) 0] = strL b g s k ++ pieceL b (g k) (s k) (i + 1) := by
  rw [pieceL_succ, List.append_assoc]
section
variable {C : Ctx}
set_option maxHeartbeats 4000000 in
set_option maxRecDepth 20000 in
theorem CrossWindows_law (hC : Has C T161) (hS : SortOk C 178) {d0 o0 p0 q0 m0 : Int} {vd vg : AV} {ds gs : List Int} {h : Heap} (hd0 : In64 d0) (ho0 : In64 o0) (hp0 : In64 p0) (hq0 : In64 q0) (hm0 : In64 m0)
    (hds : RI h vd ds) (hgs : RI h vg gs) (hx : ∀ x ∈ ds, In64 x) (hy : ∀ x ∈ gs, In64 x) :
    ACalls C 161 [.int .i64 d0, .int .i64 o0, .int .i64 p0, .int .i64 q0, .int .i64 m0, vd, vg] h (fun r _ => r = .bool true) := by
  have hdlt := hds.lt
  have hglt := hgs.lt
  by_cases c0 : 6 < ds.length ∨ 6 < gs.length
  · (refine calls_intro (hC.body (by decide) tab161) (Nat.le_of_ble_eq_true rfl) ?_); (show wp C _ none B161.code _ _); (simp only [B161]); simp -implicitDefEqProofs (disch := first | assumption | decide | omega | (simp only [wpD1] <;> omega) | (simp only [wpD2] <;> assumption) | solve_by_elim [HSub.refl, HSub.push, HSub.reserve] | fail) only [↓wpPre, wpPost, wpPoly, Int.reduceToNat, Int.reducePow, Int.reduceMul, Int.reduceAdd, Int.reduceSub, Int.reduceNeg, Nat.reduceAdd, Nat.reduceMul, Nat.reducePow, Int.reduceLT, Int.reduceLE, Int.reduceEq, Nat.reduceEqDiff]
    refine ACallsK.eq (known157_spec (hC.sub (T' := T157) (by decide)) hS) ?_
    (repeat' (first | (refine Br.by (fun _ => ?_) (fun _ => ?_)) | (simp -implicitDefEqProofs (disch := first | assumption | decide | omega | (simp only [wpD1] <;> omega) | (simp only [wpD2] <;> assumption) | solve_by_elim [HSub.refl, HSub.push, HSub.reserve] | fail) only [↓wpPre, wpPost, wpPoly, Int.reduceToNat, Int.reducePow, Int.reduceMul, Int.reduceAdd, Int.reduceSub, Int.reduceNeg, Nat.reduceAdd, Nat.reduceMul, Nat.reducePow, Int.reduceLT, Int.reduceLE, Int.reduceEq, Nat.reduceEqDiff, hds.len, hgs.len, gV_u])))
    all_goals (exfalso; omega)
  have f1 := Int.emod_nonneg d0 (show (2 : Int) ≠ 0 by decide)
  have f2 := Int.emod_lt_of_pos d0 (show (0 : Int) < 2 by decide)
  obtain ⟨d, hd⟩ : ∃ d, d = 5 + d0 % 2 := ⟨_, rfl⟩
  have sd : smallD d := by unfold smallD; omega
  have hl := sd.len
  have hN := lenN_eq hl.1
  have hd5 : 5 ≤ d ∧ d ≤ 6 := by omega
  obtain ⟨n, hn⟩ : ∃ n, n = lenN d := ⟨_, rfl⟩
  rw [← hn] at hN
  have hn63 : n ≤ 127 := by rw [hn]; exact hl.2.2.1
  obtain ⟨o1, eo, ho⟩ := turnN (x := o0) (n := 3) (by omega)
  obtain ⟨p1, ep, hp⟩ := turnN (x := p0) (n := n + 2) (by omega)
  obtain ⟨q1, eq, hq⟩ := turnN (x := q0) (n := n + 2) (by omega)
  obtain ⟨o, ho'⟩ : ∃ o, o = o1 + 1 := ⟨_, rfl⟩
  have xN : ∃ N, N = n * o := ⟨_, rfl⟩
  obtain ⟨N, eN⟩ := xN
  have hNb : 31 ≤ N ∧ N ≤ 381 ∧ o ≤ N := by
    rw [eN]
    have a1 : n * 1 ≤ n * o := Nat.mul_le_mul_left n (by omega)
    have a2 : n * o ≤ 127 * 3 := Nat.mul_le_mul hn63 (by omega)
    omega
  obtain ⟨m, em, hm⟩ := turnN (x := m0) (n := 2 * N) (by omega)
  have T1 := fun h => Turn_spec (h := h) (hC.sub (T' := T23) (by decide)) hd0 (n := 2) (by decide)
  have T2 := fun h => Turn_spec (h := h) (hC.sub (T' := T23) (by decide)) ho0 (n := 3) (by decide)
  have Tp := fun h => Turn_spec (h := h) (n := (n : Int) + 2) (hC.sub (T' := T23) (by decide)) hp0 (by omega)
  have Tq := fun h => Turn_spec (h := h) (n := (n : Int) + 2) (hC.sub (T' := T23) (by decide)) hq0 (by omega)
  have Tm := fun h => Turn_spec (h := h) (n := 2 * (N : Int)) (hC.sub (T' := T23) (by decide)) hm0 (by omega)
  rw [show (3 : Int) = ((3 : Nat) : Int) by omega, eo, show ((3 : Nat) : Int) = (3 : Int) by omega] at T2
  rw [show (n : Int) + 2 = ((n + 2 : Nat) : Int) by omega, ep] at Tp
  rw [show (n : Int) + 2 = ((n + 2 : Nat) : Int) by omega, eq] at Tq
  rw [show 2 * (N : Int) = ((2 * N : Nat) : Int) by omega, em] at Tm
  have e2 : ((n + 2 : Nat) : Int) = (n : Int) + 2 := by omega
  rw [e2] at Tp Tq
  have e2N : ((2 * N : Nat) : Int) = 2 * (N : Int) := by omega
  rw [e2N] at Tm
  have e1 : ((n + 1 : Nat) : Int) - 1 = n := by omega
  have ep1 : 1 + (p1 : Int) = ((p1 + 1 : Nat) : Int) := by omega
  have eq1 : 1 + (q1 : Int) = ((q1 + 1 : Nat) : Int) := by omega
  have eo1 : 1 + (o1 : Int) = (o : Nat) := by omega
  have eNo : (n : Int) * (o : Int) = (N : Nat) := by rw [eN]; exact (Int.natCast_mul n o).symm
  have xp : ∃ p : Int, p = ((p1 + 1 : Nat) : Int) := ⟨_, rfl⟩
  have xq : ∃ q : Int, q = ((q1 + 1 : Nat) : Int) := ⟨_, rfl⟩
  obtain ⟨p, hp'⟩ := xp
  obtain ⟨q, hq'⟩ := xq
  rw [← hp'] at ep1
  rw [← hq'] at eq1
  have ke : knownErr d (o : Nat) = 0 := by unfold knownErr; rw [if_pos ⟨hl.1, by omega⟩]
  have cp : codeErr d p = 0 := by rw [hp']; exact codeErr_ok hl.1 (by omega)
  have cq : codeErr d q = 0 := by rw [hq']; exact codeErr_ok hl.1 (by omega)
  have x1 : sampErr d (o : Nat) [p] = 0 := by unfold sampErr; rw [if_pos ⟨ke, by simp [cp]⟩]
  have x2 : sampErr d (o : Nat) [q] = 0 := by unfold sampErr; rw [if_pos ⟨ke, by simp [cq]⟩]
  have x3 : sampErr d (o : Nat) [p, q] = 0 := by unfold sampErr; rw [if_pos ⟨ke, by simp [cp, cq]⟩]
  have i5 : In64 d := by unfold In64; omega
  have io : In64 (o : Nat) := by unfold In64; omega
  have ip : In64 p := by unfold In64; omega
  have iq : In64 q := by unfold In64; omega
  have S1 := fun h => SamplesC_spec (hC.sub (T' := T131) (by decide)) (h := h) i5 io ip
  have S2 := fun h => SamplesC_spec (hC.sub (T' := T131) (by decide)) (h := h) i5 io iq
  have s1 := fun h => Side_spec (hC.sub (T' := T175) (by decide)) (h := h) i5 io ip
  have s2 := fun h => Cross_spec (hC.sub (T' := T173) (by decide)) (h := h) i5 io ip iq
  have v1 : sideE d (o : Nat) p = tup2 (greatI (sampL d p o) (sampL d p o) o) 0 := by unfold sideE; rw [if_pos x1]; rfl
  have v2 : crossE d (o : Nat) p q = tup2 (greatI (sampL d p o) (sampL d q o) 0) 0 := by unfold crossE; rw [if_pos x3]; rfl
  simp only [v1] at s1
  simp only [v2] at s2
  simp only [x1, if_pos, Int.toNat_natCast] at S1
  simp only [x2, if_pos, Int.toNat_natCast] at S2
  have lA : (sampL d p o).length = N := by rw [sampL_length, ← hn, eN]
  have lB : (sampL d q o).length = N := by rw [sampL_length, ← hn, eN]
  have oA := sampL_one1 d p o
  have oB := sampL_one1 d q o
  have eAB : p = q → sampL d p o = sampL d q o := fun e => by rw [e]
  generalize sampL d p o = A at *
  generalize sampL d q o = B at *
  have sr := sD_range ds
  have gr := sG_pm gs
  generalize hs' : sD ds = s at sr
  generalize hg' : sG gs = g at gr
  have W := fun x hx => str_win (a := A) (b := B) (g := g) (s := s) (m := m) (lA.trans lB.symm) (by omega) sr gr (by omega) x hx
  have W0 := W 0 (.inl rfl)
  (refine calls_intro (hC.body (by decide) tab161) (Nat.le_of_ble_eq_true rfl) ?_); (show wp C _ none B161.code _ _); (simp only [B161]); simp -implicitDefEqProofs (disch := first | assumption | decide | omega | (simp only [wpD1] <;> omega) | (simp only [wpD2] <;> assumption) | solve_by_elim [HSub.refl, HSub.push, HSub.reserve] | fail) only [↓wpPre, wpPost, wpPoly, Int.reduceToNat, Int.reducePow, Int.reduceMul, Int.reduceAdd, Int.reduceSub, Int.reduceNeg, Nat.reduceAdd, Nat.reduceMul, Nat.reducePow, Int.reduceLT, Int.reduceLE, Int.reduceEq, Nat.reduceEqDiff]
  refine ACallsK.eq (known157_spec (hC.sub (T' := T157) (by decide)) hS) ?_
  simp -implicitDefEqProofs (disch := first | assumption | decide | omega | (simp only [wpD1] <;> omega) | (simp only [wpD2] <;> assumption) | solve_by_elim [HSub.refl, HSub.push, HSub.reserve] | fail) only [↓wpPre, wpPost, wpPoly, Int.reduceToNat, Int.reducePow, Int.reduceMul, Int.reduceAdd, Int.reduceSub, Int.reduceNeg, Nat.reduceAdd, Nat.reduceMul, Nat.reducePow, Int.reduceLT, Int.reduceLE, Int.reduceEq, Nat.reduceEqDiff, hds.len, hgs.len, gV_u]
  refine ACallsK.eq (T1 _) ?_
  simp -implicitDefEqProofs (disch := first | assumption | decide | omega | (simp only [wpD1] <;> omega) | (simp only [wpD2] <;> assumption) | solve_by_elim [HSub.refl, HSub.push, HSub.reserve] | fail) only [↓wpPre, wpPost, wpPoly, Int.reduceToNat, Int.reducePow, Int.reduceMul, Int.reduceAdd, Int.reduceSub, Int.reduceNeg, Nat.reduceAdd, Nat.reduceMul, Nat.reducePow, Int.reduceLT, Int.reduceLE, Int.reduceEq, Nat.reduceEqDiff, ← hd]
  refine ACallsK.eq (T2 _) ?_
  simp -implicitDefEqProofs (disch := first | assumption | decide | omega | (simp only [wpD1] <;> omega) | (simp only [wpD2] <;> assumption) | solve_by_elim [HSub.refl, HSub.push, HSub.reserve] | fail) only [↓wpPre, wpPost, wpPoly, Int.reduceToNat, Int.reducePow, Int.reduceMul, Int.reduceAdd, Int.reduceSub, Int.reduceNeg, Nat.reduceAdd, Nat.reduceMul, Nat.reducePow, Int.reduceLT, Int.reduceLE, Int.reduceEq, Nat.reduceEqDiff, eo1, Int.one_mul, hN.2.2, e1]
  refine ACallsK.eq (Tp _) ?_
  simp -implicitDefEqProofs (disch := first | assumption | decide | omega | (simp only [wpD1] <;> omega) | (simp only [wpD2] <;> assumption) | solve_by_elim [HSub.refl, HSub.push, HSub.reserve] | fail) only [↓wpPre, wpPost, wpPoly, Int.reduceToNat, Int.reducePow, Int.reduceMul, Int.reduceAdd, Int.reduceSub, Int.reduceNeg, Nat.reduceAdd, Nat.reduceMul, Nat.reducePow, Int.reduceLT, Int.reduceLE, Int.reduceEq, Nat.reduceEqDiff, ep1]
  refine ACallsK.eq (Tq _) ?_
  simp -implicitDefEqProofs (disch := first | assumption | decide | omega | (simp only [wpD1] <;> omega) | (simp only [wpD2] <;> assumption) | solve_by_elim [HSub.refl, HSub.push, HSub.reserve] | fail) only [↓wpPre, wpPost, wpPoly, Int.reduceToNat, Int.reducePow, Int.reduceMul, Int.reduceAdd, Int.reduceSub, Int.reduceNeg, Nat.reduceAdd, Nat.reduceMul, Nat.reducePow, Int.reduceLT, Int.reduceLE, Int.reduceEq, Nat.reduceEqDiff, eq1]
  refine ACallsK.of (S1 _) ?_
  rintro r h1 ⟨va, rfl, t1, Ra⟩
  simp -implicitDefEqProofs (disch := first | assumption | decide | omega | (simp only [wpD1] <;> omega) | (simp only [wpD2] <;> assumption) | solve_by_elim [HSub.refl, HSub.push, HSub.reserve] | fail) only [↓wpPre, wpPost, wpPoly, Int.reduceToNat, Int.reducePow, Int.reduceMul, Int.reduceAdd, Int.reduceSub, Int.reduceNeg, Nat.reduceAdd, Nat.reduceMul, Nat.reducePow, Int.reduceLT, Int.reduceLE, Int.reduceEq, Nat.reduceEqDiff, lstErr]
  refine ACallsK.of (S2 _) ?_
  rintro r h2 ⟨vb, rfl, t2, Rb⟩
  have Ra := Ra.mono t2
  have hds := hds.mono (t1.trans t2)
  have hgs := hgs.mono (t1.trans t2)
  simp -implicitDefEqProofs (disch := first | assumption | decide | omega | (simp only [wpD1] <;> omega) | (simp only [wpD2] <;> assumption) | solve_by_elim [HSub.refl, HSub.push, HSub.reserve] | fail) only [↓wpPre, wpPost, wpPoly, Int.reduceToNat, Int.reducePow, Int.reduceMul, Int.reduceAdd, Int.reduceSub, Int.reduceNeg, Nat.reduceAdd, Nat.reduceMul, Nat.reducePow, Int.reduceLT, Int.reduceLE, Int.reduceEq, Nat.reduceEqDiff, lstErr, eNo, Ra.len, Rb.len, lA, lB, gV_u]
  refine wp_loopI (fun j t h' => ∃ k : Nat, GrwI h2 h' (t 22) (strL B g s k) ∧ GrwI h2 h' (t 23) (staL B s k) ∧ Dj (t 22) (t 23) ∧ t 0 = .int .i64 d ∧ t 1 = .int .i64 (o : Nat) ∧ t 2 = .int .i64 p ∧ t 3 = .int .i64 q ∧ t 4 = .int .i64 m0 ∧ t 5 = vd ∧ t 6 = vg ∧ t 15 = .bool true ∧ t 17 = va ∧ t 19 = vb ∧ t 21 = .int .i64 (N : Nat) ∧ t 24 = .int .i64 (k : Nat) ∧ k ≤ 4 ∧ j = 4 - k) (j0 := 4)
    ⟨0, GrwI.nil _, GrwI.nil _, Dj.nilL, rfl, rfl, rfl, rfl, rfl, rfl, rfl, rfl, rfl, rfl, rfl, rfl, by omega, rfl⟩ ?_
  rintro j t h3 ⟨k, A1, A2, dj, g0, g1, g2, g3, g4, g5, g6, g15, g17, g19, g21, g24, hk, hj⟩
  simp -implicitDefEqProofs (disch := first | assumption | decide | omega | (simp only [wpD1] <;> omega) | (simp only [wpD2] <;> assumption) | solve_by_elim [HSub.refl, HSub.push, HSub.reserve] | fail) only [↓wpPre, wpPost, wpPoly, Int.reduceToNat, Int.reducePow, Int.reduceMul, Int.reduceAdd, Int.reduceSub, Int.reduceNeg, Nat.reduceAdd, Nat.reduceMul, Nat.reducePow, Int.reduceLT, Int.reduceLE, Int.reduceEq, Nat.reduceEqDiff, g24]
  refine Br.by (fun c3 => ?_) (fun c3 => ?_)
  · have hk' : k < 4 := by omega
    have D1 := hds.mono A1.sub
    have G1 := hgs.mono A1.sub
    have esk : sD ds k = s k := by rw [hs']
    have egk : sG gs k = g k := by rw [hg']
    have rs := sr k
    have stl := strL_length B g s k
    have str := stN_range (b := B) (by omega) sr k
    have sal := staL_length B s k
    have sas := staL_succ B s k
    have lP : ((lenP B (s k) : Nat) : Int) = N + s k := by unfold lenP; omega
    have kd : (k : Int) < ds.length ∨ ¬ (k : Int) < ds.length := by omega
    have kg : ((k : Int) < gs.length ∧ gs.getD k 0 % 2 = 1) ∨ ((k : Int) < gs.length ∧ ¬ gs.getD k 0 % 2 = 1) ∨ ¬ (k : Int) < gs.length := by omega
    have stb : stN B s k ≤ 4 * (B.length + 1) := Nat.le_trans str.2 (Nat.mul_le_mul_right _ (by omega))
    have ap2 := fun (H : Heap) (hH : HSub h3 H) => A2.app (x := (stN B s k : Nat)) H hH (by omega)
    have a2c := fun b => A2.snoc (x := (stN B s k : Nat)) (HSub.push1 h3 b) (by omega)
    have a1c := fun b => A2.keep (x := (stN B s k : Nat)) A1 (HSub.push1 h3 b) dj
    rw [← sas] at a2c a1c
    have p0 : pieceL B (g k) (s k) 0 = [] := rfl
    have p0 : pieceL B (g k) (s k) 0 = [] := rfl
    have p0 : pieceL B (g k) (s k) 0 = [] := rfl
    have p0 : pieceL B (g k) (s k) 0 = [] := rfl
    have p0 : pieceL B (g k) (s k) 0 = [] := rfl
    have p0 : pieceL B (g k) (s k) 0 = [] := rfl
    have p0 : pieceL B (g k) (s k) 0 = [] := rfl
    have p0 : pieceL B (g k) (s k) 0 = [] := rfl
    have p0 : pieceL B (g k) (s k) 0 = [] := rfl
    have p0 : pieceL B (g k) (s k) 0 = [] := rfl
    have p0 : pieceL B (g k) (s k) 0 = [] := rfl
    have p0 : pieceL B (g k) (s k) 0 = [] := rfl
    have p0 : pieceL B (g k) (s k) 0 = [] := rfl
    rcases kd with kd | kd
    · have kl : k < ds.length := by omega
      have hxk := hx _ (getD_mem kl)
      have TD := fun h => Turn_spec (h := h) (hC.sub (T' := T23) (by decide)) hxk (n := 3) (by decide)
      have w1 : ds.getD k 0 % 3 - 1 = s k := by rw [← esk]; unfold sD; rw [if_pos kl]
      have w0 : s k = s k := rfl
      simp -implicitDefEqProofs (disch := first | assumption | decide | omega | (simp only [wpD1] <;> omega) | (simp only [wpD2] <;> assumption) | solve_by_elim [HSub.refl, HSub.push, HSub.reserve] | fail) only [↓wpPre, wpPost, wpPoly, Int.reduceToNat, Int.reducePow, Int.reduceMul, Int.reduceAdd, Int.reduceSub, Int.reduceNeg, Nat.reduceAdd, Nat.reduceMul, Nat.reducePow, Int.reduceLT, Int.reduceLE, Int.reduceEq, Nat.reduceEqDiff, g24, g5, D1.len, kd, D1.idx, D1.loadC]
      refine ACallsK.eq (TD _) ?_
      rcases kg with ⟨kg, kg2⟩ | ⟨kg, kg2⟩ | kg
      · have kl2 : k < gs.length := by omega
        have hyk := hy _ (getD_mem kl2)
        have TG := fun h => Turn_spec (h := h) (hC.sub (T' := T23) (by decide)) hyk (n := 2) (by decide)
        have u0 : (-1 : Int) = g k := by rw [← egk]; unfold sG; rw [if_pos ⟨kl2, kg2⟩]
        simp -implicitDefEqProofs (disch := first | assumption | decide | omega | (simp only [wpD1] <;> omega) | (simp only [wpD2] <;> assumption) | solve_by_elim [HSub.refl, HSub.push, HSub.reserve] | fail) only [↓wpPre, wpPost, wpPoly, Int.reduceToNat, Int.reducePow, Int.reduceMul, Int.reduceAdd, Int.reduceSub, Int.reduceNeg, Nat.reduceAdd, Nat.reduceMul, Nat.reducePow, Int.reduceLT, Int.reduceLE, Int.reduceEq, Nat.reduceEqDiff, w1, g24, g6, G1.len, kg, G1.idx, G1.loadC]
        refine ACallsK.eq (TG _) ?_
        simp -implicitDefEqProofs (disch := first | assumption | decide | omega | (simp only [wpD1] <;> omega) | (simp only [wpD2] <;> assumption) | solve_by_elim [HSub.refl, HSub.push, HSub.reserve] | fail) only [↓wpPre, wpPost, wpPoly, Int.reduceToNat, Int.reducePow, Int.reduceMul, Int.reduceAdd, Int.reduceSub, Int.reduceNeg, Nat.reduceAdd, Nat.reduceMul, Nat.reducePow, Int.reduceLT, Int.reduceLE, Int.reduceEq, Nat.reduceEqDiff, kg2]
        simp -implicitDefEqProofs (disch := first | assumption | decide | omega | (simp only [wpD1] <;> omega) | (simp only [wpD2] <;> assumption) | solve_by_elim [HSub.refl, HSub.push, HSub.reserve] | fail) only [↓wpPre, wpPost, wpPoly, Int.reduceToNat, Int.reducePow, Int.reduceMul, Int.reduceAdd, Int.reduceSub, Int.reduceNeg, Nat.reduceAdd, Nat.reduceMul, Nat.reducePow, Int.reduceLT, Int.reduceLE, Int.reduceEq, Nat.reduceEqDiff, A1.ri.len, stl, cont_slice, contB_one, ap2, ← sas]
        refine wp_loopI (fun j t h' => ∃ i : Nat, GrwI h2 h' (t 22) (strL B g s k ++ pieceL B (g k) (s k) i) ∧ GrwI h2 h' (t 23) (staL B s (k + 1)) ∧ Dj (t 22) (t 23) ∧ t 0 = .int .i64 d ∧ t 1 = .int .i64 (o : Nat) ∧ t 2 = .int .i64 p ∧ t 3 = .int .i64 q ∧ t 4 = .int .i64 m0 ∧ t 5 = vd ∧ t 6 = vg ∧ t 15 = .bool true ∧ t 17 = va ∧ t 19 = vb ∧ t 21 = .int .i64 (N : Nat) ∧ t 24 = .int .i64 (k : Nat) ∧ t 25 = .int .i64 (s k) ∧ t 26 = .int .i64 (g k) ∧ t 27 = .int .i64 (i : Nat) ∧ i ≤ lenP B (s k) ∧ j = lenP B (s k) - i) (j0 := lenP B (s k))
          ⟨0, by rw [p0, List.append_nil]; exact a1c _, a2c _, A1.dj (by simp), g0, g1, g2, g3, g4, g5, g6, g15, g17, g19, g21, g24, congrArg (AV.int .i64) w0, congrArg (AV.int .i64) u0, rfl, by omega, rfl⟩ ?_
        rintro j t h4 ⟨i, E1, E2, dj, g0, g1, g2, g3, g4, g5, g6, g15, g17, g19, g21, g24, g25, g26, g27, hi, hj2⟩
        simp -implicitDefEqProofs (disch := first | assumption | decide | omega | (simp only [wpD1] <;> omega) | (simp only [wpD2] <;> assumption) | solve_by_elim [HSub.refl, HSub.push, HSub.reserve] | fail) only [↓wpPre, wpPost, wpPoly, Int.reduceToNat, Int.reducePow, Int.reduceMul, Int.reduceAdd, Int.reduceSub, Int.reduceNeg, Nat.reduceAdd, Nat.reduceMul, Nat.reducePow, Int.reduceLT, Int.reduceLE, Int.reduceEq, Nat.reduceEqDiff, g27, g21, g25]
        refine Br.by (fun c4 => ?_) (fun c4 => ?_)
        · have hi' : i < lenP B (s k) := by omega
          have sn := strL_next (b := B) (g := g) (s := s) (k := k) (i := i)
          rw [lB] at sn
          have hll : (strL B g s k ++ pieceL B (g k) (s k) i).length ≤ 100000 := by
            rw [List.length_append, stl, pieceL_length]; omega
          have R := Rb.mono E1.sub
          have mn : min (i : Int) ((N : Int) - 1) = ((min i (N - 1) : Nat) : Int) := by omega
          have mlt : min i (N - 1) < N := by omega
          have hmul := mul_one1 (show -1 ≤ g k ∧ g k ≤ 1 by have := gr k; omega) (oB.get (min i (N - 1)))
          have ap1 := fun (H : Heap) (hH : HSub h4 H) => E1.app (x := g k * B.getD (min i (N - 1)) 0) H hH (by omega)
          have E1c := fun b => E1.snoc (x := g k * B.getD (min i (N - 1)) 0) (HSub.push1 h4 b) (by omega)
          have E2c := fun b => E1.keep (x := g k * B.getD (min i (N - 1)) 0) E2 (HSub.push1 h4 b) dj.symm
          rw [sn] at E1c E2c
          have ld := R.load (k := min i (N - 1)) (by rw [lB]; exact mlt)
          have ix := R.idx (kk := .i64) (k := ((min i (N - 1) : Nat) : Int)) ⟨by omega, by omega⟩
          rw [Int.toNat_natCast] at ix
          generalize min i (N - 1) = ii at *
          have hw : IntKind.i64.wrap (g k * B.getD ii 0) = g k * B.getD ii 0 := w_i64 (by omega)
          simp -implicitDefEqProofs (disch := first | assumption | decide | omega | (simp only [wpD1] <;> omega) | (simp only [wpD2] <;> assumption) | solve_by_elim [HSub.refl, HSub.push, HSub.reserve] | fail) only [↓wpPre, wpPost, wpPoly, Int.reduceToNat, Int.reducePow, Int.reduceMul, Int.reduceAdd, Int.reduceSub, Int.reduceNeg, Nat.reduceAdd, Nat.reduceMul, Nat.reducePow, Int.reduceLT, Int.reduceLE, Int.reduceEq, Nat.reduceEqDiff, g19, g21, g26, g27, mn, ix, ld, hw, cont_slice, contB_one, ap1, sn, g0, g1, g2, g3, g4, g5, g6, g15, g17, g24, g25]
          exact ⟨_, ⟨i + 1, E1c _, E2c _, (E2.dj (by simp)).symm, by simp, by omega, rfl⟩, by omega⟩
        · have ei : i = lenP B (s k) := by omega
          subst ei
          simp -implicitDefEqProofs (disch := first | assumption | decide | omega | (simp only [wpD1] <;> omega) | (simp only [wpD2] <;> assumption) | solve_by_elim [HSub.refl, HSub.push, HSub.reserve] | fail) only [↓wpPre, wpPost, wpPoly, Int.reduceToNat, Int.reducePow, Int.reduceMul, Int.reduceAdd, Int.reduceSub, Int.reduceNeg, Nat.reduceAdd, Nat.reduceMul, Nat.reducePow, Int.reduceLT, Int.reduceLE, Int.reduceEq, Nat.reduceEqDiff, g24]
          exact ⟨_, ⟨k + 1, E1, E2, dj, g0, g1, g2, g3, g4, g5, g6, g15, g17, g19, g21, by simp, by omega, rfl⟩, by omega⟩
      · have kl2 : k < gs.length := by omega
        have hyk := hy _ (getD_mem kl2)
        have TG := fun h => Turn_spec (h := h) (hC.sub (T' := T23) (by decide)) hyk (n := 2) (by decide)
        have u0 : (1 : Int) = g k := by rw [← egk]; unfold sG; rw [if_neg (fun q => kg2 q.2)]
        simp -implicitDefEqProofs (disch := first | assumption | decide | omega | (simp only [wpD1] <;> omega) | (simp only [wpD2] <;> assumption) | solve_by_elim [HSub.refl, HSub.push, HSub.reserve] | fail) only [↓wpPre, wpPost, wpPoly, Int.reduceToNat, Int.reducePow, Int.reduceMul, Int.reduceAdd, Int.reduceSub, Int.reduceNeg, Nat.reduceAdd, Nat.reduceMul, Nat.reducePow, Int.reduceLT, Int.reduceLE, Int.reduceEq, Nat.reduceEqDiff, w1, g24, g6, G1.len, kg, G1.idx, G1.loadC]
        refine ACallsK.eq (TG _) ?_
        simp -implicitDefEqProofs (disch := first | assumption | decide | omega | (simp only [wpD1] <;> omega) | (simp only [wpD2] <;> assumption) | solve_by_elim [HSub.refl, HSub.push, HSub.reserve] | fail) only [↓wpPre, wpPost, wpPoly, Int.reduceToNat, Int.reducePow, Int.reduceMul, Int.reduceAdd, Int.reduceSub, Int.reduceNeg, Nat.reduceAdd, Nat.reduceMul, Nat.reducePow, Int.reduceLT, Int.reduceLE, Int.reduceEq, Nat.reduceEqDiff, kg2]
        simp -implicitDefEqProofs (disch := first | assumption | decide | omega | (simp only [wpD1] <;> omega) | (simp only [wpD2] <;> assumption) | solve_by_elim [HSub.refl, HSub.push, HSub.reserve] | fail) only [↓wpPre, wpPost, wpPoly, Int.reduceToNat, Int.reducePow, Int.reduceMul, Int.reduceAdd, Int.reduceSub, Int.reduceNeg, Nat.reduceAdd, Nat.reduceMul, Nat.reducePow, Int.reduceLT, Int.reduceLE, Int.reduceEq, Nat.reduceEqDiff, A1.ri.len, stl, cont_slice, contB_one, ap2, ← sas]
        refine wp_loopI (fun j t h' => ∃ i : Nat, GrwI h2 h' (t 22) (strL B g s k ++ pieceL B (g k) (s k) i) ∧ GrwI h2 h' (t 23) (staL B s (k + 1)) ∧ Dj (t 22) (t 23) ∧ t 0 = .int .i64 d ∧ t 1 = .int .i64 (o : Nat) ∧ t 2 = .int .i64 p ∧ t 3 = .int .i64 q ∧ t 4 = .int .i64 m0 ∧ t 5 = vd ∧ t 6 = vg ∧ t 15 = .bool true ∧ t 17 = va ∧ t 19 = vb ∧ t 21 = .int .i64 (N : Nat) ∧ t 24 = .int .i64 (k : Nat) ∧ t 25 = .int .i64 (s k) ∧ t 26 = .int .i64 (g k) ∧ t 27 = .int .i64 (i : Nat) ∧ i ≤ lenP B (s k) ∧ j = lenP B (s k) - i) (j0 := lenP B (s k))
          ⟨0, by rw [p0, List.append_nil]; exact a1c _, a2c _, A1.dj (by simp), g0, g1, g2, g3, g4, g5, g6, g15, g17, g19, g21, g24, congrArg (AV.int .i64) w0, congrArg (AV.int .i64) u0, rfl, by omega, rfl⟩ ?_
        rintro j t h4 ⟨i, E1, E2, dj, g0, g1, g2, g3, g4, g5, g6, g15, g17, g19, g21, g24, g25, g26, g27, hi, hj2⟩
        simp -implicitDefEqProofs (disch := first | assumption | decide | omega | (simp only [wpD1] <;> omega) | (simp only [wpD2] <;> assumption) | solve_by_elim [HSub.refl, HSub.push, HSub.reserve] | fail) only [↓wpPre, wpPost, wpPoly, Int.reduceToNat, Int.reducePow, Int.reduceMul, Int.reduceAdd, Int.reduceSub, Int.reduceNeg, Nat.reduceAdd, Nat.reduceMul, Nat.reducePow, Int.reduceLT, Int.reduceLE, Int.reduceEq, Nat.reduceEqDiff, g27, g21, g25]
        refine Br.by (fun c4 => ?_) (fun c4 => ?_)
        · have hi' : i < lenP B (s k) := by omega
          have sn := strL_next (b := B) (g := g) (s := s) (k := k) (i := i)
          rw [lB] at sn
          have hll : (strL B g s k ++ pieceL B (g k) (s k) i).length ≤ 100000 := by
            rw [List.length_append, stl, pieceL_length]; omega
          have R := Rb.mono E1.sub
          have mn : min (i : Int) ((N : Int) - 1) = ((min i (N - 1) : Nat) : Int) := by omega
          have mlt : min i (N - 1) < N := by omega
          have hmul := mul_one1 (show -1 ≤ g k ∧ g k ≤ 1 by have := gr k; omega) (oB.get (min i (N - 1)))
          have ap1 := fun (H : Heap) (hH : HSub h4 H) => E1.app (x := g k * B.getD (min i (N - 1)) 0) H hH (by omega)
          have E1c := fun b => E1.snoc (x := g k * B.getD (min i (N - 1)) 0) (HSub.push1 h4 b) (by omega)
          have E2c := fun b => E1.keep (x := g k * B.getD (min i (N - 1)) 0) E2 (HSub.push1 h4 b) dj.symm
          rw [sn] at E1c E2c
          have ld := R.load (k := min i (N - 1)) (by rw [lB]; exact mlt)
          have ix := R.idx (kk := .i64) (k := ((min i (N - 1) : Nat) : Int)) ⟨by omega, by omega⟩
          rw [Int.toNat_natCast] at ix
          generalize min i (N - 1) = ii at *
          have hw : IntKind.i64.wrap (g k * B.getD ii 0) = g k * B.getD ii 0 := w_i64 (by omega)
          simp -implicitDefEqProofs (disch := first | assumption | decide | omega | (simp only [wpD1] <;> omega) | (simp only [wpD2] <;> assumption) | solve_by_elim [HSub.refl, HSub.push, HSub.reserve] | fail) only [↓wpPre, wpPost, wpPoly, Int.reduceToNat, Int.reducePow, Int.reduceMul, Int.reduceAdd, Int.reduceSub, Int.reduceNeg, Nat.reduceAdd, Nat.reduceMul, Nat.reducePow, Int.reduceLT, Int.reduceLE, Int.reduceEq, Nat.reduceEqDiff, g19, g21, g26, g27, mn, ix, ld, hw, cont_slice, contB_one, ap1, sn, g0, g1, g2, g3, g4, g5, g6, g15, g17, g24, g25]
          exact ⟨_, ⟨i + 1, E1c _, E2c _, (E2.dj (by simp)).symm, by simp, by omega, rfl⟩, by omega⟩
        · have ei : i = lenP B (s k) := by omega
          subst ei
          simp -implicitDefEqProofs (disch := first | assumption | decide | omega | (simp only [wpD1] <;> omega) | (simp only [wpD2] <;> assumption) | solve_by_elim [HSub.refl, HSub.push, HSub.reserve] | fail) only [↓wpPre, wpPost, wpPoly, Int.reduceToNat, Int.reducePow, Int.reduceMul, Int.reduceAdd, Int.reduceSub, Int.reduceNeg, Nat.reduceAdd, Nat.reduceMul, Nat.reducePow, Int.reduceLT, Int.reduceLE, Int.reduceEq, Nat.reduceEqDiff, g24]
          exact ⟨_, ⟨k + 1, E1, E2, dj, g0, g1, g2, g3, g4, g5, g6, g15, g17, g19, g21, by simp, by omega, rfl⟩, by omega⟩
      · have u0 : (1 : Int) = g k := by rw [← egk]; unfold sG; rw [if_neg (fun q => kg (by omega))]
        simp -implicitDefEqProofs (disch := first | assumption | decide | omega | (simp only [wpD1] <;> omega) | (simp only [wpD2] <;> assumption) | solve_by_elim [HSub.refl, HSub.push, HSub.reserve] | fail) only [↓wpPre, wpPost, wpPoly, Int.reduceToNat, Int.reducePow, Int.reduceMul, Int.reduceAdd, Int.reduceSub, Int.reduceNeg, Nat.reduceAdd, Nat.reduceMul, Nat.reducePow, Int.reduceLT, Int.reduceLE, Int.reduceEq, Nat.reduceEqDiff, w1, g24, g6, G1.len, kg, gV_u]
        simp -implicitDefEqProofs (disch := first | assumption | decide | omega | (simp only [wpD1] <;> omega) | (simp only [wpD2] <;> assumption) | solve_by_elim [HSub.refl, HSub.push, HSub.reserve] | fail) only [↓wpPre, wpPost, wpPoly, Int.reduceToNat, Int.reducePow, Int.reduceMul, Int.reduceAdd, Int.reduceSub, Int.reduceNeg, Nat.reduceAdd, Nat.reduceMul, Nat.reducePow, Int.reduceLT, Int.reduceLE, Int.reduceEq, Nat.reduceEqDiff, A1.ri.len, stl, cont_slice, contB_one, ap2, ← sas]
        refine wp_loopI (fun j t h' => ∃ i : Nat, GrwI h2 h' (t 22) (strL B g s k ++ pieceL B (g k) (s k) i) ∧ GrwI h2 h' (t 23) (staL B s (k + 1)) ∧ Dj (t 22) (t 23) ∧ t 0 = .int .i64 d ∧ t 1 = .int .i64 (o : Nat) ∧ t 2 = .int .i64 p ∧ t 3 = .int .i64 q ∧ t 4 = .int .i64 m0 ∧ t 5 = vd ∧ t 6 = vg ∧ t 15 = .bool true ∧ t 17 = va ∧ t 19 = vb ∧ t 21 = .int .i64 (N : Nat) ∧ t 24 = .int .i64 (k : Nat) ∧ t 25 = .int .i64 (s k) ∧ t 26 = .int .i64 (g k) ∧ t 27 = .int .i64 (i : Nat) ∧ i ≤ lenP B (s k) ∧ j = lenP B (s k) - i) (j0 := lenP B (s k))
          ⟨0, by rw [p0, List.append_nil]; exact a1c _, a2c _, A1.dj (by simp), g0, g1, g2, g3, g4, g5, g6, g15, g17, g19, g21, g24, congrArg (AV.int .i64) w0, congrArg (AV.int .i64) u0, rfl, by omega, rfl⟩ ?_
        rintro j t h4 ⟨i, E1, E2, dj, g0, g1, g2, g3, g4, g5, g6, g15, g17, g19, g21, g24, g25, g26, g27, hi, hj2⟩
        simp -implicitDefEqProofs (disch := first | assumption | decide | omega | (simp only [wpD1] <;> omega) | (simp only [wpD2] <;> assumption) | solve_by_elim [HSub.refl, HSub.push, HSub.reserve] | fail) only [↓wpPre, wpPost, wpPoly, Int.reduceToNat, Int.reducePow, Int.reduceMul, Int.reduceAdd, Int.reduceSub, Int.reduceNeg, Nat.reduceAdd, Nat.reduceMul, Nat.reducePow, Int.reduceLT, Int.reduceLE, Int.reduceEq, Nat.reduceEqDiff, g27, g21, g25]
        refine Br.by (fun c4 => ?_) (fun c4 => ?_)
        · have hi' : i < lenP B (s k) := by omega
          have sn := strL_next (b := B) (g := g) (s := s) (k := k) (i := i)
          rw [lB] at sn
          have hll : (strL B g s k ++ pieceL B (g k) (s k) i).length ≤ 100000 := by
            rw [List.length_append, stl, pieceL_length]; omega
          have R := Rb.mono E1.sub
          have mn : min (i : Int) ((N : Int) - 1) = ((min i (N - 1) : Nat) : Int) := by omega
          have mlt : min i (N - 1) < N := by omega
          have hmul := mul_one1 (show -1 ≤ g k ∧ g k ≤ 1 by have := gr k; omega) (oB.get (min i (N - 1)))
          have ap1 := fun (H : Heap) (hH : HSub h4 H) => E1.app (x := g k * B.getD (min i (N - 1)) 0) H hH (by omega)
          have E1c := fun b => E1.snoc (x := g k * B.getD (min i (N - 1)) 0) (HSub.push1 h4 b) (by omega)
          have E2c := fun b => E1.keep (x := g k * B.getD (min i (N - 1)) 0) E2 (HSub.push1 h4 b) dj.symm
          rw [sn] at E1c E2c
          have ld := R.load (k := min i (N - 1)) (by rw [lB]; exact mlt)
          have ix := R.idx (kk := .i64) (k := ((min i (N - 1) : Nat) : Int)) ⟨by omega, by omega⟩
          rw [Int.toNat_natCast] at ix
          generalize min i (N - 1) = ii at *
          have hw : IntKind.i64.wrap (g k * B.getD ii 0) = g k * B.getD ii 0 := w_i64 (by omega)
          simp -implicitDefEqProofs (disch := first | assumption | decide | omega | (simp only [wpD1] <;> omega) | (simp only [wpD2] <;> assumption) | solve_by_elim [HSub.refl, HSub.push, HSub.reserve] | fail) only [↓wpPre, wpPost, wpPoly, Int.reduceToNat, Int.reducePow, Int.reduceMul, Int.reduceAdd, Int.reduceSub, Int.reduceNeg, Nat.reduceAdd, Nat.reduceMul, Nat.reducePow, Int.reduceLT, Int.reduceLE, Int.reduceEq, Nat.reduceEqDiff, g19, g21, g26, g27, mn, ix, ld, hw, cont_slice, contB_one, ap1, sn, g0, g1, g2, g3, g4, g5, g6, g15, g17, g24, g25]
          exact ⟨_, ⟨i + 1, E1c _, E2c _, (E2.dj (by simp)).symm, by simp, by omega, rfl⟩, by omega⟩
        · have ei : i = lenP B (s k) := by omega
          subst ei
          simp -implicitDefEqProofs (disch := first | assumption | decide | omega | (simp only [wpD1] <;> omega) | (simp only [wpD2] <;> assumption) | solve_by_elim [HSub.refl, HSub.push, HSub.reserve] | fail) only [↓wpPre, wpPost, wpPoly, Int.reduceToNat, Int.reducePow, Int.reduceMul, Int.reduceAdd, Int.reduceSub, Int.reduceNeg, Nat.reduceAdd, Nat.reduceMul, Nat.reducePow, Int.reduceLT, Int.reduceLE, Int.reduceEq, Nat.reduceEqDiff, g24]
          exact ⟨_, ⟨k + 1, E1, E2, dj, g0, g1, g2, g3, g4, g5, g6, g15, g17, g19, g21, by simp, by omega, rfl⟩, by omega⟩
    · have w0 : (0 : Int) = s k := by rw [← esk]; unfold sD; rw [if_neg (by omega)]
      have w1 : True := trivial
      simp -implicitDefEqProofs (disch := first | assumption | decide | omega | (simp only [wpD1] <;> omega) | (simp only [wpD2] <;> assumption) | solve_by_elim [HSub.refl, HSub.push, HSub.reserve] | fail) only [↓wpPre, wpPost, wpPoly, Int.reduceToNat, Int.reducePow, Int.reduceMul, Int.reduceAdd, Int.reduceSub, Int.reduceNeg, Nat.reduceAdd, Nat.reduceMul, Nat.reducePow, Int.reduceLT, Int.reduceLE, Int.reduceEq, Nat.reduceEqDiff, g24, g5, D1.len, kd]
      rcases kg with ⟨kg, kg2⟩ | ⟨kg, kg2⟩ | kg
      · have kl2 : k < gs.length := by omega
        have hyk := hy _ (getD_mem kl2)
        have TG := fun h => Turn_spec (h := h) (hC.sub (T' := T23) (by decide)) hyk (n := 2) (by decide)
        have u0 : (-1 : Int) = g k := by rw [← egk]; unfold sG; rw [if_pos ⟨kl2, kg2⟩]
        simp -implicitDefEqProofs (disch := first | assumption | decide | omega | (simp only [wpD1] <;> omega) | (simp only [wpD2] <;> assumption) | solve_by_elim [HSub.refl, HSub.push, HSub.reserve] | fail) only [↓wpPre, wpPost, wpPoly, Int.reduceToNat, Int.reducePow, Int.reduceMul, Int.reduceAdd, Int.reduceSub, Int.reduceNeg, Nat.reduceAdd, Nat.reduceMul, Nat.reducePow, Int.reduceLT, Int.reduceLE, Int.reduceEq, Nat.reduceEqDiff, w1, g24, g6, G1.len, kg, G1.idx, G1.loadC]
        refine ACallsK.eq (TG _) ?_
        simp -implicitDefEqProofs (disch := first | assumption | decide | omega | (simp only [wpD1] <;> omega) | (simp only [wpD2] <;> assumption) | solve_by_elim [HSub.refl, HSub.push, HSub.reserve] | fail) only [↓wpPre, wpPost, wpPoly, Int.reduceToNat, Int.reducePow, Int.reduceMul, Int.reduceAdd, Int.reduceSub, Int.reduceNeg, Nat.reduceAdd, Nat.reduceMul, Nat.reducePow, Int.reduceLT, Int.reduceLE, Int.reduceEq, Nat.reduceEqDiff, kg2]
        simp -implicitDefEqProofs (disch := first | assumption | decide | omega | (simp only [wpD1] <;> omega) | (simp only [wpD2] <;> assumption) | solve_by_elim [HSub.refl, HSub.push, HSub.reserve] | fail) only [↓wpPre, wpPost, wpPoly, Int.reduceToNat, Int.reducePow, Int.reduceMul, Int.reduceAdd, Int.reduceSub, Int.reduceNeg, Nat.reduceAdd, Nat.reduceMul, Nat.reducePow, Int.reduceLT, Int.reduceLE, Int.reduceEq, Nat.reduceEqDiff, A1.ri.len, stl, cont_slice, contB_one, ap2, ← sas]
        refine wp_loopI (fun j t h' => ∃ i : Nat, GrwI h2 h' (t 22) (strL B g s k ++ pieceL B (g k) (s k) i) ∧ GrwI h2 h' (t 23) (staL B s (k + 1)) ∧ Dj (t 22) (t 23) ∧ t 0 = .int .i64 d ∧ t 1 = .int .i64 (o : Nat) ∧ t 2 = .int .i64 p ∧ t 3 = .int .i64 q ∧ t 4 = .int .i64 m0 ∧ t 5 = vd ∧ t 6 = vg ∧ t 15 = .bool true ∧ t 17 = va ∧ t 19 = vb ∧ t 21 = .int .i64 (N : Nat) ∧ t 24 = .int .i64 (k : Nat) ∧ t 25 = .int .i64 (s k) ∧ t 26 = .int .i64 (g k) ∧ t 27 = .int .i64 (i : Nat) ∧ i ≤ lenP B (s k) ∧ j = lenP B (s k) - i) (j0 := lenP B (s k))
          ⟨0, by rw [p0, List.append_nil]; exact a1c _, a2c _, A1.dj (by simp), g0, g1, g2, g3, g4, g5, g6, g15, g17, g19, g21, g24, congrArg (AV.int .i64) w0, congrArg (AV.int .i64) u0, rfl, by omega, rfl⟩ ?_
        rintro j t h4 ⟨i, E1, E2, dj, g0, g1, g2, g3, g4, g5, g6, g15, g17, g19, g21, g24, g25, g26, g27, hi, hj2⟩
        simp -implicitDefEqProofs (disch := first | assumption | decide | omega | (simp only [wpD1] <;> omega) | (simp only [wpD2] <;> assumption) | solve_by_elim [HSub.refl, HSub.push, HSub.reserve] | fail) only [↓wpPre, wpPost, wpPoly, Int.reduceToNat, Int.reducePow, Int.reduceMul, Int.reduceAdd, Int.reduceSub, Int.reduceNeg, Nat.reduceAdd, Nat.reduceMul, Nat.reducePow, Int.reduceLT, Int.reduceLE, Int.reduceEq, Nat.reduceEqDiff, g27, g21, g25]
        refine Br.by (fun c4 => ?_) (fun c4 => ?_)
        · have hi' : i < lenP B (s k) := by omega
          have sn := strL_next (b := B) (g := g) (s := s) (k := k) (i := i)
          rw [lB] at sn
          have hll : (strL B g s k ++ pieceL B (g k) (s k) i).length ≤ 100000 := by
            rw [List.length_append, stl, pieceL_length]; omega
          have R := Rb.mono E1.sub
          have mn : min (i : Int) ((N : Int) - 1) = ((min i (N - 1) : Nat) : Int) := by omega
          have mlt : min i (N - 1) < N := by omega
          have hmul := mul_one1 (show -1 ≤ g k ∧ g k ≤ 1 by have := gr k; omega) (oB.get (min i (N - 1)))
          have ap1 := fun (H : Heap) (hH : HSub h4 H) => E1.app (x := g k * B.getD (min i (N - 1)) 0) H hH (by omega)
          have E1c := fun b => E1.snoc (x := g k * B.getD (min i (N - 1)) 0) (HSub.push1 h4 b) (by omega)
          have E2c := fun b => E1.keep (x := g k * B.getD (min i (N - 1)) 0) E2 (HSub.push1 h4 b) dj.symm
          rw [sn] at E1c E2c
          have ld := R.load (k := min i (N - 1)) (by rw [lB]; exact mlt)
          have ix := R.idx (kk := .i64) (k := ((min i (N - 1) : Nat) : Int)) ⟨by omega, by omega⟩
          rw [Int.toNat_natCast] at ix
          generalize min i (N - 1) = ii at *
          have hw : IntKind.i64.wrap (g k * B.getD ii 0) = g k * B.getD ii 0 := w_i64 (by omega)
          simp -implicitDefEqProofs (disch := first | assumption | decide | omega | (simp only [wpD1] <;> omega) | (simp only [wpD2] <;> assumption) | solve_by_elim [HSub.refl, HSub.push, HSub.reserve] | fail) only [↓wpPre, wpPost, wpPoly, Int.reduceToNat, Int.reducePow, Int.reduceMul, Int.reduceAdd, Int.reduceSub, Int.reduceNeg, Nat.reduceAdd, Nat.reduceMul, Nat.reducePow, Int.reduceLT, Int.reduceLE, Int.reduceEq, Nat.reduceEqDiff, g19, g21, g26, g27, mn, ix, ld, hw, cont_slice, contB_one, ap1, sn, g0, g1, g2, g3, g4, g5, g6, g15, g17, g24, g25]
          exact ⟨_, ⟨i + 1, E1c _, E2c _, (E2.dj (by simp)).symm, by simp, by omega, rfl⟩, by omega⟩
        · have ei : i = lenP B (s k) := by omega
          subst ei
          simp -implicitDefEqProofs (disch := first | assumption | decide | omega | (simp only [wpD1] <;> omega) | (simp only [wpD2] <;> assumption) | solve_by_elim [HSub.refl, HSub.push, HSub.reserve] | fail) only [↓wpPre, wpPost, wpPoly, Int.reduceToNat, Int.reducePow, Int.reduceMul, Int.reduceAdd, Int.reduceSub, Int.reduceNeg, Nat.reduceAdd, Nat.reduceMul, Nat.reducePow, Int.reduceLT, Int.reduceLE, Int.reduceEq, Nat.reduceEqDiff, g24]
          exact ⟨_, ⟨k + 1, E1, E2, dj, g0, g1, g2, g3, g4, g5, g6, g15, g17, g19, g21, by simp, by omega, rfl⟩, by omega⟩
      · have kl2 : k < gs.length := by omega
        have hyk := hy _ (getD_mem kl2)
        have TG := fun h => Turn_spec (h := h) (hC.sub (T' := T23) (by decide)) hyk (n := 2) (by decide)
        have u0 : (1 : Int) = g k := by rw [← egk]; unfold sG; rw [if_neg (fun q => kg2 q.2)]
        simp -implicitDefEqProofs (disch := first | assumption | decide | omega | (simp only [wpD1] <;> omega) | (simp only [wpD2] <;> assumption) | solve_by_elim [HSub.refl, HSub.push, HSub.reserve] | fail) only [↓wpPre, wpPost, wpPoly, Int.reduceToNat, Int.reducePow, Int.reduceMul, Int.reduceAdd, Int.reduceSub, Int.reduceNeg, Nat.reduceAdd, Nat.reduceMul, Nat.reducePow, Int.reduceLT, Int.reduceLE, Int.reduceEq, Nat.reduceEqDiff, w1, g24, g6, G1.len, kg, G1.idx, G1.loadC]
        refine ACallsK.eq (TG _) ?_
        simp -implicitDefEqProofs (disch := first | assumption | decide | omega | (simp only [wpD1] <;> omega) | (simp only [wpD2] <;> assumption) | solve_by_elim [HSub.refl, HSub.push, HSub.reserve] | fail) only [↓wpPre, wpPost, wpPoly, Int.reduceToNat, Int.reducePow, Int.reduceMul, Int.reduceAdd, Int.reduceSub, Int.reduceNeg, Nat.reduceAdd, Nat.reduceMul, Nat.reducePow, Int.reduceLT, Int.reduceLE, Int.reduceEq, Nat.reduceEqDiff, kg2]
        simp -implicitDefEqProofs (disch := first | assumption | decide | omega | (simp only [wpD1] <;> omega) | (simp only [wpD2] <;> assumption) | solve_by_elim [HSub.refl, HSub.push, HSub.reserve] | fail) only [↓wpPre, wpPost, wpPoly, Int.reduceToNat, Int.reducePow, Int.reduceMul, Int.reduceAdd, Int.reduceSub, Int.reduceNeg, Nat.reduceAdd, Nat.reduceMul, Nat.reducePow, Int.reduceLT, Int.reduceLE, Int.reduceEq, Nat.reduceEqDiff, A1.ri.len, stl, cont_slice, contB_one, ap2, ← sas]
        refine wp_loopI (fun j t h' => ∃ i : Nat, GrwI h2 h' (t 22) (strL B g s k ++ pieceL B (g k) (s k) i) ∧ GrwI h2 h' (t 23) (staL B s (k + 1)) ∧ Dj (t 22) (t 23) ∧ t 0 = .int .i64 d ∧ t 1 = .int .i64 (o : Nat) ∧ t 2 = .int .i64 p ∧ t 3 = .int .i64 q ∧ t 4 = .int .i64 m0 ∧ t 5 = vd ∧ t 6 = vg ∧ t 15 = .bool true ∧ t 17 = va ∧ t 19 = vb ∧ t 21 = .int .i64 (N : Nat) ∧ t 24 = .int .i64 (k : Nat) ∧ t 25 = .int .i64 (s k) ∧ t 26 = .int .i64 (g k) ∧ t 27 = .int .i64 (i : Nat) ∧ i ≤ lenP B (s k) ∧ j = lenP B (s k) - i) (j0 := lenP B (s k))
          ⟨0, by rw [p0, List.append_nil]; exact a1c _, a2c _, A1.dj (by simp), g0, g1, g2, g3, g4, g5, g6, g15, g17, g19, g21, g24, congrArg (AV.int .i64) w0, congrArg (AV.int .i64) u0, rfl, by omega, rfl⟩ ?_
        rintro j t h4 ⟨i, E1, E2, dj, g0, g1, g2, g3, g4, g5, g6, g15, g17, g19, g21, g24, g25, g26, g27, hi, hj2⟩
        simp -implicitDefEqProofs (disch := first | assumption | decide | omega | (simp only [wpD1] <;> omega) | (simp only [wpD2] <;> assumption) | solve_by_elim [HSub.refl, HSub.push, HSub.reserve] | fail) only [↓wpPre, wpPost, wpPoly, Int.reduceToNat, Int.reducePow, Int.reduceMul, Int.reduceAdd, Int.reduceSub, Int.reduceNeg, Nat.reduceAdd, Nat.reduceMul, Nat.reducePow, Int.reduceLT, Int.reduceLE, Int.reduceEq, Nat.reduceEqDiff, g27, g21, g25]
        refine Br.by (fun c4 => ?_) (fun c4 => ?_)
        · have hi' : i < lenP B (s k) := by omega
          have sn := strL_next (b := B) (g := g) (s := s) (k := k) (i := i)
          rw [lB] at sn
          have hll : (strL B g s k ++ pieceL B (g k) (s k) i).length ≤ 100000 := by
            rw [List.length_append, stl, pieceL_length]; omega
          have R := Rb.mono E1.sub
          have mn : min (i : Int) ((N : Int) - 1) = ((min i (N - 1) : Nat) : Int) := by omega
          have mlt : min i (N - 1) < N := by omega
          have hmul := mul_one1 (show -1 ≤ g k ∧ g k ≤ 1 by have := gr k; omega) (oB.get (min i (N - 1)))
          have ap1 := fun (H : Heap) (hH : HSub h4 H) => E1.app (x := g k * B.getD (min i (N - 1)) 0) H hH (by omega)
          have E1c := fun b => E1.snoc (x := g k * B.getD (min i (N - 1)) 0) (HSub.push1 h4 b) (by omega)
          have E2c := fun b => E1.keep (x := g k * B.getD (min i (N - 1)) 0) E2 (HSub.push1 h4 b) dj.symm
          rw [sn] at E1c E2c
          have ld := R.load (k := min i (N - 1)) (by rw [lB]; exact mlt)
          have ix := R.idx (kk := .i64) (k := ((min i (N - 1) : Nat) : Int)) ⟨by omega, by omega⟩
          rw [Int.toNat_natCast] at ix
          generalize min i (N - 1) = ii at *
          have hw : IntKind.i64.wrap (g k * B.getD ii 0) = g k * B.getD ii 0 := w_i64 (by omega)
          simp -implicitDefEqProofs (disch := first | assumption | decide | omega | (simp only [wpD1] <;> omega) | (simp only [wpD2] <;> assumption) | solve_by_elim [HSub.refl, HSub.push, HSub.reserve] | fail) only [↓wpPre, wpPost, wpPoly, Int.reduceToNat, Int.reducePow, Int.reduceMul, Int.reduceAdd, Int.reduceSub, Int.reduceNeg, Nat.reduceAdd, Nat.reduceMul, Nat.reducePow, Int.reduceLT, Int.reduceLE, Int.reduceEq, Nat.reduceEqDiff, g19, g21, g26, g27, mn, ix, ld, hw, cont_slice, contB_one, ap1, sn, g0, g1, g2, g3, g4, g5, g6, g15, g17, g24, g25]
          exact ⟨_, ⟨i + 1, E1c _, E2c _, (E2.dj (by simp)).symm, by simp, by omega, rfl⟩, by omega⟩
        · have ei : i = lenP B (s k) := by omega
          subst ei
          simp -implicitDefEqProofs (disch := first | assumption | decide | omega | (simp only [wpD1] <;> omega) | (simp only [wpD2] <;> assumption) | solve_by_elim [HSub.refl, HSub.push, HSub.reserve] | fail) only [↓wpPre, wpPost, wpPoly, Int.reduceToNat, Int.reducePow, Int.reduceMul, Int.reduceAdd, Int.reduceSub, Int.reduceNeg, Nat.reduceAdd, Nat.reduceMul, Nat.reducePow, Int.reduceLT, Int.reduceLE, Int.reduceEq, Nat.reduceEqDiff, g24]
          exact ⟨_, ⟨k + 1, E1, E2, dj, g0, g1, g2, g3, g4, g5, g6, g15, g17, g19, g21, by simp, by omega, rfl⟩, by omega⟩
      · have u0 : (1 : Int) = g k := by rw [← egk]; unfold sG; rw [if_neg (fun q => kg (by omega))]
        simp -implicitDefEqProofs (disch := first | assumption | decide | omega | (simp only [wpD1] <;> omega) | (simp only [wpD2] <;> assumption) | solve_by_elim [HSub.refl, HSub.push, HSub.reserve] | fail) only [↓wpPre, wpPost, wpPoly, Int.reduceToNat, Int.reducePow, Int.reduceMul, Int.reduceAdd, Int.reduceSub, Int.reduceNeg, Nat.reduceAdd, Nat.reduceMul, Nat.reducePow, Int.reduceLT, Int.reduceLE, Int.reduceEq, Nat.reduceEqDiff, w1, g24, g6, G1.len, kg, gV_u]
        simp -implicitDefEqProofs (disch := first | assumption | decide | omega | (simp only [wpD1] <;> omega) | (simp only [wpD2] <;> assumption) | solve_by_elim [HSub.refl, HSub.push, HSub.reserve] | fail) only [↓wpPre, wpPost, wpPoly, Int.reduceToNat, Int.reducePow, Int.reduceMul, Int.reduceAdd, Int.reduceSub, Int.reduceNeg, Nat.reduceAdd, Nat.reduceMul, Nat.reducePow, Int.reduceLT, Int.reduceLE, Int.reduceEq, Nat.reduceEqDiff, A1.ri.len, stl, cont_slice, contB_one, ap2, ← sas]
        refine wp_loopI (fun j t h' => ∃ i : Nat, GrwI h2 h' (t 22) (strL B g s k ++ pieceL B (g k) (s k) i) ∧ GrwI h2 h' (t 23) (staL B s (k + 1)) ∧ Dj (t 22) (t 23) ∧ t 0 = .int .i64 d ∧ t 1 = .int .i64 (o : Nat) ∧ t 2 = .int .i64 p ∧ t 3 = .int .i64 q ∧ t 4 = .int .i64 m0 ∧ t 5 = vd ∧ t 6 = vg ∧ t 15 = .bool true ∧ t 17 = va ∧ t 19 = vb ∧ t 21 = .int .i64 (N : Nat) ∧ t 24 = .int .i64 (k : Nat) ∧ t 25 = .int .i64 (s k) ∧ t 26 = .int .i64 (g k) ∧ t 27 = .int .i64 (i : Nat) ∧ i ≤ lenP B (s k) ∧ j = lenP B (s k) - i) (j0 := lenP B (s k))
          ⟨0, by rw [p0, List.append_nil]; exact a1c _, a2c _, A1.dj (by simp), g0, g1, g2, g3, g4, g5, g6, g15, g17, g19, g21, g24, congrArg (AV.int .i64) w0, congrArg (AV.int .i64) u0, rfl, by omega, rfl⟩ ?_
        rintro j t h4 ⟨i, E1, E2, dj, g0, g1, g2, g3, g4, g5, g6, g15, g17, g19, g21, g24, g25, g26, g27, hi, hj2⟩
        simp -implicitDefEqProofs (disch := first | assumption | decide | omega | (simp only [wpD1] <;> omega) | (simp only [wpD2] <;> assumption) | solve_by_elim [HSub.refl, HSub.push, HSub.reserve] | fail) only [↓wpPre, wpPost, wpPoly, Int.reduceToNat, Int.reducePow, Int.reduceMul, Int.reduceAdd, Int.reduceSub, Int.reduceNeg, Nat.reduceAdd, Nat.reduceMul, Nat.reducePow, Int.reduceLT, Int.reduceLE, Int.reduceEq, Nat.reduceEqDiff, g27, g21, g25]
        refine Br.by (fun c4 => ?_) (fun c4 => ?_)
        · have hi' : i < lenP B (s k) := by omega
          have sn := strL_next (b := B) (g := g) (s := s) (k := k) (i := i)
          rw [lB] at sn
          have hll : (strL B g s k ++ pieceL B (g k) (s k) i).length ≤ 100000 := by
            rw [List.length_append, stl, pieceL_length]; omega
          have R := Rb.mono E1.sub
          have mn : min (i : Int) ((N : Int) - 1) = ((min i (N - 1) : Nat) : Int) := by omega
          have mlt : min i (N - 1) < N := by omega
          have hmul := mul_one1 (show -1 ≤ g k ∧ g k ≤ 1 by have := gr k; omega) (oB.get (min i (N - 1)))
          have ap1 := fun (H : Heap) (hH : HSub h4 H) => E1.app (x := g k * B.getD (min i (N - 1)) 0) H hH (by omega)
          have E1c := fun b => E1.snoc (x := g k * B.getD (min i (N - 1)) 0) (HSub.push1 h4 b) (by omega)
          have E2c := fun b => E1.keep (x := g k * B.getD (min i (N - 1)) 0) E2 (HSub.push1 h4 b) dj.symm
          rw [sn] at E1c E2c
          have ld := R.load (k := min i (N - 1)) (by rw [lB]; exact mlt)
          have ix := R.idx (kk := .i64) (k := ((min i (N - 1) : Nat) : Int)) ⟨by omega, by omega⟩
          rw [Int.toNat_natCast] at ix
          generalize min i (N - 1) = ii at *
          have hw : IntKind.i64.wrap (g k * B.getD ii 0) = g k * B.getD ii 0 := w_i64 (by omega)
          simp -implicitDefEqProofs (disch := first | assumption | decide | omega | (simp only [wpD1] <;> omega) | (simp only [wpD2] <;> assumption) | solve_by_elim [HSub.refl, HSub.push, HSub.reserve] | fail) only [↓wpPre, wpPost, wpPoly, Int.reduceToNat, Int.reducePow, Int.reduceMul, Int.reduceAdd, Int.reduceSub, Int.reduceNeg, Nat.reduceAdd, Nat.reduceMul, Nat.reducePow, Int.reduceLT, Int.reduceLE, Int.reduceEq, Nat.reduceEqDiff, g19, g21, g26, g27, mn, ix, ld, hw, cont_slice, contB_one, ap1, sn, g0, g1, g2, g3, g4, g5, g6, g15, g17, g24, g25]
          exact ⟨_, ⟨i + 1, E1c _, E2c _, (E2.dj (by simp)).symm, by simp, by omega, rfl⟩, by omega⟩
        · have ei : i = lenP B (s k) := by omega
          subst ei
          simp -implicitDefEqProofs (disch := first | assumption | decide | omega | (simp only [wpD1] <;> omega) | (simp only [wpD2] <;> assumption) | solve_by_elim [HSub.refl, HSub.push, HSub.reserve] | fail) only [↓wpPre, wpPost, wpPoly, Int.reduceToNat, Int.reducePow, Int.reduceMul, Int.reduceAdd, Int.reduceSub, Int.reduceNeg, Nat.reduceAdd, Nat.reduceMul, Nat.reducePow, Int.reduceLT, Int.reduceLE, Int.reduceEq, Nat.reduceEqDiff, g24]
          exact ⟨_, ⟨k + 1, E1, E2, dj, g0, g1, g2, g3, g4, g5, g6, g15, g17, g19, g21, by simp, by omega, rfl⟩, by omega⟩
  · have ek : k = 4 := by omega
    subst ek
    have stl := strL_length B g s 4
    have sal := staL_length B s 4
    have str := stN_range (b := B) (by omega) sr 4
    have mS : m + N ≤ stN B s 4 := by omega
    have hF : ∀ i, -1 ≤ (fun i => (strL B g s 4).getD (m + i) 0) i ∧ (fun i => (strL B g s 4).getD (m + i) 0) i ≤ 1 := fun i => (strL_one1 oB gr 4).get _
    have wl := winS_le (f := fun i => (strL B g s 4).getD (m + i) 0) oA
    obtain ⟨sv, hsv⟩ : ∃ v, v = t 22 := ⟨_, rfl⟩
    obtain ⟨tv, htv⟩ : ∃ v, v = t 23 := ⟨_, rfl⟩
    rw [← hsv] at A1
    rw [← htv] at A2
    have Rs := A1.ri
    have Rt := A2.ri
    have Ra := Ra.mono A1.sub
    simp -implicitDefEqProofs (disch := first | assumption | decide | omega | (simp only [wpD1] <;> omega) | (simp only [wpD2] <;> assumption) | solve_by_elim [HSub.refl, HSub.push, HSub.reserve] | fail) only [↓wpPre, wpPost, wpPoly, Int.reduceToNat, Int.reducePow, Int.reduceMul, Int.reduceAdd, Int.reduceSub, Int.reduceNeg, Nat.reduceAdd, Nat.reduceMul, Nat.reducePow, Int.reduceLT, Int.reduceLE, Int.reduceEq, Nat.reduceEqDiff, g4, g21]
    refine ACallsK.eq (Tm _) ?_
    simp -implicitDefEqProofs (disch := first | assumption | decide | omega | (simp only [wpD1] <;> omega) | (simp only [wpD2] <;> assumption) | solve_by_elim [HSub.refl, HSub.push, HSub.reserve] | fail) only [↓wpPre, wpPost, wpPoly, Int.reduceToNat, Int.reducePow, Int.reduceMul, Int.reduceAdd, Int.reduceSub, Int.reduceNeg, Nat.reduceAdd, Nat.reduceMul, Nat.reducePow, Int.reduceLT, Int.reduceLE, Int.reduceEq, Nat.reduceEqDiff]
    refine wp_loopI (fun j t h' => h' = h3 ∧ ∃ i : Nat, t 0 = .int .i64 d ∧ t 1 = .int .i64 (o : Nat) ∧ t 2 = .int .i64 p ∧ t 3 = .int .i64 q ∧ t 4 = .int .i64 (m : Nat) ∧ t 15 = .bool true ∧ t 17 = va ∧ t 21 = .int .i64 (N : Nat) ∧ t 22 = sv ∧ t 23 = tv ∧ t 28 = .int .i64 (winS A (fun i => (strL B g s 4).getD (m + i) 0) i) ∧ t 29 = .int .i64 (i : Nat) ∧ i ≤ N ∧ j = N - i) (j0 := N)
      ⟨rfl, 0, g0, g1, g2, g3, rfl, g15, g17, g21, hsv.symm, htv.symm, rfl, rfl, by omega, rfl⟩ ?_
    rintro j t h4 ⟨rfl, i, g0, g1, g2, g3, g4, g15, g17, g21, g22, g23, g28, g29, hi, hj⟩
    simp -implicitDefEqProofs (disch := first | assumption | decide | omega | (simp only [wpD1] <;> omega) | (simp only [wpD2] <;> assumption) | solve_by_elim [HSub.refl, HSub.push, HSub.reserve] | fail) only [↓wpPre, wpPost, wpPoly, Int.reduceToNat, Int.reducePow, Int.reduceMul, Int.reduceAdd, Int.reduceSub, Int.reduceNeg, Nat.reduceAdd, Nat.reduceMul, Nat.reducePow, Int.reduceLT, Int.reduceLE, Int.reduceEq, Nat.reduceEqDiff, g29, g21]
    refine Br.by (fun c4 => ?_) (fun c4 => ?_)
    · have hi' : i < N := by omega
      have em : (m : Int) + i = ((m + i : Nat) : Int) := by omega
      have wi := wl hF i
      have wn := wl hF (i + 1)
      have hxy := mul_one1 (oA.get i) (hF i)
      have ix1 := Rs.idx (kk := .i64) (k := ((m + i : Nat) : Int)) ⟨by omega, by omega⟩
      rw [Int.toNat_natCast] at ix1
      have ld1 := Rs.load (k := m + i) (by omega)
      have ix2 := Ra.idx (kk := .i64) (k := (i : Int)) ⟨by omega, by omega⟩
      rw [Int.toNat_natCast] at ix2
      have ld2 := Ra.load (k := i) (by omega)
      have en : winS A (fun i => (strL B g s 4).getD (m + i) 0) (i + 1) = winS A (fun i => (strL B g s 4).getD (m + i) 0) i + A.getD i 0 * (strL B g s 4).getD (m + i) 0 := rfl
      simp only [] at hxy
      simp -implicitDefEqProofs (disch := first | assumption | decide | omega | (simp only [wpD1] <;> omega) | (simp only [wpD2] <;> assumption) | solve_by_elim [HSub.refl, HSub.push, HSub.reserve] | fail) only [↓wpPre, wpPost, wpPoly, Int.reduceToNat, Int.reducePow, Int.reduceMul, Int.reduceAdd, Int.reduceSub, Int.reduceNeg, Nat.reduceAdd, Nat.reduceMul, Nat.reducePow, Int.reduceLT, Int.reduceLE, Int.reduceEq, Nat.reduceEqDiff, g28, g17, g29, g22, g4, em, ix1, ld1, ix2, ld2, g0, g1, g2, g3, g15, g21, g23]
      exact ⟨_, ⟨i + 1, en.symm, by simp, by omega, rfl⟩, by omega⟩
    · have ei : i = N := by omega
      subst ei
      rw [← lA] at g28
      have wN := wl hF A.length
      have wZ : ∃ Z, winS A (fun i => (strL B g s 4).getD (m + i) 0) A.length = Z := ⟨_, rfl⟩
      obtain ⟨Z, wZ⟩ := wZ
      rw [wZ] at g28 wN W0
      rw [lA] at wN
      generalize greatI A B 0 = G0 at *
      simp -implicitDefEqProofs (disch := first | assumption | decide | omega | (simp only [wpD1] <;> omega) | (simp only [wpD2] <;> assumption) | solve_by_elim [HSub.refl, HSub.push, HSub.reserve] | fail) only [↓wpPre, wpPost, wpPoly, Int.reduceToNat, Int.reducePow, Int.reduceMul, Int.reduceAdd, Int.reduceSub, Int.reduceNeg, Nat.reduceAdd, Nat.reduceMul, Nat.reducePow, Int.reduceLT, Int.reduceLE, Int.reduceEq, Nat.reduceEqDiff, g0, g1, g2, g3]
      refine ACallsK.of (s2 _) ?_
      rintro r h5 ⟨rfl, u5⟩
      have mx : ¬ G0 < max Z (0 - Z) := by omega
      clear wl hF
      simp -implicitDefEqProofs (disch := first | assumption | decide | omega | (simp only [wpD1] <;> omega) | (simp only [wpD2] <;> assumption) | solve_by_elim [HSub.refl, HSub.push, HSub.reserve] | fail) only [↓wpPre, wpPost, wpPoly, Int.reduceToNat, Int.reducePow, Int.reduceMul, Int.reduceAdd, Int.reduceSub, Int.reduceNeg, Nat.reduceAdd, Nat.reduceMul, Nat.reducePow, Int.reduceLT, Int.reduceLE, Int.reduceEq, Nat.reduceEqDiff, tup2, g28, gV_u, g2, g3]
      refine wp_loopI (fun j t h' => h' = h5 ∧ ∃ k : Nat, t 0 = .int .i64 d ∧ t 1 = .int .i64 (o : Nat) ∧ t 2 = .int .i64 p ∧ t 4 = .int .i64 (m : Nat) ∧ t 15 = .bool true ∧ t 23 = tv ∧ t 28 = .int .i64 Z ∧ t 31 = .bool (nearW B s m o (decide (¬ p = q)) k) ∧ t 32 = .int .i64 (k : Nat) ∧ k ≤ 4 ∧ j = 4 - k) (j0 := 4)
        ⟨rfl, 0, g0, g1, g2, g4, g15, g23, g28, rfl, rfl, by omega, rfl⟩ ?_
      rintro j t h6 ⟨rfl, k, g0, g1, g2, g4, g15, g23, g28, g31, g32, hk, hj⟩
      have Rt := Rt.mono u5
      simp -implicitDefEqProofs (disch := first | assumption | decide | omega | (simp only [wpD1] <;> omega) | (simp only [wpD2] <;> assumption) | solve_by_elim [HSub.refl, HSub.push, HSub.reserve] | fail) only [↓wpPre, wpPost, wpPoly, Int.reduceToNat, Int.reducePow, Int.reduceMul, Int.reduceAdd, Int.reduceSub, Int.reduceNeg, Nat.reduceAdd, Nat.reduceMul, Nat.reducePow, Int.reduceLT, Int.reduceLE, Int.reduceEq, Nat.reduceEqDiff, g32, g23, Rt.len, sal]
      refine Br.by (fun c6 => ?_) (fun c6 => ?_)
      · have hk' : k < 4 := by omega
        have strk := stN_range (b := B) (by omega) sr k
        have stm := stN_mono B s (show k ≤ 4 by omega)
        have ix := Rt.idx (kk := .i64) (k := (k : Int)) ⟨by omega, by omega⟩
        rw [Int.toNat_natCast] at ix
        have ld := Rt.load (k := k) (by omega)
        rw [staL_get B s hk'] at ld
        have nw : nearW B s m o (decide (¬ p = q)) (k + 1) = (nearW B s m o (decide (¬ p = q)) k || decide (max ((stN B s k : Int) - m) (0 - ((stN B s k : Int) - m)) < o)) := rfl
        generalize nearW B s m o (decide (¬ p = q)) k = b at *
        cases b <;>
        · simp -implicitDefEqProofs (disch := first | assumption | decide | omega | (simp only [wpD1] <;> omega) | (simp only [wpD2] <;> assumption) | solve_by_elim [HSub.refl, HSub.push, HSub.reserve] | fail) only [↓wpPre, wpPost, wpPoly, Int.reduceToNat, Int.reducePow, Int.reduceMul, Int.reduceAdd, Int.reduceSub, Int.reduceNeg, Nat.reduceAdd, Nat.reduceMul, Nat.reducePow, Int.reduceLT, Int.reduceLE, Int.reduceEq, Nat.reduceEqDiff, g32, g23, ix, ld, g4, g31, g1, gV_u, g0, g2, g15, g28]
          exact ⟨_, ⟨k + 1, by rw [nw]; simp, by simp, by omega, rfl⟩, by omega⟩
      · have ek : k = 4 := by omega
        subst ek
        simp -implicitDefEqProofs (disch := first | assumption | decide | omega | (simp only [wpD1] <;> omega) | (simp only [wpD2] <;> assumption) | solve_by_elim [HSub.refl, HSub.push, HSub.reserve] | fail) only [↓wpPre, wpPost, wpPoly, Int.reduceToNat, Int.reducePow, Int.reduceMul, Int.reduceAdd, Int.reduceSub, Int.reduceNeg, Nat.reduceAdd, Nat.reduceMul, Nat.reducePow, Int.reduceLT, Int.reduceLE, Int.reduceEq, Nat.reduceEqDiff, g0, g1, g2]
        refine ACallsK.of (s1 _) ?_
        rintro r h7 ⟨rfl, u7⟩
        have nn := nearW_no (b := B) (s := s) (m := m) (o := o) (n0 := decide (¬ p = q)) 4
        generalize nearW B s m o (decide (¬ p = q)) 4 = b at *
        cases b
        · have n2 := nn rfl
          have epq : p = q := by simpa using n2.1
          have eA := eAB epq
          subst eA
          have Wo := W o (.inr ⟨by omega, n2.2⟩)
          rw [wZ] at Wo
          have fin : max Z (0 - Z) ≤ greatI A A o := by omega
          simp -implicitDefEqProofs (disch := first | assumption | decide | omega | (simp only [wpD1] <;> omega) | (simp only [wpD2] <;> assumption) | solve_by_elim [HSub.refl, HSub.push, HSub.reserve] | fail) only [↓wpPre, wpPost, wpPoly, Int.reduceToNat, Int.reducePow, Int.reduceMul, Int.reduceAdd, Int.reduceSub, Int.reduceNeg, Nat.reduceAdd, Nat.reduceMul, Nat.reducePow, Int.reduceLT, Int.reduceLE, Int.reduceEq, Nat.reduceEqDiff, tup2, g15, g28, g31, gV_u, fin]
        · simp -implicitDefEqProofs (disch := first | assumption | decide | omega | (simp only [wpD1] <;> omega) | (simp only [wpD2] <;> assumption) | solve_by_elim [HSub.refl, HSub.push, HSub.reserve] | fail) only [↓wpPre, wpPost, wpPoly, Int.reduceToNat, Int.reducePow, Int.reduceMul, Int.reduceAdd, Int.reduceSub, Int.reduceNeg, Nat.reduceAdd, Nat.reduceMul, Nat.reducePow, Int.reduceLT, Int.reduceLE, Int.reduceEq, Nat.reduceEqDiff, tup2, g15, g28, g31, gV_u]
end
end Go.Ae
