/- Texts of the proof, part 13: a second reading of the lowered code, proved sound, and what the functions compute. -/
import Derived.Sort.Row
import Derived.Sort.Grow
import Derived.Test.YthapekoffnjeeaaB12

/- Go's sort of a list of numbers, as the library's contract tells it. -/
set_option linter.unusedSimpArgs false
set_option linter.unusedVariables false
namespace Go.Ae
open Go.Sort
def sortL (l : List Int) : List Int := l.mergeSort fun x y => decide (x ≤ y)
def SortOk (C : Ctx) (g : Nat) : Prop := Enters C.P (C.lk g) ∧ ∀ (blk off cap : Nat) (zs : List Int) (w : World), Holds (Value.int .i64) w blk off zs.toArray → blk < w.heap.size → zs.length < 4611686018427387904 →
  Calls C.P (C.lk g) #[.slice (some ⟨blk, off, none⟩) zs.length cap] w fun e w' => e = .returned (.tuple #[]) ∧ ∃ n os, w' = grow (putRow (Value.int .i64) (Go.Sort.ahead w n) blk off (zs.mergeSort fun x y => decide (x ≤ y)).toArray) os
end Go.Ae

/- Circular sums of the reference of layer 9. -/
set_option linter.unusedSimpArgs false
set_option linter.unusedVariables false
namespace Go.Ae

def cs (a b : List Int) (k : Nat) : Nat → Int
  | 0 => 0
  | i + 1 => cs a b k i + a.getD i 0 * b.getD ((i + k) % b.length) 0
def circ (a b : List Int) : List Int := (List.range a.length).map fun k => cs a b k a.length
def cpre (a b : List Int) (k i n : Nat) : Int := if n < k then cs a b n a.length else if n = k then cs a b k i else 0

section
variable {C : Ctx}
end
end Go.Ae

/- Circular of the references. -/
set_option linter.unusedSimpArgs false
set_option linter.unusedVariables false
namespace Go.Ae

def circErr (a b : List Int) : Int :=
  if a.length = 0 then 3 else if 8192 < a.length then 4 else if a.length ≠ b.length then 10 else if a.any bigs = true ∨ b.any bigs = true then 2 else 0

section
variable {C : Ctx}
end
end Go.Ae

/- Circular of the program's package cross. -/
set_option linter.unusedSimpArgs false
set_option linter.unusedVariables false
namespace Go.Ae
section
variable {C : Ctx}
end
end Go.Ae

/- Spectra, in plain numbers: how often the circular sums occur. -/
set_option linter.unusedSimpArgs false
set_option linter.unusedVariables false
namespace Go.Ae
def stepR (acc : List (Int × Int)) (x : Int) : List (Int × Int) :=
  if 0 < acc.length ∧ (acc.getD (acc.length - 1) (0, 0)).1 = x then acc.set (acc.length - 1) (x, (acc.getD (acc.length - 1) (0, 0)).2 + 1) else acc ++ [(x, 1)]
def rleL (l : List Int) (k : Nat) : List (Int × Int) := (l.take k).foldl stepR []
def cntL (l : List Int) (v : Int) : Nat → Int
  | 0 => 0
  | k + 1 => cntL l v k + if l.getD k 0 = v then 1 else 0
def specK (l : List Int) (n : Nat) : Nat → List (Int × Int)
  | 0 => []
  | k + 1 => specK l n k ++ if 0 < cntL l ((k : Int) - n) l.length then [((k : Int) - n, cntL l ((k : Int) - n) l.length)] else []
end Go.Ae

/- Counting behind sorting is counting by values. -/
set_option linter.unusedSimpArgs false
set_option linter.unusedVariables false
namespace Go.Ae
def repL (l : List Int) (n : Nat) : Nat → List Int
  | 0 => []
  | k + 1 => repL l n k ++ List.replicate (l.count ((k : Int) - n)) ((k : Int) - n)
end Go.Ae

/- Three numbers as a value. -/
set_option linter.unusedSimpArgs false
set_option linter.unusedVariables false
namespace Go.Ae
def tup3 (x y e : Int) : AV := .tuple [.int .i64 x, .int .i64 y, .int .i64 e]
end Go.Ae

/- Parts of placements, of the program and of the reference. -/
set_option linter.unusedSimpArgs false
set_option linter.unusedVariables false
namespace Go.Ae
section
variable {C : Ctx}
theorem chip_spec (hC : Has C T154) {w : AV} {l : List Int} {o i : Int} {h : Heap} (hl : RI h w l) (hi : 0 ≤ i) (h1 : 1 ≤ l.length) (hi2 : i ≤ 1000000000) : ACalls C 154 [.agg [w, .int .i64 o], .int .i64 i] h (fun r h' => r = .int .i64 (l.getD (min i ((l.length : Int) - 1)).toNat 0) ∧ h' = h) := by
  refine ACalls.gc0 (P := fun r h' => r = .int .i64 (l.getD (min i ((l.length : Int) - 1)).toNat 0) ∧ HSub h h') ?_ (fun r h' hp => ⟨by rw [hp.1]; trivial, hp.2, hp.1, rfl⟩)
  have hlt := hl.lt
  have c0 := hl.cells
  have o0 := hl.one
  have ld := (hl.mono (HSub.push1 h (.cells [w, .int .i64 o] true 0))).load (k := (min i ((l.length : Int) - 1)).toNat) (by omega)
  (refine calls_intro (hC.body (by decide) tab154) (Nat.le_of_ble_eq_true rfl) ?_); (show wp C _ none B154.code _ _); (simp only [B154]); simp -implicitDefEqProofs (disch := first | assumption | decide | omega | (simp only [wpD1] <;> omega) | (simp only [wpD2] <;> assumption) | solve_by_elim [HSub.refl, HSub.push, HSub.reserve] | fail) only [↓wpPre, wpPost, wpPoly, Int.reduceToNat, Int.reducePow, Int.reduceMul, Int.reduceAdd, Int.reduceSub, Int.reduceNeg, Nat.reduceAdd, Nat.reduceMul, Nat.reducePow, Int.reduceLT, Int.reduceLE, Int.reduceEq, Nat.reduceEqDiff, hl.len, hl.idx, ld]
  exact HSub.push1 _ _
def tupPP (x y : Int) : AV := .tuple [.int .i64 x, .int .i64 y]
set_option maxHeartbeats 1000000 in
theorem parts_spec (hC : Has C T180) {w1 w2 : AV} {a b : List Int} {o1 o2 s : Int} {m : Nat} {h : Heap} (ha : RI h w1 a) (hb : RI h w2 b) (oa : one1 a) (ob : one1 b) (hl : a.length = b.length ∧ 1 ≤ a.length ∧ a.length ≤ 10000) (hm : m ≤ a.length) (hs : -1 ≤ s ∧ s ≤ 1) (hms : (m : Int) ≤ a.length + s) :
    ACalls C 180 [.agg [w1, .int .i64 o1], .agg [w2, .int .i64 o2], .int .i64 (m : Nat), .int .i64 s] h (fun r h' => r = tupPP (pf a b m s m) (ps a b m (a.length - m)) ∧ h' = h) := by
  refine ACalls.gc0 (P := fun r h' => r = tupPP (pf a b m s m) (ps a b m (a.length - m)) ∧ HSub h h') ?_ (fun r h' hp => ⟨by rw [hp.1]; exact free_tuple (by simp [AV.free, AV.bel]), hp.2, hp.1, rfl⟩)
  have hlt := ha.lt
  have c0 := ha.cells
  have o0 := ha.one
  have c1 := hb.cells
  have o1' := hb.one
  have chp := fun (h' : Heap) (q : HSub h h') (i : Int) (x : 0 ≤ i) (y : i ≤ 1000000000) => chip_spec (hC.sub (T' := T154) (by decide)) (o := o2) (hb.mono q) x (by omega) y
  (refine calls_intro (hC.body (by decide) tab180) (Nat.le_of_ble_eq_true rfl) ?_); (show wp C _ none B180.code _ _); (simp only [B180]); simp -implicitDefEqProofs (disch := first | assumption | decide | omega | (simp only [wpD1] <;> omega) | (simp only [wpD2] <;> assumption) | solve_by_elim [HSub.refl, HSub.push, HSub.reserve] | fail) only [↓wpPre, wpPost, wpPoly, Int.reduceToNat, Int.reducePow, Int.reduceMul, Int.reduceAdd, Int.reduceSub, Int.reduceNeg, Nat.reduceAdd, Nat.reduceMul, Nat.reducePow, Int.reduceLT, Int.reduceLE, Int.reduceEq, Nat.reduceEqDiff, ha.len]
  refine wp_loopI (fun j t h' => h' = (h.push (.cells [w1, .int .i64 o1] true 0)).push (.cells [w2, .int .i64 o2] true 0) ∧ ∃ k : Nat, t 2 = .int .i64 (m : Nat) ∧ t 3 = .int .i64 s ∧ t 5 = .ptr (h.size + 1) 0 ∧ t 8 = .int .i64 (pf a b m s (min k m)) ∧ t 9 = .int .i64 (ps a b m (k - m)) ∧ t 10 = .int .i64 (a.length : Nat) ∧ t 17 = w1 ∧ t 18 = .int .i64 (a.length : Nat) ∧ t 19 = .int .i64 (k : Nat) ∧ k ≤ a.length ∧ j = a.length - k) (j0 := a.length)
    ⟨rfl, 0, rfl, rfl, rfl, by rw [Nat.zero_min]; rfl, by rw [Nat.zero_sub]; rfl, rfl, rfl, rfl, rfl, by omega, rfl⟩ ?_
  rintro j t h' ⟨rfl, k, e2, e3, e5, e8, e9, e10, e17, e18, e19, hk, hj⟩
  simp -implicitDefEqProofs (disch := first | assumption | decide | omega | (simp only [wpD1] <;> omega) | (simp only [wpD2] <;> assumption) | solve_by_elim [HSub.refl, HSub.push, HSub.reserve] | fail) only [↓wpPre, wpPost, wpPoly, Int.reduceToNat, Int.reducePow, Int.reduceMul, Int.reduceAdd, Int.reduceSub, Int.reduceNeg, Nat.reduceAdd, Nat.reduceMul, Nat.reducePow, Int.reduceLT, Int.reduceLE, Int.reduceEq, Nat.reduceEqDiff, e18, e19]
  refine Br.by (fun c => ?_) (fun c => ?_)
  · have hk' : k < a.length := by omega
    have ld := (ha.mono ((HSub.push1 h (.cells [w1, .int .i64 o1] true 0)).push (.cells [w2, .int .i64 o2] true 0))).load hk'
    have p1 := pf_le oa ob (m := m) (s := s) (min k m)
    have p2 := ps_le oa ob (m := m) (k - m)
    by_cases c2 : k < m
    · rw [Nat.min_eq_left (by omega)] at e8 p1
      have q := mul_one1 (oa.get k) (ob.get (min ((k : Int) - m + a.length + s) ((a.length : Int) - 1)).toNat)
      have nx : pf a b m s (k + 1) = pf a b m s k + a.getD k 0 * b.getD (min ((k : Int) - m + a.length + s) ((a.length : Int) - 1)).toNat 0 := rfl
      have ny : k + 1 - m = k - m := by omega
      have cs := chp _ ((HSub.push1 h (.cells [w1, .int .i64 o1] true 0)).push (.cells [w2, .int .i64 o2] true 0)) ((k : Int) - m + a.length + s) (by omega) (by omega)
      rw [← hl.1] at cs
      simp -implicitDefEqProofs (disch := first | assumption | decide | omega | (simp only [wpD1] <;> omega) | (simp only [wpD2] <;> assumption) | solve_by_elim [HSub.refl, HSub.push, HSub.reserve] | fail) only [↓wpPre, wpPost, wpPoly, Int.reduceToNat, Int.reducePow, Int.reduceMul, Int.reduceAdd, Int.reduceSub, Int.reduceNeg, Nat.reduceAdd, Nat.reduceMul, Nat.reducePow, Int.reduceLT, Int.reduceLE, Int.reduceEq, Nat.reduceEqDiff, e2, e3, e5, e8, e9, e10, e17, e19, ha.idx, ld]
      refine ACallsK.eq cs ?_
      simp -implicitDefEqProofs (disch := first | assumption | decide | omega | (simp only [wpD1] <;> omega) | (simp only [wpD2] <;> assumption) | solve_by_elim [HSub.refl, HSub.push, HSub.reserve] | fail) only [↓wpPre, wpPost, wpPoly, Int.reduceToNat, Int.reducePow, Int.reduceMul, Int.reduceAdd, Int.reduceSub, Int.reduceNeg, Nat.reduceAdd, Nat.reduceMul, Nat.reducePow, Int.reduceLT, Int.reduceLE, Int.reduceEq, Nat.reduceEqDiff, ← nx, e8, e9, e2, e3, e5, e10, e17, e18, e19]
      exact ⟨_, ⟨k + 1, by rw [Nat.min_eq_left (by omega)], by rw [ny], by simp, by omega, rfl⟩, by omega⟩
    · have q := mul_one1 (oa.get k) (ob.get (k - m))
      have nx : min (k + 1) m = min k m := by omega
      have ny : ps a b m (k + 1 - m) = ps a b m (k - m) + a.getD k 0 * b.getD (k - m) 0 := by
        rw [show k + 1 - m = (k - m) + 1 by omega, ps, show m + (k - m) = k by omega]
      have cs := chp _ ((HSub.push1 h (.cells [w1, .int .i64 o1] true 0)).push (.cells [w2, .int .i64 o2] true 0)) ((k : Int) - m) (by omega) (by omega)
      rw [show (min ((k : Int) - m) ((b.length : Int) - 1)).toNat = k - m by omega] at cs
      simp -implicitDefEqProofs (disch := first | assumption | decide | omega | (simp only [wpD1] <;> omega) | (simp only [wpD2] <;> assumption) | solve_by_elim [HSub.refl, HSub.push, HSub.reserve] | fail) only [↓wpPre, wpPost, wpPoly, Int.reduceToNat, Int.reducePow, Int.reduceMul, Int.reduceAdd, Int.reduceSub, Int.reduceNeg, Nat.reduceAdd, Nat.reduceMul, Nat.reducePow, Int.reduceLT, Int.reduceLE, Int.reduceEq, Nat.reduceEqDiff, e2, e3, e5, e8, e9, e10, e17, e19, ha.idx, ld]
      refine ACallsK.eq cs ?_
      simp -implicitDefEqProofs (disch := first | assumption | decide | omega | (simp only [wpD1] <;> omega) | (simp only [wpD2] <;> assumption) | solve_by_elim [HSub.refl, HSub.push, HSub.reserve] | fail) only [↓wpPre, wpPost, wpPoly, Int.reduceToNat, Int.reducePow, Int.reduceMul, Int.reduceAdd, Int.reduceSub, Int.reduceNeg, Nat.reduceAdd, Nat.reduceMul, Nat.reducePow, Int.reduceLT, Int.reduceLE, Int.reduceEq, Nat.reduceEqDiff, ← ny, e8, e9, e2, e3, e5, e10, e17, e18, e19]
      exact ⟨_, ⟨k + 1, by rw [nx], rfl, by simp, by omega, rfl⟩, by omega⟩
  · have ek : k = a.length := by omega
    subst ek
    rw [Nat.min_eq_right hm] at e8
    simp -implicitDefEqProofs (disch := first | assumption | decide | omega | (simp only [wpD1] <;> omega) | (simp only [wpD2] <;> assumption) | solve_by_elim [HSub.refl, HSub.push, HSub.reserve] | fail) only [↓wpPre, wpPost, wpPoly, Int.reduceToNat, Int.reducePow, Int.reduceMul, Int.reduceAdd, Int.reduceSub, Int.reduceNeg, Nat.reduceAdd, Nat.reduceMul, Nat.reducePow, Int.reduceLT, Int.reduceLE, Int.reduceEq, Nat.reduceEqDiff, e8, e9]
    exact ⟨rfl, (HSub.push1 _ _).push _⟩
end
end Go.Ae

/- The greatest sum over placements, of the program and of the reference. -/
set_option linter.unusedSimpArgs false
set_option linter.unusedVariables false
namespace Go.Ae
theorem cnt_in {n mg k : Nat} {s : Int} (hs : -1 ≤ s ∧ s ≤ 1) (hk : k < cntM n mg s) : mg + k ≤ n ∧ ((mg + k : Nat) : Int) ≤ n + s := by
  unfold cntM lastM at hk
  split at hk <;> omega
theorem cnt_le {n mg : Nat} {s : Int} (hs : -1 ≤ s ∧ s ≤ 1) (k : Nat) : k < cntM n mg s ↔ ((mg : Int) + k ≤ lastM n mg s) := by
  unfold cntM
  omega
def rowG (a b : List Int) (mg : Nat) : Nat → Int
  | 0 => 0
  | si + 1 => gM a b ((si : Int) - 1) mg (cntM a.length mg ((si : Int) - 1)) (rowG a b mg si)
theorem rowG_three (a b : List Int) (mg : Nat) : rowG a b mg 3 = greatI a b mg := rfl
theorem rowG_le {a b : List Int} (oa : one1 a) (ob : one1 b) (mg : Nat) : ∀ si, si ≤ 3 → 0 ≤ rowG a b mg si ∧ rowG a b mg si ≤ a.length
  | 0, _ => by simp [rowG]
  | si + 1, h => by
    have ih := rowG_le oa ob mg si (by omega)
    by_cases c : cntM a.length mg ((si : Int) - 1) = 0
    · rw [rowG, c]; exact ih
    · have := cnt_in (n := a.length) (mg := mg) (s := (si : Int) - 1) (k := cntM a.length mg ((si : Int) - 1) - 1) (by omega) (by omega)
      exact gM_le oa ob _ _ (by omega) ih
section
variable {C : Ctx}
theorem plac_iter (hC : Has C T201) {l b1 b2 n mg : Nat} {h : Heap} (hn : n ≤ 10000 ∧ mg ≤ 10000) (J : Nat → Nat → Heap → Prop) (D : Heap → Prop) (h0 : J 0 0 h)
    (hb : ∀ si k h', J si k h' → h'.get b1 = some (.cells [.int .i64 (n : Nat)] true 0) ∧ h'.get b2 = some (.cells [.int .i64 (mg : Nat)] true 0))
    (hy : ∀ (si k : Nat) (h' : Heap), si < 3 → k < cntM n mg ((si : Int) - 1) → J si k h' → AYield C l [.int .i64 (mg + k : Nat), .int .i64 ((si : Int) - 1)] h' (fun r h'' => (r = .bool true ∧ J si (k + 1) h'') ∨ (r = .bool false ∧ D h'')))
    (hx : ∀ (si : Nat) (h' : Heap), si < 3 → J si (cntM n mg ((si : Int) - 1)) h' → J (si + 1) 0 h') (hd : ∀ h', J 3 0 h' → D h') :
    ACalls C 201 [.yield l, .ptr b1 0, .ptr b2 0] h (fun _ h' => D h') := by
  (refine calls_intro (hC.body (by decide) tab201) (Nat.le_of_ble_eq_true rfl) ?_); (show wp C _ none B201.code _ _); (simp only [B201]); simp -implicitDefEqProofs (disch := first | assumption | decide | omega | (simp only [wpD1] <;> omega) | (simp only [wpD2] <;> assumption) | solve_by_elim [HSub.refl, HSub.push, HSub.reserve] | fail) only [↓wpPre, wpPost, wpPoly, Int.reduceToNat, Int.reducePow, Int.reduceMul, Int.reduceAdd, Int.reduceSub, Int.reduceNeg, Nat.reduceAdd, Nat.reduceMul, Nat.reducePow, Int.reduceLT, Int.reduceLE, Int.reduceEq, Nat.reduceEqDiff]
  refine wp_loopI (fun j t h' => ∃ si : Nat, J si 0 h' ∧ t 0 = .yield l ∧ t 1 = .ptr b1 0 ∧ t 2 = .ptr b2 0 ∧ t 4 = .int .i64 ((si : Int) - 1) ∧ si ≤ 3 ∧ j = 3 - si) (j0 := 3) ⟨0, h0, rfl, rfl, rfl, rfl, by omega, rfl⟩ ?_
  rintro j t h' ⟨si, hJ, e0, e1, e2, e4, hsi, hj⟩
  obtain ⟨g1, g2⟩ := hb _ _ _ hJ
  simp -implicitDefEqProofs (disch := first | assumption | decide | omega | (simp only [wpD1] <;> omega) | (simp only [wpD2] <;> assumption) | solve_by_elim [HSub.refl, HSub.push, HSub.reserve] | fail) only [↓wpPre, wpPost, wpPoly, Int.reduceToNat, Int.reducePow, Int.reduceMul, Int.reduceAdd, Int.reduceSub, Int.reduceNeg, Nat.reduceAdd, Nat.reduceMul, Nat.reducePow, Int.reduceLT, Int.reduceLE, Int.reduceEq, Nat.reduceEqDiff, e4]
  refine Br.by (fun c => ?_) (fun c => ?_)
  · have hsi' : si < 3 := by omega
    have hls : ∃ L : Int, L = lastM n mg ((si : Int) - 1) ∧ -10001 ≤ L ∧ L ≤ 10001 := ⟨_, rfl, by unfold lastM; split <;> omega, by unfold lastM; split <;> omega⟩
    obtain ⟨L, hL, hL1⟩ := hls
    by_cases cm : 0 < (mg : Int)
    · have eL : L = n + ((si : Int) - 1) - mg := by rw [hL]; unfold lastM; rw [if_pos cm]
      simp -implicitDefEqProofs (disch := first | assumption | decide | omega | (simp only [wpD1] <;> omega) | (simp only [wpD2] <;> assumption) | solve_by_elim [HSub.refl, HSub.push, HSub.reserve] | fail) only [↓wpPre, wpPost, wpPoly, Int.reduceToNat, Int.reducePow, Int.reduceMul, Int.reduceAdd, Int.reduceSub, Int.reduceNeg, Nat.reduceAdd, Nat.reduceMul, Nat.reducePow, Int.reduceLT, Int.reduceLE, Int.reduceEq, Nat.reduceEqDiff, e1, e2, e4, g1, g2]
      rw [← eL]
      refine wp_loopI (fun j t h' => ∃ k : Nat, J si k h' ∧ t 0 = .yield l ∧ t 1 = .ptr b1 0 ∧ t 2 = .ptr b2 0 ∧ t 4 = .int .i64 ((si : Int) - 1) ∧ t 5 = .int .i64 L ∧ t 6 = .int .i64 (mg + k : Nat) ∧ k ≤ cntM n mg ((si : Int) - 1) ∧ j = cntM n mg ((si : Int) - 1) - k) (j0 := cntM n mg ((si : Int) - 1))
        ⟨0, hJ, e0, e1, e2, e4, rfl, rfl, by omega, rfl⟩ ?_
      rintro j t h'' ⟨k, hJ, e0, e1, e2, e4, e5, e6, hk, hj'⟩
      simp -implicitDefEqProofs (disch := first | assumption | decide | omega | (simp only [wpD1] <;> omega) | (simp only [wpD2] <;> assumption) | solve_by_elim [HSub.refl, HSub.push, HSub.reserve] | fail) only [↓wpPre, wpPost, wpPoly, Int.reduceToNat, Int.reducePow, Int.reduceMul, Int.reduceAdd, Int.reduceSub, Int.reduceNeg, Nat.reduceAdd, Nat.reduceMul, Nat.reducePow, Int.reduceLT, Int.reduceLE, Int.reduceEq, Nat.reduceEqDiff, e5, e6]
      refine Br.by (fun c2 => ?_) (fun c2 => ?_)
      · have hk' : k < cntM n mg ((si : Int) - 1) := (cnt_le (by omega) k).2 (by omega)
        have := cnt_in (by omega) hk'
        simp -implicitDefEqProofs (disch := first | assumption | decide | omega | (simp only [wpD1] <;> omega) | (simp only [wpD2] <;> assumption) | solve_by_elim [HSub.refl, HSub.push, HSub.reserve] | fail) only [↓wpPre, wpPost, wpPoly, Int.reduceToNat, Int.reducePow, Int.reduceMul, Int.reduceAdd, Int.reduceSub, Int.reduceNeg, Nat.reduceAdd, Nat.reduceMul, Nat.reducePow, Int.reduceLT, Int.reduceLE, Int.reduceEq, Nat.reduceEqDiff, e0, e4, e6]
        refine AYieldK.of (hy si k h'' hsi' hk' hJ) ?_
        rintro r h3 (⟨rfl, hJ'⟩ | ⟨rfl, hD⟩)
        · simp -implicitDefEqProofs (disch := first | assumption | decide | omega | (simp only [wpD1] <;> omega) | (simp only [wpD2] <;> assumption) | solve_by_elim [HSub.refl, HSub.push, HSub.reserve] | fail) only [↓wpPre, wpPost, wpPoly, Int.reduceToNat, Int.reducePow, Int.reduceMul, Int.reduceAdd, Int.reduceSub, Int.reduceNeg, Nat.reduceAdd, Nat.reduceMul, Nat.reducePow, Int.reduceLT, Int.reduceLE, Int.reduceEq, Nat.reduceEqDiff, e0, e1, e2, e4, e5, e6]
          exact ⟨_, ⟨k + 1, hJ', by simp; omega, by omega, rfl⟩, by omega⟩
        · simp -implicitDefEqProofs (disch := first | assumption | decide | omega | (simp only [wpD1] <;> omega) | (simp only [wpD2] <;> assumption) | solve_by_elim [HSub.refl, HSub.push, HSub.reserve] | fail) only [↓wpPre, wpPost, wpPoly, Int.reduceToNat, Int.reducePow, Int.reduceMul, Int.reduceAdd, Int.reduceSub, Int.reduceNeg, Nat.reduceAdd, Nat.reduceMul, Nat.reducePow, Int.reduceLT, Int.reduceLE, Int.reduceEq, Nat.reduceEqDiff]
          exact hD
      · have ek : k = cntM n mg ((si : Int) - 1) := by
          have := (cnt_le (n := n) (mg := mg) (s := (si : Int) - 1) (by omega) k).1
          omega
        subst ek
        simp -implicitDefEqProofs (disch := first | assumption | decide | omega | (simp only [wpD1] <;> omega) | (simp only [wpD2] <;> assumption) | solve_by_elim [HSub.refl, HSub.push, HSub.reserve] | fail) only [↓wpPre, wpPost, wpPoly, Int.reduceToNat, Int.reducePow, Int.reduceMul, Int.reduceAdd, Int.reduceSub, Int.reduceNeg, Nat.reduceAdd, Nat.reduceMul, Nat.reducePow, Int.reduceLT, Int.reduceLE, Int.reduceEq, Nat.reduceEqDiff, e0, e1, e2, e4]
        exact ⟨_, ⟨si + 1, hx si h'' hsi' hJ, by congr 1; omega, by omega, rfl⟩, by omega⟩
    · have eL : L = n + min ((si : Int) - 1) 0 := by rw [hL]; unfold lastM; rw [if_neg cm]
      simp -implicitDefEqProofs (disch := first | assumption | decide | omega | (simp only [wpD1] <;> omega) | (simp only [wpD2] <;> assumption) | solve_by_elim [HSub.refl, HSub.push, HSub.reserve] | fail) only [↓wpPre, wpPost, wpPoly, Int.reduceToNat, Int.reducePow, Int.reduceMul, Int.reduceAdd, Int.reduceSub, Int.reduceNeg, Nat.reduceAdd, Nat.reduceMul, Nat.reducePow, Int.reduceLT, Int.reduceLE, Int.reduceEq, Nat.reduceEqDiff, e1, e2, e4, g1, g2]
      rw [← eL]
      refine wp_loopI (fun j t h' => ∃ k : Nat, J si k h' ∧ t 0 = .yield l ∧ t 1 = .ptr b1 0 ∧ t 2 = .ptr b2 0 ∧ t 4 = .int .i64 ((si : Int) - 1) ∧ t 5 = .int .i64 L ∧ t 6 = .int .i64 (mg + k : Nat) ∧ k ≤ cntM n mg ((si : Int) - 1) ∧ j = cntM n mg ((si : Int) - 1) - k) (j0 := cntM n mg ((si : Int) - 1))
        ⟨0, hJ, e0, e1, e2, e4, rfl, rfl, by omega, rfl⟩ ?_
      rintro j t h'' ⟨k, hJ, e0, e1, e2, e4, e5, e6, hk, hj'⟩
      simp -implicitDefEqProofs (disch := first | assumption | decide | omega | (simp only [wpD1] <;> omega) | (simp only [wpD2] <;> assumption) | solve_by_elim [HSub.refl, HSub.push, HSub.reserve] | fail) only [↓wpPre, wpPost, wpPoly, Int.reduceToNat, Int.reducePow, Int.reduceMul, Int.reduceAdd, Int.reduceSub, Int.reduceNeg, Nat.reduceAdd, Nat.reduceMul, Nat.reducePow, Int.reduceLT, Int.reduceLE, Int.reduceEq, Nat.reduceEqDiff, e5, e6]
      refine Br.by (fun c2 => ?_) (fun c2 => ?_)
      · have hk' : k < cntM n mg ((si : Int) - 1) := (cnt_le (by omega) k).2 (by omega)
        have := cnt_in (by omega) hk'
        simp -implicitDefEqProofs (disch := first | assumption | decide | omega | (simp only [wpD1] <;> omega) | (simp only [wpD2] <;> assumption) | solve_by_elim [HSub.refl, HSub.push, HSub.reserve] | fail) only [↓wpPre, wpPost, wpPoly, Int.reduceToNat, Int.reducePow, Int.reduceMul, Int.reduceAdd, Int.reduceSub, Int.reduceNeg, Nat.reduceAdd, Nat.reduceMul, Nat.reducePow, Int.reduceLT, Int.reduceLE, Int.reduceEq, Nat.reduceEqDiff, e0, e4, e6]
        refine AYieldK.of (hy si k h'' hsi' hk' hJ) ?_
        rintro r h3 (⟨rfl, hJ'⟩ | ⟨rfl, hD⟩)
        · simp -implicitDefEqProofs (disch := first | assumption | decide | omega | (simp only [wpD1] <;> omega) | (simp only [wpD2] <;> assumption) | solve_by_elim [HSub.refl, HSub.push, HSub.reserve] | fail) only [↓wpPre, wpPost, wpPoly, Int.reduceToNat, Int.reducePow, Int.reduceMul, Int.reduceAdd, Int.reduceSub, Int.reduceNeg, Nat.reduceAdd, Nat.reduceMul, Nat.reducePow, Int.reduceLT, Int.reduceLE, Int.reduceEq, Nat.reduceEqDiff, e0, e1, e2, e4, e5, e6]
          exact ⟨_, ⟨k + 1, hJ', by simp; omega, by omega, rfl⟩, by omega⟩
        · simp -implicitDefEqProofs (disch := first | assumption | decide | omega | (simp only [wpD1] <;> omega) | (simp only [wpD2] <;> assumption) | solve_by_elim [HSub.refl, HSub.push, HSub.reserve] | fail) only [↓wpPre, wpPost, wpPoly, Int.reduceToNat, Int.reducePow, Int.reduceMul, Int.reduceAdd, Int.reduceSub, Int.reduceNeg, Nat.reduceAdd, Nat.reduceMul, Nat.reducePow, Int.reduceLT, Int.reduceLE, Int.reduceEq, Nat.reduceEqDiff]
          exact hD
      · have ek : k = cntM n mg ((si : Int) - 1) := by
          have := (cnt_le (n := n) (mg := mg) (s := (si : Int) - 1) (by omega) k).1
          omega
        subst ek
        simp -implicitDefEqProofs (disch := first | assumption | decide | omega | (simp only [wpD1] <;> omega) | (simp only [wpD2] <;> assumption) | solve_by_elim [HSub.refl, HSub.push, HSub.reserve] | fail) only [↓wpPre, wpPost, wpPoly, Int.reduceToNat, Int.reducePow, Int.reduceMul, Int.reduceAdd, Int.reduceSub, Int.reduceNeg, Nat.reduceAdd, Nat.reduceMul, Nat.reducePow, Int.reduceLT, Int.reduceLE, Int.reduceEq, Nat.reduceEqDiff, e0, e1, e2, e4]
        exact ⟨_, ⟨si + 1, hx si h'' hsi' hJ, by congr 1; omega, by omega, rfl⟩, by omega⟩
  · have : si = 3 := by omega
    subst this
    simp -implicitDefEqProofs (disch := first | assumption | decide | omega | (simp only [wpD1] <;> omega) | (simp only [wpD2] <;> assumption) | solve_by_elim [HSub.refl, HSub.push, HSub.reserve] | fail) only [↓wpPre, wpPost, wpPoly, Int.reduceToNat, Int.reducePow, Int.reduceMul, Int.reduceAdd, Int.reduceSub, Int.reduceNeg, Nat.reduceAdd, Nat.reduceMul, Nat.reducePow, Int.reduceLT, Int.reduceLE, Int.reduceEq, Nat.reduceEqDiff]
    exact hd _ hJ
end
end Go.Ae

/- The greatest sum over placements, of the program and of the reference: contracts. -/
set_option linter.unusedSimpArgs false
set_option linter.unusedVariables false
namespace Go.Ae
theorem rowG_succ {a b : List Int} {mg si k : Nat} : gM a b ((si : Int) - 1) mg (k + 1) (rowG a b mg si) = max (gM a b ((si : Int) - 1) mg k (rowG a b mg si)) (plc a b ((si : Int) - 1) (mg + k)) := rfl
section
variable {C : Ctx}
theorem great1_spec (hC : Has C T189) {w1 w2 : AV} {a b : List Int} {o1 o2 s x : Int} {m i1 i2 : Nat} {h : Heap} (g1 : h.get i1 = some (.cells [w1, .int .i64 o1] true 0)) (g2 : h.get i2 = some (.cells [w2, .int .i64 o2] true 0)) (ha : RI h w1 a) (hb : RI h w2 b) (oa : one1 a) (ob : one1 b) (hl : a.length = b.length ∧ 1 ≤ a.length ∧ a.length ≤ 10000) (hm : m ≤ a.length) (hs : -1 ≤ s ∧ s ≤ 1) (hms : (m : Int) ≤ a.length + s) (hx : 0 ≤ x ∧ x ≤ 10000) :
    ACalls C 189 [.int .i64 x, .int .i64 (m : Nat), .int .i64 s, .ptr i1 0, .ptr i2 0] h (fun r h' => r = .int .i64 (max x (plc a b s m)) ∧ h' = h) := by
  have p1 := pf_le oa ob (m := m) (s := s) m
  have p2 := ps_le oa ob (m := m) (a.length - m)
  have pp := parts_spec (hC.sub (T' := T180) (by decide)) (o1 := o1) (o2 := o2) (h := h) ha hb oa ob hl hm hs hms
  unfold plc
  (refine calls_intro (hC.body (by decide) tab189) (Nat.le_of_ble_eq_true rfl) ?_); (show wp C _ none B189.code _ _); (simp only [B189]); simp -implicitDefEqProofs (disch := first | assumption | decide | omega | (simp only [wpD1] <;> omega) | (simp only [wpD2] <;> assumption) | solve_by_elim [HSub.refl, HSub.push, HSub.reserve] | fail) only [↓wpPre, wpPost, wpPoly, Int.reduceToNat, Int.reducePow, Int.reduceMul, Int.reduceAdd, Int.reduceSub, Int.reduceNeg, Nat.reduceAdd, Nat.reduceMul, Nat.reducePow, Int.reduceLT, Int.reduceLE, Int.reduceEq, Nat.reduceEqDiff, g1, g2]
  refine ACallsK.eq pp ?_
  generalize pf a b m s m = X at *
  generalize ps a b m (a.length - m) = Y at *
  simp -implicitDefEqProofs (disch := first | assumption | decide | omega | (simp only [wpD1] <;> omega) | (simp only [wpD2] <;> assumption) | solve_by_elim [HSub.refl, HSub.push, HSub.reserve] | fail) only [↓wpPre, wpPost, wpPoly, Int.reduceToNat, Int.reducePow, Int.reduceMul, Int.reduceAdd, Int.reduceSub, Int.reduceNeg, Nat.reduceAdd, Nat.reduceMul, Nat.reducePow, Int.reduceLT, Int.reduceLE, Int.reduceEq, Nat.reduceEqDiff, tupPP]
  rw [show (0 - X) = -X by omega, show (0 - Y) = -Y by omega]
set_option maxHeartbeats 1000000 in
theorem fold_spec (hC : Has C T187) (hP : Has C T201) (hG : Has C T189) {w1 w2 : AV} {a b : List Int} {o1 o2 : Int} {mg i1 i2 b1 b2 : Nat} {h : Heap} (g1 : h.get i1 = some (.cells [w1, .int .i64 o1] true 0)) (g2 : h.get i2 = some (.cells [w2, .int .i64 o2] true 0))
    (k1 : h.get b1 = some (.cells [.int .i64 (a.length : Nat)] true 0)) (k2 : h.get b2 = some (.cells [.int .i64 (mg : Nat)] true 0)) (ha : RI h w1 a) (hb : RI h w2 b) (oa : one1 a) (ob : one1 b) (hl : a.length = b.length ∧ 1 ≤ a.length ∧ a.length ≤ 10000) (hmg : mg ≤ 10000) :
    ACalls C 187 [.func 201 [] [.ptr b1 0, .ptr b2 0], .int .i64 0, .func 189 [] [.ptr i1 0, .ptr i2 0]] h (fun r h' => r = .int .i64 (greatI a b mg) ∧ HSub h h') := by
  have l1 := Heap.lt_of_get g1
  have l2 := Heap.lt_of_get g2
  have l3 := Heap.lt_of_get k1
  have l4 := Heap.lt_of_get k2
  (refine calls_intro (hC.body (by decide) tab187) (Nat.le_of_ble_eq_true rfl) ?_); (show wp C _ none B187.code _ _); (simp only [B187]); simp -implicitDefEqProofs (disch := first | assumption | decide | omega | (simp only [wpD1] <;> omega) | (simp only [wpD2] <;> assumption) | solve_by_elim [HSub.refl, HSub.push, HSub.reserve] | fail) only [↓wpPre, wpPost, wpPoly, Int.reduceToNat, Int.reducePow, Int.reduceMul, Int.reduceAdd, Int.reduceSub, Int.reduceNeg, Nat.reduceAdd, Nat.reduceMul, Nat.reducePow, Int.reduceLT, Int.reduceLE, Int.reduceEq, Nat.reduceEqDiff]
  refine wpRange_none (D := fun h' => ∃ R, h'.get (h.size + 3) = some (.loop R) ∧ R.state = .ready ∧ R.pend = none ∧ HSub h h' ∧ h'.get (h.size + 2) = some (.defd true) ∧ h'.get h.size = some (.cells [.int .i64 (greatI a b mg)] true 0) ∧ h.size + 4 ≤ h'.size) ?_ ?_
  · refine ACalls.hideLoop (fun R hR => ?_)
    show ACalls C 201 [.yield (h.size + 3), .ptr b1 0, .ptr b2 0] _ _
    have rs : R.state = .ready := by rw [hR]
    have rp : R.pend = none := by rw [hR]
    have rb := loop_back rs rp
    refine plac_iter hP (n := a.length) (mg := mg) ⟨hl.2.2, hmg⟩ (fun si k h' => h'.get (h.size + 3) = some (.loop R) ∧ HSub h h' ∧ h'.get (h.size + 2) = some (.defd true) ∧ h'.get (h.size + 1) = some (.cells [.func 189 [] [.ptr i1 0, .ptr i2 0]] true 0) ∧
      h'.get h.size = some (.cells [.int .i64 (gM a b ((si : Int) - 1) mg k (rowG a b mg si))] true 0) ∧ h.size + 4 ≤ h'.size) _ ?_ ?_ ?_ ?_ ?_
    · refine ⟨?_, (((HSub.push1 _ _).push _).push _).push _, ?_, ?_, ?_, ?_⟩
      · simp -implicitDefEqProofs (disch := first | assumption | decide | omega | (simp only [wpD1] <;> omega) | (simp only [wpD2] <;> assumption) | solve_by_elim [HSub.refl, HSub.push, HSub.reserve] | fail) only [↓wpPre, wpPost, wpPoly, Int.reduceToNat, Int.reducePow, Int.reduceMul, Int.reduceAdd, Int.reduceSub, Int.reduceNeg, Nat.reduceAdd, Nat.reduceMul, Nat.reducePow, Int.reduceLT, Int.reduceLE, Int.reduceEq, Nat.reduceEqDiff]
      · simp -implicitDefEqProofs (disch := first | assumption | decide | omega | (simp only [wpD1] <;> omega) | (simp only [wpD2] <;> assumption) | solve_by_elim [HSub.refl, HSub.push, HSub.reserve] | fail) only [↓wpPre, wpPost, wpPoly, Int.reduceToNat, Int.reducePow, Int.reduceMul, Int.reduceAdd, Int.reduceSub, Int.reduceNeg, Nat.reduceAdd, Nat.reduceMul, Nat.reducePow, Int.reduceLT, Int.reduceLE, Int.reduceEq, Nat.reduceEqDiff]
      · simp -implicitDefEqProofs (disch := first | assumption | decide | omega | (simp only [wpD1] <;> omega) | (simp only [wpD2] <;> assumption) | solve_by_elim [HSub.refl, HSub.push, HSub.reserve] | fail) only [↓wpPre, wpPost, wpPoly, Int.reduceToNat, Int.reducePow, Int.reduceMul, Int.reduceAdd, Int.reduceSub, Int.reduceNeg, Nat.reduceAdd, Nat.reduceMul, Nat.reducePow, Int.reduceLT, Int.reduceLE, Int.reduceEq, Nat.reduceEqDiff]
      · simp -implicitDefEqProofs (disch := first | assumption | decide | omega | (simp only [wpD1] <;> omega) | (simp only [wpD2] <;> assumption) | solve_by_elim [HSub.refl, HSub.push, HSub.reserve] | fail) only [↓wpPre, wpPost, wpPoly, Int.reduceToNat, Int.reducePow, Int.reduceMul, Int.reduceAdd, Int.reduceSub, Int.reduceNeg, Nat.reduceAdd, Nat.reduceMul, Nat.reducePow, Int.reduceLT, Int.reduceLE, Int.reduceEq, Nat.reduceEqDiff]
        rfl
      · simp -implicitDefEqProofs (disch := first | assumption | decide | omega | (simp only [wpD1] <;> omega) | (simp only [wpD2] <;> assumption) | solve_by_elim [HSub.refl, HSub.push, HSub.reserve] | fail) only [↓wpPre, wpPost, wpPoly, Int.reduceToNat, Int.reducePow, Int.reduceMul, Int.reduceAdd, Int.reduceSub, Int.reduceNeg, Nat.reduceAdd, Nat.reduceMul, Nat.reducePow, Int.reduceLT, Int.reduceLE, Int.reduceEq, Nat.reduceEqDiff]
        omega
    · rintro si k h' ⟨_, hs, _⟩
      exact ⟨(hs.get _ l3).trans k1, (hs.get _ l4).trans k2⟩
    · rintro si k h' hsi hk ⟨hlp, hsub, hd, gf, gv, hsz⟩
      have hin := cnt_in (n := a.length) (mg := mg) (s := (si : Int) - 1) (by omega) hk
      have rg := rowG_le oa ob mg si (by omega)
      have gl := gM_le oa ob (s := (si : Int) - 1) (lo := mg) k _ (by omega) rg
      have gs := rowG_succ (a := a) (b := b) (mg := mg) (si := si) (k := k)
      refine yield_intro (r := R) hlp rs (by rw [hR]; rfl) ?_
      simp only [congrArg ALoop.nt hR, congrArg ALoop.t hR, congrArg ALoop.params hR, congrArg ALoop.assign hR, congrArg ALoop.body hR]
      have hsH := fun bb => (hsub.put (i := h.size + 3) (by omega) bb)
      have gr := fun bb => great1_spec hG (s := (si : Int) - 1) (x := gM a b ((si : Int) - 1) mg k (rowG a b mg si)) (m := mg + k) (((hsH bb).get _ l1).trans g1) (((hsH bb).get _ l2).trans g2) (ha.mono (hsH bb)) (hb.mono (hsH bb)) oa ob hl hin.1 (by omega) hin.2 (by omega)
      simp -implicitDefEqProofs (disch := first | assumption | decide | omega | (simp only [wpD1] <;> omega) | (simp only [wpD2] <;> assumption) | solve_by_elim [HSub.refl, HSub.push, HSub.reserve] | fail) only [↓wpPre, wpPost, wpPoly, Int.reduceToNat, Int.reducePow, Int.reduceMul, Int.reduceAdd, Int.reduceSub, Int.reduceNeg, Nat.reduceAdd, Nat.reduceMul, Nat.reducePow, Int.reduceLT, Int.reduceLE, Int.reduceEq, Nat.reduceEqDiff, hlp, rs, gf, gv]
      refine ACallsK.eq (gr _) ?_
      simp -implicitDefEqProofs (disch := first | assumption | decide | omega | (simp only [wpD1] <;> omega) | (simp only [wpD2] <;> assumption) | solve_by_elim [HSub.refl, HSub.push, HSub.reserve] | fail) only [↓wpPre, wpPost, wpPoly, Int.reduceToNat, Int.reducePow, Int.reduceMul, Int.reduceAdd, Int.reduceSub, Int.reduceNeg, Nat.reduceAdd, Nat.reduceMul, Nat.reducePow, Int.reduceLT, Int.reduceLE, Int.reduceEq, Nat.reduceEqDiff, hlp, gv]
      exact .inl ⟨by rw [rb], (by repeat (first | exact hsub | refine HSub.put ?_ (by (try simp only [Heap.size_put, Heap.size_push, Heap.size_reserve]); omega) _ | refine HSub.push ?_ _ | refine HSub.reserve ?_ _)), hd, gf, by rw [gs], hsz⟩
    · rintro si h' hsi ⟨hlp, hsub, hd, gf, gv, hsz⟩
      exact ⟨hlp, hsub, hd, gf, gv, hsz⟩
    · rintro h' ⟨hlp, hsub, hd, gf, gv, hsz⟩
      exact ⟨R, hlp, rs, rp, hsub, hd, gv, hsz⟩
  · rintro h' ⟨R, hlp, hst, hpd, hsub, hd, gv, hsz⟩
    refine ⟨R, hlp, by rw [hst]; decide, ?_⟩
    rw [hpd]
    show blockO _ _ .normal _
    simp -implicitDefEqProofs (disch := first | assumption | decide | omega | (simp only [wpD1] <;> omega) | (simp only [wpD2] <;> assumption) | solve_by_elim [HSub.refl, HSub.push, HSub.reserve] | fail) only [↓wpPre, wpPost, wpPoly, Int.reduceToNat, Int.reducePow, Int.reduceMul, Int.reduceAdd, Int.reduceSub, Int.reduceNeg, Nat.reduceAdd, Nat.reduceMul, Nat.reducePow, Int.reduceLT, Int.reduceLE, Int.reduceEq, Nat.reduceEqDiff, hd, gv]
    exact (by repeat (first | exact hsub | refine HSub.put ?_ (by (try simp only [Heap.size_put, Heap.size_push, Heap.size_reserve]); omega) _ | refine HSub.push ?_ _ | refine HSub.reserve ?_ _))
theorem great_spec (hC : Has C T183) {w1 w2 : AV} {a b : List Int} {o1 o2 : Int} {mg : Nat} {h : Heap} (ha : RI h w1 a) (hb : RI h w2 b) (oa : one1 a) (ob : one1 b) (hl : a.length = b.length ∧ 1 ≤ a.length ∧ a.length ≤ 10000) (hmg : mg ≤ 10000) :
    ACalls C 183 [.agg [w1, .int .i64 o1], .agg [w2, .int .i64 o2], .int .i64 (mg : Nat)] h (fun r h' => r = .int .i64 (greatI a b mg) ∧ h' = h) := by
  refine ACalls.gc0 (P := fun r h' => r = .int .i64 (greatI a b mg) ∧ HSub h h') ?_ (fun r h' hp => ⟨by rw [hp.1]; trivial, hp.2, hp.1, rfl⟩)
  have hlt := ha.lt
  have c0 := ha.cells
  have o0 := ha.one
  have c1 := hb.cells
  have o1' := hb.one
  have hpl : ∀ h (n : Int), ACalls C 188 [.int .i64 n, .int .i64 (mg : Nat)] h (fun r h' => r = .func 201 [] [.ptr h.size 0, .ptr (h.size + 1) 0] ∧ h' = (h.push (.cells [.int .i64 n] true 0)).push (.cells [.int .i64 (mg : Nat)] true 0)) := by
    intro h n
    have hC' : Has C T188 := (hC.sub (T' := T188) (by decide))
    have hC := hC'
    (refine calls_intro (hC.body (by decide) tab188) (Nat.le_of_ble_eq_true rfl) ?_); (show wp C _ none B188.code _ _); (simp only [B188]); simp -implicitDefEqProofs (disch := first | assumption | decide | omega | (simp only [wpD1] <;> omega) | (simp only [wpD2] <;> assumption) | solve_by_elim [HSub.refl, HSub.push, HSub.reserve] | fail) only [↓wpPre, wpPost, wpPoly, Int.reduceToNat, Int.reducePow, Int.reduceMul, Int.reduceAdd, Int.reduceSub, Int.reduceNeg, Nat.reduceAdd, Nat.reduceMul, Nat.reducePow, Int.reduceLT, Int.reduceLE, Int.reduceEq, Nat.reduceEqDiff]
  have hsub4 : HSub h ((((h.push (.cells [w1, .int .i64 o1] true 0)).push (.cells [w2, .int .i64 o2] true 0)).push (.cells [.int .i64 (a.length : Nat)] true 0)).push (.cells [.int .i64 (mg : Nat)] true 0)) := (by repeat (first | exact HSub.refl _ | refine HSub.put ?_ (by (try simp only [Heap.size_put, Heap.size_push, Heap.size_reserve]); omega) _ | refine HSub.push ?_ _ | refine HSub.reserve ?_ _))
  have hfd := fold_spec (hC.sub (T' := T187) (by decide)) (hC.sub (T' := T201) (by decide)) (hC.sub (T' := T189) (by decide)) (i1 := h.size) (i2 := h.size + 1) (b1 := h.size + 2) (b2 := h.size + 3) (o1 := o1) (o2 := o2) (w1 := w1) (w2 := w2) (mg := mg)
    (h := (((h.push (.cells [w1, .int .i64 o1] true 0)).push (.cells [w2, .int .i64 o2] true 0)).push (.cells [.int .i64 (a.length : Nat)] true 0)).push (.cells [.int .i64 (mg : Nat)] true 0))
    (by simp -implicitDefEqProofs (disch := first | assumption | decide | omega | (simp only [wpD1] <;> omega) | (simp only [wpD2] <;> assumption) | solve_by_elim [HSub.refl, HSub.push, HSub.reserve] | fail) only [↓wpPre, wpPost, wpPoly, Int.reduceToNat, Int.reducePow, Int.reduceMul, Int.reduceAdd, Int.reduceSub, Int.reduceNeg, Nat.reduceAdd, Nat.reduceMul, Nat.reducePow, Int.reduceLT, Int.reduceLE, Int.reduceEq, Nat.reduceEqDiff]) (by simp -implicitDefEqProofs (disch := first | assumption | decide | omega | (simp only [wpD1] <;> omega) | (simp only [wpD2] <;> assumption) | solve_by_elim [HSub.refl, HSub.push, HSub.reserve] | fail) only [↓wpPre, wpPost, wpPoly, Int.reduceToNat, Int.reducePow, Int.reduceMul, Int.reduceAdd, Int.reduceSub, Int.reduceNeg, Nat.reduceAdd, Nat.reduceMul, Nat.reducePow, Int.reduceLT, Int.reduceLE, Int.reduceEq, Nat.reduceEqDiff]) (by simp -implicitDefEqProofs (disch := first | assumption | decide | omega | (simp only [wpD1] <;> omega) | (simp only [wpD2] <;> assumption) | solve_by_elim [HSub.refl, HSub.push, HSub.reserve] | fail) only [↓wpPre, wpPost, wpPoly, Int.reduceToNat, Int.reducePow, Int.reduceMul, Int.reduceAdd, Int.reduceSub, Int.reduceNeg, Nat.reduceAdd, Nat.reduceMul, Nat.reducePow, Int.reduceLT, Int.reduceLE, Int.reduceEq, Nat.reduceEqDiff]) (by simp -implicitDefEqProofs (disch := first | assumption | decide | omega | (simp only [wpD1] <;> omega) | (simp only [wpD2] <;> assumption) | solve_by_elim [HSub.refl, HSub.push, HSub.reserve] | fail) only [↓wpPre, wpPost, wpPoly, Int.reduceToNat, Int.reducePow, Int.reduceMul, Int.reduceAdd, Int.reduceSub, Int.reduceNeg, Nat.reduceAdd, Nat.reduceMul, Nat.reducePow, Int.reduceLT, Int.reduceLE, Int.reduceEq, Nat.reduceEqDiff]) (ha.mono hsub4) (hb.mono hsub4) oa ob hl hmg
  (refine calls_intro (hC.body (by decide) tab183) (Nat.le_of_ble_eq_true rfl) ?_); (show wp C _ none B183.code _ _); (simp only [B183]); simp -implicitDefEqProofs (disch := first | assumption | decide | omega | (simp only [wpD1] <;> omega) | (simp only [wpD2] <;> assumption) | solve_by_elim [HSub.refl, HSub.push, HSub.reserve] | fail) only [↓wpPre, wpPost, wpPoly, Int.reduceToNat, Int.reducePow, Int.reduceMul, Int.reduceAdd, Int.reduceSub, Int.reduceNeg, Nat.reduceAdd, Nat.reduceMul, Nat.reducePow, Int.reduceLT, Int.reduceLE, Int.reduceEq, Nat.reduceEqDiff, ha.len]
  refine ACallsK.eq (hpl _ _) ?_
  simp -implicitDefEqProofs (disch := first | assumption | decide | omega | (simp only [wpD1] <;> omega) | (simp only [wpD2] <;> assumption) | solve_by_elim [HSub.refl, HSub.push, HSub.reserve] | fail) only [↓wpPre, wpPost, wpPoly, Int.reduceToNat, Int.reducePow, Int.reduceMul, Int.reduceAdd, Int.reduceSub, Int.reduceNeg, Nat.reduceAdd, Nat.reduceMul, Nat.reducePow, Int.reduceLT, Int.reduceLE, Int.reduceEq, Nat.reduceEqDiff]
  refine ACallsK.of hfd ?_
  rintro r h' ⟨rfl, s1⟩
  simp -implicitDefEqProofs (disch := first | assumption | decide | omega | (simp only [wpD1] <;> omega) | (simp only [wpD2] <;> assumption) | solve_by_elim [HSub.refl, HSub.push, HSub.reserve] | fail) only [↓wpPre, wpPost, wpPoly, Int.reduceToNat, Int.reducePow, Int.reduceMul, Int.reduceAdd, Int.reduceSub, Int.reduceNeg, Nat.reduceAdd, Nat.reduceMul, Nat.reducePow, Int.reduceLT, Int.reduceLE, Int.reduceEq, Nat.reduceEqDiff]
  exact hsub4.trans s1
end
end Go.Ae

/- Parts, Side and Cross, of the program. -/
set_option linter.unusedSimpArgs false
set_option linter.unusedVariables false
namespace Go.Ae
theorem CLs.two {h : Heap} {v : AV} {d o p q : Int} {vs : List AV} (H : CLs h v d o [p, q] vs) : ∃ w1 w2, RI h w1 (sampL d p o.toNat) ∧ RI h w2 (sampL d q o.toNat) ∧ idxA 2 v (.int .i64 0) = some (elA 2 v 0) ∧ idxA 2 v (.int .i64 1) = some (elA 2 v 1) ∧
    Ae.loadA h true 2 (elA 2 v 0) = some (.agg [w1, .int .i64 o]) ∧ Ae.loadA h true 2 (elA 2 v 1) = some (.agg [w2, .int .i64 o]) ∧ fieldAddrA 0 (elA 2 v 0) = some (elF 2 v 0 0) ∧ Ae.loadA h false 1 (elF 2 v 0 0) = some w1 := by
  obtain ⟨w1, w2, rfl⟩ : ∃ w1 w2, vs = [w1, w2] := by
    have := H.len
    match vs, this with
    | [a, b], _ => exact ⟨a, b, rfl⟩
  have l0 := H.sl.loadA (k := 0) (by simp)
  have l1 := H.sl.loadA (k := 1) (by simp)
  have lf := H.sl.loadE (k := 0) (off := 0) (by simp) (by decide)
  exact ⟨w1, w2, H.ri 0 (by simp), H.ri 1 (by simp), H.sl.idx (k := 0) (by simp), H.sl.idx (k := 1) (by simp), l0, l1, H.sl.fldE 0 0 (by simp), lf⟩
theorem CLs.one {h : Heap} {v : AV} {d o p : Int} {vs : List AV} (H : CLs h v d o [p] vs) : ∃ w1, RI h w1 (sampL d p o.toNat) ∧ idxA 2 v (.int .i64 0) = some (elA 2 v 0) ∧ Ae.loadA h true 2 (elA 2 v 0) = some (.agg [w1, .int .i64 o]) := by
  obtain ⟨w1, rfl⟩ : ∃ w1, vs = [w1] := by
    have := H.len
    match vs, this with
    | [a], _ => exact ⟨a, rfl⟩
  exact ⟨w1, H.ri 0 (by simp), H.sl.idx (k := 0) (by simp), H.sl.loadA (k := 0) (by simp)⟩
theorem sampErr_cases (d o : Int) (ps : List Int) : sampErr d o ps = 0 ∨ sampErr d o ps = 2 := by unfold sampErr; split <;> simp
theorem sampErr_ok {d o : Int} {ps : List Int} (h : sampErr d o ps = 0) : lenOk d = true ∧ (1 ≤ o ∧ o ≤ 8) ∧ ∀ p ∈ ps, codeErr d p = 0 := by
  unfold sampErr at h
  split at h
  · rename_i c
    have k := c.1
    unfold knownErr at k
    split at k
    · rename_i kk; exact ⟨kk.1, kk.2, c.2⟩
    · cases k
  · cases h
def partsOk (d o p q m s : Int) : Prop := sampErr d o [p, q] = 0 ∧ (-1 ≤ s ∧ s ≤ 1) ∧ 0 ≤ m ∧ m ≤ lenN d * o + min s 0
instance (d o p q m s : Int) : Decidable (partsOk d o p q m s) := by unfold partsOk; exact inferInstance
def partsE (d o p q m s : Int) : AV := if partsOk d o p q m s then tup3 (pf (sampL d p o.toNat) (sampL d q o.toNat) m s m.toNat) (ps (sampL d p o.toNat) (sampL d q o.toNat) m.toNat ((sampL d p o.toNat).length - m.toNat)) 0 else tup3 0 0 2
def crossE (d o p q : Int) : AV := if sampErr d o [p, q] = 0 then tup2 (greatI (sampL d p o.toNat) (sampL d q o.toNat) 0) 0 else tup2 0 2
def sideE (d o p : Int) : AV := if sampErr d o [p] = 0 then tup2 (greatI (sampL d p o.toNat) (sampL d p o.toNat) o.toNat) 0 else tup2 0 2
section
variable {C : Ctx}
theorem Cross_spec (hC : Has C T173) {d o p q : Int} {h : Heap} (hd : In64 d) (ho : In64 o) (hp : In64 p) (hq : In64 q) :
    ACalls C 173 [.int .i64 d, .int .i64 o, .int .i64 p, .int .i64 q] h (fun r h' => r = crossE d o p q ∧ HSub h h') := by
  have hsd := fun (h : Heap) (i : Nat) (hg : h.get i = some (.cells [.int .i64 p, .int .i64 q] true 0)) => sampled_spec (hC.sub (T' := T142) (by decide)) (vp := .slice i 0 2 (.known 2)) (ps := [p, q]) (h := h) hd ho (RI.known hg ⟨rfl, by decide⟩ (by decide)) (by simp [hp, hq]) (by simp)
  unfold crossE
  rcases sampErr_cases d o [p, q] with c | c
  · simp only [c] at hsd
    rw [if_pos c]
    have ok := sampErr_ok c
    have hN := lenN_eq ok.1
    obtain ⟨k, rfl⟩ := Int.eq_ofNat_of_zero_le (show 0 ≤ o by omega)
    have ln1 := sampL_length d p k
    have ln2 := sampL_length d q k
    have sz1 : lenN d ≤ lenN d * k := Nat.le_mul_of_pos_right _ (by omega)
    have sz2 : lenN d * k ≤ 1023 * 8 := Nat.mul_le_mul (by omega) (by omega)
    rw [Int.toNat_natCast]
    (refine calls_intro (hC.body (by decide) tab173) (Nat.le_of_ble_eq_true rfl) ?_); (show wp C _ none B173.code _ _); (simp only [B173]); simp -implicitDefEqProofs (disch := first | assumption | decide | omega | (simp only [wpD1] <;> omega) | (simp only [wpD2] <;> assumption) | solve_by_elim [HSub.refl, HSub.push, HSub.reserve] | fail) only [↓wpPre, wpPost, wpPoly, Int.reduceToNat, Int.reducePow, Int.reduceMul, Int.reduceAdd, Int.reduceSub, Int.reduceNeg, Nat.reduceAdd, Nat.reduceMul, Nat.reducePow, Int.reduceLT, Int.reduceLE, Int.reduceEq, Nat.reduceEqDiff]
    refine ACallsK.of (hsd _ _ (get_push_eq rfl)) ?_
    rintro r h1 ⟨v, vs, rfl, s1, hcl⟩
    have hsub : HSub h h1 := (HSub.push1 _ _).trans s1
    have x := (hcl trivial).two
    obtain ⟨w1, w2, R1, R2, ix0, ix1, ld0, ld1, fx, lf⟩ := x
    rw [Int.toNat_natCast] at R1 R2
    have pp := great_spec (hC.sub (T' := T183) (by decide)) (o1 := k) (o2 := k) (mg := 0) (h := h1) R1 R2 (sampL_one1 _ _ _) (sampL_one1 _ _ _) (by omega) (by omega)
    simp -implicitDefEqProofs (disch := first | assumption | decide | omega | (simp only [wpD1] <;> omega) | (simp only [wpD2] <;> assumption) | solve_by_elim [HSub.refl, HSub.push, HSub.reserve] | fail) only [↓wpPre, wpPost, wpPoly, Int.reduceToNat, Int.reducePow, Int.reduceMul, Int.reduceAdd, Int.reduceSub, Int.reduceNeg, Nat.reduceAdd, Nat.reduceMul, Nat.reducePow, Int.reduceLT, Int.reduceLE, Int.reduceEq, Nat.reduceEqDiff, lstErr, ix0, ix1, ld0, ld1]
    refine ACallsK.eq pp ?_
    simp -implicitDefEqProofs (disch := first | assumption | decide | omega | (simp only [wpD1] <;> omega) | (simp only [wpD2] <;> assumption) | solve_by_elim [HSub.refl, HSub.push, HSub.reserve] | fail) only [↓wpPre, wpPost, wpPoly, Int.reduceToNat, Int.reducePow, Int.reduceMul, Int.reduceAdd, Int.reduceSub, Int.reduceNeg, Nat.reduceAdd, Nat.reduceMul, Nat.reducePow, Int.reduceLT, Int.reduceLE, Int.reduceEq, Nat.reduceEqDiff]
    exact ⟨rfl, hsub⟩
  · simp only [c] at hsd
    rw [if_neg (by omega)]
    (refine calls_intro (hC.body (by decide) tab173) (Nat.le_of_ble_eq_true rfl) ?_); (show wp C _ none B173.code _ _); (simp only [B173]); simp -implicitDefEqProofs (disch := first | assumption | decide | omega | (simp only [wpD1] <;> omega) | (simp only [wpD2] <;> assumption) | solve_by_elim [HSub.refl, HSub.push, HSub.reserve] | fail) only [↓wpPre, wpPost, wpPoly, Int.reduceToNat, Int.reducePow, Int.reduceMul, Int.reduceAdd, Int.reduceSub, Int.reduceNeg, Nat.reduceAdd, Nat.reduceMul, Nat.reducePow, Int.reduceLT, Int.reduceLE, Int.reduceEq, Nat.reduceEqDiff]
    refine ACallsK.of (hsd _ _ (get_push_eq rfl)) ?_
    rintro r h1 ⟨v, vs, rfl, s1, hcl⟩
    have hsub : HSub h h1 := (HSub.push1 _ _).trans s1
    simp -implicitDefEqProofs (disch := first | assumption | decide | omega | (simp only [wpD1] <;> omega) | (simp only [wpD2] <;> assumption) | solve_by_elim [HSub.refl, HSub.push, HSub.reserve] | fail) only [↓wpPre, wpPost, wpPoly, Int.reduceToNat, Int.reducePow, Int.reduceMul, Int.reduceAdd, Int.reduceSub, Int.reduceNeg, Nat.reduceAdd, Nat.reduceMul, Nat.reducePow, Int.reduceLT, Int.reduceLE, Int.reduceEq, Nat.reduceEqDiff, lstErr]
    exact ⟨rfl, hsub⟩
theorem Side_spec (hC : Has C T175) {d o p : Int} {h : Heap} (hd : In64 d) (ho : In64 o) (hp : In64 p) :
    ACalls C 175 [.int .i64 d, .int .i64 o, .int .i64 p] h (fun r h' => r = sideE d o p ∧ HSub h h') := by
  have hsd := fun (h : Heap) (i : Nat) (hg : h.get i = some (.cells [.int .i64 p] true 0)) => sampled_spec (hC.sub (T' := T142) (by decide)) (vp := .slice i 0 1 (.known 1)) (ps := [p]) (h := h) hd ho (RI.known hg ⟨rfl, by decide⟩ (by decide)) (by simp [hp]) (by simp)
  unfold sideE
  rcases sampErr_cases d o [p] with c | c
  · simp only [c] at hsd
    rw [if_pos c]
    have ok := sampErr_ok c
    have hN := lenN_eq ok.1
    obtain ⟨k, rfl⟩ := Int.eq_ofNat_of_zero_le (show 0 ≤ o by omega)
    have ln1 := sampL_length d p k
    have sz1 : lenN d ≤ lenN d * k := Nat.le_mul_of_pos_right _ (by omega)
    have sz2 : lenN d * k ≤ 1023 * 8 := Nat.mul_le_mul (by omega) (by omega)
    rw [Int.toNat_natCast]
    (refine calls_intro (hC.body (by decide) tab175) (Nat.le_of_ble_eq_true rfl) ?_); (show wp C _ none B175.code _ _); (simp only [B175]); simp -implicitDefEqProofs (disch := first | assumption | decide | omega | (simp only [wpD1] <;> omega) | (simp only [wpD2] <;> assumption) | solve_by_elim [HSub.refl, HSub.push, HSub.reserve] | fail) only [↓wpPre, wpPost, wpPoly, Int.reduceToNat, Int.reducePow, Int.reduceMul, Int.reduceAdd, Int.reduceSub, Int.reduceNeg, Nat.reduceAdd, Nat.reduceMul, Nat.reducePow, Int.reduceLT, Int.reduceLE, Int.reduceEq, Nat.reduceEqDiff]
    refine ACallsK.of (hsd _ _ (get_push_eq rfl)) ?_
    rintro r h1 ⟨v, vs, rfl, s1, hcl⟩
    have hsub : HSub h h1 := (HSub.push1 _ _).trans s1
    have x := (hcl trivial).one
    obtain ⟨w1, R1, ix0, ld0⟩ := x
    rw [Int.toNat_natCast] at R1
    have pp := great_spec (hC.sub (T' := T183) (by decide)) (o1 := k) (o2 := k) (mg := k) (h := h1) R1 R1 (sampL_one1 _ _ _) (sampL_one1 _ _ _) (by omega) (by omega)
    simp -implicitDefEqProofs (disch := first | assumption | decide | omega | (simp only [wpD1] <;> omega) | (simp only [wpD2] <;> assumption) | solve_by_elim [HSub.refl, HSub.push, HSub.reserve] | fail) only [↓wpPre, wpPost, wpPoly, Int.reduceToNat, Int.reducePow, Int.reduceMul, Int.reduceAdd, Int.reduceSub, Int.reduceNeg, Nat.reduceAdd, Nat.reduceMul, Nat.reducePow, Int.reduceLT, Int.reduceLE, Int.reduceEq, Nat.reduceEqDiff, lstErr, ix0, ld0]
    refine ACallsK.eq pp ?_
    simp -implicitDefEqProofs (disch := first | assumption | decide | omega | (simp only [wpD1] <;> omega) | (simp only [wpD2] <;> assumption) | solve_by_elim [HSub.refl, HSub.push, HSub.reserve] | fail) only [↓wpPre, wpPost, wpPoly, Int.reduceToNat, Int.reducePow, Int.reduceMul, Int.reduceAdd, Int.reduceSub, Int.reduceNeg, Nat.reduceAdd, Nat.reduceMul, Nat.reducePow, Int.reduceLT, Int.reduceLE, Int.reduceEq, Nat.reduceEqDiff]
    exact ⟨rfl, hsub⟩
  · simp only [c] at hsd
    rw [if_neg (by omega)]
    (refine calls_intro (hC.body (by decide) tab175) (Nat.le_of_ble_eq_true rfl) ?_); (show wp C _ none B175.code _ _); (simp only [B175]); simp -implicitDefEqProofs (disch := first | assumption | decide | omega | (simp only [wpD1] <;> omega) | (simp only [wpD2] <;> assumption) | solve_by_elim [HSub.refl, HSub.push, HSub.reserve] | fail) only [↓wpPre, wpPost, wpPoly, Int.reduceToNat, Int.reducePow, Int.reduceMul, Int.reduceAdd, Int.reduceSub, Int.reduceNeg, Nat.reduceAdd, Nat.reduceMul, Nat.reducePow, Int.reduceLT, Int.reduceLE, Int.reduceEq, Nat.reduceEqDiff]
    refine ACallsK.of (hsd _ _ (get_push_eq rfl)) ?_
    rintro r h1 ⟨v, vs, rfl, s1, hcl⟩
    have hsub : HSub h h1 := (HSub.push1 _ _).trans s1
    simp -implicitDefEqProofs (disch := first | assumption | decide | omega | (simp only [wpD1] <;> omega) | (simp only [wpD2] <;> assumption) | solve_by_elim [HSub.refl, HSub.push, HSub.reserve] | fail) only [↓wpPre, wpPost, wpPoly, Int.reduceToNat, Int.reducePow, Int.reduceMul, Int.reduceAdd, Int.reduceSub, Int.reduceNeg, Nat.reduceAdd, Nat.reduceMul, Nat.reducePow, Int.reduceLT, Int.reduceLE, Int.reduceEq, Nat.reduceEqDiff, lstErr]
    exact ⟨rfl, hsub⟩
end
end Go.Ae

/- The spectrum of two codes, of the program. -/
set_option linter.unusedSimpArgs false
set_option linter.unusedVariables false
namespace Go.Ae
theorem GrwS.at {h0 h : Heap} {v : AV} {l : List (Int × Int)} (A : GrwS h0 h v l) (hl : 0 < l.length) : ∃ i ex, h0.size ≤ i ∧ v = .slice i 0 l.length (.unk 0) ∧ h.get i = some (.cells (smps l ++ ex) true 2) := by
  obtain ⟨_, _, _, ⟨_, h1⟩ | ⟨i, ex, hi, hv, hg⟩⟩ := A
  · omega
  · exact ⟨i, ex, hi, hv, hg⟩
def specOut (d p q : Int) : List (Int × Int) := rleL (sortL (circ (sampL d p 1) (sampL d q 1))) (lenN d)
section
variable {C : Ctx}
end
end Go.Ae

/- The spectrum of two codes, of the reference. -/
set_option linter.unusedSimpArgs false
set_option linter.unusedVariables false
namespace Go.Ae
section
variable {C : Ctx}
end
end Go.Ae

/- Samples, Parts, Side and Cross, of the reference. -/
set_option linter.unusedSimpArgs false
set_option linter.unusedVariables false
namespace Go.Ae
section
variable {C : Ctx}
def sampK (d p : Int) (o k : Nat) : List Int := (List.range k).map fun i => (codeL d p).getD (i / o) 0
end
end Go.Ae

/- Lists of lists of numbers, read and compared; pairs as lists. -/
set_option linter.unusedSimpArgs false
set_option linter.unusedVariables false
namespace Go.Ae
def LLI (h : Heap) (v : AV) (ll : List (List Int)) : Prop := ∃ vs : List AV, SL h 1 v ll.length vs ∧ vs.length = ll.length ∧ ∀ i, i < ll.length → RI h (vs.getD i .nilslice) (ll.getD i [])
theorem LLI.mono {h h' : Heap} {v : AV} {ll : List (List Int)} (H : LLI h v ll) (hs : HSub h h') : LLI h' v ll := by
  obtain ⟨vs, a, b, c⟩ := H
  exact ⟨vs, a.mono hs, b, fun i hi => (c i hi).mono hs⟩
theorem LLI.len {h : Heap} {v : AV} {ll : List (List Int)} (H : LLI h v ll) : lenA v = some (.int .i64 ll.length) := by obtain ⟨vs, a, _, _⟩ := H; exact a.len
theorem LLI.nil {h : Heap} : LLI h .nilslice [] := ⟨[], ⟨rfl, by decide, .inl ⟨rfl, rfl⟩⟩, rfl, fun i hi => by simp at hi⟩
theorem LLI.at {h : Heap} {v : AV} {ll : List (List Int)} (H : LLI h v ll) {i : Nat} (hi : i < ll.length) : ∃ w, idxA 1 v (.int .i64 (i : Nat)) = some (elA 1 v i) ∧ loadA h false 1 (elA 1 v i) = some w ∧ RI h w (ll.getD i []) := by
  obtain ⟨vs, a, b, c⟩ := H
  refine ⟨vs.getD i .nilslice, a.idx ⟨by omega, by omega⟩, ?_, c i hi⟩
  rw [SL.load1 a hi]
  simp [show i < vs.length by omega]
section
variable {C : Ctx}
def pairL (l : List (Int × Int)) : List (List Int) := l.map fun p => [p.1, p.2]
def Two (h0 h : Heap) (v w : AV) (p : Int × Int) : Prop := ∃ j, h0.size ≤ j ∧ w = .slice j 0 2 (.known 2) ∧ h.get j = some (.cells [.int .i64 p.1, .int .i64 p.2] true 0) ∧ j ∉ v.ids
end
end Go.Ae

/- Tables of sums, of the program. -/
set_option linter.unusedSimpArgs false
set_option linter.unusedVariables false
namespace Go.Ae
def tabE (d : Int) (ps : List Int) : Nat → Int
  | 0 => 0
  | k + 1 => if tabE d ps k ≠ 0 then tabE d ps k else if codeErr d (ps.getD k 0) ≠ 0 then 2 else if ((ps.take k).any fun y => ps.getD k 0 == y) = true then 8 else 0
def tabErr (d o : Int) (ps : List Int) : Int := if knownErr d o ≠ 0 then 2 else if ps.length = 0 then 3 else if 8 < ps.length then 4 else tabE d ps ps.length
def tabRow (d : Int) (o : Nat) (ps : List Int) (i k : Nat) : List Int := (List.range k).map fun j => greatI (sampL d (ps.getD i 0) o) (sampL d (ps.getD j 0) o) (if i = j then o else 0)
def tblL (d : Int) (o : Nat) (ps : List Int) : List (List Int) := (List.range ps.length).map fun i => tabRow d o ps i ps.length
theorem Grw.move {h0 h F : Heap} {sz n : Nat} {w : AV} {ds : List AV} (B : Grw h0 h sz w n ds) (hs : HSub h0 F) (hg : ∀ x ∈ w.ids, F.get x = h.get x) : Grw h0 F sz w n ds := by
  obtain ⟨_, hl, hn, ⟨rfl, rfl⟩ | ⟨i, ex, hi, rfl, hgi⟩⟩ := B
  · exact ⟨hs, hl, hn, .inl ⟨rfl, rfl⟩⟩
  · exact ⟨hs, hl, hn, .inr ⟨i, ex, hi, rfl, (hg i (by simp [AV.ids])).trans hgi⟩⟩
section
variable {C : Ctx}
end
end Go.Ae

/- Examples of layer 9, by contracts. -/
set_option linter.unusedSimpArgs false
set_option linter.unusedVariables false
namespace Go.Ae
section
variable {C : Ctx}
end
end Go.Ae

/- The chapter's examples of layer 9, by contracts. -/
set_option linter.unusedSimpArgs false
set_option linter.unusedVariables false
namespace Go.Ae
section
variable {C : Ctx}
end
end Go.Ae

/- The statement on bounds that are reached, of layer 9. -/
set_option linter.unusedSimpArgs false
set_option linter.unusedVariables false
namespace Go.Ae
theorem gM_ge {a b : List Int} {s : Int} {lo : Nat} : ∀ (k : Nat) (x : Int), x ≤ gM a b s lo k x
  | 0, x => Int.le_refl _
  | k + 1, x => by have := gM_ge (a := a) (b := b) (s := s) (lo := lo) k x; rw [gM]; omega
theorem gM_at {a b : List Int} {s : Int} {lo : Nat} {x : Int} : ∀ (k j : Nat), j < k → plc a b s (lo + j) ≤ gM a b s lo k x
  | 0, j, h => by omega
  | k + 1, j, h => by
    rw [gM]
    rcases Nat.lt_or_ge j k with y | y
    · have := gM_at (a := a) (b := b) (s := s) (lo := lo) (x := x) k j y; omega
    · have : j = k := by omega
      subst this; omega
section
variable {C : Ctx}
end
end Go.Ae

/- Windows over a stream of four pieces: what one placement's sums are bounded by. -/
set_option linter.unusedSimpArgs false
set_option linter.unusedVariables false
namespace Go.Ae
theorem plc_great {a b : List Int} {s : Int} {mg m : Nat} (hs : -1 ≤ s ∧ s ≤ 1) (h1 : mg ≤ m) (h2 : m - mg < cntM a.length mg s) : plc a b s m ≤ greatI a b mg := by
  have g : ∀ x, plc a b s m ≤ gM a b s mg (cntM a.length mg s) x := fun x => by
    have := gM_at (a := a) (b := b) (s := s) (lo := mg) (x := x) (cntM a.length mg s) (m - mg) h2
    rwa [show mg + (m - mg) = m by omega] at this
  unfold greatI
  rcases (show s = -1 ∨ s = 0 ∨ s = 1 by omega) with rfl | rfl | rfl
  · exact Int.le_trans (g 0) (Int.le_trans (gM_ge _ _) (gM_ge _ _))
  · exact Int.le_trans (g _) (gM_ge _ _)
  · exact g _
def winS (a : List Int) (f : Nat → Int) : Nat → Int
  | 0 => 0
  | k + 1 => winS a f k + a.getD k 0 * f k
theorem win_first {a b : List Int} {f : Nat → Int} {m : Nat} {s g : Int} : ∀ k, k ≤ m → (∀ i, i < k → f i = g * b.getD (min ((i : Int) - m + a.length + s) ((a.length : Int) - 1)).toNat 0) → winS a f k = g * pf a b m s k
  | 0, _, _ => by simp [winS, pf]
  | k + 1, hk, h => by
    rw [winS, pf, win_first k (by omega) (fun i hi => h i (by omega)), h k (by omega), Int.mul_add]
    congr 1
    grind
theorem win_rest {a b : List Int} {f : Nat → Int} {m : Nat} {g : Int} : ∀ k, (∀ i, i < k → f (m + i) = g * b.getD i 0) → winS a f (m + k) = winS a f m + g * ps a b m k
  | 0, _ => by simp [ps]
  | k + 1, h => by
    rw [← Nat.add_assoc, winS, ps, win_rest k (fun i hi => h i (by omega)), h k (by omega), Int.mul_add]
    grind
def pieceL (b : List Int) (g s : Int) (k : Nat) : List Int := (List.range k).map fun i => g * b.getD (min i (b.length - 1)) 0
end Go.Ae

/- Windows over the whole stream of pieces. -/
set_option linter.unusedSimpArgs false
set_option linter.unusedVariables false
namespace Go.Ae
def lenP (b : List Int) (s : Int) : Nat := ((b.length : Int) + s).toNat
def stN (b : List Int) (s : Nat → Int) : Nat → Nat
  | 0 => 0
  | k + 1 => stN b s k + lenP b (s k)
def strL (b : List Int) (g s : Nat → Int) : Nat → List Int
  | 0 => []
  | k + 1 => strL b g s k ++ pieceL b (g k) (s k) (lenP b (s k))
def staL (b : List Int) (s : Nat → Int) (k : Nat) : List Int := (List.range k).map fun i => (stN b s i : Int)
end Go.Ae

/- Windows over an emitter's samples, in plain numbers. -/
set_option linter.unusedSimpArgs false
set_option linter.unusedVariables false
namespace Go.Ae
def sumW (A : List Int) (v : Nat → Int × Int) : Nat → Int × Int
  | 0 => (0, 0)
  | k + 1 => ((sumW A v k).1 + A.getD k 0 * (v k).1, (sumW A v k).2 + A.getD k 0 * (v k).2)
theorem sumW_first {A : List Int} {v : Nat → Int × Int} {F : Nat → Int} {g : Int} {c : Int × Int} : ∀ k, (∀ i, i < k → v i = (g * F i * c.1, g * F i * c.2)) → sumW A v k = (g * winS A F k * c.1, g * winS A F k * c.2)
  | 0, _ => by simp [sumW, winS]
  | k + 1, h => by
    rw [sumW, sumW_first k (fun i hi => h i (by omega)), h k (by omega), winS]
    refine Prod.ext ?_ ?_ <;> grind
theorem sumW_rest {A : List Int} {v : Nat → Int × Int} {F : Nat → Int} {g : Int} {c : Int × Int} {m : Nat} : ∀ k, (∀ i, i < k → v (m + i) = (g * F (m + i) * c.1, g * F (m + i) * c.2)) → sumW A v (m + k) = ((sumW A v m).1 + g * (winS A F (m + k) - winS A F m) * c.1, (sumW A v m).2 + g * (winS A F (m + k) - winS A F m) * c.2)
  | 0, _ => by simp
  | k + 1, h => by
    rw [← Nat.add_assoc, sumW, sumW_rest k (fun i hi => h i (by omega)), h k (by omega), winS]
    refine Prod.ext ?_ ?_ <;> grind
theorem carr_dot : (List.range 64).all (fun k => (List.range 64).all fun j => decide (-16384 ≤ (carr k).1 * (carr j).1 + (carr k).2 * (carr j).2 ∧ (carr k).1 * (carr j).1 + (carr k).2 * (carr j).2 ≤ 16384)) = true := by decide +kernel
theorem carP_dot {a b : Int} (ha : U32 a) (hb : U32 b) : -16384 ≤ (carP a).1 * (carP b).1 + (carP a).2 * (carP b).2 ∧ (carP a).1 * (carP b).1 + (carP a).2 * (carP b).2 ≤ 16384 := by
  unfold U32 at ha hb
  have h := List.all_eq_true.1 carr_dot (a / 67108864).toNat (by simp; omega)
  have h2 := List.all_eq_true.1 h (b / 67108864).toNat (by simp; omega)
  exact of_decide_eq_true h2
theorem norm_le {a b x1 x2 y1 y2 : Int} (h0 : x1 * x1 + x2 * x2 ≤ 16384) (h1 : y1 * y1 + y2 * y2 ≤ 16384) (hd : -16384 ≤ x1 * y1 + x2 * y2 ∧ x1 * y1 + x2 * y2 ≤ 16384) :
    (a * x1 + b * y1) * (a * x1 + b * y1) + (a * x2 + b * y2) * (a * x2 + b * y2) ≤ 16384 * ((absI a + absI b) * (absI a + absI b)) := by
  have e : (a * x1 + b * y1) * (a * x1 + b * y1) + (a * x2 + b * y2) * (a * x2 + b * y2) = (a * a) * (x1 * x1 + x2 * x2) + (b * b) * (y1 * y1 + y2 * y2) + 2 * ((a * b) * (x1 * y1 + x2 * y2)) := by grind
  rw [e]
  generalize x1 * x1 + x2 * x2 = n0 at *
  generalize y1 * y1 + y2 * y2 = n1 at *
  generalize x1 * y1 + x2 * y2 = d at *
  have sq : ∀ x : Int, x * x = absI x * absI x := fun x => by unfold absI; rcases Int.le_total 0 x with c | c <;> simp [Int.max_def] <;> split <;> grind
  have p0 : 0 ≤ a * a := by rw [sq]; exact Int.mul_nonneg (absI_nonneg _) (absI_nonneg _)
  have p1 : 0 ≤ b * b := by rw [sq]; exact Int.mul_nonneg (absI_nonneg _) (absI_nonneg _)
  have q0 : a * a * n0 ≤ a * a * 16384 := Int.mul_le_mul_of_nonneg_left h0 p0
  have q1 : b * b * n1 ≤ b * b * 16384 := Int.mul_le_mul_of_nonneg_left h1 p1
  have q2 : a * b * d ≤ absI (a * b) * 16384 := by
    have h : absI (a * b * d) ≤ absI (a * b) * 16384 := by
      rw [absI_mul]
      exact Int.mul_le_mul_of_nonneg_left (by unfold absI; omega) (absI_nonneg _)
    unfold absI at h ⊢
    omega
  rw [absI_mul] at q2
  have f : 16384 * ((absI a + absI b) * (absI a + absI b)) = absI a * absI a * 16384 + absI b * absI b * 16384 + 2 * (absI a * absI b * 16384) := by grind
  rw [f, ← sq, ← sq]
  omega
theorem sampL_get' {d p : Int} {o i : Nat} (ho : 1 ≤ o) (h : i < lenN d * o) : (sampL d p o).getD i 0 = (codeL d p).getD (i / o) 0 := by
  have key : ∀ (l : List Int) (i : Nat), i < l.length * o → ((l.map fun x => List.replicate o x).flatten).getD i 0 = l.getD (i / o) 0 := by
    intro l
    induction l with
    | nil => intro i hi; simp at hi
    | cons x l ih =>
      intro i hi
      rw [List.map_cons, List.flatten_cons, List.getD_eq_getElem?_getD]
      rcases Nat.lt_or_ge i o with c | c
      · rw [List.getElem?_append_left (by simpa using c), Nat.div_eq_of_lt c]
        simp [c]
      · rw [List.getElem?_append_right (by simpa using c), List.length_replicate, ← List.getD_eq_getElem?_getD, ih (i - o) (by simp [Nat.succ_mul] at hi; omega)]
        have e : i / o = (i - o) / o + 1 := by
          rw [← Nat.add_div_right _ (by omega)]
          congr 1; omega
        rw [e, List.getD_cons_succ]
  have := key (codeL d p) i (by rw [codeL_length]; exact h)
  exact this
theorem chip_samp {p : PlanP} {e : EmitP} (ok : EmOk p e) {i : Int} (hi : 0 ≤ i) : chipI p e i = (sampL p.d e.prn p.o.toNat).getD (min i (p.size - 1)).toNat 0 := by
  have sz := size_range ok.pn
  have o' := ok.pn.2.1
  have hN := lenN_eq ok.pn.1
  obtain ⟨o, eo⟩ := Int.eq_ofNat_of_zero_le (show 0 ≤ p.o by omega)
  have es : p.size = ((lenN p.d * o : Nat) : Int) := by rw [sz.2.2, eo, Int.toNat_natCast]
  rw [eo, Int.toNat_natCast, sampL_get' (by omega) (by omega)]
  unfold chipI
  congr 1
  rw [eo]
  obtain ⟨m, rfl⟩ := Int.eq_ofNat_of_zero_le hi
  have e1 : ((m : Int) / (o : Int)) = ((m / o : Nat) : Int) := (Int.natCast_ediv m o).symm
  rw [e1, es]
  rcases Nat.lt_or_ge m (lenN p.d * o) with c | c
  · have q : m / o < lenN p.d := (Nat.div_lt_iff_lt_mul (by omega)).2 c
    rw [show (min (m : Int) (((lenN p.d * o : Nat) : Int) - 1)).toNat = m by omega]
    generalize m / o = w at *
    omega
  · have q : lenN p.d ≤ m / o := (Nat.le_div_iff_mul_le (by omega)).2 c
    rw [show (min (m : Int) (((lenN p.d * o : Nat) : Int) - 1)).toNat = lenN p.d * o - 1 by omega]
    have q2 : (lenN p.d * o - 1) / o = lenN p.d - 1 := by
      rw [Nat.div_eq_iff (by omega)]
      obtain ⟨N, hN2⟩ : ∃ N, lenN p.d = N + 1 := ⟨lenN p.d - 1, by omega⟩
      rw [hN2, Nat.add_sub_cancel, Nat.add_mul]
      omega
    rw [q2]
    generalize m / o = w at *
    omega
end Go.Ae

/- Windows over an emitter's samples are bounded. -/
set_option linter.unusedSimpArgs false
set_option linter.unusedVariables false
namespace Go.Ae
theorem absI_sgn {x g : Int} (hg : g = 1 ∨ g = -1) {a : Int} (ha : 0 ≤ a) : absI (a * g * x) = a * absI x := by
  rw [absI_mul]
  congr 1
  unfold absI
  rcases hg with rfl | rfl <;> omega
theorem sgn_pm {p : PlanP} {e : EmitP} (ok : EmOk p e) (k : Int) : 1 - 2 * bitI p e k = 1 ∨ 1 - 2 * bitI p e k = -1 := by
  rcases ok.bit k with h | h <;> rw [h] <;> simp
theorem at_in {p : PlanP} {e : EmitP} (ok : EmOk p e) {x K : Int} (h1 : e.sta p K ≤ x) (h2 : x < e.sta p (K + 1)) : atV p e x = (e.amp * (1 - 2 * bitI p e K) * (sampL p.d e.prn p.o.toNat).getD (min (x - e.sta p K) (p.size - 1)).toNat 0 * (carP (phI e.ph e.st K)).1, e.amp * (1 - 2 * bitI p e K) * (sampL p.d e.prn p.o.toNat).getD (min (x - e.sta p K) (p.size - 1)).toNat 0 * (carP (phI e.ph e.st K)).2) := by
  have hk : e.pl p x = K := (pl_of (dl := e.dl) ok.den h1 h2).symm
  unfold atV
  rw [hk, chip_samp ok (by omega)]
  refine Prod.ext ?_ ?_ <;> grind
theorem sq_mono {x y : Int} (h0 : 0 ≤ x) (h : x ≤ y) : x * x ≤ y * y := Int.mul_le_mul h h h0 (by omega)
theorem sig_window {p : PlanP} {e : EmitP} (ok : EmOk p e) {A : List Int} (hA : (A.length : Int) = p.size) (n : Int) (mg : Nat)
    (ho : mg = 0 ∨ (1 ≤ mg ∧ (mg : Int) ≤ n - e.sta p (e.pl p n) ∧ (mg : Int) ≤ e.sta p (e.pl p n + 1) - n)) :
    (sumW A (fun i => atV p e (n + (i : Nat))) A.length).1 * (sumW A (fun i => atV p e (n + (i : Nat))) A.length).1 + (sumW A (fun i => atV p e (n + (i : Nat))) A.length).2 * (sumW A (fun i => atV p e (n + (i : Nat))) A.length).2 ≤
      16384 * ((e.amp * greatI A (sampL p.d e.prn p.o.toNat) mg) * (e.amp * greatI A (sampL p.d e.prn p.o.toNat) mg)) := by
  have sz := size_range ok.pn
  have hB : ((sampL p.d e.prn p.o.toNat).length : Int) = p.size := by rw [sampL_length, sz.2.2]
  have am : 0 ≤ e.amp := by
    have := ok.en.2.2.1
    have := ok.pn.2.2.2.2.1
    omega
  have per := ok.per n
  have pl := pl_lt (dl := e.dl) (n := n) ok.den
  have pl : n < e.sta p (e.pl p n + 1) := pl
  have st1 := st_step (dl := e.dl) (sz := p.size) (k := e.pl p n) ok.en.2.1
  have st2 := st_step (dl := e.dl) (sz := p.size) (k := e.pl p n + 1) ok.en.2.1
  have st1 : p.size - 1 ≤ e.sta p (e.pl p n + 1) - e.sta p (e.pl p n) ∧ e.sta p (e.pl p n + 1) - e.sta p (e.pl p n) ≤ p.size + 1 := st1
  have st2 : p.size - 1 ≤ e.sta p (e.pl p n + 1 + 1) - e.sta p (e.pl p n + 1) := st2.1
  have a0 := fun (i : Nat) (hi : n + (i : Int) < e.sta p (e.pl p n + 1)) => at_in ok (x := n + (i : Int)) (K := e.pl p n) (by omega) hi
  have a1 := fun (i : Nat) (h1 : e.sta p (e.pl p n + 1) ≤ n + (i : Int)) (h2 : n + (i : Int) < e.sta p (e.pl p n + 1 + 1)) => at_in ok (x := n + (i : Int)) (K := e.pl p n + 1) h1 h2
  have g0 := sgn_pm ok (e.pl p n)
  have g1 := sgn_pm ok (e.pl p n + 1)
  have u0 := phI_u32 e.ph e.st (e.pl p n)
  have u1 := phI_u32 e.ph e.st (e.pl p n + 1)
  have d0b := carP_dot u0 u0
  have d0 := (carP_dot u0 u0).2
  have d1 := (carP_dot u1 u1).2
  have dd := carP_dot u0 u1
  generalize carP (phI e.ph e.st (e.pl p n)) = c0 at *
  generalize carP (phI e.ph e.st (e.pl p n + 1)) = c1 at *
  generalize 1 - 2 * bitI p e (e.pl p n) = s0 at *
  generalize 1 - 2 * bitI p e (e.pl p n + 1) = s1 at *
  generalize e.sta p (e.pl p n + 1 + 1) = S2 at *
  generalize e.sta p (e.pl p n + 1) = S1 at *
  generalize e.sta p (e.pl p n) = S0 at *
  generalize sampL p.d e.prn p.o.toNat = B at *
  generalize e.amp = am0 at *
  obtain ⟨m, hm⟩ := Int.eq_ofNat_of_zero_le (show 0 ≤ S1 - n by omega)
  rcases Nat.lt_or_ge A.length m with c | c
  · -- the window lies in one period
    have mz : mg = 0 := by omega
    subst mz
    have f1 := sumW_first (A := A) (v := fun i => atV p e (n + (i : Nat))) (F := fun i => B.getD (min (n + (i : Nat) - S0) (p.size - 1)).toNat 0) (g := am0 * s0) (c := c0) A.length (fun i hi => a0 i (by omega))
    have w1 := win_first (a := A) (b := B) (f := fun i => B.getD (min (n + (i : Nat) - S0) (p.size - 1)).toNat 0) (m := A.length) (s := 0) (g := 1) A.length (Nat.le_refl _) (fun i hi => by
      rw [Int.one_mul]
      show B.getD _ 0 = _
      congr 2
      omega)
    rw [f1, w1, Int.one_mul]
    have p1 := plc_great (a := A) (b := B) (s := 0) (mg := 0) (m := A.length) (by omega) (by omega) (by unfold cntM lastM; simp)
    have p2 : absI (pf A B A.length 0 A.length) ≤ plc A B 0 A.length := by
      unfold plc absI
      generalize ps A B A.length (A.length - A.length) = y
      omega
    generalize pf A B A.length 0 A.length = X at *
    generalize greatI A B 0 = G at *
    have nl := norm_le (a := am0 * s0 * X) (b := 0) d0 d0 d0b
    have ab := absI_sgn (x := X) g0 am
    have z0 : absI 0 = 0 := rfl
    rw [ab, z0] at nl
    have mm : am0 * absI X ≤ am0 * G := Int.mul_le_mul_of_nonneg_left (by omega) am
    have sq := sq_mono (x := am0 * absI X + 0) (y := am0 * G) (by have := Int.mul_nonneg am (absI_nonneg X); omega) (by omega)
    simp only [Int.zero_mul, Int.add_zero] at nl sq
    dsimp only
    omega
  · obtain ⟨k, hk⟩ : ∃ k, A.length = m + k := ⟨A.length - m, by omega⟩
    have hs : -1 ≤ S1 - S0 - p.size ∧ S1 - S0 - p.size ≤ 1 := by omega
    obtain ⟨F, hF⟩ : ∃ F : Nat → Int, F = fun i => if i < m then B.getD (min (n + (i : Nat) - S0) (p.size - 1)).toNat 0 else B.getD (i - m) 0 := ⟨_, rfl⟩
    have F1 : ∀ i, i < m → F i = B.getD (min (n + (i : Nat) - S0) (p.size - 1)).toNat 0 := fun i hi => by rw [hF]; exact if_pos hi
    have F2 : ∀ i, F (m + i) = B.getD i 0 := fun i => by
      rw [hF]
      show (if m + i < m then _ else B.getD (m + i - m) 0) = _
      rw [if_neg (by omega), show m + i - m = i by omega]
    have f1 := sumW_first (A := A) (v := fun i => atV p e (n + (i : Nat))) (F := F) (g := am0 * s0) (c := c0) m (fun i hi => by rw [F1 i hi]; exact a0 i (by omega))
    have f2 := sumW_rest (A := A) (v := fun i => atV p e (n + (i : Nat))) (F := F) (g := am0 * s1) (c := c1) (m := m) k (fun i hi => by
      have q := a1 (m + i) (by omega) (by omega)
      rw [F2 i]
      rw [show (min (n + ((m + i : Nat) : Int) - S1) (p.size - 1)).toNat = i by omega] at q
      exact q)
    have w1 := win_first (a := A) (b := B) (f := F) (m := m) (s := S1 - S0 - p.size) (g := 1) m (Nat.le_refl _) (fun i hi => by
      rw [Int.one_mul, F1 i hi]
      congr 2
      omega)
    have w2 := win_rest (a := A) (b := B) (f := F) (m := m) (g := 1) k (fun i hi => by rw [Int.one_mul, F2 i])
    rw [Int.one_mul] at w1 w2
    rw [← hk] at f2 w2
    rw [f2, f1, w2, w1]
    have p1 := plc_great (a := A) (b := B) (s := S1 - S0 - p.size) (mg := mg) (m := m) hs (by omega) (by
      unfold cntM lastM
      split
      · omega
      · omega)
    have p2 : absI (pf A B m (S1 - S0 - p.size) m) + absI (ps A B m k) ≤ plc A B (S1 - S0 - p.size) m := by
      unfold plc absI
      rw [show A.length - m = k by omega]
      omega
    generalize pf A B m (S1 - S0 - p.size) m = X at *
    generalize ps A B m k = Y at *
    generalize greatI A B mg = G at *
    have nl := norm_le (a := am0 * s0 * X) (b := am0 * s1 * Y) d0 d1 dd
    have ab := absI_sgn (x := X) g0 am
    have ab2 := absI_sgn (x := Y) g1 am
    rw [ab, ab2, ← Int.mul_add] at nl
    have mm : am0 * (absI X + absI Y) ≤ am0 * G := Int.mul_le_mul_of_nonneg_left (by omega) am
    have sq := sq_mono (Int.mul_nonneg am (by have := absI_nonneg X; have := absI_nonneg Y; omega)) mm
    dsimp only
    rw [show X + Y - X = Y by omega]
    omega
end Go.Ae

/- The statement on the bounds of windows, of layer 12. -/
set_option linter.unusedSimpArgs false
set_option linter.unusedVariables false
namespace Go.Ae
def plan5 (l : List Int) : PlanP := ⟨5, (planOf l).o, (planOf l).pb, (planOf l).w, (planOf l).mn, (planOf l).mx, (planOf l).nz, (planOf l).prns⟩
theorem plan5_nums (l : List Int) : (plan5 l).numsOk := by
  have h := planOf_nums l
  exact ⟨by show lenOk 5 = true; decide, h.2⟩
theorem plan5_64 (l : List Int) : (plan5 l).ok64 := by
  have h := planOf_64 l
  exact ⟨by unfold plan5 In64; simp, h.2⟩
theorem plan5_err (l : List Int) : (plan5 l).err = 0 := by
  have h6 := someOf_range (l := l) (i := 6) (n := 20) (by omega)
  have h7 := someOf_range (l := l) (i := 7) (n := 3) (by omega)
  have hn := plan5_nums l
  have hN : lenN (plan5 l).d = 31 := by show lenN 5 = 31; decide
  have hl : (plan5 l).prns.length = (someOf l 7 3 + 1).toNat := prnK_length _ _
  unfold PlanP.err
  rw [if_pos hn, if_neg (by omega), if_neg (by omega), hN]
  have := prnK_err 31 (1 + someOf l 6 20) (by omega) (someOf l 7 3 + 1).toNat 0 (by omega)
  have e : (plan5 l).prns = (List.range (someOf l 7 3 + 1).toNat).map fun i => (1 + someOf l 6 20) + 4 * ((0 + i : Nat) : Int) := by
    show prnK _ _ = _
    unfold prnK
    refine List.map_congr_left fun i _ => ?_
    rw [Nat.zero_add]
  rw [e]
  exact this
theorem atV_le {p : PlanP} {e : EmitP} (ok : EmOk p e) (n : Int) : -127000 ≤ (atV p e n).1 ∧ (atV p e n).1 ≤ 127000 ∧ -127000 ≤ (atV p e n).2 ∧ (atV p e n).2 ≤ 127000 := by
  have am := ok.en.2.2.1
  have pm := ok.pn.2.2.2.2
  have cp := chip_pm ok (ok.per n).1
  have bb := ok.bit (e.pl p n)
  have cl := carP_le (phI_u32 e.ph e.st (e.pl p n))
  have xb : -1000 ≤ e.amp * chipI p e (n - e.sta p (e.pl p n)) * (1 - 2 * bitI p e (e.pl p n)) ∧ e.amp * chipI p e (n - e.sta p (e.pl p n)) * (1 - 2 * bitI p e (e.pl p n)) ≤ 1000 := by
    rcases cp with c | c <;> rcases bb with b | b <;> rw [c, b] <;> omega
  have y1 := mul_le127 xb ⟨cl.1, cl.2.1⟩
  have y2 := mul_le127 xb ⟨cl.2.2.1, cl.2.2.2⟩
  unfold atV
  dsimp only
  omega
theorem sumW_le {A : List Int} {v : Nat → Int × Int} (hA : one1 A) (hv : ∀ i, -127000 ≤ (v i).1 ∧ (v i).1 ≤ 127000 ∧ -127000 ≤ (v i).2 ∧ (v i).2 ≤ 127000) : ∀ k : Nat, -(127000 * k) ≤ (sumW A v k).1 ∧ (sumW A v k).1 ≤ 127000 * k ∧ -(127000 * k) ≤ (sumW A v k).2 ∧ (sumW A v k).2 ≤ 127000 * k
  | 0 => by simp [sumW]
  | k + 1 => by
    have ih := sumW_le hA hv k
    have a := hA.get k
    have h := hv k
    have m1 : -127000 ≤ A.getD k 0 * (v k).1 ∧ A.getD k 0 * (v k).1 ≤ 127000 := by
      rcases (show A.getD k 0 = -1 ∨ A.getD k 0 = 0 ∨ A.getD k 0 = 1 by omega) with e | e | e <;> rw [e] <;> omega
    have m2 : -127000 ≤ A.getD k 0 * (v k).2 ∧ A.getD k 0 * (v k).2 ≤ 127000 := by
      rcases (show A.getD k 0 = -1 ∨ A.getD k 0 = 0 ∨ A.getD k 0 = 1 by omega) with e | e | e <;> rw [e] <;> omega
    rw [sumW]
    dsimp only
    omega
theorem pow_eq (g a : Int) : 16384 * ((a * g) * (a * g)) = g * g * 128 * 128 * a * a := by grind
theorem pow_rng {g a : Int} (hg : 0 ≤ g ∧ g ≤ 248) (ha : 0 ≤ a ∧ a ≤ 1000) : (0 ≤ g * g ∧ g * g ≤ 61504) ∧ (0 ≤ g * g * 128 * 128 * a ∧ g * g * 128 * 128 * a ≤ 1007681536000) ∧ (0 ≤ g * g * 128 * 128 * a * a ∧ g * g * 128 * 128 * a * a ≤ 1007681536000000) := by
  have a1 : 0 ≤ g * g := Int.mul_nonneg hg.1 hg.1
  have a2 : g * g ≤ 248 * 248 := Int.mul_le_mul hg.2 hg.2 hg.1 (by omega)
  generalize g * g = y at *
  have b1 : 0 ≤ y * 128 * 128 * a := Int.mul_nonneg (by omega) ha.1
  have b2 : y * 128 * 128 * a ≤ 1007681536 * 1000 := Int.mul_le_mul (by omega) ha.2 ha.1 (by omega)
  generalize y * 128 * 128 * a = z at *
  have c1 : 0 ≤ z * a := Int.mul_nonneg (by omega) ha.1
  have c2 : z * a ≤ 1007681536000 * 1000 := Int.mul_le_mul (by omega) ha.2 ha.1 (by omega)
  omega
theorem sq_rng {x : Int} (h : -31496000 ≤ x ∧ x ≤ 31496000) : 0 ≤ x * x ∧ x * x ≤ 991998016000000 := by
  rcases Int.le_total 0 x with c | c
  · exact ⟨Int.mul_nonneg c c, Int.mul_le_mul h.2 h.2 c (by omega)⟩
  · have e : x * x = -x * -x := by grind
    rw [e]
    exact ⟨Int.mul_nonneg (by omega) (by omega), Int.mul_le_mul (by omega : -x ≤ 31496000) (by omega : -x ≤ 31496000) (by omega) (by omega)⟩
section
variable {C : Ctx}
set_option maxHeartbeats 8000000 in
set_option maxRecDepth 20000 in
theorem SignalBounds_law (hC : Has C T216) {vl vm : AV} {l m : List Int} {w0 n0 : Int} {h : Heap} (hl : RI h vl l) (hm : RI h vm m) (hw0 : In64 w0) (hn0 : In64 n0) (hx : ∀ x ∈ l, In64 x) (hy : ∀ x ∈ m, In64 x) :
    ACalls C 216 [vl, vm, .int .i64 w0, .int .i64 n0] h (fun r _ => r = .bool true) := by
  have hlt := hl.lt
  have hmt := hm.lt
  have kn := fun h => known212_spec (hC.sub (T' := T212) (by decide)) (h := h)
  by_cases c0 : 20 < l.length ∨ 20 < m.length
  · (refine calls_intro (hC.body (by decide) tab216) (Nat.le_of_ble_eq_true rfl) ?_); (show wp C _ none B216.code _ _); (simp only [B216]); simp -implicitDefEqProofs (disch := first | assumption | decide | omega | (simp only [wpD1] <;> omega) | (simp only [wpD2] <;> assumption) | solve_by_elim [HSub.refl, HSub.push, HSub.reserve] | fail) only [↓wpPre, wpPost, wpPoly, Int.reduceToNat, Int.reducePow, Int.reduceMul, Int.reduceAdd, Int.reduceSub, Int.reduceNeg, Nat.reduceAdd, Nat.reduceMul, Nat.reducePow, Int.reduceLT, Int.reduceLE, Int.reduceEq, Nat.reduceEqDiff]
    refine ACallsK.eq (kn _) ?_
    (repeat' (first | (refine Br.by (fun _ => ?_) (fun _ => ?_)) | (simp -implicitDefEqProofs (disch := first | assumption | decide | omega | (simp only [wpD1] <;> omega) | (simp only [wpD2] <;> assumption) | solve_by_elim [HSub.refl, HSub.push, HSub.reserve] | fail) only [↓wpPre, wpPost, wpPoly, Int.reduceToNat, Int.reducePow, Int.reduceMul, Int.reduceAdd, Int.reduceSub, Int.reduceNeg, Nat.reduceAdd, Nat.reduceMul, Nat.reducePow, Int.reduceLT, Int.reduceLE, Int.reduceEq, Nat.reduceEqDiff, hl.len, hm.len, gV_u])))
    all_goals (exfalso; omega)
  have kP := PlanOf_spec (hC.sub (T' := T235) (by decide)) hl hx
  have pn := plan5_nums l
  have pz := plan5_err l
  have p64 := plan5_64 l
  have pl0 : 0 < (plan5 l).prns.length := by
    have h7 := someOf_range (l := l) (i := 7) (n := 3) (by omega)
    show 0 < (prnK _ _).length
    rw [prnK_length]; omega
  have pll : (plan5 l).prns.length ≤ 4 := by
    have h7 := someOf_range (l := l) (i := 7) (n := 3) (by omega)
    show (prnK _ _).length ≤ 4
    rw [prnK_length]; omega
  have kE := fun w h1 (q : HSub h h1) (hp : PlI h1 w (plan5 l)) => EmitterOf_spec (hC.sub (T' := T236) (by decide)) hp pn pl0 p64 (hm.mono q) hy
  have e64 := emitOf_64 (l := m) pn p64 pl0
  have ez := emitOf_err (l := m) pz
  have d5 : (plan5 l).d = 5 := rfl
  have q0 : (planOf l).prns = (plan5 l).prns := rfl
  have eP : planOf l = ⟨(planOf l).d, (plan5 l).o, (plan5 l).pb, (plan5 l).w, (plan5 l).mn, (plan5 l).mx, (plan5 l).nz, (plan5 l).prns⟩ := rfl
  rw [eP] at kP
  generalize (planOf l).d = d0 at *
  clear q0 eP
  generalize plan5 l = p at *
  have ok := emit_ok ez
  generalize emitOf p m = e at *
  have sz := size_range pn
  have hN : lenN p.d = 31 := by rw [d5]; decide
  have po := pn.2.1
  obtain ⟨o, eo⟩ := Int.eq_ofNat_of_zero_le (show 0 ≤ p.o by omega)
  have eoN : p.o.toNat = o := by omega
  have szo : p.size = ((31 * o : Nat) : Int) := by rw [sz.2.2, hN, eoN]
  have pS : ∀ x ∈ p.prns, 1 ≤ x ∧ x ≤ 33 := by
    have z : prnsErr (lenN p.d) [] p.prns = 0 := by
      unfold PlanP.err at pz
      rw [if_pos pn] at pz
      split at pz
      · omega
      · split at pz
        · omega
        · exact pz
    have := prns_ok _ _ _ z
    rw [hN] at this
    exact this
  obtain ⟨wi, ew, hw⟩ := turnN (x := w0) (n := p.prns.length) pl0
  have hq := pS _ (getD_mem (i := wi) hw)
  have he := ok.prn
  rw [hN] at he
  obtain ⟨n, hn⟩ : ∃ n, n = n0 % 10001 - 5000 := ⟨_, rfl⟩
  have hnr : -5000 ≤ n ∧ n ≤ 5001 := by omega
  have TW := fun h1 => Turn_spec (h := h1) (x := w0) (n := (p.prns.length : Int)) (hC.sub (T' := T23) (by decide)) hw0 (by omega)
  rw [ew] at TW
  have TN := fun h1 => Turn_spec (h := h1) (x := n0) (n := 10001) (hC.sub (T' := T23) (by decide)) hn0 (by omega)
  have x33 : lenOk 5 = true ∧ lenN 5 = 31 := by decide
  have ke : knownErr 5 p.o = 0 := by unfold knownErr; rw [if_pos ⟨x33.1, by omega⟩]
  obtain ⟨q, hqd⟩ : ∃ q, q = p.prns.getD wi 0 := ⟨_, rfl⟩
  rw [← hqd] at hq
  have cq : codeErr 5 q = 0 := by unfold codeErr; rw [if_pos ⟨x33.1, by omega, by omega⟩]
  have ce : codeErr 5 e.prn = 0 := by unfold codeErr; rw [if_pos ⟨x33.1, by omega, by omega⟩]
  have x1 : sampErr 5 p.o [q] = 0 := by unfold sampErr; rw [if_pos ⟨ke, by simp [cq]⟩]
  have x3 : sampErr 5 p.o [q, e.prn] = 0 := by unfold sampErr; rw [if_pos ⟨ke, by simp [cq, ce]⟩]
  have i5 : In64 5 := by unfold In64; omega
  have io : In64 p.o := by unfold In64; omega
  have iq : In64 q := by unfold In64; omega
  have ie : In64 e.prn := by unfold In64; omega
  have S1 := fun h => SamplesC_spec (hC.sub (T' := T131) (by decide)) (h := h) i5 io iq
  have k1 := fun h => Side_spec (hC.sub (T' := T175) (by decide)) (h := h) i5 io iq
  have k2 := fun h => Cross_spec (hC.sub (T' := T173) (by decide)) (h := h) i5 io iq ie
  have v1 : sideE 5 p.o q = tup2 (greatI (sampL 5 q p.o.toNat) (sampL 5 q p.o.toNat) p.o.toNat) 0 := by unfold sideE; rw [if_pos x1]
  have v2 : crossE 5 p.o q e.prn = tup2 (greatI (sampL 5 q p.o.toNat) (sampL 5 e.prn p.o.toNat) 0) 0 := by unfold crossE; rw [if_pos x3]
  simp only [v1] at k1
  simp only [v2] at k2
  simp only [x1, if_pos] at S1
  have lA : (sampL 5 q p.o.toNat).length = 31 * o := by rw [sampL_length, x33.2, eoN]
  have oA := sampL_one1 5 q p.o.toNat
  have oB := sampL_one1 5 e.prn p.o.toNat
  have W := fun mg ho => sig_window ok (A := sampL 5 q p.o.toNat) (by rw [lA, szo]) n mg ho
  rw [d5] at W
  have rS := rowG_le oA oA p.o.toNat 3 (by omega)
  have rC := rowG_le oA oB 0 3 (by omega)
  rw [rowG_three] at rS rC
  have eAB : q = e.prn → sampL 5 q p.o.toNat = sampL 5 e.prn p.o.toNat := fun x => by rw [x]
  generalize sampL 5 q p.o.toNat = A at *
  generalize sampL 5 e.prn p.o.toNat = B at *
  have plb := ok.plb2 (n := n) (by omega)
  have per := ok.per n
  have plt : n < e.sta p (e.pl p n + 1) := pl_lt (dl := e.dl) (n := n) ok.den
  have stb := ok.stb (k := e.pl p n + 1) (by omega)
  have sr1 : -200000000000 ≤ e.sta p (e.pl p n + 1) ∧ e.sta p (e.pl p n + 1) ≤ 200000000000 := ⟨stb.1, stb.2.1⟩
  clear stb
  have sw := sumW_le (A := A) (v := fun i => atV p e (n + (i : Nat))) oA (fun i => atV_le ok _)
  have avl := fun i : Nat => atV_le ok (n + (i : Nat))
  have am := ok.en.2.2.1
  have pm := pn.2.2.2.2
  have yA := fun (i : Nat) (hi : i < 31 * o) v w h1 (hp : PlI h1 v p) (he : EmI h1 w e) => At_spec (hC.sub (T' := T229) (by decide)) (n := n + (i : Nat)) hp he p64 e64 (by unfold In64; omega)
  have xA : ∀ i : Nat, i < 31 * o → atE p e (n + (i : Nat)) = .tuple [smp (atV p e (n + (i : Nat))), .int .i64 0] := fun i hi => by unfold atE; rw [if_pos (made_zero ez (by omega))]
  have yP := fun v w h1 (hp : PlI h1 v p) (he : EmI h1 w e) => Place_spec (hC.sub (T' := T225) (by decide)) (n := n) hp he p64 e64 (by unfold In64; omega)
  have yS := fun (k : Int) (hk : -1000000 ≤ k ∧ k ≤ 1000000) v w h1 (hp : PlI h1 v p) (he : EmI h1 w e) => Start_spec (hC.sub (T' := T221) (by decide)) (n := k) hp he p64 e64 (by unfold In64; omega)
  have xP : placeE p e n = tupI3 (e.pl p n) (n - e.sta p (e.pl p n)) 0 := by unfold placeE; rw [if_pos (made_zero ez (by omega))]
  have xS : ∀ k, -1000000 ≤ k ∧ k ≤ 1000000 → startE p e k = tup2 (e.sta p k) 0 := fun k hk => by unfold startE; rw [if_pos (made_zero ez (by omega))]
  simp only [xP] at yP
  have yS1 := yS (e.pl p n) (by omega)
  have yS2 := yS (e.pl p n + 1) (by omega)
  simp only [xS (e.pl p n) (by omega)] at yS1
  simp only [xS (e.pl p n + 1) (by omega)] at yS2
  obtain ⟨V, hV⟩ : ∃ V : Nat → Int × Int, V = fun i => atV p e (n + (i : Nat)) := ⟨_, rfl⟩
  have eV : ∀ i : Nat, atV p e (n + (i : Nat)) = V i := fun i => by rw [hV]
  simp only [← hV] at W sw
  simp only [eV] at xA avl
  generalize e.pl p n = K at *
  generalize e.sta p (K + 1) = T1 at *
  generalize e.sta p K = T0 at *
  (refine calls_intro (hC.body (by decide) tab216) (Nat.le_of_ble_eq_true rfl) ?_); (show wp C _ none B216.code _ _); (simp only [B216]); simp -implicitDefEqProofs (disch := first | assumption | decide | omega | (simp only [wpD1] <;> omega) | (simp only [wpD2] <;> assumption) | solve_by_elim [HSub.refl, HSub.push, HSub.reserve] | fail) only [↓wpPre, wpPost, wpPoly, Int.reduceToNat, Int.reducePow, Int.reduceMul, Int.reduceAdd, Int.reduceSub, Int.reduceNeg, Nat.reduceAdd, Nat.reduceMul, Nat.reducePow, Int.reduceLT, Int.reduceLE, Int.reduceEq, Nat.reduceEqDiff]
  refine ACallsK.eq (kn _) ?_
  simp -implicitDefEqProofs (disch := first | assumption | decide | omega | (simp only [wpD1] <;> omega) | (simp only [wpD2] <;> assumption) | solve_by_elim [HSub.refl, HSub.push, HSub.reserve] | fail) only [↓wpPre, wpPost, wpPoly, Int.reduceToNat, Int.reducePow, Int.reduceMul, Int.reduceAdd, Int.reduceSub, Int.reduceNeg, Nat.reduceAdd, Nat.reduceMul, Nat.reducePow, Int.reduceLT, Int.reduceLE, Int.reduceEq, Nat.reduceEqDiff, hl.len, hm.len, gV_u]
  refine ACallsK.of kP ?_
  rintro w1 h1 ⟨s1, vp, rfl, R⟩
  have v1 := R.one
  simp -implicitDefEqProofs (disch := first | assumption | decide | omega | (simp only [wpD1] <;> omega) | (simp only [wpD2] <;> assumption) | solve_by_elim [HSub.refl, HSub.push, HSub.reserve] | fail) only [↓wpPre, wpPost, wpPoly, Int.reduceToNat, Int.reducePow, Int.reduceMul, Int.reduceAdd, Int.reduceSub, Int.reduceNeg, Nat.reduceAdd, Nat.reduceMul, Nat.reducePow, Int.reduceLT, Int.reduceLE, Int.reduceEq, Nat.reduceEqDiff]
  refine ACallsK.of (kE _ _ (s1.push _) ⟨vp, by rw [d5], R.mono (HSub.push1 _ _)⟩) ?_
  rintro w2 h2 ⟨s2, vb, rfl, Bb⟩
  have b1 := Bb.one
  have gp : h2.get h1.size = some (.cells [.int .i64 5, .int .i64 p.o, .int .i64 p.pb, .int .i64 p.w, .int .i64 p.mn, .int .i64 p.mx, .int .i64 p.nz, vp] true 0) := (s2.get _ (by simp)).trans (get_push_eq rfl)
  have hz : h1.size < h2.size := by have := s2.size; simp only [Heap.size_push] at this; omega
  have R2 := R.mono ((HSub.push1 _ _).trans s2)
  have PP : ∀ H, HSub h2 H → PlI H (.agg [.int .i64 5, .int .i64 p.o, .int .i64 p.pb, .int .i64 p.w, .int .i64 p.mn, .int .i64 p.mx, .int .i64 p.nz, vp]) p := fun H q => ⟨vp, by rw [d5], R2.mono q⟩
  have EE : ∀ H, HSub h2 H → EmI H (.agg [.int .i64 e.prn, .int .i64 e.dl, .int .i64 e.rt, .int .u32 e.st, .int .u32 e.ph, .int .i64 e.amp, .int .i64 e.ba, vb]) e := fun H q => ⟨vb, rfl, Bb.mono q⟩
  have zP := fun H (q : HSub h2 H) => yP _ _ H (PP H q) (EE H q)
  have zS1 := fun H (q : HSub h2 H) => yS1 _ _ H (PP H q) (EE H q)
  have zS2 := fun H (q : HSub h2 H) => yS2 _ _ H (PP H q) (EE H q)
  have zA := fun (i : Nat) (hi : i < 31 * o) H (q : HSub h2 H) => yA i hi _ _ H (PP H q) (EE H q)
  have zA := fun (i : Nat) (hi : i < 31 * o) H (q : HSub h2 H) => (xA i hi) ▸ zA i hi H q
  simp -implicitDefEqProofs (disch := first | assumption | decide | omega | (simp only [wpD1] <;> omega) | (simp only [wpD2] <;> assumption) | solve_by_elim [HSub.refl, HSub.push, HSub.reserve] | fail) only [↓wpPre, wpPost, wpPoly, Int.reduceToNat, Int.reducePow, Int.reduceMul, Int.reduceAdd, Int.reduceSub, Int.reduceNeg, Nat.reduceAdd, Nat.reduceMul, Nat.reducePow, Int.reduceLT, Int.reduceLE, Int.reduceEq, Nat.reduceEqDiff]
  simp -implicitDefEqProofs (disch := first | assumption | decide | omega | (simp only [wpD1] <;> omega) | (simp only [wpD2] <;> assumption) | solve_by_elim [HSub.refl, HSub.push, HSub.reserve] | fail) only [↓wpPre, wpPost, wpPoly, Int.reduceToNat, Int.reducePow, Int.reduceMul, Int.reduceAdd, Int.reduceSub, Int.reduceNeg, Nat.reduceAdd, Nat.reduceMul, Nat.reducePow, Int.reduceLT, Int.reduceLE, Int.reduceEq, Nat.reduceEqDiff, gp, R2.len, R2.idx, R2.loadC]
  refine ACallsK.eq (TW _) ?_
  simp -implicitDefEqProofs (disch := first | assumption | decide | omega | (simp only [wpD1] <;> omega) | (simp only [wpD2] <;> assumption) | solve_by_elim [HSub.refl, HSub.push, HSub.reserve] | fail) only [↓wpPre, wpPost, wpPoly, Int.reduceToNat, Int.reducePow, Int.reduceMul, Int.reduceAdd, Int.reduceSub, Int.reduceNeg, Nat.reduceAdd, Nat.reduceMul, Nat.reducePow, Int.reduceLT, Int.reduceLE, Int.reduceEq, Nat.reduceEqDiff, gp, R2.len, R2.idx, R2.loadC, ← hqd]
  refine ACallsK.eq (TN _) ?_
  simp -implicitDefEqProofs (disch := first | assumption | decide | omega | (simp only [wpD1] <;> omega) | (simp only [wpD2] <;> assumption) | solve_by_elim [HSub.refl, HSub.push, HSub.reserve] | fail) only [↓wpPre, wpPost, wpPoly, Int.reduceToNat, Int.reducePow, Int.reduceMul, Int.reduceAdd, Int.reduceSub, Int.reduceNeg, Nat.reduceAdd, Nat.reduceMul, Nat.reducePow, Int.reduceLT, Int.reduceLE, Int.reduceEq, Nat.reduceEqDiff, ← hn, gp]
  refine ACallsK.of (S1 _) ?_
  rintro r3 h3 ⟨vA, rfl, s3, rA⟩
  have gp3 : h3.get h1.size = some (.cells [.int .i64 5, .int .i64 p.o, .int .i64 p.pb, .int .i64 p.w, .int .i64 p.mn, .int .i64 p.mx, .int .i64 p.nz, vp] true 0) := (s3.get _ (by simp; omega)).trans ((get_push_lt hz).trans gp)
  have ge3 : h3.get h2.size = some (.cells [.int .i64 e.prn, .int .i64 e.dl, .int .i64 e.rt, .int .u32 e.st, .int .u32 e.ph, .int .i64 e.amp, .int .i64 e.ba, vb] true 0) := (s3.get _ (by simp)).trans (get_push_eq rfl)
  have hz3 : h2.size < h3.size := by have := s3.size; simp only [Heap.size_push] at this; omega
  have s23 : HSub h2 h3 := (HSub.push1 _ _).trans s3
  simp -implicitDefEqProofs (disch := first | assumption | decide | omega | (simp only [wpD1] <;> omega) | (simp only [wpD2] <;> assumption) | solve_by_elim [HSub.refl, HSub.push, HSub.reserve] | fail) only [↓wpPre, wpPost, wpPoly, Int.reduceToNat, Int.reducePow, Int.reduceMul, Int.reduceAdd, Int.reduceSub, Int.reduceNeg, Nat.reduceAdd, Nat.reduceMul, Nat.reducePow, Int.reduceLT, Int.reduceLE, Int.reduceEq, Nat.reduceEqDiff, lstErr, gp3, rA.len, lA]
  refine wp_loopI (fun j t h' => ∃ i : Nat, t 3 = .int .i64 n ∧ t 9 = .bool true ∧ t 10 = .ptr h1.size 0 ∧ t 11 = .ptr h2.size 0 ∧ t 12 = .int .i64 q ∧ t 13 = vA ∧ t 15 = .int .i64 (31 * p.o) ∧ t 16 = .ptr h3.size 0 ∧ t 17 = .int .i64 (i : Nat) ∧ HSub h3 h' ∧ h3.size < h'.size ∧ h'.get h3.size = some (.cells [.int .i64 (sumW A V i).1, .int .i64 (sumW A V i).2] true 0) ∧ i ≤ 31 * o ∧ j = 31 * o - i) (j0 := 31 * o)
    ⟨0, rfl, rfl, rfl, rfl, rfl, rfl, rfl, rfl, rfl, HSub.push1 _ _, by simp, get_push_eq rfl, by omega, rfl⟩ ?_
  rintro j t H ⟨i, e3, e9, e10, e11, e12, e13, e15, e16, e17, sH, zH, gH, hi, hj⟩
  have gpH := (sH.get _ (by omega)).trans gp3
  have geH := (sH.get _ hz3).trans ge3
  simp -implicitDefEqProofs (disch := first | assumption | decide | omega | (simp only [wpD1] <;> omega) | (simp only [wpD2] <;> assumption) | solve_by_elim [HSub.refl, HSub.push, HSub.reserve] | fail) only [↓wpPre, wpPost, wpPoly, Int.reduceToNat, Int.reducePow, Int.reduceMul, Int.reduceAdd, Int.reduceSub, Int.reduceNeg, Nat.reduceAdd, Nat.reduceMul, Nat.reducePow, Int.reduceLT, Int.reduceLE, Int.reduceEq, Nat.reduceEqDiff, e15, e17]
  refine Br.by (fun c => ?_) (fun c => ?_)
  · have hi' : i < 31 * o := by omega
    have rAH := rA.mono sH
    have av := avl i
    have aA := oA.get i
    have sw0 := sw i
    have sw1 := sw (i + 1)
    have m1 : -127000 ≤ A.getD i 0 * (V i).1 ∧ A.getD i 0 * (V i).1 ≤ 127000 := by
      rcases (show A.getD i 0 = -1 ∨ A.getD i 0 = 0 ∨ A.getD i 0 = 1 by omega) with e | e | e <;> rw [e] <;> omega
    have m2 : -127000 ≤ A.getD i 0 * (V i).2 ∧ A.getD i 0 * (V i).2 ≤ 127000 := by
      rcases (show A.getD i 0 = -1 ∨ A.getD i 0 = 0 ∨ A.getD i 0 = 1 by omega) with e | e | e <;> rw [e] <;> omega
    have es : sumW A V (i + 1) = ((sumW A V i).1 + A.getD i 0 * (V i).1, (sumW A V i).2 + A.getD i 0 * (V i).2) := rfl
    rw [es] at sw1
    dsimp only at sw1
    have zi := zA i hi' H (s23.trans sH)
    unfold smp at zi
    simp -implicitDefEqProofs (disch := first | assumption | decide | omega | (simp only [wpD1] <;> omega) | (simp only [wpD2] <;> assumption) | solve_by_elim [HSub.refl, HSub.push, HSub.reserve] | fail) only [↓wpPre, wpPost, wpPoly, Int.reduceToNat, Int.reducePow, Int.reduceMul, Int.reduceAdd, Int.reduceSub, Int.reduceNeg, Nat.reduceAdd, Nat.reduceMul, Nat.reducePow, Int.reduceLT, Int.reduceLE, Int.reduceEq, Nat.reduceEqDiff, e3, e10, e11, gpH, geH, e17]
    refine ACallsK.eq zi ?_
    simp -implicitDefEqProofs (disch := first | assumption | decide | omega | (simp only [wpD1] <;> omega) | (simp only [wpD2] <;> assumption) | solve_by_elim [HSub.refl, HSub.push, HSub.reserve] | fail) only [↓wpPre, wpPost, wpPoly, Int.reduceToNat, Int.reducePow, Int.reduceMul, Int.reduceAdd, Int.reduceSub, Int.reduceNeg, Nat.reduceAdd, Nat.reduceMul, Nat.reducePow, Int.reduceLT, Int.reduceLE, Int.reduceEq, Nat.reduceEqDiff, e13, e16, e17, rAH.idx, rAH.loadC, gH]
    refine ⟨31 * o - (i + 1), ⟨i + 1, e3, e9, e10, e11, e12, e15, by omega, (by repeat (first | exact sH | refine HSub.put ?_ (by (try simp only [Heap.size_put, Heap.size_push, Heap.size_reserve]); omega) _ | refine HSub.push ?_ _ | refine HSub.reserve ?_ _)), by omega, by rw [es], by omega, rfl⟩, by omega⟩
  · have ei : i = 31 * o := by omega
    subst ei
    rw [lA] at W
    have w0 := W 0 (.inl rfl)
    have wS := fun x => W o (.inr x)
    have sS := sw (31 * o)
    generalize sumW A V (31 * o) = S at *
    have q1 := sq_rng (x := S.1) (by omega)
    have q2 := sq_rng (x := S.2) (by omega)
    rw [pow_eq] at w0
    simp only [pow_eq] at wS
    rw [eoN] at rS
    have xg := fun c => eAB c
    have p1 := pow_rng (g := greatI A B 0) (a := e.amp) (by omega) (by omega)
    have p2 := pow_rng (g := greatI A A o) (a := e.amp) (by omega) (by omega)
    simp -implicitDefEqProofs (disch := first | assumption | decide | omega | (simp only [wpD1] <;> omega) | (simp only [wpD2] <;> assumption) | solve_by_elim [HSub.refl, HSub.push, HSub.reserve] | fail) only [↓wpPre, wpPost, wpPoly, Int.reduceToNat, Int.reducePow, Int.reduceMul, Int.reduceAdd, Int.reduceSub, Int.reduceNeg, Nat.reduceAdd, Nat.reduceMul, Nat.reducePow, Int.reduceLT, Int.reduceLE, Int.reduceEq, Nat.reduceEqDiff, e16, gH, gpH, geH, e10, e11, e12]
    refine ACallsK.of (k2 _) ?_
    rintro r4 h4 ⟨rfl, s4⟩
    have gp4 := (s4.get _ (by omega)).trans gpH
    have ge4 := (s4.get _ (by omega)).trans geH
    simp -implicitDefEqProofs (disch := first | assumption | decide | omega | (simp only [wpD1] <;> omega) | (simp only [wpD2] <;> assumption) | solve_by_elim [HSub.refl, HSub.push, HSub.reserve] | fail) only [↓wpPre, wpPost, wpPoly, Int.reduceToNat, Int.reducePow, Int.reduceMul, Int.reduceAdd, Int.reduceSub, Int.reduceNeg, Nat.reduceAdd, Nat.reduceMul, Nat.reducePow, Int.reduceLT, Int.reduceLE, Int.reduceEq, Nat.reduceEqDiff, tup2, gp4, e10, e12]
    refine ACallsK.of (k1 _) ?_
    rintro r5 h5 ⟨rfl, s5⟩
    have z4 := s4.size
    have gp5 := (s5.get _ (by omega)).trans gp4
    have ge5 := (s5.get _ (by omega)).trans ge4
    have s25 := (s23.trans sH).trans (s4.trans s5)
    have fin : q = e.prn → ¬ (n - T0 < p.o) → ¬ (T1 - n < p.o) → S.1 * S.1 + S.2 * S.2 ≤ greatI A A o * greatI A A o * 128 * 128 * e.amp * e.amp := by
      intro f1 f2 f3
      have w := wS ⟨by omega, by omega, by omega⟩
      rw [← eAB f1] at w
      exact w
    simp -implicitDefEqProofs (disch := first | assumption | decide | omega | (simp only [wpD1] <;> omega) | (simp only [wpD2] <;> assumption) | solve_by_elim [HSub.refl, HSub.push, HSub.reserve] | fail) only [↓wpPre, wpPost, wpPoly, Int.reduceToNat, Int.reducePow, Int.reduceMul, Int.reduceAdd, Int.reduceSub, Int.reduceNeg, Nat.reduceAdd, Nat.reduceMul, Nat.reducePow, Int.reduceLT, Int.reduceLE, Int.reduceEq, Nat.reduceEqDiff, tup2, gp5, ge5, e3, e10, e11, e12, eoN]
    refine ACallsK.eq (zP _ (by repeat (first | exact s25 | refine HSub.put ?_ (by (try simp only [Heap.size_put, Heap.size_push, Heap.size_reserve]); omega) _ | refine HSub.push ?_ _ | refine HSub.reserve ?_ _))) ?_
    simp -implicitDefEqProofs (disch := first | assumption | decide | omega | (simp only [wpD1] <;> omega) | (simp only [wpD2] <;> assumption) | solve_by_elim [HSub.refl, HSub.push, HSub.reserve] | fail) only [↓wpPre, wpPost, wpPoly, Int.reduceToNat, Int.reducePow, Int.reduceMul, Int.reduceAdd, Int.reduceSub, Int.reduceNeg, Nat.reduceAdd, Nat.reduceMul, Nat.reducePow, Int.reduceLT, Int.reduceLE, Int.reduceEq, Nat.reduceEqDiff, tupI3, gp5, ge5, e3, e10, e11, e12]
    refine ACallsK.eq (zS1 _ (by repeat (first | exact s25 | refine HSub.put ?_ (by (try simp only [Heap.size_put, Heap.size_push, Heap.size_reserve]); omega) _ | refine HSub.push ?_ _ | refine HSub.reserve ?_ _))) ?_
    simp -implicitDefEqProofs (disch := first | assumption | decide | omega | (simp only [wpD1] <;> omega) | (simp only [wpD2] <;> assumption) | solve_by_elim [HSub.refl, HSub.push, HSub.reserve] | fail) only [↓wpPre, wpPost, wpPoly, Int.reduceToNat, Int.reducePow, Int.reduceMul, Int.reduceAdd, Int.reduceSub, Int.reduceNeg, Nat.reduceAdd, Nat.reduceMul, Nat.reducePow, Int.reduceLT, Int.reduceLE, Int.reduceEq, Nat.reduceEqDiff, tup2, gp5, ge5, e3, e10, e11, e12]
    refine ACallsK.eq (zS2 _ (by repeat (first | exact s25 | refine HSub.put ?_ (by (try simp only [Heap.size_put, Heap.size_push, Heap.size_reserve]); omega) _ | refine HSub.push ?_ _ | refine HSub.reserve ?_ _))) ?_
    simp -implicitDefEqProofs (disch := first | assumption | decide | omega | (simp only [wpD1] <;> omega) | (simp only [wpD2] <;> assumption) | solve_by_elim [HSub.refl, HSub.push, HSub.reserve] | fail) only [↓wpPre, wpPost, wpPoly, Int.reduceToNat, Int.reducePow, Int.reduceMul, Int.reduceAdd, Int.reduceSub, Int.reduceNeg, Nat.reduceAdd, Nat.reduceMul, Nat.reducePow, Int.reduceLT, Int.reduceLE, Int.reduceEq, Nat.reduceEqDiff, tup2, gp5, ge5, e3, e9, e10, e11, e12]
    have w1 : ¬ greatI A B 0 * greatI A B 0 * 128 * 128 * e.amp * e.amp < S.1 * S.1 + S.2 * S.2 := by omega
    refine Br.by (fun c1 => ?_) (fun c1 => ?_)
    · (repeat' (first | (refine Br.by (fun _ => ?_) (fun _ => ?_)) | (simp -implicitDefEqProofs (disch := first | assumption | decide | omega | (simp only [wpD1] <;> omega) | (simp only [wpD2] <;> assumption) | solve_by_elim [HSub.refl, HSub.push, HSub.reserve] | fail) only [↓wpPre, wpPost, wpPoly, Int.reduceToNat, Int.reducePow, Int.reduceMul, Int.reduceAdd, Int.reduceSub, Int.reduceNeg, Nat.reduceAdd, Nat.reduceMul, Nat.reducePow, Int.reduceLT, Int.reduceLE, Int.reduceEq, Nat.reduceEqDiff, e9, e11, ge5, e12, w1])))
    · (repeat' (first | (refine Br.by (fun _ => ?_) (fun _ => ?_)) | (simp -implicitDefEqProofs (disch := first | assumption | decide | omega | (simp only [wpD1] <;> omega) | (simp only [wpD2] <;> assumption) | solve_by_elim [HSub.refl, HSub.push, HSub.reserve] | fail) only [↓wpPre, wpPost, wpPoly, Int.reduceToNat, Int.reducePow, Int.reduceMul, Int.reduceAdd, Int.reduceSub, Int.reduceNeg, Nat.reduceAdd, Nat.reduceMul, Nat.reducePow, Int.reduceLT, Int.reduceLE, Int.reduceEq, Nat.reduceEqDiff, e3, e9, e10, gp5, e11, ge5, e12, w1, gV_u])))
      have := fin (by first | assumption | omega | simp_all) (by omega) (by omega)
      rw [decide_eq_true this]
end
end Go.Ae
