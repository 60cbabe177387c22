/- Texts of the proof, part 12: a second reading of the lowered code, proved sound, and what the functions compute. -/
import Derived.Sort.Row
import Derived.Sort.Grow
import Derived.Test.YtcppfihmflofcaaS11
/- Go's sort of a list of numbers, as the library's contract tells it. -/
set_option linter.unusedSimpArgs false
set_option linter.unusedVariables false
namespace Go.Ae
open Go.Sort
end Go.Ae
/- Circular sums of the reference of layer 9. -/
set_option linter.unusedSimpArgs false
set_option linter.unusedVariables false
namespace Go.Ae
def cs (a b : List Int) (k : Nat) : Nat → Int
 | 0 => 0
 | i + 1 => cs a b k i + a.getD i 0 * b.getD ((i + k) % b.length) 0
section
variable {C : Ctx}
end
end Go.Ae
/- Circular of the references. -/
set_option linter.unusedSimpArgs false
set_option linter.unusedVariables false
namespace Go.Ae
section
variable {C : Ctx}
end
end Go.Ae
/- Circular of the program's package cross. -/
set_option linter.unusedSimpArgs false
set_option linter.unusedVariables false
namespace Go.Ae
section
variable {C : Ctx}
end
end Go.Ae
/- Spectra, in plain numbers: how often the circular sums occur. -/
set_option linter.unusedSimpArgs false
set_option linter.unusedVariables false
namespace Go.Ae
end Go.Ae
/- Counting behind sorting is counting by values. -/
set_option linter.unusedSimpArgs false
set_option linter.unusedVariables false
namespace Go.Ae
end Go.Ae
/- Parts of placements, of the program and of the reference. -/
set_option linter.unusedSimpArgs false
set_option linter.unusedVariables false
namespace Go.Ae
section
variable {C : Ctx}
theorem chip_spec (hC : Has C T154) {w : AV} {l : List Int} {o i : Int} {h : Heap} (hl : RI h w l) (hi : 0 ≤ i) (h1 : 1 ≤ l.length) (hi2 : i ≤ 1000000000) : ACalls C 154 [.agg [w, .int .i64 o], .int .i64 i] h (fun r h' => r = .int .i64 (l.getD (min i ((l.length : Int) - 1)).toNat 0) ∧ h' = h) := by
 refine ACalls.gc0 (P := fun r h' => r = .int .i64 (l.getD (min i ((l.length : Int) - 1)).toNat 0) ∧ HSub h h') ?_ (fun r h' hp => ⟨by rw [hp.1]; trivial, hp.2, hp.1, rfl⟩)
 have hlt := hl.lt
 have c0 := hl.cells
 have o0 := hl.one
 have ld := (hl.mono (HSub.push1 h (.cells [w, .int .i64 o] true 0))).load (k := (min i ((l.length : Int) - 1)).toNat) (by omega)
 refine zf hC tab154 ?_; simp only [B154]; refine zs3 @hl.len @hl.idx @ld ?_
 exact HSub.push1 _ _
def tupPP (x y : Int) : AV := .tuple [.int .i64 x, .int .i64 y]
set_option maxHeartbeats 1000000 in
theorem parts_spec (hC : Has C T180) {w1 w2 : AV} {a b : List Int} {o1 o2 s : Int} {m : Nat} {h : Heap} (ha : RI h w1 a) (hb : RI h w2 b) (oa : one1 a) (ob : one1 b) (hl : a.length = b.length ∧ 1 ≤ a.length ∧ a.length ≤ 10000) (hm : m ≤ a.length) (hs : -1 ≤ s ∧ s ≤ 1) (hms : (m : Int) ≤ a.length + s) :
  ACalls C 180 [.agg [w1, .int .i64 o1], .agg [w2, .int .i64 o2], .int .i64 (m : Nat), .int .i64 s] h (fun r h' => r = tupPP (pf a b m s m) (ps a b m (a.length - m)) ∧ h' = h) := by
 refine ACalls.gc0 (P := fun r h' => r = tupPP (pf a b m s m) (ps a b m (a.length - m)) ∧ HSub h h') ?_ (fun r h' hp => ⟨by rw [hp.1]; exact free_tuple (by simp [AV.free, AV.bel]), hp.2, hp.1, rfl⟩)
 have hlt := ha.lt
 have c0 := ha.cells
 have o0 := ha.one
 have c1 := hb.cells
 have o1' := hb.one
 have chp := fun (h' : Heap) (q : HSub h h') (i : Int) (x : 0 ≤ i) (y : i ≤ 1000000000) => chip_spec (zu hC T154) (o := o2) (hb.mono q) x (by omega) y
 refine zf hC tab180 ?_; simp only [B180]; refine zs1 @ha.len ?_
 refine wp_loopI (fun j t h' => h' = (h.push (.cells [w1, .int .i64 o1] true 0)).push (.cells [w2, .int .i64 o2] true 0) ∧ ∃ k : Nat, t 2 = .int .i64 (m : Nat) ∧ t 3 = .int .i64 s ∧ t 5 = .ptr (h.size + 1) 0 ∧ t 8 = .int .i64 (pf a b m s (min k m)) ∧ t 9 = .int .i64 (ps a b m (k - m)) ∧ t 10 = .int .i64 (a.length : Nat) ∧ t 17 = w1 ∧ t 18 = .int .i64 (a.length : Nat) ∧ t 19 = .int .i64 (k : Nat) ∧ k ≤ a.length ∧ j = a.length - k) (j0 := a.length)
  ⟨rfl, 0, rfl, rfl, rfl, by rw [Nat.zero_min]; rfl, by rw [Nat.zero_sub]; rfl, rfl, rfl, rfl, rfl, by omega, rfl⟩ ?_
 rintro j t h' ⟨rfl, k, e2, e3, e5, e8, e9, e10, e17, e18, e19, hk, hj⟩
 refine zs2 @e18 @e19 ?_
 refine Br.by (fun c => ?_) (fun c => ?_)
 ·have hk' : k < a.length := by omega
  have ld := (ha.mono ((HSub.push1 h (.cells [w1, .int .i64 o1] true 0)).push (.cells [w2, .int .i64 o2] true 0))).load hk'
  have p1 := pf_le oa ob (m := m) (s := s) (min k m)
  have p2 := ps_le oa ob (m := m) (k - m)
  by_cases c2 : k < m
  ·rw [Nat.min_eq_left (by omega)] at e8 p1
   have q := mul_one1 (oa.get k) (ob.get (min ((k : Int) - m + a.length + s) ((a.length : Int) - 1)).toNat)
   have nx : pf a b m s (k + 1) = pf a b m s k + a.getD k 0 * b.getD (min ((k : Int) - m + a.length + s) ((a.length : Int) - 1)).toNat 0 := rfl
   have ny : k + 1 - m = k - m := by omega
   have cs := chp _ ((HSub.push1 h (.cells [w1, .int .i64 o1] true 0)).push (.cells [w2, .int .i64 o2] true 0)) ((k : Int) - m + a.length + s) (by omega) (by omega)
   rw [← hl.1] at cs
   refine zs10 @e2 @e3 @e5 @e8 @e9 @e10 @e17 @e19 @ha.idx @ld ?_
   refine ACallsK.eq cs ?_
   simp -implicitDefEqProofs (disch := first | exact zd | fail) only [↓wpPre, wpPost, wpPoly, Int.reduceToNat, Int.reducePow, Int.reduceMul, Int.reduceAdd, Int.reduceSub, Int.reduceNeg, Nat.reduceAdd, Nat.reduceMul, Nat.reducePow, Int.reduceLT, Int.reduceLE, Int.reduceEq, Nat.reduceEqDiff, ← nx, e8, e9, e2, e3, e5, e10, e17, e18, e19]
   exact ⟨_, ⟨k + 1, by rw [Nat.min_eq_left (by omega)], by rw [ny], by simp, by omega, rfl⟩, by omega⟩
  ·have q := mul_one1 (oa.get k) (ob.get (k - m))
   have nx : min (k + 1) m = min k m := by omega
   have ny : ps a b m (k + 1 - m) = ps a b m (k - m) + a.getD k 0 * b.getD (k - m) 0 := by
    rw [show k + 1 - m = (k - m) + 1 by omega, ps, show m + (k - m) = k by omega]
   have cs := chp _ ((HSub.push1 h (.cells [w1, .int .i64 o1] true 0)).push (.cells [w2, .int .i64 o2] true 0)) ((k : Int) - m) (by omega) (by omega)
   rw [show (min ((k : Int) - m) ((b.length : Int) - 1)).toNat = k - m by omega] at cs
   refine zs10 @e2 @e3 @e5 @e8 @e9 @e10 @e17 @e19 @ha.idx @ld ?_
   refine ACallsK.eq cs ?_
   simp -implicitDefEqProofs (disch := first | exact zd | fail) only [↓wpPre, wpPost, wpPoly, Int.reduceToNat, Int.reducePow, Int.reduceMul, Int.reduceAdd, Int.reduceSub, Int.reduceNeg, Nat.reduceAdd, Nat.reduceMul, Nat.reducePow, Int.reduceLT, Int.reduceLE, Int.reduceEq, Nat.reduceEqDiff, ← ny, e8, e9, e2, e3, e5, e10, e17, e18, e19]
   exact ⟨_, ⟨k + 1, by rw [nx], rfl, by simp, by omega, rfl⟩, by omega⟩
 ·have ek : k = a.length := by omega
  subst ek
  rw [Nat.min_eq_right hm] at e8
  refine zs2 @e8 @e9 ?_
  exact ⟨rfl, (HSub.push1 _ _).push _⟩
set_option maxHeartbeats 1000000 in
theorem partsR_spec (hC : Has C T182) {w1 w2 : AV} {a b : List Int} {s : Int} {m : Nat} {h : Heap} (ha : RI h w1 a) (hb : RI h w2 b) (oa : one1 a) (ob : one1 b) (hl : a.length = b.length ∧ 1 ≤ a.length ∧ a.length ≤ 10000) (hm : m ≤ a.length) (hs : -1 ≤ s ∧ s ≤ 1) (hms : (m : Int) ≤ a.length + s) :
  ACalls C 182 [w1, w2, .int .i64 (m : Nat), .int .i64 s] h (fun r h' => r = tupPP (pf a b m s m) (ps a b m (a.length - m)) ∧ h' = h) := by
 have hlt := ha.lt
 refine zf hC tab182 ?_; simp only [B182]; refine zs ?_
 refine wp_loopI (fun j t h' => h' = h ∧ ∃ k : Nat, t 0 = w1 ∧ t 1 = w2 ∧ t 2 = .int .i64 (m : Nat) ∧ t 3 = .int .i64 s ∧ t 8 = .int .i64 (pf a b m s k) ∧ t 9 = .int .i64 0 ∧ t 10 = .int .i64 (k : Nat) ∧ k ≤ m ∧ j = m - k) (j0 := m)
  ⟨rfl, 0, rfl, rfl, rfl, rfl, rfl, rfl, rfl, by omega, rfl⟩ ?_
 rintro j t h' ⟨rfl, k, e0, e1, e2, e3, e8, e9, e10, hk, hj⟩
 refine zs2 @e2 @e10 ?_
 refine Br.by (fun c => ?_) (fun c => ?_)
 ·have p1 := pf_le oa ob (m := m) (s := s) k
  have q := mul_one1 (oa.get k) (ob.get (min ((k : Int) - m + a.length + s) ((a.length : Int) - 1)).toNat)
  have nx : pf a b m s (k + 1) = pf a b m s k + a.getD k 0 * b.getD (min ((k : Int) - m + a.length + s) ((a.length : Int) - 1)).toNat 0 := rfl
  have ld := ha.load (k := k) (by omega)
  have lb := hb.load (k := (min ((k : Int) - m + a.length + s) ((a.length : Int) - 1)).toNat) (by omega)
  simp -implicitDefEqProofs (disch := first | exact zd | fail) only [↓wpPre, wpPost, wpPoly, Int.reduceToNat, Int.reducePow, Int.reduceMul, Int.reduceAdd, Int.reduceSub, Int.reduceNeg, Nat.reduceAdd, Nat.reduceMul, Nat.reducePow, Int.reduceLT, Int.reduceLE, Int.reduceEq, Nat.reduceEqDiff, e0, e1, e2, e3, e8, e9, e10, ha.idx, ha.len, hb.idx, ld, lb, ← nx]
  exact ⟨_, ⟨k + 1, rfl, by simp, by omega, rfl⟩, by omega⟩
 ·have ek : k = m := by omega
  subst ek
  refine zs1 @e2 ?_
  refine wp_loopI (fun j t h2 => h2 = h' ∧ ∃ i : Nat, t 0 = w1 ∧ t 1 = w2 ∧ t 2 = .int .i64 (k : Nat) ∧ t 8 = .int .i64 (pf a b k s k) ∧ t 9 = .int .i64 (ps a b k i) ∧ t 11 = .int .i64 (k + i : Nat) ∧ k + i ≤ a.length ∧ j = a.length - (k + i)) (j0 := a.length - k)
   ⟨rfl, 0, e0, e1, e2, e8, e9, rfl, by omega, rfl⟩ ?_
  rintro j t h2 ⟨rfl, i, e0, e1, e2, e8, e9, e11, hi, hj⟩
  refine zs3 @e0 @e11 @ha.len ?_
  refine Br.by (fun c => ?_) (fun c => ?_)
  ·have p1 := ps_le oa ob (m := k) i
   have q := mul_one1 (oa.get (k + i)) (ob.get i)
   have nx : ps a b k (i + 1) = ps a b k i + a.getD (k + i) 0 * b.getD i 0 := rfl
   have ld := ha.load (k := k + i) (by omega)
   have lb := hb.load (k := i) (by omega)
   have ei : ((k + i : Nat) : Int) - k = (i : Nat) := by omega
   simp -implicitDefEqProofs (disch := first | exact zd | fail) only [↓wpPre, wpPost, wpPoly, Int.reduceToNat, Int.reducePow, Int.reduceMul, Int.reduceAdd, Int.reduceSub, Int.reduceNeg, Nat.reduceAdd, Nat.reduceMul, Nat.reducePow, Int.reduceLT, Int.reduceLE, Int.reduceEq, Nat.reduceEqDiff, e0, e1, e2, e8, e9, e11, ha.idx, hb.idx, ld, lb, ei, ← nx]
   exact ⟨_, ⟨i + 1, rfl, by simp; omega, by omega, rfl⟩, by omega⟩
  ·have ek : a.length - k = i := by omega
   rw [ek]
   refine zs2 @e8 @e9 ?_
   rfl
end
end Go.Ae
/- The greatest sum over placements, of the program and of the reference. -/
set_option linter.unusedSimpArgs false
set_option linter.unusedVariables false
namespace Go.Ae
theorem cnt_in {n mg k : Nat} {s : Int} (hs : -1 ≤ s ∧ s ≤ 1) (hk : k < cntM n mg s) : mg + k ≤ n ∧ ((mg + k : Nat) : Int) ≤ n + s := by
 unfold cntM lastM at hk
 split at hk <;> omega
theorem cnt_le {n mg : Nat} {s : Int} (hs : -1 ≤ s ∧ s ≤ 1) (k : Nat) : k < cntM n mg s ↔ ((mg : Int) + k ≤ lastM n mg s) := by
 unfold cntM
 omega
def rowG (a b : List Int) (mg : Nat) : Nat → Int
 | 0 => 0
 | si + 1 => gM a b ((si : Int) - 1) mg (cntM a.length mg ((si : Int) - 1)) (rowG a b mg si)
theorem rowG_three (a b : List Int) (mg : Nat) : rowG a b mg 3 = greatI a b mg := rfl
theorem rowG_le {a b : List Int} (oa : one1 a) (ob : one1 b) (mg : Nat) : ∀ si, si ≤ 3 → 0 ≤ rowG a b mg si ∧ rowG a b mg si ≤ a.length
 | 0, _ => by simp [rowG]
 | si + 1, h => by
  have ih := rowG_le oa ob mg si (by omega)
  by_cases c : cntM a.length mg ((si : Int) - 1) = 0
  ·rw [rowG, c]; exact ih
  ·have := cnt_in (n := a.length) (mg := mg) (s := (si : Int) - 1) (k := cntM a.length mg ((si : Int) - 1) - 1) (by omega) (by omega)
   exact gM_le oa ob _ _ (by omega) ih
section
variable {C : Ctx}
theorem plac_iter (hC : Has C T201) {l b1 b2 n mg : Nat} {h : Heap} (hn : n ≤ 10000 ∧ mg ≤ 10000) (J : Nat → Nat → Heap → Prop) (D : Heap → Prop) (h0 : J 0 0 h)
  (hb : ∀ si k h', J si k h' → h'.get b1 = some (.cells [.int .i64 (n : Nat)] true 0) ∧ h'.get b2 = some (.cells [.int .i64 (mg : Nat)] true 0))
  (hy : ∀ (si k : Nat) (h' : Heap), si < 3 → k < cntM n mg ((si : Int) - 1) → J si k h' → AYield C l [.int .i64 (mg + k : Nat), .int .i64 ((si : Int) - 1)] h' (fun r h'' => (r = .bool true ∧ J si (k + 1) h'') ∨ (r = .bool false ∧ D h'')))
  (hx : ∀ (si : Nat) (h' : Heap), si < 3 → J si (cntM n mg ((si : Int) - 1)) h' → J (si + 1) 0 h') (hd : ∀ h', J 3 0 h' → D h') :
  ACalls C 201 [.yield l, .ptr b1 0, .ptr b2 0] h (fun _ h' => D h') := by
 refine zf hC tab201 ?_; simp only [B201]; refine zs ?_
 refine wp_loopI (fun j t h' => ∃ si : Nat, J si 0 h' ∧ t 0 = .yield l ∧ t 1 = .ptr b1 0 ∧ t 2 = .ptr b2 0 ∧ t 4 = .int .i64 ((si : Int) - 1) ∧ si ≤ 3 ∧ j = 3 - si) (j0 := 3) ⟨0, h0, rfl, rfl, rfl, rfl, by omega, rfl⟩ ?_
 rintro j t h' ⟨si, hJ, e0, e1, e2, e4, hsi, hj⟩
 obtain ⟨g1, g2⟩ := hb _ _ _ hJ
 refine zs1 @e4 ?_
 refine Br.by (fun c => ?_) (fun c => ?_)
 ·have hsi' : si < 3 := by omega
  have hls : ∃ L : Int, L = lastM n mg ((si : Int) - 1) ∧ -10001 ≤ L ∧ L ≤ 10001 := ⟨_, rfl, by unfold lastM; split <;> omega, by unfold lastM; split <;> omega⟩
  obtain ⟨L, hL, hL1⟩ := hls
  by_cases cm : 0 < (mg : Int)
  ·have eL : L = n + ((si : Int) - 1) - mg := by rw [hL]; unfold lastM; rw [if_pos cm]
   refine zs5 @e1 @e2 @e4 @g1 @g2 ?_
   rw [← eL]
   refine wp_loopI (fun j t h' => ∃ k : Nat, J si k h' ∧ t 0 = .yield l ∧ t 1 = .ptr b1 0 ∧ t 2 = .ptr b2 0 ∧ t 4 = .int .i64 ((si : Int) - 1) ∧ t 5 = .int .i64 L ∧ t 6 = .int .i64 (mg + k : Nat) ∧ k ≤ cntM n mg ((si : Int) - 1) ∧ j = cntM n mg ((si : Int) - 1) - k) (j0 := cntM n mg ((si : Int) - 1))
    ⟨0, hJ, e0, e1, e2, e4, rfl, rfl, by omega, rfl⟩ ?_
   rintro j t h'' ⟨k, hJ, e0, e1, e2, e4, e5, e6, hk, hj'⟩
   refine zs2 @e5 @e6 ?_
   refine Br.by (fun c2 => ?_) (fun c2 => ?_)
   ·have hk' : k < cntM n mg ((si : Int) - 1) := (cnt_le (by omega) k).2 (by omega)
    have := cnt_in (by omega) hk'
    refine zs3 @e0 @e4 @e6 ?_
    refine AYieldK.of (hy si k h'' hsi' hk' hJ) ?_
    rintro r h3 (⟨rfl, hJ'⟩ | ⟨rfl, hD⟩)
    ·refine zs6 @e0 @e1 @e2 @e4 @e5 @e6 ?_
     exact ⟨_, ⟨k + 1, hJ', by simp; omega, by omega, rfl⟩, by omega⟩
    ·refine zs ?_
     exact hD
   ·have ek : k = cntM n mg ((si : Int) - 1) := by
     have := (cnt_le (n := n) (mg := mg) (s := (si : Int) - 1) (by omega) k).1
     omega
    subst ek
    refine zs4 @e0 @e1 @e2 @e4 ?_
    exact ⟨_, ⟨si + 1, hx si h'' hsi' hJ, by congr 1; omega, by omega, rfl⟩, by omega⟩
  ·have eL : L = n + min ((si : Int) - 1) 0 := by rw [hL]; unfold lastM; rw [if_neg cm]
   refine zs5 @e1 @e2 @e4 @g1 @g2 ?_
   rw [← eL]
   refine wp_loopI (fun j t h' => ∃ k : Nat, J si k h' ∧ t 0 = .yield l ∧ t 1 = .ptr b1 0 ∧ t 2 = .ptr b2 0 ∧ t 4 = .int .i64 ((si : Int) - 1) ∧ t 5 = .int .i64 L ∧ t 6 = .int .i64 (mg + k : Nat) ∧ k ≤ cntM n mg ((si : Int) - 1) ∧ j = cntM n mg ((si : Int) - 1) - k) (j0 := cntM n mg ((si : Int) - 1))
    ⟨0, hJ, e0, e1, e2, e4, rfl, rfl, by omega, rfl⟩ ?_
   rintro j t h'' ⟨k, hJ, e0, e1, e2, e4, e5, e6, hk, hj'⟩
   refine zs2 @e5 @e6 ?_
   refine Br.by (fun c2 => ?_) (fun c2 => ?_)
   ·have hk' : k < cntM n mg ((si : Int) - 1) := (cnt_le (by omega) k).2 (by omega)
    have := cnt_in (by omega) hk'
    refine zs3 @e0 @e4 @e6 ?_
    refine AYieldK.of (hy si k h'' hsi' hk' hJ) ?_
    rintro r h3 (⟨rfl, hJ'⟩ | ⟨rfl, hD⟩)
    ·refine zs6 @e0 @e1 @e2 @e4 @e5 @e6 ?_
     exact ⟨_, ⟨k + 1, hJ', by simp; omega, by omega, rfl⟩, by omega⟩
    ·refine zs ?_
     exact hD
   ·have ek : k = cntM n mg ((si : Int) - 1) := by
     have := (cnt_le (n := n) (mg := mg) (s := (si : Int) - 1) (by omega) k).1
     omega
    subst ek
    refine zs4 @e0 @e1 @e2 @e4 ?_
    exact ⟨_, ⟨si + 1, hx si h'' hsi' hJ, by congr 1; omega, by omega, rfl⟩, by omega⟩
 ·have : si = 3 := by omega
  subst this
  refine zs ?_
  exact hd _ hJ
end
end Go.Ae
/- The greatest sum over placements, of the program and of the reference: contracts. -/
set_option linter.unusedSimpArgs false
set_option linter.unusedVariables false
namespace Go.Ae
theorem rowG_succ {a b : List Int} {mg si k : Nat} : gM a b ((si : Int) - 1) mg (k + 1) (rowG a b mg si) = max (gM a b ((si : Int) - 1) mg k (rowG a b mg si)) (plc a b ((si : Int) - 1) (mg + k)) := rfl
section
variable {C : Ctx}
theorem great1_spec (hC : Has C T189) {w1 w2 : AV} {a b : List Int} {o1 o2 s x : Int} {m i1 i2 : Nat} {h : Heap} (g1 : h.get i1 = some (.cells [w1, .int .i64 o1] true 0)) (g2 : h.get i2 = some (.cells [w2, .int .i64 o2] true 0)) (ha : RI h w1 a) (hb : RI h w2 b) (oa : one1 a) (ob : one1 b) (hl : a.length = b.length ∧ 1 ≤ a.length ∧ a.length ≤ 10000) (hm : m ≤ a.length) (hs : -1 ≤ s ∧ s ≤ 1) (hms : (m : Int) ≤ a.length + s) (hx : 0 ≤ x ∧ x ≤ 10000) :
  ACalls C 189 [.int .i64 x, .int .i64 (m : Nat), .int .i64 s, .ptr i1 0, .ptr i2 0] h (fun r h' => r = .int .i64 (max x (plc a b s m)) ∧ h' = h) := by
 have p1 := pf_le oa ob (m := m) (s := s) m
 have p2 := ps_le oa ob (m := m) (a.length - m)
 have pp := parts_spec (zu hC T180) (o1 := o1) (o2 := o2) (h := h) ha hb oa ob hl hm hs hms
 unfold plc
 refine zf hC tab189 ?_; simp only [B189]; refine zs2 @g1 @g2 ?_
 refine ACallsK.eq pp ?_
 generalize pf a b m s m = X at *
 generalize ps a b m (a.length - m) = Y at *
 refine zs1 @tupPP.eq_1 ?_
 rw [show (0 - X) = -X by omega, show (0 - Y) = -Y by omega]
set_option maxHeartbeats 1000000 in
theorem fold_spec (hC : Has C T187) (hP : Has C T201) (hG : Has C T189) {w1 w2 : AV} {a b : List Int} {o1 o2 : Int} {mg i1 i2 b1 b2 : Nat} {h : Heap} (g1 : h.get i1 = some (.cells [w1, .int .i64 o1] true 0)) (g2 : h.get i2 = some (.cells [w2, .int .i64 o2] true 0))
  (k1 : h.get b1 = some (.cells [.int .i64 (a.length : Nat)] true 0)) (k2 : h.get b2 = some (.cells [.int .i64 (mg : Nat)] true 0)) (ha : RI h w1 a) (hb : RI h w2 b) (oa : one1 a) (ob : one1 b) (hl : a.length = b.length ∧ 1 ≤ a.length ∧ a.length ≤ 10000) (hmg : mg ≤ 10000) :
  ACalls C 187 [.func 201 [] [.ptr b1 0, .ptr b2 0], .int .i64 0, .func 189 [] [.ptr i1 0, .ptr i2 0]] h (fun r h' => r = .int .i64 (greatI a b mg) ∧ HSub h h') := by
 have l1 := Heap.lt_of_get g1
 have l2 := Heap.lt_of_get g2
 have l3 := Heap.lt_of_get k1
 have l4 := Heap.lt_of_get k2
 refine zf hC tab187 ?_; simp only [B187]; refine zs ?_
 refine wpRange_none (D := fun h' => ∃ R, h'.get (h.size + 3) = some (.loop R) ∧ R.state = .ready ∧ R.pend = none ∧ HSub h h' ∧ h'.get (h.size + 2) = some (.defd true) ∧ h'.get h.size = some (.cells [.int .i64 (greatI a b mg)] true 0) ∧ h.size + 4 ≤ h'.size) ?_ ?_
 ·refine ACalls.hideLoop (fun R hR => ?_)
  show ACalls C 201 [.yield (h.size + 3), .ptr b1 0, .ptr b2 0] _ _
  have rs : R.state = .ready := by rw [hR]
  have rp : R.pend = none := by rw [hR]
  have rb := loop_back rs rp
  refine plac_iter hP (n := a.length) (mg := mg) ⟨hl.2.2, hmg⟩ (fun si k h' => h'.get (h.size + 3) = some (.loop R) ∧ HSub h h' ∧ h'.get (h.size + 2) = some (.defd true) ∧ h'.get (h.size + 1) = some (.cells [.func 189 [] [.ptr i1 0, .ptr i2 0]] true 0) ∧
   h'.get h.size = some (.cells [.int .i64 (gM a b ((si : Int) - 1) mg k (rowG a b mg si))] true 0) ∧ h.size + 4 ≤ h'.size) _ ?_ ?_ ?_ ?_ ?_
  ·refine ⟨?_, (((HSub.push1 _ _).push _).push _).push _, ?_, ?_, ?_, ?_⟩
   ·exact ze
   ·exact ze
   ·exact ze
   ·refine zs ?_
    rfl
   ·refine zs ?_
    omega
  ·rintro si k h' ⟨_, hs, _⟩
   exact ⟨(hs.get _ l3).trans k1, (hs.get _ l4).trans k2⟩
  ·rintro si k h' hsi hk ⟨hlp, hsub, hd, gf, gv, hsz⟩
   have hin := cnt_in (n := a.length) (mg := mg) (s := (si : Int) - 1) (by omega) hk
   have rg := rowG_le oa ob mg si (by omega)
   have gl := gM_le oa ob (s := (si : Int) - 1) (lo := mg) k _ (by omega) rg
   have gs := rowG_succ (a := a) (b := b) (mg := mg) (si := si) (k := k)
   refine yield_intro (r := R) hlp rs (by rw [hR]; rfl) ?_
   simp only [congrArg ALoop.nt hR, congrArg ALoop.t hR, congrArg ALoop.params hR, congrArg ALoop.assign hR, congrArg ALoop.body hR]
   have hsH := fun bb => (hsub.put (i := h.size + 3) (by omega) bb)
   have gr := fun bb => great1_spec hG (s := (si : Int) - 1) (x := gM a b ((si : Int) - 1) mg k (rowG a b mg si)) (m := mg + k) (((hsH bb).get _ l1).trans g1) (((hsH bb).get _ l2).trans g2) (ha.mono (hsH bb)) (hb.mono (hsH bb)) oa ob hl hin.1 (by omega) hin.2 (by omega)
   refine zs4 @hlp @rs @gf @gv ?_
   refine ACallsK.eq (gr _) ?_
   refine zs2 @hlp @gv ?_
   exact .inl ⟨by rw [rb], (zh hsub), hd, gf, by rw [gs], hsz⟩
  ·rintro si h' hsi ⟨hlp, hsub, hd, gf, gv, hsz⟩
   exact ⟨hlp, hsub, hd, gf, gv, hsz⟩
  ·rintro h' ⟨hlp, hsub, hd, gf, gv, hsz⟩
   exact ⟨R, hlp, rs, rp, hsub, hd, gv, hsz⟩
 ·rintro h' ⟨R, hlp, hst, hpd, hsub, hd, gv, hsz⟩
  refine ⟨R, hlp, by rw [hst]; decide, ?_⟩
  rw [hpd]
  show blockO _ _ .normal _
  refine zs2 @hd @gv ?_
  exact (zh hsub)
theorem great_spec (hC : Has C T183) {w1 w2 : AV} {a b : List Int} {o1 o2 : Int} {mg : Nat} {h : Heap} (ha : RI h w1 a) (hb : RI h w2 b) (oa : one1 a) (ob : one1 b) (hl : a.length = b.length ∧ 1 ≤ a.length ∧ a.length ≤ 10000) (hmg : mg ≤ 10000) :
  ACalls C 183 [.agg [w1, .int .i64 o1], .agg [w2, .int .i64 o2], .int .i64 (mg : Nat)] h (fun r h' => r = .int .i64 (greatI a b mg) ∧ h' = h) := by
 refine ACalls.gc0 (P := fun r h' => r = .int .i64 (greatI a b mg) ∧ HSub h h') ?_ (fun r h' hp => ⟨by rw [hp.1]; trivial, hp.2, hp.1, rfl⟩)
 have hlt := ha.lt
 have c0 := ha.cells
 have o0 := ha.one
 have c1 := hb.cells
 have o1' := hb.one
 have hpl : ∀ h (n : Int), ACalls C 188 [.int .i64 n, .int .i64 (mg : Nat)] h (fun r h' => r = .func 201 [] [.ptr h.size 0, .ptr (h.size + 1) 0] ∧ h' = (h.push (.cells [.int .i64 n] true 0)).push (.cells [.int .i64 (mg : Nat)] true 0)) := by
  intro h n
  have hC' : Has C T188 := (zu hC T188)
  have hC := hC'
  refine zf hC tab188 ?_; simp only [B188]; exact ze
 have hsub4 : HSub h ((((h.push (.cells [w1, .int .i64 o1] true 0)).push (.cells [w2, .int .i64 o2] true 0)).push (.cells [.int .i64 (a.length : Nat)] true 0)).push (.cells [.int .i64 (mg : Nat)] true 0)) := (zh (HSub.refl _))
 have hfd := fold_spec (zu hC T187) (zu hC T201) (zu hC T189) (i1 := h.size) (i2 := h.size + 1) (b1 := h.size + 2) (b2 := h.size + 3) (o1 := o1) (o2 := o2) (w1 := w1) (w2 := w2) (mg := mg)
  (h := (((h.push (.cells [w1, .int .i64 o1] true 0)).push (.cells [w2, .int .i64 o2] true 0)).push (.cells [.int .i64 (a.length : Nat)] true 0)).push (.cells [.int .i64 (mg : Nat)] true 0))
  (by exact ze) (by exact ze) (by exact ze) (by exact ze) (ha.mono hsub4) (hb.mono hsub4) oa ob hl hmg
 refine zf hC tab183 ?_; simp only [B183]; refine zs1 @ha.len ?_
 refine ACallsK.eq (hpl _ _) ?_
 refine zs ?_
 refine ACallsK.of hfd ?_
 rintro r h' ⟨rfl, s1⟩
 refine zs ?_
 exact hsub4.trans s1
set_option maxHeartbeats 1000000 in
theorem greatR_spec (hC : Has C T184) {w1 w2 : AV} {a b : List Int} {mg : Nat} {h : Heap} (ha : RI h w1 a) (hb : RI h w2 b) (oa : one1 a) (ob : one1 b) (hl : a.length = b.length ∧ 1 ≤ a.length ∧ a.length ≤ 10000) (hmg : mg ≤ 10000) :
  ACalls C 184 [w1, w2, .int .i64 (mg : Nat), .int .i64 (mg : Nat)] h (fun r h' => r = .int .i64 (greatI a b mg) ∧ h' = h) := by
 have hlt := ha.lt
 refine zf hC tab184 ?_; simp only [B184]; refine zs ?_
 refine wp_loopI (fun j t h' => h' = h ∧ ∃ si : Nat, t 0 = w1 ∧ t 1 = w2 ∧ t 2 = .int .i64 (mg : Nat) ∧ t 3 = .int .i64 (mg : Nat) ∧ t 9 = .int .i64 (rowG a b mg si) ∧ t 10 = .int .i64 ((si : Int) - 1) ∧ si ≤ 3 ∧ j = 3 - si) (j0 := 3)
  ⟨rfl, 0, rfl, rfl, rfl, rfl, rfl, rfl, by omega, rfl⟩ ?_
 rintro j t h' ⟨rfl, si, e0, e1, e2, e3, e9, e10, hsi, hj⟩
 refine zs1 @e10 ?_
 refine Br.by (fun c => ?_) (fun c => ?_)
 ·have hsi' : si < 3 := by omega
  have rg := rowG_le oa ob mg si (by omega)
  obtain ⟨L, hL, hL1⟩ : ∃ L : Int, L = lastM a.length mg ((si : Int) - 1) ∧ -10001 ≤ L ∧ L ≤ 10001 := ⟨_, rfl, by unfold lastM; split <;> omega, by unfold lastM; split <;> omega⟩
  by_cases cm : 0 < (mg : Int)
  ·have eL : L = a.length + ((si : Int) - 1) - mg := by rw [hL]; unfold lastM; rw [if_pos cm]
   refine zs5 @e0 @e2 @e3 @e10 @ha.len ?_
   rw [← eL]
   refine wp_loopI (fun j t h2 => h2 = h' ∧ ∃ k : Nat, t 0 = w1 ∧ t 1 = w2 ∧ t 2 = .int .i64 (mg : Nat) ∧ t 3 = .int .i64 (mg : Nat) ∧ t 9 = .int .i64 (gM a b ((si : Int) - 1) mg k (rowG a b mg si)) ∧ t 10 = .int .i64 ((si : Int) - 1) ∧ t 11 = .int .i64 L ∧ t 12 = .int .i64 (mg + k : Nat) ∧ k ≤ cntM a.length mg ((si : Int) - 1) ∧ j = cntM a.length mg ((si : Int) - 1) - k) (j0 := cntM a.length mg ((si : Int) - 1))
    ⟨rfl, 0, e0, e1, e2, e3, e9, e10, rfl, rfl, by omega, rfl⟩ ?_
   rintro j t h2 ⟨rfl, k, e0, e1, e2, e3, e9, e10, e11, e12, hk, hj'⟩
   refine zs2 @e11 @e12 ?_
   refine Br.by (fun c2 => ?_) (fun c2 => ?_)
   ·have hk' : k < cntM a.length mg ((si : Int) - 1) := (cnt_le (by omega) k).2 (by omega)
    have hin := cnt_in (by omega) hk'
    have gl := gM_le oa ob (s := (si : Int) - 1) (lo := mg) k _ (by omega) rg
    have gs := rowG_succ (a := a) (b := b) (mg := mg) (si := si) (k := k)
    have p1 := pf_le oa ob (m := (mg + k : Nat)) (s := (si : Int) - 1) (mg + k)
    have p2 := ps_le oa ob (m := mg + k) (a.length - (mg + k))
    have pp := partsR_spec (zu hC T182) (s := (si : Int) - 1) (m := mg + k) (h := h2) ha hb oa ob hl hin.1 (by omega) hin.2
    have pl : plc a b ((si : Int) - 1) (mg + k) = max (pf a b (mg + k : Nat) ((si : Int) - 1) (mg + k)) (-pf a b (mg + k : Nat) ((si : Int) - 1) (mg + k)) + max (ps a b (mg + k) (a.length - (mg + k))) (-ps a b (mg + k) (a.length - (mg + k))) := rfl
    refine zs4 @e0 @e1 @e10 @e12 ?_
    refine ACallsK.eq pp ?_
    generalize pf a b (mg + k : Nat) ((si : Int) - 1) (mg + k) = X at *
    generalize ps a b (mg + k) (a.length - (mg + k)) = Y at *
    refine zs9 @tupPP.eq_1 @e9 @e0 @e1 @e2 @e3 @e10 @e11 @e12 ?_
    exact ⟨_, ⟨k + 1, by rw [gs, pl, Int.zero_sub, Int.zero_sub], by congr 1 <;> omega, by omega, rfl⟩, by omega⟩
   ·have ek : k = cntM a.length mg ((si : Int) - 1) := by
     have := (cnt_le (n := a.length) (mg := mg) (s := (si : Int) - 1) (by omega) k).1
     omega
    subst ek
    refine zs6 @e0 @e1 @e2 @e3 @e9 @e10 ?_
    exact ⟨_, ⟨si + 1, rfl, by congr 1; omega, by omega, rfl⟩, by omega⟩
  ·have eL : L = a.length + min ((si : Int) - 1) 0 := by rw [hL]; unfold lastM; rw [if_neg cm]
   refine zs5 @e0 @e2 @e3 @e10 @ha.len ?_
   rw [← eL]
   refine wp_loopI (fun j t h2 => h2 = h' ∧ ∃ k : Nat, t 0 = w1 ∧ t 1 = w2 ∧ t 2 = .int .i64 (mg : Nat) ∧ t 3 = .int .i64 (mg : Nat) ∧ t 9 = .int .i64 (gM a b ((si : Int) - 1) mg k (rowG a b mg si)) ∧ t 10 = .int .i64 ((si : Int) - 1) ∧ t 11 = .int .i64 L ∧ t 12 = .int .i64 (mg + k : Nat) ∧ k ≤ cntM a.length mg ((si : Int) - 1) ∧ j = cntM a.length mg ((si : Int) - 1) - k) (j0 := cntM a.length mg ((si : Int) - 1))
    ⟨rfl, 0, e0, e1, e2, e3, e9, e10, rfl, rfl, by omega, rfl⟩ ?_
   rintro j t h2 ⟨rfl, k, e0, e1, e2, e3, e9, e10, e11, e12, hk, hj'⟩
   refine zs2 @e11 @e12 ?_
   refine Br.by (fun c2 => ?_) (fun c2 => ?_)
   ·have hk' : k < cntM a.length mg ((si : Int) - 1) := (cnt_le (by omega) k).2 (by omega)
    have hin := cnt_in (by omega) hk'
    have gl := gM_le oa ob (s := (si : Int) - 1) (lo := mg) k _ (by omega) rg
    have gs := rowG_succ (a := a) (b := b) (mg := mg) (si := si) (k := k)
    have p1 := pf_le oa ob (m := (mg + k : Nat)) (s := (si : Int) - 1) (mg + k)
    have p2 := ps_le oa ob (m := mg + k) (a.length - (mg + k))
    have pp := partsR_spec (zu hC T182) (s := (si : Int) - 1) (m := mg + k) (h := h2) ha hb oa ob hl hin.1 (by omega) hin.2
    have pl : plc a b ((si : Int) - 1) (mg + k) = max (pf a b (mg + k : Nat) ((si : Int) - 1) (mg + k)) (-pf a b (mg + k : Nat) ((si : Int) - 1) (mg + k)) + max (ps a b (mg + k) (a.length - (mg + k))) (-ps a b (mg + k) (a.length - (mg + k))) := rfl
    refine zs4 @e0 @e1 @e10 @e12 ?_
    refine ACallsK.eq pp ?_
    generalize pf a b (mg + k : Nat) ((si : Int) - 1) (mg + k) = X at *
    generalize ps a b (mg + k) (a.length - (mg + k)) = Y at *
    refine zs9 @tupPP.eq_1 @e9 @e0 @e1 @e2 @e3 @e10 @e11 @e12 ?_
    exact ⟨_, ⟨k + 1, by rw [gs, pl, Int.zero_sub, Int.zero_sub], by congr 1 <;> omega, by omega, rfl⟩, by omega⟩
   ·have ek : k = cntM a.length mg ((si : Int) - 1) := by
     have := (cnt_le (n := a.length) (mg := mg) (s := (si : Int) - 1) (by omega) k).1
     omega
    subst ek
    refine zs6 @e0 @e1 @e2 @e3 @e9 @e10 ?_
    exact ⟨_, ⟨si + 1, rfl, by congr 1; omega, by omega, rfl⟩, by omega⟩
 ·have : si = 3 := by omega
  subst this
  refine zs1 @e9 ?_
  rfl
end
end Go.Ae
/- Parts, Side and Cross, of the program. -/
set_option linter.unusedSimpArgs false
set_option linter.unusedVariables false
namespace Go.Ae
theorem CLs.two {h : Heap} {v : AV} {d o p q : Int} {vs : List AV} (H : CLs h v d o [p, q] vs) : ∃ w1 w2, RI h w1 (sampL d p o.toNat) ∧ RI h w2 (sampL d q o.toNat) ∧ idxA 2 v (.int .i64 0) = some (elA 2 v 0) ∧ idxA 2 v (.int .i64 1) = some (elA 2 v 1) ∧
  Ae.loadA h true 2 (elA 2 v 0) = some (.agg [w1, .int .i64 o]) ∧ Ae.loadA h true 2 (elA 2 v 1) = some (.agg [w2, .int .i64 o]) ∧ fieldAddrA 0 (elA 2 v 0) = some (elF 2 v 0 0) ∧ Ae.loadA h false 1 (elF 2 v 0 0) = some w1 := by
 obtain ⟨w1, w2, rfl⟩ : ∃ w1 w2, vs = [w1, w2] := by
  have := H.len
  match vs, this with
  | [a, b], _ => exact ⟨a, b, rfl⟩
 have l0 := H.sl.loadA (k := 0) (by simp)
 have l1 := H.sl.loadA (k := 1) (by simp)
 have lf := H.sl.loadE (k := 0) (off := 0) (by simp) (by decide)
 exact ⟨w1, w2, H.ri 0 (by simp), H.ri 1 (by simp), H.sl.idx (k := 0) (by simp), H.sl.idx (k := 1) (by simp), l0, l1, H.sl.fldE 0 0 (by simp), lf⟩
theorem CLs.one {h : Heap} {v : AV} {d o p : Int} {vs : List AV} (H : CLs h v d o [p] vs) : ∃ w1, RI h w1 (sampL d p o.toNat) ∧ idxA 2 v (.int .i64 0) = some (elA 2 v 0) ∧ Ae.loadA h true 2 (elA 2 v 0) = some (.agg [w1, .int .i64 o]) := by
 obtain ⟨w1, rfl⟩ : ∃ w1, vs = [w1] := by
  have := H.len
  match vs, this with
  | [a], _ => exact ⟨a, rfl⟩
 exact ⟨w1, H.ri 0 (by simp), H.sl.idx (k := 0) (by simp), H.sl.loadA (k := 0) (by simp)⟩
theorem sampErr_cases (d o : Int) (ps : List Int) : sampErr d o ps = 0 ∨ sampErr d o ps = 2 := by unfold sampErr; split <;> simp
theorem sampErr_ok {d o : Int} {ps : List Int} (h : sampErr d o ps = 0) : lenOk d = true ∧ (1 ≤ o ∧ o ≤ 8) ∧ ∀ p ∈ ps, codeErr d p = 0 := by
 unfold sampErr at h
 split at h
 ·rename_i c
  have k := c.1
  unfold knownErr at k
  split at k
  ·rename_i kk; exact ⟨kk.1, kk.2, c.2⟩
  ·cases k
 ·cases h
def partsOk (d o p q m s : Int) : Prop := sampErr d o [p, q] = 0 ∧ (-1 ≤ s ∧ s ≤ 1) ∧ 0 ≤ m ∧ m ≤ lenN d * o + min s 0
instance (d o p q m s : Int) : Decidable (partsOk d o p q m s) := by unfold partsOk; exact inferInstance
def crossE (d o p q : Int) : AV := if sampErr d o [p, q] = 0 then tup2 (greatI (sampL d p o.toNat) (sampL d q o.toNat) 0) 0 else tup2 0 2
def sideE (d o p : Int) : AV := if sampErr d o [p] = 0 then tup2 (greatI (sampL d p o.toNat) (sampL d p o.toNat) o.toNat) 0 else tup2 0 2
section
variable {C : Ctx}
end
end Go.Ae
/- The spectrum of two codes, of the program. -/
set_option linter.unusedSimpArgs false
set_option linter.unusedVariables false
namespace Go.Ae
theorem GrwS.at {h0 h : Heap} {v : AV} {l : List (Int × Int)} (A : GrwS h0 h v l) (hl : 0 < l.length) : ∃ i ex, h0.size ≤ i ∧ v = .slice i 0 l.length (.unk 0) ∧ h.get i = some (.cells (smps l ++ ex) true 2) := by
 obtain ⟨_, _, _, ⟨_, h1⟩ | ⟨i, ex, hi, hv, hg⟩⟩ := A
 ·omega
 ·exact ⟨i, ex, hi, hv, hg⟩
theorem GrwS.turn {h0 h : Heap} {i : Nat} {l : List (Int × Int)} {ex : List AV} {k : Nat} {x y : Int} (A : GrwS h0 h (.slice i 0 l.length (.unk 0)) l) (hi : h0.size ≤ i) (hg : h.get i = some (.cells (smps l ++ ex) true 2)) (hk : k < l.length) (hx : (l.getD k (0, 0)).1 = x) :
  (smps l ++ ex).set (k * 2 + 1) (.int .i64 y) = smps (l.set k (x, y)) ++ ex ∧ GrwS h0 (h.put i (.cells (smps (l.set k (x, y)) ++ ex) true 2)) (.slice i 0 l.length (.unk 0)) (l.set k (x, y)) := by
 have hlt := Heap.lt_of_get hg
 have hle : (l.set k (x, y)).length = l.length := List.length_set
 refine ⟨?_, ⟨A.sub.put hi _, smps_length, by have := A.2.2.1; omega, .inr ⟨i, ex, hi, by rw [hle], get_put_eq rfl hlt⟩⟩⟩
 rw [List.set_append_left _ _ (by rw [smps_length]; omega)]
 congr 1
 clear A hg hi hlt hle
 induction l generalizing k with
 | nil => simp at hk
 | cons p l ih =>
  cases k with
  | zero =>
   simp only [List.getD_cons_zero] at hx
   rw [smps_cons, List.set_cons_zero, smps_cons, hx]; rfl
  | succ k =>
   rw [List.getD_cons_succ] at hx
   rw [show (k + 1) * 2 + 1 = k * 2 + 1 + 1 + 1 by omega, smps_cons, List.set_cons_succ, List.set_cons_succ, List.set_cons_succ, smps_cons, ih (by simpa using hk) hx]
section
variable {C : Ctx}
end
end Go.Ae
/- The spectrum of two codes, of the reference. -/
set_option linter.unusedSimpArgs false
set_option linter.unusedVariables false
namespace Go.Ae
theorem codeErr_cases (d p : Int) : codeErr d p = 0 ∨ codeErr d p = 2 := by unfold codeErr; split <;> simp
section
variable {C : Ctx}
end
end Go.Ae
/- Samples, Parts, Side and Cross, of the reference. -/
set_option linter.unusedSimpArgs false
set_option linter.unusedVariables false
namespace Go.Ae
section
variable {C : Ctx}
theorem knownR_spec (hC : Has C T179) {d o : Int} {h : Heap} (hd : In64 d) (ho : In64 o) : ACalls C 179 [.int .i64 d, .int .i64 o] h (fun r h' => r = .int .i64 (knownErr d o) ∧ h' = h) := by
 unfold In64 at ho
 by_cases c : lenOk d = true
 ·have e : lenE d = tup2 (lenN d) 0 := by unfold lenE; rw [if_pos c]
  by_cases co : 1 ≤ o ∧ o ≤ 8
  ·have pe : knownErr d o = 0 := by unfold knownErr; rw [if_pos ⟨c, co⟩]
   rw [pe]
   refine zf hC tab179 ?_; simp only [B179]; refine zs ?_
   refine ACallsK.eq2 (Length08_spec (zu hC T71) hd) e ?_
   exact ze1 @tup2.eq_1
  ·have pe : knownErr d o = 2 := by unfold knownErr; rw [if_neg (fun h => co h.2)]
   rw [pe]
   refine zf hC tab179 ?_; simp only [B179]; refine zs ?_
   refine ACallsK.eq2 (Length08_spec (zu hC T71) hd) e ?_
   refine zs1 @tup2.eq_1 ?_
   (repeat' (first | (refine Br.by (fun _ => ?_) (fun _ => ?_)) | (exact ze)))
   all_goals omega
 ·have e : lenE d = tup2 0 2 := by unfold lenE; rw [if_neg c]
  have pe : knownErr d o = 2 := by unfold knownErr; rw [if_neg (fun h => c h.1)]
  rw [pe]
  refine zf hC tab179 ?_; simp only [B179]; refine zs ?_
  refine ACallsK.eq2 (Length08_spec (zu hC T71) hd) e ?_
  exact ze1 @tup2.eq_1
def sampK (d p : Int) (o k : Nat) : List Int := (List.range k).map fun i => (codeL d p).getD (i / o) 0
theorem sampK_length (d p : Int) (o k : Nat) : (sampK d p o k).length = k := by simp [sampK]
theorem sampK_succ (d p : Int) (o k : Nat) : sampK d p o (k + 1) = sampK d p o k ++ [(codeL d p).getD (k / o) 0] := by simp [sampK, List.range_succ]
set_option maxHeartbeats 1000000 in
theorem SamplesR_spec (hC : Has C T169) {d o p : Int} {h : Heap} (hd : In64 d) (ho : In64 o) (hp : In64 p) :
  ACalls C 169 [.int .i64 d, .int .i64 o, .int .i64 p] h (fun r h' => ∃ v, r = lstErr v (sampErr d o [p]) ∧ HSub h h' ∧ RI h' v (if sampErr d o [p] = 0 then sampL d p o.toNat else [])) := by
 rcases sampErr_cases d o [p] with c | c
 ·have ok := sampErr_ok c
  have hN := lenN_eq ok.1
  have ck : knownErr d o = 0 := by unfold knownErr; rw [if_pos ⟨ok.1, ok.2.1⟩]
  have cc : codeErr d p = 0 := ok.2.2 p (by simp)
  obtain ⟨q, rfl⟩ := Int.eq_ofNat_of_zero_le (show 0 ≤ o by omega)
  have ho1 : 1 ≤ q := by omega
  rw [c, if_pos rfl, Int.toNat_natCast]
  have hcode := Code08_spec (zu hC T77) (h := h) hd hp
  rw [cc, if_pos rfl] at hcode
  have cl := codeL_length d p
  have sz1 : lenN d ≤ lenN d * q := Nat.le_mul_of_pos_right _ (by omega)
  have sz2 : lenN d * q ≤ 1023 * 8 := Nat.mul_le_mul (by omega) (by omega)
  have em : (lenN d : Int) * (q : Nat) = ((lenN d * q : Nat) : Int) := by omega
  have full : sampK d p q (lenN d * q) = sampL d p q := (sampL_eq d p ho1).symm
  refine zf hC tab169 ?_; simp only [B169]; refine zs ?_
  refine ACallsK.eq (knownR_spec (zu hC T179) hd ho) ?_
  rw [ck]
  refine zs ?_
  refine ACallsK.of hcode ?_
  rintro r h1 ⟨v1, rfl, s1, R1⟩
  refine zs1 @lstErr.eq_1 ?_
  refine wp_loopI (fun j t h' => ∃ k : Nat, GrwI h1 h' (t 11) (sampK d p q k) ∧ t 1 = .int .i64 (q : Nat) ∧ t 9 = v1 ∧ t 12 = .int .i64 (k : Nat) ∧ k ≤ lenN d * q ∧ j = lenN d * q - k) (j0 := lenN d * q)
   ⟨0, GrwI.nil _, rfl, rfl, rfl, by omega, rfl⟩ ?_
  rintro j t h2 ⟨k, A, e1, e9, e12, hk, hj⟩
  have R2 := R1.mono A.sub
  refine zs6 @e1 @e9 @e12 @R2.len @cl @em ?_
  refine Br.by (fun c1 => ?_) (fun c1 => ?_)
  ·have hk' : k < lenN d * q := by omega
   have hdv : k / q < lenN d := Nat.div_lt_of_lt_mul (by rw [Nat.mul_comm]; exact hk')
   have ed : (k : Int) / (q : Nat) = ((k / q : Nat) : Int) := (Int.natCast_ediv _ _).symm
   generalize hg : k / q = g at hdv ed
   have ld := R2.load (k := g) (by omega)
   have sl := sampK_length d p q k
   have su := sampK_succ d p q k
   rw [hg] at su
   obtain ⟨x, hx⟩ : ∃ x, x = (codeL d p).getD g 0 := ⟨_, rfl⟩
   rw [← hx] at su ld
   have A2 := A.snoc (x := x) (HSub.push1 h2 (.cells [.int .i64 x] true 0)) (by omega)
   rw [← su, sl] at A2
   simp -implicitDefEqProofs (disch := first | exact zd | fail) only [↓wpPre, wpPost, wpPoly, Int.reduceToNat, Int.reducePow, Int.reduceMul, Int.reduceAdd, Int.reduceSub, Int.reduceNeg, Nat.reduceAdd, Nat.reduceMul, Nat.reducePow, Int.reduceLT, Int.reduceLE, Int.reduceEq, Nat.reduceEqDiff, e1, e9, e12, ed, R2.idx, ld, cont_slice, contB_one, A.app, sl, ← su]
   exact ⟨_, ⟨k + 1, A2, by simp, by omega, rfl⟩, by omega⟩
  ·have ek : k = lenN d * q := by omega
   subst ek
   rw [full] at A
   refine zs ?_
   exact ⟨_, rfl, s1.trans A.sub, A.ri⟩
 ·rw [c, if_neg (by decide)]
  by_cases ck : knownErr d o = 0
  ·have cc : codeErr d p = 2 := by
    rw [sampErr_one] at c
    have : ¬ codeErr d p = 0 := fun h => by rw [if_pos ⟨ck, h⟩] at c; cases c
    unfold codeErr at this ⊢; split at this <;> first | exact absurd rfl this | (rename_i h; rw [if_neg h])
   have hcode := Code08_spec (zu hC T77) (h := h) hd hp
   rw [cc] at hcode
   refine zf hC tab169 ?_; simp only [B169]; refine zs ?_
   refine ACallsK.eq (knownR_spec (zu hC T179) hd ho) ?_
   rw [ck]
   refine zs ?_
   refine ACallsK.of hcode ?_
   rintro r h1 ⟨v1, rfl, s1, R1⟩
   refine zs1 @lstErr.eq_1 ?_
   exact ⟨_, rfl, s1, RI.nil⟩
  ·have ck2 : knownErr d o = 2 := by unfold knownErr at ck ⊢; split at ck <;> first | exact absurd rfl ck | (rename_i h; rw [if_neg h])
   refine zf hC tab169 ?_; simp only [B169]; refine zs ?_
   refine ACallsK.eq (knownR_spec (zu hC T179) hd ho) ?_
   rw [ck2]
   refine zs1 @lstErr.eq_1 ?_
   exact ⟨_, rfl, HSub.refl _, RI.nil⟩
theorem SideR_spec (hC : Has C T176) {d o p : Int} {h : Heap} (hd : In64 d) (ho : In64 o) (hp : In64 p) :
  ACalls C 176 [.int .i64 d, .int .i64 o, .int .i64 p] h (fun r h' => r = sideE d o p ∧ HSub h h') := by
 have hpr := fun h => SamplesR_spec (zu hC T169) (h := h) hd ho hp
 unfold sideE
 rcases sampErr_cases d o [p] with c | c
 ·simp only [c, if_true] at hpr
  rw [if_pos c]
  have ok := sampErr_ok c
  have hN := lenN_eq ok.1
  obtain ⟨k, rfl⟩ := Int.eq_ofNat_of_zero_le (show 0 ≤ o by omega)
  have ln1 := sampL_length d p k
  have sz1 : lenN d ≤ lenN d * k := Nat.le_mul_of_pos_right _ (by omega)
  have sz2 : lenN d * k ≤ 1023 * 8 := Nat.mul_le_mul (by omega) (by omega)
  rw [Int.toNat_natCast] at hpr ⊢
  refine zf hC tab176 ?_; simp only [B176]; refine zs ?_
  refine ACallsK.of (hpr _) ?_
  rintro r h1 ⟨w1, rfl, s1, R1⟩
  have pp := greatR_spec (zu hC T184) (mg := k) (h := h1) R1 R1 (sampL_one1 _ _ _) (sampL_one1 _ _ _) (by omega) (by omega)
  refine zs1 @lstErr.eq_1 ?_
  refine ACallsK.eq pp ?_
  refine zs ?_
  exact ⟨rfl, s1⟩
 ·simp only [c] at hpr
  rw [if_neg (by omega)]
  refine zf hC tab176 ?_; simp only [B176]; refine zs ?_
  refine ACallsK.of (hpr _) ?_
  rintro r h1 ⟨w1, rfl, s1, R1⟩
  refine zs1 @lstErr.eq_1 ?_
  exact ⟨rfl, s1⟩
end
end Go.Ae
/- Lists of lists of numbers, read and compared; pairs as lists. -/
set_option linter.unusedSimpArgs false
set_option linter.unusedVariables false
namespace Go.Ae
def LLI (h : Heap) (v : AV) (ll : List (List Int)) : Prop := ∃ vs : List AV, SL h 1 v ll.length vs ∧ vs.length = ll.length ∧ ∀ i, i < ll.length → RI h (vs.getD i .nilslice) (ll.getD i [])
theorem LLI.mono {h h' : Heap} {v : AV} {ll : List (List Int)} (H : LLI h v ll) (hs : HSub h h') : LLI h' v ll := by
 obtain ⟨vs, a, b, c⟩ := H
 exact ⟨vs, a.mono hs, b, fun i hi => (c i hi).mono hs⟩
theorem LLI.len {h : Heap} {v : AV} {ll : List (List Int)} (H : LLI h v ll) : lenA v = some (.int .i64 ll.length) := by obtain ⟨vs, a, _, _⟩ := H; exact a.len
theorem LLI.nil {h : Heap} : LLI h .nilslice [] := ⟨[], ⟨rfl, by decide, .inl ⟨rfl, rfl⟩⟩, rfl, fun i hi => by simp at hi⟩
theorem LLI.at {h : Heap} {v : AV} {ll : List (List Int)} (H : LLI h v ll) {i : Nat} (hi : i < ll.length) : ∃ w, idxA 1 v (.int .i64 (i : Nat)) = some (elA 1 v i) ∧ loadA h false 1 (elA 1 v i) = some w ∧ RI h w (ll.getD i []) := by
 obtain ⟨vs, a, b, c⟩ := H
 refine ⟨vs.getD i .nilslice, a.idx ⟨by omega, by omega⟩, ?_, c i hi⟩
 rw [SL.load1 a hi]
 simp [show i < vs.length by omega]
section
variable {C : Ctx}
def Two (h0 h : Heap) (v w : AV) (p : Int × Int) : Prop := ∃ j, h0.size ≤ j ∧ w = .slice j 0 2 (.known 2) ∧ h.get j = some (.cells [.int .i64 p.1, .int .i64 p.2] true 0) ∧ j ∉ v.ids
end
end Go.Ae
/- Tables of sums, of the program. -/
set_option linter.unusedSimpArgs false
set_option linter.unusedVariables false
namespace Go.Ae
def tabE (d : Int) (ps : List Int) : Nat → Int
 | 0 => 0
 | k + 1 => if tabE d ps k ≠ 0 then tabE d ps k else if codeErr d (ps.getD k 0) ≠ 0 then 2 else if ((ps.take k).any fun y => ps.getD k 0 == y) = true then 8 else 0
def tabErr (d o : Int) (ps : List Int) : Int := if knownErr d o ≠ 0 then 2 else if ps.length = 0 then 3 else if 8 < ps.length then 4 else tabE d ps ps.length
theorem tabE_mono {d : Int} {ps : List Int} {k : Nat} (h : tabE d ps k ≠ 0) : ∀ m, tabE d ps (k + m) = tabE d ps k
 | 0 => rfl
 | m + 1 => by
  rw [← Nat.add_assoc, tabE, if_pos (by rw [tabE_mono h m]; exact h), tabE_mono h m]
theorem tabE_at {d : Int} {ps : List Int} {k n : Nat} (h : tabE d ps k ≠ 0) (hk : k ≤ n) : tabE d ps n = tabE d ps k := by
 have := tabE_mono h (n - k)
 rwa [show k + (n - k) = n by omega] at this
def tabRow (d : Int) (o : Nat) (ps : List Int) (i k : Nat) : List Int := (List.range k).map fun j => greatI (sampL d (ps.getD i 0) o) (sampL d (ps.getD j 0) o) (if i = j then o else 0)
theorem tabRow_length (d : Int) (o : Nat) (ps : List Int) (i k : Nat) : (tabRow d o ps i k).length = k := by simp [tabRow]
theorem tabRow_succ (d : Int) (o : Nat) (ps : List Int) (i k : Nat) : tabRow d o ps i (k + 1) = tabRow d o ps i k ++ [greatI (sampL d (ps.getD i 0) o) (sampL d (ps.getD k 0) o) (if i = k then o else 0)] := by simp [tabRow, List.range_succ]
def tblL (d : Int) (o : Nat) (ps : List Int) : List (List Int) := (List.range ps.length).map fun i => tabRow d o ps i ps.length
theorem Grw.move {h0 h F : Heap} {sz n : Nat} {w : AV} {ds : List AV} (B : Grw h0 h sz w n ds) (hs : HSub h0 F) (hg : ∀ x ∈ w.ids, F.get x = h.get x) : Grw h0 F sz w n ds := by
 obtain ⟨_, hl, hn, ⟨rfl, rfl⟩ | ⟨i, ex, hi, rfl, hgi⟩⟩ := B
 ·exact ⟨hs, hl, hn, .inl ⟨rfl, rfl⟩⟩
 ·exact ⟨hs, hl, hn, .inr ⟨i, ex, hi, rfl, (hg i (by simp [AV.ids])).trans hgi⟩⟩
section
variable {C : Ctx}
set_option maxHeartbeats 4000000 in
set_option maxRecDepth 20000 in
theorem Table_spec (hC : Has C T172) {d o : Int} {vp : AV} {ps : List Int} {h : Heap} (hd : In64 d) (ho : In64 o) (hp : RI h vp ps) (hx : ∀ x ∈ ps, In64 x) :
  ACalls C 172 [.int .i64 d, .int .i64 o, vp] h (fun r h' => ∃ v, r = lstErr v (tabErr d o ps) ∧ HSub h h' ∧ LLI h' v (if tabErr d o ps = 0 then tblL d o.toNat ps else [])) := by
 have hplt := hp.lt
 have fin : ∀ (h' : Heap) (e : Int), HSub h h' → tabErr d o ps = e → e ≠ 0 → ∃ v, AV.tuple [.nilslice, .int .i64 e] = lstErr v (tabErr d o ps) ∧ HSub h h' ∧ LLI h' v (if tabErr d o ps = 0 then tblL d o.toNat ps else []) := fun h' e hs he h0 => ⟨.nilslice, by rw [he]; rfl, hs, by rw [if_neg (by omega)]; exact LLI.nil⟩
 by_cases ck : knownErr d o = 0
 ·have kr : lenOk d = true ∧ 1 ≤ o ∧ o ≤ 8 := by
   unfold knownErr at ck
   split at ck
   ·assumption
   ·cases ck
  obtain ⟨q, rfl⟩ := Int.eq_ofNat_of_zero_le (show 0 ≤ o by omega)
  have hN := lenN_eq kr.1
  by_cases c0 : ps.length = 0
  ·have pe : tabErr d (q : Nat) ps = 3 := by unfold tabErr; rw [if_neg (by omega), if_pos c0]
   refine zf hC tab172 ?_; simp only [B172]; refine zs ?_
   refine ACallsK.eq (known09_spec (zu hC T150) hd ho) ?_
   rw [ck]
   refine zs1 @hp.len ?_
   exact fin _ _ (HSub.refl _) pe (by decide)
  by_cases c8 : 8 < ps.length
  ·have pe : tabErr d (q : Nat) ps = 4 := by unfold tabErr; rw [if_neg (by omega), if_neg c0, if_pos c8]
   refine zf hC tab172 ?_; simp only [B172]; refine zs ?_
   refine ACallsK.eq (known09_spec (zu hC T150) hd ho) ?_
   rw [ck]
   refine zs1 @hp.len ?_
   exact fin _ _ (HSub.refl _) pe (by decide)
  have pe : tabErr d (q : Nat) ps = tabE d ps ps.length := by unfold tabErr; rw [if_neg (by omega), if_neg c0, if_neg c8]
  rw [pe] at fin ⊢
  have fin2 : tabE d ps ps.length = 0 → ∀ (h' : Heap) (v : AV), HSub h h' → LLI h' v (tblL d q ps) → ∃ v', AV.tuple [v, .int .i64 0] = lstErr v' (tabE d ps ps.length) ∧ HSub h h' ∧ LLI h' v' (if tabE d ps ps.length = 0 then tblL d (q : Int).toNat ps else []) := fun he h' v hs hl => ⟨v, by rw [he]; rfl, hs, by rw [if_pos he]; exact hl⟩
  have hsd := fun (h : Heap) (i : Nat) (p : Int) (hp : In64 p) (hg : h.get i = some (.cells [.int .i64 p] true 0)) => sampled_specF (zu hC T142) (vp := .slice i 0 1 (.known 1)) (ps := [p]) (h := h) hd ho (RI.known hg ⟨rfl, by decide⟩ (by decide)) (by simp [hp]) (by simp)
  refine zf hC tab172 ?_; simp only [B172]; refine zs ?_
  refine ACallsK.eq (known09_spec (zu hC T150) hd ho) ?_
  rw [ck]
  refine zs1 @hp.len ?_
  refine wp_loopI (fun j t h' => ∃ (k : Nat) (vs : List AV), Grw h h' 2 (t 9) k (codeCells vs (q : Nat)) ∧ vs.length = k ∧ (∀ i, i < k → GrwI h h' (vs.getD i .nilslice) (sampL d (ps.getD i 0) q) ∧ Dj (vs.getD i .nilslice) (t 9)) ∧ tabE d ps k = 0 ∧
   t 0 = .int .i64 d ∧ t 1 = .int .i64 (q : Nat) ∧ t 2 = vp ∧ t 34 = vp ∧ t 35 = .int .i64 (ps.length : Nat) ∧ t 36 = .int .i64 (k : Nat) ∧ k ≤ ps.length ∧ j = ps.length - k) (j0 := ps.length)
   ⟨0, [], Grw.nil _ _, rfl, fun i hi => by omega, rfl, rfl, rfl, rfl, rfl, rfl, rfl, by omega, rfl⟩ ?_
  rintro j t h2 ⟨k, vs, A, hvl, hvs, hte, e0, e1, e2, e34, e35, e36, hk, hj⟩
  refine zs2 @e35 @e36 ?_
  refine Br.by (fun c1 => ?_) (fun c1 => ?_)
  ·have hk' : k < ps.length := by omega
   have hp2 := hp.mono A.sub
   have hxk := hx _ (getD_mem hk')
   have ts : tabE d ps (k + 1) = if codeErr d (ps.getD k 0) ≠ 0 then 2 else if ((ps.take k).any fun y => ps.getD k 0 == y) = true then 8 else 0 := by rw [tabE, if_neg (by omega)]
   have ld := hp2.load hk'
   have xp : ∃ p, p = ps.getD k 0 := ⟨_, rfl⟩
   obtain ⟨p, hpd⟩ := xp
   rw [← hpd] at ld ts hxk
   have se : sampErr d (q : Nat) [p] = codeErr d p := by
    rw [sampErr_one]
    rcases codeErr_cases d p with c | c
    ·rw [if_pos ⟨ck, c⟩, c]
    ·rw [if_neg (by omega), c]
   have hsd := hsd (h2.push (.cells [.int .i64 p] true 0)) h2.size p hxk (get_push_eq rfl)
   rw [se] at hsd
   by_cases cc : codeErr d p = 0
   ·rw [if_neg (by omega)] at ts
    simp only [cc] at hsd
    refine zs6 @e0 @e1 @e34 @e36 @hp2.idx @ld ?_
    refine ACallsK.of hsd ?_
    rintro r h3 ⟨v, ws, rfl, s1, hcl⟩
    have s2 : HSub h2 h3 := (HSub.push1 _ _).trans s1
    have x0 := hcl trivial
    obtain ⟨cl, gw⟩ := x0
    have xw : ∃ w, ws = [w] := by
     have := cl.len
     match ws, this with
     | [w], _ => exact ⟨w, rfl⟩
    obtain ⟨w, rfl⟩ := xw
    have B : GrwI (h2.push (.cells [.int .i64 p] true 0)) h3 w (sampL d p q) := gw 0 (by simp)
    have hp3 := hp.mono (A.sub.trans s2)
    have xs := hp3.part_b (k2 := .i64) (b := (k : Nat)) (by omega)
    obtain ⟨v', ev, Rv⟩ := xs
    have ev := ev h3 (HSub.refl _)
    rw [Int.toNat_natCast] at Rv
    have hcn := Contains_spec (zu hC T89) (x := p) Rv
    refine zs3 @lstErr.eq_1 @e2 @ev ?_
    by_cases c3 : ((ps.take k).any fun y => p == y) = true
    ·rw [if_pos c3] at ts
     rw [c3] at hcn
     refine ACallsK.eq hcn ?_
     refine zs ?_
     exact fin _ _ (A.sub.trans s2) ((tabE_at (by rw [ts]; decide) (by omega)).trans ts) (by decide)
    ·rw [if_neg c3] at ts
     rw [Bool.eq_false_iff.2 c3] at hcn
     refine ACallsK.eq hcn ?_
     have cw := cl.sl.content
     rw [show ([p] : List Int).length = 1 from rfl, show codeCells [w] (q : Nat) = [w, .int .i64 (q : Nat)] from rfl] at cw
     have wone : w.one = true := (Grw.sl B).one
     have hn1 : [w, AV.int .i64 (q : Nat)].all AV.one = true := by simp [wone, one_int]
     have ap := Grw.app A (bytes := 32) (m := 1) (news := [w, .int .i64 (q : Nat)]) s2 (by decide) (by omega) hn1
     have A5 := Grw.snoc A (m := 1) (news := [w, .int .i64 (q : Nat)]) s2 rfl (by omega)
     rw [← codeCells_snoc] at ap A5
     refine zs8 @cw @ap @e0 @e1 @e2 @e34 @e35 @e36 ?_
     have A4 := A.mono s2
     have B0 : GrwI h h3 w (sampL d p q) := B.base (A.sub.trans (HSub.push1 _ _))
     have dw : Dj w (t 9) := fun j hj hj9 => by
      have q1 := (Grw.ids_lt B j hj).1
      have q2 := (Grw.ids_lt A j hj9).2
      simp only [Heap.size_push] at q1
      omega
     refine ⟨_, ⟨k + 1, vs ++ [w], A5, by simp [hvl], fun i hi => ?_, ts, by simp, by omega, rfl⟩, by omega⟩
     rcases Nat.lt_or_ge i k with x | x
     ·have e : (vs ++ [w]).getD i .nilslice = vs.getD i .nilslice := by simp [List.getD_eq_getElem?_getD, List.getElem?_append_left (show i < vs.length by omega)]
      rw [e]
      have B1 := (hvs i x).1.mono s2
      exact ⟨Grw.keep A4 B1 (HSub.refl _) (hvs i x).2, Grw.dj B1 (Nat.le_refl _)⟩
     ·have ei : i = k := by omega
      subst ei
      have e : (vs ++ [w]).getD i .nilslice = w := by simp [List.getD_eq_getElem?_getD, ← hvl]
      rw [e, ← hpd]
      exact ⟨Grw.keep A4 B0 (HSub.refl _) dw, Grw.dj B0 (Nat.le_refl _)⟩
   ·have c2 : codeErr d p = 2 := by rcases codeErr_cases d p with c | c <;> first | exact absurd c cc | exact c
    rw [if_pos (by omega)] at ts
    simp only [c2] at hsd
    refine zs6 @e0 @e1 @e34 @e36 @hp2.idx @ld ?_
    refine ACallsK.of hsd ?_
    rintro r h3 ⟨v, ws, rfl, s1, hcl⟩
    have s2 : HSub h2 h3 := (HSub.push1 _ _).trans s1
    refine zs1 @lstErr.eq_1 ?_
    exact fin _ _ (A.sub.trans s2) ((tabE_at (by rw [ts]; decide) (by omega)).trans ts) (by decide)
  ·have ek : k = ps.length := by omega
   subst ek
   have fin3 := fin2 hte
   have lA := A.sl
   have hzA := A.sub.size
   have RV : ∀ i, i < ps.length → RI h2 (vs.getD i .nilslice) (sampL d (ps.getD i 0) q) := fun i hi => (hvs i hi).1.ri
   have hL8 : ps.length ≤ 8 := by omega
   have sz : ∀ i, (sampL d (ps.getD i 0) q).length = lenN d * q := fun i => sampL_length _ _ _
   have sz1 : lenN d ≤ lenN d * q := Nat.le_mul_of_pos_right _ (by omega)
   have sz2 : lenN d * q ≤ 1023 * 8 := Nat.mul_le_mul (by omega) (by omega)
   have lenA9 := lA.len
   have xlv : ∃ lv, lv = t 9 := ⟨_, rfl⟩
   obtain ⟨lv, hlv⟩ := xlv
   rw [← hlv] at lA lenA9
   have e9 : t 9 = lv := hlv.symm
   refine zs2 @e9 @lenA9 ?_
   refine wp_loopI (fun j t h' => ∃ (i : Nat) (rows : List AV), h'.get h2.size = some (.cells rows true 0) ∧ rows.length = ps.length ∧ HSub h2 h' ∧ h2.size < h'.size ∧ (∀ j, j < i → GrwI h2 h' (rows.getD j .nilslice) (tabRow d q ps j ps.length) ∧ h2.size ∉ (rows.getD j .nilslice).ids) ∧ (∀ j, i ≤ j → j < ps.length → rows[j]? = some .nilslice) ∧
    t 1 = .int .i64 (q : Nat) ∧ t 9 = lv ∧ t 14 = .slice h2.size 0 ps.length (.known ps.length) ∧ t 64 = lv ∧ t 65 = .int .i64 (ps.length : Nat) ∧ t 66 = .int .i64 (i : Nat) ∧ i ≤ ps.length ∧ j = ps.length - i) (j0 := ps.length)
    ⟨0, List.replicate ps.length .nilslice, get_push_eq rfl, by simp, HSub.push1 _ _, by simp, fun j hj => by omega, fun j _ hj => by simp [hj], e1, e9, rfl, rfl, rfl, rfl, by omega, rfl⟩ ?_
   rintro j t h4 ⟨i, rows, gO, hrl, s4, z4, hrow, hnil, e1, e9, e14, e64, e65, e66, hi, hj⟩
   refine zs2 @e65 @e66 ?_
   refine Br.by (fun c2 => ?_) (fun c2 => ?_)
   ·have hi' : i < ps.length := by omega
    have ixi : idxA 2 lv (.int .i64 (i : Nat)) = some (elA 2 lv i) := lA.idx ⟨by omega, by omega⟩
    have ldi := (lA.mono s4).loadA hi'
    rw [codeCells_cut (q : Nat) vs i (by omega)] at ldi
    have xwi : ∃ wi, wi = vs.getD i .nilslice := ⟨_, rfl⟩
    obtain ⟨wi, hwi⟩ := xwi
    have Ri := RV i hi'
    rw [← hwi] at ldi Ri
    have one := Ri.one
    refine zs7 @e1 @e9 @e64 @e66 @ixi @ldi @lenA9 ?_
    have gO5 : (h4.push (.cells [wi, .int .i64 (q : Nat)] true 0)).get h2.size = some (.cells rows true 0) := (get_push_lt z4).trans gO
    refine wp_loopI (fun j t h' => ∃ (k : Nat) (rws : List AV), h'.get h2.size = some (.cells rws true 0) ∧ rws.length = ps.length ∧ HSub h2 h' ∧ h4.size < h'.size ∧ h'.get h4.size = some (.cells [wi, .int .i64 (q : Nat)] true 0) ∧ h4.size ∉ (rws.getD i .nilslice).ids ∧
     (∀ j, j < i → GrwI h2 h' (rws.getD j .nilslice) (tabRow d q ps j ps.length) ∧ h2.size ∉ (rws.getD j .nilslice).ids ∧ Dj (rws.getD j .nilslice) (rws.getD i .nilslice)) ∧ GrwI h2 h' (rws.getD i .nilslice) (tabRow d q ps i k) ∧ h2.size ∉ (rws.getD i .nilslice).ids ∧ (∀ j, i < j → j < ps.length → rws[j]? = some .nilslice) ∧
     t 1 = .int .i64 (q : Nat) ∧ t 9 = lv ∧ t 14 = .slice h2.size 0 ps.length (.known ps.length) ∧ t 15 = .int .i64 (i : Nat) ∧ t 16 = .ptr h4.size 0 ∧ t 64 = lv ∧ t 65 = .int .i64 (ps.length : Nat) ∧ t 66 = .int .i64 (i : Nat) ∧ t 71 = lv ∧ t 72 = .int .i64 (ps.length : Nat) ∧ t 73 = .int .i64 (k : Nat) ∧ k ≤ ps.length ∧ j = ps.length - k) (j0 := ps.length)
     ⟨0, rows, gO5, hrl, s4.push _, by simp, get_push_eq rfl, ?_, ?_, ?_, ?_, ?_, e1, e9, e14, rfl, rfl, e64, e65, e66, rfl, rfl, rfl, by omega, rfl⟩ ?_
    ·have := hnil i (Nat.le_refl _) hi'
     rw [List.getD_eq_getElem?_getD, this]; simp [AV.ids]
    ·intro j hj
     have hni := hnil i (Nat.le_refl _) hi'
     refine ⟨(hrow j hj).1.mono (HSub.push1 _ _), (hrow j hj).2, ?_⟩
     rw [List.getD_eq_getElem?_getD (i := i), hni]
     exact Dj.nilR
    ·have hni := hnil i (Nat.le_refl _) hi'
     rw [List.getD_eq_getElem?_getD (i := i), hni]
     exact GrwI.nil' (s4.push _)
    ·have hni := hnil i (Nat.le_refl _) hi'
     rw [List.getD_eq_getElem?_getD (i := i), hni]
     simp [AV.ids]
    ·intro j hj hj2
     exact hnil j (by omega) hj2
    rintro j t h5 ⟨k, rws, gO, hrl, s5, z5, g16, n16, hrow, hri, nri, hnil, e1, e9, e14, e15, e16, e64, e65, e66, e71, e72, e73, hk, hj⟩
    refine zs2 @e72 @e73 ?_
    refine Br.by (fun c3 => ?_) (fun c3 => ?_)
    ·have hk' : k < ps.length := by omega
     have ixk : idxA 2 lv (.int .i64 (k : Nat)) = some (elA 2 lv k) := lA.idx ⟨by omega, by omega⟩
     have ldk := (lA.mono s5).loadA hk'
     rw [codeCells_cut (q : Nat) vs k (by omega)] at ldk
     have xwk : ∃ wk, wk = vs.getD k .nilslice := ⟨_, rfl⟩
     obtain ⟨wk, hwk⟩ := xwk
     have Rk := RV k hk'
     rw [← hwk] at ldk Rk
     have onek := Rk.one
     have xr : ∃ ri, ri = rws.getD i .nilslice := ⟨_, rfl⟩
     obtain ⟨ri, hrid⟩ := xr
     rw [← hrid] at hri nri n16
     have rget : rws[i]? = some ri := by rw [hrid]; simp [List.getD_eq_getElem?_getD, show i < rws.length by omega]
     by_cases cik : i = k
     ·subst cik
      have sx := tabRow_succ d q ps i i
      rw [if_pos rfl] at sx
      have sl := tabRow_length d q ps i i
      refine zs11 @e1 @e14 @e15 @e16 @e71 @e73 @ixk @ldk @gO @rget @g16 ?_
      refine ACallsK.hide (fun H hH => ?_)
      have N : H.size = h5.size + 15 := by rw [hH]; exact ze
      have gH : ∀ j, j < h5.size → H.get j = h5.get j := by
       intro j hj
       rw [hH, Heap.get_reserve, get_push_lt hj]
      have gN : ∀ j, h5.size + 1 ≤ j → H.get j = none := by
       intro j hj
       rw [hH, Heap.get_reserve]
       exact Heap.wf _ j (by simpa using hj)
      have hs5 : HSub h5 H := ⟨by omega, gH⟩
      clear hH
      have gO6 := (gH _ (by omega)).trans gO
      have gp := great_spec (zu hC T183) (o1 := (q : Nat)) (o2 := (q : Nat)) (mg := q) (h := H) (Ri.mono (s5.trans hs5)) (Rk.mono (s5.trans hs5)) (sampL_one1 _ _ _) (sampL_one1 _ _ _) ⟨by simp only [sz], by rw [sz]; omega, by rw [sz]; omega⟩ (by omega)
      refine ACallsK.eq gp ?_
      have ap := fun b => Grw.appG (H := H.put (h5.size + 1 + 10) b) (k := h5.size + 1 + 11) (m := 1) (bytes := 8) (news := [.int .i64 (greatI (sampL d (ps.getD i 0) q) (sampL d (ps.getD i 0) q) q)]) hri (fun j hj => by rw [get_put_ne (by have := (Grw.ids_lt hri j hj).2; omega)]; exact gH j (Grw.ids_lt hri j hj).2) ⟨by omega, by simp only [Heap.size_put]; omega⟩ (by decide) (by omega) (by rfl)
      rw [ints_snoc, ← sx, sl] at ap
      have g10 := gN (h5.size + 1 + 10) (by omega)
      have g11 := gN (h5.size + 1 + 11) (by omega)
      refine zs7 @g10 @g11 @cont_slice @contB_one @ap @appK_none @e14 ?_
      refine ⟨gH _ (by omega), ?_⟩
      have gF := fun b => (snocS_ne (H := H.put (h5.size + 1 + 10) b) (k := h5.size + 1 + 11) (v := ri) (sz := 1) (cs := ints (tabRow d q ps i (i + 1))) (j := h2.size) (by omega) nri).trans ((get_put_ne (by omega)).trans gO6)
      have zF := fun b => snocS_size (H := H.put (h5.size + 1 + 10) b) (k := h5.size + 1 + 11) (v := ri) (sz := 1) (cs := ints (tabRow d q ps i (i + 1)))
      have rF := fun b => snocS_same (H := H.put (h5.size + 1 + 10) b) (k := h5.size + 1 + 11) (v := ri) (sz := 1) (cs := ints (tabRow d q ps i (i + 1))) (by simp only [Heap.size_put]; omega)
      have bF := fun b => snocS_sub (H := H.put (h5.size + 1 + 10) b) (k := h5.size + 1 + 11) (ds := ints (tabRow d q ps i (i + 1))) hri ((s5.trans hs5).put (by omega) b) (by omega)
      have oF := fun b (j : Nat) (hj : j < h5.size) (hv : j ∉ ri.ids) => (snocS_ne (H := H.put (h5.size + 1 + 10) b) (k := h5.size + 1 + 11) (v := ri) (sz := 1) (cs := ints (tabRow d q ps i (i + 1))) (j := j) (by omega) hv).trans ((get_put_ne (by omega)).trans (gH j hj))
      simp only [Heap.size_put] at zF
      refine zs12 @gF @e15 @e1 @e9 @e14 @e16 @e64 @e65 @e66 @e71 @e72 @e73 ?_
      have nw : ∀ j, j < i → (rws.set i (.slice (h5.size + 1 + 11) 0 (i + 1) (.unk 0))).getD j .nilslice = rws.getD j .nilslice := fun j hj => by simp [List.getD_eq_getElem?_getD, List.getElem?_set, show ¬ i = j by omega]
      have ne' : (rws.set i (.slice (h5.size + 1 + 11) 0 (i + 1) (.unk 0))).getD i .nilslice = .slice (h5.size + 1 + 11) 0 (i + 1) (.unk 0) := by simp [List.getD_eq_getElem?_getD, List.getElem?_set, show i < rws.length by omega]
      refine ⟨_, ⟨i + 1, rws.set i (.slice (h5.size + 1 + 11) 0 (i + 1) (.unk 0)), get_put_eq rfl (by rw [zF]; omega), by simp [hrl], (bF _).put (Nat.le_refl _) _, by rw [zF]; omega, (oF _ _ z5 n16).trans g16, by rw [ne']; simp only [AV.ids, List.mem_singleton]; omega, fun j hj => ?_, ?_, by rw [ne']; simp only [AV.ids, List.mem_singleton]; omega, fun j hj hj2 => ?_, by simp, by omega, rfl⟩, by omega⟩
      ·rw [nw j hj, ne']
       obtain ⟨B, nb, dj⟩ := hrow j hj
       rw [← hrid] at dj
       refine ⟨Grw.move B ((bF _).put (Nat.le_refl _) _) (fun x hx => ?_), nb, fun x hx hy => ?_⟩
       ·have xl := (Grw.ids_lt B x hx).2
        exact (get_put_ne (fun (e : x = h2.size) => nb (by rw [← e]; exact hx))).trans (oF _ x xl (dj x hx))
       ·have xl := (Grw.ids_lt B x hx).2
        simp only [AV.ids, List.mem_singleton] at hy
        omega
      ·rw [ne']
       exact grwI_mk ((bF _).put (Nat.le_refl _) _) (by omega) ⟨(tabRow_length _ _ _ _ _).symm, by rw [tabRow_length]; omega⟩ ((get_put_ne (by omega)).trans (rF _))
      ·rw [List.getElem?_set, if_neg (by omega)]
       exact hnil j hj hj2
     ·have cik' : ¬ ((i : Nat) : Int) = (k : Nat) := by omega
      have sx := tabRow_succ d q ps i k
      rw [if_neg cik] at sx
      have sl := tabRow_length d q ps i k
      refine zs11 @e1 @e14 @e15 @e16 @e71 @e73 @ixk @ldk @gO @rget @g16 ?_
      refine ACallsK.hide (fun H hH => ?_)
      have N : H.size = h5.size + 15 := by rw [hH]; exact ze
      have gH : ∀ j, j < h5.size → H.get j = h5.get j := by
       intro j hj
       rw [hH, Heap.get_reserve, get_push_lt hj]
      have gN : ∀ j, h5.size + 1 ≤ j → H.get j = none := by
       intro j hj
       rw [hH, Heap.get_reserve]
       exact Heap.wf _ j (by simpa using hj)
      have hs5 : HSub h5 H := ⟨by omega, gH⟩
      clear hH
      have gO6 := (gH _ (by omega)).trans gO
      have gp := great_spec (zu hC T183) (o1 := (q : Nat)) (o2 := (q : Nat)) (mg := 0) (h := H) (Ri.mono (s5.trans hs5)) (Rk.mono (s5.trans hs5)) (sampL_one1 _ _ _) (sampL_one1 _ _ _) ⟨by simp only [sz], by rw [sz]; omega, by rw [sz]; omega⟩ (by omega)
      refine ACallsK.eq gp ?_
      have ap := fun b => Grw.appG (H := H.put (h5.size + 1 + 10) b) (k := h5.size + 1 + 11) (m := 1) (bytes := 8) (news := [.int .i64 (greatI (sampL d (ps.getD i 0) q) (sampL d (ps.getD k 0) q) 0)]) hri (fun j hj => by rw [get_put_ne (by have := (Grw.ids_lt hri j hj).2; omega)]; exact gH j (Grw.ids_lt hri j hj).2) ⟨by omega, by simp only [Heap.size_put]; omega⟩ (by decide) (by omega) (by rfl)
      rw [ints_snoc, ← sx, sl] at ap
      have g10 := gN (h5.size + 1 + 10) (by omega)
      have g11 := gN (h5.size + 1 + 11) (by omega)
      refine zs7 @g10 @g11 @cont_slice @contB_one @ap @appK_none @e14 ?_
      refine ⟨gH _ (by omega), ?_⟩
      have gF := fun b => (snocS_ne (H := H.put (h5.size + 1 + 10) b) (k := h5.size + 1 + 11) (v := ri) (sz := 1) (cs := ints (tabRow d q ps i (k + 1))) (j := h2.size) (by omega) nri).trans ((get_put_ne (by omega)).trans gO6)
      have zF := fun b => snocS_size (H := H.put (h5.size + 1 + 10) b) (k := h5.size + 1 + 11) (v := ri) (sz := 1) (cs := ints (tabRow d q ps i (k + 1)))
      have rF := fun b => snocS_same (H := H.put (h5.size + 1 + 10) b) (k := h5.size + 1 + 11) (v := ri) (sz := 1) (cs := ints (tabRow d q ps i (k + 1))) (by simp only [Heap.size_put]; omega)
      have bF := fun b => snocS_sub (H := H.put (h5.size + 1 + 10) b) (k := h5.size + 1 + 11) (ds := ints (tabRow d q ps i (k + 1))) hri ((s5.trans hs5).put (by omega) b) (by omega)
      have oF := fun b (j : Nat) (hj : j < h5.size) (hv : j ∉ ri.ids) => (snocS_ne (H := H.put (h5.size + 1 + 10) b) (k := h5.size + 1 + 11) (v := ri) (sz := 1) (cs := ints (tabRow d q ps i (k + 1))) (j := j) (by omega) hv).trans ((get_put_ne (by omega)).trans (gH j hj))
      simp only [Heap.size_put] at zF
      refine zs12 @gF @e15 @e1 @e9 @e14 @e16 @e64 @e65 @e66 @e71 @e72 @e73 ?_
      have nw : ∀ j, j < i → (rws.set i (.slice (h5.size + 1 + 11) 0 (k + 1) (.unk 0))).getD j .nilslice = rws.getD j .nilslice := fun j hj => by simp [List.getD_eq_getElem?_getD, List.getElem?_set, show ¬ i = j by omega]
      have ne' : (rws.set i (.slice (h5.size + 1 + 11) 0 (k + 1) (.unk 0))).getD i .nilslice = .slice (h5.size + 1 + 11) 0 (k + 1) (.unk 0) := by simp [List.getD_eq_getElem?_getD, List.getElem?_set, show i < rws.length by omega]
      refine ⟨_, ⟨k + 1, rws.set i (.slice (h5.size + 1 + 11) 0 (k + 1) (.unk 0)), get_put_eq rfl (by rw [zF]; omega), by simp [hrl], (bF _).put (Nat.le_refl _) _, by rw [zF]; omega, (oF _ _ z5 n16).trans g16, by rw [ne']; simp only [AV.ids, List.mem_singleton]; omega, fun j hj => ?_, ?_, by rw [ne']; simp only [AV.ids, List.mem_singleton]; omega, fun j hj hj2 => ?_, by simp, by omega, rfl⟩, by omega⟩
      ·rw [nw j hj, ne']
       obtain ⟨B, nb, dj⟩ := hrow j hj
       rw [← hrid] at dj
       refine ⟨Grw.move B ((bF _).put (Nat.le_refl _) _) (fun x hx => ?_), nb, fun x hx hy => ?_⟩
       ·have xl := (Grw.ids_lt B x hx).2
        exact (get_put_ne (fun (e : x = h2.size) => nb (by rw [← e]; exact hx))).trans (oF _ x xl (dj x hx))
       ·have xl := (Grw.ids_lt B x hx).2
        simp only [AV.ids, List.mem_singleton] at hy
        omega
      ·rw [ne']
       exact grwI_mk ((bF _).put (Nat.le_refl _) _) (by omega) ⟨(tabRow_length _ _ _ _ _).symm, by rw [tabRow_length]; omega⟩ ((get_put_ne (by omega)).trans (rF _))
      ·rw [List.getElem?_set, if_neg (by omega)]
       exact hnil j hj hj2
    ·have ek : k = ps.length := by omega
     subst ek
     refine zs6 @e1 @e9 @e14 @e64 @e65 @e66 ?_
     refine ⟨_, ⟨i + 1, rws, gO, hrl, s5, by omega, fun j hj => ?_, fun j hj hj2 => hnil j (by omega) hj2, by simp, by omega, rfl⟩, by omega⟩
     rcases Nat.lt_or_ge j i with x | x
     ·exact ⟨(hrow j x).1, (hrow j x).2.1⟩
     ·have : j = i := by omega
      subst this
      exact ⟨hri, nri⟩
   ·have ei : i = ps.length := by omega
    subst ei
    have tl : (tblL d q ps).length = ps.length := by simp [tblL]
    refine zs1 @e14 ?_
    refine fin3 _ _ (A.sub.trans s4) ⟨rows, ⟨by rw [tl, Nat.mul_one]; exact hrl, by rw [tl]; omega, .inr ⟨h2.size, 0, .known ps.length, rows, true, 0, by rw [tl], gO, by rw [tl]; omega, by rw [tl]; exact cut_all (by omega), by rw [tl]; exact Nat.le_refl _⟩⟩, by rw [tl]; exact hrl, fun j hj => ?_⟩
    have hj' : j < ps.length := by simpa [tblL] using hj
    have e : (tblL d q ps).getD j [] = tabRow d q ps j ps.length := by simp [tblL, hj']
    rw [e]
    exact (hrow j hj').1.ri
 ·have pe : tabErr d o ps = 2 := by unfold tabErr; rw [if_pos ck]
  have ck2 : knownErr d o = 2 := by unfold knownErr at ck ⊢; split at ck <;> first | exact absurd rfl ck | (rename_i h; rw [if_neg h])
  refine zf hC tab172 ?_; simp only [B172]; refine zs ?_
  refine ACallsK.eq (known09_spec (zu hC T150) hd ho) ?_
  rw [ck2]
  refine zs ?_
  exact fin _ _ (HSub.refl _) pe (by decide)
end
end Go.Ae
/- The rules of the simplifier for maps. -/
namespace Go.Ae
def lookB (ks : AKey) (z : AV) (comma : Bool) (k : AV) : Option ABlk → Option AV
 | some (.map es) => if (keyEq ks k k).isSome = true then (findA ks k es 0).map (giveA z comma) else none
 | _ => none
def updB (h : Heap) (i : Nat) (ks : AKey) (k v : AV) : Option ABlk → Option Heap
 | some (.map es) => if (keyEq ks k k).isSome = true then (setA ks k v es).map fun es' => h.put i (.map es') else none
 | _ => none
def newMapA (nid : Option Nat) (h : Heap) : Option (AV × Heap) := if h.room nid = true then some (.map (h.nid nid), h.new nid (.map [])) else none
theorem opR_lookup {nid : Option Nat} {ev : AOpd → AV} {h : Heap} {K : AV → Heap → Prop} {ks : AKey} {z : AV} {comma : Bool} {m k : AOpd} : @opR nid (.lookup ks z comma m k) ev h ⟨K⟩ = @opt1 (lookA h ks z comma (ev m) (ev k)) h ⟨K⟩ := by
 simp only [opR, aOp, pureA, opt1]; cases lookA h ks z comma (ev m) (ev k) <;> rfl
theorem opR_mapUpd {nid : Option Nat} {ev : AOpd → AV} {h : Heap} {K : AV → Heap → Prop} {ks : AKey} {m k v : AOpd} : @opR nid (.mapUpd ks m k v) ev h ⟨K⟩ = @opt2 (storeOA (mapUpdA h ks (ev m) (ev k) (ev v))) ⟨K⟩ := by
 simp only [opR, aOp, opt2]; cases mapUpdA h ks (ev m) (ev k) (ev v) <;> rfl
theorem opR_makeMap {nid : Option Nat} {ev : AOpd → AV} {h : Heap} {K : AV → Heap → Prop} : @opR nid .makeMap ev h ⟨K⟩ = @opt2 (newMapA nid h) ⟨K⟩ := by
 simp only [opR, aOp, opt2, newMapA]; split <;> simp_all
theorem newMap_some {n : Nat} {h : Heap} : newMapA (some n) h = kept n h (h.get n) (fun n _ p => some (.map n, p (.map []))) := by
 simp only [newMapA, room_some, kept]
 cases hg : h.get n with
 | none => by_cases hn : n < h.size <;> simp [hn, Heap.nid, Heap.new]
 | some b => simp
theorem look_map {h : Heap} {ks : AKey} {z : AV} {comma : Bool} {i : Nat} {k : AV} : lookA h ks z comma (.map i) k = lookB ks z comma k (h.get i) := by
 unfold lookA lookB; dsimp only; cases h.get i with
 | none => rfl
 | some b => cases b <;> rfl
theorem upd_map {h : Heap} {ks : AKey} {i : Nat} {k v : AV} : mapUpdA h ks (.map i) k v = updB h i ks k v (h.get i) := by
 unfold mapUpdA updB; dsimp only; cases h.get i with
 | none => rfl
 | some b => cases b <;> rfl
theorem wpMap :
  (∀ {ks : AKey} {z : AV} {c : Bool} {m k : AOpd} {ev : AOpd → AV} {n : Nat}, footA (.lookup ks z c m k) ev n = (ev m).ids) ∧
  (∀ {ks : AKey} {z : AV} {c : Bool} {m k : AOpd} {ev : AOpd → AV} {n : Nat}, wrA (.lookup ks z c m k) ev n = []) ∧
  (∀ {ks : AKey} {m k v : AOpd} {ev : AOpd → AV} {n : Nat}, footA (.mapUpd ks m k v) ev n = (ev m).ids) ∧
  (∀ {ks : AKey} {m k v : AOpd} {ev : AOpd → AV} {n : Nat}, wrA (.mapUpd ks m k v) ev n = (ev m).ids) ∧
  (∀ {ev : AOpd → AV} {n : Nat}, footA .makeMap ev n = [n]) ∧ (∀ {ev : AOpd → AV} {n : Nat}, wrA .makeMap ev n = [n]) ∧
  (∀ {i : Nat}, AV.ids (.map i) = [i]) ∧ (∀ {i : Nat}, AV.cells (.map i) = [.map i]) ∧ (AV.cells .nilmap = [.nilmap]) ∧
  (∀ {i : Nat}, AV.one (.map i) = true) ∧ (AV.one .nilmap = true) ∧
  (∀ {nid : Option Nat} {ev : AOpd → AV} {h : Heap} {K : AV → Heap → Prop} {ks : AKey} {z : AV} {comma : Bool} {m k : AOpd}, @opR nid (.lookup ks z comma m k) ev h ⟨K⟩ = @opt1 (lookA h ks z comma (ev m) (ev k)) h ⟨K⟩) ∧
  (∀ {nid : Option Nat} {ev : AOpd → AV} {h : Heap} {K : AV → Heap → Prop} {ks : AKey} {m k v : AOpd}, @opR nid (.mapUpd ks m k v) ev h ⟨K⟩ = @opt2 (storeOA (mapUpdA h ks (ev m) (ev k) (ev v))) ⟨K⟩) ∧
  (∀ {nid : Option Nat} {ev : AOpd → AV} {h : Heap} {K : AV → Heap → Prop}, @opR nid .makeMap ev h ⟨K⟩ = @opt2 (newMapA nid h) ⟨K⟩) ∧
  (∀ {h : Heap}, newMapA none h = some (.map h.size, h.push (.map []))) ∧
  (∀ {n : Nat} {h : Heap}, newMapA (some n) h = kept n h (h.get n) (fun n _ p => some (.map n, p (.map [])))) ∧
  (∀ {h : Heap} {ks : AKey} {z : AV} {comma : Bool} {i : Nat} {k : AV}, lookA h ks z comma (.map i) k = lookB ks z comma k (h.get i)) ∧
  (∀ {h : Heap} {ks : AKey} {i : Nat} {k v : AV}, mapUpdA h ks (.map i) k v = updB h i ks k v (h.get i)) ∧
  (∀ {z : List AV} {o i : Nat} {rest : List (Nat × Nat × AV)}, o < z.length → fillA z ((o, 1, .map i) :: rest) = fillA (z.set o (.map i)) rest) ∧
  (∀ {z : List AV} {o : Nat} {rest : List (Nat × Nat × AV)}, o < z.length → fillA z ((o, 1, .nilmap) :: rest) = fillA (z.set o .nilmap) rest) :=
 ⟨rfl, rfl, rfl, rfl, rfl, rfl, rfl, rfl, rfl, rfl, rfl, opR_lookup, opR_mapUpd, opR_makeMap, rfl, newMap_some, look_map, upd_map, fun ho => fill_one rfl ho, fun ho => fill_one rfl ho⟩
end Go.Ae
/- Gains and plans are checked; the coarseness; both. -/
set_option linter.unusedSimpArgs false
set_option linter.unusedVariables false
namespace Go.Ae
def gErr (b s : Int) : Int := if 2 ≤ b ∧ b ≤ 8 ∧ 0 ≤ s ∧ s ≤ 30 then 0 else 2
def gA (b s : Int) : AV := .agg [.int .i64 b, .int .i64 s]
def coarI (s : Int) : Int := 2 ^ s.toNat / 2
theorem gErr_ok {b s : Int} (h : gErr b s = 0) : 2 ≤ b ∧ b ≤ 8 ∧ 0 ≤ s ∧ s ≤ 30 := by
 unfold gErr at h
 split at h
 ·assumption
 ·cases h
theorem gErr_cases (b s : Int) : gErr b s = 0 ∨ gErr b s = 2 := by unfold gErr; split <;> simp
theorem pow_30 {s : Int} (h : 0 ≤ s ∧ s ≤ 30) : 1 ≤ (2 : Int) ^ s.toNat ∧ (2 : Int) ^ s.toNat ≤ 1073741824 := by
 obtain ⟨k, rfl⟩ := Int.eq_ofNat_of_zero_le h.1
 rw [Int.toNat_natCast]
 have e : (2 : Int) ^ k = ((2 ^ k : Nat) : Int) := by rw [Int.natCast_pow]; rfl
 have h1 : (2 : Nat) ^ k ≤ 2 ^ 30 := Nat.pow_le_pow_right (by decide) (by omega)
 have h2 : 1 ≤ (2 : Nat) ^ k := Nat.one_le_two_pow
 have h3 : (2 : Nat) ^ 30 = 1073741824 := by decide
 rw [e]
 generalize (2 : Nat) ^ k = q at *
 omega
section
variable {C : Ctx}
theorem qCheck_spec (hC : Has C T357) {b s : Int} {h : Heap} : ACalls C 357 [gA b s] h (fun r h' => r = .int .i64 (gErr b s) ∧ h' = h) := by
 refine ACalls.gc0 (P := fun r h' => r = .int .i64 (gErr b s) ∧ HSub h h') ?_ (fun r h' hp => ⟨by rw [hp.1]; trivial, hp.2, hp.1, rfl⟩)
 unfold gErr gA
 by_cases c1 : b < 2
 ·rw [if_neg (by omega)]
  refine zf hC tab357 ?_; simp only [B357]; refine zs2 @c1 @gV_u ?_
  exact HSub.push1 _ _
 by_cases c2 : 8 < b
 ·rw [if_neg (by omega)]
  refine zf hC tab357 ?_; simp only [B357]; refine zs3 @c1 @c2 @gV_u ?_
  exact HSub.push1 _ _
 by_cases c3 : s < 0
 ·rw [if_neg (by omega)]
  refine zf hC tab357 ?_; simp only [B357]; refine zs4 @c1 @c2 @c3 @gV_u ?_
  exact HSub.push1 _ _
 by_cases c4 : 30 < s
 ·rw [if_neg (by omega)]
  refine zf hC tab357 ?_; simp only [B357]; refine zs5 @c1 @c2 @c3 @c4 @gV_u ?_
  exact HSub.push1 _ _
 rw [if_pos (by omega)]
 refine zf hC tab357 ?_; simp only [B357]; refine zs5 @c1 @c2 @c3 @c4 @gV_u ?_
 exact HSub.push1 _ _
theorem rCheck_spec (hC : Has C T352) {b s : Int} {h : Heap} : ACalls C 352 [gA b s] h (fun r h' => r = .int .i64 (gErr b s) ∧ h' = h) := by
 refine ACalls.gc0 (P := fun r h' => r = .int .i64 (gErr b s) ∧ HSub h h') ?_ (fun r h' hp => ⟨by rw [hp.1]; trivial, hp.2, hp.1, rfl⟩)
 unfold gErr gA
 by_cases c1 : b < 2
 ·rw [if_neg (by omega)]
  refine zf hC tab352 ?_; simp only [B352]; refine zs2 @c1 @gV_u ?_
  exact HSub.push1 _ _
 by_cases c2 : 8 < b
 ·rw [if_neg (by omega)]
  refine zf hC tab352 ?_; simp only [B352]; refine zs3 @c1 @c2 @gV_u ?_
  exact HSub.push1 _ _
 by_cases c3 : s < 0
 ·rw [if_neg (by omega)]
  refine zf hC tab352 ?_; simp only [B352]; refine zs4 @c1 @c2 @c3 @gV_u ?_
  exact HSub.push1 _ _
 by_cases c4 : 30 < s
 ·rw [if_neg (by omega)]
  refine zf hC tab352 ?_; simp only [B352]; refine zs5 @c1 @c2 @c3 @c4 @gV_u ?_
  exact HSub.push1 _ _
 rw [if_pos (by omega)]
 refine zf hC tab352 ?_; simp only [B352]; refine zs5 @c1 @c2 @c3 @c4 @gV_u ?_
 exact HSub.push1 _ _
def coarE (b s : Int) : AV := if gErr b s = 0 then tup2 (coarI s) 0 else tup2 0 2
theorem qCoarse_spec (hC : Has C T351) {b s : Int} {h : Heap} : ACalls C 351 [gA b s] h (fun r h' => r = coarE b s ∧ h' = h) := by
 refine ACalls.gc0 (P := fun r h' => r = coarE b s ∧ HSub h h') ?_ (fun r h' hp => ⟨by rw [hp.1]; unfold coarE tup2; split <;> exact ⟨trivial, trivial, trivial⟩, hp.2, hp.1, rfl⟩)
 have kc := fun h => qCheck_spec (b := b) (s := s) (h := h) (zu hC T357)
 unfold coarE coarI
 unfold gA at kc ⊢
 rcases gErr_cases b s with c | c
 ·rw [if_pos c]
  have g := gErr_ok c
  have p := pow_30 g.2.2
  rw [c] at kc
  generalize hP : (2 : Int) ^ s.toNat = P at *
  refine zf hC tab351 ?_; simp only [B351]; refine zs ?_
  refine ACallsK.eq (kc _) ?_
  refine zs ?_
  rw [hP, Int.one_mul]
  exact ⟨rfl, HSub.push1 _ _⟩
 ·rw [if_neg (by omega)]
  rw [c] at kc
  refine zf hC tab351 ?_; simp only [B351]; refine zs ?_
  refine ACallsK.eq (kc _) ?_
  refine zs ?_
  exact ⟨rfl, HSub.push1 _ _⟩
end
end Go.Ae
/- Samples are quantised: the reference. -/
set_option linter.unusedSimpArgs false
set_option linter.unusedVariables false
namespace Go.Ae
def rndI (x s : Int) : Int := if s = 0 then x else if x < 0 then -((-x + 2 ^ (s - 1).toNat) / 2 ^ s.toNat) else (x + 2 ^ (s - 1).toNat) / 2 ^ s.toNat
theorem pow_half {s : Int} (h : 1 ≤ s) : (2 : Int) ^ s.toNat = 2 * 2 ^ (s - 1).toNat := by
 obtain ⟨k, hk⟩ := Int.eq_ofNat_of_zero_le (show 0 ≤ s - 1 by omega)
 have e : s.toNat = k + 1 := by omega
 rw [hk, Int.toNat_natCast, e, Int.pow_succ, Int.mul_comm]
theorem rnd_near {x s : Int} (h : 0 ≤ s ∧ s ≤ 30) : -coarI s ≤ 2 ^ s.toNat * rndI x s - x ∧ 2 ^ s.toNat * rndI x s - x ≤ coarI s := by
 unfold rndI coarI
 by_cases c : s = 0
 ·subst c; simp
 ·rw [if_neg c]
  have p := pow_30 (s := s - 1) (by omega)
  rw [pow_half (by omega)]
  generalize (2 : Int) ^ (s - 1).toNat = P at *
  have e2 : 2 * P / 2 = P := by omega
  rw [e2]
  split
  ·have a := Int.ediv_mul_le (-x + P) (show 2 * P ≠ 0 by omega)
   have b := Int.lt_ediv_add_one_mul_self (-x + P) (show 0 < 2 * P by omega)
   generalize (-x + P) / (2 * P) = q at *
   rw [Int.add_mul, Int.one_mul] at b
   rw [Int.mul_neg, Int.mul_comm (2 * P) q]
   generalize q * (2 * P) = Y at *
   omega
  ·have a := Int.ediv_mul_le (x + P) (show 2 * P ≠ 0 by omega)
   have b := Int.lt_ediv_add_one_mul_self (x + P) (show 0 < 2 * P by omega)
   generalize (x + P) / (2 * P) = q at *
   rw [Int.add_mul, Int.one_mul] at b
   rw [Int.mul_comm (2 * P) q]
   generalize q * (2 * P) = Y at *
   omega
theorem rnd_range {x s M : Int} (h : 0 ≤ s ∧ s ≤ 30) (hx : -M ≤ x ∧ x ≤ M) : -(M + 536870912) ≤ rndI x s ∧ rndI x s ≤ M + 536870912 := by
 unfold rndI
 by_cases c : s = 0
 ·rw [if_pos c]; omega
 ·rw [if_neg c]
  have p := pow_30 (s := s - 1) (by omega)
  have p29 : (2 : Int) ^ (s - 1).toNat ≤ 536870912 := by
   have := pow_30 h
   rw [pow_half (by omega)] at this
   omega
  have p2 := pow_30 h
  split
  ·have a := Int.ediv_nonneg (show 0 ≤ -x + 2 ^ (s - 1).toNat by omega) (show 0 ≤ (2 : Int) ^ s.toNat by omega)
   have b := Int.ediv_le_self (2 ^ s.toNat) (show 0 ≤ -x + 2 ^ (s - 1).toNat by omega)
   omega
  ·have a := Int.ediv_nonneg (show 0 ≤ x + 2 ^ (s - 1).toNat by omega) (show 0 ≤ (2 : Int) ^ s.toNat by omega)
   have b := Int.ediv_le_self (2 ^ s.toNat) (show 0 ≤ x + 2 ^ (s - 1).toNat by omega)
   omega
def topI (b : Int) : Int := 2 ^ (b - 1).toNat - 1
def lvlI (b s x : Int) : Int := if topI b < rndI x s then topI b else if rndI x s < -topI b then -topI b else rndI x s
def lostB (b s x : Int) : Bool := decide (topI b < rndI x s ∨ rndI x s < -topI b)
theorem top_range {b : Int} (h : 2 ≤ b ∧ b ≤ 8) : 1 ≤ topI b ∧ topI b ≤ 127 := by
 unfold topI
 rcases (show b = 2 ∨ b = 3 ∨ b = 4 ∨ b = 5 ∨ b = 6 ∨ b = 7 ∨ b = 8 by omega) with e | e | e | e | e | e | e <;> rw [e] <;> decide
def qntL (b s : Int) (l : List (Int × Int)) : List (Int × Int) := l.map fun x => (lvlI b s x.1, lvlI b s x.2)
def qntK (b s : Int) (l : List (Int × Int)) (k : Nat) : List (Int × Int) := (List.range l.length).map fun i => if i < k then (lvlI b s (l.getD i (0, 0)).1, lvlI b s (l.getD i (0, 0)).2) else (0, 0)
theorem qntK_length {b s : Int} {l : List (Int × Int)} {k : Nat} : (qntK b s l k).length = l.length := by simp [qntK]
theorem qntK_zero {b s : Int} {l : List (Int × Int)} : qntK b s l 0 = List.replicate l.length (0, 0) := by
 refine List.ext_getElem (by simp [qntK]) fun i h1 h2 => ?_
 simp [qntK]
theorem qntK_set {b s : Int} {l : List (Int × Int)} {k : Nat} (hk : k < l.length) : (qntK b s l k).set k (lvlI b s (l.getD k (0, 0)).1, lvlI b s (l.getD k (0, 0)).2) = qntK b s l (k + 1) := by
 refine List.ext_getElem (by simp [qntK]) fun i h1 h2 => ?_
 simp only [qntK, List.getElem_set, List.getElem_map, List.getElem_range]
 by_cases c : k = i
 ·subst c; simp
 ·rw [if_neg c]
  by_cases c2 : i < k
  ·rw [if_pos c2, if_pos (by omega)]
  ·rw [if_neg c2, if_neg (by omega)]
theorem qntK_all {b s : Int} {l : List (Int × Int)} : qntK b s l l.length = qntL b s l := by
 refine List.ext_getElem (by simp [qntK, qntL]) fun i h1 h2 => ?_
 have hi : i < l.length := by simpa [qntK] using h1
 simp [qntK, qntL, hi]
def lostK (b s : Int) (l : List (Int × Int)) : Nat → Int
 | 0 => 0
 | k + 1 => lostK b s l k + if (lostB b s (l.getD k (0, 0)).1 || lostB b s (l.getD k (0, 0)).2) = true then 1 else 0
theorem lostK_range {b s : Int} {l : List (Int × Int)} : ∀ k : Nat, 0 ≤ lostK b s l k ∧ lostK b s l k ≤ k
 | 0 => by simp [lostK]
 | k + 1 => by
  have := lostK_range (b := b) (s := s) (l := l) k
  unfold lostK
  split <;> omega
theorem lostK_none {b s : Int} {l : List (Int × Int)} : ∀ {k : Nat}, lostK b s l k = 0 → ∀ i, i < k → lostB b s (l.getD i (0, 0)).1 = false ∧ lostB b s (l.getD i (0, 0)).2 = false
 | 0, _, i, hi => absurd hi (Nat.not_lt_zero i)
 | k + 1, h, i, hi => by
  have r := lostK_range (b := b) (s := s) (l := l) k
  unfold lostK at h
  split at h
  ·omega
  ·rename_i c
   rcases Nat.lt_or_ge i k with x | x
   ·exact lostK_none (by omega) i x
   ·obtain rfl : i = k := by omega
    simpa using c
def inQ (x : Int) : Prop := -70368744177664 ≤ x ∧ x ≤ 70368744177664
theorem SI.putI {h : Heap} {v : AV} {l : List (Int × Int)} {i : Nat} {b : ABlk} (H : SI h v l) (hd : ∀ j ∈ v.ids, j ≠ i) : SI (h.put i b) v l := by
 obtain ⟨hl, hn, ⟨rfl, h1⟩ | ⟨j, o, c, ws, wr, u, rfl, hg, h2⟩⟩ := H
 ·exact ⟨hl, hn, .inl ⟨rfl, h1⟩⟩
 ·exact ⟨hl, hn, .inr ⟨j, o, c, ws, wr, u, rfl, (get_put_ne (hd j (by simp [AV.ids]))).trans hg, h2⟩⟩
section
variable {C : Ctx}
theorem rounded360_pos (hC : Has C T360) {x s : Int} {h : Heap} (hx : inQ x) (h0 : 0 ≤ x) (hs : 0 ≤ s ∧ s ≤ 30) : ACalls C 360 [.int .i64 x, .int .i64 s] h (fun r h' => r = .int .i64 (rndI x s) ∧ h' = h) := by
 unfold inQ at hx
 unfold rndI
 by_cases c : s = 0
 ·rw [if_pos c]
  refine zf hC tab360 ?_; simp only [B360]; exact ze1 @c
 ·rw [if_neg c, if_neg (by omega)]
  have p := pow_30 (s := s - 1) (by omega)
  have fd := Int.fdiv_eq_ediv_of_nonneg (x + 2 ^ (s - 1).toNat) (show 0 ≤ (2 : Int) ^ s.toNat by have := pow_30 hs; omega)
  refine zf hC tab360 ?_; simp only [B360]; exact ze3 @c @Int.one_mul @fd
theorem rounded360_spec (hC : Has C T360) {x s : Int} {h : Heap} (hx : inQ x) (hs : 0 ≤ s ∧ s ≤ 30) : ACalls C 360 [.int .i64 x, .int .i64 s] h (fun r h' => r = .int .i64 (rndI x s) ∧ h' = h) := by
 by_cases c : x < 0
 ·have hx' : inQ (-x) := by unfold inQ at *; omega
  have k := fun H => rounded360_pos (h := H) hC hx' (by omega) hs
  have e : rndI x s = -rndI (-x) s := by
   unfold rndI
   by_cases c2 : s = 0
   ·rw [if_pos c2, if_pos c2]; omega
   ·rw [if_neg c2, if_neg c2, if_pos c, if_neg (by omega)]
  have r := rnd_range (x := -x) (s := s) (M := 70368744177664) hs hx'
  unfold inQ at hx
  rw [e]
  generalize rndI (-x) s = q at *
  have e0 : (0 : Int) - x = -x := by omega
  have e1 : (0 : Int) - q = -q := by omega
  refine zf hC tab360 ?_; simp only [B360]; refine zs2 @c @e0 ?_
  refine ACallsK.eq (k _) ?_
  exact ze1 @e1
 ·exact rounded360_pos hC hx (by omega) hs
theorem top361_spec (hC : Has C T361) {b s : Int} {h : Heap} (hb : 2 ≤ b ∧ b ≤ 8) : ACalls C 361 [gA b s] h (fun r h' => r = .int .i64 (topI b) ∧ h' = h) := by
 refine ACalls.gc0 (P := fun r h' => r = .int .i64 (topI b) ∧ HSub h h') ?_ (fun r h' hp => ⟨by rw [hp.1]; trivial, hp.2, hp.1, rfl⟩)
 have t := top_range hb
 unfold topI at *
 unfold gA
 refine zf hC tab361 ?_; simp only [B361]; refine zs1 @Int.one_mul ?_
 exact (zh (HSub.refl h))
def lvlE (b s x : Int) : AV := .tuple [.int .i64 (lvlI b s x), .bool (lostB b s x)]
theorem level359_spec (hC : Has C T359) {b s x : Int} {h : Heap} (hg : gErr b s = 0) (hx : inQ x) : ACalls C 359 [gA b s, .int .i64 x] h (fun r h' => r = lvlE b s x ∧ h' = h) := by
 refine ACalls.gc0 (P := fun r h' => r = lvlE b s x ∧ HSub h h') ?_ (fun r h' hp => ⟨by rw [hp.1]; exact ⟨trivial, trivial, trivial⟩, hp.2, hp.1, rfl⟩)
 have g := gErr_ok hg
 have k1 := fun H => rounded360_spec (zu hC T360) (h := H) hx g.2.2
 have k2 := fun H => top361_spec (zu hC T361) (s := s) (h := H) (b := b) (by omega)
 have t := top_range (b := b) (by omega)
 have r := rnd_range (x := x) (s := s) (M := 70368744177664) g.2.2 hx
 unfold lvlE lvlI lostB
 unfold gA at *
 generalize topI b = T at *
 generalize rndI x s = q at *
 have e1 : (0 : Int) - T = -T := by omega
 refine zf hC tab359 ?_; simp only [B359]; refine zs ?_
 refine ACallsK.eq (k1 _) ?_
 refine zs ?_
 refine ACallsK.eq (k2 _) ?_
 by_cases c1 : T < q
 ·rw [if_pos c1, decide_eq_true (.inl c1)]
  refine zs1 @c1 ?_
  exact (zh (HSub.refl h))
 ·rw [if_neg c1]
  by_cases c2 : q < -T
  ·rw [if_pos c2, decide_eq_true (.inr c2)]
   refine zs3 @c1 @c2 @e1 ?_
   exact (zh (HSub.refl h))
  ·rw [if_neg c2, decide_eq_false (by omega)]
   refine zs3 @c1 @c2 @e1 ?_
   exact (zh (HSub.refl h))
theorem part358_spec (hC : Has C T358) {x : Int} {h : Heap} : ACalls C 358 [.int .i64 x] h (fun r h' => r = .bool (decide (-70368744177664 ≤ x ∧ x ≤ 70368744177664)) ∧ h' = h) := by
 by_cases c1 : -70368744177664 ≤ x
 ·by_cases c2 : x ≤ 70368744177664
  ·rw [decide_eq_true ⟨c1, c2⟩]
   refine zf hC tab358 ?_; simp only [B358]; exact ze3 @c1 @c2 @gV_u
  ·rw [decide_eq_false (fun q => c2 q.2)]
   refine zf hC tab358 ?_; simp only [B358]; exact ze3 @c1 @c2 @gV_u
 ·rw [decide_eq_false (fun q => c1 q.1)]
  refine zf hC tab358 ?_; simp only [B358]; exact ze2 @c1 @gV_u
theorem check353_spec (hC : Has C T353) {v : AV} {l : List (Int × Int)} {h : Heap} (S : SI h v l) (hl : l.length ≤ 1048576) (hq : ∀ x ∈ l, inQ x.1 ∧ inQ x.2) : ACalls C 353 [v] h (fun r h' => r = .int .i64 0 ∧ h' = h) := by
 have kp := fun x H => part358_spec (zu hC T358) (x := x) (h := H)
 refine zf hC tab353 ?_; simp only [B353]; refine zs1 @S.len ?_
 refine wp_loopI (fun j t h' => h' = h ∧ ∃ k : Nat, t 0 = v ∧ t 3 = .int .i64 (k : Nat) ∧ k ≤ l.length ∧ j = l.length - k) (j0 := l.length)
  ⟨rfl, 0, rfl, rfl, by omega, rfl⟩ ?_
 rintro j t h' ⟨rfl, k, e0, e3, hk, hj⟩
 refine zs3 @e0 @e3 @S.len ?_
 refine Br.by (fun c => ?_) (fun c => ?_)
 ·have hk' : k < l.length := by omega
  have q := hq _ (getP_mem hk')
  have k1 := fun H => kp (l.getD k (0, 0)).1 H
  have k2 := fun H => kp (l.getD k (0, 0)).2 H
  have d1 : decide (-70368744177664 ≤ (l.getD k (0, 0)).1 ∧ (l.getD k (0, 0)).1 ≤ 70368744177664) = true := decide_eq_true q.1
  have d2 : decide (-70368744177664 ≤ (l.getD k (0, 0)).2 ∧ (l.getD k (0, 0)).2 ≤ 70368744177664) = true := decide_eq_true q.2
  rw [d1] at k1
  rw [d2] at k2
  refine zs6 @e0 @e3 @S.idx @S.fld (S.load0 hk') (S.load1 hk') ?_
  refine ACallsK.eq (k1 _) ?_
  refine zs7 @e0 @e3 @S.idx @S.fld (S.load0 hk') (S.load1 hk') @gV_u ?_
  refine ACallsK.eq (k2 _) ?_
  refine zs3 @e0 @e3 @gV_u ?_
  exact ⟨_, ⟨k + 1, by omega, by omega, rfl⟩, by omega⟩
 ·exact ze
set_option maxRecDepth 20000 in
set_option maxHeartbeats 1000000 in
theorem quantised354_spec (hC : Has C T354) {v : AV} {l : List (Int × Int)} {b s : Int} {h : Heap} (S : SI h v l) (hg : gErr b s = 0) (hl : l.length ≤ 1048576) (hq : ∀ x ∈ l, inQ x.1 ∧ inQ x.2) :
  ACalls C 354 [v, gA b s] h (fun r h' => HSub h h' ∧ ∃ w, r = .agg [w, .int .i64 (lostK b s l l.length)] ∧ SI h' w (qntL b s l) ∧ ∀ i ∈ w.ids, h.size ≤ i) := by
 have v1 := S.one
 have kl := fun x H (hx : inQ x) => level359_spec (zu hC T359) (h := H) hg hx
 unfold lvlE gA at *
 have zr := smps_replicate (p := (0, 0)) (n := l.length)
 simp only at zr
 rw [← qntK_zero (b := b) (s := s)] at zr
 refine zf hC tab354 ?_; simp only [B354]; refine zs2 @S.len @zr ?_
 refine wp_loopI (fun j t h' => HSub h h' ∧ ∃ k : Nat, h'.get h.size = some (.cells [.int .i64 b, .int .i64 s] true 0) ∧ h'.get (h.size + 1) = some (.cells [.nilslice, .int .i64 0] true 0) ∧ h'.get (h.size + 2) = some (.cells (smps (qntK b s l k)) true 0) ∧ h'.get (h.size + 3) = some (.cells [.slice (h.size + 2) 0 l.length (.known l.length), .int .i64 (lostK b s l k)] true 0) ∧
  t 0 = v ∧ t 3 = .ptr h.size 0 ∧ t 4 = .ptr (h.size + 1) 0 ∧ t 5 = .ptr (h.size + 3) 0 ∧ t 6 = .int .i64 (k : Nat) ∧ k ≤ l.length ∧ j = l.length - k) (j0 := l.length)
  ⟨(zh (HSub.refl h)), 0, by exact ze, by exact ze, by exact ze, by refine zs ?_; rfl, rfl, rfl, rfl, rfl, rfl, by omega, rfl⟩ ?_
 rintro j t h1 ⟨sH, k, g0, g1, g2, g3, e0, e3, e4, e5, e6, hk, hj⟩
 have S1 := S.mono sH
 have z3 := Heap.lt_of_get g3
 refine zs3 @e0 @e6 @S1.len ?_
 refine Br.by (fun c => ?_) (fun c => ?_)
 ·have hk' : k < l.length := by omega
  have q := hq _ (getP_mem hk')
  have k1 := fun H => kl _ H q.1
  have k2 := fun H => kl _ H q.2
  have lr := lostK_range (b := b) (s := s) (l := l) k
  have ls : lostK b s l (k + 1) = lostK b s l k + if (lostB b s (l.getD k (0, 0)).1 || lostB b s (l.getD k (0, 0)).2) = true then 1 else 0 := rfl
  have st := qntK_set (b := b) (s := s) hk'
  have sp := smps_splice (l := qntK b s l k) (k := k) (p := (lvlI b s (l.getD k (0, 0)).1, lvlI b s (l.getD k (0, 0)).2)) (by rw [qntK_length]; exact hk')
  rw [st] at sp
  have ln2 : (smps (qntK b s l k)).length = l.length * 2 := by rw [smps_length, qntK_length]
  dsimp only at sp
  have ld0 := S1.load0 hk'
  have ld1 := S1.load1 hk'
  generalize lvlI b s (l.getD k (0, 0)).1 = y1 at *
  generalize lvlI b s (l.getD k (0, 0)).2 = y2 at *
  generalize lostB b s (l.getD k (0, 0)).1 = b1 at *
  generalize lostB b s (l.getD k (0, 0)).2 = b2 at *
  refine zs7 @e0 @e3 @e6 @g0 @S1.idx @S1.fld @ld0 ?_
  refine ACallsK.eq (k1 _) ?_
  refine zs7 @e0 @e3 @e6 @g0 @S1.idx @S1.fld @ld1 ?_
  refine ACallsK.eq (k2 _) ?_
  cases b1 with
  | true =>
   simp only [Bool.true_or, if_true] at ls
   refine zs11 @e0 @e3 @e4 @e5 @e6 @g1 @g2 @g3 @sp @ln2 @gV_u ?_
   exact ⟨_, ⟨HSub.put (HSub.put sH (by omega) _) (by omega) _, k + 1, g0, rfl, by rw [ls], by omega, by omega, rfl⟩, by omega⟩
  | false =>
   cases b2 with
   | true =>
    simp only [Bool.false_or, if_true] at ls
    refine zs11 @e0 @e3 @e4 @e5 @e6 @g1 @g2 @g3 @sp @ln2 @gV_u ?_
    exact ⟨_, ⟨HSub.put (HSub.put sH (by omega) _) (by omega) _, k + 1, g0, rfl, by rw [ls], by omega, by omega, rfl⟩, by omega⟩
   | false =>
    simp only [Bool.false_or, Bool.false_eq_true, if_false, Int.add_zero] at ls
    refine zs11 @e0 @e3 @e4 @e5 @e6 @g1 @g2 @g3 @sp @ln2 @gV_u ?_
    exact ⟨_, ⟨HSub.put sH (by omega) _, k + 1, g0, rfl, by rw [ls], by omega, by omega, rfl⟩, by omega⟩
 ·obtain rfl : k = l.length := by omega
  rw [qntK_all] at g2
  refine zs4 @e4 @e5 @g1 @g3 ?_
  refine ⟨HSub.put sH (by omega) _, _, rfl, SI.known (u := 0) ((get_put_ne (by omega)).trans g2) ⟨by simp [qntL], by omega⟩ (Nat.le_refl _), fun i hi => by simp only [AV.ids, List.mem_singleton] at hi; omega⟩
theorem Quantise_spec (hC : Has C T345) {v : AV} {l : List (Int × Int)} {b s : Int} {h : Heap} (S : SI h v l) (hg : gErr b s = 0) (hl : l.length ≤ 1048576) (hq : ∀ x ∈ l, inQ x.1 ∧ inQ x.2) :
  ACalls C 345 [v, gA b s] h (fun r h' => HSub h h' ∧ ∃ w, r = .tuple [.agg [w, .int .i64 (lostK b s l l.length)], .int .i64 0] ∧ SI h' w (qntL b s l)) := by
 have v1 := S.one
 have k1 := fun H => rCheck_spec (zu hC T352) (h := H) (b := b) (s := s)
 have k2 := fun H (q : HSub h H) => check353_spec (zu hC T353) (h := H) (S.mono q) hl hq
 have k3 := fun H (q : HSub h H) => quantised354_spec (zu hC T354) (h := H) (S.mono q) hg hl hq
 rw [hg] at k1
 unfold gA at *
 refine zf hC tab345 ?_; simp only [B345]; refine zs ?_
 refine ACallsK.eq (k1 _) ?_
 refine zs ?_
 refine ACallsK.eq (k2 _ (zh (HSub.refl h))) ?_
 refine zs ?_
 refine ACallsK.of (k3 _ (zh (HSub.refl h))) ?_
 rintro r h1 ⟨s1, w, rfl, W, fr⟩
 simp only [Heap.size_push] at fr
 have g1 := (s1.get (h.size + 1) (by simp only [Heap.size_push]; omega)).trans (show _ = some (ABlk.cells [.nilslice, .int .i64 0] true 0) by exact ze)
 have w1 := W.one
 have hs1 := (show HSub h _ from (zh (HSub.refl h))).trans s1
 have z1 := s1.size
 simp only [Heap.size_push] at z1
 refine zs1 @g1 ?_
 exact ⟨HSub.put hs1 (by omega) _, w, rfl, W.putI (fun j hj => by have := fr j hj; omega)⟩
end
end Go.Ae
/- Maps from pairs of numbers, in plain lists; plans without errors have tables without errors. -/
set_option linter.unusedSimpArgs false
set_option linter.unusedVariables false
namespace Go.Ae
abbrev keyP (x y : Int) : AV := .agg [.int .i64 x, .int .i64 y]
abbrev ksP : AKey := .struct [(0, false), (1, false)]
def ents (f : Int → Int → Int) (K : List (Int × Int)) : List (AV × AV) := K.map fun t => (keyP t.1 t.2, .int .i64 (f t.1 t.2))
theorem keyP_eq (x y a b : Int) : keyEq ksP (keyP x y) (keyP a b) = some (x == a && (y == b && true)) := by
 simp [keyEq, eqCells]
theorem find_in {f : Int → Int → Int} {x y : Int} : ∀ {K : List (Int × Int)} {s : Nat}, (x, y) ∈ K → ∃ j, findA ksP (keyP x y) (ents f K) s = some (some (j, .int .i64 (f x y)))
 | [], s, h => by cases h
 | (a, b) :: K, s, h => by
  simp only [ents, List.map_cons, findA, keyP_eq]
  by_cases c : x = a ∧ y = b
  ·obtain ⟨rfl, rfl⟩ := c
   exact ⟨s, by simp⟩
  ·have e : (x == a && (y == b && true)) = false := by
    rcases Classical.em (x = a) with q | q
    ·subst q
     have : ¬ y = b := fun e => c ⟨rfl, e⟩
     simp [this]
    ·simp [q]
   rw [e]
   have h' : (x, y) ∈ K := by
    rcases List.mem_cons.1 h with q | q
    ·cases q; exact absurd ⟨rfl, rfl⟩ c
    ·exact q
   exact find_in h'
theorem find_out {f : Int → Int → Int} {x y : Int} : ∀ {K : List (Int × Int)} {s : Nat}, (x, y) ∉ K → findA ksP (keyP x y) (ents f K) s = some none
 | [], s, h => rfl
 | (a, b) :: K, s, h => by
  simp only [ents, List.map_cons, findA, keyP_eq]
  simp only [List.mem_cons, Prod.mk.injEq, not_or] at h
  have e : (x == a && (y == b && true)) = false := by
   rcases Classical.em (x = a) with q | q
   ·subst q
    have : ¬ y = b := fun e => h.1 ⟨rfl, e⟩
    simp [this]
   ·simp [q]
  rw [e]
  exact find_out h.2
theorem look_in {f : Int → Int → Int} {x y : Int} {K : List (Int × Int)} {z : AV} (h : (x, y) ∈ K) : lookB ksP z false (keyP x y) (some (.map (ents f K))) = some (.int .i64 (f x y)) := by
 obtain ⟨j, e⟩ := find_in (f := f) (s := 0) h
 simp only [lookB, keyP_eq, Option.isSome_some, if_true, e, Option.map_some, giveA]
 rfl
theorem look_in2 {f : Int → Int → Int} {x y : Int} {K : List (Int × Int)} {z : AV} (h : (x, y) ∈ K) : lookB ksP z true (keyP x y) (some (.map (ents f K))) = some (.tuple [.int .i64 (f x y), .bool true]) := by
 obtain ⟨j, e⟩ := find_in (f := f) (s := 0) h
 simp only [lookB, keyP_eq, Option.isSome_some, if_true, e, Option.map_some, giveA]
theorem look_out2 {f : Int → Int → Int} {x y : Int} {K : List (Int × Int)} {z : AV} (h : (x, y) ∉ K) : lookB ksP z true (keyP x y) (some (.map (ents f K))) = some (.tuple [z, .bool false]) := by
 simp only [lookB, keyP_eq, Option.isSome_some, if_true, find_out h, Option.map_some, giveA]
theorem upd_out {f : Int → Int → Int} {x y : Int} {K : List (Int × Int)} {h : Heap} {i : Nat} (hk : (x, y) ∉ K) : updB h i ksP (keyP x y) (.int .i64 (f x y)) (some (.map (ents f K))) = some (h.put i (.map (ents f (K ++ [(x, y)])))) := by
 simp only [updB, keyP_eq, Option.isSome_some, if_true, setA, find_out hk, Option.map_some]
 simp only [ents, List.map_append, List.map_cons, List.map_nil]
def grid (xs ys : List Int) : List (Int × Int) := xs.flatMap fun a => ys.map fun b => (a, b)
theorem mem_grid {xs ys : List Int} {x y : Int} : (x, y) ∈ grid xs ys ↔ x ∈ xs ∧ y ∈ ys := by
 simp [grid]
def keysTo (ps : List Int) (i k : Nat) : List (Int × Int) := grid (ps.take i) ps ++ (ps.take k).map fun b => (ps.getD i 0, b)
theorem take_one {l : List Int} {k : Nat} (hk : k < l.length) : l.take (k + 1) = l.take k ++ [l.getD k 0] := by
 rw [List.take_succ_eq_append_getElem hk, List.getD_eq_getElem?_getD, List.getElem?_eq_getElem hk]; rfl
theorem keysTo_step {ps : List Int} {i k : Nat} (hk : k < ps.length) : keysTo ps i (k + 1) = keysTo ps i k ++ [(ps.getD i 0, ps.getD k 0)] := by
 simp [keysTo, take_one hk]
theorem keysTo_row {ps : List Int} {i : Nat} (hi : i < ps.length) : keysTo ps i ps.length = keysTo ps (i + 1) 0 := by
 simp [keysTo, take_one hi, grid]
theorem keysTo_end (ps : List Int) : keysTo ps ps.length 0 = grid ps ps := by simp [keysTo]
theorem nodup_get {ps : List Int} (hn : ps.Nodup) {i k : Nat} (hi : i < ps.length) (hk : k < ps.length) (e : ps.getD i 0 = ps.getD k 0) : i = k := by
 rw [List.getD_eq_getElem?_getD, List.getD_eq_getElem?_getD, List.getElem?_eq_getElem hi, List.getElem?_eq_getElem hk, Option.getD_some, Option.getD_some] at e
 have P := List.pairwise_iff_getElem.1 hn
 rcases Nat.lt_trichotomy i k with c | c | c
 ·exact absurd e (P i k hi hk c)
 ·exact c
 ·exact absurd e.symm (P k i hk hi c)
theorem get_not_take {ps : List Int} (hn : ps.Nodup) {i : Nat} (hi : i < ps.length) : ps.getD i 0 ∉ ps.take i := by
 intro h
 obtain ⟨j, hj, e⟩ := List.mem_iff_getElem.1 h
 have hjl : j < min i ps.length := by simpa using hj
 have hj2 : j < ps.length := by omega
 rw [List.getElem_take] at e
 have := nodup_get hn hj2 hi (by rw [List.getD_eq_getElem?_getD (i := j), List.getElem?_eq_getElem hj2]; exact e)
 omega
theorem keysTo_new {ps : List Int} (hn : ps.Nodup) {i k : Nat} (hi : i < ps.length) (hk : k < ps.length) : (ps.getD i 0, ps.getD k 0) ∉ keysTo ps i k := by
 simp only [keysTo, List.mem_append, mem_grid, List.mem_map, Prod.mk.injEq, not_or, not_and, not_exists]
 exact ⟨fun h => absurd h (get_not_take hn hi), fun x hx _ e => get_not_take hn hk (e ▸ hx)⟩
/-! ### Plans -/
theorem prnsErr_zero {n : Int} : ∀ {xs seen : List Int}, prnsErr n seen xs = 0 → (∀ x ∈ xs, 1 ≤ x ∧ x ≤ n + 2) ∧ xs.Nodup ∧ ∀ x ∈ xs, x ∉ seen
 | [], seen, h => ⟨by simp, by simp, by simp⟩
 | x :: xs, seen, h => by
  unfold prnsErr at h
  split at h
  ·cases h
  ·rename_i c1
   split at h
   ·cases h
   ·rename_i c2
    obtain ⟨h1, h2, h3⟩ := prnsErr_zero h
    have hx : x ∉ seen := fun hm => c2 (List.any_eq_true.2 ⟨x, hm, by simp⟩)
    have c1' : 1 ≤ x ∧ x ≤ n + 2 := Classical.not_not.1 c1
    refine ⟨fun y hy => ?_, ?_, fun y hy => ?_⟩
    ·rcases List.mem_cons.1 hy with rfl | hy
     ·exact c1'
     ·exact h1 y hy
    ·exact List.nodup_cons.2 ⟨fun hm => h3 x hm (by simp), h2⟩
    ·rcases List.mem_cons.1 hy with rfl | hy
     ·exact hx
     ·exact fun hm => h3 y hy (by simp [hm])
structure PlanOk (p : PlanP) : Prop where
 nums : p.numsOk
 len : 1 ≤ p.prns.length ∧ p.prns.length ≤ 8
 prn : ∀ x ∈ p.prns, 1 ≤ x ∧ x ≤ lenN p.d + 2
 nodup : p.prns.Nodup
theorem planOk_of {p : PlanP} (h : p.err = 0) : PlanOk p := by
 unfold PlanP.err at h
 split at h
 ·rename_i c1
  split at h
  ·cases h
  ·split at h
   ·cases h
   ·obtain ⟨h1, h2, _⟩ := prnsErr_zero h
    exact ⟨c1, by omega, h1, h2⟩
 ·cases h
theorem PlanOk.code {p : PlanP} (ok : PlanOk p) {x : Int} (hx : x ∈ p.prns) : codeErr p.d x = 0 := by
 unfold codeErr
 rw [if_pos ⟨ok.nums.1, (ok.prn x hx).1, (ok.prn x hx).2⟩]
theorem PlanOk.tabE {p : PlanP} (ok : PlanOk p) : ∀ k, k ≤ p.prns.length → tabE p.d p.prns k = 0
 | 0, _ => rfl
 | k + 1, hk => by
  rw [Ae.tabE, if_neg (by rw [ok.tabE k (by omega)]; decide), if_neg, if_neg]
  ·intro h
   obtain ⟨y, hy, e⟩ := List.any_eq_true.1 h
   have : p.prns.getD k 0 = y := by simpa using e
   exact get_not_take ok.nodup (by omega) (this ▸ hy)
  ·rw [ok.code (getD_mem (by omega))]; decide
theorem PlanOk.known {p : PlanP} (ok : PlanOk p) : knownErr p.d p.o = 0 := by
 unfold knownErr
 rw [if_pos ⟨ok.nums.1, ok.nums.2.1⟩]
theorem PlanOk.tab {p : PlanP} (ok : PlanOk p) : tabErr p.d p.o p.prns = 0 := by
 unfold tabErr
 rw [if_neg (by rw [ok.known]; decide), if_neg (by have := ok.len; omega), if_neg (by have := ok.len; omega), ok.tabE _ (Nat.le_refl _)]
theorem PlanOk.samp {p : PlanP} (ok : PlanOk p) {xs : List Int} (h : ∀ x ∈ xs, x ∈ p.prns) : sampErr p.d p.o xs = 0 := by
 unfold sampErr
 rw [if_pos ⟨ok.known, fun x hx => ok.code (h x hx)⟩]
def sumI (d o a b : Int) : Int := greatI (sampL d a o.toNat) (sampL d b o.toNat) (if a = b then o.toNat else 0)
theorem PlanOk.tbl {p : PlanP} (ok : PlanOk p) {i k : Nat} (hi : i < p.prns.length) (hk : k < p.prns.length) : ((tblL p.d p.o.toNat p.prns).getD i []).getD k 0 = sumI p.d p.o (p.prns.getD i 0) (p.prns.getD k 0) := by
 have e : (i = k) = (p.prns.getD i 0 = p.prns.getD k 0) := propext ⟨fun e => by rw [e], fun e => nodup_get ok.nodup hi hk e⟩
 simp only [tblL, List.getD_eq_getElem?_getD, List.getElem?_map, List.getElem?_range hi, Option.map_some, Option.getD_some, tabRow, List.getElem?_range hk, sumI]
 simp only [List.getD_eq_getElem?_getD] at e
 simp only [e]
end Go.Ae
/- Scenes that numbers select, quantised: the emitters. -/
set_option linter.unusedSimpArgs false
set_option linter.unusedVariables false
namespace Go.Ae
def cutE (l : List Int) (k : Nat) : List Int := (l.drop (min l.length (3 + 20 * k))).take (min l.length (min l.length (3 + 20 * k) + 20) - min l.length (3 + 20 * k))
def esK (p : PlanP) (l : List Int) : Nat → List EmitP
 | 0 => []
 | k + 1 => if someOf l k 3 = 0 then esK p l k else esK p l k ++ [emitAt p k (cutE l k)]
theorem esK_len (p : PlanP) (l : List Int) : ∀ k, (esK p l k).length ≤ k
 | 0 => Nat.le_refl _
 | k + 1 => by
  have := esK_len p l k
  unfold esK
  split
  ·omega
  ·rw [List.length_append, List.length_singleton]; omega
theorem emitAt_err {p : PlanP} {k : Nat} {l : List Int} (hp : p.err = 0) (hk : k < p.prns.length) : emitErr p (emitAt p k l) = 0 := by
 have e := emitOf_err (l := l) hp
 unfold emitErr at e ⊢
 rw [if_pos hp] at e ⊢
 have ha : (p.prns.any fun y => (emitAt p k l).prn == y) = true := by
  rw [List.any_eq_true]
  exact ⟨_, getD_mem hk, by simp [emitAt]⟩
 rw [if_pos ha]
 split at e
 ·exact e
 ·cases e
theorem emitAt_64 {p : PlanP} {k : Nat} {l : List Int} (hp : p.numsOk) (h64 : p.ok64) (hk : k < p.prns.length) : (emitAt p k l).ok64 := by
 have h := emitOf_64 (l := l) hp h64 (by omega)
 exact ⟨h64.2.2.2.2.2.2.2 _ (getD_mem hk), h.2⟩
theorem esK_ok {p : PlanP} {l : List Int} (hp : p.err = 0) (pn : p.numsOk) (h64 : p.ok64) : ∀ k, k ≤ p.prns.length → ∀ e ∈ esK p l k, emitErr p e = 0 ∧ e.ok64 ∧ ∃ i, i < k ∧ e.prn = p.prns.getD i 0
 | 0, _, e, he => by simp [esK] at he
 | k + 1, hk, e, he => by
  have ih := esK_ok (l := l) hp pn h64 k (by omega) e
  unfold esK at he
  split at he
  ·obtain ⟨a, b, i, c, d⟩ := ih he
   exact ⟨a, b, i, by omega, d⟩
  ·rcases List.mem_append.1 he with he | he
   ·obtain ⟨a, b, i, c, d⟩ := ih he
    exact ⟨a, b, i, by omega, d⟩
   ·rw [List.mem_singleton] at he
    subst he
    exact ⟨emitAt_err hp hk, emitAt_64 pn h64 hk, k, by omega, rfl⟩
theorem esK_nd {p : PlanP} {l : List Int} (nd : p.prns.Nodup) (hp : p.err = 0) (pn : p.numsOk) (h64 : p.ok64) : ∀ k, k ≤ p.prns.length → ((esK p l k).map (·.prn)).Nodup
 | 0, _ => by simp [esK]
 | k + 1, hk => by
  have ih := esK_nd (l := l) nd hp pn h64 k (by omega)
  unfold esK
  split
  ·exact ih
  ·rw [List.map_append, List.nodup_append]
   refine ⟨ih, by simp, ?_⟩
   intro a ha b hb e
   subst e
   simp only [List.map_cons, List.map_nil, List.mem_singleton] at hb
   obtain ⟨e, he, rfl⟩ := List.mem_map.1 ha
   obtain ⟨_, _, i, hi, q⟩ := esK_ok hp pn h64 k (by omega) e he
   have q2 : p.prns.getD i 0 = p.prns.getD k 0 := q.symm.trans hb
   rw [List.getD_eq_getElem?_getD, List.getD_eq_getElem?_getD, List.getElem?_eq_getElem (by omega), List.getElem?_eq_getElem (by omega), Option.getD_some, Option.getD_some] at q2
   exact List.pairwise_iff_getElem.1 nd i k (by omega) (by omega) hi q2
theorem emsE_zero {p : PlanP} {es : List EmitP} (h : ∀ e ∈ es, emitErr p e = 0) (nd : (es.map (·.prn)).Nodup) : ∀ n, n ≤ es.length → emsE p es n = 0
 | 0, _ => rfl
 | n + 1, hn => by
  have ih := emsE_zero h nd n (by omega)
  have e : es.getD n eD = es[n] := by rw [List.getD_eq_getElem?_getD, List.getElem?_eq_getElem (by omega), Option.getD_some]
  refine emsE_next ih (by rw [e]; exact h _ (List.getElem_mem _)) (fun i hi q => ?_)
  have e2 : es.getD i eD = es[i] := by rw [List.getD_eq_getElem?_getD, List.getElem?_eq_getElem (by omega), Option.getD_some]
  rw [e, e2] at q
  have q2 : (es.map (·.prn))[i]'(by simp; omega) = (es.map (·.prn))[n]'(by simp; omega) := by simpa using q
  exact List.pairwise_iff_getElem.1 nd i n (by simp; omega) (by simp; omega) hi q2
theorem makeErr_zero {p : PlanP} {es : List EmitP} {ns : List (Int × Int)} {m : Int} (hp : p.err = 0) (hl : es.length ≤ 8) (h : ∀ e ∈ es, emitErr p e = 0) (nd : (es.map (·.prn)).Nodup) (hm : 0 ≤ m ∧ m ≤ 1048576) (hn : ns.length ≤ m) (hns : ∀ x ∈ ns, inS p.nz x) : makeErr p es ns m = 0 := by
 unfold makeErr
 rw [if_neg (by rw [hp]; decide), if_neg (by omega), if_neg (by rw [emsE_zero h nd _ (Nat.le_refl _)]; decide), if_neg (by omega), if_neg (by omega), if_neg (fun ⟨x, hx, q⟩ => q (hns x hx))]
theorem RI.partK {h : Heap} {v : AV} {l : List Int} {a b : Nat} {k1 k2 : IntKind} (H : RI h v l) (K : KnownCap v) (hab : a ≤ b ∧ b ≤ l.length) : ∃ v', (∀ h', sliceA h' 1 v (some (.int k1 (a : Nat))) (some (.int k2 (b : Nat))) none = some v') ∧ RI h v' ((l.drop a).take (b - a)) := by
 obtain ⟨hl, hlt, ⟨rfl, h1⟩ | ⟨i, o, cp, vs, wr, u, rfl, hg, hle, hc, hcap⟩⟩ := H
 ·have e : l = [] := List.eq_nil_of_length_eq_zero (by omega)
  subst e
  have : a = 0 := by simp at hab; omega
  have : b = 0 := by simp at hab; omega
  subst a; subst b
  exact ⟨.nilslice, fun _ => rfl, RI.nil⟩
 ·obtain ⟨c, rfl⟩ : ∃ c, cp = .known c := by
   rcases K with K | ⟨_, _, _, c, K⟩
   ·cases K
   ·cases K; exact ⟨c, rfl⟩
  dsimp only at hcap
  have hbd : boundsA l.length c (some (.int k1 (a : Nat))) (some (.int k2 (b : Nat))) none = some (a, b, c) := bounds_ok (len := l.length) (cap := c) (a := a) (b := b) (c := c) rfl rfl rfl ⟨hab.1, by omega, Nat.le_refl _⟩
  refine ⟨.slice i (if c = a then o else o + a * 1) (b - a) (.known (c - a)), fun _ => by simp only [sliceA, hbd], ?_⟩
  have ll : ((l.drop a).take (b - a)).length = b - a := by rw [List.length_take, List.length_drop]; omega
  unfold RI
  rw [ll]
  refine ⟨by simp [ints]; omega, by omega, .inr ⟨i, _, _, vs, wr, u, rfl, hg, ?_, ?_, by dsimp only; omega⟩⟩
  ·split <;> omega
  ·have e1 : ints ((l.drop a).take (b - a)) = ((ints l).drop a).take (b - a) := by simp [ints, List.map_take, List.map_drop]
   rw [e1, ← hc]
   split
   ·rename_i e; have : b - a = 0 := by omega
    rw [this]; simp [cut]
   ·simp only [cut, Nat.mul_one, List.drop_take, List.drop_drop, List.take_take]
    congr 1
    omega
end Go.Ae
/- Scenes that numbers select, quantised: the contract. -/
set_option linter.unusedSimpArgs false
set_option linter.unusedVariables false
namespace Go.Ae
theorem contB_8 {a b c d e f g x : AV} {u : Nat} {wr : Bool} : contB 1 8 0 (some (.cells [a, b, c, d, e, f, g, x] wr u)) = some (1, [a, b, c, d, e, f, g, x]) := rfl
theorem esK_skip {p : PlanP} {l : List Int} {k : Nat} (h : someOf l k 3 = 0) : esK p l (k + 1) = esK p l k := if_pos h
theorem esK_add {p : PlanP} {l : List Int} {k : Nat} (h : ¬ someOf l k 3 = 0) : esK p l (k + 1) = esK p l k ++ [emitAt p k (cutE l k)] := if_neg h
section
variable {C : Ctx}
set_option maxHeartbeats 4000000 in
set_option maxRecDepth 20000 in
theorem scene329_spec (hC : Has C T329) {vp vl vn : AV} {p : PlanP} {l ns : List Int} {s : Int} {m : Nat} {h : Heap} (R : RI h vp p.prns) (h64 : p.ok64) (hp : p.err = 0) (hl : RI h vl l) (K : KnownCap vl) (hx : ∀ x ∈ l, In64 x) (hn : RI h vn ns) (hxn : ∀ x ∈ ns, In64 x) (hg : gErr 8 s = 0) (hm : m ≤ 1048576) :
  ACalls C 329 [plA p vp, gA 8 s, vl, vn, .int .i64 (m : Nat)] h (fun r h' => HSub h h' ∧ ∃ ws we, r = .tuple [ws, we, .bool (decide (lostK 8 s (scnL p (esK p l p.prns.length) (noiL ns p.nz m) (esK p l p.prns.length).length m) m = 0))] ∧
   SI h' ws (qntL 8 s (scnL p (esK p l p.prns.length) (noiL ns p.nz m) (esK p l p.prns.length).length m)) ∧ EmsI h' we (esK p l p.prns.length)) := by
 have v1 := R.one
 have pok := planOk_of hp
 have pn := pok.nums
 have plen := pok.len
 have hlt := hl.lt
 have L := hl.len
 have Rl := R.len
 have S := fun (i : Nat) h1 (q : HSub h h1) => Some_spec (zu hC T45) (i := i) (n := 3) (hl.mono q) hx (by omega)
 have kE := fun (k : Nat) (hk : k < p.prns.length) v' (B : RI h v' (cutE l k)) h1 (q : HSub h h1) => EmitterOf_at (zu hC T236) (w := plA p vp) (u0 := k) (h := h1) ⟨vp, rfl, R.mono q⟩ pn hk h64 (B.mono q) (fun x hx' => hx x (List.mem_of_mem_drop (List.mem_of_mem_take hx')))
 have nz := pn.2.2.2.2.2.2
 have kN := fun h1 (q : HSub h h1) => NoiseOf_spec (zu hC T344) (vp := vp) (p := p) (h := h1) (m := m) v1 nz (hn.mono q) hxn hm
 have kM := fun es nn ve vn h1 (q : HSub h h1) (EI : EmsI h1 ve es) (h65 : ∀ k, k < es.length → (es.getD k eD).ok64) (N : SI h1 vn nn) => MakeR_spec (zu hC T232) (R.mono q) h64 EI h65 N (m := (m : Nat)) (by unfold In64; omega)
 have kQ := fun v sc h1 (S : SI h1 v sc) => Quantise_spec (zu hC T345) S hg
 unfold gA plA at *
 have q8 : loadB true 8 0 (some (.cells [.int .i64 p.d, .int .i64 p.o, .int .i64 p.pb, .int .i64 p.w, .int .i64 p.mn, .int .i64 p.mx, .int .i64 p.nz, vp] true 0)) = some (.agg [.int .i64 p.d, .int .i64 p.o, .int .i64 p.pb, .int .i64 p.w, .int .i64 p.mn, .int .i64 p.mx, .int .i64 p.nz, vp]) := rfl
 have q7 : ([.int .i64 p.d, .int .i64 p.o, .int .i64 p.pb, .int .i64 p.w, .int .i64 p.mn, .int .i64 p.mx, .int .i64 p.nz, vp] : List AV)[7]? = some vp := rfl
 have pone : ([.int .i64 p.d, .int .i64 p.o, .int .i64 p.pb, .int .i64 p.w, .int .i64 p.mn, .int .i64 p.mx, .int .i64 p.nz, vp] : List AV).all AV.one = true := by simp only [List.all_cons, List.all_nil, one_int, v1, Bool.and_self]
 generalize ([.int .i64 p.d, .int .i64 p.o, .int .i64 p.pb, .int .i64 p.w, .int .i64 p.mn, .int .i64 p.mx, .int .i64 p.nz, vp] : List AV) = pc at *
 have pcp : HSub h ((h.push (.cells pc true 0)).push (.cells [.int .i64 8, .int .i64 s] true 0)) := (HSub.push1 _ _).push _
 have gp0 : ((h.push (.cells pc true 0)).push (.cells [.int .i64 8, .int .i64 s] true 0)).get h.size = some (.cells pc true 0) := by exact ze
 have gp1 : ((h.push (.cells pc true 0)).push (.cells [.int .i64 8, .int .i64 s] true 0)).get (h.size + 1) = some (.cells [.int .i64 8, .int .i64 s] true 0) := by exact ze
 have zb : ((h.push (.cells pc true 0)).push (.cells [.int .i64 8, .int .i64 s] true 0)).size = h.size + 2 := by simp
 obtain ⟨hb, hHb⟩ : ∃ hb, (h.push (.cells pc true 0)).push (.cells [.int .i64 8, .int .i64 s] true 0) = hb := ⟨_, rfl⟩
 rw [hHb] at pcp gp0 gp1 zb
 refine zf hC tab329 ?_; simp only [B329]; refine zs1 @hHb ?_
 refine wp_loopI (fun j t H => ∃ (k : Nat) (E : List (EmitP × AV)), E.map (·.1) = esK p l k ∧ Grw hb H 8 (t 11) E.length (emC E) ∧ (∀ q ∈ E, RI H q.2 q.1.bits ∧ ∀ i ∈ q.2.ids, i ∉ (t 11).ids) ∧ t 2 = vl ∧ t 3 = vn ∧ t 4 = .int .i64 (m : Nat) ∧ t 5 = .ptr h.size 0 ∧ t 6 = .ptr (h.size + 1) 0 ∧ t 13 = .int .i64 (k : Nat) ∧ k ≤ p.prns.length ∧ j = p.prns.length - k) (j0 := p.prns.length)
  ⟨0, [], rfl, Grw.nil _ _, by simp, rfl, rfl, rfl, rfl, rfl, rfl, by omega, rfl⟩ ?_
 rintro j t H ⟨k, E, hE, A, bE, e2, e3, e4, e5, e6, e13, hk, hj⟩
 have g0 := (A.sub.get _ (by omega)).trans gp0
 have g1 := (A.sub.get _ (by omega)).trans gp1
 have sH := pcp.trans A.sub
 refine zs5 @e5 @e13 @g0 @q7 @Rl ?_
 refine Br.by (fun c => ?_) (fun c => ?_)
 ·have hk' : k < p.prns.length := by omega
  have Sk := S k H sH
  have lenE : E.length ≤ k := by rw [← List.length_map (f := (·.1)), hE]; exact esK_len _ _ _
  have ePart := RI.partK (k1 := .i64) (k2 := .i64) hl K (a := min l.length (3 + 20 * k)) (b := min l.length (min l.length (3 + 20 * k) + 20)) (by omega)
  obtain ⟨vc, sc, Bc⟩ := ePart
  have ea : ((min l.length (3 + 20 * k) : Nat) : Int) = min (l.length : Int) (3 + 20 * (k : Int)) := by omega
  have ec : ((min l.length (min l.length (3 + 20 * k) + 20) : Nat) : Int) = min (l.length : Int) (min (l.length : Int) (3 + 20 * (k : Int)) + 20) := by omega
  rw [ea, ec] at sc
  have kk := fun h1 q => kE k hk' vc Bc h1 q
  refine zs2 @e2 @e13 ?_
  refine ACallsK.eq Sk ?_
  refine zs ?_
  refine Br.by (fun c1 => ?_) (fun c1 => ?_)
  ·refine zs1 @e13 ?_
   refine ⟨_, ⟨k + 1, E, ?_, A, bE, e2, e3, e4, e5, e6, rfl, by omega, rfl⟩, by omega⟩
   exact hE.trans (esK_skip c1).symm
  ·refine zs8 @e2 @e5 @e13 @L @g0 @q8 @sc @Heap.wf ?_
   refine ACallsK.of (kk _ (zh sH)) ?_
   rintro r h3 ⟨s3, vb, rfl, B, fr⟩
   have z3 := s3.size
   simp only [Heap.size_reserve] at z3 fr
   have hbig : ∀ i, H.size ≤ i → H.get i = none := fun i hi => by
    cases q : H.get i with
    | none => rfl
    | some b => have := Heap.lt_of_get q; omega
   have gN12 : h3.get (H.size + 12) = none := (s3.get _ (by simp only [Heap.size_reserve]; omega)).trans ((Heap.get_reserve _ _ _).trans (hbig _ (by omega)))
   have gN13 : h3.get (H.size + 13) = none := (s3.get _ (by simp only [Heap.size_reserve]; omega)).trans ((Heap.get_reserve _ _ _).trans (hbig _ (by omega)))
   have o1 := B.one
   have hv : ∀ i ∈ (t 11).ids, i < H.size := fun i hi => (A.ids_lt i hi).2
   have apg := fun cs => Grw.appG (H := h3.put (H.size + 12) (.cells cs true 0)) (k := H.size + 13) (bytes := 72) (m := 1) (news := ecell (emitAt p k (cutE l k), vb)) A (fun i hi => by
    have := hv i hi
    exact (get_put_ne (by omega)).trans ((s3.get _ (by simp only [Heap.size_reserve]; omega)).trans (Heap.get_reserve _ _ _))) ⟨by omega, by simp only [Heap.size_put]; omega⟩ (by decide) (by omega) (by simp only [ecell, List.all_cons, List.all_nil, one_int, o1, Bool.and_self])
   have eE : emC E ++ ecell (emitAt p k (cutE l k), vb) = emC (E ++ [(emitAt p k (cutE l k), vb)]) := (emC_snoc _ _).symm
   rw [eE] at apg
   unfold ecell at apg
   dsimp only at apg
   have gN13' := fun cs => (get_put_ne (h := h3) (b := .cells cs true 0) (i := H.size + 12) (j := H.size + 13) (by omega)).trans gN13
   refine zs9 @cont_slice @contB_8 @apg @appK_none @gN12 @gN13 @gN13' @e13 @Heap.wf ?_
   have hsP : ∀ cs, HSub H (h3.put (H.size + 12) (.cells cs true 0)) := fun cs => ⟨by simp only [Heap.size_put]; omega, fun i hi => (get_put_ne (by omega)).trans ((s3.get _ (by simp only [Heap.size_reserve]; omega)).trans (Heap.get_reserve _ _ _))⟩
   have Ac := fun cs => Grw.snocS (k := H.size + 13) (m := 1) (news := ecell (emitAt p k (cutE l k), vb)) A (hsP cs) ⟨by omega, by simp only [Heap.size_put]; omega⟩ rfl (by omega)
   rw [eE] at Ac
   have keep : ∀ cs cs' i, i ≠ H.size + 12 → i ≠ H.size + 13 → i ∉ (t 11).ids → (snocH (h3.put (H.size + 12) (.cells cs true 0)) (some (H.size + 13)) (t 11) 8 cs').get i = h3.get i := fun cs cs' i h1 h2 h3 => (snocS_ne h2 h3).trans (get_put_ne h1)
   have h3e : ∀ i, i < H.size → h3.get i = H.get i := fun i hi => (s3.get _ (by simp only [Heap.size_reserve]; omega)).trans (Heap.get_reserve _ _ _)
   have lenE2 : (E ++ [(emitAt p k (cutE l k), vb)]).length = E.length + 1 := by simp
   refine ⟨_, ⟨k + 1, E ++ [(emitAt p k (cutE l k), vb)], ?_, by rw [lenE2]; exact Ac _, fun q hq => ?_, e2, e3, e4, e5, e6, rfl, by omega, rfl⟩, by omega⟩
   ·rw [List.map_append, hE, esK_add c1]; rfl
   ·rcases List.mem_append.1 hq with hq | hq
    ·obtain ⟨b1, b2⟩ := bE q hq
     have b3 := b1.lt_ids
     refine ⟨b1.off fun i hi => (keep _ _ i (by have := b3 i hi; omega) (by have := b3 i hi; omega) (b2 i hi)).trans (h3e i (b3 i hi)), fun i hi q => ?_⟩
     simp only [AV.ids, List.mem_singleton] at q
     have := b3 i hi; omega
    ·rw [List.mem_singleton] at hq
     subst hq
     refine ⟨B.off fun i hi => keep _ _ i (by have := fr i hi; omega) (by have := fr i hi; omega) (fun q => by have := fr i hi; have := hv i q; omega), fun i hi q => ?_⟩
     simp only [AV.ids, List.mem_singleton] at q
     have := fr i hi; omega
 ·obtain rfl : k = p.prns.length := by omega
  have lenE : E.length = (esK p l p.prns.length).length := by rw [← hE, List.length_map]
  have es8 := esK_len p l p.prns.length
  have EI : EmsI H (t 11) (esK p l p.prns.length) := ⟨E, hE, A.sl, fun q hq => (bE q hq).1⟩
  have eok := esK_ok (l := l) hp pn h64 p.prns.length (Nat.le_refl _)
  have end1 := esK_nd (l := l) pok.nodup hp pn h64 p.prns.length (Nat.le_refl _)
  generalize esK p l p.prns.length = es at *
  have nl := noiL_length ns p.nz m
  have nin := noiL_in (l := ns) (z := p.nz) nz.1 (k := m)
  generalize noiL ns p.nz m = nn at *
  have mz : makeErr p es nn (m : Nat) = 0 := makeErr_zero hp (by omega) (fun e he => (eok e he).1) end1 (by omega) (by omega) nin
  have kM := fun vn h1 (q : HSub H h1) (N : SI h1 vn nn) => kM es nn (t 11) vn h1 (sH.trans q) (EI.mono q) (fun k hk => (eok _ (by rw [List.getD_eq_getElem?_getD, List.getElem?_eq_getElem hk]; exact List.getElem_mem _)).2.1) N
  rw [mz, if_pos rfl, Int.toNat_natCast] at kM
  have sl := scnL_length (p := p) (es := es) (ns := nn) (k := es.length) (m := m)
  have sin : ∀ x ∈ scnL p es nn es.length m, inQ x.1 ∧ inQ x.2 := by
   intro x hx
   obtain ⟨i, _, rfl⟩ := List.mem_map.1 hx
   have := scnV_in pn nin es.length i (fun k hk => emit_ok (eok _ (by rw [List.getD_eq_getElem?_getD, List.getElem?_eq_getElem hk]; exact List.getElem_mem _)).1)
   unfold inS at this
   unfold inQ
   omega
  generalize scnL p es nn es.length m = sc at *
  have kQ := fun v h1 (S : SI h1 v sc) => kQ v sc h1 S (by omega) sin
  refine zs5 @e3 @e4 @e5 @g0 @q8 ?_
  refine ACallsK.of (kN _ sH) ?_
  rintro wn h4 ⟨s4, N⟩
  have g04 := (s4.get _ (Heap.lt_of_get g0)).trans g0
  have g14 := (s4.get _ (Heap.lt_of_get g1)).trans g1
  refine zs5 @e3 @e4 @e5 @g04 @q8 ?_
  refine ⟨g0.symm, ACallsK.of (kM wn h4 s4 N) ?_⟩
  rintro r h5 ⟨w, rfl, s5, W, fw⟩
  have g15 := (s5.get _ (Heap.lt_of_get g14)).trans g14
  have qg : loadB true 2 0 (some (.cells [.int .i64 8, .int .i64 s] true 0)) = some (.agg [.int .i64 8, .int .i64 s]) := rfl
  refine zs4 @lstErr.eq_1 @e6 @g15 @qg ?_
  refine ACallsK.of (kQ w h5 W) ?_
  rintro r h6 ⟨s6, wq, rfl, Q⟩
  have q1 := Q.one
  refine zs ?_
  have sub6 := (s4.trans s5).trans s6
  have pu := HSub.push1 h6 (.cells [wq, AV.int IntKind.i64 (lostK 8 s sc sc.length)] true 0)
  exact ⟨(sH.trans sub6).trans pu, wq, t 11, by rw [sl], Q.mono pu, EI.mono (sub6.trans pu)⟩
end
end Go.Ae
/- An emitter's sample in a known period. -/
set_option linter.unusedSimpArgs false
set_option linter.unusedVariables false
namespace Go.Ae
theorem sampL_get' {d p : Int} {o i : Nat} (ho : 1 ≤ o) (h : i < lenN d * o) : (sampL d p o).getD i 0 = (codeL d p).getD (i / o) 0 := by
 have key : ∀ (l : List Int) (i : Nat), i < l.length * o → ((l.map fun x => List.replicate o x).flatten).getD i 0 = l.getD (i / o) 0 := by
  intro l
  induction l with
  | nil => intro i hi; simp at hi
  | cons x l ih =>
   intro i hi
   rw [List.map_cons, List.flatten_cons, List.getD_eq_getElem?_getD]
   rcases Nat.lt_or_ge i o with c | c
   ·rw [List.getElem?_append_left (by simpa using c), Nat.div_eq_of_lt c]
    simp [c]
   ·rw [List.getElem?_append_right (by simpa using c), List.length_replicate, ← List.getD_eq_getElem?_getD, ih (i - o) (by simp [Nat.succ_mul] at hi; omega)]
    have e : i / o = (i - o) / o + 1 := by
     rw [← Nat.add_div_right _ (by omega)]
     congr 1; omega
    rw [e, List.getD_cons_succ]
 have := key (codeL d p) i (by rw [codeL_length]; exact h)
 exact this
theorem chip_samp {p : PlanP} {e : EmitP} (ok : EmOk p e) {i : Int} (hi : 0 ≤ i) : chipI p e i = (sampL p.d e.prn p.o.toNat).getD (min i (p.size - 1)).toNat 0 := by
 have sz := size_range ok.pn
 have o' := ok.pn.2.1
 have hN := lenN_eq ok.pn.1
 obtain ⟨o, eo⟩ := Int.eq_ofNat_of_zero_le (show 0 ≤ p.o by omega)
 have es : p.size = ((lenN p.d * o : Nat) : Int) := by rw [sz.2.2, eo, Int.toNat_natCast]
 rw [eo, Int.toNat_natCast, sampL_get' (by omega) (by omega)]
 unfold chipI
 congr 1
 rw [eo]
 obtain ⟨m, rfl⟩ := Int.eq_ofNat_of_zero_le hi
 have e1 : ((m : Int) / (o : Int)) = ((m / o : Nat) : Int) := (Int.natCast_ediv m o).symm
 rw [e1, es]
 rcases Nat.lt_or_ge m (lenN p.d * o) with c | c
 ·have q : m / o < lenN p.d := (Nat.div_lt_iff_lt_mul (by omega)).2 c
  rw [show (min (m : Int) (((lenN p.d * o : Nat) : Int) - 1)).toNat = m by omega]
  generalize m / o = w at *
  omega
 ·have q : lenN p.d ≤ m / o := (Nat.le_div_iff_mul_le (by omega)).2 c
  rw [show (min (m : Int) (((lenN p.d * o : Nat) : Int) - 1)).toNat = lenN p.d * o - 1 by omega]
  have q2 : (lenN p.d * o - 1) / o = lenN p.d - 1 := by
   rw [Nat.div_eq_iff (by omega)]
   obtain ⟨N, hN2⟩ : ∃ N, lenN p.d = N + 1 := ⟨lenN p.d - 1, by omega⟩
   rw [hN2, Nat.add_sub_cancel, Nat.add_mul]
   omega
  rw [q2]
  generalize m / o = w at *
  omega
theorem at_in {p : PlanP} {e : EmitP} (ok : EmOk p e) {x K : Int} (h1 : e.sta p K ≤ x) (h2 : x < e.sta p (K + 1)) : atV p e x = (e.amp * (1 - 2 * bitI p e K) * (sampL p.d e.prn p.o.toNat).getD (min (x - e.sta p K) (p.size - 1)).toNat 0 * (carP (phI e.ph e.st K)).1, e.amp * (1 - 2 * bitI p e K) * (sampL p.d e.prn p.o.toNat).getD (min (x - e.sta p K) (p.size - 1)).toNat 0 * (carP (phI e.ph e.st K)).2) := by
 have hk : e.pl p x = K := (pl_of (dl := e.dl) ok.den h1 h2).symm
 unfold atV
 rw [hk, chip_samp ok (by omega)]
 refine Prod.ext ?_ ?_ <;> grind
end Go.Ae
/- Examples of layer 9, by contracts. -/
set_option linter.unusedSimpArgs false
set_option linter.unusedVariables false
namespace Go.Ae
section
variable {C : Ctx}
end
end Go.Ae
/- The chapter's examples of layer 9, by contracts. -/
set_option linter.unusedSimpArgs false
set_option linter.unusedVariables false
namespace Go.Ae
section
variable {C : Ctx}
end
end Go.Ae
/- The statement on bounds that are reached, of layer 9. -/
set_option linter.unusedSimpArgs false
set_option linter.unusedVariables false
namespace Go.Ae
theorem gM_ge {a b : List Int} {s : Int} {lo : Nat} : ∀ (k : Nat) (x : Int), x ≤ gM a b s lo k x
 | 0, x => Int.le_refl _
 | k + 1, x => by have := gM_ge (a := a) (b := b) (s := s) (lo := lo) k x; rw [gM]; omega
theorem gM_at {a b : List Int} {s : Int} {lo : Nat} {x : Int} : ∀ (k j : Nat), j < k → plc a b s (lo + j) ≤ gM a b s lo k x
 | 0, j, h => by omega
 | k + 1, j, h => by
  rw [gM]
  rcases Nat.lt_or_ge j k with y | y
  ·have := gM_at (a := a) (b := b) (s := s) (lo := lo) (x := x) k j y; omega
  ·have : j = k := by omega
   subst this; omega
section
variable {C : Ctx}
end
end Go.Ae
/- Windows over a stream of four pieces: what one placement's sums are bounded by. -/
set_option linter.unusedSimpArgs false
set_option linter.unusedVariables false
namespace Go.Ae
theorem plc_great {a b : List Int} {s : Int} {mg m : Nat} (hs : -1 ≤ s ∧ s ≤ 1) (h1 : mg ≤ m) (h2 : m - mg < cntM a.length mg s) : plc a b s m ≤ greatI a b mg := by
 have g : ∀ x, plc a b s m ≤ gM a b s mg (cntM a.length mg s) x := fun x => by
  have := gM_at (a := a) (b := b) (s := s) (lo := mg) (x := x) (cntM a.length mg s) (m - mg) h2
  rwa [show mg + (m - mg) = m by omega] at this
 unfold greatI
 rcases (show s = -1 ∨ s = 0 ∨ s = 1 by omega) with rfl | rfl | rfl
 ·exact Int.le_trans (g 0) (Int.le_trans (gM_ge _ _) (gM_ge _ _))
 ·exact Int.le_trans (g _) (gM_ge _ _)
 ·exact g _
def winS (a : List Int) (f : Nat → Int) : Nat → Int
 | 0 => 0
 | k + 1 => winS a f k + a.getD k 0 * f k
theorem win_first {a b : List Int} {f : Nat → Int} {m : Nat} {s g : Int} : ∀ k, k ≤ m → (∀ i, i < k → f i = g * b.getD (min ((i : Int) - m + a.length + s) ((a.length : Int) - 1)).toNat 0) → winS a f k = g * pf a b m s k
 | 0, _, _ => by simp [winS, pf]
 | k + 1, hk, h => by
  rw [winS, pf, win_first k (by omega) (fun i hi => h i (by omega)), h k (by omega), Int.mul_add]
  congr 1
  grind
theorem win_rest {a b : List Int} {f : Nat → Int} {m : Nat} {g : Int} : ∀ k, (∀ i, i < k → f (m + i) = g * b.getD i 0) → winS a f (m + k) = winS a f m + g * ps a b m k
 | 0, _ => by simp [ps]
 | k + 1, h => by
  rw [← Nat.add_assoc, winS, ps, win_rest k (fun i hi => h i (by omega)), h k (by omega), Int.mul_add]
  grind
end Go.Ae
/- Windows over the whole stream of pieces. -/
set_option linter.unusedSimpArgs false
set_option linter.unusedVariables false
namespace Go.Ae
end Go.Ae
/- Windows over an emitter's samples, in plain numbers. -/
set_option linter.unusedSimpArgs false
set_option linter.unusedVariables false
namespace Go.Ae
def sumW (A : List Int) (v : Nat → Int × Int) : Nat → Int × Int
 | 0 => (0, 0)
 | k + 1 => ((sumW A v k).1 + A.getD k 0 * (v k).1, (sumW A v k).2 + A.getD k 0 * (v k).2)
theorem sumW_first {A : List Int} {v : Nat → Int × Int} {F : Nat → Int} {g : Int} {c : Int × Int} : ∀ k, (∀ i, i < k → v i = (g * F i * c.1, g * F i * c.2)) → sumW A v k = (g * winS A F k * c.1, g * winS A F k * c.2)
 | 0, _ => by simp [sumW, winS]
 | k + 1, h => by
  rw [sumW, sumW_first k (fun i hi => h i (by omega)), h k (by omega), winS]
  refine Prod.ext ?_ ?_ <;> grind
theorem sumW_rest {A : List Int} {v : Nat → Int × Int} {F : Nat → Int} {g : Int} {c : Int × Int} {m : Nat} : ∀ k, (∀ i, i < k → v (m + i) = (g * F (m + i) * c.1, g * F (m + i) * c.2)) → sumW A v (m + k) = ((sumW A v m).1 + g * (winS A F (m + k) - winS A F m) * c.1, (sumW A v m).2 + g * (winS A F (m + k) - winS A F m) * c.2)
 | 0, _ => by simp
 | k + 1, h => by
  rw [← Nat.add_assoc, sumW, sumW_rest k (fun i hi => h i (by omega)), h k (by omega), winS]
  refine Prod.ext ?_ ?_ <;> grind
theorem carr_dot : (List.range 64).all (fun k => (List.range 64).all fun j => decide (-16384 ≤ (carr k).1 * (carr j).1 + (carr k).2 * (carr j).2 ∧ (carr k).1 * (carr j).1 + (carr k).2 * (carr j).2 ≤ 16384)) = true := by decide +kernel
theorem carP_dot {a b : Int} (ha : U32 a) (hb : U32 b) : -16384 ≤ (carP a).1 * (carP b).1 + (carP a).2 * (carP b).2 ∧ (carP a).1 * (carP b).1 + (carP a).2 * (carP b).2 ≤ 16384 := by
 unfold U32 at ha hb
 have h := List.all_eq_true.1 carr_dot (a / 67108864).toNat (by simp; omega)
 have h2 := List.all_eq_true.1 h (b / 67108864).toNat (by simp; omega)
 exact of_decide_eq_true h2
theorem norm_le {a b x1 x2 y1 y2 : Int} (h0 : x1 * x1 + x2 * x2 ≤ 16384) (h1 : y1 * y1 + y2 * y2 ≤ 16384) (hd : -16384 ≤ x1 * y1 + x2 * y2 ∧ x1 * y1 + x2 * y2 ≤ 16384) :
  (a * x1 + b * y1) * (a * x1 + b * y1) + (a * x2 + b * y2) * (a * x2 + b * y2) ≤ 16384 * ((absI a + absI b) * (absI a + absI b)) := by
 have e : (a * x1 + b * y1) * (a * x1 + b * y1) + (a * x2 + b * y2) * (a * x2 + b * y2) = (a * a) * (x1 * x1 + x2 * x2) + (b * b) * (y1 * y1 + y2 * y2) + 2 * ((a * b) * (x1 * y1 + x2 * y2)) := by grind
 rw [e]
 generalize x1 * x1 + x2 * x2 = n0 at *
 generalize y1 * y1 + y2 * y2 = n1 at *
 generalize x1 * y1 + x2 * y2 = d at *
 have sq : ∀ x : Int, x * x = absI x * absI x := fun x => by unfold absI; rcases Int.le_total 0 x with c | c <;> simp [Int.max_def] <;> split <;> grind
 have p0 : 0 ≤ a * a := by rw [sq]; exact Int.mul_nonneg (absI_nonneg _) (absI_nonneg _)
 have p1 : 0 ≤ b * b := by rw [sq]; exact Int.mul_nonneg (absI_nonneg _) (absI_nonneg _)
 have q0 : a * a * n0 ≤ a * a * 16384 := Int.mul_le_mul_of_nonneg_left h0 p0
 have q1 : b * b * n1 ≤ b * b * 16384 := Int.mul_le_mul_of_nonneg_left h1 p1
 have q2 : a * b * d ≤ absI (a * b) * 16384 := by
  have h : absI (a * b * d) ≤ absI (a * b) * 16384 := by
   rw [absI_mul]
   exact Int.mul_le_mul_of_nonneg_left (by unfold absI; omega) (absI_nonneg _)
  unfold absI at h ⊢
  omega
 rw [absI_mul] at q2
 have f : 16384 * ((absI a + absI b) * (absI a + absI b)) = absI a * absI a * 16384 + absI b * absI b * 16384 + 2 * (absI a * absI b * 16384) := by grind
 rw [f, ← sq, ← sq]
 omega
end Go.Ae
/- Windows over an emitter's samples are bounded. -/
set_option linter.unusedSimpArgs false
set_option linter.unusedVariables false
namespace Go.Ae
theorem absI_sgn {x g : Int} (hg : g = 1 ∨ g = -1) {a : Int} (ha : 0 ≤ a) : absI (a * g * x) = a * absI x := by
 rw [absI_mul]
 congr 1
 unfold absI
 rcases hg with rfl | rfl <;> omega
theorem sgn_pm {p : PlanP} {e : EmitP} (ok : EmOk p e) (k : Int) : 1 - 2 * bitI p e k = 1 ∨ 1 - 2 * bitI p e k = -1 := by
 rcases ok.bit k with h | h <;> rw [h] <;> simp
theorem sq_mono {x y : Int} (h0 : 0 ≤ x) (h : x ≤ y) : x * x ≤ y * y := Int.mul_le_mul h h h0 (by omega)
theorem sig_window {p : PlanP} {e : EmitP} (ok : EmOk p e) {A : List Int} (hA : (A.length : Int) = p.size) (n : Int) (mg : Nat)
  (ho : mg = 0 ∨ (1 ≤ mg ∧ (mg : Int) ≤ n - e.sta p (e.pl p n) ∧ (mg : Int) ≤ e.sta p (e.pl p n + 1) - n)) :
  (sumW A (fun i => atV p e (n + (i : Nat))) A.length).1 * (sumW A (fun i => atV p e (n + (i : Nat))) A.length).1 + (sumW A (fun i => atV p e (n + (i : Nat))) A.length).2 * (sumW A (fun i => atV p e (n + (i : Nat))) A.length).2 ≤
   16384 * ((e.amp * greatI A (sampL p.d e.prn p.o.toNat) mg) * (e.amp * greatI A (sampL p.d e.prn p.o.toNat) mg)) := by
 have sz := size_range ok.pn
 have hB : ((sampL p.d e.prn p.o.toNat).length : Int) = p.size := by rw [sampL_length, sz.2.2]
 have am : 0 ≤ e.amp := by
  have := ok.en.2.2.1
  have := ok.pn.2.2.2.2.1
  omega
 have per := ok.per n
 have pl := pl_lt (dl := e.dl) (n := n) ok.den
 have pl : n < e.sta p (e.pl p n + 1) := pl
 have st1 := st_step (dl := e.dl) (sz := p.size) (k := e.pl p n) ok.en.2.1
 have st2 := st_step (dl := e.dl) (sz := p.size) (k := e.pl p n + 1) ok.en.2.1
 have st1 : p.size - 1 ≤ e.sta p (e.pl p n + 1) - e.sta p (e.pl p n) ∧ e.sta p (e.pl p n + 1) - e.sta p (e.pl p n) ≤ p.size + 1 := st1
 have st2 : p.size - 1 ≤ e.sta p (e.pl p n + 1 + 1) - e.sta p (e.pl p n + 1) := st2.1
 have a0 := fun (i : Nat) (hi : n + (i : Int) < e.sta p (e.pl p n + 1)) => at_in ok (x := n + (i : Int)) (K := e.pl p n) (by omega) hi
 have a1 := fun (i : Nat) (h1 : e.sta p (e.pl p n + 1) ≤ n + (i : Int)) (h2 : n + (i : Int) < e.sta p (e.pl p n + 1 + 1)) => at_in ok (x := n + (i : Int)) (K := e.pl p n + 1) h1 h2
 have g0 := sgn_pm ok (e.pl p n)
 have g1 := sgn_pm ok (e.pl p n + 1)
 have u0 := phI_u32 e.ph e.st (e.pl p n)
 have u1 := phI_u32 e.ph e.st (e.pl p n + 1)
 have d0b := carP_dot u0 u0
 have d0 := (carP_dot u0 u0).2
 have d1 := (carP_dot u1 u1).2
 have dd := carP_dot u0 u1
 generalize carP (phI e.ph e.st (e.pl p n)) = c0 at *
 generalize carP (phI e.ph e.st (e.pl p n + 1)) = c1 at *
 generalize 1 - 2 * bitI p e (e.pl p n) = s0 at *
 generalize 1 - 2 * bitI p e (e.pl p n + 1) = s1 at *
 generalize e.sta p (e.pl p n + 1 + 1) = S2 at *
 generalize e.sta p (e.pl p n + 1) = S1 at *
 generalize e.sta p (e.pl p n) = S0 at *
 generalize sampL p.d e.prn p.o.toNat = B at *
 generalize e.amp = am0 at *
 obtain ⟨m, hm⟩ := Int.eq_ofNat_of_zero_le (show 0 ≤ S1 - n by omega)
 rcases Nat.lt_or_ge A.length m with c | c
 ·-- the window lies in one period
  have mz : mg = 0 := by omega
  subst mz
  have f1 := sumW_first (A := A) (v := fun i => atV p e (n + (i : Nat))) (F := fun i => B.getD (min (n + (i : Nat) - S0) (p.size - 1)).toNat 0) (g := am0 * s0) (c := c0) A.length (fun i hi => a0 i (by omega))
  have w1 := win_first (a := A) (b := B) (f := fun i => B.getD (min (n + (i : Nat) - S0) (p.size - 1)).toNat 0) (m := A.length) (s := 0) (g := 1) A.length (Nat.le_refl _) (fun i hi => by
   rw [Int.one_mul]
   show B.getD _ 0 = _
   congr 2
   omega)
  rw [f1, w1, Int.one_mul]
  have p1 := plc_great (a := A) (b := B) (s := 0) (mg := 0) (m := A.length) (by omega) (by omega) (by unfold cntM lastM; simp)
  have p2 : absI (pf A B A.length 0 A.length) ≤ plc A B 0 A.length := by
   unfold plc absI
   generalize ps A B A.length (A.length - A.length) = y
   omega
  generalize pf A B A.length 0 A.length = X at *
  generalize greatI A B 0 = G at *
  have nl := norm_le (a := am0 * s0 * X) (b := 0) d0 d0 d0b
  have ab := absI_sgn (x := X) g0 am
  have z0 : absI 0 = 0 := rfl
  rw [ab, z0] at nl
  have mm : am0 * absI X ≤ am0 * G := Int.mul_le_mul_of_nonneg_left (by omega) am
  have sq := sq_mono (x := am0 * absI X + 0) (y := am0 * G) (by have := Int.mul_nonneg am (absI_nonneg X); omega) (by omega)
  simp only [Int.zero_mul, Int.add_zero] at nl sq
  dsimp only
  omega
 ·obtain ⟨k, hk⟩ : ∃ k, A.length = m + k := ⟨A.length - m, by omega⟩
  have hs : -1 ≤ S1 - S0 - p.size ∧ S1 - S0 - p.size ≤ 1 := by omega
  obtain ⟨F, hF⟩ : ∃ F : Nat → Int, F = fun i => if i < m then B.getD (min (n + (i : Nat) - S0) (p.size - 1)).toNat 0 else B.getD (i - m) 0 := ⟨_, rfl⟩
  have F1 : ∀ i, i < m → F i = B.getD (min (n + (i : Nat) - S0) (p.size - 1)).toNat 0 := fun i hi => by rw [hF]; exact if_pos hi
  have F2 : ∀ i, F (m + i) = B.getD i 0 := fun i => by
   rw [hF]
   show (if m + i < m then _ else B.getD (m + i - m) 0) = _
   rw [if_neg (by omega), show m + i - m = i by omega]
  have f1 := sumW_first (A := A) (v := fun i => atV p e (n + (i : Nat))) (F := F) (g := am0 * s0) (c := c0) m (fun i hi => by rw [F1 i hi]; exact a0 i (by omega))
  have f2 := sumW_rest (A := A) (v := fun i => atV p e (n + (i : Nat))) (F := F) (g := am0 * s1) (c := c1) (m := m) k (fun i hi => by
   have q := a1 (m + i) (by omega) (by omega)
   rw [F2 i]
   rw [show (min (n + ((m + i : Nat) : Int) - S1) (p.size - 1)).toNat = i by omega] at q
   exact q)
  have w1 := win_first (a := A) (b := B) (f := F) (m := m) (s := S1 - S0 - p.size) (g := 1) m (Nat.le_refl _) (fun i hi => by
   rw [Int.one_mul, F1 i hi]
   congr 2
   omega)
  have w2 := win_rest (a := A) (b := B) (f := F) (m := m) (g := 1) k (fun i hi => by rw [Int.one_mul, F2 i])
  rw [Int.one_mul] at w1 w2
  rw [← hk] at f2 w2
  rw [f2, f1, w2, w1]
  have p1 := plc_great (a := A) (b := B) (s := S1 - S0 - p.size) (mg := mg) (m := m) hs (by omega) (by
   unfold cntM lastM
   split
   ·omega
   ·omega)
  have p2 : absI (pf A B m (S1 - S0 - p.size) m) + absI (ps A B m k) ≤ plc A B (S1 - S0 - p.size) m := by
   unfold plc absI
   rw [show A.length - m = k by omega]
   omega
  generalize pf A B m (S1 - S0 - p.size) m = X at *
  generalize ps A B m k = Y at *
  generalize greatI A B mg = G at *
  have nl := norm_le (a := am0 * s0 * X) (b := am0 * s1 * Y) d0 d1 dd
  have ab := absI_sgn (x := X) g0 am
  have ab2 := absI_sgn (x := Y) g1 am
  rw [ab, ab2, ← Int.mul_add] at nl
  have mm : am0 * (absI X + absI Y) ≤ am0 * G := Int.mul_le_mul_of_nonneg_left (by omega) am
  have sq := sq_mono (Int.mul_nonneg am (by have := absI_nonneg X; have := absI_nonneg Y; omega)) mm
  dsimp only
  rw [show X + Y - X = Y by omega]
  omega
end Go.Ae
/- What the sums of a plan are: the program. -/
set_option linter.unusedSimpArgs false
set_option linter.unusedVariables false
namespace Go.Ae
def askA (p : PlanP) (vp : AV) (b s : Int) : AV := .agg [.int .i64 p.d, .int .i64 p.o, .int .i64 p.pb, .int .i64 p.w, .int .i64 p.mn, .int .i64 p.mx, .int .i64 p.nz, vp, .int .i64 b, .int .i64 s]
def humI (p : PlanP) (s : Int) : Int := (3 * p.size * (p.nz + coarI s) + 1) / 2
def SumV (h : Heap) (v : AV) (p : PlanP) (s : Int) : Prop := ∃ j, v = .agg [.map j, .int .i64 p.size, .int .i64 (humI p s)] ∧ h.get j = some (.map (ents (sumI p.d p.o) (grid p.prns p.prns)))
theorem SumV.mono {h h' : Heap} {v : AV} {p : PlanP} {s : Int} (H : SumV h v p s) (hs : HSub h h') : SumV h' v p s := by
 obtain ⟨j, e, g⟩ := H
 exact ⟨j, e, (hs.get j (Heap.lt_of_get g)).trans g⟩
theorem LLI.atC {h : Heap} {v : AV} {ll : List (List Int)} (H : LLI h v ll) {i : Nat} (hi : i < ll.length) : ∃ w, idxA 1 v (.int .i64 (i : Nat)) = some (elA 1 v i) ∧ (∀ h', HSub h h' → Ae.loadA h' false 1 (elA 1 v i) = some w) ∧ RI h w (ll.getD i []) := by
 obtain ⟨vs, a, b, c⟩ := H
 refine ⟨vs.getD i .nilslice, a.idx ⟨by omega, by omega⟩, fun h' hs => ?_, c i hi⟩
 rw [SL.load1 (a.mono hs) hi]
 simp [show i < vs.length by omega]
theorem coar_range {s : Int} (h : 0 ≤ s ∧ s ≤ 30) : 0 ≤ coarI s ∧ coarI s ≤ 536870912 := by
 have := pow_30 h
 unfold coarI
 generalize (2 : Int) ^ s.toNat = q at *
 omega
theorem hum_range {p : PlanP} {s : Int} (ok : PlanOk p) (h : 0 ≤ s ∧ s ≤ 30) : 0 ≤ 3 * p.size * (p.nz + coarI s) ∧ 3 * p.size * (p.nz + coarI s) ≤ 13183710000000 ∧ 0 ≤ 3 * p.size ∧ 3 * p.size ≤ 24552 := by
 have a : 31 ≤ p.size ∧ p.size ≤ 8184 := ⟨(size_range ok.nums).1, (size_range ok.nums).2.1⟩
 have b := coar_range h
 have n := ok.nums.2.2.2.2.2.2
 have q1 : 0 ≤ p.nz + coarI s := by omega
 have q2 : p.nz + coarI s ≤ 536970912 := by omega
 have m1 := Int.mul_nonneg (show 0 ≤ 3 * p.size by omega) q1
 have m2 := Int.mul_le_mul (show 3 * p.size ≤ 24552 by omega) q2 q1 (by decide)
 refine ⟨m1, Int.le_trans m2 (by decide), by omega, by omega⟩
section
variable {C : Ctx}
set_option maxHeartbeats 4000000 in
set_option maxRecDepth 20000 in
theorem known340_spec (hC : Has C T340) {p : PlanP} {vp : AV} {b s : Int} {h : Heap} (ok : PlanOk p) (hg : gErr b s = 0) (h64 : p.ok64) (R : RI h vp p.prns) :
  ACalls C 340 [askA p vp b s] h (fun r h' => SumV h' r p s ∧ HSub h h') := by
 have v1 := R.one
 have g := gErr_ok hg
 have L := fun h => Length_spec (zu hC T70) (h := h) h64.1
 have el : lenE p.d = tup2 (lenN p.d) 0 := by unfold lenE; rw [if_pos ok.nums.1]
 simp only [el] at L
 have kt := fun h1 (R1 : RI h1 vp p.prns) => Table_spec (zu hC T172) (h := h1) h64.1 h64.2.1 R1 h64.2.2.2.2.2.2.2
 rw [ok.tab] at kt
 simp only [if_true] at kt
 have kc := fun h1 => qCoarse_spec (b := b) (s := s) (h := h1) (zu hC T351)
 unfold coarE at kc
 rw [if_pos hg] at kc
 have sz := size_range ok.nums
 have hu := hum_range ok g.2.2
 have cr := coar_range g.2.2
 have tv := fun (i k : Nat) (hi : i < p.prns.length) (hk : k < p.prns.length) => ok.tbl hi hk
 have tl : (tblL p.d p.o.toNat p.prns).length = p.prns.length := by simp [tblL]
 have tr : ∀ i, i < p.prns.length → ((tblL p.d p.o.toNat p.prns).getD i []).length = p.prns.length := by
  intro i hi
  simp [tblL, List.getD_eq_getElem?_getD, hi, tabRow_length]
 have new := fun (i k : Nat) (hi : i < p.prns.length) (hk : k < p.prns.length) => keysTo_new ok.nodup hi hk
 have kend := keysTo_end p.prns
 have kstep := fun (i k : Nat) (hk : k < p.prns.length) => keysTo_step (ps := p.prns) (i := i) hk
 have krow := fun (i : Nat) (hi : i < p.prns.length) => keysTo_row (ps := p.prns) hi
 have l8 := ok.len
 have ez : (lenN p.d : Int) * p.o = p.size := rfl
 have nzr := ok.nums.2.2.2.2.2.2
 have np := ok.nums.2.1
 have xl : ∃ N : Int, N = (lenN p.d : Int) := ⟨_, rfl⟩
 obtain ⟨N, hN⟩ := xl
 have hN1 := lenN_eq ok.nums.1
 have hNr : 31 ≤ N ∧ N ≤ 1023 := by omega
 rw [← hN] at L ez
 unfold SumV humI askA
 generalize hf : sumI p.d p.o = f at *
 generalize tblL p.d p.o.toNat p.prns = TT at *
 generalize p.size = S at *
 generalize coarI s = cs at *
 obtain ⟨d, o, pb, w, mn, mx, nz, prns⟩ := p
 dsimp only at *
 refine zf hC tab340 ?_; simp only [B340]; refine zs ?_
 refine ACallsK.eq (L _) ?_
 refine zs1 @tup2.eq_1 ?_
 refine ACallsK.of (kt _ (R.mono (zh (HSub.refl h)))) ?_
 rintro r h2 ⟨v, rfl, sA, TL⟩
 have R2 := R.mono ((show HSub h ((h.push (.cells [.int .i64 d, .int .i64 o, .int .i64 pb, .int .i64 w, .int .i64 mn, .int .i64 mx, .int .i64 nz, vp, .int .i64 b, .int .i64 s] true 0)).push (.cells [.nilmap, .int .i64 0, .int .i64 0] true 0)) from (zh (HSub.refl h))).trans sA)
 have z2 := sA.size
 simp only [Heap.size_push] at z2
 have gP : h2.get h.size = some (.cells [.int .i64 d, .int .i64 o, .int .i64 pb, .int .i64 w, .int .i64 mn, .int .i64 mx, .int .i64 nz, vp, .int .i64 b, .int .i64 s] true 0) := (sA.get _ (by simp only [Heap.size_push]; omega)).trans (by exact ze)
 have gT : h2.get (h.size + 1) = some (.cells [.nilmap, .int .i64 0, .int .i64 0] true 0) := (sA.get _ (by simp only [Heap.size_push]; omega)).trans (by exact ze)
 have hs2 : HSub h h2 := (show HSub h _ from (zh (HSub.refl h))).trans sA
 clear sA kt
 unfold gA at kc
 refine zs3 @lstErr.eq_1 @gP @wpMap ?_
 refine ACallsK.eq (kc _) ?_
 have o1 : (AV.map h2.size).one = true := rfl
 have o0 : AV.nilmap.one = true := rfl
 refine zs6 @tup2.eq_1 @gP @gT @wpMap @ez @TL.len ?_
 refine wp_loopI (fun j t h' => ∃ i : Nat, HSub h2 h' ∧ h'.get h2.size = some (.map (ents f (keysTo prns i 0))) ∧ h'.get (h2.size + 1) = some (.cells [.map h2.size, .int .i64 S, .int .i64 0] true 0) ∧
  t 1 = .ptr h.size 0 ∧ t 2 = .ptr (h.size + 1) 0 ∧ t 7 = .int .i64 cs ∧ t 9 = .ptr (h2.size + 1) 0 ∧ t 47 = v ∧ t 48 = .int .i64 (TT.length : Nat) ∧ t 49 = .int .i64 (i : Nat) ∧ i ≤ prns.length ∧ j = prns.length - i) (j0 := prns.length)
  ⟨0, (zh (HSub.refl h2)), by refine zs ?_; simp [keysTo, grid, ents], by exact ze, rfl, rfl, rfl, rfl, rfl, rfl, rfl, by omega, rfl⟩ ?_
 rintro j t h3 ⟨i, s3, gM, gC, e1, e2, e7, e9, e47, e48, e49, hi, hj⟩
 refine zs2 @e48 @e49 ?_
 refine Br.by (fun c1 => ?_) (fun c1 => ?_)
 ·have hi' : i < prns.length := by omega
  have xr := TL.atC (i := i) (by omega)
  obtain ⟨w, ix, ld, Rw⟩ := xr
  have ld := ld _ s3
  have lenw := Rw.len
  have lw := tr i hi'
  rw [lw] at lenw
  refine zs10 @e1 @e2 @e7 @e9 @e47 @e48 @e49 @ix @ld @lenw ?_
  refine wp_loopI (fun j t h' => ∃ k : Nat, HSub h2 h' ∧ h'.get h2.size = some (.map (ents f (keysTo prns i k))) ∧ h'.get (h2.size + 1) = some (.cells [.map h2.size, .int .i64 S, .int .i64 0] true 0) ∧
   t 1 = .ptr h.size 0 ∧ t 2 = .ptr (h.size + 1) 0 ∧ t 7 = .int .i64 cs ∧ t 9 = .ptr (h2.size + 1) 0 ∧ t 10 = .int .i64 (i : Nat) ∧ t 47 = v ∧ t 48 = .int .i64 (TT.length : Nat) ∧ t 49 = .int .i64 (i : Nat) ∧ t 54 = w ∧ t 55 = .int .i64 (prns.length : Nat) ∧ t 56 = .int .i64 (k : Nat) ∧ k ≤ prns.length ∧ j = prns.length - k) (j0 := prns.length)
   ⟨0, s3, gM, gC, e1, e2, e7, e9, rfl, e47, e48, e49, rfl, rfl, rfl, by omega, rfl⟩ ?_
  clear ix ld gM gC e1 e2 e7 e9 e47 e48 e49
  rintro j t h4 ⟨k, s4, gM, gC, e1, e2, e7, e9, e10, e47, e48, e49, e54, e55, e56, hk, hj⟩
  refine zs2 @e55 @e56 ?_
  refine Br.by (fun c2 => ?_) (fun c2 => ?_)
  ·have hk' : k < prns.length := by omega
   have Rw4 := Rw.mono s4
   have Rp4 := R2.mono s4
   have gP4 := (s4.get _ (by omega)).trans gP
   have lk := Rw4.load (k := k) (by omega)
   rw [tv i k hi' hk'] at lk
   have li := Rp4.load hi'
   have lj := Rp4.load hk'
   have up := fun H => upd_out (f := f) (h := H) (i := h2.size) (new i k hi' hk')
   rw [← kstep i k hk'] at up
   simp only [keyP, ksP] at up
   have one := Rw.one
   simp -implicitDefEqProofs (disch := first | exact zd | fail) only [↓wpPre, wpPost, wpPoly, Int.reduceToNat, Int.reducePow, Int.reduceMul, Int.reduceAdd, Int.reduceSub, Int.reduceNeg, Nat.reduceAdd, Nat.reduceMul, Nat.reducePow, Int.reduceLT, Int.reduceLE, Int.reduceEq, Nat.reduceEqDiff, e1, e2, e7, e9, e10, e47, e48, e49, e54, e55, e56, Rw4.idx, Rp4.idx, lk, li, lj, gP4, gC, gM, wpMap, up]
   have z4 := Heap.lt_of_get gM
   exact ⟨_, ⟨k + 1, HSub.put s4 (Nat.le_refl _) _, get_put_eq rfl z4, by omega, by omega, rfl⟩, by omega⟩
  ·obtain rfl : k = prns.length := by omega
   refine zs7 @e1 @e2 @e7 @e9 @e47 @e48 @e49 ?_
   rw [krow i hi'] at gM
   exact ⟨_, ⟨i + 1, s4, gM, gC, by omega, by omega, rfl⟩, by omega⟩
 ·obtain rfl : i = prns.length := by omega
  rw [kend] at gM
  have gT3 := (s3.get _ (by omega)).trans gT
  have gP3 := (s3.get _ (by omega)).trans gP
  have z3 := Heap.lt_of_get gC
  refine zs12 @e1 @e2 @e7 @e9 @e47 @e48 @e49 @gC @gP3 @gT3 @o1 @o0 ?_
  exact ⟨⟨h2.size, rfl, by rw [get_put_ne (by omega), get_put_ne (by omega)]; exact gM⟩, HSub.put (HSub.put (hs2.trans s3) (by omega) _) (by omega) _⟩
end
end Go.Ae
/- Bounds, thresholds and floors out of the sums of a plan: the program. -/
set_option linter.unusedSimpArgs false
set_option linter.unusedVariables false
namespace Go.Ae
def othK (f : Int → Int → Int) (prn : Int) (ps : List Int) : Nat → Int
 | 0 => 0
 | k + 1 => othK f prn ps k + if ps.getD k 0 = prn then 0 else f prn (ps.getD k 0)
theorem othK_range {f : Int → Int → Int} (fr : ∀ a b, 0 ≤ f a b ∧ f a b ≤ 8184) {prn : Int} {ps : List Int} : ∀ k : Nat, 0 ≤ othK f prn ps k ∧ othK f prn ps k ≤ 8184 * k
 | 0 => by simp [othK]
 | k + 1 => by
  have h := othK_range fr (prn := prn) (ps := ps) k
  have q := fr prn (ps.getD k 0)
  unfold othK
  split <;> omega
def PlanP.oth (p : PlanP) (prn : Int) : Int := othK (sumI p.d p.o) prn p.prns p.prns.length
def boundI (p : PlanP) (s prn : Int) : Int := 128 * p.mx * (sumI p.d p.o prn prn + p.oth prn) + humI p s
def thrI (p : PlanP) (s prn : Int) : Int := (boundI p s prn + 2 ^ s.toNat - 1) / 2 ^ s.toNat
def floorI (p : PlanP) (s prn : Int) : Int := 126 * p.mn * (p.size - 2) - 128 * p.mx * p.oth prn - humI p s
theorem sumI_range {p : PlanP} (hn : p.numsOk) (a b : Int) : 0 ≤ sumI p.d p.o a b ∧ sumI p.d p.o a b ≤ 8184 := by
 have h := rowG_le (sampL_one1 p.d a p.o.toNat) (sampL_one1 p.d b p.o.toNat) (if a = b then p.o.toNat else 0) 3 (Nat.le_refl _)
 rw [rowG_three, sampL_length] at h
 have sz := size_range hn
 unfold sumI
 omega
theorem oth_range {p : PlanP} (ok : PlanOk p) (prn : Int) : 0 ≤ p.oth prn ∧ p.oth prn ≤ 65472 := by
 have h := othK_range (f := sumI p.d p.o) (fun a b => sumI_range ok.nums a b) (prn := prn) (ps := p.prns) p.prns.length
 have := ok.len
 unfold PlanP.oth
 omega
theorem humI_range {p : PlanP} {s : Int} (ok : PlanOk p) (h : 0 ≤ s ∧ s ≤ 30) : 0 ≤ humI p s ∧ humI p s ≤ 6591855000000 := by
 have := hum_range ok h
 unfold humI
 generalize 3 * p.size * (p.nz + coarI s) = q at *
 omega
theorem mx_range {p : PlanP} (ok : PlanOk p) {x : Int} (h : 0 ≤ x ∧ x ≤ 73656) : 0 ≤ 128 * p.mx * x ∧ 128 * p.mx * x ≤ 9427968000 := by
 have n := ok.nums.2.2.2.2
 have q1 : 0 ≤ 128 * p.mx := by omega
 have m1 := Int.mul_nonneg q1 h.1
 have m2 := Int.mul_le_mul (show 128 * p.mx ≤ 128000 by omega) h.2 h.1 (by decide)
 exact ⟨m1, Int.le_trans m2 (by decide)⟩
theorem mn_range {p : PlanP} (ok : PlanOk p) : 0 ≤ 126 * p.mn * (p.size - 2) ∧ 126 * p.mn * (p.size - 2) ≤ 1030932000 := by
 have n := ok.nums.2.2.2.2
 have sz := size_range ok.nums
 have q1 : 0 ≤ 126 * p.mn := by omega
 have q2 : 0 ≤ p.size - 2 := by omega
 have m1 := Int.mul_nonneg q1 q2
 have m2 := Int.mul_le_mul (show 126 * p.mn ≤ 126000 by omega) (show p.size - 2 ≤ 8182 by omega) q2 (by decide)
 exact ⟨m1, Int.le_trans m2 (by decide)⟩
theorem bound_range {p : PlanP} {s : Int} (ok : PlanOk p) (h : 0 ≤ s ∧ s ≤ 30) (prn : Int) : 0 ≤ boundI p s prn ∧ boundI p s prn ≤ 6601282968000 := by
 have a := sumI_range ok.nums prn prn
 have b := oth_range ok prn
 have c := humI_range ok h
 have d := mx_range ok (x := sumI p.d p.o prn prn + p.oth prn) (by omega)
 unfold boundI
 omega
theorem thr_range {p : PlanP} {s : Int} (ok : PlanOk p) (h : 0 ≤ s ∧ s ≤ 30) (prn : Int) : 0 ≤ thrI p s prn ∧ thrI p s prn ≤ 6602356709823 := by
 have b := bound_range ok h prn
 have q := pow_30 h
 unfold thrI
 generalize (2 : Int) ^ s.toNat = P at *
 generalize boundI p s prn = B at *
 constructor
 ·exact Int.ediv_nonneg (by omega) (by omega)
 ·have := Int.ediv_le_self P (show 0 ≤ B + P - 1 by omega)
  omega
section
variable {C : Ctx}
set_option maxRecDepth 20000 in
theorem other356_spec (hC : Has C T356) {f : Int → Int → Int} {K : List (Int × Int)} {n q prn S H : Int} {i5 i3 j u5 u3 : Nat} {h : Heap} (fr : ∀ a b, 0 ≤ f a b ∧ f a b ≤ 8184) (hn : 0 ≤ n ∧ n ≤ 1000000)
  (g5 : h.get i5 = some (.cells [.int .i64 prn] true u5)) (g3 : h.get i3 = some (.cells [.map j, .int .i64 S, .int .i64 H] true u3)) (gm : h.get j = some (.map (ents f K))) (hin : (prn, q) ∈ K) :
  ACalls C 356 [.int .i64 n, .int .i64 q, .ptr i5 0, .ptr i3 0] h (fun r h' => r = .int .i64 (n + if q = prn then 0 else f prn q) ∧ h' = h) := by
 have lk := look_in (f := f) (z := .int .i64 0) hin
 simp only [keyP, ksP] at lk
 have fq := fr prn q
 by_cases c : q = prn
 ·rw [if_pos c]
  refine zf hC tab356 ?_; simp only [B356]; refine zs2 @g5 @c ?_
  omega
 ·rw [if_neg c]
  refine zf hC tab356 ?_; simp only [B356]; exact ze6 @g5 @g3 @gm @c @wpMap @lk
set_option maxRecDepth 20000 in
theorem fold355_spec (hC : Has C T347) {f : Int → Int → Int} {K : List (Int × Int)} {prn S H : Int} {i5 i3 j u5 u3 : Nat} {v : AV} {l : List Int} {h : Heap} (fr : ∀ a b, 0 ≤ f a b ∧ f a b ≤ 8184) (R : RI h v l) (l8 : l.length ≤ 8)
  (g5 : h.get i5 = some (.cells [.int .i64 prn] true u5)) (g3 : h.get i3 = some (.cells [.map j, .int .i64 S, .int .i64 H] true u3)) (gm : h.get j = some (.map (ents f K))) (hin : ∀ q ∈ l, (prn, q) ∈ K) :
  ACalls C 355 [v, .int .i64 0, .func 356 [] [.ptr i5 0, .ptr i3 0]] h (fun r h' => r = .int .i64 (othK f prn l l.length) ∧ h' = h) := by
 have rg := fun k => othK_range fr (prn := prn) (ps := l) k
 have st := fun (k : Nat) (hk : k < l.length) => other356_spec (zu hC T356) (n := othK f prn l k) (q := l.getD k 0) fr (by have := rg k; omega) g5 g3 gm (hin _ (getD_mem hk))
 have hC := hC.sub (T' := T355) (by decide)
 refine zf hC tab355 ?_; simp only [B355]; refine zs1 @R.len ?_
 refine wp_loopI (fun j t h' => h' = h ∧ ∃ k : Nat, t 1 = .int .i64 (othK f prn l k) ∧ t 2 = .func 356 [] [.ptr i5 0, .ptr i3 0] ∧ t 9 = v ∧ t 10 = .int .i64 (l.length : Nat) ∧ t 11 = .int .i64 (k : Nat) ∧ k ≤ l.length ∧ j = l.length - k) (j0 := l.length)
  ⟨rfl, 0, rfl, rfl, rfl, rfl, rfl, by omega, rfl⟩ ?_
 rintro j t h' ⟨rfl, k, e1, e2, e9, e10, e11, hk, hj⟩
 refine zs2 @e10 @e11 ?_
 refine Br.by (fun c => ?_) (fun c => ?_)
 ·have hk' : k < l.length := by omega
  refine zs7 @e1 @e2 @e9 @e10 @e11 @R.idx (R.load hk') ?_
  refine ACallsK.eq (st k hk') ?_
  refine zs5 @e1 @e2 @e9 @e10 @e11 ?_
  exact ⟨_, ⟨k + 1, rfl, by omega, by omega, rfl⟩, by omega⟩
 ·obtain rfl : k = l.length := by omega
  exact ze1 @e1
set_option maxRecDepth 20000 in
theorem others347_spec (hC : Has C T347) {p : PlanP} {vp sv : AV} {b s prn : Int} {h : Heap} (ok : PlanOk p) (R : RI h vp p.prns) (V : SumV h sv p s) (hin : prn ∈ p.prns) :
  ACalls C 347 [sv, askA p vp b s, .int .i64 prn] h (fun r h' => r = .int .i64 (p.oth prn) ∧ h' = h) := by
 refine ACalls.gc0 (P := fun r h' => r = .int .i64 (p.oth prn) ∧ HSub h h') ?_ (fun r h' hp => ⟨by rw [hp.1]; trivial, hp.2, hp.1, rfl⟩)
 have v1 := R.one
 obtain ⟨j, rfl, gm⟩ := V
 have jl := Heap.lt_of_get gm
 have ff := fun (H : Heap) (i5 i3 u5 u3 : Nat) (R1 : RI H vp p.prns) g5 g3 gm1 => fold355_spec hC (h := H) (prn := prn) (S := p.size) (H := humI p s) (i5 := i5) (i3 := i3) (u5 := u5) (u3 := u3) (j := j) (fun a b => sumI_range ok.nums a b) R1 ok.len.2 g5 g3 gm1 (fun q hq => mem_grid.2 ⟨hin, hq⟩)
 unfold PlanP.oth askA
 generalize sumI p.d p.o = f at *
 generalize p.size = S at *
 generalize humI p s = HM at *
 have o1 : (AV.map j).one = true := rfl
 refine zf hC tab347 ?_; simp only [B347]; refine zs1 @wpMap ?_
 refine ACallsK.eq (ff _ _ _ 0 0 (R.mono (zh (HSub.refl h))) (by exact ze) (by exact ze) (by refine zs ?_; exact gm)) ?_
 refine zs ?_
 exact (zh (HSub.refl h))
set_option maxRecDepth 20000 in
theorem bound334_spec (hC : Has C T334) {p : PlanP} {vp sv : AV} {b s prn : Int} {h : Heap} (ok : PlanOk p) (hs : 0 ≤ s ∧ s ≤ 30) (R : RI h vp p.prns) (V : SumV h sv p s) (hin : prn ∈ p.prns) :
  ACalls C 334 [sv, askA p vp b s, .int .i64 prn] h (fun r h' => r = .int .i64 (boundI p s prn) ∧ h' = h) := by
 refine ACalls.gc0 (P := fun r h' => r = .int .i64 (boundI p s prn) ∧ HSub h h') ?_ (fun r h' hp => ⟨by rw [hp.1]; trivial, hp.2, hp.1, rfl⟩)
 have v1 := R.one
 have lk := fun (H : Heap) => others347_spec (b := b) (zu hC T347) (h := H) (sv := sv) (vp := vp) (prn := prn) (s := s) ok
 have bd := bound_range ok hs prn
 have m1 := sumI_range ok.nums prn prn
 have m2 := oth_range ok prn
 have m3 := mx_range ok (x := sumI p.d p.o prn prn + p.oth prn) (by omega)
 have m4 := ok.nums.2.2.2.2
 have V0 := V
 obtain ⟨j, rfl, gm⟩ := V
 have jl := Heap.lt_of_get gm
 have kin := look_in (f := sumI p.d p.o) (z := .int .i64 0) (mem_grid.2 ⟨hin, hin⟩)
 simp only [keyP, ksP] at kin
 have o1 : (AV.map j).one = true := rfl
 unfold boundI askA at *
 generalize p.oth prn = O at *
 generalize sumI p.d p.o = f at *
 generalize p.size = S at *
 generalize humI p s = HM at *
 obtain ⟨d, o, pb, w, mn, mx, nz, prns⟩ := p
 dsimp only at *
 refine zf hC tab334 ?_; simp only [B334]; refine zs3 @wpMap @gm @kin ?_
 refine ACallsK.eq (lk _ (R.mono (zh (HSub.refl h))) (V0.mono (zh (HSub.refl h))) hin) ?_
 refine zs1 @wpMap ?_
 exact (zh (HSub.refl h))
set_option maxRecDepth 20000 in
theorem thr332_spec (hC : Has C T332) {p : PlanP} {vp sv : AV} {b s prn : Int} {h : Heap} (ok : PlanOk p) (hs : 0 ≤ s ∧ s ≤ 30) (R : RI h vp p.prns) (V : SumV h sv p s) (hin : prn ∈ p.prns) :
  ACalls C 332 [sv, askA p vp b s, .int .i64 prn] h (fun r h' => r = .int .i64 (thrI p s prn) ∧ h' = h) := by
 refine ACalls.gc0 (P := fun r h' => r = .int .i64 (thrI p s prn) ∧ HSub h h') ?_ (fun r h' hp => ⟨by rw [hp.1]; trivial, hp.2, hp.1, rfl⟩)
 have v1 := R.one
 have lk := fun (H : Heap) => bound334_spec (b := b) (zu hC T334) (h := H) (sv := sv) (vp := vp) (prn := prn) ok hs
 have bd := bound_range ok hs prn
 have p30 := pow_30 hs
 have V0 := V
 obtain ⟨j, rfl, gm⟩ := V
 have o1 : (AV.map j).one = true := rfl
 have fd := Int.fdiv_eq_ediv_of_nonneg (boundI p s prn + 2 ^ s.toNat - 1) (show 0 ≤ (2 : Int) ^ s.toNat by omega)
 unfold thrI askA at *
 generalize boundI p s prn = B at *
 generalize p.size = S at *
 generalize humI p s = HM at *
 generalize hP : (2 : Int) ^ s.toNat = P at *
 obtain ⟨d, o, pb, w, mn, mx, nz, prns⟩ := p
 dsimp only at *
 refine zf hC tab332 ?_; simp only [B332]; refine zs4 @wpMap @gm @hP @Int.one_mul ?_
 refine ACallsK.eq (lk _ (R.mono (zh (HSub.refl h))) (V0.mono (zh (HSub.refl h))) hin) ?_
 refine zs4 @wpMap @hP @fd @Int.one_mul ?_
 exact (zh (HSub.refl h))
set_option maxRecDepth 20000 in
theorem floor338_spec (hC : Has C T338) {p : PlanP} {vp sv : AV} {b s prn : Int} {h : Heap} (ok : PlanOk p) (hs : 0 ≤ s ∧ s ≤ 30) (R : RI h vp p.prns) (V : SumV h sv p s) (hin : prn ∈ p.prns) :
  ACalls C 338 [sv, askA p vp b s, .int .i64 prn] h (fun r h' => r = .int .i64 (floorI p s prn) ∧ h' = h) := by
 refine ACalls.gc0 (P := fun r h' => r = .int .i64 (floorI p s prn) ∧ HSub h h') ?_ (fun r h' hp => ⟨by rw [hp.1]; trivial, hp.2, hp.1, rfl⟩)
 have v1 := R.one
 have lk := fun (H : Heap) => others347_spec (b := b) (zu hC T347) (h := H) (sv := sv) (vp := vp) (prn := prn) (s := s) ok
 have m2 := oth_range ok prn
 have m3 := mx_range ok (x := p.oth prn) (by omega)
 have m4 := ok.nums.2.2.2.2
 have m5 := mn_range ok
 have m6 := size_range ok.nums
 have m7 := humI_range ok hs
 have V0 := V
 obtain ⟨j, rfl, gm⟩ := V
 have jl := Heap.lt_of_get gm
 have o1 : (AV.map j).one = true := rfl
 unfold floorI askA at *
 generalize p.oth prn = O at *
 generalize p.size = S at *
 generalize humI p s = HM at *
 obtain ⟨d, o, pb, w, mn, mx, nz, prns⟩ := p
 dsimp only at *
 refine zf hC tab338 ?_; simp only [B338]; refine zs2 @wpMap @gm ?_
 refine ACallsK.eq (lk _ (R.mono (zh (HSub.refl h))) (V0.mono (zh (HSub.refl h))) hin) ?_
 refine zs1 @wpMap ?_
 exact (zh (HSub.refl h))
end
end Go.Ae
/- Full products of two words; what a plan, a gain and a code come to: the program. -/
set_option linter.unusedSimpArgs false
set_option linter.unusedVariables false
namespace Go.Ae
theorem w_u64m (x : Int) : IntKind.u64.wrap x = x % 18446744073709551616 := by
 unfold IntKind.wrap
 rfl
theorem mul_hi {a b : Int} (ha : 0 ≤ a ∧ a < 18446744073709551616) (hb : 0 ≤ b ∧ b < 18446744073709551616) :
  0 ≤ a % 4294967296 * (b % 4294967296) ∧ a % 4294967296 * (b % 4294967296) ≤ 18446744065119617025 ∧ 0 ≤ a / 4294967296 * (b % 4294967296) ∧ a / 4294967296 * (b % 4294967296) ≤ 18446744065119617025 ∧
  0 ≤ a % 4294967296 * (b / 4294967296) ∧ a % 4294967296 * (b / 4294967296) ≤ 18446744065119617025 ∧ 0 ≤ a / 4294967296 * (b / 4294967296) ∧ a / 4294967296 * (b / 4294967296) ≤ 18446744065119617025 ∧
  a * b = a / 4294967296 * (b / 4294967296) * 18446744073709551616 + (a / 4294967296 * (b % 4294967296) + a % 4294967296 * (b / 4294967296)) * 4294967296 + a % 4294967296 * (b % 4294967296) := by
 have ea : a = a / 4294967296 * 4294967296 + a % 4294967296 := by omega
 have eb : b = b / 4294967296 * 4294967296 + b % 4294967296 := by omega
 have a1 : 0 ≤ a / 4294967296 ∧ a / 4294967296 ≤ 4294967295 := by omega
 have a0 : 0 ≤ a % 4294967296 ∧ a % 4294967296 ≤ 4294967295 := by omega
 have b1 : 0 ≤ b / 4294967296 ∧ b / 4294967296 ≤ 4294967295 := by omega
 have b0 : 0 ≤ b % 4294967296 ∧ b % 4294967296 ≤ 4294967295 := by omega
 generalize a / 4294967296 = x1 at *
 generalize a % 4294967296 = x0 at *
 generalize b / 4294967296 = y1 at *
 generalize b % 4294967296 = y0 at *
 have pr : ∀ {x y : Int}, 0 ≤ x ∧ x ≤ 4294967295 → 0 ≤ y ∧ y ≤ 4294967295 → 0 ≤ x * y ∧ x * y ≤ 18446744065119617025 := fun hx hy =>
  ⟨Int.mul_nonneg hx.1 hy.1, Int.le_trans (Int.mul_le_mul hx.2 hy.2 hy.1 (by decide)) (by decide)⟩
 have p1 := pr a0 b0
 have p2 := pr a1 b0
 have p3 := pr a0 b1
 have p4 := pr a1 b1
 refine ⟨p1.1, p1.2, p2.1, p2.2, p3.1, p3.2, p4.1, p4.2, ?_⟩
 rw [ea, eb]
 grind
def askErr (p : PlanP) (b s : Int) : Int := if p.err = 0 then gErr b s else p.err
def detErr (p : PlanP) (b s prn : Int) : Int := if askErr p b s = 0 then if prn ∈ p.prns then 0 else 18 else askErr p b s
theorem askErr_ok {p : PlanP} {b s : Int} (h : askErr p b s = 0) : PlanOk p ∧ gErr b s = 0 := by
 unfold askErr at h
 split at h
 ·rename_i c; exact ⟨planOk_of c, h⟩
 ·contradiction
theorem detErr_ok {p : PlanP} {b s prn : Int} (h : detErr p b s prn = 0) : askErr p b s = 0 ∧ prn ∈ p.prns := by
 unfold detErr at h
 split at h
 ·rename_i c
  split at h
  ·rename_i c2; exact ⟨c, c2⟩
  ·cases h
 ·contradiction
section
variable {C : Ctx}
theorem Mul64_full (hC : Has C T105) {a b : Int} {h : Heap} (ha : 0 ≤ a ∧ a < 18446744073709551616) (hb : 0 ≤ b ∧ b < 18446744073709551616) :
  ACalls C 105 [.int .u64 a, .int .u64 b] h (fun r h' => r = .tuple [.int .u64 (a * b / 18446744073709551616), .int .u64 (a * b % 18446744073709551616)] ∧ h' = h) := by
 obtain ⟨p1, p2, p3, p4, p5, p6, p7, p8, e⟩ := mul_hi ha hb
 have hi : a * b / 18446744073709551616 = a / 4294967296 * (b / 4294967296) + (a / 4294967296 * (b % 4294967296) + a % 4294967296 * (b % 4294967296) / 4294967296) / 4294967296 +
   ((a / 4294967296 * (b % 4294967296) + a % 4294967296 * (b % 4294967296) / 4294967296) % 4294967296 + a % 4294967296 * (b / 4294967296)) / 4294967296 := by
  rw [e]
  generalize a % 4294967296 * (b % 4294967296) = P0 at *
  generalize a / 4294967296 * (b % 4294967296) = P1 at *
  generalize a % 4294967296 * (b / 4294967296) = P2 at *
  generalize a / 4294967296 * (b / 4294967296) = P3 at *
  omega
 have hr : 0 ≤ a * b / 18446744073709551616 ∧ a * b / 18446744073709551616 ≤ 18446744073709551615 := by
  rw [e]
  generalize a % 4294967296 * (b % 4294967296) = P0 at *
  generalize a / 4294967296 * (b % 4294967296) = P1 at *
  generalize a % 4294967296 * (b / 4294967296) = P2 at *
  generalize a / 4294967296 * (b / 4294967296) = P3 at *
  omega
 rw [hi] at hr
 rw [hi]
 have wl := w_u64m (a * b)
 refine zf hC tab105 ?_; simp only [B105]; exact ze2 @and_u64m @wl
theorem plan349_spec (hC : Has C T349) {p : PlanP} {vp : AV} {b s : Int} {h : Heap} (R : RI h vp p.prns) (h64 : p.ok64) : ACalls C 349 [askA p vp b s] h (fun r h' => r = .int .i64 p.err ∧ h' = h) := by
 refine ACalls.gc0 (P := fun r h' => r = .int .i64 p.err ∧ HSub h h') ?_ (fun r h' hp => ⟨by rw [hp.1]; trivial, hp.2, hp.1, rfl⟩)
 have v1 := R.one
 have kp := fun H (R1 : RI H vp p.prns) => CheckPlan_spec (zu hC T219) (h := H) (p := p) ⟨vp, rfl, R1⟩ h64
 unfold askA
 refine zf hC tab349 ?_; simp only [B349]; refine zs ?_
 refine ACallsK.eq (kp _ (R.mono (zh (HSub.refl h)))) ?_
 refine zs ?_
 exact (zh (HSub.refl h))
theorem gain350_spec (hC : Has C T350) {p : PlanP} {vp : AV} {b s : Int} {h : Heap} (v1 : vp.one = true) : ACalls C 350 [askA p vp b s] h (fun r h' => r = .int .i64 (gErr b s) ∧ h' = h) := by
 refine ACalls.gc0 (P := fun r h' => r = .int .i64 (gErr b s) ∧ HSub h h') ?_ (fun r h' hp => ⟨by rw [hp.1]; trivial, hp.2, hp.1, rfl⟩)
 have kp := fun H => qCheck_spec (zu hC T357) (h := H) (b := b) (s := s)
 unfold askA
 unfold gA at kp
 refine zf hC tab350 ?_; simp only [B350]; refine zs ?_
 refine ACallsK.eq (kp _) ?_
 refine zs ?_
 exact (zh (HSub.refl h))
theorem check339_spec (hC : Has C T339) {p : PlanP} {vp : AV} {b s : Int} {h : Heap} (R : RI h vp p.prns) (h64 : p.ok64) : ACalls C 339 [askA p vp b s] h (fun r h' => r = .int .i64 (askErr p b s) ∧ h' = h) := by
 refine ACalls.gc0 (P := fun r h' => r = .int .i64 (askErr p b s) ∧ HSub h h') ?_ (fun r h' hp => ⟨by rw [hp.1]; trivial, hp.2, hp.1, rfl⟩)
 have v1 := R.one
 have k1 := fun H (R1 : RI H vp p.prns) => plan349_spec (b := b) (s := s) (zu hC T349) (h := H) R1 h64
 have k2 := fun H => gain350_spec (p := p) (vp := vp) (b := b) (s := s) (zu hC T350) (h := H) v1
 have e0 : p.err = 0 → askErr p b s = gErr b s := fun e => by unfold askErr; rw [if_pos e]
 have e1 : p.err ≠ 0 → askErr p b s = p.err := fun e => by unfold askErr; rw [if_neg e]
 generalize askErr p b s = E at *
 generalize p.err = PE at *
 have xA : ∃ A, A = askA p vp b s := ⟨_, rfl⟩
 obtain ⟨A, hA⟩ := xA
 rw [← hA] at k1 k2 ⊢
 refine zf hC tab339 ?_; simp only [B339]; refine zs2 @hA @askA.eq_1 ?_
 refine wp_loopI (fun j t h' => HSub h h' ∧ ∃ k : Nat, t 10 = .agg [.func 349 [A] [], .func 350 [A] []] ∧ t 11 = .int .i64 (k : Nat) ∧ k ≤ 2 ∧ (0 < k → PE = 0) ∧ (1 < k → gErr b s = 0) ∧ j = 2 - k) (j0 := 2)
  ⟨(zh (HSub.refl h)), 0, by rw [hA]; rfl, rfl, by omega, by omega, by omega, rfl⟩ ?_
 rintro j t h' ⟨sH, k, e10, e11, hk, q1, q2, hj⟩
 rcases (show k = 0 ∨ k = 1 ∨ k = 2 by omega) with rfl | rfl | rfl
 ·refine zs3 @e10 @e11 @idxVal_agg ?_
  refine ACallsK.eq (k1 _ (R.mono sH)) ?_
  by_cases c : PE = 0
  ·refine zs3 @c @e10 @e11 ?_
   exact ⟨1, ⟨sH, 1, by omega, by omega, by omega, rfl⟩, by omega⟩
  ·refine zs3 @c @e10 @e11 ?_
   exact ⟨by rw [e1 c], sH⟩
 ·refine zs3 @e10 @e11 @idxVal_agg ?_
  refine ACallsK.eq (k2 _) ?_
  rcases gErr_cases b s with c | c
  ·refine zs3 @c @e10 @e11 ?_
   have q := q1 (by omega)
   exact ⟨0, ⟨sH, 2, by omega, by omega, by omega, rfl⟩, by omega⟩
  ·refine zs3 @c @e10 @e11 ?_
   exact ⟨by rw [e0 (q1 (by omega)), c], sH⟩
 ·refine zs2 @e10 @e11 ?_
  exact ⟨by rw [e0 (q1 (by omega)), q2 (by omega)], sH⟩
set_option maxHeartbeats 1000000 in
set_option maxRecDepth 20000 in
theorem right331_spec (hC : Has C T331) {p : PlanP} {vp : AV} {b s prn : Int} {h : Heap} (R : RI h vp p.prns) (h64 : p.ok64) :
  ACalls C 331 [plA p vp, gA b s, .int .i64 prn] h (fun r h' => HSub h h' ∧ ∃ sv, r = .tuple [askA p vp b s, sv, .int .i64 (detErr p b s prn)] ∧ (∃ a1 a2 a3, sv = .agg [a1, a2, a3] ∧ [a1, a2, a3].all AV.one = true) ∧ (detErr p b s prn = 0 → SumV h' sv p s)) := by
 have v1 := R.one
 have kc := fun H (R1 : RI H vp p.prns) => check339_spec (b := b) (s := s) (zu hC T339) (h := H) R1 h64
 have kn := fun (ok : PlanOk p) (hg : gErr b s = 0) H (R1 : RI H vp p.prns) => known340_spec (zu hC T340) (h := H) ok hg h64 R1
 have e0 : askErr p b s ≠ 0 → detErr p b s prn = askErr p b s := fun e => by unfold detErr; rw [if_neg e]
 have e1 : askErr p b s = 0 → detErr p b s prn = if prn ∈ p.prns then 0 else 18 := fun e => by unfold detErr; rw [if_pos e]
 have o0 : AV.nilmap.one = true := rfl
 generalize detErr p b s prn = E at *
 unfold askA at kc kn
 unfold plA gA askA
 by_cases c : askErr p b s = 0
 ·obtain ⟨ok, hg⟩ := askErr_ok c
  rw [c] at kc
  have e1 := e1 c
  clear e0
  obtain ⟨d, o, pb, w, mn, mx, nz, prns⟩ := p
  dsimp only at *
  refine zf hC tab331 ?_; simp only [B331]; refine zs2 @o0 @wpMap ?_
  refine ACallsK.eq (kc _ (R.mono (zh (HSub.refl h)))) ?_
  refine zs1 @wpMap ?_
  refine ACallsK.of (kn ok hg _ (R.mono (zh (HSub.refl h)))) ?_
  rintro r h2 ⟨V, sA⟩
  obtain ⟨j, rfl, gm⟩ := V
  have o1 : (AV.map j).one = true := rfl
  have z2 := sA.size
  simp only [Heap.size_push] at z2
  have jl := Heap.lt_of_get gm
  have g9 : h2.get (h.size + 4) = some (.cells [.int .i64 d, .int .i64 o, .int .i64 pb, .int .i64 w, .int .i64 mn, .int .i64 mx, .int .i64 nz, vp, .int .i64 b, .int .i64 s] true 0) := (sA.get _ (by simp only [Heap.size_push]; omega)).trans (by exact ze)
  have g6 : h2.get (h.size + 2) = some (.cells [.int .i64 0, .int .i64 0, .int .i64 0, .int .i64 0, .int .i64 0, .int .i64 0, .int .i64 0, .nilslice, .int .i64 0, .int .i64 0] true 0) := (sA.get _ (by simp only [Heap.size_push]; omega)).trans (by exact ze)
  have g7 : h2.get (h.size + 3) = some (.cells [.nilmap, .int .i64 0, .int .i64 0] true 0) := (sA.get _ (by simp only [Heap.size_push]; omega)).trans (by exact ze)
  have hs2 : HSub h h2 := (show HSub h _ from (zh (HSub.refl h))).trans sA
  clear sA kn
  by_cases ci : prn ∈ prns
  ·have lk := look_in2 (f := sumI d o) (z := .int .i64 0) (mem_grid.2 ⟨ci, ci⟩)
   simp only [keyP, ksP] at lk
   rw [if_pos ci] at e1
   subst e1
   have n6 : j ≠ h.size + 2 := by rintro rfl; rw [g6] at gm; cases gm
   have n7 : j ≠ h.size + 3 := by rintro rfl; rw [g7] at gm; cases gm
   refine zs6 @wpMap @gm @lk @g9 @g6 @g7 ?_
   exact ⟨(zh hs2), _, rfl, ⟨_, _, _, rfl, rfl⟩, fun _ => ⟨j, rfl, by rw [get_push_lt (by simp only [Heap.size_put]; omega), get_put_ne (by omega), get_put_ne (by omega)]; exact gm⟩⟩
  ·have lk := look_out2 (f := sumI d o) (x := prn) (y := prn) (K := grid prns prns) (z := .int .i64 0) (fun q => ci (mem_grid.1 q).1)
   simp only [keyP, ksP] at lk
   rw [if_neg ci] at e1
   subst e1
   refine zs6 @wpMap @gm @lk @g9 @g6 @g7 ?_
   exact ⟨(zh hs2), _, rfl, _, _, _, rfl, rfl⟩
 ·rw [e0 c]
  have e2 : askErr p b s = 0 → False := c
  generalize askErr p b s = AE at *
  obtain ⟨d, o, pb, w, mn, mx, nz, prns⟩ := p
  dsimp only at *
  refine zf hC tab331 ?_; simp only [B331]; refine zs2 @o0 @wpMap ?_
  refine ACallsK.eq (kc _ (R.mono (zh (HSub.refl h)))) ?_
  refine zs2 @c @wpMap ?_
  exact ⟨(zh (HSub.refl h)), _, rfl, _, _, _, rfl, rfl⟩
set_option maxRecDepth 20000 in
theorem Bound_spec (hC : Has C T315) {p : PlanP} {vp : AV} {b s prn : Int} {h : Heap} (R : RI h vp p.prns) (h64 : p.ok64) :
  ACalls C 315 [plA p vp, gA b s, .int .i64 prn] h (fun r h' => r = (if detErr p b s prn = 0 then tup2 (boundI p s prn) 0 else tup2 0 (detErr p b s prn)) ∧ HSub h h') := by
 have v1 := R.one
 have kr := fun H (R1 : RI H vp p.prns) => right331_spec (b := b) (s := s) (prn := prn) (zu hC T331) (h := H) R1 h64
 have kb := fun (ok : PlanOk p) (hs : 0 ≤ s ∧ s ≤ 30) H sv (R1 : RI H vp p.prns) (V : SumV H sv p s) (hin : prn ∈ p.prns) => bound334_spec (b := b) (zu hC T334) (h := H) ok hs R1 V hin
 have e0 : detErr p b s prn = 0 → askErr p b s = 0 ∧ prn ∈ p.prns := detErr_ok
 generalize detErr p b s prn = E at *
 unfold askA plA gA at *
 by_cases c : E = 0
 ·subst c
  obtain ⟨ea, hin⟩ := e0 rfl
  obtain ⟨ok, hg⟩ := askErr_ok ea
  have kb := fun H sv R1 V => kb ok (gErr_ok hg).2.2 H sv R1 V hin
  generalize boundI p s prn = B at *
  obtain ⟨d, o, pb, w, mn, mx, nz, prns⟩ := p
  dsimp only at *
  refine zf hC tab315 ?_; simp only [B315]; refine zs ?_
  refine ACallsK.of (kr _ (R.mono (zh (HSub.refl h)))) ?_
  rintro r h2 ⟨sA, sv, rfl, ⟨a1, a2, a3, rfl, o1⟩, V⟩
  have V := V rfl
  have hs2 : HSub h h2 := (show HSub h _ from (zh (HSub.refl h))).trans sA
  have z2 := sA.size
  simp only [Heap.size_push] at z2
  refine zs1 @wpMap ?_
  refine ACallsK.eq (kb _ _ (R.mono (zh hs2)) (V.mono (zh (HSub.refl h2)))) ?_
  refine zs ?_
  exact ⟨rfl, (zh hs2)⟩
 ·obtain ⟨d, o, pb, w, mn, mx, nz, prns⟩ := p
  dsimp only at *
  refine zf hC tab315 ?_; simp only [B315]; refine zs ?_
  refine ACallsK.of (kr _ (R.mono (zh (HSub.refl h)))) ?_
  rintro r h2 ⟨sA, sv, rfl, ⟨a1, a2, a3, rfl, o1⟩, V⟩
  have hs2 : HSub h h2 := (show HSub h _ from (zh (HSub.refl h))).trans sA
  refine zs2 @wpMap @c ?_
  exact ⟨by simp [tup2], (zh hs2)⟩
set_option maxRecDepth 20000 in
theorem Threshold_spec (hC : Has C T317) {p : PlanP} {vp : AV} {b s prn : Int} {h : Heap} (R : RI h vp p.prns) (h64 : p.ok64) :
  ACalls C 317 [plA p vp, gA b s, .int .i64 prn] h (fun r h' => r = (if detErr p b s prn = 0 then tup2 (thrI p s prn) 0 else tup2 0 (detErr p b s prn)) ∧ HSub h h') := by
 have v1 := R.one
 have kr := fun H (R1 : RI H vp p.prns) => right331_spec (b := b) (s := s) (prn := prn) (zu hC T331) (h := H) R1 h64
 have kb := fun (ok : PlanOk p) (hs : 0 ≤ s ∧ s ≤ 30) H sv (R1 : RI H vp p.prns) (V : SumV H sv p s) (hin : prn ∈ p.prns) => thr332_spec (b := b) (zu hC T332) (h := H) ok hs R1 V hin
 have e0 : detErr p b s prn = 0 → askErr p b s = 0 ∧ prn ∈ p.prns := detErr_ok
 generalize detErr p b s prn = E at *
 unfold askA plA gA at *
 by_cases c : E = 0
 ·subst c
  obtain ⟨ea, hin⟩ := e0 rfl
  obtain ⟨ok, hg⟩ := askErr_ok ea
  have kb := fun H sv R1 V => kb ok (gErr_ok hg).2.2 H sv R1 V hin
  generalize thrI p s prn = B at *
  obtain ⟨d, o, pb, w, mn, mx, nz, prns⟩ := p
  dsimp only at *
  refine zf hC tab317 ?_; simp only [B317]; refine zs ?_
  refine ACallsK.of (kr _ (R.mono (zh (HSub.refl h)))) ?_
  rintro r h2 ⟨sA, sv, rfl, ⟨a1, a2, a3, rfl, o1⟩, V⟩
  have V := V rfl
  have hs2 : HSub h h2 := (show HSub h _ from (zh (HSub.refl h))).trans sA
  have z2 := sA.size
  simp only [Heap.size_push] at z2
  refine zs1 @wpMap ?_
  refine ACallsK.eq (kb _ _ (R.mono (zh hs2)) (V.mono (zh (HSub.refl h2)))) ?_
  refine zs ?_
  exact ⟨rfl, (zh hs2)⟩
 ·obtain ⟨d, o, pb, w, mn, mx, nz, prns⟩ := p
  dsimp only at *
  refine zf hC tab317 ?_; simp only [B317]; refine zs ?_
  refine ACallsK.of (kr _ (R.mono (zh (HSub.refl h)))) ?_
  rintro r h2 ⟨sA, sv, rfl, ⟨a1, a2, a3, rfl, o1⟩, V⟩
  have hs2 : HSub h h2 := (show HSub h _ from (zh (HSub.refl h))).trans sA
  refine zs2 @wpMap @c ?_
  exact ⟨by simp [tup2], (zh hs2)⟩
set_option maxRecDepth 20000 in
theorem Floor_spec (hC : Has C T319) {p : PlanP} {vp : AV} {b s prn : Int} {h : Heap} (R : RI h vp p.prns) (h64 : p.ok64) :
  ACalls C 319 [plA p vp, gA b s, .int .i64 prn] h (fun r h' => r = (if detErr p b s prn = 0 then tup2 (floorI p s prn) 0 else tup2 0 (detErr p b s prn)) ∧ HSub h h') := by
 have v1 := R.one
 have kr := fun H (R1 : RI H vp p.prns) => right331_spec (b := b) (s := s) (prn := prn) (zu hC T331) (h := H) R1 h64
 have kb := fun (ok : PlanOk p) (hs : 0 ≤ s ∧ s ≤ 30) H sv (R1 : RI H vp p.prns) (V : SumV H sv p s) (hin : prn ∈ p.prns) => floor338_spec (b := b) (zu hC T338) (h := H) ok hs R1 V hin
 have e0 : detErr p b s prn = 0 → askErr p b s = 0 ∧ prn ∈ p.prns := detErr_ok
 generalize detErr p b s prn = E at *
 unfold askA plA gA at *
 by_cases c : E = 0
 ·subst c
  obtain ⟨ea, hin⟩ := e0 rfl
  obtain ⟨ok, hg⟩ := askErr_ok ea
  have kb := fun H sv R1 V => kb ok (gErr_ok hg).2.2 H sv R1 V hin
  generalize floorI p s prn = B at *
  obtain ⟨d, o, pb, w, mn, mx, nz, prns⟩ := p
  dsimp only at *
  refine zf hC tab319 ?_; simp only [B319]; refine zs ?_
  refine ACallsK.of (kr _ (R.mono (zh (HSub.refl h)))) ?_
  rintro r h2 ⟨sA, sv, rfl, ⟨a1, a2, a3, rfl, o1⟩, V⟩
  have V := V rfl
  have hs2 : HSub h h2 := (show HSub h _ from (zh (HSub.refl h))).trans sA
  have z2 := sA.size
  simp only [Heap.size_push] at z2
  refine zs1 @wpMap ?_
  refine ACallsK.eq (kb _ _ (R.mono (zh hs2)) (V.mono (zh (HSub.refl h2)))) ?_
  refine zs ?_
  exact ⟨rfl, (zh hs2)⟩
 ·obtain ⟨d, o, pb, w, mn, mx, nz, prns⟩ := p
  dsimp only at *
  refine zf hC tab319 ?_; simp only [B319]; refine zs ?_
  refine ACallsK.of (kr _ (R.mono (zh (HSub.refl h)))) ?_
  rintro r h2 ⟨sA, sv, rfl, ⟨a1, a2, a3, rfl, o1⟩, V⟩
  have hs2 : HSub h h2 := (show HSub h _ from (zh (HSub.refl h))).trans sA
  refine zs2 @wpMap @c ?_
  exact ⟨by simp [tup2], (zh hs2)⟩
end
end Go.Ae
/- Sure codes, claims and lists of thresholds: the program. -/
set_option linter.unusedSimpArgs false
set_option linter.unusedVariables false
namespace Go.Ae
def sureB (p : PlanP) (s prn : Int) : Bool := decide (thrI p s prn * 2 ^ s.toNat < floorI p s prn)
def sureE (p : PlanP) (b s prn : Int) : AV := if detErr p b s prn = 0 then .tuple [.bool (sureB p s prn), .int .i64 0] else .tuple [.bool false, .int .i64 (detErr p b s prn)]
theorem thr_mul {p : PlanP} {s : Int} (ok : PlanOk p) (h : 0 ≤ s ∧ s ≤ 30) (prn : Int) : 0 ≤ thrI p s prn * 2 ^ s.toNat ∧ thrI p s prn * 2 ^ s.toNat ≤ 6602356709823 ∧ boundI p s prn ≤ thrI p s prn * 2 ^ s.toNat := by
 have b := bound_range ok h prn
 have q := pow_30 h
 have t := thr_range ok h prn
 unfold thrI at *
 generalize (2 : Int) ^ s.toNat = P at *
 generalize boundI p s prn = B at *
 have e := Int.ediv_mul_le (B + P - 1) (show P ≠ 0 by omega)
 have l := Int.lt_ediv_add_one_mul_self (B + P - 1) (show 0 < P by omega)
 have m := Int.mul_nonneg t.1 (show 0 ≤ P by omega)
 rw [Int.add_mul] at l
 generalize (B + P - 1) / P * P = Y at *
 omega
def claimB (t pw m : Int) : Bool := decide (t * t * m < pw)
def claimE (p : PlanP) (b s prn pw m : Int) : AV :=
 if detErr p b s prn = 0 then if pw < 0 ∨ m < 1 ∨ 1000 < m then .tuple [.bool false, .int .i64 2] else .tuple [.bool (claimB (thrI p s prn) pw m), .int .i64 0] else .tuple [.bool false, .int .i64 (detErr p b s prn)]
theorem em_of {q : Int} (h : 0 ≤ q) (c : q / 18446744073709551616 = 0) : q % 18446744073709551616 = q := by omega
theorem em_mul {q m pw : Int} (h : 0 ≤ q * m) (hp : -9223372036854775808 ≤ pw ∧ pw ≤ 9223372036854775807) (e : q % 18446744073709551616 = q) :
  (q % 18446744073709551616 * m / 18446744073709551616 = 0 → q % 18446744073709551616 * m % 18446744073709551616 = q * m) ∧ (¬ q % 18446744073709551616 * m / 18446744073709551616 = 0 → ¬ q * m < pw) := by
 rw [e]
 generalize q * m = Y at *
 omega
theorem em_not {q m pw : Int} (h : 0 ≤ q) (h2 : q ≤ q * m) (hp : -9223372036854775808 ≤ pw ∧ pw ≤ 9223372036854775807) (c : ¬ q / 18446744073709551616 = 0) : ¬ q * m < pw := by
 generalize q * m = Y at *
 omega
section
variable {C : Ctx}
set_option maxRecDepth 20000 in
set_option maxHeartbeats 1000000 in
theorem Sure_spec (hC : Has C T321) {p : PlanP} {vp : AV} {b s prn : Int} {h : Heap} (R : RI h vp p.prns) (h64 : p.ok64) :
  ACalls C 321 [plA p vp, gA b s, .int .i64 prn] h (fun r h' => r = sureE p b s prn ∧ HSub h h') := by
 have v1 := R.one
 have kr := fun H (R1 : RI H vp p.prns) => right331_spec (b := b) (s := s) (prn := prn) (zu hC T331) (h := H) R1 h64
 have kb := fun (ok : PlanOk p) (hs : 0 ≤ s ∧ s ≤ 30) H sv (R1 : RI H vp p.prns) (V : SumV H sv p s) (hin : prn ∈ p.prns) => floor338_spec (b := b) (zu hC T338) (h := H) ok hs R1 V hin
 have kt := fun (ok : PlanOk p) (hs : 0 ≤ s ∧ s ≤ 30) H sv (R1 : RI H vp p.prns) (V : SumV H sv p s) (hin : prn ∈ p.prns) => thr332_spec (b := b) (zu hC T332) (h := H) ok hs R1 V hin
 have e0 : detErr p b s prn = 0 → askErr p b s = 0 ∧ prn ∈ p.prns := detErr_ok
 have tm := fun (ok : PlanOk p) (hs : 0 ≤ s ∧ s ≤ 30) => thr_mul ok hs prn
 unfold sureE sureB
 generalize detErr p b s prn = E at *
 unfold askA plA gA at *
 by_cases c : E = 0
 ·subst c
  obtain ⟨ea, hin⟩ := e0 rfl
  obtain ⟨ok, hg⟩ := askErr_ok ea
  have hs := (gErr_ok hg).2.2
  have kb := fun H sv R1 V => kb ok hs H sv R1 V hin
  have kt := fun H sv R1 V => kt ok hs H sv R1 V hin
  have tm := tm ok hs
  generalize floorI p s prn = F at *
  generalize thrI p s prn = Th at *
  generalize hP : (2 : Int) ^ s.toNat = P at *
  clear e0 ea
  obtain ⟨d, o, pb, w, mn, mx, nz, prns⟩ := p
  dsimp only at *
  refine zf hC tab321 ?_; simp only [B321]; refine zs ?_
  refine ACallsK.of (kr _ (R.mono (zh (HSub.refl h)))) ?_
  rintro r h2 ⟨sA, sv, rfl, ⟨a1, a2, a3, rfl, o1⟩, V⟩
  have V := V rfl
  have z2 := sA.size
  simp only [Heap.size_push] at z2
  have g4 : h2.get (h.size + 1) = some (.cells [.int .i64 b, .int .i64 s] true 0) := (sA.get _ (by simp only [Heap.size_push]; omega)).trans (by exact ze)
  have hs2 : HSub h h2 := (show HSub h _ from (zh (HSub.refl h))).trans sA
  refine zs2 @wpMap @g4 ?_
  refine ACallsK.eq (kb _ _ (R.mono (zh hs2)) (V.mono (zh (HSub.refl h2)))) ?_
  refine zs2 @wpMap @g4 ?_
  refine ACallsK.eq (kt _ _ (R.mono (zh hs2)) (V.mono (zh (HSub.refl h2)))) ?_
  refine zs1 @hP ?_
  exact ⟨rfl, (zh hs2)⟩
 ·obtain ⟨d, o, pb, w, mn, mx, nz, prns⟩ := p
  dsimp only at *
  refine zf hC tab321 ?_; simp only [B321]; refine zs ?_
  refine ACallsK.of (kr _ (R.mono (zh (HSub.refl h)))) ?_
  rintro r h2 ⟨sA, sv, rfl, ⟨a1, a2, a3, rfl, o1⟩, V⟩
  have hs2 : HSub h h2 := (show HSub h _ from (zh (HSub.refl h))).trans sA
  refine zs2 @wpMap @c ?_
  exact ⟨by simp, (zh hs2)⟩
set_option maxRecDepth 20000 in
set_option maxHeartbeats 1000000 in
theorem Claims_spec (hC : Has C T313) {p : PlanP} {vp : AV} {b s prn pw m : Int} {h : Heap} (R : RI h vp p.prns) (h64 : p.ok64) (hpw : In64 pw) (hm : In64 m) :
  ACalls C 313 [plA p vp, gA b s, .int .i64 prn, .int .i64 pw, .int .i64 m] h (fun r h' => r = claimE p b s prn pw m ∧ HSub h h') := by
 have v1 := R.one
 have kr := fun H (R1 : RI H vp p.prns) => right331_spec (b := b) (s := s) (prn := prn) (zu hC T331) (h := H) R1 h64
 have kt := fun (ok : PlanOk p) (hs : 0 ≤ s ∧ s ≤ 30) H sv (R1 : RI H vp p.prns) (V : SumV H sv p s) (hin : prn ∈ p.prns) => thr332_spec (b := b) (zu hC T332) (h := H) ok hs R1 V hin
 have e0 : detErr p b s prn = 0 → askErr p b s = 0 ∧ prn ∈ p.prns := detErr_ok
 have tr := fun (ok : PlanOk p) (hs : 0 ≤ s ∧ s ≤ 30) => thr_range ok hs prn
 unfold claimE claimB
 unfold In64 at hpw hm
 generalize detErr p b s prn = E at *
 unfold askA plA gA at *
 by_cases c : E = 0
 ·subst c
  obtain ⟨ea, hin⟩ := e0 rfl
  obtain ⟨ok, hg⟩ := askErr_ok ea
  have hs := (gErr_ok hg).2.2
  have kt := fun H sv R1 V => kt ok hs H sv R1 V hin
  have tr := tr ok hs
  generalize thrI p s prn = Th at *
  clear e0 ea
  have k1 := fun H => Mul64_full (zu hC T105) (a := Th) (b := Th) (h := H) (by omega) (by omega)
  have sq := Int.mul_nonneg tr.1 tr.1
  have lo : 0 ≤ Th * Th % 18446744073709551616 ∧ Th * Th % 18446744073709551616 < 18446744073709551616 := by omega
  have hi : 0 ≤ Th * Th / 18446744073709551616 ∧ Th * Th / 18446744073709551616 ≤ 18446744073709551615 := by
   have := Int.mul_le_mul tr.2 tr.2 tr.1 (by decide)
   generalize Th * Th = q at *
   omega
  have k2 := fun (hm1 : 1 ≤ m ∧ m ≤ 1000) H => Mul64_full (zu hC T105) (a := Th * Th % 18446744073709551616) (b := m) (h := H) lo (by omega)
  obtain ⟨d, o, pb, w, mn, mx, nz, prns⟩ := p
  dsimp only at *
  refine zf hC tab313 ?_; simp only [B313]; refine zs ?_
  refine ACallsK.of (kr _ (R.mono (zh (HSub.refl h)))) ?_
  rintro r h2 ⟨sA, sv, rfl, ⟨a1, a2, a3, rfl, o1⟩, V⟩
  have V := V rfl
  have z2 := sA.size
  simp only [Heap.size_push] at z2
  have g4 : h2.get (h.size + 1) = some (.cells [.int .i64 b, .int .i64 s] true 0) := (sA.get _ (by simp only [Heap.size_push]; omega)).trans (by exact ze)
  have hs2 : HSub h h2 := (show HSub h _ from (zh (HSub.refl h))).trans sA
  by_cases c1 : pw < 0
  ·refine zs3 @wpMap @c1 @gV_u ?_
   exact ⟨by simp, (zh hs2)⟩
  by_cases c2 : m < 1
  ·refine zs4 @wpMap @c1 @c2 @gV_u ?_
   exact ⟨by simp, (zh hs2)⟩
  by_cases c3 : 1000 < m
  ·refine zs5 @wpMap @c1 @c2 @c3 @gV_u ?_
   exact ⟨by simp, (zh hs2)⟩
  have k2 := k2 (by omega)
  have m1 := Int.mul_nonneg sq (show 0 ≤ m by omega)
  have m2 := Int.mul_le_mul (Int.le_refl (Th * Th)) (show 1 ≤ m by omega) (by decide) sq
  rw [Int.mul_one] at m2
  have lx := em_of sq
  have wr := fun e => em_mul (q := Th * Th) (m := m) (pw := pw) m1 hpw e
  have wn := em_not (pw := pw) sq m2 hpw
  refine zs5 @wpMap @c1 @c2 @c3 @gV_u ?_
  refine ACallsK.eq (kt _ _ (R.mono (zh hs2)) (V.mono (zh (HSub.refl h2)))) ?_
  refine zs ?_
  refine ACallsK.eq (k1 _) ?_
  by_cases c4 : Th * Th / 18446744073709551616 = 0
  ·refine zs1 @c4 ?_
   refine ACallsK.eq (k2 _) ?_
   have lx := lx c4
   by_cases c5 : Th * Th % 18446744073709551616 * m / 18446744073709551616 = 0
   ·have ly := (wr lx).1 c5
    refine zs3 @c5 @ly @gV_u ?_
    exact ⟨by simp [c1, c2, c3], (zh hs2)⟩
   ·have ny := (wr lx).2 c5
    refine zs2 @c5 @gV_u ?_
    exact ⟨by simp [c1, c2, c3, ny], (zh hs2)⟩
  ·have ny := wn c4
   refine zs1 @c4 ?_
   exact ⟨by simp [c1, c2, c3, ny], (zh hs2)⟩
 ·obtain ⟨d, o, pb, w, mn, mx, nz, prns⟩ := p
  dsimp only at *
  refine zf hC tab313 ?_; simp only [B313]; refine zs ?_
  refine ACallsK.of (kr _ (R.mono (zh (HSub.refl h)))) ?_
  rintro r h2 ⟨sA, sv, rfl, ⟨a1, a2, a3, rfl, o1⟩, V⟩
  have hs2 : HSub h h2 := (show HSub h _ from (zh (HSub.refl h))).trans sA
  refine zs2 @wpMap @c ?_
  exact ⟨by simp, (zh hs2)⟩
end
end Go.Ae
/- A window of a quantised scene without an aligned emitter is below the threshold. -/
set_option linter.unusedSimpArgs false
set_option linter.unusedVariables false
namespace Go.Ae
theorem sq_nn (x : Int) : 0 ≤ x * x := by
 rcases Int.lt_or_le x 0 with c | c
 ·have := Int.mul_nonneg (show 0 ≤ -x by omega) (show 0 ≤ -x by omega)
  rwa [Int.neg_mul_neg] at this
 ·exact Int.mul_nonneg c c
def sgK (r : Nat → Int) : Nat → Int
 | 0 => 0
 | k + 1 => sgK r k + r k
theorem sgK_congr {f g : Nat → Int} : ∀ {n : Nat}, (∀ j, j < n → f j = g j) → sgK f n = sgK g n
 | 0, _ => rfl
 | n + 1, h => by rw [sgK, sgK, sgK_congr (fun j hj => h j (by omega)), h n (by omega)]
theorem sgK_mul (c : Int) (g : Nat → Int) : ∀ n, sgK (fun k => c * g k) n = c * sgK g n
 | 0 => by simp [sgK]
 | n + 1 => by rw [sgK, sgK, sgK_mul c g n, Int.mul_add]
def nrm (x y r : Int) : Prop := 0 ≤ r ∧ x * x + y * y ≤ r * r
theorem nrm_add {x1 y1 x2 y2 r t : Int} (h1 : nrm x1 y1 r) (h2 : nrm x2 y2 t) : nrm (x1 + x2) (y1 + y2) (r + t) := by
 obtain ⟨hr, h1⟩ := h1
 obtain ⟨ht, h2⟩ := h2
 refine ⟨by omega, ?_⟩
 have c : x1 * x2 + y1 * y2 ≤ r * t := by
  rcases Int.lt_or_le (r * t) (x1 * x2 + y1 * y2) with q | q
  ·exfalso
   have rt := Int.mul_nonneg hr ht
   have a1 : (x1 * x1 + y1 * y1) * (x2 * x2 + y2 * y2) ≤ (r * r) * (t * t) := Int.mul_le_mul h1 h2 (by have := sq_nn x2; have := sq_nn y2; omega) (Int.mul_nonneg hr hr)
   have a2 : (x1 * x1 + y1 * y1) * (x2 * x2 + y2 * y2) = (x1 * x2 + y1 * y2) * (x1 * x2 + y1 * y2) + (x1 * y2 - y1 * x2) * (x1 * y2 - y1 * x2) := by grind
   have a3 := sq_nn (x1 * y2 - y1 * x2)
   have a4 : (r * r) * (t * t) = (r * t) * (r * t) := by grind
   generalize x1 * x2 + y1 * y2 = X at *
   generalize r * t = Y at *
   have a5 : (Y + 1) * (Y + 1) ≤ X * X := Int.mul_le_mul (by omega) (by omega) (by omega) (by omega)
   have a6 : (Y + 1) * (Y + 1) = Y * Y + 2 * Y + 1 := by grind
   omega
  ·exact q
 have e1 : (x1 + x2) * (x1 + x2) + (y1 + y2) * (y1 + y2) = (x1 * x1 + y1 * y1) + (x2 * x2 + y2 * y2) + 2 * (x1 * x2 + y1 * y2) := by grind
 have e2 : (r + t) * (r + t) = r * r + t * t + 2 * (r * t) := by grind
 omega
theorem nrm_mono {x y r t : Int} (h : nrm x y r) (hr : r ≤ t) : nrm x y t := ⟨by have := h.1; omega, Int.le_trans h.2 (sq_mono h.1 hr)⟩
theorem sumW_congr {A : List Int} {u v : Nat → Int × Int} : ∀ k, (∀ i, i < k → u i = v i) → sumW A u k = sumW A v k
 | 0, _ => rfl
 | k + 1, h => by rw [sumW, sumW, sumW_congr k (fun i hi => h i (by omega)), h k (by omega)]
theorem sumW_add (A : List Int) (u v : Nat → Int × Int) : ∀ k, sumW A (fun i => addP (u i) (v i)) k = addP (sumW A u k) (sumW A v k)
 | 0 => rfl
 | k + 1 => by
  rw [sumW, sumW, sumW, sumW_add A u v k]
  unfold addP
  refine Prod.ext ?_ ?_ <;> grind
theorem sumW_box {A : List Int} {u : Nat → Int × Int} {B : Int} (hA : one1 A) (hB : 0 ≤ B) : ∀ k : Nat, (∀ i, i < k → inS B (u i)) → inS (B * k) (sumW A u k)
 | 0, _ => by unfold inS sumW; simp
 | k + 1, h => by
  have ih := sumW_box hA hB k (fun i hi => h i (by omega))
  have a := hA.get k
  have b := h k (by omega)
  have m1 := mul_one (x := (u k).1) (c := A.getD k 0) (B := B) (by unfold inS at b; omega) a
  have m2 := mul_one (x := (u k).2) (c := A.getD k 0) (B := B) (by unfold inS at b; omega) a
  rw [Int.mul_comm] at m1 m2
  rw [sumW]
  unfold inS at *
  have e : B * ((k + 1 : Nat) : Int) = B * k + B := by rw [Int.natCast_add, Int.mul_add]; simp
  rw [e]
  dsimp only
  omega
def mixV (u : Nat → Int × Int) (p : PlanP) (es : List EmitP) (a : Int) : Nat → Nat → Int × Int
 | 0, i => u i
 | k + 1, i => addP (mixV u p es a k i) (atV p (es.getD k eD) (a + (i : Nat)))
theorem mix_window {u : Nat → Int × Int} {p : PlanP} {es : List EmitP} {a : Int} {A : List Int} {n : Nat} {r : Nat → Int} {t : Int} (h0 : nrm (sumW A u n).1 (sumW A u n).2 t)
  (hr : ∀ k, k < es.length → nrm (sumW A (fun i => atV p (es.getD k eD) (a + (i : Nat))) n).1 (sumW A (fun i => atV p (es.getD k eD) (a + (i : Nat))) n).2 (r k)) :
  ∀ k, k ≤ es.length → nrm (sumW A (mixV u p es a k) n).1 (sumW A (mixV u p es a k) n).2 (t + sgK r k)
 | 0, _ => by
  have e : sumW A (mixV u p es a 0) n = sumW A u n := sumW_congr n (fun i _ => rfl)
  rw [e, sgK, Int.add_zero]; exact h0
 | k + 1, hk => by
  have ih := mix_window h0 hr k (by omega)
  have e : sumW A (mixV u p es a (k + 1)) n = addP (sumW A (mixV u p es a k) n) (sumW A (fun i => atV p (es.getD k eD) (a + (i : Nat))) n) := by
   rw [← sumW_add]; exact sumW_congr n (fun i _ => rfl)
  rw [e]
  have q := nrm_add ih (hr k (by omega))
  rw [sgK, ← Int.add_assoc]
  exact q
theorem near_pl {p : PlanP} {e : EmitP} {a : Int} (ok : EmOk p e) (ha : 0 ≤ a ∧ a < 4 * p.size) (h : alB p e a = false) : p.o ≤ a - e.sta p (e.pl p a) ∧ p.o ≤ e.sta p (e.pl p a + 1) - a := by
 have sz := size_range ok.pn
 have dl := ok.en.1
 have rt := ok.en.2.1
 have l1 : e.sta p (e.pl p a) ≤ a := pl_le (dl := e.dl) (n := a) ok.den
 have l2 : a < e.sta p (e.pl p a + 1) := pl_lt (dl := e.dl) (n := a) ok.den
 have kd : e.pl p a = (1024 * (a - e.dl + 1) - 1) / (1024 * p.size + e.rt) := rfl
 have hD := ok.den
 have b1 : ∀ c : Int, c * (1024 * p.size + e.rt) ≤ 1024 * (a - e.dl + 1) - 1 → c ≤ e.pl p a := fun c hc => by rw [kd]; exact (Int.le_ediv_iff_mul_le hD).2 hc
 have b2 : ∀ c : Int, 1024 * (a - e.dl + 1) - 1 < c * (1024 * p.size + e.rt) → e.pl p a < c := fun c hc => by rw [kd]; exact (Int.ediv_lt_iff_lt_mul hD).2 hc
 have qn : (0 ≤ a - e.dl → Int.tdiv (a - e.dl) p.size = (a - e.dl) / p.size) := fun h => Int.tdiv_eq_ediv_of_nonneg h
 have qz : (a - e.dl < 0 → Int.tdiv (a - e.dl) p.size = 0) := fun h => by
  have t1 := Int.natAbs_tdiv (a - e.dl) p.size
  have t2 : (a - e.dl).natAbs.div p.size.natAbs = 0 := Nat.div_eq_of_lt (by omega)
  rw [t2] at t1
  omega
 have hit : ∀ K : Int, Int.tdiv (a - e.dl) p.size - 3 ≤ K → K ≤ Int.tdiv (a - e.dl) p.size + 3 → ¬ alI p e a K := fun K h1 h2 q => by
  unfold alB at h
  have := List.any_eq_false.1 h (K - (Int.tdiv (a - e.dl) p.size - 3)).toNat (List.mem_range.2 (by omega))
  have e1 : Int.tdiv (a - e.dl) p.size - 3 + ((K - (Int.tdiv (a - e.dl) p.size - 3)).toNat : Int) = K := by omega
  rw [e1] at this
  simp only [decide_eq_true_eq] at this
  exact this q
 have rng : Int.tdiv (a - e.dl) p.size - 3 ≤ e.pl p a ∧ e.pl p a + 1 ≤ Int.tdiv (a - e.dl) p.size + 3 := by
  rcases Int.lt_or_le (a - e.dl) 0 with c | c
  ·rw [qz c]
   have c1 := b1 (-2) (by omega)
   have c2 := b2 1 (by omega)
   omega
  ·rw [qn c]
   have d1 := Int.ediv_mul_le (a - e.dl) (show p.size ≠ 0 by omega)
   have d2 := Int.lt_ediv_add_one_mul_self (a - e.dl) (show 0 < p.size by omega)
   have d3 : (a - e.dl) / p.size < 4 := (Int.ediv_lt_iff_lt_mul (by omega)).2 (by omega)
   have d4 : 0 ≤ (a - e.dl) / p.size := Int.ediv_nonneg c (by omega)
   generalize (a - e.dl) / p.size = q at *
   rcases (show q = 0 ∨ q = 1 ∨ q = 2 ∨ q = 3 by omega) with rfl | rfl | rfl | rfl
   ·have c1 := b1 (-2) (by omega); have c2 := b2 2 (by omega); omega
   ·have c1 := b1 (-2) (by omega); have c2 := b2 3 (by omega); omega
   ·have c1 := b1 (-1) (by omega); have c2 := b2 4 (by omega); omega
   ·have c1 := b1 0 (by omega); have c2 := b2 5 (by omega); omega
 have h1 := hit _ rng.1 (by omega)
 have h2 := hit _ (by omega) rng.2
 have e1 : alI p e a (e.pl p a) ↔ (e.sta p (e.pl p a) - a < p.o ∧ a - e.sta p (e.pl p a) < p.o) := Iff.rfl
 have e2 : alI p e a (e.pl p a + 1) ↔ (e.sta p (e.pl p a + 1) - a < p.o ∧ a - e.sta p (e.pl p a + 1) < p.o) := Iff.rfl
 rw [e1] at h1
 rw [e2] at h2
 have po := ok.pn.2.1
 omega
theorem sumK_W {q : List (Int × Int)} {c : List Int} {a : Nat} {P : Int} : ∀ k : Nat, a + k ≤ q.length → (P * (sumK q c a k).1, P * (sumK q c a k).2) = sumW c (fun i => (P * (q.getD (a + i) (0, 0)).1, P * (q.getD (a + i) (0, 0)).2)) k
 | 0, _ => by simp [sumK, sumW]
 | k + 1, h => by
  have ih := sumK_W (q := q) (a := a) (P := P) (c := c) k (by omega)
  have e : atP q ((a : Int) + (k : Nat)) = q.getD (a + k) (0, 0) := by
   unfold atP
   rw [if_neg (by omega)]
   congr 1
  rw [sumK, sumW, ← ih, e]
  unfold addP mulP
  refine Prod.ext ?_ ?_ <;> grind
theorem mix_scn {p : PlanP} {es : List EmitP} {ns : List (Int × Int)} {a : Nat} {er : Nat → Int × Int} {i : Nat} : ∀ k, mixV (fun i => addP (ns.getD (a + i) (0, 0)) (er i)) p es a k i = addP (scnV p es ns k (a + i)) (er i)
 | 0 => rfl
 | k + 1 => by
  have e : ((a : Int) + (i : Nat)) = ((a + i : Nat) : Int) := by omega
  rw [mixV, mix_scn k, scnV, e]
  unfold addP
  refine Prod.ext ?_ ?_ <;> grind
theorem nrm_box {x y K H : Int} (hK : 0 ≤ K) (h : inS K (x, y)) (hH : 3 * K ≤ 2 * H) : nrm x y H := by
 unfold inS at h
 dsimp only at h
 refine ⟨by omega, ?_⟩
 have a1 : ∀ z : Int, -K ≤ z → z ≤ K → z * z ≤ K * K := fun z h1 h2 => by
  rcases Int.lt_or_le z 0 with c | c
  ·have := sq_mono (x := -z) (y := K) (by omega) (by omega)
   rwa [Int.neg_mul_neg] at this
  ·exact sq_mono c h2
 have b1 := a1 x h.1.1 h.1.2
 have b2 := a1 y h.2.1 h.2.2
 have c1 := sq_mono (x := 3 * K) (y := 2 * H) (by omega) hH
 have e1 : 3 * K * (3 * K) = 9 * (K * K) := by grind
 have e2 : 2 * H * (2 * H) = 4 * (H * H) := by grind
 have := sq_nn K
 omega
theorem det_window {p : PlanP} {s prn : Int} {es : List EmitP} {nn : List (Int × Int)} {a m : Nat} (ok : PlanOk p) (hs : 0 ≤ s ∧ s ≤ 30) (hin : prn ∈ p.prns) (eok : ∀ e ∈ es, EmOk p e) (nin : ∀ x ∈ nn, inS p.nz x)
  (hl : lostK 8 s (scnL p es nn es.length m) m = 0) (ha : (a : Int) + p.size ≤ m) (ha4 : (a : Int) < 4 * p.size) (al : ∀ e ∈ es, e.prn = prn → alB p e a = false)
  (hsum : sgK (fun k => 128 * p.mx * sumI p.d p.o prn (es.getD k eD).prn) es.length ≤ 128 * p.mx * (sumI p.d p.o prn prn + p.oth prn)) :
  (sumP (qntL 8 s (scnL p es nn es.length m)) (sampL p.d prn p.o.toNat) a).1 * (sumP (qntL 8 s (scnL p es nn es.length m)) (sampL p.d prn p.o.toNat) a).1 + (sumP (qntL 8 s (scnL p es nn es.length m)) (sampL p.d prn p.o.toNat) a).2 * (sumP (qntL 8 s (scnL p es nn es.length m)) (sampL p.d prn p.o.toNat) a).2 ≤ thrI p s prn * thrI p s prn := by
 have pn := ok.nums
 have nz := pn.2.2.2.2.2.2
 have sz := size_range pn
 have pw := pow_30 hs
 have A1 := sampL_one1 p.d prn p.o.toNat
 have Al : ((sampL p.d prn p.o.toNat).length : Int) = p.size := by rw [sampL_length, sz.2.2]
 have ql : (qntL 8 s (scnL p es nn es.length m)).length = m := by unfold qntL; rw [List.length_map, scnL_length]
 have SK := sumK_W (q := qntL 8 s (scnL p es nn es.length m)) (c := sampL p.d prn p.o.toNat) (a := a) (P := 2 ^ s.toNat) (sampL p.d prn p.o.toNat).length (by omega)
 have cr : 0 ≤ coarI s := by unfold coarI; omega
 have qat : ∀ i, i < (sampL p.d prn p.o.toNat).length → inS (coarI s) (2 ^ s.toNat * ((qntL 8 s (scnL p es nn es.length m)).getD (a + i) (0, 0)).1 - (scnV p es nn es.length (a + i)).1, 2 ^ s.toNat * ((qntL 8 s (scnL p es nn es.length m)).getD (a + i) (0, 0)).2 - (scnV p es nn es.length (a + i)).2) := by
  intro i hi
  have him : a + i < m := by omega
  have e1 : (scnL p es nn es.length m).getD (a + i) (0, 0) = scnV p es nn es.length (a + i) := by
   simp [scnL, List.getD_eq_getElem?_getD, him]
  have e2 : (qntL 8 s (scnL p es nn es.length m)).getD (a + i) (0, 0) = (lvlI 8 s (scnV p es nn es.length (a + i)).1, lvlI 8 s (scnV p es nn es.length (a + i)).2) := by
   simp [qntL, scnL, List.getD_eq_getElem?_getD, him]
  have lo := lostK_none hl (a + i) him
  rw [e1] at lo
  rw [e2]
  generalize scnV p es nn es.length (a + i) = z at *
  have r1 := rnd_near (x := z.1) hs
  have r2 := rnd_near (x := z.2) hs
  have g1 : lvlI 8 s z.1 = rndI z.1 s := by
   have := of_decide_eq_false lo.1
   unfold lvlI; rw [if_neg (by omega), if_neg (by omega)]
  have g2 : lvlI 8 s z.2 = rndI z.2 s := by
   have := of_decide_eq_false lo.2
   unfold lvlI; rw [if_neg (by omega), if_neg (by omega)]
  unfold inS
  dsimp only
  rw [g1, g2]
  omega
 have U0 := fun i (hi : i < (sampL p.d prn p.o.toNat).length) => inS_add (show inS p.nz (nn.getD (a + i) (0, 0)) by
  rcases Nat.lt_or_ge (a + i) nn.length with c | c
  ·exact nin _ (getP_mem c)
  ·rw [List.getD_eq_getElem?_getD, List.getElem?_eq_none c]; unfold inS; simp only [Option.getD_none]; omega) (qat i hi)
 have box := sumW_box A1 (show 0 ≤ p.nz + coarI s by omega) (sampL p.d prn p.o.toNat).length U0
 have h0 := nrm_box (H := humI p s) (Int.mul_nonneg (show 0 ≤ p.nz + coarI s by omega) (by omega)) box (by
  unfold humI
  rw [Al]
  have e : 3 * p.size * (p.nz + coarI s) = 3 * ((p.nz + coarI s) * p.size) := by grind
  rw [e]
  generalize (p.nz + coarI s) * p.size = K
  omega)
 have mw := mix_window (p := p) (es := es) (a := (a : Int)) (r := fun k => 128 * p.mx * sumI p.d p.o prn (es.getD k eD).prn) h0 (fun k hk => by
  have hm : es.getD k eD ∈ es := by rw [List.getD_eq_getElem?_getD, List.getElem?_eq_getElem hk]; exact List.getElem_mem _
  have oke := eok _ hm
  have ale := al _ hm
  generalize es.getD k eD = e at *
  have w := sig_window oke (A := sampL p.d prn p.o.toNat) Al (a : Int) (if prn = e.prn then p.o.toNat else 0) (by
   by_cases c : prn = e.prn
   ·rw [if_pos c]
    have nr := near_pl oke (by omega) (ale c.symm)
    have po := pn.2.1
    right; omega
   ·rw [if_neg c]; exact .inl rfl)
  have sr := (sumI_range pn prn e.prn).1
  have am : e.amp ≤ p.mx := oke.en.2.2.1.2
  have a0 : 0 ≤ e.amp := by
   have := oke.en.2.2.1
   have := pn.2.2.2.2.1
   omega
  have es : sumI p.d p.o prn e.prn = greatI (sampL p.d prn p.o.toNat) (sampL p.d e.prn p.o.toNat) (if prn = e.prn then p.o.toNat else 0) := rfl
  rw [← es] at w
  have aS := Int.mul_nonneg a0 sr
  have le : 128 * (e.amp * sumI p.d p.o prn e.prn) ≤ 128 * p.mx * sumI p.d p.o prn e.prn := by
   have := Int.mul_le_mul_of_nonneg_right am sr
   rw [Int.mul_assoc]; omega
  refine nrm_mono (r := 128 * (e.amp * sumI p.d p.o prn e.prn)) ⟨by omega, ?_⟩ le
  have e3 : 128 * (e.amp * sumI p.d p.o prn e.prn) * (128 * (e.amp * sumI p.d p.o prn e.prn)) = 16384 * (e.amp * sumI p.d p.o prn e.prn * (e.amp * sumI p.d p.o prn e.prn)) := by grind
  rw [e3]
  exact w) es.length (Nat.le_refl _)
 have e5 : sumW (sampL p.d prn p.o.toNat) (mixV (fun i => addP (nn.getD (a + i) (0, 0)) (2 ^ s.toNat * ((qntL 8 s (scnL p es nn es.length m)).getD (a + i) (0, 0)).1 - (scnV p es nn es.length (a + i)).1, 2 ^ s.toNat * ((qntL 8 s (scnL p es nn es.length m)).getD (a + i) (0, 0)).2 - (scnV p es nn es.length (a + i)).2)) p es a es.length) (sampL p.d prn p.o.toNat).length =
   (2 ^ s.toNat * (sumP (qntL 8 s (scnL p es nn es.length m)) (sampL p.d prn p.o.toNat) a).1, 2 ^ s.toNat * (sumP (qntL 8 s (scnL p es nn es.length m)) (sampL p.d prn p.o.toNat) a).2) := by
  unfold sumP
  rw [SK]
  refine sumW_congr _ fun i hi => ?_
  rw [mix_scn]
  unfold addP
  refine Prod.ext ?_ ?_ <;> (dsimp only; omega)
 rw [e5] at mw
 generalize sumP (qntL 8 s (scnL p es nn es.length m)) (sampL p.d prn p.o.toNat) a = X at *
 have tm := thr_mul ok hs prn
 have fin := nrm_mono mw (t := thrI p s prn * 2 ^ s.toNat) (by unfold boundI at tm; omega)
 have f2 := fin.2
 dsimp only at f2
 generalize (2 : Int) ^ s.toNat = P at *
 generalize thrI p s prn = t at *
 have e6 : P * X.1 * (P * X.1) + P * X.2 * (P * X.2) = P * P * (X.1 * X.1 + X.2 * X.2) := by grind
 have e7 : t * P * (t * P) = P * P * (t * t) := by grind
 rw [e6, e7] at f2
 exact Int.le_of_mul_le_mul_left f2 (Int.mul_pos (by omega) (by omega))
theorem esK_sum {p : PlanP} {l : List Int} {prn : Int} (ok : PlanOk p) (hin : prn ∈ p.prns) : ∀ k, k ≤ p.prns.length → sgK (fun i => sumI p.d p.o prn ((esK p l k).getD i eD).prn) (esK p l k).length ≤ othK (sumI p.d p.o) prn p.prns k + (if prn ∈ p.prns.take k then sumI p.d p.o prn prn else 0)
 | 0, _ => by simp [esK, sgK, othK]
 | k + 1, hk => by
  have ih := esK_sum (l := l) ok hin k (by omega)
  have r0 := sumI_range ok.nums prn (p.prns.getD k 0)
  have r1 := sumI_range ok.nums prn prn
  have tk := take_one (l := p.prns) (k := k) hk
  have step : othK (sumI p.d p.o) prn p.prns k + (if prn ∈ p.prns.take k then sumI p.d p.o prn prn else 0) + sumI p.d p.o prn (p.prns.getD k 0) ≤ othK (sumI p.d p.o) prn p.prns (k + 1) + (if prn ∈ p.prns.take (k + 1) then sumI p.d p.o prn prn else 0) := by
   rw [othK, tk]
   have nt := get_not_take ok.nodup (i := k) hk
   by_cases c : p.prns.getD k 0 = prn
   ·rw [c] at nt
    rw [if_pos c, if_neg nt, if_pos (by rw [c]; simp), c]; omega
   ·rw [if_neg c]
    by_cases c2 : prn ∈ p.prns.take k
    ·rw [if_pos c2, if_pos (List.mem_append_left _ c2)]; omega
    ·rw [if_neg c2, if_neg (by simp only [List.mem_append, List.mem_singleton, not_or]; exact ⟨c2, fun q => c q.symm⟩)]; omega
  by_cases c : someOf l k 3 = 0
  ·have e : esK p l (k + 1) = esK p l k := if_pos c
   rw [e]; omega
  ·have e : esK p l (k + 1) = esK p l k ++ [emitAt p k (cutE l k)] := if_neg c
   have e1 : sgK (fun i => sumI p.d p.o prn ((esK p l (k + 1)).getD i eD).prn) (esK p l (k + 1)).length = sgK (fun i => sumI p.d p.o prn ((esK p l k).getD i eD).prn) (esK p l k).length + sumI p.d p.o prn (p.prns.getD k 0) := by
    rw [e, List.length_append, List.length_singleton, sgK]
    congr 1
    ·refine sgK_congr fun i hi => ?_
     rw [List.getD_eq_getElem?_getD, List.getElem?_append_left hi, ← List.getD_eq_getElem?_getD]
    ·rw [List.getD_eq_getElem?_getD, List.getElem?_append_right (Nat.le_refl _)]
     simp [emitAt]
   rw [e1]; omega
end Go.Ae
/- Bounds, thresholds, floors and claims: the reference. -/
set_option linter.unusedSimpArgs false
set_option linter.unusedVariables false
namespace Go.Ae
theorem PlanOk.cross {p : PlanP} (ok : PlanOk p) {a b : Int} (ha : a ∈ p.prns) (hb : b ∈ p.prns) (hne : ¬ b = a) : crossE p.d p.o a b = tup2 (sumI p.d p.o a b) 0 := by
 unfold crossE sumI
 rw [if_pos (ok.samp (by simp [ha, hb])), if_neg (fun e => hne e.symm)]
theorem PlanOk.side {p : PlanP} (ok : PlanOk p) {a : Int} (ha : a ∈ p.prns) : sideE p.d p.o a = tup2 (sumI p.d p.o a a) 0 := by
 unfold sideE sumI
 rw [if_pos (ok.samp (by simp [ha])), if_pos rfl]
section
variable {C : Ctx}
end
end Go.Ae
/- The statements on claims, bounds and examples, of layer 15. -/
set_option linter.unusedSimpArgs false
set_option linter.unusedVariables false
namespace Go.Ae
def P0 : PlanP := ⟨5, 2, 1, 2, 10, 10, 0, [1]⟩
theorem P0_err : P0.err = 0 := by decide +kernel
theorem P0_ok : PlanOk P0 := planOk_of P0_err
theorem P0_64 : P0.ok64 := by
 refine ⟨?_, ?_, ?_, ?_, ?_, ?_, ?_, ?_⟩
 all_goals first
  | (show In64 _; unfold In64; decide)
  | (intro x hx; have : x = 1 := by simpa [P0] using hx
     subst this; unfold In64; decide)
theorem P0_det : detErr P0 8 5 1 = 0 ∧ detErr P0 8 5 2 = 18 ∧ detErr ⟨5, 2, 1, 2, 10, 10, 0, []⟩ 8 5 1 = 3 := by decide +kernel
theorem P0_size : P0.size = 62 := by decide +kernel
theorem P0_oth : P0.oth 1 = 0 := by
 unfold PlanP.oth
 show othK _ 1 [1] 1 = 0
 rfl
theorem P0_floor : floorI P0 5 1 = 74112 := by
 unfold floorI humI
 rw [P0_oth, P0_size]
 decide
theorem P0_bound : boundI P0 5 1 = 1280 * sumI 5 2 1 1 + 1488 := by
 unfold boundI humI
 rw [P0_oth, P0_size, Int.add_zero]
 show 128 * 10 * sumI 5 2 1 1 + (3 * 62 * (0 + coarI 5) + 1) / 2 = _
 have : coarI 5 = 16 := by decide
 rw [this]
 omega
section
variable {C : Ctx}
theorem plan325_spec (hC : Has C T325) {h : Heap} : ACalls C 325 [] h (fun r h' => HSub h h' ∧ ∃ vp, r = plA P0 vp ∧ RI h' vp P0.prns) := by
 refine zf hC tab325 ?_; simp only [B325]; refine zs ?_
 refine ⟨(zh (HSub.refl h)), _, rfl, RI.known (wr := true) (u := 0) (l := [1]) (by refine zs ?_; rfl) ⟨rfl, by decide⟩ (by decide)⟩
theorem gain326_spec (hC : Has C T326) {h : Heap} : ACalls C 326 [] h (fun r h' => r = gA 8 5 ∧ h' = h) := by
 refine ACalls.gc0 (P := fun r h' => r = gA 8 5 ∧ HSub h h') ?_ (fun r h' hp => ⟨by rw [hp.1]; exact ⟨trivial, trivial, trivial⟩, hp.2, hp.1, rfl⟩)
 refine zf hC tab326 ?_; simp only [B326]; refine zs ?_
 exact ⟨rfl, (zh (HSub.refl h))⟩
theorem awake312_spec (hC : Has C T312) {h : Heap} : ACalls C 312 [] h (fun r h' => r = .bool true ∧ h' = h) := by
 refine ACalls.gc0 (P := fun r h' => r = .bool true ∧ HSub h h') ?_ (fun r h' hp => ⟨by rw [hp.1]; trivial, hp.2, hp.1, rfl⟩)
 have kp := fun H => plan325_spec (zu hC T325) (h := H)
 have kg := fun H => gain326_spec (zu hC T326) (h := H)
 have kf := fun H vp (R : RI H vp P0.prns) => Floor_spec (zu hC T319) (h := H) (b := 8) (s := 5) (prn := 1) R P0_64
 have kb := fun H vp (R : RI H vp P0.prns) => Bound_spec (zu hC T315) (h := H) (b := 8) (s := 5) (prn := 1) R P0_64
 have ks := fun H => SideR_spec (zu hC T176) (h := H) (d := 5) (o := 2) (p := 1) (by unfold In64; decide) (by unfold In64; decide) (by unfold In64; decide)
 rw [P0_det.1, if_pos rfl, P0_floor] at kf
 rw [P0_det.1, if_pos rfl, P0_bound] at kb
 have sd : sideE 5 2 1 = tup2 (sumI 5 2 1 1) 0 := P0_ok.side (a := 1) (by decide)
 rw [sd] at ks
 have sr : 0 ≤ sumI 5 2 1 1 ∧ sumI 5 2 1 1 ≤ 8184 := sumI_range P0_ok.nums 1 1
 generalize sumI 5 2 1 1 = S at *
 refine zf hC tab312 ?_; simp only [B312]; refine zs ?_
 refine ACallsK.of (kp _) ?_
 rintro r h1 ⟨s1, vp, rfl, R⟩
 refine zs ?_
 refine ACallsK.eq (kg _) ?_
 refine zs ?_
 refine ACallsK.of (kf _ _ R) ?_
 rintro r h2 ⟨rfl, s2⟩
 clear R
 refine zs1 @tup2.eq_1 ?_
 refine ACallsK.of (kp _) ?_
 rintro r h3 ⟨s3, vp, rfl, R⟩
 refine zs ?_
 refine ACallsK.eq (kg _) ?_
 refine zs ?_
 refine ACallsK.of (kb _ _ R) ?_
 rintro r h4 ⟨rfl, s4⟩
 refine zs1 @tup2.eq_1 ?_
 refine ACallsK.of (ks _) ?_
 rintro r h5 ⟨rfl, s5⟩
 refine zs2 @tup2.eq_1 @gV_u ?_
 exact (((s1.trans s2).trans s3).trans s4).trans s5
theorem claims327_spec (hC : Has C T327) {pw m : Int} {want : Bool} {h : Heap} (hpw : In64 pw) (hm : 1 ≤ m ∧ m ≤ 1000) (h0 : 0 ≤ pw) (hw : claimB (thrI P0 5 1) pw m = want) :
  ACalls C 327 [.int .i64 pw, .int .i64 m, .bool want] h (fun r h' => r = .bool true ∧ h' = h) := by
 refine ACalls.gc0 (P := fun r h' => r = .bool true ∧ HSub h h') ?_ (fun r h' hp => ⟨by rw [hp.1]; trivial, hp.2, hp.1, rfl⟩)
 have kp := fun H => plan325_spec (zu hC T325) (h := H)
 have kg := fun H => gain326_spec (zu hC T326) (h := H)
 have kc := fun H vp (R : RI H vp P0.prns) => Claims_spec (zu hC T313) (h := H) (b := 8) (s := 5) (prn := 1) (pw := pw) (m := m) R P0_64 hpw (by unfold In64; omega)
 unfold claimE at kc
 rw [P0_det.1, if_pos rfl, if_neg (by omega), hw] at kc
 refine zf hC tab327 ?_; simp only [B327]; refine zs ?_
 refine ACallsK.of (kp _) ?_
 rintro r h1 ⟨s1, vp, rfl, R⟩
 refine zs ?_
 refine ACallsK.eq (kg _) ?_
 refine zs ?_
 refine ACallsK.of (kc _ _ R) ?_
 rintro r h2 ⟨rfl, s2⟩
 have ew : (want == want) = true := by simp
 refine zs2 @gV_u @ew ?_
 exact s1.trans s2
theorem P0_thr : 0 < thrI P0 5 1 ∧ thrI P0 5 1 ≤ 330000 ∧ boundI P0 5 1 ≤ 32 * thrI P0 5 1 ∧ 32 * (thrI P0 5 1 - 1) < boundI P0 5 1 := by
 have b := P0_bound
 have sr : 0 ≤ sumI 5 2 1 1 ∧ sumI 5 2 1 1 ≤ 8184 := sumI_range P0_ok.nums 1 1
 have e : (2 : Int) ^ (5 : Int).toNat = 32 := by decide
 unfold thrI
 rw [e]
 generalize boundI P0 5 1 = B at *
 omega
theorem P0_sure : sureB P0 5 1 = decide (32 * thrI P0 5 1 < 74112) := by
 have e : (2 : Int) ^ (5 : Int).toNat = 32 := by decide
 unfold sureB
 rw [e, P0_floor, Int.mul_comm]
theorem claimB_of {t pw m : Int} (h : t * t * m < pw) : claimB t pw m = true := decide_eq_true h
theorem claimB_not {t pw m : Int} (h : pw ≤ t * t * m) : claimB t pw m = false := decide_eq_false (by omega)
set_option maxRecDepth 20000 in
set_option maxHeartbeats 2000000 in
theorem known307_spec (hC : Has C T307) {h : Heap} : ACalls C 307 [] h (fun r h' => r = .bool true ∧ h' = h) := by
 refine ACalls.gc0 (P := fun r h' => r = .bool true ∧ HSub h h') ?_ (fun r h' hp => ⟨by rw [hp.1]; trivial, hp.2, hp.1, rfl⟩)
 have kp := fun H => plan325_spec (zu hC T325) (h := H)
 have kg := fun H => gain326_spec (zu hC T326) (h := H)
 have kw := fun H => awake312_spec (zu hC T312) (h := H)
 have kb := fun H vp (R : RI H vp P0.prns) => Bound_spec (zu hC T315) (h := H) (b := 8) (s := 5) (prn := 1) R P0_64
 have kb2 := fun H vp (R : RI H vp P0.prns) => Bound_spec (zu hC T315) (h := H) (b := 8) (s := 5) (prn := 2) R P0_64
 have kb3 := fun H => Bound_spec (zu hC T315) (h := H) (vp := .nilslice) (p := ⟨5, 2, 1, 2, 10, 10, 0, []⟩) (b := 8) (s := 5) (prn := 1) RI.nil ⟨P0_64.1, P0_64.2.1, P0_64.2.2.1, P0_64.2.2.2.1, P0_64.2.2.2.2.1, P0_64.2.2.2.2.2.1, P0_64.2.2.2.2.2.2.1, by simp⟩
 have kt := fun H vp (R : RI H vp P0.prns) => Threshold_spec (zu hC T317) (h := H) (b := 8) (s := 5) (prn := 1) R P0_64
 have ku := fun H vp (R : RI H vp P0.prns) => Sure_spec (zu hC T321) (h := H) (b := 8) (s := 5) (prn := 1) R P0_64
 have kc := fun H vp (R : RI H vp P0.prns) => Claims_spec (zu hC T313) (h := H) (b := 8) (s := 5) (prn := 1) (pw := 0) (m := 0) R P0_64 (by unfold In64; decide) (by unfold In64; decide)
 have kx := fun pw m want H a b c d => claims327_spec (zu hC T327) (h := H) (pw := pw) (m := m) (want := want) a b c d
 unfold claimE at kc
 unfold sureE at ku
 rw [P0_det.1, if_pos rfl] at kb kt ku kc
 rw [P0_det.2.1, if_neg (by decide)] at kb2
 rw [P0_det.2.2, if_neg (by decide)] at kb3
 rw [if_pos (by decide)] at kc
 rw [P0_sure] at ku
 have ft := P0_thr
 generalize thrI P0 5 1 = T at *
 generalize boundI P0 5 1 = B at *
 have tt := Int.mul_le_mul ft.2.1 ft.2.1 (show 0 ≤ T by omega) (by decide)
 have tt0 := Int.mul_nonneg (show 0 ≤ T by omega) (show 0 ≤ T by omega)
 have t3 : 3 * T * T = T * T * 3 := by grind
 have t3b : 0 ≤ 3 * T * T ∧ 3 * T * T ≤ 326700000000 := by rw [t3]; generalize T * T = q at *; omega
 have x1 := fun H => kx (T * T) 1 false H (by unfold In64; omega) (by decide) (by omega) (claimB_not (by omega))
 have x2 := fun H => kx (T * T + 1) 1 true H (by unfold In64; omega) (by decide) (by omega) (claimB_of (by omega))
 have x3 := fun H => kx (3 * T * T + 1) 3 true H (by unfold In64; omega) (by decide) (by omega) (claimB_of (by omega))
 clear kx
 refine zf hC tab307 ?_; simp only [B307]; refine zs ?_
 refine ACallsK.of (kp _) ?_
 rintro r h1 ⟨s1, vp, rfl, R⟩
 refine zs ?_
 refine ACallsK.eq (kg _) ?_
 refine zs ?_
 refine ACallsK.of (kb _ _ R) ?_
 rintro r h2 ⟨rfl, s2⟩
 clear R
 refine zs1 @tup2.eq_1 ?_
 refine ACallsK.of (kp _) ?_
 rintro r h3 ⟨s3, vp, rfl, R⟩
 refine zs ?_
 refine ACallsK.eq (kg _) ?_
 refine zs ?_
 refine ACallsK.of (kt _ _ R) ?_
 rintro r h4 ⟨rfl, s4⟩
 clear R
 refine zs1 @tup2.eq_1 ?_
 refine ACallsK.of (kp _) ?_
 rintro r h5 ⟨s5, vp, rfl, R⟩
 refine zs ?_
 refine ACallsK.eq (kg _) ?_
 refine zs ?_
 refine ACallsK.of (ku _ _ R) ?_
 rintro r h6 ⟨rfl, s6⟩
 clear R
 have ew : (decide (32 * T < 74112) == decide (32 * T < 74112)) = true := by simp
 have f1 : B ≤ 32 * T := ft.2.2.1
 have f2 : 32 * (T - 1) < B := ft.2.2.2
 refine zs4 @gV_u @ew @f1 @f2 ?_
 refine ACallsK.of (kp _) ?_
 rintro r h7 ⟨s7, vp, rfl, R⟩
 refine zs ?_
 refine ACallsK.eq (kg _) ?_
 refine zs ?_
 refine ACallsK.of (kc _ _ R) ?_
 rintro r h8 ⟨rfl, s8⟩
 clear R
 refine zs ?_
 refine ACallsK.of (kp _) ?_
 rintro r h9 ⟨s9, vp, rfl, R⟩
 refine zs ?_
 refine ACallsK.eq (kg _) ?_
 refine zs ?_
 refine ACallsK.of (kb2 _ _ R) ?_
 rintro r h10 ⟨rfl, s10⟩
 clear R
 refine zs1 @tup2.eq_1 ?_
 refine ACallsK.of (kp _) ?_
 rintro r h11 ⟨s11, vp, rfl, R⟩
 have v1 := R.one
 clear R
 unfold plA P0
 refine zs ?_
 refine ACallsK.eq (kg _) ?_
 unfold plA at kb3
 refine zs ?_
 refine ACallsK.of (kb3 _) ?_
 rintro r h12 ⟨rfl, s12⟩
 refine zs1 @tup2.eq_1 ?_
 refine ACallsK.eq (kw _) ?_
 refine zs1 @gV_u ?_
 refine ACallsK.eq (x1 _) ?_
 refine zs1 @gV_u ?_
 refine ACallsK.eq (x2 _) ?_
 refine zs1 @gV_u ?_
 refine ACallsK.eq (x3 _) ?_
 refine zs1 @gV_u ?_
 exact (show HSub h _ from (zh (((((((((((s1.trans s2).trans s3).trans s4).trans s5).trans s6).trans s7).trans s8).trans s9).trans s10).trans s11)))).trans s12
end
end Go.Ae
/- Sums of levels with codes, of the program and of the reference. -/
set_option linter.unusedSimpArgs false
set_option linter.unusedVariables false
namespace Go.Ae
section
variable {C : Ctx}
set_option maxHeartbeats 2000000 in
set_option maxRecDepth 20000 in
theorem sum295_spec (hC : Has C T295) {v w : AV} {s : List (Int × Int)} {c : List Int} {a : Int} {h : Heap} (hs : SI h v s) (hc : RI h w c) (hi : ∀ x ∈ s, inS 127 x) (ho : one1 c) (hcl : c.length ≤ 100000) (hsl : s.length ≤ 1048576) (ha : -100000000 ≤ a ∧ a ≤ 100000000) :
  ACalls C 295 [v, w, .int .i64 a] h (fun r h' => r = smp (sumP s c a) ∧ h' = h) := by
 refine ACalls.gc0 (P := fun r h' => r = smp (sumP s c a) ∧ HSub h h') ?_ (fun r h' hp => ⟨by rw [hp.1]; exact smp_free _, hp.2, hp.1, rfl⟩)
 have hlt := hs.lt
 obtain ⟨lo, hlo⟩ : ∃ lo : Nat, max 0 (0 - a) = (lo : Nat) := ⟨(max 0 (0 - a)).toNat, by omega⟩
 have l0 : sumK s c a lo = (0, 0) := sumK_low lo (fun j hj => by omega)
 refine zf hC tab295 ?_; simp only [B295]; refine zs1 @hlo ?_
 refine wp_loopI (fun j t h' => HSub h h' ∧ h.size + 1 < h'.size ∧ h'.get h.size = some (.cells [.int .i64 0, .int .i64 0] true 0) ∧ ∃ k : Nat, h'.get (h.size + 1) = some (.cells [.int .i64 (sumK s c a k).1, .int .i64 (sumK s c a k).2] true 0) ∧ t 0 = v ∧ t 1 = w ∧ t 2 = .int .i64 a ∧ t 6 = .ptr h.size 0 ∧ t 7 = .ptr (h.size + 1) 0 ∧ t 8 = .int .i64 (k : Nat) ∧ lo ≤ k ∧ (k ≤ c.length ∨ k = lo) ∧ j = c.length - k) (j0 := c.length - lo)
  ⟨(HSub.push1 _ _).push _, by simp, by exact ze, lo, by rw [l0]; exact ze, rfl, rfl, rfl, rfl, rfl, rfl, by omega, .inr rfl, rfl⟩ ?_
 rintro j t h1 ⟨s1, hz, gz, k, gb, e0, e1, e2, e6, e7, e8, hlk, hk, hj⟩
 have hc1 := hc.mono s1
 have hs1 := hs.mono s1
 by_cases c3 : k < c.length ∧ a + (k : Int) < s.length
 ·have hk' : k < c.length := c3.1
  have ld := hc1.load hk'
  have ea : atP s (a + (k : Nat)) = s.getD (a + (k : Nat)).toNat (0, 0) := atP_in (by omega) (by omega)
  have hb := sumK_le (a := a) hi ho k
  have hm := mulP_le (atP_le hi (a + (k : Nat))) (ho.get k)
  have es : sumK s c a (k + 1) = addP (sumK s c a k) (mulP (atP s (a + (k : Nat))) (c.getD k 0)) := rfl
  have ak : a + (k : Int) = (((a + (k : Nat)).toNat : Nat) : Int) := by omega
  have kl : (a + (k : Nat)).toNat < s.length := by omega
  generalize (a + (k : Nat)).toNat = m at *
  have ix := hs1.idx (kk := .i64) (k := (m : Int)) ⟨by omega, by omega⟩
  rw [Int.toNat_natCast] at ix
  have ld0 := hs1.load0 kl
  have ld1 := hs1.load1 kl
  have ld2 := fun b => (hs.mono (s1.put (i := h.size + 1) (by omega) b)).load0 kl
  have ld3 := fun b => (hs.mono (s1.put (i := h.size + 1) (by omega) b)).load1 kl
  have ld4 := fun b => (hc.mono (s1.put (i := h.size + 1) (by omega) b)).load hk'
  have fl := fun o => hs1.fld m o kl
  rw [ea] at es hm
  generalize sumK s c a k = q at *
  generalize s.getD m (0, 0) = x at *
  generalize c.getD k 0 = y at *
  obtain ⟨qx, qy⟩ := q
  obtain ⟨xx, xy⟩ := x
  unfold inS at hb hm
  unfold mulP at hm
  dsimp only at hb hm gb ld0 ld1 ld2 ld3
  simp -implicitDefEqProofs (disch := first | exact zd | fail) only [↓wpPre, wpPost, wpPoly, Int.reduceToNat, Int.reducePow, Int.reduceMul, Int.reduceAdd, Int.reduceSub, Int.reduceNeg, Nat.reduceAdd, Nat.reduceMul, Nat.reducePow, Int.reduceLT, Int.reduceLE, Int.reduceEq, Nat.reduceEqDiff, e0, e1, e2, e6, e7, e8, hc1.len, hs1.len, gV_u, ak, ix, fl, ld0, ld1, ld2, ld3, ld4, hc1.idx, ld, gb, gz]
  exact ⟨_, ⟨(zh s1), hz, k + 1, by rw [es]; first | rfl | exact ⟨rfl, rfl⟩, by simp, by omega, .inl (by omega), rfl⟩, by omega⟩
 ·have fin : sumP s c a = sumK s c a k := by
   unfold sumP
   rcases Nat.lt_or_ge k c.length with x | x
   ·have q := sumK_high (s := s) (c := c) (a := a) (k := k) (fun j hj => by omega) (c.length - k)
    rw [show k + (c.length - k) = c.length by omega] at q
    exact q
   ·rcases hk with y | y
    ·rw [show k = c.length by omega]
    ·subst y
     rw [l0, sumK_low _ (fun j hj => by omega)]
  rw [fin]
  generalize sumK s c a k = q at *
  obtain ⟨qx, qy⟩ := q
  unfold smp
  by_cases c4 : (k : Int) < c.length
  ·have c5 : ¬ a + (k : Int) < s.length := by omega
   simp -implicitDefEqProofs (disch := first | exact zd | fail) only [↓wpPre, wpPost, wpPoly, Int.reduceToNat, Int.reducePow, Int.reduceMul, Int.reduceAdd, Int.reduceSub, Int.reduceNeg, Nat.reduceAdd, Nat.reduceMul, Nat.reducePow, Int.reduceLT, Int.reduceLE, Int.reduceEq, Nat.reduceEqDiff, e0, e1, e2, e6, e7, e8, hc1.len, hs1.len, gV_u, c4, c5, gb, gz]
   exact (zh s1)
  ·refine zs12 @e0 @e1 @e2 @e6 @e7 @e8 @hc1.len @hs1.len @gV_u @c4 @gb @gz ?_
   exact (zh s1)
theorem bankErr_ok {s : List (Int × Int)} {d o p a : Int} (h : bankErr s d o p a = 0) : s.length ≤ 1048576 ∧ (∀ x ∈ s, inS 127 x) ∧ sampErr d o [p] = 0 ∧ -2000000 ≤ a ∧ a ≤ 2000000 := by
 unfold bankErr at h
 split at h
 ·omega
 ·split at h
  ·omega
  ·rename_i c2
   split at h
   ·omega
   ·split at h
    ·omega
    ·exact ⟨by omega, Classical.not_not.1 c2, by omega, by omega, by omega⟩
set_option maxHeartbeats 1000000 in
theorem check294_spec (hC : Has C T294) {v : AV} {s : List (Int × Int)} {d o p a : Int} {h : Heap} (hs : SI h v s) (hd : In64 d) (ho : In64 o) (hp : In64 p) (ha : In64 a) :
  ACalls C 294 [v, .int .i64 d, .int .i64 o, .int .i64 p, .int .i64 a] h (fun r h' => HSub h h' ∧ ∃ w, r = lstErr w (bankErr s d o p a) ∧ (bankErr s d o p a = 0 → RI h' w (sampL d p o.toNat)) ∧ (bankErr s d o p a ≠ 0 → w = .nilslice)) := by
 have hlt := hs.lt
 have hI := fun p h => insideR_spec (p := p) (B := 127) (h := h) (zu hC T301) (by omega)
 have kS := fun h1 => SamplesR_spec (zu hC T169) (h := h1) hd ho hp
 have sc := sampErr_cases d o [p]
 unfold In64 at ha
 unfold bankErr
 by_cases c1 : 1048576 < s.length
 ·rw [if_pos c1]
  refine zf hC tab294 ?_; simp only [B294]; refine zs1 @hs.len ?_
  exact ⟨HSub.refl _, _, rfl, fun _ => rfl⟩
 ·rw [if_neg c1]
  refine zf hC tab294 ?_; simp only [B294]; refine zs1 @hs.len ?_
  refine wp_loopI (fun j t h' => h' = h ∧ ∃ k : Nat, t 0 = v ∧ t 1 = .int .i64 d ∧ t 2 = .int .i64 o ∧ t 3 = .int .i64 p ∧ t 4 = .int .i64 a ∧ t 12 = .int .i64 (k : Nat) ∧ (∀ i, i < k → inS 127 (s.getD i (0, 0))) ∧ k ≤ s.length ∧ j = s.length - k) (j0 := s.length)
   ⟨rfl, 0, rfl, rfl, rfl, rfl, rfl, rfl, fun i hi => by omega, by omega, rfl⟩ ?_
  rintro j t h1 ⟨rfl, k, e0, e1, e2, e3, e4, e12, hp, hk, hj⟩
  refine zs3 @e0 @e12 @hs.len ?_
  refine Br.by (fun c => ?_) (fun c => ?_)
  ·have hk' : k < s.length := by omega
   have ld := hs.loadA hk'
   refine zs4 @e0 @e12 @hs.idx @ld ?_
   refine ACallsK.eq (hI _ _) ?_
   by_cases c2 : inS 127 (s.getD k (0, 0))
   ·refine zs7 @c2 @e0 @e1 @e2 @e3 @e4 @e12 ?_
    refine ⟨_, ⟨k + 1, by simp, fun i hi => ?_, by omega, rfl⟩, by omega⟩
    rcases Nat.lt_or_ge i k with x | x
    ·exact hp i x
    ·have : i = k := by omega
     subst this; exact c2
   ·have c3 : ¬ ∀ x ∈ s, inS 127 x := fun q => c2 (q _ (getP_mem hk'))
    rw [if_pos c3]
    refine zs3 @c2 @e0 @e12 ?_
    exact ⟨HSub.refl _, _, rfl, fun _ => rfl⟩
  ·have ek : k = s.length := by omega
   have c3 : ∀ x ∈ s, inS 127 x := fun x hx => by
    obtain ⟨i, hi, rfl⟩ := List.getElem_of_mem hx
    have := hp i (by omega)
    rwa [List.getD_eq_getElem?_getD, List.getElem?_eq_getElem hi] at this
   rw [if_neg (fun q => q c3)]
   refine zs3 @e1 @e2 @e3 ?_
   refine ACallsK.of (kS _) ?_
   rintro r h2 ⟨w, rfl, s1, R⟩
   by_cases c4 : sampErr d o [p] = 0
   ·rw [c4] at R ⊢
    rw [if_pos rfl] at R
    rw [if_neg (by decide)]
    by_cases c5 : a < -2000000 ∨ 2000000 < a
    ·rw [if_pos c5]
     refine zs2 @lstErr.eq_1 @e4 ?_
     (repeat' (first | (refine Br.by (fun _ => ?_) (fun _ => ?_)) | (refine zs2 @e4 @gV_u ?_)))
     all_goals first
      | (exfalso; omega)
      | exact ⟨s1, _, rfl, fun _ => rfl⟩
    ·rw [if_neg c5]
     refine zs3 @lstErr.eq_1 @e4 @gV_u ?_
     exact ⟨s1, _, rfl, fun _ => R, fun q => absurd trivial q⟩
   ·have c5 : sampErr d o [p] = 2 := by omega
    rw [if_pos c4]
    rw [c5]
    refine zs2 @lstErr.eq_1 @e4 ?_
    exact ⟨s1, _, rfl, fun _ => rfl⟩
end
end Go.Ae
/- Sum, Bank and Three, of the program and of the reference. -/
set_option linter.unusedSimpArgs false
set_option linter.unusedVariables false
namespace Go.Ae
def bsumE (s : List (Int × Int)) (d o p a : Int) : AV := if bankErr s d o p a = 0 then .tuple [smp (sumP s (sampL d p o.toNat) a), .int .i64 0] else .tuple [smp (0, 0), .int .i64 (bankErr s d o p a)]
theorem bsumE_free (s : List (Int × Int)) (d o p a : Int) : (bsumE s d o p a).free := by
 unfold bsumE
 split <;> exact free_tuple (by simp [smp, AV.free, AV.bel, AV.bels])
theorem samp_len {d o p : Int} (h : sampErr d o [p] = 0) : (sampL d p o.toNat).length ≤ 8184 := by
 have ok := sampErr_ok h
 have n := lenN_eq ok.1
 rw [sampL_length]
 exact Nat.mul_le_mul (show lenN d ≤ 1023 by omega) (show o.toNat ≤ 8 by omega)
section
variable {C : Ctx}
set_option maxHeartbeats 1000000 in
theorem BSumR_spec (hC : Has C T276) {v : AV} {s : List (Int × Int)} {d o p a : Int} {h : Heap} (hs : SI h v s) (hd : In64 d) (ho : In64 o) (hp : In64 p) (ha : In64 a) :
  ACalls C 276 [v, .int .i64 d, .int .i64 o, .int .i64 p, .int .i64 a] h (fun r h' => r = bsumE s d o p a ∧ h' = h) := by
 refine ACalls.gc0 (P := fun r h' => r = bsumE s d o p a ∧ HSub h h') ?_ (fun r h' hp => ⟨by rw [hp.1]; exact bsumE_free _ _ _ _ _, hp.2, hp.1, rfl⟩)
 have kM := fun h1 (q : HSub h h1) => check294_spec (zu hC T294) (hs.mono q) hd ho hp ha
 have v1 := hs.one
 unfold bsumE
 refine zf hC tab276 ?_; simp only [B276]; refine zs ?_
 refine ACallsK.of (kM _ (HSub.push1 _ _)) ?_
 rintro r h1 ⟨s1, w, rfl, g0, g1⟩
 have gz : h1.get h.size = some (.cells [.int .i64 0, .int .i64 0] true 0) := (s1.get _ (by simp)).trans (get_push_eq rfl)
 have hz : h.size < h1.size := by have := s1.size; simp only [Heap.size_push] at this; omega
 have s0 := (HSub.push1 h (.cells [.int .i64 0, .int .i64 0] true 0)).trans s1
 by_cases c : bankErr s d o p a = 0
 ·have ok := bankErr_ok c
  have R := g0 c
  have kS := fun h2 (q : HSub h1 h2) => sum295_spec (zu hC T295) (a := a) (hs.mono (s0.trans q)) (R.mono q) ok.2.1 (sampL_one1 _ _ _) (by have := samp_len ok.2.2.1; omega) ok.1 (by omega)
  rw [c, if_pos rfl]
  generalize sumP s (sampL d p o.toNat) a = q at *
  obtain ⟨qx, qy⟩ := q
  unfold smp at kS ⊢
  dsimp only at kS ⊢
  refine zs1 @lstErr.eq_1 ?_
  refine ACallsK.eq (kS _ (zh (HSub.refl h1))) ?_
  refine zs1 @gz ?_
  exact (zh s0)
 ·rw [g1 c, if_neg c]
  unfold smp
  generalize bankErr s d o p a = e at *
  refine zs3 @lstErr.eq_1 @c @gz ?_
  exact (zh s0)
end
end Go.Ae
