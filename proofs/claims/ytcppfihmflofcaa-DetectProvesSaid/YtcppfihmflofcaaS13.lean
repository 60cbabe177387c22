/- Texts of the proof, part 13: a second reading of the lowered code, proved sound, and what the functions compute. -/
import Derived.Test.YtcppfihmflofcaaS12
/- DetectProves. -/
set_option linter.unusedSimpArgs false
set_option linter.unusedVariables false
namespace Go.Ae
def ACode.t1 : ACode → ACode
 | .seq _ b => b
 | c => c
section
variable {C : Ctx}
set_option maxHeartbeats 8000000 in
set_option maxRecDepth 20000 in
theorem proves_loop (hC : Has C T308) {p : PlanP} {es : List EmitP} {Q : List (Int × Int)} {s : Int} {j m : Nat} (pe : p.err = 0) (ok : PlanOk p) (p64 : p.ok64) (es8 : es.length ≤ p.prns.length) (eok : ∀ e ∈ es, EmOk p e) (hm : (m : Int) = 4 * p.size) (ql : Q.length = m) (qin : ∀ x ∈ Q, inS 127 x) (hjl : j < p.prns.length) (gz : gErr 8 s = 0)
  (det : ∀ a : Nat, (a : Int) + p.size ≤ m → (∀ e ∈ es, e.prn = p.prns.getD j 0 → alB p e a = false) → (sumP Q (sampL p.d (p.prns.getD j 0) p.o.toNat) a).1 * (sumP Q (sampL p.d (p.prns.getD j 0) p.o.toNat) a).1 + (sumP Q (sampL p.d (p.prns.getD j 0) p.o.toNat) a).2 * (sumP Q (sampL p.d (p.prns.getD j 0) p.o.toNat) a).2 ≤ thrI p s (p.prns.getD j 0) * thrI p s (p.prns.getD j 0)) :
  ∀ (ix i15 : Nat) (H4 : Heap) (vp ws we : AV) (A : Int) (t : Nat → AV), RI H4 vp p.prns → SI H4 ws Q → EmsI H4 we es → H4.get ix = some (.cells [.int .i64 p.d, .int .i64 p.o, .int .i64 p.pb, .int .i64 p.w, .int .i64 p.mn, .int .i64 p.mx, .int .i64 p.nz, vp] true 0) → H4.get i15 = some (.cells [.int .i64 8, .int .i64 s] true 0) → 
   t 13 = .bool true → t 14 = .ptr ix 0 → t 15 = .ptr i15 0 → t 16 = .int .i64 p.size → t 17 = ws → t 18 = we → t 20 = .int .i64 (p.prns.getD j 0) → t 5 = .int .i64 A → 0 ≤ A → A < p.size → wp C B308.ntmps none B308.code.t1.t1.t1.t1.t1.t1.t1.t1.t1.t1.t1 (retO B308.res (fun r _ => r = .bool true)) ⟨t, H4, []⟩ := by
 have sz := size_range ok.nums
 have po := ok.nums.2.1
 have hin : p.prns.getD j 0 ∈ p.prns := getD_mem hjl
 have i9 := p64.2.2.2.2.2.2.2 _ hin
 have se : sampErr p.d p.o [p.prns.getD j 0] = 0 := ok.samp (fun x hx => by rw [List.mem_singleton] at hx; rw [hx]; exact hin)
 have be : ∀ a : Int, -2000000 ≤ a → a ≤ 2000000 → bankErr Q p.d p.o (p.prns.getD j 0) a = 0 := fun a h1 h2 => by
  unfold bankErr
  rw [if_neg (by omega), if_neg (by simpa using qin), if_neg (by rw [se]; decide), if_neg (by omega)]
 have kB := fun v a H (S : SI H v Q) (h1 : 0 ≤ a) (h2 : a ≤ 100000) => BSumR_spec (zu hC T276) (a := a) S p64.1 p64.2.1 i9 (by unfold In64; omega)
 have xr : ∀ a : Int, inS 1039368 (sumP Q (sampL p.d (p.prns.getD j 0) p.o.toNat) a) := fun a => by
  have sl1 : ((sampL p.d (p.prns.getD j 0) p.o.toNat).length : Int) = p.size := by rw [sampL_length, sz.2.2]
  have q := sumK_le (a := a) qin (sampL_one1 p.d (p.prns.getD j 0) p.o.toNat) (sampL p.d (p.prns.getD j 0) p.o.toNat).length
  exact inS_mono q (by omega)
 have bE : ∀ a : Int, 0 ≤ a → a ≤ 100000 → bsumE Q p.d p.o (p.prns.getD j 0) a = .tuple [smp (sumP Q (sampL p.d (p.prns.getD j 0) p.o.toNat) a), .int .i64 0] := fun a h1 h2 => by unfold bsumE; rw [if_pos (be a (by omega) (by omega))]
 have dE : detErr p 8 (s) (p.prns.getD j 0) = 0 := by
  unfold detErr askErr
  rw [if_pos pe, gz, if_pos rfl, if_pos hin]
 have cE : ∀ pw mm : Int, 0 ≤ pw → 1 ≤ mm → mm ≤ 3 → claimE p 8 (s) (p.prns.getD j 0) pw mm = .tuple [.bool (claimB (thrI p (s) (p.prns.getD j 0)) pw mm), .int .i64 0] := fun pw mm h1 h2 h3 => by
  unfold claimE; rw [if_pos dE, if_neg (by omega)]
 have kC := fun vp pw mm H (R : RI H vp p.prns) (h1 : 0 ≤ pw) (h2 : pw ≤ 7000000000000) (h3 : 1 ≤ mm) (h4 : mm ≤ 3) => Claims_spec (zu hC T313) (b := 8) (s := s) (prn := p.prns.getD j 0) (pw := pw) (m := mm) R p64 (by unfold In64; omega) (by unfold In64; omega)
 have kA := fun e (vp vb : AV) a H (v1 : vp.one = true) (b1 : vb.one = true) (he : EmOk p e) (h1 : 0 ≤ a) (h2 : a ≤ 1048576) => Aligned_spec (zu hC T330) (h := H) (e := e) (a := a) v1 b1 ok.nums he.en.1 he.en.2.1 ⟨h1, h2⟩
 unfold gA at *
 unfold plA at *
 intro ix i15 H4 vp ws we A t R4 W E g14 g15 e13 e14 e15 e16 e17 e18 e20 e5 hA0 hA1
 have v1 := R4.one
 simp only [B308, ACode.t1]
 refine zs ?_
 refine wp_loopI (fun j2 t H' => HSub H4 H' ∧ t 13 = .bool true ∧ t 14 = .ptr ix 0 ∧ (∃ i15, t 15 = .ptr i15 0 ∧ H4.get i15 = some (.cells [.int .i64 8, .int .i64 s] true 0)) ∧ t 16 = .int .i64 p.size ∧ t 17 = ws ∧ t 18 = we ∧ t 20 = .int .i64 (p.prns.getD j 0) ∧ (∃ A : Int, t 5 = .int .i64 A ∧ 0 ≤ A ∧ A < p.size) ∧ ∃ (k : Nat) (S : Int) (o : Bool), t 21 = .int .i64 S ∧ t 22 = .bool o ∧ t 23 = .int .i64 (k : Nat) ∧ k ≤ 3 ∧ j2 = 3 - k ∧ 0 ≤ S ∧ S ≤ 2200000000000 * k ∧ (o = false → S ≤ (k : Int) * (thrI p s (p.prns.getD j 0) * thrI p s (p.prns.getD j 0)))) (j0 := 3)
  ⟨HSub.refl _, e13, e14, ⟨_, e15, g15⟩, e16, e17, e18, e20, ⟨_, e5, hA0, hA1⟩, 0, 0, false, rfl, rfl, rfl, by omega, rfl, by omega, by omega, fun _ => by simp⟩ ?_
 rintro j2 t H' ⟨sH', e13, e14, ⟨i15, e15, g15o⟩, e16, e17, e18, e20, ⟨A, e5, hA0, hA1⟩, k, S, o, e21, e22, e23, hk, hj2, hS0, hS1, hSo⟩
 have g14' := (sH'.get _ (Heap.lt_of_get g14)).trans g14
 have g15' := (sH'.get _ (Heap.lt_of_get g15o)).trans g15o
 have l14 := Heap.lt_of_get g14'
 have l15 := Heap.lt_of_get g15'
 refine zs1 @e23 ?_
 refine Br.by (fun c5 => ?_) (fun c5 => ?_)
 ·have W1 := W.mono sH'
  have R1 := R4.mono sH'
  have ks1 : 0 ≤ (k : Int) * p.size := Int.mul_nonneg (by omega) (by omega)
  have ks2 : (k : Int) * p.size ≤ 2 * p.size := Int.mul_le_mul_of_nonneg_right (by omega) (by omega)
  have pack : ∃ (x1 x2 : Int) (cb : Bool), (0 ≤ x1 * x1 ∧ x1 * x1 ≤ 1100000000000 ∧ 0 ≤ x2 * x2 ∧ x2 * x2 ≤ 1100000000000) ∧
    ACalls C 276 [ws, .int .i64 p.d, .int .i64 p.o, .int .i64 (p.prns.getD j 0), .int .i64 (A + (k : Int) * p.size)] H' (fun r h' => r = .tuple [.agg [.int .i64 x1, .int .i64 x2], .int .i64 0] ∧ h' = H') ∧
    (∀ H2, HSub H' H2 → ACalls C 313 [(.agg [.int .i64 p.d, .int .i64 p.o, .int .i64 p.pb, .int .i64 p.w, .int .i64 p.mn, .int .i64 p.mx, .int .i64 p.nz, vp]), .agg [.int .i64 8, .int .i64 s], .int .i64 (p.prns.getD j 0), .int .i64 (x1 * x1 + x2 * x2), .int .i64 1] H2 (fun r h' => r = .tuple [.bool cb, .int .i64 0] ∧ HSub H2 h')) ∧
    ((∀ e ∈ es, e.prn = p.prns.getD j 0 → alB p e (A + (k : Int) * p.size) = false) → cb = false) ∧ (cb = false → x1 * x1 + x2 * x2 ≤ thrI p s (p.prns.getD j 0) * thrI p s (p.prns.getD j 0)) := by
   have kBk := kB _ (A + (k : Int) * p.size) H' W1 (by omega) (by omega)
   rw [bE _ (by omega) (by omega)] at kBk
   have xk := xr (A + (k : Int) * p.size)
   have detk := fun al => det (A + (k : Int) * p.size).toNat (by omega) al
   have ea : (((A + (k : Int) * p.size).toNat : Nat) : Int) = A + (k : Int) * p.size := by omega
   rw [ea] at detk
   unfold smp at kBk
   unfold inS at xk
   generalize sumP Q (sampL p.d (p.prns.getD j 0) p.o.toNat) (A + (k : Int) * p.size) = X at kBk xk detk
   obtain ⟨x1, x2⟩ := X
   dsimp only at kBk xk detk
   have m1 := mul_bd (k := x1) (s := x1) (K := 1039368) (S := 1039368) xk.1 xk.1
   have m2 := mul_bd (k := x2) (s := x2) (K := 1039368) (S := 1039368) xk.2 xk.2
   have n1 := sq_nn x1
   have n2 := sq_nn x2
   have kCk := fun H2 (q : HSub H' H2) => kC _ (x1 * x1 + x2 * x2) 1 H2 (R1.mono q) (by omega) (by omega) (by omega) (by omega)
   rw [cE _ _ (by omega) (by omega) (by omega)] at kCk
   have clm : (∀ e ∈ es, e.prn = p.prns.getD j 0 → alB p e (A + (k : Int) * p.size) = false) → claimB (thrI p s (p.prns.getD j 0)) (x1 * x1 + x2 * x2) 1 = false := fun al => by
    have := detk al
    unfold claimB; rw [decide_eq_false_iff_not]; omega
   have clS : claimB (thrI p s (p.prns.getD j 0)) (x1 * x1 + x2 * x2) 1 = false → x1 * x1 + x2 * x2 ≤ thrI p s (p.prns.getD j 0) * thrI p s (p.prns.getD j 0) := fun q => by
    unfold claimB at q; rw [decide_eq_false_iff_not] at q; omega
   generalize claimB (thrI p s (p.prns.getD j 0)) (x1 * x1 + x2 * x2) 1 = cb at kCk clm clS
   exact ⟨x1, x2, cb, by omega, kBk, kCk, clm, clS⟩
  obtain ⟨x1, x2, cb, xb, kBk, kCk, clm, clS⟩ := pack
  clear det xr kB bE
  refine zs7 @e5 @e14 @e16 @e17 @e20 @e23 @g14' ?_
  refine ACallsK.eq kBk ?_
  refine zs6 @e14 @e15 @e20 @e21 @g14' @g15' ?_
  refine ACallsK.of (kCk _ (zh (HSub.refl H'))) ?_
  rintro r h5 ⟨rfl, s5⟩
  have g14 := (s5.get _ (by simp only [Heap.size_push]; omega)).trans ((get_push_lt l14).trans g14')
  have g15 := (s5.get _ (by simp only [Heap.size_push]; omega)).trans ((get_push_lt l15).trans g15')
  have E5 := E.mono (sH'.trans ((HSub.push1 H' _).trans s5))
  have El5 := E5.len
  refine zs1 @e22 ?_
  refine Br.by (fun c6 => ?_) (fun c6 => ?_)
  refine zs1 @c6 ?_
  rotate_left
  refine zs1 @c6 ?_
  rotate_left
  all_goals
   refine wp_loopI (fun j3 u H6 => H6 = h5 ∧ u 13 = .bool true ∧ u 14 = .ptr ix 0 ∧ u 15 = .ptr i15 0 ∧ u 16 = .int .i64 p.size ∧ u 17 = ws ∧ u 18 = we ∧ u 20 = .int .i64 (p.prns.getD j 0) ∧ u 5 = .int .i64 A ∧ u 21 = .int .i64 (S + (x1 * x1 + x2 * x2)) ∧ u 23 = .int .i64 (k : Nat) ∧ u 27 = .bool cb ∧ (∃ o2 : Bool, u 22 = .bool o2 ∧ (o2 = false → o = false ∧ cb = false)) ∧ ∃ (i : Nat) (al : Bool), u 29 = .bool al ∧ u 30 = .int .i64 (i : Nat) ∧ i ≤ es.length ∧ j3 = es.length - i ∧ (al = false → ∀ x, x < i → (es.getD x eD).prn = p.prns.getD j 0 → alB p (es.getD x eD) (A + (k : Int) * p.size) = false)) (j0 := es.length)
    ⟨rfl, e13, e14, e15, e16, e17, e18, e20, e5, rfl, e23, rfl, ⟨_, rfl, fun q => by first | (cases q; done) | exact ⟨by simpa using c6, q⟩⟩, 0, false, rfl, rfl, by omega, rfl, fun _ x hx => absurd hx (Nat.not_lt_zero x)⟩ ?_
   rintro j3 u H6 ⟨rfl, f13, f14, f15, f16, f17, f18, f20, f5, f21, f23, f27, ⟨o2, f22, ho2⟩, i, al, f29, f30, hi, hj3, hal⟩
   refine zs3 @f18 @f30 @El5 ?_
   refine Br.by (fun c7 => ?_) (fun c7 => ?_)
   ·have hi' : i < es.length := by omega
    have ol := ok.len
    have eat := E5.at hi'
    obtain ⟨vb, i8, l8, Bb, f8, l0, l1⟩ := eat
    have l8 := l8 _ (HSub.refl _)
    have l0 := l0 _ (HSub.refl _)
    have f80 := f8 0
    have b1 := Bb.one
    have kAk := kA (es.getD i eD) _ vb (A + (k : Int) * p.size) H6 v1 b1 (eok _ (by rw [List.getD_eq_getElem?_getD, List.getElem?_eq_getElem hi']; exact List.getElem_mem _)) (by omega) (by omega)
    have nx : ∀ b : Bool, (b = false → (es.getD i eD).prn = p.prns.getD j 0 → alB p (es.getD i eD) (A + (k : Int) * p.size) = false) → (al = false) → (b = false → ∀ x, x < i + 1 → (es.getD x eD).prn = p.prns.getD j 0 → alB p (es.getD x eD) (A + (k : Int) * p.size) = false) := fun b hb ha hb2 x hx hxp => by
     rcases Nat.lt_or_ge x i with q | q
     ·exact hal ha x q hxp
     ·obtain rfl : x = i := by omega
      exact hb hb2 hxp
    cases al with
    | true =>
     refine zs3 @f29 @f30 @gV_u ?_
     exact ⟨_, ⟨f13, f14, f15, f16, f17, f18, f20, f5, f21, f23, f27, ⟨o2, f22, ho2⟩, i + 1, true, rfl, rfl, by omega, rfl, fun q => by cases q⟩, by omega⟩
    | false =>
     by_cases c9 : (es.getD i eD).prn = p.prns.getD j 0
     ·simp -implicitDefEqProofs (disch := first | exact zd | fail) only [↓wpPre, wpPost, wpPoly, Int.reduceToNat, Int.reducePow, Int.reduceMul, Int.reduceAdd, Int.reduceSub, Int.reduceNeg, Nat.reduceAdd, Nat.reduceMul, Nat.reducePow, Int.reduceLT, Int.reduceLE, Int.reduceEq, Nat.reduceEqDiff, f29, f30, f18, f20, f5, f16, f23, f14, i8, f80, l0, l8, c9, g14]
      refine ACallsK.eq kAk ?_
      refine zs1 @f30 ?_
      exact ⟨_, ⟨f13, f14, f15, f16, f17, f18, f20, f5, f21, f23, f27, ⟨o2, f22, ho2⟩, i + 1, _, rfl, rfl, by omega, rfl, nx _ (fun q _ => q) rfl⟩, by omega⟩
     ·refine zs9 @f29 @f30 @f18 @f20 @i8 @f80 @l0 @c9 @gV_u ?_
      exact ⟨_, ⟨f13, f14, f15, f16, f17, f5, f21, f23, f27, ⟨o2, f22, ho2⟩, i + 1, false, rfl, rfl, by omega, rfl, nx false (fun _ q => absurd q c9) rfl⟩, by omega⟩
   ·obtain rfl : i = es.length := by omega
    have ek : ((k + 1 : Nat) : Int) * (thrI p s (p.prns.getD j 0) * thrI p s (p.prns.getD j 0)) = (k : Int) * (thrI p s (p.prns.getD j 0) * thrI p s (p.prns.getD j 0)) + thrI p s (p.prns.getD j 0) * thrI p s (p.prns.getD j 0) := by rw [Int.natCast_add, Int.add_mul]; simp
    have so : o2 = false → S + (x1 * x1 + x2 * x2) ≤ ((k + 1 : Nat) : Int) * (thrI p s (p.prns.getD j 0) * thrI p s (p.prns.getD j 0)) := fun q => by
     have q1 := hSo (ho2 q).1
     have q2 := clS (ho2 q).2
     omega
    have sE := sH'.trans ((HSub.push1 H' (.cells [.int .i64 x1, .int .i64 x2] true 0)).trans s5)
    refine zs2 @f27 @f29 ?_
    refine Br.by (fun c10 => ?_) (fun c10 => ?_)
    ·cases al with
     | true =>
      refine zs3 @c10 @f29 @f23 ?_
      exact ⟨_, ⟨sE, f13, f14, ⟨i15, f15, g15o⟩, f16, f17, f18, f20, ⟨A, f5, hA0, hA1⟩, k + 1, _, o2, f21, f22, rfl, by omega, rfl, by omega, by omega, so⟩, by omega⟩
     | false =>
      exfalso
      have q := clm (fun e he hep => by
       obtain ⟨x, hx, rfl⟩ := List.getElem_of_mem he
       have q := hal rfl x hx
       rw [List.getD_eq_getElem?_getD, List.getElem?_eq_getElem hx, Option.getD_some] at q
       exact q hep)
      rw [c10] at q
      cases q
    ·refine zs3 @c10 @gV_u @f23 ?_
     exact ⟨_, ⟨sE, f13, f14, ⟨i15, f15, g15o⟩, f16, f17, f18, f20, ⟨A, f5, hA0, hA1⟩, k + 1, _, o2, f21, f22, rfl, by omega, rfl, by omega, by omega, so⟩, by omega⟩
 ·obtain rfl : k = 3 := by omega
  have pack : ∃ cf : Bool, ACalls C 313 [(.agg [.int .i64 p.d, .int .i64 p.o, .int .i64 p.pb, .int .i64 p.w, .int .i64 p.mn, .int .i64 p.mx, .int .i64 p.nz, vp]), .agg [.int .i64 8, .int .i64 s], .int .i64 (p.prns.getD j 0), .int .i64 S, .int .i64 3] H' (fun r h' => r = .tuple [.bool cf, .int .i64 0] ∧ HSub H' h') ∧ (o = false → cf = false) := by
   have kCf := kC _ S 3 H' (R4.mono sH') hS0 (by omega) (by omega) (by omega)
   rw [cE _ _ hS0 (by omega) (by omega)] at kCf
   have fin : o = false → claimB (thrI p s (p.prns.getD j 0)) S 3 = false := fun q => by
    have := hSo q
    unfold claimB; rw [decide_eq_false_iff_not]; omega
   generalize claimB (thrI p s (p.prns.getD j 0)) S 3 = cf at kCf fin
   exact ⟨cf, kCf, fin⟩
  obtain ⟨cf, kCf, fin⟩ := pack
  refine zs6 @e14 @e15 @g14' @g15' @e20 @e21 ?_
  refine ACallsK.of kCf ?_
  rintro r h6 ⟨rfl, s6⟩
  cases o with
  | true =>
   cases cf with
   | true => exact ze3 @e13 @e22 @gV_u
   | false => exact ze3 @e13 @e22 @gV_u
  | false =>
   have q := fin rfl
   subst q
   exact ze3 @e13 @e22 @gV_u
set_option maxHeartbeats 8000000 in
set_option maxRecDepth 20000 in
theorem DetectProves_law (hC : Has C T308) {vl ve vn : AV} {l em no : List Int} {shift which at0 : Int} {h : Heap} (Rl : RI h vl l) (Re : RI h ve em) (Rn : RI h vn no) (i1 : In64 shift) (i2 : In64 which) (i3 : In64 at0) (hxl : ∀ x ∈ l, In64 x) (hxe : ∀ x ∈ em, In64 x) (hxn : ∀ x ∈ no, In64 x) (K : KnownCap ve) :
  ACalls C 308 [vl, ve, vn, .int .i64 shift, .int .i64 which, .int .i64 at0] h (fun r _ => r = .bool true) := by
 have sel : ∃ p q : PlanP, p.err = 0 ∧ p.ok64 ∧ (∀ H, HSub h H → ACalls C 328 [vl] H (fun r h' => HSub H h' ∧ PlI h' r q)) ∧ (someOf l 8 2 = 1 → ∀ H, HSub h H → ACalls C 235 [vl] H (fun r h' => HSub H h' ∧ ∃ vp, r = plA p vp ∧ RI h' vp p.prns ∧ ∀ i ∈ vp.ids, H.size ≤ i)) ∧ (someOf l 8 2 ≠ 1 → p = q) := by
  by_cases c : someOf l 8 2 = 1
  ·exact ⟨planOf l, quietOf l, planOf_err l, planOf_64 l, fun H q => Quiet_spec (zu hC T328) (Rl.mono q) hxl, fun _ H q => PlanOf_new (zu hC T235) (Rl.mono q) hxl, fun q => absurd c q⟩
  ·exact ⟨quietOf l, quietOf l, quiet_err l, quiet_64 l, fun H q => Quiet_spec (zu hC T328) (Rl.mono q) hxl, fun q => absurd q c, fun _ => rfl⟩
 obtain ⟨p, q, pe, p64, kQ, kP, pq⟩ := sel
 have ok := planOk_of pe
 have sz := size_range ok.nums
 have po := ok.nums.2.1
 have kK := fun H => known307_spec (zu hC T307) (h := H)
 have S8 := fun H (q : HSub h H) => Some_spec (zu hC T45) (i := 8) (n := 2) (Rl.mono q) hxl (by omega)
 have T6 := fun H => Turn_spec (h := H) (x := shift) (n := 6) (zu hC T23) i1 (by omega)
 have T5 := fun H => Turn_spec (h := H) (x := which) (n := 5) (zu hC T23) i2 (by omega)
 have T9 := fun H => Turn_spec (h := H) (x := which) (n := 9) (zu hC T23) i2 (by omega)
 have TL := fun H => Turn_spec (h := H) (x := which) (n := (p.prns.length : Int)) (zu hC T23) i2 (by have := ok.len; omega)
 have TA := fun x H (hx : In64 x) => Turn_spec (h := H) (x := x) (n := p.size) (zu hC T23) hx (by omega)
 have r6 := Int.emod_nonneg shift (show (6 : Int) ≠ 0 by decide)
 have r6' := Int.emod_lt_of_pos shift (show (0 : Int) < 6 by decide)
 have gz : gErr 8 (4 + shift % 6) = 0 := by unfold gErr; rw [if_pos (by omega)]
 have hs : 0 ≤ 4 + shift % 6 ∧ 4 + shift % 6 ≤ 30 := by omega
 have hmE : ∃ m : Nat, (m : Int) = 4 * p.size := ⟨(4 * p.size).toNat, by omega⟩
 obtain ⟨m, hm⟩ := hmE
 have kS := fun vp H (R : RI H vp p.prns) (q : HSub h H) => scene329_spec (zu hC T329) R p64 pe (Re.mono q) K hxe (Rn.mono q) hxn gz (show m ≤ 1048576 by omega)
 have kZ := fun vp H (v1 : vp.one = true) => size244_spec (zu hC T244) (h := H) (vp := vp) ok.nums v1
 have jE : ∃ j : Nat, which % (p.prns.length : Int) = (j : Nat) ∧ j < p.prns.length := by
  have l1 := ok.len
  have m1 := Int.emod_nonneg which (show (p.prns.length : Int) ≠ 0 by omega)
  have m2 := Int.emod_lt_of_pos which (show (0 : Int) < p.prns.length by omega)
  exact ⟨(which % (p.prns.length : Int)).toNat, by omega, by omega⟩
 obtain ⟨j, hj, hjl⟩ := jE
 have hin : p.prns.getD j 0 ∈ p.prns := getD_mem hjl
 have i9 := p64.2.2.2.2.2.2.2 _ hin
 rw [hj] at TL
 have a1 := Int.emod_nonneg at0 (show p.size ≠ 0 by omega)
 have a2 := Int.emod_lt_of_pos at0 (show 0 < p.size by omega)
 have n1 := Int.emod_nonneg which (show (9 : Int) ≠ 0 by decide)
 have n2 := Int.emod_lt_of_pos which (show (0 : Int) < 9 by decide)
 have es8 := esK_len p em p.prns.length
 have eok : ∀ e ∈ esK p em p.prns.length, EmOk p e := fun e he => emit_ok (esK_ok pe ok.nums p64 _ (Nat.le_refl _) e he).1
 have esum := esK_sum (l := em) ok hin p.prns.length (Nat.le_refl _)
 rw [List.take_length, if_pos hin] at esum
 generalize esK p em p.prns.length = es at *
 have nin := noiL_in (l := no) (z := p.nz) ok.nums.2.2.2.2.2.2.1 (k := m)
 have det := fun (a : Nat) (c1 : lostK 8 (4 + shift % 6) (scnL p es (noiL no p.nz m) es.length m) m = 0) (ha : (a : Int) + p.size ≤ m) (al : ∀ e ∈ es, e.prn = p.prns.getD j 0 → alB p e a = false) => det_window ok hs hin eok nin c1 ha (by omega) al (by rw [sgK_mul]; exact Int.mul_le_mul_of_nonneg_left (by unfold PlanP.oth; omega) (by have := ok.nums.2.2.2.2; omega))
 have ql : (qntL 8 (4 + shift % 6) (scnL p es (noiL no p.nz m) es.length m)).length = m := by unfold qntL; rw [List.length_map, scnL_length]
 have qin : ∀ x ∈ qntL 8 (4 + shift % 6) (scnL p es (noiL no p.nz m) es.length m), inS 127 x := fun x hx => by
  obtain ⟨y, _, rfl⟩ := List.mem_map.1 hx
  have tv : ∀ z : Int, -127 ≤ lvlI 8 (4 + shift % 6) z ∧ lvlI 8 (4 + shift % 6) z ≤ 127 := fun z => by
   have t7 : topI 8 = 127 := by decide
   unfold lvlI
   rw [t7]
   split
   ·omega
   ·split <;> omega
  have t1 := tv y.1
  have t2 := tv y.2
  unfold inS
  dsimp only
  omega
 generalize qntL 8 (4 + shift % 6) (scnL p es (noiL no p.nz m) es.length m) = Q at *
 have sl := scnL_length (p := p) (es := es) (ns := noiL no p.nz m) (k := es.length) (m := m)
 generalize scnL p es (noiL no p.nz m) es.length m = sc at *
 generalize hsh : 4 + shift % 6 = s at *
 rw [hm] at kS
 unfold PlI gA at *
 unfold plA at *
 have hR : ∃ R, R = B308.code.t1.t1.t1.t1.t1.t1.t1.t1.t1.t1.t1 := ⟨_, rfl⟩
 obtain ⟨R, hR⟩ := hR
 have key := fun c1 => proves_loop hC pe ok p64 es8 eok hm ql qin hjl gz (fun a => det a c1)
 rw [← hR] at key
 (refine calls_intro (hC.body (by decide) tab308) (Nat.le_of_ble_eq_true rfl) ?_); (show wp C _ none B308.code _ _)
 simp only [B308, ACode.t1] at hR key
 simp only [B308]
 rw [← hR]
 clear hR
 refine zs ?_
 refine ACallsK.eq (kK _) ?_
 refine zs ?_
 refine ACallsK.of (kQ _ (HSub.refl h)) ?_
 rintro r h1 ⟨s1, vq, rfl, Rq⟩
 have o1 := Rq.one
 refine zs ?_
 refine ACallsK.eq (S8 _ (zh s1)) ?_
 refine zs ?_
 refine Br.by (fun c => ?ga) (fun c => ?gb)
 case' ga =>
  refine zs ?_
  refine ACallsK.of (kP c _ (zh s1)) ?_
  rintro r h2 ⟨s2, vp, rfl, R, fr⟩
  simp only [Heap.size_push] at fr
  have v1 := R.one
  have z2 := s2.size
  simp only [Heap.size_push] at z2
  have g0 := s2.get h1.size (by simp)
  rw [get_push_eq rfl] at g0
  refine zs2 @hsh @g0 ?_
  refine ACallsK.eq (T6 _) ?_
  refine zs2 @hsh @g0 ?_
  have sb : HSub h h2 := (s1.push _).trans s2
  have zz := s1.size
  refine ACallsK.hide (fun H hH => ?_)
  have g14 : H.get h1.size = some (.cells [.int .i64 p.d, .int .i64 p.o, .int .i64 p.pb, .int .i64 p.w, .int .i64 p.mn, .int .i64 p.mx, .int .i64 p.nz, vp] true 0) := by rw [hH]; exact ze
  have g15 : H.get h2.size = some (.cells [.int .i64 8, .int .i64 s] true 0) := by rw [hH]; exact ze
  have sH : HSub h H := by rw [hH]; exact (zh sb)
  have RH : RI H vp p.prns := by rw [hH]; exact (R.off (fun i hi => get_put_ne (by have := fr i hi; omega))).mono (HSub.push1 _ _)
  clear hH
 case' gb =>
  refine zs ?_
  refine ACallsK.eq (T6 _) ?_
  have pqc := pq c
  subst pqc
  have R := Rq
  have v1 := o1
  have zz := s1.size
  refine zs1 @hsh ?_
  refine ACallsK.hide (fun H hH => ?_)
  have g14 : H.get h1.size = some (.cells [.int .i64 p.d, .int .i64 p.o, .int .i64 p.pb, .int .i64 p.w, .int .i64 p.mn, .int .i64 p.mx, .int .i64 p.nz, vq] true 0) := by rw [hH]; exact ze
  have g15 : H.get (h1.size + 1) = some (.cells [.int .i64 8, .int .i64 s] true 0) := by rw [hH]; exact ze
  have sH : HSub h H := by rw [hH]; exact (zh s1)
  have RH : RI H vq p.prns := by rw [hH]; exact R.mono (zh (HSub.refl h1))
  clear hH
 all_goals
  refine ACallsK.eq (kZ _ _ v1) ?_
  refine zs2 @g14 @g15 ?_
  refine ACallsK.of (kS _ _ RH sH) ?_
  rintro r h4 ⟨s4, ws, we, rfl, W, E⟩
  have g14 := (s4.get _ (Heap.lt_of_get g14)).trans g14
  have g15 := (s4.get _ (Heap.lt_of_get g15)).trans g15
  refine zs ?_
  refine Br.by (fun c1 => ?_) (fun c1 => ?_)
  ·skip
   have L4 := RH.len
   have R4 := RH.mono s4
   have ij := R4.idx (kk := .i64) (k := (j : Nat)) ⟨by omega, by omega⟩
   rw [Int.toNat_natCast] at ij
   have lj := R4.load hjl
   have El := E.len
   refine zs3 @g14 @v1 @L4 ?_
   refine ACallsK.eq (TL _) ?_
   refine zs4 @g14 @v1 @ij @lj ?_
   refine ACallsK.eq (TA _ _ i3) ?_
   refine zs1 @El ?_
   refine Br.by (fun c2 => ?_) (fun c2 => ?_)
   have eat := E.at (i := 0) (by omega)
   obtain ⟨vb, i8, l8, Bb, f8, l0, l1⟩ := eat
   have i80 : idxA 8 we (.int .i64 0) = some (elA 8 we 0) := i8
   have f81 := f8 1
   have l1 := l1 _ (HSub.refl _)
   have dl := (eok _ (show es.getD 0 eD ∈ es by rw [List.getD_eq_getElem?_getD, List.getElem?_eq_getElem (show 0 < es.length by omega)]; exact List.getElem_mem _)).en.1
   have b1 := Int.emod_nonneg ((es.getD 0 eD).dl + which % 9 - 4) (show p.size ≠ 0 by omega)
   have b2 := Int.emod_lt_of_pos ((es.getD 0 eD).dl + which % 9 - 4) (show 0 < p.size by omega)
   refine zs ?_
   refine ACallsK.eq (T5 _) ?_
   refine zs ?_
   refine Br.by (fun c3 => ?_) (fun c3 => ?_)
   refine zs3 @i80 @f81 @l1 ?_
   refine ACallsK.eq (T9 _) ?_
   refine zs3 @i80 @f81 @l1 ?_
   refine ACallsK.eq (TA _ _ (by unfold In64; omega)) ?_
   refine zs ?_
   rotate_left
   refine zs ?_
   rotate_left
   refine zs2 @c2 @gV_u ?_
   rotate_left
   all_goals
    exact key c1 _ _ _ _ _ _ _ _ R4 W E g14 g15 rfl rfl rfl rfl rfl rfl rfl rfl (by omega) (by omega)
  ·exact ze
end
end Go.Ae
