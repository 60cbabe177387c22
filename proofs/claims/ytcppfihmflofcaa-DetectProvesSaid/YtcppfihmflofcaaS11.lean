/- Texts of the proof, part 11: a second reading of the lowered code, proved sound, and what the functions compute. -/
import Derived.Test.YtcppfihmflofcaaS10
/- Emitters are checked: the reference. -/
set_option linter.unusedSimpArgs false
set_option linter.unusedVariables false
namespace Go.Ae
theorem any_succ {l : List Int} {k : Nat} (hk : k < l.length) (p : Int → Bool) : ((l.take (k + 1)).any p) = ((l.take k).any p || p (l.getD k 0)) := by
 rw [take_succ_getD hk, List.any_append]
 simp
section
variable {C : Ctx}
set_option maxHeartbeats 2000000 in
set_option maxRecDepth 20000 in
theorem CheckR_spec (hC : Has C T224) {v w : AV} {p : PlanP} {e : EmitP} {h : Heap} (hp : PlI h v p) (he : EmI h w e) (h64 : p.ok64) (h65 : e.ok64) : ACalls C 224 [v, w] h (fun r h' => r = .int .i64 (emitErr p e) ∧ h' = h) := by
 refine ACalls.gc0 (P := fun r h' => r = .int .i64 (emitErr p e) ∧ HSub h h') ?_ (fun r h' hp => ⟨by rw [hp.1]; trivial, hp.2, hp.1, rfl⟩)
 have kc := fun h1 (q : HSub h h1) => CheckPlanR_spec (zu hC T220) (hp.mono q) h64
 have pr := emit_range p e
 obtain ⟨vp, rfl, R⟩ := hp
 obtain ⟨vb, rfl, B⟩ := he
 have v1 := R.one
 have b1 := B.one
 have hlt := R.lt
 have blt := B.lt
 have hE : emitErr p e = if p.err = 0 then if (p.prns.any fun y => e.prn == y) = true then if e.numsOk p then if 10000 < e.bits.length then 4 else if e.bits.any (fun b => b != 0 && b != 1) = true then 3 else 0 else 2 else 18 else p.err := rfl
 generalize emitErr p e = E at *
 have kS := fun (q : p.numsOk) h1 => size244_spec (zu hC T244) (vp := vp) (h := h1) q v1
 unfold plA at kS
 by_cases c : p.err = 0
 ·have hn := plan_ok c
  have kS := kS hn
  rw [if_pos c] at hE
  rw [c] at kc
  have g1 : (p.prns.any fun y => e.prn == y) = false → E = 18 := fun q => by rw [hE, if_neg (by rw [q]; decide)]
  have g2 : (p.prns.any fun y => e.prn == y) = true → ¬ ((0 ≤ e.dl ∧ e.dl < p.size) ∧ (-64 ≤ e.rt ∧ e.rt ≤ 64) ∧ (p.mn ≤ e.amp ∧ e.amp ≤ p.mx) ∧ (0 ≤ e.ba ∧ e.ba < p.pb)) → E = 2 := fun q q2 => by rw [hE, if_pos q, if_neg (show ¬ e.numsOk p from q2)]
  have g3 : (p.prns.any fun y => e.prn == y) = true → ((0 ≤ e.dl ∧ e.dl < p.size) ∧ (-64 ≤ e.rt ∧ e.rt ≤ 64) ∧ (p.mn ≤ e.amp ∧ e.amp ≤ p.mx) ∧ (0 ≤ e.ba ∧ e.ba < p.pb)) → E = if 10000 < e.bits.length then 4 else if e.bits.any (fun b => b != 0 && b != 1) = true then 3 else 0 := fun q q2 => by rw [hE, if_pos q, if_pos (show e.numsOk p from q2)]
  clear hE
  generalize p.size = sz at *
  obtain ⟨d, o, pb, wo, mn, mx, nz, prns⟩ := p
  obtain ⟨prn, dl, rt, st, ph, amp, ba, bits⟩ := e
  dsimp only at *
  have sH : ∀ b c, HSub h ((h.push b).push c) := fun b c => (HSub.push1 h b).push c
  have a0 : (prns.take prns.length).any (fun y => prn == y) = (prns.any fun y => prn == y) := by rw [List.take_length]
  have z0 : (bits.take bits.length).any (fun b => b != 0 && b != 1) = (bits.any fun b => b != 0 && b != 1) := by rw [List.take_length]
  generalize (prns.any fun y => prn == y) = b at *
  generalize (bits.any fun b => b != 0 && b != 1) = z at *
  refine zf hC tab224 ?_; simp only [B224]; refine zs ?_
  refine ACallsK.hide (fun H hH => ?_)
  have t1 : HSub h H := by rw [hH]; exact sH _ _
  have gp : H.get h.size = some (.cells [.int .i64 d, .int .i64 o, .int .i64 pb, .int .i64 wo, .int .i64 mn, .int .i64 mx, .int .i64 nz, vp] true 0) := by rw [hH]; exact ze
  have ge : H.get (h.size + 1) = some (.cells [.int .i64 prn, .int .i64 dl, .int .i64 rt, .int .u32 st, .int .u32 ph, .int .i64 amp, .int .i64 ba, vb] true 0) := by rw [hH]; exact ze
  have R1 := R.mono t1
  have B1 := B.mono t1
  have kc := kc H t1
  clear hH
  refine ACallsK.eq kc ?_
  refine zs ?_
  refine wp_loopI (fun j t h' => h' = H ∧ ∃ k : Nat, t 2 = .ptr h.size 0 ∧ t 3 = .ptr (h.size + 1) 0 ∧ t 6 = .bool ((prns.take k).any fun y => prn == y) ∧ t 7 = .int .i64 (k : Nat) ∧ k ≤ prns.length ∧ j = prns.length - k) (j0 := prns.length)
   ⟨rfl, 0, rfl, rfl, rfl, rfl, by omega, rfl⟩ ?_
  rintro j t h1 ⟨rfl, k, e2, e3, e6, e7, hk, hj⟩
  refine zs4 @e2 @e7 @gp @R1.len ?_
  refine Br.by (fun d1 => ?_) (fun d1 => ?_)
  ·have hk' : k < prns.length := by omega
   have ld := R1.load hk'
   have asx := any_succ hk' (fun y => prn == y)
   have eb : (prn == prns.getD k 0) = decide (prns.getD k 0 = prn) := by
    rw [Bool.eq_iff_iff]; simp; exact ⟨fun q => q.symm, fun q => q.symm⟩
   rw [eb] at asx
   cases hb : (prns.take k).any (fun y => prn == y)
   ·rw [hb] at e6 asx
    refine zs9 @e2 @e3 @e6 @e7 @gp @ge @R1.idx @ld @gV_u ?_
    exact ⟨_, ⟨k + 1, by rw [asx]; simp, by simp, by omega, rfl⟩, by omega⟩
   ·rw [hb] at e6 asx
    refine zs9 @e2 @e3 @e6 @e7 @gp @ge @R1.idx @ld @gV_u ?_
    exact ⟨_, ⟨k + 1, by rw [asx]; simp, by simp, by omega, rfl⟩, by omega⟩
  ·have ek : k = prns.length := by omega
   rw [ek, a0] at e6
   cases b
   ·have g := g1 rfl
    refine zs1 @e6 ?_
    exact ⟨g.symm, t1⟩
   ·have g2 := g2 rfl
    have g3 := g3 rfl
    by_cases c2 : ((0 ≤ dl ∧ dl < sz) ∧ (-64 ≤ rt ∧ rt ≤ 64) ∧ (mn ≤ amp ∧ amp ≤ mx) ∧ (0 ≤ ba ∧ ba < pb))
    ·have n0 : ¬ dl < 0 := by omega
     have n1 : ¬ sz ≤ dl := by omega
     have n2 : ¬ rt < -64 := by omega
     have n3 : ¬ 64 < rt := by omega
     have n4 : ¬ amp < mn := by omega
     have n5 : ¬ mx < amp := by omega
     have n6 : ¬ ba < 0 := by omega
     have n7 : ¬ pb ≤ ba := by omega
     have g := g3 c2
     refine zs7 @e2 @e3 @e6 @gp @ge @gV_u @n0 ?_
     refine ACallsK.eq (kS _) ?_
     by_cases c3 : 10000 < bits.length
     ·rw [if_pos c3] at g
      simp -implicitDefEqProofs (disch := first | exact zd | fail) only [↓wpPre, wpPost, wpPoly, Int.reduceToNat, Int.reducePow, Int.reduceMul, Int.reduceAdd, Int.reduceSub, Int.reduceNeg, Nat.reduceAdd, Nat.reduceMul, Nat.reducePow, Int.reduceLT, Int.reduceLE, Int.reduceEq, Nat.reduceEqDiff, e2, e3, e6, gp, ge, gV_u, n1, n2, n3, n4, n5, n6, n7, B1.len, c3]
      exact ⟨g.symm, t1⟩
     ·rw [if_neg c3] at g
      simp -implicitDefEqProofs (disch := first | exact zd | fail) only [↓wpPre, wpPost, wpPoly, Int.reduceToNat, Int.reducePow, Int.reduceMul, Int.reduceAdd, Int.reduceSub, Int.reduceNeg, Nat.reduceAdd, Nat.reduceMul, Nat.reducePow, Int.reduceLT, Int.reduceLE, Int.reduceEq, Nat.reduceEqDiff, e2, e3, e6, gp, ge, gV_u, n1, n2, n3, n4, n5, n6, n7, B1.len, c3]
      refine wp_loopI (fun j t h' => h' = h1 ∧ ∃ k : Nat, (bits.take k).any (fun b => b != 0 && b != 1) = false ∧ t 3 = .ptr (h.size + 1) 0 ∧ t 8 = .int .i64 (k : Nat) ∧ k ≤ bits.length ∧ j = bits.length - k) (j0 := bits.length)
       ⟨rfl, 0, rfl, e3, rfl, by omega, rfl⟩ ?_
      rintro j t h2 ⟨rfl, k, hb, e3, e8, hk, hj⟩
      refine zs4 @e3 @e8 @ge @B1.len ?_
      refine Br.by (fun d2 => ?_) (fun d2 => ?_)
      ·have hk' : k < bits.length := by omega
       have ld := B1.load hk'
       have asx := any_succ hk' (fun b => b != 0 && b != 1)
       rw [hb, Bool.false_or] at asx
       have zz : ((bits.take (k + 1)).any fun b => b != 0 && b != 1) = true → z = true := fun q => by
        rw [← z0, List.any_eq_true]
        rw [List.any_eq_true] at q
        obtain ⟨x, hx, q⟩ := q
        exact ⟨x, by rw [List.take_length]; exact List.mem_of_mem_take hx, q⟩
       generalize bits.getD k 0 = x at *
       by_cases d3 : x = 0
       ·have asx : ((bits.take (k + 1)).any fun b => b != 0 && b != 1) = false := by rw [asx, d3]; rfl
        refine zs7 @e3 @e8 @ge @B1.idx @ld @d3 @gV_u ?_
        exact ⟨_, ⟨k + 1, asx, by simp, by omega, rfl⟩, by omega⟩
       ·by_cases d4 : x = 1
        ·have asx : ((bits.take (k + 1)).any fun b => b != 0 && b != 1) = false := by rw [asx, d4]; rfl
         have d5 : ¬ (1 : Int) = 0 := by decide
         refine zs8 @e3 @e8 @ge @B1.idx @ld @d4 @d5 @gV_u ?_
         exact ⟨_, ⟨k + 1, asx, by simp, by omega, rfl⟩, by omega⟩
        ·have zt := zz (by rw [asx]; simp [d3, d4])
         rw [if_pos zt] at g
         refine zs8 @e3 @e8 @ge @B1.idx @ld @d3 @d4 @gV_u ?_
         exact ⟨g.symm, t1⟩
      ·have ek : k = bits.length := by omega
       rw [ek, z0] at hb
       rw [if_neg (by rw [hb]; decide)] at g
       refine zs ?_
       exact ⟨g.symm, t1⟩
    ·have g := g2 c2
     by_cases c3 : dl < 0
     ·refine zs7 @e2 @e3 @e6 @gp @ge @gV_u @c3 ?_
      exact ⟨g.symm, t1⟩
     ·refine zs7 @e2 @e3 @e6 @gp @ge @gV_u @c3 ?_
      refine ACallsK.eq (kS _) ?_
      (repeat' (first | (refine Br.by (fun _ => ?_) (fun _ => ?_)) | (refine zs6 @e2 @e3 @e6 @gp @ge @gV_u ?_)))
      all_goals first
       | exact ⟨g.symm, t1⟩
       | (exfalso; omega)
 ·rw [if_neg c] at hE
  subst hE
  generalize p.err = E at *
  obtain ⟨d, o, pb, wo, mn, mx, nz, prns⟩ := p
  obtain ⟨prn, dl, rt, st, ph, amp, ba, bits⟩ := e
  dsimp only at *
  refine zf hC tab224 ?_; simp only [B224]; refine zs ?_
  refine ACallsK.eq (kc _ ((HSub.push1 _ _).push _)) ?_
  refine zs1 @c ?_
  exact ((HSub.push1 _ _).push _)
end
end Go.Ae
/- Absolute values, sums and bounds of lists. -/
set_option linter.unusedSimpArgs false
set_option linter.unusedVariables false
namespace Go.Ae
def absI (x : Int) : Int := max x (-x)
theorem absI_nonneg (x : Int) : 0 ≤ absI x := by unfold absI; omega
theorem absI_mul (x y : Int) : absI (x * y) = absI x * absI y := by
 unfold absI
 rcases Int.le_total 0 x with hx | hx <;> rcases Int.le_total 0 y with hy | hy
 ·have := Int.mul_nonneg hx hy
  rw [Int.max_eq_left (by omega), Int.max_eq_left (by omega), Int.max_eq_left (by omega)]
 ·have := Int.mul_nonpos_of_nonneg_of_nonpos hx hy
  rw [Int.max_eq_right (by omega), Int.max_eq_left (by omega), Int.max_eq_right (by omega), Int.mul_neg]
 ·have := Int.mul_nonpos_of_nonpos_of_nonneg hx hy
  rw [Int.max_eq_right (by omega), Int.max_eq_right (by omega), Int.max_eq_left (by omega), Int.neg_mul]
 ·have := Int.mul_nonneg_of_nonpos_of_nonpos hx hy
  rw [Int.max_eq_left (by omega), Int.max_eq_right (by omega), Int.max_eq_right (by omega), Int.neg_mul_neg]
end Go.Ae
/- Periods and bits, in plain numbers. -/
set_option linter.unusedSimpArgs false
set_option linter.unusedVariables false
namespace Go.Ae
theorem mul_bd {k s K S : Int} (hk : -K ≤ k ∧ k ≤ K) (hs : -S ≤ s ∧ s ≤ S) : -(K * S) ≤ k * s ∧ k * s ≤ K * S := by
 have h1 : absI (k * s) ≤ K * S := by
  rw [absI_mul]
  exact Int.mul_le_mul (by unfold absI; omega) (by unfold absI; omega) (absI_nonneg _) (by omega)
 unfold absI at h1
 omega
theorem tdiv_floor {k b : Int} (hb : 0 < b) : (if k.tmod b < 0 then k.tdiv b - 1 else k.tdiv b) = k / b := by
 rcases Int.le_total 0 k with c | c
 ·rw [if_neg (by have := Int.tmod_nonneg b c; omega), Int.tdiv_eq_ediv_of_nonneg c]
 ·obtain ⟨m, rfl⟩ : ∃ m, k = -m := ⟨-k, by omega⟩
  have hm : 0 ≤ m := by omega
  rw [Int.neg_tmod, Int.neg_tdiv, Int.tmod_eq_emod_of_nonneg hm, Int.tdiv_eq_ediv_of_nonneg hm]
  have h := Int.emod_add_mul_ediv m b
  have h1 := Int.emod_nonneg m (show b ≠ 0 by omega)
  have h2 := Int.emod_lt_of_pos m hb
  split
  ·symm
   rw [Int.ediv_eq_iff_of_pos hb]
   have e : (-(m / b) - 1) * b = -(b * (m / b)) - b := by grind
   have e2 : (-(m / b) - 1 + 1) * b = -(b * (m / b)) := by grind
   omega
  ·symm
   rw [Int.ediv_eq_iff_of_pos hb]
   have e : -(m / b) * b = -(b * (m / b)) := by grind
   have e2 : (-(m / b) + 1) * b = -(b * (m / b)) + b := by grind
   omega
theorem ref_mod {j n : Int} : j - n * (j / n) = j % n := by
 have := Int.emod_add_mul_ediv j n
 omega
theorem prns_ok (n : Int) : ∀ (xs seen : List Int), prnsErr n seen xs = 0 → ∀ x ∈ xs, 1 ≤ x ∧ x ≤ n + 2
 | [], _, _, x, hx => by simp at hx
 | y :: xs, seen, h, x, hx => by
  rw [prnsErr] at h
  split at h
  ·omega
  ·rename_i c
   split at h
   ·omega
   ·rcases List.mem_cons.1 hx with q | q
    ·rw [q]; exact Classical.not_not.1 c
    ·exact prns_ok n xs _ h x q
structure EmOk (p : PlanP) (e : EmitP) : Prop where
 pn : p.numsOk
 en : e.numsOk p
 code : codeErr p.d e.prn = 0
 bits : ∀ x ∈ e.bits, x = 0 ∨ x = 1
 prn : 1 ≤ e.prn ∧ e.prn ≤ lenN p.d + 2
 len : e.bits.length ≤ 10000
theorem emit_ok {p : PlanP} {e : EmitP} (h : emitErr p e = 0) : EmOk p e := by
 unfold emitErr at h
 by_cases c : p.err = 0
 ·rw [if_pos c] at h
  by_cases c2 : (p.prns.any fun y => e.prn == y) = true
  ·rw [if_pos c2] at h
   by_cases c3 : e.numsOk p
   ·rw [if_pos c3] at h
    by_cases c4 : 10000 < e.bits.length
    ·rw [if_pos c4] at h; omega
    ·rw [if_neg c4] at h
     by_cases c5 : e.bits.any (fun b => b != 0 && b != 1) = true
     ·rw [if_pos c5] at h; omega
     ·have pn := plan_ok c
      have pz : prnsErr (lenN p.d) [] p.prns = 0 := by
       unfold PlanP.err at c
       rw [if_pos pn] at c
       split at c
       ·omega
       ·split at c
        ·omega
        ·exact c
      have pr : 1 ≤ e.prn ∧ e.prn ≤ lenN p.d + 2 := by
       rw [List.any_eq_true] at c2
       obtain ⟨x, hx, q⟩ := c2
       rw [beq_iff_eq] at q
       rw [q]
       exact prns_ok _ _ _ pz x hx
      refine ⟨pn, c3, ?_, ?_, pr, by omega⟩
      ·unfold codeErr
       rw [if_pos ⟨pn.1, pr.1, pr.2⟩]
      ·intro x hx
       have c5 := Bool.eq_false_iff.2 c5
       rw [List.any_eq_false] at c5
       have := c5 x hx
       simp only [Bool.and_eq_true, bne_iff_ne, ne_eq, not_and, Classical.not_not] at this
       by_cases z : x = 0
       ·exact .inl z
       ·exact .inr (this z)
   ·rw [if_neg c3] at h; omega
  ·rw [if_neg c2] at h; omega
 ·rw [if_neg c] at h; omega
def EmitP.sta (e : EmitP) (p : PlanP) (k : Int) : Int := stI e.dl p.size e.rt k
def EmitP.pl (e : EmitP) (p : PlanP) (n : Int) : Int := plI e.dl p.size e.rt n
theorem EmOk.den {p : PlanP} {e : EmitP} (h : EmOk p e) : 0 < 1024 * p.size + e.rt := by
 have := size_range h.pn
 have := h.en.2.1
 omega
theorem EmOk.bit {p : PlanP} {e : EmitP} (h : EmOk p e) (k : Int) : bitI p e k = 0 ∨ bitI p e k = 1 := by
 unfold bitI
 split
 ·simp
 ·rename_i c
  have := Int.emod_lt_of_pos ((k - e.ba) / p.pb) (show (0 : Int) < e.bits.length by omega)
  have := Int.emod_nonneg ((k - e.ba) / p.pb) (show (e.bits.length : Int) ≠ 0 by omega)
  exact h.bits _ (getD_mem (by omega))
theorem EmOk.stb {p : PlanP} {e : EmitP} (h : EmOk p e) {k : Int} (hk : -20000000 ≤ k ∧ k ≤ 20000000) : -200000000000 ≤ e.sta p k ∧ e.sta p k ≤ 200000000000 ∧ (-163680000000 ≤ k * p.size ∧ k * p.size ≤ 163680000000) ∧ (-1280000000 ≤ k * e.rt ∧ k * e.rt ≤ 1280000000) := by
 have s := size_range h.pn
 have r := h.en.2.1
 have d := h.en.1
 have a := mul_bd (S := 8184) hk (show -8184 ≤ p.size ∧ p.size ≤ 8184 by omega)
 have b := mul_bd (S := 64) hk r
 unfold EmitP.sta stI
 omega
theorem EmOk.plb {p : PlanP} {e : EmitP} (h : EmOk p e) {n : Int} (hn : -10100000 ≤ n ∧ n ≤ 10100000) : -11000000 ≤ e.pl p n ∧ e.pl p n ≤ 11000000 := by
 have s := size_range h.pn
 have r := h.en.2.1
 have d := h.en.1
 unfold EmitP.pl plI
 generalize hD : 1024 * p.size + e.rt = D
 have hD2 : 1024 ≤ D := by omega
 generalize hM : 1024 * (n - e.dl + 1) - 1 = M
 have hM2 : -(1024 * 11000000) ≤ M ∧ M ≤ 1024 * 11000000 := by omega
 constructor
 ·rw [Int.le_ediv_iff_mul_le (by omega)]
  omega
 ·rw [← Int.lt_add_one_iff, Int.ediv_lt_iff_lt_mul (by omega)]
  omega
def chipI (p : PlanP) (e : EmitP) (i : Int) : Int := (codeL p.d e.prn).getD (min (i / p.o) ((lenN p.d : Int) - 1)).toNat 0
def atV (p : PlanP) (e : EmitP) (n : Int) : Int × Int :=
 ((e.amp * chipI p e (n - e.sta p (e.pl p n)) * (1 - 2 * bitI p e (e.pl p n))) * (carP (phI e.ph e.st (e.pl p n))).1, (e.amp * chipI p e (n - e.sta p (e.pl p n)) * (1 - 2 * bitI p e (e.pl p n))) * (carP (phI e.ph e.st (e.pl p n))).2)
end Go.Ae
/- Periods and bits: the program and the reference. -/
set_option linter.unusedSimpArgs false
set_option linter.unusedVariables false
namespace Go.Ae
def emA (e : EmitP) (vb : AV) : AV := .agg [.int .i64 e.prn, .int .i64 e.dl, .int .i64 e.rt, .int .u32 e.st, .int .u32 e.ph, .int .i64 e.amp, .int .i64 e.ba, vb]
section
variable {C : Ctx}
theorem floor258_spec (hC : Has C T258) {a b : Int} {h : Heap} (ha : In64 a) (hb : 0 < b ∧ b ≤ 1000000) : ACalls C 258 [.int .i64 a, .int .i64 b] h (fun r h' => r = .int .i64 (a / b) ∧ h' = h) := by
 have e := tdiv_floor (k := a) hb.1
 unfold In64 at ha
 have q1 : a.tdiv b = if a.tmod b < 0 then a / b + 1 else a / b := by split at e <;> rename_i c <;> simp only [c, if_true, if_false] <;> omega
 have r1 : -9223372036854775808 ≤ a / b ∧ a / b ≤ 9223372036854775807 := by
  constructor
  ·rw [Int.le_ediv_iff_mul_le hb.1]
   have : (1 : Int) ≤ b := hb.1
   omega
  ·rw [← Int.lt_add_one_iff, Int.ediv_lt_iff_lt_mul hb.1]
   have : (1 : Int) ≤ b := hb.1
   omega
 by_cases c : a.tmod b < 0
 ·rw [if_pos c] at q1
  have r2 : a / b + 1 ≤ 9223372036854775807 := by
   have c0 : ¬ 0 ≤ a := fun q => by have := Int.tmod_nonneg b q; omega
   have := Int.ediv_neg_of_neg_of_pos (show a < 0 by omega) hb.1
   omega
  refine zf hC tab258 ?_; simp only [B258]; refine zs2 @c @q1 ?_
  omega
 ·rw [if_neg c] at q1
  refine zf hC tab258 ?_; simp only [B258]; exact ze2 @c @q1
set_option maxRecDepth 20000 in
theorem start241_spec (hC : Has C T241) {p : PlanP} {e : EmitP} {vp vb : AV} {k : Int} {h : Heap} (ok : EmOk p e) (v1 : vp.one = true) (b1 : vb.one = true) (hk : -20000000 ≤ k ∧ k ≤ 20000000) :
  ACalls C 241 [plA p vp, emA e vb, .int .i64 k] h (fun r h' => r = .int .i64 (e.sta p k) ∧ h' = h) := by
 refine ACalls.gc0 (P := fun r h' => r = .int .i64 (e.sta p k) ∧ HSub h h') ?_ (fun r h' hp => ⟨by rw [hp.1]; trivial, hp.2, hp.1, rfl⟩)
 have sz := fun h => size244_spec (zu hC T244) (vp := vp) (h := h) ok.pn v1
 have sb := ok.stb hk
 have d := ok.en.1
 have s := size_range ok.pn
 have fl := fun h => floor258_spec (zu hC T258) (a := k * e.rt) (b := 1024) (h := h) (by unfold In64; omega) (by omega)
 unfold EmitP.sta stI at sb ⊢
 unfold plA at sz ⊢
 unfold emA
 generalize p.size = z at *
 obtain ⟨pd, o, pb, w, mn, mx, nz, prns⟩ := p
 obtain ⟨prn, dl, rt, st, ph, amp, ba, bits⟩ := e
 dsimp only at *
 refine zf hC tab241 ?_; simp only [B241]; refine zs ?_
 refine ACallsK.eq (sz _) ?_
 refine zs ?_
 refine ACallsK.eq (fl _) ?_
 refine zs ?_
 exact (HSub.push1 _ _).push _
theorem st_gt {p : PlanP} {e : EmitP} (ok : EmOk p e) {n k : Int} : e.sta p k ≤ n ↔ k ≤ e.pl p n := st_le ok.den
set_option maxHeartbeats 1000000 in
set_option maxRecDepth 20000 in
theorem place246_spec (hC : Has C T246) {p : PlanP} {e : EmitP} {vp vb : AV} {n : Int} {h : Heap} (ok : EmOk p e) (v1 : vp.one = true) (b1 : vb.one = true) (hn : -10100000 ≤ n ∧ n ≤ 10100000) :
  ACalls C 246 [plA p vp, emA e vb, .int .i64 n] h (fun r h' => r = .int .i64 (e.pl p n) ∧ h' = h) := by
 refine ACalls.gc0 (P := fun r h' => r = .int .i64 (e.pl p n) ∧ HSub h h') ?_ (fun r h' hp => ⟨by rw [hp.1]; trivial, hp.2, hp.1, rfl⟩)
 have sz := fun h => size244_spec (zu hC T244) (vp := vp) (h := h) ok.pn v1
 have ks := fun (k : Int) (hk : -20000000 ≤ k ∧ k ≤ 20000000) h => start241_spec (zu hC T241) (k := k) (h := h) ok v1 b1 hk
 have gt := fun (k : Int) => st_gt ok (n := n) (k := k)
 have pb := ok.plb hn
 have d := ok.en.1
 have s := size_range ok.pn
 have fl := fun h => floor258_spec (zu hC T258) (a := n - e.dl) (b := p.size) (h := h) (by unfold In64; omega) (by omega)
 have td : -11000000 ≤ (n - e.dl) / p.size ∧ (n - e.dl) / p.size ≤ 11000000 := by
  constructor
  ·rw [Int.le_ediv_iff_mul_le (by omega)]
   omega
  ·rw [← Int.lt_add_one_iff, Int.ediv_lt_iff_lt_mul (by omega)]
   omega
 unfold plA at sz ks ⊢
 unfold emA at ks ⊢
 generalize e.pl p n = K at *
 generalize hSt : e.sta p = St at *
 generalize p.size = z at *
 obtain ⟨pd, o, pb, w, mn, mx, nz, prns⟩ := p
 obtain ⟨prn, dl, rt, st, ph, amp, ba, bits⟩ := e
 dsimp only at *
 refine zf hC tab246 ?_; simp only [B246]; refine zs ?_
 refine ACallsK.eq (sz _) ?_
 refine zs ?_
 refine ACallsK.eq (fl _) ?_
 refine zs ?_
 refine wp_loopI (fun j t h' => h' = (h.push (.cells [.int .i64 pd, .int .i64 o, .int .i64 pb, .int .i64 w, .int .i64 mn, .int .i64 mx, .int .i64 nz, vp] true 0)).push (.cells [.int .i64 prn, .int .i64 dl, .int .i64 rt, .int .u32 st, .int .u32 ph, .int .i64 amp, .int .i64 ba, vb] true 0) ∧ ∃ k : Int, t 2 = .int .i64 n ∧ t 3 = .ptr h.size 0 ∧ t 4 = .ptr (h.size + 1) 0 ∧ t 7 = .int .i64 k ∧ -11000000 ≤ k ∧ k ≤ 11000002 ∧ j = (k - K).toNat) (j0 := ((n - dl) / z - K).toNat)
  ⟨rfl, _, rfl, rfl, rfl, rfl, by omega, by omega, rfl⟩ ?_
 rintro j t h1 ⟨hh, k, e2, e3, e4, ek, k1, k2, hj⟩
 have gp : h1.get h.size = some (.cells [.int .i64 pd, .int .i64 o, .int .i64 pb, .int .i64 w, .int .i64 mn, .int .i64 mx, .int .i64 nz, vp] true 0) := by rw [hh]; exact ze
 have ge : h1.get (h.size + 1) = some (.cells [.int .i64 prn, .int .i64 dl, .int .i64 rt, .int .u32 st, .int .u32 ph, .int .i64 amp, .int .i64 ba, vb] true 0) := by rw [hh]; exact ze
 have s1 : HSub h h1 := by rw [hh]; exact (HSub.push1 _ _).push _
 have g := gt k
 refine zs6 @e2 @e3 @e4 @ek @gp @ge ?_
 refine ACallsK.eq (ks k (by omega) _) ?_
 refine zs3 @e2 @e3 @e4 ?_
 refine Br.by (fun c => ?_) (fun c => ?_)
 ·have kK : K < k := by
   rcases Int.lt_or_le K k with q | q
   ·exact q
   ·have := g.2 q; omega
  refine zs5 @e2 @e3 @e4 @ek @hh ?_
  exact ⟨_, ⟨by omega, by omega, rfl⟩, by omega⟩
 ·have kK : k ≤ K := g.1 (by omega)
  refine zs ?_
  refine wp_loopI (fun j t h' => h' = h1 ∧ ∃ k : Int, t 2 = .int .i64 n ∧ t 3 = .ptr h.size 0 ∧ t 4 = .ptr (h.size + 1) 0 ∧ t 7 = .int .i64 k ∧ -11000000 ≤ k ∧ k ≤ K ∧ j = (K - k).toNat) (j0 := (K - k).toNat)
   ⟨rfl, k, e2, e3, e4, ek, k1, kK, rfl⟩ ?_
  rintro j t h2 ⟨rfl, k, e2, e3, e4, ek, k3, k4, hj⟩
  have g := gt (k + 1)
  refine zs6 @e2 @e3 @e4 @ek @gp @ge ?_
  refine ACallsK.eq (ks (k + 1) (by omega) _) ?_
  refine zs3 @e2 @e3 @e4 ?_
  refine Br.by (fun c => ?_) (fun c => ?_)
  ·have kK : k + 1 ≤ K := g.1 c
   refine zs4 @e2 @e3 @e4 @ek ?_
   exact ⟨_, ⟨by omega, by omega, rfl⟩, by omega⟩
  ·have kK : k = K := by
    rcases Int.lt_or_le k K with q | q
    ·have := g.2 (by omega); omega
    ·omega
   refine zs2 @ek @kK ?_
   exact s1
end
end Go.Ae
/- The carrier's functions, waves, mixes. -/
set_option linter.unusedSimpArgs false
set_option linter.unusedVariables false
namespace Go.Ae
section
variable {C : Ctx}
theorem entryR_runs : (List.range 64).all (fun k => runsAs (tabIn T141) 1000 60 141 [.int .i64 (k : Nat)] (smp (carr k))) = true := by kernel_rfl
theorem entryR_spec (hC : Has C T141) {k : Nat} {h : Heap} (hk : k < 64) : ACalls C 141 [.int .i64 (k : Nat)] h (fun r h' => r = smp (carr k) ∧ h' = h) :=
 runsAs_sound (tabIn_ok hC) (by simp [AV.free, AV.bel]) (smp_free _) (List.all_eq_true.1 entryR_runs k (by simpa using hk)) h
theorem CarrierR_spec (hC : Has C T130) {ph : Int} {h : Heap} (hp : U32 ph) : ACalls C 130 [.int .u32 ph] h (fun r h' => r = smp (carP ph) ∧ h' = h) := by
 refine ACalls.gc0 (P := fun r h' => r = smp (carP ph) ∧ HSub h h') ?_ (fun r h' hp => ⟨by rw [hp.1]; exact smp_free _, hp.2, hp.1, rfl⟩)
 unfold U32 at hp
 unfold carP
 obtain ⟨k, hk⟩ := Int.eq_ofNat_of_zero_le (show 0 ≤ ph / 67108864 by omega)
 rw [hk, Int.toNat_natCast]
 have hk' : k < 64 := by omega
 refine zf hC tab130 ?_; simp only [B130]; refine zs1 @hk ?_
 refine ACallsK.eq (entryR_spec (zu hC T141) hk') ?_
 refine zs1 @smp.eq_1 ?_
 exact HSub.push1 _ _
/-! ### Waves -/
end
end Go.Ae
/- Bits, chips and levels: the program and the reference. -/
set_option linter.unusedSimpArgs false
set_option linter.unusedVariables false
namespace Go.Ae
theorem ediv_bd {a b : Int} (hb : 1 ≤ b) {A : Int} (ha : -A ≤ a ∧ a ≤ A) : -A ≤ a / b ∧ a / b ≤ A := by
 have hA : 0 ≤ A := by omega
 constructor
 ·rw [Int.le_ediv_iff_mul_le (by omega)]
  have : A * 1 ≤ A * b := Int.mul_le_mul_of_nonneg_left hb hA
  have e : -A * b = -(A * b) := by grind
  omega
 ·rw [← Int.lt_add_one_iff, Int.ediv_lt_iff_lt_mul (by omega)]
  have : (A + 1) * 1 ≤ (A + 1) * b := Int.mul_le_mul_of_nonneg_left hb (by omega)
  omega
section
variable {C : Ctx}
set_option maxHeartbeats 1000000 in
set_option maxRecDepth 20000 in
theorem bit248_spec (hC : Has C T248) {p : PlanP} {e : EmitP} {vp vb : AV} {k : Int} {h : Heap} (ok : EmOk p e) (B : RI h vb e.bits) (v1 : vp.one = true) (hk : -20000000 ≤ k ∧ k ≤ 20000000) :
  ACalls C 248 [plA p vp, emA e vb, .int .i64 k] h (fun r h' => r = .int .i64 (bitI p e k) ∧ h' = h) := by
 refine ACalls.gc0 (P := fun r h' => r = .int .i64 (bitI p e k) ∧ HSub h h') ?_ (fun r h' hp => ⟨by rw [hp.1]; trivial, hp.2, hp.1, rfl⟩)
 have b1 := B.one
 have blt := B.lt
 have bl := ok.len
 have ba' := ok.en.2.2.2
 have pb' := ok.pn.2.2.1
 have hB : bitI p e k = if e.bits.length = 0 then 0 else e.bits.getD (((k - e.ba) / p.pb) % e.bits.length).toNat 0 := rfl
 have Bm := fun b c => B.mono ((HSub.push1 h b).push c)
 generalize bitI p e k = X at *
 unfold plA emA
 obtain ⟨pd, o, pb, w, mn, mx, nz, prns⟩ := p
 obtain ⟨prn, dl, rt, st, ph, amp, ba, bits⟩ := e
 dsimp only at *
 by_cases c : bits.length = 0
 ·rw [if_pos c] at hB
  subst hB
  refine zf hC tab248 ?_; simp only [B248]; refine zs2 @B.len @c ?_
  exact (HSub.push1 _ _).push _
 ·rw [if_neg c] at hB
  have q3 := ediv_bd (a := k - ba) (b := pb) (A := 20000020) (by omega) (by omega)
  have f1 := fun h => floor258_spec (zu hC T258) (a := k - ba) (b := pb) (h := h) (by unfold In64; omega) (by omega)
  generalize (k - ba) / pb = J at *
  have f2 := fun h => floor258_spec (zu hC T258) (a := J) (b := (bits.length : Nat)) (h := h) (by unfold In64; omega) (by omega)
  have rm := ref_mod (j := J) (n := (bits.length : Int))
  have m1 := Int.emod_nonneg J (show (bits.length : Int) ≠ 0 by omega)
  have m2 := Int.emod_lt_of_pos J (show (0 : Int) < bits.length by omega)
  obtain ⟨m, hm⟩ : ∃ m : Nat, J % (bits.length : Int) = (m : Int) := ⟨(J % (bits.length : Int)).toNat, by omega⟩
  rw [hm] at rm m1 m2 hB
  rw [Int.toNat_natCast] at hB
  have ld := fun b c => (Bm b c).load (k := m) (by omega)
  have ix := B.idx (kk := .i64) (k := (m : Int)) ⟨by omega, by omega⟩
  rw [Int.toNat_natCast] at ix
  rw [← hB] at ld
  have nb : ¬ (bits.length : Int) = 0 := by omega
  have pq : (bits.length : Int) * (J / (bits.length : Int)) = J - m := by omega
  refine zf hC tab248 ?_; simp only [B248]; refine zs2 @B.len @nb ?_
  refine ACallsK.eq (f1 _) ?_
  refine zs ?_
  refine ACallsK.eq (f2 _) ?_
  have jm : J - (J - (m : Int)) = m := by omega
  refine zs4 @pq @jm @ix @ld ?_
  exact (HSub.push1 _ _).push _
end
end Go.Ae
/- The codes of the reference; sums. -/
set_option linter.unusedSimpArgs false
set_option linter.unusedVariables false
namespace Go.Ae
def codeK (d p : Int) (k : Nat) : List Int := (codeL d p).take k ++ List.replicate (lenN d - k) 0
theorem codeK_length {d p : Int} {k : Nat} (h : k ≤ lenN d) : (codeK d p k).length = lenN d := by simp [codeK, codeL_length]; omega
theorem codeL_get {d p : Int} {k : Nat} (h : k < lenN d) : (codeL d p).getD k 0 = 1 - 2 * codeB d p k := by simp [codeL, bitC, h]
theorem codeK_set {d p : Int} {k : Nat} (h : k < lenN d) : (codeK d p k).set k (1 - 2 * codeB d p k) = codeK d p (k + 1) := by
 unfold codeK
 have cl := codeL_length d p
 have hl : ((codeL d p).take k).length = k := by simp [cl]; omega
 rw [List.set_append_right _ _ (by omega), hl, Nat.sub_self, show lenN d - k = lenN d - (k + 1) + 1 by omega, List.replicate_succ, List.set_cons_zero, take_succ_getD (by omega), codeL_get h, List.append_assoc]
 rfl
theorem codeK_full (d p : Int) : codeK d p (lenN d) = codeL d p := by
 have cl := codeL_length d p
 simp [codeK, ← cl]
theorem codeL_range {d p : Int} : ∀ x ∈ codeL d p, -1 ≤ x ∧ x ≤ 1 := by
 intro x hx
 obtain ⟨b, hb, rfl⟩ := List.mem_map.1 hx
 obtain ⟨i, _, rfl⟩ := List.mem_map.1 hb
 have := codeB_01 d p i
 omega
section
variable {C : Ctx}
set_option maxRecDepth 100000 in
set_option maxHeartbeats 2000000 in
theorem Code08_new (hC : Has C T77) {d p : Int} {h : Heap} (hd : In64 d) (hp : In64 p) : ACalls C 77 [.int .i64 d, .int .i64 p] h (fun r h' => ∃ v, r = lstErr v (codeErr d p) ∧ HSub h h' ∧ RI h' v (if codeErr d p = 0 then codeL d p else []) ∧ ∀ i ∈ v.ids, h.size ≤ i) := by
 have hp' := hp
 unfold In64 at hp'
 have pe : codeErr d p = if lenOk d = true ∧ 1 ≤ p ∧ p ≤ lenN d + 2 then 0 else 2 := rfl
 by_cases c : lenOk d = true
 ·have hl := lenN_eq c
  have eL : lenE d = tup2 (lenN d) 0 := by unfold lenE; rw [if_pos c]
  by_cases cp : 1 ≤ p ∧ p ≤ lenN d + 2
  ·rw [if_pos ⟨c, cp⟩] at pe
   rw [pe]
   have t1 : tapsErr d 1 = 0 := by unfold tapsErr; rw [if_pos ⟨c, .inl rfl⟩]
   have t2 : tapsErr d 2 = 0 := by unfold tapsErr; rw [if_pos ⟨c, .inr rfl⟩]
   have lb1 := bitsL_length d 1
   have lb2 := bitsL_length d 2
   have hB : ∀ {w : Int} {h : Heap}, tapsErr d w = 0 → In64 w → ACalls C 75 [.int .i64 d, .int .i64 w] h (fun r h' => ∃ v, r = lstErr v 0 ∧ HSub h h' ∧ RI h' v (bitsL d w)) := by
    intro w h e hw
    refine (Bits08_spec (zu hC T75) hd hw).mono ?_
    rintro r h' ⟨v, h1, h2, h3⟩
    rw [e, if_pos rfl] at h3
    exact ⟨v, by rw [h1, e], h2, h3⟩
   refine zf hC tab77 ?_; simp only [B77]; refine zs ?_
   refine ACallsK.eq2 (Length08_spec (zu hC T71) hd) eL ?_
   refine zs1 @tup2.eq_1 ?_
   refine ACallsK.of (hB t1 (by unfold In64; omega)) ?_
   rintro r h1 ⟨v1, rfl, s1, R1⟩
   refine zs1 @lstErr.eq_1 ?_
   refine ACallsK.of (hB t2 (by unfold In64; omega)) ?_
   rintro r h2 ⟨v2, rfl, s2, R2⟩
   have R1 := R1.mono s2
   have s12 := s1.trans s2
   refine zs2 @lstErr.eq_1 @ints_replicate ?_
   refine wp_loopI (fun j t h' => ∃ k : Nat, h' = h2.push (.cells (ints (codeK d p k)) true 0) ∧ t 1 = .int .i64 p ∧ t 6 = .int .i64 (lenN d) ∧ t 8 = v1 ∧ t 10 = v2 ∧ t 12 = .slice h2.size 0 (lenN d) (.known (lenN d)) ∧ t 13 = .int .i64 (k : Nat) ∧ k ≤ lenN d ∧ j = lenN d - k) (j0 := lenN d)
    ⟨0, by simp [codeK], rfl, rfl, rfl, rfl, rfl, rfl, by omega, rfl⟩ ?_
   rintro j t h3 ⟨k, rfl, e1, e6, e8, e10, e12, e13, hk, hj⟩
   have lK := codeK_length (p := p) hk
   refine zs2 @e6 @e13 ?_
   refine Br.by (fun c1 => ?_) (fun c1 => ?_)
   ·have hk' : k < lenN d := by omega
    have b1 := bit01_getD (bitsL_01 (d := d) (w := 1)) k
    have b2 := bit01_getD (bitsL_01 (d := d) (w := 2)) k
    have b12 := codeB_01 d p k
    have hst := codeK_set (p := p) hk'
    by_cases p1 : p = 1
    ·have hcb : codeB d p k = (bitsL d 1).getD k 0 := by unfold codeB; rw [if_pos p1]
     rw [hcb] at hst
     refine zs9 @e1 @e6 @e8 @e10 @e12 @e13 @R1.idx @R1.loadC @hst ?_
     exact ⟨_, ⟨k + 1, rfl, by simp, by omega, rfl⟩, by omega⟩
    by_cases p2 : p = 2
    ·have hcb : codeB d p k = (bitsL d 2).getD k 0 := by unfold codeB; rw [if_neg p1, if_pos p2]
     rw [hcb] at hst
     refine zs9 @e1 @e6 @e8 @e10 @e12 @e13 @R2.idx @R2.loadC @hst ?_
     exact ⟨_, ⟨k + 1, rfl, by simp, by omega, rfl⟩, by omega⟩
    have em : ((k : Int) + p - 3) % (lenN d : Int) = (((k + (p - 3).toNat) % lenN d : Nat) : Int) := by
     rw [show (k : Int) + p - 3 = ((k + (p - 3).toNat : Nat) : Int) by omega]; exact (Int.natCast_emod _ _).symm
    have hm : (k + (p - 3).toNat) % lenN d < lenN d := Nat.mod_lt _ (by omega)
    have ex := xor01 b1 (bit01_getD (bitsL_01 (d := d) (w := 2)) ((k + (p - 3).toNat) % lenN d))
    have hcb : codeB d p k = ((bitsL d 1).getD k 0 + (bitsL d 2).getD ((k + (p - 3).toNat) % lenN d) 0) % 2 := by unfold codeB; rw [if_neg p1, if_neg p2]
    rw [← hcb] at ex
    simp -implicitDefEqProofs (disch := first | exact zd | fail) only [↓wpPre, wpPost, wpPoly, Int.reduceToNat, Int.reducePow, Int.reduceMul, Int.reduceAdd, Int.reduceSub, Int.reduceNeg, Nat.reduceAdd, Nat.reduceMul, Nat.reducePow, Int.reduceLT, Int.reduceLE, Int.reduceEq, Nat.reduceEqDiff, e1, e6, e8, e10, e12, e13, R1.idx, R1.loadC, R2.idx, R2.loadC, em, ex, hst]
    exact ⟨_, ⟨k + 1, rfl, by simp, by omega, rfl⟩, by omega⟩
   ·have ek : k = lenN d := by omega
    have cl := codeL_length d p
    have hcf : codeK d p k = codeL d p := by rw [ek, codeK_full]
    refine zs1 @e12 ?_
    exact ⟨_, rfl, s12.push _, by rw [if_pos trivial, ← hcf]; exact RI.known (get_push_eq rfl) ⟨by rw [lK], by omega⟩ (by omega), fun i hi => by simp only [AV.ids, List.mem_singleton] at hi; have := s12.size; omega⟩
  ·have cp' : ¬ (lenOk d = true ∧ 1 ≤ p ∧ p ≤ lenN d + 2) := fun h => cp h.2
   rw [if_neg cp'] at pe
   rw [pe]
   refine zf hC tab77 ?_; simp only [B77]; refine zs ?_
   refine ACallsK.eq2 (Length08_spec (zu hC T71) hd) eL ?_
   refine zs1 @tup2.eq_1 ?_
   (repeat' (first | (refine Br.by (fun _ => ?_) (fun _ => ?_)) | (refine zs ?_)))
   all_goals first | exact ⟨.nilslice, by rw [lstErr], HSub.refl _, by rw [if_neg id]; exact RI.nil, by simp [AV.ids]⟩ | omega
 ·have eL : lenE d = tup2 0 2 := by unfold lenE; rw [if_neg c]
  have cp' : ¬ (lenOk d = true ∧ 1 ≤ p ∧ p ≤ lenN d + 2) := fun h => c h.1
  rw [if_neg cp'] at pe
  rw [pe]
  refine zf hC tab77 ?_; simp only [B77]; refine zs ?_
  refine ACallsK.eq2 (Length08_spec (zu hC T71) hd) eL ?_
  refine zs1 @tup2.eq_1 ?_
  exact ⟨.nilslice, by rw [lstErr], HSub.refl _, by rw [if_neg id]; exact RI.nil, by simp [AV.ids]⟩
theorem Code08_spec (hC : Has C T77) {d p : Int} {h : Heap} (hd : In64 d) (hp : In64 p) : ACalls C 77 [.int .i64 d, .int .i64 p] h (fun r h' => ∃ v, r = lstErr v (codeErr d p) ∧ HSub h h' ∧ RI h' v (if codeErr d p = 0 then codeL d p else [])) :=
 (Code08_new hC hd hp).mono fun r h' ⟨v, a, b, c, _⟩ => ⟨v, a, b, c⟩
end
end Go.Ae
/- Samples of codes, of the program. -/
set_option linter.unusedSimpArgs false
set_option linter.unusedVariables false
namespace Go.Ae
def knownErr (d o : Int) : Int := if lenOk d = true ∧ 1 ≤ o ∧ o ≤ 8 then 0 else 2
def sampL (d p : Int) (o : Nat) : List Int := ((codeL d p).map fun x => List.replicate o x).flatten
def sampP (d p : Int) (o k : Nat) : List Int := (((codeL d p).take k).map fun x => List.replicate o x).flatten
theorem sampP_succ {d p : Int} {o k : Nat} (h : k < (codeL d p).length) : sampP d p o (k + 1) = sampP d p o k ++ List.replicate o ((codeL d p).getD k 0) := by
 unfold sampP; rw [take_succ_getD h]; simp
theorem sampP_length {d p : Int} {o : Nat} : ∀ k, k ≤ (codeL d p).length → (sampP d p o k).length = k * o
 | 0, _ => by simp [sampP]
 | k + 1, h => by rw [sampP_succ (by omega), List.length_append, sampP_length k (by omega), List.length_replicate, Nat.add_mul, Nat.one_mul]
theorem sampP_full (d p : Int) (o : Nat) : sampP d p o (codeL d p).length = sampL d p o := by unfold sampP sampL; rw [List.take_length]
section
variable {C : Ctx}
theorem known09_spec (hC : Has C T150) {d o : Int} {h : Heap} (hd : In64 d) (ho : In64 o) : ACalls C 150 [.int .i64 d, .int .i64 o] h (fun r h' => r = .int .i64 (knownErr d o) ∧ h' = h) := by
 unfold In64 at ho
 by_cases c : lenOk d = true
 ·have e : lenE d = tup2 (lenN d) 0 := by unfold lenE; rw [if_pos c]
  by_cases co : 1 ≤ o ∧ o ≤ 8
  ·have pe : knownErr d o = 0 := by unfold knownErr; rw [if_pos ⟨c, co⟩]
   rw [pe]
   refine zf hC tab150 ?_; simp only [B150]; refine zs ?_
   refine ACallsK.eq2 (Length_spec (zu hC T70) hd) e ?_
   exact ze1 @tup2.eq_1
  ·have pe : knownErr d o = 2 := by unfold knownErr; rw [if_neg (fun h => co h.2)]
   rw [pe]
   refine zf hC tab150 ?_; simp only [B150]; refine zs ?_
   refine ACallsK.eq2 (Length_spec (zu hC T70) hd) e ?_
   refine zs1 @tup2.eq_1 ?_
   (repeat' (first | (refine Br.by (fun _ => ?_) (fun _ => ?_)) | (exact ze)))
   all_goals omega
 ·have e : lenE d = tup2 0 2 := by unfold lenE; rw [if_neg c]
  have pe : knownErr d o = 2 := by unfold knownErr; rw [if_neg (fun h => c h.1)]
  rw [pe]
  refine zf hC tab150 ?_; simp only [B150]; refine zs ?_
  refine ACallsK.eq2 (Length_spec (zu hC T70) hd) e ?_
  exact ze1 @tup2.eq_1
end
end Go.Ae
/- Two lists that grow side by side. -/
set_option linter.unusedSimpArgs false
set_option linter.unusedVariables false
namespace Go.Ae
def Dj (v w : AV) : Prop := ∀ i, i ∈ v.ids → i ∉ w.ids
theorem Dj.nilL {w : AV} : Dj .nilslice w := fun i hi => by simp [AV.ids] at hi
theorem Dj.nilR {v : AV} : Dj v .nilslice := fun i _ => by simp [AV.ids]
theorem Dj.symm {v w : AV} (h : Dj v w) : Dj w v := fun i hi hv => h i hv hi
section
variable {h0 h H : Heap} {sz sz' n m k k' : Nat} {v w : AV} {cs ds es : List AV} {c : Cap} {x : Int} {l l' : List Int}
theorem Grw.dj (B : Grw h0 h sz w n ds) (hk : h.size ≤ k) : Dj w (.slice k 0 k' c) := by
 obtain ⟨_, _, _, ⟨rfl, rfl⟩ | ⟨i, ex, hi, rfl, hg⟩⟩ := B
 ·exact Dj.nilL
 ·intro j hj
  have := Heap.lt_of_get hg
  simp only [AV.ids, List.mem_singleton] at hj ⊢
  omega
theorem Grw.keep (A : Grw h0 h sz' v m es) (B : Grw h0 h sz w n ds) (hs : HSub h H) (hd : Dj w v) : Grw h0 (snocH H none v sz' cs) sz w n ds := by
 have hsub : HSub h0 (snocH H none v sz' cs) := by
  obtain ⟨h1, _, _, ⟨rfl, rfl⟩ | ⟨i, ex, hi, rfl, hg⟩⟩ := A
  ·exact (h1.trans hs).push _
  ·exact ((h1.trans hs).put hi _).push _
 obtain ⟨h1, hl, hn, ⟨rfl, rfl⟩ | ⟨i, ex, hi, rfl, hg⟩⟩ := B
 ·exact ⟨hsub, hl, hn, .inl ⟨rfl, rfl⟩⟩
 ·refine ⟨hsub, hl, hn, .inr ⟨i, ex, hi, rfl, ?_⟩⟩
  have hlt := Heap.lt_of_get hg
  have hsz := hs.size
  have hH := (hs.get i hlt).trans hg
  obtain ⟨_, _, _, ⟨rfl, rfl⟩ | ⟨j, ex', hj, rfl, hg'⟩⟩ := A
  ·exact (get_push_lt (by omega)).trans hH
  ·have hne : i ≠ j := fun e => hd i (by simp [AV.ids]) (by simp [AV.ids, e])
   exact (get_push_lt (by simp only [Heap.size_put]; omega)).trans ((get_put_ne hne).trans hH)
theorem Grw.keepS (A : Grw h0 h sz' v m es) (B : Grw h0 h sz w n ds) (hs : HSub h H) (hk : h.size ≤ k ∧ k < H.size) (hd : Dj w v) : Grw h0 (snocH H (some k) v sz' cs) sz w n ds := by
 have hsub : HSub h0 (snocH H (some k) v sz' cs) := by
  have := A.sub.size
  obtain ⟨h1, _, _, ⟨rfl, rfl⟩ | ⟨i, ex, hi, rfl, hg⟩⟩ := A
  ·exact (h1.trans hs).put (by omega) _
  ·exact ((h1.trans hs).put hi _).put (by omega) _
 obtain ⟨h1, hl, hn, ⟨rfl, rfl⟩ | ⟨i, ex, hi, rfl, hg⟩⟩ := B
 ·exact ⟨hsub, hl, hn, .inl ⟨rfl, rfl⟩⟩
 ·refine ⟨hsub, hl, hn, .inr ⟨i, ex, hi, rfl, ?_⟩⟩
  have hlt := Heap.lt_of_get hg
  have hH := (hs.get i hlt).trans hg
  obtain ⟨_, _, _, ⟨rfl, rfl⟩ | ⟨j, ex', hj, rfl, hg'⟩⟩ := A
  ·exact (get_put_ne (by omega)).trans hH
  ·have hne : i ≠ j := fun e => hd i (by simp [AV.ids]) (by simp [AV.ids, e])
   exact (get_put_ne (by omega)).trans ((get_put_ne hne).trans hH)
theorem GrwI.keep (A : GrwI h0 h v l) (B : GrwI h0 h w l') (hs : HSub h H) (hd : Dj w v) : GrwI h0 (snocH H none v 1 (ints (l ++ [x]))) w l' := Grw.keep A B hs hd
theorem GrwI.keepS (A : GrwI h0 h v l) (B : GrwI h0 h w l') (hs : HSub h H) (hk : h.size ≤ k ∧ k < H.size) (hd : Dj w v) : GrwI h0 (snocH H (some k) v 1 (ints (l ++ [x]))) w l' := Grw.keepS A B hs hk hd
theorem GrwI.dj (B : GrwI h0 h w l) (hk : h.size ≤ k) : Dj w (.slice k 0 k' c) := Grw.dj B hk
end
end Go.Ae
/- Lists that grow in a region that draws its order, several at once. -/
set_option linter.unusedSimpArgs false
set_option linter.unusedVariables false
namespace Go.Ae
section
variable {h0 h H : Heap} {sz bytes n m k j x y : Nat} {v : AV} {cs news : List AV} {l : List (Int × Int)} {li : List Int}
theorem Grw.ids_lt (A : Grw h0 h sz v n cs) : ∀ i ∈ v.ids, h0.size ≤ i ∧ i < h.size := by
 obtain ⟨_, _, _, ⟨rfl, rfl⟩ | ⟨i, ex, hi, rfl, hg⟩⟩ := A
 ·intro i hi; simp [AV.ids] at hi
 ·intro j hj
  simp only [AV.ids, List.mem_singleton] at hj
  subst hj
  exact ⟨hi, Heap.lt_of_get hg⟩
theorem Grw.appG (A : Grw h0 h sz v n cs) (hg : ∀ i ∈ v.ids, H.get i = h.get i) (hk : h.size ≤ k ∧ k < H.size) (hm : m ≠ 0) (hb : (n + m) * bytes ≤ 1099511627776) (h1 : news.all AV.one = true) :
  appendA H (some k) sz bytes v m news = appK k H v (.slice k 0 (n + m) (.unk 0)) sz (cs ++ news) (H.get k) := by
 obtain ⟨_, hl, hn, ⟨rfl, rfl⟩ | ⟨i, ex, hi, rfl, hgi⟩⟩ := A
 ·have : cs = [] := List.eq_nil_of_length_eq_zero (by omega)
  subst this
  exact Grw.appS (h0 := Heap.empty) (h := Heap.empty) (cs := []) (n := 0) ⟨HSub.refl _, by simp, by omega, .inl ⟨rfl, rfl⟩⟩ ⟨Nat.zero_le _, fun i hi => absurd hi (Nat.not_lt_zero i)⟩ ⟨Nat.zero_le _, hk.2⟩ hm hb h1
 ·have e0 := (hg i (by simp [AV.ids])).trans hgi
  have hlt := Heap.lt_of_get hgi
  have hr : H.room (some k) = ((H.get k).isNone && decide (k < H.size)) := rfl
  simp only [appendA, e0]
  by_cases e : (H.get k).isNone = true
  ·have e' : H.get k = none := by simpa using e
   rw [if_pos ⟨trivial, by omega, by rw [List.length_append]; omega, h1, hb, by rw [hr, e]; simpa using hk.2, by omega⟩, cut_pre hl]
   exact (congrArg (appK k H (.slice i 0 n (.unk 0)) (.slice k 0 (n + m) (.unk 0)) sz (cs ++ news)) e').symm
  ·rw [if_neg (by rw [hr]; simp [e]), if_neg (by omega)]
   obtain ⟨b, e'⟩ : ∃ b, H.get k = some b := by cases x : H.get k with | none => simp [x] at e | some b => exact ⟨b, rfl⟩
   exact (congrArg (appK k H (.slice i 0 n (.unk 0)) (.slice k 0 (n + m) (.unk 0)) sz (cs ++ news)) e').symm
theorem snocS_size : (snocH H (some k) v sz cs).size = H.size := by unfold snocH; cases v <;> rfl
theorem snocS_same (hk : k < H.size) : (snocH H (some k) v sz cs).get k = some (.cells cs true sz) := by
 unfold snocH
 cases v <;> exact get_put_eq rfl (by simpa using hk)
theorem snocS_ne (hk : j ≠ k) (hv : j ∉ v.ids) : (snocH H (some k) v sz cs).get j = H.get j := by
 unfold snocH
 cases v
 case slice i o n c => exact (get_put_ne hk).trans (get_put_ne (fun e => hv (by simp [AV.ids, e])))
 all_goals exact get_put_ne hk
theorem snocS_sub {hB : Heap} (A : Grw hB h sz v n cs) {ds : List AV} (hs : HSub hB H) (hk : hB.size ≤ k) : HSub hB (snocH H (some k) v sz ds) := by
 obtain ⟨_, _, _, ⟨rfl, rfl⟩ | ⟨i, ex, hi, rfl, hg⟩⟩ := A
 ·exact hs.put hk _
 ·exact (hs.put hi _).put hk _
theorem GrwS.appG {a b : Int} (A : GrwS h0 h v l) (hg : ∀ i ∈ v.ids, H.get i = h.get i) (hk : h.size ≤ k ∧ k < H.size) (hb : l.length + 1 ≤ 1073741824) : appendA H (some k) 2 16 v 1 [.int .i64 a, .int .i64 b] = appK k H v (.slice k 0 (l.length + 1) (.unk 0)) 2 (smps (l ++ [(a, b)])) (H.get k) := by
 rw [Grw.appG A hg hk (by decide) (by omega) (by rfl), smps_snoc]
theorem GrwS.mk {K : Nat} (hs : HSub h0 h) (hk : h0.size ≤ k) (hl : K = l.length ∧ l.length < 9223372036854775808) (hg : h.get k = some (.cells (smps l) true 2)) : GrwS h0 h (.slice k 0 K (.unk 0)) l := by
 obtain ⟨rfl, hl⟩ := hl
 exact ⟨hs, smps_length, hl, .inr ⟨k, [], hk, rfl, by rw [List.append_nil]; exact hg⟩⟩
theorem SL.fldE {cs : List AV} (A : SL h sz v n cs) : ∀ (k off : Nat), k < n → fieldAddrA off (elA sz v k) = some (elF sz v k off) := by
 intro k off hk
 obtain ⟨_, _, ⟨rfl, h1⟩ | ⟨i, o, c, vs, wr, u, rfl, _⟩⟩ := A
 ·omega
 ·rfl
theorem SL.loadE {cs : List AV} (A : SL h sz v n cs) {k off : Nat} (hk : k < n) (ho : off < sz) : Ae.loadA h false 1 (elF sz v k off) = cs[k * sz + off]? := by
 obtain ⟨hl, hlt, ⟨rfl, h1⟩ | ⟨i, o, c, vs, wr, u, rfl, hg, hle, hc, _⟩⟩ := A
 ·omega
 ·have h1 : (k + 1) * sz ≤ n * sz := Nat.mul_le_mul_right sz hk
  have h2 : (k + 1) * sz = k * sz + sz := by rw [Nat.add_mul, Nat.one_mul]
  rw [← hc, cut, List.getElem?_take_of_lt (by omega), List.getElem?_drop]
  simp only [elF, Ae.loadA, hg, partA, Bool.false_eq_true, if_false]
  rw [Nat.add_assoc]
theorem Dj.not {v w : AV} (h : Dj v w) {i : Nat} (hi : i ∈ w.ids) : i ∉ v.ids := fun hv => h i hv hi
end
end Go.Ae
/- Codes with their samples, of the program. -/
set_option linter.unusedSimpArgs false
set_option linter.unusedVariables false
namespace Go.Ae
theorem sampL_length (d p : Int) (o : Nat) : (sampL d p o).length = lenN d * o := by rw [← sampP_full, sampP_length _ (Nat.le_refl _), codeL_length]
def sampErr (d o : Int) (ps : List Int) : Int := if knownErr d o = 0 ∧ ∀ p ∈ ps, codeErr d p = 0 then 0 else 2
def codeCells (vs : List AV) (o : Int) : List AV := vs.flatMap fun v => [v, .int .i64 o]
theorem codeCells_snoc (vs : List AV) (v : AV) (o : Int) : codeCells (vs ++ [v]) o = codeCells vs o ++ [v, .int .i64 o] := by simp [codeCells]
theorem codeCells_cut (o : Int) : ∀ (vs : List AV) (k : Nat), k < vs.length → cut (codeCells vs o) (k * 2) 2 = [vs.getD k .nilslice, .int .i64 o]
 | [], k, h => by simp at h
 | v :: vs, 0, _ => rfl
 | v :: vs, k + 1, h => by
  rw [show codeCells (v :: vs) o = v :: .int .i64 o :: codeCells vs o from rfl, show (k + 1) * 2 = k * 2 + 1 + 1 by omega, cut_succ, cut_succ, codeCells_cut o vs k (by simpa using h)]; rfl
structure CLs (h : Heap) (v : AV) (d o : Int) (ps : List Int) (vs : List AV) : Prop where
 sl : SL h 2 v ps.length (codeCells vs o)
 len : vs.length = ps.length
 ri : ∀ i, i < ps.length → RI h (vs.getD i .nilslice) (sampL d (ps.getD i 0) o.toNat)
theorem CLs.mono {h h' : Heap} {v : AV} {d o : Int} {ps : List Int} {vs : List AV} (H : CLs h v d o ps vs) (hs : HSub h h') : CLs h' v d o ps vs := ⟨H.sl.mono hs, H.len, fun i hi => (H.ri i hi).mono hs⟩
theorem grwI_mk {h0 h : Heap} {k K : Nat} {l : List Int} (hs : HSub h0 h) (hk : h0.size ≤ k) (hl : K = l.length ∧ l.length < 9223372036854775808) (hg : h.get k = some (.cells (ints l) true 1)) : GrwI h0 h (.slice k 0 K (.unk 0)) l := by
 obtain ⟨rfl, hl⟩ := hl
 exact Grw.fresh hs hk hl hg
section
variable {C : Ctx}
set_option maxHeartbeats 4000000 in
set_option maxRecDepth 20000 in
theorem sampled_specF (hC : Has C T142) {d o : Int} {vp : AV} {ps : List Int} {h : Heap} (hd : In64 d) (ho : In64 o) (hp : RI h vp ps) (hx : ∀ x ∈ ps, In64 x) (hpl : ps.length ≤ 1000) :
  ACalls C 142 [.int .i64 d, .int .i64 o, vp] h (fun r h' => ∃ v vs, r = lstErr v (sampErr d o ps) ∧ HSub h h' ∧ (sampErr d o ps = 0 → CLs h' v d o ps vs ∧ ∀ i, i < ps.length → GrwI h h' (vs.getD i .nilslice) (sampL d (ps.getD i 0) o.toNat))) := by
 have hplt := hp.lt
 by_cases ck : knownErr d o = 0
 ·have pe : sampErr d o ps = if ∀ p ∈ ps, codeErr d p = 0 then 0 else 2 := by unfold sampErr; simp only [ck, true_and]
  have kr : lenOk d = true ∧ 1 ≤ o ∧ o ≤ 8 := by
   unfold knownErr at ck
   split at ck
   ·assumption
   ·cases ck
  obtain ⟨q, rfl⟩ := Int.eq_ofNat_of_zero_le (show 0 ≤ o by omega)
  have hN := lenN_eq kr.1
  refine zf hC tab142 ?_; simp only [B142]; refine zs ?_
  refine ACallsK.eq (known09_spec (zu hC T150) hd ho) ?_
  rw [ck]
  refine zs1 @hp.len ?_
  refine wp_loopI (fun j t h' => ∃ (k : Nat) (vs : List AV), Grw h h' 2 (t 9) k (codeCells vs (q : Nat)) ∧ vs.length = k ∧ (∀ i, i < k → GrwI h h' (vs.getD i .nilslice) (sampL d (ps.getD i 0) q) ∧ Dj (vs.getD i .nilslice) (t 9)) ∧ (∀ i, i < k → codeErr d (ps.getD i 0) = 0) ∧
   t 0 = .int .i64 d ∧ t 1 = .int .i64 (q : Nat) ∧ t 23 = vp ∧ t 24 = .int .i64 (ps.length : Nat) ∧ t 25 = .int .i64 (k : Nat) ∧ k ≤ ps.length ∧ j = ps.length - k) (j0 := ps.length)
   ⟨0, [], Grw.nil _ _, rfl, fun i hi => by omega, fun i hi => by omega, rfl, rfl, rfl, rfl, rfl, by omega, rfl⟩ ?_
  rintro j t h2 ⟨k, vs, A, hvl, hvs, hce, e0, e1, e23, e24, e25, hk, hj⟩
  refine zs2 @e24 @e25 ?_
  refine Br.by (fun c1 => ?_) (fun c1 => ?_)
  ·have hk' : k < ps.length := by omega
   have hp2 := hp.mono A.sub
   have hxk := hx _ (getD_mem hk')
   obtain ⟨p, hpd⟩ : ∃ p, p = ps.getD k 0 := ⟨_, rfl⟩
   have hld := hp2.load hk'
   rw [← hpd] at hld hxk
   have hcode := Code_spec (zu hC T76) (h := h2) hd hxk
   refine zs6 @e0 @e1 @e23 @e25 @hp2.idx @hld ?_
   refine ACallsK.of hcode ?_
   rintro r h3 ⟨v1, rfl, s1, R1, _⟩
   by_cases cc : codeErr d p = 0
   ·rw [cc, if_pos rfl] at R1
    rw [cc]
    have cl := codeL_length d p
    refine zs4 @lstErr.eq_1 @e1 @R1.len @cl ?_
    have R1' := R1.mono (HSub.push1 h3 (.cells [.nilslice, .int .i64 (q : Nat)] true 0))
    refine wp_loopI (fun j t' h' => ∃ (i : Nat) (w : AV), GrwI h3 h' w (sampP d p q i) ∧ Dj (.ptr h3.size 0) w ∧ h'.get h3.size = some (.cells [w, .int .i64 (q : Nat)] true 0) ∧ h3.size + 1 ≤ h'.size ∧
     t' 0 = .int .i64 d ∧ t' 1 = .int .i64 (q : Nat) ∧ t' 9 = t 9 ∧ t' 14 = .ptr h3.size 0 ∧ t' 23 = vp ∧ t' 24 = .int .i64 (ps.length : Nat) ∧ t' 25 = .int .i64 (k : Nat) ∧ t' 40 = v1 ∧ t' 41 = .int .i64 (lenN d : Nat) ∧ t' 42 = .int .i64 (i : Nat) ∧ i ≤ lenN d ∧ j = lenN d - i) (j0 := lenN d)
     ⟨0, .nilslice, GrwI.nil' (HSub.push1 _ _), Dj.nilR, get_push_eq rfl, by simp, e0, e1, rfl, rfl, e23, e24, e25, rfl, rfl, rfl, by omega, rfl⟩ ?_
    rintro j t' h4 ⟨i, w, B, dj, gb, hsz, e0', e1', e9', e14', e23', e24', e25', e40', e41', e42', hi, hj'⟩
    refine zs2 @e41' @e42' ?_
    refine Br.by (fun c2 => ?_) (fun c2 => ?_)
    ·have hi' : i < lenN d := by omega
     have R4 := R1.mono B.sub
     have hl4 := R4.load (k := i) (by omega)
     obtain ⟨x, hx⟩ : ∃ x, x = (codeL d p).getD i 0 := ⟨_, rfl⟩
     rw [← hx] at hl4
     have rep := fun (H : Heap) (hg : H.get (h4.size + 3) = some (.cells [.int .i64 x] true 0)) => Repeat_spec (zu hC T90) (v := .slice (h4.size + 3) 0 1 (.known 1)) (x := x) (n := q) (h := H) (RI.known hg ⟨rfl, by decide⟩ (by decide)) (by omega)
     refine zs8 @e1' @e14' @e40' @e42' @R4.idx @hl4 @gb @Heap.wf ?_
     refine ACallsK.hide (fun H hH => ?_)
     have N : H.size = h4.size + 9 := by rw [hH]; exact ze
     have g3 : H.get (h4.size + 3) = some (.cells [.int .i64 x] true 0) := by rw [hH]; exact ze
     have gn : H.get (h4.size + 6) = none := by rw [hH]; exact ze1 @Heap.wf
     have hs4 : HSub h4 H := by rw [hH]; exact (zh (HSub.refl _))
     clear hH
     refine ACallsK.of (rep H g3) ?_
     rintro r h5 F
     have F' := F
     obtain ⟨s5, fl, i5, hi5, rfl, g5⟩ := F'
     have z5 := s5.size
     have gb5 : h5.get h3.size = some (.cells [w, .int .i64 (q : Nat)] true 0) := (s5.get _ (by omega)).trans ((hs4.get _ (by omega)).trans gb)
     have gb6 : H.get h3.size = some (.cells [w, .int .i64 (q : Nat)] true 0) := (hs4.get _ (by omega)).trans gb
     have gn5 : h5.get (h4.size + 6) = none := (s5.get _ (by omega)).trans gn
     have sp := sampP_succ (d := d) (p := p) (o := q) (k := i) (by omega)
     rw [← hx] at sp
     have sl := sampP_length (d := d) (p := p) (o := q) i (by omega)
     have iq : i * q ≤ 1023 * 8 := Nat.mul_le_mul (by omega) (by omega)
     have ap := Grw.appG (H := h5) (k := h4.size + 6) (m := q) (bytes := 8) (news := ints (List.replicate q x)) B (fun j hj => (s5.get _ (by have := (Grw.ids_lt B j hj).2; omega)).trans (hs4.get _ (Grw.ids_lt B j hj).2)) ⟨by omega, by omega⟩ (by omega) (by rw [sl]; omega) ints_one
     rw [ints_append, ← sp] at ap
     have cF := F.ri.content
     simp only [List.length_replicate] at cF
     have cN : (List.replicate q x).length = q := List.length_replicate
     have hw : h3.size ∉ w.ids := dj _ (by simp [AV.ids])
     have gS : (snocH h5 (some (h4.size + 6)) w 1 (ints (sampP d p q (i + 1)))).get h3.size = some (.cells [w, .int .i64 (q : Nat)] true 0) := (snocS_ne (by omega) hw).trans gb5
     have zS : (snocH h5 (some (h4.size + 6)) w 1 (ints (sampP d p q (i + 1)))).size = h5.size := snocS_size
     have rS : (snocH h5 (some (h4.size + 6)) w 1 (ints (sampP d p q (i + 1)))).get (h4.size + 6) = some (.cells (ints (sampP d p q (i + 1))) true 1) := snocS_same (by omega)
     have bS := snocS_sub (k := h4.size + 6) (ds := ints (sampP d p q (i + 1))) B ((B.sub.trans hs4).trans s5) (by have := B.sub.size; omega)
     have sl2 := sampP_length (d := d) (p := p) (o := q) (i + 1) (by omega)
     have iq2 : (i + 1) * q ≤ 1023 * 8 := Nat.mul_le_mul (by omega) (by omega)
     have slq : (sampP d p q i).length + q = (sampP d p q (i + 1)).length := by rw [sp, List.length_append, List.length_replicate]
     refine zs8 @cN @gb5 @gb6 @gn5 @cF @ap @appK_none @e14' ?_
     refine ⟨gb.symm, ?_⟩
     refine zs11 @gS @e0' @e1' @e9' @e14' @e23' @e24' @e25' @e40' @e41' @e42' ?_
     refine ⟨_, ⟨i + 1, _, grwI_mk (bS.put (Nat.le_refl _) _) (by have := B.sub.size; omega) ⟨slq, by omega⟩ ((get_put_ne (by omega)).trans rS), ?_, rfl, by rw [zS]; omega, by simp, by omega, rfl⟩, by omega⟩
     intro j hj
     simp only [AV.ids, List.mem_singleton] at hj ⊢
     omega
    ·have ei : i = lenN d := by omega
     subst ei
     have wone : w.one = true := (Grw.sl B).one
     have full : sampP d p q (lenN d) = sampL d p q := by rw [← sampP_full, codeL_length]
     rw [full] at B
     have A4 := A.mono (s1.trans B.sub)
     have hn1 : [w, AV.int .i64 (q : Nat)].all AV.one = true := by simp [wone, one_int]
     have ap := fun b => Grw.app A4 (bytes := 32) (m := 1) (news := [w, .int .i64 (q : Nat)]) (HSub.push1 h4 b) (by decide) (by omega) hn1
     have A5 := fun b => Grw.snoc A4 (m := 1) (news := [w, .int .i64 (q : Nat)]) (HSub.push1 h4 b) rfl (by omega)
     rw [← codeCells_snoc] at ap A5
     refine zs11 @e9' @e14' @gb @cont_slice @contB_two @ap @e0' @e1' @e23' @e24' @e25' ?_
     have B0 : GrwI h h4 w (sampL d p q) := B.base (A.sub.trans s1)
     have z1 := s1.size
     have z4 := B.sub.size
     have dw : Dj w (t 9) := fun j hj hj9 => by
      have q1 := (Grw.ids_lt B j hj).1
      have q2 := (Grw.ids_lt A j hj9).2
      omega
     refine ⟨_, ⟨k + 1, vs ++ [w], A5 _, by simp [hvl], fun i hi => ?_, fun i hi => ?_, by simp, by omega, rfl⟩, by omega⟩
     ·rcases Nat.lt_or_ge i k with x | x
      ·have e : (vs ++ [w]).getD i .nilslice = vs.getD i .nilslice := by simp [List.getD_eq_getElem?_getD, List.getElem?_append_left (show i < vs.length by omega)]
       rw [e]
       have B1 := (hvs i x).1.mono (s1.trans B.sub)
       exact ⟨Grw.keep A4 B1 (HSub.push1 _ _) (hvs i x).2, Grw.dj B1 (by omega)⟩
      ·have ei : i = k := by omega
       subst ei
       have e : (vs ++ [w]).getD i .nilslice = w := by simp [List.getD_eq_getElem?_getD, ← hvl]
       rw [e, ← hpd]
       exact ⟨Grw.keep A4 B0 (HSub.push1 _ _) dw, Grw.dj B0 (by omega)⟩
     ·rcases Nat.lt_or_ge i k with x | x
      ·exact hce i x
      ·have ei : i = k := by omega
       subst ei
       rw [← hpd]; exact cc
   ·have c2 : codeErr d p = 2 := by unfold codeErr at cc ⊢; split at cc <;> first | exact absurd rfl cc | (rename_i h; rw [if_neg h])
    rw [c2]
    refine zs1 @lstErr.eq_1 ?_
    have hne : ¬ ∀ p ∈ ps, codeErr d p = 0 := fun h => cc (h _ (by rw [hpd]; exact getD_mem hk'))
    rw [pe, if_neg hne]
    exact ⟨_, [], rfl, A.sub.trans s1, fun h => by cases h⟩
  ·have ek : k = ps.length := by omega
   subst ek
   have hall : ∀ p ∈ ps, codeErr d p = 0 := fun p hp => by
    obtain ⟨i, hi, rfl⟩ := List.mem_iff_getElem.1 hp
    have := hce i hi
    rwa [List.getD_eq_getElem?_getD, List.getElem?_eq_getElem hi] at this
   rw [pe, if_pos hall]
   refine zs ?_
   exact ⟨_, vs, rfl, A.sub, fun _ => ⟨⟨A.sl, hvl, fun i hi => by rw [Int.toNat_natCast]; exact (hvs i hi).1.ri⟩, fun i hi => (hvs i hi).1⟩⟩
 ·have pe : sampErr d o ps = 2 := by unfold sampErr; rw [if_neg (fun h => ck h.1)]
  have ck2 : knownErr d o = 2 := by unfold knownErr at ck ⊢; split at ck <;> first | exact absurd rfl ck | (rename_i h; rw [if_neg h])
  rw [pe]
  refine zf hC tab142 ?_; simp only [B142]; refine zs ?_
  refine ACallsK.eq (known09_spec (zu hC T150) hd ho) ?_
  rw [ck2]
  refine zs ?_
  exact ⟨_, [], rfl, HSub.refl _⟩
end
end Go.Ae
/- The samples of a code, of the program; the samples by their places. -/
set_option linter.unusedSimpArgs false
set_option linter.unusedVariables false
namespace Go.Ae
theorem sampP_eq (d p : Int) {o : Nat} (ho : 1 ≤ o) : ∀ k, k ≤ lenN d → sampP d p o k = (List.range (k * o)).map fun i => (codeL d p).getD (i / o) 0
 | 0, _ => by simp [sampP]
 | k + 1, h => by
  have hl := codeL_length d p
  rw [sampP_succ (by omega), sampP_eq d p ho k (by omega), Nat.add_mul, Nat.one_mul, List.range_add, List.map_append]
  congr 1
  rw [List.map_map]
  refine List.ext_getElem (by simp) fun i h1 h2 => ?_
  have hi : i < o := by simpa using h1
  simp only [List.getElem_replicate, List.getElem_map, List.getElem_range, Function.comp]
  rw [Nat.mul_comm k o, Nat.mul_add_div (by omega), Nat.div_eq_of_lt hi, Nat.add_zero]
theorem sampL_eq (d p : Int) {o : Nat} (ho : 1 ≤ o) : sampL d p o = (List.range (lenN d * o)).map fun i => (codeL d p).getD (i / o) 0 := by
 rw [← sampP_full, codeL_length, sampP_eq d p ho _ (Nat.le_refl _)]
theorem sampErr_one (d o p : Int) : sampErr d o [p] = if knownErr d o = 0 ∧ codeErr d p = 0 then 0 else 2 := by simp [sampErr]
section
variable {C : Ctx}
end
end Go.Ae
/- Parts of placements and their greatest sum, in plain numbers. -/
set_option linter.unusedSimpArgs false
set_option linter.unusedVariables false
namespace Go.Ae
def pf (a b : List Int) (m s : Int) : Nat → Int
 | 0 => 0
 | k + 1 => pf a b m s k + a.getD k 0 * b.getD (min ((k : Int) - m + a.length + s) ((a.length : Int) - 1)).toNat 0
def ps (a b : List Int) (m : Nat) : Nat → Int
 | 0 => 0
 | k + 1 => ps a b m k + a.getD (m + k) 0 * b.getD k 0
def one1 (l : List Int) : Prop := ∀ x ∈ l, -1 ≤ x ∧ x ≤ 1
theorem one1.get {l : List Int} (h : one1 l) (i : Nat) : -1 ≤ l.getD i 0 ∧ l.getD i 0 ≤ 1 := by
 by_cases c : i < l.length
 ·exact h _ (getD_mem c)
 ·rw [List.getD_eq_getElem?_getD, List.getElem?_eq_none (by omega)]; decide
theorem mul_one1 {x y : Int} (hx : -1 ≤ x ∧ x ≤ 1) (hy : -1 ≤ y ∧ y ≤ 1) : -1 ≤ x * y ∧ x * y ≤ 1 := by
 have h : x = -1 ∨ x = 0 ∨ x = 1 := by omega
 rcases h with rfl | rfl | rfl <;> omega
theorem pf_le {a b : List Int} {m s : Int} (ha : one1 a) (hb : one1 b) : ∀ k : Nat, -(k : Int) ≤ pf a b m s k ∧ pf a b m s k ≤ k
 | 0 => by simp [pf]
 | k + 1 => by
  have ih := pf_le ha hb (m := m) (s := s) k
  have := mul_one1 (ha.get k) (hb.get (min ((k : Int) - m + a.length + s) ((a.length : Int) - 1)).toNat)
  rw [pf]; omega
theorem ps_le {a b : List Int} {m : Nat} (ha : one1 a) (hb : one1 b) : ∀ k : Nat, -(k : Int) ≤ ps a b m k ∧ ps a b m k ≤ k
 | 0 => by simp [ps]
 | k + 1 => by
  have ih := ps_le ha hb (m := m) k
  have := mul_one1 (ha.get (m + k)) (hb.get k)
  rw [ps]; omega
def plc (a b : List Int) (s : Int) (m : Nat) : Int := max (pf a b m s m) (-pf a b m s m) + max (ps a b m (a.length - m)) (-ps a b m (a.length - m))
theorem plc_le {a b : List Int} (ha : one1 a) (hb : one1 b) {s : Int} {m : Nat} (hm : m ≤ a.length) : 0 ≤ plc a b s m ∧ plc a b s m ≤ a.length := by
 have h1 := pf_le ha hb (m := m) (s := s) m
 have h2 := ps_le ha hb (m := m) (a.length - m)
 unfold plc
 omega
def gM (a b : List Int) (s : Int) (lo : Nat) : Nat → Int → Int
 | 0, x => x
 | k + 1, x => max (gM a b s lo k x) (plc a b s (lo + k))
def lastM (n : Nat) (mg s : Int) : Int := if 0 < mg then n + s - mg else n + min s 0
def cntM (n : Nat) (mg s : Int) : Nat := (lastM n mg s + 1 - mg).toNat
def greatI (a b : List Int) (mg : Nat) : Int := gM a b 1 mg (cntM a.length mg 1) (gM a b 0 mg (cntM a.length mg 0) (gM a b (-1) mg (cntM a.length mg (-1)) 0))
theorem gM_le {a b : List Int} (ha : one1 a) (hb : one1 b) {s : Int} {lo : Nat} : ∀ (k : Nat) (x : Int), lo + k ≤ a.length + 1 → 0 ≤ x ∧ x ≤ a.length → 0 ≤ gM a b s lo k x ∧ gM a b s lo k x ≤ a.length
 | 0, x, _, hx => hx
 | k + 1, x, hk, hx => by
  have ih := gM_le ha hb (s := s) (lo := lo) k x (by omega) hx
  have := plc_le ha hb (s := s) (m := lo + k) (by omega)
  rw [gM]; omega
theorem sampL_one1 (d p : Int) (o : Nat) : one1 (sampL d p o) := by
 intro x hx
 unfold sampL at hx
 obtain ⟨l, hl, hxl⟩ := List.mem_flatten.1 hx
 obtain ⟨y, hy, rfl⟩ := List.mem_map.1 hl
 have := codeL_range y hy
 rw [(List.mem_replicate.1 hxl).2]; exact this
end Go.Ae
/- Correlators, in plain numbers. -/
set_option linter.unusedSimpArgs false
set_option linter.unusedVariables false
namespace Go.Ae
def inS (B : Int) (x : Int × Int) : Prop := (-B ≤ x.1 ∧ x.1 ≤ B) ∧ (-B ≤ x.2 ∧ x.2 ≤ B)
instance (B : Int) (x : Int × Int) : Decidable (inS B x) := by unfold inS; exact inferInstance
def addP (x y : Int × Int) : Int × Int := (x.1 + y.1, x.2 + y.2)
def binsOk (b : Int) : Prop := b = 1 ∨ b = 2 ∨ b = 4 ∨ b = 8 ∨ b = 16 ∨ b = 32 ∨ b = 64
instance (b : Int) : Decidable (binsOk b) := by unfold binsOk; exact inferInstance
end Go.Ae
/- Waves of the program and of the reference. -/
set_option linter.unusedSimpArgs false
set_option linter.unusedVariables false
namespace Go.Ae
def KnownCap (v : AV) : Prop := v = .nilslice ∨ ∃ i o n c, v = .slice i o n (.known c)
theorem SL.dropK {h : Heap} {sz n a : Nat} {v : AV} {cs : List AV} {kk : IntKind} (H : SL h sz v n cs) (K : KnownCap v) (ha : a ≤ n) : ∃ v', (∀ h', sliceA h' sz v (some (.int kk (a : Nat))) none none = some v') ∧ SL h sz v' (n - a) (cs.drop (a * sz)) := by
 obtain ⟨hl, hlt, ⟨rfl, rfl⟩ | ⟨i, o, cp, vs, wr, u, rfl, hg, hle, hc, hcap⟩⟩ := H
 ·have : a = 0 := by omega
  subst this
  have : cs = [] := List.eq_nil_of_length_eq_zero (by omega)
  subst this
  exact ⟨.nilslice, fun _ => rfl, by simp, by omega, .inl ⟨rfl, rfl⟩⟩
 ·obtain ⟨c, rfl⟩ : ∃ c, cp = .known c := by
   rcases K with K | ⟨_, _, _, c, K⟩
   ·cases K
   ·cases K; exact ⟨c, rfl⟩
  dsimp only at hcap
  have hbd : boundsA n c (some (.int kk (a : Nat))) none none = some (a, n, c) := bounds_ok (len := n) (cap := c) (a := a) (b := n) (c := c) rfl rfl rfl ⟨ha, hcap, Nat.le_refl _⟩
  refine ⟨.slice i (if c = a then o else o + a * sz) (n - a) (.known (c - a)), fun _ => by simp only [sliceA, hbd], ?_⟩
  have hm : a * sz ≤ n * sz := Nat.mul_le_mul_right _ ha
  have hs : (n - a) * sz = n * sz - a * sz := Nat.sub_mul _ _ _
  refine ⟨by rw [List.length_drop, hl, hs], by omega, .inr ⟨i, _, _, vs, wr, u, rfl, hg, ?_, ?_, by dsimp only; omega⟩⟩
  ·split
   ·rename_i e; have : n - a = 0 := by omega
    rw [this]; omega
   ·omega
  ·subst hc
   split
   ·rename_i e; have : n = a := by omega
    subst this
    simp [cut]
   ·simp only [cut, List.drop_take, List.drop_drop, hs]
theorem SI.dropK {h : Heap} {v : AV} {l : List (Int × Int)} {a : Nat} {kk : IntKind} (H : SI h v l) (K : KnownCap v) (ha : a ≤ l.length) : ∃ v', (∀ h', sliceA h' 2 v (some (.int kk (a : Nat))) none none = some v') ∧ SI h v' (l.drop a) := by
 obtain ⟨v', e, q⟩ := SL.dropK (kk := kk) H K ha
 refine ⟨v', e, ?_⟩
 rw [smps_drop] at q
 unfold SI
 rwa [List.length_drop]
section
variable {C : Ctx}
end
end Go.Ae
/- Mixes of the program and of the reference. -/
set_option linter.unusedSimpArgs false
set_option linter.unusedVariables false
namespace Go.Ae
section
variable {C : Ctx}
end
end Go.Ae
/- Small lists of complex integers, spins and powers, of the program and of the reference. -/
set_option linter.unusedSimpArgs false
set_option linter.unusedVariables false
namespace Go.Ae
section
variable {C : Ctx}
theorem insideR_spec (hC : Has C T301) {p : Int × Int} {B : Int} {h : Heap} (hB : 0 ≤ B ∧ B ≤ 4294967296) : ACalls C 301 [smp p, .int .i64 B] h (fun r h' => r = .bool (decide (inS B p)) ∧ h' = h) := by
 refine ACalls.gc0 (P := fun r h' => r = .bool (decide (inS B p)) ∧ HSub h h') ?_ (fun r h' hp => ⟨by rw [hp.1]; trivial, hp.2, hp.1, rfl⟩)
 obtain ⟨x, y⟩ := p
 unfold smp inS
 refine zf hC tab301 ?_; simp only [B301]; refine zs ?_
 (repeat' (first | (refine Br.by (fun _ => ?_) (fun _ => ?_)) | (refine zs ?_)))
 all_goals first
  | exact ⟨by congr 1; apply decide_eq_decide.2; constructor <;> intro q <;> omega, HSub.push1 _ _⟩
  | (refine ⟨?_, HSub.push1 _ _⟩; congr 1; first | (rw [eq_comm]; apply decide_eq_false; omega) | (rw [eq_comm]; apply decide_eq_true; omega))
end
end Go.Ae
/- Spin, Steps and Best, of the program and of the reference. -/
set_option linter.unusedSimpArgs false
set_option linter.unusedVariables false
namespace Go.Ae
section
variable {C : Ctx}
theorem AdvanceR_spec (hC : Has C T139) {a s n : Int} {h : Heap} : ACalls C 139 [.int .u32 a, .int .u32 s, .int .i64 n] h (fun r h' => r = .int .u32 (phI a s n) ∧ h' = h) := by
 refine zf hC tab139 ?_; simp only [B139]; refine zs1 @wrap_u32 ?_
 unfold phI
 rw [Int.mul_comm s]
 rw [Int.add_emod_emod]
end
end Go.Ae
/- Samples of emitters: the reference; sources are made. -/
set_option linter.unusedSimpArgs false
set_option linter.unusedVariables false
namespace Go.Ae
theorem EmOk.per {p : PlanP} {e : EmitP} (ok : EmOk p e) (n : Int) : 0 ≤ n - e.sta p (e.pl p n) ∧ n - e.sta p (e.pl p n) ≤ 8184 := by
 have a := (st_gt ok (n := n) (k := e.pl p n)).2 (Int.le_refl _)
 have b := pl_lt (dl := e.dl) (n := n) ok.den
 have c := (st_step (dl := e.dl) (sz := p.size) (k := e.pl p n) ok.en.2.1).2
 have s := size_range ok.pn
 unfold EmitP.sta EmitP.pl at *
 omega
theorem chip_pm {p : PlanP} {e : EmitP} (ok : EmOk p e) {i : Int} (hi : 0 ≤ i) : chipI p e i = 1 ∨ chipI p e i = -1 := by
 have hN := lenN_eq ok.pn.1
 have o' := ok.pn.2.1
 have q : 0 ≤ i / p.o := Int.ediv_nonneg hi (by omega)
 unfold chipI
 rw [codeL_get (by omega)]
 rcases codeB_01 p.d e.prn (min (i / p.o) ((lenN p.d : Int) - 1)).toNat with h | h <;> rw [h] <;> simp
section
variable {C : Ctx}
set_option maxHeartbeats 2000000 in
set_option maxRecDepth 20000 in
theorem at251_spec (hC : Has C T251) {p : PlanP} {e : EmitP} {vp vb vc : AV} {n : Int} {h : Heap} (ok : EmOk p e) (h65 : e.ok64) (B : RI h vb e.bits) (W : RI h vc (codeL p.d e.prn)) (v1 : vp.one = true) (hn : -10100000 ≤ n ∧ n ≤ 10100000) :
  ACalls C 251 [plA p vp, emA e vb, vc, .int .i64 n] h (fun r h' => r = smp (atV p e n) ∧ h' = h) := by
 refine ACalls.gc0 (P := fun r h' => r = smp (atV p e n) ∧ HSub h h') ?_ (fun r h' hp => ⟨by rw [hp.1]; exact smp_free _, hp.2, hp.1, rfl⟩)
 have b1 := B.one
 have w1 := W.one
 have am := ok.en.2.2.1
 have pm := ok.pn.2.2.2.2
 have per := ok.per n
 have pb' := ok.plb hn
 have kp := fun h => place246_spec (zu hC T246) (vp := vp) (vb := vb) (h := h) ok v1 b1 hn
 have ks := fun h => start241_spec (zu hC T241) (vp := vp) (vb := vb) (h := h) (k := e.pl p n) ok v1 b1 (by omega)
 have kb := fun h1 (q : HSub h h1) => bit248_spec (zu hC T248) (vp := vp) (k := e.pl p n) ok (B.mono q) v1 (by omega)
 have bb := ok.bit (e.pl p n)
 have cp := chip_pm ok per.1
 have ka := fun h => AdvanceR_spec (zu hC T139) (a := e.ph) (s := e.st) (n := e.pl p n) (h := h)
 have kc := fun h => CarrierR_spec (zu hC T130) (h := h) (phI_u32 e.ph e.st (e.pl p n))
 have cl := carP_le (phI_u32 e.ph e.st (e.pl p n))
 have stb := ok.stb (k := e.pl p n) (by omega)
 have o' := ok.pn.2.1
 have cll : (codeL p.d e.prn).length = lenN p.d := codeL_length _ _
 have hN := lenN_eq ok.pn.1
 have Wm := fun b c d => W.mono (((HSub.push1 h b).push c).push d)
 have wl := W.len
 rw [cll] at wl
 unfold atV
 generalize e.pl p n = K at *
 have sr : -200000000000 ≤ e.sta p K ∧ e.sta p K ≤ 200000000000 := ⟨stb.1, stb.2.1⟩
 clear stb
 generalize e.sta p K = S at *
 have q3 := ediv_bd (a := n - S) (b := p.o) (A := 100000) (by omega) (by omega)
 have q4 : 0 ≤ (n - S) / p.o := Int.ediv_nonneg per.1 (by omega)
 have td : (n - S).tdiv p.o = (n - S) / p.o := Int.tdiv_eq_ediv_of_nonneg per.1
 have ch : chipI p e (n - S) = (codeL p.d e.prn).getD (min ((n - S) / p.o) ((lenN p.d : Int) - 1)).toNat 0 := rfl
 obtain ⟨m, hm⟩ : ∃ m : Nat, min ((n - S) / p.o) ((lenN p.d : Int) - 1) = (m : Int) := ⟨(min ((n - S) / p.o) ((lenN p.d : Int) - 1)).toNat, by omega⟩
 rw [hm, Int.toNat_natCast] at ch
 have ld := fun b c d => (Wm b c d).load (k := m) (by omega)
 have ix := W.idx (kk := .i64) (k := (m : Int)) ⟨by omega, by omega⟩
 rw [Int.toNat_natCast] at ix
 rw [← ch] at ld
 generalize chipI p e (n - S) = x at *
 generalize lenN p.d = N at *
 generalize carP (phI e.ph e.st K) = t at *
 generalize phI e.ph e.st K = f at *
 generalize bitI p e K = b at *
 have no : ¬ p.o = 0 := by omega
 have xa : -1000 ≤ e.amp * x ∧ e.amp * x ≤ 1000 := by rcases cp with q | q <;> subst q <;> omega
 have y1 := mul_le127 xa ⟨cl.1, cl.2.1⟩
 have y2 := mul_le127 xa ⟨cl.2.2.1, cl.2.2.2⟩
 have z1 := mul_le127 (x := 0 - e.amp * x) (B := 1000) (by omega) ⟨cl.1, cl.2.1⟩
 have z2 := mul_le127 (x := 0 - e.amp * x) (B := 1000) (by omega) ⟨cl.2.2.1, cl.2.2.2⟩
 obtain ⟨tx, ty⟩ := t
 unfold plA emA at kp ks kb ⊢
 unfold smp at kc ⊢
 obtain ⟨pd, o, pb, w, mn, mx, nz, prns⟩ := p
 obtain ⟨prn, dl, rt, st, ph, amp, ba, bits⟩ := e
 dsimp only at *
 rcases bb with q | q <;> subst q <;>
 ·refine zf hC tab251 ?_; simp only [B251]; refine zs ?_
  refine ACallsK.eq (kp _) ?_
  refine zs1 @wl ?_
  refine ACallsK.eq (ks _) ?_
  refine zs6 @td @no @wl @hm @ix @ld ?_
  refine ACallsK.eq (kb _ (zh (HSub.refl h))) ?_
  refine zs ?_
  refine ACallsK.eq (ka _) ?_
  refine zs ?_
  refine ACallsK.eq (kc _) ?_
  refine zs ?_
  exact ⟨by grind, (zh (HSub.refl h))⟩
end
end Go.Ae
/- Start, Place, Bit and At: the program and the reference. -/
set_option linter.unusedSimpArgs false
set_option linter.unusedVariables false
namespace Go.Ae
section
variable {C : Ctx}
end
end Go.Ae
/- Start of the reference; Place, Bit and At of both. -/
set_option linter.unusedSimpArgs false
set_option linter.unusedVariables false
namespace Go.Ae
section
variable {C : Ctx}
end
end Go.Ae
/- Start, Place, Bit and At of the reference. -/
set_option linter.unusedSimpArgs false
set_option linter.unusedVariables false
namespace Go.Ae
section
variable {C : Ctx}
end
end Go.Ae
/- Numbers that elements of a list select. -/
set_option linter.unusedSimpArgs false
set_option linter.unusedVariables false
namespace Go.Ae
section
variable {C : Ctx}
def someOf (l : List Int) (i : Nat) (n : Int) : Int := if i < l.length then l.getD i 0 % n else 0
theorem Some_spec (hC : Has C T45) {v : AV} {l : List Int} {i : Nat} {n : Int} {h : Heap} (hl : RI h v l) (hx : ∀ x ∈ l, In64 x) (hn : 1 ≤ n ∧ n ≤ 9223372036854775807) :
  ACalls C 45 [v, .int .i64 (i : Nat), .int .i64 n] h (fun r h' => r = .int .i64 (someOf l i n) ∧ h' = h) := by
 have hlt := hl.lt
 refine zf hC tab45 ?_; simp only [B45]; refine zs1 @hl.len ?_
 refine Br.by (fun c => ?_) (fun c => ?_)
 ·simp -implicitDefEqProofs (disch := first | exact zd | fail) only [↓wpPre, wpPost, wpPoly, Int.reduceToNat, Int.reducePow, Int.reduceMul, Int.reduceAdd, Int.reduceSub, Int.reduceNeg, Nat.reduceAdd, Nat.reduceMul, Nat.reducePow, Int.reduceLT, Int.reduceLE, Int.reduceEq, Nat.reduceEqDiff, someOf, if_neg (show ¬ i < l.length by omega)]
 ·have hi : i < l.length := by omega
  refine zs2 @hl.idx @hl.load ?_
  refine ACallsK.eq (Turn_spec (zu hC T23) (hx _ (getD_mem hi)) hn) ?_
  simp -implicitDefEqProofs (disch := first | exact zd | fail) only [↓wpPre, wpPost, wpPoly, Int.reduceToNat, Int.reducePow, Int.reduceMul, Int.reduceAdd, Int.reduceSub, Int.reduceNeg, Nat.reduceAdd, Nat.reduceMul, Nat.reducePow, Int.reduceLT, Int.reduceLE, Int.reduceEq, Nat.reduceEqDiff, someOf, if_pos hi]
end
end Go.Ae
/- Plans and emitters that numbers select. -/
set_option linter.unusedSimpArgs false
set_option linter.unusedVariables false
namespace Go.Ae
theorem someOf_range {l : List Int} {i : Nat} {n : Int} (hn : 1 ≤ n) : 0 ≤ someOf l i n ∧ someOf l i n < n := by
 unfold someOf
 split
 ·exact ⟨Int.emod_nonneg _ (by omega), Int.emod_lt_of_pos _ (by omega)⟩
 ·omega
def prnK (f : Int) (k : Nat) : List Int := (List.range k).map fun i => f + 4 * (i : Nat)
theorem prnK_length (f : Int) (k : Nat) : (prnK f k).length = k := by simp [prnK]
theorem prnK_succ (f : Int) (k : Nat) : prnK f (k + 1) = prnK f k ++ [f + 4 * (k : Nat)] := by simp [prnK, List.range_succ]
def planOf (l : List Int) : PlanP := ⟨5 + someOf l 0 2, 1 + someOf l 1 3, 1 + someOf l 2 3, 2, 1 + someOf l 3 20, 1 + someOf l 3 20 + someOf l 5 20, someOf l 4 50, prnK (1 + someOf l 6 20) (someOf l 7 3 + 1).toNat⟩
theorem prnK_err (n f : Int) (hf : 1 ≤ f) : ∀ (m k : Nat), f + 4 * ((k + m : Nat) : Int) ≤ n + 6 → prnsErr n (prnK f k) ((List.range m).map fun i => f + 4 * ((k + i : Nat) : Int)) = 0
 | 0, k, _ => rfl
 | m + 1, k, h => by
  rw [List.range_succ_eq_map, List.map_cons, prnsErr, if_neg (by omega), if_neg]
  ·have e : prnK f k ++ [f + 4 * ((k + 0 : Nat) : Int)] = prnK f (k + 1) := by rw [prnK_succ]; simp
   rw [e, List.map_map]
   have ih := prnK_err n f hf m (k + 1) (by omega)
   have e2 : ((fun i => f + 4 * ((k + i : Nat) : Int)) ∘ Nat.succ) = fun i => f + 4 * ((k + 1 + i : Nat) : Int) := by
    funext i
    show f + 4 * ((k + (i + 1) : Nat) : Int) = _
    omega
   rw [e2]
   exact ih
  ·intro q
   rw [List.any_eq_true] at q
   obtain ⟨x, hx, q⟩ := q
   obtain ⟨i, hi, rfl⟩ := List.mem_map.1 hx
   rw [beq_iff_eq] at q
   have := List.mem_range.1 hi
   omega
theorem planOf_nums (l : List Int) : (planOf l).numsOk := by
 have h0 := someOf_range (l := l) (i := 0) (n := 2) (by omega)
 have h1 := someOf_range (l := l) (i := 1) (n := 3) (by omega)
 have h2 := someOf_range (l := l) (i := 2) (n := 3) (by omega)
 have h3 := someOf_range (l := l) (i := 3) (n := 20) (by omega)
 have h4 := someOf_range (l := l) (i := 4) (n := 50) (by omega)
 have h5 := someOf_range (l := l) (i := 5) (n := 20) (by omega)
 unfold PlanP.numsOk planOf
 dsimp only
 refine ⟨?_, by omega, by omega, by omega, by omega, by omega, by omega⟩
 rcases (show someOf l 0 2 = 0 ∨ someOf l 0 2 = 1 by omega) with e | e <;> rw [e] <;> decide
theorem planOf_err (l : List Int) : (planOf l).err = 0 := by
 have h6 := someOf_range (l := l) (i := 6) (n := 20) (by omega)
 have h7 := someOf_range (l := l) (i := 7) (n := 3) (by omega)
 have hn := planOf_nums l
 have hN := lenN_eq hn.1
 have hl : (planOf l).prns.length = (someOf l 7 3 + 1).toNat := prnK_length _ _
 unfold PlanP.err
 rw [if_pos hn, if_neg (by omega), if_neg (by omega)]
 have := prnK_err (lenN (planOf l).d) (1 + someOf l 6 20) (by omega) (someOf l 7 3 + 1).toNat 0 (by omega)
 have e : (planOf l).prns = (List.range (someOf l 7 3 + 1).toNat).map fun i => (1 + someOf l 6 20) + 4 * ((0 + i : Nat) : Int) := by
  show prnK _ _ = _
  unfold prnK
  refine List.map_congr_left fun i _ => ?_
  rw [Nat.zero_add]
 rw [e]
 exact this
theorem planOf_64 (l : List Int) : (planOf l).ok64 := by
 have h0 := someOf_range (l := l) (i := 0) (n := 2) (by omega)
 have h1 := someOf_range (l := l) (i := 1) (n := 3) (by omega)
 have h2 := someOf_range (l := l) (i := 2) (n := 3) (by omega)
 have h3 := someOf_range (l := l) (i := 3) (n := 20) (by omega)
 have h4 := someOf_range (l := l) (i := 4) (n := 50) (by omega)
 have h5 := someOf_range (l := l) (i := 5) (n := 20) (by omega)
 have h6 := someOf_range (l := l) (i := 6) (n := 20) (by omega)
 have h7 := someOf_range (l := l) (i := 7) (n := 3) (by omega)
 unfold PlanP.ok64 planOf In64
 dsimp only
 refine ⟨by omega, by omega, by omega, by omega, by omega, by omega, by omega, fun x hx => ?_⟩
 obtain ⟨i, hi, rfl⟩ := List.mem_map.1 hx
 have := List.mem_range.1 hi
 omega
def bitK (l : List Int) (k : Nat) : List Int := (List.range k).map fun i => l.getD (7 + i) 0 % 2
theorem bitK_length (l : List Int) (k : Nat) : (bitK l k).length = k := by simp [bitK]
theorem bitK_succ (l : List Int) (k : Nat) : bitK l (k + 1) = bitK l k ++ [l.getD (7 + k) 0 % 2] := by simp [bitK, List.range_succ]
def emitOf (p : PlanP) (l : List Int) : EmitP := ⟨p.prns.getD 0 0, someOf l 0 p.size, someOf l 1 129 - 64, someOf l 2 64 * 67108864 + someOf l 3 67108864, someOf l 4 64 * 67108864, p.mn + someOf l 5 (p.mx - p.mn + 1), someOf l 6 p.pb, bitK l (min l.length 20 - 7)⟩
theorem emitOf_64 {p : PlanP} {l : List Int} (hp : p.numsOk) (h64 : p.ok64) (hl : 0 < p.prns.length) : (emitOf p l).ok64 := by
 have sz := size_range hp
 have h0 := someOf_range (l := l) (i := 0) (n := p.size) (by omega)
 have h1 := someOf_range (l := l) (i := 1) (n := 129) (by omega)
 have h2 := someOf_range (l := l) (i := 2) (n := 64) (by omega)
 have h3 := someOf_range (l := l) (i := 3) (n := 67108864) (by omega)
 have h4 := someOf_range (l := l) (i := 4) (n := 64) (by omega)
 have pm := hp.2.2.2.2
 have h5 := someOf_range (l := l) (i := 5) (n := p.mx - p.mn + 1) (by omega)
 have pb := hp.2.2.1
 have h6 := someOf_range (l := l) (i := 6) (n := p.pb) (by omega)
 have hx := h64.2.2.2.2.2.2.2 _ (getD_mem (l := p.prns) (i := 0) hl)
 unfold EmitP.ok64 emitOf
 dsimp only
 refine ⟨hx, by unfold In64; omega, by unfold In64; omega, by unfold U32; omega, by unfold U32; omega, by unfold In64; omega, by unfold In64; omega, fun x hx => ?_⟩
 obtain ⟨i, _, rfl⟩ := List.mem_map.1 hx
 unfold In64; omega
theorem emitOf_err {p : PlanP} {l : List Int} (hp : p.err = 0) : emitErr p (emitOf p l) = 0 := by
 have pn := plan_ok hp
 have sz := size_range pn
 have h0 := someOf_range (l := l) (i := 0) (n := p.size) (by omega)
 have h1 := someOf_range (l := l) (i := 1) (n := 129) (by omega)
 have pm := pn.2.2.2.2
 have h5 := someOf_range (l := l) (i := 5) (n := p.mx - p.mn + 1) (by omega)
 have pb := pn.2.2.1
 have h6 := someOf_range (l := l) (i := 6) (n := p.pb) (by omega)
 have hl : 0 < p.prns.length := by
  unfold PlanP.err at hp
  rw [if_pos pn] at hp
  by_cases c : p.prns.length = 0
  ·rw [if_pos c] at hp; omega
  ·omega
 have ha : (p.prns.any fun y => (emitOf p l).prn == y) = true := by
  rw [List.any_eq_true]
  exact ⟨_, getD_mem hl, by simp [emitOf]⟩
 have hn : (emitOf p l).numsOk p := by
  unfold EmitP.numsOk emitOf
  dsimp only
  omega
 have hb : (emitOf p l).bits.any (fun b => b != 0 && b != 1) = false := by
  rw [List.any_eq_false]
  intro x hx
  obtain ⟨i, _, rfl⟩ := List.mem_map.1 hx
  have := Int.emod_two_eq (l.getD (7 + i) 0)
  rcases this with e | e <;> rw [e] <;> decide
 have hlen : (emitOf p l).bits.length ≤ 20 := by
  show (bitK _ _).length ≤ 20
  rw [bitK_length]; omega
 unfold emitErr
 rw [if_pos hp, if_pos ha, if_pos hn, if_neg (by omega), if_neg (by rw [hb]; decide)]
theorem GrwI.putNe {h0 H : Heap} {v : AV} {l : List Int} {i : Nat} {b : ABlk} (A : GrwI h0 H v l) (hi : h0.size ≤ i) (hn : ∀ j ∈ v.ids, j ≠ i) : GrwI h0 (H.put i b) v l := by
 obtain ⟨hs, hl, hn', ⟨rfl, e⟩ | ⟨j, ex, hj, rfl, hg⟩⟩ := A
 ·exact ⟨hs.put hi b, hl, hn', .inl ⟨rfl, e⟩⟩
 ·exact ⟨hs.put hi b, hl, hn', .inr ⟨j, ex, hj, rfl, (get_put_ne (hn j (by simp [AV.ids]))).trans hg⟩⟩
theorem snocN_ne {H : Heap} {v : AV} {sz j : Nat} {cs : List AV} (hj : j < H.size) (hv : j ∉ v.ids) : (snocH H none v sz cs).get j = H.get j := by
 unfold snocH
 cases v
 case slice i o n c => exact (get_push_lt (by simpa using hj)).trans (get_put_ne (fun e => hv (by simp [AV.ids, e])))
 all_goals exact get_push_lt hj
theorem snocN_size {H : Heap} {v : AV} {sz : Nat} {cs : List AV} : (snocH H none v sz cs).size = H.size + 1 := by
 unfold snocH
 cases v <;> simp [Heap.new]
section
variable {C : Ctx}
set_option maxHeartbeats 4000000 in
set_option maxRecDepth 20000 in
theorem PlanOf_new (hC : Has C T235) {v : AV} {l : List Int} {h : Heap} (hl : RI h v l) (hx : ∀ x ∈ l, In64 x) : ACalls C 235 [v] h (fun r h' => HSub h h' ∧ ∃ vp, r = .agg [.int .i64 (planOf l).d, .int .i64 (planOf l).o, .int .i64 (planOf l).pb, .int .i64 (planOf l).w, .int .i64 (planOf l).mn, .int .i64 (planOf l).mx, .int .i64 (planOf l).nz, vp] ∧ RI h' vp (planOf l).prns ∧ ∀ i ∈ vp.ids, h.size ≤ i) := by
 have hlt := hl.lt
 have S := fun (i : Nat) (n : Int) (hn : 1 ≤ n ∧ n ≤ 9223372036854775807) h1 (q : HSub h h1) => Some_spec (zu hC T45) (i := i) (hl.mono q) hx hn
 have h0 := someOf_range (l := l) (i := 0) (n := 2) (by omega)
 have h1 := someOf_range (l := l) (i := 1) (n := 3) (by omega)
 have h2 := someOf_range (l := l) (i := 2) (n := 3) (by omega)
 have h3 := someOf_range (l := l) (i := 3) (n := 20) (by omega)
 have h4 := someOf_range (l := l) (i := 4) (n := 50) (by omega)
 have h5 := someOf_range (l := l) (i := 5) (n := 20) (by omega)
 have h6 := someOf_range (l := l) (i := 6) (n := 20) (by omega)
 have h7 := someOf_range (l := l) (i := 7) (n := 3) (by omega)
 unfold planOf
 dsimp only
 have S0 := S 0 2 (by omega)
 have S1 := S 1 3 (by omega)
 have S2 := S 2 3 (by omega)
 have S3 := S 3 20 (by omega)
 have S4 := S 4 50 (by omega)
 have S5 := S 5 20 (by omega)
 have S6 := S 6 20 (by omega)
 have S7 := S 7 3 (by omega)
 generalize someOf l 0 2 = a0 at *
 generalize someOf l 1 3 = a1 at *
 generalize someOf l 2 3 = a2 at *
 generalize someOf l 3 20 = a3 at *
 generalize someOf l 4 50 = a4 at *
 generalize someOf l 5 20 = a5 at *
 generalize someOf l 6 20 = a6 at *
 generalize someOf l 7 3 = a7 at *
 refine zf hC tab235 ?_; simp only [B235]; refine zs ?_
 refine ACallsK.eq (S0 _ (zh (HSub.refl h))) ?_
 refine zs ?_
 refine ACallsK.eq (S1 _ (zh (HSub.refl h))) ?_
 refine zs ?_
 refine ACallsK.eq (S2 _ (zh (HSub.refl h))) ?_
 refine zs ?_
 refine ACallsK.eq (S3 _ (zh (HSub.refl h))) ?_
 refine zs ?_
 refine ACallsK.eq (S4 _ (zh (HSub.refl h))) ?_
 refine zs ?_
 refine ACallsK.eq (S5 _ (zh (HSub.refl h))) ?_
 refine zs ?_
 refine ACallsK.eq (S6 _ (zh (HSub.refl h))) ?_
 refine zs ?_
 refine wp_loopI (fun j t h' => ∃ (k : Nat) (pv : AV), HSub h h' ∧ GrwI h h' pv (prnK (1 + a6) k) ∧ (∀ i ∈ pv.ids, h.size + 1 < i) ∧ h.size + 1 < h'.size ∧ h'.get h.size = some (.cells [.int .i64 0, .int .i64 0, .int .i64 0, .int .i64 0, .int .i64 0, .int .i64 0, .int .i64 0, .nilslice] true 0) ∧
   h'.get (h.size + 1) = some (.cells [.int .i64 (5 + a0), .int .i64 (1 + a1), .int .i64 (1 + a2), .int .i64 2, .int .i64 (1 + a3), .int .i64 (1 + a3 + a5), .int .i64 a4, pv] true 0) ∧ t 0 = v ∧ t 2 = .ptr h.size 0 ∧ t 3 = .ptr (h.size + 1) 0 ∧ t 4 = .int .i64 (1 + a6) ∧ t 5 = .int .i64 (k : Nat) ∧ (k : Int) ≤ a7 + 1 ∧ j = (a7 + 1 - k).toNat) (j0 := (a7 + 1).toNat)
  ⟨0, .nilslice, (zh (HSub.refl h)), GrwI.nil' (zh (HSub.refl h)), by simp [AV.ids], by simp, by exact ze, by exact ze, rfl, rfl, rfl, rfl, rfl, by omega, by simp⟩ ?_
 rintro j t H ⟨k, pv, s1, A, hid, hz, g0, g1, e0, e2, e3, e4, e5, hk, hj⟩
 refine zs2 @e0 @e5 ?_
 refine ACallsK.eq (S7 _ s1) ?_
 refine zs1 @e5 ?_
 refine Br.by (fun c => ?_) (fun c => ?_)
 ·have pl := prnK_length (1 + a6) k
  have ps := prnK_succ (1 + a6) k
  have pone := A.ri.one
  have pcells := A.ri.cells
  have hk2 : k ≤ 3 := by omega
  have ap := fun (H' : Heap) (hH : HSub H H') => A.app (x := 1 + a6 + 4 * (k : Nat)) H' hH (by omega)
  have Ac := A.snoc (x := 1 + a6 + 4 * (k : Nat)) (HSub.push1 H (.cells [.int .i64 (1 + a6 + 4 * (k : Nat))] true 0)) (by omega)
  rw [← ps] at Ac
  have nn1 : h.size + 1 ∉ pv.ids := fun q => by have := hid _ q; omega
  have nn0 : h.size ∉ pv.ids := fun q => by have := hid _ q; omega
  have q1 : (snocH (H.push (.cells [.int .i64 (1 + a6 + 4 * (k : Nat))] true 0)) none pv 1 (ints (prnK (1 + a6) (k + 1)))).get (h.size + 1) = some (.cells [.int .i64 (5 + a0), .int .i64 (1 + a1), .int .i64 (1 + a2), .int .i64 2, .int .i64 (1 + a3), .int .i64 (1 + a3 + a5), .int .i64 a4, pv] true 0) := (snocN_ne (by simp only [Heap.size_push]; omega) nn1).trans ((get_push_lt (by omega)).trans g1)
  have q0 : (snocH (H.push (.cells [.int .i64 (1 + a6 + 4 * (k : Nat))] true 0)) none pv 1 (ints (prnK (1 + a6) (k + 1)))).get h.size = some (.cells [.int .i64 0, .int .i64 0, .int .i64 0, .int .i64 0, .int .i64 0, .int .i64 0, .int .i64 0, .nilslice] true 0) := (snocN_ne (by simp only [Heap.size_push]; omega) nn0).trans ((get_push_lt (by omega)).trans g0)
  have qz : (snocH (H.push (.cells [.int .i64 (1 + a6 + 4 * (k : Nat))] true 0)) none pv 1 (ints (prnK (1 + a6) (k + 1)))).size = H.size + 1 + 1 := snocN_size
  simp -implicitDefEqProofs (disch := first | exact zd | fail) only [↓wpPre, wpPost, wpPoly, Int.reduceToNat, Int.reducePow, Int.reduceMul, Int.reduceAdd, Int.reduceSub, Int.reduceNeg, Nat.reduceAdd, Nat.reduceMul, Nat.reducePow, Int.reduceLT, Int.reduceLE, Int.reduceEq, Nat.reduceEqDiff, e3, e4, e5, g1, cont_slice, contB_one, ap, ← ps]
  generalize hT : snocH (H.push (.cells [.int .i64 (1 + a6 + 4 * (k : Nat))] true 0)) none pv 1 (ints (prnK (1 + a6) (k + 1))) = T at *
  refine zs8 @q0 @q1 @qz @e0 @e2 @e3 @e4 @e5 ?_
  have idn : ∀ i ∈ (AV.slice (H.size + 1) 0 ((prnK (1 + a6) k).length + 1) (.unk 0)).ids, i = H.size + 1 := fun i hi => by simpa [AV.ids] using hi
  have Ac2 := Ac.putNe (i := h.size + 1) (b := .cells [.int .i64 (5 + a0), .int .i64 (1 + a1), .int .i64 (1 + a2), .int .i64 2, .int .i64 (1 + a3), .int .i64 (1 + a3 + a5), .int .i64 a4, .slice (H.size + 1) 0 ((prnK (1 + a6) k).length + 1) (.unk 0)] true 0) (by omega) (fun j hj => by have := idn j hj; omega)
  exact ⟨_, ⟨k + 1, _, Ac2.sub, Ac2, fun i hi => by have := idn i hi; omega, by omega, rfl, by simp, by omega, rfl⟩, by omega⟩
 ·have ek : (a7 + 1).toNat = k := by omega
  rw [ek]
  have pone := A.ri.one
  have pcells := A.ri.cells
  refine zs4 @e2 @e3 @g0 @g1 ?_
  exact ⟨(zh s1), pv, rfl, (A.putNe (by omega) (fun j hj => by have := hid j hj; omega)).ri, fun j hj => by have := hid j hj; omega⟩
end
end Go.Ae
/- Emitters that numbers select: the contract. -/
set_option linter.unusedSimpArgs false
set_option linter.unusedVariables false
namespace Go.Ae
def emitAt (p : PlanP) (k : Nat) (l : List Int) : EmitP := { emitOf p l with prn := p.prns.getD k 0 }
section
variable {C : Ctx}
set_option maxHeartbeats 4000000 in
set_option maxRecDepth 20000 in
theorem EmitterOf_at (hC : Has C T236) {v w : AV} {p : PlanP} {l : List Int} {u0 : Nat} {h : Heap} (hp : PlI h w p) (pn : p.numsOk) (hp0 : u0 < p.prns.length) (h64 : p.ok64) (hl : RI h v l) (hx : ∀ x ∈ l, In64 x) :
  ACalls C 236 [w, .int .i64 (u0 : Nat), v] h (fun r h' => HSub h h' ∧ ∃ vb, r = .agg [.int .i64 (emitAt p u0 l).prn, .int .i64 (emitAt p u0 l).dl, .int .i64 (emitAt p u0 l).rt, .int .u32 (emitAt p u0 l).st, .int .u32 (emitAt p u0 l).ph, .int .i64 (emitAt p u0 l).amp, .int .i64 (emitAt p u0 l).ba, vb] ∧ RI h' vb (emitAt p u0 l).bits ∧ ∀ i ∈ vb.ids, h.size ≤ i) := by
 have hlt := hl.lt
 obtain ⟨vp, rfl, R⟩ := hp
 have v1 := R.one
 have plt := R.lt
 have sz := size_range pn
 have hN := lenN_eq pn.1
 have hlc := lenOk_cases pn.1
 have pm := pn.2.2.2.2
 have pbb := pn.2.2.1
 have po := pn.2.1
 have eN1 : ((lenN p.d + 1 : Nat) : Int) - 1 = lenN p.d := by omega
 have es : (lenN p.d : Int) * p.o = p.size := rfl
 have S := fun (i : Nat) (n : Int) (hn : 1 ≤ n ∧ n ≤ 9223372036854775807) h1 (q : HSub h h1) => Some_spec (zu hC T45) (i := i) (hl.mono q) hx hn
 have T0 := fun h1 => Turn_spec (h := h1) (x := (u0 : Nat)) (n := (p.prns.length : Int)) (zu hC T23) (by unfold In64; omega) (by omega)
 rw [Int.emod_eq_of_lt (by omega) (by omega)] at T0
 have h0 := someOf_range (l := l) (i := 0) (n := p.size) (by omega)
 have h1 := someOf_range (l := l) (i := 1) (n := 129) (by omega)
 have h2 := someOf_range (l := l) (i := 2) (n := 64) (by omega)
 have h3 := someOf_range (l := l) (i := 3) (n := 67108864) (by omega)
 have h4 := someOf_range (l := l) (i := 4) (n := 64) (by omega)
 have h5 := someOf_range (l := l) (i := 5) (n := p.mx - p.mn + 1) (by omega)
 have h6 := someOf_range (l := l) (i := 6) (n := p.pb) (by omega)
 have S0 := S 0 p.size (by omega)
 have S1 := S 1 129 (by omega)
 have S2 := S 2 64 (by omega)
 have S3 := S 3 67108864 (by omega)
 have S4 := S 4 64 (by omega)
 have S5 := S 5 (p.mx - p.mn + 1) (by omega)
 have S6 := S 6 p.pb (by omega)
 unfold emitAt emitOf
 dsimp only
 generalize someOf l 0 p.size = a0 at *
 generalize someOf l 1 129 = a1 at *
 generalize someOf l 2 64 = a2 at *
 generalize someOf l 3 67108864 = a3 at *
 generalize someOf l 4 64 = a4 at *
 generalize someOf l 5 (p.mx - p.mn + 1) = a5 at *
 generalize someOf l 6 p.pb = a6 at *
 have R2 := fun b c => R.mono (((HSub.push1 h b).push c).reserve 51)
 have ld := fun b c => (R2 b c).load (k := u0) hp0
 have ix : idxA 1 vp (.int .i64 (u0 : Nat)) = some (elA 1 vp u0) := R.idx (kk := .i64) (k := (u0 : Nat)) ⟨by omega, by omega⟩
 generalize p.prns.getD u0 0 = pr at *
 generalize p.size = z at *
 obtain ⟨pd, o, pb, w, mn, mx, nz, prns⟩ := p
 dsimp only at *
 refine zf hC tab236 ?_; simp only [B236]; refine zs5 @R.len @Int.one_mul @hN.2.2 @eN1 @es ?_
 refine ACallsK.eq (T0 _) ?_
 refine zs6 @ix @ld @Int.one_mul @hN.2.2 @eN1 @es ?_
 refine ACallsK.eq (S0 _ (zh (HSub.refl h))) ?_
 refine zs ?_
 refine ACallsK.eq (S1 _ (zh (HSub.refl h))) ?_
 refine zs ?_
 refine ACallsK.eq (S2 _ (zh (HSub.refl h))) ?_
 refine zs ?_
 refine ACallsK.eq (S3 _ (zh (HSub.refl h))) ?_
 refine zs ?_
 refine ACallsK.eq (S4 _ (zh (HSub.refl h))) ?_
 refine zs ?_
 refine ACallsK.eq (S5 _ (zh (HSub.refl h))) ?_
 refine zs ?_
 refine ACallsK.eq (S6 _ (zh (HSub.refl h))) ?_
 refine zs1 @Heap.wf ?_
 refine wp_loopI (fun j t h' => ∃ (k : Nat) (bv : AV), GrwI h h' bv (bitK l k) ∧ (∀ i ∈ bv.ids, h.size + 1 + 1 + 49 < i) ∧ h.size + 1 + 1 + 49 < h'.size ∧ h'.get (h.size + 1) = some (.cells [.int .i64 0, .int .i64 0, .int .i64 0, .int .u32 0, .int .u32 0, .int .i64 0, .int .i64 0, .nilslice] true 0) ∧ h'.get (h.size + 1 + 1 + 49) = some (.cells [.int .i64 pr, .int .i64 a0, .int .i64 (a1 - 64), .int .u32 (a2 * 67108864 + a3), .int .u32 (a4 * 67108864), .int .i64 (mn + a5), .int .i64 a6, bv] true 0) ∧ t 2 = v ∧ t 6 = .ptr (h.size + 1) 0 ∧ t 7 = .ptr (h.size + 1 + 1 + 49) 0 ∧ t 8 = .int .i64 ((7 + k : Nat) : Int) ∧ k ≤ min l.length 20 - 7 ∧ j = min l.length 20 - 7 - k) (j0 := min l.length 20 - 7)
  ⟨0, .nilslice, GrwI.nil' (zh (HSub.refl h)), by simp [AV.ids], by simp, by exact ze, by exact ze, rfl, rfl, rfl, rfl, by omega, rfl⟩ ?_
 rintro j t H ⟨k, bv, A, hid, hz, g0, g1, e2, e6, e7, e8, hk, hj⟩
 have bone := A.ri.one
 have hl1 := hl.mono A.sub
 by_cases c : 7 + k < l.length ∧ 7 + k < 20
 ·have c1 : ((7 + k : Nat) : Int) < l.length := by omega
  have c2 : ((7 + k : Nat) : Int) < 20 := by omega
  have pl := bitK_length l k
  have ps := bitK_succ l k
  have hx1 := hx _ (getD_mem (i := 7 + k) c.1)
  have T1 := fun h1 => Turn_spec (h := h1) (x := l.getD (7 + k) 0) (n := 2) (zu hC T23) hx1 (by omega)
  have ld := (hl.mono (A.sub.reserve 11)).load (k := 7 + k) c.1
  have ix := hl1.idx (kk := .i64) (k := ((7 + k : Nat) : Int)) ⟨by omega, by omega⟩
  rw [Int.toNat_natCast] at ix
  generalize hm : l.getD (7 + k) 0 % 2 = m at *
  refine zs10 @e2 @e7 @e8 @hl1.len @gV_u @c1 @c2 @g1 @ix @ld ?_
  refine ACallsK.eq (T1 _) ?_
  have hsH : HSub H ((H.reserve 11).put (H.size + 7) (.cells [.int .i64 m] true 0)) := ((HSub.refl H).reserve 11).put (by omega) _
  have hkk : H.size ≤ H.size + 8 ∧ H.size + 8 < ((H.reserve 11).put (H.size + 7) (.cells [.int .i64 m] true 0)).size := ⟨by omega, by simp only [Heap.size_put, Heap.size_reserve]; omega⟩
  have ap := A.appS (x := m) _ (H.size + 8) hsH hkk (by omega)
  have gN : ((H.reserve 11).put (H.size + 7) (.cells [.int .i64 m] true 0)).get (H.size + 8) = none := by
   rw [get_put_ne (by omega), Heap.get_reserve]; exact H.wf _ (by omega)
  have Ac := A.snocS (x := m) hsH hkk (by omega)
  rw [← ps] at ap Ac
  have nn1 : h.size + 1 + 1 + 49 ∉ bv.ids := fun q => by have := hid _ q; omega
  have nn0 : h.size + 1 ∉ bv.ids := fun q => by have := hid _ q; omega
  have q1 : (snocH ((H.reserve 11).put (H.size + 7) (.cells [.int .i64 m] true 0)) (some (H.size + 8)) bv 1 (ints (bitK l (k + 1)))).get (h.size + 1 + 1 + 49) = some (.cells [.int .i64 pr, .int .i64 a0, .int .i64 (a1 - 64), .int .u32 (a2 * 67108864 + a3), .int .u32 (a4 * 67108864), .int .i64 (mn + a5), .int .i64 a6, bv] true 0) := (snocS_ne (by omega) nn1).trans ((get_put_ne (by omega)).trans ((Heap.get_reserve _ _ _).trans g1))
  have q0 : (snocH ((H.reserve 11).put (H.size + 7) (.cells [.int .i64 m] true 0)) (some (H.size + 8)) bv 1 (ints (bitK l (k + 1)))).get (h.size + 1) = some (.cells [.int .i64 0, .int .i64 0, .int .i64 0, .int .u32 0, .int .u32 0, .int .i64 0, .int .i64 0, .nilslice] true 0) := (snocS_ne (by omega) nn0).trans ((get_put_ne (by omega)).trans ((Heap.get_reserve _ _ _).trans g0))
  have qz : (snocH ((H.reserve 11).put (H.size + 7) (.cells [.int .i64 m] true 0)) (some (H.size + 8)) bv 1 (ints (bitK l (k + 1)))).size = H.size + 11 := by rw [snocS_size]; simp only [Heap.size_put, Heap.size_reserve]
  refine zs6 @cont_slice @contB_one @ap @gN @appK_none @Heap.wf ?_
  generalize hT : (snocH ((H.reserve 11).put (H.size + 7) (.cells [.int .i64 m] true 0)) (some (H.size + 8)) bv 1 (ints (bitK l (k + 1)))) = T at *
  refine zs7 @q0 @q1 @qz @e2 @e6 @e7 @e8 ?_
  have idn : ∀ i ∈ (AV.slice (H.size + 8) 0 ((bitK l k).length + 1) (.unk 0)).ids, i = H.size + 8 := fun i hi => by simpa [AV.ids] using hi
  have Ac2 := fun b => Ac.putNe (i := h.size + 1 + 1 + 49) (b := b) (by omega) (fun j hj => by have := idn j hj; omega)
  exact ⟨_, ⟨k + 1, _, Ac2 _, fun i hi => by have := idn i hi; omega, by omega, rfl, by omega, by omega, rfl⟩, by omega⟩
 ·have ek : min l.length 20 - 7 = k := by omega
  rw [ek]
  by_cases c1 : ((7 + k : Nat) : Int) < l.length
  ·have c2 : ¬ ((7 + k : Nat) : Int) < 20 := by omega
   refine zs10 @e2 @e6 @e7 @e8 @hl1.len @gV_u @c1 @c2 @g0 @g1 ?_
   exact ⟨A.sub.put (by omega) _, bv, rfl, (A.putNe (by omega) (fun j hj => by have := hid j hj; omega)).ri, fun j hj => by have := hid j hj; omega⟩
  ·refine zs9 @e2 @e6 @e7 @e8 @hl1.len @gV_u @c1 @g0 @g1 ?_
   exact ⟨A.sub.put (by omega) _, bv, rfl, (A.putNe (by omega) (fun j hj => by have := hid j hj; omega)).ri, fun j hj => by have := hid j hj; omega⟩
end
end Go.Ae
/- Three numbers as a value. -/
set_option linter.unusedSimpArgs false
set_option linter.unusedVariables false
namespace Go.Ae
end Go.Ae
/- Finding the code that chips are a rotation of. -/
set_option linter.unusedSimpArgs false
set_option linter.unusedVariables false
namespace Go.Ae
section
variable {C : Ctx}
end
end Go.Ae
/- Sums of products of codes have three values. -/
set_option linter.unusedSimpArgs false
set_option linter.unusedVariables false
namespace Go.Ae
/-! ### Words -/
def rotN (n a W : Nat) : Nat := (W >>> a ||| W <<< (n - a)) % 2 ^ n
theorem rotN_bit {n a W i : Nat} (hW : W < 2 ^ n) (ha : a < n) (hi : i < n) : (rotN n a W).testBit i = W.testBit ((i + a) % n) := by
 unfold rotN
 rw [Nat.testBit_mod_two_pow, Nat.testBit_or, Nat.testBit_shiftRight, Nat.testBit_shiftLeft, decide_eq_true hi, Bool.true_and]
 by_cases c : i + a < n
 ·rw [Nat.mod_eq_of_lt c, Nat.add_comm a i, decide_eq_false (by omega), Bool.false_and, Bool.or_false]
 ·have h1 : W.testBit (a + i) = false := Nat.testBit_lt_two_pow (Nat.lt_of_lt_of_le hW (Nat.pow_le_pow_right (by decide) (by omega)))
  rw [h1, Bool.false_or, decide_eq_true (by omega), Bool.true_and, Nat.mod_eq_sub_mod (by omega), Nat.mod_eq_of_lt (by omega)]
  congr 1; omega
def popc : Nat → Nat → Nat
 | 0, _ => 0
 | n + 1, W => W % 2 + popc n (W / 2)
theorem popc_eq : ∀ n W, popc n W = pop W n
 | 0, W => rfl
 | n + 1, W => by
  rw [popc, popc_eq n, Nat.add_comm n 1, pop_add]
  have e1 : pop W 1 = W % 2 := by
   simp only [pop, bsum, bitN, Nat.testBit_zero, Nat.zero_add]
   have := Nat.mod_two_eq_zero_or_one W
   rcases this with h | h <;> simp [h]
  rw [e1, Nat.shiftRight_eq_div_pow, Nat.pow_one]
def saOk (n W : Nat) : Bool := (List.range n).all fun a => Nat.beq a 0 || (List.range n).any fun s => Nat.beq (W ^^^ rotN n a W) (rotN n s W)
def corrOk (n W V t : Nat) : Bool := (List.range n).all fun e => let s := popc n (W ^^^ rotN n e V); Nat.beq (n + 1) (2 * s) || Nat.beq (n + t) (2 * s) || Nat.beq (n + 2) (2 * s + t)
/-! ### Sums -/
def isum (f : Nat → Int) : Nat → Int
 | 0 => 0
 | n + 1 => isum f n + f n
theorem isum_congr {f g : Nat → Int} : ∀ n, (∀ i, i < n → f i = g i) → isum f n = isum g n
 | 0, _ => rfl
 | n + 1, h => by simp only [isum]; rw [isum_congr n (fun i hi => h i (by omega)), h n (by omega)]
theorem isum_one (f : Nat → Int) : ∀ n, isum (fun i => f (i + 1)) n = isum f n + f n - f 0
 | 0 => by simp [isum]
 | n + 1 => by simp only [isum, isum_one f n]; omega
theorem isum_shift {f : Nat → Int} {n : Nat} (hf : ∀ i, f (i + n) = f i) : ∀ s, isum (fun i => f (i + s)) n = isum f n
 | 0 => rfl
 | s + 1 => by
  have ih := isum_shift hf s
  have h1 := isum_one (fun i => f (i + s)) n
  have h2 : f (n + s) = f (0 + s) := by rw [Nat.add_comm n s, hf, Nat.zero_add]
  rw [ih] at h1
  have h3 : isum (fun i => f (i + 1 + s)) n = isum (fun i => f (i + (s + 1))) n := isum_congr n fun i _ => by congr 1; omega
  rw [← h3, h1]; omega
theorem isum_bits {x : Nat → Int} (hx : ∀ i, x i = 0 ∨ x i = 1) : ∀ n, isum (fun i => 1 - 2 * x i) n = n - 2 * (bsum (fun i => (x i).toNat) n : Nat)
 | 0 => by simp [isum, bsum]
 | n + 1 => by
  simp only [isum, bsum, isum_bits hx n]
  rcases hx n with h | h <;> rw [h] <;> simp <;> omega
/-! ### Periodic bits -/
structure Pair (n : Nat) (t : Int) (U V : Nat → Int) : Prop where
 pos : 0 < n
 u01 : ∀ i, U i = 0 ∨ U i = 1
 v01 : ∀ i, V i = 0 ∨ V i = 1
 uper : ∀ i, U (i + n) = U i
 vper : ∀ i, V (i + n) = V i
 usa : ∀ a, a % n ≠ 0 → ∃ s, ∀ i, (U i + U (i + a)) % 2 = U (i + s)
 vsa : ∀ a, a % n ≠ 0 → ∃ s, ∀ i, (V i + V (i + a)) % 2 = V (i + s)
 usum : isum (fun i => 1 - 2 * U i) n = -1
 vsum : isum (fun i => 1 - 2 * V i) n = -1
 corr : ∀ e, let S := isum (fun i => 1 - 2 * ((U i + V (i + e)) % 2)) n; S = -1 ∨ S = -t ∨ S = t - 2
section
variable {n : Nat} {t : Int} {U V : Nat → Int}
theorem per_mod {f : Nat → Int} (hf : ∀ i, f (i + n) = f i) (i : Nat) : f (i % n) = f i := by
 have h : ∀ k r, f (r + n * k) = f r := by
  intro k
  induction k with
  | zero => intro r; rfl
  | succ k ih => intro r; rw [Nat.mul_succ, ← Nat.add_assoc, hf, ih]
 have := h (i / n) (i % n)
 rw [Nat.add_comm, Nat.div_add_mod] at this
 exact this.symm
theorem per_zero {f : Nat → Int} (hf : ∀ i, f (i + n) = f i) {a : Nat} (ha : a % n = 0) (i : Nat) : f (i + a) = f i := by
 rw [← per_mod hf (i + a), Nat.add_mod, ha, Nat.add_zero, Nat.mod_mod, per_mod hf]
theorem two_shift {f : Nat → Int} (f01 : ∀ i, f i = 0 ∨ f i = 1) (hf : ∀ i, f (i + n) = f i) (hn : 0 < n) (sa : ∀ a, a % n ≠ 0 → ∃ s, ∀ i, (f i + f (i + a)) % 2 = f (i + s)) (a b : Nat) :
  (a % n = b % n ∧ ∀ i, (f (i + a) + f (i + b)) % 2 = 0) ∨ (a % n ≠ b % n ∧ ∃ s, ∀ i, (f (i + a) + f (i + b)) % 2 = f (i + s)) := by
 by_cases c : a % n = b % n
 ·left
  refine ⟨c, fun i => ?_⟩
  have : f (i + a) = f (i + b) := by rw [← per_mod hf (i + a), ← per_mod hf (i + b), Nat.add_mod, c, ← Nat.add_mod]
  have h1 := f01 (i + b)
  rw [this]; omega
 ·right
  refine ⟨c, ?_⟩
  -- the shift of b past a
  have hd : (b + (n - a % n)) % n ≠ 0 := by
   intro h0
   apply c
   have h1 := Nat.div_add_mod b n
   have h2 := Nat.mod_lt a hn
   have h3 := Nat.mod_lt b hn
   rw [Nat.add_mod] at h0
   by_cases ha : a % n = 0
   ·rw [ha, Nat.sub_zero, Nat.mod_self, Nat.add_zero, Nat.mod_mod] at h0; omega
   ·rw [Nat.mod_eq_of_lt (show n - a % n < n by omega)] at h0
    by_cases hb : b % n + (n - a % n) < n
    ·rw [Nat.mod_eq_of_lt hb] at h0; omega
    ·rw [Nat.mod_eq_sub_mod (by omega), Nat.mod_eq_of_lt (by omega)] at h0; omega
  obtain ⟨s, hs⟩ := sa _ hd
  refine ⟨a + s, fun i => ?_⟩
  have h1 := hs (i + a)
  have h2 : f (i + a + (b + (n - a % n))) = f (i + b) := by
   have h3 : i + a + (b + (n - a % n)) = i + b + (a - a % n + n) := by
    have := Nat.mod_le a n
    have := Nat.mod_lt a hn
    omega
   rw [h3]
   refine per_zero hf ?_ _
   rw [Nat.add_mod_right]
   have : a - a % n = n * (a / n) := by have := Nat.div_add_mod a n; omega
   rw [this, Nat.mul_mod_right]
  rw [h2] at h1
  rw [h1, Nat.add_assoc]
def mixB (U V : Nat → Int) (al be : Bool) (b i : Nat) : Int := ((if al then U i else 0) + (if be then V (i + b) else 0)) % 2
theorem mix_three (P : Pair n t U V) (al be al' be' : Bool) (b b' k : Nat) (h1 : al = true ∨ be = true) (h2 : al' = true ∨ be' = true) :
  let S := isum (fun i => (1 - 2 * mixB U V al be b i) * (1 - 2 * mixB U V al' be' b' (i + k))) n
  (al = al' ∧ be = be' ∧ (al = true → k % n = 0) ∧ (be = true → b % n = (k + b') % n) ∧ S = n) ∨ (S = -1 ∨ S = -t ∨ S = t - 2) := by
 intro S
 -- each part
 have hu : (al = al' ∧ (al = true → k % n = 0) ∧ ∀ i, ((if al then U i else 0) + (if al' then U (i + k) else 0)) % 2 = 0) ∨ ∃ s, ∀ i, ((if al then U i else 0) + (if al' then U (i + k) else 0)) % 2 = U (i + s) := by
  cases al <;> cases al'
  ·left; exact ⟨rfl, by simp, fun i => by simp⟩
  ·right; exact ⟨k, fun i => by have := P.u01 (i + k); simp; omega⟩
  ·right; exact ⟨0, fun i => by have := P.u01 i; simp; omega⟩
  ·rcases two_shift P.u01 P.uper P.pos P.usa 0 k with ⟨a1, a2⟩ | ⟨a1, s, a2⟩
   ·left; exact ⟨rfl, fun _ => by rw [← a1, Nat.zero_mod], fun i => by simpa using a2 i⟩
   ·right; exact ⟨s, fun i => by simpa using a2 i⟩
 have hv : (be = be' ∧ (be = true → b % n = (k + b') % n) ∧ ∀ i, ((if be then V (i + b) else 0) + (if be' then V (i + k + b') else 0)) % 2 = 0) ∨ ∃ s, ∀ i, ((if be then V (i + b) else 0) + (if be' then V (i + k + b') else 0)) % 2 = V (i + s) := by
  cases be <;> cases be'
  ·left; exact ⟨rfl, by simp, fun i => by simp⟩
  ·right; exact ⟨k + b', fun i => by have := P.v01 (i + k + b'); rw [← Nat.add_assoc]; simp; omega⟩
  ·right; exact ⟨b, fun i => by have := P.v01 (i + b); simp; omega⟩
  ·rcases two_shift P.v01 P.vper P.pos P.vsa b (k + b') with ⟨a1, a2⟩ | ⟨a1, s, a2⟩
   ·left; exact ⟨rfl, fun _ => a1, fun i => by have := a2 i; rw [← Nat.add_assoc] at this; simpa using this⟩
   ·right; exact ⟨s, fun i => by have := a2 i; rw [← Nat.add_assoc] at this; simpa using this⟩
 have key : ∀ i, (1 - 2 * mixB U V al be b i) * (1 - 2 * mixB U V al' be' b' (i + k)) = 1 - 2 * ((((if al then U i else 0) + (if al' then U (i + k) else 0)) % 2 + ((if be then V (i + b) else 0) + (if be' then V (i + k + b') else 0)) % 2) % 2) := by
  intro i
  unfold mixB
  have x1 : (if al then U i else 0) = 0 ∨ (if al then U i else 0) = 1 := by cases al <;> simp; exact P.u01 i
  have x2 : (if al' then U (i + k) else 0) = 0 ∨ (if al' then U (i + k) else 0) = 1 := by cases al' <;> simp; exact P.u01 _
  have x3 : (if be then V (i + b) else 0) = 0 ∨ (if be then V (i + b) else 0) = 1 := by cases be <;> simp; exact P.v01 _
  have x4 : (if be' then V (i + k + b') else 0) = 0 ∨ (if be' then V (i + k + b') else 0) = 1 := by cases be' <;> simp; exact P.v01 _
  generalize (if al then U i else 0) = a1 at *
  generalize (if al' then U (i + k) else 0) = a2 at *
  generalize (if be then V (i + b) else 0) = a3 at *
  generalize (if be' then V (i + k + b') else 0) = a4 at *
  rcases x1 with rfl | rfl <;> rcases x2 with rfl | rfl <;> rcases x3 with rfl | rfl <;> rcases x4 with rfl | rfl <;> decide
 have eS : S = isum (fun i => 1 - 2 * ((((if al then U i else 0) + (if al' then U (i + k) else 0)) % 2 + ((if be then V (i + b) else 0) + (if be' then V (i + k + b') else 0)) % 2) % 2)) n := isum_congr n fun i _ => key i
 rcases hu with ⟨u1, u2, u3⟩ | ⟨s, u3⟩ <;> rcases hv with ⟨v1, v2, v3⟩ | ⟨s', v3⟩
 ·left
  refine ⟨u1, v1, u2, v2, ?_⟩
  rw [eS, isum_congr n (g := fun _ => 1) (fun i _ => by rw [u3, v3]; rfl)]
  have : ∀ m, isum (fun _ => 1) m = m := by
   intro m
   induction m with
   | zero => rfl
   | succ m ih => simp only [isum, ih]; omega
  exact this n
 ·right; left
  rw [eS, isum_congr n (g := fun i => 1 - 2 * V (i + s')) (fun i _ => by rw [u3, v3]; have := P.v01 (i + s'); omega)]
  exact (isum_shift (f := fun i => 1 - 2 * V i) (fun i => by rw [P.vper]) s').trans P.vsum
 ·right; left
  rw [eS, isum_congr n (g := fun i => 1 - 2 * U (i + s)) (fun i _ => by rw [u3, v3]; have := P.u01 (i + s); omega)]
  exact (isum_shift (f := fun i => 1 - 2 * U i) (fun i => by rw [P.uper]) s).trans P.usum
 ·right
  -- both: shift by s, then the place of v
  have hn := P.pos
  have h1 : S = isum (fun i => 1 - 2 * ((U i + V (i + (s' + (n * s - s)))) % 2)) n := by
   rw [eS, isum_congr n (g := fun i => 1 - 2 * ((U (i + s) + V (i + s + (s' + (n * s - s)))) % 2)) (fun i _ => by
    have hle : s ≤ n * s := Nat.le_mul_of_pos_left s hn
    have : V (i + s + (s' + (n * s - s))) = V (i + s') := by
     rw [show i + s + (s' + (n * s - s)) = i + s' + n * s by omega]
     exact per_zero P.vper (Nat.mul_mod_right n s) _
    rw [u3, v3, this])]
   exact isum_shift (f := fun i => 1 - 2 * ((U i + V (i + (s' + (n * s - s)))) % 2)) (fun i => by
    rw [P.uper, show i + n + (s' + (n * s - s)) = i + (s' + (n * s - s)) + n by omega, P.vper]) s
  have h2 := P.corr (s' + (n * s - s))
  rw [h1]; exact h2
end
end Go.Ae
/- The sequences of the degrees 5 to 7, and their codes. -/
set_option linter.unusedSimpArgs false
set_option linter.unusedVariables false
namespace Go.Ae
def perL (x : List Int) (n i : Nat) : Int := x.getD (i % n) 0
theorem bit_toNat {b : Bool} {x : Int} (hx : x = 0 ∨ x = 1) (h : b.toNat = x.toNat) : b = decide (x = 1) := by
 rcases hx with rfl | rfl <;> cases b <;> simp at h ⊢
theorem list_bit {x : List Int} (hx : bit01 x) (i : Nat) : (packL x).testBit i = decide (x.getD i 0 = 1) := bit_toNat (hx.get i) (packL_bit hx i)
theorem xor_dec {a b : Int} (ha : a = 0 ∨ a = 1) (hb : b = 0 ∨ b = 1) : (decide (a = 1) ^^ decide (b = 1)) = decide ((a + b) % 2 = 1) := by
 rcases ha with rfl | rfl <;> rcases hb with rfl | rfl <;> decide
theorem sa_of {x : List Int} {n W : Nat} (hx : bit01 x) (hl : x.length = n) (hW : packL x = W) (hn : 0 < n) (h : saOk n W = true) : ∀ a, a % n ≠ 0 → ∃ s, ∀ i, (perL x n i + perL x n (i + a)) % 2 = perL x n (i + s) := by
 intro a ha
 have hlt : W < 2 ^ n := by rw [← hW, ← hl]; exact packL_lt hx
 have h1 := List.all_eq_true.1 h (a % n) (List.mem_range.2 (Nat.mod_lt _ hn))
 rw [Bool.or_eq_true] at h1
 rcases h1 with h1 | h1
 ·exact absurd (Nat.eq_of_beq_eq_true h1) ha
 ·obtain ⟨s, hs, h2⟩ := List.any_eq_true.1 h1
  have hs := List.mem_range.1 hs
  have h2 := Nat.eq_of_beq_eq_true h2
  refine ⟨s, fun i => ?_⟩
  have hj := Nat.mod_lt i hn
  have h3 : (W ^^^ rotN n (a % n) W).testBit (i % n) = (rotN n s W).testBit (i % n) := by rw [h2]
  rw [Nat.testBit_xor, rotN_bit hlt (Nat.mod_lt _ hn) hj, rotN_bit hlt hs hj, ← hW, list_bit hx, list_bit hx, list_bit hx] at h3
  have b1 := hx.get (i % n)
  have b2 := hx.get ((i % n + a % n) % n)
  have b3 := hx.get ((i % n + s) % n)
  rw [xor_dec b1 b2] at h3
  have e1 : (i + a) % n = (i % n + a % n) % n := Nat.add_mod i a n
  have e2 : (i + s) % n = (i % n + s) % n := by rw [Nat.mod_add_mod]
  unfold perL
  rw [e1, e2]
  have h4 := decide_eq_decide.1 h3
  omega
theorem pop_list {x : List Int} {n W : Nat} (hx : bit01 x) (hW : packL x = W) : bsum (fun i => (x.getD i 0).toNat) n = popc n W := by
 rw [popc_eq, ← hW]
 exact bsum_congr n fun i _ => (packL_bit hx i).symm
theorem perL_01 {x : List Int} (hx : bit01 x) (n i : Nat) : perL x n i = 0 ∨ perL x n i = 1 := hx.get _
theorem perL_per (x : List Int) (n i : Nat) : perL x n (i + n) = perL x n i := by unfold perL; rw [Nat.add_mod_right]
theorem sum_of {x : List Int} {n W : Nat} (hx : bit01 x) (hW : packL x = W) (h : 2 * popc n W = n + 1) : isum (fun i => 1 - 2 * perL x n i) n = -1 := by
 rw [isum_bits (perL_01 hx n)]
 have : bsum (fun i => (perL x n i).toNat) n = popc n W := by
  rw [← pop_list hx hW]
  exact bsum_congr n fun i hi => by unfold perL; rw [Nat.mod_eq_of_lt hi]
 rw [this]; omega
theorem corr_of {x y : List Int} {n W V t : Nat} (hx : bit01 x) (hy : bit01 y) (hl : y.length = n) (hW : packL x = W) (hV : packL y = V) (hn : 0 < n) (h : corrOk n W V t = true) :
  ∀ e, let S := isum (fun i => 1 - 2 * ((perL x n i + perL y n (i + e)) % 2)) n; S = -1 ∨ S = -(t : Int) ∨ S = (t : Int) - 2 := by
 intro e S
 have hlt : V < 2 ^ n := by rw [← hV, ← hl]; exact packL_lt hy
 have h1 := List.all_eq_true.1 h (e % n) (List.mem_range.2 (Nat.mod_lt _ hn))
 have hb : ∀ i, (perL x n i + perL y n (i + e)) % 2 = 0 ∨ (perL x n i + perL y n (i + e)) % 2 = 1 := fun i => by omega
 have hS : S = n - 2 * (bsum (fun i => ((perL x n i + perL y n (i + e)) % 2).toNat) n : Nat) := isum_bits hb n
 have hp : bsum (fun i => ((perL x n i + perL y n (i + e)) % 2).toNat) n = popc n (W ^^^ rotN n (e % n) V) := by
  rw [popc_eq]
  refine bsum_congr n fun i hi => ?_
  have b1 := hx.get i
  have b2 := hy.get ((i + e % n) % n)
  show _ = ((W ^^^ rotN n (e % n) V).testBit i).toNat
  rw [Nat.testBit_xor, rotN_bit hlt (Nat.mod_lt _ hn) hi, ← hW, ← hV, list_bit hx, list_bit hy, xor_dec b1 b2]
  have e1 : (i + e) % n = (i + e % n) % n := by rw [Nat.add_mod_mod]
  unfold perL
  rw [Nat.mod_eq_of_lt hi, e1]
  have : (x.getD i 0 + y.getD ((i + e % n) % n) 0) % 2 = 0 ∨ (x.getD i 0 + y.getD ((i + e % n) % n) 0) % 2 = 1 := by omega
  rcases this with h | h <;> rw [h] <;> rfl
 rw [hp] at hS
 simp only [Bool.or_eq_true] at h1
 rcases h1 with (h1 | h1) | h1 <;> have h1 := Nat.eq_of_beq_eq_true h1 <;> omega
theorem pair_of {x y : List Int} {n t W V : Nat} (hn : 0 < n) (hx : bit01 x) (hy : bit01 y) (lx : x.length = n) (ly : y.length = n) (hW : packL x = W) (hV : packL y = V) (s1 : saOk n W = true) (s2 : saOk n V = true) (h1 : 2 * popc n W = n + 1) (h2 : 2 * popc n V = n + 1) (hc : corrOk n W V t = true) :
  Pair n t (perL x n) (perL y n) :=
 ⟨hn, perL_01 hx n, perL_01 hy n, perL_per x n, perL_per y n, sa_of hx lx hW hn s1, sa_of hy ly hV hn s2, sum_of hx hW h1, sum_of hy hV h2, corr_of hx hy ly hW hV hn hc⟩
theorem w51 : packL (bitsL 5 1) = 440580895 := by decide +kernel
theorem w52 : packL (bitsL 5 2) = 319508959 := by decide +kernel
theorem pair5 : Pair 31 9 (perL (bitsL 5 1) 31) (perL (bitsL 5 2) 31) :=
 pair_of (by decide) bitsL_01 bitsL_01 (bitsL_length 5 1) (bitsL_length 5 2) w51 w52 (by decide +kernel) (by decide +kernel) (by decide +kernel) (by decide +kernel) (by decide +kernel)
theorem w61 : packL (bitsL 6 1) = 3114073359753873471 := by decide +kernel
theorem w62 : packL (bitsL 6 2) = 3765794974394322623 := by decide +kernel
theorem pair6 : Pair 63 17 (perL (bitsL 6 1) 63) (perL (bitsL 6 2) 63) :=
 pair_of (by decide) bitsL_01 bitsL_01 (bitsL_length 6 1) (bitsL_length 6 2) w61 w62 (by decide +kernel) (by decide +kernel) (by decide +kernel) (by decide +kernel) (by decide +kernel)
theorem w71 : packL (bitsL 7 1) = 19633041171262327947611635764423014527 := by decide +kernel
theorem w72 : packL (bitsL 7 2) = 79058819457452495440679678893767108735 := by decide +kernel
theorem pair7 : Pair 127 17 (perL (bitsL 7 1) 127) (perL (bitsL 7 2) 127) :=
 pair_of (by decide) bitsL_01 bitsL_01 (bitsL_length 7 1) (bitsL_length 7 2) w71 w72 (by decide +kernel) (by decide +kernel) (by decide +kernel) (by decide +kernel) (by decide +kernel)
def thrT (d : Int) : Int := if d = 5 then 9 else 17
theorem pair_deg {d : Int} (hd : d = 5 ∨ d = 6 ∨ d = 7) : Pair (lenN d) (thrT d) (perL (bitsL d 1) (lenN d)) (perL (bitsL d 2) (lenN d)) := by
 rcases hd with rfl | rfl | rfl
 ·exact pair5
 ·exact pair6
 ·exact pair7
theorem codeB_mix {d : Int} {p : Nat} (hp : 1 ≤ p) (i : Nat) (hi : i < lenN d) : codeB d p i = mixB (perL (bitsL d 1) (lenN d)) (perL (bitsL d 2) (lenN d)) (decide (p ≠ 2)) (decide (p ≠ 1)) (p - 3) i := by
 unfold codeB mixB perL
 have h1 := bit01_getD (bitsL_01 (d := d) (w := 1)) i
 have h2 := bit01_getD (bitsL_01 (d := d) (w := 2)) i
 by_cases c1 : p = 1
 ·subst c1
  show (bitsL d 1).getD i 0 = ((bitsL d 1).getD (i % lenN d) 0 + 0) % 2
  rw [Nat.mod_eq_of_lt hi]; omega
 ·by_cases c2 : p = 2
  ·subst c2
   show (bitsL d 2).getD i 0 = (0 + (bitsL d 2).getD ((i + 0) % lenN d) 0) % 2
   rw [Nat.add_zero, Nat.mod_eq_of_lt hi]; omega
  ·rw [if_neg (by omega), if_neg (by omega), Nat.mod_eq_of_lt hi, show ((p : Int) - 3).toNat = p - 3 by omega]
   simp [c1, c2]
def prodS (d : Int) (p q k : Nat) : Int := isum (fun i => (codeL d p).getD i 0 * (codeL d q).getD ((i + k) % lenN d) 0) (lenN d)
theorem three {d : Int} (hd : d = 5 ∨ d = 6 ∨ d = 7) {p q k : Nat} (hp : 1 ≤ p ∧ p ≤ lenN d + 2) (hq : 1 ≤ q ∧ q ≤ lenN d + 2) (hk : k < lenN d) :
  (p = q ∧ k = 0 ∧ prodS d p q k = lenN d) ∨ (¬ (p = q ∧ k = 0) ∧ (prodS d p q k = -1 ∨ prodS d p q k = -thrT d ∨ prodS d p q k = thrT d - 2)) := by
 have P := pair_deg hd
 have hlen : 31 ≤ lenN d := by rcases hd with rfl | rfl | rfl <;> decide
 have hthr : thrT d = 9 ∨ thrT d = 17 := by unfold thrT; split <;> simp
 have h := mix_three P (decide (p ≠ 2)) (decide (p ≠ 1)) (decide (q ≠ 2)) (decide (q ≠ 1)) (p - 3) (q - 3) k (by by_cases c : p = 2 <;> simp [c]) (by by_cases c : q = 2 <;> simp [c])
 have e : prodS d p q k = isum (fun i => (1 - 2 * mixB (perL (bitsL d 1) (lenN d)) (perL (bitsL d 2) (lenN d)) (decide (p ≠ 2)) (decide (p ≠ 1)) (p - 3) i) * (1 - 2 * mixB (perL (bitsL d 1) (lenN d)) (perL (bitsL d 2) (lenN d)) (decide (q ≠ 2)) (decide (q ≠ 1)) (q - 3) (i + k))) (lenN d) := by
  refine isum_congr _ fun i hi => ?_
  have hm : (i + k) % lenN d < lenN d := Nat.mod_lt _ (by omega)
  rw [codeL_get hi, codeL_get hm, codeB_mix hp.1 i hi, codeB_mix hq.1 _ hm]
  congr 2
  unfold mixB perL
  rw [Nat.mod_mod, Nat.mod_add_mod]
 have hself : p = q → k = 0 → prodS d p q k = lenN d := by
  rintro rfl rfl
  have : prodS d p p 0 = isum (fun _ => 1) (lenN d) := isum_congr _ fun i hi => by
   have hm : (i + 0) % lenN d = i := Nat.mod_eq_of_lt (by omega)
   rw [hm, codeL_get hi]
   rcases codeB_01 d p i with h | h <;> rw [h] <;> rfl
  rw [this]
  have : ∀ m, isum (fun _ => 1) m = m := by
   intro m
   induction m with
   | zero => rfl
   | succ m ih => simp only [isum, ih]; omega
  exact this _
 by_cases c : p = q ∧ k = 0
 ·exact .inl ⟨c.1, c.2, hself c.1 c.2⟩
 ·refine .inr ⟨c, ?_⟩
  rw [e]
  rcases h with ⟨a1, a2, a3, a4, _⟩ | h
  ·exfalso
   apply c
   have e1 := decide_eq_decide.1 a1
   have e2 := decide_eq_decide.1 a2
   simp only [decide_eq_true_eq] at a3 a4
   have hkm : k % lenN d = k := Nat.mod_eq_of_lt hk
   by_cases p2 : p = 2
   ·have q2 : q = 2 := by omega
    have h4 := a4 (by omega)
    subst p2; subst q2
    simp only [show 2 - 3 = 0 from rfl, Nat.zero_mod, Nat.add_zero] at h4
    exact ⟨rfl, by omega⟩
   ·have hk0 : k = 0 := by have := a3 p2; omega
    by_cases p1 : p = 1
    ·exact ⟨by omega, hk0⟩
    ·have h4 := a4 p1
     have q1 : q ≠ 1 := by omega
     have q2 : q ≠ 2 := by omega
     rw [hk0, Nat.zero_add, Nat.mod_eq_of_lt (by omega), Nat.mod_eq_of_lt (by omega)] at h4
     exact ⟨by omega, hk0⟩
  ·exact h
end Go.Ae
/- The examples of layer 8, run. -/
set_option linter.unusedSimpArgs false
set_option linter.unusedVariables false
namespace Go.Ae
section
variable {C : Ctx}
end
end Go.Ae
/- Find, of the program and of the reference; the statement on finding. -/
set_option linter.unusedSimpArgs false
set_option linter.unusedVariables false
namespace Go.Ae
section
variable {C : Ctx}
end
end Go.Ae
/- Rotations of codes are all different. -/
set_option linter.unusedSimpArgs false
set_option linter.unusedVariables false
namespace Go.Ae
def smallD (d : Int) : Prop := d = 5 ∨ d = 6 ∨ d = 7
theorem smallD.len {d : Int} (h : smallD d) : lenOk d = true ∧ 31 ≤ lenN d ∧ lenN d ≤ 127 ∧ (thrT d = 9 ∨ (thrT d = 17 ∧ 63 ≤ lenN d)) := by
 rcases h with rfl | rfl | rfl <;> decide
/-! ### The examples -/
def u5 : List Int := [1, 1, 1, 1, 1, 0, 0, 0, 1, 1, 0, 1, 1, 1, 0, 1, 0, 1, 0, 0, 0, 0, 1, 0, 0, 1, 0, 1, 1, 0, 0]
def v5 : List Int := runL [0, 2, 3, 4] [1, 1, 1, 1, 1] 31
section
variable {C : Ctx}
theorem Degree_spec (hC : Has C T88) {x : Int} {h : Heap} (hx : In64 x) : ACalls C 88 [.int .i64 x] h (fun r h' => r = .int .i64 (5 + x % 3) ∧ h' = h) := by
 have h1 := Int.emod_nonneg x (show (3 : Int) ≠ 0 by decide)
 have h2 := Int.emod_lt_of_pos x (show (0 : Int) < 3 by decide)
 refine zf hC tab88 ?_; simp only [B88]; refine zs ?_
 refine ACallsK.eq (Turn_spec (zu hC T23) hx (by decide)) ?_
 exact ze
end
end Go.Ae
/- Scenes of one emitter, of the reference. -/
set_option linter.unusedSimpArgs false
set_option linter.unusedVariables false
namespace Go.Ae
theorem atV_in {p : PlanP} {e : EmitP} (ok : EmOk p e) (n : Int) : inS 127000 (atV p e n) := by
 have am := ok.en.2.2.1
 have pm := ok.pn.2.2.2.2
 have cp := chip_pm ok (ok.per n).1
 have bb := ok.bit (e.pl p n)
 have cl := carP_le (phI_u32 e.ph e.st (e.pl p n))
 unfold atV inS
 dsimp only
 generalize chipI p e (n - e.sta p (e.pl p n)) = x at *
 generalize bitI p e (e.pl p n) = y at *
 generalize carP (phI e.ph e.st (e.pl p n)) = cc at *
 obtain ⟨c1, c2⟩ := cc
 dsimp only at *
 have q : ∃ g : Int, e.amp * x * (1 - 2 * y) = g ∧ -1000 ≤ g ∧ g ≤ 1000 := by
  refine ⟨_, rfl, ?_⟩
  rcases cp with rfl | rfl <;> rcases bb with rfl | rfl <;> omega
 obtain ⟨g, hg, g1, g2⟩ := q
 rw [hg]
 have h1 := mul_bd (k := g) (s := c1) (K := 1000) (S := 127) ⟨g1, g2⟩ ⟨cl.1, cl.2.1⟩
 have h2 := mul_bd (k := g) (s := c2) (K := 1000) (S := 127) ⟨g1, g2⟩ ⟨cl.2.2.1, cl.2.2.2⟩
 exact ⟨by omega, by omega⟩
theorem RI.apart {h : Heap} {v : AV} {l : List Int} {j : Nat} {vs : List AV} {wr : Bool} {u : Nat} (H : RI h v l) (hl : 0 < l.length) (h0 : l.getD 0 0 ≠ 0) (hg : h.get j = some (.cells vs wr u)) (hv : ∀ x ∈ vs, x = .int .i64 0) : j ∉ v.ids := by
 obtain ⟨_, _, ⟨rfl, h1⟩ | ⟨i, o, c, ws, wr', u', rfl, hg', hle, hc, _⟩⟩ := H
 ·simp [AV.ids]
 ·intro hj
  simp only [AV.ids, List.mem_singleton] at hj
  subst hj
  rw [hg] at hg'
  cases hg'
  have e : (ints l)[0]? = some (.int .i64 (l.getD 0 0)) := by simp [ints, hl]
  rw [← hc] at e
  have := hv _ (List.mem_of_mem_drop (List.mem_of_mem_take (List.mem_of_getElem? e)))
  injection this with _ q
  exact h0 q
theorem RI.lt_ids {h : Heap} {v : AV} {l : List Int} (H : RI h v l) : ∀ i ∈ v.ids, i < h.size := by
 obtain ⟨a, b, ⟨rfl, h1⟩ | ⟨i, o, c, ws, wr', u', rfl, hg', hle, hc, x⟩⟩ := H
 ·simp [AV.ids]
 ·intro j hj
  simp only [AV.ids, List.mem_singleton] at hj
  subst hj
  exact Heap.lt_of_get hg'
theorem RI.off {h h' : Heap} {v : AV} {l : List Int} (H : RI h v l) (hh : ∀ i ∈ v.ids, h'.get i = h.get i) : RI h' v l := by
 obtain ⟨a, b, ⟨rfl, h1⟩ | ⟨i, o, c, ws, wr', u', rfl, hg', hle, hc, x⟩⟩ := H
 ·exact ⟨a, b, .inl ⟨rfl, h1⟩⟩
 ·exact ⟨a, b, .inr ⟨i, o, c, ws, wr', u', rfl, (hh i (by simp [AV.ids])).trans hg', hle, hc, x⟩⟩
section
variable {C : Ctx}
end
end Go.Ae
/- Sums of levels with codes, in plain numbers. -/
set_option linter.unusedSimpArgs false
set_option linter.unusedVariables false
namespace Go.Ae
def atP (s : List (Int × Int)) (i : Int) : Int × Int := if i < 0 ∨ (s.length : Int) ≤ i then (0, 0) else s.getD i.toNat (0, 0)
def mulP (x : Int × Int) (c : Int) : Int × Int := (x.1 * c, x.2 * c)
def sumK (s : List (Int × Int)) (c : List Int) (a : Int) : Nat → Int × Int
 | 0 => (0, 0)
 | k + 1 => addP (sumK s c a k) (mulP (atP s (a + (k : Nat))) (c.getD k 0))
def sumP (s : List (Int × Int)) (c : List Int) (a : Int) : Int × Int := sumK s c a c.length
theorem inS_mono {A B : Int} {x : Int × Int} (h : inS A x) (hB : A ≤ B) : inS B x := by unfold inS at *; omega
theorem inS_add {A B : Int} {x y : Int × Int} (h : inS A x) (h' : inS B y) : inS (A + B) (addP x y) := by unfold inS addP at *; simp only; omega
theorem atP_le {s : List (Int × Int)} (h : ∀ x ∈ s, inS 127 x) (i : Int) : inS 127 (atP s i) := by
 unfold atP
 split
 ·unfold inS; simp
 ·exact h _ (getP_mem (by omega))
theorem mul_one {x c B : Int} (hx : -B ≤ x ∧ x ≤ B) (hc : -1 ≤ c ∧ c ≤ 1) : -B ≤ x * c ∧ x * c ≤ B := by
 rcases (show c = -1 ∨ c = 0 ∨ c = 1 by omega) with rfl | rfl | rfl <;> omega
theorem mulP_le {x : Int × Int} {c B : Int} (hx : inS B x) (hc : -1 ≤ c ∧ c ≤ 1) : inS B (mulP x c) := ⟨mul_one hx.1 hc, mul_one hx.2 hc⟩
theorem sumK_le {s : List (Int × Int)} {c : List Int} {a : Int} (hs : ∀ x ∈ s, inS 127 x) (hc : one1 c) : ∀ k : Nat, inS (127 * k) (sumK s c a k)
 | 0 => by unfold inS sumK; simp
 | k + 1 => by
  have := inS_add (sumK_le (a := a) hs hc k) (mulP_le (atP_le hs (a + (k : Nat))) (hc.get k))
  rw [sumK]
  exact inS_mono this (by omega)
theorem sumK_low {s : List (Int × Int)} {c : List Int} {a : Int} : ∀ k : Nat, (∀ j : Nat, j < k → a + j < 0) → sumK s c a k = (0, 0)
 | 0, _ => rfl
 | k + 1, h => by
  rw [sumK, sumK_low k (fun j hj => h j (by omega))]
  have := h k (by omega)
  unfold atP
  rw [if_pos (by omega)]
  simp [addP, mulP]
theorem sumK_high {s : List (Int × Int)} {c : List Int} {a : Int} {k : Nat} (h : ∀ j : Nat, k ≤ j → (s.length : Int) ≤ a + j) : ∀ m : Nat, sumK s c a (k + m) = sumK s c a k
 | 0 => rfl
 | m + 1 => by
  rw [← Nat.add_assoc, sumK, sumK_high h m]
  have := h (k + m) (by omega)
  unfold atP
  rw [if_pos (by omega)]
  simp [addP, mulP]
theorem atP_in {s : List (Int × Int)} {i : Int} (h0 : 0 ≤ i) (h1 : i < s.length) : atP s i = s.getD i.toNat (0, 0) := by unfold atP; rw [if_neg (by omega)]
def bankErr (s : List (Int × Int)) (d o p a : Int) : Int := if 1048576 < s.length then 4 else if ¬ ∀ x ∈ s, inS 127 x then 2 else if sampErr d o [p] ≠ 0 then 2 else if a < -2000000 ∨ 2000000 < a then 2 else 0
end Go.Ae
/- Lists of emitters; scenes, in plain numbers. -/
set_option linter.unusedSimpArgs false
set_option linter.unusedVariables false
namespace Go.Ae
def ecell (q : EmitP × AV) : List AV := [.int .i64 q.1.prn, .int .i64 q.1.dl, .int .i64 q.1.rt, .int .u32 q.1.st, .int .u32 q.1.ph, .int .i64 q.1.amp, .int .i64 q.1.ba, q.2]
def eD : EmitP := ⟨0, 0, 0, 0, 0, 0, 0, []⟩
def emC (L : List (EmitP × AV)) : List AV := L.flatMap ecell
theorem emC_drop : ∀ (L : List (EmitP × AV)) (i : Nat), (emC L).drop (i * 8) = emC (L.drop i)
 | L, 0 => by simp
 | [], i + 1 => by simp [emC]
 | q :: L, i + 1 => by
  have e : (emC (q :: L)).drop ((i + 1) * 8) = (emC L).drop (i * 8) := by
   show (ecell q ++ emC L).drop ((i + 1) * 8) = _
   rw [List.drop_append]
   have : (ecell q).length = 8 := rfl
   rw [this, List.drop_eq_nil_of_le (by rw [this]; omega), List.nil_append]
   congr 1; omega
  rw [e, emC_drop L i]; rfl
theorem emC_cut {L : List (EmitP × AV)} {i : Nat} (hi : i < L.length) : cut (emC L) (i * 8) 8 = ecell L[i] := by
 unfold cut
 rw [emC_drop, List.drop_eq_getElem_cons hi]
 show (ecell L[i] ++ emC (L.drop (i + 1))).take 8 = _
 rw [List.take_append]
 have : (ecell L[i]).length = 8 := rfl
 rw [this]; simp [ecell]
theorem emC_get {L : List (EmitP × AV)} {i off : Nat} (hi : i < L.length) (ho : off < 8) : (emC L)[i * 8 + off]? = (ecell L[i])[off]? := by
 have e := emC_cut hi
 rw [← e]
 unfold cut
 rw [List.getElem?_take_of_lt ho, List.getElem?_drop]
theorem emC_snoc (L : List (EmitP × AV)) (q : EmitP × AV) : emC (L ++ [q]) = emC L ++ ecell q := by simp [emC]
def EmsI (h : Heap) (v : AV) (es : List EmitP) : Prop := ∃ L : List (EmitP × AV), L.map (·.1) = es ∧ SL h 8 v L.length (emC L) ∧ ∀ q ∈ L, RI h q.2 q.1.bits
theorem EmsI.mono {h h' : Heap} {v : AV} {es : List EmitP} (H : EmsI h v es) (hs : HSub h h') : EmsI h' v es := by
 obtain ⟨L, a, b, c⟩ := H
 exact ⟨L, a, b.mono hs, fun q hq => (c q hq).mono hs⟩
theorem EmsI.len {h : Heap} {v : AV} {es : List EmitP} (H : EmsI h v es) : lenA v = some (.int .i64 es.length) := by
 obtain ⟨L, rfl, b, _⟩ := H
 rw [List.length_map]; exact b.len
theorem EmsI.lt {h : Heap} {v : AV} {es : List EmitP} (H : EmsI h v es) : es.length < 9223372036854775808 := by
 obtain ⟨L, rfl, b, _⟩ := H
 rw [List.length_map]; exact b.lt
theorem EmsI.one {h : Heap} {v : AV} {es : List EmitP} (H : EmsI h v es) : v.one = true := by
 obtain ⟨L, rfl, b, _⟩ := H
 exact b.one
theorem EmsI.at {h : Heap} {v : AV} {es : List EmitP} (H : EmsI h v es) {i : Nat} (hi : i < es.length) : ∃ vb, idxA 8 v (.int .i64 (i : Nat)) = some (elA 8 v i) ∧
  (∀ h', HSub h h' → Ae.loadA h' true 8 (elA 8 v i) = some (emA (es.getD i eD) vb)) ∧ RI h vb (es.getD i eD).bits ∧ (∀ off : Nat, fieldAddrA off (elA 8 v i) = some (elF 8 v i off)) ∧
  (∀ h', HSub h h' → Ae.loadA h' false 1 (elF 8 v i 0) = some (.int .i64 (es.getD i eD).prn)) ∧ (∀ h', HSub h h' → Ae.loadA h' false 1 (elF 8 v i 1) = some (.int .i64 (es.getD i eD).dl)) := by
 obtain ⟨L, rfl, b, c⟩ := H
 rw [List.length_map] at hi
 have e : (L.map (·.1)).getD i eD = L[i].1 := by simp [List.getD_eq_getElem?_getD, hi]
 rw [e]
 refine ⟨L[i].2, b.idx ⟨by omega, by omega⟩, fun h' hs => ?_, c _ (List.getElem_mem hi), fun off => b.fldE i off hi, fun h' hs => ?_, fun h' hs => ?_⟩
 ·rw [(b.mono hs).loadA hi, emC_cut hi]; rfl
 ·rw [(b.mono hs).loadE hi (by decide), emC_get hi (by decide)]; rfl
 ·rw [(b.mono hs).loadE hi (by decide), emC_get hi (by decide)]; rfl
theorem EmsI.nil {h : Heap} : EmsI h .nilslice [] := ⟨[], rfl, ⟨rfl, by decide, .inl ⟨rfl, rfl⟩⟩, by simp⟩
def emsE (p : PlanP) (es : List EmitP) : Nat → Int
 | 0 => 0
 | k + 1 => if emsE p es k ≠ 0 then emsE p es k else if emitErr p (es.getD k eD) ≠ 0 then emitErr p (es.getD k eD) else if (∃ i, i < k ∧ (es.getD i eD).prn = (es.getD k eD).prn) then 8 else 0
theorem emsE_at {p : PlanP} {es : List EmitP} {k n : Nat} (h : emsE p es k ≠ 0) (hk : k ≤ n) : emsE p es n = emsE p es k := by
 induction n with
 | zero =>
  obtain rfl : k = 0 := by omega
  rfl
 | succ n ih =>
  rcases Nat.lt_or_ge n k with c | c
  ·obtain rfl : k = n + 1 := by omega
   rfl
  ·have := ih c
   have e : emsE p es (n + 1) = if emsE p es n ≠ 0 then emsE p es n else if emitErr p (es.getD n eD) ≠ 0 then emitErr p (es.getD n eD) else if (∃ i, i < n ∧ (es.getD i eD).prn = (es.getD n eD).prn) then 8 else 0 := rfl
   rw [e, if_pos (by rw [this]; exact h), this]
theorem emsE_ok {p : PlanP} {es : List EmitP} : ∀ {n : Nat}, emsE p es n = 0 → ∀ k, k < n → emitErr p (es.getD k eD) = 0
 | 0, _, k, hk => absurd hk (Nat.not_lt_zero k)
 | n + 1, h, k, hk => by
  unfold emsE at h
  split at h
  ·contradiction
  ·rename_i c
   split at h
   ·contradiction
   ·rename_i c2
    rcases Nat.lt_or_ge k n with x | x
    ·exact emsE_ok (Classical.not_not.1 c) k x
    ·obtain rfl : k = n := by omega
     exact Classical.not_not.1 c2
def makeErr (p : PlanP) (es : List EmitP) (ns : List (Int × Int)) (m : Int) : Int :=
 if p.err ≠ 0 then p.err else if 8 < es.length then 4 else if emsE p es es.length ≠ 0 then emsE p es es.length else if m < 0 ∨ 1048576 < m then 2 else if m < ns.length then 4 else if (∃ x ∈ ns, ¬ inS p.nz x) then 2 else 0
def scnV (p : PlanP) (es : List EmitP) (ns : List (Int × Int)) : Nat → Nat → Int × Int
 | 0, n => ns.getD n (0, 0)
 | k + 1, n => addP (scnV p es ns k n) (atV p (es.getD k eD) (n : Nat))
def scnL (p : PlanP) (es : List EmitP) (ns : List (Int × Int)) (k m : Nat) : List (Int × Int) := (List.range m).map (scnV p es ns k)
def scnP (p : PlanP) (es : List EmitP) (ns : List (Int × Int)) (k n m : Nat) : List (Int × Int) := (List.range m).map fun i => if i < n then scnV p es ns (k + 1) i else scnV p es ns k i
theorem scnL_length {p : PlanP} {es : List EmitP} {ns : List (Int × Int)} {k m : Nat} : (scnL p es ns k m).length = m := by simp [scnL]
theorem scnP_length {p : PlanP} {es : List EmitP} {ns : List (Int × Int)} {k n m : Nat} : (scnP p es ns k n m).length = m := by simp [scnP]
theorem scnP_zero {p : PlanP} {es : List EmitP} {ns : List (Int × Int)} {k m : Nat} : scnP p es ns k 0 m = scnL p es ns k m := by simp [scnP, scnL]
theorem scnP_all {p : PlanP} {es : List EmitP} {ns : List (Int × Int)} {k m : Nat} : scnP p es ns k m m = scnL p es ns (k + 1) m := by
 refine List.ext_getElem (by simp [scnP, scnL]) fun i h1 h2 => ?_
 have : i < m := by simpa [scnP] using h1
 simp [scnP, scnL, this]
theorem scnP_get {p : PlanP} {es : List EmitP} {ns : List (Int × Int)} {k n m : Nat} (h : n < m) : (scnP p es ns k n m).getD n (0, 0) = scnV p es ns k n := by
 simp [scnP, List.getD_eq_getElem?_getD, h]
theorem scnP_set {p : PlanP} {es : List EmitP} {ns : List (Int × Int)} {k n m : Nat} (h : n < m) : (scnP p es ns k n m).set n (scnV p es ns (k + 1) n) = scnP p es ns k (n + 1) m := by
 refine List.ext_getElem (by simp [scnP]) fun i h1 h2 => ?_
 simp only [scnP, List.getElem_set, List.getElem_map, List.getElem_range]
 by_cases c : n = i
 ·subst c; simp
 ·rw [if_neg c]
  by_cases c2 : i < n
  ·rw [if_pos c2, if_pos (by omega)]
  ·rw [if_neg c2, if_neg (by omega)]
theorem scnL_zero {p : PlanP} {es : List EmitP} {ns : List (Int × Int)} {m : Nat} (h : ns.length ≤ m) : ns ++ List.replicate (m - ns.length) (0, 0) = scnL p es ns 0 m := by
 refine List.ext_getElem (by simp [scnL]; omega) fun i h1 h2 => ?_
 simp only [scnL, List.getElem_map, List.getElem_range, scnV]
 rw [List.getD_eq_getElem?_getD, List.getElem_append]
 split
 ·rename_i c; rw [List.getElem?_eq_getElem c]; rfl
 ·rename_i c; rw [List.getElem?_eq_none (by omega), List.getElem_replicate]; rfl
theorem scnV_in {p : PlanP} {es : List EmitP} {ns : List (Int × Int)} (hn : p.numsOk) (hns : ∀ x ∈ ns, inS p.nz x) : ∀ (k n : Nat), (∀ i, i < k → EmOk p (es.getD i eD)) → inS (p.nz + 127000 * (k : Int)) (scnV p es ns k n)
 | 0, n, _ => by
  unfold scnV
  have nz := hn.2.2.2.2.2.2
  rcases Nat.lt_or_ge n ns.length with c | c
  ·have := hns _ (getP_mem c)
   simpa using this
  ·rw [List.getD_eq_getElem?_getD, List.getElem?_eq_none c]
   unfold inS
   simp only [Option.getD_none]
   omega
 | k + 1, n, h => by
  have a := scnV_in (ns := ns) hn hns k n (fun i hi => h i (by omega))
  have b := atV_in (h k (by omega)) (n : Int)
  have q := inS_add a b
  unfold scnV
  exact inS_mono q (by rw [Int.natCast_add]; omega)
theorem copy2 {h : Heap} {i n u : Nat} {c : Cap} {s : AV} {ns zs : List (Int × Int)} (hc : contentA h 2 s = some (ns.length, smps ns)) (hg : h.get i = some (.cells (smps zs) true u)) (hz : zs.length = n) (hn : ns.length ≤ n) :
  copyA h 2 (.slice i 0 n c) s = some (.int .i64 (ns.length : Nat), h.put i (.cells (smps (ns ++ zs.drop ns.length)) true u)) := by
 have m : min ns.length n = ns.length := by omega
 have tk : (smps ns).take (ns.length * 2) = smps ns := List.take_of_length_le (by rw [smps_length]; omega)
 have on : (smps ns).all AV.one = true := by
  simp only [List.all_eq_true]
  intro x hx
  unfold smps at hx
  obtain ⟨q, _, hq⟩ := List.mem_flatMap.1 hx
  simp only [List.mem_cons, List.not_mem_nil, or_false] at hq
  rcases hq with rfl | rfl <;> rfl
 have sp : splice (smps zs) 0 (smps ns) = smps (ns ++ zs.drop ns.length) := by
  rw [splice_gen (by rw [smps_length, smps_length]; omega)]
  rw [List.take_zero, List.nil_append, Nat.zero_add, smps_length, smps_drop]
  simp [smps]
 simp only [copyA, hc, hg, m, tk, Nat.zero_add]
 rw [if_pos ⟨by rw [smps_length]; omega, on⟩, sp]
end Go.Ae
/- Quiet plans; noise by numbers; aligned places. -/
set_option linter.unusedSimpArgs false
set_option linter.unusedVariables false
namespace Go.Ae
def quietOf (l : List Int) : PlanP := ⟨5 + someOf l 0 3, 1 + someOf l 1 3, 1 + someOf l 2 3, 2, 10 + someOf l 3 20, 10 + someOf l 3 20 + someOf l 5 3, someOf l 4 200, if someOf l 0 3 = 2 ∧ someOf l 7 2 = 1 then [1 + someOf l 6 30, 1 + someOf l 6 30 + 2] else [1 + someOf l 6 30]⟩
theorem quiet_nums (l : List Int) : (quietOf l).numsOk := by
 have h0 := someOf_range (l := l) (i := 0) (n := 3) (by omega)
 have h1 := someOf_range (l := l) (i := 1) (n := 3) (by omega)
 have h2 := someOf_range (l := l) (i := 2) (n := 3) (by omega)
 have h3 := someOf_range (l := l) (i := 3) (n := 20) (by omega)
 have h4 := someOf_range (l := l) (i := 4) (n := 200) (by omega)
 have h5 := someOf_range (l := l) (i := 5) (n := 3) (by omega)
 unfold PlanP.numsOk quietOf
 dsimp only
 refine ⟨?_, by omega, by omega, by omega, by omega, by omega, by omega⟩
 rcases (show someOf l 0 3 = 0 ∨ someOf l 0 3 = 1 ∨ someOf l 0 3 = 2 by omega) with e | e | e <;> rw [e] <;> decide
theorem quiet_prns (l : List Int) : (quietOf l).prns = [1 + someOf l 6 30] ∨ (quietOf l).prns = [1 + someOf l 6 30, 1 + someOf l 6 30 + 2] := by
 unfold quietOf
 dsimp only
 split
 ·exact .inr rfl
 ·exact .inl rfl
theorem quiet_err (l : List Int) : (quietOf l).err = 0 := by
 have h6 := someOf_range (l := l) (i := 6) (n := 30) (by omega)
 have hn := quiet_nums l
 have hN := lenN_eq hn.1
 have l31 : 31 ≤ lenN (quietOf l).d := by
  have hc := lenOk_cases hn.1
  generalize (quietOf l).d = d at *
  rcases hc with e | e | e | e | e <;> rw [e] <;> decide
 unfold PlanP.err
 rw [if_pos hn]
 rcases quiet_prns l with e | e
 ·rw [e, if_neg (by simp), if_neg (by simp)]
  rw [prnsErr, if_neg (by omega), if_neg (by simp), prnsErr]
 ·rw [e, if_neg (by simp), if_neg (by simp)]
  rw [prnsErr, if_neg (by omega), if_neg (by simp), prnsErr, if_neg (by omega), if_neg (by simp; omega), prnsErr]
theorem quiet_64 (l : List Int) : (quietOf l).ok64 := by
 have h0 := someOf_range (l := l) (i := 0) (n := 3) (by omega)
 have h1 := someOf_range (l := l) (i := 1) (n := 3) (by omega)
 have h2 := someOf_range (l := l) (i := 2) (n := 3) (by omega)
 have h3 := someOf_range (l := l) (i := 3) (n := 20) (by omega)
 have h4 := someOf_range (l := l) (i := 4) (n := 200) (by omega)
 have h5 := someOf_range (l := l) (i := 5) (n := 3) (by omega)
 have h6 := someOf_range (l := l) (i := 6) (n := 30) (by omega)
 have hp := quiet_prns l
 refine ⟨?_, ?_, ?_, ?_, ?_, ?_, ?_, fun x hx => ?_⟩
 ·show In64 (5 + someOf l 0 3); unfold In64; omega
 ·show In64 (1 + someOf l 1 3); unfold In64; omega
 ·show In64 (1 + someOf l 2 3); unfold In64; omega
 ·show In64 2; unfold In64; omega
 ·show In64 (10 + someOf l 3 20); unfold In64; omega
 ·show In64 (10 + someOf l 3 20 + someOf l 5 3); unfold In64; omega
 ·show In64 (someOf l 4 200); unfold In64; omega
 ·unfold In64
  rcases hp with e | e <;> rw [e] at hx <;> simp only [List.mem_cons, List.not_mem_nil, or_false] at hx
  ·omega
  ·omega
def noiV (l : List Int) (z : Int) (i : Nat) : Int × Int :=
 if 0 < l.length ∧ l.getD (i % l.length) 0 % 3 = 0 then (z, -z) else (someOf l (2 * i % max 1 l.length) (2 * z + 1) - z, someOf l ((2 * i + 1) % max 1 l.length) (2 * z + 1) - z)
def noiL (l : List Int) (z : Int) (k : Nat) : List (Int × Int) := (List.range k).map (noiV l z)
theorem noiL_length (l : List Int) (z : Int) (k : Nat) : (noiL l z k).length = k := by simp [noiL]
theorem noiL_succ (l : List Int) (z : Int) (k : Nat) : noiL l z (k + 1) = noiL l z k ++ [noiV l z k] := by simp [noiL, List.range_succ]
theorem noiV_in {l : List Int} {z : Int} (hz : 0 ≤ z) (i : Nat) : inS z (noiV l z i) := by
 have h0 := someOf_range (l := l) (i := 2 * i % max 1 l.length) (n := 2 * z + 1) (by omega)
 have h1 := someOf_range (l := l) (i := (2 * i + 1) % max 1 l.length) (n := 2 * z + 1) (by omega)
 unfold noiV inS
 split
 ·dsimp only; omega
 ·dsimp only; omega
theorem noiL_in {l : List Int} {z : Int} (hz : 0 ≤ z) {k : Nat} : ∀ x ∈ noiL l z k, inS z x := by
 intro x hx
 obtain ⟨i, _, rfl⟩ := List.mem_map.1 hx
 exact noiV_in hz i
def alI (p : PlanP) (e : EmitP) (a k : Int) : Prop := e.dl + k * p.size + k * e.rt / 1024 - a < p.o ∧ a - (e.dl + k * p.size + k * e.rt / 1024) < p.o
instance (p : PlanP) (e : EmitP) (a k : Int) : Decidable (alI p e a k) := by unfold alI; exact inferInstance
def alB (p : PlanP) (e : EmitP) (a : Int) : Bool := (List.range 7).any fun i => decide (alI p e a (Int.tdiv (a - e.dl) p.size - 3 + (i : Nat)))
theorem appKB_gS {h : Heap} {k sz bytes i o n c m : Nat} {news vs : List AV} {u : Nat} (h1 : o + n * sz ≤ vs.length) (h2 : c < n + m) (h3 : (n + m) * bytes ≤ 1099511627776) :
  appKB h (some k) sz bytes i o n c m news (some (.cells vs true u)) = kept k h (h.get k) (fun k _ p => some (.slice k 0 (n + m) (.unk 0), p (.cells (cut vs o (n * sz) ++ news) true sz))) := by
 simp only [appKB]
 rw [if_pos h1, if_neg (by omega)]
 simp only [room_some, kept]
 cases hg : h.get k with
 | none => by_cases hn : k < h.size <;> simp [hn, Heap.nid, Heap.new] <;> omega
 | some b => simp
section
variable {C : Ctx}
theorem Floor346_spec (hC : Has C T346) {a b : Int} {h : Heap} (ha : In64 a) (hb : 1 ≤ b ∧ b ≤ 9223372036854775807) : ACalls C 346 [.int .i64 a, .int .i64 b] h (fun r h' => r = .int .i64 (a / b) ∧ h' = h) := by
 unfold In64 at ha
 have e : a / b = if Int.tmod a b < 0 then Int.tdiv a b - 1 else Int.tdiv a b := by
  have := Int.ediv_emod_unique (a := a) (b := b) (show 0 < b by omega) (r := if Int.tmod a b < 0 then Int.tmod a b + b else Int.tmod a b) (q := if Int.tmod a b < 0 then Int.tdiv a b - 1 else Int.tdiv a b)
  refine (this.2 ⟨?_, ?_, ?_⟩).1
  ·have := Int.tmod_add_mul_tdiv a b
   split
   ·rw [Int.mul_sub]; omega
   ·exact this
  ·have := Int.lt_tmod_of_pos a (show 0 < b by omega)
   split <;> omega
  ·have := Int.tmod_lt_of_pos a (show 0 < b by omega)
   split <;> omega
 have tm := Int.tmod_lt_of_pos a (show 0 < b by omega)
 have lt := Int.lt_tmod_of_pos a (show 0 < b by omega)
 have tq : -9223372036854775808 ≤ Int.tdiv a b ∧ Int.tdiv a b ≤ 9223372036854775807 ∧ (Int.tmod a b < 0 → -9223372036854775807 ≤ Int.tdiv a b) := by
  have e2 := Int.tmod_add_mul_tdiv a b
  generalize Int.tdiv a b = q at *
  refine ⟨?_, ?_, fun hneg => ?_⟩
  ·rcases Int.lt_or_le q 0 with c | c
   ·have : b * q ≤ 1 * q := Int.mul_le_mul_of_nonpos_right (by omega) (by omega)
    rcases Int.lt_or_le q (-9223372036854775808) with d | d
    ·have : b * q ≤ b * (-9223372036854775809) := Int.mul_le_mul_of_nonneg_left (by omega) (by omega)
     omega
    ·exact d
   ·omega
  ·rcases Int.lt_or_le q 9223372036854775808 with d | d
   ·omega
   ·have : b * 9223372036854775808 ≤ b * q := Int.mul_le_mul_of_nonneg_left (by omega) (by omega)
    omega
  ·rcases Int.lt_or_le q (-9223372036854775807) with d | d
   ·have : b * q ≤ b * (-9223372036854775808) := Int.mul_le_mul_of_nonneg_left (by omega) (by omega)
    omega
   ·exact d
 by_cases c : Int.tmod a b < 0
 ·rw [if_pos c] at e
  rw [e]
  refine zf hC tab346 ?_; simp only [B346]; exact ze1 @c
 ·rw [if_neg c] at e
  rw [e]
  refine zf hC tab346 ?_; simp only [B346]; exact ze1 @c
set_option maxHeartbeats 4000000 in
set_option maxRecDepth 20000 in
theorem Quiet_spec (hC : Has C T328) {v : AV} {l : List Int} {h : Heap} (hl : RI h v l) (hx : ∀ x ∈ l, In64 x) : ACalls C 328 [v] h (fun r h' => HSub h h' ∧ PlI h' r (quietOf l)) := by
 have hlt := hl.lt
 have S := fun (i : Nat) (n : Int) (hn : 1 ≤ n ∧ n ≤ 9223372036854775807) h1 (q : HSub h h1) => Some_spec (zu hC T45) (i := i) (hl.mono q) hx hn
 have h0 := someOf_range (l := l) (i := 0) (n := 3) (by omega)
 have h1 := someOf_range (l := l) (i := 1) (n := 3) (by omega)
 have h2 := someOf_range (l := l) (i := 2) (n := 3) (by omega)
 have h3 := someOf_range (l := l) (i := 3) (n := 20) (by omega)
 have h4 := someOf_range (l := l) (i := 4) (n := 200) (by omega)
 have h5 := someOf_range (l := l) (i := 5) (n := 3) (by omega)
 have h6 := someOf_range (l := l) (i := 6) (n := 30) (by omega)
 have h7 := someOf_range (l := l) (i := 7) (n := 2) (by omega)
 unfold PlI quietOf
 dsimp only
 have S0 := S 0 3 (by omega)
 have S1 := S 1 3 (by omega)
 have S2 := S 2 3 (by omega)
 have S3 := S 3 20 (by omega)
 have S4 := S 4 200 (by omega)
 have S5 := S 5 3 (by omega)
 have S6 := S 6 30 (by omega)
 have S7 := S 7 2 (by omega)
 generalize someOf l 0 3 = a0 at *
 generalize someOf l 1 3 = a1 at *
 generalize someOf l 2 3 = a2 at *
 generalize someOf l 3 20 = a3 at *
 generalize someOf l 4 200 = a4 at *
 generalize someOf l 5 3 = a5 at *
 generalize someOf l 6 30 = a6 at *
 generalize someOf l 7 2 = a7 at *
 have D := fun h1 => Degree_spec (h := h1) (zu hC T88) (x := a0) (by unfold In64; omega)
 have ed : a0 % 3 = a0 := by omega
 rw [ed] at D
 generalize hP : (if a0 = 2 ∧ a7 = 1 then [1 + a6, 1 + a6 + 2] else [1 + a6]) = P
 refine zf hC tab328 ?_; simp only [B328]; refine zs ?_
 refine ACallsK.eq (S0 _ (zh (HSub.refl h))) ?_
 refine zs ?_
 refine ACallsK.eq (D _) ?_
 refine zs ?_
 refine ACallsK.eq (S1 _ (zh (HSub.refl h))) ?_
 refine zs ?_
 refine ACallsK.eq (S2 _ (zh (HSub.refl h))) ?_
 refine zs ?_
 refine ACallsK.eq (S3 _ (zh (HSub.refl h))) ?_
 refine zs ?_
 refine ACallsK.eq (S4 _ (zh (HSub.refl h))) ?_
 refine zs ?_
 refine ACallsK.eq (S5 _ (zh (HSub.refl h))) ?_
 refine zs ?_
 refine ACallsK.eq (S6 _ (zh (HSub.refl h))) ?_
 refine zs ?_
 by_cases c : a0 = 2
 ·have c5 : 5 + a0 = 7 := by omega
  refine zs1 @c5 ?_
  refine ACallsK.eq (S7 _ (zh (HSub.refl h))) ?_
  by_cases c7 : a7 = 1
  ·rw [if_pos ⟨c, c7⟩] at hP
   subst hP
   refine zs5 @c7 @Heap.wf @cont_slice @contB_one @appKB_gS ?_
   refine ⟨(zh (HSub.refl h)), _, by rw [c5], ?_⟩
   have gr : ∀ (H : Heap) (k : Nat), H.get k = some (.cells [.int .i64 (1 + a6), .int .i64 (1 + a6 + 2)] true 1) → RI H (.slice k 0 2 (.unk 0)) [1 + a6, 1 + a6 + 2] := fun H k g => (show GrwI Heap.empty H (.slice k 0 2 (.unk 0)) [1 + a6, 1 + a6 + 2] from ⟨⟨Nat.zero_le _, fun i hi => absurd hi (Nat.not_lt_zero i)⟩, by simp [ints], by simp, .inr ⟨k, [], Nat.zero_le _, rfl, by rw [List.append_nil]; exact g⟩⟩).ri
   exact gr _ _ (by exact ze)
  ·rw [if_neg (fun q => c7 q.2)] at hP
   subst hP
   refine zs1 @c7 ?_
   exact ⟨(zh (HSub.refl h)), _, by rw [c5]; rfl, RI.known (l := [1 + a6]) (wr := true) (u := 0) (by refine zs ?_; rfl) ⟨rfl, by simp⟩ (Nat.le_refl _)⟩
 ·rw [if_neg (fun q => c q.1)] at hP
  subst hP
  have c5 : ¬ 5 + a0 = 7 := by omega
  refine zs1 @c5 ?_
  exact ⟨(zh (HSub.refl h)), _, rfl, RI.known (l := [1 + a6]) (wr := true) (u := 0) (by refine zs ?_; rfl) ⟨rfl, by simp⟩ (Nat.le_refl _)⟩
set_option maxHeartbeats 4000000 in
set_option maxRecDepth 20000 in
theorem NoiseOf_spec (hC : Has C T344) {vp v : AV} {p : PlanP} {l : List Int} {m : Nat} {h : Heap} (v1 : vp.one = true) (hz : 0 ≤ p.nz ∧ p.nz ≤ 100000) (hl : RI h v l) (hx : ∀ x ∈ l, In64 x) (hm : m ≤ 1048576) :
  ACalls C 344 [plA p vp, v, .int .i64 (m : Nat)] h (fun r h' => HSub h h' ∧ SI h' r (noiL l p.nz m)) := by
 have hlt := hl.lt
 have S := fun (i : Nat) h1 (q : HSub h h1) => Some_spec (zu hC T45) (i := i) (n := 2 * p.nz + 1) (hl.mono q) hx (by omega)
 have T3 := fun (x : Int) (hx : In64 x) h1 => Turn_spec (h := h1) (x := x) (n := 3) (zu hC T23) hx (by omega)
 have rg := fun i => someOf_range (l := l) (i := i) (n := 2 * p.nz + 1) (by omega)
 unfold plA
 have q6 : ([.int .i64 p.d, .int .i64 p.o, .int .i64 p.pb, .int .i64 p.w, .int .i64 p.mn, .int .i64 p.mx, .int .i64 p.nz, vp] : List AV)[6]? = some (.int .i64 p.nz) := rfl
 have pone : ([.int .i64 p.d, .int .i64 p.o, .int .i64 p.pb, .int .i64 p.w, .int .i64 p.mn, .int .i64 p.mx, .int .i64 p.nz, vp] : List AV).all AV.one = true := by simp only [List.all_cons, List.all_nil, one_int, v1, Bool.and_self]
 generalize ([.int .i64 p.d, .int .i64 p.o, .int .i64 p.pb, .int .i64 p.w, .int .i64 p.mn, .int .i64 p.mx, .int .i64 p.nz, vp] : List AV) = pc at *
 generalize p.nz = z at *
 have hs1 := HSub.push1 h (.cells pc true 0)
 have gp := get_push_eq (h := h) (b := .cells pc true 0) (i := h.size) rfl
 have L := hl.len
 refine zf hC tab344 ?_; simp only [B344]; refine zs ?_
 refine wp_loopI (fun j t h' => ∃ k : Nat, GrwS (h.push (.cells pc true 0)) h' (t 7) (noiL l z k) ∧ t 1 = v ∧ t 2 = .int .i64 (m : Nat) ∧ t 3 = .ptr h.size 0 ∧ t 8 = .int .i64 (k : Nat) ∧ k ≤ m ∧ j = m - k) (j0 := m)
  ⟨0, GrwS.nil _, rfl, rfl, rfl, rfl, by omega, rfl⟩ ?_
 rintro j t H ⟨k, A, e1, e2, e3, e8, hk, hj⟩
 have g := (A.sub.get _ (by simp)).trans gp
 have ll := noiL_length l z k
 have sH := hs1.trans A.sub
 refine zs2 @e2 @e8 ?_
 refine Br.by (fun c => ?_) (fun c => ?_)
 ·have r0 := rg (2 * k % max 1 l.length)
  have r1 := rg ((2 * k + 1) % max 1 l.length)
  have S0 := S (2 * k % max 1 l.length)
  have S1 := S ((2 * k + 1) % max 1 l.length)
  generalize hY : someOf l (2 * k % max 1 l.length) (2 * z + 1) = y0 at *
  generalize hY1 : someOf l ((2 * k + 1) % max 1 l.length) (2 * z + 1) = y1 at *
  have em : ((max 1 l.length : Nat) : Int) = max 1 (l.length : Int) := by omega
  have e0 : ((2 * k % max 1 l.length : Nat) : Int) = 2 * (k : Int) % max 1 (l.length : Int) := by rw [Int.natCast_emod, em]; simp only [Int.natCast_mul, Int.natCast_add, Int.natCast_one, Int.cast_ofNat_Int]
  have e0' : (((2 * k + 1) % max 1 l.length : Nat) : Int) = (2 * (k : Int) + 1) % max 1 (l.length : Int) := by rw [Int.natCast_emod, em]; simp only [Int.natCast_mul, Int.natCast_add, Int.natCast_one, Int.cast_ofNat_Int]
  rw [e0] at S0
  rw [e0'] at S1
  refine zs6 @e1 @e3 @e8 @L @g @q6 ?_
  refine ACallsK.eq (S0 _ sH) ?_
  refine zs6 @e1 @e3 @e8 @L @g @q6 ?_
  refine ACallsK.eq (S1 _ sH) ?_
  refine zs6 @e1 @e3 @e8 @L @g @q6 ?_
  have fin : ∀ x y, noiV l z k = (x, y) → (∀ (H' : Heap), HSub H H' → appendA H' none 2 16 (t 7) 1 [.int .i64 x, .int .i64 y] = some (.slice H'.size 0 (k + 1) (.unk 0), snocH H' none (t 7) 2 (smps (noiL l z (k + 1))))) ∧
    GrwS (h.push (.cells pc true 0)) (snocH (H.push (.cells [.int .i64 x, .int .i64 y] true 0)) none (t 7) 2 (smps (noiL l z (k + 1)))) (.slice (H.size + 1) 0 (k + 1) (.unk 0)) (noiL l z (k + 1)) := by
   intro x y e
   rw [noiL_succ, e]
   have q := A.snoc (x := x) (y := y) (HSub.push1 H (.cells [.int .i64 x, .int .i64 y] true 0)) (by omega)
   rw [ll] at q
   refine ⟨fun H' hH => ?_, by simpa using q⟩
   rw [A.app (x := x) (y := y) H' hH (by omega), ll]
  refine Br.by (fun c1 => ?_) (fun c1 => ?_)
  ·have hk2 : k % l.length < l.length := Nat.mod_lt _ (by omega)
   have hx2 := hx _ (getD_mem hk2)
   have e2k : ((k % l.length : Nat) : Int) = (k : Int) % (l.length : Int) := Int.natCast_emod _ _
   have ix := hl.idx (kk := .i64) (k := ((k % l.length : Nat) : Int)) ⟨by omega, by omega⟩
   have ldk := fun H' (q : HSub h H') => (hl.mono q).load (k := k % l.length) hk2
   have T3k := T3 _ hx2
   rw [Int.toNat_natCast, e2k] at ix
   refine zs6 @e1 @e8 @L @ix @ldk @sH ?_
   refine ACallsK.eq (T3k _) ?_
   by_cases c2 : l.getD (k % l.length) 0 % 3 = 0
   ·have f := fin z (-z) (by unfold noiV; rw [if_pos ⟨by omega, c2⟩])
    have f1 := f.1
    have e0 : 0 - z = -z := by omega
    refine zs9 @c2 @e3 @e8 @g @q6 @cont_slice @contB_two @f1 @e0 ?_
    exact ⟨_, ⟨k + 1, f.2, e1, e2, by omega, by omega, rfl⟩, by omega⟩
   ·have f := fin (y0 - z) (y1 - z) (by unfold noiV; rw [if_neg (fun q => c2 q.2), hY, hY1])
    have f1 := f.1
    refine zs5 @c2 @e8 @cont_slice @contB_two @f1 ?_
    exact ⟨_, ⟨k + 1, f.2, e1, e2, e3, by omega, by omega, rfl⟩, by omega⟩
  ·have f := fin (y0 - z) (y1 - z) (by unfold noiV; rw [if_neg (fun q => c1 (by omega)), hY, hY1])
   have f1 := f.1
   refine zs6 @gV_u @c1 @e8 @cont_slice @contB_two @f1 ?_
   exact ⟨_, ⟨k + 1, f.2, e1, e2, e3, by omega, by omega, rfl⟩, by omega⟩
 ·obtain rfl : k = m := by omega
  refine zs ?_
  exact ⟨sH, A.si⟩
theorem Aligned_spec (hC : Has C T330) {vp vb : AV} {p : PlanP} {e : EmitP} {a : Int} {h : Heap} (v1 : vp.one = true) (b1 : vb.one = true) (pn : p.numsOk) (h0 : 0 ≤ e.dl ∧ e.dl < p.size) (hr : -64 ≤ e.rt ∧ e.rt ≤ 64) (ha : 0 ≤ a ∧ a ≤ 1048576) :
  ACalls C 330 [plA p vp, emA e vb, .int .i64 a] h (fun r h' => r = .bool (alB p e a) ∧ h' = h) := by
 refine ACalls.gc0 (P := fun r h' => r = .bool (alB p e a) ∧ HSub h h') ?_ (fun r h' hp => ⟨by rw [hp.1]; trivial, hp.2, hp.1, rfl⟩)
 have sz := size_range pn
 have hN := lenN_eq pn.1
 have hlc := lenOk_cases pn.1
 have po := pn.2.1
 have eN1 : ((lenN p.d + 1 : Nat) : Int) - 1 = lenN p.d := by omega
 have es : (lenN p.d : Int) * p.o = p.size := rfl
 have qr : -1048576 ≤ Int.tdiv (a - e.dl) p.size ∧ Int.tdiv (a - e.dl) p.size ≤ 1048576 := by
  have t1 := Int.natAbs_tdiv (a - e.dl) p.size
  have t2 : (Int.tdiv (a - e.dl) p.size).natAbs ≤ (a - e.dl).natAbs := by rw [t1]; exact Nat.div_le_self _ _
  omega
 have F := fun (x : Int) (hx : In64 x) h1 => Floor346_spec (h := h1) (a := x) (b := 1024) (zu hC T346) hx (by omega)
 unfold alB
 generalize hq : Int.tdiv (a - e.dl) p.size = q at *
 have mr : ∀ i : Int, -1048580 ≤ i → i ≤ 1048580 → -67109120 ≤ i * e.rt ∧ i * e.rt ≤ 67109120 := fun i h1 h2 => by
  have := mul_bd (k := i) (s := e.rt) (K := 1048580) (S := 64) ⟨h1, h2⟩ hr
  omega
 have ms : ∀ i : Int, -1048580 ≤ i → i ≤ 1048580 → -8589967360 ≤ i * p.size ∧ i * p.size ≤ 8589967360 := fun i h1 h2 => by
  have := mul_bd (k := i) (s := p.size) (K := 1048580) (S := 8184) ⟨h1, h2⟩ (by omega)
  omega
 unfold plA emA
 have alE : ∀ i, alI p e a i ↔ (e.dl + i * p.size + i * e.rt / 1024 - a < p.o ∧ a - (e.dl + i * p.size + i * e.rt / 1024) < p.o) := fun i => Iff.rfl
 generalize hB : ((List.range 7).any fun i => decide (alI p e a (q - 3 + (i : Nat)))) = B
 refine zf hC tab330 ?_; simp only [B330]; refine zs5 @Int.one_mul @hN.2.2 @eN1 @es @hq ?_
 refine wp_loopI (fun j t h' => h' = (h.push (.cells [.int .i64 p.d, .int .i64 p.o, .int .i64 p.pb, .int .i64 p.w, .int .i64 p.mn, .int .i64 p.mx, .int .i64 p.nz, vp] true 0)).push (.cells [.int .i64 e.prn, .int .i64 e.dl, .int .i64 e.rt, .int .u32 e.st, .int .u32 e.ph, .int .i64 e.amp, .int .i64 e.ba, vb] true 0) ∧ t 2 = .int .i64 a ∧ t 3 = .ptr h.size 0 ∧ t 4 = .ptr (h.size + 1) 0 ∧ t 7 = .int .i64 p.size ∧ t 8 = .int .i64 q ∧ ∃ k : Nat, t 9 = .int .i64 (q - 3 + (k : Nat)) ∧ k ≤ 7 ∧ j = 7 - k ∧ ∀ i : Nat, i < k → ¬ alI p e a (q - 3 + (i : Nat))) (j0 := 7)
  ⟨rfl, rfl, rfl, rfl, rfl, rfl, 0, by show AV.int .i64 (q - 3) = _; congr 1; omega, by omega, rfl, fun i hi => absurd hi (Nat.not_lt_zero i)⟩ ?_
 rintro j t H ⟨rfl, e2, e3, e4, e7, e8, k, e9, hk, hj, hn⟩
 refine zs2 @e8 @e9 ?_
 refine Br.by (fun c => ?_) (fun c => ?_)
 ·have hm := mr (q - 3 + (k : Nat)) (by omega) (by omega)
  have hs := ms (q - 3 + (k : Nat)) (by omega) (by omega)
  have Fk := F ((q - 3 + (k : Nat)) * e.rt) (by unfold In64; omega)
  have al := alE (q - 3 + (k : Nat))
  refine zs5 @e2 @e3 @e4 @e7 @e9 ?_
  refine ACallsK.eq (Fk _) ?_
  refine zs5 @e2 @e3 @e4 @e7 @e9 ?_
  have more : ¬ alI p e a (q - 3 + (k : Nat)) → ∀ i : Nat, i < k + 1 → ¬ alI p e a (q - 3 + (i : Nat)) := fun hk i hi => by
   rcases Nat.lt_or_ge i k with c | c
   ·exact hn i c
   ·obtain rfl : i = k := by omega
    exact hk
  have e10 : q - 3 + (k : Nat) + 1 = q - 3 + ((k + 1 : Nat) : Int) := by omega
  refine Br.by (fun c1 => ?_) (fun c1 => ?_)
  ·refine zs3 @e2 @e3 @gV_u ?_
   refine Br.by (fun c2 => ?_) (fun c2 => ?_)
   ·have hit : B = true := hB.symm.trans (List.any_eq_true.2 ⟨k, List.mem_range.2 (by omega), decide_eq_true (al.2 ⟨c1, c2⟩)⟩)
    refine zs1 @hit ?_
    exact (zh (HSub.refl h))
   ·refine zs2 @e9 @e10 ?_
    exact ⟨_, ⟨e2, e3, e4, e7, e8, k + 1, rfl, by omega, rfl, more (fun x => c2 (al.1 x).2)⟩, by omega⟩
  ·refine zs3 @e9 @gV_u @e10 ?_
   exact ⟨_, ⟨e2, e3, e4, e7, e8, k + 1, rfl, by omega, rfl, more (fun x => c1 (al.1 x).1)⟩, by omega⟩
 ·obtain rfl : k = 7 := by omega
  have none : B = false := hB.symm.trans (List.any_eq_false.2 fun i hi => by
   have := hn i (List.mem_range.1 hi)
   simp [this])
  refine zs1 @none ?_
  exact (zh (HSub.refl h))
end
end Go.Ae
/- Scenes of the reference, made of any emitters and noise. -/
set_option linter.unusedSimpArgs false
set_option linter.unusedVariables false
namespace Go.Ae
theorem mk_bad {p : PlanP} {es : List EmitP} {ns : List (Int × Int)} {m x : Int} {h h' : Heap} (hx : makeErr p es ns m = x) (h0 : x ≠ 0) (hs : HSub h h') :
  ∃ w, AV.tuple [.nilslice, .int .i64 x] = lstErr w (makeErr p es ns m) ∧ HSub h h' ∧ SI h' w (if makeErr p es ns m = 0 then scnL p es ns es.length m.toNat else []) ∧ ∀ i ∈ w.ids, h.size ≤ i := by
 refine ⟨.nilslice, by rw [hx]; rfl, hs, ?_, by simp [AV.ids]⟩
 rw [hx, if_neg h0]
 exact SI.nil
theorem emsE_bad {p : PlanP} {es : List EmitP} {k : Nat} (hk : k < es.length) (h0 : emsE p es k = 0) (h : emitErr p (es.getD k eD) ≠ 0) : emsE p es es.length = emitErr p (es.getD k eD) := by
 have e : emsE p es (k + 1) = emitErr p (es.getD k eD) := by
  show (if emsE p es k ≠ 0 then emsE p es k else if emitErr p (es.getD k eD) ≠ 0 then emitErr p (es.getD k eD) else _) = _
  rw [if_neg (by rw [h0]; decide), if_pos h]
 rw [emsE_at (k := k + 1) (by rw [e]; exact h) hk, e]
theorem emsE_two {p : PlanP} {es : List EmitP} {i k : Nat} (hk : k < es.length) (h0 : emsE p es k = 0) (h : emitErr p (es.getD k eD) = 0) (hi : i < k) (he : (es.getD i eD).prn = (es.getD k eD).prn) : emsE p es es.length = 8 := by
 have e : emsE p es (k + 1) = 8 := by
  show (if emsE p es k ≠ 0 then emsE p es k else if emitErr p (es.getD k eD) ≠ 0 then emitErr p (es.getD k eD) else if (∃ i, i < k ∧ (es.getD i eD).prn = (es.getD k eD).prn) then 8 else 0) = _
  rw [if_neg (by rw [h0]; decide), if_neg (by rw [h]; decide), if_pos ⟨i, hi, he⟩]
 rw [emsE_at (k := k + 1) (by rw [e]; decide) hk, e]
theorem emsE_next {p : PlanP} {es : List EmitP} {k : Nat} (h0 : emsE p es k = 0) (h : emitErr p (es.getD k eD) = 0) (hn : ∀ i, i < k → (es.getD i eD).prn ≠ (es.getD k eD).prn) : emsE p es (k + 1) = 0 := by
 show (if emsE p es k ≠ 0 then emsE p es k else if emitErr p (es.getD k eD) ≠ 0 then emitErr p (es.getD k eD) else if (∃ i, i < k ∧ (es.getD i eD).prn = (es.getD k eD).prn) then 8 else 0) = _
 rw [if_neg (by rw [h0]; decide), if_neg (by rw [h]; decide), if_neg (fun ⟨i, a, b⟩ => hn i a b)]
section
variable {C : Ctx}
set_option maxHeartbeats 4000000 in
set_option maxRecDepth 20000 in
theorem MakeR_spec (hC : Has C T232) {vp ve vn : AV} {p : PlanP} {es : List EmitP} {ns : List (Int × Int)} {m : Int} {h : Heap} (R : RI h vp p.prns) (h64 : p.ok64) (E : EmsI h ve es) (h65 : ∀ k, k < es.length → (es.getD k eD).ok64) (N : SI h vn ns) (hm : In64 m) :
  ACalls C 232 [plA p vp, ve, vn, .int .i64 m] h (fun r h' => ∃ w, r = lstErr w (makeErr p es ns m) ∧ HSub h h' ∧ SI h' w (if makeErr p es ns m = 0 then scnL p es ns es.length m.toNat else []) ∧ ∀ i ∈ w.ids, h.size ≤ i) := by
 have v1 := R.one
 have w1 := E.one
 have n1 := N.one
 unfold In64 at hm
 have kP := fun h1 (q : HSub h h1) => CheckPlanR_spec (zu hC T220) (v := plA p vp) ⟨vp, rfl, R.mono q⟩ h64
 have kE := fun (k : Nat) (hk : k < es.length) vb h1 (B : RI h1 vb (es.getD k eD).bits) (q : HSub h h1) => CheckR_spec (zu hC T224) (v := plA p vp) (w := emA (es.getD k eD) vb) ⟨vp, rfl, R.mono q⟩ ⟨vb, rfl, B⟩ h64 (h65 k hk)
 have kC := fun q (hq : In64 q) h1 => Code08_new (zu hC T77) (d := p.d) (p := q) (h := h1) h64.1 hq
 have kA := fun (k n : Nat) (hk : k < es.length) (ok : EmOk p (es.getD k eD)) (hn : n ≤ 1048576) vb vc h1 (B : RI h1 vb (es.getD k eD).bits) (W : RI h1 vc (codeL p.d (es.getD k eD).prn)) => at251_spec (zu hC T251) (n := (n : Int)) ok (h65 k hk) B W v1 (by omega)
 have zr := smps_replicate (p := (0, 0)) (n := m.toNat)
 simp only at zr
 unfold plA at *
 have q8 : loadB true 8 0 (some (.cells [.int .i64 p.d, .int .i64 p.o, .int .i64 p.pb, .int .i64 p.w, .int .i64 p.mn, .int .i64 p.mx, .int .i64 p.nz, vp] true 0)) = some (.agg [.int .i64 p.d, .int .i64 p.o, .int .i64 p.pb, .int .i64 p.w, .int .i64 p.mn, .int .i64 p.mx, .int .i64 p.nz, vp]) := rfl
 have q0 : ([.int .i64 p.d, .int .i64 p.o, .int .i64 p.pb, .int .i64 p.w, .int .i64 p.mn, .int .i64 p.mx, .int .i64 p.nz, vp] : List AV)[0]? = some (.int .i64 p.d) := rfl
 have q6 : ([.int .i64 p.d, .int .i64 p.o, .int .i64 p.pb, .int .i64 p.w, .int .i64 p.mn, .int .i64 p.mx, .int .i64 p.nz, vp] : List AV)[6]? = some (.int .i64 p.nz) := rfl
 have pone : ([.int .i64 p.d, .int .i64 p.o, .int .i64 p.pb, .int .i64 p.w, .int .i64 p.mn, .int .i64 p.mx, .int .i64 p.nz, vp] : List AV).all AV.one = true := by simp only [List.all_cons, List.all_nil, one_int, v1, Bool.and_self]
 generalize ([.int .i64 p.d, .int .i64 p.o, .int .i64 p.pb, .int .i64 p.w, .int .i64 p.mn, .int .i64 p.mx, .int .i64 p.nz, vp] : List AV) = pc at *
 have hs1 := HSub.push1 h (.cells pc true 0)
 have gp := get_push_eq (h := h) (b := .cells pc true 0) (i := h.size) rfl
 obtain ⟨M, hM⟩ : ∃ M, m.toNat = M := ⟨_, rfl⟩
 have El := E.len
 have Nl := N.len
 have Elt := E.lt
 have Nlt := N.lt
 have E1 := E.mono hs1
 have N1 := N.mono hs1
 refine zf hC tab232 ?_; simp only [B232]; refine zs1 @q8 ?_
 refine ACallsK.eq (kP _ hs1) ?_
 refine zs ?_
 refine Br.by (fun c => ?_) (fun c => ?_)
 ·refine zs ?_
  exact mk_bad (by unfold makeErr; rw [if_pos c]) c hs1
 have pz : p.err = 0 := Classical.not_not.1 c
 have hp : p.numsOk := by
  by_cases q : p.numsOk
  ·exact q
  ·exfalso; unfold PlanP.err at pz; rw [if_neg q] at pz; cases pz
 have nz := hp.2.2.2.2.2.2
 refine zs1 @El ?_
 refine Br.by (fun c1 => ?_) (fun c1 => ?_)
 ·refine zs ?_
  exact mk_bad (by unfold makeErr; rw [if_neg c, if_pos (by omega)]) (by decide) hs1
 refine zs ?_
 refine wp_loopI (fun j t h' => h' = h.push (.cells pc true 0) ∧ t 1 = ve ∧ t 2 = vn ∧ t 3 = .int .i64 m ∧ t 4 = .ptr h.size 0 ∧ ∃ k : Nat, t 11 = .int .i64 (k : Nat) ∧ k ≤ es.length ∧ j = es.length - k ∧ emsE p es k = 0) (j0 := es.length)
  ⟨rfl, rfl, rfl, rfl, rfl, 0, rfl, by omega, rfl, rfl⟩ ?_
 rintro j t h1 ⟨rfl, e1, e2, e3, e4, k, e11, hk, hj, ez⟩
 refine zs3 @e1 @e11 @El ?_
 refine Br.by (fun c2 => ?_) (fun c2 => ?_)
 ·have hk' : k < es.length := by omega
  obtain ⟨vb, i8, l8, B, f8, l0, l1⟩ := E1.at hk'
  have l8 := l8 _ (HSub.refl _)
  have l0k := l0 _ (HSub.refl _)
  have f0k := f8 0
  have mb : makeErr p es ns m = if emsE p es es.length ≠ 0 then emsE p es es.length else if m < 0 ∨ 1048576 < m then 2 else if m < ns.length then 4 else if (∃ x ∈ ns, ¬ inS p.nz x) then 2 else 0 := by
   unfold makeErr; rw [if_neg c, if_neg (by omega)]
  refine zs7 @e1 @e4 @e11 @gp @q8 @i8 @l8 ?_
  refine ACallsK.eq (kE k hk' vb _ B hs1) ?_
  refine zs ?_
  refine Br.by (fun c3 => ?_) (fun c3 => ?_)
  ·have eb := emsE_bad hk' ez c3
   refine zs ?_
   exact mk_bad (by rw [mb, eb, if_pos c3]) c3 hs1
  have c3 : emitErr p (es.getD k eD) = 0 := Classical.not_not.1 c3
  refine zs ?_
  refine wp_loopI (fun j u h' => h' = h.push (.cells pc true 0) ∧ u 1 = ve ∧ u 2 = vn ∧ u 3 = .int .i64 m ∧ u 4 = .ptr h.size 0 ∧ u 11 = .int .i64 (k : Nat) ∧ ∃ i : Nat, u 13 = .int .i64 (i : Nat) ∧ i ≤ k ∧ j = k - i ∧ ∀ x, x < i → (es.getD x eD).prn ≠ (es.getD k eD).prn) (j0 := k)
   ⟨rfl, e1, e2, e3, e4, e11, 0, rfl, by omega, rfl, fun x hx => absurd hx (Nat.not_lt_zero x)⟩ ?_
  rintro j2 u h1 ⟨rfl, e1, e2, e3, e4, e11, i, e13, hi, hj2, hne⟩
  refine zs2 @e11 @e13 ?_
  refine Br.by (fun c4 => ?_) (fun c4 => ?_)
  ·have hi' : i < es.length := by omega
   obtain ⟨vb2, i8b, _, _, f8b, l0b, _⟩ := E1.at hi'
   have l0b := l0b _ (HSub.refl _)
   have f0b := f8b 0
   refine zs9 @e1 @e11 @e13 @i8 @i8b @f0k @f0b @l0k @l0b ?_
   refine Br.by (fun c5 => ?_) (fun c5 => ?_)
   ·have et := emsE_two hk' ez c3 (i := i) (by omega) c5
    refine zs ?_
    exact mk_bad (by rw [mb, et]; rfl) (by decide) hs1
   ·refine zs1 @e13 ?_
    refine ⟨_, ⟨e1, e2, e3, e4, e11, i + 1, rfl, by omega, rfl, fun x hx => ?_⟩, by omega⟩
    rcases Nat.lt_or_ge x i with q | q
    ·exact hne x q
    ·obtain rfl : x = i := by omega
     exact c5
  ·refine zs1 @e11 ?_
   refine ⟨_, ⟨e1, e2, e3, e4, k + 1, rfl, by omega, rfl, emsE_next ez c3 (fun x hx => hne x (by omega))⟩, by omega⟩
 obtain rfl : k = es.length := by omega
 have mb : makeErr p es ns m = if m < 0 ∨ 1048576 < m then 2 else if m < ns.length then 4 else if (∃ x ∈ ns, ¬ inS p.nz x) then 2 else 0 := by
  unfold makeErr; rw [if_neg c, if_neg (by omega), if_neg (by rw [ez]; decide)]
 have eok := fun k hk => emit_ok (emsE_ok ez k hk)
 have hm0 : ¬ (m < 0 ∨ 1048576 < m) → (M : Int) = m ∧ M ≤ 1048576 := fun q => by omega
 refine zs1 @e3 ?_
 refine Br.by (fun c3 => ?_) (fun c3 => ?_)
 ·refine zs ?_
  exact mk_bad (by rw [mb, if_pos (.inl c3)]) (by decide) hs1
 refine zs1 @e3 ?_
 refine Br.by (fun c4 => ?_) (fun c4 => ?_)
 ·refine zs ?_
  exact mk_bad (by rw [mb, if_pos (.inr c4)]) (by decide) hs1
 have hm2 : (M : Int) = m ∧ M ≤ 1048576 := by omega
 refine zs3 @e2 @e3 @Nl ?_
 refine Br.by (fun c5 => ?_) (fun c5 => ?_)
 ·refine zs ?_
  exact mk_bad (by rw [mb, if_neg (by omega), if_pos c5]) (by decide) hs1
 have mb2 : makeErr p es ns m = if (∃ x ∈ ns, ¬ inS p.nz x) then 2 else 0 := by rw [mb, if_neg (by omega), if_neg c5]
 refine zs ?_
 refine wp_loopI (fun j u h' => h' = h.push (.cells pc true 0) ∧ u 1 = ve ∧ u 2 = vn ∧ u 3 = .int .i64 m ∧ u 4 = .ptr h.size 0 ∧ ∃ i : Nat, u 14 = .int .i64 (i : Nat) ∧ i ≤ ns.length ∧ j = ns.length - i ∧ ∀ x, x < i → inS p.nz (ns.getD x (0, 0))) (j0 := ns.length)
  ⟨rfl, e1, e2, e3, e4, 0, rfl, by omega, rfl, fun x hx => absurd hx (Nat.not_lt_zero x)⟩ ?_
 rintro j2 u h1 ⟨rfl, e1, e2, e3, e4, i, e14, hi, hj2, hin⟩
 refine zs3 @e2 @e14 @Nl ?_
 refine Br.by (fun c6 => ?_) (fun c6 => ?_)
 ·have hi' : i < ns.length := by omega
  have ni := N1.idx (kk := .i64) (k := (i : Nat)) ⟨by omega, by omega⟩
  rw [Int.toNat_natCast] at ni
  have n0 := N1.load0 hi'
  have n2 := N1.load1 hi'
  have nf0 := N1.fld i 0 hi'
  have nf1 := N1.fld i 1 hi'
  have gm := getP_mem hi'
  generalize hx : ns.getD i (0, 0) = x at n0 n2 gm
  have bad : ¬ inS p.nz x → makeErr p es ns m = 2 := fun q => by rw [mb2, if_pos ⟨x, gm, q⟩]
  unfold inS at bad
  refine zs10 @e2 @e4 @e14 @ni @nf0 @nf1 @n0 @n2 @gp @q6 ?_
  refine Br.by (fun d1 => ?_) (fun d1 => ?_)
  ·refine zs ?_
   exact mk_bad (bad (by omega)) (by decide) hs1
  refine zs10 @e2 @e4 @e14 @ni @nf0 @nf1 @n0 @n2 @gp @q6 ?_
  refine Br.by (fun d2 => ?_) (fun d2 => ?_)
  ·refine zs ?_
   exact mk_bad (bad (by omega)) (by decide) hs1
  refine zs10 @e2 @e4 @e14 @ni @nf0 @nf1 @n0 @n2 @gp @q6 ?_
  refine Br.by (fun d3 => ?_) (fun d3 => ?_)
  ·refine zs ?_
   exact mk_bad (bad (by omega)) (by decide) hs1
  refine zs10 @e2 @e4 @e14 @ni @nf0 @nf1 @n0 @n2 @gp @q6 ?_
  refine Br.by (fun d4 => ?_) (fun d4 => ?_)
  ·refine zs ?_
   exact mk_bad (bad (by omega)) (by decide) hs1
  refine zs1 @e14 ?_
  refine ⟨_, ⟨e1, e2, e3, e4, i + 1, rfl, by omega, rfl, fun y hy => ?_⟩, by omega⟩
  rcases Nat.lt_or_ge y i with q | q
  ·exact hin y q
  ·obtain rfl : y = i := by omega
   rw [hx]; unfold inS; omega
 obtain rfl : i = ns.length := by omega
 have nin : ∀ x ∈ ns, inS p.nz x := fun x hx => by
  obtain ⟨y, hy, rfl⟩ := List.getElem_of_mem hx
  have := hin y hy
  rwa [List.getD_eq_getElem?_getD, List.getElem?_eq_getElem hy, Option.getD_some] at this
 have mz : makeErr p es ns m = 0 := by rw [mb2, if_neg (fun ⟨x, hx, q⟩ => q (nin x hx))]
 have svn := fun k n hk => scnV_in hp nin k n (fun i hi => eok i (Nat.lt_of_lt_of_le hi hk))
 have nle : ns.length ≤ M := by omega
 clear hin mb mb2
 rw [hM] at zr
 have cpy : copyA ((h.push (.cells pc true 0)).push (.cells (smps (List.replicate M (0, 0))) true 0)) 2 (.slice (h.size + 1) 0 M (.known M)) vn = some (.int .i64 (ns.length : Nat), (h.push (.cells pc true 0)).push (.cells (smps (scnL p es ns 0 M)) true 0)) := by
  have g := get_push_eq (h := h.push (.cells pc true 0)) (b := .cells (smps (List.replicate M (0, 0))) true 0) (i := h.size + 1) rfl
  rw [copy2 (N1.mono (HSub.push1 _ _)).content g (by simp) nle, List.drop_replicate, scnL_zero nle, push_put (h := h.push (.cells pc true 0)) (i := h.size + 1) rfl]
 refine zs7 @e1 @e2 @e3 @e4 @hM @zr @cpy ?_
 refine wp_loopI (fun j u h' => (∃ k : Nat, u 16 = .int .i64 (k : Nat) ∧ k ≤ es.length ∧ j = es.length - k ∧ h'.get (h.size + 1) = some (.cells (smps (scnL p es ns k M)) true 0)) ∧ HSub (h.push (.cells pc true 0)) h' ∧ h.size + 1 < h'.size ∧ u 1 = ve ∧ u 3 = .int .i64 m ∧ u 4 = .ptr h.size 0 ∧ u 15 = .slice (h.size + 1) 0 M (.known M)) (j0 := es.length)
  ⟨⟨0, rfl, by omega, rfl, by exact ze⟩, HSub.push1 _ _, by simp, e1, e3, e4, rfl⟩ ?_
 rintro j3 u h1 ⟨⟨k, e16, hk, hj, gb⟩, sH, zH, e1, e3, e4, e15⟩
 have gp1 : h1.get h.size = some (.cells pc true 0) := (sH.get _ (by simp)).trans gp
 refine zs3 @e1 @e16 @El ?_
 refine Br.by (fun c7 => ?_) (fun c7 => ?_)
 ·have hk' : k < es.length := by omega
  have ok := eok k hk'
  obtain ⟨vb, i8, l8, B, f8, l0, _⟩ := E1.at hk'
  have l0k := l0 _ sH
  have f0k := f8 0
  have kCk := kC (es.getD k eD).prn (h65 k hk').1
  have cz := ok.code
  rw [cz, if_pos rfl] at kCk
  refine zs10 @e1 @e3 @e4 @e15 @e16 @gp1 @i8 @q0 @f0k @l0k ?_
  refine ACallsK.of (kCk _) ?_
  rintro r h2 ⟨vc, rfl, s2, W, fr⟩
  have gb2 := (s2.get _ (by omega)).trans gb
  have nid : h.size + 1 ∉ vc.ids := fun q => by have := fr _ q; omega
  have vlt : ∀ i ∈ vc.ids, i < h2.size := W.lt_ids
  have gp2 := (s2.get _ (by omega)).trans gp1
  have sH2 := sH.trans s2
  have z2 := s2.size
  refine zs1 @lstErr.eq_1 ?_
  refine wp_loopI (fun j u h' => ∃ n : Nat, u 19 = .int .i64 (n : Nat) ∧ n ≤ M ∧ j = M - n ∧ h'.get (h.size + 1) = some (.cells (smps (scnP p es ns k n M)) true 0) ∧ (∀ i, i < h2.size → i ≠ h.size + 1 → h'.get i = h2.get i) ∧ h2.size ≤ h'.size ∧ u 1 = ve ∧ u 3 = .int .i64 m ∧ u 4 = .ptr h.size 0 ∧ u 15 = .slice (h.size + 1) 0 M (.known M) ∧ u 16 = .int .i64 (k : Nat) ∧ u 17 = vc) (j0 := M)
   ⟨0, rfl, by omega, rfl, by rw [scnP_zero]; exact gb2, fun _ _ _ => rfl, by omega, e1, e3, e4, e15, e16, rfl⟩ ?_
  rintro j4 u h3 ⟨n, e19, hn, hj4, gb3, K3, z3, e1, e3, e4, e15, e16, e17⟩
  have gp3 := (K3 h.size (by omega) (by omega)).trans gp2
  have sub3 : HSub (h.push (.cells pc true 0)) h3 := ⟨by simp only [Heap.size_push]; omega, fun i hi => by
   simp only [Heap.size_push] at hi
   rw [K3 i (by omega) (by omega)]; exact sH2.get i (by simp only [Heap.size_push]; omega)⟩
  have W3 : RI h3 vc (codeL p.d (es.getD k eD).prn) := W.off fun i hi => K3 i (vlt i hi) (fun q => nid (q ▸ hi))
  refine zs2 @e3 @e19 ?_
  refine Br.by (fun c8 => ?_) (fun c8 => ?_)
  ·have hn' : n < M := by omega
   have kA := fun h1 (q : HSub h3 h1) => kA k n hk' ok (by omega) vb vc h1 ((B.mono sub3).mono q) (W3.mono q)
   have l8n := fun h1 (q : HSub h3 h1) => l8 h1 (sub3.trans q)
   have sv0 := svn k n hk
   have sv1 := svn (k + 1) n hk'
   have hat := atV_in ok (n : Nat)
   have set := scnP_set (p := p) (es := es) (ns := ns) (k := k) hn'
   have get := scnP_get (p := p) (es := es) (ns := ns) (k := k) hn'
   have add : scnV p es ns (k + 1) n = addP (scnV p es ns k n) (atV p (es.getD k eD) (n : Nat)) := rfl
   have ln : (scnP p es ns k n M).length = M := scnP_length
   have ln2 : (smps (scnP p es ns k n M)).length = M * 2 := by rw [smps_length, ln]
   have sp := smps_splice (l := scnP p es ns k n M) (k := n) (p := scnV p es ns (k + 1) n) (by rw [ln]; exact hn')
   have g1 : (scnP p es ns k n M)[n]? = some (scnV p es ns k n) := by
    rw [List.getD_eq_getElem?_getD, List.getElem?_eq_getElem (by rw [ln]; exact hn'), Option.getD_some] at get
    rw [List.getElem?_eq_getElem (by rw [ln]; exact hn'), get]
   have i0 : (smps (scnP p es ns k n M))[n * 2]? = some (.int .i64 (scnV p es ns k n).1) := by rw [smps_get0, g1]; rfl
   have i1 : (smps (scnP p es ns k n M))[n * 2 + 1]? = some (.int .i64 (scnV p es ns k n).2) := by rw [smps_get1, g1]; rfl
   rw [set] at sp
   rw [add] at sp sv1
   generalize atV p (es.getD k eD) (n : Nat) = y at kA hat sp sv1
   generalize scnV p es ns k n = x at i0 i1 sv0 sp sv1
   obtain ⟨y1, y2⟩ := y
   obtain ⟨x1, x2⟩ := x
   unfold inS at hat sv0 sv1
   unfold smp at kA
   unfold addP at sp sv1
   dsimp only at hat sv0 sv1 kA sp i0 i1
   have hkk : (k : Int) < 8 := by omega
   refine zs11 @e1 @e4 @e15 @e16 @e17 @e19 @gp3 @i8 @q8 @l8n @Heap.wf ?_
   refine ACallsK.eq (kA _ (zh (HSub.refl h3))) ?_
   simp -implicitDefEqProofs (disch := first | exact zd | fail) only [↓wpPre, wpPost, wpPoly, Int.reduceToNat, Int.reducePow, Int.reduceMul, Int.reduceAdd, Int.reduceSub, Int.reduceNeg, Nat.reduceAdd, Nat.reduceMul, Nat.reducePow, Int.reduceLT, Int.reduceLE, Int.reduceEq, Nat.reduceEqDiff, e1, e3, e4, e15, e16, e17, e19, gb3, i0, i1, sp, ln2, Heap.wf]
   refine ⟨_, ⟨n + 1, by omega, by omega, rfl, rfl, fun i hi hne => ?_, by omega⟩, by omega⟩
   exact (get_put_ne (by omega)).trans ((get_put_ne (by omega)).trans (K3 i hi hne))
  ·obtain rfl : n = M := by omega
   rw [scnP_all] at gb3
   refine zs1 @e16 ?_
   exact ⟨_, ⟨⟨k + 1, rfl, by omega, rfl, gb3⟩, sub3, by omega, e1, e3, e4, e15⟩, by omega⟩
 ·obtain rfl : k = es.length := by omega
  refine zs1 @e15 ?_
  refine ⟨_, by rw [mz]; rfl, (HSub.push1 _ _).trans sH, ?_, fun i hi => by simp [AV.ids] at hi; omega⟩
  rw [if_pos mz]
  exact SI.known gb ⟨scnL_length.symm, by omega⟩ (Nat.le_refl _)
end
end Go.Ae
