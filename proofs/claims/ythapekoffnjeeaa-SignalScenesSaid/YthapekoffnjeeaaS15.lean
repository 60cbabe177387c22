/- Texts of the proof, part 15: a second reading of the lowered code, proved sound, and what the functions compute. -/
import Derived.Test.YthapekoffnjeeaaS14
set_option linter.unusedSimpArgs false
set_option linter.unusedVariables false
set_option maxRecDepth 20000
set_option maxHeartbeats 4000000
namespace Go.Ae
variable {C : Ctx} {h h' H h0 : Heap} {v vp : AV} {p : PlanP} {w w' : World} {env : Env} {kp : Keep} {ops : Array Oper} {st : St} {i m j sz c u : Nat} {l : List Int} {d b a : Int} {cs vs : List AV} {o : Oper} {P : Program}
theorem jjF {k : Nat} (hk : k < l.length) (p : Int -> Bool) : ((l.take (k + 1)).any p) = ((l.take k).any p || p (l.getD k 0)) := by
 rw [jaN hk, List.any_append];simp
theorem ji0 (hC : Has C TA) {w : AV} {e : EmitP} (hp : PlI h v p) (he : EmI h w e) (h64 : p.ok64) (h65 : e.ok64) : ACalls C 224 [v, w] h (fun r h' => r = .int .i64 (emitErr p e) /\ h' = h) := by
 refine kae (P := fun r h' => r = .int .i64 (emitErr p e) /\ HSub h h') ?_ (fun r h' hp => ⟨by rw [hp.1]; trivial, hp.2, hp.1, rfl⟩);have kc := fun h1 (q : HSub h h1) => jdu hC (hp.mono q) h64;have pr := jdE p e;obtain ⟨vp, rfl, R⟩ := hp;obtain ⟨vb, rfl, B⟩ := he;have v1 := R.one;have b1 := B.one;have hlt := R.lt;have blt := B.lt;have hE : emitErr p e = if p.err = 0 then if (p.prns.any fun y => e.prn == y) = true then if e.numsOk p then if 10000 < e.bits.length then 4 else if e.bits.any (fun b => b != 0 && b != 1) = true then 3 else 0 else 2 else 18 else p.err := rfl
 generalize emitErr p e = E at *;have kS := fun (q : p.numsOk) h1 => jdw hC (vp := vp) (h := h1) q v1;unfold plA at kS;by_cases c : p.err = 0
 ·have hn := jiY c;have kS := kS hn;rw [if_pos c] at hE;rw [c] at kc;have g1 : (p.prns.any fun y => e.prn == y) = false -> E = 18 := fun q => by rw [hE, if_neg (by rw [q]; decide)]
  have g2 : (p.prns.any fun y => e.prn == y) = true -> ¬ ((0 <= e.dl /\ e.dl < p.size) /\ (-64 <= e.rt /\ e.rt <= 64) /\ (p.mn <= e.amp /\ e.amp <= p.mx) /\ (0 <= e.ba /\ e.ba < p.pb)) -> E = 2 := fun q q2 => by rw [hE, if_pos q, if_neg (show ¬ e.numsOk p from q2)]
  have g3 : (p.prns.any fun y => e.prn == y) = true -> ((0 <= e.dl /\ e.dl < p.size) /\ (-64 <= e.rt /\ e.rt <= 64) /\ (p.mn <= e.amp /\ e.amp <= p.mx) /\ (0 <= e.ba /\ e.ba < p.pb)) -> E = if 10000 < e.bits.length then 4 else if e.bits.any (fun b => b != 0 && b != 1) = true then 3 else 0 := fun q q2 => by rw [hE, if_pos q, if_pos (show e.numsOk p from q2)]
  clear hE;generalize p.size = sz at *;obtain ⟨d, o, pb, wo, mn, mx, nz, prns⟩ := p;obtain ⟨prn, dl, rt, st, ph, amp, ba, bits⟩ := e;dsimp only at *;have sH : ∀ b c, HSub h ((h.push b).push c) := fun b c => (kab h b).push c;have a0 : (prns.take prns.length).any (fun y => prn == y) = (prns.any fun y => prn == y) := by rw [List.take_length]
  have z0 : (bits.take bits.length).any (fun b => b != 0 && b != 1) = (bits.any fun b => b != 0 && b != 1) := by rw [List.take_length]
  generalize (prns.any fun y => prn == y) = b at *;generalize (bits.any fun b => b != 0 && b != 1) = z at *;refine zf 224 B224 hC ?_; simp only [B224, zB]; refine zs ?_;refine kaN (fun H hH => ?_);have t1 : HSub h H := by rw [hH]; exact sH _ _
  have gp : H.get h.size = some (.cells [.int .i64 d, .int .i64 o, .int .i64 pb, .int .i64 wo, .int .i64 mn, .int .i64 mx, .int .i64 nz, vp] true 0) := by rw [hH]; exact ze
  have ge : H.get (h.size + 1) = some (.cells [.int .i64 prn, .int .i64 dl, .int .i64 rt, .int .u32 st, .int .u32 ph, .int .i64 amp, .int .i64 ba, vb] true 0) := by rw [hH]; exact ze
  have R1 := R.mono t1;have B1 := B.mono t1;have kc := kc H t1;clear hH;refine kaa kc (zs ?_);refine jam (fun j t h' => h' = H /\ ∃ k : Nat, t 2 = .ptr h.size 0 /\ t 3 = .ptr (h.size + 1) 0 /\ t 6 = .bool ((prns.take k).any fun y => prn == y) /\ t 7 = .int .i64 (k : Nat) /\ k <= prns.length /\ j = prns.length - k) (j0 := prns.length)
   ⟨rfl, 0, rfl, rfl, rfl, rfl, by omega, rfl⟩ ?_
  rintro j t h1 ⟨rfl, k, e2, e3, e6, e7, hk, hj⟩;refine zs4 e2 e7 gp @R1.len ?_;refine kai (fun d1 => ?_) (fun d1 => ?_)
  ·have hk' : k < prns.length := by omega
   have ld := R1.load hk';have asx := jjF hk' (fun y => prn == y);have eb : (prn == prns.getD k 0) = decide (prns.getD k 0 = prn) := by
    rw [Bool.eq_iff_iff]; simp; exact ⟨fun q => q.symm, fun q => q.symm⟩
   rw [eb] at asx;cases hb : (prns.take k).any (fun y => prn == y)
   ·rw [hb] at e6 asx;refine zs7 e2 e3 e6 e7 gp ge (zI @R1.idx (zI ld @gV_u)) ?_;exact ⟨_, ⟨k + 1, by rw [asx]; simp, by simp, by omega, rfl⟩, by omega⟩
   ·rw [hb] at e6 asx;refine zs7 e2 e3 e6 e7 gp ge (zI @R1.idx (zI ld @gV_u)) ?_;exact ⟨_, ⟨k + 1, by rw [asx]; simp, by simp, by omega, rfl⟩, by omega⟩
  ·have ek : k = prns.length := by omega
   rw [ek, a0] at e6;cases b
   ·have g := g1 rfl;refine zs1 e6 ?_;exact ⟨g.symm, t1⟩
   ·have g2 := g2 rfl;have g3 := g3 rfl;by_cases c2 : ((0 <= dl /\ dl < sz) /\ (-64 <= rt /\ rt <= 64) /\ (mn <= amp /\ amp <= mx) /\ (0 <= ba /\ ba < pb))
    ·have n0 : ¬ dl < 0 := by omega
     have n1 : ¬ sz <= dl := by omega
     have n2 : ¬ rt < -64 := by omega
     have n3 : ¬ 64 < rt := by omega
     have n4 : ¬ amp < mn := by omega
     have n5 : ¬ mx < amp := by omega
     have n6 : ¬ ba < 0 := by omega
     have n7 : ¬ pb <= ba := by omega
     have g := g3 c2;refine zs7 e2 e3 e6 gp ge @gV_u n0 ?_;refine kaa (kS _) ?_;by_cases c3 : 10000 < bits.length
     ·rw [if_pos c3] at g;refine zs7 e2 e3 e6 gp ge @gV_u (zI n1 (zI n2 (zI n3 (zI n4 (zI n5 (zI n6 (zI n7 (zI @B1.len @c3)))))))) ?_;exact ⟨g.symm, t1⟩
     ·rw [if_neg c3] at g;refine zs7 e2 e3 e6 gp ge @gV_u (zI n1 (zI n2 (zI n3 (zI n4 (zI n5 (zI n6 (zI n7 (zI @B1.len @c3)))))))) ?_;refine jam (fun j t h' => h' = h1 /\ ∃ k : Nat, (bits.take k).any (fun b => b != 0 && b != 1) = false /\ t 3 = .ptr (h.size + 1) 0 /\ t 8 = .int .i64 (k : Nat) /\ k <= bits.length /\ j = bits.length - k) (j0 := bits.length)
       ⟨rfl, 0, rfl, e3, rfl, by omega, rfl⟩ ?_
      rintro j t h2 ⟨rfl, k, hb, e3, e8, hk, hj⟩;refine zs4 e3 e8 ge @B1.len ?_;refine kai (fun d2 => ?_) (fun d2 => ?_)
      ·have hk' : k < bits.length := by omega
       have ld := B1.load hk';have asx := jjF hk' (fun b => b != 0 && b != 1);rw [hb, Bool.false_or] at asx;have zz : ((bits.take (k + 1)).any fun b => b != 0 && b != 1) = true -> z = true := fun q => by
        rw [<- z0, List.any_eq_true];rw [List.any_eq_true] at q;obtain ⟨x, hx, q⟩ := q;exact ⟨x, by rw [List.take_length]; exact List.mem_of_mem_take hx, q⟩
       generalize bits.getD k 0 = x at *;by_cases d3 : x = 0
       ·have asx : ((bits.take (k + 1)).any fun b => b != 0 && b != 1) = false := by rw [asx, d3]; rfl
        refine zs7 e3 e8 ge @B1.idx ld @d3 @gV_u ?_;exact ⟨_, ⟨k + 1, asx, by simp, by omega, rfl⟩, by omega⟩
       ·by_cases d4 : x = 1
        ·have asx : ((bits.take (k + 1)).any fun b => b != 0 && b != 1) = false := by rw [asx, d4]; rfl
         have d5 : ¬ (1 : Int) = 0 := by decide
         refine zs7 e3 e8 ge @B1.idx ld @d4 (zI d5 @gV_u) ?_;exact ⟨_, ⟨k + 1, asx, by simp, by omega, rfl⟩, by omega⟩
        ·have zt := zz (by rw [asx]; simp [d3, d4]);rw [if_pos zt] at g;refine zs7 e3 e8 ge @B1.idx ld @d3 (zI @d4 @gV_u) ?_;exact ⟨g.symm, t1⟩
      ·have ek : k = bits.length := by omega
       rw [ek, z0] at hb;rw [if_neg (by rw [hb]; decide)] at g;refine zs ?_;exact ⟨g.symm, t1⟩
    ·have g := g2 c2;by_cases c3 : dl < 0
     ·refine zs7 e2 e3 e6 gp ge @gV_u @c3 ?_;exact ⟨g.symm, t1⟩
     ·refine zs7 e2 e3 e6 gp ge @gV_u @c3 ?_;refine kaa (kS _) ?_
      (repeat' (first | (refine kai (fun _ => ?_) (fun _ => ?_)) | (refine zs6 e2 e3 e6 gp ge @gV_u ?_)))
      all_goals first
       | exact ⟨g.symm, t1⟩
       | (exfalso; omega)
 ·rw [if_neg c] at hE;subst hE;generalize p.err = E at *;obtain ⟨d, o, pb, wo, mn, mx, nz, prns⟩ := p;obtain ⟨prn, dl, rt, st, ph, amp, ba, bits⟩ := e;dsimp only at *;refine zf 224 B224 hC ?_; simp only [B224, zB]; refine zs ?_;refine kaa (kc _ ((kab _ _).push _)) (zs1 c ?_);exact ((kab _ _).push _)
def absI (x : Int) : Int := max x (-x)
theorem ji1 (x : Int) : 0 <= absI x := by unfold absI; omega
theorem jmt (x y : Int) : absI (x * y) = absI x * absI y := by
 unfold absI;rcases Int.le_total 0 x with hx | hx <;> rcases Int.le_total 0 y with hy | hy
 ·have := Int.mul_nonneg hx hy;rw [Int.max_eq_left (by omega), Int.max_eq_left (by omega), Int.max_eq_left (by omega)]
 ·have := Int.mul_nonpos_of_nonneg_of_nonpos hx hy;rw [Int.max_eq_right (by omega), Int.max_eq_left (by omega), Int.max_eq_right (by omega), Int.mul_neg]
 ·have := Int.mul_nonpos_of_nonpos_of_nonneg hx hy;rw [Int.max_eq_right (by omega), Int.max_eq_right (by omega), Int.max_eq_left (by omega), Int.neg_mul]
 ·have := Int.mul_nonneg_of_nonpos_of_nonpos hx hy;rw [Int.max_eq_left (by omega), Int.max_eq_right (by omega), Int.max_eq_right (by omega), Int.neg_mul_neg]
theorem jjG {k s K S : Int} (hk : -K <= k /\ k <= K) (hs : -S <= s /\ s <= S) : -(K * S) <= k * s /\ k * s <= K * S := by
 have h1 : absI (k * s) <= K * S := by
  rw [jmt];exact Int.mul_le_mul (by unfold absI; omega) (by unfold absI; omega) (ji1 _) (by omega)
 unfold absI at h1;omega
theorem jlH {k : Int} (hb : 0 < b) : -((b - 1 - k) / b) = k / b := by
 have h := Int.emod_add_mul_ediv k b;have h1 := Int.emod_nonneg k (show b ≠ 0 by omega);have h2 := Int.emod_lt_of_pos k hb;have : (b - 1 - k) / b = -(k / b) := by
  rw [Int.ediv_eq_iff_of_pos hb];have e : -(k / b) * b = -(b * (k / b)) := by grind
  have e2 : (-(k / b) + 1) * b = -(b * (k / b)) + b := by grind
  omega
 omega
theorem jku {k : Int} (hb : 0 < b) : (if k.tmod b < 0 then k.tdiv b - 1 else k.tdiv b) = k / b := by
 rcases Int.le_total 0 k with c | c
 ·rw [if_neg (by have := Int.tmod_nonneg b c; omega), Int.tdiv_eq_ediv_of_nonneg c]
 ·obtain ⟨m, rfl⟩ : ∃ m, k = -m := ⟨-k, by omega⟩;have hm : 0 <= m := by omega
  rw [Int.neg_tmod, Int.neg_tdiv, Int.tmod_eq_emod_of_nonneg hm, Int.tdiv_eq_ediv_of_nonneg hm];have h := Int.emod_add_mul_ediv m b;have h1 := Int.emod_nonneg m (show b ≠ 0 by omega);have h2 := Int.emod_lt_of_pos m hb;split
  ·symm;rw [Int.ediv_eq_iff_of_pos hb];have e : (-(m / b) - 1) * b = -(b * (m / b)) - b := by grind
   have e2 : (-(m / b) - 1 + 1) * b = -(b * (m / b)) := by grind
   omega
  ·symm;rw [Int.ediv_eq_iff_of_pos hb];have e : -(m / b) * b = -(b * (m / b)) := by grind
   have e2 : (-(m / b) + 1) * b = -(b * (m / b)) + b := by grind
   omega
theorem jkv {j n : Int} (hn : 0 < n) : (j.tmod n + n).tmod n = j % n := by
 have h1 := Int.tmod_lt_of_pos j hn;have h2 : -n < j.tmod n := by
  have := Int.lt_tmod_of_pos j hn;omega
 rw [Int.tmod_eq_emod_of_nonneg (by omega), Int.add_emod_right];exact Int.emod_eq_emod_iff_emod_sub_eq_zero.2 (by
  have := Int.tmod_add_mul_tdiv j n;have e : j.tmod n - j = n * (-(j.tdiv n)) := by grind
  rw [e]; exact Int.mul_emod_right _ _)
theorem jm6 {j n : Int} : j - n * (j / n) = j % n := by
 have := Int.emod_add_mul_ediv j n;omega
theorem jlI (n : Int) : ∀ (xs seen : List Int), jbm n seen xs = 0 -> ∀ x ∈ xs, 1 <= x /\ x <= n + 2
 | [], _, _, x, hx => by simp at hx
 | y :: xs, seen, h, x, hx => by
  rw [jbm] at h;split at h
  ·omega
  ·rename_i c;split at h
   ·omega
   ·rcases List.mem_cons.1 hx with q | q
    ·rw [q]; exact Classical.not_not.1 c
    ·exact jlI n xs _ h x q
structure EmOk (p : PlanP) (e : EmitP) : Prop where
 pn : p.numsOk
 en : e.numsOk p
 code : jda p.d e.prn = 0
 bits : ∀ x ∈ e.bits, x = 0 \/ x = 1
 prn : 1 <= e.prn /\ e.prn <= lenN p.d + 2
 len : e.bits.length <= 10000
theorem jhn {e : EmitP} (h : emitErr p e = 0) : EmOk p e := by
 unfold emitErr at h;by_cases c : p.err = 0
 ·rw [if_pos c] at h;by_cases c2 : (p.prns.any fun y => e.prn == y) = true
  ·rw [if_pos c2] at h;by_cases c3 : e.numsOk p
   ·rw [if_pos c3] at h;by_cases c4 : 10000 < e.bits.length
    ·rw [if_pos c4] at h; omega
    ·rw [if_neg c4] at h;by_cases c5 : e.bits.any (fun b => b != 0 && b != 1) = true
     ·rw [if_pos c5] at h; omega
     ·have pn := jiY c;have pz : jbm (lenN p.d) [] p.prns = 0 := by
       unfold PlanP.err at c;rw [if_pos pn] at c;split at c
       ·omega
       ·split at c
        ·omega
        ·exact c
      have pr : 1 <= e.prn /\ e.prn <= lenN p.d + 2 := by
       rw [List.any_eq_true] at c2;obtain ⟨x, hx, q⟩ := c2;rw [beq_iff_eq] at q;rw [q];exact jlI _ _ _ pz x hx
      refine ⟨pn, c3, ?_, ?_, pr, by omega⟩
      ·unfold jda;rw [if_pos ⟨pn.1, pr.1, pr.2⟩]
      ·intro x hx;have c5 := Bool.eq_false_iff.2 c5;rw [List.any_eq_false] at c5;have := c5 x hx;simp only [Bool.and_eq_true, bne_iff_ne, ne_eq, not_and, Classical.not_not] at this;by_cases z : x = 0
       ·exact .inl z
       ·exact .inr (this z)
   ·rw [if_neg c3] at h; omega
  ·rw [if_neg c2] at h; omega
 ·rw [if_neg c] at h; omega
def EmitP.sta (e : EmitP) (p : PlanP) (k : Int) : Int := stI e.dl p.size e.rt k
def EmitP.pl (e : EmitP) (p : PlanP) (n : Int) : Int := plI e.dl p.size e.rt n
theorem EmOk.den {e : EmitP} (h : EmOk p e) : 0 < 1024 * p.size + e.rt := by
 have := jbi h.pn;have := h.en.2.1;omega
theorem EmOk.bit {e : EmitP} (h : EmOk p e) (k : Int) : bitI p e k = 0 \/ bitI p e k = 1 := by
 unfold bitI;split
 ·simp
 ·rename_i c;have := Int.emod_lt_of_pos ((k - e.ba) / p.pb) (show (0 : Int) < e.bits.length by omega);have := Int.emod_nonneg ((k - e.ba) / p.pb) (show (e.bits.length : Int) ≠ 0 by omega);exact h.bits _ (jdB (by omega))
theorem EmOk.stb {e : EmitP} (h : EmOk p e) {k : Int} (hk : -20000000 <= k /\ k <= 20000000) : -200000000000 <= e.sta p k /\ e.sta p k <= 200000000000 /\ (-163680000000 <= k * p.size /\ k * p.size <= 163680000000) /\ (-1280000000 <= k * e.rt /\ k * e.rt <= 1280000000) := by
 have s := jbi h.pn;have r := h.en.2.1;have d := h.en.1;have a := jjG (S := 8184) hk (show -8184 <= p.size /\ p.size <= 8184 by omega);have b := jjG (S := 64) hk r;unfold EmitP.sta stI;omega
theorem EmOk.plb {e : EmitP} (h : EmOk p e) {n : Int} (hn : -10100000 <= n /\ n <= 10100000) : -11000000 <= e.pl p n /\ e.pl p n <= 11000000 := by
 have s := jbi h.pn;have r := h.en.2.1;have d := h.en.1;unfold EmitP.pl plI;generalize hD : 1024 * p.size + e.rt = D;have hD2 : 1024 <= D := by omega
 generalize hM : 1024 * (n - e.dl + 1) - 1 = M;have hM2 : -(1024 * 11000000) <= M /\ M <= 1024 * 11000000 := by omega
 constructor
 ·rw [Int.le_ediv_iff_mul_le (by omega)];omega
 ·rw [<- Int.lt_add_one_iff, Int.ediv_lt_iff_lt_mul (by omega)];omega
def chipI (p : PlanP) (e : EmitP) (i : Int) : Int := (codeL p.d e.prn).getD (min (i / p.o) ((lenN p.d : Int) - 1)).toNat 0
def atV (p : PlanP) (e : EmitP) (n : Int) : Int × Int :=
 ((e.amp * chipI p e (n - e.sta p (e.pl p n)) * (1 - 2 * bitI p e (e.pl p n))) * (carP (phI e.ph e.st (e.pl p n))).1, (e.amp * chipI p e (n - e.sta p (e.pl p n)) * (1 - 2 * bitI p e (e.pl p n))) * (carP (phI e.ph e.st (e.pl p n))).2)
def emA (e : EmitP) (vb : AV) : AV := .agg [.int .i64 e.prn, .int .i64 e.dl, .int .i64 e.rt, .int .u32 e.st, .int .u32 e.ph, .int .i64 e.amp, .int .i64 e.ba, vb]
def srcA (p : PlanP) (e : EmitP) (vp vb vc : AV) : AV := .agg [.int .i64 e.prn, .int .i64 e.dl, .int .i64 e.rt, .int .u32 e.st, .int .u32 e.ph, .int .i64 e.amp, .int .i64 e.ba, vb, .int .i64 p.d, .int .i64 p.o, .int .i64 p.pb, .int .i64 p.w, .int .i64 p.mn, .int .i64 p.mx, .int .i64 p.nz, vp, vc]
theorem jlJ (x : Int) : Int.fdiv x 1024 = x / 1024 := Int.fdiv_eq_ediv_of_nonneg x (by decide)
theorem jbu (hC : Has C TA) {p : PlanP} {e : EmitP} {vp vb vc : AV} {k : Int} {h : Heap} (ok : EmOk p e) (v1 : vp.one = true) (b1 : vb.one = true) (w1 : vc.one = true) (hk : -20000000 <= k /\ k <= 20000000) :
  ACalls C 239 [srcA p e vp vb vc, .int .i64 k] h (fun r h' => r = .int .i64 (e.sta p k) /\ h' = h) := by
 refine kae (P := fun r h' => r = .int .i64 (e.sta p k) /\ HSub h h') ?_ (fun r h' hp => ⟨by rw [hp.1]; trivial, hp.2, hp.1, rfl⟩);have sz := fun h => jdv hC (vp := vp) (h := h) ok.pn v1;have sb := ok.stb hk;have d := ok.en.1;have s := jbi ok.pn;unfold EmitP.sta stI at sb |-;unfold plA at sz;unfold srcA;generalize p.size = z at *;obtain ⟨pd, o, pb, w, mn, mx, nz, prns⟩ := p;obtain ⟨prn, dl, rt, st, ph, amp, ba, bits⟩ := e;dsimp only at *;refine zf 239 B239 hC ?_; simp only [B239, zB]; refine zs ?_;refine kaa (sz _) (zs1 @jlJ ?_);exact kab _ _
theorem jcd (hC : Has C TA) (ha : In64 a) (hb : 0 < b /\ b <= 1000000) : ACalls C 258 [.int .i64 a, .int .i64 b] h (fun r h' => r = .int .i64 (a / b) /\ h' = h) := by
 have e := jku (k := a) hb.1;unfold In64 at ha;have q1 : a.tdiv b = if a.tmod b < 0 then a / b + 1 else a / b := by split at e <;> rename_i c <;> simp only [c, if_true, if_false] <;> omega
 have r1 : -9223372036854775808 <= a / b /\ a / b <= 9223372036854775807 := by
  constructor
  ·rw [Int.le_ediv_iff_mul_le hb.1];have : (1 : Int) <= b := hb.1;omega
  ·rw [<- Int.lt_add_one_iff, Int.ediv_lt_iff_lt_mul hb.1];have : (1 : Int) <= b := hb.1;omega
 by_cases c : a.tmod b < 0
 ·rw [if_pos c] at q1;have r2 : a / b + 1 <= 9223372036854775807 := by
   have c0 : ¬ 0 <= a := fun q => by have := Int.tmod_nonneg b q; omega
   have := Int.ediv_neg_of_neg_of_pos (show a < 0 by omega) hb.1;omega
  refine zf 258 B258 hC ?_; simp only [B258, zB]; refine zs2 c q1 ?_;omega
 ·rw [if_neg c] at q1;refine zf 258 B258 hC ?_; simp only [B258, zB]; exact ze2 c q1
theorem jen (hC : Has C TA) {p : PlanP} {e : EmitP} {vp vb : AV} {k : Int} {h : Heap} (ok : EmOk p e) (v1 : vp.one = true) (b1 : vb.one = true) (hk : -20000000 <= k /\ k <= 20000000) :
  ACalls C 241 [plA p vp, emA e vb, .int .i64 k] h (fun r h' => r = .int .i64 (e.sta p k) /\ h' = h) := by
 refine kae (P := fun r h' => r = .int .i64 (e.sta p k) /\ HSub h h') ?_ (fun r h' hp => ⟨by rw [hp.1]; trivial, hp.2, hp.1, rfl⟩);have sz := fun h => jdw hC (vp := vp) (h := h) ok.pn v1;have sb := ok.stb hk;have d := ok.en.1;have s := jbi ok.pn;have fl := fun h => jcd hC (a := k * e.rt) (b := 1024) (h := h) (by unfold In64; omega) (by omega);unfold EmitP.sta stI at sb |-;unfold plA at sz |-;unfold emA;generalize p.size = z at *;obtain ⟨pd, o, pb, w, mn, mx, nz, prns⟩ := p;obtain ⟨prn, dl, rt, st, ph, amp, ba, bits⟩ := e;dsimp only at *;refine zf 241 B241 hC ?_; simp only [B241, zB]; refine zs ?_
 refine kaa (sz _) (zs ?_);refine kaa (fl _) (zs ?_);exact (kab _ _).push _
theorem st_gt {e : EmitP} (ok : EmOk p e) {n k : Int} : e.sta p k <= n ↔ k <= e.pl p n := st_le ok.den
theorem jdb (hC : Has C TA) {p : PlanP} {e : EmitP} {vp vb vc : AV} {n : Int} {h : Heap} (ok : EmOk p e) (v1 : vp.one = true) (b1 : vb.one = true) (w1 : vc.one = true) (hn : -10100000 <= n /\ n <= 10100000) :
  ACalls C 245 [srcA p e vp vb vc, .int .i64 n] h (fun r h' => r = .int .i64 (e.pl p n) /\ h' = h) := by
 refine kae (P := fun r h' => r = .int .i64 (e.pl p n) /\ HSub h h') ?_ (fun r h' hp => ⟨by rw [hp.1]; trivial, hp.2, hp.1, rfl⟩);have sz := fun h => jdv hC (vp := vp) (h := h) ok.pn v1;have ks := fun (k : Int) (hk : -20000000 <= k /\ k <= 20000000) h => jbu hC (k := k) (h := h) ok v1 b1 w1 hk;have gt := fun (k : Int) => st_gt ok (n := n) (k := k);have pb := ok.plb hn;have d := ok.en.1;have s := jbi ok.pn;have td : -11000000 <= (n - e.dl).tdiv p.size /\ (n - e.dl).tdiv p.size <= 11000000 := by
  have h1 := Int.natAbs_tdiv_le_natAbs (n - e.dl) p.size;omega
 have szn : p.size ≠ 0 := by omega
 unfold plA at sz;unfold srcA at ks |-;generalize e.pl p n = K at *;generalize hSt : e.sta p = St at *;generalize p.size = z at *;obtain ⟨pd, o, pb, w, mn, mx, nz, prns⟩ := p;obtain ⟨prn, dl, rt, st, ph, amp, ba, bits⟩ := e;dsimp only at *;refine zf 245 B245 hC ?_; simp only [B245, zB]; refine zs ?_;refine kaa (sz _) (zs1 szn ?_);refine jam (fun j t h' => h' = h.push (.cells [.int .i64 prn, .int .i64 dl, .int .i64 rt, .int .u32 st, .int .u32 ph, .int .i64 amp, .int .i64 ba, vb, .int .i64 pd, .int .i64 o, .int .i64 pb, .int .i64 w, .int .i64 mn, .int .i64 mx, .int .i64 nz, vp, vc] true 0) /\ ∃ k : Int, t 1 = .int .i64 n /\ t 2 = .ptr h.size 0 /\ t 5 = .int .i64 k /\ -11000000 <= k /\ k <= 11000002 /\ j = (k - K).toNat) (j0 := ((n - dl).tdiv z + 2 - K).toNat)
  ⟨rfl, _, rfl, rfl, rfl, by omega, by omega, rfl⟩ ?_
 rintro j t h1 ⟨hh, k, e1, e2, ek, k1, k2, hj⟩;have gp : h1.get h.size = some (.cells [.int .i64 prn, .int .i64 dl, .int .i64 rt, .int .u32 st, .int .u32 ph, .int .i64 amp, .int .i64 ba, vb, .int .i64 pd, .int .i64 o, .int .i64 pb, .int .i64 w, .int .i64 mn, .int .i64 mx, .int .i64 nz, vp, vc] true 0) := by rw [hh]; exact get_push_eq rfl
 have s1 : HSub h h1 := by rw [hh]; exact kab _ _
 have g := gt k;refine zs4 e1 e2 ek gp ?_;refine kaa (ks k (by omega) _) (zs2 e1 e2 ?_);refine kai (fun c => ?_) (fun c => ?_)
 ·have kK : K < k := by
   rcases Int.lt_or_le K k with q | q
   ·exact q
   ·have := g.2 q; omega
  refine zs4 e1 e2 ek hh ?_;exact ⟨_, ⟨by omega, by omega, rfl⟩, by omega⟩
 ·have kK : k <= K := g.1 (by omega);refine zs ?_;refine jam (fun j t h' => h' = h1 /\ ∃ k : Int, t 1 = .int .i64 n /\ t 2 = .ptr h.size 0 /\ t 5 = .int .i64 k /\ -11000000 <= k /\ k <= K /\ j = (K - k).toNat) (j0 := (K - k).toNat)
   ⟨rfl, k, e1, e2, ek, k1, kK, rfl⟩ ?_
  rintro j t h2 ⟨rfl, k, e1, e2, ek, k3, k4, hj⟩;have g := gt (k + 1);refine zs4 e1 e2 ek gp ?_;refine kaa (ks (k + 1) (by omega) _) (zs2 e1 e2 ?_);refine kai (fun c => ?_) (fun c => ?_)
  ·have kK : k + 1 <= K := g.1 c;refine zs3 e1 e2 ek ?_;exact ⟨_, ⟨by omega, by omega, rfl⟩, by omega⟩
  ·have kK : k = K := by
    rcases Int.lt_or_le k K with q | q
    ·have := g.2 (by omega); omega
    ·omega
   refine zs2 ek kK ?_;exact s1
theorem jho (hC : Has C TA) {p : PlanP} {e : EmitP} {vp vb : AV} {n : Int} {h : Heap} (ok : EmOk p e) (v1 : vp.one = true) (b1 : vb.one = true) (hn : -10100000 <= n /\ n <= 10100000) :
  ACalls C 246 [plA p vp, emA e vb, .int .i64 n] h (fun r h' => r = .int .i64 (e.pl p n) /\ h' = h) := by
 refine kae (P := fun r h' => r = .int .i64 (e.pl p n) /\ HSub h h') ?_ (fun r h' hp => ⟨by rw [hp.1]; trivial, hp.2, hp.1, rfl⟩);have sz := fun h => jdw hC (vp := vp) (h := h) ok.pn v1;have ks := fun (k : Int) (hk : -20000000 <= k /\ k <= 20000000) h => jen hC (k := k) (h := h) ok v1 b1 hk;have gt := fun (k : Int) => st_gt ok (n := n) (k := k);have pb := ok.plb hn;have d := ok.en.1;have s := jbi ok.pn;have fl := fun h => jcd hC (a := n - e.dl) (b := p.size) (h := h) (by unfold In64; omega) (by omega);have td : -11000000 <= (n - e.dl) / p.size /\ (n - e.dl) / p.size <= 11000000 := by
  constructor
  ·rw [Int.le_ediv_iff_mul_le (by omega)];omega
  ·rw [<- Int.lt_add_one_iff, Int.ediv_lt_iff_lt_mul (by omega)];omega
 unfold plA at sz ks |-;unfold emA at ks |-;generalize e.pl p n = K at *;generalize hSt : e.sta p = St at *;generalize p.size = z at *;obtain ⟨pd, o, pb, w, mn, mx, nz, prns⟩ := p;obtain ⟨prn, dl, rt, st, ph, amp, ba, bits⟩ := e;dsimp only at *;refine zf 246 B246 hC ?_; simp only [B246, zB]; refine zs ?_;refine kaa (sz _) (zs ?_);refine kaa (fl _) (zs ?_);refine jam (fun j t h' => h' = (h.push (.cells [.int .i64 pd, .int .i64 o, .int .i64 pb, .int .i64 w, .int .i64 mn, .int .i64 mx, .int .i64 nz, vp] true 0)).push (.cells [.int .i64 prn, .int .i64 dl, .int .i64 rt, .int .u32 st, .int .u32 ph, .int .i64 amp, .int .i64 ba, vb] true 0) /\ ∃ k : Int, t 2 = .int .i64 n /\ t 3 = .ptr h.size 0 /\ t 4 = .ptr (h.size + 1) 0 /\ t 7 = .int .i64 k /\ -11000000 <= k /\ k <= 11000002 /\ j = (k - K).toNat) (j0 := ((n - dl) / z - K).toNat)
  ⟨rfl, _, rfl, rfl, rfl, rfl, by omega, by omega, rfl⟩ ?_
 rintro j t h1 ⟨hh, k, e2, e3, e4, ek, k1, k2, hj⟩;have gp : h1.get h.size = some (.cells [.int .i64 pd, .int .i64 o, .int .i64 pb, .int .i64 w, .int .i64 mn, .int .i64 mx, .int .i64 nz, vp] true 0) := by rw [hh]; exact ze
 have ge : h1.get (h.size + 1) = some (.cells [.int .i64 prn, .int .i64 dl, .int .i64 rt, .int .u32 st, .int .u32 ph, .int .i64 amp, .int .i64 ba, vb] true 0) := by rw [hh]; exact ze
 have s1 : HSub h h1 := by rw [hh]; exact (kab _ _).push _
 have g := gt k;refine zs6 e2 e3 e4 ek gp ge ?_;refine kaa (ks k (by omega) _) (zs3 e2 e3 e4 ?_);refine kai (fun c => ?_) (fun c => ?_)
 ·have kK : K < k := by
   rcases Int.lt_or_le K k with q | q
   ·exact q
   ·have := g.2 q; omega
  refine zs5 e2 e3 e4 ek hh ?_;exact ⟨_, ⟨by omega, by omega, rfl⟩, by omega⟩
 ·have kK : k <= K := g.1 (by omega);refine zs ?_;refine jam (fun j t h' => h' = h1 /\ ∃ k : Int, t 2 = .int .i64 n /\ t 3 = .ptr h.size 0 /\ t 4 = .ptr (h.size + 1) 0 /\ t 7 = .int .i64 k /\ -11000000 <= k /\ k <= K /\ j = (K - k).toNat) (j0 := (K - k).toNat)
   ⟨rfl, k, e2, e3, e4, ek, k1, kK, rfl⟩ ?_
  rintro j t h2 ⟨rfl, k, e2, e3, e4, ek, k3, k4, hj⟩;have g := gt (k + 1);refine zs6 e2 e3 e4 ek gp ge ?_;refine kaa (ks (k + 1) (by omega) _) (zs3 e2 e3 e4 ?_);refine kai (fun c => ?_) (fun c => ?_)
  ·have kK : k + 1 <= K := g.1 c;refine zs4 e2 e3 e4 ek ?_;exact ⟨_, ⟨by omega, by omega, rfl⟩, by omega⟩
  ·have kK : k = K := by
    rcases Int.lt_or_le k K with q | q
    ·have := g.2 (by omega); omega
    ·omega
   refine zs2 ek kK ?_;exact s1
def qtN (p : Int × Int) : Nat -> Int × Int
 | 0 => p
 | n + 1 => (-(qtN p n).2, (qtN p n).1)
theorem jlK {p : Int × Int} (h : (-127 <= p.1 /\ p.1 <= 127) /\ -127 <= p.2 /\ p.2 <= 127) : ∀ n, (-127 <= (qtN p n).1 /\ (qtN p n).1 <= 127) /\ -127 <= (qtN p n).2 /\ (qtN p n).2 <= 127
 | 0 => h
 | n + 1 => by have := jlK h n; unfold qtN; dsimp only; omega
theorem jjH : ∀ k < 64, carr k = qtN (quarterL.getD (k % 16) 0, quarterL.getD (16 - k % 16) 0) (k / 16) := by decide +kernel
theorem jdF : ∀ k < 17, -127 <= quarterL.getD k 0 /\ quarterL.getD k 0 <= 127 := by decide +kernel
theorem jig (hC : Has C TA) (hb : -127 <= b /\ b <= 127) : ACalls C 153 [smp (a, b)] h (fun r h' => r = smp (-b, a) /\ h' = h) := by
 refine kae (P := fun r h' => r = smp (-b, a) /\ HSub h h') ?_ (fun r h' hp => ⟨by rw [hp.1]; exact jcu _, hp.2, hp.1, rfl⟩);unfold smp;refine zf 153 B153 hC ?_; simp only [B153, zB]; refine zs ?_;exact ⟨by rw [Int.zero_sub], zr⟩
theorem ji2 (hC : Has C TA) {p : Int × Int} {n : Nat} (hp : (-127 <= p.1 /\ p.1 <= 127) /\ -127 <= p.2 /\ p.2 <= 127) (hn : n < 4) : ACalls C 152 [smp p, .int .i64 (n : Nat)] h (fun r h' => r = smp (qtN p n) /\ h' = h) := by
 refine kae (P := fun r h' => r = smp (qtN p n) /\ HSub h h') ?_ (fun r h' hp => ⟨by rw [hp.1]; exact jcu _, hp.2, hp.1, rfl⟩);have ba : ∀ k a b, binA .and (.int k a) (.int k b) = some (.int k (bitsA .and k a b)) := fun k a b => by simp [binA, jbn]
 have b3 : bitsA .and .i64 (n : Int) 3 = (n : Nat) := (show ∀ n < 4, bitsA .and .i64 ((n : Nat) : Int) 3 = (n : Nat) by decide) n hn;refine zf 152 B152 hC ?_; simp only [B152, zB]; refine zs2 ba b3 ?_;refine jam (fun j t H => ∃ k : Nat, H.get h.size = some (.cells [.int .i64 (qtN p k).1, .int .i64 (qtN p k).2] true 0) /\ (∃ b, H.get (h.size + 1) = some (.cells b true 0) /\ b.length = 2) /\ HSub h H /\ t 2 = .ptr h.size 0 /\ t 4 = .ptr (h.size + 1) 0 /\ t 6 = .int .i64 (n : Nat) /\ t 7 = .int .i64 (k : Nat) /\ k <= n /\ j = n - k) (j0 := n)
  ⟨0, by refine zs ?_; rfl, ⟨_, by refine zs ?_; rfl, rfl⟩, zr, rfl, rfl, rfl, rfl, by omega, rfl⟩ ?_
 rintro j t H ⟨k, g, ⟨b, gb, lb⟩, hH, e2, e4, e6, e7, hk, hj⟩;have l1 := kac g;have l2 := kac gb;have r := jlK hp k;refine zs2 e6 e7 ?_;refine kai (fun c => ?_) (fun c => ?_)
 ·have K := fun H' => jig hC (h := H') (a := (qtN p k).1) r.2;unfold smp at K;refine zs2 e2 g ?_;refine kaa (K _) (zs6 e2 e4 e6 e7 g gb ?_);exact ⟨_, ⟨k + 1, rfl, ⟨b, by exact ze1 gb, lb⟩, (zh hH), by simp, by omega, rfl⟩, by omega⟩
 ·have : k = n := by omega
  subst this;refine zs4 e2 e4 g gb ?_;exact ⟨rfl, (zh hH)⟩
theorem jfT (hC : Has C TA) : ACalls C 151 [] h (fun r h' => r = .agg (ints quarterL) /\ h' = h) := by
 refine kae (P := fun r h' => r = .agg (ints quarterL) /\ HSub h h') ?_ (fun r h' hp => ⟨by rw [hp.1]; simp [AV.free, AV.bel, kaq, ints, quarterL], hp.2, hp.1, rfl⟩);refine zf 151 B151 hC ?_; simp only [B151, zB]; simp -implicitDefEqProofs (disch := first | exact zd | fail) only [↓wpPre, jb7, jb8, Int.reduceToNat, Int.reducePow, Int.reduceMul, Int.reduceAdd, Int.reduceSub, Int.reduceNeg, Nat.reduceAdd, Nat.reduceMul, Nat.reducePow, Int.reduceLT, Int.reduceLE, Int.reduceEq, Nat.reduceEqDiff, (Nat.add_zero 0)];exact ⟨rfl, zr⟩
theorem jkw (hC : Has C TA) {k : Nat} (hk : k < 64) : ACalls C 146 [.int .i64 (k : Nat)] h (fun r h' => r = smp (carr k) /\ h' = h) := by
 refine kae (P := fun r h' => r = smp (carr k) /\ HSub h h') ?_ (fun r h' hp => ⟨by rw [hp.1]; exact jcu _, hp.2, hp.1, rfl⟩);have ba : ∀ k a b, binA .and (.int k a) (.int k b) = some (.int k (bitsA .and k a b)) := fun k a b => by simp [binA, jbn]
 have b3 : bitsA .and .i64 (k : Int) 63 = (k : Nat) := (show ∀ n < 64, bitsA .and .i64 ((n : Nat) : Int) 63 = (n : Nat) by decide) k hk;have e1 : (k : Int) % 16 = (k % 16 : Nat) := by omega
 have e2 : (16 : Int) - (k % 16 : Nat) = (16 - k % 16 : Nat) := by omega
 have e3 : (k : Int) / 16 = (k / 16 : Nat) := by omega
 have K := fun H => jfT hC (h := H);have R := fun H => ji2 hC (p := (quarterL.getD (k % 16) 0, quarterL.getD (16 - k % 16) 0)) (n := k / 16) (h := H) ⟨jdF _ (by omega), jdF _ (by omega)⟩ (by omega);rw [<- jjH k hk] at R;unfold smp at *;generalize carr k = z at *;have lq : (ints quarterL).length = 17 := rfl;have gq : ∀ j < 17, (ints quarterL)[j]? = some (.int .i64 (quarterL.getD j 0)) := fun j hj => ints_get hj;have sB : ∀ (H : Heap) (i : Nat) (b : List AV), b.length = 17 -> jcM H i 17 0 (.agg (ints quarterL)) (some (.cells b true 0)) = some (H.put i (.cells (ints quarterL) true 0)) := fun H i b hb => by
  have sp : splice b 0 (ints quarterL) = ints quarterL := by
   show [] ++ ints quarterL ++ b.drop 17 = _;rw [List.drop_eq_nil_of_le (by omega), List.append_nil]; rfl
  exact (storeB_agg lq (by omega) (by rfl)).trans (by rw [sp])
 generalize quarterL = q at *;refine zf 146 B146 hC ?_; simp only [B146, zB]; refine zs2 ba b3 ?_;refine kaa (K _) (zs6 sB e1 e2 e3 gq lq ?_);refine kaa (R _) (zs ?_);exact zr
theorem jfU (hC : Has C TA) : ACalls C 149 [] h (fun r h' => HSub h h' /\ RI h' r quarterL) := by
 refine zf 149 B149 hC ?_; simp only [B149, zB]; simp -implicitDefEqProofs (disch := first | exact zd | fail) only [↓wpPre, jb7, jb8, Int.reduceToNat, Int.reducePow, Int.reduceMul, Int.reduceAdd, Int.reduceSub, Int.reduceNeg, Nat.reduceAdd, Nat.reduceMul, Nat.reducePow, Int.reduceLT, Int.reduceLE, Int.reduceEq, Nat.reduceEqDiff, (Nat.add_zero 0)];exact ⟨zr, kal (wr := true) (u := 0) (l := quarterL) (get_push_eq rfl) ⟨rfl, by decide⟩ (Nat.le_refl _)⟩
theorem ji3 (hC : Has C TA) {k : Nat} (hk : k < 64) : ACalls C 141 [.int .i64 (k : Nat)] h (fun r h' => r = smp (carr k) /\ h' = h) := by
 refine kae (P := fun r h' => r = smp (carr k) /\ HSub h h') ?_ (fun r h' hp => ⟨by rw [hp.1]; exact jcu _, hp.2, hp.1, rfl⟩);have ba : ∀ k a b, binA .and (.int k a) (.int k b) = some (.int k (bitsA .and k a b)) := fun k a b => by simp [binA, jbn]
 have b3 : bitsA .and .i64 (k : Int) 63 = (k : Nat) := (show ∀ n < 64, bitsA .and .i64 ((n : Nat) : Int) 63 = (n : Nat) by decide) k hk;have e1 : (k : Int) % 16 = (k % 16 : Nat) := by omega
 have e2 : (16 : Int) - (k % 16 : Nat) = (16 - k % 16 : Nat) := by omega
 have K := fun H => jfU hC (h := H);have ri := fun j => jlK (p := (quarterL.getD (k % 16) 0, quarterL.getD (16 - k % 16) 0)) ⟨jdF (k % 16) (by omega), jdF (16 - k % 16) (by omega)⟩ j;rw [jjH k hk];have lq : quarterL.length = 17 := rfl;generalize hp : (quarterL.getD (k % 16) 0, quarterL.getD (16 - k % 16) 0) = p at *;unfold smp;generalize quarterL = q at *;refine zf 141 B141 hC ?_; simp only [B141, zB]; refine zs2 ba b3 ?_;refine kad (K _) ?_;rintro v h1 ⟨s1, Q⟩;have z1 := s1.size;simp only [Heap.size_push] at z1;have g2 := s1.get h.size (by simp);rw [get_push_eq rfl] at g2;have hw : h1.get (h1.size + 12) = none := h1.wf _ (by omega)
 refine zs6 e1 e2 @Q.idx @Q.load @Q.loadC hw ?_;have hx := congrArg Prod.fst hp;have hy := congrArg Prod.snd hp;dsimp only at hx hy;rw [hx, hy];clear hx hy hp K Q;have s2 : HSub h ((h1.reserve 14).put (h1.size + 12) (.cells [.int .i64 p.1, .int .i64 p.2] true 0)) := (zh ((kab h _).trans s1));have gN : ((h1.reserve 14).put (h1.size + 12) (.cells [.int .i64 p.1, .int .i64 p.2] true 0)).get h.size = some (.cells [.int .i64 0, .int .i64 0] true 0) := by exact ze1 g2
 refine jam (fun j t H => ∃ i : Nat, H.get (h1.size + 12) = some (.cells [.int .i64 (qtN p i).1, .int .i64 (qtN p i).2] true 0) /\ H.get h.size = some (.cells [.int .i64 0, .int .i64 0] true 0) /\ HSub h H /\ t 2 = .ptr h.size 0 /\ t 4 = .ptr (h1.size + 12) 0 /\ t 0 = .int .i64 ((k - 16 * i : Nat) : Int) /\ 16 * i <= k /\ j = k - 16 * i) (j0 := k)
  ⟨0, get_put_eq rfl (by simp only [Heap.size_reserve]; omega), gN, s2, rfl, rfl, rfl, by omega, rfl⟩ ?_
 rintro j t H ⟨i, g, gb, hH, e2, e4, e0, hi, hj⟩;have l1 := kac g;have l2 := kac gb;have r := ri i;have b0 : h.size <= h1.size := by omega
 refine zs1 e0 ?_;refine kai (fun c => ?_) (fun c => ?_)
 ·have em : ((k - 16 * i : Nat) : Int) - 16 = ((k - 16 * (i + 1) : Nat) : Int) := by omega
  refine zs5 e0 e2 e4 g em ?_;exact ⟨_, ⟨i + 1, by rw [Int.zero_sub]; rfl, by exact ze1 gb, (zh hH), rfl, by omega, rfl⟩, by omega⟩
 ·have : i = k / 16 := by omega
  subst this;refine zs4 e2 e4 g gb ?_;exact (zh hH)
theorem jih (hC : Has C TA) {ph : Int} (hp : U32 ph) : ACalls C 135 [.int .u32 ph] h (fun r h' => r = smp (carP ph) /\ h' = h) := by
 refine kae (P := fun r h' => r = smp (carP ph) /\ HSub h h') ?_ (fun r h' hp => ⟨by rw [hp.1]; exact jcu _, hp.2, hp.1, rfl⟩);unfold U32 at hp;unfold carP;obtain ⟨k, hk⟩ := Int.eq_ofNat_of_zero_le (show 0 <= ph / 67108864 by omega);rw [hk, Int.toNat_natCast];have hk' : k < 64 := by omega
 refine zf 135 B135 hC ?_; simp only [B135, zB]; refine zs1 hk ?_;refine kaa (jkw hC hk') (zs1 @smp.eq_1 ?_);exact kab _ _
theorem jhp (hC : Has C TA) {ph : Int} (hp : U32 ph) : ACalls C 130 [.int .u32 ph] h (fun r h' => r = smp (carP ph) /\ h' = h) := by
 refine kae (P := fun r h' => r = smp (carP ph) /\ HSub h h') ?_ (fun r h' hp => ⟨by rw [hp.1]; exact jcu _, hp.2, hp.1, rfl⟩);unfold U32 at hp;unfold carP;obtain ⟨k, hk⟩ := Int.eq_ofNat_of_zero_le (show 0 <= ph / 67108864 by omega);rw [hk, Int.toNat_natCast];have hk' : k < 64 := by omega
 refine zf 130 B130 hC ?_; simp only [B130, zB]; refine zs1 hk ?_;refine kaa (ji3 hC hk') (zs1 @smp.eq_1 ?_);exact kab _ _
def RV (h : Heap) (v : AV) (l : List Int) : Prop :=
 l.length < 9223372036854775808 /\ ((v = .nilslice \/ ∃ a, v = .emp a) /\ l = [] \/ ∃ i o c vs wr u, v = .slice i o l.length c /\ h.get i = some (.cells vs wr u) /\ o + l.length <= vs.length /\ cut vs o l.length = ints l)
section
variable {h h' : Heap} {v : AV} {l : List Int}
theorem RI.rv (H : RI h v l) : RV h v l := by
 obtain ⟨_, hlt, ⟨rfl | ⟨za, rfl⟩, h0⟩ | ⟨i, o, c, vs, wr, u, rfl, hg, hle, hc, _⟩⟩ := H
 ·exact ⟨hlt, .inl ⟨.inl rfl, List.eq_nil_of_length_eq_zero h0⟩⟩
 ·exact ⟨hlt, .inl ⟨.inr ⟨_, rfl⟩, List.eq_nil_of_length_eq_zero h0⟩⟩
 ·rw [Nat.mul_one] at hle hc;exact ⟨hlt, .inr ⟨i, o, c, vs, wr, u, rfl, hg, hle, hc⟩⟩
theorem RV.len (H : RV h v l) : lenA v = some (.int .i64 l.length) := by
 obtain ⟨_, ⟨rfl | ⟨za, rfl⟩, rfl⟩ | ⟨i, o, c, vs, wr, u, rfl, _⟩⟩ := H <;> rfl
theorem RV.one (H : RV h v l) : v.one = true := by
 obtain ⟨_, ⟨rfl | ⟨za, rfl⟩, rfl⟩ | ⟨i, o, c, vs, wr, u, rfl, _⟩⟩ := H <;> rfl
theorem RV.lt (H : RV h v l) : l.length < 9223372036854775808 := H.1
theorem RV.idx (H : RV h v l) {kk : IntKind} {k : Int} (hk : 0 <= k /\ k < l.length) : idxA 1 v (.int kk k) = some (elA 1 v k.toNat) := by
 obtain ⟨_, ⟨rfl | ⟨za, rfl⟩, rfl⟩ | ⟨i, o, c, vs, wr, u, rfl, _⟩⟩ := H
 ·simp at hk; omega
 ·simp at hk; omega
 ·simp only [idxA, if_pos hk, elA]
theorem RV.mono (H : RV h v l) (hs : HSub h h') : RV h' v l := by
 obtain ⟨hlt, ⟨rfl | ⟨za, rfl⟩, rfl⟩ | ⟨i, o, c, vs, wr, u, rfl, hg, r⟩⟩ := H
 ·exact ⟨hlt, .inl ⟨.inl rfl, rfl⟩⟩
 ·exact ⟨hlt, .inl ⟨.inr ⟨_, rfl⟩, rfl⟩⟩
 ·exact ⟨hlt, .inr ⟨i, o, c, vs, wr, u, rfl, (hs.get i (kac hg)).trans hg, r⟩⟩
theorem RV.load (H : RV h v l) {k : Nat} (hk : k < l.length) : Ae.loadA h false 1 (elA 1 v k) = some (.int .i64 (l.getD k 0)) := by
 obtain ⟨hlt, ⟨rfl | ⟨za, rfl⟩, rfl⟩ | ⟨i, o, c, vs, wr, u, rfl, hg, hle, hc⟩⟩ := H
 ·simp at hk
 ·simp at hk
 ·have e := ints_get hk;rw [<- hc] at e;rw [<- e];simp only [elA, Ae.loadA, hg, partA, cut, Bool.false_eq_true, if_false, Nat.mul_one];rw [List.getElem?_take_of_lt (by omega), List.getElem?_drop]
end
def lvl (p : PlanP) (e : EmitP) (k : Int) : Int × Int := ((e.amp * (1 - 2 * bitI p e k)) * (carP (phI e.ph e.st k)).1, (e.amp * (1 - 2 * bitI p e k)) * (carP (phI e.ph e.st k)).2)
theorem jfV (hb : 1 <= b) {A : Int} (ha : -A <= a /\ a <= A) : -A <= a / b /\ a / b <= A := by
 have hA : 0 <= A := by omega
 constructor
 ·rw [Int.le_ediv_iff_mul_le (by omega)];have : A * 1 <= A * b := Int.mul_le_mul_of_nonneg_left hb hA;have e : -A * b = -(A * b) := by grind
  omega
 ·rw [<- Int.lt_add_one_iff, Int.ediv_lt_iff_lt_mul (by omega)];have : (A + 1) * 1 <= (A + 1) * b := Int.mul_le_mul_of_nonneg_left hb (by omega);omega
theorem ji4 (hC : Has C TA) {p : PlanP} {e : EmitP} {vp vb vc : AV} {k : Int} {h : Heap} (ok : EmOk p e) (B : RV h vb e.bits) (v1 : vp.one = true) (w1 : vc.one = true) (hk : -20000000 <= k /\ k <= 20000000) :
  ACalls C 247 [srcA p e vp vb vc, .int .i64 k] h (fun r h' => r = .int .i64 (bitI p e k) /\ h' = h) := by
 refine kae (P := fun r h' => r = .int .i64 (bitI p e k) /\ HSub h h') ?_ (fun r h' hp => ⟨by rw [hp.1]; trivial, hp.2, hp.1, rfl⟩);have b1 := B.one;have blt := B.lt;have bl := ok.len;have ba' := ok.en.2.2.2;have pb' := ok.pn.2.2.1;have hB : bitI p e k = if e.bits.length = 0 then 0 else e.bits.getD (((k - e.ba) / p.pb) % e.bits.length).toNat 0 := rfl
 have Bm := fun b => B.mono (kab h b);generalize bitI p e k = X at *;unfold srcA;obtain ⟨pd, o, pb, w, mn, mx, nz, prns⟩ := p;obtain ⟨prn, dl, rt, st, ph, amp, ba, bits⟩ := e;dsimp only at *;by_cases c : bits.length = 0
 ·rw [if_pos c] at hB;subst hB;refine zf 247 B247 hC ?_; simp only [B247, zB]; refine zs2 @B.len c ?_;exact kab _ _
 ·rw [if_neg c] at hB;have tm := jkv (j := (k - ba) / pb) (n := (bits.length : Int)) (by omega);have m1 := Int.emod_nonneg ((k - ba) / pb) (show (bits.length : Int) ≠ 0 by omega);have m2 := Int.emod_lt_of_pos ((k - ba) / pb) (show (0 : Int) < bits.length by omega);have q1 := Int.tmod_lt_of_pos ((k - ba) / pb) (show (0 : Int) < bits.length by omega);have q2 := Int.lt_tmod_of_pos ((k - ba) / pb) (show (0 : Int) < bits.length by omega);have q3 := jfV (a := k - ba) (b := pb) (A := 20000020) (by omega) (by omega);have fn := jlH (k := k - ba) (b := pb) (by omega);have q4 := jfV (a := pb - 1 - (k - ba)) (b := pb) (A := 20000060) (by omega) (by omega)
  obtain ⟨m, hm⟩ : ∃ m : Nat, ((k - ba) / pb) % (bits.length : Int) = (m : Int) := ⟨(((k - ba) / pb) % (bits.length : Int)).toNat, by omega⟩;rw [Int.tmod_eq_emod_of_nonneg (by omega)] at tm;rw [hm] at tm m1 m2 hB;rw [Int.toNat_natCast] at hB;have ld := fun b => (Bm b).load (k := m) (by omega);have ix := B.idx (kk := .i64) (k := (m : Int)) ⟨by omega, by omega⟩;rw [Int.toNat_natCast] at ix;rw [<- hB] at ld;have nb : ¬ (bits.length : Int) = 0 := by omega
  have npb : ¬ pb = 0 := by omega
  by_cases c2 : k - ba < 0
  ·have td : (pb - 1 - (k - ba)).tdiv pb = (pb - 1 - (k - ba)) / pb := Int.tdiv_eq_ediv_of_nonneg (by omega);have q5 : -40000000 <= (k - ba).tdiv pb /\ (k - ba).tdiv pb <= 40000000 := by
    have := Int.natAbs_tdiv_le_natAbs (k - ba) pb;omega
   have fn' : 0 - (pb - 1 - (k - ba)) / pb = (k - ba) / pb := by omega
   generalize (k - ba) / pb = J at *;generalize hD : (pb - 1 - (k - ba)) / pb = D at *;refine zf 247 B247 hC ?_; simp only [B247, zB]; refine zs7 @B.len nb npb @c2 td @hD (zI @fn' (zI tm (zI ix (zI ld @gV_u)))) ?_;exact kab _ _
  ·have td : (k - ba).tdiv pb = (k - ba) / pb := Int.tdiv_eq_ediv_of_nonneg (by omega);generalize hJ : (k - ba) / pb = J at *;refine zf 247 B247 hC ?_; simp only [B247, zB]; refine zs7 @B.len nb npb @c2 td @hJ (zI tm (zI ix (zI ld @gV_u))) ?_;exact kab _ _
theorem ji5 (hC : Has C TA) {p : PlanP} {e : EmitP} {vp vb : AV} {k : Int} {h : Heap} (ok : EmOk p e) (B : RI h vb e.bits) (v1 : vp.one = true) (hk : -20000000 <= k /\ k <= 20000000) :
  ACalls C 248 [plA p vp, emA e vb, .int .i64 k] h (fun r h' => r = .int .i64 (bitI p e k) /\ h' = h) := by
 refine kae (P := fun r h' => r = .int .i64 (bitI p e k) /\ HSub h h') ?_ (fun r h' hp => ⟨by rw [hp.1]; trivial, hp.2, hp.1, rfl⟩);have b1 := B.one;have blt := B.lt;have bl := ok.len;have ba' := ok.en.2.2.2;have pb' := ok.pn.2.2.1;have hB : bitI p e k = if e.bits.length = 0 then 0 else e.bits.getD (((k - e.ba) / p.pb) % e.bits.length).toNat 0 := rfl
 have Bm := fun b c => B.mono ((kab h b).push c);generalize bitI p e k = X at *;unfold plA emA;obtain ⟨pd, o, pb, w, mn, mx, nz, prns⟩ := p;obtain ⟨prn, dl, rt, st, ph, amp, ba, bits⟩ := e;dsimp only at *;by_cases c : bits.length = 0
 ·rw [if_pos c] at hB;subst hB;refine zf 248 B248 hC ?_; simp only [B248, zB]; refine zs2 @B.len c ?_;exact (kab _ _).push _
 ·rw [if_neg c] at hB;have q3 := jfV (a := k - ba) (b := pb) (A := 20000020) (by omega) (by omega);have f1 := fun h => jcd hC (a := k - ba) (b := pb) (h := h) (by unfold In64; omega) (by omega);generalize (k - ba) / pb = J at *;have f2 := fun h => jcd hC (a := J) (b := (bits.length : Nat)) (h := h) (by unfold In64; omega) (by omega);have rm := jm6 (j := J) (n := (bits.length : Int));have m1 := Int.emod_nonneg J (show (bits.length : Int) ≠ 0 by omega);have m2 := Int.emod_lt_of_pos J (show (0 : Int) < bits.length by omega);obtain ⟨m, hm⟩ : ∃ m : Nat, J % (bits.length : Int) = (m : Int) := ⟨(J % (bits.length : Int)).toNat, by omega⟩
  rw [hm] at rm m1 m2 hB;rw [Int.toNat_natCast] at hB;have ld := fun b c => (Bm b c).load (k := m) (by omega);have ix := B.idx (kk := .i64) (k := (m : Int)) ⟨by omega, by omega⟩;rw [Int.toNat_natCast] at ix;rw [<- hB] at ld;have nb : ¬ (bits.length : Int) = 0 := by omega
  have pq : (bits.length : Int) * (J / (bits.length : Int)) = J - m := by omega
  refine zf 248 B248 hC ?_; simp only [B248, zB]; refine zs2 @B.len nb ?_;refine kaa (f1 _) (zs ?_);refine kaa (f2 _) ?_;have jm : J - (J - (m : Int)) = m := by omega
  refine zs4 pq jm ix ld ?_;exact (kab _ _).push _
theorem je2 (hC : Has C TA) {p : PlanP} {e : EmitP} {vp vb vc : AV} {i : Int} {h : Heap} (ok : EmOk p e) (W : RV h vc (codeL p.d e.prn)) (v1 : vp.one = true) (b1 : vb.one = true) (hi : 0 <= i /\ i <= 100000) :
  ACalls C 249 [srcA p e vp vb vc, .int .i64 i] h (fun r h' => r = .int .i64 (chipI p e i) /\ h' = h) := by
 refine kae (P := fun r h' => r = .int .i64 (chipI p e i) /\ HSub h h') ?_ (fun r h' hp => ⟨by rw [hp.1]; trivial, hp.2, hp.1, rfl⟩);have w1 := W.one;have o' := ok.pn.2.1;have cl : (codeL p.d e.prn).length = lenN p.d := jbe _ _;have hN := jbL ok.pn.1;have Wm := fun b => W.mono (kab h b);have q3 := jfV (a := i) (b := p.o) (A := 100000) (by omega) (by omega);have q4 : 0 <= i / p.o := Int.ediv_nonneg (by omega) (by omega);have td : i.tdiv p.o = i / p.o := Int.tdiv_eq_ediv_of_nonneg (by omega);unfold chipI;obtain ⟨m, hm⟩ : ∃ m : Nat, min (i / p.o) ((lenN p.d : Int) - 1) = (m : Int) := ⟨(min (i / p.o) ((lenN p.d : Int) - 1)).toNat, by omega⟩
 rw [hm, Int.toNat_natCast];have ld := fun b => (Wm b).load (k := m) (by omega);have ix := W.idx (kk := .i64) (k := (m : Int)) ⟨by omega, by omega⟩;rw [Int.toNat_natCast] at ix;have wl := W.len;rw [cl] at wl;generalize (codeL p.d e.prn).getD m 0 = x at *;generalize lenN p.d = N at *;have no : ¬ p.o = 0 := by omega
 unfold srcA;obtain ⟨pd, o, pb, w, mn, mx, nz, prns⟩ := p;obtain ⟨prn, dl, rt, st, ph, amp, ba, bits⟩ := e;dsimp only at *;refine zf 249 B249 hC ?_; simp only [B249, zB]; refine zs6 td no wl hm ix ld ?_;exact kab _ _
theorem jeo (hC : Has C TA) {p : PlanP} {e : EmitP} {vp vb vc : AV} {k : Int} {h : Heap} (ok : EmOk p e) (h65 : e.ok64) (B : RV h vb e.bits) (v1 : vp.one = true) (w1 : vc.one = true) (hk : -20000000 <= k /\ k <= 20000000) :
  ACalls C 250 [srcA p e vp vb vc, .int .i64 k] h (fun r h' => r = smp (lvl p e k) /\ h' = h) := by
 refine kae (P := fun r h' => r = smp (lvl p e k) /\ HSub h h') ?_ (fun r h' hp => ⟨by rw [hp.1]; exact jcu _, hp.2, hp.1, rfl⟩);have b1 := B.one;have am := ok.en.2.2.1;have pm := ok.pn.2.2.2.2;have bb := ok.bit k;have ka := fun h => jid hC (a := e.ph) (s := e.st) (n := k) (h := h);have kc := fun h => jih hC (h := h) (jeO e.ph e.st k);have cl := jhk (jeO e.ph e.st k);have kb := fun h1 (q : HSub h h1) => ji4 hC (vp := vp) (vc := vc) ok (B.mono q) v1 w1 hk;unfold lvl;generalize carP (phI e.ph e.st k) = t at *;generalize hb : bitI p e k = b at *;generalize phI e.ph e.st k = f at *;have xb : -1000 <= e.amp * (1 - 2 * b) /\ e.amp * (1 - 2 * b) <= 1000 := by rcases bb with q | q <;> subst q <;> omega
 have x1 := jb5 xb ⟨cl.1, cl.2.1⟩;have x2 := jb5 xb ⟨cl.2.2.1, cl.2.2.2⟩;obtain ⟨tx, ty⟩ := t;unfold srcA at kb |-;unfold smp at kc |-;obtain ⟨pd, o, pb, w, mn, mx, nz, prns⟩ := p;obtain ⟨prn, dl, rt, st, ph, amp, ba, bits⟩ := e;dsimp only at *;refine zf 250 B250 hC ?_; simp only [B250, zB]; refine zs ?_;refine kaa (ka _) (zs ?_);refine kaa (kc _) (zs ?_);refine kaa (kb _ zr) (zs ?_);exact zr
def codeK (d p : Int) (k : Nat) : List Int := (codeL d p).take k ++ List.replicate (lenN d - k) 0
theorem jii {p : Int} {k : Nat} (h : k <= lenN d) : (codeK d p k).length = lenN d := by simp [codeK, jbe]; omega
theorem jij {p : Int} {k : Nat} (h : k < lenN d) : (codeL d p).getD k 0 = 1 - 2 * codeB d p k := by simp [codeL, bitC, h]
theorem jlL {p : Int} {k : Nat} (h : k < lenN d) : (codeK d p k).set k (1 - 2 * codeB d p k) = codeK d p (k + 1) := by
 unfold codeK;have cl := jbe d p;have hl : ((codeL d p).take k).length = k := by simp [cl]; omega
 rw [List.set_append_right _ _ (by omega), hl, Nat.sub_self, show lenN d - k = lenN d - (k + 1) + 1 by omega, List.replicate_succ, List.set_cons_zero, jaN (by omega), jij h, List.append_assoc];rfl
theorem jkx (d p : Int) : codeK d p (lenN d) = codeL d p := by
 have cl := jbe d p;simp [codeK, <- cl]
theorem jky (hC : Has C TA) {p : Int} (hd : In64 d) (hp : In64 p) : ACalls C 77 [.int .i64 d, .int .i64 p] h (fun r h' => ∃ v, r = jau v (jda d p) /\ HSub h h' /\ RI h' v (if jda d p = 0 then codeL d p else []) /\ ∀ i ∈ v.ids, h.size <= i) := by
 have hp' := hp;unfold In64 at hp';have pe : jda d p = if lenOk d = true /\ 1 <= p /\ p <= lenN d + 2 then 0 else 2 := rfl
 by_cases c : lenOk d = true
 ·have hl := jbL c;have eL : lenE d = tup2 (lenN d) 0 := by unfold lenE; rw [if_pos c]
  by_cases cp : 1 <= p /\ p <= lenN d + 2
  ·rw [if_pos ⟨c, cp⟩] at pe;rw [pe];have t1 : jaw d 1 = 0 := by unfold jaw; rw [if_pos ⟨c, .inl rfl⟩]
   have t2 : jaw d 2 = 0 := by unfold jaw; rw [if_pos ⟨c, .inr rfl⟩]
   have lb1 := jbd d 1;have lb2 := jbd d 2;have hB : ∀ {w : Int} {h : Heap}, jaw d w = 0 -> In64 w -> ACalls C 75 [.int .i64 d, .int .i64 w] h (fun r h' => ∃ v, r = jau v 0 /\ HSub h h' /\ RI h' v (bitsL d w)) := by
    intro w h e hw;refine (jiW hC hd hw).mono ?_;rintro r h' ⟨v, h1, h2, h3⟩;rw [e, if_pos rfl] at h3;exact ⟨v, by rw [h1, e], h2, h3⟩
   refine zf 77 B77 hC ?_; simp only [B77, zB]; refine zs ?_;refine kaf (jbc hC hd) eL (zs1 @tup2.eq_1 ?_);refine kad (hB t1 (by unfold In64; omega)) ?_;rintro r h1 ⟨v1, rfl, s1, R1⟩;refine zs1 @jau.eq_1 ?_;refine kad (hB t2 (by unfold In64; omega)) ?_;rintro r h2 ⟨v2, rfl, s2, R2⟩;have R1 := R1.mono s2;have s12 := s1.trans s2;refine zs2 @jau.eq_1 @jbW ?_;refine jam (fun j t h' => ∃ k : Nat, h' = h2.push (.cells (ints (codeK d p k)) true 0) /\ t 1 = .int .i64 p /\ t 6 = .int .i64 (lenN d) /\ t 8 = v1 /\ t 10 = v2 /\ t 12 = .slice h2.size 0 (lenN d) (.known (lenN d)) /\ t 13 = .int .i64 (k : Nat) /\ k <= lenN d /\ j = lenN d - k) (j0 := lenN d)
    ⟨0, by simp [codeK], rfl, rfl, rfl, rfl, rfl, rfl, by omega, rfl⟩ ?_
   rintro j t h3 ⟨k, rfl, e1, e6, e8, e10, e12, e13, hk, hj⟩;have lK := jii (p := p) hk;refine zs2 e6 e13 ?_;refine kai (fun c1 => ?_) (fun c1 => ?_)
   ·have hk' : k < lenN d := by omega
    have b1 := jbE (jc9 (d := d) (w := 1)) k;have b2 := jbE (jc9 (d := d) (w := 2)) k;have b12 := jhm d p k;have hst := jlL (p := p) hk';by_cases p1 : p = 1
    ·have hcb : codeB d p k = (bitsL d 1).getD k 0 := by unfold codeB; rw [if_pos p1]
     rw [hcb] at hst;refine zs7 e1 e6 e8 e10 e12 e13 (zI @R1.idx (zI @R1.loadC hst)) ?_;exact ⟨_, ⟨k + 1, rfl, by simp, by omega, rfl⟩, by omega⟩
    by_cases p2 : p = 2
    ·have hcb : codeB d p k = (bitsL d 2).getD k 0 := by unfold codeB; rw [if_neg p1, if_pos p2]
     rw [hcb] at hst;refine zs7 e1 e6 e8 e10 e12 e13 (zI @R2.idx (zI @R2.loadC hst)) ?_;exact ⟨_, ⟨k + 1, rfl, by simp, by omega, rfl⟩, by omega⟩
    have em : ((k : Int) + p - 3) % (lenN d : Int) = (((k + (p - 3).toNat) % lenN d : Nat) : Int) := by
     rw [show (k : Int) + p - 3 = ((k + (p - 3).toNat : Nat) : Int) by omega]; exact (Int.natCast_emod _ _).symm
    have hm : (k + (p - 3).toNat) % lenN d < lenN d := Nat.mod_lt _ (by omega);have ex := xor01 b1 (jbE (jc9 (d := d) (w := 2)) ((k + (p - 3).toNat) % lenN d));have hcb : codeB d p k = ((bitsL d 1).getD k 0 + (bitsL d 2).getD ((k + (p - 3).toNat) % lenN d) 0) % 2 := by unfold codeB; rw [if_neg p1, if_neg p2]
    rw [<- hcb] at ex;refine zs7 e1 e6 e8 e10 e12 e13 (zI @R1.idx (zI @R1.loadC (zI @R2.idx (zI @R2.loadC (zI em (zI ex hst)))))) ?_;exact ⟨_, ⟨k + 1, rfl, by simp, by omega, rfl⟩, by omega⟩
   ·have ek : k = lenN d := by omega
    have cl := jbe d p;have hcf : codeK d p k = codeL d p := by rw [ek, jkx]
    refine zs1 e12 ?_;exact ⟨_, rfl, s12.push _, by rw [if_pos trivial, <- hcf]; exact kal (get_push_eq rfl) ⟨by rw [lK], by omega⟩ (by omega), fun i hi => by simp only [AV.ids, List.mem_singleton] at hi; have := s12.size; omega⟩
  ·have cp' : ¬ (lenOk d = true /\ 1 <= p /\ p <= lenN d + 2) := fun h => cp h.2;rw [if_neg cp'] at pe;rw [pe];refine zf 77 B77 hC ?_; simp only [B77, zB]; refine zs ?_;refine kaf (jbc hC hd) eL (zs1 @tup2.eq_1 ?_)
   (repeat' (first | (refine kai (fun _ => ?_) (fun _ => ?_)) | (refine zs ?_)))
   all_goals first | exact ⟨.nilslice, by rw [jau], kak _, by rw [if_neg id]; exact kaA, by simp [AV.ids]⟩ | omega
 ·have eL : lenE d = tup2 0 2 := by unfold lenE; rw [if_neg c]
  have cp' : ¬ (lenOk d = true /\ 1 <= p /\ p <= lenN d + 2) := fun h => c h.1;rw [if_neg cp'] at pe;rw [pe];refine zf 77 B77 hC ?_; simp only [B77, zB]; refine zs ?_;refine kaf (jbc hC hd) eL (zs1 @tup2.eq_1 ?_);exact ⟨.nilslice, by rw [jau], kak _, by rw [if_neg id]; exact kaA, by simp [AV.ids]⟩
def sampL (d p : Int) (o : Nat) : List Int := ((codeL d p).map fun x => List.replicate o x).flatten
section
variable {h0 h H : Heap} {sz sz' n m k k' : Nat} {v w : AV} {cs ds es : List AV} {c : Cap} {x : Int} {l l' : List Int}
end
section
variable {h0 h H : Heap} {sz bytes n m k j x y : Nat} {v : AV} {cs news : List AV} {l : List (Int × Int)} {li : List Int}
theorem SL.fldE (A : SL h sz v n cs) : ∀ (k off : Nat), k < n -> jcf off (elA sz v k) = some (elF sz v k off) := by
 intro k off hk;obtain ⟨_, _, ⟨rfl | ⟨za, rfl⟩, h1⟩ | ⟨i, o, c, vs, wr, u, rfl, _⟩⟩ := A
 ·omega
 ·omega
 ·rfl
theorem SL.loadE (A : SL h sz v n cs) {k off : Nat} (hk : k < n) (ho : off < sz) : Ae.loadA h false 1 (elF sz v k off) = cs[k * sz + off]? := by
 obtain ⟨hl, hlt, ⟨rfl | ⟨za, rfl⟩, h1⟩ | ⟨i, o, c, vs, wr, u, rfl, hg, hle, hc, _⟩⟩ := A
 ·omega
 ·omega
 ·have h1 : (k + 1) * sz <= n * sz := Nat.mul_le_mul_right sz hk;have h2 : (k + 1) * sz = k * sz + sz := by rw [Nat.add_mul, Nat.one_mul]
  rw [<- hc, cut, List.getElem?_take_of_lt (by omega), List.getElem?_drop];simp only [elF, Ae.loadA, hg, partA, Bool.false_eq_true, if_false];rw [Nat.add_assoc]
end
def jlM (vs : List AV) (o : Int) : List AV := vs.flatMap fun v => [v, .int .i64 o]
structure CLs (h : Heap) (v : AV) (d o : Int) (ps : List Int) (vs : List AV) : Prop where
 sl : SL h 2 v ps.length (jlM vs o)
 len : vs.length = ps.length
 ri : ∀ i, i < ps.length -> RI h (vs.getD i .nilslice) (sampL d (ps.getD i 0) o.toNat)
def inS (B : Int) (x : Int × Int) : Prop := (-B <= x.1 /\ x.1 <= B) /\ (-B <= x.2 /\ x.2 <= B)
instance (B : Int) (x : Int × Int) : Decidable (inS B x) := by unfold inS; exact inferInstance
def addP (x y : Int × Int) : Int × Int := (x.1 + y.1, x.2 + y.2)
def jmN (b : Int) : Prop := b = 1 \/ b = 2 \/ b = 4 \/ b = 8 \/ b = 16 \/ b = 32 \/ b = 64
instance (b : Int) : Decidable (jmN b) := by unfold jmN; exact inferInstance
theorem jhq (hC : Has C TA) {s n : Int} : ACalls C 139 [.int .u32 a, .int .u32 s, .int .i64 n] h (fun r h' => r = .int .u32 (phI a s n) /\ h' = h) := by
 refine zf 139 B139 hC ?_; simp only [B139, zB]; refine zs1 @jjE ?_;unfold phI;rw [Int.mul_comm s];rw [Int.add_emod_emod]
theorem jnq {e : EmitP} {vb vc : AV} (h1 : vc.one = true) : fillA [.int .i64 0, .int .i64 0, .int .i64 0, .int .u32 0, .int .u32 0, .int .i64 0, .int .i64 0, .nilslice, .int .i64 0, .int .i64 0, .int .i64 0, .int .i64 0, .int .i64 0, .int .i64 0, .int .i64 0, .nilslice, .nilslice] [(0, 8, emA e vb), (8, 8, plA p vp), (16, 1, vc)] = some [.int .i64 e.prn, .int .i64 e.dl, .int .i64 e.rt, .int .u32 e.st, .int .u32 e.ph, .int .i64 e.amp, .int .i64 e.ba, vb, .int .i64 p.d, .int .i64 p.o, .int .i64 p.pb, .int .i64 p.w, .int .i64 p.mn, .int .i64 p.mx, .int .i64 p.nz, vp, vc] := by
 have hc : vc.cells = [vc] := by cases vc <;> first | rfl | (simp [AV.one] at h1)
 have e1 : (emA e vb).cells = [.int .i64 e.prn, .int .i64 e.dl, .int .i64 e.rt, .int .u32 e.st, .int .u32 e.ph, .int .i64 e.amp, .int .i64 e.ba, vb] := rfl;have p1 : (plA p vp).cells = [.int .i64 p.d, .int .i64 p.o, .int .i64 p.pb, .int .i64 p.w, .int .i64 p.mn, .int .i64 p.mx, .int .i64 p.nz, vp] := rfl;simp [fillA, hc, e1, p1]
theorem EmOk.per {e : EmitP} (ok : EmOk p e) (n : Int) : 0 <= n - e.sta p (e.pl p n) /\ n - e.sta p (e.pl p n) <= 8184 := by
 have a := (st_gt ok (n := n) (k := e.pl p n)).2 (Int.le_refl _);have b := pl_lt (dl := e.dl) (n := n) ok.den;have c := (jlB (dl := e.dl) (sz := p.size) (k := e.pl p n) ok.en.2.1).2;have s := jbi ok.pn;unfold EmitP.sta EmitP.pl at *;omega
theorem ji6 {e : EmitP} (ok : EmOk p e) {i : Int} (hi : 0 <= i) : chipI p e i = 1 \/ chipI p e i = -1 := by
 have hN := jbL ok.pn.1;have o' := ok.pn.2.1;have q : 0 <= i / p.o := Int.ediv_nonneg hi (by omega);unfold chipI;rw [jij (by omega)];rcases jhm p.d e.prn (min (i / p.o) ((lenN p.d : Int) - 1)).toNat with h | h <;> rw [h] <;> simp
theorem jkz (hC : Has C TA) {p : PlanP} {e : EmitP} {vp vb vc : AV} {n : Int} {h : Heap} (ok : EmOk p e) (h65 : e.ok64) (B : RI h vb e.bits) (W : RI h vc (codeL p.d e.prn)) (v1 : vp.one = true) (hn : -10100000 <= n /\ n <= 10100000) :
  ACalls C 251 [plA p vp, emA e vb, vc, .int .i64 n] h (fun r h' => r = smp (atV p e n) /\ h' = h) := by
 refine kae (P := fun r h' => r = smp (atV p e n) /\ HSub h h') ?_ (fun r h' hp => ⟨by rw [hp.1]; exact jcu _, hp.2, hp.1, rfl⟩);have b1 := B.one;have w1 := W.one;have am := ok.en.2.2.1;have pm := ok.pn.2.2.2.2;have per := ok.per n;have pb' := ok.plb hn;have kp := fun h => jho hC (vp := vp) (vb := vb) (h := h) ok v1 b1 hn;have ks := fun h => jen hC (vp := vp) (vb := vb) (h := h) (k := e.pl p n) ok v1 b1 (by omega);have kb := fun h1 (q : HSub h h1) => ji5 hC (vp := vp) (k := e.pl p n) ok (B.mono q) v1 (by omega);have bb := ok.bit (e.pl p n);have cp := ji6 ok per.1;have ka := fun h => jhq hC (a := e.ph) (s := e.st) (n := e.pl p n) (h := h)
 have kc := fun h => jhp hC (h := h) (jeO e.ph e.st (e.pl p n));have cl := jhk (jeO e.ph e.st (e.pl p n));have stb := ok.stb (k := e.pl p n) (by omega);have o' := ok.pn.2.1;have cll : (codeL p.d e.prn).length = lenN p.d := jbe _ _;have hN := jbL ok.pn.1;have Wm := fun b c d => W.mono (((kab h b).push c).push d);have wl := W.len;rw [cll] at wl;unfold atV;generalize e.pl p n = K at *;have sr : -200000000000 <= e.sta p K /\ e.sta p K <= 200000000000 := ⟨stb.1, stb.2.1⟩;clear stb;generalize e.sta p K = S at *;have q3 := jfV (a := n - S) (b := p.o) (A := 100000) (by omega) (by omega);have q4 : 0 <= (n - S) / p.o := Int.ediv_nonneg per.1 (by omega)
 have td : (n - S).tdiv p.o = (n - S) / p.o := Int.tdiv_eq_ediv_of_nonneg per.1;have ch : chipI p e (n - S) = (codeL p.d e.prn).getD (min ((n - S) / p.o) ((lenN p.d : Int) - 1)).toNat 0 := rfl;obtain ⟨m, hm⟩ : ∃ m : Nat, min ((n - S) / p.o) ((lenN p.d : Int) - 1) = (m : Int) := ⟨(min ((n - S) / p.o) ((lenN p.d : Int) - 1)).toNat, by omega⟩;rw [hm, Int.toNat_natCast] at ch;have ld := fun b c d => (Wm b c d).load (k := m) (by omega);have ix := W.idx (kk := .i64) (k := (m : Int)) ⟨by omega, by omega⟩;rw [Int.toNat_natCast] at ix;rw [<- ch] at ld;generalize chipI p e (n - S) = x at *;generalize lenN p.d = N at *
 generalize carP (phI e.ph e.st K) = t at *;generalize phI e.ph e.st K = f at *;generalize bitI p e K = b at *;have no : ¬ p.o = 0 := by omega
 have xa : -1000 <= e.amp * x /\ e.amp * x <= 1000 := by rcases cp with q | q <;> subst q <;> omega
 have y1 := jb5 xa ⟨cl.1, cl.2.1⟩;have y2 := jb5 xa ⟨cl.2.2.1, cl.2.2.2⟩;have z1 := jb5 (x := 0 - e.amp * x) (B := 1000) (by omega) ⟨cl.1, cl.2.1⟩;have z2 := jb5 (x := 0 - e.amp * x) (B := 1000) (by omega) ⟨cl.2.2.1, cl.2.2.2⟩;obtain ⟨tx, ty⟩ := t;unfold plA emA at kp ks kb |-;unfold smp at kc |-;obtain ⟨pd, o, pb, w, mn, mx, nz, prns⟩ := p;obtain ⟨prn, dl, rt, st, ph, amp, ba, bits⟩ := e;dsimp only at *;rcases bb with q | q <;> subst q <;>
 ·refine zf 251 B251 hC ?_; simp only [B251, zB]; refine zs ?_;refine kaa (kp _) (zs1 wl ?_);refine kaa (ks _) (zs6 td no wl hm ix ld ?_);refine kaa (kb _ zr) (zs ?_);refine kaa (ka _) (zs ?_);refine kaa (kc _) (zs ?_);exact ⟨by grind, zr⟩
def zsrc : AV := .agg [.int .i64 0, .int .i64 0, .int .i64 0, .int .u32 0, .int .u32 0, .int .i64 0, .int .i64 0, .nilslice, .int .i64 0, .int .i64 0, .int .i64 0, .int .i64 0, .int .i64 0, .int .i64 0, .int .i64 0, .nilslice, .nilslice]
theorem jeP (p : PlanP) (e : EmitP) (n : Int) : madeErr p e n = 0 \/ madeErr p e n = 2 \/ madeErr p e n = 3 \/ madeErr p e n = 4 \/ madeErr p e n = 8 \/ madeErr p e n = 18 := by
 have := jdE p e;unfold madeErr;split
 ·split <;> simp
 ·omega
theorem ji7 {e : EmitP} {n : Int} (h : madeErr p e n = 0) : EmOk p e /\ -10000000 <= n /\ n <= 10000000 := by
 unfold madeErr at h;split at h
 ·rename_i c;split at h
  ·omega
  ·exact ⟨jhn c, by omega, by omega⟩
 ·omega
theorem jbR {n : Nat} {x y : AV} {xs : List AV} (h1 : (x :: y :: xs).length = n) (h2 : vs.length = n) (h3 : (x :: y :: xs).all AV.one = true) : jcM H i n 0 (.agg (x :: y :: xs)) (some (.cells vs true 0)) = some (H.put i (.cells (x :: y :: xs) true 0)) := by
 rw [storeB_agg h1 (by omega) h3];have e : splice vs 0 (x :: y :: xs) = x :: y :: xs := by
  show vs.take 0 ++ (x :: y :: xs) ++ vs.drop (0 + (x :: y :: xs).length) = _;rw [List.take_zero, List.nil_append, Nat.zero_add, List.drop_eq_nil_of_le (by omega), List.append_nil]
 rw [e]
theorem jfW (hC : Has C TA) {v w : AV} {p : PlanP} {e : EmitP} {n : Int} {h : Heap} (hp : PlI h v p) (he : EmI h w e) (h64 : p.ok64) (h65 : e.ok64) (hn : In64 n) :
  ACalls C 238 [v, w, .int .i64 n] h (fun r h' => HSub h h' /\ ∃ x, r = .tuple [x, .int .i64 (madeErr p e n)] /\ (madeErr p e n ≠ 0 -> x = zsrc) /\ (madeErr p e n = 0 -> ∃ vp vb vc, v = plA p vp /\ w = emA e vb /\ x = srcA p e vp vb vc /\ RI h vp p.prns /\ RI h vb e.bits /\ RI h' vc (codeL p.d e.prn) /\ ∀ i ∈ vc.ids, h.size <= i)) := by
 have kc := fun h1 (q : HSub h h1) => jkt hC (hp.mono q) (he.mono q) h64 h65;have kk := fun h => jlG hC (h := h) h64.1 h65.1;have er := jdE p e;obtain ⟨vp, rfl, R⟩ := hp;obtain ⟨vb, rfl, B⟩ := he;have v1 := R.one;have b1 := B.one;unfold In64 at hn;unfold madeErr;have sH : ∀ b c d, HSub h (((h.push b).push c).push d) := fun b c d => ((kab h b).push c).push d;by_cases c : emitErr p e = 0
 ·have ok := jhn c;rw [if_pos c];rw [c] at kc;rw [ok.code] at kk;by_cases c2 : n < -10000000 \/ 10000000 < n
  ·rw [if_pos c2];unfold zsrc;refine zf 238 B238 hC ?_; simp only [B238, zB]; refine zs ?_;refine kaa (kc _ (sH _ _ _)) ?_
   (repeat' (first | (refine kai (fun _ => ?_) (fun _ => ?_)) | (refine zs1 @gV_u ?_)))
   all_goals first
    | (exfalso; omega)
    | exact ⟨zr, _, rfl, fun _ => rfl⟩
  ·rw [if_neg c2];have f17 := fun vc (w1 : vc.one = true) => jnq (p := p) (e := e) (vp := vp) (vb := vb) (vc := vc) w1;unfold plA emA at f17;unfold plA emA srcA;have n1 : ¬ n < -10000000 := by omega
   have n2 : ¬ 10000000 < n := by omega
   refine zf 238 B238 hC ?_; simp only [B238, zB]; refine zs ?_;refine kaa (kc _ (sH _ _ _)) (zs3 @gV_u n1 n2 ?_);refine kad (kk _) ?_;rintro r h1 ⟨vc, rfl, s1, W, F⟩;have w1 := W.one;have F := F rfl;obtain ⟨_, fl, i, fi, fv, fg⟩ := F;simp only [Heap.size_push] at fi;have f17 := f17 vc w1;have sz1 := s1.size;simp only [Heap.size_push] at sz1;have gp : h1.get h.size = some (.cells [.int .i64 p.d, .int .i64 p.o, .int .i64 p.pb, .int .i64 p.w, .int .i64 p.mn, .int .i64 p.mx, .int .i64 p.nz, vp] true 0) := (s1.get _ (by simp only [Heap.size_push]; omega)).trans (by exact ze);have ge : h1.get (h.size + 1) = some (.cells [.int .i64 e.prn, .int .i64 e.dl, .int .i64 e.rt, .int .u32 e.st, .int .u32 e.ph, .int .i64 e.amp, .int .i64 e.ba, vb] true 0) := (s1.get _ (by simp only [Heap.size_push]; omega)).trans (by exact ze)
   have gz : h1.get (h.size + 2) = some (.cells [.int .i64 0, .int .i64 0, .int .i64 0, .int .u32 0, .int .u32 0, .int .i64 0, .int .i64 0, .nilslice, .int .i64 0, .int .i64 0, .int .i64 0, .int .i64 0, .int .i64 0, .int .i64 0, .int .i64 0, .nilslice, .nilslice] true 0) := (s1.get _ (by simp)).trans (by exact ze);have s0 := (sH (.cells [.int .i64 p.d, .int .i64 p.o, .int .i64 p.pb, .int .i64 p.w, .int .i64 p.mn, .int .i64 p.mx, .int .i64 p.nz, vp] true 0) (.cells [.int .i64 e.prn, .int .i64 e.dl, .int .i64 e.rt, .int .u32 e.st, .int .u32 e.ph, .int .i64 e.amp, .int .i64 e.ba, vb] true 0) (.cells [.int .i64 0, .int .i64 0, .int .i64 0, .int .u32 0, .int .u32 0, .int .i64 0, .int .i64 0, .nilslice, .int .i64 0, .int .i64 0, .int .i64 0, .int .i64 0, .int .i64 0, .int .i64 0, .int .i64 0, .nilslice, .nilslice] true 0)).trans s1
   have sb := fun (H : Heap) (i : Nat) => jbR (H := H) (i := i) (n := 17) (x := .int .i64 e.prn) (y := .int .i64 e.dl) (xs := [.int .i64 e.rt, .int .u32 e.st, .int .u32 e.ph, .int .i64 e.amp, .int .i64 e.ba, vb, .int .i64 p.d, .int .i64 p.o, .int .i64 p.pb, .int .i64 p.w, .int .i64 p.mn, .int .i64 p.mx, .int .i64 p.nz, vp, vc]) (vs := [.int .i64 0, .int .i64 0, .int .i64 0, .int .u32 0, .int .u32 0, .int .i64 0, .int .i64 0, .nilslice, .int .i64 0, .int .i64 0, .int .i64 0, .int .i64 0, .int .i64 0, .int .i64 0, .int .i64 0, .nilslice, .nilslice]) rfl rfl (by simp [jdr, v1, b1, w1]);refine zs6 @jau.eq_1 gp ge gz f17 sb ?_
   exact ⟨s0.put (by omega) _, _, rfl, fun q => absurd trivial q, fun _ => ⟨vp, vb, vc, rfl, rfl, rfl, R, B, by rw [fv]; exact kal ((get_put_ne (by omega)).trans fg) ⟨rfl, fl⟩ (Nat.le_refl _), fun i hi => by rw [fv] at hi; simp only [AV.ids, List.mem_singleton] at hi; omega⟩⟩
 ·rw [if_neg c];generalize emitErr p e = E at *;unfold zsrc;refine zf 238 B238 hC ?_; simp only [B238, zB]; refine zs ?_;refine kaa (kc _ (sH _ _ _)) (zs1 c ?_);exact ⟨zr, _, rfl, fun _ => rfl⟩
theorem jdx (hC : Has C TA) {v w : AV} {p : PlanP} {e : EmitP} {n : Int} {h : Heap} (hp : PlI h v p) (he : EmI h w e) (h64 : p.ok64) (h65 : e.ok64) (hn : In64 n) :
  ACalls C 238 [v, w, .int .i64 n] h (fun r h' => HSub h h' /\ ∃ x, r = .tuple [x, .int .i64 (madeErr p e n)] /\ (madeErr p e n ≠ 0 -> x = zsrc) /\ (madeErr p e n = 0 -> ∃ vp vb vc, v = plA p vp /\ w = emA e vb /\ x = srcA p e vp vb vc /\ RI h vp p.prns /\ RI h vb e.bits /\ RI h' vc (codeL p.d e.prn))) := by
 refine (jfW hC hp he h64 h65 hn).mono ?_;rintro r h' ⟨a, x, b, c, d⟩;refine ⟨a, x, b, c, fun e0 => ?_⟩;obtain ⟨vp, vb, vc, q1, q2, q3, R, B, W, _⟩ := d e0;exact ⟨vp, vb, vc, q1, q2, q3, R, B, W⟩
def jgM (p : PlanP) (e : EmitP) (n : Int) : AV := if madeErr p e n = 0 then tup2 (e.sta p n) 0 else tup2 0 (madeErr p e n)
theorem jlN (a b : Int) : (tup2 a b).free := by unfold tup2; exact jcO (by simp [AV.free, AV.bel])
theorem jkA (hC : Has C TA) {v w : AV} {p : PlanP} {e : EmitP} {n : Int} {h : Heap} (hp : PlI h v p) (he : EmI h w e) (h64 : p.ok64) (h65 : e.ok64) (hn : In64 n) :
  ACalls C 221 [v, w, .int .i64 n] h (fun r h' => r = jgM p e n /\ h' = h) := by
 refine kae (P := fun r h' => r = jgM p e n /\ HSub h h') ?_ (fun r h' hp => ⟨by rw [hp.1]; unfold jgM; split <;> exact jlN _ _, hp.2, hp.1, rfl⟩);have km := fun h1 (q : HSub h h1) => jdx hC (hp.mono q) (he.mono q) h64 h65 hn;have mr := jeP p e n;unfold jgM;obtain ⟨vp, rfl, R⟩ := hp;obtain ⟨vb, rfl, B⟩ := he;have v1 := R.one;have b1 := B.one;have sH : ∀ b c, HSub h ((h.push b).push c) := fun b c => (kab h b).push c;by_cases c : madeErr p e n = 0
 ·have ok := ji7 c;rw [if_pos c];rw [c] at km;have ks := fun vp vb vc (x1 : vp.one = true) (x2 : vb.one = true) (x3 : vc.one = true) h => jbu hC (vp := vp) (vb := vb) (vc := vc) (k := n) (h := h) ok.1 x1 x2 x3 (by omega);generalize e.sta p n = S at *;refine zf 221 B221 hC ?_; simp only [B221, zB]; refine zs ?_;refine kad (km _ (sH _ _)) ?_;rintro r h1 ⟨s1, x, rfl, g0, g1⟩;have g1 := g1 rfl;obtain ⟨vp', vb', vc, e1, e2, rfl, R', B', W⟩ := g1;have x1 := R'.one;have x2 := B'.one;have x3 := W.one;have ks := ks vp' vb' vc x1 x2 x3;unfold srcA at ks |-;have sb := fun (H : Heap) (i : Nat) => jbR (H := H) (i := i) (n := 17) (x := .int .i64 e.prn) (y := .int .i64 e.dl) (xs := [.int .i64 e.rt, .int .u32 e.st, .int .u32 e.ph, .int .i64 e.amp, .int .i64 e.ba, vb', .int .i64 p.d, .int .i64 p.o, .int .i64 p.pb, .int .i64 p.w, .int .i64 p.mn, .int .i64 p.mx, .int .i64 p.nz, vp', vc]) (vs := [.int .i64 0, .int .i64 0, .int .i64 0, .int .u32 0, .int .u32 0, .int .i64 0, .int .i64 0, .nilslice, .int .i64 0, .int .i64 0, .int .i64 0, .int .i64 0, .int .i64 0, .int .i64 0, .int .i64 0, .nilslice, .nilslice]) rfl rfl (by simp [jdr, x1, x2, x3])
  refine zs1 sb ?_;refine kaa (ks _) (zs1 @tup2.eq_1 ?_);exact (sH _ _).trans (s1.trans (by exact zr))
 ·rw [if_neg c];generalize madeErr p e n = E at *;refine zf 221 B221 hC ?_; simp only [B221, zB]; refine zs ?_;refine kad (km _ (sH _ _)) ?_;rintro r h1 ⟨s1, x, rfl, g0, g1⟩;have g0 := g0 c;subst g0;unfold zsrc;refine zs2 c @tup2.eq_1 ?_;exact (sH _ _).trans (s1.trans (by exact zr))
def tupI3 (x y z : Int) : AV := .tuple [.int .i64 x, .int .i64 y, .int .i64 z]
theorem jkB (a b c : Int) : (tupI3 a b c).free := by unfold tupI3; exact jcO (by simp [AV.free, AV.bel])
def jfX (p : PlanP) (e : EmitP) (n : Int) : AV := if madeErr p e n = 0 then tupI3 (e.pl p n) (n - e.sta p (e.pl p n)) 0 else tupI3 0 0 (madeErr p e n)
def atE (p : PlanP) (e : EmitP) (n : Int) : AV := if madeErr p e n = 0 then .tuple [smp (atV p e n), .int .i64 0] else .tuple [smp (0, 0), .int .i64 (madeErr p e n)]
theorem ji8 (p : PlanP) (e : EmitP) (n : Int) : (jfX p e n).free := by unfold jfX; split <;> exact jkB _ _ _
theorem jmu (p : PlanP) (e : EmitP) (n : Int) : (atE p e n).free := by
 unfold atE;split <;> exact jcO (by simp [smp, AV.free, AV.bel, kaq])
theorem jkC (hC : Has C TA) {v w : AV} {p : PlanP} {e : EmitP} {n : Int} {h : Heap} (hp : PlI h v p) (he : EmI h w e) (h64 : p.ok64) (h65 : e.ok64) (hn : In64 n) :
  ACalls C 225 [v, w, .int .i64 n] h (fun r h' => r = jfX p e n /\ h' = h) := by
 refine kae (P := fun r h' => r = jfX p e n /\ HSub h h') ?_ (fun r h' hp => ⟨by rw [hp.1]; exact ji8 _ _ _, hp.2, hp.1, rfl⟩);have km := fun h1 (q : HSub h h1) => jdx hC (hp.mono q) (he.mono q) h64 h65 hn;have mr := jeP p e n;unfold jfX;obtain ⟨vp, rfl, R⟩ := hp;obtain ⟨vb, rfl, B⟩ := he;have v1 := R.one;have b1 := B.one;have sH : ∀ b c, HSub h ((h.push b).push c) := fun b c => (kab h b).push c;by_cases c : madeErr p e n = 0
 ·have ok := ji7 c;rw [if_pos c];rw [c] at km;have kp := fun vp vb vc (x1 : vp.one = true) (x2 : vb.one = true) (x3 : vc.one = true) h => jdb hC (vp := vp) (vb := vb) (vc := vc) (n := n) (h := h) ok.1 x1 x2 x3 (by omega);have pb := ok.1.plb (n := n) (by omega);have per := ok.1.per n;have ks := fun vp vb vc (x1 : vp.one = true) (x2 : vb.one = true) (x3 : vc.one = true) h => jbu hC (vp := vp) (vb := vb) (vc := vc) (k := e.pl p n) (h := h) ok.1 x1 x2 x3 (by omega);generalize e.pl p n = K at *;generalize e.sta p K = S at *;refine zf 225 B225 hC ?_; simp only [B225, zB]; refine zs ?_;refine kad (km _ (sH _ _)) ?_
  rintro r h1 ⟨s1, x, rfl, g0, g1⟩;have g1 := g1 rfl;obtain ⟨vp', vb', vc, e1, e2, rfl, R', B', W⟩ := g1;have x1 := R'.one;have x2 := B'.one;have x3 := W.one;have s0 := (sH _ _).trans s1;have kp := kp vp' vb' vc x1 x2 x3;have ks := ks vp' vb' vc x1 x2 x3;unfold srcA at kp ks |-;have sb := fun (H : Heap) (i : Nat) => jbR (H := H) (i := i) (n := 17) (x := .int .i64 e.prn) (y := .int .i64 e.dl) (xs := [.int .i64 e.rt, .int .u32 e.st, .int .u32 e.ph, .int .i64 e.amp, .int .i64 e.ba, vb', .int .i64 p.d, .int .i64 p.o, .int .i64 p.pb, .int .i64 p.w, .int .i64 p.mn, .int .i64 p.mx, .int .i64 p.nz, vp', vc]) (vs := [.int .i64 0, .int .i64 0, .int .i64 0, .int .u32 0, .int .u32 0, .int .i64 0, .int .i64 0, .nilslice, .int .i64 0, .int .i64 0, .int .i64 0, .int .i64 0, .int .i64 0, .int .i64 0, .int .i64 0, .nilslice, .nilslice]) rfl rfl (by simp [jdr, x1, x2, x3])
  refine zs1 sb ?_;refine kaa (kp _) (zs ?_);refine kaa (ks _) (zs1 @tupI3.eq_1 ?_);exact s0.trans (by exact zr)
 ·rw [if_neg c];generalize madeErr p e n = E at *;refine zf 225 B225 hC ?_; simp only [B225, zB]; refine zs ?_;refine kad (km _ (sH _ _)) ?_;rintro r h1 ⟨s1, x, rfl, g0, g1⟩;have g0 := g0 c;subst g0;have s0 := (sH _ _).trans s1;unfold zsrc;refine zs2 c @tupI3.eq_1 ?_;exact s0.trans (by exact zr)
theorem jm7 (hC : Has C TA) {v w : AV} {p : PlanP} {e : EmitP} {n : Int} {h : Heap} (hp : PlI h v p) (he : EmI h w e) (h64 : p.ok64) (h65 : e.ok64) (hn : In64 n) :
  ACalls C 229 [v, w, .int .i64 n] h (fun r h' => r = atE p e n /\ h' = h) := by
 refine kae (P := fun r h' => r = atE p e n /\ HSub h h') ?_ (fun r h' hp => ⟨by rw [hp.1]; exact jmu _ _ _, hp.2, hp.1, rfl⟩);have km := fun h1 (q : HSub h h1) => jdx hC (hp.mono q) (he.mono q) h64 h65 hn;have mr := jeP p e n;unfold atE;obtain ⟨vp, rfl, R⟩ := hp;obtain ⟨vb, rfl, B⟩ := he;have v1 := R.one;have b1 := B.one;have sH : ∀ b c d, HSub h (((h.push b).push c).push d) := fun b c d => ((kab h b).push c).push d;by_cases c : madeErr p e n = 0
 ·have ok := ji7 c;rw [if_pos c];rw [c] at km;have kp := fun vp vb vc (x1 : vp.one = true) (x2 : vb.one = true) (x3 : vc.one = true) h => jdb hC (vp := vp) (vb := vb) (vc := vc) (n := n) (h := h) ok.1 x1 x2 x3 (by omega);have pb := ok.1.plb (n := n) (by omega);have per := ok.1.per n;have stb := ok.1.stb (k := e.pl p n) (by omega);have sr : -200000000000 <= e.sta p (e.pl p n) /\ e.sta p (e.pl p n) <= 200000000000 := ⟨stb.1, stb.2.1⟩;clear stb;have ks := fun vp vb vc (x1 : vp.one = true) (x2 : vb.one = true) (x3 : vc.one = true) h => jbu hC (vp := vp) (vb := vb) (vc := vc) (k := e.pl p n) (h := h) ok.1 x1 x2 x3 (by omega)
  have kc := fun vp vb vc h1 (x1 : vp.one = true) (x2 : vb.one = true) (W : RI h1 vc (codeL p.d e.prn)) => je2 hC (vp := vp) (vb := vb) (i := n - e.sta p (e.pl p n)) ok.1 W.rv x1 x2 (by omega);have kl := fun vp vb vc h1 (x1 : vp.one = true) (x3 : vc.one = true) (B : RI h1 vb e.bits) => jeo hC (vp := vp) (vc := vc) (k := e.pl p n) ok.1 h65 B.rv x1 x3 (by omega);have cp := ji6 ok.1 per.1;have am := ok.1.en.2.2.1;have pm := ok.1.pn.2.2.2.2;have bb := ok.1.bit (e.pl p n);have cl := jhk (jeO e.ph e.st (e.pl p n));unfold lvl at kl;unfold atV;generalize e.pl p n = K at *;generalize e.sta p K = S at *
  generalize chipI p e (n - S) = x at *;generalize carP (phI e.ph e.st K) = t at *;generalize bitI p e K = b at *;have xb : -1000 <= e.amp * (1 - 2 * b) /\ e.amp * (1 - 2 * b) <= 1000 := by rcases bb with q | q <;> subst q <;> omega
  have y1 := jb5 xb ⟨cl.1, cl.2.1⟩;have y2 := jb5 xb ⟨cl.2.2.1, cl.2.2.2⟩;obtain ⟨tx, ty⟩ := t;have e1 : e.amp * x * (1 - 2 * b) * tx = x * (e.amp * (1 - 2 * b) * tx) := by grind
  have e2 : e.amp * x * (1 - 2 * b) * ty = x * (e.amp * (1 - 2 * b) * ty) := by grind
  dsimp only at e1 e2 kl y1 y2 |-;rw [e1, e2];generalize e.amp * (1 - 2 * b) * tx = u1 at *;generalize e.amp * (1 - 2 * b) * ty = u2 at *;have z1 : -127000 <= x * u1 /\ x * u1 <= 127000 := by rcases cp with q | q <;> subst q <;> omega
  have z2 : -127000 <= x * u2 /\ x * u2 <= 127000 := by rcases cp with q | q <;> subst q <;> omega
  unfold smp at kl |-;dsimp only at kl |-;refine zf 229 B229 hC ?_; simp only [B229, zB]; refine zs ?_;refine kad (km _ (sH _ _ _)) ?_;rintro r h1 ⟨s1, x, rfl, g0, g1⟩;have g1 := g1 rfl;obtain ⟨vp', vb', vc, e1, e2, rfl, R', B', W⟩ := g1;have x1 := R'.one;have x2 := B'.one;have x3 := W.one;have s0 := (sH _ _ _).trans s1;have kp := kp vp' vb' vc x1 x2 x3;have ks := ks vp' vb' vc x1 x2 x3;have kc := fun h2 q => kc vp' vb' vc h2 x1 x2 (W.mono q);have kl := fun h2 q => kl vp' vb' vc h2 x1 x3 (B'.mono q);unfold srcA at kp ks kc kl |-;have sb := fun (H : Heap) (i : Nat) => jbR (H := H) (i := i) (n := 17) (x := .int .i64 e.prn) (y := .int .i64 e.dl) (xs := [.int .i64 e.rt, .int .u32 e.st, .int .u32 e.ph, .int .i64 e.amp, .int .i64 e.ba, vb', .int .i64 p.d, .int .i64 p.o, .int .i64 p.pb, .int .i64 p.w, .int .i64 p.mn, .int .i64 p.mx, .int .i64 p.nz, vp', vc]) (vs := [.int .i64 0, .int .i64 0, .int .i64 0, .int .u32 0, .int .u32 0, .int .i64 0, .int .i64 0, .nilslice, .int .i64 0, .int .i64 0, .int .i64 0, .int .i64 0, .int .i64 0, .int .i64 0, .int .i64 0, .nilslice, .nilslice]) rfl rfl (by simp [jdr, x1, x2, x3])
  have gz : h1.get (h.size + 2) = some (.cells [.int .i64 0, .int .i64 0] true 0) := (s1.get _ (by simp)).trans (by exact ze);have hz : h.size + 2 < h1.size := by have := s1.size; simp only [Heap.size_push] at this; omega
  refine zs1 sb ?_;refine kaa (kp _) (zs ?_);refine kaa (ks _) (zs ?_);refine kaa (kc _ (by exact zr)) (zs ?_);refine kaa (kl _ (s1.trans (by exact zr))) (zs2 gz @Heap.wf ?_);exact (zh s0)
 ·rw [if_neg c];generalize madeErr p e n = E at *;refine zf 229 B229 hC ?_; simp only [B229, zB]; refine zs ?_;refine kad (km _ (sH _ _ _)) ?_;rintro r h1 ⟨s1, x, rfl, g0, g1⟩;have g0 := g0 c;subst g0;have s0 := (sH _ _ _).trans s1;unfold zsrc;have gz : h1.get (h.size + 2) = some (.cells [.int .i64 0, .int .i64 0] true 0) := (s1.get _ (by simp)).trans (by exact ze);have hz : h.size + 2 < h1.size := by have := s1.size; simp only [Heap.size_push] at this; omega
  unfold smp;refine zs2 c gz ?_;exact (zh s0)
def isum (f : Nat -> Int) : Nat -> Int
 | 0 => 0
 | n + 1 => isum f n + f n
structure Pair (n : Nat) (t : Int) (U V : Nat -> Int) : Prop where
 pos : 0 < n
 u01 : ∀ i, U i = 0 \/ U i = 1
 v01 : ∀ i, V i = 0 \/ V i = 1
 uper : ∀ i, U (i + n) = U i
 vper : ∀ i, V (i + n) = V i
 usa : ∀ a, a % n ≠ 0 -> ∃ s, ∀ i, (U i + U (i + a)) % 2 = U (i + s)
 vsa : ∀ a, a % n ≠ 0 -> ∃ s, ∀ i, (V i + V (i + a)) % 2 = V (i + s)
 usum : isum (fun i => 1 - 2 * U i) n = -1
 vsum : isum (fun i => 1 - 2 * V i) n = -1
 corr : ∀ e, let S := isum (fun i => 1 - 2 * ((U i + V (i + e)) % 2)) n; S = -1 \/ S = -t \/ S = t - 2
section
variable {n : Nat} {t : Int} {U V : Nat -> Int}
end
theorem jjI {e : EmitP} (ok : EmOk p e) (n : Int) : inS 127000 (atV p e n) := by
 have am := ok.en.2.2.1;have pm := ok.pn.2.2.2.2;have cp := ji6 ok (ok.per n).1;have bb := ok.bit (e.pl p n);have cl := jhk (jeO e.ph e.st (e.pl p n));unfold atV inS;dsimp only;generalize chipI p e (n - e.sta p (e.pl p n)) = x at *;generalize bitI p e (e.pl p n) = y at *;generalize carP (phI e.ph e.st (e.pl p n)) = cc at *;obtain ⟨c1, c2⟩ := cc;dsimp only at *;have q : ∃ g : Int, e.amp * x * (1 - 2 * y) = g /\ -1000 <= g /\ g <= 1000 := by
  refine ⟨_, rfl, ?_⟩;rcases cp with rfl | rfl <;> rcases bb with rfl | rfl <;> omega
 obtain ⟨g, hg, g1, g2⟩ := q;rw [hg];have h1 := jjG (k := g) (s := c1) (K := 1000) (S := 127) ⟨g1, g2⟩ ⟨cl.1, cl.2.1⟩;have h2 := jjG (k := g) (s := c2) (K := 1000) (S := 127) ⟨g1, g2⟩ ⟨cl.2.2.1, cl.2.2.2⟩;exact ⟨by omega, by omega⟩
theorem RI.lt_ids (H : RI h v l) : ∀ i ∈ v.ids, i < h.size := by
 obtain ⟨a, b, ⟨rfl | ⟨za, rfl⟩, h1⟩ | ⟨i, o, c, ws, wr', u', rfl, hg', hle, hc, x⟩⟩ := H
 ·simp [AV.ids]
 ·simp [AV.ids]
 ·intro j hj;simp only [AV.ids, List.mem_singleton] at hj;subst hj;exact kac hg'
theorem RI.off (H : RI h v l) (hh : ∀ i ∈ v.ids, h'.get i = h.get i) : RI h' v l := by
 obtain ⟨a, b, ⟨rfl | ⟨za, rfl⟩, h1⟩ | ⟨i, o, c, ws, wr', u', rfl, hg', hle, hc, x⟩⟩ := H
 ·exact ⟨a, b, .inl ⟨.inl rfl, h1⟩⟩
 ·exact ⟨a, b, .inl ⟨.inr ⟨_, rfl⟩, h1⟩⟩
 ·exact ⟨a, b, .inr ⟨i, o, c, ws, wr', u', rfl, (hh i (by simp [AV.ids])).trans hg', hle, hc, x⟩⟩
theorem jmv {A B : Int} {x : Int × Int} (h : inS A x) (hB : A <= B) : inS B x := by unfold inS at *; omega
theorem jm8 {A B : Int} {x y : Int × Int} (h : inS A x) (h' : inS B y) : inS (A + B) (addP x y) := by unfold inS addP at *; simp only; omega
def ecell (q : EmitP × AV) : List AV := [.int .i64 q.1.prn, .int .i64 q.1.dl, .int .i64 q.1.rt, .int .u32 q.1.st, .int .u32 q.1.ph, .int .i64 q.1.amp, .int .i64 q.1.ba, q.2]
def eD : EmitP := ⟨0, 0, 0, 0, 0, 0, 0, []⟩
def emC (L : List (EmitP × AV)) : List AV := L.flatMap ecell
theorem jdG : ∀ L : List (EmitP × AV), (emC L).length = L.length * 8
 | [] => rfl
 | q :: L => by simp only [emC, List.flatMap_cons, List.length_append, List.length_cons]; rw [show (L.flatMap ecell).length = L.length * 8 from jdG L]; simp [ecell]; omega
theorem jjJ : ∀ (L : List (EmitP × AV)) (i : Nat), (emC L).drop (i * 8) = emC (L.drop i)
 | L, 0 => by simp
 | [], i + 1 => by simp [emC]
 | q :: L, i + 1 => by
  have e : (emC (q :: L)).drop ((i + 1) * 8) = (emC L).drop (i * 8) := by
   show (ecell q ++ emC L).drop ((i + 1) * 8) = _;rw [List.drop_append];have : (ecell q).length = 8 := rfl;rw [this, List.drop_eq_nil_of_le (by rw [this]; omega), List.nil_append];congr 1; omega
  rw [e, jjJ L i]; rfl
theorem jlO {L : List (EmitP × AV)} (hi : i < L.length) : cut (emC L) (i * 8) 8 = ecell L[i] := by
 unfold cut;rw [jjJ, List.drop_eq_getElem_cons hi];show (ecell L[i] ++ emC (L.drop (i + 1))).take 8 = _;rw [List.take_append];have : (ecell L[i]).length = 8 := rfl;rw [this]; simp [ecell]
theorem jhr {L : List (EmitP × AV)} {off : Nat} (hi : i < L.length) (ho : off < 8) : (emC L)[i * 8 + off]? = (ecell L[i])[off]? := by
 have e := jlO hi;rw [<- e];unfold cut;rw [List.getElem?_take_of_lt ho, List.getElem?_drop]
def EmsI (h : Heap) (v : AV) (es : List EmitP) : Prop := ∃ L : List (EmitP × AV), L.map (·.1) = es /\ SL h 8 v L.length (emC L) /\ ∀ q ∈ L, RI h q.2 q.1.bits
theorem EmsI.mono {es : List EmitP} (H : EmsI h v es) (hs : HSub h h') : EmsI h' v es := by
 obtain ⟨L, a, b, c⟩ := H;exact ⟨L, a, b.mono hs, fun q hq => (c q hq).mono hs⟩
theorem EmsI.len {es : List EmitP} (H : EmsI h v es) : lenA v = some (.int .i64 es.length) := by
 obtain ⟨L, rfl, b, _⟩ := H;rw [List.length_map]; exact b.len
theorem EmsI.lt {es : List EmitP} (H : EmsI h v es) : es.length < 9223372036854775808 := by
 obtain ⟨L, rfl, b, _⟩ := H;rw [List.length_map]; exact b.lt
theorem EmsI.one {es : List EmitP} (H : EmsI h v es) : v.one = true := by
 obtain ⟨L, rfl, b, _⟩ := H;exact b.one
theorem EmsI.at {h : Heap} {v : AV} {es : List EmitP} (H : EmsI h v es) {i : Nat} (hi : i < es.length) : ∃ vb, idxA 8 v (.int .i64 (i : Nat)) = some (elA 8 v i) /\
  (∀ h', HSub h h' -> Ae.loadA h' true 8 (elA 8 v i) = some (emA (es.getD i eD) vb)) /\ RI h vb (es.getD i eD).bits /\ (∀ off : Nat, jcf off (elA 8 v i) = some (elF 8 v i off)) /\
  (∀ h', HSub h h' -> Ae.loadA h' false 1 (elF 8 v i 0) = some (.int .i64 (es.getD i eD).prn)) /\ (∀ h', HSub h h' -> Ae.loadA h' false 1 (elF 8 v i 1) = some (.int .i64 (es.getD i eD).dl)) := by
 obtain ⟨L, rfl, b, c⟩ := H;rw [List.length_map] at hi;have e : (L.map (·.1)).getD i eD = L[i].1 := by simp [List.getD_eq_getElem?_getD, hi]
 rw [e];refine ⟨L[i].2, b.idx ⟨by omega, by omega⟩, fun h' hs => ?_, c _ (List.getElem_mem hi), fun off => b.fldE i off hi, fun h' hs => ?_, fun h' hs => ?_⟩
 ·rw [(b.mono hs).loadA hi, jlO hi]; rfl
 ·rw [(b.mono hs).loadE hi (by decide), jhr hi (by decide)]; rfl
 ·rw [(b.mono hs).loadE hi (by decide), jhr hi (by decide)]; rfl
def emsE (p : PlanP) (es : List EmitP) : Nat -> Int
 | 0 => 0
 | k + 1 => if emsE p es k ≠ 0 then emsE p es k else if emitErr p (es.getD k eD) ≠ 0 then emitErr p (es.getD k eD) else if (∃ i, i < k /\ (es.getD i eD).prn = (es.getD k eD).prn) then 8 else 0
theorem jlP {es : List EmitP} {k n : Nat} (h : emsE p es k ≠ 0) (hk : k <= n) : emsE p es n = emsE p es k := by
 induction n with
 | zero =>
  obtain rfl : k = 0 := by omega
  rfl
 | succ n ih =>
  rcases Nat.lt_or_ge n k with c | c
  ·obtain rfl : k = n + 1 := by omega
   rfl
  ·have := ih c;have e : emsE p es (n + 1) = if emsE p es n ≠ 0 then emsE p es n else if emitErr p (es.getD n eD) ≠ 0 then emitErr p (es.getD n eD) else if (∃ i, i < n /\ (es.getD i eD).prn = (es.getD n eD).prn) then 8 else 0 := rfl
   rw [e, if_pos (by rw [this]; exact h), this]
theorem ji9 {p : PlanP} {es : List EmitP} : ∀ {n : Nat}, emsE p es n = 0 -> ∀ k, k < n -> emitErr p (es.getD k eD) = 0
 | 0, _, k, hk => absurd hk (Nat.not_lt_zero k)
 | n + 1, h, k, hk => by
  unfold emsE at h;split at h
  ·contradiction
  ·rename_i c;split at h
   ·contradiction
   ·rename_i c2;rcases Nat.lt_or_ge k n with x | x
    ·exact ji9 (Classical.not_not.1 c) k x
    ·obtain rfl : k = n := by omega
     exact Classical.not_not.1 c2
def jaT (p : PlanP) (es : List EmitP) (ns : List (Int × Int)) (m : Int) : Int :=
 if p.err ≠ 0 then p.err else if 8 < es.length then 4 else if emsE p es es.length ≠ 0 then emsE p es es.length else if m < 0 \/ 1048576 < m then 2 else if m < ns.length then 4 else if (∃ x ∈ ns, ¬ inS p.nz x) then 2 else 0
def scnV (p : PlanP) (es : List EmitP) (ns : List (Int × Int)) : Nat -> Nat -> Int × Int
 | 0, n => ns.getD n (0, 0)
 | k + 1, n => addP (scnV p es ns k n) (atV p (es.getD k eD) (n : Nat))
def scnL (p : PlanP) (es : List EmitP) (ns : List (Int × Int)) (k m : Nat) : List (Int × Int) := (List.range m).map (scnV p es ns k)
def scnP (p : PlanP) (es : List EmitP) (ns : List (Int × Int)) (k n m : Nat) : List (Int × Int) := (List.range m).map fun i => if i < n then scnV p es ns (k + 1) i else scnV p es ns k i
theorem jfY {es : List EmitP} {ns : List (Int × Int)} {k : Nat} : (scnL p es ns k m).length = m := by simp [scnL]
theorem jfZ {es : List EmitP} {ns : List (Int × Int)} {k n : Nat} : (scnP p es ns k n m).length = m := by simp [scnP]
theorem jik {es : List EmitP} {ns : List (Int × Int)} {k : Nat} : scnP p es ns k 0 m = scnL p es ns k m := by simp [scnP, scnL]
theorem jjK {es : List EmitP} {ns : List (Int × Int)} {k : Nat} : scnP p es ns k m m = scnL p es ns (k + 1) m := by
 refine List.ext_getElem (by simp [scnP, scnL]) fun i h1 h2 => ?_;have : i < m := by simpa [scnP] using h1
 simp [scnP, scnL, this]
theorem jjL {es : List EmitP} {ns : List (Int × Int)} {k n : Nat} (h : n < m) : (scnP p es ns k n m).getD n (0, 0) = scnV p es ns k n := by
 simp [scnP, List.getD_eq_getElem?_getD, h]
theorem jjM {es : List EmitP} {ns : List (Int × Int)} {k n : Nat} (h : n < m) : (scnP p es ns k n m).set n (scnV p es ns (k + 1) n) = scnP p es ns k (n + 1) m := by
 refine List.ext_getElem (by simp [scnP]) fun i h1 h2 => ?_;simp only [scnP, List.getElem_set, List.getElem_map, List.getElem_range];by_cases c : n = i
 ·subst c; simp
 ·rw [if_neg c];by_cases c2 : i < n
  ·rw [if_pos c2, if_pos (by omega)]
  ·rw [if_neg c2, if_neg (by omega)]
theorem jil {es : List EmitP} {ns : List (Int × Int)} (h : ns.length <= m) : ns ++ List.replicate (m - ns.length) (0, 0) = scnL p es ns 0 m := by
 refine List.ext_getElem (by simp [scnL]; omega) fun i h1 h2 => ?_;simp only [scnL, List.getElem_map, List.getElem_range, scnV];rw [List.getD_eq_getElem?_getD, List.getElem_append];split
 ·rename_i c; rw [List.getElem?_eq_getElem c]; rfl
 ·rename_i c; rw [List.getElem?_eq_none (by omega), List.getElem_replicate]; rfl
theorem jhs {p : PlanP} {es : List EmitP} {ns : List (Int × Int)} (hn : p.numsOk) (hns : ∀ x ∈ ns, inS p.nz x) : ∀ (k n : Nat), (∀ i, i < k -> EmOk p (es.getD i eD)) -> inS (p.nz + 127000 * (k : Int)) (scnV p es ns k n)
 | 0, n, _ => by
  unfold scnV;have nz := hn.2.2.2.2.2.2;rcases Nat.lt_or_ge n ns.length with c | c
  ·have := hns _ (jhj c);simpa using this
  ·rw [List.getD_eq_getElem?_getD, List.getElem?_eq_none c];unfold inS;simp only [Option.getD_none];omega
 | k + 1, n, h => by
  have a := jhs (ns := ns) hn hns k n (fun i hi => h i (by omega));have b := jjI (h k (by omega)) (n : Int);have q := jm8 a b;unfold scnV;exact jmv q (by rw [Int.natCast_add]; omega)
theorem copy2 {h : Heap} {i n u : Nat} {c : Cap} {s : AV} {ns zs9 : List (Int × Int)} (hc : jao h 2 s = some (ns.length, smps ns)) (hg : h.get i = some (.cells (smps zs9) true u)) (hz : zs9.length = n) (hn : ns.length <= n) :
  copyA h 2 (.slice i 0 n c) s = some (.int .i64 (ns.length : Nat), h.put i (.cells (smps (ns ++ zs9.drop ns.length)) true u)) := by
 have m : min ns.length n = ns.length := by omega
 have tk : (smps ns).take (ns.length * 2) = smps ns := List.take_of_length_le (by rw [ja7]; omega);have on : (smps ns).all AV.one = true := by
  simp only [List.all_eq_true];intro x hx;unfold smps at hx;obtain ⟨q, _, hq⟩ := List.mem_flatMap.1 hx;simp only [List.mem_cons, List.not_mem_nil, or_false] at hq;rcases hq with rfl | rfl <;> rfl
 have sp : splice (smps zs9) 0 (smps ns) = smps (ns ++ zs9.drop ns.length) := by
  rw [jgL (by rw [ja7, ja7]; omega)];rw [List.take_zero, List.nil_append, Nat.zero_add, ja7, jlw];simp [smps]
 simp only [copyA, hc, hg, m, tk, Nat.zero_add];rw [if_pos ⟨by rw [ja7]; omega, on⟩, sp]
theorem jdg {p : PlanP} {es : List EmitP} {ns : List (Int × Int)} {m x : Int} {h h' : Heap} (hx : jaT p es ns m = x) (h0 : x ≠ 0) (hs : HSub h h') :
  ∃ w, AV.tuple [.nilslice, .int .i64 x] = jau w (jaT p es ns m) /\ HSub h h' /\ SI h' w (if jaT p es ns m = 0 then scnL p es ns es.length m.toNat else []) /\ ∀ i ∈ w.ids, h.size <= i := by
 refine ⟨.nilslice, by rw [hx]; rfl, hs, ?_, by simp [AV.ids]⟩;rw [hx, if_neg h0];exact kbi
theorem jjN {es : List EmitP} {k : Nat} (hk : k < es.length) (h0 : emsE p es k = 0) (h : emitErr p (es.getD k eD) ≠ 0) : emsE p es es.length = emitErr p (es.getD k eD) := by
 have e : emsE p es (k + 1) = emitErr p (es.getD k eD) := by
  show (if emsE p es k ≠ 0 then emsE p es k else if emitErr p (es.getD k eD) ≠ 0 then emitErr p (es.getD k eD) else _) = _;rw [if_neg (by rw [h0]; decide), if_pos h]
 rw [jlP (k := k + 1) (by rw [e]; exact h) hk, e]
theorem jjO {es : List EmitP} {k : Nat} (hk : k < es.length) (h0 : emsE p es k = 0) (h : emitErr p (es.getD k eD) = 0) (hi : i < k) (he : (es.getD i eD).prn = (es.getD k eD).prn) : emsE p es es.length = 8 := by
 have e : emsE p es (k + 1) = 8 := by
  show (if emsE p es k ≠ 0 then emsE p es k else if emitErr p (es.getD k eD) ≠ 0 then emitErr p (es.getD k eD) else if (∃ i, i < k /\ (es.getD i eD).prn = (es.getD k eD).prn) then 8 else 0) = _;rw [if_neg (by rw [h0]; decide), if_neg (by rw [h]; decide), if_pos ⟨i, hi, he⟩]
 rw [jlP (k := k + 1) (by rw [e]; decide) hk, e]
theorem jim {es : List EmitP} {k : Nat} (h0 : emsE p es k = 0) (h : emitErr p (es.getD k eD) = 0) (hn : ∀ i, i < k -> (es.getD i eD).prn ≠ (es.getD k eD).prn) : emsE p es (k + 1) = 0 := by
 show (if emsE p es k ≠ 0 then emsE p es k else if emitErr p (es.getD k eD) ≠ 0 then emitErr p (es.getD k eD) else if (∃ i, i < k /\ (es.getD i eD).prn = (es.getD k eD).prn) then 8 else 0) = _;rw [if_neg (by rw [h0]; decide), if_neg (by rw [h]; decide), if_neg (fun ⟨i, a, b⟩ => hn i a b)]
theorem jkD (hC : Has C TA) {vp ve vn : AV} {p : PlanP} {es : List EmitP} {ns : List (Int × Int)} {m : Int} {h : Heap} (R : RI h vp p.prns) (h64 : p.ok64) (E : EmsI h ve es) (h65 : ∀ k, k < es.length -> (es.getD k eD).ok64) (N : SI h vn ns) (hm : In64 m) :
  ACalls C 232 [plA p vp, ve, vn, .int .i64 m] h (fun r h' => ∃ w, r = jau w (jaT p es ns m) /\ HSub h h' /\ SI h' w (if jaT p es ns m = 0 then scnL p es ns es.length m.toNat else []) /\ ∀ i ∈ w.ids, h.size <= i) := by
 have v1 := R.one;have w1 := E.one;have n1 := N.one;unfold In64 at hm;have kP := fun h1 (q : HSub h h1) => jdu hC (v := plA p vp) ⟨vp, rfl, R.mono q⟩ h64;have kE := fun (k : Nat) (hk : k < es.length) vb h1 (B : RI h1 vb (es.getD k eD).bits) (q : HSub h h1) => ji0 hC (v := plA p vp) (w := emA (es.getD k eD) vb) ⟨vp, rfl, R.mono q⟩ ⟨vb, rfl, B⟩ h64 (h65 k hk);have kC := fun q (hq : In64 q) h1 => jky hC (d := p.d) (p := q) (h := h1) h64.1 hq;have kA := fun (k n : Nat) (hk : k < es.length) (ok : EmOk p (es.getD k eD)) (hn : n <= 1048576) vb vc h1 (B : RI h1 vb (es.getD k eD).bits) (W : RI h1 vc (codeL p.d (es.getD k eD).prn)) => jkz hC (n := (n : Int)) ok (h65 k hk) B W v1 (by omega)
 have zr9 := jcA (p := (0, 0)) (n := m.toNat);simp only at zr9;unfold plA at *;have q8 : loadB true 8 0 (some (.cells [.int .i64 p.d, .int .i64 p.o, .int .i64 p.pb, .int .i64 p.w, .int .i64 p.mn, .int .i64 p.mx, .int .i64 p.nz, vp] true 0)) = some (.agg [.int .i64 p.d, .int .i64 p.o, .int .i64 p.pb, .int .i64 p.w, .int .i64 p.mn, .int .i64 p.mx, .int .i64 p.nz, vp]) := rfl;have q0 : ([.int .i64 p.d, .int .i64 p.o, .int .i64 p.pb, .int .i64 p.w, .int .i64 p.mn, .int .i64 p.mx, .int .i64 p.nz, vp] : List AV)[0]? = some (.int .i64 p.d) := rfl;have q6 : ([.int .i64 p.d, .int .i64 p.o, .int .i64 p.pb, .int .i64 p.w, .int .i64 p.mn, .int .i64 p.mx, .int .i64 p.nz, vp] : List AV)[6]? = some (.int .i64 p.nz) := rfl
 have pone : ([.int .i64 p.d, .int .i64 p.o, .int .i64 p.pb, .int .i64 p.w, .int .i64 p.mn, .int .i64 p.mx, .int .i64 p.nz, vp] : List AV).all AV.one = true := by simp only [List.all_cons, List.all_nil, jdr, v1, Bool.and_self]
 generalize ([.int .i64 p.d, .int .i64 p.o, .int .i64 p.pb, .int .i64 p.w, .int .i64 p.mn, .int .i64 p.mx, .int .i64 p.nz, vp] : List AV) = pc at *;have hs1 := kab h (.cells pc true 0);have gp := get_push_eq (h := h) (b := .cells pc true 0) (i := h.size) rfl;obtain ⟨M, hM⟩ : ∃ M, m.toNat = M := ⟨_, rfl⟩;have El := E.len;have Nl := N.len;have Elt := E.lt;have Nlt := N.lt;have E1 := E.mono hs1;have N1 := N.mono hs1;refine zf 232 B232 hC ?_; simp only [B232, zB]; refine zs1 q8 ?_;refine kaa (kP _ hs1) (zs ?_);refine kai (fun c => ?_) (fun c => ?_)
 ·refine zs ?_;exact jdg (by unfold jaT; rw [if_pos c]) c hs1
 have pz : p.err = 0 := Classical.not_not.1 c;have hp : p.numsOk := by
  by_cases q : p.numsOk
  ·exact q
  ·exfalso; unfold PlanP.err at pz; rw [if_neg q] at pz; cases pz
 have nz := hp.2.2.2.2.2.2;refine zs1 El ?_;refine kai (fun c1 => ?_) (fun c1 => ?_)
 ·refine zs ?_;exact jdg (by unfold jaT; rw [if_neg c, if_pos (by omega)]) (by decide) hs1
 refine zs ?_;refine jam (fun j t h' => h' = h.push (.cells pc true 0) /\ t 1 = ve /\ t 2 = vn /\ t 3 = .int .i64 m /\ t 4 = .ptr h.size 0 /\ ∃ k : Nat, t 11 = .int .i64 (k : Nat) /\ k <= es.length /\ j = es.length - k /\ emsE p es k = 0) (j0 := es.length)
  ⟨rfl, rfl, rfl, rfl, rfl, 0, rfl, by omega, rfl, rfl⟩ ?_
 rintro j t h1 ⟨rfl, e1, e2, e3, e4, k, e11, hk, hj, ez⟩;refine zs3 e1 e11 El ?_;refine kai (fun c2 => ?_) (fun c2 => ?_)
 ·have hk' : k < es.length := by omega
  obtain ⟨vb, i8, l8, B, f8, l0, l1⟩ := E1.at hk';have l8 := l8 _ (kak _);have l0k := l0 _ (kak _);have f0k := f8 0;have mb : jaT p es ns m = if emsE p es es.length ≠ 0 then emsE p es es.length else if m < 0 \/ 1048576 < m then 2 else if m < ns.length then 4 else if (∃ x ∈ ns, ¬ inS p.nz x) then 2 else 0 := by
   unfold jaT; rw [if_neg c, if_neg (by omega)]
  refine zs7 e1 e4 e11 gp q8 i8 l8 ?_;refine kaa (kE k hk' vb _ B hs1) (zs ?_);refine kai (fun c3 => ?_) (fun c3 => ?_)
  ·have eb := jjN hk' ez c3;refine zs ?_;exact jdg (by rw [mb, eb, if_pos c3]) c3 hs1
  have c3 : emitErr p (es.getD k eD) = 0 := Classical.not_not.1 c3;refine zs ?_;refine jam (fun j u h' => h' = h.push (.cells pc true 0) /\ u 1 = ve /\ u 2 = vn /\ u 3 = .int .i64 m /\ u 4 = .ptr h.size 0 /\ u 11 = .int .i64 (k : Nat) /\ ∃ i : Nat, u 13 = .int .i64 (i : Nat) /\ i <= k /\ j = k - i /\ ∀ x, x < i -> (es.getD x eD).prn ≠ (es.getD k eD).prn) (j0 := k)
   ⟨rfl, e1, e2, e3, e4, e11, 0, rfl, by omega, rfl, fun x hx => absurd hx (Nat.not_lt_zero x)⟩ ?_
  rintro j2 u h1 ⟨rfl, e1, e2, e3, e4, e11, i, e13, hi, hj2, hne⟩;refine zs2 e11 e13 ?_;refine kai (fun c4 => ?_) (fun c4 => ?_)
  ·have hi' : i < es.length := by omega
   obtain ⟨vb2, i8b, _, _, f8b, l0b, _⟩ := E1.at hi';have l0b := l0b _ (kak _);have f0b := f8b 0;refine zs7 e1 e11 e13 i8 i8b f0k (zI f0b (zI l0k l0b)) ?_;refine kai (fun c5 => ?_) (fun c5 => ?_)
   ·have et := jjO hk' ez c3 (i := i) (by omega) c5;refine zs ?_;exact jdg (by rw [mb, et]; rfl) (by decide) hs1
   ·refine zs1 e13 ?_;refine ⟨_, ⟨e1, e2, e3, e4, e11, i + 1, rfl, by omega, rfl, fun x hx => ?_⟩, by omega⟩;rcases Nat.lt_or_ge x i with q | q
    ·exact hne x q
    ·obtain rfl : x = i := by omega
     exact c5
  ·refine zs1 e11 ?_;refine ⟨_, ⟨e1, e2, e3, e4, k + 1, rfl, by omega, rfl, jim ez c3 (fun x hx => hne x (by omega))⟩, by omega⟩
 obtain rfl : k = es.length := by omega
 have mb : jaT p es ns m = if m < 0 \/ 1048576 < m then 2 else if m < ns.length then 4 else if (∃ x ∈ ns, ¬ inS p.nz x) then 2 else 0 := by
  unfold jaT; rw [if_neg c, if_neg (by omega), if_neg (by rw [ez]; decide)]
 have eok := fun k hk => jhn (ji9 ez k hk);have hm0 : ¬ (m < 0 \/ 1048576 < m) -> (M : Int) = m /\ M <= 1048576 := fun q => by omega
 refine zs1 e3 ?_;refine kai (fun c3 => ?_) (fun c3 => ?_)
 ·refine zs ?_;exact jdg (by rw [mb, if_pos (.inl c3)]) (by decide) hs1
 refine zs1 e3 ?_;refine kai (fun c4 => ?_) (fun c4 => ?_)
 ·refine zs ?_;exact jdg (by rw [mb, if_pos (.inr c4)]) (by decide) hs1
 have hm2 : (M : Int) = m /\ M <= 1048576 := by omega
 refine zs3 e2 e3 Nl ?_;refine kai (fun c5 => ?_) (fun c5 => ?_)
 ·refine zs ?_;exact jdg (by rw [mb, if_neg (by omega), if_pos c5]) (by decide) hs1
 have mb2 : jaT p es ns m = if (∃ x ∈ ns, ¬ inS p.nz x) then 2 else 0 := by rw [mb, if_neg (by omega), if_neg c5]
 refine zs ?_;refine jam (fun j u h' => h' = h.push (.cells pc true 0) /\ u 1 = ve /\ u 2 = vn /\ u 3 = .int .i64 m /\ u 4 = .ptr h.size 0 /\ ∃ i : Nat, u 14 = .int .i64 (i : Nat) /\ i <= ns.length /\ j = ns.length - i /\ ∀ x, x < i -> inS p.nz (ns.getD x (0, 0))) (j0 := ns.length)
  ⟨rfl, e1, e2, e3, e4, 0, rfl, by omega, rfl, fun x hx => absurd hx (Nat.not_lt_zero x)⟩ ?_
 rintro j2 u h1 ⟨rfl, e1, e2, e3, e4, i, e14, hi, hj2, hin⟩;refine zs3 e2 e14 Nl ?_;refine kai (fun c6 => ?_) (fun c6 => ?_)
 ·have hi' : i < ns.length := by omega
  have ni := N1.idx (kk := .i64) (k := (i : Nat)) ⟨by omega, by omega⟩;rw [Int.toNat_natCast] at ni;have n0 := N1.load0 hi';have n2 := N1.load1 hi';have nf0 := N1.fld i 0 hi';have nf1 := N1.fld i 1 hi';have gm := jhj hi';generalize hx : ns.getD i (0, 0) = x at n0 n2 gm;have bad : ¬ inS p.nz x -> jaT p es ns m = 2 := fun q => by rw [mb2, if_pos ⟨x, gm, q⟩]
  unfold inS at bad;refine zs7 e2 e4 e14 ni nf0 nf1 (zI n0 (zI n2 (zI gp q6))) ?_;refine kai (fun d1 => ?_) (fun d1 => ?_)
  ·refine zs ?_;exact jdg (bad (by omega)) (by decide) hs1
  refine zs7 e2 e4 e14 ni nf0 nf1 (zI n0 (zI n2 (zI gp q6))) ?_;refine kai (fun d2 => ?_) (fun d2 => ?_)
  ·refine zs ?_;exact jdg (bad (by omega)) (by decide) hs1
  refine zs7 e2 e4 e14 ni nf0 nf1 (zI n0 (zI n2 (zI gp q6))) ?_;refine kai (fun d3 => ?_) (fun d3 => ?_)
  ·refine zs ?_;exact jdg (bad (by omega)) (by decide) hs1
  refine zs7 e2 e4 e14 ni nf0 nf1 (zI n0 (zI n2 (zI gp q6))) ?_;refine kai (fun d4 => ?_) (fun d4 => ?_)
  ·refine zs ?_;exact jdg (bad (by omega)) (by decide) hs1
  refine zs1 e14 ?_;refine ⟨_, ⟨e1, e2, e3, e4, i + 1, rfl, by omega, rfl, fun y hy => ?_⟩, by omega⟩;rcases Nat.lt_or_ge y i with q | q
  ·exact hin y q
  ·obtain rfl : y = i := by omega
   rw [hx]; unfold inS; omega
 obtain rfl : i = ns.length := by omega
 have nin : ∀ x ∈ ns, inS p.nz x := fun x hx => by
  obtain ⟨y, hy, rfl⟩ := List.getElem_of_mem hx;have := hin y hy
  rwa [List.getD_eq_getElem?_getD, List.getElem?_eq_getElem hy, Option.getD_some] at this
 have mz : jaT p es ns m = 0 := by rw [mb2, if_neg (fun ⟨x, hx, q⟩ => q (nin x hx))]
 have svn := fun k n hk => jhs hp nin k n (fun i hi => eok i (Nat.lt_of_lt_of_le hi hk));have nle : ns.length <= M := by omega
 clear hin mb mb2;rw [hM] at zr9;have cpy : copyA ((h.push (.cells pc true 0)).push (.cells (smps (List.replicate M (0, 0))) true 0)) 2 (.slice (h.size + 1) 0 M (.known M)) vn = some (.int .i64 (ns.length : Nat), (h.push (.cells pc true 0)).push (.cells (smps (scnL p es ns 0 M)) true 0)) := by
  have g := get_push_eq (h := h.push (.cells pc true 0)) (b := .cells (smps (List.replicate M (0, 0))) true 0) (i := h.size + 1) rfl;rw [copy2 (N1.mono (kab _ _)).content g (by simp) nle, List.drop_replicate, jil nle, push_put (h := h.push (.cells pc true 0)) (i := h.size + 1) rfl]
 refine zs7 e1 e2 e3 e4 hM zr9 cpy ?_;refine jam (fun j u h' => (∃ k : Nat, u 16 = .int .i64 (k : Nat) /\ k <= es.length /\ j = es.length - k /\ h'.get (h.size + 1) = some (.cells (smps (scnL p es ns k M)) true 0)) /\ HSub (h.push (.cells pc true 0)) h' /\ h.size + 1 < h'.size /\ u 1 = ve /\ u 3 = .int .i64 m /\ u 4 = .ptr h.size 0 /\ u 15 = .slice (h.size + 1) 0 M (.known M)) (j0 := es.length)
  ⟨⟨0, rfl, by omega, rfl, by exact ze⟩, kab _ _, by simp, e1, e3, e4, rfl⟩ ?_
 rintro j3 u h1 ⟨⟨k, e16, hk, hj, gb⟩, sH, zH, e1, e3, e4, e15⟩;have gp1 : h1.get h.size = some (.cells pc true 0) := (sH.get _ (by simp)).trans gp;refine zs3 e1 e16 El ?_;refine kai (fun c7 => ?_) (fun c7 => ?_)
 ·have hk' : k < es.length := by omega
  have ok := eok k hk';obtain ⟨vb, i8, l8, B, f8, l0, _⟩ := E1.at hk';have l0k := l0 _ sH;have f0k := f8 0;have kCk := kC (es.getD k eD).prn (h65 k hk').1;have cz := ok.code;rw [cz, if_pos rfl] at kCk;refine zs7 e1 e3 e4 e15 e16 gp1 (zI i8 (zI q0 (zI f0k l0k))) ?_;refine kad (kCk _) ?_;rintro r h2 ⟨vc, rfl, s2, W, fr⟩;have gb2 := (s2.get _ (by omega)).trans gb;have nid : h.size + 1 ∉ vc.ids := fun q => by have := fr _ q; omega
  have vlt : ∀ i ∈ vc.ids, i < h2.size := W.lt_ids;have gp2 := (s2.get _ (by omega)).trans gp1;have sH2 := sH.trans s2;have z2 := s2.size;refine zs1 @jau.eq_1 ?_;refine jam (fun j u h' => ∃ n : Nat, u 19 = .int .i64 (n : Nat) /\ n <= M /\ j = M - n /\ h'.get (h.size + 1) = some (.cells (smps (scnP p es ns k n M)) true 0) /\ (∀ i, i < h2.size -> i ≠ h.size + 1 -> h'.get i = h2.get i) /\ h2.size <= h'.size /\ u 1 = ve /\ u 3 = .int .i64 m /\ u 4 = .ptr h.size 0 /\ u 15 = .slice (h.size + 1) 0 M (.known M) /\ u 16 = .int .i64 (k : Nat) /\ u 17 = vc) (j0 := M)
   ⟨0, rfl, by omega, rfl, by rw [jik]; exact gb2, fun _ _ _ => rfl, by omega, e1, e3, e4, e15, e16, rfl⟩ ?_
  rintro j4 u h3 ⟨n, e19, hn, hj4, gb3, K3, z3, e1, e3, e4, e15, e16, e17⟩;have gp3 := (K3 h.size (by omega) (by omega)).trans gp2;have sub3 : HSub (h.push (.cells pc true 0)) h3 := ⟨by simp only [Heap.size_push]; omega, fun i hi => by
   simp only [Heap.size_push] at hi;rw [K3 i (by omega) (by omega)]; exact sH2.get i (by simp only [Heap.size_push]; omega)⟩
  have W3 : RI h3 vc (codeL p.d (es.getD k eD).prn) := W.off fun i hi => K3 i (vlt i hi) (fun q => nid (q ▸ hi));refine zs2 e3 e19 ?_;refine kai (fun c8 => ?_) (fun c8 => ?_)
  ·have hn' : n < M := by omega
   have kA := fun h1 (q : HSub h3 h1) => kA k n hk' ok (by omega) vb vc h1 ((B.mono sub3).mono q) (W3.mono q);have l8n := fun h1 (q : HSub h3 h1) => l8 h1 (sub3.trans q);have sv0 := svn k n hk;have sv1 := svn (k + 1) n hk';have hat := jjI ok (n : Nat);have set := jjM (p := p) (es := es) (ns := ns) (k := k) hn';have get := jjL (p := p) (es := es) (ns := ns) (k := k) hn';have add : scnV p es ns (k + 1) n = addP (scnV p es ns k n) (atV p (es.getD k eD) (n : Nat)) := rfl;have ln : (scnP p es ns k n M).length = M := jfZ;have ln2 : (smps (scnP p es ns k n M)).length = M * 2 := by rw [ja7, ln]
   have sp := jd0 (l := scnP p es ns k n M) (k := n) (p := scnV p es ns (k + 1) n) (by rw [ln]; exact hn');have g1 : (scnP p es ns k n M)[n]? = some (scnV p es ns k n) := by
    rw [List.getD_eq_getElem?_getD, List.getElem?_eq_getElem (by rw [ln]; exact hn'), Option.getD_some] at get;rw [List.getElem?_eq_getElem (by rw [ln]; exact hn'), get]
   have i0 : (smps (scnP p es ns k n M))[n * 2]? = some (.int .i64 (scnV p es ns k n).1) := by rw [jcP, g1]; rfl
   have i1 : (smps (scnP p es ns k n M))[n * 2 + 1]? = some (.int .i64 (scnV p es ns k n).2) := by rw [jcQ, g1]; rfl
   rw [set] at sp;rw [add] at sp sv1;generalize atV p (es.getD k eD) (n : Nat) = y at kA hat sp sv1;generalize scnV p es ns k n = x at i0 i1 sv0 sp sv1;obtain ⟨y1, y2⟩ := y;obtain ⟨x1, x2⟩ := x;unfold inS at hat sv0 sv1;unfold smp at kA;unfold addP at sp sv1;dsimp only at hat sv0 sv1 kA sp i0 i1;have hkk : (k : Int) < 8 := by omega
   refine zs7 e1 e4 e15 e16 e17 e19 (zI gp3 (zI i8 (zI q8 (zI l8n @Heap.wf)))) ?_;refine kaa (kA _ zr) (zs7 e1 e3 e4 e15 e16 e17 (zI e19 (zI gb3 (zI i0 (zI i1 (zI sp (zI ln2 @Heap.wf)))))) ?_);refine ⟨_, ⟨n + 1, by omega, by omega, rfl, rfl, fun i hi hne => ?_, by omega⟩, by omega⟩;exact (get_put_ne (by omega)).trans ((get_put_ne (by omega)).trans (K3 i hi hne))
  ·obtain rfl : n = M := by omega
   rw [jjK] at gb3;refine zs1 e16 ?_;exact ⟨_, ⟨⟨k + 1, rfl, by omega, rfl, gb3⟩, sub3, by omega, e1, e3, e4, e15⟩, by omega⟩
 ·obtain rfl : k = es.length := by omega
  refine zs1 e15 ?_;refine ⟨_, by rw [mz]; rfl, (kab _ _).trans sH, ?_, fun i hi => by simp [AV.ids] at hi; omega⟩;rw [if_pos mz];exact kaO gb ⟨jfY.symm, by omega⟩ (Nat.le_refl _)
def P0 : PlanP := ⟨5, 2, 2, 2, 1, 10, 5, [1, 2]⟩
def E0 : EmitP := ⟨1, 3, 0, 0, 0, 2, 0, [0, 1]⟩
theorem k12a : madeErr P0 E0 1 = 0 /\ E0.sta P0 1 = 65 /\ madeErr P0 E0 2 = 0 /\ E0.pl P0 2 = -1 /\ 2 - E0.sta P0 (-1) = 61 /\ madeErr P0 E0 13 = 0 /\ atV P0 E0 13 = (254, 0) := by decide +kernel
theorem jm9 : jgM P0 E0 1 = tup2 65 0 := by unfold jgM; rw [if_pos k12a.1, k12a.2.1]
theorem jna : jfX P0 E0 2 = tupI3 (-1) 61 0 := by unfold jfX; rw [if_pos k12a.2.2.1, k12a.2.2.2.1, k12a.2.2.2.2.1]
theorem k_at : atE P0 E0 13 = .tuple [smp (254, 0), .int .i64 0] := by unfold atE; rw [if_pos k12a.2.2.2.2.2.1, k12a.2.2.2.2.2.2]
theorem P0_64 : P0.ok64 := by unfold PlanP.ok64 P0 In64; simp
theorem E0_64 : E0.ok64 := by unfold EmitP.ok64 E0 In64 U32; simp
theorem jin (hC : Has C TA) : ACalls C 233 [] h (fun r h' => HSub h h' /\ PlI h' r P0) := by
 unfold PlI P0;refine zf 233 B233 hC ?_; simp only [B233, zB]; refine zs ?_;refine ⟨zr, _, rfl, kal (wr := true) (u := 0) (i := h.size + 1) ?_ ⟨rfl, by decide⟩ (Nat.le_refl _)⟩;refine zs ?_;rfl
theorem jf0 (hC : Has C TA) : ACalls C 234 [] h (fun r h' => HSub h h' /\ EmI h' r E0) := by
 unfold EmI E0;refine zf 234 B234 hC ?_; simp only [B234, zB]; refine zs ?_;refine ⟨zr, _, rfl, kal (wr := true) (u := 0) (i := h.size + 1) ?_ ⟨rfl, by decide⟩ (Nat.le_refl _)⟩;refine zs ?_;rfl
theorem jht (hC : Has C TA) : ACalls C 218 [] h (fun r h' => r = .bool true /\ h' = h) := by
 refine kae (P := fun r h' => r = .bool true /\ HSub h h') ?_ (fun r h' hp => ⟨by rw [hp.1]; trivial, hp.2, hp.1, rfl⟩);have kp := fun h => jin hC (h := h);have ke := fun h => jf0 hC (h := h);have k1 := fun v w h1 (hp : PlI h1 v P0) (he : EmI h1 w E0) => jkA hC (n := 1) hp he P0_64 E0_64 (by unfold In64; omega);have k2 := fun v w h1 (hp : PlI h1 v P0) (he : EmI h1 w E0) => jkC hC (n := 2) hp he P0_64 E0_64 (by unfold In64; omega);have k3 := fun v w h1 (hp : PlI h1 v P0) (he : EmI h1 w E0) => jm7 hC (n := 13) hp he P0_64 E0_64 (by unfold In64; omega);simp only [jm9] at k1;simp only [jna] at k2;simp only [k_at] at k3
 unfold smp at k3;dsimp only at k3;refine zf 218 B218 hC ?_; simp only [B218, zB]; refine zs ?_;refine kad (kp _) ?_;rintro v1 h1 ⟨s1, p1⟩;refine zs ?_;refine kad (ke _) ?_;rintro w1 h2 ⟨s2, q1⟩;refine zs ?_;refine kaa (k1 _ _ _ (p1.mono s2) q1) (zs1 @tup2.eq_1 ?_);refine kad (kp _) ?_;rintro v2 h3 ⟨s3, p2⟩;refine zs ?_;refine kad (ke _) ?_;rintro w2 h4 ⟨s4, q2⟩;refine zs ?_;refine kaa (k2 _ _ _ (p2.mono s4) q2) (zs1 @tupI3.eq_1 ?_);refine kad (kp _) ?_;rintro v3 h5 ⟨s5, p3⟩;refine zs ?_;refine kad (ke _) ?_;rintro w3 h6 ⟨s6, q3⟩;refine zs ?_;refine kaa (k3 _ _ _ (p3.mono s6) q3) ?_
 refine zs1 @jly ?_;exact ((((((s1.trans s2).trans s3).trans s4).trans s5).trans s6).push _)
theorem jlQ {n : Nat} {xs : List AV} {wr : Bool} (h : xs.length = n) : contB 1 n 0 (some (.cells xs wr u)) = some (1, xs) := by
 unfold contB;simp [cut, h, List.take_of_length_le (Nat.le_of_eq h)]
theorem jio (hC : Has C TA) {p e : EmitP} {vb wb : AV} {b : Nat} {h : Heap} (w1 : wb.one = true) (hg : h.get b = some (.cells [.int .i64 e.prn, .int .i64 e.dl, .int .i64 e.rt, .int .u32 e.st, .int .u32 e.ph, .int .i64 e.amp, .int .i64 e.ba, vb] true 0)) :
  ACalls C 253 [emA p wb, .ptr b 0] h (fun r h' => r = .bool (decide (p.prn = e.prn)) /\ h' = h) := by
 refine kae (P := fun r h' => r = .bool (decide (p.prn = e.prn)) /\ HSub h h') ?_ (fun r h' hp => ⟨by rw [hp.1]; trivial, hp.2, hp.1, rfl⟩);have hb := kac hg;unfold emA;refine zf 253 B253 hC ?_; simp only [B253, zB]; refine zs1 hg ?_;exact kab _ _
theorem jgm (hC : Has C TA) {v : AV} {l : List (Int × Int)} {g : Nat} {cs : List AV} {P : Int × Int -> Prop} [DecidablePred P] {h : Heap} (hg : ∀ p, ACalls C g ([smp p] ++ cs) h (fun r h' => r = .bool (!decide (P p)) /\ h' = h)) (hl : SI h v l) :
  ACalls C 255 [v, .func g [] cs] h (fun r h' => r = .bool (!decide (∀ x ∈ l, P x)) /\ h' = h) := by
 have hlt := hl.lt;have hI : ACalls C 260 [v, .func g [] cs] h (fun r h' => (∃ i : Int, r = .int .i64 i /\ -1 <= i /\ (0 <= i ↔ ¬ ∀ x ∈ l, P x)) /\ h' = h) := by
  have hC' : Has C TA := hC;have hC := hC';refine zf 260 B260 hC ?_; simp only [B260, zB]; refine zs1 @hl.len ?_;refine jam (fun j t h' => h' = h /\ ∃ k : Nat, t 0 = v /\ t 1 = .func g [] cs /\ t 7 = .int .i64 (l.length : Nat) /\ t 8 = .int .i64 (k : Nat) /\ (∀ i, i < k -> P (l.getD i (0, 0))) /\ k <= l.length /\ j = l.length - k) (j0 := l.length)
   ⟨rfl, 0, rfl, rfl, rfl, rfl, fun i hi => by omega, by omega, rfl⟩ ?_
  rintro j t h1 ⟨rfl, k, e0, e1, e7, e8, hp, hk, hj⟩;refine zs2 e7 e8 ?_;refine kai (fun c => ?_) (fun c => ?_)
  ·have hk' : k < l.length := by omega
   have ld := hl.loadA hk';have hg := hg (l.getD k (0, 0));refine zs5 e0 e1 e8 @hl.idx ld ?_;refine kaa hg ?_;by_cases c2 : P (l.getD k (0, 0))
   ·refine zs5 @c2 e0 e1 e7 e8 ?_;refine ⟨_, ⟨k + 1, by simp, fun i hi => ?_, by omega, rfl⟩, by omega⟩;rcases Nat.lt_or_ge i k with x | x
    ·exact hp i x
    ·have : i = k := by omega
     subst this; exact c2
   ·refine zs5 @c2 e0 e1 e7 e8 ?_;refine ⟨by omega, ⟨fun _ q => c2 (q _ (jhj hk')), fun _ => by omega⟩⟩
  ·have ek : k = l.length := by omega
   refine zs ?_;refine ⟨fun q => q.elim, fun q => absurd (fun x hx => ?_) q⟩;obtain ⟨i, hi, rfl⟩ := List.getElem_of_mem hx;have := hp i (by omega)
   rwa [List.getD_eq_getElem?_getD, List.getElem?_eq_getElem hi] at this
 refine zf 255 B255 hC ?_; simp only [B255, zB]; refine zs ?_;refine kad hI ?_;rintro r h1 ⟨⟨i, rfl, h1, h2⟩, rfl⟩;refine zs ?_;by_cases c : ∀ x ∈ l, P x
 ·rw [decide_eq_true c];have : ¬ 0 <= i := fun q => h2.1 q c;simp [this]
 ·rw [decide_eq_false c];have : 0 <= i := h2.2 c;simp [this]
theorem jip (hC : Has C TA) {q : Int × Int} {p : PlanP} {vp : AV} {a : Nat} {h : Heap} (hnz : 0 <= p.nz /\ p.nz <= 100000) (v1 : vp.one = true) (hg : h.get a = some (.cells [.int .i64 p.d, .int .i64 p.o, .int .i64 p.pb, .int .i64 p.w, .int .i64 p.mn, .int .i64 p.mx, .int .i64 p.nz, vp] true 0)) :
  ACalls C 254 ([smp q] ++ [.ptr a 0]) h (fun r h' => r = .bool (!decide (inS p.nz q)) /\ h' = h) := by
 refine kae (P := fun r h' => r = .bool (!decide (inS p.nz q)) /\ HSub h h') ?_ (fun r h' hp => ⟨by rw [hp.1]; trivial, hp.2, hp.1, rfl⟩);have ha := kac hg;obtain ⟨x, y⟩ := q;unfold smp inS;by_cases c1 : p.nz < max x y
 ·refine zf 254 B254 hC ?_; simp only [B254, zB]; refine zs3 hg @gV_u @c1 ?_;exact ⟨by congr 1; rw [eq_comm, Bool.not_eq_true']; apply decide_eq_false; omega, kab _ _⟩
 ·by_cases c2 : min x y < 0 - p.nz
  ·refine zf 254 B254 hC ?_; simp only [B254, zB]; refine zs4 hg @gV_u @c1 @c2 ?_;exact ⟨by congr 1; rw [eq_comm, Bool.not_eq_true']; apply decide_eq_false; omega, kab _ _⟩
  ·refine zf 254 B254 hC ?_; simp only [B254, zB]; refine zs4 hg @gV_u @c1 @c2 ?_;exact ⟨by congr 1; rw [eq_comm, Bool.not_eq_false']; apply decide_eq_true; omega, kab _ _⟩
theorem SL.takeK {n : Nat} (H : SL h sz v n cs) {k : Nat} {kk : IntKind} (hk : k <= n) : ∃ v', (∀ h', HSub h h' -> ja6 h' sz v none (some (.int kk (k : Nat))) none = some v') /\ SL h sz v' k (cs.take (k * sz)) := by
 obtain ⟨hl, hlt, ⟨rfl | ⟨za, rfl⟩, rfl⟩ | ⟨i, o, c, vs, wr, u, rfl, hg, hle, hc, hcap⟩⟩ := H
 ·obtain rfl : k = 0 := by omega
  have : cs = [] := List.eq_nil_of_length_eq_zero (by omega);subst this;exact ⟨.nilslice, fun h' _ => rfl, by simp, by omega, .inl ⟨.inl rfl, rfl⟩⟩
 ·obtain rfl : k = 0 := by omega
  have : cs = [] := List.eq_nil_of_length_eq_zero (by omega);subst this;exact ⟨.emp za, fun h' _ => rfl, by simp, by omega, .inl ⟨.inr ⟨_, rfl⟩, rfl⟩⟩
 ·have hks : k * sz <= n * sz := Nat.mul_le_mul_right sz hk;have hct : cut vs o (k * sz) = cs.take (k * sz) := by rw [<- hc]; simp only [cut, List.take_take]; congr 1; omega
  have hle2 : (cs.take (k * sz)).length = k * sz := by rw [List.length_take]; omega
  cases c with
  | known c =>
   have hb : jbG n c none (some (.int kk (k : Nat))) none = some (0, k, c) := by
    simp only [jbG, intA];rw [if_pos (by omega)]; simp
   refine ⟨.slice i (if c = 0 then o else o + 0 * sz) (k - 0) (.known (c - 0)), fun h' _ => by simp only [ja6, hb], hle2, by omega, .inr ⟨i, if c = 0 then o else o + 0 * sz, _, vs, wr, u, rfl, hg, ?_, ?_, ?_⟩⟩
   ·split <;> omega
   ·have : (if c = 0 then o else o + 0 * sz) = o := by split <;> omega
    rw [this]; exact hct
   ·show k <= c - 0;have : n <= c := hcap;omega
  | unk l =>
   obtain ⟨rfl, rfl, rfl⟩ := hcap;have hb : jbG n n none (some (.int kk (k : Nat))) none = some (0, k, n) := by
    simp only [jbG, intA];rw [if_pos (by omega)]; simp
   refine ⟨.slice i (l * u + 0 * u) (k - 0) (.unk (l + 0)), fun h' hs => ?_, hle2, by omega, .inr ⟨i, l * u + 0 * u, _, vs, true, u, rfl, hg, by omega, by simpa using hct, rfl, rfl, by simp⟩⟩;have hg' := (hs.get i (kac hg)).trans hg;simp only [ja6, hg'];rw [if_pos ⟨trivial, trivial, hle⟩];simp [hb]
theorem EmsI.takeK {es : List EmitP} (H : EmsI h v es) {k : Nat} {kk : IntKind} (hk : k <= es.length) : ∃ v', (∀ h', HSub h h' -> ja6 h' 8 v none (some (.int kk (k : Nat))) none = some v') /\ EmsI h v' (es.take k) := by
 obtain ⟨L, rfl, b, c⟩ := H;rw [List.length_map] at hk;obtain ⟨v', h1, h2⟩ := b.takeK (kk := kk) hk;refine ⟨v', h1, L.take k, by rw [List.map_take], ?_, fun q hq => c q (List.mem_of_mem_take hq)⟩;have e1 : (L.take k).length = k := by rw [List.length_take]; omega
 have e2 : emC (L.take k) = (emC L).take (k * 8) := by
  have ea : emC L = emC (L.take k) ++ emC (L.drop k) := by unfold emC; rw [<- List.flatMap_append, List.take_append_drop]
  have el : (emC (L.take k)).length = k * 8 := by rw [jdG, e1]
  have et : List.take (k * 8) (emC (L.take k) ++ emC (L.drop k)) = emC (L.take k) := by rw [List.take_append_of_le_length (Nat.le_of_eq el.symm), List.take_of_length_le (Nat.le_of_eq el)]
  rw [ea, et]
 rw [e1, e2]; exact h2
theorem jgn (hC : Has C TA) {v : AV} {es : List EmitP} {g : Nat} {cs : List AV} {P : EmitP -> Prop} [DecidablePred P] {h : Heap} (hg : ∀ e vb, vb.one = true -> ACalls C g ([emA e vb] ++ cs) h (fun r h' => r = .bool (decide (P e)) /\ h' = h)) (hl : EmsI h v es) :
  ACalls C 252 [v, .func g [] cs] h (fun r h' => r = .bool (decide (∃ i, i < es.length /\ P (es.getD i eD))) /\ h' = h) := by
 have hlt := hl.lt;have hI : ACalls C 259 [v, .func g [] cs] h (fun r h' => (∃ i : Int, r = .int .i64 i /\ -1 <= i /\ (0 <= i ↔ ∃ i, i < es.length /\ P (es.getD i eD))) /\ h' = h) := by
  have hC' : Has C TA := hC;have hC := hC';refine zf 259 B259 hC ?_; simp only [B259, zB]; refine zs1 @hl.len ?_;refine jam (fun j t h' => h' = h /\ ∃ k : Nat, t 0 = v /\ t 1 = .func g [] cs /\ t 7 = .int .i64 (es.length : Nat) /\ t 8 = .int .i64 (k : Nat) /\ (∀ i, i < k -> ¬ P (es.getD i eD)) /\ k <= es.length /\ j = es.length - k) (j0 := es.length)
   ⟨rfl, 0, rfl, rfl, rfl, rfl, fun i hi => by omega, by omega, rfl⟩ ?_
  rintro j t h1 ⟨rfl, k, e0, e1, e7, e8, hp, hk, hj⟩;refine zs2 e7 e8 ?_;refine kai (fun c => ?_) (fun c => ?_)
  ·have hk' : k < es.length := by omega
   obtain ⟨vb, ix, ld, B, _, _, _⟩ := hl.at hk';have ld := ld h1 (kak _);have hg := hg (es.getD k eD) vb B.one;refine zs5 e0 e1 e8 ix ld ?_;refine kaa hg ?_;by_cases c2 : P (es.getD k eD)
   ·refine zs5 c2 e0 e1 e7 e8 ?_;exact ⟨by omega, ⟨fun _ => ⟨k, hk', c2⟩, fun _ => by omega⟩⟩
   ·refine zs5 c2 e0 e1 e7 e8 ?_;refine ⟨_, ⟨k + 1, by simp, fun i hi => ?_, by omega, rfl⟩, by omega⟩;rcases Nat.lt_or_ge i k with x | x
    ·exact hp i x
    ·have : i = k := by omega
     subst this; exact c2
  ·have ek : k = es.length := by omega
   refine zs ?_;exact ⟨fun q => q.elim, fun ⟨i, hi, q⟩ => absurd q (hp i (by omega))⟩
 refine zf 252 B252 hC ?_; simp only [B252, zB]; refine zs ?_;refine kad hI ?_;rintro r h1 ⟨⟨i, rfl, h1, h2⟩, rfl⟩;refine zs ?_;by_cases c : ∃ i, i < es.length /\ P (es.getD i eD)
 ·rw [decide_eq_true c];have : 0 <= i := h2.2 c;simp [this]
 ·rw [decide_eq_false c];have : ¬ 0 <= i := fun q => c (h2.1 q);simp [this]
def wv (p : PlanP) (e : EmitP) (n m : Nat) : List (Int × Int) := (List.range m).map fun i => if i < n then atV p e (i : Nat) else (0, 0)
theorem jep {e : EmitP} {n : Nat} : (wv p e n m).length = m := by simp [wv]
theorem jnb {e : EmitP} : wv p e 0 m = List.replicate m (0, 0) := by
 apply List.ext_getElem
 ·simp [wv]
 ·intro i h1 h2; simp [wv]
theorem jnr {e : EmitP} {n : Nat} (h : n < m) : (wv p e n m).set n (atV p e (n : Nat)) = wv p e (n + 1) m := by
 apply List.ext_getElem
 ·simp [wv]
 ·intro i h1 h2;simp only [List.getElem_set, wv, List.getElem_map, List.getElem_range];by_cases c : n = i
  ·subst c; simp
  ·rw [if_neg c];by_cases c2 : i < n
   ·rw [if_pos c2, if_pos (by omega)]
   ·rw [if_neg c2, if_neg (by omega)]
theorem jns {e : EmitP} {n k : Int} (ok : EmOk p e) (h1 : e.sta p k <= n) (h2 : n < e.sta p (k + 1)) : (chipI p e (n - e.sta p k) * (lvl p e k).1, chipI p e (n - e.sta p k) * (lvl p e k).2) = atV p e n := by
 have hk : e.pl p n = k := (pl_of (dl := e.dl) ok.den h1 h2).symm;unfold atV lvl;rw [hk];refine Prod.ext ?_ ?_ <;> dsimp only <;> grind
theorem jiq (hC : Has C TA) {p : PlanP} {e : EmitP} {vp vb vc : AV} {m : Int} {h : Heap} : ACalls C 261 [srcA p e vp vb vc, .int .i64 m] h (fun r h' => r = .func 262 [] [.ptr h.size 0, .ptr (h.size + 1) 0] /\
  h' = (h.push (.cells (srcA p e vp vb vc).cells true 0)).push (.cells [.int .i64 m] true 0)) := by
 unfold srcA;refine zf 261 B261 hC ?_; simp only [B261, zB]; exact ze
theorem jja (hC : Has C TA) {p : PlanP} {e : EmitP} {vp vb vc : AV} {M l b1 b2 : Nat} {h : Heap} (ok : EmOk p e) (v1 : vp.one = true) (w0 : vb.one = true) (w1 : vc.one = true) (hm : M <= 1048576) (J : Int -> Heap -> Prop) (D : Heap -> Prop) (h0 : J (e.pl p 0) h)
  (hb : ∀ k h', J k h' -> h'.get b1 = some (.cells (srcA p e vp vb vc).cells true 0) /\ h'.get b2 = some (.cells [.int .i64 (M : Nat)] true 0))
  (hy : ∀ k h', e.pl p 0 <= k -> k <= e.pl p ((M : Int) - 1) -> e.sta p k < M -> J k h' -> jgx C l [.int .i64 k, .int .i64 (e.sta p k)] h' (fun r h'' => r = .bool true /\ J (k + 1) h''))
  (hd : ∀ k h', e.pl p 0 <= k -> (M : Int) <= e.sta p k -> J k h' -> D h') :
  ACalls C 262 [.yield l, .ptr b1 0, .ptr b2 0] h (fun _ h' => D h') := by
 obtain ⟨g1, g2⟩ := hb _ _ h0;have kp := fun h => jdb hC (vp := vp) (vb := vb) (vc := vc) (n := 0) (h := h) ok v1 w0 w1 (by omega);have ks := fun (k : Int) (hk : -20000000 <= k /\ k <= 20000000) h => jbu hC (k := k) (h := h) ok v1 w0 w1 hk;have p0 := ok.plb (n := 0) (by omega);have pm := ok.plb (n := (M : Int) - 1) (by omega);have gt := fun (k : Int) => st_gt ok (n := (M : Int) - 1) (k := k);generalize e.pl p 0 = K0 at *;generalize e.pl p ((M : Int) - 1) = K1 at *;generalize e.sta p = St at *;have q17 : loadB true 17 0 (some (.cells (srcA p e vp vb vc).cells true 0)) = some (srcA p e vp vb vc) := rfl
 generalize hsc : (srcA p e vp vb vc).cells = sc at *;generalize srcA p e vp vb vc = sv at *;refine zf 262 B262 hC ?_; simp only [B262, zB]; refine zs2 g1 q17 ?_;refine kaa (kp _) (zs ?_);refine jam (fun j t h' => ∃ k : Int, J k h' /\ t 0 = .yield l /\ t 1 = .ptr b1 0 /\ t 2 = .ptr b2 0 /\ t 4 = .int .i64 k /\ K0 <= k /\ k <= max K0 (K1 + 1) /\ j = (K1 + 1 - k).toNat) (j0 := (K1 + 1 - K0).toNat) ⟨K0, h0, rfl, rfl, rfl, rfl, by omega, by omega, rfl⟩ ?_;rintro j t h' ⟨k, hJ, e0, e1, e2, e4, k0, k1, hj⟩;obtain ⟨g1, g2⟩ := hb _ _ hJ;have g := gt k;have y := hy k h' k0;refine zs6 e1 e2 e4 g1 g2 q17 ?_
 refine kaa (ks k (by omega) _) (zs ?_);refine kai (fun c => ?_) (fun c => ?_)
 ·have kK : k <= K1 := g.1 (by omega);refine zs5 e0 e1 e4 g1 q17 ?_;refine kaa (ks k (by omega) _) (zs2 e0 e4 ?_);refine kaW (y kK c hJ) ?_;rintro r h3 ⟨rfl, hJ'⟩;refine zs4 e0 e1 e2 e4 ?_;exact ⟨_, ⟨k + 1, hJ', rfl, by omega, by omega, rfl⟩, by omega⟩
 ·refine zs ?_;exact hd k h' k0 (by omega) hJ
theorem jlR (hC : Has C TA) {p : PlanP} {e : EmitP} {vp vb vc : AV} {M : Nat} {h : Heap} (ok : EmOk p e) (h65 : e.ok64) (B : RV h vb e.bits) (W : RV h vc (codeL p.d e.prn)) (v1 : vp.one = true) (hm : M <= 1048576) :
  ACalls C 257 [srcA p e vp vb vc, .int .i64 (M : Nat)] h (fun r h' => HSub h h' /\ ∃ i, h.size <= i /\ r = .slice i 0 M (.known M) /\ h'.get i = some (.cells (smps (wv p e M M)) true 0)) := by
 have b1 := B.one;have w1 := W.one;have p0 := ok.plb (n := 0) (by omega);have pm := ok.plb (n := (M : Int) - 1) (by omega);have s0 : e.sta p (e.pl p 0) <= 0 := (st_gt ok).2 (Int.le_refl _);have gt := fun (k : Int) => st_gt ok (n := (M : Int) - 1) (k := k);have stp : ∀ k : Int, p.size - 1 <= e.sta p (k + 1) - e.sta p k /\ e.sta p (k + 1) - e.sta p k <= p.size + 1 := fun k => (jlB (dl := e.dl) (sz := p.size) (k := k) ok.en.2.1);have hat : ∀ (n k : Int), e.sta p k <= n -> n < e.sta p (k + 1) -> (chipI p e (n - e.sta p k) * (lvl p e k).1, chipI p e (n - e.sta p k) * (lvl p e k).2) = atV p e n := fun n k h1 h2 => jns ok h1 h2
 have hin := fun n : Int => jjI ok n;have sz := jbi ok.pn;have stb := fun (k : Int) (hk : -20000000 <= k /\ k <= 20000000) => ok.stb hk;have ks := fun (k : Int) (hk : -20000000 <= k /\ k <= 20000000) h => jbu hC (k := k) (h := h) ok v1 b1 w1 hk;have kl := fun (k : Int) (hk : -20000000 <= k /\ k <= 20000000) h1 (q : HSub h h1) => jeo hC (vp := vp) (vc := vc) ok h65 (B.mono q) v1 w1 hk;have kc := fun (i : Int) (hi : 0 <= i /\ i <= 100000) h1 (q : HSub h h1) => je2 hC (vp := vp) (vb := vb) ok (W.mono q) v1 b1 hi;have kper := fun h => jiq hC (p := p) (e := e) (vp := vp) (vb := vb) (vc := vc) (m := (M : Nat)) (h := h)
 have zr9 := jcA (p := (0, 0)) (n := M);simp only at zr9;rw [<- jnb (p := p) (e := e)] at zr9;have q17 : loadB true 17 0 (some (.cells (srcA p e vp vb vc).cells true 0)) = some (srcA p e vp vb vc) := rfl;have hiter := @jja C hC p e vp vb vc M;generalize hsc : (srcA p e vp vb vc).cells = sc at *;generalize srcA p e vp vb vc = sv at *;generalize e.sta p = St at *;generalize e.pl p 0 = K0 at *;generalize e.pl p ((M : Int) - 1) = K1 at *;refine zf 257 B257 hC ?_; simp only [B257, zB]; refine zs3 zr9 @hsc q17 ?_;refine kaa (kper _) (zs ?_);refine je0 (D := fun h' => ∃ R, h'.get (h.size + 7) = some (.loop R) /\ R.state = .ready /\ R.pend = none /\ HSub h h' /\ h'.get (h.size + 6) = some (.defd true) /\ h'.get (h.size + 3) = some (.cells [.slice (h.size + 2) 0 M (.known M)] true 0) /\ h'.get (h.size + 2) = some (.cells (smps (wv p e M M)) true 0) /\ h.size + 8 <= h'.size) ?_ ?_
 ·refine kaH (fun R hR => ?_);show ACalls C 262 [.yield (h.size + 7), .ptr (h.size + 4) 0, .ptr (h.size + 5) 0] _ _;have rs : R.state = .ready := by rw [hR]
  have rp : R.pend = none := by rw [hR]
  have rb := jh3 rs rp;refine hiter ok v1 b1 w1 hm (fun k h' => h'.get (h.size + 7) = some (.loop R) /\ HSub h h' /\ h'.get (h.size + 6) = some (.defd true) /\ h'.get h.size = some (.cells sc true 0) /\ h'.get (h.size + 1) = some (.cells [.int .i64 (M : Nat)] true 0) /\ h'.get (h.size + 3) = some (.cells [.slice (h.size + 2) 0 M (.known M)] true 0) /\
   h'.get (h.size + 4) = some (.cells sc true 0) /\ h'.get (h.size + 5) = some (.cells [.int .i64 (M : Nat)] true 0) /\ h'.get (h.size + 2) = some (.cells (smps (wv p e (min (max (St k) 0) M).toNat M)) true 0) /\ h.size + 8 <= h'.size) _ ?_ ?_ ?_ ?_
  ·refine ⟨?_, zr, ?_, ?_, ?_, ?_, ?_, ?_, ?_, ?_⟩
   ·exact ze
   ·exact ze
   ·exact ze
   ·exact ze
   ·exact ze
   ·exact ze
   ·exact ze
   ·rw [show (min (max (St K0) 0) (M : Int)).toNat = 0 by omega];exact ze
   ·refine zs ?_;omega
  ·rintro k h' ⟨_, _, _, _, _, _, g4, g5, _⟩;exact ⟨g4, g5⟩
  ·rintro k h' hk0 hk1 hst ⟨hlp, hsub, hd, g0, g1, g3, g4, g5, g2, hsz⟩;refine jfH (r := R) hlp rs (by rw [hR]; rfl) ?_;simp only [congrArg ALoop.nt hR, congrArg ALoop.t hR, congrArg ALoop.params hR, congrArg ALoop.assign hR, congrArg ALoop.body hR];have hsH := fun bb => (hsub.put (i := h.size + 7) (by omega) bb);have s1 := stp k;have sk := stb k (by omega);obtain ⟨X, hX⟩ : ∃ X, lvl p e k = X := ⟨_, rfl⟩;obtain ⟨lx, ly⟩ := X;have hatk := fun n => hat n k;have klk := kl k (by omega);rw [hX] at hatk klk;unfold smp at klk;dsimp only at hatk klk;refine zs4 hlp rs g0 q17 ?_;refine kaa (klk _ (hsH _)) ?_
   refine zs1 g1 ?_;generalize hRb : ABlk.loop { state := .busy, pend := R.pend, t := R.t, nt := R.nt, params := R.params, assign := R.assign, body := R.body, defers := R.defers } = RB;refine jam (fun j u h3 => ∃ n : Int, max (St k) 0 <= n /\ n <= max (max (St k) 0) (min (St (k + 1)) M) /\ u 9 = .int .i64 n /\ u 2 = .ptr h.size 0 /\ u 3 = .ptr (h.size + 1) 0 /\ u 5 = .ptr (h.size + 3) 0 /\ u 6 = .int .i64 k /\ u 7 = .int .i64 (St k) /\ u 8 = .ptr h'.size 0 /\ j = (min (St (k + 1)) M - n).toNat /\
    h3.get (h.size + 7) = some RB /\ HSub h h3 /\ h3.get (h.size + 6) = some (.defd true) /\ h3.get h.size = some (.cells sc true 0) /\ h3.get (h.size + 1) = some (.cells [.int .i64 (M : Nat)] true 0) /\ h3.get (h.size + 3) = some (.cells [.slice (h.size + 2) 0 M (.known M)] true 0) /\
    h3.get (h.size + 4) = some (.cells sc true 0) /\ h3.get (h.size + 5) = some (.cells [.int .i64 (M : Nat)] true 0) /\ h3.get (h.size + 2) = some (.cells (smps (wv p e n.toNat M)) true 0) /\ h3.get h'.size = some (.cells [.int .i64 lx, .int .i64 ly] true 0) /\ h'.size + 1 <= h3.size) (j0 := (min (St (k + 1)) M - max (St k) 0).toNat) ?_ ?_
   ·rw [show (min (max (St k) 0) (M : Int)).toNat = (max (St k) 0).toNat by omega] at g2;refine ⟨max (St k) 0, by omega, by omega, rfl, rfl, rfl, rfl, rfl, rfl, rfl, rfl, ?_, ?_, ?_, ?_, ?_, ?_, ?_, ?_, ?_, ?_, ?_⟩
    ·exact ze
    ·exact (zh hsub)
    ·exact ze1 hd
    ·exact ze1 g0
    ·exact ze1 g1
    ·exact ze1 g3
    ·exact ze1 g4
    ·exact ze1 g5
    ·exact ze1 g2
    ·exact ze
    ·refine zs ?_;exact Nat.le_refl _
   ·rintro j u h3 ⟨n, n0, n1, e9, e2, e3, e5, e6, e7, e8, hj, hlp3, hsub3, hd3, g03, g13, g33, g43, g53, g23, g83, hsz3⟩;refine zs7 e2 e3 e6 e9 g03 g13 q17 ?_;refine kaa (ks (k + 1) (by omega) _) (zs2 e9 g13 ?_);refine kai (fun c => ?_) (fun c => ?_)
    ·have nS : St k <= n /\ n < St (k + 1) /\ 0 <= n /\ n < M := by omega
     obtain ⟨N, rfl⟩ := Int.eq_ofNat_of_zero_le nS.2.2.1;have hN : N < M := by omega
     have ha := hatk (N : Nat) nS.1 nS.2.1;have ib := hin (N : Nat);rw [<- ha] at ib;unfold inS at ib;dsimp only at ib;have set := jnr (p := p) (e := e) (n := N) (m := M) hN;rw [<- ha] at set;have ln : (wv p e N M).length = M := jep;have ln2 : (smps (wv p e N M)).length = M * 2 := by rw [ja7, ln]
     have kcn := kc (N - St k) (by omega);generalize hcx : chipI p e (N - St k) = cx at *;have sp := jd0 (l := wv p e N M) (k := N) (p := (cx * lx, cx * ly)) (by rw [ln]; exact hN);rw [set] at sp;dsimp only at sp;rw [Int.toNat_natCast] at g23;refine zs5 e2 e7 e9 g03 q17 ?_;refine kaa (kcn _ hsub3) (zs7 e2 e3 e5 e6 e7 e8 (zI e9 (zI g33 (zI g83 (zI g23 (zI sp ln2))))) ?_);exact ⟨_, ⟨(N : Int) + 1, by omega, by omega, rfl, rfl, hlp3, hsub3.put (by omega) _, hd3, g03, g13, g43, g53, by rw [show ((N : Int) + 1).toNat = N + 1 by omega], hsz3⟩, by omega⟩
    ·have hn : n.toNat = (min (max (St (k + 1)) 0) (M : Int)).toNat := by omega
     rw [hn] at g23;rw [<- hRb] at hlp3;refine zs1 hlp3 ?_;exact ⟨by rw [rb], hsub3.put (by omega) _, hd3, g03, g13, g33, g43, g53, g23, by omega⟩
  ·rintro k h' hk0 hst ⟨hlp, hsub, hd, g0, g1, g3, g4, g5, g2, hsz⟩;rw [show (min (max (St k) 0) (M : Int)).toNat = M by omega] at g2;exact ⟨R, hlp, rs, rp, hsub, hd, g3, g2, hsz⟩
 ·rintro h' ⟨R, hlp, hst, hpd, hsub, hd, g3, g2, hsz⟩;refine ⟨R, hlp, by rw [hst]; decide, ?_⟩;rw [hpd];show jcH _ _ .normal _;refine zs2 hd g3 ?_;exact ⟨(zh hsub), h.size + 2, by omega, rfl, by exact ze1 g2⟩
open Go.Conc
def WpM (P : Program) (c : Code) (Q : Out -> Phase -> Keep -> Act -> World -> Prop) (ph : Phase) (kp : Keep) (a : Act) (w : World) : Prop :=
 ∀ (Fin : Value -> World -> Prop) (p : Prop) (b : Frame) (k : List Item) (cs : List Frame), b.roundOf = none -> b.kind ≠ .early ->
  (∀ o ph' kp' a' w', Q o ph' kp' a' w' -> jk6 (PJ P Fin p ph') b k cs o kp' a' w') -> PJ P Fin p ph kp (G (b.atR a (.code c :: k)) cs) w
def OpsM (P : Program) (ops : Array Oper) (todo : List Nat) (Q : Phase -> Keep -> Act -> World -> Prop) (ph : Phase) (kp : Keep) (a : Act) (w : World) : Prop :=
 ∀ (Fin : Value -> World -> Prop) (p : Prop) (b : Frame) (k : List Item) (cs : List Frame), b.roundOf = none -> b.kind ≠ .early ->
  (∀ ph' kp' a' w', Q ph' kp' a' w' -> PJ P Fin p ph' kp' (G (b.atR a' k) cs) w') -> PJ P Fin p ph kp (G (b.atR a (.inRegion ops todo :: k)) cs) w
def OpM (P : Program) (ops : Array Oper) (i : Nat) (Q : Phase -> Keep -> Act -> World -> Prop) (ph : Phase) (kp : Keep) (a : Act) (w : World) : Prop :=
 ∀ (Fin : Value -> World -> Prop) (p : Prop) (b : Frame) (rest : List Nat) (k : List Item) (cs : List Frame), b.roundOf = none -> b.kind ≠ .early ->
  (∀ ph' kp' a' w', Q ph' kp' a' w' -> PJ P Fin p ph' kp' (G (b.atR a' (.inRegion ops rest :: k)) cs) w') -> PJ P Fin p ph kp (G (b.atR a (.inRegion ops (i :: rest) :: k)) cs) w
section
variable {P : Program} {ph : Phase} {kp : Keep} {a : Act} {w : World} {Q Q' : Out -> Phase -> Keep -> Act -> World -> Prop}
theorem jf1 {c : Code} (h : WpM P c Q ph kp a w) (hq : ∀ o ph' kp' a' w', Q o ph' kp' a' w' -> Q' o ph' kp' a' w') : WpM P c Q' ph kp a w :=
 fun Fin p b k cs hro hb hk => h Fin p b k cs hro hb fun o ph' kp' a' w' x => hk o ph' kp' a' w' (hq _ _ _ _ _ x)
theorem jnt {x y : Code} (h : WpM P x (fun o ph' kp' a' w' => match o with | .normal => WpM P y Q ph' kp' a' w' | o => Q o ph' kp' a' w') ph kp a w) : WpM P (.seq x y) Q ph kp a w := by
 intro Fin p b k cs hro hb hk;refine (jb3 ph).ctl rfl rfl (fun _ => jmF) (h Fin p b (.code y :: k) cs hro hb fun o ph' kp' a' w' q => ?_);cases o with
 | normal => exact q Fin p b k cs hro hb hk
 | exit id => exact fun k2 e => hk _ _ _ _ _ q k2 e
 | ret => exact fun k2 => hk _ _ _ _ _ q k2
theorem jmw {id : Nat} {c : Code} (h : WpM P c (fun o ph' kp' a' w' => match o with | .exit id' => if id' = id then Q .normal ph' kp' a' w' else Q (.exit id') ph' kp' a' w' | o => Q o ph' kp' a' w') ph kp a w) : WpM P (.block id c) Q ph kp a w := by
 intro Fin p b k cs hro hb hk;refine (jb3 ph).ctl rfl rfl (fun _ => jjr) (h Fin p b (.inBlock id :: k) cs hro hb fun o ph' kp' a' w' q => ?_);cases o with
 | normal => exact (jb3 ph').ctl rfl rfl (fun _ => jgw) (hk _ _ _ _ _ q)
 | ret => exact fun k2 => hk _ _ _ _ _ q k2
 | exit id' =>
  intro k2 e;dsimp only at q;by_cases hi : id' = id
  ·subst hi;rw [if_pos rfl] at q;exact (jb3 ph').ctl rfl rfl (fun _ => jk3 (by rw [e]; simp [exitTo])) (hk _ _ _ _ _ q)
  ·rw [if_neg hi] at q;exact hk _ _ _ _ _ q k2 (by rw [e]; simp [exitTo, Ne.symm hi])
theorem jnc {c : Code} (I : Nat -> Phase -> Keep -> Act -> World -> Prop) {j0 : Nat} (h0 : I j0 ph kp a w)
  (round : ∀ j ph kp a w, I j ph kp a w -> WpM P c (fun o ph' kp' a' w' => match o with | .normal => ∃ i, i < j /\ I i ph' kp' a' w' | o => Q o ph' kp' a' w') ph kp a w) : WpM P (.loop c) Q ph kp a w := by
 intro Fin p b k cs hro hb hk;refine (jb3 ph).ctl rfl rfl (fun _ => jk2) ?_;have key : ∀ j ph kp a w, I j ph kp a w -> PJ P Fin p ph kp (G (b.atR a (.code c :: .inLoop c :: k)) cs) w := by
  intro j
  induction j using Nat.strongRecOn with
  | _ j ih =>
   intro ph kp a w hI;refine round j ph kp a w hI Fin p b (.inLoop c :: k) cs hro hb fun o ph' kp' a' w' q => ?_;cases o with
   | normal =>
    obtain ⟨i, hlt, hI'⟩ := q;exact (jb3 ph').ctl rfl rfl (fun _ => jhN) (ih i hlt _ _ _ _ hI')
   | exit id => exact fun k2 e => hk _ _ _ _ _ q k2 (by rw [e]; simp [exitTo])
   | ret => exact fun k2 => hk _ _ _ _ _ q k2
 exact key _ _ _ _ _ h0
theorem jlS {id : Nat} (h : OpsM P ops (List.range ops.size) (Q .normal) ph kp a w) : WpM P (.region id ops false) Q ph kp a w :=
 fun Fin p b k cs hro hb hk => (jb3 ph).ctl rfl rfl (fun _ => jhO) (h Fin p b k cs hro hb fun ph' kp' a' w' q => hk _ _ _ _ _ q)
theorem jnu {R : Phase -> Keep -> Act -> World -> Prop} (h : R ph kp a w) : OpsM P ops [] R ph kp a w :=
 fun Fin p b k cs _ _ hk => (jb3 ph).ctl rfl rfl (fun _ => jc3) (hk _ _ _ _ h)
theorem jjb {rest : List Nat} {R : Phase -> Keep -> Act -> World -> Prop} (h : OpM P ops i (fun ph' kp' a' w' => OpsM P ops rest R ph' kp' a' w') ph kp a w) : OpsM P ops (i :: rest) R ph kp a w :=
 fun Fin p b k cs hro hb hk => h Fin p b rest k cs hro hb fun ph' kp' a' w' q => q Fin p b k cs hro hb hk
theorem jf2 {R R' : Phase -> Keep -> Act -> World -> Prop} (h : OpM P ops i R ph kp a w) (hq : ∀ ph' kp' a' w', R ph' kp' a' w' -> R' ph' kp' a' w') : OpM P ops i R' ph kp a w :=
 fun Fin p b rest k cs hro hb hk => h Fin p b rest k cs hro hb fun ph' kp' a' w' x => hk ph' kp' a' w' (hq _ _ _ _ x)
end
section
variable {C : Ctx} {ph : Phase} {kp : Keep} {a : Act} {w : World}
theorem jjP {c : Code} {Q : Out -> Keep -> Act -> World -> Prop} (h : WpJ (C.at ph) none c Q kp a w) : WpM C.P c (fun o ph' kp' a' w' => ph' = ph /\ Q o kp' a' w') ph kp a w :=
 fun Fin p b k cs hro hb hk => h _ (C.at_fam Fin p ph) b k cs hro hb fun o kp' a' w' q => hk o ph kp' a' w' ⟨rfl, q⟩
theorem jjQ {K : Keep -> Act -> World -> Prop} (h : OpJ (C.at ph) none ops i K kp a w) : OpM C.P ops i (fun ph' kp' a' w' => ph' = ph /\ K kp' a' w') ph kp a w :=
 fun Fin p b rest k cs hro hb hk => h _ (C.at_fam Fin p ph) b rest k cs hro hb fun kp' a' w' q => hk ph kp' a' w' ⟨rfl, q⟩
end
end Go.Ae
namespace Go.Ae
variable {C : Ctx} {h h' H h0 : Heap} {v vp : AV} {p : PlanP} {w w' : World} {env : Env} {kp : Keep} {ops : Array Oper} {st : St} {i m j sz c u : Nat} {l : List Int} {d b a : Int} {cs vs : List AV} {o : Oper} {P : Program}
open Go.Conc
def ABlk.freeze : ABlk -> ABlk
 | .cells vs _ u => .cells vs false u
 | _ => .dead
def Heap.freeze (h : Heap) : Heap := ⟨h.size, fun i => (h.get i).map ABlk.freeze, fun i hi => by rw [h.wf i hi]; rfl⟩
def Heap.thaw (hs : Heap) (ic : Nat) (h : Heap) : Heap :=
 ⟨h.size, fun i => if i < h.size then (if i < hs.size then (if i = ic then some .dead else hs.get i) else (h.get i).map fun b => if b.wr then b else .dead) else none, fun i hi => by rw [if_neg (by omega)]⟩
theorem jbS (h : Heap) (i : Nat) : h.freeze.get i = (h.get i).map ABlk.freeze := rfl
@[simp] theorem size_freeze (h : Heap) : h.freeze.size = h.size := rfl
theorem jf3 (h : Heap) (i : Nat) : h.freeze.ok i ↔ h.ok i := by simp [Heap.ok, jbS]
theorem jeQ (h : Heap) : h.freeze.ok = h.ok := funext fun i => propext (jf3 h i)
@[simp] theorem size_thaw (hs : Heap) (ic : Nat) (h : Heap) : (hs.thaw ic h).size = h.size := rfl
structure AProm where
 av : Nat -> AV
 blk : Option (List AV)
structure AProm.Ok (p : AProm) : Prop where
 shift : ∀ (lk : Nat -> FuncId) (n : Nat) (env : Env), (p.av n).val lk env = (p.av 0).val lk (fun _ => env n)
 bel : ∀ (n : Nat) (q : Nat -> Prop), (p.blk ≠ none -> q n) -> (p.av n).bel q
 cells : ∀ vs, p.blk = some vs -> ∀ v ∈ vs, v.bel fun _ => False
def AProm.prom (lk : Nat -> FuncId) (B : Nat) (p : AProm) : Prom := fun v w T => ∃ e : EB, v = (p.av 0).val lk (fun _ => e) /\
 match p.blk with
 | none => ∀ r, ¬ T r
 | some vs => B <= e.blk /\ e.blk < w.heap.size /\ (∀ r, T r ↔ r = e.blk) /\ ∀ k v, vs[k]? = some v -> w.cell? ⟨e.blk, e.sh + k, none⟩ = some (v.val lk (fun _ => e))
def AProm.land (p : AProm) (h : Heap) : Heap :=
 match p.blk with
 | none => h
 | some vs => h.push (.cells vs false 0)
structure Since (extra kp0 : Keep) (w0 : World) (kp : Keep) (w : World) : Prop where
 size : w0.heap.size <= w.heap.size
 os : w.os = w0.os
 tape : w.tape = w0.tape
 output : w.output = w0.output
 block : ∀ r, r < w0.heap.size -> extra.no r -> ¬ kp0.hide r -> w.heap[r]? = w0.heap[r]?
 hide : ∀ r, kp0.hide r -> kp.hide r
 hide' : ∀ r, extra.no r -> kp.hide r -> kp0.hide r \/ w0.heap.size <= r
structure Ent where
 kp : Keep
 env : Env
 h : Heap
 w : World
structure Snap (C : Ctx) (extra : Keep) (E : Ent) (kp : Keep) (env : Env) (h : Heap) (w : World) : Prop where
 rel : Rel C (kp.or extra) env h w
 since : Since extra E.kp E.w kp w
 ext : Ext E.h E.env env
 hle : HLe E.h h
 no : ∀ r, E.kp.no r -> kp.no r
 no' : ∀ r, kp.no r -> E.kp.no r \/ E.w.heap.size <= r
def Keep.below (extra : Keep) (n : Nat) : Keep := ⟨fun r => extra.no r \/ r < n, extra.hide⟩
inductive Gh where
 | idle
 | busy (ic : Nat) (aps : List AProm) (hs : Heap)
structure Busy (C : Ctx) (extra : Keep) (nt : Nat) (E : Ent) (ic : Nat) (aps : List AProm) (hs : Heap) (c : Nat) (ps : List Prom) (kps : Keep) (envs : Env) (ws : World) (kp : Keep) (env : Env) (st : St) (a : Act) (w : World) : Prop where
 snap : Snap C extra E kps envs hs ws
 sim : Sim C (kp.or (extra.below ws.heap.size)) nt env st a w
 ne : aps ≠ []
 chan : hs.get ic = some .chan
 hc : c = (envs ic).blk
 hps : ps = aps.map (AProm.prom C.lk ws.heap.size)
 ok : ∀ p ∈ aps, p.Ok
 ext : Ext hs envs env
 hle : HLe hs st.h
 no : ∀ r, r < ws.heap.size -> kp.no r
 hidec : kp.hide c
 hide : ∀ r, kps.hide r -> kp.hide r
 hide' : ∀ r, kp.hide r -> kps.hide r \/ r = c \/ ws.heap.size <= r
 rows : ∀ r, r < ws.heap.size -> ¬ kps.hide r -> r ≠ c -> w.heap[r]? = ws.heap[r]?
 size : ws.heap.size <= w.heap.size
 os : w.os = ws.os
 tape : w.tape = ws.tape
 output : w.output = ws.output
def GSim (C : Ctx) (extra : Keep) (nt : Nat) (E : Ent) : Gh -> Phase -> Keep -> Env -> St -> Act -> World -> Prop
 | .idle, ph, kp, env, st, a, w => ph = none /\ Snap C extra E kp env st.h w /\ Sim C (kp.or extra) nt env st a w
 | .busy ic aps hs, ph, kp, env, st, a, w => ∃ c ps kps envs ws, ph = some (c, ps) /\ Busy C extra nt E ic aps hs c ps kps envs ws kp env st a w
section
variable {C : Ctx} {extra : Keep} {nt : Nat} {E : Ent}
theorem Since.keepJ {kp0 kp' : Keep} {w0 : World} (h : Since extra kp0 w0 kp w) (K : KeepJ kp extra w kp' w') : Since extra kp0 w0 kp' w' := by
 have hs := h.size;refine ⟨Nat.le_trans h.size K.size, K.os.trans h.os, K.tape.trans h.tape, K.output.trans h.output, fun r hr he hn => ?_, fun r x => K.hide r (h.hide r x), fun r he x => ?_⟩
 ·rw [K.block r (Nat.lt_of_lt_of_le hr h.size) he (fun x => (h.hide' r he x).elim hn fun y => by omega), h.block r hr he hn]
 ·rcases K.hide' r he x with y | y
  ·exact h.hide' r he y
  ·exact .inr (by omega)
theorem Snap.keepJ {kp' : Keep} {env' : Env} (S : Snap C extra E kp env h w) (K : KeepJ kp extra w kp' w') (R : Rel C (kp'.or extra) env' h' w') (X : Ext h env env') (L : HLe h h') : Snap C extra E kp' env' h' w' := by
 have hs := S.since.size;refine ⟨R, S.since.keepJ K, S.ext.trans S.hle X, S.hle.trans L, fun r x => K.no r (S.no r x), fun r x => ?_⟩;rcases K.no' r x with y | y
 ·exact S.no' r y
 ·exact .inr (by omega)
theorem jir {keep : Keep} {env : Env} {st : St} {a : Act} {w : World} : ∀ {ph : Phase}, Sim C keep nt env st a w -> Sim (C.at ph) keep nt env st a w
 | none, h => ⟨h.size, h.tmps, h.bel, h.defers, h.marks, h.rel.1, h.rel.2, h.rel.3, h.rel.4, h.rel.5, h.rel.6, h.rel.7, h.rel.8⟩
 | some _, h => ⟨h.size, h.tmps, h.bel, h.defers, h.marks, h.rel.1, h.rel.2, h.rel.3, h.rel.4, h.rel.5, h.rel.6, h.rel.7, h.rel.8⟩
theorem jeq {keep : Keep} {env : Env} {st : St} {a : Act} {w : World} : ∀ {ph : Phase}, Sim (C.at ph) keep nt env st a w -> Sim C keep nt env st a w
 | none, h => ⟨h.size, h.tmps, h.bel, h.defers, h.marks, h.rel.1, h.rel.2, h.rel.3, h.rel.4, h.rel.5, h.rel.6, h.rel.7, h.rel.8⟩
 | some _, h => ⟨h.size, h.tmps, h.bel, h.defers, h.marks, h.rel.1, h.rel.2, h.rel.3, h.rel.4, h.rel.5, h.rel.6, h.rel.7, h.rel.8⟩
theorem Busy.far {ic : Nat} {aps : List AProm} {hs : Heap} {c : Nat} {ps : List Prom} {kps : Keep} {envs : Env} {ws : World} {kp kp' : Keep} {env env' : Env} {st st' : St} {a a' : Act} {w w' : World} (B : Busy C extra nt E ic aps hs c ps kps envs ws kp env st a w)
  (S' : Sim C (kp'.or (extra.below ws.heap.size)) nt env' st' a' w') (K : KeepJ kp (extra.below ws.heap.size) w kp' w') (X : Ext st.h env env') (L : HLe st.h st'.h) : Busy C extra nt E ic aps hs c ps kps envs ws kp' env' st' a' w' := by
 have hsz := B.size;refine ⟨B.snap, S', B.ne, B.chan, B.hc, B.hps, B.ok, B.ext.trans B.hle X, B.hle.trans L, fun r hr => K.no r (B.no r hr), K.hide _ B.hidec, fun r x => K.hide r (B.hide r x), fun r x => ?_, fun r hr hn hne => ?_,
  Nat.le_trans B.size K.size, K.os.trans B.os, K.tape.trans B.tape, K.output.trans B.output⟩
 ·rcases Nat.lt_or_ge r ws.heap.size with hr | hr
  ·rcases K.hide' r (.inr hr) x with y | y
   ·exact B.hide' r y
   ·omega
  ·exact .inr (.inr hr)
 ·have hnh : ¬ kp.hide r := fun x => by
   rcases B.hide' r x with y | y | y
   ·exact hn y
   ·exact hne y
   ·omega
  rw [K.block r (by omega) (.inr hr) hnh, B.rows r hr hn hne]
theorem Busy.rely {ic : Nat} {aps : List AProm} {hs : Heap} {ps : List Prom} {kps : Keep} {envs : Env} {ws : World} {kp' : Keep} {a : Act} (B : Busy C extra nt E ic aps hs c ps kps envs ws kp env st a w) (r : Rely kp w kp' w') : Busy C extra nt E ic aps hs c ps kps envs ws kp' env st a w' :=
 B.far (B.sim.rely r) (r.keepJ _) (kaj _ _) (kas _)
theorem jmx {g : Gh} {c : Code} {ph : Phase} {kp : Keep} {env : Env} {st : St} {a : Act} {w : World} {Q : Out -> Gh -> St -> Prop} (S : GSim C extra nt E g ph kp env st a w)
  (h : wp (C.at ph) nt none (jab C.P C.inv nt c) (fun o st' => Q o g st') st) :
  WpM C.P c (fun o ph' kp' a' w' => ∃ g' env' st', GSim C extra nt E g' ph' kp' env' st' a' w' /\ Q o g' st') ph kp a w := by
 have low : ∀ ph : Phase, jab (C.at ph).P (C.at ph).inv nt c = jab C.P C.inv nt c := fun ph => by cases ph <;> rfl
 cases g with
 | idle =>
  obtain ⟨rfl, hS, hs⟩ := S;have H := jee (C := C.at none) (extra := extra) (nt := nt) default none (jcm _ none) (jcL _ none) c (fun o st' => Q o .idle st') kp env st a w (by rw [low]; exact h) (jir hs) (by intro l hl; cases hl);refine jf1 (jjP H) ?_;rintro o ph' kp' a' w' ⟨rfl, env', st', F, _, hL, hq⟩;have s' := jeq F.sim;exact ⟨.idle, env', st', ⟨rfl, hS.keepJ F.keepJ s'.rel F.ext hL, s'⟩, hq⟩
 | busy ic aps hs =>
  obtain ⟨c0, ps, kps, envs, ws, rfl, B⟩ := S;have H := jee (C := C.at (some (c0, ps))) (extra := extra.below ws.heap.size) (nt := nt) default none (jcm _ none) (jcL _ none) c (fun o st' => Q o (.busy ic aps hs) st') kp env st a w (by rw [low]; exact h) (jir B.sim) (by intro l hl; cases hl);refine jf1 (jjP H) ?_;rintro o ph' kp' a' w' ⟨rfl, env', st', F, _, hL, hq⟩;exact ⟨.busy ic aps hs, env', st', ⟨c0, ps, kps, envs, ws, rfl, B.far (jeq F.sim) F.keepJ F.ext hL⟩, hq⟩
theorem jmy {g : Gh} {ops : Array Oper} {i : Nat} {o : Oper} {ph : Phase} {kp : Keep} {env : Env} {st : St} {a : Act} {w : World} {K : Gh -> St -> Prop} (S : GSim C extra nt E g ph kp env st a w) (ho : ops[i]? = some o) (hw : Region.wanted o (yielded ops a.tmps) = true)
  (h : wpOp (C.at ph) none (jal C.P C.inv nt ops o) (K g) st) :
  OpM C.P ops i (fun ph' kp' a' w' => ∃ g' env' st', GSim C extra nt E g' ph' kp' env' st' a' w' /\ K g' st') ph kp a w := by
 have low : ∀ ph : Phase, jal (C.at ph).P (C.at ph).inv nt ops o = jal C.P C.inv nt ops o := fun ph => by cases ph <;> rfl
 cases g with
 | idle =>
  obtain ⟨rfl, hS, hs⟩ := S;have H := jfb (C := C.at none) (extra := extra) (jir hs) none ho hw (low none) h;refine jf2 (jjQ H) ?_;rintro ph' kp' a' w' ⟨rfl, env', st', F, _, h2, hq⟩;have s' := jeq F.sim;exact ⟨.idle, env', st', ⟨rfl, hS.keepJ F.keepJ s'.rel F.ext ⟨F.grow.size, fun i hi => h2 i hi (by simp)⟩, s'⟩, hq⟩
 | busy ic aps hs =>
  obtain ⟨c0, ps, kps, envs, ws, rfl, B⟩ := S;have H := jfb (C := C.at (some (c0, ps))) (extra := extra.below ws.heap.size) (jir B.sim) none ho hw (low _) h;refine jf2 (jjQ H) ?_;rintro ph' kp' a' w' ⟨rfl, env', st', F, _, h2, hq⟩;exact ⟨.busy ic aps hs, env', st', ⟨c0, ps, kps, envs, ws, rfl, B.far (jeq F.sim) F.keepJ F.ext ⟨F.grow.size, fun i hi => h2 i hi (by simp)⟩⟩, hq⟩
end
end Go.Ae
namespace Go.Ae
variable {C : Ctx} {h h' H h0 : Heap} {v vp : AV} {p : PlanP} {w w' : World} {env : Env} {kp : Keep} {ops : Array Oper} {st : St} {i m j sz c u : Nat} {l : List Int} {d b a : Int} {cs vs : List AV} {o : Oper} {P : Program}
open Go.Conc
def jlT (C : Ctx) (gw : Nat) (first args cap : List AV) (ic : Nat) (h : Heap) (p : AProm) : Prop :=
 ∀ (B : Nat) (kp : Keep) (env : Env) (w : World), Rel C (kp.or kao) env h w -> B <= w.heap.size -> (∀ r, r < w.heap.size -> kp.no r) -> kp.hide (env ic).blk -> (∀ v ∈ first ++ args ++ cap, v.bel h.ok) ->
  JW C.P (env ic).blk (p.prom C.lk B) kp (born C.P { target := .fn (.func (C.lk gw)) (cap.map (AV.val C.lk env)).toArray, args := ((first ++ args).map (AV.val C.lk env)).toArray }) w
section
variable {C : Ctx} {extra : Keep} {nt : Nat} {E : Ent}
theorem jmz {ops : Array Oper} {o : Oper} {dst : Option Nat} {f : AOpd} {xs : List AOpd} (h : jal C.P C.inv nt ops o = { dst := dst, op := .comm 0 (f :: xs), guard := none }) :
  ∃ c fo, o.op = .go c /\ c.callee = .value fo /\ lowerOpd C.inv fo = some f /\ lowerOpds C.inv c.args.toList = some xs /\ o.dst = dst /\ dstOk nt o.dst = true /\ o.guard = none := by
 unfold jal at h;split at h
 ·rename_i aop g h1 h2 h3;simp only [AOper.mk.injEq] at h;obtain ⟨hd, rfl, rfl⟩ := h;have hg : o.guard = none := by
   cases hg : o.guard with
   | none => rfl
   | some jw =>
    obtain ⟨j, want⟩ := jw;rw [hg] at h3;simp only [jbB] at h3;split at h3 <;> cases h3
  cases hop : o.op with
  | go c =>
   rw [hop] at h1;simp only [lowerOp] at h1;split at h1
   ·rename_i fo args hc ha;simp only [Option.map_eq_some_iff] at h1;obtain ⟨f', hf, he⟩ := h1;cases he;exact ⟨c, fo, rfl, hc, hf, ha, hd, h2, hg⟩
   ·cases h1
  | call c =>
   exfalso;rw [hop] at h1;have h1' : jaX C.P C.inv c = some (.comm 0 (f :: xs)) := h1;unfold jaX at h1';split at h1'
   ·split at h1'
    ·simp only [Option.map_eq_some_iff] at h1'; obtain ⟨_, _, h1'⟩ := h1'; cases h1'
    ·unfold jaR at h1'
     repeat' split at h1'
     all_goals first
      | (cases h1'; done)
      | (simp only [Option.map_eq_some_iff] at h1'; obtain ⟨_, _, h1'⟩ := h1'; cases h1'; done)
    ·cases h1'
   ·cases h1'
  | makeFunc fn x y =>
   exfalso;rw [hop] at h1;cases fn <;> simp only [lowerOp] at h1;all_goals first | (cases h1; done) | ((repeat' split at h1) <;> cases h1; done)
  | makeMap _ r => exfalso; rw [hop] at h1; cases r <;> simp only [lowerOp, lowerMap] at h1 <;> (repeat' split at h1) <;> cases h1
  | mapUpdate _ _ _ _ => exfalso; rw [hop] at h1; simp only [lowerOp, lowerMap] at h1; (repeat' split at h1) <;> first | (cases h1; done) | (simp only [Option.map_eq_some_iff] at h1; obtain ⟨_, _, h1⟩ := h1; cases h1; done)
  | insert _ _ _ _ => exfalso; rw [hop] at h1; simp only [lowerOp, lowerMap] at h1; (repeat' split at h1) <;> first | (cases h1; done) | (simp only [Option.map_eq_some_iff] at h1; obtain ⟨_, _, h1⟩ := h1; cases h1; done)
  | lookup _ _ _ _ => exfalso; rw [hop] at h1; simp only [lowerOp, lowerMap] at h1; (repeat' split at h1) <;> first | (cases h1; done) | (simp only [Option.map_eq_some_iff] at h1; obtain ⟨_, _, h1⟩ := h1; cases h1; done)
  | _ =>
   exfalso;rw [hop] at h1
   first
    | (simp only [lowerOp] at h1; (repeat' split at h1) <;> first | (cases h1; done) | (simp only [Option.map_eq_some_iff] at h1; obtain ⟨_, _, h1⟩ := h1; cases h1; done))
    | (unfold lowerOp at h1; simp only [jbk, jaC] at h1; (repeat' split at h1) <;> first | (cases h1; done) | (simp only [Option.map_eq_some_iff] at h1; obtain ⟨_, _, h1⟩ := h1; cases h1; done))
 ·cases h
theorem jdc (h : o.guard = none) (y : Nat -> Option Bool) : Region.wanted o y = true := by simp [Region.wanted, h]
theorem Rel.frozen {kp ex' : Keep} {env : Env} {h : Heap} {w : World} (R : Rel C (kp.or extra) env h w) {c : Nat} (hc : c < w.heap.size) (hcd : ∀ i b, h.get i = some b -> b.freeze ≠ .dead -> (env i).blk ≠ c)
  (hno : ∀ r, ex'.no r -> r < w.heap.size) (hhide : ∀ r, ex'.hide r -> extra.hide r) : Rel C ((kp.shared w.heap.size c).or ex') env h.freeze w := by
 have hwr : ∀ b : ABlk, b.freeze.wr = false := fun b => by cases b <;> rfl
 have back : ∀ {i b'}, h.freeze.get i = some b' -> ∃ b, h.get i = some b /\ b' = b.freeze := by
  intro i b' hb;rw [jbS] at hb;cases hg : h.get i with
  | none => rw [hg] at hb; cases hb
  | some b => rw [hg] at hb; cases hb; exact ⟨b, rfl, rfl⟩
 have live : ∀ b : ABlk, b.freeze ≠ .dead -> b ≠ .dead := fun b hb => by rintro rfl; exact hb rfl
 refine ⟨fun i b' hb' => ?_, fun i b' hb' => ?_, fun i j b' c' hb' _ _ hw => ?_, fun i b' hb' => ?_, fun i b' hb' hw => ?_, fun r x => ?_, fun i b' hb' hd x => ?_, fun r x => ?_⟩
 ·obtain ⟨b, hb, _⟩ := back hb'; exact R.lt i b hb
 ·obtain ⟨b, hb, rfl⟩ := back hb';cases b with
  | cells vs wr u => exact fun k v hk => R.cell hb hk
  | _ => trivial
 ·obtain ⟨b, hb, rfl⟩ := back hb'; rw [hwr] at hw; cases hw
 ·obtain ⟨b, hb, rfl⟩ := back hb';rw [jeQ];cases b with
  | cells vs wr u => exact (R.bel i (.cells vs wr u) hb : _)
  | _ => trivial
 ·obtain ⟨b, hb, rfl⟩ := back hb'; rw [hwr] at hw; cases hw
 ·exact x.elim id (hno r)
 ·obtain ⟨b, hb, rfl⟩ := back hb';rcases x with (x | x) | x
  ·exact R.hid i b hb (live b hd) (.inl x)
  ·exact hcd i b hb hd x
  ·exact R.hid i b hb (live b hd) (.inr (hhide _ x))
 ·rcases x with (x | rfl) | x
  ·exact R.hidLt r (.inl x)
  ·exact hc
  ·exact R.hidLt r (.inr (hhide _ x))
theorem put_h (st : St) (h : Heap) (d : Option Nat) (v : AV) : (St.put { st with h := h } d v).h = h := by cases d <;> rfl
theorem jdH (h : Heap) : HLe h h.freeze := ⟨Nat.le_refl _, fun i _ => by rw [jbS]; cases h.get i <;> rfl⟩
def jf4 (g : Gh) (st : St) (ic : Nat) (p : AProm) : Gh :=
 match g with
 | .idle => .busy ic [p] st.h
 | .busy ic aps hs => .busy ic (aps ++ [p]) hs
def wpGo (C : Ctx) (g : Gh) (fv : AV) (args : List AV) (dst : Option Nat) (K : Gh -> St -> Prop) (st : St) : Prop :=
 match fv with
 | .func gw first cap => ∃ ic p, (match g with | .idle => st.h.get ic = some .chan | .busy ic' _ _ => ic = ic') /\ p.Ok /\ jlT C gw first args cap ic st.h.freeze p /\
   K (jf4 g st ic p) (St.put { st with h := st.h.freeze } dst .undef)
 | _ => False
theorem om_go {g : Gh} {ops : Array Oper} {i : Nat} {o : Oper} {ph : Phase} {kp : Keep} {env : Env} {st : St} {a : Act} {w : World} {K : Gh -> St -> Prop} (S : GSim C extra nt E g ph kp env st a w) (ho : ops[i]? = some o) {dst : Option Nat} {f : AOpd} {xs : List AOpd}
  (hl : jal C.P C.inv nt ops o = { dst := dst, op := .comm 0 (f :: xs), guard := none }) (h : wpGo C g (f.ev st.t) (xs.map (·.ev st.t)) dst K st) :
  OpM C.P ops i (fun ph' kp' a' w' => ∃ g' env' st', GSim C extra nt E g' ph' kp' env' st' a' w' /\ K g' st') ph kp a w := by
 obtain ⟨c, fo, hop, hcal, hf, hx, rfl, hd, hg⟩ := jmz hl;have hw := jdc hg (yielded ops a.tmps);unfold wpGo at h;split at h
 case h_2 => exact h.elim
 rename_i gw first cap hfv
 obtain ⟨ic, p, hic, hpok, hW, hK⟩ := h
 -- what the state says of the operands
 have key : ∀ {keep : Keep}, Sim C keep nt env st a w -> ∀ v ∈ first ++ xs.map (·.ev st.t) ++ cap, v.bel st.h.ok := by
  intro keep S v hv;have q := jaV S.opd hx;have e2 := S.opd fo f hf;rw [hfv] at e2;rcases List.mem_append.1 hv with hv | hv
  ·rcases List.mem_append.1 hv with hv | hv
   ·exact (jaU _ _).1 e2.2.1 v hv
   ·exact q.2 v hv
  ·exact (jaU _ _).1 e2.2.2 v hv
 have run : ∀ {keep : Keep}, Sim C keep nt env st a w -> ∀ w1, (execOp a.eval o).run C.P w1 = .ok (.spawn { target := .fn (.func (C.lk gw)) (cap.map (AV.val C.lk env)).toArray, args := ((first ++ xs.map (·.ev st.t)).map (AV.val C.lk env)).toArray }) w1 /\ (execOp a.eval o).events C.P w1 #[] = #[] := by
  intro keep S w1;have q := jaV S.opd hx;have e1 : c.args.map a.eval = ((xs.map (·.ev st.t)).map (AV.val C.lk env)).toArray := by rw [<- q.1, <- jcl]
  have e2 := S.opd fo f hf;rw [hfv] at e2;have e3 := e2.1;simp only [AV.val, ja5] at e3;constructor
  ·simp only [execOp, hop, resolve, hcal, Deferred.ofValue, e1, e3, Sem.run_bind, Sem.run_pure, Result.andThen_ok];simp
  ·simp only [execOp, hop, resolve, hcal, Deferred.ofValue, e1, e3, Sem.events_bind, Sem.events_pure, Sem.run_pure, Result.evThen_ok]
 have step : ∀ {keep : Keep}, Sim C keep nt env st a w -> ∀ (b : Frame) (rest : List Nat) (k : List Item) (cs : List Frame), b.kind ≠ .early -> ∀ w1, stepG C.P true (G (b.atR a (.inRegion ops (i :: rest) :: k)) cs) w1 =
   .spawn (G (b.atR (a.put o.dst undef) (.inRegion ops rest :: k)) cs) (born C.P { target := .fn (.func (C.lk gw)) (cap.map (AV.val C.lk env)).toArray, args := ((first ++ xs.map (·.ev st.t)).map (AV.val C.lk env)).toArray }) w1 #[] := by
  intro keep S b rest k cs hb w1;obtain ⟨h1, h2⟩ := run S w1;rw [jmb ho hw (fun c' e => by rw [hop] at e; cases e) hb h1 rfl];simp only [evs, h2, seen_none]
 have undefv : (AV.undef).val C.lk env = undef := rfl;intro Fin pr b rest k cs hro hb hk;cases g with
 | idle =>
  obtain ⟨rfl, hS, hs⟩ := S;have hic : st.h.get ic = some .chan := hic;by_cases hp : pr
  ·exact .inr hp
  refine .inl (.spawn (env ic).blk (p.prom C.lk w.heap.size) rfl (.inl ⟨rfl, fun x => hs.rel.hid ic _ hic (by simp) (.inl x), fun x => hs.rel.hid ic _ hic (by simp) (.inl x), ?_⟩) (fun kq w1 r => ⟨_, _, step hs b rest k cs hb w1, rfl, rfl⟩) (fun kq w1 g' ch r hst => ?_) (fun kq w1 g' ch r hst => ?_))
  ·exact hs.rel.blk ic _ hic
  ·rw [step hs b rest k cs hb w1] at hst;cases hst;obtain ⟨r1, rfl⟩ := r.ofBoth;have s1 := hs.rely r1;have hcd : ∀ i b, st.h.get i = some b -> b.freeze ≠ .dead -> (env i).blk ≠ (env ic).blk := fun i b hi hbd => s1.rel.disj ic i _ b hic hi (fun e => by subst e; rw [hic] at hi; cases hi; exact hbd rfl) rfl (by rintro rfl; exact hbd rfl);have RF := s1.rel.frozen (s1.rel.lt ic _ hic) hcd (ex' := kao) (fun _ h => h.elim) (fun _ h => h.elim);exact hW w.heap.size _ env w1 RF r1.size (fun r hr => hr) (.inr rfl) (by rw [jeQ]; exact key hs)
  ·rw [step hs b rest k cs hb w1] at hst;cases hst;obtain ⟨r1, rfl⟩ := r.ofBoth;have s1 := hs.rely r1;have hcd : ∀ i b, st.h.get i = some b -> b.freeze ≠ .dead -> (env i).blk ≠ (env ic).blk := fun i b hi hbd => s1.rel.disj ic i _ b hic hi (fun e => by subst e; rw [hic] at hi; cases hi; exact hbd rfl) rfl (by rintro rfl; exact hbd rfl);have RF := s1.rel.frozen (s1.rel.lt ic _ hic) hcd (ex' := extra.below w.heap.size) (fun r h => h.elim (fun h => s1.rel.keepLt r (.inr h)) fun h => Nat.lt_of_lt_of_le h r1.size) (fun _ h => h);have s2 := s1.put' hd (v := .undef) RF (kaj _ _) (jdH _).grow trivial;have hltc : (env ic).blk < w.heap.size := hs.rel.lt ic _ hic
   have hg' : GSim C extra nt E (jf4 .idle st ic p) (some ((env ic).blk, [p.prom C.lk w.heap.size])) ((kp.wider w.heap.size w1.heap.size).shared w1.heap.size (env ic).blk) env (St.put { st with h := st.h.freeze } o.dst .undef) (a.put o.dst undef) w1 :=
    ⟨_, _, kp, env, w, rfl, hS, s2, by simp, hic, rfl, rfl, fun q hq => by rw [List.mem_singleton] at hq; subst hq; exact hpok, kaj _ _, by rw [put_h]; exact jdH _, fun r hr => Nat.lt_of_lt_of_le hr r1.size, .inr rfl, fun r x => .inl (.inl x),
     fun r x => by
      rcases x with (x | x) | x
      ·exact .inl x
      ·exact .inr (.inr x.1)
      ·exact .inr (.inl x),
     fun r hr hn _ => r1.row r hr hn, r1.size, r1.os, r1.tape, r1.output⟩
   exact (hk _ _ _ _ ⟨_, env, _, hg', hK⟩).resolve_right hp
 | busy ic' aps hs =>
  obtain ⟨c0, ps, kps, envs, ws, rfl, B⟩ := S;have hic : ic = ic' := hic;subst hic;have hne : ps ≠ [] := by rw [B.hps]; intro e; exact B.ne (List.map_eq_nil_iff.1 e)
  have hcc : (env ic).blk = c0 := by rw [B.ext ic (by simp [Heap.ok, B.chan]), B.hc]
  by_cases hp : pr
  ·exact .inr hp
  refine .inl (.spawn c0 (p.prom C.lk ws.heap.size) rfl (.inr ⟨hne, rfl⟩) (fun kq w1 r => ⟨_, _, step B.sim b rest k cs hb w1, rfl, rfl⟩) (fun kp1 w1 g' ch r hst => ?_) (fun kp1 w1 g' ch r hst => ?_))
  ·rw [step B.sim b rest k cs hb w1] at hst;cases hst;have B1 := B.rely r;have s1 := B1.sim;have hcd : ∀ i b, st.h.get i = some b -> b.freeze ≠ .dead -> (env i).blk ≠ c0 := fun i b hi hbd e => s1.rel.hid i b hi (by rintro rfl; exact hbd rfl) (.inl (by rw [e]; exact B1.hidec));have RF := s1.rel.frozen (s1.rel.hidLt _ (.inl B1.hidec)) hcd (ex' := kao) (fun _ h => h.elim) (fun _ h => h.elim);have := hW ws.heap.size _ env w1 RF B1.size (fun r hr => hr) (.inr hcc) (by rw [jeQ]; exact key B.sim);rw [hcc] at this;exact this
  ·rw [step B.sim b rest k cs hb w1] at hst;cases hst;have B1 := B.rely r;have s1 := B1.sim;have hcd : ∀ i b, st.h.get i = some b -> b.freeze ≠ .dead -> (env i).blk ≠ c0 := fun i b hi hbd e => s1.rel.hid i b hi (by rintro rfl; exact hbd rfl) (.inl (by rw [e]; exact B1.hidec));have RF := s1.rel.frozen (s1.rel.hidLt _ (.inl B1.hidec)) hcd (ex' := extra.below ws.heap.size) (fun r h => s1.rel.keepLt r (.inr h)) (fun _ h => h);have s2 := s1.put' hd (v := .undef) RF (kaj _ _) (jdH _).grow trivial;have hg' : GSim C extra nt E (jf4 (.busy ic aps hs) st ic p) (some (c0, ps ++ [p.prom C.lk ws.heap.size])) (kp1.shared w1.heap.size c0) env (St.put { st with h := st.h.freeze } o.dst .undef) (a.put o.dst undef) w1 :=
    ⟨_, _, kps, envs, ws, rfl, B1.snap, s2, by simp, B1.chan, B1.hc, by rw [B1.hps]; simp, fun q hq => by
      rcases List.mem_append.1 hq with hq | hq
      ·exact B1.ok q hq
      ·rw [List.mem_singleton] at hq; subst hq; exact hpok,
     B1.ext, by rw [put_h]; exact B1.hle.trans (jdH _), fun r hr => Nat.lt_of_lt_of_le hr B1.size, .inl B1.hidec, fun r x => .inl (B1.hide r x),
     fun r x => by
      rcases x with x | x
      ·exact B1.hide' r x
      ·exact .inr (.inl x),
     B1.rows, B1.size, B1.os, B1.tape, B1.output⟩
   exact (hk _ _ _ _ ⟨_, env, _, hg', hK⟩).resolve_right hp
end
end Go.Ae
namespace Go.Ae
variable {C : Ctx} {h h' H h0 : Heap} {v vp : AV} {p : PlanP} {w w' : World} {env : Env} {kp : Keep} {ops : Array Oper} {st : St} {i m j sz c u : Nat} {l : List Int} {d b a : Int} {cs vs : List AV} {o : Oper} {P : Program}
open Go.Conc
section
variable {C : Ctx} {extra : Keep} {nt : Nat} {E : Ent}
theorem jkE {ops : Array Oper} {o : Oper} {dst : Option Nat} {x : AOpd} (h : jal C.P C.inv nt ops o = { dst := dst, op := .comm 1 [x], guard := none }) :
  ∃ t ch d e z, o.op = .recv t ch false /\ C.P.underlying t = some (.chan d e) /\ zeroT C.P e = some z /\ lowerOpd C.inv ch = some x /\ o.dst = dst /\ dstOk nt o.dst = true /\ o.guard = none := by
 unfold jal at h;split at h
 ·rename_i aop g h1 h2 h3;simp only [AOper.mk.injEq] at h;obtain ⟨hd, rfl, rfl⟩ := h;have hg : o.guard = none := by
   cases hg : o.guard with
   | none => rfl
   | some jw =>
    obtain ⟨j, want⟩ := jw;rw [hg] at h3;simp only [jbB] at h3;split at h3 <;> cases h3
  cases hop : o.op with
  | recv t ch comma =>
   rw [hop] at h1;simp only [lowerOp] at h1;split at h1
   ·rename_i d e x' ht hx;simp only [Option.map_eq_some_iff] at h1;obtain ⟨z, hz, he⟩ := h1;cases he;exact ⟨t, ch, d, e, z, rfl, ht, hz, hx, hd, h2, hg⟩
   ·cases h1
  | call c =>
   exfalso;rw [hop] at h1;have h1' : jaX C.P C.inv c = some (.comm 1 [x]) := h1;unfold jaX at h1';split at h1'
   ·split at h1'
    ·simp only [Option.map_eq_some_iff] at h1'; obtain ⟨_, _, h1'⟩ := h1'; cases h1'
    ·unfold jaR at h1'
     repeat' split at h1'
     all_goals first
      | (cases h1'; done)
      | (simp only [Option.map_eq_some_iff] at h1'; obtain ⟨_, _, h1'⟩ := h1'; cases h1'; done)
    ·cases h1'
   ·cases h1'
  | makeFunc fn x y =>
   exfalso;rw [hop] at h1;cases fn <;> simp only [lowerOp] at h1;all_goals first | (cases h1; done) | ((repeat' split at h1) <;> cases h1; done)
  | makeMap _ r => exfalso; rw [hop] at h1; cases r <;> simp only [lowerOp, lowerMap] at h1 <;> (repeat' split at h1) <;> cases h1
  | mapUpdate _ _ _ _ => exfalso; rw [hop] at h1; simp only [lowerOp, lowerMap] at h1; (repeat' split at h1) <;> first | (cases h1; done) | (simp only [Option.map_eq_some_iff] at h1; obtain ⟨_, _, h1⟩ := h1; cases h1; done)
  | insert _ _ _ _ => exfalso; rw [hop] at h1; simp only [lowerOp, lowerMap] at h1; (repeat' split at h1) <;> first | (cases h1; done) | (simp only [Option.map_eq_some_iff] at h1; obtain ⟨_, _, h1⟩ := h1; cases h1; done)
  | lookup _ _ _ _ => exfalso; rw [hop] at h1; simp only [lowerOp, lowerMap] at h1; (repeat' split at h1) <;> first | (cases h1; done) | (simp only [Option.map_eq_some_iff] at h1; obtain ⟨_, _, h1⟩ := h1; cases h1; done)
  | _ =>
   exfalso;rw [hop] at h1
   first
    | (simp only [lowerOp] at h1; (repeat' split at h1) <;> first | (cases h1; done) | (simp only [Option.map_eq_some_iff] at h1; obtain ⟨_, _, h1⟩ := h1; cases h1; done))
    | (unfold lowerOp at h1; simp only [jbk, jaC] at h1; (repeat' split at h1) <;> first | (cases h1; done) | (simp only [Option.map_eq_some_iff] at h1; obtain ⟨_, _, h1⟩ := h1; cases h1; done))
 ·cases h
theorem Rel.less {keep keep' : Keep} {env : Env} {h : Heap} {w w' : World} (R : Rel C keep env h w) (hno : ∀ r, keep'.no r -> keep.no r) (hhide : ∀ r, keep'.hide r -> keep.hide r) (hsz : w'.heap.size = w.heap.size)
  (hrow : ∀ r, r < w.heap.size -> ¬ keep.hide r -> w'.heap[r]? = w.heap[r]?) : Rel C keep' env h w' := by
 refine ⟨fun i b hi => by rw [hsz]; exact R.lt i b hi, fun i b hi => ?_, R.disj, R.bel, fun i b hi hw x => R.kept i b hi hw (hno _ x), fun r x => by rw [hsz]; exact R.keepLt r (hno r x), fun i b hi hd x => R.hid i b hi hd (hhide _ x), fun r x => by rw [hsz]; exact R.hidLt r (hhide r x)⟩;by_cases hd : b = .dead
 ·subst hd; trivial
 ·exact (R.blk i b hi).mono (kaj h env) (R.bel i b hi) (hrow _ (R.lt i b hi) (R.hid i b hi hd))
theorem Rel.view {keep : Keep} {env : Env} {h : Heap} {w : World} (R : Rel C keep env h w) (e : EB) {vs : List AV} (hlt : e.blk < w.heap.size) (hh : ¬ keep.hide e.blk) (hw : ∀ i b, h.get i = some b -> b.wr = true -> (env i).blk ≠ e.blk)
  (hv : ∀ v ∈ vs, v.bel fun _ => False) (hc : ∀ k v, vs[k]? = some v -> w.cell? ⟨e.blk, e.sh + k, none⟩ = some (v.val C.lk (fun _ => e))) : Rel C keep (updE env h.size e) (h.push (.cells vs false 0)) w := by
 have X : Ext h env (updE env h.size e) := jbx (h.wf _ (Nat.le_refl _)) env e;have hself : updE env h.size e h.size = e := by simp [updE]
 have hold : ∀ i b, h.get i = some b -> updE env h.size e i = env i := fun i b hb => X i (by simp [Heap.ok, hb]);refine ⟨fun i b hi => ?_, fun i b hi => ?_, fun i j b c hi hj hij hwr hcd => ?_, fun i b hi => ?_, fun i b hi hwr x => ?_, R.keepLt, fun i b hi hd x => ?_, R.hidLt⟩;all_goals rw [kah] at hi
 ·by_cases ei : i = h.size
  ·rw [ei, hself]; exact hlt
  ·rw [if_neg ei] at hi; rw [hold i b hi]; exact R.lt i b hi
 ·by_cases ei : i = h.size
  ·rw [if_pos ei] at hi; cases hi;rw [ei, hself];intro k v hk;rw [hc k v hk];congr 1;exact jdj (fun _ h => h.elim) v (hv v (List.mem_of_getElem? hk))
  ·rw [if_neg ei] at hi; rw [hold i b hi];exact (R.blk i b hi).mono X (R.bel i b hi) rfl
 ·rw [kah] at hj;by_cases ei : i = h.size
  ·rw [if_pos ei] at hi; cases hi; cases hwr
  ·rw [if_neg ei] at hi;rw [hold i b hi];by_cases ej : j = h.size
   ·rw [ej, hself]; exact fun x => hw i b hi hwr x.symm
   ·rw [if_neg ej] at hj; rw [hold j c hj]; exact R.disj i j b c hi hj hij hwr hcd
 ·by_cases ei : i = h.size
  ·rw [if_pos ei] at hi; cases hi;exact fun v hvm => bel_mono (fun _ h => h.elim) v (hv v hvm)
  ·rw [if_neg ei] at hi; exact kam (fun j hj => jes.2 (.inr hj)) (R.bel i b hi)
 ·by_cases ei : i = h.size
  ·rw [if_pos ei] at hi; cases hi; cases hwr
  ·rw [if_neg ei] at hi; rw [hold i b hi] at x; exact R.kept i b hi hwr x
 ·by_cases ei : i = h.size
  ·rw [ei, hself] at x; exact hh x
  ·rw [if_neg ei] at hi; rw [hold i b hi] at x; exact R.hid i b hi hd x
theorem Rel.land {keep : Keep} {env : Env} {h : Heap} {w : World} (R : Rel C keep env h w) {p : AProm} (hp : p.Ok) {B : Nat} {T : Nat -> Prop} {v : Value} {w0 : World} (hΦ : p.prom C.lk B v w0 T)
  (hT : ∀ r, T r -> r < w.heap.size /\ ¬ keep.hide r /\ (∀ i b, h.get i = some b -> b.wr = true -> (env i).blk ≠ r) /\ w.heap[r]? = w0.heap[r]?) :
  ∃ env', Rel C keep env' (p.land h) w /\ Ext h env env' /\ HLe h (p.land h) /\ v = (p.av h.size).val C.lk env' /\ (p.av h.size).bel (p.land h).ok := by
 obtain ⟨e, rfl, hΦ⟩ := hΦ;unfold AProm.land;cases hb : p.blk with
 | none =>
  refine ⟨env, R, kaj _ _, kas _, ?_, hp.bel _ _ fun x => absurd hb x⟩;rw [hp.shift C.lk h.size env];exact jdj (fun _ h => h.elim) _ (hp.bel 0 (fun _ => False) fun x => absurd hb x)
 | some vs =>
  rw [hb] at hΦ;obtain ⟨h1, h2, h3, h4⟩ := hΦ;obtain ⟨t1, t2, t3, t4⟩ := hT e.blk ((h3 _).2 rfl);refine ⟨updE env h.size e, R.view e t1 t2 t3 (hp.cells vs hb) (fun k v hk => ?_), jbx (h.wf _ (Nat.le_refl _)) env e, jgQ (n := none) rfl rfl _, ?_, hp.bel _ _ fun _ => jes.2 (.inl rfl)⟩
  ·rw [<- h4 k v hk];exact World.cell?_of_block (w := w0) (w' := w) (a := ⟨e.blk, e.sh + k, none⟩) t4
  ·rw [hp.shift _ h.size];simp [updE]
theorem jbX {hs : Heap} {ic : Nat} {b : ABlk} (h1 : (hs.thaw ic h).get i = some b) : i < h.size /\ ((i < hs.size /\ ((i = ic /\ b = .dead) \/ (i ≠ ic /\ hs.get i = some b))) \/ (hs.size <= i /\ ∃ b', h.get i = some b' /\ b = if b'.wr then b' else .dead)) := by
 unfold Heap.thaw at h1;dsimp only at h1;split at h1
 ·rename_i hlt;refine ⟨hlt, ?_⟩;split at h1
  ·rename_i h2;split at h1
   ·rename_i e; cases h1; exact .inl ⟨h2, .inl ⟨e, rfl⟩⟩
   ·rename_i e; exact .inl ⟨h2, .inr ⟨e, h1⟩⟩
  ·rename_i h2;simp only [Option.map_eq_some_iff] at h1;obtain ⟨b', hb', e⟩ := h1;exact .inr ⟨by omega, b', hb', e.symm⟩
 ·cases h1
theorem Busy.thaw {ic : Nat} {aps : List AProm} {hs : Heap} {c : Nat} {ps : List Prom} {kps : Keep} {envs : Env} {ws : World} {kp : Keep} {env : Env} {st : St} {a : Act} {w W : World} (B : Busy C extra nt E ic aps hs c ps kps envs ws kp env st a w)
  {T : Nat -> Prop} (hT : ∀ r, T r -> ws.heap.size <= r) (hsz : W.heap.size = w.heap.size) (hos : W.os = w.os) (htp : W.tape = w.tape) (hout : W.output = w.output) (hrow : ∀ r, r ≠ c -> W.heap[r]? = w.heap[r]?) :
  Snap C extra E ⟨kps.no, fun r => kp.hide r /\ ¬ T r⟩ env (hs.thaw ic st.h) W /\ HLe st.h (hs.thaw ic st.h) /\ ∀ i b, (hs.thaw ic st.h).get i = some b -> b.wr = true -> ¬ kp.hide (env i).blk := by
 have R0 := B.snap.rel;have R1 := B.sim.rel;have hss := B.size;have envO : ∀ {i b}, hs.get i = some b -> env i = envs i := fun {i b} hb => B.ext i (by simp [Heap.ok, hb])
 -- of an old block that is live
 have old : ∀ {i b}, i ≠ ic -> hs.get i = some b -> b ≠ .dead -> (env i).blk < ws.heap.size /\ ¬ kps.hide (env i).blk /\ (env i).blk ≠ c := by
  intro i b hne hb hd;rw [envO hb];refine ⟨R0.lt i b hb, fun x => R0.hid i b hb hd (.inl x), ?_⟩;rw [B.hc];exact R0.disj ic i _ b B.chan hb (Ne.symm hne) rfl hd
 have oldH : ∀ {i b}, i ≠ ic -> hs.get i = some b -> b ≠ .dead -> ¬ kp.hide (env i).blk := by
  intro i b hne hb hd x;obtain ⟨o1, o2, o3⟩ := old hne hb hd;rcases B.hide' _ x with y | y | y
  ·exact o2 y
  ·exact o3 y
  ·omega
 have oldW : ∀ {i b}, i ≠ ic -> hs.get i = some b -> b ≠ .dead -> W.heap[(env i).blk]? = ws.heap[(env i).blk]? := by
  intro i b hne hb hd;obtain ⟨o1, o2, o3⟩ := old hne hb hd;rw [hrow _ o3, B.rows _ o1 o2 o3]
 -- of a new one that may be written
 have new : ∀ {i b}, hs.size <= i -> st.h.get i = some b -> b.wr = true -> ws.heap.size <= (env i).blk /\ ¬ kp.hide (env i).blk /\ (env i).blk ≠ c /\ b ≠ .dead := by
  intro i b hi hb hw;have hd : b ≠ .dead := by rintro rfl; cases hw
  have hh : ¬ kp.hide (env i).blk := fun x => R1.hid i b hb hd (.inl x);refine ⟨?_, hh, fun e => hh (by rw [e]; exact B.hidec), hd⟩;rcases Nat.lt_or_ge (env i).blk ws.heap.size with x | x
  ·exact absurd (.inr (.inr x)) (R1.kept i b hb hw)
  ·exact x
 have okT : ∀ i, st.h.ok i -> (hs.thaw ic st.h).ok i := by
  intro i hi;have hlt := kav hi;simp only [Heap.ok, Heap.thaw, if_pos hlt];by_cases h2 : i < hs.size
  ·rw [if_pos h2];by_cases e : i = ic
   ·rw [if_pos e]; rfl
   ·rw [if_neg e, <- B.hle.same i h2]; exact hi
  ·rw [if_neg h2];simp only [Heap.ok] at hi;simpa using hi
 have hleT : HLe st.h (hs.thaw ic st.h) := by
  refine ⟨Nat.le_refl _, fun i hi => ?_⟩;cases hg : st.h.get i with
  | some b => have := okT i (by simp [Heap.ok, hg]); simpa [Heap.ok] using this
  | none =>
   show ((hs.thaw ic st.h).get i).isSome = false;cases ht : (hs.thaw ic st.h).get i with
   | none => rfl
   | some b =>
    exfalso;obtain ⟨_, ⟨h2, h3⟩ | ⟨_, b', hb', _⟩⟩ := jbX ht
    ·have hsame := B.hle.same i h2;rw [hg] at hsame;rcases h3 with ⟨rfl, _⟩ | ⟨_, h3⟩
     ·rw [B.chan] at hsame; cases hsame
     ·rw [h3] at hsame; cases hsame
    ·rw [hg] at hb'; cases hb'
 have okS : ∀ i, hs.ok i -> (hs.thaw ic st.h).ok i := fun i hi => okT i (B.hle.ok hi);have hR : Rel C (Keep.or ⟨kps.no, fun r => kp.hide r /\ ¬ T r⟩ extra) env (hs.thaw ic st.h) W := by
  refine ⟨fun i b hi => ?_, fun i b hi => ?_, fun i j b d hi hj hij hw hd => ?_, fun i b hi => ?_, fun i b hi hw x => ?_, fun r x => ?_, fun i b hi hd x => ?_, fun r x => ?_⟩
  ·rw [hsz];obtain ⟨_, ⟨h2, h3⟩ | ⟨_, b', hb', _⟩⟩ := jbX hi
   ·rcases h3 with ⟨rfl, _⟩ | ⟨_, h3⟩
    ·rw [envO B.chan]; exact Nat.lt_of_lt_of_le (R0.lt _ _ B.chan) hss
    ·rw [envO h3]; exact Nat.lt_of_lt_of_le (R0.lt _ _ h3) hss
   ·exact R1.lt i b' hb'
  ·obtain ⟨_, ⟨h2, h3⟩ | ⟨hi2, b', hb', e⟩⟩ := jbX hi
   ·rcases h3 with ⟨_, rfl⟩ | ⟨hne, h3⟩
    ·trivial
    ·by_cases hd : b = .dead
     ·subst hd; trivial
     ·have := oldW hne h3 hd;rw [envO h3] at this |-;exact (R0.blk i b h3).mono B.ext (R0.bel i b h3) this
   ·by_cases hw : b'.wr = true
    ·rw [if_pos hw] at e;subst e;obtain ⟨n1, n2, n3, n4⟩ := new hi2 hb' hw;exact (R1.blk i b hb').mono (kaj _ _) (R1.bel i b hb') (hrow _ n3)
    ·rw [if_neg hw] at e; subst e; trivial
  ·obtain ⟨_, ⟨h2, h3⟩ | ⟨hi2, b', hb', e⟩⟩ := jbX hi
   ·rcases h3 with ⟨_, rfl⟩ | ⟨hne, h3⟩
    ·cases hw
    ·have hbd : b ≠ .dead := by rintro rfl; cases hw
     obtain ⟨o1, _, _⟩ := old hne h3 hbd;obtain ⟨_, ⟨k2, k3⟩ | ⟨hj2, d', hd', e2⟩⟩ := jbX hj
     ·rcases k3 with ⟨_, rfl⟩ | ⟨hnj, k3⟩
      ·exact absurd rfl hd
      ·rw [envO h3, envO k3]; exact R0.disj i j b d h3 k3 hij hw hd
     ·by_cases hw2 : d'.wr = true
      ·have := (new hj2 hd' hw2).1; omega
      ·rw [if_neg hw2] at e2; exact absurd e2 hd
   ·by_cases hw1 : b'.wr = true
    ·rw [if_pos hw1] at e;subst e;have n1 := (new hi2 hb' hw1).1;obtain ⟨_, ⟨k2, k3⟩ | ⟨hj2, d', hd', e2⟩⟩ := jbX hj
     ·rcases k3 with ⟨_, rfl⟩ | ⟨hnj, k3⟩
      ·exact absurd rfl hd
      ·have := (old hnj k3 hd).1; omega
     ·by_cases hw2 : d'.wr = true
      ·rw [if_pos hw2] at e2; subst e2; exact R1.disj i j b d hb' hd' hij hw hd
      ·rw [if_neg hw2] at e2; exact absurd e2 hd
    ·rw [if_neg hw1] at e; subst e; cases hw
  ·obtain ⟨_, ⟨h2, h3⟩ | ⟨hi2, b', hb', e⟩⟩ := jbX hi
   ·rcases h3 with ⟨_, rfl⟩ | ⟨hne, h3⟩
    ·trivial
    ·exact kam okS (R0.bel i b h3)
   ·by_cases hw : b'.wr = true
    ·rw [if_pos hw] at e; subst e; exact kam okT (R1.bel i b hb')
    ·rw [if_neg hw] at e; subst e; trivial
  ·obtain ⟨_, ⟨h2, h3⟩ | ⟨hi2, b', hb', e⟩⟩ := jbX hi
   ·rcases h3 with ⟨_, rfl⟩ | ⟨hne, h3⟩
    ·cases hw
    ·have hbd : b ≠ .dead := by rintro rfl; cases hw
     rw [envO h3] at x; exact R0.kept i b h3 hw x
   ·by_cases hw1 : b'.wr = true
    ·rw [if_pos hw1] at e;subst e;obtain ⟨n1, n2, _, _⟩ := new hi2 hb' hw1;have := R0.keepLt _ x; omega
    ·rw [if_neg hw1] at e; subst e; cases hw
  ·rw [hsz];exact Nat.lt_of_lt_of_le (R0.keepLt r x) hss
  ·obtain ⟨_, ⟨h2, h3⟩ | ⟨hi2, b', hb', e⟩⟩ := jbX hi
   ·rcases h3 with ⟨_, rfl⟩ | ⟨hne, h3⟩
    ·exact hd rfl
    ·rcases x with x | x
     ·exact oldH hne h3 hd x.1
     ·rw [envO h3] at x; exact R0.hid i b h3 hd (.inr x)
   ·by_cases hw1 : b'.wr = true
    ·rw [if_pos hw1] at e;subst e;rcases x with x | x
     ·exact R1.hid i b hb' hd (.inl x.1)
     ·exact R1.hid i b hb' hd (.inr x)
    ·rw [if_neg hw1] at e; exact hd e
  ·rw [hsz];rcases x with x | x
   ·exact R1.hidLt r (.inl x.1)
   ·exact Nat.lt_of_lt_of_le (R0.hidLt r (.inr x)) hss
 have hse := B.snap.since;have hcw : E.w.heap.size <= ws.heap.size := hse.size;refine ⟨⟨hR, ⟨?_, ?_, ?_, ?_, fun r hr he hn => ?_, fun r x => ?_, fun r he x => ?_⟩, B.snap.ext.trans B.snap.hle B.ext, (B.snap.hle.trans B.hle).trans hleT, B.snap.no, B.snap.no'⟩, hleT, fun i b hi hw x => ?_⟩
 ·rw [hsz]; omega
 ·rw [hos, B.os, hse.os]
 ·rw [htp, B.tape, hse.tape]
 ·rw [hout, B.output, hse.output]
 ·have hnk : ¬ kps.hide r := fun x => (hse.hide' r he x).elim hn fun y => by omega
  have hrc : r ≠ c := fun e => R0.kept ic _ B.chan rfl (.inr (by rw [<- B.hc, <- e]; exact he));rw [hrow r hrc, B.rows r (by omega) hnk hrc, hse.block r hr he hn]
 ·have y := hse.hide r x;refine ⟨B.hide r y, fun t => ?_⟩;have := hT r t;have := R0.hidLt r (.inl y);omega
 ·rcases B.hide' r x.1 with y | y | y
  ·exact hse.hide' r he y
  ·exact absurd (.inr (by rw [<- B.hc, <- y]; exact he)) (R0.kept ic _ B.chan rfl)
  ·exact .inr (by omega)
 ·obtain ⟨_, ⟨h2, h3⟩ | ⟨hi2, b', hb', e⟩⟩ := jbX hi
  ·rcases h3 with ⟨_, rfl⟩ | ⟨hne, h3⟩
   ·cases hw
   ·exact oldH hne h3 (by rintro rfl; cases hw) x
  ·by_cases hw1 : b'.wr = true
   ·exact (new hi2 hb' hw1).2.1 x
   ·rw [if_neg hw1] at e; subst e; cases hw
end
end Go.Ae
namespace Go.Ae
variable {C : Ctx} {h h' H h0 : Heap} {v vp : AV} {p : PlanP} {w w' : World} {env : Env} {kp : Keep} {ops : Array Oper} {st : St} {i m j sz c u : Nat} {l : List Int} {d b a : Int} {cs vs : List AV} {o : Oper} {P : Program}
open Go.Conc
section
variable {C : Ctx} {extra : Keep} {nt : Nat} {E : Ent}
def jjR (g : Gh) (ch : AV) (dst : Option Nat) (K : Gh -> St -> Prop) (st : St) : Prop :=
 match g with
 | .idle => False
 | .busy ic aps hs => ch = .chan ic /\ ∀ A p B, aps = A ++ p :: B ->
   (A ++ B ≠ [] -> K (.busy ic (A ++ B) hs) (St.put { st with h := p.land st.h } dst (p.av st.h.size))) /\
   (A ++ B = [] -> K .idle (St.put { st with h := p.land (hs.thaw ic st.h) } dst (p.av st.h.size)))
theorem jis {α β : Type} {f : α -> β} {l : List α} {A B : List β} {x : β} (h : l.map f = A ++ x :: B) : ∃ A' y B', l = A' ++ y :: B' /\ A'.map f = A /\ f y = x /\ B'.map f = B := by
 obtain ⟨l1, l2, rfl, h1, h2⟩ := List.map_eq_append_iff.1 h;obtain ⟨y, B', rfl, h3, h4⟩ := List.map_eq_cons_iff.1 h2;exact ⟨l1, y, B', rfl, h1, h3, h4⟩
theorem jgN {b : Frame} {a : Act} {ops : Array Oper} {i : Nat} {rest : List Nat} {k : List Item} {cs : List Frame} {o : Oper} {v : Value} (ho : ops[i]? = some o) :
  Conc.served (G (b.atR a (.inRegion ops (i :: rest) :: k)) cs) v = G (b.atR (a.put o.dst v) (.inRegion ops rest :: k)) cs := by
 have : (b.atR a (.inRegion ops (i :: rest) :: k)).finish v = b.atR (a.put o.dst v) (.inRegion ops rest :: k) := by rw [Frame.finish_atR, ho]; rfl
 simp only [Conc.served, G, this]
theorem jnd {g : Gh} {ops : Array Oper} {i : Nat} {o : Oper} {ph : Phase} {kp : Keep} {env : Env} {st : St} {a : Act} {w : World} {K : Gh -> St -> Prop} (S : GSim C extra nt E g ph kp env st a w) (ho : ops[i]? = some o) {dst : Option Nat} {x : AOpd}
  (hl : jal C.P C.inv nt ops o = { dst := dst, op := .comm 1 [x], guard := none }) (h : jjR g (x.ev st.t) dst K st) :
  OpM C.P ops i (fun ph' kp' a' w' => ∃ g' env' st', GSim C extra nt E g' ph' kp' env' st' a' w' /\ K g' st') ph kp a w := by
 obtain ⟨t, ch, d, e, z, hop, ht, hz, hx, rfl, hd, hg⟩ := jkE hl;have hw := jdc hg (yielded ops a.tmps);cases g with
 | idle => exact h.elim
 | busy ic aps hs =>
  obtain ⟨hch, h⟩ := h;obtain ⟨c0, ps, kps, envs, ws, rfl, B⟩ := S;have hcc : (env ic).blk = c0 := by rw [B.ext ic (by simp [Heap.ok, B.chan]), B.hc]
  have hev : a.eval ch = .chan (some c0) := by
   have := (B.sim.opd ch x hx).1;rw [hch] at this;simp only [AV.val, hcc] at this;exact this
  have hzr : ∀ w1 : World, (zeroValue e).run C.P w1 = .ok (z.val C.lk env) w1 := fun w1 => (jhH (w := w1) (env := env) C.lk (fun _ => True) hz).1;have run : ∀ w1, (execOp a.eval o).run C.P w1 = .ok (.comm #[rcase c0 (z.val C.lk env)] true (.recv false)) w1 /\ (execOp a.eval o).events C.P w1 #[] = #[] := by
   intro w1;have hu := run_underlying ht w1;constructor
   ·simp only [execOp, hop, Sem.run_bind, hu, Result.andThen_ok, hzr, hev, Sem.run_pure, rcase]
   ·simp only [execOp, hop, Sem.events_bind, hu, Result.evThen_ok, hzr, events_underlying, events_zeroValue, Sem.events_pure]
  intro Fin pr b rest k cs hro hb hk;have step : ∀ w1, stepG C.P true (G (b.atR a (.inRegion ops (i :: rest) :: k)) cs) w1 = .comm (G (b.atR a (.inRegion ops (i :: rest) :: k)) cs) #[rcase c0 (z.val C.lk env)] true (.recv false) w1 #[] := by
   intro w1;obtain ⟨h1, h2⟩ := run w1;rw [jk5 ho hw (fun c' e => by rw [hop] at e; cases e) hb h1];simp only [evs, h2, seen_none]
  have hne : ps ≠ [] := by rw [B.hps]; intro e; exact B.ne (List.map_eq_nil_iff.1 e)
  by_cases hp : pr
  ·exact .inr hp
  refine .inl (.recv (z.val C.lk env) rfl hne (fun kp1 w1 r => step w1) fun A Φ B' v T kp1 w1 s r e r1 hΦ hT => ?_);rw [jgN ho];rw [B.hps] at e;obtain ⟨A1, p, B1, rfl, hA, rfl, hB⟩ := jis e;have BB := B.rely r1;have hpok : p.Ok := B.ok p (by simp);obtain ⟨hk1, hk2⟩ := h A1 p B1 rfl;have hrow : ∀ q, q ≠ c0 -> (w1.setChan c0 0 #[] false s r false).heap[q]? = w1.heap[q]? := fun q hq => by
   simp only [World.setChan]; exact Array.getElem?_setIfInBounds_ne (Ne.symm hq)
  have hsz : (w1.setChan c0 0 #[] false s r false).heap.size = w1.heap.size := by simp [World.setChan]
  have hTB : ∀ q, T q -> ws.heap.size <= q := by
   intro q hq;obtain ⟨e0, _, hm⟩ := hΦ;cases hb' : p.blk with
   | none => rw [hb'] at hm; exact absurd hq (hm q)
   | some vs => rw [hb'] at hm; rw [(hm.2.2.1 q).1 hq]; exact hm.1
  by_cases hlast : A1 ++ B1 = []
  ·-- the last one
   have hAB : A ++ B' = [] := by rw [<- hA, <- hB]; obtain ⟨h1, h2⟩ := List.append_eq_nil_iff.1 hlast; rw [h1, h2]; rfl
   obtain ⟨hS, hL, hwrT⟩ := BB.thaw (W := w1.setChan c0 0 #[] false s r false) hTB hsz rfl rfl rfl hrow;obtain ⟨env', R', X', L', hv, hbel⟩ := hS.rel.land hpok hΦ fun q hq => by
    obtain ⟨t1, t2, t3⟩ := hT q hq;refine ⟨by rw [hsz]; exact t1, fun y => ?_, fun i b hi hwr e => hwrT i b hi hwr (by rw [e]; exact t2), hrow q t3⟩;rcases y with y | y
    ·exact y.2 hq
    ·have := BB.snap.rel.hidLt q (.inr y); have := hTB q hq; omega
   have s2 := BB.sim.put' hd (h' := p.land (hs.thaw ic st.h)) R' (fun j hj => X' j (hL.ok hj)) (hL.trans L').grow hbel;rw [size_thaw] at hv hbel s2;rw [<- hv] at s2;have hS2 : Snap C extra E _ env' (p.land (hs.thaw ic st.h)) _ := hS.keepJ (kaB _ _ _) R' X' L';have := hk none ⟨kps.no, fun q => kp1.hide q /\ ¬ T q⟩ (a.put o.dst v) _ ⟨.idle, env', _, ⟨rfl, by rw [put_h]; exact hS2, s2⟩, hk2 hlast⟩;have j := this.resolve_right hp;have j2 := j.idx c0 rfl;rw [hAB];have hke : (Keep.both ⟨kps.no, fun q => kp1.hide q /\ ¬ T q⟩) = kp1.take T (([] : List Prom) = []) := kaL (fun q => by simp [Keep.both, Keep.take]) (fun q => by simp [Keep.both, Keep.take])
   rw [hke] at j2;exact j2
  ·have hAB : A ++ B' ≠ [] := by
    rw [<- hA, <- hB]; intro h0;obtain ⟨h1, h2⟩ := List.append_eq_nil_iff.1 h0;exact hlast (by rw [List.map_eq_nil_iff.1 h1, List.map_eq_nil_iff.1 h2]; rfl)
   have hno : ∀ q, (kp1.take T (A ++ B' = [])).no q ↔ kp1.no q /\ ¬ T q := fun q => by simp [Keep.take, hAB]
   have hhi : ∀ q, (kp1.take T (A ++ B' = [])).hide q ↔ kp1.hide q /\ ¬ T q := fun q => by simp [Keep.take]
   have R1 : Rel C ((kp1.take T (A ++ B' = [])).or (extra.below ws.heap.size)) env st.h (w1.setChan c0 0 #[] false s r false) :=
    BB.sim.rel.less (fun q y => y.imp (fun y => ((hno q).1 y).1) id) (fun q y => y.imp (fun y => ((hhi q).1 y).1) id) hsz fun q _ hn => hrow q fun e => hn (.inl (by rw [e]; exact BB.hidec))
   obtain ⟨env', R', X', L', hv, hbel⟩ := R1.land hpok hΦ fun q hq => by
    obtain ⟨t1, t2, t3⟩ := hT q hq;refine ⟨by rw [hsz]; exact t1, fun y => ?_, fun i b hi hwr e => BB.sim.rel.hid i b hi (by rintro rfl; cases hwr) (.inl (by rw [e]; exact t2)), hrow q t3⟩;rcases y with y | y
    ·exact ((hhi q).1 y).2 hq
    ·have := BB.snap.rel.hidLt q (.inr y); have := hTB q hq; omega
   have s2 := BB.sim.put' hd (h' := p.land st.h) R' X' L'.grow hbel;rw [<- hv] at s2;have hg' : GSim C extra nt E (.busy ic (A1 ++ B1) hs) (some (c0, A ++ B')) (kp1.take T (A ++ B' = [])) env' (St.put { st with h := p.land st.h } o.dst (p.av st.h.size)) (a.put o.dst v) (w1.setChan c0 0 #[] false s r false) :=
    ⟨_, _, kps, envs, ws, rfl, BB.snap, s2, hlast, BB.chan, BB.hc, by rw [List.map_append, hA, hB], fun q hq => B.ok q (by
      rcases List.mem_append.1 hq with hq | hq
      ·simp [hq]
      ·simp [hq]),
     BB.ext.trans BB.hle X', by rw [put_h]; exact BB.hle.trans L', fun q hq => (hno q).2 ⟨BB.no q hq, fun t => by have := hTB q t; omega⟩, (hhi _).2 ⟨BB.hidec, fun t => (hT _ t).2.2 rfl⟩,
     fun q y => (hhi q).2 ⟨BB.hide q y, fun t => by have := hTB q t; have := BB.snap.rel.hidLt q (.inl y); omega⟩, fun q y => BB.hide' q ((hhi q).1 y).1,
     fun q hq hn hc => by rw [hrow q hc, BB.rows q hq hn hc], by rw [hsz]; exact BB.size, BB.os, BB.tape, BB.output⟩
   exact (hk _ _ _ _ ⟨_, env', _, hg', hk1 hlast⟩).resolve_right hp
end
end Go.Ae
namespace Go.Ae
variable {C : Ctx} {h h' H h0 : Heap} {v vp : AV} {p : PlanP} {w w' : World} {env : Env} {kp : Keep} {ops : Array Oper} {st : St} {i m j sz c u : Nat} {l : List Int} {d b a : Int} {cs vs : List AV} {o : Oper} {P : Program}
open Go.Conc
def WM (C : Ctx) (nt : Nat) (ac : ACode) (Q : Out -> Gh -> St -> Prop) (g : Gh) (st : St) : Prop :=
 ∀ (c : Code), jab C.P C.inv nt c = ac -> ∀ extra E ph kp env a w, GSim C extra nt E g ph kp env st a w ->
  WpM C.P c (fun o ph' kp' a' w' => ∃ g' env' st', GSim C extra nt E g' ph' kp' env' st' a' w' /\ Q o g' st') ph kp a w
def WMo (C : Ctx) (nt : Nat) (aops : List AOper) (K : Gh -> St -> Prop) (g : Gh) (st : St) : Prop :=
 ∀ (ops : Array Oper) (k : Nat), k <= ops.size -> (ops.toList.drop k).map (jal C.P C.inv nt ops) = aops -> ∀ extra E ph kp env a w, GSim C extra nt E g ph kp env st a w ->
  OpsM C.P ops (List.range' k (ops.size - k)) (fun ph' kp' a' w' => ∃ g' env' st', GSim C extra nt E g' ph' kp' env' st' a' w' /\ K g' st') ph kp a w
section
variable {C : Ctx} {nt : Nat} {Q Q' : Out -> Gh -> St -> Prop} {g : Gh} {st : St}
theorem kaM {ac : ACode} (h : ∀ ph, wp (C.at ph) nt none ac (fun o st' => Q o g st') st) : WM C nt ac Q g st := by
 intro c hc extra E ph kp env a w S;subst hc;exact jmx S (h ph)
theorem jne {inv : FuncId -> Option Nat} {c : Code} {x y : ACode} (h : jab P inv nt c = .seq x y) : ∃ a b, c = .seq a b /\ jab P inv nt a = x /\ jab P inv nt b = y := by
 cases c with
 | seq a b => simp only [jab, ACode.seq.injEq] at h; exact ⟨a, b, rfl, h.1, h.2⟩
 | region id ops d => cases d <;> simp only [jab] at h <;> (repeat' split at h) <;> cases h
 | cond c a b => simp only [jab] at h; split at h <;> cases h
 | rangeFunc f ps a b => simp only [jab] at h; (repeat' split at h) <;> cases h
 | _ => simp [jab] at h
theorem jlU {inv : FuncId -> Option Nat} {c : Code} {id : Nat} {x : ACode} (h : jab P inv nt c = .block id x) : ∃ a, c = .block id a /\ jab P inv nt a = x := by
 cases c with
 | block i a => simp only [jab, ACode.block.injEq] at h; obtain ⟨rfl, h⟩ := h; exact ⟨a, rfl, h⟩
 | region id ops d => cases d <;> simp only [jab] at h <;> (repeat' split at h) <;> cases h
 | cond c a b => simp only [jab] at h; split at h <;> cases h
 | rangeFunc f ps a b => simp only [jab] at h; (repeat' split at h) <;> cases h
 | _ => simp [jab] at h
theorem jmA {inv : FuncId -> Option Nat} {c : Code} {x : ACode} (h : jab P inv nt c = .loop x) : ∃ a, c = .loop a /\ jab P inv nt a = x := by
 cases c with
 | loop a => simp only [jab, ACode.loop.injEq] at h; exact ⟨a, rfl, h⟩
 | region id ops d => cases d <;> simp only [jab] at h <;> (repeat' split at h) <;> cases h
 | cond c a b => simp only [jab] at h; split at h <;> cases h
 | rangeFunc f ps a b => simp only [jab] at h; (repeat' split at h) <;> cases h
 | _ => simp [jab] at h
theorem jkF {inv : FuncId -> Option Nat} {c : Code} {l : List AOper} (h : jab P inv nt c = .region l) : ∃ id ops, c = .region id ops false /\ ops.toList.map (jal P inv nt ops) = l := by
 cases c with
 | region id ops d =>
  cases d with
  | false => simp only [jab, ACode.region.injEq] at h; exact ⟨id, ops, rfl, h⟩
  | true => simp only [jab] at h; (repeat' split at h) <;> cases h
 | cond c a b => simp only [jab] at h; split at h <;> cases h
 | rangeFunc f ps a b => simp only [jab] at h; (repeat' split at h) <;> cases h
 | _ => simp [jab] at h
theorem kaQ {x y : ACode} (h : WM C nt x (fun o g' st' => match o with | .normal => WM C nt y Q g' st' | o => Q o g' st') g st) : WM C nt (.seq x y) Q g st := by
 intro c hc extra E ph kp env a w S;obtain ⟨x', y', rfl, hx, hy⟩ := jne hc;refine jnt (jf1 (h x' hx extra E ph kp env a w S) ?_);rintro o ph' kp' a' w' ⟨g', env', st', S', q⟩;cases o with
 | normal => exact q y' hy extra E ph' kp' env' a' w' S'
 | exit id => exact ⟨g', env', st', S', q⟩
 | ret => exact ⟨g', env', st', S', q⟩
theorem kaP {id : Nat} {x : ACode} (h : WM C nt x (fun o g' st' => match o with | .exit id' => if id' = id then Q .normal g' st' else Q (.exit id') g' st' | o => Q o g' st') g st) : WM C nt (.block id x) Q g st := by
 intro c hc extra E ph kp env a w S;obtain ⟨x', rfl, hx⟩ := jlU hc;refine jmw (jf1 (h x' hx extra E ph kp env a w S) ?_);rintro o ph' kp' a' w' ⟨g', env', st', S', q⟩;cases o with
 | normal => exact ⟨g', env', st', S', q⟩
 | ret => exact ⟨g', env', st', S', q⟩
 | exit id' =>
  dsimp only at q |-;by_cases e : id' = id
  ·rw [if_pos e] at q |-; exact ⟨g', env', st', S', q⟩
  ·rw [if_neg e] at q |-; exact ⟨g', env', st', S', q⟩
theorem ka9 {x : ACode} (I : Nat -> Gh -> St -> Prop) {j0 : Nat} (h0 : I j0 g st) (round : ∀ j g' st', I j g' st' -> WM C nt x (fun o g2 st2 => match o with | .normal => ∃ i, i < j /\ I i g2 st2 | o => Q o g2 st2) g' st') : WM C nt (.loop x) Q g st := by
 intro c hc extra E ph kp env a w S;obtain ⟨x', rfl, hx⟩ := jmA hc;refine jnc (fun j ph kp a w => ∃ g' env' st', GSim C extra nt E g' ph kp env' st' a w /\ I j g' st') ⟨g, env, st, S, h0⟩ ?_;rintro j ph kp a w ⟨g', env', st', S', hI⟩;refine jf1 (round j g' st' hI x' hx extra E ph kp env' a w S') ?_;rintro o ph' kp' a' w' ⟨g2, env2, st2, S2, q⟩;cases o with
 | normal => obtain ⟨i, hi, q⟩ := q; exact ⟨i, hi, g2, env2, st2, S2, q⟩
 | exit id => exact ⟨g2, env2, st2, S2, q⟩
 | ret => exact ⟨g2, env2, st2, S2, q⟩
theorem kaR {l : List AOper} (h : WMo C nt l (Q .normal) g st) : WM C nt (.region l) Q g st := by
 intro c hc extra E ph kp env a w S;obtain ⟨id, ops, rfl, hl⟩ := jkF hc;refine jlS ?_;rw [List.range_eq_range'];exact h ops 0 (Nat.zero_le _) (by simpa using hl) extra E ph kp env a w S
theorem ka0 {K : Gh -> St -> Prop} (h : K g st) : WMo C nt [] K g st := by
 intro ops k hk hl extra E ph kp env a w S;have : ops.size - k = 0 := by
  have := congrArg List.length hl;simp at this; omega
 rw [this];exact jnu ⟨g, env, st, S, h⟩
theorem jf5 {k : Nat} {f : Oper -> AOper} {o : AOper} {os : List AOper} (h : (ops.toList.drop k).map f = o :: os) : ∃ x, ops[k]? = some x /\ f x = o /\ (ops.toList.drop (k + 1)).map f = os /\ k + 1 <= ops.size /\ ops.size - k = (ops.size - (k + 1)) + 1 := by
 have hlt : k < ops.size := by
  rcases Nat.lt_or_ge k ops.size with x | x
  ·exact x
  ·rw [List.drop_of_length_le (by simpa using x)] at h; cases h
 rw [List.drop_eq_getElem_cons (by simpa using hlt), List.map_cons, List.cons.injEq] at h;exact ⟨ops[k], Array.getElem?_eq_getElem hlt, by simpa using h.1, h.2, hlt, by omega⟩
theorem kbg {K : Gh -> St -> Prop} {o : AOper} {os : List AOper} (hg : o.guard = none) (h : ∀ ph, wpOp (C.at ph) none o (fun st' => WMo C nt os K g st') st) : WMo C nt (o :: os) K g st := by
 intro ops k hk hl extra E ph kp env a w S;obtain ⟨x, hx, he, htl, hk1, hsz⟩ := jf5 hl;rw [hsz, List.range'_succ];refine jjb ?_;have hw : Region.wanted x (yielded ops a.tmps) = true := by
  rcases jcz (P := C.P) (inv := C.inv) (nt := nt) (ops := ops) (o := x) with ⟨s, hs⟩ | ⟨g', hg', hge, _, _⟩
  ·exfalso;rw [<- he, hs] at h;exact jhT (h ph)
  ·rw [he, hg] at hge;subst hge;refine jdc ?_ _;cases hgx : x.guard with
   | none => rfl
   | some jw =>
    obtain ⟨j, want⟩ := jw;rw [hgx] at hg';simp only [jbB] at hg';split at hg' <;> cases hg'
 refine jf2 (jmy S hx hw (by rw [he]; exact h ph)) ?_;rintro ph' kp' a' w' ⟨g', env', st', S', q⟩;exact q ops (k + 1) hk1 htl extra E ph' kp' env' a' w' S'
theorem kbp {K : Gh -> St -> Prop} {dst : Option Nat} {f : AOpd} {xs : List AOpd} {os : List AOper} (h : wpGo C g (f.ev st.t) (xs.map (·.ev st.t)) dst (WMo C nt os K) st) : WMo C nt ({ dst := dst, op := .comm 0 (f :: xs), guard := none } :: os) K g st := by
 intro ops k hk hl extra E ph kp env a w S;obtain ⟨x, hx, he, htl, hk1, hsz⟩ := jf5 hl;rw [hsz, List.range'_succ];refine jjb (jf2 (om_go S hx he h) ?_);rintro ph' kp' a' w' ⟨g', env', st', S', q⟩;exact q ops (k + 1) hk1 htl extra E ph' kp' env' a' w' S'
theorem kbf {K : Gh -> St -> Prop} {dst : Option Nat} {x : AOpd} {os : List AOper} (h : jjR g (x.ev st.t) dst (WMo C nt os K) st) : WMo C nt ({ dst := dst, op := .comm 1 [x], guard := none } :: os) K g st := by
 intro ops k hk hl extra E ph kp env a w S;obtain ⟨o, hx, he, htl, hk1, hsz⟩ := jf5 hl;rw [hsz, List.range'_succ];refine jjb (jf2 (jnd S hx he h) ?_);rintro ph' kp' a' w' ⟨g', env', st', S', q⟩;exact q ops (k + 1) hk1 htl extra E ph' kp' env' a' w' S'
theorem jkG {gi : Nat} {b : ABody} (hbody : C.body gi = some b) {args : List AV} (hargs : args.length <= b.ntmps) {h : Heap} {Post : AV -> Heap -> Prop}
  (hwp : WM C b.ntmps b.code (fun o g st => g = .idle /\ retO b.res Post o st) .idle ⟨argT args, h, []⟩) : ACalls C.main0 gi args h Post := by
 unfold Ctx.body jgO at hbody;split at hbody
 ·rename_i fn hf;split at hbody
  ·cases hbody
  ·rename_i hname;split at hbody
   ·rename_i c rs hc hrs;cases hbody;refine ⟨?_, ?_⟩
    ·intro args w;show (callFunc (C.lk gi) args).run C.P w = .ok (.enter (C.lk gi) args) w /\ ∀ es, (callFunc (C.lk gi) args).events C.P w es = es;refine ⟨by simp [callFunc, hf, hname, hc, mark], fun es => ?_⟩;simp [callFunc, Sem.events_bind, hf, hname, hc, Result.evThen]
    ·intro extra kp env w R0 hbel J hJ cs hk;have R : Rel C (kp.or extra) env h w := ⟨R0.1, R0.2, R0.3, R0.4, R0.5, R0.6, R0.7, R0.8⟩;have S : Sim C (kp.or extra) fn.ntmps env ⟨argT args, h, []⟩ { tmps := (args.map (AV.val C.lk env)).toArray ++ Array.replicate (fn.ntmps - (args.map (AV.val C.lk env)).toArray.size) undef, defers := [] } w := by
      have hsz : (args.map (AV.val C.lk env)).toArray.size = args.length := by simp
      refine ⟨?_, ?_, ?_, rfl, by simp, R⟩
      ·have : args.length <= fn.ntmps := hargs;simp; omega
      ·intro s;rw [Array.getD_eq_getD_getElem?, Array.getElem?_append, hsz];simp only [argT, List.getD_eq_getElem?_getD];by_cases hs : s < args.length
       ·rw [if_pos hs]; simp [hs]
       ·rw [if_neg hs, List.getElem?_eq_none (by omega)];simp only [Option.getD_none, Array.getElem?_replicate];split <;> rfl
      ·intro s;simp only [argT, List.getD_eq_getElem?_getD];cases hs : args[s]? with
       | none => trivial
       | some v => exact hbel v (List.mem_of_getElem? hs)
     let b : Frame := { (default : Frame) with fn := C.lk gi, kind := .normal, roundOf := none }
     have henter : Frame.enter C.P (C.lk gi) (args.map (AV.val C.lk env)).toArray .normal =
       b.atR { tmps := (args.map (AV.val C.lk env)).toArray ++ Array.replicate (fn.ntmps - (args.map (AV.val C.lk env)).toArray.size) undef, defers := [] } [.code c] := by
      simp [Frame.enter, Frame.atR, hf, hc, b]
     show J kp (G (Frame.enter C.P (C.lk gi) (args.map (AV.val C.lk env)).toArray .normal) cs) w;rw [henter];obtain ⟨Fin, p, rfl⟩ := hJ;have hJ : C.main0.fam (MJ0 C.P Fin p) := ⟨Fin, p, rfl⟩;have HS : GSim C extra fn.ntmps ⟨kp, env, h, w⟩ .idle none kp env ⟨argT args, h, []⟩ { tmps := (args.map (AV.val C.lk env)).toArray ++ Array.replicate (fn.ntmps - (args.map (AV.val C.lk env)).toArray.size) undef, defers := [] } w :=
      ⟨rfl, ⟨R, ⟨Nat.le_refl _, rfl, rfl, rfl, fun _ _ _ _ => rfl, fun _ h => h, fun _ _ h => .inl h⟩, kaj _ _, kas _, fun _ h => h, fun _ h => .inl h⟩, S⟩
     have H := hwp c rfl extra ⟨kp, env, h, w⟩ none kp env _ w HS;refine H Fin p b [] cs rfl (by simp [b]) ?_;rintro o ph' kp' a' w' ⟨g', env', st', S', rfl, hret⟩;obtain ⟨rfl, hSn, hs⟩ := S';have hKJ : KeepJ kp extra w kp' w' := ⟨hSn.since.size, hSn.since.os, hSn.since.tape, hSn.since.output, hSn.since.block, hSn.no, hSn.no', hSn.since.hide, hSn.since.hide'⟩;have hX : Ext h env env' := hSn.ext;have hL : HLe h st'.h := hSn.hle;have s0 : Sim C.main0 (kp'.or extra) fn.ntmps env' st' a' w' := jir (ph := none) hs;have fin : ∀ todo, (∃ h1 vs, jaZ st'.h st'.m = some h1 /\ resA st'.t h1 rs = some vs /\ Post (retA vs) h1) -> MJ0 C.P Fin p kp' (G { b.atR a' todo with mode := .returning } cs) w' := by
      rintro todo ⟨h1, vs, hcm, hres, hP⟩;refine jdq (C := C.main0) hJ st'.m rfl s0.defers s0.rel hcm fun kp1 w1 R1 K1 => ?_;have hl1 := jc5 _ _ _ hcm;have hbel1 : ∀ s, (st'.t s).bel h1.ok := fun s => bel_mono (fun i hi => hl1.ok hi) _ (s0.bel s);have q := jbt (C := C.main0) (tmps := a'.tmps) R1 s0.tmps hbel1 hrs hres;refine hk kp1 ((retA vs).val C.lk env') w1 _ ⟨env', _, h1, rfl, hP, R1, hKJ.trans K1, hX, hL.trans hl1, q.2⟩ ⟨rfl, rfl, rfl, rfl, fn, hf, fun kp2 w2 r2 => ?_⟩;have R2 := R1.rely r2;exact ⟨(jbt (C := C.main0) (tmps := a'.tmps) R2 s0.tmps hbel1 hrs hres).1, fun e he => (jdL (C := C.main0) (tmps := a'.tmps) R2 s0.tmps hbel1 hrs hres e he).part⟩
     have un : ∀ {o}, (∀ id, o ≠ .exit id) -> retO rs Post o st' -> ∃ h1 vs, jaZ st'.h st'.m = some h1 /\ resA st'.t h1 rs = some vs /\ Post (retA vs) h1 := by
      intro o ho hr;have hr' : match jaZ st'.h st'.m with
       | some h1 => match resA st'.t h1 rs with
        | some vs => Post (retA vs) h1
        | none => False
       | none => False := by
       cases o with
       | exit id => exact absurd rfl (ho id)
       | normal => exact hr
       | ret => exact hr
      split at hr'
      ·rename_i h1 e1;split at hr'
       ·rename_i vs e2; exact ⟨h1, vs, e1, e2, hr'⟩
       ·exact hr'.elim
      ·exact hr'.elim
     cases o with
     | normal => exact jdA.ctl rfl rfl (fun _ => jk4 rfl) (fin [] (un (by intro id h; cases h) hret))
     | ret => exact fun k2 => jdA.ctl rfl rfl (fun _ => jmG rfl) (fin _ (un (by intro id h; cases h) hret))
     | exit id => exact hret.elim
   ·cases hbody
 ·cases hbody
end
end Go.Ae
namespace Go.Ae
variable {C : Ctx} {h h' H h0 : Heap} {v vp : AV} {p : PlanP} {w w' : World} {env : Env} {kp : Keep} {ops : Array Oper} {st : St} {i m j sz c u : Nat} {l : List Int} {d b a : Int} {cs vs : List AV} {o : Oper} {P : Program}
open Go.Conc
structure WIn (C : Ctx) (nt : Nat) (ic c B : Nat) (kp : Keep) (env : Env) (st : St) (a : Act) (w : World) (b : Frame) (cs : List Frame) : Prop where
 sim : Sim C (kp.or kao) nt env st a w
 ok : st.h.ok ic
 hc : (env ic).blk = c
 no : ∀ r, r < B -> kp.no r
 ro : b.roundOf = none
 kind : b.kind ≠ .early
 quit : ∀ a' : Act, a'.defers = [] -> ∃ n, QuitsIn C.P n (G (b.atR a' []) cs)
def WW (C : Ctx) (p : AProm) (ic nt : Nat) (ac : ACode) (st : St) : Prop :=
 ∀ code, jab C.P C.inv nt code = ac -> ∀ c B kp env a w b cs, WIn C nt ic c B kp env st a w b cs -> JW C.P c (p.prom C.lk B) kp (G (b.atR a [.code code]) cs) w
def jlV (p : AProm) (ic : Nat) (x y : AOpd) (st : St) : Prop :=
 st.m = [] /\ x.ev st.t = .chan ic /\ ∃ n, y.ev st.t = p.av n /\ ∀ vs, p.blk = some vs -> ∃ u, st.h.get n = some (.cells vs true u)
section
variable {C : Ctx} {p : AProm} {ic nt : Nat} {st : St}
theorem jmB {Φ : Prom} {keep : Keep} {a : Act} (h : Sim C keep nt env st a w) : Sim (C.work c Φ) keep nt env st a w := ⟨h.size, h.tmps, h.bel, h.defers, h.marks, h.rel.1, h.rel.2, h.rel.3, h.rel.4, h.rel.5, h.rel.6, h.rel.7, h.rel.8⟩
theorem jjc {Φ : Prom} {keep : Keep} {a : Act} (h : Sim (C.work c Φ) keep nt env st a w) : Sim C keep nt env st a w := ⟨h.size, h.tmps, h.bel, h.defers, h.marks, h.rel.1, h.rel.2, h.rel.3, h.rel.4, h.rel.5, h.rel.6, h.rel.7, h.rel.8⟩
theorem WIn.far {B : Nat} {Φ : Prom} {kp' : Keep} {env' : Env} {st' : St} {a a' : Act} {b : Frame} {cs : List Frame} (I : WIn C nt ic c B kp env st a w b cs) (F : Far (C.work c Φ) kao nt kp env st w kp' env' st' a' w') : WIn C nt ic c B kp' env' st' a' w' b cs :=
 ⟨jjc F.sim, F.grow.same _ I.ok, by rw [F.ext ic I.ok]; exact I.hc, fun r hr => F.keepJ.no r (I.no r hr), I.ro, I.kind, I.quit⟩
theorem jkH {ops : Array Oper} {o : Oper} {dst : Option Nat} {x y : AOpd} (h : jal C.P C.inv nt ops o = { dst := dst, op := .comm 2 [x, y], guard := none }) :
  ∃ ch v, o.op = .send ch v /\ lowerOpd C.inv ch = some x /\ lowerOpd C.inv v = some y /\ o.dst = dst /\ o.guard = none := by
 unfold jal at h;split at h
 ·rename_i aop g h1 h2 h3;simp only [AOper.mk.injEq] at h;obtain ⟨hd, rfl, rfl⟩ := h;have hg : o.guard = none := by
   cases hg : o.guard with
   | none => rfl
   | some jw =>
    obtain ⟨j, want⟩ := jw;rw [hg] at h3;simp only [jbB] at h3;split at h3 <;> cases h3
  cases hop : o.op with
  | send ch v =>
   rw [hop] at h1;simp only [lowerOp] at h1;split at h1
   ·rename_i c' x' hc hx;cases h1;exact ⟨ch, v, rfl, hc, hx, hd, hg⟩
   ·cases h1
  | call c =>
   exfalso;rw [hop] at h1;have h1' : jaX C.P C.inv c = some (.comm 2 [x, y]) := h1;unfold jaX at h1';split at h1'
   ·split at h1'
    ·simp only [Option.map_eq_some_iff] at h1'; obtain ⟨_, _, h1'⟩ := h1'; cases h1'
    ·unfold jaR at h1'
     repeat' split at h1'
     all_goals first
      | (cases h1'; done)
      | (simp only [Option.map_eq_some_iff] at h1'; obtain ⟨_, _, h1'⟩ := h1'; cases h1'; done)
    ·cases h1'
   ·cases h1'
  | makeFunc fn x y =>
   exfalso;rw [hop] at h1;cases fn <;> simp only [lowerOp] at h1;all_goals first | (cases h1; done) | ((repeat' split at h1) <;> cases h1; done)
  | makeMap _ r => exfalso; rw [hop] at h1; cases r <;> simp only [lowerOp, lowerMap] at h1 <;> (repeat' split at h1) <;> cases h1
  | mapUpdate _ _ _ _ => exfalso; rw [hop] at h1; simp only [lowerOp, lowerMap] at h1; (repeat' split at h1) <;> first | (cases h1; done) | (simp only [Option.map_eq_some_iff] at h1; obtain ⟨_, _, h1⟩ := h1; cases h1; done)
  | insert _ _ _ _ => exfalso; rw [hop] at h1; simp only [lowerOp, lowerMap] at h1; (repeat' split at h1) <;> first | (cases h1; done) | (simp only [Option.map_eq_some_iff] at h1; obtain ⟨_, _, h1⟩ := h1; cases h1; done)
  | lookup _ _ _ _ => exfalso; rw [hop] at h1; simp only [lowerOp, lowerMap] at h1; (repeat' split at h1) <;> first | (cases h1; done) | (simp only [Option.map_eq_some_iff] at h1; obtain ⟨_, _, h1⟩ := h1; cases h1; done)
  | _ =>
   exfalso;rw [hop] at h1
   first
    | (simp only [lowerOp] at h1; (repeat' split at h1) <;> first | (cases h1; done) | (simp only [Option.map_eq_some_iff] at h1; obtain ⟨_, _, h1⟩ := h1; cases h1; done))
    | (unfold lowerOp at h1; simp only [jbk, jaC] at h1; (repeat' split at h1) <;> first | (cases h1; done) | (simp only [Option.map_eq_some_iff] at h1; obtain ⟨_, _, h1⟩ := h1; cases h1; done))
 ·cases h
theorem jkI (hp : p.Ok) {ops : Array Oper} {i : Nat} {o : Oper} {dst : Option Nat} {x y : AOpd} (ho : ops[i]? = some o) (hl : jal C.P C.inv nt ops o = { dst := dst, op := .comm 2 [x, y], guard := none }) (hS : jlV p ic x y st)
  {c B : Nat} {kp : Keep} {env : Env} {a : Act} {w : World} {b : Frame} {cs : List Frame} (I : WIn C nt ic c B kp env st a w b cs) : JW C.P c (p.prom C.lk B) kp (G (b.atR a [.inRegion ops [i]]) cs) w := by
 obtain ⟨ch, v, hop, hx, hy, rfl, hg⟩ := jkH hl;obtain ⟨hm, hch, n, hv, hblk⟩ := hS;have hw := jdc hg (yielded ops a.tmps);have hev : a.eval ch = .chan (some c) := by
  have := (I.sim.opd ch x hx).1;rw [hch] at this;simp only [AV.val, I.hc] at this;exact this
 have hvv : a.eval v = (p.av n).val C.lk env := by rw [(I.sim.opd v y hy).1, hv]
 have hd0 : a.defers = [] := by rw [I.sim.defers, hm]; rfl
 have step : ∀ w1, stepG C.P false (G (b.atR a [.inRegion ops [i]]) cs) w1 = .comm (G (b.atR a [.inRegion ops [i]]) cs) #[scase c ((p.av n).val C.lk env) (.tuple #[])] true .send w1 #[] := by
  intro w1;have h1 : (execOp a.eval o).run C.P w1 = .ok (.comm #[scase c ((p.av n).val C.lk env) (.tuple #[])] true .send) w1 := by
   simp only [execOp, hop, Sem.run_pure, hev, hvv, scase]
  have h2 : (execOp a.eval o).events C.P w1 #[] = #[] := by simp only [execOp, hop, Sem.events_pure]
  rw [jk5 ho hw (fun c' e => by rw [hop] at e; cases e) I.kind h1];simp only [evs, h2, seen_none]
 obtain ⟨m, hq⟩ := I.quit (a.put o.dst undef) (by cases o.dst <;> exact hd0);refine .send ((p.av n).val C.lk env) (.tuple #[]) (fun r => p.blk ≠ none /\ r = (env n).blk) (m + 1) rfl (fun kp1 w1 _ => step w1) (fun kp1 w1 r => ?_) (fun r hr => ?_) ?_
 ·refine ⟨env n, hp.shift _ _ _, ?_⟩;have R1 := (I.sim.rely r).rel;cases hb : p.blk with
  | none => exact fun r hr => hr.1 rfl
  | some vs =>
   obtain ⟨u, hu⟩ := hblk vs hb;have hk : ¬ kp.no (env n).blk := fun x => I.sim.rel.kept n _ hu rfl (.inl x);refine ⟨?_, R1.lt n _ hu, fun r => by simp, fun k v hkv => ?_⟩
   ·rcases Nat.lt_or_ge (env n).blk B with z | z
    ·exact absurd (I.no _ z) hk
    ·exact z
   ·rw [R1.cell hu hkv];congr 1;exact jdj (fun _ h => h.elim) v (hp.cells vs hb v (List.mem_of_getElem? hkv))
 ·obtain ⟨hb, rfl⟩ := hr;cases hbb : p.blk with
  | none => exact absurd hbb hb
  | some vs =>
   obtain ⟨u, hu⟩ := hblk vs hbb;exact ⟨I.sim.rel.lt n _ hu, fun x => I.sim.rel.kept n _ hu rfl (.inl x)⟩
 ·rw [jgN ho];exact QuitsIn.ctl rfl (fun w => jc3) hq
end
end Go.Ae
namespace Go.Ae
variable {C : Ctx} {h h' H h0 : Heap} {v vp : AV} {p : PlanP} {w w' : World} {env : Env} {kp : Keep} {ops : Array Oper} {st : St} {i m j sz c u : Nat} {l : List Int} {d b a : Int} {cs vs : List AV} {o : Oper} {P : Program}
open Go.Conc
section
variable {C : Ctx} {p : AProm} {ic nt : Nat} {st : St}
theorem jf6 {ms : List Nat} {os : List AOper} : ∀ {ys : List Nat}, jgp ms os ys = true -> ys.Pairwise fun x y => (ms.getD y 0).testBit x = true \/ pairB (os.getD x default) (os.getD y default) = true
 | [], _ => .nil
 | x :: ys, h => by
  simp only [jgp, Bool.and_eq_true, List.all_eq_true] at h;refine .cons (fun y hy => ?_) (jf6 h.2);have := h.1 y hy;simpa only [Bool.or_eq_true] using this
theorem jmC {inv : FuncId -> Option Nat} {c : Code} {n : Nat} {l : List DItem} (h : jab P inv nt c = .draw n l) : ∃ id ops, c = .region id ops true /\ jbY P inv nt ops = some (n, l) := by
 cases c with
 | region id ops d =>
  cases d with
  | false => simp [jab] at h
  | true =>
   simp only [jab] at h;split at h
   ·rename_i n' l' hd;cases h;exact ⟨id, ops, rfl, hd⟩
   ·cases h
 | cond c a b => simp only [jab] at h; split at h <;> cases h
 | rangeFunc f ps a b => simp only [jab] at h; (repeat' split at h) <;> cases h
 | _ => simp [jab] at h
theorem jkJ {ops : Array Oper} {n : Nat} {l : List DItem} {d : DItem} (h : jbY C.P C.inv nt ops = some (n, l ++ [d])) (hc : cls d.o.op = 6) :
  (∀ x ∈ l, ((masks ops).getD d.k 0).testBit x.k = true) /\ (∀ x ∈ l, x.k ≠ d.k) := by
 have I := jbV h;have hrows := List.pairwise_append.1 I.rows;refine ⟨fun x hx => ?_, fun x hx => (hrows.2.2 x hx d (by simp)).1⟩;unfold jbY at h;dsimp only at h;split at h
 ·rename_i hcc;obtain ⟨h1, h2, h3, h4, h5⟩ := hcc;simp only [Option.some.injEq, Prod.mk.injEq] at h;obtain ⟨_, hl⟩ := h;have hp := jf6 h5;have keys : ∀ (os : List AOper) (ys ahead : List Nat), (jbF (masks ops) os ahead ys).map (·.1) = ys := by
   intro os ys
   induction ys with
   | nil => intro a; rfl
   | cons y ys ih => intro a; simp [jbF, ih]
  have hk := congrArg (List.map (·.k)) hl;rw [List.map_map] at hk;have hk2 : greedy (masks ops) (ops.toList.map (jal C.P C.inv nt ops)) (ops.toList.map (jal C.P C.inv nt ops)).length 0 = (l ++ [d]).map (·.k) := by
   rw [<- hk];exact (keys _ _ []).symm
  rw [hk2, List.map_append] at hp;have hp2 := (List.pairwise_append.1 hp).2.2 x.k (List.mem_map.2 ⟨x, hx, rfl⟩) d.k (by simp);rcases hp2 with hm | hpr
  ·exact hm
  ·exfalso;have hdo : d.o = (ops.toList.map (jal C.P C.inv nt ops)).getD d.k default := by
    have hd : d ∈ l ++ [d] := by simp
    rw [<- hl] at hd;obtain ⟨q, _, rfl⟩ := List.mem_map.1 hd;rfl
   simp only [pairB, Bool.and_eq_true, bne_iff_ne] at hpr;rw [<- hdo] at hpr;exact hpr.1.2 hc
 ·cases h
theorem kbj (hp : p.Ok) {n k : Nat} {mem : Bool} {ck : List Nat} {dst : Option Nat} {x y : AOpd} {l : List DItem} (h : ∀ c Φ, jeW (C.work c Φ) n l (fun st' => jlV p ic x y st') st) :
  WW C p ic nt (.draw n (l ++ [{ k := k, mem := mem, ck := ck, o := { dst := dst, op := .comm 2 [x, y], guard := none } }])) st := by
 intro code hcode c B kp env a w b cs I;obtain ⟨id, ops, rfl, hd⟩ := jmC hcode;have IT := jbV hd;obtain ⟨hmask, hne⟩ := jkJ hd rfl;obtain ⟨os, hos, hlo⟩ := IT.src _ (List.mem_append_right l (List.mem_singleton.2 rfl));dsimp only at hos hlo hmask hne;have hks : k < ops.size := (Array.getElem?_eq_some_iff.1 hos).1;have htail : jlf ops (some k) := by
  intro s hs;cases hs;refine ⟨hks, fun j hj hjk => ?_⟩;obtain ⟨d, hdm, rfl⟩ := IT.cover j hj;rcases List.mem_append.1 hdm with hm | hm
  ·exact hmask d hm
  ·rw [List.mem_singleton] at hm; subst hm; exact absurd rfl hjk
 let J := JW C.P c (p.prom C.lk B)
 have hcl := jfm C.P c (p.prom C.lk B)
 -- how an operation is carried out here
 let op : Doing := fun i K kp a w => ∀ rest, (i = k -> rest = []) -> (∀ kp' a' w', K kp' a' w' -> J kp' (G (b.atR a' [.inRegion ops rest]) cs) w') -> J kp (G (b.atR a [.inRegion ops (i :: rest)]) cs) w
 have hop : ∀ i K kp a w, some k ≠ some i -> OpJ (C.work c (p.prom C.lk B)) none ops i K kp a w -> op i K kp a w := fun i K kp a w _ ho rest _ hk => ho _ (.inl rfl) b rest [] cs I.ro I.kind hk;have hmono : ∀ i (K K' : Keep -> Act -> World -> Prop) kp a w, (∀ kp a w, K kp a w -> K' kp a w) -> op i K kp a w -> op i K' kp a w := fun i K K' kp a w hm ho rest hr hk => ho rest hr fun kp' a' w' q => hk kp' a' w' (hm _ _ _ q);have IT' : Items (C.work c (p.prom C.lk B)) nt ops n (l ++ [{ k := k, mem := mem, ck := ck, o := { dst := dst, op := .comm 2 [x, y], guard := none } }]) := jbV (C := C.work c (p.prom C.lk B)) hd
 have H := jh1 (C := C.work c (p.prom C.lk B)) (extra := kao) none (some k) htail (op := op) hop hmono IT' (l' := l) (List.sublist_append_left _ _)
  (fun d hdm => by
   rcases List.mem_append.1 hdm with hm | hm
   ·exact .inl hm
   ·rw [List.mem_singleton] at hm; subst hm; exact .inr rfl)
  (fun d hdm e => by cases e; exact hne d hdm rfl) (by have := IT.len; simpa using this) (Q := fun _ _ _ => False) (h c _) (jmB I.sim)
  (fun kp' env' st' a' w' F _ _ hS => ⟨fun e => (by cases e), fun s e => by
   cases e;intro rest hr _;rw [hr rfl];exact jkI hp hos hlo hS (I.far F)⟩)
 -- every order
 have sound : ∀ (fuel t : Nat) (listed : Array Bool) (kp : Keep) (a : Act) (w : World), AnyJ op (some k) ops (fun _ _ _ => False) fuel listed kp a w -> J kp (G (b.atR a [.inRegion ops (Region.linearise.go .any ops fuel t listed [])]) cs) w := by
  intro fuel
  induction fuel with
  | zero => intro t listed kp a w h; exact h.2.elim
  | succ fuel ih =>
   intro t listed kp a w h;obtain ⟨h₀, h₁⟩ := h;rcases jco (ops := ops) fuel t listed with ⟨hr, e⟩ | ⟨i, t', hi, e⟩
   ·exact (h₀ hr).elim
   ·rw [e];obtain ⟨ho, h2⟩ := h₁ i hi;exact h2 _ (fun hik => jgi (ho (by rw [hik])) _ _) fun kp' a' w' q => ih _ _ _ _ _ q
 refine hcl.go rfl fun kp1 w1 r => ⟨_, _, _, jdK, rfl, ⟨rfl, rfl, rfl, Nat.le_refl _, fun _ _ => rfl⟩, fun e he => (by simp at he), ?_⟩;refine hcl.rely ?_ (r.at _);have hm : C.P.follows .mixedOrders = true := C.mixed;simp only [Region.schedule, hm, Bool.true_or, if_true];exact sound _ _ _ _ _ _ H
def je3 (P : Program) : Frame := { (default : Frame) with fn := P.funcs.size, defers := [], mode := .panicking [goexitEntry] }
theorem jnf {P : Program} {f : FuncId} {cap args : Array Value} {w : World} (h : ∀ zas w, (callFunc f zas).run P w = .ok (.enter f zas) w /\ ∀ es, (callFunc f zas).events P w es = es) :
  stepG P false (born P { target := .fn (.func f) cap, args := args }) w = .go (G (Frame.enter P f (args ++ cap) .deferred) [je3 P]) w #[] := by
 have h1 : (invoke (.fn (.func f) cap) args).run P w = .ok (.enter f (args ++ cap)) w := by simp only [invoke]; exact (h _ w).1
 have h2 : (invoke (.fn (.func f) cap) args).events P w #[] = #[] := by simp only [invoke]; exact (h _ w).2 #[]
 simp [born, stepG, unwind, callDeferred, Sem.runT_eq, h1, h2, GStep.after, G, je3, seen_none]
theorem jlW (P : Program) : QuitsIn P 1 (G (je3 P) []) := by
 refine .inr ⟨rfl, { frame := je3 P, callers := [], status := .finished, dying := none }, fun w => ?_, rfl⟩;have h : (default : Frame).todo = [] := rfl;simp [G, je3, stepG, unwind, Frame.catches, goexitEntry, h]
theorem jng {fn : Func} {b : Frame} {a : Act} (hf : P.funcs[b.fn]? = some fn) (hr : fn.results = #[]) (hk : b.kind = .deferred) (hro : b.roundOf = none) (hd : a.defers = []) : ∃ n, QuitsIn P n (G (b.atR a []) [je3 P]) := by
 refine ⟨3, QuitsIn.ctl rfl (fun w => jk4 hro) ?_⟩;refine QuitsIn.ctl (g' := G (je3 P) []) rfl (fun w => ?_) (jlW P);have h1 := results_none hr a.tmps P w;have h2 := events_results_none (P := P) (w := w) hr a.tmps;simp [G, stepG, unwind, Frame.atR, hd, hf, Sem.runT_eq, h1, h2, doReturn, hk, GStep.after, je3, goexitEntry, seen_none]
theorem jkK (hp : p.Ok) {gw : Nat} {b : ABody} (hbody : C.body gw = some b) (hres : b.res = []) {first args cap : List AV} (hargs : (first ++ args ++ cap).length <= b.ntmps) {h : Heap} (hic : h.ok ic)
  (hw : WW C p ic b.ntmps b.code ⟨argT (first ++ args ++ cap), h, []⟩) : jlT C gw first args cap ic h p := by
 intro B kp env w R hB hno hhide hbel;unfold Ctx.body jgO at hbody;split at hbody
 ·rename_i fn hf;split at hbody
  ·cases hbody
  ·rename_i hname;split at hbody
   ·rename_i c rs hc hrs;cases hbody;dsimp only at hres;subst hres;have hresults : fn.results = #[] := by
     cases hl : fn.results.toList with
     | nil => simpa using hl
     | cons r rs =>
      rw [hl] at hrs;unfold lowerRess at hrs;split at hrs <;> cases hrs
    have hent : ∀ zas w, (callFunc (C.lk gw) zas).run C.P w = .ok (.enter (C.lk gw) zas) w /\ ∀ es, (callFunc (C.lk gw) zas).events C.P w es = es := by
     intro zas w;refine ⟨by simp [callFunc, hf, hname, hc, mark], fun es => ?_⟩;simp [callFunc, Sem.events_bind, hf, hname, hc, Result.evThen]
    have hcl := jfm C.P (env ic).blk (p.prom C.lk B);refine hcl.go rfl fun kp1 w1 r => ⟨_, w1, #[], jnf hent, rfl, kau _ _, fun e he => (by simp at he), ?_⟩;have hvals : ((first ++ args).map (AV.val C.lk env)).toArray ++ (cap.map (AV.val C.lk env)).toArray = ((first ++ args ++ cap).map (AV.val C.lk env)).toArray := by simp
    rw [hvals];have R1 := R.rely r;have S : Sim C (kp1.or kao) fn.ntmps env ⟨argT (first ++ args ++ cap), h, []⟩ { tmps := ((first ++ args ++ cap).map (AV.val C.lk env)).toArray ++ Array.replicate (fn.ntmps - ((first ++ args ++ cap).map (AV.val C.lk env)).toArray.size) undef, defers := [] } w1 := by
     generalize first ++ args ++ cap = vs at hargs hbel |-
     have hsz : (vs.map (AV.val C.lk env)).toArray.size = vs.length := by simp
     refine ⟨?_, ?_, ?_, rfl, by simp, R1⟩
     ·have : vs.length <= fn.ntmps := hargs;simp; omega
     ·intro s;rw [Array.getD_eq_getD_getElem?, Array.getElem?_append, hsz];simp only [argT, List.getD_eq_getElem?_getD];by_cases hs : s < vs.length
      ·rw [if_pos hs]; simp [hs]
      ·rw [if_neg hs, List.getElem?_eq_none (by omega)];simp only [Option.getD_none, Array.getElem?_replicate];split <;> rfl
     ·intro s;simp only [argT, List.getD_eq_getElem?_getD];cases hs : vs[s]? with
      | none => trivial
      | some v => exact hbel v (List.mem_of_getElem? hs)
    let b : Frame := { (default : Frame) with fn := C.lk gw, kind := .deferred, roundOf := none }
    have henter : Frame.enter C.P (C.lk gw) ((first ++ args ++ cap).map (AV.val C.lk env)).toArray .deferred =
      b.atR { tmps := ((first ++ args ++ cap).map (AV.val C.lk env)).toArray ++ Array.replicate (fn.ntmps - ((first ++ args ++ cap).map (AV.val C.lk env)).toArray.size) undef, defers := [] } [.code c] := by
     simp [Frame.enter, Frame.atR, hf, hc, b]
    rw [henter];refine hw c rfl _ B kp1 env _ w1 b _ ⟨S, hic, rfl, fun q hq => ?_, rfl, by simp [b], fun a' ha => jng hf hresults rfl rfl ha⟩;rw [r.eq];exact .inl (hno q (by omega))
   ·cases hbody
 ·cases hbody
end
end Go.Ae
namespace Go.Ae
variable {C : Ctx} {h h' H h0 : Heap} {v vp : AV} {p : PlanP} {w w' : World} {env : Env} {kp : Keep} {ops : Array Oper} {st : St} {i m j sz c u : Nat} {l : List Int} {d b a : Int} {cs vs : List AV} {o : Oper} {P : Program}
def waveP (p : PlanP) (e : EmitP) (M : Nat) : AProm := ⟨fun n => .slice n 0 M (.known M), some (smps (wv p e M M))⟩
theorem waveP_ok (p : PlanP) (e : EmitP) (M : Nat) : (waveP p e M).Ok := by
 refine ⟨fun lk n env => rfl, fun n q hq => hq (by simp [waveP]), fun vs h v hv => ?_⟩;simp only [waveP, Option.some.injEq] at h;subst h;simp only [smps, List.mem_flatMap, List.mem_cons, List.not_mem_nil, or_false] at hv;obtain ⟨x, _, rfl | rfl⟩ := hv <;> trivial
theorem Has.work {T : List Nat} {Φ : Prom} (h : Has C T) : Has (C.work c Φ) T := fun g hg b hb => h g hg b hb
theorem Has.main0 {T : List Nat} (h : Has C T) : Has C.main0 T := fun g hg b hb => h g hg b hb
theorem Has.at {C : Ctx} {T : List Nat} (h : Has C T) : ∀ ph, Has (C.at ph) T
 | none => fun g hg b hb => h g hg b hb
 | some _ => fun g hg b hb => h g hg b hb
theorem jnh (hC : Has C TA) {p : PlanP} {e : EmitP} {vp vb vc : AV} {M cw sw mw ic u1 u2 u3 : Nat} {x1 x2 x3 : Bool} {h : Heap} (ok : EmOk p e) (h65 : e.ok64) (B : RV h vb e.bits) (W : RV h vc (codeL p.d e.prn)) (v1 : vp.one = true) (hm : M <= 1048576)
  (g1 : h.get cw = some (.cells [.chan ic] x1 u1)) (g2 : h.get sw = some (.cells (srcA p e vp vb vc).cells x2 u2)) (g3 : h.get mw = some (.cells [.int .i64 (M : Nat)] x3 u3)) (hic : h.ok ic) :
  jlT C 256 [] [] [.ptr cw 0, .ptr sw 0, .ptr mw 0] ic h (waveP p e M) := by
 refine jkK (waveP_ok p e M) (hC.body (by decide) (by rfl : tab 256 = some B256)) rfl (Nat.le_of_ble_eq_true rfl) hic ?_;refine kbj (l := [⟨0, true, [], ⟨some 3, .load false 1 (.tmp 0), none⟩⟩, ⟨1, false, [], ⟨some 4, .load true 17 (.tmp 1), none⟩⟩, ⟨2, false, [], ⟨some 5, .load false 1 (.tmp 2), none⟩⟩, ⟨3, false, [0], ⟨some 6, .call (.const (.func 257 [] [])) [.tmp 4, .tmp 5], none⟩⟩]) (waveP_ok p e M) fun c Φ => ?_;have hW : Has (C.work c Φ) TA := hC.work;have hcw := kac g1;have hr : HSub h (h.reserve 5) := HSub.reserve (kak h) 5;have kw := jlR (C := C.work c Φ) hW (p := p) (e := e) (vp := vp) (vb := vb) (vc := vc) (M := M) (h := h.reserve 5) ok h65 (B.mono hr) (W.mono hr) v1 hm
 have q17 : ∀ x u, loadB true 17 0 (some (.cells (srcA p e vp vb vc).cells x u)) = some (srcA p e vp vb vc) := fun _ _ => rfl;show wp (C.work c Φ) 7 none (.draw 5 [⟨0, true, [], ⟨some 3, .load false 1 (.tmp 0), none⟩⟩, ⟨1, false, [], ⟨some 4, .load true 17 (.tmp 1), none⟩⟩, ⟨2, false, [], ⟨some 5, .load false 1 (.tmp 2), none⟩⟩, ⟨3, false, [0], ⟨some 6, .call (.const (.func 257 [] [])) [.tmp 4, .tmp 5], none⟩⟩]) (fun o st' => jlV (waveP p e M) ic (.tmp 3) (.tmp 6) st') ⟨argT [.ptr cw 0, .ptr sw 0, .ptr mw 0], h, []⟩;refine zs4 @g1 @g2 @g3 q17 ?_;refine kad kw ?_;rintro r h' ⟨s1, i, hi, rfl, gi⟩
 have gc : h'.get cw = h.get cw := s1.get cw (by simp only [Heap.size_reserve]; omega);refine zs2 gc @g1 ?_;exact ⟨rfl, rfl, i, rfl, fun vs hvs => ⟨0, by simp only [waveP, Option.some.injEq] at hvs; rw [<- hvs]; exact gi⟩⟩
theorem jjS (h1 : j ∉ v.ids) (h2 : j < H.size) : (snocH H none v sz cs).get j = H.get j := by
 unfold snocH;split
 ·rename_i i o n c;have : j ≠ i := by simpa [AV.ids] using h1
  show ((H.put i .dead).push _).get j = _;rw [kah, if_neg (by simp; omega)];show (if j = i then _ else H.get j) = _;rw [if_neg this]
 ·show (H.push _).get j = _;rw [kah, if_neg (by omega)]
theorem jni {n : Nat} (A : Grw h0 h sz v n cs) : ∀ j ∈ v.ids, h0.size <= j /\ j < h.size := by
 obtain ⟨_, _, _, ⟨rfl, _⟩ | ⟨i, ex, hi, rfl, hg⟩⟩ := A
 ·simp [AV.ids]
 ·intro j hj;simp only [AV.ids, List.mem_singleton] at hj;subst hj; exact ⟨hi, kac hg⟩
theorem RV.off (H : RV h v l) (hh : ∀ i ∈ v.ids, h'.get i = h.get i) : RV h' v l := by
 obtain ⟨a, ⟨rfl | ⟨za, rfl⟩, h1⟩ | ⟨i, o, c, ws, wr', u', rfl, hg', hle, hc⟩⟩ := H
 ·exact ⟨a, .inl ⟨.inl rfl, h1⟩⟩
 ·exact ⟨a, .inl ⟨.inr ⟨_, rfl⟩, h1⟩⟩
 ·exact ⟨a, .inr ⟨i, o, c, ws, wr', u', rfl, (hh i (by simp [AV.ids])).trans hg', hle, hc⟩⟩
theorem RV.freeze (H : RV h v l) : RV h.freeze v l := by
 obtain ⟨a, ⟨rfl | ⟨za, rfl⟩, h1⟩ | ⟨i, o, c, ws, wr', u', rfl, hg', hle, hc⟩⟩ := H
 ·exact ⟨a, .inl ⟨.inl rfl, h1⟩⟩
 ·exact ⟨a, .inl ⟨.inr ⟨_, rfl⟩, h1⟩⟩
 ·exact ⟨a, .inr ⟨i, o, c, ws, false, u', rfl, by rw [jbS, hg']; rfl, hle, hc⟩⟩
def SrcV (h : Heap) (v : AV) (k : Nat) (cs : List AV) : Prop := cs.length = k * 17 /\ ((v = .nilslice /\ k = 0) \/ ∃ i ex wr, v = .slice i 0 k (.unk 0) /\ h.get i = some (.cells (cs ++ ex) wr 17))
def Srcs (h : Heap) (p : PlanP) (es : List EmitP) (k : Nat) (cs : List AV) (bad : Nat -> Prop) : Prop :=
 cs.length = k * 17 /\ ∀ i, i < k -> ∃ vp vb vc, vp.one = true /\ cut cs (i * 17) 17 = (srcA p (es.getD i eD) vp vb vc).cells /\ RV h vb (es.getD i eD).bits /\ RV h vc (codeL p.d (es.getD i eD).prn) /\ (∀ j ∈ vb.ids, ¬ bad j) /\ ∀ j ∈ vc.ids, ¬ bad j
theorem Srcs.turn {es : List EmitP} {k : Nat} {bad bad' : Nat -> Prop} (H : Srcs h p es k cs bad) (hg : ∀ i, ¬ bad i -> h.get i ≠ none -> h'.get i = h.get i) (hb : ∀ i, bad' i -> bad i \/ h.get i = none) : Srcs h' p es k cs bad' := by
 refine ⟨H.1, fun i hi => ?_⟩;obtain ⟨vp, vb, vc, v1, hc, B, W, b1, b2⟩ := H.2 i hi;have live : ∀ {v : AV} {l : List Int}, RV h v l -> ∀ j ∈ v.ids, h.get j ≠ none := by
  intro v l R j hj;obtain ⟨_, ⟨rfl | ⟨za, rfl⟩, _⟩ | ⟨i, o, c, ws, wr', u', rfl, hg', _, _⟩⟩ := R
  ·simp [AV.ids] at hj
  ·simp [AV.ids] at hj
  ·simp only [AV.ids, List.mem_singleton] at hj;subst hj; rw [hg']; simp
 exact ⟨vp, vb, vc, v1, hc, B.off fun j hj => hg j (b1 j hj) (live B j hj), W.off fun j hj => hg j (b2 j hj) (live W j hj), fun j hj x => (hb j x).elim (b1 j hj) (live B j hj), fun j hj x => (hb j x).elim (b2 j hj) (live W j hj)⟩
theorem kbc {h : Heap} {p : PlanP} {es : List EmitP} {k : Nat} {cs : List AV} {bad : Nat -> Prop} (H : Srcs h p es k cs bad) {vp vb vc : AV} (v1 : vp.one = true) (B : RV h vb (es.getD k eD).bits) (W : RV h vc (codeL p.d (es.getD k eD).prn)) (b1 : ∀ j ∈ vb.ids, ¬ bad j) (b2 : ∀ j ∈ vc.ids, ¬ bad j) :
  Srcs h p es (k + 1) (cs ++ (srcA p (es.getD k eD) vp vb vc).cells) bad := by
 have l17 : (srcA p (es.getD k eD) vp vb vc).cells.length = 17 := rfl;refine ⟨by rw [List.length_append, H.1, l17]; omega, fun i hi => ?_⟩;rcases Nat.lt_or_ge i k with q | q
 ·obtain ⟨vp', vb', vc', w1, hc, r⟩ := H.2 i q;refine ⟨vp', vb', vc', w1, ?_, r⟩;rw [<- hc];have : i * 17 + 17 <= k * 17 := by omega
  unfold cut;rw [List.drop_append_of_le_length (by rw [H.1]; omega), List.take_append_of_le_length (by rw [List.length_drop, H.1]; omega)]
 ·obtain rfl : i = k := by omega
  refine ⟨vp, vb, vc, v1, ?_, B, W, b1, b2⟩;unfold cut;rw [List.drop_append, List.drop_of_length_le (by rw [H.1]; omega), H.1, Nat.sub_self, List.drop_zero, List.nil_append, List.take_of_length_le (by rw [l17]; omega)]
theorem Srcs.freeze {es : List EmitP} {k : Nat} {bad : Nat -> Prop} (H : Srcs h p es k cs bad) : Srcs h.freeze p es k cs bad := by
 refine ⟨H.1, fun i hi => ?_⟩;obtain ⟨vp, vb, vc, v1, hc, B, W, r⟩ := H.2 i hi;exact ⟨vp, vb, vc, v1, hc, B.freeze, W.freeze, r⟩
end Go.Ae
