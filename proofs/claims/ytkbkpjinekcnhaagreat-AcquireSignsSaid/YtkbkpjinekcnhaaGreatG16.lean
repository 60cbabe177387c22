/- Texts of the proof, part 16: a second reading of the lowered code, proved sound, and what the functions compute. -/
import Derived.Test.YtkbkpjinekcnhaaGreatG15
set_option linter.unusedSimpArgs false
set_option linter.unusedVariables false
set_option maxRecDepth 20000
set_option maxHeartbeats 4000000
namespace Go.Ae
variable {C : Ctx} {h : Heap} {v : AV} {p : PlanP} {k : Nat} {l : List Int} {b a : Int}
theorem jnm (hk : k < l.length) (p : Int -> Bool) : ((l.take (k + 1)).any p) = ((l.take k).any p || p (l.getD k 0)) := by
 rw [jam hk, List.any_append];simp
theorem jmy (hC : Has C TA) {w : AV} {e : EmitP} (hp : PlI h v p) (he : EmI h w e) (h64 : p.ok64) (h65 : e.ok64) : ACalls C 224 [v, w] h (fun r h' => r = .int .i64 (emitErr p e) /\ h' = h) := by
 refine kae (P := fun r h' => r = .int .i64 (emitErr p e) /\ HSub h h') ?_ (fun r h' hp => ⟨by rw [hp.1]; trivial, hp.2, hp.1, rfl⟩);have kc := fun h1 (q : HSub h h1) => jex hC (hp.mono q) h64;have pr := jgt p e;obtain ⟨vp, rfl, R⟩ := hp;obtain ⟨vb, rfl, B⟩ := he;have v1 := R.one;have b1 := B.one;have hlt := R.lt;have blt := B.lt;have hE : emitErr p e = if p.err = 0 then if (p.prns.any fun y => e.prn == y) = true then if e.numsOk p then if 10000 < e.bits.length then 4 else if e.bits.any (fun b => b != 0 && b != 1) = true then 3 else 0 else 2 else 18 else p.err := rfl
 generalize emitErr p e = E at *;have kS := fun (q : p.numsOk) h1 => jcE hC (vp := vp) (h := h1) q v1;unfold plA at kS;by_cases c : p.err = 0
 ·have hn := jp1 c;have kS := kS hn;rw [if_pos c] at hE;rw [c] at kc;have g1 : (p.prns.any fun y => e.prn == y) = false -> E = 18 := fun q => by rw [hE, if_neg (by rw [q]; decide)]
  have g2 : (p.prns.any fun y => e.prn == y) = true -> ¬ ((0 <= e.dl /\ e.dl < p.size) /\ (-64 <= e.rt /\ e.rt <= 64) /\ (p.mn <= e.amp /\ e.amp <= p.mx) /\ (0 <= e.ba /\ e.ba < p.pb)) -> E = 2 := fun q q2 => by rw [hE, if_pos q, if_neg (show ¬ e.numsOk p from q2)]
  have g3 : (p.prns.any fun y => e.prn == y) = true -> ((0 <= e.dl /\ e.dl < p.size) /\ (-64 <= e.rt /\ e.rt <= 64) /\ (p.mn <= e.amp /\ e.amp <= p.mx) /\ (0 <= e.ba /\ e.ba < p.pb)) -> E = if 10000 < e.bits.length then 4 else if e.bits.any (fun b => b != 0 && b != 1) = true then 3 else 0 := fun q q2 => by rw [hE, if_pos q, if_pos (show e.numsOk p from q2)]
  clear hE;generalize p.size = sz at *;obtain ⟨d, o, pb, wo, mn, mx, nz, prns⟩ := p;obtain ⟨prn, dl, rt, st, ph, amp, ba, bits⟩ := e;dsimp only at *;have sH : ∀ b c, HSub h ((h.push b).push c) := fun b c => (kac h b).push c;have a0 : (prns.take prns.length).any (fun y => prn == y) = (prns.any fun y => prn == y) := by rw [List.take_length]
  have z0 : (bits.take bits.length).any (fun b => b != 0 && b != 1) = (bits.any fun b => b != 0 && b != 1) := by rw [List.take_length]
  generalize (prns.any fun y => prn == y) = b at *;generalize (bits.any fun b => b != 0 && b != 1) = z at *;refine zf 224 B224 hC ?_; simp only [B224, zB]; refine zs ?_;refine kal (fun H hH => ?_);have t1 : HSub h H := by rw [hH]; exact sH _ _
  have gp : H.get h.size = some (.cells [.int .i64 d, .int .i64 o, .int .i64 pb, .int .i64 wo, .int .i64 mn, .int .i64 mx, .int .i64 nz, vp] true 0) := by rw [hH]; exact ze
  have ge : H.get (h.size + 1) = some (.cells [.int .i64 prn, .int .i64 dl, .int .i64 rt, .int .u32 st, .int .u32 ph, .int .i64 amp, .int .i64 ba, vb] true 0) := by rw [hH]; exact ze
  have R1 := R.mono t1;have B1 := B.mono t1;have kc := kc H t1;clear hH;refine kaa kc (zs ?_);refine jag (fun j t h' => h' = H /\ ∃ k : Nat, t 2 = .ptr h.size 0 /\ t 3 = .ptr (h.size + 1) 0 /\ t 6 = .bool ((prns.take k).any fun y => prn == y) /\ t 7 = .int .i64 (k : Nat) /\ k <= prns.length /\ j = prns.length - k) (j0 := prns.length)
   ⟨rfl, 0, rfl, rfl, rfl, rfl, by omega, rfl⟩ ?_
  rintro j t h1 ⟨rfl, k, e2, e3, e6, e7, hk, hj⟩;refine zs4 e2 e7 gp @R1.len ?_;refine kag (fun d1 => ?_) (fun d1 => ?_)
  ·have hk' : k < prns.length := by omega
   have ld := R1.load hk';have asx := jnm hk' (fun y => prn == y);have eb : (prn == prns.getD k 0) = decide (prns.getD k 0 = prn) := by
    rw [Bool.eq_iff_iff]; simp; exact ⟨fun q => q.symm, fun q => q.symm⟩
   rw [eb] at asx;cases hb : (prns.take k).any (fun y => prn == y)
   ·rw [hb] at e6 asx;refine zs7 e2 e3 e6 e7 gp ge (zI @R1.idx (zI ld @gV_u)) ?_;exact ⟨_, ⟨k + 1, by rw [asx]; simp, by simp, by omega, rfl⟩, by omega⟩
   ·rw [hb] at e6 asx;refine zs7 e2 e3 e6 e7 gp ge (zI @R1.idx (zI ld @gV_u)) ?_;exact ⟨_, ⟨k + 1, by rw [asx]; simp, by simp, by omega, rfl⟩, by omega⟩
  ·have ek : k = prns.length := by omega
   rw [ek, a0] at e6;cases b
   ·have g := g1 rfl;refine zs1 e6 ?_;exact ⟨g.symm, t1⟩
   ·have g2 := g2 rfl;have g3 := g3 rfl;by_cases c2 : ((0 <= dl /\ dl < sz) /\ (-64 <= rt /\ rt <= 64) /\ (mn <= amp /\ amp <= mx) /\ (0 <= ba /\ ba < pb))
    ·have n0 : ¬ dl < 0 := by omega
     have n1 : ¬ sz <= dl := by omega
     have n2 : ¬ rt < -64 := by omega
     have n3 : ¬ 64 < rt := by omega
     have n4 : ¬ amp < mn := by omega
     have n5 : ¬ mx < amp := by omega
     have n6 : ¬ ba < 0 := by omega
     have n7 : ¬ pb <= ba := by omega
     have g := g3 c2;refine zs7 e2 e3 e6 gp ge @gV_u n0 ?_;refine kaa (kS _) ?_;by_cases c3 : 10000 < bits.length
     ·rw [if_pos c3] at g;refine zs7 e2 e3 e6 gp ge @gV_u (zI @n1 (zI @n2 (zI @n3 (zI @n4 (zI @n5 (zI @n6 (zI @n7 (zI @B1.len @c3)))))))) ?_;exact ⟨g.symm, t1⟩
     ·rw [if_neg c3] at g;refine zs7 e2 e3 e6 gp ge @gV_u (zI @n1 (zI @n2 (zI @n3 (zI @n4 (zI @n5 (zI @n6 (zI @n7 (zI @B1.len @c3)))))))) ?_;refine jag (fun j t h' => h' = h1 /\ ∃ k : Nat, (bits.take k).any (fun b => b != 0 && b != 1) = false /\ t 3 = .ptr (h.size + 1) 0 /\ t 8 = .int .i64 (k : Nat) /\ k <= bits.length /\ j = bits.length - k) (j0 := bits.length)
       ⟨rfl, 0, rfl, e3, rfl, by omega, rfl⟩ ?_
      rintro j t h2 ⟨rfl, k, hb, e3, e8, hk, hj⟩;refine zs4 e3 e8 ge @B1.len ?_;refine kag (fun d2 => ?_) (fun d2 => ?_)
      ·have hk' : k < bits.length := by omega
       have ld := B1.load hk';have asx := jnm hk' (fun b => b != 0 && b != 1);rw [hb, Bool.false_or] at asx;have zz : ((bits.take (k + 1)).any fun b => b != 0 && b != 1) = true -> z = true := fun q => by
        rw [<- z0, List.any_eq_true];rw [List.any_eq_true] at q;obtain ⟨x, hx, q⟩ := q;exact ⟨x, by rw [List.take_length]; exact List.mem_of_mem_take hx, q⟩
       generalize bits.getD k 0 = x at *;by_cases d3 : x = 0
       ·have asx : ((bits.take (k + 1)).any fun b => b != 0 && b != 1) = false := by rw [asx, d3]; rfl
        refine zs7 e3 e8 ge @B1.idx ld @d3 @gV_u ?_;exact ⟨_, ⟨k + 1, asx, by simp, by omega, rfl⟩, by omega⟩
       ·by_cases d4 : x = 1
        ·have asx : ((bits.take (k + 1)).any fun b => b != 0 && b != 1) = false := by rw [asx, d4]; rfl
         have d5 : ¬ (1 : Int) = 0 := by decide
         refine zs7 e3 e8 ge @B1.idx ld @d4 (zI d5 @gV_u) ?_;exact ⟨_, ⟨k + 1, asx, by simp, by omega, rfl⟩, by omega⟩
        ·have zt := zz (by rw [asx]; simp [d3, d4]);rw [if_pos zt] at g;refine zs7 e3 e8 ge @B1.idx ld @d3 (zI @d4 @gV_u) ?_;exact ⟨g.symm, t1⟩
      ·have ek : k = bits.length := by omega
       rw [ek, z0] at hb;rw [if_neg (by rw [hb]; decide)] at g;refine zs ?_;exact ⟨g.symm, t1⟩
    ·have g := g2 c2;by_cases c3 : dl < 0
     ·refine zs7 e2 e3 e6 gp ge @gV_u @c3 ?_;exact ⟨g.symm, t1⟩
     ·refine zs7 e2 e3 e6 gp ge @gV_u @c3 ?_;refine kaa (kS _) ?_
      (repeat' (first | (refine kag (fun _ => ?_) (fun _ => ?_)) | (refine zs6 e2 e3 e6 gp ge @gV_u ?_)))
      all_goals first
       | exact ⟨g.symm, t1⟩
       | (exfalso; omega)
 ·rw [if_neg c] at hE;subst hE;generalize p.err = E at *;obtain ⟨d, o, pb, wo, mn, mx, nz, prns⟩ := p;obtain ⟨prn, dl, rt, st, ph, amp, ba, bits⟩ := e;dsimp only at *;refine zf 224 B224 hC ?_; simp only [B224, zB]; refine zs ?_;refine kaa (kc _ ((kac _ _).push _)) (zs1 c ?_);exact ((kac _ _).push _)
theorem jnn {k s K S : Int} (hk : -K <= k /\ k <= K) (hs : -S <= s /\ s <= S) : -(K * S) <= k * s /\ k * s <= K * S := by
 have h1 : absI (k * s) <= K * S := by
  rw [jg8];exact Int.mul_le_mul (by unfold absI; omega) (by unfold absI; omega) (jbC _) (by omega)
 unfold absI at h1;omega
theorem jon {k : Int} (hb : 0 < b) : (if k.tmod b < 0 then k.tdiv b - 1 else k.tdiv b) = k / b := by
 rcases Int.le_total 0 k with c | c
 ·rw [if_neg (by have := Int.tmod_nonneg b c; omega), Int.tdiv_eq_ediv_of_nonneg c]
 ·obtain ⟨m, rfl⟩ : ∃ m, k = -m := ⟨-k, by omega⟩;have hm : 0 <= m := by omega
  rw [Int.neg_tmod, Int.neg_tdiv, Int.tmod_eq_emod_of_nonneg hm, Int.tdiv_eq_ediv_of_nonneg hm];have h := Int.emod_add_mul_ediv m b;have h1 := Int.emod_nonneg m (show b ≠ 0 by omega);have h2 := Int.emod_lt_of_pos m hb;split
  ·symm;rw [Int.ediv_eq_iff_of_pos hb];have e : (-(m / b) - 1) * b = -(b * (m / b)) - b := by grind
   have e2 : (-(m / b) - 1 + 1) * b = -(b * (m / b)) := by grind
   omega
  ·symm;rw [Int.ediv_eq_iff_of_pos hb];have e : -(m / b) * b = -(b * (m / b)) := by grind
   have e2 : (-(m / b) + 1) * b = -(b * (m / b)) + b := by grind
   omega
theorem jsA {j n : Int} : j - n * (j / n) = j % n := by
 have := Int.emod_add_mul_ediv j n;omega
theorem jp2 (n : Int) : ∀ (xs seen : List Int), jbf n seen xs = 0 -> ∀ x ∈ xs, 1 <= x /\ x <= n + 2
 | [], _, _, x, hx => by simp at hx
 | y :: xs, seen, h, x, hx => by
  rw [jbf] at h;split at h
  ·omega
  ·rename_i c;split at h
   ·omega
   ·rcases List.mem_cons.1 hx with q | q
    ·rw [q]; exact Classical.not_not.1 c
    ·exact jp2 n xs _ h x q
structure EmOk (p : PlanP) (e : EmitP) : Prop where
 pn : p.numsOk
 en : e.numsOk p
 code : jaF p.d e.prn = 0
 bits : ∀ x ∈ e.bits, x = 0 \/ x = 1
 prn : 1 <= e.prn /\ e.prn <= lenN p.d + 2
 len : e.bits.length <= 10000
theorem jsB {e : EmitP} (h : emitErr p e = 0) : EmOk p e := by
 unfold emitErr at h;by_cases c : p.err = 0
 ·rw [if_pos c] at h;by_cases c2 : (p.prns.any fun y => e.prn == y) = true
  ·rw [if_pos c2] at h;by_cases c3 : e.numsOk p
   ·rw [if_pos c3] at h;by_cases c4 : 10000 < e.bits.length
    ·rw [if_pos c4] at h; omega
    ·rw [if_neg c4] at h;by_cases c5 : e.bits.any (fun b => b != 0 && b != 1) = true
     ·rw [if_pos c5] at h; omega
     ·have pn := jp1 c;have pz : jbf (lenN p.d) [] p.prns = 0 := by
       unfold PlanP.err at c;rw [if_pos pn] at c;split at c
       ·omega
       ·split at c
        ·omega
        ·exact c
      have pr : 1 <= e.prn /\ e.prn <= lenN p.d + 2 := by
       rw [List.any_eq_true] at c2;obtain ⟨x, hx, q⟩ := c2;rw [beq_iff_eq] at q;rw [q];exact jp2 _ _ _ pz x hx
      refine ⟨pn, c3, ?_, ?_, pr, by omega⟩
      ·unfold jaF;rw [if_pos ⟨pn.1, pr.1, pr.2⟩]
      ·intro x hx;have c5 := Bool.eq_false_iff.2 c5;rw [List.any_eq_false] at c5;have := c5 x hx;simp only [Bool.and_eq_true, bne_iff_ne, ne_eq, not_and, Classical.not_not] at this;by_cases z : x = 0
       ·exact .inl z
       ·exact .inr (this z)
   ·rw [if_neg c3] at h; omega
  ·rw [if_neg c2] at h; omega
 ·rw [if_neg c] at h; omega
def EmitP.sta (e : EmitP) (p : PlanP) (k : Int) : Int := stI e.dl p.size e.rt k
def EmitP.pl (e : EmitP) (p : PlanP) (n : Int) : Int := plI e.dl p.size e.rt n
theorem EmOk.den {e : EmitP} (h : EmOk p e) : 0 < 1024 * p.size + e.rt := by
 have := jaE h.pn;have := h.en.2.1;omega
theorem EmOk.bit {e : EmitP} (h : EmOk p e) (k : Int) : bitI p e k = 0 \/ bitI p e k = 1 := by
 unfold bitI;split
 ·simp
 ·rename_i c;have := Int.emod_lt_of_pos ((k - e.ba) / p.pb) (show (0 : Int) < e.bits.length by omega);have := Int.emod_nonneg ((k - e.ba) / p.pb) (show (e.bits.length : Int) ≠ 0 by omega);exact h.bits _ (jav (by omega))
theorem EmOk.stb {e : EmitP} (h : EmOk p e) {k : Int} (hk : -20000000 <= k /\ k <= 20000000) : -200000000000 <= e.sta p k /\ e.sta p k <= 200000000000 /\ (-163680000000 <= k * p.size /\ k * p.size <= 163680000000) /\ (-1280000000 <= k * e.rt /\ k * e.rt <= 1280000000) := by
 have s := jaE h.pn;have r := h.en.2.1;have d := h.en.1;have a := jnn (S := 8184) hk (show -8184 <= p.size /\ p.size <= 8184 by omega);have b := jnn (S := 64) hk r;unfold EmitP.sta stI;omega
theorem EmOk.plb {e : EmitP} (h : EmOk p e) {n : Int} (hn : -10100000 <= n /\ n <= 10100000) : -11000000 <= e.pl p n /\ e.pl p n <= 11000000 := by
 have s := jaE h.pn;have r := h.en.2.1;have d := h.en.1;unfold EmitP.pl plI;generalize hD : 1024 * p.size + e.rt = D;have hD2 : 1024 <= D := by omega
 generalize hM : 1024 * (n - e.dl + 1) - 1 = M;have hM2 : -(1024 * 11000000) <= M /\ M <= 1024 * 11000000 := by omega
 constructor
 ·rw [Int.le_ediv_iff_mul_le (by omega)];omega
 ·rw [<- Int.lt_add_one_iff, Int.ediv_lt_iff_lt_mul (by omega)];omega
def chipI (p : PlanP) (e : EmitP) (i : Int) : Int := (codeL p.d e.prn).getD (min (i / p.o) ((lenN p.d : Int) - 1)).toNat 0
def atV (p : PlanP) (e : EmitP) (n : Int) : Int × Int :=
 ((e.amp * chipI p e (n - e.sta p (e.pl p n)) * (1 - 2 * bitI p e (e.pl p n))) * (carP (phI e.ph e.st (e.pl p n))).1, (e.amp * chipI p e (n - e.sta p (e.pl p n)) * (1 - 2 * bitI p e (e.pl p n))) * (carP (phI e.ph e.st (e.pl p n))).2)
def emA (e : EmitP) (vb : AV) : AV := .agg [.int .i64 e.prn, .int .i64 e.dl, .int .i64 e.rt, .int .u32 e.st, .int .u32 e.ph, .int .i64 e.amp, .int .i64 e.ba, vb]
theorem jcL (hC : Has C TA) (ha : In64 a) (hb : 0 < b /\ b <= 1000000) : ACalls C 258 [.int .i64 a, .int .i64 b] h (fun r h' => r = .int .i64 (a / b) /\ h' = h) := by
 have e := jon (k := a) hb.1;unfold In64 at ha;have q1 : a.tdiv b = if a.tmod b < 0 then a / b + 1 else a / b := by split at e <;> rename_i c <;> simp only [c, if_true, if_false] <;> omega
 have r1 : -9223372036854775808 <= a / b /\ a / b <= 9223372036854775807 := by
  constructor
  ·rw [Int.le_ediv_iff_mul_le hb.1];have : (1 : Int) <= b := hb.1;omega
  ·rw [<- Int.lt_add_one_iff, Int.ediv_lt_iff_lt_mul hb.1];have : (1 : Int) <= b := hb.1;omega
 by_cases c : a.tmod b < 0
 ·rw [if_pos c] at q1;have r2 : a / b + 1 <= 9223372036854775807 := by
   have c0 : ¬ 0 <= a := fun q => by have := Int.tmod_nonneg b q; omega
   have := Int.ediv_neg_of_neg_of_pos (show a < 0 by omega) hb.1;omega
  refine zf 258 B258 hC ?_; simp only [B258, zB]; refine zs2 c q1 ?_;omega
 ·rw [if_neg c] at q1;refine zf 258 B258 hC ?_; simp only [B258, zB]; exact ze2 c q1
theorem jfS (hC : Has C TA) {p : PlanP} {e : EmitP} {vp vb : AV} {k : Int} {h : Heap} (ok : EmOk p e) (v1 : vp.one = true) (b1 : vb.one = true) (hk : -20000000 <= k /\ k <= 20000000) :
  ACalls C 241 [plA p vp, emA e vb, .int .i64 k] h (fun r h' => r = .int .i64 (e.sta p k) /\ h' = h) := by
 refine kae (P := fun r h' => r = .int .i64 (e.sta p k) /\ HSub h h') ?_ (fun r h' hp => ⟨by rw [hp.1]; trivial, hp.2, hp.1, rfl⟩);have sz := fun h => jcE hC (vp := vp) (h := h) ok.pn v1;have sb := ok.stb hk;have d := ok.en.1;have s := jaE ok.pn;have fl := fun h => jcL hC (a := k * e.rt) (b := 1024) (h := h) (by unfold In64; omega) (by omega);unfold EmitP.sta stI at sb |-;unfold plA at sz |-;unfold emA;generalize p.size = z at *;obtain ⟨pd, o, pb, w, mn, mx, nz, prns⟩ := p;obtain ⟨prn, dl, rt, st, ph, amp, ba, bits⟩ := e;dsimp only at *;refine zf 241 B241 hC ?_; simp only [B241, zB]; refine zs ?_
 refine kaa (sz _) (zs ?_);refine kaa (fl _) (zs ?_);exact (kac _ _).push _
theorem st_gt {e : EmitP} (ok : EmOk p e) {n k : Int} : e.sta p k <= n ↔ k <= e.pl p n := st_le ok.den
theorem jj4 (hC : Has C TA) {p : PlanP} {e : EmitP} {vp vb : AV} {n : Int} {h : Heap} (ok : EmOk p e) (v1 : vp.one = true) (b1 : vb.one = true) (hn : -10100000 <= n /\ n <= 10100000) :
  ACalls C 246 [plA p vp, emA e vb, .int .i64 n] h (fun r h' => r = .int .i64 (e.pl p n) /\ h' = h) := by
 refine kae (P := fun r h' => r = .int .i64 (e.pl p n) /\ HSub h h') ?_ (fun r h' hp => ⟨by rw [hp.1]; trivial, hp.2, hp.1, rfl⟩);have sz := fun h => jcE hC (vp := vp) (h := h) ok.pn v1;have ks := fun (k : Int) (hk : -20000000 <= k /\ k <= 20000000) h => jfS hC (k := k) (h := h) ok v1 b1 hk;have gt := fun (k : Int) => st_gt ok (n := n) (k := k);have pb := ok.plb hn;have d := ok.en.1;have s := jaE ok.pn;have fl := fun h => jcL hC (a := n - e.dl) (b := p.size) (h := h) (by unfold In64; omega) (by omega);have td : -11000000 <= (n - e.dl) / p.size /\ (n - e.dl) / p.size <= 11000000 := by
  constructor
  ·rw [Int.le_ediv_iff_mul_le (by omega)];omega
  ·rw [<- Int.lt_add_one_iff, Int.ediv_lt_iff_lt_mul (by omega)];omega
 unfold plA at sz ks |-;unfold emA at ks |-;generalize e.pl p n = K at *;generalize hSt : e.sta p = St at *;generalize p.size = z at *;obtain ⟨pd, o, pb, w, mn, mx, nz, prns⟩ := p;obtain ⟨prn, dl, rt, st, ph, amp, ba, bits⟩ := e;dsimp only at *;refine zf 246 B246 hC ?_; simp only [B246, zB]; refine zs ?_;refine kaa (sz _) (zs ?_);refine kaa (fl _) (zs ?_);refine jag (fun j t h' => h' = (h.push (.cells [.int .i64 pd, .int .i64 o, .int .i64 pb, .int .i64 w, .int .i64 mn, .int .i64 mx, .int .i64 nz, vp] true 0)).push (.cells [.int .i64 prn, .int .i64 dl, .int .i64 rt, .int .u32 st, .int .u32 ph, .int .i64 amp, .int .i64 ba, vb] true 0) /\ ∃ k : Int, t 2 = .int .i64 n /\ t 3 = .ptr h.size 0 /\ t 4 = .ptr (h.size + 1) 0 /\ t 7 = .int .i64 k /\ -11000000 <= k /\ k <= 11000002 /\ j = (k - K).toNat) (j0 := ((n - dl) / z - K).toNat)
  ⟨rfl, _, rfl, rfl, rfl, rfl, by omega, by omega, rfl⟩ ?_
 rintro j t h1 ⟨hh, k, e2, e3, e4, ek, k1, k2, hj⟩;have gp : h1.get h.size = some (.cells [.int .i64 pd, .int .i64 o, .int .i64 pb, .int .i64 w, .int .i64 mn, .int .i64 mx, .int .i64 nz, vp] true 0) := by rw [hh]; exact ze
 have ge : h1.get (h.size + 1) = some (.cells [.int .i64 prn, .int .i64 dl, .int .i64 rt, .int .u32 st, .int .u32 ph, .int .i64 amp, .int .i64 ba, vb] true 0) := by rw [hh]; exact ze
 have s1 : HSub h h1 := by rw [hh]; exact (kac _ _).push _
 have g := gt k;refine zs6 e2 e3 e4 ek gp ge ?_;refine kaa (ks k (by omega) _) (zs3 e2 e3 e4 ?_);refine kag (fun c => ?_) (fun c => ?_)
 ·have kK : K < k := by
   rcases Int.lt_or_le K k with q | q
   ·exact q
   ·have := g.2 q; omega
  refine zs5 e2 e3 e4 ek hh ?_;exact ⟨_, ⟨by omega, by omega, rfl⟩, by omega⟩
 ·have kK : k <= K := g.1 (by omega);refine zs ?_;refine jag (fun j t h' => h' = h1 /\ ∃ k : Int, t 2 = .int .i64 n /\ t 3 = .ptr h.size 0 /\ t 4 = .ptr (h.size + 1) 0 /\ t 7 = .int .i64 k /\ -11000000 <= k /\ k <= K /\ j = (K - k).toNat) (j0 := (K - k).toNat)
   ⟨rfl, k, e2, e3, e4, ek, k1, kK, rfl⟩ ?_
  rintro j t h2 ⟨rfl, k, e2, e3, e4, ek, k3, k4, hj⟩;have g := gt (k + 1);refine zs6 e2 e3 e4 ek gp ge ?_;refine kaa (ks (k + 1) (by omega) _) (zs3 e2 e3 e4 ?_);refine kag (fun c => ?_) (fun c => ?_)
  ·have kK : k + 1 <= K := g.1 c;refine zs4 e2 e3 e4 ek ?_;exact ⟨_, ⟨by omega, by omega, rfl⟩, by omega⟩
  ·have kK : k = K := by
    rcases Int.lt_or_le k K with q | q
    ·have := g.2 (by omega); omega
    ·omega
   refine zs2 ek kK ?_;exact s1
end Go.Ae
