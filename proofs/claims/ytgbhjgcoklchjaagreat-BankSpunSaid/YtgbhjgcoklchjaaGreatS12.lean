/- Texts of the proof, part 12: a second reading of the lowered code, proved sound, and what the functions compute. -/
import Derived.Test.YtgbhjgcoklchjaaGreatS11
/- The sequences of the degrees 5 to 7, and their codes. -/
set_option linter.unusedSimpArgs false
set_option linter.unusedVariables false
namespace Go.Ae
def perL (x : List Int) (n i : Nat) : Int := x.getD (i % n) 0
theorem bit_toNat {b : Bool} {x : Int} (hx : x = 0 ∨ x = 1) (h : b.toNat = x.toNat) : b = decide (x = 1) := by
 rcases hx with rfl | rfl <;> cases b <;> simp at h ⊢
theorem list_bit {x : List Int} (hx : bit01 x) (i : Nat) : (packL x).testBit i = decide (x.getD i 0 = 1) := bit_toNat (hx.get i) (packL_bit hx i)
theorem xor_dec {a b : Int} (ha : a = 0 ∨ a = 1) (hb : b = 0 ∨ b = 1) : (decide (a = 1) ^^ decide (b = 1)) = decide ((a + b) % 2 = 1) := by
 rcases ha with rfl | rfl <;> rcases hb with rfl | rfl <;> decide
theorem sa_of {x : List Int} {n W : Nat} (hx : bit01 x) (hl : x.length = n) (hW : packL x = W) (hn : 0 < n) (h : saOk n W = true) : ∀ a, a % n ≠ 0 → ∃ s, ∀ i, (perL x n i + perL x n (i + a)) % 2 = perL x n (i + s) := by
 intro a ha
 have hlt : W < 2 ^ n := by rw [← hW, ← hl]; exact packL_lt hx
 have h1 := List.all_eq_true.1 h (a % n) (List.mem_range.2 (Nat.mod_lt _ hn))
 rw [Bool.or_eq_true] at h1
 rcases h1 with h1 | h1
 ·exact absurd (Nat.eq_of_beq_eq_true h1) ha
 ·obtain ⟨s, hs, h2⟩ := List.any_eq_true.1 h1
  have hs := List.mem_range.1 hs
  have h2 := Nat.eq_of_beq_eq_true h2
  refine ⟨s, fun i => ?_⟩
  have hj := Nat.mod_lt i hn
  have h3 : (W ^^^ rotN n (a % n) W).testBit (i % n) = (rotN n s W).testBit (i % n) := by rw [h2]
  rw [Nat.testBit_xor, rotN_bit hlt (Nat.mod_lt _ hn) hj, rotN_bit hlt hs hj, ← hW, list_bit hx, list_bit hx, list_bit hx] at h3
  have b1 := hx.get (i % n)
  have b2 := hx.get ((i % n + a % n) % n)
  have b3 := hx.get ((i % n + s) % n)
  rw [xor_dec b1 b2] at h3
  have e1 : (i + a) % n = (i % n + a % n) % n := Nat.add_mod i a n
  have e2 : (i + s) % n = (i % n + s) % n := by rw [Nat.mod_add_mod]
  unfold perL
  rw [e1, e2]
  have h4 := decide_eq_decide.1 h3
  omega
theorem pop_list {x : List Int} {n W : Nat} (hx : bit01 x) (hW : packL x = W) : bsum (fun i => (x.getD i 0).toNat) n = popc n W := by
 rw [popc_eq, ← hW]
 exact bsum_congr n fun i _ => (packL_bit hx i).symm
theorem perL_01 {x : List Int} (hx : bit01 x) (n i : Nat) : perL x n i = 0 ∨ perL x n i = 1 := hx.get _
theorem perL_per (x : List Int) (n i : Nat) : perL x n (i + n) = perL x n i := by unfold perL; rw [Nat.add_mod_right]
theorem sum_of {x : List Int} {n W : Nat} (hx : bit01 x) (hW : packL x = W) (h : 2 * popc n W = n + 1) : isum (fun i => 1 - 2 * perL x n i) n = -1 := by
 rw [isum_bits (perL_01 hx n)]
 have : bsum (fun i => (perL x n i).toNat) n = popc n W := by
  rw [← pop_list hx hW]
  exact bsum_congr n fun i hi => by unfold perL; rw [Nat.mod_eq_of_lt hi]
 rw [this]; omega
theorem corr_of {x y : List Int} {n W V t : Nat} (hx : bit01 x) (hy : bit01 y) (hl : y.length = n) (hW : packL x = W) (hV : packL y = V) (hn : 0 < n) (h : corrOk n W V t = true) :
  ∀ e, let S := isum (fun i => 1 - 2 * ((perL x n i + perL y n (i + e)) % 2)) n; S = -1 ∨ S = -(t : Int) ∨ S = (t : Int) - 2 := by
 intro e S
 have hlt : V < 2 ^ n := by rw [← hV, ← hl]; exact packL_lt hy
 have h1 := List.all_eq_true.1 h (e % n) (List.mem_range.2 (Nat.mod_lt _ hn))
 have hb : ∀ i, (perL x n i + perL y n (i + e)) % 2 = 0 ∨ (perL x n i + perL y n (i + e)) % 2 = 1 := fun i => by omega
 have hS : S = n - 2 * (bsum (fun i => ((perL x n i + perL y n (i + e)) % 2).toNat) n : Nat) := isum_bits hb n
 have hp : bsum (fun i => ((perL x n i + perL y n (i + e)) % 2).toNat) n = popc n (W ^^^ rotN n (e % n) V) := by
  rw [popc_eq]
  refine bsum_congr n fun i hi => ?_
  have b1 := hx.get i
  have b2 := hy.get ((i + e % n) % n)
  show _ = ((W ^^^ rotN n (e % n) V).testBit i).toNat
  rw [Nat.testBit_xor, rotN_bit hlt (Nat.mod_lt _ hn) hi, ← hW, ← hV, list_bit hx, list_bit hy, xor_dec b1 b2]
  have e1 : (i + e) % n = (i + e % n) % n := by rw [Nat.add_mod_mod]
  unfold perL
  rw [Nat.mod_eq_of_lt hi, e1]
  have : (x.getD i 0 + y.getD ((i + e % n) % n) 0) % 2 = 0 ∨ (x.getD i 0 + y.getD ((i + e % n) % n) 0) % 2 = 1 := by omega
  rcases this with h | h <;> rw [h] <;> rfl
 rw [hp] at hS
 simp only [Bool.or_eq_true] at h1
 rcases h1 with (h1 | h1) | h1 <;> have h1 := Nat.eq_of_beq_eq_true h1 <;> omega
theorem pair_of {x y : List Int} {n t W V : Nat} (hn : 0 < n) (hx : bit01 x) (hy : bit01 y) (lx : x.length = n) (ly : y.length = n) (hW : packL x = W) (hV : packL y = V) (s1 : saOk n W = true) (s2 : saOk n V = true) (h1 : 2 * popc n W = n + 1) (h2 : 2 * popc n V = n + 1) (hc : corrOk n W V t = true) :
  Pair n t (perL x n) (perL y n) :=
 ⟨hn, perL_01 hx n, perL_01 hy n, perL_per x n, perL_per y n, sa_of hx lx hW hn s1, sa_of hy ly hV hn s2, sum_of hx hW h1, sum_of hy hV h2, corr_of hx hy ly hW hV hn hc⟩
theorem w51 : packL (bitsL 5 1) = 440580895 := by decide +kernel
theorem w52 : packL (bitsL 5 2) = 319508959 := by decide +kernel
theorem pair5 : Pair 31 9 (perL (bitsL 5 1) 31) (perL (bitsL 5 2) 31) :=
 pair_of (by decide) bitsL_01 bitsL_01 (bitsL_length 5 1) (bitsL_length 5 2) w51 w52 (by decide +kernel) (by decide +kernel) (by decide +kernel) (by decide +kernel) (by decide +kernel)
theorem w61 : packL (bitsL 6 1) = 3114073359753873471 := by decide +kernel
theorem w62 : packL (bitsL 6 2) = 3765794974394322623 := by decide +kernel
theorem pair6 : Pair 63 17 (perL (bitsL 6 1) 63) (perL (bitsL 6 2) 63) :=
 pair_of (by decide) bitsL_01 bitsL_01 (bitsL_length 6 1) (bitsL_length 6 2) w61 w62 (by decide +kernel) (by decide +kernel) (by decide +kernel) (by decide +kernel) (by decide +kernel)
theorem w71 : packL (bitsL 7 1) = 19633041171262327947611635764423014527 := by decide +kernel
theorem w72 : packL (bitsL 7 2) = 79058819457452495440679678893767108735 := by decide +kernel
theorem pair7 : Pair 127 17 (perL (bitsL 7 1) 127) (perL (bitsL 7 2) 127) :=
 pair_of (by decide) bitsL_01 bitsL_01 (bitsL_length 7 1) (bitsL_length 7 2) w71 w72 (by decide +kernel) (by decide +kernel) (by decide +kernel) (by decide +kernel) (by decide +kernel)
def thrT (d : Int) : Int := if d = 5 then 9 else 17
theorem pair_deg {d : Int} (hd : d = 5 ∨ d = 6 ∨ d = 7) : Pair (lenN d) (thrT d) (perL (bitsL d 1) (lenN d)) (perL (bitsL d 2) (lenN d)) := by
 rcases hd with rfl | rfl | rfl
 ·exact pair5
 ·exact pair6
 ·exact pair7
theorem codeB_mix {d : Int} {p : Nat} (hp : 1 ≤ p) (i : Nat) (hi : i < lenN d) : codeB d p i = mixB (perL (bitsL d 1) (lenN d)) (perL (bitsL d 2) (lenN d)) (decide (p ≠ 2)) (decide (p ≠ 1)) (p - 3) i := by
 unfold codeB mixB perL
 have h1 := bit01_getD (bitsL_01 (d := d) (w := 1)) i
 have h2 := bit01_getD (bitsL_01 (d := d) (w := 2)) i
 by_cases c1 : p = 1
 ·subst c1
  show (bitsL d 1).getD i 0 = ((bitsL d 1).getD (i % lenN d) 0 + 0) % 2
  rw [Nat.mod_eq_of_lt hi]; omega
 ·by_cases c2 : p = 2
  ·subst c2
   show (bitsL d 2).getD i 0 = (0 + (bitsL d 2).getD ((i + 0) % lenN d) 0) % 2
   rw [Nat.add_zero, Nat.mod_eq_of_lt hi]; omega
  ·rw [if_neg (by omega), if_neg (by omega), Nat.mod_eq_of_lt hi, show ((p : Int) - 3).toNat = p - 3 by omega]
   simp [c1, c2]
def prodS (d : Int) (p q k : Nat) : Int := isum (fun i => (codeL d p).getD i 0 * (codeL d q).getD ((i + k) % lenN d) 0) (lenN d)
theorem three {d : Int} (hd : d = 5 ∨ d = 6 ∨ d = 7) {p q k : Nat} (hp : 1 ≤ p ∧ p ≤ lenN d + 2) (hq : 1 ≤ q ∧ q ≤ lenN d + 2) (hk : k < lenN d) :
  (p = q ∧ k = 0 ∧ prodS d p q k = lenN d) ∨ (¬ (p = q ∧ k = 0) ∧ (prodS d p q k = -1 ∨ prodS d p q k = -thrT d ∨ prodS d p q k = thrT d - 2)) := by
 have P := pair_deg hd
 have hlen : 31 ≤ lenN d := by rcases hd with rfl | rfl | rfl <;> decide
 have hthr : thrT d = 9 ∨ thrT d = 17 := by unfold thrT; split <;> simp
 have h := mix_three P (decide (p ≠ 2)) (decide (p ≠ 1)) (decide (q ≠ 2)) (decide (q ≠ 1)) (p - 3) (q - 3) k (by by_cases c : p = 2 <;> simp [c]) (by by_cases c : q = 2 <;> simp [c])
 have e : prodS d p q k = isum (fun i => (1 - 2 * mixB (perL (bitsL d 1) (lenN d)) (perL (bitsL d 2) (lenN d)) (decide (p ≠ 2)) (decide (p ≠ 1)) (p - 3) i) * (1 - 2 * mixB (perL (bitsL d 1) (lenN d)) (perL (bitsL d 2) (lenN d)) (decide (q ≠ 2)) (decide (q ≠ 1)) (q - 3) (i + k))) (lenN d) := by
  refine isum_congr _ fun i hi => ?_
  have hm : (i + k) % lenN d < lenN d := Nat.mod_lt _ (by omega)
  rw [codeL_get hi, codeL_get hm, codeB_mix hp.1 i hi, codeB_mix hq.1 _ hm]
  congr 2
  unfold mixB perL
  rw [Nat.mod_mod, Nat.mod_add_mod]
 have hself : p = q → k = 0 → prodS d p q k = lenN d := by
  rintro rfl rfl
  have : prodS d p p 0 = isum (fun _ => 1) (lenN d) := isum_congr _ fun i hi => by
   have hm : (i + 0) % lenN d = i := Nat.mod_eq_of_lt (by omega)
   rw [hm, codeL_get hi]
   rcases codeB_01 d p i with h | h <;> rw [h] <;> rfl
  rw [this]
  have : ∀ m, isum (fun _ => 1) m = m := by
   intro m
   induction m with
   | zero => rfl
   | succ m ih => simp only [isum, ih]; omega
  exact this _
 by_cases c : p = q ∧ k = 0
 ·exact .inl ⟨c.1, c.2, hself c.1 c.2⟩
 ·refine .inr ⟨c, ?_⟩
  rw [e]
  rcases h with ⟨a1, a2, a3, a4, _⟩ | h
  ·exfalso
   apply c
   have e1 := decide_eq_decide.1 a1
   have e2 := decide_eq_decide.1 a2
   simp only [decide_eq_true_eq] at a3 a4
   have hkm : k % lenN d = k := Nat.mod_eq_of_lt hk
   by_cases p2 : p = 2
   ·have q2 : q = 2 := by omega
    have h4 := a4 (by omega)
    subst p2; subst q2
    simp only [show 2 - 3 = 0 from rfl, Nat.zero_mod, Nat.add_zero] at h4
    exact ⟨rfl, by omega⟩
   ·have hk0 : k = 0 := by have := a3 p2; omega
    by_cases p1 : p = 1
    ·exact ⟨by omega, hk0⟩
    ·have h4 := a4 p1
     have q1 : q ≠ 1 := by omega
     have q2 : q ≠ 2 := by omega
     rw [hk0, Nat.zero_add, Nat.mod_eq_of_lt (by omega), Nat.mod_eq_of_lt (by omega)] at h4
     exact ⟨by omega, hk0⟩
  ·exact h
end Go.Ae
/- The examples of layer 8, run. -/
set_option linter.unusedSimpArgs false
set_option linter.unusedVariables false
namespace Go.Ae
section
variable {C : Ctx}
end
end Go.Ae
/- Find, of the program and of the reference; the statement on finding. -/
set_option linter.unusedSimpArgs false
set_option linter.unusedVariables false
namespace Go.Ae
section
variable {C : Ctx}
end
end Go.Ae
/- Rotations of codes are all different. -/
set_option linter.unusedSimpArgs false
set_option linter.unusedVariables false
namespace Go.Ae
def smallD (d : Int) : Prop := d = 5 ∨ d = 6 ∨ d = 7
theorem smallD.len {d : Int} (h : smallD d) : lenOk d = true ∧ 31 ≤ lenN d ∧ lenN d ≤ 127 ∧ (thrT d = 9 ∨ (thrT d = 17 ∧ 63 ≤ lenN d)) := by
 rcases h with rfl | rfl | rfl <;> decide
theorem codeL_pm {d p : Int} {i : Nat} (h : i < lenN d) : (codeL d p).getD i 0 = 1 ∨ (codeL d p).getD i 0 = -1 := by
 rw [codeL_get h]
 rcases codeB_01 d p i with h | h <;> rw [h] <;> simp
/-! ### The examples -/
section
variable {C : Ctx}
end
end Go.Ae
/- Scenes of one emitter, of the reference. -/
set_option linter.unusedSimpArgs false
set_option linter.unusedVariables false
namespace Go.Ae
def emS (p : PlanP) (e : EmitP) (k : Nat) : List (Int × Int) := (List.range k).map fun n => atV p e (n : Nat)
theorem emS_length (p : PlanP) (e : EmitP) (k : Nat) : (emS p e k).length = k := by simp [emS]
theorem emS_succ (p : PlanP) (e : EmitP) (k : Nat) : emS p e (k + 1) = emS p e k ++ [atV p e (k : Nat)] := by simp [emS, List.range_succ]
theorem emZ_set {p : PlanP} {e : EmitP} {m k : Nat} (h : k < m) : (emS p e k ++ List.replicate (m - k) (0, 0)).set k (atV p e (k : Nat)) = emS p e (k + 1) ++ List.replicate (m - (k + 1)) (0, 0) := by
 rw [List.set_append_right _ _ (by rw [emS_length]; omega), emS_length, Nat.sub_self, show m - k = m - (k + 1) + 1 by omega, List.replicate_succ, List.set_cons_zero, emS_succ, List.append_assoc]; rfl
theorem emZ_get {p : PlanP} {e : EmitP} {m k : Nat} (h : k < m) : (emS p e k ++ List.replicate (m - k) ((0 : Int), (0 : Int)))[k]? = some (0, 0) := by
 rw [List.getElem?_append_right (by rw [emS_length]; omega), emS_length, Nat.sub_self, List.getElem?_replicate, if_pos (by omega)]
theorem atV_in {p : PlanP} {e : EmitP} (ok : EmOk p e) (n : Int) : inS 127000 (atV p e n) := by
 have am := ok.en.2.2.1
 have pm := ok.pn.2.2.2.2
 have cp := chip_pm ok (ok.per n).1
 have bb := ok.bit (e.pl p n)
 have cl := carP_le (phI_u32 e.ph e.st (e.pl p n))
 unfold atV inS
 dsimp only
 generalize chipI p e (n - e.sta p (e.pl p n)) = x at *
 generalize bitI p e (e.pl p n) = y at *
 generalize carP (phI e.ph e.st (e.pl p n)) = cc at *
 obtain ⟨c1, c2⟩ := cc
 dsimp only at *
 have q : ∃ g : Int, e.amp * x * (1 - 2 * y) = g ∧ -1000 ≤ g ∧ g ≤ 1000 := by
  refine ⟨_, rfl, ?_⟩
  rcases cp with rfl | rfl <;> rcases bb with rfl | rfl <;> omega
 obtain ⟨g, hg, g1, g2⟩ := q
 rw [hg]
 have h1 := mul_bd (k := g) (s := c1) (K := 1000) (S := 127) ⟨g1, g2⟩ ⟨cl.1, cl.2.1⟩
 have h2 := mul_bd (k := g) (s := c2) (K := 1000) (S := 127) ⟨g1, g2⟩ ⟨cl.2.2.1, cl.2.2.2⟩
 exact ⟨by omega, by omega⟩
theorem smps_zeros : ∀ m : Nat, smps (List.replicate m ((0 : Int), (0 : Int))) = List.replicate (m * 2) (.int .i64 0)
 | 0 => rfl
 | m + 1 => by
  rw [List.replicate_succ, smps_cons, smps_zeros m, show (m + 1) * 2 = m * 2 + 1 + 1 by omega, List.replicate_succ, List.replicate_succ]
theorem RI.apart {h : Heap} {v : AV} {l : List Int} {j : Nat} {vs : List AV} {wr : Bool} {u : Nat} (H : RI h v l) (hl : 0 < l.length) (h0 : l.getD 0 0 ≠ 0) (hg : h.get j = some (.cells vs wr u)) (hv : ∀ x ∈ vs, x = .int .i64 0) : j ∉ v.ids := by
 obtain ⟨_, _, ⟨rfl, h1⟩ | ⟨i, o, c, ws, wr', u', rfl, hg', hle, hc, _⟩⟩ := H
 ·simp [AV.ids]
 ·intro hj
  simp only [AV.ids, List.mem_singleton] at hj
  subst hj
  rw [hg] at hg'
  cases hg'
  have e : (ints l)[0]? = some (.int .i64 (l.getD 0 0)) := by simp [ints, hl]
  rw [← hc] at e
  have := hv _ (List.mem_of_mem_drop (List.mem_of_mem_take (List.mem_of_getElem? e)))
  injection this with _ q
  exact h0 q
theorem RI.lt_ids {h : Heap} {v : AV} {l : List Int} (H : RI h v l) : ∀ i ∈ v.ids, i < h.size := by
 obtain ⟨a, b, ⟨rfl, h1⟩ | ⟨i, o, c, ws, wr', u', rfl, hg', hle, hc, x⟩⟩ := H
 ·simp [AV.ids]
 ·intro j hj
  simp only [AV.ids, List.mem_singleton] at hj
  subst hj
  exact Heap.lt_of_get hg'
theorem RI.off {h h' : Heap} {v : AV} {l : List Int} (H : RI h v l) (hh : ∀ i ∈ v.ids, h'.get i = h.get i) : RI h' v l := by
 obtain ⟨a, b, ⟨rfl, h1⟩ | ⟨i, o, c, ws, wr', u', rfl, hg', hle, hc, x⟩⟩ := H
 ·exact ⟨a, b, .inl ⟨rfl, h1⟩⟩
 ·exact ⟨a, b, .inr ⟨i, o, c, ws, wr', u', rfl, (hh i (by simp [AV.ids])).trans hg', hle, hc, x⟩⟩
section
variable {C : Ctx}
set_option maxHeartbeats 4000000 in
set_option maxRecDepth 20000 in
theorem MakeR_one (hC : Has C T232) {vp vb : AV} {p : PlanP} {e : EmitP} {b c m : Nat} {h : Heap} (R : RI h vp p.prns) (h64 : p.ok64) (hz : emitErr p e = 0) (B : RI h vb e.bits) (h65 : e.ok64)
  (hg : h.get b = some (.cells [.int .i64 e.prn, .int .i64 e.dl, .int .i64 e.rt, .int .u32 e.st, .int .u32 e.ph, .int .i64 e.amp, .int .i64 e.ba, vb] true 0)) (hm : m ≤ 1048576) :
  ACalls C 232 [plA p vp, .slice b 0 1 (.known c), .nilslice, .int .i64 (m : Nat)] h (fun r h' => ∃ w, r = .tuple [w, .int .i64 0] ∧ HSub h h' ∧ SI h' w (emS p e m) ∧ ∀ i ∈ w.ids, h.size ≤ i) := by
 have v1 := R.one
 have b1 := B.one
 have ok := emit_ok hz
 have pz : p.err = 0 := by
  unfold emitErr at hz
  split at hz
  ·assumption
  ·exact hz
 have hbl := Heap.lt_of_get hg
 have kP := fun h1 (q : HSub h h1) => CheckPlanR_spec (hC.sub (T' := T220) (by decide)) (v := plA p vp) ⟨vp, rfl, R.mono q⟩ h64
 have kE := fun h1 (q : HSub h h1) => CheckR_spec (hC.sub (T' := T224) (by decide)) (v := plA p vp) (w := emA e vb) ⟨vp, rfl, R.mono q⟩ ⟨vb, rfl, B.mono q⟩ h64 h65
 have kC := fun h1 => Code08_spec (hC.sub (T' := T77) (by decide)) (d := p.d) (p := e.prn) (h := h1) h64.1 h65.1
 have cz := ok.code
 have hb := fun n : Nat => atV_in ok (n : Int)
 rw [cz, if_pos rfl] at kC
 have kA := fun (n : Nat) (hn : n ≤ 1048576) vc h1 (q : HSub h h1) (W : RI h1 vc (codeL p.d e.prn)) => at251_spec (hC.sub (T' := T251) (by decide)) (n := (n : Int)) ok h65 (B.mono q) W v1 (by omega)
 rw [pz] at kP
 rw [hz] at kE
 have zr := smps_replicate (p := (0, 0)) (n := m)
 simp only at zr
 unfold plA emA at *
 have q8 : loadB true 8 0 (some (.cells [.int .i64 p.d, .int .i64 p.o, .int .i64 p.pb, .int .i64 p.w, .int .i64 p.mn, .int .i64 p.mx, .int .i64 p.nz, vp] true 0)) = some (.agg [.int .i64 p.d, .int .i64 p.o, .int .i64 p.pb, .int .i64 p.w, .int .i64 p.mn, .int .i64 p.mx, .int .i64 p.nz, vp]) := rfl
 have q0 : ([.int .i64 p.d, .int .i64 p.o, .int .i64 p.pb, .int .i64 p.w, .int .i64 p.mn, .int .i64 p.mx, .int .i64 p.nz, vp] : List AV)[0]? = some (.int .i64 p.d) := rfl
 have f8 : loadB true 8 0 (some (.cells [.int .i64 e.prn, .int .i64 e.dl, .int .i64 e.rt, .int .u32 e.st, .int .u32 e.ph, .int .i64 e.amp, .int .i64 e.ba, vb] true 0)) = some (.agg [.int .i64 e.prn, .int .i64 e.dl, .int .i64 e.rt, .int .u32 e.st, .int .u32 e.ph, .int .i64 e.amp, .int .i64 e.ba, vb]) := rfl
 have f0 : ([.int .i64 e.prn, .int .i64 e.dl, .int .i64 e.rt, .int .u32 e.st, .int .u32 e.ph, .int .i64 e.amp, .int .i64 e.ba, vb] : List AV)[0]? = some (.int .i64 e.prn) := rfl
 have pone : ([.int .i64 p.d, .int .i64 p.o, .int .i64 p.pb, .int .i64 p.w, .int .i64 p.mn, .int .i64 p.mx, .int .i64 p.nz, vp] : List AV).all AV.one = true := by simp only [List.all_cons, List.all_nil, one_int, v1, Bool.and_self]
 generalize ([.int .i64 p.d, .int .i64 p.o, .int .i64 p.pb, .int .i64 p.w, .int .i64 p.mn, .int .i64 p.mx, .int .i64 p.nz, vp] : List AV) = pc at *
 generalize ([.int .i64 e.prn, .int .i64 e.dl, .int .i64 e.rt, .int .u32 e.st, .int .u32 e.ph, .int .i64 e.amp, .int .i64 e.ba, vb] : List AV) = ec at *
 have gH := hg
 have hs1 := HSub.push1 h (.cells pc true 0)
 have hg1 : (h.push (.cells pc true 0)).get b = some (.cells ec true 0) := (get_push_lt hbl).trans hg
 (refine calls_intro (hC.body (by decide) tab232) (Nat.le_of_ble_eq_true rfl) ?_); (show wp C _ none B232.code _ _); (simp only [B232]); simp -implicitDefEqProofs (disch := first | assumption | decide | omega | (simp only [wpD1] <;> omega) | (simp only [wpD2] <;> assumption) | solve_by_elim [zR, zP, zV] | fail) only [↓wpPre, wpPost, wpPoly, Int.reduceToNat, Int.reducePow, Int.reduceMul, Int.reduceAdd, Int.reduceSub, Int.reduceNeg, Nat.reduceAdd, Nat.reduceMul, Nat.reducePow, Int.reduceLT, Int.reduceLE, Int.reduceEq, Nat.reduceEqDiff, q8]
 refine ACallsK.eq (kP _ hs1) ?_
 simp -implicitDefEqProofs (disch := first | assumption | decide | omega | (simp only [wpD1] <;> omega) | (simp only [wpD2] <;> assumption) | solve_by_elim [zR, zP, zV] | fail) only [↓wpPre, wpPost, wpPoly, Int.reduceToNat, Int.reducePow, Int.reduceMul, Int.reduceAdd, Int.reduceSub, Int.reduceNeg, Nat.reduceAdd, Nat.reduceMul, Nat.reducePow, Int.reduceLT, Int.reduceLE, Int.reduceEq, Nat.reduceEqDiff]
 refine wp_loopI (fun j t h' => h' = h.push (.cells pc true 0) ∧ t 1 = .slice b 0 1 (.known c) ∧ t 2 = .nilslice ∧ t 3 = .int .i64 (m : Nat) ∧ t 4 = .ptr h.size 0 ∧ ∃ k : Nat, t 11 = .int .i64 (k : Nat) ∧ k ≤ 1 ∧ j = 1 - k) (j0 := 1)
  ⟨rfl, rfl, rfl, rfl, rfl, 0, rfl, by omega, rfl⟩ ?_
 rintro j t h1 ⟨rfl, e1, e2, e3, e4, k, e11, hk, hj⟩
 simp -implicitDefEqProofs (disch := first | assumption | decide | omega | (simp only [wpD1] <;> omega) | (simp only [wpD2] <;> assumption) | solve_by_elim [zR, zP, zV] | fail) only [↓wpPre, wpPost, wpPoly, Int.reduceToNat, Int.reducePow, Int.reduceMul, Int.reduceAdd, Int.reduceSub, Int.reduceNeg, Nat.reduceAdd, Nat.reduceMul, Nat.reducePow, Int.reduceLT, Int.reduceLE, Int.reduceEq, Nat.reduceEqDiff, e1, e11]
 refine Br.by (fun c1 => ?_) (fun c1 => ?_)
 ·obtain rfl : k = 0 := by omega
  simp -implicitDefEqProofs (disch := first | assumption | decide | omega | (simp only [wpD1] <;> omega) | (simp only [wpD2] <;> assumption) | solve_by_elim [zR, zP, zV] | fail) only [↓wpPre, wpPost, wpPoly, Int.reduceToNat, Int.reducePow, Int.reduceMul, Int.reduceAdd, Int.reduceSub, Int.reduceNeg, Nat.reduceAdd, Nat.reduceMul, Nat.reducePow, Int.reduceLT, Int.reduceLE, Int.reduceEq, Nat.reduceEqDiff, e1, e4, e11, hg, hg1, q8, f8]
  refine ACallsK.eq (kE _ hs1) ?_
  simp -implicitDefEqProofs (disch := first | assumption | decide | omega | (simp only [wpD1] <;> omega) | (simp only [wpD2] <;> assumption) | solve_by_elim [zR, zP, zV] | fail) only [↓wpPre, wpPost, wpPoly, Int.reduceToNat, Int.reducePow, Int.reduceMul, Int.reduceAdd, Int.reduceSub, Int.reduceNeg, Nat.reduceAdd, Nat.reduceMul, Nat.reducePow, Int.reduceLT, Int.reduceLE, Int.reduceEq, Nat.reduceEqDiff]
  refine wp_loopI (fun j u h' => h' = h.push (.cells pc true 0) ∧ u 1 = .slice b 0 1 (.known c) ∧ u 2 = .nilslice ∧ u 3 = .int .i64 (m : Nat) ∧ u 4 = .ptr h.size 0 ∧ u 11 = .int .i64 ((0 : Nat) : Int) ∧ u 13 = .int .i64 0) (j0 := 0)
   ⟨rfl, e1, e2, e3, e4, e11, rfl⟩ ?_
  rintro j2 u h1 ⟨rfl, e1, e2, e3, e4, e11, e13⟩
  simp -implicitDefEqProofs (disch := first | assumption | decide | omega | (simp only [wpD1] <;> omega) | (simp only [wpD2] <;> assumption) | solve_by_elim [zR, zP, zV] | fail) only [↓wpPre, wpPost, wpPoly, Int.reduceToNat, Int.reducePow, Int.reduceMul, Int.reduceAdd, Int.reduceSub, Int.reduceNeg, Nat.reduceAdd, Nat.reduceMul, Nat.reducePow, Int.reduceLT, Int.reduceLE, Int.reduceEq, Nat.reduceEqDiff, e11, e13]
  exact ⟨_, ⟨e1, e2, e3, e4, 1, rfl, by omega, rfl⟩, by omega⟩
 ·simp -implicitDefEqProofs (disch := first | assumption | decide | omega | (simp only [wpD1] <;> omega) | (simp only [wpD2] <;> assumption) | solve_by_elim [zR, zP, zV] | fail) only [↓wpPre, wpPost, wpPoly, Int.reduceToNat, Int.reducePow, Int.reduceMul, Int.reduceAdd, Int.reduceSub, Int.reduceNeg, Nat.reduceAdd, Nat.reduceMul, Nat.reducePow, Int.reduceLT, Int.reduceLE, Int.reduceEq, Nat.reduceEqDiff, e1, e2, e3, e4]
  refine wp_loopI (fun j u h' => h' = h.push (.cells pc true 0) ∧ u 1 = .slice b 0 1 (.known c) ∧ u 2 = .nilslice ∧ u 3 = .int .i64 (m : Nat) ∧ u 4 = .ptr h.size 0 ∧ u 14 = .int .i64 0) (j0 := 0)
   ⟨rfl, e1, e2, e3, e4, rfl⟩ ?_
  rintro j2 u h1 ⟨rfl, e1, e2, e3, e4, e14⟩
  have cpy : copyA ((h.push (.cells pc true 0)).push (.cells (smps (List.replicate m (0, 0))) true 0)) 2 (.slice (h.size + 1) 0 m (.known m)) .nilslice = some (.int .i64 0, (h.push (.cells pc true 0)).push (.cells (smps (List.replicate m (0, 0))) true 0)) := by
   have g := get_push_eq (h := h.push (.cells pc true 0)) (b := .cells (smps (List.replicate m (0, 0))) true 0) (i := h.size + 1) rfl
   simp only [copyA, contentA, g, Nat.zero_min, Nat.zero_mul, List.take_zero, List.all_nil, Nat.zero_le, Nat.zero_add, and_self, if_true, splice, List.nil_append, List.length_nil, List.drop_zero]
   rw [push_put (h := h.push (.cells pc true 0)) (i := h.size + 1) rfl]; rfl
  simp -implicitDefEqProofs (disch := first | assumption | decide | omega | (simp only [wpD1] <;> omega) | (simp only [wpD2] <;> assumption) | solve_by_elim [zR, zP, zV] | fail) only [↓wpPre, wpPost, wpPoly, Int.reduceToNat, Int.reducePow, Int.reduceMul, Int.reduceAdd, Int.reduceSub, Int.reduceNeg, Nat.reduceAdd, Nat.reduceMul, Nat.reducePow, Int.reduceLT, Int.reduceLE, Int.reduceEq, Nat.reduceEqDiff, e1, e2, e3, e4, e14, zr, cpy]
  refine wp_loopI (fun j u h' => (∃ k : Nat, u 16 = .int .i64 (k : Nat) ∧ k ≤ 1 ∧ j = 1 - k ∧ h'.get (h.size + 1) = some (.cells (smps (if k = 0 then List.replicate m (0, 0) else emS p e m)) true 0)) ∧ HSub (h.push (.cells pc true 0)) h' ∧ h.size + 1 < h'.size ∧ u 1 = .slice b 0 1 (.known c) ∧ u 3 = .int .i64 (m : Nat) ∧ u 4 = .ptr h.size 0 ∧ u 15 = .slice (h.size + 1) 0 m (.known m)) (j0 := 1)
   ⟨⟨0, rfl, by omega, rfl, by simp -implicitDefEqProofs (disch := first | assumption | decide | omega | (simp only [wpD1] <;> omega) | (simp only [wpD2] <;> assumption) | solve_by_elim [zR, zP, zV] | fail) only [↓wpPre, wpPost, wpPoly, Int.reduceToNat, Int.reducePow, Int.reduceMul, Int.reduceAdd, Int.reduceSub, Int.reduceNeg, Nat.reduceAdd, Nat.reduceMul, Nat.reducePow, Int.reduceLT, Int.reduceLE, Int.reduceEq, Nat.reduceEqDiff]; rfl⟩, HSub.push1 _ _, by simp, e1, e3, e4, rfl⟩ ?_
  rintro j3 u h1 ⟨⟨k, e16, hk, hj, gb⟩, sH, zH, e1, e3, e4, e15⟩
  have gp1 : h1.get h.size = some (.cells pc true 0) := (sH.get _ (by simp)).trans (get_push_eq rfl)
  have ge1 : h1.get b = some (.cells ec true 0) := (sH.get _ (by simp; omega)).trans hg1
  simp -implicitDefEqProofs (disch := first | assumption | decide | omega | (simp only [wpD1] <;> omega) | (simp only [wpD2] <;> assumption) | solve_by_elim [zR, zP, zV] | fail) only [↓wpPre, wpPost, wpPoly, Int.reduceToNat, Int.reducePow, Int.reduceMul, Int.reduceAdd, Int.reduceSub, Int.reduceNeg, Nat.reduceAdd, Nat.reduceMul, Nat.reducePow, Int.reduceLT, Int.reduceLE, Int.reduceEq, Nat.reduceEqDiff, e1, e16]
  refine Br.by (fun c1 => ?_) (fun c1 => ?_)
  ·obtain rfl : k = 0 := by omega
   rw [if_pos rfl] at gb
   simp -implicitDefEqProofs (disch := first | assumption | decide | omega | (simp only [wpD1] <;> omega) | (simp only [wpD2] <;> assumption) | solve_by_elim [zR, zP, zV] | fail) only [↓wpPre, wpPost, wpPoly, Int.reduceToNat, Int.reducePow, Int.reduceMul, Int.reduceAdd, Int.reduceSub, Int.reduceNeg, Nat.reduceAdd, Nat.reduceMul, Nat.reducePow, Int.reduceLT, Int.reduceLE, Int.reduceEq, Nat.reduceEqDiff, e1, e3, e4, e15, e16, gp1, ge1, q0, f0]
   refine ACallsK.of (kC _) ?_
   rintro r h2 ⟨vc, rfl, s2, W⟩
   have cl0 : 0 < (codeL p.d e.prn).length := by rw [codeL_length]; have := lenN_eq ok.pn.1; omega
   have c00 : (codeL p.d e.prn).getD 0 0 ≠ 0 := by
    have := codeL_pm (d := p.d) (p := e.prn) (i := 0) (by rw [codeL_length] at cl0; exact cl0)
    omega
   have gb2 := (s2.get _ (by omega)).trans gb
   have nid : h.size + 1 ∉ vc.ids := W.apart cl0 c00 gb2 (fun x hx => by
    have : smps (List.replicate m ((0 : Int), (0 : Int))) = List.replicate (m * 2) (.int .i64 0) := by
     exact smps_zeros m
    rw [this] at hx; exact List.eq_of_mem_replicate hx)
   have vlt : ∀ i ∈ vc.ids, i < h2.size := W.lt_ids
   have gp2 := (s2.get _ (by omega)).trans gp1
   have ge2 := (s2.get _ (by omega)).trans ge1
   have sH2 := sH.trans s2
   have z2 := s2.size
   simp -implicitDefEqProofs (disch := first | assumption | decide | omega | (simp only [wpD1] <;> omega) | (simp only [wpD2] <;> assumption) | solve_by_elim [zR, zP, zV] | fail) only [↓wpPre, wpPost, wpPoly, Int.reduceToNat, Int.reducePow, Int.reduceMul, Int.reduceAdd, Int.reduceSub, Int.reduceNeg, Nat.reduceAdd, Nat.reduceMul, Nat.reducePow, Int.reduceLT, Int.reduceLE, Int.reduceEq, Nat.reduceEqDiff, lstErr]
   refine wp_loopI (fun j u h' => ∃ n : Nat, u 19 = .int .i64 (n : Nat) ∧ n ≤ m ∧ j = m - n ∧ h'.get (h.size + 1) = some (.cells (smps (emS p e n ++ List.replicate (m - n) (0, 0))) true 0) ∧ (∀ i, i < h2.size → i ≠ h.size + 1 → h'.get i = h2.get i) ∧ h2.size ≤ h'.size ∧ u 1 = .slice b 0 1 (.known c) ∧ u 3 = .int .i64 (m : Nat) ∧ u 4 = .ptr h.size 0 ∧ u 15 = .slice (h.size + 1) 0 m (.known m) ∧ u 16 = .int .i64 ((0 : Nat) : Int) ∧ u 17 = vc) (j0 := m)
    ⟨0, rfl, by omega, rfl, gb2, fun _ _ _ => rfl, by omega, e1, e3, e4, e15, e16, rfl⟩ ?_
   rintro j4 u h3 ⟨n, e19, hn, hj4, gb3, K3, z3, e1, e3, e4, e15, e16, e17⟩
   have gp3 := (K3 h.size (by omega) (by omega)).trans gp2
   have ge3 := (K3 b (by omega) (by omega)).trans ge2
   have sub3 : HSub (h.push (.cells pc true 0)) h3 := ⟨by simp only [Heap.size_push]; omega, fun i hi => by
    simp only [Heap.size_push] at hi
    rw [K3 i (by omega) (by omega)]; exact sH2.get i (by simp only [Heap.size_push]; omega)⟩
   have W3 : RI h3 vc (codeL p.d e.prn) := W.off fun i hi => K3 i (vlt i hi) (fun q => nid (q ▸ hi))
   simp -implicitDefEqProofs (disch := first | assumption | decide | omega | (simp only [wpD1] <;> omega) | (simp only [wpD2] <;> assumption) | solve_by_elim [zR, zP, zV] | fail) only [↓wpPre, wpPost, wpPoly, Int.reduceToNat, Int.reducePow, Int.reduceMul, Int.reduceAdd, Int.reduceSub, Int.reduceNeg, Nat.reduceAdd, Nat.reduceMul, Nat.reducePow, Int.reduceLT, Int.reduceLE, Int.reduceEq, Nat.reduceEqDiff, e3, e19]
   refine Br.by (fun c2 => ?_) (fun c2 => ?_)
   ·have hn' : n < m := by omega
    have kA := fun h1 (q : HSub h3 h1) => kA n (by omega) vc h1 ((hs1.trans sub3).trans q) (W3.mono q)
    have hbn := hb n
    have es := emZ_set (p := p) (e := e) hn'
    have ln : (emS p e n ++ List.replicate (m - n) ((0 : Int), (0 : Int))).length = m := by rw [List.length_append, emS_length, List.length_replicate]; omega
    have ln2 : (smps (emS p e n ++ List.replicate (m - n) ((0 : Int), (0 : Int)))).length = m * 2 := by rw [smps_length, ln]
    have sp := smps_splice (l := emS p e n ++ List.replicate (m - n) ((0 : Int), (0 : Int))) (k := n) (p := atV p e (n : Nat)) (by rw [ln]; exact hn')
    have i0 : (smps (emS p e n ++ List.replicate (m - n) ((0 : Int), (0 : Int))))[n * 2]? = some (.int .i64 0) := by rw [smps_get0, emZ_get hn']; rfl
    have i1 : (smps (emS p e n ++ List.replicate (m - n) ((0 : Int), (0 : Int))))[n * 2 + 1]? = some (.int .i64 0) := by rw [smps_get1, emZ_get hn']; rfl
    rw [es] at sp
    generalize atV p e (n : Nat) = y at kA hbn sp
    obtain ⟨y1, y2⟩ := y
    unfold inS at hbn
    unfold smp at kA
    dsimp only at hbn kA sp
    rw [← Int.zero_add y1, ← Int.zero_add y2] at sp
    simp -implicitDefEqProofs (disch := first | assumption | decide | omega | (simp only [wpD1] <;> omega) | (simp only [wpD2] <;> assumption) | solve_by_elim [zR, zP, zV] | fail) only [↓wpPre, wpPost, wpPoly, Int.reduceToNat, Int.reducePow, Int.reduceMul, Int.reduceAdd, Int.reduceSub, Int.reduceNeg, Nat.reduceAdd, Nat.reduceMul, Nat.reducePow, Int.reduceLT, Int.reduceLE, Int.reduceEq, Nat.reduceEqDiff, e1, e4, e15, e16, e17, e19, gp3, ge3, q8, f8, Heap.wf]
    refine ACallsK.eq (kA _ (by repeat (first | exact HSub.refl h3 | refine HSub.put ?_ (by (try simp only [Heap.size_put, Heap.size_push, Heap.size_reserve]); omega) _ | refine HSub.push ?_ _ | refine HSub.reserve ?_ _))) ?_
    simp -implicitDefEqProofs (disch := first | assumption | decide | omega | (simp only [wpD1] <;> omega) | (simp only [wpD2] <;> assumption) | solve_by_elim [zR, zP, zV] | fail) only [↓wpPre, wpPost, wpPoly, Int.reduceToNat, Int.reducePow, Int.reduceMul, Int.reduceAdd, Int.reduceSub, Int.reduceNeg, Nat.reduceAdd, Nat.reduceMul, Nat.reducePow, Int.reduceLT, Int.reduceLE, Int.reduceEq, Nat.reduceEqDiff, e1, e3, e4, e15, e16, e17, e19, gb3, i0, i1, sp, ln2, Heap.wf]
    refine ⟨_, ⟨n + 1, by omega, by omega, rfl, rfl, fun i hi hne => ?_, by omega⟩, by omega⟩
    exact (get_put_ne (by omega)).trans ((get_put_ne (by omega)).trans (K3 i hi hne))
   ·obtain rfl : n = m := by omega
    rw [Nat.sub_self, List.replicate_zero, List.append_nil] at gb3
    simp -implicitDefEqProofs (disch := first | assumption | decide | omega | (simp only [wpD1] <;> omega) | (simp only [wpD2] <;> assumption) | solve_by_elim [zR, zP, zV] | fail) only [↓wpPre, wpPost, wpPoly, Int.reduceToNat, Int.reducePow, Int.reduceMul, Int.reduceAdd, Int.reduceSub, Int.reduceNeg, Nat.reduceAdd, Nat.reduceMul, Nat.reducePow, Int.reduceLT, Int.reduceLE, Int.reduceEq, Nat.reduceEqDiff, e16]
    exact ⟨_, ⟨⟨1, rfl, by omega, rfl, by rw [if_neg (by decide)]; exact gb3⟩, sub3, by omega, e1, e3, e4, e15⟩, by omega⟩
  ·obtain rfl : k = 1 := by omega
   rw [if_neg (by decide)] at gb
   simp -implicitDefEqProofs (disch := first | assumption | decide | omega | (simp only [wpD1] <;> omega) | (simp only [wpD2] <;> assumption) | solve_by_elim [zR, zP, zV] | fail) only [↓wpPre, wpPost, wpPoly, Int.reduceToNat, Int.reducePow, Int.reduceMul, Int.reduceAdd, Int.reduceSub, Int.reduceNeg, Nat.reduceAdd, Nat.reduceMul, Nat.reducePow, Int.reduceLT, Int.reduceLE, Int.reduceEq, Nat.reduceEqDiff, e15]
   exact ⟨_, rfl, ((HSub.push1 _ _).trans sH), SI.known gb ⟨(emS_length _ _ _).symm, by omega⟩ (Nat.le_refl _), fun i hi => by simp [AV.ids] at hi; omega⟩
end
end Go.Ae
/- Sums of levels with codes, in plain numbers. -/
set_option linter.unusedSimpArgs false
set_option linter.unusedVariables false
namespace Go.Ae
def atP (s : List (Int × Int)) (i : Int) : Int × Int := if i < 0 ∨ (s.length : Int) ≤ i then (0, 0) else s.getD i.toNat (0, 0)
def mulP (x : Int × Int) (c : Int) : Int × Int := (x.1 * c, x.2 * c)
def sumK (s : List (Int × Int)) (c : List Int) (a : Int) : Nat → Int × Int
 | 0 => (0, 0)
 | k + 1 => addP (sumK s c a k) (mulP (atP s (a + (k : Nat))) (c.getD k 0))
def sumP (s : List (Int × Int)) (c : List Int) (a : Int) : Int × Int := sumK s c a c.length
theorem inS_mono {A B : Int} {x : Int × Int} (h : inS A x) (hB : A ≤ B) : inS B x := by unfold inS at *; omega
theorem inS_add {A B : Int} {x y : Int × Int} (h : inS A x) (h' : inS B y) : inS (A + B) (addP x y) := by unfold inS addP at *; simp only; omega
theorem atP_le {s : List (Int × Int)} (h : ∀ x ∈ s, inS 127 x) (i : Int) : inS 127 (atP s i) := by
 unfold atP
 split
 ·unfold inS; simp
 ·exact h _ (getP_mem (by omega))
theorem mul_one {x c B : Int} (hx : -B ≤ x ∧ x ≤ B) (hc : -1 ≤ c ∧ c ≤ 1) : -B ≤ x * c ∧ x * c ≤ B := by
 rcases (show c = -1 ∨ c = 0 ∨ c = 1 by omega) with rfl | rfl | rfl <;> omega
theorem mulP_le {x : Int × Int} {c B : Int} (hx : inS B x) (hc : -1 ≤ c ∧ c ≤ 1) : inS B (mulP x c) := ⟨mul_one hx.1 hc, mul_one hx.2 hc⟩
theorem sumK_le {s : List (Int × Int)} {c : List Int} {a : Int} (hs : ∀ x ∈ s, inS 127 x) (hc : one1 c) : ∀ k : Nat, inS (127 * k) (sumK s c a k)
 | 0 => by unfold inS sumK; simp
 | k + 1 => by
  have := inS_add (sumK_le (a := a) hs hc k) (mulP_le (atP_le hs (a + (k : Nat))) (hc.get k))
  rw [sumK]
  exact inS_mono this (by omega)
theorem atP_in {s : List (Int × Int)} {i : Int} (h0 : 0 ≤ i) (h1 : i < s.length) : atP s i = s.getD i.toNat (0, 0) := by unfold atP; rw [if_neg (by omega)]
def bankErr (s : List (Int × Int)) (d o p a : Int) : Int := if 1048576 < s.length then 4 else if ¬ ∀ x ∈ s, inS 127 x then 2 else if sampErr d o [p] ≠ 0 then 2 else if a < -2000000 ∨ 2000000 < a then 2 else 0
def manyE (e many most : Int) : Int := if e ≠ 0 then e else if many < 0 ∨ most < many then 2 else 0
def bankL (s : List (Int × Int)) (c : List Int) (a w : Int) (k : Nat) : List (Int × Int) := (List.range k).map fun j => sumP s c (a + (j : Nat) * w)
theorem bankL_length (s : List (Int × Int)) (c : List Int) (a w : Int) (k : Nat) : (bankL s c a w k).length = k := by simp [bankL]
theorem bankL_succ (s : List (Int × Int)) (c : List Int) (a w : Int) (k : Nat) : bankL s c a w (k + 1) = bankL s c a w k ++ [sumP s c (a + (k : Nat) * w)] := by simp [bankL, List.range_succ]
theorem bankZ_set {s : List (Int × Int)} {c : List Int} {a w : Int} {m k : Nat} (h : k < m) : (bankL s c a w k ++ List.replicate (m - k) (0, 0)).set k (sumP s c (a + (k : Nat) * w)) = bankL s c a w (k + 1) ++ List.replicate (m - (k + 1)) (0, 0) := by
 rw [List.set_append_right _ _ (by rw [bankL_length]; omega), bankL_length, Nat.sub_self, show m - k = m - (k + 1) + 1 by omega, List.replicate_succ, List.set_cons_zero, bankL_succ, List.append_assoc]
 rfl
end Go.Ae
/- Parts of placements, of the program and of the reference. -/
set_option linter.unusedSimpArgs false
set_option linter.unusedVariables false
namespace Go.Ae
section
variable {C : Ctx}
end
end Go.Ae
/- The greatest sum over placements, of the program and of the reference. -/
set_option linter.unusedSimpArgs false
set_option linter.unusedVariables false
namespace Go.Ae
section
variable {C : Ctx}
end
end Go.Ae
/- The greatest sum over placements, of the program and of the reference: contracts. -/
set_option linter.unusedSimpArgs false
set_option linter.unusedVariables false
namespace Go.Ae
section
variable {C : Ctx}
end
end Go.Ae
/- Parts, Side and Cross, of the program. -/
set_option linter.unusedSimpArgs false
set_option linter.unusedVariables false
namespace Go.Ae
theorem CLs.two {h : Heap} {v : AV} {d o p q : Int} {vs : List AV} (H : CLs h v d o [p, q] vs) : ∃ w1 w2, RI h w1 (sampL d p o.toNat) ∧ RI h w2 (sampL d q o.toNat) ∧ idxA 2 v (.int .i64 0) = some (elA 2 v 0) ∧ idxA 2 v (.int .i64 1) = some (elA 2 v 1) ∧
  Ae.loadA h true 2 (elA 2 v 0) = some (.agg [w1, .int .i64 o]) ∧ Ae.loadA h true 2 (elA 2 v 1) = some (.agg [w2, .int .i64 o]) ∧ fieldAddrA 0 (elA 2 v 0) = some (elF 2 v 0 0) ∧ Ae.loadA h false 1 (elF 2 v 0 0) = some w1 := by
 obtain ⟨w1, w2, rfl⟩ : ∃ w1 w2, vs = [w1, w2] := by
  have := H.len
  match vs, this with
  | [a, b], _ => exact ⟨a, b, rfl⟩
 have l0 := H.sl.loadA (k := 0) (by simp)
 have l1 := H.sl.loadA (k := 1) (by simp)
 have lf := H.sl.loadE (k := 0) (off := 0) (by simp) (by decide)
 exact ⟨w1, w2, H.ri 0 (by simp), H.ri 1 (by simp), H.sl.idx (k := 0) (by simp), H.sl.idx (k := 1) (by simp), l0, l1, H.sl.fldE 0 0 (by simp), lf⟩
theorem CLs.one {h : Heap} {v : AV} {d o p : Int} {vs : List AV} (H : CLs h v d o [p] vs) : ∃ w1, RI h w1 (sampL d p o.toNat) ∧ idxA 2 v (.int .i64 0) = some (elA 2 v 0) ∧ Ae.loadA h true 2 (elA 2 v 0) = some (.agg [w1, .int .i64 o]) := by
 obtain ⟨w1, rfl⟩ : ∃ w1, vs = [w1] := by
  have := H.len
  match vs, this with
  | [a], _ => exact ⟨a, rfl⟩
 exact ⟨w1, H.ri 0 (by simp), H.sl.idx (k := 0) (by simp), H.sl.loadA (k := 0) (by simp)⟩
theorem sampErr_cases (d o : Int) (ps : List Int) : sampErr d o ps = 0 ∨ sampErr d o ps = 2 := by unfold sampErr; split <;> simp
theorem sampErr_ok {d o : Int} {ps : List Int} (h : sampErr d o ps = 0) : lenOk d = true ∧ (1 ≤ o ∧ o ≤ 8) ∧ ∀ p ∈ ps, codeErr d p = 0 := by
 unfold sampErr at h
 split at h
 ·rename_i c
  have k := c.1
  unfold knownErr at k
  split at k
  ·rename_i kk; exact ⟨kk.1, kk.2, c.2⟩
  ·cases k
 ·cases h
def partsOk (d o p q m s : Int) : Prop := sampErr d o [p, q] = 0 ∧ (-1 ≤ s ∧ s ≤ 1) ∧ 0 ≤ m ∧ m ≤ lenN d * o + min s 0
instance (d o p q m s : Int) : Decidable (partsOk d o p q m s) := by unfold partsOk; exact inferInstance
section
variable {C : Ctx}
end
end Go.Ae
/- Samples, Parts, Side and Cross, of the reference. -/
set_option linter.unusedSimpArgs false
set_option linter.unusedVariables false
namespace Go.Ae
section
variable {C : Ctx}
theorem knownR_spec (hC : Has C T179) {d o : Int} {h : Heap} (hd : In64 d) (ho : In64 o) : ACalls C 179 [.int .i64 d, .int .i64 o] h (fun r h' => r = .int .i64 (knownErr d o) ∧ h' = h) := by
 unfold In64 at ho
 by_cases c : lenOk d = true
 ·have e : lenE d = tup2 (lenN d) 0 := by unfold lenE; rw [if_pos c]
  by_cases co : 1 ≤ o ∧ o ≤ 8
  ·have pe : knownErr d o = 0 := by unfold knownErr; rw [if_pos ⟨c, co⟩]
   rw [pe]
   (refine calls_intro (hC.body (by decide) tab179) (Nat.le_of_ble_eq_true rfl) ?_); (show wp C _ none B179.code _ _); (simp only [B179]); simp -implicitDefEqProofs (disch := first | assumption | decide | omega | (simp only [wpD1] <;> omega) | (simp only [wpD2] <;> assumption) | solve_by_elim [zR, zP, zV] | fail) only [↓wpPre, wpPost, wpPoly, Int.reduceToNat, Int.reducePow, Int.reduceMul, Int.reduceAdd, Int.reduceSub, Int.reduceNeg, Nat.reduceAdd, Nat.reduceMul, Nat.reducePow, Int.reduceLT, Int.reduceLE, Int.reduceEq, Nat.reduceEqDiff]
   refine ACallsK.eq2 (Length08_spec (hC.sub (T' := T71) (by decide)) hd) e ?_
   simp -implicitDefEqProofs (disch := first | assumption | decide | omega | (simp only [wpD1] <;> omega) | (simp only [wpD2] <;> assumption) | solve_by_elim [zR, zP, zV] | fail) only [↓wpPre, wpPost, wpPoly, Int.reduceToNat, Int.reducePow, Int.reduceMul, Int.reduceAdd, Int.reduceSub, Int.reduceNeg, Nat.reduceAdd, Nat.reduceMul, Nat.reducePow, Int.reduceLT, Int.reduceLE, Int.reduceEq, Nat.reduceEqDiff, tup2]
  ·have pe : knownErr d o = 2 := by unfold knownErr; rw [if_neg (fun h => co h.2)]
   rw [pe]
   (refine calls_intro (hC.body (by decide) tab179) (Nat.le_of_ble_eq_true rfl) ?_); (show wp C _ none B179.code _ _); (simp only [B179]); simp -implicitDefEqProofs (disch := first | assumption | decide | omega | (simp only [wpD1] <;> omega) | (simp only [wpD2] <;> assumption) | solve_by_elim [zR, zP, zV] | fail) only [↓wpPre, wpPost, wpPoly, Int.reduceToNat, Int.reducePow, Int.reduceMul, Int.reduceAdd, Int.reduceSub, Int.reduceNeg, Nat.reduceAdd, Nat.reduceMul, Nat.reducePow, Int.reduceLT, Int.reduceLE, Int.reduceEq, Nat.reduceEqDiff]
   refine ACallsK.eq2 (Length08_spec (hC.sub (T' := T71) (by decide)) hd) e ?_
   simp -implicitDefEqProofs (disch := first | assumption | decide | omega | (simp only [wpD1] <;> omega) | (simp only [wpD2] <;> assumption) | solve_by_elim [zR, zP, zV] | fail) only [↓wpPre, wpPost, wpPoly, Int.reduceToNat, Int.reducePow, Int.reduceMul, Int.reduceAdd, Int.reduceSub, Int.reduceNeg, Nat.reduceAdd, Nat.reduceMul, Nat.reducePow, Int.reduceLT, Int.reduceLE, Int.reduceEq, Nat.reduceEqDiff, tup2]
   (repeat' (first | (refine Br.by (fun _ => ?_) (fun _ => ?_)) | (simp -implicitDefEqProofs (disch := first | assumption | decide | omega | (simp only [wpD1] <;> omega) | (simp only [wpD2] <;> assumption) | solve_by_elim [zR, zP, zV] | fail) only [↓wpPre, wpPost, wpPoly, Int.reduceToNat, Int.reducePow, Int.reduceMul, Int.reduceAdd, Int.reduceSub, Int.reduceNeg, Nat.reduceAdd, Nat.reduceMul, Nat.reducePow, Int.reduceLT, Int.reduceLE, Int.reduceEq, Nat.reduceEqDiff])))
   all_goals omega
 ·have e : lenE d = tup2 0 2 := by unfold lenE; rw [if_neg c]
  have pe : knownErr d o = 2 := by unfold knownErr; rw [if_neg (fun h => c h.1)]
  rw [pe]
  (refine calls_intro (hC.body (by decide) tab179) (Nat.le_of_ble_eq_true rfl) ?_); (show wp C _ none B179.code _ _); (simp only [B179]); simp -implicitDefEqProofs (disch := first | assumption | decide | omega | (simp only [wpD1] <;> omega) | (simp only [wpD2] <;> assumption) | solve_by_elim [zR, zP, zV] | fail) only [↓wpPre, wpPost, wpPoly, Int.reduceToNat, Int.reducePow, Int.reduceMul, Int.reduceAdd, Int.reduceSub, Int.reduceNeg, Nat.reduceAdd, Nat.reduceMul, Nat.reducePow, Int.reduceLT, Int.reduceLE, Int.reduceEq, Nat.reduceEqDiff]
  refine ACallsK.eq2 (Length08_spec (hC.sub (T' := T71) (by decide)) hd) e ?_
  simp -implicitDefEqProofs (disch := first | assumption | decide | omega | (simp only [wpD1] <;> omega) | (simp only [wpD2] <;> assumption) | solve_by_elim [zR, zP, zV] | fail) only [↓wpPre, wpPost, wpPoly, Int.reduceToNat, Int.reducePow, Int.reduceMul, Int.reduceAdd, Int.reduceSub, Int.reduceNeg, Nat.reduceAdd, Nat.reduceMul, Nat.reducePow, Int.reduceLT, Int.reduceLE, Int.reduceEq, Nat.reduceEqDiff, tup2]
def sampK (d p : Int) (o k : Nat) : List Int := (List.range k).map fun i => (codeL d p).getD (i / o) 0
theorem sampK_length (d p : Int) (o k : Nat) : (sampK d p o k).length = k := by simp [sampK]
theorem sampK_succ (d p : Int) (o k : Nat) : sampK d p o (k + 1) = sampK d p o k ++ [(codeL d p).getD (k / o) 0] := by simp [sampK, List.range_succ]
set_option maxHeartbeats 1000000 in
theorem SamplesR_spec (hC : Has C T169) {d o p : Int} {h : Heap} (hd : In64 d) (ho : In64 o) (hp : In64 p) :
  ACalls C 169 [.int .i64 d, .int .i64 o, .int .i64 p] h (fun r h' => ∃ v, r = lstErr v (sampErr d o [p]) ∧ HSub h h' ∧ RI h' v (if sampErr d o [p] = 0 then sampL d p o.toNat else [])) := by
 rcases sampErr_cases d o [p] with c | c
 ·have ok := sampErr_ok c
  have hN := lenN_eq ok.1
  have ck : knownErr d o = 0 := by unfold knownErr; rw [if_pos ⟨ok.1, ok.2.1⟩]
  have cc : codeErr d p = 0 := ok.2.2 p (by simp)
  obtain ⟨q, rfl⟩ := Int.eq_ofNat_of_zero_le (show 0 ≤ o by omega)
  have ho1 : 1 ≤ q := by omega
  rw [c, if_pos rfl, Int.toNat_natCast]
  have hcode := Code08_spec (hC.sub (T' := T77) (by decide)) (h := h) hd hp
  rw [cc, if_pos rfl] at hcode
  have cl := codeL_length d p
  have sz1 : lenN d ≤ lenN d * q := Nat.le_mul_of_pos_right _ (by omega)
  have sz2 : lenN d * q ≤ 1023 * 8 := Nat.mul_le_mul (by omega) (by omega)
  have em : (lenN d : Int) * (q : Nat) = ((lenN d * q : Nat) : Int) := by omega
  have full : sampK d p q (lenN d * q) = sampL d p q := (sampL_eq d p ho1).symm
  (refine calls_intro (hC.body (by decide) tab169) (Nat.le_of_ble_eq_true rfl) ?_); (show wp C _ none B169.code _ _); (simp only [B169]); simp -implicitDefEqProofs (disch := first | assumption | decide | omega | (simp only [wpD1] <;> omega) | (simp only [wpD2] <;> assumption) | solve_by_elim [zR, zP, zV] | fail) only [↓wpPre, wpPost, wpPoly, Int.reduceToNat, Int.reducePow, Int.reduceMul, Int.reduceAdd, Int.reduceSub, Int.reduceNeg, Nat.reduceAdd, Nat.reduceMul, Nat.reducePow, Int.reduceLT, Int.reduceLE, Int.reduceEq, Nat.reduceEqDiff]
  refine ACallsK.eq (knownR_spec (hC.sub (T' := T179) (by decide)) hd ho) ?_
  rw [ck]
  simp -implicitDefEqProofs (disch := first | assumption | decide | omega | (simp only [wpD1] <;> omega) | (simp only [wpD2] <;> assumption) | solve_by_elim [zR, zP, zV] | fail) only [↓wpPre, wpPost, wpPoly, Int.reduceToNat, Int.reducePow, Int.reduceMul, Int.reduceAdd, Int.reduceSub, Int.reduceNeg, Nat.reduceAdd, Nat.reduceMul, Nat.reducePow, Int.reduceLT, Int.reduceLE, Int.reduceEq, Nat.reduceEqDiff]
  refine ACallsK.of hcode ?_
  rintro r h1 ⟨v1, rfl, s1, R1⟩
  simp -implicitDefEqProofs (disch := first | assumption | decide | omega | (simp only [wpD1] <;> omega) | (simp only [wpD2] <;> assumption) | solve_by_elim [zR, zP, zV] | fail) only [↓wpPre, wpPost, wpPoly, Int.reduceToNat, Int.reducePow, Int.reduceMul, Int.reduceAdd, Int.reduceSub, Int.reduceNeg, Nat.reduceAdd, Nat.reduceMul, Nat.reducePow, Int.reduceLT, Int.reduceLE, Int.reduceEq, Nat.reduceEqDiff, lstErr]
  refine wp_loopI (fun j t h' => ∃ k : Nat, GrwI h1 h' (t 11) (sampK d p q k) ∧ t 1 = .int .i64 (q : Nat) ∧ t 9 = v1 ∧ t 12 = .int .i64 (k : Nat) ∧ k ≤ lenN d * q ∧ j = lenN d * q - k) (j0 := lenN d * q)
   ⟨0, GrwI.nil _, rfl, rfl, rfl, by omega, rfl⟩ ?_
  rintro j t h2 ⟨k, A, e1, e9, e12, hk, hj⟩
  have R2 := R1.mono A.sub
  simp -implicitDefEqProofs (disch := first | assumption | decide | omega | (simp only [wpD1] <;> omega) | (simp only [wpD2] <;> assumption) | solve_by_elim [zR, zP, zV] | fail) only [↓wpPre, wpPost, wpPoly, Int.reduceToNat, Int.reducePow, Int.reduceMul, Int.reduceAdd, Int.reduceSub, Int.reduceNeg, Nat.reduceAdd, Nat.reduceMul, Nat.reducePow, Int.reduceLT, Int.reduceLE, Int.reduceEq, Nat.reduceEqDiff, e1, e9, e12, R2.len, cl, em]
  refine Br.by (fun c1 => ?_) (fun c1 => ?_)
  ·have hk' : k < lenN d * q := by omega
   have hdv : k / q < lenN d := Nat.div_lt_of_lt_mul (by rw [Nat.mul_comm]; exact hk')
   have ed : (k : Int) / (q : Nat) = ((k / q : Nat) : Int) := (Int.natCast_ediv _ _).symm
   generalize hg : k / q = g at hdv ed
   have ld := R2.load (k := g) (by omega)
   have sl := sampK_length d p q k
   have su := sampK_succ d p q k
   rw [hg] at su
   obtain ⟨x, hx⟩ : ∃ x, x = (codeL d p).getD g 0 := ⟨_, rfl⟩
   rw [← hx] at su ld
   have A2 := A.snoc (x := x) (HSub.push1 h2 (.cells [.int .i64 x] true 0)) (by omega)
   rw [← su, sl] at A2
   simp -implicitDefEqProofs (disch := first | assumption | decide | omega | (simp only [wpD1] <;> omega) | (simp only [wpD2] <;> assumption) | solve_by_elim [zR, zP, zV] | fail) only [↓wpPre, wpPost, wpPoly, Int.reduceToNat, Int.reducePow, Int.reduceMul, Int.reduceAdd, Int.reduceSub, Int.reduceNeg, Nat.reduceAdd, Nat.reduceMul, Nat.reducePow, Int.reduceLT, Int.reduceLE, Int.reduceEq, Nat.reduceEqDiff, e1, e9, e12, ed, R2.idx, ld, cont_slice, contB_one, A.app, sl, ← su]
   exact ⟨_, ⟨k + 1, A2, by simp, by omega, rfl⟩, by omega⟩
  ·have ek : k = lenN d * q := by omega
   subst ek
   rw [full] at A
   simp -implicitDefEqProofs (disch := first | assumption | decide | omega | (simp only [wpD1] <;> omega) | (simp only [wpD2] <;> assumption) | solve_by_elim [zR, zP, zV] | fail) only [↓wpPre, wpPost, wpPoly, Int.reduceToNat, Int.reducePow, Int.reduceMul, Int.reduceAdd, Int.reduceSub, Int.reduceNeg, Nat.reduceAdd, Nat.reduceMul, Nat.reducePow, Int.reduceLT, Int.reduceLE, Int.reduceEq, Nat.reduceEqDiff]
   exact ⟨_, rfl, s1.trans A.sub, A.ri⟩
 ·rw [c, if_neg (by decide)]
  by_cases ck : knownErr d o = 0
  ·have cc : codeErr d p = 2 := by
    rw [sampErr_one] at c
    have : ¬ codeErr d p = 0 := fun h => by rw [if_pos ⟨ck, h⟩] at c; cases c
    unfold codeErr at this ⊢; split at this <;> first | exact absurd rfl this | (rename_i h; rw [if_neg h])
   have hcode := Code08_spec (hC.sub (T' := T77) (by decide)) (h := h) hd hp
   rw [cc] at hcode
   (refine calls_intro (hC.body (by decide) tab169) (Nat.le_of_ble_eq_true rfl) ?_); (show wp C _ none B169.code _ _); (simp only [B169]); simp -implicitDefEqProofs (disch := first | assumption | decide | omega | (simp only [wpD1] <;> omega) | (simp only [wpD2] <;> assumption) | solve_by_elim [zR, zP, zV] | fail) only [↓wpPre, wpPost, wpPoly, Int.reduceToNat, Int.reducePow, Int.reduceMul, Int.reduceAdd, Int.reduceSub, Int.reduceNeg, Nat.reduceAdd, Nat.reduceMul, Nat.reducePow, Int.reduceLT, Int.reduceLE, Int.reduceEq, Nat.reduceEqDiff]
   refine ACallsK.eq (knownR_spec (hC.sub (T' := T179) (by decide)) hd ho) ?_
   rw [ck]
   simp -implicitDefEqProofs (disch := first | assumption | decide | omega | (simp only [wpD1] <;> omega) | (simp only [wpD2] <;> assumption) | solve_by_elim [zR, zP, zV] | fail) only [↓wpPre, wpPost, wpPoly, Int.reduceToNat, Int.reducePow, Int.reduceMul, Int.reduceAdd, Int.reduceSub, Int.reduceNeg, Nat.reduceAdd, Nat.reduceMul, Nat.reducePow, Int.reduceLT, Int.reduceLE, Int.reduceEq, Nat.reduceEqDiff]
   refine ACallsK.of hcode ?_
   rintro r h1 ⟨v1, rfl, s1, R1⟩
   simp -implicitDefEqProofs (disch := first | assumption | decide | omega | (simp only [wpD1] <;> omega) | (simp only [wpD2] <;> assumption) | solve_by_elim [zR, zP, zV] | fail) only [↓wpPre, wpPost, wpPoly, Int.reduceToNat, Int.reducePow, Int.reduceMul, Int.reduceAdd, Int.reduceSub, Int.reduceNeg, Nat.reduceAdd, Nat.reduceMul, Nat.reducePow, Int.reduceLT, Int.reduceLE, Int.reduceEq, Nat.reduceEqDiff, lstErr]
   exact ⟨_, rfl, s1, RI.nil⟩
  ·have ck2 : knownErr d o = 2 := by unfold knownErr at ck ⊢; split at ck <;> first | exact absurd rfl ck | (rename_i h; rw [if_neg h])
   (refine calls_intro (hC.body (by decide) tab169) (Nat.le_of_ble_eq_true rfl) ?_); (show wp C _ none B169.code _ _); (simp only [B169]); simp -implicitDefEqProofs (disch := first | assumption | decide | omega | (simp only [wpD1] <;> omega) | (simp only [wpD2] <;> assumption) | solve_by_elim [zR, zP, zV] | fail) only [↓wpPre, wpPost, wpPoly, Int.reduceToNat, Int.reducePow, Int.reduceMul, Int.reduceAdd, Int.reduceSub, Int.reduceNeg, Nat.reduceAdd, Nat.reduceMul, Nat.reducePow, Int.reduceLT, Int.reduceLE, Int.reduceEq, Nat.reduceEqDiff]
   refine ACallsK.eq (knownR_spec (hC.sub (T' := T179) (by decide)) hd ho) ?_
   rw [ck2]
   simp -implicitDefEqProofs (disch := first | assumption | decide | omega | (simp only [wpD1] <;> omega) | (simp only [wpD2] <;> assumption) | solve_by_elim [zR, zP, zV] | fail) only [↓wpPre, wpPost, wpPoly, Int.reduceToNat, Int.reducePow, Int.reduceMul, Int.reduceAdd, Int.reduceSub, Int.reduceNeg, Nat.reduceAdd, Nat.reduceMul, Nat.reducePow, Int.reduceLT, Int.reduceLE, Int.reduceEq, Nat.reduceEqDiff, lstErr]
   exact ⟨_, rfl, HSub.refl _, RI.nil⟩
end
end Go.Ae
/- Sums of levels with codes, of the program and of the reference. -/
set_option linter.unusedSimpArgs false
set_option linter.unusedVariables false
namespace Go.Ae
def corA (v w : AV) : AV := .agg [v, w]
theorem fill_two {v w : AV} (hv : v.cells = [v]) (hw : w.cells = [w]) : fillA [.nilslice, .nilslice] [(0, 1, v), (1, 1, w)] = some [v, w] := by simp [fillA, hv, hw]
theorem storeB_two {H : Heap} {i : Nat} {v w a b : AV} (hv : v.one = true) (hw : w.one = true) : storeB H i 2 0 (.agg [v, w]) (some (.cells [a, b] true 0)) = some (H.put i (.cells [v, w] true 0)) :=
 storeB_agg (xs := [v, w]) (vs := [a, b]) rfl (Nat.le_refl _) (by simp [hv, hw])
theorem RI.putNil {h : Heap} {v : AV} {l : List Int} {i : Nat} {b : ABlk} {wr : Bool} {u : Nat} (R : RI h v l) (h0 : 0 < l.length) (hg : h.get i = some (.cells [.nilslice, .nilslice] wr u)) : RI (h.put i b) v l := by
 obtain ⟨hl, hlt, ⟨rfl, e⟩ | ⟨j, o, cp, vs, wr', u', rfl, hj, ho, hc, r⟩⟩ := R
 ·omega
 ·have ne : j ≠ i := by
   rintro rfl
   rw [hg] at hj
   cases hj
   have m1 : AV.int .i64 (l.getD 0 0) ∈ ints l := List.mem_map.2 ⟨_, getD_mem h0, rfl⟩
   rw [← hc] at m1
   have m2 := List.mem_of_mem_drop (List.mem_of_mem_take m1)
   simp at m2
  exact ⟨hl, hlt, .inr ⟨j, o, cp, vs, wr', u', rfl, (get_put_ne ne).trans hj, ho, hc, r⟩⟩
section
variable {C : Ctx}
theorem at303_spec (hC : Has C T303) {v w : AV} {s : List (Int × Int)} {i : Int} {h : Heap} (hs : SI h v s) : ACalls C 303 [corA v w, .int .i64 i] h (fun r h' => r = smp (atP s i) ∧ h' = h) := by
 refine ACalls.gc0 (P := fun r h' => r = smp (atP s i) ∧ HSub h h') ?_ (fun r h' hp => ⟨by rw [hp.1]; exact smp_free _, hp.2, hp.1, rfl⟩)
 have hlt := hs.lt
 have h1 := hs.one
 unfold corA
 by_cases c : i < 0 ∨ (s.length : Int) ≤ i
 ·have e : atP s i = (0, 0) := by unfold atP; rw [if_pos c]
  rw [e]
  unfold smp
  (refine calls_intro (hC.body (by decide) tab303) (Nat.le_of_ble_eq_true rfl) ?_); (show wp C _ none B303.code _ _); (simp only [B303]); simp -implicitDefEqProofs (disch := first | assumption | decide | omega | (simp only [wpD1] <;> omega) | (simp only [wpD2] <;> assumption) | solve_by_elim [zR, zP, zV] | fail) only [↓wpPre, wpPost, wpPoly, Int.reduceToNat, Int.reducePow, Int.reduceMul, Int.reduceAdd, Int.reduceSub, Int.reduceNeg, Nat.reduceAdd, Nat.reduceMul, Nat.reducePow, Int.reduceLT, Int.reduceLE, Int.reduceEq, Nat.reduceEqDiff, hs.len, gV_u]
  (repeat' (first | (refine Br.by (fun _ => ?_) (fun _ => ?_)) | (simp -implicitDefEqProofs (disch := first | assumption | decide | omega | (simp only [wpD1] <;> omega) | (simp only [wpD2] <;> assumption) | solve_by_elim [zR, zP, zV] | fail) only [↓wpPre, wpPost, wpPoly, Int.reduceToNat, Int.reducePow, Int.reduceMul, Int.reduceAdd, Int.reduceSub, Int.reduceNeg, Nat.reduceAdd, Nat.reduceMul, Nat.reducePow, Int.reduceLT, Int.reduceLE, Int.reduceEq, Nat.reduceEqDiff, hs.len, gV_u])))
  all_goals first
   | (exfalso; omega)
   | exact (by repeat (first | exact HSub.refl h | refine HSub.put ?_ (by (try simp only [Heap.size_put, Heap.size_push, Heap.size_reserve]); omega) _ | refine HSub.push ?_ _ | refine HSub.reserve ?_ _))
 ·have e : atP s i = s.getD i.toNat (0, 0) := by unfold atP; rw [if_neg c]
  rw [e]
  have ld := fun b c => (hs.mono ((HSub.push1 h b).push c)).loadA (k := i.toNat) (by omega)
  generalize s.getD i.toNat (0, 0) = x at *
  obtain ⟨xx, xy⟩ := x
  unfold smp at ld ⊢
  dsimp only at ld
  have hi : 0 ≤ i ∧ i < s.length := by omega
  have ix := hs.idx (kk := .i64) hi
  (refine calls_intro (hC.body (by decide) tab303) (Nat.le_of_ble_eq_true rfl) ?_); (show wp C _ none B303.code _ _); (simp only [B303]); simp -implicitDefEqProofs (disch := first | assumption | decide | omega | (simp only [wpD1] <;> omega) | (simp only [wpD2] <;> assumption) | solve_by_elim [zR, zP, zV] | fail) only [↓wpPre, wpPost, wpPoly, Int.reduceToNat, Int.reducePow, Int.reduceMul, Int.reduceAdd, Int.reduceSub, Int.reduceNeg, Nat.reduceAdd, Nat.reduceMul, Nat.reducePow, Int.reduceLT, Int.reduceLE, Int.reduceEq, Nat.reduceEqDiff, hs.len, gV_u, ix, ld]
  exact (by repeat (first | exact HSub.refl h | refine HSub.put ?_ (by (try simp only [Heap.size_put, Heap.size_push, Heap.size_reserve]); omega) _ | refine HSub.push ?_ _ | refine HSub.reserve ?_ _))
set_option maxHeartbeats 2000000 in
set_option maxRecDepth 20000 in
theorem sum293_spec (hC : Has C T293) {v w : AV} {s : List (Int × Int)} {c : List Int} {a : Int} {h : Heap} (hs : SI h v s) (hc : RI h w c) (hi : ∀ x ∈ s, inS 127 x) (ho : one1 c) (hcl : c.length ≤ 100000) (ha : -100000000 ≤ a ∧ a ≤ 100000000) :
  ACalls C 293 [corA v w, .int .i64 a] h (fun r h' => r = smp (sumP s c a) ∧ h' = h) := by
 refine ACalls.gc0 (P := fun r h' => r = smp (sumP s c a) ∧ HSub h h') ?_ (fun r h' hp => ⟨by rw [hp.1]; exact smp_free _, hp.2, hp.1, rfl⟩)
 have hlt := hs.lt
 have v1 := hs.one
 have w1 := hc.one
 have kat := fun (i : Int) h1 (q : HSub h h1) => at303_spec (hC.sub (T' := T303) (by decide)) (w := w) (i := i) (hs.mono q)
 unfold corA at kat ⊢
 (refine calls_intro (hC.body (by decide) tab293) (Nat.le_of_ble_eq_true rfl) ?_); (show wp C _ none B293.code _ _); (simp only [B293]); simp -implicitDefEqProofs (disch := first | assumption | decide | omega | (simp only [wpD1] <;> omega) | (simp only [wpD2] <;> assumption) | solve_by_elim [zR, zP, zV] | fail) only [↓wpPre, wpPost, wpPoly, Int.reduceToNat, Int.reducePow, Int.reduceMul, Int.reduceAdd, Int.reduceSub, Int.reduceNeg, Nat.reduceAdd, Nat.reduceMul, Nat.reducePow, Int.reduceLT, Int.reduceLE, Int.reduceEq, Nat.reduceEqDiff, hc.len]
 refine wp_loopI (fun j t h' => HSub h h' ∧ h.size + 1 < h'.size ∧ h'.get h.size = some (.cells [v, w] true 0) ∧ ∃ k : Nat, h'.get (h.size + 1) = some (.cells [.int .i64 (sumK s c a k).1, .int .i64 (sumK s c a k).2] true 0) ∧ t 1 = .int .i64 a ∧ t 2 = .ptr h.size 0 ∧ t 4 = .ptr (h.size + 1) 0 ∧ t 9 = w ∧ t 10 = .int .i64 (c.length : Nat) ∧ t 11 = .int .i64 (k : Nat) ∧ k ≤ c.length ∧ j = c.length - k) (j0 := c.length)
  ⟨(HSub.push1 _ _).push _, by simp, by simp -implicitDefEqProofs (disch := first | assumption | decide | omega | (simp only [wpD1] <;> omega) | (simp only [wpD2] <;> assumption) | solve_by_elim [zR, zP, zV] | fail) only [↓wpPre, wpPost, wpPoly, Int.reduceToNat, Int.reducePow, Int.reduceMul, Int.reduceAdd, Int.reduceSub, Int.reduceNeg, Nat.reduceAdd, Nat.reduceMul, Nat.reducePow, Int.reduceLT, Int.reduceLE, Int.reduceEq, Nat.reduceEqDiff], 0, by simp -implicitDefEqProofs (disch := first | assumption | decide | omega | (simp only [wpD1] <;> omega) | (simp only [wpD2] <;> assumption) | solve_by_elim [zR, zP, zV] | fail) only [↓wpPre, wpPost, wpPoly, Int.reduceToNat, Int.reducePow, Int.reduceMul, Int.reduceAdd, Int.reduceSub, Int.reduceNeg, Nat.reduceAdd, Nat.reduceMul, Nat.reducePow, Int.reduceLT, Int.reduceLE, Int.reduceEq, Nat.reduceEqDiff]; rfl, rfl, rfl, rfl, rfl, rfl, rfl, by omega, rfl⟩ ?_
 rintro j t h1 ⟨s1, hz, gv, k, gb, e1, e2, e4, e9, e10, e11, hk, hj⟩
 simp -implicitDefEqProofs (disch := first | assumption | decide | omega | (simp only [wpD1] <;> omega) | (simp only [wpD2] <;> assumption) | solve_by_elim [zR, zP, zV] | fail) only [↓wpPre, wpPost, wpPoly, Int.reduceToNat, Int.reducePow, Int.reduceMul, Int.reduceAdd, Int.reduceSub, Int.reduceNeg, Nat.reduceAdd, Nat.reduceMul, Nat.reducePow, Int.reduceLT, Int.reduceLE, Int.reduceEq, Nat.reduceEqDiff, e10, e11]
 refine Br.by (fun c3 => ?_) (fun c3 => ?_)
 ·have hk' : k < c.length := by omega
  have hc1 := hc.mono s1
  have ld := hc1.load hk'
  have hb := sumK_le (a := a) hi ho k
  have hm := mulP_le (atP_le hi (a + (k : Nat))) (ho.get k)
  have es : sumK s c a (k + 1) = addP (sumK s c a k) (mulP (atP s (a + (k : Nat))) (c.getD k 0)) := rfl
  have kat := kat (a + (k : Nat)) h1 s1
  generalize sumK s c a k = q at *
  generalize atP s (a + (k : Nat)) = x at *
  generalize c.getD k 0 = y at *
  obtain ⟨qx, qy⟩ := q
  obtain ⟨xx, xy⟩ := x
  unfold smp at kat
  unfold inS at hb hm
  unfold mulP at hm
  dsimp only at kat hb hm gb
  simp -implicitDefEqProofs (disch := first | assumption | decide | omega | (simp only [wpD1] <;> omega) | (simp only [wpD2] <;> assumption) | solve_by_elim [zR, zP, zV] | fail) only [↓wpPre, wpPost, wpPoly, Int.reduceToNat, Int.reducePow, Int.reduceMul, Int.reduceAdd, Int.reduceSub, Int.reduceNeg, Nat.reduceAdd, Nat.reduceMul, Nat.reducePow, Int.reduceLT, Int.reduceLE, Int.reduceEq, Nat.reduceEqDiff, e1, e2, e9, e11, hc1.idx, ld, gv]
  refine ACallsK.eq kat ?_
  simp -implicitDefEqProofs (disch := first | assumption | decide | omega | (simp only [wpD1] <;> omega) | (simp only [wpD2] <;> assumption) | solve_by_elim [zR, zP, zV] | fail) only [↓wpPre, wpPost, wpPoly, Int.reduceToNat, Int.reducePow, Int.reduceMul, Int.reduceAdd, Int.reduceSub, Int.reduceNeg, Nat.reduceAdd, Nat.reduceMul, Nat.reducePow, Int.reduceLT, Int.reduceLE, Int.reduceEq, Nat.reduceEqDiff, e1, e2, e4, e9, e10, e11, gv, gb]
  exact ⟨_, ⟨(by repeat (first | exact s1 | refine HSub.put ?_ (by (try simp only [Heap.size_put, Heap.size_push, Heap.size_reserve]); omega) _ | refine HSub.push ?_ _ | refine HSub.reserve ?_ _)), by omega, k + 1, by rw [es]; rfl, by simp, by omega, rfl⟩, by omega⟩
 ·have ek : k = c.length := by omega
  subst ek
  unfold sumP
  generalize sumK s c a c.length = q at *
  obtain ⟨qx, qy⟩ := q
  unfold smp
  simp -implicitDefEqProofs (disch := first | assumption | decide | omega | (simp only [wpD1] <;> omega) | (simp only [wpD2] <;> assumption) | solve_by_elim [zR, zP, zV] | fail) only [↓wpPre, wpPost, wpPoly, Int.reduceToNat, Int.reducePow, Int.reduceMul, Int.reduceAdd, Int.reduceSub, Int.reduceNeg, Nat.reduceAdd, Nat.reduceMul, Nat.reducePow, Int.reduceLT, Int.reduceLE, Int.reduceEq, Nat.reduceEqDiff, e4, gb]
  exact (by repeat (first | exact s1 | refine HSub.put ?_ (by (try simp only [Heap.size_put, Heap.size_push, Heap.size_reserve]); omega) _ | refine HSub.push ?_ _ | refine HSub.reserve ?_ _))
def corE (x : AV) (e : Int) : AV := .tuple [x, .int .i64 e]
theorem bankErr_ok {s : List (Int × Int)} {d o p a : Int} (h : bankErr s d o p a = 0) : s.length ≤ 1048576 ∧ (∀ x ∈ s, inS 127 x) ∧ sampErr d o [p] = 0 ∧ -2000000 ≤ a ∧ a ≤ 2000000 := by
 unfold bankErr at h
 split at h
 ·omega
 ·split at h
  ·omega
  ·rename_i c2
   split at h
   ·omega
   ·split at h
    ·omega
    ·exact ⟨by omega, Classical.not_not.1 c2, by omega, by omega, by omega⟩
set_option maxHeartbeats 1000000 in
theorem made292_spec (hC : Has C T292) {v : AV} {s : List (Int × Int)} {d o p a : Int} {h : Heap} (hs : SI h v s) (hd : In64 d) (ho : In64 o) (hp : In64 p) (ha : In64 a) :
  ACalls C 292 [v, .int .i64 d, .int .i64 o, .int .i64 p, .int .i64 a] h (fun r h' => HSub h h' ∧ ∃ x, r = corE x (bankErr s d o p a) ∧ (bankErr s d o p a = 0 → ∃ w, x = corA v w ∧ RI h' w (sampL d p o.toNat)) ∧ (bankErr s d o p a ≠ 0 → x = corA .nilslice .nilslice)) := by
 have hlt := hs.lt
 have v1 := hs.one
 have kc := fun h1 (q : HSub h h1) => containsF_spec (hC.sub (T' := T255) (by decide)) (g := 302) (P := fun p => inS 127 p) (fun p h => out302_spec (hC.sub (T' := T302) (by decide))) (hs.mono q)
 have kS := fun h1 => SamplesC_spec (hC.sub (T' := T131) (by decide)) (h := h1) hd ho hp
 have sc := sampErr_cases d o [p]
 unfold In64 at ha
 unfold bankErr corA corE
 by_cases c1 : 1048576 < s.length
 ·rw [if_pos c1]
  (refine calls_intro (hC.body (by decide) tab292) (Nat.le_of_ble_eq_true rfl) ?_); (show wp C _ none B292.code _ _); (simp only [B292]); simp -implicitDefEqProofs (disch := first | assumption | decide | omega | (simp only [wpD1] <;> omega) | (simp only [wpD2] <;> assumption) | solve_by_elim [zR, zP, zV] | fail) only [↓wpPre, wpPost, wpPoly, Int.reduceToNat, Int.reducePow, Int.reduceMul, Int.reduceAdd, Int.reduceSub, Int.reduceNeg, Nat.reduceAdd, Nat.reduceMul, Nat.reducePow, Int.reduceLT, Int.reduceLE, Int.reduceEq, Nat.reduceEqDiff, hs.len]
  exact ⟨(by repeat (first | exact HSub.refl h | refine HSub.put ?_ (by (try simp only [Heap.size_put, Heap.size_push, Heap.size_reserve]); omega) _ | refine HSub.push ?_ _ | refine HSub.reserve ?_ _)), _, rfl, fun _ => rfl⟩
 ·rw [if_neg c1]
  by_cases c2 : ∀ x ∈ s, inS 127 x
  ·simp only [decide_eq_true c2] at kc
   rw [if_neg (fun q => q c2)]
   (refine calls_intro (hC.body (by decide) tab292) (Nat.le_of_ble_eq_true rfl) ?_); (show wp C _ none B292.code _ _); (simp only [B292]); simp -implicitDefEqProofs (disch := first | assumption | decide | omega | (simp only [wpD1] <;> omega) | (simp only [wpD2] <;> assumption) | solve_by_elim [zR, zP, zV] | fail) only [↓wpPre, wpPost, wpPoly, Int.reduceToNat, Int.reducePow, Int.reduceMul, Int.reduceAdd, Int.reduceSub, Int.reduceNeg, Nat.reduceAdd, Nat.reduceMul, Nat.reducePow, Int.reduceLT, Int.reduceLE, Int.reduceEq, Nat.reduceEqDiff, hs.len]
   refine ACallsK.eq (kc _ (HSub.push1 _ _)) ?_
   simp -implicitDefEqProofs (disch := first | assumption | decide | omega | (simp only [wpD1] <;> omega) | (simp only [wpD2] <;> assumption) | solve_by_elim [zR, zP, zV] | fail) only [↓wpPre, wpPost, wpPoly, Int.reduceToNat, Int.reducePow, Int.reduceMul, Int.reduceAdd, Int.reduceSub, Int.reduceNeg, Nat.reduceAdd, Nat.reduceMul, Nat.reducePow, Int.reduceLT, Int.reduceLE, Int.reduceEq, Nat.reduceEqDiff]
   refine ACallsK.of (kS _) ?_
   rintro r h1 ⟨w, rfl, s1, R⟩
   have s0 := (HSub.push1 h (.cells [.nilslice, .nilslice] true 0)).trans s1
   have gz : h1.get h.size = some (.cells [.nilslice, .nilslice] true 0) := (s1.get _ (by simp)).trans (get_push_eq rfl)
   have w1 := R.one
   have ft := fill_two hs.cells R.cells
   have h0 : sampErr d o [p] = 0 → 0 < (sampL d p o.toNat).length := fun q => by
    have ok := sampErr_ok q
    have := lenN_eq ok.1
    rw [sampL_length]
    exact Nat.mul_pos (by omega) (by omega)
   have sb := fun (H : Heap) i => storeB_two (H := H) (i := i) (a := .nilslice) (b := .nilslice) v1 w1
   have hz : h.size < h1.size := by have := s1.size; simp only [Heap.size_push] at this; omega
   by_cases c3 : sampErr d o [p] = 0
   ·have h0 := h0 c3
    rw [c3] at R ⊢
    rw [if_pos rfl] at R
    rw [if_neg (by decide)]
    by_cases c4 : a < -2000000 ∨ 2000000 < a
    ·rw [if_pos c4]
     simp -implicitDefEqProofs (disch := first | assumption | decide | omega | (simp only [wpD1] <;> omega) | (simp only [wpD2] <;> assumption) | solve_by_elim [zR, zP, zV] | fail) only [↓wpPre, wpPost, wpPoly, Int.reduceToNat, Int.reducePow, Int.reduceMul, Int.reduceAdd, Int.reduceSub, Int.reduceNeg, Nat.reduceAdd, Nat.reduceMul, Nat.reducePow, Int.reduceLT, Int.reduceLE, Int.reduceEq, Nat.reduceEqDiff, lstErr, gz]
     (repeat' (first | (refine Br.by (fun _ => ?_) (fun _ => ?_)) | (simp -implicitDefEqProofs (disch := first | assumption | decide | omega | (simp only [wpD1] <;> omega) | (simp only [wpD2] <;> assumption) | solve_by_elim [zR, zP, zV] | fail) only [↓wpPre, wpPost, wpPoly, Int.reduceToNat, Int.reducePow, Int.reduceMul, Int.reduceAdd, Int.reduceSub, Int.reduceNeg, Nat.reduceAdd, Nat.reduceMul, Nat.reducePow, Int.reduceLT, Int.reduceLE, Int.reduceEq, Nat.reduceEqDiff, gz, gV_u])))
     all_goals first
      | (exfalso; omega)
      | exact ⟨(by repeat (first | exact s0 | refine HSub.put ?_ (by (try simp only [Heap.size_put, Heap.size_push, Heap.size_reserve]); omega) _ | refine HSub.push ?_ _ | refine HSub.reserve ?_ _)), _, rfl, fun _ => rfl⟩
    ·rw [if_neg c4]
     simp -implicitDefEqProofs (disch := first | assumption | decide | omega | (simp only [wpD1] <;> omega) | (simp only [wpD2] <;> assumption) | solve_by_elim [zR, zP, zV] | fail) only [↓wpPre, wpPost, wpPoly, Int.reduceToNat, Int.reducePow, Int.reduceMul, Int.reduceAdd, Int.reduceSub, Int.reduceNeg, Nat.reduceAdd, Nat.reduceMul, Nat.reducePow, Int.reduceLT, Int.reduceLE, Int.reduceEq, Nat.reduceEqDiff, lstErr, gz, gV_u, ft, sb]
     exact ⟨(by repeat (first | exact s0 | refine HSub.put ?_ (by (try simp only [Heap.size_put, Heap.size_push, Heap.size_reserve]); omega) _ | refine HSub.push ?_ _ | refine HSub.reserve ?_ _)), _, rfl, fun _ => ⟨w, rfl, R.putNil h0 gz⟩, fun q => absurd trivial q⟩
   ·have c4 : sampErr d o [p] = 2 := by omega
    rw [if_pos c3]
    rw [c4]
    simp -implicitDefEqProofs (disch := first | assumption | decide | omega | (simp only [wpD1] <;> omega) | (simp only [wpD2] <;> assumption) | solve_by_elim [zR, zP, zV] | fail) only [↓wpPre, wpPost, wpPoly, Int.reduceToNat, Int.reducePow, Int.reduceMul, Int.reduceAdd, Int.reduceSub, Int.reduceNeg, Nat.reduceAdd, Nat.reduceMul, Nat.reducePow, Int.reduceLT, Int.reduceLE, Int.reduceEq, Nat.reduceEqDiff, lstErr, gz]
    exact ⟨(by repeat (first | exact s0 | refine HSub.put ?_ (by (try simp only [Heap.size_put, Heap.size_push, Heap.size_reserve]); omega) _ | refine HSub.push ?_ _ | refine HSub.reserve ?_ _)), _, rfl, fun _ => rfl⟩
  ·simp only [decide_eq_false c2] at kc
   rw [if_pos c2]
   (refine calls_intro (hC.body (by decide) tab292) (Nat.le_of_ble_eq_true rfl) ?_); (show wp C _ none B292.code _ _); (simp only [B292]); simp -implicitDefEqProofs (disch := first | assumption | decide | omega | (simp only [wpD1] <;> omega) | (simp only [wpD2] <;> assumption) | solve_by_elim [zR, zP, zV] | fail) only [↓wpPre, wpPost, wpPoly, Int.reduceToNat, Int.reducePow, Int.reduceMul, Int.reduceAdd, Int.reduceSub, Int.reduceNeg, Nat.reduceAdd, Nat.reduceMul, Nat.reducePow, Int.reduceLT, Int.reduceLE, Int.reduceEq, Nat.reduceEqDiff, hs.len]
   refine ACallsK.eq (kc _ (HSub.push1 _ _)) ?_
   simp -implicitDefEqProofs (disch := first | assumption | decide | omega | (simp only [wpD1] <;> omega) | (simp only [wpD2] <;> assumption) | solve_by_elim [zR, zP, zV] | fail) only [↓wpPre, wpPost, wpPoly, Int.reduceToNat, Int.reducePow, Int.reduceMul, Int.reduceAdd, Int.reduceSub, Int.reduceNeg, Nat.reduceAdd, Nat.reduceMul, Nat.reducePow, Int.reduceLT, Int.reduceLE, Int.reduceEq, Nat.reduceEqDiff]
   exact ⟨(by repeat (first | exact HSub.refl h | refine HSub.put ?_ (by (try simp only [Heap.size_put, Heap.size_push, Heap.size_reserve]); omega) _ | refine HSub.push ?_ _ | refine HSub.reserve ?_ _)), _, rfl, fun _ => rfl⟩
end
end Go.Ae
/- Sum, Bank and Three, of the program and of the reference. -/
set_option linter.unusedSimpArgs false
set_option linter.unusedVariables false
namespace Go.Ae
def bsumE (s : List (Int × Int)) (d o p a : Int) : AV := if bankErr s d o p a = 0 then .tuple [smp (sumP s (sampL d p o.toNat) a), .int .i64 0] else .tuple [smp (0, 0), .int .i64 (bankErr s d o p a)]
theorem bsumE_free (s : List (Int × Int)) (d o p a : Int) : (bsumE s d o p a).free := by
 unfold bsumE
 split <;> exact free_tuple (by simp [smp, AV.free, AV.bel, AV.bels])
theorem samp_len {d o p : Int} (h : sampErr d o [p] = 0) : (sampL d p o.toNat).length ≤ 8184 := by
 have ok := sampErr_ok h
 have n := lenN_eq ok.1
 rw [sampL_length]
 exact Nat.mul_le_mul (show lenN d ≤ 1023 by omega) (show o.toNat ≤ 8 by omega)
section
variable {C : Ctx}
set_option maxHeartbeats 1000000 in
theorem BSum_spec (hC : Has C T275) {v : AV} {s : List (Int × Int)} {d o p a : Int} {h : Heap} (hs : SI h v s) (hd : In64 d) (ho : In64 o) (hp : In64 p) (ha : In64 a) :
  ACalls C 275 [v, .int .i64 d, .int .i64 o, .int .i64 p, .int .i64 a] h (fun r h' => r = bsumE s d o p a ∧ h' = h) := by
 refine ACalls.gc0 (P := fun r h' => r = bsumE s d o p a ∧ HSub h h') ?_ (fun r h' hp => ⟨by rw [hp.1]; exact bsumE_free _ _ _ _ _, hp.2, hp.1, rfl⟩)
 have kM := fun h1 (q : HSub h h1) => made292_spec (hC.sub (T' := T292) (by decide)) (hs.mono q) hd ho hp ha
 have v1 := hs.one
 unfold bsumE
 (refine calls_intro (hC.body (by decide) tab275) (Nat.le_of_ble_eq_true rfl) ?_); (show wp C _ none B275.code _ _); (simp only [B275]); simp -implicitDefEqProofs (disch := first | assumption | decide | omega | (simp only [wpD1] <;> omega) | (simp only [wpD2] <;> assumption) | solve_by_elim [zR, zP, zV] | fail) only [↓wpPre, wpPost, wpPoly, Int.reduceToNat, Int.reducePow, Int.reduceMul, Int.reduceAdd, Int.reduceSub, Int.reduceNeg, Nat.reduceAdd, Nat.reduceMul, Nat.reducePow, Int.reduceLT, Int.reduceLE, Int.reduceEq, Nat.reduceEqDiff]
 refine ACallsK.of (kM _ (HSub.push1 _ _)) ?_
 rintro r h1 ⟨s1, x, rfl, g0, g1⟩
 have gz : h1.get h.size = some (.cells [.int .i64 0, .int .i64 0] true 0) := (s1.get _ (by simp)).trans (get_push_eq rfl)
 have hz : h.size < h1.size := by have := s1.size; simp only [Heap.size_push] at this; omega
 have s0 := (HSub.push1 h (.cells [.int .i64 0, .int .i64 0] true 0)).trans s1
 by_cases c : bankErr s d o p a = 0
 ·have ok := bankErr_ok c
  obtain ⟨w, rfl, R⟩ := g0 c
  have w1 := R.one
  have sb := fun (H : Heap) i => storeB_two (H := H) (i := i) (a := .nilslice) (b := .nilslice) v1 w1
  have kS := fun h2 (q : HSub h1 h2) => sum293_spec (hC.sub (T' := T293) (by decide)) (a := a) (hs.mono (s0.trans q)) (R.mono q) ok.2.1 (sampL_one1 _ _ _) (by have := samp_len ok.2.2.1; omega) (by omega)
  rw [c, if_pos rfl]
  unfold corA at kS ⊢
  generalize sumP s (sampL d p o.toNat) a = q at *
  obtain ⟨qx, qy⟩ := q
  unfold smp at kS ⊢
  dsimp only at kS ⊢
  simp -implicitDefEqProofs (disch := first | assumption | decide | omega | (simp only [wpD1] <;> omega) | (simp only [wpD2] <;> assumption) | solve_by_elim [zR, zP, zV] | fail) only [↓wpPre, wpPost, wpPoly, Int.reduceToNat, Int.reducePow, Int.reduceMul, Int.reduceAdd, Int.reduceSub, Int.reduceNeg, Nat.reduceAdd, Nat.reduceMul, Nat.reducePow, Int.reduceLT, Int.reduceLE, Int.reduceEq, Nat.reduceEqDiff, corE, sb]
  refine ACallsK.eq (kS _ (by repeat (first | exact HSub.refl h1 | refine HSub.put ?_ (by (try simp only [Heap.size_put, Heap.size_push, Heap.size_reserve]); omega) _ | refine HSub.push ?_ _ | refine HSub.reserve ?_ _))) ?_
  simp -implicitDefEqProofs (disch := first | assumption | decide | omega | (simp only [wpD1] <;> omega) | (simp only [wpD2] <;> assumption) | solve_by_elim [zR, zP, zV] | fail) only [↓wpPre, wpPost, wpPoly, Int.reduceToNat, Int.reducePow, Int.reduceMul, Int.reduceAdd, Int.reduceSub, Int.reduceNeg, Nat.reduceAdd, Nat.reduceMul, Nat.reducePow, Int.reduceLT, Int.reduceLE, Int.reduceEq, Nat.reduceEqDiff, gz]
  exact (by repeat (first | exact s0 | refine HSub.put ?_ (by (try simp only [Heap.size_put, Heap.size_push, Heap.size_reserve]); omega) _ | refine HSub.push ?_ _ | refine HSub.reserve ?_ _))
 ·rw [g1 c, if_neg c]
  unfold corA smp
  generalize bankErr s d o p a = e at *
  simp -implicitDefEqProofs (disch := first | assumption | decide | omega | (simp only [wpD1] <;> omega) | (simp only [wpD2] <;> assumption) | solve_by_elim [zR, zP, zV] | fail) only [↓wpPre, wpPost, wpPoly, Int.reduceToNat, Int.reducePow, Int.reduceMul, Int.reduceAdd, Int.reduceSub, Int.reduceNeg, Nat.reduceAdd, Nat.reduceMul, Nat.reducePow, Int.reduceLT, Int.reduceLE, Int.reduceEq, Nat.reduceEqDiff, corE, c, gz]
  exact (by repeat (first | exact s0 | refine HSub.put ?_ (by (try simp only [Heap.size_put, Heap.size_push, Heap.size_reserve]); omega) _ | refine HSub.push ?_ _ | refine HSub.reserve ?_ _))
end
end Go.Ae
/- Bank and Three, of the program and of the reference. -/
set_option linter.unusedSimpArgs false
set_option linter.unusedVariables false
namespace Go.Ae
def bankE (s : List (Int × Int)) (d o p a many : Int) : Int := manyE (bankErr s d o p a) many 8192
section
variable {C : Ctx}
set_option maxHeartbeats 1000000 in
theorem plain296_spec (hC : Has C T296) {v w : AV} {s : List (Int × Int)} {c : List Int} {a : Int} {m : Nat} {h : Heap} (hs : SI h v s) (hc : RI h w c) (hi : ∀ x ∈ s, inS 127 x) (ho : one1 c) (hcl : c.length ≤ 100000) (ha : -10000000 ≤ a ∧ a ≤ 10000000) (hm : m ≤ 8192) :
  ACalls C 296 [corA v w, .int .i64 a, .int .i64 (m : Nat)] h (fun r h' => HSub h h' ∧ SI h' r (bankL s c a 1 m)) := by
 have v1 := hs.one
 have w1 := hc.one
 have hz := smps_replicate (p := (0, 0)) (n := m)
 simp only at hz
 have kS := fun (b : Int) (hb : -100000000 ≤ b ∧ b ≤ 100000000) h1 (q : HSub h h1) => sum293_spec (hC.sub (T' := T293) (by decide)) (a := b) (hs.mono q) (hc.mono q) hi ho hcl hb
 unfold corA at kS ⊢
 (refine calls_intro (hC.body (by decide) tab296) (Nat.le_of_ble_eq_true rfl) ?_); (show wp C _ none B296.code _ _); (simp only [B296]); simp -implicitDefEqProofs (disch := first | assumption | decide | omega | (simp only [wpD1] <;> omega) | (simp only [wpD2] <;> assumption) | solve_by_elim [zR, zP, zV] | fail) only [↓wpPre, wpPost, wpPoly, Int.reduceToNat, Int.reducePow, Int.reduceMul, Int.reduceAdd, Int.reduceSub, Int.reduceNeg, Nat.reduceAdd, Nat.reduceMul, Nat.reducePow, Int.reduceLT, Int.reduceLE, Int.reduceEq, Nat.reduceEqDiff, hz]
 refine wp_loopI (fun j t h' => HSub h h' ∧ h.size + 1 < h'.size ∧ h'.get h.size = some (.cells [v, w] true 0) ∧ ∃ k : Nat, h'.get (h.size + 1) = some (.cells (smps (bankL s c a 1 k ++ List.replicate (m - k) (0, 0))) true 0) ∧ t 1 = .int .i64 a ∧ t 3 = .ptr h.size 0 ∧ t 7 = .slice (h.size + 1) 0 m (.known m) ∧ t 12 = .int .i64 (m : Nat) ∧ t 13 = .int .i64 (k : Nat) ∧ k ≤ m ∧ j = m - k) (j0 := m)
  ⟨(HSub.push1 _ _).push _, by simp, by simp -implicitDefEqProofs (disch := first | assumption | decide | omega | (simp only [wpD1] <;> omega) | (simp only [wpD2] <;> assumption) | solve_by_elim [zR, zP, zV] | fail) only [↓wpPre, wpPost, wpPoly, Int.reduceToNat, Int.reducePow, Int.reduceMul, Int.reduceAdd, Int.reduceSub, Int.reduceNeg, Nat.reduceAdd, Nat.reduceMul, Nat.reducePow, Int.reduceLT, Int.reduceLE, Int.reduceEq, Nat.reduceEqDiff], 0, by simp -implicitDefEqProofs (disch := first | assumption | decide | omega | (simp only [wpD1] <;> omega) | (simp only [wpD2] <;> assumption) | solve_by_elim [zR, zP, zV] | fail) only [↓wpPre, wpPost, wpPoly, Int.reduceToNat, Int.reducePow, Int.reduceMul, Int.reduceAdd, Int.reduceSub, Int.reduceNeg, Nat.reduceAdd, Nat.reduceMul, Nat.reducePow, Int.reduceLT, Int.reduceLE, Int.reduceEq, Nat.reduceEqDiff]; rfl, rfl, rfl, rfl, rfl, rfl, by omega, rfl⟩ ?_
 rintro j t h1 ⟨s1, hz, gv, k, gb, e1, e3, e7, e12, e13, hk, hj⟩
 simp -implicitDefEqProofs (disch := first | assumption | decide | omega | (simp only [wpD1] <;> omega) | (simp only [wpD2] <;> assumption) | solve_by_elim [zR, zP, zV] | fail) only [↓wpPre, wpPost, wpPoly, Int.reduceToNat, Int.reducePow, Int.reduceMul, Int.reduceAdd, Int.reduceSub, Int.reduceNeg, Nat.reduceAdd, Nat.reduceMul, Nat.reducePow, Int.reduceLT, Int.reduceLE, Int.reduceEq, Nat.reduceEqDiff, e12, e13]
 refine Br.by (fun c3 => ?_) (fun c3 => ?_)
 ·have hk' : k < m := by omega
  have kS := kS (a + (k : Nat)) (by omega) h1 s1
  have bs := bankZ_set (s := s) (c := c) (a := a) (w := 1) hk'
  rw [Int.mul_one] at bs
  have hwl : (bankL s c a 1 k ++ List.replicate (m - k) (0, 0)).length = m := by simp [bankL_length]; omega
  have hsl : (smps (bankL s c a 1 k ++ List.replicate (m - k) (0, 0))).length = m * 2 := by rw [smps_length, hwl]
  have hset := smps_splice (l := bankL s c a 1 k ++ List.replicate (m - k) (0, 0)) (k := k) (p := sumP s c (a + (k : Nat))) (by rw [hwl]; exact hk')
  rw [bs] at hset
  generalize sumP s c (a + (k : Nat)) = q at *
  obtain ⟨qx, qy⟩ := q
  unfold smp at kS
  dsimp only at kS hset
  simp -implicitDefEqProofs (disch := first | assumption | decide | omega | (simp only [wpD1] <;> omega) | (simp only [wpD2] <;> assumption) | solve_by_elim [zR, zP, zV] | fail) only [↓wpPre, wpPost, wpPoly, Int.reduceToNat, Int.reducePow, Int.reduceMul, Int.reduceAdd, Int.reduceSub, Int.reduceNeg, Nat.reduceAdd, Nat.reduceMul, Nat.reducePow, Int.reduceLT, Int.reduceLE, Int.reduceEq, Nat.reduceEqDiff, e1, e3, e7, e13, gv]
  refine ACallsK.eq kS ?_
  simp -implicitDefEqProofs (disch := first | assumption | decide | omega | (simp only [wpD1] <;> omega) | (simp only [wpD2] <;> assumption) | solve_by_elim [zR, zP, zV] | fail) only [↓wpPre, wpPost, wpPoly, Int.reduceToNat, Int.reducePow, Int.reduceMul, Int.reduceAdd, Int.reduceSub, Int.reduceNeg, Nat.reduceAdd, Nat.reduceMul, Nat.reducePow, Int.reduceLT, Int.reduceLE, Int.reduceEq, Nat.reduceEqDiff, e1, e3, e7, e12, e13, gv, gb, hset, hsl]
  exact ⟨_, ⟨(by repeat (first | exact s1 | refine HSub.put ?_ (by (try simp only [Heap.size_put, Heap.size_push, Heap.size_reserve]); omega) _ | refine HSub.push ?_ _ | refine HSub.reserve ?_ _)), hz, k + 1, rfl, by simp, by omega, rfl⟩, by omega⟩
 ·have ek : k = m := by omega
  subst ek
  rw [Nat.sub_self, List.replicate_zero, List.append_nil] at gb
  simp -implicitDefEqProofs (disch := first | assumption | decide | omega | (simp only [wpD1] <;> omega) | (simp only [wpD2] <;> assumption) | solve_by_elim [zR, zP, zV] | fail) only [↓wpPre, wpPost, wpPoly, Int.reduceToNat, Int.reducePow, Int.reduceMul, Int.reduceAdd, Int.reduceSub, Int.reduceNeg, Nat.reduceAdd, Nat.reduceMul, Nat.reducePow, Int.reduceLT, Int.reduceLE, Int.reduceEq, Nat.reduceEqDiff, e7]
  exact ⟨s1, SI.known gb ⟨(bankL_length _ _ _ _ _).symm, by omega⟩ (Nat.le_refl _)⟩
set_option maxHeartbeats 1000000 in
theorem Bank_spec (hC : Has C T277) {v : AV} {s : List (Int × Int)} {d o p a many : Int} {h : Heap} (hs : SI h v s) (hd : In64 d) (ho : In64 o) (hp : In64 p) (ha : In64 a) (hm : In64 many) (hn : ¬ (64 < many ∧ many ≤ 8192)) :
  ACalls C 277 [v, .int .i64 d, .int .i64 o, .int .i64 p, .int .i64 a, .int .i64 many] h (fun r h' => ∃ w, r = lstErr w (bankE s d o p a many) ∧ HSub h h' ∧ SI h' w (if bankE s d o p a many = 0 then bankL s (sampL d p o.toNat) a 1 many.toNat else [])) := by
 have kM := made292_spec (hC.sub (T' := T292) (by decide)) hs hd ho hp ha
 have v1 := hs.one
 unfold In64 at hm
 unfold bankE manyE
 (refine calls_intro (hC.body (by decide) tab277) (Nat.le_of_ble_eq_true rfl) ?_); (show wp C _ none B277.code _ _); (simp only [B277]); simp -implicitDefEqProofs (disch := first | assumption | decide | omega | (simp only [wpD1] <;> omega) | (simp only [wpD2] <;> assumption) | solve_by_elim [zR, zP, zV] | fail) only [↓wpPre, wpPost, wpPoly, Int.reduceToNat, Int.reducePow, Int.reduceMul, Int.reduceAdd, Int.reduceSub, Int.reduceNeg, Nat.reduceAdd, Nat.reduceMul, Nat.reducePow, Int.reduceLT, Int.reduceLE, Int.reduceEq, Nat.reduceEqDiff]
 refine ACallsK.of kM ?_
 rintro r h1 ⟨s1, x, rfl, g0, g1⟩
 by_cases c : bankErr s d o p a = 0
 ·have ok := bankErr_ok c
  obtain ⟨w, rfl, R⟩ := g0 c
  have w1 := R.one
  have sb := fun (H : Heap) i => storeB_two (H := H) (i := i) (a := .nilslice) (b := .nilslice) v1 w1
  rw [c, if_neg (by decide)]
  unfold corA
  by_cases c2 : many < 0 ∨ 8192 < many
  ·rw [if_pos c2]
   simp -implicitDefEqProofs (disch := first | assumption | decide | omega | (simp only [wpD1] <;> omega) | (simp only [wpD2] <;> assumption) | solve_by_elim [zR, zP, zV] | fail) only [↓wpPre, wpPost, wpPoly, Int.reduceToNat, Int.reducePow, Int.reduceMul, Int.reduceAdd, Int.reduceSub, Int.reduceNeg, Nat.reduceAdd, Nat.reduceMul, Nat.reducePow, Int.reduceLT, Int.reduceLE, Int.reduceEq, Nat.reduceEqDiff, corE, sb]
   (repeat' (first | (refine Br.by (fun _ => ?_) (fun _ => ?_)) | (simp -implicitDefEqProofs (disch := first | assumption | decide | omega | (simp only [wpD1] <;> omega) | (simp only [wpD2] <;> assumption) | solve_by_elim [zR, zP, zV] | fail) only [↓wpPre, wpPost, wpPoly, Int.reduceToNat, Int.reducePow, Int.reduceMul, Int.reduceAdd, Int.reduceSub, Int.reduceNeg, Nat.reduceAdd, Nat.reduceMul, Nat.reducePow, Int.reduceLT, Int.reduceLE, Int.reduceEq, Nat.reduceEqDiff, gV_u])))
   all_goals first
    | (exfalso; omega)
    | exact ⟨_, rfl, (by repeat (first | exact s1 | refine HSub.put ?_ (by (try simp only [Heap.size_put, Heap.size_push, Heap.size_reserve]); omega) _ | refine HSub.push ?_ _ | refine HSub.reserve ?_ _)), SI.nil⟩
  ·obtain ⟨m, rfl⟩ := Int.eq_ofNat_of_zero_le (show 0 ≤ many by omega)
   have kS := fun h2 (q : HSub h1 h2) => plain296_spec (hC.sub (T' := T296) (by decide)) (a := a) (m := m) (hs.mono (s1.trans q)) (R.mono q) ok.2.1 (sampL_one1 _ _ _) (by have := samp_len ok.2.2.1; omega) (by omega) (by omega)
   unfold corA at kS
   rw [if_neg c2, if_pos rfl, Int.toNat_natCast]
   simp -implicitDefEqProofs (disch := first | assumption | decide | omega | (simp only [wpD1] <;> omega) | (simp only [wpD2] <;> assumption) | solve_by_elim [zR, zP, zV] | fail) only [↓wpPre, wpPost, wpPoly, Int.reduceToNat, Int.reducePow, Int.reduceMul, Int.reduceAdd, Int.reduceSub, Int.reduceNeg, Nat.reduceAdd, Nat.reduceMul, Nat.reducePow, Int.reduceLT, Int.reduceLE, Int.reduceEq, Nat.reduceEqDiff, corE, sb, gV_u]
   refine ACallsK.of (kS _ (by repeat (first | exact HSub.refl h1 | refine HSub.put ?_ (by (try simp only [Heap.size_put, Heap.size_push, Heap.size_reserve]); omega) _ | refine HSub.push ?_ _ | refine HSub.reserve ?_ _))) ?_
   rintro r h2 ⟨s2, R2⟩
   simp -implicitDefEqProofs (disch := first | assumption | decide | omega | (simp only [wpD1] <;> omega) | (simp only [wpD2] <;> assumption) | solve_by_elim [zR, zP, zV] | fail) only [↓wpPre, wpPost, wpPoly, Int.reduceToNat, Int.reducePow, Int.reduceMul, Int.reduceAdd, Int.reduceSub, Int.reduceNeg, Nat.reduceAdd, Nat.reduceMul, Nat.reducePow, Int.reduceLT, Int.reduceLE, Int.reduceEq, Nat.reduceEqDiff]
   exact ⟨_, rfl, s1.trans (by exact ((HSub.push1 _ _).trans s2)), R2⟩
 ·rw [g1 c, if_pos c, if_neg c]
  unfold corA
  generalize bankErr s d o p a = e at *
  simp -implicitDefEqProofs (disch := first | assumption | decide | omega | (simp only [wpD1] <;> omega) | (simp only [wpD2] <;> assumption) | solve_by_elim [zR, zP, zV] | fail) only [↓wpPre, wpPost, wpPoly, Int.reduceToNat, Int.reducePow, Int.reduceMul, Int.reduceAdd, Int.reduceSub, Int.reduceNeg, Nat.reduceAdd, Nat.reduceMul, Nat.reducePow, Int.reduceLT, Int.reduceLE, Int.reduceEq, Nat.reduceEqDiff, corE, c]
  exact ⟨_, rfl, (by repeat (first | exact s1 | refine HSub.put ?_ (by (try simp only [Heap.size_put, Heap.size_push, Heap.size_reserve]); omega) _ | refine HSub.push ?_ _ | refine HSub.reserve ?_ _)), SI.nil⟩
end
end Go.Ae
/- Bank of the reference, Windows of the reference, Three of both. -/
set_option linter.unusedSimpArgs false
set_option linter.unusedVariables false
namespace Go.Ae
def winE (s : List (Int × Int)) (d o p a many : Int) : Int := manyE (bankErr s d o p a) many 1000
def sums3 (x y z : Int × Int) : AV := .agg [.int .i64 x.1, .int .i64 x.2, .int .i64 y.1, .int .i64 y.2, .int .i64 z.1, .int .i64 z.2]
def threeE (s : List (Int × Int)) (d o p a half : Int) : AV :=
 if bankErr s d o p a ≠ 0 then .tuple [sums3 (0, 0) (0, 0) (0, 0), .int .i64 (bankErr s d o p a)] else if half < 0 ∨ 64 < half then .tuple [sums3 (0, 0) (0, 0) (0, 0), .int .i64 2]
 else .tuple [sums3 (sumP s (sampL d p o.toNat) (a - half)) (sumP s (sampL d p o.toNat) a) (sumP s (sampL d p o.toNat) (a + half)), .int .i64 0]
theorem sums3_free (x y z : Int × Int) (e : Int) : (AV.tuple [sums3 x y z, .int .i64 e]).free := free_tuple (by simp [sums3, AV.free, AV.bel, AV.bels])
theorem threeE_free (s : List (Int × Int)) (d o p a half : Int) : (threeE s d o p a half).free := by
 unfold threeE
 split
 ·exact sums3_free _ _ _ _
 ·split <;> exact sums3_free _ _ _ _
section
variable {C : Ctx}
set_option maxHeartbeats 1000000 in
theorem Three_spec (hC : Has C T281) {v : AV} {s : List (Int × Int)} {d o p a half : Int} {h : Heap} (hs : SI h v s) (hd : In64 d) (ho : In64 o) (hp : In64 p) (ha : In64 a) (hm : In64 half) :
  ACalls C 281 [v, .int .i64 d, .int .i64 o, .int .i64 p, .int .i64 a, .int .i64 half] h (fun r h' => r = threeE s d o p a half ∧ h' = h) := by
 refine ACalls.gc0 (P := fun r h' => r = threeE s d o p a half ∧ HSub h h') ?_ (fun r h' hp => ⟨by rw [hp.1]; exact threeE_free _ _ _ _ _ _, hp.2, hp.1, rfl⟩)
 have kM := fun h1 (q : HSub h h1) => made292_spec (hC.sub (T' := T292) (by decide)) (hs.mono q) hd ho hp ha
 have v1 := hs.one
 unfold In64 at hm
 unfold threeE
 (refine calls_intro (hC.body (by decide) tab281) (Nat.le_of_ble_eq_true rfl) ?_); (show wp C _ none B281.code _ _); (simp only [B281]); simp -implicitDefEqProofs (disch := first | assumption | decide | omega | (simp only [wpD1] <;> omega) | (simp only [wpD2] <;> assumption) | solve_by_elim [zR, zP, zV] | fail) only [↓wpPre, wpPost, wpPoly, Int.reduceToNat, Int.reducePow, Int.reduceMul, Int.reduceAdd, Int.reduceSub, Int.reduceNeg, Nat.reduceAdd, Nat.reduceMul, Nat.reducePow, Int.reduceLT, Int.reduceLE, Int.reduceEq, Nat.reduceEqDiff]
 refine ACallsK.of (kM _ (HSub.push1 _ _)) ?_
 rintro r h1 ⟨s1, x, rfl, g0, g1⟩
 have gz : h1.get h.size = some (.cells [.int .i64 0, .int .i64 0, .int .i64 0, .int .i64 0, .int .i64 0, .int .i64 0] true 0) := (s1.get _ (by simp)).trans (get_push_eq rfl)
 have hz : h.size < h1.size := by have := s1.size; simp only [Heap.size_push] at this; omega
 have s0 := (HSub.push1 h (.cells [.int .i64 0, .int .i64 0, .int .i64 0, .int .i64 0, .int .i64 0, .int .i64 0] true 0)).trans s1
 by_cases c : bankErr s d o p a = 0
 ·have ok := bankErr_ok c
  obtain ⟨w, rfl, R⟩ := g0 c
  have w1 := R.one
  have sb := fun (H : Heap) i => storeB_two (H := H) (i := i) (a := .nilslice) (b := .nilslice) v1 w1
  rw [c, if_neg (by decide)]
  unfold corA
  by_cases c2 : half < 0 ∨ 64 < half
  ·rw [if_pos c2]
   unfold sums3
   simp -implicitDefEqProofs (disch := first | assumption | decide | omega | (simp only [wpD1] <;> omega) | (simp only [wpD2] <;> assumption) | solve_by_elim [zR, zP, zV] | fail) only [↓wpPre, wpPost, wpPoly, Int.reduceToNat, Int.reducePow, Int.reduceMul, Int.reduceAdd, Int.reduceSub, Int.reduceNeg, Nat.reduceAdd, Nat.reduceMul, Nat.reducePow, Int.reduceLT, Int.reduceLE, Int.reduceEq, Nat.reduceEqDiff, corE, sb]
   (repeat' (first | (refine Br.by (fun _ => ?_) (fun _ => ?_)) | (simp -implicitDefEqProofs (disch := first | assumption | decide | omega | (simp only [wpD1] <;> omega) | (simp only [wpD2] <;> assumption) | solve_by_elim [zR, zP, zV] | fail) only [↓wpPre, wpPost, wpPoly, Int.reduceToNat, Int.reducePow, Int.reduceMul, Int.reduceAdd, Int.reduceSub, Int.reduceNeg, Nat.reduceAdd, Nat.reduceMul, Nat.reducePow, Int.reduceLT, Int.reduceLE, Int.reduceEq, Nat.reduceEqDiff, gV_u, gz])))
   all_goals first
    | (exfalso; omega)
    | exact (by repeat (first | exact s0 | refine HSub.put ?_ (by (try simp only [Heap.size_put, Heap.size_push, Heap.size_reserve]); omega) _ | refine HSub.push ?_ _ | refine HSub.reserve ?_ _))
  ·have kS := fun (b : Int) (hb : -100000000 ≤ b ∧ b ≤ 100000000) h2 (q : HSub h1 h2) => sum293_spec (hC.sub (T' := T293) (by decide)) (a := b) (hs.mono (s0.trans q)) (R.mono q) ok.2.1 (sampL_one1 _ _ _) (by have := samp_len ok.2.2.1; omega) hb
   rw [if_neg c2]
   have q1 := fun h2 q => kS (a - half) (by omega) h2 q
   have q2 := fun h2 q => kS a (by omega) h2 q
   have q3 := fun h2 q => kS (a + half) (by omega) h2 q
   unfold corA at q1 q2 q3
   unfold sums3
   generalize sumP s (sampL d p o.toNat) (a - half) = y1 at *
   generalize sumP s (sampL d p o.toNat) a = y2 at *
   generalize sumP s (sampL d p o.toNat) (a + half) = y3 at *
   obtain ⟨a1, a2⟩ := y1
   obtain ⟨b1, b2⟩ := y2
   obtain ⟨c1, c2⟩ := y3
   unfold smp at q1 q2 q3
   dsimp only at q1 q2 q3 ⊢
   simp -implicitDefEqProofs (disch := first | assumption | decide | omega | (simp only [wpD1] <;> omega) | (simp only [wpD2] <;> assumption) | solve_by_elim [zR, zP, zV] | fail) only [↓wpPre, wpPost, wpPoly, Int.reduceToNat, Int.reducePow, Int.reduceMul, Int.reduceAdd, Int.reduceSub, Int.reduceNeg, Nat.reduceAdd, Nat.reduceMul, Nat.reducePow, Int.reduceLT, Int.reduceLE, Int.reduceEq, Nat.reduceEqDiff, corE, sb, gV_u]
   refine ACallsK.eq (q1 _ (by repeat (first | exact HSub.refl h1 | refine HSub.put ?_ (by (try simp only [Heap.size_put, Heap.size_push, Heap.size_reserve]); omega) _ | refine HSub.push ?_ _ | refine HSub.reserve ?_ _))) ?_
   simp -implicitDefEqProofs (disch := first | assumption | decide | omega | (simp only [wpD1] <;> omega) | (simp only [wpD2] <;> assumption) | solve_by_elim [zR, zP, zV] | fail) only [↓wpPre, wpPost, wpPoly, Int.reduceToNat, Int.reducePow, Int.reduceMul, Int.reduceAdd, Int.reduceSub, Int.reduceNeg, Nat.reduceAdd, Nat.reduceMul, Nat.reducePow, Int.reduceLT, Int.reduceLE, Int.reduceEq, Nat.reduceEqDiff]
   refine ACallsK.eq (q2 _ (by repeat (first | exact HSub.refl h1 | refine HSub.put ?_ (by (try simp only [Heap.size_put, Heap.size_push, Heap.size_reserve]); omega) _ | refine HSub.push ?_ _ | refine HSub.reserve ?_ _))) ?_
   simp -implicitDefEqProofs (disch := first | assumption | decide | omega | (simp only [wpD1] <;> omega) | (simp only [wpD2] <;> assumption) | solve_by_elim [zR, zP, zV] | fail) only [↓wpPre, wpPost, wpPoly, Int.reduceToNat, Int.reducePow, Int.reduceMul, Int.reduceAdd, Int.reduceSub, Int.reduceNeg, Nat.reduceAdd, Nat.reduceMul, Nat.reducePow, Int.reduceLT, Int.reduceLE, Int.reduceEq, Nat.reduceEqDiff]
   refine ACallsK.eq (q3 _ (by repeat (first | exact HSub.refl h1 | refine HSub.put ?_ (by (try simp only [Heap.size_put, Heap.size_push, Heap.size_reserve]); omega) _ | refine HSub.push ?_ _ | refine HSub.reserve ?_ _))) ?_
   simp -implicitDefEqProofs (disch := first | assumption | decide | omega | (simp only [wpD1] <;> omega) | (simp only [wpD2] <;> assumption) | solve_by_elim [zR, zP, zV] | fail) only [↓wpPre, wpPost, wpPoly, Int.reduceToNat, Int.reducePow, Int.reduceMul, Int.reduceAdd, Int.reduceSub, Int.reduceNeg, Nat.reduceAdd, Nat.reduceMul, Nat.reducePow, Int.reduceLT, Int.reduceLE, Int.reduceEq, Nat.reduceEqDiff, gz]
   exact (by repeat (first | exact s0 | refine HSub.put ?_ (by (try simp only [Heap.size_put, Heap.size_push, Heap.size_reserve]); omega) _ | refine HSub.push ?_ _ | refine HSub.reserve ?_ _))
 ·rw [g1 c, if_pos c]
  unfold corA sums3
  generalize bankErr s d o p a = e at *
  simp -implicitDefEqProofs (disch := first | assumption | decide | omega | (simp only [wpD1] <;> omega) | (simp only [wpD2] <;> assumption) | solve_by_elim [zR, zP, zV] | fail) only [↓wpPre, wpPost, wpPoly, Int.reduceToNat, Int.reducePow, Int.reduceMul, Int.reduceAdd, Int.reduceSub, Int.reduceNeg, Nat.reduceAdd, Nat.reduceMul, Nat.reducePow, Int.reduceLT, Int.reduceLE, Int.reduceEq, Nat.reduceEqDiff, corE, c, gz]
  exact (by repeat (first | exact s0 | refine HSub.put ?_ (by (try simp only [Heap.size_put, Heap.size_push, Heap.size_reserve]); omega) _ | refine HSub.push ?_ _ | refine HSub.reserve ?_ _))
end
end Go.Ae
/- Windows, of the program and of the reference. -/
set_option linter.unusedSimpArgs false
set_option linter.unusedVariables false
namespace Go.Ae
theorem win_prod {k L : Nat} (hk : k ≤ 1000) (hL : L ≤ 8184) : 0 ≤ (k : Int) * (L : Int) ∧ (k : Int) * (L : Int) ≤ 8184000 := by
 have : k * L ≤ 1000 * 8184 := Nat.mul_le_mul hk hL
 have e : (k : Int) * (L : Int) = ((k * L : Nat) : Int) := (Int.natCast_mul k L).symm
 omega
section
variable {C : Ctx}
theorem windows298_spec (hC : Has C T298) {a L m : Int} {h : Heap} : ACalls C 298 [.int .i64 a, .int .i64 L, .int .i64 m] h (fun r h' => r = .func 304 [] [.ptr (h.size + 2) 0, .ptr h.size 0, .ptr (h.size + 1) 0] ∧
  h' = ((h.push (.cells [.int .i64 a] true 0)).push (.cells [.int .i64 L] true 0)).push (.cells [.int .i64 m] true 0)) := by
 (refine calls_intro (hC.body (by decide) tab298) (Nat.le_of_ble_eq_true rfl) ?_); (show wp C _ none B298.code _ _); (simp only [B298]); simp -implicitDefEqProofs (disch := first | assumption | decide | omega | (simp only [wpD1] <;> omega) | (simp only [wpD2] <;> assumption) | solve_by_elim [zR, zP, zV] | fail) only [↓wpPre, wpPost, wpPoly, Int.reduceToNat, Int.reducePow, Int.reduceMul, Int.reduceAdd, Int.reduceSub, Int.reduceNeg, Nat.reduceAdd, Nat.reduceMul, Nat.reducePow, Int.reduceLT, Int.reduceLE, Int.reduceEq, Nat.reduceEqDiff]
theorem windows304_iter (hC : Has C T304) {l bm ba bs m L : Nat} {a : Int} {h : Heap} (hm : m ≤ 1000) (hL : L ≤ 8184) (ha : -10000000 ≤ a ∧ a ≤ 10000000) (J : Nat → Heap → Prop) (D : Heap → Prop) (h0 : J 0 h)
  (hb : ∀ k h', J k h' → h'.get bm = some (.cells [.int .i64 (m : Nat)] true 0) ∧ h'.get ba = some (.cells [.int .i64 a] true 0) ∧ h'.get bs = some (.cells [.int .i64 (L : Nat)] true 0))
  (hy : ∀ k h', J k h' → k < m → AYield C l [.int .i64 (k : Nat), .int .i64 (a + (k : Nat) * (L : Nat))] h' (fun r h'' => (r = .bool true ∧ J (k + 1) h'') ∨ (r = .bool false ∧ D h'')))
  (hd : ∀ h', J m h' → D h') : ACalls C 304 [.yield l, .ptr bm 0, .ptr ba 0, .ptr bs 0] h (fun _ h' => D h') := by
 obtain ⟨g0, g1, g2⟩ := hb 0 h h0
 (refine calls_intro (hC.body (by decide) tab304) (Nat.le_of_ble_eq_true rfl) ?_); (show wp C _ none B304.code _ _); (simp only [B304]); simp -implicitDefEqProofs (disch := first | assumption | decide | omega | (simp only [wpD1] <;> omega) | (simp only [wpD2] <;> assumption) | solve_by_elim [zR, zP, zV] | fail) only [↓wpPre, wpPost, wpPoly, Int.reduceToNat, Int.reducePow, Int.reduceMul, Int.reduceAdd, Int.reduceSub, Int.reduceNeg, Nat.reduceAdd, Nat.reduceMul, Nat.reducePow, Int.reduceLT, Int.reduceLE, Int.reduceEq, Nat.reduceEqDiff, g0]
 refine wp_loopI (fun j t h' => ∃ k : Nat, J k h' ∧ t 0 = .yield l ∧ t 2 = .ptr ba 0 ∧ t 3 = .ptr bs 0 ∧ t 6 = .int .i64 (m : Nat) ∧ t 7 = .int .i64 (k : Nat) ∧ k ≤ m ∧ j = m - k) (j0 := m) ⟨0, h0, rfl, rfl, rfl, rfl, rfl, by omega, rfl⟩ ?_
 rintro j t h' ⟨k, hJ, e0, e2, e3, e6, e7, hk, hj⟩
 obtain ⟨g0, g1, g2⟩ := hb k h' hJ
 simp -implicitDefEqProofs (disch := first | assumption | decide | omega | (simp only [wpD1] <;> omega) | (simp only [wpD2] <;> assumption) | solve_by_elim [zR, zP, zV] | fail) only [↓wpPre, wpPost, wpPoly, Int.reduceToNat, Int.reducePow, Int.reduceMul, Int.reduceAdd, Int.reduceSub, Int.reduceNeg, Nat.reduceAdd, Nat.reduceMul, Nat.reducePow, Int.reduceLT, Int.reduceLE, Int.reduceEq, Nat.reduceEqDiff, e6, e7]
 refine Br.by (fun c => ?_) (fun c => ?_)
 ·have hk' : k < m := by omega
  have wp := win_prod (k := k) (by omega) hL
  have hy := hy k h' hJ hk'
  generalize hkc : (k : Int) * (L : Int) = kc at *
  simp -implicitDefEqProofs (disch := first | assumption | decide | omega | (simp only [wpD1] <;> omega) | (simp only [wpD2] <;> assumption) | solve_by_elim [zR, zP, zV] | fail) only [↓wpPre, wpPost, wpPoly, Int.reduceToNat, Int.reducePow, Int.reduceMul, Int.reduceAdd, Int.reduceSub, Int.reduceNeg, Nat.reduceAdd, Nat.reduceMul, Nat.reducePow, Int.reduceLT, Int.reduceLE, Int.reduceEq, Nat.reduceEqDiff, e0, e2, e3, e7, g1, g2, hkc]
  refine AYieldK.of hy ?_
  rintro r h'' (⟨rfl, hJ'⟩ | ⟨rfl, hD⟩)
  ·simp -implicitDefEqProofs (disch := first | assumption | decide | omega | (simp only [wpD1] <;> omega) | (simp only [wpD2] <;> assumption) | solve_by_elim [zR, zP, zV] | fail) only [↓wpPre, wpPost, wpPoly, Int.reduceToNat, Int.reducePow, Int.reduceMul, Int.reduceAdd, Int.reduceSub, Int.reduceNeg, Nat.reduceAdd, Nat.reduceMul, Nat.reducePow, Int.reduceLT, Int.reduceLE, Int.reduceEq, Nat.reduceEqDiff, e0, e2, e3, e6, e7]
   exact ⟨_, ⟨k + 1, hJ', by simp, by omega, rfl⟩, by omega⟩
  ·simp -implicitDefEqProofs (disch := first | assumption | decide | omega | (simp only [wpD1] <;> omega) | (simp only [wpD2] <;> assumption) | solve_by_elim [zR, zP, zV] | fail) only [↓wpPre, wpPost, wpPoly, Int.reduceToNat, Int.reducePow, Int.reduceMul, Int.reduceAdd, Int.reduceSub, Int.reduceNeg, Nat.reduceAdd, Nat.reduceMul, Nat.reducePow, Int.reduceLT, Int.reduceLE, Int.reduceEq, Nat.reduceEqDiff]
   exact hD
 ·have ek : k = m := by omega
  subst ek
  simp -implicitDefEqProofs (disch := first | assumption | decide | omega | (simp only [wpD1] <;> omega) | (simp only [wpD2] <;> assumption) | solve_by_elim [zR, zP, zV] | fail) only [↓wpPre, wpPost, wpPoly, Int.reduceToNat, Int.reducePow, Int.reduceMul, Int.reduceAdd, Int.reduceSub, Int.reduceNeg, Nat.reduceAdd, Nat.reduceMul, Nat.reducePow, Int.reduceLT, Int.reduceLE, Int.reduceEq, Nat.reduceEqDiff]
  exact hd _ hJ
set_option maxHeartbeats 2000000 in
set_option maxRecDepth 20000 in
theorem Windows_spec (hC : Has C T279) {v : AV} {s : List (Int × Int)} {d o p a many : Int} {h : Heap} (hs : SI h v s) (hd : In64 d) (ho : In64 o) (hp : In64 p) (ha : In64 a) (hm : In64 many) :
  ACalls C 279 [v, .int .i64 d, .int .i64 o, .int .i64 p, .int .i64 a, .int .i64 many] h (fun r h' => ∃ w, r = lstErr w (winE s d o p a many) ∧ HSub h h' ∧ SI h' w (if winE s d o p a many = 0 then bankL s (sampL d p o.toNat) a (sampL d p o.toNat).length many.toNat else [])) := by
 have kM := made292_spec (hC.sub (T' := T292) (by decide)) hs hd ho hp ha
 have v1 := hs.one
 unfold In64 at hm
 unfold winE manyE
 (refine calls_intro (hC.body (by decide) tab279) (Nat.le_of_ble_eq_true rfl) ?_); (show wp C _ none B279.code _ _); (simp only [B279]); simp -implicitDefEqProofs (disch := first | assumption | decide | omega | (simp only [wpD1] <;> omega) | (simp only [wpD2] <;> assumption) | solve_by_elim [zR, zP, zV] | fail) only [↓wpPre, wpPost, wpPoly, Int.reduceToNat, Int.reducePow, Int.reduceMul, Int.reduceAdd, Int.reduceSub, Int.reduceNeg, Nat.reduceAdd, Nat.reduceMul, Nat.reducePow, Int.reduceLT, Int.reduceLE, Int.reduceEq, Nat.reduceEqDiff]
 refine ACallsK.of kM ?_
 rintro r h1 ⟨s1, x, rfl, g0, g1⟩
 by_cases c : bankErr s d o p a = 0
 ·have ok := bankErr_ok c
  obtain ⟨w, rfl, R⟩ := g0 c
  have w1 := R.one
  have sb := fun (H : Heap) i => storeB_two (H := H) (i := i) (a := .nilslice) (b := .nilslice) v1 w1
  rw [c, if_neg (by decide)]
  unfold corA
  by_cases c2 : many < 0 ∨ 1000 < many
  ·rw [if_pos c2]
   simp -implicitDefEqProofs (disch := first | assumption | decide | omega | (simp only [wpD1] <;> omega) | (simp only [wpD2] <;> assumption) | solve_by_elim [zR, zP, zV] | fail) only [↓wpPre, wpPost, wpPoly, Int.reduceToNat, Int.reducePow, Int.reduceMul, Int.reduceAdd, Int.reduceSub, Int.reduceNeg, Nat.reduceAdd, Nat.reduceMul, Nat.reducePow, Int.reduceLT, Int.reduceLE, Int.reduceEq, Nat.reduceEqDiff, corE, sb]
   (repeat' (first | (refine Br.by (fun _ => ?_) (fun _ => ?_)) | (simp -implicitDefEqProofs (disch := first | assumption | decide | omega | (simp only [wpD1] <;> omega) | (simp only [wpD2] <;> assumption) | solve_by_elim [zR, zP, zV] | fail) only [↓wpPre, wpPost, wpPoly, Int.reduceToNat, Int.reducePow, Int.reduceMul, Int.reduceAdd, Int.reduceSub, Int.reduceNeg, Nat.reduceAdd, Nat.reduceMul, Nat.reducePow, Int.reduceLT, Int.reduceLE, Int.reduceEq, Nat.reduceEqDiff, gV_u])))
   all_goals first
    | (exfalso; omega)
    | exact ⟨_, rfl, (by repeat (first | exact s1 | refine HSub.put ?_ (by (try simp only [Heap.size_put, Heap.size_push, Heap.size_reserve]); omega) _ | refine HSub.push ?_ _ | refine HSub.reserve ?_ _)), SI.nil⟩
  ·obtain ⟨m, rfl⟩ := Int.eq_ofNat_of_zero_le (show 0 ≤ many by omega)
   have sl := samp_len ok.2.2.1
   have kS := fun (b : Int) (hb : -100000000 ≤ b ∧ b ≤ 100000000) h2 (q : HSub h1 h2) => sum293_spec (hC.sub (T' := T293) (by decide)) (a := b) (hs.mono (s1.trans q)) (R.mono q) ok.2.1 (sampL_one1 _ _ _) (by omega) hb
   have hz := smps_replicate (p := (0, 0)) (n := m)
   simp only at hz
   rw [if_neg c2, if_pos rfl, Int.toNat_natCast]
   generalize sampL d p o.toNat = c at *
   unfold corA at kS
   simp -implicitDefEqProofs (disch := first | assumption | decide | omega | (simp only [wpD1] <;> omega) | (simp only [wpD2] <;> assumption) | solve_by_elim [zR, zP, zV] | fail) only [↓wpPre, wpPost, wpPoly, Int.reduceToNat, Int.reducePow, Int.reduceMul, Int.reduceAdd, Int.reduceSub, Int.reduceNeg, Nat.reduceAdd, Nat.reduceMul, Nat.reducePow, Int.reduceLT, Int.reduceLE, Int.reduceEq, Nat.reduceEqDiff, corE, sb, gV_u, hz, R.len]
   refine ACallsK.hide (fun H hH => ?_)
   have N : H.size = h1.size + 3 := by rw [hH]; simp -implicitDefEqProofs (disch := first | assumption | decide | omega | (simp only [wpD1] <;> omega) | (simp only [wpD2] <;> assumption) | solve_by_elim [zR, zP, zV] | fail) only [↓wpPre, wpPost, wpPoly, Int.reduceToNat, Int.reducePow, Int.reduceMul, Int.reduceAdd, Int.reduceSub, Int.reduceNeg, Nat.reduceAdd, Nat.reduceMul, Nat.reducePow, Int.reduceLT, Int.reduceLE, Int.reduceEq, Nat.reduceEqDiff]
   have gv : H.get h1.size = some (.cells [v, w] true 0) := by rw [hH]; simp -implicitDefEqProofs (disch := first | assumption | decide | omega | (simp only [wpD1] <;> omega) | (simp only [wpD2] <;> assumption) | solve_by_elim [zR, zP, zV] | fail) only [↓wpPre, wpPost, wpPoly, Int.reduceToNat, Int.reducePow, Int.reduceMul, Int.reduceAdd, Int.reduceSub, Int.reduceNeg, Nat.reduceAdd, Nat.reduceMul, Nat.reducePow, Int.reduceLT, Int.reduceLE, Int.reduceEq, Nat.reduceEqDiff]
   have go : H.get (h1.size + 1) = some (.cells (smps (List.replicate m (0, 0))) true 0) := by rw [hH]; simp -implicitDefEqProofs (disch := first | assumption | decide | omega | (simp only [wpD1] <;> omega) | (simp only [wpD2] <;> assumption) | solve_by_elim [zR, zP, zV] | fail) only [↓wpPre, wpPost, wpPoly, Int.reduceToNat, Int.reducePow, Int.reduceMul, Int.reduceAdd, Int.reduceSub, Int.reduceNeg, Nat.reduceAdd, Nat.reduceMul, Nat.reducePow, Int.reduceLT, Int.reduceLE, Int.reduceEq, Nat.reduceEqDiff]
   have gs : H.get (h1.size + 2) = some (.cells [.slice (h1.size + 1) 0 m (.known m)] true 0) := by rw [hH]; simp -implicitDefEqProofs (disch := first | assumption | decide | omega | (simp only [wpD1] <;> omega) | (simp only [wpD2] <;> assumption) | solve_by_elim [zR, zP, zV] | fail) only [↓wpPre, wpPost, wpPoly, Int.reduceToNat, Int.reducePow, Int.reduceMul, Int.reduceAdd, Int.reduceSub, Int.reduceNeg, Nat.reduceAdd, Nat.reduceMul, Nat.reducePow, Int.reduceLT, Int.reduceLE, Int.reduceEq, Nat.reduceEqDiff]
   have hsH : HSub h1 H := by
    rw [hH]
    exact (by repeat (first | exact HSub.refl h1 | refine HSub.put ?_ (by (try simp only [Heap.size_put, Heap.size_push, Heap.size_reserve]); omega) _ | refine HSub.push ?_ _ | refine HSub.reserve ?_ _))
   clear hH
   refine ACallsK.eq (windows298_spec (hC.sub (T' := T298) (by decide))) ?_
   simp -implicitDefEqProofs (disch := first | assumption | decide | omega | (simp only [wpD1] <;> omega) | (simp only [wpD2] <;> assumption) | solve_by_elim [zR, zP, zV] | fail) only [↓wpPre, wpPost, wpPoly, Int.reduceToNat, Int.reducePow, Int.reduceMul, Int.reduceAdd, Int.reduceSub, Int.reduceNeg, Nat.reduceAdd, Nat.reduceMul, Nat.reducePow, Int.reduceLT, Int.reduceLE, Int.reduceEq, Nat.reduceEqDiff]
   refine wpRange_none (D := fun h' => ∃ R, h'.get (H.size + 4) = some (.loop R) ∧ HSub h1 h' ∧ h'.get (H.size + 3) = some (.defd true) ∧ H.size + 5 ≤ h'.size ∧ R.state = .ready ∧ R.pend = none ∧
    h'.get (h1.size + 2) = some (.cells [.slice (h1.size + 1) 0 m (.known m)] true 0) ∧ h'.get (h1.size + 1) = some (.cells (smps (bankL s c a c.length m)) true 0)) ?_ ?_
   ·refine ACalls.hideLoop (fun R hR => ?_)
    show ACalls C 304 [.yield (H.size + 4), .ptr (H.size + 2) 0, .ptr H.size 0, .ptr (H.size + 1) 0] _ _
    have rs : R.state = .ready := by rw [hR]
    have rp : R.pend = none := by rw [hR]
    have rb := loop_back rs rp
    refine windows304_iter (hC.sub (T' := T304) (by decide)) (m := m) (L := c.length) (a := a) (by omega) sl (by omega) (fun k h' => k ≤ m ∧ h'.get (H.size + 4) = some (.loop R) ∧ h'.get (H.size + 3) = some (.defd true) ∧
     h'.get (H.size + 2) = some (.cells [.int .i64 (m : Nat)] true 0) ∧ h'.get H.size = some (.cells [.int .i64 a] true 0) ∧ h'.get (H.size + 1) = some (.cells [.int .i64 (c.length : Nat)] true 0) ∧ HSub h1 h' ∧ H.size + 5 ≤ h'.size ∧
     h'.get h1.size = some (.cells [v, w] true 0) ∧ h'.get (h1.size + 2) = some (.cells [.slice (h1.size + 1) 0 m (.known m)] true 0) ∧ h'.get (h1.size + 1) = some (.cells (smps (bankL s c a c.length k ++ List.replicate (m - k) (0, 0))) true 0)) _ ?_ ?_ ?_ ?_
    ·refine ⟨by omega, ?_, ?_, ?_, ?_, ?_, ?_, ?_, ?_, ?_, ?_⟩
     ·simp -implicitDefEqProofs (disch := first | assumption | decide | omega | (simp only [wpD1] <;> omega) | (simp only [wpD2] <;> assumption) | solve_by_elim [zR, zP, zV] | fail) only [↓wpPre, wpPost, wpPoly, Int.reduceToNat, Int.reducePow, Int.reduceMul, Int.reduceAdd, Int.reduceSub, Int.reduceNeg, Nat.reduceAdd, Nat.reduceMul, Nat.reducePow, Int.reduceLT, Int.reduceLE, Int.reduceEq, Nat.reduceEqDiff]
     ·simp -implicitDefEqProofs (disch := first | assumption | decide | omega | (simp only [wpD1] <;> omega) | (simp only [wpD2] <;> assumption) | solve_by_elim [zR, zP, zV] | fail) only [↓wpPre, wpPost, wpPoly, Int.reduceToNat, Int.reducePow, Int.reduceMul, Int.reduceAdd, Int.reduceSub, Int.reduceNeg, Nat.reduceAdd, Nat.reduceMul, Nat.reducePow, Int.reduceLT, Int.reduceLE, Int.reduceEq, Nat.reduceEqDiff]
     ·simp -implicitDefEqProofs (disch := first | assumption | decide | omega | (simp only [wpD1] <;> omega) | (simp only [wpD2] <;> assumption) | solve_by_elim [zR, zP, zV] | fail) only [↓wpPre, wpPost, wpPoly, Int.reduceToNat, Int.reducePow, Int.reduceMul, Int.reduceAdd, Int.reduceSub, Int.reduceNeg, Nat.reduceAdd, Nat.reduceMul, Nat.reducePow, Int.reduceLT, Int.reduceLE, Int.reduceEq, Nat.reduceEqDiff]
     ·simp -implicitDefEqProofs (disch := first | assumption | decide | omega | (simp only [wpD1] <;> omega) | (simp only [wpD2] <;> assumption) | solve_by_elim [zR, zP, zV] | fail) only [↓wpPre, wpPost, wpPoly, Int.reduceToNat, Int.reducePow, Int.reduceMul, Int.reduceAdd, Int.reduceSub, Int.reduceNeg, Nat.reduceAdd, Nat.reduceMul, Nat.reducePow, Int.reduceLT, Int.reduceLE, Int.reduceEq, Nat.reduceEqDiff]
     ·simp -implicitDefEqProofs (disch := first | assumption | decide | omega | (simp only [wpD1] <;> omega) | (simp only [wpD2] <;> assumption) | solve_by_elim [zR, zP, zV] | fail) only [↓wpPre, wpPost, wpPoly, Int.reduceToNat, Int.reducePow, Int.reduceMul, Int.reduceAdd, Int.reduceSub, Int.reduceNeg, Nat.reduceAdd, Nat.reduceMul, Nat.reducePow, Int.reduceLT, Int.reduceLE, Int.reduceEq, Nat.reduceEqDiff]
     ·exact ((((hsH.push _).push _).push _).push _).push _
     ·simp -implicitDefEqProofs (disch := first | assumption | decide | omega | (simp only [wpD1] <;> omega) | (simp only [wpD2] <;> assumption) | solve_by_elim [zR, zP, zV] | fail) only [↓wpPre, wpPost, wpPoly, Int.reduceToNat, Int.reducePow, Int.reduceMul, Int.reduceAdd, Int.reduceSub, Int.reduceNeg, Nat.reduceAdd, Nat.reduceMul, Nat.reducePow, Int.reduceLT, Int.reduceLE, Int.reduceEq, Nat.reduceEqDiff]
      omega
     ·simp -implicitDefEqProofs (disch := first | assumption | decide | omega | (simp only [wpD1] <;> omega) | (simp only [wpD2] <;> assumption) | solve_by_elim [zR, zP, zV] | fail) only [↓wpPre, wpPost, wpPoly, Int.reduceToNat, Int.reducePow, Int.reduceMul, Int.reduceAdd, Int.reduceSub, Int.reduceNeg, Nat.reduceAdd, Nat.reduceMul, Nat.reducePow, Int.reduceLT, Int.reduceLE, Int.reduceEq, Nat.reduceEqDiff, gv]
     ·simp -implicitDefEqProofs (disch := first | assumption | decide | omega | (simp only [wpD1] <;> omega) | (simp only [wpD2] <;> assumption) | solve_by_elim [zR, zP, zV] | fail) only [↓wpPre, wpPost, wpPoly, Int.reduceToNat, Int.reducePow, Int.reduceMul, Int.reduceAdd, Int.reduceSub, Int.reduceNeg, Nat.reduceAdd, Nat.reduceMul, Nat.reducePow, Int.reduceLT, Int.reduceLE, Int.reduceEq, Nat.reduceEqDiff, gs]
     ·simp -implicitDefEqProofs (disch := first | assumption | decide | omega | (simp only [wpD1] <;> omega) | (simp only [wpD2] <;> assumption) | solve_by_elim [zR, zP, zV] | fail) only [↓wpPre, wpPost, wpPoly, Int.reduceToNat, Int.reducePow, Int.reduceMul, Int.reduceAdd, Int.reduceSub, Int.reduceNeg, Nat.reduceAdd, Nat.reduceMul, Nat.reducePow, Int.reduceLT, Int.reduceLE, Int.reduceEq, Nat.reduceEqDiff, go]
      rfl
    ·rintro k h' ⟨_, _, _, q0, q1, q2, _⟩
     exact ⟨q0, q1, q2⟩
    ·rintro k h' ⟨hk, hlp, hd, p0, p1, p2, hsub, hsz, gv, gs, go⟩ hk'
     have wp := win_prod (k := k) (by omega) sl
     have bs := bankZ_set (s := s) (c := c) (a := a) (w := (c.length : Int)) hk'
     have hwl : (bankL s c a c.length k ++ List.replicate (m - k) (0, 0)).length = m := by simp [bankL_length]; omega
     have hsl : (smps (bankL s c a c.length k ++ List.replicate (m - k) (0, 0))).length = m * 2 := by rw [smps_length, hwl]
     have hset := smps_splice (l := bankL s c a c.length k ++ List.replicate (m - k) (0, 0)) (k := k) (p := sumP s c (a + (k : Nat) * (c.length : Nat))) (by rw [hwl]; exact hk')
     rw [bs] at hset
     have kS := kS (a + (k : Nat) * (c.length : Nat)) (by omega)
     generalize hkc : a + (k : Int) * (c.length : Int) = kc at *
     generalize sumP s c kc = q at *
     obtain ⟨qx, qy⟩ := q
     unfold smp at kS
     dsimp only at kS hset
     refine yield_intro (r := R) (by simp -implicitDefEqProofs (disch := first | assumption | decide | omega | (simp only [wpD1] <;> omega) | (simp only [wpD2] <;> assumption) | solve_by_elim [zR, zP, zV] | fail) only [↓wpPre, wpPost, wpPoly, Int.reduceToNat, Int.reducePow, Int.reduceMul, Int.reduceAdd, Int.reduceSub, Int.reduceNeg, Nat.reduceAdd, Nat.reduceMul, Nat.reducePow, Int.reduceLT, Int.reduceLE, Int.reduceEq, Nat.reduceEqDiff, hlp]) rs (by rw [hR]; rfl) ?_
     simp only [congrArg ALoop.nt hR, congrArg ALoop.t hR, congrArg ALoop.params hR, congrArg ALoop.assign hR, congrArg ALoop.body hR]
     simp -implicitDefEqProofs (disch := first | assumption | decide | omega | (simp only [wpD1] <;> omega) | (simp only [wpD2] <;> assumption) | solve_by_elim [zR, zP, zV] | fail) only [↓wpPre, wpPost, wpPoly, Int.reduceToNat, Int.reducePow, Int.reduceMul, Int.reduceAdd, Int.reduceSub, Int.reduceNeg, Nat.reduceAdd, Nat.reduceMul, Nat.reducePow, Int.reduceLT, Int.reduceLE, Int.reduceEq, Nat.reduceEqDiff, hlp, rs, gv, gs]
     refine ACallsK.eq (kS _ (hsub.put (by omega) _)) ?_
     simp -implicitDefEqProofs (disch := first | assumption | decide | omega | (simp only [wpD1] <;> omega) | (simp only [wpD2] <;> assumption) | solve_by_elim [zR, zP, zV] | fail) only [↓wpPre, wpPost, wpPoly, Int.reduceToNat, Int.reducePow, Int.reduceMul, Int.reduceAdd, Int.reduceSub, Int.reduceNeg, Nat.reduceAdd, Nat.reduceMul, Nat.reducePow, Int.reduceLT, Int.reduceLE, Int.reduceEq, Nat.reduceEqDiff, hlp, gs, go, hset, hsl]
     exact .inl ⟨by omega, by rw [rb], hd, p0, p1, p2, ((hsub.put (by omega) _).put (by omega) _).put (by omega) _, by omega, gv⟩
    ·rintro h' ⟨_, hlp, hd, p0, p1, p2, hsub, hsz, gv, gs, go⟩
     rw [Nat.sub_self, List.replicate_zero, List.append_nil] at go
     exact ⟨R, hlp, hsub, hd, hsz, rs, rp, gs, go⟩
   ·rintro h' ⟨R, hlp, hsub, hd, hsz, hst, hpd, gs, go⟩
    refine ⟨R, hlp, by rw [hst]; decide, ?_⟩
    rw [hpd]
    show blockO _ _ .normal _
    simp -implicitDefEqProofs (disch := first | assumption | decide | omega | (simp only [wpD1] <;> omega) | (simp only [wpD2] <;> assumption) | solve_by_elim [zR, zP, zV] | fail) only [↓wpPre, wpPost, wpPoly, Int.reduceToNat, Int.reducePow, Int.reduceMul, Int.reduceAdd, Int.reduceSub, Int.reduceNeg, Nat.reduceAdd, Nat.reduceMul, Nat.reducePow, Int.reduceLT, Int.reduceLE, Int.reduceEq, Nat.reduceEqDiff, hd, gs, go]
    refine ⟨_, rfl, ((s1.trans hsub).put (by have := s1.size; omega) _).put (by have := s1.size; omega) _, SI.known (wr := true) (u := 0) ?_ ⟨(bankL_length _ _ _ _ _).symm, by omega⟩ (Nat.le_refl _)⟩
    simp -implicitDefEqProofs (disch := first | assumption | decide | omega | (simp only [wpD1] <;> omega) | (simp only [wpD2] <;> assumption) | solve_by_elim [zR, zP, zV] | fail) only [↓wpPre, wpPost, wpPoly, Int.reduceToNat, Int.reducePow, Int.reduceMul, Int.reduceAdd, Int.reduceSub, Int.reduceNeg, Nat.reduceAdd, Nat.reduceMul, Nat.reducePow, Int.reduceLT, Int.reduceLE, Int.reduceEq, Nat.reduceEqDiff, go]
 ·rw [g1 c, if_pos c, if_neg c]
  unfold corA
  generalize bankErr s d o p a = e at *
  simp -implicitDefEqProofs (disch := first | assumption | decide | omega | (simp only [wpD1] <;> omega) | (simp only [wpD2] <;> assumption) | solve_by_elim [zR, zP, zV] | fail) only [↓wpPre, wpPost, wpPoly, Int.reduceToNat, Int.reducePow, Int.reduceMul, Int.reduceAdd, Int.reduceSub, Int.reduceNeg, Nat.reduceAdd, Nat.reduceMul, Nat.reducePow, Int.reduceLT, Int.reduceLE, Int.reduceEq, Nat.reduceEqDiff, corE, c]
  exact ⟨_, rfl, (by repeat (first | exact s1 | refine HSub.put ?_ (by (try simp only [Heap.size_put, Heap.size_push, Heap.size_reserve]); omega) _ | refine HSub.push ?_ _ | refine HSub.reserve ?_ _)), SI.nil⟩
end
end Go.Ae
/- Spin, Steps and Best: the exported functions, and the reference's. -/
set_option linter.unusedSimpArgs false
set_option linter.unusedVariables false
namespace Go.Ae
def spinE (l : List (Int × Int)) (st : Int) : AV := if smE l 16 = 0 then .tuple [smp (spinK l st l.length), .int .i64 0] else .tuple [smp (0, 0), .int .i64 (smE l 16)]
theorem spinE_free (l : List (Int × Int)) (st : Int) : (spinE l st).free := by
 unfold spinE
 split <;> exact free_tuple (by simp [smp, AV.free, AV.bel, AV.bels])
theorem smE_zero {l : List (Int × Int)} {m : Nat} (h : smE l m = 0) : l.length ≤ m ∧ ∀ x ∈ l, inS 1048576 x := by
 unfold smE at h
 split at h
 ·omega
 ·split at h
  ·exact ⟨by omega, by assumption⟩
  ·omega
theorem smE_cases (l : List (Int × Int)) (m : Nat) : smE l m = 0 ∨ smE l m = 2 ∨ smE l m = 4 := by
 unfold smE
 split
 ·simp
 ·split <;> simp
theorem bins_any (b : Int) : ([1, 2, 4, 8, 16, 32, 64].any fun y => b == y) = decide (binsOk b) := by
 have k : ([1, 2, 4, 8, 16, 32, 64].any fun y => b == y) = true ↔ binsOk b := by unfold binsOk; simp
 by_cases c : binsOk b
 ·rw [decide_eq_true c]; exact k.2 c
 ·rw [decide_eq_false c]; exact Bool.eq_false_iff.2 fun q => c (k.1 q)
theorem stepsZ_set {l : List (Int × Int)} {b : Int} {m k : Nat} (h : k < m) : (stepsL l b k ++ List.replicate (m - k) 0).set k (stepP l b k) = stepsL l b (k + 1) ++ List.replicate (m - (k + 1)) 0 := by
 rw [List.set_append_right _ _ (by rw [stepsL_length]; omega), stepsL_length, Nat.sub_self, show m - k = m - (k + 1) + 1 by omega, List.replicate_succ, List.set_cons_zero, stepsL_succ, List.append_assoc]
 rfl
theorem step_u32 {j : Nat} {b : Int} : U32 ((j : Int) * (4294967296 / b) % 4294967296) := by unfold U32; omega
section
variable {C : Ctx}
theorem Spin_spec (hC : Has C T268) {v : AV} {l : List (Int × Int)} {st : Int} {h : Heap} (hl : SI h v l) (hst : U32 st) : ACalls C 268 [v, .int .u32 st] h (fun r h' => r = spinE l st ∧ h' = h) := by
 refine ACalls.gc0 (P := fun r h' => r = spinE l st ∧ HSub h h') ?_ (fun r h' hp => ⟨by rw [hp.1]; exact spinE_free _ _, hp.2, hp.1, rfl⟩)
 have k1 := fun h1 (q : HSub h h1) => small_spec (hC.sub (T' := T285) (by decide)) (most := 16) (hl.mono q) (by omega)
 unfold spinE
 by_cases c : smE l 16 = 0
 ·have z := smE_zero c
  have k2 := fun h1 (q : HSub h h1) => spin_spec (hC.sub (T' := T286) (by decide)) (hl.mono q) z.1 z.2 hst
  rw [c] at k1
  rw [if_pos c]
  generalize spinK l st l.length = q at *
  obtain ⟨qx, qy⟩ := q
  unfold smp at k2 ⊢
  (refine calls_intro (hC.body (by decide) tab268) (Nat.le_of_ble_eq_true rfl) ?_); (show wp C _ none B268.code _ _); (simp only [B268]); simp -implicitDefEqProofs (disch := first | assumption | decide | omega | (simp only [wpD1] <;> omega) | (simp only [wpD2] <;> assumption) | solve_by_elim [zR, zP, zV] | fail) only [↓wpPre, wpPost, wpPoly, Int.reduceToNat, Int.reducePow, Int.reduceMul, Int.reduceAdd, Int.reduceSub, Int.reduceNeg, Nat.reduceAdd, Nat.reduceMul, Nat.reducePow, Int.reduceLT, Int.reduceLE, Int.reduceEq, Nat.reduceEqDiff]
  refine ACallsK.eq (k1 _ (HSub.push1 _ _)) ?_
  simp -implicitDefEqProofs (disch := first | assumption | decide | omega | (simp only [wpD1] <;> omega) | (simp only [wpD2] <;> assumption) | solve_by_elim [zR, zP, zV] | fail) only [↓wpPre, wpPost, wpPoly, Int.reduceToNat, Int.reducePow, Int.reduceMul, Int.reduceAdd, Int.reduceSub, Int.reduceNeg, Nat.reduceAdd, Nat.reduceMul, Nat.reducePow, Int.reduceLT, Int.reduceLE, Int.reduceEq, Nat.reduceEqDiff]
  refine ACallsK.eq (k2 _ (HSub.push1 _ _)) ?_
  simp -implicitDefEqProofs (disch := first | assumption | decide | omega | (simp only [wpD1] <;> omega) | (simp only [wpD2] <;> assumption) | solve_by_elim [zR, zP, zV] | fail) only [↓wpPre, wpPost, wpPoly, Int.reduceToNat, Int.reducePow, Int.reduceMul, Int.reduceAdd, Int.reduceSub, Int.reduceNeg, Nat.reduceAdd, Nat.reduceMul, Nat.reducePow, Int.reduceLT, Int.reduceLE, Int.reduceEq, Nat.reduceEqDiff]
  exact (by repeat (first | exact HSub.refl h | refine HSub.put ?_ (by (try simp only [Heap.size_put, Heap.size_push, Heap.size_reserve]); omega) _ | refine HSub.push ?_ _ | refine HSub.reserve ?_ _))
 ·rw [if_neg c]
  have cc := smE_cases l 16
  generalize smE l 16 = e at *
  unfold smp
  (refine calls_intro (hC.body (by decide) tab268) (Nat.le_of_ble_eq_true rfl) ?_); (show wp C _ none B268.code _ _); (simp only [B268]); simp -implicitDefEqProofs (disch := first | assumption | decide | omega | (simp only [wpD1] <;> omega) | (simp only [wpD2] <;> assumption) | solve_by_elim [zR, zP, zV] | fail) only [↓wpPre, wpPost, wpPoly, Int.reduceToNat, Int.reducePow, Int.reduceMul, Int.reduceAdd, Int.reduceSub, Int.reduceNeg, Nat.reduceAdd, Nat.reduceMul, Nat.reducePow, Int.reduceLT, Int.reduceLE, Int.reduceEq, Nat.reduceEqDiff]
  refine ACallsK.eq (k1 _ (HSub.push1 _ _)) ?_
  simp -implicitDefEqProofs (disch := first | assumption | decide | omega | (simp only [wpD1] <;> omega) | (simp only [wpD2] <;> assumption) | solve_by_elim [zR, zP, zV] | fail) only [↓wpPre, wpPost, wpPoly, Int.reduceToNat, Int.reducePow, Int.reduceMul, Int.reduceAdd, Int.reduceSub, Int.reduceNeg, Nat.reduceAdd, Nat.reduceMul, Nat.reducePow, Int.reduceLT, Int.reduceLE, Int.reduceEq, Nat.reduceEqDiff, c]
  exact (by repeat (first | exact HSub.refl h | refine HSub.put ?_ (by (try simp only [Heap.size_put, Heap.size_push, Heap.size_reserve]); omega) _ | refine HSub.push ?_ _ | refine HSub.reserve ?_ _))
set_option maxHeartbeats 1000000 in
set_option maxRecDepth 20000 in
theorem Steps_spec (hC : Has C T270) {v : AV} {l : List (Int × Int)} {b : Int} {h : Heap} (hl : SI h v l) (hb : In64 b) :
  ACalls C 270 [v, .int .i64 b] h (fun r h' => ∃ w, r = lstErr w (stepsE l b) ∧ HSub h h' ∧ RI h' w (if stepsE l b = 0 then stepsL l b b.toNat else [])) := by
 have k1 := fun h1 (q : HSub h h1) => small_spec (hC.sub (T' := T285) (by decide)) (most := 16) (hl.mono q) (by omega)
 have cc := smE_cases l 16
 by_cases c : smE l 16 = 0
 ·have z := smE_zero c
  rw [c] at k1
  have k2 := fun (st : Int) (hst : U32 st) h1 (q : HSub h h1) => spin_spec (st := st) (hC.sub (T' := T286) (by decide)) (hl.mono q) z.1 z.2 hst
  have k3 := fun p h => power_spec (p := p) (h := h) (hC.sub (T' := T289) (by decide))
  have k4 := fun h1 (q : RI h1 (.slice h.size 0 7 (.known 7)) [1, 2, 4, 8, 16, 32, 64]) => Contains_spec (hC.sub (T' := T89) (by decide)) (x := b) q
  simp only [bins_any] at k4
  (refine calls_intro (hC.body (by decide) tab270) (Nat.le_of_ble_eq_true rfl) ?_); (show wp C _ none B270.code _ _); (simp only [B270]); simp -implicitDefEqProofs (disch := first | assumption | decide | omega | (simp only [wpD1] <;> omega) | (simp only [wpD2] <;> assumption) | solve_by_elim [zR, zP, zV] | fail) only [↓wpPre, wpPost, wpPoly, Int.reduceToNat, Int.reducePow, Int.reduceMul, Int.reduceAdd, Int.reduceSub, Int.reduceNeg, Nat.reduceAdd, Nat.reduceMul, Nat.reducePow, Int.reduceLT, Int.reduceLE, Int.reduceEq, Nat.reduceEqDiff]
  refine ACallsK.eq (k1 _ (HSub.refl _)) ?_
  simp -implicitDefEqProofs (disch := first | assumption | decide | omega | (simp only [wpD1] <;> omega) | (simp only [wpD2] <;> assumption) | solve_by_elim [zR, zP, zV] | fail) only [↓wpPre, wpPost, wpPoly, Int.reduceToNat, Int.reducePow, Int.reduceMul, Int.reduceAdd, Int.reduceSub, Int.reduceNeg, Nat.reduceAdd, Nat.reduceMul, Nat.reducePow, Int.reduceLT, Int.reduceLE, Int.reduceEq, Nat.reduceEqDiff]
  refine ACallsK.eq (k4 _ (RI.known (get_push_eq rfl) ⟨rfl, by decide⟩ (by decide))) ?_
  by_cases c2 : binsOk b
  ·have e : stepsE l b = 0 := by unfold stepsE; rw [if_neg (by omega), if_pos c2]
   have hb2 : 1 ≤ b ∧ b ≤ 64 := by unfold binsOk at c2; omega
   obtain ⟨m, rfl⟩ := Int.eq_ofNat_of_zero_le (show 0 ≤ b by omega)
   rw [e, if_pos rfl, Int.toNat_natCast]
   simp -implicitDefEqProofs (disch := first | assumption | decide | omega | (simp only [wpD1] <;> omega) | (simp only [wpD2] <;> assumption) | solve_by_elim [zR, zP, zV] | fail) only [↓wpPre, wpPost, wpPoly, Int.reduceToNat, Int.reducePow, Int.reduceMul, Int.reduceAdd, Int.reduceSub, Int.reduceNeg, Nat.reduceAdd, Nat.reduceMul, Nat.reducePow, Int.reduceLT, Int.reduceLE, Int.reduceEq, Nat.reduceEqDiff, c2, ints_replicate]
   refine wp_loopI (fun j t h' => HSub h h' ∧ h.size + 1 < h'.size ∧ ∃ k : Nat, h'.get (h.size + 1) = some (.cells (ints (stepsL l m k ++ List.replicate (m - k) 0)) true 0) ∧ t 0 = v ∧ t 1 = .int .i64 (m : Nat) ∧ t 7 = .slice (h.size + 1) 0 m (.known m) ∧ t 21 = .int .i64 (m : Nat) ∧ t 22 = .int .i64 (k : Nat) ∧ k ≤ m ∧ j = m - k) (j0 := m)
    ⟨(HSub.push1 _ _).push _, by simp, 0, by simp -implicitDefEqProofs (disch := first | assumption | decide | omega | (simp only [wpD1] <;> omega) | (simp only [wpD2] <;> assumption) | solve_by_elim [zR, zP, zV] | fail) only [↓wpPre, wpPost, wpPoly, Int.reduceToNat, Int.reducePow, Int.reduceMul, Int.reduceAdd, Int.reduceSub, Int.reduceNeg, Nat.reduceAdd, Nat.reduceMul, Nat.reducePow, Int.reduceLT, Int.reduceLE, Int.reduceEq, Nat.reduceEqDiff]; rfl, rfl, rfl, rfl, rfl, rfl, by omega, rfl⟩ ?_
   rintro j t h1 ⟨s1, hz, k, gb, e0, e1, e7, e21, e22, hk, hj⟩
   simp -implicitDefEqProofs (disch := first | assumption | decide | omega | (simp only [wpD1] <;> omega) | (simp only [wpD2] <;> assumption) | solve_by_elim [zR, zP, zV] | fail) only [↓wpPre, wpPost, wpPoly, Int.reduceToNat, Int.reducePow, Int.reduceMul, Int.reduceAdd, Int.reduceSub, Int.reduceNeg, Nat.reduceAdd, Nat.reduceMul, Nat.reducePow, Int.reduceLT, Int.reduceLE, Int.reduceEq, Nat.reduceEqDiff, e21, e22]
   refine Br.by (fun c3 => ?_) (fun c3 => ?_)
   ·have hk' : k < m := by omega
    have hu := step_u32 (j := k) (b := (m : Int))
    have k2 := k2 _ hu h1 s1
    have es : stepP l m k = powP (spinK l ((k : Int) * (4294967296 / (m : Int)) % 4294967296) l.length) := rfl
    have sz := stepsZ_set (l := l) (b := (m : Int)) hk'
    rw [es] at sz
    have q0 : (4294967296 : Int).tdiv (m : Int) = 4294967296 / (m : Int) := Int.tdiv_eq_ediv_of_nonneg (by decide)
    have Q1 : 0 ≤ 4294967296 / (m : Int) := Int.ediv_nonneg (by decide) (by omega)
    have Q2 : 4294967296 / (m : Int) ≤ 4294967296 := Int.ediv_le_self _ (by decide)
    have kQ : 0 ≤ (k : Int) * (4294967296 / (m : Int)) ∧ (k : Int) * (4294967296 / (m : Int)) ≤ 64 * 4294967296 := ⟨Int.mul_nonneg (by omega) Q1, Int.mul_le_mul (by omega) Q2 Q1 (by decide)⟩
    have zl : (stepsL l m k ++ List.replicate (m - k) 0).length = m := by simp [stepsL_length]; omega
    generalize hQ : 4294967296 / (m : Int) = Q at *
    simp -implicitDefEqProofs (disch := first | assumption | decide | omega | (simp only [wpD1] <;> omega) | (simp only [wpD2] <;> assumption) | solve_by_elim [zR, zP, zV] | fail) only [↓wpPre, wpPost, wpPoly, Int.reduceToNat, Int.reducePow, Int.reduceMul, Int.reduceAdd, Int.reduceSub, Int.reduceNeg, Nat.reduceAdd, Nat.reduceMul, Nat.reducePow, Int.reduceLT, Int.reduceLE, Int.reduceEq, Nat.reduceEqDiff, e0, e1, e7, e22, q0, hQ, wrap_u32]
    refine ACallsK.eq k2 ?_
    simp -implicitDefEqProofs (disch := first | assumption | decide | omega | (simp only [wpD1] <;> omega) | (simp only [wpD2] <;> assumption) | solve_by_elim [zR, zP, zV] | fail) only [↓wpPre, wpPost, wpPoly, Int.reduceToNat, Int.reducePow, Int.reduceMul, Int.reduceAdd, Int.reduceSub, Int.reduceNeg, Nat.reduceAdd, Nat.reduceMul, Nat.reducePow, Int.reduceLT, Int.reduceLE, Int.reduceEq, Nat.reduceEqDiff]
    refine ACallsK.eq (k3 _ _) ?_
    simp -implicitDefEqProofs (disch := first | assumption | decide | omega | (simp only [wpD1] <;> omega) | (simp only [wpD2] <;> assumption) | solve_by_elim [zR, zP, zV] | fail) only [↓wpPre, wpPost, wpPoly, Int.reduceToNat, Int.reducePow, Int.reduceMul, Int.reduceAdd, Int.reduceSub, Int.reduceNeg, Nat.reduceAdd, Nat.reduceMul, Nat.reducePow, Int.reduceLT, Int.reduceLE, Int.reduceEq, Nat.reduceEqDiff, e0, e1, e7, e21, e22, gb, sz, zl]
    exact ⟨_, ⟨(by repeat (first | exact s1 | refine HSub.put ?_ (by (try simp only [Heap.size_put, Heap.size_push, Heap.size_reserve]); omega) _ | refine HSub.push ?_ _ | refine HSub.reserve ?_ _)), hz, k + 1, rfl, by simp, by omega, rfl⟩, by omega⟩
   ·have ek : k = m := by omega
    subst ek
    rw [Nat.sub_self, List.replicate_zero, List.append_nil] at gb
    simp -implicitDefEqProofs (disch := first | assumption | decide | omega | (simp only [wpD1] <;> omega) | (simp only [wpD2] <;> assumption) | solve_by_elim [zR, zP, zV] | fail) only [↓wpPre, wpPost, wpPoly, Int.reduceToNat, Int.reducePow, Int.reduceMul, Int.reduceAdd, Int.reduceSub, Int.reduceNeg, Nat.reduceAdd, Nat.reduceMul, Nat.reducePow, Int.reduceLT, Int.reduceLE, Int.reduceEq, Nat.reduceEqDiff, e7]
    exact ⟨_, rfl, s1, RI.known gb ⟨(stepsL_length _ _ _).symm, by omega⟩ (Nat.le_refl _)⟩
  ·have e : stepsE l b = 3 := by unfold stepsE; rw [if_neg (by omega), if_neg c2]
   rw [e, if_neg (by decide)]
   simp -implicitDefEqProofs (disch := first | assumption | decide | omega | (simp only [wpD1] <;> omega) | (simp only [wpD2] <;> assumption) | solve_by_elim [zR, zP, zV] | fail) only [↓wpPre, wpPost, wpPoly, Int.reduceToNat, Int.reducePow, Int.reduceMul, Int.reduceAdd, Int.reduceSub, Int.reduceNeg, Nat.reduceAdd, Nat.reduceMul, Nat.reducePow, Int.reduceLT, Int.reduceLE, Int.reduceEq, Nat.reduceEqDiff, c2]
   exact ⟨_, rfl, HSub.push1 _ _, RI.nil⟩
 ·have e : stepsE l b = smE l 16 := by unfold stepsE; rw [if_pos c]
  rw [e, if_neg c]
  generalize smE l 16 = e at *
  (refine calls_intro (hC.body (by decide) tab270) (Nat.le_of_ble_eq_true rfl) ?_); (show wp C _ none B270.code _ _); (simp only [B270]); simp -implicitDefEqProofs (disch := first | assumption | decide | omega | (simp only [wpD1] <;> omega) | (simp only [wpD2] <;> assumption) | solve_by_elim [zR, zP, zV] | fail) only [↓wpPre, wpPost, wpPoly, Int.reduceToNat, Int.reducePow, Int.reduceMul, Int.reduceAdd, Int.reduceSub, Int.reduceNeg, Nat.reduceAdd, Nat.reduceMul, Nat.reducePow, Int.reduceLT, Int.reduceLE, Int.reduceEq, Nat.reduceEqDiff]
  refine ACallsK.eq (k1 _ (HSub.refl _)) ?_
  simp -implicitDefEqProofs (disch := first | assumption | decide | omega | (simp only [wpD1] <;> omega) | (simp only [wpD2] <;> assumption) | solve_by_elim [zR, zP, zV] | fail) only [↓wpPre, wpPost, wpPoly, Int.reduceToNat, Int.reducePow, Int.reduceMul, Int.reduceAdd, Int.reduceSub, Int.reduceNeg, Nat.reduceAdd, Nat.reduceMul, Nat.reducePow, Int.reduceLT, Int.reduceLE, Int.reduceEq, Nat.reduceEqDiff, c]
  exact ⟨_, rfl, HSub.refl _, RI.nil⟩
def bestOut (l : List (Int × Int)) : AV := .tuple [.int .i64 (if bestE l = 0 then (bestK l l.length : Nat) else 0), .int .i64 (if bestE l = 0 then powP (l.getD (bestK l l.length) (0, 0)) else 0), .int .i64 (bestE l)]
set_option maxHeartbeats 1000000 in
theorem first291_spec (hC : Has C T291) (hP : Has C T289) {v : AV} {l : List (Int × Int)} {h : Heap} (hl : SI h v l) (h0 : 0 < l.length) (hll : l.length ≤ 100000) :
  ACalls C 291 [v, .func 289 [] []] h (fun r h' => r = .int .i64 (bestK l l.length : Nat) ∧ h' = h) := by
 refine ACalls.gc0 (P := fun r h' => r = .int .i64 (bestK l l.length : Nat) ∧ HSub h h') ?_ (fun r h' hp => ⟨by rw [hp.1]; trivial, hp.2, hp.1, rfl⟩)
 have k3 := fun p h => power_spec (p := p) (h := h) hP
 (refine calls_intro (hC.body (by decide) tab291) (Nat.le_of_ble_eq_true rfl) ?_); (show wp C _ none B291.code _ _); (simp only [B291]); simp -implicitDefEqProofs (disch := first | assumption | decide | omega | (simp only [wpD1] <;> omega) | (simp only [wpD2] <;> assumption) | solve_by_elim [zR, zP, zV] | fail) only [↓wpPre, wpPost, wpPoly, Int.reduceToNat, Int.reducePow, Int.reduceMul, Int.reduceAdd, Int.reduceSub, Int.reduceNeg, Nat.reduceAdd, Nat.reduceMul, Nat.reducePow, Int.reduceLT, Int.reduceLE, Int.reduceEq, Nat.reduceEqDiff, hl.len]
 refine wp_loopI (fun j t h' => HSub h h' ∧ ∃ k : Nat, t 0 = v ∧ t 1 = .func 289 [] [] ∧ t 5 = .int .i64 (bestK l k : Nat) ∧ t 8 = v ∧ t 9 = .int .i64 (l.length : Nat) ∧ t 10 = .int .i64 (k : Nat) ∧ k ≤ l.length ∧ j = l.length - k) (j0 := l.length)
  ⟨HSub.refl _, 0, rfl, rfl, rfl, rfl, rfl, rfl, by omega, rfl⟩ ?_
 rintro j t h1 ⟨s1, k, e0, e1, e5, e8, e9, e10, hk, hj⟩
 simp -implicitDefEqProofs (disch := first | assumption | decide | omega | (simp only [wpD1] <;> omega) | (simp only [wpD2] <;> assumption) | solve_by_elim [zR, zP, zV] | fail) only [↓wpPre, wpPost, wpPoly, Int.reduceToNat, Int.reducePow, Int.reduceMul, Int.reduceAdd, Int.reduceSub, Int.reduceNeg, Nat.reduceAdd, Nat.reduceMul, Nat.reducePow, Int.reduceLT, Int.reduceLE, Int.reduceEq, Nat.reduceEqDiff, e9, e10]
 refine Br.by (fun c3 => ?_) (fun c3 => ?_)
 ·have hk' : k < l.length := by omega
  have hl1 := hl.mono s1
  have ld := hl1.loadA hk'
  have bl := bestK_lt l k
  have hl2 := fun c => (hl.mono (s1.push c)).loadA (k := bestK l k) (by omega)
  have es : bestK l (k + 1) = if powP (l.getD (bestK l k) (0, 0)) < powP (l.getD k (0, 0)) then k else bestK l k := rfl
  generalize bestK l k = m at *
  have k5 := k3 (l.getD k (0, 0))
  generalize l.getD k (0, 0) = x at *
  obtain ⟨xx, xy⟩ := x
  unfold smp at ld k5
  dsimp only at ld k5
  simp -implicitDefEqProofs (disch := first | assumption | decide | omega | (simp only [wpD1] <;> omega) | (simp only [wpD2] <;> assumption) | solve_by_elim [zR, zP, zV] | fail) only [↓wpPre, wpPost, wpPoly, Int.reduceToNat, Int.reducePow, Int.reduceMul, Int.reduceAdd, Int.reduceSub, Int.reduceNeg, Nat.reduceAdd, Nat.reduceMul, Nat.reducePow, Int.reduceLT, Int.reduceLE, Int.reduceEq, Nat.reduceEqDiff, e0, e1, e5, e8, e10, hl1.idx, ld, hl2]
  refine ACallsK.eq (k5 _) ?_
  simp -implicitDefEqProofs (disch := first | assumption | decide | omega | (simp only [wpD1] <;> omega) | (simp only [wpD2] <;> assumption) | solve_by_elim [zR, zP, zV] | fail) only [↓wpPre, wpPost, wpPoly, Int.reduceToNat, Int.reducePow, Int.reduceMul, Int.reduceAdd, Int.reduceSub, Int.reduceNeg, Nat.reduceAdd, Nat.reduceMul, Nat.reducePow, Int.reduceLT, Int.reduceLE, Int.reduceEq, Nat.reduceEqDiff, e1]
  refine ACallsK.eq (k3 _ _) ?_
  simp -implicitDefEqProofs (disch := first | assumption | decide | omega | (simp only [wpD1] <;> omega) | (simp only [wpD2] <;> assumption) | solve_by_elim [zR, zP, zV] | fail) only [↓wpPre, wpPost, wpPoly, Int.reduceToNat, Int.reducePow, Int.reduceMul, Int.reduceAdd, Int.reduceSub, Int.reduceNeg, Nat.reduceAdd, Nat.reduceMul, Nat.reducePow, Int.reduceLT, Int.reduceLE, Int.reduceEq, Nat.reduceEqDiff]
  refine Br.by (fun c4 => ?_) (fun c4 => ?_)
  ·rw [if_pos c4] at es
   simp -implicitDefEqProofs (disch := first | assumption | decide | omega | (simp only [wpD1] <;> omega) | (simp only [wpD2] <;> assumption) | solve_by_elim [zR, zP, zV] | fail) only [↓wpPre, wpPost, wpPoly, Int.reduceToNat, Int.reducePow, Int.reduceMul, Int.reduceAdd, Int.reduceSub, Int.reduceNeg, Nat.reduceAdd, Nat.reduceMul, Nat.reducePow, Int.reduceLT, Int.reduceLE, Int.reduceEq, Nat.reduceEqDiff, e0, e1, e5, e8, e9, e10]
   exact ⟨_, ⟨(by repeat (first | exact s1 | refine HSub.put ?_ (by (try simp only [Heap.size_put, Heap.size_push, Heap.size_reserve]); omega) _ | refine HSub.push ?_ _ | refine HSub.reserve ?_ _)), k + 1, by rw [es], by simp, by omega, rfl⟩, by omega⟩
  ·rw [if_neg c4] at es
   simp -implicitDefEqProofs (disch := first | assumption | decide | omega | (simp only [wpD1] <;> omega) | (simp only [wpD2] <;> assumption) | solve_by_elim [zR, zP, zV] | fail) only [↓wpPre, wpPost, wpPoly, Int.reduceToNat, Int.reducePow, Int.reduceMul, Int.reduceAdd, Int.reduceSub, Int.reduceNeg, Nat.reduceAdd, Nat.reduceMul, Nat.reducePow, Int.reduceLT, Int.reduceLE, Int.reduceEq, Nat.reduceEqDiff, e0, e1, e5, e8, e9, e10]
   exact ⟨_, ⟨(by repeat (first | exact s1 | refine HSub.put ?_ (by (try simp only [Heap.size_put, Heap.size_push, Heap.size_reserve]); omega) _ | refine HSub.push ?_ _ | refine HSub.reserve ?_ _)), k + 1, by rw [es], by simp, by omega, rfl⟩, by omega⟩
 ·have ek : k = l.length := by omega
  subst ek
  simp -implicitDefEqProofs (disch := first | assumption | decide | omega | (simp only [wpD1] <;> omega) | (simp only [wpD2] <;> assumption) | solve_by_elim [zR, zP, zV] | fail) only [↓wpPre, wpPost, wpPoly, Int.reduceToNat, Int.reducePow, Int.reduceMul, Int.reduceAdd, Int.reduceSub, Int.reduceNeg, Nat.reduceAdd, Nat.reduceMul, Nat.reducePow, Int.reduceLT, Int.reduceLE, Int.reduceEq, Nat.reduceEqDiff, e5]
  exact s1
theorem Best_spec (hC : Has C T272) {v : AV} {l : List (Int × Int)} {h : Heap} (hl : SI h v l) : ACalls C 272 [v] h (fun r h' => r = bestOut l ∧ h' = h) := by
 have hlt := hl.lt
 have k1 := small_spec (hC.sub (T' := T285) (by decide)) (most := 8192) hl (by omega)
 have cc := smE_cases l 8192
 unfold bestOut bestE
 by_cases c0 : l.length = 0
 ·rw [if_pos c0, if_neg (by decide), if_neg (by decide)]
  (refine calls_intro (hC.body (by decide) tab272) (Nat.le_of_ble_eq_true rfl) ?_); (show wp C _ none B272.code _ _); (simp only [B272]); simp -implicitDefEqProofs (disch := first | assumption | decide | omega | (simp only [wpD1] <;> omega) | (simp only [wpD2] <;> assumption) | solve_by_elim [zR, zP, zV] | fail) only [↓wpPre, wpPost, wpPoly, Int.reduceToNat, Int.reducePow, Int.reduceMul, Int.reduceAdd, Int.reduceSub, Int.reduceNeg, Nat.reduceAdd, Nat.reduceMul, Nat.reducePow, Int.reduceLT, Int.reduceLE, Int.reduceEq, Nat.reduceEqDiff, hl.len]
 ·rw [if_neg c0]
  by_cases c : smE l 8192 = 0
  ·have z := smE_zero c
   have k2 := first291_spec (hC.sub (T' := T291) (by decide)) (hC.sub (T' := T289) (by decide)) hl (by omega) (by omega)
   have k3 := fun p h => power_spec (p := p) (h := h) (hC.sub (T' := T289) (by decide))
   have bl := bestK_lt l l.length
   rw [c] at k1 ⊢
   have ld := hl.loadA (k := bestK l l.length) (by omega)
   (refine calls_intro (hC.body (by decide) tab272) (Nat.le_of_ble_eq_true rfl) ?_); (show wp C _ none B272.code _ _); (simp only [B272]); simp -implicitDefEqProofs (disch := first | assumption | decide | omega | (simp only [wpD1] <;> omega) | (simp only [wpD2] <;> assumption) | solve_by_elim [zR, zP, zV] | fail) only [↓wpPre, wpPost, wpPoly, Int.reduceToNat, Int.reducePow, Int.reduceMul, Int.reduceAdd, Int.reduceSub, Int.reduceNeg, Nat.reduceAdd, Nat.reduceMul, Nat.reducePow, Int.reduceLT, Int.reduceLE, Int.reduceEq, Nat.reduceEqDiff, hl.len]
   refine ACallsK.eq k1 ?_
   simp -implicitDefEqProofs (disch := first | assumption | decide | omega | (simp only [wpD1] <;> omega) | (simp only [wpD2] <;> assumption) | solve_by_elim [zR, zP, zV] | fail) only [↓wpPre, wpPost, wpPoly, Int.reduceToNat, Int.reducePow, Int.reduceMul, Int.reduceAdd, Int.reduceSub, Int.reduceNeg, Nat.reduceAdd, Nat.reduceMul, Nat.reducePow, Int.reduceLT, Int.reduceLE, Int.reduceEq, Nat.reduceEqDiff]
   refine ACallsK.eq k2 ?_
   simp -implicitDefEqProofs (disch := first | assumption | decide | omega | (simp only [wpD1] <;> omega) | (simp only [wpD2] <;> assumption) | solve_by_elim [zR, zP, zV] | fail) only [↓wpPre, wpPost, wpPoly, Int.reduceToNat, Int.reducePow, Int.reduceMul, Int.reduceAdd, Int.reduceSub, Int.reduceNeg, Nat.reduceAdd, Nat.reduceMul, Nat.reducePow, Int.reduceLT, Int.reduceLE, Int.reduceEq, Nat.reduceEqDiff, hl.idx, ld]
   refine ACallsK.eq (k3 _ _) ?_
   simp -implicitDefEqProofs (disch := first | assumption | decide | omega | (simp only [wpD1] <;> omega) | (simp only [wpD2] <;> assumption) | solve_by_elim [zR, zP, zV] | fail) only [↓wpPre, wpPost, wpPoly, Int.reduceToNat, Int.reducePow, Int.reduceMul, Int.reduceAdd, Int.reduceSub, Int.reduceNeg, Nat.reduceAdd, Nat.reduceMul, Nat.reducePow, Int.reduceLT, Int.reduceLE, Int.reduceEq, Nat.reduceEqDiff]
   rw [if_pos trivial, if_pos trivial]
  ·rw [if_neg c, if_neg c]
   generalize smE l 8192 = e at *
   (refine calls_intro (hC.body (by decide) tab272) (Nat.le_of_ble_eq_true rfl) ?_); (show wp C _ none B272.code _ _); (simp only [B272]); simp -implicitDefEqProofs (disch := first | assumption | decide | omega | (simp only [wpD1] <;> omega) | (simp only [wpD2] <;> assumption) | solve_by_elim [zR, zP, zV] | fail) only [↓wpPre, wpPost, wpPoly, Int.reduceToNat, Int.reducePow, Int.reduceMul, Int.reduceAdd, Int.reduceSub, Int.reduceNeg, Nat.reduceAdd, Nat.reduceMul, Nat.reducePow, Int.reduceLT, Int.reduceLE, Int.reduceEq, Nat.reduceEqDiff, hl.len]
   refine ACallsK.eq k1 ?_
   simp -implicitDefEqProofs (disch := first | assumption | decide | omega | (simp only [wpD1] <;> omega) | (simp only [wpD2] <;> assumption) | solve_by_elim [zR, zP, zV] | fail) only [↓wpPre, wpPost, wpPoly, Int.reduceToNat, Int.reducePow, Int.reduceMul, Int.reduceAdd, Int.reduceSub, Int.reduceNeg, Nat.reduceAdd, Nat.reduceMul, Nat.reducePow, Int.reduceLT, Int.reduceLE, Int.reduceEq, Nat.reduceEqDiff, c]
end
end Go.Ae
