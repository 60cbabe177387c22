/- Texts of the proof, part 15: a second reading of the lowered code, proved sound, and what the functions compute. -/
import Derived.Test.YthapekoffnjeeaaG14
set_option linter.unusedSimpArgs false
set_option linter.unusedVariables false
namespace Go.Ae
theorem nat64 {n : Nat} (h : n < 18446744073709551616) : (BitVec.ofInt 64 (n : Int)).toNat = n := by
 rw [BitVec.toNat_ofInt]
 have : ((n : Int) % ((2 ^ 64 : Nat) : Int)).toNat = n := by
  rw [Int.emod_eq_of_lt (by omega) (by omega)]; simp
 exact this
theorem jqc {a : Int} (h : 0 ≤ a ∧ a < 18446744073709551616) : bitsA .and .u64 a 4294967295 = a % 4294967296 := by
 obtain ⟨n, rfl⟩ := Int.eq_ofNat_of_zero_le h.1
 show IntKind.u64.wrap ((BitVec.ofInt 64 (n : Int) &&& BitVec.ofInt 64 ((4294967295 : Nat) : Int)).toNat : Int) = _
 rw [BitVec.toNat_and, nat64 (by omega), nat64 (by decide)]
 have e : n &&& 4294967295 = n % 4294967296 := Nat.and_two_pow_sub_one_eq_mod n 32
 rw [e, w_u64 (by omega)]; omega
theorem jhm {h : Heap} {i o n u : Nat} {c : Cap} {s : AV} {m : Nat} {cs vs : List AV} (hc : jan h 1 s = some (m, cs)) (hg : h.get i = some (.cells vs true u)) (hb : o + min m n ≤ vs.length) (h1 : (cs.take (min m n)).all AV.one = true) :
  copyA h 1 (.slice i o n c) s = some (.int .i64 (min m n : Nat), h.put i (.cells (splice vs o (cs.take (min m n))) true u)) := by
 simp only [copyA, hc, hg, Nat.mul_one]
 rw [if_pos ⟨hb, h1⟩]
def ones01 (x : Int) (n p : Nat) : List Int := List.replicate p x ++ List.replicate (n - p) 0
theorem jeJ {x : Int} {n p : Nat} (h : p ≤ n) : (ones01 x n p).length = n := by simp [ones01]; omega
theorem jhn {vs cs : List AV} {o : Nat} (h : o + cs.length ≤ vs.length) : splice vs o cs = vs.take o ++ cs ++ vs.drop (o + cs.length) := by
 match cs, h with
 | [], _ => rfl
 | [c], h =>
  rw [jhg, List.set_eq_take_append_cons_drop, if_pos (by simp at h; omega)]
  simp
 | x :: y :: cs, _ => rfl
theorem jeK {x : Int} {n p k : Nat} (h : p + k ≤ n) : splice (ints (ones01 x n p)) p (ints (List.replicate k x)) = ints (ones01 x n (p + k)) := by
 rw [jhn (by rw [jb4, jb4, jeJ (by omega), List.length_replicate]; exact h)]
 unfold ones01 ints
 have e1 : (List.replicate p x ++ List.replicate (n - p) (0 : Int)).take p = List.replicate p x := by simp
 have e2 : (List.replicate p x ++ List.replicate (n - p) (0 : Int)).drop (p + k) = List.replicate (n - (p + k)) 0 := by
  rw [List.drop_append]; simp; omega
 have e3 : (List.map (AV.int .i64) (List.replicate k x)).length = k := by simp
 rw [e3, ← List.map_take, ← List.map_drop, e1, e2, ← List.map_append, ← List.map_append, List.replicate_append_replicate]
section
variable {C : Ctx}
theorem jmo (hC : Has C T105) {a b : Int} {h : Heap} (ha : 0 ≤ a ∧ a < 4294967296) (hb : 0 ≤ b ∧ b < 4294967296) (hab : 0 ≤ a * b ∧ a * b < 4294967296) : ACalls C 105 [.int .u64 a, .int .u64 b] h (fun r h' => r = .tuple [.int .u64 0, .int .u64 (a * b)] ∧ h' = h) := by
 have e1 : a % 4294967296 = a := Int.emod_eq_of_lt ha.1 ha.2
 have e2 : b % 4294967296 = b := Int.emod_eq_of_lt hb.1 hb.2
 have e3 : a / 4294967296 = 0 := Int.ediv_eq_zero_of_lt ha.1 ha.2
 have e4 : b / 4294967296 = 0 := Int.ediv_eq_zero_of_lt hb.1 hb.2
 have e5 : a * b / 4294967296 = 0 := Int.ediv_eq_zero_of_lt hab.1 hab.2
 refine zf hC tab105 ?_; simp only [B105, zB.1]; exact ze11 @jqc @e1 @e2 @e3 @e4 @e5 @Int.zero_mul @Int.mul_zero @Int.add_zero @Int.zero_ediv @Int.zero_emod
theorem jqd (hC : Has C T100) {a b : Int} {h : Heap} (ha : 0 ≤ a ∧ a < 4294967296) (hb : 0 ≤ b ∧ b < 4294967296) (hab : 0 ≤ a * b ∧ a * b < 4294967296) : ACalls C 100 [.int .u64 a, .int .u64 b] h (fun r h' => r = .tuple [.int .u64 0, .int .u64 (a * b)] ∧ h' = h) := by
 refine zf hC tab100 ?_; simp only [B100, zB.1]; refine zs ?_
 refine jaa.eq (jmo (zu hC T105) ha hb hab) ?_
 exact ze
set_option maxHeartbeats 1000000 in
theorem jkq (hC : Has C T90) {v : AV} {x : Int} {n : Nat} {h : Heap} (hv : RI h v [x]) (hn : 1 ≤ n ∧ n ≤ 1000000) : ACalls C 90 [v, .int .i64 (n : Nat)] h (fun r h' => Fresh h h' r (List.replicate n x)) := by
 have hcv := (hv.mono (HSub.push1 h (.cells (ints (List.replicate n 0)) true 0))).content
 have m1 : min 1 n = 1 := by omega
 have es : splice (ints (List.replicate n 0)) 0 ((ints [x]).take (min [x].length n)) = ints (ones01 x n 1) := by
  have h0 : ints (List.replicate n 0) = ints (ones01 x n 0) := by simp [ones01]
  have h1 : (ints [x]).take (min [x].length n) = ints (List.replicate 1 x) := by show (ints [x]).take (min 1 n) = _; rw [m1]; rfl
  rw [h1, h0, jeK (by omega)]
 have hcp := jhm (h := h.push (.cells (ints (List.replicate n 0)) true 0)) (i := h.size) (o := 0) (n := n) (c := .known n) (u := 0) hcv (jaz rfl) (by simp [ints]; omega) (by show ((ints [x]).take (min 1 n)).all AV.one = true; rw [m1]; rfl)
 rw [es] at hcp
 have hcp : copyA (h.push (.cells (ints (List.replicate n 0)) true 0)) 1 (.slice h.size 0 n (.known n)) v = some (.int .i64 ((1 : Nat) : Int), (h.push (.cells (ints (List.replicate n 0)) true 0)).put h.size (.cells (ints (ones01 x n 1)) true 0)) := by
  have : min [x].length n = 1 := m1
  rw [this] at hcp; exact hcp
 have m3 : (1 : Int) * (n : Int) = (n : Int) := Int.one_mul _
 refine zf hC tab90 ?_; simp only [B90, zB.1]; refine zs1 @hv.len ?_
 refine jaa.eq (jqd (zu hC T100) (a := 1) (b := (n : Int)) (by decide) (by omega) (by omega)) ?_
 refine zs3 @m3 @jd8 @hcp ?_
 have s1 : ∀ (H : Heap) (p : Nat), p < n → jaX H 1 (.slice h.size 0 n (.known n)) (some (.int .i64 p)) none none = some (.slice h.size p (n - p) (.known (n - p))) := by
  intro H p hp
  simp only [jaX]
  rw [jcD (a := p) (b := n) (c := n) rfl rfl rfl (by omega)]
  simp only
  rw [if_neg (by omega)]; simp
 have s2 : ∀ (H : Heap) (p : Nat), p < n → jaX H 1 (.slice h.size 0 n (.known n)) none (some (.int .i64 p)) none = some (.slice h.size 0 p (.known n)) := by
  intro H p hp
  simp only [jaX]
  rw [jcD (a := 0) (b := p) (c := n) rfl rfl rfl (by omega)]
  simp only
  rw [if_neg (by omega)]; simp
 refine jaA (fun j t h' => ∃ p : Nat, HSub h h' ∧ h'.get h.size = some (.cells (ints (ones01 x n p)) true 0) ∧ t 7 = .slice h.size 0 n (.known n) ∧ t 8 = .int .i64 (p : Nat) ∧ 1 ≤ p ∧ p ≤ n ∧ j = n - p) (j0 := n - 1)
  ⟨1, HSub.push1 _ _, jaz rfl, rfl, rfl, by omega, by omega, rfl⟩ ?_
 rintro j t h' ⟨p, hs, hg, e7, e8, hp1, hp2, hj⟩
 refine zs2 @e7 @e8 ?_
 refine Br.by (fun c => ?_) (fun c => ?_)
 ·have hp : p < n := by omega
  have hol := jeJ (x := x) (n := n) (p := p) hp2
  have hgr : (h'.reserve 10).get h.size = some (.cells (ints (ones01 x n p)) true 0) := hg
  have hc2 : jan (h'.reserve 10) 1 (.slice h.size 0 p (.known n)) = some (p, ints (List.replicate p x)) := by
   rw [jby, hgr, jmg (by rw [jb4, hol]; omega)]
   congr 2
   rw [Nat.mul_one, jk2]; congr 1
   simp [ones01]
  have hk : p + min p (n - p) ≤ n := by omega
  have h3 := jhm (h := h'.reserve 10) (i := h.size) (o := p) (n := n - p) (c := .known (n - p)) (u := 0) hc2 hgr (by rw [jb4, hol]; exact hk) (by unfold ints; rw [← List.map_take]; exact jpW)
  have h4 : (ints (List.replicate p x)).take (min p (n - p)) = ints (List.replicate (min p (n - p)) x) := by unfold ints; rw [← List.map_take, List.take_replicate]; congr 2; omega
  rw [h4, jeK hk] at h3
  refine zs5 @e7 @e8 @s1 @s2 @h3 ?_
  refine ⟨_, ⟨p + min p (n - p), ?_, ?_, by omega, by omega, by omega, rfl⟩, by omega⟩
  ·exact (hs.reserve _).put (Nat.le_refl _) _
  ·exact jcr rfl (Heap.lt_of_get hgr)
 ·have : p = n := by omega
  subst this
  refine zs1 @e7 ?_
  have : ones01 x p p = List.replicate p x := by simp [ones01]
  rw [this] at hg
  exact ⟨hs, by simp; omega, h.size, Nat.le_refl _, by simp, hg⟩
end
end Go.Ae
namespace Go.Ae
def onesL (d : Int) : List Int := List.replicate d.toNat 1
def bitsL (d w : Int) : List Int := runL (tapsL d w) (onesL d) (lenN d)
theorem jaO (d w : Int) : (bitsL d w).length = lenN d := jdr _ _ _
theorem jsv {d w : Int} (hd : lenOk d = true) (hw : w = 1 ∨ w = 2) : jc7 d (tapsL d w) (onesL d) = 0 := by
 rcases jbO hd with rfl | rfl | rfl | rfl | rfl <;> rcases hw with rfl | rfl <;> decide
theorem jbN {d w : Int} : ∀ x ∈ bitsL d w, x = 0 ∨ x = 1 := by
 intro x hx
 obtain ⟨k, _, rfl⟩ := List.mem_map.1 hx
 exact jkn (fun y hy => .inr (List.mem_replicate.1 hy).2) k
section
variable {C : Ctx}
set_option maxRecDepth 100000 in
theorem joq (hC : Has C T74) {d w : Int} {h : Heap} (hd : In64 d) (hw : In64 w) : ACalls C 74 [.int .i64 d, .int .i64 w] h (fun r h' => ∃ v, r = ja2 v (jbm d w) ∧ HSub h h' ∧ RI h' v (if jbm d w = 0 then bitsL d w else []) ∧ (jbm d w = 0 → Fresh h h' v (bitsL d w))) := by
 by_cases c : lenOk d = true ∧ (w = 1 ∨ w = 2)
 ·have pe : jbm d w = 0 := by unfold jbm; rw [if_pos c]
  have hl := jcS c.1
  have hr := jsv c.1 c.2
  have hd5 : 5 ≤ d ∧ d ≤ 10 := by have := jbO c.1; omega
  have hT := jjj (d := d) (w := w) (h := h) (zu hC T72) hd hw
  rw [pe, if_pos rfl] at hT
  rw [pe]
  obtain ⟨k, rfl⟩ := Int.eq_ofNat_of_zero_le (show 0 ≤ d by omega)
  have re : jhl (k : Nat) (tapsL (k : Nat) w) (onesL (k : Nat)) (lenN (k : Nat)) = 0 := by unfold jhl; rw [if_pos hr, if_neg (by omega)]
  refine zf hC tab74 ?_; simp only [B74, zB.1]; refine zs ?_
  refine jaa.of hT ?_
  rintro r h1 ⟨v1, rfl, s1, R1⟩
  have h22 : (2 : Int) ^ k = ((lenN (k : Nat) + 1 : Nat) : Int) := by have := hl.2.2; rwa [Int.toNat_natCast] at this
  have e3 : ((lenN (k : Nat) + 1 : Nat) : Int) - 1 = lenN (k : Nat) := by omega
  refine zs5 @ja2.eq_1 @Int.one_mul @h22 @e3 @Heap.wf ?_
  have eo : onesL ((k : Nat) : Int) = List.replicate k 1 := by simp [onesL]
  have hsH : HSub h1 ((h1.reserve 13).put (h1.size + 2) (.cells [.int .i64 1] true 0)) := ((HSub.refl _).reserve _).put (by omega) _
  refine jaa.of (jkq (zu hC T90) (x := 1) (n := k) (RI.known (jcr rfl (by simp)) ⟨rfl, by decide⟩ (by decide)) (by omega)) ?_
  rintro r h2 F
  have s2 := F.sub
  have s02 := s1.trans (hsH.trans s2)
  have hR := jp8 (m := (lenN (k : Nat) : Int)) (h := h2) (zu hC T81) (R1.mono (hsH.trans s2)) (w := onesL (k : Nat)) (n := (k : Nat)) (by rw [eo]; exact F.ri) (by unfold In64; omega)
  rw [re] at hR
  refine zs3 @h22 @e3 @Int.one_mul ?_
  refine jaa.of hR ?_
  rintro r h3 ⟨v3, rfl, s3, R3, F3⟩
  refine zs1 @ja2.eq_1 ?_
  have F3 := F3 rfl
  have : (lenN (k : Nat) : Int).toNat = lenN (k : Nat) := Int.toNat_natCast _
  rw [this] at F3
  exact ⟨v3, rfl, s02.trans s3, by rw [if_pos trivial]; exact F3.ri, fun _ => F3.mono s02⟩
 ·have pe : jbm d w = 2 := by unfold jbm; rw [if_neg c]
  have hT := jjj (d := d) (w := w) (h := h) (zu hC T72) hd hw
  rw [pe] at hT
  rw [pe]
  refine zf hC tab74 ?_; simp only [B74, zB.1]; refine zs ?_
  refine jaa.of hT ?_
  rintro r h1 ⟨v1, rfl, s1, R1⟩
  refine zs1 @ja2.eq_1 ?_
  exact ⟨.nilslice, rfl, s1, by rw [if_neg id]; exact RI.nil⟩
end
end Go.Ae
namespace Go.Ae
def codeB (d p : Int) (i : Nat) : Int :=
 if p = 1 then (bitsL d 1).getD i 0 else if p = 2 then (bitsL d 2).getD i 0 else ((bitsL d 1).getD i 0 + (bitsL d 2).getD ((i + (p - 3).toNat) % lenN d) 0) % 2
def bitC (d p : Int) : List Int := (List.range (lenN d)).map (codeB d p)
def codeL (d p : Int) : List Int := (bitC d p).map fun b => 1 - 2 * b
def jcT (d p : Int) : Int := if lenOk d = true ∧ 1 ≤ p ∧ p ≤ lenN d + 2 then 0 else 2
theorem jb5 (d p : Int) : (bitC d p).length = lenN d := by simp [bitC]
theorem jcM (d p : Int) : (codeL d p).length = lenN d := by simp [codeL, bitC]
theorem jb6 {l : List Int} (h : ∀ x ∈ l, x = 0 ∨ x = 1) (i : Nat) : l.getD i 0 = 0 ∨ l.getD i 0 = 1 := bit01.get h i
theorem jig (d p : Int) (i : Nat) : codeB d p i = 0 ∨ codeB d p i = 1 := by
 unfold codeB
 have h1 := jb6 (jbN (d := d) (w := 1)) i
 have h2 := jb6 (jbN (d := d) (w := 2)) i
 split
 ·exact h1
 ·split
  ·exact h2
  ·omega
theorem jor (d : Int) : bitC d 1 = bitsL d 1 := by
 refine seqx (by rw [jb5, jaO]) fun i hi => ?_
 rw [jb5] at hi
 simp [bitC, hi, codeB]
theorem jos (d : Int) : bitC d 2 = bitsL d 2 := by
 refine seqx (by rw [jb5, jaO]) fun i hi => ?_
 rw [jb5] at hi
 simp [bitC, hi, codeB]
def codeP (d p : Int) (k : Nat) : List Int := (List.range (lenN d)).map fun i => if i < k then codeB d p i else (bitsL d 1).getD i 0
theorem codeP_length (d p : Int) (k : Nat) : (codeP d p k).length = lenN d := by simp [codeP]
theorem jdQ {d p : Int} {k i : Nat} (hi : i < lenN d) : (codeP d p k).getD i 0 = if i < k then codeB d p i else (bitsL d 1).getD i 0 := by simp [codeP, hi]
theorem jmp (d p : Int) : codeP d p 0 = bitsL d 1 := by
 refine seqx (by rw [codeP_length, jaO]) fun i hi => ?_
 rw [codeP_length] at hi
 rw [jdQ hi, if_neg (by omega)]
theorem jmq (d p : Int) : codeP d p (lenN d) = bitC d p := by
 refine seqx (by rw [codeP_length, jb5]) fun i hi => ?_
 rw [codeP_length] at hi
 rw [jdQ hi, if_pos hi]; simp [bitC, hi]
theorem jot {d p : Int} {k : Nat} (hk : k < lenN d) : (codeP d p k).set k (codeB d p k) = codeP d p (k + 1) := by
 refine seqx (by simp [codeP]) fun i hi => ?_
 simp only [List.length_set, codeP_length] at hi
 rw [jdQ hi]
 simp only [List.getD_eq_getElem?_getD, List.getElem?_set, codeP_length]
 by_cases e : k = i
 ·subst e; rw [if_pos rfl, if_pos hk, if_pos (by omega)]; rfl
 ·rw [if_neg e]
  have := jdQ (p := p) (k := k) hi
  rw [List.getD_eq_getElem?_getD] at this
  rw [this]
  by_cases c : i < k
  ·rw [if_pos c, if_pos (by omega)]
  ·rw [if_neg c, if_neg (by omega)]; simp
section
variable {C : Ctx}
set_option maxRecDepth 100000 in
set_option maxHeartbeats 2000000 in
theorem jou (hC : Has C T76) {d p : Int} {h : Heap} (hd : In64 d) (hp : In64 p) : ACalls C 76 [.int .i64 d, .int .i64 p] h (fun r h' => ∃ v, r = ja2 v (jcT d p) ∧ HSub h h' ∧ RI h' v (if jcT d p = 0 then codeL d p else []) ∧ (jcT d p = 0 → Fresh h h' v (codeL d p))) := by
 have hp' := hp
 unfold In64 at hp'
 have pe : jcT d p = if lenOk d = true ∧ 1 ≤ p ∧ p ≤ lenN d + 2 then 0 else 2 := rfl
 by_cases c : lenOk d = true
 ·have hl := jcS c
  have eL : lenE d = tup2 (lenN d) 0 := by unfold lenE; rw [if_pos c]
  by_cases cp : 1 ≤ p ∧ p ≤ lenN d + 2
  ·rw [if_pos ⟨c, cp⟩] at pe
   rw [pe]
   have t1 : jbm d 1 = 0 := by unfold jbm; rw [if_pos ⟨c, .inl rfl⟩]
   have t2 : jbm d 2 = 0 := by unfold jbm; rw [if_pos ⟨c, .inr rfl⟩]
   have lb1 := jaO d 1
   have lb2 := jaO d 2
   have hB : ∀ {w : Int} {h : Heap}, jbm d w = 0 → In64 w → ACalls C 74 [.int .i64 d, .int .i64 w] h (fun r h' => ∃ i, h.size ≤ i ∧ r = ja2 (.slice i 0 (lenN d) (.known (lenN d))) 0 ∧ HSub h h' ∧ h'.get i = some (.cells (ints (bitsL d w)) true 0)) := by
    intro w h e hw
    refine (joq (zu hC T74) hd hw).mono ?_
    rintro r h' ⟨v, h1, _, _, h4⟩
    obtain ⟨s, _, i, hi, hv, hg⟩ := h4 e
    rw [jaO] at hv
    exact ⟨i, hi, by rw [h1, e, hv], s, hg⟩
   have bC : ∀ k, (bitC d p).getD k 0 = 0 ∨ (bitC d p).getD k 0 = 1 := fun k => jb6 (fun x hx => by
    obtain ⟨i, _, rfl⟩ := List.mem_map.1 hx
    exact jig d p i) k
   have lC := jb5 d p
   refine zf hC tab76 ?_; simp only [B76, zB.1]; refine zs ?_
   refine jaa.eq2 (jbP (zu hC T70) hd) eL ?_
   refine zs1 @tup2.eq_1 ?_
   refine jaa.of (hB t1 (by unfold In64; omega)) ?_
   rintro r h1 ⟨i1, hi1, rfl, s1, g1⟩
   refine zs1 @ja2.eq_1 ?_
   refine jaa.of (hB t2 (by unfold In64; omega)) ?_
   rintro r h2 ⟨i2, hi2, rfl, s2, g2⟩
   have hl1 := Heap.lt_of_get g1
   have hl2 := Heap.lt_of_get g2
   have g1' := (s2.get i1 hl1).trans g1
   have s12 := s1.trans s2
   have z2 := s2.size
   have z1 := s1.size
   by_cases p1 : p = 1
   ·have gi1 : h2.get i1 = some (.cells (ints (bitC d p)) true 0) := by rw [p1, jor]; exact g1'
    refine zs1 @ja2.eq_1 ?_
    have gX : h2.get i1 = some (.cells (ints (jch (fun b => 1 - 2 * b) (bitC d p) 0)) true 0) := by rw [jei]; exact gi1
    refine jaA (fun j t h' => ∃ k : Nat, HSub h h' ∧ i1 < h'.size ∧ h'.get i1 = some (.cells (ints (jch (fun b => 1 - 2 * b) (bitC d p) k)) true 0) ∧ t 8 = .slice i1 0 (lenN d) (.known (lenN d)) ∧ t 68 = .slice i1 0 (lenN d) (.known (lenN d)) ∧ t 69 = .int .i64 (lenN d) ∧ t 70 = .int .i64 (k : Nat) ∧ k ≤ lenN d ∧ j = lenN d - k) (j0 := lenN d)
     ⟨0, s12, Heap.lt_of_get gi1, gX, rfl, rfl, rfl, rfl, by omega, rfl⟩ ?_
    rintro j t h' ⟨k, hs, hlt, hg, e8, e68, e69, e70, hk, hj⟩
    have hml := jdp (fun b => 1 - 2 * b) (bitC d p) k
    refine zs2 @e69 @e70 ?_
    refine Br.by (fun c1 => ?_) (fun c1 => ?_)
    ·have hk' : k < (bitC d p).length := by omega
     have hg2 := jfd (fun b => 1 - 2 * b) hk'
     have hst := jfe (fun b => 1 - 2 * b) hk'
     have b01 := bC k
     refine zs6 @e8 @e68 @e69 @e70 @hg @hg2 ?_
     exact ⟨_, ⟨k + 1, hs.put (by omega) _, hlt, by rw [← hst], by simp, by omega, rfl⟩, by omega⟩
    ·have : k = (bitC d p).length := by omega
     subst this
     rw [jej] at hg
     refine zs1 @e8 ?_
     have cl := jcM d p
     have F : Fresh h h' (.slice i1 0 (lenN d) (.known (lenN d))) (codeL d p) := ⟨hs, by omega, i1, by omega, by rw [cl], hg⟩
     exact ⟨_, rfl, hs, by rw [if_pos trivial]; exact F.ri, fun _ => F⟩
   by_cases p2 : p = 2
   ·have gi2 : h2.get i2 = some (.cells (ints (bitC d p)) true 0) := by rw [p2, jos]; exact g2
    refine zs1 @ja2.eq_1 ?_
    have gX : h2.get i2 = some (.cells (ints (jch (fun b => 1 - 2 * b) (bitC d p) 0)) true 0) := by rw [jei]; exact gi2
    refine jaA (fun j t h' => ∃ k : Nat, HSub h h' ∧ i2 < h'.size ∧ h'.get i2 = some (.cells (ints (jch (fun b => 1 - 2 * b) (bitC d p) k)) true 0) ∧ t 8 = .slice i2 0 (lenN d) (.known (lenN d)) ∧ t 68 = .slice i2 0 (lenN d) (.known (lenN d)) ∧ t 69 = .int .i64 (lenN d) ∧ t 70 = .int .i64 (k : Nat) ∧ k ≤ lenN d ∧ j = lenN d - k) (j0 := lenN d)
     ⟨0, s12, Heap.lt_of_get gi2, gX, rfl, rfl, rfl, rfl, by omega, rfl⟩ ?_
    rintro j t h' ⟨k, hs, hlt, hg, e8, e68, e69, e70, hk, hj⟩
    have hml := jdp (fun b => 1 - 2 * b) (bitC d p) k
    refine zs2 @e69 @e70 ?_
    refine Br.by (fun c1 => ?_) (fun c1 => ?_)
    ·have hk' : k < (bitC d p).length := by omega
     have hg2 := jfd (fun b => 1 - 2 * b) hk'
     have hst := jfe (fun b => 1 - 2 * b) hk'
     have b01 := bC k
     refine zs6 @e8 @e68 @e69 @e70 @hg @hg2 ?_
     exact ⟨_, ⟨k + 1, hs.put (by omega) _, hlt, by rw [← hst], by simp, by omega, rfl⟩, by omega⟩
    ·have : k = (bitC d p).length := by omega
     subst this
     rw [jej] at hg
     refine zs1 @e8 ?_
     have cl := jcM d p
     have F : Fresh h h' (.slice i2 0 (lenN d) (.known (lenN d))) (codeL d p) := ⟨hs, by omega, i2, by omega, by rw [cl], hg⟩
     exact ⟨_, rfl, hs, by rw [if_pos trivial]; exact F.ri, fun _ => F⟩
   have hp3 : 3 ≤ p := by omega
   have lP := codeP_length d p
   have g0 : h2.get i1 = some (.cells (ints (codeP d p 0)) true 0) := by rw [jmp]; exact g1'
   refine zs1 @ja2.eq_1 ?_
   refine jaA (fun j t h' => ∃ k : Nat, HSub h h' ∧ i1 < h'.size ∧ h'.get i1 = some (.cells (ints (codeP d p k)) true 0) ∧ h'.get i2 = some (.cells (ints (bitsL d 2)) true 0) ∧ t 1 = .int .i64 p ∧ t 6 = .int .i64 (lenN d) ∧ t 8 = .slice i1 0 (lenN d) (.known (lenN d)) ∧ t 10 = .slice i2 0 (lenN d) (.known (lenN d)) ∧
     t 42 = .slice i1 0 (lenN d) (.known (lenN d)) ∧ t 43 = .int .i64 (lenN d) ∧ t 44 = .int .i64 (k : Nat) ∧ k ≤ lenN d ∧ j = lenN d - k) (j0 := lenN d)
    ⟨0, s12, by omega, g0, g2, rfl, rfl, rfl, rfl, rfl, rfl, rfl, by omega, rfl⟩ ?_
   rintro j t h3 ⟨k, hs3, hlt3, hg1, hg2, e1, e6, e8, e10, e42, e43, e44, hk, hj⟩
   have lPk := lP k
   refine zs2 @e43 @e44 ?_
   refine Br.by (fun c1 => ?_) (fun c1 => ?_)
   ·have hk' : k < lenN d := by omega
    have gP : (codeP d p k).getD k 0 = (bitsL d 1).getD k 0 := by rw [jdQ hk', if_neg (by omega)]
    have em : ((k : Int) + p - 3) % (lenN d : Int) = (((k + (p - 3).toNat) % lenN d : Nat) : Int) := by
     rw [show (k : Int) + p - 3 = ((k + (p - 3).toNat : Nat) : Int) by omega]; exact (Int.natCast_emod _ _).symm
    have hm : (k + (p - 3).toNat) % lenN d < lenN d := Nat.mod_lt _ (by omega)
    have lb2 := jaO d 2
    have ex := xor01 (jb6 (jbN (d := d) (w := 1)) k) (jb6 (jbN (d := d) (w := 2)) ((k + (p - 3).toNat) % lenN d))
    have hcb : codeB d p k = ((bitsL d 1).getD k 0 + (bitsL d 2).getD ((k + (p - 3).toNat) % lenN d) 0) % 2 := by unfold codeB; rw [if_neg p1, if_neg p2]
    rw [← hcb] at ex
    have hst := jot (p := p) hk'
    simp -implicitDefEqProofs (disch := first | exact zd | fail) only [↓wpPre, jbb, jbc, Int.reduceToNat, Int.reducePow, Int.reduceMul, Int.reduceAdd, Int.reduceSub, Int.reduceNeg, Nat.reduceAdd, Nat.reduceMul, Nat.reducePow, Int.reduceLT, Int.reduceLE, Int.reduceEq, Nat.reduceEqDiff, e1, e6, e8, e10, e42, e43, e44, hg1, hg2, gP, em, ex, hst]
    exact ⟨_, ⟨k + 1, hs3.put (by omega) _, hlt3, rfl, by simp, by omega, rfl⟩, by omega⟩
   ·have ek : k = lenN d := by omega
    rw [ek] at hg1
    have gi3 : h3.get i1 = some (.cells (ints (bitC d p)) true 0) := by rw [← jmq]; exact hg1
    refine zs1 @e8 ?_
    have gX : h3.get i1 = some (.cells (ints (jch (fun b => 1 - 2 * b) (bitC d p) 0)) true 0) := by rw [jei]; exact gi3
    refine jaA (fun j t h' => ∃ k : Nat, HSub h h' ∧ i1 < h'.size ∧ h'.get i1 = some (.cells (ints (jch (fun b => 1 - 2 * b) (bitC d p) k)) true 0) ∧ t 8 = .slice i1 0 (lenN d) (.known (lenN d)) ∧ t 68 = .slice i1 0 (lenN d) (.known (lenN d)) ∧ t 69 = .int .i64 (lenN d) ∧ t 70 = .int .i64 (k : Nat) ∧ k ≤ lenN d ∧ j = lenN d - k) (j0 := lenN d)
     ⟨0, hs3, Heap.lt_of_get gi3, gX, e8, rfl, rfl, rfl, by omega, rfl⟩ ?_
    rintro j u h' ⟨k, hs, hlt, hg, f8, e68, e69, e70, hk, hj⟩
    have hml := jdp (fun b => 1 - 2 * b) (bitC d p) k
    refine zs2 @e69 @e70 ?_
    refine Br.by (fun c1 => ?_) (fun c1 => ?_)
    ·have hk' : k < (bitC d p).length := by omega
     have hg2 := jfd (fun b => 1 - 2 * b) hk'
     have hst := jfe (fun b => 1 - 2 * b) hk'
     have b01 := bC k
     refine zs6 @f8 @e68 @e69 @e70 @hg @hg2 ?_
     exact ⟨_, ⟨k + 1, hs.put (by omega) _, hlt, by rw [← hst], by simp, by omega, rfl⟩, by omega⟩
    ·have : k = (bitC d p).length := by omega
     subst this
     rw [jej] at hg
     refine zs1 @f8 ?_
     have cl := jcM d p
     have F : Fresh h h' (.slice i1 0 (lenN d) (.known (lenN d))) (codeL d p) := ⟨hs, by omega, i1, by omega, by rw [cl], hg⟩
     exact ⟨_, rfl, hs, by rw [if_pos trivial]; exact F.ri, fun _ => F⟩
  ·have cp' : ¬ (lenOk d = true ∧ 1 ≤ p ∧ p ≤ lenN d + 2) := fun h => cp h.2
   rw [if_neg cp'] at pe
   rw [pe]
   refine zf hC tab76 ?_; simp only [B76, zB.1]; refine zs ?_
   refine jaa.eq2 (jbP (zu hC T70) hd) eL ?_
   refine zs1 @tup2.eq_1 ?_
   (repeat' (first | (refine Br.by (fun _ => ?_) (fun _ => ?_)) | (refine zs ?_)))
   all_goals first | exact ⟨.nilslice, by rw [ja2], HSub.refl _, by rw [if_neg id]; exact RI.nil⟩ | omega
 ·have eL : lenE d = tup2 0 2 := by unfold lenE; rw [if_neg c]
  have cp' : ¬ (lenOk d = true ∧ 1 ≤ p ∧ p ≤ lenN d + 2) := fun h => c h.1
  rw [if_neg cp'] at pe
  rw [pe]
  refine zf hC tab76 ?_; simp only [B76, zB.1]; refine zs ?_
  refine jaa.eq2 (jbP (zu hC T70) hd) eL ?_
  refine zs1 @tup2.eq_1 ?_
  exact ⟨.nilslice, by rw [ja2], HSub.refl _, by rw [if_neg id]; exact RI.nil⟩
end
end Go.Ae
namespace Go.Ae
def plA (p : PlanP) (vp : AV) : AV := .agg [.int .i64 p.d, .int .i64 p.o, .int .i64 p.pb, .int .i64 p.w, .int .i64 p.mn, .int .i64 p.mx, .int .i64 p.nz, vp]
theorem jov (n : Int) (l : List Int) (k : Nat) (hk : k < l.length) : jbr n (l.take k) (l.drop k) = if ¬(1 ≤ l.getD k 0 ∧ l.getD k 0 ≤ n + 2) then 2 else if ((l.take k).any fun y => l.getD k 0 == y) = true then 8 else jbr n (l.take (k + 1)) (l.drop (k + 1)) := by
 rw [List.drop_eq_getElem_cons hk, jbr, jbi hk, List.getD_eq_getElem?_getD, List.getElem?_eq_getElem hk]
 rfl
section
variable {C : Ctx}
theorem jgU (hC : Has C T237) {x lo hi : Int} {h : Heap} : ACalls C 237 [.int .i64 x, .int .i64 lo, .int .i64 hi] h (fun r h' => r = .bool (decide (lo ≤ x ∧ x ≤ hi)) ∧ h' = h) := by
 refine zf hC tab237 ?_; simp only [B237, zB.1]; refine zs ?_
 by_cases c : lo ≤ x
 ·exact ze2 @gV_u @c
 ·refine zs2 @gV_u @c ?_
  simp
set_option maxHeartbeats 1000000 in
theorem jcc (hC : Has C T219) {v : AV} {p : PlanP} {h : Heap} (hp : PlI h v p) (h64 : p.ok64) : ACalls C 219 [v] h (fun r h' => r = .int .i64 p.err ∧ h' = h) := by
 refine ACalls.gc0 (P := fun r h' => r = .int .i64 p.err ∧ HSub h h') ?_ (fun r h' hp => ⟨by rw [hp.1]; trivial, hp.2, hp.1, rfl⟩)
 obtain ⟨vp, rfl, R⟩ := hp
 have v1 := R.one
 have hlt := R.lt
 obtain ⟨i1, i2, i3, i4, i5, i6, i7, i8⟩ := h64
 have W := fun x lo hi h => jgU (x := x) (lo := lo) (hi := hi) (h := h) (zu hC T237)
 have L := fun h => jbP (zu hC T70) (h := h) i1
 have e2 : ¬ p.numsOk → p.err = 2 := fun q => by unfold PlanP.err; rw [if_neg q]
 have s1 : ∀ b, HSub h (h.push b) := HSub.push1 h
 have e3 : p.numsOk → p.err = if p.prns.length = 0 then 3 else if 8 < p.prns.length then 4 else jbr (lenN p.d) [] p.prns := fun q => by unfold PlanP.err; rw [if_pos q]
 have eN : p.numsOk ↔ lenOk p.d = true ∧ (1 ≤ p.o ∧ p.o ≤ 8) ∧ (1 ≤ p.pb ∧ p.pb ≤ 20) ∧ (2 ≤ p.w ∧ p.w ≤ 10) ∧ (1 ≤ p.mn ∧ p.mn ≤ p.mx) ∧ p.mx ≤ 1000 ∧ (0 ≤ p.nz ∧ p.nz ≤ 100000) := Iff.rfl
 generalize p.err = E at *
 generalize p.numsOk = Q at *
 obtain ⟨d, o, pb, w, mn, mx, nz, prns⟩ := p
 dsimp only at *
 have q1 : ∀ b, Q → False → HSub h (h.push b) := fun b _ f => f.elim
 by_cases c1 : lenOk d = true
 ·have el : lenE d = tup2 (lenN d) 0 := by unfold lenE; rw [if_pos c1]
  simp only [el] at L
  have hN := jcS c1
  refine zf hC tab219 ?_; simp only [B219, zB.1]; refine zs ?_
  refine jaa.eq (L _) ?_
  refine zs1 @tup2.eq_1 ?_
  refine jaa.eq (W _ _ _ _) ?_
  by_cases c2 : 1 ≤ o ∧ o ≤ 8
  ·refine zs1 @c2 ?_
   refine jaa.eq (W _ _ _ _) ?_
   by_cases c3 : 1 ≤ pb ∧ pb ≤ 20
   ·refine zs1 @c3 ?_
    refine jaa.eq (W _ _ _ _) ?_
    by_cases c4 : 2 ≤ w ∧ w ≤ 10
    ·refine zs1 @c4 ?_
     refine jaa.eq (W _ _ _ _) ?_
     by_cases c5 : 1 ≤ mn ∧ mn ≤ mx
     ·refine zs1 @c5 ?_
      by_cases c6 : mx ≤ 1000
      ·refine zs1 @c6 ?_
       refine jaa.eq (W _ _ _ _) ?_
       by_cases c7 : 0 ≤ nz ∧ nz ≤ 100000
       ·refine zs1 @c7 ?_
        have e := e3 (eN.2 ⟨c1, c2, c3, c4, c5, c6, c7⟩)
        by_cases c8 : prns.length = 0
        ·rw [if_pos c8] at e
         refine zs2 @R.len @c8 ?_
         exact ⟨e.symm, s1 _⟩
        ·rw [if_neg c8] at e
         by_cases c9 : 8 < prns.length
         ·rw [if_pos c9] at e
          refine zs3 @R.len @c8 @c9 ?_
          exact ⟨e.symm, s1 _⟩
         ·rw [if_neg c9] at e
          refine zs3 @R.len @c8 @c9 ?_
          refine jaA (fun j t h' => HSub h h' ∧ h.size < h'.size ∧ h'.get h.size = some (.cells [.int .i64 d, .int .i64 o, .int .i64 pb, .int .i64 w, .int .i64 mn, .int .i64 mx, .int .i64 nz, vp] true 0) ∧ ∃ k : Nat, jbr (lenN d) (prns.take k) (prns.drop k) = E ∧ t 1 = .ptr h.size 0 ∧ t 3 = .int .i64 (lenN d) ∧ t 5 = .func 237 [] [] ∧ t 58 = vp ∧ t 59 = .int .i64 (prns.length : Nat) ∧ t 60 = .int .i64 (k : Nat) ∧ k ≤ prns.length ∧ j = prns.length - k) (j0 := prns.length)
           ⟨s1 _, by simp, by exact ze, 0, e.symm, rfl, rfl, rfl, rfl, rfl, rfl, by omega, rfl⟩ ?_
          rintro j t h1 ⟨t1, hz, gp, k, ek, e1, e3, e5, e58, e59, e60, hk, hj⟩
          refine zs2 @e59 @e60 ?_
          refine Br.by (fun d1 => ?_) (fun d1 => ?_)
          ·have hk' : k < prns.length := by omega
           have R1 := R.mono t1
           have ld := R1.load hk'
           have st := jov (lenN d) prns k hk'
           rw [ek] at st
           have hx := i8 _ (jbq hk')
           have pt := R1.part_b (k2 := .i64) (b := (k : Int)) ⟨by omega, by omega⟩
           obtain ⟨v', hv', R'⟩ := pt
           rw [Int.toNat_natCast] at R'
           have ct := jcn (zu hC T89) (x := prns.getD k 0) R'
           have ctn := fun h2 (q : HSub h1 h2) => jcn (zu hC T89) (x := prns.getD k 0) (R'.mono q)
           generalize prns.getD k 0 = x at *
           refine zs7 @e1 @e3 @e5 @e58 @e60 @R1.idx @ld ?_
           refine jaa.eq (W _ _ _ _) ?_
           by_cases d2 : 1 ≤ x ∧ x ≤ (lenN d : Int) + 2
           ·rw [if_neg (fun q => q d2)] at st
            refine zs5 @d2 @e1 @gp @hv' @e60 ?_
            refine jaa.eq (ctn _ (zh (HSub.refl h1))) ?_
            by_cases d3 : ((prns.take k).any fun y => x == y) = true
            ·rw [if_pos d3] at st
             refine zs1 @d3 ?_
             exact ⟨st.symm, (zh t1)⟩
            ·rw [if_neg d3] at st
             have d4 : ((prns.take k).any fun y => x == y) = false := Bool.eq_false_iff.2 d3
             refine zs7 @d4 @e1 @e3 @e5 @e58 @e59 @e60 ?_
             exact ⟨_, ⟨t1, hz, gp, k + 1, st.symm, by simp, by omega, rfl⟩, by omega⟩
           ·rw [if_pos d2] at st
            refine zs1 @d2 ?_
            exact ⟨st.symm, (zh t1)⟩
          ·have ek2 : k = prns.length := by omega
           subst ek2
           rw [List.drop_length, jbr] at ek
           refine zs ?_
           exact ⟨ek, t1⟩
       ·have e := e2 (fun q => c7 (eN.1 q).2.2.2.2.2.2)
        refine zs1 @c7 ?_
        exact ⟨e.symm, s1 _⟩
      ·have e := e2 (fun q => c6 (eN.1 q).2.2.2.2.2.1)
       refine zs1 @c6 ?_
       exact ⟨e.symm, s1 _⟩
     ·have e := e2 (fun q => c5 (eN.1 q).2.2.2.2.1)
      refine zs1 @c5 ?_
      exact ⟨e.symm, s1 _⟩
    ·have e := e2 (fun q => c4 (eN.1 q).2.2.2.1)
     refine zs1 @c4 ?_
     exact ⟨e.symm, s1 _⟩
   ·have e := e2 (fun q => c3 (eN.1 q).2.2.1)
    refine zs1 @c3 ?_
    exact ⟨e.symm, s1 _⟩
  ·have e := e2 (fun q => c2 (eN.1 q).2.1)
   refine zs1 @c2 ?_
   exact ⟨e.symm, s1 _⟩
 ·have el : lenE d = tup2 0 2 := by unfold lenE; rw [if_neg c1]
  simp only [el] at L
  have e := e2 (fun q => c1 (eN.1 q).1)
  refine zf hC tab219 ?_; simp only [B219, zB.1]; refine zs ?_
  refine jaa.eq (L _) ?_
  refine zs1 @tup2.eq_1 ?_
  exact ⟨e.symm, s1 _⟩
end
end Go.Ae
namespace Go.Ae
theorem jih {p : PlanP} (h : p.err = 0) : p.numsOk := by
 unfold PlanP.err at h
 split at h
 ·assumption
 ·omega
theorem jbn {p : PlanP} (h : p.numsOk) : 31 ≤ p.size ∧ p.size ≤ 8184 ∧ p.size = ((lenN p.d * p.o.toNat : Nat) : Int) := by
 have hN := jcS h.1
 have ho := h.2.1
 obtain ⟨o, eo⟩ := Int.eq_ofNat_of_zero_le (show 0 ≤ p.o by omega)
 have e : p.size = ((lenN p.d * p.o.toNat : Nat) : Int) := by
  unfold PlanP.size
  rw [eo, Int.toNat_natCast]; exact (Int.natCast_mul _ _).symm
 have a1 : lenN p.d * 1 ≤ lenN p.d * p.o.toNat := Nat.mul_le_mul_left _ (by omega)
 have a2 : lenN p.d * p.o.toNat ≤ 1023 * 8 := Nat.mul_le_mul (by omega) (by omega)
 omega
theorem jfi (p : PlanP) (e : EmitP) : emitErr p e = 0 ∨ emitErr p e = 2 ∨ emitErr p e = 3 ∨ emitErr p e = 4 ∨ emitErr p e = 8 ∨ emitErr p e = 18 := by
 unfold emitErr
 have hp : p.err = 0 ∨ p.err = 2 ∨ p.err = 3 ∨ p.err = 4 ∨ p.err = 8 := by
  unfold PlanP.err
  split
  ·split
   ·simp
   ·split
    ·simp
    ·have := jeI (lenN p.d) p.prns []
     omega
  ·simp
 split
 ·repeat' split
  all_goals simp
 ·omega
section
variable {C : Ctx}
theorem jdR (hC : Has C T242) {p : PlanP} {vp : AV} {h : Heap} (hn : p.numsOk) (v1 : vp.one = true) : ACalls C 242 [plA p vp] h (fun r h' => r = .int .i64 p.size ∧ h' = h) := by
 refine ACalls.gc0 (P := fun r h' => r = .int .i64 p.size ∧ HSub h h') ?_ (fun r h' hp => ⟨by rw [hp.1]; trivial, hp.2, hp.1, rfl⟩)
 have sr := jbn hn
 have hN := jcS hn.1
 have hl := jbO hn.1
 have ho := hn.2.1
 have e1 : ((lenN p.d + 1 : Nat) : Int) - 1 = lenN p.d := by omega
 have es : p.size = (lenN p.d : Int) * p.o := rfl
 rw [es] at sr ⊢
 unfold plA
 obtain ⟨d, o, pb, w, mn, mx, nz, prns⟩ := p
 dsimp only at *
 refine zf hC tab242 ?_; simp only [B242, zB.1]; refine zs3 @Int.one_mul @hN.2.2 @e1 ?_
 exact HSub.push1 _ _
theorem jkr (hC : Has C T243) {x : Int} {h : Heap} : ACalls C 243 [.int .i64 x] h (fun r h' => r = .bool (x != 0 && x != 1) ∧ h' = h) := by
 by_cases c : x = 0
 ·subst c
  refine zf hC tab243 ?_; simp only [B243, zB.1]; refine zs1 @gV_u ?_
  rfl
 ·by_cases c2 : x = 1
  ·subst c2
   refine zf hC tab243 ?_; simp only [B243, zB.1]; refine zs1 @gV_u ?_
   simp
  ·refine zf hC tab243 ?_; simp only [B243, zB.1]; refine zs3 @gV_u @c @c2 ?_
   simp [c, c2]
set_option maxHeartbeats 2000000 in
set_option maxRecDepth 20000 in
theorem jho (hC : Has C T223) {v w : AV} {p : PlanP} {e : EmitP} {h : Heap} (hp : PlI h v p) (he : EmI h w e) (h64 : p.ok64) (h65 : e.ok64) : ACalls C 223 [v, w] h (fun r h' => r = .int .i64 (emitErr p e) ∧ h' = h) := by
 refine ACalls.gc0 (P := fun r h' => r = .int .i64 (emitErr p e) ∧ HSub h h') ?_ (fun r h' hp => ⟨by rw [hp.1]; trivial, hp.2, hp.1, rfl⟩)
 have kc := fun h1 (q : HSub h h1) => jcc (zu hC T219) (hp.mono q) h64
 have pr := jfi p e
 obtain ⟨vp, rfl, R⟩ := hp
 obtain ⟨vb, rfl, B⟩ := he
 have v1 := R.one
 have b1 := B.one
 have hlt := R.lt
 have blt := B.lt
 have hE : emitErr p e = if p.err = 0 then if (p.prns.any fun y => e.prn == y) = true then if e.numsOk p then if 10000 < e.bits.length then 4 else if e.bits.any (fun b => b != 0 && b != 1) = true then 3 else 0 else 2 else 18 else p.err := rfl
 generalize emitErr p e = E at *
 have kC := fun h1 (q : HSub h h1) => jcn (zu hC T89) (x := e.prn) (R.mono q)
 have kS := fun (q : p.numsOk) h1 => jdR (zu hC T242) (vp := vp) (h := h1) q v1
 unfold plA at kS
 by_cases c : p.err = 0
 ·have hn := jih c
  have kS := kS hn
  rw [if_pos c] at hE
  rw [c] at kc
  have asks : ∀ h1 (q : HSub h h1), Asks C (.func 243 [] []) (fun b => b != 0 && b != 1) e.bits h1 := fun h1 q => ⟨243, [], rfl, fun x _ => jkr (zu hC T243)⟩
  have kF := fun h1 (q : HSub h h1) => jff (zu hC T37) (B.mono q) (asks h1 q)
  have g1 : (p.prns.any fun y => e.prn == y) = false → E = 18 := fun q => by rw [hE, if_neg (by rw [q]; decide)]
  have g2 : (p.prns.any fun y => e.prn == y) = true → ¬ ((0 ≤ e.dl ∧ e.dl < p.size) ∧ (-64 ≤ e.rt ∧ e.rt ≤ 64) ∧ (p.mn ≤ e.amp ∧ e.amp ≤ p.mx) ∧ (0 ≤ e.ba ∧ e.ba < p.pb)) → E = 2 := fun q q2 => by rw [hE, if_pos q, if_neg (show ¬ e.numsOk p from q2)]
  have g3 : (p.prns.any fun y => e.prn == y) = true → ((0 ≤ e.dl ∧ e.dl < p.size) ∧ (-64 ≤ e.rt ∧ e.rt ≤ 64) ∧ (p.mn ≤ e.amp ∧ e.amp ≤ p.mx) ∧ (0 ≤ e.ba ∧ e.ba < p.pb)) → E = if 10000 < e.bits.length then 4 else if e.bits.any (fun b => b != 0 && b != 1) = true then 3 else 0 := fun q q2 => by rw [hE, if_pos q, if_pos (show e.numsOk p from q2)]
  clear hE
  generalize p.size = sz at *
  obtain ⟨d, o, pb, wo, mn, mx, nz, prns⟩ := p
  obtain ⟨prn, dl, rt, st, ph, amp, ba, bits⟩ := e
  dsimp only at *
  generalize (prns.any fun y => prn == y) = b at *
  generalize (bits.any fun b => b != 0 && b != 1) = z at *
  refine zf hC tab223 ?_; simp only [B223, zB.1]; refine zs ?_
  refine jaa.eq (kc _ ((HSub.push1 _ _).push _)) ?_
  refine zs ?_
  refine jaa.eq (kC _ ((HSub.push1 _ _).push _)) ?_
  have sH : ∀ b c, HSub h ((h.push b).push c) := fun b c => (HSub.push1 h b).push c
  cases b
  ·have g := g1 rfl
   refine zs ?_
   exact ⟨g.symm, sH _ _⟩
  ·have g2 := g2 rfl
   have g3 := g3 rfl
   refine zs ?_
   by_cases c1 : 0 ≤ dl
   ·have c1' : ¬ dl < 0 := by omega
    refine zs1 @c1' ?_
    refine jaa.eq (kS _) ?_
    by_cases c2 : (dl < sz) ∧ (-64 ≤ rt ∧ rt ≤ 64) ∧ (mn ≤ amp ∧ amp ≤ mx) ∧ (0 ≤ ba ∧ ba < pb)
    ·have n1 : ¬ sz ≤ dl := by omega
     have n2 : ¬ rt < -64 := by omega
     have n3 : ¬ 64 < rt := by omega
     have n4 : ¬ amp < mn := by omega
     have n5 : ¬ mx < amp := by omega
     have n6 : ¬ ba < 0 := by omega
     have n7 : ¬ pb ≤ ba := by omega
     have g := g3 ⟨⟨c1, c2.1⟩, c2.2⟩
     by_cases c3 : 10000 < bits.length
     ·rw [if_pos c3] at g
      refine zs9 @n1 @n2 @n3 @n4 @n5 @n6 @n7 @B.len @c3 ?_
      exact ⟨g.symm, sH _ _⟩
     ·rw [if_neg c3] at g
      refine zs9 @n1 @n2 @n3 @n4 @n5 @n6 @n7 @B.len @c3 ?_
      refine jaa.eq (kF _ (sH _ _)) ?_
      cases z
      ·refine zs ?_
       exact ⟨g.symm, sH _ _⟩
      ·refine zs ?_
       exact ⟨g.symm, sH _ _⟩
    ·have g := g2 (fun q => c2 ⟨q.1.2, q.2⟩)
     (repeat' (first | (refine Br.by (fun _ => ?_) (fun _ => ?_)) | (refine zs ?_)))
     all_goals first
      | exact ⟨g.symm, sH _ _⟩
      | (exfalso; omega)
   ·have g := g2 (fun q => c1 q.1.1)
    have c1' : dl < 0 := by omega
    refine zs1 @c1' ?_
    exact ⟨g.symm, sH _ _⟩
 ·rw [if_neg c] at hE
  subst hE
  generalize p.err = E at *
  obtain ⟨d, o, pb, wo, mn, mx, nz, prns⟩ := p
  obtain ⟨prn, dl, rt, st, ph, amp, ba, bits⟩ := e
  dsimp only at *
  refine zf hC tab223 ?_; simp only [B223, zB.1]; refine zs ?_
  refine jaa.eq (kc _ ((HSub.push1 _ _).push _)) ?_
  refine zs1 @c ?_
  exact ((HSub.push1 _ _).push _)
end
end Go.Ae
namespace Go.Ae
section
variable {C : Ctx}
end
end Go.Ae
namespace Go.Ae
def absI (x : Int) : Int := max x (-x)
theorem jks (x : Int) : 0 ≤ absI x := by unfold absI; omega
theorem jqe (x y : Int) : absI (x * y) = absI x * absI y := by
 unfold absI
 rcases Int.le_total 0 x with hx | hx <;> rcases Int.le_total 0 y with hy | hy
 ·have := Int.mul_nonneg hx hy
  rw [Int.max_eq_left (by omega), Int.max_eq_left (by omega), Int.max_eq_left (by omega)]
 ·have := Int.mul_nonpos_of_nonneg_of_nonpos hx hy
  rw [Int.max_eq_right (by omega), Int.max_eq_left (by omega), Int.max_eq_right (by omega), Int.mul_neg]
 ·have := Int.mul_nonpos_of_nonpos_of_nonneg hx hy
  rw [Int.max_eq_right (by omega), Int.max_eq_right (by omega), Int.max_eq_left (by omega), Int.neg_mul]
 ·have := Int.mul_nonneg_of_nonpos_of_nonpos hx hy
  rw [Int.max_eq_left (by omega), Int.max_eq_right (by omega), Int.max_eq_right (by omega), Int.neg_mul_neg]
theorem jla {k s K S : Int} (hk : -K ≤ k ∧ k ≤ K) (hs : -S ≤ s ∧ s ≤ S) : -(K * S) ≤ k * s ∧ k * s ≤ K * S := by
 have h1 : absI (k * s) ≤ K * S := by
  rw [jqe]
  exact Int.mul_le_mul (by unfold absI; omega) (by unfold absI; omega) (jks _) (by omega)
 unfold absI at h1
 omega
theorem jow {k b : Int} (hb : 0 < b) : -((b - 1 - k) / b) = k / b := by
 have h := Int.emod_add_mul_ediv k b
 have h1 := Int.emod_nonneg k (show b ≠ 0 by omega)
 have h2 := Int.emod_lt_of_pos k hb
 have : (b - 1 - k) / b = -(k / b) := by
  rw [Int.ediv_eq_iff_of_pos hb]
  have e : -(k / b) * b = -(b * (k / b)) := by grind
  have e2 : (-(k / b) + 1) * b = -(b * (k / b)) + b := by grind
  omega
 omega
theorem jmr {j n : Int} (hn : 0 < n) : (j.tmod n + n).tmod n = j % n := by
 have h1 := Int.tmod_lt_of_pos j hn
 have h2 : -n < j.tmod n := by
  have := Int.lt_tmod_of_pos j hn
  omega
 rw [Int.tmod_eq_emod_of_nonneg (by omega), Int.add_emod_right]
 exact Int.emod_eq_emod_iff_emod_sub_eq_zero.2 (by
  have := Int.tmod_add_mul_tdiv j n
  have e : j.tmod n - j = n * (-(j.tdiv n)) := by grind
  rw [e]; exact Int.mul_emod_right _ _)
theorem jox (n : Int) : ∀ (xs seen : List Int), jbr n seen xs = 0 → ∀ x ∈ xs, 1 ≤ x ∧ x ≤ n + 2
 | [], _, _, x, hx => by simp at hx
 | y :: xs, seen, h, x, hx => by
  rw [jbr] at h
  split at h
  ·omega
  ·rename_i c
   split at h
   ·omega
   ·rcases List.mem_cons.1 hx with q | q
    ·rw [q]; exact Classical.not_not.1 c
    ·exact jox n xs _ h x q
structure EmOk (p : PlanP) (e : EmitP) : Prop where
 pn : p.numsOk
 en : e.numsOk p
 code : jcT p.d e.prn = 0
 bits : ∀ x ∈ e.bits, x = 0 ∨ x = 1
 prn : 1 ≤ e.prn ∧ e.prn ≤ lenN p.d + 2
 len : e.bits.length ≤ 10000
theorem jel {p : PlanP} {e : EmitP} (h : emitErr p e = 0) : EmOk p e := by
 unfold emitErr at h
 by_cases c : p.err = 0
 ·rw [if_pos c] at h
  by_cases c2 : (p.prns.any fun y => e.prn == y) = true
  ·rw [if_pos c2] at h
   by_cases c3 : e.numsOk p
   ·rw [if_pos c3] at h
    by_cases c4 : 10000 < e.bits.length
    ·rw [if_pos c4] at h; omega
    ·rw [if_neg c4] at h
     by_cases c5 : e.bits.any (fun b => b != 0 && b != 1) = true
     ·rw [if_pos c5] at h; omega
     ·have pn := jih c
      have pz : jbr (lenN p.d) [] p.prns = 0 := by
       unfold PlanP.err at c
       rw [if_pos pn] at c
       split at c
       ·omega
       ·split at c
        ·omega
        ·exact c
      have pr : 1 ≤ e.prn ∧ e.prn ≤ lenN p.d + 2 := by
       rw [List.any_eq_true] at c2
       obtain ⟨x, hx, q⟩ := c2
       rw [beq_iff_eq] at q
       rw [q]
       exact jox _ _ _ pz x hx
      refine ⟨pn, c3, ?_, ?_, pr, by omega⟩
      ·unfold jcT
       rw [if_pos ⟨pn.1, pr.1, pr.2⟩]
      ·intro x hx
       have c5 := Bool.eq_false_iff.2 c5
       rw [List.any_eq_false] at c5
       have := c5 x hx
       simp only [Bool.and_eq_true, bne_iff_ne, ne_eq, not_and, Classical.not_not] at this
       by_cases z : x = 0
       ·exact .inl z
       ·exact .inr (this z)
   ·rw [if_neg c3] at h; omega
  ·rw [if_neg c2] at h; omega
 ·rw [if_neg c] at h; omega
def EmitP.sta (e : EmitP) (p : PlanP) (k : Int) : Int := stI e.dl p.size e.rt k
def EmitP.pl (e : EmitP) (p : PlanP) (n : Int) : Int := plI e.dl p.size e.rt n
theorem EmOk.den {p : PlanP} {e : EmitP} (h : EmOk p e) : 0 < 1024 * p.size + e.rt := by
 have := jbn h.pn
 have := h.en.2.1
 omega
theorem EmOk.bit {p : PlanP} {e : EmitP} (h : EmOk p e) (k : Int) : bitI p e k = 0 ∨ bitI p e k = 1 := by
 unfold bitI
 split
 ·simp
 ·rename_i c
  have := Int.emod_lt_of_pos ((k - e.ba) / p.pb) (show (0 : Int) < e.bits.length by omega)
  have := Int.emod_nonneg ((k - e.ba) / p.pb) (show (e.bits.length : Int) ≠ 0 by omega)
  exact h.bits _ (jbq (by omega))
theorem EmOk.stb {p : PlanP} {e : EmitP} (h : EmOk p e) {k : Int} (hk : -20000000 ≤ k ∧ k ≤ 20000000) : -200000000000 ≤ e.sta p k ∧ e.sta p k ≤ 200000000000 ∧ (-163680000000 ≤ k * p.size ∧ k * p.size ≤ 163680000000) ∧ (-1280000000 ≤ k * e.rt ∧ k * e.rt ≤ 1280000000) := by
 have s := jbn h.pn
 have r := h.en.2.1
 have d := h.en.1
 have a := jla (S := 8184) hk (show -8184 ≤ p.size ∧ p.size ≤ 8184 by omega)
 have b := jla (S := 64) hk r
 unfold EmitP.sta stI
 omega
theorem EmOk.plb {p : PlanP} {e : EmitP} (h : EmOk p e) {n : Int} (hn : -10100000 ≤ n ∧ n ≤ 10100000) : -11000000 ≤ e.pl p n ∧ e.pl p n ≤ 11000000 := by
 have s := jbn h.pn
 have r := h.en.2.1
 have d := h.en.1
 unfold EmitP.pl plI
 generalize hD : 1024 * p.size + e.rt = D
 have hD2 : 1024 ≤ D := by omega
 generalize hM : 1024 * (n - e.dl + 1) - 1 = M
 have hM2 : -(1024 * 11000000) ≤ M ∧ M ≤ 1024 * 11000000 := by omega
 constructor
 ·rw [Int.le_ediv_iff_mul_le (by omega)]
  omega
 ·rw [← Int.lt_add_one_iff, Int.ediv_lt_iff_lt_mul (by omega)]
  omega
def chipI (p : PlanP) (e : EmitP) (i : Int) : Int := (codeL p.d e.prn).getD (min (i / p.o) ((lenN p.d : Int) - 1)).toNat 0
def atV (p : PlanP) (e : EmitP) (n : Int) : Int × Int :=
 ((e.amp * chipI p e (n - e.sta p (e.pl p n)) * (1 - 2 * bitI p e (e.pl p n))) * (carP (phI e.ph e.st (e.pl p n))).1, (e.amp * chipI p e (n - e.sta p (e.pl p n)) * (1 - 2 * bitI p e (e.pl p n))) * (carP (phI e.ph e.st (e.pl p n))).2)
def emA (e : EmitP) (vb : AV) : AV := .agg [.int .i64 e.prn, .int .i64 e.dl, .int .i64 e.rt, .int .u32 e.st, .int .u32 e.ph, .int .i64 e.amp, .int .i64 e.ba, vb]
def srcA (p : PlanP) (e : EmitP) (vp vb vc : AV) : AV := .agg [.int .i64 e.prn, .int .i64 e.dl, .int .i64 e.rt, .int .u32 e.st, .int .u32 e.ph, .int .i64 e.amp, .int .i64 e.ba, vb, .int .i64 p.d, .int .i64 p.o, .int .i64 p.pb, .int .i64 p.w, .int .i64 p.mn, .int .i64 p.mx, .int .i64 p.nz, vp, vc]
theorem joy (x : Int) : Int.fdiv x 1024 = x / 1024 := Int.fdiv_eq_ediv_of_nonneg x (by decide)
section
variable {C : Ctx}
set_option maxRecDepth 20000 in
theorem jbG (hC : Has C T239) {p : PlanP} {e : EmitP} {vp vb vc : AV} {k : Int} {h : Heap} (ok : EmOk p e) (v1 : vp.one = true) (b1 : vb.one = true) (w1 : vc.one = true) (hk : -20000000 ≤ k ∧ k ≤ 20000000) :
  ACalls C 239 [srcA p e vp vb vc, .int .i64 k] h (fun r h' => r = .int .i64 (e.sta p k) ∧ h' = h) := by
 refine ACalls.gc0 (P := fun r h' => r = .int .i64 (e.sta p k) ∧ HSub h h') ?_ (fun r h' hp => ⟨by rw [hp.1]; trivial, hp.2, hp.1, rfl⟩)
 have sz := fun h => jdR (zu hC T242) (vp := vp) (h := h) ok.pn v1
 have sb := ok.stb hk
 have d := ok.en.1
 have s := jbn ok.pn
 unfold EmitP.sta stI at sb ⊢
 unfold plA at sz
 unfold srcA
 generalize p.size = z at *
 obtain ⟨pd, o, pb, w, mn, mx, nz, prns⟩ := p
 obtain ⟨prn, dl, rt, st, ph, amp, ba, bits⟩ := e
 dsimp only at *
 refine zf hC tab239 ?_; simp only [B239, zB.1]; refine zs ?_
 refine jaa.eq (sz _) ?_
 refine zs1 @joy ?_
 exact HSub.push1 _ _
theorem st_gt {p : PlanP} {e : EmitP} (ok : EmOk p e) {n k : Int} : e.sta p k ≤ n ↔ k ≤ e.pl p n := st_le ok.den
set_option maxHeartbeats 1000000 in
set_option maxRecDepth 20000 in
theorem jds (hC : Has C T245) {p : PlanP} {e : EmitP} {vp vb vc : AV} {n : Int} {h : Heap} (ok : EmOk p e) (v1 : vp.one = true) (b1 : vb.one = true) (w1 : vc.one = true) (hn : -10100000 ≤ n ∧ n ≤ 10100000) :
  ACalls C 245 [srcA p e vp vb vc, .int .i64 n] h (fun r h' => r = .int .i64 (e.pl p n) ∧ h' = h) := by
 refine ACalls.gc0 (P := fun r h' => r = .int .i64 (e.pl p n) ∧ HSub h h') ?_ (fun r h' hp => ⟨by rw [hp.1]; trivial, hp.2, hp.1, rfl⟩)
 have sz := fun h => jdR (zu hC T242) (vp := vp) (h := h) ok.pn v1
 have ks := fun (k : Int) (hk : -20000000 ≤ k ∧ k ≤ 20000000) h => jbG (zu hC T239) (k := k) (h := h) ok v1 b1 w1 hk
 have gt := fun (k : Int) => st_gt ok (n := n) (k := k)
 have pb := ok.plb hn
 have d := ok.en.1
 have s := jbn ok.pn
 have td : -11000000 ≤ (n - e.dl).tdiv p.size ∧ (n - e.dl).tdiv p.size ≤ 11000000 := by
  have h1 := Int.natAbs_tdiv_le_natAbs (n - e.dl) p.size
  omega
 have szn : p.size ≠ 0 := by omega
 unfold plA at sz
 unfold srcA at ks ⊢
 generalize e.pl p n = K at *
 generalize hSt : e.sta p = St at *
 generalize p.size = z at *
 obtain ⟨pd, o, pb, w, mn, mx, nz, prns⟩ := p
 obtain ⟨prn, dl, rt, st, ph, amp, ba, bits⟩ := e
 dsimp only at *
 refine zf hC tab245 ?_; simp only [B245, zB.1]; refine zs ?_
 refine jaa.eq (sz _) ?_
 refine zs1 @szn ?_
 refine jaA (fun j t h' => h' = h.push (.cells [.int .i64 prn, .int .i64 dl, .int .i64 rt, .int .u32 st, .int .u32 ph, .int .i64 amp, .int .i64 ba, vb, .int .i64 pd, .int .i64 o, .int .i64 pb, .int .i64 w, .int .i64 mn, .int .i64 mx, .int .i64 nz, vp, vc] true 0) ∧ ∃ k : Int, t 1 = .int .i64 n ∧ t 2 = .ptr h.size 0 ∧ t 5 = .int .i64 k ∧ -11000000 ≤ k ∧ k ≤ 11000002 ∧ j = (k - K).toNat) (j0 := ((n - dl).tdiv z + 2 - K).toNat)
  ⟨rfl, _, rfl, rfl, rfl, by omega, by omega, rfl⟩ ?_
 rintro j t h1 ⟨hh, k, e1, e2, ek, k1, k2, hj⟩
 have gp : h1.get h.size = some (.cells [.int .i64 prn, .int .i64 dl, .int .i64 rt, .int .u32 st, .int .u32 ph, .int .i64 amp, .int .i64 ba, vb, .int .i64 pd, .int .i64 o, .int .i64 pb, .int .i64 w, .int .i64 mn, .int .i64 mx, .int .i64 nz, vp, vc] true 0) := by rw [hh]; exact jaz rfl
 have s1 : HSub h h1 := by rw [hh]; exact HSub.push1 _ _
 have g := gt k
 refine zs4 @e1 @e2 @ek @gp ?_
 refine jaa.eq (ks k (by omega) _) ?_
 refine zs2 @e1 @e2 ?_
 refine Br.by (fun c => ?_) (fun c => ?_)
 ·have kK : K < k := by
   rcases Int.lt_or_le K k with q | q
   ·exact q
   ·have := g.2 q; omega
  refine zs4 @e1 @e2 @ek @hh ?_
  exact ⟨_, ⟨by omega, by omega, rfl⟩, by omega⟩
 ·have kK : k ≤ K := g.1 (by omega)
  refine zs ?_
  refine jaA (fun j t h' => h' = h1 ∧ ∃ k : Int, t 1 = .int .i64 n ∧ t 2 = .ptr h.size 0 ∧ t 5 = .int .i64 k ∧ -11000000 ≤ k ∧ k ≤ K ∧ j = (K - k).toNat) (j0 := (K - k).toNat)
   ⟨rfl, k, e1, e2, ek, k1, kK, rfl⟩ ?_
  rintro j t h2 ⟨rfl, k, e1, e2, ek, k3, k4, hj⟩
  have g := gt (k + 1)
  refine zs4 @e1 @e2 @ek @gp ?_
  refine jaa.eq (ks (k + 1) (by omega) _) ?_
  refine zs2 @e1 @e2 ?_
  refine Br.by (fun c => ?_) (fun c => ?_)
  ·have kK : k + 1 ≤ K := g.1 c
   refine zs3 @e1 @e2 @ek ?_
   exact ⟨_, ⟨by omega, by omega, rfl⟩, by omega⟩
  ·have kK : k = K := by
    rcases Int.lt_or_le k K with q | q
    ·have := g.2 (by omega); omega
    ·omega
   refine zs2 @ek @kK ?_
   exact s1
end
end Go.Ae
namespace Go.Ae
section
variable {C : Ctx}
theorem jms : (List.range 64).all (fun k => jok (tabIn T146) 1000 60 146 [.int .i64 (k : Nat)] (smp (carr k))) = true := by kernel_rfl
theorem jmt (hC : Has C T146) {k : Nat} {h : Heap} (hk : k < 64) : ACalls C 146 [.int .i64 (k : Nat)] h (fun r h' => r = smp (carr k) ∧ h' = h) :=
 jjf (tabIn_ok hC) (by simp [AV.free, AV.bel]) (jid _) (List.all_eq_true.1 jms k (by simpa using hk)) h
theorem jjk (hC : Has C T135) {ph : Int} {h : Heap} (hp : U32 ph) : ACalls C 135 [.int .u32 ph] h (fun r h' => r = smp (carP ph) ∧ h' = h) := by
 refine ACalls.gc0 (P := fun r h' => r = smp (carP ph) ∧ HSub h h') ?_ (fun r h' hp => ⟨by rw [hp.1]; exact jid _, hp.2, hp.1, rfl⟩)
 unfold U32 at hp
 unfold carP
 obtain ⟨k, hk⟩ := Int.eq_ofNat_of_zero_le (show 0 ≤ ph / 67108864 by omega)
 rw [hk, Int.toNat_natCast]
 have hk' : k < 64 := by omega
 refine zf hC tab135 ?_; simp only [B135, zB.1]; refine zs1 @hk ?_
 refine jaa.eq (jmt (zu hC T146) hk') ?_
 refine zs1 @smp.eq_1 ?_
 exact HSub.push1 _ _
/-! ### Waves -/
end
end Go.Ae
namespace Go.Ae
def RV (h : Heap) (v : AV) (l : List Int) : Prop :=
 l.length < 9223372036854775808 ∧ (v = .nilslice ∧ l = [] ∨ ∃ i o c vs wr u, v = .slice i o l.length c ∧ h.get i = some (.cells vs wr u) ∧ o + l.length ≤ vs.length ∧ cut vs o l.length = ints l)
section
variable {h h' : Heap} {v : AV} {l : List Int}
theorem RI.rv (H : RI h v l) : RV h v l := by
 obtain ⟨_, hlt, ⟨rfl, h0⟩ | ⟨i, o, c, vs, wr, u, rfl, hg, hle, hc, _⟩⟩ := H
 ·exact ⟨hlt, .inl ⟨rfl, List.eq_nil_of_length_eq_zero h0⟩⟩
 ·rw [Nat.mul_one] at hle hc
  exact ⟨hlt, .inr ⟨i, o, c, vs, wr, u, rfl, hg, hle, hc⟩⟩
theorem RV.len (H : RV h v l) : lenA v = some (.int .i64 l.length) := by
 obtain ⟨_, ⟨rfl, rfl⟩ | ⟨i, o, c, vs, wr, u, rfl, _⟩⟩ := H <;> rfl
theorem RV.one (H : RV h v l) : v.one = true := by
 obtain ⟨_, ⟨rfl, rfl⟩ | ⟨i, o, c, vs, wr, u, rfl, _⟩⟩ := H <;> rfl
theorem RV.lt (H : RV h v l) : l.length < 9223372036854775808 := H.1
theorem RV.idx (H : RV h v l) {kk : IntKind} {k : Int} (hk : 0 ≤ k ∧ k < l.length) : idxA 1 v (.int kk k) = some (elA 1 v k.toNat) := by
 obtain ⟨_, ⟨rfl, rfl⟩ | ⟨i, o, c, vs, wr, u, rfl, _⟩⟩ := H
 ·simp at hk; omega
 ·simp only [idxA, if_pos hk, elA]
theorem RV.mono (H : RV h v l) (hs : HSub h h') : RV h' v l := by
 obtain ⟨hlt, ⟨rfl, rfl⟩ | ⟨i, o, c, vs, wr, u, rfl, hg, r⟩⟩ := H
 ·exact ⟨hlt, .inl ⟨rfl, rfl⟩⟩
 ·exact ⟨hlt, .inr ⟨i, o, c, vs, wr, u, rfl, (hs.get i (Heap.lt_of_get hg)).trans hg, r⟩⟩
theorem RV.load (H : RV h v l) {k : Nat} (hk : k < l.length) : Ae.loadA h false 1 (elA 1 v k) = some (.int .i64 (l.getD k 0)) := by
 obtain ⟨hlt, ⟨rfl, rfl⟩ | ⟨i, o, c, vs, wr, u, rfl, hg, hle, hc⟩⟩ := H
 ·simp at hk
 ·have e := jhY hk
  rw [← hc] at e
  rw [← e]
  simp only [elA, Ae.loadA, hg, partA, cut, Bool.false_eq_true, if_false, Nat.mul_one]
  rw [List.getElem?_take_of_lt (by omega), List.getElem?_drop]
end
end Go.Ae
namespace Go.Ae
def lvl (p : PlanP) (e : EmitP) (k : Int) : Int × Int := ((e.amp * (1 - 2 * bitI p e k)) * (carP (phI e.ph e.st k)).1, (e.amp * (1 - 2 * bitI p e k)) * (carP (phI e.ph e.st k)).2)
theorem jkt {a b : Int} (hb : 1 ≤ b) {A : Int} (ha : -A ≤ a ∧ a ≤ A) : -A ≤ a / b ∧ a / b ≤ A := by
 have hA : 0 ≤ A := by omega
 constructor
 ·rw [Int.le_ediv_iff_mul_le (by omega)]
  have : A * 1 ≤ A * b := Int.mul_le_mul_of_nonneg_left hb hA
  have e : -A * b = -(A * b) := by grind
  omega
 ·rw [← Int.lt_add_one_iff, Int.ediv_lt_iff_lt_mul (by omega)]
  have : (A + 1) * 1 ≤ (A + 1) * b := Int.mul_le_mul_of_nonneg_left hb (by omega)
  omega
section
variable {C : Ctx}
set_option maxHeartbeats 1000000 in
set_option maxRecDepth 20000 in
theorem jgq (hC : Has C T247) {p : PlanP} {e : EmitP} {vp vb vc : AV} {k : Int} {h : Heap} (ok : EmOk p e) (B : RV h vb e.bits) (v1 : vp.one = true) (w1 : vc.one = true) (hk : -20000000 ≤ k ∧ k ≤ 20000000) :
  ACalls C 247 [srcA p e vp vb vc, .int .i64 k] h (fun r h' => r = .int .i64 (bitI p e k) ∧ h' = h) := by
 refine ACalls.gc0 (P := fun r h' => r = .int .i64 (bitI p e k) ∧ HSub h h') ?_ (fun r h' hp => ⟨by rw [hp.1]; trivial, hp.2, hp.1, rfl⟩)
 have b1 := B.one
 have blt := B.lt
 have bl := ok.len
 have ba' := ok.en.2.2.2
 have pb' := ok.pn.2.2.1
 have hB : bitI p e k = if e.bits.length = 0 then 0 else e.bits.getD (((k - e.ba) / p.pb) % e.bits.length).toNat 0 := rfl
 have Bm := fun b => B.mono (HSub.push1 h b)
 generalize bitI p e k = X at *
 unfold srcA
 obtain ⟨pd, o, pb, w, mn, mx, nz, prns⟩ := p
 obtain ⟨prn, dl, rt, st, ph, amp, ba, bits⟩ := e
 dsimp only at *
 by_cases c : bits.length = 0
 ·rw [if_pos c] at hB
  subst hB
  refine zf hC tab247 ?_; simp only [B247, zB.1]; refine zs2 @B.len @c ?_
  exact HSub.push1 _ _
 ·rw [if_neg c] at hB
  have tm := jmr (j := (k - ba) / pb) (n := (bits.length : Int)) (by omega)
  have m1 := Int.emod_nonneg ((k - ba) / pb) (show (bits.length : Int) ≠ 0 by omega)
  have m2 := Int.emod_lt_of_pos ((k - ba) / pb) (show (0 : Int) < bits.length by omega)
  have q1 := Int.tmod_lt_of_pos ((k - ba) / pb) (show (0 : Int) < bits.length by omega)
  have q2 := Int.lt_tmod_of_pos ((k - ba) / pb) (show (0 : Int) < bits.length by omega)
  have q3 := jkt (a := k - ba) (b := pb) (A := 20000020) (by omega) (by omega)
  have fn := jow (k := k - ba) (b := pb) (by omega)
  have q4 := jkt (a := pb - 1 - (k - ba)) (b := pb) (A := 20000060) (by omega) (by omega)
  obtain ⟨m, hm⟩ : ∃ m : Nat, ((k - ba) / pb) % (bits.length : Int) = (m : Int) := ⟨(((k - ba) / pb) % (bits.length : Int)).toNat, by omega⟩
  rw [Int.tmod_eq_emod_of_nonneg (by omega)] at tm
  rw [hm] at tm m1 m2 hB
  rw [Int.toNat_natCast] at hB
  have ld := fun b => (Bm b).load (k := m) (by omega)
  have ix := B.idx (kk := .i64) (k := (m : Int)) ⟨by omega, by omega⟩
  rw [Int.toNat_natCast] at ix
  rw [← hB] at ld
  have nb : ¬ (bits.length : Int) = 0 := by omega
  have npb : ¬ pb = 0 := by omega
  by_cases c2 : k - ba < 0
  ·have td : (pb - 1 - (k - ba)).tdiv pb = (pb - 1 - (k - ba)) / pb := Int.tdiv_eq_ediv_of_nonneg (by omega)
   have q5 : -40000000 ≤ (k - ba).tdiv pb ∧ (k - ba).tdiv pb ≤ 40000000 := by
    have := Int.natAbs_tdiv_le_natAbs (k - ba) pb
    omega
   have fn' : 0 - (pb - 1 - (k - ba)) / pb = (k - ba) / pb := by omega
   generalize (k - ba) / pb = J at *
   generalize hD : (pb - 1 - (k - ba)) / pb = D at *
   refine zf hC tab247 ?_; simp only [B247, zB.1]; refine zs11 @B.len @nb @npb @c2 @td @hD @fn' @tm @ix @ld @gV_u ?_
   exact HSub.push1 _ _
  ·have td : (k - ba).tdiv pb = (k - ba) / pb := Int.tdiv_eq_ediv_of_nonneg (by omega)
   generalize hJ : (k - ba) / pb = J at *
   refine zf hC tab247 ?_; simp only [B247, zB.1]; refine zs10 @B.len @nb @npb @c2 @td @hJ @tm @ix @ld @gV_u ?_
   exact HSub.push1 _ _
theorem jfv (hC : Has C T249) {p : PlanP} {e : EmitP} {vp vb vc : AV} {i : Int} {h : Heap} (ok : EmOk p e) (W : RV h vc (codeL p.d e.prn)) (v1 : vp.one = true) (b1 : vb.one = true) (hi : 0 ≤ i ∧ i ≤ 100000) :
  ACalls C 249 [srcA p e vp vb vc, .int .i64 i] h (fun r h' => r = .int .i64 (chipI p e i) ∧ h' = h) := by
 refine ACalls.gc0 (P := fun r h' => r = .int .i64 (chipI p e i) ∧ HSub h h') ?_ (fun r h' hp => ⟨by rw [hp.1]; trivial, hp.2, hp.1, rfl⟩)
 have w1 := W.one
 have o' := ok.pn.2.1
 have cl : (codeL p.d e.prn).length = lenN p.d := jcM _ _
 have hN := jcS ok.pn.1
 have Wm := fun b => W.mono (HSub.push1 h b)
 have q3 := jkt (a := i) (b := p.o) (A := 100000) (by omega) (by omega)
 have q4 : 0 ≤ i / p.o := Int.ediv_nonneg (by omega) (by omega)
 have td : i.tdiv p.o = i / p.o := Int.tdiv_eq_ediv_of_nonneg (by omega)
 unfold chipI
 obtain ⟨m, hm⟩ : ∃ m : Nat, min (i / p.o) ((lenN p.d : Int) - 1) = (m : Int) := ⟨(min (i / p.o) ((lenN p.d : Int) - 1)).toNat, by omega⟩
 rw [hm, Int.toNat_natCast]
 have ld := fun b => (Wm b).load (k := m) (by omega)
 have ix := W.idx (kk := .i64) (k := (m : Int)) ⟨by omega, by omega⟩
 rw [Int.toNat_natCast] at ix
 have wl := W.len
 rw [cl] at wl
 generalize (codeL p.d e.prn).getD m 0 = x at *
 generalize lenN p.d = N at *
 have no : ¬ p.o = 0 := by omega
 unfold srcA
 obtain ⟨pd, o, pb, w, mn, mx, nz, prns⟩ := p
 obtain ⟨prn, dl, rt, st, ph, amp, ba, bits⟩ := e
 dsimp only at *
 refine zf hC tab249 ?_; simp only [B249, zB.1]; refine zs6 @td @no @wl @hm @ix @ld ?_
 exact HSub.push1 _ _
set_option maxHeartbeats 1000000 in
set_option maxRecDepth 20000 in
theorem jeL (hC : Has C T250) {p : PlanP} {e : EmitP} {vp vb vc : AV} {k : Int} {h : Heap} (ok : EmOk p e) (h65 : e.ok64) (B : RV h vb e.bits) (v1 : vp.one = true) (w1 : vc.one = true) (hk : -20000000 ≤ k ∧ k ≤ 20000000) :
  ACalls C 250 [srcA p e vp vb vc, .int .i64 k] h (fun r h' => r = smp (lvl p e k) ∧ h' = h) := by
 refine ACalls.gc0 (P := fun r h' => r = smp (lvl p e k) ∧ HSub h h') ?_ (fun r h' hp => ⟨by rw [hp.1]; exact jid _, hp.2, hp.1, rfl⟩)
 have b1 := B.one
 have am := ok.en.2.2.1
 have pm := ok.pn.2.2.2.2
 have bb := ok.bit k
 have ka := fun h => jji (zu hC T143) (a := e.ph) (s := e.st) (n := k) (h := h)
 have kc := fun h => jjk (zu hC T135) (h := h) (jie e.ph e.st k)
 have cl := jkp (jie e.ph e.st k)
 have kb := fun h1 (q : HSub h h1) => jgq (zu hC T247) (vp := vp) (vc := vc) ok (B.mono q) v1 w1 hk
 unfold lvl
 generalize carP (phI e.ph e.st k) = t at *
 generalize hb : bitI p e k = b at *
 generalize phI e.ph e.st k = f at *
 have xb : -1000 ≤ e.amp * (1 - 2 * b) ∧ e.amp * (1 - 2 * b) ≤ 1000 := by rcases bb with q | q <;> subst q <;> omega
 have x1 := jeH xb ⟨cl.1, cl.2.1⟩
 have x2 := jeH xb ⟨cl.2.2.1, cl.2.2.2⟩
 obtain ⟨tx, ty⟩ := t
 unfold srcA at kb ⊢
 unfold smp at kc ⊢
 obtain ⟨pd, o, pb, w, mn, mx, nz, prns⟩ := p
 obtain ⟨prn, dl, rt, st, ph, amp, ba, bits⟩ := e
 dsimp only at *
 refine zf hC tab250 ?_; simp only [B250, zB.1]; refine zs ?_
 refine jaa.eq (ka _) ?_
 refine zs ?_
 refine jaa.eq (kc _) ?_
 refine zs ?_
 refine jaa.eq (kb _ (zh (HSub.refl h))) ?_
 refine zs ?_
 exact (zh (HSub.refl h))
end
end Go.Ae
namespace Go.Ae
theorem jeM {d p : Int} {k : Nat} (h : k < lenN d) : (codeL d p).getD k 0 = 1 - 2 * codeB d p k := by simp [codeL, bitC, h]
section
variable {C : Ctx}
end
end Go.Ae
namespace Go.Ae
def jfN (d o : Int) : Int := if lenOk d = true ∧ 1 ≤ o ∧ o ≤ 8 then 0 else 2
def sampL (d p : Int) (o : Nat) : List Int := ((codeL d p).map fun x => List.replicate o x).flatten
section
variable {C : Ctx}
end
end Go.Ae
namespace Go.Ae
def Dj (v w : AV) : Prop := ∀ i, i ∈ v.ids → i ∉ w.ids
theorem Dj.nilL {w : AV} : Dj .nilslice w := fun i hi => by simp [AV.ids] at hi
theorem Dj.symm {v w : AV} (h : Dj v w) : Dj w v := fun i hi hv => h i hv hi
section
variable {h0 h H : Heap} {sz sz' n m k k' : Nat} {v w : AV} {cs ds es : List AV} {c : Cap} {x : Int} {l l' : List Int}
theorem Grw.dj (B : Grw h0 h sz w n ds) (hk : h.size ≤ k) : Dj w (.slice k 0 k' c) := by
 obtain ⟨_, _, _, ⟨rfl, rfl⟩ | ⟨i, ex, hi, rfl, hg⟩⟩ := B
 ·exact Dj.nilL
 ·intro j hj
  have := Heap.lt_of_get hg
  simp only [AV.ids, List.mem_singleton] at hj ⊢
  omega
theorem Grw.keep (A : Grw h0 h sz' v m es) (B : Grw h0 h sz w n ds) (hs : HSub h H) (hd : Dj w v) : Grw h0 (snocH H none v sz' cs) sz w n ds := by
 have hsub : HSub h0 (snocH H none v sz' cs) := by
  obtain ⟨h1, _, _, ⟨rfl, rfl⟩ | ⟨i, ex, hi, rfl, hg⟩⟩ := A
  ·exact (h1.trans hs).push _
  ·exact ((h1.trans hs).put hi _).push _
 obtain ⟨h1, hl, hn, ⟨rfl, rfl⟩ | ⟨i, ex, hi, rfl, hg⟩⟩ := B
 ·exact ⟨hsub, hl, hn, .inl ⟨rfl, rfl⟩⟩
 ·refine ⟨hsub, hl, hn, .inr ⟨i, ex, hi, rfl, ?_⟩⟩
  have hlt := Heap.lt_of_get hg
  have hsz := hs.size
  have hH := (hs.get i hlt).trans hg
  obtain ⟨_, _, _, ⟨rfl, rfl⟩ | ⟨j, ex', hj, rfl, hg'⟩⟩ := A
  ·exact (jav (by omega)).trans hH
  ·have hne : i ≠ j := fun e => hd i (by simp [AV.ids]) (by simp [AV.ids, e])
   exact (jav (by simp only [Heap.size_put]; omega)).trans ((jaB hne).trans hH)
theorem Grw.keepS (A : Grw h0 h sz' v m es) (B : Grw h0 h sz w n ds) (hs : HSub h H) (hk : h.size ≤ k ∧ k < H.size) (hd : Dj w v) : Grw h0 (snocH H (some k) v sz' cs) sz w n ds := by
 have hsub : HSub h0 (snocH H (some k) v sz' cs) := by
  have := A.sub.size
  obtain ⟨h1, _, _, ⟨rfl, rfl⟩ | ⟨i, ex, hi, rfl, hg⟩⟩ := A
  ·exact (h1.trans hs).put (by omega) _
  ·exact ((h1.trans hs).put hi _).put (by omega) _
 obtain ⟨h1, hl, hn, ⟨rfl, rfl⟩ | ⟨i, ex, hi, rfl, hg⟩⟩ := B
 ·exact ⟨hsub, hl, hn, .inl ⟨rfl, rfl⟩⟩
 ·refine ⟨hsub, hl, hn, .inr ⟨i, ex, hi, rfl, ?_⟩⟩
  have hlt := Heap.lt_of_get hg
  have hH := (hs.get i hlt).trans hg
  obtain ⟨_, _, _, ⟨rfl, rfl⟩ | ⟨j, ex', hj, rfl, hg'⟩⟩ := A
  ·exact (jaB (by omega)).trans hH
  ·have hne : i ≠ j := fun e => hd i (by simp [AV.ids]) (by simp [AV.ids, e])
   exact (jaB (by omega)).trans ((jaB hne).trans hH)
theorem GrwI.keep (A : GrwI h0 h v l) (B : GrwI h0 h w l') (hs : HSub h H) (hd : Dj w v) : GrwI h0 (snocH H none v 1 (ints (l ++ [x]))) w l' := Grw.keep A B hs hd
theorem GrwI.keepS (A : GrwI h0 h v l) (B : GrwI h0 h w l') (hs : HSub h H) (hk : h.size ≤ k ∧ k < H.size) (hd : Dj w v) : GrwI h0 (snocH H (some k) v 1 (ints (l ++ [x]))) w l' := Grw.keepS A B hs hk hd
theorem GrwI.dj (B : GrwI h0 h w l) (hk : h.size ≤ k) : Dj w (.slice k 0 k' c) := Grw.dj B hk
end
end Go.Ae
namespace Go.Ae
section
variable {h0 h H : Heap} {sz bytes n m k j x y : Nat} {v : AV} {cs news : List AV} {l : List (Int × Int)} {li : List Int}
theorem Grw.ids_lt (A : Grw h0 h sz v n cs) : ∀ i ∈ v.ids, h0.size ≤ i ∧ i < h.size := by
 obtain ⟨_, _, _, ⟨rfl, rfl⟩ | ⟨i, ex, hi, rfl, hg⟩⟩ := A
 ·intro i hi; simp [AV.ids] at hi
 ·intro j hj
  simp only [AV.ids, List.mem_singleton] at hj
  subst hj
  exact ⟨hi, Heap.lt_of_get hg⟩
theorem Grw.appG (A : Grw h0 h sz v n cs) (hg : ∀ i ∈ v.ids, H.get i = h.get i) (hk : h.size ≤ k ∧ k < H.size) (hm : m ≠ 0) (hb : (n + m) * bytes ≤ 1099511627776) (h1 : news.all AV.one = true) :
  jas H (some k) sz bytes v m news = appK k H v (.slice k 0 (n + m) (.unk 0)) sz (cs ++ news) (H.get k) := by
 obtain ⟨_, hl, hn, ⟨rfl, rfl⟩ | ⟨i, ex, hi, rfl, hgi⟩⟩ := A
 ·have : cs = [] := List.eq_nil_of_length_eq_zero (by omega)
  subst this
  exact Grw.appS (h0 := Heap.empty) (h := Heap.empty) (cs := []) (n := 0) ⟨HSub.refl _, by simp, by omega, .inl ⟨rfl, rfl⟩⟩ ⟨Nat.zero_le _, fun i hi => absurd hi (Nat.not_lt_zero i)⟩ ⟨Nat.zero_le _, hk.2⟩ hm hb h1
 ·have e0 := (hg i (by simp [AV.ids])).trans hgi
  have hlt := Heap.lt_of_get hgi
  have hr : H.room (some k) = ((H.get k).isNone && decide (k < H.size)) := rfl
  simp only [jas, e0]
  by_cases e : (H.get k).isNone = true
  ·have e' : H.get k = none := by simpa using e
   rw [if_pos ⟨trivial, by omega, by rw [List.length_append]; omega, h1, hb, by rw [hr, e]; simpa using hk.2, by omega⟩, jh5 hl]
   exact (congrArg (appK k H (.slice i 0 n (.unk 0)) (.slice k 0 (n + m) (.unk 0)) sz (cs ++ news)) e').symm
  ·rw [if_neg (by rw [hr]; simp [e]), if_neg (by omega)]
   obtain ⟨b, e'⟩ : ∃ b, H.get k = some b := by cases x : H.get k with | none => simp [x] at e | some b => exact ⟨b, rfl⟩
   exact (congrArg (appK k H (.slice i 0 n (.unk 0)) (.slice k 0 (n + m) (.unk 0)) sz (cs ++ news)) e').symm
theorem jmu : (snocH H (some k) v sz cs).size = H.size := by unfold snocH; cases v <;> rfl
theorem jlb (hk : j ≠ k) (hv : j ∉ v.ids) : (snocH H (some k) v sz cs).get j = H.get j := by
 unfold snocH
 cases v
 case slice i o n c => exact (jaB hk).trans (jaB (fun e => hv (by simp [AV.ids, e])))
 all_goals exact jaB hk
theorem GrwS.appG {a b : Int} (A : GrwS h0 h v l) (hg : ∀ i ∈ v.ids, H.get i = h.get i) (hk : h.size ≤ k ∧ k < H.size) (hb : l.length + 1 ≤ 1073741824) : jas H (some k) 2 16 v 1 [.int .i64 a, .int .i64 b] = appK k H v (.slice k 0 (l.length + 1) (.unk 0)) 2 (smps (l ++ [(a, b)])) (H.get k) := by
 rw [Grw.appG A hg hk (by decide) (by omega) (by rfl), jgm]
theorem GrwS.mk {K : Nat} (hs : HSub h0 h) (hk : h0.size ≤ k) (hl : K = l.length ∧ l.length < 9223372036854775808) (hg : h.get k = some (.cells (smps l) true 2)) : GrwS h0 h (.slice k 0 K (.unk 0)) l := by
 obtain ⟨rfl, hl⟩ := hl
 exact ⟨hs, jaW, hl, .inr ⟨k, [], hk, rfl, by rw [List.append_nil]; exact hg⟩⟩
theorem SL.fldE {cs : List AV} (A : SL h sz v n cs) : ∀ (k off : Nat), k < n → jbF off (elA sz v k) = some (elF sz v k off) := by
 intro k off hk
 obtain ⟨_, _, ⟨rfl, h1⟩ | ⟨i, o, c, vs, wr, u, rfl, _⟩⟩ := A
 ·omega
 ·rfl
theorem SL.loadE {cs : List AV} (A : SL h sz v n cs) {k off : Nat} (hk : k < n) (ho : off < sz) : Ae.loadA h false 1 (elF sz v k off) = cs[k * sz + off]? := by
 obtain ⟨hl, hlt, ⟨rfl, h1⟩ | ⟨i, o, c, vs, wr, u, rfl, hg, hle, hc, _⟩⟩ := A
 ·omega
 ·have h1 : (k + 1) * sz ≤ n * sz := Nat.mul_le_mul_right sz hk
  have h2 : (k + 1) * sz = k * sz + sz := by rw [Nat.add_mul, Nat.one_mul]
  rw [← hc, cut, List.getElem?_take_of_lt (by omega), List.getElem?_drop]
  simp only [elF, Ae.loadA, hg, partA, Bool.false_eq_true, if_false]
  rw [Nat.add_assoc]
theorem Dj.not {v w : AV} (h : Dj v w) {i : Nat} (hi : i ∈ w.ids) : i ∉ v.ids := fun hv => h i hv hi
end
end Go.Ae
namespace Go.Ae
def jrS (d o : Int) (ps : List Int) : Int := if jfN d o = 0 ∧ ∀ p ∈ ps, jcT d p = 0 then 0 else 2
def joz (vs : List AV) (o : Int) : List AV := vs.flatMap fun v => [v, .int .i64 o]
structure CLs (h : Heap) (v : AV) (d o : Int) (ps : List Int) (vs : List AV) : Prop where
 sl : SL h 2 v ps.length (joz vs o)
 len : vs.length = ps.length
 ri : ∀ i, i < ps.length → RI h (vs.getD i .nilslice) (sampL d (ps.getD i 0) o.toNat)
theorem CLs.mono {h h' : Heap} {v : AV} {d o : Int} {ps : List Int} {vs : List AV} (H : CLs h v d o ps vs) (hs : HSub h h') : CLs h' v d o ps vs := ⟨H.sl.mono hs, H.len, fun i hi => (H.ri i hi).mono hs⟩
section
variable {C : Ctx}
end
end Go.Ae
namespace Go.Ae
section
variable {C : Ctx}
end
end Go.Ae
namespace Go.Ae
def pf (a b : List Int) (m s : Int) : Nat → Int
 | 0 => 0
 | k + 1 => pf a b m s k + a.getD k 0 * b.getD (min ((k : Int) - m + a.length + s) ((a.length : Int) - 1)).toNat 0
def ps (a b : List Int) (m : Nat) : Nat → Int
 | 0 => 0
 | k + 1 => ps a b m k + a.getD (m + k) 0 * b.getD k 0
def one1 (l : List Int) : Prop := ∀ x ∈ l, -1 ≤ x ∧ x ≤ 1
theorem one1.get {l : List Int} (h : one1 l) (i : Nat) : -1 ≤ l.getD i 0 ∧ l.getD i 0 ≤ 1 := by
 by_cases c : i < l.length
 ·exact h _ (jbq c)
 ·rw [List.getD_eq_getElem?_getD, List.getElem?_eq_none (by omega)]; decide
def plc (a b : List Int) (s : Int) (m : Nat) : Int := max (pf a b m s m) (-pf a b m s m) + max (ps a b m (a.length - m)) (-ps a b m (a.length - m))
def gM (a b : List Int) (s : Int) (lo : Nat) : Nat → Int → Int
 | 0, x => x
 | k + 1, x => max (gM a b s lo k x) (plc a b s (lo + k))
def inS (B : Int) (x : Int × Int) : Prop := (-B ≤ x.1 ∧ x.1 ≤ B) ∧ (-B ≤ x.2 ∧ x.2 ≤ B)
instance (B : Int) (x : Int × Int) : Decidable (inS B x) := by unfold inS; exact inferInstance
def addP (x y : Int × Int) : Int × Int := (x.1 + y.1, x.2 + y.2)
def jqG (b : Int) : Prop := b = 1 ∨ b = 2 ∨ b = 4 ∨ b = 8 ∨ b = 16 ∨ b = 32 ∨ b = 64
instance (b : Int) : Decidable (jqG b) := by unfold jqG; exact inferInstance
def jlc (v : AV) : Prop := v = .nilslice ∨ ∃ i o n c, v = .slice i o n (.known c)
theorem SL.dropK {h : Heap} {sz n a : Nat} {v : AV} {cs : List AV} {kk : IntKind} (H : SL h sz v n cs) (K : jlc v) (ha : a ≤ n) : ∃ v', (∀ h', jaX h' sz v (some (.int kk (a : Nat))) none none = some v') ∧ SL h sz v' (n - a) (cs.drop (a * sz)) := by
 obtain ⟨hl, hlt, ⟨rfl, rfl⟩ | ⟨i, o, cp, vs, wr, u, rfl, hg, hle, hc, hcap⟩⟩ := H
 ·have : a = 0 := by omega
  subst this
  have : cs = [] := List.eq_nil_of_length_eq_zero (by omega)
  subst this
  exact ⟨.nilslice, fun _ => rfl, by simp, by omega, .inl ⟨rfl, rfl⟩⟩
 ·obtain ⟨c, rfl⟩ : ∃ c, cp = .known c := by
   rcases K with K | ⟨_, _, _, c, K⟩
   ·cases K
   ·cases K; exact ⟨c, rfl⟩
  dsimp only at hcap
  have hbd : jbU n c (some (.int kk (a : Nat))) none none = some (a, n, c) := jcD (len := n) (cap := c) (a := a) (b := n) (c := c) rfl rfl rfl ⟨ha, hcap, Nat.le_refl _⟩
  refine ⟨.slice i (if c = a then o else o + a * sz) (n - a) (.known (c - a)), fun _ => by simp only [jaX, hbd], ?_⟩
  have hm : a * sz ≤ n * sz := Nat.mul_le_mul_right _ ha
  have hs : (n - a) * sz = n * sz - a * sz := Nat.sub_mul _ _ _
  refine ⟨by rw [List.length_drop, hl, hs], by omega, .inr ⟨i, _, _, vs, wr, u, rfl, hg, ?_, ?_, by dsimp only; omega⟩⟩
  ·split
   ·rename_i e; have : n - a = 0 := by omega
    rw [this]; omega
   ·omega
  ·subst hc
   split
   ·rename_i e; have : n = a := by omega
    subst this
    simp [cut]
   ·simp only [cut, List.drop_take, List.drop_drop, hs]
theorem SI.dropK {h : Heap} {v : AV} {l : List (Int × Int)} {a : Nat} {kk : IntKind} (H : SI h v l) (K : jlc v) (ha : a ≤ l.length) : ∃ v', (∀ h', jaX h' 2 v (some (.int kk (a : Nat))) none none = some v') ∧ SI h v' (l.drop a) := by
 obtain ⟨v', e, q⟩ := SL.dropK (kk := kk) H K ha
 refine ⟨v', e, ?_⟩
 rw [jjg] at q
 unfold SI
 rwa [List.length_drop]
section
variable {C : Ctx}
end
end Go.Ae
namespace Go.Ae
section
variable {C : Ctx}
end
end Go.Ae
namespace Go.Ae
section
variable {C : Ctx}
end
end Go.Ae
namespace Go.Ae
section
variable {C : Ctx}
end
end Go.Ae
namespace Go.Ae
theorem jsw {p : PlanP} {e : EmitP} {vp vb vc : AV} (h1 : vc.one = true) : fillA [.int .i64 0, .int .i64 0, .int .i64 0, .int .u32 0, .int .u32 0, .int .i64 0, .int .i64 0, .nilslice, .int .i64 0, .int .i64 0, .int .i64 0, .int .i64 0, .int .i64 0, .int .i64 0, .int .i64 0, .nilslice, .nilslice] [(0, 8, emA e vb), (8, 8, plA p vp), (16, 1, vc)] = some [.int .i64 e.prn, .int .i64 e.dl, .int .i64 e.rt, .int .u32 e.st, .int .u32 e.ph, .int .i64 e.amp, .int .i64 e.ba, vb, .int .i64 p.d, .int .i64 p.o, .int .i64 p.pb, .int .i64 p.w, .int .i64 p.mn, .int .i64 p.mx, .int .i64 p.nz, vp, vc] := by
 have hc : vc.cells = [vc] := by cases vc <;> first | rfl | (simp [AV.one] at h1)
 have e1 : (emA e vb).cells = [.int .i64 e.prn, .int .i64 e.dl, .int .i64 e.rt, .int .u32 e.st, .int .u32 e.ph, .int .i64 e.amp, .int .i64 e.ba, vb] := rfl
 have p1 : (plA p vp).cells = [.int .i64 p.d, .int .i64 p.o, .int .i64 p.pb, .int .i64 p.w, .int .i64 p.mn, .int .i64 p.mx, .int .i64 p.nz, vp] := rfl
 simp [fillA, hc, e1, p1]
theorem EmOk.per {p : PlanP} {e : EmitP} (ok : EmOk p e) (n : Int) : 0 ≤ n - e.sta p (e.pl p n) ∧ n - e.sta p (e.pl p n) ≤ 8184 := by
 have a := (st_gt ok (n := n) (k := e.pl p n)).2 (Int.le_refl _)
 have b := pl_lt (dl := e.dl) (n := n) ok.den
 have c := (jop (dl := e.dl) (sz := p.size) (k := e.pl p n) ok.en.2.1).2
 have s := jbn ok.pn
 unfold EmitP.sta EmitP.pl at *
 omega
theorem joA {p : PlanP} {e : EmitP} (ok : EmOk p e) {i : Int} (hi : 0 ≤ i) : chipI p e i = 1 ∨ chipI p e i = -1 := by
 have hN := jcS ok.pn.1
 have o' := ok.pn.2.1
 have q : 0 ≤ i / p.o := Int.ediv_nonneg hi (by omega)
 unfold chipI
 rw [jeM (by omega)]
 rcases jig p.d e.prn (min (i / p.o) ((lenN p.d : Int) - 1)).toNat with h | h <;> rw [h] <;> simp
section
variable {C : Ctx}
end
end Go.Ae
namespace Go.Ae
def zsrc : AV := .agg [.int .i64 0, .int .i64 0, .int .i64 0, .int .u32 0, .int .u32 0, .int .i64 0, .int .i64 0, .nilslice, .int .i64 0, .int .i64 0, .int .i64 0, .int .i64 0, .int .i64 0, .int .i64 0, .int .i64 0, .nilslice, .nilslice]
theorem jd0 (p : PlanP) (e : EmitP) (n : Int) : madeErr p e n = 0 ∨ madeErr p e n = 2 ∨ madeErr p e n = 3 ∨ madeErr p e n = 4 ∨ madeErr p e n = 8 ∨ madeErr p e n = 18 := by
 have := jfi p e
 unfold madeErr
 split
 ·split <;> simp
 ·omega
theorem jfj {p : PlanP} {e : EmitP} {n : Int} (h : madeErr p e n = 0) : EmOk p e ∧ -10000000 ≤ n ∧ n ≤ 10000000 := by
 unfold madeErr at h
 split at h
 ·rename_i c
  split at h
  ·omega
  ·exact ⟨jel c, by omega, by omega⟩
 ·omega
theorem jbj {H : Heap} {i n : Nat} {x y : AV} {xs vs : List AV} (h1 : (x :: y :: xs).length = n) (h2 : vs.length = n) (h3 : (x :: y :: xs).all AV.one = true) : jbZ H i n 0 (.agg (x :: y :: xs)) (some (.cells vs true 0)) = some (H.put i (.cells (x :: y :: xs) true 0)) := by
 rw [jhf h1 (by omega) h3]
 have e : splice vs 0 (x :: y :: xs) = x :: y :: xs := by
  show vs.take 0 ++ (x :: y :: xs) ++ vs.drop (0 + (x :: y :: xs).length) = _
  rw [List.take_zero, List.nil_append, Nat.zero_add, List.drop_eq_nil_of_le (by omega), List.append_nil]
 rw [e]
section
variable {C : Ctx}
set_option maxHeartbeats 2000000 in
set_option maxRecDepth 20000 in
theorem jgr (hC : Has C T238) {v w : AV} {p : PlanP} {e : EmitP} {n : Int} {h : Heap} (hp : PlI h v p) (he : EmI h w e) (h64 : p.ok64) (h65 : e.ok64) (hn : In64 n) :
  ACalls C 238 [v, w, .int .i64 n] h (fun r h' => HSub h h' ∧ ∃ x, r = .tuple [x, .int .i64 (madeErr p e n)] ∧ (madeErr p e n ≠ 0 → x = zsrc) ∧ (madeErr p e n = 0 → ∃ vp vb vc, v = plA p vp ∧ w = emA e vb ∧ x = srcA p e vp vb vc ∧ RI h vp p.prns ∧ RI h vb e.bits ∧ RI h' vc (codeL p.d e.prn) ∧ ∀ i ∈ vc.ids, h.size ≤ i)) := by
 have kc := fun h1 (q : HSub h h1) => jho (zu hC T223) (hp.mono q) (he.mono q) h64 h65
 have kk := fun h => jou (zu hC T76) (h := h) h64.1 h65.1
 have er := jfi p e
 obtain ⟨vp, rfl, R⟩ := hp
 obtain ⟨vb, rfl, B⟩ := he
 have v1 := R.one
 have b1 := B.one
 unfold In64 at hn
 unfold madeErr
 have sH : ∀ b c d, HSub h (((h.push b).push c).push d) := fun b c d => ((HSub.push1 h b).push c).push d
 by_cases c : emitErr p e = 0
 ·have ok := jel c
  rw [if_pos c]
  rw [c] at kc
  rw [ok.code] at kk
  by_cases c2 : n < -10000000 ∨ 10000000 < n
  ·rw [if_pos c2]
   unfold zsrc
   refine zf hC tab238 ?_; simp only [B238, zB.1]; refine zs ?_
   refine jaa.eq (kc _ (sH _ _ _)) ?_
   (repeat' (first | (refine Br.by (fun _ => ?_) (fun _ => ?_)) | (refine zs1 @gV_u ?_)))
   all_goals first
    | (exfalso; omega)
    | exact ⟨(zh (HSub.refl h)), _, rfl, fun _ => rfl⟩
  ·rw [if_neg c2]
   have f17 := fun vc (w1 : vc.one = true) => jsw (p := p) (e := e) (vp := vp) (vb := vb) (vc := vc) w1
   unfold plA emA at f17
   unfold plA emA srcA
   have n1 : ¬ n < -10000000 := by omega
   have n2 : ¬ 10000000 < n := by omega
   refine zf hC tab238 ?_; simp only [B238, zB.1]; refine zs ?_
   refine jaa.eq (kc _ (sH _ _ _)) ?_
   refine zs3 @gV_u @n1 @n2 ?_
   refine jaa.of (kk _) ?_
   rintro r h1 ⟨vc, rfl, s1, W, F⟩
   have w1 := W.one
   have F := F rfl
   obtain ⟨_, fl, i, fi, fv, fg⟩ := F
   simp only [Heap.size_push] at fi
   have f17 := f17 vc w1
   have sz1 := s1.size
   simp only [Heap.size_push] at sz1
   have gp : h1.get h.size = some (.cells [.int .i64 p.d, .int .i64 p.o, .int .i64 p.pb, .int .i64 p.w, .int .i64 p.mn, .int .i64 p.mx, .int .i64 p.nz, vp] true 0) := (s1.get _ (by simp only [Heap.size_push]; omega)).trans (by exact ze)
   have ge : h1.get (h.size + 1) = some (.cells [.int .i64 e.prn, .int .i64 e.dl, .int .i64 e.rt, .int .u32 e.st, .int .u32 e.ph, .int .i64 e.amp, .int .i64 e.ba, vb] true 0) := (s1.get _ (by simp only [Heap.size_push]; omega)).trans (by exact ze)
   have gz : h1.get (h.size + 2) = some (.cells [.int .i64 0, .int .i64 0, .int .i64 0, .int .u32 0, .int .u32 0, .int .i64 0, .int .i64 0, .nilslice, .int .i64 0, .int .i64 0, .int .i64 0, .int .i64 0, .int .i64 0, .int .i64 0, .int .i64 0, .nilslice, .nilslice] true 0) := (s1.get _ (by simp)).trans (by exact ze)
   have s0 := (sH (.cells [.int .i64 p.d, .int .i64 p.o, .int .i64 p.pb, .int .i64 p.w, .int .i64 p.mn, .int .i64 p.mx, .int .i64 p.nz, vp] true 0) (.cells [.int .i64 e.prn, .int .i64 e.dl, .int .i64 e.rt, .int .u32 e.st, .int .u32 e.ph, .int .i64 e.amp, .int .i64 e.ba, vb] true 0) (.cells [.int .i64 0, .int .i64 0, .int .i64 0, .int .u32 0, .int .u32 0, .int .i64 0, .int .i64 0, .nilslice, .int .i64 0, .int .i64 0, .int .i64 0, .int .i64 0, .int .i64 0, .int .i64 0, .int .i64 0, .nilslice, .nilslice] true 0)).trans s1
   have sb := fun (H : Heap) (i : Nat) => jbj (H := H) (i := i) (n := 17) (x := .int .i64 e.prn) (y := .int .i64 e.dl) (xs := [.int .i64 e.rt, .int .u32 e.st, .int .u32 e.ph, .int .i64 e.amp, .int .i64 e.ba, vb, .int .i64 p.d, .int .i64 p.o, .int .i64 p.pb, .int .i64 p.w, .int .i64 p.mn, .int .i64 p.mx, .int .i64 p.nz, vp, vc]) (vs := [.int .i64 0, .int .i64 0, .int .i64 0, .int .u32 0, .int .u32 0, .int .i64 0, .int .i64 0, .nilslice, .int .i64 0, .int .i64 0, .int .i64 0, .int .i64 0, .int .i64 0, .int .i64 0, .int .i64 0, .nilslice, .nilslice]) rfl rfl (by simp [jcC, v1, b1, w1])
   refine zs6 @ja2.eq_1 @gp @ge @gz @f17 @sb ?_
   exact ⟨s0.put (by omega) _, _, rfl, fun q => absurd trivial q, fun _ => ⟨vp, vb, vc, rfl, rfl, rfl, R, B, by rw [fv]; exact RI.known ((jaB (by omega)).trans fg) ⟨rfl, fl⟩ (Nat.le_refl _), fun i hi => by rw [fv] at hi; simp only [AV.ids, List.mem_singleton] at hi; omega⟩⟩
 ·rw [if_neg c]
  generalize emitErr p e = E at *
  unfold zsrc
  refine zf hC tab238 ?_; simp only [B238, zB.1]; refine zs ?_
  refine jaa.eq (kc _ (sH _ _ _)) ?_
  refine zs1 @c ?_
  exact ⟨(zh (HSub.refl h)), _, rfl, fun _ => rfl⟩
theorem jbR (hC : Has C T238) {v w : AV} {p : PlanP} {e : EmitP} {n : Int} {h : Heap} (hp : PlI h v p) (he : EmI h w e) (h64 : p.ok64) (h65 : e.ok64) (hn : In64 n) :
  ACalls C 238 [v, w, .int .i64 n] h (fun r h' => HSub h h' ∧ ∃ x, r = .tuple [x, .int .i64 (madeErr p e n)] ∧ (madeErr p e n ≠ 0 → x = zsrc) ∧ (madeErr p e n = 0 → ∃ vp vb vc, v = plA p vp ∧ w = emA e vb ∧ x = srcA p e vp vb vc ∧ RI h vp p.prns ∧ RI h vb e.bits ∧ RI h' vc (codeL p.d e.prn))) := by
 refine (jgr hC hp he h64 h65 hn).mono ?_
 rintro r h' ⟨a, x, b, c, d⟩
 refine ⟨a, x, b, c, fun e0 => ?_⟩
 obtain ⟨vp, vb, vc, q1, q2, q3, R, B, W, _⟩ := d e0
 exact ⟨vp, vb, vc, q1, q2, q3, R, B, W⟩
def jcN (p : PlanP) (e : EmitP) (n : Int) : AV := if madeErr p e n = 0 then tup2 (e.sta p n) 0 else tup2 0 (madeErr p e n)
theorem jjl (a b : Int) : (tup2 a b).free := by unfold tup2; exact jc4 (by simp [AV.free, AV.bel])
set_option maxHeartbeats 1000000 in
set_option maxRecDepth 20000 in
theorem jhp (hC : Has C T221) {v w : AV} {p : PlanP} {e : EmitP} {n : Int} {h : Heap} (hp : PlI h v p) (he : EmI h w e) (h64 : p.ok64) (h65 : e.ok64) (hn : In64 n) :
  ACalls C 221 [v, w, .int .i64 n] h (fun r h' => r = jcN p e n ∧ h' = h) := by
 refine ACalls.gc0 (P := fun r h' => r = jcN p e n ∧ HSub h h') ?_ (fun r h' hp => ⟨by rw [hp.1]; unfold jcN; split <;> exact jjl _ _, hp.2, hp.1, rfl⟩)
 have km := fun h1 (q : HSub h h1) => jbR (zu hC T238) (hp.mono q) (he.mono q) h64 h65 hn
 have mr := jd0 p e n
 unfold jcN
 obtain ⟨vp, rfl, R⟩ := hp
 obtain ⟨vb, rfl, B⟩ := he
 have v1 := R.one
 have b1 := B.one
 have sH : ∀ b c, HSub h ((h.push b).push c) := fun b c => (HSub.push1 h b).push c
 by_cases c : madeErr p e n = 0
 ·have ok := jfj c
  rw [if_pos c]
  rw [c] at km
  have ks := fun vp vb vc (x1 : vp.one = true) (x2 : vb.one = true) (x3 : vc.one = true) h => jbG (zu hC T239) (vp := vp) (vb := vb) (vc := vc) (k := n) (h := h) ok.1 x1 x2 x3 (by omega)
  generalize e.sta p n = S at *
  refine zf hC tab221 ?_; simp only [B221, zB.1]; refine zs ?_
  refine jaa.of (km _ (sH _ _)) ?_
  rintro r h1 ⟨s1, x, rfl, g0, g1⟩
  have g1 := g1 rfl
  obtain ⟨vp', vb', vc, e1, e2, rfl, R', B', W⟩ := g1
  have x1 := R'.one
  have x2 := B'.one
  have x3 := W.one
  have ks := ks vp' vb' vc x1 x2 x3
  unfold srcA at ks ⊢
  have sb := fun (H : Heap) (i : Nat) => jbj (H := H) (i := i) (n := 17) (x := .int .i64 e.prn) (y := .int .i64 e.dl) (xs := [.int .i64 e.rt, .int .u32 e.st, .int .u32 e.ph, .int .i64 e.amp, .int .i64 e.ba, vb', .int .i64 p.d, .int .i64 p.o, .int .i64 p.pb, .int .i64 p.w, .int .i64 p.mn, .int .i64 p.mx, .int .i64 p.nz, vp', vc]) (vs := [.int .i64 0, .int .i64 0, .int .i64 0, .int .u32 0, .int .u32 0, .int .i64 0, .int .i64 0, .nilslice, .int .i64 0, .int .i64 0, .int .i64 0, .int .i64 0, .int .i64 0, .int .i64 0, .int .i64 0, .nilslice, .nilslice]) rfl rfl (by simp [jcC, x1, x2, x3])
  refine zs1 @sb ?_
  refine jaa.eq (ks _) ?_
  refine zs1 @tup2.eq_1 ?_
  exact (sH _ _).trans (s1.trans (by exact (zh (HSub.refl h1))))
 ·rw [if_neg c]
  generalize madeErr p e n = E at *
  refine zf hC tab221 ?_; simp only [B221, zB.1]; refine zs ?_
  refine jaa.of (km _ (sH _ _)) ?_
  rintro r h1 ⟨s1, x, rfl, g0, g1⟩
  have g0 := g0 c
  subst g0
  unfold zsrc
  refine zs2 @c @tup2.eq_1 ?_
  exact (sH _ _).trans (s1.trans (by exact (zh (HSub.refl h1))))
end
end Go.Ae
namespace Go.Ae
def tupI3 (x y z : Int) : AV := .tuple [.int .i64 x, .int .i64 y, .int .i64 z]
theorem jmv (a b c : Int) : (tupI3 a b c).free := by unfold tupI3; exact jc4 (by simp [AV.free, AV.bel])
def jdS (p : PlanP) (e : EmitP) (n : Int) : AV := if madeErr p e n = 0 then tupI3 (e.pl p n) (n - e.sta p (e.pl p n)) 0 else tupI3 0 0 (madeErr p e n)
def bitE (p : PlanP) (e : EmitP) (n : Int) : AV := if madeErr p e n = 0 then tup2 (bitI p e n) 0 else tup2 0 (madeErr p e n)
def atE (p : PlanP) (e : EmitP) (n : Int) : AV := if madeErr p e n = 0 then .tuple [smp (atV p e n), .int .i64 0] else .tuple [smp (0, 0), .int .i64 (madeErr p e n)]
theorem jku (p : PlanP) (e : EmitP) (n : Int) : (jdS p e n).free := by unfold jdS; split <;> exact jmv _ _ _
theorem joB (p : PlanP) (e : EmitP) (n : Int) : (bitE p e n).free := by unfold bitE; split <;> exact jjl _ _
theorem jqf (p : PlanP) (e : EmitP) (n : Int) : (atE p e n).free := by
 unfold atE
 split <;> exact jc4 (by simp [smp, AV.free, AV.bel, AV.bels])
section
variable {C : Ctx}
set_option maxHeartbeats 1000000 in
set_option maxRecDepth 20000 in
theorem jhq (hC : Has C T225) {v w : AV} {p : PlanP} {e : EmitP} {n : Int} {h : Heap} (hp : PlI h v p) (he : EmI h w e) (h64 : p.ok64) (h65 : e.ok64) (hn : In64 n) :
  ACalls C 225 [v, w, .int .i64 n] h (fun r h' => r = jdS p e n ∧ h' = h) := by
 refine ACalls.gc0 (P := fun r h' => r = jdS p e n ∧ HSub h h') ?_ (fun r h' hp => ⟨by rw [hp.1]; exact jku _ _ _, hp.2, hp.1, rfl⟩)
 have km := fun h1 (q : HSub h h1) => jbR (zu hC T238) (hp.mono q) (he.mono q) h64 h65 hn
 have mr := jd0 p e n
 unfold jdS
 obtain ⟨vp, rfl, R⟩ := hp
 obtain ⟨vb, rfl, B⟩ := he
 have v1 := R.one
 have b1 := B.one
 have sH : ∀ b c, HSub h ((h.push b).push c) := fun b c => (HSub.push1 h b).push c
 by_cases c : madeErr p e n = 0
 ·have ok := jfj c
  rw [if_pos c]
  rw [c] at km
  have kp := fun vp vb vc (x1 : vp.one = true) (x2 : vb.one = true) (x3 : vc.one = true) h => jds (zu hC T245) (vp := vp) (vb := vb) (vc := vc) (n := n) (h := h) ok.1 x1 x2 x3 (by omega)
  have pb := ok.1.plb (n := n) (by omega)
  have per := ok.1.per n
  have ks := fun vp vb vc (x1 : vp.one = true) (x2 : vb.one = true) (x3 : vc.one = true) h => jbG (zu hC T239) (vp := vp) (vb := vb) (vc := vc) (k := e.pl p n) (h := h) ok.1 x1 x2 x3 (by omega)
  generalize e.pl p n = K at *
  generalize e.sta p K = S at *
  refine zf hC tab225 ?_; simp only [B225, zB.1]; refine zs ?_
  refine jaa.of (km _ (sH _ _)) ?_
  rintro r h1 ⟨s1, x, rfl, g0, g1⟩
  have g1 := g1 rfl
  obtain ⟨vp', vb', vc, e1, e2, rfl, R', B', W⟩ := g1
  have x1 := R'.one
  have x2 := B'.one
  have x3 := W.one
  have s0 := (sH _ _).trans s1
  have kp := kp vp' vb' vc x1 x2 x3
  have ks := ks vp' vb' vc x1 x2 x3
  unfold srcA at kp ks ⊢
  have sb := fun (H : Heap) (i : Nat) => jbj (H := H) (i := i) (n := 17) (x := .int .i64 e.prn) (y := .int .i64 e.dl) (xs := [.int .i64 e.rt, .int .u32 e.st, .int .u32 e.ph, .int .i64 e.amp, .int .i64 e.ba, vb', .int .i64 p.d, .int .i64 p.o, .int .i64 p.pb, .int .i64 p.w, .int .i64 p.mn, .int .i64 p.mx, .int .i64 p.nz, vp', vc]) (vs := [.int .i64 0, .int .i64 0, .int .i64 0, .int .u32 0, .int .u32 0, .int .i64 0, .int .i64 0, .nilslice, .int .i64 0, .int .i64 0, .int .i64 0, .int .i64 0, .int .i64 0, .int .i64 0, .int .i64 0, .nilslice, .nilslice]) rfl rfl (by simp [jcC, x1, x2, x3])
  refine zs1 @sb ?_
  refine jaa.eq (kp _) ?_
  refine zs ?_
  refine jaa.eq (ks _) ?_
  refine zs1 @tupI3.eq_1 ?_
  exact s0.trans (by exact (zh (HSub.refl h1)))
 ·rw [if_neg c]
  generalize madeErr p e n = E at *
  refine zf hC tab225 ?_; simp only [B225, zB.1]; refine zs ?_
  refine jaa.of (km _ (sH _ _)) ?_
  rintro r h1 ⟨s1, x, rfl, g0, g1⟩
  have g0 := g0 c
  subst g0
  have s0 := (sH _ _).trans s1
  unfold zsrc
  refine zs2 @c @tupI3.eq_1 ?_
  exact s0.trans (by exact (zh (HSub.refl h1)))
set_option maxHeartbeats 1000000 in
set_option maxRecDepth 20000 in
theorem jqg (hC : Has C T227) {v w : AV} {p : PlanP} {e : EmitP} {n : Int} {h : Heap} (hp : PlI h v p) (he : EmI h w e) (h64 : p.ok64) (h65 : e.ok64) (hn : In64 n) :
  ACalls C 227 [v, w, .int .i64 n] h (fun r h' => r = bitE p e n ∧ h' = h) := by
 refine ACalls.gc0 (P := fun r h' => r = bitE p e n ∧ HSub h h') ?_ (fun r h' hp => ⟨by rw [hp.1]; exact joB _ _ _, hp.2, hp.1, rfl⟩)
 have km := fun h1 (q : HSub h h1) => jbR (zu hC T238) (hp.mono q) (he.mono q) h64 h65 hn
 have mr := jd0 p e n
 unfold bitE
 obtain ⟨vp, rfl, R⟩ := hp
 obtain ⟨vb, rfl, B⟩ := he
 have v1 := R.one
 have b1 := B.one
 have sH : ∀ b c, HSub h ((h.push b).push c) := fun b c => (HSub.push1 h b).push c
 by_cases c : madeErr p e n = 0
 ·have ok := jfj c
  rw [if_pos c]
  rw [c] at km
  have kb := fun vp vb vc h1 (x1 : vp.one = true) (x3 : vc.one = true) (B : RI h1 vb e.bits) => jgq (zu hC T247) (vp := vp) (vc := vc) (k := n) ok.1 B.rv x1 x3 (by omega)
  generalize bitI p e n = b at *
  refine zf hC tab227 ?_; simp only [B227, zB.1]; refine zs ?_
  refine jaa.of (km _ (sH _ _)) ?_
  rintro r h1 ⟨s1, x, rfl, g0, g1⟩
  have g1 := g1 rfl
  obtain ⟨vp', vb', vc, e1, e2, rfl, R', B', W⟩ := g1
  have x1 := R'.one
  have x2 := B'.one
  have x3 := W.one
  have s0 := (sH _ _).trans s1
  have kb := fun h2 q => kb vp' vb' vc h2 x1 x3 (B'.mono q)
  unfold srcA at kb ⊢
  have sb := fun (H : Heap) (i : Nat) => jbj (H := H) (i := i) (n := 17) (x := .int .i64 e.prn) (y := .int .i64 e.dl) (xs := [.int .i64 e.rt, .int .u32 e.st, .int .u32 e.ph, .int .i64 e.amp, .int .i64 e.ba, vb', .int .i64 p.d, .int .i64 p.o, .int .i64 p.pb, .int .i64 p.w, .int .i64 p.mn, .int .i64 p.mx, .int .i64 p.nz, vp', vc]) (vs := [.int .i64 0, .int .i64 0, .int .i64 0, .int .u32 0, .int .u32 0, .int .i64 0, .int .i64 0, .nilslice, .int .i64 0, .int .i64 0, .int .i64 0, .int .i64 0, .int .i64 0, .int .i64 0, .int .i64 0, .nilslice, .nilslice]) rfl rfl (by simp [jcC, x1, x2, x3])
  refine zs1 @sb ?_
  refine jaa.eq (kb _ (s1.trans (by exact (zh (HSub.refl h1))))) ?_
  refine zs1 @tup2.eq_1 ?_
  exact s0.trans (by exact (zh (HSub.refl h1)))
 ·rw [if_neg c]
  generalize madeErr p e n = E at *
  refine zf hC tab227 ?_; simp only [B227, zB.1]; refine zs ?_
  refine jaa.of (km _ (sH _ _)) ?_
  rintro r h1 ⟨s1, x, rfl, g0, g1⟩
  have g0 := g0 c
  subst g0
  have s0 := (sH _ _).trans s1
  unfold zsrc
  refine zs2 @c @tup2.eq_1 ?_
  exact s0.trans (by exact (zh (HSub.refl h1)))
set_option maxHeartbeats 1000000 in
set_option maxRecDepth 20000 in
theorem jkv (hC : Has C T229) {v w : AV} {p : PlanP} {e : EmitP} {n : Int} {h : Heap} (hp : PlI h v p) (he : EmI h w e) (h64 : p.ok64) (h65 : e.ok64) (hn : In64 n) :
  ACalls C 229 [v, w, .int .i64 n] h (fun r h' => r = atE p e n ∧ h' = h) := by
 refine ACalls.gc0 (P := fun r h' => r = atE p e n ∧ HSub h h') ?_ (fun r h' hp => ⟨by rw [hp.1]; exact jqf _ _ _, hp.2, hp.1, rfl⟩)
 have km := fun h1 (q : HSub h h1) => jbR (zu hC T238) (hp.mono q) (he.mono q) h64 h65 hn
 have mr := jd0 p e n
 unfold atE
 obtain ⟨vp, rfl, R⟩ := hp
 obtain ⟨vb, rfl, B⟩ := he
 have v1 := R.one
 have b1 := B.one
 have sH : ∀ b c d, HSub h (((h.push b).push c).push d) := fun b c d => ((HSub.push1 h b).push c).push d
 by_cases c : madeErr p e n = 0
 ·have ok := jfj c
  rw [if_pos c]
  rw [c] at km
  have kp := fun vp vb vc (x1 : vp.one = true) (x2 : vb.one = true) (x3 : vc.one = true) h => jds (zu hC T245) (vp := vp) (vb := vb) (vc := vc) (n := n) (h := h) ok.1 x1 x2 x3 (by omega)
  have pb := ok.1.plb (n := n) (by omega)
  have per := ok.1.per n
  have stb := ok.1.stb (k := e.pl p n) (by omega)
  have sr : -200000000000 ≤ e.sta p (e.pl p n) ∧ e.sta p (e.pl p n) ≤ 200000000000 := ⟨stb.1, stb.2.1⟩
  clear stb
  have ks := fun vp vb vc (x1 : vp.one = true) (x2 : vb.one = true) (x3 : vc.one = true) h => jbG (zu hC T239) (vp := vp) (vb := vb) (vc := vc) (k := e.pl p n) (h := h) ok.1 x1 x2 x3 (by omega)
  have kc := fun vp vb vc h1 (x1 : vp.one = true) (x2 : vb.one = true) (W : RI h1 vc (codeL p.d e.prn)) => jfv (zu hC T249) (vp := vp) (vb := vb) (i := n - e.sta p (e.pl p n)) ok.1 W.rv x1 x2 (by omega)
  have kl := fun vp vb vc h1 (x1 : vp.one = true) (x3 : vc.one = true) (B : RI h1 vb e.bits) => jeL (zu hC T250) (vp := vp) (vc := vc) (k := e.pl p n) ok.1 h65 B.rv x1 x3 (by omega)
  have cp := joA ok.1 per.1
  have am := ok.1.en.2.2.1
  have pm := ok.1.pn.2.2.2.2
  have bb := ok.1.bit (e.pl p n)
  have cl := jkp (jie e.ph e.st (e.pl p n))
  unfold lvl at kl
  unfold atV
  generalize e.pl p n = K at *
  generalize e.sta p K = S at *
  generalize chipI p e (n - S) = x at *
  generalize carP (phI e.ph e.st K) = t at *
  generalize bitI p e K = b at *
  have xb : -1000 ≤ e.amp * (1 - 2 * b) ∧ e.amp * (1 - 2 * b) ≤ 1000 := by rcases bb with q | q <;> subst q <;> omega
  have y1 := jeH xb ⟨cl.1, cl.2.1⟩
  have y2 := jeH xb ⟨cl.2.2.1, cl.2.2.2⟩
  obtain ⟨tx, ty⟩ := t
  have e1 : e.amp * x * (1 - 2 * b) * tx = x * (e.amp * (1 - 2 * b) * tx) := by grind
  have e2 : e.amp * x * (1 - 2 * b) * ty = x * (e.amp * (1 - 2 * b) * ty) := by grind
  dsimp only at e1 e2 kl y1 y2 ⊢
  rw [e1, e2]
  generalize e.amp * (1 - 2 * b) * tx = u1 at *
  generalize e.amp * (1 - 2 * b) * ty = u2 at *
  have z1 : -127000 ≤ x * u1 ∧ x * u1 ≤ 127000 := by rcases cp with q | q <;> subst q <;> omega
  have z2 : -127000 ≤ x * u2 ∧ x * u2 ≤ 127000 := by rcases cp with q | q <;> subst q <;> omega
  unfold smp at kl ⊢
  dsimp only at kl ⊢
  refine zf hC tab229 ?_; simp only [B229, zB.1]; refine zs ?_
  refine jaa.of (km _ (sH _ _ _)) ?_
  rintro r h1 ⟨s1, x, rfl, g0, g1⟩
  have g1 := g1 rfl
  obtain ⟨vp', vb', vc, e1, e2, rfl, R', B', W⟩ := g1
  have x1 := R'.one
  have x2 := B'.one
  have x3 := W.one
  have s0 := (sH _ _ _).trans s1
  have kp := kp vp' vb' vc x1 x2 x3
  have ks := ks vp' vb' vc x1 x2 x3
  have kc := fun h2 q => kc vp' vb' vc h2 x1 x2 (W.mono q)
  have kl := fun h2 q => kl vp' vb' vc h2 x1 x3 (B'.mono q)
  unfold srcA at kp ks kc kl ⊢
  have sb := fun (H : Heap) (i : Nat) => jbj (H := H) (i := i) (n := 17) (x := .int .i64 e.prn) (y := .int .i64 e.dl) (xs := [.int .i64 e.rt, .int .u32 e.st, .int .u32 e.ph, .int .i64 e.amp, .int .i64 e.ba, vb', .int .i64 p.d, .int .i64 p.o, .int .i64 p.pb, .int .i64 p.w, .int .i64 p.mn, .int .i64 p.mx, .int .i64 p.nz, vp', vc]) (vs := [.int .i64 0, .int .i64 0, .int .i64 0, .int .u32 0, .int .u32 0, .int .i64 0, .int .i64 0, .nilslice, .int .i64 0, .int .i64 0, .int .i64 0, .int .i64 0, .int .i64 0, .int .i64 0, .int .i64 0, .nilslice, .nilslice]) rfl rfl (by simp [jcC, x1, x2, x3])
  have gz : h1.get (h.size + 2) = some (.cells [.int .i64 0, .int .i64 0] true 0) := (s1.get _ (by simp)).trans (by exact ze)
  have hz : h.size + 2 < h1.size := by have := s1.size; simp only [Heap.size_push] at this; omega
  refine zs1 @sb ?_
  refine jaa.eq (kp _) ?_
  refine zs ?_
  refine jaa.eq (ks _) ?_
  refine zs ?_
  refine jaa.eq (kc _ (by exact (zh (HSub.refl h1)))) ?_
  refine zs ?_
  refine jaa.eq (kl _ (s1.trans (by exact (zh (HSub.refl h1))))) ?_
  refine zs2 @gz @Heap.wf ?_
  exact (zh s0)
 ·rw [if_neg c]
  generalize madeErr p e n = E at *
  refine zf hC tab229 ?_; simp only [B229, zB.1]; refine zs ?_
  refine jaa.of (km _ (sH _ _ _)) ?_
  rintro r h1 ⟨s1, x, rfl, g0, g1⟩
  have g0 := g0 c
  subst g0
  have s0 := (sH _ _ _).trans s1
  unfold zsrc
  have gz : h1.get (h.size + 2) = some (.cells [.int .i64 0, .int .i64 0] true 0) := (s1.get _ (by simp)).trans (by exact ze)
  have hz : h.size + 2 < h1.size := by have := s1.size; simp only [Heap.size_push] at this; omega
  unfold smp
  refine zs2 @c @gz ?_
  exact (zh s0)
end
end Go.Ae
namespace Go.Ae
section
variable {C : Ctx}
end
end Go.Ae
namespace Go.Ae
section
variable {C : Ctx}
end
end Go.Ae
namespace Go.Ae
/-! ### Words -/
def rotN (n a W : Nat) : Nat := (W >>> a ||| W <<< (n - a)) % 2 ^ n
theorem jii {n a W i : Nat} (hW : W < 2 ^ n) (ha : a < n) (hi : i < n) : (rotN n a W).testBit i = W.testBit ((i + a) % n) := by
 unfold rotN
 rw [Nat.testBit_mod_two_pow, Nat.testBit_or, Nat.testBit_shiftRight, Nat.testBit_shiftLeft, decide_eq_true hi, Bool.true_and]
 by_cases c : i + a < n
 ·rw [Nat.mod_eq_of_lt c, Nat.add_comm a i, decide_eq_false (by omega), Bool.false_and, Bool.or_false]
 ·have h1 : W.testBit (a + i) = false := Nat.testBit_lt_two_pow (Nat.lt_of_lt_of_le hW (Nat.pow_le_pow_right (by decide) (by omega)))
  rw [h1, Bool.false_or, decide_eq_true (by omega), Bool.true_and, Nat.mod_eq_sub_mod (by omega), Nat.mod_eq_of_lt (by omega)]
  congr 1; omega
def popc : Nat → Nat → Nat
 | 0, _ => 0
 | n + 1, W => W % 2 + popc n (W / 2)
theorem jkw : ∀ n W, popc n W = pop W n
 | 0, W => rfl
 | n + 1, W => by
  rw [popc, jkw n, Nat.add_comm n 1, jh6]
  have e1 : pop W 1 = W % 2 := by
   simp only [pop, bsum, bitN, Nat.testBit_zero, Nat.zero_add]
   have := Nat.mod_two_eq_zero_or_one W
   rcases this with h | h <;> simp [h]
  rw [e1, Nat.shiftRight_eq_div_pow, Nat.pow_one]
def saOk (n W : Nat) : Bool := (List.range n).all fun a => Nat.beq a 0 || (List.range n).any fun s => Nat.beq (W ^^^ rotN n a W) (rotN n s W)
def jqH (n W V t : Nat) : Bool := (List.range n).all fun e => let s := popc n (W ^^^ rotN n e V); Nat.beq (n + 1) (2 * s) || Nat.beq (n + t) (2 * s) || Nat.beq (n + 2) (2 * s + t)
/-! ### Sums -/
def isum (f : Nat → Int) : Nat → Int
 | 0 => 0
 | n + 1 => isum f n + f n
theorem jbH {f g : Nat → Int} : ∀ n, (∀ i, i < n → f i = g i) → isum f n = isum g n
 | 0, _ => rfl
 | n + 1, h => by simp only [isum]; rw [jbH n (fun i hi => h i (by omega)), h n (by omega)]
theorem jld (f : Nat → Int) : ∀ n, isum (fun i => f (i + 1)) n = isum f n + f n - f 0
 | 0 => by simp [isum]
 | n + 1 => by simp only [isum, jld f n]; omega
theorem jd1 {f : Nat → Int} {n : Nat} (hf : ∀ i, f (i + n) = f i) : ∀ s, isum (fun i => f (i + s)) n = isum f n
 | 0 => rfl
 | s + 1 => by
  have ih := jd1 hf s
  have h1 := jld (fun i => f (i + s)) n
  have h2 : f (n + s) = f (0 + s) := by rw [Nat.add_comm n s, hf, Nat.zero_add]
  rw [ih] at h1
  have h3 : isum (fun i => f (i + 1 + s)) n = isum (fun i => f (i + (s + 1))) n := jbH n fun i _ => by congr 1; omega
  rw [← h3, h1]; omega
theorem jgs {x : Nat → Int} (hx : ∀ i, x i = 0 ∨ x i = 1) : ∀ n, isum (fun i => 1 - 2 * x i) n = n - 2 * (bsum (fun i => (x i).toNat) n : Nat)
 | 0 => by simp [isum, bsum]
 | n + 1 => by
  simp only [isum, bsum, jgs hx n]
  rcases hx n with h | h <;> rw [h] <;> simp <;> omega
/-! ### Periodic bits -/
structure Pair (n : Nat) (t : Int) (U V : Nat → Int) : Prop where
 pos : 0 < n
 u01 : ∀ i, U i = 0 ∨ U i = 1
 v01 : ∀ i, V i = 0 ∨ V i = 1
 uper : ∀ i, U (i + n) = U i
 vper : ∀ i, V (i + n) = V i
 usa : ∀ a, a % n ≠ 0 → ∃ s, ∀ i, (U i + U (i + a)) % 2 = U (i + s)
 vsa : ∀ a, a % n ≠ 0 → ∃ s, ∀ i, (V i + V (i + a)) % 2 = V (i + s)
 usum : isum (fun i => 1 - 2 * U i) n = -1
 vsum : isum (fun i => 1 - 2 * V i) n = -1
 corr : ∀ e, let S := isum (fun i => 1 - 2 * ((U i + V (i + e)) % 2)) n; S = -1 ∨ S = -t ∨ S = t - 2
section
variable {n : Nat} {t : Int} {U V : Nat → Int}
theorem jij {f : Nat → Int} (hf : ∀ i, f (i + n) = f i) (i : Nat) : f (i % n) = f i := by
 have h : ∀ k r, f (r + n * k) = f r := by
  intro k
  induction k with
  | zero => intro r; rfl
  | succ k ih => intro r; rw [Nat.mul_succ, ← Nat.add_assoc, hf, ih]
 have := h (i / n) (i % n)
 rw [Nat.add_comm, Nat.div_add_mod] at this
 exact this.symm
theorem jle {f : Nat → Int} (hf : ∀ i, f (i + n) = f i) {a : Nat} (ha : a % n = 0) (i : Nat) : f (i + a) = f i := by
 rw [← jij hf (i + a), Nat.add_mod, ha, Nat.add_zero, Nat.mod_mod, jij hf]
theorem jjm {f : Nat → Int} (f01 : ∀ i, f i = 0 ∨ f i = 1) (hf : ∀ i, f (i + n) = f i) (hn : 0 < n) (sa : ∀ a, a % n ≠ 0 → ∃ s, ∀ i, (f i + f (i + a)) % 2 = f (i + s)) (a b : Nat) :
  (a % n = b % n ∧ ∀ i, (f (i + a) + f (i + b)) % 2 = 0) ∨ (a % n ≠ b % n ∧ ∃ s, ∀ i, (f (i + a) + f (i + b)) % 2 = f (i + s)) := by
 by_cases c : a % n = b % n
 ·left
  refine ⟨c, fun i => ?_⟩
  have : f (i + a) = f (i + b) := by rw [← jij hf (i + a), ← jij hf (i + b), Nat.add_mod, c, ← Nat.add_mod]
  have h1 := f01 (i + b)
  rw [this]; omega
 ·right
  refine ⟨c, ?_⟩
  -- the shift of b past a
  have hd : (b + (n - a % n)) % n ≠ 0 := by
   intro h0
   apply c
   have h1 := Nat.div_add_mod b n
   have h2 := Nat.mod_lt a hn
   have h3 := Nat.mod_lt b hn
   rw [Nat.add_mod] at h0
   by_cases ha : a % n = 0
   ·rw [ha, Nat.sub_zero, Nat.mod_self, Nat.add_zero, Nat.mod_mod] at h0; omega
   ·rw [Nat.mod_eq_of_lt (show n - a % n < n by omega)] at h0
    by_cases hb : b % n + (n - a % n) < n
    ·rw [Nat.mod_eq_of_lt hb] at h0; omega
    ·rw [Nat.mod_eq_sub_mod (by omega), Nat.mod_eq_of_lt (by omega)] at h0; omega
  obtain ⟨s, hs⟩ := sa _ hd
  refine ⟨a + s, fun i => ?_⟩
  have h1 := hs (i + a)
  have h2 : f (i + a + (b + (n - a % n))) = f (i + b) := by
   have h3 : i + a + (b + (n - a % n)) = i + b + (a - a % n + n) := by
    have := Nat.mod_le a n
    have := Nat.mod_lt a hn
    omega
   rw [h3]
   refine jle hf ?_ _
   rw [Nat.add_mod_right]
   have : a - a % n = n * (a / n) := by have := Nat.div_add_mod a n; omega
   rw [this, Nat.mul_mod_right]
  rw [h2] at h1
  rw [h1, Nat.add_assoc]
def mixB (U V : Nat → Int) (al be : Bool) (b i : Nat) : Int := ((if al then U i else 0) + (if be then V (i + b) else 0)) % 2
theorem joC (P : Pair n t U V) (al be al' be' : Bool) (b b' k : Nat) (h1 : al = true ∨ be = true) (h2 : al' = true ∨ be' = true) :
  let S := isum (fun i => (1 - 2 * mixB U V al be b i) * (1 - 2 * mixB U V al' be' b' (i + k))) n
  (al = al' ∧ be = be' ∧ (al = true → k % n = 0) ∧ (be = true → b % n = (k + b') % n) ∧ S = n) ∨ (S = -1 ∨ S = -t ∨ S = t - 2) := by
 intro S
 -- each part
 have hu : (al = al' ∧ (al = true → k % n = 0) ∧ ∀ i, ((if al then U i else 0) + (if al' then U (i + k) else 0)) % 2 = 0) ∨ ∃ s, ∀ i, ((if al then U i else 0) + (if al' then U (i + k) else 0)) % 2 = U (i + s) := by
  cases al <;> cases al'
  ·left; exact ⟨rfl, by simp, fun i => by simp⟩
  ·right; exact ⟨k, fun i => by have := P.u01 (i + k); simp; omega⟩
  ·right; exact ⟨0, fun i => by have := P.u01 i; simp; omega⟩
  ·rcases jjm P.u01 P.uper P.pos P.usa 0 k with ⟨a1, a2⟩ | ⟨a1, s, a2⟩
   ·left; exact ⟨rfl, fun _ => by rw [← a1, Nat.zero_mod], fun i => by simpa using a2 i⟩
   ·right; exact ⟨s, fun i => by simpa using a2 i⟩
 have hv : (be = be' ∧ (be = true → b % n = (k + b') % n) ∧ ∀ i, ((if be then V (i + b) else 0) + (if be' then V (i + k + b') else 0)) % 2 = 0) ∨ ∃ s, ∀ i, ((if be then V (i + b) else 0) + (if be' then V (i + k + b') else 0)) % 2 = V (i + s) := by
  cases be <;> cases be'
  ·left; exact ⟨rfl, by simp, fun i => by simp⟩
  ·right; exact ⟨k + b', fun i => by have := P.v01 (i + k + b'); rw [← Nat.add_assoc]; simp; omega⟩
  ·right; exact ⟨b, fun i => by have := P.v01 (i + b); simp; omega⟩
  ·rcases jjm P.v01 P.vper P.pos P.vsa b (k + b') with ⟨a1, a2⟩ | ⟨a1, s, a2⟩
   ·left; exact ⟨rfl, fun _ => a1, fun i => by have := a2 i; rw [← Nat.add_assoc] at this; simpa using this⟩
   ·right; exact ⟨s, fun i => by have := a2 i; rw [← Nat.add_assoc] at this; simpa using this⟩
 have key : ∀ i, (1 - 2 * mixB U V al be b i) * (1 - 2 * mixB U V al' be' b' (i + k)) = 1 - 2 * ((((if al then U i else 0) + (if al' then U (i + k) else 0)) % 2 + ((if be then V (i + b) else 0) + (if be' then V (i + k + b') else 0)) % 2) % 2) := by
  intro i
  unfold mixB
  have x1 : (if al then U i else 0) = 0 ∨ (if al then U i else 0) = 1 := by cases al <;> simp; exact P.u01 i
  have x2 : (if al' then U (i + k) else 0) = 0 ∨ (if al' then U (i + k) else 0) = 1 := by cases al' <;> simp; exact P.u01 _
  have x3 : (if be then V (i + b) else 0) = 0 ∨ (if be then V (i + b) else 0) = 1 := by cases be <;> simp; exact P.v01 _
  have x4 : (if be' then V (i + k + b') else 0) = 0 ∨ (if be' then V (i + k + b') else 0) = 1 := by cases be' <;> simp; exact P.v01 _
  generalize (if al then U i else 0) = a1 at *
  generalize (if al' then U (i + k) else 0) = a2 at *
  generalize (if be then V (i + b) else 0) = a3 at *
  generalize (if be' then V (i + k + b') else 0) = a4 at *
  rcases x1 with rfl | rfl <;> rcases x2 with rfl | rfl <;> rcases x3 with rfl | rfl <;> rcases x4 with rfl | rfl <;> decide
 have eS : S = isum (fun i => 1 - 2 * ((((if al then U i else 0) + (if al' then U (i + k) else 0)) % 2 + ((if be then V (i + b) else 0) + (if be' then V (i + k + b') else 0)) % 2) % 2)) n := jbH n fun i _ => key i
 rcases hu with ⟨u1, u2, u3⟩ | ⟨s, u3⟩ <;> rcases hv with ⟨v1, v2, v3⟩ | ⟨s', v3⟩
 ·left
  refine ⟨u1, v1, u2, v2, ?_⟩
  rw [eS, jbH n (g := fun _ => 1) (fun i _ => by rw [u3, v3]; rfl)]
  have : ∀ m, isum (fun _ => 1) m = m := by
   intro m
   induction m with
   | zero => rfl
   | succ m ih => simp only [isum, ih]; omega
  exact this n
 ·right; left
  rw [eS, jbH n (g := fun i => 1 - 2 * V (i + s')) (fun i _ => by rw [u3, v3]; have := P.v01 (i + s'); omega)]
  exact (jd1 (f := fun i => 1 - 2 * V i) (fun i => by rw [P.vper]) s').trans P.vsum
 ·right; left
  rw [eS, jbH n (g := fun i => 1 - 2 * U (i + s)) (fun i _ => by rw [u3, v3]; have := P.u01 (i + s); omega)]
  exact (jd1 (f := fun i => 1 - 2 * U i) (fun i => by rw [P.uper]) s).trans P.usum
 ·right
  -- both: shift by s, then the place of v
  have hn := P.pos
  have h1 : S = isum (fun i => 1 - 2 * ((U i + V (i + (s' + (n * s - s)))) % 2)) n := by
   rw [eS, jbH n (g := fun i => 1 - 2 * ((U (i + s) + V (i + s + (s' + (n * s - s)))) % 2)) (fun i _ => by
    have hle : s ≤ n * s := Nat.le_mul_of_pos_left s hn
    have : V (i + s + (s' + (n * s - s))) = V (i + s') := by
     rw [show i + s + (s' + (n * s - s)) = i + s' + n * s by omega]
     exact jle P.vper (Nat.mul_mod_right n s) _
    rw [u3, v3, this])]
   exact jd1 (f := fun i => 1 - 2 * ((U i + V (i + (s' + (n * s - s)))) % 2)) (fun i => by
    rw [P.uper, show i + n + (s' + (n * s - s)) = i + (s' + (n * s - s)) + n by omega, P.vper]) s
  have h2 := P.corr (s' + (n * s - s))
  rw [h1]; exact h2
end
end Go.Ae
namespace Go.Ae
def perL (x : List Int) (n i : Nat) : Int := x.getD (i % n) 0
theorem joD {b : Bool} {x : Int} (hx : x = 0 ∨ x = 1) (h : b.toNat = x.toNat) : b = decide (x = 1) := by
 rcases hx with rfl | rfl <;> cases b <;> simp at h ⊢
theorem jeN {x : List Int} (hx : bit01 x) (i : Nat) : (packL x).testBit i = decide (x.getD i 0 = 1) := joD (hx.get i) (jdO hx i)
theorem joE {a b : Int} (ha : a = 0 ∨ a = 1) (hb : b = 0 ∨ b = 1) : (decide (a = 1) ^^ decide (b = 1)) = decide ((a + b) % 2 = 1) := by
 rcases ha with rfl | rfl <;> rcases hb with rfl | rfl <;> decide
theorem sa_of {x : List Int} {n W : Nat} (hx : bit01 x) (hl : x.length = n) (hW : packL x = W) (hn : 0 < n) (h : saOk n W = true) : ∀ a, a % n ≠ 0 → ∃ s, ∀ i, (perL x n i + perL x n (i + a)) % 2 = perL x n (i + s) := by
 intro a ha
 have hlt : W < 2 ^ n := by rw [← hW, ← hl]; exact jdZ hx
 have h1 := List.all_eq_true.1 h (a % n) (List.mem_range.2 (Nat.mod_lt _ hn))
 rw [Bool.or_eq_true] at h1
 rcases h1 with h1 | h1
 ·exact absurd (Nat.eq_of_beq_eq_true h1) ha
 ·obtain ⟨s, hs, h2⟩ := List.any_eq_true.1 h1
  have hs := List.mem_range.1 hs
  have h2 := Nat.eq_of_beq_eq_true h2
  refine ⟨s, fun i => ?_⟩
  have hj := Nat.mod_lt i hn
  have h3 : (W ^^^ rotN n (a % n) W).testBit (i % n) = (rotN n s W).testBit (i % n) := by rw [h2]
  rw [Nat.testBit_xor, jii hlt (Nat.mod_lt _ hn) hj, jii hlt hs hj, ← hW, jeN hx, jeN hx, jeN hx] at h3
  have b1 := hx.get (i % n)
  have b2 := hx.get ((i % n + a % n) % n)
  have b3 := hx.get ((i % n + s) % n)
  rw [joE b1 b2] at h3
  have e1 : (i + a) % n = (i % n + a % n) % n := Nat.add_mod i a n
  have e2 : (i + s) % n = (i % n + s) % n := by rw [Nat.mod_add_mod]
  unfold perL
  rw [e1, e2]
  have h4 := decide_eq_decide.1 h3
  omega
theorem jqh {x : List Int} {n W : Nat} (hx : bit01 x) (hW : packL x = W) : bsum (fun i => (x.getD i 0).toNat) n = popc n W := by
 rw [jkw, ← hW]
 exact jcs n fun i _ => (jdO hx i).symm
theorem jkx {x : List Int} (hx : bit01 x) (n i : Nat) : perL x n i = 0 ∨ perL x n i = 1 := hx.get _
theorem jlf (x : List Int) (n i : Nat) : perL x n (i + n) = perL x n i := by unfold perL; rw [Nat.add_mod_right]
theorem jqI {x : List Int} {n W : Nat} (hx : bit01 x) (hW : packL x = W) (h : 2 * popc n W = n + 1) : isum (fun i => 1 - 2 * perL x n i) n = -1 := by
 rw [jgs (jkx hx n)]
 have : bsum (fun i => (perL x n i).toNat) n = popc n W := by
  rw [← jqh hx hW]
  exact jcs n fun i hi => by unfold perL; rw [Nat.mod_eq_of_lt hi]
 rw [this]; omega
theorem jrT {x y : List Int} {n W V t : Nat} (hx : bit01 x) (hy : bit01 y) (hl : y.length = n) (hW : packL x = W) (hV : packL y = V) (hn : 0 < n) (h : jqH n W V t = true) :
  ∀ e, let S := isum (fun i => 1 - 2 * ((perL x n i + perL y n (i + e)) % 2)) n; S = -1 ∨ S = -(t : Int) ∨ S = (t : Int) - 2 := by
 intro e S
 have hlt : V < 2 ^ n := by rw [← hV, ← hl]; exact jdZ hy
 have h1 := List.all_eq_true.1 h (e % n) (List.mem_range.2 (Nat.mod_lt _ hn))
 have hb : ∀ i, (perL x n i + perL y n (i + e)) % 2 = 0 ∨ (perL x n i + perL y n (i + e)) % 2 = 1 := fun i => by omega
 have hS : S = n - 2 * (bsum (fun i => ((perL x n i + perL y n (i + e)) % 2).toNat) n : Nat) := jgs hb n
 have hp : bsum (fun i => ((perL x n i + perL y n (i + e)) % 2).toNat) n = popc n (W ^^^ rotN n (e % n) V) := by
  rw [jkw]
  refine jcs n fun i hi => ?_
  have b1 := hx.get i
  have b2 := hy.get ((i + e % n) % n)
  show _ = ((W ^^^ rotN n (e % n) V).testBit i).toNat
  rw [Nat.testBit_xor, jii hlt (Nat.mod_lt _ hn) hi, ← hW, ← hV, jeN hx, jeN hy, joE b1 b2]
  have e1 : (i + e) % n = (i + e % n) % n := by rw [Nat.add_mod_mod]
  unfold perL
  rw [Nat.mod_eq_of_lt hi, e1]
  have : (x.getD i 0 + y.getD ((i + e % n) % n) 0) % 2 = 0 ∨ (x.getD i 0 + y.getD ((i + e % n) % n) 0) % 2 = 1 := by omega
  rcases this with h | h <;> rw [h] <;> rfl
 rw [hp] at hS
 simp only [Bool.or_eq_true] at h1
 rcases h1 with (h1 | h1) | h1 <;> have h1 := Nat.eq_of_beq_eq_true h1 <;> omega
theorem jky {x y : List Int} {n t W V : Nat} (hn : 0 < n) (hx : bit01 x) (hy : bit01 y) (lx : x.length = n) (ly : y.length = n) (hW : packL x = W) (hV : packL y = V) (s1 : saOk n W = true) (s2 : saOk n V = true) (h1 : 2 * popc n W = n + 1) (h2 : 2 * popc n V = n + 1) (hc : jqH n W V t = true) :
  Pair n t (perL x n) (perL y n) :=
 ⟨hn, jkx hx n, jkx hy n, jlf x n, jlf y n, sa_of hx lx hW hn s1, sa_of hy ly hV hn s2, jqI hx hW h1, jqI hy hV h2, jrT hx hy ly hW hV hn hc⟩
theorem w51 : packL (bitsL 5 1) = 440580895 := by decide +kernel
theorem w52 : packL (bitsL 5 2) = 319508959 := by decide +kernel
theorem pair5 : Pair 31 9 (perL (bitsL 5 1) 31) (perL (bitsL 5 2) 31) :=
 jky (by decide) jbN jbN (jaO 5 1) (jaO 5 2) w51 w52 (by decide +kernel) (by decide +kernel) (by decide +kernel) (by decide +kernel) (by decide +kernel)
theorem w61 : packL (bitsL 6 1) = 3114073359753873471 := by decide +kernel
theorem w62 : packL (bitsL 6 2) = 3765794974394322623 := by decide +kernel
theorem pair6 : Pair 63 17 (perL (bitsL 6 1) 63) (perL (bitsL 6 2) 63) :=
 jky (by decide) jbN jbN (jaO 6 1) (jaO 6 2) w61 w62 (by decide +kernel) (by decide +kernel) (by decide +kernel) (by decide +kernel) (by decide +kernel)
theorem w71 : packL (bitsL 7 1) = 19633041171262327947611635764423014527 := by decide +kernel
theorem w72 : packL (bitsL 7 2) = 79058819457452495440679678893767108735 := by decide +kernel
theorem pair7 : Pair 127 17 (perL (bitsL 7 1) 127) (perL (bitsL 7 2) 127) :=
 jky (by decide) jbN jbN (jaO 7 1) (jaO 7 2) w71 w72 (by decide +kernel) (by decide +kernel) (by decide +kernel) (by decide +kernel) (by decide +kernel)
def thrT (d : Int) : Int := if d = 5 then 9 else 17
theorem jqi {d : Int} (hd : d = 5 ∨ d = 6 ∨ d = 7) : Pair (lenN d) (thrT d) (perL (bitsL d 1) (lenN d)) (perL (bitsL d 2) (lenN d)) := by
 rcases hd with rfl | rfl | rfl
 ·exact pair5
 ·exact pair6
 ·exact pair7
theorem jjn {d : Int} {p : Nat} (hp : 1 ≤ p) (i : Nat) (hi : i < lenN d) : codeB d p i = mixB (perL (bitsL d 1) (lenN d)) (perL (bitsL d 2) (lenN d)) (decide (p ≠ 2)) (decide (p ≠ 1)) (p - 3) i := by
 unfold codeB mixB perL
 have h1 := jb6 (jbN (d := d) (w := 1)) i
 have h2 := jb6 (jbN (d := d) (w := 2)) i
 by_cases c1 : p = 1
 ·subst c1
  show (bitsL d 1).getD i 0 = ((bitsL d 1).getD (i % lenN d) 0 + 0) % 2
  rw [Nat.mod_eq_of_lt hi]; omega
 ·by_cases c2 : p = 2
  ·subst c2
   show (bitsL d 2).getD i 0 = (0 + (bitsL d 2).getD ((i + 0) % lenN d) 0) % 2
   rw [Nat.add_zero, Nat.mod_eq_of_lt hi]; omega
  ·rw [if_neg (by omega), if_neg (by omega), Nat.mod_eq_of_lt hi, show ((p : Int) - 3).toNat = p - 3 by omega]
   simp [c1, c2]
def prodS (d : Int) (p q k : Nat) : Int := isum (fun i => (codeL d p).getD i 0 * (codeL d q).getD ((i + k) % lenN d) 0) (lenN d)
theorem three {d : Int} (hd : d = 5 ∨ d = 6 ∨ d = 7) {p q k : Nat} (hp : 1 ≤ p ∧ p ≤ lenN d + 2) (hq : 1 ≤ q ∧ q ≤ lenN d + 2) (hk : k < lenN d) :
  (p = q ∧ k = 0 ∧ prodS d p q k = lenN d) ∨ (¬ (p = q ∧ k = 0) ∧ (prodS d p q k = -1 ∨ prodS d p q k = -thrT d ∨ prodS d p q k = thrT d - 2)) := by
 have P := jqi hd
 have hlen : 31 ≤ lenN d := by rcases hd with rfl | rfl | rfl <;> decide
 have hthr : thrT d = 9 ∨ thrT d = 17 := by unfold thrT; split <;> simp
 have h := joC P (decide (p ≠ 2)) (decide (p ≠ 1)) (decide (q ≠ 2)) (decide (q ≠ 1)) (p - 3) (q - 3) k (by by_cases c : p = 2 <;> simp [c]) (by by_cases c : q = 2 <;> simp [c])
 have e : prodS d p q k = isum (fun i => (1 - 2 * mixB (perL (bitsL d 1) (lenN d)) (perL (bitsL d 2) (lenN d)) (decide (p ≠ 2)) (decide (p ≠ 1)) (p - 3) i) * (1 - 2 * mixB (perL (bitsL d 1) (lenN d)) (perL (bitsL d 2) (lenN d)) (decide (q ≠ 2)) (decide (q ≠ 1)) (q - 3) (i + k))) (lenN d) := by
  refine jbH _ fun i hi => ?_
  have hm : (i + k) % lenN d < lenN d := Nat.mod_lt _ (by omega)
  rw [jeM hi, jeM hm, jjn hp.1 i hi, jjn hq.1 _ hm]
  congr 2
  unfold mixB perL
  rw [Nat.mod_mod, Nat.mod_add_mod]
 have hself : p = q → k = 0 → prodS d p q k = lenN d := by
  rintro rfl rfl
  have : prodS d p p 0 = isum (fun _ => 1) (lenN d) := jbH _ fun i hi => by
   have hm : (i + 0) % lenN d = i := Nat.mod_eq_of_lt (by omega)
   rw [hm, jeM hi]
   rcases jig d p i with h | h <;> rw [h] <;> rfl
  rw [this]
  have : ∀ m, isum (fun _ => 1) m = m := by
   intro m
   induction m with
   | zero => rfl
   | succ m ih => simp only [isum, ih]; omega
  exact this _
 by_cases c : p = q ∧ k = 0
 ·exact .inl ⟨c.1, c.2, hself c.1 c.2⟩
 ·refine .inr ⟨c, ?_⟩
  rw [e]
  rcases h with ⟨a1, a2, a3, a4, _⟩ | h
  ·exfalso
   apply c
   have e1 := decide_eq_decide.1 a1
   have e2 := decide_eq_decide.1 a2
   simp only [decide_eq_true_eq] at a3 a4
   have hkm : k % lenN d = k := Nat.mod_eq_of_lt hk
   by_cases p2 : p = 2
   ·have q2 : q = 2 := by omega
    have h4 := a4 (by omega)
    subst p2; subst q2
    simp only [show 2 - 3 = 0 from rfl, Nat.zero_mod, Nat.add_zero] at h4
    exact ⟨rfl, by omega⟩
   ·have hk0 : k = 0 := by have := a3 p2; omega
    by_cases p1 : p = 1
    ·exact ⟨by omega, hk0⟩
    ·have h4 := a4 p1
     have q1 : q ≠ 1 := by omega
     have q2 : q ≠ 2 := by omega
     rw [hk0, Nat.zero_add, Nat.mod_eq_of_lt (by omega), Nat.mod_eq_of_lt (by omega)] at h4
     exact ⟨by omega, hk0⟩
  ·exact h
section
variable {C : Ctx}
end
end Go.Ae
namespace Go.Ae
section
variable {C : Ctx}
end
end Go.Ae
namespace Go.Ae
def jqJ (d : Int) : Prop := d = 5 ∨ d = 6 ∨ d = 7
theorem jqJ.len {d : Int} (h : jqJ d) : lenOk d = true ∧ 31 ≤ lenN d ∧ lenN d ≤ 127 ∧ (thrT d = 9 ∨ (thrT d = 17 ∧ 63 ≤ lenN d)) := by
 rcases h with rfl | rfl | rfl <;> decide
/-! ### The examples -/
section
variable {C : Ctx}
end
end Go.Ae
namespace Go.Ae
theorem jjo {p : PlanP} {e : EmitP} (ok : EmOk p e) (n : Int) : inS 127000 (atV p e n) := by
 have am := ok.en.2.2.1
 have pm := ok.pn.2.2.2.2
 have cp := joA ok (ok.per n).1
 have bb := ok.bit (e.pl p n)
 have cl := jkp (jie e.ph e.st (e.pl p n))
 unfold atV inS
 dsimp only
 generalize chipI p e (n - e.sta p (e.pl p n)) = x at *
 generalize bitI p e (e.pl p n) = y at *
 generalize carP (phI e.ph e.st (e.pl p n)) = cc at *
 obtain ⟨c1, c2⟩ := cc
 dsimp only at *
 have q : ∃ g : Int, e.amp * x * (1 - 2 * y) = g ∧ -1000 ≤ g ∧ g ≤ 1000 := by
  refine ⟨_, rfl, ?_⟩
  rcases cp with rfl | rfl <;> rcases bb with rfl | rfl <;> omega
 obtain ⟨g, hg, g1, g2⟩ := q
 rw [hg]
 have h1 := jla (k := g) (s := c1) (K := 1000) (S := 127) ⟨g1, g2⟩ ⟨cl.1, cl.2.1⟩
 have h2 := jla (k := g) (s := c2) (K := 1000) (S := 127) ⟨g1, g2⟩ ⟨cl.2.2.1, cl.2.2.2⟩
 exact ⟨by omega, by omega⟩
theorem RI.apart {h : Heap} {v : AV} {l : List Int} {j : Nat} {vs : List AV} {wr : Bool} {u : Nat} (H : RI h v l) (hl : 0 < l.length) (h0 : l.getD 0 0 ≠ 0) (hg : h.get j = some (.cells vs wr u)) (hv : ∀ x ∈ vs, x = .int .i64 0) : j ∉ v.ids := by
 obtain ⟨_, _, ⟨rfl, h1⟩ | ⟨i, o, c, ws, wr', u', rfl, hg', hle, hc, _⟩⟩ := H
 ·simp [AV.ids]
 ·intro hj
  simp only [AV.ids, List.mem_singleton] at hj
  subst hj
  rw [hg] at hg'
  cases hg'
  have e : (ints l)[0]? = some (.int .i64 (l.getD 0 0)) := by simp [ints, hl]
  rw [← hc] at e
  have := hv _ (List.mem_of_mem_drop (List.mem_of_mem_take (List.mem_of_getElem? e)))
  injection this with _ q
  exact h0 q
theorem RI.lt_ids {h : Heap} {v : AV} {l : List Int} (H : RI h v l) : ∀ i ∈ v.ids, i < h.size := by
 obtain ⟨a, b, ⟨rfl, h1⟩ | ⟨i, o, c, ws, wr', u', rfl, hg', hle, hc, x⟩⟩ := H
 ·simp [AV.ids]
 ·intro j hj
  simp only [AV.ids, List.mem_singleton] at hj
  subst hj
  exact Heap.lt_of_get hg'
theorem RI.off {h h' : Heap} {v : AV} {l : List Int} (H : RI h v l) (hh : ∀ i ∈ v.ids, h'.get i = h.get i) : RI h' v l := by
 obtain ⟨a, b, ⟨rfl, h1⟩ | ⟨i, o, c, ws, wr', u', rfl, hg', hle, hc, x⟩⟩ := H
 ·exact ⟨a, b, .inl ⟨rfl, h1⟩⟩
 ·exact ⟨a, b, .inr ⟨i, o, c, ws, wr', u', rfl, (hh i (by simp [AV.ids])).trans hg', hle, hc, x⟩⟩
section
variable {C : Ctx}
end
end Go.Ae
namespace Go.Ae
theorem jqj {A B : Int} {x : Int × Int} (h : inS A x) (hB : A ≤ B) : inS B x := by unfold inS at *; omega
theorem jrU {A B : Int} {x y : Int × Int} (h : inS A x) (h' : inS B y) : inS (A + B) (addP x y) := by unfold inS addP at *; simp only; omega
theorem mul_one {x c B : Int} (hx : -B ≤ x ∧ x ≤ B) (hc : -1 ≤ c ∧ c ≤ 1) : -B ≤ x * c ∧ x * c ≤ B := by
 rcases (show c = -1 ∨ c = 0 ∨ c = 1 by omega) with rfl | rfl | rfl <;> omega
def ecell (q : EmitP × AV) : List AV := [.int .i64 q.1.prn, .int .i64 q.1.dl, .int .i64 q.1.rt, .int .u32 q.1.st, .int .u32 q.1.ph, .int .i64 q.1.amp, .int .i64 q.1.ba, q.2]
def eD : EmitP := ⟨0, 0, 0, 0, 0, 0, 0, []⟩
def emC (L : List (EmitP × AV)) : List AV := L.flatMap ecell
theorem jbS : ∀ L : List (EmitP × AV), (emC L).length = L.length * 8
 | [] => rfl
 | q :: L => by simp only [emC, List.flatMap_cons, List.length_append, List.length_cons]; rw [show (L.flatMap ecell).length = L.length * 8 from jbS L]; simp [ecell]; omega
theorem jlg : ∀ (L : List (EmitP × AV)) (i : Nat), (emC L).drop (i * 8) = emC (L.drop i)
 | L, 0 => by simp
 | [], i + 1 => by simp [emC]
 | q :: L, i + 1 => by
  have e : (emC (q :: L)).drop ((i + 1) * 8) = (emC L).drop (i * 8) := by
   show (ecell q ++ emC L).drop ((i + 1) * 8) = _
   rw [List.drop_append]
   have : (ecell q).length = 8 := rfl
   rw [this, List.drop_eq_nil_of_le (by rw [this]; omega), List.nil_append]
   congr 1; omega
  rw [e, jlg L i]; rfl
theorem jkz {L : List (EmitP × AV)} {i : Nat} (hi : i < L.length) : cut (emC L) (i * 8) 8 = ecell L[i] := by
 unfold cut
 rw [jlg, List.drop_eq_getElem_cons hi]
 show (ecell L[i] ++ emC (L.drop (i + 1))).take 8 = _
 rw [List.take_append]
 have : (ecell L[i]).length = 8 := rfl
 rw [this]; simp [ecell]
theorem jkA {L : List (EmitP × AV)} {i off : Nat} (hi : i < L.length) (ho : off < 8) : (emC L)[i * 8 + off]? = (ecell L[i])[off]? := by
 have e := jkz hi
 rw [← e]
 unfold cut
 rw [List.getElem?_take_of_lt ho, List.getElem?_drop]
def EmsI (h : Heap) (v : AV) (es : List EmitP) : Prop := ∃ L : List (EmitP × AV), L.map (·.1) = es ∧ SL h 8 v L.length (emC L) ∧ ∀ q ∈ L, RI h q.2 q.1.bits
theorem EmsI.mono {h h' : Heap} {v : AV} {es : List EmitP} (H : EmsI h v es) (hs : HSub h h') : EmsI h' v es := by
 obtain ⟨L, a, b, c⟩ := H
 exact ⟨L, a, b.mono hs, fun q hq => (c q hq).mono hs⟩
theorem EmsI.len {h : Heap} {v : AV} {es : List EmitP} (H : EmsI h v es) : lenA v = some (.int .i64 es.length) := by
 obtain ⟨L, rfl, b, _⟩ := H
 rw [List.length_map]; exact b.len
theorem EmsI.lt {h : Heap} {v : AV} {es : List EmitP} (H : EmsI h v es) : es.length < 9223372036854775808 := by
 obtain ⟨L, rfl, b, _⟩ := H
 rw [List.length_map]; exact b.lt
theorem EmsI.one {h : Heap} {v : AV} {es : List EmitP} (H : EmsI h v es) : v.one = true := by
 obtain ⟨L, rfl, b, _⟩ := H
 exact b.one
theorem EmsI.at {h : Heap} {v : AV} {es : List EmitP} (H : EmsI h v es) {i : Nat} (hi : i < es.length) : ∃ vb, idxA 8 v (.int .i64 (i : Nat)) = some (elA 8 v i) ∧
  (∀ h', HSub h h' → Ae.loadA h' true 8 (elA 8 v i) = some (emA (es.getD i eD) vb)) ∧ RI h vb (es.getD i eD).bits ∧ (∀ off : Nat, jbF off (elA 8 v i) = some (elF 8 v i off)) ∧
  (∀ h', HSub h h' → Ae.loadA h' false 1 (elF 8 v i 0) = some (.int .i64 (es.getD i eD).prn)) ∧ (∀ h', HSub h h' → Ae.loadA h' false 1 (elF 8 v i 1) = some (.int .i64 (es.getD i eD).dl)) := by
 obtain ⟨L, rfl, b, c⟩ := H
 rw [List.length_map] at hi
 have e : (L.map (·.1)).getD i eD = L[i].1 := by simp [List.getD_eq_getElem?_getD, hi]
 rw [e]
 refine ⟨L[i].2, b.idx ⟨by omega, by omega⟩, fun h' hs => ?_, c _ (List.getElem_mem hi), fun off => b.fldE i off hi, fun h' hs => ?_, fun h' hs => ?_⟩
 ·rw [(b.mono hs).loadA hi, jkz hi]; rfl
 ·rw [(b.mono hs).loadE hi (by decide), jkA hi (by decide)]; rfl
 ·rw [(b.mono hs).loadE hi (by decide), jkA hi (by decide)]; rfl
theorem EmsI.nil {h : Heap} : EmsI h .nilslice [] := ⟨[], rfl, ⟨rfl, by decide, .inl ⟨rfl, rfl⟩⟩, by simp⟩
def emsE (p : PlanP) (es : List EmitP) : Nat → Int
 | 0 => 0
 | k + 1 => if emsE p es k ≠ 0 then emsE p es k else if emitErr p (es.getD k eD) ≠ 0 then emitErr p (es.getD k eD) else if (∃ i, i < k ∧ (es.getD i eD).prn = (es.getD k eD).prn) then 8 else 0
theorem joF {p : PlanP} {es : List EmitP} {k n : Nat} (h : emsE p es k ≠ 0) (hk : k ≤ n) : emsE p es n = emsE p es k := by
 induction n with
 | zero =>
  obtain rfl : k = 0 := by omega
  rfl
 | succ n ih =>
  rcases Nat.lt_or_ge n k with c | c
  ·obtain rfl : k = n + 1 := by omega
   rfl
  ·have := ih c
   have e : emsE p es (n + 1) = if emsE p es n ≠ 0 then emsE p es n else if emitErr p (es.getD n eD) ≠ 0 then emitErr p (es.getD n eD) else if (∃ i, i < n ∧ (es.getD i eD).prn = (es.getD n eD).prn) then 8 else 0 := rfl
   rw [e, if_pos (by rw [this]; exact h), this]
theorem joG {p : PlanP} {es : List EmitP} : ∀ {n : Nat}, emsE p es n = 0 → ∀ k, k < n → emitErr p (es.getD k eD) = 0
 | 0, _, k, hk => absurd hk (Nat.not_lt_zero k)
 | n + 1, h, k, hk => by
  unfold emsE at h
  split at h
  ·contradiction
  ·rename_i c
   split at h
   ·contradiction
   ·rename_i c2
    rcases Nat.lt_or_ge k n with x | x
    ·exact joG (Classical.not_not.1 c) k x
    ·obtain rfl : k = n := by omega
     exact Classical.not_not.1 c2
def jbo (p : PlanP) (es : List EmitP) (ns : List (Int × Int)) (m : Int) : Int :=
 if p.err ≠ 0 then p.err else if 8 < es.length then 4 else if emsE p es es.length ≠ 0 then emsE p es es.length else if m < 0 ∨ 1048576 < m then 2 else if m < ns.length then 4 else if (∃ x ∈ ns, ¬ inS p.nz x) then 2 else 0
def scnV (p : PlanP) (es : List EmitP) (ns : List (Int × Int)) : Nat → Nat → Int × Int
 | 0, n => ns.getD n (0, 0)
 | k + 1, n => addP (scnV p es ns k n) (atV p (es.getD k eD) (n : Nat))
def scnL (p : PlanP) (es : List EmitP) (ns : List (Int × Int)) (k m : Nat) : List (Int × Int) := (List.range m).map (scnV p es ns k)
def scnP (p : PlanP) (es : List EmitP) (ns : List (Int × Int)) (k n m : Nat) : List (Int × Int) := (List.range m).map fun i => if i < n then scnV p es ns (k + 1) i else scnV p es ns k i
theorem jdt {p : PlanP} {es : List EmitP} {ns : List (Int × Int)} {k m : Nat} : (scnL p es ns k m).length = m := by simp [scnL]
theorem jkB {p : PlanP} {es : List EmitP} {ns : List (Int × Int)} {k n m : Nat} : (scnP p es ns k n m).length = m := by simp [scnP]
theorem joH {p : PlanP} {es : List EmitP} {ns : List (Int × Int)} {k m : Nat} : scnP p es ns k 0 m = scnL p es ns k m := by simp [scnP, scnL]
theorem jqk {p : PlanP} {es : List EmitP} {ns : List (Int × Int)} {k m : Nat} : scnP p es ns k m m = scnL p es ns (k + 1) m := by
 refine List.ext_getElem (by simp [scnP, scnL]) fun i h1 h2 => ?_
 have : i < m := by simpa [scnP] using h1
 simp [scnP, scnL, this]
theorem jql {p : PlanP} {es : List EmitP} {ns : List (Int × Int)} {k n m : Nat} (h : n < m) : (scnP p es ns k n m).getD n (0, 0) = scnV p es ns k n := by
 simp [scnP, List.getD_eq_getElem?_getD, h]
theorem jqm {p : PlanP} {es : List EmitP} {ns : List (Int × Int)} {k n m : Nat} (h : n < m) : (scnP p es ns k n m).set n (scnV p es ns (k + 1) n) = scnP p es ns k (n + 1) m := by
 refine List.ext_getElem (by simp [scnP]) fun i h1 h2 => ?_
 simp only [scnP, List.getElem_set, List.getElem_map, List.getElem_range]
 by_cases c : n = i
 ·subst c; simp
 ·rw [if_neg c]
  by_cases c2 : i < n
  ·rw [if_pos c2, if_pos (by omega)]
  ·rw [if_neg c2, if_neg (by omega)]
theorem joI {p : PlanP} {es : List EmitP} {ns : List (Int × Int)} {m : Nat} (h : ns.length ≤ m) : ns ++ List.replicate (m - ns.length) (0, 0) = scnL p es ns 0 m := by
 refine List.ext_getElem (by simp [scnL]; omega) fun i h1 h2 => ?_
 simp only [scnL, List.getElem_map, List.getElem_range, scnV]
 rw [List.getD_eq_getElem?_getD, List.getElem_append]
 split
 ·rename_i c; rw [List.getElem?_eq_getElem c]; rfl
 ·rename_i c; rw [List.getElem?_eq_none (by omega), List.getElem_replicate]; rfl
theorem jik {p : PlanP} {es : List EmitP} {ns : List (Int × Int)} (hn : p.numsOk) (hns : ∀ x ∈ ns, inS p.nz x) : ∀ (k n : Nat), (∀ i, i < k → EmOk p (es.getD i eD)) → inS (p.nz + 127000 * (k : Int)) (scnV p es ns k n)
 | 0, n, _ => by
  unfold scnV
  have nz := hn.2.2.2.2.2.2
  rcases Nat.lt_or_ge n ns.length with c | c
  ·have := hns _ (jk9 c)
   simpa using this
  ·rw [List.getD_eq_getElem?_getD, List.getElem?_eq_none c]
   unfold inS
   simp only [Option.getD_none]
   omega
 | k + 1, n, h => by
  have a := jik (ns := ns) hn hns k n (fun i hi => h i (by omega))
  have b := jjo (h k (by omega)) (n : Int)
  have q := jrU a b
  unfold scnV
  exact jqj q (by rw [Int.natCast_add]; omega)
theorem copy2 {h : Heap} {i n u : Nat} {c : Cap} {s : AV} {ns zs : List (Int × Int)} (hc : jan h 2 s = some (ns.length, smps ns)) (hg : h.get i = some (.cells (smps zs) true u)) (hz : zs.length = n) (hn : ns.length ≤ n) :
  copyA h 2 (.slice i 0 n c) s = some (.int .i64 (ns.length : Nat), h.put i (.cells (smps (ns ++ zs.drop ns.length)) true u)) := by
 have m : min ns.length n = ns.length := by omega
 have tk : (smps ns).take (ns.length * 2) = smps ns := List.take_of_length_le (by rw [jaW]; omega)
 have on : (smps ns).all AV.one = true := by
  simp only [List.all_eq_true]
  intro x hx
  unfold smps at hx
  obtain ⟨q, _, hq⟩ := List.mem_flatMap.1 hx
  simp only [List.mem_cons, List.not_mem_nil, or_false] at hq
  rcases hq with rfl | rfl <;> rfl
 have sp : splice (smps zs) 0 (smps ns) = smps (ns ++ zs.drop ns.length) := by
  rw [jhn (by rw [jaW, jaW]; omega)]
  rw [List.take_zero, List.nil_append, Nat.zero_add, jaW, jjg]
  simp [smps]
 simp only [copyA, hc, hg, m, tk, Nat.zero_add]
 rw [if_pos ⟨by rw [jaW]; omega, on⟩, sp]
theorem jsx {p : PlanP} {es : List EmitP} {ns : List (Int × Int)} {m x : Int} {h h' : Heap} (hx : jbo p es ns m = x) (h0 : x ≠ 0) (hs : HSub h h') :
  ∃ w, AV.tuple [.nilslice, .int .i64 x] = ja2 w (jbo p es ns m) ∧ HSub h h' ∧ SI h' w (if jbo p es ns m = 0 then scnL p es ns es.length m.toNat else []) ∧ ∀ i ∈ w.ids, h.size ≤ i := by
 refine ⟨.nilslice, by rw [hx]; rfl, hs, ?_, by simp [AV.ids]⟩
 rw [hx, if_neg h0]
 exact SI.nil
theorem jqn {p : PlanP} {es : List EmitP} {k : Nat} (hk : k < es.length) (h0 : emsE p es k = 0) (h : emitErr p (es.getD k eD) ≠ 0) : emsE p es es.length = emitErr p (es.getD k eD) := by
 have e : emsE p es (k + 1) = emitErr p (es.getD k eD) := by
  show (if emsE p es k ≠ 0 then emsE p es k else if emitErr p (es.getD k eD) ≠ 0 then emitErr p (es.getD k eD) else _) = _
  rw [if_neg (by rw [h0]; decide), if_pos h]
 rw [joF (k := k + 1) (by rw [e]; exact h) hk, e]
theorem jqo {p : PlanP} {es : List EmitP} {i k : Nat} (hk : k < es.length) (h0 : emsE p es k = 0) (h : emitErr p (es.getD k eD) = 0) (hi : i < k) (he : (es.getD i eD).prn = (es.getD k eD).prn) : emsE p es es.length = 8 := by
 have e : emsE p es (k + 1) = 8 := by
  show (if emsE p es k ≠ 0 then emsE p es k else if emitErr p (es.getD k eD) ≠ 0 then emitErr p (es.getD k eD) else if (∃ i, i < k ∧ (es.getD i eD).prn = (es.getD k eD).prn) then 8 else 0) = _
  rw [if_neg (by rw [h0]; decide), if_neg (by rw [h]; decide), if_pos ⟨i, hi, he⟩]
 rw [joF (k := k + 1) (by rw [e]; decide) hk, e]
theorem jjp {p : PlanP} {es : List EmitP} {k : Nat} (h0 : emsE p es k = 0) (h : emitErr p (es.getD k eD) = 0) (hn : ∀ i, i < k → (es.getD i eD).prn ≠ (es.getD k eD).prn) : emsE p es (k + 1) = 0 := by
 show (if emsE p es k ≠ 0 then emsE p es k else if emitErr p (es.getD k eD) ≠ 0 then emitErr p (es.getD k eD) else if (∃ i, i < k ∧ (es.getD i eD).prn = (es.getD k eD).prn) then 8 else 0) = _
 rw [if_neg (by rw [h0]; decide), if_neg (by rw [h]; decide), if_neg (fun ⟨i, a, b⟩ => hn i a b)]
section
variable {C : Ctx}
end
end Go.Ae
namespace Go.Ae
def P0 : PlanP := ⟨5, 2, 2, 2, 1, 10, 5, [1, 2]⟩
def E0 : EmitP := ⟨1, 3, 0, 0, 0, 2, 0, [0, 1]⟩
theorem k12a : madeErr P0 E0 1 = 0 ∧ E0.sta P0 1 = 65 ∧ madeErr P0 E0 2 = 0 ∧ E0.pl P0 2 = -1 ∧ 2 - E0.sta P0 (-1) = 61 ∧ madeErr P0 E0 13 = 0 ∧ atV P0 E0 13 = (254, 0) := by decide +kernel
theorem jrV : jcN P0 E0 1 = tup2 65 0 := by unfold jcN; rw [if_pos k12a.1, k12a.2.1]
theorem jrW : jdS P0 E0 2 = tupI3 (-1) 61 0 := by unfold jdS; rw [if_pos k12a.2.2.1, k12a.2.2.2.1, k12a.2.2.2.2.1]
theorem k_at : atE P0 E0 13 = .tuple [smp (254, 0), .int .i64 0] := by unfold atE; rw [if_pos k12a.2.2.2.2.2.1, k12a.2.2.2.2.2.2]
theorem P0_64 : P0.ok64 := by unfold PlanP.ok64 P0 In64; simp
theorem E0_64 : E0.ok64 := by unfold EmitP.ok64 E0 In64 U32; simp
section
variable {C : Ctx}
theorem jjq (hC : Has C T233) {h : Heap} : ACalls C 233 [] h (fun r h' => HSub h h' ∧ PlI h' r P0) := by
 unfold PlI P0
 refine zf hC tab233 ?_; simp only [B233, zB.1]; refine zs ?_
 refine ⟨(zh (HSub.refl h)), _, rfl, RI.known (wr := true) (u := 0) (i := h.size + 1) ?_ ⟨rfl, by decide⟩ (Nat.le_refl _)⟩
 refine zs ?_
 rfl
theorem jgt (hC : Has C T234) {h : Heap} : ACalls C 234 [] h (fun r h' => HSub h h' ∧ EmI h' r E0) := by
 unfold EmI E0
 refine zf hC tab234 ?_; simp only [B234, zB.1]; refine zs ?_
 refine ⟨(zh (HSub.refl h)), _, rfl, RI.known (wr := true) (u := 0) (i := h.size + 1) ?_ ⟨rfl, by decide⟩ (Nat.le_refl _)⟩
 refine zs ?_
 rfl
set_option maxHeartbeats 1000000 in
theorem jil (hC : Has C T218) {h : Heap} : ACalls C 218 [] h (fun r h' => r = .bool true ∧ h' = h) := by
 refine ACalls.gc0 (P := fun r h' => r = .bool true ∧ HSub h h') ?_ (fun r h' hp => ⟨by rw [hp.1]; trivial, hp.2, hp.1, rfl⟩)
 have kp := fun h => jjq (zu hC T233) (h := h)
 have ke := fun h => jgt (zu hC T234) (h := h)
 have k1 := fun v w h1 (hp : PlI h1 v P0) (he : EmI h1 w E0) => jhp (zu hC T221) (n := 1) hp he P0_64 E0_64 (by unfold In64; omega)
 have k2 := fun v w h1 (hp : PlI h1 v P0) (he : EmI h1 w E0) => jhq (zu hC T225) (n := 2) hp he P0_64 E0_64 (by unfold In64; omega)
 have k3 := fun v w h1 (hp : PlI h1 v P0) (he : EmI h1 w E0) => jkv (zu hC T229) (n := 13) hp he P0_64 E0_64 (by unfold In64; omega)
 simp only [jrV] at k1
 simp only [jrW] at k2
 simp only [k_at] at k3
 unfold smp at k3
 dsimp only at k3
 refine zf hC tab218 ?_; simp only [B218, zB.1]; refine zs ?_
 refine jaa.of (kp _) ?_
 rintro v1 h1 ⟨s1, p1⟩
 refine zs ?_
 refine jaa.of (ke _) ?_
 rintro w1 h2 ⟨s2, q1⟩
 refine zs ?_
 refine jaa.eq (k1 _ _ _ (p1.mono s2) q1) ?_
 refine zs1 @tup2.eq_1 ?_
 refine jaa.of (kp _) ?_
 rintro v2 h3 ⟨s3, p2⟩
 refine zs ?_
 refine jaa.of (ke _) ?_
 rintro w2 h4 ⟨s4, q2⟩
 refine zs ?_
 refine jaa.eq (k2 _ _ _ (p2.mono s4) q2) ?_
 refine zs1 @tupI3.eq_1 ?_
 refine jaa.of (kp _) ?_
 rintro v3 h5 ⟨s5, p3⟩
 refine zs ?_
 refine jaa.of (ke _) ?_
 rintro w3 h6 ⟨s6, q3⟩
 refine zs ?_
 refine jaa.eq (k3 _ _ _ (p3.mono s6) q3) ?_
 refine zs1 @jjh ?_
 exact ((((((s1.trans s2).trans s3).trans s4).trans s5).trans s6).push _)
end
end Go.Ae
namespace Go.Ae
theorem jgu {n : Nat} {xs : List AV} {wr : Bool} {u : Nat} (h : xs.length = n) : contB 1 n 0 (some (.cells xs wr u)) = some (1, xs) := by
 unfold contB
 simp [cut, h, List.take_of_length_le (Nat.le_of_eq h)]
section
variable {C : Ctx}
theorem jfw (hC : Has C T253) {p e : EmitP} {vb wb : AV} {b : Nat} {h : Heap} (w1 : wb.one = true) (hg : h.get b = some (.cells [.int .i64 e.prn, .int .i64 e.dl, .int .i64 e.rt, .int .u32 e.st, .int .u32 e.ph, .int .i64 e.amp, .int .i64 e.ba, vb] true 0)) :
  ACalls C 253 [emA p wb, .ptr b 0] h (fun r h' => r = .bool (decide (p.prn = e.prn)) ∧ h' = h) := by
 refine ACalls.gc0 (P := fun r h' => r = .bool (decide (p.prn = e.prn)) ∧ HSub h h') ?_ (fun r h' hp => ⟨by rw [hp.1]; trivial, hp.2, hp.1, rfl⟩)
 have hb := Heap.lt_of_get hg
 unfold emA
 refine zf hC tab253 ?_; simp only [B253, zB.1]; refine zs1 @hg ?_
 exact HSub.push1 _ _
theorem jfx (hC : Has C T252) {f : AV} {b c o : Nat} {h : Heap} : ACalls C 252 [.slice b o 0 (.known c), f] h (fun r h' => r = .bool false ∧ h' = h) := by
 have hI : ACalls C 259 [.slice b o 0 (.known c), f] h (fun r h' => r = .int .i64 (-1) ∧ h' = h) := by
  have hC' : Has C T259 := (zu hC T259)
  have hC := hC'
  refine zf hC tab259 ?_; simp only [B259, zB.1]; refine zs ?_
  refine jaA (fun j t h' => h' = h ∧ t 7 = .int .i64 0 ∧ t 8 = .int .i64 0 ∧ j = 0) (j0 := 0) ⟨rfl, rfl, rfl, rfl⟩ ?_
  rintro j t h1 ⟨rfl, e7, e8, hj⟩
  exact ze2 @e7 @e8
 refine zf hC tab252 ?_; simp only [B252, zB.1]; refine zs ?_
 refine jaa.eq hI ?_
 exact ze
theorem jkC (hC : Has C T252) (hS : Has C T253) {b c n : Nat} {e : EmitP} {vb wb : AV} {h : Heap} (hn : 1 ≤ n) (w1 : wb.one = true) (hg : h.get b = some (.cells ([.int .i64 e.prn, .int .i64 e.dl, .int .i64 e.rt, .int .u32 e.st, .int .u32 e.ph, .int .i64 e.amp, .int .i64 e.ba, wb] ++ [.int .i64 e.prn, .int .i64 e.dl, .int .i64 e.rt, .int .u32 e.st, .int .u32 e.ph, .int .i64 e.amp, .int .i64 e.ba, wb]) true 0))
  (hc : h.get c = some (.cells [.int .i64 e.prn, .int .i64 e.dl, .int .i64 e.rt, .int .u32 e.st, .int .u32 e.ph, .int .i64 e.amp, .int .i64 e.ba, vb] true 0)) : ACalls C 252 [.slice b 0 1 (.known n), .func 253 [] [.ptr c 0]] h (fun r h' => r = .bool true ∧ h' = h) := by
 have ks := jfw hS (p := e) (e := e) w1 hc
 rw [decide_eq_true rfl] at ks
 unfold emA at ks
 have hI : ACalls C 259 [.slice b 0 1 (.known n), .func 253 [] [.ptr c 0]] h (fun r h' => r = .int .i64 0 ∧ h' = h) := by
  have hC' : Has C T259 := (zu hC T259)
  have hC := hC'
  refine zf hC tab259 ?_; simp only [B259, zB.1]; refine zs ?_
  refine jaA (fun j t h' => h' = h ∧ t 0 = .slice b 0 1 (.known n) ∧ t 1 = .func 253 [] [.ptr c 0] ∧ t 7 = .int .i64 1 ∧ t 8 = .int .i64 0 ∧ j = 0) (j0 := 0) ⟨rfl, rfl, rfl, rfl, rfl, rfl⟩ ?_
  rintro j t h1 ⟨rfl, e0, e1, e7, e8, hj⟩
  refine zs5 @e0 @e1 @e7 @e8 @hg ?_
  refine jaa.eq ks ?_
  exact ze
 refine zf hC tab252 ?_; simp only [B252, zB.1]; refine zs ?_
 refine jaa.eq hI ?_
 exact ze
theorem jea (hC : Has C T255) {v : AV} {l : List (Int × Int)} {g : Nat} {cs : List AV} {P : Int × Int → Prop} [DecidablePred P] {h : Heap} (hg : ∀ p, ACalls C g ([smp p] ++ cs) h (fun r h' => r = .bool (!decide (P p)) ∧ h' = h)) (hl : SI h v l) :
  ACalls C 255 [v, .func g [] cs] h (fun r h' => r = .bool (!decide (∀ x ∈ l, P x)) ∧ h' = h) := by
 have hlt := hl.lt
 have hI : ACalls C 260 [v, .func g [] cs] h (fun r h' => (∃ i : Int, r = .int .i64 i ∧ -1 ≤ i ∧ (0 ≤ i ↔ ¬ ∀ x ∈ l, P x)) ∧ h' = h) := by
  have hC' : Has C T260 := (zu hC T260)
  have hC := hC'
  refine zf hC tab260 ?_; simp only [B260, zB.1]; refine zs1 @hl.len ?_
  refine jaA (fun j t h' => h' = h ∧ ∃ k : Nat, t 0 = v ∧ t 1 = .func g [] cs ∧ t 7 = .int .i64 (l.length : Nat) ∧ t 8 = .int .i64 (k : Nat) ∧ (∀ i, i < k → P (l.getD i (0, 0))) ∧ k ≤ l.length ∧ j = l.length - k) (j0 := l.length)
   ⟨rfl, 0, rfl, rfl, rfl, rfl, fun i hi => by omega, by omega, rfl⟩ ?_
  rintro j t h1 ⟨rfl, k, e0, e1, e7, e8, hp, hk, hj⟩
  refine zs2 @e7 @e8 ?_
  refine Br.by (fun c => ?_) (fun c => ?_)
  ·have hk' : k < l.length := by omega
   have ld := hl.loadA hk'
   have hg := hg (l.getD k (0, 0))
   refine zs5 @e0 @e1 @e8 @hl.idx @ld ?_
   refine jaa.eq hg ?_
   by_cases c2 : P (l.getD k (0, 0))
   ·refine zs5 @c2 @e0 @e1 @e7 @e8 ?_
    refine ⟨_, ⟨k + 1, by simp, fun i hi => ?_, by omega, rfl⟩, by omega⟩
    rcases Nat.lt_or_ge i k with x | x
    ·exact hp i x
    ·have : i = k := by omega
     subst this; exact c2
   ·refine zs5 @c2 @e0 @e1 @e7 @e8 ?_
    refine ⟨by omega, ⟨fun _ q => c2 (q _ (jk9 hk')), fun _ => by omega⟩⟩
  ·have ek : k = l.length := by omega
   refine zs ?_
   refine ⟨fun q => q.elim, fun q => absurd (fun x hx => ?_) q⟩
   obtain ⟨i, hi, rfl⟩ := List.getElem_of_mem hx
   have := hp i (by omega)
   rwa [List.getD_eq_getElem?_getD, List.getElem?_eq_getElem hi] at this
 refine zf hC tab255 ?_; simp only [B255, zB.1]; refine zs ?_
 refine jaa.of hI ?_
 rintro r h1 ⟨⟨i, rfl, h1, h2⟩, rfl⟩
 refine zs ?_
 by_cases c : ∀ x ∈ l, P x
 ·rw [decide_eq_true c]
  have : ¬ 0 ≤ i := fun q => h2.1 q c
  simp [this]
 ·rw [decide_eq_false c]
  have : 0 ≤ i := h2.2 c
  simp [this]
set_option maxHeartbeats 2000000 in
set_option maxRecDepth 20000 in
theorem jkD (hC : Has C T231) {vp wb : AV} {p : PlanP} {e : EmitP} {b : Nat} {h : Heap} (R : RI h vp p.prns) (h64 : p.ok64) (B : RI h wb e.bits) (h65 : e.ok64) (hm : madeErr p e 0 = 0) (hg : h.get b = some (.cells ([.int .i64 e.prn, .int .i64 e.dl, .int .i64 e.rt, .int .u32 e.st, .int .u32 e.ph, .int .i64 e.amp, .int .i64 e.ba, wb] ++ [.int .i64 e.prn, .int .i64 e.dl, .int .i64 e.rt, .int .u32 e.st, .int .u32 e.ph, .int .i64 e.amp, .int .i64 e.ba, wb]) true 0)) :
  ACalls C 231 [plA p vp, .slice b 0 2 (.known 2), .nilslice, .int .i64 1] h (fun r h' => HSub h h' ∧ r = .tuple [.nilslice, .int .i64 8]) := by
 have v1 := R.one
 have w1 := B.one
 have hb := Heap.lt_of_get hg
 have ok := jfj hm
 have pz : p.err = 0 := by
  unfold madeErr emitErr at hm
  by_cases c : p.err = 0
  ·exact c
  ·rw [if_neg c, if_neg c] at hm; omega
 have kP := fun h1 (q : HSub h h1) => jcc (zu hC T219) (v := plA p vp) (p := p) ⟨vp, rfl, R.mono q⟩ h64
 rw [pz] at kP
 have kM := fun h1 (q : HSub h h1) => jbR (zu hC T238) (v := plA p vp) (w := emA e wb) (p := p) (e := e) (n := 0) ⟨vp, rfl, R.mono q⟩ ⟨wb, rfl, B.mono q⟩ h64 h65 (by unfold In64; omega)
 rw [hm] at kM
 have kN := fun b c o f h => jfx (zu hC T252) (b := b) (c := c) (o := o) (f := f) (h := h)
 have kO := fun c h1 (q : HSub h h1) (hc : h1.get c = some (.cells [.int .i64 e.prn, .int .i64 e.dl, .int .i64 e.rt, .int .u32 e.st, .int .u32 e.ph, .int .i64 e.amp, .int .i64 e.ba, wb] true 0)) => jkC (zu hC T252) (zu hC T253) (n := 2) (vb := wb) (by omega) w1 ((q.get b hb).trans hg) hc
 have s20 : ∀ h1, jaX h1 8 (.slice b 0 2 (.known 2)) none (some (.int .i64 0)) none = some (.slice b 0 0 (.known 2)) := fun h1 => rfl
 have s21 : ∀ h1, jaX h1 8 (.slice b 0 2 (.known 2)) none (some (.int .i64 1)) none = some (.slice b 0 1 (.known 2)) := fun h1 => rfl
 unfold plA at kP kM
 unfold emA at kM
 unfold plA
 refine zf hC tab231 ?_; simp only [B231, zB.1]; refine zs ?_
 refine jaa.eq (kP _ (zh (HSub.refl h))) ?_
 refine zs ?_
 refine jaA (fun j t h' => HSub h h' ∧ h.size + 1 < h'.size ∧ h'.get h.size = some (.cells [.int .i64 p.d, .int .i64 p.o, .int .i64 p.pb, .int .i64 p.w, .int .i64 p.mn, .int .i64 p.mx, .int .i64 p.nz, vp] true 0) ∧ t 1 = .slice b 0 2 (.known 2) ∧ t 4 = .ptr h.size 0 ∧ t 31 = .slice b 0 2 (.known 2) ∧ t 32 = .int .i64 2 ∧ ((t 33 = .int .i64 0 ∧ t 11 = .nilslice ∧ j = 2) ∨ (t 33 = .int .i64 1 ∧ j = 1))) (j0 := 2)
  ⟨(zh (HSub.refl h)), by simp, by exact ze, rfl, rfl, rfl, rfl, .inl ⟨rfl, rfl, rfl⟩⟩ ?_
 rintro j t h1 ⟨s1, hz, gp, e1, e4, e31, e32, hor⟩
 have hg1 := (s1.get b hb).trans hg
 rcases hor with ⟨e33, e11, rfl⟩ | ⟨e33, rfl⟩
 ·refine zs7 @e1 @e4 @e31 @e32 @e33 @hg1 @gp ?_
  refine jaa.of (kM _ (zh s1)) ?_
  rintro r h2 ⟨s2, x, rfl, g0, g1⟩
  have g1 := g1 rfl
  obtain ⟨vp', vb', vc, q1, q2, rfl, R', B', W⟩ := g1
  have x1 := R'.one
  have x2 := B'.one
  have x3 := W.one
  have sz2 := s2.size
  simp only [Heap.size_push] at sz2
  have s12 := s1.trans ((HSub.push1 h1 (.cells [.int .i64 e.prn, .int .i64 e.dl, .int .i64 e.rt, .int .u32 e.st, .int .u32 e.ph, .int .i64 e.amp, .int .i64 e.ba, wb] true 0)).trans s2)
  have gp2 : h2.get h.size = some (.cells [.int .i64 p.d, .int .i64 p.o, .int .i64 p.pb, .int .i64 p.w, .int .i64 p.mn, .int .i64 p.mx, .int .i64 p.nz, vp] true 0) := (s2.get _ (by simp only [Heap.size_push]; omega)).trans (by exact ze1 @gp)
  have ge2 : h2.get h1.size = some (.cells [.int .i64 e.prn, .int .i64 e.dl, .int .i64 e.rt, .int .u32 e.st, .int .u32 e.ph, .int .i64 e.amp, .int .i64 e.ba, wb] true 0) := (s2.get _ (by simp)).trans (by exact ze)
  unfold srcA
  have sb := fun (H : Heap) (i : Nat) => jbj (H := H) (i := i) (n := 17) (x := .int .i64 e.prn) (y := .int .i64 e.dl) (xs := [.int .i64 e.rt, .int .u32 e.st, .int .u32 e.ph, .int .i64 e.amp, .int .i64 e.ba, vb', .int .i64 p.d, .int .i64 p.o, .int .i64 p.pb, .int .i64 p.w, .int .i64 p.mn, .int .i64 p.mx, .int .i64 p.nz, vp', vc]) (vs := [.int .i64 0, .int .i64 0, .int .i64 0, .int .u32 0, .int .u32 0, .int .i64 0, .int .i64 0, .nilslice, .int .i64 0, .int .i64 0, .int .i64 0, .int .i64 0, .int .i64 0, .int .i64 0, .int .i64 0, .nilslice, .nilslice]) rfl rfl (by simp [jcC, x1, x2, x3])
  have cb := fun wr u => jgu (n := 17) (xs := [.int .i64 e.prn, .int .i64 e.dl, .int .i64 e.rt, .int .u32 e.st, .int .u32 e.ph, .int .i64 e.amp, .int .i64 e.ba, vb', .int .i64 p.d, .int .i64 p.o, .int .i64 p.pb, .int .i64 p.w, .int .i64 p.mn, .int .i64 p.mx, .int .i64 p.nz, vp', vc]) (wr := wr) (u := u) rfl
  have an := fun (H : Heap) (bts : Nat) (hb : 1 * bts ≤ 1099511627776) => jh1 (h := H) (sz := 17) (bytes := bts) (m := 1) (news := [.int .i64 e.prn, .int .i64 e.dl, .int .i64 e.rt, .int .u32 e.st, .int .u32 e.ph, .int .i64 e.amp, .int .i64 e.ba, vb', .int .i64 p.d, .int .i64 p.o, .int .i64 p.pb, .int .i64 p.w, .int .i64 p.mn, .int .i64 p.mx, .int .i64 p.nz, vp', vc]) (by decide) hb
  refine zs4 @sb @e1 @e4 @s20 ?_
  refine jaa.eq (kN _ _ _ _ _) ?_
  refine zs10 @jby @cb @an @e1 @e4 @e11 @e31 @e32 @e33 @gp2 ?_
  exact ⟨1, ⟨(zh s12), by omega, .inr rfl⟩, by decide⟩
 ·refine zs7 @e1 @e4 @e31 @e32 @e33 @hg1 @gp ?_
  refine jaa.of (kM _ (zh s1)) ?_
  rintro r h2 ⟨s2, x, rfl, g0, g1⟩
  have g1 := g1 rfl
  obtain ⟨vp', vb', vc, q1, q2, rfl, R', B', W⟩ := g1
  have x1 := R'.one
  have x2 := B'.one
  have x3 := W.one
  have sz2 := s2.size
  simp only [Heap.size_push] at sz2
  have s12 := s1.trans ((HSub.push1 h1 (.cells [.int .i64 e.prn, .int .i64 e.dl, .int .i64 e.rt, .int .u32 e.st, .int .u32 e.ph, .int .i64 e.amp, .int .i64 e.ba, wb] true 0)).trans s2)
  have gp2 : h2.get h.size = some (.cells [.int .i64 p.d, .int .i64 p.o, .int .i64 p.pb, .int .i64 p.w, .int .i64 p.mn, .int .i64 p.mx, .int .i64 p.nz, vp] true 0) := (s2.get _ (by simp only [Heap.size_push]; omega)).trans (by exact ze1 @gp)
  have ge2 : h2.get h1.size = some (.cells [.int .i64 e.prn, .int .i64 e.dl, .int .i64 e.rt, .int .u32 e.st, .int .u32 e.ph, .int .i64 e.amp, .int .i64 e.ba, wb] true 0) := (s2.get _ (by simp)).trans (by exact ze)
  unfold srcA
  have sb := fun (H : Heap) (i : Nat) => jbj (H := H) (i := i) (n := 17) (x := .int .i64 e.prn) (y := .int .i64 e.dl) (xs := [.int .i64 e.rt, .int .u32 e.st, .int .u32 e.ph, .int .i64 e.amp, .int .i64 e.ba, vb', .int .i64 p.d, .int .i64 p.o, .int .i64 p.pb, .int .i64 p.w, .int .i64 p.mn, .int .i64 p.mx, .int .i64 p.nz, vp', vc]) (vs := [.int .i64 0, .int .i64 0, .int .i64 0, .int .u32 0, .int .u32 0, .int .i64 0, .int .i64 0, .nilslice, .int .i64 0, .int .i64 0, .int .i64 0, .int .i64 0, .int .i64 0, .int .i64 0, .int .i64 0, .nilslice, .nilslice]) rfl rfl (by simp [jcC, x1, x2, x3])
  refine zs4 @sb @e1 @e4 @s21 ?_
  refine jaa.eq (kO _ _ (zh s12) ?_) ?_
  ·exact ze1 @ge2
  refine zs ?_
  exact (zh s12)
theorem jfy (hC : Has C T254) {q : Int × Int} {p : PlanP} {vp : AV} {a : Nat} {h : Heap} (hnz : 0 ≤ p.nz ∧ p.nz ≤ 100000) (v1 : vp.one = true) (hg : h.get a = some (.cells [.int .i64 p.d, .int .i64 p.o, .int .i64 p.pb, .int .i64 p.w, .int .i64 p.mn, .int .i64 p.mx, .int .i64 p.nz, vp] true 0)) :
  ACalls C 254 ([smp q] ++ [.ptr a 0]) h (fun r h' => r = .bool (!decide (inS p.nz q)) ∧ h' = h) := by
 refine ACalls.gc0 (P := fun r h' => r = .bool (!decide (inS p.nz q)) ∧ HSub h h') ?_ (fun r h' hp => ⟨by rw [hp.1]; trivial, hp.2, hp.1, rfl⟩)
 have ha := Heap.lt_of_get hg
 obtain ⟨x, y⟩ := q
 unfold smp inS
 by_cases c1 : p.nz < max x y
 ·refine zf hC tab254 ?_; simp only [B254, zB.1]; refine zs3 @hg @gV_u @c1 ?_
  exact ⟨by congr 1; rw [eq_comm, Bool.not_eq_true']; apply decide_eq_false; omega, HSub.push1 _ _⟩
 ·by_cases c2 : min x y < 0 - p.nz
  ·refine zf hC tab254 ?_; simp only [B254, zB.1]; refine zs4 @hg @gV_u @c1 @c2 ?_
   exact ⟨by congr 1; rw [eq_comm, Bool.not_eq_true']; apply decide_eq_false; omega, HSub.push1 _ _⟩
  ·refine zf hC tab254 ?_; simp only [B254, zB.1]; refine zs4 @hg @gV_u @c1 @c2 ?_
   exact ⟨by congr 1; rw [eq_comm, Bool.not_eq_false']; apply decide_eq_true; omega, HSub.push1 _ _⟩
set_option maxHeartbeats 2000000 in
set_option maxRecDepth 20000 in
theorem joJ (hC : Has C T231) {vp wb : AV} {p : PlanP} {e : EmitP} {b nb : Nat} {h : Heap} (R : RI h vp p.prns) (h64 : p.ok64) (B : RI h wb e.bits) (h65 : e.ok64) (hm : madeErr p e 0 = 0) (hnz : 0 ≤ p.nz ∧ p.nz ≤ 5) (hg : h.get b = some (.cells [.int .i64 e.prn, .int .i64 e.dl, .int .i64 e.rt, .int .u32 e.st, .int .u32 e.ph, .int .i64 e.amp, .int .i64 e.ba, wb] true 0)) (hno : h.get nb = some (.cells [.int .i64 6, .int .i64 0] true 0)) :
  ACalls C 231 [plA p vp, .slice b 0 1 (.known 1), .slice nb 0 1 (.known 1), .int .i64 1] h (fun r h' => HSub h h' ∧ r = .tuple [.nilslice, .int .i64 2]) := by
 have v1 := R.one
 have w1 := B.one
 have hb := Heap.lt_of_get hg
 have ok := jfj hm
 have hnb := Heap.lt_of_get hno
 have pz : p.err = 0 := by
  unfold madeErr emitErr at hm
  by_cases c : p.err = 0
  ·exact c
  ·rw [if_neg c, if_neg c] at hm; omega
 have kP := fun h1 (q : HSub h h1) => jcc (zu hC T219) (v := plA p vp) (p := p) ⟨vp, rfl, R.mono q⟩ h64
 rw [pz] at kP
 have kM := fun h1 (q : HSub h h1) => jbR (zu hC T238) (v := plA p vp) (w := emA e wb) (p := p) (e := e) (n := 0) ⟨vp, rfl, R.mono q⟩ ⟨wb, rfl, B.mono q⟩ h64 h65 (by unfold In64; omega)
 rw [hm] at kM
 have kN := fun b c o f h => jfx (zu hC T252) (b := b) (c := c) (o := o) (f := f) (h := h)
 have s20 : ∀ h1, jaX h1 8 (.slice b 0 1 (.known 1)) none (some (.int .i64 0)) none = some (.slice b 0 0 (.known 1)) := fun h1 => rfl
 unfold plA at kP kM
 unfold emA at kM
 unfold plA
 refine zf hC tab231 ?_; simp only [B231, zB.1]; refine zs ?_
 refine jaa.eq (kP _ (zh (HSub.refl h))) ?_
 refine zs ?_
 refine jaA (fun j t h' => HSub h h' ∧ h.size + 1 < h'.size ∧ h'.get (h.size + 1) = some (.cells [.int .i64 1] true 0) ∧ h'.get h.size = some (.cells [.int .i64 p.d, .int .i64 p.o, .int .i64 p.pb, .int .i64 p.w, .int .i64 p.mn, .int .i64 p.mx, .int .i64 p.nz, vp] true 0) ∧ t 2 = .slice nb 0 1 (.known 1) ∧ t 7 = .ptr (h.size + 1) 0 ∧ t 1 = .slice b 0 1 (.known 1) ∧ t 4 = .ptr h.size 0 ∧ t 31 = .slice b 0 1 (.known 1) ∧ t 32 = .int .i64 1 ∧ ((t 33 = .int .i64 0 ∧ t 11 = .nilslice ∧ j = 2) ∨ (t 33 = .int .i64 1 ∧ j = 1))) (j0 := 2)
  ⟨(zh (HSub.refl h)), by simp, by exact ze, by exact ze, rfl, rfl, rfl, rfl, rfl, rfl, .inl ⟨rfl, rfl, rfl⟩⟩ ?_
 rintro j t h1 ⟨s1, hz, gm, gp, e2, e7, e1, e4, e31, e32, hor⟩
 have hg1 := (s1.get b hb).trans hg
 rcases hor with ⟨e33, e11, rfl⟩ | ⟨e33, rfl⟩
 ·refine zs7 @e1 @e4 @e31 @e32 @e33 @hg1 @gp ?_
  refine jaa.of (kM _ (zh s1)) ?_
  rintro r h2 ⟨s2, x, rfl, g0, g1⟩
  have g1 := g1 rfl
  obtain ⟨vp', vb', vc, q1, q2, rfl, R', B', W⟩ := g1
  have x1 := R'.one
  have x2 := B'.one
  have x3 := W.one
  have sz2 := s2.size
  simp only [Heap.size_push] at sz2
  have s12 := s1.trans ((HSub.push1 h1 (.cells [.int .i64 e.prn, .int .i64 e.dl, .int .i64 e.rt, .int .u32 e.st, .int .u32 e.ph, .int .i64 e.amp, .int .i64 e.ba, wb] true 0)).trans s2)
  have gp2 : h2.get h.size = some (.cells [.int .i64 p.d, .int .i64 p.o, .int .i64 p.pb, .int .i64 p.w, .int .i64 p.mn, .int .i64 p.mx, .int .i64 p.nz, vp] true 0) := (s2.get _ (by simp only [Heap.size_push]; omega)).trans (by exact ze1 @gp)
  have gm2 : h2.get (h.size + 1) = some (.cells [.int .i64 1] true 0) := (s2.get _ (by simp only [Heap.size_push]; omega)).trans (by exact ze1 @gm)
  have ge2 : h2.get h1.size = some (.cells [.int .i64 e.prn, .int .i64 e.dl, .int .i64 e.rt, .int .u32 e.st, .int .u32 e.ph, .int .i64 e.amp, .int .i64 e.ba, wb] true 0) := (s2.get _ (by simp)).trans (by exact ze)
  unfold srcA
  have sb := fun (H : Heap) (i : Nat) => jbj (H := H) (i := i) (n := 17) (x := .int .i64 e.prn) (y := .int .i64 e.dl) (xs := [.int .i64 e.rt, .int .u32 e.st, .int .u32 e.ph, .int .i64 e.amp, .int .i64 e.ba, vb', .int .i64 p.d, .int .i64 p.o, .int .i64 p.pb, .int .i64 p.w, .int .i64 p.mn, .int .i64 p.mx, .int .i64 p.nz, vp', vc]) (vs := [.int .i64 0, .int .i64 0, .int .i64 0, .int .u32 0, .int .u32 0, .int .i64 0, .int .i64 0, .nilslice, .int .i64 0, .int .i64 0, .int .i64 0, .int .i64 0, .int .i64 0, .int .i64 0, .int .i64 0, .nilslice, .nilslice]) rfl rfl (by simp [jcC, x1, x2, x3])
  have cb := fun wr u => jgu (n := 17) (xs := [.int .i64 e.prn, .int .i64 e.dl, .int .i64 e.rt, .int .u32 e.st, .int .u32 e.ph, .int .i64 e.amp, .int .i64 e.ba, vb', .int .i64 p.d, .int .i64 p.o, .int .i64 p.pb, .int .i64 p.w, .int .i64 p.mn, .int .i64 p.mx, .int .i64 p.nz, vp', vc]) (wr := wr) (u := u) rfl
  have an := fun (H : Heap) (bts : Nat) (hb : 1 * bts ≤ 1099511627776) => jh1 (h := H) (sz := 17) (bytes := bts) (m := 1) (news := [.int .i64 e.prn, .int .i64 e.dl, .int .i64 e.rt, .int .u32 e.st, .int .u32 e.ph, .int .i64 e.amp, .int .i64 e.ba, vb', .int .i64 p.d, .int .i64 p.o, .int .i64 p.pb, .int .i64 p.w, .int .i64 p.mn, .int .i64 p.mx, .int .i64 p.nz, vp', vc]) (by decide) hb
  refine zs4 @sb @e1 @e4 @s20 ?_
  refine jaa.eq (kN _ _ _ _ _) ?_
  simp -implicitDefEqProofs (disch := first | exact zd | fail) only [↓wpPre, jbb, jbc, Int.reduceToNat, Int.reducePow, Int.reduceMul, Int.reduceAdd, Int.reduceSub, Int.reduceNeg, Nat.reduceAdd, Nat.reduceMul, Nat.reducePow, Int.reduceLT, Int.reduceLE, Int.reduceEq, Nat.reduceEqDiff, jby, cb, an, e1, e2, e4, e7, e11, e31, e32, e33, gp2, gm2]
  exact ⟨1, ⟨(zh s12), by omega, .inr rfl⟩, by decide⟩
 ·have qS := SI.known (h := h1) (l := [(6, 0)]) (wr := true) (u := 0) (m := 1) (c := 1) ((s1.get nb hnb).trans hno) ⟨rfl, by decide⟩ (Nat.le_refl _)
  have kG := jea (zu hC T255) (g := 254) (cs := [.ptr h.size 0]) (P := fun q => inS p.nz q) (h := h1) (fun q => jfy (zu hC T254) ⟨hnz.1, by omega⟩ v1 gp) qS
  have nq : ¬ ∀ x ∈ [((6 : Int), (0 : Int))], inS p.nz x := fun q => by
   have := q (6, 0) (by simp)
   unfold inS at this
   omega
  rw [decide_eq_false nq] at kG
  refine zs8 @e1 @e2 @e4 @e7 @e31 @e32 @e33 @gm ?_
  refine jaa.eq kG ?_
  refine zs ?_
  exact (zh s1)
end
end Go.Ae
namespace Go.Ae
theorem SL.takeK {h : Heap} {sz n : Nat} {v : AV} {cs : List AV} (H : SL h sz v n cs) {k : Nat} {kk : IntKind} (hk : k ≤ n) : ∃ v', (∀ h', HSub h h' → jaX h' sz v none (some (.int kk (k : Nat))) none = some v') ∧ SL h sz v' k (cs.take (k * sz)) := by
 obtain ⟨hl, hlt, ⟨rfl, rfl⟩ | ⟨i, o, c, vs, wr, u, rfl, hg, hle, hc, hcap⟩⟩ := H
 ·obtain rfl : k = 0 := by omega
  have : cs = [] := List.eq_nil_of_length_eq_zero (by omega)
  subst this
  exact ⟨.nilslice, fun h' _ => rfl, by simp, by omega, .inl ⟨rfl, rfl⟩⟩
 ·have hks : k * sz ≤ n * sz := Nat.mul_le_mul_right sz hk
  have hct : cut vs o (k * sz) = cs.take (k * sz) := by rw [← hc]; simp only [cut, List.take_take]; congr 1; omega
  have hle2 : (cs.take (k * sz)).length = k * sz := by rw [List.length_take]; omega
  cases c with
  | known c =>
   have hb : jbU n c none (some (.int kk (k : Nat))) none = some (0, k, c) := by
    simp only [jbU, intA]
    rw [if_pos (by omega)]; simp
   refine ⟨.slice i (if c = 0 then o else o + 0 * sz) (k - 0) (.known (c - 0)), fun h' _ => by simp only [jaX, hb], hle2, by omega, .inr ⟨i, if c = 0 then o else o + 0 * sz, _, vs, wr, u, rfl, hg, ?_, ?_, ?_⟩⟩
   ·split <;> omega
   ·have : (if c = 0 then o else o + 0 * sz) = o := by split <;> omega
    rw [this]; exact hct
   ·show k ≤ c - 0
    have : n ≤ c := hcap
    omega
  | unk l =>
   obtain ⟨rfl, rfl, rfl⟩ := hcap
   have hb : jbU n n none (some (.int kk (k : Nat))) none = some (0, k, n) := by
    simp only [jbU, intA]
    rw [if_pos (by omega)]; simp
   refine ⟨.slice i (l * u + 0 * u) (k - 0) (.unk (l + 0)), fun h' hs => ?_, hle2, by omega, .inr ⟨i, l * u + 0 * u, _, vs, true, u, rfl, hg, by omega, by simpa using hct, rfl, rfl, by simp⟩⟩
   have hg' := (hs.get i (Heap.lt_of_get hg)).trans hg
   simp only [jaX, hg']
   rw [if_pos ⟨trivial, trivial, hle⟩]
   simp [hb]
theorem EmsI.takeK {h : Heap} {v : AV} {es : List EmitP} (H : EmsI h v es) {k : Nat} {kk : IntKind} (hk : k ≤ es.length) : ∃ v', (∀ h', HSub h h' → jaX h' 8 v none (some (.int kk (k : Nat))) none = some v') ∧ EmsI h v' (es.take k) := by
 obtain ⟨L, rfl, b, c⟩ := H
 rw [List.length_map] at hk
 obtain ⟨v', h1, h2⟩ := b.takeK (kk := kk) hk
 refine ⟨v', h1, L.take k, by rw [List.map_take], ?_, fun q hq => c q (List.mem_of_mem_take hq)⟩
 have e1 : (L.take k).length = k := by rw [List.length_take]; omega
 have e2 : emC (L.take k) = (emC L).take (k * 8) := by
  have ea : emC L = emC (L.take k) ++ emC (L.drop k) := by unfold emC; rw [← List.flatMap_append, List.take_append_drop]
  have el : (emC (L.take k)).length = k * 8 := by rw [jbS, e1]
  have et : List.take (k * 8) (emC (L.take k) ++ emC (L.drop k)) = emC (L.take k) := by rw [List.take_append_of_le_length (Nat.le_of_eq el.symm), List.take_of_length_le (Nat.le_of_eq el)]
  rw [ea, et]
 rw [e1, e2]; exact h2
section
variable {C : Ctx}
theorem jgV (hC : Has C T252) {v : AV} {es : List EmitP} {g : Nat} {cs : List AV} {P : EmitP → Prop} [DecidablePred P] {h : Heap} (hg : ∀ e vb, vb.one = true → ACalls C g ([emA e vb] ++ cs) h (fun r h' => r = .bool (decide (P e)) ∧ h' = h)) (hl : EmsI h v es) :
  ACalls C 252 [v, .func g [] cs] h (fun r h' => r = .bool (decide (∃ i, i < es.length ∧ P (es.getD i eD))) ∧ h' = h) := by
 have hlt := hl.lt
 have hI : ACalls C 259 [v, .func g [] cs] h (fun r h' => (∃ i : Int, r = .int .i64 i ∧ -1 ≤ i ∧ (0 ≤ i ↔ ∃ i, i < es.length ∧ P (es.getD i eD))) ∧ h' = h) := by
  have hC' : Has C T259 := (zu hC T259)
  have hC := hC'
  refine zf hC tab259 ?_; simp only [B259, zB.1]; refine zs1 @hl.len ?_
  refine jaA (fun j t h' => h' = h ∧ ∃ k : Nat, t 0 = v ∧ t 1 = .func g [] cs ∧ t 7 = .int .i64 (es.length : Nat) ∧ t 8 = .int .i64 (k : Nat) ∧ (∀ i, i < k → ¬ P (es.getD i eD)) ∧ k ≤ es.length ∧ j = es.length - k) (j0 := es.length)
   ⟨rfl, 0, rfl, rfl, rfl, rfl, fun i hi => by omega, by omega, rfl⟩ ?_
  rintro j t h1 ⟨rfl, k, e0, e1, e7, e8, hp, hk, hj⟩
  refine zs2 @e7 @e8 ?_
  refine Br.by (fun c => ?_) (fun c => ?_)
  ·have hk' : k < es.length := by omega
   obtain ⟨vb, ix, ld, B, _, _, _⟩ := hl.at hk'
   have ld := ld h1 (HSub.refl _)
   have hg := hg (es.getD k eD) vb B.one
   refine zs5 @e0 @e1 @e8 @ix @ld ?_
   refine jaa.eq hg ?_
   by_cases c2 : P (es.getD k eD)
   ·refine zs5 @c2 @e0 @e1 @e7 @e8 ?_
    exact ⟨by omega, ⟨fun _ => ⟨k, hk', c2⟩, fun _ => by omega⟩⟩
   ·refine zs5 @c2 @e0 @e1 @e7 @e8 ?_
    refine ⟨_, ⟨k + 1, by simp, fun i hi => ?_, by omega, rfl⟩, by omega⟩
    rcases Nat.lt_or_ge i k with x | x
    ·exact hp i x
    ·have : i = k := by omega
     subst this; exact c2
  ·have ek : k = es.length := by omega
   refine zs ?_
   exact ⟨fun q => q.elim, fun ⟨i, hi, q⟩ => absurd q (hp i (by omega))⟩
 refine zf hC tab252 ?_; simp only [B252, zB.1]; refine zs ?_
 refine jaa.of hI ?_
 rintro r h1 ⟨⟨i, rfl, h1, h2⟩, rfl⟩
 refine zs ?_
 by_cases c : ∃ i, i < es.length ∧ P (es.getD i eD)
 ·rw [decide_eq_true c]
  have : 0 ≤ i := h2.2 c
  simp [this]
 ·rw [decide_eq_false c]
  have : ¬ 0 ≤ i := fun q => c (h2.1 q)
  simp [this]
end
end Go.Ae
namespace Go.Ae
def wv (p : PlanP) (e : EmitP) (n m : Nat) : List (Int × Int) := (List.range m).map fun i => if i < n then atV p e (i : Nat) else (0, 0)
theorem jeO {p : PlanP} {e : EmitP} {n m : Nat} : (wv p e n m).length = m := by simp [wv]
theorem jrX {p : PlanP} {e : EmitP} {m : Nat} : wv p e 0 m = List.replicate m (0, 0) := by
 apply List.ext_getElem
 ·simp [wv]
 ·intro i h1 h2; simp [wv]
theorem jsy {p : PlanP} {e : EmitP} {n m : Nat} (h : n < m) : (wv p e n m).set n (atV p e (n : Nat)) = wv p e (n + 1) m := by
 apply List.ext_getElem
 ·simp [wv]
 ·intro i h1 h2
  simp only [List.getElem_set, wv, List.getElem_map, List.getElem_range]
  by_cases c : n = i
  ·subst c; simp
  ·rw [if_neg c]
   by_cases c2 : i < n
   ·rw [if_pos c2, if_pos (by omega)]
   ·rw [if_neg c2, if_neg (by omega)]
theorem jsz {p : PlanP} {e : EmitP} {n k : Int} (ok : EmOk p e) (h1 : e.sta p k ≤ n) (h2 : n < e.sta p (k + 1)) : (chipI p e (n - e.sta p k) * (lvl p e k).1, chipI p e (n - e.sta p k) * (lvl p e k).2) = atV p e n := by
 have hk : e.pl p n = k := (pl_of (dl := e.dl) ok.den h1 h2).symm
 unfold atV lvl
 rw [hk]
 refine Prod.ext ?_ ?_ <;> dsimp only <;> grind
section
variable {C : Ctx}
theorem jjr (hC : Has C T261) {p : PlanP} {e : EmitP} {vp vb vc : AV} {m : Int} {h : Heap} : ACalls C 261 [srcA p e vp vb vc, .int .i64 m] h (fun r h' => r = .func 262 [] [.ptr h.size 0, .ptr (h.size + 1) 0] ∧
  h' = (h.push (.cells (srcA p e vp vb vc).cells true 0)).push (.cells [.int .i64 m] true 0)) := by
 unfold srcA
 refine zf hC tab261 ?_; simp only [B261, zB.1]; exact ze
set_option maxHeartbeats 1000000 in
set_option maxRecDepth 20000 in
theorem jkE (hC : Has C T262) {p : PlanP} {e : EmitP} {vp vb vc : AV} {M l b1 b2 : Nat} {h : Heap} (ok : EmOk p e) (v1 : vp.one = true) (w0 : vb.one = true) (w1 : vc.one = true) (hm : M ≤ 1048576) (J : Int → Heap → Prop) (D : Heap → Prop) (h0 : J (e.pl p 0) h)
  (hb : ∀ k h', J k h' → h'.get b1 = some (.cells (srcA p e vp vb vc).cells true 0) ∧ h'.get b2 = some (.cells [.int .i64 (M : Nat)] true 0))
  (hy : ∀ k h', e.pl p 0 ≤ k → k ≤ e.pl p ((M : Int) - 1) → e.sta p k < M → J k h' → jg5 C l [.int .i64 k, .int .i64 (e.sta p k)] h' (fun r h'' => r = .bool true ∧ J (k + 1) h''))
  (hd : ∀ k h', e.pl p 0 ≤ k → (M : Int) ≤ e.sta p k → J k h' → D h') :
  ACalls C 262 [.yield l, .ptr b1 0, .ptr b2 0] h (fun _ h' => D h') := by
 obtain ⟨g1, g2⟩ := hb _ _ h0
 have kp := fun h => jds (zu hC T245) (vp := vp) (vb := vb) (vc := vc) (n := 0) (h := h) ok v1 w0 w1 (by omega)
 have ks := fun (k : Int) (hk : -20000000 ≤ k ∧ k ≤ 20000000) h => jbG (zu hC T239) (k := k) (h := h) ok v1 w0 w1 hk
 have p0 := ok.plb (n := 0) (by omega)
 have pm := ok.plb (n := (M : Int) - 1) (by omega)
 have gt := fun (k : Int) => st_gt ok (n := (M : Int) - 1) (k := k)
 generalize e.pl p 0 = K0 at *
 generalize e.pl p ((M : Int) - 1) = K1 at *
 generalize e.sta p = St at *
 have q17 : loadB true 17 0 (some (.cells (srcA p e vp vb vc).cells true 0)) = some (srcA p e vp vb vc) := rfl
 generalize hsc : (srcA p e vp vb vc).cells = sc at *
 generalize srcA p e vp vb vc = sv at *
 refine zf hC tab262 ?_; simp only [B262, zB.1]; refine zs2 @g1 @q17 ?_
 refine jaa.eq (kp _) ?_
 refine zs ?_
 refine jaA (fun j t h' => ∃ k : Int, J k h' ∧ t 0 = .yield l ∧ t 1 = .ptr b1 0 ∧ t 2 = .ptr b2 0 ∧ t 4 = .int .i64 k ∧ K0 ≤ k ∧ k ≤ max K0 (K1 + 1) ∧ j = (K1 + 1 - k).toNat) (j0 := (K1 + 1 - K0).toNat) ⟨K0, h0, rfl, rfl, rfl, rfl, by omega, by omega, rfl⟩ ?_
 rintro j t h' ⟨k, hJ, e0, e1, e2, e4, k0, k1, hj⟩
 obtain ⟨g1, g2⟩ := hb _ _ hJ
 have g := gt k
 have y := hy k h' k0
 refine zs6 @e1 @e2 @e4 @g1 @g2 @q17 ?_
 refine jaa.eq (ks k (by omega) _) ?_
 refine zs ?_
 refine Br.by (fun c => ?_) (fun c => ?_)
 ·have kK : k ≤ K1 := g.1 (by omega)
  refine zs5 @e0 @e1 @e4 @g1 @q17 ?_
  refine jaa.eq (ks k (by omega) _) ?_
  refine zs2 @e0 @e4 ?_
  refine jfa.of (y kK c hJ) ?_
  rintro r h3 ⟨rfl, hJ'⟩
  refine zs4 @e0 @e1 @e2 @e4 ?_
  exact ⟨_, ⟨k + 1, hJ', rfl, by omega, by omega, rfl⟩, by omega⟩
 ·refine zs ?_
  exact hd k h' k0 (by omega) hJ
set_option maxHeartbeats 4000000 in
set_option maxRecDepth 20000 in
theorem joK (hC : Has C T257) {p : PlanP} {e : EmitP} {vp vb vc : AV} {M : Nat} {h : Heap} (ok : EmOk p e) (h65 : e.ok64) (B : RV h vb e.bits) (W : RV h vc (codeL p.d e.prn)) (v1 : vp.one = true) (hm : M ≤ 1048576) :
  ACalls C 257 [srcA p e vp vb vc, .int .i64 (M : Nat)] h (fun r h' => HSub h h' ∧ ∃ i, h.size ≤ i ∧ r = .slice i 0 M (.known M) ∧ h'.get i = some (.cells (smps (wv p e M M)) true 0)) := by
 have b1 := B.one
 have w1 := W.one
 have p0 := ok.plb (n := 0) (by omega)
 have pm := ok.plb (n := (M : Int) - 1) (by omega)
 have s0 : e.sta p (e.pl p 0) ≤ 0 := (st_gt ok).2 (Int.le_refl _)
 have gt := fun (k : Int) => st_gt ok (n := (M : Int) - 1) (k := k)
 have stp : ∀ k : Int, p.size - 1 ≤ e.sta p (k + 1) - e.sta p k ∧ e.sta p (k + 1) - e.sta p k ≤ p.size + 1 := fun k => (jop (dl := e.dl) (sz := p.size) (k := k) ok.en.2.1)
 have hat : ∀ (n k : Int), e.sta p k ≤ n → n < e.sta p (k + 1) → (chipI p e (n - e.sta p k) * (lvl p e k).1, chipI p e (n - e.sta p k) * (lvl p e k).2) = atV p e n := fun n k h1 h2 => jsz ok h1 h2
 have hin := fun n : Int => jjo ok n
 have sz := jbn ok.pn
 have stb := fun (k : Int) (hk : -20000000 ≤ k ∧ k ≤ 20000000) => ok.stb hk
 have ks := fun (k : Int) (hk : -20000000 ≤ k ∧ k ≤ 20000000) h => jbG (zu hC T239) (k := k) (h := h) ok v1 b1 w1 hk
 have kl := fun (k : Int) (hk : -20000000 ≤ k ∧ k ≤ 20000000) h1 (q : HSub h h1) => jeL (zu hC T250) (vp := vp) (vc := vc) ok h65 (B.mono q) v1 w1 hk
 have kc := fun (i : Int) (hi : 0 ≤ i ∧ i ≤ 100000) h1 (q : HSub h h1) => jfv (zu hC T249) (vp := vp) (vb := vb) ok (W.mono q) v1 b1 hi
 have kper := fun h => jjr (zu hC T261) (p := p) (e := e) (vp := vp) (vb := vb) (vc := vc) (m := (M : Nat)) (h := h)
 have zr := jd9 (p := (0, 0)) (n := M)
 simp only at zr
 rw [← jrX (p := p) (e := e)] at zr
 have q17 : loadB true 17 0 (some (.cells (srcA p e vp vb vc).cells true 0)) = some (srcA p e vp vb vc) := rfl
 have hiter := @jkE C (zu hC T262) p e vp vb vc M
 generalize hsc : (srcA p e vp vb vc).cells = sc at *
 generalize srcA p e vp vb vc = sv at *
 generalize e.sta p = St at *
 generalize e.pl p 0 = K0 at *
 generalize e.pl p ((M : Int) - 1) = K1 at *
 refine zf hC tab257 ?_; simp only [B257, zB.1]; refine zs3 @zr @hsc @q17 ?_
 refine jaa.eq (kper _) ?_
 refine zs ?_
 refine jft (D := fun h' => ∃ R, h'.get (h.size + 7) = some (.loop R) ∧ R.state = .ready ∧ R.pend = none ∧ HSub h h' ∧ h'.get (h.size + 6) = some (.defd true) ∧ h'.get (h.size + 3) = some (.cells [.slice (h.size + 2) 0 M (.known M)] true 0) ∧ h'.get (h.size + 2) = some (.cells (smps (wv p e M M)) true 0) ∧ h.size + 8 ≤ h'.size) ?_ ?_
 ·refine ACalls.hideLoop (fun R hR => ?_)
  show ACalls C 262 [.yield (h.size + 7), .ptr (h.size + 4) 0, .ptr (h.size + 5) 0] _ _
  have rs : R.state = .ready := by rw [hR]
  have rp : R.pend = none := by rw [hR]
  have rb := ji5 rs rp
  refine hiter ok v1 b1 w1 hm (fun k h' => h'.get (h.size + 7) = some (.loop R) ∧ HSub h h' ∧ h'.get (h.size + 6) = some (.defd true) ∧ h'.get h.size = some (.cells sc true 0) ∧ h'.get (h.size + 1) = some (.cells [.int .i64 (M : Nat)] true 0) ∧ h'.get (h.size + 3) = some (.cells [.slice (h.size + 2) 0 M (.known M)] true 0) ∧
   h'.get (h.size + 4) = some (.cells sc true 0) ∧ h'.get (h.size + 5) = some (.cells [.int .i64 (M : Nat)] true 0) ∧ h'.get (h.size + 2) = some (.cells (smps (wv p e (min (max (St k) 0) M).toNat M)) true 0) ∧ h.size + 8 ≤ h'.size) _ ?_ ?_ ?_ ?_
  ·refine ⟨?_, (zh (HSub.refl h)), ?_, ?_, ?_, ?_, ?_, ?_, ?_, ?_⟩
   ·exact ze
   ·exact ze
   ·exact ze
   ·exact ze
   ·exact ze
   ·exact ze
   ·exact ze
   ·rw [show (min (max (St K0) 0) (M : Int)).toNat = 0 by omega]
    exact ze
   ·refine zs ?_
    omega
  ·rintro k h' ⟨_, _, _, _, _, _, g4, g5, _⟩
   exact ⟨g4, g5⟩
  ·rintro k h' hk0 hk1 hst ⟨hlp, hsub, hd, g0, g1, g3, g4, g5, g2, hsz⟩
   refine jeh (r := R) hlp rs (by rw [hR]; rfl) ?_
   simp only [congrArg ALoop.nt hR, congrArg ALoop.t hR, congrArg ALoop.params hR, congrArg ALoop.assign hR, congrArg ALoop.body hR]
   have hsH := fun bb => (hsub.put (i := h.size + 7) (by omega) bb)
   have s1 := stp k
   have sk := stb k (by omega)
   obtain ⟨X, hX⟩ : ∃ X, lvl p e k = X := ⟨_, rfl⟩
   obtain ⟨lx, ly⟩ := X
   have hatk := fun n => hat n k
   have klk := kl k (by omega)
   rw [hX] at hatk klk
   unfold smp at klk
   dsimp only at hatk klk
   refine zs4 @hlp @rs @g0 @q17 ?_
   refine jaa.eq (klk _ (hsH _)) ?_
   refine zs1 @g1 ?_
   generalize hRb : ABlk.loop { state := .busy, pend := R.pend, t := R.t, nt := R.nt, params := R.params, assign := R.assign, body := R.body, defers := R.defers } = RB
   refine jaA (fun j u h3 => ∃ n : Int, max (St k) 0 ≤ n ∧ n ≤ max (max (St k) 0) (min (St (k + 1)) M) ∧ u 9 = .int .i64 n ∧ u 2 = .ptr h.size 0 ∧ u 3 = .ptr (h.size + 1) 0 ∧ u 5 = .ptr (h.size + 3) 0 ∧ u 6 = .int .i64 k ∧ u 7 = .int .i64 (St k) ∧ u 8 = .ptr h'.size 0 ∧ j = (min (St (k + 1)) M - n).toNat ∧
    h3.get (h.size + 7) = some RB ∧ HSub h h3 ∧ h3.get (h.size + 6) = some (.defd true) ∧ h3.get h.size = some (.cells sc true 0) ∧ h3.get (h.size + 1) = some (.cells [.int .i64 (M : Nat)] true 0) ∧ h3.get (h.size + 3) = some (.cells [.slice (h.size + 2) 0 M (.known M)] true 0) ∧
    h3.get (h.size + 4) = some (.cells sc true 0) ∧ h3.get (h.size + 5) = some (.cells [.int .i64 (M : Nat)] true 0) ∧ h3.get (h.size + 2) = some (.cells (smps (wv p e n.toNat M)) true 0) ∧ h3.get h'.size = some (.cells [.int .i64 lx, .int .i64 ly] true 0) ∧ h'.size + 1 ≤ h3.size) (j0 := (min (St (k + 1)) M - max (St k) 0).toNat) ?_ ?_
   ·rw [show (min (max (St k) 0) (M : Int)).toNat = (max (St k) 0).toNat by omega] at g2
    refine ⟨max (St k) 0, by omega, by omega, rfl, rfl, rfl, rfl, rfl, rfl, rfl, rfl, ?_, ?_, ?_, ?_, ?_, ?_, ?_, ?_, ?_, ?_, ?_⟩
    ·exact ze
    ·exact (zh hsub)
    ·exact ze1 @hd
    ·exact ze1 @g0
    ·exact ze1 @g1
    ·exact ze1 @g3
    ·exact ze1 @g4
    ·exact ze1 @g5
    ·exact ze1 @g2
    ·exact ze
    ·refine zs ?_
     exact Nat.le_refl _
   ·rintro j u h3 ⟨n, n0, n1, e9, e2, e3, e5, e6, e7, e8, hj, hlp3, hsub3, hd3, g03, g13, g33, g43, g53, g23, g83, hsz3⟩
    refine zs7 @e2 @e3 @e6 @e9 @g03 @g13 @q17 ?_
    refine jaa.eq (ks (k + 1) (by omega) _) ?_
    refine zs2 @e9 @g13 ?_
    refine Br.by (fun c => ?_) (fun c => ?_)
    ·have nS : St k ≤ n ∧ n < St (k + 1) ∧ 0 ≤ n ∧ n < M := by omega
     obtain ⟨N, rfl⟩ := Int.eq_ofNat_of_zero_le nS.2.2.1
     have hN : N < M := by omega
     have ha := hatk (N : Nat) nS.1 nS.2.1
     have ib := hin (N : Nat)
     rw [← ha] at ib
     unfold inS at ib
     dsimp only at ib
     have set := jsy (p := p) (e := e) (n := N) (m := M) hN
     rw [← ha] at set
     have ln : (wv p e N M).length = M := jeO
     have ln2 : (smps (wv p e N M)).length = M * 2 := by rw [jaW, ln]
     have kcn := kc (N - St k) (by omega)
     generalize hcx : chipI p e (N - St k) = cx at *
     have sp := jgp (l := wv p e N M) (k := N) (p := (cx * lx, cx * ly)) (by rw [ln]; exact hN)
     rw [set] at sp
     dsimp only at sp
     rw [Int.toNat_natCast] at g23
     refine zs5 @e2 @e7 @e9 @g03 @q17 ?_
     refine jaa.eq (kcn _ hsub3) ?_
     refine zs12 @e2 @e3 @e5 @e6 @e7 @e8 @e9 @g33 @g83 @g23 @sp @ln2 ?_
     exact ⟨_, ⟨(N : Int) + 1, by omega, by omega, rfl, rfl, hlp3, hsub3.put (by omega) _, hd3, g03, g13, g43, g53, by rw [show ((N : Int) + 1).toNat = N + 1 by omega], hsz3⟩, by omega⟩
    ·have hn : n.toNat = (min (max (St (k + 1)) 0) (M : Int)).toNat := by omega
     rw [hn] at g23
     rw [← hRb] at hlp3
     refine zs1 @hlp3 ?_
     exact ⟨by rw [rb], hsub3.put (by omega) _, hd3, g03, g13, g33, g43, g53, g23, by omega⟩
  ·rintro k h' hk0 hst ⟨hlp, hsub, hd, g0, g1, g3, g4, g5, g2, hsz⟩
   rw [show (min (max (St k) 0) (M : Int)).toNat = M by omega] at g2
   exact ⟨R, hlp, rs, rp, hsub, hd, g3, g2, hsz⟩
 ·rintro h' ⟨R, hlp, hst, hpd, hsub, hd, g3, g2, hsz⟩
  refine ⟨R, hlp, by rw [hst]; decide, ?_⟩
  rw [hpd]
  show jbX _ _ .normal _
  refine zs2 @hd @g3 ?_
  exact ⟨(zh hsub), h.size + 2, by omega, rfl, by exact ze1 @g2⟩
end
end Go.Ae
namespace Go.Ae
open Go.Conc
def WpM (P : Program) (c : Code) (Q : Out → Phase → Keep → Act → World → Prop) (ph : Phase) (kp : Keep) (a : Act) (w : World) : Prop :=
 ∀ (Fin : Value → World → Prop) (p : Prop) (b : Frame) (k : List Item) (cs : List Frame), b.roundOf = none → b.kind ≠ .early →
  (∀ o ph' kp' a' w', Q o ph' kp' a' w' → jm2 (PJ P Fin p ph') b k cs o kp' a' w') → PJ P Fin p ph kp (G (b.atR a (.code c :: k)) cs) w
def OpsM (P : Program) (ops : Array Oper) (todo : List Nat) (Q : Phase → Keep → Act → World → Prop) (ph : Phase) (kp : Keep) (a : Act) (w : World) : Prop :=
 ∀ (Fin : Value → World → Prop) (p : Prop) (b : Frame) (k : List Item) (cs : List Frame), b.roundOf = none → b.kind ≠ .early →
  (∀ ph' kp' a' w', Q ph' kp' a' w' → PJ P Fin p ph' kp' (G (b.atR a' k) cs) w') → PJ P Fin p ph kp (G (b.atR a (.inRegion ops todo :: k)) cs) w
def OpM (P : Program) (ops : Array Oper) (i : Nat) (Q : Phase → Keep → Act → World → Prop) (ph : Phase) (kp : Keep) (a : Act) (w : World) : Prop :=
 ∀ (Fin : Value → World → Prop) (p : Prop) (b : Frame) (rest : List Nat) (k : List Item) (cs : List Frame), b.roundOf = none → b.kind ≠ .early →
  (∀ ph' kp' a' w', Q ph' kp' a' w' → PJ P Fin p ph' kp' (G (b.atR a' (.inRegion ops rest :: k)) cs) w') → PJ P Fin p ph kp (G (b.atR a (.inRegion ops (i :: rest) :: k)) cs) w
section
variable {P : Program} {ph : Phase} {kp : Keep} {a : Act} {w : World} {Q Q' : Out → Phase → Keep → Act → World → Prop}
theorem jfk {c : Code} (h : WpM P c Q ph kp a w) (hq : ∀ o ph' kp' a' w', Q o ph' kp' a' w' → Q' o ph' kp' a' w') : WpM P c Q' ph kp a w :=
 fun Fin p b k cs hro hb hk => h Fin p b k cs hro hb fun o ph' kp' a' w' x => hk o ph' kp' a' w' (hq _ _ _ _ _ x)
theorem jsA {x y : Code} (h : WpM P x (fun o ph' kp' a' w' => match o with | .normal => WpM P y Q ph' kp' a' w' | o => Q o ph' kp' a' w') ph kp a w) : WpM P (.seq x y) Q ph kp a w := by
 intro Fin p b k cs hro hb hk
 refine (jb0 ph).ctl rfl rfl (fun _ => jmW) (h Fin p b (.code y :: k) cs hro hb fun o ph' kp' a' w' q => ?_)
 cases o with
 | normal => exact q Fin p b k cs hro hb hk
 | exit id => exact fun k2 e => hk _ _ _ _ _ q k2 e
 | ret => exact fun k2 => hk _ _ _ _ _ q k2
theorem jrY {c : Operand} {x y : Code} {t : Bool} (hc : a.eval c = .bool t) (h1 : t = true → WpM P x Q ph kp a w) (h2 : t = false → WpM P y Q ph kp a w) : WpM P (.cond c x y) Q ph kp a w := by
 intro Fin p b k cs hro hb hk
 refine (jb0 ph).ctl rfl rfl (fun _ => jmX hc) ?_
 cases t with
 | true => exact h1 rfl Fin p b k cs hro hb hk
 | false => exact h2 rfl Fin p b k cs hro hb hk
theorem jqp {id : Nat} {c : Code} (h : WpM P c (fun o ph' kp' a' w' => match o with | .exit id' => if id' = id then Q .normal ph' kp' a' w' else Q (.exit id') ph' kp' a' w' | o => Q o ph' kp' a' w') ph kp a w) : WpM P (.block id c) Q ph kp a w := by
 intro Fin p b k cs hro hb hk
 refine (jb0 ph).ctl rfl rfl (fun _ => jkV) (h Fin p b (.inBlock id :: k) cs hro hb fun o ph' kp' a' w' q => ?_)
 cases o with
 | normal => exact (jb0 ph').ctl rfl rfl (fun _ => jg4) (hk _ _ _ _ _ q)
 | ret => exact fun k2 => hk _ _ _ _ _ q k2
 | exit id' =>
  intro k2 e
  dsimp only at q
  by_cases hi : id' = id
  ·subst hi
   rw [if_pos rfl] at q
   exact (jb0 ph').ctl rfl rfl (fun _ => jmZ (by rw [e]; simp [exitTo])) (hk _ _ _ _ _ q)
  ·rw [if_neg hi] at q
   exact hk _ _ _ _ _ q k2 (by rw [e]; simp [exitTo, Ne.symm hi])
theorem jrZ {c : Code} (I : Nat → Phase → Keep → Act → World → Prop) {j0 : Nat} (h0 : I j0 ph kp a w)
  (round : ∀ j ph kp a w, I j ph kp a w → WpM P c (fun o ph' kp' a' w' => match o with | .normal => ∃ i, i < j ∧ I i ph' kp' a' w' | o => Q o ph' kp' a' w') ph kp a w) : WpM P (.loop c) Q ph kp a w := by
 intro Fin p b k cs hro hb hk
 refine (jb0 ph).ctl rfl rfl (fun _ => jmY) ?_
 have key : ∀ j ph kp a w, I j ph kp a w → PJ P Fin p ph kp (G (b.atR a (.code c :: .inLoop c :: k)) cs) w := by
  intro j
  induction j using Nat.strongRecOn with
  | _ j ih =>
   intro ph kp a w hI
   refine round j ph kp a w hI Fin p b (.inLoop c :: k) cs hro hb fun o ph' kp' a' w' q => ?_
   cases o with
   | normal =>
    obtain ⟨i, hlt, hI'⟩ := q
    exact (jb0 ph').ctl rfl rfl (fun _ => jiH) (ih i hlt _ _ _ _ hI')
   | exit id => exact fun k2 e => hk _ _ _ _ _ q k2 (by rw [e]; simp [exitTo])
   | ret => exact fun k2 => hk _ _ _ _ _ q k2
 exact key _ _ _ _ _ h0
theorem joL {id : Nat} {ops : Array Oper} (h : OpsM P ops (List.range ops.size) (Q .normal) ph kp a w) : WpM P (.region id ops false) Q ph kp a w :=
 fun Fin p b k cs hro hb hk => (jb0 ph).ctl rfl rfl (fun _ => jf6) (h Fin p b k cs hro hb fun ph' kp' a' w' q => hk _ _ _ _ _ q)
theorem jsB {ops : Array Oper} {R : Phase → Keep → Act → World → Prop} (h : R ph kp a w) : OpsM P ops [] R ph kp a w :=
 fun Fin p b k cs _ _ hk => (jb0 ph).ctl rfl rfl (fun _ => jdi) (hk _ _ _ _ h)
theorem jkF {ops : Array Oper} {i : Nat} {rest : List Nat} {R : Phase → Keep → Act → World → Prop} (h : OpM P ops i (fun ph' kp' a' w' => OpsM P ops rest R ph' kp' a' w') ph kp a w) : OpsM P ops (i :: rest) R ph kp a w :=
 fun Fin p b k cs hro hb hk => h Fin p b rest k cs hro hb fun ph' kp' a' w' q => q Fin p b k cs hro hb hk
theorem jgv {ops : Array Oper} {i : Nat} {R R' : Phase → Keep → Act → World → Prop} (h : OpM P ops i R ph kp a w) (hq : ∀ ph' kp' a' w', R ph' kp' a' w' → R' ph' kp' a' w') : OpM P ops i R' ph kp a w :=
 fun Fin p b rest k cs hro hb hk => h Fin p b rest k cs hro hb fun ph' kp' a' w' x => hk ph' kp' a' w' (hq _ _ _ _ x)
end
section
variable {C : Ctx} {ph : Phase} {kp : Keep} {a : Act} {w : World}
theorem jlh {c : Code} {Q : Out → Keep → Act → World → Prop} (h : WpJ (C.at ph) none c Q kp a w) : WpM C.P c (fun o ph' kp' a' w' => ph' = ph ∧ Q o kp' a' w') ph kp a w :=
 fun Fin p b k cs hro hb hk => h _ (C.at_fam Fin p ph) b k cs hro hb fun o kp' a' w' q => hk o ph kp' a' w' ⟨rfl, q⟩
theorem jli {ops : Array Oper} {i : Nat} {K : Keep → Act → World → Prop} (h : OpJ (C.at ph) none ops i K kp a w) : OpM C.P ops i (fun ph' kp' a' w' => ph' = ph ∧ K kp' a' w') ph kp a w :=
 fun Fin p b rest k cs hro hb hk => h _ (C.at_fam Fin p ph) b rest k cs hro hb fun kp' a' w' q => hk ph kp' a' w' ⟨rfl, q⟩
end
end Go.Ae
namespace Go.Ae
open Go.Conc
def ABlk.freeze : ABlk → ABlk
 | .cells vs _ u => .cells vs false u
 | _ => .dead
def Heap.freeze (h : Heap) : Heap := ⟨h.size, fun i => (h.get i).map ABlk.freeze, fun i hi => by rw [h.wf i hi]; rfl⟩
def Heap.thaw (hs : Heap) (ic : Nat) (h : Heap) : Heap :=
 ⟨h.size, fun i => if i < h.size then (if i < hs.size then (if i = ic then some .dead else hs.get i) else (h.get i).map fun b => if b.wr then b else .dead) else none, fun i hi => by rw [if_neg (by omega)]⟩
theorem jb7 (h : Heap) (i : Nat) : h.freeze.get i = (h.get i).map ABlk.freeze := rfl
@[simp] theorem size_freeze (h : Heap) : h.freeze.size = h.size := rfl
theorem jgw (h : Heap) (i : Nat) : h.freeze.ok i ↔ h.ok i := by simp [Heap.ok, jb7]
theorem jfl (h : Heap) : h.freeze.ok = h.ok := funext fun i => propext (jgw h i)
@[simp] theorem size_thaw (hs : Heap) (ic : Nat) (h : Heap) : (hs.thaw ic h).size = h.size := rfl
structure AProm where
 av : Nat → AV
 blk : Option (List AV)
structure AProm.Ok (p : AProm) : Prop where
 shift : ∀ (lk : Nat → FuncId) (n : Nat) (env : Env), (p.av n).val lk env = (p.av 0).val lk (fun _ => env n)
 bel : ∀ (n : Nat) (q : Nat → Prop), (p.blk ≠ none → q n) → (p.av n).bel q
 cells : ∀ vs, p.blk = some vs → ∀ v ∈ vs, v.bel fun _ => False
def AProm.prom (lk : Nat → FuncId) (B : Nat) (p : AProm) : Prom := fun v w T => ∃ e : EB, v = (p.av 0).val lk (fun _ => e) ∧
 match p.blk with
 | none => ∀ r, ¬ T r
 | some vs => B ≤ e.blk ∧ e.blk < w.heap.size ∧ (∀ r, T r ↔ r = e.blk) ∧ ∀ k v, vs[k]? = some v → w.cell? ⟨e.blk, e.sh + k, none⟩ = some (v.val lk (fun _ => e))
def AProm.land (p : AProm) (h : Heap) : Heap :=
 match p.blk with
 | none => h
 | some vs => h.push (.cells vs false 0)
structure Since (extra kp0 : Keep) (w0 : World) (kp : Keep) (w : World) : Prop where
 size : w0.heap.size ≤ w.heap.size
 os : w.os = w0.os
 tape : w.tape = w0.tape
 output : w.output = w0.output
 block : ∀ r, r < w0.heap.size → extra.no r → ¬ kp0.hide r → w.heap[r]? = w0.heap[r]?
 hide : ∀ r, kp0.hide r → kp.hide r
 hide' : ∀ r, extra.no r → kp.hide r → kp0.hide r ∨ w0.heap.size ≤ r
structure Ent where
 kp : Keep
 env : Env
 h : Heap
 w : World
structure Snap (C : Ctx) (extra : Keep) (E : Ent) (kp : Keep) (env : Env) (h : Heap) (w : World) : Prop where
 rel : Rel C (kp.or extra) env h w
 since : Since extra E.kp E.w kp w
 ext : Ext E.h E.env env
 hle : HLe E.h h
 no : ∀ r, E.kp.no r → kp.no r
 no' : ∀ r, kp.no r → E.kp.no r ∨ E.w.heap.size ≤ r
def Keep.below (extra : Keep) (n : Nat) : Keep := ⟨fun r => extra.no r ∨ r < n, extra.hide⟩
inductive Gh where
 | idle
 | busy (ic : Nat) (aps : List AProm) (hs : Heap)
structure Busy (C : Ctx) (extra : Keep) (nt : Nat) (E : Ent) (ic : Nat) (aps : List AProm) (hs : Heap) (c : Nat) (ps : List Prom) (kps : Keep) (envs : Env) (ws : World) (kp : Keep) (env : Env) (st : St) (a : Act) (w : World) : Prop where
 snap : Snap C extra E kps envs hs ws
 sim : Sim C (kp.or (extra.below ws.heap.size)) nt env st a w
 ne : aps ≠ []
 chan : hs.get ic = some .chan
 hc : c = (envs ic).blk
 hps : ps = aps.map (AProm.prom C.lk ws.heap.size)
 ok : ∀ p ∈ aps, p.Ok
 ext : Ext hs envs env
 hle : HLe hs st.h
 no : ∀ r, r < ws.heap.size → kp.no r
 hidec : kp.hide c
 hide : ∀ r, kps.hide r → kp.hide r
 hide' : ∀ r, kp.hide r → kps.hide r ∨ r = c ∨ ws.heap.size ≤ r
 rows : ∀ r, r < ws.heap.size → ¬ kps.hide r → r ≠ c → w.heap[r]? = ws.heap[r]?
 size : ws.heap.size ≤ w.heap.size
 os : w.os = ws.os
 tape : w.tape = ws.tape
 output : w.output = ws.output
def GSim (C : Ctx) (extra : Keep) (nt : Nat) (E : Ent) : Gh → Phase → Keep → Env → St → Act → World → Prop
 | .idle, ph, kp, env, st, a, w => ph = none ∧ Snap C extra E kp env st.h w ∧ Sim C (kp.or extra) nt env st a w
 | .busy ic aps hs, ph, kp, env, st, a, w => ∃ c ps kps envs ws, ph = some (c, ps) ∧ Busy C extra nt E ic aps hs c ps kps envs ws kp env st a w
section
variable {C : Ctx} {extra : Keep} {nt : Nat} {E : Ent}
theorem Since.keepJ {kp0 kp kp' : Keep} {w0 w w' : World} (h : Since extra kp0 w0 kp w) (K : KeepJ kp extra w kp' w') : Since extra kp0 w0 kp' w' := by
 have hs := h.size
 refine ⟨Nat.le_trans h.size K.size, K.os.trans h.os, K.tape.trans h.tape, K.output.trans h.output, fun r hr he hn => ?_, fun r x => K.hide r (h.hide r x), fun r he x => ?_⟩
 ·rw [K.block r (Nat.lt_of_lt_of_le hr h.size) he (fun x => (h.hide' r he x).elim hn fun y => by omega), h.block r hr he hn]
 ·rcases K.hide' r he x with y | y
  ·exact h.hide' r he y
  ·exact .inr (by omega)
theorem Snap.keepJ {kp kp' : Keep} {env env' : Env} {h h' : Heap} {w w' : World} (S : Snap C extra E kp env h w) (K : KeepJ kp extra w kp' w') (R : Rel C (kp'.or extra) env' h' w') (X : Ext h env env') (L : HLe h h') : Snap C extra E kp' env' h' w' := by
 have hs := S.since.size
 refine ⟨R, S.since.keepJ K, S.ext.trans S.hle X, S.hle.trans L, fun r x => K.no r (S.no r x), fun r x => ?_⟩
 rcases K.no' r x with y | y
 ·exact S.no' r y
 ·exact .inr (by omega)
theorem jjs {keep : Keep} {env : Env} {st : St} {a : Act} {w : World} : ∀ {ph : Phase}, Sim C keep nt env st a w → Sim (C.at ph) keep nt env st a w
 | none, h => ⟨h.size, h.tmps, h.bel, h.defers, h.marks, h.rel.1, h.rel.2, h.rel.3, h.rel.4, h.rel.5, h.rel.6, h.rel.7, h.rel.8⟩
 | some _, h => ⟨h.size, h.tmps, h.bel, h.defers, h.marks, h.rel.1, h.rel.2, h.rel.3, h.rel.4, h.rel.5, h.rel.6, h.rel.7, h.rel.8⟩
theorem jeP {keep : Keep} {env : Env} {st : St} {a : Act} {w : World} : ∀ {ph : Phase}, Sim (C.at ph) keep nt env st a w → Sim C keep nt env st a w
 | none, h => ⟨h.size, h.tmps, h.bel, h.defers, h.marks, h.rel.1, h.rel.2, h.rel.3, h.rel.4, h.rel.5, h.rel.6, h.rel.7, h.rel.8⟩
 | some _, h => ⟨h.size, h.tmps, h.bel, h.defers, h.marks, h.rel.1, h.rel.2, h.rel.3, h.rel.4, h.rel.5, h.rel.6, h.rel.7, h.rel.8⟩
theorem Busy.far {ic : Nat} {aps : List AProm} {hs : Heap} {c : Nat} {ps : List Prom} {kps : Keep} {envs : Env} {ws : World} {kp kp' : Keep} {env env' : Env} {st st' : St} {a a' : Act} {w w' : World} (B : Busy C extra nt E ic aps hs c ps kps envs ws kp env st a w)
  (S' : Sim C (kp'.or (extra.below ws.heap.size)) nt env' st' a' w') (K : KeepJ kp (extra.below ws.heap.size) w kp' w') (X : Ext st.h env env') (L : HLe st.h st'.h) : Busy C extra nt E ic aps hs c ps kps envs ws kp' env' st' a' w' := by
 have hsz := B.size
 refine ⟨B.snap, S', B.ne, B.chan, B.hc, B.hps, B.ok, B.ext.trans B.hle X, B.hle.trans L, fun r hr => K.no r (B.no r hr), K.hide _ B.hidec, fun r x => K.hide r (B.hide r x), fun r x => ?_, fun r hr hn hne => ?_,
  Nat.le_trans B.size K.size, K.os.trans B.os, K.tape.trans B.tape, K.output.trans B.output⟩
 ·rcases Nat.lt_or_ge r ws.heap.size with hr | hr
  ·rcases K.hide' r (.inr hr) x with y | y
   ·exact B.hide' r y
   ·omega
  ·exact .inr (.inr hr)
 ·have hnh : ¬ kp.hide r := fun x => by
   rcases B.hide' r x with y | y | y
   ·exact hn y
   ·exact hne y
   ·omega
  rw [K.block r (by omega) (.inr hr) hnh, B.rows r hr hn hne]
theorem Busy.rely {ic : Nat} {aps : List AProm} {hs : Heap} {c : Nat} {ps : List Prom} {kps : Keep} {envs : Env} {ws : World} {kp kp' : Keep} {env : Env} {st : St} {a : Act} {w w' : World} (B : Busy C extra nt E ic aps hs c ps kps envs ws kp env st a w) (r : Rely kp w kp' w') : Busy C extra nt E ic aps hs c ps kps envs ws kp' env st a w' :=
 B.far (B.sim.rely r) (r.keepJ _) (Ext.refl _ _) (HLe.refl _)
theorem Snap.rely {kp kp' : Keep} {env : Env} {h : Heap} {w w' : World} (S : Snap C extra E kp env h w) (r : Rely kp w kp' w') : Snap C extra E kp' env h w' := S.keepJ (r.keepJ _) (S.rel.rely r) (Ext.refl _ _) (HLe.refl _)
theorem jqq {g : Gh} {c : Code} {ph : Phase} {kp : Keep} {env : Env} {st : St} {a : Act} {w : World} {Q : Out → Gh → St → Prop} (S : GSim C extra nt E g ph kp env st a w)
  (h : wp (C.at ph) nt none (jab C.P C.inv nt c) (fun o st' => Q o g st') st) :
  WpM C.P c (fun o ph' kp' a' w' => ∃ g' env' st', GSim C extra nt E g' ph' kp' env' st' a' w' ∧ Q o g' st') ph kp a w := by
 have low : ∀ ph : Phase, jab (C.at ph).P (C.at ph).inv nt c = jab C.P C.inv nt c := fun ph => by cases ph <;> rfl
 cases g with
 | idle =>
  obtain ⟨rfl, hS, hs⟩ := S
  have H := jdV (C := C.at none) (extra := extra) (nt := nt) default none (jb3 _ none) (jcq _ none) c (fun o st' => Q o .idle st') kp env st a w (by rw [low]; exact h) (jjs hs) (by intro l hl; cases hl)
  refine jfk (jlh H) ?_
  rintro o ph' kp' a' w' ⟨rfl, env', st', F, _, hL, hq⟩
  have s' := jeP F.sim
  exact ⟨.idle, env', st', ⟨rfl, hS.keepJ F.keepJ s'.rel F.ext hL, s'⟩, hq⟩
 | busy ic aps hs =>
  obtain ⟨c0, ps, kps, envs, ws, rfl, B⟩ := S
  have H := jdV (C := C.at (some (c0, ps))) (extra := extra.below ws.heap.size) (nt := nt) default none (jb3 _ none) (jcq _ none) c (fun o st' => Q o (.busy ic aps hs) st') kp env st a w (by rw [low]; exact h) (jjs B.sim) (by intro l hl; cases hl)
  refine jfk (jlh H) ?_
  rintro o ph' kp' a' w' ⟨rfl, env', st', F, _, hL, hq⟩
  exact ⟨.busy ic aps hs, env', st', ⟨c0, ps, kps, envs, ws, rfl, B.far (jeP F.sim) F.keepJ F.ext hL⟩, hq⟩
theorem jqr {g : Gh} {ops : Array Oper} {i : Nat} {o : Oper} {ph : Phase} {kp : Keep} {env : Env} {st : St} {a : Act} {w : World} {K : Gh → St → Prop} (S : GSim C extra nt E g ph kp env st a w) (ho : ops[i]? = some o) (hw : Region.wanted o (yielded ops a.tmps) = true)
  (h : wpOp (C.at ph) none (jaj C.P C.inv nt ops o) (K g) st) :
  OpM C.P ops i (fun ph' kp' a' w' => ∃ g' env' st', GSim C extra nt E g' ph' kp' env' st' a' w' ∧ K g' st') ph kp a w := by
 have low : ∀ ph : Phase, jaj (C.at ph).P (C.at ph).inv nt ops o = jaj C.P C.inv nt ops o := fun ph => by cases ph <;> rfl
 cases g with
 | idle =>
  obtain ⟨rfl, hS, hs⟩ := S
  have H := jeA (C := C.at none) (extra := extra) (jjs hs) none ho hw (low none) h
  refine jgv (jli H) ?_
  rintro ph' kp' a' w' ⟨rfl, env', st', F, _, h2, hq⟩
  have s' := jeP F.sim
  exact ⟨.idle, env', st', ⟨rfl, hS.keepJ F.keepJ s'.rel F.ext ⟨F.grow.size, fun i hi => h2 i hi (by simp)⟩, s'⟩, hq⟩
 | busy ic aps hs =>
  obtain ⟨c0, ps, kps, envs, ws, rfl, B⟩ := S
  have H := jeA (C := C.at (some (c0, ps))) (extra := extra.below ws.heap.size) (jjs B.sim) none ho hw (low _) h
  refine jgv (jli H) ?_
  rintro ph' kp' a' w' ⟨rfl, env', st', F, _, h2, hq⟩
  exact ⟨.busy ic aps hs, env', st', ⟨c0, ps, kps, envs, ws, rfl, B.far (jeP F.sim) F.keepJ F.ext ⟨F.grow.size, fun i hi => h2 i hi (by simp)⟩⟩, hq⟩
end
end Go.Ae
namespace Go.Ae
open Go.Conc
def joM (C : Ctx) (gw : Nat) (first args cap : List AV) (ic : Nat) (h : Heap) (p : AProm) : Prop :=
 ∀ (B : Nat) (kp : Keep) (env : Env) (w : World), Rel C (kp.or Keep.nil) env h w → B ≤ w.heap.size → (∀ r, r < w.heap.size → kp.no r) → kp.hide (env ic).blk → (∀ v ∈ first ++ args ++ cap, v.bel h.ok) →
  JW C.P (env ic).blk (p.prom C.lk B) kp (born C.P { target := .fn (.func (C.lk gw)) (cap.map (AV.val C.lk env)).toArray, args := ((first ++ args).map (AV.val C.lk env)).toArray }) w
section
variable {C : Ctx} {extra : Keep} {nt : Nat} {E : Ent}
theorem jqs {ops : Array Oper} {o : Oper} {dst : Option Nat} {f : AOpd} {xs : List AOpd} (h : jaj C.P C.inv nt ops o = { dst := dst, op := .comm 0 (f :: xs), guard := none }) :
  ∃ c fo, o.op = .go c ∧ c.callee = .value fo ∧ lowerOpd C.inv fo = some f ∧ lowerOpds C.inv c.args.toList = some xs ∧ o.dst = dst ∧ dstOk nt o.dst = true ∧ o.guard = none := by
 unfold jaj at h
 split at h
 ·rename_i aop g h1 h2 h3
  simp only [AOper.mk.injEq] at h
  obtain ⟨hd, rfl, rfl⟩ := h
  have hg : o.guard = none := by
   cases hg : o.guard with
   | none => rfl
   | some jw =>
    obtain ⟨j, want⟩ := jw
    rw [hg] at h3
    simp only [jbB] at h3
    split at h3 <;> cases h3
  cases hop : o.op with
  | go c =>
   rw [hop] at h1
   simp only [lowerOp] at h1
   split at h1
   ·rename_i fo args hc ha
    simp only [Option.map_eq_some_iff] at h1
    obtain ⟨f', hf, he⟩ := h1
    cases he
    exact ⟨c, fo, rfl, hc, hf, ha, hd, h2, hg⟩
   ·cases h1
  | call c =>
   exfalso
   rw [hop] at h1
   have h1' : ja1 C.P C.inv c = some (.comm 0 (f :: xs)) := h1
   unfold ja1 at h1'
   split at h1'
   ·split at h1'
    ·simp only [Option.map_eq_some_iff] at h1'; obtain ⟨_, _, h1'⟩ := h1'; cases h1'
    ·unfold jaT at h1'
     repeat' split at h1'
     all_goals first
      | (cases h1'; done)
      | (simp only [Option.map_eq_some_iff] at h1'; obtain ⟨_, _, h1'⟩ := h1'; cases h1'; done)
    ·cases h1'
   ·cases h1'
  | makeFunc fn x y =>
   exfalso
   rw [hop] at h1
   cases fn <;> simp only [lowerOp] at h1
   all_goals first | (cases h1; done) | ((repeat' split at h1) <;> cases h1; done)
  | makeMap _ r => exfalso; rw [hop] at h1; cases r <;> simp only [lowerOp, lowerMap] at h1 <;> (repeat' split at h1) <;> cases h1
  | mapUpdate _ _ _ _ => exfalso; rw [hop] at h1; simp only [lowerOp, lowerMap] at h1; (repeat' split at h1) <;> first | (cases h1; done) | (simp only [Option.map_eq_some_iff] at h1; obtain ⟨_, _, h1⟩ := h1; cases h1; done)
  | insert _ _ _ _ => exfalso; rw [hop] at h1; simp only [lowerOp, lowerMap] at h1; (repeat' split at h1) <;> first | (cases h1; done) | (simp only [Option.map_eq_some_iff] at h1; obtain ⟨_, _, h1⟩ := h1; cases h1; done)
  | lookup _ _ _ _ => exfalso; rw [hop] at h1; simp only [lowerOp, lowerMap] at h1; (repeat' split at h1) <;> first | (cases h1; done) | (simp only [Option.map_eq_some_iff] at h1; obtain ⟨_, _, h1⟩ := h1; cases h1; done)
  | _ =>
   exfalso
   rw [hop] at h1
   first
    | (simp only [lowerOp] at h1; (repeat' split at h1) <;> first | (cases h1; done) | (simp only [Option.map_eq_some_iff] at h1; obtain ⟨_, _, h1⟩ := h1; cases h1; done))
    | (unfold lowerOp at h1; simp only [jbu, jaF] at h1; (repeat' split at h1) <;> first | (cases h1; done) | (simp only [Option.map_eq_some_iff] at h1; obtain ⟨_, _, h1⟩ := h1; cases h1; done))
 ·cases h
theorem jcF {o : Oper} (h : o.guard = none) (y : Nat → Option Bool) : Region.wanted o y = true := by simp [Region.wanted, h]
theorem Rel.frozen {kp ex' : Keep} {env : Env} {h : Heap} {w : World} (R : Rel C (kp.or extra) env h w) {c : Nat} (hc : c < w.heap.size) (hcd : ∀ i b, h.get i = some b → b.freeze ≠ .dead → (env i).blk ≠ c)
  (hno : ∀ r, ex'.no r → r < w.heap.size) (hhide : ∀ r, ex'.hide r → extra.hide r) : Rel C ((kp.shared w.heap.size c).or ex') env h.freeze w := by
 have hwr : ∀ b : ABlk, b.freeze.wr = false := fun b => by cases b <;> rfl
 have back : ∀ {i b'}, h.freeze.get i = some b' → ∃ b, h.get i = some b ∧ b' = b.freeze := by
  intro i b' hb
  rw [jb7] at hb
  cases hg : h.get i with
  | none => rw [hg] at hb; cases hb
  | some b => rw [hg] at hb; cases hb; exact ⟨b, rfl, rfl⟩
 have live : ∀ b : ABlk, b.freeze ≠ .dead → b ≠ .dead := fun b hb => by rintro rfl; exact hb rfl
 refine ⟨fun i b' hb' => ?_, fun i b' hb' => ?_, fun i j b' c' hb' _ _ hw => ?_, fun i b' hb' => ?_, fun i b' hb' hw => ?_, fun r x => ?_, fun i b' hb' hd x => ?_, fun r x => ?_⟩
 ·obtain ⟨b, hb, _⟩ := back hb'; exact R.lt i b hb
 ·obtain ⟨b, hb, rfl⟩ := back hb'
  cases b with
  | cells vs wr u => exact fun k v hk => R.cell hb hk
  | _ => trivial
 ·obtain ⟨b, hb, rfl⟩ := back hb'; rw [hwr] at hw; cases hw
 ·obtain ⟨b, hb, rfl⟩ := back hb'
  rw [jfl]
  cases b with
  | cells vs wr u => exact (R.bel i (.cells vs wr u) hb : _)
  | _ => trivial
 ·obtain ⟨b, hb, rfl⟩ := back hb'; rw [hwr] at hw; cases hw
 ·exact x.elim id (hno r)
 ·obtain ⟨b, hb, rfl⟩ := back hb'
  rcases x with (x | x) | x
  ·exact R.hid i b hb (live b hd) (.inl x)
  ·exact hcd i b hb hd x
  ·exact R.hid i b hb (live b hd) (.inr (hhide _ x))
 ·rcases x with (x | rfl) | x
  ·exact R.hidLt r (.inl x)
  ·exact hc
  ·exact R.hidLt r (.inr (hhide _ x))
theorem put_h (st : St) (h : Heap) (d : Option Nat) (v : AV) : (St.put { st with h := h } d v).h = h := by cases d <;> rfl
theorem jd2 (h : Heap) : HLe h h.freeze := ⟨Nat.le_refl _, fun i _ => by rw [jb7]; cases h.get i <;> rfl⟩
def jgx (g : Gh) (st : St) (ic : Nat) (p : AProm) : Gh :=
 match g with
 | .idle => .busy ic [p] st.h
 | .busy ic aps hs => .busy ic (aps ++ [p]) hs
def wpGo (C : Ctx) (g : Gh) (fv : AV) (args : List AV) (dst : Option Nat) (K : Gh → St → Prop) (st : St) : Prop :=
 match fv with
 | .func gw first cap => ∃ ic p, (match g with | .idle => st.h.get ic = some .chan | .busy ic' _ _ => ic = ic') ∧ p.Ok ∧ joM C gw first args cap ic st.h.freeze p ∧
   K (jgx g st ic p) (St.put { st with h := st.h.freeze } dst .undef)
 | _ => False
theorem om_go {g : Gh} {ops : Array Oper} {i : Nat} {o : Oper} {ph : Phase} {kp : Keep} {env : Env} {st : St} {a : Act} {w : World} {K : Gh → St → Prop} (S : GSim C extra nt E g ph kp env st a w) (ho : ops[i]? = some o) {dst : Option Nat} {f : AOpd} {xs : List AOpd}
  (hl : jaj C.P C.inv nt ops o = { dst := dst, op := .comm 0 (f :: xs), guard := none }) (h : wpGo C g (f.ev st.t) (xs.map (·.ev st.t)) dst K st) :
  OpM C.P ops i (fun ph' kp' a' w' => ∃ g' env' st', GSim C extra nt E g' ph' kp' env' st' a' w' ∧ K g' st') ph kp a w := by
 obtain ⟨c, fo, hop, hcal, hf, hx, rfl, hd, hg⟩ := jqs hl
 have hw := jcF hg (yielded ops a.tmps)
 unfold wpGo at h
 split at h
 case h_2 => exact h.elim
 rename_i gw first cap hfv
 obtain ⟨ic, p, hic, hpok, hW, hK⟩ := h
 -- what the state says of the operands
 have key : ∀ {keep : Keep}, Sim C keep nt env st a w → ∀ v ∈ first ++ xs.map (·.ev st.t) ++ cap, v.bel st.h.ok := by
  intro keep S v hv
  have q := jaZ S.opd hx
  have e2 := S.opd fo f hf
  rw [hfv] at e2
  rcases List.mem_append.1 hv with hv | hv
  ·rcases List.mem_append.1 hv with hv | hv
   ·exact (jaY _ _).1 e2.2.1 v hv
   ·exact q.2 v hv
  ·exact (jaY _ _).1 e2.2.2 v hv
 have run : ∀ {keep : Keep}, Sim C keep nt env st a w → ∀ w1, (execOp a.eval o).run C.P w1 = .ok (.spawn { target := .fn (.func (C.lk gw)) (cap.map (AV.val C.lk env)).toArray, args := ((first ++ xs.map (·.ev st.t)).map (AV.val C.lk env)).toArray }) w1 ∧ (execOp a.eval o).events C.P w1 #[] = #[] := by
  intro keep S w1
  have q := jaZ S.opd hx
  have e1 : c.args.map a.eval = ((xs.map (·.ev st.t)).map (AV.val C.lk env)).toArray := by rw [← q.1, ← jcy]
  have e2 := S.opd fo f hf
  rw [hfv] at e2
  have e3 := e2.1
  simp only [AV.val, ja9] at e3
  constructor
  ·simp only [execOp, hop, resolve, hcal, Deferred.ofValue, e1, e3, Sem.run_bind, Sem.run_pure, Result.andThen_ok]
   simp
  ·simp only [execOp, hop, resolve, hcal, Deferred.ofValue, e1, e3, Sem.events_bind, Sem.events_pure, Sem.run_pure, Result.evThen_ok]
 have step : ∀ {keep : Keep}, Sim C keep nt env st a w → ∀ (b : Frame) (rest : List Nat) (k : List Item) (cs : List Frame), b.kind ≠ .early → ∀ w1, stepG C.P true (G (b.atR a (.inRegion ops (i :: rest) :: k)) cs) w1 =
   .spawn (G (b.atR (a.put o.dst undef) (.inRegion ops rest :: k)) cs) (born C.P { target := .fn (.func (C.lk gw)) (cap.map (AV.val C.lk env)).toArray, args := ((first ++ xs.map (·.ev st.t)).map (AV.val C.lk env)).toArray }) w1 #[] := by
  intro keep S b rest k cs hb w1
  obtain ⟨h1, h2⟩ := run S w1
  rw [jpf ho hw (fun c' e => by rw [hop] at e; cases e) hb h1 rfl]
  simp only [evs, h2, seen_none]
 have undefv : (AV.undef).val C.lk env = undef := rfl
 intro Fin pr b rest k cs hro hb hk
 cases g with
 | idle =>
  obtain ⟨rfl, hS, hs⟩ := S
  have hic : st.h.get ic = some .chan := hic
  by_cases hp : pr
  ·exact .inr hp
  refine .inl (.spawn (env ic).blk (p.prom C.lk w.heap.size) rfl (.inl ⟨rfl, fun x => hs.rel.hid ic _ hic (by simp) (.inl x), fun x => hs.rel.hid ic _ hic (by simp) (.inl x), ?_⟩) (fun kq w1 r => ⟨_, _, step hs b rest k cs hb w1, rfl, rfl⟩) (fun kq w1 g' ch r hst => ?_) (fun kq w1 g' ch r hst => ?_))
  ·exact hs.rel.blk ic _ hic
  ·rw [step hs b rest k cs hb w1] at hst
   cases hst
   obtain ⟨r1, rfl⟩ := r.ofBoth
   have s1 := hs.rely r1
   have hcd : ∀ i b, st.h.get i = some b → b.freeze ≠ .dead → (env i).blk ≠ (env ic).blk := fun i b hi hbd => s1.rel.disj ic i _ b hic hi (fun e => by subst e; rw [hic] at hi; cases hi; exact hbd rfl) rfl (by rintro rfl; exact hbd rfl)
   have RF := s1.rel.frozen (s1.rel.lt ic _ hic) hcd (ex' := Keep.nil) (fun _ h => h.elim) (fun _ h => h.elim)
   exact hW w.heap.size _ env w1 RF r1.size (fun r hr => hr) (.inr rfl) (by rw [jfl]; exact key hs)
  ·rw [step hs b rest k cs hb w1] at hst
   cases hst
   obtain ⟨r1, rfl⟩ := r.ofBoth
   have s1 := hs.rely r1
   have hcd : ∀ i b, st.h.get i = some b → b.freeze ≠ .dead → (env i).blk ≠ (env ic).blk := fun i b hi hbd => s1.rel.disj ic i _ b hic hi (fun e => by subst e; rw [hic] at hi; cases hi; exact hbd rfl) rfl (by rintro rfl; exact hbd rfl)
   have RF := s1.rel.frozen (s1.rel.lt ic _ hic) hcd (ex' := extra.below w.heap.size) (fun r h => h.elim (fun h => s1.rel.keepLt r (.inr h)) fun h => Nat.lt_of_lt_of_le h r1.size) (fun _ h => h)
   have s2 := s1.put' hd (v := .undef) RF (Ext.refl _ _) (jd2 _).grow trivial
   have hltc : (env ic).blk < w.heap.size := hs.rel.lt ic _ hic
   have hg' : GSim C extra nt E (jgx .idle st ic p) (some ((env ic).blk, [p.prom C.lk w.heap.size])) ((kp.wider w.heap.size w1.heap.size).shared w1.heap.size (env ic).blk) env (St.put { st with h := st.h.freeze } o.dst .undef) (a.put o.dst undef) w1 :=
    ⟨_, _, kp, env, w, rfl, hS, s2, by simp, hic, rfl, rfl, fun q hq => by rw [List.mem_singleton] at hq; subst hq; exact hpok, Ext.refl _ _, by rw [put_h]; exact jd2 _, fun r hr => Nat.lt_of_lt_of_le hr r1.size, .inr rfl, fun r x => .inl (.inl x),
     fun r x => by
      rcases x with (x | x) | x
      ·exact .inl x
      ·exact .inr (.inr x.1)
      ·exact .inr (.inl x),
     fun r hr hn _ => r1.row r hr hn, r1.size, r1.os, r1.tape, r1.output⟩
   exact (hk _ _ _ _ ⟨_, env, _, hg', hK⟩).resolve_right hp
 | busy ic' aps hs =>
  obtain ⟨c0, ps, kps, envs, ws, rfl, B⟩ := S
  have hic : ic = ic' := hic
  subst hic
  have hne : ps ≠ [] := by rw [B.hps]; intro e; exact B.ne (List.map_eq_nil_iff.1 e)
  have hcc : (env ic).blk = c0 := by rw [B.ext ic (by simp [Heap.ok, B.chan]), B.hc]
  by_cases hp : pr
  ·exact .inr hp
  refine .inl (.spawn c0 (p.prom C.lk ws.heap.size) rfl (.inr ⟨hne, rfl⟩) (fun kq w1 r => ⟨_, _, step B.sim b rest k cs hb w1, rfl, rfl⟩) (fun kp1 w1 g' ch r hst => ?_) (fun kp1 w1 g' ch r hst => ?_))
  ·rw [step B.sim b rest k cs hb w1] at hst
   cases hst
   have B1 := B.rely r
   have s1 := B1.sim
   have hcd : ∀ i b, st.h.get i = some b → b.freeze ≠ .dead → (env i).blk ≠ c0 := fun i b hi hbd e => s1.rel.hid i b hi (by rintro rfl; exact hbd rfl) (.inl (by rw [e]; exact B1.hidec))
   have RF := s1.rel.frozen (s1.rel.hidLt _ (.inl B1.hidec)) hcd (ex' := Keep.nil) (fun _ h => h.elim) (fun _ h => h.elim)
   have := hW ws.heap.size _ env w1 RF B1.size (fun r hr => hr) (.inr hcc) (by rw [jfl]; exact key B.sim)
   rw [hcc] at this
   exact this
  ·rw [step B.sim b rest k cs hb w1] at hst
   cases hst
   have B1 := B.rely r
   have s1 := B1.sim
   have hcd : ∀ i b, st.h.get i = some b → b.freeze ≠ .dead → (env i).blk ≠ c0 := fun i b hi hbd e => s1.rel.hid i b hi (by rintro rfl; exact hbd rfl) (.inl (by rw [e]; exact B1.hidec))
   have RF := s1.rel.frozen (s1.rel.hidLt _ (.inl B1.hidec)) hcd (ex' := extra.below ws.heap.size) (fun r h => s1.rel.keepLt r (.inr h)) (fun _ h => h)
   have s2 := s1.put' hd (v := .undef) RF (Ext.refl _ _) (jd2 _).grow trivial
   have hg' : GSim C extra nt E (jgx (.busy ic aps hs) st ic p) (some (c0, ps ++ [p.prom C.lk ws.heap.size])) (kp1.shared w1.heap.size c0) env (St.put { st with h := st.h.freeze } o.dst .undef) (a.put o.dst undef) w1 :=
    ⟨_, _, kps, envs, ws, rfl, B1.snap, s2, by simp, B1.chan, B1.hc, by rw [B1.hps]; simp, fun q hq => by
      rcases List.mem_append.1 hq with hq | hq
      ·exact B1.ok q hq
      ·rw [List.mem_singleton] at hq; subst hq; exact hpok,
     B1.ext, by rw [put_h]; exact B1.hle.trans (jd2 _), fun r hr => Nat.lt_of_lt_of_le hr B1.size, .inl B1.hidec, fun r x => .inl (B1.hide r x),
     fun r x => by
      rcases x with x | x
      ·exact B1.hide' r x
      ·exact .inr (.inl x),
     B1.rows, B1.size, B1.os, B1.tape, B1.output⟩
   exact (hk _ _ _ _ ⟨_, env, _, hg', hK⟩).resolve_right hp
end
end Go.Ae
namespace Go.Ae
open Go.Conc
section
variable {C : Ctx} {extra : Keep} {nt : Nat} {E : Ent}
theorem jmw {ops : Array Oper} {o : Oper} {dst : Option Nat} {x : AOpd} (h : jaj C.P C.inv nt ops o = { dst := dst, op := .comm 1 [x], guard := none }) :
  ∃ t ch d e z, o.op = .recv t ch false ∧ C.P.underlying t = some (.chan d e) ∧ zeroT C.P e = some z ∧ lowerOpd C.inv ch = some x ∧ o.dst = dst ∧ dstOk nt o.dst = true ∧ o.guard = none := by
 unfold jaj at h
 split at h
 ·rename_i aop g h1 h2 h3
  simp only [AOper.mk.injEq] at h
  obtain ⟨hd, rfl, rfl⟩ := h
  have hg : o.guard = none := by
   cases hg : o.guard with
   | none => rfl
   | some jw =>
    obtain ⟨j, want⟩ := jw
    rw [hg] at h3
    simp only [jbB] at h3
    split at h3 <;> cases h3
  cases hop : o.op with
  | recv t ch comma =>
   rw [hop] at h1
   simp only [lowerOp] at h1
   split at h1
   ·rename_i d e x' ht hx
    simp only [Option.map_eq_some_iff] at h1
    obtain ⟨z, hz, he⟩ := h1
    cases he
    exact ⟨t, ch, d, e, z, rfl, ht, hz, hx, hd, h2, hg⟩
   ·cases h1
  | call c =>
   exfalso
   rw [hop] at h1
   have h1' : ja1 C.P C.inv c = some (.comm 1 [x]) := h1
   unfold ja1 at h1'
   split at h1'
   ·split at h1'
    ·simp only [Option.map_eq_some_iff] at h1'; obtain ⟨_, _, h1'⟩ := h1'; cases h1'
    ·unfold jaT at h1'
     repeat' split at h1'
     all_goals first
      | (cases h1'; done)
      | (simp only [Option.map_eq_some_iff] at h1'; obtain ⟨_, _, h1'⟩ := h1'; cases h1'; done)
    ·cases h1'
   ·cases h1'
  | makeFunc fn x y =>
   exfalso
   rw [hop] at h1
   cases fn <;> simp only [lowerOp] at h1
   all_goals first | (cases h1; done) | ((repeat' split at h1) <;> cases h1; done)
  | makeMap _ r => exfalso; rw [hop] at h1; cases r <;> simp only [lowerOp, lowerMap] at h1 <;> (repeat' split at h1) <;> cases h1
  | mapUpdate _ _ _ _ => exfalso; rw [hop] at h1; simp only [lowerOp, lowerMap] at h1; (repeat' split at h1) <;> first | (cases h1; done) | (simp only [Option.map_eq_some_iff] at h1; obtain ⟨_, _, h1⟩ := h1; cases h1; done)
  | insert _ _ _ _ => exfalso; rw [hop] at h1; simp only [lowerOp, lowerMap] at h1; (repeat' split at h1) <;> first | (cases h1; done) | (simp only [Option.map_eq_some_iff] at h1; obtain ⟨_, _, h1⟩ := h1; cases h1; done)
  | lookup _ _ _ _ => exfalso; rw [hop] at h1; simp only [lowerOp, lowerMap] at h1; (repeat' split at h1) <;> first | (cases h1; done) | (simp only [Option.map_eq_some_iff] at h1; obtain ⟨_, _, h1⟩ := h1; cases h1; done)
  | _ =>
   exfalso
   rw [hop] at h1
   first
    | (simp only [lowerOp] at h1; (repeat' split at h1) <;> first | (cases h1; done) | (simp only [Option.map_eq_some_iff] at h1; obtain ⟨_, _, h1⟩ := h1; cases h1; done))
    | (unfold lowerOp at h1; simp only [jbu, jaF] at h1; (repeat' split at h1) <;> first | (cases h1; done) | (simp only [Option.map_eq_some_iff] at h1; obtain ⟨_, _, h1⟩ := h1; cases h1; done))
 ·cases h
theorem Rel.less {keep keep' : Keep} {env : Env} {h : Heap} {w w' : World} (R : Rel C keep env h w) (hno : ∀ r, keep'.no r → keep.no r) (hhide : ∀ r, keep'.hide r → keep.hide r) (hsz : w'.heap.size = w.heap.size)
  (hrow : ∀ r, r < w.heap.size → ¬ keep.hide r → w'.heap[r]? = w.heap[r]?) : Rel C keep' env h w' := by
 refine ⟨fun i b hi => by rw [hsz]; exact R.lt i b hi, fun i b hi => ?_, R.disj, R.bel, fun i b hi hw x => R.kept i b hi hw (hno _ x), fun r x => by rw [hsz]; exact R.keepLt r (hno r x), fun i b hi hd x => R.hid i b hi hd (hhide _ x), fun r x => by rw [hsz]; exact R.hidLt r (hhide r x)⟩
 by_cases hd : b = .dead
 ·subst hd; trivial
 ·exact (R.blk i b hi).mono (Ext.refl h env) (R.bel i b hi) (hrow _ (R.lt i b hi) (R.hid i b hi hd))
theorem Rel.view {keep : Keep} {env : Env} {h : Heap} {w : World} (R : Rel C keep env h w) (e : EB) {vs : List AV} (hlt : e.blk < w.heap.size) (hh : ¬ keep.hide e.blk) (hw : ∀ i b, h.get i = some b → b.wr = true → (env i).blk ≠ e.blk)
  (hv : ∀ v ∈ vs, v.bel fun _ => False) (hc : ∀ k v, vs[k]? = some v → w.cell? ⟨e.blk, e.sh + k, none⟩ = some (v.val C.lk (fun _ => e))) : Rel C keep (updE env h.size e) (h.push (.cells vs false 0)) w := by
 have X : Ext h env (updE env h.size e) := jbL (h.wf _ (Nat.le_refl _)) env e
 have hself : updE env h.size e h.size = e := by simp [updE]
 have hold : ∀ i b, h.get i = some b → updE env h.size e i = env i := fun i b hb => X i (by simp [Heap.ok, hb])
 refine ⟨fun i b hi => ?_, fun i b hi => ?_, fun i j b c hi hj hij hwr hcd => ?_, fun i b hi => ?_, fun i b hi hwr x => ?_, R.keepLt, fun i b hi hd x => ?_, R.hidLt⟩
 all_goals rw [Heap.get_push] at hi
 ·by_cases ei : i = h.size
  ·rw [ei, hself]; exact hlt
  ·rw [if_neg ei] at hi; rw [hold i b hi]; exact R.lt i b hi
 ·by_cases ei : i = h.size
  ·rw [if_pos ei] at hi; cases hi
   rw [ei, hself]
   intro k v hk
   rw [hc k v hk]
   congr 1
   exact jcU (fun _ h => h.elim) v (hv v (List.mem_of_getElem? hk))
  ·rw [if_neg ei] at hi; rw [hold i b hi]
   exact (R.blk i b hi).mono X (R.bel i b hi) rfl
 ·rw [Heap.get_push] at hj
  by_cases ei : i = h.size
  ·rw [if_pos ei] at hi; cases hi; cases hwr
  ·rw [if_neg ei] at hi
   rw [hold i b hi]
   by_cases ej : j = h.size
   ·rw [ej, hself]; exact fun x => hw i b hi hwr x.symm
   ·rw [if_neg ej] at hj; rw [hold j c hj]; exact R.disj i j b c hi hj hij hwr hcd
 ·by_cases ei : i = h.size
  ·rw [if_pos ei] at hi; cases hi
   exact fun v hvm => bel_mono (fun _ h => h.elim) v (hv v hvm)
  ·rw [if_neg ei] at hi; exact ABlk.bel_mono (fun j hj => jeS.2 (.inr hj)) (R.bel i b hi)
 ·by_cases ei : i = h.size
  ·rw [if_pos ei] at hi; cases hi; cases hwr
  ·rw [if_neg ei] at hi; rw [hold i b hi] at x; exact R.kept i b hi hwr x
 ·by_cases ei : i = h.size
  ·rw [ei, hself] at x; exact hh x
  ·rw [if_neg ei] at hi; rw [hold i b hi] at x; exact R.hid i b hi hd x
theorem Rel.land {keep : Keep} {env : Env} {h : Heap} {w : World} (R : Rel C keep env h w) {p : AProm} (hp : p.Ok) {B : Nat} {T : Nat → Prop} {v : Value} {w0 : World} (hΦ : p.prom C.lk B v w0 T)
  (hT : ∀ r, T r → r < w.heap.size ∧ ¬ keep.hide r ∧ (∀ i b, h.get i = some b → b.wr = true → (env i).blk ≠ r) ∧ w.heap[r]? = w0.heap[r]?) :
  ∃ env', Rel C keep env' (p.land h) w ∧ Ext h env env' ∧ HLe h (p.land h) ∧ v = (p.av h.size).val C.lk env' ∧ (p.av h.size).bel (p.land h).ok := by
 obtain ⟨e, rfl, hΦ⟩ := hΦ
 unfold AProm.land
 cases hb : p.blk with
 | none =>
  refine ⟨env, R, Ext.refl _ _, HLe.refl _, ?_, hp.bel _ _ fun x => absurd hb x⟩
  rw [hp.shift C.lk h.size env]
  exact jcU (fun _ h => h.elim) _ (hp.bel 0 (fun _ => False) fun x => absurd hb x)
 | some vs =>
  rw [hb] at hΦ
  obtain ⟨h1, h2, h3, h4⟩ := hΦ
  obtain ⟨t1, t2, t3, t4⟩ := hT e.blk ((h3 _).2 rfl)
  refine ⟨updE env h.size e, R.view e t1 t2 t3 (hp.cells vs hb) (fun k v hk => ?_), jbL (h.wf _ (Nat.le_refl _)) env e, jhx (n := none) rfl rfl _, ?_, hp.bel _ _ fun _ => jeS.2 (.inl rfl)⟩
  ·rw [← h4 k v hk]
   exact World.cell?_of_block (w := w0) (w' := w) (a := ⟨e.blk, e.sh + k, none⟩) t4
  ·rw [hp.shift _ h.size]
   simp [updE]
theorem jcd {hs h : Heap} {ic i : Nat} {b : ABlk} (h1 : (hs.thaw ic h).get i = some b) : i < h.size ∧ ((i < hs.size ∧ ((i = ic ∧ b = .dead) ∨ (i ≠ ic ∧ hs.get i = some b))) ∨ (hs.size ≤ i ∧ ∃ b', h.get i = some b' ∧ b = if b'.wr then b' else .dead)) := by
 unfold Heap.thaw at h1
 dsimp only at h1
 split at h1
 ·rename_i hlt
  refine ⟨hlt, ?_⟩
  split at h1
  ·rename_i h2
   split at h1
   ·rename_i e; cases h1; exact .inl ⟨h2, .inl ⟨e, rfl⟩⟩
   ·rename_i e; exact .inl ⟨h2, .inr ⟨e, h1⟩⟩
  ·rename_i h2
   simp only [Option.map_eq_some_iff] at h1
   obtain ⟨b', hb', e⟩ := h1
   exact .inr ⟨by omega, b', hb', e.symm⟩
 ·cases h1
theorem Busy.thaw {ic : Nat} {aps : List AProm} {hs : Heap} {c : Nat} {ps : List Prom} {kps : Keep} {envs : Env} {ws : World} {kp : Keep} {env : Env} {st : St} {a : Act} {w W : World} (B : Busy C extra nt E ic aps hs c ps kps envs ws kp env st a w)
  {T : Nat → Prop} (hT : ∀ r, T r → ws.heap.size ≤ r) (hsz : W.heap.size = w.heap.size) (hos : W.os = w.os) (htp : W.tape = w.tape) (hout : W.output = w.output) (hrow : ∀ r, r ≠ c → W.heap[r]? = w.heap[r]?) :
  Snap C extra E ⟨kps.no, fun r => kp.hide r ∧ ¬ T r⟩ env (hs.thaw ic st.h) W ∧ HLe st.h (hs.thaw ic st.h) ∧ ∀ i b, (hs.thaw ic st.h).get i = some b → b.wr = true → ¬ kp.hide (env i).blk := by
 have R0 := B.snap.rel
 have R1 := B.sim.rel
 have hss := B.size
 have envO : ∀ {i b}, hs.get i = some b → env i = envs i := fun {i b} hb => B.ext i (by simp [Heap.ok, hb])
 -- of an old block that is live
 have old : ∀ {i b}, i ≠ ic → hs.get i = some b → b ≠ .dead → (env i).blk < ws.heap.size ∧ ¬ kps.hide (env i).blk ∧ (env i).blk ≠ c := by
  intro i b hne hb hd
  rw [envO hb]
  refine ⟨R0.lt i b hb, fun x => R0.hid i b hb hd (.inl x), ?_⟩
  rw [B.hc]
  exact R0.disj ic i _ b B.chan hb (Ne.symm hne) rfl hd
 have oldH : ∀ {i b}, i ≠ ic → hs.get i = some b → b ≠ .dead → ¬ kp.hide (env i).blk := by
  intro i b hne hb hd x
  obtain ⟨o1, o2, o3⟩ := old hne hb hd
  rcases B.hide' _ x with y | y | y
  ·exact o2 y
  ·exact o3 y
  ·omega
 have oldW : ∀ {i b}, i ≠ ic → hs.get i = some b → b ≠ .dead → W.heap[(env i).blk]? = ws.heap[(env i).blk]? := by
  intro i b hne hb hd
  obtain ⟨o1, o2, o3⟩ := old hne hb hd
  rw [hrow _ o3, B.rows _ o1 o2 o3]
 -- of a new one that may be written
 have new : ∀ {i b}, hs.size ≤ i → st.h.get i = some b → b.wr = true → ws.heap.size ≤ (env i).blk ∧ ¬ kp.hide (env i).blk ∧ (env i).blk ≠ c ∧ b ≠ .dead := by
  intro i b hi hb hw
  have hd : b ≠ .dead := by rintro rfl; cases hw
  have hh : ¬ kp.hide (env i).blk := fun x => R1.hid i b hb hd (.inl x)
  refine ⟨?_, hh, fun e => hh (by rw [e]; exact B.hidec), hd⟩
  rcases Nat.lt_or_ge (env i).blk ws.heap.size with x | x
  ·exact absurd (.inr (.inr x)) (R1.kept i b hb hw)
  ·exact x
 have okT : ∀ i, st.h.ok i → (hs.thaw ic st.h).ok i := by
  intro i hi
  have hlt := Heap.lt_of_ok hi
  simp only [Heap.ok, Heap.thaw, if_pos hlt]
  by_cases h2 : i < hs.size
  ·rw [if_pos h2]
   by_cases e : i = ic
   ·rw [if_pos e]; rfl
   ·rw [if_neg e, ← B.hle.same i h2]; exact hi
  ·rw [if_neg h2]
   simp only [Heap.ok] at hi
   simpa using hi
 have hleT : HLe st.h (hs.thaw ic st.h) := by
  refine ⟨Nat.le_refl _, fun i hi => ?_⟩
  cases hg : st.h.get i with
  | some b => have := okT i (by simp [Heap.ok, hg]); simpa [Heap.ok] using this
  | none =>
   show ((hs.thaw ic st.h).get i).isSome = false
   cases ht : (hs.thaw ic st.h).get i with
   | none => rfl
   | some b =>
    exfalso
    obtain ⟨_, ⟨h2, h3⟩ | ⟨_, b', hb', _⟩⟩ := jcd ht
    ·have hsame := B.hle.same i h2
     rw [hg] at hsame
     rcases h3 with ⟨rfl, _⟩ | ⟨_, h3⟩
     ·rw [B.chan] at hsame; cases hsame
     ·rw [h3] at hsame; cases hsame
    ·rw [hg] at hb'; cases hb'
 have okS : ∀ i, hs.ok i → (hs.thaw ic st.h).ok i := fun i hi => okT i (B.hle.ok hi)
 have hR : Rel C (Keep.or ⟨kps.no, fun r => kp.hide r ∧ ¬ T r⟩ extra) env (hs.thaw ic st.h) W := by
  refine ⟨fun i b hi => ?_, fun i b hi => ?_, fun i j b d hi hj hij hw hd => ?_, fun i b hi => ?_, fun i b hi hw x => ?_, fun r x => ?_, fun i b hi hd x => ?_, fun r x => ?_⟩
  ·rw [hsz]
   obtain ⟨_, ⟨h2, h3⟩ | ⟨_, b', hb', _⟩⟩ := jcd hi
   ·rcases h3 with ⟨rfl, _⟩ | ⟨_, h3⟩
    ·rw [envO B.chan]; exact Nat.lt_of_lt_of_le (R0.lt _ _ B.chan) hss
    ·rw [envO h3]; exact Nat.lt_of_lt_of_le (R0.lt _ _ h3) hss
   ·exact R1.lt i b' hb'
  ·obtain ⟨_, ⟨h2, h3⟩ | ⟨hi2, b', hb', e⟩⟩ := jcd hi
   ·rcases h3 with ⟨_, rfl⟩ | ⟨hne, h3⟩
    ·trivial
    ·by_cases hd : b = .dead
     ·subst hd; trivial
     ·have := oldW hne h3 hd
      rw [envO h3] at this ⊢
      exact (R0.blk i b h3).mono B.ext (R0.bel i b h3) this
   ·by_cases hw : b'.wr = true
    ·rw [if_pos hw] at e
     subst e
     obtain ⟨n1, n2, n3, n4⟩ := new hi2 hb' hw
     exact (R1.blk i b hb').mono (Ext.refl _ _) (R1.bel i b hb') (hrow _ n3)
    ·rw [if_neg hw] at e; subst e; trivial
  ·obtain ⟨_, ⟨h2, h3⟩ | ⟨hi2, b', hb', e⟩⟩ := jcd hi
   ·rcases h3 with ⟨_, rfl⟩ | ⟨hne, h3⟩
    ·cases hw
    ·have hbd : b ≠ .dead := by rintro rfl; cases hw
     obtain ⟨o1, _, _⟩ := old hne h3 hbd
     obtain ⟨_, ⟨k2, k3⟩ | ⟨hj2, d', hd', e2⟩⟩ := jcd hj
     ·rcases k3 with ⟨_, rfl⟩ | ⟨hnj, k3⟩
      ·exact absurd rfl hd
      ·rw [envO h3, envO k3]; exact R0.disj i j b d h3 k3 hij hw hd
     ·by_cases hw2 : d'.wr = true
      ·have := (new hj2 hd' hw2).1; omega
      ·rw [if_neg hw2] at e2; exact absurd e2 hd
   ·by_cases hw1 : b'.wr = true
    ·rw [if_pos hw1] at e
     subst e
     have n1 := (new hi2 hb' hw1).1
     obtain ⟨_, ⟨k2, k3⟩ | ⟨hj2, d', hd', e2⟩⟩ := jcd hj
     ·rcases k3 with ⟨_, rfl⟩ | ⟨hnj, k3⟩
      ·exact absurd rfl hd
      ·have := (old hnj k3 hd).1; omega
     ·by_cases hw2 : d'.wr = true
      ·rw [if_pos hw2] at e2; subst e2; exact R1.disj i j b d hb' hd' hij hw hd
      ·rw [if_neg hw2] at e2; exact absurd e2 hd
    ·rw [if_neg hw1] at e; subst e; cases hw
  ·obtain ⟨_, ⟨h2, h3⟩ | ⟨hi2, b', hb', e⟩⟩ := jcd hi
   ·rcases h3 with ⟨_, rfl⟩ | ⟨hne, h3⟩
    ·trivial
    ·exact ABlk.bel_mono okS (R0.bel i b h3)
   ·by_cases hw : b'.wr = true
    ·rw [if_pos hw] at e; subst e; exact ABlk.bel_mono okT (R1.bel i b hb')
    ·rw [if_neg hw] at e; subst e; trivial
  ·obtain ⟨_, ⟨h2, h3⟩ | ⟨hi2, b', hb', e⟩⟩ := jcd hi
   ·rcases h3 with ⟨_, rfl⟩ | ⟨hne, h3⟩
    ·cases hw
    ·have hbd : b ≠ .dead := by rintro rfl; cases hw
     rw [envO h3] at x; exact R0.kept i b h3 hw x
   ·by_cases hw1 : b'.wr = true
    ·rw [if_pos hw1] at e
     subst e
     obtain ⟨n1, n2, _, _⟩ := new hi2 hb' hw1
     have := R0.keepLt _ x; omega
    ·rw [if_neg hw1] at e; subst e; cases hw
  ·rw [hsz]
   exact Nat.lt_of_lt_of_le (R0.keepLt r x) hss
  ·obtain ⟨_, ⟨h2, h3⟩ | ⟨hi2, b', hb', e⟩⟩ := jcd hi
   ·rcases h3 with ⟨_, rfl⟩ | ⟨hne, h3⟩
    ·exact hd rfl
    ·rcases x with x | x
     ·exact oldH hne h3 hd x.1
     ·rw [envO h3] at x; exact R0.hid i b h3 hd (.inr x)
   ·by_cases hw1 : b'.wr = true
    ·rw [if_pos hw1] at e
     subst e
     rcases x with x | x
     ·exact R1.hid i b hb' hd (.inl x.1)
     ·exact R1.hid i b hb' hd (.inr x)
    ·rw [if_neg hw1] at e; exact hd e
  ·rw [hsz]
   rcases x with x | x
   ·exact R1.hidLt r (.inl x.1)
   ·exact Nat.lt_of_lt_of_le (R0.hidLt r (.inr x)) hss
 have hse := B.snap.since
 have hcw : E.w.heap.size ≤ ws.heap.size := hse.size
 refine ⟨⟨hR, ⟨?_, ?_, ?_, ?_, fun r hr he hn => ?_, fun r x => ?_, fun r he x => ?_⟩, B.snap.ext.trans B.snap.hle B.ext, (B.snap.hle.trans B.hle).trans hleT, B.snap.no, B.snap.no'⟩, hleT, fun i b hi hw x => ?_⟩
 ·rw [hsz]; omega
 ·rw [hos, B.os, hse.os]
 ·rw [htp, B.tape, hse.tape]
 ·rw [hout, B.output, hse.output]
 ·have hnk : ¬ kps.hide r := fun x => (hse.hide' r he x).elim hn fun y => by omega
  have hrc : r ≠ c := fun e => R0.kept ic _ B.chan rfl (.inr (by rw [← B.hc, ← e]; exact he))
  rw [hrow r hrc, B.rows r (by omega) hnk hrc, hse.block r hr he hn]
 ·have y := hse.hide r x
  refine ⟨B.hide r y, fun t => ?_⟩
  have := hT r t
  have := R0.hidLt r (.inl y)
  omega
 ·rcases B.hide' r x.1 with y | y | y
  ·exact hse.hide' r he y
  ·exact absurd (.inr (by rw [← B.hc, ← y]; exact he)) (R0.kept ic _ B.chan rfl)
  ·exact .inr (by omega)
 ·obtain ⟨_, ⟨h2, h3⟩ | ⟨hi2, b', hb', e⟩⟩ := jcd hi
  ·rcases h3 with ⟨_, rfl⟩ | ⟨hne, h3⟩
   ·cases hw
   ·exact oldH hne h3 (by rintro rfl; cases hw) x
  ·by_cases hw1 : b'.wr = true
   ·exact (new hi2 hb' hw1).2.1 x
   ·rw [if_neg hw1] at e; subst e; cases hw
end
end Go.Ae
namespace Go.Ae
open Go.Conc
section
variable {C : Ctx} {extra : Keep} {nt : Nat} {E : Ent}
def jlj (g : Gh) (ch : AV) (dst : Option Nat) (K : Gh → St → Prop) (st : St) : Prop :=
 match g with
 | .idle => False
 | .busy ic aps hs => ch = .chan ic ∧ ∀ A p B, aps = A ++ p :: B →
   (A ++ B ≠ [] → K (.busy ic (A ++ B) hs) (St.put { st with h := p.land st.h } dst (p.av st.h.size))) ∧
   (A ++ B = [] → K .idle (St.put { st with h := p.land (hs.thaw ic st.h) } dst (p.av st.h.size)))
theorem jjt {α β : Type} {f : α → β} {l : List α} {A B : List β} {x : β} (h : l.map f = A ++ x :: B) : ∃ A' y B', l = A' ++ y :: B' ∧ A'.map f = A ∧ f y = x ∧ B'.map f = B := by
 obtain ⟨l1, l2, rfl, h1, h2⟩ := List.map_eq_append_iff.1 h
 obtain ⟨y, B', rfl, h3, h4⟩ := List.map_eq_cons_iff.1 h2
 exact ⟨l1, y, B', rfl, h1, h3, h4⟩
theorem jhr {b : Frame} {a : Act} {ops : Array Oper} {i : Nat} {rest : List Nat} {k : List Item} {cs : List Frame} {o : Oper} {v : Value} (ho : ops[i]? = some o) :
  Conc.served (G (b.atR a (.inRegion ops (i :: rest) :: k)) cs) v = G (b.atR (a.put o.dst v) (.inRegion ops rest :: k)) cs := by
 have : (b.atR a (.inRegion ops (i :: rest) :: k)).finish v = b.atR (a.put o.dst v) (.inRegion ops rest :: k) := by rw [Frame.finish_atR, ho]; rfl
 simp only [Conc.served, G, this]
theorem jr0 {g : Gh} {ops : Array Oper} {i : Nat} {o : Oper} {ph : Phase} {kp : Keep} {env : Env} {st : St} {a : Act} {w : World} {K : Gh → St → Prop} (S : GSim C extra nt E g ph kp env st a w) (ho : ops[i]? = some o) {dst : Option Nat} {x : AOpd}
  (hl : jaj C.P C.inv nt ops o = { dst := dst, op := .comm 1 [x], guard := none }) (h : jlj g (x.ev st.t) dst K st) :
  OpM C.P ops i (fun ph' kp' a' w' => ∃ g' env' st', GSim C extra nt E g' ph' kp' env' st' a' w' ∧ K g' st') ph kp a w := by
 obtain ⟨t, ch, d, e, z, hop, ht, hz, hx, rfl, hd, hg⟩ := jmw hl
 have hw := jcF hg (yielded ops a.tmps)
 cases g with
 | idle => exact h.elim
 | busy ic aps hs =>
  obtain ⟨hch, h⟩ := h
  obtain ⟨c0, ps, kps, envs, ws, rfl, B⟩ := S
  have hcc : (env ic).blk = c0 := by rw [B.ext ic (by simp [Heap.ok, B.chan]), B.hc]
  have hev : a.eval ch = .chan (some c0) := by
   have := (B.sim.opd ch x hx).1
   rw [hch] at this
   simp only [AV.val, hcc] at this
   exact this
  have hzr : ∀ w1 : World, (zeroValue e).run C.P w1 = .ok (z.val C.lk env) w1 := fun w1 => (jiB (w := w1) (env := env) C.lk (fun _ => True) hz).1
  have run : ∀ w1, (execOp a.eval o).run C.P w1 = .ok (.comm #[rcase c0 (z.val C.lk env)] true (.recv false)) w1 ∧ (execOp a.eval o).events C.P w1 #[] = #[] := by
   intro w1
   have hu := run_underlying ht w1
   constructor
   ·simp only [execOp, hop, Sem.run_bind, hu, Result.andThen_ok, hzr, hev, Sem.run_pure, rcase]
   ·simp only [execOp, hop, Sem.events_bind, hu, Result.evThen_ok, hzr, events_underlying, events_zeroValue, Sem.events_pure]
  intro Fin pr b rest k cs hro hb hk
  have step : ∀ w1, stepG C.P true (G (b.atR a (.inRegion ops (i :: rest) :: k)) cs) w1 = .comm (G (b.atR a (.inRegion ops (i :: rest) :: k)) cs) #[rcase c0 (z.val C.lk env)] true (.recv false) w1 #[] := by
   intro w1
   obtain ⟨h1, h2⟩ := run w1
   rw [jm1 ho hw (fun c' e => by rw [hop] at e; cases e) hb h1]
   simp only [evs, h2, seen_none]
  have hne : ps ≠ [] := by rw [B.hps]; intro e; exact B.ne (List.map_eq_nil_iff.1 e)
  by_cases hp : pr
  ·exact .inr hp
  refine .inl (.recv (z.val C.lk env) rfl hne (fun kp1 w1 r => step w1) fun A Φ B' v T kp1 w1 s r e r1 hΦ hT => ?_)
  rw [jhr ho]
  rw [B.hps] at e
  obtain ⟨A1, p, B1, rfl, hA, rfl, hB⟩ := jjt e
  have BB := B.rely r1
  have hpok : p.Ok := B.ok p (by simp)
  obtain ⟨hk1, hk2⟩ := h A1 p B1 rfl
  have hrow : ∀ q, q ≠ c0 → (w1.setChan c0 0 #[] false s r false).heap[q]? = w1.heap[q]? := fun q hq => by
   simp only [World.setChan]; exact Array.getElem?_setIfInBounds_ne (Ne.symm hq)
  have hsz : (w1.setChan c0 0 #[] false s r false).heap.size = w1.heap.size := by simp [World.setChan]
  have hTB : ∀ q, T q → ws.heap.size ≤ q := by
   intro q hq
   obtain ⟨e0, _, hm⟩ := hΦ
   cases hb' : p.blk with
   | none => rw [hb'] at hm; exact absurd hq (hm q)
   | some vs => rw [hb'] at hm; rw [(hm.2.2.1 q).1 hq]; exact hm.1
  by_cases hlast : A1 ++ B1 = []
  ·-- the last one
   have hAB : A ++ B' = [] := by rw [← hA, ← hB]; obtain ⟨h1, h2⟩ := List.append_eq_nil_iff.1 hlast; rw [h1, h2]; rfl
   obtain ⟨hS, hL, hwrT⟩ := BB.thaw (W := w1.setChan c0 0 #[] false s r false) hTB hsz rfl rfl rfl hrow
   obtain ⟨env', R', X', L', hv, hbel⟩ := hS.rel.land hpok hΦ fun q hq => by
    obtain ⟨t1, t2, t3⟩ := hT q hq
    refine ⟨by rw [hsz]; exact t1, fun y => ?_, fun i b hi hwr e => hwrT i b hi hwr (by rw [e]; exact t2), hrow q t3⟩
    rcases y with y | y
    ·exact y.2 hq
    ·have := BB.snap.rel.hidLt q (.inr y); have := hTB q hq; omega
   have s2 := BB.sim.put' hd (h' := p.land (hs.thaw ic st.h)) R' (fun j hj => X' j (hL.ok hj)) (hL.trans L').grow hbel
   rw [size_thaw] at hv hbel s2
   rw [← hv] at s2
   have hS2 : Snap C extra E _ env' (p.land (hs.thaw ic st.h)) _ := hS.keepJ (KeepJ.refl _ _ _) R' X' L'
   have := hk none ⟨kps.no, fun q => kp1.hide q ∧ ¬ T q⟩ (a.put o.dst v) _ ⟨.idle, env', _, ⟨rfl, by rw [put_h]; exact hS2, s2⟩, hk2 hlast⟩
   have j := this.resolve_right hp
   have j2 := j.idx c0 rfl
   rw [hAB]
   have hke : (Keep.both ⟨kps.no, fun q => kp1.hide q ∧ ¬ T q⟩) = kp1.take T (([] : List Prom) = []) := Keep.ext (fun q => by simp [Keep.both, Keep.take]) (fun q => by simp [Keep.both, Keep.take])
   rw [hke] at j2
   exact j2
  ·have hAB : A ++ B' ≠ [] := by
    rw [← hA, ← hB]; intro h0
    obtain ⟨h1, h2⟩ := List.append_eq_nil_iff.1 h0
    exact hlast (by rw [List.map_eq_nil_iff.1 h1, List.map_eq_nil_iff.1 h2]; rfl)
   have hno : ∀ q, (kp1.take T (A ++ B' = [])).no q ↔ kp1.no q ∧ ¬ T q := fun q => by simp [Keep.take, hAB]
   have hhi : ∀ q, (kp1.take T (A ++ B' = [])).hide q ↔ kp1.hide q ∧ ¬ T q := fun q => by simp [Keep.take]
   have R1 : Rel C ((kp1.take T (A ++ B' = [])).or (extra.below ws.heap.size)) env st.h (w1.setChan c0 0 #[] false s r false) :=
    BB.sim.rel.less (fun q y => y.imp (fun y => ((hno q).1 y).1) id) (fun q y => y.imp (fun y => ((hhi q).1 y).1) id) hsz fun q _ hn => hrow q fun e => hn (.inl (by rw [e]; exact BB.hidec))
   obtain ⟨env', R', X', L', hv, hbel⟩ := R1.land hpok hΦ fun q hq => by
    obtain ⟨t1, t2, t3⟩ := hT q hq
    refine ⟨by rw [hsz]; exact t1, fun y => ?_, fun i b hi hwr e => BB.sim.rel.hid i b hi (by rintro rfl; cases hwr) (.inl (by rw [e]; exact t2)), hrow q t3⟩
    rcases y with y | y
    ·exact ((hhi q).1 y).2 hq
    ·have := BB.snap.rel.hidLt q (.inr y); have := hTB q hq; omega
   have s2 := BB.sim.put' hd (h' := p.land st.h) R' X' L'.grow hbel
   rw [← hv] at s2
   have hg' : GSim C extra nt E (.busy ic (A1 ++ B1) hs) (some (c0, A ++ B')) (kp1.take T (A ++ B' = [])) env' (St.put { st with h := p.land st.h } o.dst (p.av st.h.size)) (a.put o.dst v) (w1.setChan c0 0 #[] false s r false) :=
    ⟨_, _, kps, envs, ws, rfl, BB.snap, s2, hlast, BB.chan, BB.hc, by rw [List.map_append, hA, hB], fun q hq => B.ok q (by
      rcases List.mem_append.1 hq with hq | hq
      ·simp [hq]
      ·simp [hq]),
     BB.ext.trans BB.hle X', by rw [put_h]; exact BB.hle.trans L', fun q hq => (hno q).2 ⟨BB.no q hq, fun t => by have := hTB q t; omega⟩, (hhi _).2 ⟨BB.hidec, fun t => (hT _ t).2.2 rfl⟩,
     fun q y => (hhi q).2 ⟨BB.hide q y, fun t => by have := hTB q t; have := BB.snap.rel.hidLt q (.inl y); omega⟩, fun q y => BB.hide' q ((hhi q).1 y).1,
     fun q hq hn hc => by rw [hrow q hc, BB.rows q hq hn hc], by rw [hsz]; exact BB.size, BB.os, BB.tape, BB.output⟩
   exact (hk _ _ _ _ ⟨_, env', _, hg', hk1 hlast⟩).resolve_right hp
end
end Go.Ae
