/- Texts of the proof, part 12: a second reading of the lowered code, proved sound, and what the functions compute. -/
import Derived.IntWalk
import Derived.Test.YthapekoffnjeeaaG11
set_option linter.unusedSimpArgs false
set_option linter.unusedVariables false
namespace Go.Ae
/-! ### Numbers -/
theorem w_i64 {x : Int} (h : -9223372036854775808 ≤ x ∧ x ≤ 9223372036854775807) : IntKind.i64.wrap x = x := IntWalk.i64_in x h
theorem w_i32 {x : Int} (h : -2147483648 ≤ x ∧ x ≤ 2147483647) : IntKind.i32.wrap x = x := IntWalk.i32_in x h
theorem w_u8 {x : Int} (h : 0 ≤ x ∧ x ≤ 255) : IntKind.u8.wrap x = x := IntWalk.u8_in x h
theorem w_u32 {x : Int} (h : 0 ≤ x ∧ x ≤ 4294967295) : IntKind.u32.wrap x = x := IntWalk.u32_in x h
theorem w_u64 {x : Int} (h : 0 ≤ x ∧ x ≤ 18446744073709551615) : IntKind.u64.wrap x = x := IntWalk.u64_in x h
theorem jrl {a b : Int} (h : 0 ≤ a) : a.tdiv b = a / b := Int.tdiv_eq_ediv_of_nonneg h
theorem jrm {a b : Int} (h : 0 ≤ a) : a.tmod b = a % b := Int.tmod_eq_emod_of_nonneg h
theorem jrn {a b : Int} (h : 0 ≤ b) : a.fdiv b = a / b := Int.fdiv_eq_ediv_of_nonneg a h
theorem jpQ : IntKind.i64.bits = 64 := rfl
theorem jpR : IntKind.u64.bits = 64 := rfl
theorem jpS : IntKind.u32.bits = 32 := rfl
theorem jpT : IntKind.i32.bits = 32 := rfl
theorem jro : IntKind.u8.bits = 8 := rfl
theorem jnK {b : Int} {n : Nat} (h : b ≤ n) : min b.toNat n = b.toNat := by omega
section
variable {k k' : IntKind} {a b : Int}
theorem jrp : binA .add (.int k a) (.int k b) = some (.int k (k.wrap (a + b))) := by simp [binA, jbI]
theorem jrq : binA .sub (.int k a) (.int k b) = some (.int k (k.wrap (a - b))) := by simp [binA, jbI]
theorem jrr : binA .mul (.int k a) (.int k b) = some (.int k (k.wrap (a * b))) := by simp [binA, jbI]
theorem jrs (h : b ≠ 0) : binA .quo (.int k a) (.int k b) = some (.int k (k.wrap (a.tdiv b))) := by simp [binA, jbI, h]
theorem jrt (h : b ≠ 0) : binA .rem (.int k a) (.int k b) = some (.int k (a.tmod b)) := by simp [binA, jbI, h]
theorem jru : binA .and (.int k a) (.int k b) = some (.int k (bitsA .and k a b)) := by simp [binA, jbI]
theorem jsn : binA .or (.int k a) (.int k b) = some (.int k (bitsA .or k a b)) := by simp [binA, jbI]
theorem jrv : binA .xor (.int k a) (.int k b) = some (.int k (bitsA .xor k a b)) := by simp [binA, jbI]
theorem jl1 : binA .andNot (.int k a) (.int k b) = some (.int k (bitsA .andNot k a b)) := by simp [binA, jbI]
theorem jrw : binA .eql (.int k a) (.int k b) = some (.bool (decide (a = b))) := by
 simp only [binA, jbI, if_true]; congr 2
theorem jrx : binA .neq (.int k a) (.int k b) = some (.bool (decide (a ≠ b))) := by
 simp only [binA, jbI, if_true]; congr 2; simp [bne, Bool.beq_eq_decide_eq]
theorem jry : binA .lss (.int k a) (.int k b) = some (.bool (decide (a < b))) := by simp [binA, jbI]
theorem jrz : binA .leq (.int k a) (.int k b) = some (.bool (decide (a ≤ b))) := by simp [binA, jbI]
theorem jrA : binA .gtr (.int k a) (.int k b) = some (.bool (decide (b < a))) := by simp [binA, jbI]
theorem jrB : binA .geq (.int k a) (.int k b) = some (.bool (decide (b ≤ a))) := by simp [binA, jbI]
theorem jrC (h : 0 ≤ b) : binA .shl (.int k a) (.int k' b) = some (.int k (k.wrap (a * 2 ^ (min b.toNat k.bits)))) := by
 simp only [binA]; rw [if_neg (by omega)]
theorem jrD (h : 0 ≤ b) : binA .shr (.int k a) (.int k' b) = some (.int k (a.fdiv (2 ^ (min b.toNat k.bits)))) := by
 simp only [binA]; rw [if_neg (by omega)]
theorem jnL (h : 0 ≤ a ∧ a ≤ 9223372036854775807) : bitsA .and .i64 a 1 = a % 2 := by
 obtain ⟨n, rfl⟩ := Int.eq_ofNat_of_zero_le h.1
 have hn : n < 2 ^ 64 := by omega
 have e1 : (BitVec.ofInt 64 (n : Int)).toNat = n := by
  rw [BitVec.toNat_ofInt]
  have : ((n : Int) % ((2 ^ 64 : Nat) : Int)).toNat = n := by
   rw [Int.emod_eq_of_lt (by omega) (by exact_mod_cast hn)]; simp
  exact this
 have e2 : (BitVec.ofInt 64 (1 : Int)).toNat = 1 := by decide
 show IntKind.i64.wrap ((BitVec.ofInt 64 (n : Int) &&& BitVec.ofInt 64 1).toNat : Int) = _
 rw [BitVec.toNat_and, e1, e2, Nat.and_one_is_mod, w_i64 (by omega)]
 omega
theorem jso : unA .neg (.int k a) = some (.int k (k.wrap (0 - a))) := rfl
theorem jsp {b : Bool} : unA .not (.bool b) = some (.bool !b) := rfl
theorem jsq : unA .xor (.int k a) = some (.int k (bitsA .xor k (if k.signed then -1 else k.max) a)) := rfl
theorem jpU : convA k (.int k' a) = some (.int k (k.wrap a)) := rfl
theorem jsr {a b : Bool} : eqbA false (.bool a) (.bool b) = some (.bool (a == b)) := rfl
theorem jss {a b : Bool} : eqbA true (.bool a) (.bool b) = some (.bool !(a == b)) := rfl
theorem jrE {x y : AV} : pickA x y (.bool true) = some x := rfl
theorem jrF {x y : AV} : pickA x y (.bool false) = some y := rfl
theorem jrG {x y : AV} {c : Prop} [Decidable c] (h : c) : pickA x y (.bool (decide c)) = some x := by simp [pickA, h]
theorem jrH {x y : AV} {c : Prop} [Decidable c] (h : ¬c) : pickA x y (.bool (decide c)) = some y := by simp [pickA, h]
theorem jrI {x y : AV} {b : Bool} (h : b = true) : pickA x y (.bool b) = some x := by simp [pickA, h]
theorem jrJ {x y : AV} {b : Bool} (h : ¬ b = true) : pickA x y (.bool b) = some y := by simp [pickA, h]
theorem jnM {vs : List AV} {i : Nat} : extA i (.tuple vs) = vs[i]? := rfl
theorem jrK : maxA [.int k a, .int k b] = some (.int k (max a b)) := by
 simp only [maxA, List.foldl, jcw, if_true]; congr 2; split <;> omega
theorem jnN {c : Int} : maxA [.int k a, .int k b, .int k c] = some (.int k (max (max a b) c)) := by
 simp only [maxA, List.foldl, jcw, if_true]; congr 2; split <;> split <;> omega
theorem jrL : minA [.int k a, .int k b] = some (.int k (min a b)) := by
 simp only [minA, List.foldl, jcx, if_true]; congr 2; split <;> omega
theorem jnO {c : Int} : minA [.int k a, .int k b, .int k c] = some (.int k (min (min a b) c)) := by
 simp only [minA, List.foldl, jcx, if_true]; congr 2; split <;> split <;> omega
end
/-! ### Heaps -/
structure HSub (h h' : Heap) : Prop where
 size : h.size ≤ h'.size
 get : ∀ i, i < h.size → h'.get i = h.get i
theorem HSub.refl (h : Heap) : HSub h h := ⟨Nat.le_refl _, fun _ _ => rfl⟩
theorem HSub.trans {a b c : Heap} (x : HSub a b) (y : HSub b c) : HSub a c := ⟨Nat.le_trans x.size y.size, fun i hi => (y.get i (Nat.lt_of_lt_of_le hi x.size)).trans (x.get i hi)⟩
theorem jaz {h : Heap} {b : ABlk} {i : Nat} (e : i = h.size) : (h.push b).get i = some b := by simp [Heap.get_push, e]
theorem jav {h : Heap} {b : ABlk} {i : Nat} (e : i < h.size) : (h.push b).get i = h.get i := by rw [Heap.get_push, if_neg (by omega)]
theorem jcr {h : Heap} {b : ABlk} {i j : Nat} (e : j = i) (hi : i < h.size) : (h.put i b).get j = some b := by rw [Heap.get_put _ _ _ _ hi, if_pos e]
theorem jaB {h : Heap} {b : ABlk} {i j : Nat} (e : j ≠ i) : (h.put i b).get j = h.get j := by
 show (if j = i then _ else h.get j) = _
 rw [if_neg e]
theorem HSub.push {h h' : Heap} (x : HSub h h') (b : ABlk) : HSub h (h'.push b) := ⟨by simp only [Heap.size_push]; have := x.size; omega, fun i hi => by rw [jav (Nat.lt_of_lt_of_le hi x.size)]; exact x.get i hi⟩
theorem HSub.put {h h' : Heap} (x : HSub h h') {i : Nat} (hi : h.size ≤ i) (b : ABlk) : HSub h (h'.put i b) := ⟨x.size, fun j hj => by rw [jaB (by omega)]; exact x.get j hj⟩
theorem HSub.reserve {h h' : Heap} (x : HSub h h') (n : Nat) : HSub h (h'.reserve n) := ⟨by simp only [Heap.size_reserve]; have := x.size; omega, fun i hi => x.get i hi⟩
theorem zR (h : Heap) : HSub h h := HSub.refl h
theorem zP {h h' : Heap} (x : HSub h h') (b : ABlk) : HSub h (h'.push b) := x.push b
theorem zV {h h' : Heap} (x : HSub h h') (n : Nat) : HSub h (h'.reserve n) := x.reserve n
theorem HSub.push1 (h : Heap) (b : ABlk) : HSub h (h.push b) := (HSub.refl h).push b
theorem heap_eq {h h' : Heap} (hs : h.size = h'.size) (hg : ∀ i, h.get i = h'.get i) : h = h' := by
 obtain ⟨s, g, w⟩ := h; obtain ⟨s', g', w'⟩ := h'
 cases hs
 have : g = g' := funext hg
 cases this; rfl
theorem jrM {h : Heap} {i : Nat} {b b' : ABlk} : (h.put i b).put i b' = h.put i b' := by
 refine heap_eq rfl fun j => ?_
 show (if j = i then _ else if j = i then _ else h.get j) = if j = i then _ else h.get j
 split <;> rfl
theorem jhX {h : Heap} {i : Nat} {b b' : ABlk} (e : i = h.size) : (h.push b).put i b' = h.push b' := by
 subst e
 refine heap_eq rfl fun j => ?_
 show (if j = h.size then (if h.size < h.size + 1 then some b' else none) else (if j = h.size then some b else h.get j)) = (if j = h.size then some b' else h.get j)
 split
 ·rw [if_pos (by omega)]
 ·rfl
theorem jka {h : Heap} {i : Nat} {b b' : ABlk} (e : i < h.size) : (h.push b).put i b' = (h.put i b').push b := by
 refine heap_eq rfl fun j => ?_
 show (if j = i then (if i < h.size + 1 then some b' else none) else (if j = h.size then some b else h.get j)) = (if j = h.size then some b else (if j = i then (if i < h.size then some b' else none) else h.get j))
 by_cases e1 : j = i
 ·subst e1
  rw [if_pos rfl, if_pos rfl, if_pos e, if_pos (by omega), if_neg (by omega)]
 ·rw [if_neg e1, if_neg e1]
def ints (l : List Int) : List AV := l.map (AV.int .i64)
theorem jb4 {l : List Int} : (ints l).length = l.length := by simp [ints]
theorem jhY {l : List Int} {k : Nat} (h : k < l.length) : (ints l)[k]? = some (.int .i64 (l.getD k 0)) := by simp [ints, h]
theorem jpV {l : List Int} {k : Nat} {x : Int} : (ints l).set k (.int .i64 x) = ints (l.set k x) := by simp [ints, List.map_set]
theorem jdL {l : List Int} {x : Int} : ints l ++ [.int .i64 x] = ints (l ++ [x]) := by simp [ints]
theorem jd8 {n : Nat} {x : Int} : List.replicate n (AV.int .i64 x) = ints (List.replicate n x) := by simp [ints]
theorem jk2 {l : List Int} {o n : Nat} : cut (ints l) o n = ints ((l.drop o).take n) := by simp [ints, cut]
theorem jpW {l : List Int} : (ints l).all AV.one = true := by simp [ints, AV.one]
theorem jgk {l : List AV} {n : Nat} (h : n = l.length) : cut l 0 n = l := by subst h; simp [cut]
theorem jnP {n : Nat} {x : AV} : jbl n [x] = List.replicate n x := rfl
def SL (h : Heap) (sz : Nat) (v : AV) (n : Nat) (cs : List AV) : Prop :=
 cs.length = n * sz ∧ n < 9223372036854775808 ∧ (v = .nilslice ∧ n = 0 ∨ ∃ i o c vs wr u, v = .slice i o n c ∧ h.get i = some (.cells vs wr u) ∧ o + n * sz ≤ vs.length ∧ cut vs o (n * sz) = cs ∧
  match c with | .known c => n ≤ c | .unk l => wr = true ∧ u = sz ∧ o = l * sz)
def RI (h : Heap) (v : AV) (l : List Int) : Prop := SL h 1 v l.length (ints l)
def elA (sz : Nat) (v : AV) (k : Nat) : AV :=
 match v with
 | .slice i o _ _ => .ptr i (o + k * sz)
 | _ => .undef
theorem ji3 {sz i o n c k} : elA sz (.slice i o n c) k = .ptr i (o + k * sz) := rfl
section
variable {h h' : Heap} {sz n : Nat} {v : AV} {cs : List AV} {l : List Int}
theorem SL.len (H : SL h sz v n cs) : lenA v = some (.int .i64 n) := by
 obtain ⟨_, _, ⟨rfl, rfl⟩ | ⟨i, o, c, vs, wr, u, rfl, _⟩⟩ := H <;> rfl
theorem SL.cells (H : SL h sz v n cs) : v.cells = [v] := by
 obtain ⟨_, _, ⟨rfl, rfl⟩ | ⟨i, o, c, vs, wr, u, rfl, _⟩⟩ := H <;> rfl
theorem SL.one (H : SL h sz v n cs) : v.one = true := by
 obtain ⟨_, _, ⟨rfl, rfl⟩ | ⟨i, o, c, vs, wr, u, rfl, _⟩⟩ := H <;> rfl
theorem SL.content (H : SL h sz v n cs) : jan h sz v = some (n, cs) := by
 obtain ⟨hl, hlt, ⟨rfl, rfl⟩ | ⟨i, o, c, vs, wr, u, rfl, hg, hle, hc, _⟩⟩ := H
 ·have : cs = [] := List.eq_nil_of_length_eq_zero (by omega)
  subst this; rfl
 ·simp only [jan, hg, if_pos hle, hc]
theorem SL.idx (H : SL h sz v n cs) {kk : IntKind} {k : Int} (hk : 0 ≤ k ∧ k < n) : idxA sz v (.int kk k) = some (elA sz v k.toNat) := by
 obtain ⟨_, _, ⟨rfl, rfl⟩ | ⟨i, o, c, vs, wr, u, rfl, _⟩⟩ := H
 ·omega
 ·simp only [idxA, if_pos hk, elA]
theorem SL.mono (H : SL h sz v n cs) (hs : HSub h h') : SL h' sz v n cs := by
 obtain ⟨hl, hlt, ⟨rfl, rfl⟩ | ⟨i, o, c, vs, wr, u, rfl, hg, r⟩⟩ := H
 ·exact ⟨hl, hlt, .inl ⟨rfl, rfl⟩⟩
 ·exact ⟨hl, hlt, .inr ⟨i, o, c, vs, wr, u, rfl, (hs.get i (Heap.lt_of_get hg)).trans hg, r⟩⟩
theorem SL.load1 (H : SL h 1 v n cs) {k : Nat} (hk : k < n) : loadA h false 1 (elA 1 v k) = cs[k]? := by
 obtain ⟨hl, hlt, ⟨rfl, rfl⟩ | ⟨i, o, c, vs, wr, u, rfl, hg, hle, hc, _⟩⟩ := H
 ·omega
 ·subst hc
  simp only [elA, loadA, hg, partA, cut, Bool.false_eq_true, if_false, Nat.mul_one]
  rw [List.getElem?_take_of_lt (by omega), List.getElem?_drop]
theorem SL.loadA (H : SL h sz v n cs) {k : Nat} (hk : k < n) : loadA h true sz (elA sz v k) = some (.agg (cut cs (k * sz) sz)) := by
 obtain ⟨hl, hlt, ⟨rfl, rfl⟩ | ⟨i, o, c, vs, wr, u, rfl, hg, hle, hc, _⟩⟩ := H
 ·omega
 ·subst hc
  have h1 : (k + 1) * sz ≤ n * sz := Nat.mul_le_mul_right sz hk
  have h2 : (k + 1) * sz = k * sz + sz := by rw [Nat.add_mul, Nat.one_mul]
  simp only [elA, Ae.loadA, hg, partA, if_true]
  rw [if_pos (by omega)]
  congr 2
  simp only [cut, List.drop_take, List.drop_drop, List.take_take]
  rw [show min sz (n * sz - k * sz) = sz by omega]
theorem RI.len (H : RI h v l) : lenA v = some (.int .i64 l.length) := SL.len H
theorem RI.cells (H : RI h v l) : v.cells = [v] := SL.cells H
theorem RI.one (H : RI h v l) : v.one = true := SL.one H
theorem RI.content (H : RI h v l) : jan h 1 v = some (l.length, ints l) := SL.content H
theorem RI.idx (H : RI h v l) {kk : IntKind} {k : Int} (hk : 0 ≤ k ∧ k < l.length) : idxA 1 v (.int kk k) = some (elA 1 v k.toNat) := SL.idx H hk
theorem RI.mono (H : RI h v l) (hs : HSub h h') : RI h' v l := SL.mono H hs
theorem RI.load (H : RI h v l) {k : Nat} (hk : k < l.length) : Ae.loadA h false 1 (elA 1 v k) = some (.int .i64 (l.getD k 0)) := by
 rw [SL.load1 H hk, jhY hk]
theorem RI.loadC (H : RI h v l) : ∀ (h' : Heap) (k : Nat), HSub h h' → k < l.length → Ae.loadA h' false 1 (elA 1 v k) = some (.int .i64 (l.getD k 0)) := fun _ _ hs hk => (H.mono hs).load hk
theorem RI.contentC (H : RI h v l) : ∀ (h' : Heap), HSub h h' → jan h' 1 v = some (l.length, ints l) := fun _ hs => (H.mono hs).content
theorem RI.nil : RI h .nilslice [] := ⟨rfl, by decide, .inl ⟨rfl, rfl⟩⟩
theorem SL.lt (H : SL h sz v n cs) : n < 9223372036854775808 := H.2.1
theorem RI.lt (H : RI h v l) : l.length < 9223372036854775808 := H.2.1
theorem RI.known {i : Nat} {wr : Bool} {u c m : Nat} (hg : h.get i = some (.cells (ints l) wr u)) (hm : m = l.length ∧ m < 9223372036854775808) (hc : m ≤ c) : RI h (.slice i 0 m (.known c)) l := by
 obtain ⟨rfl, hm⟩ := hm
 refine ⟨by simp [ints], hm, .inr ⟨i, 0, _, _, wr, u, rfl, hg, by simp [ints], ?_, hc⟩⟩
 exact jgk (by simp [ints])
theorem RI.unk {i m : Nat} (hg : h.get i = some (.cells (ints l) true 1)) (hm : m = l.length ∧ m < 9223372036854775808) : RI h (.slice i 0 m (.unk 0)) l := by
 obtain ⟨rfl, hm⟩ := hm
 refine ⟨by simp [ints], hm, .inr ⟨i, 0, _, _, true, 1, rfl, hg, by simp [ints], ?_, rfl, rfl, rfl⟩⟩
 exact jgk (by simp [ints])
end
/-! ### Loads, stores, new rows -/
def loadB (agg : Bool) (n o : Nat) : Option ABlk → Option AV
 | some (.cells vs _ _) => partA agg vs o n
 | _ => none
theorem jk3 {h agg n i o} : loadA h agg n (.ptr i o) = loadB agg n o (h.get i) := by
 simp only [loadA, loadB]
 cases h.get i with
 | none => rfl
 | some b => cases b <;> rfl
theorem jnQ {n o vs wr u} : loadB false n o (some (.cells vs wr u)) = vs[o]? := rfl
theorem jnR {n o vs wr u} (h : o + n ≤ vs.length) : loadB true n o (some (.cells vs wr u)) = some (.agg (cut vs o n)) := by simp only [loadB, partA, if_true, if_pos h]
def jbZ (h : Heap) (i n o : Nat) (v : AV) : Option ABlk → Option Heap
 | some (.cells vs true u) => if v.cells.length = n ∧ o + n ≤ vs.length ∧ v.cells.all AV.one = true then some (h.put i (.cells (splice vs o v.cells) true u)) else none
 | _ => none
theorem jnS {h n i o v} : jcH h n (.ptr i o) v = jbZ h i n o v (h.get i) := by
 simp only [jcH, jbZ]
 cases h.get i with
 | none => rfl
 | some b => cases b with
  | cells vs wr u => cases wr <;> rfl
  | _ => rfl
theorem jc3 {h i o v vs u} (hv : v.cells = [v] ∧ v.one = true ∧ o < vs.length) : jbZ h i 1 o v (some (.cells vs true u)) = some (h.put i (.cells (vs.set o v) true u)) := by
 simp only [jbZ, hv.1]
 rw [if_pos ⟨rfl, hv.2.2, by simp [hv.2.1]⟩]; rfl
theorem jl2 {h i o k x vs u} (hv : o < vs.length) : jbZ h i 1 o (.int k x) (some (.cells vs true u)) = some (h.put i (.cells (vs.set o (.int k x)) true u)) := jc3 ⟨rfl, rfl, hv⟩
theorem jkb {h i o x vs u} (hv : o < vs.length) : jbZ h i 1 o (.bool x) (some (.cells vs true u)) = some (h.put i (.cells (vs.set o (.bool x)) true u)) := jc3 ⟨rfl, rfl, hv⟩
theorem ji4 {h i o j p n c vs u} (hv : o < vs.length) : jbZ h i 1 o (.slice j p n c) (some (.cells vs true u)) = some (h.put i (.cells (vs.set o (.slice j p n c)) true u)) := jc3 ⟨rfl, rfl, hv⟩
theorem jl3 {h i o vs u} (hv : o < vs.length) : jbZ h i 1 o .nilslice (some (.cells vs true u)) = some (h.put i (.cells (vs.set o .nilslice) true u)) := jc3 ⟨rfl, rfl, hv⟩
theorem jhf {h i o n xs vs u} (h1 : xs.length = n) (h2 : o + n ≤ vs.length) (h3 : xs.all AV.one = true) : jbZ h i n o (.agg xs) (some (.cells vs true u)) = some (h.put i (.cells (splice vs o xs) true u)) := by
 simp only [jbZ, AV.cells]
 exact if_pos ⟨h1, h2, h3⟩
theorem jl4 {h i o v vs u} (hc : v.cells = [v]) (h1 : v.one = true) (ho : o < vs.length) : jbZ h i 1 o v (some (.cells vs true u)) = some (h.put i (.cells (vs.set o v) true u)) := jc3 ⟨hc, h1, ho⟩
theorem jcC {k n} : AV.one (.int k n) = true := rfl
theorem jhg {vs o c} : splice vs o [c] = vs.set o c := rfl
theorem jl5 {vs o x y cs} : splice vs o (x :: y :: cs) = vs.take o ++ (x :: y :: cs) ++ vs.drop (o + (cs.length + 2)) := rfl
theorem jrN {vs o} : cut vs o 0 = [] := by simp [cut]
theorem jpX {x vs n} : cut (x :: vs) 0 (n + 1) = x :: cut vs 0 n := rfl
theorem jpY {x vs o n} : cut (x :: vs) (o + 1) n = cut vs o n := rfl
theorem jpZ {z} : fillA z [] = some z := rfl
theorem jdn {z o v rest} (hv : v.cells = [v]) (ho : o < z.length) : fillA z ((o, 1, v) :: rest) = fillA (z.set o v) rest := by
 simp only [fillA, hv]
 rw [if_pos ⟨rfl, ho⟩]
 congr 1
 rw [List.set_eq_take_append_cons_drop, if_pos ho, List.append_assoc]; rfl
theorem jp0 {z o k n rest} (ho : o < z.length) : fillA z ((o, 1, .int k n) :: rest) = fillA (z.set o (.int k n)) rest := jdn rfl ho
theorem jnT {z o b rest} (ho : o < z.length) : fillA z ((o, 1, .bool b) :: rest) = fillA (z.set o (.bool b)) rest := jdn rfl ho
theorem jp1 {z o i p rest} (ho : o < z.length) : fillA z ((o, 1, .ptr i p) :: rest) = fillA (z.set o (.ptr i p)) rest := jdn rfl ho
theorem jl6 {z o i p n c rest} (ho : o < z.length) : fillA z ((o, 1, .slice i p n c) :: rest) = fillA (z.set o (.slice i p n c)) rest := jdn rfl ho
theorem jhZ {z o rest} (ho : o < z.length) : fillA z ((o, 1, .nilslice) :: rest) = fillA (z.set o .nilslice) rest := jdn rfl ho
theorem jnU {z o g f c rest} (ho : o < z.length) : fillA z ((o, 1, .func g f c) :: rest) = fillA (z.set o (.func g f c)) rest := jdn rfl ho
theorem jp2 {z o n xs rest} (h1 : xs.length = n) (h2 : o + n ≤ z.length) : fillA z ((o, n, .agg xs) :: rest) = fillA (z.take o ++ xs ++ z.drop (o + n)) rest := by
 simp only [fillA, AV.cells]; exact if_pos ⟨h1, h2⟩
theorem jkc {h : Heap} : storeOA (some h) = some (.undef, h) := rfl
theorem jl7 {z h} : jdK none z h = some (.ptr h.size 0, h.push (.cells z true 0)) := rfl
def kept (n : Nat) (h : Heap) : Option ABlk → (Nat → Heap → (ABlk → Heap) → Option (AV × Heap)) → Option (AV × Heap)
 | none, f => if n < h.size then f n h (fun b => h.put n b) else none
 | some _, _ => none
theorem jnV {n h f} (hn : n < h.size) : kept n h none f = f n h (fun b => h.put n b) := by simp [kept, hn]
theorem jgl {n : Nat} {h : Heap} : h.room (some n) = true ↔ h.get n = none ∧ n < h.size := by simp [Heap.room]
theorem jl8 {z h n} : jdK (some n) z h = kept n h (h.get n) (fun n _ p => some (.ptr n 0, p (.cells z true 0))) := by
 simp only [jdK, jgl, kept]
 cases hg : h.get n with
 | none => by_cases hn : n < h.size <;> simp [hn, Heap.nid, Heap.new]
 | some b => simp
theorem jkd {n cs h} : jbz none n (some cs) h = some (.slice h.size 0 n (.known n), h.push (.cells cs true 0)) := rfl
theorem jke {n cs h i} : jbz (some i) n (some cs) h = kept i h (h.get i) (fun i _ p => some (.slice i 0 n (.known n), p (.cells cs true 0))) := by
 simp only [jbz, jgl, kept]
 cases hg : h.get i with
 | none => by_cases hn : i < h.size <;> simp [hn, Heap.nid, Heap.new]
 | some b => simp
theorem jnW {z : List AV} {bytes : Nat} {h : Heap} {k k' : IntKind} {l c : Int} (hl : 0 ≤ l ∧ l ≤ c ∧ c * bytes ≤ 140737488355328 ∧ c ≤ 140737488355328) : makeA none z bytes h (.int k l) (.int k' c) = some (.slice h.size 0 l.toNat (.known c.toNat), h.push (.cells (jbl c.toNat z) true 0)) := by
 simp only [makeA]
 rw [if_pos ⟨hl.1, hl.2.1, hl.2.2.1, hl.2.2.2, rfl⟩]; rfl
theorem jnX {z : List AV} {bytes : Nat} {h : Heap} {k k' : IntKind} {l c : Int} {i : Nat} (hl : 0 ≤ l ∧ l ≤ c ∧ c * bytes ≤ 140737488355328 ∧ c ≤ 140737488355328) : makeA (some i) z bytes h (.int k l) (.int k' c) = kept i h (h.get i) (fun i _ p => some (.slice i 0 l.toNat (.known c.toNat), p (.cells (jbl c.toNat z) true 0))) := by
 have h1 : (c * bytes ≤ 2 ^ 47) := hl.2.2.1
 have h2 : c ≤ 2 ^ 47 := hl.2.2.2
 simp only [makeA, jgl, kept]
 cases hg : h.get i with
 | none => by_cases hn : i < h.size <;> simp [hn, Heap.nid, Heap.new, hl.1, hl.2.1] <;> omega
 | some b => simp
theorem jnY {sz i o n c kk} {k : Int} (hk : 0 ≤ k ∧ k < (n : Nat)) : idxA sz (.slice i o n c) (.int kk k) = some (.ptr i (o + k.toNat * sz)) := by simp only [idxA, if_pos hk]
theorem jl9 {sz len i o kk} {k : Int} (hk : 0 ≤ k ∧ k < (len : Nat)) : jfb sz len (.ptr i o) (.int kk k) = some (.ptr i (o + k.toNat * sz)) := by simp only [jfb, if_pos hk]
theorem jh0 {off i o} : jbF off (.ptr i o) = some (.ptr i (o + off)) := rfl
theorem jnZ {agg off n vs} : ji0 agg off n (.agg vs) = partA agg vs off n := rfl
theorem jp3 {vs o n} : partA false vs o n = vs[o]? := rfl
theorem jp4 {vs o n} (h : o + n ≤ vs.length) : partA true vs o n = some (.agg (cut vs o n)) := by simp only [partA, if_true, if_pos h]
theorem jn0 {i o n c} : lenA (.slice i o n c) = some (.int .i64 n) := rfl
theorem jrO : lenA .nilslice = some (.int .i64 0) := rfl
theorem jn1 {k n} : AV.cells (.int k n) = [.int k n] := rfl
theorem jma {b} : AV.cells (.bool b) = [.bool b] := rfl
theorem jn2 {vs} : AV.cells (.agg vs) = vs := rfl
theorem jkf {i o n c} : AV.cells (.slice i o n c) = [.slice i o n c] := rfl
theorem jn3 : AV.cells .nilslice = [.nilslice] := rfl
theorem jn4 {i o} : AV.cells (.ptr i o) = [.ptr i o] := rfl
theorem jmb {g f c} : AV.cells (.func g f c) = [.func g f c] := rfl
theorem jkg {l} : AV.cells (.yield l) = [.yield l] := rfl
end Go.Ae
namespace Go.Ae
def zAa := fun a b => (⟨some a, .mv (.tmp b), none⟩ : AOper)
def zAb := fun a b => (⟨some a, .mv (.const (.int .i64 b)), none⟩ : AOper)
def zAc := fun a b c => (⟨a, false, [], ⟨some b, .mv (.tmp c), none⟩⟩ : DItem)
def zAd := fun a b => (⟨some a, .load false 1 (.tmp b), none⟩ : AOper)
def zAe := fun a b c => (⟨some a, .pick (.tmp b) (.tmp c) (.const (.bool false)), none⟩ : AOper)
def zAf := fun a b c => (⟨some a, .extract (.tmp b) c, none⟩ : AOper)
def zAg := fun a b c => (⟨a, false, [], ⟨some b, .strIdx (.const (.str [0, 1, 1, 2, 1, 2, 2, 3, 1, 2, 2, 3, 2, 3, 3, 4, 1, 2, 2, 3, 2, 3, 3, 4, 2, 3, 3, 4, 3, 4, 4, 5, 1, 2, 2, 3, 2, 3, 3, 4, 2, 3, 3, 4, 3, 4, 4, 5, 2, 3, 3, 4, 3, 4, 4, 5, 3, 4, 4, 5, 4, 5, 5, 6, 1, 2, 2, 3, 2, 3, 3, 4, 2, 3, 3, 4, 3, 4, 4, 5, 2, 3, 3, 4, 3, 4, 4, 5, 3, 4, 4, 5, 4, 5, 5, 6, 2, 3, 3, 4, 3, 4, 4, 5, 3, 4, 4, 5, 4, 5, 5, 6, 3, 4, 4, 5, 4, 5, 5, 6, 4, 5, 5, 6, 5, 6, 6, 7, 1, 2, 2, 3, 2, 3, 3, 4, 2, 3, 3, 4, 3, 4, 4, 5, 2, 3, 3, 4, 3, 4, 4, 5, 3, 4, 4, 5, 4, 5, 5, 6, 2, 3, 3, 4, 3, 4, 4, 5, 3, 4, 4, 5, 4, 5, 5, 6, 3, 4, 4, 5, 4, 5, 5, 6, 4, 5, 5, 6, 5, 6, 6, 7, 2, 3, 3, 4, 3, 4, 4, 5, 3, 4, 4, 5, 4, 5, 5, 6, 3, 4, 4, 5, 4, 5, 5, 6, 4, 5, 5, 6, 5, 6, 6, 7, 3, 4, 4, 5, 4, 5, 5, 6, 4, 5, 5, 6, 5, 6, 6, 7, 4, 5, 5, 6, 5, 6, 6, 7, 5, 6, 6, 7, 6, 7, 7, 8])) (.tmp c), none⟩⟩ : DItem)
def zAh := fun a b c d => (⟨a, false, [], ⟨some b, .fieldAddr c (.tmp d), none⟩⟩ : DItem)
def zAi := fun a b c => (⟨some a, .load true b (.tmp c), none⟩ : AOper)
def zAj := fun a b c => (⟨some a, .fieldAddr b (.tmp c), none⟩ : AOper)
def zAk := fun a b c d => (⟨some a, .call (.const (.func b [] [])) [.tmp c, .tmp d], none⟩ : AOper)
def zAl := fun a b c => (⟨none, .store a (.tmp b) (.tmp c), none⟩ : AOper)
def zAm := fun a b c d => (⟨some a, .bin .eql (.tmp b) (.const (.int .i64 c)), some (d, true)⟩ : AOper)
def zAn := fun a b c => (⟨a, false, [], ⟨some b, .load false 1 (.tmp c), none⟩⟩ : DItem)
def zAo := fun a b c => (⟨some a, .mv (.tmp b), some (c, true)⟩ : AOper)
def zAp := fun a b c => (⟨some a, .call (.const (.func b [] [])) [.tmp c], none⟩ : AOper)
def zAq := fun a b c => (⟨some a, .bin .add (.tmp b) (.const (.int .i64 c)), none⟩ : AOper)
def zAr := fun a => (⟨some a, .mv (.const .nilslice), none⟩ : AOper)
def zAs := fun a => (⟨some a, .alloc [.int .i64 0, .int .i64 0, .int .i64 0, .int .u32 0, .int .u32 0, .int .i64 0, .int .i64 0, .nilslice, .int .i64 0, .int .i64 0, .int .i64 0, .int .i64 0, .int .i64 0, .int .i64 0, .int .i64 0, .nilslice, .nilslice], none⟩ : AOper)
def zAt := fun a b => (⟨some a, .len (.tmp b), none⟩ : AOper)
def zAu := fun a b c => (⟨a, true, [], ⟨some b, .load false 1 (.tmp c), none⟩⟩ : DItem)
def zAv := fun a b c d e => (⟨a, false, [], ⟨some b, .indexAddr c (.tmp d) (.tmp e), none⟩⟩ : DItem)
def zAw := fun a b c => (⟨some a, .pick (.tmp b) (.const (.bool true)) (.tmp c), none⟩ : AOper)
def zAx := fun a b c => (⟨some a, .bin .lss (.tmp b) (.tmp c), none⟩ : AOper)
def zAy := fun a b c d e => (⟨some a, .call (.const (.func b [] [])) [.tmp c, .tmp d, .const (.int .i64 e)], none⟩ : AOper)
def zAz := fun a b c d => (⟨some a, .indexAddr b (.tmp c) (.tmp d), none⟩ : AOper)
def zBa := fun a b c => (⟨some a, .bin .lss (.tmp b) (.const (.int .i64 c)), none⟩ : AOper)
def zBb := fun a b => (⟨some a, .bin .neq (.tmp b) (.const (.int .i64 0)), none⟩ : AOper)
def zBc := fun a => (⟨some a, .mv (.const (.bool false)), none⟩ : AOper)
def zBd := fun a b c => (⟨some a, .buildSlice 2 [.int .i64 0, .int .i64 0] [(0, (1, .const (.int .i64 b))), (1, (1, .const (.int .i64 c)))], none⟩ : AOper)
def zBe := fun a b c => (⟨some a, .bin .mul (.tmp b) (.tmp c), none⟩ : AOper)
def zBf := fun a b => (⟨some a, .box (.tmp b), none⟩ : AOper)
def zBg := fun a b c => (⟨some a, .mv (.tmp b), some (c, false)⟩ : AOper)
def zBh := fun a b c d => (⟨some a, .buildSlice 4 [.int .i64 0, .int .i64 0, .int .i64 0, .int .i64 0] [(0, (1, .const (.int .i64 0))), (1, (1, .const (.int .i64 b))), (2, (1, .const (.int .i64 c))), (3, (1, .const (.int .i64 d)))], none⟩ : AOper)
def zBi := fun a b c => (⟨some a, .bin .gtr (.tmp b) (.const (.int .i64 c)), none⟩ : AOper)
def zBj := fun a b c d => (⟨a, false, [], ⟨none, .store b (.tmp c) (.tmp d), none⟩⟩ : DItem)
def zBk := fun a => (⟨some a, .alloc [.int .i64 0, .int .i64 0, .int .i64 0, .int .u32 0, .int .u32 0, .int .i64 0, .int .i64 0, .nilslice], none⟩ : AOper)
def zBl := fun a b c d => (⟨a, false, [], ⟨some b, .bin .add (.tmp c) (.tmp d), none⟩⟩ : DItem)
def zBm := fun a b => (⟨some a, .call (.const (.func b [] [])) [], none⟩ : AOper)
def zBn := fun a => (⟨some a, .alloc [.int .i64 0, .int .i64 0], none⟩ : AOper)
def zBo := fun a b c => (⟨some a, .bin .rem (.tmp b) (.const (.int .i64 c)), none⟩ : AOper)
def zBp := fun a b c d => (⟨some a, .call (.const (.func 45 [] [])) [.tmp b, .const (.int .i64 c), .const (.int .i64 d)], none⟩ : AOper)
def zBq := fun a b c => (⟨some a, .bin .eql (.tmp b) (.const (.int .i64 c)), none⟩ : AOper)
def zBr := fun a b c d => (⟨a, false, [], ⟨some b, .load true c (.tmp d), none⟩⟩ : DItem)
def zBs := fun a => (⟨some a, .alloc [.int .i64 0, .int .i64 0, .int .i64 0, .int .i64 0, .int .i64 0, .int .i64 0, .int .i64 0, .nilslice], none⟩ : AOper)
def zBt := fun a b c => (⟨some a, .bin .add (.tmp b) (.tmp c), none⟩ : AOper)
def zBu := fun a b c d => (⟨some a, .call (.const (.func b [] [])) [.tmp c, .const (.int .i64 d)], none⟩ : AOper)
def zBv := fun a b c => (⟨some a, .bin .sub (.tmp b) (.const (.int .i64 c)), none⟩ : AOper)
def zBw := fun a b c => (⟨some a, .build [.int .i64 0, .nilslice, .nilslice] [(0, (1, .const (.int .i64 b))), (1, (2, .tmp c))], none⟩ : AOper)
def zBx := fun a b c d => (⟨some a, .bin .gtr (.tmp b) (.const (.int .i64 c)), some (d, false)⟩ : AOper)
def zBy := fun a b c d => (⟨a, false, [], ⟨some b, .load false 1 (.tmp c), some (d, false)⟩⟩ : DItem)
def zBz := fun a b c d => (⟨a, false, [], ⟨some b, .bin .rem (.tmp c) (.const (.int .i64 d)), none⟩⟩ : DItem)
def zCa := fun a b c d => (⟨a, false, [], ⟨some b, .bin .sub (.tmp c) (.const (.int .i64 d)), none⟩⟩ : DItem)
def zCb := fun a b c d e => (⟨a, true, [1, 34, 37, 39, 46, 8], ⟨some b, .call (.const (.func 45 [] [])) [.tmp c, .const (.int .i64 d), .const (.int .i64 e)], none⟩⟩ : DItem)
def zCc := fun a b c d e => (⟨a, false, [], ⟨some b, .fieldAddr c (.tmp d), some (e, false)⟩⟩ : DItem)
def zCd := fun a b => (⟨some a, .un .not (.tmp b), none⟩ : AOper)
def zCe := fun a b c d e => (⟨some a, .call (.const (.func b [] [])) [.tmp c, .tmp d, .tmp e], none⟩ : AOper)
def zCf := fun a b c => (⟨some a, .bin .shr (.tmp b) (.const (.int .u64 c)), none⟩ : AOper)
def zCg := fun a b c => (⟨some a, .bin .geq (.tmp b) (.const (.int .i64 998244353)), some (c, false)⟩ : AOper)
def zCh := fun a b c d => (⟨a, false, [], ⟨some b, .bin .mul (.tmp c) (.tmp d), none⟩⟩ : DItem)
def zCi := fun a b c => (⟨some a, .build [.int .i64 0, .int .i64 0] [(0, (1, .tmp b)), (1, (1, .tmp c))], none⟩ : AOper)
def zCj := fun a b c d => (⟨a, false, [], ⟨some b, .bin .add (.tmp c) (.const (.int .i64 d)), none⟩⟩ : DItem)
def zCk := fun a b c d e => (⟨some a, .call (.const (.func b [] [])) [.tmp c, .tmp d], some (e, true)⟩ : AOper)
def zCl := fun a b c => (⟨some a, .build [.nilslice, .nilslice] [(0, (1, .tmp b)), (1, (1, .tmp c))], none⟩ : AOper)
def zCm := fun a b => (⟨some a, .buildSlice 1 [.int .i64 0, .int .i64 0, .int .i64 0, .int .u32 0, .int .u32 0, .int .i64 0, .int .i64 0, .nilslice] [(0, (8, .tmp b))], none⟩ : AOper)
def zCn := fun a b c d => (⟨some a, .load true b (.tmp c), some (d, true)⟩ : AOper)
def zCo := fun a b c => (⟨a, false, [], ⟨some b, .bin .mul (.const (.int .i64 2)) (.tmp c), none⟩⟩ : DItem)
def zCp := fun a b c d => (⟨some a, .bin .eql (.tmp b) (.tmp c), some (d, true)⟩ : AOper)
def zCq := fun a => (⟨some a, .alloc [.int .i64 0, .int .i64 0, .int .i64 0, .int .i64 0, .int .i64 0, .int .i64 0, .int .i64 0, .int .i64 0, .int .i64 0, .int .i64 0, .int .i64 0, .int .i64 0, .int .i64 0, .int .i64 0, .int .i64 0, .int .i64 0, .int .i64 0], none⟩ : AOper)
def zCr := fun a b c d => (⟨a, false, [], ⟨some b, .bin .shr (.tmp c) (.const (.int .u64 d)), none⟩⟩ : DItem)
def zCs := fun a => (⟨some a, .build [.int .i64 0, .int .i64 0, .int .i64 0, .int .u32 0, .int .u32 0, .int .i64 0, .int .i64 0, .nilslice, .int .i64 0, .int .i64 0, .int .i64 0, .int .i64 0, .int .i64 0, .int .i64 0, .int .i64 0, .nilslice, .nilslice] [], none⟩ : AOper)
def zCt := fun a b => (⟨none, .store 1 (.tmp a) (.const (.int .i64 b)), none⟩ : AOper)
def zCu := fun a b c d => (⟨a, false, [], ⟨some b, .bin .sub (.tmp c) (.tmp d), none⟩⟩ : DItem)
def zCv := fun a b => (⟨some a, .makeSlice [.int .i64 0] 8 (.tmp b) (.tmp b), none⟩ : AOper)
def zCw := fun a b c => (⟨some a, .call (.const (.func b [] [])) [.const (.int .i64 3), .tmp c], none⟩ : AOper)
def zCx := fun a b c d e => (⟨some a, .call (.tmp b) [.tmp c, .const (.int .i64 d), .const (.int .i64 e)], none⟩ : AOper)
def zCy := fun a b c => (⟨some a, .bin .geq (.tmp b) (.const (.int .i64 c)), none⟩ : AOper)
def zCz := fun a b c => (⟨some a, .bin .add (.const (.int .i64 b)) (.tmp c), none⟩ : AOper)
def zDa := fun a => (⟨some a, .build [.int .i64 0, .int .u32 0, .int .u32 0] [], none⟩ : AOper)
def zDb := fun a b c d e f => (⟨a, false, [b], ⟨some c, .call (.const (.func d [] [])) [.tmp e, .tmp f], none⟩⟩ : DItem)
def zDc := fun a b c => (⟨a, false, [], ⟨some b, .len (.tmp c), none⟩⟩ : DItem)
def zDd := fun a b => (⟨some a, .bin .quo (.const (.int .i64 998244352)) (.tmp b), none⟩ : AOper)
def zDe := fun a b c d => (⟨a, false, [], ⟨some b, .mv (.tmp c), some (d, false)⟩⟩ : DItem)
def zDf := fun a b c => (⟨some a, .bin .eql (.tmp b) (.tmp c), none⟩ : AOper)
def zDg := fun a b c d e => (⟨a, false, [], ⟨some b, .bin .mul (.tmp c) (.tmp d), some (e, false)⟩⟩ : DItem)
def zDh := fun a b c => (⟨some a, .load false 1 (.tmp b), some (c, false)⟩ : AOper)
def zDi := fun a b c d => (⟨some a, .build [.int .i64 0, .int .i64 0] [(b, (1, .const (.int .i64 c)))], some (d, true)⟩ : AOper)
def zDj := fun a b c => (⟨some a, .len (.tmp b), some (c, false)⟩ : AOper)
def zDk := fun a b c => (⟨some a, .call (.tmp b) [.tmp c], none⟩ : AOper)
def zDl := fun a b c => (⟨some a, .bin .and (.tmp b) (.const (.int .i64 c)), none⟩ : AOper)
def zDm := fun a b => (⟨some a, .conv .u64 (.tmp b), none⟩ : AOper)
def zDn := fun a b => (⟨some a, .conv .u32 (.tmp b), none⟩ : AOper)
def zDo := fun a => (⟨some a, .alloc [.nilslice, .int .i64 0], none⟩ : AOper)
def zDp := fun a b c => (⟨a, false, [], ⟨some b, .bin .and (.tmp c) (.const (.int .u32 255)), none⟩⟩ : DItem)
def zDq := fun a b c d => (⟨some a, .eqs false [(0, false), (1, false)] (.tmp b) (.tmp c), some (d, true)⟩ : AOper)
def zDr := fun a b c => (⟨a, false, [], ⟨some b, .bin .shl (.const (.int .i64 1)) (.tmp c), none⟩⟩ : DItem)
def zDs := fun a b c d => (⟨a, false, [], ⟨some b, .pick (.tmp c) (.const (.bool true)) (.tmp d), none⟩⟩ : DItem)
def zDt := fun a b c => (⟨a, false, [], ⟨some b, .conv .u32 (.tmp c), none⟩⟩ : DItem)
def zDu := fun a => (⟨some a, .alloc [.int .i64 0, .int .u32 0, .int .u32 0], none⟩ : AOper)
def zDv := fun a b => (⟨some a, .bin .and (.tmp b) (.const (.int .u64 4294967295)), none⟩ : AOper)
def zDw := fun a b c d => (⟨a, false, [], ⟨some b, .bin .quo (.tmp c) (.const (.int .i64 d)), none⟩⟩ : DItem)
def zDx := fun a => (⟨some a, .mv (.const (.int .u64 0)), none⟩ : AOper)
def zDy := fun a b c d => (⟨a, false, [], ⟨some b, .extract (.tmp c) d, none⟩⟩ : DItem)
def zDz := fun a b => (⟨some a, .buildSlice 1 [.int .i64 0] [(0, (1, .tmp b))], none⟩ : AOper)
def zEa := fun a b c => (⟨some a, .mkfunc b [] [.tmp c], none⟩ : AOper)
def zEb := fun a b c => (⟨some a, .bin .gtr (.tmp b) (.tmp c), none⟩ : AOper)
def zEc := fun a b c => (⟨some a, .bin .sub (.tmp b) (.tmp c), none⟩ : AOper)
def zEd := fun a b => (⟨some a, .build [.nilslice, .int .i64 0] [(0, (1, .tmp b)), (1, (1, .const (.int .i64 1)))], none⟩ : AOper)
def zEe := fun a b c => (⟨a, false, [], ⟨some b, .build [.nilslice, .int .i64 0] [(0, (1, .tmp a)), (1, (1, .tmp c))], none⟩⟩ : DItem)
def zEf := fun a b c d => (⟨some a, .slice b (.tmp c) none (some (.tmp d)) none, none⟩ : AOper)
def zEg := fun a b c d => (⟨a, false, [], ⟨some b, .bin .rem (.tmp c) (.tmp d), none⟩⟩ : DItem)
def zEh := fun a b c d => (⟨a, false, [], ⟨some b, .bin .or (.tmp c) (.tmp d), none⟩⟩ : DItem)
def zEi := fun a b c d e => (⟨some a, .append b c (.tmp d) (.tmp e), none⟩ : AOper)
def zEj := fun a b c d => (⟨a, false, [], ⟨some b, .build [.int .i64 0, .int .i64 0] [(0, (1, .tmp c)), (1, (1, .tmp d))], none⟩⟩ : DItem)
def zEk := fun a b => (⟨some a, .un .neg (.tmp b), none⟩ : AOper)
def zEl := fun a => (⟨some a, .mv (.const (.int .u32 0)), none⟩ : AOper)
def zEm := fun a b c => (⟨some a, .fieldAddr b (.tmp c), some (12, false)⟩ : AOper)
def zEn : AOper := ⟨some 14, .bin .lss (.tmp 13) (.const (.int .i64 0)), some (12, false)⟩
def zEo : AOper := ⟨some 7, .bin .leq (.tmp 6) (.const (.int .i64 32768)), some (5, true)⟩
def zEp := fun a b c d => (⟨a, true, [], ⟨some b, .load true c (.tmp d), none⟩⟩ : DItem)
def zEq : AOper := ⟨some 12, .bin .sub (.tmp 11) (.const (.int .i64 1)), some (9, true)⟩
def zEr : AOper := ⟨none, .refuse "", none⟩
def zEs := fun a b => (⟨some a, .makeSlice [.int .i64 0, .int .i64 0] 16 (.tmp b) (.tmp b), none⟩ : AOper)
def zEt := fun a => (⟨some a, .mv (.const .nilfunc), none⟩ : AOper)
def zEu := fun a b c d => (⟨some a, .call (.const (.func 236 [] [])) [.tmp b, .const (.int .i64 c), .tmp d], none⟩ : AOper)
def zEv := fun a b c => (⟨some a, .call (.const (.func 37 [] [])) [.tmp b, .const (.func c [] [])], none⟩ : AOper)
def zEw := fun a => (⟨some a, .alloc [.int .i64 0], none⟩ : AOper)
def zEx := fun a b c => (⟨some a, .bin .geq (.tmp b) (.tmp c), none⟩ : AOper)
def zEy := fun a b c => (⟨some a, .bin .quo (.tmp b) (.tmp c), none⟩ : AOper)
def zEz := fun a b c => (⟨some a, .bin .leq (.tmp b) (.tmp c), none⟩ : AOper)
def zFa := fun a => (⟨some a, .alloc [.nilslice], none⟩ : AOper)
def zFb := fun a b c => (⟨a, false, [], ⟨some b, .bin .shl (.tmp c) (.const (.int .u64 26)), none⟩⟩ : DItem)
def zFc : AOper := ⟨some 13, .bin .and (.tmp 10) (.tmp 12), some (9, true)⟩
def zFd := fun a b => (⟨some a, .conv .i64 (.tmp b), none⟩ : AOper)
def zFe := fun a b c d => (⟨a, false, [b], ⟨some c, .call (.const (.func 242 [] [])) [.tmp d], none⟩⟩ : DItem)
def zFf := fun a b c d e => (⟨a, false, [], ⟨some b, .call (.const (.func c [] [])) [.tmp d, .tmp e], none⟩⟩ : DItem)
def zFg := fun a b c => (⟨some a, .bin .neq (.tmp b) (.const (.int .i64 1)), some (c, true)⟩ : AOper)
def zFh := fun a b c d => (⟨a, false, [], ⟨some b, .bin .sub (.const (.int .i64 c)) (.tmp d), none⟩⟩ : DItem)
def zFi := fun a b c d e => (⟨a, true, [], ⟨some b, .call (.const (.func c [] [])) [.tmp d, .tmp e], none⟩⟩ : DItem)
def zq := fun a b => ACode.seq (.region a) b
def zk := fun c a b => ACode.cond (.tmp c) a b
def zj := fun c a => ACode.cond (.tmp c) a .skip
def zB := PLift.up <| And.intro zAa.eq_1 <| And.intro zAb.eq_1 <| And.intro zAc.eq_1 <| And.intro zAd.eq_1 <| And.intro zAe.eq_1 <| And.intro zAf.eq_1 <| And.intro zAg.eq_1 <| And.intro zAh.eq_1 <| And.intro zAi.eq_1 <| And.intro zAj.eq_1 <| And.intro zAk.eq_1 <| And.intro zAl.eq_1 <| And.intro zAm.eq_1 <| And.intro zAn.eq_1 <| And.intro zAo.eq_1 <| And.intro zAp.eq_1 <| And.intro zAq.eq_1 <| And.intro zAr.eq_1 <| And.intro zAs.eq_1 <| And.intro zAt.eq_1 <| And.intro zAu.eq_1 <| And.intro zAv.eq_1 <| And.intro zAw.eq_1 <| And.intro zAx.eq_1 <| And.intro zAy.eq_1 <| And.intro zAz.eq_1 <| And.intro zBa.eq_1 <| And.intro zBb.eq_1 <| And.intro zBc.eq_1 <| And.intro zBd.eq_1 <| And.intro zBe.eq_1 <| And.intro zBf.eq_1 <| And.intro zBg.eq_1 <| And.intro zBh.eq_1 <| And.intro zBi.eq_1 <| And.intro zBj.eq_1 <| And.intro zBk.eq_1 <| And.intro zBl.eq_1 <| And.intro zBm.eq_1 <| And.intro zBn.eq_1 <| And.intro zBo.eq_1 <| And.intro zBp.eq_1 <| And.intro zBq.eq_1 <| And.intro zBr.eq_1 <| And.intro zBs.eq_1 <| And.intro zBt.eq_1 <| And.intro zBu.eq_1 <| And.intro zBv.eq_1 <| And.intro zBw.eq_1 <| And.intro zBx.eq_1 <| And.intro zBy.eq_1 <| And.intro zBz.eq_1 <| And.intro zCa.eq_1 <| And.intro zCb.eq_1 <| And.intro zCc.eq_1 <| And.intro zCd.eq_1 <| And.intro zCe.eq_1 <| And.intro zCf.eq_1 <| And.intro zCg.eq_1 <| And.intro zCh.eq_1 <| And.intro zCi.eq_1 <| And.intro zCj.eq_1 <| And.intro zCk.eq_1 <| And.intro zCl.eq_1 <| And.intro zCm.eq_1 <| And.intro zCn.eq_1 <| And.intro zCo.eq_1 <| And.intro zCp.eq_1 <| And.intro zCq.eq_1 <| And.intro zCr.eq_1 <| And.intro zCs.eq_1 <| And.intro zCt.eq_1 <| And.intro zCu.eq_1 <| And.intro zCv.eq_1 <| And.intro zCw.eq_1 <| And.intro zCx.eq_1 <| And.intro zCy.eq_1 <| And.intro zCz.eq_1 <| And.intro zDa.eq_1 <| And.intro zDb.eq_1 <| And.intro zDc.eq_1 <| And.intro zDd.eq_1 <| And.intro zDe.eq_1 <| And.intro zDf.eq_1 <| And.intro zDg.eq_1 <| And.intro zDh.eq_1 <| And.intro zDi.eq_1 <| And.intro zDj.eq_1 <| And.intro zDk.eq_1 <| And.intro zDl.eq_1 <| And.intro zDm.eq_1 <| And.intro zDn.eq_1 <| And.intro zDo.eq_1 <| And.intro zDp.eq_1 <| And.intro zDq.eq_1 <| And.intro zDr.eq_1 <| And.intro zDs.eq_1 <| And.intro zDt.eq_1 <| And.intro zDu.eq_1 <| And.intro zDv.eq_1 <| And.intro zDw.eq_1 <| And.intro zDx.eq_1 <| And.intro zDy.eq_1 <| And.intro zDz.eq_1 <| And.intro zEa.eq_1 <| And.intro zEb.eq_1 <| And.intro zEc.eq_1 <| And.intro zEd.eq_1 <| And.intro zEe.eq_1 <| And.intro zEf.eq_1 <| And.intro zEg.eq_1 <| And.intro zEh.eq_1 <| And.intro zEi.eq_1 <| And.intro zEj.eq_1 <| And.intro zEk.eq_1 <| And.intro zEl.eq_1 <| And.intro zEm.eq_1 <| And.intro zEn.eq_1 <| And.intro zEo.eq_1 <| And.intro zEp.eq_1 <| And.intro zEq.eq_1 <| And.intro zEr.eq_1 <| And.intro zEs.eq_1 <| And.intro zEt.eq_1 <| And.intro zEu.eq_1 <| And.intro zEv.eq_1 <| And.intro zEw.eq_1 <| And.intro zEx.eq_1 <| And.intro zEy.eq_1 <| And.intro zEz.eq_1 <| And.intro zFa.eq_1 <| And.intro zFb.eq_1 <| And.intro zFc.eq_1 <| And.intro zFd.eq_1 <| And.intro zFe.eq_1 <| And.intro zFf.eq_1 <| And.intro zFg.eq_1 <| And.intro zFh.eq_1 <| And.intro zFi.eq_1 <| And.intro zq.eq_1 <| And.intro zk.eq_1 <| zj.eq_1
def B0 : ABody := .mk 1 56 [.tmp 2] (zq [zBc 2] (.seq (zq [zAa 11 0, zAt 12 11, zBi 13 12 130] (zj 13 (zq [zBm 14 7, zAa 2 14] .ret))) (zq [zAa 16 0, zAp 17 8 16, zAa 15 17, zAf 18 15 0, zAf 19 15 1, zAa 3 18, zAa 4 19] (zq [zAa 21 0, zAp 22 9 21, zAa 20 22, zAf 23 20 0, zAf 24 20 1, zAa 5 23, zAa 6 24] (zq [zAa 26 0, zAp 27 10 26, zAa 25 27, zAf 28 25 0, zAf 29 25 1, zAa 7 28, zAa 8 29] (zq [zAa 31 0, zAp 32 11 31, zAa 30 32, zAf 33 30 0, zAf 34 30 1, zAa 9 33, zAa 10 34] (zq [zAa 35 3, zAa 36 5, zAk 37 12 35 36, zAa 38 37, zAo 39 4 38, zAo 40 6 38, zCp 41 39 40 38, zAe 42 38 41, zAa 43 42, zAo 44 7 43, zAo 45 9 43, zCk 46 12 44 45 43, zAe 47 43 46, zAa 48 47, zAo 49 8 48, zAo 50 10 48, zCp 51 49 50 48, zAe 52 48 51, zAa 53 52, ⟨some 54, .call (.const (.func 7 [] [])) [], some (53, true)⟩, zAe 55 53 54, zAa 2 55] .ret)))))))
def B1 : ABody := .mk 2 80 [.tmp 4] (zq [zBc 4] (zq [zAa 18 1, zAp 19 13 18, zAa 17 19, zAf 20 17 0, zAf 21 17 1, zAa 5 20, zAa 6 21] (zq [zAa 23 1, zAp 24 14 23, zAa 22 24, zAf 25 22 0, zAf 26 22 1, zAa 7 25, zAa 8 26] (zq [zAa 28 0, zAa 29 1, zAk 30 15 28 29, zAa 27 30, zAf 31 27 0, zAf 32 27 1, zAa 9 31, zAa 10 32] (zq [zAa 34 0, zAa 35 1, zAk 36 16 34 35, zAa 33 36, zAf 37 33 0, zAf 38 33 1, zAa 11 37, zAa 12 38] (zq [zAa 40 0, zAp 41 17 40, zAa 39 41, zAf 42 39 0, zAf 43 39 1, zAa 13 42, zAa 14 43] (zq [zAa 45 0, zAp 46 18 45, zAa 44 46, zAf 47 44 0, zAf 48 44 1, zAa 15 47, zAa 16 48] (zq [zAa 49 5, zAa 50 7, zDf 51 49 50, zAa 52 51, zAo 53 6 52, zAo 54 8 52, zCp 55 53 54 52, zAe 56 52 55, zAa 57 56, zAo 58 9 57, zAo 59 11 57, zCp 60 58 59 57, zAe 61 57 60, zAa 62 61, zAo 63 10 62, zAo 64 12 62, zCp 65 63 64 62, zAe 66 62 65, zAa 67 66, zAo 68 13 67, zAo 69 15 67, zCp 70 68 69 67, zAe 71 67 70, zAa 72 71, zAo 73 14 72, zAo 74 16 72, zCp 75 73 74 72, zAe 76 72 75, zAa 77 76, ⟨some 78, .call (.const (.func 7 [] [])) [], some (77, true)⟩, zAe 79 77 78, zAa 4 79] .ret))))))))
def B7 : ABody := .mk 0 46 [.tmp 0] (zq [zBc 0] (zq [⟨some 8, .call (.const (.func 13 [] [])) [.const (.int .i64 4)], none⟩, zAa 7 8, zAf 9 7 0, zAf 10 7 1, zAa 1 9, zAa 2 10] (zq [zBd 12 1 2, zAp 13 8 12, zAa 11 13, zAf 14 11 0, zAf 15 11 1, zAa 3 14, zAa 4 15] (zq [⟨some 17, .buildSlice 3 [.int .i64 0, .int .i64 0, .int .i64 0] [(0, (1, .const (.int .i64 1))), (1, (1, .const (.int .i64 2))), (2, (1, .const (.int .i64 3)))], none⟩, zBd 18 1 (-1), zAk 19 19 17 18, zAa 16 19, zAf 20 16 0, zAf 21 16 1, zAa 5 20, zAa 6 21] (zq [zAa 22 1, zBq 23 22 911660635, zAa 24 23, zAo 25 2 24, zAm 26 25 0 24, zAe 27 24 26, zAa 28 27, zAo 29 4 28, zAm 30 29 0 28, zAe 31 28 30, zAa 32 31, zAo 33 3 32, ⟨some 34, .buildSlice 2 [.int .i64 0, .int .i64 0] [(0, (1, .const (.int .i64 3))), (1, (1, .const (.int .i64 998244352)))], some (32, true)⟩, zCk 35 12 33 34 32, zAe 36 32 35, zAa 37 36, zAo 38 6 37, zAm 39 38 0 37, zAe 40 37 39, zAa 41 40, zAo 42 5 41, ⟨some 43, .buildSlice 4 [.int .i64 0, .int .i64 0, .int .i64 0, .int .i64 0] [(0, (1, .const (.int .i64 1))), (1, (1, .const (.int .i64 1))), (2, (1, .const (.int .i64 1))), (3, (1, .const (.int .i64 (-3))))], some (41, true)⟩, zCk 44 12 42 43 41, zAe 45 41 44, zAa 0 45] .ret)))))
def B8 : ABody := .mk 1 12 [.tmp 2, .tmp 3] (zq [zAr 2, zAb 3 0] (.seq (zq [zAa 5 0, zAp 6 26 5, zAa 4 6] (zq [zAa 7 4, zBb 8 7] (zj 8 (zq [zAa 9 4, zAr 2, zAa 3 9] .ret)))) (zq [zAa 10 0, zAp 11 27 10, zAa 2 11, zAb 3 0] .ret)))
def B9 : ABody := .mk 1 21 [.tmp 2, .tmp 3] (zq [zAr 2, zAb 3 0] (.seq (zq [zAa 7 0, zAp 8 28 7, zAa 4 8] (zq [zAa 9 4, zBb 10 9] (zj 10 (zq [zAa 11 4, zAr 2, zAa 3 11] .ret)))) (zq [zAa 13 0, zAt 14 13, zAp 15 14 14, zAa 12 15, zAf 16 12 0, zAf 17 12 1, zAa 5 16, zAa 6 17] (zq [zAa 18 0, zAa 19 5, zAk 20 29 18 19, zAa 2 20, zAb 3 0] .ret))))
def B10 : ABody := .mk 1 12 [.tmp 2, .tmp 3] (zq [zAr 2, zAb 3 0] (.seq (zq [zAa 5 0, zAp 6 26 5, zAa 4 6] (zq [zAa 7 4, zBb 8 7] (zj 8 (zq [zAa 9 4, zAr 2, zAa 3 9] .ret)))) (zq [zAa 10 0, zAp 11 30 10, zAa 2 11, zAb 3 0] .ret)))
def B11 : ABody := .mk 1 45 [.tmp 2, .tmp 3] (zq [zAr 2, zAb 3 0] (.seq (zq [zAa 10 0, zAp 11 28 10, zAa 4 11] (zq [zAa 12 4, zBb 13 12] (zj 13 (zq [zAa 14 4, zAr 2, zAa 3 14] .ret)))) (zq [zAa 16 0, zAt 17 16, zAp 18 14 17, zAa 15 18, zAf 19 15 0, zAf 20 15 1, zAa 5 19, zAa 6 20] (zq [zAa 21 0, zAa 22 5, zBu 23 31 22 998244351, zAk 24 29 21 23, zAa 7 24] (zq [zAa 25 0, zAt 26 25, zBu 27 31 26 998244351, zAa 8 27] (.seq (zq [zAb 9 0] (.block 0 (.loop (.seq (zq [zAa 28 9, zAa 29 7, zAt 30 29, zAx 31 28 30] (zk 31 .skip (.exit 0))) (.seq (.block 1 (.region [zAa 34 7, zAa 35 9, zAa 36 7, zAa 37 9, zAz 38 1 36 37, zAd 39 38, zAa 40 8, zBe 41 39 40, zBo 42 41 998244353, zAz 43 1 34 35, zAl 1 43 42])) (.region [zAa 32 9, zAq 33 32 1, zAa 9 33])))))) (zq [zAa 44 7, zAa 2 44, zAb 3 0] .ret)))))))
def B12 : ABody := .mk 2 26 [.tmp 4] (zq [zBc 4] (.seq (zq [zAa 6 0, zAt 7 6, zAa 8 1, zAt 9 8, ⟨some 10, .bin .neq (.tmp 7) (.tmp 9), none⟩] (zj 10 (zq [zBc 4] .ret))) (.seq (zq [zAb 5 0] (.block 0 (.loop (.seq (zq [zAa 11 5, zAa 12 0, zAt 13 12, zAx 14 11 13] (zk 14 .skip (.exit 0))) (.seq (.block 1 (.seq (.draw 0 [zAc 0 17 0, zAc 1 18 5, zAv 2 19 1 17 18, zAc 4 21 1, zAc 5 22 5, zAv 6 23 1 21 22, zAn 3 20 19, zAn 7 24 23, ⟨8, false, [], ⟨some 25, .bin .neq (.tmp 20) (.tmp 24), none⟩⟩]) (zj 25 (zq [zBc 4] .ret)))) (.region [zAa 15 5, zAq 16 15 1, zAa 5 16])))))) (zq [⟨some 4, .mv (.const (.bool true)), none⟩] .ret))))
def B13 : ABody := .mk 1 10 [.tmp 2, .tmp 3] (zq [zAb 2 0, zAb 3 0] (.seq (zq [zAa 4 0, zAp 5 32 4, zCd 6 5] (zj 6 (zq [zAb 2 0, zAb 3 3] .ret))) (zq [zAa 7 0, zDd 8 7, zCw 9 33 8, zAa 2 9, zAb 3 0] .ret)))
def B14 : ABody := .mk 1 10 [.tmp 2, .tmp 3] (zq [zAb 2 0, zAb 3 0] (.seq (zq [zAa 4 0, zAp 5 34 4, zCd 6 5] (zj 6 (zq [zAb 2 0, zAb 3 3] .ret))) (zq [zAa 7 0, zDd 8 7, zCw 9 31 8, zAa 2 9, zAb 3 0] .ret)))
def B15 : ABody := .mk 2 19 [.tmp 4, .tmp 5] (zq [zAb 4 0, zAb 5 0] (.seq (zq [zAa 6 0, zBa 7 6 0, zAa 8 7, zBg 9 0 8, zCg 10 9 8, zAw 11 8 10, zAa 12 11, zBg 13 1 12, zEn, zAw 15 12 14] (zj 15 (zq [zAb 4 0, zAb 5 2] .ret))) (zq [zAa 16 0, zAa 17 1, zAk 18 33 16 17, zAa 4 18, zAb 5 0] .ret)))
def B16 : ABody := .mk 2 19 [.tmp 4, .tmp 5] (zq [zAb 4 0, zAb 5 0] (.seq (zq [zAa 6 0, zBa 7 6 0, zAa 8 7, zBg 9 0 8, zCg 10 9 8, zAw 11 8 10, zAa 12 11, zBg 13 1 12, zEn, zAw 15 12 14] (zj 15 (zq [zAb 4 0, zAb 5 2] .ret))) (zq [zAa 16 0, zAa 17 1, zAk 18 31 16 17, zAa 4 18, zAb 5 0] .ret)))
def B17 : ABody := .mk 1 12 [.tmp 2, .tmp 3] (zq [zAb 2 0, zAb 3 0] (.seq (zq [zAa 4 0, zBa 5 4 0, zAa 6 5, zBg 7 0 6, zCg 8 7 6, zAw 9 6 8] (zj 9 (zq [zAb 2 0, zAb 3 2] .ret))) (zq [zAa 10 0, zAp 11 35 10, zAa 2 11, zAb 3 0] .ret)))
def B18 : ABody := .mk 1 15 [.tmp 2, .tmp 3] (zq [zAb 2 0, zAb 3 0] (.seq (zq [zAa 4 0, zBa 5 4 0, zAa 6 5, zBg 7 0 6, zCg 8 7 6, zAw 9 6 8] (zj 9 (zq [zAb 2 0, zAb 3 2] .ret))) (.seq (zq [zAa 10 0, zBi 11 10 499122176] (zj 11 (zq [zAa 12 0, zBv 13 12 998244353, zAa 2 13, zAb 3 0] .ret))) (zq [zAa 14 0, zAa 2 14, zAb 3 0] .ret))))
def B19 : ABody := .mk 2 38 [.tmp 4, .tmp 5] (zq [zAr 4, zAb 5 0] (zq [⟨some 6, .mv (.const (.func 36 [] [])), none⟩] (.seq (.block 0 (zq [zAa 8 0, zAt 9 8, zBq 10 9 0, zAa 11 10, zBg 12 1 11, zDj 13 12 11, ⟨some 14, .bin .eql (.tmp 13) (.const (.int .i64 0)), some (11, false)⟩, zAw 15 11 14, zAa 7 15] (zk 7 (zq [zAr 4, zAb 5 3] .ret) (zq [zAa 17 0, zAt 18 17, zAa 19 1, zAt 20 19, zBt 21 18 20, zBv 22 21 1, zBi 23 22 32768, zAa 16 23] (zk 16 (zq [zAr 4, zAb 5 4] .ret) (.seq (zq [zAa 25 0, zAa 26 6, zAk 27 37 25 26, zAa 24 27] (zk 24 .skip (.region [zAa 28 1, zAa 29 6, zAk 30 37 28 29, zAa 24 30]))) (zk 24 (zq [zAr 4, zAb 5 2] .ret) (zq [zAa 32 0, zAa 33 1, zAk 34 38 32 33, zAa 31 34] (zj 31 (zq [zAr 4, zAb 5 5] .ret)))))))))) (zq [zAa 35 0, zAa 36 1, zAk 37 39 35 36, zAa 4 37, zAb 5 0] .ret))))
def B23 : ABody := .mk 2 14 [.tmp 4] (zq [zAb 4 0] (zq [zAa 5 0, zAa 6 1, ⟨some 7, .bin .rem (.tmp 5) (.tmp 6), none⟩, zAa 0 7] (.seq (zq [zAa 8 0, zBa 9 8 0] (zj 9 (.region [zAa 10 0, zAa 11 1, zBt 12 10 11, zAa 0 12]))) (zq [zAa 13 0, zAa 4 13] .ret))))
def B26 : ABody := .mk 1 11 [.tmp 2] (zq [zAb 2 0] (.seq (.block 0 (zq [zAa 4 0, zAt 5 4, zAp 6 32 5, zCd 7 6, zAa 3 7] (zk 3 (zq [zAb 2 3] .ret) (zq [zAa 9 0, zEv 10 9 48, zAa 8 10] (zj 8 (zq [zAb 2 2] .ret)))))) (zq [zAb 2 0] .ret)))
def B27 : ABody := .mk 1 10 [.tmp 2] (zq [zAr 2] (zq [zAa 3 0, zEd 4 3, zAa 5 0, zAt 6 5, zDd 7 6, zCw 8 33 7, zAk 9 49 4 8, zAa 2 9] .ret))
def B28 : ABody := .mk 1 26 [.tmp 2] (zq [zAb 2 0] (.seq (zq [zAa 4 0, zAt 5 4, zAp 6 34 5, zCd 7 6] (zj 7 (zq [zAb 2 3] .ret))) (.seq (zq [zAb 3 0] (.block 0 (.loop (.seq (zq [zAa 8 3, zAa 9 0, zAt 10 9, zAx 11 8 10] (zk 11 .skip (.exit 0))) (.seq (.block 1 (zq [zAa 14 0, zAa 15 3, zAz 16 1 14 15, zAd 17 16, zBa 18 17 0, zAa 19 18, zBg 20 0 19, zBg 21 3 19, ⟨some 22, .indexAddr 1 (.tmp 20) (.tmp 21), some (19, false)⟩, zDh 23 22 19, zCg 24 23 19, zAw 25 19 24] (zj 25 (zq [zAb 2 2] .ret)))) (.region [zAa 12 3, zAq 13 12 1, zAa 3 13])))))) (zq [zAb 2 0] .ret))))
def B29 : ABody := .mk 2 49 [.tmp 4] (zq [zAr 4] (zq [zAa 10 0, zAt 11 10, zCv 12 11, zAa 5 12] (zq [zAb 6 1] (.seq (zq [zAb 7 0] (.block 0 (.loop (.seq (zq [zAa 13 7, zAa 14 0, zAt 15 14, zAx 16 13 15] (zk 16 .skip (.exit 0))) (.seq (.block 1 (zq [zAb 8 1] (.seq (zq [zAb 9 0] (.block 2 (.loop (.seq (zq [zAa 19 9, zAa 20 0, zAt 21 20, zAx 22 19 21] (zk 22 .skip (.exit 2))) (.seq (.block 3 (.seq (.draw 0 [zAc 0 25 5, zAc 1 26 7, zAc 2 27 5, zAc 3 28 7, zAv 4 29 1 27 28, zAc 6 31 0, zAc 7 32 9, zAv 8 33 1 31 32, zAc 10 35 8, zAn 5 30 29, zAn 9 34 33, zCh 11 36 34 35, zBl 12 37 30 36, zBz 13 38 37 998244353, zAv 14 39 1 25 26, zBj 15 1 39 38]) (.region [zAa 40 8, zAa 41 6, zBe 42 40 41, zBo 43 42 998244353, zAa 8 43]))) (.region [zAa 23 9, zAq 24 23 1, zAa 9 24])))))) (.region [zAa 44 6, zAa 45 1, zBe 46 44 45, zBo 47 46 998244353, zAa 6 47])))) (.region [zAa 17 7, zAq 18 17 1, zAa 7 18])))))) (zq [zAa 48 5, zAa 4 48] .ret)))))
def B30 : ABody := .mk 1 36 [.tmp 2] (zq [zAr 2] (zq [zAa 7 0, zAt 8 7, zDd 9 8, zCw 10 33 9, zAa 3 10] (zq [zAa 11 0, zEd 12 11, zAa 13 3, zBu 14 33 13 998244351, zAk 15 49 12 14, zAa 4 15] (zq [zAa 16 0, zAt 17 16, zBu 18 33 17 998244351, zAa 5 18] (.seq (zq [zAa 19 4, zAt 20 19, zAb 21 0] (.block 0 (.loop (zq [zAx 22 21 20] (.seq (zk 22 .skip (.exit 0)) (.seq (.block 1 (zq [zAa 23 21, zAa 6 23] (.region [zAa 24 4, zAa 25 6, zAa 26 4, zAa 27 6, zAz 28 1 26 27, zAd 29 28, zAa 30 5, zBe 31 29 30, zBo 32 31 998244353, zAz 33 1 24 25, zAl 1 33 32]))) (.region [zAq 34 21 1, zAa 21 34]))))))) (zq [zAa 35 4, zAa 2 35] .ret))))))
def B31 : ABody := .mk 2 22 [.tmp 4] (zq [zAb 4 0] (zq [zAb 5 1] (.seq (.block 0 (.loop (.seq (zq [zAa 6 1, zBi 7 6 0] (zk 7 .skip (.exit 0))) (.seq (.block 1 (.seq (zq [zAa 10 1, zBo 11 10 2, zBq 12 11 1] (zj 12 (.region [zAa 13 5, zAa 14 0, zBe 15 13 14, zBo 16 15 998244353, zAa 5 16]))) (.region [zAa 17 0, zAa 18 0, zBe 19 17 18, zBo 20 19 998244353, zAa 0 20]))) (.region [zAa 8 1, ⟨some 9, .bin .quo (.tmp 8) (.const (.int .i64 2)), none⟩, zAa 1 9]))))) (zq [zAa 21 5, zAa 4 21] .ret))))
def B32 : ABody := .mk 1 16 [.tmp 2] (zq [zBc 2] (zq [zAa 3 0, zBi 4 3 0, zAa 5 4, zAo 6 0 5, zEo, zAe 8 5 7, zAa 9 8, zAo 10 0 9, zAo 11 0 9, zEq, zFc, zAm 14 13 0 9, zAe 15 9 14, zAa 2 15] .ret))
def B33 : ABody := .mk 2 22 [.tmp 4] (zq [zAb 4 0] (zq [zAb 5 1] (.seq (.block 0 (.loop (.seq (zq [zAa 6 1, zBi 7 6 0] (zk 7 .skip (.exit 0))) (.seq (.block 1 (.seq (zq [zAa 10 1, zDl 11 10 1, zBi 12 11 0] (zj 12 (.region [zAa 13 5, zAa 14 0, zBe 15 13 14, zBo 16 15 998244353, zAa 5 16]))) (.region [zAa 17 0, zAa 18 0, zBe 19 17 18, zBo 20 19 998244353, zAa 0 20]))) (.region [zAa 8 1, zCf 9 8 1, zAa 1 9]))))) (zq [zAa 21 5, zAa 4 21] .ret))))
def B34 : ABody := .mk 1 16 [.tmp 2] (zq [zBc 2] (zq [zAa 3 0, zCy 4 3 1, zAa 5 4, zAo 6 0 5, zEo, zAe 8 5 7, zAa 9 8, zAo 10 0 9, zAo 11 0 9, zEq, zFc, zAm 14 13 0 9, zAe 15 9 14, zAa 2 15] .ret))
def B35 : ABody := .mk 1 8 [.tmp 2] (zq [zAb 2 0] (.seq (zq [zAa 3 0, zBi 4 3 499122176] (zj 4 (zq [zAa 5 0, zBv 6 5 998244353, zAa 2 6] .ret))) (zq [zAa 7 0, zAa 2 7] .ret)))
def B36 : ABody := .mk 1 9 [.tmp 2] (zq [zBc 2] (zq [zAa 3 0, zBa 4 3 (-1000000), zAa 5 4, zBg 6 0 5, zBx 7 6 1000000 5, zAw 8 5 7, zAa 2 8] .ret))
def B37 : ABody := .mk 2 9 [.tmp 4] (zq [zBc 4] (zq [zAa 5 0, zAa 6 1, zAk 7 50 5 6, zCy 8 7 0, zAa 4 8] .ret))
def B38 : ABody := .mk 2 40 [.tmp 4] (zq [zBc 4] (zq [zAb 5 0, zAb 6 0] (.seq (zq [zAa 11 0, zAt 12 11, zAb 13 0] (.block 0 (.loop (zq [zAx 14 13 12] (.seq (zk 14 .skip (.exit 0)) (.seq (.block 1 (zq [zAz 15 1 11 13, zAd 16 15, zAa 8 16] (.region [zAa 17 5, zAa 18 8, zAa 19 8, zEk 20 19, ⟨some 21, .max [.tmp 18, .tmp 20], none⟩, zBt 22 17 21, zAa 5 22]))) (.region [zAq 23 13 1, zAa 13 23]))))))) (.seq (zq [zAa 24 1, zAt 25 24, zAb 26 0] (.block 2 (.loop (zq [zAx 27 26 25] (.seq (zk 27 .skip (.exit 2)) (.seq (.block 3 (zq [zAz 28 1 24 26, zAd 29 28, zAa 10 29] (.region [zAa 30 6, zAa 31 10, zAa 32 10, zEk 33 32, ⟨some 34, .max [.tmp 30, .tmp 31, .tmp 33], none⟩, zAa 6 34]))) (.region [zAq 35 26 1, zAa 26 35]))))))) (zq [zAa 36 5, zAa 37 6, zBe 38 36 37, zBi 39 38 499122176, zAa 4 39] .ret)))))
def B39 : ABody := .mk 2 50 [.tmp 4] (zq [zAr 4] (zq [zEw 5, zCt 5 1] (.seq (.block 0 (.loop (.seq (zq [zAd 10 5, zAa 11 0, zAt 12 11, zAa 13 1, zAt 14 13, zBt 15 12 14, zBv 16 15 1, zAx 17 10 16] (zk 17 .skip (.exit 0))) (.block 1 (.region [zAd 18 5, ⟨some 19, .bin .mul (.tmp 18) (.const (.int .i64 2)), none⟩, zAl 1 5 19]))))) (zq [zEa 20 51 5, zAa 6 20] (zq [zAa 21 6, zAa 22 0, zDk 23 21 22, zAa 24 6, zAa 25 1, zDk 26 24 25, ⟨some 27, .call (.const (.func 53 [] [])) [.tmp 23, .tmp 26, .const (.func 54 [] [])], none⟩, zAp 28 30 27, zAa 7 28] (.seq (zq [zAa 29 7, zAt 30 29, zAb 31 0] (.block 2 (.loop (zq [zAx 32 31 30] (.seq (zk 32 .skip (.exit 2)) (.seq (.block 3 (zq [zAa 33 31, zAz 34 1 29 31, zAd 35 34, zAa 8 33, zAa 9 35] (.region [zAa 36 7, zAa 37 8, zAa 38 9, zAp 39 35 38, zAz 40 1 36 37, zAl 1 40 39]))) (.region [zAq 41 31 1, zAa 31 41]))))))) (zq [zAa 42 7, zAa 43 0, zAt 44 43, zAa 45 1, zAt 46 45, zBt 47 44 46, zBv 48 47 1, zEf 49 1 42 48, zAa 4 49] .ret)))))))
def B45 : ABody := .mk 3 17 [.tmp 6] (zq [zAb 6 0] (.seq (zq [zAa 7 1, zAa 8 0, zAt 9 8, zEx 10 7 9] (zj 10 (zq [zAb 6 0] .ret))) (zq [zAa 11 0, zAa 12 1, zAz 13 1 11 12, zAd 14 13, zAa 15 2, zAk 16 23 14 15, zAa 6 16] .ret)))
def B48 : ABody := .mk 1 9 [.tmp 2] (zq [zBc 2] (zq [zAa 3 0, zBa 4 3 0, zAa 5 4, zBg 6 0 5, zCg 7 6 5, zAw 8 5 7, zAa 2 8] .ret))
def B49 : ABody := .mk 2 81 [.tmp 4] (zq [zBf 2 0, zAr 4] (zq [zAi 14 2 2, zAp 15 57 14, zEw 5, zAl 1 5 15] (.seq (zq [zAd 16 5, zBq 17 16 1] (zj 17 (zq [zAi 18 2 2, zBu 19 58 18 0, zDz 20 19, zAa 4 20] .ret))) (zq [zAi 22 2 2, zAp 23 59 22, zAa 21 23, zAf 24 21 0, zAf 25 21 1, zDo 6, zDo 7, zAl 2 6 24, zAl 2 7 25] (.seq (.draw 16 [zAc 1 27 1, zAc 2 28 1, zCh 3 29 27 28, zBz 4 30 29 998244353, zAc 7 33 1, zAc 8 34 1, zCh 9 35 33 34, zBz 10 36 35 998244353, zBr 0 26 2 6, zEp 6 32 2 7, ⟨5, true, [6], ⟨some 31, .call (.const (.func 49 [] [])) [.tmp 26, .tmp 30], none⟩⟩, zFi 11 37 49 32 36, ⟨12, false, [5, 11], ⟨some 8, .alloc [.nilslice], none⟩⟩, ⟨13, false, [5, 11], ⟨some 9, .alloc [.nilslice], none⟩⟩, zBj 14 1 8 31, zBj 15 1 9 37]) (zq [zAd 38 5, zCv 39 38, zFa 10, zAl 1 10 39] (zq [zEw 11, zCt 11 0] (.seq (zq [zAa 40 1, zAp 41 60 40] (.block 0 (.rangeFunc (.tmp 41) [42] (.region [zAa 12 42]) (.block 1 (.seq (zq [zAd 43 11, zAd 44 5, ⟨some 45, .bin .quo (.tmp 44) (.const (.int .i64 2)), none⟩, zDf 46 43 45] (zj 46 (.exit 0))) (zq [zAd 47 9, zAd 48 11, zAz 49 1 47 48, zAd 50 49, zAa 51 12, zBe 52 50 51, zBo 53 52 998244353, zAa 13 53] (.seq (.draw 0 [zAc 11 65 13, zAc 19 73 13, zAn 0 54 10, zAn 1 55 11, zAu 2 56 10, zAu 3 57 11, zAu 4 58 5, zDw 5 59 58 2, zBl 6 60 57 59, zAn 7 61 8, zAn 8 62 11, zAv 9 63 1 61 62, zAn 10 64 63, zBl 12 66 64 65, zBz 13 67 66 998244353, zAn 14 68 8, zAn 15 69 11, zAv 16 70 1 68 69, zAn 17 71 70, zCj 18 72 71 998244353, zCu 20 74 72 73, zBz 21 75 74 998244353, zAv 22 76 1 54 55, ⟨23, false, [2, 3, 4], ⟨none, .store 1 (.tmp 76) (.tmp 67), none⟩⟩, zAv 24 77 1 56 60, zBj 25 1 77 75]) (.region [zAd 78 11, zAq 79 78 1, zAl 1 11 79])))))))) (zq [zAd 80 10, zAa 4 80] .ret)))))))))
def B50 : ABody := .mk 2 19 [.tmp 4] (zq [zAb 4 0] (.seq (zq [zAa 6 0, zAt 7 6, zAb 8 0] (.block 0 (.loop (zq [zAx 9 8 7] (.seq (zk 9 .skip (.exit 0)) (.seq (.block 1 (zq [zAa 10 8, zAa 5 10] (zq [zAa 11 1, zAa 12 0, zAa 13 5, zAz 14 1 12 13, zAd 15 14, zDk 16 11 15] (zj 16 (zq [zAa 17 5, zAa 4 17] .ret))))) (.region [zAq 18 8 1, zAa 8 18]))))))) (zq [zAb 4 (-1)] .ret)))
def B51 : ABody := .mk 1 24 [.tmp 3] (zq [zAr 3] (zq [zAd 7 1, zCv 8 7, zAa 4 8] (.seq (zq [zAa 9 0, zAt 10 9, zAb 11 0] (.block 0 (.loop (zq [zAx 12 11 10] (.seq (zk 12 .skip (.exit 0)) (.seq (.block 1 (zq [zAa 13 11, zAz 14 1 9 11, zAd 15 14, zAa 5 13, zAa 6 15] (.region [zAa 16 4, zAa 17 5, zAa 18 6, zAp 19 52 18, zAz 20 1 16 17, zAl 1 20 19]))) (.region [zAq 21 11 1, zAa 11 21]))))))) (zq [zAa 22 4, zAp 23 27 22, zAa 3 23] .ret))))
def B52 : ABody := .mk 1 10 [.tmp 2] (zq [zAb 2 0] (.seq (zq [zAa 3 0, zBo 4 3 998244353, zAa 0 4] (zq [zAa 5 0, zBa 6 5 0] (zj 6 (.region [zAa 7 0, zAq 8 7 998244353, zAa 0 8])))) (zq [zAa 9 0, zAa 2 9] .ret)))
def B53 : ABody := .mk 3 32 [.tmp 6] (zq [zAr 6] (zq [zAa 9 0, zAt 10 9, zCv 11 10, zAa 7 11] (.seq (zq [zAa 12 7, zAt 13 12, zAb 14 0] (.block 0 (.loop (zq [zAx 15 14 13] (.seq (zk 15 .skip (.exit 0)) (.seq (.block 1 (zq [zAa 16 14, zAa 8 16] (.draw 0 [zAc 0 17 7, zAc 1 18 8, zAc 2 19 2, zAc 3 20 0, zAc 4 21 8, zAv 5 22 1 20 21, zAc 7 24 1, zAc 8 25 8, zAv 9 26 1 24 25, zAn 6 23 22, zAn 10 27 26, ⟨11, false, [], ⟨some 28, .call (.tmp 19) [.tmp 23, .tmp 27], none⟩⟩, zAv 12 29 1 17 18, zBj 13 1 29 28]))) (.region [zAq 30 14 1, zAa 14 30]))))))) (zq [zAa 31 7, zAa 6 31] .ret))))
def B54 : ABody := .mk 2 9 [.tmp 4] (zq [zAb 4 0] (zq [zAa 5 0, zAa 6 1, zBe 7 5 6, zBo 8 7 998244353, zAa 4 8] .ret))
def B57 : ABody := .mk 1 13 [.tmp 2] (zq [zBf 1 0, zAb 2 0] (zq [zAj 3 0 1, zAd 4 3, zAt 5 4, zAj 6 1 1, zAd 7 6, zBt 8 5 7, zBv 9 8 1, zAj 10 1 1, zAd 11 10, zEy 12 9 11, zAa 2 12] .ret))
def B58 : ABody := .mk 2 13 [.tmp 4] (zq [zBf 2 0, zAb 4 0] (zq [zAj 5 0 2, zAd 6 5, zAa 7 1, zAj 8 1 2, zAd 9 8, zBe 10 7 9, zAz 11 1 6 10, zAd 12 11, zAa 4 12] .ret))
def B59 : ABody := .mk 1 32 [.cell 2 true 2, .cell 3 true 2] (zq [zBf 1 0, zDo 2, zDo 3] (.seq (.draw 0 [zAh 0 4 0 1, zAh 2 6 0 1, zAh 5 9 0 1, zAh 9 13 1 1, zAh 13 17 0 1, zAh 15 19 1 1, zAh 17 21 0 1, zAh 20 24 0 1, zAh 24 28 1 1, zAn 1 5 4, zAn 3 7 6, zDc 4 8 7, zAn 6 10 9, zDc 7 11 10, ⟨8, false, [], ⟨some 12, .slice 1 (.tmp 5) none (some (.tmp 8)) (some (.tmp 11)), none⟩⟩, zAn 10 14 13, zCo 11 15 14, zEe 12 16 15, zAu 14 18 17, zAu 16 20 19, zAu 18 22 21, zDc 19 23 22, zAu 21 25 24, zDc 22 26 25, ⟨23, true, [], ⟨some 27, .slice 1 (.tmp 18) (some (.tmp 20)) (some (.tmp 23)) (some (.tmp 26)), none⟩⟩, zAu 25 29 28, zCo 26 30 29, zEe 27 31 30, ⟨28, false, [14, 16, 18, 21, 23, 25], ⟨none, .store 2 (.tmp 2) (.tmp 16), none⟩⟩, zBj 29 2 3 31]) .ret))
def B60 : ABody := .mk 1 4 [.tmp 2] (zq [zBf 1 0, zEt 2] (zq [zEa 3 61 1, zAa 2 3] .ret))
def B61 : ABody := .mk 1 11 [] (zq [zAb 3 1] (.block 0 (.loop (.seq (zq [zAa 4 0, zAa 5 3, zDk 6 4 5] (zk 6 .skip (.exit 0))) (.block 1 (.region [zAa 7 3, zAd 8 1, zBe 9 7 8, zBo 10 9 998244353, zAa 3 10]))))))
def B70 : ABody := .mk 1 11 [.tmp 2, .tmp 3] (zq [zAb 2 0, zAb 3 0] (.seq (zq [⟨some 4, .buildSlice 5 [.int .i64 0, .int .i64 0, .int .i64 0, .int .i64 0, .int .i64 0] [(0, (1, .const (.int .i64 5))), (1, (1, .const (.int .i64 6))), (2, (1, .const (.int .i64 7))), (3, (1, .const (.int .i64 9))), (4, (1, .const (.int .i64 10)))], none⟩, zAa 5 0, zAk 6 89 4 5, zCd 7 6] (zj 7 (zq [zAb 2 0, zAb 3 2] .ret))) (zq [zAa 8 0, ⟨some 9, .bin .shl (.const (.int .i64 1)) (.tmp 8), none⟩, zBv 10 9 1, zAa 2 10, zAb 3 0] .ret)))
def B72 : ABody := .mk 2 60 [.tmp 4, .tmp 5] (zq [zAr 4, zAb 5 0] (.seq (zq [zAa 12 0, zAp 13 70 12, zAa 11 13, zAf 14 11 0, zAf 15 11 1, zAa 6 14, zAa 7 15] (zq [zAa 16 7, zBb 17 16] (zj 17 (zq [zAa 18 7, zAr 4, zAa 5 18] .ret)))) (.seq (zq [zAa 19 1, zBa 20 19 1, zAa 21 20, zBg 22 1 21, zBx 23 22 2 21, zAw 24 21 23] (zj 24 (zq [zAr 4, zAb 5 2] .ret))) (zq [zBd 25 0 2, zBh 26 2 3 4, zCl 27 25 26, zBw 28 5 27, zBd 29 0 1, zBh 30 1 2 5, zCl 31 29 30, zBw 32 6 31, zBd 33 0 3, zBh 34 1 2 3, zCl 35 33 34, zBw 36 7 35, zBd 37 0 4, zBh 38 3 4 6, zCl 39 37 38, zBw 40 9 39, zBd 41 0 3, zBh 42 2 3 8, zCl 43 41 42, zBw 44 10 43, ⟨some 45, .build [.int .i64 0, .nilslice, .nilslice, .int .i64 0, .nilslice, .nilslice, .int .i64 0, .nilslice, .nilslice, .int .i64 0, .nilslice, .nilslice, .int .i64 0, .nilslice, .nilslice] [(0, (3, .tmp 28)), (3, (3, .tmp 32)), (6, (3, .tmp 36)), (9, (3, .tmp 40)), (12, (3, .tmp 44))], none⟩, ⟨some 8, .alloc [.int .i64 0, .nilslice, .nilslice, .int .i64 0, .nilslice, .nilslice, .int .i64 0, .nilslice, .nilslice, .int .i64 0, .nilslice, .nilslice, .int .i64 0, .nilslice, .nilslice], none⟩, zAl 15 8 45] (.seq (zq [zAi 46 15 8, zAb 47 0] (.block 0 (.loop (zq [zBa 48 47 5] (.seq (zk 48 .skip (.exit 0)) (.seq (.block 1 (zq [⟨some 49, .index true 3 5 (.tmp 46) (.tmp 47), none⟩, ⟨some 10, .alloc [.int .i64 0, .nilslice, .nilslice], none⟩, zAl 3 10 49] (zq [zAj 50 0 10, zAd 51 50, zAa 52 0, zDf 53 51 52] (zj 53 (zq [zAa 54 1, zBv 55 54 1, zAj 56 1 10, ⟨some 57, .indexArr 1 2 (.tmp 56) (.tmp 55), none⟩, zAd 58 57, zAa 4 58, zAb 5 0] .ret))))) (.region [zAq 59 47 1, zAa 47 59]))))))) (zq [zAr 4, zAb 5 2] .ret))))))
def B74 : ABody := .mk 2 28 [.tmp 4, .tmp 5] (zq [zAr 4, zAb 5 0] (zq [zAa 9 0, zAa 10 1, zAk 11 72 9 10, zAa 8 11, zAf 12 8 0, zAf 13 8 1, zAa 6 12, zAa 7 13] (.seq (zq [zAa 14 7, zBb 15 14] (zj 15 (zq [zAa 16 7, zAr 4, zAa 5 16] .ret))) (.seq (.draw 13 [zAc 0 17 0, zAc 1 18 6, zAc 3 20 0, zAc 5 22 0, zDr 6 23 22, zCa 7 24 23 1, ⟨2, false, [], ⟨some 19, .buildSlice 1 [.int .i64 0] [(0, (1, .const (.int .i64 1)))], none⟩⟩, zFf 4 21 90 19 20, ⟨8, false, [], ⟨some 25, .call (.const (.func 81 [] [])) [.tmp 17, .tmp 18, .tmp 21, .tmp 24], none⟩⟩, zDy 9 26 25 0, zDy 10 27 25 1, zAc 11 4 26, zAc 12 5 27]) .ret))))
def B76 : ABody := .mk 2 83 [.tmp 4, .tmp 5] (zq [zAr 4, zAb 5 0] (zq [zAa 16 0, zAp 17 70 16, zAa 15 17, zAf 18 15 0, zAf 19 15 1, zAa 6 18, zAa 7 19] (.seq (zq [zAa 20 7, zBb 21 20] (zj 21 (zq [zAa 22 7, zAr 4, zAa 5 22] .ret))) (.seq (zq [zAa 23 1, zBa 24 23 1, zAa 25 24, zBg 26 1 25, zBg 27 6 25, ⟨some 28, .bin .add (.tmp 27) (.const (.int .i64 2)), some (25, false)⟩, ⟨some 29, .bin .gtr (.tmp 26) (.tmp 28), some (25, false)⟩, zAw 30 25 29] (zj 30 (zq [zAr 4, zAb 5 2] .ret))) (zq [zAa 32 0, zBu 33 74 32 1, zAa 31 33, zAf 34 31 0, zAf 35 31 1, zAa 8 34, zAa 9 35] (zq [zAa 37 0, zBu 38 74 37 2, zAa 36 38, zAf 39 36 0, zAf 40 36 1, zAa 10 39, zAa 11 40] (.seq (zq [zAa 41 1] (.block 0 (zq [zBq 64 41 1, zAa 63 64] (zk 63 .skip (zq [zBq 66 41 2, zAa 65 66] (zk 65 (.region [zAa 67 10, zAa 8 67]) (zq [zAa 42 8, zAt 43 42, zAb 44 0] (.block 1 (.loop (zq [zAx 45 44 43] (.seq (zk 45 .skip (.exit 1)) (.seq (.block 2 (zq [zAa 46 44, zAa 12 46] (.draw 0 [zAc 0 47 8, zAc 1 48 12, zAv 2 49 1 47 48, zAc 4 51 10, zAc 5 52 12, zAc 6 53 1, zBl 7 54 52 53, zCa 8 55 54 3, zAc 9 56 6, zEg 10 57 55 56, zAv 11 58 1 51 57, zAn 3 50 49, zAn 12 59 58, ⟨13, false, [], ⟨some 60, .bin .xor (.tmp 50) (.tmp 59), none⟩⟩, zAv 14 61 1 47 48, zBj 15 1 61 60]))) (.region [zAq 62 44 1, zAa 44 62]))))))))))))) (.seq (zq [zAa 68 8, zAt 69 68, zAb 70 0] (.block 3 (.loop (zq [zAx 71 70 69] (.seq (zk 71 .skip (.exit 3)) (.seq (.block 4 (zq [zAa 72 70, zAz 73 1 68 70, zAd 74 73, zAa 13 72, zAa 14 74] (.region [zAa 75 8, zAa 76 13, zAa 77 14, ⟨some 78, .bin .mul (.const (.int .i64 2)) (.tmp 77), none⟩, ⟨some 79, .bin .sub (.const (.int .i64 1)) (.tmp 78), none⟩, zAz 80 1 75 76, zAl 1 80 79]))) (.region [zAq 81 70 1, zAa 70 81]))))))) (zq [zAa 82 8, zAa 4 82, zAb 5 0] .ret)))))))))
def B81 : ABody := .mk 4 31 [.tmp 8, .tmp 9] (zq [zAr 8, zAb 9 0] (zq [zAa 13 0, zAa 14 1, zAa 15 2, zCe 16 92 13 14 15, zAa 12 16, zAf 17 12 0, zAf 18 12 1, zDu 10, zAl 3 10 17, zAa 11 18] (.seq (zq [zAa 19 11, zBb 20 19] (zj 20 (zq [zAa 21 11, zAr 8, zAa 9 21] .ret))) (.seq (zq [zAa 22 3, zBa 23 22 0, zAa 24 23, zBg 25 3 24, zBx 26 25 100000 24, zAw 27 24 26] (zj 27 (zq [zAr 8, zAb 9 4] .ret))) (zq [zAi 28 3 10, zAa 29 3, zAk 30 93 28 29, zAa 8 30, zAb 9 0] .ret)))))
def B89 : ABody := .mk 2 9 [.tmp 4] (zq [zBc 4] (zq [zAa 5 0, zAa 6 1, zAk 7 99 5 6, zCy 8 7 0, zAa 4 8] .ret))
def B90 : ABody := .mk 2 48 [.tmp 4] (zq [zAr 4] (.seq (zq [zAa 9 1, zBa 10 9 0] (zj 10 (.region [zEr, zEr]))) (zq [zAa 13 0, zAt 14 13, zDm 15 14, zAa 16 1, zDm 17 16, zAk 18 100 15 17, zAa 12 18, zAf 19 12 0, zAf 20 12 1, zAa 5 19, zAa 6 20] (.seq (zq [zAa 21 5, ⟨some 22, .bin .gtr (.tmp 21) (.const (.int .u64 0)), none⟩, zAa 23 22, zBg 24 6 23, ⟨some 25, .bin .gtr (.tmp 24) (.const (.int .u64 9223372036854775807)), some (23, false)⟩, zAw 26 23 25] (zj 26 (.region [zEr, zEr]))) (zq [zAa 28 6, zFd 29 28, zCv 30 29, zAa 7 30] (zq [zAa 31 7, zAa 32 0, ⟨some 33, .copy 1 (.tmp 31) (.tmp 32), none⟩, zAa 8 33] (.seq (.block 0 (.loop (.seq (zq [zAa 34 8, zAa 35 7, zAt 36 35, zAx 37 34 36] (zk 37 .skip (.exit 0))) (.block 1 (.draw 10 [zAc 0 38 8, zAc 1 39 7, zAc 2 40 8, zAc 4 42 7, zAc 5 43 8, ⟨3, false, [], ⟨some 41, .slice 1 (.tmp 39) (some (.tmp 40)) none none, none⟩⟩, ⟨6, false, [], ⟨some 44, .slice 1 (.tmp 42) none (some (.tmp 43)) none, none⟩⟩, ⟨7, false, [], ⟨some 45, .copy 1 (.tmp 41) (.tmp 44), none⟩⟩, zBl 8 46 38 45, zAc 9 8 46]))))) (zq [zAa 47 7, zAa 4 47] .ret))))))))
def B92 : ABody := .mk 3 86 [.cell 6 true 3, .tmp 7] (zq [zDu 6, zAb 7 0] (.seq (zq [zAa 14 0, zBa 15 14 2, zAa 16 15, zBg 17 0 16, zBx 18 17 16 16, zAw 19 16 18] (zj 19 (zq [zDa 20, zAl 3 6 20, zAb 7 2] .ret))) (.seq (zq [zAa 21 1, zAt 22 21, zBq 23 22 0, zAa 24 23, zBg 25 1 24, ⟨some 26, .indexAddr 1 (.tmp 25) (.const (.int .i64 0)), some (24, false)⟩, zDh 27 26 24, ⟨some 28, .bin .neq (.tmp 27) (.const (.int .i64 0)), some (24, false)⟩, zAw 29 24 28, zAa 30 29, zBg 31 2 30, zDj 32 31 30, zBg 33 0 30, ⟨some 34, .bin .neq (.tmp 32) (.tmp 33), some (30, false)⟩, zAw 35 30 34] (zj 35 (zq [zDa 36, zAl 3 6 36, zAb 7 3] .ret))) (zq [zAa 37 0, ⟨some 38, .build [.int .i64 0, .int .u32 0, .int .u32 0] [(0, (1, .tmp 37))], none⟩, zDu 8, zAl 3 8 38] (zq [zAb 9 (-1)] (.seq (zq [zAa 39 1, zAt 40 39, zAb 41 0] (.block 0 (.loop (zq [zAx 42 41 40] (.seq (zk 42 .skip (.exit 0)) (.seq (.block 1 (zq [zAz 43 1 39 41, zAd 44 43, zAa 11 44] (.seq (zq [zAa 45 11, zAa 46 9, zEz 47 45 46, zAa 48 47, zBg 49 11 48, zBg 50 0 48, ⟨some 51, .bin .geq (.tmp 49) (.tmp 50), some (48, false)⟩, zAw 52 48 51] (zj 52 (zq [zDa 53, zAl 3 6 53, zAb 7 3] .ret))) (zq [zAa 54 11, zAa 9 54] (.draw 0 [zAh 0 55 2 8, zAc 2 57 11, ⟨3, false, [], ⟨some 58, .bin .shl (.const (.int .u32 1)) (.tmp 57), none⟩⟩, zAn 1 56 55, zEh 4 59 56 58, zAh 5 60 2 8, zBj 6 1 60 59]))))) (.region [zAq 61 41 1, zAa 41 61]))))))) (.seq (zq [zAa 62 2, zAt 63 62, zAb 64 0] (.block 2 (.loop (zq [zAx 65 64 63] (.seq (zk 65 .skip (.exit 2)) (.seq (.block 3 (zq [zAa 66 64, zAz 67 1 62 64, zAd 68 67, zAa 12 66, zAa 13 68] (.seq (zq [zAa 69 13, zBb 70 69, zAa 71 70, zAo 72 13 71, zFg 73 72 71, zAe 74 71 73] (zj 74 (zq [zDa 75, zAl 3 6 75, zAb 7 3] .ret))) (.draw 0 [zAh 0 76 1 8, zAc 2 78 13, zDt 3 79 78, zAc 4 80 12, ⟨5, false, [], ⟨some 81, .bin .shl (.tmp 79) (.tmp 80), none⟩⟩, zAn 1 77 76, zEh 6 82 77 81, zAh 7 83 1 8, zBj 8 1 83 82])))) (.region [zAq 84 64 1, zAa 64 84]))))))) (zq [zAi 85 3 8, zAl 3 6 85, zAb 7 0] .ret))))))))
def B93 : ABody := .mk 2 22 [.tmp 4] (zq [zBf 2 0, zBf 3 1, zAr 4] (zq [zAd 7 3, ⟨some 8, .makeSlice [.int .i64 0] 8 (.const (.int .i64 0)) (.tmp 7), none⟩, zFa 5, zAl 1 5 8] (.seq (zq [zAi 9 3 2, zAp 10 95 9] (.block 0 (.rangeFunc (.tmp 10) [11, 12] (.region [zAa 6 11]) (.block 1 (.seq (zq [zAd 13 5, zAt 14 13, zAd 15 3, zDf 16 14 15] (zj 16 (.exit 0))) (.region [zAd 17 5, zAa 18 6, zDz 19 18, zEi 20 1 8 17 19, zAl 1 5 20])))))) (zq [zAd 21 5, zAa 4 21] .ret))))
def B95 : ABody := .mk 1 4 [.tmp 2] (zq [zBf 1 0, zEt 2] (zq [zEa 3 101 1, zAa 2 3] .ret))
def B99 : ABody := .mk 2 19 [.tmp 4] (zq [zAb 4 0] (.seq (zq [zAa 6 0, zAt 7 6, zAb 8 0] (.block 0 (.loop (zq [zAx 9 8 7] (.seq (zk 9 .skip (.exit 0)) (.seq (.block 1 (zq [zAa 10 8, zAa 5 10] (zq [zAa 11 1, zAa 12 0, zAa 13 5, zAz 14 1 12 13, zAd 15 14, zDf 16 11 15] (zj 16 (zq [zAa 17 5, zAa 4 17] .ret))))) (.region [zAq 18 8 1, zAa 8 18]))))))) (zq [zAb 4 (-1)] .ret)))
def B100 : ABody := .mk 2 30 [.tmp 4, .tmp 5] (zq [zDx 4, zDx 5] (.seq (.cond (.const (.bool false)) (zq [zAa 11 0, zDn 12 11, zAa 13 1, zDn 14 13, zAk 15 104 12 14, zAa 10 15, zAf 16 10 0, zAf 17 10 1, zAa 6 16, zAa 7 17] (zq [zAa 18 6, zDm 19 18, zAa 20 7, zDm 21 20, zAa 4 19, zAa 5 21] .ret)) .skip) (zq [zAa 23 0, zAa 24 1, zAk 25 105 23 24, zAa 22 25, zAf 26 22 0, zAf 27 22 1, zAa 8 26, zAa 9 27] (zq [zAa 28 8, zAa 29 9, zAa 4 28, zAa 5 29] .ret))))
def B101 : ABody := .mk 1 33 [] (.block 0 (.loop (.block 1 (zq [zAj 5 1 1, zAd 6 5, ⟨some 7, .bin .and (.tmp 6) (.const (.int .u32 1)), none⟩, zFd 8 7, zAa 3 8] (zq [zAj 9 1 1, zAd 10 9, zAj 11 2 1, zAd 12 11, ⟨some 13, .bin .and (.tmp 10) (.tmp 12), none⟩, zAp 14 102 13, zDl 15 14 1, zDn 16 15, zAa 4 16] (.seq (.draw 0 [zAh 0 17 1 1, zAc 3 20 4, zAh 4 21 0 1, zAn 1 18 17, zCr 2 19 18 1, zAn 5 22 21, zCa 6 23 22 1, ⟨7, false, [], ⟨some 24, .bin .shl (.tmp 20) (.tmp 23), none⟩⟩, zEh 8 25 19 24, zAh 9 26 1 1, zBj 10 1 26 25]) (zq [zAa 27 0, zAa 28 3, zAj 29 1 1, zAd 30 29, ⟨some 31, .call (.tmp 27) [.tmp 28, .tmp 30], none⟩, zCd 32 31] (zj 32 .ret))))))))
def B102 : ABody := .mk 1 21 [.tmp 2] (zq [zAb 2 0] (.seq (.draw 0 [zAc 0 3 0, zCr 1 4 3 24, zAg 2 5 4, zAc 3 6 0, zCr 4 7 6 16, zDp 5 8 7, zAg 6 9 8, zBl 7 10 5 9, zAc 8 11 0, zCr 9 12 11 8, zDp 10 13 12, zAg 11 14 13, zBl 12 15 10 14, zAc 13 16 0, zDp 14 17 16, zAg 15 18 17, zBl 16 19 15 18, ⟨17, false, [], ⟨some 20, .conv .i64 (.tmp 19), none⟩⟩, zAc 18 2 20]) .ret))
def B104 : ABody := .mk 2 17 [.tmp 4, .tmp 5] (zq [zEl 4, zEl 5] (zq [zAa 7 0, zDm 8 7, zAa 9 1, zDm 10 9, zBe 11 8 10, zAa 6 11] (zq [zAa 12 6, zCf 13 12 32, zDn 14 13, zAa 15 6, zDn 16 15, zAa 4 14, zAa 5 16] .ret)))
def B105 : ABody := .mk 2 51 [.tmp 4, .tmp 5] (zq [zDx 4, zDx 5] (zq [zAa 14 0, zDv 15 14, zAa 6 15] (zq [zAa 16 0, zCf 17 16 32, zAa 7 17] (zq [zAa 18 1, zDv 19 18, zAa 8 19] (zq [zAa 20 1, zCf 21 20 32, zAa 9 21] (zq [zAa 22 6, zAa 23 8, zBe 24 22 23, zAa 10 24] (zq [zAa 25 7, zAa 26 8, zBe 27 25 26, zAa 28 10, zCf 29 28 32, zBt 30 27 29, zAa 11 30] (zq [zAa 31 11, zDv 32 31, zAa 12 32] (zq [zAa 33 11, zCf 34 33 32, zAa 13 34] (zq [zAa 35 12, zAa 36 6, zAa 37 9, zBe 38 36 37, zBt 39 35 38, zAa 12 39] (zq [zAa 40 7, zAa 41 9, zBe 42 40 41, zAa 43 13, zBt 44 42 43, zAa 45 12, zCf 46 45 32, zBt 47 44 46, zAa 4 47] (zq [zAa 48 0, zAa 49 1, zBe 50 48 49, zAa 5 50] .ret))))))))))))
def B135 : ABody := .mk 1 7 [.cell 2 true 2] (zq [zBn 2] (zq [zAa 3 0, zCf 4 3 26, zFd 5 4, zAp 6 146 5, zAl 2 2 6] .ret))
def B143 : ABody := .mk 3 13 [.tmp 6] (zq [zEl 6] (zq [zAa 7 0, zAa 8 1, zAa 9 2, zDn 10 9, zBe 11 8 10, zBt 12 7 11, zAa 6 12] .ret))
def B146 : ABody := .mk 1 20 [.cell 2 true 2] (zq [zBn 2] (zq [zAa 4 0, zDl 5 4 63, zAa 0 5] (zq [zBm 6 151, zCq 3, zAl 17 3 6] (.seq (.draw 0 [zAc 0 7 0, zBz 1 8 7 16, ⟨2, false, [], ⟨some 9, .indexArr 1 17 (.tmp 3) (.tmp 8), none⟩⟩, zAc 4 11 0, zBz 5 12 11 16, zFh 6 13 16 12, ⟨7, false, [], ⟨some 14, .indexArr 1 17 (.tmp 3) (.tmp 13), none⟩⟩, zAc 10 17 0, zDw 11 18 17 16, zAn 3 10 9, zAn 8 15 14, zEj 9 16 10 15, zFf 12 19 152 16 18, zBj 13 2 2 19]) .ret))))
def B151 : ABody := .mk 0 2 [.cell 0 true 17] (zq [zCq 0] (zq [⟨some 1, .build [.int .i64 0, .int .i64 0, .int .i64 0, .int .i64 0, .int .i64 0, .int .i64 0, .int .i64 0, .int .i64 0, .int .i64 0, .int .i64 0, .int .i64 0, .int .i64 0, .int .i64 0, .int .i64 0, .int .i64 0, .int .i64 0, .int .i64 0] [(0, (1, .const (.int .i64 127))), (1, (1, .const (.int .i64 126))), (2, (1, .const (.int .i64 125))), (3, (1, .const (.int .i64 122))), (4, (1, .const (.int .i64 117))), (5, (1, .const (.int .i64 112))), (6, (1, .const (.int .i64 106))), (7, (1, .const (.int .i64 98))), (8, (1, .const (.int .i64 90))), (9, (1, .const (.int .i64 81))), (10, (1, .const (.int .i64 71))), (11, (1, .const (.int .i64 60))), (12, (1, .const (.int .i64 49))), (13, (1, .const (.int .i64 37))), (14, (1, .const (.int .i64 25))), (15, (1, .const (.int .i64 12))), (16, (1, .const (.int .i64 0)))], none⟩, zAl 17 0 1] .ret))
def B152 : ABody := .mk 2 13 [.cell 4 true 2] (zq [zBf 2 0, zBn 4] (.seq (zq [zAa 5 1, zDl 6 5 3, zAb 7 0] (.block 0 (.loop (zq [zAx 8 7 6] (.seq (zk 8 .skip (.exit 0)) (.seq (.block 1 (.region [zAi 9 2 2, zAp 10 153 9, zAl 2 2 10])) (.region [zAq 11 7 1, zAa 7 11]))))))) (zq [zAi 12 2 2, zAl 2 4 12] .ret)))
def B153 : ABody := .mk 1 9 [.cell 2 true 2] (zq [zBf 1 0, zBn 2] (zq [zAj 3 1 1, zAd 4 3, zEk 5 4, zAj 6 0 1, zAd 7 6, zCi 8 5 7, zAl 2 2 8] .ret))
def B212 : ABody := .mk 0 260 [.tmp 0] (zq [zBc 0] (zq [zBm 19 233, zBm 20 234, zBs 1, zBk 2, zAl 8 1 19, zAl 8 2 20] (zq [zAi 22 8 1, zAi 23 8 2, zAy 24 221 22 23 0, zAa 21 24, zAf 25 21 0, zAf 26 21 1, zAa 3 25, zAa 4 26] (zq [zAj 27 2 2, zCt 27 (-64)] (zq [zAi 29 8 1, zAi 30 8 2, zAy 31 221 29 30 1, zAa 28 31, zAf 32 28 0, zAf 33 28 1, zAa 5 32, zAa 6 33] (zq [zAi 35 8 1, zAi 36 8 2, zAy 37 221 35 36 16, zAa 34 37, zAf 38 34 0, zAf 39 34 1, zAa 7 38, zAa 8 39] (zq [zAi 41 8 1, zAi 42 8 2, zAy 43 221 41 42 17, zAa 40 43, zAf 44 40 0, zAf 45 40 1, zAa 9 44, zAa 10 45] (zq [zAa 46 3, zBq 47 46 3, zAa 48 47, zAo 49 5 48, zAm 50 49 64 48, zAe 51 48 50, zAa 52 51, zAo 53 7 52, zAm 54 53 994 52, zAe 55 52 54, zAa 56 55, zAo 57 9 56, zAm 58 57 1055 56, zAe 59 56 58, zAa 60 59, zAo 61 4 60, zAm 62 61 0 60, zAe 63 60 62, zAa 64 63, zAo 65 6 64, zAm 66 65 0 64, zAe 67 64 66, zAa 68 67, zAo 69 8 68, zAm 70 69 0 68, zAe 71 68 70, zAa 72 71, zAo 73 10 72, zAm 74 73 0 72, zAe 75 72 74, zAa 11 75] (zq [zBm 76 234, zAl 8 2 76] (zq [zAi 78 8 1, zAi 79 8 2, zAy 80 225 78 79 3, zAa 77 80, zAf 81 77 0, zAf 82 77 1, zAf 83 77 2, zAa 12 81, zAa 13 82, zAa 4 83] (zq [zAa 84 11, zAa 85 84, zAo 86 12 85, zAm 87 86 0 85, zAe 88 85 87, zAa 89 88, zAo 90 13 89, zAm 91 90 0 89, zAe 92 89 91, zAa 93 92, zAo 94 4 93, zAm 95 94 0 93, zAe 96 93 95, zAa 11 96] (zq [zAi 98 8 1, zAi 99 8 2, zAy 100 225 98 99 65, zAa 97 100, zAf 101 97 0, zAf 102 97 1, zAf 103 97 2, zAa 12 101, zAa 13 102, zAa 4 103] (zq [zAa 104 11, zAa 105 104, zAo 106 12 105, zAm 107 106 1 105, zAe 108 105 107, zAa 109 108, zAo 110 13 109, zAm 111 110 0 109, zAe 112 109 111, zAa 113 112, zAo 114 4 113, zAm 115 114 0 113, zAe 116 113 115, zAa 11 116] (zq [zAi 118 8 1, zAi 119 8 2, zAy 120 227 118 119 1, zAa 117 120, zAf 121 117 0, zAf 122 117 1, zAa 3 121, zAa 4 122] (zq [zAi 124 8 1, zAi 125 8 2, zAy 126 227 124 125 2, zAa 123 126, zAf 127 123 0, zAf 128 123 1, zAa 5 127, zAa 6 128] (zq [zAi 130 8 1, zAi 131 8 2, zAy 132 227 130 131 (-1), zAa 129 132, zAf 133 129 0, zAf 134 129 1, zAa 7 133, zAa 8 134] (zq [zAj 135 6 2, zCt 135 1] (zq [zAi 137 8 1, zAi 138 8 2, zAy 139 227 137 138 0, zAa 136 139, zAf 140 136 0, zAf 141 136 1, zAa 9 140, zAa 10 141] (zq [zAa 142 3, zBq 143 142 0, zAa 144 143, zAo 145 5 144, zAm 146 145 1 144, zAe 147 144 146, zAa 148 147, zAo 149 7 148, zAm 150 149 1 148, zAe 151 148 150, zAa 152 151, zAo 153 9 152, zAm 154 153 1 152, zAe 155 152 154, zAa 156 155, zAo 157 4 156, zAm 158 157 0 156, zAe 159 156 158, zAa 160 159, zAo 161 6 160, zAm 162 161 0 160, zAe 163 160 162, zAa 164 163, zAo 165 8 164, zAm 166 165 0 164, zAe 167 164 166, zAa 168 167, zAo 169 10 168, zAm 170 169 0 168, zAe 171 168 170, zAa 14 171] (zq [zBm 172 234, zAl 8 2 172] (zq [zAi 174 8 1, zAi 175 8 2, zAy 176 229 174 175 3, zAa 173 176, zAf 177 173 0, zAf 178 173 1, zBn 15, zAl 2 15 177, zAa 4 178] (zq [zAj 179 4 2, ⟨none, .store 1 (.tmp 179) (.const (.int .u32 1073741824)), none⟩] (zq [zAi 181 8 1, zAi 182 8 2, zAy 183 229 181 182 127, zAa 180 183, zAf 184 180 0, zAf 185 180 1, zBn 16, zAl 2 16 184, zAa 6 185] (zq [zAa 186 14, zAa 187 186, zCn 188 2 15 187, zDi 189 0 (-254) 187, zDq 190 188 189 187, zAe 191 187 190, zAa 192 191, zAo 193 4 192, zAm 194 193 0 192, zAe 195 192 194, zAa 196 195, zCn 197 2 16 196, zDi 198 1 254 196, zDq 199 197 198 196, zAe 200 196 199, zAa 201 200, zAo 202 6 201, zAm 203 202 0 201, zAe 204 201 203, zAa 14 204] (zq [zBm 205 234, zAl 8 2 205] (zq [zAi 207 8 1, zAi 208 8 2, zAi 209 8 2, ⟨some 210, .buildSlice 2 [.int .i64 0, .int .i64 0, .int .i64 0, .int .u32 0, .int .u32 0, .int .i64 0, .int .i64 0, .nilslice, .int .i64 0, .int .i64 0, .int .i64 0, .int .u32 0, .int .u32 0, .int .i64 0, .int .i64 0, .nilslice] [(0, (8, .tmp 208)), (8, (8, .tmp 209))], none⟩, ⟨some 211, .call (.const (.func 231 [] [])) [.tmp 207, .tmp 210, .const .nilslice, .const (.int .i64 1)], none⟩, zAa 206 211, zAf 212 206 0, zAf 213 206 1, zAa 8 213] (zq [zAi 215 8 1, zAi 216 8 2, zCm 217 216, ⟨some 218, .build [.int .i64 0, .int .i64 0] [(0, (1, .const (.int .i64 6)))], none⟩, ⟨some 219, .buildSlice 1 [.int .i64 0, .int .i64 0] [(0, (2, .tmp 218))], none⟩, ⟨some 220, .call (.const (.func 231 [] [])) [.tmp 215, .tmp 217, .tmp 219, .const (.int .i64 1)], none⟩, zAa 214 220, zAf 221 214 0, zAf 222 214 1, zAa 10 222] (zq [zBm 223 234, zBm 224 234, zBk 17, zBk 18, zAl 8 17 223, zAl 8 18 224] (zq [zAj 225 0 17, zCt 225 3, zAj 226 5 18, zCt 226 11] (zq [zBm 227 218, zAa 228 227, zAo 229 11 228, zAe 230 228 229, zAa 231 230, zAo 232 14 231, zAe 233 231 232, zAa 234 233, zAo 235 8 234, zAm 236 235 8 234, zAe 237 234 236, zAa 238 237, zAo 239 10 238, zAm 240 239 2 238, zAe 241 238 240, zAa 242 241, zCn 243 8 1 242, zCn 244 8 17 242, zCk 245 223 243 244 242, zAm 246 245 18 242, zAe 247 242 246, zAa 248 247, zCn 249 8 1 248, zCn 250 8 18 248, zCk 251 223 249 250 248, zAm 252 251 2 248, zAe 253 248 252, zAa 254 253, zCn 255 8 1 254, zCn 256 8 2 254, zCk 257 223 255 256 254, zAm 258 257 0 254, zAe 259 254 258, zAa 0 259] .ret))))))))))))))))))))))))))))))
def B214 : ABody := .mk 5 221 [.tmp 10] (zq [zBc 10] (zq [zBm 26 212, zAa 11 26] (.seq (zq [zAa 27 0, zAt 28 27, zBi 29 28 20, zAa 30 29, zBg 31 1 30, zDj 32 31 30, zBx 33 32 20 30, zAw 34 30 33, zAa 35 34, zBg 36 2 35, zDj 37 36 35, zBx 38 37 20 35, zAw 39 35 38, zAa 40 39, zBg 41 3 40, zDj 42 41 40, zBx 43 42 120 40, zAw 44 40 43] (zj 44 (zq [zAa 45 11, zAa 10 45] .ret))) (zq [zAa 46 0, zAp 47 235 46, zBs 12, zAl 8 12 47] (zq [zAa 48 3, zAt 49 48, zAa 50 4, zAa 51 3, zAt 52 51, ⟨some 53, .bin .sub (.const (.int .i64 121)) (.tmp 52), none⟩, zAk 54 23 50 53, zBt 55 49 54, zAa 4 55] (zq [zAi 56 8 12, zAa 57 1, zEu 58 56 0 57, zCm 59 58, zAa 13 59] (.seq (zq [zAj 60 7 12, zAd 61 60, zAt 62 61, zBi 63 62 1] (zj 63 (.region [zAa 64 13, zAi 65 8 12, zAa 66 2, zEu 67 65 1 66, zCm 68 67, zEi 69 8 72 64 68, zAa 13 69]))) (zq [zAr 14] (.seq (zq [zAb 15 0] (.block 0 (.loop (.seq (zq [zAa 70 15, zAa 71 3, zAt 72 71, zAx 73 70 72] (zk 73 .skip (.exit 0))) (.seq (.block 1 (.draw 30 [zAc 0 76 14, zAc 1 77 3, zAc 2 78 15, zAv 3 79 1 77 78, zAh 5 81 6 12, zAh 10 86 6 12, zAc 13 89 3, zAc 14 90 15, zAv 15 91 1 89 90, zAh 18 94 6 12, zAh 23 99 6 12, zAn 4 80 79, zAn 6 82 81, zCo 7 83 82, zCj 8 84 83 1, zAu 11 87 86, zAu 16 92 91, zDw 17 93 92 7, zAu 19 95 94, zCo 20 96 95, zCj 21 97 96 1, zAu 24 100 99, ⟨9, false, [11, 16, 19, 24], ⟨some 85, .call (.const (.func 23 [] [])) [.tmp 80, .tmp 84], none⟩⟩, zCu 12 88 85 87, ⟨22, false, [11, 24], ⟨some 98, .call (.const (.func 23 [] [])) [.tmp 93, .tmp 97], none⟩⟩, zCu 25 101 98 100, zEj 26 102 88 101, ⟨27, false, [], ⟨some 103, .buildSlice 1 [.int .i64 0, .int .i64 0] [(0, (2, .tmp 102))], none⟩⟩, ⟨28, false, [], ⟨some 104, .append 2 16 (.tmp 76) (.tmp 103), none⟩⟩, zAc 29 14 104])) (.region [zAa 74 15, zAq 75 74 1, zAa 15 75])))))) (zq [zAi 106 8 12, zAa 107 13, zAa 108 14, zAa 109 4, ⟨some 110, .call (.const (.func 231 [] [])) [.tmp 106, .tmp 107, .tmp 108, .tmp 109], none⟩, zAa 105 110, zAf 111 105 0, zAf 112 105 1, zAa 16 111, zAa 17 112] (.seq (zq [zAa 113 17, zBb 114 113, zAa 115 114, zBg 116 16 115, zDj 117 116 115, zBg 118 4 115, ⟨some 119, .bin .neq (.tmp 117) (.tmp 118), some (115, false)⟩, zAw 120 115 119] (zj 120 (zq [zBc 10] .ret))) (.seq (zq [zAb 18 0] (.block 2 (.loop (.seq (zq [zAa 121 18, zAa 122 4, zAx 123 121 122] (zk 123 .skip (.exit 2))) (.seq (.block 3 (zq [⟨some 126, .build [.int .i64 0, .int .i64 0] [], none⟩, zBn 19, zAl 2 19 126] (.seq (zq [zAa 127 18, zAa 128 14, zAt 129 128, zAx 130 127 129] (zj 130 (.region [zAa 131 14, zAa 132 18, zAz 133 2 131 132, zAi 134 2 133, zAl 2 19 134]))) (.seq (zq [zAb 20 0] (.block 4 (.loop (.seq (zq [zAa 135 20, zAa 136 13, zAt 137 136, zAx 138 135 137] (zk 138 .skip (.exit 4))) (.seq (.block 5 (.seq (.draw 13 [zAc 1 143 13, zAc 2 144 20, zAv 3 145 8 143 144, zAc 5 147 18, zBr 0 142 8 12, zBr 4 146 8 145, ⟨6, true, [], ⟨some 148, .call (.const (.func 229 [] [])) [.tmp 142, .tmp 146, .tmp 147], none⟩⟩, zAc 7 141 148, zDy 8 149 141 0, zDy 9 150 141 1, ⟨10, false, [6], ⟨some 21, .alloc [.int .i64 0, .int .i64 0], none⟩⟩, zBj 11 2 21 149, zAc 12 22 150]) (zq [zAa 151 13, zAa 152 20, zAz 153 8 151 152, zAi 154 8 153, zBk 23, zAl 8 23 154] (zq [zAj 155 4 12, zAd 156 155, zAj 157 5 23, zAl 1 157 156] (zq [zAi 159 8 12, zAi 160 8 23, zAa 161 18, zCe 162 229 159 160 161, zAa 158 162, zAf 163 158 0, zAf 164 158 1, zBn 24, zAl 2 24 163, zAa 25 164] (.seq (.seq (.draw 0 [zAc 0 165 22, ⟨1, false, [], ⟨some 166, .bin .neq (.tmp 165) (.const (.int .i64 0)), none⟩⟩, zAc 2 167 166, zDe 3 168 25 167, ⟨4, false, [], ⟨some 169, .bin .neq (.tmp 168) (.const (.int .i64 0)), some (167, false)⟩⟩, zDs 5 170 167 169, zAc 6 171 170, zCc 7 172 0 21 171, zCc 9 174 4 12 171, zCc 12 177 0 24 171, zDe 14 179 13 171, zDe 15 180 20 171, ⟨16, false, [], ⟨some 181, .indexAddr 8 (.tmp 179) (.tmp 180), some (171, false)⟩⟩, zCc 17 182 5 181 171, zBy 8 173 172 171, zBy 10 175 174 171, zDg 11 176 173 175 171, zBy 13 178 177 171, zBy 18 183 182 171, zDg 19 184 178 183 171, ⟨20, false, [], ⟨some 185, .bin .neq (.tmp 176) (.tmp 184), some (171, false)⟩⟩, zDs 21 186 171 185, zAc 22 187 186, zCc 23 188 1 21 187, zCc 25 190 4 12 187, zCc 28 193 1 24 187, zDe 30 195 13 187, zDe 31 196 20 187, ⟨32, false, [], ⟨some 197, .indexAddr 8 (.tmp 195) (.tmp 196), some (187, false)⟩⟩, zCc 33 198 5 197 187, zBy 24 189 188 187, zBy 26 191 190 187, zDg 27 192 189 191 187, zBy 29 194 193 187, zBy 34 199 198 187, zDg 35 200 194 199 187, ⟨36, false, [], ⟨some 201, .bin .neq (.tmp 192) (.tmp 200), some (187, false)⟩⟩, zDs 37 202 187 201]) (zj 202 (zq [zBc 10] .ret))) (.region [zAj 203 0 19, zAd 204 203, zAj 205 0 21, zAd 206 205, zBt 207 204 206, zAj 208 1 19, zAd 209 208, zAj 210 1 21, zAd 211 210, zBt 212 209 211, zCi 213 207 212, zAl 2 19 213]))))))) (.region [zAa 139 20, zAq 140 139 1, zAa 20 140])))))) (.seq (.draw 0 [zAc 0 214 16, zAc 1 215 18, zAv 2 216 2 214 215, zBr 3 217 2 216, zBr 4 218 2 19, ⟨5, false, [], ⟨some 219, .eqs true [(0, false), (1, false)] (.tmp 217) (.tmp 218), none⟩⟩]) (zj 219 (zq [zBc 10] .ret))))))) (.region [zAa 124 18, zAq 125 124 1, zAa 18 125])))))) (zq [zAa 220 11, zAa 10 220] .ret)))))))))))))
def B218 : ABody := .mk 0 54 [.tmp 0] (zq [zBc 0] (zq [zBm 9 233, zBm 10 234, zAy 11 221 9 10 1, zAa 8 11, zAf 12 8 0, zAf 13 8 1, zAa 1 12, zAa 2 13] (zq [zBm 15 233, zBm 16 234, zAy 17 225 15 16 2, zAa 14 17, zAf 18 14 0, zAf 19 14 1, zAf 20 14 2, zAa 3 18, zAa 4 19, zAa 5 20] (zq [zBm 22 233, zBm 23 234, zAy 24 229 22 23 13, zAa 21 24, zAf 25 21 0, zAf 26 21 1, zBn 6, zAl 2 6 25, zAa 7 26] (zq [zAa 27 1, zBq 28 27 65, zAa 29 28, zAo 30 2 29, zAm 31 30 0 29, zAe 32 29 31, zAa 33 32, zAo 34 3 33, zAm 35 34 (-1) 33, zAe 36 33 35, zAa 37 36, zAo 38 4 37, zAm 39 38 61 37, zAe 40 37 39, zAa 41 40, zAo 42 5 41, zAm 43 42 0 41, zAe 44 41 43, zAa 45 44, zCn 46 2 6 45, zDi 47 0 254 45, zDq 48 46 47 45, zAe 49 45 48, zAa 50 49, zAo 51 7 50, zAm 52 51 0 50, zAe 53 50 52, zAa 0 53] .ret)))))
def B219 : ABody := .mk 1 78 [.tmp 2] (zq [zBf 1 0, zAb 2 0] (zq [zAj 9 0 1, zAd 10 9, zAp 11 70 10, zAa 8 11, zAf 12 8 0, zAf 13 8 1, zAa 3 12, zAa 4 13] (zq [⟨some 5, .mv (.const (.func 237 [] [])), none⟩] (.seq (.block 0 (.seq (zq [zAa 15 4, zBb 16 15, zAa 14 16] (zk 14 .skip (zq [zAa 17 5, zAj 18 1 1, zAd 19 18, zCx 20 17 19 1 8, zCd 21 20, zAa 14 21] (zk 14 .skip (zq [zAa 22 5, zAj 23 2 1, zAd 24 23, zCx 25 22 24 1 20, zCd 26 25, zAa 14 26] (zk 14 .skip (zq [zAa 27 5, zAj 28 3 1, zAd 29 28, zCx 30 27 29 2 10, zCd 31 30, zAa 14 31] (zk 14 .skip (zq [zAa 32 5, zAj 33 4 1, zAd 34 33, zAj 35 5 1, zAd 36 35, ⟨some 37, .call (.tmp 32) [.tmp 34, .const (.int .i64 1), .tmp 36], none⟩, zCd 38 37, zAa 14 38] (zk 14 .skip (zq [zAj 39 5 1, zAd 40 39, zBi 41 40 1000, zAa 14 41] (zk 14 .skip (.region [zAa 42 5, zAj 43 6 1, zAd 44 43, zCx 45 42 44 0 100000, zCd 46 45, zAa 14 46]))))))))))))) (zk 14 (zq [zAb 2 2] .ret) (zq [zAj 48 7 1, zAd 49 48, zAt 50 49, zBq 51 50 0, zAa 47 51] (zk 47 (zq [zAb 2 3] .ret) (zq [zAj 53 7 1, zAd 54 53, zAt 55 54, zBi 56 55 8, zAa 52 56] (zj 52 (zq [zAb 2 4] .ret)))))))) (.seq (zq [zAj 57 7 1, zAd 58 57, zAt 59 58, zAb 60 0] (.block 1 (.loop (zq [zAx 61 60 59] (.seq (zk 61 .skip (.exit 1)) (.seq (.block 2 (zq [zAa 62 60, zAz 63 1 58 60, zAd 64 63, zAa 6 62, zAa 7 64] (.seq (zq [zAa 65 5, zAa 66 7, zAa 67 3, zAq 68 67 2, ⟨some 69, .call (.tmp 65) [.tmp 66, .const (.int .i64 1), .tmp 68], none⟩, zCd 70 69] (zj 70 (zq [zAb 2 2] .ret))) (zq [zAj 71 7 1, zAd 72 71, zAa 73 6, zEf 74 1 72 73, zAa 75 7, zAk 76 89 74 75] (zj 76 (zq [zAb 2 8] .ret)))))) (.region [zAq 77 60 1, zAa 60 77]))))))) (zq [zAb 2 0] .ret))))))
def B221 : ABody := .mk 3 23 [.tmp 6, .tmp 7] (zq [zBf 3 0, zBf 4 1, zAb 6 0, zAb 7 0] (zq [zAi 11 8 3, zAi 12 8 4, zAa 13 2, zCe 14 238 11 12 13, zAa 10 14, zAf 15 10 0, zAf 16 10 1, zAs 8, zAl 17 8 15, zAa 9 16] (.seq (zq [zAa 17 9, zBb 18 17] (zj 18 (zq [zAa 19 9, zAb 6 0, zAa 7 19] .ret))) (zq [zAi 20 17 8, zAa 21 2, zAk 22 239 20 21, zAa 6 22, zAb 7 0] .ret))))
def B223 : ABody := .mk 2 60 [.tmp 4] (zq [zBf 2 0, zBf 3 1, zAb 4 0] (.seq (zq [zAi 6 8 2, zAp 7 219 6, zAa 5 7] (zq [zAa 8 5, zBb 9 8] (zj 9 (zq [zAa 10 5, zAa 4 10] .ret)))) (.seq (.block 0 (zq [zAj 12 7 2, zAd 13 12, zAj 14 0 3, zAd 15 14, zAk 16 89 13 15, zCd 17 16, zAa 11 17] (zk 11 (zq [zAb 4 18] .ret) (.seq (zq [zAj 19 1 3, zAd 20 19, zBa 21 20 0, zAa 18 21] (zk 18 .skip (.seq (.draw 0 [zAh 0 22 1 3, zAu 1 23 22, zBr 2 24 8 2, zFe 3 1 25 24, ⟨4, false, [], ⟨some 26, .bin .geq (.tmp 23) (.tmp 25), none⟩⟩, zAc 5 18 26]) (zk 18 .skip (zq [zAj 27 2 3, zAd 28 27, zBa 29 28 (-64), zAa 18 29] (zk 18 .skip (zq [zAj 30 2 3, zAd 31 30, zBi 32 31 64, zAa 18 32] (zk 18 .skip (zq [zAj 33 5 3, zAd 34 33, zAj 35 4 2, zAd 36 35, zAx 37 34 36, zAa 18 37] (zk 18 .skip (zq [zAj 38 5 3, zAd 39 38, zAj 40 5 2, zAd 41 40, zEb 42 39 41, zAa 18 42] (zk 18 .skip (zq [zAj 43 6 3, zAd 44 43, zBa 45 44 0, zAa 18 45] (zk 18 .skip (.region [zAj 46 6 3, zAd 47 46, zAj 48 2 2, zAd 49 48, zEx 50 47 49, zAa 18 50]))))))))))))))) (zk 18 (zq [zAb 4 2] .ret) (zq [zAj 52 7 3, zAd 53 52, zAt 54 53, zBi 55 54 10000, zAa 51 55] (zk 51 (zq [zAb 4 4] .ret) (zq [zAj 57 7 3, zAd 58 57, zEv 59 58 243, zAa 56 59] (zj 56 (zq [zAb 4 3] .ret)))))))))) (zq [zAb 4 0] .ret))))
def B225 : ABody := .mk 3 30 [.tmp 6, .tmp 7, .tmp 8] (zq [zBf 3 0, zBf 4 1, zAb 6 0, zAb 7 0, zAb 8 0] (zq [zAi 12 8 3, zAi 13 8 4, zAa 14 2, zCe 15 238 12 13 14, zAa 11 15, zAf 16 11 0, zAf 17 11 1, zAs 9, zAl 17 9 16, zAa 10 17] (.seq (zq [zAa 18 10, zBb 19 18] (zj 19 (zq [zAa 20 10, zAb 6 0, zAb 7 0, zAa 8 20] .ret))) (zq [zAi 21 17 9, zAa 22 2, zAk 23 245 21 22, zAa 6 23] (zq [zAa 24 6, zAa 25 2, zAi 26 17 9, zAa 27 6, zAk 28 239 26 27, zEc 29 25 28, zAa 6 24, zAa 7 29, zAb 8 0] .ret)))))
def B227 : ABody := .mk 3 23 [.tmp 6, .tmp 7] (zq [zBf 3 0, zBf 4 1, zAb 6 0, zAb 7 0] (zq [zAi 11 8 3, zAi 12 8 4, zAa 13 2, zCe 14 238 11 12 13, zAa 10 14, zAf 15 10 0, zAf 16 10 1, zAs 8, zAl 17 8 15, zAa 9 16] (.seq (zq [zAa 17 9, zBb 18 17] (zj 18 (zq [zAa 19 9, zAb 6 0, zAa 7 19] .ret))) (zq [zAi 20 17 8, zAa 21 2, zAk 22 247 20 21, zAa 6 22, zAb 7 0] .ret))))
def B229 : ABody := .mk 3 46 [.cell 6 true 2, .tmp 7] (zq [zBf 3 0, zBf 4 1, zBn 6, zAb 7 0] (zq [zAi 14 8 3, zAi 15 8 4, zAa 16 2, zCe 17 238 14 15 16, zAa 13 17, zAf 18 13 0, zAf 19 13 1, zAs 8, zAl 17 8 18, zAa 9 19] (.seq (zq [zAa 20 9, zBb 21 20] (zj 21 (zq [⟨some 22, .build [.int .i64 0, .int .i64 0] [], none⟩, zAa 23 9, zAl 2 6 22, zAa 7 23] .ret))) (zq [zAi 24 17 8, zAa 25 2, zAk 26 245 24 25, zAa 10 26] (.seq (.draw 13 [zAc 1 28 2, zAc 3 30 10, zAc 8 35 10, zEp 0 27 17 8, zBr 2 29 17 8, zEp 7 34 17 8, ⟨4, true, [0, 7], ⟨some 31, .call (.const (.func 239 [] [])) [.tmp 29, .tmp 30], none⟩⟩, zCu 5 32 28 31, ⟨6, true, [7], ⟨some 33, .call (.const (.func 249 [] [])) [.tmp 27, .tmp 32], none⟩⟩, zFi 9 36 250 34 35, ⟨10, false, [4, 6, 9], ⟨some 12, .alloc [.int .i64 0, .int .i64 0], none⟩⟩, zAc 11 11 33, zBj 12 2 12 36]) (zq [zAa 37 11, zAj 38 0 12, zAd 39 38, zBe 40 37 39, zAa 41 11, zAj 42 1 12, zAd 43 42, zBe 44 41 43, zCi 45 40 44, zAl 2 6 45, zAb 7 0] .ret))))))
def B231 : ABody := .mk 4 121 [.tmp 8, .tmp 9] (zq [zBf 4 0, zBf 7 3, zAr 8, zAb 9 0] (.seq (zq [zAi 23 8 4, zAp 24 219 23, zAa 10 24] (zq [zAa 25 10, zBb 26 25] (zj 26 (zq [zAa 27 10, zAr 8, zAa 9 27] .ret)))) (.seq (zq [zAa 28 1, zAt 29 28, zBi 30 29 8] (zj 30 (zq [zAr 8, zAb 9 4] .ret))) (zq [zAr 11] (.seq (zq [zAa 31 1, zAt 32 31, zAb 33 0] (.block 0 (.loop (zq [zAx 34 33 32] (.seq (zk 34 .skip (.exit 0)) (.seq (.block 1 (zq [zAa 35 33, zAz 36 8 31 33, zAi 37 8 36, zBk 13, zAa 12 35, zAl 8 13 37] (zq [zAi 39 8 4, zAi 40 8 13, zAy 41 238 39 40 0, zAa 38 41, zAf 42 38 0, zAf 43 38 1, zAs 14, zAl 17 14 42, zAa 15 43] (.seq (zq [zAa 44 15, zBb 45 44] (zj 45 (zq [zAa 46 15, zAr 8, zAa 9 46] .ret))) (.seq (zq [zAa 47 1, zAa 48 12, zEf 49 8 47 48, zEa 50 253 13, zAk 51 252 49 50] (zj 51 (zq [zAr 8, zAb 9 8] .ret))) (.region [zAa 52 11, zAi 53 17 14, ⟨some 54, .buildSlice 1 [.int .i64 0, .int .i64 0, .int .i64 0, .int .u32 0, .int .u32 0, .int .i64 0, .int .i64 0, .nilslice, .int .i64 0, .int .i64 0, .int .i64 0, .int .i64 0, .int .i64 0, .int .i64 0, .int .i64 0, .nilslice, .nilslice] [(0, (17, .tmp 53))], none⟩, zEi 55 17 176 52 54, zAa 11 55])))))) (.region [zAq 56 33 1, zAa 33 56]))))))) (zq [zEa 57 254 4, zAa 16 57] (.seq (.block 2 (.seq (zq [zAd 59 7, zBa 60 59 0, zAa 58 60] (zk 58 .skip (.region [zAd 61 7, zBi 62 61 1048576, zAa 58 62]))) (zk 58 (zq [zAr 8, zAb 9 2] .ret) (zq [zAa 64 2, zAt 65 64, zAd 66 7, zEb 67 65 66, zAa 63 67] (zk 63 (zq [zAr 8, zAb 9 4] .ret) (zq [zAa 69 2, zAa 70 16, zAk 71 255 69 70, zAa 68 71] (zj 68 (zq [zAr 8, zAb 9 2] .ret)))))))) (zq [⟨some 72, .makeChan, none⟩, ⟨some 17, .alloc [.nilchan], none⟩, zAl 1 17 72] (.seq (zq [zAa 73 11, zAt 74 73, zAb 75 0] (.block 3 (.loop (zq [zAx 76 75 74] (.seq (zk 76 .skip (.exit 3)) (.seq (.block 4 (zq [zAz 77 17 73 75, zAi 78 17 77, zAs 19, zAl 17 19 78] (.region [⟨some 79, .mkfunc 256 [] [.tmp 17, .tmp 19, .tmp 7], none⟩, ⟨none, .comm 0 [.tmp 79], none⟩]))) (.region [zAq 80 75 1, zAa 75 80]))))))) (zq [zAd 81 7, zEs 82 81, zAa 20 82] (zq [zAa 83 20, zAa 84 2, ⟨some 85, .copy 2 (.tmp 83) (.tmp 84), none⟩] (.seq (zq [zAa 86 11, zAt 87 86, zAb 88 0] (.block 5 (.loop (zq [zAx 89 88 87] (.seq (zk 89 .skip (.exit 5)) (.seq (.block 6 (zq [zAd 90 17, ⟨some 91, .comm 1 [.tmp 90], none⟩, zAt 92 91, zAb 93 0] (.block 7 (.loop (zq [zAx 94 93 92] (.seq (zk 94 .skip (.exit 7)) (.seq (.block 8 (zq [zAa 95 93, zAz 96 2 91 93, zAi 97 2 96, zBn 22, zAa 21 95, zAl 2 22 97] (.seq (.draw 0 [zAc 0 98 20, zAc 1 99 21, zAv 2 100 2 98 99, zAh 3 101 0 100, zAh 5 103 0 22, zAn 4 102 101, zAn 6 104 103, zBl 7 105 102 104, zAv 8 106 2 98 99, zAh 9 107 0 106, zBj 10 1 107 105]) (.draw 0 [zAc 0 108 20, zAc 1 109 21, zAv 2 110 2 108 109, zAh 3 111 1 110, zAh 5 113 1 22, zAn 4 112 111, zAn 6 114 113, zBl 7 115 112 114, zAv 8 116 2 108 109, zAh 9 117 1 116, zBj 10 1 117 115])))) (.region [zAq 118 93 1, zAa 93 118])))))))) (.region [zAq 119 88 1, zAa 88 119]))))))) (zq [zAa 120 20, zAa 8 120, zAb 9 0] .ret)))))))))))))
def B233 : ABody := .mk 0 3 [.cell 0 true 8] (zq [zBs 0] (zq [zBd 1 1 2, ⟨some 2, .build [.int .i64 0, .int .i64 0, .int .i64 0, .int .i64 0, .int .i64 0, .int .i64 0, .int .i64 0, .nilslice] [(0, (1, .const (.int .i64 5))), (1, (1, .const (.int .i64 2))), (2, (1, .const (.int .i64 2))), (3, (1, .const (.int .i64 2))), (4, (1, .const (.int .i64 1))), (5, (1, .const (.int .i64 10))), (6, (1, .const (.int .i64 5))), (7, (1, .tmp 1))], none⟩, zAl 8 0 2] .ret))
def B234 : ABody := .mk 0 3 [.cell 0 true 8] (zq [zBk 0] (zq [zBd 1 0 1, ⟨some 2, .build [.int .i64 0, .int .i64 0, .int .i64 0, .int .u32 0, .int .u32 0, .int .i64 0, .int .i64 0, .nilslice] [(0, (1, .const (.int .i64 1))), (1, (1, .const (.int .i64 3))), (5, (1, .const (.int .i64 2))), (7, (1, .tmp 1))], none⟩, zAl 8 0 2] .ret))
def B235 : ABody := .mk 1 46 [.cell 2 true 8] (zq [zBs 2] (zq [zAa 6 0, zBp 7 6 0 2, zCz 8 5 7, zAa 9 0, zBp 10 9 1 3, zCz 11 1 10, zAa 12 0, zBp 13 12 2 3, zCz 14 1 13, zAa 15 0, zBp 16 15 3 20, zCz 17 1 16, zAa 18 0, zBp 19 18 4 50, ⟨some 20, .build [.int .i64 0, .int .i64 0, .int .i64 0, .int .i64 0, .int .i64 0, .int .i64 0, .int .i64 0, .nilslice] [(0, (1, .tmp 8)), (1, (1, .tmp 11)), (2, (1, .tmp 14)), (3, (1, .const (.int .i64 2))), (4, (1, .tmp 17)), (6, (1, .tmp 19))], none⟩, zBs 3, zAl 8 3 20] (.seq (.draw 0 [zAh 0 21 4 3, zAc 2 23 0, zAu 1 22 21, ⟨3, false, [1], ⟨some 24, .call (.const (.func 45 [] [])) [.tmp 23, .const (.int .i64 5), .const (.int .i64 20)], none⟩⟩, zBl 4 25 22 24, zAh 5 26 5 3, zBj 6 1 26 25]) (zq [zAa 27 0, zBp 28 27 6 20, zCz 29 1 28, zAa 4 29] (.seq (zq [zAb 5 0] (.block 0 (.loop (.seq (zq [zAa 30 5, zAa 31 0, zBp 32 31 7 3, zEz 33 30 32] (zk 33 .skip (.exit 0))) (.seq (.block 1 (.region [zAj 36 7 3, zAd 37 36, zAa 38 4, zAa 39 5, ⟨some 40, .bin .mul (.const (.int .i64 4)) (.tmp 39), none⟩, zBt 41 38 40, zDz 42 41, zEi 43 1 8 37 42, zAj 44 7 3, zAl 1 44 43])) (.region [zAa 34 5, zAq 35 34 1, zAa 5 35])))))) (zq [zAi 45 8 3, zAl 8 2 45] .ret))))))
def B236 : ABody := .mk 3 79 [.cell 6 true 8] (zq [zBf 3 0, zBk 6] (.seq (.draw 51 [zAh 0 9 7 3, zAc 2 11 1, zAh 3 12 7 3, zAc 9 18 2, zAh 10 19 0 3, zAh 14 23 1 3, zAc 18 27 2, zAc 21 30 2, zAc 25 34 2, zAc 29 38 2, zAh 33 42 4 3, zAc 35 44 2, zAh 36 45 5 3, zAh 38 47 4 3, zAc 44 53 2, zAh 45 54 2 3, zAu 1 10 9, zAn 4 13 12, zDc 5 14 13, zAu 11 20 19, zDr 12 21 20, zCa 13 22 21 1, zAu 15 24 23, zCh 16 25 22 24, zAu 34 43 42, zAu 37 46 45, zAu 39 48 47, zCu 40 49 46 48, zCj 41 50 49 1, zAu 46 55 54, ⟨6, true, [1, 11, 15, 34, 37, 39, 46], ⟨some 15, .call (.const (.func 23 [] [])) [.tmp 11, .tmp 14], none⟩⟩, zAv 7 16 1 10 15, zAu 8 17 16, ⟨17, true, [1, 34, 37, 39, 46, 8], ⟨some 26, .call (.const (.func 45 [] [])) [.tmp 18, .const (.int .i64 0), .tmp 25], none⟩⟩, zCb 19 28 27 1 129, zCa 20 29 28 64, zCb 22 31 30 2 64, zDt 23 32 31, zFb 24 33 32, zCb 26 35 34 3 67108864, zDt 27 36 35, zBl 28 37 33 36, zCb 30 39 38 4 64, zDt 31 40 39, zFb 32 41 40, ⟨42, true, [1, 34, 46, 8], ⟨some 51, .call (.const (.func 45 [] [])) [.tmp 44, .const (.int .i64 5), .tmp 50], none⟩⟩, zBl 43 52 43 51, ⟨47, true, [1, 34, 8], ⟨some 56, .call (.const (.func 45 [] [])) [.tmp 53, .const (.int .i64 6), .tmp 55], none⟩⟩, ⟨48, false, [], ⟨some 57, .build [.int .i64 0, .int .i64 0, .int .i64 0, .int .u32 0, .int .u32 0, .int .i64 0, .int .i64 0, .nilslice] [(0, (1, .tmp 17)), (1, (1, .tmp 26)), (2, (1, .tmp 29)), (3, (1, .tmp 37)), (4, (1, .tmp 41)), (5, (1, .tmp 52)), (6, (1, .tmp 56))], none⟩⟩, ⟨49, false, [6, 17, 19, 22, 26, 30, 42, 47], ⟨some 7, .alloc [.int .i64 0, .int .i64 0, .int .i64 0, .int .u32 0, .int .u32 0, .int .i64 0, .int .i64 0, .nilslice], none⟩⟩, zBj 50 8 7 57]) (.seq (zq [zAb 8 7] (.block 0 (.loop (.seq (zq [zAa 58 8, zAa 59 2, zAt 60 59, zAx 61 58 60, zAa 62 61, zAo 63 8 62, ⟨some 64, .bin .lss (.tmp 63) (.const (.int .i64 20)), some (62, true)⟩, zAe 65 62 64] (zk 65 .skip (.exit 0))) (.seq (.block 1 (.draw 11 [zAh 0 68 7 7, zAc 2 70 2, zAc 3 71 8, zAv 4 72 1 70 71, zAu 1 69 68, zAn 5 73 72, ⟨6, false, [1], ⟨some 74, .call (.const (.func 23 [] [])) [.tmp 73, .const (.int .i64 2)], none⟩⟩, ⟨7, false, [], ⟨some 75, .buildSlice 1 [.int .i64 0] [(0, (1, .tmp 74))], none⟩⟩, ⟨8, false, [], ⟨some 76, .append 1 8 (.tmp 69) (.tmp 75), none⟩⟩, zAh 9 77 7 7, zBj 10 1 77 76])) (.region [zAa 66 8, zAq 67 66 1, zAa 8 67])))))) (zq [zAi 78 8 7, zAl 8 6 78] .ret))))
def B237 : ABody := .mk 3 15 [.tmp 6] (zq [zBc 6] (zq [zAa 7 0, zAa 8 1, zEx 9 7 8, zAa 10 9, zAo 11 0 10, zAo 12 2 10, ⟨some 13, .bin .leq (.tmp 11) (.tmp 12), some (10, true)⟩, zAe 14 10 13, zAa 6 14] .ret))
def B238 : ABody := .mk 3 37 [.cell 6 true 17, .tmp 7] (zq [zBf 3 0, zBf 4 1, zAs 6, zAb 7 0] (.seq (zq [zAi 11 8 3, zAi 12 8 4, zAk 13 223 11 12, zAa 8 13] (zq [zAa 14 8, zBb 15 14] (zj 15 (zq [zCs 16, zAa 17 8, zAl 17 6 16, zAa 7 17] .ret)))) (.seq (zq [zAa 18 2, zBa 19 18 (-10000000), zAa 20 19, zBg 21 2 20, zBx 22 21 10000000 20, zAw 23 20 22] (zj 23 (zq [zCs 24, zAl 17 6 24, zAb 7 2] .ret))) (zq [zAj 26 0 3, zAd 27 26, zAj 28 0 4, zAd 29 28, zAk 30 76 27 29, zAa 25 30, zAf 31 25 0, zAf 32 25 1, zAa 9 31, zAa 10 32] (zq [zAi 33 8 4, zAi 34 8 3, zAa 35 9, ⟨some 36, .build [.int .i64 0, .int .i64 0, .int .i64 0, .int .u32 0, .int .u32 0, .int .i64 0, .int .i64 0, .nilslice, .int .i64 0, .int .i64 0, .int .i64 0, .int .i64 0, .int .i64 0, .int .i64 0, .int .i64 0, .nilslice, .nilslice] [(0, (8, .tmp 33)), (8, (8, .tmp 34)), (16, (1, .tmp 35))], none⟩, zAl 17 6 36, zAb 7 0] .ret)))))
def B239 : ABody := .mk 2 21 [.tmp 4] (zq [zBf 2 0, zAb 4 0] (.seq (.draw 0 [zAh 0 5 0 2, zAh 1 6 1 5, zAc 3 8 1, zAh 4 9 8 2, zAc 9 14 1, zAh 10 15 0 2, zAh 11 16 2 15, zAu 2 7 6, zBr 5 10 8 9, zAu 12 17 16, zCh 13 18 14 17, zCr 14 19 18 10, ⟨6, false, [2, 12], ⟨some 11, .call (.const (.func 242 [] [])) [.tmp 10], none⟩⟩, zCh 7 12 8 11, zBl 8 13 7 12, zBl 15 20 13 19, zAc 16 4 20]) .ret))
def B242 : ABody := .mk 1 10 [.tmp 2] (zq [zBf 1 0, zAb 2 0] (.seq (.draw 0 [zAh 0 3 0 1, zAh 4 7 1 1, zAn 1 4 3, zDr 2 5 4, zCa 3 6 5 1, zAn 5 8 7, zCh 6 9 6 8, zAc 7 2 9]) .ret))
def B243 : ABody := .mk 1 9 [.tmp 2] (zq [zBc 2] (zq [zAa 3 0, zBb 4 3, zAa 5 4, zAo 6 0 5, zFg 7 6 5, zAe 8 5 7, zAa 2 8] .ret))
def B245 : ABody := .mk 2 32 [.tmp 4] (zq [zBf 2 0, zAb 4 0] (.seq (.draw 0 [zAc 0 6 1, zAh 1 7 0 2, zAh 2 8 1 7, zAh 5 11 8 2, zAu 3 9 8, zCu 4 10 6 9, zBr 6 12 8 11, zFe 7 3 13 12, ⟨8, false, [], ⟨some 14, .bin .quo (.tmp 10) (.tmp 13), none⟩⟩, zCj 9 15 14 2, zAc 10 5 15]) (.seq (.block 0 (.loop (.seq (zq [zAi 16 17 2, zAa 17 5, zAk 18 239 16 17, zAa 19 1, zEb 20 18 19] (zk 20 .skip (.exit 0))) (.block 1 (.region [zAa 21 5, zBv 22 21 1, zAa 5 22]))))) (.seq (.block 2 (.loop (.seq (zq [zAi 23 17 2, zAa 24 5, zAq 25 24 1, zAk 26 239 23 25, zAa 27 1, zEz 28 26 27] (zk 28 .skip (.exit 2))) (.block 3 (.region [zAa 29 5, zAq 30 29 1, zAa 5 30]))))) (zq [zAa 31 5, zAa 4 31] .ret)))))
def B247 : ABody := .mk 2 48 [.tmp 4] (zq [zBf 2 0, zAb 4 0] (zq [zAj 7 0 2, zAj 8 7 7, zAd 9 8, zAt 10 9, zAa 5 10] (.seq (zq [zAa 11 5, zBq 12 11 0] (zj 12 (zq [zAb 4 0] .ret))) (zq [zAa 13 1, zAj 14 0 2, zAj 15 6 14, zAd 16 15, zEc 17 13 16, zAa 1 17] (zq [zAa 18 1, zAj 19 8 2, zAj 20 2 19, zAd 21 20, zEy 22 18 21, zAa 6 22] (.seq (zq [zAa 23 1, zBa 24 23 0] (zj 24 (.region [zAj 25 8 2, zAj 26 2 25, zAd 27 26, zBv 28 27 1, zAa 29 1, zEc 30 28 29, zAj 31 8 2, zAj 32 2 31, zAd 33 32, zEy 34 30 33, zEk 35 34, zAa 6 35]))) (.seq (.draw 0 [zAh 0 36 0 2, zAh 1 37 7 36, zAc 3 39 6, zAc 4 40 5, zEg 5 41 39 40, zAc 6 42 5, zBl 7 43 41 42, zAc 8 44 5, zEg 9 45 43 44, zAn 2 38 37, zAv 10 46 1 38 45, zAn 11 47 46, zAc 12 4 47]) .ret)))))))
def B249 : ABody := .mk 2 19 [.tmp 4] (zq [zBf 2 0, zAb 4 0] (.seq (.draw 0 [zAh 0 5 16 2, zAc 2 7 1, zAh 3 8 8 2, zAh 4 9 1 8, zAh 7 12 16 2, zAn 1 6 5, zAn 5 10 9, ⟨6, false, [], ⟨some 11, .bin .quo (.tmp 7) (.tmp 10), none⟩⟩, zAn 8 13 12, zDc 9 14 13, zCa 10 15 14 1, ⟨11, false, [], ⟨some 16, .min [.tmp 11, .tmp 15], none⟩⟩, zAv 12 17 1 6 16, zAn 13 18 17, zAc 14 4 18]) .ret))
def B250 : ABody := .mk 2 34 [.cell 4 true 2] (zq [zBf 2 0, zBn 4] (zq [zAj 7 0 2, zAj 8 4 7, zAd 9 8, zAj 10 0 2, zAj 11 3 10, zAd 12 11, zAa 13 1, zCe 14 143 9 12 13, zAp 15 135 14, zBn 5, zAl 2 5 15] (.seq (.draw 0 [zAh 0 16 0 2, zAh 1 17 5 16, zAc 4 20 1, zAu 2 18 17, zBr 3 19 17 2, zDb 5 2 21 247 19 20, zCo 6 22 21, zFh 7 23 1 22, zCh 8 24 18 23, zAc 9 6 24]) (zq [zAa 25 6, zAj 26 0 5, zAd 27 26, zBe 28 25 27, zAa 29 6, zAj 30 1 5, zAd 31 30, zBe 32 29 31, zCi 33 28 32, zAl 2 4 33] .ret))))
def B252 : ABody := .mk 2 9 [.tmp 4] (zq [zBc 4] (zq [zAa 5 0, zAa 6 1, zAk 7 259 5 6, zCy 8 7 0, zAa 4 8] .ret))
def B253 : ABody := .mk 1 9 [.tmp 3] (zq [zBf 2 0, zBc 3] (zq [zAj 4 0 2, zAd 5 4, zAj 6 0 1, zAd 7 6, zDf 8 5 7, zAa 3 8] .ret))
def B254 : ABody := .mk 1 23 [.tmp 3] (zq [zBf 2 0, zBc 3] (zq [zAj 4 0 2, zAd 5 4, zAj 6 1 2, zAd 7 6, ⟨some 8, .max [.tmp 5, .tmp 7], none⟩, zAj 9 6 1, zAd 10 9, zEb 11 8 10, zAa 12 11, zEm 13 0 2, zDh 14 13 12, zEm 15 1 2, zDh 16 15 12, ⟨some 17, .min [.tmp 14, .tmp 16], some (12, false)⟩, zEm 18 6 1, zDh 19 18 12, ⟨some 20, .un .neg (.tmp 19), some (12, false)⟩, ⟨some 21, .bin .lss (.tmp 17) (.tmp 20), some (12, false)⟩, zAw 22 12 21, zAa 3 22] .ret))
def B255 : ABody := .mk 2 9 [.tmp 4] (zq [zBc 4] (zq [zAa 5 0, zAa 6 1, zAk 7 260 5 6, zCy 8 7 0, zAa 4 8] .ret))
def B256 : ABody := .mk 0 7 [] (.draw 5 [zAu 0 3 0, zBr 1 4 17 1, zAn 2 5 2, zDb 3 0 6 257 4 5, ⟨4, false, [], ⟨none, .comm 2 [.tmp 3, .tmp 6], none⟩⟩])
def B257 : ABody := .mk 2 51 [.tmp 4] (zq [zBf 2 0, zBf 3 1, zAr 4] (zq [zAd 11 3, zEs 12 11, zFa 5, zAl 1 5 12] (.seq (zq [zAi 13 17 2, zAd 14 3, zAk 15 261 13 14] (.block 0 (.rangeFunc (.tmp 15) [16, 17] (zq [zAa 6 16] (.region [zAa 7 17])) (.block 1 (zq [zAi 18 17 2, zAa 19 6, zAk 20 250 18 19, zBn 8, zAl 2 8 20] (zq [zAa 21 7, ⟨some 22, .max [.tmp 21, .const (.int .i64 0)], none⟩, zAa 9 22] (.block 2 (.loop (.seq (.seq (.draw 0 [zAc 0 23 9, zAc 2 25 6, zCj 3 26 25 1, zBr 1 24 17 2, zAu 5 28 3, zDb 4 5 27 239 24 26, ⟨6, false, [], ⟨some 29, .min [.tmp 27, .tmp 28], none⟩⟩, ⟨7, false, [], ⟨some 30, .bin .lss (.tmp 23) (.tmp 29), none⟩⟩]) (zk 30 .skip (.exit 2))) (.seq (.block 3 (zq [zAi 33 17 2, zAa 34 9, zAa 35 7, zEc 36 34 35, zAk 37 249 33 36, zAa 10 37] (.region [zAd 38 5, zAa 39 9, zAa 40 10, zAj 41 0 8, zAd 42 41, zBe 43 40 42, zAa 44 10, zAj 45 1 8, zAd 46 45, zBe 47 44 46, zCi 48 43 47, zAz 49 2 38 39, zAl 2 49 48]))) (.region [zAa 31 9, zAq 32 31 1, zAa 9 32]))))))))))) (zq [zAd 50 5, zAa 4 50] .ret))))
def B259 : ABody := .mk 2 19 [.tmp 4] (zq [zAb 4 0] (.seq (zq [zAa 6 0, zAt 7 6, zAb 8 0] (.block 0 (.loop (zq [zAx 9 8 7] (.seq (zk 9 .skip (.exit 0)) (.seq (.block 1 (zq [zAa 10 8, zAa 5 10] (zq [zAa 11 1, zAa 12 0, zAa 13 5, zAz 14 8 12 13, zAi 15 8 14, zDk 16 11 15] (zj 16 (zq [zAa 17 5, zAa 4 17] .ret))))) (.region [zAq 18 8 1, zAa 8 18]))))))) (zq [zAb 4 (-1)] .ret)))
def B260 : ABody := .mk 2 19 [.tmp 4] (zq [zAb 4 0] (.seq (zq [zAa 6 0, zAt 7 6, zAb 8 0] (.block 0 (.loop (zq [zAx 9 8 7] (.seq (zk 9 .skip (.exit 0)) (.seq (.block 1 (zq [zAa 10 8, zAa 5 10] (zq [zAa 11 1, zAa 12 0, zAa 13 5, zAz 14 2 12 13, zAi 15 2 14, zDk 16 11 15] (zj 16 (zq [zAa 17 5, zAa 4 17] .ret))))) (.region [zAq 18 8 1, zAa 8 18]))))))) (zq [zAb 4 (-1)] .ret)))
def B261 : ABody := .mk 2 6 [.tmp 4] (zq [zBf 2 0, zBf 3 1, zEt 4] (zq [⟨some 5, .mkfunc 262 [] [.tmp 2, .tmp 3], none⟩, zAa 4 5] .ret))
def B262 : ABody := .mk 1 21 [] (zq [zAi 5 17 1, zBu 6 245 5 0, zAa 4 6] (.block 0 (.loop (.seq (.seq (.draw 0 [zAc 1 8 4, zBr 0 7 17 1, zAu 3 10 2, zDb 2 3 9 239 7 8, ⟨4, false, [], ⟨some 11, .bin .lss (.tmp 9) (.tmp 10), none⟩⟩]) (zk 11 .skip (.exit 0))) (.seq (.block 1 (zq [zAa 14 0, zAa 15 4, zAi 16 17 1, zAa 17 4, zAk 18 239 16 17, ⟨some 19, .call (.tmp 14) [.tmp 15, .tmp 18], none⟩, zCd 20 19] (zj 20 .ret))) (.region [zAa 12 4, zAq 13 12 1, zAa 4 13]))))))
def tabL : List (Nat × ABody) := [(0, B0), (1, B1), (7, B7), (8, B8), (9, B9), (10, B10), (11, B11), (12, B12), (13, B13), (14, B14), (15, B15), (16, B16), (17, B17), (18, B18), (19, B19), (23, B23), (26, B26), (27, B27), (28, B28), (29, B29), (30, B30), (31, B31), (32, B32), (33, B33), (34, B34), (35, B35), (36, B36), (37, B37), (38, B38), (39, B39), (45, B45), (48, B48), (49, B49), (50, B50), (51, B51), (52, B52), (53, B53), (54, B54), (57, B57), (58, B58), (59, B59), (60, B60), (61, B61), (70, B70), (72, B72), (74, B74), (76, B76), (81, B81), (89, B89), (90, B90), (92, B92), (93, B93), (95, B95), (99, B99), (100, B100), (101, B101), (102, B102), (104, B104), (105, B105), (135, B135), (143, B143), (146, B146), (151, B151), (152, B152), (153, B153), (212, B212), (214, B214), (218, B218), (219, B219), (221, B221), (223, B223), (225, B225), (227, B227), (229, B229), (231, B231), (233, B233), (234, B234), (235, B235), (236, B236), (237, B237), (238, B238), (239, B239), (242, B242), (243, B243), (245, B245), (247, B247), (249, B249), (250, B250), (252, B252), (253, B253), (254, B254), (255, B255), (256, B256), (257, B257), (259, B259), (260, B260), (261, B261), (262, B262)]
def tab (g : Nat) : Option ABody := (tabL.find? fun p => p.1 == g).map (·.2)
def Has (C : Ctx) (T : List Nat) : Prop := ∀ g ∈ T, ∀ b, tab g = some b → C.body g = some b
theorem Has.body {C : Ctx} {T : List Nat} (h : Has C T) {g : Nat} {b : ABody} (hg : T.contains g = true) (hb : tab g = some b) : C.body g = some b := h g (by simpa using hg) b hb
theorem Has.sub {C : Ctx} {T T' : List Nat} (h : Has C T) (hs : T'.all (fun g => T.contains g) = true) : Has C T' := fun g hg => h g (by simpa using List.all_eq_true.1 hs g hg)
theorem tab23 : tab 23 = some B23 := by rfl
theorem tab37 : tab 37 = some B37 := by rfl
theorem tab45 : tab 45 = some B45 := by rfl
theorem tab50 : tab 50 = some B50 := by rfl
theorem tab70 : tab 70 = some B70 := by rfl
theorem tab72 : tab 72 = some B72 := by rfl
theorem tab74 : tab 74 = some B74 := by rfl
theorem tab76 : tab 76 = some B76 := by rfl
theorem tab81 : tab 81 = some B81 := by rfl
theorem tab89 : tab 89 = some B89 := by rfl
theorem tab90 : tab 90 = some B90 := by rfl
theorem tab92 : tab 92 = some B92 := by rfl
theorem tab93 : tab 93 = some B93 := by rfl
theorem tab95 : tab 95 = some B95 := by rfl
theorem tab99 : tab 99 = some B99 := by rfl
theorem tab100 : tab 100 = some B100 := by rfl
theorem tab101 : tab 101 = some B101 := by rfl
theorem tab102 : tab 102 = some B102 := by rfl
theorem tab105 : tab 105 = some B105 := by rfl
theorem tab135 : tab 135 = some B135 := by rfl
theorem tab143 : tab 143 = some B143 := by rfl
theorem tab212 : tab 212 = some B212 := by rfl
theorem tab214 : tab 214 = some B214 := by rfl
theorem tab218 : tab 218 = some B218 := by rfl
theorem tab219 : tab 219 = some B219 := by rfl
theorem tab221 : tab 221 = some B221 := by rfl
theorem tab223 : tab 223 = some B223 := by rfl
theorem tab225 : tab 225 = some B225 := by rfl
theorem tab227 : tab 227 = some B227 := by rfl
theorem tab229 : tab 229 = some B229 := by rfl
theorem tab231 : tab 231 = some B231 := by rfl
theorem tab233 : tab 233 = some B233 := by rfl
theorem tab234 : tab 234 = some B234 := by rfl
theorem tab235 : tab 235 = some B235 := by rfl
theorem tab236 : tab 236 = some B236 := by rfl
theorem tab237 : tab 237 = some B237 := by rfl
theorem tab238 : tab 238 = some B238 := by rfl
theorem tab239 : tab 239 = some B239 := by rfl
theorem tab242 : tab 242 = some B242 := by rfl
theorem tab243 : tab 243 = some B243 := by rfl
theorem tab245 : tab 245 = some B245 := by rfl
theorem tab247 : tab 247 = some B247 := by rfl
theorem tab249 : tab 249 = some B249 := by rfl
theorem tab250 : tab 250 = some B250 := by rfl
theorem tab252 : tab 252 = some B252 := by rfl
theorem tab253 : tab 253 = some B253 := by rfl
theorem tab254 : tab 254 = some B254 := by rfl
theorem tab255 : tab 255 = some B255 := by rfl
theorem tab256 : tab 256 = some B256 := by rfl
theorem tab257 : tab 257 = some B257 := by rfl
theorem tab259 : tab 259 = some B259 := by rfl
theorem tab260 : tab 260 = some B260 := by rfl
theorem tab261 : tab 261 = some B261 := by rfl
theorem tab262 : tab 262 = some B262 := by rfl
def T0 : List Nat := [0, 7, 8, 9, 10, 11, 12, 13, 14, 19, 26, 27, 28, 29, 30, 31, 32, 33, 34, 35, 36, 37, 38, 39, 48, 49, 50, 51, 52, 53, 54, 57, 58, 59, 60, 61]
def T1 : List Nat := [1, 7, 8, 12, 13, 14, 15, 16, 17, 18, 19, 26, 27, 30, 31, 32, 33, 34, 35, 36, 37, 38, 39, 48, 49, 50, 51, 52, 53, 54, 57, 58, 59, 60, 61]
def T23 : List Nat := [23]
def T37 : List Nat := [37, 50]
def T45 : List Nat := [23, 45]
def T50 : List Nat := [50]
def T70 : List Nat := [70, 89, 99]
def T72 : List Nat := [70, 72, 89, 99]
def T74 : List Nat := [70, 72, 74, 81, 89, 90, 92, 93, 95, 99, 100, 101, 102, 104, 105]
def T76 : List Nat := [70, 72, 74, 76, 81, 89, 90, 92, 93, 95, 99, 100, 101, 102, 104, 105]
def T81 : List Nat := [81, 92, 93, 95, 101, 102]
def T89 : List Nat := [89, 99]
def T90 : List Nat := [90, 100, 104, 105]
def T92 : List Nat := [92]
def T93 : List Nat := [93, 95, 101, 102]
def T95 : List Nat := [95, 101, 102]
def T99 : List Nat := [99]
def T100 : List Nat := [100, 104, 105]
def T101 : List Nat := [101, 102]
def T102 : List Nat := [102]
def T105 : List Nat := [105]
def T135 : List Nat := [135, 146, 151, 152, 153]
def T143 : List Nat := [143]
def T146 : List Nat := [146, 151, 152, 153]
def T212 : List Nat := [37, 50, 70, 72, 74, 76, 81, 89, 90, 92, 93, 95, 99, 100, 101, 102, 104, 105, 135, 143, 146, 151, 152, 153, 212, 218, 219, 221, 223, 225, 227, 229, 231, 233, 234, 237, 238, 239, 242, 243, 245, 247, 249, 250, 252, 253, 254, 255, 256, 257, 259, 260, 261, 262]
def T214 : List Nat := [23, 37, 45, 50, 70, 72, 74, 76, 81, 89, 90, 92, 93, 95, 99, 100, 101, 102, 104, 105, 135, 143, 146, 151, 152, 153, 212, 214, 218, 219, 221, 223, 225, 227, 229, 231, 233, 234, 235, 236, 237, 238, 239, 242, 243, 245, 247, 249, 250, 252, 253, 254, 255, 256, 257, 259, 260, 261, 262]
def T218 : List Nat := [37, 50, 70, 72, 74, 76, 81, 89, 90, 92, 93, 95, 99, 100, 101, 102, 104, 105, 135, 143, 146, 151, 152, 153, 218, 219, 221, 223, 225, 229, 233, 234, 237, 238, 239, 242, 243, 245, 247, 249, 250]
def T219 : List Nat := [70, 89, 99, 219, 237]
def T221 : List Nat := [37, 50, 70, 72, 74, 76, 81, 89, 90, 92, 93, 95, 99, 100, 101, 102, 104, 105, 219, 221, 223, 237, 238, 239, 242, 243]
def T223 : List Nat := [37, 50, 70, 89, 99, 219, 223, 237, 242, 243]
def T225 : List Nat := [37, 50, 70, 72, 74, 76, 81, 89, 90, 92, 93, 95, 99, 100, 101, 102, 104, 105, 219, 223, 225, 237, 238, 239, 242, 243, 245]
def T227 : List Nat := [37, 50, 70, 72, 74, 76, 81, 89, 90, 92, 93, 95, 99, 100, 101, 102, 104, 105, 219, 223, 227, 237, 238, 242, 243, 247]
def T229 : List Nat := [37, 50, 70, 72, 74, 76, 81, 89, 90, 92, 93, 95, 99, 100, 101, 102, 104, 105, 135, 143, 146, 151, 152, 153, 219, 223, 229, 237, 238, 239, 242, 243, 245, 247, 249, 250]
def T231 : List Nat := [37, 50, 70, 72, 74, 76, 81, 89, 90, 92, 93, 95, 99, 100, 101, 102, 104, 105, 135, 143, 146, 151, 152, 153, 219, 223, 231, 237, 238, 239, 242, 243, 245, 247, 249, 250, 252, 253, 254, 255, 256, 257, 259, 260, 261, 262]
def T233 : List Nat := [233]
def T234 : List Nat := [234]
def T235 : List Nat := [23, 45, 235]
def T236 : List Nat := [23, 45, 236]
def T237 : List Nat := [237]
def T238 : List Nat := [37, 50, 70, 72, 74, 76, 81, 89, 90, 92, 93, 95, 99, 100, 101, 102, 104, 105, 219, 223, 237, 238, 242, 243]
def T239 : List Nat := [239, 242]
def T242 : List Nat := [242]
def T243 : List Nat := [243]
def T245 : List Nat := [239, 242, 245]
def T247 : List Nat := [247]
def T249 : List Nat := [249]
def T250 : List Nat := [135, 143, 146, 151, 152, 153, 247, 250]
def T252 : List Nat := [252, 259]
def T253 : List Nat := [253]
def T254 : List Nat := [254]
def T255 : List Nat := [255, 260]
def T256 : List Nat := [135, 143, 146, 151, 152, 153, 239, 242, 245, 247, 249, 250, 256, 257, 261, 262]
def T257 : List Nat := [135, 143, 146, 151, 152, 153, 239, 242, 245, 247, 249, 250, 257, 261, 262]
def T259 : List Nat := [259]
def T260 : List Nat := [260]
def T261 : List Nat := [239, 242, 245, 261, 262]
def T262 : List Nat := [239, 242, 245, 262]
theorem zu {C : Ctx} {T : List Nat} (hC : Has C T) (T' : List Nat) (h : T'.all (fun g => T.contains g) = true := by decide) : Has C T' := hC.sub h
theorem zf {C : Ctx} {T : List Nat} {g : Nat} {b : ABody} {args : List AV} {h : Heap} {Post : AV → Heap → Prop} (hC : Has C T) (t : tab g = some b) (hw : wp C b.ntmps none b.code (retO b.res Post) ⟨argT args, h, []⟩) (c : T.contains g = true := by decide) (l : args.length.ble b.ntmps = true := by rfl) : ACalls C g args h Post := jcB (hC.body c t) (Nat.le_of_ble_eq_true l) hw
end Go.Ae
