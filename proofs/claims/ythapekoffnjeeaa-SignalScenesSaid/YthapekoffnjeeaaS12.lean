/- Texts of the proof, part 12: a second reading of the lowered code, proved sound, and what the functions compute. -/
import Derived.IntWalk
import Derived.Test.YthapekoffnjeeaaS11
set_option linter.unusedSimpArgs false
set_option linter.unusedVariables false
set_option maxRecDepth 20000
set_option maxHeartbeats 4000000
namespace Go.Ae
theorem zI {a b : Prop} (x : a) (y : b) : a /\ b := ⟨x, y⟩
variable {C : Ctx} {h h' : Heap} {i n k m c u g : Nat} {l : List Int} {args : List AV}
theorem w_i64 {x : Int} (h : -9223372036854775808 <= x /\ x <= 9223372036854775807) : IntKind.i64.wrap x = x := IntWalk.i64_in x h
theorem w_i32 {x : Int} (h : -2147483648 <= x /\ x <= 2147483647) : IntKind.i32.wrap x = x := IntWalk.i32_in x h
theorem w_u8 {x : Int} (h : 0 <= x /\ x <= 255) : IntKind.u8.wrap x = x := IntWalk.u8_in x h
theorem w_u32 {x : Int} (h : 0 <= x /\ x <= 4294967295) : IntKind.u32.wrap x = x := IntWalk.u32_in x h
theorem w_u64 {x : Int} (h : 0 <= x /\ x <= 18446744073709551615) : IntKind.u64.wrap x = x := IntWalk.u64_in x h
theorem tdiv_nn {a b : Int} (h : 0 <= a) : a.tdiv b = a / b := Int.tdiv_eq_ediv_of_nonneg h
theorem tmod_nn {a b : Int} (h : 0 <= a) : a.tmod b = a % b := Int.tmod_eq_emod_of_nonneg h
theorem fdiv_nn {a b : Int} (h : 0 <= b) : a.fdiv b = a / b := Int.fdiv_eq_ediv_of_nonneg a h
theorem bits_i64 : IntKind.i64.bits = 64 := rfl
theorem bits_u64 : IntKind.u64.bits = 64 := rfl
theorem bits_u32 : IntKind.u32.bits = 32 := rfl
theorem bits_i32 : IntKind.i32.bits = 32 := rfl
theorem bits_u8 : IntKind.u8.bits = 8 := rfl
theorem min_shift {b : Int} {n : Nat} (h : b <= n) : min b.toNat n = b.toNat := by omega
section
variable {k k' : IntKind} {a b : Int}
theorem bin_add : binA .add (.int k a) (.int k b) = some (.int k (k.wrap (a + b))) := by simp [binA, jbn]
theorem bin_sub : binA .sub (.int k a) (.int k b) = some (.int k (k.wrap (a - b))) := by simp [binA, jbn]
theorem bin_mul : binA .mul (.int k a) (.int k b) = some (.int k (k.wrap (a * b))) := by simp [binA, jbn]
theorem bin_quo (h : b ≠ 0) : binA .quo (.int k a) (.int k b) = some (.int k (k.wrap (a.tdiv b))) := by simp [binA, jbn, h]
theorem bin_rem (h : b ≠ 0) : binA .rem (.int k a) (.int k b) = some (.int k (a.tmod b)) := by simp [binA, jbn, h]
theorem bin_and : binA .and (.int k a) (.int k b) = some (.int k (bitsA .and k a b)) := by simp [binA, jbn]
theorem bin_or : binA .or (.int k a) (.int k b) = some (.int k (bitsA .or k a b)) := by simp [binA, jbn]
theorem bin_xor : binA .xor (.int k a) (.int k b) = some (.int k (bitsA .xor k a b)) := by simp [binA, jbn]
theorem bin_andNot : binA .andNot (.int k a) (.int k b) = some (.int k (bitsA .andNot k a b)) := by simp [binA, jbn]
theorem bin_eql : binA .eql (.int k a) (.int k b) = some (.bool (decide (a = b))) := by
 simp only [binA, jbn, if_true]; congr 2
theorem bin_neq : binA .neq (.int k a) (.int k b) = some (.bool (decide (a ≠ b))) := by
 simp only [binA, jbn, if_true]; congr 2; simp [bne, Bool.beq_eq_decide_eq]
theorem bin_lss : binA .lss (.int k a) (.int k b) = some (.bool (decide (a < b))) := by simp [binA, jbn]
theorem bin_leq : binA .leq (.int k a) (.int k b) = some (.bool (decide (a <= b))) := by simp [binA, jbn]
theorem bin_gtr : binA .gtr (.int k a) (.int k b) = some (.bool (decide (b < a))) := by simp [binA, jbn]
theorem bin_geq : binA .geq (.int k a) (.int k b) = some (.bool (decide (b <= a))) := by simp [binA, jbn]
theorem bin_shl (h : 0 <= b) : binA .shl (.int k a) (.int k' b) = some (.int k (k.wrap (a * 2 ^ (min b.toNat k.bits)))) := by
 simp only [binA]; rw [if_neg (by omega)]
theorem bin_shr (h : 0 <= b) : binA .shr (.int k a) (.int k' b) = some (.int k (a.fdiv (2 ^ (min b.toNat k.bits)))) := by
 simp only [binA]; rw [if_neg (by omega)]
theorem bits_and1 (h : 0 <= a /\ a <= 9223372036854775807) : bitsA .and .i64 a 1 = a % 2 := by
 obtain ⟨n, rfl⟩ := Int.eq_ofNat_of_zero_le h.1;have hn : n < 2 ^ 64 := by omega
 have e1 : (BitVec.ofInt 64 (n : Int)).toNat = n := by
  rw [BitVec.toNat_ofInt];have : ((n : Int) % ((2 ^ 64 : Nat) : Int)).toNat = n := by
   rw [Int.emod_eq_of_lt (by omega) (by exact_mod_cast hn)]; simp
  exact this
 have e2 : (BitVec.ofInt 64 (1 : Int)).toNat = 1 := by decide
 show IntKind.i64.wrap ((BitVec.ofInt 64 (n : Int) &&& BitVec.ofInt 64 1).toNat : Int) = _;rw [BitVec.toNat_and, e1, e2, Nat.and_one_is_mod, w_i64 (by omega)];omega
theorem un_neg : unA .neg (.int k a) = some (.int k (k.wrap (0 - a))) := rfl
theorem un_not {b : Bool} : unA .not (.bool b) = some (.bool !b) := rfl
theorem un_xor : unA .xor (.int k a) = some (.int k (bitsA .xor k (if k.signed then -1 else k.max) a)) := rfl
theorem conv_int : convA k (.int k' a) = some (.int k (k.wrap a)) := rfl
theorem eqb_ff {a b : Bool} : eqbA false (.bool a) (.bool b) = some (.bool (a == b)) := rfl
theorem eqb_tt {a b : Bool} : eqbA true (.bool a) (.bool b) = some (.bool !(a == b)) := rfl
theorem pick_tt {x y : AV} : pickA x y (.bool true) = some x := rfl
theorem pick_ff {x y : AV} : pickA x y (.bool false) = some y := rfl
theorem pick_dt {x y : AV} {c : Prop} [Decidable c] (h : c) : pickA x y (.bool (decide c)) = some x := by simp [pickA, h]
theorem pick_df {x y : AV} {c : Prop} [Decidable c] (h : ¬c) : pickA x y (.bool (decide c)) = some y := by simp [pickA, h]
theorem pick_vt {x y : AV} {b : Bool} (h : b = true) : pickA x y (.bool b) = some x := by simp [pickA, h]
theorem pick_vf {x y : AV} {b : Bool} (h : ¬ b = true) : pickA x y (.bool b) = some y := by simp [pickA, h]
theorem ext_tuple {vs : List AV} {i : Nat} : extA i (.tuple vs) = vs[i]? := rfl
theorem max_two : maxA [.int k a, .int k b] = some (.int k (max a b)) := by
 simp only [maxA, List.foldl, jcj, if_true]; congr 2; split <;> omega
theorem max_three {c : Int} : maxA [.int k a, .int k b, .int k c] = some (.int k (max (max a b) c)) := by
 simp only [maxA, List.foldl, jcj, if_true]; congr 2; split <;> split <;> omega
theorem min_two : minA [.int k a, .int k b] = some (.int k (min a b)) := by
 simp only [minA, List.foldl, jck, if_true]; congr 2; split <;> omega
theorem min_three {c : Int} : minA [.int k a, .int k b, .int k c] = some (.int k (min (min a b) c)) := by
 simp only [minA, List.foldl, jck, if_true]; congr 2; split <;> split <;> omega
end
structure HSub (h h' : Heap) : Prop where
 size : h.size <= h'.size
 get : ∀ i, i < h.size -> h'.get i = h.get i
theorem kak (h : Heap) : HSub h h := ⟨Nat.le_refl _, fun _ _ => rfl⟩
theorem HSub.trans {a b c : Heap} (x : HSub a b) (y : HSub b c) : HSub a c := ⟨Nat.le_trans x.size y.size, fun i hi => (y.get i (Nat.lt_of_lt_of_le hi x.size)).trans (x.get i hi)⟩
theorem get_push_eq {h : Heap} {b : ABlk} {i : Nat} (e : i = h.size) : (h.push b).get i = some b := by simp [kah, e]
theorem get_push_lt {h : Heap} {b : ABlk} {i : Nat} (e : i < h.size) : (h.push b).get i = h.get i := by rw [kah, if_neg (by omega)]
theorem get_put_eq {h : Heap} {b : ABlk} {i j : Nat} (e : j = i) (hi : i < h.size) : (h.put i b).get j = some b := by rw [kag _ _ _ _ hi, if_pos e]
theorem get_put_ne {h : Heap} {b : ABlk} {i j : Nat} (e : j ≠ i) : (h.put i b).get j = h.get j := by
 show (if j = i then _ else h.get j) = _;rw [if_neg e]
theorem HSub.push (x : HSub h h') (b : ABlk) : HSub h (h'.push b) := ⟨by simp only [Heap.size_push]; have := x.size; omega, fun i hi => by rw [get_push_lt (Nat.lt_of_lt_of_le hi x.size)]; exact x.get i hi⟩
theorem HSub.put (x : HSub h h') (hi : h.size <= i) (b : ABlk) : HSub h (h'.put i b) := ⟨x.size, fun j hj => by rw [get_put_ne (by omega)]; exact x.get j hj⟩
theorem HSub.reserve (x : HSub h h') (n : Nat) : HSub h (h'.reserve n) := ⟨by simp only [Heap.size_reserve]; have := x.size; omega, fun i hi => x.get i hi⟩
theorem zR (h : Heap) : HSub h h := kak h
theorem zP (x : HSub h h') (b : ABlk) : HSub h (h'.push b) := x.push b
theorem zV (x : HSub h h') (n : Nat) : HSub h (h'.reserve n) := x.reserve n
theorem kab (h : Heap) (b : ABlk) : HSub h (h.push b) := (kak h).push b
theorem heap_eq (hs : h.size = h'.size) (hg : ∀ i, h.get i = h'.get i) : h = h' := by
 obtain ⟨s, g, w⟩ := h; obtain ⟨s', g', w'⟩ := h';cases hs;have : g = g' := funext hg;cases this; rfl
theorem put_put {h : Heap} {i : Nat} {b b' : ABlk} : (h.put i b).put i b' = h.put i b' := by
 refine heap_eq rfl fun j => ?_;show (if j = i then _ else if j = i then _ else h.get j) = if j = i then _ else h.get j
 split <;> rfl
theorem push_put {h : Heap} {i : Nat} {b b' : ABlk} (e : i = h.size) : (h.push b).put i b' = h.push b' := by
 subst e;refine heap_eq rfl fun j => ?_;show (if j = h.size then (if h.size < h.size + 1 then some b' else none) else (if j = h.size then some b else h.get j)) = (if j = h.size then some b' else h.get j);split
 ·rw [if_pos (by omega)]
 ·rfl
theorem push_put_lt {h : Heap} {i : Nat} {b b' : ABlk} (e : i < h.size) : (h.push b).put i b' = (h.put i b').push b := by
 refine heap_eq rfl fun j => ?_;show (if j = i then (if i < h.size + 1 then some b' else none) else (if j = h.size then some b else h.get j)) = (if j = h.size then some b else (if j = i then (if i < h.size then some b' else none) else h.get j));by_cases e1 : j = i
 ·subst e1;rw [if_pos rfl, if_pos rfl, if_pos e, if_pos (by omega), if_neg (by omega)]
 ·rw [if_neg e1, if_neg e1]
def ints (l : List Int) : List AV := l.map (AV.int .i64)
theorem ints_length {l : List Int} : (ints l).length = l.length := by simp [ints]
theorem ints_get {l : List Int} {k : Nat} (h : k < l.length) : (ints l)[k]? = some (.int .i64 (l.getD k 0)) := by simp [ints, h]
theorem ints_set {l : List Int} {k : Nat} {x : Int} : (ints l).set k (.int .i64 x) = ints (l.set k x) := by simp [ints, List.map_set]
theorem ints_snoc {l : List Int} {x : Int} : ints l ++ [.int .i64 x] = ints (l ++ [x]) := by simp [ints]
theorem jbW {n : Nat} {x : Int} : List.replicate n (AV.int .i64 x) = ints (List.replicate n x) := by simp [ints]
theorem jjy {o : Nat} : cut (ints l) o n = ints ((l.drop o).take n) := by simp [ints, cut]
theorem jmk : (ints l).all AV.one = true := by simp [ints, AV.one]
theorem jiR {l : List AV} (h : n = l.length) : cut l 0 n = l := by subst h; simp [cut]
theorem zeros_one {n : Nat} {x : AV} : jbo n [x] = List.replicate n x := rfl
def SL (h : Heap) (sz : Nat) (v : AV) (n : Nat) (cs : List AV) : Prop :=
 cs.length = n * sz /\ n < 9223372036854775808 /\ ((v = .nilslice \/ ∃ a, v = .emp a) /\ n = 0 \/ ∃ i o c vs wr u, v = .slice i o n c /\ h.get i = some (.cells vs wr u) /\ o + n * sz <= vs.length /\ cut vs o (n * sz) = cs /\
  match c with | .known c => n <= c | .unk l => wr = true /\ u = sz /\ o = l * sz)
def RI (h : Heap) (v : AV) (l : List Int) : Prop := SL h 1 v l.length (ints l)
def elA (sz : Nat) (v : AV) (k : Nat) : AV :=
 match v with
 | .slice i o _ _ => .ptr i (o + k * sz)
 | _ => .undef
theorem elA_slice {sz i o n c k} : elA sz (.slice i o n c) k = .ptr i (o + k * sz) := rfl
section
variable {h h' : Heap} {sz n : Nat} {v : AV} {cs : List AV} {l : List Int}
theorem SL.len (H : SL h sz v n cs) : lenA v = some (.int .i64 n) := by
 obtain ⟨_, _, ⟨rfl | ⟨_, rfl⟩, rfl⟩ | ⟨i, o, c, vs, wr, u, rfl, _⟩⟩ := H <;> rfl
theorem SL.one (H : SL h sz v n cs) : v.one = true := by
 obtain ⟨_, _, ⟨rfl | ⟨_, rfl⟩, rfl⟩ | ⟨i, o, c, vs, wr, u, rfl, _⟩⟩ := H <;> rfl
theorem kaU (H : SL h sz v n cs) : jao h sz v = some (n, cs) := by
 obtain ⟨hl, hlt, ⟨rfl | ⟨_, rfl⟩, rfl⟩ | ⟨i, o, c, vs, wr, u, rfl, hg, hle, hc, _⟩⟩ := H
 ·have : cs = [] := List.eq_nil_of_length_eq_zero (by omega);subst this; rfl
 ·have : cs = [] := List.eq_nil_of_length_eq_zero (by omega);subst this; rfl
 ·simp only [jao, hg, if_pos hle, hc]
theorem SL.idx (H : SL h sz v n cs) {kk : IntKind} {k : Int} (hk : 0 <= k /\ k < n) : idxA sz v (.int kk k) = some (elA sz v k.toNat) := by
 obtain ⟨_, _, ⟨rfl | ⟨_, rfl⟩, rfl⟩ | ⟨i, o, c, vs, wr, u, rfl, _⟩⟩ := H
 ·omega
 ·omega
 ·simp only [idxA, if_pos hk, elA]
theorem SL.mono (H : SL h sz v n cs) (hs : HSub h h') : SL h' sz v n cs := by
 obtain ⟨hl, hlt, ⟨rfl | ⟨_, rfl⟩, rfl⟩ | ⟨i, o, c, vs, wr, u, rfl, hg, r⟩⟩ := H
 ·exact ⟨hl, hlt, .inl ⟨.inl rfl, rfl⟩⟩
 ·exact ⟨hl, hlt, .inl ⟨.inr ⟨_, rfl⟩, rfl⟩⟩
 ·exact ⟨hl, hlt, .inr ⟨i, o, c, vs, wr, u, rfl, (hs.get i (kac hg)).trans hg, r⟩⟩
theorem kbh (H : SL h 1 v n cs) (hk : k < n) : loadA h false 1 (elA 1 v k) = cs[k]? := by
 obtain ⟨hl, hlt, ⟨rfl | ⟨_, rfl⟩, rfl⟩ | ⟨i, o, c, vs, wr, u, rfl, hg, hle, hc, _⟩⟩ := H
 ·omega
 ·omega
 ·subst hc;simp only [elA, loadA, hg, partA, cut, Bool.false_eq_true, if_false, Nat.mul_one];rw [List.getElem?_take_of_lt (by omega), List.getElem?_drop]
theorem SL.loadA (H : SL h sz v n cs) (hk : k < n) : loadA h true sz (elA sz v k) = some (.agg (cut cs (k * sz) sz)) := by
 obtain ⟨hl, hlt, ⟨rfl | ⟨_, rfl⟩, rfl⟩ | ⟨i, o, c, vs, wr, u, rfl, hg, hle, hc, _⟩⟩ := H
 ·omega
 ·omega
 ·subst hc;have h1 : (k + 1) * sz <= n * sz := Nat.mul_le_mul_right sz hk;have h2 : (k + 1) * sz = k * sz + sz := by rw [Nat.add_mul, Nat.one_mul]
  simp only [elA, Ae.loadA, hg, partA, if_true];rw [if_pos (by omega)];congr 2;simp only [cut, List.drop_take, List.drop_drop, List.take_take];rw [show min sz (n * sz - k * sz) = sz by omega]
theorem RI.len (H : RI h v l) : lenA v = some (.int .i64 l.length) := SL.len H
theorem RI.one (H : RI h v l) : v.one = true := SL.one H
theorem RI.content (H : RI h v l) : jao h 1 v = some (l.length, ints l) := kaU H
theorem RI.idx (H : RI h v l) {kk : IntKind} {k : Int} (hk : 0 <= k /\ k < l.length) : idxA 1 v (.int kk k) = some (elA 1 v k.toNat) := SL.idx H hk
theorem RI.mono (H : RI h v l) (hs : HSub h h') : RI h' v l := SL.mono H hs
theorem RI.load (H : RI h v l) (hk : k < l.length) : Ae.loadA h false 1 (elA 1 v k) = some (.int .i64 (l.getD k 0)) := by
 rw [kbh H hk, ints_get hk]
theorem RI.loadC (H : RI h v l) : ∀ (h' : Heap) (k : Nat), HSub h h' -> k < l.length -> Ae.loadA h' false 1 (elA 1 v k) = some (.int .i64 (l.getD k 0)) := fun _ _ hs hk => (H.mono hs).load hk
theorem kaA : RI h .nilslice [] := ⟨rfl, by decide, .inl ⟨.inl rfl, rfl⟩⟩
theorem SL.lt (H : SL h sz v n cs) : n < 9223372036854775808 := H.2.1
theorem RI.lt (H : RI h v l) : l.length < 9223372036854775808 := H.2.1
theorem kal {wr : Bool} (hg : h.get i = some (.cells (ints l) wr u)) (hm : m = l.length /\ m < 9223372036854775808) (hc : m <= c) : RI h (.slice i 0 m (.known c)) l := by
 obtain ⟨rfl, hm⟩ := hm;refine ⟨by simp [ints], hm, .inr ⟨i, 0, _, _, wr, u, rfl, hg, by simp [ints], ?_, hc⟩⟩;exact jiR (by simp [ints])
end
def loadB (agg : Bool) (n o : Nat) : Option ABlk -> Option AV
 | some (.cells vs _ _) => partA agg vs o n
 | _ => none
theorem load_ptr {h agg n i o} : loadA h agg n (.ptr i o) = loadB agg n o (h.get i) := by
 simp only [loadA, loadB];cases h.get i with
 | none => rfl
 | some b => cases b <;> rfl
theorem loadB_one {n o vs wr u} : loadB false n o (some (.cells vs wr u)) = vs[o]? := rfl
theorem loadB_agg {n o vs wr u} (h : o + n <= vs.length) : loadB true n o (some (.cells vs wr u)) = some (.agg (cut vs o n)) := by simp only [loadB, partA, if_true, if_pos h]
def jcM (h : Heap) (i n o : Nat) (v : AV) : Option ABlk -> Option Heap
 | some (.cells vs true u) => if v.cells.length = n /\ o + n <= vs.length /\ v.cells.all AV.one = true then some (h.put i (.cells (splice vs o v.cells) true u)) else none
 | _ => none
theorem store_ptr {h n i o v} : jdd h n (.ptr i o) v = jcM h i n o v (h.get i) := by
 simp only [jdd, jcM];cases h.get i with
 | none => rfl
 | some b => cases b with
  | cells vs wr u => cases wr <;> rfl
  | _ => rfl
theorem jcN {h i o v vs u} (hv : v.cells = [v] /\ v.one = true /\ o < vs.length) : jcM h i 1 o v (some (.cells vs true u)) = some (h.put i (.cells (vs.set o v) true u)) := by
 simp only [jcM, hv.1];rw [if_pos ⟨rfl, hv.2.2, by simp [hv.2.1]⟩]; rfl
theorem storeB_int {h i o k x vs u} (hv : o < vs.length) : jcM h i 1 o (.int k x) (some (.cells vs true u)) = some (h.put i (.cells (vs.set o (.int k x)) true u)) := jcN ⟨rfl, rfl, hv⟩
theorem storeB_bool {h i o x vs u} (hv : o < vs.length) : jcM h i 1 o (.bool x) (some (.cells vs true u)) = some (h.put i (.cells (vs.set o (.bool x)) true u)) := jcN ⟨rfl, rfl, hv⟩
theorem storeB_slice {h i o j p n c vs u} (hv : o < vs.length) : jcM h i 1 o (.slice j p n c) (some (.cells vs true u)) = some (h.put i (.cells (vs.set o (.slice j p n c)) true u)) := jcN ⟨rfl, rfl, hv⟩
theorem storeB_nil {h i o vs u} (hv : o < vs.length) : jcM h i 1 o .nilslice (some (.cells vs true u)) = some (h.put i (.cells (vs.set o .nilslice) true u)) := jcN ⟨rfl, rfl, hv⟩
theorem storeB_agg {h i o n xs vs u} (h1 : xs.length = n) (h2 : o + n <= vs.length) (h3 : xs.all AV.one = true) : jcM h i n o (.agg xs) (some (.cells vs true u)) = some (h.put i (.cells (splice vs o xs) true u)) := by
 simp only [jcM, AV.cells];exact if_pos ⟨h1, h2, h3⟩
theorem storeB_var {h i o v vs u} (hc : v.cells = [v]) (h1 : v.one = true) (ho : o < vs.length) : jcM h i 1 o v (some (.cells vs true u)) = some (h.put i (.cells (vs.set o v) true u)) := jcN ⟨hc, h1, ho⟩
theorem jdr {k n} : AV.one (.int k n) = true := rfl
theorem splice_one {vs o c} : splice vs o [c] = vs.set o c := rfl
theorem splice_two {vs o x y cs} : splice vs o (x :: y :: cs) = vs.take o ++ (x :: y :: cs) ++ vs.drop (o + (cs.length + 2)) := rfl
theorem cut_nil {vs o} : cut vs o 0 = [] := by simp [cut]
theorem cut_cons {x vs n} : cut (x :: vs) 0 (n + 1) = x :: cut vs 0 n := rfl
theorem cut_succ {x vs o n} : cut (x :: vs) (o + 1) n = cut vs o n := rfl
theorem fill_nil {z} : fillA z [] = some z := rfl
theorem fill_one {z o v rest} (hv : v.cells = [v]) (ho : o < z.length) : fillA z ((o, 1, v) :: rest) = fillA (z.set o v) rest := by
 simp only [fillA, hv];rw [if_pos ⟨rfl, ho⟩];congr 1;rw [List.set_eq_take_append_cons_drop, if_pos ho, List.append_assoc]; rfl
theorem fill_int {z o k n rest} (ho : o < z.length) : fillA z ((o, 1, .int k n) :: rest) = fillA (z.set o (.int k n)) rest := fill_one rfl ho
theorem fill_bool {z o b rest} (ho : o < z.length) : fillA z ((o, 1, .bool b) :: rest) = fillA (z.set o (.bool b)) rest := fill_one rfl ho
theorem fill_ptr {z o i p rest} (ho : o < z.length) : fillA z ((o, 1, .ptr i p) :: rest) = fillA (z.set o (.ptr i p)) rest := fill_one rfl ho
theorem fill_slice {z o i p n c rest} (ho : o < z.length) : fillA z ((o, 1, .slice i p n c) :: rest) = fillA (z.set o (.slice i p n c)) rest := fill_one rfl ho
theorem fill_nilslice {z o rest} (ho : o < z.length) : fillA z ((o, 1, .nilslice) :: rest) = fillA (z.set o .nilslice) rest := fill_one rfl ho
theorem fill_func {z o g f c rest} (ho : o < z.length) : fillA z ((o, 1, .func g f c) :: rest) = fillA (z.set o (.func g f c)) rest := fill_one rfl ho
theorem fill_agg {z o n xs rest} (h1 : xs.length = n) (h2 : o + n <= z.length) : fillA z ((o, n, .agg xs) :: rest) = fillA (z.take o ++ xs ++ z.drop (o + n)) rest := by
 simp only [fillA, AV.cells]; exact if_pos ⟨h1, h2⟩
theorem storeO_some {h : Heap} : storeOA (some h) = some (.undef, h) := rfl
theorem alloc_none {z h} : jfK none z h = some (.ptr h.size 0, h.push (.cells z true 0)) := rfl
def kept (n : Nat) (h : Heap) : Option ABlk -> (Nat -> Heap -> (ABlk -> Heap) -> Option (AV × Heap)) -> Option (AV × Heap)
 | none, f => if n < h.size then f n h (fun b => h.put n b) else none
 | some _, _ => none
theorem kept_none {n h f} (hn : n < h.size) : kept n h none f = f n h (fun b => h.put n b) := by simp [kept, hn]
theorem jfL : h.room (some n) = true ↔ h.get n = none /\ n < h.size := by simp [Heap.room]
theorem alloc_some {z h n} : jfK (some n) z h = kept n h (h.get n) (fun n _ p => some (.ptr n 0, p (.cells z true 0))) := by
 simp only [jfK, jfL, kept];cases hg : h.get n with
 | none => by_cases hn : n < h.size <;> simp [hn, Heap.nid, Heap.new]
 | some b => simp
theorem buildS_none {n cs h} : jcp none n (some cs) h = some (.slice h.size 0 n (.known n), h.push (.cells cs true 0)) := rfl
theorem buildS_some {n cs h i} : jcp (some i) n (some cs) h = kept i h (h.get i) (fun i _ p => some (.slice i 0 n (.known n), p (.cells cs true 0))) := by
 simp only [jcp, jfL, kept];cases hg : h.get i with
 | none => by_cases hn : i < h.size <;> simp [hn, Heap.nid, Heap.new]
 | some b => simp
theorem make_none {z : List AV} {bytes : Nat} {h : Heap} {k k' : IntKind} {l c : Int} (hl : 0 <= l /\ l <= c /\ c * bytes <= 140737488355328 /\ c <= 140737488355328) : makeA none z bytes h (.int k l) (.int k' c) = some (.slice h.size 0 l.toNat (.known c.toNat), h.push (.cells (jbo c.toNat z) true 0)) := by
 simp only [makeA];rw [if_pos ⟨hl.1, hl.2.1, hl.2.2.1, hl.2.2.2, rfl⟩]; rfl
theorem make_some {z : List AV} {bytes : Nat} {h : Heap} {k k' : IntKind} {l c : Int} {i : Nat} (hl : 0 <= l /\ l <= c /\ c * bytes <= 140737488355328 /\ c <= 140737488355328) : makeA (some i) z bytes h (.int k l) (.int k' c) = kept i h (h.get i) (fun i _ p => some (.slice i 0 l.toNat (.known c.toNat), p (.cells (jbo c.toNat z) true 0))) := by
 have h1 : (c * bytes <= 2 ^ 47) := hl.2.2.1;have h2 : c <= 2 ^ 47 := hl.2.2.2;simp only [makeA, jfL, kept];cases hg : h.get i with
 | none => by_cases hn : i < h.size <;> simp [hn, Heap.nid, Heap.new, hl.1, hl.2.1] <;> omega
 | some b => simp
theorem idx_slice {sz i o n c kk} {k : Int} (hk : 0 <= k /\ k < (n : Nat)) : idxA sz (.slice i o n c) (.int kk k) = some (.ptr i (o + k.toNat * sz)) := by simp only [idxA, if_pos hk]
theorem idxArr_ptr {sz len i o kk} {k : Int} (hk : 0 <= k /\ k < (len : Nat)) : jha sz len (.ptr i o) (.int kk k) = some (.ptr i (o + k.toNat * sz)) := by simp only [jha, if_pos hk]
theorem fieldAddr_ptr {off i o} : jcf off (.ptr i o) = some (.ptr i (o + off)) := rfl
theorem field_agg {agg off n vs} : jli agg off n (.agg vs) = partA agg vs off n := rfl
theorem part_one {vs o n} : partA false vs o n = vs[o]? := rfl
theorem part_agg {vs o n} (h : o + n <= vs.length) : partA true vs o n = some (.agg (cut vs o n)) := by simp only [partA, if_true, if_pos h]
theorem len_slice {i o n c} : lenA (.slice i o n c) = some (.int .i64 n) := rfl
theorem len_nil : lenA .nilslice = some (.int .i64 0) := rfl
theorem cells_int {k n} : AV.cells (.int k n) = [.int k n] := rfl
theorem cells_bool {b} : AV.cells (.bool b) = [.bool b] := rfl
theorem cells_agg {vs} : AV.cells (.agg vs) = vs := rfl
theorem cells_slice {i o n c} : AV.cells (.slice i o n c) = [.slice i o n c] := rfl
theorem cells_nil : AV.cells .nilslice = [.nilslice] := rfl
theorem cells_ptr {i o} : AV.cells (.ptr i o) = [.ptr i o] := rfl
theorem cells_func {g f c} : AV.cells (.func g f c) = [.func g f c] := rfl
theorem cells_yield {l} : AV.cells (.yield l) = [.yield l] := rfl
def Qa := fun a b => (⟨some a, .mv (.tmp b), none⟩ : AOper)
def Qb := fun a b => (⟨some a, .mv (.const (.int .i64 b)), none⟩ : AOper)
def Qc := fun a b c => (⟨a, false, [], ⟨some b, .mv (.tmp c), none⟩⟩ : DItem)
def Qd := fun a b => (⟨some a, .load false 1 (.tmp b), none⟩ : AOper)
def Qe := fun a b c => (⟨a, false, [], ⟨some b, .strIdx (.const (.str [0, 1, 1, 2, 1, 2, 2, 3, 1, 2, 2, 3, 2, 3, 3, 4, 1, 2, 2, 3, 2, 3, 3, 4, 2, 3, 3, 4, 3, 4, 4, 5, 1, 2, 2, 3, 2, 3, 3, 4, 2, 3, 3, 4, 3, 4, 4, 5, 2, 3, 3, 4, 3, 4, 4, 5, 3, 4, 4, 5, 4, 5, 5, 6, 1, 2, 2, 3, 2, 3, 3, 4, 2, 3, 3, 4, 3, 4, 4, 5, 2, 3, 3, 4, 3, 4, 4, 5, 3, 4, 4, 5, 4, 5, 5, 6, 2, 3, 3, 4, 3, 4, 4, 5, 3, 4, 4, 5, 4, 5, 5, 6, 3, 4, 4, 5, 4, 5, 5, 6, 4, 5, 5, 6, 5, 6, 6, 7, 1, 2, 2, 3, 2, 3, 3, 4, 2, 3, 3, 4, 3, 4, 4, 5, 2, 3, 3, 4, 3, 4, 4, 5, 3, 4, 4, 5, 4, 5, 5, 6, 2, 3, 3, 4, 3, 4, 4, 5, 3, 4, 4, 5, 4, 5, 5, 6, 3, 4, 4, 5, 4, 5, 5, 6, 4, 5, 5, 6, 5, 6, 6, 7, 2, 3, 3, 4, 3, 4, 4, 5, 3, 4, 4, 5, 4, 5, 5, 6, 3, 4, 4, 5, 4, 5, 5, 6, 4, 5, 5, 6, 5, 6, 6, 7, 3, 4, 4, 5, 4, 5, 5, 6, 4, 5, 5, 6, 5, 6, 6, 7, 4, 5, 5, 6, 5, 6, 6, 7, 5, 6, 6, 7, 6, 7, 7, 8])) (.tmp c), none⟩⟩ : DItem)
def Qf := fun a b c => (⟨some a, .fieldAddr b (.tmp c), none⟩ : AOper)
def Qg := fun a b c d => (⟨a, false, [], ⟨some b, .fieldAddr c (.tmp d), none⟩⟩ : DItem)
def Qh := fun a b c => (⟨a, false, [], ⟨some b, .load false 1 (.tmp c), none⟩⟩ : DItem)
def Qi := fun a b c d => (⟨some a, .buildSlice 4 [.int .i64 0, .int .i64 0, .int .i64 0, .int .i64 0] [(0, (1, .const (.int .i64 0))), (1, (1, .const (.int .i64 b))), (2, (1, .const (.int .i64 c))), (3, (1, .const (.int .i64 d)))], none⟩ : AOper)
def Qj := fun a b c => (⟨some a, .bin .add (.tmp b) (.const (.int .i64 c)), none⟩ : AOper)
def Qk := fun a b c d => (⟨some a, .call (.const (.func b [] [])) [.tmp c, .tmp d], none⟩ : AOper)
def Ql := fun a b c => (⟨some a, .extract (.tmp b) c, none⟩ : AOper)
def Qm := fun a b c => (⟨some a, .load true b (.tmp c), none⟩ : AOper)
def Qn := fun a b c => (⟨none, .store a (.tmp b) (.tmp c), none⟩ : AOper)
def Qo := fun a => (⟨some a, .mv (.const .nilslice), none⟩ : AOper)
def Qp := fun a b c => (⟨some a, .pick (.tmp b) (.const (.bool true)) (.tmp c), none⟩ : AOper)
def Qq := fun a b c => (⟨some a, .buildSlice 2 [.int .i64 0, .int .i64 0] [(0, (1, .const (.int .i64 b))), (1, (1, .const (.int .i64 c)))], none⟩ : AOper)
def Qr := fun a b c d e => (⟨a, false, [], ⟨some b, .indexAddr c (.tmp d) (.tmp e), none⟩⟩ : DItem)
def Qs := fun a => (⟨some a, .alloc [.int .i64 0, .int .i64 0, .int .i64 0, .int .u32 0, .int .u32 0, .int .i64 0, .int .i64 0, .nilslice, .int .i64 0, .int .i64 0, .int .i64 0, .int .i64 0, .int .i64 0, .int .i64 0, .int .i64 0, .nilslice, .nilslice], none⟩ : AOper)
def Qt := fun a b c => (⟨some a, .bin .eql (.tmp b) (.const (.int .i64 c)), none⟩ : AOper)
def Qu := fun a b c => (⟨some a, .bin .neq (.tmp b) (.const (.int .i64 c)), none⟩ : AOper)
def Qv := fun a b c => (⟨some a, .bin .lss (.tmp b) (.tmp c), none⟩ : AOper)
def Qw := fun a b => (⟨some a, .box (.tmp b), none⟩ : AOper)
def Qx := fun a b => (⟨some a, .len (.tmp b), none⟩ : AOper)
def Qy := fun a b c d => (⟨a, false, [], ⟨some b, .load false 1 (.tmp c), some (d, false)⟩⟩ : DItem)
def Qz := fun a b c d e => (⟨a, false, [], ⟨some b, .fieldAddr c (.tmp d), some (e, false)⟩⟩ : DItem)
def QA := fun a b c => (⟨some a, .call (.const (.func b [] [])) [.tmp c], none⟩ : AOper)
def QB := fun a b c => (⟨some a, .bin .lss (.tmp b) (.const (.int .i64 c)), none⟩ : AOper)
def QC := fun a b c d => (⟨some a, .indexAddr b (.tmp c) (.tmp d), none⟩ : AOper)
def QD := fun a b c d => (⟨a, false, [], ⟨some b, .load true c (.tmp d), none⟩⟩ : DItem)
def QE := fun a b c => (⟨some a, .pick (.tmp b) (.tmp c) (.const (.bool false)), none⟩ : AOper)
def QF := fun a b c d => (⟨some a, .bin .gtr (.tmp b) (.const (.int .i64 c)), some (d, false)⟩ : AOper)
def QG := fun a b c d => (⟨a, false, [], ⟨some b, .pick (.tmp c) (.const (.bool true)) (.tmp d), none⟩⟩ : DItem)
def QH := fun a b c => (⟨some a, .load false 1 (.tmp b), some (c, false)⟩ : AOper)
def QI := fun a b c d => (⟨a, false, [], ⟨some b, .bin .add (.tmp c) (.tmp d), none⟩⟩ : DItem)
def QJ := fun a b c => (⟨some a, .mv (.tmp b), some (c, false)⟩ : AOper)
def QK := fun a => (⟨some a, .alloc [.int .i64 0, .int .i64 0], none⟩ : AOper)
def QL := fun a b c => (⟨a, true, [], ⟨some b, .load false 1 (.tmp c), none⟩⟩ : DItem)
def QM := fun a b c => (⟨some a, .bin .gtr (.tmp b) (.const (.int .i64 c)), none⟩ : AOper)
def QN := fun a => (⟨some a, .mv (.const (.bool false)), none⟩ : AOper)
def QO := fun a b c d e => (⟨some a, .call (.const (.func b [] [])) [.tmp c, .tmp d, .tmp e], none⟩ : AOper)
def QP := fun a b c d => (⟨some a, .fieldAddr b (.tmp c), some (d, false)⟩ : AOper)
def QQ := fun a b c => (⟨some a, .bin .mul (.tmp b) (.tmp c), none⟩ : AOper)
def QR := fun a b c d => (⟨a, false, [], ⟨none, .store b (.tmp c) (.tmp d), none⟩⟩ : DItem)
def QS := fun a b c => (⟨some a, .mv (.tmp b), some (c, true)⟩ : AOper)
def QT := fun a b c => (⟨some a, .build [.int .i64 0, .nilslice, .nilslice] [(0, (1, .const (.int .i64 b))), (1, (2, .tmp c))], none⟩ : AOper)
def QU := fun a b c => (⟨some a, .build [.int .i64 0, .int .i64 0] [(0, (1, .tmp b)), (1, (1, .tmp c))], none⟩ : AOper)
def QV := fun a b c => (⟨some a, .bin .sub (.tmp b) (.const (.int .i64 c)), none⟩ : AOper)
def QW := fun a b c d => (⟨a, false, [], ⟨some b, .bin .mul (.tmp c) (.tmp d), none⟩⟩ : DItem)
def QX := fun a b c d => (⟨a, false, [], ⟨some b, .bin .sub (.tmp c) (.const (.int .i64 d)), none⟩⟩ : DItem)
def QY := fun a b => (⟨some a, .call (.const (.func b [] [])) [], none⟩ : AOper)
def QZ := fun a b c => (⟨some a, .bin .shr (.tmp b) (.const (.int .u64 c)), none⟩ : AOper)
def Q0 := fun a b c => (⟨some a, .build [.nilslice, .nilslice] [(0, (1, .tmp b)), (1, (1, .tmp c))], none⟩ : AOper)
def Q1 := fun a b c => (⟨some a, .bin .add (.tmp b) (.tmp c), none⟩ : AOper)
def Q2 := fun a b => (⟨some a, .un .not (.tmp b), none⟩ : AOper)
def Q3 := fun a b c d => (⟨some a, .call (.const (.func b [] [])) [.tmp c, .const (.int .i64 d)], none⟩ : AOper)
def Q4 := fun a b c d => (⟨a, false, [], ⟨some b, .mv (.tmp c), some (d, false)⟩⟩ : DItem)
def Q5 := fun a b c d e => (⟨a, false, [], ⟨some b, .call (.const (.func c [] [])) [.tmp d, .tmp e], none⟩⟩ : DItem)
def Q6 := fun a b c d e f => (⟨a, false, [b], ⟨some c, .call (.const (.func d [] [])) [.tmp e, .tmp f], none⟩⟩ : DItem)
def Q7 := fun a => (⟨some a, .alloc [.int .i64 0, .int .i64 0, .int .i64 0, .int .i64 0, .int .i64 0, .int .i64 0, .int .i64 0, .int .i64 0, .int .i64 0, .int .i64 0, .int .i64 0, .int .i64 0, .int .i64 0, .int .i64 0, .int .i64 0, .int .i64 0, .int .i64 0], none⟩ : AOper)
def Q8 := fun a b c d => (⟨a, false, [], ⟨some b, .bin .shr (.tmp c) (.const (.int .u64 d)), none⟩⟩ : DItem)
def Q9 := fun a => (⟨some a, .build [.int .i64 0, .int .i64 0, .int .i64 0, .int .u32 0, .int .u32 0, .int .i64 0, .int .i64 0, .nilslice, .int .i64 0, .int .i64 0, .int .i64 0, .int .i64 0, .int .i64 0, .int .i64 0, .int .i64 0, .nilslice, .nilslice] [], none⟩ : AOper)
def Wa := fun a b c d => (⟨some a, .bin .eql (.tmp b) (.const (.int .i64 c)), some (d, true)⟩ : AOper)
def Wb := fun a b c d e => (⟨some a, .call (.const (.func b [] [])) [.tmp c, .tmp d, .const (.int .i64 e)], none⟩ : AOper)
def Wc := fun a b c d e => (⟨some a, .call (.tmp b) [.tmp c, .const (.int .i64 d), .const (.int .i64 e)], none⟩ : AOper)
def Wd := fun a b c => (⟨a, false, [], ⟨some b, .bin .rem (.tmp c) (.const (.int .i64 16)), none⟩⟩ : DItem)
def We := fun a b c => (⟨some a, .bin .geq (.tmp b) (.const (.int .i64 c)), none⟩ : AOper)
def Wf := fun a => (⟨some a, .build [.int .i64 0, .int .u32 0, .int .u32 0] [], none⟩ : AOper)
def Wg := fun a b c d => (⟨a, false, [], ⟨some b, .bin .sub (.tmp c) (.tmp d), none⟩⟩ : DItem)
def Wh := fun a b c d => (⟨a, false, [], ⟨some b, .build [.int .i64 0, .int .i64 0] [(0, (1, .tmp c)), (1, (1, .tmp d))], none⟩⟩ : DItem)
def Wi := fun a b => (⟨some a, .conv .u32 (.tmp b), none⟩ : AOper)
def Wj := fun a b c => (⟨some a, .bin .gtr (.tmp b) (.tmp c), none⟩ : AOper)
def Wk := fun a b c d => (⟨some a, .bin .lss (.tmp b) (.const (.int .i64 c)), some (d, false)⟩ : AOper)
def Wl := fun a b c d => (⟨some a, .bin .neq (.tmp b) (.const (.int .i64 c)), some (d, true)⟩ : AOper)
def Wm := fun a b c d e f => (⟨a, false, [], ⟨some b, .indexAddr c (.tmp d) (.tmp e), some (f, false)⟩⟩ : DItem)
def Wn := fun a b => (⟨some a, .conv .u64 (.tmp b), none⟩ : AOper)
def Wo := fun a b c => (⟨some a, .bin .and (.tmp b) (.const (.int .i64 c)), none⟩ : AOper)
def Wp := fun a b => (⟨some a, .makeSlice [.int .i64 0, .int .i64 0] 16 (.tmp b) (.tmp b), none⟩ : AOper)
def Wq := fun a b c => (⟨some a, .bin .sub (.tmp b) (.tmp c), none⟩ : AOper)
def Wr := fun a b c => (⟨a, false, [], ⟨some b, .bin .and (.tmp c) (.const (.int .u32 255)), none⟩⟩ : DItem)
def Ws := fun a b c => (⟨a, false, [], ⟨some b, .bin .shl (.const (.int .i64 1)) (.tmp c), none⟩⟩ : DItem)
def Wt := fun a => (⟨some a, .alloc [.int .i64 0, .int .i64 0, .int .i64 0, .int .u32 0, .int .u32 0, .int .i64 0, .int .i64 0, .nilslice], none⟩ : AOper)
def Wu := fun a b c d => (⟨some a, .bin .gtr (.tmp b) (.tmp c), some (d, false)⟩ : AOper)
def Wv := fun a => (⟨some a, .alloc [.int .i64 0, .int .u32 0, .int .u32 0], none⟩ : AOper)
def Ww := fun a b => (⟨some a, .bin .and (.tmp b) (.const (.int .u64 4294967295)), none⟩ : AOper)
def Wx := fun a b c d => (⟨a, false, [], ⟨some b, .bin .sub (.const (.int .i64 c)) (.tmp d), none⟩⟩ : DItem)
def Wy := fun a => (⟨some a, .mv (.const (.int .u64 0)), none⟩ : AOper)
def Wz := fun a => (⟨some a, .mv (.const (.int .u32 0)), none⟩ : AOper)
def WA := fun a b c => (⟨some a, .bin .add (.tmp b) (.const (.int .i64 2)), some (c, false)⟩ : AOper)
def WB := fun a b c d => (⟨a, false, [], ⟨some b, .extract (.tmp c) d, none⟩⟩ : DItem)
def WC := fun a b c d e f => (⟨some a, .call (.const (.func b [] [])) [.tmp c, .tmp d, .tmp e, .tmp f], none⟩ : AOper)
def WD := fun a b => (⟨some a, .makeSlice [.int .i64 0] 8 (.tmp b) (.tmp b), none⟩ : AOper)
def WE := fun a b c d e => (⟨a, false, [b], ⟨some c, .call (.const (.func d [] [])) [.tmp e], none⟩⟩ : DItem)
def WF := fun a b c d e => (⟨a, false, [], ⟨some b, .bin .gtr (.tmp c) (.tmp d), some (e, false)⟩⟩ : DItem)
def WG := fun a b c => (⟨some a, .bin .eql (.tmp b) (.tmp c), none⟩ : AOper)
def WH := fun a b c => (⟨some a, .bin .mul (.const (.int .i64 b)) (.tmp c), none⟩ : AOper)
def WI := fun a b c d => (⟨some a, .slice b (.tmp c) none (some (.tmp d)) none, none⟩ : AOper)
def WJ := fun a b c d => (⟨a, false, [], ⟨some b, .bin .rem (.tmp c) (.tmp d), none⟩⟩ : DItem)
def WK := fun a b c d => (⟨a, false, [], ⟨some b, .bin .lss (.tmp c) (.tmp d), none⟩⟩ : DItem)
def WL := fun a b c d => (⟨a, false, [], ⟨some b, .bin .quo (.tmp c) (.tmp d), none⟩⟩ : DItem)
def zWM := fun a b c d => (⟨a, false, [], ⟨some b, .bin .or (.tmp c) (.tmp d), none⟩⟩ : DItem)
def WN : AOper := ⟨some 16, .call (.tmp 11) [.tmp 15], none⟩
def WO := fun a b => (⟨some a, .conv .i64 (.tmp b), none⟩ : AOper)
def WP := fun a b c d e => (⟨some a, .append b c (.tmp d) (.tmp e), none⟩ : AOper)
def WQ := fun a b => (⟨some a, .un .neg (.tmp b), none⟩ : AOper)
def WR := fun a b c d => (⟨a, false, [], ⟨some b, .min [.tmp c, .tmp d], none⟩⟩ : DItem)
def WS : AOper := ⟨none, .refuse "", none⟩
def WT := fun a b c => (⟨some a, .bin .leq (.tmp b) (.tmp c), none⟩ : AOper)
def WU := fun a b c => (⟨some a, .bin .quo (.tmp b) (.tmp c), none⟩ : AOper)
def WV := fun a b c d e => (⟨a, false, [], ⟨some b, .bin .lss (.tmp c) (.const (.int .i64 d)), some (e, false)⟩⟩ : DItem)
def zWW := fun a b c => (⟨some a, .len (.tmp b), some (c, false)⟩ : AOper)
def WX := fun a b c d => (⟨a, false, [b, c], ⟨some 11, .call (.const (.func d [] [])) [.tmp 10], none⟩⟩ : DItem)
def WY := fun a b => (⟨some a, .buildSlice 1 [.int .i64 0] [(0, (1, .tmp b))], none⟩ : AOper)
def WZ := fun a b c d => (⟨a, false, [], ⟨some b, .bin .add (.tmp c) (.const (.int .i64 d)), none⟩⟩ : DItem)
def zq := fun a b => ACode.seq (.region a) b
def zk := fun c a b => ACode.cond (.tmp c) a b
def zj := fun c a => ACode.cond (.tmp c) a .skip
def zY := PLift.up <| zI Qa.eq_1 <| zI Qb.eq_1 <| zI Qc.eq_1 <| zI Qd.eq_1 <| zI Qe.eq_1 <| zI Qf.eq_1 <| zI Qg.eq_1 <| zI Qh.eq_1 <| zI Qi.eq_1 <| zI Qj.eq_1 <| zI Qk.eq_1 <| zI Ql.eq_1 <| zI Qm.eq_1 <| zI Qn.eq_1 <| zI Qo.eq_1 <| zI Qp.eq_1 <| zI Qq.eq_1 <| zI Qr.eq_1 <| zI Qs.eq_1 <| zI Qt.eq_1 <| zI Qu.eq_1 <| zI Qv.eq_1 <| zI Qw.eq_1 <| zI Qx.eq_1 <| zI Qy.eq_1 <| zI Qz.eq_1 <| zI QA.eq_1 <| zI QB.eq_1 <| zI QC.eq_1 <| zI QD.eq_1 <| zI QE.eq_1 <| zI QF.eq_1 <| zI QG.eq_1 <| zI QH.eq_1 <| zI QI.eq_1 <| zI QJ.eq_1 <| zI QK.eq_1 <| zI QL.eq_1 <| zI QM.eq_1 <| zI QN.eq_1 <| zI QO.eq_1 <| zI QP.eq_1 <| zI QQ.eq_1 <| zI QR.eq_1 <| zI QS.eq_1 <| zI QT.eq_1 <| zI QU.eq_1 <| zI QV.eq_1 <| zI QW.eq_1 <| zI QX.eq_1 <| zI QY.eq_1 <| zI QZ.eq_1 <| zI Q0.eq_1 <| zI Q1.eq_1 <| zI Q2.eq_1 <| zI Q3.eq_1 <| zI Q4.eq_1 <| zI Q5.eq_1 <| zI Q6.eq_1 <| zI Q7.eq_1 <| zI Q8.eq_1 <| zI Q9.eq_1 <| zI Wa.eq_1 <| zI Wb.eq_1 <| zI Wc.eq_1 <| zI Wd.eq_1 <| zI We.eq_1 <| zI Wf.eq_1 <| zI Wg.eq_1 <| zI Wh.eq_1 <| zI Wi.eq_1 <| zI Wj.eq_1 <| zI Wk.eq_1 <| zI Wl.eq_1 <| zI Wm.eq_1 <| zI Wn.eq_1 <| zI Wo.eq_1 <| zI Wp.eq_1 <| zI Wq.eq_1 <| zI Wr.eq_1 <| zI Ws.eq_1 <| zI Wt.eq_1 <| zI Wu.eq_1 <| zI Wv.eq_1 <| zI Ww.eq_1 <| zI Wx.eq_1 <| zI Wy.eq_1 <| zI Wz.eq_1 <| zI WA.eq_1 <| zI WB.eq_1 <| zI WC.eq_1 <| zI WD.eq_1 <| zI WE.eq_1 <| zI WF.eq_1 <| zI WG.eq_1 <| zI WH.eq_1 <| zI WI.eq_1 <| zI WJ.eq_1 <| zI WK.eq_1 <| zI WL.eq_1 <| zI zWM.eq_1 <| zI WN.eq_1 <| zI WO.eq_1 <| zI WP.eq_1 <| zI WQ.eq_1 <| zI WR.eq_1 <| zI WS.eq_1 <| zI WT.eq_1 <| zI WU.eq_1 <| zI WV.eq_1 <| zI zWW.eq_1 <| zI WX.eq_1 <| zI WY.eq_1 <| zI WZ.eq_1 <| zI zq.eq_1 <| zI zk.eq_1 <| zj.eq_1
theorem zB : type_of% zY.1 := zY.1
def B37 : ABody := .mk 2 9 [.tmp 4] (zq [QN 4] (zq [Qa 5 0, Qa 6 1, Qk 7 50 5 6, We 8 7 0, Qa 4 8] .ret))
def B50 : ABody := .mk 2 19 [.tmp 4] (zq [Qb 4 0] (.seq (zq [Qa 6 0, Qx 7 6, Qb 8 0] (.block 0 (.loop (zq [Qv 9 8 7] (.seq (zk 9 .skip (.exit 0)) (.seq (.block 1 (zq [Qa 10 8, Qa 5 10] (zq [Qa 11 1, Qa 12 0, Qa 13 5, QC 14 1 12 13, Qd 15 14, WN] (zj 16 (zq [Qa 17 5, Qa 4 17] .ret))))) (.region [Qj 18 8 1, Qa 8 18]))))))) (zq [Qb 4 (-1)] .ret)))
def B70 : ABody := .mk 1 11 [.tmp 2, .tmp 3] (zq [Qb 2 0, Qb 3 0] (.seq (zq [⟨some 4, .buildSlice 5 [.int .i64 0, .int .i64 0, .int .i64 0, .int .i64 0, .int .i64 0] [(0, (1, .const (.int .i64 5))), (1, (1, .const (.int .i64 6))), (2, (1, .const (.int .i64 7))), (3, (1, .const (.int .i64 9))), (4, (1, .const (.int .i64 10)))], none⟩, Qa 5 0, Qk 6 89 4 5, Q2 7 6] (zj 7 (zq [Qb 2 0, Qb 3 2] .ret))) (zq [Qa 8 0, ⟨some 9, .bin .shl (.const (.int .i64 1)) (.tmp 8), none⟩, QV 10 9 1, Qa 2 10, Qb 3 0] .ret)))
def B71 : ABody := .mk 1 14 [.tmp 2, .tmp 3] (zq [Qb 2 0, Qb 3 0] (.seq (zq [Qa 4 0] (.block 0 (.seq (zq [Qt 6 4 5, Qa 5 6] (zk 5 .skip (zq [Qt 7 4 6, Qa 5 7] (zk 5 .skip (zq [Qt 8 4 7, Qa 5 8] (zk 5 .skip (zq [Qt 9 4 9, Qa 5 9] (zk 5 .skip (.region [Qt 10 4 10, Qa 5 10]))))))))) (zj 5 (zq [Qa 11 0, ⟨some 12, .bin .shl (.const (.int .i64 1)) (.tmp 11), none⟩, QV 13 12 1, Qa 2 13, Qb 3 0] .ret))))) (zq [Qb 2 0, Qb 3 2] .ret)))
def B72 : ABody := .mk 2 60 [.tmp 4, .tmp 5] (zq [Qo 4, Qb 5 0] (.seq (zq [Qa 12 0, QA 13 70 12, Qa 11 13, Ql 14 11 0, Ql 15 11 1, Qa 6 14, Qa 7 15] (zq [Qa 16 7, Qu 17 16 0] (zj 17 (zq [Qa 18 7, Qo 4, Qa 5 18] .ret)))) (.seq (zq [Qa 19 1, QB 20 19 1, Qa 21 20, QJ 22 1 21, QF 23 22 2 21, Qp 24 21 23] (zj 24 (zq [Qo 4, Qb 5 2] .ret))) (zq [Qq 25 0 2, Qi 26 2 3 4, Q0 27 25 26, QT 28 5 27, Qq 29 0 1, Qi 30 1 2 5, Q0 31 29 30, QT 32 6 31, Qq 33 0 3, Qi 34 1 2 3, Q0 35 33 34, QT 36 7 35, Qq 37 0 4, Qi 38 3 4 6, Q0 39 37 38, QT 40 9 39, Qq 41 0 3, Qi 42 2 3 8, Q0 43 41 42, QT 44 10 43, ⟨some 45, .build [.int .i64 0, .nilslice, .nilslice, .int .i64 0, .nilslice, .nilslice, .int .i64 0, .nilslice, .nilslice, .int .i64 0, .nilslice, .nilslice, .int .i64 0, .nilslice, .nilslice] [(0, (3, .tmp 28)), (3, (3, .tmp 32)), (6, (3, .tmp 36)), (9, (3, .tmp 40)), (12, (3, .tmp 44))], none⟩, ⟨some 8, .alloc [.int .i64 0, .nilslice, .nilslice, .int .i64 0, .nilslice, .nilslice, .int .i64 0, .nilslice, .nilslice, .int .i64 0, .nilslice, .nilslice, .int .i64 0, .nilslice, .nilslice], none⟩, Qn 15 8 45] (.seq (zq [Qm 46 15 8, Qb 47 0] (.block 0 (.loop (zq [QB 48 47 5] (.seq (zk 48 .skip (.exit 0)) (.seq (.block 1 (zq [⟨some 49, .index true 3 5 (.tmp 46) (.tmp 47), none⟩, ⟨some 10, .alloc [.int .i64 0, .nilslice, .nilslice], none⟩, Qn 3 10 49] (zq [Qf 50 0 10, Qd 51 50, Qa 52 0, WG 53 51 52] (zj 53 (zq [Qa 54 1, QV 55 54 1, Qf 56 1 10, ⟨some 57, .indexArr 1 2 (.tmp 56) (.tmp 55), none⟩, Qd 58 57, Qa 4 58, Qb 5 0] .ret))))) (.region [Qj 59 47 1, Qa 47 59]))))))) (zq [Qo 4, Qb 5 2] .ret))))))
def B73 : ABody := .mk 2 54 [.tmp 4, .tmp 5] (zq [Qo 4, Qb 5 0] (.seq (zq [Qa 9 0, QA 10 71 9, Qa 8 10, Ql 11 8 0, Ql 12 8 1, Qa 6 11, Qa 7 12] (zq [Qa 13 7, Qu 14 13 0] (zj 14 (zq [Qa 15 7, Qo 4, Qa 5 15] .ret)))) (.seq (zq [Qa 16 1, Qu 17 16 1, Qa 18 17, QS 19 1 18, Wl 20 19 2 18, QE 21 18 20] (zj 21 (zq [Qo 4, Qb 5 2] .ret))) (.seq (zq [Qa 22 0, WH 23 10 22, Qa 24 1, Q1 25 23 24] (.block 0 (zq [Qt 27 25 51, Qa 26 27] (zk 26 (zq [Qq 28 0 2, Qa 4 28, Qb 5 0] .ret) (zq [Qt 30 25 52, Qa 29 30] (zk 29 (zq [Qi 31 2 3 4, Qa 4 31, Qb 5 0] .ret) (zq [Qt 33 25 61, Qa 32 33] (zk 32 (zq [Qq 34 0 1, Qa 4 34, Qb 5 0] .ret) (zq [Qt 36 25 62, Qa 35 36] (zk 35 (zq [Qi 37 1 2 5, Qa 4 37, Qb 5 0] .ret) (zq [Qt 39 25 71, Qa 38 39] (zk 38 (zq [Qq 40 0 3, Qa 4 40, Qb 5 0] .ret) (zq [Qt 42 25 72, Qa 41 42] (zk 41 (zq [Qi 43 1 2 3, Qa 4 43, Qb 5 0] .ret) (zq [Qt 45 25 91, Qa 44 45] (zk 44 (zq [Qq 46 0 4, Qa 4 46, Qb 5 0] .ret) (zq [Qt 48 25 92, Qa 47 48] (zk 47 (zq [Qi 49 3 4 6, Qa 4 49, Qb 5 0] .ret) (zq [Qt 51 25 101, Qa 50 51] (zj 50 (zq [Qq 52 0 3, Qa 4 52, Qb 5 0] .ret))))))))))))))))))))) (zq [Qi 53 2 3 8, Qa 4 53, Qb 5 0] .ret)))))
def B74 : ABody := .mk 2 28 [.tmp 4, .tmp 5] (zq [Qo 4, Qb 5 0] (zq [Qa 9 0, Qa 10 1, Qk 11 72 9 10, Qa 8 11, Ql 12 8 0, Ql 13 8 1, Qa 6 12, Qa 7 13] (.seq (zq [Qa 14 7, Qu 15 14 0] (zj 15 (zq [Qa 16 7, Qo 4, Qa 5 16] .ret))) (.seq (.draw 13 [Qc 0 17 0, Qc 1 18 6, Qc 3 20 0, Qc 5 22 0, Ws 6 23 22, QX 7 24 23 1, ⟨2, false, [], ⟨some 19, .buildSlice 1 [.int .i64 0] [(0, (1, .const (.int .i64 1)))], none⟩⟩, Q5 4 21 90 19 20, ⟨8, false, [], ⟨some 25, .call (.const (.func 81 [] [])) [.tmp 17, .tmp 18, .tmp 21, .tmp 24], none⟩⟩, WB 9 26 25 0, WB 10 27 25 1, Qc 11 4 26, Qc 12 5 27]) .ret))))
def B75 : ABody := .mk 2 43 [.tmp 4, .tmp 5] (zq [Qo 4, Qb 5 0] (zq [Qa 13 0, Qa 14 1, Qk 15 73 13 14, Qa 12 15, Ql 16 12 0, Ql 17 12 1, Qa 6 16, Qa 7 17] (.seq (zq [Qa 18 7, Qu 19 18 0] (zj 19 (zq [Qa 20 7, Qo 4, Qa 5 20] .ret))) (zq [Qa 22 0, QA 23 71 22, Qa 21 23, Ql 24 21 0, Ql 25 21 1, Qa 8 24, Qa 9 25] (zq [Qa 26 0, WD 27 26, Qa 10 27] (.seq (zq [Qb 11 0] (.block 0 (.loop (.seq (zq [Qa 28 11, Qa 29 0, Qv 30 28 29] (zk 30 .skip (.exit 0))) (.seq (.block 1 (.region [Qa 33 10, Qa 34 11, QC 35 1 33 34, ⟨none, .store 1 (.tmp 35) (.const (.int .i64 1)), none⟩])) (.region [Qa 31 11, Qj 32 31 1, Qa 11 32])))))) (zq [Qa 36 0, Qa 37 6, Qa 38 10, Qa 39 8, WC 40 91 36 37 38 39, Qa 41 8, WI 42 1 40 41, Qa 4 42, Qb 5 0] .ret)))))))
def B76 : ABody := .mk 2 83 [.tmp 4, .tmp 5] (zq [Qo 4, Qb 5 0] (zq [Qa 16 0, QA 17 70 16, Qa 15 17, Ql 18 15 0, Ql 19 15 1, Qa 6 18, Qa 7 19] (.seq (zq [Qa 20 7, Qu 21 20 0] (zj 21 (zq [Qa 22 7, Qo 4, Qa 5 22] .ret))) (.seq (zq [Qa 23 1, QB 24 23 1, Qa 25 24, QJ 26 1 25, QJ 27 6 25, WA 28 27 25, Wu 29 26 28 25, Qp 30 25 29] (zj 30 (zq [Qo 4, Qb 5 2] .ret))) (zq [Qa 32 0, Q3 33 74 32 1, Qa 31 33, Ql 34 31 0, Ql 35 31 1, Qa 8 34, Qa 9 35] (zq [Qa 37 0, Q3 38 74 37 2, Qa 36 38, Ql 39 36 0, Ql 40 36 1, Qa 10 39, Qa 11 40] (.seq (zq [Qa 41 1] (.block 0 (zq [Qt 64 41 1, Qa 63 64] (zk 63 .skip (zq [Qt 66 41 2, Qa 65 66] (zk 65 (.region [Qa 67 10, Qa 8 67]) (zq [Qa 42 8, Qx 43 42, Qb 44 0] (.block 1 (.loop (zq [Qv 45 44 43] (.seq (zk 45 .skip (.exit 1)) (.seq (.block 2 (zq [Qa 46 44, Qa 12 46] (.draw 0 [Qc 0 47 8, Qc 1 48 12, Qr 2 49 1 47 48, Qc 4 51 10, Qc 5 52 12, Qc 6 53 1, QI 7 54 52 53, QX 8 55 54 3, Qc 9 56 6, WJ 10 57 55 56, Qr 11 58 1 51 57, Qh 3 50 49, Qh 12 59 58, ⟨13, false, [], ⟨some 60, .bin .xor (.tmp 50) (.tmp 59), none⟩⟩, Qr 14 61 1 47 48, QR 15 1 61 60]))) (.region [Qj 62 44 1, Qa 44 62]))))))))))))) (.seq (zq [Qa 68 8, Qx 69 68, Qb 70 0] (.block 3 (.loop (zq [Qv 71 70 69] (.seq (zk 71 .skip (.exit 3)) (.seq (.block 4 (zq [Qa 72 70, QC 73 1 68 70, Qd 74 73, Qa 13 72, Qa 14 74] (.region [Qa 75 8, Qa 76 13, Qa 77 14, WH 78 2 77, ⟨some 79, .bin .sub (.const (.int .i64 1)) (.tmp 78), none⟩, QC 80 1 75 76, Qn 1 80 79]))) (.region [Qj 81 70 1, Qa 70 81]))))))) (zq [Qa 82 8, Qa 4 82, Qb 5 0] .ret)))))))))
def B77 : ABody := .mk 2 80 [.tmp 4, .tmp 5] (zq [Qo 4, Qb 5 0] (zq [Qa 16 0, QA 17 71 16, Qa 15 17, Ql 18 15 0, Ql 19 15 1, Qa 6 18, Qa 7 19] (.seq (zq [Qa 20 7, Qu 21 20 0] (zj 21 (zq [Qa 22 7, Qo 4, Qa 5 22] .ret))) (.seq (zq [Qa 23 1, QB 24 23 1, Qa 25 24, QJ 26 1 25, QJ 27 6 25, WA 28 27 25, Wu 29 26 28 25, Qp 30 25 29] (zj 30 (zq [Qo 4, Qb 5 2] .ret))) (zq [Qa 32 0, Q3 33 75 32 1, Qa 31 33, Ql 34 31 0, Ql 35 31 1, Qa 8 34, Qa 9 35] (zq [Qa 37 0, Q3 38 75 37 2, Qa 36 38, Ql 39 36 0, Ql 40 36 1, Qa 10 39, Qa 11 40] (zq [Qa 41 6, WD 42 41, Qa 12 42] (.seq (zq [Qb 13 0] (.block 0 (.loop (.seq (zq [Qa 43 13, Qa 44 6, Qv 45 43 44] (zk 45 .skip (.exit 0))) (.seq (.block 1 (zq [Qb 14 0] (.seq (zq [Qa 48 1, Qu 49 48 2] (zj 49 (.region [Qa 50 8, Qa 51 13, QC 52 1 50 51, Qd 53 52, Qa 14 53]))) (.seq (zq [Qa 54 1, Qt 55 54 2] (zj 55 (.region [Qa 56 10, Qa 57 13, QC 58 1 56 57, Qd 59 58, Qa 14 59]))) (.seq (zq [Qa 60 1, QM 61 60 2] (zj 61 (.region [Qa 62 14, Qa 63 10, Qa 64 13, Qa 65 1, Q1 66 64 65, QV 67 66 3, Qa 68 6, ⟨some 69, .bin .rem (.tmp 67) (.tmp 68), none⟩, QC 70 1 63 69, Qd 71 70, ⟨some 72, .bin .xor (.tmp 62) (.tmp 71), none⟩, Qa 14 72]))) (.region [Qa 73 12, Qa 74 13, Qa 75 14, WH 76 2 75, ⟨some 77, .bin .sub (.const (.int .i64 1)) (.tmp 76), none⟩, QC 78 1 73 74, Qn 1 78 77])))))) (.region [Qa 46 13, Qj 47 46 1, Qa 13 47])))))) (zq [Qa 79 12, Qa 4 79, Qb 5 0] .ret)))))))))
def B81 : ABody := .mk 4 31 [.tmp 8, .tmp 9] (zq [Qo 8, Qb 9 0] (zq [Qa 13 0, Qa 14 1, Qa 15 2, QO 16 92 13 14 15, Qa 12 16, Ql 17 12 0, Ql 18 12 1, Wv 10, Qn 3 10 17, Qa 11 18] (.seq (zq [Qa 19 11, Qu 20 19 0] (zj 20 (zq [Qa 21 11, Qo 8, Qa 9 21] .ret))) (.seq (zq [Qa 22 3, QB 23 22 0, Qa 24 23, QJ 25 3 24, QF 26 25 100000 24, Qp 27 24 26] (zj 27 (zq [Qo 8, Qb 9 4] .ret))) (zq [Qm 28 3 10, Qa 29 3, Qk 30 93 28 29, Qa 8 30, Qb 9 0] .ret)))))
def B89 : ABody := .mk 2 9 [.tmp 4] (zq [QN 4] (zq [Qa 5 0, Qa 6 1, Qk 7 99 5 6, We 8 7 0, Qa 4 8] .ret))
def B90 : ABody := .mk 2 48 [.tmp 4] (zq [Qo 4] (.seq (zq [Qa 9 1, QB 10 9 0] (zj 10 (.region [WS, WS]))) (zq [Qa 13 0, Qx 14 13, Wn 15 14, Qa 16 1, Wn 17 16, Qk 18 100 15 17, Qa 12 18, Ql 19 12 0, Ql 20 12 1, Qa 5 19, Qa 6 20] (.seq (zq [Qa 21 5, ⟨some 22, .bin .gtr (.tmp 21) (.const (.int .u64 0)), none⟩, Qa 23 22, QJ 24 6 23, ⟨some 25, .bin .gtr (.tmp 24) (.const (.int .u64 9223372036854775807)), some (23, false)⟩, Qp 26 23 25] (zj 26 (.region [WS, WS]))) (zq [Qa 28 6, WO 29 28, WD 30 29, Qa 7 30] (zq [Qa 31 7, Qa 32 0, ⟨some 33, .copy 1 (.tmp 31) (.tmp 32), none⟩, Qa 8 33] (.seq (.block 0 (.loop (.seq (zq [Qa 34 8, Qa 35 7, Qx 36 35, Qv 37 34 36] (zk 37 .skip (.exit 0))) (.block 1 (.draw 10 [Qc 0 38 8, Qc 1 39 7, Qc 2 40 8, Qc 4 42 7, Qc 5 43 8, ⟨3, false, [], ⟨some 41, .slice 1 (.tmp 39) (some (.tmp 40)) none none, none⟩⟩, ⟨6, false, [], ⟨some 44, .slice 1 (.tmp 42) none (some (.tmp 43)) none, none⟩⟩, ⟨7, false, [], ⟨some 45, .copy 1 (.tmp 41) (.tmp 44), none⟩⟩, QI 8 46 38 45, Qc 9 8 46]))))) (zq [Qa 47 7, Qa 4 47] .ret))))))))
def B91 : ABody := .mk 4 44 [.tmp 8] (zq [Qo 8] (zq [⟨some 13, .buildSlice 0 [] [], none⟩, Qa 14 2, WP 15 1 8 13 14, Qa 9 15] (.seq (zq [Qb 10 0] (.block 0 (.loop (.seq (zq [Qa 16 9, Qx 17 16, Qa 18 3, Qv 19 17 18] (zk 19 .skip (.exit 0))) (.seq (.block 1 (zq [Qb 11 0] (.seq (zq [Qb 12 0] (.block 2 (.loop (.seq (zq [Qa 22 12, Qa 23 1, Qx 24 23, Qv 25 22 24] (zk 25 .skip (.exit 2))) (.seq (.block 3 (.region [Qa 28 11, Qa 29 9, Qa 30 10, Qa 31 1, Qa 32 12, QC 33 1 31 32, Qd 34 33, Q1 35 30 34, QC 36 1 29 35, Qd 37 36, ⟨some 38, .bin .xor (.tmp 28) (.tmp 37), none⟩, Qa 11 38])) (.region [Qa 26 12, Qj 27 26 1, Qa 12 27])))))) (.region [Qa 39 9, Qa 40 11, WY 41 40, WP 42 1 8 39 41, Qa 9 42])))) (.region [Qa 20 10, Qj 21 20 1, Qa 10 21])))))) (zq [Qa 43 9, Qa 8 43] .ret))))
def B92 : ABody := .mk 3 86 [.cell 6 true 3, .tmp 7] (zq [Wv 6, Qb 7 0] (.seq (zq [Qa 14 0, QB 15 14 2, Qa 16 15, QJ 17 0 16, QF 18 17 16 16, Qp 19 16 18] (zj 19 (zq [Wf 20, Qn 3 6 20, Qb 7 2] .ret))) (.seq (zq [Qa 21 1, Qx 22 21, Qt 23 22 0, Qa 24 23, QJ 25 1 24, ⟨some 26, .indexAddr 1 (.tmp 25) (.const (.int .i64 0)), some (24, false)⟩, QH 27 26 24, ⟨some 28, .bin .neq (.tmp 27) (.const (.int .i64 0)), some (24, false)⟩, Qp 29 24 28, Qa 30 29, QJ 31 2 30, zWW 32 31 30, QJ 33 0 30, ⟨some 34, .bin .neq (.tmp 32) (.tmp 33), some (30, false)⟩, Qp 35 30 34] (zj 35 (zq [Wf 36, Qn 3 6 36, Qb 7 3] .ret))) (zq [Qa 37 0, ⟨some 38, .build [.int .i64 0, .int .u32 0, .int .u32 0] [(0, (1, .tmp 37))], none⟩, Wv 8, Qn 3 8 38] (zq [Qb 9 (-1)] (.seq (zq [Qa 39 1, Qx 40 39, Qb 41 0] (.block 0 (.loop (zq [Qv 42 41 40] (.seq (zk 42 .skip (.exit 0)) (.seq (.block 1 (zq [QC 43 1 39 41, Qd 44 43, Qa 11 44] (.seq (zq [Qa 45 11, Qa 46 9, WT 47 45 46, Qa 48 47, QJ 49 11 48, QJ 50 0 48, ⟨some 51, .bin .geq (.tmp 49) (.tmp 50), some (48, false)⟩, Qp 52 48 51] (zj 52 (zq [Wf 53, Qn 3 6 53, Qb 7 3] .ret))) (zq [Qa 54 11, Qa 9 54] (.draw 0 [Qg 0 55 2 8, Qc 2 57 11, ⟨3, false, [], ⟨some 58, .bin .shl (.const (.int .u32 1)) (.tmp 57), none⟩⟩, Qh 1 56 55, zWM 4 59 56 58, Qg 5 60 2 8, QR 6 1 60 59]))))) (.region [Qj 61 41 1, Qa 41 61]))))))) (.seq (zq [Qa 62 2, Qx 63 62, Qb 64 0] (.block 2 (.loop (zq [Qv 65 64 63] (.seq (zk 65 .skip (.exit 2)) (.seq (.block 3 (zq [Qa 66 64, QC 67 1 62 64, Qd 68 67, Qa 12 66, Qa 13 68] (.seq (zq [Qa 69 13, Qu 70 69 0, Qa 71 70, QS 72 13 71, Wl 73 72 1 71, QE 74 71 73] (zj 74 (zq [Wf 75, Qn 3 6 75, Qb 7 3] .ret))) (.draw 0 [Qg 0 76 1 8, Qc 2 78 13, ⟨3, false, [], ⟨some 79, .conv .u32 (.tmp 78), none⟩⟩, Qc 4 80 12, ⟨5, false, [], ⟨some 81, .bin .shl (.tmp 79) (.tmp 80), none⟩⟩, Qh 1 77 76, zWM 6 82 77 81, Qg 7 83 1 8, QR 8 1 83 82])))) (.region [Qj 84 64 1, Qa 64 84]))))))) (zq [Qm 85 3 8, Qn 3 6 85, Qb 7 0] .ret))))))))
def B93 : ABody := .mk 2 22 [.tmp 4] (zq [Qw 2 0, Qw 3 1, Qo 4] (zq [Qd 7 3, ⟨some 8, .makeSlice [.int .i64 0] 8 (.const (.int .i64 0)) (.tmp 7), none⟩, ⟨some 5, .alloc [.nilslice], none⟩, Qn 1 5 8] (.seq (zq [Qm 9 3 2, QA 10 95 9] (.block 0 (.rangeFunc (.tmp 10) [11, 12] (.region [Qa 6 11]) (.block 1 (.seq (zq [Qd 13 5, Qx 14 13, Qd 15 3, WG 16 14 15] (zj 16 (.exit 0))) (.region [Qd 17 5, Qa 18 6, WY 19 18, WP 20 1 8 17 19, Qn 1 5 20])))))) (zq [Qd 21 5, Qa 4 21] .ret))))
def B95 : ABody := .mk 1 4 [.tmp 2] (zq [Qw 1 0, ⟨some 2, .mv (.const .nilfunc), none⟩] (zq [⟨some 3, .mkfunc 101 [] [.tmp 1], none⟩, Qa 2 3] .ret))
def B99 : ABody := .mk 2 19 [.tmp 4] (zq [Qb 4 0] (.seq (zq [Qa 6 0, Qx 7 6, Qb 8 0] (.block 0 (.loop (zq [Qv 9 8 7] (.seq (zk 9 .skip (.exit 0)) (.seq (.block 1 (zq [Qa 10 8, Qa 5 10] (zq [Qa 11 1, Qa 12 0, Qa 13 5, QC 14 1 12 13, Qd 15 14, WG 16 11 15] (zj 16 (zq [Qa 17 5, Qa 4 17] .ret))))) (.region [Qj 18 8 1, Qa 8 18]))))))) (zq [Qb 4 (-1)] .ret)))
def B100 : ABody := .mk 2 30 [.tmp 4, .tmp 5] (zq [Wy 4, Wy 5] (.seq (.cond (.const (.bool false)) (zq [Qa 11 0, Wi 12 11, Qa 13 1, Wi 14 13, Qk 15 104 12 14, Qa 10 15, Ql 16 10 0, Ql 17 10 1, Qa 6 16, Qa 7 17] (zq [Qa 18 6, Wn 19 18, Qa 20 7, Wn 21 20, Qa 4 19, Qa 5 21] .ret)) .skip) (zq [Qa 23 0, Qa 24 1, Qk 25 105 23 24, Qa 22 25, Ql 26 22 0, Ql 27 22 1, Qa 8 26, Qa 9 27] (zq [Qa 28 8, Qa 29 9, Qa 4 28, Qa 5 29] .ret))))
def B101 : ABody := .mk 1 33 [] (.block 0 (.loop (.block 1 (zq [Qf 5 1 1, Qd 6 5, ⟨some 7, .bin .and (.tmp 6) (.const (.int .u32 1)), none⟩, WO 8 7, Qa 3 8] (zq [Qf 9 1 1, Qd 10 9, Qf 11 2 1, Qd 12 11, ⟨some 13, .bin .and (.tmp 10) (.tmp 12), none⟩, QA 14 102 13, Wo 15 14 1, Wi 16 15, Qa 4 16] (.seq (.draw 0 [Qg 0 17 1 1, Qc 3 20 4, Qg 4 21 0 1, Qh 1 18 17, Q8 2 19 18 1, Qh 5 22 21, QX 6 23 22 1, ⟨7, false, [], ⟨some 24, .bin .shl (.tmp 20) (.tmp 23), none⟩⟩, zWM 8 25 19 24, Qg 9 26 1 1, QR 10 1 26 25]) (zq [Qa 27 0, Qa 28 3, Qf 29 1 1, Qd 30 29, ⟨some 31, .call (.tmp 27) [.tmp 28, .tmp 30], none⟩, Q2 32 31] (zj 32 .ret))))))))
def B102 : ABody := .mk 1 21 [.tmp 2] (zq [Qb 2 0] (.seq (.draw 0 [Qc 0 3 0, Q8 1 4 3 24, Qe 2 5 4, Qc 3 6 0, Q8 4 7 6 16, Wr 5 8 7, Qe 6 9 8, QI 7 10 5 9, Qc 8 11 0, Q8 9 12 11 8, Wr 10 13 12, Qe 11 14 13, QI 12 15 10 14, Qc 13 16 0, Wr 14 17 16, Qe 15 18 17, QI 16 19 15 18, ⟨17, false, [], ⟨some 20, .conv .i64 (.tmp 19), none⟩⟩, Qc 18 2 20]) .ret))
def B104 : ABody := .mk 2 17 [.tmp 4, .tmp 5] (zq [Wz 4, Wz 5] (zq [Qa 7 0, Wn 8 7, Qa 9 1, Wn 10 9, QQ 11 8 10, Qa 6 11] (zq [Qa 12 6, QZ 13 12 32, Wi 14 13, Qa 15 6, Wi 16 15, Qa 4 14, Qa 5 16] .ret)))
def B105 : ABody := .mk 2 51 [.tmp 4, .tmp 5] (zq [Wy 4, Wy 5] (zq [Qa 14 0, Ww 15 14, Qa 6 15] (zq [Qa 16 0, QZ 17 16 32, Qa 7 17] (zq [Qa 18 1, Ww 19 18, Qa 8 19] (zq [Qa 20 1, QZ 21 20 32, Qa 9 21] (zq [Qa 22 6, Qa 23 8, QQ 24 22 23, Qa 10 24] (zq [Qa 25 7, Qa 26 8, QQ 27 25 26, Qa 28 10, QZ 29 28 32, Q1 30 27 29, Qa 11 30] (zq [Qa 31 11, Ww 32 31, Qa 12 32] (zq [Qa 33 11, QZ 34 33 32, Qa 13 34] (zq [Qa 35 12, Qa 36 6, Qa 37 9, QQ 38 36 37, Q1 39 35 38, Qa 12 39] (zq [Qa 40 7, Qa 41 9, QQ 42 40 41, Qa 43 13, Q1 44 42 43, Qa 45 12, QZ 46 45 32, Q1 47 44 46, Qa 4 47] (zq [Qa 48 0, Qa 49 1, QQ 50 48 49, Qa 5 50] .ret))))))))))))
def B123 : ABody := .mk 2 26 [.tmp 4] (zq [QN 4] (.seq (zq [Qa 6 0, Qx 7 6, Qa 8 1, Qx 9 8, ⟨some 10, .bin .neq (.tmp 7) (.tmp 9), none⟩] (zj 10 (zq [QN 4] .ret))) (.seq (zq [Qb 5 0] (.block 0 (.loop (.seq (zq [Qa 11 5, Qa 12 0, Qx 13 12, Qv 14 11 13] (zk 14 .skip (.exit 0))) (.seq (.block 1 (.seq (.draw 0 [Qc 0 17 0, Qc 1 18 5, Qr 2 19 2 17 18, Qc 4 21 1, Qc 5 22 5, Qr 6 23 2 21 22, QD 3 20 2 19, QD 7 24 2 23, ⟨8, false, [], ⟨some 25, .eqs true [(0, false), (1, false)] (.tmp 20) (.tmp 24), none⟩⟩]) (zj 25 (zq [QN 4] .ret)))) (.region [Qa 15 5, Qj 16 15 1, Qa 5 16])))))) (zq [⟨some 4, .mv (.const (.bool true)), none⟩] .ret))))
def B130 : ABody := .mk 1 7 [.cell 2 true 2] (zq [QK 2] (zq [Qa 3 0, QZ 4 3 26, WO 5 4, QA 6 141 5, Qn 2 2 6] .ret))
def B135 : ABody := .mk 1 7 [.cell 2 true 2] (zq [QK 2] (zq [Qa 3 0, QZ 4 3 26, WO 5 4, QA 6 146 5, Qn 2 2 6] .ret))
def B139 : ABody := .mk 3 13 [.tmp 6] (zq [Wz 6] (zq [Qa 7 0, Qa 8 2, Wi 9 8, Qa 10 1, QQ 11 9 10, Q1 12 7 11, Qa 6 12] .ret))
def B141 : ABody := .mk 1 31 [.cell 2 true 2] (zq [QK 2] (zq [Qa 5 0, Wo 6 5 63, Qa 0 6] (zq [QY 7 149, Qa 3 7] (.seq (.draw 14 [Qc 0 8 3, Qc 1 9 0, Wd 2 10 9, Qr 3 11 1 8 10, Qc 5 13 3, Qc 6 14 0, Wd 7 15 14, Wx 8 16 16 15, Qr 9 17 1 13 16, Qh 4 12 11, Qh 10 18 17, Wh 11 19 12 18, ⟨12, false, [], ⟨some 4, .alloc [.int .i64 0, .int .i64 0], none⟩⟩, QR 13 2 4 19]) (.seq (.block 0 (.loop (.seq (zq [Qa 20 0, We 21 20 16] (zk 21 .skip (.exit 0))) (.seq (.block 1 (.region [Qf 24 1 4, Qd 25 24, WQ 26 25, Qf 27 0 4, Qd 28 27, QU 29 26 28, Qn 2 4 29])) (.region [Qa 22 0, QV 23 22 16, Qa 0 23]))))) (zq [Qm 30 2 4, Qn 2 2 30] .ret))))))
def B143 : ABody := .mk 3 13 [.tmp 6] (zq [Wz 6] (zq [Qa 7 0, Qa 8 1, Qa 9 2, Wi 10 9, QQ 11 8 10, Q1 12 7 11, Qa 6 12] .ret))
def B146 : ABody := .mk 1 20 [.cell 2 true 2] (zq [QK 2] (zq [Qa 4 0, Wo 5 4 63, Qa 0 5] (zq [QY 6 151, Q7 3, Qn 17 3 6] (.seq (.draw 0 [Qc 0 7 0, Wd 1 8 7, ⟨2, false, [], ⟨some 9, .indexArr 1 17 (.tmp 3) (.tmp 8), none⟩⟩, Qc 4 11 0, Wd 5 12 11, Wx 6 13 16 12, ⟨7, false, [], ⟨some 14, .indexArr 1 17 (.tmp 3) (.tmp 13), none⟩⟩, Qc 10 17 0, ⟨11, false, [], ⟨some 18, .bin .quo (.tmp 17) (.const (.int .i64 16)), none⟩⟩, Qh 3 10 9, Qh 8 15 14, Wh 9 16 10 15, Q5 12 19 152 16 18, QR 13 2 2 19]) .ret))))
def B149 : ABody := .mk 0 2 [.tmp 0] (zq [Qo 0] (zq [⟨some 1, .buildSlice 17 [.int .i64 0, .int .i64 0, .int .i64 0, .int .i64 0, .int .i64 0, .int .i64 0, .int .i64 0, .int .i64 0, .int .i64 0, .int .i64 0, .int .i64 0, .int .i64 0, .int .i64 0, .int .i64 0, .int .i64 0, .int .i64 0, .int .i64 0] [(0, (1, .const (.int .i64 127))), (1, (1, .const (.int .i64 126))), (2, (1, .const (.int .i64 125))), (3, (1, .const (.int .i64 122))), (4, (1, .const (.int .i64 117))), (5, (1, .const (.int .i64 112))), (6, (1, .const (.int .i64 106))), (7, (1, .const (.int .i64 98))), (8, (1, .const (.int .i64 90))), (9, (1, .const (.int .i64 81))), (10, (1, .const (.int .i64 71))), (11, (1, .const (.int .i64 60))), (12, (1, .const (.int .i64 49))), (13, (1, .const (.int .i64 37))), (14, (1, .const (.int .i64 25))), (15, (1, .const (.int .i64 12))), (16, (1, .const (.int .i64 0)))], none⟩, Qa 0 1] .ret))
def B151 : ABody := .mk 0 2 [.cell 0 true 17] (zq [Q7 0] (zq [⟨some 1, .build [.int .i64 0, .int .i64 0, .int .i64 0, .int .i64 0, .int .i64 0, .int .i64 0, .int .i64 0, .int .i64 0, .int .i64 0, .int .i64 0, .int .i64 0, .int .i64 0, .int .i64 0, .int .i64 0, .int .i64 0, .int .i64 0, .int .i64 0] [(0, (1, .const (.int .i64 127))), (1, (1, .const (.int .i64 126))), (2, (1, .const (.int .i64 125))), (3, (1, .const (.int .i64 122))), (4, (1, .const (.int .i64 117))), (5, (1, .const (.int .i64 112))), (6, (1, .const (.int .i64 106))), (7, (1, .const (.int .i64 98))), (8, (1, .const (.int .i64 90))), (9, (1, .const (.int .i64 81))), (10, (1, .const (.int .i64 71))), (11, (1, .const (.int .i64 60))), (12, (1, .const (.int .i64 49))), (13, (1, .const (.int .i64 37))), (14, (1, .const (.int .i64 25))), (15, (1, .const (.int .i64 12))), (16, (1, .const (.int .i64 0)))], none⟩, Qn 17 0 1] .ret))
def B152 : ABody := .mk 2 13 [.cell 4 true 2] (zq [Qw 2 0, QK 4] (.seq (zq [Qa 5 1, Wo 6 5 3, Qb 7 0] (.block 0 (.loop (zq [Qv 8 7 6] (.seq (zk 8 .skip (.exit 0)) (.seq (.block 1 (.region [Qm 9 2 2, QA 10 153 9, Qn 2 2 10])) (.region [Qj 11 7 1, Qa 7 11]))))))) (zq [Qm 12 2 2, Qn 2 4 12] .ret)))
def B153 : ABody := .mk 1 9 [.cell 2 true 2] (zq [Qw 1 0, QK 2] (zq [Qf 3 1 1, Qd 4 3, WQ 5 4, Qf 6 0 1, Qd 7 6, QU 8 5 7, Qn 2 2 8] .ret))
def B211 : ABody := .mk 4 57 [.tmp 8] (zq [Qw 4 0, QN 8] (.seq (zq [Qm 13 8 4, Qa 14 1, Qk 15 217 13 14, Qa 16 15, QJ 17 2 16, zWW 18 17 16, QF 19 18 400 16, Qp 20 16 19, Qa 21 20, QJ 22 3 21, QF 23 22 400 21, QJ 24 23 21, QS 25 3 24, ⟨some 26, .bin .leq (.tmp 25) (.const (.int .i64 1048576)), some (24, true)⟩, ⟨some 27, .pick (.tmp 24) (.tmp 26) (.const (.bool false)), some (21, false)⟩, Qp 28 21 27] (zj 28 (zq [QY 29 218, Qa 8 29] .ret))) (zq [Qm 31 8 4, Qa 32 1, Qa 33 2, Qa 34 3, WC 35 231 31 32 33 34, Qa 30 35, Ql 36 30 0, Ql 37 30 1, Qa 9 36, Qa 10 37] (zq [Qm 39 8 4, Qa 40 1, Qa 41 2, Qa 42 3, WC 43 232 39 40 41 42, Qa 38 43, Ql 44 38 0, Ql 45 38 1, Qa 11 44, Qa 12 45] (zq [Qa 46 9, Qa 47 11, Qk 48 123 46 47, Qa 49 48, QS 50 10 49, QS 51 12 49, ⟨some 52, .bin .eql (.tmp 50) (.tmp 51), some (49, true)⟩, QE 53 49 52, Qa 54 53, ⟨some 55, .call (.const (.func 218 [] [])) [], some (54, true)⟩, QE 56 54 55, Qa 8 56] .ret)))))
def B217 : ABody := .mk 2 32 [.tmp 4] (zq [Qw 2 0, QN 4] (.seq (zq [Qb 5 0] (.block 0 (.loop (.seq (zq [Qa 6 5, Qa 7 1, Qx 8 7, Qv 9 6 8, Qa 10 9, QS 11 5 10, ⟨some 12, .bin .lss (.tmp 11) (.const (.int .i64 12)), some (10, true)⟩, QE 13 10 12] (zk 13 .skip (.exit 0))) (.seq (.block 1 (zq [Qa 16 1, Qa 17 5, QC 18 8 16 17, Qf 19 7 18, Qd 20 19, Qx 21 20, QM 22 21 40] (zj 22 (zq [⟨some 4, .mv (.const (.bool true)), none⟩] .ret)))) (.region [Qa 14 5, Qj 15 14 1, Qa 5 15])))))) (zq [Qf 23 7 2, Qd 24 23, Qx 25 24, QM 26 25 40, Qa 27 26, QJ 28 1 27, zWW 29 28 27, QF 30 29 12 27, Qp 31 27 30, Qa 4 31] .ret)))
def B218 : ABody := .mk 0 54 [.tmp 0] (zq [QN 0] (zq [QY 9 233, QY 10 234, Wb 11 221 9 10 1, Qa 8 11, Ql 12 8 0, Ql 13 8 1, Qa 1 12, Qa 2 13] (zq [QY 15 233, QY 16 234, Wb 17 225 15 16 2, Qa 14 17, Ql 18 14 0, Ql 19 14 1, Ql 20 14 2, Qa 3 18, Qa 4 19, Qa 5 20] (zq [QY 22 233, QY 23 234, Wb 24 229 22 23 13, Qa 21 24, Ql 25 21 0, Ql 26 21 1, QK 6, Qn 2 6 25, Qa 7 26] (zq [Qa 27 1, Qt 28 27 65, Qa 29 28, QS 30 2 29, Wa 31 30 0 29, QE 32 29 31, Qa 33 32, QS 34 3 33, Wa 35 34 (-1) 33, QE 36 33 35, Qa 37 36, QS 38 4 37, Wa 39 38 61 37, QE 40 37 39, Qa 41 40, QS 42 5 41, Wa 43 42 0 41, QE 44 41 43, Qa 45 44, ⟨some 46, .load true 2 (.tmp 6), some (45, true)⟩, ⟨some 47, .build [.int .i64 0, .int .i64 0] [(0, (1, .const (.int .i64 254)))], some (45, true)⟩, ⟨some 48, .eqs false [(0, false), (1, false)] (.tmp 46) (.tmp 47), some (45, true)⟩, QE 49 45 48, Qa 50 49, QS 51 7 50, Wa 52 51 0 50, QE 53 50 52, Qa 0 53] .ret)))))
def B219 : ABody := .mk 1 78 [.tmp 2] (zq [Qw 1 0, Qb 2 0] (zq [Qf 9 0 1, Qd 10 9, QA 11 70 10, Qa 8 11, Ql 12 8 0, Ql 13 8 1, Qa 3 12, Qa 4 13] (zq [⟨some 5, .mv (.const (.func 237 [] [])), none⟩] (.seq (.block 0 (.seq (zq [Qa 15 4, Qu 16 15 0, Qa 14 16] (zk 14 .skip (zq [Qa 17 5, Qf 18 1 1, Qd 19 18, Wc 20 17 19 1 8, Q2 21 20, Qa 14 21] (zk 14 .skip (zq [Qa 22 5, Qf 23 2 1, Qd 24 23, Wc 25 22 24 1 20, Q2 26 25, Qa 14 26] (zk 14 .skip (zq [Qa 27 5, Qf 28 3 1, Qd 29 28, Wc 30 27 29 2 10, Q2 31 30, Qa 14 31] (zk 14 .skip (zq [Qa 32 5, Qf 33 4 1, Qd 34 33, Qf 35 5 1, Qd 36 35, ⟨some 37, .call (.tmp 32) [.tmp 34, .const (.int .i64 1), .tmp 36], none⟩, Q2 38 37, Qa 14 38] (zk 14 .skip (zq [Qf 39 5 1, Qd 40 39, QM 41 40 1000, Qa 14 41] (zk 14 .skip (.region [Qa 42 5, Qf 43 6 1, Qd 44 43, Wc 45 42 44 0 100000, Q2 46 45, Qa 14 46]))))))))))))) (zk 14 (zq [Qb 2 2] .ret) (zq [Qf 48 7 1, Qd 49 48, Qx 50 49, Qt 51 50 0, Qa 47 51] (zk 47 (zq [Qb 2 3] .ret) (zq [Qf 53 7 1, Qd 54 53, Qx 55 54, QM 56 55 8, Qa 52 56] (zj 52 (zq [Qb 2 4] .ret)))))))) (.seq (zq [Qf 57 7 1, Qd 58 57, Qx 59 58, Qb 60 0] (.block 1 (.loop (zq [Qv 61 60 59] (.seq (zk 61 .skip (.exit 1)) (.seq (.block 2 (zq [Qa 62 60, QC 63 1 58 60, Qd 64 63, Qa 6 62, Qa 7 64] (.seq (zq [Qa 65 5, Qa 66 7, Qa 67 3, Qj 68 67 2, ⟨some 69, .call (.tmp 65) [.tmp 66, .const (.int .i64 1), .tmp 68], none⟩, Q2 70 69] (zj 70 (zq [Qb 2 2] .ret))) (zq [Qf 71 7 1, Qd 72 71, Qa 73 6, WI 74 1 72 73, Qa 75 7, Qk 76 89 74 75] (zj 76 (zq [Qb 2 8] .ret)))))) (.region [Qj 77 60 1, Qa 60 77]))))))) (zq [Qb 2 0] .ret))))))
def B220 : ABody := .mk 1 117 [.tmp 2] (zq [Qw 1 0, Qb 2 0] (zq [Qf 8 0 1, Qd 9 8, QA 10 71 9, Qa 7 10, Ql 11 7 0, Ql 12 7 1, Qa 3 11, Qa 4 12] (.seq (zq [Qa 13 4, Qu 14 13 0, Qa 15 14, QP 16 1 1 15, QH 17 16 15, Wk 18 17 1 15, Qp 19 15 18, Qa 20 19, QP 21 1 1 20, QH 22 21 20, QF 23 22 8 20, Qp 24 20 23, Qa 25 24, QP 26 2 1 25, QH 27 26 25, Wk 28 27 1 25, Qp 29 25 28, Qa 30 29, QP 31 2 1 30, QH 32 31 30, QF 33 32 20 30, Qp 34 30 33, Qa 35 34, QP 36 3 1 35, QH 37 36 35, Wk 38 37 2 35, Qp 39 35 38, Qa 40 39, QP 41 3 1 40, QH 42 41 40, QF 43 42 10 40, Qp 44 40 43] (zj 44 (zq [Qb 2 2] .ret))) (.seq (zq [Qf 45 4 1, Qd 46 45, QB 47 46 1, Qa 48 47, QP 49 4 1 48, QH 50 49 48, QP 51 5 1 48, QH 52 51 48, Wu 53 50 52 48, Qp 54 48 53, Qa 55 54, QP 56 5 1 55, QH 57 56 55, QF 58 57 1000 55, Qp 59 55 58, Qa 60 59, QP 61 6 1 60, QH 62 61 60, Wk 63 62 0 60, Qp 64 60 63, Qa 65 64, QP 66 6 1 65, QH 67 66 65, QF 68 67 100000 65, Qp 69 65 68] (zj 69 (zq [Qb 2 2] .ret))) (.seq (zq [Qf 70 7 1, Qd 71 70, Qx 72 71, Qt 73 72 0] (zj 73 (zq [Qb 2 3] .ret))) (.seq (zq [Qf 74 7 1, Qd 75 74, Qx 76 75, QM 77 76 8] (zj 77 (zq [Qb 2 4] .ret))) (.seq (zq [Qb 5 0] (.block 0 (.loop (.seq (zq [Qa 78 5, Qf 79 7 1, Qd 80 79, Qx 81 80, Qv 82 78 81] (zk 82 .skip (.exit 0))) (.seq (.block 1 (.seq (zq [Qf 85 7 1, Qd 86 85, Qa 87 5, QC 88 1 86 87, Qd 89 88, QB 90 89 1, Qa 91 90, QP 92 7 1 91, QH 93 92 91, QJ 94 5 91, ⟨some 95, .indexAddr 1 (.tmp 93) (.tmp 94), some (91, false)⟩, QH 96 95 91, QJ 97 3 91, WA 98 97 91, Wu 99 96 98 91, Qp 100 91 99] (zj 100 (zq [Qb 2 2] .ret))) (zq [Qb 6 0] (.block 2 (.loop (.seq (zq [Qa 101 6, Qa 102 5, Qv 103 101 102] (zk 103 .skip (.exit 2))) (.seq (.block 3 (.seq (.draw 0 [Qg 0 106 7 1, Qc 2 108 6, Qg 5 111 7 1, Qc 7 113 5, Qh 1 107 106, Qr 3 109 1 107 108, Qh 4 110 109, Qh 6 112 111, Qr 8 114 1 112 113, Qh 9 115 114, ⟨10, false, [], ⟨some 116, .bin .eql (.tmp 110) (.tmp 115), none⟩⟩]) (zj 116 (zq [Qb 2 8] .ret)))) (.region [Qa 104 6, Qj 105 104 1, Qa 6 105])))))))) (.region [Qa 83 5, Qj 84 83 1, Qa 5 84])))))) (zq [Qb 2 0] .ret))))))))
def B221 : ABody := .mk 3 23 [.tmp 6, .tmp 7] (zq [Qw 3 0, Qw 4 1, Qb 6 0, Qb 7 0] (zq [Qm 11 8 3, Qm 12 8 4, Qa 13 2, QO 14 238 11 12 13, Qa 10 14, Ql 15 10 0, Ql 16 10 1, Qs 8, Qn 17 8 15, Qa 9 16] (.seq (zq [Qa 17 9, Qu 18 17 0] (zj 18 (zq [Qa 19 9, Qb 6 0, Qa 7 19] .ret))) (zq [Qm 20 17 8, Qa 21 2, Qk 22 239 20 21, Qa 6 22, Qb 7 0] .ret))))
def B223 : ABody := .mk 2 60 [.tmp 4] (zq [Qw 2 0, Qw 3 1, Qb 4 0] (.seq (zq [Qm 6 8 2, QA 7 219 6, Qa 5 7] (zq [Qa 8 5, Qu 9 8 0] (zj 9 (zq [Qa 10 5, Qa 4 10] .ret)))) (.seq (.block 0 (zq [Qf 12 7 2, Qd 13 12, Qf 14 0 3, Qd 15 14, Qk 16 89 13 15, Q2 17 16, Qa 11 17] (zk 11 (zq [Qb 4 18] .ret) (.seq (zq [Qf 19 1 3, Qd 20 19, QB 21 20 0, Qa 18 21] (zk 18 .skip (.seq (.draw 0 [Qg 0 22 1 3, QL 1 23 22, QD 2 24 8 2, WE 3 1 25 242 24, ⟨4, false, [], ⟨some 26, .bin .geq (.tmp 23) (.tmp 25), none⟩⟩, Qc 5 18 26]) (zk 18 .skip (zq [Qf 27 2 3, Qd 28 27, QB 29 28 (-64), Qa 18 29] (zk 18 .skip (zq [Qf 30 2 3, Qd 31 30, QM 32 31 64, Qa 18 32] (zk 18 .skip (zq [Qf 33 5 3, Qd 34 33, Qf 35 4 2, Qd 36 35, Qv 37 34 36, Qa 18 37] (zk 18 .skip (zq [Qf 38 5 3, Qd 39 38, Qf 40 5 2, Qd 41 40, Wj 42 39 41, Qa 18 42] (zk 18 .skip (zq [Qf 43 6 3, Qd 44 43, QB 45 44 0, Qa 18 45] (zk 18 .skip (.region [Qf 46 6 3, Qd 47 46, Qf 48 2 2, Qd 49 48, ⟨some 50, .bin .geq (.tmp 47) (.tmp 49), none⟩, Qa 18 50]))))))))))))))) (zk 18 (zq [Qb 4 2] .ret) (zq [Qf 52 7 3, Qd 53 52, Qx 54 53, QM 55 54 10000, Qa 51 55] (zk 51 (zq [Qb 4 4] .ret) (zq [Qf 57 7 3, Qd 58 57, ⟨some 59, .call (.const (.func 37 [] [])) [.tmp 58, .const (.func 243 [] [])], none⟩, Qa 56 59] (zj 56 (zq [Qb 4 3] .ret)))))))))) (zq [Qb 4 0] .ret))))
def B224 : ABody := .mk 2 105 [.tmp 4] (zq [Qw 2 0, Qw 3 1, Qb 4 0] (.seq (zq [Qm 9 8 2, QA 10 220 9, Qa 5 10] (zq [Qa 11 5, Qu 12 11 0] (zj 12 (zq [Qa 13 5, Qa 4 13] .ret)))) (zq [QN 6] (.seq (zq [Qb 7 0] (.block 0 (.loop (.seq (zq [Qa 14 7, Qf 15 7 2, Qd 16 15, Qx 17 16, Qv 18 14 17] (zk 18 .skip (.exit 0))) (.seq (.block 1 (.draw 0 [Qc 0 21 6, Qc 1 22 21, Qz 2 23 7 2 22, Q4 4 25 7 22, Qz 7 28 0 3 22, Qy 3 24 23 22, Wm 5 26 1 24 25 22, Qy 6 27 26 22, Qy 8 29 28 22, ⟨9, false, [], ⟨some 30, .bin .eql (.tmp 27) (.tmp 29), some (22, false)⟩⟩, QG 10 31 22 30, Qc 11 6 31])) (.region [Qa 19 7, Qj 20 19 1, Qa 7 20])))))) (.seq (zq [Qa 32 6, Q2 33 32] (zj 33 (zq [Qb 4 18] .ret))) (.seq (.seq (.draw 0 [Qg 0 34 1 3, Qh 1 35 34, ⟨2, false, [], ⟨some 36, .bin .lss (.tmp 35) (.const (.int .i64 0)), none⟩⟩, Qc 3 37 36, Qz 4 38 1 3 37, ⟨5, true, [], ⟨some 39, .load false 1 (.tmp 38), some (37, false)⟩⟩, ⟨6, false, [], ⟨some 40, .load true 8 (.tmp 2), some (37, false)⟩⟩, ⟨7, false, [5], ⟨some 41, .call (.const (.func 244 [] [])) [.tmp 40], some (37, false)⟩⟩, ⟨8, false, [], ⟨some 42, .bin .geq (.tmp 39) (.tmp 41), some (37, false)⟩⟩, QG 9 43 37 42, Qc 10 44 43, Qz 11 45 2 3 44, Qy 12 46 45 44, WV 13 47 46 (-64) 44, QG 14 48 44 47, Qc 15 49 48, Qz 16 50 2 3 49, Qy 17 51 50 49, ⟨18, false, [], ⟨some 52, .bin .gtr (.tmp 51) (.const (.int .i64 64)), some (49, false)⟩⟩, QG 19 53 49 52, Qc 20 54 53, Qz 21 55 5 3 54, Qz 23 57 4 2 54, Qy 22 56 55 54, Qy 24 58 57 54, ⟨25, false, [], ⟨some 59, .bin .lss (.tmp 56) (.tmp 58), some (54, false)⟩⟩, QG 26 60 54 59, Qc 27 61 60, Qz 28 62 5 3 61, Qz 30 64 5 2 61, Qy 29 63 62 61, Qy 31 65 64 61, WF 32 66 63 65 61, QG 33 67 61 66, Qc 34 68 67, Qz 35 69 6 3 68, Qy 36 70 69 68, WV 37 71 70 0 68, QG 38 72 68 71, Qc 39 73 72, Qz 40 74 6 3 73, Qz 42 76 2 2 73, Qy 41 75 74 73, Qy 43 77 76 73, ⟨44, false, [], ⟨some 78, .bin .geq (.tmp 75) (.tmp 77), some (73, false)⟩⟩, QG 45 79 73 78]) (zj 79 (zq [Qb 4 2] .ret))) (.seq (zq [Qf 80 7 3, Qd 81 80, Qx 82 81, QM 83 82 10000] (zj 83 (zq [Qb 4 4] .ret))) (.seq (zq [Qb 8 0] (.block 2 (.loop (.seq (zq [Qa 84 8, Qf 85 7 3, Qd 86 85, Qx 87 86, Qv 88 84 87] (zk 88 .skip (.exit 2))) (.seq (.block 3 (zq [Qf 91 7 3, Qd 92 91, Qa 93 8, QC 94 1 92 93, Qd 95 94, Qu 96 95 0, Qa 97 96, ⟨some 98, .fieldAddr 7 (.tmp 3), some (97, true)⟩, ⟨some 99, .load false 1 (.tmp 98), some (97, true)⟩, QS 100 8 97, ⟨some 101, .indexAddr 1 (.tmp 99) (.tmp 100), some (97, true)⟩, ⟨some 102, .load false 1 (.tmp 101), some (97, true)⟩, Wl 103 102 1 97, QE 104 97 103] (zj 104 (zq [Qb 4 3] .ret)))) (.region [Qa 89 8, Qj 90 89 1, Qa 8 90])))))) (zq [Qb 4 0] .ret)))))))))
def B225 : ABody := .mk 3 30 [.tmp 6, .tmp 7, .tmp 8] (zq [Qw 3 0, Qw 4 1, Qb 6 0, Qb 7 0, Qb 8 0] (zq [Qm 12 8 3, Qm 13 8 4, Qa 14 2, QO 15 238 12 13 14, Qa 11 15, Ql 16 11 0, Ql 17 11 1, Qs 9, Qn 17 9 16, Qa 10 17] (.seq (zq [Qa 18 10, Qu 19 18 0] (zj 19 (zq [Qa 20 10, Qb 6 0, Qb 7 0, Qa 8 20] .ret))) (zq [Qm 21 17 9, Qa 22 2, Qk 23 245 21 22, Qa 6 23] (zq [Qa 24 6, Qa 25 2, Qm 26 17 9, Qa 27 6, Qk 28 239 26 27, Wq 29 25 28, Qa 6 24, Qa 7 29, Qb 8 0] .ret)))))
def B229 : ABody := .mk 3 46 [.cell 6 true 2, .tmp 7] (zq [Qw 3 0, Qw 4 1, QK 6, Qb 7 0] (zq [Qm 14 8 3, Qm 15 8 4, Qa 16 2, QO 17 238 14 15 16, Qa 13 17, Ql 18 13 0, Ql 19 13 1, Qs 8, Qn 17 8 18, Qa 9 19] (.seq (zq [Qa 20 9, Qu 21 20 0] (zj 21 (zq [⟨some 22, .build [.int .i64 0, .int .i64 0] [], none⟩, Qa 23 9, Qn 2 6 22, Qa 7 23] .ret))) (zq [Qm 24 17 8, Qa 25 2, Qk 26 245 24 25, Qa 10 26] (.seq (.draw 13 [Qc 1 28 2, Qc 3 30 10, Qc 8 35 10, ⟨0, true, [], ⟨some 27, .load true 17 (.tmp 8), none⟩⟩, QD 2 29 17 8, ⟨7, true, [], ⟨some 34, .load true 17 (.tmp 8), none⟩⟩, ⟨4, true, [0, 7], ⟨some 31, .call (.const (.func 239 [] [])) [.tmp 29, .tmp 30], none⟩⟩, Wg 5 32 28 31, ⟨6, true, [7], ⟨some 33, .call (.const (.func 249 [] [])) [.tmp 27, .tmp 32], none⟩⟩, ⟨9, true, [], ⟨some 36, .call (.const (.func 250 [] [])) [.tmp 34, .tmp 35], none⟩⟩, ⟨10, false, [4, 6, 9], ⟨some 12, .alloc [.int .i64 0, .int .i64 0], none⟩⟩, Qc 11 11 33, QR 12 2 12 36]) (zq [Qa 37 11, Qf 38 0 12, Qd 39 38, QQ 40 37 39, Qa 41 11, Qf 42 1 12, Qd 43 42, QQ 44 41 43, QU 45 40 44, Qn 2 6 45, Qb 7 0] .ret))))))
def B231 : ABody := .mk 4 121 [.tmp 8, .tmp 9] (zq [Qw 4 0, Qw 7 3, Qo 8, Qb 9 0] (.seq (zq [Qm 23 8 4, QA 24 219 23, Qa 10 24] (zq [Qa 25 10, Qu 26 25 0] (zj 26 (zq [Qa 27 10, Qo 8, Qa 9 27] .ret)))) (.seq (zq [Qa 28 1, Qx 29 28, QM 30 29 8] (zj 30 (zq [Qo 8, Qb 9 4] .ret))) (zq [Qo 11] (.seq (zq [Qa 31 1, Qx 32 31, Qb 33 0] (.block 0 (.loop (zq [Qv 34 33 32] (.seq (zk 34 .skip (.exit 0)) (.seq (.block 1 (zq [Qa 35 33, QC 36 8 31 33, Qm 37 8 36, Wt 13, Qa 12 35, Qn 8 13 37] (zq [Qm 39 8 4, Qm 40 8 13, Wb 41 238 39 40 0, Qa 38 41, Ql 42 38 0, Ql 43 38 1, Qs 14, Qn 17 14 42, Qa 15 43] (.seq (zq [Qa 44 15, Qu 45 44 0] (zj 45 (zq [Qa 46 15, Qo 8, Qa 9 46] .ret))) (.seq (zq [Qa 47 1, Qa 48 12, WI 49 8 47 48, ⟨some 50, .mkfunc 253 [] [.tmp 13], none⟩, Qk 51 252 49 50] (zj 51 (zq [Qo 8, Qb 9 8] .ret))) (.region [Qa 52 11, Qm 53 17 14, ⟨some 54, .buildSlice 1 [.int .i64 0, .int .i64 0, .int .i64 0, .int .u32 0, .int .u32 0, .int .i64 0, .int .i64 0, .nilslice, .int .i64 0, .int .i64 0, .int .i64 0, .int .i64 0, .int .i64 0, .int .i64 0, .int .i64 0, .nilslice, .nilslice] [(0, (17, .tmp 53))], none⟩, WP 55 17 176 52 54, Qa 11 55])))))) (.region [Qj 56 33 1, Qa 33 56]))))))) (zq [⟨some 57, .mkfunc 254 [] [.tmp 4], none⟩, Qa 16 57] (.seq (.block 2 (.seq (zq [Qd 59 7, QB 60 59 0, Qa 58 60] (zk 58 .skip (.region [Qd 61 7, QM 62 61 1048576, Qa 58 62]))) (zk 58 (zq [Qo 8, Qb 9 2] .ret) (zq [Qa 64 2, Qx 65 64, Qd 66 7, Wj 67 65 66, Qa 63 67] (zk 63 (zq [Qo 8, Qb 9 4] .ret) (zq [Qa 69 2, Qa 70 16, Qk 71 255 69 70, Qa 68 71] (zj 68 (zq [Qo 8, Qb 9 2] .ret)))))))) (zq [⟨some 72, .makeChan, none⟩, ⟨some 17, .alloc [.nilchan], none⟩, Qn 1 17 72] (.seq (zq [Qa 73 11, Qx 74 73, Qb 75 0] (.block 3 (.loop (zq [Qv 76 75 74] (.seq (zk 76 .skip (.exit 3)) (.seq (.block 4 (zq [QC 77 17 73 75, Qm 78 17 77, Qs 19, Qn 17 19 78] (.region [⟨some 79, .mkfunc 256 [] [.tmp 17, .tmp 19, .tmp 7], none⟩, ⟨none, .comm 0 [.tmp 79], none⟩]))) (.region [Qj 80 75 1, Qa 75 80]))))))) (zq [Qd 81 7, Wp 82 81, Qa 20 82] (zq [Qa 83 20, Qa 84 2, ⟨some 85, .copy 2 (.tmp 83) (.tmp 84), none⟩] (.seq (zq [Qa 86 11, Qx 87 86, Qb 88 0] (.block 5 (.loop (zq [Qv 89 88 87] (.seq (zk 89 .skip (.exit 5)) (.seq (.block 6 (zq [Qd 90 17, ⟨some 91, .comm 1 [.tmp 90], none⟩, Qx 92 91, Qb 93 0] (.block 7 (.loop (zq [Qv 94 93 92] (.seq (zk 94 .skip (.exit 7)) (.seq (.block 8 (zq [Qa 95 93, QC 96 2 91 93, Qm 97 2 96, QK 22, Qa 21 95, Qn 2 22 97] (.seq (.draw 0 [Qc 0 98 20, Qc 1 99 21, Qr 2 100 2 98 99, Qg 3 101 0 100, Qg 5 103 0 22, Qh 4 102 101, Qh 6 104 103, QI 7 105 102 104, Qr 8 106 2 98 99, Qg 9 107 0 106, QR 10 1 107 105]) (.draw 0 [Qc 0 108 20, Qc 1 109 21, Qr 2 110 2 108 109, Qg 3 111 1 110, Qg 5 113 1 22, Qh 4 112 111, Qh 6 114 113, QI 7 115 112 114, Qr 8 116 2 108 109, Qg 9 117 1 116, QR 10 1 117 115])))) (.region [Qj 118 93 1, Qa 93 118])))))))) (.region [Qj 119 88 1, Qa 88 119]))))))) (zq [Qa 120 20, Qa 8 120, Qb 9 0] .ret)))))))))))))
def B232 : ABody := .mk 4 172 [.tmp 8, .tmp 9] (zq [Qw 4 0, Qo 8, Qb 9 0] (.seq (zq [Qm 21 8 4, QA 22 220 21, Qa 10 22] (zq [Qa 23 10, Qu 24 23 0] (zj 24 (zq [Qa 25 10, Qo 8, Qa 9 25] .ret)))) (.seq (zq [Qa 26 1, Qx 27 26, QM 28 27 8] (zj 28 (zq [Qo 8, Qb 9 4] .ret))) (.seq (zq [Qb 11 0] (.block 0 (.loop (.seq (zq [Qa 29 11, Qa 30 1, Qx 31 30, Qv 32 29 31] (zk 32 .skip (.exit 0))) (.seq (.block 1 (.seq (.seq (.draw 0 [Qc 1 36 1, Qc 2 37 11, Qr 3 38 8 36 37, QD 0 35 8 4, QD 4 39 8 38, Q5 5 40 224 35 39, Qc 6 12 40]) (zq [Qa 41 12, Qu 42 41 0] (zj 42 (zq [Qa 43 12, Qo 8, Qa 9 43] .ret)))) (zq [Qb 13 0] (.block 2 (.loop (.seq (zq [Qa 44 13, Qa 45 11, Qv 46 44 45] (zk 46 .skip (.exit 2))) (.seq (.block 3 (.seq (.draw 0 [Qc 0 49 1, Qc 1 50 13, Qr 2 51 8 49 50, Qg 3 52 0 51, Qc 5 54 1, Qc 6 55 11, Qr 7 56 8 54 55, Qg 8 57 0 56, Qh 4 53 52, Qh 9 58 57, ⟨10, false, [], ⟨some 59, .bin .eql (.tmp 53) (.tmp 58), none⟩⟩]) (zj 59 (zq [Qo 8, Qb 9 8] .ret)))) (.region [Qa 47 13, Qj 48 47 1, Qa 13 48])))))))) (.region [Qa 33 11, Qj 34 33 1, Qa 11 34])))))) (.seq (zq [Qa 60 3, QB 61 60 0, Qa 62 61, QJ 63 3 62, QF 64 63 1048576 62, Qp 65 62 64] (zj 65 (zq [Qo 8, Qb 9 2] .ret))) (.seq (zq [Qa 66 2, Qx 67 66, Qa 68 3, Wj 69 67 68] (zj 69 (zq [Qo 8, Qb 9 4] .ret))) (.seq (zq [Qb 14 0] (.block 4 (.loop (.seq (zq [Qa 70 14, Qa 71 2, Qx 72 71, Qv 73 70 72] (zk 73 .skip (.exit 4))) (.seq (.block 5 (.seq (.draw 0 [Qc 0 76 2, Qc 1 77 14, Qr 2 78 2 76 77, Qg 3 79 0 78, Qg 5 81 6 4, Qh 4 80 79, Qh 6 82 81, ⟨7, false, [], ⟨some 83, .un .neg (.tmp 82), none⟩⟩, WK 8 84 80 83, Qc 9 85 84, Q4 10 86 2 85, Q4 11 87 14 85, Wm 12 88 2 86 87 85, Qz 13 89 0 88 85, Qz 15 91 6 4 85, Qy 14 90 89 85, Qy 16 92 91 85, WF 17 93 90 92 85, QG 18 94 85 93, Qc 19 95 94, Q4 20 96 2 95, Q4 21 97 14 95, Wm 22 98 2 96 97 95, Qz 23 99 1 98 95, Qz 25 101 6 4 95, Qy 24 100 99 95, Qy 26 102 101 95, ⟨27, false, [], ⟨some 103, .un .neg (.tmp 102), some (95, false)⟩⟩, ⟨28, false, [], ⟨some 104, .bin .lss (.tmp 100) (.tmp 103), some (95, false)⟩⟩, QG 29 105 95 104, Qc 30 106 105, Q4 31 107 2 106, Q4 32 108 14 106, Wm 33 109 2 107 108 106, Qz 34 110 1 109 106, Qz 36 112 6 4 106, Qy 35 111 110 106, Qy 37 113 112 106, WF 38 114 111 113 106, QG 39 115 106 114]) (zj 115 (zq [Qo 8, Qb 9 2] .ret)))) (.region [Qa 74 14, Qj 75 74 1, Qa 14 75])))))) (zq [Qa 116 3, Wp 117 116, Qa 15 117] (zq [Qa 118 15, Qa 119 2, ⟨some 120, .copy 2 (.tmp 118) (.tmp 119), none⟩] (.seq (zq [Qb 16 0] (.block 6 (.loop (.seq (zq [Qa 121 16, Qa 122 1, Qx 123 122, Qv 124 121 123] (zk 124 .skip (.exit 6))) (.seq (.block 7 (.seq (.draw 0 [Qg 0 128 0 4, Qc 2 130 1, Qc 3 131 16, Qr 4 132 8 130 131, Qg 5 133 0 132, Qh 1 129 128, Qh 6 134 133, Q5 7 135 77 129 134, Qc 8 127 135, WB 9 136 127 0, WB 10 137 127 1, Qc 11 17 136, Qc 12 18 137]) (zq [Qb 19 0] (.block 8 (.loop (.seq (zq [Qa 138 19, Qa 139 3, Qv 140 138 139] (zk 140 .skip (.exit 8))) (.seq (.block 9 (.seq (.draw 10 [Qc 1 144 1, Qc 2 145 16, Qr 3 146 8 144 145, Qc 5 148 17, Qc 6 149 19, QD 0 143 8 4, QD 4 147 8 146, ⟨7, true, [], ⟨some 150, .call (.const (.func 251 [] [])) [.tmp 143, .tmp 147, .tmp 148, .tmp 149], none⟩⟩, ⟨8, false, [7], ⟨some 20, .alloc [.int .i64 0, .int .i64 0], none⟩⟩, QR 9 2 20 150]) (.draw 0 [Qc 0 151 15, Qc 1 152 19, Qc 2 153 15, Qc 3 154 19, Qr 4 155 2 153 154, Qg 5 156 0 155, Qg 7 158 0 20, Qc 10 161 15, Qc 11 162 19, Qr 12 163 2 161 162, Qg 13 164 1 163, Qg 15 166 1 20, Qh 6 157 156, Qh 8 159 158, QI 9 160 157 159, Qh 14 165 164, Qh 16 167 166, QI 17 168 165 167, Wh 18 169 160 168, Qr 19 170 2 151 152, QR 20 2 170 169]))) (.region [Qa 141 19, Qj 142 141 1, Qa 19 142])))))))) (.region [Qa 125 16, Qj 126 125 1, Qa 16 126])))))) (zq [Qa 171 15, Qa 8 171, Qb 9 0] .ret)))))))))))
def B233 : ABody := .mk 0 3 [.cell 0 true 8] (zq [⟨some 0, .alloc [.int .i64 0, .int .i64 0, .int .i64 0, .int .i64 0, .int .i64 0, .int .i64 0, .int .i64 0, .nilslice], none⟩] (zq [Qq 1 1 2, ⟨some 2, .build [.int .i64 0, .int .i64 0, .int .i64 0, .int .i64 0, .int .i64 0, .int .i64 0, .int .i64 0, .nilslice] [(0, (1, .const (.int .i64 5))), (1, (1, .const (.int .i64 2))), (2, (1, .const (.int .i64 2))), (3, (1, .const (.int .i64 2))), (4, (1, .const (.int .i64 1))), (5, (1, .const (.int .i64 10))), (6, (1, .const (.int .i64 5))), (7, (1, .tmp 1))], none⟩, Qn 8 0 2] .ret))
def B234 : ABody := .mk 0 3 [.cell 0 true 8] (zq [Wt 0] (zq [Qq 1 0 1, ⟨some 2, .build [.int .i64 0, .int .i64 0, .int .i64 0, .int .u32 0, .int .u32 0, .int .i64 0, .int .i64 0, .nilslice] [(0, (1, .const (.int .i64 1))), (1, (1, .const (.int .i64 3))), (5, (1, .const (.int .i64 2))), (7, (1, .tmp 1))], none⟩, Qn 8 0 2] .ret))
def B237 : ABody := .mk 3 15 [.tmp 6] (zq [QN 6] (zq [Qa 7 0, Qa 8 1, ⟨some 9, .bin .geq (.tmp 7) (.tmp 8), none⟩, Qa 10 9, QS 11 0 10, QS 12 2 10, ⟨some 13, .bin .leq (.tmp 11) (.tmp 12), some (10, true)⟩, QE 14 10 13, Qa 6 14] .ret))
def B238 : ABody := .mk 3 37 [.cell 6 true 17, .tmp 7] (zq [Qw 3 0, Qw 4 1, Qs 6, Qb 7 0] (.seq (zq [Qm 11 8 3, Qm 12 8 4, Qk 13 223 11 12, Qa 8 13] (zq [Qa 14 8, Qu 15 14 0] (zj 15 (zq [Q9 16, Qa 17 8, Qn 17 6 16, Qa 7 17] .ret)))) (.seq (zq [Qa 18 2, QB 19 18 (-10000000), Qa 20 19, QJ 21 2 20, QF 22 21 10000000 20, Qp 23 20 22] (zj 23 (zq [Q9 24, Qn 17 6 24, Qb 7 2] .ret))) (zq [Qf 26 0 3, Qd 27 26, Qf 28 0 4, Qd 29 28, Qk 30 76 27 29, Qa 25 30, Ql 31 25 0, Ql 32 25 1, Qa 9 31, Qa 10 32] (zq [Qm 33 8 4, Qm 34 8 3, Qa 35 9, ⟨some 36, .build [.int .i64 0, .int .i64 0, .int .i64 0, .int .u32 0, .int .u32 0, .int .i64 0, .int .i64 0, .nilslice, .int .i64 0, .int .i64 0, .int .i64 0, .int .i64 0, .int .i64 0, .int .i64 0, .int .i64 0, .nilslice, .nilslice] [(0, (8, .tmp 33)), (8, (8, .tmp 34)), (16, (1, .tmp 35))], none⟩, Qn 17 6 36, Qb 7 0] .ret)))))
def B239 : ABody := .mk 2 21 [.tmp 4] (zq [Qw 2 0, Qb 4 0] (.seq (.draw 0 [Qg 0 5 0 2, Qg 1 6 1 5, Qc 3 8 1, Qg 4 9 8 2, Qc 9 14 1, Qg 10 15 0 2, Qg 11 16 2 15, QL 2 7 6, QD 5 10 8 9, QL 12 17 16, QW 13 18 14 17, Q8 14 19 18 10, WX 6 2 12 242, QW 7 12 8 11, QI 8 13 7 12, QI 15 20 13 19, Qc 16 4 20]) .ret))
def B241 : ABody := .mk 3 20 [.tmp 6] (zq [Qw 3 0, Qw 4 1, Qb 6 0] (.seq (.draw 0 [Qg 0 7 1 4, Qc 2 9 2, Qc 7 14 2, Qg 8 15 2 4, QL 1 8 7, QD 3 10 8 3, QL 9 16 15, QW 10 17 14 16, WX 4 1 9 244, QW 5 12 9 11, QI 6 13 8 12, ⟨11, false, [1], ⟨some 18, .call (.const (.func 258 [] [])) [.tmp 17, .const (.int .i64 1024)], none⟩⟩, QI 12 19 13 18, Qc 13 6 19]) .ret))
def B242 : ABody := .mk 1 10 [.tmp 2] (zq [Qw 1 0, Qb 2 0] (.seq (.draw 0 [Qg 0 3 0 1, Qg 4 7 1 1, Qh 1 4 3, Ws 2 5 4, QX 3 6 5 1, Qh 5 8 7, QW 6 9 6 8, Qc 7 2 9]) .ret))
def B243 : ABody := .mk 1 9 [.tmp 2] (zq [QN 2] (zq [Qa 3 0, Qu 4 3 0, Qa 5 4, QS 6 0 5, Wl 7 6 1 5, QE 8 5 7, Qa 2 8] .ret))
def B244 : ABody := .mk 1 10 [.tmp 2] (zq [Qw 1 0, Qb 2 0] (.seq (.draw 0 [Qg 0 3 0 1, Qg 4 7 1 1, Qh 1 4 3, Ws 2 5 4, QX 3 6 5 1, Qh 5 8 7, QW 6 9 6 8, Qc 7 2 9]) .ret))
def B245 : ABody := .mk 2 32 [.tmp 4] (zq [Qw 2 0, Qb 4 0] (.seq (.draw 0 [Qc 0 6 1, Qg 1 7 0 2, Qg 2 8 1 7, Qg 5 11 8 2, QL 3 9 8, Wg 4 10 6 9, QD 6 12 8 11, WE 7 3 13 242 12, WL 8 14 10 13, WZ 9 15 14 2, Qc 10 5 15]) (.seq (.block 0 (.loop (.seq (zq [Qm 16 17 2, Qa 17 5, Qk 18 239 16 17, Qa 19 1, Wj 20 18 19] (zk 20 .skip (.exit 0))) (.block 1 (.region [Qa 21 5, QV 22 21 1, Qa 5 22]))))) (.seq (.block 2 (.loop (.seq (zq [Qm 23 17 2, Qa 24 5, Qj 25 24 1, Qk 26 239 23 25, Qa 27 1, WT 28 26 27] (zk 28 .skip (.exit 2))) (.block 3 (.region [Qa 29 5, Qj 30 29 1, Qa 5 30]))))) (zq [Qa 31 5, Qa 4 31] .ret)))))
def B246 : ABody := .mk 3 33 [.tmp 6] (zq [Qw 3 0, Qw 4 1, Qb 6 0] (.seq (.draw 0 [Qc 0 8 2, Qg 1 9 1 4, QL 2 10 9, Wg 3 11 8 10, QD 4 12 8 3, WE 5 2 13 244 12, Q5 6 14 258 11 13, Qc 7 7 14]) (.seq (.block 0 (.loop (.seq (zq [Qm 15 8 3, Qm 16 8 4, Qa 17 7, QO 18 241 15 16 17, Qa 19 2, Wj 20 18 19] (zk 20 .skip (.exit 0))) (.block 1 (.region [Qa 21 7, QV 22 21 1, Qa 7 22]))))) (.seq (.block 2 (.loop (.seq (zq [Qm 23 8 3, Qm 24 8 4, Qa 25 7, Qj 26 25 1, QO 27 241 23 24 26, Qa 28 2, WT 29 27 28] (zk 29 .skip (.exit 2))) (.block 3 (.region [Qa 30 7, Qj 31 30 1, Qa 7 31]))))) (zq [Qa 32 7, Qa 6 32] .ret)))))
def B247 : ABody := .mk 2 48 [.tmp 4] (zq [Qw 2 0, Qb 4 0] (zq [Qf 7 0 2, Qf 8 7 7, Qd 9 8, Qx 10 9, Qa 5 10] (.seq (zq [Qa 11 5, Qt 12 11 0] (zj 12 (zq [Qb 4 0] .ret))) (zq [Qa 13 1, Qf 14 0 2, Qf 15 6 14, Qd 16 15, Wq 17 13 16, Qa 1 17] (zq [Qa 18 1, Qf 19 8 2, Qf 20 2 19, Qd 21 20, WU 22 18 21, Qa 6 22] (.seq (zq [Qa 23 1, QB 24 23 0] (zj 24 (.region [Qf 25 8 2, Qf 26 2 25, Qd 27 26, QV 28 27 1, Qa 29 1, Wq 30 28 29, Qf 31 8 2, Qf 32 2 31, Qd 33 32, WU 34 30 33, WQ 35 34, Qa 6 35]))) (.seq (.draw 0 [Qg 0 36 0 2, Qg 1 37 7 36, Qc 3 39 6, Qc 4 40 5, WJ 5 41 39 40, Qc 6 42 5, QI 7 43 41 42, Qc 8 44 5, WJ 9 45 43 44, Qh 2 38 37, Qr 10 46 1 38 45, Qh 11 47 46, Qc 12 4 47]) .ret)))))))
def B248 : ABody := .mk 3 32 [.tmp 6] (zq [Qw 3 0, Qw 4 1, Qb 6 0] (zq [Qf 9 7 4, Qd 10 9, Qx 11 10, Qa 7 11] (.seq (zq [Qa 12 7, Qt 13 12 0] (zj 13 (zq [Qb 6 0] .ret))) (zq [Qa 14 2, Qf 15 6 4, Qd 16 15, Wq 17 14 16, Qf 18 2 3, Qd 19 18, Qk 20 258 17 19, Qa 8 20] (.seq (.draw 0 [Qg 0 21 7 4, Qc 2 23 8, Qc 3 24 7, Qc 4 25 8, Qc 5 26 7, QL 1 22 21, Q6 6 1 27 258 25 26, QW 7 28 24 27, Wg 8 29 23 28, Qr 9 30 1 22 29, Qh 10 31 30, Qc 11 6 31]) .ret)))))
def B249 : ABody := .mk 2 19 [.tmp 4] (zq [Qw 2 0, Qb 4 0] (.seq (.draw 0 [Qg 0 5 16 2, Qc 2 7 1, Qg 3 8 8 2, Qg 4 9 1 8, Qg 7 12 16 2, Qh 1 6 5, Qh 5 10 9, WL 6 11 7 10, Qh 8 13 12, ⟨9, false, [], ⟨some 14, .len (.tmp 13), none⟩⟩, QX 10 15 14 1, WR 11 16 11 15, Qr 12 17 1 6 16, Qh 13 18 17, Qc 14 4 18]) .ret))
def B250 : ABody := .mk 2 34 [.cell 4 true 2] (zq [Qw 2 0, QK 4] (zq [Qf 7 0 2, Qf 8 4 7, Qd 9 8, Qf 10 0 2, Qf 11 3 10, Qd 12 11, Qa 13 1, QO 14 143 9 12 13, QA 15 135 14, QK 5, Qn 2 5 15] (.seq (.draw 0 [Qg 0 16 0 2, Qg 1 17 5 16, Qc 4 20 1, QL 2 18 17, QD 3 19 17 2, Q6 5 2 21 247 19 20, ⟨6, false, [], ⟨some 22, .bin .mul (.const (.int .i64 2)) (.tmp 21), none⟩⟩, Wx 7 23 1 22, QW 8 24 18 23, Qc 9 6 24]) (zq [Qa 25 6, Qf 26 0 5, Qd 27 26, QQ 28 25 27, Qa 29 6, Qf 30 1 5, Qd 31 30, QQ 32 29 31, QU 33 28 32, Qn 2 4 33] .ret))))
def B251 : ABody := .mk 4 58 [.cell 8 true 2] (zq [Qw 4 0, Qw 5 1, QK 8] (zq [Qm 12 8 4, Qm 13 8 5, Qa 14 3, QO 15 246 12 13 14, Qa 9 15] (.seq (.draw 0 [Qg 0 16 5 5, Qc 2 18 2, Qc 3 19 3, Qc 6 22 9, Qg 9 25 1 4, Qc 12 28 2, ⟨13, false, [], ⟨some 29, .len (.tmp 28), none⟩⟩, QX 14 30 29 1, QL 1 17 16, QD 4 20 8 4, QD 5 21 8 5, QL 10 26 25, ⟨7, false, [1, 10], ⟨some 23, .call (.const (.func 241 [] [])) [.tmp 20, .tmp 21, .tmp 22], none⟩⟩, Wg 8 24 19 23, WL 11 27 24 26, WR 15 31 27 30, Qr 16 32 1 18 31, Qh 17 33 32, QW 18 34 17 33, Qc 19 10 34]) (.seq (zq [Qm 35 8 4, Qm 36 8 5, Qa 37 9, QO 38 248 35 36 37, Qt 39 38 1] (zj 39 (.region [Qa 40 10, WQ 41 40, Qa 10 41]))) (zq [Qf 42 4 5, Qd 43 42, Qf 44 3 5, Qd 45 44, Qa 46 9, QO 47 139 43 45 46, QA 48 130 47, QK 11, Qn 2 11 48] (zq [Qa 49 10, Qf 50 0 11, Qd 51 50, QQ 52 49 51, Qa 53 10, Qf 54 1 11, Qd 55 54, QQ 56 53 55, QU 57 52 56, Qn 2 8 57] .ret))))))
def B252 : ABody := .mk 2 9 [.tmp 4] (zq [QN 4] (zq [Qa 5 0, Qa 6 1, Qk 7 259 5 6, We 8 7 0, Qa 4 8] .ret))
def B253 : ABody := .mk 1 9 [.tmp 3] (zq [Qw 2 0, QN 3] (zq [Qf 4 0 2, Qd 5 4, Qf 6 0 1, Qd 7 6, WG 8 5 7, Qa 3 8] .ret))
def B254 : ABody := .mk 1 23 [.tmp 3] (zq [Qw 2 0, QN 3] (zq [Qf 4 0 2, Qd 5 4, Qf 6 1 2, Qd 7 6, ⟨some 8, .max [.tmp 5, .tmp 7], none⟩, Qf 9 6 1, Qd 10 9, Wj 11 8 10, Qa 12 11, QP 13 0 2 12, QH 14 13 12, QP 15 1 2 12, QH 16 15 12, ⟨some 17, .min [.tmp 14, .tmp 16], some (12, false)⟩, QP 18 6 1 12, QH 19 18 12, ⟨some 20, .un .neg (.tmp 19), some (12, false)⟩, ⟨some 21, .bin .lss (.tmp 17) (.tmp 20), some (12, false)⟩, Qp 22 12 21, Qa 3 22] .ret))
def B255 : ABody := .mk 2 9 [.tmp 4] (zq [QN 4] (zq [Qa 5 0, Qa 6 1, Qk 7 260 5 6, We 8 7 0, Qa 4 8] .ret))
def B256 : ABody := .mk 0 7 [] (.draw 5 [QL 0 3 0, QD 1 4 17 1, Qh 2 5 2, Q6 3 0 6 257 4 5, ⟨4, false, [], ⟨none, .comm 2 [.tmp 3, .tmp 6], none⟩⟩])
def B257 : ABody := .mk 2 51 [.tmp 4] (zq [Qw 2 0, Qw 3 1, Qo 4] (zq [Qd 11 3, Wp 12 11, ⟨some 5, .alloc [.nilslice], none⟩, Qn 1 5 12] (.seq (zq [Qm 13 17 2, Qd 14 3, Qk 15 261 13 14] (.block 0 (.rangeFunc (.tmp 15) [16, 17] (zq [Qa 6 16] (.region [Qa 7 17])) (.block 1 (zq [Qm 18 17 2, Qa 19 6, Qk 20 250 18 19, QK 8, Qn 2 8 20] (zq [Qa 21 7, ⟨some 22, .max [.tmp 21, .const (.int .i64 0)], none⟩, Qa 9 22] (.block 2 (.loop (.seq (.seq (.draw 0 [Qc 0 23 9, Qc 2 25 6, WZ 3 26 25 1, QD 1 24 17 2, QL 5 28 3, Q6 4 5 27 239 24 26, WR 6 29 27 28, WK 7 30 23 29]) (zk 30 .skip (.exit 2))) (.seq (.block 3 (zq [Qm 33 17 2, Qa 34 9, Qa 35 7, Wq 36 34 35, Qk 37 249 33 36, Qa 10 37] (.region [Qd 38 5, Qa 39 9, Qa 40 10, Qf 41 0 8, Qd 42 41, QQ 43 40 42, Qa 44 10, Qf 45 1 8, Qd 46 45, QQ 47 44 46, QU 48 43 47, QC 49 2 38 39, Qn 2 49 48]))) (.region [Qa 31 9, Qj 32 31 1, Qa 9 32]))))))))))) (zq [Qd 50 5, Qa 4 50] .ret))))
def B258 : ABody := .mk 2 16 [.tmp 4] (zq [Qb 4 0] (zq [Qa 6 0, Qa 7 1, WU 8 6 7, Qa 5 8] (.seq (zq [Qa 9 0, Qa 10 1, ⟨some 11, .bin .rem (.tmp 9) (.tmp 10), none⟩, QB 12 11 0] (zj 12 (.region [Qa 13 5, QV 14 13 1, Qa 5 14]))) (zq [Qa 15 5, Qa 4 15] .ret))))
def B259 : ABody := .mk 2 19 [.tmp 4] (zq [Qb 4 0] (.seq (zq [Qa 6 0, Qx 7 6, Qb 8 0] (.block 0 (.loop (zq [Qv 9 8 7] (.seq (zk 9 .skip (.exit 0)) (.seq (.block 1 (zq [Qa 10 8, Qa 5 10] (zq [Qa 11 1, Qa 12 0, Qa 13 5, QC 14 8 12 13, Qm 15 8 14, WN] (zj 16 (zq [Qa 17 5, Qa 4 17] .ret))))) (.region [Qj 18 8 1, Qa 8 18]))))))) (zq [Qb 4 (-1)] .ret)))
def B260 : ABody := .mk 2 19 [.tmp 4] (zq [Qb 4 0] (.seq (zq [Qa 6 0, Qx 7 6, Qb 8 0] (.block 0 (.loop (zq [Qv 9 8 7] (.seq (zk 9 .skip (.exit 0)) (.seq (.block 1 (zq [Qa 10 8, Qa 5 10] (zq [Qa 11 1, Qa 12 0, Qa 13 5, QC 14 2 12 13, Qm 15 2 14, WN] (zj 16 (zq [Qa 17 5, Qa 4 17] .ret))))) (.region [Qj 18 8 1, Qa 8 18]))))))) (zq [Qb 4 (-1)] .ret)))
def B261 : ABody := .mk 2 6 [.tmp 4] (zq [Qw 2 0, Qw 3 1, ⟨some 4, .mv (.const .nilfunc), none⟩] (zq [⟨some 5, .mkfunc 262 [] [.tmp 2, .tmp 3], none⟩, Qa 4 5] .ret))
def B262 : ABody := .mk 1 21 [] (zq [Qm 5 17 1, Q3 6 245 5 0, Qa 4 6] (.block 0 (.loop (.seq (.seq (.draw 0 [Qc 1 8 4, QD 0 7 17 1, QL 3 10 2, Q6 2 3 9 239 7 8, WK 4 11 9 10]) (zk 11 .skip (.exit 0))) (.seq (.block 1 (zq [Qa 14 0, Qa 15 4, Qm 16 17 1, Qa 17 4, Qk 18 239 16 17, ⟨some 19, .call (.tmp 14) [.tmp 15, .tmp 18], none⟩, Q2 20 19] (zj 20 .ret))) (.region [Qa 12 4, Qj 13 12 1, Qa 4 13]))))))
def tabL : List (Nat × ABody) := [(37, B37), (50, B50), (70, B70), (71, B71), (72, B72), (73, B73), (74, B74), (75, B75), (76, B76), (77, B77), (81, B81), (89, B89), (90, B90), (91, B91), (92, B92), (93, B93), (95, B95), (99, B99), (100, B100), (101, B101), (102, B102), (104, B104), (105, B105), (123, B123), (130, B130), (135, B135), (139, B139), (141, B141), (143, B143), (146, B146), (149, B149), (151, B151), (152, B152), (153, B153), (211, B211), (217, B217), (218, B218), (219, B219), (220, B220), (221, B221), (223, B223), (224, B224), (225, B225), (229, B229), (231, B231), (232, B232), (233, B233), (234, B234), (237, B237), (238, B238), (239, B239), (241, B241), (242, B242), (243, B243), (244, B244), (245, B245), (246, B246), (247, B247), (248, B248), (249, B249), (250, B250), (251, B251), (252, B252), (253, B253), (254, B254), (255, B255), (256, B256), (257, B257), (258, B258), (259, B259), (260, B260), (261, B261), (262, B262)]
def tab (g : Nat) : Option ABody := (tabL.find? fun p => p.1 == g).map (·.2)
def Has (C : Ctx) (T : List Nat) : Prop := ∀ g ∈ T, ∀ b, tab g = some b -> C.body g = some b
theorem Has.body {T : List Nat} (h : Has C T) {b : ABody} (hg : T.contains g = true) (hb : tab g = some b) : C.body g = some b := h g (by simpa using hg) b hb
theorem Has.sub {T T' : List Nat} (h : Has C T) (hs : T'.all (fun g => T.contains g) = true) : Has C T' := fun g hg => h g (by simpa using List.all_eq_true.1 hs g hg)
def TA : List Nat := [37, 50, 70, 71, 72, 73, 74, 75, 76, 77, 81, 89, 90, 91, 92, 93, 95, 99, 100, 101, 102, 104, 105, 123, 130, 135, 139, 141, 143, 146, 149, 151, 152, 153, 211, 217, 218, 219, 220, 221, 223, 224, 225, 229, 231, 232, 233, 234, 237, 238, 239, 241, 242, 243, 244, 245, 246, 247, 248, 249, 250, 251, 252, 253, 254, 255, 256, 257, 258, 259, 260, 261, 262]
theorem zf {T : List Nat} (g : Nat) (b : ABody) {Post : AV -> Heap -> Prop} (hC : Has C T) (hw : wp C b.ntmps none b.code (retO b.res Post) ⟨argT args, h, []⟩) (t : tab g = some b := by rfl) (c : T.contains g = true := by decide) (l : args.length.ble b.ntmps = true := by rfl) : ACalls C g args h Post := jdV (hC.body c t) (Nat.le_of_ble_eq_true l) hw
end Go.Ae
