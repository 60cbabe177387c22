/- Texts of the proof of NttTransforms, part 7: a second reading of the lowered code, proved sound, and what the functions compute. -/
import Derived.IntWalk
import Derived.Test.YtbmoggkjijnajaaP6

/- What operations give on numbers and on heaps, as rules for the simplifier. -/
namespace Go.Ae

/-! ### Numbers -/
theorem w_i64 {x : Int} (h : -9223372036854775808 ≤ x ∧ x ≤ 9223372036854775807) : IntKind.i64.wrap x = x := IntWalk.i64_in x h
theorem w_i32 {x : Int} (h : -2147483648 ≤ x ∧ x ≤ 2147483647) : IntKind.i32.wrap x = x := IntWalk.i32_in x h
theorem w_u8 {x : Int} (h : 0 ≤ x ∧ x ≤ 255) : IntKind.u8.wrap x = x := IntWalk.u8_in x h
theorem w_u32 {x : Int} (h : 0 ≤ x ∧ x ≤ 4294967295) : IntKind.u32.wrap x = x := IntWalk.u32_in x h
theorem w_u64 {x : Int} (h : 0 ≤ x ∧ x ≤ 18446744073709551615) : IntKind.u64.wrap x = x := IntWalk.u64_in x h
theorem tdiv_nn {a b : Int} (h : 0 ≤ a) : a.tdiv b = a / b := Int.tdiv_eq_ediv_of_nonneg h
theorem tmod_nn {a b : Int} (h : 0 ≤ a) : a.tmod b = a % b := Int.tmod_eq_emod_of_nonneg h
theorem fdiv_nn {a b : Int} (h : 0 ≤ b) : a.fdiv b = a / b := Int.fdiv_eq_ediv_of_nonneg a h
theorem bits_i64 : IntKind.i64.bits = 64 := rfl
theorem bits_u64 : IntKind.u64.bits = 64 := rfl
theorem bits_u32 : IntKind.u32.bits = 32 := rfl
theorem bits_i32 : IntKind.i32.bits = 32 := rfl
theorem bits_u8 : IntKind.u8.bits = 8 := rfl
theorem min_shift {b : Int} {n : Nat} (h : b ≤ n) : min b.toNat n = b.toNat := by omega

section
variable {k k' : IntKind} {a b : Int}
theorem bin_add : binA .add (.int k a) (.int k b) = some (.int k (k.wrap (a + b))) := by simp [binA, arithA]
theorem bin_sub : binA .sub (.int k a) (.int k b) = some (.int k (k.wrap (a - b))) := by simp [binA, arithA]
theorem bin_mul : binA .mul (.int k a) (.int k b) = some (.int k (k.wrap (a * b))) := by simp [binA, arithA]
theorem bin_quo (h : b ≠ 0) : binA .quo (.int k a) (.int k b) = some (.int k (k.wrap (a.tdiv b))) := by simp [binA, arithA, h]
theorem bin_rem (h : b ≠ 0) : binA .rem (.int k a) (.int k b) = some (.int k (a.tmod b)) := by simp [binA, arithA, h]
theorem bin_and : binA .and (.int k a) (.int k b) = some (.int k (bitsA .and k a b)) := by simp [binA, arithA]
theorem bin_or : binA .or (.int k a) (.int k b) = some (.int k (bitsA .or k a b)) := by simp [binA, arithA]
theorem bin_xor : binA .xor (.int k a) (.int k b) = some (.int k (bitsA .xor k a b)) := by simp [binA, arithA]
theorem bin_andNot : binA .andNot (.int k a) (.int k b) = some (.int k (bitsA .andNot k a b)) := by simp [binA, arithA]
theorem bin_eql : binA .eql (.int k a) (.int k b) = some (.bool (decide (a = b))) := by
  simp only [binA, arithA, if_true]; congr 2
theorem bin_neq : binA .neq (.int k a) (.int k b) = some (.bool (decide (a ≠ b))) := by
  simp only [binA, arithA, if_true]; congr 2; simp [bne, Bool.beq_eq_decide_eq]
theorem bin_lss : binA .lss (.int k a) (.int k b) = some (.bool (decide (a < b))) := by simp [binA, arithA]
theorem bin_leq : binA .leq (.int k a) (.int k b) = some (.bool (decide (a ≤ b))) := by simp [binA, arithA]
theorem bin_gtr : binA .gtr (.int k a) (.int k b) = some (.bool (decide (b < a))) := by simp [binA, arithA]
theorem bin_geq : binA .geq (.int k a) (.int k b) = some (.bool (decide (b ≤ a))) := by simp [binA, arithA]
theorem bin_shl (h : 0 ≤ b) : binA .shl (.int k a) (.int k' b) = some (.int k (k.wrap (a * 2 ^ (min b.toNat k.bits)))) := by
  simp only [binA]; rw [if_neg (by omega)]
theorem bin_shr (h : 0 ≤ b) : binA .shr (.int k a) (.int k' b) = some (.int k (a.fdiv (2 ^ (min b.toNat k.bits)))) := by
  simp only [binA]; rw [if_neg (by omega)]
theorem bits_and1 (h : 0 ≤ a ∧ a ≤ 9223372036854775807) : bitsA .and .i64 a 1 = a % 2 := by
  obtain ⟨n, rfl⟩ := Int.eq_ofNat_of_zero_le h.1
  have hn : n < 2 ^ 64 := by omega
  have e1 : (BitVec.ofInt 64 (n : Int)).toNat = n := by
    rw [BitVec.toNat_ofInt]
    have : ((n : Int) % ((2 ^ 64 : Nat) : Int)).toNat = n := by
      rw [Int.emod_eq_of_lt (by omega) (by exact_mod_cast hn)]; simp
    exact this
  have e2 : (BitVec.ofInt 64 (1 : Int)).toNat = 1 := by decide
  show IntKind.i64.wrap ((BitVec.ofInt 64 (n : Int) &&& BitVec.ofInt 64 1).toNat : Int) = _
  rw [BitVec.toNat_and, e1, e2, Nat.and_one_is_mod, w_i64 (by omega)]
  omega
theorem un_neg : unA .neg (.int k a) = some (.int k (k.wrap (0 - a))) := rfl
theorem un_not {b : Bool} : unA .not (.bool b) = some (.bool !b) := rfl
theorem un_xor : unA .xor (.int k a) = some (.int k (bitsA .xor k (if k.signed then -1 else k.max) a)) := rfl
theorem conv_int : convA k (.int k' a) = some (.int k (k.wrap a)) := rfl
theorem eqb_ff {a b : Bool} : eqbA false (.bool a) (.bool b) = some (.bool (a == b)) := rfl
theorem eqb_tt {a b : Bool} : eqbA true (.bool a) (.bool b) = some (.bool !(a == b)) := rfl
theorem pick_tt {x y : AV} : pickA x y (.bool true) = some x := rfl
theorem pick_ff {x y : AV} : pickA x y (.bool false) = some y := rfl
theorem pick_dt {x y : AV} {c : Prop} [Decidable c] (h : c) : pickA x y (.bool (decide c)) = some x := by simp [pickA, h]
theorem pick_df {x y : AV} {c : Prop} [Decidable c] (h : ¬c) : pickA x y (.bool (decide c)) = some y := by simp [pickA, h]
theorem pick_vt {x y : AV} {b : Bool} (h : b = true) : pickA x y (.bool b) = some x := by simp [pickA, h]
theorem pick_vf {x y : AV} {b : Bool} (h : ¬ b = true) : pickA x y (.bool b) = some y := by simp [pickA, h]
theorem ext_tuple {vs : List AV} {i : Nat} : extA i (.tuple vs) = vs[i]? := rfl
theorem max_two : maxA [.int k a, .int k b] = some (.int k (max a b)) := by
  simp only [maxA, List.foldl, maxStep, if_true]; congr 2; split <;> omega
theorem max_three {c : Int} : maxA [.int k a, .int k b, .int k c] = some (.int k (max (max a b) c)) := by
  simp only [maxA, List.foldl, maxStep, if_true]; congr 2; split <;> split <;> omega
theorem min_two : minA [.int k a, .int k b] = some (.int k (min a b)) := by
  simp only [minA, List.foldl, minStep, if_true]; congr 2; split <;> omega
theorem min_three {c : Int} : minA [.int k a, .int k b, .int k c] = some (.int k (min (min a b) c)) := by
  simp only [minA, List.foldl, minStep, if_true]; congr 2; split <;> split <;> omega
end

/-! ### Heaps -/
/-- What was there is as it was. -/
structure HSub (h h' : Heap) : Prop where
  size : h.size ≤ h'.size
  get : ∀ i, i < h.size → h'.get i = h.get i

theorem HSub.refl (h : Heap) : HSub h h := ⟨Nat.le_refl _, fun _ _ => rfl⟩
theorem HSub.trans {a b c : Heap} (x : HSub a b) (y : HSub b c) : HSub a c := ⟨Nat.le_trans x.size y.size, fun i hi => (y.get i (Nat.lt_of_lt_of_le hi x.size)).trans (x.get i hi)⟩
theorem get_push_eq {h : Heap} {b : ABlk} {i : Nat} (e : i = h.size) : (h.push b).get i = some b := by simp [Heap.get_push, e]
theorem get_push_lt {h : Heap} {b : ABlk} {i : Nat} (e : i < h.size) : (h.push b).get i = h.get i := by rw [Heap.get_push, if_neg (by omega)]
theorem get_put_eq {h : Heap} {b : ABlk} {i j : Nat} (e : j = i) (hi : i < h.size) : (h.put i b).get j = some b := by rw [Heap.get_put _ _ _ _ hi, if_pos e]
theorem get_put_ne {h : Heap} {b : ABlk} {i j : Nat} (e : j ≠ i) : (h.put i b).get j = h.get j := by
  show (if j = i then _ else h.get j) = _
  rw [if_neg e]
theorem HSub.push {h h' : Heap} (x : HSub h h') (b : ABlk) : HSub h (h'.push b) := ⟨by simp only [Heap.size_push]; have := x.size; omega, fun i hi => by rw [get_push_lt (Nat.lt_of_lt_of_le hi x.size)]; exact x.get i hi⟩
theorem HSub.put {h h' : Heap} (x : HSub h h') {i : Nat} (hi : h.size ≤ i) (b : ABlk) : HSub h (h'.put i b) := ⟨x.size, fun j hj => by rw [get_put_ne (by omega)]; exact x.get j hj⟩
theorem HSub.reserve {h h' : Heap} (x : HSub h h') (n : Nat) : HSub h (h'.reserve n) := ⟨by simp only [Heap.size_reserve]; have := x.size; omega, fun i hi => x.get i hi⟩
theorem HSub.push1 (h : Heap) (b : ABlk) : HSub h (h.push b) := (HSub.refl h).push b

theorem heap_eq {h h' : Heap} (hs : h.size = h'.size) (hg : ∀ i, h.get i = h'.get i) : h = h' := by
  obtain ⟨s, g, w⟩ := h; obtain ⟨s', g', w'⟩ := h'
  cases hs
  have : g = g' := funext hg
  cases this; rfl
theorem put_put {h : Heap} {i : Nat} {b b' : ABlk} : (h.put i b).put i b' = h.put i b' := by
  refine heap_eq rfl fun j => ?_
  show (if j = i then _ else if j = i then _ else h.get j) = if j = i then _ else h.get j
  split <;> rfl
theorem push_put {h : Heap} {i : Nat} {b b' : ABlk} (e : i = h.size) : (h.push b).put i b' = h.push b' := by
  subst e
  refine heap_eq rfl fun j => ?_
  show (if j = h.size then (if h.size < h.size + 1 then some b' else none) else (if j = h.size then some b else h.get j)) = (if j = h.size then some b' else h.get j)
  split
  · rw [if_pos (by omega)]
  · rfl
theorem push_put_lt {h : Heap} {i : Nat} {b b' : ABlk} (e : i < h.size) : (h.push b).put i b' = (h.put i b').push b := by
  refine heap_eq rfl fun j => ?_
  show (if j = i then (if i < h.size + 1 then some b' else none) else (if j = h.size then some b else h.get j)) = (if j = h.size then some b else (if j = i then (if i < h.size then some b' else none) else h.get j))
  by_cases e1 : j = i
  · subst e1
    rw [if_pos rfl, if_pos rfl, if_pos e, if_pos (by omega), if_neg (by omega)]
  · rw [if_neg e1, if_neg e1]

/-- Numbers as cells. -/
def ints (l : List Int) : List AV := l.map (AV.int .i64)
theorem ints_length {l : List Int} : (ints l).length = l.length := by simp [ints]
theorem ints_getD {l : List Int} {k : Nat} : (ints l)[k]? = (l[k]?).map (AV.int .i64) := by simp [ints]
theorem ints_get {l : List Int} {k : Nat} (h : k < l.length) : (ints l)[k]? = some (.int .i64 (l.getD k 0)) := by simp [ints, h]
theorem ints_set {l : List Int} {k : Nat} {x : Int} : (ints l).set k (.int .i64 x) = ints (l.set k x) := by simp [ints, List.map_set]
theorem ints_append {l m : List Int} : ints l ++ ints m = ints (l ++ m) := by simp [ints]
theorem ints_snoc {l : List Int} {x : Int} : ints l ++ [.int .i64 x] = ints (l ++ [x]) := by simp [ints]
theorem ints_nil : ints [] = [] := rfl
theorem ints_cons {l : List Int} {x : Int} : ints (x :: l) = .int .i64 x :: ints l := rfl
theorem ints_replicate {n : Nat} {x : Int} : List.replicate n (AV.int .i64 x) = ints (List.replicate n x) := by simp [ints]
theorem ints_cut {l : List Int} {o n : Nat} : cut (ints l) o n = ints ((l.drop o).take n) := by simp [ints, cut]
theorem ints_one {l : List Int} : (ints l).all AV.one = true := by simp [ints, AV.one]
theorem cut_all {l : List AV} {n : Nat} (h : n = l.length) : cut l 0 n = l := by subst h; simp [cut]
theorem zeros_one {n : Nat} {x : AV} : zerosA n [x] = List.replicate n x := rfl

/-- A slice of some value that can be read: n elements of sz cells each. -/
def SL (h : Heap) (sz : Nat) (v : AV) (n : Nat) (cs : List AV) : Prop :=
  cs.length = n * sz ∧ n < 9223372036854775808 ∧ (v = .nilslice ∧ n = 0 ∨ ∃ i o c vs wr u, v = .slice i o n c ∧ h.get i = some (.cells vs wr u) ∧ o + n * sz ≤ vs.length ∧ cut vs o (n * sz) = cs ∧
    match c with | .known c => n ≤ c | .unk l => wr = true ∧ u = sz ∧ o = l * sz)

/-- A list of numbers that can be read. -/
def RI (h : Heap) (v : AV) (l : List Int) : Prop := SL h 1 v l.length (ints l)

/-- The address of an element. -/
def elA (sz : Nat) (v : AV) (k : Nat) : AV :=
  match v with
  | .slice i o _ _ => .ptr i (o + k * sz)
  | _ => .undef
theorem elA_slice {sz i o n c k} : elA sz (.slice i o n c) k = .ptr i (o + k * sz) := rfl

section
variable {h h' : Heap} {sz n : Nat} {v : AV} {cs : List AV} {l : List Int}
theorem SL.len (H : SL h sz v n cs) : lenA v = some (.int .i64 n) := by
  obtain ⟨_, _, ⟨rfl, rfl⟩ | ⟨i, o, c, vs, wr, u, rfl, _⟩⟩ := H <;> rfl
theorem SL.cells (H : SL h sz v n cs) : v.cells = [v] := by
  obtain ⟨_, _, ⟨rfl, rfl⟩ | ⟨i, o, c, vs, wr, u, rfl, _⟩⟩ := H <;> rfl
theorem SL.one (H : SL h sz v n cs) : v.one = true := by
  obtain ⟨_, _, ⟨rfl, rfl⟩ | ⟨i, o, c, vs, wr, u, rfl, _⟩⟩ := H <;> rfl
theorem SL.content (H : SL h sz v n cs) : contentA h sz v = some (n, cs) := by
  obtain ⟨hl, hlt, ⟨rfl, rfl⟩ | ⟨i, o, c, vs, wr, u, rfl, hg, hle, hc, _⟩⟩ := H
  · have : cs = [] := List.eq_nil_of_length_eq_zero (by omega)
    subst this; rfl
  · simp only [contentA, hg, if_pos hle, hc]
theorem SL.idx (H : SL h sz v n cs) {kk : IntKind} {k : Int} (hk : 0 ≤ k ∧ k < n) : idxA sz v (.int kk k) = some (elA sz v k.toNat) := by
  obtain ⟨_, _, ⟨rfl, rfl⟩ | ⟨i, o, c, vs, wr, u, rfl, _⟩⟩ := H
  · omega
  · simp only [idxA, if_pos hk, elA]
theorem SL.mono (H : SL h sz v n cs) (hs : HSub h h') : SL h' sz v n cs := by
  obtain ⟨hl, hlt, ⟨rfl, rfl⟩ | ⟨i, o, c, vs, wr, u, rfl, hg, r⟩⟩ := H
  · exact ⟨hl, hlt, .inl ⟨rfl, rfl⟩⟩
  · exact ⟨hl, hlt, .inr ⟨i, o, c, vs, wr, u, rfl, (hs.get i (Heap.lt_of_get hg)).trans hg, r⟩⟩
theorem SL.load1 (H : SL h 1 v n cs) {k : Nat} (hk : k < n) : loadA h false 1 (elA 1 v k) = cs[k]? := by
  obtain ⟨hl, hlt, ⟨rfl, rfl⟩ | ⟨i, o, c, vs, wr, u, rfl, hg, hle, hc, _⟩⟩ := H
  · omega
  · subst hc
    simp only [elA, loadA, hg, partA, cut, Bool.false_eq_true, if_false, Nat.mul_one]
    rw [List.getElem?_take_of_lt (by omega), List.getElem?_drop]
/-- A whole element of several cells. -/
theorem SL.loadA (H : SL h sz v n cs) {k : Nat} (hk : k < n) : loadA h true sz (elA sz v k) = some (.agg (cut cs (k * sz) sz)) := by
  obtain ⟨hl, hlt, ⟨rfl, rfl⟩ | ⟨i, o, c, vs, wr, u, rfl, hg, hle, hc, _⟩⟩ := H
  · omega
  · subst hc
    have h1 : (k + 1) * sz ≤ n * sz := Nat.mul_le_mul_right sz hk
    have h2 : (k + 1) * sz = k * sz + sz := by rw [Nat.add_mul, Nat.one_mul]
    simp only [elA, Ae.loadA, hg, partA, if_true]
    rw [if_pos (by omega)]
    congr 2
    simp only [cut, List.drop_take, List.drop_drop, List.take_take]
    rw [show min sz (n * sz - k * sz) = sz by omega]
/-- A field of an element. -/
theorem SL.loadF (H : SL h sz v n cs) {k off : Nat} (hk : k < n ∧ off < sz) : Ae.loadA h false 1 (.ptr (match v with | .slice i _ _ _ => i | _ => 0) ((match v with | .slice _ o _ _ => o | _ => 0) + k * sz + off)) = cs[k * sz + off]? := by
  obtain ⟨hl, hlt, ⟨rfl, rfl⟩ | ⟨i, o, c, vs, wr, u, rfl, hg, hle, hc, _⟩⟩ := H
  · omega
  · subst hc
    have h1 : (k + 1) * sz ≤ n * sz := Nat.mul_le_mul_right sz hk.1
    have h2 : (k + 1) * sz = k * sz + sz := by rw [Nat.add_mul, Nat.one_mul]
    simp only [Ae.loadA, hg, partA, cut, Bool.false_eq_true, if_false]
    rw [List.getElem?_take_of_lt (by omega), List.getElem?_drop, Nat.add_assoc]

theorem RI.len (H : RI h v l) : lenA v = some (.int .i64 l.length) := SL.len H
theorem RI.cells (H : RI h v l) : v.cells = [v] := SL.cells H
theorem RI.one (H : RI h v l) : v.one = true := SL.one H
theorem RI.content (H : RI h v l) : contentA h 1 v = some (l.length, ints l) := SL.content H
theorem RI.idx (H : RI h v l) {kk : IntKind} {k : Int} (hk : 0 ≤ k ∧ k < l.length) : idxA 1 v (.int kk k) = some (elA 1 v k.toNat) := SL.idx H hk
theorem RI.mono (H : RI h v l) (hs : HSub h h') : RI h' v l := SL.mono H hs
theorem RI.load (H : RI h v l) {k : Nat} (hk : k < l.length) : Ae.loadA h false 1 (elA 1 v k) = some (.int .i64 (l.getD k 0)) := by
  rw [SL.load1 H hk, ints_get hk]
theorem RI.loadS (H : RI h v l) (hs : HSub h h') {k : Nat} (hk : k < l.length) : Ae.loadA h' false 1 (elA 1 v k) = some (.int .i64 (l.getD k 0)) := (H.mono hs).load hk
/-- The same in any later heap. -/
theorem RI.loadC (H : RI h v l) : ∀ (h' : Heap) (k : Nat), HSub h h' → k < l.length → Ae.loadA h' false 1 (elA 1 v k) = some (.int .i64 (l.getD k 0)) := fun _ _ hs hk => (H.mono hs).load hk
theorem RI.contentC (H : RI h v l) : ∀ (h' : Heap), HSub h h' → contentA h' 1 v = some (l.length, ints l) := fun _ hs => (H.mono hs).content
theorem RI.nil : RI h .nilslice [] := ⟨rfl, by decide, .inl ⟨rfl, rfl⟩⟩
theorem SL.lt (H : SL h sz v n cs) : n < 9223372036854775808 := H.2.1
theorem RI.lt (H : RI h v l) : l.length < 9223372036854775808 := H.2.1
theorem RI.known {i : Nat} {wr : Bool} {u c m : Nat} (hg : h.get i = some (.cells (ints l) wr u)) (hm : m = l.length ∧ m < 9223372036854775808) (hc : m ≤ c) : RI h (.slice i 0 m (.known c)) l := by
  obtain ⟨rfl, hm⟩ := hm
  refine ⟨by simp [ints], hm, .inr ⟨i, 0, _, _, wr, u, rfl, hg, by simp [ints], ?_, hc⟩⟩
  exact cut_all (by simp [ints])
theorem RI.unk {i m : Nat} (hg : h.get i = some (.cells (ints l) true 1)) (hm : m = l.length ∧ m < 9223372036854775808) : RI h (.slice i 0 m (.unk 0)) l := by
  obtain ⟨rfl, hm⟩ := hm
  refine ⟨by simp [ints], hm, .inr ⟨i, 0, _, _, true, 1, rfl, hg, by simp [ints], ?_, rfl, rfl, rfl⟩⟩
  exact cut_all (by simp [ints])
end

/-! ### Loads, stores, new rows -/
def loadB (agg : Bool) (n o : Nat) : Option ABlk → Option AV
  | some (.cells vs _ _) => partA agg vs o n
  | _ => none
theorem load_ptr {h agg n i o} : loadA h agg n (.ptr i o) = loadB agg n o (h.get i) := by
  simp only [loadA, loadB]
  cases h.get i with
  | none => rfl
  | some b => cases b <;> rfl
theorem loadB_one {n o vs wr u} : loadB false n o (some (.cells vs wr u)) = vs[o]? := rfl
theorem loadB_agg {n o vs wr u} (h : o + n ≤ vs.length) : loadB true n o (some (.cells vs wr u)) = some (.agg (cut vs o n)) := by simp only [loadB, partA, if_true, if_pos h]
def storeB (h : Heap) (i n o : Nat) (v : AV) : Option ABlk → Option Heap
  | some (.cells vs true u) => if v.cells.length = n ∧ o + n ≤ vs.length ∧ v.cells.all AV.one = true then some (h.put i (.cells (splice vs o v.cells) true u)) else none
  | _ => none
theorem store_ptr {h n i o v} : storeA h n (.ptr i o) v = storeB h i n o v (h.get i) := by
  simp only [storeA, storeB]
  cases h.get i with
  | none => rfl
  | some b => cases b with
    | cells vs wr u => cases wr <;> rfl
    | _ => rfl
theorem storeB_one {h i o v vs u} (hv : v.cells = [v] ∧ v.one = true ∧ o < vs.length) : storeB h i 1 o v (some (.cells vs true u)) = some (h.put i (.cells (vs.set o v) true u)) := by
  simp only [storeB, hv.1]
  rw [if_pos ⟨rfl, hv.2.2, by simp [hv.2.1]⟩]; rfl
theorem storeB_int {h i o k x vs u} (hv : o < vs.length) : storeB h i 1 o (.int k x) (some (.cells vs true u)) = some (h.put i (.cells (vs.set o (.int k x)) true u)) := storeB_one ⟨rfl, rfl, hv⟩
theorem storeB_bool {h i o x vs u} (hv : o < vs.length) : storeB h i 1 o (.bool x) (some (.cells vs true u)) = some (h.put i (.cells (vs.set o (.bool x)) true u)) := storeB_one ⟨rfl, rfl, hv⟩
theorem storeB_slice {h i o j p n c vs u} (hv : o < vs.length) : storeB h i 1 o (.slice j p n c) (some (.cells vs true u)) = some (h.put i (.cells (vs.set o (.slice j p n c)) true u)) := storeB_one ⟨rfl, rfl, hv⟩
theorem storeB_nil {h i o vs u} (hv : o < vs.length) : storeB h i 1 o .nilslice (some (.cells vs true u)) = some (h.put i (.cells (vs.set o .nilslice) true u)) := storeB_one ⟨rfl, rfl, hv⟩
theorem storeB_agg {h i o n xs vs u} (h1 : xs.length = n) (h2 : o + n ≤ vs.length) (h3 : xs.all AV.one = true) : storeB h i n o (.agg xs) (some (.cells vs true u)) = some (h.put i (.cells (splice vs o xs) true u)) := by
  simp only [storeB, AV.cells]
  exact if_pos ⟨h1, h2, h3⟩
theorem storeB_var {h i o v vs u} (hc : v.cells = [v]) (h1 : v.one = true) (ho : o < vs.length) : storeB h i 1 o v (some (.cells vs true u)) = some (h.put i (.cells (vs.set o v) true u)) := storeB_one ⟨hc, h1, ho⟩
theorem one_int {k n} : AV.one (.int k n) = true := rfl
theorem one_bool {b} : AV.one (.bool b) = true := rfl
theorem one_ptr {i o} : AV.one (.ptr i o) = true := rfl
theorem one_slice {i o n c} : AV.one (.slice i o n c) = true := rfl
theorem one_nil : AV.one .nilslice = true := rfl
theorem one_func {g f c} : AV.one (.func g f c) = true := rfl
theorem splice_one {vs o c} : splice vs o [c] = vs.set o c := rfl
theorem splice_two {vs o x y cs} : splice vs o (x :: y :: cs) = vs.take o ++ (x :: y :: cs) ++ vs.drop (o + (cs.length + 2)) := rfl
theorem cut_nil {vs o} : cut vs o 0 = [] := by simp [cut]
theorem cut_cons {x vs n} : cut (x :: vs) 0 (n + 1) = x :: cut vs 0 n := rfl
theorem cut_succ {x vs o n} : cut (x :: vs) (o + 1) n = cut vs o n := rfl
theorem fill_nil {z} : fillA z [] = some z := rfl
theorem fill_one {z o v rest} (hv : v.cells = [v]) (ho : o < z.length) : fillA z ((o, 1, v) :: rest) = fillA (z.set o v) rest := by
  simp only [fillA, hv]
  rw [if_pos ⟨rfl, ho⟩]
  congr 1
  rw [List.set_eq_take_append_cons_drop, if_pos ho, List.append_assoc]; rfl
theorem fill_int {z o k n rest} (ho : o < z.length) : fillA z ((o, 1, .int k n) :: rest) = fillA (z.set o (.int k n)) rest := fill_one rfl ho
theorem fill_bool {z o b rest} (ho : o < z.length) : fillA z ((o, 1, .bool b) :: rest) = fillA (z.set o (.bool b)) rest := fill_one rfl ho
theorem fill_ptr {z o i p rest} (ho : o < z.length) : fillA z ((o, 1, .ptr i p) :: rest) = fillA (z.set o (.ptr i p)) rest := fill_one rfl ho
theorem fill_slice {z o i p n c rest} (ho : o < z.length) : fillA z ((o, 1, .slice i p n c) :: rest) = fillA (z.set o (.slice i p n c)) rest := fill_one rfl ho
theorem fill_nilslice {z o rest} (ho : o < z.length) : fillA z ((o, 1, .nilslice) :: rest) = fillA (z.set o .nilslice) rest := fill_one rfl ho
theorem fill_func {z o g f c rest} (ho : o < z.length) : fillA z ((o, 1, .func g f c) :: rest) = fillA (z.set o (.func g f c)) rest := fill_one rfl ho
theorem fill_agg {z o n xs rest} (h1 : xs.length = n) (h2 : o + n ≤ z.length) : fillA z ((o, n, .agg xs) :: rest) = fillA (z.take o ++ xs ++ z.drop (o + n)) rest := by
  simp only [fillA, AV.cells]; exact if_pos ⟨h1, h2⟩
theorem storeO_some {h : Heap} : storeOA (some h) = some (.undef, h) := rfl
theorem alloc_none {z h} : allocA none z h = some (.ptr h.size 0, h.push (.cells z true 0)) := rfl
/-- A place that was kept for a new row. -/
def kept (n : Nat) (h : Heap) : Option ABlk → (Nat → Heap → (ABlk → Heap) → Option (AV × Heap)) → Option (AV × Heap)
  | none, f => if n < h.size then f n h (fun b => h.put n b) else none
  | some _, _ => none
theorem kept_none {n h f} (hn : n < h.size) : kept n h none f = f n h (fun b => h.put n b) := by simp [kept, hn]
theorem room_some {n : Nat} {h : Heap} : h.room (some n) = true ↔ h.get n = none ∧ n < h.size := by simp [Heap.room]
theorem alloc_some {z h n} : allocA (some n) z h = kept n h (h.get n) (fun n _ p => some (.ptr n 0, p (.cells z true 0))) := by
  simp only [allocA, room_some, kept]
  cases hg : h.get n with
  | none => by_cases hn : n < h.size <;> simp [hn, Heap.nid, Heap.new]
  | some b => simp
theorem buildS_none {n cs h} : buildSliceA none n (some cs) h = some (.slice h.size 0 n (.known n), h.push (.cells cs true 0)) := rfl
theorem buildS_some {n cs h i} : buildSliceA (some i) n (some cs) h = kept i h (h.get i) (fun i _ p => some (.slice i 0 n (.known n), p (.cells cs true 0))) := by
  simp only [buildSliceA, room_some, kept]
  cases hg : h.get i with
  | none => by_cases hn : i < h.size <;> simp [hn, Heap.nid, Heap.new]
  | some b => simp
theorem make_none {z : List AV} {bytes : Nat} {h : Heap} {k k' : IntKind} {l c : Int} (hl : 0 ≤ l ∧ l ≤ c ∧ c * bytes ≤ 140737488355328 ∧ c ≤ 140737488355328) : makeA none z bytes h (.int k l) (.int k' c) = some (.slice h.size 0 l.toNat (.known c.toNat), h.push (.cells (zerosA c.toNat z) true 0)) := by
  simp only [makeA]
  rw [if_pos ⟨hl.1, hl.2.1, hl.2.2.1, hl.2.2.2, rfl⟩]; rfl
theorem make_some {z : List AV} {bytes : Nat} {h : Heap} {k k' : IntKind} {l c : Int} {i : Nat} (hl : 0 ≤ l ∧ l ≤ c ∧ c * bytes ≤ 140737488355328 ∧ c ≤ 140737488355328) : makeA (some i) z bytes h (.int k l) (.int k' c) = kept i h (h.get i) (fun i _ p => some (.slice i 0 l.toNat (.known c.toNat), p (.cells (zerosA c.toNat z) true 0))) := by
  have h1 : (c * bytes ≤ 2 ^ 47) := hl.2.2.1
  have h2 : c ≤ 2 ^ 47 := hl.2.2.2
  simp only [makeA, room_some, kept]
  cases hg : h.get i with
  | none => by_cases hn : i < h.size <;> simp [hn, Heap.nid, Heap.new, hl.1, hl.2.1] <;> omega
  | some b => simp
theorem idx_slice {sz i o n c kk} {k : Int} (hk : 0 ≤ k ∧ k < (n : Nat)) : idxA sz (.slice i o n c) (.int kk k) = some (.ptr i (o + k.toNat * sz)) := by simp only [idxA, if_pos hk]
theorem idxArr_ptr {sz len i o kk} {k : Int} (hk : 0 ≤ k ∧ k < (len : Nat)) : idxArrA sz len (.ptr i o) (.int kk k) = some (.ptr i (o + k.toNat * sz)) := by simp only [idxArrA, if_pos hk]
theorem fieldAddr_ptr {off i o} : fieldAddrA off (.ptr i o) = some (.ptr i (o + off)) := rfl
theorem field_agg {agg off n vs} : fieldA agg off n (.agg vs) = partA agg vs off n := rfl
theorem part_one {vs o n} : partA false vs o n = vs[o]? := rfl
theorem part_agg {vs o n} (h : o + n ≤ vs.length) : partA true vs o n = some (.agg (cut vs o n)) := by simp only [partA, if_true, if_pos h]
theorem len_slice {i o n c} : lenA (.slice i o n c) = some (.int .i64 n) := rfl
theorem len_nil : lenA .nilslice = some (.int .i64 0) := rfl
theorem cells_int {k n} : AV.cells (.int k n) = [.int k n] := rfl
theorem cells_bool {b} : AV.cells (.bool b) = [.bool b] := rfl
theorem cells_agg {vs} : AV.cells (.agg vs) = vs := rfl
theorem cells_slice {i o n c} : AV.cells (.slice i o n c) = [.slice i o n c] := rfl
theorem cells_nil : AV.cells .nilslice = [.nilslice] := rfl
theorem cells_ptr {i o} : AV.cells (.ptr i o) = [.ptr i o] := rfl
theorem cells_func {g f c} : AV.cells (.func g f c) = [.func g f c] := rfl
theorem cells_yield {l} : AV.cells (.yield l) = [.yield l] := rfl

end Go.Ae


namespace Go.Ae
/-- skyfix/skyfixlaw10.NttTransforms -/
def B0 : ABody := (.mk 1 56 [(.tmp 2)] (.seq (.region [⟨(some 2), (.mv (.const (.bool false))), none⟩]) (.seq (.seq (.region [⟨(some 11), (.mv (.tmp 0)), none⟩, ⟨(some 12), (.len (.tmp 11)), none⟩, ⟨(some 13), (.bin .gtr (.tmp 12) (.const (.int .i64 130))), none⟩]) (.cond (.tmp 13) (.seq (.region [⟨(some 14), (.call (.const (.func 7 [] [])) []), none⟩, ⟨(some 2), (.mv (.tmp 14)), none⟩]) .ret) .skip)) (.seq (.region [⟨(some 16), (.mv (.tmp 0)), none⟩, ⟨(some 17), (.call (.const (.func 8 [] [])) [(.tmp 16)]), none⟩, ⟨(some 15), (.mv (.tmp 17)), none⟩, ⟨(some 18), (.extract (.tmp 15) 0), none⟩, ⟨(some 19), (.extract (.tmp 15) 1), none⟩, ⟨(some 3), (.mv (.tmp 18)), none⟩, ⟨(some 4), (.mv (.tmp 19)), none⟩]) (.seq (.region [⟨(some 21), (.mv (.tmp 0)), none⟩, ⟨(some 22), (.call (.const (.func 9 [] [])) [(.tmp 21)]), none⟩, ⟨(some 20), (.mv (.tmp 22)), none⟩, ⟨(some 23), (.extract (.tmp 20) 0), none⟩, ⟨(some 24), (.extract (.tmp 20) 1), none⟩, ⟨(some 5), (.mv (.tmp 23)), none⟩, ⟨(some 6), (.mv (.tmp 24)), none⟩]) (.seq (.region [⟨(some 26), (.mv (.tmp 0)), none⟩, ⟨(some 27), (.call (.const (.func 10 [] [])) [(.tmp 26)]), none⟩, ⟨(some 25), (.mv (.tmp 27)), none⟩, ⟨(some 28), (.extract (.tmp 25) 0), none⟩, ⟨(some 29), (.extract (.tmp 25) 1), none⟩, ⟨(some 7), (.mv (.tmp 28)), none⟩, ⟨(some 8), (.mv (.tmp 29)), none⟩]) (.seq (.region [⟨(some 31), (.mv (.tmp 0)), none⟩, ⟨(some 32), (.call (.const (.func 11 [] [])) [(.tmp 31)]), none⟩, ⟨(some 30), (.mv (.tmp 32)), none⟩, ⟨(some 33), (.extract (.tmp 30) 0), none⟩, ⟨(some 34), (.extract (.tmp 30) 1), none⟩, ⟨(some 9), (.mv (.tmp 33)), none⟩, ⟨(some 10), (.mv (.tmp 34)), none⟩]) (.seq (.region [⟨(some 35), (.mv (.tmp 3)), none⟩, ⟨(some 36), (.mv (.tmp 5)), none⟩, ⟨(some 37), (.call (.const (.func 12 [] [])) [(.tmp 35), (.tmp 36)]), none⟩, ⟨(some 38), (.mv (.tmp 37)), none⟩, ⟨(some 39), (.mv (.tmp 4)), (some (38, true))⟩, ⟨(some 40), (.mv (.tmp 6)), (some (38, true))⟩, ⟨(some 41), (.bin .eql (.tmp 39) (.tmp 40)), (some (38, true))⟩, ⟨(some 42), (.pick (.tmp 38) (.tmp 41) (.const (.bool false))), none⟩, ⟨(some 43), (.mv (.tmp 42)), none⟩, ⟨(some 44), (.mv (.tmp 7)), (some (43, true))⟩, ⟨(some 45), (.mv (.tmp 9)), (some (43, true))⟩, ⟨(some 46), (.call (.const (.func 12 [] [])) [(.tmp 44), (.tmp 45)]), (some (43, true))⟩, ⟨(some 47), (.pick (.tmp 43) (.tmp 46) (.const (.bool false))), none⟩, ⟨(some 48), (.mv (.tmp 47)), none⟩, ⟨(some 49), (.mv (.tmp 8)), (some (48, true))⟩, ⟨(some 50), (.mv (.tmp 10)), (some (48, true))⟩, ⟨(some 51), (.bin .eql (.tmp 49) (.tmp 50)), (some (48, true))⟩, ⟨(some 52), (.pick (.tmp 48) (.tmp 51) (.const (.bool false))), none⟩, ⟨(some 53), (.mv (.tmp 52)), none⟩, ⟨(some 54), (.call (.const (.func 7 [] [])) []), (some (53, true))⟩, ⟨(some 55), (.pick (.tmp 53) (.tmp 54) (.const (.bool false))), none⟩, ⟨(some 2), (.mv (.tmp 55)), none⟩]) .ret))))))))
/-- skyfix/skyfixlaw10.NttNumbers -/
def B1 : ABody := (.mk 2 80 [(.tmp 4)] (.seq (.region [⟨(some 4), (.mv (.const (.bool false))), none⟩]) (.seq (.region [⟨(some 18), (.mv (.tmp 1)), none⟩, ⟨(some 19), (.call (.const (.func 13 [] [])) [(.tmp 18)]), none⟩, ⟨(some 17), (.mv (.tmp 19)), none⟩, ⟨(some 20), (.extract (.tmp 17) 0), none⟩, ⟨(some 21), (.extract (.tmp 17) 1), none⟩, ⟨(some 5), (.mv (.tmp 20)), none⟩, ⟨(some 6), (.mv (.tmp 21)), none⟩]) (.seq (.region [⟨(some 23), (.mv (.tmp 1)), none⟩, ⟨(some 24), (.call (.const (.func 14 [] [])) [(.tmp 23)]), none⟩, ⟨(some 22), (.mv (.tmp 24)), none⟩, ⟨(some 25), (.extract (.tmp 22) 0), none⟩, ⟨(some 26), (.extract (.tmp 22) 1), none⟩, ⟨(some 7), (.mv (.tmp 25)), none⟩, ⟨(some 8), (.mv (.tmp 26)), none⟩]) (.seq (.region [⟨(some 28), (.mv (.tmp 0)), none⟩, ⟨(some 29), (.mv (.tmp 1)), none⟩, ⟨(some 30), (.call (.const (.func 15 [] [])) [(.tmp 28), (.tmp 29)]), none⟩, ⟨(some 27), (.mv (.tmp 30)), none⟩, ⟨(some 31), (.extract (.tmp 27) 0), none⟩, ⟨(some 32), (.extract (.tmp 27) 1), none⟩, ⟨(some 9), (.mv (.tmp 31)), none⟩, ⟨(some 10), (.mv (.tmp 32)), none⟩]) (.seq (.region [⟨(some 34), (.mv (.tmp 0)), none⟩, ⟨(some 35), (.mv (.tmp 1)), none⟩, ⟨(some 36), (.call (.const (.func 16 [] [])) [(.tmp 34), (.tmp 35)]), none⟩, ⟨(some 33), (.mv (.tmp 36)), none⟩, ⟨(some 37), (.extract (.tmp 33) 0), none⟩, ⟨(some 38), (.extract (.tmp 33) 1), none⟩, ⟨(some 11), (.mv (.tmp 37)), none⟩, ⟨(some 12), (.mv (.tmp 38)), none⟩]) (.seq (.region [⟨(some 40), (.mv (.tmp 0)), none⟩, ⟨(some 41), (.call (.const (.func 17 [] [])) [(.tmp 40)]), none⟩, ⟨(some 39), (.mv (.tmp 41)), none⟩, ⟨(some 42), (.extract (.tmp 39) 0), none⟩, ⟨(some 43), (.extract (.tmp 39) 1), none⟩, ⟨(some 13), (.mv (.tmp 42)), none⟩, ⟨(some 14), (.mv (.tmp 43)), none⟩]) (.seq (.region [⟨(some 45), (.mv (.tmp 0)), none⟩, ⟨(some 46), (.call (.const (.func 18 [] [])) [(.tmp 45)]), none⟩, ⟨(some 44), (.mv (.tmp 46)), none⟩, ⟨(some 47), (.extract (.tmp 44) 0), none⟩, ⟨(some 48), (.extract (.tmp 44) 1), none⟩, ⟨(some 15), (.mv (.tmp 47)), none⟩, ⟨(some 16), (.mv (.tmp 48)), none⟩]) (.seq (.region [⟨(some 49), (.mv (.tmp 5)), none⟩, ⟨(some 50), (.mv (.tmp 7)), none⟩, ⟨(some 51), (.bin .eql (.tmp 49) (.tmp 50)), none⟩, ⟨(some 52), (.mv (.tmp 51)), none⟩, ⟨(some 53), (.mv (.tmp 6)), (some (52, true))⟩, ⟨(some 54), (.mv (.tmp 8)), (some (52, true))⟩, ⟨(some 55), (.bin .eql (.tmp 53) (.tmp 54)), (some (52, true))⟩, ⟨(some 56), (.pick (.tmp 52) (.tmp 55) (.const (.bool false))), none⟩, ⟨(some 57), (.mv (.tmp 56)), none⟩, ⟨(some 58), (.mv (.tmp 9)), (some (57, true))⟩, ⟨(some 59), (.mv (.tmp 11)), (some (57, true))⟩, ⟨(some 60), (.bin .eql (.tmp 58) (.tmp 59)), (some (57, true))⟩, ⟨(some 61), (.pick (.tmp 57) (.tmp 60) (.const (.bool false))), none⟩, ⟨(some 62), (.mv (.tmp 61)), none⟩, ⟨(some 63), (.mv (.tmp 10)), (some (62, true))⟩, ⟨(some 64), (.mv (.tmp 12)), (some (62, true))⟩, ⟨(some 65), (.bin .eql (.tmp 63) (.tmp 64)), (some (62, true))⟩, ⟨(some 66), (.pick (.tmp 62) (.tmp 65) (.const (.bool false))), none⟩, ⟨(some 67), (.mv (.tmp 66)), none⟩, ⟨(some 68), (.mv (.tmp 13)), (some (67, true))⟩, ⟨(some 69), (.mv (.tmp 15)), (some (67, true))⟩, ⟨(some 70), (.bin .eql (.tmp 68) (.tmp 69)), (some (67, true))⟩, ⟨(some 71), (.pick (.tmp 67) (.tmp 70) (.const (.bool false))), none⟩, ⟨(some 72), (.mv (.tmp 71)), none⟩, ⟨(some 73), (.mv (.tmp 14)), (some (72, true))⟩, ⟨(some 74), (.mv (.tmp 16)), (some (72, true))⟩, ⟨(some 75), (.bin .eql (.tmp 73) (.tmp 74)), (some (72, true))⟩, ⟨(some 76), (.pick (.tmp 72) (.tmp 75) (.const (.bool false))), none⟩, ⟨(some 77), (.mv (.tmp 76)), none⟩, ⟨(some 78), (.call (.const (.func 7 [] [])) []), (some (77, true))⟩, ⟨(some 79), (.pick (.tmp 77) (.tmp 78) (.const (.bool false))), none⟩, ⟨(some 4), (.mv (.tmp 79)), none⟩]) .ret)))))))))
/-- skyfix/skyfixlaw10.awake -/
def B7 : ABody := (.mk 0 46 [(.tmp 0)] (.seq (.region [⟨(some 0), (.mv (.const (.bool false))), none⟩]) (.seq (.region [⟨(some 8), (.call (.const (.func 13 [] [])) [(.const (.int .i64 4))]), none⟩, ⟨(some 7), (.mv (.tmp 8)), none⟩, ⟨(some 9), (.extract (.tmp 7) 0), none⟩, ⟨(some 10), (.extract (.tmp 7) 1), none⟩, ⟨(some 1), (.mv (.tmp 9)), none⟩, ⟨(some 2), (.mv (.tmp 10)), none⟩]) (.seq (.region [⟨(some 12), (.buildSlice 2 [(.int .i64 0), (.int .i64 0)] [(0, (1, (.const (.int .i64 1)))), (1, (1, (.const (.int .i64 2))))]), none⟩, ⟨(some 13), (.call (.const (.func 8 [] [])) [(.tmp 12)]), none⟩, ⟨(some 11), (.mv (.tmp 13)), none⟩, ⟨(some 14), (.extract (.tmp 11) 0), none⟩, ⟨(some 15), (.extract (.tmp 11) 1), none⟩, ⟨(some 3), (.mv (.tmp 14)), none⟩, ⟨(some 4), (.mv (.tmp 15)), none⟩]) (.seq (.region [⟨(some 17), (.buildSlice 3 [(.int .i64 0), (.int .i64 0), (.int .i64 0)] [(0, (1, (.const (.int .i64 1)))), (1, (1, (.const (.int .i64 2)))), (2, (1, (.const (.int .i64 3))))]), none⟩, ⟨(some 18), (.buildSlice 2 [(.int .i64 0), (.int .i64 0)] [(0, (1, (.const (.int .i64 1)))), (1, (1, (.const (.int .i64 (-1)))))]), none⟩, ⟨(some 19), (.call (.const (.func 19 [] [])) [(.tmp 17), (.tmp 18)]), none⟩, ⟨(some 16), (.mv (.tmp 19)), none⟩, ⟨(some 20), (.extract (.tmp 16) 0), none⟩, ⟨(some 21), (.extract (.tmp 16) 1), none⟩, ⟨(some 5), (.mv (.tmp 20)), none⟩, ⟨(some 6), (.mv (.tmp 21)), none⟩]) (.seq (.region [⟨(some 22), (.mv (.tmp 1)), none⟩, ⟨(some 23), (.bin .eql (.tmp 22) (.const (.int .i64 911660635))), none⟩, ⟨(some 24), (.mv (.tmp 23)), none⟩, ⟨(some 25), (.mv (.tmp 2)), (some (24, true))⟩, ⟨(some 26), (.bin .eql (.tmp 25) (.const (.int .i64 0))), (some (24, true))⟩, ⟨(some 27), (.pick (.tmp 24) (.tmp 26) (.const (.bool false))), none⟩, ⟨(some 28), (.mv (.tmp 27)), none⟩, ⟨(some 29), (.mv (.tmp 4)), (some (28, true))⟩, ⟨(some 30), (.bin .eql (.tmp 29) (.const (.int .i64 0))), (some (28, true))⟩, ⟨(some 31), (.pick (.tmp 28) (.tmp 30) (.const (.bool false))), none⟩, ⟨(some 32), (.mv (.tmp 31)), none⟩, ⟨(some 33), (.mv (.tmp 3)), (some (32, true))⟩, ⟨(some 34), (.buildSlice 2 [(.int .i64 0), (.int .i64 0)] [(0, (1, (.const (.int .i64 3)))), (1, (1, (.const (.int .i64 998244352))))]), (some (32, true))⟩, ⟨(some 35), (.call (.const (.func 12 [] [])) [(.tmp 33), (.tmp 34)]), (some (32, true))⟩, ⟨(some 36), (.pick (.tmp 32) (.tmp 35) (.const (.bool false))), none⟩, ⟨(some 37), (.mv (.tmp 36)), none⟩, ⟨(some 38), (.mv (.tmp 6)), (some (37, true))⟩, ⟨(some 39), (.bin .eql (.tmp 38) (.const (.int .i64 0))), (some (37, true))⟩, ⟨(some 40), (.pick (.tmp 37) (.tmp 39) (.const (.bool false))), none⟩, ⟨(some 41), (.mv (.tmp 40)), none⟩, ⟨(some 42), (.mv (.tmp 5)), (some (41, true))⟩, ⟨(some 43), (.buildSlice 4 [(.int .i64 0), (.int .i64 0), (.int .i64 0), (.int .i64 0)] [(0, (1, (.const (.int .i64 1)))), (1, (1, (.const (.int .i64 1)))), (2, (1, (.const (.int .i64 1)))), (3, (1, (.const (.int .i64 (-3)))))]), (some (41, true))⟩, ⟨(some 44), (.call (.const (.func 12 [] [])) [(.tmp 42), (.tmp 43)]), (some (41, true))⟩, ⟨(some 45), (.pick (.tmp 41) (.tmp 44) (.const (.bool false))), none⟩, ⟨(some 0), (.mv (.tmp 45)), none⟩]) .ret))))))
/-- skyfix/ntt.Transform -/
def B8 : ABody := (.mk 1 12 [(.tmp 2), (.tmp 3)] (.seq (.region [⟨(some 2), (.mv (.const .nilslice)), none⟩, ⟨(some 3), (.mv (.const (.int .i64 0))), none⟩]) (.seq (.seq (.region [⟨(some 5), (.mv (.tmp 0)), none⟩, ⟨(some 6), (.call (.const (.func 26 [] [])) [(.tmp 5)]), none⟩, ⟨(some 4), (.mv (.tmp 6)), none⟩]) (.seq (.region [⟨(some 7), (.mv (.tmp 4)), none⟩, ⟨(some 8), (.bin .neq (.tmp 7) (.const (.int .i64 0))), none⟩]) (.cond (.tmp 8) (.seq (.region [⟨(some 9), (.mv (.tmp 4)), none⟩, ⟨(some 2), (.mv (.const .nilslice)), none⟩, ⟨(some 3), (.mv (.tmp 9)), none⟩]) .ret) .skip))) (.seq (.region [⟨(some 10), (.mv (.tmp 0)), none⟩, ⟨(some 11), (.call (.const (.func 27 [] [])) [(.tmp 10)]), none⟩, ⟨(some 2), (.mv (.tmp 11)), none⟩, ⟨(some 3), (.mv (.const (.int .i64 0))), none⟩]) .ret))))
/-- skyfix/skyfixref10.Transform -/
def B9 : ABody := (.mk 1 21 [(.tmp 2), (.tmp 3)] (.seq (.region [⟨(some 2), (.mv (.const .nilslice)), none⟩, ⟨(some 3), (.mv (.const (.int .i64 0))), none⟩]) (.seq (.seq (.region [⟨(some 7), (.mv (.tmp 0)), none⟩, ⟨(some 8), (.call (.const (.func 28 [] [])) [(.tmp 7)]), none⟩, ⟨(some 4), (.mv (.tmp 8)), none⟩]) (.seq (.region [⟨(some 9), (.mv (.tmp 4)), none⟩, ⟨(some 10), (.bin .neq (.tmp 9) (.const (.int .i64 0))), none⟩]) (.cond (.tmp 10) (.seq (.region [⟨(some 11), (.mv (.tmp 4)), none⟩, ⟨(some 2), (.mv (.const .nilslice)), none⟩, ⟨(some 3), (.mv (.tmp 11)), none⟩]) .ret) .skip))) (.seq (.region [⟨(some 13), (.mv (.tmp 0)), none⟩, ⟨(some 14), (.len (.tmp 13)), none⟩, ⟨(some 15), (.call (.const (.func 14 [] [])) [(.tmp 14)]), none⟩, ⟨(some 12), (.mv (.tmp 15)), none⟩, ⟨(some 16), (.extract (.tmp 12) 0), none⟩, ⟨(some 17), (.extract (.tmp 12) 1), none⟩, ⟨(some 5), (.mv (.tmp 16)), none⟩, ⟨(some 6), (.mv (.tmp 17)), none⟩]) (.seq (.region [⟨(some 18), (.mv (.tmp 0)), none⟩, ⟨(some 19), (.mv (.tmp 5)), none⟩, ⟨(some 20), (.call (.const (.func 29 [] [])) [(.tmp 18), (.tmp 19)]), none⟩, ⟨(some 2), (.mv (.tmp 20)), none⟩, ⟨(some 3), (.mv (.const (.int .i64 0))), none⟩]) .ret)))))
/-- skyfix/ntt.Inverse -/
def B10 : ABody := (.mk 1 12 [(.tmp 2), (.tmp 3)] (.seq (.region [⟨(some 2), (.mv (.const .nilslice)), none⟩, ⟨(some 3), (.mv (.const (.int .i64 0))), none⟩]) (.seq (.seq (.region [⟨(some 5), (.mv (.tmp 0)), none⟩, ⟨(some 6), (.call (.const (.func 26 [] [])) [(.tmp 5)]), none⟩, ⟨(some 4), (.mv (.tmp 6)), none⟩]) (.seq (.region [⟨(some 7), (.mv (.tmp 4)), none⟩, ⟨(some 8), (.bin .neq (.tmp 7) (.const (.int .i64 0))), none⟩]) (.cond (.tmp 8) (.seq (.region [⟨(some 9), (.mv (.tmp 4)), none⟩, ⟨(some 2), (.mv (.const .nilslice)), none⟩, ⟨(some 3), (.mv (.tmp 9)), none⟩]) .ret) .skip))) (.seq (.region [⟨(some 10), (.mv (.tmp 0)), none⟩, ⟨(some 11), (.call (.const (.func 30 [] [])) [(.tmp 10)]), none⟩, ⟨(some 2), (.mv (.tmp 11)), none⟩, ⟨(some 3), (.mv (.const (.int .i64 0))), none⟩]) .ret))))
/-- skyfix/skyfixref10.Inverse -/
def B11 : ABody := (.mk 1 45 [(.tmp 2), (.tmp 3)] (.seq (.region [⟨(some 2), (.mv (.const .nilslice)), none⟩, ⟨(some 3), (.mv (.const (.int .i64 0))), none⟩]) (.seq (.seq (.region [⟨(some 10), (.mv (.tmp 0)), none⟩, ⟨(some 11), (.call (.const (.func 28 [] [])) [(.tmp 10)]), none⟩, ⟨(some 4), (.mv (.tmp 11)), none⟩]) (.seq (.region [⟨(some 12), (.mv (.tmp 4)), none⟩, ⟨(some 13), (.bin .neq (.tmp 12) (.const (.int .i64 0))), none⟩]) (.cond (.tmp 13) (.seq (.region [⟨(some 14), (.mv (.tmp 4)), none⟩, ⟨(some 2), (.mv (.const .nilslice)), none⟩, ⟨(some 3), (.mv (.tmp 14)), none⟩]) .ret) .skip))) (.seq (.region [⟨(some 16), (.mv (.tmp 0)), none⟩, ⟨(some 17), (.len (.tmp 16)), none⟩, ⟨(some 18), (.call (.const (.func 14 [] [])) [(.tmp 17)]), none⟩, ⟨(some 15), (.mv (.tmp 18)), none⟩, ⟨(some 19), (.extract (.tmp 15) 0), none⟩, ⟨(some 20), (.extract (.tmp 15) 1), none⟩, ⟨(some 5), (.mv (.tmp 19)), none⟩, ⟨(some 6), (.mv (.tmp 20)), none⟩]) (.seq (.region [⟨(some 21), (.mv (.tmp 0)), none⟩, ⟨(some 22), (.mv (.tmp 5)), none⟩, ⟨(some 23), (.call (.const (.func 31 [] [])) [(.tmp 22), (.const (.int .i64 998244351))]), none⟩, ⟨(some 24), (.call (.const (.func 29 [] [])) [(.tmp 21), (.tmp 23)]), none⟩, ⟨(some 7), (.mv (.tmp 24)), none⟩]) (.seq (.region [⟨(some 25), (.mv (.tmp 0)), none⟩, ⟨(some 26), (.len (.tmp 25)), none⟩, ⟨(some 27), (.call (.const (.func 31 [] [])) [(.tmp 26), (.const (.int .i64 998244351))]), none⟩, ⟨(some 8), (.mv (.tmp 27)), none⟩]) (.seq (.seq (.region [⟨(some 9), (.mv (.const (.int .i64 0))), none⟩]) (.block 0 (.loop (.seq (.seq (.region [⟨(some 28), (.mv (.tmp 9)), none⟩, ⟨(some 29), (.mv (.tmp 7)), none⟩, ⟨(some 30), (.len (.tmp 29)), none⟩, ⟨(some 31), (.bin .lss (.tmp 28) (.tmp 30)), none⟩]) (.cond (.tmp 31) .skip (.exit 0))) (.seq (.block 1 (.region [⟨(some 34), (.mv (.tmp 7)), none⟩, ⟨(some 35), (.mv (.tmp 9)), none⟩, ⟨(some 36), (.mv (.tmp 7)), none⟩, ⟨(some 37), (.mv (.tmp 9)), none⟩, ⟨(some 38), (.indexAddr 1 (.tmp 36) (.tmp 37)), none⟩, ⟨(some 39), (.load false 1 (.tmp 38)), none⟩, ⟨(some 40), (.mv (.tmp 8)), none⟩, ⟨(some 41), (.bin .mul (.tmp 39) (.tmp 40)), none⟩, ⟨(some 42), (.bin .rem (.tmp 41) (.const (.int .i64 998244353))), none⟩, ⟨(some 43), (.indexAddr 1 (.tmp 34) (.tmp 35)), none⟩, ⟨none, (.store 1 (.tmp 43) (.tmp 42)), none⟩])) (.region [⟨(some 32), (.mv (.tmp 9)), none⟩, ⟨(some 33), (.bin .add (.tmp 32) (.const (.int .i64 1))), none⟩, ⟨(some 9), (.mv (.tmp 33)), none⟩])))))) (.seq (.region [⟨(some 44), (.mv (.tmp 7)), none⟩, ⟨(some 2), (.mv (.tmp 44)), none⟩, ⟨(some 3), (.mv (.const (.int .i64 0))), none⟩]) .ret))))))))
/-- skyfix/skyfixkit.Equal -/
def B12 : ABody := (.mk 2 26 [(.tmp 4)] (.seq (.region [⟨(some 4), (.mv (.const (.bool false))), none⟩]) (.seq (.seq (.region [⟨(some 6), (.mv (.tmp 0)), none⟩, ⟨(some 7), (.len (.tmp 6)), none⟩, ⟨(some 8), (.mv (.tmp 1)), none⟩, ⟨(some 9), (.len (.tmp 8)), none⟩, ⟨(some 10), (.bin .neq (.tmp 7) (.tmp 9)), none⟩]) (.cond (.tmp 10) (.seq (.region [⟨(some 4), (.mv (.const (.bool false))), none⟩]) .ret) .skip)) (.seq (.seq (.region [⟨(some 5), (.mv (.const (.int .i64 0))), none⟩]) (.block 0 (.loop (.seq (.seq (.region [⟨(some 11), (.mv (.tmp 5)), none⟩, ⟨(some 12), (.mv (.tmp 0)), none⟩, ⟨(some 13), (.len (.tmp 12)), none⟩, ⟨(some 14), (.bin .lss (.tmp 11) (.tmp 13)), none⟩]) (.cond (.tmp 14) .skip (.exit 0))) (.seq (.block 1 (.seq (.draw 0 [⟨0, false, [], ⟨(some 17), (.mv (.tmp 0)), none⟩⟩, ⟨1, false, [], ⟨(some 18), (.mv (.tmp 5)), none⟩⟩, ⟨2, false, [], ⟨(some 19), (.indexAddr 1 (.tmp 17) (.tmp 18)), none⟩⟩, ⟨4, false, [], ⟨(some 21), (.mv (.tmp 1)), none⟩⟩, ⟨5, false, [], ⟨(some 22), (.mv (.tmp 5)), none⟩⟩, ⟨6, false, [], ⟨(some 23), (.indexAddr 1 (.tmp 21) (.tmp 22)), none⟩⟩, ⟨3, false, [], ⟨(some 20), (.load false 1 (.tmp 19)), none⟩⟩, ⟨7, false, [], ⟨(some 24), (.load false 1 (.tmp 23)), none⟩⟩, ⟨8, false, [], ⟨(some 25), (.bin .neq (.tmp 20) (.tmp 24)), none⟩⟩]) (.cond (.tmp 25) (.seq (.region [⟨(some 4), (.mv (.const (.bool false))), none⟩]) .ret) .skip))) (.region [⟨(some 15), (.mv (.tmp 5)), none⟩, ⟨(some 16), (.bin .add (.tmp 15) (.const (.int .i64 1))), none⟩, ⟨(some 5), (.mv (.tmp 16)), none⟩])))))) (.seq (.region [⟨(some 4), (.mv (.const (.bool true))), none⟩]) .ret)))))
/-- skyfix/ntt.Root -/
def B13 : ABody := (.mk 1 10 [(.tmp 2), (.tmp 3)] (.seq (.region [⟨(some 2), (.mv (.const (.int .i64 0))), none⟩, ⟨(some 3), (.mv (.const (.int .i64 0))), none⟩]) (.seq (.seq (.region [⟨(some 4), (.mv (.tmp 0)), none⟩, ⟨(some 5), (.call (.const (.func 32 [] [])) [(.tmp 4)]), none⟩, ⟨(some 6), (.un .not (.tmp 5)), none⟩]) (.cond (.tmp 6) (.seq (.region [⟨(some 2), (.mv (.const (.int .i64 0))), none⟩, ⟨(some 3), (.mv (.const (.int .i64 3))), none⟩]) .ret) .skip)) (.seq (.region [⟨(some 7), (.mv (.tmp 0)), none⟩, ⟨(some 8), (.bin .quo (.const (.int .i64 998244352)) (.tmp 7)), none⟩, ⟨(some 9), (.call (.const (.func 33 [] [])) [(.const (.int .i64 3)), (.tmp 8)]), none⟩, ⟨(some 2), (.mv (.tmp 9)), none⟩, ⟨(some 3), (.mv (.const (.int .i64 0))), none⟩]) .ret))))
/-- skyfix/skyfixref10.Root -/
def B14 : ABody := (.mk 1 10 [(.tmp 2), (.tmp 3)] (.seq (.region [⟨(some 2), (.mv (.const (.int .i64 0))), none⟩, ⟨(some 3), (.mv (.const (.int .i64 0))), none⟩]) (.seq (.seq (.region [⟨(some 4), (.mv (.tmp 0)), none⟩, ⟨(some 5), (.call (.const (.func 34 [] [])) [(.tmp 4)]), none⟩, ⟨(some 6), (.un .not (.tmp 5)), none⟩]) (.cond (.tmp 6) (.seq (.region [⟨(some 2), (.mv (.const (.int .i64 0))), none⟩, ⟨(some 3), (.mv (.const (.int .i64 3))), none⟩]) .ret) .skip)) (.seq (.region [⟨(some 7), (.mv (.tmp 0)), none⟩, ⟨(some 8), (.bin .quo (.const (.int .i64 998244352)) (.tmp 7)), none⟩, ⟨(some 9), (.call (.const (.func 31 [] [])) [(.const (.int .i64 3)), (.tmp 8)]), none⟩, ⟨(some 2), (.mv (.tmp 9)), none⟩, ⟨(some 3), (.mv (.const (.int .i64 0))), none⟩]) .ret))))
/-- skyfix/ntt.Power -/
def B15 : ABody := (.mk 2 19 [(.tmp 4), (.tmp 5)] (.seq (.region [⟨(some 4), (.mv (.const (.int .i64 0))), none⟩, ⟨(some 5), (.mv (.const (.int .i64 0))), none⟩]) (.seq (.seq (.region [⟨(some 6), (.mv (.tmp 0)), none⟩, ⟨(some 7), (.bin .lss (.tmp 6) (.const (.int .i64 0))), none⟩, ⟨(some 8), (.mv (.tmp 7)), none⟩, ⟨(some 9), (.mv (.tmp 0)), (some (8, false))⟩, ⟨(some 10), (.bin .geq (.tmp 9) (.const (.int .i64 998244353))), (some (8, false))⟩, ⟨(some 11), (.pick (.tmp 8) (.const (.bool true)) (.tmp 10)), none⟩, ⟨(some 12), (.mv (.tmp 11)), none⟩, ⟨(some 13), (.mv (.tmp 1)), (some (12, false))⟩, ⟨(some 14), (.bin .lss (.tmp 13) (.const (.int .i64 0))), (some (12, false))⟩, ⟨(some 15), (.pick (.tmp 12) (.const (.bool true)) (.tmp 14)), none⟩]) (.cond (.tmp 15) (.seq (.region [⟨(some 4), (.mv (.const (.int .i64 0))), none⟩, ⟨(some 5), (.mv (.const (.int .i64 2))), none⟩]) .ret) .skip)) (.seq (.region [⟨(some 16), (.mv (.tmp 0)), none⟩, ⟨(some 17), (.mv (.tmp 1)), none⟩, ⟨(some 18), (.call (.const (.func 33 [] [])) [(.tmp 16), (.tmp 17)]), none⟩, ⟨(some 4), (.mv (.tmp 18)), none⟩, ⟨(some 5), (.mv (.const (.int .i64 0))), none⟩]) .ret))))
/-- skyfix/skyfixref10.Power -/
def B16 : ABody := (.mk 2 19 [(.tmp 4), (.tmp 5)] (.seq (.region [⟨(some 4), (.mv (.const (.int .i64 0))), none⟩, ⟨(some 5), (.mv (.const (.int .i64 0))), none⟩]) (.seq (.seq (.region [⟨(some 6), (.mv (.tmp 0)), none⟩, ⟨(some 7), (.bin .lss (.tmp 6) (.const (.int .i64 0))), none⟩, ⟨(some 8), (.mv (.tmp 7)), none⟩, ⟨(some 9), (.mv (.tmp 0)), (some (8, false))⟩, ⟨(some 10), (.bin .geq (.tmp 9) (.const (.int .i64 998244353))), (some (8, false))⟩, ⟨(some 11), (.pick (.tmp 8) (.const (.bool true)) (.tmp 10)), none⟩, ⟨(some 12), (.mv (.tmp 11)), none⟩, ⟨(some 13), (.mv (.tmp 1)), (some (12, false))⟩, ⟨(some 14), (.bin .lss (.tmp 13) (.const (.int .i64 0))), (some (12, false))⟩, ⟨(some 15), (.pick (.tmp 12) (.const (.bool true)) (.tmp 14)), none⟩]) (.cond (.tmp 15) (.seq (.region [⟨(some 4), (.mv (.const (.int .i64 0))), none⟩, ⟨(some 5), (.mv (.const (.int .i64 2))), none⟩]) .ret) .skip)) (.seq (.region [⟨(some 16), (.mv (.tmp 0)), none⟩, ⟨(some 17), (.mv (.tmp 1)), none⟩, ⟨(some 18), (.call (.const (.func 31 [] [])) [(.tmp 16), (.tmp 17)]), none⟩, ⟨(some 4), (.mv (.tmp 18)), none⟩, ⟨(some 5), (.mv (.const (.int .i64 0))), none⟩]) .ret))))
/-- skyfix/ntt.Signed -/
def B17 : ABody := (.mk 1 12 [(.tmp 2), (.tmp 3)] (.seq (.region [⟨(some 2), (.mv (.const (.int .i64 0))), none⟩, ⟨(some 3), (.mv (.const (.int .i64 0))), none⟩]) (.seq (.seq (.region [⟨(some 4), (.mv (.tmp 0)), none⟩, ⟨(some 5), (.bin .lss (.tmp 4) (.const (.int .i64 0))), none⟩, ⟨(some 6), (.mv (.tmp 5)), none⟩, ⟨(some 7), (.mv (.tmp 0)), (some (6, false))⟩, ⟨(some 8), (.bin .geq (.tmp 7) (.const (.int .i64 998244353))), (some (6, false))⟩, ⟨(some 9), (.pick (.tmp 6) (.const (.bool true)) (.tmp 8)), none⟩]) (.cond (.tmp 9) (.seq (.region [⟨(some 2), (.mv (.const (.int .i64 0))), none⟩, ⟨(some 3), (.mv (.const (.int .i64 2))), none⟩]) .ret) .skip)) (.seq (.region [⟨(some 10), (.mv (.tmp 0)), none⟩, ⟨(some 11), (.call (.const (.func 35 [] [])) [(.tmp 10)]), none⟩, ⟨(some 2), (.mv (.tmp 11)), none⟩, ⟨(some 3), (.mv (.const (.int .i64 0))), none⟩]) .ret))))
/-- skyfix/skyfixref10.Signed -/
def B18 : ABody := (.mk 1 15 [(.tmp 2), (.tmp 3)] (.seq (.region [⟨(some 2), (.mv (.const (.int .i64 0))), none⟩, ⟨(some 3), (.mv (.const (.int .i64 0))), none⟩]) (.seq (.seq (.region [⟨(some 4), (.mv (.tmp 0)), none⟩, ⟨(some 5), (.bin .lss (.tmp 4) (.const (.int .i64 0))), none⟩, ⟨(some 6), (.mv (.tmp 5)), none⟩, ⟨(some 7), (.mv (.tmp 0)), (some (6, false))⟩, ⟨(some 8), (.bin .geq (.tmp 7) (.const (.int .i64 998244353))), (some (6, false))⟩, ⟨(some 9), (.pick (.tmp 6) (.const (.bool true)) (.tmp 8)), none⟩]) (.cond (.tmp 9) (.seq (.region [⟨(some 2), (.mv (.const (.int .i64 0))), none⟩, ⟨(some 3), (.mv (.const (.int .i64 2))), none⟩]) .ret) .skip)) (.seq (.seq (.region [⟨(some 10), (.mv (.tmp 0)), none⟩, ⟨(some 11), (.bin .gtr (.tmp 10) (.const (.int .i64 499122176))), none⟩]) (.cond (.tmp 11) (.seq (.region [⟨(some 12), (.mv (.tmp 0)), none⟩, ⟨(some 13), (.bin .sub (.tmp 12) (.const (.int .i64 998244353))), none⟩, ⟨(some 2), (.mv (.tmp 13)), none⟩, ⟨(some 3), (.mv (.const (.int .i64 0))), none⟩]) .ret) .skip)) (.seq (.region [⟨(some 14), (.mv (.tmp 0)), none⟩, ⟨(some 2), (.mv (.tmp 14)), none⟩, ⟨(some 3), (.mv (.const (.int .i64 0))), none⟩]) .ret)))))
/-- skyfix/ntt.Product -/
def B19 : ABody := (.mk 2 38 [(.tmp 4), (.tmp 5)] (.seq (.region [⟨(some 4), (.mv (.const .nilslice)), none⟩, ⟨(some 5), (.mv (.const (.int .i64 0))), none⟩]) (.seq (.region [⟨(some 6), (.mv (.const (.func 36 [] []))), none⟩]) (.seq (.block 0 (.seq (.region [⟨(some 8), (.mv (.tmp 0)), none⟩, ⟨(some 9), (.len (.tmp 8)), none⟩, ⟨(some 10), (.bin .eql (.tmp 9) (.const (.int .i64 0))), none⟩, ⟨(some 11), (.mv (.tmp 10)), none⟩, ⟨(some 12), (.mv (.tmp 1)), (some (11, false))⟩, ⟨(some 13), (.len (.tmp 12)), (some (11, false))⟩, ⟨(some 14), (.bin .eql (.tmp 13) (.const (.int .i64 0))), (some (11, false))⟩, ⟨(some 15), (.pick (.tmp 11) (.const (.bool true)) (.tmp 14)), none⟩, ⟨(some 7), (.mv (.tmp 15)), none⟩]) (.cond (.tmp 7) (.seq (.region [⟨(some 4), (.mv (.const .nilslice)), none⟩, ⟨(some 5), (.mv (.const (.int .i64 3))), none⟩]) .ret) (.seq (.region [⟨(some 17), (.mv (.tmp 0)), none⟩, ⟨(some 18), (.len (.tmp 17)), none⟩, ⟨(some 19), (.mv (.tmp 1)), none⟩, ⟨(some 20), (.len (.tmp 19)), none⟩, ⟨(some 21), (.bin .add (.tmp 18) (.tmp 20)), none⟩, ⟨(some 22), (.bin .sub (.tmp 21) (.const (.int .i64 1))), none⟩, ⟨(some 23), (.bin .gtr (.tmp 22) (.const (.int .i64 32768))), none⟩, ⟨(some 16), (.mv (.tmp 23)), none⟩]) (.cond (.tmp 16) (.seq (.region [⟨(some 4), (.mv (.const .nilslice)), none⟩, ⟨(some 5), (.mv (.const (.int .i64 4))), none⟩]) .ret) (.seq (.seq (.region [⟨(some 25), (.mv (.tmp 0)), none⟩, ⟨(some 26), (.mv (.tmp 6)), none⟩, ⟨(some 27), (.call (.const (.func 37 [] [])) [(.tmp 25), (.tmp 26)]), none⟩, ⟨(some 24), (.mv (.tmp 27)), none⟩]) (.cond (.tmp 24) .skip (.region [⟨(some 28), (.mv (.tmp 1)), none⟩, ⟨(some 29), (.mv (.tmp 6)), none⟩, ⟨(some 30), (.call (.const (.func 37 [] [])) [(.tmp 28), (.tmp 29)]), none⟩, ⟨(some 24), (.mv (.tmp 30)), none⟩]))) (.cond (.tmp 24) (.seq (.region [⟨(some 4), (.mv (.const .nilslice)), none⟩, ⟨(some 5), (.mv (.const (.int .i64 2))), none⟩]) .ret) (.seq (.region [⟨(some 32), (.mv (.tmp 0)), none⟩, ⟨(some 33), (.mv (.tmp 1)), none⟩, ⟨(some 34), (.call (.const (.func 38 [] [])) [(.tmp 32), (.tmp 33)]), none⟩, ⟨(some 31), (.mv (.tmp 34)), none⟩]) (.cond (.tmp 31) (.seq (.region [⟨(some 4), (.mv (.const .nilslice)), none⟩, ⟨(some 5), (.mv (.const (.int .i64 5))), none⟩]) .ret) .skip))))))))) (.seq (.region [⟨(some 35), (.mv (.tmp 0)), none⟩, ⟨(some 36), (.mv (.tmp 1)), none⟩, ⟨(some 37), (.call (.const (.func 39 [] [])) [(.tmp 35), (.tmp 36)]), none⟩, ⟨(some 4), (.mv (.tmp 37)), none⟩, ⟨(some 5), (.mv (.const (.int .i64 0))), none⟩]) .ret)))))
/-- skyfix/skyfixkit.Turn -/
def B23 : ABody := (.mk 2 14 [(.tmp 4)] (.seq (.region [⟨(some 4), (.mv (.const (.int .i64 0))), none⟩]) (.seq (.region [⟨(some 5), (.mv (.tmp 0)), none⟩, ⟨(some 6), (.mv (.tmp 1)), none⟩, ⟨(some 7), (.bin .rem (.tmp 5) (.tmp 6)), none⟩, ⟨(some 0), (.mv (.tmp 7)), none⟩]) (.seq (.seq (.region [⟨(some 8), (.mv (.tmp 0)), none⟩, ⟨(some 9), (.bin .lss (.tmp 8) (.const (.int .i64 0))), none⟩]) (.cond (.tmp 9) (.region [⟨(some 10), (.mv (.tmp 0)), none⟩, ⟨(some 11), (.mv (.tmp 1)), none⟩, ⟨(some 12), (.bin .add (.tmp 10) (.tmp 11)), none⟩, ⟨(some 0), (.mv (.tmp 12)), none⟩]) .skip)) (.seq (.region [⟨(some 13), (.mv (.tmp 0)), none⟩, ⟨(some 4), (.mv (.tmp 13)), none⟩]) .ret)))))
/-- skyfix/ntt.check -/
def B26 : ABody := (.mk 1 11 [(.tmp 2)] (.seq (.region [⟨(some 2), (.mv (.const (.int .i64 0))), none⟩]) (.seq (.block 0 (.seq (.region [⟨(some 4), (.mv (.tmp 0)), none⟩, ⟨(some 5), (.len (.tmp 4)), none⟩, ⟨(some 6), (.call (.const (.func 32 [] [])) [(.tmp 5)]), none⟩, ⟨(some 7), (.un .not (.tmp 6)), none⟩, ⟨(some 3), (.mv (.tmp 7)), none⟩]) (.cond (.tmp 3) (.seq (.region [⟨(some 2), (.mv (.const (.int .i64 3))), none⟩]) .ret) (.seq (.region [⟨(some 9), (.mv (.tmp 0)), none⟩, ⟨(some 10), (.call (.const (.func 37 [] [])) [(.tmp 9), (.const (.func 48 [] []))]), none⟩, ⟨(some 8), (.mv (.tmp 10)), none⟩]) (.cond (.tmp 8) (.seq (.region [⟨(some 2), (.mv (.const (.int .i64 2))), none⟩]) .ret) .skip))))) (.seq (.region [⟨(some 2), (.mv (.const (.int .i64 0))), none⟩]) .ret))))
/-- skyfix/ntt.forward -/
def B27 : ABody := (.mk 1 10 [(.tmp 2)] (.seq (.region [⟨(some 2), (.mv (.const .nilslice)), none⟩]) (.seq (.region [⟨(some 3), (.mv (.tmp 0)), none⟩, ⟨(some 4), (.build [.nilslice, (.int .i64 0)] [(0, (1, (.tmp 3))), (1, (1, (.const (.int .i64 1))))]), none⟩, ⟨(some 5), (.mv (.tmp 0)), none⟩, ⟨(some 6), (.len (.tmp 5)), none⟩, ⟨(some 7), (.bin .quo (.const (.int .i64 998244352)) (.tmp 6)), none⟩, ⟨(some 8), (.call (.const (.func 33 [] [])) [(.const (.int .i64 3)), (.tmp 7)]), none⟩, ⟨(some 9), (.call (.const (.func 49 [] [])) [(.tmp 4), (.tmp 8)]), none⟩, ⟨(some 2), (.mv (.tmp 9)), none⟩]) .ret)))
/-- skyfix/skyfixref10.check -/
def B28 : ABody := (.mk 1 26 [(.tmp 2)] (.seq (.region [⟨(some 2), (.mv (.const (.int .i64 0))), none⟩]) (.seq (.seq (.region [⟨(some 4), (.mv (.tmp 0)), none⟩, ⟨(some 5), (.len (.tmp 4)), none⟩, ⟨(some 6), (.call (.const (.func 34 [] [])) [(.tmp 5)]), none⟩, ⟨(some 7), (.un .not (.tmp 6)), none⟩]) (.cond (.tmp 7) (.seq (.region [⟨(some 2), (.mv (.const (.int .i64 3))), none⟩]) .ret) .skip)) (.seq (.seq (.region [⟨(some 3), (.mv (.const (.int .i64 0))), none⟩]) (.block 0 (.loop (.seq (.seq (.region [⟨(some 8), (.mv (.tmp 3)), none⟩, ⟨(some 9), (.mv (.tmp 0)), none⟩, ⟨(some 10), (.len (.tmp 9)), none⟩, ⟨(some 11), (.bin .lss (.tmp 8) (.tmp 10)), none⟩]) (.cond (.tmp 11) .skip (.exit 0))) (.seq (.block 1 (.seq (.region [⟨(some 14), (.mv (.tmp 0)), none⟩, ⟨(some 15), (.mv (.tmp 3)), none⟩, ⟨(some 16), (.indexAddr 1 (.tmp 14) (.tmp 15)), none⟩, ⟨(some 17), (.load false 1 (.tmp 16)), none⟩, ⟨(some 18), (.bin .lss (.tmp 17) (.const (.int .i64 0))), none⟩, ⟨(some 19), (.mv (.tmp 18)), none⟩, ⟨(some 20), (.mv (.tmp 0)), (some (19, false))⟩, ⟨(some 21), (.mv (.tmp 3)), (some (19, false))⟩, ⟨(some 22), (.indexAddr 1 (.tmp 20) (.tmp 21)), (some (19, false))⟩, ⟨(some 23), (.load false 1 (.tmp 22)), (some (19, false))⟩, ⟨(some 24), (.bin .geq (.tmp 23) (.const (.int .i64 998244353))), (some (19, false))⟩, ⟨(some 25), (.pick (.tmp 19) (.const (.bool true)) (.tmp 24)), none⟩]) (.cond (.tmp 25) (.seq (.region [⟨(some 2), (.mv (.const (.int .i64 2))), none⟩]) .ret) .skip))) (.region [⟨(some 12), (.mv (.tmp 3)), none⟩, ⟨(some 13), (.bin .add (.tmp 12) (.const (.int .i64 1))), none⟩, ⟨(some 3), (.mv (.tmp 13)), none⟩])))))) (.seq (.region [⟨(some 2), (.mv (.const (.int .i64 0))), none⟩]) .ret)))))
/-- skyfix/skyfixref10.sums -/
def B29 : ABody := (.mk 2 49 [(.tmp 4)] (.seq (.region [⟨(some 4), (.mv (.const .nilslice)), none⟩]) (.seq (.region [⟨(some 10), (.mv (.tmp 0)), none⟩, ⟨(some 11), (.len (.tmp 10)), none⟩, ⟨(some 12), (.makeSlice [(.int .i64 0)] 8 (.tmp 11) (.tmp 11)), none⟩, ⟨(some 5), (.mv (.tmp 12)), none⟩]) (.seq (.region [⟨(some 6), (.mv (.const (.int .i64 1))), none⟩]) (.seq (.seq (.region [⟨(some 7), (.mv (.const (.int .i64 0))), none⟩]) (.block 0 (.loop (.seq (.seq (.region [⟨(some 13), (.mv (.tmp 7)), none⟩, ⟨(some 14), (.mv (.tmp 0)), none⟩, ⟨(some 15), (.len (.tmp 14)), none⟩, ⟨(some 16), (.bin .lss (.tmp 13) (.tmp 15)), none⟩]) (.cond (.tmp 16) .skip (.exit 0))) (.seq (.block 1 (.seq (.region [⟨(some 8), (.mv (.const (.int .i64 1))), none⟩]) (.seq (.seq (.region [⟨(some 9), (.mv (.const (.int .i64 0))), none⟩]) (.block 2 (.loop (.seq (.seq (.region [⟨(some 19), (.mv (.tmp 9)), none⟩, ⟨(some 20), (.mv (.tmp 0)), none⟩, ⟨(some 21), (.len (.tmp 20)), none⟩, ⟨(some 22), (.bin .lss (.tmp 19) (.tmp 21)), none⟩]) (.cond (.tmp 22) .skip (.exit 2))) (.seq (.block 3 (.seq (.draw 0 [⟨0, false, [], ⟨(some 25), (.mv (.tmp 5)), none⟩⟩, ⟨1, false, [], ⟨(some 26), (.mv (.tmp 7)), none⟩⟩, ⟨2, false, [], ⟨(some 27), (.mv (.tmp 5)), none⟩⟩, ⟨3, false, [], ⟨(some 28), (.mv (.tmp 7)), none⟩⟩, ⟨4, false, [], ⟨(some 29), (.indexAddr 1 (.tmp 27) (.tmp 28)), none⟩⟩, ⟨6, false, [], ⟨(some 31), (.mv (.tmp 0)), none⟩⟩, ⟨7, false, [], ⟨(some 32), (.mv (.tmp 9)), none⟩⟩, ⟨8, false, [], ⟨(some 33), (.indexAddr 1 (.tmp 31) (.tmp 32)), none⟩⟩, ⟨10, false, [], ⟨(some 35), (.mv (.tmp 8)), none⟩⟩, ⟨5, false, [], ⟨(some 30), (.load false 1 (.tmp 29)), none⟩⟩, ⟨9, false, [], ⟨(some 34), (.load false 1 (.tmp 33)), none⟩⟩, ⟨11, false, [], ⟨(some 36), (.bin .mul (.tmp 34) (.tmp 35)), none⟩⟩, ⟨12, false, [], ⟨(some 37), (.bin .add (.tmp 30) (.tmp 36)), none⟩⟩, ⟨13, false, [], ⟨(some 38), (.bin .rem (.tmp 37) (.const (.int .i64 998244353))), none⟩⟩, ⟨14, false, [], ⟨(some 39), (.indexAddr 1 (.tmp 25) (.tmp 26)), none⟩⟩, ⟨15, false, [], ⟨none, (.store 1 (.tmp 39) (.tmp 38)), none⟩⟩]) (.region [⟨(some 40), (.mv (.tmp 8)), none⟩, ⟨(some 41), (.mv (.tmp 6)), none⟩, ⟨(some 42), (.bin .mul (.tmp 40) (.tmp 41)), none⟩, ⟨(some 43), (.bin .rem (.tmp 42) (.const (.int .i64 998244353))), none⟩, ⟨(some 8), (.mv (.tmp 43)), none⟩]))) (.region [⟨(some 23), (.mv (.tmp 9)), none⟩, ⟨(some 24), (.bin .add (.tmp 23) (.const (.int .i64 1))), none⟩, ⟨(some 9), (.mv (.tmp 24)), none⟩])))))) (.region [⟨(some 44), (.mv (.tmp 6)), none⟩, ⟨(some 45), (.mv (.tmp 1)), none⟩, ⟨(some 46), (.bin .mul (.tmp 44) (.tmp 45)), none⟩, ⟨(some 47), (.bin .rem (.tmp 46) (.const (.int .i64 998244353))), none⟩, ⟨(some 6), (.mv (.tmp 47)), none⟩])))) (.region [⟨(some 17), (.mv (.tmp 7)), none⟩, ⟨(some 18), (.bin .add (.tmp 17) (.const (.int .i64 1))), none⟩, ⟨(some 7), (.mv (.tmp 18)), none⟩])))))) (.seq (.region [⟨(some 48), (.mv (.tmp 5)), none⟩, ⟨(some 4), (.mv (.tmp 48)), none⟩]) .ret))))))
/-- skyfix/ntt.back -/
def B30 : ABody := (.mk 1 36 [(.tmp 2)] (.seq (.region [⟨(some 2), (.mv (.const .nilslice)), none⟩]) (.seq (.region [⟨(some 7), (.mv (.tmp 0)), none⟩, ⟨(some 8), (.len (.tmp 7)), none⟩, ⟨(some 9), (.bin .quo (.const (.int .i64 998244352)) (.tmp 8)), none⟩, ⟨(some 10), (.call (.const (.func 33 [] [])) [(.const (.int .i64 3)), (.tmp 9)]), none⟩, ⟨(some 3), (.mv (.tmp 10)), none⟩]) (.seq (.region [⟨(some 11), (.mv (.tmp 0)), none⟩, ⟨(some 12), (.build [.nilslice, (.int .i64 0)] [(0, (1, (.tmp 11))), (1, (1, (.const (.int .i64 1))))]), none⟩, ⟨(some 13), (.mv (.tmp 3)), none⟩, ⟨(some 14), (.call (.const (.func 33 [] [])) [(.tmp 13), (.const (.int .i64 998244351))]), none⟩, ⟨(some 15), (.call (.const (.func 49 [] [])) [(.tmp 12), (.tmp 14)]), none⟩, ⟨(some 4), (.mv (.tmp 15)), none⟩]) (.seq (.region [⟨(some 16), (.mv (.tmp 0)), none⟩, ⟨(some 17), (.len (.tmp 16)), none⟩, ⟨(some 18), (.call (.const (.func 33 [] [])) [(.tmp 17), (.const (.int .i64 998244351))]), none⟩, ⟨(some 5), (.mv (.tmp 18)), none⟩]) (.seq (.seq (.region [⟨(some 19), (.mv (.tmp 4)), none⟩, ⟨(some 20), (.len (.tmp 19)), none⟩, ⟨(some 21), (.mv (.const (.int .i64 0))), none⟩]) (.block 0 (.loop (.seq (.region [⟨(some 22), (.bin .lss (.tmp 21) (.tmp 20)), none⟩]) (.seq (.cond (.tmp 22) .skip (.exit 0)) (.seq (.block 1 (.seq (.region [⟨(some 23), (.mv (.tmp 21)), none⟩, ⟨(some 6), (.mv (.tmp 23)), none⟩]) (.region [⟨(some 24), (.mv (.tmp 4)), none⟩, ⟨(some 25), (.mv (.tmp 6)), none⟩, ⟨(some 26), (.mv (.tmp 4)), none⟩, ⟨(some 27), (.mv (.tmp 6)), none⟩, ⟨(some 28), (.indexAddr 1 (.tmp 26) (.tmp 27)), none⟩, ⟨(some 29), (.load false 1 (.tmp 28)), none⟩, ⟨(some 30), (.mv (.tmp 5)), none⟩, ⟨(some 31), (.bin .mul (.tmp 29) (.tmp 30)), none⟩, ⟨(some 32), (.bin .rem (.tmp 31) (.const (.int .i64 998244353))), none⟩, ⟨(some 33), (.indexAddr 1 (.tmp 24) (.tmp 25)), none⟩, ⟨none, (.store 1 (.tmp 33) (.tmp 32)), none⟩]))) (.region [⟨(some 34), (.bin .add (.tmp 21) (.const (.int .i64 1))), none⟩, ⟨(some 21), (.mv (.tmp 34)), none⟩]))))))) (.seq (.region [⟨(some 35), (.mv (.tmp 4)), none⟩, ⟨(some 2), (.mv (.tmp 35)), none⟩]) .ret)))))))
/-- skyfix/skyfixref10.power -/
def B31 : ABody := (.mk 2 22 [(.tmp 4)] (.seq (.region [⟨(some 4), (.mv (.const (.int .i64 0))), none⟩]) (.seq (.region [⟨(some 5), (.mv (.const (.int .i64 1))), none⟩]) (.seq (.block 0 (.loop (.seq (.seq (.region [⟨(some 6), (.mv (.tmp 1)), none⟩, ⟨(some 7), (.bin .gtr (.tmp 6) (.const (.int .i64 0))), none⟩]) (.cond (.tmp 7) .skip (.exit 0))) (.seq (.block 1 (.seq (.seq (.region [⟨(some 10), (.mv (.tmp 1)), none⟩, ⟨(some 11), (.bin .rem (.tmp 10) (.const (.int .i64 2))), none⟩, ⟨(some 12), (.bin .eql (.tmp 11) (.const (.int .i64 1))), none⟩]) (.cond (.tmp 12) (.region [⟨(some 13), (.mv (.tmp 5)), none⟩, ⟨(some 14), (.mv (.tmp 0)), none⟩, ⟨(some 15), (.bin .mul (.tmp 13) (.tmp 14)), none⟩, ⟨(some 16), (.bin .rem (.tmp 15) (.const (.int .i64 998244353))), none⟩, ⟨(some 5), (.mv (.tmp 16)), none⟩]) .skip)) (.region [⟨(some 17), (.mv (.tmp 0)), none⟩, ⟨(some 18), (.mv (.tmp 0)), none⟩, ⟨(some 19), (.bin .mul (.tmp 17) (.tmp 18)), none⟩, ⟨(some 20), (.bin .rem (.tmp 19) (.const (.int .i64 998244353))), none⟩, ⟨(some 0), (.mv (.tmp 20)), none⟩]))) (.region [⟨(some 8), (.mv (.tmp 1)), none⟩, ⟨(some 9), (.bin .quo (.tmp 8) (.const (.int .i64 2))), none⟩, ⟨(some 1), (.mv (.tmp 9)), none⟩]))))) (.seq (.region [⟨(some 21), (.mv (.tmp 5)), none⟩, ⟨(some 4), (.mv (.tmp 21)), none⟩]) .ret)))))
/-- skyfix/ntt.length -/
def B32 : ABody := (.mk 1 16 [(.tmp 2)] (.seq (.region [⟨(some 2), (.mv (.const (.bool false))), none⟩]) (.seq (.region [⟨(some 3), (.mv (.tmp 0)), none⟩, ⟨(some 4), (.bin .gtr (.tmp 3) (.const (.int .i64 0))), none⟩, ⟨(some 5), (.mv (.tmp 4)), none⟩, ⟨(some 6), (.mv (.tmp 0)), (some (5, true))⟩, ⟨(some 7), (.bin .leq (.tmp 6) (.const (.int .i64 32768))), (some (5, true))⟩, ⟨(some 8), (.pick (.tmp 5) (.tmp 7) (.const (.bool false))), none⟩, ⟨(some 9), (.mv (.tmp 8)), none⟩, ⟨(some 10), (.mv (.tmp 0)), (some (9, true))⟩, ⟨(some 11), (.mv (.tmp 0)), (some (9, true))⟩, ⟨(some 12), (.bin .sub (.tmp 11) (.const (.int .i64 1))), (some (9, true))⟩, ⟨(some 13), (.bin .and (.tmp 10) (.tmp 12)), (some (9, true))⟩, ⟨(some 14), (.bin .eql (.tmp 13) (.const (.int .i64 0))), (some (9, true))⟩, ⟨(some 15), (.pick (.tmp 9) (.tmp 14) (.const (.bool false))), none⟩, ⟨(some 2), (.mv (.tmp 15)), none⟩]) .ret)))
/-- skyfix/ntt.power -/
def B33 : ABody := (.mk 2 22 [(.tmp 4)] (.seq (.region [⟨(some 4), (.mv (.const (.int .i64 0))), none⟩]) (.seq (.region [⟨(some 5), (.mv (.const (.int .i64 1))), none⟩]) (.seq (.block 0 (.loop (.seq (.seq (.region [⟨(some 6), (.mv (.tmp 1)), none⟩, ⟨(some 7), (.bin .gtr (.tmp 6) (.const (.int .i64 0))), none⟩]) (.cond (.tmp 7) .skip (.exit 0))) (.seq (.block 1 (.seq (.seq (.region [⟨(some 10), (.mv (.tmp 1)), none⟩, ⟨(some 11), (.bin .and (.tmp 10) (.const (.int .i64 1))), none⟩, ⟨(some 12), (.bin .gtr (.tmp 11) (.const (.int .i64 0))), none⟩]) (.cond (.tmp 12) (.region [⟨(some 13), (.mv (.tmp 5)), none⟩, ⟨(some 14), (.mv (.tmp 0)), none⟩, ⟨(some 15), (.bin .mul (.tmp 13) (.tmp 14)), none⟩, ⟨(some 16), (.bin .rem (.tmp 15) (.const (.int .i64 998244353))), none⟩, ⟨(some 5), (.mv (.tmp 16)), none⟩]) .skip)) (.region [⟨(some 17), (.mv (.tmp 0)), none⟩, ⟨(some 18), (.mv (.tmp 0)), none⟩, ⟨(some 19), (.bin .mul (.tmp 17) (.tmp 18)), none⟩, ⟨(some 20), (.bin .rem (.tmp 19) (.const (.int .i64 998244353))), none⟩, ⟨(some 0), (.mv (.tmp 20)), none⟩]))) (.region [⟨(some 8), (.mv (.tmp 1)), none⟩, ⟨(some 9), (.bin .shr (.tmp 8) (.const (.int .u64 1))), none⟩, ⟨(some 1), (.mv (.tmp 9)), none⟩]))))) (.seq (.region [⟨(some 21), (.mv (.tmp 5)), none⟩, ⟨(some 4), (.mv (.tmp 21)), none⟩]) .ret)))))
/-- skyfix/skyfixref10.length -/
def B34 : ABody := (.mk 1 16 [(.tmp 2)] (.seq (.region [⟨(some 2), (.mv (.const (.bool false))), none⟩]) (.seq (.region [⟨(some 3), (.mv (.tmp 0)), none⟩, ⟨(some 4), (.bin .geq (.tmp 3) (.const (.int .i64 1))), none⟩, ⟨(some 5), (.mv (.tmp 4)), none⟩, ⟨(some 6), (.mv (.tmp 0)), (some (5, true))⟩, ⟨(some 7), (.bin .leq (.tmp 6) (.const (.int .i64 32768))), (some (5, true))⟩, ⟨(some 8), (.pick (.tmp 5) (.tmp 7) (.const (.bool false))), none⟩, ⟨(some 9), (.mv (.tmp 8)), none⟩, ⟨(some 10), (.mv (.tmp 0)), (some (9, true))⟩, ⟨(some 11), (.mv (.tmp 0)), (some (9, true))⟩, ⟨(some 12), (.bin .sub (.tmp 11) (.const (.int .i64 1))), (some (9, true))⟩, ⟨(some 13), (.bin .and (.tmp 10) (.tmp 12)), (some (9, true))⟩, ⟨(some 14), (.bin .eql (.tmp 13) (.const (.int .i64 0))), (some (9, true))⟩, ⟨(some 15), (.pick (.tmp 9) (.tmp 14) (.const (.bool false))), none⟩, ⟨(some 2), (.mv (.tmp 15)), none⟩]) .ret)))
/-- skyfix/ntt.signed -/
def B35 : ABody := (.mk 1 8 [(.tmp 2)] (.seq (.region [⟨(some 2), (.mv (.const (.int .i64 0))), none⟩]) (.seq (.seq (.region [⟨(some 3), (.mv (.tmp 0)), none⟩, ⟨(some 4), (.bin .gtr (.tmp 3) (.const (.int .i64 499122176))), none⟩]) (.cond (.tmp 4) (.seq (.region [⟨(some 5), (.mv (.tmp 0)), none⟩, ⟨(some 6), (.bin .sub (.tmp 5) (.const (.int .i64 998244353))), none⟩, ⟨(some 2), (.mv (.tmp 6)), none⟩]) .ret) .skip)) (.seq (.region [⟨(some 7), (.mv (.tmp 0)), none⟩, ⟨(some 2), (.mv (.tmp 7)), none⟩]) .ret))))
/-- skyfix/ntt.Product$1 -/
def B36 : ABody := (.mk 1 9 [(.tmp 2)] (.seq (.region [⟨(some 2), (.mv (.const (.bool false))), none⟩]) (.seq (.region [⟨(some 3), (.mv (.tmp 0)), none⟩, ⟨(some 4), (.bin .lss (.tmp 3) (.const (.int .i64 (-1000000)))), none⟩, ⟨(some 5), (.mv (.tmp 4)), none⟩, ⟨(some 6), (.mv (.tmp 0)), (some (5, false))⟩, ⟨(some 7), (.bin .gtr (.tmp 6) (.const (.int .i64 1000000))), (some (5, false))⟩, ⟨(some 8), (.pick (.tmp 5) (.const (.bool true)) (.tmp 7)), none⟩, ⟨(some 2), (.mv (.tmp 8)), none⟩]) .ret)))
/-- slices.ContainsFunc[[]int,int] -/
def B37 : ABody := (.mk 2 9 [(.tmp 4)] (.seq (.region [⟨(some 4), (.mv (.const (.bool false))), none⟩]) (.seq (.region [⟨(some 5), (.mv (.tmp 0)), none⟩, ⟨(some 6), (.mv (.tmp 1)), none⟩, ⟨(some 7), (.call (.const (.func 50 [] [])) [(.tmp 5), (.tmp 6)]), none⟩, ⟨(some 8), (.bin .geq (.tmp 7) (.const (.int .i64 0))), none⟩, ⟨(some 4), (.mv (.tmp 8)), none⟩]) .ret)))
/-- skyfix/ntt.heavy -/
def B38 : ABody := (.mk 2 40 [(.tmp 4)] (.seq (.region [⟨(some 4), (.mv (.const (.bool false))), none⟩]) (.seq (.region [⟨(some 5), (.mv (.const (.int .i64 0))), none⟩, ⟨(some 6), (.mv (.const (.int .i64 0))), none⟩]) (.seq (.seq (.region [⟨(some 11), (.mv (.tmp 0)), none⟩, ⟨(some 12), (.len (.tmp 11)), none⟩, ⟨(some 13), (.mv (.const (.int .i64 0))), none⟩]) (.block 0 (.loop (.seq (.region [⟨(some 14), (.bin .lss (.tmp 13) (.tmp 12)), none⟩]) (.seq (.cond (.tmp 14) .skip (.exit 0)) (.seq (.block 1 (.seq (.region [⟨(some 15), (.indexAddr 1 (.tmp 11) (.tmp 13)), none⟩, ⟨(some 16), (.load false 1 (.tmp 15)), none⟩, ⟨(some 8), (.mv (.tmp 16)), none⟩]) (.region [⟨(some 17), (.mv (.tmp 5)), none⟩, ⟨(some 18), (.mv (.tmp 8)), none⟩, ⟨(some 19), (.mv (.tmp 8)), none⟩, ⟨(some 20), (.un .neg (.tmp 19)), none⟩, ⟨(some 21), (.max [(.tmp 18), (.tmp 20)]), none⟩, ⟨(some 22), (.bin .add (.tmp 17) (.tmp 21)), none⟩, ⟨(some 5), (.mv (.tmp 22)), none⟩]))) (.region [⟨(some 23), (.bin .add (.tmp 13) (.const (.int .i64 1))), none⟩, ⟨(some 13), (.mv (.tmp 23)), none⟩]))))))) (.seq (.seq (.region [⟨(some 24), (.mv (.tmp 1)), none⟩, ⟨(some 25), (.len (.tmp 24)), none⟩, ⟨(some 26), (.mv (.const (.int .i64 0))), none⟩]) (.block 2 (.loop (.seq (.region [⟨(some 27), (.bin .lss (.tmp 26) (.tmp 25)), none⟩]) (.seq (.cond (.tmp 27) .skip (.exit 2)) (.seq (.block 3 (.seq (.region [⟨(some 28), (.indexAddr 1 (.tmp 24) (.tmp 26)), none⟩, ⟨(some 29), (.load false 1 (.tmp 28)), none⟩, ⟨(some 10), (.mv (.tmp 29)), none⟩]) (.region [⟨(some 30), (.mv (.tmp 6)), none⟩, ⟨(some 31), (.mv (.tmp 10)), none⟩, ⟨(some 32), (.mv (.tmp 10)), none⟩, ⟨(some 33), (.un .neg (.tmp 32)), none⟩, ⟨(some 34), (.max [(.tmp 30), (.tmp 31), (.tmp 33)]), none⟩, ⟨(some 6), (.mv (.tmp 34)), none⟩]))) (.region [⟨(some 35), (.bin .add (.tmp 26) (.const (.int .i64 1))), none⟩, ⟨(some 26), (.mv (.tmp 35)), none⟩]))))))) (.seq (.region [⟨(some 36), (.mv (.tmp 5)), none⟩, ⟨(some 37), (.mv (.tmp 6)), none⟩, ⟨(some 38), (.bin .mul (.tmp 36) (.tmp 37)), none⟩, ⟨(some 39), (.bin .gtr (.tmp 38) (.const (.int .i64 499122176))), none⟩, ⟨(some 4), (.mv (.tmp 39)), none⟩]) .ret))))))
/-- skyfix/ntt.product -/
def B39 : ABody := (.mk 2 50 [(.tmp 4)] (.seq (.region [⟨(some 4), (.mv (.const .nilslice)), none⟩]) (.seq (.region [⟨(some 5), (.alloc [(.int .i64 0)]), none⟩, ⟨none, (.store 1 (.tmp 5) (.const (.int .i64 1))), none⟩]) (.seq (.block 0 (.loop (.seq (.seq (.region [⟨(some 10), (.load false 1 (.tmp 5)), none⟩, ⟨(some 11), (.mv (.tmp 0)), none⟩, ⟨(some 12), (.len (.tmp 11)), none⟩, ⟨(some 13), (.mv (.tmp 1)), none⟩, ⟨(some 14), (.len (.tmp 13)), none⟩, ⟨(some 15), (.bin .add (.tmp 12) (.tmp 14)), none⟩, ⟨(some 16), (.bin .sub (.tmp 15) (.const (.int .i64 1))), none⟩, ⟨(some 17), (.bin .lss (.tmp 10) (.tmp 16)), none⟩]) (.cond (.tmp 17) .skip (.exit 0))) (.block 1 (.region [⟨(some 18), (.load false 1 (.tmp 5)), none⟩, ⟨(some 19), (.bin .mul (.tmp 18) (.const (.int .i64 2))), none⟩, ⟨none, (.store 1 (.tmp 5) (.tmp 19)), none⟩]))))) (.seq (.region [⟨(some 20), (.mkfunc 51 [] [(.tmp 5)]), none⟩, ⟨(some 6), (.mv (.tmp 20)), none⟩]) (.seq (.region [⟨(some 21), (.mv (.tmp 6)), none⟩, ⟨(some 22), (.mv (.tmp 0)), none⟩, ⟨(some 23), (.call (.tmp 21) [(.tmp 22)]), none⟩, ⟨(some 24), (.mv (.tmp 6)), none⟩, ⟨(some 25), (.mv (.tmp 1)), none⟩, ⟨(some 26), (.call (.tmp 24) [(.tmp 25)]), none⟩, ⟨(some 27), (.call (.const (.func 53 [] [])) [(.tmp 23), (.tmp 26), (.const (.func 54 [] []))]), none⟩, ⟨(some 28), (.call (.const (.func 30 [] [])) [(.tmp 27)]), none⟩, ⟨(some 7), (.mv (.tmp 28)), none⟩]) (.seq (.seq (.region [⟨(some 29), (.mv (.tmp 7)), none⟩, ⟨(some 30), (.len (.tmp 29)), none⟩, ⟨(some 31), (.mv (.const (.int .i64 0))), none⟩]) (.block 2 (.loop (.seq (.region [⟨(some 32), (.bin .lss (.tmp 31) (.tmp 30)), none⟩]) (.seq (.cond (.tmp 32) .skip (.exit 2)) (.seq (.block 3 (.seq (.region [⟨(some 33), (.mv (.tmp 31)), none⟩, ⟨(some 34), (.indexAddr 1 (.tmp 29) (.tmp 31)), none⟩, ⟨(some 35), (.load false 1 (.tmp 34)), none⟩, ⟨(some 8), (.mv (.tmp 33)), none⟩, ⟨(some 9), (.mv (.tmp 35)), none⟩]) (.region [⟨(some 36), (.mv (.tmp 7)), none⟩, ⟨(some 37), (.mv (.tmp 8)), none⟩, ⟨(some 38), (.mv (.tmp 9)), none⟩, ⟨(some 39), (.call (.const (.func 35 [] [])) [(.tmp 38)]), none⟩, ⟨(some 40), (.indexAddr 1 (.tmp 36) (.tmp 37)), none⟩, ⟨none, (.store 1 (.tmp 40) (.tmp 39)), none⟩]))) (.region [⟨(some 41), (.bin .add (.tmp 31) (.const (.int .i64 1))), none⟩, ⟨(some 31), (.mv (.tmp 41)), none⟩]))))))) (.seq (.region [⟨(some 42), (.mv (.tmp 7)), none⟩, ⟨(some 43), (.mv (.tmp 0)), none⟩, ⟨(some 44), (.len (.tmp 43)), none⟩, ⟨(some 45), (.mv (.tmp 1)), none⟩, ⟨(some 46), (.len (.tmp 45)), none⟩, ⟨(some 47), (.bin .add (.tmp 44) (.tmp 46)), none⟩, ⟨(some 48), (.bin .sub (.tmp 47) (.const (.int .i64 1))), none⟩, ⟨(some 49), (.slice 1 (.tmp 42) none (some (.tmp 48)) none), none⟩, ⟨(some 4), (.mv (.tmp 49)), none⟩]) .ret))))))))
/-- skyfix/skyfixkit.Some -/
def B45 : ABody := (.mk 3 17 [(.tmp 6)] (.seq (.region [⟨(some 6), (.mv (.const (.int .i64 0))), none⟩]) (.seq (.seq (.region [⟨(some 7), (.mv (.tmp 1)), none⟩, ⟨(some 8), (.mv (.tmp 0)), none⟩, ⟨(some 9), (.len (.tmp 8)), none⟩, ⟨(some 10), (.bin .geq (.tmp 7) (.tmp 9)), none⟩]) (.cond (.tmp 10) (.seq (.region [⟨(some 6), (.mv (.const (.int .i64 0))), none⟩]) .ret) .skip)) (.seq (.region [⟨(some 11), (.mv (.tmp 0)), none⟩, ⟨(some 12), (.mv (.tmp 1)), none⟩, ⟨(some 13), (.indexAddr 1 (.tmp 11) (.tmp 12)), none⟩, ⟨(some 14), (.load false 1 (.tmp 13)), none⟩, ⟨(some 15), (.mv (.tmp 2)), none⟩, ⟨(some 16), (.call (.const (.func 23 [] [])) [(.tmp 14), (.tmp 15)]), none⟩, ⟨(some 6), (.mv (.tmp 16)), none⟩]) .ret))))
/-- skyfix/ntt.check$1 -/
def B48 : ABody := (.mk 1 9 [(.tmp 2)] (.seq (.region [⟨(some 2), (.mv (.const (.bool false))), none⟩]) (.seq (.region [⟨(some 3), (.mv (.tmp 0)), none⟩, ⟨(some 4), (.bin .lss (.tmp 3) (.const (.int .i64 0))), none⟩, ⟨(some 5), (.mv (.tmp 4)), none⟩, ⟨(some 6), (.mv (.tmp 0)), (some (5, false))⟩, ⟨(some 7), (.bin .geq (.tmp 6) (.const (.int .i64 998244353))), (some (5, false))⟩, ⟨(some 8), (.pick (.tmp 5) (.const (.bool true)) (.tmp 7)), none⟩, ⟨(some 2), (.mv (.tmp 8)), none⟩]) .ret)))
/-- skyfix/ntt.transform -/
def B49 : ABody := (.mk 2 81 [(.tmp 4)] (.seq (.region [⟨(some 2), (.box (.tmp 0)), none⟩, ⟨(some 4), (.mv (.const .nilslice)), none⟩]) (.seq (.region [⟨(some 14), (.load true 2 (.tmp 2)), none⟩, ⟨(some 15), (.call (.const (.func 57 [] [])) [(.tmp 14)]), none⟩, ⟨(some 5), (.alloc [(.int .i64 0)]), none⟩, ⟨none, (.store 1 (.tmp 5) (.tmp 15)), none⟩]) (.seq (.seq (.region [⟨(some 16), (.load false 1 (.tmp 5)), none⟩, ⟨(some 17), (.bin .eql (.tmp 16) (.const (.int .i64 1))), none⟩]) (.cond (.tmp 17) (.seq (.region [⟨(some 18), (.load true 2 (.tmp 2)), none⟩, ⟨(some 19), (.call (.const (.func 58 [] [])) [(.tmp 18), (.const (.int .i64 0))]), none⟩, ⟨(some 20), (.buildSlice 1 [(.int .i64 0)] [(0, (1, (.tmp 19)))]), none⟩, ⟨(some 4), (.mv (.tmp 20)), none⟩]) .ret) .skip)) (.seq (.region [⟨(some 22), (.load true 2 (.tmp 2)), none⟩, ⟨(some 23), (.call (.const (.func 59 [] [])) [(.tmp 22)]), none⟩, ⟨(some 21), (.mv (.tmp 23)), none⟩, ⟨(some 24), (.extract (.tmp 21) 0), none⟩, ⟨(some 25), (.extract (.tmp 21) 1), none⟩, ⟨(some 6), (.alloc [.nilslice, (.int .i64 0)]), none⟩, ⟨(some 7), (.alloc [.nilslice, (.int .i64 0)]), none⟩, ⟨none, (.store 2 (.tmp 6) (.tmp 24)), none⟩, ⟨none, (.store 2 (.tmp 7) (.tmp 25)), none⟩]) (.seq (.draw 16 [⟨1, false, [], ⟨(some 27), (.mv (.tmp 1)), none⟩⟩, ⟨2, false, [], ⟨(some 28), (.mv (.tmp 1)), none⟩⟩, ⟨3, false, [], ⟨(some 29), (.bin .mul (.tmp 27) (.tmp 28)), none⟩⟩, ⟨4, false, [], ⟨(some 30), (.bin .rem (.tmp 29) (.const (.int .i64 998244353))), none⟩⟩, ⟨7, false, [], ⟨(some 33), (.mv (.tmp 1)), none⟩⟩, ⟨8, false, [], ⟨(some 34), (.mv (.tmp 1)), none⟩⟩, ⟨9, false, [], ⟨(some 35), (.bin .mul (.tmp 33) (.tmp 34)), none⟩⟩, ⟨10, false, [], ⟨(some 36), (.bin .rem (.tmp 35) (.const (.int .i64 998244353))), none⟩⟩, ⟨0, false, [], ⟨(some 26), (.load true 2 (.tmp 6)), none⟩⟩, ⟨6, true, [], ⟨(some 32), (.load true 2 (.tmp 7)), none⟩⟩, ⟨5, true, [6], ⟨(some 31), (.call (.const (.func 49 [] [])) [(.tmp 26), (.tmp 30)]), none⟩⟩, ⟨11, true, [], ⟨(some 37), (.call (.const (.func 49 [] [])) [(.tmp 32), (.tmp 36)]), none⟩⟩, ⟨12, false, [5, 11], ⟨(some 8), (.alloc [.nilslice]), none⟩⟩, ⟨13, false, [5, 11], ⟨(some 9), (.alloc [.nilslice]), none⟩⟩, ⟨14, false, [], ⟨none, (.store 1 (.tmp 8) (.tmp 31)), none⟩⟩, ⟨15, false, [], ⟨none, (.store 1 (.tmp 9) (.tmp 37)), none⟩⟩]) (.seq (.region [⟨(some 38), (.load false 1 (.tmp 5)), none⟩, ⟨(some 39), (.makeSlice [(.int .i64 0)] 8 (.tmp 38) (.tmp 38)), none⟩, ⟨(some 10), (.alloc [.nilslice]), none⟩, ⟨none, (.store 1 (.tmp 10) (.tmp 39)), none⟩]) (.seq (.region [⟨(some 11), (.alloc [(.int .i64 0)]), none⟩, ⟨none, (.store 1 (.tmp 11) (.const (.int .i64 0))), none⟩]) (.seq (.seq (.region [⟨(some 40), (.mv (.tmp 1)), none⟩, ⟨(some 41), (.call (.const (.func 60 [] [])) [(.tmp 40)]), none⟩]) (.block 0 (.rangeFunc (.tmp 41) [42] (.region [⟨(some 12), (.mv (.tmp 42)), none⟩]) (.block 1 (.seq (.seq (.region [⟨(some 43), (.load false 1 (.tmp 11)), none⟩, ⟨(some 44), (.load false 1 (.tmp 5)), none⟩, ⟨(some 45), (.bin .quo (.tmp 44) (.const (.int .i64 2))), none⟩, ⟨(some 46), (.bin .eql (.tmp 43) (.tmp 45)), none⟩]) (.cond (.tmp 46) (.exit 0) .skip)) (.seq (.region [⟨(some 47), (.load false 1 (.tmp 9)), none⟩, ⟨(some 48), (.load false 1 (.tmp 11)), none⟩, ⟨(some 49), (.indexAddr 1 (.tmp 47) (.tmp 48)), none⟩, ⟨(some 50), (.load false 1 (.tmp 49)), none⟩, ⟨(some 51), (.mv (.tmp 12)), none⟩, ⟨(some 52), (.bin .mul (.tmp 50) (.tmp 51)), none⟩, ⟨(some 53), (.bin .rem (.tmp 52) (.const (.int .i64 998244353))), none⟩, ⟨(some 13), (.mv (.tmp 53)), none⟩]) (.seq (.draw 0 [⟨11, false, [], ⟨(some 65), (.mv (.tmp 13)), none⟩⟩, ⟨19, false, [], ⟨(some 73), (.mv (.tmp 13)), none⟩⟩, ⟨0, false, [], ⟨(some 54), (.load false 1 (.tmp 10)), none⟩⟩, ⟨1, false, [], ⟨(some 55), (.load false 1 (.tmp 11)), none⟩⟩, ⟨2, true, [], ⟨(some 56), (.load false 1 (.tmp 10)), none⟩⟩, ⟨3, true, [], ⟨(some 57), (.load false 1 (.tmp 11)), none⟩⟩, ⟨4, true, [], ⟨(some 58), (.load false 1 (.tmp 5)), none⟩⟩, ⟨5, false, [], ⟨(some 59), (.bin .quo (.tmp 58) (.const (.int .i64 2))), none⟩⟩, ⟨6, false, [], ⟨(some 60), (.bin .add (.tmp 57) (.tmp 59)), none⟩⟩, ⟨7, false, [], ⟨(some 61), (.load false 1 (.tmp 8)), none⟩⟩, ⟨8, false, [], ⟨(some 62), (.load false 1 (.tmp 11)), none⟩⟩, ⟨9, false, [], ⟨(some 63), (.indexAddr 1 (.tmp 61) (.tmp 62)), none⟩⟩, ⟨10, false, [], ⟨(some 64), (.load false 1 (.tmp 63)), none⟩⟩, ⟨12, false, [], ⟨(some 66), (.bin .add (.tmp 64) (.tmp 65)), none⟩⟩, ⟨13, false, [], ⟨(some 67), (.bin .rem (.tmp 66) (.const (.int .i64 998244353))), none⟩⟩, ⟨14, false, [], ⟨(some 68), (.load false 1 (.tmp 8)), none⟩⟩, ⟨15, false, [], ⟨(some 69), (.load false 1 (.tmp 11)), none⟩⟩, ⟨16, false, [], ⟨(some 70), (.indexAddr 1 (.tmp 68) (.tmp 69)), none⟩⟩, ⟨17, false, [], ⟨(some 71), (.load false 1 (.tmp 70)), none⟩⟩, ⟨18, false, [], ⟨(some 72), (.bin .add (.tmp 71) (.const (.int .i64 998244353))), none⟩⟩, ⟨20, false, [], ⟨(some 74), (.bin .sub (.tmp 72) (.tmp 73)), none⟩⟩, ⟨21, false, [], ⟨(some 75), (.bin .rem (.tmp 74) (.const (.int .i64 998244353))), none⟩⟩, ⟨22, false, [], ⟨(some 76), (.indexAddr 1 (.tmp 54) (.tmp 55)), none⟩⟩, ⟨23, false, [2, 3, 4], ⟨none, (.store 1 (.tmp 76) (.tmp 67)), none⟩⟩, ⟨24, false, [], ⟨(some 77), (.indexAddr 1 (.tmp 56) (.tmp 60)), none⟩⟩, ⟨25, false, [], ⟨none, (.store 1 (.tmp 77) (.tmp 75)), none⟩⟩]) (.region [⟨(some 78), (.load false 1 (.tmp 11)), none⟩, ⟨(some 79), (.bin .add (.tmp 78) (.const (.int .i64 1))), none⟩, ⟨none, (.store 1 (.tmp 11) (.tmp 79)), none⟩])))))))) (.seq (.region [⟨(some 80), (.load false 1 (.tmp 10)), none⟩, ⟨(some 4), (.mv (.tmp 80)), none⟩]) .ret))))))))))
/-- slices.IndexFunc[[]int,int] -/
def B50 : ABody := (.mk 2 19 [(.tmp 4)] (.seq (.region [⟨(some 4), (.mv (.const (.int .i64 0))), none⟩]) (.seq (.seq (.region [⟨(some 6), (.mv (.tmp 0)), none⟩, ⟨(some 7), (.len (.tmp 6)), none⟩, ⟨(some 8), (.mv (.const (.int .i64 0))), none⟩]) (.block 0 (.loop (.seq (.region [⟨(some 9), (.bin .lss (.tmp 8) (.tmp 7)), none⟩]) (.seq (.cond (.tmp 9) .skip (.exit 0)) (.seq (.block 1 (.seq (.region [⟨(some 10), (.mv (.tmp 8)), none⟩, ⟨(some 5), (.mv (.tmp 10)), none⟩]) (.seq (.region [⟨(some 11), (.mv (.tmp 1)), none⟩, ⟨(some 12), (.mv (.tmp 0)), none⟩, ⟨(some 13), (.mv (.tmp 5)), none⟩, ⟨(some 14), (.indexAddr 1 (.tmp 12) (.tmp 13)), none⟩, ⟨(some 15), (.load false 1 (.tmp 14)), none⟩, ⟨(some 16), (.call (.tmp 11) [(.tmp 15)]), none⟩]) (.cond (.tmp 16) (.seq (.region [⟨(some 17), (.mv (.tmp 5)), none⟩, ⟨(some 4), (.mv (.tmp 17)), none⟩]) .ret) .skip)))) (.region [⟨(some 18), (.bin .add (.tmp 8) (.const (.int .i64 1))), none⟩, ⟨(some 8), (.mv (.tmp 18)), none⟩]))))))) (.seq (.region [⟨(some 4), (.mv (.const (.int .i64 (-1)))), none⟩]) .ret))))
/-- skyfix/ntt.product$1 -/
def B51 : ABody := (.mk 1 24 [(.tmp 3)] (.seq (.region [⟨(some 3), (.mv (.const .nilslice)), none⟩]) (.seq (.region [⟨(some 7), (.load false 1 (.tmp 1)), none⟩, ⟨(some 8), (.makeSlice [(.int .i64 0)] 8 (.tmp 7) (.tmp 7)), none⟩, ⟨(some 4), (.mv (.tmp 8)), none⟩]) (.seq (.seq (.region [⟨(some 9), (.mv (.tmp 0)), none⟩, ⟨(some 10), (.len (.tmp 9)), none⟩, ⟨(some 11), (.mv (.const (.int .i64 0))), none⟩]) (.block 0 (.loop (.seq (.region [⟨(some 12), (.bin .lss (.tmp 11) (.tmp 10)), none⟩]) (.seq (.cond (.tmp 12) .skip (.exit 0)) (.seq (.block 1 (.seq (.region [⟨(some 13), (.mv (.tmp 11)), none⟩, ⟨(some 14), (.indexAddr 1 (.tmp 9) (.tmp 11)), none⟩, ⟨(some 15), (.load false 1 (.tmp 14)), none⟩, ⟨(some 5), (.mv (.tmp 13)), none⟩, ⟨(some 6), (.mv (.tmp 15)), none⟩]) (.region [⟨(some 16), (.mv (.tmp 4)), none⟩, ⟨(some 17), (.mv (.tmp 5)), none⟩, ⟨(some 18), (.mv (.tmp 6)), none⟩, ⟨(some 19), (.call (.const (.func 52 [] [])) [(.tmp 18)]), none⟩, ⟨(some 20), (.indexAddr 1 (.tmp 16) (.tmp 17)), none⟩, ⟨none, (.store 1 (.tmp 20) (.tmp 19)), none⟩]))) (.region [⟨(some 21), (.bin .add (.tmp 11) (.const (.int .i64 1))), none⟩, ⟨(some 11), (.mv (.tmp 21)), none⟩]))))))) (.seq (.region [⟨(some 22), (.mv (.tmp 4)), none⟩, ⟨(some 23), (.call (.const (.func 27 [] [])) [(.tmp 22)]), none⟩, ⟨(some 3), (.mv (.tmp 23)), none⟩]) .ret)))))
/-- skyfix/ntt.residue -/
def B52 : ABody := (.mk 1 10 [(.tmp 2)] (.seq (.region [⟨(some 2), (.mv (.const (.int .i64 0))), none⟩]) (.seq (.seq (.region [⟨(some 3), (.mv (.tmp 0)), none⟩, ⟨(some 4), (.bin .rem (.tmp 3) (.const (.int .i64 998244353))), none⟩, ⟨(some 0), (.mv (.tmp 4)), none⟩]) (.seq (.region [⟨(some 5), (.mv (.tmp 0)), none⟩, ⟨(some 6), (.bin .lss (.tmp 5) (.const (.int .i64 0))), none⟩]) (.cond (.tmp 6) (.region [⟨(some 7), (.mv (.tmp 0)), none⟩, ⟨(some 8), (.bin .add (.tmp 7) (.const (.int .i64 998244353))), none⟩, ⟨(some 0), (.mv (.tmp 8)), none⟩]) .skip))) (.seq (.region [⟨(some 9), (.mv (.tmp 0)), none⟩, ⟨(some 2), (.mv (.tmp 9)), none⟩]) .ret))))
/-- skyfix/ntt.combine[int] -/
def B53 : ABody := (.mk 3 32 [(.tmp 6)] (.seq (.region [⟨(some 6), (.mv (.const .nilslice)), none⟩]) (.seq (.region [⟨(some 9), (.mv (.tmp 0)), none⟩, ⟨(some 10), (.len (.tmp 9)), none⟩, ⟨(some 11), (.makeSlice [(.int .i64 0)] 8 (.tmp 10) (.tmp 10)), none⟩, ⟨(some 7), (.mv (.tmp 11)), none⟩]) (.seq (.seq (.region [⟨(some 12), (.mv (.tmp 7)), none⟩, ⟨(some 13), (.len (.tmp 12)), none⟩, ⟨(some 14), (.mv (.const (.int .i64 0))), none⟩]) (.block 0 (.loop (.seq (.region [⟨(some 15), (.bin .lss (.tmp 14) (.tmp 13)), none⟩]) (.seq (.cond (.tmp 15) .skip (.exit 0)) (.seq (.block 1 (.seq (.region [⟨(some 16), (.mv (.tmp 14)), none⟩, ⟨(some 8), (.mv (.tmp 16)), none⟩]) (.draw 0 [⟨0, false, [], ⟨(some 17), (.mv (.tmp 7)), none⟩⟩, ⟨1, false, [], ⟨(some 18), (.mv (.tmp 8)), none⟩⟩, ⟨2, false, [], ⟨(some 19), (.mv (.tmp 2)), none⟩⟩, ⟨3, false, [], ⟨(some 20), (.mv (.tmp 0)), none⟩⟩, ⟨4, false, [], ⟨(some 21), (.mv (.tmp 8)), none⟩⟩, ⟨5, false, [], ⟨(some 22), (.indexAddr 1 (.tmp 20) (.tmp 21)), none⟩⟩, ⟨7, false, [], ⟨(some 24), (.mv (.tmp 1)), none⟩⟩, ⟨8, false, [], ⟨(some 25), (.mv (.tmp 8)), none⟩⟩, ⟨9, false, [], ⟨(some 26), (.indexAddr 1 (.tmp 24) (.tmp 25)), none⟩⟩, ⟨6, false, [], ⟨(some 23), (.load false 1 (.tmp 22)), none⟩⟩, ⟨10, false, [], ⟨(some 27), (.load false 1 (.tmp 26)), none⟩⟩, ⟨11, false, [], ⟨(some 28), (.call (.tmp 19) [(.tmp 23), (.tmp 27)]), none⟩⟩, ⟨12, false, [], ⟨(some 29), (.indexAddr 1 (.tmp 17) (.tmp 18)), none⟩⟩, ⟨13, false, [], ⟨none, (.store 1 (.tmp 29) (.tmp 28)), none⟩⟩]))) (.region [⟨(some 30), (.bin .add (.tmp 14) (.const (.int .i64 1))), none⟩, ⟨(some 14), (.mv (.tmp 30)), none⟩]))))))) (.seq (.region [⟨(some 31), (.mv (.tmp 7)), none⟩, ⟨(some 6), (.mv (.tmp 31)), none⟩]) .ret)))))
/-- skyfix/ntt.product$2 -/
def B54 : ABody := (.mk 2 9 [(.tmp 4)] (.seq (.region [⟨(some 4), (.mv (.const (.int .i64 0))), none⟩]) (.seq (.region [⟨(some 5), (.mv (.tmp 0)), none⟩, ⟨(some 6), (.mv (.tmp 1)), none⟩, ⟨(some 7), (.bin .mul (.tmp 5) (.tmp 6)), none⟩, ⟨(some 8), (.bin .rem (.tmp 7) (.const (.int .i64 998244353))), none⟩, ⟨(some 4), (.mv (.tmp 8)), none⟩]) .ret)))
/-- (skyfix/ntt.view).size -/
def B57 : ABody := (.mk 1 13 [(.tmp 2)] (.seq (.region [⟨(some 1), (.box (.tmp 0)), none⟩, ⟨(some 2), (.mv (.const (.int .i64 0))), none⟩]) (.seq (.region [⟨(some 3), (.fieldAddr 0 (.tmp 1)), none⟩, ⟨(some 4), (.load false 1 (.tmp 3)), none⟩, ⟨(some 5), (.len (.tmp 4)), none⟩, ⟨(some 6), (.fieldAddr 1 (.tmp 1)), none⟩, ⟨(some 7), (.load false 1 (.tmp 6)), none⟩, ⟨(some 8), (.bin .add (.tmp 5) (.tmp 7)), none⟩, ⟨(some 9), (.bin .sub (.tmp 8) (.const (.int .i64 1))), none⟩, ⟨(some 10), (.fieldAddr 1 (.tmp 1)), none⟩, ⟨(some 11), (.load false 1 (.tmp 10)), none⟩, ⟨(some 12), (.bin .quo (.tmp 9) (.tmp 11)), none⟩, ⟨(some 2), (.mv (.tmp 12)), none⟩]) .ret)))
/-- (skyfix/ntt.view).at -/
def B58 : ABody := (.mk 2 13 [(.tmp 4)] (.seq (.region [⟨(some 2), (.box (.tmp 0)), none⟩, ⟨(some 4), (.mv (.const (.int .i64 0))), none⟩]) (.seq (.region [⟨(some 5), (.fieldAddr 0 (.tmp 2)), none⟩, ⟨(some 6), (.load false 1 (.tmp 5)), none⟩, ⟨(some 7), (.mv (.tmp 1)), none⟩, ⟨(some 8), (.fieldAddr 1 (.tmp 2)), none⟩, ⟨(some 9), (.load false 1 (.tmp 8)), none⟩, ⟨(some 10), (.bin .mul (.tmp 7) (.tmp 9)), none⟩, ⟨(some 11), (.indexAddr 1 (.tmp 6) (.tmp 10)), none⟩, ⟨(some 12), (.load false 1 (.tmp 11)), none⟩, ⟨(some 4), (.mv (.tmp 12)), none⟩]) .ret)))
/-- (skyfix/ntt.view).halves -/
def B59 : ABody := (.mk 1 32 [(.cell 2 true 2), (.cell 3 true 2)] (.seq (.region [⟨(some 1), (.box (.tmp 0)), none⟩, ⟨(some 2), (.alloc [.nilslice, (.int .i64 0)]), none⟩, ⟨(some 3), (.alloc [.nilslice, (.int .i64 0)]), none⟩]) (.seq (.draw 0 [⟨0, false, [], ⟨(some 4), (.fieldAddr 0 (.tmp 1)), none⟩⟩, ⟨2, false, [], ⟨(some 6), (.fieldAddr 0 (.tmp 1)), none⟩⟩, ⟨5, false, [], ⟨(some 9), (.fieldAddr 0 (.tmp 1)), none⟩⟩, ⟨9, false, [], ⟨(some 13), (.fieldAddr 1 (.tmp 1)), none⟩⟩, ⟨13, false, [], ⟨(some 17), (.fieldAddr 0 (.tmp 1)), none⟩⟩, ⟨15, false, [], ⟨(some 19), (.fieldAddr 1 (.tmp 1)), none⟩⟩, ⟨17, false, [], ⟨(some 21), (.fieldAddr 0 (.tmp 1)), none⟩⟩, ⟨20, false, [], ⟨(some 24), (.fieldAddr 0 (.tmp 1)), none⟩⟩, ⟨24, false, [], ⟨(some 28), (.fieldAddr 1 (.tmp 1)), none⟩⟩, ⟨1, false, [], ⟨(some 5), (.load false 1 (.tmp 4)), none⟩⟩, ⟨3, false, [], ⟨(some 7), (.load false 1 (.tmp 6)), none⟩⟩, ⟨4, false, [], ⟨(some 8), (.len (.tmp 7)), none⟩⟩, ⟨6, false, [], ⟨(some 10), (.load false 1 (.tmp 9)), none⟩⟩, ⟨7, false, [], ⟨(some 11), (.len (.tmp 10)), none⟩⟩, ⟨8, false, [], ⟨(some 12), (.slice 1 (.tmp 5) none (some (.tmp 8)) (some (.tmp 11))), none⟩⟩, ⟨10, false, [], ⟨(some 14), (.load false 1 (.tmp 13)), none⟩⟩, ⟨11, false, [], ⟨(some 15), (.bin .mul (.const (.int .i64 2)) (.tmp 14)), none⟩⟩, ⟨12, false, [], ⟨(some 16), (.build [.nilslice, (.int .i64 0)] [(0, (1, (.tmp 12))), (1, (1, (.tmp 15)))]), none⟩⟩, ⟨14, true, [], ⟨(some 18), (.load false 1 (.tmp 17)), none⟩⟩, ⟨16, true, [], ⟨(some 20), (.load false 1 (.tmp 19)), none⟩⟩, ⟨18, true, [], ⟨(some 22), (.load false 1 (.tmp 21)), none⟩⟩, ⟨19, false, [], ⟨(some 23), (.len (.tmp 22)), none⟩⟩, ⟨21, true, [], ⟨(some 25), (.load false 1 (.tmp 24)), none⟩⟩, ⟨22, false, [], ⟨(some 26), (.len (.tmp 25)), none⟩⟩, ⟨23, true, [], ⟨(some 27), (.slice 1 (.tmp 18) (some (.tmp 20)) (some (.tmp 23)) (some (.tmp 26))), none⟩⟩, ⟨25, true, [], ⟨(some 29), (.load false 1 (.tmp 28)), none⟩⟩, ⟨26, false, [], ⟨(some 30), (.bin .mul (.const (.int .i64 2)) (.tmp 29)), none⟩⟩, ⟨27, false, [], ⟨(some 31), (.build [.nilslice, (.int .i64 0)] [(0, (1, (.tmp 27))), (1, (1, (.tmp 30)))]), none⟩⟩, ⟨28, false, [14, 16, 18, 21, 23, 25], ⟨none, (.store 2 (.tmp 2) (.tmp 16)), none⟩⟩, ⟨29, false, [], ⟨none, (.store 2 (.tmp 3) (.tmp 31)), none⟩⟩]) .ret)))
/-- skyfix/ntt.powers -/
def B60 : ABody := (.mk 1 4 [(.tmp 2)] (.seq (.region [⟨(some 1), (.box (.tmp 0)), none⟩, ⟨(some 2), (.mv (.const .nilfunc)), none⟩]) (.seq (.region [⟨(some 3), (.mkfunc 61 [] [(.tmp 1)]), none⟩, ⟨(some 2), (.mv (.tmp 3)), none⟩]) .ret)))
/-- skyfix/ntt.powers$1 -/
def B61 : ABody := (.mk 1 11 [] (.seq (.region [⟨(some 3), (.mv (.const (.int .i64 1))), none⟩]) (.block 0 (.loop (.seq (.seq (.region [⟨(some 4), (.mv (.tmp 0)), none⟩, ⟨(some 5), (.mv (.tmp 3)), none⟩, ⟨(some 6), (.call (.tmp 4) [(.tmp 5)]), none⟩]) (.cond (.tmp 6) .skip (.exit 0))) (.block 1 (.region [⟨(some 7), (.mv (.tmp 3)), none⟩, ⟨(some 8), (.load false 1 (.tmp 1)), none⟩, ⟨(some 9), (.bin .mul (.tmp 7) (.tmp 8)), none⟩, ⟨(some 10), (.bin .rem (.tmp 9) (.const (.int .i64 998244353))), none⟩, ⟨(some 3), (.mv (.tmp 10)), none⟩])))))))
end Go.Ae

namespace Go.Ae
def tabL : List (Nat × ABody) := [(0, B0), (1, B1), (7, B7), (8, B8), (9, B9), (10, B10), (11, B11), (12, B12), (13, B13), (14, B14), (15, B15), (16, B16), (17, B17), (18, B18), (19, B19), (23, B23), (26, B26), (27, B27), (28, B28), (29, B29), (30, B30), (31, B31), (32, B32), (33, B33), (34, B34), (35, B35), (36, B36), (37, B37), (38, B38), (39, B39), (45, B45), (48, B48), (49, B49), (50, B50), (51, B51), (52, B52), (53, B53), (54, B54), (57, B57), (58, B58), (59, B59), (60, B60), (61, B61)]
def tab (g : Nat) : Option ABody := (tabL.find? fun p => p.1 == g).map (·.2)
/-- The functions of a list are in the program, with their bodies. -/
def Has (C : Ctx) (T : List Nat) : Prop := ∀ g ∈ T, ∀ b, tab g = some b → C.body g = some b
theorem Has.body {C : Ctx} {T : List Nat} (h : Has C T) {g : Nat} {b : ABody} (hg : T.contains g = true) (hb : tab g = some b) : C.body g = some b := h g (by simpa using hg) b hb
theorem Has.sub {C : Ctx} {T T' : List Nat} (h : Has C T) (hs : T'.all (fun g => T.contains g) = true) : Has C T' := fun g hg => h g (by simpa using List.all_eq_true.1 hs g hg)
theorem tab0 : tab 0 = some B0 := by rfl
theorem tab1 : tab 1 = some B1 := by rfl
theorem tab7 : tab 7 = some B7 := by rfl
theorem tab8 : tab 8 = some B8 := by rfl
theorem tab9 : tab 9 = some B9 := by rfl
theorem tab10 : tab 10 = some B10 := by rfl
theorem tab11 : tab 11 = some B11 := by rfl
theorem tab12 : tab 12 = some B12 := by rfl
theorem tab13 : tab 13 = some B13 := by rfl
theorem tab14 : tab 14 = some B14 := by rfl
theorem tab15 : tab 15 = some B15 := by rfl
theorem tab16 : tab 16 = some B16 := by rfl
theorem tab17 : tab 17 = some B17 := by rfl
theorem tab18 : tab 18 = some B18 := by rfl
theorem tab19 : tab 19 = some B19 := by rfl
theorem tab23 : tab 23 = some B23 := by rfl
theorem tab26 : tab 26 = some B26 := by rfl
theorem tab27 : tab 27 = some B27 := by rfl
theorem tab28 : tab 28 = some B28 := by rfl
theorem tab29 : tab 29 = some B29 := by rfl
theorem tab30 : tab 30 = some B30 := by rfl
theorem tab31 : tab 31 = some B31 := by rfl
theorem tab32 : tab 32 = some B32 := by rfl
theorem tab33 : tab 33 = some B33 := by rfl
theorem tab34 : tab 34 = some B34 := by rfl
theorem tab35 : tab 35 = some B35 := by rfl
theorem tab36 : tab 36 = some B36 := by rfl
theorem tab37 : tab 37 = some B37 := by rfl
theorem tab38 : tab 38 = some B38 := by rfl
theorem tab39 : tab 39 = some B39 := by rfl
theorem tab45 : tab 45 = some B45 := by rfl
theorem tab48 : tab 48 = some B48 := by rfl
theorem tab49 : tab 49 = some B49 := by rfl
theorem tab50 : tab 50 = some B50 := by rfl
theorem tab51 : tab 51 = some B51 := by rfl
theorem tab52 : tab 52 = some B52 := by rfl
theorem tab53 : tab 53 = some B53 := by rfl
theorem tab54 : tab 54 = some B54 := by rfl
theorem tab57 : tab 57 = some B57 := by rfl
theorem tab58 : tab 58 = some B58 := by rfl
theorem tab59 : tab 59 = some B59 := by rfl
theorem tab60 : tab 60 = some B60 := by rfl
theorem tab61 : tab 61 = some B61 := by rfl
/-- skyfix/skyfixlaw10.NttTransforms -/
def T0 : List Nat := [0, 7, 8, 9, 10, 11, 12, 13, 14, 19, 26, 27, 28, 29, 30, 31, 32, 33, 34, 35, 36, 37, 38, 39, 48, 49, 50, 51, 52, 53, 54, 57, 58, 59, 60, 61]
/-- skyfix/skyfixlaw10.NttNumbers -/
def T1 : List Nat := [1, 7, 8, 12, 13, 14, 15, 16, 17, 18, 19, 26, 27, 30, 31, 32, 33, 34, 35, 36, 37, 38, 39, 48, 49, 50, 51, 52, 53, 54, 57, 58, 59, 60, 61]
/-- skyfix/skyfixlaw10.awake -/
def T7 : List Nat := [7, 8, 12, 13, 19, 26, 27, 30, 32, 33, 35, 36, 37, 38, 39, 48, 49, 50, 51, 52, 53, 54, 57, 58, 59, 60, 61]
/-- skyfix/ntt.Transform -/
def T8 : List Nat := [8, 26, 27, 32, 33, 37, 48, 49, 50, 57, 58, 59, 60, 61]
/-- skyfix/skyfixref10.Transform -/
def T9 : List Nat := [9, 14, 28, 29, 31, 34]
/-- skyfix/ntt.Inverse -/
def T10 : List Nat := [10, 26, 30, 32, 33, 37, 48, 49, 50, 57, 58, 59, 60, 61]
/-- skyfix/skyfixref10.Inverse -/
def T11 : List Nat := [11, 14, 28, 29, 31, 34]
/-- skyfix/skyfixkit.Equal -/
def T12 : List Nat := [12]
/-- skyfix/ntt.Root -/
def T13 : List Nat := [13, 32, 33]
/-- skyfix/skyfixref10.Root -/
def T14 : List Nat := [14, 31, 34]
/-- skyfix/ntt.Power -/
def T15 : List Nat := [15, 33]
/-- skyfix/skyfixref10.Power -/
def T16 : List Nat := [16, 31]
/-- skyfix/ntt.Signed -/
def T17 : List Nat := [17, 35]
/-- skyfix/skyfixref10.Signed -/
def T18 : List Nat := [18]
/-- skyfix/ntt.Product -/
def T19 : List Nat := [19, 27, 30, 33, 35, 36, 37, 38, 39, 49, 50, 51, 52, 53, 54, 57, 58, 59, 60, 61]
/-- skyfix/skyfixkit.Turn -/
def T23 : List Nat := [23]
/-- skyfix/ntt.check -/
def T26 : List Nat := [26, 32, 37, 48, 50]
/-- skyfix/ntt.forward -/
def T27 : List Nat := [27, 33, 49, 57, 58, 59, 60, 61]
/-- skyfix/skyfixref10.check -/
def T28 : List Nat := [28, 34]
/-- skyfix/skyfixref10.sums -/
def T29 : List Nat := [29]
/-- skyfix/ntt.back -/
def T30 : List Nat := [30, 33, 49, 57, 58, 59, 60, 61]
/-- skyfix/skyfixref10.power -/
def T31 : List Nat := [31]
/-- skyfix/ntt.length -/
def T32 : List Nat := [32]
/-- skyfix/ntt.power -/
def T33 : List Nat := [33]
/-- skyfix/skyfixref10.length -/
def T34 : List Nat := [34]
/-- skyfix/ntt.signed -/
def T35 : List Nat := [35]
/-- skyfix/ntt.Product$1 -/
def T36 : List Nat := [36]
/-- slices.ContainsFunc[[]int,int] -/
def T37 : List Nat := [37, 50]
/-- skyfix/ntt.heavy -/
def T38 : List Nat := [38]
/-- skyfix/ntt.product -/
def T39 : List Nat := [27, 30, 33, 35, 39, 49, 51, 52, 53, 54, 57, 58, 59, 60, 61]
/-- skyfix/skyfixkit.Some -/
def T45 : List Nat := [23, 45]
/-- skyfix/ntt.check$1 -/
def T48 : List Nat := [48]
/-- skyfix/ntt.transform -/
def T49 : List Nat := [49, 57, 58, 59, 60, 61]
/-- slices.IndexFunc[[]int,int] -/
def T50 : List Nat := [50]
/-- skyfix/ntt.product$1 -/
def T51 : List Nat := [27, 33, 49, 51, 52, 57, 58, 59, 60, 61]
/-- skyfix/ntt.residue -/
def T52 : List Nat := [52]
/-- skyfix/ntt.combine[int] -/
def T53 : List Nat := [53]
/-- skyfix/ntt.product$2 -/
def T54 : List Nat := [54]
/-- (skyfix/ntt.view).size -/
def T57 : List Nat := [57]
/-- (skyfix/ntt.view).at -/
def T58 : List Nat := [58]
/-- (skyfix/ntt.view).halves -/
def T59 : List Nat := [59]
/-- skyfix/ntt.powers -/
def T60 : List Nat := [60, 61]
/-- skyfix/ntt.powers$1 -/
def T61 : List Nat := [61]
end Go.Ae
