/- Texts of the proof, part 7: a second reading of the lowered code, proved sound, and what the functions compute. -/
import Derived.IntWalk
import Derived.Test.YtcfennjjkepgiaaP6

/- What operations give on numbers and on heaps, as rules for the simplifier. -/
namespace Go.Ae

/-! ### Numbers -/
theorem w_i64 {x : Int} (h : -9223372036854775808 ≤ x ∧ x ≤ 9223372036854775807) : IntKind.i64.wrap x = x := IntWalk.i64_in x h
theorem w_i32 {x : Int} (h : -2147483648 ≤ x ∧ x ≤ 2147483647) : IntKind.i32.wrap x = x := IntWalk.i32_in x h
theorem w_u8 {x : Int} (h : 0 ≤ x ∧ x ≤ 255) : IntKind.u8.wrap x = x := IntWalk.u8_in x h
theorem w_u32 {x : Int} (h : 0 ≤ x ∧ x ≤ 4294967295) : IntKind.u32.wrap x = x := IntWalk.u32_in x h
theorem w_u64 {x : Int} (h : 0 ≤ x ∧ x ≤ 18446744073709551615) : IntKind.u64.wrap x = x := IntWalk.u64_in x h
theorem tdiv_nn {a b : Int} (h : 0 ≤ a) : a.tdiv b = a / b := Int.tdiv_eq_ediv_of_nonneg h
theorem tmod_nn {a b : Int} (h : 0 ≤ a) : a.tmod b = a % b := Int.tmod_eq_emod_of_nonneg h
theorem fdiv_nn {a b : Int} (h : 0 ≤ b) : a.fdiv b = a / b := Int.fdiv_eq_ediv_of_nonneg a h
theorem bits_i64 : IntKind.i64.bits = 64 := rfl
theorem bits_u64 : IntKind.u64.bits = 64 := rfl
theorem bits_u32 : IntKind.u32.bits = 32 := rfl
theorem bits_i32 : IntKind.i32.bits = 32 := rfl
theorem bits_u8 : IntKind.u8.bits = 8 := rfl
theorem min_shift {b : Int} {n : Nat} (h : b ≤ n) : min b.toNat n = b.toNat := by omega

section
variable {k k' : IntKind} {a b : Int}
theorem bin_add : binA .add (.int k a) (.int k b) = some (.int k (k.wrap (a + b))) := by simp [binA, arithA]
theorem bin_sub : binA .sub (.int k a) (.int k b) = some (.int k (k.wrap (a - b))) := by simp [binA, arithA]
theorem bin_mul : binA .mul (.int k a) (.int k b) = some (.int k (k.wrap (a * b))) := by simp [binA, arithA]
theorem bin_quo (h : b ≠ 0) : binA .quo (.int k a) (.int k b) = some (.int k (k.wrap (a.tdiv b))) := by simp [binA, arithA, h]
theorem bin_rem (h : b ≠ 0) : binA .rem (.int k a) (.int k b) = some (.int k (a.tmod b)) := by simp [binA, arithA, h]
theorem bin_and : binA .and (.int k a) (.int k b) = some (.int k (bitsA .and k a b)) := by simp [binA, arithA]
theorem bin_or : binA .or (.int k a) (.int k b) = some (.int k (bitsA .or k a b)) := by simp [binA, arithA]
theorem bin_xor : binA .xor (.int k a) (.int k b) = some (.int k (bitsA .xor k a b)) := by simp [binA, arithA]
theorem bin_andNot : binA .andNot (.int k a) (.int k b) = some (.int k (bitsA .andNot k a b)) := by simp [binA, arithA]
theorem bin_eql : binA .eql (.int k a) (.int k b) = some (.bool (decide (a = b))) := by
  simp only [binA, arithA, if_true]; congr 2
theorem bin_neq : binA .neq (.int k a) (.int k b) = some (.bool (decide (a ≠ b))) := by
  simp only [binA, arithA, if_true]; congr 2; simp [bne, Bool.beq_eq_decide_eq]
theorem bin_lss : binA .lss (.int k a) (.int k b) = some (.bool (decide (a < b))) := by simp [binA, arithA]
theorem bin_leq : binA .leq (.int k a) (.int k b) = some (.bool (decide (a ≤ b))) := by simp [binA, arithA]
theorem bin_gtr : binA .gtr (.int k a) (.int k b) = some (.bool (decide (b < a))) := by simp [binA, arithA]
theorem bin_geq : binA .geq (.int k a) (.int k b) = some (.bool (decide (b ≤ a))) := by simp [binA, arithA]
theorem bin_shl (h : 0 ≤ b) : binA .shl (.int k a) (.int k' b) = some (.int k (k.wrap (a * 2 ^ (min b.toNat k.bits)))) := by
  simp only [binA]; rw [if_neg (by omega)]
theorem bin_shr (h : 0 ≤ b) : binA .shr (.int k a) (.int k' b) = some (.int k (a.fdiv (2 ^ (min b.toNat k.bits)))) := by
  simp only [binA]; rw [if_neg (by omega)]
theorem bits_and1 (h : 0 ≤ a ∧ a ≤ 9223372036854775807) : bitsA .and .i64 a 1 = a % 2 := by
  obtain ⟨n, rfl⟩ := Int.eq_ofNat_of_zero_le h.1
  have hn : n < 2 ^ 64 := by omega
  have e1 : (BitVec.ofInt 64 (n : Int)).toNat = n := by
    rw [BitVec.toNat_ofInt]
    have : ((n : Int) % ((2 ^ 64 : Nat) : Int)).toNat = n := by
      rw [Int.emod_eq_of_lt (by omega) (by exact_mod_cast hn)]; simp
    exact this
  have e2 : (BitVec.ofInt 64 (1 : Int)).toNat = 1 := by decide
  show IntKind.i64.wrap ((BitVec.ofInt 64 (n : Int) &&& BitVec.ofInt 64 1).toNat : Int) = _
  rw [BitVec.toNat_and, e1, e2, Nat.and_one_is_mod, w_i64 (by omega)]
  omega
theorem un_neg : unA .neg (.int k a) = some (.int k (k.wrap (0 - a))) := rfl
theorem un_not {b : Bool} : unA .not (.bool b) = some (.bool !b) := rfl
theorem un_xor : unA .xor (.int k a) = some (.int k (bitsA .xor k (if k.signed then -1 else k.max) a)) := rfl
theorem conv_int : convA k (.int k' a) = some (.int k (k.wrap a)) := rfl
theorem eqb_ff {a b : Bool} : eqbA false (.bool a) (.bool b) = some (.bool (a == b)) := rfl
theorem eqb_tt {a b : Bool} : eqbA true (.bool a) (.bool b) = some (.bool !(a == b)) := rfl
theorem pick_tt {x y : AV} : pickA x y (.bool true) = some x := rfl
theorem pick_ff {x y : AV} : pickA x y (.bool false) = some y := rfl
theorem pick_dt {x y : AV} {c : Prop} [Decidable c] (h : c) : pickA x y (.bool (decide c)) = some x := by simp [pickA, h]
theorem pick_df {x y : AV} {c : Prop} [Decidable c] (h : ¬c) : pickA x y (.bool (decide c)) = some y := by simp [pickA, h]
theorem pick_vt {x y : AV} {b : Bool} (h : b = true) : pickA x y (.bool b) = some x := by simp [pickA, h]
theorem pick_vf {x y : AV} {b : Bool} (h : ¬ b = true) : pickA x y (.bool b) = some y := by simp [pickA, h]
theorem ext_tuple {vs : List AV} {i : Nat} : extA i (.tuple vs) = vs[i]? := rfl
theorem max_two : maxA [.int k a, .int k b] = some (.int k (max a b)) := by
  simp only [maxA, List.foldl, maxStep, if_true]; congr 2; split <;> omega
theorem max_three {c : Int} : maxA [.int k a, .int k b, .int k c] = some (.int k (max (max a b) c)) := by
  simp only [maxA, List.foldl, maxStep, if_true]; congr 2; split <;> split <;> omega
theorem min_two : minA [.int k a, .int k b] = some (.int k (min a b)) := by
  simp only [minA, List.foldl, minStep, if_true]; congr 2; split <;> omega
theorem min_three {c : Int} : minA [.int k a, .int k b, .int k c] = some (.int k (min (min a b) c)) := by
  simp only [minA, List.foldl, minStep, if_true]; congr 2; split <;> split <;> omega
end

/-! ### Heaps -/
/-- What was there is as it was. -/
structure HSub (h h' : Heap) : Prop where
  size : h.size ≤ h'.size
  get : ∀ i, i < h.size → h'.get i = h.get i

theorem HSub.refl (h : Heap) : HSub h h := ⟨Nat.le_refl _, fun _ _ => rfl⟩
theorem HSub.trans {a b c : Heap} (x : HSub a b) (y : HSub b c) : HSub a c := ⟨Nat.le_trans x.size y.size, fun i hi => (y.get i (Nat.lt_of_lt_of_le hi x.size)).trans (x.get i hi)⟩
theorem get_push_eq {h : Heap} {b : ABlk} {i : Nat} (e : i = h.size) : (h.push b).get i = some b := by simp [Heap.get_push, e]
theorem get_push_lt {h : Heap} {b : ABlk} {i : Nat} (e : i < h.size) : (h.push b).get i = h.get i := by rw [Heap.get_push, if_neg (by omega)]
theorem get_put_eq {h : Heap} {b : ABlk} {i j : Nat} (e : j = i) (hi : i < h.size) : (h.put i b).get j = some b := by rw [Heap.get_put _ _ _ _ hi, if_pos e]
theorem get_put_ne {h : Heap} {b : ABlk} {i j : Nat} (e : j ≠ i) : (h.put i b).get j = h.get j := by
  show (if j = i then _ else h.get j) = _
  rw [if_neg e]
theorem HSub.push {h h' : Heap} (x : HSub h h') (b : ABlk) : HSub h (h'.push b) := ⟨by simp only [Heap.size_push]; have := x.size; omega, fun i hi => by rw [get_push_lt (Nat.lt_of_lt_of_le hi x.size)]; exact x.get i hi⟩
theorem HSub.put {h h' : Heap} (x : HSub h h') {i : Nat} (hi : h.size ≤ i) (b : ABlk) : HSub h (h'.put i b) := ⟨x.size, fun j hj => by rw [get_put_ne (by omega)]; exact x.get j hj⟩
theorem HSub.reserve {h h' : Heap} (x : HSub h h') (n : Nat) : HSub h (h'.reserve n) := ⟨by simp only [Heap.size_reserve]; have := x.size; omega, fun i hi => x.get i hi⟩
theorem HSub.push1 (h : Heap) (b : ABlk) : HSub h (h.push b) := (HSub.refl h).push b

theorem heap_eq {h h' : Heap} (hs : h.size = h'.size) (hg : ∀ i, h.get i = h'.get i) : h = h' := by
  obtain ⟨s, g, w⟩ := h; obtain ⟨s', g', w'⟩ := h'
  cases hs
  have : g = g' := funext hg
  cases this; rfl
theorem put_put {h : Heap} {i : Nat} {b b' : ABlk} : (h.put i b).put i b' = h.put i b' := by
  refine heap_eq rfl fun j => ?_
  show (if j = i then _ else if j = i then _ else h.get j) = if j = i then _ else h.get j
  split <;> rfl
theorem push_put {h : Heap} {i : Nat} {b b' : ABlk} (e : i = h.size) : (h.push b).put i b' = h.push b' := by
  subst e
  refine heap_eq rfl fun j => ?_
  show (if j = h.size then (if h.size < h.size + 1 then some b' else none) else (if j = h.size then some b else h.get j)) = (if j = h.size then some b' else h.get j)
  split
  · rw [if_pos (by omega)]
  · rfl
theorem push_put_lt {h : Heap} {i : Nat} {b b' : ABlk} (e : i < h.size) : (h.push b).put i b' = (h.put i b').push b := by
  refine heap_eq rfl fun j => ?_
  show (if j = i then (if i < h.size + 1 then some b' else none) else (if j = h.size then some b else h.get j)) = (if j = h.size then some b else (if j = i then (if i < h.size then some b' else none) else h.get j))
  by_cases e1 : j = i
  · subst e1
    rw [if_pos rfl, if_pos rfl, if_pos e, if_pos (by omega), if_neg (by omega)]
  · rw [if_neg e1, if_neg e1]

/-- Numbers as cells. -/
def ints (l : List Int) : List AV := l.map (AV.int .i64)
theorem ints_length {l : List Int} : (ints l).length = l.length := by simp [ints]
theorem ints_getD {l : List Int} {k : Nat} : (ints l)[k]? = (l[k]?).map (AV.int .i64) := by simp [ints]
theorem ints_get {l : List Int} {k : Nat} (h : k < l.length) : (ints l)[k]? = some (.int .i64 (l.getD k 0)) := by simp [ints, h]
theorem ints_set {l : List Int} {k : Nat} {x : Int} : (ints l).set k (.int .i64 x) = ints (l.set k x) := by simp [ints, List.map_set]
theorem ints_append {l m : List Int} : ints l ++ ints m = ints (l ++ m) := by simp [ints]
theorem ints_snoc {l : List Int} {x : Int} : ints l ++ [.int .i64 x] = ints (l ++ [x]) := by simp [ints]
theorem ints_nil : ints [] = [] := rfl
theorem ints_cons {l : List Int} {x : Int} : ints (x :: l) = .int .i64 x :: ints l := rfl
theorem ints_replicate {n : Nat} {x : Int} : List.replicate n (AV.int .i64 x) = ints (List.replicate n x) := by simp [ints]
theorem ints_cut {l : List Int} {o n : Nat} : cut (ints l) o n = ints ((l.drop o).take n) := by simp [ints, cut]
theorem ints_one {l : List Int} : (ints l).all AV.one = true := by simp [ints, AV.one]
theorem cut_all {l : List AV} {n : Nat} (h : n = l.length) : cut l 0 n = l := by subst h; simp [cut]
theorem zeros_one {n : Nat} {x : AV} : zerosA n [x] = List.replicate n x := rfl

/-- A slice of some value that can be read: n elements of sz cells each. -/
def SL (h : Heap) (sz : Nat) (v : AV) (n : Nat) (cs : List AV) : Prop :=
  cs.length = n * sz ∧ n < 9223372036854775808 ∧ (v = .nilslice ∧ n = 0 ∨ ∃ i o c vs wr u, v = .slice i o n c ∧ h.get i = some (.cells vs wr u) ∧ o + n * sz ≤ vs.length ∧ cut vs o (n * sz) = cs ∧
    match c with | .known c => n ≤ c | .unk l => wr = true ∧ u = sz ∧ o = l * sz)

/-- A list of numbers that can be read. -/
def RI (h : Heap) (v : AV) (l : List Int) : Prop := SL h 1 v l.length (ints l)

/-- The address of an element. -/
def elA (sz : Nat) (v : AV) (k : Nat) : AV :=
  match v with
  | .slice i o _ _ => .ptr i (o + k * sz)
  | _ => .undef
theorem elA_slice {sz i o n c k} : elA sz (.slice i o n c) k = .ptr i (o + k * sz) := rfl

section
variable {h h' : Heap} {sz n : Nat} {v : AV} {cs : List AV} {l : List Int}
theorem SL.len (H : SL h sz v n cs) : lenA v = some (.int .i64 n) := by
  obtain ⟨_, _, ⟨rfl, rfl⟩ | ⟨i, o, c, vs, wr, u, rfl, _⟩⟩ := H <;> rfl
theorem SL.cells (H : SL h sz v n cs) : v.cells = [v] := by
  obtain ⟨_, _, ⟨rfl, rfl⟩ | ⟨i, o, c, vs, wr, u, rfl, _⟩⟩ := H <;> rfl
theorem SL.one (H : SL h sz v n cs) : v.one = true := by
  obtain ⟨_, _, ⟨rfl, rfl⟩ | ⟨i, o, c, vs, wr, u, rfl, _⟩⟩ := H <;> rfl
theorem SL.content (H : SL h sz v n cs) : contentA h sz v = some (n, cs) := by
  obtain ⟨hl, hlt, ⟨rfl, rfl⟩ | ⟨i, o, c, vs, wr, u, rfl, hg, hle, hc, _⟩⟩ := H
  · have : cs = [] := List.eq_nil_of_length_eq_zero (by omega)
    subst this; rfl
  · simp only [contentA, hg, if_pos hle, hc]
theorem SL.idx (H : SL h sz v n cs) {kk : IntKind} {k : Int} (hk : 0 ≤ k ∧ k < n) : idxA sz v (.int kk k) = some (elA sz v k.toNat) := by
  obtain ⟨_, _, ⟨rfl, rfl⟩ | ⟨i, o, c, vs, wr, u, rfl, _⟩⟩ := H
  · omega
  · simp only [idxA, if_pos hk, elA]
theorem SL.mono (H : SL h sz v n cs) (hs : HSub h h') : SL h' sz v n cs := by
  obtain ⟨hl, hlt, ⟨rfl, rfl⟩ | ⟨i, o, c, vs, wr, u, rfl, hg, r⟩⟩ := H
  · exact ⟨hl, hlt, .inl ⟨rfl, rfl⟩⟩
  · exact ⟨hl, hlt, .inr ⟨i, o, c, vs, wr, u, rfl, (hs.get i (Heap.lt_of_get hg)).trans hg, r⟩⟩
theorem SL.load1 (H : SL h 1 v n cs) {k : Nat} (hk : k < n) : loadA h false 1 (elA 1 v k) = cs[k]? := by
  obtain ⟨hl, hlt, ⟨rfl, rfl⟩ | ⟨i, o, c, vs, wr, u, rfl, hg, hle, hc, _⟩⟩ := H
  · omega
  · subst hc
    simp only [elA, loadA, hg, partA, cut, Bool.false_eq_true, if_false, Nat.mul_one]
    rw [List.getElem?_take_of_lt (by omega), List.getElem?_drop]
/-- A whole element of several cells. -/
theorem SL.loadA (H : SL h sz v n cs) {k : Nat} (hk : k < n) : loadA h true sz (elA sz v k) = some (.agg (cut cs (k * sz) sz)) := by
  obtain ⟨hl, hlt, ⟨rfl, rfl⟩ | ⟨i, o, c, vs, wr, u, rfl, hg, hle, hc, _⟩⟩ := H
  · omega
  · subst hc
    have h1 : (k + 1) * sz ≤ n * sz := Nat.mul_le_mul_right sz hk
    have h2 : (k + 1) * sz = k * sz + sz := by rw [Nat.add_mul, Nat.one_mul]
    simp only [elA, Ae.loadA, hg, partA, if_true]
    rw [if_pos (by omega)]
    congr 2
    simp only [cut, List.drop_take, List.drop_drop, List.take_take]
    rw [show min sz (n * sz - k * sz) = sz by omega]
/-- A field of an element. -/
theorem SL.loadF (H : SL h sz v n cs) {k off : Nat} (hk : k < n ∧ off < sz) : Ae.loadA h false 1 (.ptr (match v with | .slice i _ _ _ => i | _ => 0) ((match v with | .slice _ o _ _ => o | _ => 0) + k * sz + off)) = cs[k * sz + off]? := by
  obtain ⟨hl, hlt, ⟨rfl, rfl⟩ | ⟨i, o, c, vs, wr, u, rfl, hg, hle, hc, _⟩⟩ := H
  · omega
  · subst hc
    have h1 : (k + 1) * sz ≤ n * sz := Nat.mul_le_mul_right sz hk.1
    have h2 : (k + 1) * sz = k * sz + sz := by rw [Nat.add_mul, Nat.one_mul]
    simp only [Ae.loadA, hg, partA, cut, Bool.false_eq_true, if_false]
    rw [List.getElem?_take_of_lt (by omega), List.getElem?_drop, Nat.add_assoc]

theorem RI.len (H : RI h v l) : lenA v = some (.int .i64 l.length) := SL.len H
theorem RI.cells (H : RI h v l) : v.cells = [v] := SL.cells H
theorem RI.one (H : RI h v l) : v.one = true := SL.one H
theorem RI.content (H : RI h v l) : contentA h 1 v = some (l.length, ints l) := SL.content H
theorem RI.idx (H : RI h v l) {kk : IntKind} {k : Int} (hk : 0 ≤ k ∧ k < l.length) : idxA 1 v (.int kk k) = some (elA 1 v k.toNat) := SL.idx H hk
theorem RI.mono (H : RI h v l) (hs : HSub h h') : RI h' v l := SL.mono H hs
theorem RI.load (H : RI h v l) {k : Nat} (hk : k < l.length) : Ae.loadA h false 1 (elA 1 v k) = some (.int .i64 (l.getD k 0)) := by
  rw [SL.load1 H hk, ints_get hk]
theorem RI.loadS (H : RI h v l) (hs : HSub h h') {k : Nat} (hk : k < l.length) : Ae.loadA h' false 1 (elA 1 v k) = some (.int .i64 (l.getD k 0)) := (H.mono hs).load hk
/-- The same in any later heap. -/
theorem RI.loadC (H : RI h v l) : ∀ (h' : Heap) (k : Nat), HSub h h' → k < l.length → Ae.loadA h' false 1 (elA 1 v k) = some (.int .i64 (l.getD k 0)) := fun _ _ hs hk => (H.mono hs).load hk
theorem RI.contentC (H : RI h v l) : ∀ (h' : Heap), HSub h h' → contentA h' 1 v = some (l.length, ints l) := fun _ hs => (H.mono hs).content
theorem RI.nil : RI h .nilslice [] := ⟨rfl, by decide, .inl ⟨rfl, rfl⟩⟩
theorem SL.lt (H : SL h sz v n cs) : n < 9223372036854775808 := H.2.1
theorem RI.lt (H : RI h v l) : l.length < 9223372036854775808 := H.2.1
theorem RI.known {i : Nat} {wr : Bool} {u c m : Nat} (hg : h.get i = some (.cells (ints l) wr u)) (hm : m = l.length ∧ m < 9223372036854775808) (hc : m ≤ c) : RI h (.slice i 0 m (.known c)) l := by
  obtain ⟨rfl, hm⟩ := hm
  refine ⟨by simp [ints], hm, .inr ⟨i, 0, _, _, wr, u, rfl, hg, by simp [ints], ?_, hc⟩⟩
  exact cut_all (by simp [ints])
theorem RI.unk {i m : Nat} (hg : h.get i = some (.cells (ints l) true 1)) (hm : m = l.length ∧ m < 9223372036854775808) : RI h (.slice i 0 m (.unk 0)) l := by
  obtain ⟨rfl, hm⟩ := hm
  refine ⟨by simp [ints], hm, .inr ⟨i, 0, _, _, true, 1, rfl, hg, by simp [ints], ?_, rfl, rfl, rfl⟩⟩
  exact cut_all (by simp [ints])
end

/-! ### Loads, stores, new rows -/
def loadB (agg : Bool) (n o : Nat) : Option ABlk → Option AV
  | some (.cells vs _ _) => partA agg vs o n
  | _ => none
theorem load_ptr {h agg n i o} : loadA h agg n (.ptr i o) = loadB agg n o (h.get i) := by
  simp only [loadA, loadB]
  cases h.get i with
  | none => rfl
  | some b => cases b <;> rfl
theorem loadB_one {n o vs wr u} : loadB false n o (some (.cells vs wr u)) = vs[o]? := rfl
theorem loadB_agg {n o vs wr u} (h : o + n ≤ vs.length) : loadB true n o (some (.cells vs wr u)) = some (.agg (cut vs o n)) := by simp only [loadB, partA, if_true, if_pos h]
def storeB (h : Heap) (i n o : Nat) (v : AV) : Option ABlk → Option Heap
  | some (.cells vs true u) => if v.cells.length = n ∧ o + n ≤ vs.length ∧ v.cells.all AV.one = true then some (h.put i (.cells (splice vs o v.cells) true u)) else none
  | _ => none
theorem store_ptr {h n i o v} : storeA h n (.ptr i o) v = storeB h i n o v (h.get i) := by
  simp only [storeA, storeB]
  cases h.get i with
  | none => rfl
  | some b => cases b with
    | cells vs wr u => cases wr <;> rfl
    | _ => rfl
theorem storeB_one {h i o v vs u} (hv : v.cells = [v] ∧ v.one = true ∧ o < vs.length) : storeB h i 1 o v (some (.cells vs true u)) = some (h.put i (.cells (vs.set o v) true u)) := by
  simp only [storeB, hv.1]
  rw [if_pos ⟨rfl, hv.2.2, by simp [hv.2.1]⟩]; rfl
theorem storeB_int {h i o k x vs u} (hv : o < vs.length) : storeB h i 1 o (.int k x) (some (.cells vs true u)) = some (h.put i (.cells (vs.set o (.int k x)) true u)) := storeB_one ⟨rfl, rfl, hv⟩
theorem storeB_bool {h i o x vs u} (hv : o < vs.length) : storeB h i 1 o (.bool x) (some (.cells vs true u)) = some (h.put i (.cells (vs.set o (.bool x)) true u)) := storeB_one ⟨rfl, rfl, hv⟩
theorem storeB_slice {h i o j p n c vs u} (hv : o < vs.length) : storeB h i 1 o (.slice j p n c) (some (.cells vs true u)) = some (h.put i (.cells (vs.set o (.slice j p n c)) true u)) := storeB_one ⟨rfl, rfl, hv⟩
theorem storeB_nil {h i o vs u} (hv : o < vs.length) : storeB h i 1 o .nilslice (some (.cells vs true u)) = some (h.put i (.cells (vs.set o .nilslice) true u)) := storeB_one ⟨rfl, rfl, hv⟩
theorem storeB_agg {h i o n xs vs u} (h1 : xs.length = n) (h2 : o + n ≤ vs.length) (h3 : xs.all AV.one = true) : storeB h i n o (.agg xs) (some (.cells vs true u)) = some (h.put i (.cells (splice vs o xs) true u)) := by
  simp only [storeB, AV.cells]
  exact if_pos ⟨h1, h2, h3⟩
theorem storeB_var {h i o v vs u} (hc : v.cells = [v]) (h1 : v.one = true) (ho : o < vs.length) : storeB h i 1 o v (some (.cells vs true u)) = some (h.put i (.cells (vs.set o v) true u)) := storeB_one ⟨hc, h1, ho⟩
theorem one_int {k n} : AV.one (.int k n) = true := rfl
theorem one_bool {b} : AV.one (.bool b) = true := rfl
theorem one_ptr {i o} : AV.one (.ptr i o) = true := rfl
theorem one_slice {i o n c} : AV.one (.slice i o n c) = true := rfl
theorem one_nil : AV.one .nilslice = true := rfl
theorem one_func {g f c} : AV.one (.func g f c) = true := rfl
theorem splice_one {vs o c} : splice vs o [c] = vs.set o c := rfl
theorem splice_two {vs o x y cs} : splice vs o (x :: y :: cs) = vs.take o ++ (x :: y :: cs) ++ vs.drop (o + (cs.length + 2)) := rfl
theorem cut_nil {vs o} : cut vs o 0 = [] := by simp [cut]
theorem cut_cons {x vs n} : cut (x :: vs) 0 (n + 1) = x :: cut vs 0 n := rfl
theorem cut_succ {x vs o n} : cut (x :: vs) (o + 1) n = cut vs o n := rfl
theorem fill_nil {z} : fillA z [] = some z := rfl
theorem fill_one {z o v rest} (hv : v.cells = [v]) (ho : o < z.length) : fillA z ((o, 1, v) :: rest) = fillA (z.set o v) rest := by
  simp only [fillA, hv]
  rw [if_pos ⟨rfl, ho⟩]
  congr 1
  rw [List.set_eq_take_append_cons_drop, if_pos ho, List.append_assoc]; rfl
theorem fill_int {z o k n rest} (ho : o < z.length) : fillA z ((o, 1, .int k n) :: rest) = fillA (z.set o (.int k n)) rest := fill_one rfl ho
theorem fill_bool {z o b rest} (ho : o < z.length) : fillA z ((o, 1, .bool b) :: rest) = fillA (z.set o (.bool b)) rest := fill_one rfl ho
theorem fill_ptr {z o i p rest} (ho : o < z.length) : fillA z ((o, 1, .ptr i p) :: rest) = fillA (z.set o (.ptr i p)) rest := fill_one rfl ho
theorem fill_slice {z o i p n c rest} (ho : o < z.length) : fillA z ((o, 1, .slice i p n c) :: rest) = fillA (z.set o (.slice i p n c)) rest := fill_one rfl ho
theorem fill_nilslice {z o rest} (ho : o < z.length) : fillA z ((o, 1, .nilslice) :: rest) = fillA (z.set o .nilslice) rest := fill_one rfl ho
theorem fill_func {z o g f c rest} (ho : o < z.length) : fillA z ((o, 1, .func g f c) :: rest) = fillA (z.set o (.func g f c)) rest := fill_one rfl ho
theorem fill_agg {z o n xs rest} (h1 : xs.length = n) (h2 : o + n ≤ z.length) : fillA z ((o, n, .agg xs) :: rest) = fillA (z.take o ++ xs ++ z.drop (o + n)) rest := by
  simp only [fillA, AV.cells]; exact if_pos ⟨h1, h2⟩
theorem storeO_some {h : Heap} : storeOA (some h) = some (.undef, h) := rfl
theorem alloc_none {z h} : allocA none z h = some (.ptr h.size 0, h.push (.cells z true 0)) := rfl
/-- A place that was kept for a new row. -/
def kept (n : Nat) (h : Heap) : Option ABlk → (Nat → Heap → (ABlk → Heap) → Option (AV × Heap)) → Option (AV × Heap)
  | none, f => if n < h.size then f n h (fun b => h.put n b) else none
  | some _, _ => none
theorem kept_none {n h f} (hn : n < h.size) : kept n h none f = f n h (fun b => h.put n b) := by simp [kept, hn]
theorem room_some {n : Nat} {h : Heap} : h.room (some n) = true ↔ h.get n = none ∧ n < h.size := by simp [Heap.room]
theorem alloc_some {z h n} : allocA (some n) z h = kept n h (h.get n) (fun n _ p => some (.ptr n 0, p (.cells z true 0))) := by
  simp only [allocA, room_some, kept]
  cases hg : h.get n with
  | none => by_cases hn : n < h.size <;> simp [hn, Heap.nid, Heap.new]
  | some b => simp
theorem buildS_none {n cs h} : buildSliceA none n (some cs) h = some (.slice h.size 0 n (.known n), h.push (.cells cs true 0)) := rfl
theorem buildS_some {n cs h i} : buildSliceA (some i) n (some cs) h = kept i h (h.get i) (fun i _ p => some (.slice i 0 n (.known n), p (.cells cs true 0))) := by
  simp only [buildSliceA, room_some, kept]
  cases hg : h.get i with
  | none => by_cases hn : i < h.size <;> simp [hn, Heap.nid, Heap.new]
  | some b => simp
theorem make_none {z : List AV} {bytes : Nat} {h : Heap} {k k' : IntKind} {l c : Int} (hl : 0 ≤ l ∧ l ≤ c ∧ c * bytes ≤ 140737488355328 ∧ c ≤ 140737488355328) : makeA none z bytes h (.int k l) (.int k' c) = some (.slice h.size 0 l.toNat (.known c.toNat), h.push (.cells (zerosA c.toNat z) true 0)) := by
  simp only [makeA]
  rw [if_pos ⟨hl.1, hl.2.1, hl.2.2.1, hl.2.2.2, rfl⟩]; rfl
theorem make_some {z : List AV} {bytes : Nat} {h : Heap} {k k' : IntKind} {l c : Int} {i : Nat} (hl : 0 ≤ l ∧ l ≤ c ∧ c * bytes ≤ 140737488355328 ∧ c ≤ 140737488355328) : makeA (some i) z bytes h (.int k l) (.int k' c) = kept i h (h.get i) (fun i _ p => some (.slice i 0 l.toNat (.known c.toNat), p (.cells (zerosA c.toNat z) true 0))) := by
  have h1 : (c * bytes ≤ 2 ^ 47) := hl.2.2.1
  have h2 : c ≤ 2 ^ 47 := hl.2.2.2
  simp only [makeA, room_some, kept]
  cases hg : h.get i with
  | none => by_cases hn : i < h.size <;> simp [hn, Heap.nid, Heap.new, hl.1, hl.2.1] <;> omega
  | some b => simp
theorem idx_slice {sz i o n c kk} {k : Int} (hk : 0 ≤ k ∧ k < (n : Nat)) : idxA sz (.slice i o n c) (.int kk k) = some (.ptr i (o + k.toNat * sz)) := by simp only [idxA, if_pos hk]
theorem idxArr_ptr {sz len i o kk} {k : Int} (hk : 0 ≤ k ∧ k < (len : Nat)) : idxArrA sz len (.ptr i o) (.int kk k) = some (.ptr i (o + k.toNat * sz)) := by simp only [idxArrA, if_pos hk]
theorem fieldAddr_ptr {off i o} : fieldAddrA off (.ptr i o) = some (.ptr i (o + off)) := rfl
theorem field_agg {agg off n vs} : fieldA agg off n (.agg vs) = partA agg vs off n := rfl
theorem part_one {vs o n} : partA false vs o n = vs[o]? := rfl
theorem part_agg {vs o n} (h : o + n ≤ vs.length) : partA true vs o n = some (.agg (cut vs o n)) := by simp only [partA, if_true, if_pos h]
theorem len_slice {i o n c} : lenA (.slice i o n c) = some (.int .i64 n) := rfl
theorem len_nil : lenA .nilslice = some (.int .i64 0) := rfl
theorem cells_int {k n} : AV.cells (.int k n) = [.int k n] := rfl
theorem cells_bool {b} : AV.cells (.bool b) = [.bool b] := rfl
theorem cells_agg {vs} : AV.cells (.agg vs) = vs := rfl
theorem cells_slice {i o n c} : AV.cells (.slice i o n c) = [.slice i o n c] := rfl
theorem cells_nil : AV.cells .nilslice = [.nilslice] := rfl
theorem cells_ptr {i o} : AV.cells (.ptr i o) = [.ptr i o] := rfl
theorem cells_func {g f c} : AV.cells (.func g f c) = [.func g f c] := rfl
theorem cells_yield {l} : AV.cells (.yield l) = [.yield l] := rfl

end Go.Ae
