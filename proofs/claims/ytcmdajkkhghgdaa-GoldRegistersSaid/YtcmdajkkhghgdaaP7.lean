/- Texts of the proof, part 7: a second reading of the lowered code, proved sound, and what the functions compute. -/
import Derived.IntWalk
import Derived.Test.YtcmdajkkhghgdaaP6

/- What operations give on numbers and on heaps, as rules for the simplifier. -/
namespace Go.Ae

/-! ### Numbers -/
theorem w_i64 {x : Int} (h : -9223372036854775808 ≤ x ∧ x ≤ 9223372036854775807) : IntKind.i64.wrap x = x := IntWalk.i64_in x h
theorem w_i32 {x : Int} (h : -2147483648 ≤ x ∧ x ≤ 2147483647) : IntKind.i32.wrap x = x := IntWalk.i32_in x h
theorem w_u8 {x : Int} (h : 0 ≤ x ∧ x ≤ 255) : IntKind.u8.wrap x = x := IntWalk.u8_in x h
theorem w_u32 {x : Int} (h : 0 ≤ x ∧ x ≤ 4294967295) : IntKind.u32.wrap x = x := IntWalk.u32_in x h
theorem w_u64 {x : Int} (h : 0 ≤ x ∧ x ≤ 18446744073709551615) : IntKind.u64.wrap x = x := IntWalk.u64_in x h
theorem tdiv_nn {a b : Int} (h : 0 ≤ a) : a.tdiv b = a / b := Int.tdiv_eq_ediv_of_nonneg h
theorem tmod_nn {a b : Int} (h : 0 ≤ a) : a.tmod b = a % b := Int.tmod_eq_emod_of_nonneg h
theorem fdiv_nn {a b : Int} (h : 0 ≤ b) : a.fdiv b = a / b := Int.fdiv_eq_ediv_of_nonneg a h
theorem bits_i64 : IntKind.i64.bits = 64 := rfl
theorem bits_u64 : IntKind.u64.bits = 64 := rfl
theorem bits_u32 : IntKind.u32.bits = 32 := rfl
theorem bits_i32 : IntKind.i32.bits = 32 := rfl
theorem bits_u8 : IntKind.u8.bits = 8 := rfl
theorem min_shift {b : Int} {n : Nat} (h : b ≤ n) : min b.toNat n = b.toNat := by omega

section
variable {k k' : IntKind} {a b : Int}
theorem bin_add : binA .add (.int k a) (.int k b) = some (.int k (k.wrap (a + b))) := by simp [binA, arithA]
theorem bin_sub : binA .sub (.int k a) (.int k b) = some (.int k (k.wrap (a - b))) := by simp [binA, arithA]
theorem bin_mul : binA .mul (.int k a) (.int k b) = some (.int k (k.wrap (a * b))) := by simp [binA, arithA]
theorem bin_quo (h : b ≠ 0) : binA .quo (.int k a) (.int k b) = some (.int k (k.wrap (a.tdiv b))) := by simp [binA, arithA, h]
theorem bin_rem (h : b ≠ 0) : binA .rem (.int k a) (.int k b) = some (.int k (a.tmod b)) := by simp [binA, arithA, h]
theorem bin_and : binA .and (.int k a) (.int k b) = some (.int k (bitsA .and k a b)) := by simp [binA, arithA]
theorem bin_or : binA .or (.int k a) (.int k b) = some (.int k (bitsA .or k a b)) := by simp [binA, arithA]
theorem bin_xor : binA .xor (.int k a) (.int k b) = some (.int k (bitsA .xor k a b)) := by simp [binA, arithA]
theorem bin_andNot : binA .andNot (.int k a) (.int k b) = some (.int k (bitsA .andNot k a b)) := by simp [binA, arithA]
theorem bin_eql : binA .eql (.int k a) (.int k b) = some (.bool (decide (a = b))) := by
  simp only [binA, arithA, if_true]; congr 2
theorem bin_neq : binA .neq (.int k a) (.int k b) = some (.bool (decide (a ≠ b))) := by
  simp only [binA, arithA, if_true]; congr 2; simp [bne, Bool.beq_eq_decide_eq]
theorem bin_lss : binA .lss (.int k a) (.int k b) = some (.bool (decide (a < b))) := by simp [binA, arithA]
theorem bin_leq : binA .leq (.int k a) (.int k b) = some (.bool (decide (a ≤ b))) := by simp [binA, arithA]
theorem bin_gtr : binA .gtr (.int k a) (.int k b) = some (.bool (decide (b < a))) := by simp [binA, arithA]
theorem bin_geq : binA .geq (.int k a) (.int k b) = some (.bool (decide (b ≤ a))) := by simp [binA, arithA]
theorem bin_shl (h : 0 ≤ b) : binA .shl (.int k a) (.int k' b) = some (.int k (k.wrap (a * 2 ^ (min b.toNat k.bits)))) := by
  simp only [binA]; rw [if_neg (by omega)]
theorem bin_shr (h : 0 ≤ b) : binA .shr (.int k a) (.int k' b) = some (.int k (a.fdiv (2 ^ (min b.toNat k.bits)))) := by
  simp only [binA]; rw [if_neg (by omega)]
theorem bits_and1 (h : 0 ≤ a ∧ a ≤ 9223372036854775807) : bitsA .and .i64 a 1 = a % 2 := by
  obtain ⟨n, rfl⟩ := Int.eq_ofNat_of_zero_le h.1
  have hn : n < 2 ^ 64 := by omega
  have e1 : (BitVec.ofInt 64 (n : Int)).toNat = n := by
    rw [BitVec.toNat_ofInt]
    have : ((n : Int) % ((2 ^ 64 : Nat) : Int)).toNat = n := by
      rw [Int.emod_eq_of_lt (by omega) (by exact_mod_cast hn)]; simp
    exact this
  have e2 : (BitVec.ofInt 64 (1 : Int)).toNat = 1 := by decide
  show IntKind.i64.wrap ((BitVec.ofInt 64 (n : Int) &&& BitVec.ofInt 64 1).toNat : Int) = _
  rw [BitVec.toNat_and, e1, e2, Nat.and_one_is_mod, w_i64 (by omega)]
  omega
theorem un_neg : unA .neg (.int k a) = some (.int k (k.wrap (0 - a))) := rfl
theorem un_not {b : Bool} : unA .not (.bool b) = some (.bool !b) := rfl
theorem un_xor : unA .xor (.int k a) = some (.int k (bitsA .xor k (if k.signed then -1 else k.max) a)) := rfl
theorem conv_int : convA k (.int k' a) = some (.int k (k.wrap a)) := rfl
theorem eqb_ff {a b : Bool} : eqbA false (.bool a) (.bool b) = some (.bool (a == b)) := rfl
theorem eqb_tt {a b : Bool} : eqbA true (.bool a) (.bool b) = some (.bool !(a == b)) := rfl
theorem pick_tt {x y : AV} : pickA x y (.bool true) = some x := rfl
theorem pick_ff {x y : AV} : pickA x y (.bool false) = some y := rfl
theorem pick_dt {x y : AV} {c : Prop} [Decidable c] (h : c) : pickA x y (.bool (decide c)) = some x := by simp [pickA, h]
theorem pick_df {x y : AV} {c : Prop} [Decidable c] (h : ¬c) : pickA x y (.bool (decide c)) = some y := by simp [pickA, h]
theorem pick_vt {x y : AV} {b : Bool} (h : b = true) : pickA x y (.bool b) = some x := by simp [pickA, h]
theorem pick_vf {x y : AV} {b : Bool} (h : ¬ b = true) : pickA x y (.bool b) = some y := by simp [pickA, h]
theorem ext_tuple {vs : List AV} {i : Nat} : extA i (.tuple vs) = vs[i]? := rfl
theorem max_two : maxA [.int k a, .int k b] = some (.int k (max a b)) := by
  simp only [maxA, List.foldl, maxStep, if_true]; congr 2; split <;> omega
theorem max_three {c : Int} : maxA [.int k a, .int k b, .int k c] = some (.int k (max (max a b) c)) := by
  simp only [maxA, List.foldl, maxStep, if_true]; congr 2; split <;> split <;> omega
theorem min_two : minA [.int k a, .int k b] = some (.int k (min a b)) := by
  simp only [minA, List.foldl, minStep, if_true]; congr 2; split <;> omega
theorem min_three {c : Int} : minA [.int k a, .int k b, .int k c] = some (.int k (min (min a b) c)) := by
  simp only [minA, List.foldl, minStep, if_true]; congr 2; split <;> split <;> omega
end

/-! ### Heaps -/
/-- What was there is as it was. -/
structure HSub (h h' : Heap) : Prop where
  size : h.size ≤ h'.size
  get : ∀ i, i < h.size → h'.get i = h.get i

theorem HSub.refl (h : Heap) : HSub h h := ⟨Nat.le_refl _, fun _ _ => rfl⟩
theorem HSub.trans {a b c : Heap} (x : HSub a b) (y : HSub b c) : HSub a c := ⟨Nat.le_trans x.size y.size, fun i hi => (y.get i (Nat.lt_of_lt_of_le hi x.size)).trans (x.get i hi)⟩
theorem get_push_eq {h : Heap} {b : ABlk} {i : Nat} (e : i = h.size) : (h.push b).get i = some b := by simp [Heap.get_push, e]
theorem get_push_lt {h : Heap} {b : ABlk} {i : Nat} (e : i < h.size) : (h.push b).get i = h.get i := by rw [Heap.get_push, if_neg (by omega)]
theorem get_put_eq {h : Heap} {b : ABlk} {i j : Nat} (e : j = i) (hi : i < h.size) : (h.put i b).get j = some b := by rw [Heap.get_put _ _ _ _ hi, if_pos e]
theorem get_put_ne {h : Heap} {b : ABlk} {i j : Nat} (e : j ≠ i) : (h.put i b).get j = h.get j := by
  show (if j = i then _ else h.get j) = _
  rw [if_neg e]
theorem HSub.push {h h' : Heap} (x : HSub h h') (b : ABlk) : HSub h (h'.push b) := ⟨by simp only [Heap.size_push]; have := x.size; omega, fun i hi => by rw [get_push_lt (Nat.lt_of_lt_of_le hi x.size)]; exact x.get i hi⟩
theorem HSub.put {h h' : Heap} (x : HSub h h') {i : Nat} (hi : h.size ≤ i) (b : ABlk) : HSub h (h'.put i b) := ⟨x.size, fun j hj => by rw [get_put_ne (by omega)]; exact x.get j hj⟩
theorem HSub.reserve {h h' : Heap} (x : HSub h h') (n : Nat) : HSub h (h'.reserve n) := ⟨by simp only [Heap.size_reserve]; have := x.size; omega, fun i hi => x.get i hi⟩
theorem HSub.push1 (h : Heap) (b : ABlk) : HSub h (h.push b) := (HSub.refl h).push b

theorem heap_eq {h h' : Heap} (hs : h.size = h'.size) (hg : ∀ i, h.get i = h'.get i) : h = h' := by
  obtain ⟨s, g, w⟩ := h; obtain ⟨s', g', w'⟩ := h'
  cases hs
  have : g = g' := funext hg
  cases this; rfl
theorem put_put {h : Heap} {i : Nat} {b b' : ABlk} : (h.put i b).put i b' = h.put i b' := by
  refine heap_eq rfl fun j => ?_
  show (if j = i then _ else if j = i then _ else h.get j) = if j = i then _ else h.get j
  split <;> rfl
theorem push_put {h : Heap} {i : Nat} {b b' : ABlk} (e : i = h.size) : (h.push b).put i b' = h.push b' := by
  subst e
  refine heap_eq rfl fun j => ?_
  show (if j = h.size then (if h.size < h.size + 1 then some b' else none) else (if j = h.size then some b else h.get j)) = (if j = h.size then some b' else h.get j)
  split
  · rw [if_pos (by omega)]
  · rfl
theorem push_put_lt {h : Heap} {i : Nat} {b b' : ABlk} (e : i < h.size) : (h.push b).put i b' = (h.put i b').push b := by
  refine heap_eq rfl fun j => ?_
  show (if j = i then (if i < h.size + 1 then some b' else none) else (if j = h.size then some b else h.get j)) = (if j = h.size then some b else (if j = i then (if i < h.size then some b' else none) else h.get j))
  by_cases e1 : j = i
  · subst e1
    rw [if_pos rfl, if_pos rfl, if_pos e, if_pos (by omega), if_neg (by omega)]
  · rw [if_neg e1, if_neg e1]

/-- Numbers as cells. -/
def ints (l : List Int) : List AV := l.map (AV.int .i64)
theorem ints_length {l : List Int} : (ints l).length = l.length := by simp [ints]
theorem ints_getD {l : List Int} {k : Nat} : (ints l)[k]? = (l[k]?).map (AV.int .i64) := by simp [ints]
theorem ints_get {l : List Int} {k : Nat} (h : k < l.length) : (ints l)[k]? = some (.int .i64 (l.getD k 0)) := by simp [ints, h]
theorem ints_set {l : List Int} {k : Nat} {x : Int} : (ints l).set k (.int .i64 x) = ints (l.set k x) := by simp [ints, List.map_set]
theorem ints_append {l m : List Int} : ints l ++ ints m = ints (l ++ m) := by simp [ints]
theorem ints_snoc {l : List Int} {x : Int} : ints l ++ [.int .i64 x] = ints (l ++ [x]) := by simp [ints]
theorem ints_nil : ints [] = [] := rfl
theorem ints_cons {l : List Int} {x : Int} : ints (x :: l) = .int .i64 x :: ints l := rfl
theorem ints_replicate {n : Nat} {x : Int} : List.replicate n (AV.int .i64 x) = ints (List.replicate n x) := by simp [ints]
theorem ints_cut {l : List Int} {o n : Nat} : cut (ints l) o n = ints ((l.drop o).take n) := by simp [ints, cut]
theorem ints_one {l : List Int} : (ints l).all AV.one = true := by simp [ints, AV.one]
theorem cut_all {l : List AV} {n : Nat} (h : n = l.length) : cut l 0 n = l := by subst h; simp [cut]
theorem zeros_one {n : Nat} {x : AV} : zerosA n [x] = List.replicate n x := rfl

/-- A slice of some value that can be read: n elements of sz cells each. -/
def SL (h : Heap) (sz : Nat) (v : AV) (n : Nat) (cs : List AV) : Prop :=
  cs.length = n * sz ∧ n < 9223372036854775808 ∧ (v = .nilslice ∧ n = 0 ∨ ∃ i o c vs wr u, v = .slice i o n c ∧ h.get i = some (.cells vs wr u) ∧ o + n * sz ≤ vs.length ∧ cut vs o (n * sz) = cs ∧
    match c with | .known c => n ≤ c | .unk l => wr = true ∧ u = sz ∧ o = l * sz)

/-- A list of numbers that can be read. -/
def RI (h : Heap) (v : AV) (l : List Int) : Prop := SL h 1 v l.length (ints l)

/-- The address of an element. -/
def elA (sz : Nat) (v : AV) (k : Nat) : AV :=
  match v with
  | .slice i o _ _ => .ptr i (o + k * sz)
  | _ => .undef
theorem elA_slice {sz i o n c k} : elA sz (.slice i o n c) k = .ptr i (o + k * sz) := rfl

section
variable {h h' : Heap} {sz n : Nat} {v : AV} {cs : List AV} {l : List Int}
theorem SL.len (H : SL h sz v n cs) : lenA v = some (.int .i64 n) := by
  obtain ⟨_, _, ⟨rfl, rfl⟩ | ⟨i, o, c, vs, wr, u, rfl, _⟩⟩ := H <;> rfl
theorem SL.cells (H : SL h sz v n cs) : v.cells = [v] := by
  obtain ⟨_, _, ⟨rfl, rfl⟩ | ⟨i, o, c, vs, wr, u, rfl, _⟩⟩ := H <;> rfl
theorem SL.one (H : SL h sz v n cs) : v.one = true := by
  obtain ⟨_, _, ⟨rfl, rfl⟩ | ⟨i, o, c, vs, wr, u, rfl, _⟩⟩ := H <;> rfl
theorem SL.content (H : SL h sz v n cs) : contentA h sz v = some (n, cs) := by
  obtain ⟨hl, hlt, ⟨rfl, rfl⟩ | ⟨i, o, c, vs, wr, u, rfl, hg, hle, hc, _⟩⟩ := H
  · have : cs = [] := List.eq_nil_of_length_eq_zero (by omega)
    subst this; rfl
  · simp only [contentA, hg, if_pos hle, hc]
theorem SL.idx (H : SL h sz v n cs) {kk : IntKind} {k : Int} (hk : 0 ≤ k ∧ k < n) : idxA sz v (.int kk k) = some (elA sz v k.toNat) := by
  obtain ⟨_, _, ⟨rfl, rfl⟩ | ⟨i, o, c, vs, wr, u, rfl, _⟩⟩ := H
  · omega
  · simp only [idxA, if_pos hk, elA]
theorem SL.mono (H : SL h sz v n cs) (hs : HSub h h') : SL h' sz v n cs := by
  obtain ⟨hl, hlt, ⟨rfl, rfl⟩ | ⟨i, o, c, vs, wr, u, rfl, hg, r⟩⟩ := H
  · exact ⟨hl, hlt, .inl ⟨rfl, rfl⟩⟩
  · exact ⟨hl, hlt, .inr ⟨i, o, c, vs, wr, u, rfl, (hs.get i (Heap.lt_of_get hg)).trans hg, r⟩⟩
theorem SL.load1 (H : SL h 1 v n cs) {k : Nat} (hk : k < n) : loadA h false 1 (elA 1 v k) = cs[k]? := by
  obtain ⟨hl, hlt, ⟨rfl, rfl⟩ | ⟨i, o, c, vs, wr, u, rfl, hg, hle, hc, _⟩⟩ := H
  · omega
  · subst hc
    simp only [elA, loadA, hg, partA, cut, Bool.false_eq_true, if_false, Nat.mul_one]
    rw [List.getElem?_take_of_lt (by omega), List.getElem?_drop]
/-- A whole element of several cells. -/
theorem SL.loadA (H : SL h sz v n cs) {k : Nat} (hk : k < n) : loadA h true sz (elA sz v k) = some (.agg (cut cs (k * sz) sz)) := by
  obtain ⟨hl, hlt, ⟨rfl, rfl⟩ | ⟨i, o, c, vs, wr, u, rfl, hg, hle, hc, _⟩⟩ := H
  · omega
  · subst hc
    have h1 : (k + 1) * sz ≤ n * sz := Nat.mul_le_mul_right sz hk
    have h2 : (k + 1) * sz = k * sz + sz := by rw [Nat.add_mul, Nat.one_mul]
    simp only [elA, Ae.loadA, hg, partA, if_true]
    rw [if_pos (by omega)]
    congr 2
    simp only [cut, List.drop_take, List.drop_drop, List.take_take]
    rw [show min sz (n * sz - k * sz) = sz by omega]
/-- A field of an element. -/
theorem SL.loadF (H : SL h sz v n cs) {k off : Nat} (hk : k < n ∧ off < sz) : Ae.loadA h false 1 (.ptr (match v with | .slice i _ _ _ => i | _ => 0) ((match v with | .slice _ o _ _ => o | _ => 0) + k * sz + off)) = cs[k * sz + off]? := by
  obtain ⟨hl, hlt, ⟨rfl, rfl⟩ | ⟨i, o, c, vs, wr, u, rfl, hg, hle, hc, _⟩⟩ := H
  · omega
  · subst hc
    have h1 : (k + 1) * sz ≤ n * sz := Nat.mul_le_mul_right sz hk.1
    have h2 : (k + 1) * sz = k * sz + sz := by rw [Nat.add_mul, Nat.one_mul]
    simp only [Ae.loadA, hg, partA, cut, Bool.false_eq_true, if_false]
    rw [List.getElem?_take_of_lt (by omega), List.getElem?_drop, Nat.add_assoc]

theorem RI.len (H : RI h v l) : lenA v = some (.int .i64 l.length) := SL.len H
theorem RI.cells (H : RI h v l) : v.cells = [v] := SL.cells H
theorem RI.one (H : RI h v l) : v.one = true := SL.one H
theorem RI.content (H : RI h v l) : contentA h 1 v = some (l.length, ints l) := SL.content H
theorem RI.idx (H : RI h v l) {kk : IntKind} {k : Int} (hk : 0 ≤ k ∧ k < l.length) : idxA 1 v (.int kk k) = some (elA 1 v k.toNat) := SL.idx H hk
theorem RI.mono (H : RI h v l) (hs : HSub h h') : RI h' v l := SL.mono H hs
theorem RI.load (H : RI h v l) {k : Nat} (hk : k < l.length) : Ae.loadA h false 1 (elA 1 v k) = some (.int .i64 (l.getD k 0)) := by
  rw [SL.load1 H hk, ints_get hk]
theorem RI.loadS (H : RI h v l) (hs : HSub h h') {k : Nat} (hk : k < l.length) : Ae.loadA h' false 1 (elA 1 v k) = some (.int .i64 (l.getD k 0)) := (H.mono hs).load hk
/-- The same in any later heap. -/
theorem RI.loadC (H : RI h v l) : ∀ (h' : Heap) (k : Nat), HSub h h' → k < l.length → Ae.loadA h' false 1 (elA 1 v k) = some (.int .i64 (l.getD k 0)) := fun _ _ hs hk => (H.mono hs).load hk
theorem RI.contentC (H : RI h v l) : ∀ (h' : Heap), HSub h h' → contentA h' 1 v = some (l.length, ints l) := fun _ hs => (H.mono hs).content
theorem RI.nil : RI h .nilslice [] := ⟨rfl, by decide, .inl ⟨rfl, rfl⟩⟩
theorem SL.lt (H : SL h sz v n cs) : n < 9223372036854775808 := H.2.1
theorem RI.lt (H : RI h v l) : l.length < 9223372036854775808 := H.2.1
theorem RI.known {i : Nat} {wr : Bool} {u c m : Nat} (hg : h.get i = some (.cells (ints l) wr u)) (hm : m = l.length ∧ m < 9223372036854775808) (hc : m ≤ c) : RI h (.slice i 0 m (.known c)) l := by
  obtain ⟨rfl, hm⟩ := hm
  refine ⟨by simp [ints], hm, .inr ⟨i, 0, _, _, wr, u, rfl, hg, by simp [ints], ?_, hc⟩⟩
  exact cut_all (by simp [ints])
theorem RI.unk {i m : Nat} (hg : h.get i = some (.cells (ints l) true 1)) (hm : m = l.length ∧ m < 9223372036854775808) : RI h (.slice i 0 m (.unk 0)) l := by
  obtain ⟨rfl, hm⟩ := hm
  refine ⟨by simp [ints], hm, .inr ⟨i, 0, _, _, true, 1, rfl, hg, by simp [ints], ?_, rfl, rfl, rfl⟩⟩
  exact cut_all (by simp [ints])
end

/-! ### Loads, stores, new rows -/
def loadB (agg : Bool) (n o : Nat) : Option ABlk → Option AV
  | some (.cells vs _ _) => partA agg vs o n
  | _ => none
theorem load_ptr {h agg n i o} : loadA h agg n (.ptr i o) = loadB agg n o (h.get i) := by
  simp only [loadA, loadB]
  cases h.get i with
  | none => rfl
  | some b => cases b <;> rfl
theorem loadB_one {n o vs wr u} : loadB false n o (some (.cells vs wr u)) = vs[o]? := rfl
theorem loadB_agg {n o vs wr u} (h : o + n ≤ vs.length) : loadB true n o (some (.cells vs wr u)) = some (.agg (cut vs o n)) := by simp only [loadB, partA, if_true, if_pos h]
def storeB (h : Heap) (i n o : Nat) (v : AV) : Option ABlk → Option Heap
  | some (.cells vs true u) => if v.cells.length = n ∧ o + n ≤ vs.length ∧ v.cells.all AV.one = true then some (h.put i (.cells (splice vs o v.cells) true u)) else none
  | _ => none
theorem store_ptr {h n i o v} : storeA h n (.ptr i o) v = storeB h i n o v (h.get i) := by
  simp only [storeA, storeB]
  cases h.get i with
  | none => rfl
  | some b => cases b with
    | cells vs wr u => cases wr <;> rfl
    | _ => rfl
theorem storeB_one {h i o v vs u} (hv : v.cells = [v] ∧ v.one = true ∧ o < vs.length) : storeB h i 1 o v (some (.cells vs true u)) = some (h.put i (.cells (vs.set o v) true u)) := by
  simp only [storeB, hv.1]
  rw [if_pos ⟨rfl, hv.2.2, by simp [hv.2.1]⟩]; rfl
theorem storeB_int {h i o k x vs u} (hv : o < vs.length) : storeB h i 1 o (.int k x) (some (.cells vs true u)) = some (h.put i (.cells (vs.set o (.int k x)) true u)) := storeB_one ⟨rfl, rfl, hv⟩
theorem storeB_bool {h i o x vs u} (hv : o < vs.length) : storeB h i 1 o (.bool x) (some (.cells vs true u)) = some (h.put i (.cells (vs.set o (.bool x)) true u)) := storeB_one ⟨rfl, rfl, hv⟩
theorem storeB_slice {h i o j p n c vs u} (hv : o < vs.length) : storeB h i 1 o (.slice j p n c) (some (.cells vs true u)) = some (h.put i (.cells (vs.set o (.slice j p n c)) true u)) := storeB_one ⟨rfl, rfl, hv⟩
theorem storeB_nil {h i o vs u} (hv : o < vs.length) : storeB h i 1 o .nilslice (some (.cells vs true u)) = some (h.put i (.cells (vs.set o .nilslice) true u)) := storeB_one ⟨rfl, rfl, hv⟩
theorem storeB_agg {h i o n xs vs u} (h1 : xs.length = n) (h2 : o + n ≤ vs.length) (h3 : xs.all AV.one = true) : storeB h i n o (.agg xs) (some (.cells vs true u)) = some (h.put i (.cells (splice vs o xs) true u)) := by
  simp only [storeB, AV.cells]
  exact if_pos ⟨h1, h2, h3⟩
theorem storeB_var {h i o v vs u} (hc : v.cells = [v]) (h1 : v.one = true) (ho : o < vs.length) : storeB h i 1 o v (some (.cells vs true u)) = some (h.put i (.cells (vs.set o v) true u)) := storeB_one ⟨hc, h1, ho⟩
theorem one_int {k n} : AV.one (.int k n) = true := rfl
theorem one_bool {b} : AV.one (.bool b) = true := rfl
theorem one_ptr {i o} : AV.one (.ptr i o) = true := rfl
theorem one_slice {i o n c} : AV.one (.slice i o n c) = true := rfl
theorem one_nil : AV.one .nilslice = true := rfl
theorem one_func {g f c} : AV.one (.func g f c) = true := rfl
theorem splice_one {vs o c} : splice vs o [c] = vs.set o c := rfl
theorem splice_two {vs o x y cs} : splice vs o (x :: y :: cs) = vs.take o ++ (x :: y :: cs) ++ vs.drop (o + (cs.length + 2)) := rfl
theorem cut_nil {vs o} : cut vs o 0 = [] := by simp [cut]
theorem cut_cons {x vs n} : cut (x :: vs) 0 (n + 1) = x :: cut vs 0 n := rfl
theorem cut_succ {x vs o n} : cut (x :: vs) (o + 1) n = cut vs o n := rfl
theorem fill_nil {z} : fillA z [] = some z := rfl
theorem fill_one {z o v rest} (hv : v.cells = [v]) (ho : o < z.length) : fillA z ((o, 1, v) :: rest) = fillA (z.set o v) rest := by
  simp only [fillA, hv]
  rw [if_pos ⟨rfl, ho⟩]
  congr 1
  rw [List.set_eq_take_append_cons_drop, if_pos ho, List.append_assoc]; rfl
theorem fill_int {z o k n rest} (ho : o < z.length) : fillA z ((o, 1, .int k n) :: rest) = fillA (z.set o (.int k n)) rest := fill_one rfl ho
theorem fill_bool {z o b rest} (ho : o < z.length) : fillA z ((o, 1, .bool b) :: rest) = fillA (z.set o (.bool b)) rest := fill_one rfl ho
theorem fill_ptr {z o i p rest} (ho : o < z.length) : fillA z ((o, 1, .ptr i p) :: rest) = fillA (z.set o (.ptr i p)) rest := fill_one rfl ho
theorem fill_slice {z o i p n c rest} (ho : o < z.length) : fillA z ((o, 1, .slice i p n c) :: rest) = fillA (z.set o (.slice i p n c)) rest := fill_one rfl ho
theorem fill_nilslice {z o rest} (ho : o < z.length) : fillA z ((o, 1, .nilslice) :: rest) = fillA (z.set o .nilslice) rest := fill_one rfl ho
theorem fill_func {z o g f c rest} (ho : o < z.length) : fillA z ((o, 1, .func g f c) :: rest) = fillA (z.set o (.func g f c)) rest := fill_one rfl ho
theorem fill_agg {z o n xs rest} (h1 : xs.length = n) (h2 : o + n ≤ z.length) : fillA z ((o, n, .agg xs) :: rest) = fillA (z.take o ++ xs ++ z.drop (o + n)) rest := by
  simp only [fillA, AV.cells]; exact if_pos ⟨h1, h2⟩
theorem storeO_some {h : Heap} : storeOA (some h) = some (.undef, h) := rfl
theorem alloc_none {z h} : allocA none z h = some (.ptr h.size 0, h.push (.cells z true 0)) := rfl
/-- A place that was kept for a new row. -/
def kept (n : Nat) (h : Heap) : Option ABlk → (Nat → Heap → (ABlk → Heap) → Option (AV × Heap)) → Option (AV × Heap)
  | none, f => if n < h.size then f n h (fun b => h.put n b) else none
  | some _, _ => none
theorem kept_none {n h f} (hn : n < h.size) : kept n h none f = f n h (fun b => h.put n b) := by simp [kept, hn]
theorem room_some {n : Nat} {h : Heap} : h.room (some n) = true ↔ h.get n = none ∧ n < h.size := by simp [Heap.room]
theorem alloc_some {z h n} : allocA (some n) z h = kept n h (h.get n) (fun n _ p => some (.ptr n 0, p (.cells z true 0))) := by
  simp only [allocA, room_some, kept]
  cases hg : h.get n with
  | none => by_cases hn : n < h.size <;> simp [hn, Heap.nid, Heap.new]
  | some b => simp
theorem buildS_none {n cs h} : buildSliceA none n (some cs) h = some (.slice h.size 0 n (.known n), h.push (.cells cs true 0)) := rfl
theorem buildS_some {n cs h i} : buildSliceA (some i) n (some cs) h = kept i h (h.get i) (fun i _ p => some (.slice i 0 n (.known n), p (.cells cs true 0))) := by
  simp only [buildSliceA, room_some, kept]
  cases hg : h.get i with
  | none => by_cases hn : i < h.size <;> simp [hn, Heap.nid, Heap.new]
  | some b => simp
theorem make_none {z : List AV} {bytes : Nat} {h : Heap} {k k' : IntKind} {l c : Int} (hl : 0 ≤ l ∧ l ≤ c ∧ c * bytes ≤ 140737488355328 ∧ c ≤ 140737488355328) : makeA none z bytes h (.int k l) (.int k' c) = some (.slice h.size 0 l.toNat (.known c.toNat), h.push (.cells (zerosA c.toNat z) true 0)) := by
  simp only [makeA]
  rw [if_pos ⟨hl.1, hl.2.1, hl.2.2.1, hl.2.2.2, rfl⟩]; rfl
theorem make_some {z : List AV} {bytes : Nat} {h : Heap} {k k' : IntKind} {l c : Int} {i : Nat} (hl : 0 ≤ l ∧ l ≤ c ∧ c * bytes ≤ 140737488355328 ∧ c ≤ 140737488355328) : makeA (some i) z bytes h (.int k l) (.int k' c) = kept i h (h.get i) (fun i _ p => some (.slice i 0 l.toNat (.known c.toNat), p (.cells (zerosA c.toNat z) true 0))) := by
  have h1 : (c * bytes ≤ 2 ^ 47) := hl.2.2.1
  have h2 : c ≤ 2 ^ 47 := hl.2.2.2
  simp only [makeA, room_some, kept]
  cases hg : h.get i with
  | none => by_cases hn : i < h.size <;> simp [hn, Heap.nid, Heap.new, hl.1, hl.2.1] <;> omega
  | some b => simp
theorem idx_slice {sz i o n c kk} {k : Int} (hk : 0 ≤ k ∧ k < (n : Nat)) : idxA sz (.slice i o n c) (.int kk k) = some (.ptr i (o + k.toNat * sz)) := by simp only [idxA, if_pos hk]
theorem idxArr_ptr {sz len i o kk} {k : Int} (hk : 0 ≤ k ∧ k < (len : Nat)) : idxArrA sz len (.ptr i o) (.int kk k) = some (.ptr i (o + k.toNat * sz)) := by simp only [idxArrA, if_pos hk]
theorem fieldAddr_ptr {off i o} : fieldAddrA off (.ptr i o) = some (.ptr i (o + off)) := rfl
theorem field_agg {agg off n vs} : fieldA agg off n (.agg vs) = partA agg vs off n := rfl
theorem part_one {vs o n} : partA false vs o n = vs[o]? := rfl
theorem part_agg {vs o n} (h : o + n ≤ vs.length) : partA true vs o n = some (.agg (cut vs o n)) := by simp only [partA, if_true, if_pos h]
theorem len_slice {i o n c} : lenA (.slice i o n c) = some (.int .i64 n) := rfl
theorem len_nil : lenA .nilslice = some (.int .i64 0) := rfl
theorem cells_int {k n} : AV.cells (.int k n) = [.int k n] := rfl
theorem cells_bool {b} : AV.cells (.bool b) = [.bool b] := rfl
theorem cells_agg {vs} : AV.cells (.agg vs) = vs := rfl
theorem cells_slice {i o n c} : AV.cells (.slice i o n c) = [.slice i o n c] := rfl
theorem cells_nil : AV.cells .nilslice = [.nilslice] := rfl
theorem cells_ptr {i o} : AV.cells (.ptr i o) = [.ptr i o] := rfl
theorem cells_func {g f c} : AV.cells (.func g f c) = [.func g f c] := rfl
theorem cells_yield {l} : AV.cells (.yield l) = [.yield l] := rfl

end Go.Ae


namespace Go.Ae
/-- skyfix/skyfixkit.Equal -/
def B12 : ABody := (.mk 2 26 [(.tmp 4)] (.seq (.region [⟨(some 4), (.mv (.const (.bool false))), none⟩]) (.seq (.seq (.region [⟨(some 6), (.mv (.tmp 0)), none⟩, ⟨(some 7), (.len (.tmp 6)), none⟩, ⟨(some 8), (.mv (.tmp 1)), none⟩, ⟨(some 9), (.len (.tmp 8)), none⟩, ⟨(some 10), (.bin .neq (.tmp 7) (.tmp 9)), none⟩]) (.cond (.tmp 10) (.seq (.region [⟨(some 4), (.mv (.const (.bool false))), none⟩]) .ret) .skip)) (.seq (.seq (.region [⟨(some 5), (.mv (.const (.int .i64 0))), none⟩]) (.block 0 (.loop (.seq (.seq (.region [⟨(some 11), (.mv (.tmp 5)), none⟩, ⟨(some 12), (.mv (.tmp 0)), none⟩, ⟨(some 13), (.len (.tmp 12)), none⟩, ⟨(some 14), (.bin .lss (.tmp 11) (.tmp 13)), none⟩]) (.cond (.tmp 14) .skip (.exit 0))) (.seq (.block 1 (.seq (.draw 0 [⟨0, false, [], ⟨(some 17), (.mv (.tmp 0)), none⟩⟩, ⟨1, false, [], ⟨(some 18), (.mv (.tmp 5)), none⟩⟩, ⟨2, false, [], ⟨(some 19), (.indexAddr 1 (.tmp 17) (.tmp 18)), none⟩⟩, ⟨4, false, [], ⟨(some 21), (.mv (.tmp 1)), none⟩⟩, ⟨5, false, [], ⟨(some 22), (.mv (.tmp 5)), none⟩⟩, ⟨6, false, [], ⟨(some 23), (.indexAddr 1 (.tmp 21) (.tmp 22)), none⟩⟩, ⟨3, false, [], ⟨(some 20), (.load false 1 (.tmp 19)), none⟩⟩, ⟨7, false, [], ⟨(some 24), (.load false 1 (.tmp 23)), none⟩⟩, ⟨8, false, [], ⟨(some 25), (.bin .neq (.tmp 20) (.tmp 24)), none⟩⟩]) (.cond (.tmp 25) (.seq (.region [⟨(some 4), (.mv (.const (.bool false))), none⟩]) .ret) .skip))) (.region [⟨(some 15), (.mv (.tmp 5)), none⟩, ⟨(some 16), (.bin .add (.tmp 15) (.const (.int .i64 1))), none⟩, ⟨(some 5), (.mv (.tmp 16)), none⟩])))))) (.seq (.region [⟨(some 4), (.mv (.const (.bool true))), none⟩]) .ret)))))
/-- skyfix/skyfixkit.Turn -/
def B23 : ABody := (.mk 2 14 [(.tmp 4)] (.seq (.region [⟨(some 4), (.mv (.const (.int .i64 0))), none⟩]) (.seq (.region [⟨(some 5), (.mv (.tmp 0)), none⟩, ⟨(some 6), (.mv (.tmp 1)), none⟩, ⟨(some 7), (.bin .rem (.tmp 5) (.tmp 6)), none⟩, ⟨(some 0), (.mv (.tmp 7)), none⟩]) (.seq (.seq (.region [⟨(some 8), (.mv (.tmp 0)), none⟩, ⟨(some 9), (.bin .lss (.tmp 8) (.const (.int .i64 0))), none⟩]) (.cond (.tmp 9) (.region [⟨(some 10), (.mv (.tmp 0)), none⟩, ⟨(some 11), (.mv (.tmp 1)), none⟩, ⟨(some 12), (.bin .add (.tmp 10) (.tmp 11)), none⟩, ⟨(some 0), (.mv (.tmp 12)), none⟩]) .skip)) (.seq (.region [⟨(some 13), (.mv (.tmp 0)), none⟩, ⟨(some 4), (.mv (.tmp 13)), none⟩]) .ret)))))
/-- slices.ContainsFunc[[]int,int] -/
def B37 : ABody := (.mk 2 9 [(.tmp 4)] (.seq (.region [⟨(some 4), (.mv (.const (.bool false))), none⟩]) (.seq (.region [⟨(some 5), (.mv (.tmp 0)), none⟩, ⟨(some 6), (.mv (.tmp 1)), none⟩, ⟨(some 7), (.call (.const (.func 50 [] [])) [(.tmp 5), (.tmp 6)]), none⟩, ⟨(some 8), (.bin .geq (.tmp 7) (.const (.int .i64 0))), none⟩, ⟨(some 4), (.mv (.tmp 8)), none⟩]) .ret)))
/-- slices.Clone[[]int,int] -/
def B42 : ABody := (.mk 1 8 [(.tmp 2)] (.seq (.region [⟨(some 2), (.mv (.const .nilslice)), none⟩]) (.seq (.seq (.region [⟨(some 3), (.mv (.tmp 0)), none⟩, ⟨(some 4), (.eqn false (.tmp 3)), none⟩]) (.cond (.tmp 4) (.seq (.region [⟨(some 2), (.mv (.const .nilslice)), none⟩]) .ret) .skip)) (.seq (.region [⟨(some 5), (.buildSlice 0 [] []), none⟩, ⟨(some 6), (.mv (.tmp 0)), none⟩, ⟨(some 7), (.append 1 8 (.tmp 5) (.tmp 6)), none⟩, ⟨(some 2), (.mv (.tmp 7)), none⟩]) .ret))))
/-- slices.Reverse[[]int,int] -/
def B43 : ABody := (.mk 1 28 [] (.seq (.region [⟨(some 4), (.mv (.tmp 0)), none⟩, ⟨(some 5), (.len (.tmp 4)), none⟩, ⟨(some 6), (.bin .sub (.tmp 5) (.const (.int .i64 1))), none⟩, ⟨(some 2), (.mv (.const (.int .i64 0))), none⟩, ⟨(some 3), (.mv (.tmp 6)), none⟩]) (.block 0 (.loop (.seq (.seq (.region [⟨(some 7), (.mv (.tmp 2)), none⟩, ⟨(some 8), (.mv (.tmp 3)), none⟩, ⟨(some 9), (.bin .lss (.tmp 7) (.tmp 8)), none⟩]) (.cond (.tmp 9) .skip (.exit 0))) (.seq (.block 1 (.draw 0 [⟨0, false, [], ⟨(some 14), (.mv (.tmp 0)), none⟩⟩, ⟨1, false, [], ⟨(some 15), (.mv (.tmp 2)), none⟩⟩, ⟨2, false, [], ⟨(some 16), (.mv (.tmp 0)), none⟩⟩, ⟨3, false, [], ⟨(some 17), (.mv (.tmp 3)), none⟩⟩, ⟨4, false, [], ⟨(some 18), (.mv (.tmp 0)), none⟩⟩, ⟨5, false, [], ⟨(some 19), (.mv (.tmp 3)), none⟩⟩, ⟨6, false, [], ⟨(some 20), (.indexAddr 1 (.tmp 18) (.tmp 19)), none⟩⟩, ⟨8, false, [], ⟨(some 22), (.mv (.tmp 0)), none⟩⟩, ⟨9, false, [], ⟨(some 23), (.mv (.tmp 2)), none⟩⟩, ⟨10, false, [], ⟨(some 24), (.indexAddr 1 (.tmp 22) (.tmp 23)), none⟩⟩, ⟨7, false, [], ⟨(some 21), (.load false 1 (.tmp 20)), none⟩⟩, ⟨11, false, [], ⟨(some 25), (.load false 1 (.tmp 24)), none⟩⟩, ⟨12, false, [], ⟨(some 26), (.indexAddr 1 (.tmp 14) (.tmp 15)), none⟩⟩, ⟨13, false, [], ⟨none, (.store 1 (.tmp 26) (.tmp 21)), none⟩⟩, ⟨14, false, [], ⟨(some 27), (.indexAddr 1 (.tmp 16) (.tmp 17)), none⟩⟩, ⟨15, false, [], ⟨none, (.store 1 (.tmp 27) (.tmp 25)), none⟩⟩])) (.region [⟨(some 10), (.mv (.tmp 2)), none⟩, ⟨(some 11), (.bin .add (.tmp 10) (.const (.int .i64 1))), none⟩, ⟨(some 12), (.mv (.tmp 3)), none⟩, ⟨(some 13), (.bin .sub (.tmp 12) (.const (.int .i64 1))), none⟩, ⟨(some 2), (.mv (.tmp 11)), none⟩, ⟨(some 3), (.mv (.tmp 13)), none⟩])))))))
/-- skyfix/skyfixkit.Some -/
def B45 : ABody := (.mk 3 17 [(.tmp 6)] (.seq (.region [⟨(some 6), (.mv (.const (.int .i64 0))), none⟩]) (.seq (.seq (.region [⟨(some 7), (.mv (.tmp 1)), none⟩, ⟨(some 8), (.mv (.tmp 0)), none⟩, ⟨(some 9), (.len (.tmp 8)), none⟩, ⟨(some 10), (.bin .geq (.tmp 7) (.tmp 9)), none⟩]) (.cond (.tmp 10) (.seq (.region [⟨(some 6), (.mv (.const (.int .i64 0))), none⟩]) .ret) .skip)) (.seq (.region [⟨(some 11), (.mv (.tmp 0)), none⟩, ⟨(some 12), (.mv (.tmp 1)), none⟩, ⟨(some 13), (.indexAddr 1 (.tmp 11) (.tmp 12)), none⟩, ⟨(some 14), (.load false 1 (.tmp 13)), none⟩, ⟨(some 15), (.mv (.tmp 2)), none⟩, ⟨(some 16), (.call (.const (.func 23 [] [])) [(.tmp 14), (.tmp 15)]), none⟩, ⟨(some 6), (.mv (.tmp 16)), none⟩]) .ret))))
/-- slices.Concat[[]int,int] -/
def B47 : ABody := (.mk 1 36 [(.tmp 2)] (.seq (.region [⟨(some 2), (.mv (.const .nilslice)), none⟩]) (.seq (.region [⟨(some 3), (.mv (.const (.int .i64 0))), none⟩]) (.seq (.seq (.region [⟨(some 9), (.mv (.tmp 0)), none⟩, ⟨(some 10), (.len (.tmp 9)), none⟩, ⟨(some 11), (.mv (.const (.int .i64 0))), none⟩]) (.block 0 (.loop (.seq (.region [⟨(some 12), (.bin .lss (.tmp 11) (.tmp 10)), none⟩]) (.seq (.cond (.tmp 12) .skip (.exit 0)) (.seq (.block 1 (.seq (.region [⟨(some 13), (.indexAddr 1 (.tmp 9) (.tmp 11)), none⟩, ⟨(some 14), (.load false 1 (.tmp 13)), none⟩, ⟨(some 5), (.mv (.tmp 14)), none⟩]) (.seq (.region [⟨(some 15), (.mv (.tmp 3)), none⟩, ⟨(some 16), (.mv (.tmp 5)), none⟩, ⟨(some 17), (.len (.tmp 16)), none⟩, ⟨(some 18), (.bin .add (.tmp 15) (.tmp 17)), none⟩, ⟨(some 3), (.mv (.tmp 18)), none⟩]) (.seq (.region [⟨(some 19), (.mv (.tmp 3)), none⟩, ⟨(some 20), (.bin .lss (.tmp 19) (.const (.int .i64 0))), none⟩]) (.cond (.tmp 20) (.region [⟨none, (.refuse ""), none⟩, ⟨none, (.refuse ""), none⟩]) .skip))))) (.region [⟨(some 22), (.bin .add (.tmp 11) (.const (.int .i64 1))), none⟩, ⟨(some 11), (.mv (.tmp 22)), none⟩]))))))) (.seq (.region [⟨(some 23), (.mv (.tmp 3)), none⟩, ⟨(some 24), (.call (.const (.func 56 [] [])) [(.const .nilslice), (.tmp 23)]), none⟩, ⟨(some 6), (.mv (.tmp 24)), none⟩]) (.seq (.seq (.region [⟨(some 25), (.mv (.tmp 0)), none⟩, ⟨(some 26), (.len (.tmp 25)), none⟩, ⟨(some 27), (.mv (.const (.int .i64 0))), none⟩]) (.block 2 (.loop (.seq (.region [⟨(some 28), (.bin .lss (.tmp 27) (.tmp 26)), none⟩]) (.seq (.cond (.tmp 28) .skip (.exit 2)) (.seq (.block 3 (.seq (.region [⟨(some 29), (.indexAddr 1 (.tmp 25) (.tmp 27)), none⟩, ⟨(some 30), (.load false 1 (.tmp 29)), none⟩, ⟨(some 8), (.mv (.tmp 30)), none⟩]) (.region [⟨(some 31), (.mv (.tmp 6)), none⟩, ⟨(some 32), (.mv (.tmp 8)), none⟩, ⟨(some 33), (.append 1 8 (.tmp 31) (.tmp 32)), none⟩, ⟨(some 6), (.mv (.tmp 33)), none⟩]))) (.region [⟨(some 34), (.bin .add (.tmp 27) (.const (.int .i64 1))), none⟩, ⟨(some 27), (.mv (.tmp 34)), none⟩]))))))) (.seq (.region [⟨(some 35), (.mv (.tmp 6)), none⟩, ⟨(some 2), (.mv (.tmp 35)), none⟩]) .ret)))))))
/-- slices.IndexFunc[[]int,int] -/
def B50 : ABody := (.mk 2 19 [(.tmp 4)] (.seq (.region [⟨(some 4), (.mv (.const (.int .i64 0))), none⟩]) (.seq (.seq (.region [⟨(some 6), (.mv (.tmp 0)), none⟩, ⟨(some 7), (.len (.tmp 6)), none⟩, ⟨(some 8), (.mv (.const (.int .i64 0))), none⟩]) (.block 0 (.loop (.seq (.region [⟨(some 9), (.bin .lss (.tmp 8) (.tmp 7)), none⟩]) (.seq (.cond (.tmp 9) .skip (.exit 0)) (.seq (.block 1 (.seq (.region [⟨(some 10), (.mv (.tmp 8)), none⟩, ⟨(some 5), (.mv (.tmp 10)), none⟩]) (.seq (.region [⟨(some 11), (.mv (.tmp 1)), none⟩, ⟨(some 12), (.mv (.tmp 0)), none⟩, ⟨(some 13), (.mv (.tmp 5)), none⟩, ⟨(some 14), (.indexAddr 1 (.tmp 12) (.tmp 13)), none⟩, ⟨(some 15), (.load false 1 (.tmp 14)), none⟩, ⟨(some 16), (.call (.tmp 11) [(.tmp 15)]), none⟩]) (.cond (.tmp 16) (.seq (.region [⟨(some 17), (.mv (.tmp 5)), none⟩, ⟨(some 4), (.mv (.tmp 17)), none⟩]) .ret) .skip)))) (.region [⟨(some 18), (.bin .add (.tmp 8) (.const (.int .i64 1))), none⟩, ⟨(some 8), (.mv (.tmp 18)), none⟩]))))))) (.seq (.region [⟨(some 4), (.mv (.const (.int .i64 (-1)))), none⟩]) .ret))))
/-- slices.Grow[[]int,int] -/
def B56 : ABody := (.mk 2 27 [(.tmp 4)] (.seq (.region [⟨(some 4), (.mv (.const .nilslice)), none⟩]) (.seq (.seq (.region [⟨(some 5), (.mv (.tmp 1)), none⟩, ⟨(some 6), (.bin .lss (.tmp 5) (.const (.int .i64 0))), none⟩]) (.cond (.tmp 6) (.region [⟨none, (.refuse ""), none⟩, ⟨none, (.refuse ""), none⟩]) .skip)) (.seq (.seq (.region [⟨(some 8), (.mv (.tmp 1)), none⟩, ⟨(some 9), (.mv (.tmp 0)), none⟩, ⟨(some 10), (.cap (.tmp 9)), none⟩, ⟨(some 11), (.mv (.tmp 0)), none⟩, ⟨(some 12), (.len (.tmp 11)), none⟩, ⟨(some 13), (.bin .sub (.tmp 10) (.tmp 12)), none⟩, ⟨(some 14), (.bin .sub (.tmp 8) (.tmp 13)), none⟩, ⟨(some 1), (.mv (.tmp 14)), none⟩]) (.seq (.region [⟨(some 15), (.mv (.tmp 1)), none⟩, ⟨(some 16), (.bin .gtr (.tmp 15) (.const (.int .i64 0))), none⟩]) (.cond (.tmp 16) (.region [⟨(some 17), (.mv (.tmp 0)), none⟩, ⟨(some 18), (.mv (.tmp 0)), none⟩, ⟨(some 19), (.cap (.tmp 18)), none⟩, ⟨(some 20), (.slice 1 (.tmp 17) none (some (.tmp 19)) none), none⟩, ⟨(some 21), (.mv (.tmp 1)), none⟩, ⟨(some 22), (.appendMake [(.int .i64 0)] 8 (.tmp 20) (.tmp 21)), none⟩, ⟨(some 23), (.mv (.tmp 0)), none⟩, ⟨(some 24), (.len (.tmp 23)), none⟩, ⟨(some 25), (.slice 1 (.tmp 22) none (some (.tmp 24)) none), none⟩, ⟨(some 0), (.mv (.tmp 25)), none⟩]) .skip))) (.seq (.region [⟨(some 26), (.mv (.tmp 0)), none⟩, ⟨(some 4), (.mv (.tmp 26)), none⟩]) .ret)))))
/-- skyfix/skyfixlaw08.GoldRegisters -/
def B63 : ABody := (.mk 4 77 [(.tmp 8)] (.seq (.region [⟨(some 8), (.mv (.const (.bool false))), none⟩]) (.seq (.seq (.region [⟨(some 17), (.mv (.tmp 1)), none⟩, ⟨(some 18), (.len (.tmp 17)), none⟩, ⟨(some 19), (.bin .gtr (.tmp 18) (.const (.int .i64 40))), none⟩, ⟨(some 20), (.mv (.tmp 19)), none⟩, ⟨(some 21), (.mv (.tmp 2)), (some (20, false))⟩, ⟨(some 22), (.len (.tmp 21)), (some (20, false))⟩, ⟨(some 23), (.bin .gtr (.tmp 22) (.const (.int .i64 40))), (some (20, false))⟩, ⟨(some 24), (.pick (.tmp 20) (.const (.bool true)) (.tmp 23)), none⟩]) (.cond (.tmp 24) (.seq (.region [⟨(some 25), (.call (.const (.func 80 [] [])) []), none⟩, ⟨(some 8), (.mv (.tmp 25)), none⟩]) .ret) .skip)) (.seq (.region [⟨(some 27), (.mv (.tmp 0)), none⟩, ⟨(some 28), (.mv (.tmp 1)), none⟩, ⟨(some 29), (.mv (.tmp 2)), none⟩, ⟨(some 30), (.mv (.tmp 3)), none⟩, ⟨(some 31), (.call (.const (.func 81 [] [])) [(.tmp 27), (.tmp 28), (.tmp 29), (.tmp 30)]), none⟩, ⟨(some 26), (.mv (.tmp 31)), none⟩, ⟨(some 32), (.extract (.tmp 26) 0), none⟩, ⟨(some 33), (.extract (.tmp 26) 1), none⟩, ⟨(some 9), (.mv (.tmp 32)), none⟩, ⟨(some 10), (.mv (.tmp 33)), none⟩]) (.seq (.region [⟨(some 35), (.mv (.tmp 0)), none⟩, ⟨(some 36), (.mv (.tmp 1)), none⟩, ⟨(some 37), (.mv (.tmp 2)), none⟩, ⟨(some 38), (.mv (.tmp 3)), none⟩, ⟨(some 39), (.call (.const (.func 82 [] [])) [(.tmp 35), (.tmp 36), (.tmp 37), (.tmp 38)]), none⟩, ⟨(some 34), (.mv (.tmp 39)), none⟩, ⟨(some 40), (.extract (.tmp 34) 0), none⟩, ⟨(some 41), (.extract (.tmp 34) 1), none⟩, ⟨(some 11), (.mv (.tmp 40)), none⟩, ⟨(some 12), (.mv (.tmp 41)), none⟩]) (.seq (.region [⟨(some 43), (.mv (.tmp 0)), none⟩, ⟨(some 44), (.mv (.tmp 1)), none⟩, ⟨(some 45), (.mv (.tmp 2)), none⟩, ⟨(some 46), (.call (.const (.func 83 [] [])) [(.tmp 43), (.tmp 44), (.tmp 45)]), none⟩, ⟨(some 42), (.mv (.tmp 46)), none⟩, ⟨(some 47), (.extract (.tmp 42) 0), none⟩, ⟨(some 48), (.extract (.tmp 42) 1), none⟩, ⟨(some 13), (.mv (.tmp 47)), none⟩, ⟨(some 14), (.mv (.tmp 48)), none⟩]) (.seq (.region [⟨(some 50), (.mv (.tmp 0)), none⟩, ⟨(some 51), (.mv (.tmp 1)), none⟩, ⟨(some 52), (.mv (.tmp 2)), none⟩, ⟨(some 53), (.call (.const (.func 84 [] [])) [(.tmp 50), (.tmp 51), (.tmp 52)]), none⟩, ⟨(some 49), (.mv (.tmp 53)), none⟩, ⟨(some 54), (.extract (.tmp 49) 0), none⟩, ⟨(some 55), (.extract (.tmp 49) 1), none⟩, ⟨(some 15), (.mv (.tmp 54)), none⟩, ⟨(some 16), (.mv (.tmp 55)), none⟩]) (.seq (.region [⟨(some 56), (.mv (.tmp 9)), none⟩, ⟨(some 57), (.mv (.tmp 11)), none⟩, ⟨(some 58), (.call (.const (.func 12 [] [])) [(.tmp 56), (.tmp 57)]), none⟩, ⟨(some 59), (.mv (.tmp 58)), none⟩, ⟨(some 60), (.mv (.tmp 10)), (some (59, true))⟩, ⟨(some 61), (.mv (.tmp 12)), (some (59, true))⟩, ⟨(some 62), (.bin .eql (.tmp 60) (.tmp 61)), (some (59, true))⟩, ⟨(some 63), (.pick (.tmp 59) (.tmp 62) (.const (.bool false))), none⟩, ⟨(some 64), (.mv (.tmp 63)), none⟩, ⟨(some 65), (.mv (.tmp 13)), (some (64, true))⟩, ⟨(some 66), (.mv (.tmp 15)), (some (64, true))⟩, ⟨(some 67), (.bin .eql (.tmp 65) (.tmp 66)), (some (64, true))⟩, ⟨(some 68), (.pick (.tmp 64) (.tmp 67) (.const (.bool false))), none⟩, ⟨(some 69), (.mv (.tmp 68)), none⟩, ⟨(some 70), (.mv (.tmp 14)), (some (69, true))⟩, ⟨(some 71), (.mv (.tmp 16)), (some (69, true))⟩, ⟨(some 72), (.bin .eql (.tmp 70) (.tmp 71)), (some (69, true))⟩, ⟨(some 73), (.pick (.tmp 69) (.tmp 72) (.const (.bool false))), none⟩, ⟨(some 74), (.mv (.tmp 73)), none⟩, ⟨(some 75), (.call (.const (.func 80 [] [])) []), (some (74, true))⟩, ⟨(some 76), (.pick (.tmp 74) (.tmp 75) (.const (.bool false))), none⟩, ⟨(some 8), (.mv (.tmp 76)), none⟩]) .ret))))))))
/-- skyfix/gold.Length -/
def B70 : ABody := (.mk 1 11 [(.tmp 2), (.tmp 3)] (.seq (.region [⟨(some 2), (.mv (.const (.int .i64 0))), none⟩, ⟨(some 3), (.mv (.const (.int .i64 0))), none⟩]) (.seq (.seq (.region [⟨(some 4), (.buildSlice 5 [(.int .i64 0), (.int .i64 0), (.int .i64 0), (.int .i64 0), (.int .i64 0)] [(0, (1, (.const (.int .i64 5)))), (1, (1, (.const (.int .i64 6)))), (2, (1, (.const (.int .i64 7)))), (3, (1, (.const (.int .i64 9)))), (4, (1, (.const (.int .i64 10))))]), none⟩, ⟨(some 5), (.mv (.tmp 0)), none⟩, ⟨(some 6), (.call (.const (.func 89 [] [])) [(.tmp 4), (.tmp 5)]), none⟩, ⟨(some 7), (.un .not (.tmp 6)), none⟩]) (.cond (.tmp 7) (.seq (.region [⟨(some 2), (.mv (.const (.int .i64 0))), none⟩, ⟨(some 3), (.mv (.const (.int .i64 2))), none⟩]) .ret) .skip)) (.seq (.region [⟨(some 8), (.mv (.tmp 0)), none⟩, ⟨(some 9), (.bin .shl (.const (.int .i64 1)) (.tmp 8)), none⟩, ⟨(some 10), (.bin .sub (.tmp 9) (.const (.int .i64 1))), none⟩, ⟨(some 2), (.mv (.tmp 10)), none⟩, ⟨(some 3), (.mv (.const (.int .i64 0))), none⟩]) .ret))))
/-- skyfix/gold.Taps -/
def B72 : ABody := (.mk 2 60 [(.tmp 4), (.tmp 5)] (.seq (.region [⟨(some 4), (.mv (.const .nilslice)), none⟩, ⟨(some 5), (.mv (.const (.int .i64 0))), none⟩]) (.seq (.seq (.region [⟨(some 12), (.mv (.tmp 0)), none⟩, ⟨(some 13), (.call (.const (.func 70 [] [])) [(.tmp 12)]), none⟩, ⟨(some 11), (.mv (.tmp 13)), none⟩, ⟨(some 14), (.extract (.tmp 11) 0), none⟩, ⟨(some 15), (.extract (.tmp 11) 1), none⟩, ⟨(some 6), (.mv (.tmp 14)), none⟩, ⟨(some 7), (.mv (.tmp 15)), none⟩]) (.seq (.region [⟨(some 16), (.mv (.tmp 7)), none⟩, ⟨(some 17), (.bin .neq (.tmp 16) (.const (.int .i64 0))), none⟩]) (.cond (.tmp 17) (.seq (.region [⟨(some 18), (.mv (.tmp 7)), none⟩, ⟨(some 4), (.mv (.const .nilslice)), none⟩, ⟨(some 5), (.mv (.tmp 18)), none⟩]) .ret) .skip))) (.seq (.seq (.region [⟨(some 19), (.mv (.tmp 1)), none⟩, ⟨(some 20), (.bin .lss (.tmp 19) (.const (.int .i64 1))), none⟩, ⟨(some 21), (.mv (.tmp 20)), none⟩, ⟨(some 22), (.mv (.tmp 1)), (some (21, false))⟩, ⟨(some 23), (.bin .gtr (.tmp 22) (.const (.int .i64 2))), (some (21, false))⟩, ⟨(some 24), (.pick (.tmp 21) (.const (.bool true)) (.tmp 23)), none⟩]) (.cond (.tmp 24) (.seq (.region [⟨(some 4), (.mv (.const .nilslice)), none⟩, ⟨(some 5), (.mv (.const (.int .i64 2))), none⟩]) .ret) .skip)) (.seq (.region [⟨(some 25), (.buildSlice 2 [(.int .i64 0), (.int .i64 0)] [(0, (1, (.const (.int .i64 0)))), (1, (1, (.const (.int .i64 2))))]), none⟩, ⟨(some 26), (.buildSlice 4 [(.int .i64 0), (.int .i64 0), (.int .i64 0), (.int .i64 0)] [(0, (1, (.const (.int .i64 0)))), (1, (1, (.const (.int .i64 2)))), (2, (1, (.const (.int .i64 3)))), (3, (1, (.const (.int .i64 4))))]), none⟩, ⟨(some 27), (.build [.nilslice, .nilslice] [(0, (1, (.tmp 25))), (1, (1, (.tmp 26)))]), none⟩, ⟨(some 28), (.build [(.int .i64 0), .nilslice, .nilslice] [(0, (1, (.const (.int .i64 5)))), (1, (2, (.tmp 27)))]), none⟩, ⟨(some 29), (.buildSlice 2 [(.int .i64 0), (.int .i64 0)] [(0, (1, (.const (.int .i64 0)))), (1, (1, (.const (.int .i64 1))))]), none⟩, ⟨(some 30), (.buildSlice 4 [(.int .i64 0), (.int .i64 0), (.int .i64 0), (.int .i64 0)] [(0, (1, (.const (.int .i64 0)))), (1, (1, (.const (.int .i64 1)))), (2, (1, (.const (.int .i64 2)))), (3, (1, (.const (.int .i64 5))))]), none⟩, ⟨(some 31), (.build [.nilslice, .nilslice] [(0, (1, (.tmp 29))), (1, (1, (.tmp 30)))]), none⟩, ⟨(some 32), (.build [(.int .i64 0), .nilslice, .nilslice] [(0, (1, (.const (.int .i64 6)))), (1, (2, (.tmp 31)))]), none⟩, ⟨(some 33), (.buildSlice 2 [(.int .i64 0), (.int .i64 0)] [(0, (1, (.const (.int .i64 0)))), (1, (1, (.const (.int .i64 3))))]), none⟩, ⟨(some 34), (.buildSlice 4 [(.int .i64 0), (.int .i64 0), (.int .i64 0), (.int .i64 0)] [(0, (1, (.const (.int .i64 0)))), (1, (1, (.const (.int .i64 1)))), (2, (1, (.const (.int .i64 2)))), (3, (1, (.const (.int .i64 3))))]), none⟩, ⟨(some 35), (.build [.nilslice, .nilslice] [(0, (1, (.tmp 33))), (1, (1, (.tmp 34)))]), none⟩, ⟨(some 36), (.build [(.int .i64 0), .nilslice, .nilslice] [(0, (1, (.const (.int .i64 7)))), (1, (2, (.tmp 35)))]), none⟩, ⟨(some 37), (.buildSlice 2 [(.int .i64 0), (.int .i64 0)] [(0, (1, (.const (.int .i64 0)))), (1, (1, (.const (.int .i64 4))))]), none⟩, ⟨(some 38), (.buildSlice 4 [(.int .i64 0), (.int .i64 0), (.int .i64 0), (.int .i64 0)] [(0, (1, (.const (.int .i64 0)))), (1, (1, (.const (.int .i64 3)))), (2, (1, (.const (.int .i64 4)))), (3, (1, (.const (.int .i64 6))))]), none⟩, ⟨(some 39), (.build [.nilslice, .nilslice] [(0, (1, (.tmp 37))), (1, (1, (.tmp 38)))]), none⟩, ⟨(some 40), (.build [(.int .i64 0), .nilslice, .nilslice] [(0, (1, (.const (.int .i64 9)))), (1, (2, (.tmp 39)))]), none⟩, ⟨(some 41), (.buildSlice 2 [(.int .i64 0), (.int .i64 0)] [(0, (1, (.const (.int .i64 0)))), (1, (1, (.const (.int .i64 3))))]), none⟩, ⟨(some 42), (.buildSlice 4 [(.int .i64 0), (.int .i64 0), (.int .i64 0), (.int .i64 0)] [(0, (1, (.const (.int .i64 0)))), (1, (1, (.const (.int .i64 2)))), (2, (1, (.const (.int .i64 3)))), (3, (1, (.const (.int .i64 8))))]), none⟩, ⟨(some 43), (.build [.nilslice, .nilslice] [(0, (1, (.tmp 41))), (1, (1, (.tmp 42)))]), none⟩, ⟨(some 44), (.build [(.int .i64 0), .nilslice, .nilslice] [(0, (1, (.const (.int .i64 10)))), (1, (2, (.tmp 43)))]), none⟩, ⟨(some 45), (.build [(.int .i64 0), .nilslice, .nilslice, (.int .i64 0), .nilslice, .nilslice, (.int .i64 0), .nilslice, .nilslice, (.int .i64 0), .nilslice, .nilslice, (.int .i64 0), .nilslice, .nilslice] [(0, (3, (.tmp 28))), (3, (3, (.tmp 32))), (6, (3, (.tmp 36))), (9, (3, (.tmp 40))), (12, (3, (.tmp 44)))]), none⟩, ⟨(some 8), (.alloc [(.int .i64 0), .nilslice, .nilslice, (.int .i64 0), .nilslice, .nilslice, (.int .i64 0), .nilslice, .nilslice, (.int .i64 0), .nilslice, .nilslice, (.int .i64 0), .nilslice, .nilslice]), none⟩, ⟨none, (.store 15 (.tmp 8) (.tmp 45)), none⟩]) (.seq (.seq (.region [⟨(some 46), (.load true 15 (.tmp 8)), none⟩, ⟨(some 47), (.mv (.const (.int .i64 0))), none⟩]) (.block 0 (.loop (.seq (.region [⟨(some 48), (.bin .lss (.tmp 47) (.const (.int .i64 5))), none⟩]) (.seq (.cond (.tmp 48) .skip (.exit 0)) (.seq (.block 1 (.seq (.region [⟨(some 49), (.index true 3 5 (.tmp 46) (.tmp 47)), none⟩, ⟨(some 10), (.alloc [(.int .i64 0), .nilslice, .nilslice]), none⟩, ⟨none, (.store 3 (.tmp 10) (.tmp 49)), none⟩]) (.seq (.region [⟨(some 50), (.fieldAddr 0 (.tmp 10)), none⟩, ⟨(some 51), (.load false 1 (.tmp 50)), none⟩, ⟨(some 52), (.mv (.tmp 0)), none⟩, ⟨(some 53), (.bin .eql (.tmp 51) (.tmp 52)), none⟩]) (.cond (.tmp 53) (.seq (.region [⟨(some 54), (.mv (.tmp 1)), none⟩, ⟨(some 55), (.bin .sub (.tmp 54) (.const (.int .i64 1))), none⟩, ⟨(some 56), (.fieldAddr 1 (.tmp 10)), none⟩, ⟨(some 57), (.indexArr 1 2 (.tmp 56) (.tmp 55)), none⟩, ⟨(some 58), (.load false 1 (.tmp 57)), none⟩, ⟨(some 4), (.mv (.tmp 58)), none⟩, ⟨(some 5), (.mv (.const (.int .i64 0))), none⟩]) .ret) .skip)))) (.region [⟨(some 59), (.bin .add (.tmp 47) (.const (.int .i64 1))), none⟩, ⟨(some 47), (.mv (.tmp 59)), none⟩]))))))) (.seq (.region [⟨(some 4), (.mv (.const .nilslice)), none⟩, ⟨(some 5), (.mv (.const (.int .i64 2))), none⟩]) .ret)))))))
/-- skyfix/gold.Bits -/
def B74 : ABody := (.mk 2 28 [(.tmp 4), (.tmp 5)] (.seq (.region [⟨(some 4), (.mv (.const .nilslice)), none⟩, ⟨(some 5), (.mv (.const (.int .i64 0))), none⟩]) (.seq (.region [⟨(some 9), (.mv (.tmp 0)), none⟩, ⟨(some 10), (.mv (.tmp 1)), none⟩, ⟨(some 11), (.call (.const (.func 72 [] [])) [(.tmp 9), (.tmp 10)]), none⟩, ⟨(some 8), (.mv (.tmp 11)), none⟩, ⟨(some 12), (.extract (.tmp 8) 0), none⟩, ⟨(some 13), (.extract (.tmp 8) 1), none⟩, ⟨(some 6), (.mv (.tmp 12)), none⟩, ⟨(some 7), (.mv (.tmp 13)), none⟩]) (.seq (.seq (.region [⟨(some 14), (.mv (.tmp 7)), none⟩, ⟨(some 15), (.bin .neq (.tmp 14) (.const (.int .i64 0))), none⟩]) (.cond (.tmp 15) (.seq (.region [⟨(some 16), (.mv (.tmp 7)), none⟩, ⟨(some 4), (.mv (.const .nilslice)), none⟩, ⟨(some 5), (.mv (.tmp 16)), none⟩]) .ret) .skip)) (.seq (.draw 13 [⟨0, false, [], ⟨(some 17), (.mv (.tmp 0)), none⟩⟩, ⟨1, false, [], ⟨(some 18), (.mv (.tmp 6)), none⟩⟩, ⟨3, false, [], ⟨(some 20), (.mv (.tmp 0)), none⟩⟩, ⟨5, false, [], ⟨(some 22), (.mv (.tmp 0)), none⟩⟩, ⟨6, false, [], ⟨(some 23), (.bin .shl (.const (.int .i64 1)) (.tmp 22)), none⟩⟩, ⟨7, false, [], ⟨(some 24), (.bin .sub (.tmp 23) (.const (.int .i64 1))), none⟩⟩, ⟨2, false, [], ⟨(some 19), (.buildSlice 1 [(.int .i64 0)] [(0, (1, (.const (.int .i64 1))))]), none⟩⟩, ⟨4, false, [], ⟨(some 21), (.call (.const (.func 90 [] [])) [(.tmp 19), (.tmp 20)]), none⟩⟩, ⟨8, false, [], ⟨(some 25), (.call (.const (.func 81 [] [])) [(.tmp 17), (.tmp 18), (.tmp 21), (.tmp 24)]), none⟩⟩, ⟨9, false, [], ⟨(some 26), (.extract (.tmp 25) 0), none⟩⟩, ⟨10, false, [], ⟨(some 27), (.extract (.tmp 25) 1), none⟩⟩, ⟨11, false, [], ⟨(some 4), (.mv (.tmp 26)), none⟩⟩, ⟨12, false, [], ⟨(some 5), (.mv (.tmp 27)), none⟩⟩]) .ret)))))
/-- skyfix/gold.Code -/
def B76 : ABody := (.mk 2 83 [(.tmp 4), (.tmp 5)] (.seq (.region [⟨(some 4), (.mv (.const .nilslice)), none⟩, ⟨(some 5), (.mv (.const (.int .i64 0))), none⟩]) (.seq (.region [⟨(some 16), (.mv (.tmp 0)), none⟩, ⟨(some 17), (.call (.const (.func 70 [] [])) [(.tmp 16)]), none⟩, ⟨(some 15), (.mv (.tmp 17)), none⟩, ⟨(some 18), (.extract (.tmp 15) 0), none⟩, ⟨(some 19), (.extract (.tmp 15) 1), none⟩, ⟨(some 6), (.mv (.tmp 18)), none⟩, ⟨(some 7), (.mv (.tmp 19)), none⟩]) (.seq (.seq (.region [⟨(some 20), (.mv (.tmp 7)), none⟩, ⟨(some 21), (.bin .neq (.tmp 20) (.const (.int .i64 0))), none⟩]) (.cond (.tmp 21) (.seq (.region [⟨(some 22), (.mv (.tmp 7)), none⟩, ⟨(some 4), (.mv (.const .nilslice)), none⟩, ⟨(some 5), (.mv (.tmp 22)), none⟩]) .ret) .skip)) (.seq (.seq (.region [⟨(some 23), (.mv (.tmp 1)), none⟩, ⟨(some 24), (.bin .lss (.tmp 23) (.const (.int .i64 1))), none⟩, ⟨(some 25), (.mv (.tmp 24)), none⟩, ⟨(some 26), (.mv (.tmp 1)), (some (25, false))⟩, ⟨(some 27), (.mv (.tmp 6)), (some (25, false))⟩, ⟨(some 28), (.bin .add (.tmp 27) (.const (.int .i64 2))), (some (25, false))⟩, ⟨(some 29), (.bin .gtr (.tmp 26) (.tmp 28)), (some (25, false))⟩, ⟨(some 30), (.pick (.tmp 25) (.const (.bool true)) (.tmp 29)), none⟩]) (.cond (.tmp 30) (.seq (.region [⟨(some 4), (.mv (.const .nilslice)), none⟩, ⟨(some 5), (.mv (.const (.int .i64 2))), none⟩]) .ret) .skip)) (.seq (.region [⟨(some 32), (.mv (.tmp 0)), none⟩, ⟨(some 33), (.call (.const (.func 74 [] [])) [(.tmp 32), (.const (.int .i64 1))]), none⟩, ⟨(some 31), (.mv (.tmp 33)), none⟩, ⟨(some 34), (.extract (.tmp 31) 0), none⟩, ⟨(some 35), (.extract (.tmp 31) 1), none⟩, ⟨(some 8), (.mv (.tmp 34)), none⟩, ⟨(some 9), (.mv (.tmp 35)), none⟩]) (.seq (.region [⟨(some 37), (.mv (.tmp 0)), none⟩, ⟨(some 38), (.call (.const (.func 74 [] [])) [(.tmp 37), (.const (.int .i64 2))]), none⟩, ⟨(some 36), (.mv (.tmp 38)), none⟩, ⟨(some 39), (.extract (.tmp 36) 0), none⟩, ⟨(some 40), (.extract (.tmp 36) 1), none⟩, ⟨(some 10), (.mv (.tmp 39)), none⟩, ⟨(some 11), (.mv (.tmp 40)), none⟩]) (.seq (.seq (.region [⟨(some 41), (.mv (.tmp 1)), none⟩]) (.block 0 (.seq (.region [⟨(some 64), (.bin .eql (.tmp 41) (.const (.int .i64 1))), none⟩, ⟨(some 63), (.mv (.tmp 64)), none⟩]) (.cond (.tmp 63) .skip (.seq (.region [⟨(some 66), (.bin .eql (.tmp 41) (.const (.int .i64 2))), none⟩, ⟨(some 65), (.mv (.tmp 66)), none⟩]) (.cond (.tmp 65) (.region [⟨(some 67), (.mv (.tmp 10)), none⟩, ⟨(some 8), (.mv (.tmp 67)), none⟩]) (.seq (.region [⟨(some 42), (.mv (.tmp 8)), none⟩, ⟨(some 43), (.len (.tmp 42)), none⟩, ⟨(some 44), (.mv (.const (.int .i64 0))), none⟩]) (.block 1 (.loop (.seq (.region [⟨(some 45), (.bin .lss (.tmp 44) (.tmp 43)), none⟩]) (.seq (.cond (.tmp 45) .skip (.exit 1)) (.seq (.block 2 (.seq (.region [⟨(some 46), (.mv (.tmp 44)), none⟩, ⟨(some 12), (.mv (.tmp 46)), none⟩]) (.draw 0 [⟨0, false, [], ⟨(some 47), (.mv (.tmp 8)), none⟩⟩, ⟨1, false, [], ⟨(some 48), (.mv (.tmp 12)), none⟩⟩, ⟨2, false, [], ⟨(some 49), (.indexAddr 1 (.tmp 47) (.tmp 48)), none⟩⟩, ⟨4, false, [], ⟨(some 51), (.mv (.tmp 10)), none⟩⟩, ⟨5, false, [], ⟨(some 52), (.mv (.tmp 12)), none⟩⟩, ⟨6, false, [], ⟨(some 53), (.mv (.tmp 1)), none⟩⟩, ⟨7, false, [], ⟨(some 54), (.bin .add (.tmp 52) (.tmp 53)), none⟩⟩, ⟨8, false, [], ⟨(some 55), (.bin .sub (.tmp 54) (.const (.int .i64 3))), none⟩⟩, ⟨9, false, [], ⟨(some 56), (.mv (.tmp 6)), none⟩⟩, ⟨10, false, [], ⟨(some 57), (.bin .rem (.tmp 55) (.tmp 56)), none⟩⟩, ⟨11, false, [], ⟨(some 58), (.indexAddr 1 (.tmp 51) (.tmp 57)), none⟩⟩, ⟨3, false, [], ⟨(some 50), (.load false 1 (.tmp 49)), none⟩⟩, ⟨12, false, [], ⟨(some 59), (.load false 1 (.tmp 58)), none⟩⟩, ⟨13, false, [], ⟨(some 60), (.bin .xor (.tmp 50) (.tmp 59)), none⟩⟩, ⟨14, false, [], ⟨(some 61), (.indexAddr 1 (.tmp 47) (.tmp 48)), none⟩⟩, ⟨15, false, [], ⟨none, (.store 1 (.tmp 61) (.tmp 60)), none⟩⟩]))) (.region [⟨(some 62), (.bin .add (.tmp 44) (.const (.int .i64 1))), none⟩, ⟨(some 44), (.mv (.tmp 62)), none⟩]))))))))))))) (.seq (.seq (.region [⟨(some 68), (.mv (.tmp 8)), none⟩, ⟨(some 69), (.len (.tmp 68)), none⟩, ⟨(some 70), (.mv (.const (.int .i64 0))), none⟩]) (.block 3 (.loop (.seq (.region [⟨(some 71), (.bin .lss (.tmp 70) (.tmp 69)), none⟩]) (.seq (.cond (.tmp 71) .skip (.exit 3)) (.seq (.block 4 (.seq (.region [⟨(some 72), (.mv (.tmp 70)), none⟩, ⟨(some 73), (.indexAddr 1 (.tmp 68) (.tmp 70)), none⟩, ⟨(some 74), (.load false 1 (.tmp 73)), none⟩, ⟨(some 13), (.mv (.tmp 72)), none⟩, ⟨(some 14), (.mv (.tmp 74)), none⟩]) (.region [⟨(some 75), (.mv (.tmp 8)), none⟩, ⟨(some 76), (.mv (.tmp 13)), none⟩, ⟨(some 77), (.mv (.tmp 14)), none⟩, ⟨(some 78), (.bin .mul (.const (.int .i64 2)) (.tmp 77)), none⟩, ⟨(some 79), (.bin .sub (.const (.int .i64 1)) (.tmp 78)), none⟩, ⟨(some 80), (.indexAddr 1 (.tmp 75) (.tmp 76)), none⟩, ⟨none, (.store 1 (.tmp 80) (.tmp 79)), none⟩]))) (.region [⟨(some 81), (.bin .add (.tmp 70) (.const (.int .i64 1))), none⟩, ⟨(some 70), (.mv (.tmp 81)), none⟩]))))))) (.seq (.region [⟨(some 82), (.mv (.tmp 8)), none⟩, ⟨(some 4), (.mv (.tmp 82)), none⟩, ⟨(some 5), (.mv (.const (.int .i64 0))), none⟩]) .ret))))))))))
/-- skyfix/skyfixlaw08.awake -/
def B80 : ABody := (.mk 0 51 [(.tmp 0)] (.seq (.region [⟨(some 0), (.mv (.const (.bool false))), none⟩]) (.seq (.region [⟨(some 8), (.call (.const (.func 70 [] [])) [(.const (.int .i64 5))]), none⟩, ⟨(some 7), (.mv (.tmp 8)), none⟩, ⟨(some 9), (.extract (.tmp 7) 0), none⟩, ⟨(some 10), (.extract (.tmp 7) 1), none⟩, ⟨(some 1), (.mv (.tmp 9)), none⟩, ⟨(some 2), (.mv (.tmp 10)), none⟩]) (.seq (.region [⟨(some 12), (.buildSlice 2 [(.int .i64 0), (.int .i64 0)] [(0, (1, (.const (.int .i64 0)))), (1, (1, (.const (.int .i64 1))))]), none⟩, ⟨(some 13), (.buildSlice 3 [(.int .i64 0), (.int .i64 0), (.int .i64 0)] [(0, (1, (.const (.int .i64 1)))), (1, (1, (.const (.int .i64 0)))), (2, (1, (.const (.int .i64 0))))]), none⟩, ⟨(some 14), (.call (.const (.func 81 [] [])) [(.const (.int .i64 3)), (.tmp 12), (.tmp 13), (.const (.int .i64 10))]), none⟩, ⟨(some 11), (.mv (.tmp 14)), none⟩, ⟨(some 15), (.extract (.tmp 11) 0), none⟩, ⟨(some 16), (.extract (.tmp 11) 1), none⟩, ⟨(some 3), (.mv (.tmp 15)), none⟩, ⟨(some 4), (.mv (.tmp 16)), none⟩]) (.seq (.region [⟨(some 18), (.call (.const (.func 76 [] [])) [(.const (.int .i64 5)), (.const (.int .i64 4))]), none⟩, ⟨(some 17), (.mv (.tmp 18)), none⟩, ⟨(some 19), (.extract (.tmp 17) 0), none⟩, ⟨(some 20), (.extract (.tmp 17) 1), none⟩, ⟨(some 5), (.mv (.tmp 19)), none⟩, ⟨(some 6), (.mv (.tmp 20)), none⟩]) (.seq (.region [⟨(some 21), (.mv (.tmp 1)), none⟩, ⟨(some 22), (.bin .eql (.tmp 21) (.const (.int .i64 31))), none⟩, ⟨(some 23), (.mv (.tmp 22)), none⟩, ⟨(some 24), (.mv (.tmp 2)), (some (23, true))⟩, ⟨(some 25), (.bin .eql (.tmp 24) (.const (.int .i64 0))), (some (23, true))⟩, ⟨(some 26), (.pick (.tmp 23) (.tmp 25) (.const (.bool false))), none⟩, ⟨(some 27), (.mv (.tmp 26)), none⟩, ⟨(some 28), (.mv (.tmp 4)), (some (27, true))⟩, ⟨(some 29), (.bin .eql (.tmp 28) (.const (.int .i64 0))), (some (27, true))⟩, ⟨(some 30), (.pick (.tmp 27) (.tmp 29) (.const (.bool false))), none⟩, ⟨(some 31), (.mv (.tmp 30)), none⟩, ⟨(some 32), (.mv (.tmp 3)), (some (31, true))⟩, ⟨(some 33), (.buildSlice 10 [(.int .i64 0), (.int .i64 0), (.int .i64 0), (.int .i64 0), (.int .i64 0), (.int .i64 0), (.int .i64 0), (.int .i64 0), (.int .i64 0), (.int .i64 0)] [(0, (1, (.const (.int .i64 1)))), (1, (1, (.const (.int .i64 0)))), (2, (1, (.const (.int .i64 0)))), (3, (1, (.const (.int .i64 1)))), (4, (1, (.const (.int .i64 0)))), (5, (1, (.const (.int .i64 1)))), (6, (1, (.const (.int .i64 1)))), (7, (1, (.const (.int .i64 1)))), (8, (1, (.const (.int .i64 0)))), (9, (1, (.const (.int .i64 0))))]), (some (31, true))⟩, ⟨(some 34), (.call (.const (.func 12 [] [])) [(.tmp 32), (.tmp 33)]), (some (31, true))⟩, ⟨(some 35), (.pick (.tmp 31) (.tmp 34) (.const (.bool false))), none⟩, ⟨(some 36), (.mv (.tmp 35)), none⟩, ⟨(some 37), (.mv (.tmp 6)), (some (36, true))⟩, ⟨(some 38), (.bin .eql (.tmp 37) (.const (.int .i64 0))), (some (36, true))⟩, ⟨(some 39), (.pick (.tmp 36) (.tmp 38) (.const (.bool false))), none⟩, ⟨(some 40), (.mv (.tmp 39)), none⟩, ⟨(some 41), (.mv (.tmp 5)), (some (40, true))⟩, ⟨(some 42), (.len (.tmp 41)), (some (40, true))⟩, ⟨(some 43), (.bin .eql (.tmp 42) (.const (.int .i64 31))), (some (40, true))⟩, ⟨(some 44), (.pick (.tmp 40) (.tmp 43) (.const (.bool false))), none⟩, ⟨(some 45), (.mv (.tmp 44)), none⟩, ⟨(some 46), (.mv (.tmp 5)), (some (45, true))⟩, ⟨(some 47), (.slice 1 (.tmp 46) none (some (.const (.int .i64 5))) none), (some (45, true))⟩, ⟨(some 48), (.buildSlice 5 [(.int .i64 0), (.int .i64 0), (.int .i64 0), (.int .i64 0), (.int .i64 0)] [(0, (1, (.const (.int .i64 1)))), (1, (1, (.const (.int .i64 1)))), (2, (1, (.const (.int .i64 1)))), (3, (1, (.const (.int .i64 1)))), (4, (1, (.const (.int .i64 (-1)))))]), (some (45, true))⟩, ⟨(some 49), (.call (.const (.func 12 [] [])) [(.tmp 47), (.tmp 48)]), (some (45, true))⟩, ⟨(some 50), (.pick (.tmp 45) (.tmp 49) (.const (.bool false))), none⟩, ⟨(some 0), (.mv (.tmp 50)), none⟩]) .ret))))))
/-- skyfix/gold.Run -/
def B81 : ABody := (.mk 4 31 [(.tmp 8), (.tmp 9)] (.seq (.region [⟨(some 8), (.mv (.const .nilslice)), none⟩, ⟨(some 9), (.mv (.const (.int .i64 0))), none⟩]) (.seq (.region [⟨(some 13), (.mv (.tmp 0)), none⟩, ⟨(some 14), (.mv (.tmp 1)), none⟩, ⟨(some 15), (.mv (.tmp 2)), none⟩, ⟨(some 16), (.call (.const (.func 92 [] [])) [(.tmp 13), (.tmp 14), (.tmp 15)]), none⟩, ⟨(some 12), (.mv (.tmp 16)), none⟩, ⟨(some 17), (.extract (.tmp 12) 0), none⟩, ⟨(some 18), (.extract (.tmp 12) 1), none⟩, ⟨(some 10), (.alloc [(.int .i64 0), (.int .u32 0), (.int .u32 0)]), none⟩, ⟨none, (.store 3 (.tmp 10) (.tmp 17)), none⟩, ⟨(some 11), (.mv (.tmp 18)), none⟩]) (.seq (.seq (.region [⟨(some 19), (.mv (.tmp 11)), none⟩, ⟨(some 20), (.bin .neq (.tmp 19) (.const (.int .i64 0))), none⟩]) (.cond (.tmp 20) (.seq (.region [⟨(some 21), (.mv (.tmp 11)), none⟩, ⟨(some 8), (.mv (.const .nilslice)), none⟩, ⟨(some 9), (.mv (.tmp 21)), none⟩]) .ret) .skip)) (.seq (.seq (.region [⟨(some 22), (.mv (.tmp 3)), none⟩, ⟨(some 23), (.bin .lss (.tmp 22) (.const (.int .i64 0))), none⟩, ⟨(some 24), (.mv (.tmp 23)), none⟩, ⟨(some 25), (.mv (.tmp 3)), (some (24, false))⟩, ⟨(some 26), (.bin .gtr (.tmp 25) (.const (.int .i64 100000))), (some (24, false))⟩, ⟨(some 27), (.pick (.tmp 24) (.const (.bool true)) (.tmp 26)), none⟩]) (.cond (.tmp 27) (.seq (.region [⟨(some 8), (.mv (.const .nilslice)), none⟩, ⟨(some 9), (.mv (.const (.int .i64 4))), none⟩]) .ret) .skip)) (.seq (.region [⟨(some 28), (.load true 3 (.tmp 10)), none⟩, ⟨(some 29), (.mv (.tmp 3)), none⟩, ⟨(some 30), (.call (.const (.func 93 [] [])) [(.tmp 28), (.tmp 29)]), none⟩, ⟨(some 8), (.mv (.tmp 30)), none⟩, ⟨(some 9), (.mv (.const (.int .i64 0))), none⟩]) .ret))))))
/-- skyfix/skyfixref08.Run -/
def B82 : ABody := (.mk 4 31 [(.tmp 8), (.tmp 9)] (.seq (.region [⟨(some 8), (.mv (.const .nilslice)), none⟩, ⟨(some 9), (.mv (.const (.int .i64 0))), none⟩]) (.seq (.seq (.region [⟨(some 11), (.mv (.tmp 0)), none⟩, ⟨(some 12), (.mv (.tmp 1)), none⟩, ⟨(some 13), (.mv (.tmp 2)), none⟩, ⟨(some 14), (.call (.const (.func 94 [] [])) [(.tmp 11), (.tmp 12), (.tmp 13)]), none⟩, ⟨(some 10), (.mv (.tmp 14)), none⟩]) (.seq (.region [⟨(some 15), (.mv (.tmp 10)), none⟩, ⟨(some 16), (.bin .neq (.tmp 15) (.const (.int .i64 0))), none⟩]) (.cond (.tmp 16) (.seq (.region [⟨(some 17), (.mv (.tmp 10)), none⟩, ⟨(some 8), (.mv (.const .nilslice)), none⟩, ⟨(some 9), (.mv (.tmp 17)), none⟩]) .ret) .skip))) (.seq (.seq (.region [⟨(some 18), (.mv (.tmp 3)), none⟩, ⟨(some 19), (.bin .lss (.tmp 18) (.const (.int .i64 0))), none⟩, ⟨(some 20), (.mv (.tmp 19)), none⟩, ⟨(some 21), (.mv (.tmp 3)), (some (20, false))⟩, ⟨(some 22), (.bin .gtr (.tmp 21) (.const (.int .i64 100000))), (some (20, false))⟩, ⟨(some 23), (.pick (.tmp 20) (.const (.bool true)) (.tmp 22)), none⟩]) (.cond (.tmp 23) (.seq (.region [⟨(some 8), (.mv (.const .nilslice)), none⟩, ⟨(some 9), (.mv (.const (.int .i64 4))), none⟩]) .ret) .skip)) (.seq (.region [⟨(some 24), (.mv (.tmp 0)), none⟩, ⟨(some 25), (.mv (.tmp 1)), none⟩, ⟨(some 26), (.mv (.tmp 2)), none⟩, ⟨(some 27), (.mv (.tmp 3)), none⟩, ⟨(some 28), (.call (.const (.func 91 [] [])) [(.tmp 24), (.tmp 25), (.tmp 26), (.tmp 27)]), none⟩, ⟨(some 29), (.mv (.tmp 3)), none⟩, ⟨(some 30), (.slice 1 (.tmp 28) none (some (.tmp 29)) none), none⟩, ⟨(some 8), (.mv (.tmp 30)), none⟩, ⟨(some 9), (.mv (.const (.int .i64 0))), none⟩]) .ret)))))
/-- skyfix/gold.Period -/
def B83 : ABody := (.mk 3 34 [(.tmp 6), (.tmp 7)] (.seq (.region [⟨(some 6), (.mv (.const (.int .i64 0))), none⟩, ⟨(some 7), (.mv (.const (.int .i64 0))), none⟩]) (.seq (.region [⟨(some 14), (.mv (.tmp 0)), none⟩, ⟨(some 15), (.mv (.tmp 1)), none⟩, ⟨(some 16), (.mv (.tmp 2)), none⟩, ⟨(some 17), (.call (.const (.func 92 [] [])) [(.tmp 14), (.tmp 15), (.tmp 16)]), none⟩, ⟨(some 13), (.mv (.tmp 17)), none⟩, ⟨(some 18), (.extract (.tmp 13) 0), none⟩, ⟨(some 19), (.extract (.tmp 13) 1), none⟩, ⟨(some 8), (.alloc [(.int .i64 0), (.int .u32 0), (.int .u32 0)]), none⟩, ⟨none, (.store 3 (.tmp 8) (.tmp 18)), none⟩, ⟨(some 9), (.mv (.tmp 19)), none⟩]) (.seq (.seq (.region [⟨(some 20), (.mv (.tmp 9)), none⟩, ⟨(some 21), (.bin .neq (.tmp 20) (.const (.int .i64 0))), none⟩]) (.cond (.tmp 21) (.seq (.region [⟨(some 22), (.mv (.tmp 9)), none⟩, ⟨(some 6), (.mv (.const (.int .i64 0))), none⟩, ⟨(some 7), (.mv (.tmp 22)), none⟩]) .ret) .skip)) (.seq (.region [⟨(some 10), (.alloc [(.int .i64 0)]), none⟩, ⟨none, (.store 1 (.tmp 10) (.const (.int .i64 0))), none⟩]) (.seq (.seq (.region [⟨(some 23), (.load true 3 (.tmp 8)), none⟩, ⟨(some 24), (.call (.const (.func 95 [] [])) [(.tmp 23)]), none⟩]) (.block 0 (.rangeFunc (.tmp 24) [25, 26] (.region [⟨(some 12), (.mv (.tmp 26)), none⟩]) (.block 1 (.seq (.region [⟨(some 27), (.load false 1 (.tmp 10)), none⟩, ⟨(some 28), (.bin .add (.tmp 27) (.const (.int .i64 1))), none⟩, ⟨none, (.store 1 (.tmp 10) (.tmp 28)), none⟩]) (.seq (.region [⟨(some 29), (.mv (.tmp 12)), none⟩, ⟨(some 30), (.fieldAddr 1 (.tmp 8)), none⟩, ⟨(some 31), (.load false 1 (.tmp 30)), none⟩, ⟨(some 32), (.bin .eql (.tmp 29) (.tmp 31)), none⟩]) (.cond (.tmp 32) (.exit 0) .skip))))))) (.seq (.region [⟨(some 33), (.load false 1 (.tmp 10)), none⟩, ⟨(some 6), (.mv (.tmp 33)), none⟩, ⟨(some 7), (.mv (.const (.int .i64 0))), none⟩]) .ret)))))))
/-- skyfix/skyfixref08.Period -/
def B84 : ABody := (.mk 3 51 [(.tmp 6), (.tmp 7)] (.seq (.region [⟨(some 6), (.mv (.const (.int .i64 0))), none⟩, ⟨(some 7), (.mv (.const (.int .i64 0))), none⟩]) (.seq (.seq (.region [⟨(some 13), (.mv (.tmp 0)), none⟩, ⟨(some 14), (.mv (.tmp 1)), none⟩, ⟨(some 15), (.mv (.tmp 2)), none⟩, ⟨(some 16), (.call (.const (.func 94 [] [])) [(.tmp 13), (.tmp 14), (.tmp 15)]), none⟩, ⟨(some 8), (.mv (.tmp 16)), none⟩]) (.seq (.region [⟨(some 17), (.mv (.tmp 8)), none⟩, ⟨(some 18), (.bin .neq (.tmp 17) (.const (.int .i64 0))), none⟩]) (.cond (.tmp 18) (.seq (.region [⟨(some 19), (.mv (.tmp 8)), none⟩, ⟨(some 6), (.mv (.const (.int .i64 0))), none⟩, ⟨(some 7), (.mv (.tmp 19)), none⟩]) .ret) .skip))) (.seq (.region [⟨(some 20), (.mv (.tmp 0)), none⟩, ⟨(some 21), (.mv (.tmp 1)), none⟩, ⟨(some 22), (.mv (.tmp 2)), none⟩, ⟨(some 23), (.mv (.tmp 0)), none⟩, ⟨(some 24), (.bin .shl (.const (.int .i64 1)) (.tmp 23)), none⟩, ⟨(some 25), (.mv (.tmp 0)), none⟩, ⟨(some 26), (.bin .add (.tmp 24) (.tmp 25)), none⟩, ⟨(some 27), (.call (.const (.func 91 [] [])) [(.tmp 20), (.tmp 21), (.tmp 22), (.tmp 26)]), none⟩, ⟨(some 9), (.mv (.tmp 27)), none⟩]) (.seq (.region [⟨(some 10), (.mv (.const (.int .i64 1))), none⟩]) (.block 0 (.loop (.seq (.block 1 (.seq (.region [⟨(some 11), (.mv (.const (.bool true))), none⟩]) (.seq (.seq (.region [⟨(some 12), (.mv (.const (.int .i64 0))), none⟩]) (.block 2 (.loop (.seq (.seq (.region [⟨(some 30), (.mv (.tmp 12)), none⟩, ⟨(some 31), (.mv (.tmp 0)), none⟩, ⟨(some 32), (.bin .lss (.tmp 30) (.tmp 31)), none⟩]) (.cond (.tmp 32) .skip (.exit 2))) (.seq (.block 3 (.draw 0 [⟨0, false, [], ⟨(some 35), (.mv (.tmp 11)), none⟩⟩, ⟨1, false, [], ⟨(some 36), (.mv (.tmp 35)), none⟩⟩, ⟨2, false, [], ⟨(some 37), (.mv (.tmp 9)), (some (36, true))⟩⟩, ⟨3, false, [], ⟨(some 38), (.mv (.tmp 10)), (some (36, true))⟩⟩, ⟨4, false, [], ⟨(some 39), (.mv (.tmp 12)), (some (36, true))⟩⟩, ⟨5, false, [], ⟨(some 40), (.bin .add (.tmp 38) (.tmp 39)), (some (36, true))⟩⟩, ⟨6, false, [], ⟨(some 41), (.indexAddr 1 (.tmp 37) (.tmp 40)), (some (36, true))⟩⟩, ⟨8, false, [], ⟨(some 43), (.mv (.tmp 2)), (some (36, true))⟩⟩, ⟨9, false, [], ⟨(some 44), (.mv (.tmp 12)), (some (36, true))⟩⟩, ⟨10, false, [], ⟨(some 45), (.indexAddr 1 (.tmp 43) (.tmp 44)), (some (36, true))⟩⟩, ⟨7, false, [], ⟨(some 42), (.load false 1 (.tmp 41)), (some (36, true))⟩⟩, ⟨11, false, [], ⟨(some 46), (.load false 1 (.tmp 45)), (some (36, true))⟩⟩, ⟨12, false, [], ⟨(some 47), (.bin .eql (.tmp 42) (.tmp 46)), (some (36, true))⟩⟩, ⟨13, false, [], ⟨(some 48), (.pick (.tmp 36) (.tmp 47) (.const (.bool false))), none⟩⟩, ⟨14, false, [], ⟨(some 11), (.mv (.tmp 48)), none⟩⟩])) (.region [⟨(some 33), (.mv (.tmp 12)), none⟩, ⟨(some 34), (.bin .add (.tmp 33) (.const (.int .i64 1))), none⟩, ⟨(some 12), (.mv (.tmp 34)), none⟩])))))) (.seq (.region [⟨(some 49), (.mv (.tmp 11)), none⟩]) (.cond (.tmp 49) (.seq (.region [⟨(some 50), (.mv (.tmp 10)), none⟩, ⟨(some 6), (.mv (.tmp 50)), none⟩, ⟨(some 7), (.mv (.const (.int .i64 0))), none⟩]) .ret) .skip))))) (.region [⟨(some 28), (.mv (.tmp 10)), none⟩, ⟨(some 29), (.bin .add (.tmp 28) (.const (.int .i64 1))), none⟩, ⟨(some 10), (.mv (.tmp 29)), none⟩])))))))))
/-- slices.Contains[[]int,int] -/
def B89 : ABody := (.mk 2 9 [(.tmp 4)] (.seq (.region [⟨(some 4), (.mv (.const (.bool false))), none⟩]) (.seq (.region [⟨(some 5), (.mv (.tmp 0)), none⟩, ⟨(some 6), (.mv (.tmp 1)), none⟩, ⟨(some 7), (.call (.const (.func 99 [] [])) [(.tmp 5), (.tmp 6)]), none⟩, ⟨(some 8), (.bin .geq (.tmp 7) (.const (.int .i64 0))), none⟩, ⟨(some 4), (.mv (.tmp 8)), none⟩]) .ret)))
/-- slices.Repeat[[]int,int] -/
def B90 : ABody := (.mk 2 48 [(.tmp 4)] (.seq (.region [⟨(some 4), (.mv (.const .nilslice)), none⟩]) (.seq (.seq (.region [⟨(some 9), (.mv (.tmp 1)), none⟩, ⟨(some 10), (.bin .lss (.tmp 9) (.const (.int .i64 0))), none⟩]) (.cond (.tmp 10) (.region [⟨none, (.refuse ""), none⟩, ⟨none, (.refuse ""), none⟩]) .skip)) (.seq (.region [⟨(some 13), (.mv (.tmp 0)), none⟩, ⟨(some 14), (.len (.tmp 13)), none⟩, ⟨(some 15), (.conv .u64 (.tmp 14)), none⟩, ⟨(some 16), (.mv (.tmp 1)), none⟩, ⟨(some 17), (.conv .u64 (.tmp 16)), none⟩, ⟨(some 18), (.call (.const (.func 100 [] [])) [(.tmp 15), (.tmp 17)]), none⟩, ⟨(some 12), (.mv (.tmp 18)), none⟩, ⟨(some 19), (.extract (.tmp 12) 0), none⟩, ⟨(some 20), (.extract (.tmp 12) 1), none⟩, ⟨(some 5), (.mv (.tmp 19)), none⟩, ⟨(some 6), (.mv (.tmp 20)), none⟩]) (.seq (.seq (.region [⟨(some 21), (.mv (.tmp 5)), none⟩, ⟨(some 22), (.bin .gtr (.tmp 21) (.const (.int .u64 0))), none⟩, ⟨(some 23), (.mv (.tmp 22)), none⟩, ⟨(some 24), (.mv (.tmp 6)), (some (23, false))⟩, ⟨(some 25), (.bin .gtr (.tmp 24) (.const (.int .u64 9223372036854775807))), (some (23, false))⟩, ⟨(some 26), (.pick (.tmp 23) (.const (.bool true)) (.tmp 25)), none⟩]) (.cond (.tmp 26) (.region [⟨none, (.refuse ""), none⟩, ⟨none, (.refuse ""), none⟩]) .skip)) (.seq (.region [⟨(some 28), (.mv (.tmp 6)), none⟩, ⟨(some 29), (.conv .i64 (.tmp 28)), none⟩, ⟨(some 30), (.makeSlice [(.int .i64 0)] 8 (.tmp 29) (.tmp 29)), none⟩, ⟨(some 7), (.mv (.tmp 30)), none⟩]) (.seq (.region [⟨(some 31), (.mv (.tmp 7)), none⟩, ⟨(some 32), (.mv (.tmp 0)), none⟩, ⟨(some 33), (.copy 1 (.tmp 31) (.tmp 32)), none⟩, ⟨(some 8), (.mv (.tmp 33)), none⟩]) (.seq (.block 0 (.loop (.seq (.seq (.region [⟨(some 34), (.mv (.tmp 8)), none⟩, ⟨(some 35), (.mv (.tmp 7)), none⟩, ⟨(some 36), (.len (.tmp 35)), none⟩, ⟨(some 37), (.bin .lss (.tmp 34) (.tmp 36)), none⟩]) (.cond (.tmp 37) .skip (.exit 0))) (.block 1 (.draw 10 [⟨0, false, [], ⟨(some 38), (.mv (.tmp 8)), none⟩⟩, ⟨1, false, [], ⟨(some 39), (.mv (.tmp 7)), none⟩⟩, ⟨2, false, [], ⟨(some 40), (.mv (.tmp 8)), none⟩⟩, ⟨4, false, [], ⟨(some 42), (.mv (.tmp 7)), none⟩⟩, ⟨5, false, [], ⟨(some 43), (.mv (.tmp 8)), none⟩⟩, ⟨3, false, [], ⟨(some 41), (.slice 1 (.tmp 39) (some (.tmp 40)) none none), none⟩⟩, ⟨6, false, [], ⟨(some 44), (.slice 1 (.tmp 42) none (some (.tmp 43)) none), none⟩⟩, ⟨7, false, [], ⟨(some 45), (.copy 1 (.tmp 41) (.tmp 44)), none⟩⟩, ⟨8, false, [], ⟨(some 46), (.bin .add (.tmp 38) (.tmp 45)), none⟩⟩, ⟨9, false, [], ⟨(some 8), (.mv (.tmp 46)), none⟩⟩]))))) (.seq (.region [⟨(some 47), (.mv (.tmp 7)), none⟩, ⟨(some 4), (.mv (.tmp 47)), none⟩]) .ret)))))))))
/-- skyfix/skyfixref08.run -/
def B91 : ABody := (.mk 4 44 [(.tmp 8)] (.seq (.region [⟨(some 8), (.mv (.const .nilslice)), none⟩]) (.seq (.region [⟨(some 13), (.buildSlice 0 [] []), none⟩, ⟨(some 14), (.mv (.tmp 2)), none⟩, ⟨(some 15), (.append 1 8 (.tmp 13) (.tmp 14)), none⟩, ⟨(some 9), (.mv (.tmp 15)), none⟩]) (.seq (.seq (.region [⟨(some 10), (.mv (.const (.int .i64 0))), none⟩]) (.block 0 (.loop (.seq (.seq (.region [⟨(some 16), (.mv (.tmp 9)), none⟩, ⟨(some 17), (.len (.tmp 16)), none⟩, ⟨(some 18), (.mv (.tmp 3)), none⟩, ⟨(some 19), (.bin .lss (.tmp 17) (.tmp 18)), none⟩]) (.cond (.tmp 19) .skip (.exit 0))) (.seq (.block 1 (.seq (.region [⟨(some 11), (.mv (.const (.int .i64 0))), none⟩]) (.seq (.seq (.region [⟨(some 12), (.mv (.const (.int .i64 0))), none⟩]) (.block 2 (.loop (.seq (.seq (.region [⟨(some 22), (.mv (.tmp 12)), none⟩, ⟨(some 23), (.mv (.tmp 1)), none⟩, ⟨(some 24), (.len (.tmp 23)), none⟩, ⟨(some 25), (.bin .lss (.tmp 22) (.tmp 24)), none⟩]) (.cond (.tmp 25) .skip (.exit 2))) (.seq (.block 3 (.region [⟨(some 28), (.mv (.tmp 11)), none⟩, ⟨(some 29), (.mv (.tmp 9)), none⟩, ⟨(some 30), (.mv (.tmp 10)), none⟩, ⟨(some 31), (.mv (.tmp 1)), none⟩, ⟨(some 32), (.mv (.tmp 12)), none⟩, ⟨(some 33), (.indexAddr 1 (.tmp 31) (.tmp 32)), none⟩, ⟨(some 34), (.load false 1 (.tmp 33)), none⟩, ⟨(some 35), (.bin .add (.tmp 30) (.tmp 34)), none⟩, ⟨(some 36), (.indexAddr 1 (.tmp 29) (.tmp 35)), none⟩, ⟨(some 37), (.load false 1 (.tmp 36)), none⟩, ⟨(some 38), (.bin .xor (.tmp 28) (.tmp 37)), none⟩, ⟨(some 11), (.mv (.tmp 38)), none⟩])) (.region [⟨(some 26), (.mv (.tmp 12)), none⟩, ⟨(some 27), (.bin .add (.tmp 26) (.const (.int .i64 1))), none⟩, ⟨(some 12), (.mv (.tmp 27)), none⟩])))))) (.region [⟨(some 39), (.mv (.tmp 9)), none⟩, ⟨(some 40), (.mv (.tmp 11)), none⟩, ⟨(some 41), (.buildSlice 1 [(.int .i64 0)] [(0, (1, (.tmp 40)))]), none⟩, ⟨(some 42), (.append 1 8 (.tmp 39) (.tmp 41)), none⟩, ⟨(some 9), (.mv (.tmp 42)), none⟩])))) (.region [⟨(some 20), (.mv (.tmp 10)), none⟩, ⟨(some 21), (.bin .add (.tmp 20) (.const (.int .i64 1))), none⟩, ⟨(some 10), (.mv (.tmp 21)), none⟩])))))) (.seq (.region [⟨(some 43), (.mv (.tmp 9)), none⟩, ⟨(some 8), (.mv (.tmp 43)), none⟩]) .ret)))))
/-- skyfix/gold.made -/
def B92 : ABody := (.mk 3 86 [(.cell 6 true 3), (.tmp 7)] (.seq (.region [⟨(some 6), (.alloc [(.int .i64 0), (.int .u32 0), (.int .u32 0)]), none⟩, ⟨(some 7), (.mv (.const (.int .i64 0))), none⟩]) (.seq (.seq (.region [⟨(some 14), (.mv (.tmp 0)), none⟩, ⟨(some 15), (.bin .lss (.tmp 14) (.const (.int .i64 2))), none⟩, ⟨(some 16), (.mv (.tmp 15)), none⟩, ⟨(some 17), (.mv (.tmp 0)), (some (16, false))⟩, ⟨(some 18), (.bin .gtr (.tmp 17) (.const (.int .i64 16))), (some (16, false))⟩, ⟨(some 19), (.pick (.tmp 16) (.const (.bool true)) (.tmp 18)), none⟩]) (.cond (.tmp 19) (.seq (.region [⟨(some 20), (.build [(.int .i64 0), (.int .u32 0), (.int .u32 0)] []), none⟩, ⟨none, (.store 3 (.tmp 6) (.tmp 20)), none⟩, ⟨(some 7), (.mv (.const (.int .i64 2))), none⟩]) .ret) .skip)) (.seq (.seq (.region [⟨(some 21), (.mv (.tmp 1)), none⟩, ⟨(some 22), (.len (.tmp 21)), none⟩, ⟨(some 23), (.bin .eql (.tmp 22) (.const (.int .i64 0))), none⟩, ⟨(some 24), (.mv (.tmp 23)), none⟩, ⟨(some 25), (.mv (.tmp 1)), (some (24, false))⟩, ⟨(some 26), (.indexAddr 1 (.tmp 25) (.const (.int .i64 0))), (some (24, false))⟩, ⟨(some 27), (.load false 1 (.tmp 26)), (some (24, false))⟩, ⟨(some 28), (.bin .neq (.tmp 27) (.const (.int .i64 0))), (some (24, false))⟩, ⟨(some 29), (.pick (.tmp 24) (.const (.bool true)) (.tmp 28)), none⟩, ⟨(some 30), (.mv (.tmp 29)), none⟩, ⟨(some 31), (.mv (.tmp 2)), (some (30, false))⟩, ⟨(some 32), (.len (.tmp 31)), (some (30, false))⟩, ⟨(some 33), (.mv (.tmp 0)), (some (30, false))⟩, ⟨(some 34), (.bin .neq (.tmp 32) (.tmp 33)), (some (30, false))⟩, ⟨(some 35), (.pick (.tmp 30) (.const (.bool true)) (.tmp 34)), none⟩]) (.cond (.tmp 35) (.seq (.region [⟨(some 36), (.build [(.int .i64 0), (.int .u32 0), (.int .u32 0)] []), none⟩, ⟨none, (.store 3 (.tmp 6) (.tmp 36)), none⟩, ⟨(some 7), (.mv (.const (.int .i64 3))), none⟩]) .ret) .skip)) (.seq (.region [⟨(some 37), (.mv (.tmp 0)), none⟩, ⟨(some 38), (.build [(.int .i64 0), (.int .u32 0), (.int .u32 0)] [(0, (1, (.tmp 37)))]), none⟩, ⟨(some 8), (.alloc [(.int .i64 0), (.int .u32 0), (.int .u32 0)]), none⟩, ⟨none, (.store 3 (.tmp 8) (.tmp 38)), none⟩]) (.seq (.region [⟨(some 9), (.mv (.const (.int .i64 (-1)))), none⟩]) (.seq (.seq (.region [⟨(some 39), (.mv (.tmp 1)), none⟩, ⟨(some 40), (.len (.tmp 39)), none⟩, ⟨(some 41), (.mv (.const (.int .i64 0))), none⟩]) (.block 0 (.loop (.seq (.region [⟨(some 42), (.bin .lss (.tmp 41) (.tmp 40)), none⟩]) (.seq (.cond (.tmp 42) .skip (.exit 0)) (.seq (.block 1 (.seq (.region [⟨(some 43), (.indexAddr 1 (.tmp 39) (.tmp 41)), none⟩, ⟨(some 44), (.load false 1 (.tmp 43)), none⟩, ⟨(some 11), (.mv (.tmp 44)), none⟩]) (.seq (.seq (.region [⟨(some 45), (.mv (.tmp 11)), none⟩, ⟨(some 46), (.mv (.tmp 9)), none⟩, ⟨(some 47), (.bin .leq (.tmp 45) (.tmp 46)), none⟩, ⟨(some 48), (.mv (.tmp 47)), none⟩, ⟨(some 49), (.mv (.tmp 11)), (some (48, false))⟩, ⟨(some 50), (.mv (.tmp 0)), (some (48, false))⟩, ⟨(some 51), (.bin .geq (.tmp 49) (.tmp 50)), (some (48, false))⟩, ⟨(some 52), (.pick (.tmp 48) (.const (.bool true)) (.tmp 51)), none⟩]) (.cond (.tmp 52) (.seq (.region [⟨(some 53), (.build [(.int .i64 0), (.int .u32 0), (.int .u32 0)] []), none⟩, ⟨none, (.store 3 (.tmp 6) (.tmp 53)), none⟩, ⟨(some 7), (.mv (.const (.int .i64 3))), none⟩]) .ret) .skip)) (.seq (.region [⟨(some 54), (.mv (.tmp 11)), none⟩, ⟨(some 9), (.mv (.tmp 54)), none⟩]) (.draw 0 [⟨0, false, [], ⟨(some 55), (.fieldAddr 2 (.tmp 8)), none⟩⟩, ⟨2, false, [], ⟨(some 57), (.mv (.tmp 11)), none⟩⟩, ⟨3, false, [], ⟨(some 58), (.bin .shl (.const (.int .u32 1)) (.tmp 57)), none⟩⟩, ⟨1, false, [], ⟨(some 56), (.load false 1 (.tmp 55)), none⟩⟩, ⟨4, false, [], ⟨(some 59), (.bin .or (.tmp 56) (.tmp 58)), none⟩⟩, ⟨5, false, [], ⟨(some 60), (.fieldAddr 2 (.tmp 8)), none⟩⟩, ⟨6, false, [], ⟨none, (.store 1 (.tmp 60) (.tmp 59)), none⟩⟩]))))) (.region [⟨(some 61), (.bin .add (.tmp 41) (.const (.int .i64 1))), none⟩, ⟨(some 41), (.mv (.tmp 61)), none⟩]))))))) (.seq (.seq (.region [⟨(some 62), (.mv (.tmp 2)), none⟩, ⟨(some 63), (.len (.tmp 62)), none⟩, ⟨(some 64), (.mv (.const (.int .i64 0))), none⟩]) (.block 2 (.loop (.seq (.region [⟨(some 65), (.bin .lss (.tmp 64) (.tmp 63)), none⟩]) (.seq (.cond (.tmp 65) .skip (.exit 2)) (.seq (.block 3 (.seq (.region [⟨(some 66), (.mv (.tmp 64)), none⟩, ⟨(some 67), (.indexAddr 1 (.tmp 62) (.tmp 64)), none⟩, ⟨(some 68), (.load false 1 (.tmp 67)), none⟩, ⟨(some 12), (.mv (.tmp 66)), none⟩, ⟨(some 13), (.mv (.tmp 68)), none⟩]) (.seq (.seq (.region [⟨(some 69), (.mv (.tmp 13)), none⟩, ⟨(some 70), (.bin .neq (.tmp 69) (.const (.int .i64 0))), none⟩, ⟨(some 71), (.mv (.tmp 70)), none⟩, ⟨(some 72), (.mv (.tmp 13)), (some (71, true))⟩, ⟨(some 73), (.bin .neq (.tmp 72) (.const (.int .i64 1))), (some (71, true))⟩, ⟨(some 74), (.pick (.tmp 71) (.tmp 73) (.const (.bool false))), none⟩]) (.cond (.tmp 74) (.seq (.region [⟨(some 75), (.build [(.int .i64 0), (.int .u32 0), (.int .u32 0)] []), none⟩, ⟨none, (.store 3 (.tmp 6) (.tmp 75)), none⟩, ⟨(some 7), (.mv (.const (.int .i64 3))), none⟩]) .ret) .skip)) (.draw 0 [⟨0, false, [], ⟨(some 76), (.fieldAddr 1 (.tmp 8)), none⟩⟩, ⟨2, false, [], ⟨(some 78), (.mv (.tmp 13)), none⟩⟩, ⟨3, false, [], ⟨(some 79), (.conv .u32 (.tmp 78)), none⟩⟩, ⟨4, false, [], ⟨(some 80), (.mv (.tmp 12)), none⟩⟩, ⟨5, false, [], ⟨(some 81), (.bin .shl (.tmp 79) (.tmp 80)), none⟩⟩, ⟨1, false, [], ⟨(some 77), (.load false 1 (.tmp 76)), none⟩⟩, ⟨6, false, [], ⟨(some 82), (.bin .or (.tmp 77) (.tmp 81)), none⟩⟩, ⟨7, false, [], ⟨(some 83), (.fieldAddr 1 (.tmp 8)), none⟩⟩, ⟨8, false, [], ⟨none, (.store 1 (.tmp 83) (.tmp 82)), none⟩⟩])))) (.region [⟨(some 84), (.bin .add (.tmp 64) (.const (.int .i64 1))), none⟩, ⟨(some 64), (.mv (.tmp 84)), none⟩]))))))) (.seq (.region [⟨(some 85), (.load true 3 (.tmp 8)), none⟩, ⟨none, (.store 3 (.tmp 6) (.tmp 85)), none⟩, ⟨(some 7), (.mv (.const (.int .i64 0))), none⟩]) .ret)))))))))
/-- (skyfix/gold.register).first -/
def B93 : ABody := (.mk 2 22 [(.tmp 4)] (.seq (.region [⟨(some 2), (.box (.tmp 0)), none⟩, ⟨(some 3), (.box (.tmp 1)), none⟩, ⟨(some 4), (.mv (.const .nilslice)), none⟩]) (.seq (.region [⟨(some 7), (.load false 1 (.tmp 3)), none⟩, ⟨(some 8), (.makeSlice [(.int .i64 0)] 8 (.const (.int .i64 0)) (.tmp 7)), none⟩, ⟨(some 5), (.alloc [.nilslice]), none⟩, ⟨none, (.store 1 (.tmp 5) (.tmp 8)), none⟩]) (.seq (.seq (.region [⟨(some 9), (.load true 3 (.tmp 2)), none⟩, ⟨(some 10), (.call (.const (.func 95 [] [])) [(.tmp 9)]), none⟩]) (.block 0 (.rangeFunc (.tmp 10) [11, 12] (.region [⟨(some 6), (.mv (.tmp 11)), none⟩]) (.block 1 (.seq (.seq (.region [⟨(some 13), (.load false 1 (.tmp 5)), none⟩, ⟨(some 14), (.len (.tmp 13)), none⟩, ⟨(some 15), (.load false 1 (.tmp 3)), none⟩, ⟨(some 16), (.bin .eql (.tmp 14) (.tmp 15)), none⟩]) (.cond (.tmp 16) (.exit 0) .skip)) (.region [⟨(some 17), (.load false 1 (.tmp 5)), none⟩, ⟨(some 18), (.mv (.tmp 6)), none⟩, ⟨(some 19), (.buildSlice 1 [(.int .i64 0)] [(0, (1, (.tmp 18)))]), none⟩, ⟨(some 20), (.append 1 8 (.tmp 17) (.tmp 19)), none⟩, ⟨none, (.store 1 (.tmp 5) (.tmp 20)), none⟩])))))) (.seq (.region [⟨(some 21), (.load false 1 (.tmp 5)), none⟩, ⟨(some 4), (.mv (.tmp 21)), none⟩]) .ret)))))
/-- skyfix/skyfixref08.check -/
def B94 : ABody := (.mk 3 80 [(.tmp 6)] (.seq (.region [⟨(some 6), (.mv (.const (.int .i64 0))), none⟩]) (.seq (.seq (.region [⟨(some 9), (.mv (.tmp 0)), none⟩, ⟨(some 10), (.bin .lss (.tmp 9) (.const (.int .i64 2))), none⟩, ⟨(some 11), (.mv (.tmp 10)), none⟩, ⟨(some 12), (.mv (.tmp 0)), (some (11, false))⟩, ⟨(some 13), (.bin .gtr (.tmp 12) (.const (.int .i64 16))), (some (11, false))⟩, ⟨(some 14), (.pick (.tmp 11) (.const (.bool true)) (.tmp 13)), none⟩]) (.cond (.tmp 14) (.seq (.region [⟨(some 6), (.mv (.const (.int .i64 2))), none⟩]) .ret) .skip)) (.seq (.seq (.region [⟨(some 15), (.mv (.tmp 1)), none⟩, ⟨(some 16), (.len (.tmp 15)), none⟩, ⟨(some 17), (.bin .lss (.tmp 16) (.const (.int .i64 1))), none⟩, ⟨(some 18), (.mv (.tmp 17)), none⟩, ⟨(some 19), (.mv (.tmp 1)), (some (18, false))⟩, ⟨(some 20), (.indexAddr 1 (.tmp 19) (.const (.int .i64 0))), (some (18, false))⟩, ⟨(some 21), (.load false 1 (.tmp 20)), (some (18, false))⟩, ⟨(some 22), (.bin .neq (.tmp 21) (.const (.int .i64 0))), (some (18, false))⟩, ⟨(some 23), (.pick (.tmp 18) (.const (.bool true)) (.tmp 22)), none⟩]) (.cond (.tmp 23) (.seq (.region [⟨(some 6), (.mv (.const (.int .i64 3))), none⟩]) .ret) .skip)) (.seq (.seq (.region [⟨(some 7), (.mv (.const (.int .i64 0))), none⟩]) (.block 0 (.loop (.seq (.seq (.region [⟨(some 24), (.mv (.tmp 7)), none⟩, ⟨(some 25), (.mv (.tmp 1)), none⟩, ⟨(some 26), (.len (.tmp 25)), none⟩, ⟨(some 27), (.bin .lss (.tmp 24) (.tmp 26)), none⟩]) (.cond (.tmp 27) .skip (.exit 0))) (.seq (.block 1 (.seq (.draw 0 [⟨0, false, [], ⟨(some 30), (.mv (.tmp 1)), none⟩⟩, ⟨1, false, [], ⟨(some 31), (.mv (.tmp 7)), none⟩⟩, ⟨2, false, [], ⟨(some 32), (.indexAddr 1 (.tmp 30) (.tmp 31)), none⟩⟩, ⟨3, false, [], ⟨(some 33), (.load false 1 (.tmp 32)), none⟩⟩, ⟨4, false, [], ⟨(some 34), (.bin .lss (.tmp 33) (.const (.int .i64 0))), none⟩⟩, ⟨5, false, [], ⟨(some 35), (.mv (.tmp 34)), none⟩⟩, ⟨6, false, [], ⟨(some 36), (.mv (.tmp 1)), (some (35, false))⟩⟩, ⟨7, false, [], ⟨(some 37), (.mv (.tmp 7)), (some (35, false))⟩⟩, ⟨8, false, [], ⟨(some 38), (.indexAddr 1 (.tmp 36) (.tmp 37)), (some (35, false))⟩⟩, ⟨10, false, [], ⟨(some 40), (.mv (.tmp 0)), (some (35, false))⟩⟩, ⟨9, false, [], ⟨(some 39), (.load false 1 (.tmp 38)), (some (35, false))⟩⟩, ⟨11, false, [], ⟨(some 41), (.bin .geq (.tmp 39) (.tmp 40)), (some (35, false))⟩⟩, ⟨12, false, [], ⟨(some 42), (.pick (.tmp 35) (.const (.bool true)) (.tmp 41)), none⟩⟩, ⟨13, false, [], ⟨(some 43), (.mv (.tmp 42)), none⟩⟩, ⟨14, false, [], ⟨(some 44), (.mv (.tmp 7)), (some (43, false))⟩⟩, ⟨15, false, [], ⟨(some 45), (.bin .gtr (.tmp 44) (.const (.int .i64 0))), (some (43, false))⟩⟩, ⟨16, false, [], ⟨(some 46), (.mv (.tmp 45)), (some (43, false))⟩⟩, ⟨17, false, [], ⟨(some 47), (.mv (.tmp 1)), (some (46, true))⟩⟩, ⟨18, false, [], ⟨(some 48), (.mv (.tmp 7)), (some (46, true))⟩⟩, ⟨19, false, [], ⟨(some 49), (.indexAddr 1 (.tmp 47) (.tmp 48)), (some (46, true))⟩⟩, ⟨21, false, [], ⟨(some 51), (.mv (.tmp 1)), (some (46, true))⟩⟩, ⟨22, false, [], ⟨(some 52), (.mv (.tmp 7)), (some (46, true))⟩⟩, ⟨23, false, [], ⟨(some 53), (.bin .sub (.tmp 52) (.const (.int .i64 1))), (some (46, true))⟩⟩, ⟨24, false, [], ⟨(some 54), (.indexAddr 1 (.tmp 51) (.tmp 53)), (some (46, true))⟩⟩, ⟨20, false, [], ⟨(some 50), (.load false 1 (.tmp 49)), (some (46, true))⟩⟩, ⟨25, false, [], ⟨(some 55), (.load false 1 (.tmp 54)), (some (46, true))⟩⟩, ⟨26, false, [], ⟨(some 56), (.bin .leq (.tmp 50) (.tmp 55)), (some (46, true))⟩⟩, ⟨27, false, [], ⟨(some 57), (.pick (.tmp 46) (.tmp 56) (.const (.bool false))), (some (43, false))⟩⟩, ⟨28, false, [], ⟨(some 58), (.pick (.tmp 43) (.const (.bool true)) (.tmp 57)), none⟩⟩]) (.cond (.tmp 58) (.seq (.region [⟨(some 6), (.mv (.const (.int .i64 3))), none⟩]) .ret) .skip))) (.region [⟨(some 28), (.mv (.tmp 7)), none⟩, ⟨(some 29), (.bin .add (.tmp 28) (.const (.int .i64 1))), none⟩, ⟨(some 7), (.mv (.tmp 29)), none⟩])))))) (.seq (.seq (.region [⟨(some 59), (.mv (.tmp 2)), none⟩, ⟨(some 60), (.len (.tmp 59)), none⟩, ⟨(some 61), (.mv (.tmp 0)), none⟩, ⟨(some 62), (.bin .neq (.tmp 60) (.tmp 61)), none⟩]) (.cond (.tmp 62) (.seq (.region [⟨(some 6), (.mv (.const (.int .i64 3))), none⟩]) .ret) .skip)) (.seq (.seq (.region [⟨(some 8), (.mv (.const (.int .i64 0))), none⟩]) (.block 2 (.loop (.seq (.seq (.region [⟨(some 63), (.mv (.tmp 8)), none⟩, ⟨(some 64), (.mv (.tmp 0)), none⟩, ⟨(some 65), (.bin .lss (.tmp 63) (.tmp 64)), none⟩]) (.cond (.tmp 65) .skip (.exit 2))) (.seq (.block 3 (.seq (.region [⟨(some 68), (.mv (.tmp 2)), none⟩, ⟨(some 69), (.mv (.tmp 8)), none⟩, ⟨(some 70), (.indexAddr 1 (.tmp 68) (.tmp 69)), none⟩, ⟨(some 71), (.load false 1 (.tmp 70)), none⟩, ⟨(some 72), (.bin .neq (.tmp 71) (.const (.int .i64 0))), none⟩, ⟨(some 73), (.mv (.tmp 72)), none⟩, ⟨(some 74), (.mv (.tmp 2)), (some (73, true))⟩, ⟨(some 75), (.mv (.tmp 8)), (some (73, true))⟩, ⟨(some 76), (.indexAddr 1 (.tmp 74) (.tmp 75)), (some (73, true))⟩, ⟨(some 77), (.load false 1 (.tmp 76)), (some (73, true))⟩, ⟨(some 78), (.bin .neq (.tmp 77) (.const (.int .i64 1))), (some (73, true))⟩, ⟨(some 79), (.pick (.tmp 73) (.tmp 78) (.const (.bool false))), none⟩]) (.cond (.tmp 79) (.seq (.region [⟨(some 6), (.mv (.const (.int .i64 3))), none⟩]) .ret) .skip))) (.region [⟨(some 66), (.mv (.tmp 8)), none⟩, ⟨(some 67), (.bin .add (.tmp 66) (.const (.int .i64 1))), none⟩, ⟨(some 8), (.mv (.tmp 67)), none⟩])))))) (.seq (.region [⟨(some 6), (.mv (.const (.int .i64 0))), none⟩]) .ret))))))))
/-- (skyfix/gold.register).bits -/
def B95 : ABody := (.mk 1 4 [(.tmp 2)] (.seq (.region [⟨(some 1), (.box (.tmp 0)), none⟩, ⟨(some 2), (.mv (.const .nilfunc)), none⟩]) (.seq (.region [⟨(some 3), (.mkfunc 101 [] [(.tmp 1)]), none⟩, ⟨(some 2), (.mv (.tmp 3)), none⟩]) .ret)))
/-- slices.Index[[]int,int] -/
def B99 : ABody := (.mk 2 19 [(.tmp 4)] (.seq (.region [⟨(some 4), (.mv (.const (.int .i64 0))), none⟩]) (.seq (.seq (.region [⟨(some 6), (.mv (.tmp 0)), none⟩, ⟨(some 7), (.len (.tmp 6)), none⟩, ⟨(some 8), (.mv (.const (.int .i64 0))), none⟩]) (.block 0 (.loop (.seq (.region [⟨(some 9), (.bin .lss (.tmp 8) (.tmp 7)), none⟩]) (.seq (.cond (.tmp 9) .skip (.exit 0)) (.seq (.block 1 (.seq (.region [⟨(some 10), (.mv (.tmp 8)), none⟩, ⟨(some 5), (.mv (.tmp 10)), none⟩]) (.seq (.region [⟨(some 11), (.mv (.tmp 1)), none⟩, ⟨(some 12), (.mv (.tmp 0)), none⟩, ⟨(some 13), (.mv (.tmp 5)), none⟩, ⟨(some 14), (.indexAddr 1 (.tmp 12) (.tmp 13)), none⟩, ⟨(some 15), (.load false 1 (.tmp 14)), none⟩, ⟨(some 16), (.bin .eql (.tmp 11) (.tmp 15)), none⟩]) (.cond (.tmp 16) (.seq (.region [⟨(some 17), (.mv (.tmp 5)), none⟩, ⟨(some 4), (.mv (.tmp 17)), none⟩]) .ret) .skip)))) (.region [⟨(some 18), (.bin .add (.tmp 8) (.const (.int .i64 1))), none⟩, ⟨(some 8), (.mv (.tmp 18)), none⟩]))))))) (.seq (.region [⟨(some 4), (.mv (.const (.int .i64 (-1)))), none⟩]) .ret))))
/-- math/bits.Mul -/
def B100 : ABody := (.mk 2 30 [(.tmp 4), (.tmp 5)] (.seq (.region [⟨(some 4), (.mv (.const (.int .u64 0))), none⟩, ⟨(some 5), (.mv (.const (.int .u64 0))), none⟩]) (.seq (.cond (.const (.bool false)) (.seq (.region [⟨(some 11), (.mv (.tmp 0)), none⟩, ⟨(some 12), (.conv .u32 (.tmp 11)), none⟩, ⟨(some 13), (.mv (.tmp 1)), none⟩, ⟨(some 14), (.conv .u32 (.tmp 13)), none⟩, ⟨(some 15), (.call (.const (.func 104 [] [])) [(.tmp 12), (.tmp 14)]), none⟩, ⟨(some 10), (.mv (.tmp 15)), none⟩, ⟨(some 16), (.extract (.tmp 10) 0), none⟩, ⟨(some 17), (.extract (.tmp 10) 1), none⟩, ⟨(some 6), (.mv (.tmp 16)), none⟩, ⟨(some 7), (.mv (.tmp 17)), none⟩]) (.seq (.region [⟨(some 18), (.mv (.tmp 6)), none⟩, ⟨(some 19), (.conv .u64 (.tmp 18)), none⟩, ⟨(some 20), (.mv (.tmp 7)), none⟩, ⟨(some 21), (.conv .u64 (.tmp 20)), none⟩, ⟨(some 4), (.mv (.tmp 19)), none⟩, ⟨(some 5), (.mv (.tmp 21)), none⟩]) .ret)) .skip) (.seq (.region [⟨(some 23), (.mv (.tmp 0)), none⟩, ⟨(some 24), (.mv (.tmp 1)), none⟩, ⟨(some 25), (.call (.const (.func 105 [] [])) [(.tmp 23), (.tmp 24)]), none⟩, ⟨(some 22), (.mv (.tmp 25)), none⟩, ⟨(some 26), (.extract (.tmp 22) 0), none⟩, ⟨(some 27), (.extract (.tmp 22) 1), none⟩, ⟨(some 8), (.mv (.tmp 26)), none⟩, ⟨(some 9), (.mv (.tmp 27)), none⟩]) (.seq (.region [⟨(some 28), (.mv (.tmp 8)), none⟩, ⟨(some 29), (.mv (.tmp 9)), none⟩, ⟨(some 4), (.mv (.tmp 28)), none⟩, ⟨(some 5), (.mv (.tmp 29)), none⟩]) .ret)))))
/-- (skyfix/gold.register).bits$1 -/
def B101 : ABody := (.mk 1 33 [] (.block 0 (.loop (.block 1 (.seq (.region [⟨(some 5), (.fieldAddr 1 (.tmp 1)), none⟩, ⟨(some 6), (.load false 1 (.tmp 5)), none⟩, ⟨(some 7), (.bin .and (.tmp 6) (.const (.int .u32 1))), none⟩, ⟨(some 8), (.conv .i64 (.tmp 7)), none⟩, ⟨(some 3), (.mv (.tmp 8)), none⟩]) (.seq (.region [⟨(some 9), (.fieldAddr 1 (.tmp 1)), none⟩, ⟨(some 10), (.load false 1 (.tmp 9)), none⟩, ⟨(some 11), (.fieldAddr 2 (.tmp 1)), none⟩, ⟨(some 12), (.load false 1 (.tmp 11)), none⟩, ⟨(some 13), (.bin .and (.tmp 10) (.tmp 12)), none⟩, ⟨(some 14), (.call (.const (.func 102 [] [])) [(.tmp 13)]), none⟩, ⟨(some 15), (.bin .and (.tmp 14) (.const (.int .i64 1))), none⟩, ⟨(some 16), (.conv .u32 (.tmp 15)), none⟩, ⟨(some 4), (.mv (.tmp 16)), none⟩]) (.seq (.draw 0 [⟨0, false, [], ⟨(some 17), (.fieldAddr 1 (.tmp 1)), none⟩⟩, ⟨3, false, [], ⟨(some 20), (.mv (.tmp 4)), none⟩⟩, ⟨4, false, [], ⟨(some 21), (.fieldAddr 0 (.tmp 1)), none⟩⟩, ⟨1, false, [], ⟨(some 18), (.load false 1 (.tmp 17)), none⟩⟩, ⟨2, false, [], ⟨(some 19), (.bin .shr (.tmp 18) (.const (.int .u64 1))), none⟩⟩, ⟨5, false, [], ⟨(some 22), (.load false 1 (.tmp 21)), none⟩⟩, ⟨6, false, [], ⟨(some 23), (.bin .sub (.tmp 22) (.const (.int .i64 1))), none⟩⟩, ⟨7, false, [], ⟨(some 24), (.bin .shl (.tmp 20) (.tmp 23)), none⟩⟩, ⟨8, false, [], ⟨(some 25), (.bin .or (.tmp 19) (.tmp 24)), none⟩⟩, ⟨9, false, [], ⟨(some 26), (.fieldAddr 1 (.tmp 1)), none⟩⟩, ⟨10, false, [], ⟨none, (.store 1 (.tmp 26) (.tmp 25)), none⟩⟩]) (.seq (.region [⟨(some 27), (.mv (.tmp 0)), none⟩, ⟨(some 28), (.mv (.tmp 3)), none⟩, ⟨(some 29), (.fieldAddr 1 (.tmp 1)), none⟩, ⟨(some 30), (.load false 1 (.tmp 29)), none⟩, ⟨(some 31), (.call (.tmp 27) [(.tmp 28), (.tmp 30)]), none⟩, ⟨(some 32), (.un .not (.tmp 31)), none⟩]) (.cond (.tmp 32) .ret .skip)))))))))
/-- math/bits.OnesCount32 -/
def B102 : ABody := (.mk 1 21 [(.tmp 2)] (.seq (.region [⟨(some 2), (.mv (.const (.int .i64 0))), none⟩]) (.seq (.draw 0 [⟨0, false, [], ⟨(some 3), (.mv (.tmp 0)), none⟩⟩, ⟨1, false, [], ⟨(some 4), (.bin .shr (.tmp 3) (.const (.int .u64 24))), none⟩⟩, ⟨2, false, [], ⟨(some 5), (.strIdx (.const (.str [0, 1, 1, 2, 1, 2, 2, 3, 1, 2, 2, 3, 2, 3, 3, 4, 1, 2, 2, 3, 2, 3, 3, 4, 2, 3, 3, 4, 3, 4, 4, 5, 1, 2, 2, 3, 2, 3, 3, 4, 2, 3, 3, 4, 3, 4, 4, 5, 2, 3, 3, 4, 3, 4, 4, 5, 3, 4, 4, 5, 4, 5, 5, 6, 1, 2, 2, 3, 2, 3, 3, 4, 2, 3, 3, 4, 3, 4, 4, 5, 2, 3, 3, 4, 3, 4, 4, 5, 3, 4, 4, 5, 4, 5, 5, 6, 2, 3, 3, 4, 3, 4, 4, 5, 3, 4, 4, 5, 4, 5, 5, 6, 3, 4, 4, 5, 4, 5, 5, 6, 4, 5, 5, 6, 5, 6, 6, 7, 1, 2, 2, 3, 2, 3, 3, 4, 2, 3, 3, 4, 3, 4, 4, 5, 2, 3, 3, 4, 3, 4, 4, 5, 3, 4, 4, 5, 4, 5, 5, 6, 2, 3, 3, 4, 3, 4, 4, 5, 3, 4, 4, 5, 4, 5, 5, 6, 3, 4, 4, 5, 4, 5, 5, 6, 4, 5, 5, 6, 5, 6, 6, 7, 2, 3, 3, 4, 3, 4, 4, 5, 3, 4, 4, 5, 4, 5, 5, 6, 3, 4, 4, 5, 4, 5, 5, 6, 4, 5, 5, 6, 5, 6, 6, 7, 3, 4, 4, 5, 4, 5, 5, 6, 4, 5, 5, 6, 5, 6, 6, 7, 4, 5, 5, 6, 5, 6, 6, 7, 5, 6, 6, 7, 6, 7, 7, 8])) (.tmp 4)), none⟩⟩, ⟨3, false, [], ⟨(some 6), (.mv (.tmp 0)), none⟩⟩, ⟨4, false, [], ⟨(some 7), (.bin .shr (.tmp 6) (.const (.int .u64 16))), none⟩⟩, ⟨5, false, [], ⟨(some 8), (.bin .and (.tmp 7) (.const (.int .u32 255))), none⟩⟩, ⟨6, false, [], ⟨(some 9), (.strIdx (.const (.str [0, 1, 1, 2, 1, 2, 2, 3, 1, 2, 2, 3, 2, 3, 3, 4, 1, 2, 2, 3, 2, 3, 3, 4, 2, 3, 3, 4, 3, 4, 4, 5, 1, 2, 2, 3, 2, 3, 3, 4, 2, 3, 3, 4, 3, 4, 4, 5, 2, 3, 3, 4, 3, 4, 4, 5, 3, 4, 4, 5, 4, 5, 5, 6, 1, 2, 2, 3, 2, 3, 3, 4, 2, 3, 3, 4, 3, 4, 4, 5, 2, 3, 3, 4, 3, 4, 4, 5, 3, 4, 4, 5, 4, 5, 5, 6, 2, 3, 3, 4, 3, 4, 4, 5, 3, 4, 4, 5, 4, 5, 5, 6, 3, 4, 4, 5, 4, 5, 5, 6, 4, 5, 5, 6, 5, 6, 6, 7, 1, 2, 2, 3, 2, 3, 3, 4, 2, 3, 3, 4, 3, 4, 4, 5, 2, 3, 3, 4, 3, 4, 4, 5, 3, 4, 4, 5, 4, 5, 5, 6, 2, 3, 3, 4, 3, 4, 4, 5, 3, 4, 4, 5, 4, 5, 5, 6, 3, 4, 4, 5, 4, 5, 5, 6, 4, 5, 5, 6, 5, 6, 6, 7, 2, 3, 3, 4, 3, 4, 4, 5, 3, 4, 4, 5, 4, 5, 5, 6, 3, 4, 4, 5, 4, 5, 5, 6, 4, 5, 5, 6, 5, 6, 6, 7, 3, 4, 4, 5, 4, 5, 5, 6, 4, 5, 5, 6, 5, 6, 6, 7, 4, 5, 5, 6, 5, 6, 6, 7, 5, 6, 6, 7, 6, 7, 7, 8])) (.tmp 8)), none⟩⟩, ⟨7, false, [], ⟨(some 10), (.bin .add (.tmp 5) (.tmp 9)), none⟩⟩, ⟨8, false, [], ⟨(some 11), (.mv (.tmp 0)), none⟩⟩, ⟨9, false, [], ⟨(some 12), (.bin .shr (.tmp 11) (.const (.int .u64 8))), none⟩⟩, ⟨10, false, [], ⟨(some 13), (.bin .and (.tmp 12) (.const (.int .u32 255))), none⟩⟩, ⟨11, false, [], ⟨(some 14), (.strIdx (.const (.str [0, 1, 1, 2, 1, 2, 2, 3, 1, 2, 2, 3, 2, 3, 3, 4, 1, 2, 2, 3, 2, 3, 3, 4, 2, 3, 3, 4, 3, 4, 4, 5, 1, 2, 2, 3, 2, 3, 3, 4, 2, 3, 3, 4, 3, 4, 4, 5, 2, 3, 3, 4, 3, 4, 4, 5, 3, 4, 4, 5, 4, 5, 5, 6, 1, 2, 2, 3, 2, 3, 3, 4, 2, 3, 3, 4, 3, 4, 4, 5, 2, 3, 3, 4, 3, 4, 4, 5, 3, 4, 4, 5, 4, 5, 5, 6, 2, 3, 3, 4, 3, 4, 4, 5, 3, 4, 4, 5, 4, 5, 5, 6, 3, 4, 4, 5, 4, 5, 5, 6, 4, 5, 5, 6, 5, 6, 6, 7, 1, 2, 2, 3, 2, 3, 3, 4, 2, 3, 3, 4, 3, 4, 4, 5, 2, 3, 3, 4, 3, 4, 4, 5, 3, 4, 4, 5, 4, 5, 5, 6, 2, 3, 3, 4, 3, 4, 4, 5, 3, 4, 4, 5, 4, 5, 5, 6, 3, 4, 4, 5, 4, 5, 5, 6, 4, 5, 5, 6, 5, 6, 6, 7, 2, 3, 3, 4, 3, 4, 4, 5, 3, 4, 4, 5, 4, 5, 5, 6, 3, 4, 4, 5, 4, 5, 5, 6, 4, 5, 5, 6, 5, 6, 6, 7, 3, 4, 4, 5, 4, 5, 5, 6, 4, 5, 5, 6, 5, 6, 6, 7, 4, 5, 5, 6, 5, 6, 6, 7, 5, 6, 6, 7, 6, 7, 7, 8])) (.tmp 13)), none⟩⟩, ⟨12, false, [], ⟨(some 15), (.bin .add (.tmp 10) (.tmp 14)), none⟩⟩, ⟨13, false, [], ⟨(some 16), (.mv (.tmp 0)), none⟩⟩, ⟨14, false, [], ⟨(some 17), (.bin .and (.tmp 16) (.const (.int .u32 255))), none⟩⟩, ⟨15, false, [], ⟨(some 18), (.strIdx (.const (.str [0, 1, 1, 2, 1, 2, 2, 3, 1, 2, 2, 3, 2, 3, 3, 4, 1, 2, 2, 3, 2, 3, 3, 4, 2, 3, 3, 4, 3, 4, 4, 5, 1, 2, 2, 3, 2, 3, 3, 4, 2, 3, 3, 4, 3, 4, 4, 5, 2, 3, 3, 4, 3, 4, 4, 5, 3, 4, 4, 5, 4, 5, 5, 6, 1, 2, 2, 3, 2, 3, 3, 4, 2, 3, 3, 4, 3, 4, 4, 5, 2, 3, 3, 4, 3, 4, 4, 5, 3, 4, 4, 5, 4, 5, 5, 6, 2, 3, 3, 4, 3, 4, 4, 5, 3, 4, 4, 5, 4, 5, 5, 6, 3, 4, 4, 5, 4, 5, 5, 6, 4, 5, 5, 6, 5, 6, 6, 7, 1, 2, 2, 3, 2, 3, 3, 4, 2, 3, 3, 4, 3, 4, 4, 5, 2, 3, 3, 4, 3, 4, 4, 5, 3, 4, 4, 5, 4, 5, 5, 6, 2, 3, 3, 4, 3, 4, 4, 5, 3, 4, 4, 5, 4, 5, 5, 6, 3, 4, 4, 5, 4, 5, 5, 6, 4, 5, 5, 6, 5, 6, 6, 7, 2, 3, 3, 4, 3, 4, 4, 5, 3, 4, 4, 5, 4, 5, 5, 6, 3, 4, 4, 5, 4, 5, 5, 6, 4, 5, 5, 6, 5, 6, 6, 7, 3, 4, 4, 5, 4, 5, 5, 6, 4, 5, 5, 6, 5, 6, 6, 7, 4, 5, 5, 6, 5, 6, 6, 7, 5, 6, 6, 7, 6, 7, 7, 8])) (.tmp 17)), none⟩⟩, ⟨16, false, [], ⟨(some 19), (.bin .add (.tmp 15) (.tmp 18)), none⟩⟩, ⟨17, false, [], ⟨(some 20), (.conv .i64 (.tmp 19)), none⟩⟩, ⟨18, false, [], ⟨(some 2), (.mv (.tmp 20)), none⟩⟩]) .ret)))
/-- math/bits.Mul32 -/
def B104 : ABody := (.mk 2 17 [(.tmp 4), (.tmp 5)] (.seq (.region [⟨(some 4), (.mv (.const (.int .u32 0))), none⟩, ⟨(some 5), (.mv (.const (.int .u32 0))), none⟩]) (.seq (.region [⟨(some 7), (.mv (.tmp 0)), none⟩, ⟨(some 8), (.conv .u64 (.tmp 7)), none⟩, ⟨(some 9), (.mv (.tmp 1)), none⟩, ⟨(some 10), (.conv .u64 (.tmp 9)), none⟩, ⟨(some 11), (.bin .mul (.tmp 8) (.tmp 10)), none⟩, ⟨(some 6), (.mv (.tmp 11)), none⟩]) (.seq (.region [⟨(some 12), (.mv (.tmp 6)), none⟩, ⟨(some 13), (.bin .shr (.tmp 12) (.const (.int .u64 32))), none⟩, ⟨(some 14), (.conv .u32 (.tmp 13)), none⟩, ⟨(some 15), (.mv (.tmp 6)), none⟩, ⟨(some 16), (.conv .u32 (.tmp 15)), none⟩, ⟨(some 4), (.mv (.tmp 14)), none⟩, ⟨(some 5), (.mv (.tmp 16)), none⟩]) .ret))))
/-- math/bits.Mul64 -/
def B105 : ABody := (.mk 2 51 [(.tmp 4), (.tmp 5)] (.seq (.region [⟨(some 4), (.mv (.const (.int .u64 0))), none⟩, ⟨(some 5), (.mv (.const (.int .u64 0))), none⟩]) (.seq (.region [⟨(some 14), (.mv (.tmp 0)), none⟩, ⟨(some 15), (.bin .and (.tmp 14) (.const (.int .u64 4294967295))), none⟩, ⟨(some 6), (.mv (.tmp 15)), none⟩]) (.seq (.region [⟨(some 16), (.mv (.tmp 0)), none⟩, ⟨(some 17), (.bin .shr (.tmp 16) (.const (.int .u64 32))), none⟩, ⟨(some 7), (.mv (.tmp 17)), none⟩]) (.seq (.region [⟨(some 18), (.mv (.tmp 1)), none⟩, ⟨(some 19), (.bin .and (.tmp 18) (.const (.int .u64 4294967295))), none⟩, ⟨(some 8), (.mv (.tmp 19)), none⟩]) (.seq (.region [⟨(some 20), (.mv (.tmp 1)), none⟩, ⟨(some 21), (.bin .shr (.tmp 20) (.const (.int .u64 32))), none⟩, ⟨(some 9), (.mv (.tmp 21)), none⟩]) (.seq (.region [⟨(some 22), (.mv (.tmp 6)), none⟩, ⟨(some 23), (.mv (.tmp 8)), none⟩, ⟨(some 24), (.bin .mul (.tmp 22) (.tmp 23)), none⟩, ⟨(some 10), (.mv (.tmp 24)), none⟩]) (.seq (.region [⟨(some 25), (.mv (.tmp 7)), none⟩, ⟨(some 26), (.mv (.tmp 8)), none⟩, ⟨(some 27), (.bin .mul (.tmp 25) (.tmp 26)), none⟩, ⟨(some 28), (.mv (.tmp 10)), none⟩, ⟨(some 29), (.bin .shr (.tmp 28) (.const (.int .u64 32))), none⟩, ⟨(some 30), (.bin .add (.tmp 27) (.tmp 29)), none⟩, ⟨(some 11), (.mv (.tmp 30)), none⟩]) (.seq (.region [⟨(some 31), (.mv (.tmp 11)), none⟩, ⟨(some 32), (.bin .and (.tmp 31) (.const (.int .u64 4294967295))), none⟩, ⟨(some 12), (.mv (.tmp 32)), none⟩]) (.seq (.region [⟨(some 33), (.mv (.tmp 11)), none⟩, ⟨(some 34), (.bin .shr (.tmp 33) (.const (.int .u64 32))), none⟩, ⟨(some 13), (.mv (.tmp 34)), none⟩]) (.seq (.region [⟨(some 35), (.mv (.tmp 12)), none⟩, ⟨(some 36), (.mv (.tmp 6)), none⟩, ⟨(some 37), (.mv (.tmp 9)), none⟩, ⟨(some 38), (.bin .mul (.tmp 36) (.tmp 37)), none⟩, ⟨(some 39), (.bin .add (.tmp 35) (.tmp 38)), none⟩, ⟨(some 12), (.mv (.tmp 39)), none⟩]) (.seq (.region [⟨(some 40), (.mv (.tmp 7)), none⟩, ⟨(some 41), (.mv (.tmp 9)), none⟩, ⟨(some 42), (.bin .mul (.tmp 40) (.tmp 41)), none⟩, ⟨(some 43), (.mv (.tmp 13)), none⟩, ⟨(some 44), (.bin .add (.tmp 42) (.tmp 43)), none⟩, ⟨(some 45), (.mv (.tmp 12)), none⟩, ⟨(some 46), (.bin .shr (.tmp 45) (.const (.int .u64 32))), none⟩, ⟨(some 47), (.bin .add (.tmp 44) (.tmp 46)), none⟩, ⟨(some 4), (.mv (.tmp 47)), none⟩]) (.seq (.region [⟨(some 48), (.mv (.tmp 0)), none⟩, ⟨(some 49), (.mv (.tmp 1)), none⟩, ⟨(some 50), (.bin .mul (.tmp 48) (.tmp 49)), none⟩, ⟨(some 5), (.mv (.tmp 50)), none⟩]) .ret)))))))))))))
end Go.Ae

namespace Go.Ae
def tabL : List (Nat × ABody) := [(12, B12), (23, B23), (37, B37), (42, B42), (43, B43), (45, B45), (47, B47), (50, B50), (56, B56), (63, B63), (70, B70), (72, B72), (74, B74), (76, B76), (80, B80), (81, B81), (82, B82), (83, B83), (84, B84), (89, B89), (90, B90), (91, B91), (92, B92), (93, B93), (94, B94), (95, B95), (99, B99), (100, B100), (101, B101), (102, B102), (104, B104), (105, B105)]
def tab (g : Nat) : Option ABody := (tabL.find? fun p => p.1 == g).map (·.2)
/-- The functions of a list are in the program, with their bodies. -/
def Has (C : Ctx) (T : List Nat) : Prop := ∀ g ∈ T, ∀ b, tab g = some b → C.body g = some b
theorem Has.body {C : Ctx} {T : List Nat} (h : Has C T) {g : Nat} {b : ABody} (hg : T.contains g = true) (hb : tab g = some b) : C.body g = some b := h g (by simpa using hg) b hb
theorem Has.sub {C : Ctx} {T T' : List Nat} (h : Has C T) (hs : T'.all (fun g => T.contains g) = true) : Has C T' := fun g hg => h g (by simpa using List.all_eq_true.1 hs g hg)
theorem tab12 : tab 12 = some B12 := by rfl
theorem tab23 : tab 23 = some B23 := by rfl
theorem tab37 : tab 37 = some B37 := by rfl
theorem tab42 : tab 42 = some B42 := by rfl
theorem tab43 : tab 43 = some B43 := by rfl
theorem tab45 : tab 45 = some B45 := by rfl
theorem tab47 : tab 47 = some B47 := by rfl
theorem tab50 : tab 50 = some B50 := by rfl
theorem tab56 : tab 56 = some B56 := by rfl
theorem tab63 : tab 63 = some B63 := by rfl
theorem tab70 : tab 70 = some B70 := by rfl
theorem tab72 : tab 72 = some B72 := by rfl
theorem tab74 : tab 74 = some B74 := by rfl
theorem tab76 : tab 76 = some B76 := by rfl
theorem tab80 : tab 80 = some B80 := by rfl
theorem tab81 : tab 81 = some B81 := by rfl
theorem tab82 : tab 82 = some B82 := by rfl
theorem tab83 : tab 83 = some B83 := by rfl
theorem tab84 : tab 84 = some B84 := by rfl
theorem tab89 : tab 89 = some B89 := by rfl
theorem tab90 : tab 90 = some B90 := by rfl
theorem tab91 : tab 91 = some B91 := by rfl
theorem tab92 : tab 92 = some B92 := by rfl
theorem tab93 : tab 93 = some B93 := by rfl
theorem tab94 : tab 94 = some B94 := by rfl
theorem tab95 : tab 95 = some B95 := by rfl
theorem tab99 : tab 99 = some B99 := by rfl
theorem tab100 : tab 100 = some B100 := by rfl
theorem tab101 : tab 101 = some B101 := by rfl
theorem tab102 : tab 102 = some B102 := by rfl
theorem tab104 : tab 104 = some B104 := by rfl
theorem tab105 : tab 105 = some B105 := by rfl
/-- skyfix/skyfixkit.Equal -/
def T12 : List Nat := [12]
/-- skyfix/skyfixkit.Turn -/
def T23 : List Nat := [23]
/-- slices.ContainsFunc[[]int,int] -/
def T37 : List Nat := [37, 50]
/-- slices.Clone[[]int,int] -/
def T42 : List Nat := [42]
/-- slices.Reverse[[]int,int] -/
def T43 : List Nat := [43]
/-- skyfix/skyfixkit.Some -/
def T45 : List Nat := [23, 45]
/-- slices.Concat[[]int,int] -/
def T47 : List Nat := [47, 56]
/-- slices.IndexFunc[[]int,int] -/
def T50 : List Nat := [50]
/-- slices.Grow[[]int,int] -/
def T56 : List Nat := [56]
/-- skyfix/skyfixlaw08.GoldRegisters -/
def T63 : List Nat := [12, 63, 70, 72, 74, 76, 80, 81, 82, 83, 84, 89, 90, 91, 92, 93, 94, 95, 99, 100, 101, 102, 104, 105]
/-- skyfix/gold.Length -/
def T70 : List Nat := [70, 89, 99]
/-- skyfix/gold.Taps -/
def T72 : List Nat := [70, 72, 89, 99]
/-- skyfix/gold.Bits -/
def T74 : List Nat := [70, 72, 74, 81, 89, 90, 92, 93, 95, 99, 100, 101, 102, 104, 105]
/-- skyfix/gold.Code -/
def T76 : List Nat := [70, 72, 74, 76, 81, 89, 90, 92, 93, 95, 99, 100, 101, 102, 104, 105]
/-- skyfix/skyfixlaw08.awake -/
def T80 : List Nat := [12, 70, 72, 74, 76, 80, 81, 89, 90, 92, 93, 95, 99, 100, 101, 102, 104, 105]
/-- skyfix/gold.Run -/
def T81 : List Nat := [81, 92, 93, 95, 101, 102]
/-- skyfix/skyfixref08.Run -/
def T82 : List Nat := [82, 91, 94]
/-- skyfix/gold.Period -/
def T83 : List Nat := [83, 92, 95, 101, 102]
/-- skyfix/skyfixref08.Period -/
def T84 : List Nat := [84, 91, 94]
/-- slices.Contains[[]int,int] -/
def T89 : List Nat := [89, 99]
/-- slices.Repeat[[]int,int] -/
def T90 : List Nat := [90, 100, 104, 105]
/-- skyfix/skyfixref08.run -/
def T91 : List Nat := [91]
/-- skyfix/gold.made -/
def T92 : List Nat := [92]
/-- (skyfix/gold.register).first -/
def T93 : List Nat := [93, 95, 101, 102]
/-- skyfix/skyfixref08.check -/
def T94 : List Nat := [94]
/-- (skyfix/gold.register).bits -/
def T95 : List Nat := [95, 101, 102]
/-- slices.Index[[]int,int] -/
def T99 : List Nat := [99]
/-- math/bits.Mul -/
def T100 : List Nat := [100, 104, 105]
/-- (skyfix/gold.register).bits$1 -/
def T101 : List Nat := [101, 102]
/-- math/bits.OnesCount32 -/
def T102 : List Nat := [102]
/-- math/bits.Mul32 -/
def T104 : List Nat := [104]
/-- math/bits.Mul64 -/
def T105 : List Nat := [105]
end Go.Ae
