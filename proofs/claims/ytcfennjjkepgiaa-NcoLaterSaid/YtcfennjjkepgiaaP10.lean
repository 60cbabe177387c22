/- Texts of the proof, part 10: a second reading of the lowered code, proved sound, and what the functions compute. -/
import Derived.OpenShut
import Derived.ChangeSlices
import Derived.ProofKit
import Derived.Test.YtcfennjjkepgiaaP9

/- A statement's arguments, as they come in, and the abstract heap that stands for them. -/
namespace Go.Ae
open Go.ChangeShapes Go.WideShapes Go.ChangeAt Go.RowKit

theorem trodAll_stays {H : Type} {enc : TypeId × Value → H} {P : Program} (hl : laidOutB P = true) {W W' : World} (hb : Below W.heap.size W W') : ∀ {ts : List TypeId} {vs : List Value} {ds : List (DataW H)} {ps : List MemPlace},
    (ts.all fun t => P.readableRec t && decide (t < P.types.size)) = true → DataW.TrodAll enc P W 0 (fun _ => true) true ts vs ds ps → (∀ x ∈ ps, x.block < W.heap.size) →
    DataW.TrodAll enc P W' 0 (fun b => decide (b < W.heap.size)) true ts vs ds ps
  | [], vs, ds, ps, _, h, _ => by
    obtain ⟨rfl, rfl, rfl⟩ := trodAll_nil h
    exact trodAll_mk0
  | t :: ts, vs, ds, ps, ht, h, hlt => by
    obtain ⟨v, vs', d, ds', p, q, rfl, rfl, rfl, h1, h2⟩ := trodAll_cons h
    simp only [List.all_cons, Bool.and_eq_true, decide_eq_true_eq] at ht
    exact ⟨p, q, Below.trod hl ht.1.1 ht.1.2 h1 hb (fun x hx => hlt x (List.mem_append_left _ hx)), trodAll_stays hl hb (by simpa using ht.2) h2 (fun x hx => hlt x (List.mem_append_right _ hx)), rfl⟩

/-- Rows that are only read. -/
def argHeap (bs : List (Option (List AV))) : Heap := ⟨bs.length, fun i => match bs[i]? with | some (some vs) => some (.cells vs false 0) | _ => none, fun i hi => by rw [List.getElem?_eq_none hi]⟩
theorem argHeap_get {bs : List (Option (List AV))} {i : Nat} {vs : List AV} (h : bs[i]? = some (some vs)) : (argHeap bs).get i = some (.cells vs false 0) := by simp only [argHeap, h]
theorem argHeap_some {bs : List (Option (List AV))} {i : Nat} {b : ABlk} (h : (argHeap bs).get i = some b) : ∃ vs, bs[i]? = some (some vs) ∧ b = .cells vs false 0 := by
  simp only [argHeap] at h
  split at h
  · rename_i vs hv; cases h; exact ⟨vs, hv, rfl⟩
  · cases h

theorem rel_args {C : Ctx} {env : Env} {w : World} (bs : List (Option (List AV))) (hlt : ∀ i vs, bs[i]? = some (some vs) → (env i).blk < w.heap.size ∧ (∀ v ∈ vs, v.bel (argHeap bs).ok) ∧
    ∀ k v, vs[k]? = some v → w.cell? ⟨(env i).blk, (env i).sh + k, none⟩ = some (v.val C.lk env)) : Rel C ⟨fun r => r < w.heap.size, fun _ => False⟩ env (argHeap bs) w := by
  refine ⟨?_, ?_, ?_, ?_, ?_, fun r hr => hr, ?_, fun r hr => hr.elim⟩
  · intro i b hb
    obtain ⟨vs, hv, rfl⟩ := argHeap_some hb
    exact (hlt i vs hv).1
  · intro i b hb
    obtain ⟨vs, hv, rfl⟩ := argHeap_some hb
    exact (hlt i vs hv).2.2
  · intro i j b c hb hc hij hw
    obtain ⟨vs, hv, rfl⟩ := argHeap_some hb
    cases hw
  · intro i b hb
    obtain ⟨vs, hv, rfl⟩ := argHeap_some hb
    exact (hlt i vs hv).2.1
  · intro i b hb hw
    obtain ⟨vs, hv, rfl⟩ := argHeap_some hb
    cases hw
  · intro i b hb hd hf
    exact hf

/-- A list of numbers that came in: the value, the row it lies in. -/
structure InList where
  l : List Int
  nil : Bool
  blk : Nat
  off : Nat
  cap : Nat
def InList.val (x : InList) : Value := if x.nil then .slice none 0 0 else .slice (some ⟨x.blk, x.off, none⟩) x.l.length x.cap
def InList.av (x : InList) (i : Nat) : AV := if x.nil then .nilslice else .slice i 0 x.l.length (.known x.cap)
def InList.row (x : InList) : Option (List AV) := if x.nil then none else some (ints x.l)
def InList.eb (x : InList) : EB := ⟨x.blk, x.off, 0⟩
structure InList.ok (x : InList) (w : World) : Prop where
  isNil : x.nil = true → x.l = []
  cap : x.nil = false → x.l.length ≤ x.cap
  lt : x.l.length < 9223372036854775808
  blk : x.nil = false → x.blk < w.heap.size
  cell : ∀ k n, x.l[k]? = some n → w.cell? ⟨x.blk, x.off + k, none⟩ = some (.int .i64 n)
  num : ∀ n ∈ x.l, -9223372036854775808 ≤ n ∧ n ≤ 9223372036854775807

theorem wf_i64 {n : Int} (h : (Lit.int .i64 n).wf = true) : -9223372036854775808 ≤ n ∧ n ≤ 9223372036854775807 := by
  have : (decide (IntKind.i64.min ≤ n) && decide (n ≤ IntKind.i64.max)) = true := h
  simp only [Bool.and_eq_true, decide_eq_true_eq] at this
  exact this

theorem open_list {H : Type} {enc : TypeId × Value → H} {P : Program} {w : World} {b0 : Nat} {t e : TypeId} {v : Value} {d : DataW H} {ps : List MemPlace} (ht : P.underlying t = some (.slice e)) (he : P.underlying e = some (.int .i64)) (hc : P.cellsOf e = 1)
    (hval : Value.okWide P w .any b0 t v) (hd : DataW.Trod enc P w 0 (fun _ => true) true t v d ps) : ∃ x : InList, v = x.val ∧ x.ok w := by
  have hval' := hval
  obtain ⟨a0, len, cap, rfl⟩ := okWide_slice ht hval
  obtain ⟨fuel, hf⟩ := hd
  rcases open_ints ht he hc hf with ⟨hcs, _⟩ | ⟨a, len', cap', zs, hcs, _, hl, hm, hz, _, hcell, hwz⟩
  · simp only [Value.cells, Array.toList] at hcs
    cases hcs
    exact ⟨⟨[], true, 0, 0, 0⟩, rfl, ⟨fun _ => rfl, fun h => (by cases h), by simp, fun h => (by cases h), by simp, by simp⟩⟩
  · simp only [Value.cells, Array.toList] at hcs
    cases hcs
    have hlen : zs.length = cap := by simpa using hz
    have hok : Cell.ok P w .any b0 t (.slice (some a) len cap) := by
      simp only [Value.okWide, ht, Cell.okWide] at hval'
      exact hval'
    simp only [Cell.ok, ht] at hok
    obtain ⟨_, _, _, hspot, row, cells, hsh, _⟩ := hok
    have hblk : a.block < w.heap.size := by
      unfold World.shape? at hsh
      rcases Nat.lt_or_ge a.block w.heap.size with h | h
      · exact h
      · rw [Array.getElem?_eq_none h] at hsh; cases hsh
    have hmax : cap ≤ 9223372036854775807 := hm
    obtain ⟨ab, ao, asp⟩ := a
    simp only at hspot hblk
    subst hspot
    have hlt : (zs.take len).length = len := by simp; omega
    refine ⟨⟨zs.take len, false, ab, ao, cap⟩, ?_, ⟨fun h => (by cases h), fun _ => (by rw [hlt]; exact hl), (by rw [hlt]; omega), fun _ => hblk, ?_, ?_⟩⟩
    · simp only [InList.val, Bool.false_eq_true, if_false, hlt]
    · intro k n hk
      rw [List.getElem?_take] at hk
      split at hk
      · rename_i hkl
        have h2 : k < zs.length := by omega
        have := hcell k h2
        rw [List.getD_eq_getElem?_getD, hk] at this
        by_cases hk0 : k = 0
        · subst hk0; simpa [Addr.add] using this
        · simpa [Addr.add, hk0] using this
      · cases hk
    · intro n hn
      exact wf_i64 (hwz n (List.mem_of_mem_take hn))

theorem InList.ri {x : InList} {w : World} {bs : List (Option (List AV))} {i : Nat} (hx : x.ok w) (hi : bs[i]? = some x.row) : RI (argHeap bs) (x.av i) x.l := by
  unfold InList.av
  cases hn : x.nil with
  | true =>
    rw [hx.isNil hn, if_pos rfl]; exact RI.nil
  | false =>
    rw [if_neg (by simp)]
    refine RI.known (argHeap_get (hi.trans ?_)) ⟨rfl, hx.lt⟩ (hx.cap hn)
    simp [InList.row, hn]
theorem InList.av_val {x : InList} {i : Nat} {lk : Nat → FuncId} {env : Env} (he : env i = x.eb) : (x.av i).val lk env = x.val := by
  unfold InList.av InList.val
  cases hn : x.nil with
  | true => rfl
  | false => simp [AV.val, he, InList.eb, Cap.at]
theorem InList.av_bel {x : InList} {w : World} {bs : List (Option (List AV))} {i : Nat} (hi : bs[i]? = some x.row) : (x.av i).bel (argHeap bs).ok := by
  unfold InList.av
  cases hn : x.nil with
  | true => trivial
  | false =>
    show (argHeap bs).ok i
    have : bs[i]? = some (some (ints x.l)) := hi.trans (by simp [InList.row, hn])
    simp [Heap.ok, argHeap_get this]
/-- The row of a list that came in. -/
theorem InList.rowOk {C : Ctx} {x : InList} {w : World} {bs : List (Option (List AV))} {env : Env} {i : Nat} {vs : List AV} (hx : x.ok w) (he : env i = x.eb) (hv : x.row = some vs) : (env i).blk < w.heap.size ∧ (∀ v ∈ vs, v.bel (argHeap bs).ok) ∧
    ∀ k v, vs[k]? = some v → w.cell? ⟨(env i).blk, (env i).sh + k, none⟩ = some (v.val C.lk env) := by
  unfold InList.row at hv
  split at hv
  · cases hv
  · rename_i hn
    cases hv
    rw [he]
    refine ⟨hx.blk (by simpa using hn), ?_, ?_⟩
    · intro v hv
      obtain ⟨n, _, rfl⟩ := List.mem_map.1 hv
      trivial
    · intro k v hk
      simp only [ints, List.getElem?_map, Option.map_eq_some_iff] at hk
      obtain ⟨n, hn, rfl⟩ := hk
      exact hx.cell k n hn
end Go.Ae

/- A statement's arguments: structures, and lists of samples. -/
namespace Go.Ae
open Go.ChangeShapes Go.WideShapes Go.ChangeAt Go.RowKit

/-- What a cell of a structure holds: a number, a bool, a list of numbers. -/
inductive Lf where
  | int (k : IntKind)
  | bool
  | ints
  deriving DecidableEq

def flatO (P : Program) (r : TypeId → Option (List Lf)) : List (TypeId × Nat) → Nat → Option (List Lf)
  | [], _ => some []
  | (t, o) :: fs, off => if o = off then match r t with
    | some ls => if P.cellsOf t = ls.length then (flatO P r fs (off + ls.length)).map (ls ++ ·) else none
    | none => none
    else none

/-- The cells of a type. -/
def lfOf (P : Program) : Nat → TypeId → Option (List Lf)
  | 0, _ => none
  | n + 1, t => match P.underlying t with
    | some (.int k) => some [.int k]
    | some .bool => some [.bool]
    | some (.slice e) => match P.underlying e with
      | some (.int .i64) => if P.cellsOf e = 1 then some [.ints] else none
      | _ => none
    | some (.struct fs) => match flatO P (lfOf P n) (fs.toList.map fun f => (f.type, f.offset)) 0 with
      | some ls => if P.cellsOf t = ls.length then some ls else none
      | none => none
    | some (.array m e) => match flatO P (lfOf P n) ((List.range m).map fun i => (e, i * P.cellsOf e)) 0 with
      | some ls => if P.cellsOf t = ls.length then some ls else none
      | none => none
    | _ => none

def Fits (w : World) : List Lf → List Value → Prop
  | [], vs => vs = []
  | .int k :: ls, vs => ∃ n rest, vs = .int k n :: rest ∧ (Lit.int k n).wf = true ∧ Fits w ls rest
  | .bool :: ls, vs => ∃ b rest, vs = .bool b :: rest ∧ Fits w ls rest
  | .ints :: ls, vs => ∃ (x : InList) (rest : List Value), vs = x.val :: rest ∧ x.ok w ∧ Fits w ls rest

theorem Fits.append {w : World} : ∀ {ls ms : List Lf} {vs us : List Value}, Fits w ls vs → Fits w ms us → Fits w (ls ++ ms) (vs ++ us)
  | [], ms, vs, us, h, g => by cases h; exact g
  | .int k :: ls, ms, vs, us, ⟨n, rest, e, a, b⟩, g => ⟨n, rest ++ us, by rw [e]; rfl, a, b.append g⟩
  | .bool :: ls, ms, vs, us, ⟨n, rest, e, b⟩, g => ⟨n, rest ++ us, by rw [e]; rfl, b.append g⟩
  | .ints :: ls, ms, vs, us, ⟨n, rest, e, a, b⟩, g => ⟨n, rest ++ us, by rw [e]; rfl, a, b.append g⟩

def Side (w : World) (cs : List Value) : Prop := ∀ a len cap, Value.slice (some a) len cap ∈ cs → a.spot = none ∧ a.block < w.heap.size
theorem Side.part {w : World} {cs : List Value} (h : Side w cs) (a b : Nat) : Side w ((cs.drop a).take b) := fun x len cap hx => h x len cap (List.mem_of_mem_drop (List.mem_of_mem_take hx))

section
variable {H : Type} {enc : TypeId × Value → H} {P : Program} {w : World}

theorem list_fits {t e : TypeId} {fuel : Nat} {cs : List Value} {x : DataW H × List MemPlace} (ht : P.underlying t = some (.slice e)) (he : P.underlying e = some (.int .i64)) (hc : P.cellsOf e = 1)
    (hs : Side w cs) (hf : DataW.trod enc P w 0 (fun _ => true) true fuel t cs = some x) : ∃ x : InList, cs = [x.val] ∧ x.ok w := by
  rcases open_ints ht he hc hf with ⟨rfl, _⟩ | ⟨a, len', cap', zs, rfl, _, hl, hm, hz, _, hcell, hwz⟩
  · exact ⟨⟨[], true, 0, 0, 0⟩, rfl, ⟨fun _ => rfl, fun h => (by cases h), by simp, fun h => (by cases h), by simp, by simp⟩⟩
  · have hlen : zs.length = cap' := by simpa using hz
    obtain ⟨hspot, hblk⟩ := hs a len' cap' (by simp)
    have hmax : cap' ≤ 9223372036854775807 := hm
    obtain ⟨ab, ao, asp⟩ := a
    simp only at hspot hblk
    subst hspot
    have hlt : (zs.take len').length = len' := by simp; omega
    refine ⟨⟨zs.take len', false, ab, ao, cap'⟩, ?_, ⟨fun h => (by cases h), fun _ => (by rw [hlt]; exact hl), (by rw [hlt]; omega), fun _ => hblk, ?_, ?_⟩⟩
    · simp only [InList.val, Bool.false_eq_true, if_false, hlt]
    · intro k n hk
      rw [List.getElem?_take] at hk
      split at hk
      · rename_i hkl
        have h2 : k < zs.length := by omega
        have := hcell k h2
        rw [List.getD_eq_getElem?_getD, hk] at this
        by_cases hk0 : k = 0
        · subst hk0; simpa [Addr.add] using this
        · simpa [Addr.add, hk0] using this
      · cases hk
    · intro n hn
      exact wf_i64 (hwz n (List.mem_of_mem_take hn))

theorem flat_fits {r : TypeId → Option (List Lf)} {cs : List Value} {m : Nat}
    (hr : ∀ t ls cs' x, r t = some ls → (Lf.ints ∈ ls → Side w cs') → DataW.trod enc P w 0 (fun _ => true) true m t cs' = some x → Fits w ls cs') :
    ∀ (fs : List (TypeId × Nat)) (off : Nat) (ls : List Lf), flatO P r fs off = some ls → (Lf.ints ∈ ls → Side w cs) →
      (∀ f ∈ fs, ∃ x, DataW.trod enc P w 0 (fun _ => true) true m f.1 ((cs.drop f.2).take (P.cellsOf f.1)) = some x) → Fits w ls ((cs.drop off).take ls.length)
  | [], off, ls, h, _, _ => by cases h; rfl
  | (t, o) :: fs, off, ls, h, hs, hx => by
    unfold flatO at h
    split at h
    · rename_i ho
      subst ho
      split at h
      · rename_i l1 h1
        split at h
        · rename_i hc
          simp only [Option.map_eq_some_iff] at h
          obtain ⟨l2, h2, rfl⟩ := h
          obtain ⟨x, hxx⟩ := hx (t, o) (by simp)
          have f1 := hr t l1 _ x h1 (fun hm => (hs (List.mem_append_left _ hm)).part _ _) hxx
          have f2 := flat_fits hr fs _ l2 h2 (fun hm => hs (List.mem_append_right _ hm)) (fun f hf => hx f (by simp [hf]))
          have := f1.append f2
          simp only at this
          rw [hc, ← List.drop_drop, ← List.take_add] at this
          rw [List.length_append]
          exact this
        · cases h
      · cases h
    · cases h

theorem fits_of : ∀ (n : Nat) (t : TypeId) (ls : List Lf) (cs : List Value) (fuel : Nat) (x : DataW H × List MemPlace), lfOf P n t = some ls → (Lf.ints ∈ ls → Side w cs) → DataW.trod enc P w 0 (fun _ => true) true fuel t cs = some x → Fits w ls cs
  | 0, t, ls, cs, fuel, x, h, _, _ => by cases h
  | n + 1, t, ls, cs, fuel, x, h, hs, hx => by
    unfold lfOf at h
    split at h
    · rename_i k hk
      cases h
      obtain ⟨m, rfl, _, hw⟩ := DataW.trod_int hk hx
      exact ⟨m, [], rfl, hw, rfl⟩
    · rename_i hk
      cases h
      obtain ⟨b, rfl, _⟩ := DataW.trod_bool hk hx
      exact ⟨b, [], rfl, rfl⟩
    · rename_i e hk
      split at h
      · rename_i he
        split at h
        · rename_i hc
          cases h
          obtain ⟨y, rfl, hy⟩ := list_fits hk he hc (hs (by simp)) hx
          exact ⟨y, [], rfl, hy, rfl⟩
        · cases h
      · cases h
    · rename_i fs hk
      obtain ⟨xs, m, _, _, hl, hn, hf⟩ := DataW.trod_struct hk hx
      split at h
      · rename_i l1 h1
        split at h
        · rename_i hc
          cases h
          have := flat_fits (m := m) (fun t ls cs' x => fits_of n t ls cs' m x) _ 0 _ h1 hs (by
            intro f hfm
            obtain ⟨g, hg, rfl⟩ := List.mem_map.1 hfm
            obtain ⟨i, hi⟩ := List.getElem?_of_mem hg
            have hi' : fs[i]? = some g := by simpa using hi
            have hlt : i < xs.length := by rw [hn]; exact (Array.getElem?_eq_some_iff.1 hi').1
            exact ⟨xs[i], (hf i g hi').trans (List.getElem?_eq_getElem hlt)⟩)
          rw [List.drop_zero, List.take_of_length_le (by omega)] at this
          exact this
        · cases h
      · cases h
    · rename_i k e hk
      obtain ⟨xs, m, _, _, hl, hn, hf⟩ := DataW.trod_array hk hx
      split at h
      · rename_i l1 h1
        split at h
        · rename_i hc
          cases h
          have := flat_fits (m := m) (fun t ls cs' x => fits_of n t ls cs' m x) _ 0 _ h1 hs (by
            intro f hfm
            obtain ⟨i, hi, rfl⟩ := List.mem_map.1 hfm
            have hi' : i < k := by simpa using hi
            have hlt : i < xs.length := by omega
            exact ⟨xs[i], (hf i hi').trans (List.getElem?_eq_getElem hlt)⟩)
          rw [List.drop_zero, List.take_of_length_le (by omega)] at this
          exact this
        · cases h
      · cases h
    · cases h

theorem cell_side {t : TypeId} {a : Addr} {len cap b0 : Nat} (h : Cell.okWide P w .any b0 t (.slice (some a) len cap)) : a.spot = none ∧ a.block < w.heap.size := by
  have key : ∀ e, World.has P w .any b0 a e cap → a.spot = none ∧ a.block < w.heap.size := by
    rintro e ⟨_, hsp, row, cells, hsh, _⟩
    refine ⟨hsp, ?_⟩
    unfold World.shape? at hsh
    rcases Nat.lt_or_ge a.block w.heap.size with h | h
    · exact h
    · rw [Array.getElem?_eq_none h] at hsh; cases hsh
  unfold Cell.okWide at h
  cases hu : P.underlying t with
  | none => rw [hu] at h; simp [Cell.ok, hu] at h
  | some u =>
    rw [hu] at h
    cases u with
    | slice e => simp only [Cell.ok, hu] at h; exact key e h.2.2
    | _ => simp [Cell.ok, hu] at h

theorem open_struct {b0 n : Nat} {t : TypeId} {v : Value} {d : DataW H} {ps : List MemPlace} {ls : List Lf} {fs : Array Field} (hk : P.underlying t = some (.struct fs)) (hl : lfOf P n t = some ls)
    (hval : Value.okWide P w .any b0 t v) (hd : DataW.Trod enc P w 0 (fun _ => true) true t v d ps) : ∃ cs : List Value, v = .agg cs.toArray ∧ Fits w ls cs := by
  obtain ⟨fuel, hf⟩ := hd
  unfold Value.okWide at hval
  rw [hk] at hval
  obtain ⟨cs, rfl, _, ts, _, _, hrow⟩ := hval
  refine ⟨cs.toList, by simp, ?_⟩
  refine fits_of n t ls cs.toList fuel _ hl (fun _ => ?_) hf
  intro a len cap hm
  obtain ⟨i, hi⟩ := List.getElem?_of_mem hm
  have hi' : cs[i]? = some (.slice (some a) len cap) := by simpa using hi
  obtain ⟨u, _, hu⟩ := hrow i _ hi'
  exact cell_side hu

end

/-! ### Lists of samples -/
def smps (l : List (Int × Int)) : List AV := l.flatMap fun p => [.int .i64 p.1, .int .i64 p.2]
theorem smps_cons {p : Int × Int} {l : List (Int × Int)} : smps (p :: l) = .int .i64 p.1 :: .int .i64 p.2 :: smps l := rfl
theorem smps_length {l : List (Int × Int)} : (smps l).length = l.length * 2 := by
  induction l with
  | nil => rfl
  | cons p l ih => rw [smps_cons, List.length_cons, List.length_cons, List.length_cons, ih]; omega
theorem smps_get0 : ∀ {l : List (Int × Int)} {k : Nat}, (smps l)[k * 2]? = (l[k]?).map fun p => .int .i64 p.1
  | [], k => by simp [smps]
  | p :: l, 0 => rfl
  | p :: l, k + 1 => by rw [smps_cons, show (k + 1) * 2 = k * 2 + 1 + 1 by omega, List.getElem?_cons_succ, List.getElem?_cons_succ, List.getElem?_cons_succ]; exact smps_get0
theorem smps_get1 : ∀ {l : List (Int × Int)} {k : Nat}, (smps l)[k * 2 + 1]? = (l[k]?).map fun p => .int .i64 p.2
  | [], k => by simp [smps]
  | p :: l, 0 => rfl
  | p :: l, k + 1 => by rw [smps_cons, show (k + 1) * 2 + 1 = k * 2 + 1 + 1 + 1 by omega, List.getElem?_cons_succ, List.getElem?_cons_succ, List.getElem?_cons_succ]; exact smps_get1
theorem smps_append {l m : List (Int × Int)} : smps l ++ smps m = smps (l ++ m) := by simp [smps]
theorem smps_snoc {l : List (Int × Int)} {x y : Int} : smps l ++ [.int .i64 x, .int .i64 y] = smps (l ++ [(x, y)]) := by rw [← smps_append]; rfl
/-- A list of samples that can be read. -/
def SI (h : Heap) (v : AV) (l : List (Int × Int)) : Prop := SL h 2 v l.length (smps l)

structure InSmp where
  l : List (Int × Int)
  nil : Bool
  blk : Nat
  off : Nat
  cap : Nat
def InSmp.val (x : InSmp) : Value := if x.nil then .slice none 0 0 else .slice (some ⟨x.blk, x.off, none⟩) x.l.length x.cap
def InSmp.av (x : InSmp) (i : Nat) : AV := if x.nil then .nilslice else .slice i 0 x.l.length (.known x.cap)
def InSmp.row (x : InSmp) : Option (List AV) := if x.nil then none else some (smps x.l)
def InSmp.eb (x : InSmp) : EB := ⟨x.blk, x.off, 0⟩
structure InSmp.ok (x : InSmp) (w : World) : Prop where
  isNil : x.nil = true → x.l = []
  cap : x.nil = false → x.l.length ≤ x.cap
  lt : x.l.length < 9223372036854775808
  blk : x.nil = false → x.blk < w.heap.size
  cell : ∀ k p, x.l[k]? = some p → w.cell? ⟨x.blk, x.off + k * 2, none⟩ = some (.int .i64 p.1) ∧ w.cell? ⟨x.blk, x.off + k * 2 + 1, none⟩ = some (.int .i64 p.2)
  num : ∀ p ∈ x.l, (-9223372036854775808 ≤ p.1 ∧ p.1 ≤ 9223372036854775807) ∧ (-9223372036854775808 ≤ p.2 ∧ p.2 ≤ 9223372036854775807)

theorem list_choose {α : Type} {Q : Nat → α → Prop} : ∀ (n : Nat), (∀ i, i < n → ∃ a, Q i a) → ∃ l : List α, l.length = n ∧ ∀ i a, l[i]? = some a → Q i a
  | 0, _ => ⟨[], rfl, by simp⟩
  | n + 1, h => by
    obtain ⟨l, hl, hq⟩ := list_choose n (fun i hi => h i (by omega))
    obtain ⟨a, ha⟩ := h n (by omega)
    refine ⟨l ++ [a], by simp [hl], fun i b hb => ?_⟩
    rcases Nat.lt_or_ge i n with x | x
    · rw [List.getElem?_append_left (by omega)] at hb; exact hq i b hb
    · have hi : i = n := by
        have := (List.getElem?_eq_some_iff.1 hb).1
        rw [List.length_append, hl] at this
        simp at this; omega
      subst hi
      rw [List.getElem?_append_right (by omega), hl, Nat.sub_self] at hb
      cases hb; exact ha

theorem cells_two {w : World} {a : Addr} {cs : List Value} (h : w.cells? 0 a 2 = some cs) : ∃ x y, cs = [x, y] ∧ w.cell? (a.add 0) = some x ∧ w.cell? (a.add 1) = some y := by
  unfold World.cells? at h
  rw [if_pos (Nat.zero_le _)] at h
  simp only [List.range, List.range.loop, List.mapM_cons, List.mapM_nil, Option.bind_eq_bind, Option.bind_eq_some_iff] at h
  obtain ⟨x, hx, z, ⟨y, hy, z', hz', e2⟩, e3⟩ := h
  cases hz'; cases e2; cases e3
  exact ⟨x, y, rfl, hx, hy⟩

section
variable {H : Type} {enc : TypeId × Value → H} {P : Program} {w : World}
theorem open_smps {b0 n : Nat} {t e : TypeId} {v : Value} {d : DataW H} {ps : List MemPlace} (ht : P.underlying t = some (.slice e)) (he : lfOf P n e = some [.int .i64, .int .i64]) (hc : P.cellsOf e = 2)
    (hval : Value.okWide P w .any b0 t v) (hd : DataW.Trod enc P w 0 (fun _ => true) true t v d ps) : ∃ x : InSmp, v = x.val ∧ x.ok w := by
  have hval' := hval
  obtain ⟨a0, len, cap, rfl⟩ := okWide_slice ht hval
  obtain ⟨fuel, hf⟩ := hd
  rcases DataW.trod_slice ht hf with ⟨hcs, _⟩ | ⟨a, len', cap', elems, rest, m, _, hcs, _, _, hl, hm, hlen, hel, hsp, _⟩
  · simp only [Value.cells, Array.toList] at hcs
    cases hcs
    exact ⟨⟨[], true, 0, 0, 0⟩, rfl, ⟨fun _ => rfl, fun h => (by cases h), by simp, fun h => (by cases h), by simp, by simp⟩⟩
  · simp only [Value.cells, Array.toList] at hcs
    cases hcs
    unfold Value.okWide at hval'
    rw [ht] at hval'
    obtain ⟨hspot, hblk⟩ := cell_side (P := P) (t := t) hval'
    have hmax : cap ≤ 9223372036854775807 := hm
    obtain ⟨ab, ao, asp⟩ := a
    simp only at hspot hblk
    subst hspot
    have hadd : ∀ o k, Addr.add ⟨ab, o, none⟩ k = ⟨ab, o + k, none⟩ := by intro o k; unfold Addr.add; split <;> simp_all
    have each : ∀ i, i < len → ∃ p : Int × Int, (w.cell? ⟨ab, ao + i * 2, none⟩ = some (.int .i64 p.1) ∧ w.cell? ⟨ab, ao + i * 2 + 1, none⟩ = some (.int .i64 p.2)) ∧
        (-9223372036854775808 ≤ p.1 ∧ p.1 ≤ 9223372036854775807) ∧ (-9223372036854775808 ≤ p.2 ∧ p.2 ≤ 9223372036854775807) := by
      intro i hi
      have q := hel i hi
      have hlt : i < elems.length := by omega
      rw [List.getElem?_eq_getElem hlt, hc, Option.bind_eq_some_iff] at q
      obtain ⟨cs, hcs, htr⟩ := q
      obtain ⟨x, y, rfl, hx, hy⟩ := cells_two hcs
      rw [hadd, hadd] at hx hy
      obtain ⟨u, _, e1, w1, z, _, e2, w2, e3⟩ := fits_of n e _ _ _ _ he (fun hm => absurd hm (by decide)) htr
      cases e1; cases e2
      exact ⟨(u, z), ⟨by simpa using hx, by simpa [Nat.add_assoc] using hy⟩, wf_i64 w1, wf_i64 w2⟩
    obtain ⟨l, hll, hq⟩ := list_choose len each
    refine ⟨⟨l, false, ab, ao, cap⟩, ?_, ⟨fun h => (by cases h), fun _ => (by rw [hll]; exact hl), (by rw [hll]; omega), fun _ => hblk, fun k p hk => (hq k p hk).1, ?_⟩⟩
    · simp only [InSmp.val, Bool.false_eq_true, if_false, hll]
    · intro p hp
      obtain ⟨i, hi⟩ := List.getElem?_of_mem hp
      exact (hq i p hi).2
end

theorem open_boolA {H : Type} {enc : TypeId × Value → H} {P : Program} {w : World} {b0 : Nat} {t : TypeId} {v : Value} {d : DataW H} {ps : List MemPlace} (ht : P.underlying t = some .bool)
    (hval : Value.okWide P w .any b0 t v) (_hd : DataW.Trod enc P w 0 (fun _ => true) true t v d ps) : ∃ b, v = .bool b := okWide_bool ht hval

theorem SI.known {h : Heap} {l : List (Int × Int)} {i : Nat} {wr : Bool} {u c m : Nat} (hg : h.get i = some (.cells (smps l) wr u)) (hm : m = l.length ∧ m < 9223372036854775808) (hc : m ≤ c) : SI h (.slice i 0 m (.known c)) l := by
  obtain ⟨rfl, hm⟩ := hm
  refine ⟨smps_length, hm, .inr ⟨i, 0, _, _, wr, u, rfl, hg, by rw [smps_length]; omega, ?_, hc⟩⟩
  exact cut_all (by rw [smps_length])
theorem SI.nil {h : Heap} : SI h .nilslice [] := ⟨rfl, by decide, .inl ⟨rfl, rfl⟩⟩

theorem InSmp.ri {x : InSmp} {w : World} {bs : List (Option (List AV))} {i : Nat} (hx : x.ok w) (hi : bs[i]? = some x.row) : SI (argHeap bs) (x.av i) x.l := by
  unfold InSmp.av
  cases hn : x.nil with
  | true =>
    rw [hx.isNil hn, if_pos rfl]; exact SI.nil
  | false =>
    rw [if_neg (by simp)]
    refine SI.known (argHeap_get (hi.trans ?_)) ⟨rfl, hx.lt⟩ (hx.cap hn)
    simp [InSmp.row, hn]
theorem InSmp.av_val {x : InSmp} {i : Nat} {lk : Nat → FuncId} {env : Env} (he : env i = x.eb) : (x.av i).val lk env = x.val := by
  unfold InSmp.av InSmp.val
  cases hn : x.nil with
  | true => rfl
  | false => simp [AV.val, he, InSmp.eb, Cap.at]
theorem InSmp.av_bel {x : InSmp} {w : World} {bs : List (Option (List AV))} {i : Nat} (hi : bs[i]? = some x.row) : (x.av i).bel (argHeap bs).ok := by
  unfold InSmp.av
  cases hn : x.nil with
  | true => trivial
  | false =>
    show (argHeap bs).ok i
    have : bs[i]? = some (some (smps x.l)) := hi.trans (by simp [InSmp.row, hn])
    simp [Heap.ok, argHeap_get this]
theorem InSmp.rowOk {C : Ctx} {x : InSmp} {w : World} {bs : List (Option (List AV))} {env : Env} {i : Nat} {vs : List AV} (hx : x.ok w) (he : env i = x.eb) (hv : x.row = some vs) : (env i).blk < w.heap.size ∧ (∀ v ∈ vs, v.bel (argHeap bs).ok) ∧
    ∀ k v, vs[k]? = some v → w.cell? ⟨(env i).blk, (env i).sh + k, none⟩ = some (v.val C.lk env) := by
  unfold InSmp.row at hv
  split at hv
  · cases hv
  · rename_i hn
    cases hv
    rw [he]
    refine ⟨hx.blk (by simpa using hn), ?_, ?_⟩
    · intro v hv
      obtain ⟨p, _, hp⟩ := List.mem_flatMap.1 hv
      simp only [List.mem_cons, List.not_mem_nil, or_false] at hp
      rcases hp with rfl | rfl <;> trivial
    · intro k v hk
      rcases Nat.mod_two_eq_zero_or_one k with e | e
      · obtain ⟨j, rfl⟩ : ∃ j, k = j * 2 := ⟨k / 2, by omega⟩
        rw [smps_get0, Option.map_eq_some_iff] at hk
        obtain ⟨p, hp, rfl⟩ := hk
        exact (hx.cell j p hp).1
      · obtain ⟨j, rfl⟩ : ∃ j, k = j * 2 + 1 := ⟨k / 2, by omega⟩
        rw [smps_get1, Option.map_eq_some_iff] at hk
        obtain ⟨p, hp, rfl⟩ := hk
        exact (hx.cell j p hp).2
end Go.Ae

/- The rules for the simplifier, bundled. Printed by a program. -/
namespace Go.Ae
theorem wpPre :
    (∀ {C : Ctx} {nt : Nat} {rd : Option Nat} {a b : ACode} {Q : Out → St → Prop} {st : St}, @Eq Prop (wp C nt rd (ACode.seq a b) Q st) (wp C nt rd a (thenO (wp C nt rd b Q) Q) st)) ∧
    (∀ {C : Ctx} {nt : Nat} {rd : Option Nat} {ops : List AOper} {Q : Out → St → Prop} {st : St}, @Eq Prop (wp C nt rd (ACode.region ops) Q st) (wpOps C ops (Q Out.normal) st)) ∧
    (∀ {C : Ctx} {nt : Nat} {rd : Option Nat} {n : Nat} {ds : List DItem} {Q : Out → St → Prop} {st : St}, @Eq Prop (wp C nt rd (ACode.draw n ds) Q st) (wpDraw C n ds (Q Out.normal) st)) ∧
    (∀ {C : Ctx} {nt : Nat} {rd : Option Nat} {c : AOpd} {a b : ACode} {Q : Out → St → Prop} {st : St}, @Eq Prop (wp C nt rd (ACode.cond c a b) Q st) (@condV (AOpd.ev (St.t st) c) (Hold.mk (wp C nt rd a Q st)) (Hold.mk (wp C nt rd b Q st)))) ∧
    (∀ {C : Ctx} {nt : Nat} {rd : Option Nat} {id : Nat} {c : ACode} {Q : Out → St → Prop} {st : St}, @Eq Prop (wp C nt rd (ACode.block id c) Q st) (wp C nt rd c (blockO id Q) st)) ∧
    (∀ {C : Ctx} {nt : Nat} {rd : Option Nat} {Q : Out → St → Prop} {st : St}, @Eq Prop (wp C nt rd ACode.skip Q st) (Q Out.normal st)) ∧
    (∀ {C : Ctx} {nt : Nat} {rd : Option Nat} {id : Nat} {Q : Out → St → Prop} {st : St}, @Eq Prop (wp C nt rd (ACode.exit id) Q st) (Q (Out.exit id) st)) ∧
    (∀ {C : Ctx} {nt : Nat} {rd : Option Nat} {Q : Out → St → Prop} {st : St}, @Eq Prop (wp C nt rd ACode.ret Q st) (Q Out.ret st)) ∧
    (∀ {C : Ctx} {nt : Nat} {rd : Option Nat} {f : AOpd} {ps : List Nat} {a b : ACode} {Q : Out → St → Prop} {st : St}, @Eq Prop (wp C nt rd (ACode.rangeFunc f ps a b) Q st) (wpRange C nt rd (AOpd.ev (St.t st) f) ps a b Q st)) ∧
    (∀ {K : St → Prop} {Q : Out → St → Prop} {st : St}, @Eq Prop (thenO K Q Out.normal st) (K st)) ∧
    (∀ {K : St → Prop} {Q : Out → St → Prop} {id : Nat} {st : St}, @Eq Prop (thenO K Q (Out.exit id) st) (Q (Out.exit id) st)) ∧
    (∀ {K : St → Prop} {Q : Out → St → Prop} {st : St}, @Eq Prop (thenO K Q Out.ret st) (Q Out.ret st)) ∧
    (∀ {i : Nat} {Q : Out → St → Prop} {st : St}, @Eq Prop (blockO i Q (Out.exit i) st) (Q Out.normal st)) ∧
    (∀ {i j : Nat} {Q : Out → St → Prop} {st : St}, @Eq Bool (@BEq.beq Nat (@instBEqOfDecidableEq Nat instDecidableEqNat) j i) false → @Eq Prop (blockO i Q (Out.exit j) st) (Q (Out.exit j) st)) ∧
    (∀ {i : Nat} {Q : Out → St → Prop} {st : St}, @Eq Prop (blockO i Q Out.normal st) (Q Out.normal st)) ∧
    (∀ {i : Nat} {Q : Out → St → Prop} {st : St}, @Eq Prop (blockO i Q Out.ret st) (Q Out.ret st)) ∧
    (∀ {C : Ctx} {K : St → Prop} {st : St}, @Eq Prop (wpOps C (@List.nil AOper) K st) (K st)) ∧
    (∀ {C : Ctx} {d : Option Nat} {op : AOp} {os : List AOper} {K : St → Prop} {st : St}, @Eq Prop (wpOps C (@List.cons AOper (AOper.mk d op (@none (Prod Nat Bool))) os) K st) (wpOp C (@none Nat) (AOper.mk d op (@none (Prod Nat Bool))) (wpOps C os K) st)) ∧
    (∀ {C : Ctx} {d : Option Nat} {op : AOp} {s : Nat} {w : Bool} {os : List AOper} {K : St → Prop} {st : St}, @Eq Prop (wpOps C (@List.cons AOper (AOper.mk d op (@some (Prod Nat Bool) (@Prod.mk Nat Bool s w))) os) K st) (@gV (St.t st s) w (Hold.mk (wpOp C (@none Nat) (AOper.mk d op (@some (Prod Nat Bool) (@Prod.mk Nat Bool s w))) (wpOps C os K) st)) (Hold.mk (wpOps C os K (St.put st d AV.undef))))) ∧
    (∀ {C : Ctx} {nid d : Option Nat} {f : AOpd} {args : List AOpd} {g : Option (Prod Nat Bool)} {K : St → Prop} {st : St}, @Eq Prop (wpOp C nid (AOper.mk d (AOp.call f args) g) K st) (@Call C (AOpd.ev (St.t st) f) (@List.map AOpd AV (AOpd.ev (St.t st)) args) (St.h st) (HoldR.mk fun r h' => K (St.put (St.mk (St.t st) h' (St.m st)) d r)))) ∧
    (∀ {C : Ctx} {nid d : Option Nat} {op : AOp} {g : Option (Prod Nat Bool)} {K : St → Prop} {st : St}, @Eq Bool (AOp.isCall op) false → @Eq Prop (wpOp C nid (AOper.mk d op g) K st) (@opR nid op (AOpd.ev (St.t st)) (St.h st) (HoldR.mk fun v h' => K (St.put (St.mk (St.t st) h' (St.m st)) d v)))) ∧
    (∀ {t : Nat → AV} {h : Heap} {m : List Nat} {s : Nat} {v : AV}, @Eq St (St.put (St.mk t h m) (@some Nat s) v) (St.mk (upd t s v) h m)) ∧
    (∀ {t : Nat → AV} {h : Heap} {m : List Nat} {v : AV}, @Eq St (St.put (St.mk t h m) (@none Nat) v) (St.mk t h m)) ∧
    (∀ {C : Ctx} {ds : List DItem} {K : St → Prop} {st : St}, @Eq Prop (wpDraw C (@OfNat.ofNat Nat (nat_lit 0) (instOfNatNat (nat_lit 0))) ds K st) (wpD C (Heap.size (St.h st)) ds (@List.nil (Prod Nat (Prod (List Nat) (List Nat)))) K st)) ∧
    (∀ {C : Ctx} {n : Nat} {ds : List DItem} {K : St → Prop} {t : Nat → AV} {h : Heap} {m : List Nat}, @Eq Bool (@BEq.beq Nat (@instBEqOfDecidableEq Nat instDecidableEqNat) n (@OfNat.ofNat Nat (nat_lit 0) (instOfNatNat (nat_lit 0)))) false → @Eq Prop (wpDraw C n ds K (St.mk t h m)) (wpD C (Heap.size h) ds (@List.nil (Prod Nat (Prod (List Nat) (List Nat)))) K (St.mk t (Heap.reserve h n) m))) ∧
    (∀ {res : List ARes} {Post : AV → Heap → Prop} {t : Nat → AV} {h : Heap} {i : Nat} {m : List Nat}, @Eq Prop (retO res Post Out.ret (St.mk t h (@List.cons Nat i m))) (@atDefd (Heap.get h i) (Hold.mk (retO res Post Out.ret (St.mk t (Heap.put h i (ABlk.defd false)) m))))) ∧
    (∀ {res : List ARes} {Post : AV → Heap → Prop} {t : Nat → AV} {h : Heap} {i : Nat} {m : List Nat}, @Eq Prop (retO res Post Out.normal (St.mk t h (@List.cons Nat i m))) (@atDefd (Heap.get h i) (Hold.mk (retO res Post Out.normal (St.mk t (Heap.put h i (ABlk.defd false)) m))))) ∧
    (∀ {C : Ctx} {nt l : Nat} {body : ACode} {Post : AV → Heap → Prop} {st : St}, @Eq Prop (beginO C nt l body Post Out.normal st) (@atLoop (Heap.get (St.h st) l) (HoldL.mk fun r => And (@Eq LoopState (ALoop.state r) LoopState.ready) (wp C nt (@some Nat l) body (roundO l Post) (St.mk (St.t st) (Heap.put (St.h st) l (ABlk.loop (ALoop.mk LoopState.busy (ALoop.pend r) (ALoop.t r) (ALoop.nt r) (ALoop.params r) (ALoop.assign r) (ALoop.body r) (ALoop.defers r)))) (St.m st)))))) ∧
    (∀ {l : Nat} {Post : AV → Heap → Prop} {st : St}, @Eq Prop (roundO l Post Out.normal st) (@atLoop (Heap.get (St.h st) l) (HoldL.mk fun r => Post (AV.bool true) (Heap.put (St.h st) l (ABlk.loop (ALoop.mk LoopState.ready (@none Out) (ALoop.t r) (ALoop.nt r) (ALoop.params r) (ALoop.assign r) (ALoop.body r) (ALoop.defers r))))))) ∧
    (∀ {l i : Nat} {Post : AV → Heap → Prop} {st : St}, @Eq Prop (roundO l Post (Out.exit i) st) (@atLoop (Heap.get (St.h st) l) (HoldL.mk fun r => Post (AV.bool false) (Heap.put (St.h st) l (ABlk.loop (ALoop.mk LoopState.done (@some Out (Out.exit i)) (ALoop.t r) (ALoop.nt r) (ALoop.params r) (ALoop.assign r) (ALoop.body r) (ALoop.defers r))))))) ∧
    (∀ {l : Nat} {Post : AV → Heap → Prop} {st : St}, @Eq Prop (roundO l Post Out.ret st) (@atLoop (Heap.get (St.h st) l) (HoldL.mk fun r => Post (AV.bool false) (Heap.put (St.h st) l (ABlk.loop (ALoop.mk LoopState.done (@some Out Out.ret) (ALoop.t r) (ALoop.nt r) (ALoop.params r) (ALoop.assign r) (ALoop.body r) (ALoop.defers r))))))) ∧
    (∀ {C : Ctx} {base : Nat} {acc : Acc} {K : St → Prop} {st : St}, @Eq Prop (wpD C base (@List.nil DItem) acc K st) (K st)) ∧
    (∀ {C : Ctx} {base k : Nat} {mem : Bool} {ck : List Nat} {d : Option Nat} {op : AOp} {s : Nat} {w : Bool} {ds : List DItem} {acc : Acc} {K : St → Prop} {st : St}, @Eq Prop (wpD C base (@List.cons DItem (DItem.mk k mem ck (AOper.mk d op (@some (Prod Nat Bool) (@Prod.mk Nat Bool s w)))) ds) acc K st) (@gV (St.t st s) w (Hold.mk (wpD C base (@List.cons DItem (DItem.mk k mem ck (AOper.mk d op (@none (Prod Nat Bool)))) ds) acc K st)) (Hold.mk (wpD C base ds acc K (St.put st d AV.undef))))) ∧
    (∀ {C : Ctx} {base k : Nat} {ck : List Nat} {d : Option Nat} {op : AOp} {ds : List DItem} {acc : Acc} {K : St → Prop} {st : St}, @Eq Bool (AOp.isCall op) false → @Eq Prop (wpD C base (@List.cons DItem (DItem.mk k false ck (AOper.mk d op (@none (Prod Nat Bool)))) ds) acc K st) (And (chkP acc ck op (AOpd.ev (St.t st)) (@HAdd.hAdd Nat Nat Nat (@instHAdd Nat instAddNat) base k)) (@opR (@some Nat (@HAdd.hAdd Nat Nat Nat (@instHAdd Nat instAddNat) base k)) op (AOpd.ev (St.t st)) (St.h st) (HoldR.mk fun v h' => wpD C base ds acc K (St.put (St.mk (St.t st) h' (St.m st)) d v))))) ∧
    (∀ {C : Ctx} {base k : Nat} {ck : List Nat} {d : Option Nat} {op : AOp} {ds : List DItem} {acc : Acc} {K : St → Prop} {st : St}, @Eq Bool (AOp.isCall op) false → @Eq Prop (wpD C base (@List.cons DItem (DItem.mk k true ck (AOper.mk d op (@none (Prod Nat Bool)))) ds) acc K st) (And (chkP acc ck op (AOpd.ev (St.t st)) (@HAdd.hAdd Nat Nat Nat (@instHAdd Nat instAddNat) base k)) (@opR (@some Nat (@HAdd.hAdd Nat Nat Nat (@instHAdd Nat instAddNat) base k)) op (AOpd.ev (St.t st)) (St.h st) (HoldR.mk fun v h' => wpD C base ds (@List.cons (Prod Nat (Prod (List Nat) (List Nat))) (@Prod.mk Nat (Prod (List Nat) (List Nat)) k (@Prod.mk (List Nat) (List Nat) (footA op (AOpd.ev (St.t st)) (@HAdd.hAdd Nat Nat Nat (@instHAdd Nat instAddNat) base k)) (wrA op (AOpd.ev (St.t st)) (@HAdd.hAdd Nat Nat Nat (@instHAdd Nat instAddNat) base k)))) acc) K (St.put (St.mk (St.t st) h' (St.m st)) d v))))) ∧
    (∀ {C : Ctx} {base k : Nat} {mem : Bool} {ck : List Nat} {d : Option Nat} {f : AOpd} {args : List AOpd} {ds : List DItem} {acc : Acc} {K : St → Prop} {st : St}, @Eq Prop (wpD C base (@List.cons DItem (DItem.mk k mem ck (AOper.mk d (AOp.call f args) (@none (Prod Nat Bool)))) ds) acc K st) (@Call C (AOpd.ev (St.t st) f) (@List.map AOpd AV (AOpd.ev (St.t st)) args) (St.h st) (HoldR.mk fun r h' => And (chkS acc ck (St.h st) h') (wpD C base ds acc K (St.put (St.mk (St.t st) h' (St.m st)) d r))))) :=
  ⟨@wp_seq,
   @wp_region,
   @wp_draw,
   @wp_cond,
   @wp_block,
   @wp_skip,
   @wp_exit,
   @wp_ret,
   @wp_range,
   @thenO_normal,
   @thenO_exit,
   @thenO_ret,
   @blockO_same,
   @blockO_other,
   @blockO_normal,
   @blockO_ret,
   @wpOps_nil,
   @wpOps_cons,
   @wpOps_guard,
   @wpOp_call,
   @wpOp_op,
   @put_some,
   @put_none,
   @wpDraw_zero,
   @wpDraw_some,
   @retO_marks,
   @retO_marksN,
   @beginO_normal,
   @roundO_normal,
   @roundO_exit,
   @roundO_ret,
   @wpD_nil,
   @wpD_guard,
   @wpD_op,
   @wpD_opM,
   @wpD_call⟩
theorem wpPost :
    (∀ {h : Heap} {nid : Option Nat} {sz bytes i o n c m : Nat} {news : List AV}, @Ne Nat m (@OfNat.ofNat Nat (nat_lit 0) (instOfNatNat (nat_lit 0))) → @Eq (Option (Prod AV Heap)) (appendA h nid sz bytes (AV.slice i o n (Cap.known c)) m news) (appKB h nid sz bytes i o n c m news (Heap.get h i))) ∧
    (∀ {h : Heap} {sz bytes i o n c m : Nat} {news vs : List AV} {u : Nat}, @LE.le Nat instLENat (@HAdd.hAdd Nat Nat Nat (@instHAdd Nat instAddNat) o (@HMul.hMul Nat Nat Nat (@instHMul Nat instMulNat) n sz)) (@List.length AV vs) → @LT.lt Nat instLTNat c (@HAdd.hAdd Nat Nat Nat (@instHAdd Nat instAddNat) n m) → @LE.le Nat instLENat (@HMul.hMul Nat Nat Nat (@instHMul Nat instMulNat) (@HAdd.hAdd Nat Nat Nat (@instHAdd Nat instAddNat) n m) bytes) (@OfNat.ofNat Nat (nat_lit 1099511627776) (instOfNatNat (nat_lit 1099511627776))) → @Eq (Option (Prod AV Heap)) (appKB h (@none Nat) sz bytes i o n c m news (@some ABlk (ABlk.cells vs true u))) (@some (Prod AV Heap) (@Prod.mk AV Heap (AV.slice (Heap.size h) (@OfNat.ofNat Nat (nat_lit 0) (instOfNatNat (nat_lit 0))) (@HAdd.hAdd Nat Nat Nat (@instHAdd Nat instAddNat) n m) (Cap.unk (@OfNat.ofNat Nat (nat_lit 0) (instOfNatNat (nat_lit 0))))) (Heap.push h (ABlk.cells (@HAppend.hAppend (List AV) (List AV) (List AV) (@instHAppendOfAppend (List AV) (@List.instAppend AV)) (cut vs o (@HMul.hMul Nat Nat Nat (@instHMul Nat instMulNat) n sz)) news) true sz))))) ∧
    (∀ {h : Heap} {nid : Option Nat} {sz bytes i o n c m : Nat} {news vs : List AV} {u : Nat}, @LE.le Nat instLENat (@HAdd.hAdd Nat Nat Nat (@instHAdd Nat instAddNat) o (@HMul.hMul Nat Nat Nat (@instHMul Nat instMulNat) n sz)) (@List.length AV vs) → @LE.le Nat instLENat (@HAdd.hAdd Nat Nat Nat (@instHAdd Nat instAddNat) n m) c → @LE.le Nat instLENat (@HAdd.hAdd Nat Nat Nat (@instHAdd Nat instAddNat) o (@HMul.hMul Nat Nat Nat (@instHMul Nat instMulNat) (@HAdd.hAdd Nat Nat Nat (@instHAdd Nat instAddNat) n m) sz)) (@List.length AV vs) → @Eq Bool (@List.all AV news AV.one) true → @Eq (Option (Prod AV Heap)) (appKB h nid sz bytes i o n c m news (@some ABlk (ABlk.cells vs true u))) (@some (Prod AV Heap) (@Prod.mk AV Heap (AV.slice i o (@HAdd.hAdd Nat Nat Nat (@instHAdd Nat instAddNat) n m) (Cap.known c)) (Heap.put h i (ABlk.cells (splice vs (@HAdd.hAdd Nat Nat Nat (@instHAdd Nat instAddNat) o (@HMul.hMul Nat Nat Nat (@instHMul Nat instMulNat) n sz)) news) true u))))) ∧
    (∀ {h : Heap} {nid : Option Nat} {sz bytes i o n l m : Nat} {news : List AV}, @Eq (Option (Prod AV Heap)) (appendA h nid sz bytes (AV.slice i o n (Cap.unk l)) m news) (appUB h nid sz bytes i o n l m news (Heap.get h i))) ∧
    (∀ {h : Heap} {sz bytes i n m : Nat} {news vs : List AV}, @LE.le Nat instLENat (@HMul.hMul Nat Nat Nat (@instHMul Nat instMulNat) n sz) (@List.length AV vs) → @LT.lt Nat instLTNat (@OfNat.ofNat Nat (nat_lit 0) (instOfNatNat (nat_lit 0))) m → @LE.le Nat instLENat (@HMul.hMul Nat Nat Nat (@instHMul Nat instMulNat) (@HAdd.hAdd Nat Nat Nat (@instHAdd Nat instAddNat) n m) bytes) (@OfNat.ofNat Nat (nat_lit 1099511627776) (instOfNatNat (nat_lit 1099511627776))) → @Eq Bool (@List.all AV news AV.one) true → @Eq (Option (Prod AV Heap)) (appUB h (@none Nat) sz bytes i (@OfNat.ofNat Nat (nat_lit 0) (instOfNatNat (nat_lit 0))) n (@OfNat.ofNat Nat (nat_lit 0) (instOfNatNat (nat_lit 0))) m news (@some ABlk (ABlk.cells vs true sz))) (@some (Prod AV Heap) (@Prod.mk AV Heap (AV.slice (Heap.size h) (@OfNat.ofNat Nat (nat_lit 0) (instOfNatNat (nat_lit 0))) (@HAdd.hAdd Nat Nat Nat (@instHAdd Nat instAddNat) n m) (Cap.unk (@OfNat.ofNat Nat (nat_lit 0) (instOfNatNat (nat_lit 0))))) (Heap.push (Heap.put h i ABlk.dead) (ABlk.cells (@HAppend.hAppend (List AV) (List AV) (List AV) (@instHAppendOfAppend (List AV) (@List.instAppend AV)) (cut vs (@OfNat.ofNat Nat (nat_lit 0) (instOfNatNat (nat_lit 0))) (@HMul.hMul Nat Nat Nat (@instHMul Nat instMulNat) n sz)) news) true sz))))) ∧
    (∀ {h : Heap} {sz bytes m : Nat} {news : List AV}, @Ne Nat m (@OfNat.ofNat Nat (nat_lit 0) (instOfNatNat (nat_lit 0))) → @LE.le Nat instLENat (@HMul.hMul Nat Nat Nat (@instHMul Nat instMulNat) m bytes) (@OfNat.ofNat Nat (nat_lit 1099511627776) (instOfNatNat (nat_lit 1099511627776))) → @Eq (Option (Prod AV Heap)) (appendA h (@none Nat) sz bytes AV.nilslice m news) (@some (Prod AV Heap) (@Prod.mk AV Heap (AV.slice (Heap.size h) (@OfNat.ofNat Nat (nat_lit 0) (instOfNatNat (nat_lit 0))) m (Cap.unk (@OfNat.ofNat Nat (nat_lit 0) (instOfNatNat (nat_lit 0))))) (Heap.push h (ABlk.cells news true sz))))) ∧
    (∀ {h : Heap} {nid : Option Nat} {sz bytes : Nat} {news : List AV}, @Eq (Option (Prod AV Heap)) (appendA h nid sz bytes AV.nilslice (@OfNat.ofNat Nat (nat_lit 0) (instOfNatNat (nat_lit 0))) news) (@some (Prod AV Heap) (@Prod.mk AV Heap AV.nilslice h))) ∧
    (∀ {nid : Option Nat} {sz bytes : Nat} {h : Heap} {s : AV} {m : Nat} {news : List AV}, @Eq (Option (Prod AV Heap)) (appA nid sz bytes h s (@some (Prod Nat (List AV)) (@Prod.mk Nat (List AV) m news))) (appendA h nid sz bytes s m news)) ∧
    (∀ {p : Prop}, @Eq Prop (@atDefd (@some ABlk (ABlk.defd true)) (Hold.mk p)) p) ∧
    (∀ {res : List ARes} {Post : AV → Heap → Prop} {t : Nat → AV} {h : Heap}, @Eq Prop (retO res Post Out.ret (St.mk t h (@List.nil Nat))) (retO_ret.match_1 (fun x => Prop) (resA t h res) (fun vs => Post (retA vs) h) fun _ => False)) ∧
    (∀ {res : List ARes} {Post : AV → Heap → Prop} {t : Nat → AV} {h : Heap}, @Eq Prop (retO res Post Out.normal (St.mk t h (@List.nil Nat))) (retO_ret.match_1 (fun x => Prop) (resA t h res) (fun vs => Post (retA vs) h) fun _ => False)) ∧
    (∀ {acc : Acc} {op : AOp} {ev : AOpd → AV} {n : Nat}, @Eq Prop (chkP acc (@List.nil Nat) op ev n) True) ∧
    (∀ {ck : List Nat} {op : AOp} {ev : AOpd → AV} {n : Nat}, @Eq Prop (chkP (@List.nil (Prod Nat (Prod (List Nat) (List Nat)))) ck op ev n) True) ∧
    (∀ {k : Nat} {f w : List Nat} {acc : List (Prod Nat (Prod (List Nat) (List Nat)))} {ck : List Nat} {op : AOp} {ev : AOpd → AV} {n : Nat}, @Eq Bool (@List.contains Nat (@instBEqOfDecidableEq Nat instDecidableEqNat) ck k) false → @Eq Prop (chkP (@List.cons (Prod Nat (Prod (List Nat) (List Nat))) (@Prod.mk Nat (Prod (List Nat) (List Nat)) k (@Prod.mk (List Nat) (List Nat) f w)) acc) ck op ev n) (chkP acc ck op ev n)) ∧
    (∀ {k : Nat} {f w : List Nat} {acc : List (Prod Nat (Prod (List Nat) (List Nat)))} {ck : List Nat} {op : AOp} {ev : AOpd → AV} {n : Nat}, @Eq Bool (@List.contains Nat (@instBEqOfDecidableEq Nat instDecidableEqNat) ck k) true → @Eq Prop (chkP (@List.cons (Prod Nat (Prod (List Nat) (List Nat))) (@Prod.mk Nat (Prod (List Nat) (List Nat)) k (@Prod.mk (List Nat) (List Nat) f w)) acc) ck op ev n) (And (And (NoneIn f (wrA op ev n)) (NoneIn w (footA op ev n))) (chkP acc ck op ev n))) ∧
    (∀ {acc : Acc} {h h' : Heap}, @Eq Prop (chkS acc (@List.nil Nat) h h') True) ∧
    (∀ {ck : List Nat} {h h' : Heap}, @Eq Prop (chkS (@List.nil (Prod Nat (Prod (List Nat) (List Nat)))) ck h h') True) ∧
    (∀ {k : Nat} {f w : List Nat} {acc : List (Prod Nat (Prod (List Nat) (List Nat)))} {ck : List Nat} {h h' : Heap}, @Eq Bool (@List.contains Nat (@instBEqOfDecidableEq Nat instDecidableEqNat) ck k) false → @Eq Prop (chkS (@List.cons (Prod Nat (Prod (List Nat) (List Nat))) (@Prod.mk Nat (Prod (List Nat) (List Nat)) k (@Prod.mk (List Nat) (List Nat) f w)) acc) ck h h') (chkS acc ck h h')) ∧
    (∀ {k : Nat} {f w : List Nat} {acc : List (Prod Nat (Prod (List Nat) (List Nat)))} {ck : List Nat} {h h' : Heap}, @Eq Bool (@List.contains Nat (@instBEqOfDecidableEq Nat instDecidableEqNat) ck k) true → @Eq Prop (chkS (@List.cons (Prod Nat (Prod (List Nat) (List Nat))) (@Prod.mk Nat (Prod (List Nat) (List Nat)) k (@Prod.mk (List Nat) (List Nat) f w)) acc) ck h h') (And (∀ (i : Nat), @Membership.mem Nat (List Nat) (@List.instMembership Nat) f i → @Eq (Option ABlk) (Heap.get h' i) (Heap.get h i)) (chkS acc ck h h'))) ∧
    (∀ {ys : List Nat}, @Eq Prop (NoneIn (@List.nil Nat) ys) True) ∧
    (∀ {xs : List Nat}, @Eq Prop (NoneIn xs (@List.nil Nat)) True) ∧
    (∀ {x : Nat} {xs ys : List Nat}, Not (@Membership.mem Nat (List Nat) (@List.instMembership Nat) ys x) → @Eq Prop (NoneIn (@List.cons Nat x xs) ys) (NoneIn xs ys)) ∧
    (∀ {i o : Nat}, @Eq (List Nat) (AV.ids (AV.ptr i o)) (@List.cons Nat i (@List.nil Nat))) ∧
    (∀ {i o n : Nat} {c : Cap}, @Eq (List Nat) (AV.ids (AV.slice i o n c)) (@List.cons Nat i (@List.nil Nat))) ∧
    (@Eq (List Nat) (AV.ids AV.nilslice) (@List.nil Nat)) ∧
    (∀ {k : IntKind} {n : Int}, @Eq (List Nat) (AV.ids (AV.int k n)) (@List.nil Nat)) ∧
    (∀ {b : Bool}, @Eq (List Nat) (AV.ids (AV.bool b)) (@List.nil Nat)) ∧
    (∀ {vs : List AV}, @Eq (List Nat) (AV.ids (AV.agg vs)) (@List.nil Nat)) ∧
    (∀ {i o n c : Nat}, @Eq (List Nat) (AV.rids (AV.slice i o n (Cap.known c))) (@List.nil Nat)) ∧
    (∀ {i o n l : Nat}, @Eq (List Nat) (AV.rids (AV.slice i o n (Cap.unk l))) (@List.cons Nat i (@List.nil Nat))) ∧
    (@Eq (List Nat) (AV.rids AV.nilslice) (@List.nil Nat)) ∧
    (∀ {op : AOp} {ev : AOpd → AV} {n : Nat}, @Eq Bool (AOp.blind op) true → @Eq (List Nat) (footA op ev n) (@List.nil Nat)) ∧
    (∀ {op : AOp} {ev : AOpd → AV} {n : Nat}, @Eq Bool (AOp.blind op) true → @Eq (List Nat) (wrA op ev n) (@List.nil Nat)) ∧
    (∀ {agg : Bool} {m : Nat} {x : AOpd} {ev : AOpd → AV} {n : Nat}, @Eq (List Nat) (footA (AOp.load agg m x) ev n) (AV.ids (ev x))) ∧
    (∀ {agg : Bool} {m : Nat} {x : AOpd} {ev : AOpd → AV} {n : Nat}, @Eq (List Nat) (wrA (AOp.load agg m x) ev n) (@List.nil Nat)) ∧
    (∀ {m : Nat} {x v : AOpd} {ev : AOpd → AV} {n : Nat}, @Eq (List Nat) (footA (AOp.store m x v) ev n) (AV.ids (ev x))) ∧
    (∀ {m : Nat} {x v : AOpd} {ev : AOpd → AV} {n : Nat}, @Eq (List Nat) (wrA (AOp.store m x v) ev n) (AV.ids (ev x))) ∧
    (∀ {sz : Nat} {x : AOpd} {lo hi mx : Option AOpd} {ev : AOpd → AV} {n : Nat}, @Eq (List Nat) (footA (AOp.slice sz x lo hi mx) ev n) (AV.rids (ev x))) ∧
    (∀ {sz : Nat} {x : AOpd} {lo hi mx : Option AOpd} {ev : AOpd → AV} {n : Nat}, @Eq (List Nat) (wrA (AOp.slice sz x lo hi mx) ev n) (@List.nil Nat)) ∧
    (∀ {sz b : Nat} {s x : AOpd} {ev : AOpd → AV} {n : Nat}, @Eq (List Nat) (footA (AOp.append sz b s x) ev n) (@HAppend.hAppend (List Nat) (List Nat) (List Nat) (@instHAppendOfAppend (List Nat) (@List.instAppend Nat)) (@HAppend.hAppend (List Nat) (List Nat) (List Nat) (@instHAppendOfAppend (List Nat) (@List.instAppend Nat)) (AV.ids (ev s)) (AV.ids (ev x))) (@List.cons Nat n (@List.nil Nat)))) ∧
    (∀ {sz b : Nat} {s x : AOpd} {ev : AOpd → AV} {n : Nat}, @Eq (List Nat) (wrA (AOp.append sz b s x) ev n) (@HAppend.hAppend (List Nat) (List Nat) (List Nat) (@instHAppendOfAppend (List Nat) (@List.instAppend Nat)) (AV.ids (ev s)) (@List.cons Nat n (@List.nil Nat)))) ∧
    (∀ {z : List AV} {ev : AOpd → AV} {n : Nat}, @Eq (List Nat) (footA (AOp.alloc z) ev n) (@List.cons Nat n (@List.nil Nat))) ∧
    (∀ {z : List AV} {ev : AOpd → AV} {n : Nat}, @Eq (List Nat) (wrA (AOp.alloc z) ev n) (@List.cons Nat n (@List.nil Nat))) ∧
    (∀ {x : AOpd} {ev : AOpd → AV} {n : Nat}, @Eq (List Nat) (footA (AOp.box x) ev n) (@List.cons Nat n (@List.nil Nat))) ∧
    (∀ {x : AOpd} {ev : AOpd → AV} {n : Nat}, @Eq (List Nat) (wrA (AOp.box x) ev n) (@List.cons Nat n (@List.nil Nat))) ∧
    (∀ {m : Nat} {z : List AV} {ps : List (Prod Nat (Prod Nat AOpd))} {ev : AOpd → AV} {n : Nat}, @Eq (List Nat) (footA (AOp.buildSlice m z ps) ev n) (@List.cons Nat n (@List.nil Nat))) ∧
    (∀ {m : Nat} {z : List AV} {ps : List (Prod Nat (Prod Nat AOpd))} {ev : AOpd → AV} {n : Nat}, @Eq (List Nat) (wrA (AOp.buildSlice m z ps) ev n) (@List.cons Nat n (@List.nil Nat))) ∧
    (∀ {z : List AV} {b : Nat} {l c : AOpd} {ev : AOpd → AV} {n : Nat}, @Eq (List Nat) (footA (AOp.makeSlice z b l c) ev n) (@List.cons Nat n (@List.nil Nat))) ∧
    (∀ {z : List AV} {b : Nat} {l c : AOpd} {ev : AOpd → AV} {n : Nat}, @Eq (List Nat) (wrA (AOp.makeSlice z b l c) ev n) (@List.cons Nat n (@List.nil Nat))) ∧
    (∀ {sz : Nat} {d s : AOpd} {ev : AOpd → AV} {n : Nat}, @Eq (List Nat) (footA (AOp.copy sz d s) ev n) (@HAppend.hAppend (List Nat) (List Nat) (List Nat) (@instHAppendOfAppend (List Nat) (@List.instAppend Nat)) (AV.ids (ev d)) (AV.ids (ev s)))) ∧
    (∀ {sz : Nat} {d s : AOpd} {ev : AOpd → AV} {n : Nat}, @Eq (List Nat) (wrA (AOp.copy sz d s) ev n) (AV.ids (ev d))) ∧
    (∀ (p : Prop), @Eq Prop (False → p) True) ∧
    (∀ (p : Prop), @Eq Prop (And True p) p) ∧
    (∀ (p : Prop), @Eq Prop (And p True) p) ∧
    (∀ {t : Nat → AV} {h : Heap}, @Eq (Option (List AV)) (resA t h (@List.nil ARes)) (@some (List AV) (@List.nil AV))) ∧
    (∀ {t : Nat → AV} {h : Heap} {s : Nat} {rs : List ARes}, @Eq (Option (List AV)) (resA t h (@List.cons ARes (ARes.tmp s) rs)) (retO_ret.match_1 (fun x => Option (List AV)) (resA t h rs) (fun vs => @some (List AV) (@List.cons AV (t s) vs)) fun _ => @none (List AV))) ∧
    (∀ {t : Nat → AV} {h : Heap} {s : Nat} {agg : Bool} {n : Nat} {rs : List ARes}, @Eq (Option (List AV)) (resA t h (@List.cons ARes (ARes.cell s agg n) rs)) (resA_cell.match_1 (fun x x_1 => Option (List AV)) (loadA h agg n (t s)) (resA t h rs) (fun v vs => @some (List AV) (@List.cons AV v vs)) fun x x_1 => @none (List AV))) ∧
    (@Eq AV (retA (@List.nil AV)) (AV.tuple (@List.nil AV))) ∧
    (∀ {v : AV}, @Eq AV (retA (@List.cons AV v (@List.nil AV))) v) ∧
    (∀ {u v : AV}, @Eq AV (retA (@List.cons AV u (@List.cons AV v (@List.nil AV)))) (AV.tuple (@List.cons AV u (@List.cons AV v (@List.nil AV))))) ∧
    (∀ {u v x : AV}, @Eq AV (retA (@List.cons AV u (@List.cons AV v (@List.cons AV x (@List.nil AV))))) (AV.tuple (@List.cons AV u (@List.cons AV v (@List.cons AV x (@List.nil AV)))))) ∧
    (∀ {u v x y : AV}, @Eq AV (retA (@List.cons AV u (@List.cons AV v (@List.cons AV x (@List.cons AV y (@List.nil AV)))))) (AV.tuple (@List.cons AV u (@List.cons AV v (@List.cons AV x (@List.cons AV y (@List.nil AV))))))) ∧
    (∀ {t : Nat → AV} {s : Nat}, @Eq AV (AOpd.ev t (AOpd.tmp s)) (t s)) ∧
    (∀ {t : Nat → AV} {v : AV}, @Eq AV (AOpd.ev t (AOpd.const v)) v) ∧
    (∀ {t : Nat → AV}, @Eq (List AV) (@List.map AOpd AV (AOpd.ev t) (@List.nil AOpd)) (@List.nil AV)) ∧
    (∀ {t : Nat → AV} {x : AOpd} {xs : List AOpd}, @Eq (List AV) (@List.map AOpd AV (AOpd.ev t) (@List.cons AOpd x xs)) (@List.cons AV (AOpd.ev t x) (@List.map AOpd AV (AOpd.ev t) xs))) ∧
    (∀ {t : Nat → AV} {s : Nat} {v : AV}, @Eq AV (upd t s v s) v) ∧
    (∀ {t : Nat → AV} {s : Nat} {v : AV} {i : Nat}, @Eq Bool (@BEq.beq Nat (@instBEqOfDecidableEq Nat instDecidableEqNat) i s) false → @Eq AV (upd t s v i) (t i)) ∧
    (∀ {args : List AV} {s : Nat}, @Eq AV (argT args s) (@List.getD AV args s AV.undef)) ∧
    (∀ {p q : Prop}, @Eq Prop (@condV (AV.bool true) (Hold.mk p) (Hold.mk q)) p) ∧
    (∀ {p q : Prop}, @Eq Prop (@condV (AV.bool false) (Hold.mk p) (Hold.mk q)) q) ∧
    (∀ {c : Prop} [inst : Decidable c] {p q : Prop}, @Eq Prop (@condV (AV.bool (@decide c inst)) (Hold.mk p) (Hold.mk q)) (@Br c (Hold.mk p) (Hold.mk q))) ∧
    (∀ {b : Bool} {p q : Prop}, @Eq Prop (@condV (AV.bool b) (Hold.mk p) (Hold.mk q)) (@Br (@Eq Bool b true) (Hold.mk p) (Hold.mk q))) ∧
    (∀ {b : Bool} {p q : Prop}, @Eq Prop (@Br (@Eq Bool (not b) true) (Hold.mk p) (Hold.mk q)) (@Br (@Eq Bool b true) (Hold.mk q) (Hold.mk p))) ∧
    (∀ {c p q : Prop}, c → @Eq Prop (@Br c (Hold.mk p) (Hold.mk q)) p) ∧
    (∀ {c p q : Prop}, Not c → @Eq Prop (@Br c (Hold.mk p) (Hold.mk q)) q) ∧
    (∀ {p q : Prop}, @Eq Prop (@gV (AV.bool true) true (Hold.mk p) (Hold.mk q)) p) ∧
    (∀ {p q : Prop}, @Eq Prop (@gV (AV.bool true) false (Hold.mk p) (Hold.mk q)) q) ∧
    (∀ {p q : Prop}, @Eq Prop (@gV (AV.bool false) true (Hold.mk p) (Hold.mk q)) q) ∧
    (∀ {p q : Prop}, @Eq Prop (@gV (AV.bool false) false (Hold.mk p) (Hold.mk q)) p) ∧
    (∀ {c : Prop} [inst : Decidable c] {p q : Prop}, @Eq Prop (@gV (AV.bool (@decide c inst)) true (Hold.mk p) (Hold.mk q)) (@Br c (Hold.mk p) (Hold.mk q))) ∧
    (∀ {c : Prop} [inst : Decidable c] {p q : Prop}, @Eq Prop (@gV (AV.bool (@decide c inst)) false (Hold.mk p) (Hold.mk q)) (@Br c (Hold.mk q) (Hold.mk p))) ∧
    (∀ {b : Bool} {p q : Prop}, @Eq Prop (@gV (AV.bool b) true (Hold.mk p) (Hold.mk q)) (@Br (@Eq Bool b true) (Hold.mk p) (Hold.mk q))) ∧
    (∀ {b : Bool} {p q : Prop}, @Eq Prop (@gV (AV.bool b) false (Hold.mk p) (Hold.mk q)) (@Br (@Eq Bool b true) (Hold.mk q) (Hold.mk p))) ∧
    (∀ {C : Ctx} {g : Nat} {args : List AV} {h : Heap} {K : AV → Heap → Prop}, @Eq Prop (@Call C (AV.func g (@List.nil AV) (@List.nil AV)) args h (HoldR.mk K)) (@ACallsK C g args h (HoldR.mk K))) ∧
    (∀ {C : Ctx} {g : Nat} {f c args : List AV} {h : Heap} {K : AV → Heap → Prop}, @Eq Prop (@Call C (AV.func g f c) args h (HoldR.mk K)) (@ACallsK C g (@HAppend.hAppend (List AV) (List AV) (List AV) (@instHAppendOfAppend (List AV) (@List.instAppend AV)) (@HAppend.hAppend (List AV) (List AV) (List AV) (@instHAppendOfAppend (List AV) (@List.instAppend AV)) f args) c) h (HoldR.mk K))) ∧
    (∀ {C : Ctx} {l : Nat} {args : List AV} {h : Heap} {K : AV → Heap → Prop}, @Eq Prop (@Call C (AV.yield l) args h (HoldR.mk K)) (@AYieldK C l args h (HoldR.mk K))) ∧
    (∀ {v : AV} {h : Heap} {K : AV → Heap → Prop}, @Eq Prop (@opt1 (@some AV v) h (HoldR.mk K)) (K v h)) ∧
    (∀ {v : AV} {h : Heap} {K : AV → Heap → Prop}, @Eq Prop (@opt2 (@some (Prod AV Heap) (@Prod.mk AV Heap v h)) (HoldR.mk K)) (K v h)) ∧
    (∀ {nid : Option Nat} {ev : AOpd → AV} {h : Heap} {K : AV → Heap → Prop} {x : AOpd}, @Eq Prop (@opR nid (AOp.mv x) ev h (HoldR.mk K)) (K (ev x) h)) ∧
    (∀ {nid : Option Nat} {ev : AOpd → AV} {h : Heap} {K : AV → Heap → Prop} {c a b : AOpd}, @Eq Prop (@opR nid (AOp.pick c a b) ev h (HoldR.mk K)) (@opt1 (pickA (ev a) (ev b) (ev c)) h (HoldR.mk K))) ∧
    (∀ {nid : Option Nat} {ev : AOpd → AV} {h : Heap} {K : AV → Heap → Prop} {z : List AV} {parts : List (Prod Nat (Prod Nat AOpd))}, @Eq Prop (@opR nid (AOp.build z parts) ev h (HoldR.mk K)) (@opt1 (@Option.map (List AV) AV AV.agg (fillA z (@List.map (Prod Nat (Prod Nat AOpd)) (Prod Nat (Prod Nat AV)) (fun p => @Prod.mk Nat (Prod Nat AV) (@Prod.fst Nat (Prod Nat AOpd) p) (@Prod.mk Nat AV (@Prod.fst Nat AOpd (@Prod.snd Nat (Prod Nat AOpd) p)) (ev (@Prod.snd Nat AOpd (@Prod.snd Nat (Prod Nat AOpd) p))))) parts))) h (HoldR.mk K))) ∧
    (∀ {nid : Option Nat} {ev : AOpd → AV} {h : Heap} {K : AV → Heap → Prop} {agg : Bool} {n : Nat} {x : AOpd}, @Eq Prop (@opR nid (AOp.load agg n x) ev h (HoldR.mk K)) (@opt1 (loadA h agg n (ev x)) h (HoldR.mk K))) ∧
    (∀ {nid : Option Nat} {ev : AOpd → AV} {h : Heap} {K : AV → Heap → Prop} {x : AOpd}, @Eq Prop (@opR nid (AOp.nilCheck x) ev h (HoldR.mk K)) (@opt1 (notNilA (ev x)) h (HoldR.mk K))) ∧
    (∀ {nid : Option Nat} {ev : AOpd → AV} {h : Heap} {K : AV → Heap → Prop} {op : BinOp} {x y : AOpd}, @Eq Prop (@opR nid (AOp.bin op x y) ev h (HoldR.mk K)) (@opt1 (binA op (ev x) (ev y)) h (HoldR.mk K))) ∧
    (∀ {nid : Option Nat} {ev : AOpd → AV} {h : Heap} {K : AV → Heap → Prop} {neg : Bool} {x y : AOpd}, @Eq Prop (@opR nid (AOp.eqb neg x y) ev h (HoldR.mk K)) (@opt1 (eqbA neg (ev x) (ev y)) h (HoldR.mk K))) ∧
    (∀ {nid : Option Nat} {ev : AOpd → AV} {h : Heap} {K : AV → Heap → Prop} {neg : Bool} {x : AOpd}, @Eq Prop (@opR nid (AOp.eqn neg x) ev h (HoldR.mk K)) (@opt1 (eqnA neg (ev x)) h (HoldR.mk K))) ∧
    (∀ {nid : Option Nat} {ev : AOpd → AV} {h : Heap} {K : AV → Heap → Prop} {neg : Bool} {ls : List (Prod Nat Bool)} {x y : AOpd}, @Eq Prop (@opR nid (AOp.eqs neg ls x y) ev h (HoldR.mk K)) (@opt1 (eqsA neg ls (ev x) (ev y)) h (HoldR.mk K))) ∧
    (∀ {nid : Option Nat} {ev : AOpd → AV} {h : Heap} {K : AV → Heap → Prop} {op : UnOp} {x : AOpd}, @Eq Prop (@opR nid (AOp.un op x) ev h (HoldR.mk K)) (@opt1 (unA op (ev x)) h (HoldR.mk K))) ∧
    (∀ {nid : Option Nat} {ev : AOpd → AV} {h : Heap} {K : AV → Heap → Prop} {k : IntKind} {x : AOpd}, @Eq Prop (@opR nid (AOp.conv k x) ev h (HoldR.mk K)) (@opt1 (convA k (ev x)) h (HoldR.mk K))) ∧
    (∀ {nid : Option Nat} {ev : AOpd → AV} {h : Heap} {K : AV → Heap → Prop} {g : Nat} {a c : List AOpd}, @Eq Prop (@opR nid (AOp.mkfunc g a c) ev h (HoldR.mk K)) (K (AV.func g (@List.map AOpd AV ev a) (@List.map AOpd AV ev c)) h)) ∧
    (∀ {nid : Option Nat} {ev : AOpd → AV} {h : Heap} {K : AV → Heap → Prop} {sz : Nat} {x : AOpd} {lo hi mx : Option AOpd}, @Eq Prop (@opR nid (AOp.slice sz x lo hi mx) ev h (HoldR.mk K)) (@opt1 (sliceA h sz (ev x) (@Option.map AOpd AV ev lo) (@Option.map AOpd AV ev hi) (@Option.map AOpd AV ev mx)) h (HoldR.mk K))) ∧
    (∀ {nid : Option Nat} {ev : AOpd → AV} {h : Heap} {K : AV → Heap → Prop} {off : Nat} {x : AOpd}, @Eq Prop (@opR nid (AOp.fieldAddr off x) ev h (HoldR.mk K)) (@opt1 (fieldAddrA off (ev x)) h (HoldR.mk K))) ∧
    (∀ {nid : Option Nat} {ev : AOpd → AV} {h : Heap} {K : AV → Heap → Prop} {agg : Bool} {off n : Nat} {x : AOpd}, @Eq Prop (@opR nid (AOp.field agg off n x) ev h (HoldR.mk K)) (@opt1 (fieldA agg off n (ev x)) h (HoldR.mk K))) ∧
    (∀ {nid : Option Nat} {ev : AOpd → AV} {h : Heap} {K : AV → Heap → Prop} {sz : Nat} {x i : AOpd}, @Eq Prop (@opR nid (AOp.indexAddr sz x i) ev h (HoldR.mk K)) (@opt1 (idxA sz (ev x) (ev i)) h (HoldR.mk K))) ∧
    (∀ {nid : Option Nat} {ev : AOpd → AV} {h : Heap} {K : AV → Heap → Prop} {sz len : Nat} {x i : AOpd}, @Eq Prop (@opR nid (AOp.indexArr sz len x i) ev h (HoldR.mk K)) (@opt1 (idxArrA sz len (ev x) (ev i)) h (HoldR.mk K))) ∧
    (∀ {nid : Option Nat} {ev : AOpd → AV} {h : Heap} {K : AV → Heap → Prop} {agg : Bool} {sz len : Nat} {x i : AOpd}, @Eq Prop (@opR nid (AOp.index agg sz len x i) ev h (HoldR.mk K)) (@opt1 (idxValA agg sz len (ev x) (ev i)) h (HoldR.mk K))) ∧
    (∀ {nid : Option Nat} {ev : AOpd → AV} {h : Heap} {K : AV → Heap → Prop} {x : AOpd} {i : Nat}, @Eq Prop (@opR nid (AOp.extract x i) ev h (HoldR.mk K)) (@opt1 (extA i (ev x)) h (HoldR.mk K))) ∧
    (∀ {nid : Option Nat} {ev : AOpd → AV} {h : Heap} {K : AV → Heap → Prop} {x : AOpd}, @Eq Prop (@opR nid (AOp.len x) ev h (HoldR.mk K)) (@opt1 (lenA (ev x)) h (HoldR.mk K))) ∧
    (∀ {nid : Option Nat} {ev : AOpd → AV} {h : Heap} {K : AV → Heap → Prop} {x : AOpd}, @Eq Prop (@opR nid (AOp.cap x) ev h (HoldR.mk K)) (@opt1 (capA (ev x)) h (HoldR.mk K))) ∧
    (∀ {nid : Option Nat} {ev : AOpd → AV} {h : Heap} {K : AV → Heap → Prop} {xs : List AOpd}, @Eq Prop (@opR nid (AOp.max xs) ev h (HoldR.mk K)) (@opt1 (maxA (@List.map AOpd AV ev xs)) h (HoldR.mk K))) ∧
    (∀ {nid : Option Nat} {ev : AOpd → AV} {h : Heap} {K : AV → Heap → Prop} {xs : List AOpd}, @Eq Prop (@opR nid (AOp.min xs) ev h (HoldR.mk K)) (@opt1 (minA (@List.map AOpd AV ev xs)) h (HoldR.mk K))) ∧
    (∀ {nid : Option Nat} {ev : AOpd → AV} {h : Heap} {K : AV → Heap → Prop} {z : List AV}, @Eq Prop (@opR nid (AOp.alloc z) ev h (HoldR.mk K)) (@opt2 (allocA nid z h) (HoldR.mk K))) ∧
    (∀ {nid : Option Nat} {ev : AOpd → AV} {h : Heap} {K : AV → Heap → Prop} {x : AOpd}, @Eq Prop (@opR nid (AOp.box x) ev h (HoldR.mk K)) (@opt2 (allocA nid (AV.cells (ev x)) h) (HoldR.mk K))) ∧
    (∀ {nid : Option Nat} {ev : AOpd → AV} {h : Heap} {K : AV → Heap → Prop} {n : Nat} {z : List AV} {parts : List (Prod Nat (Prod Nat AOpd))}, @Eq Prop (@opR nid (AOp.buildSlice n z parts) ev h (HoldR.mk K)) (@opt2 (buildSliceA nid n (fillA z (@List.map (Prod Nat (Prod Nat AOpd)) (Prod Nat (Prod Nat AV)) (fun p => @Prod.mk Nat (Prod Nat AV) (@Prod.fst Nat (Prod Nat AOpd) p) (@Prod.mk Nat AV (@Prod.fst Nat AOpd (@Prod.snd Nat (Prod Nat AOpd) p)) (ev (@Prod.snd Nat AOpd (@Prod.snd Nat (Prod Nat AOpd) p))))) parts)) h) (HoldR.mk K))) ∧
    (∀ {nid : Option Nat} {ev : AOpd → AV} {h : Heap} {K : AV → Heap → Prop} {n : Nat} {x v : AOpd}, @Eq Prop (@opR nid (AOp.store n x v) ev h (HoldR.mk K)) (@opt2 (storeOA (storeA h n (ev x) (ev v))) (HoldR.mk K))) ∧
    (∀ {nid : Option Nat} {ev : AOpd → AV} {h : Heap} {K : AV → Heap → Prop} {z : List AV} {bytes : Nat} {l c : AOpd}, @Eq Prop (@opR nid (AOp.makeSlice z bytes l c) ev h (HoldR.mk K)) (@opt2 (makeA nid z bytes h (ev l) (ev c)) (HoldR.mk K))) ∧
    (∀ {nid : Option Nat} {ev : AOpd → AV} {h : Heap} {K : AV → Heap → Prop} {sz bytes : Nat} {s x : AOpd}, @Eq Prop (@opR nid (AOp.append sz bytes s x) ev h (HoldR.mk K)) (@opt2 (appA nid sz bytes h (ev s) (contentA h sz (ev x))) (HoldR.mk K))) ∧
    (∀ {nid : Option Nat} {ev : AOpd → AV} {h : Heap} {K : AV → Heap → Prop} {sz : Nat} {d s : AOpd}, @Eq Prop (@opR nid (AOp.copy sz d s) ev h (HoldR.mk K)) (@opt2 (copyA h sz (ev d) (ev s)) (HoldR.mk K))) ∧
    (∀ {k : IntKind} {a b : Int}, @Eq (Option AV) (binA BinOp.add (AV.int k a) (AV.int k b)) (@some AV (AV.int k (IntKind.wrap k (@HAdd.hAdd Int Int Int (@instHAdd Int Int.instAdd) a b))))) ∧
    (∀ {k : IntKind} {a b : Int}, @Eq (Option AV) (binA BinOp.sub (AV.int k a) (AV.int k b)) (@some AV (AV.int k (IntKind.wrap k (@HSub.hSub Int Int Int (@instHSub Int Int.instSub) a b))))) ∧
    (∀ {k : IntKind} {a b : Int}, @Eq (Option AV) (binA BinOp.mul (AV.int k a) (AV.int k b)) (@some AV (AV.int k (IntKind.wrap k (@HMul.hMul Int Int Int (@instHMul Int Int.instMul) a b))))) ∧
    (∀ {k : IntKind} {a b : Int}, @Ne Int b (@OfNat.ofNat Int (nat_lit 0) (@instOfNat (nat_lit 0))) → @Eq (Option AV) (binA BinOp.quo (AV.int k a) (AV.int k b)) (@some AV (AV.int k (IntKind.wrap k (Int.tdiv a b))))) ∧
    (∀ {k : IntKind} {a b : Int}, @Ne Int b (@OfNat.ofNat Int (nat_lit 0) (@instOfNat (nat_lit 0))) → @Eq (Option AV) (binA BinOp.rem (AV.int k a) (AV.int k b)) (@some AV (AV.int k (Int.tmod a b)))) ∧
    (∀ {k : IntKind} {a b : Int}, @Eq (Option AV) (binA BinOp.and (AV.int k a) (AV.int k b)) (@some AV (AV.int k (bitsA BinOp.and k a b)))) ∧
    (∀ {k : IntKind} {a b : Int}, @Eq (Option AV) (binA BinOp.or (AV.int k a) (AV.int k b)) (@some AV (AV.int k (bitsA BinOp.or k a b)))) ∧
    (∀ {k : IntKind} {a b : Int}, @Eq (Option AV) (binA BinOp.xor (AV.int k a) (AV.int k b)) (@some AV (AV.int k (bitsA BinOp.xor k a b)))) ∧
    (∀ {k : IntKind} {a b : Int}, @Eq (Option AV) (binA BinOp.andNot (AV.int k a) (AV.int k b)) (@some AV (AV.int k (bitsA BinOp.andNot k a b)))) ∧
    (∀ {k : IntKind} {a b : Int}, @Eq (Option AV) (binA BinOp.eql (AV.int k a) (AV.int k b)) (@some AV (AV.bool (@decide (@Eq Int a b) (Int.instDecidableEq a b))))) ∧
    (∀ {k : IntKind} {a b : Int}, @Eq (Option AV) (binA BinOp.neq (AV.int k a) (AV.int k b)) (@some AV (AV.bool (@decide (@Ne Int a b) (@instDecidableNot (@Eq Int a b) (Int.instDecidableEq a b)))))) ∧
    (∀ {k : IntKind} {a b : Int}, @Eq (Option AV) (binA BinOp.lss (AV.int k a) (AV.int k b)) (@some AV (AV.bool (@decide (@LT.lt Int Int.instLTInt a b) (Int.decLt a b))))) ∧
    (∀ {k : IntKind} {a b : Int}, @Eq (Option AV) (binA BinOp.leq (AV.int k a) (AV.int k b)) (@some AV (AV.bool (@decide (@LE.le Int Int.instLEInt a b) (Int.decLe a b))))) ∧
    (∀ {k : IntKind} {a b : Int}, @Eq (Option AV) (binA BinOp.gtr (AV.int k a) (AV.int k b)) (@some AV (AV.bool (@decide (@LT.lt Int Int.instLTInt b a) (Int.decLt b a))))) ∧
    (∀ {k : IntKind} {a b : Int}, @Eq (Option AV) (binA BinOp.geq (AV.int k a) (AV.int k b)) (@some AV (AV.bool (@decide (@LE.le Int Int.instLEInt b a) (Int.decLe b a))))) ∧
    (∀ {k k' : IntKind} {a b : Int}, @LE.le Int Int.instLEInt (@OfNat.ofNat Int (nat_lit 0) (@instOfNat (nat_lit 0))) b → @Eq (Option AV) (binA BinOp.shl (AV.int k a) (AV.int k' b)) (@some AV (AV.int k (IntKind.wrap k (@HMul.hMul Int Int Int (@instHMul Int Int.instMul) a (@HPow.hPow Int Nat Int (@instHPow Int Nat (@instPowNat Int Int.instNatPow)) (@OfNat.ofNat Int (nat_lit 2) (@instOfNat (nat_lit 2))) (@min Nat instMinNat (Int.toNat b) (IntKind.bits k)))))))) ∧
    (∀ {k k' : IntKind} {a b : Int}, @LE.le Int Int.instLEInt (@OfNat.ofNat Int (nat_lit 0) (@instOfNat (nat_lit 0))) b → @Eq (Option AV) (binA BinOp.shr (AV.int k a) (AV.int k' b)) (@some AV (AV.int k (Int.fdiv a (@HPow.hPow Int Nat Int (@instHPow Int Nat (@instPowNat Int Int.instNatPow)) (@OfNat.ofNat Int (nat_lit 2) (@instOfNat (nat_lit 2))) (@min Nat instMinNat (Int.toNat b) (IntKind.bits k))))))) ∧
    (∀ {a : Int}, And (@LE.le Int Int.instLEInt (@OfNat.ofNat Int (nat_lit 0) (@instOfNat (nat_lit 0))) a) (@LE.le Int Int.instLEInt a (@OfNat.ofNat Int (nat_lit 9223372036854775807) (@instOfNat (nat_lit 9223372036854775807)))) → @Eq Int (bitsA BinOp.and IntKind.i64 a (@OfNat.ofNat Int (nat_lit 1) (@instOfNat (nat_lit 1)))) (@HMod.hMod Int Int Int (@instHMod Int Int.instMod) a (@OfNat.ofNat Int (nat_lit 2) (@instOfNat (nat_lit 2))))) ∧
    (∀ {k : IntKind} {a : Int}, @Eq (Option AV) (unA UnOp.neg (AV.int k a)) (@some AV (AV.int k (IntKind.wrap k (@HSub.hSub Int Int Int (@instHSub Int Int.instSub) (@OfNat.ofNat Int (nat_lit 0) (@instOfNat (nat_lit 0))) a))))) ∧
    (∀ {b : Bool}, @Eq (Option AV) (unA UnOp.not (AV.bool b)) (@some AV (AV.bool (not b)))) ∧
    (∀ {k : IntKind} {a : Int}, @Eq (Option AV) (unA UnOp.xor (AV.int k a)) (@some AV (AV.int k (bitsA BinOp.xor k (@ite Int (@Eq Bool (IntKind.signed k) true) (instDecidableEqBool (IntKind.signed k) true) (@Neg.neg Int Int.instNegInt (@OfNat.ofNat Int (nat_lit 1) (@instOfNat (nat_lit 1)))) (IntKind.max k)) a)))) ∧
    (∀ {k k' : IntKind} {a : Int}, @Eq (Option AV) (convA k (AV.int k' a)) (@some AV (AV.int k (IntKind.wrap k a)))) ∧
    (∀ {a b : Bool}, @Eq (Option AV) (eqbA false (AV.bool a) (AV.bool b)) (@some AV (AV.bool (@BEq.beq Bool (@instBEqOfDecidableEq Bool instDecidableEqBool) a b)))) ∧
    (∀ {a b : Bool}, @Eq (Option AV) (eqbA true (AV.bool a) (AV.bool b)) (@some AV (AV.bool (not (@BEq.beq Bool (@instBEqOfDecidableEq Bool instDecidableEqBool) a b))))) ∧
    (∀ {x y : AV}, @Eq (Option AV) (pickA x y (AV.bool true)) (@some AV x)) ∧
    (∀ {x y : AV}, @Eq (Option AV) (pickA x y (AV.bool false)) (@some AV y)) ∧
    (∀ {x y : AV} {c : Prop} [inst : Decidable c], c → @Eq (Option AV) (pickA x y (AV.bool (@decide c inst))) (@some AV x)) ∧
    (∀ {x y : AV} {c : Prop} [inst : Decidable c], Not c → @Eq (Option AV) (pickA x y (AV.bool (@decide c inst))) (@some AV y)) ∧
    (∀ {x y : AV} {b : Bool}, @Eq Bool b true → @Eq (Option AV) (pickA x y (AV.bool b)) (@some AV x)) ∧
    (∀ {x y : AV} {b : Bool}, Not (@Eq Bool b true) → @Eq (Option AV) (pickA x y (AV.bool b)) (@some AV y)) ∧
    (∀ {vs : List AV} {i : Nat}, @Eq (Option AV) (extA i (AV.tuple vs)) (@getElem? (List AV) Nat AV (fun xs i => @LT.lt Nat instLTNat i (@List.length AV xs)) (@List.instGetElem?NatLtLength AV) vs i)) ∧
    (∀ {k : IntKind} {a b : Int}, @Eq (Option AV) (maxA (@List.cons AV (AV.int k a) (@List.cons AV (AV.int k b) (@List.nil AV)))) (@some AV (AV.int k (@max Int Int.instMax a b)))) ∧
    (∀ {k : IntKind} {a b c : Int}, @Eq (Option AV) (maxA (@List.cons AV (AV.int k a) (@List.cons AV (AV.int k b) (@List.cons AV (AV.int k c) (@List.nil AV))))) (@some AV (AV.int k (@max Int Int.instMax (@max Int Int.instMax a b) c)))) ∧
    (∀ {k : IntKind} {a b : Int}, @Eq (Option AV) (minA (@List.cons AV (AV.int k a) (@List.cons AV (AV.int k b) (@List.nil AV)))) (@some AV (AV.int k (@min Int Int.instMin a b)))) ∧
    (∀ {k : IntKind} {a b c : Int}, @Eq (Option AV) (minA (@List.cons AV (AV.int k a) (@List.cons AV (AV.int k b) (@List.cons AV (AV.int k c) (@List.nil AV))))) (@some AV (AV.int k (@min Int Int.instMin (@min Int Int.instMin a b) c)))) ∧
    (∀ {x : Int}, And (@LE.le Int Int.instLEInt (@Neg.neg Int Int.instNegInt (@OfNat.ofNat Int (nat_lit 9223372036854775808) (@instOfNat (nat_lit 9223372036854775808)))) x) (@LE.le Int Int.instLEInt x (@OfNat.ofNat Int (nat_lit 9223372036854775807) (@instOfNat (nat_lit 9223372036854775807)))) → @Eq Int (IntKind.wrap IntKind.i64 x) x) ∧
    (∀ {x : Int}, And (@LE.le Int Int.instLEInt (@Neg.neg Int Int.instNegInt (@OfNat.ofNat Int (nat_lit 2147483648) (@instOfNat (nat_lit 2147483648)))) x) (@LE.le Int Int.instLEInt x (@OfNat.ofNat Int (nat_lit 2147483647) (@instOfNat (nat_lit 2147483647)))) → @Eq Int (IntKind.wrap IntKind.i32 x) x) ∧
    (∀ {x : Int}, And (@LE.le Int Int.instLEInt (@OfNat.ofNat Int (nat_lit 0) (@instOfNat (nat_lit 0))) x) (@LE.le Int Int.instLEInt x (@OfNat.ofNat Int (nat_lit 255) (@instOfNat (nat_lit 255)))) → @Eq Int (IntKind.wrap IntKind.u8 x) x) ∧
    (∀ {x : Int}, And (@LE.le Int Int.instLEInt (@OfNat.ofNat Int (nat_lit 0) (@instOfNat (nat_lit 0))) x) (@LE.le Int Int.instLEInt x (@OfNat.ofNat Int (nat_lit 4294967295) (@instOfNat (nat_lit 4294967295)))) → @Eq Int (IntKind.wrap IntKind.u32 x) x) ∧
    (∀ {x : Int}, And (@LE.le Int Int.instLEInt (@OfNat.ofNat Int (nat_lit 0) (@instOfNat (nat_lit 0))) x) (@LE.le Int Int.instLEInt x (@OfNat.ofNat Int (nat_lit 18446744073709551615) (@instOfNat (nat_lit 18446744073709551615)))) → @Eq Int (IntKind.wrap IntKind.u64 x) x) ∧
    (∀ {a b : Int}, @LE.le Int Int.instLEInt (@OfNat.ofNat Int (nat_lit 0) (@instOfNat (nat_lit 0))) a → @Eq Int (Int.tdiv a b) (@HDiv.hDiv Int Int Int (@instHDiv Int Int.instDiv) a b)) ∧
    (∀ {a b : Int}, @LE.le Int Int.instLEInt (@OfNat.ofNat Int (nat_lit 0) (@instOfNat (nat_lit 0))) a → @Eq Int (Int.tmod a b) (@HMod.hMod Int Int Int (@instHMod Int Int.instMod) a b)) ∧
    (∀ {a b : Int}, @LE.le Int Int.instLEInt (@OfNat.ofNat Int (nat_lit 0) (@instOfNat (nat_lit 0))) b → @Eq Int (Int.fdiv a b) (@HDiv.hDiv Int Int Int (@instHDiv Int Int.instDiv) a b)) ∧
    (@Eq Nat (IntKind.bits IntKind.i64) (@OfNat.ofNat Nat (nat_lit 64) (instOfNatNat (nat_lit 64)))) ∧
    (@Eq Nat (IntKind.bits IntKind.u64) (@OfNat.ofNat Nat (nat_lit 64) (instOfNatNat (nat_lit 64)))) ∧
    (@Eq Nat (IntKind.bits IntKind.u32) (@OfNat.ofNat Nat (nat_lit 32) (instOfNatNat (nat_lit 32)))) ∧
    (@Eq Nat (IntKind.bits IntKind.i32) (@OfNat.ofNat Nat (nat_lit 32) (instOfNatNat (nat_lit 32)))) ∧
    (@Eq Nat (IntKind.bits IntKind.u8) (@OfNat.ofNat Nat (nat_lit 8) (instOfNatNat (nat_lit 8)))) ∧
    (∀ {b : Int} {n : Nat}, @LE.le Int Int.instLEInt b (@Nat.cast Int instNatCastInt n) → @Eq Nat (@min Nat instMinNat (Int.toNat b) n) (Int.toNat b)) ∧
    (∀ {h : Heap} {b : ABlk} {i : Nat}, @Eq Nat i (Heap.size h) → @Eq (Option ABlk) (Heap.get (Heap.push h b) i) (@some ABlk b)) ∧
    (∀ {h : Heap} {b : ABlk} {i : Nat}, @LT.lt Nat instLTNat i (Heap.size h) → @Eq (Option ABlk) (Heap.get (Heap.push h b) i) (Heap.get h i)) ∧
    (∀ {h : Heap} {b : ABlk} {i j : Nat}, @Eq Nat j i → @LT.lt Nat instLTNat i (Heap.size h) → @Eq (Option ABlk) (Heap.get (Heap.put h i b) j) (@some ABlk b)) ∧
    (∀ {h : Heap} {b : ABlk} {i j : Nat}, @Ne Nat j i → @Eq (Option ABlk) (Heap.get (Heap.put h i b) j) (Heap.get h j)) ∧
    (∀ {h : Heap} {i : Nat} {b b' : ABlk}, @Eq Heap (Heap.put (Heap.put h i b) i b') (Heap.put h i b')) ∧
    (∀ {h : Heap} {i : Nat} {b b' : ABlk}, @Eq Nat i (Heap.size h) → @Eq Heap (Heap.put (Heap.push h b) i b') (Heap.push h b')) ∧
    (∀ {h : Heap} {i : Nat} {b b' : ABlk}, @LT.lt Nat instLTNat i (Heap.size h) → @Eq Heap (Heap.put (Heap.push h b) i b') (Heap.push (Heap.put h i b') b)) ∧
    (∀ (h : Heap) (b : ABlk), @Eq Nat (Heap.size (Heap.push h b)) (@HAdd.hAdd Nat Nat Nat (@instHAdd Nat instAddNat) (Heap.size h) (@OfNat.ofNat Nat (nat_lit 1) (instOfNatNat (nat_lit 1))))) ∧
    (∀ (h : Heap) (i : Nat) (b : ABlk), @Eq Nat (Heap.size (Heap.put h i b)) (Heap.size h)) ∧
    (∀ (h : Heap) (k : Nat), @Eq Nat (Heap.size (Heap.reserve h k)) (@HAdd.hAdd Nat Nat Nat (@instHAdd Nat instAddNat) (Heap.size h) k)) ∧
    (∀ (h : Heap) (k i : Nat), @Eq (Option ABlk) (Heap.get (Heap.reserve h k) i) (Heap.get h i)) ∧
    (∀ {h : Heap} {agg : Bool} {n i o : Nat}, @Eq (Option AV) (loadA h agg n (AV.ptr i o)) (loadB agg n o (Heap.get h i))) ∧
    (∀ {n o : Nat} {vs : List AV} {wr : Bool} {u : Nat}, @Eq (Option AV) (loadB false n o (@some ABlk (ABlk.cells vs wr u))) (@getElem? (List AV) Nat AV (fun xs i => @LT.lt Nat instLTNat i (@List.length AV xs)) (@List.instGetElem?NatLtLength AV) vs o)) ∧
    (∀ {n o : Nat} {vs : List AV} {wr : Bool} {u : Nat}, @LE.le Nat instLENat (@HAdd.hAdd Nat Nat Nat (@instHAdd Nat instAddNat) o n) (@List.length AV vs) → @Eq (Option AV) (loadB true n o (@some ABlk (ABlk.cells vs wr u))) (@some AV (AV.agg (cut vs o n)))) ∧
    (∀ {h : Heap} {n i o : Nat} {v : AV}, @Eq (Option Heap) (storeA h n (AV.ptr i o) v) (storeB h i n o v (Heap.get h i))) ∧
    (∀ {h : Heap} {i o : Nat} {k : IntKind} {x : Int} {vs : List AV} {u : Nat}, @LT.lt Nat instLTNat o (@List.length AV vs) → @Eq (Option Heap) (storeB h i (@OfNat.ofNat Nat (nat_lit 1) (instOfNatNat (nat_lit 1))) o (AV.int k x) (@some ABlk (ABlk.cells vs true u))) (@some Heap (Heap.put h i (ABlk.cells (@List.set AV vs o (AV.int k x)) true u)))) ∧
    (∀ {h : Heap} {i o : Nat} {x : Bool} {vs : List AV} {u : Nat}, @LT.lt Nat instLTNat o (@List.length AV vs) → @Eq (Option Heap) (storeB h i (@OfNat.ofNat Nat (nat_lit 1) (instOfNatNat (nat_lit 1))) o (AV.bool x) (@some ABlk (ABlk.cells vs true u))) (@some Heap (Heap.put h i (ABlk.cells (@List.set AV vs o (AV.bool x)) true u)))) ∧
    (∀ {h : Heap} {i o j p n : Nat} {c : Cap} {vs : List AV} {u : Nat}, @LT.lt Nat instLTNat o (@List.length AV vs) → @Eq (Option Heap) (storeB h i (@OfNat.ofNat Nat (nat_lit 1) (instOfNatNat (nat_lit 1))) o (AV.slice j p n c) (@some ABlk (ABlk.cells vs true u))) (@some Heap (Heap.put h i (ABlk.cells (@List.set AV vs o (AV.slice j p n c)) true u)))) ∧
    (∀ {h : Heap} {i o : Nat} {vs : List AV} {u : Nat}, @LT.lt Nat instLTNat o (@List.length AV vs) → @Eq (Option Heap) (storeB h i (@OfNat.ofNat Nat (nat_lit 1) (instOfNatNat (nat_lit 1))) o AV.nilslice (@some ABlk (ABlk.cells vs true u))) (@some Heap (Heap.put h i (ABlk.cells (@List.set AV vs o AV.nilslice) true u)))) ∧
    (∀ {h : Heap} {i o n : Nat} {xs vs : List AV} {u : Nat}, @Eq Nat (@List.length AV xs) n → @LE.le Nat instLENat (@HAdd.hAdd Nat Nat Nat (@instHAdd Nat instAddNat) o n) (@List.length AV vs) → @Eq Bool (@List.all AV xs AV.one) true → @Eq (Option Heap) (storeB h i n o (AV.agg xs) (@some ABlk (ABlk.cells vs true u))) (@some Heap (Heap.put h i (ABlk.cells (splice vs o xs) true u)))) ∧
    (∀ {h : Heap} {i o : Nat} {v : AV} {vs : List AV} {u : Nat}, @Eq (List AV) (AV.cells v) (@List.cons AV v (@List.nil AV)) → @Eq Bool (AV.one v) true → @LT.lt Nat instLTNat o (@List.length AV vs) → @Eq (Option Heap) (storeB h i (@OfNat.ofNat Nat (nat_lit 1) (instOfNatNat (nat_lit 1))) o v (@some ABlk (ABlk.cells vs true u))) (@some Heap (Heap.put h i (ABlk.cells (@List.set AV vs o v) true u)))) ∧
    (∀ {vs : List AV} {o : Nat} {c : AV}, @Eq (List AV) (splice vs o (@List.cons AV c (@List.nil AV))) (@List.set AV vs o c)) ∧
    (∀ {vs : List AV} {o : Nat} {x y : AV} {cs : List AV}, @Eq (List AV) (splice vs o (@List.cons AV x (@List.cons AV y cs))) (@HAppend.hAppend (List AV) (List AV) (List AV) (@instHAppendOfAppend (List AV) (@List.instAppend AV)) (@HAppend.hAppend (List AV) (List AV) (List AV) (@instHAppendOfAppend (List AV) (@List.instAppend AV)) (@List.take AV o vs) (@List.cons AV x (@List.cons AV y cs))) (@List.drop AV (@HAdd.hAdd Nat Nat Nat (@instHAdd Nat instAddNat) o (@HAdd.hAdd Nat Nat Nat (@instHAdd Nat instAddNat) (@List.length AV cs) (@OfNat.ofNat Nat (nat_lit 2) (instOfNatNat (nat_lit 2))))) vs))) ∧
    (∀ {vs : List AV} {o : Nat}, @Eq (List AV) (cut vs o (@OfNat.ofNat Nat (nat_lit 0) (instOfNatNat (nat_lit 0)))) (@List.nil AV)) ∧
    (∀ {x : AV} {vs : List AV} {n : Nat}, @Eq (List AV) (cut (@List.cons AV x vs) (@OfNat.ofNat Nat (nat_lit 0) (instOfNatNat (nat_lit 0))) (@HAdd.hAdd Nat Nat Nat (@instHAdd Nat instAddNat) n (@OfNat.ofNat Nat (nat_lit 1) (instOfNatNat (nat_lit 1))))) (@List.cons AV x (cut vs (@OfNat.ofNat Nat (nat_lit 0) (instOfNatNat (nat_lit 0))) n))) ∧
    (∀ {x : AV} {vs : List AV} {o n : Nat}, @Eq (List AV) (cut (@List.cons AV x vs) (@HAdd.hAdd Nat Nat Nat (@instHAdd Nat instAddNat) o (@OfNat.ofNat Nat (nat_lit 1) (instOfNatNat (nat_lit 1)))) n) (cut vs o n)) ∧
    (∀ {z : List AV}, @Eq (Option (List AV)) (fillA z (@List.nil (Prod Nat (Prod Nat AV)))) (@some (List AV) z)) ∧
    (∀ {z : List AV} {o : Nat} {k : IntKind} {n : Int} {rest : List (Prod Nat (Prod Nat AV))}, @LT.lt Nat instLTNat o (@List.length AV z) → @Eq (Option (List AV)) (fillA z (@List.cons (Prod Nat (Prod Nat AV)) (@Prod.mk Nat (Prod Nat AV) o (@Prod.mk Nat AV (@OfNat.ofNat Nat (nat_lit 1) (instOfNatNat (nat_lit 1))) (AV.int k n))) rest)) (fillA (@List.set AV z o (AV.int k n)) rest)) ∧
    (∀ {z : List AV} {o : Nat} {b : Bool} {rest : List (Prod Nat (Prod Nat AV))}, @LT.lt Nat instLTNat o (@List.length AV z) → @Eq (Option (List AV)) (fillA z (@List.cons (Prod Nat (Prod Nat AV)) (@Prod.mk Nat (Prod Nat AV) o (@Prod.mk Nat AV (@OfNat.ofNat Nat (nat_lit 1) (instOfNatNat (nat_lit 1))) (AV.bool b))) rest)) (fillA (@List.set AV z o (AV.bool b)) rest)) ∧
    (∀ {z : List AV} {o i p : Nat} {rest : List (Prod Nat (Prod Nat AV))}, @LT.lt Nat instLTNat o (@List.length AV z) → @Eq (Option (List AV)) (fillA z (@List.cons (Prod Nat (Prod Nat AV)) (@Prod.mk Nat (Prod Nat AV) o (@Prod.mk Nat AV (@OfNat.ofNat Nat (nat_lit 1) (instOfNatNat (nat_lit 1))) (AV.ptr i p))) rest)) (fillA (@List.set AV z o (AV.ptr i p)) rest)) ∧
    (∀ {z : List AV} {o i p n : Nat} {c : Cap} {rest : List (Prod Nat (Prod Nat AV))}, @LT.lt Nat instLTNat o (@List.length AV z) → @Eq (Option (List AV)) (fillA z (@List.cons (Prod Nat (Prod Nat AV)) (@Prod.mk Nat (Prod Nat AV) o (@Prod.mk Nat AV (@OfNat.ofNat Nat (nat_lit 1) (instOfNatNat (nat_lit 1))) (AV.slice i p n c))) rest)) (fillA (@List.set AV z o (AV.slice i p n c)) rest)) ∧
    (∀ {z : List AV} {o : Nat} {rest : List (Prod Nat (Prod Nat AV))}, @LT.lt Nat instLTNat o (@List.length AV z) → @Eq (Option (List AV)) (fillA z (@List.cons (Prod Nat (Prod Nat AV)) (@Prod.mk Nat (Prod Nat AV) o (@Prod.mk Nat AV (@OfNat.ofNat Nat (nat_lit 1) (instOfNatNat (nat_lit 1))) AV.nilslice)) rest)) (fillA (@List.set AV z o AV.nilslice) rest)) ∧
    (∀ {z : List AV} {o g : Nat} {f c : List AV} {rest : List (Prod Nat (Prod Nat AV))}, @LT.lt Nat instLTNat o (@List.length AV z) → @Eq (Option (List AV)) (fillA z (@List.cons (Prod Nat (Prod Nat AV)) (@Prod.mk Nat (Prod Nat AV) o (@Prod.mk Nat AV (@OfNat.ofNat Nat (nat_lit 1) (instOfNatNat (nat_lit 1))) (AV.func g f c))) rest)) (fillA (@List.set AV z o (AV.func g f c)) rest)) ∧
    (∀ {z : List AV} {o n : Nat} {xs : List AV} {rest : List (Prod Nat (Prod Nat AV))}, @Eq Nat (@List.length AV xs) n → @LE.le Nat instLENat (@HAdd.hAdd Nat Nat Nat (@instHAdd Nat instAddNat) o n) (@List.length AV z) → @Eq (Option (List AV)) (fillA z (@List.cons (Prod Nat (Prod Nat AV)) (@Prod.mk Nat (Prod Nat AV) o (@Prod.mk Nat AV n (AV.agg xs))) rest)) (fillA (@HAppend.hAppend (List AV) (List AV) (List AV) (@instHAppendOfAppend (List AV) (@List.instAppend AV)) (@HAppend.hAppend (List AV) (List AV) (List AV) (@instHAppendOfAppend (List AV) (@List.instAppend AV)) (@List.take AV o z) xs) (@List.drop AV (@HAdd.hAdd Nat Nat Nat (@instHAdd Nat instAddNat) o n) z)) rest)) ∧
    (∀ {z : List AV} {o : Nat} {v : AV} {rest : List (Prod Nat (Prod Nat AV))}, @Eq (List AV) (AV.cells v) (@List.cons AV v (@List.nil AV)) → @LT.lt Nat instLTNat o (@List.length AV z) → @Eq (Option (List AV)) (fillA z (@List.cons (Prod Nat (Prod Nat AV)) (@Prod.mk Nat (Prod Nat AV) o (@Prod.mk Nat AV (@OfNat.ofNat Nat (nat_lit 1) (instOfNatNat (nat_lit 1))) v)) rest)) (fillA (@List.set AV z o v) rest)) ∧
    (∀ {h : Heap}, @Eq (Option (Prod AV Heap)) (storeOA (@some Heap h)) (@some (Prod AV Heap) (@Prod.mk AV Heap AV.undef h))) ∧
    (∀ {z : List AV} {h : Heap}, @Eq (Option (Prod AV Heap)) (allocA (@none Nat) z h) (@some (Prod AV Heap) (@Prod.mk AV Heap (AV.ptr (Heap.size h) (@OfNat.ofNat Nat (nat_lit 0) (instOfNatNat (nat_lit 0)))) (Heap.push h (ABlk.cells z true (@OfNat.ofNat Nat (nat_lit 0) (instOfNatNat (nat_lit 0)))))))) ∧
    (∀ {z : List AV} {h : Heap} {n : Nat}, @Eq (Option (Prod AV Heap)) (allocA (@some Nat n) z h) (kept n h (Heap.get h n) fun n x p => @some (Prod AV Heap) (@Prod.mk AV Heap (AV.ptr n (@OfNat.ofNat Nat (nat_lit 0) (instOfNatNat (nat_lit 0)))) (p (ABlk.cells z true (@OfNat.ofNat Nat (nat_lit 0) (instOfNatNat (nat_lit 0)))))))) ∧
    (∀ {n : Nat} {h : Heap} {f : Nat → Heap → (ABlk → Heap) → Option (Prod AV Heap)}, @LT.lt Nat instLTNat n (Heap.size h) → @Eq (Option (Prod AV Heap)) (kept n h (@none ABlk) f) (f n h fun b => Heap.put h n b)) ∧
    (∀ {n : Nat} {cs : List AV} {h : Heap}, @Eq (Option (Prod AV Heap)) (buildSliceA (@none Nat) n (@some (List AV) cs) h) (@some (Prod AV Heap) (@Prod.mk AV Heap (AV.slice (Heap.size h) (@OfNat.ofNat Nat (nat_lit 0) (instOfNatNat (nat_lit 0))) n (Cap.known n)) (Heap.push h (ABlk.cells cs true (@OfNat.ofNat Nat (nat_lit 0) (instOfNatNat (nat_lit 0)))))))) ∧
    (∀ {n : Nat} {cs : List AV} {h : Heap} {i : Nat}, @Eq (Option (Prod AV Heap)) (buildSliceA (@some Nat i) n (@some (List AV) cs) h) (kept i h (Heap.get h i) fun i x p => @some (Prod AV Heap) (@Prod.mk AV Heap (AV.slice i (@OfNat.ofNat Nat (nat_lit 0) (instOfNatNat (nat_lit 0))) n (Cap.known n)) (p (ABlk.cells cs true (@OfNat.ofNat Nat (nat_lit 0) (instOfNatNat (nat_lit 0)))))))) ∧
    (∀ {z : List AV} {bytes : Nat} {h : Heap} {k k' : IntKind} {l c : Int}, And (@LE.le Int Int.instLEInt (@OfNat.ofNat Int (nat_lit 0) (@instOfNat (nat_lit 0))) l) (And (@LE.le Int Int.instLEInt l c) (And (@LE.le Int Int.instLEInt (@HMul.hMul Int Int Int (@instHMul Int Int.instMul) c (@Nat.cast Int instNatCastInt bytes)) (@OfNat.ofNat Int (nat_lit 140737488355328) (@instOfNat (nat_lit 140737488355328)))) (@LE.le Int Int.instLEInt c (@OfNat.ofNat Int (nat_lit 140737488355328) (@instOfNat (nat_lit 140737488355328)))))) → @Eq (Option (Prod AV Heap)) (makeA (@none Nat) z bytes h (AV.int k l) (AV.int k' c)) (@some (Prod AV Heap) (@Prod.mk AV Heap (AV.slice (Heap.size h) (@OfNat.ofNat Nat (nat_lit 0) (instOfNatNat (nat_lit 0))) (Int.toNat l) (Cap.known (Int.toNat c))) (Heap.push h (ABlk.cells (zerosA (Int.toNat c) z) true (@OfNat.ofNat Nat (nat_lit 0) (instOfNatNat (nat_lit 0)))))))) ∧
    (∀ {z : List AV} {bytes : Nat} {h : Heap} {k k' : IntKind} {l c : Int} {i : Nat}, And (@LE.le Int Int.instLEInt (@OfNat.ofNat Int (nat_lit 0) (@instOfNat (nat_lit 0))) l) (And (@LE.le Int Int.instLEInt l c) (And (@LE.le Int Int.instLEInt (@HMul.hMul Int Int Int (@instHMul Int Int.instMul) c (@Nat.cast Int instNatCastInt bytes)) (@OfNat.ofNat Int (nat_lit 140737488355328) (@instOfNat (nat_lit 140737488355328)))) (@LE.le Int Int.instLEInt c (@OfNat.ofNat Int (nat_lit 140737488355328) (@instOfNat (nat_lit 140737488355328)))))) → @Eq (Option (Prod AV Heap)) (makeA (@some Nat i) z bytes h (AV.int k l) (AV.int k' c)) (kept i h (Heap.get h i) fun i x p => @some (Prod AV Heap) (@Prod.mk AV Heap (AV.slice i (@OfNat.ofNat Nat (nat_lit 0) (instOfNatNat (nat_lit 0))) (Int.toNat l) (Cap.known (Int.toNat c))) (p (ABlk.cells (zerosA (Int.toNat c) z) true (@OfNat.ofNat Nat (nat_lit 0) (instOfNatNat (nat_lit 0)))))))) ∧
    (∀ {sz i o n : Nat} {c : Cap} {kk : IntKind} {k : Int}, And (@LE.le Int Int.instLEInt (@OfNat.ofNat Int (nat_lit 0) (@instOfNat (nat_lit 0))) k) (@LT.lt Int Int.instLTInt k (@Nat.cast Int instNatCastInt n)) → @Eq (Option AV) (idxA sz (AV.slice i o n c) (AV.int kk k)) (@some AV (AV.ptr i (@HAdd.hAdd Nat Nat Nat (@instHAdd Nat instAddNat) o (@HMul.hMul Nat Nat Nat (@instHMul Nat instMulNat) (Int.toNat k) sz))))) ∧
    (∀ {sz len i o : Nat} {kk : IntKind} {k : Int}, And (@LE.le Int Int.instLEInt (@OfNat.ofNat Int (nat_lit 0) (@instOfNat (nat_lit 0))) k) (@LT.lt Int Int.instLTInt k (@Nat.cast Int instNatCastInt len)) → @Eq (Option AV) (idxArrA sz len (AV.ptr i o) (AV.int kk k)) (@some AV (AV.ptr i (@HAdd.hAdd Nat Nat Nat (@instHAdd Nat instAddNat) o (@HMul.hMul Nat Nat Nat (@instHMul Nat instMulNat) (Int.toNat k) sz))))) ∧
    (∀ {off i o : Nat}, @Eq (Option AV) (fieldAddrA off (AV.ptr i o)) (@some AV (AV.ptr i (@HAdd.hAdd Nat Nat Nat (@instHAdd Nat instAddNat) o off)))) ∧
    (∀ {agg : Bool} {off n : Nat} {vs : List AV}, @Eq (Option AV) (fieldA agg off n (AV.agg vs)) (partA agg vs off n)) ∧
    (∀ {vs : List AV} {o n : Nat}, @Eq (Option AV) (partA false vs o n) (@getElem? (List AV) Nat AV (fun xs i => @LT.lt Nat instLTNat i (@List.length AV xs)) (@List.instGetElem?NatLtLength AV) vs o)) ∧
    (∀ {vs : List AV} {o n : Nat}, @LE.le Nat instLENat (@HAdd.hAdd Nat Nat Nat (@instHAdd Nat instAddNat) o n) (@List.length AV vs) → @Eq (Option AV) (partA true vs o n) (@some AV (AV.agg (cut vs o n)))) ∧
    (∀ {i o n : Nat} {c : Cap}, @Eq (Option AV) (lenA (AV.slice i o n c)) (@some AV (AV.int IntKind.i64 (@Nat.cast Int instNatCastInt n)))) ∧
    (@Eq (Option AV) (lenA AV.nilslice) (@some AV (AV.int IntKind.i64 (@OfNat.ofNat Int (nat_lit 0) (@instOfNat (nat_lit 0)))))) ∧
    (∀ {k : IntKind} {n : Int}, @Eq (List AV) (AV.cells (AV.int k n)) (@List.cons AV (AV.int k n) (@List.nil AV))) ∧
    (∀ {b : Bool}, @Eq (List AV) (AV.cells (AV.bool b)) (@List.cons AV (AV.bool b) (@List.nil AV))) ∧
    (∀ {vs : List AV}, @Eq (List AV) (AV.cells (AV.agg vs)) vs) ∧
    (∀ {i o n : Nat} {c : Cap}, @Eq (List AV) (AV.cells (AV.slice i o n c)) (@List.cons AV (AV.slice i o n c) (@List.nil AV))) ∧
    (@Eq (List AV) (AV.cells AV.nilslice) (@List.cons AV AV.nilslice (@List.nil AV))) ∧
    (∀ {i o : Nat}, @Eq (List AV) (AV.cells (AV.ptr i o)) (@List.cons AV (AV.ptr i o) (@List.nil AV))) ∧
    (∀ {g : Nat} {f c : List AV}, @Eq (List AV) (AV.cells (AV.func g f c)) (@List.cons AV (AV.func g f c) (@List.nil AV))) ∧
    (∀ {l : Nat}, @Eq (List AV) (AV.cells (AV.yield l)) (@List.cons AV (AV.yield l) (@List.nil AV))) ∧
    (∀ {l : List Int}, @Eq Nat (@List.length AV (ints l)) (@List.length Int l)) ∧
    (∀ {l : List Int} {k : Nat}, @LT.lt Nat instLTNat k (@List.length Int l) → @Eq (Option AV) (@getElem? (List AV) Nat AV (fun xs i => @LT.lt Nat instLTNat i (@List.length AV xs)) (@List.instGetElem?NatLtLength AV) (ints l) k) (@some AV (AV.int IntKind.i64 (@List.getD Int l k (@OfNat.ofNat Int (nat_lit 0) (@instOfNat (nat_lit 0))))))) ∧
    (∀ {l : List Int} {k : Nat} {x : Int}, @Eq (List AV) (@List.set AV (ints l) k (AV.int IntKind.i64 x)) (ints (@List.set Int l k x))) ∧
    (∀ {l : List Int} {x : Int}, @Eq (List AV) (@HAppend.hAppend (List AV) (List AV) (List AV) (@instHAppendOfAppend (List AV) (@List.instAppend AV)) (ints l) (@List.cons AV (AV.int IntKind.i64 x) (@List.nil AV))) (ints (@HAppend.hAppend (List Int) (List Int) (List Int) (@instHAppendOfAppend (List Int) (@List.instAppend Int)) l (@List.cons Int x (@List.nil Int))))) ∧
    (∀ {sz i o n : Nat} {c : Cap} {k : Nat}, @Eq AV (elA sz (AV.slice i o n c) k) (AV.ptr i (@HAdd.hAdd Nat Nat Nat (@instHAdd Nat instAddNat) o (@HMul.hMul Nat Nat Nat (@instHMul Nat instMulNat) k sz)))) ∧
    (∀ {n : Nat} {x : AV}, @Eq (List AV) (zerosA n (@List.cons AV x (@List.nil AV))) (@List.replicate AV n x)) ∧
    (∀ {r : ALoop} {K : ALoop → Prop}, @Eq Prop (@atLoop (@some ABlk (ABlk.loop r)) (HoldL.mk K)) (K r)) ∧
    (∀ {t : Nat → AV}, @Eq (Nat → AV) (setParams t (@List.nil Nat) (@List.nil AV)) t) ∧
    (∀ {t : Nat → AV} {p : Nat} {ps : List Nat} {a : AV} {xs : List AV}, @Eq (Nat → AV) (setParams t (@List.cons Nat p ps) (@List.cons AV a xs)) (setParams (upd t p a) ps xs)) ∧
    (∀ {a b : Nat}, @LE.le Nat instLENat a b → @Eq Nat (@min Nat instMinNat a b) a) ∧
    (∀ (n : Nat), @Eq Nat (Int.toNat (@Nat.cast Int instNatCastInt n)) n) ∧
    (∀ (n : Nat), @Eq Nat (@HAdd.hAdd Nat Nat Nat (@instHAdd Nat instAddNat) (@OfNat.ofNat Nat (nat_lit 0) (instOfNatNat (nat_lit 0))) n) n) ∧
    (∀ (n : Nat), @Eq Nat (@HAdd.hAdd Nat Nat Nat (@instHAdd Nat instAddNat) n (@OfNat.ofNat Nat (nat_lit 0) (instOfNatNat (nat_lit 0)))) n) ∧
    (∀ (n : Nat), @Eq Nat (@HMul.hMul Nat Nat Nat (@instHMul Nat instMulNat) n (@OfNat.ofNat Nat (nat_lit 1) (instOfNatNat (nat_lit 1)))) n) ∧
    (∀ (n : Nat), @Eq Nat (@HMul.hMul Nat Nat Nat (@instHMul Nat instMulNat) (@OfNat.ofNat Nat (nat_lit 0) (instOfNatNat (nat_lit 0))) n) (@OfNat.ofNat Nat (nat_lit 0) (instOfNatNat (nat_lit 0)))) ∧
    (∀ (h : Decidable True), @Eq Bool (@decide True h) true) ∧
    (∀ (h : Decidable False), @Eq Bool (@decide False h) false) ∧
    (@Eq Bool (not true) false) ∧
    (@Eq Bool (not false) true) ∧
    (∀ {p : Prop} [inst : Decidable p], @Eq Prop (@Eq Bool (@decide p inst) true) p) ∧
    (∀ (k : IntKind) (n : Int) (k_1 : IntKind) (n_1 : Int), @Eq Prop (@Eq AV (AV.int k n) (AV.int k_1 n_1)) (And (@Eq IntKind k k_1) (@Eq Int n n_1))) :=
  ⟨@app_known,
   @appKB_grow,
   @appKB_room,
   @app_unk,
   @appUB_grow,
   @app_nil,
   @app_nil0,
   @appA_some,
   @atDefd_some,
   @retO_ret,
   @retO_normal,
   @chkP_nil,
   @chkP_none,
   @chkP_skip,
   @chkP_take,
   @chkS_nil,
   @chkS_none,
   @chkS_skip,
   @chkS_take,
   @noneIn_nil,
   @noneIn_none,
   @noneIn_cons,
   @ids_ptr,
   @ids_slice,
   @ids_nil,
   @ids_int,
   @ids_bool,
   @ids_agg,
   @rids_known,
   @rids_unk,
   @rids_nil,
   @foot_blind,
   @wr_blind,
   @foot_load,
   @wr_load,
   @foot_store,
   @wr_store,
   @foot_slice,
   @wr_slice,
   @foot_append,
   @wr_append,
   @foot_alloc,
   @wr_alloc,
   @foot_box,
   @wr_box,
   @foot_build,
   @wr_build,
   @foot_make,
   @wr_make,
   @foot_copy,
   @wr_copy,
   @false_implies,
   @true_and,
   @and_true,
   @resA_nil,
   @resA_tmp,
   @resA_cell,
   @retA_zero,
   @retA_one,
   @retA_two,
   @retA_three,
   @retA_four,
   @ev_tmp,
   @ev_const,
   @evs_nil,
   @evs_cons,
   @upd_same,
   @upd_ne,
   @argT_app,
   @condV_true,
   @condV_false,
   @condV_dec,
   @condV_var,
   @Br_not,
   @Br_pos,
   @Br_neg,
   @gV_tt,
   @gV_tf,
   @gV_ft,
   @gV_ff,
   @gV_dt,
   @gV_df,
   @gV_vt,
   @gV_vf,
   @Call_func,
   @Call_clo,
   @Call_yield,
   @opt1_some,
   @opt2_some,
   @opR_mv,
   @opR_pick,
   @opR_build,
   @opR_load,
   @opR_nilCheck,
   @opR_bin,
   @opR_eqb,
   @opR_eqn,
   @opR_eqs,
   @opR_un,
   @opR_conv,
   @opR_mkfunc,
   @opR_slice,
   @opR_fieldAddr,
   @opR_field,
   @opR_indexAddr,
   @opR_indexArr,
   @opR_index,
   @opR_extract,
   @opR_len,
   @opR_cap,
   @opR_max,
   @opR_min,
   @opR_alloc,
   @opR_box,
   @opR_buildSlice,
   @opR_store,
   @opR_makeSlice,
   @opR_append,
   @opR_copy,
   @bin_add,
   @bin_sub,
   @bin_mul,
   @bin_quo,
   @bin_rem,
   @bin_and,
   @bin_or,
   @bin_xor,
   @bin_andNot,
   @bin_eql,
   @bin_neq,
   @bin_lss,
   @bin_leq,
   @bin_gtr,
   @bin_geq,
   @bin_shl,
   @bin_shr,
   @bits_and1,
   @un_neg,
   @un_not,
   @un_xor,
   @conv_int,
   @eqb_ff,
   @eqb_tt,
   @pick_tt,
   @pick_ff,
   @pick_dt,
   @pick_df,
   @pick_vt,
   @pick_vf,
   @ext_tuple,
   @max_two,
   @max_three,
   @min_two,
   @min_three,
   @w_i64,
   @w_i32,
   @w_u8,
   @w_u32,
   @w_u64,
   @tdiv_nn,
   @tmod_nn,
   @fdiv_nn,
   @bits_i64,
   @bits_u64,
   @bits_u32,
   @bits_i32,
   @bits_u8,
   @min_shift,
   @get_push_eq,
   @get_push_lt,
   @get_put_eq,
   @get_put_ne,
   @put_put,
   @push_put,
   @push_put_lt,
   @Heap.size_push,
   @Heap.size_put,
   @Heap.size_reserve,
   @Heap.get_reserve,
   @load_ptr,
   @loadB_one,
   @loadB_agg,
   @store_ptr,
   @storeB_int,
   @storeB_bool,
   @storeB_slice,
   @storeB_nil,
   @storeB_agg,
   @storeB_var,
   @splice_one,
   @splice_two,
   @cut_nil,
   @cut_cons,
   @cut_succ,
   @fill_nil,
   @fill_int,
   @fill_bool,
   @fill_ptr,
   @fill_slice,
   @fill_nilslice,
   @fill_func,
   @fill_agg,
   @fill_one,
   @storeO_some,
   @alloc_none,
   @alloc_some,
   @kept_none,
   @buildS_none,
   @buildS_some,
   @make_none,
   @make_some,
   @idx_slice,
   @idxArr_ptr,
   @fieldAddr_ptr,
   @field_agg,
   @part_one,
   @part_agg,
   @len_slice,
   @len_nil,
   @cells_int,
   @cells_bool,
   @cells_agg,
   @cells_slice,
   @cells_nil,
   @cells_ptr,
   @cells_func,
   @cells_yield,
   @ints_length,
   @ints_get,
   @ints_set,
   @ints_snoc,
   @elA_slice,
   @zeros_one,
   @atLoop_some,
   @setParams_nil,
   @setParams_cons,
   @Nat.min_eq_left,
   @Int.toNat_natCast,
   @Nat.zero_add,
   @Nat.add_zero,
   @Nat.mul_one,
   @Nat.zero_mul,
   @decide_true,
   @decide_false,
   @Bool.not_true,
   @Bool.not_false,
   @decide_eq_true_eq,
   @AV.int.injEq⟩
end Go.Ae

/- The rules of the simplifier that hold for every type, bundled. -/
namespace Go.Ae
theorem wpPoly :
    (∀ {α : Type} {l : List α}, l ++ [] = l) ∧
    (∀ {α : Type} {a : α} {l m : List α}, (a :: l) ++ m = a :: (l ++ m)) ∧
    (∀ {α : Type} {a : α} {l : List α} {i : Nat}, (a :: l).drop (i + 1) = l.drop i) ∧
    (∀ {α : Type} {l : List α}, l.drop 0 = l) ∧
    (∀ {α : Type} {p : α → Prop} {a : α} {l : List α}, (∀ x ∈ a :: l, p x) = (p a ∧ ∀ x ∈ l, p x)) ∧
    (∀ {α : Type} {a d : α} {l : List α} {i : Nat}, (a :: l).getD (i + 1) d = l.getD i d) ∧
    (∀ {α : Type} {a d : α} {l : List α}, (a :: l).getD 0 d = a) ∧
    (∀ {α : Type} {d : α} {i : Nat}, ([] : List α).getD i d = d) ∧
    (∀ {α : Type} {a : α} {l : List α} {i : Nat}, (a :: l)[i + 1]? = l[i]?) ∧
    (∀ {α : Type} {a : α} {l : List α}, (a :: l)[0]? = some a) ∧
    (∀ {α : Type} {a : α} {l : List α}, (a :: l).length = l.length + 1) ∧
    (∀ {α : Type}, ([] : List α).length = 0) ∧
    (∀ {α β : Type} {f : α → β} {a : α} {l : List α}, (a :: l).map f = f a :: l.map f) ∧
    (∀ {α β : Type} {f : α → β}, ([] : List α).map f = []) ∧
    (∀ {α : Type} {l : List α}, [] ++ l = l) ∧
    (∀ {α : Type} {a : α}, (a ∈ ([] : List α)) = False) ∧
    (∀ {α : Type} {a b : α} {l : List α} {i : Nat}, (a :: l).set (i + 1) b = a :: l.set i b) ∧
    (∀ {α : Type} {a b : α} {l : List α}, (a :: l).set 0 b = b :: l) ∧
    (∀ {α : Type} {a : α} {l : List α} {i : Nat}, (a :: l).take (i + 1) = a :: l.take i) ∧
    (∀ {α : Type} {l : List α}, l.take 0 = []) ∧
    (∀ {α β : Type} {f : α → β}, (none : Option α).map f = none) ∧
    (∀ {α β : Type} {f : α → β} {a : α}, (some a).map f = some (f a)) ∧
    (∀ {α : Type} {a : α}, (a = a) = True) ∧
    (∀ {α : Type} {p : α → Prop} {b : α}, (∃ a, a = b ∧ p a) = p b) ∧
    (∀ {α : Type} {p : α → Prop} {b : α}, (∃ a, b = a ∧ p a) = p b) ∧
    (∀ {α : Type}, (α → True) = True) ∧
    (∀ {α : Prop}, (α → True) = True) ∧
    (∀ {α : Type} {a b : α}, (a ≠ b) = ¬ a = b) := by
  refine ⟨?_, ?_, ?_, ?_, ?_, ?_, ?_, ?_, ?_, ?_, ?_, ?_, ?_, ?_, ?_, ?_, ?_, ?_, ?_, ?_, ?_, ?_, ?_, ?_, ?_, ?_, ?_, ?_⟩ <;> intros <;> simp
theorem wpD1 :
    (∀ {h : Heap} {b : ABlk}, (h.push b).size = h.size + 1) ∧
    (∀ {h : Heap} {i : Nat} {b : ABlk}, (h.put i b).size = h.size) ∧
    (∀ {h : Heap} {k : Nat}, (h.reserve k).size = h.size + k) ∧
    (∀ {l : List Int}, (ints l).length = l.length) ∧
    (∀ {x y : Nat}, (x ∈ [y]) = (x = y)) ∧
    (∀ {α : Type} {a : α} {l : List α}, (a :: l).length = l.length + 1) ∧
    (∀ {α : Type}, ([] : List α).length = 0) ∧
    (∀ {α : Type} {n : Nat} {a : α}, (List.replicate n a).length = n) ∧
    (∀ {α : Type} {l : List α} {i : Nat} {a : α}, (l.set i a).length = l.length) :=
  ⟨rfl, rfl, rfl, ints_length, by simp, List.length_cons, List.length_nil, List.length_replicate, List.length_set⟩
theorem wpD2 :
    (∀ {k : IntKind} {n : Int}, (AV.int k n).one = true) ∧ (∀ {b : Bool}, (AV.bool b).one = true) ∧ (∀ {i o : Nat}, (AV.ptr i o).one = true) ∧ (∀ {i o n : Nat} {c : Cap}, (AV.slice i o n c).one = true) ∧ AV.nilslice.one = true ∧
    (∀ {g : Nat} {f c : List AV}, (AV.func g f c).one = true) ∧
    (∀ {α : Type} {p : α → Bool} {a : α} {l : List α}, (a :: l).all p = (p a && l.all p)) ∧ (∀ {α : Type} {p : α → Bool}, ([] : List α).all p = true) ∧
    (∀ {a b : Bool}, ((a && b) = true) = (a = true ∧ b = true)) ∧ (∀ {p : Prop}, (p ∧ p) = p) ∧ (∀ {p : Prop}, (True ∧ p) = p) ∧ (∀ {p : Prop}, (p ∧ True) = p) ∧ ((true = true) = True) := by
  refine ⟨?_, ?_, ?_, ?_, ?_, ?_, ?_, ?_, ?_, ?_, ?_, ?_, ?_⟩ <;> intros <;> first | rfl | simp
end Go.Ae

/- Sums of elements times powers: the plain facts about transforms. -/
namespace Go.Ae

abbrev pP : Int := 998244353

theorem emod_mul_l (a b m : Int) : a % m * b % m = a * b % m := by rw [Int.mul_emod, Int.emod_emod, ← Int.mul_emod]
theorem emod_mul_r (a b m : Int) : a * (b % m) % m = a * b % m := by rw [Int.mul_emod, Int.emod_emod, ← Int.mul_emod]
theorem emod_add_l (a b m : Int) : (a % m + b) % m = (a + b) % m := by rw [Int.add_emod, Int.emod_emod, ← Int.add_emod]
theorem emod_add_r (a b m : Int) : (a + b % m) % m = (a + b) % m := by rw [Int.add_emod, Int.emod_emod, ← Int.add_emod]
theorem emod_sub_l (a b m : Int) : (a % m - b) % m = (a - b) % m := by rw [Int.sub_emod, Int.emod_emod, ← Int.sub_emod]
theorem emod_sub_r (a b m : Int) : (a - b % m) % m = (a - b) % m := by rw [Int.sub_emod, Int.emod_emod, ← Int.sub_emod]

theorem emod_pow (a : Int) (n : Nat) (m : Int) : (a % m) ^ n % m = a ^ n % m := by
  induction n with
  | zero => simp
  | succ n ih => rw [Int.pow_succ, Int.pow_succ, Int.mul_emod, ih, Int.emod_emod, ← Int.mul_emod]

theorem take_succ_getD {l : List Int} {i : Nat} (h : i < l.length) : l.take (i + 1) = l.take i ++ [l.getD i 0] := by
  rw [List.take_add_one]; simp [h]
theorem getD_mem {l : List Int} {i : Nat} (h : i < l.length) : l.getD i 0 ∈ l := by
  have : l.getD i 0 = l[i] := by simp [h]
  rw [this]; exact List.getElem_mem h

/-- The value of a list, taken as the coefficients of a polynomial, at a number. -/
def pe : List Int → Int → Int
  | [], _ => 0
  | x :: l, z => x + z * pe l z

theorem pe_append (l m : List Int) (z : Int) : pe (l ++ m) z = pe l z + z ^ l.length * pe m z := by
  induction l with
  | nil => simp [pe]
  | cons x l ih => simp only [List.cons_append, pe, ih, List.length_cons, Int.pow_succ, Int.mul_add, Int.add_assoc]; congr 2; rw [← Int.mul_assoc, Int.mul_comm z]
theorem pe_take_succ {l : List Int} {i : Nat} (h : i < l.length) (z : Int) : pe (l.take (i + 1)) z = pe (l.take i) z + l.getD i 0 * z ^ i := by
  rw [take_succ_getD h, pe_append, List.length_take, Nat.min_eq_left (by omega)]
  simp only [pe, Int.mul_zero, Int.add_zero]; rw [Int.mul_comm]
theorem pe_mod (l : List Int) (z : Int) : pe l (z % pP) % pP = pe l z % pP := by
  induction l with
  | nil => rfl
  | cons x l ih =>
    simp only [pe]
    rw [Int.add_emod, Int.mul_emod, ih, Int.emod_emod, ← Int.mul_emod, ← Int.add_emod]

/-- The elements at even and at odd places. -/
def evens : List Int → List Int
  | x :: _ :: l => x :: evens l
  | l => l
def odds : List Int → List Int
  | _ :: y :: l => y :: odds l
  | _ => []
theorem pe_halves : ∀ (l : List Int) (z : Int), pe l z = pe (evens l) (z * z) + z * pe (odds l) (z * z)
  | [], z => by simp [evens, odds, pe]
  | [x], z => by simp [evens, odds, pe]
  | x :: y :: l, z => by
    simp only [evens, odds, pe, pe_halves l z]
    simp only [Int.mul_add, Int.add_assoc, Int.mul_assoc, Int.mul_left_comm, Int.mul_comm]
    congr 1
    rw [← Int.add_assoc, ← Int.add_assoc]; congr 1
    rw [Int.add_comm]

/-- The transform of a list by a number. -/
def dft (w : Int) (l : List Int) : List Int := (List.range l.length).map fun k => pe l (w ^ k) % pP
theorem dft_length (w : Int) (l : List Int) : (dft w l).length = l.length := by simp [dft]
theorem dft_get {w : Int} {l : List Int} {k : Nat} (h : k < l.length) : (dft w l).getD k 0 = pe l (w ^ k) % pP := by simp [dft, h]
theorem dft_range {w : Int} {l : List Int} : ∀ x ∈ dft w l, 0 ≤ x ∧ x < 998244353 := by
  intro x hx
  obtain ⟨k, _, rfl⟩ := List.mem_map.1 hx
  exact ⟨Int.emod_nonneg _ (by decide), Int.emod_lt_of_pos _ (by decide)⟩
theorem evens_length : ∀ l : List Int, (evens l).length = (l.length + 1) / 2
  | [] => rfl
  | [x] => by simp [evens]
  | x :: y :: l => by simp only [evens, List.length_cons, evens_length l]; omega
theorem odds_length : ∀ l : List Int, (odds l).length = l.length / 2
  | [] => rfl
  | [x] => by simp [odds]
  | x :: y :: l => by simp only [odds, List.length_cons, odds_length l]; omega

/-- A root of n: its power n / 2 is -1. -/
def RootOk (k : Nat) (w : Int) : Prop := ∀ j, k = j + 1 → w ^ 2 ^ j % pP = 998244352

theorem RootOk.half {k : Nat} {w : Int} (h : RootOk (k + 1) w) : RootOk k (w * w % pP) := by
  rintro j rfl
  rw [emod_pow, ← h (j + 1) rfl, Nat.pow_succ, Nat.mul_comm, Int.pow_mul]
  congr 2; simp [Int.pow_succ]

/-- Two numbers with the same residue. -/
def Cg (a b : Int) : Prop := a % pP = b % pP
theorem Cg.refl (a : Int) : Cg a a := rfl
theorem Cg.symm {a b : Int} (h : Cg a b) : Cg b a := Eq.symm h
theorem Cg.trans {a b c : Int} (h : Cg a b) (k : Cg b c) : Cg a c := Eq.trans h k
theorem Cg.of_eq {a b : Int} (h : a = b) : Cg a b := by rw [h]; exact Cg.refl _
theorem Cg.emod {a b : Int} (h : Cg a b) : Cg (a % pP) b := by unfold Cg at *; rw [Int.emod_emod]; exact h
theorem Cg.add {a b c d : Int} (h : Cg a b) (k : Cg c d) : Cg (a + c) (b + d) := by unfold Cg at *; rw [Int.add_emod, h, k, ← Int.add_emod]
theorem Cg.sub {a b c d : Int} (h : Cg a b) (k : Cg c d) : Cg (a - c) (b - d) := by unfold Cg at *; rw [Int.sub_emod, h, k, ← Int.sub_emod]
theorem Cg.mul {a b c d : Int} (h : Cg a b) (k : Cg c d) : Cg (a * c) (b * d) := by unfold Cg at *; rw [Int.mul_emod, h, k, ← Int.mul_emod]
theorem Cg.neg {a b : Int} (h : Cg a b) : Cg (-a) (-b) := by have := (Cg.refl 0).sub h; simpa using this
theorem Cg.pow {a b : Int} (h : Cg a b) (n : Nat) : Cg (a ^ n) (b ^ n) := by
  induction n with
  | zero => simp only [Int.pow_zero]; exact Cg.refl _
  | succ n ih => rw [Int.pow_succ, Int.pow_succ]; exact ih.mul h
theorem Cg.pe {a b : Int} (h : Cg a b) (l : List Int) : Cg (pe l a) (pe l b) := by
  induction l with
  | nil => exact Cg.refl _
  | cons x l ih => exact (Cg.refl x).add (h.mul ih)
theorem Cg.plus (a k : Int) : Cg (a + k * pP) a := by unfold Cg; rw [Int.add_mul_emod_self_right]

/-- The first half of a transform from the transforms of both halves. -/
theorem dft_low {w : Int} {l : List Int} {k : Nat} {n : Nat} (hn : l.length = 2 * n) (hk : k < n) :
    (dft w l).getD k 0 = ((dft (w * w % pP) (evens l)).getD k 0 + (dft (w * w % pP) (odds l)).getD k 0 * (w ^ k % pP) % pP) % pP := by
  have e1 := evens_length l
  have e2 := odds_length l
  rw [dft_get (by omega), dft_get (by omega), dft_get (by omega), pe_halves]
  have hz : ∀ m : List Int, Cg (pe m ((w * w % pP) ^ k)) (pe m (w ^ k * w ^ k)) := fun m => by
    refine Cg.pe ?_ m
    rw [← Int.mul_pow]; exact (Cg.refl _).emod.pow k
  refine Cg.symm (Cg.trans (((hz _).emod.add (((hz _).emod.mul (Cg.refl (w ^ k)).emod).emod))) (Cg.of_eq ?_))
  rw [Int.mul_comm (w ^ k) (pe _ _)]

theorem dft_high {w : Int} {l : List Int} {k : Nat} {j : Nat} (hw : RootOk (j + 1) w) (hn : l.length = 2 * 2 ^ j) (hk : k < 2 ^ j) :
    (dft w l).getD (k + 2 ^ j) 0 = ((dft (w * w % pP) (evens l)).getD k 0 + pP - (dft (w * w % pP) (odds l)).getD k 0 * (w ^ k % pP) % pP) % pP := by
  have e1 := evens_length l
  have e2 := odds_length l
  have hw' := hw j rfl
  rw [dft_get (by omega), dft_get (by omega), dft_get (by omega), pe_halves]
  have hz : ∀ m : List Int, Cg (pe m ((w * w % pP) ^ k)) (pe m (w ^ k * w ^ k)) := fun m => by
    refine Cg.pe ?_ m
    rw [← Int.mul_pow]; exact (Cg.refl _).emod.pow k
  have hr : Cg (w ^ 2 ^ j) (-1) := by unfold Cg; rw [hw']; decide
  have hm : Cg (w ^ (k + 2 ^ j)) (-w ^ k) := by
    rw [Int.pow_add]
    refine ((Cg.refl _).mul hr).trans (Cg.of_eq ?_)
    rw [Int.mul_neg, Int.mul_one]
  have hs : ∀ m : List Int, Cg (pe m (w ^ (k + 2 ^ j) * w ^ (k + 2 ^ j))) (pe m (w ^ k * w ^ k)) := fun m => by
    refine Cg.pe ((hm.mul hm).trans (Cg.of_eq ?_)) m
    rw [Int.neg_mul_neg]
  refine Cg.trans ((hs _).add (hm.mul (hs _))) (Cg.symm ?_)
  refine Cg.trans (((hz _).emod.add (Cg.refl _)).sub (((hz _).emod.mul (Cg.refl (w ^ k)).emod).emod)) ?_
  refine Cg.trans (Cg.of_eq ?_) (Cg.plus _ 1)
  rw [Int.neg_mul, Int.mul_comm (w ^ k) (pe _ _)]; omega

end Go.Ae

/- What the statements' helpers give. -/
set_option linter.unusedSimpArgs false
set_option linter.unusedVariables false
namespace Go.Ae
section
variable {C : Ctx}

def In64 (x : Int) : Prop := -9223372036854775808 ≤ x ∧ x ≤ 9223372036854775807

theorem Equal_spec (hC : Has C T12) {va vb : AV} {a b : List Int} {h : Heap} (ha : RI h va a) (hb : RI h vb b) : ACalls C 12 [va, vb] h (fun r h' => r = .bool (decide (a = b)) ∧ h' = h) := by
  have l1 := ha.lt
  have l2 := hb.lt
  (refine calls_intro (hC.body (by decide) tab12) (Nat.le_of_ble_eq_true rfl) ?_); (show wp C _ none B12.code _ _); (simp only [B12]); simp -implicitDefEqProofs (disch := first | assumption | decide | omega | (simp only [wpD1] <;> omega) | (simp only [wpD2] <;> assumption) | solve_by_elim [HSub.refl, HSub.push, HSub.reserve] | fail) only [↓wpPre, wpPost, wpPoly, Int.reduceToNat, Int.reducePow, Int.reduceMul, Int.reduceAdd, Int.reduceSub, Int.reduceNeg, Nat.reduceAdd, Nat.reduceMul, Nat.reducePow, Int.reduceLT, Int.reduceLE, Int.reduceEq, Nat.reduceEqDiff, ha.len, hb.len]
  refine Br.by (fun c => ?_) (fun c => ?_)
  · simp -implicitDefEqProofs (disch := first | assumption | decide | omega | (simp only [wpD1] <;> omega) | (simp only [wpD2] <;> assumption) | solve_by_elim [HSub.refl, HSub.push, HSub.reserve] | fail) only [↓wpPre, wpPost, wpPoly, Int.reduceToNat, Int.reducePow, Int.reduceMul, Int.reduceAdd, Int.reduceSub, Int.reduceNeg, Nat.reduceAdd, Nat.reduceMul, Nat.reducePow, Int.reduceLT, Int.reduceLE, Int.reduceEq, Nat.reduceEqDiff]
    have : a ≠ b := fun e => by subst e; omega
    simp [this]
  · simp -implicitDefEqProofs (disch := first | assumption | decide | omega | (simp only [wpD1] <;> omega) | (simp only [wpD2] <;> assumption) | solve_by_elim [HSub.refl, HSub.push, HSub.reserve] | fail) only [↓wpPre, wpPost, wpPoly, Int.reduceToNat, Int.reducePow, Int.reduceMul, Int.reduceAdd, Int.reduceSub, Int.reduceNeg, Nat.reduceAdd, Nat.reduceMul, Nat.reducePow, Int.reduceLT, Int.reduceLE, Int.reduceEq, Nat.reduceEqDiff]
    refine wp_loopI (fun j t h' => h' = h ∧ t 0 = va ∧ t 1 = vb ∧ ∃ i : Nat, t 5 = .int .i64 (i : Nat) ∧ i ≤ a.length ∧ a.take i = b.take i ∧ j = a.length - i) ⟨rfl, rfl, rfl, 0, rfl, by omega, by simp, rfl⟩ ?_
    rintro j t h' ⟨rfl, e0, e1, i, e5, hi, hp, hj⟩
    simp -implicitDefEqProofs (disch := first | assumption | decide | omega | (simp only [wpD1] <;> omega) | (simp only [wpD2] <;> assumption) | solve_by_elim [HSub.refl, HSub.push, HSub.reserve] | fail) only [↓wpPre, wpPost, wpPoly, Int.reduceToNat, Int.reducePow, Int.reduceMul, Int.reduceAdd, Int.reduceSub, Int.reduceNeg, Nat.reduceAdd, Nat.reduceMul, Nat.reducePow, Int.reduceLT, Int.reduceLE, Int.reduceEq, Nat.reduceEqDiff, e0, e1, e5, ha.len]
    refine Br.by (fun c1 => ?_) (fun c1 => ?_)
    · simp -implicitDefEqProofs (disch := first | assumption | decide | omega | (simp only [wpD1] <;> omega) | (simp only [wpD2] <;> assumption) | solve_by_elim [HSub.refl, HSub.push, HSub.reserve] | fail) only [↓wpPre, wpPost, wpPoly, Int.reduceToNat, Int.reducePow, Int.reduceMul, Int.reduceAdd, Int.reduceSub, Int.reduceNeg, Nat.reduceAdd, Nat.reduceMul, Nat.reducePow, Int.reduceLT, Int.reduceLE, Int.reduceEq, Nat.reduceEqDiff, e0, e1, e5, ha.idx, hb.idx, ha.load, hb.load]
      refine Br.by (fun c2 => ?_) (fun c2 => ?_)
      · simp -implicitDefEqProofs (disch := first | assumption | decide | omega | (simp only [wpD1] <;> omega) | (simp only [wpD2] <;> assumption) | solve_by_elim [HSub.refl, HSub.push, HSub.reserve] | fail) only [↓wpPre, wpPost, wpPoly, Int.reduceToNat, Int.reducePow, Int.reduceMul, Int.reduceAdd, Int.reduceSub, Int.reduceNeg, Nat.reduceAdd, Nat.reduceMul, Nat.reducePow, Int.reduceLT, Int.reduceLE, Int.reduceEq, Nat.reduceEqDiff]
        have : a ≠ b := fun e => c2 (by rw [e])
        simp [this]
      · simp -implicitDefEqProofs (disch := first | assumption | decide | omega | (simp only [wpD1] <;> omega) | (simp only [wpD2] <;> assumption) | solve_by_elim [HSub.refl, HSub.push, HSub.reserve] | fail) only [↓wpPre, wpPost, wpPoly, Int.reduceToNat, Int.reducePow, Int.reduceMul, Int.reduceAdd, Int.reduceSub, Int.reduceNeg, Nat.reduceAdd, Nat.reduceMul, Nat.reducePow, Int.reduceLT, Int.reduceLE, Int.reduceEq, Nat.reduceEqDiff, e0, e1, e5]
        refine ⟨_, ⟨i + 1, by simp, by omega, ?_, rfl⟩, by omega⟩
        · rw [take_succ_getD (by omega), take_succ_getD (by omega), hp, Decidable.not_not.1 c2]
    · simp -implicitDefEqProofs (disch := first | assumption | decide | omega | (simp only [wpD1] <;> omega) | (simp only [wpD2] <;> assumption) | solve_by_elim [HSub.refl, HSub.push, HSub.reserve] | fail) only [↓wpPre, wpPost, wpPoly, Int.reduceToNat, Int.reducePow, Int.reduceMul, Int.reduceAdd, Int.reduceSub, Int.reduceNeg, Nat.reduceAdd, Nat.reduceMul, Nat.reducePow, Int.reduceLT, Int.reduceLE, Int.reduceEq, Nat.reduceEqDiff]
      have e1 : i = a.length := by omega
      subst e1
      rw [List.take_of_length_le (by omega), List.take_of_length_le (by omega)] at hp
      simp [hp]

theorem emod_of_tmod {x n : Int} (hn : 1 ≤ n) : x % n = if x.tmod n < 0 then x.tmod n + n else x.tmod n := by
  have h1 : x.tmod n < n := Int.tmod_lt_of_pos x (by omega)
  have h2 : -n < x.tmod n := by have := Int.lt_tmod_of_pos x (b := n) (by omega); omega
  have h3 : x % n = x.tmod n % n := by
    have := Int.tmod_add_mul_tdiv x n
    rw [← this, Int.add_mul_emod_self_left]
    rw [Int.tmod_add_mul_tdiv]
  rw [h3]
  split
  · rw [← Int.add_emod_right, Int.emod_eq_of_lt (by omega) (by omega)]
  · rw [Int.emod_eq_of_lt (by omega) (by omega)]

/-- The number from 0 to n - 1 that a number selects. -/
theorem Turn_spec (hC : Has C T23) {x n : Int} {h : Heap} (hx : In64 x) (hn : 1 ≤ n ∧ n ≤ 9223372036854775807) : ACalls C 23 [.int .i64 x, .int .i64 n] h (fun r h' => r = .int .i64 (x % n) ∧ h' = h) := by
  unfold In64 at hx
  have h1 : x.tmod n < n := Int.tmod_lt_of_pos x (by omega)
  have h2 : -n < x.tmod n := by have := Int.lt_tmod_of_pos x (b := n) (by omega); omega
  rw [emod_of_tmod hn.1]
  (refine calls_intro (hC.body (by decide) tab23) (Nat.le_of_ble_eq_true rfl) ?_); (show wp C _ none B23.code _ _); (simp only [B23]); simp -implicitDefEqProofs (disch := first | assumption | decide | omega | (simp only [wpD1] <;> omega) | (simp only [wpD2] <;> assumption) | solve_by_elim [HSub.refl, HSub.push, HSub.reserve] | fail) only [↓wpPre, wpPost, wpPoly, Int.reduceToNat, Int.reducePow, Int.reduceMul, Int.reduceAdd, Int.reduceSub, Int.reduceNeg, Nat.reduceAdd, Nat.reduceMul, Nat.reducePow, Int.reduceLT, Int.reduceLE, Int.reduceEq, Nat.reduceEqDiff]
  refine Br.by (fun c => ?_) (fun c => ?_)
  · simp -implicitDefEqProofs (disch := first | assumption | decide | omega | (simp only [wpD1] <;> omega) | (simp only [wpD2] <;> assumption) | solve_by_elim [HSub.refl, HSub.push, HSub.reserve] | fail) only [↓wpPre, wpPost, wpPoly, Int.reduceToNat, Int.reducePow, Int.reduceMul, Int.reduceAdd, Int.reduceSub, Int.reduceNeg, Nat.reduceAdd, Nat.reduceMul, Nat.reducePow, Int.reduceLT, Int.reduceLE, Int.reduceEq, Nat.reduceEqDiff, if_pos c]
  · simp -implicitDefEqProofs (disch := first | assumption | decide | omega | (simp only [wpD1] <;> omega) | (simp only [wpD2] <;> assumption) | solve_by_elim [HSub.refl, HSub.push, HSub.reserve] | fail) only [↓wpPre, wpPost, wpPoly, Int.reduceToNat, Int.reducePow, Int.reduceMul, Int.reduceAdd, Int.reduceSub, Int.reduceNeg, Nat.reduceAdd, Nat.reduceMul, Nat.reducePow, Int.reduceLT, Int.reduceLE, Int.reduceEq, Nat.reduceEqDiff, if_neg c]

def tup2 (a b : Int) : AV := .tuple [.int .i64 a, .int .i64 b]
/-- A list and an error. -/
def lstErr (v : AV) (e : Int) : AV := .tuple [v, .int .i64 e]
theorem ACallsK.eq2 {g : Nat} {args : List AV} {h h' : Heap} {r r' : AV} {K : AV → Heap → Prop} (hc : ACalls C g args h fun x h'' => x = r ∧ h'' = h') (e : r = r') (hk : K r' h') : @ACallsK C g args h ⟨K⟩ := ACallsK.eq (e ▸ hc) hk

/-- The table of some functions. -/
def tabIn (L : List Nat) (g : Nat) : Option ABody := if L.contains g then tab g else none
theorem tabIn_ok {L : List Nat} (hC : Has C L) : ∀ g b, tabIn L g = some b → C.body g = some b := by
  intro g b h
  unfold tabIn at h
  split at h
  · rename_i hg; exact hC g (by simpa using hg) b h
  · cases h

end
end Go.Ae

/- What functions of Go's slices package give on lists of numbers. -/
set_option linter.unusedSimpArgs false
set_option linter.unusedVariables false
namespace Go.Ae

/-- A new list of numbers, known to nobody else. -/
def Fresh (h h' : Heap) (v : AV) (l : List Int) : Prop :=
  HSub h h' ∧ l.length < 9223372036854775808 ∧ ∃ i, h.size ≤ i ∧ v = .slice i 0 l.length (.known l.length) ∧ h'.get i = some (.cells (ints l) true 0)
theorem Fresh.ri {h h' : Heap} {v : AV} {l : List Int} (H : Fresh h h' v l) : RI h' v l := by
  obtain ⟨hs, hl, i, hi, rfl, hg⟩ := H
  exact RI.known hg ⟨rfl, hl⟩ (Nat.le_refl _)
theorem Fresh.sub {h h' : Heap} {v : AV} {l : List Int} (H : Fresh h h' v l) : HSub h h' := H.1
theorem Fresh.mono {h0 h h' : Heap} {v : AV} {l : List Int} (H : Fresh h h' v l) (hs : HSub h0 h) : Fresh h0 h' v l := by
  obtain ⟨hs', hl, i, hi, r⟩ := H
  exact ⟨hs.trans hs', hl, i, Nat.le_trans hs.size hi, r⟩

/-- A list whose first elements have been replaced. -/
def mapPre (f : Int → Int) (l : List Int) (i : Nat) : List Int := (l.take i).map f ++ l.drop i
theorem mapPre_zero (f : Int → Int) (l : List Int) : mapPre f l 0 = l := by simp [mapPre]
theorem mapPre_full (f : Int → Int) (l : List Int) : mapPre f l l.length = l.map f := by simp [mapPre]
theorem mapPre_length (f : Int → Int) (l : List Int) (i : Nat) : (mapPre f l i).length = l.length := by simp [mapPre]; omega
theorem mapPre_get (f : Int → Int) {l : List Int} {i : Nat} (h : i < l.length) : (mapPre f l i).getD i 0 = l.getD i 0 := by
  simp only [mapPre, List.getD_eq_getElem?_getD]
  rw [List.getElem?_append_right (by simp; omega)]
  simp [Nat.min_eq_left (Nat.le_of_lt h)]
theorem mapPre_set (f : Int → Int) {l : List Int} {i : Nat} (h : i < l.length) : (mapPre f l i).set i (f (l.getD i 0)) = mapPre f l (i + 1) := by
  unfold mapPre
  have hl : ((l.take i).map f).length = i := by simp; omega
  rw [List.set_append_right _ _ (by omega), hl, Nat.sub_self, take_succ_getD h, List.map_append, List.append_assoc]
  congr 1
  have : l.drop i = l.getD i 0 :: l.drop (i + 1) := by
    rw [List.drop_eq_getElem_cons h]; simp [h]
  rw [this]; rfl

section
variable {C : Ctx}

/-- A function value that answers whether a number has a property. -/
def Asks (C : Ctx) (f : AV) (p : Int → Bool) (l : List Int) (h : Heap) : Prop :=
  ∃ g c, f = .func g [] c ∧ ∀ x ∈ l, ACalls C g ([] ++ [.int .i64 x] ++ c) h (fun r h' => r = .bool (p x) ∧ h' = h)

def idxI (p : Int → Bool) (l : List Int) : Int := if l.any p then l.findIdx p else -1

theorem any_take_succ {p : Int → Bool} {l : List Int} {i : Nat} (hi : i < l.length) (h : (l.take i).any p = false) (hp : p (l.getD i 0) = false) : (l.take (i + 1)).any p = false := by
  rw [take_succ_getD hi, List.any_append, h]; simpa using hp
theorem findIdx_of {p : Int → Bool} {l : List Int} {i : Nat} (hi : i < l.length) (h : (l.take i).any p = false) (hp : p (l.getD i 0) = true) : l.any p = true ∧ l.findIdx p = i := by
  have e : l.getD i 0 = l[i] := by simp [hi]
  refine ⟨List.any_eq_true.2 ⟨l.getD i 0, getD_mem hi, hp⟩, ?_⟩
  rw [List.findIdx_eq hi]
  refine ⟨by rw [← e]; exact hp, fun j hj => ?_⟩
  have := List.any_eq_false.1 h (l[j]) (by rw [List.mem_take_iff_getElem]; exact ⟨j, by omega, rfl⟩)
  simpa using this

theorem IndexFunc_spec (hC : Has C T50) {v f : AV} {l : List Int} {p : Int → Bool} {h : Heap} (hl : RI h v l) (hf : Asks C f p l h) : ACalls C 50 [v, f] h (fun r h' => r = .int .i64 (idxI p l) ∧ h' = h) := by
  obtain ⟨g, c, rfl, hf⟩ := hf
  have hlt := hl.lt
  (refine calls_intro (hC.body (by decide) tab50) (Nat.le_of_ble_eq_true rfl) ?_); (show wp C _ none B50.code _ _); (simp only [B50]); simp -implicitDefEqProofs (disch := first | assumption | decide | omega | (simp only [wpD1] <;> omega) | (simp only [wpD2] <;> assumption) | solve_by_elim [HSub.refl, HSub.push, HSub.reserve] | fail) only [↓wpPre, wpPost, wpPoly, Int.reduceToNat, Int.reducePow, Int.reduceMul, Int.reduceAdd, Int.reduceSub, Int.reduceNeg, Nat.reduceAdd, Nat.reduceMul, Nat.reducePow, Int.reduceLT, Int.reduceLE, Int.reduceEq, Nat.reduceEqDiff, hl.len]
  refine wp_loopI (fun j t h' => h' = h ∧ t 0 = v ∧ t 1 = .func g [] c ∧ t 7 = .int .i64 l.length ∧ ∃ i : Nat, t 8 = .int .i64 (i : Nat) ∧ i ≤ l.length ∧ (l.take i).any p = false ∧ j = l.length - i) ⟨rfl, rfl, rfl, rfl, 0, rfl, by omega, by simp, rfl⟩ ?_
  rintro j t h' ⟨rfl, e0, e1, e7, i, e8, hi, hp, hj⟩
  simp -implicitDefEqProofs (disch := first | assumption | decide | omega | (simp only [wpD1] <;> omega) | (simp only [wpD2] <;> assumption) | solve_by_elim [HSub.refl, HSub.push, HSub.reserve] | fail) only [↓wpPre, wpPost, wpPoly, Int.reduceToNat, Int.reducePow, Int.reduceMul, Int.reduceAdd, Int.reduceSub, Int.reduceNeg, Nat.reduceAdd, Nat.reduceMul, Nat.reducePow, Int.reduceLT, Int.reduceLE, Int.reduceEq, Nat.reduceEqDiff, e0, e1, e7, e8]
  refine Br.by (fun c1 => ?_) (fun c1 => ?_)
  · have hi' : i < l.length := by omega
    simp -implicitDefEqProofs (disch := first | assumption | decide | omega | (simp only [wpD1] <;> omega) | (simp only [wpD2] <;> assumption) | solve_by_elim [HSub.refl, HSub.push, HSub.reserve] | fail) only [↓wpPre, wpPost, wpPoly, Int.reduceToNat, Int.reducePow, Int.reduceMul, Int.reduceAdd, Int.reduceSub, Int.reduceNeg, Nat.reduceAdd, Nat.reduceMul, Nat.reducePow, Int.reduceLT, Int.reduceLE, Int.reduceEq, Nat.reduceEqDiff, e0, e1, e7, e8, hl.idx, hl.load]
    refine ACallsK.eq (hf _ (getD_mem hi')) ?_
    simp -implicitDefEqProofs (disch := first | assumption | decide | omega | (simp only [wpD1] <;> omega) | (simp only [wpD2] <;> assumption) | solve_by_elim [HSub.refl, HSub.push, HSub.reserve] | fail) only [↓wpPre, wpPost, wpPoly, Int.reduceToNat, Int.reducePow, Int.reduceMul, Int.reduceAdd, Int.reduceSub, Int.reduceNeg, Nat.reduceAdd, Nat.reduceMul, Nat.reducePow, Int.reduceLT, Int.reduceLE, Int.reduceEq, Nat.reduceEqDiff]
    refine Br.by (fun c2 => ?_) (fun c2 => ?_)
    · have := findIdx_of hi' hp c2
      simp -implicitDefEqProofs (disch := first | assumption | decide | omega | (simp only [wpD1] <;> omega) | (simp only [wpD2] <;> assumption) | solve_by_elim [HSub.refl, HSub.push, HSub.reserve] | fail) only [↓wpPre, wpPost, wpPoly, Int.reduceToNat, Int.reducePow, Int.reduceMul, Int.reduceAdd, Int.reduceSub, Int.reduceNeg, Nat.reduceAdd, Nat.reduceMul, Nat.reducePow, Int.reduceLT, Int.reduceLE, Int.reduceEq, Nat.reduceEqDiff, idxI, if_pos this.1, this.2]
    · simp -implicitDefEqProofs (disch := first | assumption | decide | omega | (simp only [wpD1] <;> omega) | (simp only [wpD2] <;> assumption) | solve_by_elim [HSub.refl, HSub.push, HSub.reserve] | fail) only [↓wpPre, wpPost, wpPoly, Int.reduceToNat, Int.reducePow, Int.reduceMul, Int.reduceAdd, Int.reduceSub, Int.reduceNeg, Nat.reduceAdd, Nat.reduceMul, Nat.reducePow, Int.reduceLT, Int.reduceLE, Int.reduceEq, Nat.reduceEqDiff, e0, e1, e7, e8]
      exact ⟨_, ⟨i + 1, by simp, by omega, any_take_succ hi' hp (by simpa using c2), rfl⟩, by omega⟩
  · have : i = l.length := by omega
    subst this
    rw [List.take_of_length_le (Nat.le_refl _)] at hp
    simp -implicitDefEqProofs (disch := first | assumption | decide | omega | (simp only [wpD1] <;> omega) | (simp only [wpD2] <;> assumption) | solve_by_elim [HSub.refl, HSub.push, HSub.reserve] | fail) only [↓wpPre, wpPost, wpPoly, Int.reduceToNat, Int.reducePow, Int.reduceMul, Int.reduceAdd, Int.reduceSub, Int.reduceNeg, Nat.reduceAdd, Nat.reduceMul, Nat.reducePow, Int.reduceLT, Int.reduceLE, Int.reduceEq, Nat.reduceEqDiff, idxI, hp]
    simp

theorem idxI_nonneg {p : Int → Bool} {l : List Int} : 0 ≤ idxI p l ↔ l.any p = true := by
  unfold idxI
  split
  · rename_i h; simp [h]
  · rename_i h; simp [h]

theorem ContainsFunc_spec (hC : Has C T37) {v f : AV} {l : List Int} {p : Int → Bool} {h : Heap} (hl : RI h v l) (hf : Asks C f p l h) : ACalls C 37 [v, f] h (fun r h' => r = .bool (l.any p) ∧ h' = h) := by
  (refine calls_intro (hC.body (by decide) tab37) (Nat.le_of_ble_eq_true rfl) ?_); (show wp C _ none B37.code _ _); (simp only [B37]); simp -implicitDefEqProofs (disch := first | assumption | decide | omega | (simp only [wpD1] <;> omega) | (simp only [wpD2] <;> assumption) | solve_by_elim [HSub.refl, HSub.push, HSub.reserve] | fail) only [↓wpPre, wpPost, wpPoly, Int.reduceToNat, Int.reducePow, Int.reduceMul, Int.reduceAdd, Int.reduceSub, Int.reduceNeg, Nat.reduceAdd, Nat.reduceMul, Nat.reducePow, Int.reduceLT, Int.reduceLE, Int.reduceEq, Nat.reduceEqDiff]
  refine ACallsK.eq (IndexFunc_spec (hC.sub (T' := T50) (by decide)) hl hf) ?_
  simp -implicitDefEqProofs (disch := first | assumption | decide | omega | (simp only [wpD1] <;> omega) | (simp only [wpD2] <;> assumption) | solve_by_elim [HSub.refl, HSub.push, HSub.reserve] | fail) only [↓wpPre, wpPost, wpPoly, Int.reduceToNat, Int.reducePow, Int.reduceMul, Int.reduceAdd, Int.reduceSub, Int.reduceNeg, Nat.reduceAdd, Nat.reduceMul, Nat.reducePow, Int.reduceLT, Int.reduceLE, Int.reduceEq, Nat.reduceEqDiff]
  cases hx : l.any p with
  | true => simp [idxI_nonneg, hx]
  | false => simp [idxI_nonneg, hx]
end
end Go.Ae

/- Lists that grow by append, one's own. -/
set_option linter.unusedSimpArgs false
set_option linter.unusedVariables false
namespace Go.Ae

theorem seqx {a b : List Int} (hl : a.length = b.length) (h : ∀ i, i < a.length → a.getD i 0 = b.getD i 0) : a = b := by
  refine List.ext_getElem hl fun i h1 h2 => ?_
  have := h i h1
  simpa [h1, h2] using this

/-- A list of one's own that has grown by appends, made behind a heap. -/
def Grw (h0 h : Heap) (sz : Nat) (v : AV) (n : Nat) (cs : List AV) : Prop :=
  HSub h0 h ∧ cs.length = n * sz ∧ n < 9223372036854775808 ∧ ((v = .nilslice ∧ n = 0) ∨ ∃ i ex, h0.size ≤ i ∧ v = .slice i 0 n (.unk 0) ∧ h.get i = some (.cells (cs ++ ex) true sz))
theorem cut_pre {cs ex : List AV} {k : Nat} (h : cs.length = k) : cut (cs ++ ex) 0 k = cs := by subst h; simp [cut]
def GrwI (h0 h : Heap) (v : AV) (l : List Int) : Prop := Grw h0 h 1 v l.length (ints l)
/-- The heap behind an append that has made a new row. -/
def snocH (H : Heap) (nid : Option Nat) (v : AV) (sz : Nat) (cs : List AV) : Heap :=
  match v with
  | .slice i _ _ _ => (H.put i .dead).new nid (.cells cs true sz)
  | _ => H.new nid (.cells cs true sz)
section
variable {h0 h H : Heap} {sz bytes n m k : Nat} {v : AV} {cs news : List AV} {l : List Int}
theorem Grw.sub (A : Grw h0 h sz v n cs) : HSub h0 h := A.1
theorem Grw.sl (A : Grw h0 h sz v n cs) : SL h sz v n cs := by
  obtain ⟨hs, hl, hn, ⟨rfl, rfl⟩ | ⟨i, ex, hi, rfl, hg⟩⟩ := A
  · exact ⟨hl, hn, .inl ⟨rfl, rfl⟩⟩
  · exact ⟨hl, hn, .inr ⟨i, 0, _, _, true, sz, rfl, hg, by rw [List.length_append]; omega, cut_pre hl, by simp⟩⟩
theorem GrwI.ri (A : GrwI h0 h v l) : RI h v l := Grw.sl A
theorem GrwI.sub (A : GrwI h0 h v l) : HSub h0 h := A.1
theorem Grw.nil (h : Heap) (sz : Nat) : Grw h h sz .nilslice 0 [] := ⟨HSub.refl _, by simp, by omega, .inl ⟨rfl, rfl⟩⟩
theorem GrwI.nil (h : Heap) : GrwI h h .nilslice [] := Grw.nil h 1
theorem GrwI.nil' (hs : HSub h0 h) : GrwI h0 h .nilslice [] := ⟨hs, by simp [ints], by simp, .inl ⟨rfl, rfl⟩⟩
theorem Grw.mono (A : Grw h0 h sz v n cs) (hs : HSub h H) : Grw h0 H sz v n cs := by
  obtain ⟨h1, hl, hn, ⟨rfl, rfl⟩ | ⟨i, ex, hi, rfl, hg⟩⟩ := A
  · exact ⟨h1.trans hs, hl, hn, .inl ⟨rfl, rfl⟩⟩
  · exact ⟨h1.trans hs, hl, hn, .inr ⟨i, ex, hi, rfl, (hs.get i (Heap.lt_of_get hg)).trans hg⟩⟩
theorem GrwI.mono (A : GrwI h0 h v l) (hs : HSub h H) : GrwI h0 H v l := Grw.mono A hs
theorem Grw.base {h1' : Heap} (A : Grw h h1' sz v n cs) (hs : HSub h0 h) : Grw h0 h1' sz v n cs := by
  obtain ⟨h1, hl, hn, ⟨rfl, rfl⟩ | ⟨i, ex, hi, rfl, hg⟩⟩ := A
  · exact ⟨hs.trans h1, hl, hn, .inl ⟨rfl, rfl⟩⟩
  · exact ⟨hs.trans h1, hl, hn, .inr ⟨i, ex, Nat.le_trans hs.size hi, rfl, hg⟩⟩
theorem GrwI.base {h1 : Heap} (A : GrwI h h1 v l) (hs : HSub h0 h) : GrwI h0 h1 v l := Grw.base A hs

theorem Grw.app (A : Grw h0 h sz v n cs) (hs : HSub h H) (hm : m ≠ 0) (hb : (n + m) * bytes ≤ 1099511627776) (h1 : news.all AV.one = true) :
    appendA H none sz bytes v m news = some (.slice H.size 0 (n + m) (.unk 0), snocH H none v sz (cs ++ news)) := by
  obtain ⟨_, hl, hn, ⟨rfl, rfl⟩ | ⟨i, ex, hi, rfl, hg⟩⟩ := A
  · have : cs = [] := List.eq_nil_of_length_eq_zero (by omega)
    subst this
    rw [Nat.zero_add] at hb ⊢
    rw [app_nil hm hb]
    simp [snocH, Heap.new]
  · have e := (hs.get i (Heap.lt_of_get hg)).trans hg
    rw [app_unk, e, appUB_grow (by rw [List.length_append]; omega) (by omega) hb h1, cut_pre hl]
    rfl
def appK (n : Nat) (H : Heap) (v r : AV) (sz : Nat) (cs : List AV) : Option ABlk → Option (AV × Heap)
  | none => some (r, snocH H (some n) v sz cs)
  | _ => none
theorem appK_none {r : AV} : appK k H v r sz cs none = some (r, snocH H (some k) v sz cs) := rfl
theorem Grw.appS (A : Grw h0 h sz v n cs) (hs : HSub h H) (hk : h.size ≤ k ∧ k < H.size) (hm : m ≠ 0) (hb : (n + m) * bytes ≤ 1099511627776) (h1 : news.all AV.one = true) :
    appendA H (some k) sz bytes v m news = appK k H v (.slice k 0 (n + m) (.unk 0)) sz (cs ++ news) (H.get k) := by
  obtain ⟨_, hl, hn, ⟨rfl, rfl⟩ | ⟨i, ex, hi, rfl, hg⟩⟩ := A
  · have : cs = [] := List.eq_nil_of_length_eq_zero (by omega)
    subst this
    rw [Nat.zero_add] at hb ⊢
    have hr : H.room (some k) = ((H.get k).isNone && decide (k < H.size)) := rfl
    simp only [appendA, if_neg hm]
    by_cases e : (H.get k).isNone = true
    · have e' : H.get k = none := by simpa using e
      rw [if_pos ⟨hb, by rw [hr, e]; simpa using hk.2⟩]
      exact (congrArg (appK k H .nilslice (.slice k 0 m (.unk 0)) sz ([] ++ news)) e').symm
    · rw [if_neg (by rw [hr]; simp [e])]
      obtain ⟨b, e'⟩ : ∃ b, H.get k = some b := by cases x : H.get k with | none => simp [x] at e | some b => exact ⟨b, rfl⟩
      exact (congrArg (appK k H .nilslice (.slice k 0 m (.unk 0)) sz ([] ++ news)) e').symm
  · have e0 := (hs.get i (Heap.lt_of_get hg)).trans hg
    have hr : H.room (some k) = ((H.get k).isNone && decide (k < H.size)) := rfl
    simp only [appendA, e0]
    by_cases e : (H.get k).isNone = true
    · have e' : H.get k = none := by simpa using e
      rw [if_pos ⟨trivial, by omega, by rw [List.length_append]; omega, h1, hb, by rw [hr, e]; simpa using hk.2, by omega⟩, cut_pre hl]
      exact (congrArg (appK k H (.slice i 0 n (.unk 0)) (.slice k 0 (n + m) (.unk 0)) sz (cs ++ news)) e').symm
    · rw [if_neg (by rw [hr]; simp [e]), if_neg (by omega)]
      obtain ⟨b, e'⟩ : ∃ b, H.get k = some b := by cases x : H.get k with | none => simp [x] at e | some b => exact ⟨b, rfl⟩
      exact (congrArg (appK k H (.slice i 0 n (.unk 0)) (.slice k 0 (n + m) (.unk 0)) sz (cs ++ news)) e').symm
theorem Grw.snoc (A : Grw h0 h sz v n cs) (hs : HSub h H) (hl : news.length = m * sz) (hn : n + m < 9223372036854775808) :
    Grw h0 (snocH H none v sz (cs ++ news)) sz (.slice H.size 0 (n + m) (.unk 0)) (n + m) (cs ++ news) := by
  obtain ⟨h1, hl', hn', ⟨rfl, rfl⟩ | ⟨i, ex, hi, rfl, hg⟩⟩ := A
  · exact ⟨(h1.trans hs).push _, by rw [List.length_append, Nat.add_mul]; omega, hn, .inr ⟨H.size, [], (h1.trans hs).size, rfl, by rw [List.append_nil]; exact get_push_eq rfl⟩⟩
  · exact ⟨((h1.trans hs).put hi _).push _, by rw [List.length_append, Nat.add_mul]; omega, hn, .inr ⟨H.size, [], (h1.trans hs).size, rfl, by rw [List.append_nil]; exact get_push_eq rfl⟩⟩
theorem Grw.snocS (A : Grw h0 h sz v n cs) (hs : HSub h H) (hk : h.size ≤ k ∧ k < H.size) (hl : news.length = m * sz) (hn : n + m < 9223372036854775808) :
    Grw h0 (snocH H (some k) v sz (cs ++ news)) sz (.slice k 0 (n + m) (.unk 0)) (n + m) (cs ++ news) := by
  obtain ⟨h1, hl', hn', ⟨rfl, rfl⟩ | ⟨i, ex, hi, rfl, hg⟩⟩ := A
  · have := h1.size
    exact ⟨(h1.trans hs).put (by omega) _, by rw [List.length_append, Nat.add_mul]; omega, hn, .inr ⟨k, [], by omega, rfl, by rw [List.append_nil]; exact get_put_eq rfl hk.2⟩⟩
  · have := h1.size
    exact ⟨((h1.trans hs).put hi _).put (by omega) _, by rw [List.length_append, Nat.add_mul]; omega, hn, .inr ⟨k, [], by omega, rfl, by rw [List.append_nil]; exact get_put_eq rfl (by simpa using hk.2)⟩⟩
/-- One number more. -/
theorem GrwI.app {x : Int} (A : GrwI h0 h v l) : ∀ (H : Heap), HSub h H → l.length + 1 ≤ 1073741824 → appendA H none 1 8 v 1 [.int .i64 x] = some (.slice H.size 0 (l.length + 1) (.unk 0), snocH H none v 1 (ints (l ++ [x]))) := by
  intro H hs hb
  rw [Grw.app A hs (by decide) (by omega) (by rfl), ints_snoc]
theorem GrwI.appS {x : Int} (A : GrwI h0 h v l) : ∀ (H : Heap) (k : Nat), HSub h H → h.size ≤ k ∧ k < H.size → l.length + 1 ≤ 1073741824 → appendA H (some k) 1 8 v 1 [.int .i64 x] = appK k H v (.slice k 0 (l.length + 1) (.unk 0)) 1 (ints (l ++ [x])) (H.get k) := by
  intro H k hs hk hb
  rw [Grw.appS A hs hk (by decide) (by omega) (by rfl), ints_snoc]
theorem GrwI.snoc {x : Int} (A : GrwI h0 h v l) (hs : HSub h H) (hb : l.length + 1 ≤ 1073741824) : GrwI h0 (snocH H none v 1 (ints (l ++ [x]))) (.slice H.size 0 (l.length + 1) (.unk 0)) (l ++ [x]) := by
  have := Grw.snoc (news := [.int .i64 x]) (m := 1) A hs rfl (by omega)
  rw [ints_snoc] at this
  unfold GrwI; rw [List.length_append]; exact this
theorem GrwI.snocS {x : Int} (A : GrwI h0 h v l) (hs : HSub h H) (hk : h.size ≤ k ∧ k < H.size) (hb : l.length + 1 ≤ 1073741824) : GrwI h0 (snocH H (some k) v 1 (ints (l ++ [x]))) (.slice k 0 (l.length + 1) (.unk 0)) (l ++ [x]) := by
  have := Grw.snocS (news := [.int .i64 x]) (m := 1) A hs hk rfl (by omega)
  rw [ints_snoc] at this
  unfold GrwI; rw [List.length_append]; exact this
/-- A new list is one of this kind. -/
theorem Grw.fresh {i : Nat} (hs : HSub h0 h) (hi : h0.size ≤ i) (hl : l.length < 9223372036854775808) (hg : h.get i = some (.cells (ints l) true 1)) : GrwI h0 h (.slice i 0 l.length (.unk 0)) l :=
  ⟨hs, by simp [ints], hl, .inr ⟨i, [], hi, rfl, by rw [List.append_nil]; exact hg⟩⟩
/-- Another list, made ahead of the append, is still there. -/
theorem RI.snocH {w : AV} {L : List Int} (hw : RI h0 w L) (A : Grw h0 H sz v n cs) : RI H w L := hw.mono A.sub
end

/-- The contents of a slice, by the row that it lies in. -/
def contB (n sz o : Nat) : Option ABlk → Option (Nat × List AV)
  | some (.cells vs _ _) => if o + n * sz ≤ vs.length then some (n, cut vs o (n * sz)) else none
  | _ => none
theorem cont_slice {h : Heap} {sz i o n : Nat} {c : Cap} : contentA h sz (.slice i o n c) = contB n sz o (h.get i) := by
  simp only [contentA, contB]
  cases h.get i with
  | none => rfl
  | some b => cases b <;> rfl
theorem contB_some {n sz o u : Nat} {vs : List AV} {wr : Bool} (h : o + n * sz ≤ vs.length) : contB n sz o (some (.cells vs wr u)) = some (n, cut vs o (n * sz)) := by simp only [contB, if_pos h]
theorem contB_one {x : AV} {u : Nat} {wr : Bool} : contB 1 1 0 (some (.cells [x] wr u)) = some (1, [x]) := rfl

section
variable {C : Ctx}
/-- Clone of Go's slices package, on numbers. -/
theorem Clone_spec (hC : Has C T42) {v : AV} {l : List Int} {h : Heap} (hl : RI h v l) (hb : 1 ≤ l.length ∧ l.length ≤ 1073741824) : ACalls C 42 [v] h (fun r h' => HSub h h' ∧ ∃ i, h.size ≤ i ∧ r = .slice i 0 l.length (.unk 0) ∧ h'.get i = some (.cells (ints l) true 1)) := by
  have hlt := hl.lt
  obtain ⟨i, o, n, cp, rfl⟩ : ∃ i o n cp, v = .slice i o n cp := by
    obtain ⟨_, _, ⟨rfl, h1⟩ | ⟨i, o, cp, vs, wr, u, rfl, _⟩⟩ := hl
    · omega
    · exact ⟨_, _, _, _, rfl⟩
  have hc' : contentA (h.push (.cells [] true 0)) 1 (.slice i o n cp) = some (l.length, ints l) := (hl.mono (HSub.push1 _ _)).content
  have h0 : l.length ≠ 0 := by omega
  (refine calls_intro (hC.body (by decide) tab42) (Nat.le_of_ble_eq_true rfl) ?_); (show wp C _ none B42.code _ _); (simp only [B42]); simp -implicitDefEqProofs (disch := first | assumption | decide | omega | (simp only [wpD1] <;> omega) | (simp only [wpD2] <;> assumption) | solve_by_elim [HSub.refl, HSub.push, HSub.reserve] | fail) only [↓wpPre, wpPost, wpPoly, Int.reduceToNat, Int.reducePow, Int.reduceMul, Int.reduceAdd, Int.reduceSub, Int.reduceNeg, Nat.reduceAdd, Nat.reduceMul, Nat.reducePow, Int.reduceLT, Int.reduceLE, Int.reduceEq, Nat.reduceEqDiff, show eqnA false (.slice i o n cp) = some (.bool false) from rfl, hc']
  exact ⟨(HSub.push1 _ _).push _, h.size + 1, by omega, rfl, get_push_eq rfl⟩

theorem put_same {h : Heap} {i : Nat} {b : ABlk} (hg : h.get i = some b) : h.put i b = h := by
  refine heap_eq rfl fun j => ?_
  show (if j = i then (if i < h.size then some b else none) else h.get j) = h.get j
  split
  · rename_i e; subst e; rw [if_pos (Heap.lt_of_get hg), hg]
  · rfl
def revP (l : List Int) (j : Nat) : List Int := (List.range l.length).map fun k => if k < j ∨ l.length ≤ k + j then l.getD (l.length - 1 - k) 0 else l.getD k 0
theorem revP_length (l : List Int) (j : Nat) : (revP l j).length = l.length := by simp [revP]
theorem revP_get {l : List Int} {j k : Nat} (h : k < l.length) : (revP l j).getD k 0 = if k < j ∨ l.length ≤ k + j then l.getD (l.length - 1 - k) 0 else l.getD k 0 := by simp [revP, h]
theorem revP_zero (l : List Int) : revP l 0 = l := by
  refine seqx (by simp [revP]) fun i hi => ?_
  rw [revP_length] at hi
  rw [revP_get hi, if_neg (by omega)]
theorem revP_step {l : List Int} {j : Nat} (h : j < l.length - 1 - j) : ((revP l j).set j (l.getD (l.length - 1 - j) 0)).set (l.length - 1 - j) (l.getD j 0) = revP l (j + 1) := by
  refine seqx (by simp [revP]) fun i hi => ?_
  simp only [List.length_set, revP_length] at hi
  rw [revP_get hi]
  simp only [List.getD_eq_getElem?_getD, List.getElem?_set, List.length_set, revP_length]
  by_cases e1 : l.length - 1 - j = i
  · rw [if_pos e1, if_pos (by omega), if_pos (by omega), ← e1, show l.length - 1 - (l.length - 1 - j) = j by omega]; rfl
  · rw [if_neg e1]
    by_cases e2 : j = i
    · rw [if_pos e2, if_pos (by omega), if_pos (by omega), e2]; rfl
    · rw [if_neg e2]
      have := revP_get (l := l) (j := j) hi
      rw [List.getD_eq_getElem?_getD] at this
      rw [this]
      by_cases e3 : i < j ∨ l.length ≤ i + j
      · rw [if_pos e3, if_pos (by omega)]; simp
      · rw [if_neg e3, if_neg (by omega)]; simp
theorem revP_full {l : List Int} {j : Nat} (h : l.length ≤ 2 * j + 1) (h2 : 2 * j ≤ l.length) : revP l j = l.reverse := by
  refine seqx (by simp [revP]) fun i hi => ?_
  rw [revP_length] at hi
  rw [revP_get hi]
  have : l.reverse.getD i 0 = l.getD (l.length - 1 - i) 0 := by simp [List.getElem?_reverse hi]
  rw [this]
  split
  · rfl
  · congr 1; omega
theorem Reverse_spec (hC : Has C T43) {l : List Int} {i0 u : Nat} {c : Cap} {h : Heap} (hg : h.get i0 = some (.cells (ints l) true u)) (hlt : l.length < 9223372036854775808) (h1 : 1 ≤ l.length) :
    ACalls C 43 [.slice i0 0 l.length c] h (fun _ h' => h' = h.put i0 (.cells (ints l.reverse) true u)) := by
  have hi0 := Heap.lt_of_get hg
  (refine calls_intro (hC.body (by decide) tab43) (Nat.le_of_ble_eq_true rfl) ?_); (show wp C _ none B43.code _ _); (simp only [B43]); simp -implicitDefEqProofs (disch := first | assumption | decide | omega | (simp only [wpD1] <;> omega) | (simp only [wpD2] <;> assumption) | solve_by_elim [HSub.refl, HSub.push, HSub.reserve] | fail) only [↓wpPre, wpPost, wpPoly, Int.reduceToNat, Int.reducePow, Int.reduceMul, Int.reduceAdd, Int.reduceSub, Int.reduceNeg, Nat.reduceAdd, Nat.reduceMul, Nat.reducePow, Int.reduceLT, Int.reduceLE, Int.reduceEq, Nat.reduceEqDiff]
  refine wp_loopI (fun j t h' => ∃ i : Nat, h' = h.put i0 (.cells (ints (revP l i)) true u) ∧ t 0 = .slice i0 0 l.length c ∧ t 2 = .int .i64 (i : Nat) ∧ t 3 = .int .i64 ((l.length - 1 - i : Nat) : Int) ∧ 2 * i ≤ l.length ∧ j = l.length - 2 * i) (j0 := l.length)
    ⟨0, by rw [revP_zero, put_same hg], rfl, rfl, congrArg (AV.int .i64) (show ((l.length : Int) - 1) = ((l.length - 1 - 0 : Nat) : Int) by omega), by omega, rfl⟩ ?_
  rintro j t h' ⟨i, rfl, e0, e2, e3, hi, hj⟩
  have hrl := revP_length l i
  simp -implicitDefEqProofs (disch := first | assumption | decide | omega | (simp only [wpD1] <;> omega) | (simp only [wpD2] <;> assumption) | solve_by_elim [HSub.refl, HSub.push, HSub.reserve] | fail) only [↓wpPre, wpPost, wpPoly, Int.reduceToNat, Int.reducePow, Int.reduceMul, Int.reduceAdd, Int.reduceSub, Int.reduceNeg, Nat.reduceAdd, Nat.reduceMul, Nat.reducePow, Int.reduceLT, Int.reduceLE, Int.reduceEq, Nat.reduceEqDiff, e0, e2, e3]
  refine Br.by (fun c1 => ?_) (fun c1 => ?_)
  · have r1 := revP_get (l := l) (j := i) (k := i) (by omega)
    have r2 := revP_get (l := l) (j := i) (k := l.length - 1 - i) (by omega)
    rw [if_neg (by omega)] at r1
    rw [if_neg (by omega)] at r2
    simp -implicitDefEqProofs (disch := first | assumption | decide | omega | (simp only [wpD1] <;> omega) | (simp only [wpD2] <;> assumption) | solve_by_elim [HSub.refl, HSub.push, HSub.reserve] | fail) only [↓wpPre, wpPost, wpPoly, Int.reduceToNat, Int.reducePow, Int.reduceMul, Int.reduceAdd, Int.reduceSub, Int.reduceNeg, Nat.reduceAdd, Nat.reduceMul, Nat.reducePow, Int.reduceLT, Int.reduceLE, Int.reduceEq, Nat.reduceEqDiff, e0, e2, e3, r1, r2]
    refine ⟨_, ⟨i + 1, ?_, by simp, ?_, by omega, rfl⟩, by omega⟩
    · rw [← revP_step (by omega)]
    · omega
  · simp -implicitDefEqProofs (disch := first | assumption | decide | omega | (simp only [wpD1] <;> omega) | (simp only [wpD2] <;> assumption) | solve_by_elim [HSub.refl, HSub.push, HSub.reserve] | fail) only [↓wpPre, wpPost, wpPoly, Int.reduceToNat, Int.reducePow, Int.reduceMul, Int.reduceAdd, Int.reduceSub, Int.reduceNeg, Nat.reduceAdd, Nat.reduceMul, Nat.reducePow, Int.reduceLT, Int.reduceLE, Int.reduceEq, Nat.reduceEqDiff]
    rw [revP_full (by omega) (by omega)]
end
end Go.Ae

/- Lists of samples: read, grown, filled. -/
set_option linter.unusedSimpArgs false
set_option linter.unusedVariables false
namespace Go.Ae

def AV.sameC : AV → AV → Bool
  | .agg a, .agg b => samesB a b
  | a, b => a.sameB b
def samesC : List AV → List AV → Bool
  | [], [] => true
  | a :: xs, b :: ys => a.sameC b && samesC xs ys
  | _, _ => false
/-- Whether two results are the same. -/
def AV.sameR : AV → AV → Bool
  | .tuple a, .tuple b => samesC a b
  | a, b => a.sameC b
theorem sameC_eq {a b : AV} (h : a.sameC b = true) : a = b := by
  unfold AV.sameC at h
  split at h
  · rw [samesB_eq h]
  · exact sameB_eq h
theorem samesC_eq : ∀ {xs ys : List AV}, samesC xs ys = true → xs = ys
  | [], [], _ => rfl
  | a :: xs, b :: ys, h => by
    simp only [samesC, Bool.and_eq_true] at h
    rw [sameC_eq h.1, samesC_eq h.2]
  | [], _ :: _, h => by cases h
  | _ :: _, [], h => by cases h
theorem sameR_eq {a b : AV} (h : a.sameR b = true) : a = b := by
  unfold AV.sameR at h
  split at h
  · rw [samesC_eq h]
  · exact sameC_eq h
/-- A run over no blocks that gives this value. -/
def runsAs (T : Nat → Option ABody) (fuel depth g : Nat) (args : List AV) (v : AV) : Bool :=
  match runCall T fuel depth (.func g [] []) args Heap.empty with
  | some (r, _) => r.sameR v
  | _ => false
theorem runsAs_sound {C : Ctx} {T : Nat → Option ABody} (hT : ∀ g b, T g = some b → C.body g = some b) {fuel depth g : Nat} {args : List AV} {v : AV} (hargs : ∀ a ∈ args, a.free) (hv : v.free) (hr : runsAs T fuel depth g args v = true) (h : Heap) :
    ACalls C g args h (fun r h' => r = v ∧ h' = h) := by
  unfold runsAs at hr
  split at hr
  · rename_i r h1 he
    have er := sameR_eq hr
    have := runCall_sound hT fuel depth _ _ _ _ _ he
    have h2 : ACalls C g args Heap.empty (fun r' h'' => r' = r ∧ h'' = h1) := by simpa [callP] using this
    exact (h2.mono fun r h' q => q.1.trans er).lift hargs hv h
  · cases hr

theorem storeB_func {h : Heap} {i o g : Nat} {f c vs : List AV} {u : Nat} (hv : o < vs.length) : storeB h i 1 o (.func g f c) (some (.cells vs true u)) = some (h.put i (.cells (vs.set o (.func g f c)) true u)) := storeB_one ⟨rfl, rfl, hv⟩
/-- A sample. -/
def smp (p : Int × Int) : AV := .agg [.int .i64 p.1, .int .i64 p.2]
theorem smp_free (p : Int × Int) : (smp p).free := by simp [smp, AV.free, AV.bel, AV.bels]
theorem getP_mem {l : List (Int × Int)} {k : Nat} (h : k < l.length) : l.getD k (0, 0) ∈ l := by
  rw [List.getD_eq_getElem?_getD, List.getElem?_eq_getElem h]; exact List.getElem_mem h
/-- The address of a field of an element. -/
def elF (sz : Nat) (v : AV) (k off : Nat) : AV :=
  match v with
  | .slice i o _ _ => .ptr i (o + k * sz + off)
  | _ => .undef
section
variable {h h' h0 H : Heap} {v : AV} {l : List (Int × Int)} {n : Nat} {cs : List AV}
theorem SI.len (A : SI h v l) : lenA v = some (.int .i64 l.length) := SL.len A
theorem SI.cells (A : SI h v l) : v.cells = [v] := SL.cells A
theorem SI.one (A : SI h v l) : v.one = true := SL.one A
theorem SI.lt (A : SI h v l) : l.length < 9223372036854775808 := SL.lt A
theorem SI.mono (A : SI h v l) (hs : HSub h h') : SI h' v l := SL.mono A hs
theorem SI.content (A : SI h v l) : contentA h 2 v = some (l.length, smps l) := SL.content A
theorem SI.contentC (A : SI h v l) : ∀ (h' : Heap), HSub h h' → contentA h' 2 v = some (l.length, smps l) := fun _ hs => (A.mono hs).content
theorem SI.idx (A : SI h v l) {kk : IntKind} {k : Int} (hk : 0 ≤ k ∧ k < l.length) : idxA 2 v (.int kk k) = some (elA 2 v k.toNat) := SL.idx A hk
theorem smps_cut {k : Nat} (hk : k < l.length) : cut (smps l) (k * 2) 2 = [.int .i64 (l.getD k (0, 0)).1, .int .i64 (l.getD k (0, 0)).2] := by
  have e : l[k]? = some (l.getD k (0, 0)) := by simp [hk]
  have h0 := smps_get0 (l := l) (k := k)
  have h1 := smps_get1 (l := l) (k := k)
  rw [e] at h0 h1
  unfold cut
  obtain ⟨h0', e0⟩ := List.getElem?_eq_some_iff.1 h0
  obtain ⟨h1', e1⟩ := List.getElem?_eq_some_iff.1 h1
  rw [List.drop_eq_getElem_cons h0', List.drop_eq_getElem_cons h1', e0, e1]; rfl
theorem SI.loadA (A : SI h v l) {k : Nat} (hk : k < l.length) : Ae.loadA h true 2 (elA 2 v k) = some (smp (l.getD k (0, 0))) := by
  rw [SL.loadA A hk, smps_cut hk]; rfl
theorem SI.loadAC (A : SI h v l) : ∀ (h' : Heap) (k : Nat), HSub h h' → k < l.length → Ae.loadA h' true 2 (elA 2 v k) = some (smp (l.getD k (0, 0))) := fun _ _ hs hk => (A.mono hs).loadA hk
theorem SI.fld (A : SI h v l) : ∀ (k off : Nat), k < l.length → fieldAddrA off (elA 2 v k) = some (elF 2 v k off) := by
  intro k off hk
  obtain ⟨_, _, ⟨rfl, h1⟩ | ⟨i, o, c, vs, wr, u, rfl, _⟩⟩ := A
  · omega
  · rfl
theorem SI.load0 (A : SI h v l) {k : Nat} (hk : k < l.length) : Ae.loadA h false 1 (elF 2 v k 0) = some (.int .i64 (l.getD k (0, 0)).1) := by
  have e : l[k]? = some (l.getD k (0, 0)) := by simp [hk]
  obtain ⟨hl, hlt, ⟨rfl, h1⟩ | ⟨i, o, c, vs, wr, u, rfl, hg, hle, hc, _⟩⟩ := A
  · omega
  · have h2 := smps_get0 (l := l) (k := k)
    rw [← hc, cut, List.getElem?_take_of_lt (by omega), List.getElem?_drop, e] at h2
    simp only [elF, Ae.loadA, hg, partA, Bool.false_eq_true, if_false]
    rw [Nat.add_zero, h2]; rfl
theorem SI.load1 (A : SI h v l) {k : Nat} (hk : k < l.length) : Ae.loadA h false 1 (elF 2 v k 1) = some (.int .i64 (l.getD k (0, 0)).2) := by
  have e : l[k]? = some (l.getD k (0, 0)) := by simp [hk]
  obtain ⟨hl, hlt, ⟨rfl, h1⟩ | ⟨i, o, c, vs, wr, u, rfl, hg, hle, hc, _⟩⟩ := A
  · omega
  · have h2 := smps_get1 (l := l) (k := k)
    rw [← hc, cut, List.getElem?_take_of_lt (by omega), List.getElem?_drop, e] at h2
    simp only [elF, Ae.loadA, hg, partA, Bool.false_eq_true, if_false]
    rw [Nat.add_assoc, h2]; rfl
theorem SI.load0C (A : SI h v l) : ∀ (h' : Heap) (k : Nat), HSub h h' → k < l.length → Ae.loadA h' false 1 (elF 2 v k 0) = some (.int .i64 (l.getD k (0, 0)).1) := fun _ _ hs hk => (A.mono hs).load0 hk
theorem SI.load1C (A : SI h v l) : ∀ (h' : Heap) (k : Nat), HSub h h' → k < l.length → Ae.loadA h' false 1 (elF 2 v k 1) = some (.int .i64 (l.getD k (0, 0)).2) := fun _ _ hs hk => (A.mono hs).load1 hk

theorem smps_splice {k : Nat} {p : Int × Int} (hk : k < l.length) : splice (smps l) (k * 2) [.int .i64 p.1, .int .i64 p.2] = smps (l.set k p) := by
  unfold splice
  induction l generalizing k with
  | nil => simp at hk
  | cons q l ih =>
    cases k with
    | zero => simp [smps_cons]
    | succ k =>
      have := ih (k := k) (by simpa using hk)
      simp only [List.length_cons, List.length_nil] at this ⊢
      rw [smps_cons, List.set_cons_succ, smps_cons, ← this, show (k + 1) * 2 = k * 2 + 1 + 1 by omega]
      simp only [List.take_succ_cons, List.cons_append]
      rw [show k * 2 + 1 + 1 + (0 + 1 + 1) = k * 2 + (0 + 1 + 1) + 1 + 1 by omega, List.drop_succ_cons, List.drop_succ_cons]
theorem smps_take {k : Nat} : (smps l).take (k * 2) = smps (l.take k) := by
  induction l generalizing k with
  | nil => simp [smps]
  | cons p l ih =>
    cases k with
    | zero => rfl
    | succ k => rw [smps_cons, List.take_succ_cons, smps_cons, ← ih, show (k + 1) * 2 = k * 2 + 1 + 1 by omega]; rfl
theorem smps_drop {k : Nat} : (smps l).drop (k * 2) = smps (l.drop k) := by
  induction l generalizing k with
  | nil => simp [smps]
  | cons p l ih =>
    cases k with
    | zero => rfl
    | succ k => rw [smps_cons, List.drop_succ_cons, ← ih, show (k + 1) * 2 = k * 2 + 1 + 1 by omega]; rfl
theorem smps_replicate {p : Int × Int} {n : Nat} : zerosA n [.int .i64 p.1, .int .i64 p.2] = smps (List.replicate n p) := by
  induction n with
  | zero => rfl
  | succ n ih => rw [List.replicate_succ, smps_cons, ← ih]; simp [zerosA, List.replicate_succ]

/-- A list of samples of one's own that has grown by appends. -/
def GrwS (h0 h : Heap) (v : AV) (l : List (Int × Int)) : Prop := Grw h0 h 2 v l.length (smps l)
theorem GrwS.si (A : GrwS h0 h v l) : SI h v l := Grw.sl A
theorem GrwS.sub (A : GrwS h0 h v l) : HSub h0 h := A.1
theorem GrwS.nil (h : Heap) : GrwS h h .nilslice [] := Grw.nil h 2
theorem GrwS.nil' (hs : HSub h0 h) : GrwS h0 h .nilslice [] := ⟨hs, by simp [smps], by simp, .inl ⟨rfl, rfl⟩⟩
theorem GrwS.mono (A : GrwS h0 h v l) (hs : HSub h H) : GrwS h0 H v l := Grw.mono A hs
theorem GrwS.base {h1 : Heap} (A : GrwS h h1 v l) (hs : HSub h0 h) : GrwS h0 h1 v l := Grw.base A hs
theorem GrwS.app {x y : Int} (A : GrwS h0 h v l) : ∀ (H : Heap), HSub h H → l.length + 1 ≤ 1073741824 → appendA H none 2 16 v 1 [.int .i64 x, .int .i64 y] = some (.slice H.size 0 (l.length + 1) (.unk 0), snocH H none v 2 (smps (l ++ [(x, y)]))) := by
  intro H hs hb
  rw [Grw.app A hs (by decide) (by omega) (by rfl), smps_snoc]
theorem GrwS.snoc {x y : Int} (A : GrwS h0 h v l) (hs : HSub h H) (hb : l.length + 1 ≤ 1073741824) : GrwS h0 (snocH H none v 2 (smps (l ++ [(x, y)]))) (.slice H.size 0 (l.length + 1) (.unk 0)) (l ++ [(x, y)]) := by
  have := Grw.snoc (news := [.int .i64 x, .int .i64 y]) (m := 1) A hs rfl (by omega)
  rw [smps_snoc] at this
  unfold GrwS; rw [List.length_append]; exact this
end
theorem contB_two {x y : AV} {u : Nat} {wr : Bool} : contB 1 2 0 (some (.cells [x, y] wr u)) = some (1, [x, y]) := rfl
theorem eqs_two_t {k : IntKind} {a b c d : Int} : eqsA true [(0, false), (1, false)] (.agg [.int k a, .int k b]) (.agg [.int k c, .int k d]) = some (.bool (decide (¬(a = c ∧ b = d)))) := by
  simp [eqsA, eqCells, Bool.beq_eq_decide_eq, Bool.decide_and]
theorem eqs_two_f {k : IntKind} {a b c d : Int} : eqsA false [(0, false), (1, false)] (.agg [.int k a, .int k b]) (.agg [.int k c, .int k d]) = some (.bool (decide (a = c ∧ b = d))) := by
  simp [eqsA, eqCells, Bool.beq_eq_decide_eq, Bool.decide_and]
theorem takeP_succ {l : List (Int × Int)} {i : Nat} (h : i < l.length) : l.take (i + 1) = l.take i ++ [l.getD i (0, 0)] := by
  rw [List.take_succ_eq_append_getElem h]; simp [h]
section
variable {C : Ctx}
theorem Samples_spec (hC : Has C T123) {va vb : AV} {a b : List (Int × Int)} {h : Heap} (ha : SI h va a) (hb : SI h vb b) : ACalls C 123 [va, vb] h (fun r h' => r = .bool (decide (a = b)) ∧ h' = h) := by
  have l1 := ha.lt
  have l2 := hb.lt
  (refine calls_intro (hC.body (by decide) tab123) (Nat.le_of_ble_eq_true rfl) ?_); (show wp C _ none B123.code _ _); (simp only [B123]); simp -implicitDefEqProofs (disch := first | assumption | decide | omega | (simp only [wpD1] <;> omega) | (simp only [wpD2] <;> assumption) | solve_by_elim [HSub.refl, HSub.push, HSub.reserve] | fail) only [↓wpPre, wpPost, wpPoly, Int.reduceToNat, Int.reducePow, Int.reduceMul, Int.reduceAdd, Int.reduceSub, Int.reduceNeg, Nat.reduceAdd, Nat.reduceMul, Nat.reducePow, Int.reduceLT, Int.reduceLE, Int.reduceEq, Nat.reduceEqDiff, ha.len, hb.len]
  refine Br.by (fun c => ?_) (fun c => ?_)
  · simp -implicitDefEqProofs (disch := first | assumption | decide | omega | (simp only [wpD1] <;> omega) | (simp only [wpD2] <;> assumption) | solve_by_elim [HSub.refl, HSub.push, HSub.reserve] | fail) only [↓wpPre, wpPost, wpPoly, Int.reduceToNat, Int.reducePow, Int.reduceMul, Int.reduceAdd, Int.reduceSub, Int.reduceNeg, Nat.reduceAdd, Nat.reduceMul, Nat.reducePow, Int.reduceLT, Int.reduceLE, Int.reduceEq, Nat.reduceEqDiff]
    have : a ≠ b := fun e => by subst e; omega
    simp [this]
  · simp -implicitDefEqProofs (disch := first | assumption | decide | omega | (simp only [wpD1] <;> omega) | (simp only [wpD2] <;> assumption) | solve_by_elim [HSub.refl, HSub.push, HSub.reserve] | fail) only [↓wpPre, wpPost, wpPoly, Int.reduceToNat, Int.reducePow, Int.reduceMul, Int.reduceAdd, Int.reduceSub, Int.reduceNeg, Nat.reduceAdd, Nat.reduceMul, Nat.reducePow, Int.reduceLT, Int.reduceLE, Int.reduceEq, Nat.reduceEqDiff]
    refine wp_loopI (fun j t h' => h' = h ∧ t 0 = va ∧ t 1 = vb ∧ ∃ i : Nat, t 5 = .int .i64 (i : Nat) ∧ i ≤ a.length ∧ a.take i = b.take i ∧ j = a.length - i) ⟨rfl, rfl, rfl, 0, rfl, by omega, by simp, rfl⟩ ?_
    rintro j t h' ⟨rfl, e0, e1, i, e5, hi, hp, hj⟩
    simp -implicitDefEqProofs (disch := first | assumption | decide | omega | (simp only [wpD1] <;> omega) | (simp only [wpD2] <;> assumption) | solve_by_elim [HSub.refl, HSub.push, HSub.reserve] | fail) only [↓wpPre, wpPost, wpPoly, Int.reduceToNat, Int.reducePow, Int.reduceMul, Int.reduceAdd, Int.reduceSub, Int.reduceNeg, Nat.reduceAdd, Nat.reduceMul, Nat.reducePow, Int.reduceLT, Int.reduceLE, Int.reduceEq, Nat.reduceEqDiff, e0, e1, e5, ha.len]
    refine Br.by (fun c1 => ?_) (fun c1 => ?_)
    · have i1 : i < a.length := by omega
      have i2 : i < b.length := by omega
      simp -implicitDefEqProofs (disch := first | assumption | decide | omega | (simp only [wpD1] <;> omega) | (simp only [wpD2] <;> assumption) | solve_by_elim [HSub.refl, HSub.push, HSub.reserve] | fail) only [↓wpPre, wpPost, wpPoly, Int.reduceToNat, Int.reducePow, Int.reduceMul, Int.reduceAdd, Int.reduceSub, Int.reduceNeg, Nat.reduceAdd, Nat.reduceMul, Nat.reducePow, Int.reduceLT, Int.reduceLE, Int.reduceEq, Nat.reduceEqDiff, e0, e1, e5, ha.idx, hb.idx, ha.loadA, hb.loadA, smp, eqs_two_t]
      refine Br.by (fun c2 => ?_) (fun c2 => ?_)
      · simp -implicitDefEqProofs (disch := first | assumption | decide | omega | (simp only [wpD1] <;> omega) | (simp only [wpD2] <;> assumption) | solve_by_elim [HSub.refl, HSub.push, HSub.reserve] | fail) only [↓wpPre, wpPost, wpPoly, Int.reduceToNat, Int.reducePow, Int.reduceMul, Int.reduceAdd, Int.reduceSub, Int.reduceNeg, Nat.reduceAdd, Nat.reduceMul, Nat.reducePow, Int.reduceLT, Int.reduceLE, Int.reduceEq, Nat.reduceEqDiff]
        have : a ≠ b := fun e => c2 (by rw [e]; exact ⟨rfl, rfl⟩)
        simp [this]
      · simp -implicitDefEqProofs (disch := first | assumption | decide | omega | (simp only [wpD1] <;> omega) | (simp only [wpD2] <;> assumption) | solve_by_elim [HSub.refl, HSub.push, HSub.reserve] | fail) only [↓wpPre, wpPost, wpPoly, Int.reduceToNat, Int.reducePow, Int.reduceMul, Int.reduceAdd, Int.reduceSub, Int.reduceNeg, Nat.reduceAdd, Nat.reduceMul, Nat.reducePow, Int.reduceLT, Int.reduceLE, Int.reduceEq, Nat.reduceEqDiff, e0, e1, e5]
        have c3 := Decidable.not_not.1 c2
        refine ⟨_, ⟨i + 1, by simp, by omega, ?_, rfl⟩, by omega⟩
        · rw [takeP_succ i1, takeP_succ i2, hp, Prod.ext c3.1 c3.2]
    · simp -implicitDefEqProofs (disch := first | assumption | decide | omega | (simp only [wpD1] <;> omega) | (simp only [wpD2] <;> assumption) | solve_by_elim [HSub.refl, HSub.push, HSub.reserve] | fail) only [↓wpPre, wpPost, wpPoly, Int.reduceToNat, Int.reducePow, Int.reduceMul, Int.reduceAdd, Int.reduceSub, Int.reduceNeg, Nat.reduceAdd, Nat.reduceMul, Nat.reducePow, Int.reduceLT, Int.reduceLE, Int.reduceEq, Nat.reduceEqDiff]
      have e1 : i = a.length := by omega
      subst e1
      rw [List.take_of_length_le (by omega), List.take_of_length_le (by omega)] at hp
      simp [hp]
end
end Go.Ae

/- Steps of oscillators. -/
set_option linter.unusedSimpArgs false
set_option linter.unusedVariables false
namespace Go.Ae
theorem wrap_u32 (x : Int) : IntKind.u32.wrap x = x % 4294967296 := by
  show IntKind.wrap .u32 x = _
  simp [IntKind.wrap, IntKind.bits, IntKind.signed]
def stepQ (a p : Int) : Int := if p ≤ 2 * (a * 4294967296 % p) then a * 4294967296 / p + 1 else a * 4294967296 / p
def tupU (a b : Int) : AV := .tuple [.int .u32 a, .int .i64 b]
def stepBad (t p : Int) : Prop := t < -1073741824 ∨ 1073741824 < t ∨ p < 1 ∨ 1073741824 < p
instance (t p : Int) : Decidable (stepBad t p) := by unfold stepBad; infer_instance
def StepI (t p : Int) : AV := if stepBad t p then tupU 0 2 else tupU ((if t < 0 then -stepQ (-t) p else stepQ t p) % 4294967296) 0
theorem stepQ_range {a p : Int} (ha : 0 ≤ a ∧ a ≤ 1073741824) (hp : 1 ≤ p) : 0 ≤ a * 4294967296 / p ∧ a * 4294967296 / p ≤ 4611686018427387904 ∧ 0 ≤ a * 4294967296 % p ∧ a * 4294967296 % p < p := by
  refine ⟨Int.ediv_nonneg (by omega) (by omega), ?_, Int.emod_nonneg _ (by omega), Int.emod_lt_of_pos _ (by omega)⟩
  have := Int.ediv_le_self p (show 0 ≤ a * 4294967296 by omega)
  omega
section
variable {C : Ctx}
theorem awake11_run : runsTo (tabIn T116) 1000 60 116 [] = true := by kernel_rfl
theorem awake11_spec (hC : Has C T116) {h : Heap} : ACalls C 116 [] h (fun r h' => r = .bool true ∧ h' = h) :=
  runsTo_sound (tabIn_ok hC) (by simp) awake11_run h
theorem Step_pos (hC : Has C T114) {t p : Int} {h : Heap} (ht : 0 ≤ t ∧ t ≤ 1073741824) (hp : 1 ≤ p ∧ p ≤ 1073741824) : ACalls C 114 [.int .i64 t, .int .i64 p] h (fun r h' => r = tupU (stepQ t p % 4294967296) 0 ∧ h' = h) := by
  have hq := stepQ_range ht hp.1
  unfold stepQ
  (refine calls_intro (hC.body (by decide) tab114) (Nat.le_of_ble_eq_true rfl) ?_); (show wp C _ none B114.code _ _); (simp only [B114]); simp -implicitDefEqProofs (disch := first | assumption | decide | omega | (simp only [wpD1] <;> omega) | (simp only [wpD2] <;> assumption) | solve_by_elim [HSub.refl, HSub.push, HSub.reserve] | fail) only [↓wpPre, wpPost, wpPoly, Int.reduceToNat, Int.reducePow, Int.reduceMul, Int.reduceAdd, Int.reduceSub, Int.reduceNeg, Nat.reduceAdd, Nat.reduceMul, Nat.reducePow, Int.reduceLT, Int.reduceLE, Int.reduceEq, Nat.reduceEqDiff]
  refine Br.by (fun c => ?_) (fun c => ?_)
  · simp -implicitDefEqProofs (disch := first | assumption | decide | omega | (simp only [wpD1] <;> omega) | (simp only [wpD2] <;> assumption) | solve_by_elim [HSub.refl, HSub.push, HSub.reserve] | fail) only [↓wpPre, wpPost, wpPoly, Int.reduceToNat, Int.reducePow, Int.reduceMul, Int.reduceAdd, Int.reduceSub, Int.reduceNeg, Nat.reduceAdd, Nat.reduceMul, Nat.reducePow, Int.reduceLT, Int.reduceLE, Int.reduceEq, Nat.reduceEqDiff, if_pos c, wrap_u32]
    rfl
  · simp -implicitDefEqProofs (disch := first | assumption | decide | omega | (simp only [wpD1] <;> omega) | (simp only [wpD2] <;> assumption) | solve_by_elim [HSub.refl, HSub.push, HSub.reserve] | fail) only [↓wpPre, wpPost, wpPoly, Int.reduceToNat, Int.reducePow, Int.reduceMul, Int.reduceAdd, Int.reduceSub, Int.reduceNeg, Nat.reduceAdd, Nat.reduceMul, Nat.reducePow, Int.reduceLT, Int.reduceLE, Int.reduceEq, Nat.reduceEqDiff, if_neg c, wrap_u32]
    rfl
theorem Step_spec (hC : Has C T114) {t p : Int} {h : Heap} (ht : In64 t) (hp : In64 p) : ACalls C 114 [.int .i64 t, .int .i64 p] h (fun r h' => r = StepI t p ∧ h' = h) := by
  unfold In64 at ht hp
  by_cases cb : stepBad t p
  · have e : StepI t p = tupU 0 2 := by unfold StepI; rw [if_pos cb]
    rw [e]
    unfold stepBad at cb
    (refine calls_intro (hC.body (by decide) tab114) (Nat.le_of_ble_eq_true rfl) ?_); (show wp C _ none B114.code _ _); (simp only [B114]); simp -implicitDefEqProofs (disch := first | assumption | decide | omega | (simp only [wpD1] <;> omega) | (simp only [wpD2] <;> assumption) | solve_by_elim [HSub.refl, HSub.push, HSub.reserve] | fail) only [↓wpPre, wpPost, wpPoly, Int.reduceToNat, Int.reducePow, Int.reduceMul, Int.reduceAdd, Int.reduceSub, Int.reduceNeg, Nat.reduceAdd, Nat.reduceMul, Nat.reducePow, Int.reduceLT, Int.reduceLE, Int.reduceEq, Nat.reduceEqDiff]
    (repeat' (first | (refine Br.by (fun _ => ?_) (fun _ => ?_)) | (simp -implicitDefEqProofs (disch := first | assumption | decide | omega | (simp only [wpD1] <;> omega) | (simp only [wpD2] <;> assumption) | solve_by_elim [HSub.refl, HSub.push, HSub.reserve] | fail) only [↓wpPre, wpPost, wpPoly, Int.reduceToNat, Int.reducePow, Int.reduceMul, Int.reduceAdd, Int.reduceSub, Int.reduceNeg, Nat.reduceAdd, Nat.reduceMul, Nat.reducePow, Int.reduceLT, Int.reduceLE, Int.reduceEq, Nat.reduceEqDiff])))
    all_goals first | rfl | (exfalso; omega)
  · have cb' := cb
    unfold stepBad at cb'
    by_cases cn : t < 0
    · have e : StepI t p = tupU (-stepQ (-t) p % 4294967296) 0 := by unfold StepI; rw [if_neg cb, if_pos cn]
      rw [e]
      have hq := stepQ_range (a := -t) (p := p) (by omega) (by omega)
      have e0 : 0 - t = -t := by omega
      have m1 := Int.emod_nonneg (stepQ (-t) p) (show (4294967296 : Int) ≠ 0 by decide)
      have m2 := Int.emod_lt_of_pos (stepQ (-t) p) (show (0 : Int) < 4294967296 by decide)
      have e1 : (0 - stepQ (-t) p % 4294967296) % 4294967296 = -stepQ (-t) p % 4294967296 := by omega
      (refine calls_intro (hC.body (by decide) tab114) (Nat.le_of_ble_eq_true rfl) ?_); (show wp C _ none B114.code _ _); (simp only [B114]); simp -implicitDefEqProofs (disch := first | assumption | decide | omega | (simp only [wpD1] <;> omega) | (simp only [wpD2] <;> assumption) | solve_by_elim [HSub.refl, HSub.push, HSub.reserve] | fail) only [↓wpPre, wpPost, wpPoly, Int.reduceToNat, Int.reducePow, Int.reduceMul, Int.reduceAdd, Int.reduceSub, Int.reduceNeg, Nat.reduceAdd, Nat.reduceMul, Nat.reducePow, Int.reduceLT, Int.reduceLE, Int.reduceEq, Nat.reduceEqDiff]
      simp -implicitDefEqProofs (disch := first | assumption | decide | omega | (simp only [wpD1] <;> omega) | (simp only [wpD2] <;> assumption) | solve_by_elim [HSub.refl, HSub.push, HSub.reserve] | fail) only [↓wpPre, wpPost, wpPoly, Int.reduceToNat, Int.reducePow, Int.reduceMul, Int.reduceAdd, Int.reduceSub, Int.reduceNeg, Nat.reduceAdd, Nat.reduceMul, Nat.reducePow, Int.reduceLT, Int.reduceLE, Int.reduceEq, Nat.reduceEqDiff, e0]
      refine ACallsK.eq (Step_pos (hC.sub (T' := T114) (by decide)) (t := -t) (p := p) (by omega) (by omega)) ?_
      simp -implicitDefEqProofs (disch := first | assumption | decide | omega | (simp only [wpD1] <;> omega) | (simp only [wpD2] <;> assumption) | solve_by_elim [HSub.refl, HSub.push, HSub.reserve] | fail) only [↓wpPre, wpPost, wpPoly, Int.reduceToNat, Int.reducePow, Int.reduceMul, Int.reduceAdd, Int.reduceSub, Int.reduceNeg, Nat.reduceAdd, Nat.reduceMul, Nat.reducePow, Int.reduceLT, Int.reduceLE, Int.reduceEq, Nat.reduceEqDiff, tupU, wrap_u32, e1]
    · have e : StepI t p = tupU (stepQ t p % 4294967296) 0 := by unfold StepI; rw [if_neg cb, if_neg cn]
      rw [e]
      exact Step_pos hC (by omega) (by omega)
theorem StepR_spec (hC : Has C T115) {t p : Int} {h : Heap} (ht : In64 t) (hp : In64 p) : ACalls C 115 [.int .i64 t, .int .i64 p] h (fun r h' => r = StepI t p ∧ h' = h) := by
  unfold In64 at ht hp
  by_cases cb : stepBad t p
  · have e : StepI t p = tupU 0 2 := by unfold StepI; rw [if_pos cb]
    rw [e]
    unfold stepBad at cb
    (refine calls_intro (hC.body (by decide) tab115) (Nat.le_of_ble_eq_true rfl) ?_); (show wp C _ none B115.code _ _); (simp only [B115]); simp -implicitDefEqProofs (disch := first | assumption | decide | omega | (simp only [wpD1] <;> omega) | (simp only [wpD2] <;> assumption) | solve_by_elim [HSub.refl, HSub.push, HSub.reserve] | fail) only [↓wpPre, wpPost, wpPoly, Int.reduceToNat, Int.reducePow, Int.reduceMul, Int.reduceAdd, Int.reduceSub, Int.reduceNeg, Nat.reduceAdd, Nat.reduceMul, Nat.reducePow, Int.reduceLT, Int.reduceLE, Int.reduceEq, Nat.reduceEqDiff]
    (repeat' (first | (refine Br.by (fun _ => ?_) (fun _ => ?_)) | (simp -implicitDefEqProofs (disch := first | assumption | decide | omega | (simp only [wpD1] <;> omega) | (simp only [wpD2] <;> assumption) | solve_by_elim [HSub.refl, HSub.push, HSub.reserve] | fail) only [↓wpPre, wpPost, wpPoly, Int.reduceToNat, Int.reducePow, Int.reduceMul, Int.reduceAdd, Int.reduceSub, Int.reduceNeg, Nat.reduceAdd, Nat.reduceMul, Nat.reducePow, Int.reduceLT, Int.reduceLE, Int.reduceEq, Nat.reduceEqDiff])))
    all_goals first | rfl | (exfalso; omega)
  · have cb' := cb
    unfold stepBad at cb'
    by_cases cn : t < 0
    · have e : StepI t p = tupU (-stepQ (-t) p % 4294967296) 0 := by unfold StepI; rw [if_neg cb, if_pos cn]
      rw [e]
      have hq := stepQ_range (a := -t) (p := p) (by omega) (by omega)
      have e0 : max t (0 - t) = -t := by omega
      unfold stepQ
      (refine calls_intro (hC.body (by decide) tab115) (Nat.le_of_ble_eq_true rfl) ?_); (show wp C _ none B115.code _ _); (simp only [B115]); simp -implicitDefEqProofs (disch := first | assumption | decide | omega | (simp only [wpD1] <;> omega) | (simp only [wpD2] <;> assumption) | solve_by_elim [HSub.refl, HSub.push, HSub.reserve] | fail) only [↓wpPre, wpPost, wpPoly, Int.reduceToNat, Int.reducePow, Int.reduceMul, Int.reduceAdd, Int.reduceSub, Int.reduceNeg, Nat.reduceAdd, Nat.reduceMul, Nat.reducePow, Int.reduceLT, Int.reduceLE, Int.reduceEq, Nat.reduceEqDiff, e0]
      refine Br.by (fun c => ?_) (fun c => ?_)
      · simp -implicitDefEqProofs (disch := first | assumption | decide | omega | (simp only [wpD1] <;> omega) | (simp only [wpD2] <;> assumption) | solve_by_elim [HSub.refl, HSub.push, HSub.reserve] | fail) only [↓wpPre, wpPost, wpPoly, Int.reduceToNat, Int.reducePow, Int.reduceMul, Int.reduceAdd, Int.reduceSub, Int.reduceNeg, Nat.reduceAdd, Nat.reduceMul, Nat.reducePow, Int.reduceLT, Int.reduceLE, Int.reduceEq, Nat.reduceEqDiff, if_pos c, wrap_u32, Int.zero_sub]
        rfl
      · simp -implicitDefEqProofs (disch := first | assumption | decide | omega | (simp only [wpD1] <;> omega) | (simp only [wpD2] <;> assumption) | solve_by_elim [HSub.refl, HSub.push, HSub.reserve] | fail) only [↓wpPre, wpPost, wpPoly, Int.reduceToNat, Int.reducePow, Int.reduceMul, Int.reduceAdd, Int.reduceSub, Int.reduceNeg, Nat.reduceAdd, Nat.reduceMul, Nat.reducePow, Int.reduceLT, Int.reduceLE, Int.reduceEq, Nat.reduceEqDiff, if_neg c, wrap_u32, Int.zero_sub]
        rfl
    · have e : StepI t p = tupU (stepQ t p % 4294967296) 0 := by unfold StepI; rw [if_neg cb, if_neg cn]
      rw [e]
      have hq := stepQ_range (a := t) (p := p) (by omega) (by omega)
      have e0 : max t (0 - t) = t := by omega
      unfold stepQ
      (refine calls_intro (hC.body (by decide) tab115) (Nat.le_of_ble_eq_true rfl) ?_); (show wp C _ none B115.code _ _); (simp only [B115]); simp -implicitDefEqProofs (disch := first | assumption | decide | omega | (simp only [wpD1] <;> omega) | (simp only [wpD2] <;> assumption) | solve_by_elim [HSub.refl, HSub.push, HSub.reserve] | fail) only [↓wpPre, wpPost, wpPoly, Int.reduceToNat, Int.reducePow, Int.reduceMul, Int.reduceAdd, Int.reduceSub, Int.reduceNeg, Nat.reduceAdd, Nat.reduceMul, Nat.reducePow, Int.reduceLT, Int.reduceLE, Int.reduceEq, Nat.reduceEqDiff, e0]
      refine Br.by (fun c => ?_) (fun c => ?_)
      · simp -implicitDefEqProofs (disch := first | assumption | decide | omega | (simp only [wpD1] <;> omega) | (simp only [wpD2] <;> assumption) | solve_by_elim [HSub.refl, HSub.push, HSub.reserve] | fail) only [↓wpPre, wpPost, wpPoly, Int.reduceToNat, Int.reducePow, Int.reduceMul, Int.reduceAdd, Int.reduceSub, Int.reduceNeg, Nat.reduceAdd, Nat.reduceMul, Nat.reducePow, Int.reduceLT, Int.reduceLE, Int.reduceEq, Nat.reduceEqDiff, if_pos c, wrap_u32]
        rfl
      · simp -implicitDefEqProofs (disch := first | assumption | decide | omega | (simp only [wpD1] <;> omega) | (simp only [wpD2] <;> assumption) | solve_by_elim [HSub.refl, HSub.push, HSub.reserve] | fail) only [↓wpPre, wpPost, wpPoly, Int.reduceToNat, Int.reducePow, Int.reduceMul, Int.reduceAdd, Int.reduceSub, Int.reduceNeg, Nat.reduceAdd, Nat.reduceMul, Nat.reducePow, Int.reduceLT, Int.reduceLE, Int.reduceEq, Nat.reduceEqDiff, if_neg c, wrap_u32]
        rfl
theorem NcoSteps_law (hC : Has C T106) {t p : Int} {h : Heap} (ht : In64 t) (hp : In64 p) : ACalls C 106 [.int .i64 t, .int .i64 p] h (fun r _ => r = .bool true) := by
  have hex : ∃ a b, StepI t p = tupU a b := by unfold StepI; split <;> exact ⟨_, _, rfl⟩
  obtain ⟨a, b, e⟩ := hex
  (refine calls_intro (hC.body (by decide) tab106) (Nat.le_of_ble_eq_true rfl) ?_); (show wp C _ none B106.code _ _); (simp only [B106]); simp -implicitDefEqProofs (disch := first | assumption | decide | omega | (simp only [wpD1] <;> omega) | (simp only [wpD2] <;> assumption) | solve_by_elim [HSub.refl, HSub.push, HSub.reserve] | fail) only [↓wpPre, wpPost, wpPoly, Int.reduceToNat, Int.reducePow, Int.reduceMul, Int.reduceAdd, Int.reduceSub, Int.reduceNeg, Nat.reduceAdd, Nat.reduceMul, Nat.reducePow, Int.reduceLT, Int.reduceLE, Int.reduceEq, Nat.reduceEqDiff]
  refine ACallsK.eq2 (Step_spec (hC.sub (T' := T114) (by decide)) ht hp) e ?_
  simp -implicitDefEqProofs (disch := first | assumption | decide | omega | (simp only [wpD1] <;> omega) | (simp only [wpD2] <;> assumption) | solve_by_elim [HSub.refl, HSub.push, HSub.reserve] | fail) only [↓wpPre, wpPost, wpPoly, Int.reduceToNat, Int.reducePow, Int.reduceMul, Int.reduceAdd, Int.reduceSub, Int.reduceNeg, Nat.reduceAdd, Nat.reduceMul, Nat.reducePow, Int.reduceLT, Int.reduceLE, Int.reduceEq, Nat.reduceEqDiff, tupU]
  refine ACallsK.eq2 (StepR_spec (hC.sub (T' := T115) (by decide)) ht hp) e ?_
  simp -implicitDefEqProofs (disch := first | assumption | decide | omega | (simp only [wpD1] <;> omega) | (simp only [wpD2] <;> assumption) | solve_by_elim [HSub.refl, HSub.push, HSub.reserve] | fail) only [↓wpPre, wpPost, wpPoly, Int.reduceToNat, Int.reducePow, Int.reduceMul, Int.reduceAdd, Int.reduceSub, Int.reduceNeg, Nat.reduceAdd, Nat.reduceMul, Nat.reducePow, Int.reduceLT, Int.reduceLE, Int.reduceEq, Nat.reduceEqDiff, tupU]
  refine ACallsK.eq (awake11_spec (hC.sub (T' := T116) (by decide))) ?_
  simp -implicitDefEqProofs (disch := first | assumption | decide | omega | (simp only [wpD1] <;> omega) | (simp only [wpD2] <;> assumption) | solve_by_elim [HSub.refl, HSub.push, HSub.reserve] | fail) only [↓wpPre, wpPost, wpPoly, Int.reduceToNat, Int.reducePow, Int.reduceMul, Int.reduceAdd, Int.reduceSub, Int.reduceNeg, Nat.reduceAdd, Nat.reduceMul, Nat.reducePow, Int.reduceLT, Int.reduceLE, Int.reduceEq, Nat.reduceEqDiff]
end
end Go.Ae

/- The examples of layer 11, run. -/
set_option linter.unusedSimpArgs false
set_option linter.unusedVariables false
namespace Go.Ae
section
variable {C : Ctx}
theorem known11_run : runsTo (tabIn T108) 1000 60 108 [] = true := by kernel_rfl
theorem known11_spec (hC : Has C T108) {h : Heap} : ACalls C 108 [] h (fun r h' => r = .bool true ∧ h' = h) :=
  runsTo_sound (tabIn_ok hC) (by simp) known11_run h
theorem NcoKnown_law (hC : Has C T108) {h : Heap} : ACalls C 108 [] h (fun r _ => r = .bool true) := (known11_spec hC).mono fun _ _ q => q.1
end
end Go.Ae

/- Phases, later oscillators, differences. -/
set_option linter.unusedSimpArgs false
set_option linter.unusedVariables false
namespace Go.Ae

/-- The phase n samples later. -/
def phI (a s n : Int) : Int := (a + s * (n % 4294967296)) % 4294967296
theorem phI_range (a s n : Int) : 0 ≤ phI a s n ∧ phI a s n < 4294967296 := ⟨Int.emod_nonneg _ (by decide), Int.emod_lt_of_pos _ (by decide)⟩
def U32 (x : Int) : Prop := 0 ≤ x ∧ x ≤ 4294967295
theorem wf_u32 {n : Int} (h : (Lit.int .u32 n).wf = true) : U32 n := by
  have : (decide (IntKind.u32.min ≤ n) && decide (n ≤ IntKind.u32.max)) = true := h
  simp only [Bool.and_eq_true, decide_eq_true_eq] at this
  exact this
/-- The number from -2^31 on that a residue stands for. -/
def sg32 (x : Int) : Int := if x % 4294967296 < 2147483648 then x % 4294967296 else x % 4294967296 - 4294967296
theorem wrap_i32 (x : Int) : IntKind.i32.wrap x = sg32 x := by
  rw [IntKind.wrap_i32]
  unfold sg32
  split <;> omega
def nco (a s : Int) : AV := .agg [.int .u32 a, .int .u32 s]
section
variable {C : Ctx}
theorem Advance_spec (hC : Has C T143) {a s n : Int} {h : Heap} : ACalls C 143 [.int .u32 a, .int .u32 s, .int .i64 n] h (fun r h' => r = .int .u32 (phI a s n) ∧ h' = h) := by
  (refine calls_intro (hC.body (by decide) tab143) (Nat.le_of_ble_eq_true rfl) ?_); (show wp C _ none B143.code _ _); (simp only [B143]); simp -implicitDefEqProofs (disch := first | assumption | decide | omega | (simp only [wpD1] <;> omega) | (simp only [wpD2] <;> assumption) | solve_by_elim [HSub.refl, HSub.push, HSub.reserve] | fail) only [↓wpPre, wpPost, wpPoly, Int.reduceToNat, Int.reducePow, Int.reduceMul, Int.reduceAdd, Int.reduceSub, Int.reduceNeg, Nat.reduceAdd, Nat.reduceMul, Nat.reducePow, Int.reduceLT, Int.reduceLE, Int.reduceEq, Nat.reduceEqDiff, wrap_u32]
  unfold phI
  rw [emod_add_r]
theorem phase_spec (hC : Has C T132) {a s n : Int} {h : Heap} : ACalls C 132 [nco a s, .int .i64 n] h (fun r h' => r = .int .u32 (phI a s n) ∧ h' = h) := by
  refine ACalls.gc0 (P := fun r h' => r = .int .u32 (phI a s n) ∧ HSub h h') ?_ (fun r h' hp => ⟨by rw [hp.1]; trivial, hp.2, hp.1, rfl⟩)
  unfold nco
  (refine calls_intro (hC.body (by decide) tab132) (Nat.le_of_ble_eq_true rfl) ?_); (show wp C _ none B132.code _ _); (simp only [B132]); simp -implicitDefEqProofs (disch := first | assumption | decide | omega | (simp only [wpD1] <;> omega) | (simp only [wpD2] <;> assumption) | solve_by_elim [HSub.refl, HSub.push, HSub.reserve] | fail) only [↓wpPre, wpPost, wpPoly, Int.reduceToNat, Int.reducePow, Int.reduceMul, Int.reduceAdd, Int.reduceSub, Int.reduceNeg, Nat.reduceAdd, Nat.reduceMul, Nat.reducePow, Int.reduceLT, Int.reduceLE, Int.reduceEq, Nat.reduceEqDiff]
  refine ACallsK.eq (Advance_spec (hC.sub (T' := T143) (by decide))) ?_
  simp -implicitDefEqProofs (disch := first | assumption | decide | omega | (simp only [wpD1] <;> omega) | (simp only [wpD2] <;> assumption) | solve_by_elim [HSub.refl, HSub.push, HSub.reserve] | fail) only [↓wpPre, wpPost, wpPoly, Int.reduceToNat, Int.reducePow, Int.reduceMul, Int.reduceAdd, Int.reduceSub, Int.reduceNeg, Nat.reduceAdd, Nat.reduceMul, Nat.reducePow, Int.reduceLT, Int.reduceLE, Int.reduceEq, Nat.reduceEqDiff]
  exact HSub.push1 _ _
theorem Phase_spec (hC : Has C T119) {a s n : Int} {h : Heap} : ACalls C 119 [nco a s, .int .i64 n] h (fun r h' => r = .int .u32 (phI a s n) ∧ h' = h) := by
  refine ACalls.gc0 (P := fun r h' => r = .int .u32 (phI a s n) ∧ HSub h h') ?_ (fun r h' hp => ⟨by rw [hp.1]; trivial, hp.2, hp.1, rfl⟩)
  have hp := fun h => phase_spec (a := a) (s := s) (n := n) (h := h) (hC.sub (T' := T132) (by decide))
  unfold nco at hp ⊢
  (refine calls_intro (hC.body (by decide) tab119) (Nat.le_of_ble_eq_true rfl) ?_); (show wp C _ none B119.code _ _); (simp only [B119]); simp -implicitDefEqProofs (disch := first | assumption | decide | omega | (simp only [wpD1] <;> omega) | (simp only [wpD2] <;> assumption) | solve_by_elim [HSub.refl, HSub.push, HSub.reserve] | fail) only [↓wpPre, wpPost, wpPoly, Int.reduceToNat, Int.reducePow, Int.reduceMul, Int.reduceAdd, Int.reduceSub, Int.reduceNeg, Nat.reduceAdd, Nat.reduceMul, Nat.reducePow, Int.reduceLT, Int.reduceLE, Int.reduceEq, Nat.reduceEqDiff]
  refine ACallsK.eq (hp _) ?_
  simp -implicitDefEqProofs (disch := first | assumption | decide | omega | (simp only [wpD1] <;> omega) | (simp only [wpD2] <;> assumption) | solve_by_elim [HSub.refl, HSub.push, HSub.reserve] | fail) only [↓wpPre, wpPost, wpPoly, Int.reduceToNat, Int.reducePow, Int.reduceMul, Int.reduceAdd, Int.reduceSub, Int.reduceNeg, Nat.reduceAdd, Nat.reduceMul, Nat.reducePow, Int.reduceLT, Int.reduceLE, Int.reduceEq, Nat.reduceEqDiff]
  exact HSub.push1 _ _
theorem Delta_spec (hC : Has C T133) {a b : Int} {h : Heap} : ACalls C 133 [.int .u32 a, .int .u32 b] h (fun r h' => r = .int .i64 (sg32 ((a - b) % 4294967296)) ∧ h' = h) := by
  have h1 := Int.emod_nonneg ((a - b) % 4294967296) (show (4294967296 : Int) ≠ 0 by decide)
  have h2 := Int.emod_lt_of_pos ((a - b) % 4294967296) (show (0 : Int) < 4294967296 by decide)
  have h3 : -2147483648 ≤ sg32 ((a - b) % 4294967296) ∧ sg32 ((a - b) % 4294967296) ≤ 2147483647 := by unfold sg32; split <;> omega
  have h4 : IntKind.i64.wrap (sg32 ((a - b) % 4294967296)) = sg32 ((a - b) % 4294967296) := w_i64 (by omega)
  (refine calls_intro (hC.body (by decide) tab133) (Nat.le_of_ble_eq_true rfl) ?_); (show wp C _ none B133.code _ _); (simp only [B133]); simp -implicitDefEqProofs (disch := first | assumption | decide | omega | (simp only [wpD1] <;> omega) | (simp only [wpD2] <;> assumption) | solve_by_elim [HSub.refl, HSub.push, HSub.reserve] | fail) only [↓wpPre, wpPost, wpPoly, Int.reduceToNat, Int.reducePow, Int.reduceMul, Int.reduceAdd, Int.reduceSub, Int.reduceNeg, Nat.reduceAdd, Nat.reduceMul, Nat.reducePow, Int.reduceLT, Int.reduceLE, Int.reduceEq, Nat.reduceEqDiff, wrap_u32, wrap_i32, h4]
theorem Later_spec (hC : Has C T127) {a s n : Int} {h : Heap} : ACalls C 127 [nco a s, .int .i64 n] h (fun r h' => r = nco (phI a s n) s ∧ h' = h) := by
  refine ACalls.gc0 (P := fun r h' => r = nco (phI a s n) s ∧ HSub h h') ?_ (fun r h' hp => ⟨by rw [hp.1]; simp [nco, AV.free, AV.bel, AV.bels], hp.2, hp.1, rfl⟩)
  have hp := fun h => Phase_spec (a := a) (s := s) (n := n) (h := h) (hC.sub (T' := T119) (by decide))
  unfold nco at hp ⊢
  (refine calls_intro (hC.body (by decide) tab127) (Nat.le_of_ble_eq_true rfl) ?_); (show wp C _ none B127.code _ _); (simp only [B127]); simp -implicitDefEqProofs (disch := first | assumption | decide | omega | (simp only [wpD1] <;> omega) | (simp only [wpD2] <;> assumption) | solve_by_elim [HSub.refl, HSub.push, HSub.reserve] | fail) only [↓wpPre, wpPost, wpPoly, Int.reduceToNat, Int.reducePow, Int.reduceMul, Int.reduceAdd, Int.reduceSub, Int.reduceNeg, Nat.reduceAdd, Nat.reduceMul, Nat.reducePow, Int.reduceLT, Int.reduceLE, Int.reduceEq, Nat.reduceEqDiff]
  refine ACallsK.eq (hp _) ?_
  simp -implicitDefEqProofs (disch := first | assumption | decide | omega | (simp only [wpD1] <;> omega) | (simp only [wpD2] <;> assumption) | solve_by_elim [HSub.refl, HSub.push, HSub.reserve] | fail) only [↓wpPre, wpPost, wpPoly, Int.reduceToNat, Int.reducePow, Int.reduceMul, Int.reduceAdd, Int.reduceSub, Int.reduceNeg, Nat.reduceAdd, Nat.reduceMul, Nat.reducePow, Int.reduceLT, Int.reduceLE, Int.reduceEq, Nat.reduceEqDiff]
  exact (HSub.push1 _ _).push _
theorem Apart_spec (hC : Has C T120) {a s b t n : Int} {h : Heap} : ACalls C 120 [nco a s, nco b t, .int .i64 n] h (fun r h' => r = .int .i64 (sg32 ((phI a s n - phI b t n) % 4294967296)) ∧ h' = h) := by
  refine ACalls.gc0 (P := fun r h' => r = .int .i64 (sg32 ((phI a s n - phI b t n) % 4294967296)) ∧ HSub h h') ?_ (fun r h' hp => ⟨by rw [hp.1]; trivial, hp.2, hp.1, rfl⟩)
  have h1 := fun h => phase_spec (a := a) (s := s) (n := n) (h := h) (hC.sub (T' := T132) (by decide))
  have h2 := fun h => phase_spec (a := b) (s := t) (n := n) (h := h) (hC.sub (T' := T132) (by decide))
  unfold nco at h1 h2 ⊢
  (refine calls_intro (hC.body (by decide) tab120) (Nat.le_of_ble_eq_true rfl) ?_); (show wp C _ none B120.code _ _); (simp only [B120]); simp -implicitDefEqProofs (disch := first | assumption | decide | omega | (simp only [wpD1] <;> omega) | (simp only [wpD2] <;> assumption) | solve_by_elim [HSub.refl, HSub.push, HSub.reserve] | fail) only [↓wpPre, wpPost, wpPoly, Int.reduceToNat, Int.reducePow, Int.reduceMul, Int.reduceAdd, Int.reduceSub, Int.reduceNeg, Nat.reduceAdd, Nat.reduceMul, Nat.reducePow, Int.reduceLT, Int.reduceLE, Int.reduceEq, Nat.reduceEqDiff]
  refine ACallsK.eq (h1 _) ?_
  simp -implicitDefEqProofs (disch := first | assumption | decide | omega | (simp only [wpD1] <;> omega) | (simp only [wpD2] <;> assumption) | solve_by_elim [HSub.refl, HSub.push, HSub.reserve] | fail) only [↓wpPre, wpPost, wpPoly, Int.reduceToNat, Int.reducePow, Int.reduceMul, Int.reduceAdd, Int.reduceSub, Int.reduceNeg, Nat.reduceAdd, Nat.reduceMul, Nat.reducePow, Int.reduceLT, Int.reduceLE, Int.reduceEq, Nat.reduceEqDiff]
  refine ACallsK.eq (h2 _) ?_
  simp -implicitDefEqProofs (disch := first | assumption | decide | omega | (simp only [wpD1] <;> omega) | (simp only [wpD2] <;> assumption) | solve_by_elim [HSub.refl, HSub.push, HSub.reserve] | fail) only [↓wpPre, wpPost, wpPoly, Int.reduceToNat, Int.reducePow, Int.reduceMul, Int.reduceAdd, Int.reduceSub, Int.reduceNeg, Nat.reduceAdd, Nat.reduceMul, Nat.reducePow, Int.reduceLT, Int.reduceLE, Int.reduceEq, Nat.reduceEqDiff]
  refine ACallsK.eq (Delta_spec (hC.sub (T' := T133) (by decide))) ?_
  simp -implicitDefEqProofs (disch := first | assumption | decide | omega | (simp only [wpD1] <;> omega) | (simp only [wpD2] <;> assumption) | solve_by_elim [HSub.refl, HSub.push, HSub.reserve] | fail) only [↓wpPre, wpPost, wpPoly, Int.reduceToNat, Int.reducePow, Int.reduceMul, Int.reduceAdd, Int.reduceSub, Int.reduceNeg, Nat.reduceAdd, Nat.reduceMul, Nat.reducePow, Int.reduceLT, Int.reduceLE, Int.reduceEq, Nat.reduceEqDiff]
  exact (HSub.push1 _ _).push _
end
end Go.Ae

/- The carrier's table, waves and mixes, in plain numbers. -/
set_option linter.unusedSimpArgs false
set_option linter.unusedVariables false
namespace Go.Ae

def quarterL : List Int := [127, 126, 125, 122, 117, 112, 106, 98, 90, 81, 71, 60, 49, 37, 25, 12, 0]
/-- The entry of the carrier's table with an index below 64. -/
def carr (k : Nat) : Int × Int :=
  let a := quarterL.getD (k % 16) 0
  let b := quarterL.getD (16 - k % 16) 0
  match k / 16 with
  | 0 => (a, b)
  | 1 => (-b, a)
  | 2 => (-a, -b)
  | _ => (b, -a)
theorem carr_bound : (List.range 64).all (fun k => decide (-127 ≤ (carr k).1 ∧ (carr k).1 ≤ 127 ∧ -127 ≤ (carr k).2 ∧ (carr k).2 ≤ 127)) = true := by decide +kernel
theorem carr_le {k : Nat} (h : k < 64) : -127 ≤ (carr k).1 ∧ (carr k).1 ≤ 127 ∧ -127 ≤ (carr k).2 ∧ (carr k).2 ≤ 127 := by
  have := List.all_eq_true.1 carr_bound k (by simpa using h)
  simpa using this
/-- The entry of a phase. -/
def carP (ph : Int) : Int × Int := carr (ph / 67108864).toNat
theorem carP_le {ph : Int} (h : U32 ph) : -127 ≤ (carP ph).1 ∧ (carP ph).1 ≤ 127 ∧ -127 ≤ (carP ph).2 ∧ (carP ph).2 ≤ 127 := by
  unfold U32 at h
  exact carr_le (by omega)

theorem phI_eq (a s n : Int) : phI a s n = (a + s * n) % 4294967296 := by
  unfold phI
  have h := Int.mul_ediv_add_emod n 4294967296
  have : a + s * n = a + s * (n % 4294967296) + s * (n / 4294967296) * 4294967296 := by
    have : s * n = s * (4294967296 * (n / 4294967296) + n % 4294967296) := by rw [h]
    rw [this, Int.mul_add]
    grind
  rw [this, Int.add_mul_emod_self_right]
theorem phI_u32 (a s n : Int) : U32 (phI a s n) := by have := phI_range a s n; unfold U32; omega
theorem phI_zero {a s : Int} (h : U32 a) : phI a s 0 = a := by
  rw [phI_eq, Int.mul_zero, Int.add_zero]; unfold U32 at h; exact Int.emod_eq_of_lt h.1 (by omega)
theorem phI_succ (a s n : Int) : phI a s (n + 1) = (phI a s n + s) % 4294967296 := by
  rw [phI_eq, phI_eq, Int.emod_add_emod, Int.mul_add, Int.mul_one, Int.add_assoc]
theorem phI_later (a s m n : Int) : phI (phI a s m) s n = phI a s (m + n) := by
  rw [phI_eq, phI_eq a s m, phI_eq, Int.emod_add_emod, Int.mul_add, Int.add_assoc]

/-- The first elements of a wave. -/
def waveL (a s : Int) (n : Nat) : List (Int × Int) := (List.range n).map fun k => carP (phI a s (k : Nat))
theorem waveL_length (a s : Int) (n : Nat) : (waveL a s n).length = n := by simp [waveL]
theorem waveL_succ (a s : Int) (n : Nat) : waveL a s (n + 1) = waveL a s n ++ [carP (phI a s n)] := by simp [waveL, List.range_succ]
theorem waveL_get (a s : Int) {n k : Nat} (h : k < n) : (waveL a s n).getD k (0, 0) = carP (phI a s k) := by simp [waveL, h]

/-- A complex integer times the conjugate of another. -/
def mixP (x t : Int × Int) : Int × Int := (x.1 * t.1 + x.2 * t.2, x.2 * t.1 - x.1 * t.2)
/-- Whether a complex integer is small. -/
def smallP (x : Int × Int) : Prop := (-70368744177664 ≤ x.1 ∧ x.1 ≤ 70368744177664) ∧ (-70368744177664 ≤ x.2 ∧ x.2 ≤ 70368744177664)
instance (x : Int × Int) : Decidable (smallP x) := by unfold smallP; exact inferInstance
def mixL (l : List (Int × Int)) (a s : Int) (n : Nat) : List (Int × Int) := (List.range n).map fun k => mixP (l.getD k (0, 0)) (carP (phI a s (k : Nat)))
theorem mixL_length (l : List (Int × Int)) (a s : Int) (n : Nat) : (mixL l a s n).length = n := by simp [mixL]
theorem mixL_succ (l : List (Int × Int)) (a s : Int) (n : Nat) : mixL l a s (n + 1) = mixL l a s n ++ [mixP (l.getD n (0, 0)) (carP (phI a s n))] := by simp [mixL, List.range_succ]
theorem mixL_get (l : List (Int × Int)) (a s : Int) {n k : Nat} (h : k < n) : (mixL l a s n).getD k (0, 0) = mixP (l.getD k (0, 0)) (carP (phI a s k)) := by simp [mixL, h]
/-- The error of a mix: too long, or an element that is not small. -/
def mixErr (l : List (Int × Int)) : Int := if 1048576 < l.length then 4 else if ∀ x ∈ l, smallP x then 0 else 2
theorem mul_le127 {x t B : Int} (hx : -B ≤ x ∧ x ≤ B) (ht : -127 ≤ t ∧ t ≤ 127) : -(B * 127) ≤ x * t ∧ x * t ≤ B * 127 := by
  have hB : 0 ≤ B := by omega
  constructor
  · have h1 : 0 ≤ (B + x) * (127 + t) := Int.mul_nonneg (by omega) (by omega)
    have h2 : 0 ≤ (B - x) * (127 - t) := Int.mul_nonneg (by omega) (by omega)
    have e1 : (B + x) * (127 + t) = B * 127 + B * t + x * 127 + x * t := by grind
    have e2 : (B - x) * (127 - t) = B * 127 - B * t - x * 127 + x * t := by grind
    omega
  · have h1 : 0 ≤ (B + x) * (127 - t) := Int.mul_nonneg (by omega) (by omega)
    have h2 : 0 ≤ (B - x) * (127 + t) := Int.mul_nonneg (by omega) (by omega)
    have e1 : (B + x) * (127 - t) = B * 127 - B * t + x * 127 - x * t := by grind
    have e2 : (B - x) * (127 + t) = B * 127 + B * t - x * 127 - x * t := by grind
    omega
end Go.Ae

/- The carrier's functions, waves, mixes. -/
set_option linter.unusedSimpArgs false
set_option linter.unusedVariables false
namespace Go.Ae
section
variable {C : Ctx}
theorem entry_runs : (List.range 64).all (fun k => runsAs (tabIn T146) 1000 60 146 [.int .i64 (k : Nat)] (smp (carr k))) = true := by kernel_rfl
theorem entryR_runs : (List.range 64).all (fun k => runsAs (tabIn T141) 1000 60 141 [.int .i64 (k : Nat)] (smp (carr k))) = true := by kernel_rfl
theorem entry_spec (hC : Has C T146) {k : Nat} {h : Heap} (hk : k < 64) : ACalls C 146 [.int .i64 (k : Nat)] h (fun r h' => r = smp (carr k) ∧ h' = h) :=
  runsAs_sound (tabIn_ok hC) (by simp [AV.free, AV.bel]) (smp_free _) (List.all_eq_true.1 entry_runs k (by simpa using hk)) h
theorem entryR_spec (hC : Has C T141) {k : Nat} {h : Heap} (hk : k < 64) : ACalls C 141 [.int .i64 (k : Nat)] h (fun r h' => r = smp (carr k) ∧ h' = h) :=
  runsAs_sound (tabIn_ok hC) (by simp [AV.free, AV.bel]) (smp_free _) (List.all_eq_true.1 entryR_runs k (by simpa using hk)) h
theorem Carrier_spec (hC : Has C T135) {ph : Int} {h : Heap} (hp : U32 ph) : ACalls C 135 [.int .u32 ph] h (fun r h' => r = smp (carP ph) ∧ h' = h) := by
  refine ACalls.gc0 (P := fun r h' => r = smp (carP ph) ∧ HSub h h') ?_ (fun r h' hp => ⟨by rw [hp.1]; exact smp_free _, hp.2, hp.1, rfl⟩)
  unfold U32 at hp
  unfold carP
  obtain ⟨k, hk⟩ := Int.eq_ofNat_of_zero_le (show 0 ≤ ph / 67108864 by omega)
  rw [hk, Int.toNat_natCast]
  have hk' : k < 64 := by omega
  (refine calls_intro (hC.body (by decide) tab135) (Nat.le_of_ble_eq_true rfl) ?_); (show wp C _ none B135.code _ _); (simp only [B135]); simp -implicitDefEqProofs (disch := first | assumption | decide | omega | (simp only [wpD1] <;> omega) | (simp only [wpD2] <;> assumption) | solve_by_elim [HSub.refl, HSub.push, HSub.reserve] | fail) only [↓wpPre, wpPost, wpPoly, Int.reduceToNat, Int.reducePow, Int.reduceMul, Int.reduceAdd, Int.reduceSub, Int.reduceNeg, Nat.reduceAdd, Nat.reduceMul, Nat.reducePow, Int.reduceLT, Int.reduceLE, Int.reduceEq, Nat.reduceEqDiff, hk]
  refine ACallsK.eq (entry_spec (hC.sub (T' := T146) (by decide)) hk') ?_
  simp -implicitDefEqProofs (disch := first | assumption | decide | omega | (simp only [wpD1] <;> omega) | (simp only [wpD2] <;> assumption) | solve_by_elim [HSub.refl, HSub.push, HSub.reserve] | fail) only [↓wpPre, wpPost, wpPoly, Int.reduceToNat, Int.reducePow, Int.reduceMul, Int.reduceAdd, Int.reduceSub, Int.reduceNeg, Nat.reduceAdd, Nat.reduceMul, Nat.reducePow, Int.reduceLT, Int.reduceLE, Int.reduceEq, Nat.reduceEqDiff, smp]
  exact HSub.push1 _ _
theorem CarrierR_spec (hC : Has C T130) {ph : Int} {h : Heap} (hp : U32 ph) : ACalls C 130 [.int .u32 ph] h (fun r h' => r = smp (carP ph) ∧ h' = h) := by
  refine ACalls.gc0 (P := fun r h' => r = smp (carP ph) ∧ HSub h h') ?_ (fun r h' hp => ⟨by rw [hp.1]; exact smp_free _, hp.2, hp.1, rfl⟩)
  unfold U32 at hp
  unfold carP
  obtain ⟨k, hk⟩ := Int.eq_ofNat_of_zero_le (show 0 ≤ ph / 67108864 by omega)
  rw [hk, Int.toNat_natCast]
  have hk' : k < 64 := by omega
  (refine calls_intro (hC.body (by decide) tab130) (Nat.le_of_ble_eq_true rfl) ?_); (show wp C _ none B130.code _ _); (simp only [B130]); simp -implicitDefEqProofs (disch := first | assumption | decide | omega | (simp only [wpD1] <;> omega) | (simp only [wpD2] <;> assumption) | solve_by_elim [HSub.refl, HSub.push, HSub.reserve] | fail) only [↓wpPre, wpPost, wpPoly, Int.reduceToNat, Int.reducePow, Int.reduceMul, Int.reduceAdd, Int.reduceSub, Int.reduceNeg, Nat.reduceAdd, Nat.reduceMul, Nat.reducePow, Int.reduceLT, Int.reduceLE, Int.reduceEq, Nat.reduceEqDiff, hk]
  refine ACallsK.eq (entryR_spec (hC.sub (T' := T141) (by decide)) hk') ?_
  simp -implicitDefEqProofs (disch := first | assumption | decide | omega | (simp only [wpD1] <;> omega) | (simp only [wpD2] <;> assumption) | solve_by_elim [HSub.refl, HSub.push, HSub.reserve] | fail) only [↓wpPre, wpPost, wpPoly, Int.reduceToNat, Int.reducePow, Int.reduceMul, Int.reduceAdd, Int.reduceSub, Int.reduceNeg, Nat.reduceAdd, Nat.reduceMul, Nat.reducePow, Int.reduceLT, Int.reduceLE, Int.reduceEq, Nat.reduceEqDiff, smp]
  exact HSub.push1 _ _

/-! ### Waves -/
theorem next_spec (hC : Has C T144) {b : Nat} {p s : Int} {h : Heap} (hb : h.get b = some (.cells [.int .u32 p, .int .u32 s] true 0)) :
    ACalls C 144 [.ptr b 0] h (fun r h' => r = .int .u32 p ∧ h' = h.put b (.cells [.int .u32 ((p + s) % 4294967296), .int .u32 s] true 0)) := by
  (refine calls_intro (hC.body (by decide) tab144) (Nat.le_of_ble_eq_true rfl) ?_); (show wp C _ none B144.code _ _); (simp only [B144]); simp -implicitDefEqProofs (disch := first | assumption | decide | omega | (simp only [wpD1] <;> omega) | (simp only [wpD2] <;> assumption) | solve_by_elim [HSub.refl, HSub.push, HSub.reserve] | fail) only [↓wpPre, wpPost, wpPoly, Int.reduceToNat, Int.reducePow, Int.reduceMul, Int.reduceAdd, Int.reduceSub, Int.reduceNeg, Nat.reduceAdd, Nat.reduceMul, Nat.reducePow, Int.reduceLT, Int.reduceLE, Int.reduceEq, Nat.reduceEqDiff, hb, wrap_u32]
theorem phases_spec (hC : Has C T134) {a s : Int} {m : Nat} {h : Heap} : ACalls C 134 [nco a s, .int .i64 (m : Nat)] h (fun r h' => r = .func 145 [] [.ptr (h.size + 1) 0, .ptr (h.size + 2) 0] ∧
    h' = ((h.push (.cells [.int .u32 a, .int .u32 s] true 0)).push (.cells [.int .i64 (m : Nat)] true 0)).push (.cells [.func 144 [] [.ptr h.size 0]] true 0)) := by
  unfold nco
  (refine calls_intro (hC.body (by decide) tab134) (Nat.le_of_ble_eq_true rfl) ?_); (show wp C _ none B134.code _ _); (simp only [B134]); simp -implicitDefEqProofs (disch := first | assumption | decide | omega | (simp only [wpD1] <;> omega) | (simp only [wpD2] <;> assumption) | solve_by_elim [HSub.refl, HSub.push, HSub.reserve] | fail) only [↓wpPre, wpPost, wpPoly, Int.reduceToNat, Int.reducePow, Int.reduceMul, Int.reduceAdd, Int.reduceSub, Int.reduceNeg, Nat.reduceAdd, Nat.reduceMul, Nat.reducePow, Int.reduceLT, Int.reduceLE, Int.reduceEq, Nat.reduceEqDiff, storeB_func]
theorem phases2_iter (hC : Has C T145) (hC' : Has C T144) {l b0 b1 b2 m : Nat} {a s : Int} {h : Heap} (hm : m ≤ 1048576) (J : Nat → Heap → Prop) (D : Heap → Prop) (h0 : J 0 h)
    (hb : ∀ k h', J k h' → h'.get b0 = some (.cells [.int .u32 (phI a s (k : Nat)), .int .u32 s] true 0) ∧ h'.get b1 = some (.cells [.int .i64 (m : Nat)] true 0) ∧ h'.get b2 = some (.cells [.func 144 [] [.ptr b0 0]] true 0))
    (hy : ∀ k h', J k h' → k < m → AYield C l [.int .i64 (k : Nat), .int .u32 (phI a s (k : Nat))] (h'.put b0 (.cells [.int .u32 (phI a s (k + 1 : Nat)), .int .u32 s] true 0)) (fun r h'' => (r = .bool true ∧ J (k + 1) h'') ∨ (r = .bool false ∧ D h'')))
    (hd : ∀ h', J m h' → D h') : ACalls C 145 [.yield l, .ptr b1 0, .ptr b2 0] h (fun _ h' => D h') := by
  obtain ⟨g0, g1, g2⟩ := hb 0 h h0
  (refine calls_intro (hC.body (by decide) tab145) (Nat.le_of_ble_eq_true rfl) ?_); (show wp C _ none B145.code _ _); (simp only [B145]); simp -implicitDefEqProofs (disch := first | assumption | decide | omega | (simp only [wpD1] <;> omega) | (simp only [wpD2] <;> assumption) | solve_by_elim [HSub.refl, HSub.push, HSub.reserve] | fail) only [↓wpPre, wpPost, wpPoly, Int.reduceToNat, Int.reducePow, Int.reduceMul, Int.reduceAdd, Int.reduceSub, Int.reduceNeg, Nat.reduceAdd, Nat.reduceMul, Nat.reducePow, Int.reduceLT, Int.reduceLE, Int.reduceEq, Nat.reduceEqDiff, g1]
  refine wp_loopI (fun j t h' => ∃ k : Nat, J k h' ∧ t 0 = .yield l ∧ t 2 = .ptr b2 0 ∧ t 5 = .int .i64 (m : Nat) ∧ t 6 = .int .i64 (k : Nat) ∧ k ≤ m ∧ j = m - k) (j0 := m) ⟨0, h0, rfl, rfl, rfl, rfl, by omega, rfl⟩ ?_
  rintro j t h' ⟨k, hJ, e0, e2, e5, e6, hk, hj⟩
  obtain ⟨g0, g1, g2⟩ := hb k h' hJ
  simp -implicitDefEqProofs (disch := first | assumption | decide | omega | (simp only [wpD1] <;> omega) | (simp only [wpD2] <;> assumption) | solve_by_elim [HSub.refl, HSub.push, HSub.reserve] | fail) only [↓wpPre, wpPost, wpPoly, Int.reduceToNat, Int.reducePow, Int.reduceMul, Int.reduceAdd, Int.reduceSub, Int.reduceNeg, Nat.reduceAdd, Nat.reduceMul, Nat.reducePow, Int.reduceLT, Int.reduceLE, Int.reduceEq, Nat.reduceEqDiff, e5, e6]
  refine Br.by (fun c => ?_) (fun c => ?_)
  · have hk' : k < m := by omega
    simp -implicitDefEqProofs (disch := first | assumption | decide | omega | (simp only [wpD1] <;> omega) | (simp only [wpD2] <;> assumption) | solve_by_elim [HSub.refl, HSub.push, HSub.reserve] | fail) only [↓wpPre, wpPost, wpPoly, Int.reduceToNat, Int.reducePow, Int.reduceMul, Int.reduceAdd, Int.reduceSub, Int.reduceNeg, Nat.reduceAdd, Nat.reduceMul, Nat.reducePow, Int.reduceLT, Int.reduceLE, Int.reduceEq, Nat.reduceEqDiff, e0, e2, e6, g2]
    refine ACallsK.eq (next_spec hC' g0) ?_
    have hp := phI_succ a s (k : Nat)
    rw [show ((k : Nat) : Int) + 1 = ((k + 1 : Nat) : Int) by omega] at hp
    rw [← hp]
    simp -implicitDefEqProofs (disch := first | assumption | decide | omega | (simp only [wpD1] <;> omega) | (simp only [wpD2] <;> assumption) | solve_by_elim [HSub.refl, HSub.push, HSub.reserve] | fail) only [↓wpPre, wpPost, wpPoly, Int.reduceToNat, Int.reducePow, Int.reduceMul, Int.reduceAdd, Int.reduceSub, Int.reduceNeg, Nat.reduceAdd, Nat.reduceMul, Nat.reducePow, Int.reduceLT, Int.reduceLE, Int.reduceEq, Nat.reduceEqDiff, e0]
    refine AYieldK.of (hy k h' hJ hk') ?_
    rintro r h'' (⟨rfl, hJ'⟩ | ⟨rfl, hD⟩)
    · simp -implicitDefEqProofs (disch := first | assumption | decide | omega | (simp only [wpD1] <;> omega) | (simp only [wpD2] <;> assumption) | solve_by_elim [HSub.refl, HSub.push, HSub.reserve] | fail) only [↓wpPre, wpPost, wpPoly, Int.reduceToNat, Int.reducePow, Int.reduceMul, Int.reduceAdd, Int.reduceSub, Int.reduceNeg, Nat.reduceAdd, Nat.reduceMul, Nat.reducePow, Int.reduceLT, Int.reduceLE, Int.reduceEq, Nat.reduceEqDiff, e0, e2, e5, e6]
      exact ⟨_, ⟨k + 1, hJ', by simp, by omega, rfl⟩, by omega⟩
    · simp -implicitDefEqProofs (disch := first | assumption | decide | omega | (simp only [wpD1] <;> omega) | (simp only [wpD2] <;> assumption) | solve_by_elim [HSub.refl, HSub.push, HSub.reserve] | fail) only [↓wpPre, wpPost, wpPoly, Int.reduceToNat, Int.reducePow, Int.reduceMul, Int.reduceAdd, Int.reduceSub, Int.reduceNeg, Nat.reduceAdd, Nat.reduceMul, Nat.reducePow, Int.reduceLT, Int.reduceLE, Int.reduceEq, Nat.reduceEqDiff]
      exact hD
  · have ek : k = m := by omega
    subst ek
    simp -implicitDefEqProofs (disch := first | assumption | decide | omega | (simp only [wpD1] <;> omega) | (simp only [wpD2] <;> assumption) | solve_by_elim [HSub.refl, HSub.push, HSub.reserve] | fail) only [↓wpPre, wpPost, wpPoly, Int.reduceToNat, Int.reducePow, Int.reduceMul, Int.reduceAdd, Int.reduceSub, Int.reduceNeg, Nat.reduceAdd, Nat.reduceMul, Nat.reducePow, Int.reduceLT, Int.reduceLE, Int.reduceEq, Nat.reduceEqDiff]
    exact hd _ hJ
end
end Go.Ae

/- Waves of the program and of the reference. -/
set_option linter.unusedSimpArgs false
set_option linter.unusedVariables false
namespace Go.Ae
def waveErr (n : Int) : Int := if n < 0 ∨ 100000 < n then 2 else 0
/-- A wave's list when some rounds are done. -/
def waveK (a s : Int) (m k : Nat) : List (Int × Int) := waveL a s k ++ List.replicate (m - k) (0, 0)
theorem waveK_length {a s : Int} {m k : Nat} (h : k ≤ m) : (waveK a s m k).length = m := by simp [waveK, waveL_length]; omega
theorem waveK_set {a s : Int} {m k : Nat} (h : k < m) : (waveK a s m k).set k (carP (phI a s k)) = waveK a s m (k + 1) := by
  unfold waveK
  rw [List.set_append_right _ _ (by rw [waveL_length]; omega), waveL_length, Nat.sub_self, waveL_succ, List.append_assoc]
  congr 1
  rw [show m - k = (m - (k + 1)) + 1 by omega, List.replicate_succ]; rfl
theorem waveK_full (a s : Int) (m : Nat) : waveK a s m m = waveL a s m := by simp [waveK]
/-- A slice whose room is known. -/
def KnownCap (v : AV) : Prop := v = .nilslice ∨ ∃ i o n c, v = .slice i o n (.known c)
theorem SL.dropK {h : Heap} {sz n a : Nat} {v : AV} {cs : List AV} {kk : IntKind} (H : SL h sz v n cs) (K : KnownCap v) (ha : a ≤ n) : ∃ v', (∀ h', sliceA h' sz v (some (.int kk (a : Nat))) none none = some v') ∧ SL h sz v' (n - a) (cs.drop (a * sz)) := by
  obtain ⟨hl, hlt, ⟨rfl, rfl⟩ | ⟨i, o, cp, vs, wr, u, rfl, hg, hle, hc, hcap⟩⟩ := H
  · have : a = 0 := by omega
    subst this
    have : cs = [] := List.eq_nil_of_length_eq_zero (by omega)
    subst this
    exact ⟨.nilslice, fun _ => rfl, by simp, by omega, .inl ⟨rfl, rfl⟩⟩
  · obtain ⟨c, rfl⟩ : ∃ c, cp = .known c := by
      rcases K with K | ⟨_, _, _, c, K⟩
      · cases K
      · cases K; exact ⟨c, rfl⟩
    dsimp only at hcap
    have hbd : boundsA n c (some (.int kk (a : Nat))) none none = some (a, n, c) := bounds_ok (len := n) (cap := c) (a := a) (b := n) (c := c) rfl rfl rfl ⟨ha, hcap, Nat.le_refl _⟩
    refine ⟨.slice i (if c = a then o else o + a * sz) (n - a) (.known (c - a)), fun _ => by simp only [sliceA, hbd], ?_⟩
    have hm : a * sz ≤ n * sz := Nat.mul_le_mul_right _ ha
    have hs : (n - a) * sz = n * sz - a * sz := Nat.sub_mul _ _ _
    refine ⟨by rw [List.length_drop, hl, hs], by omega, .inr ⟨i, _, _, vs, wr, u, rfl, hg, ?_, ?_, by dsimp only; omega⟩⟩
    · split
      · rename_i e; have : n - a = 0 := by omega
        rw [this]; omega
      · omega
    · subst hc
      split
      · rename_i e; have : n = a := by omega
        subst this
        simp [cut]
      · simp only [cut, List.drop_take, List.drop_drop, hs]
theorem SI.dropK {h : Heap} {v : AV} {l : List (Int × Int)} {a : Nat} {kk : IntKind} (H : SI h v l) (K : KnownCap v) (ha : a ≤ l.length) : ∃ v', (∀ h', sliceA h' 2 v (some (.int kk (a : Nat))) none none = some v') ∧ SI h v' (l.drop a) := by
  obtain ⟨v', e, q⟩ := SL.dropK (kk := kk) H K ha
  refine ⟨v', e, ?_⟩
  rw [smps_drop] at q
  unfold SI
  rwa [List.length_drop]
section
variable {C : Ctx}
set_option maxHeartbeats 1000000 in
theorem Wave_specK (hC : Has C T121) {a s n : Int} {h : Heap} (ha : U32 a) (hn : In64 n) : ACalls C 121 [nco a s, .int .i64 n] h (fun r h' => ∃ v, r = lstErr v (waveErr n) ∧ HSub h h' ∧ SI h' v (if waveErr n = 0 then waveL a s n.toNat else []) ∧ KnownCap v) := by
  unfold In64 at hn
  by_cases cb : n < 0 ∨ 100000 < n
  · have e : waveErr n = 2 := if_pos cb
    rw [e]
    unfold nco
    (refine calls_intro (hC.body (by decide) tab121) (Nat.le_of_ble_eq_true rfl) ?_); (show wp C _ none B121.code _ _); (simp only [B121]); simp -implicitDefEqProofs (disch := first | assumption | decide | omega | (simp only [wpD1] <;> omega) | (simp only [wpD2] <;> assumption) | solve_by_elim [HSub.refl, HSub.push, HSub.reserve] | fail) only [↓wpPre, wpPost, wpPoly, Int.reduceToNat, Int.reducePow, Int.reduceMul, Int.reduceAdd, Int.reduceSub, Int.reduceNeg, Nat.reduceAdd, Nat.reduceMul, Nat.reducePow, Int.reduceLT, Int.reduceLE, Int.reduceEq, Nat.reduceEqDiff]
    (repeat' (first | (refine Br.by (fun _ => ?_) (fun _ => ?_)) | (simp -implicitDefEqProofs (disch := first | assumption | decide | omega | (simp only [wpD1] <;> omega) | (simp only [wpD2] <;> assumption) | solve_by_elim [HSub.refl, HSub.push, HSub.reserve] | fail) only [↓wpPre, wpPost, wpPoly, Int.reduceToNat, Int.reducePow, Int.reduceMul, Int.reduceAdd, Int.reduceSub, Int.reduceNeg, Nat.reduceAdd, Nat.reduceMul, Nat.reducePow, Int.reduceLT, Int.reduceLE, Int.reduceEq, Nat.reduceEqDiff])))
    all_goals first | exact ⟨_, rfl, HSub.push1 _ _, SI.nil, .inl rfl⟩ | (exfalso; omega)
  · have e : waveErr n = 0 := if_neg cb
    rw [e, if_pos rfl]
    obtain ⟨m, rfl⟩ := Int.eq_ofNat_of_zero_le (show 0 ≤ n by omega)
    rw [Int.toNat_natCast]
    have hz := smps_replicate (p := (0, 0)) (n := m)
    simp only at hz
    have hph := fun h => phases_spec (a := a) (s := s) (m := m) (h := h) (hC.sub (T' := T134) (by decide))
    unfold nco at hph ⊢
    (refine calls_intro (hC.body (by decide) tab121) (Nat.le_of_ble_eq_true rfl) ?_); (show wp C _ none B121.code _ _); (simp only [B121]); simp -implicitDefEqProofs (disch := first | assumption | decide | omega | (simp only [wpD1] <;> omega) | (simp only [wpD2] <;> assumption) | solve_by_elim [HSub.refl, HSub.push, HSub.reserve] | fail) only [↓wpPre, wpPost, wpPoly, Int.reduceToNat, Int.reducePow, Int.reduceMul, Int.reduceAdd, Int.reduceSub, Int.reduceNeg, Nat.reduceAdd, Nat.reduceMul, Nat.reducePow, Int.reduceLT, Int.reduceLE, Int.reduceEq, Nat.reduceEqDiff, hz]
    refine ACallsK.hide (fun H hH => ?_)
    have N : H.size = h.size + 3 := by rw [hH]; simp -implicitDefEqProofs (disch := first | assumption | decide | omega | (simp only [wpD1] <;> omega) | (simp only [wpD2] <;> assumption) | solve_by_elim [HSub.refl, HSub.push, HSub.reserve] | fail) only [↓wpPre, wpPost, wpPoly, Int.reduceToNat, Int.reducePow, Int.reduceMul, Int.reduceAdd, Int.reduceSub, Int.reduceNeg, Nat.reduceAdd, Nat.reduceMul, Nat.reducePow, Int.reduceLT, Int.reduceLE, Int.reduceEq, Nat.reduceEqDiff]
    have bo : H.get (h.size + 1) = some (.cells (smps (List.replicate m (0, 0))) true 0) := by rw [hH]; simp -implicitDefEqProofs (disch := first | assumption | decide | omega | (simp only [wpD1] <;> omega) | (simp only [wpD2] <;> assumption) | solve_by_elim [HSub.refl, HSub.push, HSub.reserve] | fail) only [↓wpPre, wpPost, wpPoly, Int.reduceToNat, Int.reducePow, Int.reduceMul, Int.reduceAdd, Int.reduceSub, Int.reduceNeg, Nat.reduceAdd, Nat.reduceMul, Nat.reducePow, Int.reduceLT, Int.reduceLE, Int.reduceEq, Nat.reduceEqDiff]
    have bs : H.get (h.size + 2) = some (.cells [.slice (h.size + 1) 0 m (.known m)] true 0) := by rw [hH]; simp -implicitDefEqProofs (disch := first | assumption | decide | omega | (simp only [wpD1] <;> omega) | (simp only [wpD2] <;> assumption) | solve_by_elim [HSub.refl, HSub.push, HSub.reserve] | fail) only [↓wpPre, wpPost, wpPoly, Int.reduceToNat, Int.reducePow, Int.reduceMul, Int.reduceAdd, Int.reduceSub, Int.reduceNeg, Nat.reduceAdd, Nat.reduceMul, Nat.reducePow, Int.reduceLT, Int.reduceLE, Int.reduceEq, Nat.reduceEqDiff]
    have hsH : HSub h H := by
      rw [hH]
      exact ((HSub.push1 _ _).push _).push _
    clear hH
    refine ACallsK.eq (hph _) ?_
    simp -implicitDefEqProofs (disch := first | assumption | decide | omega | (simp only [wpD1] <;> omega) | (simp only [wpD2] <;> assumption) | solve_by_elim [HSub.refl, HSub.push, HSub.reserve] | fail) only [↓wpPre, wpPost, wpPoly, Int.reduceToNat, Int.reducePow, Int.reduceMul, Int.reduceAdd, Int.reduceSub, Int.reduceNeg, Nat.reduceAdd, Nat.reduceMul, Nat.reducePow, Int.reduceLT, Int.reduceLE, Int.reduceEq, Nat.reduceEqDiff]
    refine wpRange_none (D := fun h' => ∃ R, h'.get (H.size + 4) = some (.loop R) ∧ R.state = .ready ∧ R.pend = none ∧ HSub h h' ∧ h'.get (H.size + 3) = some (.defd true) ∧
      h'.get (h.size + 2) = some (.cells [.slice (h.size + 1) 0 m (.known m)] true 0) ∧ h'.get (h.size + 1) = some (.cells (smps (waveL a s m)) true 0) ∧ H.size + 5 ≤ h'.size) ?_ ?_
    · refine ACalls.hideLoop (fun R hR => ?_)
      show ACalls C 145 [.yield (H.size + 4), .ptr (H.size + 1) 0, .ptr (H.size + 2) 0] _ _
      have rs : R.state = .ready := by rw [hR]
      have rp : R.pend = none := by rw [hR]
      have rb := loop_back rs rp
      refine phases2_iter (hC.sub (T' := T145) (by decide)) (hC.sub (T' := T144) (by decide)) (b0 := H.size) (a := a) (s := s) (m := m) (by omega) (fun k h' => k ≤ m ∧ h'.get (H.size + 4) = some (.loop R) ∧ h'.get H.size = some (.cells [.int .u32 (phI a s (k : Nat)), .int .u32 s] true 0) ∧
        h'.get (H.size + 1) = some (.cells [.int .i64 (m : Nat)] true 0) ∧ h'.get (H.size + 2) = some (.cells [.func 144 [] [.ptr H.size 0]] true 0) ∧ h'.get (H.size + 3) = some (.defd true) ∧ HSub h h' ∧ H.size + 5 ≤ h'.size ∧
        h'.get (h.size + 2) = some (.cells [.slice (h.size + 1) 0 m (.known m)] true 0) ∧ h'.get (h.size + 1) = some (.cells (smps (waveK a s m k)) true 0)) _ ?_ ?_ ?_ ?_
      · have ez : phI a s ((0 : Nat) : Int) = a := phI_zero ha
        refine ⟨by omega, ?_, ?_, ?_, ?_, ?_, ?_, ?_, ?_, ?_⟩
        · simp -implicitDefEqProofs (disch := first | assumption | decide | omega | (simp only [wpD1] <;> omega) | (simp only [wpD2] <;> assumption) | solve_by_elim [HSub.refl, HSub.push, HSub.reserve] | fail) only [↓wpPre, wpPost, wpPoly, Int.reduceToNat, Int.reducePow, Int.reduceMul, Int.reduceAdd, Int.reduceSub, Int.reduceNeg, Nat.reduceAdd, Nat.reduceMul, Nat.reducePow, Int.reduceLT, Int.reduceLE, Int.reduceEq, Nat.reduceEqDiff]
        · rw [ez]; simp -implicitDefEqProofs (disch := first | assumption | decide | omega | (simp only [wpD1] <;> omega) | (simp only [wpD2] <;> assumption) | solve_by_elim [HSub.refl, HSub.push, HSub.reserve] | fail) only [↓wpPre, wpPost, wpPoly, Int.reduceToNat, Int.reducePow, Int.reduceMul, Int.reduceAdd, Int.reduceSub, Int.reduceNeg, Nat.reduceAdd, Nat.reduceMul, Nat.reducePow, Int.reduceLT, Int.reduceLE, Int.reduceEq, Nat.reduceEqDiff]
        · simp -implicitDefEqProofs (disch := first | assumption | decide | omega | (simp only [wpD1] <;> omega) | (simp only [wpD2] <;> assumption) | solve_by_elim [HSub.refl, HSub.push, HSub.reserve] | fail) only [↓wpPre, wpPost, wpPoly, Int.reduceToNat, Int.reducePow, Int.reduceMul, Int.reduceAdd, Int.reduceSub, Int.reduceNeg, Nat.reduceAdd, Nat.reduceMul, Nat.reducePow, Int.reduceLT, Int.reduceLE, Int.reduceEq, Nat.reduceEqDiff]
        · simp -implicitDefEqProofs (disch := first | assumption | decide | omega | (simp only [wpD1] <;> omega) | (simp only [wpD2] <;> assumption) | solve_by_elim [HSub.refl, HSub.push, HSub.reserve] | fail) only [↓wpPre, wpPost, wpPoly, Int.reduceToNat, Int.reducePow, Int.reduceMul, Int.reduceAdd, Int.reduceSub, Int.reduceNeg, Nat.reduceAdd, Nat.reduceMul, Nat.reducePow, Int.reduceLT, Int.reduceLE, Int.reduceEq, Nat.reduceEqDiff]
        · simp -implicitDefEqProofs (disch := first | assumption | decide | omega | (simp only [wpD1] <;> omega) | (simp only [wpD2] <;> assumption) | solve_by_elim [HSub.refl, HSub.push, HSub.reserve] | fail) only [↓wpPre, wpPost, wpPoly, Int.reduceToNat, Int.reducePow, Int.reduceMul, Int.reduceAdd, Int.reduceSub, Int.reduceNeg, Nat.reduceAdd, Nat.reduceMul, Nat.reducePow, Int.reduceLT, Int.reduceLE, Int.reduceEq, Nat.reduceEqDiff]
        · exact ((((hsH.push _).push _).push _).push _).push _
        · simp -implicitDefEqProofs (disch := first | assumption | decide | omega | (simp only [wpD1] <;> omega) | (simp only [wpD2] <;> assumption) | solve_by_elim [HSub.refl, HSub.push, HSub.reserve] | fail) only [↓wpPre, wpPost, wpPoly, Int.reduceToNat, Int.reducePow, Int.reduceMul, Int.reduceAdd, Int.reduceSub, Int.reduceNeg, Nat.reduceAdd, Nat.reduceMul, Nat.reducePow, Int.reduceLT, Int.reduceLE, Int.reduceEq, Nat.reduceEqDiff]
          omega
        · simp -implicitDefEqProofs (disch := first | assumption | decide | omega | (simp only [wpD1] <;> omega) | (simp only [wpD2] <;> assumption) | solve_by_elim [HSub.refl, HSub.push, HSub.reserve] | fail) only [↓wpPre, wpPost, wpPoly, Int.reduceToNat, Int.reducePow, Int.reduceMul, Int.reduceAdd, Int.reduceSub, Int.reduceNeg, Nat.reduceAdd, Nat.reduceMul, Nat.reducePow, Int.reduceLT, Int.reduceLE, Int.reduceEq, Nat.reduceEqDiff, bs]
        · simp -implicitDefEqProofs (disch := first | assumption | decide | omega | (simp only [wpD1] <;> omega) | (simp only [wpD2] <;> assumption) | solve_by_elim [HSub.refl, HSub.push, HSub.reserve] | fail) only [↓wpPre, wpPost, wpPoly, Int.reduceToNat, Int.reducePow, Int.reduceMul, Int.reduceAdd, Int.reduceSub, Int.reduceNeg, Nat.reduceAdd, Nat.reduceMul, Nat.reducePow, Int.reduceLT, Int.reduceLE, Int.reduceEq, Nat.reduceEqDiff, bo]
          rfl
      · rintro k h' ⟨_, _, q0, q1, q2, _⟩
        exact ⟨q0, q1, q2⟩
      · rintro k h' ⟨hk, hl, g0, g1, g2, hd, hsub, hsz, gs, go⟩ hk'
        have hwl := waveK_length (a := a) (s := s) hk
        have hset := smps_splice (l := waveK a s m k) (k := k) (p := carP (phI a s k)) (by rw [hwl]; exact hk')
        rw [waveK_set hk'] at hset
        have hsl : (smps (waveK a s m k)).length = m * 2 := by rw [smps_length, hwl]
        have hca := fun h => Carrier_spec (h := h) (hC.sub (T' := T135) (by decide)) (phI_u32 a s (k : Nat))
        unfold smp at hca
        refine yield_intro (r := R) (by simp -implicitDefEqProofs (disch := first | assumption | decide | omega | (simp only [wpD1] <;> omega) | (simp only [wpD2] <;> assumption) | solve_by_elim [HSub.refl, HSub.push, HSub.reserve] | fail) only [↓wpPre, wpPost, wpPoly, Int.reduceToNat, Int.reducePow, Int.reduceMul, Int.reduceAdd, Int.reduceSub, Int.reduceNeg, Nat.reduceAdd, Nat.reduceMul, Nat.reducePow, Int.reduceLT, Int.reduceLE, Int.reduceEq, Nat.reduceEqDiff, hl]) rs (by rw [hR]; rfl) ?_
        simp only [congrArg ALoop.nt hR, congrArg ALoop.t hR, congrArg ALoop.params hR, congrArg ALoop.assign hR, congrArg ALoop.body hR]
        simp -implicitDefEqProofs (disch := first | assumption | decide | omega | (simp only [wpD1] <;> omega) | (simp only [wpD2] <;> assumption) | solve_by_elim [HSub.refl, HSub.push, HSub.reserve] | fail) only [↓wpPre, wpPost, wpPoly, Int.reduceToNat, Int.reducePow, Int.reduceMul, Int.reduceAdd, Int.reduceSub, Int.reduceNeg, Nat.reduceAdd, Nat.reduceMul, Nat.reducePow, Int.reduceLT, Int.reduceLE, Int.reduceEq, Nat.reduceEqDiff, hl, rs, gs]
        refine ACallsK.eq (hca _) ?_
        simp -implicitDefEqProofs (disch := first | assumption | decide | omega | (simp only [wpD1] <;> omega) | (simp only [wpD2] <;> assumption) | solve_by_elim [HSub.refl, HSub.push, HSub.reserve] | fail) only [↓wpPre, wpPost, wpPoly, Int.reduceToNat, Int.reducePow, Int.reduceMul, Int.reduceAdd, Int.reduceSub, Int.reduceNeg, Nat.reduceAdd, Nat.reduceMul, Nat.reducePow, Int.reduceLT, Int.reduceLE, Int.reduceEq, Nat.reduceEqDiff, hl, go, hset]
        exact .inl ⟨by omega, by rw [rb], g1, g2, hd, (((hsub.put (by omega) _).put (by omega) _).put (by omega) _).put (by omega) _, by omega, gs⟩
      · rintro h' ⟨_, hl, _, _, _, hd, hsub, hsz, gs, go⟩
        rw [waveK_full] at go
        exact ⟨R, hl, rs, rp, hsub, hd, gs, go, hsz⟩
    · rintro h' ⟨R, hl, hst, hpd, hsub, hd, gs, go, hsz⟩
      refine ⟨R, hl, by rw [hst]; decide, ?_⟩
      rw [hpd]
      show blockO _ _ .normal _
      simp -implicitDefEqProofs (disch := first | assumption | decide | omega | (simp only [wpD1] <;> omega) | (simp only [wpD2] <;> assumption) | solve_by_elim [HSub.refl, HSub.push, HSub.reserve] | fail) only [↓wpPre, wpPost, wpPoly, Int.reduceToNat, Int.reducePow, Int.reduceMul, Int.reduceAdd, Int.reduceSub, Int.reduceNeg, Nat.reduceAdd, Nat.reduceMul, Nat.reducePow, Int.reduceLT, Int.reduceLE, Int.reduceEq, Nat.reduceEqDiff, hd, gs]
      refine ⟨_, rfl, (hsub.put (by omega) _).put (by omega) _, SI.known (wr := true) (u := 0) ?_ ⟨(waveL_length a s m).symm, by omega⟩ (Nat.le_refl _), .inr ⟨_, _, _, _, rfl⟩⟩
      simp -implicitDefEqProofs (disch := first | assumption | decide | omega | (simp only [wpD1] <;> omega) | (simp only [wpD2] <;> assumption) | solve_by_elim [HSub.refl, HSub.push, HSub.reserve] | fail) only [↓wpPre, wpPost, wpPoly, Int.reduceToNat, Int.reducePow, Int.reduceMul, Int.reduceAdd, Int.reduceSub, Int.reduceNeg, Nat.reduceAdd, Nat.reduceMul, Nat.reducePow, Int.reduceLT, Int.reduceLE, Int.reduceEq, Nat.reduceEqDiff, go]
theorem Wave_spec (hC : Has C T121) {a s n : Int} {h : Heap} (ha : U32 a) (hn : In64 n) : ACalls C 121 [nco a s, .int .i64 n] h (fun r h' => ∃ v, r = lstErr v (waveErr n) ∧ HSub h h' ∧ SI h' v (if waveErr n = 0 then waveL a s n.toNat else [])) :=
  (Wave_specK hC ha hn).mono fun _ _ ⟨v, q1, q2, q3, _⟩ => ⟨v, q1, q2, q3⟩
theorem PhaseR_spec (hC : Has C T126) {a s n : Int} {h : Heap} : ACalls C 126 [nco a s, .int .i64 n] h (fun r h' => r = .int .u32 (phI a s n) ∧ h' = h) := by
  refine ACalls.gc0 (P := fun r h' => r = .int .u32 (phI a s n) ∧ HSub h h') ?_ (fun r h' hp => ⟨by rw [hp.1]; trivial, hp.2, hp.1, rfl⟩)
  have hA : ∀ h, ACalls C 139 [.int .u32 a, .int .u32 s, .int .i64 n] h (fun r h' => r = .int .u32 (phI a s n) ∧ h' = h) := by
    intro h
    have hC' : Has C T139 := (hC.sub (T' := T139) (by decide))
    have hC := hC'
    (refine calls_intro (hC.body (by decide) tab139) (Nat.le_of_ble_eq_true rfl) ?_); (show wp C _ none B139.code _ _); (simp only [B139]); simp -implicitDefEqProofs (disch := first | assumption | decide | omega | (simp only [wpD1] <;> omega) | (simp only [wpD2] <;> assumption) | solve_by_elim [HSub.refl, HSub.push, HSub.reserve] | fail) only [↓wpPre, wpPost, wpPoly, Int.reduceToNat, Int.reducePow, Int.reduceMul, Int.reduceAdd, Int.reduceSub, Int.reduceNeg, Nat.reduceAdd, Nat.reduceMul, Nat.reducePow, Int.reduceLT, Int.reduceLE, Int.reduceEq, Nat.reduceEqDiff, wrap_u32]
    unfold phI
    rw [Int.mul_comm s]
    rw [Int.add_emod_emod]
  unfold nco
  (refine calls_intro (hC.body (by decide) tab126) (Nat.le_of_ble_eq_true rfl) ?_); (show wp C _ none B126.code _ _); (simp only [B126]); simp -implicitDefEqProofs (disch := first | assumption | decide | omega | (simp only [wpD1] <;> omega) | (simp only [wpD2] <;> assumption) | solve_by_elim [HSub.refl, HSub.push, HSub.reserve] | fail) only [↓wpPre, wpPost, wpPoly, Int.reduceToNat, Int.reducePow, Int.reduceMul, Int.reduceAdd, Int.reduceSub, Int.reduceNeg, Nat.reduceAdd, Nat.reduceMul, Nat.reducePow, Int.reduceLT, Int.reduceLE, Int.reduceEq, Nat.reduceEqDiff]
  refine ACallsK.eq (hA _) ?_
  simp -implicitDefEqProofs (disch := first | assumption | decide | omega | (simp only [wpD1] <;> omega) | (simp only [wpD2] <;> assumption) | solve_by_elim [HSub.refl, HSub.push, HSub.reserve] | fail) only [↓wpPre, wpPost, wpPoly, Int.reduceToNat, Int.reducePow, Int.reduceMul, Int.reduceAdd, Int.reduceSub, Int.reduceNeg, Nat.reduceAdd, Nat.reduceMul, Nat.reducePow, Int.reduceLT, Int.reduceLE, Int.reduceEq, Nat.reduceEqDiff]
  exact HSub.push1 _ _
theorem WaveR_spec (hC : Has C T124) {a s n : Int} {h : Heap} (hn : In64 n) : ACalls C 124 [nco a s, .int .i64 n] h (fun r h' => ∃ v, r = lstErr v (waveErr n) ∧ HSub h h' ∧ SI h' v (if waveErr n = 0 then waveL a s n.toNat else [])) := by
  unfold In64 at hn
  by_cases cb : n < 0 ∨ 100000 < n
  · have e : waveErr n = 2 := if_pos cb
    rw [e]
    unfold nco
    (refine calls_intro (hC.body (by decide) tab124) (Nat.le_of_ble_eq_true rfl) ?_); (show wp C _ none B124.code _ _); (simp only [B124]); simp -implicitDefEqProofs (disch := first | assumption | decide | omega | (simp only [wpD1] <;> omega) | (simp only [wpD2] <;> assumption) | solve_by_elim [HSub.refl, HSub.push, HSub.reserve] | fail) only [↓wpPre, wpPost, wpPoly, Int.reduceToNat, Int.reducePow, Int.reduceMul, Int.reduceAdd, Int.reduceSub, Int.reduceNeg, Nat.reduceAdd, Nat.reduceMul, Nat.reducePow, Int.reduceLT, Int.reduceLE, Int.reduceEq, Nat.reduceEqDiff]
    (repeat' (first | (refine Br.by (fun _ => ?_) (fun _ => ?_)) | (simp -implicitDefEqProofs (disch := first | assumption | decide | omega | (simp only [wpD1] <;> omega) | (simp only [wpD2] <;> assumption) | solve_by_elim [HSub.refl, HSub.push, HSub.reserve] | fail) only [↓wpPre, wpPost, wpPoly, Int.reduceToNat, Int.reducePow, Int.reduceMul, Int.reduceAdd, Int.reduceSub, Int.reduceNeg, Nat.reduceAdd, Nat.reduceMul, Nat.reducePow, Int.reduceLT, Int.reduceLE, Int.reduceEq, Nat.reduceEqDiff])))
    all_goals first | exact ⟨_, rfl, HSub.push1 _ _, SI.nil⟩ | (exfalso; omega)
  · have e : waveErr n = 0 := if_neg cb
    rw [e, if_pos rfl]
    obtain ⟨m, rfl⟩ := Int.eq_ofNat_of_zero_le (show 0 ≤ n by omega)
    rw [Int.toNat_natCast]
    have hph := fun (k : Int) h => PhaseR_spec (a := a) (s := s) (n := k) (h := h) (hC.sub (T' := T126) (by decide))
    unfold nco at hph ⊢
    (refine calls_intro (hC.body (by decide) tab124) (Nat.le_of_ble_eq_true rfl) ?_); (show wp C _ none B124.code _ _); (simp only [B124]); simp -implicitDefEqProofs (disch := first | assumption | decide | omega | (simp only [wpD1] <;> omega) | (simp only [wpD2] <;> assumption) | solve_by_elim [HSub.refl, HSub.push, HSub.reserve] | fail) only [↓wpPre, wpPost, wpPoly, Int.reduceToNat, Int.reducePow, Int.reduceMul, Int.reduceAdd, Int.reduceSub, Int.reduceNeg, Nat.reduceAdd, Nat.reduceMul, Nat.reducePow, Int.reduceLT, Int.reduceLE, Int.reduceEq, Nat.reduceEqDiff]
    refine wp_loopI (fun j t h' => ∃ k : Nat, GrwS (h.push (.cells [.int .u32 a, .int .u32 s] true 0)) h' (t 6) (waveL a s k) ∧ t 1 = .int .i64 (m : Nat) ∧ t 2 = .ptr h.size 0 ∧ t 7 = .int .i64 (k : Nat) ∧ k ≤ m ∧ j = m - k) (j0 := m)
      ⟨0, GrwS.nil _, rfl, rfl, rfl, by omega, rfl⟩ ?_
    rintro j t h2 ⟨k, A, e1, e2, e7, hk, hj⟩
    have gb : h2.get h.size = some (.cells [.int .u32 a, .int .u32 s] true 0) := (A.sub.get _ (by simp)).trans (get_push_eq rfl)
    have hsz := A.sub.size
    simp only [Heap.size_push] at hsz
    simp -implicitDefEqProofs (disch := first | assumption | decide | omega | (simp only [wpD1] <;> omega) | (simp only [wpD2] <;> assumption) | solve_by_elim [HSub.refl, HSub.push, HSub.reserve] | fail) only [↓wpPre, wpPost, wpPoly, Int.reduceToNat, Int.reducePow, Int.reduceMul, Int.reduceAdd, Int.reduceSub, Int.reduceNeg, Nat.reduceAdd, Nat.reduceMul, Nat.reducePow, Int.reduceLT, Int.reduceLE, Int.reduceEq, Nat.reduceEqDiff, e1, e7]
    refine Br.by (fun c1 => ?_) (fun c1 => ?_)
    · have hk' : k < m := by omega
      have hca := fun h => CarrierR_spec (h := h) (hC.sub (T' := T130) (by decide)) (phI_u32 a s (k : Nat))
      unfold smp at hca
      have hlen := waveL_length a s k
      simp -implicitDefEqProofs (disch := first | assumption | decide | omega | (simp only [wpD1] <;> omega) | (simp only [wpD2] <;> assumption) | solve_by_elim [HSub.refl, HSub.push, HSub.reserve] | fail) only [↓wpPre, wpPost, wpPoly, Int.reduceToNat, Int.reducePow, Int.reduceMul, Int.reduceAdd, Int.reduceSub, Int.reduceNeg, Nat.reduceAdd, Nat.reduceMul, Nat.reducePow, Int.reduceLT, Int.reduceLE, Int.reduceEq, Nat.reduceEqDiff, e2, gb, e7]
      refine ACallsK.eq (hph _ _) ?_
      simp -implicitDefEqProofs (disch := first | assumption | decide | omega | (simp only [wpD1] <;> omega) | (simp only [wpD2] <;> assumption) | solve_by_elim [HSub.refl, HSub.push, HSub.reserve] | fail) only [↓wpPre, wpPost, wpPoly, Int.reduceToNat, Int.reducePow, Int.reduceMul, Int.reduceAdd, Int.reduceSub, Int.reduceNeg, Nat.reduceAdd, Nat.reduceMul, Nat.reducePow, Int.reduceLT, Int.reduceLE, Int.reduceEq, Nat.reduceEqDiff]
      refine ACallsK.eq (hca _) ?_
      have hsucc := waveL_succ a s k
      have A2 := A.snoc (x := (carP (phI a s k)).1) (y := (carP (phI a s k)).2) (HSub.push1 h2 (.cells [.int .i64 (carP (phI a s k)).1, .int .i64 (carP (phI a s k)).2] true 0)) (by omega)
      rw [show ((carP (phI a s k)).1, (carP (phI a s k)).2) = carP (phI a s k) from rfl, ← hsucc, hlen] at A2
      simp -implicitDefEqProofs (disch := first | assumption | decide | omega | (simp only [wpD1] <;> omega) | (simp only [wpD2] <;> assumption) | solve_by_elim [HSub.refl, HSub.push, HSub.reserve] | fail) only [↓wpPre, wpPost, wpPoly, Int.reduceToNat, Int.reducePow, Int.reduceMul, Int.reduceAdd, Int.reduceSub, Int.reduceNeg, Nat.reduceAdd, Nat.reduceMul, Nat.reducePow, Int.reduceLT, Int.reduceLE, Int.reduceEq, Nat.reduceEqDiff, cont_slice, contB_two, A.app, hlen, ← hsucc, e1, e2, e7]
      exact ⟨_, ⟨k + 1, A2, by simp, by omega, rfl⟩, by omega⟩
    · have ek : k = m := by omega
      subst ek
      simp -implicitDefEqProofs (disch := first | assumption | decide | omega | (simp only [wpD1] <;> omega) | (simp only [wpD2] <;> assumption) | solve_by_elim [HSub.refl, HSub.push, HSub.reserve] | fail) only [↓wpPre, wpPost, wpPoly, Int.reduceToNat, Int.reducePow, Int.reduceMul, Int.reduceAdd, Int.reduceSub, Int.reduceNeg, Nat.reduceAdd, Nat.reduceMul, Nat.reducePow, Int.reduceLT, Int.reduceLE, Int.reduceEq, Nat.reduceEqDiff]
      exact ⟨_, rfl, (HSub.push1 _ _).trans A.sub, A.si⟩
end
end Go.Ae

/- Mixes of the program and of the reference. -/
set_option linter.unusedSimpArgs false
set_option linter.unusedVariables false
namespace Go.Ae
def wipeE (p : Int × Int) (ph : Int) : AV := if smallP p then .tuple [smp (mixP p (carP ph)), .int .i64 0] else .tuple [smp (0, 0), .int .i64 2]
theorem wipeE_free (p : Int × Int) (ph : Int) : (wipeE p ph).free := by
  unfold wipeE
  split <;> exact free_tuple (by simp [smp, AV.free, AV.bel, AV.bels])
section
variable {C : Ctx}
theorem small147_spec (hC : Has C T147) {p : Int × Int} {h : Heap} : ACalls C 147 [smp p] h (fun r h' => r = .bool (decide (smallP p)) ∧ h' = h) := by
  refine ACalls.gc0 (P := fun r h' => r = .bool (decide (smallP p)) ∧ HSub h h') ?_ (fun r h' hp => ⟨by rw [hp.1]; trivial, hp.2, hp.1, rfl⟩)
  obtain ⟨x, y⟩ := p
  unfold smp smallP
  (refine calls_intro (hC.body (by decide) tab147) (Nat.le_of_ble_eq_true rfl) ?_); (show wp C _ none B147.code _ _); (simp only [B147]); simp -implicitDefEqProofs (disch := first | assumption | decide | omega | (simp only [wpD1] <;> omega) | (simp only [wpD2] <;> assumption) | solve_by_elim [HSub.refl, HSub.push, HSub.reserve] | fail) only [↓wpPre, wpPost, wpPoly, Int.reduceToNat, Int.reducePow, Int.reduceMul, Int.reduceAdd, Int.reduceSub, Int.reduceNeg, Nat.reduceAdd, Nat.reduceMul, Nat.reducePow, Int.reduceLT, Int.reduceLE, Int.reduceEq, Nat.reduceEqDiff]
  (repeat' (first | (refine Br.by (fun _ => ?_) (fun _ => ?_)) | (simp -implicitDefEqProofs (disch := first | assumption | decide | omega | (simp only [wpD1] <;> omega) | (simp only [wpD2] <;> assumption) | solve_by_elim [HSub.refl, HSub.push, HSub.reserve] | fail) only [↓wpPre, wpPost, wpPoly, Int.reduceToNat, Int.reducePow, Int.reduceMul, Int.reduceAdd, Int.reduceSub, Int.reduceNeg, Nat.reduceAdd, Nat.reduceMul, Nat.reducePow, Int.reduceLT, Int.reduceLE, Int.reduceEq, Nat.reduceEqDiff])))
  all_goals first
    | exact ⟨by congr 1; apply decide_eq_decide.2; constructor <;> intro q <;> omega, HSub.push1 _ _⟩
    | (refine ⟨?_, HSub.push1 _ _⟩; congr 1; first | (rw [eq_comm]; apply decide_eq_false; omega) | (rw [eq_comm]; apply decide_eq_true; omega))
theorem small148_spec (hC : Has C T148) {p : Int × Int} {h : Heap} : ACalls C 148 [smp p] h (fun r h' => r = .bool (decide (smallP p)) ∧ h' = h) := by
  refine ACalls.gc0 (P := fun r h' => r = .bool (decide (smallP p)) ∧ HSub h h') ?_ (fun r h' hp => ⟨by rw [hp.1]; trivial, hp.2, hp.1, rfl⟩)
  obtain ⟨x, y⟩ := p
  unfold smp smallP
  (refine calls_intro (hC.body (by decide) tab148) (Nat.le_of_ble_eq_true rfl) ?_); (show wp C _ none B148.code _ _); (simp only [B148]); simp -implicitDefEqProofs (disch := first | assumption | decide | omega | (simp only [wpD1] <;> omega) | (simp only [wpD2] <;> assumption) | solve_by_elim [HSub.refl, HSub.push, HSub.reserve] | fail) only [↓wpPre, wpPost, wpPoly, Int.reduceToNat, Int.reducePow, Int.reduceMul, Int.reduceAdd, Int.reduceSub, Int.reduceNeg, Nat.reduceAdd, Nat.reduceMul, Nat.reducePow, Int.reduceLT, Int.reduceLE, Int.reduceEq, Nat.reduceEqDiff]
  (repeat' (first | (refine Br.by (fun _ => ?_) (fun _ => ?_)) | (simp -implicitDefEqProofs (disch := first | assumption | decide | omega | (simp only [wpD1] <;> omega) | (simp only [wpD2] <;> assumption) | solve_by_elim [HSub.refl, HSub.push, HSub.reserve] | fail) only [↓wpPre, wpPost, wpPoly, Int.reduceToNat, Int.reducePow, Int.reduceMul, Int.reduceAdd, Int.reduceSub, Int.reduceNeg, Nat.reduceAdd, Nat.reduceMul, Nat.reducePow, Int.reduceLT, Int.reduceLE, Int.reduceEq, Nat.reduceEqDiff])))
  all_goals first
    | exact ⟨by congr 1; apply decide_eq_decide.2; constructor <;> intro q <;> omega, HSub.push1 _ _⟩
    | (refine ⟨?_, HSub.push1 _ _⟩; congr 1; first | (rw [eq_comm]; apply decide_eq_false; omega) | (rw [eq_comm]; apply decide_eq_true; omega))
theorem Wipe_spec (hC : Has C T137) {p : Int × Int} {ph : Int} {h : Heap} (hp : U32 ph) : ACalls C 137 [smp p, .int .u32 ph] h (fun r h' => r = wipeE p ph ∧ h' = h) := by
  refine ACalls.gc0 (P := fun r h' => r = wipeE p ph ∧ HSub h h') ?_ (fun r h' hp => ⟨by rw [hp.1]; exact wipeE_free _ _, hp.2, hp.1, rfl⟩)
  have hc := carP_le hp
  have hsm := fun h => small147_spec (p := p) (h := h) (hC.sub (T' := T147) (by decide))
  have hca := fun h => Carrier_spec (h := h) (hC.sub (T' := T135) (by decide)) hp
  unfold wipeE
  obtain ⟨x, y⟩ := p
  generalize carP ph = q at hc hca ⊢
  obtain ⟨u, w⟩ := q
  unfold smp at hsm hca ⊢
  by_cases c : smallP (x, y)
  · rw [if_pos c]
    have c' := c
    unfold smallP at c'
    have m1 := mul_le127 c'.1 ⟨hc.1, hc.2.1⟩
    have m2 := mul_le127 c'.2 ⟨hc.2.2.1, hc.2.2.2⟩
    have m3 := mul_le127 c'.2 ⟨hc.1, hc.2.1⟩
    have m4 := mul_le127 c'.1 ⟨hc.2.2.1, hc.2.2.2⟩
    simp only at m1 m2 m3 m4 c'
    (refine calls_intro (hC.body (by decide) tab137) (Nat.le_of_ble_eq_true rfl) ?_); (show wp C _ none B137.code _ _); (simp only [B137]); simp -implicitDefEqProofs (disch := first | assumption | decide | omega | (simp only [wpD1] <;> omega) | (simp only [wpD2] <;> assumption) | solve_by_elim [HSub.refl, HSub.push, HSub.reserve] | fail) only [↓wpPre, wpPost, wpPoly, Int.reduceToNat, Int.reducePow, Int.reduceMul, Int.reduceAdd, Int.reduceSub, Int.reduceNeg, Nat.reduceAdd, Nat.reduceMul, Nat.reducePow, Int.reduceLT, Int.reduceLE, Int.reduceEq, Nat.reduceEqDiff]
    refine ACallsK.eq (hsm _) ?_
    simp -implicitDefEqProofs (disch := first | assumption | decide | omega | (simp only [wpD1] <;> omega) | (simp only [wpD2] <;> assumption) | solve_by_elim [HSub.refl, HSub.push, HSub.reserve] | fail) only [↓wpPre, wpPost, wpPoly, Int.reduceToNat, Int.reducePow, Int.reduceMul, Int.reduceAdd, Int.reduceSub, Int.reduceNeg, Nat.reduceAdd, Nat.reduceMul, Nat.reducePow, Int.reduceLT, Int.reduceLE, Int.reduceEq, Nat.reduceEqDiff]
    refine ACallsK.eq (hca _) ?_
    simp -implicitDefEqProofs (disch := first | assumption | decide | omega | (simp only [wpD1] <;> omega) | (simp only [wpD2] <;> assumption) | solve_by_elim [HSub.refl, HSub.push, HSub.reserve] | fail) only [↓wpPre, wpPost, wpPoly, Int.reduceToNat, Int.reducePow, Int.reduceMul, Int.reduceAdd, Int.reduceSub, Int.reduceNeg, Nat.reduceAdd, Nat.reduceMul, Nat.reducePow, Int.reduceLT, Int.reduceLE, Int.reduceEq, Nat.reduceEqDiff]
    exact ⟨rfl, ((HSub.push1 _ _).push _).push _⟩
  · rw [if_neg c]
    (refine calls_intro (hC.body (by decide) tab137) (Nat.le_of_ble_eq_true rfl) ?_); (show wp C _ none B137.code _ _); (simp only [B137]); simp -implicitDefEqProofs (disch := first | assumption | decide | omega | (simp only [wpD1] <;> omega) | (simp only [wpD2] <;> assumption) | solve_by_elim [HSub.refl, HSub.push, HSub.reserve] | fail) only [↓wpPre, wpPost, wpPoly, Int.reduceToNat, Int.reducePow, Int.reduceMul, Int.reduceAdd, Int.reduceSub, Int.reduceNeg, Nat.reduceAdd, Nat.reduceMul, Nat.reducePow, Int.reduceLT, Int.reduceLE, Int.reduceEq, Nat.reduceEqDiff]
    refine ACallsK.eq (hsm _) ?_
    simp -implicitDefEqProofs (disch := first | assumption | decide | omega | (simp only [wpD1] <;> omega) | (simp only [wpD2] <;> assumption) | solve_by_elim [HSub.refl, HSub.push, HSub.reserve] | fail) only [↓wpPre, wpPost, wpPoly, Int.reduceToNat, Int.reducePow, Int.reduceMul, Int.reduceAdd, Int.reduceSub, Int.reduceNeg, Nat.reduceAdd, Nat.reduceMul, Nat.reducePow, Int.reduceLT, Int.reduceLE, Int.reduceEq, Nat.reduceEqDiff]
    exact (HSub.push1 _ _).push _
theorem WipeR_spec (hC : Has C T138) {p : Int × Int} {ph : Int} {h : Heap} (hp : U32 ph) : ACalls C 138 [smp p, .int .u32 ph] h (fun r h' => r = wipeE p ph ∧ h' = h) := by
  refine ACalls.gc0 (P := fun r h' => r = wipeE p ph ∧ HSub h h') ?_ (fun r h' hp => ⟨by rw [hp.1]; exact wipeE_free _ _, hp.2, hp.1, rfl⟩)
  have hc := carP_le hp
  have hsm := fun h => small148_spec (p := p) (h := h) (hC.sub (T' := T148) (by decide))
  have hca := fun h => CarrierR_spec (h := h) (hC.sub (T' := T130) (by decide)) hp
  unfold wipeE
  obtain ⟨x, y⟩ := p
  generalize carP ph = q at hc hca ⊢
  obtain ⟨u, w⟩ := q
  unfold smp at hsm hca ⊢
  by_cases c : smallP (x, y)
  · rw [if_pos c]
    have c' := c
    unfold smallP at c'
    have m1 := mul_le127 c'.1 ⟨hc.1, hc.2.1⟩
    have m2 := mul_le127 c'.2 ⟨hc.2.2.1, hc.2.2.2⟩
    have m3 := mul_le127 c'.2 ⟨hc.1, hc.2.1⟩
    have m4 := mul_le127 c'.1 ⟨hc.2.2.1, hc.2.2.2⟩
    simp only at m1 m2 m3 m4 c'
    (refine calls_intro (hC.body (by decide) tab138) (Nat.le_of_ble_eq_true rfl) ?_); (show wp C _ none B138.code _ _); (simp only [B138]); simp -implicitDefEqProofs (disch := first | assumption | decide | omega | (simp only [wpD1] <;> omega) | (simp only [wpD2] <;> assumption) | solve_by_elim [HSub.refl, HSub.push, HSub.reserve] | fail) only [↓wpPre, wpPost, wpPoly, Int.reduceToNat, Int.reducePow, Int.reduceMul, Int.reduceAdd, Int.reduceSub, Int.reduceNeg, Nat.reduceAdd, Nat.reduceMul, Nat.reducePow, Int.reduceLT, Int.reduceLE, Int.reduceEq, Nat.reduceEqDiff]
    refine ACallsK.eq (hsm _) ?_
    simp -implicitDefEqProofs (disch := first | assumption | decide | omega | (simp only [wpD1] <;> omega) | (simp only [wpD2] <;> assumption) | solve_by_elim [HSub.refl, HSub.push, HSub.reserve] | fail) only [↓wpPre, wpPost, wpPoly, Int.reduceToNat, Int.reducePow, Int.reduceMul, Int.reduceAdd, Int.reduceSub, Int.reduceNeg, Nat.reduceAdd, Nat.reduceMul, Nat.reducePow, Int.reduceLT, Int.reduceLE, Int.reduceEq, Nat.reduceEqDiff]
    refine ACallsK.eq (hca _) ?_
    simp -implicitDefEqProofs (disch := first | assumption | decide | omega | (simp only [wpD1] <;> omega) | (simp only [wpD2] <;> assumption) | solve_by_elim [HSub.refl, HSub.push, HSub.reserve] | fail) only [↓wpPre, wpPost, wpPoly, Int.reduceToNat, Int.reducePow, Int.reduceMul, Int.reduceAdd, Int.reduceSub, Int.reduceNeg, Nat.reduceAdd, Nat.reduceMul, Nat.reducePow, Int.reduceLT, Int.reduceLE, Int.reduceEq, Nat.reduceEqDiff]
    exact ⟨rfl, ((HSub.push1 _ _).push _).push _⟩
  · rw [if_neg c]
    (refine calls_intro (hC.body (by decide) tab138) (Nat.le_of_ble_eq_true rfl) ?_); (show wp C _ none B138.code _ _); (simp only [B138]); simp -implicitDefEqProofs (disch := first | assumption | decide | omega | (simp only [wpD1] <;> omega) | (simp only [wpD2] <;> assumption) | solve_by_elim [HSub.refl, HSub.push, HSub.reserve] | fail) only [↓wpPre, wpPost, wpPoly, Int.reduceToNat, Int.reducePow, Int.reduceMul, Int.reduceAdd, Int.reduceSub, Int.reduceNeg, Nat.reduceAdd, Nat.reduceMul, Nat.reducePow, Int.reduceLT, Int.reduceLE, Int.reduceEq, Nat.reduceEqDiff]
    refine ACallsK.eq (hsm _) ?_
    simp -implicitDefEqProofs (disch := first | assumption | decide | omega | (simp only [wpD1] <;> omega) | (simp only [wpD2] <;> assumption) | solve_by_elim [HSub.refl, HSub.push, HSub.reserve] | fail) only [↓wpPre, wpPost, wpPoly, Int.reduceToNat, Int.reducePow, Int.reduceMul, Int.reduceAdd, Int.reduceSub, Int.reduceNeg, Nat.reduceAdd, Nat.reduceMul, Nat.reducePow, Int.reduceLT, Int.reduceLE, Int.reduceEq, Nat.reduceEqDiff]
    exact (HSub.push1 _ _).push _
end
end Go.Ae
