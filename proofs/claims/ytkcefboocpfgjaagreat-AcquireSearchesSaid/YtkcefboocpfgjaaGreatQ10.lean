/- Texts of the proof, part 10: a second reading of the lowered code, proved sound, and what the functions compute. -/
import Derived.OpenShut
import Derived.ChangeSlices
import Derived.ProofKit
import Derived.Test.YtkcefboocpfgjaaGreatQ9
set_option linter.unusedSimpArgs false
set_option linter.unusedVariables false
namespace Go.Ae
open Go.ChangeShapes Go.WideShapes Go.ChangeAt Go.RowKit
theorem trodAll_stays {H : Type} {enc : TypeId × Value → H} {P : Program} (hl : laidOutB P = true) {W W' : World} (hb : Below W.heap.size W W') : ∀ {ts : List TypeId} {vs : List Value} {ds : List (DataW H)} {ps : List MemPlace},
  (ts.all fun t => P.readableRec t && decide (t < P.types.size)) = true → DataW.TrodAll enc P W 0 (fun _ => true) true ts vs ds ps → (∀ x ∈ ps, x.block < W.heap.size) →
  DataW.TrodAll enc P W' 0 (fun b => decide (b < W.heap.size)) true ts vs ds ps
 | [], vs, ds, ps, _, h, _ => by
  obtain ⟨rfl, rfl, rfl⟩ := trodAll_nil h
  exact trodAll_mk0
 | t :: ts, vs, ds, ps, ht, h, hlt => by
  obtain ⟨v, vs', d, ds', p, q, rfl, rfl, rfl, h1, h2⟩ := trodAll_cons h
  simp only [List.all_cons, Bool.and_eq_true, decide_eq_true_eq] at ht
  exact ⟨p, q, Below.trod hl ht.1.1 ht.1.2 h1 hb (fun x hx => hlt x (List.mem_append_left _ hx)), trodAll_stays hl hb (by simpa using ht.2) h2 (fun x hx => hlt x (List.mem_append_right _ hx)), rfl⟩
def argHeap (bs : List (Option (List AV))) : Heap := ⟨bs.length, fun i => match bs[i]? with | some (some vs) => some (.cells vs false 0) | _ => none, fun i hi => by rw [List.getElem?_eq_none hi]⟩
theorem jcF {bs : List (Option (List AV))} {i : Nat} {vs : List AV} (h : bs[i]? = some (some vs)) : (argHeap bs).get i = some (.cells vs false 0) := by simp only [argHeap, h]
theorem jbD {bs : List (Option (List AV))} {i : Nat} {b : ABlk} (h : (argHeap bs).get i = some b) : ∃ vs, bs[i]? = some (some vs) ∧ b = .cells vs false 0 := by
 simp only [argHeap] at h
 split at h
 ·rename_i vs hv; cases h; exact ⟨vs, hv, rfl⟩
 ·cases h
theorem rel_args {C : Ctx} {env : Env} {w : World} (bs : List (Option (List AV))) (hlt : ∀ i vs, bs[i]? = some (some vs) → (env i).blk < w.heap.size ∧ (∀ v ∈ vs, v.bel (argHeap bs).ok) ∧
  ∀ k v, vs[k]? = some v → w.cell? ⟨(env i).blk, (env i).sh + k, none⟩ = some (v.val C.lk env)) : Rel C ⟨fun r => r < w.heap.size, fun _ => False⟩ env (argHeap bs) w := by
 refine ⟨?_, ?_, ?_, ?_, ?_, fun r hr => hr, ?_, fun r hr => hr.elim⟩
 ·intro i b hb
  obtain ⟨vs, hv, rfl⟩ := jbD hb
  exact (hlt i vs hv).1
 ·intro i b hb
  obtain ⟨vs, hv, rfl⟩ := jbD hb
  exact (hlt i vs hv).2.2
 ·intro i j b c hb hc hij hw
  obtain ⟨vs, hv, rfl⟩ := jbD hb
  cases hw
 ·intro i b hb
  obtain ⟨vs, hv, rfl⟩ := jbD hb
  exact (hlt i vs hv).2.1
 ·intro i b hb hw
  obtain ⟨vs, hv, rfl⟩ := jbD hb
  cases hw
 ·intro i b hb hd hf
  exact hf
structure InList where
 l : List Int
 nil : Bool
 blk : Nat
 off : Nat
 cap : Nat
def InList.val (x : InList) : Value := if x.nil then .slice none 0 0 else .slice (some ⟨x.blk, x.off, none⟩) x.l.length x.cap
def InList.av (x : InList) (i : Nat) : AV := if x.nil then .nilslice else .slice i 0 x.l.length (.known x.cap)
def InList.row (x : InList) : Option (List AV) := if x.nil then none else some (ints x.l)
def InList.eb (x : InList) : EB := ⟨x.blk, x.off, 0⟩
structure InList.ok (x : InList) (w : World) : Prop where
 isNil : x.nil = true → x.l = []
 cap : x.nil = false → x.l.length ≤ x.cap
 lt : x.l.length < 9223372036854775808
 blk : x.nil = false → x.blk < w.heap.size
 cell : ∀ k n, x.l[k]? = some n → w.cell? ⟨x.blk, x.off + k, none⟩ = some (.int .i64 n)
 num : ∀ n ∈ x.l, -9223372036854775808 ≤ n ∧ n ≤ 9223372036854775807
theorem wf_i64 {n : Int} (h : (Lit.int .i64 n).wf = true) : -9223372036854775808 ≤ n ∧ n ≤ 9223372036854775807 := by
 have : (decide (IntKind.i64.min ≤ n) && decide (n ≤ IntKind.i64.max)) = true := h
 simp only [Bool.and_eq_true, decide_eq_true_eq] at this
 exact this
theorem InList.ri {x : InList} {w : World} {bs : List (Option (List AV))} {i : Nat} (hx : x.ok w) (hi : bs[i]? = some x.row) : RI (argHeap bs) (x.av i) x.l := by
 unfold InList.av
 cases hn : x.nil with
 | true =>
  rw [hx.isNil hn, if_pos rfl]; exact RI.nil
 | false =>
  rw [if_neg (by simp)]
  refine RI.known (jcF (hi.trans ?_)) ⟨rfl, hx.lt⟩ (hx.cap hn)
  simp [InList.row, hn]
theorem InList.av_val {x : InList} {i : Nat} {lk : Nat → FuncId} {env : Env} (he : env i = x.eb) : (x.av i).val lk env = x.val := by
 unfold InList.av InList.val
 cases hn : x.nil with
 | true => rfl
 | false => simp [AV.val, he, InList.eb, Cap.at]
theorem InList.av_bel {x : InList} {w : World} {bs : List (Option (List AV))} {i : Nat} (hi : bs[i]? = some x.row) : (x.av i).bel (argHeap bs).ok := by
 unfold InList.av
 cases hn : x.nil with
 | true => trivial
 | false =>
  show (argHeap bs).ok i
  have : bs[i]? = some (some (ints x.l)) := hi.trans (by simp [InList.row, hn])
  simp [Heap.ok, jcF this]
theorem InList.rowOk {C : Ctx} {x : InList} {w : World} {bs : List (Option (List AV))} {env : Env} {i : Nat} {vs : List AV} (hx : x.ok w) (he : env i = x.eb) (hv : x.row = some vs) : (env i).blk < w.heap.size ∧ (∀ v ∈ vs, v.bel (argHeap bs).ok) ∧
  ∀ k v, vs[k]? = some v → w.cell? ⟨(env i).blk, (env i).sh + k, none⟩ = some (v.val C.lk env) := by
 unfold InList.row at hv
 split at hv
 ·cases hv
 ·rename_i hn
  cases hv
  rw [he]
  refine ⟨hx.blk (by simpa using hn), ?_, ?_⟩
  ·intro v hv
   obtain ⟨n, _, rfl⟩ := List.mem_map.1 hv
   trivial
  ·intro k v hk
   simp only [ints, List.getElem?_map, Option.map_eq_some_iff] at hk
   obtain ⟨n, hn, rfl⟩ := hk
   exact hx.cell k n hn
end Go.Ae
namespace Go.Ae
open Go.ChangeShapes Go.WideShapes Go.ChangeAt Go.RowKit
inductive Lf where
 | int (k : IntKind)
 | bool
 | ints
 deriving DecidableEq
def flatO (P : Program) (r : TypeId → Option (List Lf)) : List (TypeId × Nat) → Nat → Option (List Lf)
 | [], _ => some []
 | (t, o) :: fs, off => if o = off then match r t with
  | some ls => if P.cellsOf t = ls.length then (flatO P r fs (off + ls.length)).map (ls ++ ·) else none
  | none => none
  else none
def lfOf (P : Program) : Nat → TypeId → Option (List Lf)
 | 0, _ => none
 | n + 1, t => match P.underlying t with
  | some (.int k) => some [.int k]
  | some .bool => some [.bool]
  | some (.slice e) => match P.underlying e with
   | some (.int .i64) => if P.cellsOf e = 1 then some [.ints] else none
   | _ => none
  | some (.struct fs) => match flatO P (lfOf P n) (fs.toList.map fun f => (f.type, f.offset)) 0 with
   | some ls => if P.cellsOf t = ls.length then some ls else none
   | none => none
  | some (.array m e) => match flatO P (lfOf P n) ((List.range m).map fun i => (e, i * P.cellsOf e)) 0 with
   | some ls => if P.cellsOf t = ls.length then some ls else none
   | none => none
  | _ => none
def Fits (w : World) : List Lf → List Value → Prop
 | [], vs => vs = []
 | .int k :: ls, vs => ∃ n rest, vs = .int k n :: rest ∧ (Lit.int k n).wf = true ∧ Fits w ls rest
 | .bool :: ls, vs => ∃ b rest, vs = .bool b :: rest ∧ Fits w ls rest
 | .ints :: ls, vs => ∃ (x : InList) (rest : List Value), vs = x.val :: rest ∧ x.ok w ∧ Fits w ls rest
theorem Fits.append {w : World} : ∀ {ls ms : List Lf} {vs us : List Value}, Fits w ls vs → Fits w ms us → Fits w (ls ++ ms) (vs ++ us)
 | [], ms, vs, us, h, g => by cases h; exact g
 | .int k :: ls, ms, vs, us, ⟨n, rest, e, a, b⟩, g => ⟨n, rest ++ us, by rw [e]; rfl, a, b.append g⟩
 | .bool :: ls, ms, vs, us, ⟨n, rest, e, b⟩, g => ⟨n, rest ++ us, by rw [e]; rfl, b.append g⟩
 | .ints :: ls, ms, vs, us, ⟨n, rest, e, a, b⟩, g => ⟨n, rest ++ us, by rw [e]; rfl, a, b.append g⟩
def Side (w : World) (cs : List Value) : Prop := ∀ a len cap, Value.slice (some a) len cap ∈ cs → a.spot = none ∧ a.block < w.heap.size
theorem Side.part {w : World} {cs : List Value} (h : Side w cs) (a b : Nat) : Side w ((cs.drop a).take b) := fun x len cap hx => h x len cap (List.mem_of_mem_drop (List.mem_of_mem_take hx))
section
variable {H : Type} {enc : TypeId × Value → H} {P : Program} {w : World}
theorem jnQ {t e : TypeId} {fuel : Nat} {cs : List Value} {x : DataW H × List MemPlace} (ht : P.underlying t = some (.slice e)) (he : P.underlying e = some (.int .i64)) (hc : P.cellsOf e = 1)
  (hs : Side w cs) (hf : DataW.trod enc P w 0 (fun _ => true) true fuel t cs = some x) : ∃ x : InList, cs = [x.val] ∧ x.ok w := by
 rcases open_ints ht he hc hf with ⟨rfl, _⟩ | ⟨a, len', cap', zs, rfl, _, hl, hm, hz, _, hcell, hwz⟩
 ·exact ⟨⟨[], true, 0, 0, 0⟩, rfl, ⟨fun _ => rfl, fun h => (by cases h), by simp, fun h => (by cases h), by simp, by simp⟩⟩
 ·have hlen : zs.length = cap' := by simpa using hz
  obtain ⟨hspot, hblk⟩ := hs a len' cap' (by simp)
  have hmax : cap' ≤ 9223372036854775807 := hm
  obtain ⟨ab, ao, asp⟩ := a
  simp only at hspot hblk
  subst hspot
  have hlt : (zs.take len').length = len' := by simp; omega
  refine ⟨⟨zs.take len', false, ab, ao, cap'⟩, ?_, ⟨fun h => (by cases h), fun _ => (by rw [hlt]; exact hl), (by rw [hlt]; omega), fun _ => hblk, ?_, ?_⟩⟩
  ·simp only [InList.val, Bool.false_eq_true, if_false, hlt]
  ·intro k n hk
   rw [List.getElem?_take] at hk
   split at hk
   ·rename_i hkl
    have h2 : k < zs.length := by omega
    have := hcell k h2
    rw [List.getD_eq_getElem?_getD, hk] at this
    by_cases hk0 : k = 0
    ·subst hk0; simpa [Addr.add] using this
    ·simpa [Addr.add, hk0] using this
   ·cases hk
  ·intro n hn
   exact wf_i64 (hwz n (List.mem_of_mem_take hn))
theorem jfJ {r : TypeId → Option (List Lf)} {cs : List Value} {m : Nat}
  (hr : ∀ t ls cs' x, r t = some ls → (Lf.ints ∈ ls → Side w cs') → DataW.trod enc P w 0 (fun _ => true) true m t cs' = some x → Fits w ls cs') :
  ∀ (fs : List (TypeId × Nat)) (off : Nat) (ls : List Lf), flatO P r fs off = some ls → (Lf.ints ∈ ls → Side w cs) →
   (∀ f ∈ fs, ∃ x, DataW.trod enc P w 0 (fun _ => true) true m f.1 ((cs.drop f.2).take (P.cellsOf f.1)) = some x) → Fits w ls ((cs.drop off).take ls.length)
 | [], off, ls, h, _, _ => by cases h; rfl
 | (t, o) :: fs, off, ls, h, hs, hx => by
  unfold flatO at h
  split at h
  ·rename_i ho
   subst ho
   split at h
   ·rename_i l1 h1
    split at h
    ·rename_i hc
     simp only [Option.map_eq_some_iff] at h
     obtain ⟨l2, h2, rfl⟩ := h
     obtain ⟨x, hxx⟩ := hx (t, o) (by simp)
     have f1 := hr t l1 _ x h1 (fun hm => (hs (List.mem_append_left _ hm)).part _ _) hxx
     have f2 := jfJ hr fs _ l2 h2 (fun hm => hs (List.mem_append_right _ hm)) (fun f hf => hx f (by simp [hf]))
     have := f1.append f2
     simp only at this
     rw [hc, ← List.drop_drop, ← List.take_add] at this
     rw [List.length_append]
     exact this
    ·cases h
   ·cases h
  ·cases h
theorem jhr : ∀ (n : Nat) (t : TypeId) (ls : List Lf) (cs : List Value) (fuel : Nat) (x : DataW H × List MemPlace), lfOf P n t = some ls → (Lf.ints ∈ ls → Side w cs) → DataW.trod enc P w 0 (fun _ => true) true fuel t cs = some x → Fits w ls cs
 | 0, t, ls, cs, fuel, x, h, _, _ => by cases h
 | n + 1, t, ls, cs, fuel, x, h, hs, hx => by
  unfold lfOf at h
  split at h
  ·rename_i k hk
   cases h
   obtain ⟨m, rfl, _, hw⟩ := DataW.trod_int hk hx
   exact ⟨m, [], rfl, hw, rfl⟩
  ·rename_i hk
   cases h
   obtain ⟨b, rfl, _⟩ := DataW.trod_bool hk hx
   exact ⟨b, [], rfl, rfl⟩
  ·rename_i e hk
   split at h
   ·rename_i he
    split at h
    ·rename_i hc
     cases h
     obtain ⟨y, rfl, hy⟩ := jnQ hk he hc (hs (by simp)) hx
     exact ⟨y, [], rfl, hy, rfl⟩
    ·cases h
   ·cases h
  ·rename_i fs hk
   obtain ⟨xs, m, _, _, hl, hn, hf⟩ := DataW.trod_struct hk hx
   split at h
   ·rename_i l1 h1
    split at h
    ·rename_i hc
     cases h
     have := jfJ (m := m) (fun t ls cs' x => jhr n t ls cs' m x) _ 0 _ h1 hs (by
      intro f hfm
      obtain ⟨g, hg, rfl⟩ := List.mem_map.1 hfm
      obtain ⟨i, hi⟩ := List.getElem?_of_mem hg
      have hi' : fs[i]? = some g := by simpa using hi
      have hlt : i < xs.length := by rw [hn]; exact (Array.getElem?_eq_some_iff.1 hi').1
      exact ⟨xs[i], (hf i g hi').trans (List.getElem?_eq_getElem hlt)⟩)
     rw [List.drop_zero, List.take_of_length_le (by omega)] at this
     exact this
    ·cases h
   ·cases h
  ·rename_i k e hk
   obtain ⟨xs, m, _, _, hl, hn, hf⟩ := DataW.trod_array hk hx
   split at h
   ·rename_i l1 h1
    split at h
    ·rename_i hc
     cases h
     have := jfJ (m := m) (fun t ls cs' x => jhr n t ls cs' m x) _ 0 _ h1 hs (by
      intro f hfm
      obtain ⟨i, hi, rfl⟩ := List.mem_map.1 hfm
      have hi' : i < k := by simpa using hi
      have hlt : i < xs.length := by omega
      exact ⟨xs[i], (hf i hi').trans (List.getElem?_eq_getElem hlt)⟩)
     rw [List.drop_zero, List.take_of_length_le (by omega)] at this
     exact this
    ·cases h
   ·cases h
  ·cases h
theorem jir {t : TypeId} {a : Addr} {len cap b0 : Nat} (h : Cell.okWide P w .any b0 t (.slice (some a) len cap)) : a.spot = none ∧ a.block < w.heap.size := by
 have key : ∀ e, World.has P w .any b0 a e cap → a.spot = none ∧ a.block < w.heap.size := by
  rintro e ⟨_, hsp, row, cells, hsh, _⟩
  refine ⟨hsp, ?_⟩
  unfold World.shape? at hsh
  rcases Nat.lt_or_ge a.block w.heap.size with h | h
  ·exact h
  ·rw [Array.getElem?_eq_none h] at hsh; cases hsh
 unfold Cell.okWide at h
 cases hu : P.underlying t with
 | none => rw [hu] at h; simp [Cell.ok, hu] at h
 | some u =>
  rw [hu] at h
  cases u with
  | slice e => simp only [Cell.ok, hu] at h; exact key e h.2.2
  | _ => simp [Cell.ok, hu] at h
theorem open_struct {b0 n : Nat} {t : TypeId} {v : Value} {d : DataW H} {ps : List MemPlace} {ls : List Lf} {fs : Array Field} (hk : P.underlying t = some (.struct fs)) (hl : lfOf P n t = some ls)
  (hval : Value.okWide P w .any b0 t v) (hd : DataW.Trod enc P w 0 (fun _ => true) true t v d ps) : ∃ cs : List Value, v = .agg cs.toArray ∧ Fits w ls cs := by
 obtain ⟨fuel, hf⟩ := hd
 unfold Value.okWide at hval
 rw [hk] at hval
 obtain ⟨cs, rfl, _, ts, _, _, hrow⟩ := hval
 refine ⟨cs.toList, by simp, ?_⟩
 refine jhr n t ls cs.toList fuel _ hl (fun _ => ?_) hf
 intro a len cap hm
 obtain ⟨i, hi⟩ := List.getElem?_of_mem hm
 have hi' : cs[i]? = some (.slice (some a) len cap) := by simpa using hi
 obtain ⟨u, _, hu⟩ := hrow i _ hi'
 exact jir hu
end
/-! ### Lists of samples -/
def smps (l : List (Int × Int)) : List AV := l.flatMap fun p => [.int .i64 p.1, .int .i64 p.2]
theorem jaW {p : Int × Int} {l : List (Int × Int)} : smps (p :: l) = .int .i64 p.1 :: .int .i64 p.2 :: smps l := rfl
theorem jaG {l : List (Int × Int)} : (smps l).length = l.length * 2 := by
 induction l with
 | nil => rfl
 | cons p l ih => rw [jaW, List.length_cons, List.length_cons, List.length_cons, ih]; omega
theorem jd9 : ∀ {l : List (Int × Int)} {k : Nat}, (smps l)[k * 2]? = (l[k]?).map fun p => .int .i64 p.1
 | [], k => by simp [smps]
 | p :: l, 0 => rfl
 | p :: l, k + 1 => by rw [jaW, show (k + 1) * 2 = k * 2 + 1 + 1 by omega, List.getElem?_cons_succ, List.getElem?_cons_succ, List.getElem?_cons_succ]; exact jd9
theorem jea : ∀ {l : List (Int × Int)} {k : Nat}, (smps l)[k * 2 + 1]? = (l[k]?).map fun p => .int .i64 p.2
 | [], k => by simp [smps]
 | p :: l, 0 => rfl
 | p :: l, k + 1 => by rw [jaW, show (k + 1) * 2 + 1 = k * 2 + 1 + 1 + 1 by omega, List.getElem?_cons_succ, List.getElem?_cons_succ, List.getElem?_cons_succ]; exact jea
theorem jjO {l m : List (Int × Int)} : smps l ++ smps m = smps (l ++ m) := by simp [smps]
theorem jfK {l : List (Int × Int)} {x y : Int} : smps l ++ [.int .i64 x, .int .i64 y] = smps (l ++ [(x, y)]) := by rw [← jjO]; rfl
def SI (h : Heap) (v : AV) (l : List (Int × Int)) : Prop := SL h 2 v l.length (smps l)
structure InSmp where
 l : List (Int × Int)
 nil : Bool
 blk : Nat
 off : Nat
 cap : Nat
def InSmp.val (x : InSmp) : Value := if x.nil then .slice none 0 0 else .slice (some ⟨x.blk, x.off, none⟩) x.l.length x.cap
def InSmp.av (x : InSmp) (i : Nat) : AV := if x.nil then .nilslice else .slice i 0 x.l.length (.known x.cap)
def InSmp.row (x : InSmp) : Option (List AV) := if x.nil then none else some (smps x.l)
def InSmp.eb (x : InSmp) : EB := ⟨x.blk, x.off, 0⟩
structure InSmp.ok (x : InSmp) (w : World) : Prop where
 isNil : x.nil = true → x.l = []
 cap : x.nil = false → x.l.length ≤ x.cap
 lt : x.l.length < 9223372036854775808
 blk : x.nil = false → x.blk < w.heap.size
 cell : ∀ k p, x.l[k]? = some p → w.cell? ⟨x.blk, x.off + k * 2, none⟩ = some (.int .i64 p.1) ∧ w.cell? ⟨x.blk, x.off + k * 2 + 1, none⟩ = some (.int .i64 p.2)
 num : ∀ p ∈ x.l, (-9223372036854775808 ≤ p.1 ∧ p.1 ≤ 9223372036854775807) ∧ (-9223372036854775808 ≤ p.2 ∧ p.2 ≤ 9223372036854775807)
theorem jfL {α : Type} {Q : Nat → α → Prop} : ∀ (n : Nat), (∀ i, i < n → ∃ a, Q i a) → ∃ l : List α, l.length = n ∧ ∀ i a, l[i]? = some a → Q i a
 | 0, _ => ⟨[], rfl, by simp⟩
 | n + 1, h => by
  obtain ⟨l, hl, hq⟩ := jfL n (fun i hi => h i (by omega))
  obtain ⟨a, ha⟩ := h n (by omega)
  refine ⟨l ++ [a], by simp [hl], fun i b hb => ?_⟩
  rcases Nat.lt_or_ge i n with x | x
  ·rw [List.getElem?_append_left (by omega)] at hb; exact hq i b hb
  ·have hi : i = n := by
    have := (List.getElem?_eq_some_iff.1 hb).1
    rw [List.length_append, hl] at this
    simp at this; omega
   subst hi
   rw [List.getElem?_append_right (by omega), hl, Nat.sub_self] at hb
   cases hb; exact ha
theorem jnR {w : World} {a : Addr} {cs : List Value} (h : w.cells? 0 a 2 = some cs) : ∃ x y, cs = [x, y] ∧ w.cell? (a.add 0) = some x ∧ w.cell? (a.add 1) = some y := by
 unfold World.cells? at h
 rw [if_pos (Nat.zero_le _)] at h
 simp only [List.range, List.range.loop, List.mapM_cons, List.mapM_nil, Option.bind_eq_bind, Option.bind_eq_some_iff] at h
 obtain ⟨x, hx, z, ⟨y, hy, z', hz', e2⟩, e3⟩ := h
 cases hz'; cases e2; cases e3
 exact ⟨x, y, rfl, hx, hy⟩
section
variable {H : Type} {enc : TypeId × Value → H} {P : Program} {w : World}
theorem open_smps {b0 n : Nat} {t e : TypeId} {v : Value} {d : DataW H} {ps : List MemPlace} (ht : P.underlying t = some (.slice e)) (he : lfOf P n e = some [.int .i64, .int .i64]) (hc : P.cellsOf e = 2)
  (hval : Value.okWide P w .any b0 t v) (hd : DataW.Trod enc P w 0 (fun _ => true) true t v d ps) : ∃ x : InSmp, v = x.val ∧ x.ok w := by
 have hval' := hval
 obtain ⟨a0, len, cap, rfl⟩ := okWide_slice ht hval
 obtain ⟨fuel, hf⟩ := hd
 rcases DataW.trod_slice ht hf with ⟨hcs, _⟩ | ⟨a, len', cap', elems, rest, m, _, hcs, _, _, hl, hm, hlen, hel, hsp, _⟩
 ·simp only [Value.cells, Array.toList] at hcs
  cases hcs
  exact ⟨⟨[], true, 0, 0, 0⟩, rfl, ⟨fun _ => rfl, fun h => (by cases h), by simp, fun h => (by cases h), by simp, by simp⟩⟩
 ·simp only [Value.cells, Array.toList] at hcs
  cases hcs
  unfold Value.okWide at hval'
  rw [ht] at hval'
  obtain ⟨hspot, hblk⟩ := jir (P := P) (t := t) hval'
  have hmax : cap ≤ 9223372036854775807 := hm
  obtain ⟨ab, ao, asp⟩ := a
  simp only at hspot hblk
  subst hspot
  have hadd : ∀ o k, Addr.add ⟨ab, o, none⟩ k = ⟨ab, o + k, none⟩ := by intro o k; unfold Addr.add; split <;> simp_all
  have each : ∀ i, i < len → ∃ p : Int × Int, (w.cell? ⟨ab, ao + i * 2, none⟩ = some (.int .i64 p.1) ∧ w.cell? ⟨ab, ao + i * 2 + 1, none⟩ = some (.int .i64 p.2)) ∧
    (-9223372036854775808 ≤ p.1 ∧ p.1 ≤ 9223372036854775807) ∧ (-9223372036854775808 ≤ p.2 ∧ p.2 ≤ 9223372036854775807) := by
   intro i hi
   have q := hel i hi
   have hlt : i < elems.length := by omega
   rw [List.getElem?_eq_getElem hlt, hc, Option.bind_eq_some_iff] at q
   obtain ⟨cs, hcs, htr⟩ := q
   obtain ⟨x, y, rfl, hx, hy⟩ := jnR hcs
   rw [hadd, hadd] at hx hy
   obtain ⟨u, _, e1, w1, z, _, e2, w2, e3⟩ := jhr n e _ _ _ _ he (fun hm => absurd hm (by decide)) htr
   cases e1; cases e2
   exact ⟨(u, z), ⟨by simpa using hx, by simpa [Nat.add_assoc] using hy⟩, wf_i64 w1, wf_i64 w2⟩
  obtain ⟨l, hll, hq⟩ := jfL len each
  refine ⟨⟨l, false, ab, ao, cap⟩, ?_, ⟨fun h => (by cases h), fun _ => (by rw [hll]; exact hl), (by rw [hll]; omega), fun _ => hblk, fun k p hk => (hq k p hk).1, ?_⟩⟩
  ·simp only [InSmp.val, Bool.false_eq_true, if_false, hll]
  ·intro p hp
   obtain ⟨i, hi⟩ := List.getElem?_of_mem hp
   exact (hq i p hi).2
end
theorem SI.known {h : Heap} {l : List (Int × Int)} {i : Nat} {wr : Bool} {u c m : Nat} (hg : h.get i = some (.cells (smps l) wr u)) (hm : m = l.length ∧ m < 9223372036854775808) (hc : m ≤ c) : SI h (.slice i 0 m (.known c)) l := by
 obtain ⟨rfl, hm⟩ := hm
 refine ⟨jaG, hm, .inr ⟨i, 0, _, _, wr, u, rfl, hg, by rw [jaG]; omega, ?_, hc⟩⟩
 exact jhk (by rw [jaG])
theorem SI.nil {h : Heap} : SI h .nilslice [] := ⟨rfl, by decide, .inl ⟨rfl, rfl⟩⟩
theorem InSmp.ri {x : InSmp} {w : World} {bs : List (Option (List AV))} {i : Nat} (hx : x.ok w) (hi : bs[i]? = some x.row) : SI (argHeap bs) (x.av i) x.l := by
 unfold InSmp.av
 cases hn : x.nil with
 | true =>
  rw [hx.isNil hn, if_pos rfl]; exact SI.nil
 | false =>
  rw [if_neg (by simp)]
  refine SI.known (jcF (hi.trans ?_)) ⟨rfl, hx.lt⟩ (hx.cap hn)
  simp [InSmp.row, hn]
theorem InSmp.av_val {x : InSmp} {i : Nat} {lk : Nat → FuncId} {env : Env} (he : env i = x.eb) : (x.av i).val lk env = x.val := by
 unfold InSmp.av InSmp.val
 cases hn : x.nil with
 | true => rfl
 | false => simp [AV.val, he, InSmp.eb, Cap.at]
theorem InSmp.av_bel {x : InSmp} {w : World} {bs : List (Option (List AV))} {i : Nat} (hi : bs[i]? = some x.row) : (x.av i).bel (argHeap bs).ok := by
 unfold InSmp.av
 cases hn : x.nil with
 | true => trivial
 | false =>
  show (argHeap bs).ok i
  have : bs[i]? = some (some (smps x.l)) := hi.trans (by simp [InSmp.row, hn])
  simp [Heap.ok, jcF this]
theorem InSmp.rowOk {C : Ctx} {x : InSmp} {w : World} {bs : List (Option (List AV))} {env : Env} {i : Nat} {vs : List AV} (hx : x.ok w) (he : env i = x.eb) (hv : x.row = some vs) : (env i).blk < w.heap.size ∧ (∀ v ∈ vs, v.bel (argHeap bs).ok) ∧
  ∀ k v, vs[k]? = some v → w.cell? ⟨(env i).blk, (env i).sh + k, none⟩ = some (v.val C.lk env) := by
 unfold InSmp.row at hv
 split at hv
 ·cases hv
 ·rename_i hn
  cases hv
  rw [he]
  refine ⟨hx.blk (by simpa using hn), ?_, ?_⟩
  ·intro v hv
   obtain ⟨p, _, hp⟩ := List.mem_flatMap.1 hv
   simp only [List.mem_cons, List.not_mem_nil, or_false] at hp
   rcases hp with rfl | rfl <;> trivial
  ·intro k v hk
   rcases Nat.mod_two_eq_zero_or_one k with e | e
   ·obtain ⟨j, rfl⟩ : ∃ j, k = j * 2 := ⟨k / 2, by omega⟩
    rw [jd9, Option.map_eq_some_iff] at hk
    obtain ⟨p, hp, rfl⟩ := hk
    exact (hx.cell j p hp).1
   ·obtain ⟨j, rfl⟩ : ∃ j, k = j * 2 + 1 := ⟨k / 2, by omega⟩
    rw [jea, Option.map_eq_some_iff] at hk
    obtain ⟨p, hp, rfl⟩ := hk
    exact (hx.cell j p hp).2
end Go.Ae
namespace Go.Ae
theorem wpPre :
  (∀ {C : Ctx} {nt : Nat} {rd : Option Nat} {a b : ACode} {Q : Out → St → Prop} {st : St}, @Eq Prop (wp C nt rd (ACode.seq a b) Q st) (wp C nt rd a (thenO (wp C nt rd b Q) Q) st)) ∧
  (∀ {C : Ctx} {nt : Nat} {rd : Option Nat} {ops : List AOper} {Q : Out → St → Prop} {st : St}, @Eq Prop (wp C nt rd (ACode.region ops) Q st) (wpOps C ops (Q Out.normal) st)) ∧
  (∀ {C : Ctx} {nt : Nat} {rd : Option Nat} {n : Nat} {ds : List DItem} {Q : Out → St → Prop} {st : St}, @Eq Prop (wp C nt rd (ACode.draw n ds) Q st) (jd3 C n ds (Q Out.normal) st)) ∧
  (∀ {C : Ctx} {nt : Nat} {rd : Option Nat} {c : AOpd} {a b : ACode} {Q : Out → St → Prop} {st : St}, @Eq Prop (wp C nt rd (ACode.cond c a b) Q st) (@condV (AOpd.ev (St.t st) c) (Hold.mk (wp C nt rd a Q st)) (Hold.mk (wp C nt rd b Q st)))) ∧
  (∀ {C : Ctx} {nt : Nat} {rd : Option Nat} {id : Nat} {c : ACode} {Q : Out → St → Prop} {st : St}, @Eq Prop (wp C nt rd (ACode.block id c) Q st) (wp C nt rd c (jbb id Q) st)) ∧
  (∀ {C : Ctx} {nt : Nat} {rd : Option Nat} {Q : Out → St → Prop} {st : St}, @Eq Prop (wp C nt rd ACode.skip Q st) (Q Out.normal st)) ∧
  (∀ {C : Ctx} {nt : Nat} {rd : Option Nat} {id : Nat} {Q : Out → St → Prop} {st : St}, @Eq Prop (wp C nt rd (ACode.exit id) Q st) (Q (Out.exit id) st)) ∧
  (∀ {C : Ctx} {nt : Nat} {rd : Option Nat} {Q : Out → St → Prop} {st : St}, @Eq Prop (wp C nt rd ACode.ret Q st) (Q Out.ret st)) ∧
  (∀ {C : Ctx} {nt : Nat} {rd : Option Nat} {f : AOpd} {ps : List Nat} {a b : ACode} {Q : Out → St → Prop} {st : St}, @Eq Prop (wp C nt rd (ACode.rangeFunc f ps a b) Q st) (jcA C nt rd (AOpd.ev (St.t st) f) ps a b Q st)) ∧
  (∀ {K : St → Prop} {Q : Out → St → Prop} {st : St}, @Eq Prop (thenO K Q Out.normal st) (K st)) ∧
  (∀ {K : St → Prop} {Q : Out → St → Prop} {id : Nat} {st : St}, @Eq Prop (thenO K Q (Out.exit id) st) (Q (Out.exit id) st)) ∧
  (∀ {K : St → Prop} {Q : Out → St → Prop} {st : St}, @Eq Prop (thenO K Q Out.ret st) (Q Out.ret st)) ∧
  (∀ {i : Nat} {Q : Out → St → Prop} {st : St}, @Eq Prop (jbb i Q (Out.exit i) st) (Q Out.normal st)) ∧
  (∀ {i j : Nat} {Q : Out → St → Prop} {st : St}, @Eq Bool (@BEq.beq Nat (@instBEqOfDecidableEq Nat instDecidableEqNat) j i) false → @Eq Prop (jbb i Q (Out.exit j) st) (Q (Out.exit j) st)) ∧
  (∀ {i : Nat} {Q : Out → St → Prop} {st : St}, @Eq Prop (jbb i Q Out.normal st) (Q Out.normal st)) ∧
  (∀ {i : Nat} {Q : Out → St → Prop} {st : St}, @Eq Prop (jbb i Q Out.ret st) (Q Out.ret st)) ∧
  (∀ {C : Ctx} {K : St → Prop} {st : St}, @Eq Prop (wpOps C (@List.nil AOper) K st) (K st)) ∧
  (∀ {C : Ctx} {d : Option Nat} {op : AOp} {os : List AOper} {K : St → Prop} {st : St}, @Eq Prop (wpOps C (@List.cons AOper (AOper.mk d op (@none (Prod Nat Bool))) os) K st) (wpOp C (@none Nat) (AOper.mk d op (@none (Prod Nat Bool))) (wpOps C os K) st)) ∧
  (∀ {C : Ctx} {d : Option Nat} {op : AOp} {s : Nat} {w : Bool} {os : List AOper} {K : St → Prop} {st : St}, @Eq Prop (wpOps C (@List.cons AOper (AOper.mk d op (@some (Prod Nat Bool) (@Prod.mk Nat Bool s w))) os) K st) (@gV (St.t st s) w (Hold.mk (wpOp C (@none Nat) (AOper.mk d op (@some (Prod Nat Bool) (@Prod.mk Nat Bool s w))) (wpOps C os K) st)) (Hold.mk (wpOps C os K (St.put st d AV.undef))))) ∧
  (∀ {C : Ctx} {nid d : Option Nat} {f : AOpd} {args : List AOpd} {g : Option (Prod Nat Bool)} {K : St → Prop} {st : St}, @Eq Prop (wpOp C nid (AOper.mk d (AOp.call f args) g) K st) (@Call C (AOpd.ev (St.t st) f) (@List.map AOpd AV (AOpd.ev (St.t st)) args) (St.h st) (HoldR.mk fun r h' => K (St.put (St.mk (St.t st) h' (St.m st)) d r)))) ∧
  (∀ {C : Ctx} {nid d : Option Nat} {op : AOp} {g : Option (Prod Nat Bool)} {K : St → Prop} {st : St}, @Eq Bool (AOp.isCall op) false → @Eq Prop (wpOp C nid (AOper.mk d op g) K st) (@opR nid op (AOpd.ev (St.t st)) (St.h st) (HoldR.mk fun v h' => K (St.put (St.mk (St.t st) h' (St.m st)) d v)))) ∧
  (∀ {t : Nat → AV} {h : Heap} {m : List Nat} {s : Nat} {v : AV}, @Eq St (St.put (St.mk t h m) (@some Nat s) v) (St.mk (upd t s v) h m)) ∧
  (∀ {t : Nat → AV} {h : Heap} {m : List Nat} {v : AV}, @Eq St (St.put (St.mk t h m) (@none Nat) v) (St.mk t h m)) ∧
  (∀ {C : Ctx} {ds : List DItem} {K : St → Prop} {st : St}, @Eq Prop (jd3 C (@OfNat.ofNat Nat (nat_lit 0) (instOfNatNat (nat_lit 0))) ds K st) (wpD C (Heap.size (St.h st)) ds (@List.nil (Prod Nat (Prod (List Nat) (List Nat)))) K st)) ∧
  (∀ {C : Ctx} {n : Nat} {ds : List DItem} {K : St → Prop} {t : Nat → AV} {h : Heap} {m : List Nat}, @Eq Bool (@BEq.beq Nat (@instBEqOfDecidableEq Nat instDecidableEqNat) n (@OfNat.ofNat Nat (nat_lit 0) (instOfNatNat (nat_lit 0)))) false → @Eq Prop (jd3 C n ds K (St.mk t h m)) (wpD C (Heap.size h) ds (@List.nil (Prod Nat (Prod (List Nat) (List Nat)))) K (St.mk t (Heap.reserve h n) m))) ∧
  (∀ {res : List ARes} {Post : AV → Heap → Prop} {t : Nat → AV} {h : Heap} {i : Nat} {m : List Nat}, @Eq Prop (retO res Post Out.ret (St.mk t h (@List.cons Nat i m))) (@je3 (Heap.get h i) (Hold.mk (retO res Post Out.ret (St.mk t (Heap.put h i (ABlk.defd false)) m))))) ∧
  (∀ {res : List ARes} {Post : AV → Heap → Prop} {t : Nat → AV} {h : Heap} {i : Nat} {m : List Nat}, @Eq Prop (retO res Post Out.normal (St.mk t h (@List.cons Nat i m))) (@je3 (Heap.get h i) (Hold.mk (retO res Post Out.normal (St.mk t (Heap.put h i (ABlk.defd false)) m))))) ∧
  (∀ {C : Ctx} {nt l : Nat} {body : ACode} {Post : AV → Heap → Prop} {st : St}, @Eq Prop (jih C nt l body Post Out.normal st) (@jco (Heap.get (St.h st) l) (HoldL.mk fun r => And (@Eq LoopState (ALoop.state r) LoopState.ready) (wp C nt (@some Nat l) body (jb6 l Post) (St.mk (St.t st) (Heap.put (St.h st) l (ABlk.loop (ALoop.mk LoopState.busy (ALoop.pend r) (ALoop.t r) (ALoop.nt r) (ALoop.params r) (ALoop.assign r) (ALoop.body r) (ALoop.defers r)))) (St.m st)))))) ∧
  (∀ {l : Nat} {Post : AV → Heap → Prop} {st : St}, @Eq Prop (jb6 l Post Out.normal st) (@jco (Heap.get (St.h st) l) (HoldL.mk fun r => Post (AV.bool true) (Heap.put (St.h st) l (ABlk.loop (ALoop.mk LoopState.ready (@none Out) (ALoop.t r) (ALoop.nt r) (ALoop.params r) (ALoop.assign r) (ALoop.body r) (ALoop.defers r))))))) ∧
  (∀ {l i : Nat} {Post : AV → Heap → Prop} {st : St}, @Eq Prop (jb6 l Post (Out.exit i) st) (@jco (Heap.get (St.h st) l) (HoldL.mk fun r => Post (AV.bool false) (Heap.put (St.h st) l (ABlk.loop (ALoop.mk LoopState.done (@some Out (Out.exit i)) (ALoop.t r) (ALoop.nt r) (ALoop.params r) (ALoop.assign r) (ALoop.body r) (ALoop.defers r))))))) ∧
  (∀ {l : Nat} {Post : AV → Heap → Prop} {st : St}, @Eq Prop (jb6 l Post Out.ret st) (@jco (Heap.get (St.h st) l) (HoldL.mk fun r => Post (AV.bool false) (Heap.put (St.h st) l (ABlk.loop (ALoop.mk LoopState.done (@some Out Out.ret) (ALoop.t r) (ALoop.nt r) (ALoop.params r) (ALoop.assign r) (ALoop.body r) (ALoop.defers r))))))) ∧
  (∀ {C : Ctx} {base : Nat} {acc : Acc} {K : St → Prop} {st : St}, @Eq Prop (wpD C base (@List.nil DItem) acc K st) (K st)) ∧
  (∀ {C : Ctx} {base k : Nat} {mem : Bool} {ck : List Nat} {d : Option Nat} {op : AOp} {s : Nat} {w : Bool} {ds : List DItem} {acc : Acc} {K : St → Prop} {st : St}, @Eq Prop (wpD C base (@List.cons DItem (DItem.mk k mem ck (AOper.mk d op (@some (Prod Nat Bool) (@Prod.mk Nat Bool s w)))) ds) acc K st) (@gV (St.t st s) w (Hold.mk (wpD C base (@List.cons DItem (DItem.mk k mem ck (AOper.mk d op (@none (Prod Nat Bool)))) ds) acc K st)) (Hold.mk (wpD C base ds acc K (St.put st d AV.undef))))) ∧
  (∀ {C : Ctx} {base k : Nat} {ck : List Nat} {d : Option Nat} {op : AOp} {ds : List DItem} {acc : Acc} {K : St → Prop} {st : St}, @Eq Bool (AOp.isCall op) false → @Eq Prop (wpD C base (@List.cons DItem (DItem.mk k false ck (AOper.mk d op (@none (Prod Nat Bool)))) ds) acc K st) (And (chkP acc ck op (AOpd.ev (St.t st)) (@HAdd.hAdd Nat Nat Nat (@instHAdd Nat instAddNat) base k)) (@opR (@some Nat (@HAdd.hAdd Nat Nat Nat (@instHAdd Nat instAddNat) base k)) op (AOpd.ev (St.t st)) (St.h st) (HoldR.mk fun v h' => wpD C base ds acc K (St.put (St.mk (St.t st) h' (St.m st)) d v))))) ∧
  (∀ {C : Ctx} {base k : Nat} {ck : List Nat} {d : Option Nat} {op : AOp} {ds : List DItem} {acc : Acc} {K : St → Prop} {st : St}, @Eq Bool (AOp.isCall op) false → @Eq Prop (wpD C base (@List.cons DItem (DItem.mk k true ck (AOper.mk d op (@none (Prod Nat Bool)))) ds) acc K st) (And (chkP acc ck op (AOpd.ev (St.t st)) (@HAdd.hAdd Nat Nat Nat (@instHAdd Nat instAddNat) base k)) (@opR (@some Nat (@HAdd.hAdd Nat Nat Nat (@instHAdd Nat instAddNat) base k)) op (AOpd.ev (St.t st)) (St.h st) (HoldR.mk fun v h' => wpD C base ds (@List.cons (Prod Nat (Prod (List Nat) (List Nat))) (@Prod.mk Nat (Prod (List Nat) (List Nat)) k (@Prod.mk (List Nat) (List Nat) (footA op (AOpd.ev (St.t st)) (@HAdd.hAdd Nat Nat Nat (@instHAdd Nat instAddNat) base k)) (wrA op (AOpd.ev (St.t st)) (@HAdd.hAdd Nat Nat Nat (@instHAdd Nat instAddNat) base k)))) acc) K (St.put (St.mk (St.t st) h' (St.m st)) d v))))) ∧
  (∀ {C : Ctx} {base k : Nat} {mem : Bool} {ck : List Nat} {d : Option Nat} {f : AOpd} {args : List AOpd} {ds : List DItem} {acc : Acc} {K : St → Prop} {st : St}, @Eq Prop (wpD C base (@List.cons DItem (DItem.mk k mem ck (AOper.mk d (AOp.call f args) (@none (Prod Nat Bool)))) ds) acc K st) (@Call C (AOpd.ev (St.t st) f) (@List.map AOpd AV (AOpd.ev (St.t st)) args) (St.h st) (HoldR.mk fun r h' => And (chkS acc ck (St.h st) h') (wpD C base ds acc K (St.put (St.mk (St.t st) h' (St.m st)) d r))))) :=
 ⟨@jrM,
   @jmX,
   @jqr,
   @jqs,
   @joU,
   @jqt,
   @jqu,
   @jrN,
   @joV,
   @jik,
   @jlo,
   @jmY,
   @jju,
   @jil,
   @jhe,
   @jlp,
   @jm1,
   @jlr,
   @jjw,
   @jm4,
   @jqw,
   @jo0,
   @jo1,
   @jjx,
   @jjy,
   @jlP,
   @jjN,
   @jho,
   @jhp,
   @jjL,
   @jlO,
   @jqx,
   @jm5,
   @jrQ,
   @jqy,
   @jo6⟩
theorem jaq :
  (∀ {h : Heap} {nid : Option Nat} {sz bytes i o n c m : Nat} {news : List AV}, @Ne Nat m (@OfNat.ofNat Nat (nat_lit 0) (instOfNatNat (nat_lit 0))) → @Eq (Option (Prod AV Heap)) (jah h nid sz bytes (AV.slice i o n (Cap.known c)) m news) (appKB h nid sz bytes i o n c m news (Heap.get h i))) ∧
  (∀ {h : Heap} {sz bytes i o n c m : Nat} {news vs : List AV} {u : Nat}, @LE.le Nat instLENat (@HAdd.hAdd Nat Nat Nat (@instHAdd Nat instAddNat) o (@HMul.hMul Nat Nat Nat (@instHMul Nat instMulNat) n sz)) (@List.length AV vs) → @LT.lt Nat instLTNat c (@HAdd.hAdd Nat Nat Nat (@instHAdd Nat instAddNat) n m) → @LE.le Nat instLENat (@HMul.hMul Nat Nat Nat (@instHMul Nat instMulNat) (@HAdd.hAdd Nat Nat Nat (@instHAdd Nat instAddNat) n m) bytes) (@OfNat.ofNat Nat (nat_lit 1099511627776) (instOfNatNat (nat_lit 1099511627776))) → @Eq (Option (Prod AV Heap)) (appKB h (@none Nat) sz bytes i o n c m news (@some ABlk (ABlk.cells vs true u))) (@some (Prod AV Heap) (@Prod.mk AV Heap (AV.slice (Heap.size h) (@OfNat.ofNat Nat (nat_lit 0) (instOfNatNat (nat_lit 0))) (@HAdd.hAdd Nat Nat Nat (@instHAdd Nat instAddNat) n m) (Cap.unk (@OfNat.ofNat Nat (nat_lit 0) (instOfNatNat (nat_lit 0))))) (Heap.push h (ABlk.cells (@HAppend.hAppend (List AV) (List AV) (List AV) (@instHAppendOfAppend (List AV) (@List.instAppend AV)) (cut vs o (@HMul.hMul Nat Nat Nat (@instHMul Nat instMulNat) n sz)) news) true sz))))) ∧
  (∀ {h : Heap} {nid : Option Nat} {sz bytes i o n c m : Nat} {news vs : List AV} {u : Nat}, @LE.le Nat instLENat (@HAdd.hAdd Nat Nat Nat (@instHAdd Nat instAddNat) o (@HMul.hMul Nat Nat Nat (@instHMul Nat instMulNat) n sz)) (@List.length AV vs) → @LE.le Nat instLENat (@HAdd.hAdd Nat Nat Nat (@instHAdd Nat instAddNat) n m) c → @LE.le Nat instLENat (@HAdd.hAdd Nat Nat Nat (@instHAdd Nat instAddNat) o (@HMul.hMul Nat Nat Nat (@instHMul Nat instMulNat) (@HAdd.hAdd Nat Nat Nat (@instHAdd Nat instAddNat) n m) sz)) (@List.length AV vs) → @Eq Bool (@List.all AV news AV.one) true → @Eq (Option (Prod AV Heap)) (appKB h nid sz bytes i o n c m news (@some ABlk (ABlk.cells vs true u))) (@some (Prod AV Heap) (@Prod.mk AV Heap (AV.slice i o (@HAdd.hAdd Nat Nat Nat (@instHAdd Nat instAddNat) n m) (Cap.known c)) (Heap.put h i (ABlk.cells (splice vs (@HAdd.hAdd Nat Nat Nat (@instHAdd Nat instAddNat) o (@HMul.hMul Nat Nat Nat (@instHMul Nat instMulNat) n sz)) news) true u))))) ∧
  (∀ {h : Heap} {nid : Option Nat} {sz bytes i o n l m : Nat} {news : List AV}, @Eq (Option (Prod AV Heap)) (jah h nid sz bytes (AV.slice i o n (Cap.unk l)) m news) (appUB h nid sz bytes i o n l m news (Heap.get h i))) ∧
  (∀ {h : Heap} {sz bytes i n m : Nat} {news vs : List AV}, @LE.le Nat instLENat (@HMul.hMul Nat Nat Nat (@instHMul Nat instMulNat) n sz) (@List.length AV vs) → @LT.lt Nat instLTNat (@OfNat.ofNat Nat (nat_lit 0) (instOfNatNat (nat_lit 0))) m → @LE.le Nat instLENat (@HMul.hMul Nat Nat Nat (@instHMul Nat instMulNat) (@HAdd.hAdd Nat Nat Nat (@instHAdd Nat instAddNat) n m) bytes) (@OfNat.ofNat Nat (nat_lit 1099511627776) (instOfNatNat (nat_lit 1099511627776))) → @Eq Bool (@List.all AV news AV.one) true → @Eq (Option (Prod AV Heap)) (appUB h (@none Nat) sz bytes i (@OfNat.ofNat Nat (nat_lit 0) (instOfNatNat (nat_lit 0))) n (@OfNat.ofNat Nat (nat_lit 0) (instOfNatNat (nat_lit 0))) m news (@some ABlk (ABlk.cells vs true sz))) (@some (Prod AV Heap) (@Prod.mk AV Heap (AV.slice (Heap.size h) (@OfNat.ofNat Nat (nat_lit 0) (instOfNatNat (nat_lit 0))) (@HAdd.hAdd Nat Nat Nat (@instHAdd Nat instAddNat) n m) (Cap.unk (@OfNat.ofNat Nat (nat_lit 0) (instOfNatNat (nat_lit 0))))) (Heap.push (Heap.put h i ABlk.dead) (ABlk.cells (@HAppend.hAppend (List AV) (List AV) (List AV) (@instHAppendOfAppend (List AV) (@List.instAppend AV)) (cut vs (@OfNat.ofNat Nat (nat_lit 0) (instOfNatNat (nat_lit 0))) (@HMul.hMul Nat Nat Nat (@instHMul Nat instMulNat) n sz)) news) true sz))))) ∧
  (∀ {h : Heap} {sz bytes m : Nat} {news : List AV}, @Ne Nat m (@OfNat.ofNat Nat (nat_lit 0) (instOfNatNat (nat_lit 0))) → @LE.le Nat instLENat (@HMul.hMul Nat Nat Nat (@instHMul Nat instMulNat) m bytes) (@OfNat.ofNat Nat (nat_lit 1099511627776) (instOfNatNat (nat_lit 1099511627776))) → @Eq (Option (Prod AV Heap)) (jah h (@none Nat) sz bytes AV.nilslice m news) (@some (Prod AV Heap) (@Prod.mk AV Heap (AV.slice (Heap.size h) (@OfNat.ofNat Nat (nat_lit 0) (instOfNatNat (nat_lit 0))) m (Cap.unk (@OfNat.ofNat Nat (nat_lit 0) (instOfNatNat (nat_lit 0))))) (Heap.push h (ABlk.cells news true sz))))) ∧
  (∀ {h : Heap} {nid : Option Nat} {sz bytes : Nat} {news : List AV}, @Eq (Option (Prod AV Heap)) (jah h nid sz bytes AV.nilslice (@OfNat.ofNat Nat (nat_lit 0) (instOfNatNat (nat_lit 0))) news) (@some (Prod AV Heap) (@Prod.mk AV Heap AV.nilslice h))) ∧
  (∀ {nid : Option Nat} {sz bytes : Nat} {h : Heap} {s : AV} {m : Nat} {news : List AV}, @Eq (Option (Prod AV Heap)) (appA nid sz bytes h s (@some (Prod Nat (List AV)) (@Prod.mk Nat (List AV) m news))) (jah h nid sz bytes s m news)) ∧
  (∀ {p : Prop}, @Eq Prop (@je3 (@some ABlk (ABlk.defd true)) (Hold.mk p)) p) ∧
  (∀ {res : List ARes} {Post : AV → Heap → Prop} {t : Nat → AV} {h : Heap}, @Eq Prop (retO res Post Out.ret (St.mk t h (@List.nil Nat))) (jfk.match_1 (fun x => Prop) (resA t h res) (fun vs => Post (retA vs) h) fun _ => False)) ∧
  (∀ {res : List ARes} {Post : AV → Heap → Prop} {t : Nat → AV} {h : Heap}, @Eq Prop (retO res Post Out.normal (St.mk t h (@List.nil Nat))) (jfk.match_1 (fun x => Prop) (resA t h res) (fun vs => Post (retA vs) h) fun _ => False)) ∧
  (∀ {acc : Acc} {op : AOp} {ev : AOpd → AV} {n : Nat}, @Eq Prop (chkP acc (@List.nil Nat) op ev n) True) ∧
  (∀ {ck : List Nat} {op : AOp} {ev : AOpd → AV} {n : Nat}, @Eq Prop (chkP (@List.nil (Prod Nat (Prod (List Nat) (List Nat)))) ck op ev n) True) ∧
  (∀ {k : Nat} {f w : List Nat} {acc : List (Prod Nat (Prod (List Nat) (List Nat)))} {ck : List Nat} {op : AOp} {ev : AOpd → AV} {n : Nat}, @Eq Bool (@List.contains Nat (@instBEqOfDecidableEq Nat instDecidableEqNat) ck k) false → @Eq Prop (chkP (@List.cons (Prod Nat (Prod (List Nat) (List Nat))) (@Prod.mk Nat (Prod (List Nat) (List Nat)) k (@Prod.mk (List Nat) (List Nat) f w)) acc) ck op ev n) (chkP acc ck op ev n)) ∧
  (∀ {k : Nat} {f w : List Nat} {acc : List (Prod Nat (Prod (List Nat) (List Nat)))} {ck : List Nat} {op : AOp} {ev : AOpd → AV} {n : Nat}, @Eq Bool (@List.contains Nat (@instBEqOfDecidableEq Nat instDecidableEqNat) ck k) true → @Eq Prop (chkP (@List.cons (Prod Nat (Prod (List Nat) (List Nat))) (@Prod.mk Nat (Prod (List Nat) (List Nat)) k (@Prod.mk (List Nat) (List Nat) f w)) acc) ck op ev n) (And (And (jbq f (wrA op ev n)) (jbq w (footA op ev n))) (chkP acc ck op ev n))) ∧
  (∀ {acc : Acc} {h h' : Heap}, @Eq Prop (chkS acc (@List.nil Nat) h h') True) ∧
  (∀ {ck : List Nat} {h h' : Heap}, @Eq Prop (chkS (@List.nil (Prod Nat (Prod (List Nat) (List Nat)))) ck h h') True) ∧
  (∀ {k : Nat} {f w : List Nat} {acc : List (Prod Nat (Prod (List Nat) (List Nat)))} {ck : List Nat} {h h' : Heap}, @Eq Bool (@List.contains Nat (@instBEqOfDecidableEq Nat instDecidableEqNat) ck k) false → @Eq Prop (chkS (@List.cons (Prod Nat (Prod (List Nat) (List Nat))) (@Prod.mk Nat (Prod (List Nat) (List Nat)) k (@Prod.mk (List Nat) (List Nat) f w)) acc) ck h h') (chkS acc ck h h')) ∧
  (∀ {k : Nat} {f w : List Nat} {acc : List (Prod Nat (Prod (List Nat) (List Nat)))} {ck : List Nat} {h h' : Heap}, @Eq Bool (@List.contains Nat (@instBEqOfDecidableEq Nat instDecidableEqNat) ck k) true → @Eq Prop (chkS (@List.cons (Prod Nat (Prod (List Nat) (List Nat))) (@Prod.mk Nat (Prod (List Nat) (List Nat)) k (@Prod.mk (List Nat) (List Nat) f w)) acc) ck h h') (And (∀ (i : Nat), @Membership.mem Nat (List Nat) (@List.instMembership Nat) f i → @Eq (Option ABlk) (Heap.get h' i) (Heap.get h i)) (chkS acc ck h h'))) ∧
  (∀ {ys : List Nat}, @Eq Prop (jbq (@List.nil Nat) ys) True) ∧
  (∀ {xs : List Nat}, @Eq Prop (jbq xs (@List.nil Nat)) True) ∧
  (∀ {x : Nat} {xs ys : List Nat}, Not (@Membership.mem Nat (List Nat) (@List.instMembership Nat) ys x) → @Eq Prop (jbq (@List.cons Nat x xs) ys) (jbq xs ys)) ∧
  (∀ {i o : Nat}, @Eq (List Nat) (AV.ids (AV.ptr i o)) (@List.cons Nat i (@List.nil Nat))) ∧
  (∀ {i o n : Nat} {c : Cap}, @Eq (List Nat) (AV.ids (AV.slice i o n c)) (@List.cons Nat i (@List.nil Nat))) ∧
  (@Eq (List Nat) (AV.ids AV.nilslice) (@List.nil Nat)) ∧
  (∀ {k : IntKind} {n : Int}, @Eq (List Nat) (AV.ids (AV.int k n)) (@List.nil Nat)) ∧
  (∀ {b : Bool}, @Eq (List Nat) (AV.ids (AV.bool b)) (@List.nil Nat)) ∧
  (∀ {vs : List AV}, @Eq (List Nat) (AV.ids (AV.agg vs)) (@List.nil Nat)) ∧
  (∀ {i o n c : Nat}, @Eq (List Nat) (AV.rids (AV.slice i o n (Cap.known c))) (@List.nil Nat)) ∧
  (∀ {i o n l : Nat}, @Eq (List Nat) (AV.rids (AV.slice i o n (Cap.unk l))) (@List.cons Nat i (@List.nil Nat))) ∧
  (@Eq (List Nat) (AV.rids AV.nilslice) (@List.nil Nat)) ∧
  (∀ {op : AOp} {ev : AOpd → AV} {n : Nat}, @Eq Bool (AOp.blind op) true → @Eq (List Nat) (footA op ev n) (@List.nil Nat)) ∧
  (∀ {op : AOp} {ev : AOpd → AV} {n : Nat}, @Eq Bool (AOp.blind op) true → @Eq (List Nat) (wrA op ev n) (@List.nil Nat)) ∧
  (∀ {agg : Bool} {m : Nat} {x : AOpd} {ev : AOpd → AV} {n : Nat}, @Eq (List Nat) (footA (AOp.load agg m x) ev n) (AV.ids (ev x))) ∧
  (∀ {agg : Bool} {m : Nat} {x : AOpd} {ev : AOpd → AV} {n : Nat}, @Eq (List Nat) (wrA (AOp.load agg m x) ev n) (@List.nil Nat)) ∧
  (∀ {m : Nat} {x v : AOpd} {ev : AOpd → AV} {n : Nat}, @Eq (List Nat) (footA (AOp.store m x v) ev n) (AV.ids (ev x))) ∧
  (∀ {m : Nat} {x v : AOpd} {ev : AOpd → AV} {n : Nat}, @Eq (List Nat) (wrA (AOp.store m x v) ev n) (AV.ids (ev x))) ∧
  (∀ {sz : Nat} {x : AOpd} {lo hi mx : Option AOpd} {ev : AOpd → AV} {n : Nat}, @Eq (List Nat) (footA (AOp.slice sz x lo hi mx) ev n) (AV.rids (ev x))) ∧
  (∀ {sz : Nat} {x : AOpd} {lo hi mx : Option AOpd} {ev : AOpd → AV} {n : Nat}, @Eq (List Nat) (wrA (AOp.slice sz x lo hi mx) ev n) (@List.nil Nat)) ∧
  (∀ {sz b : Nat} {s x : AOpd} {ev : AOpd → AV} {n : Nat}, @Eq (List Nat) (footA (AOp.append sz b s x) ev n) (@HAppend.hAppend (List Nat) (List Nat) (List Nat) (@instHAppendOfAppend (List Nat) (@List.instAppend Nat)) (@HAppend.hAppend (List Nat) (List Nat) (List Nat) (@instHAppendOfAppend (List Nat) (@List.instAppend Nat)) (AV.ids (ev s)) (AV.ids (ev x))) (@List.cons Nat n (@List.nil Nat)))) ∧
  (∀ {sz b : Nat} {s x : AOpd} {ev : AOpd → AV} {n : Nat}, @Eq (List Nat) (wrA (AOp.append sz b s x) ev n) (@HAppend.hAppend (List Nat) (List Nat) (List Nat) (@instHAppendOfAppend (List Nat) (@List.instAppend Nat)) (AV.ids (ev s)) (@List.cons Nat n (@List.nil Nat)))) ∧
  (∀ {z : List AV} {ev : AOpd → AV} {n : Nat}, @Eq (List Nat) (footA (AOp.alloc z) ev n) (@List.cons Nat n (@List.nil Nat))) ∧
  (∀ {z : List AV} {ev : AOpd → AV} {n : Nat}, @Eq (List Nat) (wrA (AOp.alloc z) ev n) (@List.cons Nat n (@List.nil Nat))) ∧
  (∀ {x : AOpd} {ev : AOpd → AV} {n : Nat}, @Eq (List Nat) (footA (AOp.box x) ev n) (@List.cons Nat n (@List.nil Nat))) ∧
  (∀ {x : AOpd} {ev : AOpd → AV} {n : Nat}, @Eq (List Nat) (wrA (AOp.box x) ev n) (@List.cons Nat n (@List.nil Nat))) ∧
  (∀ {m : Nat} {z : List AV} {ps : List (Prod Nat (Prod Nat AOpd))} {ev : AOpd → AV} {n : Nat}, @Eq (List Nat) (footA (AOp.buildSlice m z ps) ev n) (@List.cons Nat n (@List.nil Nat))) ∧
  (∀ {m : Nat} {z : List AV} {ps : List (Prod Nat (Prod Nat AOpd))} {ev : AOpd → AV} {n : Nat}, @Eq (List Nat) (wrA (AOp.buildSlice m z ps) ev n) (@List.cons Nat n (@List.nil Nat))) ∧
  (∀ {z : List AV} {b : Nat} {l c : AOpd} {ev : AOpd → AV} {n : Nat}, @Eq (List Nat) (footA (AOp.makeSlice z b l c) ev n) (@List.cons Nat n (@List.nil Nat))) ∧
  (∀ {z : List AV} {b : Nat} {l c : AOpd} {ev : AOpd → AV} {n : Nat}, @Eq (List Nat) (wrA (AOp.makeSlice z b l c) ev n) (@List.cons Nat n (@List.nil Nat))) ∧
  (∀ {sz : Nat} {d s : AOpd} {ev : AOpd → AV} {n : Nat}, @Eq (List Nat) (footA (AOp.copy sz d s) ev n) (@HAppend.hAppend (List Nat) (List Nat) (List Nat) (@instHAppendOfAppend (List Nat) (@List.instAppend Nat)) (AV.ids (ev d)) (AV.ids (ev s)))) ∧
  (∀ {sz : Nat} {d s : AOpd} {ev : AOpd → AV} {n : Nat}, @Eq (List Nat) (wrA (AOp.copy sz d s) ev n) (AV.ids (ev d))) ∧
  (∀ (p : Prop), @Eq Prop (False → p) True) ∧
  (∀ (p : Prop), @Eq Prop (And True p) p) ∧
  (∀ (p : Prop), @Eq Prop (And p True) p) ∧
  (∀ {t : Nat → AV} {h : Heap}, @Eq (Option (List AV)) (resA t h (@List.nil ARes)) (@some (List AV) (@List.nil AV))) ∧
  (∀ {t : Nat → AV} {h : Heap} {s : Nat} {rs : List ARes}, @Eq (Option (List AV)) (resA t h (@List.cons ARes (ARes.tmp s) rs)) (jfk.match_1 (fun x => Option (List AV)) (resA t h rs) (fun vs => @some (List AV) (@List.cons AV (t s) vs)) fun _ => @none (List AV))) ∧
  (∀ {t : Nat → AV} {h : Heap} {s : Nat} {agg : Bool} {n : Nat} {rs : List ARes}, @Eq (Option (List AV)) (resA t h (@List.cons ARes (ARes.cell s agg n) rs)) (jim.match_1 (fun x x_1 => Option (List AV)) (loadA h agg n (t s)) (resA t h rs) (fun v vs => @some (List AV) (@List.cons AV v vs)) fun x x_1 => @none (List AV))) ∧
  (@Eq AV (retA (@List.nil AV)) (AV.tuple (@List.nil AV))) ∧
  (∀ {v : AV}, @Eq AV (retA (@List.cons AV v (@List.nil AV))) v) ∧
  (∀ {u v : AV}, @Eq AV (retA (@List.cons AV u (@List.cons AV v (@List.nil AV)))) (AV.tuple (@List.cons AV u (@List.cons AV v (@List.nil AV))))) ∧
  (∀ {u v x : AV}, @Eq AV (retA (@List.cons AV u (@List.cons AV v (@List.cons AV x (@List.nil AV))))) (AV.tuple (@List.cons AV u (@List.cons AV v (@List.cons AV x (@List.nil AV)))))) ∧
  (∀ {u v x y : AV}, @Eq AV (retA (@List.cons AV u (@List.cons AV v (@List.cons AV x (@List.cons AV y (@List.nil AV)))))) (AV.tuple (@List.cons AV u (@List.cons AV v (@List.cons AV x (@List.cons AV y (@List.nil AV))))))) ∧
  (∀ {t : Nat → AV} {s : Nat}, @Eq AV (AOpd.ev t (AOpd.tmp s)) (t s)) ∧
  (∀ {t : Nat → AV} {v : AV}, @Eq AV (AOpd.ev t (AOpd.const v)) v) ∧
  (∀ {t : Nat → AV}, @Eq (List AV) (@List.map AOpd AV (AOpd.ev t) (@List.nil AOpd)) (@List.nil AV)) ∧
  (∀ {t : Nat → AV} {x : AOpd} {xs : List AOpd}, @Eq (List AV) (@List.map AOpd AV (AOpd.ev t) (@List.cons AOpd x xs)) (@List.cons AV (AOpd.ev t x) (@List.map AOpd AV (AOpd.ev t) xs))) ∧
  (∀ {t : Nat → AV} {s : Nat} {v : AV}, @Eq AV (upd t s v s) v) ∧
  (∀ {t : Nat → AV} {s : Nat} {v : AV} {i : Nat}, @Eq Bool (@BEq.beq Nat (@instBEqOfDecidableEq Nat instDecidableEqNat) i s) false → @Eq AV (upd t s v i) (t i)) ∧
  (∀ {args : List AV} {s : Nat}, @Eq AV (argT args s) (@List.getD AV args s AV.undef)) ∧
  (∀ {p q : Prop}, @Eq Prop (@condV (AV.bool true) (Hold.mk p) (Hold.mk q)) p) ∧
  (∀ {p q : Prop}, @Eq Prop (@condV (AV.bool false) (Hold.mk p) (Hold.mk q)) q) ∧
  (∀ {c : Prop} [inst : Decidable c] {p q : Prop}, @Eq Prop (@condV (AV.bool (@decide c inst)) (Hold.mk p) (Hold.mk q)) (@Br c (Hold.mk p) (Hold.mk q))) ∧
  (∀ {b : Bool} {p q : Prop}, @Eq Prop (@condV (AV.bool b) (Hold.mk p) (Hold.mk q)) (@Br (@Eq Bool b true) (Hold.mk p) (Hold.mk q))) ∧
  (∀ {b : Bool} {p q : Prop}, @Eq Prop (@Br (@Eq Bool (not b) true) (Hold.mk p) (Hold.mk q)) (@Br (@Eq Bool b true) (Hold.mk q) (Hold.mk p))) ∧
  (∀ {c p q : Prop}, c → @Eq Prop (@Br c (Hold.mk p) (Hold.mk q)) p) ∧
  (∀ {c p q : Prop}, Not c → @Eq Prop (@Br c (Hold.mk p) (Hold.mk q)) q) ∧
  (∀ {p q : Prop}, @Eq Prop (@gV (AV.bool true) true (Hold.mk p) (Hold.mk q)) p) ∧
  (∀ {p q : Prop}, @Eq Prop (@gV (AV.bool true) false (Hold.mk p) (Hold.mk q)) q) ∧
  (∀ {p q : Prop}, @Eq Prop (@gV (AV.bool false) true (Hold.mk p) (Hold.mk q)) q) ∧
  (∀ {p q : Prop}, @Eq Prop (@gV (AV.bool false) false (Hold.mk p) (Hold.mk q)) p) ∧
  (∀ {c : Prop} [inst : Decidable c] {p q : Prop}, @Eq Prop (@gV (AV.bool (@decide c inst)) true (Hold.mk p) (Hold.mk q)) (@Br c (Hold.mk p) (Hold.mk q))) ∧
  (∀ {c : Prop} [inst : Decidable c] {p q : Prop}, @Eq Prop (@gV (AV.bool (@decide c inst)) false (Hold.mk p) (Hold.mk q)) (@Br c (Hold.mk q) (Hold.mk p))) ∧
  (∀ {b : Bool} {p q : Prop}, @Eq Prop (@gV (AV.bool b) true (Hold.mk p) (Hold.mk q)) (@Br (@Eq Bool b true) (Hold.mk p) (Hold.mk q))) ∧
  (∀ {b : Bool} {p q : Prop}, @Eq Prop (@gV (AV.bool b) false (Hold.mk p) (Hold.mk q)) (@Br (@Eq Bool b true) (Hold.mk q) (Hold.mk p))) ∧
  (∀ {C : Ctx} {g : Nat} {args : List AV} {h : Heap} {K : AV → Heap → Prop}, @Eq Prop (@Call C (AV.func g (@List.nil AV) (@List.nil AV)) args h (HoldR.mk K)) (@jaa C g args h (HoldR.mk K))) ∧
  (∀ {C : Ctx} {g : Nat} {f c args : List AV} {h : Heap} {K : AV → Heap → Prop}, @Eq Prop (@Call C (AV.func g f c) args h (HoldR.mk K)) (@jaa C g (@HAppend.hAppend (List AV) (List AV) (List AV) (@instHAppendOfAppend (List AV) (@List.instAppend AV)) (@HAppend.hAppend (List AV) (List AV) (List AV) (@instHAppendOfAppend (List AV) (@List.instAppend AV)) f args) c) h (HoldR.mk K))) ∧
  (∀ {C : Ctx} {l : Nat} {args : List AV} {h : Heap} {K : AV → Heap → Prop}, @Eq Prop (@Call C (AV.yield l) args h (HoldR.mk K)) (@jcE C l args h (HoldR.mk K))) ∧
  (∀ {v : AV} {h : Heap} {K : AV → Heap → Prop}, @Eq Prop (@opt1 (@some AV v) h (HoldR.mk K)) (K v h)) ∧
  (∀ {v : AV} {h : Heap} {K : AV → Heap → Prop}, @Eq Prop (@opt2 (@some (Prod AV Heap) (@Prod.mk AV Heap v h)) (HoldR.mk K)) (K v h)) ∧
  (∀ {nid : Option Nat} {ev : AOpd → AV} {h : Heap} {K : AV → Heap → Prop} {x : AOpd}, @Eq Prop (@opR nid (AOp.mv x) ev h (HoldR.mk K)) (K (ev x) h)) ∧
  (∀ {nid : Option Nat} {ev : AOpd → AV} {h : Heap} {K : AV → Heap → Prop} {c a b : AOpd}, @Eq Prop (@opR nid (AOp.pick c a b) ev h (HoldR.mk K)) (@opt1 (pickA (ev a) (ev b) (ev c)) h (HoldR.mk K))) ∧
  (∀ {nid : Option Nat} {ev : AOpd → AV} {h : Heap} {K : AV → Heap → Prop} {z : List AV} {parts : List (Prod Nat (Prod Nat AOpd))}, @Eq Prop (@opR nid (AOp.build z parts) ev h (HoldR.mk K)) (@opt1 (@Option.map (List AV) AV AV.agg (fillA z (@List.map (Prod Nat (Prod Nat AOpd)) (Prod Nat (Prod Nat AV)) (fun p => @Prod.mk Nat (Prod Nat AV) (@Prod.fst Nat (Prod Nat AOpd) p) (@Prod.mk Nat AV (@Prod.fst Nat AOpd (@Prod.snd Nat (Prod Nat AOpd) p)) (ev (@Prod.snd Nat AOpd (@Prod.snd Nat (Prod Nat AOpd) p))))) parts))) h (HoldR.mk K))) ∧
  (∀ {nid : Option Nat} {ev : AOpd → AV} {h : Heap} {K : AV → Heap → Prop} {agg : Bool} {n : Nat} {x : AOpd}, @Eq Prop (@opR nid (AOp.load agg n x) ev h (HoldR.mk K)) (@opt1 (loadA h agg n (ev x)) h (HoldR.mk K))) ∧
  (∀ {nid : Option Nat} {ev : AOpd → AV} {h : Heap} {K : AV → Heap → Prop} {x : AOpd}, @Eq Prop (@opR nid (AOp.nilCheck x) ev h (HoldR.mk K)) (@opt1 (notNilA (ev x)) h (HoldR.mk K))) ∧
  (∀ {nid : Option Nat} {ev : AOpd → AV} {h : Heap} {K : AV → Heap → Prop} {op : BinOp} {x y : AOpd}, @Eq Prop (@opR nid (AOp.bin op x y) ev h (HoldR.mk K)) (@opt1 (binA op (ev x) (ev y)) h (HoldR.mk K))) ∧
  (∀ {nid : Option Nat} {ev : AOpd → AV} {h : Heap} {K : AV → Heap → Prop} {neg : Bool} {x y : AOpd}, @Eq Prop (@opR nid (AOp.eqb neg x y) ev h (HoldR.mk K)) (@opt1 (eqbA neg (ev x) (ev y)) h (HoldR.mk K))) ∧
  (∀ {nid : Option Nat} {ev : AOpd → AV} {h : Heap} {K : AV → Heap → Prop} {neg : Bool} {x : AOpd}, @Eq Prop (@opR nid (AOp.eqn neg x) ev h (HoldR.mk K)) (@opt1 (eqnA neg (ev x)) h (HoldR.mk K))) ∧
  (∀ {nid : Option Nat} {ev : AOpd → AV} {h : Heap} {K : AV → Heap → Prop} {neg : Bool} {ls : List (Prod Nat Bool)} {x y : AOpd}, @Eq Prop (@opR nid (AOp.eqs neg ls x y) ev h (HoldR.mk K)) (@opt1 (eqsA neg ls (ev x) (ev y)) h (HoldR.mk K))) ∧
  (∀ {nid : Option Nat} {ev : AOpd → AV} {h : Heap} {K : AV → Heap → Prop} {op : UnOp} {x : AOpd}, @Eq Prop (@opR nid (AOp.un op x) ev h (HoldR.mk K)) (@opt1 (unA op (ev x)) h (HoldR.mk K))) ∧
  (∀ {nid : Option Nat} {ev : AOpd → AV} {h : Heap} {K : AV → Heap → Prop} {k : IntKind} {x : AOpd}, @Eq Prop (@opR nid (AOp.conv k x) ev h (HoldR.mk K)) (@opt1 (convA k (ev x)) h (HoldR.mk K))) ∧
  (∀ {nid : Option Nat} {ev : AOpd → AV} {h : Heap} {K : AV → Heap → Prop} {g : Nat} {a c : List AOpd}, @Eq Prop (@opR nid (AOp.mkfunc g a c) ev h (HoldR.mk K)) (K (AV.func g (@List.map AOpd AV ev a) (@List.map AOpd AV ev c)) h)) ∧
  (∀ {nid : Option Nat} {ev : AOpd → AV} {h : Heap} {K : AV → Heap → Prop} {sz : Nat} {x : AOpd} {lo hi mx : Option AOpd}, @Eq Prop (@opR nid (AOp.slice sz x lo hi mx) ev h (HoldR.mk K)) (@opt1 (jav h sz (ev x) (@Option.map AOpd AV ev lo) (@Option.map AOpd AV ev hi) (@Option.map AOpd AV ev mx)) h (HoldR.mk K))) ∧
  (∀ {nid : Option Nat} {ev : AOpd → AV} {h : Heap} {K : AV → Heap → Prop} {off : Nat} {x : AOpd}, @Eq Prop (@opR nid (AOp.fieldAddr off x) ev h (HoldR.mk K)) (@opt1 (ja8 off (ev x)) h (HoldR.mk K))) ∧
  (∀ {nid : Option Nat} {ev : AOpd → AV} {h : Heap} {K : AV → Heap → Prop} {agg : Bool} {off n : Nat} {x : AOpd}, @Eq Prop (@opR nid (AOp.field agg off n x) ev h (HoldR.mk K)) (@opt1 (jin agg off n (ev x)) h (HoldR.mk K))) ∧
  (∀ {nid : Option Nat} {ev : AOpd → AV} {h : Heap} {K : AV → Heap → Prop} {sz : Nat} {x i : AOpd}, @Eq Prop (@opR nid (AOp.indexAddr sz x i) ev h (HoldR.mk K)) (@opt1 (idxA sz (ev x) (ev i)) h (HoldR.mk K))) ∧
  (∀ {nid : Option Nat} {ev : AOpd → AV} {h : Heap} {K : AV → Heap → Prop} {sz len : Nat} {x i : AOpd}, @Eq Prop (@opR nid (AOp.indexArr sz len x i) ev h (HoldR.mk K)) (@opt1 (jeG sz len (ev x) (ev i)) h (HoldR.mk K))) ∧
  (∀ {nid : Option Nat} {ev : AOpd → AV} {h : Heap} {K : AV → Heap → Prop} {agg : Bool} {sz len : Nat} {x i : AOpd}, @Eq Prop (@opR nid (AOp.index agg sz len x i) ev h (HoldR.mk K)) (@opt1 (jfI agg sz len (ev x) (ev i)) h (HoldR.mk K))) ∧
  (∀ {nid : Option Nat} {ev : AOpd → AV} {h : Heap} {K : AV → Heap → Prop} {x : AOpd} {i : Nat}, @Eq Prop (@opR nid (AOp.extract x i) ev h (HoldR.mk K)) (@opt1 (extA i (ev x)) h (HoldR.mk K))) ∧
  (∀ {nid : Option Nat} {ev : AOpd → AV} {h : Heap} {K : AV → Heap → Prop} {x : AOpd}, @Eq Prop (@opR nid (AOp.len x) ev h (HoldR.mk K)) (@opt1 (lenA (ev x)) h (HoldR.mk K))) ∧
  (∀ {nid : Option Nat} {ev : AOpd → AV} {h : Heap} {K : AV → Heap → Prop} {x : AOpd}, @Eq Prop (@opR nid (AOp.cap x) ev h (HoldR.mk K)) (@opt1 (capA (ev x)) h (HoldR.mk K))) ∧
  (∀ {nid : Option Nat} {ev : AOpd → AV} {h : Heap} {K : AV → Heap → Prop} {xs : List AOpd}, @Eq Prop (@opR nid (AOp.max xs) ev h (HoldR.mk K)) (@opt1 (maxA (@List.map AOpd AV ev xs)) h (HoldR.mk K))) ∧
  (∀ {nid : Option Nat} {ev : AOpd → AV} {h : Heap} {K : AV → Heap → Prop} {xs : List AOpd}, @Eq Prop (@opR nid (AOp.min xs) ev h (HoldR.mk K)) (@opt1 (minA (@List.map AOpd AV ev xs)) h (HoldR.mk K))) ∧
  (∀ {nid : Option Nat} {ev : AOpd → AV} {h : Heap} {K : AV → Heap → Prop} {z : List AV}, @Eq Prop (@opR nid (AOp.alloc z) ev h (HoldR.mk K)) (@opt2 (jc3 nid z h) (HoldR.mk K))) ∧
  (∀ {nid : Option Nat} {ev : AOpd → AV} {h : Heap} {K : AV → Heap → Prop} {x : AOpd}, @Eq Prop (@opR nid (AOp.box x) ev h (HoldR.mk K)) (@opt2 (jc3 nid (AV.cells (ev x)) h) (HoldR.mk K))) ∧
  (∀ {nid : Option Nat} {ev : AOpd → AV} {h : Heap} {K : AV → Heap → Prop} {n : Nat} {z : List AV} {parts : List (Prod Nat (Prod Nat AOpd))}, @Eq Prop (@opR nid (AOp.buildSlice n z parts) ev h (HoldR.mk K)) (@opt2 (ja3 nid n (fillA z (@List.map (Prod Nat (Prod Nat AOpd)) (Prod Nat (Prod Nat AV)) (fun p => @Prod.mk Nat (Prod Nat AV) (@Prod.fst Nat (Prod Nat AOpd) p) (@Prod.mk Nat AV (@Prod.fst Nat AOpd (@Prod.snd Nat (Prod Nat AOpd) p)) (ev (@Prod.snd Nat AOpd (@Prod.snd Nat (Prod Nat AOpd) p))))) parts)) h) (HoldR.mk K))) ∧
  (∀ {nid : Option Nat} {ev : AOpd → AV} {h : Heap} {K : AV → Heap → Prop} {n : Nat} {x v : AOpd}, @Eq Prop (@opR nid (AOp.store n x v) ev h (HoldR.mk K)) (@opt2 (storeOA (jcX h n (ev x) (ev v))) (HoldR.mk K))) ∧
  (∀ {nid : Option Nat} {ev : AOpd → AV} {h : Heap} {K : AV → Heap → Prop} {z : List AV} {bytes : Nat} {l c : AOpd}, @Eq Prop (@opR nid (AOp.makeSlice z bytes l c) ev h (HoldR.mk K)) (@opt2 (makeA nid z bytes h (ev l) (ev c)) (HoldR.mk K))) ∧
  (∀ {nid : Option Nat} {ev : AOpd → AV} {h : Heap} {K : AV → Heap → Prop} {sz bytes : Nat} {s x : AOpd}, @Eq Prop (@opR nid (AOp.append sz bytes s x) ev h (HoldR.mk K)) (@opt2 (appA nid sz bytes h (ev s) (jao h sz (ev x))) (HoldR.mk K))) ∧
  (∀ {nid : Option Nat} {ev : AOpd → AV} {h : Heap} {K : AV → Heap → Prop} {sz : Nat} {d s : AOpd}, @Eq Prop (@opR nid (AOp.copy sz d s) ev h (HoldR.mk K)) (@opt2 (copyA h sz (ev d) (ev s)) (HoldR.mk K))) ∧
  (∀ {k : IntKind} {a b : Int}, @Eq (Option AV) (binA BinOp.add (AV.int k a) (AV.int k b)) (@some AV (AV.int k (IntKind.wrap k (@HAdd.hAdd Int Int Int (@instHAdd Int Int.instAdd) a b))))) ∧
  (∀ {k : IntKind} {a b : Int}, @Eq (Option AV) (binA BinOp.sub (AV.int k a) (AV.int k b)) (@some AV (AV.int k (IntKind.wrap k (@HSub.hSub Int Int Int (@instHSub Int Int.instSub) a b))))) ∧
  (∀ {k : IntKind} {a b : Int}, @Eq (Option AV) (binA BinOp.mul (AV.int k a) (AV.int k b)) (@some AV (AV.int k (IntKind.wrap k (@HMul.hMul Int Int Int (@instHMul Int Int.instMul) a b))))) ∧
  (∀ {k : IntKind} {a b : Int}, @Ne Int b (@OfNat.ofNat Int (nat_lit 0) (@instOfNat (nat_lit 0))) → @Eq (Option AV) (binA BinOp.quo (AV.int k a) (AV.int k b)) (@some AV (AV.int k (IntKind.wrap k (Int.tdiv a b))))) ∧
  (∀ {k : IntKind} {a b : Int}, @Ne Int b (@OfNat.ofNat Int (nat_lit 0) (@instOfNat (nat_lit 0))) → @Eq (Option AV) (binA BinOp.rem (AV.int k a) (AV.int k b)) (@some AV (AV.int k (Int.tmod a b)))) ∧
  (∀ {k : IntKind} {a b : Int}, @Eq (Option AV) (binA BinOp.and (AV.int k a) (AV.int k b)) (@some AV (AV.int k (bitsA BinOp.and k a b)))) ∧
  (∀ {k : IntKind} {a b : Int}, @Eq (Option AV) (binA BinOp.or (AV.int k a) (AV.int k b)) (@some AV (AV.int k (bitsA BinOp.or k a b)))) ∧
  (∀ {k : IntKind} {a b : Int}, @Eq (Option AV) (binA BinOp.xor (AV.int k a) (AV.int k b)) (@some AV (AV.int k (bitsA BinOp.xor k a b)))) ∧
  (∀ {k : IntKind} {a b : Int}, @Eq (Option AV) (binA BinOp.andNot (AV.int k a) (AV.int k b)) (@some AV (AV.int k (bitsA BinOp.andNot k a b)))) ∧
  (∀ {k : IntKind} {a b : Int}, @Eq (Option AV) (binA BinOp.eql (AV.int k a) (AV.int k b)) (@some AV (AV.bool (@decide (@Eq Int a b) (Int.instDecidableEq a b))))) ∧
  (∀ {k : IntKind} {a b : Int}, @Eq (Option AV) (binA BinOp.neq (AV.int k a) (AV.int k b)) (@some AV (AV.bool (@decide (@Ne Int a b) (@instDecidableNot (@Eq Int a b) (Int.instDecidableEq a b)))))) ∧
  (∀ {k : IntKind} {a b : Int}, @Eq (Option AV) (binA BinOp.lss (AV.int k a) (AV.int k b)) (@some AV (AV.bool (@decide (@LT.lt Int Int.instLTInt a b) (Int.decLt a b))))) ∧
  (∀ {k : IntKind} {a b : Int}, @Eq (Option AV) (binA BinOp.leq (AV.int k a) (AV.int k b)) (@some AV (AV.bool (@decide (@LE.le Int Int.instLEInt a b) (Int.decLe a b))))) ∧
  (∀ {k : IntKind} {a b : Int}, @Eq (Option AV) (binA BinOp.gtr (AV.int k a) (AV.int k b)) (@some AV (AV.bool (@decide (@LT.lt Int Int.instLTInt b a) (Int.decLt b a))))) ∧
  (∀ {k : IntKind} {a b : Int}, @Eq (Option AV) (binA BinOp.geq (AV.int k a) (AV.int k b)) (@some AV (AV.bool (@decide (@LE.le Int Int.instLEInt b a) (Int.decLe b a))))) ∧
  (∀ {k k' : IntKind} {a b : Int}, @LE.le Int Int.instLEInt (@OfNat.ofNat Int (nat_lit 0) (@instOfNat (nat_lit 0))) b → @Eq (Option AV) (binA BinOp.shl (AV.int k a) (AV.int k' b)) (@some AV (AV.int k (IntKind.wrap k (@HMul.hMul Int Int Int (@instHMul Int Int.instMul) a (@HPow.hPow Int Nat Int (@instHPow Int Nat (@instPowNat Int Int.instNatPow)) (@OfNat.ofNat Int (nat_lit 2) (@instOfNat (nat_lit 2))) (@min Nat instMinNat (Int.toNat b) (IntKind.bits k)))))))) ∧
  (∀ {k k' : IntKind} {a b : Int}, @LE.le Int Int.instLEInt (@OfNat.ofNat Int (nat_lit 0) (@instOfNat (nat_lit 0))) b → @Eq (Option AV) (binA BinOp.shr (AV.int k a) (AV.int k' b)) (@some AV (AV.int k (Int.fdiv a (@HPow.hPow Int Nat Int (@instHPow Int Nat (@instPowNat Int Int.instNatPow)) (@OfNat.ofNat Int (nat_lit 2) (@instOfNat (nat_lit 2))) (@min Nat instMinNat (Int.toNat b) (IntKind.bits k))))))) ∧
  (∀ {a : Int}, And (@LE.le Int Int.instLEInt (@OfNat.ofNat Int (nat_lit 0) (@instOfNat (nat_lit 0))) a) (@LE.le Int Int.instLEInt a (@OfNat.ofNat Int (nat_lit 9223372036854775807) (@instOfNat (nat_lit 9223372036854775807)))) → @Eq Int (bitsA BinOp.and IntKind.i64 a (@OfNat.ofNat Int (nat_lit 1) (@instOfNat (nat_lit 1)))) (@HMod.hMod Int Int Int (@instHMod Int Int.instMod) a (@OfNat.ofNat Int (nat_lit 2) (@instOfNat (nat_lit 2))))) ∧
  (∀ {k : IntKind} {a : Int}, @Eq (Option AV) (unA UnOp.neg (AV.int k a)) (@some AV (AV.int k (IntKind.wrap k (@HSub.hSub Int Int Int (@instHSub Int Int.instSub) (@OfNat.ofNat Int (nat_lit 0) (@instOfNat (nat_lit 0))) a))))) ∧
  (∀ {b : Bool}, @Eq (Option AV) (unA UnOp.not (AV.bool b)) (@some AV (AV.bool (not b)))) ∧
  (∀ {k : IntKind} {a : Int}, @Eq (Option AV) (unA UnOp.xor (AV.int k a)) (@some AV (AV.int k (bitsA BinOp.xor k (@ite Int (@Eq Bool (IntKind.signed k) true) (instDecidableEqBool (IntKind.signed k) true) (@Neg.neg Int Int.instNegInt (@OfNat.ofNat Int (nat_lit 1) (@instOfNat (nat_lit 1)))) (IntKind.max k)) a)))) ∧
  (∀ {k k' : IntKind} {a : Int}, @Eq (Option AV) (convA k (AV.int k' a)) (@some AV (AV.int k (IntKind.wrap k a)))) ∧
  (∀ {a b : Bool}, @Eq (Option AV) (eqbA false (AV.bool a) (AV.bool b)) (@some AV (AV.bool (@BEq.beq Bool (@instBEqOfDecidableEq Bool instDecidableEqBool) a b)))) ∧
  (∀ {a b : Bool}, @Eq (Option AV) (eqbA true (AV.bool a) (AV.bool b)) (@some AV (AV.bool (not (@BEq.beq Bool (@instBEqOfDecidableEq Bool instDecidableEqBool) a b))))) ∧
  (∀ {x y : AV}, @Eq (Option AV) (pickA x y (AV.bool true)) (@some AV x)) ∧
  (∀ {x y : AV}, @Eq (Option AV) (pickA x y (AV.bool false)) (@some AV y)) ∧
  (∀ {x y : AV} {c : Prop} [inst : Decidable c], c → @Eq (Option AV) (pickA x y (AV.bool (@decide c inst))) (@some AV x)) ∧
  (∀ {x y : AV} {c : Prop} [inst : Decidable c], Not c → @Eq (Option AV) (pickA x y (AV.bool (@decide c inst))) (@some AV y)) ∧
  (∀ {x y : AV} {b : Bool}, @Eq Bool b true → @Eq (Option AV) (pickA x y (AV.bool b)) (@some AV x)) ∧
  (∀ {x y : AV} {b : Bool}, Not (@Eq Bool b true) → @Eq (Option AV) (pickA x y (AV.bool b)) (@some AV y)) ∧
  (∀ {vs : List AV} {i : Nat}, @Eq (Option AV) (extA i (AV.tuple vs)) (@getElem? (List AV) Nat AV (fun xs i => @LT.lt Nat instLTNat i (@List.length AV xs)) (@List.instGetElem?NatLtLength AV) vs i)) ∧
  (∀ {k : IntKind} {a b : Int}, @Eq (Option AV) (maxA (@List.cons AV (AV.int k a) (@List.cons AV (AV.int k b) (@List.nil AV)))) (@some AV (AV.int k (@max Int Int.instMax a b)))) ∧
  (∀ {k : IntKind} {a b c : Int}, @Eq (Option AV) (maxA (@List.cons AV (AV.int k a) (@List.cons AV (AV.int k b) (@List.cons AV (AV.int k c) (@List.nil AV))))) (@some AV (AV.int k (@max Int Int.instMax (@max Int Int.instMax a b) c)))) ∧
  (∀ {k : IntKind} {a b : Int}, @Eq (Option AV) (minA (@List.cons AV (AV.int k a) (@List.cons AV (AV.int k b) (@List.nil AV)))) (@some AV (AV.int k (@min Int Int.instMin a b)))) ∧
  (∀ {k : IntKind} {a b c : Int}, @Eq (Option AV) (minA (@List.cons AV (AV.int k a) (@List.cons AV (AV.int k b) (@List.cons AV (AV.int k c) (@List.nil AV))))) (@some AV (AV.int k (@min Int Int.instMin (@min Int Int.instMin a b) c)))) ∧
  (∀ {x : Int}, And (@LE.le Int Int.instLEInt (@Neg.neg Int Int.instNegInt (@OfNat.ofNat Int (nat_lit 9223372036854775808) (@instOfNat (nat_lit 9223372036854775808)))) x) (@LE.le Int Int.instLEInt x (@OfNat.ofNat Int (nat_lit 9223372036854775807) (@instOfNat (nat_lit 9223372036854775807)))) → @Eq Int (IntKind.wrap IntKind.i64 x) x) ∧
  (∀ {x : Int}, And (@LE.le Int Int.instLEInt (@Neg.neg Int Int.instNegInt (@OfNat.ofNat Int (nat_lit 2147483648) (@instOfNat (nat_lit 2147483648)))) x) (@LE.le Int Int.instLEInt x (@OfNat.ofNat Int (nat_lit 2147483647) (@instOfNat (nat_lit 2147483647)))) → @Eq Int (IntKind.wrap IntKind.i32 x) x) ∧
  (∀ {x : Int}, And (@LE.le Int Int.instLEInt (@OfNat.ofNat Int (nat_lit 0) (@instOfNat (nat_lit 0))) x) (@LE.le Int Int.instLEInt x (@OfNat.ofNat Int (nat_lit 255) (@instOfNat (nat_lit 255)))) → @Eq Int (IntKind.wrap IntKind.u8 x) x) ∧
  (∀ {x : Int}, And (@LE.le Int Int.instLEInt (@OfNat.ofNat Int (nat_lit 0) (@instOfNat (nat_lit 0))) x) (@LE.le Int Int.instLEInt x (@OfNat.ofNat Int (nat_lit 4294967295) (@instOfNat (nat_lit 4294967295)))) → @Eq Int (IntKind.wrap IntKind.u32 x) x) ∧
  (∀ {x : Int}, And (@LE.le Int Int.instLEInt (@OfNat.ofNat Int (nat_lit 0) (@instOfNat (nat_lit 0))) x) (@LE.le Int Int.instLEInt x (@OfNat.ofNat Int (nat_lit 18446744073709551615) (@instOfNat (nat_lit 18446744073709551615)))) → @Eq Int (IntKind.wrap IntKind.u64 x) x) ∧
  (∀ {a b : Int}, @LE.le Int Int.instLEInt (@OfNat.ofNat Int (nat_lit 0) (@instOfNat (nat_lit 0))) a → @Eq Int (Int.tdiv a b) (@HDiv.hDiv Int Int Int (@instHDiv Int Int.instDiv) a b)) ∧
  (∀ {a b : Int}, @LE.le Int Int.instLEInt (@OfNat.ofNat Int (nat_lit 0) (@instOfNat (nat_lit 0))) a → @Eq Int (Int.tmod a b) (@HMod.hMod Int Int Int (@instHMod Int Int.instMod) a b)) ∧
  (∀ {a b : Int}, @LE.le Int Int.instLEInt (@OfNat.ofNat Int (nat_lit 0) (@instOfNat (nat_lit 0))) b → @Eq Int (Int.fdiv a b) (@HDiv.hDiv Int Int Int (@instHDiv Int Int.instDiv) a b)) ∧
  (@Eq Nat (IntKind.bits IntKind.i64) (@OfNat.ofNat Nat (nat_lit 64) (instOfNatNat (nat_lit 64)))) ∧
  (@Eq Nat (IntKind.bits IntKind.u64) (@OfNat.ofNat Nat (nat_lit 64) (instOfNatNat (nat_lit 64)))) ∧
  (@Eq Nat (IntKind.bits IntKind.u32) (@OfNat.ofNat Nat (nat_lit 32) (instOfNatNat (nat_lit 32)))) ∧
  (@Eq Nat (IntKind.bits IntKind.i32) (@OfNat.ofNat Nat (nat_lit 32) (instOfNatNat (nat_lit 32)))) ∧
  (@Eq Nat (IntKind.bits IntKind.u8) (@OfNat.ofNat Nat (nat_lit 8) (instOfNatNat (nat_lit 8)))) ∧
  (∀ {b : Int} {n : Nat}, @LE.le Int Int.instLEInt b (@Nat.cast Int instNatCastInt n) → @Eq Nat (@min Nat instMinNat (Int.toNat b) n) (Int.toNat b)) ∧
  (∀ {h : Heap} {b : ABlk} {i : Nat}, @Eq Nat i (Heap.size h) → @Eq (Option ABlk) (Heap.get (Heap.push h b) i) (@some ABlk b)) ∧
  (∀ {h : Heap} {b : ABlk} {i : Nat}, @LT.lt Nat instLTNat i (Heap.size h) → @Eq (Option ABlk) (Heap.get (Heap.push h b) i) (Heap.get h i)) ∧
  (∀ {h : Heap} {b : ABlk} {i j : Nat}, @Eq Nat j i → @LT.lt Nat instLTNat i (Heap.size h) → @Eq (Option ABlk) (Heap.get (Heap.put h i b) j) (@some ABlk b)) ∧
  (∀ {h : Heap} {b : ABlk} {i j : Nat}, @Ne Nat j i → @Eq (Option ABlk) (Heap.get (Heap.put h i b) j) (Heap.get h j)) ∧
  (∀ {h : Heap} {i : Nat} {b b' : ABlk}, @Eq Heap (Heap.put (Heap.put h i b) i b') (Heap.put h i b')) ∧
  (∀ {h : Heap} {i : Nat} {b b' : ABlk}, @Eq Nat i (Heap.size h) → @Eq Heap (Heap.put (Heap.push h b) i b') (Heap.push h b')) ∧
  (∀ {h : Heap} {i : Nat} {b b' : ABlk}, @LT.lt Nat instLTNat i (Heap.size h) → @Eq Heap (Heap.put (Heap.push h b) i b') (Heap.push (Heap.put h i b') b)) ∧
  (∀ (h : Heap) (b : ABlk), @Eq Nat (Heap.size (Heap.push h b)) (@HAdd.hAdd Nat Nat Nat (@instHAdd Nat instAddNat) (Heap.size h) (@OfNat.ofNat Nat (nat_lit 1) (instOfNatNat (nat_lit 1))))) ∧
  (∀ (h : Heap) (i : Nat) (b : ABlk), @Eq Nat (Heap.size (Heap.put h i b)) (Heap.size h)) ∧
  (∀ (h : Heap) (k : Nat), @Eq Nat (Heap.size (Heap.reserve h k)) (@HAdd.hAdd Nat Nat Nat (@instHAdd Nat instAddNat) (Heap.size h) k)) ∧
  (∀ (h : Heap) (k i : Nat), @Eq (Option ABlk) (Heap.get (Heap.reserve h k) i) (Heap.get h i)) ∧
  (∀ {h : Heap} {agg : Bool} {n i o : Nat}, @Eq (Option AV) (loadA h agg n (AV.ptr i o)) (loadB agg n o (Heap.get h i))) ∧
  (∀ {n o : Nat} {vs : List AV} {wr : Bool} {u : Nat}, @Eq (Option AV) (loadB false n o (@some ABlk (ABlk.cells vs wr u))) (@getElem? (List AV) Nat AV (fun xs i => @LT.lt Nat instLTNat i (@List.length AV xs)) (@List.instGetElem?NatLtLength AV) vs o)) ∧
  (∀ {n o : Nat} {vs : List AV} {wr : Bool} {u : Nat}, @LE.le Nat instLENat (@HAdd.hAdd Nat Nat Nat (@instHAdd Nat instAddNat) o n) (@List.length AV vs) → @Eq (Option AV) (loadB true n o (@some ABlk (ABlk.cells vs wr u))) (@some AV (AV.agg (cut vs o n)))) ∧
  (∀ {h : Heap} {n i o : Nat} {v : AV}, @Eq (Option Heap) (jcX h n (AV.ptr i o) v) (jbj h i n o v (Heap.get h i))) ∧
  (∀ {h : Heap} {i o : Nat} {k : IntKind} {x : Int} {vs : List AV} {u : Nat}, @LT.lt Nat instLTNat o (@List.length AV vs) → @Eq (Option Heap) (jbj h i (@OfNat.ofNat Nat (nat_lit 1) (instOfNatNat (nat_lit 1))) o (AV.int k x) (@some ABlk (ABlk.cells vs true u))) (@some Heap (Heap.put h i (ABlk.cells (@List.set AV vs o (AV.int k x)) true u)))) ∧
  (∀ {h : Heap} {i o : Nat} {x : Bool} {vs : List AV} {u : Nat}, @LT.lt Nat instLTNat o (@List.length AV vs) → @Eq (Option Heap) (jbj h i (@OfNat.ofNat Nat (nat_lit 1) (instOfNatNat (nat_lit 1))) o (AV.bool x) (@some ABlk (ABlk.cells vs true u))) (@some Heap (Heap.put h i (ABlk.cells (@List.set AV vs o (AV.bool x)) true u)))) ∧
  (∀ {h : Heap} {i o j p n : Nat} {c : Cap} {vs : List AV} {u : Nat}, @LT.lt Nat instLTNat o (@List.length AV vs) → @Eq (Option Heap) (jbj h i (@OfNat.ofNat Nat (nat_lit 1) (instOfNatNat (nat_lit 1))) o (AV.slice j p n c) (@some ABlk (ABlk.cells vs true u))) (@some Heap (Heap.put h i (ABlk.cells (@List.set AV vs o (AV.slice j p n c)) true u)))) ∧
  (∀ {h : Heap} {i o : Nat} {vs : List AV} {u : Nat}, @LT.lt Nat instLTNat o (@List.length AV vs) → @Eq (Option Heap) (jbj h i (@OfNat.ofNat Nat (nat_lit 1) (instOfNatNat (nat_lit 1))) o AV.nilslice (@some ABlk (ABlk.cells vs true u))) (@some Heap (Heap.put h i (ABlk.cells (@List.set AV vs o AV.nilslice) true u)))) ∧
  (∀ {h : Heap} {i o n : Nat} {xs vs : List AV} {u : Nat}, @Eq Nat (@List.length AV xs) n → @LE.le Nat instLENat (@HAdd.hAdd Nat Nat Nat (@instHAdd Nat instAddNat) o n) (@List.length AV vs) → @Eq Bool (@List.all AV xs AV.one) true → @Eq (Option Heap) (jbj h i n o (AV.agg xs) (@some ABlk (ABlk.cells vs true u))) (@some Heap (Heap.put h i (ABlk.cells (splice vs o xs) true u)))) ∧
  (∀ {h : Heap} {i o : Nat} {v : AV} {vs : List AV} {u : Nat}, @Eq (List AV) (AV.cells v) (@List.cons AV v (@List.nil AV)) → @Eq Bool (AV.one v) true → @LT.lt Nat instLTNat o (@List.length AV vs) → @Eq (Option Heap) (jbj h i (@OfNat.ofNat Nat (nat_lit 1) (instOfNatNat (nat_lit 1))) o v (@some ABlk (ABlk.cells vs true u))) (@some Heap (Heap.put h i (ABlk.cells (@List.set AV vs o v) true u)))) ∧
  (∀ {vs : List AV} {o : Nat} {c : AV}, @Eq (List AV) (splice vs o (@List.cons AV c (@List.nil AV))) (@List.set AV vs o c)) ∧
  (∀ {vs : List AV} {o : Nat} {x y : AV} {cs : List AV}, @Eq (List AV) (splice vs o (@List.cons AV x (@List.cons AV y cs))) (@HAppend.hAppend (List AV) (List AV) (List AV) (@instHAppendOfAppend (List AV) (@List.instAppend AV)) (@HAppend.hAppend (List AV) (List AV) (List AV) (@instHAppendOfAppend (List AV) (@List.instAppend AV)) (@List.take AV o vs) (@List.cons AV x (@List.cons AV y cs))) (@List.drop AV (@HAdd.hAdd Nat Nat Nat (@instHAdd Nat instAddNat) o (@HAdd.hAdd Nat Nat Nat (@instHAdd Nat instAddNat) (@List.length AV cs) (@OfNat.ofNat Nat (nat_lit 2) (instOfNatNat (nat_lit 2))))) vs))) ∧
  (∀ {vs : List AV} {o : Nat}, @Eq (List AV) (cut vs o (@OfNat.ofNat Nat (nat_lit 0) (instOfNatNat (nat_lit 0)))) (@List.nil AV)) ∧
  (∀ {x : AV} {vs : List AV} {n : Nat}, @Eq (List AV) (cut (@List.cons AV x vs) (@OfNat.ofNat Nat (nat_lit 0) (instOfNatNat (nat_lit 0))) (@HAdd.hAdd Nat Nat Nat (@instHAdd Nat instAddNat) n (@OfNat.ofNat Nat (nat_lit 1) (instOfNatNat (nat_lit 1))))) (@List.cons AV x (cut vs (@OfNat.ofNat Nat (nat_lit 0) (instOfNatNat (nat_lit 0))) n))) ∧
  (∀ {x : AV} {vs : List AV} {o n : Nat}, @Eq (List AV) (cut (@List.cons AV x vs) (@HAdd.hAdd Nat Nat Nat (@instHAdd Nat instAddNat) o (@OfNat.ofNat Nat (nat_lit 1) (instOfNatNat (nat_lit 1)))) n) (cut vs o n)) ∧
  (∀ {z : List AV}, @Eq (Option (List AV)) (fillA z (@List.nil (Prod Nat (Prod Nat AV)))) (@some (List AV) z)) ∧
  (∀ {z : List AV} {o : Nat} {k : IntKind} {n : Int} {rest : List (Prod Nat (Prod Nat AV))}, @LT.lt Nat instLTNat o (@List.length AV z) → @Eq (Option (List AV)) (fillA z (@List.cons (Prod Nat (Prod Nat AV)) (@Prod.mk Nat (Prod Nat AV) o (@Prod.mk Nat AV (@OfNat.ofNat Nat (nat_lit 1) (instOfNatNat (nat_lit 1))) (AV.int k n))) rest)) (fillA (@List.set AV z o (AV.int k n)) rest)) ∧
  (∀ {z : List AV} {o : Nat} {b : Bool} {rest : List (Prod Nat (Prod Nat AV))}, @LT.lt Nat instLTNat o (@List.length AV z) → @Eq (Option (List AV)) (fillA z (@List.cons (Prod Nat (Prod Nat AV)) (@Prod.mk Nat (Prod Nat AV) o (@Prod.mk Nat AV (@OfNat.ofNat Nat (nat_lit 1) (instOfNatNat (nat_lit 1))) (AV.bool b))) rest)) (fillA (@List.set AV z o (AV.bool b)) rest)) ∧
  (∀ {z : List AV} {o i p : Nat} {rest : List (Prod Nat (Prod Nat AV))}, @LT.lt Nat instLTNat o (@List.length AV z) → @Eq (Option (List AV)) (fillA z (@List.cons (Prod Nat (Prod Nat AV)) (@Prod.mk Nat (Prod Nat AV) o (@Prod.mk Nat AV (@OfNat.ofNat Nat (nat_lit 1) (instOfNatNat (nat_lit 1))) (AV.ptr i p))) rest)) (fillA (@List.set AV z o (AV.ptr i p)) rest)) ∧
  (∀ {z : List AV} {o i p n : Nat} {c : Cap} {rest : List (Prod Nat (Prod Nat AV))}, @LT.lt Nat instLTNat o (@List.length AV z) → @Eq (Option (List AV)) (fillA z (@List.cons (Prod Nat (Prod Nat AV)) (@Prod.mk Nat (Prod Nat AV) o (@Prod.mk Nat AV (@OfNat.ofNat Nat (nat_lit 1) (instOfNatNat (nat_lit 1))) (AV.slice i p n c))) rest)) (fillA (@List.set AV z o (AV.slice i p n c)) rest)) ∧
  (∀ {z : List AV} {o : Nat} {rest : List (Prod Nat (Prod Nat AV))}, @LT.lt Nat instLTNat o (@List.length AV z) → @Eq (Option (List AV)) (fillA z (@List.cons (Prod Nat (Prod Nat AV)) (@Prod.mk Nat (Prod Nat AV) o (@Prod.mk Nat AV (@OfNat.ofNat Nat (nat_lit 1) (instOfNatNat (nat_lit 1))) AV.nilslice)) rest)) (fillA (@List.set AV z o AV.nilslice) rest)) ∧
  (∀ {z : List AV} {o g : Nat} {f c : List AV} {rest : List (Prod Nat (Prod Nat AV))}, @LT.lt Nat instLTNat o (@List.length AV z) → @Eq (Option (List AV)) (fillA z (@List.cons (Prod Nat (Prod Nat AV)) (@Prod.mk Nat (Prod Nat AV) o (@Prod.mk Nat AV (@OfNat.ofNat Nat (nat_lit 1) (instOfNatNat (nat_lit 1))) (AV.func g f c))) rest)) (fillA (@List.set AV z o (AV.func g f c)) rest)) ∧
  (∀ {z : List AV} {o n : Nat} {xs : List AV} {rest : List (Prod Nat (Prod Nat AV))}, @Eq Nat (@List.length AV xs) n → @LE.le Nat instLENat (@HAdd.hAdd Nat Nat Nat (@instHAdd Nat instAddNat) o n) (@List.length AV z) → @Eq (Option (List AV)) (fillA z (@List.cons (Prod Nat (Prod Nat AV)) (@Prod.mk Nat (Prod Nat AV) o (@Prod.mk Nat AV n (AV.agg xs))) rest)) (fillA (@HAppend.hAppend (List AV) (List AV) (List AV) (@instHAppendOfAppend (List AV) (@List.instAppend AV)) (@HAppend.hAppend (List AV) (List AV) (List AV) (@instHAppendOfAppend (List AV) (@List.instAppend AV)) (@List.take AV o z) xs) (@List.drop AV (@HAdd.hAdd Nat Nat Nat (@instHAdd Nat instAddNat) o n) z)) rest)) ∧
  (∀ {z : List AV} {o : Nat} {v : AV} {rest : List (Prod Nat (Prod Nat AV))}, @Eq (List AV) (AV.cells v) (@List.cons AV v (@List.nil AV)) → @LT.lt Nat instLTNat o (@List.length AV z) → @Eq (Option (List AV)) (fillA z (@List.cons (Prod Nat (Prod Nat AV)) (@Prod.mk Nat (Prod Nat AV) o (@Prod.mk Nat AV (@OfNat.ofNat Nat (nat_lit 1) (instOfNatNat (nat_lit 1))) v)) rest)) (fillA (@List.set AV z o v) rest)) ∧
  (∀ {h : Heap}, @Eq (Option (Prod AV Heap)) (storeOA (@some Heap h)) (@some (Prod AV Heap) (@Prod.mk AV Heap AV.undef h))) ∧
  (∀ {z : List AV} {h : Heap}, @Eq (Option (Prod AV Heap)) (jc3 (@none Nat) z h) (@some (Prod AV Heap) (@Prod.mk AV Heap (AV.ptr (Heap.size h) (@OfNat.ofNat Nat (nat_lit 0) (instOfNatNat (nat_lit 0)))) (Heap.push h (ABlk.cells z true (@OfNat.ofNat Nat (nat_lit 0) (instOfNatNat (nat_lit 0)))))))) ∧
  (∀ {z : List AV} {h : Heap} {n : Nat}, @Eq (Option (Prod AV Heap)) (jc3 (@some Nat n) z h) (kept n h (Heap.get h n) fun n x p => @some (Prod AV Heap) (@Prod.mk AV Heap (AV.ptr n (@OfNat.ofNat Nat (nat_lit 0) (instOfNatNat (nat_lit 0)))) (p (ABlk.cells z true (@OfNat.ofNat Nat (nat_lit 0) (instOfNatNat (nat_lit 0)))))))) ∧
  (∀ {n : Nat} {h : Heap} {f : Nat → Heap → (ABlk → Heap) → Option (Prod AV Heap)}, @LT.lt Nat instLTNat n (Heap.size h) → @Eq (Option (Prod AV Heap)) (kept n h (@none ABlk) f) (f n h fun b => Heap.put h n b)) ∧
  (∀ {n : Nat} {cs : List AV} {h : Heap}, @Eq (Option (Prod AV Heap)) (ja3 (@none Nat) n (@some (List AV) cs) h) (@some (Prod AV Heap) (@Prod.mk AV Heap (AV.slice (Heap.size h) (@OfNat.ofNat Nat (nat_lit 0) (instOfNatNat (nat_lit 0))) n (Cap.known n)) (Heap.push h (ABlk.cells cs true (@OfNat.ofNat Nat (nat_lit 0) (instOfNatNat (nat_lit 0)))))))) ∧
  (∀ {n : Nat} {cs : List AV} {h : Heap} {i : Nat}, @Eq (Option (Prod AV Heap)) (ja3 (@some Nat i) n (@some (List AV) cs) h) (kept i h (Heap.get h i) fun i x p => @some (Prod AV Heap) (@Prod.mk AV Heap (AV.slice i (@OfNat.ofNat Nat (nat_lit 0) (instOfNatNat (nat_lit 0))) n (Cap.known n)) (p (ABlk.cells cs true (@OfNat.ofNat Nat (nat_lit 0) (instOfNatNat (nat_lit 0)))))))) ∧
  (∀ {z : List AV} {bytes : Nat} {h : Heap} {k k' : IntKind} {l c : Int}, And (@LE.le Int Int.instLEInt (@OfNat.ofNat Int (nat_lit 0) (@instOfNat (nat_lit 0))) l) (And (@LE.le Int Int.instLEInt l c) (And (@LE.le Int Int.instLEInt (@HMul.hMul Int Int Int (@instHMul Int Int.instMul) c (@Nat.cast Int instNatCastInt bytes)) (@OfNat.ofNat Int (nat_lit 140737488355328) (@instOfNat (nat_lit 140737488355328)))) (@LE.le Int Int.instLEInt c (@OfNat.ofNat Int (nat_lit 140737488355328) (@instOfNat (nat_lit 140737488355328)))))) → @Eq (Option (Prod AV Heap)) (makeA (@none Nat) z bytes h (AV.int k l) (AV.int k' c)) (@some (Prod AV Heap) (@Prod.mk AV Heap (AV.slice (Heap.size h) (@OfNat.ofNat Nat (nat_lit 0) (instOfNatNat (nat_lit 0))) (Int.toNat l) (Cap.known (Int.toNat c))) (Heap.push h (ABlk.cells (jaH (Int.toNat c) z) true (@OfNat.ofNat Nat (nat_lit 0) (instOfNatNat (nat_lit 0)))))))) ∧
  (∀ {z : List AV} {bytes : Nat} {h : Heap} {k k' : IntKind} {l c : Int} {i : Nat}, And (@LE.le Int Int.instLEInt (@OfNat.ofNat Int (nat_lit 0) (@instOfNat (nat_lit 0))) l) (And (@LE.le Int Int.instLEInt l c) (And (@LE.le Int Int.instLEInt (@HMul.hMul Int Int Int (@instHMul Int Int.instMul) c (@Nat.cast Int instNatCastInt bytes)) (@OfNat.ofNat Int (nat_lit 140737488355328) (@instOfNat (nat_lit 140737488355328)))) (@LE.le Int Int.instLEInt c (@OfNat.ofNat Int (nat_lit 140737488355328) (@instOfNat (nat_lit 140737488355328)))))) → @Eq (Option (Prod AV Heap)) (makeA (@some Nat i) z bytes h (AV.int k l) (AV.int k' c)) (kept i h (Heap.get h i) fun i x p => @some (Prod AV Heap) (@Prod.mk AV Heap (AV.slice i (@OfNat.ofNat Nat (nat_lit 0) (instOfNatNat (nat_lit 0))) (Int.toNat l) (Cap.known (Int.toNat c))) (p (ABlk.cells (jaH (Int.toNat c) z) true (@OfNat.ofNat Nat (nat_lit 0) (instOfNatNat (nat_lit 0)))))))) ∧
  (∀ {sz i o n : Nat} {c : Cap} {kk : IntKind} {k : Int}, And (@LE.le Int Int.instLEInt (@OfNat.ofNat Int (nat_lit 0) (@instOfNat (nat_lit 0))) k) (@LT.lt Int Int.instLTInt k (@Nat.cast Int instNatCastInt n)) → @Eq (Option AV) (idxA sz (AV.slice i o n c) (AV.int kk k)) (@some AV (AV.ptr i (@HAdd.hAdd Nat Nat Nat (@instHAdd Nat instAddNat) o (@HMul.hMul Nat Nat Nat (@instHMul Nat instMulNat) (Int.toNat k) sz))))) ∧
  (∀ {sz len i o : Nat} {kk : IntKind} {k : Int}, And (@LE.le Int Int.instLEInt (@OfNat.ofNat Int (nat_lit 0) (@instOfNat (nat_lit 0))) k) (@LT.lt Int Int.instLTInt k (@Nat.cast Int instNatCastInt len)) → @Eq (Option AV) (jeG sz len (AV.ptr i o) (AV.int kk k)) (@some AV (AV.ptr i (@HAdd.hAdd Nat Nat Nat (@instHAdd Nat instAddNat) o (@HMul.hMul Nat Nat Nat (@instHMul Nat instMulNat) (Int.toNat k) sz))))) ∧
  (∀ {off i o : Nat}, @Eq (Option AV) (ja8 off (AV.ptr i o)) (@some AV (AV.ptr i (@HAdd.hAdd Nat Nat Nat (@instHAdd Nat instAddNat) o off)))) ∧
  (∀ {agg : Bool} {off n : Nat} {vs : List AV}, @Eq (Option AV) (jin agg off n (AV.agg vs)) (partA agg vs off n)) ∧
  (∀ {vs : List AV} {o n : Nat}, @Eq (Option AV) (partA false vs o n) (@getElem? (List AV) Nat AV (fun xs i => @LT.lt Nat instLTNat i (@List.length AV xs)) (@List.instGetElem?NatLtLength AV) vs o)) ∧
  (∀ {vs : List AV} {o n : Nat}, @LE.le Nat instLENat (@HAdd.hAdd Nat Nat Nat (@instHAdd Nat instAddNat) o n) (@List.length AV vs) → @Eq (Option AV) (partA true vs o n) (@some AV (AV.agg (cut vs o n)))) ∧
  (∀ {i o n : Nat} {c : Cap}, @Eq (Option AV) (lenA (AV.slice i o n c)) (@some AV (AV.int IntKind.i64 (@Nat.cast Int instNatCastInt n)))) ∧
  (@Eq (Option AV) (lenA AV.nilslice) (@some AV (AV.int IntKind.i64 (@OfNat.ofNat Int (nat_lit 0) (@instOfNat (nat_lit 0)))))) ∧
  (∀ {k : IntKind} {n : Int}, @Eq (List AV) (AV.cells (AV.int k n)) (@List.cons AV (AV.int k n) (@List.nil AV))) ∧
  (∀ {b : Bool}, @Eq (List AV) (AV.cells (AV.bool b)) (@List.cons AV (AV.bool b) (@List.nil AV))) ∧
  (∀ {vs : List AV}, @Eq (List AV) (AV.cells (AV.agg vs)) vs) ∧
  (∀ {i o n : Nat} {c : Cap}, @Eq (List AV) (AV.cells (AV.slice i o n c)) (@List.cons AV (AV.slice i o n c) (@List.nil AV))) ∧
  (@Eq (List AV) (AV.cells AV.nilslice) (@List.cons AV AV.nilslice (@List.nil AV))) ∧
  (∀ {i o : Nat}, @Eq (List AV) (AV.cells (AV.ptr i o)) (@List.cons AV (AV.ptr i o) (@List.nil AV))) ∧
  (∀ {g : Nat} {f c : List AV}, @Eq (List AV) (AV.cells (AV.func g f c)) (@List.cons AV (AV.func g f c) (@List.nil AV))) ∧
  (∀ {l : Nat}, @Eq (List AV) (AV.cells (AV.yield l)) (@List.cons AV (AV.yield l) (@List.nil AV))) ∧
  (∀ {l : List Int}, @Eq Nat (@List.length AV (ints l)) (@List.length Int l)) ∧
  (∀ {l : List Int} {k : Nat}, @LT.lt Nat instLTNat k (@List.length Int l) → @Eq (Option AV) (@getElem? (List AV) Nat AV (fun xs i => @LT.lt Nat instLTNat i (@List.length AV xs)) (@List.instGetElem?NatLtLength AV) (ints l) k) (@some AV (AV.int IntKind.i64 (@List.getD Int l k (@OfNat.ofNat Int (nat_lit 0) (@instOfNat (nat_lit 0))))))) ∧
  (∀ {l : List Int} {k : Nat} {x : Int}, @Eq (List AV) (@List.set AV (ints l) k (AV.int IntKind.i64 x)) (ints (@List.set Int l k x))) ∧
  (∀ {l : List Int} {x : Int}, @Eq (List AV) (@HAppend.hAppend (List AV) (List AV) (List AV) (@instHAppendOfAppend (List AV) (@List.instAppend AV)) (ints l) (@List.cons AV (AV.int IntKind.i64 x) (@List.nil AV))) (ints (@HAppend.hAppend (List Int) (List Int) (List Int) (@instHAppendOfAppend (List Int) (@List.instAppend Int)) l (@List.cons Int x (@List.nil Int))))) ∧
  (∀ {sz i o n : Nat} {c : Cap} {k : Nat}, @Eq AV (elA sz (AV.slice i o n c) k) (AV.ptr i (@HAdd.hAdd Nat Nat Nat (@instHAdd Nat instAddNat) o (@HMul.hMul Nat Nat Nat (@instHMul Nat instMulNat) k sz)))) ∧
  (∀ {n : Nat} {x : AV}, @Eq (List AV) (jaH n (@List.cons AV x (@List.nil AV))) (@List.replicate AV n x)) ∧
  (∀ {r : ALoop} {K : ALoop → Prop}, @Eq Prop (@jco (@some ABlk (ABlk.loop r)) (HoldL.mk K)) (K r)) ∧
  (∀ {t : Nat → AV}, @Eq (Nat → AV) (jaL t (@List.nil Nat) (@List.nil AV)) t) ∧
  (∀ {t : Nat → AV} {p : Nat} {ps : List Nat} {a : AV} {xs : List AV}, @Eq (Nat → AV) (jaL t (@List.cons Nat p ps) (@List.cons AV a xs)) (jaL (upd t p a) ps xs)) ∧
  (∀ {a b : Nat}, @LE.le Nat instLENat a b → @Eq Nat (@min Nat instMinNat a b) a) ∧
  (∀ (n : Nat), @Eq Nat (Int.toNat (@Nat.cast Int instNatCastInt n)) n) ∧
  (∀ (n : Nat), @Eq Nat (@HAdd.hAdd Nat Nat Nat (@instHAdd Nat instAddNat) (@OfNat.ofNat Nat (nat_lit 0) (instOfNatNat (nat_lit 0))) n) n) ∧
  (∀ (n : Nat), @Eq Nat (@HAdd.hAdd Nat Nat Nat (@instHAdd Nat instAddNat) n (@OfNat.ofNat Nat (nat_lit 0) (instOfNatNat (nat_lit 0)))) n) ∧
  (∀ (n : Nat), @Eq Nat (@HMul.hMul Nat Nat Nat (@instHMul Nat instMulNat) n (@OfNat.ofNat Nat (nat_lit 1) (instOfNatNat (nat_lit 1)))) n) ∧
  (∀ (n : Nat), @Eq Nat (@HMul.hMul Nat Nat Nat (@instHMul Nat instMulNat) (@OfNat.ofNat Nat (nat_lit 0) (instOfNatNat (nat_lit 0))) n) (@OfNat.ofNat Nat (nat_lit 0) (instOfNatNat (nat_lit 0)))) ∧
  (∀ (h : Decidable True), @Eq Bool (@decide True h) true) ∧
  (∀ (h : Decidable False), @Eq Bool (@decide False h) false) ∧
  (@Eq Bool (not true) false) ∧
  (@Eq Bool (not false) true) ∧
  (∀ {p : Prop} [inst : Decidable p], @Eq Prop (@Eq Bool (@decide p inst) true) p) ∧
  (∀ (k : IntKind) (n : Int) (k_1 : IntKind) (n_1 : Int), @Eq Prop (@Eq AV (AV.int k n) (AV.int k_1 n_1)) (And (@Eq IntKind k k_1) (@Eq Int n n_1))) :=
 ⟨@jnM,
   @jlM,
   @jlN,
   @jnN,
   @jgG,
   @jnO,
   @jpB,
   @jnP,
   @jjM,
   @jfk,
   @jjv,
   @jo7,
   @jm6,
   @jm7,
   @jm8,
   @jo8,
   @jm9,
   @jna,
   @jnb,
   @jls,
   @jjz,
   @jjA,
   @jqz,
   @jnc,
   @jqA,
   @jqB,
   @jo9,
   @jqC,
   @jlt,
   @jpa,
   @jpb,
   @jlu,
   @jpc,
   @jnd,
   @jqD,
   @jlv,
   @jpd,
   @jlw,
   @jpe,
   @jjB,
   @jne,
   @jlx,
   @jpf,
   @jpg,
   @jrR,
   @jly,
   @jph,
   @jnf,
   @jqE,
   @jng,
   @jqF,
   @false_implies,
   @true_and,
   @and_true,
   @joW,
   @joX,
   @jim,
   @jm0,
   @joY,
   @joZ,
   @jlq,
   @jmZ,
   @jrO,
   @jo2,
   @jqv,
   @jo3,
   @jo4,
   @jrP,
   @jo5,
   @jlm,
   @jjt,
   @jmU,
   @jmV,
   @jrL,
   @jrJ,
   @jrK,
   @gV_tt,
   @gV_tf,
   @gV_ft,
   @gV_ff,
   @gV_dt,
   @gV_df,
   @gV_vt,
   @gV_vf,
   @jmW,
   @joT,
   @jln,
   @jm2,
   @jm3,
   @jrS,
   @jpi,
   @jnh,
   @jpj,
   @jio,
   @jqG,
   @jqH,
   @jqI,
   @jqJ,
   @jrT,
   @jpk,
   @jlz,
   @jni,
   @jhg,
   @jnj,
   @jhh,
   @jip,
   @jnk,
   @jjC,
   @jqK,
   @jqL,
   @jqM,
   @jqN,
   @jnl,
   @jqO,
   @jge,
   @jnm,
   @jhi,
   @jlA,
   @jpl,
   @jqT,
   @jqU,
   @jqV,
   @jqW,
   @jqX,
   @jqY,
   @jrU,
   @jqZ,
   @jlB,
   @jq0,
   @jq1,
   @jq2,
   @jq3,
   @jq4,
   @jq5,
   @jq6,
   @jq7,
   @jno,
   @jrV,
   @jrW,
   @jrX,
   @jpq,
   @jrY,
   @jrZ,
   @jq8,
   @jq9,
   @jra,
   @jrb,
   @jrc,
   @jrd,
   @jnp,
   @jre,
   @jnq,
   @jrf,
   @jnr,
   @w_i64,
   @w_i32,
   @w_u8,
   @w_u32,
   @w_u64,
   @jqP,
   @jqQ,
   @jqR,
   @jpm,
   @jpn,
   @jpo,
   @jpp,
   @jqS,
   @jnn,
   @jaf,
   @jai,
   @jaP,
   @jae,
   @jns,
   @jpr,
   @jjD,
   @Heap.size_push,
   @Heap.size_put,
   @Heap.size_reserve,
   @Heap.get_reserve,
   @jpt,
   @jnv,
   @jnw,
   @jnx,
   @jlC,
   @jjE,
   @jiq,
   @jlD,
   @jgE,
   @jlE,
   @jgF,
   @jlF,
   @jrg,
   @jpu,
   @jhl,
   @jpv,
   @jpw,
   @jnz,
   @jpx,
   @jlG,
   @jhm,
   @jnA,
   @jpy,
   @jbO,
   @jjF,
   @jlH,
   @jlI,
   @jnB,
   @jjG,
   @jjH,
   @jnC,
   @jnD,
   @jnE,
   @jlJ,
   @jhn,
   @jnF,
   @jpz,
   @jpA,
   @jnG,
   @jrh,
   @jnH,
   @jlK,
   @jnI,
   @jjI,
   @jnJ,
   @jnK,
   @jlL,
   @jjJ,
   @jaO,
   @jkM,
   @jps,
   @jbV,
   @jnu,
   @jnt,
   @jjK,
   @jhq,
   @jgf,
   @Nat.min_eq_left,
   @Int.toNat_natCast,
   @Nat.zero_add,
   @Nat.add_zero,
   @Nat.mul_one,
   @Nat.zero_mul,
   @decide_true,
   @decide_false,
   @Bool.not_true,
   @Bool.not_false,
   @decide_eq_true_eq,
   @AV.int.injEq⟩
theorem jar :
  (∀ {α : Type} {l : List α}, l ++ [] = l) ∧
  (∀ {α : Type} {a : α} {l m : List α}, (a :: l) ++ m = a :: (l ++ m)) ∧
  (∀ {α : Type} {a : α} {l : List α} {i : Nat}, (a :: l).drop (i + 1) = l.drop i) ∧
  (∀ {α : Type} {l : List α}, l.drop 0 = l) ∧
  (∀ {α : Type} {p : α → Prop} {a : α} {l : List α}, (∀ x ∈ a :: l, p x) = (p a ∧ ∀ x ∈ l, p x)) ∧
  (∀ {α : Type} {a d : α} {l : List α} {i : Nat}, (a :: l).getD (i + 1) d = l.getD i d) ∧
  (∀ {α : Type} {a d : α} {l : List α}, (a :: l).getD 0 d = a) ∧
  (∀ {α : Type} {d : α} {i : Nat}, ([] : List α).getD i d = d) ∧
  (∀ {α : Type} {a : α} {l : List α} {i : Nat}, (a :: l)[i + 1]? = l[i]?) ∧
  (∀ {α : Type} {a : α} {l : List α}, (a :: l)[0]? = some a) ∧
  (∀ {α : Type} {a : α} {l : List α}, (a :: l).length = l.length + 1) ∧
  (∀ {α : Type}, ([] : List α).length = 0) ∧
  (∀ {α β : Type} {f : α → β} {a : α} {l : List α}, (a :: l).map f = f a :: l.map f) ∧
  (∀ {α β : Type} {f : α → β}, ([] : List α).map f = []) ∧
  (∀ {α : Type} {l : List α}, [] ++ l = l) ∧
  (∀ {α : Type} {a : α}, (a ∈ ([] : List α)) = False) ∧
  (∀ {α : Type} {a b : α} {l : List α} {i : Nat}, (a :: l).set (i + 1) b = a :: l.set i b) ∧
  (∀ {α : Type} {a b : α} {l : List α}, (a :: l).set 0 b = b :: l) ∧
  (∀ {α : Type} {a : α} {l : List α} {i : Nat}, (a :: l).take (i + 1) = a :: l.take i) ∧
  (∀ {α : Type} {l : List α}, l.take 0 = []) ∧
  (∀ {α β : Type} {f : α → β}, (none : Option α).map f = none) ∧
  (∀ {α β : Type} {f : α → β} {a : α}, (some a).map f = some (f a)) ∧
  (∀ {α : Type} {a : α}, (a = a) = True) ∧
  (∀ {α : Type} {p : α → Prop} {b : α}, (∃ a, a = b ∧ p a) = p b) ∧
  (∀ {α : Type} {p : α → Prop} {b : α}, (∃ a, b = a ∧ p a) = p b) ∧
  (∀ {α : Type}, (α → True) = True) ∧
  (∀ {α : Prop}, (α → True) = True) ∧
  (∀ {α : Type} {a b : α}, (a ≠ b) = ¬ a = b) := by
 refine ⟨?_, ?_, ?_, ?_, ?_, ?_, ?_, ?_, ?_, ?_, ?_, ?_, ?_, ?_, ?_, ?_, ?_, ?_, ?_, ?_, ?_, ?_, ?_, ?_, ?_, ?_, ?_, ?_⟩ <;> intros <;> simp
theorem wpD1 :
  (∀ {h : Heap} {b : ABlk}, (h.push b).size = h.size + 1) ∧
  (∀ {h : Heap} {i : Nat} {b : ABlk}, (h.put i b).size = h.size) ∧
  (∀ {h : Heap} {k : Nat}, (h.reserve k).size = h.size + k) ∧
  (∀ {l : List Int}, (ints l).length = l.length) ∧
  (∀ {x y : Nat}, (x ∈ [y]) = (x = y)) ∧
  (∀ {α : Type} {a : α} {l : List α}, (a :: l).length = l.length + 1) ∧
  (∀ {α : Type}, ([] : List α).length = 0) ∧
  (∀ {α : Type} {n : Nat} {a : α}, (List.replicate n a).length = n) ∧
  (∀ {α : Type} {l : List α} {i : Nat} {a : α}, (l.set i a).length = l.length) :=
 ⟨rfl, rfl, rfl, jaO, by simp, List.length_cons, List.length_nil, List.length_replicate, List.length_set⟩
theorem wpD2 :
  (∀ {k : IntKind} {n : Int}, (AV.int k n).one = true) ∧ (∀ {b : Bool}, (AV.bool b).one = true) ∧ (∀ {i o : Nat}, (AV.ptr i o).one = true) ∧ (∀ {i o n : Nat} {c : Cap}, (AV.slice i o n c).one = true) ∧ AV.nilslice.one = true ∧
  (∀ {g : Nat} {f c : List AV}, (AV.func g f c).one = true) ∧
  (∀ {α : Type} {p : α → Bool} {a : α} {l : List α}, (a :: l).all p = (p a && l.all p)) ∧ (∀ {α : Type} {p : α → Bool}, ([] : List α).all p = true) ∧
  (∀ {a b : Bool}, ((a && b) = true) = (a = true ∧ b = true)) ∧ (∀ {p : Prop}, (p ∧ p) = p) ∧ (∀ {p : Prop}, (True ∧ p) = p) ∧ (∀ {p : Prop}, (p ∧ True) = p) ∧ ((true = true) = True) := by
 refine ⟨?_, ?_, ?_, ?_, ?_, ?_, ?_, ?_, ?_, ?_, ?_, ?_, ?_⟩ <;> intros <;> first | rfl | simp
theorem zd {P : Prop} (h : P := by first | assumption | decide | omega | (simp only [wpD1] <;> omega) | (simp only [wpD2] <;> assumption) | solve_by_elim [zR, zP, zV] | fail) : P := h
theorem zs {P Q : Prop} (h : Q) (e : P = Q := by simp -implicitDefEqProofs (disch := first | exact zd | fail) only [↓wpPre, jaq, jar, Int.reduceToNat, Int.reducePow, Int.reduceMul, Int.reduceAdd, Int.reduceSub, Int.reduceNeg, Nat.reduceAdd, Nat.reduceMul, Nat.reducePow, Int.reduceLT, Int.reduceLE, Int.reduceEq, Nat.reduceEqDiff]; rfl) : P := e ▸ h
theorem ze {P : Prop} (h : P := by simp -implicitDefEqProofs (disch := first | exact zd | fail) only [↓wpPre, jaq, jar, Int.reduceToNat, Int.reducePow, Int.reduceMul, Int.reduceAdd, Int.reduceSub, Int.reduceNeg, Nat.reduceAdd, Nat.reduceMul, Nat.reducePow, Int.reduceLT, Int.reduceLE, Int.reduceEq, Nat.reduceEqDiff]) : P := h
theorem zs1 {P Q A1 : Prop} (a : A1) (hh : Q) (ee : A1 → P = Q := by intro ya; simp -implicitDefEqProofs (disch := first | exact zd | fail) only [↓wpPre, jaq, jar, Int.reduceToNat, Int.reducePow, Int.reduceMul, Int.reduceAdd, Int.reduceSub, Int.reduceNeg, Nat.reduceAdd, Nat.reduceMul, Nat.reducePow, Int.reduceLT, Int.reduceLE, Int.reduceEq, Nat.reduceEqDiff, ya]; rfl) : P := ee a ▸ hh
theorem ze1 {P A1 : Prop} (a : A1) (ee : A1 → P := by intro ya; simp -implicitDefEqProofs (disch := first | exact zd | fail) only [↓wpPre, jaq, jar, Int.reduceToNat, Int.reducePow, Int.reduceMul, Int.reduceAdd, Int.reduceSub, Int.reduceNeg, Nat.reduceAdd, Nat.reduceMul, Nat.reducePow, Int.reduceLT, Int.reduceLE, Int.reduceEq, Nat.reduceEqDiff, ya]) : P := ee a
theorem zs2 {P Q A1 B1 : Prop} (a : A1) (b : B1) (hh : Q) (ee : A1 → B1 → P = Q := by intro ya yb; simp -implicitDefEqProofs (disch := first | exact zd | fail) only [↓wpPre, jaq, jar, Int.reduceToNat, Int.reducePow, Int.reduceMul, Int.reduceAdd, Int.reduceSub, Int.reduceNeg, Nat.reduceAdd, Nat.reduceMul, Nat.reducePow, Int.reduceLT, Int.reduceLE, Int.reduceEq, Nat.reduceEqDiff, ya, yb]; rfl) : P := ee a b ▸ hh
theorem ze2 {P A1 B1 : Prop} (a : A1) (b : B1) (ee : A1 → B1 → P := by intro ya yb; simp -implicitDefEqProofs (disch := first | exact zd | fail) only [↓wpPre, jaq, jar, Int.reduceToNat, Int.reducePow, Int.reduceMul, Int.reduceAdd, Int.reduceSub, Int.reduceNeg, Nat.reduceAdd, Nat.reduceMul, Nat.reducePow, Int.reduceLT, Int.reduceLE, Int.reduceEq, Nat.reduceEqDiff, ya, yb]) : P := ee a b
theorem zs3 {P Q A1 B1 C1 : Prop} (a : A1) (b : B1) (c : C1) (hh : Q) (ee : A1 → B1 → C1 → P = Q := by intro ya yb yc; simp -implicitDefEqProofs (disch := first | exact zd | fail) only [↓wpPre, jaq, jar, Int.reduceToNat, Int.reducePow, Int.reduceMul, Int.reduceAdd, Int.reduceSub, Int.reduceNeg, Nat.reduceAdd, Nat.reduceMul, Nat.reducePow, Int.reduceLT, Int.reduceLE, Int.reduceEq, Nat.reduceEqDiff, ya, yb, yc]; rfl) : P := ee a b c ▸ hh
theorem ze3 {P A1 B1 C1 : Prop} (a : A1) (b : B1) (c : C1) (ee : A1 → B1 → C1 → P := by intro ya yb yc; simp -implicitDefEqProofs (disch := first | exact zd | fail) only [↓wpPre, jaq, jar, Int.reduceToNat, Int.reducePow, Int.reduceMul, Int.reduceAdd, Int.reduceSub, Int.reduceNeg, Nat.reduceAdd, Nat.reduceMul, Nat.reducePow, Int.reduceLT, Int.reduceLE, Int.reduceEq, Nat.reduceEqDiff, ya, yb, yc]) : P := ee a b c
theorem zs4 {P Q A1 B1 C1 D1 : Prop} (a : A1) (b : B1) (c : C1) (d : D1) (hh : Q) (ee : A1 → B1 → C1 → D1 → P = Q := by intro ya yb yc yd; simp -implicitDefEqProofs (disch := first | exact zd | fail) only [↓wpPre, jaq, jar, Int.reduceToNat, Int.reducePow, Int.reduceMul, Int.reduceAdd, Int.reduceSub, Int.reduceNeg, Nat.reduceAdd, Nat.reduceMul, Nat.reducePow, Int.reduceLT, Int.reduceLE, Int.reduceEq, Nat.reduceEqDiff, ya, yb, yc, yd]; rfl) : P := ee a b c d ▸ hh
theorem zs5 {P Q A1 B1 C1 D1 E1 : Prop} (a : A1) (b : B1) (c : C1) (d : D1) (e : E1) (hh : Q) (ee : A1 → B1 → C1 → D1 → E1 → P = Q := by intro ya yb yc yd ye; simp -implicitDefEqProofs (disch := first | exact zd | fail) only [↓wpPre, jaq, jar, Int.reduceToNat, Int.reducePow, Int.reduceMul, Int.reduceAdd, Int.reduceSub, Int.reduceNeg, Nat.reduceAdd, Nat.reduceMul, Nat.reducePow, Int.reduceLT, Int.reduceLE, Int.reduceEq, Nat.reduceEqDiff, ya, yb, yc, yd, ye]; rfl) : P := ee a b c d e ▸ hh
theorem zs6 {P Q A1 B1 C1 D1 E1 F1 : Prop} (a : A1) (b : B1) (c : C1) (d : D1) (e : E1) (f : F1) (hh : Q) (ee : A1 → B1 → C1 → D1 → E1 → F1 → P = Q := by intro ya yb yc yd ye yf; simp -implicitDefEqProofs (disch := first | exact zd | fail) only [↓wpPre, jaq, jar, Int.reduceToNat, Int.reducePow, Int.reduceMul, Int.reduceAdd, Int.reduceSub, Int.reduceNeg, Nat.reduceAdd, Nat.reduceMul, Nat.reducePow, Int.reduceLT, Int.reduceLE, Int.reduceEq, Nat.reduceEqDiff, ya, yb, yc, yd, ye, yf]; rfl) : P := ee a b c d e f ▸ hh
theorem ze6 {P A1 B1 C1 D1 E1 F1 : Prop} (a : A1) (b : B1) (c : C1) (d : D1) (e : E1) (f : F1) (ee : A1 → B1 → C1 → D1 → E1 → F1 → P := by intro ya yb yc yd ye yf; simp -implicitDefEqProofs (disch := first | exact zd | fail) only [↓wpPre, jaq, jar, Int.reduceToNat, Int.reducePow, Int.reduceMul, Int.reduceAdd, Int.reduceSub, Int.reduceNeg, Nat.reduceAdd, Nat.reduceMul, Nat.reducePow, Int.reduceLT, Int.reduceLE, Int.reduceEq, Nat.reduceEqDiff, ya, yb, yc, yd, ye, yf]) : P := ee a b c d e f
theorem zs7 {P Q A1 B1 C1 D1 E1 F1 G1 : Prop} (a : A1) (b : B1) (c : C1) (d : D1) (e : E1) (f : F1) (g : G1) (hh : Q) (ee : A1 → B1 → C1 → D1 → E1 → F1 → G1 → P = Q := by intro ya yb yc yd ye yf yg; simp -implicitDefEqProofs (disch := first | exact zd | fail) only [↓wpPre, jaq, jar, Int.reduceToNat, Int.reducePow, Int.reduceMul, Int.reduceAdd, Int.reduceSub, Int.reduceNeg, Nat.reduceAdd, Nat.reduceMul, Nat.reducePow, Int.reduceLT, Int.reduceLE, Int.reduceEq, Nat.reduceEqDiff, ya, yb, yc, yd, ye, yf, yg]; rfl) : P := ee a b c d e f g ▸ hh
theorem zs8 {P Q A1 B1 C1 D1 E1 F1 G1 H1 : Prop} (a : A1) (b : B1) (c : C1) (d : D1) (e : E1) (f : F1) (g : G1) (h : H1) (hh : Q) (ee : A1 → B1 → C1 → D1 → E1 → F1 → G1 → H1 → P = Q := by intro ya yb yc yd ye yf yg yh; simp -implicitDefEqProofs (disch := first | exact zd | fail) only [↓wpPre, jaq, jar, Int.reduceToNat, Int.reducePow, Int.reduceMul, Int.reduceAdd, Int.reduceSub, Int.reduceNeg, Nat.reduceAdd, Nat.reduceMul, Nat.reducePow, Int.reduceLT, Int.reduceLE, Int.reduceEq, Nat.reduceEqDiff, ya, yb, yc, yd, ye, yf, yg, yh]; rfl) : P := ee a b c d e f g h ▸ hh
theorem zs9 {P Q A1 B1 C1 D1 E1 F1 G1 H1 I1 : Prop} (a : A1) (b : B1) (c : C1) (d : D1) (e : E1) (f : F1) (g : G1) (h : H1) (i : I1) (hh : Q) (ee : A1 → B1 → C1 → D1 → E1 → F1 → G1 → H1 → I1 → P = Q := by intro ya yb yc yd ye yf yg yh yi; simp -implicitDefEqProofs (disch := first | exact zd | fail) only [↓wpPre, jaq, jar, Int.reduceToNat, Int.reducePow, Int.reduceMul, Int.reduceAdd, Int.reduceSub, Int.reduceNeg, Nat.reduceAdd, Nat.reduceMul, Nat.reducePow, Int.reduceLT, Int.reduceLE, Int.reduceEq, Nat.reduceEqDiff, ya, yb, yc, yd, ye, yf, yg, yh, yi]; rfl) : P := ee a b c d e f g h i ▸ hh
theorem zs10 {P Q A1 B1 C1 D1 E1 F1 G1 H1 I1 J1 : Prop} (a : A1) (b : B1) (c : C1) (d : D1) (e : E1) (f : F1) (g : G1) (h : H1) (i : I1) (j : J1) (hh : Q) (ee : A1 → B1 → C1 → D1 → E1 → F1 → G1 → H1 → I1 → J1 → P = Q := by intro ya yb yc yd ye yf yg yh yi yj; simp -implicitDefEqProofs (disch := first | exact zd | fail) only [↓wpPre, jaq, jar, Int.reduceToNat, Int.reducePow, Int.reduceMul, Int.reduceAdd, Int.reduceSub, Int.reduceNeg, Nat.reduceAdd, Nat.reduceMul, Nat.reducePow, Int.reduceLT, Int.reduceLE, Int.reduceEq, Nat.reduceEqDiff, ya, yb, yc, yd, ye, yf, yg, yh, yi, yj]; rfl) : P := ee a b c d e f g h i j ▸ hh
theorem zs11 {P Q A1 B1 C1 D1 E1 F1 G1 H1 I1 J1 K1 : Prop} (a : A1) (b : B1) (c : C1) (d : D1) (e : E1) (f : F1) (g : G1) (h : H1) (i : I1) (j : J1) (k : K1) (hh : Q) (ee : A1 → B1 → C1 → D1 → E1 → F1 → G1 → H1 → I1 → J1 → K1 → P = Q := by intro ya yb yc yd ye yf yg yh yi yj yk; simp -implicitDefEqProofs (disch := first | exact zd | fail) only [↓wpPre, jaq, jar, Int.reduceToNat, Int.reducePow, Int.reduceMul, Int.reduceAdd, Int.reduceSub, Int.reduceNeg, Nat.reduceAdd, Nat.reduceMul, Nat.reducePow, Int.reduceLT, Int.reduceLE, Int.reduceEq, Nat.reduceEqDiff, ya, yb, yc, yd, ye, yf, yg, yh, yi, yj, yk]; rfl) : P := ee a b c d e f g h i j k ▸ hh
theorem ze11 {P A1 B1 C1 D1 E1 F1 G1 H1 I1 J1 K1 : Prop} (a : A1) (b : B1) (c : C1) (d : D1) (e : E1) (f : F1) (g : G1) (h : H1) (i : I1) (j : J1) (k : K1) (ee : A1 → B1 → C1 → D1 → E1 → F1 → G1 → H1 → I1 → J1 → K1 → P := by intro ya yb yc yd ye yf yg yh yi yj yk; simp -implicitDefEqProofs (disch := first | exact zd | fail) only [↓wpPre, jaq, jar, Int.reduceToNat, Int.reducePow, Int.reduceMul, Int.reduceAdd, Int.reduceSub, Int.reduceNeg, Nat.reduceAdd, Nat.reduceMul, Nat.reducePow, Int.reduceLT, Int.reduceLE, Int.reduceEq, Nat.reduceEqDiff, ya, yb, yc, yd, ye, yf, yg, yh, yi, yj, yk]) : P := ee a b c d e f g h i j k
theorem zs12 {P Q A1 B1 C1 D1 E1 F1 G1 H1 I1 J1 K1 L1 : Prop} (a : A1) (b : B1) (c : C1) (d : D1) (e : E1) (f : F1) (g : G1) (h : H1) (i : I1) (j : J1) (k : K1) (l : L1) (hh : Q) (ee : A1 → B1 → C1 → D1 → E1 → F1 → G1 → H1 → I1 → J1 → K1 → L1 → P = Q := by intro ya yb yc yd ye yf yg yh yi yj yk yl; simp -implicitDefEqProofs (disch := first | exact zd | fail) only [↓wpPre, jaq, jar, Int.reduceToNat, Int.reducePow, Int.reduceMul, Int.reduceAdd, Int.reduceSub, Int.reduceNeg, Nat.reduceAdd, Nat.reduceMul, Nat.reducePow, Int.reduceLT, Int.reduceLE, Int.reduceEq, Nat.reduceEqDiff, ya, yb, yc, yd, ye, yf, yg, yh, yi, yj, yk, yl]; rfl) : P := ee a b c d e f g h i j k l ▸ hh
theorem zh {h1 h2 h h3 : Heap} (x : HSub h1 h2) (e : HSub h1 h2 → HSub h h3 := by intro zx; repeat (first | exact zx | refine HSub.put ?_ (by (try simp only [Heap.size_put, Heap.size_push, Heap.size_reserve]); omega) _ | refine HSub.push ?_ _ | refine HSub.reserve ?_ _)) : HSub h h3 := e x
abbrev pP : Int := 998244353
theorem jgH (a b m : Int) : a % m * b % m = a * b % m := by rw [Int.mul_emod, Int.emod_emod, ← Int.mul_emod]
theorem jgI (a b m : Int) : a * (b % m) % m = a * b % m := by rw [Int.mul_emod, Int.emod_emod, ← Int.mul_emod]
theorem jfl (a : Int) (n : Nat) (m : Int) : (a % m) ^ n % m = a ^ n % m := by
 induction n with
 | zero => simp
 | succ n ih => rw [Int.pow_succ, Int.pow_succ, Int.mul_emod, ih, Int.emod_emod, ← Int.mul_emod]
theorem jag {l : List Int} {i : Nat} (h : i < l.length) : l.take (i + 1) = l.take i ++ [l.getD i 0] := by
 rw [List.take_add_one]; simp [h]
theorem jal {l : List Int} {i : Nat} (h : i < l.length) : l.getD i 0 ∈ l := by
 have : l.getD i 0 = l[i] := by simp [h]
 rw [this]; exact List.getElem_mem h
def pe : List Int → Int → Int
 | [], _ => 0
 | x :: l, z => x + z * pe l z
theorem jc5 (l m : List Int) (z : Int) : pe (l ++ m) z = pe l z + z ^ l.length * pe m z := by
 induction l with
 | nil => simp [pe]
 | cons x l ih => simp only [List.cons_append, pe, ih, List.length_cons, Int.pow_succ, Int.mul_add, Int.add_assoc]; congr 2; rw [← Int.mul_assoc, Int.mul_comm z]
theorem jis {l : List Int} {i : Nat} (h : i < l.length) (z : Int) : pe (l.take (i + 1)) z = pe (l.take i) z + l.getD i 0 * z ^ i := by
 rw [jag h, jc5, List.length_take, Nat.min_eq_left (by omega)]
 simp only [pe, Int.mul_zero, Int.add_zero]; rw [Int.mul_comm]
def evens : List Int → List Int
 | x :: _ :: l => x :: evens l
 | l => l
def odds : List Int → List Int
 | _ :: y :: l => y :: odds l
 | _ => []
theorem jfM : ∀ (l : List Int) (z : Int), pe l z = pe (evens l) (z * z) + z * pe (odds l) (z * z)
 | [], z => by simp [evens, odds, pe]
 | [x], z => by simp [evens, odds, pe]
 | x :: y :: l, z => by
  simp only [evens, odds, pe, jfM l z]
  simp only [Int.mul_add, Int.add_assoc, Int.mul_assoc, Int.mul_left_comm, Int.mul_comm]
  congr 1
  rw [← Int.add_assoc, ← Int.add_assoc]; congr 1
  rw [Int.add_comm]
def dft (w : Int) (l : List Int) : List Int := (List.range l.length).map fun k => pe l (w ^ k) % pP
theorem jau (w : Int) (l : List Int) : (dft w l).length = l.length := by simp [dft]
theorem jce {w : Int} {l : List Int} {k : Nat} (h : k < l.length) : (dft w l).getD k 0 = pe l (w ^ k) % pP := by simp [dft, h]
theorem jcp {w : Int} {l : List Int} : ∀ x ∈ dft w l, 0 ≤ x ∧ x < 998244353 := by
 intro x hx
 obtain ⟨k, _, rfl⟩ := List.mem_map.1 hx
 exact ⟨Int.emod_nonneg _ (by decide), Int.emod_lt_of_pos _ (by decide)⟩
theorem jbE : ∀ l : List Int, (evens l).length = (l.length + 1) / 2
 | [] => rfl
 | [x] => by simp [evens]
 | x :: y :: l => by simp only [evens, List.length_cons, jbE l]; omega
theorem jbW : ∀ l : List Int, (odds l).length = l.length / 2
 | [] => rfl
 | [x] => by simp [odds]
 | x :: y :: l => by simp only [odds, List.length_cons, jbW l]; omega
def jbK (k : Nat) (w : Int) : Prop := ∀ j, k = j + 1 → w ^ 2 ^ j % pP = 998244352
theorem jbK.half {k : Nat} {w : Int} (h : jbK (k + 1) w) : jbK k (w * w % pP) := by
 rintro j rfl
 rw [jfl, ← h (j + 1) rfl, Nat.pow_succ, Nat.mul_comm, Int.pow_mul]
 congr 2; simp [Int.pow_succ]
def Cg (a b : Int) : Prop := a % pP = b % pP
theorem Cg.refl (a : Int) : Cg a a := rfl
theorem Cg.symm {a b : Int} (h : Cg a b) : Cg b a := Eq.symm h
theorem Cg.trans {a b c : Int} (h : Cg a b) (k : Cg b c) : Cg a c := Eq.trans h k
theorem Cg.of_eq {a b : Int} (h : a = b) : Cg a b := by rw [h]; exact Cg.refl _
theorem Cg.emod {a b : Int} (h : Cg a b) : Cg (a % pP) b := by unfold Cg at *; rw [Int.emod_emod]; exact h
theorem Cg.add {a b c d : Int} (h : Cg a b) (k : Cg c d) : Cg (a + c) (b + d) := by unfold Cg at *; rw [Int.add_emod, h, k, ← Int.add_emod]
theorem Cg.sub {a b c d : Int} (h : Cg a b) (k : Cg c d) : Cg (a - c) (b - d) := by unfold Cg at *; rw [Int.sub_emod, h, k, ← Int.sub_emod]
theorem Cg.mul {a b c d : Int} (h : Cg a b) (k : Cg c d) : Cg (a * c) (b * d) := by unfold Cg at *; rw [Int.mul_emod, h, k, ← Int.mul_emod]
theorem Cg.neg {a b : Int} (h : Cg a b) : Cg (-a) (-b) := by have := (Cg.refl 0).sub h; simpa using this
theorem Cg.pow {a b : Int} (h : Cg a b) (n : Nat) : Cg (a ^ n) (b ^ n) := by
 induction n with
 | zero => simp only [Int.pow_zero]; exact Cg.refl _
 | succ n ih => rw [Int.pow_succ, Int.pow_succ]; exact ih.mul h
theorem Cg.pe {a b : Int} (h : Cg a b) (l : List Int) : Cg (pe l a) (pe l b) := by
 induction l with
 | nil => exact Cg.refl _
 | cons x l ih => exact (Cg.refl x).add (h.mul ih)
theorem Cg.plus (a k : Int) : Cg (a + k * pP) a := by unfold Cg; rw [Int.add_mul_emod_self_right]
theorem jri {w : Int} {l : List Int} {k : Nat} {n : Nat} (hn : l.length = 2 * n) (hk : k < n) :
  (dft w l).getD k 0 = ((dft (w * w % pP) (evens l)).getD k 0 + (dft (w * w % pP) (odds l)).getD k 0 * (w ^ k % pP) % pP) % pP := by
 have e1 := jbE l
 have e2 := jbW l
 rw [jce (by omega), jce (by omega), jce (by omega), jfM]
 have hz : ∀ m : List Int, Cg (pe m ((w * w % pP) ^ k)) (pe m (w ^ k * w ^ k)) := fun m => by
  refine Cg.pe ?_ m
  rw [← Int.mul_pow]; exact (Cg.refl _).emod.pow k
 refine Cg.symm (Cg.trans (((hz _).emod.add (((hz _).emod.mul (Cg.refl (w ^ k)).emod).emod))) (Cg.of_eq ?_))
 rw [Int.mul_comm (w ^ k) (pe _ _)]
theorem jpC {w : Int} {l : List Int} {k : Nat} {j : Nat} (hw : jbK (j + 1) w) (hn : l.length = 2 * 2 ^ j) (hk : k < 2 ^ j) :
  (dft w l).getD (k + 2 ^ j) 0 = ((dft (w * w % pP) (evens l)).getD k 0 + pP - (dft (w * w % pP) (odds l)).getD k 0 * (w ^ k % pP) % pP) % pP := by
 have e1 := jbE l
 have e2 := jbW l
 have hw' := hw j rfl
 rw [jce (by omega), jce (by omega), jce (by omega), jfM]
 have hz : ∀ m : List Int, Cg (pe m ((w * w % pP) ^ k)) (pe m (w ^ k * w ^ k)) := fun m => by
  refine Cg.pe ?_ m
  rw [← Int.mul_pow]; exact (Cg.refl _).emod.pow k
 have hr : Cg (w ^ 2 ^ j) (-1) := by unfold Cg; rw [hw']; decide
 have hm : Cg (w ^ (k + 2 ^ j)) (-w ^ k) := by
  rw [Int.pow_add]
  refine ((Cg.refl _).mul hr).trans (Cg.of_eq ?_)
  rw [Int.mul_neg, Int.mul_one]
 have hs : ∀ m : List Int, Cg (pe m (w ^ (k + 2 ^ j) * w ^ (k + 2 ^ j))) (pe m (w ^ k * w ^ k)) := fun m => by
  refine Cg.pe ((hm.mul hm).trans (Cg.of_eq ?_)) m
  rw [Int.neg_mul_neg]
 refine Cg.trans ((hs _).add (hm.mul (hs _))) (Cg.symm ?_)
 refine Cg.trans (((hz _).emod.add (Cg.refl _)).sub (((hz _).emod.mul (Cg.refl (w ^ k)).emod).emod)) ?_
 refine Cg.trans (Cg.of_eq ?_) (Cg.plus _ 1)
 rw [Int.neg_mul, Int.mul_comm (w ^ k) (pe _ _)]; omega
section
variable {C : Ctx}
def In64 (x : Int) : Prop := -9223372036854775808 ≤ x ∧ x ≤ 9223372036854775807
theorem jlQ (hC : Has C T12) {va vb : AV} {a b : List Int} {h : Heap} (ha : RI h va a) (hb : RI h vb b) : ACalls C 12 [va, vb] h (fun r h' => r = .bool (decide (a = b)) ∧ h' = h) := by
 have l1 := ha.lt
 have l2 := hb.lt
 refine zf hC tab12 ?_; simp only [B12]; refine zs2 @ha.len @hb.len ?_
 refine Br.by (fun c => ?_) (fun c => ?_)
 ·refine zs ?_
  have : a ≠ b := fun e => by subst e; omega
  simp [this]
 ·refine zs ?_
  refine jab (fun j t h' => h' = h ∧ t 0 = va ∧ t 1 = vb ∧ ∃ i : Nat, t 5 = .int .i64 (i : Nat) ∧ i ≤ a.length ∧ a.take i = b.take i ∧ j = a.length - i) ⟨rfl, rfl, rfl, 0, rfl, by omega, by simp, rfl⟩ ?_
  rintro j t h' ⟨rfl, e0, e1, i, e5, hi, hp, hj⟩
  refine zs4 @e0 @e1 @e5 @ha.len ?_
  refine Br.by (fun c1 => ?_) (fun c1 => ?_)
  ·refine zs7 @e0 @e1 @e5 @ha.idx @hb.idx @ha.load @hb.load ?_
   refine Br.by (fun c2 => ?_) (fun c2 => ?_)
   ·refine zs ?_
    have : a ≠ b := fun e => c2 (by rw [e])
    simp [this]
   ·refine zs3 @e0 @e1 @e5 ?_
    refine ⟨_, ⟨i + 1, by simp, by omega, ?_, rfl⟩, by omega⟩
    ·rw [jag (by omega), jag (by omega), hp, Decidable.not_not.1 c2]
  ·refine zs ?_
   have e1 : i = a.length := by omega
   subst e1
   rw [List.take_of_length_le (by omega), List.take_of_length_le (by omega)] at hp
   simp [hp]
theorem jit {x n : Int} (hn : 1 ≤ n) : x % n = if x.tmod n < 0 then x.tmod n + n else x.tmod n := by
 have h1 : x.tmod n < n := Int.tmod_lt_of_pos x (by omega)
 have h2 : -n < x.tmod n := by have := Int.lt_tmod_of_pos x (b := n) (by omega); omega
 have h3 : x % n = x.tmod n % n := by
  have := Int.tmod_add_mul_tdiv x n
  rw [← this, Int.add_mul_emod_self_left]
  rw [Int.tmod_add_mul_tdiv]
 rw [h3]
 split
 ·rw [← Int.add_emod_right, Int.emod_eq_of_lt (by omega) (by omega)]
 ·rw [Int.emod_eq_of_lt (by omega) (by omega)]
def tup2 (a b : Int) : AV := .tuple [.int .i64 a, .int .i64 b]
def jac (v : AV) (e : Int) : AV := .tuple [v, .int .i64 e]
theorem jaa.eq2 {g : Nat} {args : List AV} {h h' : Heap} {r r' : AV} {K : AV → Heap → Prop} (hc : ACalls C g args h fun x h'' => x = r ∧ h'' = h') (e : r = r') (hk : K r' h') : @jaa C g args h ⟨K⟩ := jaa.eq (e ▸ hc) hk
def tabIn (L : List Nat) (g : Nat) : Option ABody := if L.contains g then tab g else none
theorem tabIn_ok {L : List Nat} (hC : Has C L) : ∀ g b, tabIn L g = some b → C.body g = some b := by
 intro g b h
 unfold tabIn at h
 split at h
 ·rename_i hg; exact hC g (by simpa using hg) b h
 ·cases h
end
end Go.Ae
namespace Go.Ae
def Fresh (h h' : Heap) (v : AV) (l : List Int) : Prop :=
 HSub h h' ∧ l.length < 9223372036854775808 ∧ ∃ i, h.size ≤ i ∧ v = .slice i 0 l.length (.known l.length) ∧ h'.get i = some (.cells (ints l) true 0)
theorem Fresh.ri {h h' : Heap} {v : AV} {l : List Int} (H : Fresh h h' v l) : RI h' v l := by
 obtain ⟨hs, hl, i, hi, rfl, hg⟩ := H
 exact RI.known hg ⟨rfl, hl⟩ (Nat.le_refl _)
theorem Fresh.sub {h h' : Heap} {v : AV} {l : List Int} (H : Fresh h h' v l) : HSub h h' := H.1
theorem Fresh.mono {h0 h h' : Heap} {v : AV} {l : List Int} (H : Fresh h h' v l) (hs : HSub h0 h) : Fresh h0 h' v l := by
 obtain ⟨hs', hl, i, hi, r⟩ := H
 exact ⟨hs.trans hs', hl, i, Nat.le_trans hs.size hi, r⟩
def jbk (f : Int → Int) (l : List Int) (i : Nat) : List Int := (l.take i).map f ++ l.drop i
theorem jbX (f : Int → Int) (l : List Int) : jbk f l 0 = l := by simp [jbk]
theorem jbY (f : Int → Int) (l : List Int) : jbk f l l.length = l.map f := by simp [jbk]
theorem jbr (f : Int → Int) (l : List Int) (i : Nat) : (jbk f l i).length = l.length := by simp [jbk]; omega
theorem jcq (f : Int → Int) {l : List Int} {i : Nat} (h : i < l.length) : (jbk f l i).getD i 0 = l.getD i 0 := by
 simp only [jbk, List.getD_eq_getElem?_getD]
 rw [List.getElem?_append_right (by simp; omega)]
 simp [Nat.min_eq_left (Nat.le_of_lt h)]
theorem jcr (f : Int → Int) {l : List Int} {i : Nat} (h : i < l.length) : (jbk f l i).set i (f (l.getD i 0)) = jbk f l (i + 1) := by
 unfold jbk
 have hl : ((l.take i).map f).length = i := by simp; omega
 rw [List.set_append_right _ _ (by omega), hl, Nat.sub_self, jag h, List.map_append, List.append_assoc]
 congr 1
 have : l.drop i = l.getD i 0 :: l.drop (i + 1) := by
  rw [List.drop_eq_getElem_cons h]; simp [h]
 rw [this]; rfl
section
variable {C : Ctx}
def Asks (C : Ctx) (f : AV) (p : Int → Bool) (l : List Int) (h : Heap) : Prop :=
 ∃ g c, f = .func g [] c ∧ ∀ x ∈ l, ACalls C g ([] ++ [.int .i64 x] ++ c) h (fun r h' => r = .bool (p x) ∧ h' = h)
def idxI (p : Int → Bool) (l : List Int) : Int := if l.any p then l.findIdx p else -1
theorem jeb {p : Int → Bool} {l : List Int} {i : Nat} (hi : i < l.length) (h : (l.take i).any p = false) (hp : p (l.getD i 0) = false) : (l.take (i + 1)).any p = false := by
 rw [jag hi, List.any_append, h]; simpa using hp
theorem jgJ {p : Int → Bool} {l : List Int} {i : Nat} (hi : i < l.length) (h : (l.take i).any p = false) (hp : p (l.getD i 0) = true) : l.any p = true ∧ l.findIdx p = i := by
 have e : l.getD i 0 = l[i] := by simp [hi]
 refine ⟨List.any_eq_true.2 ⟨l.getD i 0, jal hi, hp⟩, ?_⟩
 rw [List.findIdx_eq hi]
 refine ⟨by rw [← e]; exact hp, fun j hj => ?_⟩
 have := List.any_eq_false.1 h (l[j]) (by rw [List.mem_take_iff_getElem]; exact ⟨j, by omega, rfl⟩)
 simpa using this
theorem jgg (hC : Has C T50) {v f : AV} {l : List Int} {p : Int → Bool} {h : Heap} (hl : RI h v l) (hf : Asks C f p l h) : ACalls C 50 [v, f] h (fun r h' => r = .int .i64 (idxI p l) ∧ h' = h) := by
 obtain ⟨g, c, rfl, hf⟩ := hf
 have hlt := hl.lt
 refine zf hC tab50 ?_; simp only [B50]; refine zs1 @hl.len ?_
 refine jab (fun j t h' => h' = h ∧ t 0 = v ∧ t 1 = .func g [] c ∧ t 7 = .int .i64 l.length ∧ ∃ i : Nat, t 8 = .int .i64 (i : Nat) ∧ i ≤ l.length ∧ (l.take i).any p = false ∧ j = l.length - i) ⟨rfl, rfl, rfl, rfl, 0, rfl, by omega, by simp, rfl⟩ ?_
 rintro j t h' ⟨rfl, e0, e1, e7, i, e8, hi, hp, hj⟩
 refine zs4 @e0 @e1 @e7 @e8 ?_
 refine Br.by (fun c1 => ?_) (fun c1 => ?_)
 ·have hi' : i < l.length := by omega
  refine zs6 @e0 @e1 @e7 @e8 @hl.idx @hl.load ?_
  refine jaa.eq (hf _ (jal hi')) ?_
  refine zs ?_
  refine Br.by (fun c2 => ?_) (fun c2 => ?_)
  ·have := jgJ hi' hp c2
   simp -implicitDefEqProofs (disch := first | exact zd | fail) only [↓wpPre, jaq, jar, Int.reduceToNat, Int.reducePow, Int.reduceMul, Int.reduceAdd, Int.reduceSub, Int.reduceNeg, Nat.reduceAdd, Nat.reduceMul, Nat.reducePow, Int.reduceLT, Int.reduceLE, Int.reduceEq, Nat.reduceEqDiff, idxI, if_pos this.1, this.2]
  ·refine zs4 @e0 @e1 @e7 @e8 ?_
   exact ⟨_, ⟨i + 1, by simp, by omega, jeb hi' hp (by simpa using c2), rfl⟩, by omega⟩
 ·have : i = l.length := by omega
  subst this
  rw [List.take_of_length_le (Nat.le_refl _)] at hp
  refine zs2 @idxI.eq_1 @hp ?_
  simp
theorem jcG {p : Int → Bool} {l : List Int} : 0 ≤ idxI p l ↔ l.any p = true := by
 unfold idxI
 split
 ·rename_i h; simp [h]
 ·rename_i h; simp [h]
theorem ja9 (hC : Has C T37) {v f : AV} {l : List Int} {p : Int → Bool} {h : Heap} (hl : RI h v l) (hf : Asks C f p l h) : ACalls C 37 [v, f] h (fun r h' => r = .bool (l.any p) ∧ h' = h) := by
 refine zf hC tab37 ?_; simp only [B37]; refine zs ?_
 refine jaa.eq (jgg (zu hC T50) hl hf) ?_
 refine zs ?_
 cases hx : l.any p with
 | true => simp [jcG, hx]
 | false => simp [jcG, hx]
end
end Go.Ae
namespace Go.Ae
theorem seqx {a b : List Int} (hl : a.length = b.length) (h : ∀ i, i < a.length → a.getD i 0 = b.getD i 0) : a = b := by
 refine List.ext_getElem hl fun i h1 h2 => ?_
 have := h i h1
 simpa [h1, h2] using this
def Grw (h0 h : Heap) (sz : Nat) (v : AV) (n : Nat) (cs : List AV) : Prop :=
 HSub h0 h ∧ cs.length = n * sz ∧ n < 9223372036854775808 ∧ ((v = .nilslice ∧ n = 0) ∨ ∃ i ex, h0.size ≤ i ∧ v = .slice i 0 n (.unk 0) ∧ h.get i = some (.cells (cs ++ ex) true sz))
theorem jhs {cs ex : List AV} {k : Nat} (h : cs.length = k) : cut (cs ++ ex) 0 k = cs := by subst h; simp [cut]
def GrwI (h0 h : Heap) (v : AV) (l : List Int) : Prop := Grw h0 h 1 v l.length (ints l)
def snocH (H : Heap) (nid : Option Nat) (v : AV) (sz : Nat) (cs : List AV) : Heap :=
 match v with
 | .slice i _ _ _ => (H.put i .dead).new nid (.cells cs true sz)
 | _ => H.new nid (.cells cs true sz)
section
variable {h0 h H : Heap} {sz bytes n m k : Nat} {v : AV} {cs news : List AV} {l : List Int}
theorem Grw.sub (A : Grw h0 h sz v n cs) : HSub h0 h := A.1
theorem Grw.sl (A : Grw h0 h sz v n cs) : SL h sz v n cs := by
 obtain ⟨hs, hl, hn, ⟨rfl, rfl⟩ | ⟨i, ex, hi, rfl, hg⟩⟩ := A
 ·exact ⟨hl, hn, .inl ⟨rfl, rfl⟩⟩
 ·exact ⟨hl, hn, .inr ⟨i, 0, _, _, true, sz, rfl, hg, by rw [List.length_append]; omega, jhs hl, by simp⟩⟩
theorem GrwI.ri (A : GrwI h0 h v l) : RI h v l := Grw.sl A
theorem GrwI.sub (A : GrwI h0 h v l) : HSub h0 h := A.1
theorem Grw.nil (h : Heap) (sz : Nat) : Grw h h sz .nilslice 0 [] := ⟨HSub.refl _, by simp, by omega, .inl ⟨rfl, rfl⟩⟩
theorem GrwI.nil (h : Heap) : GrwI h h .nilslice [] := Grw.nil h 1
theorem GrwI.nil' (hs : HSub h0 h) : GrwI h0 h .nilslice [] := ⟨hs, by simp [ints], by simp, .inl ⟨rfl, rfl⟩⟩
theorem Grw.mono (A : Grw h0 h sz v n cs) (hs : HSub h H) : Grw h0 H sz v n cs := by
 obtain ⟨h1, hl, hn, ⟨rfl, rfl⟩ | ⟨i, ex, hi, rfl, hg⟩⟩ := A
 ·exact ⟨h1.trans hs, hl, hn, .inl ⟨rfl, rfl⟩⟩
 ·exact ⟨h1.trans hs, hl, hn, .inr ⟨i, ex, hi, rfl, (hs.get i (Heap.lt_of_get hg)).trans hg⟩⟩
theorem GrwI.mono (A : GrwI h0 h v l) (hs : HSub h H) : GrwI h0 H v l := Grw.mono A hs
theorem Grw.base {h1' : Heap} (A : Grw h h1' sz v n cs) (hs : HSub h0 h) : Grw h0 h1' sz v n cs := by
 obtain ⟨h1, hl, hn, ⟨rfl, rfl⟩ | ⟨i, ex, hi, rfl, hg⟩⟩ := A
 ·exact ⟨hs.trans h1, hl, hn, .inl ⟨rfl, rfl⟩⟩
 ·exact ⟨hs.trans h1, hl, hn, .inr ⟨i, ex, Nat.le_trans hs.size hi, rfl, hg⟩⟩
theorem GrwI.base {h1 : Heap} (A : GrwI h h1 v l) (hs : HSub h0 h) : GrwI h0 h1 v l := Grw.base A hs
theorem Grw.app (A : Grw h0 h sz v n cs) (hs : HSub h H) (hm : m ≠ 0) (hb : (n + m) * bytes ≤ 1099511627776) (h1 : news.all AV.one = true) :
  jah H none sz bytes v m news = some (.slice H.size 0 (n + m) (.unk 0), snocH H none v sz (cs ++ news)) := by
 obtain ⟨_, hl, hn, ⟨rfl, rfl⟩ | ⟨i, ex, hi, rfl, hg⟩⟩ := A
 ·have : cs = [] := List.eq_nil_of_length_eq_zero (by omega)
  subst this
  rw [Nat.zero_add] at hb ⊢
  rw [jnO hm hb]
  simp [snocH, Heap.new]
 ·have e := (hs.get i (Heap.lt_of_get hg)).trans hg
  rw [jnN, e, jgG (by rw [List.length_append]; omega) (by omega) hb h1, jhs hl]
  rfl
def appK (n : Nat) (H : Heap) (v r : AV) (sz : Nat) (cs : List AV) : Option ABlk → Option (AV × Heap)
 | none => some (r, snocH H (some n) v sz cs)
 | _ => none
theorem jfN {r : AV} : appK k H v r sz cs none = some (r, snocH H (some k) v sz cs) := rfl
theorem Grw.appS (A : Grw h0 h sz v n cs) (hs : HSub h H) (hk : h.size ≤ k ∧ k < H.size) (hm : m ≠ 0) (hb : (n + m) * bytes ≤ 1099511627776) (h1 : news.all AV.one = true) :
  jah H (some k) sz bytes v m news = appK k H v (.slice k 0 (n + m) (.unk 0)) sz (cs ++ news) (H.get k) := by
 obtain ⟨_, hl, hn, ⟨rfl, rfl⟩ | ⟨i, ex, hi, rfl, hg⟩⟩ := A
 ·have : cs = [] := List.eq_nil_of_length_eq_zero (by omega)
  subst this
  rw [Nat.zero_add] at hb ⊢
  have hr : H.room (some k) = ((H.get k).isNone && decide (k < H.size)) := rfl
  simp only [jah, if_neg hm]
  by_cases e : (H.get k).isNone = true
  ·have e' : H.get k = none := by simpa using e
   rw [if_pos ⟨hb, by rw [hr, e]; simpa using hk.2⟩]
   exact (congrArg (appK k H .nilslice (.slice k 0 m (.unk 0)) sz ([] ++ news)) e').symm
  ·rw [if_neg (by rw [hr]; simp [e])]
   obtain ⟨b, e'⟩ : ∃ b, H.get k = some b := by cases x : H.get k with | none => simp [x] at e | some b => exact ⟨b, rfl⟩
   exact (congrArg (appK k H .nilslice (.slice k 0 m (.unk 0)) sz ([] ++ news)) e').symm
 ·have e0 := (hs.get i (Heap.lt_of_get hg)).trans hg
  have hr : H.room (some k) = ((H.get k).isNone && decide (k < H.size)) := rfl
  simp only [jah, e0]
  by_cases e : (H.get k).isNone = true
  ·have e' : H.get k = none := by simpa using e
   rw [if_pos ⟨trivial, by omega, by rw [List.length_append]; omega, h1, hb, by rw [hr, e]; simpa using hk.2, by omega⟩, jhs hl]
   exact (congrArg (appK k H (.slice i 0 n (.unk 0)) (.slice k 0 (n + m) (.unk 0)) sz (cs ++ news)) e').symm
  ·rw [if_neg (by rw [hr]; simp [e]), if_neg (by omega)]
   obtain ⟨b, e'⟩ : ∃ b, H.get k = some b := by cases x : H.get k with | none => simp [x] at e | some b => exact ⟨b, rfl⟩
   exact (congrArg (appK k H (.slice i 0 n (.unk 0)) (.slice k 0 (n + m) (.unk 0)) sz (cs ++ news)) e').symm
theorem Grw.snoc (A : Grw h0 h sz v n cs) (hs : HSub h H) (hl : news.length = m * sz) (hn : n + m < 9223372036854775808) :
  Grw h0 (snocH H none v sz (cs ++ news)) sz (.slice H.size 0 (n + m) (.unk 0)) (n + m) (cs ++ news) := by
 obtain ⟨h1, hl', hn', ⟨rfl, rfl⟩ | ⟨i, ex, hi, rfl, hg⟩⟩ := A
 ·exact ⟨(h1.trans hs).push _, by rw [List.length_append, Nat.add_mul]; omega, hn, .inr ⟨H.size, [], (h1.trans hs).size, rfl, by rw [List.append_nil]; exact jaf rfl⟩⟩
 ·exact ⟨((h1.trans hs).put hi _).push _, by rw [List.length_append, Nat.add_mul]; omega, hn, .inr ⟨H.size, [], (h1.trans hs).size, rfl, by rw [List.append_nil]; exact jaf rfl⟩⟩
theorem Grw.snocS (A : Grw h0 h sz v n cs) (hs : HSub h H) (hk : h.size ≤ k ∧ k < H.size) (hl : news.length = m * sz) (hn : n + m < 9223372036854775808) :
  Grw h0 (snocH H (some k) v sz (cs ++ news)) sz (.slice k 0 (n + m) (.unk 0)) (n + m) (cs ++ news) := by
 obtain ⟨h1, hl', hn', ⟨rfl, rfl⟩ | ⟨i, ex, hi, rfl, hg⟩⟩ := A
 ·have := h1.size
  exact ⟨(h1.trans hs).put (by omega) _, by rw [List.length_append, Nat.add_mul]; omega, hn, .inr ⟨k, [], by omega, rfl, by rw [List.append_nil]; exact jaP rfl hk.2⟩⟩
 ·have := h1.size
  exact ⟨((h1.trans hs).put hi _).put (by omega) _, by rw [List.length_append, Nat.add_mul]; omega, hn, .inr ⟨k, [], by omega, rfl, by rw [List.append_nil]; exact jaP rfl (by simpa using hk.2)⟩⟩
theorem GrwI.app {x : Int} (A : GrwI h0 h v l) : ∀ (H : Heap), HSub h H → l.length + 1 ≤ 1073741824 → jah H none 1 8 v 1 [.int .i64 x] = some (.slice H.size 0 (l.length + 1) (.unk 0), snocH H none v 1 (ints (l ++ [x]))) := by
 intro H hs hb
 rw [Grw.app A hs (by decide) (by omega) (by rfl), jbV]
theorem GrwI.appS {x : Int} (A : GrwI h0 h v l) : ∀ (H : Heap) (k : Nat), HSub h H → h.size ≤ k ∧ k < H.size → l.length + 1 ≤ 1073741824 → jah H (some k) 1 8 v 1 [.int .i64 x] = appK k H v (.slice k 0 (l.length + 1) (.unk 0)) 1 (ints (l ++ [x])) (H.get k) := by
 intro H k hs hk hb
 rw [Grw.appS A hs hk (by decide) (by omega) (by rfl), jbV]
theorem GrwI.snoc {x : Int} (A : GrwI h0 h v l) (hs : HSub h H) (hb : l.length + 1 ≤ 1073741824) : GrwI h0 (snocH H none v 1 (ints (l ++ [x]))) (.slice H.size 0 (l.length + 1) (.unk 0)) (l ++ [x]) := by
 have := Grw.snoc (news := [.int .i64 x]) (m := 1) A hs rfl (by omega)
 rw [jbV] at this
 unfold GrwI; rw [List.length_append]; exact this
theorem GrwI.snocS {x : Int} (A : GrwI h0 h v l) (hs : HSub h H) (hk : h.size ≤ k ∧ k < H.size) (hb : l.length + 1 ≤ 1073741824) : GrwI h0 (snocH H (some k) v 1 (ints (l ++ [x]))) (.slice k 0 (l.length + 1) (.unk 0)) (l ++ [x]) := by
 have := Grw.snocS (news := [.int .i64 x]) (m := 1) A hs hk rfl (by omega)
 rw [jbV] at this
 unfold GrwI; rw [List.length_append]; exact this
theorem Grw.fresh {i : Nat} (hs : HSub h0 h) (hi : h0.size ≤ i) (hl : l.length < 9223372036854775808) (hg : h.get i = some (.cells (ints l) true 1)) : GrwI h0 h (.slice i 0 l.length (.unk 0)) l :=
 ⟨hs, by simp [ints], hl, .inr ⟨i, [], hi, rfl, by rw [List.append_nil]; exact hg⟩⟩
theorem RI.snocH {w : AV} {L : List Int} (hw : RI h0 w L) (A : Grw h0 H sz v n cs) : RI H w L := hw.mono A.sub
end
def contB (n sz o : Nat) : Option ABlk → Option (Nat × List AV)
 | some (.cells vs _ _) => if o + n * sz ≤ vs.length then some (n, cut vs o (n * sz)) else none
 | _ => none
theorem jba {h : Heap} {sz i o n : Nat} {c : Cap} : jao h sz (.slice i o n c) = contB n sz o (h.get i) := by
 simp only [jao, contB]
 cases h.get i with
 | none => rfl
 | some b => cases b <;> rfl
theorem jlR {n sz o u : Nat} {vs : List AV} {wr : Bool} (h : o + n * sz ≤ vs.length) : contB n sz o (some (.cells vs wr u)) = some (n, cut vs o (n * sz)) := by simp only [contB, if_pos h]
theorem jbZ {x : AV} {u : Nat} {wr : Bool} : contB 1 1 0 (some (.cells [x] wr u)) = some (1, [x]) := rfl
section
variable {C : Ctx}
theorem jlS (hC : Has C T42) {v : AV} {l : List Int} {h : Heap} (hl : RI h v l) (hb : 1 ≤ l.length ∧ l.length ≤ 1073741824) : ACalls C 42 [v] h (fun r h' => HSub h h' ∧ ∃ i, h.size ≤ i ∧ r = .slice i 0 l.length (.unk 0) ∧ h'.get i = some (.cells (ints l) true 1)) := by
 have hlt := hl.lt
 obtain ⟨i, o, n, cp, rfl⟩ : ∃ i o n cp, v = .slice i o n cp := by
  obtain ⟨_, _, ⟨rfl, h1⟩ | ⟨i, o, cp, vs, wr, u, rfl, _⟩⟩ := hl
  ·omega
  ·exact ⟨_, _, _, _, rfl⟩
 have hc' : jao (h.push (.cells [] true 0)) 1 (.slice i o n cp) = some (l.length, ints l) := (hl.mono (HSub.push1 _ _)).content
 have h0 : l.length ≠ 0 := by omega
 refine zf hC tab42 ?_; simp only [B42]; simp -implicitDefEqProofs (disch := first | exact zd | fail) only [↓wpPre, jaq, jar, Int.reduceToNat, Int.reducePow, Int.reduceMul, Int.reduceAdd, Int.reduceSub, Int.reduceNeg, Nat.reduceAdd, Nat.reduceMul, Nat.reducePow, Int.reduceLT, Int.reduceLE, Int.reduceEq, Nat.reduceEqDiff, show eqnA false (.slice i o n cp) = some (.bool false) from rfl, hc']
 exact ⟨(HSub.push1 _ _).push _, h.size + 1, by omega, rfl, jaf rfl⟩
theorem jpD {h : Heap} {i : Nat} {b : ABlk} (hg : h.get i = some b) : h.put i b = h := by
 refine heap_eq rfl fun j => ?_
 show (if j = i then (if i < h.size then some b else none) else h.get j) = h.get j
 split
 ·rename_i e; subst e; rw [if_pos (Heap.lt_of_get hg), hg]
 ·rfl
def revP (l : List Int) (j : Nat) : List Int := (List.range l.length).map fun k => if k < j ∨ l.length ≤ k + j then l.getD (l.length - 1 - k) 0 else l.getD k 0
theorem revP_length (l : List Int) (j : Nat) : (revP l j).length = l.length := by simp [revP]
theorem jdh {l : List Int} {j k : Nat} (h : k < l.length) : (revP l j).getD k 0 = if k < j ∨ l.length ≤ k + j then l.getD (l.length - 1 - k) 0 else l.getD k 0 := by simp [revP, h]
theorem jnS (l : List Int) : revP l 0 = l := by
 refine seqx (by simp [revP]) fun i hi => ?_
 rw [revP_length] at hi
 rw [jdh hi, if_neg (by omega)]
theorem jnT {l : List Int} {j : Nat} (h : j < l.length - 1 - j) : ((revP l j).set j (l.getD (l.length - 1 - j) 0)).set (l.length - 1 - j) (l.getD j 0) = revP l (j + 1) := by
 refine seqx (by simp [revP]) fun i hi => ?_
 simp only [List.length_set, revP_length] at hi
 rw [jdh hi]
 simp only [List.getD_eq_getElem?_getD, List.getElem?_set, List.length_set, revP_length]
 by_cases e1 : l.length - 1 - j = i
 ·rw [if_pos e1, if_pos (by omega), if_pos (by omega), ← e1, show l.length - 1 - (l.length - 1 - j) = j by omega]; rfl
 ·rw [if_neg e1]
  by_cases e2 : j = i
  ·rw [if_pos e2, if_pos (by omega), if_pos (by omega), e2]; rfl
  ·rw [if_neg e2]
   have := jdh (l := l) (j := j) hi
   rw [List.getD_eq_getElem?_getD] at this
   rw [this]
   by_cases e3 : i < j ∨ l.length ≤ i + j
   ·rw [if_pos e3, if_pos (by omega)]; simp
   ·rw [if_neg e3, if_neg (by omega)]; simp
theorem jnU {l : List Int} {j : Nat} (h : l.length ≤ 2 * j + 1) (h2 : 2 * j ≤ l.length) : revP l j = l.reverse := by
 refine seqx (by simp [revP]) fun i hi => ?_
 rw [revP_length] at hi
 rw [jdh hi]
 have : l.reverse.getD i 0 = l.getD (l.length - 1 - i) 0 := by simp [List.getElem?_reverse hi]
 rw [this]
 split
 ·rfl
 ·congr 1; omega
theorem jiu (hC : Has C T43) {l : List Int} {i0 u : Nat} {c : Cap} {h : Heap} (hg : h.get i0 = some (.cells (ints l) true u)) (hlt : l.length < 9223372036854775808) (h1 : 1 ≤ l.length) :
  ACalls C 43 [.slice i0 0 l.length c] h (fun _ h' => h' = h.put i0 (.cells (ints l.reverse) true u)) := by
 have hi0 := Heap.lt_of_get hg
 refine zf hC tab43 ?_; simp only [B43]; refine zs ?_
 refine jab (fun j t h' => ∃ i : Nat, h' = h.put i0 (.cells (ints (revP l i)) true u) ∧ t 0 = .slice i0 0 l.length c ∧ t 2 = .int .i64 (i : Nat) ∧ t 3 = .int .i64 ((l.length - 1 - i : Nat) : Int) ∧ 2 * i ≤ l.length ∧ j = l.length - 2 * i) (j0 := l.length)
  ⟨0, by rw [jnS, jpD hg], rfl, rfl, congrArg (AV.int .i64) (show ((l.length : Int) - 1) = ((l.length - 1 - 0 : Nat) : Int) by omega), by omega, rfl⟩ ?_
 rintro j t h' ⟨i, rfl, e0, e2, e3, hi, hj⟩
 have hrl := revP_length l i
 refine zs3 @e0 @e2 @e3 ?_
 refine Br.by (fun c1 => ?_) (fun c1 => ?_)
 ·have r1 := jdh (l := l) (j := i) (k := i) (by omega)
  have r2 := jdh (l := l) (j := i) (k := l.length - 1 - i) (by omega)
  rw [if_neg (by omega)] at r1
  rw [if_neg (by omega)] at r2
  refine zs5 @e0 @e2 @e3 @r1 @r2 ?_
  refine ⟨_, ⟨i + 1, ?_, by simp, ?_, by omega, rfl⟩, by omega⟩
  ·rw [← jnT (by omega)]
  ·omega
 ·refine zs ?_
  rw [jnU (by omega) (by omega)]
end
end Go.Ae
namespace Go.Ae
def AV.sameC : AV → AV → Bool
 | .agg a, .agg b => samesB a b
 | a, b => a.sameB b
def samesC : List AV → List AV → Bool
 | [], [] => true
 | a :: xs, b :: ys => a.sameC b && samesC xs ys
 | _, _ => false
def AV.sameR : AV → AV → Bool
 | .tuple a, .tuple b => samesC a b
 | a, b => a.sameC b
theorem jkO {a b : AV} (h : a.sameC b = true) : a = b := by
 unfold AV.sameC at h
 split at h
 ·rw [jfH h]
 ·exact jkL h
theorem jiv : ∀ {xs ys : List AV}, samesC xs ys = true → xs = ys
 | [], [], _ => rfl
 | a :: xs, b :: ys, h => by
  simp only [samesC, Bool.and_eq_true] at h
  rw [jkO h.1, jiv h.2]
 | [], _ :: _, h => by cases h
 | _ :: _, [], h => by cases h
theorem jpE {a b : AV} (h : a.sameR b = true) : a = b := by
 unfold AV.sameR at h
 split at h
 ·rw [jiv h]
 ·exact jkO h
def jnV (T : Nat → Option ABody) (fuel depth g : Nat) (args : List AV) (v : AV) : Bool :=
 match jc1 T fuel depth (.func g [] []) args Heap.empty with
 | some (r, _) => r.sameR v
 | _ => false
theorem jiw {C : Ctx} {T : Nat → Option ABody} (hT : ∀ g b, T g = some b → C.body g = some b) {fuel depth g : Nat} {args : List AV} {v : AV} (hargs : ∀ a ∈ args, a.free) (hv : v.free) (hr : jnV T fuel depth g args v = true) (h : Heap) :
  ACalls C g args h (fun r h' => r = v ∧ h' = h) := by
 unfold jnV at hr
 split at hr
 ·rename_i r h1 he
  have er := jpE hr
  have := jhd hT fuel depth _ _ _ _ _ he
  have h2 : ACalls C g args Heap.empty (fun r' h'' => r' = r ∧ h'' = h1) := by simpa [callP] using this
  exact (h2.mono fun r h' q => q.1.trans er).lift hargs hv h
 ·cases hr
theorem jcH {h : Heap} {i o g : Nat} {f c vs : List AV} {u : Nat} (hv : o < vs.length) : jbj h i 1 o (.func g f c) (some (.cells vs true u)) = some (h.put i (.cells (vs.set o (.func g f c)) true u)) := jbT ⟨rfl, rfl, hv⟩
def smp (p : Int × Int) : AV := .agg [.int .i64 p.1, .int .i64 p.2]
theorem jdi (p : Int × Int) : (smp p).free := by simp [smp, AV.free, AV.bel, AV.bels]
theorem jec {l : List (Int × Int)} {k : Nat} (h : k < l.length) : l.getD k (0, 0) ∈ l := by
 rw [List.getD_eq_getElem?_getD, List.getElem?_eq_getElem h]; exact List.getElem_mem h
def elF (sz : Nat) (v : AV) (k off : Nat) : AV :=
 match v with
 | .slice i o _ _ => .ptr i (o + k * sz + off)
 | _ => .undef
section
variable {h h' h0 H : Heap} {v : AV} {l : List (Int × Int)} {n : Nat} {cs : List AV}
theorem SI.len (A : SI h v l) : lenA v = some (.int .i64 l.length) := SL.len A
theorem SI.cells (A : SI h v l) : v.cells = [v] := SL.cells A
theorem SI.one (A : SI h v l) : v.one = true := SL.one A
theorem SI.lt (A : SI h v l) : l.length < 9223372036854775808 := SL.lt A
theorem SI.mono (A : SI h v l) (hs : HSub h h') : SI h' v l := SL.mono A hs
theorem SI.content (A : SI h v l) : jao h 2 v = some (l.length, smps l) := SL.content A
theorem SI.contentC (A : SI h v l) : ∀ (h' : Heap), HSub h h' → jao h' 2 v = some (l.length, smps l) := fun _ hs => (A.mono hs).content
theorem SI.idx (A : SI h v l) {kk : IntKind} {k : Int} (hk : 0 ≤ k ∧ k < l.length) : idxA 2 v (.int kk k) = some (elA 2 v k.toNat) := SL.idx A hk
theorem jpF {k : Nat} (hk : k < l.length) : cut (smps l) (k * 2) 2 = [.int .i64 (l.getD k (0, 0)).1, .int .i64 (l.getD k (0, 0)).2] := by
 have e : l[k]? = some (l.getD k (0, 0)) := by simp [hk]
 have h0 := jd9 (l := l) (k := k)
 have h1 := jea (l := l) (k := k)
 rw [e] at h0 h1
 unfold cut
 obtain ⟨h0', e0⟩ := List.getElem?_eq_some_iff.1 h0
 obtain ⟨h1', e1⟩ := List.getElem?_eq_some_iff.1 h1
 rw [List.drop_eq_getElem_cons h0', List.drop_eq_getElem_cons h1', e0, e1]; rfl
theorem SI.loadA (A : SI h v l) {k : Nat} (hk : k < l.length) : Ae.loadA h true 2 (elA 2 v k) = some (smp (l.getD k (0, 0))) := by
 rw [SL.loadA A hk, jpF hk]; rfl
theorem SI.fld (A : SI h v l) : ∀ (k off : Nat), k < l.length → ja8 off (elA 2 v k) = some (elF 2 v k off) := by
 intro k off hk
 obtain ⟨_, _, ⟨rfl, h1⟩ | ⟨i, o, c, vs, wr, u, rfl, _⟩⟩ := A
 ·omega
 ·rfl
theorem SI.load0 (A : SI h v l) {k : Nat} (hk : k < l.length) : Ae.loadA h false 1 (elF 2 v k 0) = some (.int .i64 (l.getD k (0, 0)).1) := by
 have e : l[k]? = some (l.getD k (0, 0)) := by simp [hk]
 obtain ⟨hl, hlt, ⟨rfl, h1⟩ | ⟨i, o, c, vs, wr, u, rfl, hg, hle, hc, _⟩⟩ := A
 ·omega
 ·have h2 := jd9 (l := l) (k := k)
  rw [← hc, cut, List.getElem?_take_of_lt (by omega), List.getElem?_drop, e] at h2
  simp only [elF, Ae.loadA, hg, partA, Bool.false_eq_true, if_false]
  rw [Nat.add_zero, h2]; rfl
theorem SI.load1 (A : SI h v l) {k : Nat} (hk : k < l.length) : Ae.loadA h false 1 (elF 2 v k 1) = some (.int .i64 (l.getD k (0, 0)).2) := by
 have e : l[k]? = some (l.getD k (0, 0)) := by simp [hk]
 obtain ⟨hl, hlt, ⟨rfl, h1⟩ | ⟨i, o, c, vs, wr, u, rfl, hg, hle, hc, _⟩⟩ := A
 ·omega
 ·have h2 := jea (l := l) (k := k)
  rw [← hc, cut, List.getElem?_take_of_lt (by omega), List.getElem?_drop, e] at h2
  simp only [elF, Ae.loadA, hg, partA, Bool.false_eq_true, if_false]
  rw [Nat.add_assoc, h2]; rfl
theorem jfO {k : Nat} {p : Int × Int} (hk : k < l.length) : splice (smps l) (k * 2) [.int .i64 p.1, .int .i64 p.2] = smps (l.set k p) := by
 unfold splice
 induction l generalizing k with
 | nil => simp at hk
 | cons q l ih =>
  cases k with
  | zero => simp [jaW]
  | succ k =>
   have := ih (k := k) (by simpa using hk)
   simp only [List.length_cons, List.length_nil] at this ⊢
   rw [jaW, List.set_cons_succ, jaW, ← this, show (k + 1) * 2 = k * 2 + 1 + 1 by omega]
   simp only [List.take_succ_cons, List.cons_append]
   rw [show k * 2 + 1 + 1 + (0 + 1 + 1) = k * 2 + (0 + 1 + 1) + 1 + 1 by omega, List.drop_succ_cons, List.drop_succ_cons]
theorem jnW {k : Nat} : (smps l).drop (k * 2) = smps (l.drop k) := by
 induction l generalizing k with
 | nil => simp [smps]
 | cons p l ih =>
  cases k with
  | zero => rfl
  | succ k => rw [jaW, List.drop_succ_cons, ← ih, show (k + 1) * 2 = k * 2 + 1 + 1 by omega]; rfl
theorem jcf {p : Int × Int} {n : Nat} : jaH n [.int .i64 p.1, .int .i64 p.2] = smps (List.replicate n p) := by
 induction n with
 | zero => rfl
 | succ n ih => rw [List.replicate_succ, jaW, ← ih]; simp [jaH, List.replicate_succ]
def GrwS (h0 h : Heap) (v : AV) (l : List (Int × Int)) : Prop := Grw h0 h 2 v l.length (smps l)
theorem GrwS.si (A : GrwS h0 h v l) : SI h v l := Grw.sl A
theorem GrwS.sub (A : GrwS h0 h v l) : HSub h0 h := A.1
theorem GrwS.nil (h : Heap) : GrwS h h .nilslice [] := Grw.nil h 2
theorem GrwS.nil' (hs : HSub h0 h) : GrwS h0 h .nilslice [] := ⟨hs, by simp [smps], by simp, .inl ⟨rfl, rfl⟩⟩
theorem GrwS.mono (A : GrwS h0 h v l) (hs : HSub h H) : GrwS h0 H v l := Grw.mono A hs
theorem GrwS.base {h1 : Heap} (A : GrwS h h1 v l) (hs : HSub h0 h) : GrwS h0 h1 v l := Grw.base A hs
theorem GrwS.app {x y : Int} (A : GrwS h0 h v l) : ∀ (H : Heap), HSub h H → l.length + 1 ≤ 1073741824 → jah H none 2 16 v 1 [.int .i64 x, .int .i64 y] = some (.slice H.size 0 (l.length + 1) (.unk 0), snocH H none v 2 (smps (l ++ [(x, y)]))) := by
 intro H hs hb
 rw [Grw.app A hs (by decide) (by omega) (by rfl), jfK]
theorem GrwS.snoc {x y : Int} (A : GrwS h0 h v l) (hs : HSub h H) (hb : l.length + 1 ≤ 1073741824) : GrwS h0 (snocH H none v 2 (smps (l ++ [(x, y)]))) (.slice H.size 0 (l.length + 1) (.unk 0)) (l ++ [(x, y)]) := by
 have := Grw.snoc (news := [.int .i64 x, .int .i64 y]) (m := 1) A hs rfl (by omega)
 rw [jfK] at this
 unfold GrwS; rw [List.length_append]; exact this
end
theorem jnX {x y : AV} {u : Nat} {wr : Bool} : contB 1 2 0 (some (.cells [x, y] wr u)) = some (1, [x, y]) := rfl
section
variable {C : Ctx}
end
end Go.Ae
namespace Go.Ae
theorem jpG (x : Int) : IntKind.u32.wrap x = x % 4294967296 := by
 show IntKind.wrap .u32 x = _
 simp [IntKind.wrap, IntKind.bits, IntKind.signed]
def jnY (t p : Int) : Prop := t < -1073741824 ∨ 1073741824 < t ∨ p < 1 ∨ 1073741824 < p
instance (t p : Int) : Decidable (jnY t p) := by unfold jnY; infer_instance
section
variable {C : Ctx}
end
end Go.Ae
namespace Go.Ae
section
variable {C : Ctx}
end
end Go.Ae
namespace Go.Ae
def phI (a s n : Int) : Int := (a + s * (n % 4294967296)) % 4294967296
theorem jnZ (a s n : Int) : 0 ≤ phI a s n ∧ phI a s n < 4294967296 := ⟨Int.emod_nonneg _ (by decide), Int.emod_lt_of_pos _ (by decide)⟩
def U32 (x : Int) : Prop := 0 ≤ x ∧ x ≤ 4294967295
section
variable {C : Ctx}
end
end Go.Ae
namespace Go.Ae
def quarterL : List Int := [127, 126, 125, 122, 117, 112, 106, 98, 90, 81, 71, 60, 49, 37, 25, 12, 0]
def carr (k : Nat) : Int × Int :=
 let a := quarterL.getD (k % 16) 0
 let b := quarterL.getD (16 - k % 16) 0
 match k / 16 with
 | 0 => (a, b)
 | 1 => (-b, a)
 | 2 => (-a, -b)
 | _ => (b, -a)
theorem jlT : (List.range 64).all (fun k => decide (-127 ≤ (carr k).1 ∧ (carr k).1 ≤ 127 ∧ -127 ≤ (carr k).2 ∧ (carr k).2 ≤ 127)) = true := by decide +kernel
theorem jrj {k : Nat} (h : k < 64) : -127 ≤ (carr k).1 ∧ (carr k).1 ≤ 127 ∧ -127 ≤ (carr k).2 ∧ (carr k).2 ≤ 127 := by
 have := List.all_eq_true.1 jlT k (by simpa using h)
 simpa using this
def carP (ph : Int) : Int × Int := carr (ph / 67108864).toNat
theorem jrk {ph : Int} (h : U32 ph) : -127 ≤ (carP ph).1 ∧ (carP ph).1 ≤ 127 ∧ -127 ≤ (carP ph).2 ∧ (carP ph).2 ≤ 127 := by
 unfold U32 at h
 exact jrj (by omega)
theorem jn0 (a s n : Int) : U32 (phI a s n) := by have := jnZ a s n; unfold U32; omega
def jqf (x : Int × Int) : Prop := (-70368744177664 ≤ x.1 ∧ x.1 ≤ 70368744177664) ∧ (-70368744177664 ≤ x.2 ∧ x.2 ≤ 70368744177664)
instance (x : Int × Int) : Decidable (jqf x) := by unfold jqf; exact inferInstance
theorem jed {x t B : Int} (hx : -B ≤ x ∧ x ≤ B) (ht : -127 ≤ t ∧ t ≤ 127) : -(B * 127) ≤ x * t ∧ x * t ≤ B * 127 := by
 have hB : 0 ≤ B := by omega
 constructor
 ·have h1 : 0 ≤ (B + x) * (127 + t) := Int.mul_nonneg (by omega) (by omega)
  have h2 : 0 ≤ (B - x) * (127 - t) := Int.mul_nonneg (by omega) (by omega)
  have e1 : (B + x) * (127 + t) = B * 127 + B * t + x * 127 + x * t := by grind
  have e2 : (B - x) * (127 - t) = B * 127 - B * t - x * 127 + x * t := by grind
  omega
 ·have h1 : 0 ≤ (B + x) * (127 - t) := Int.mul_nonneg (by omega) (by omega)
  have h2 : 0 ≤ (B - x) * (127 + t) := Int.mul_nonneg (by omega) (by omega)
  have e1 : (B + x) * (127 - t) = B * 127 - B * t + x * 127 - x * t := by grind
  have e2 : (B - x) * (127 + t) = B * 127 + B * t - x * 127 - x * t := by grind
  omega
def appMA (nid : Option Nat) (z : List AV) (bytes : Nat) (h : Heap) (s : AV) : AV → Option (AV × Heap)
 | .int _ m => if 0 ≤ m ∧ m ≤ 2 ^ 36 then jah h nid z.length bytes s m.toNat (jaH m.toNat z) else none
 | _ => none
theorem jgh {nid : Option Nat} {ev : AOpd → AV} {h : Heap} {K : AV → Heap → Prop} {z bytes s x} : @opR nid (.appendMake z bytes s x) ev h ⟨K⟩ = @opt2 (appMA nid z bytes h (ev s) (ev x)) ⟨K⟩ := by
 simp only [opR, aOp, opt2]
 cases ev x <;> simp only [appMA]
 rename_i k m
 by_cases c : 0 ≤ m ∧ m ≤ 2 ^ 36
 ·simp only [if_pos c]
  cases jah h nid z.length bytes (ev s) m.toNat (jaH m.toNat z) <;> rfl
 ·simp only [if_neg c]
theorem jn1 {nid z bytes h s} {k : IntKind} {m : Int} (c : 0 ≤ m ∧ m ≤ 68719476736) : appMA nid z bytes h s (.int k m) = jah h nid z.length bytes s m.toNat (jaH m.toNat z) := by
 simp only [appMA]; rw [if_pos (by omega)]
theorem jlU {h : Heap} {i n : Nat} {vs : List AV} (hg : h.get i = some (.cells vs true 1)) (hn : n ≤ vs.length) : jav h 1 (.slice i 0 n (.unk 0)) none (some (.int .i64 0)) none = some (.slice i 0 0 (.unk 0)) := by
 simp only [jav, hg]
 rw [if_pos ⟨trivial, by simp, by omega⟩]
 rw [jbB (a := 0) (b := 0) (c := n) rfl rfl rfl (by omega)]
 simp
section
variable {C : Ctx}
theorem jn2 (hC : Has C T56) {n : Nat} {h : Heap} (hn : 1 ≤ n ∧ n ≤ 1073741824) : ACalls C 56 [.nilslice, .int .i64 n] h (fun r h' => GrwI h h' r []) := by
 have es : jav (h.push (.cells (List.replicate n (.int .i64 0)) true 1)) 1 (.slice h.size 0 n (.unk 0)) none (some (.int .i64 0)) none = some (.slice h.size 0 0 (.unk 0)) := jlU (jaf rfl) (by simp)
 refine zf hC tab56 ?_; simp only [B56]; simp -implicitDefEqProofs (disch := first | exact zd | fail) only [↓wpPre, jaq, jar, Int.reduceToNat, Int.reducePow, Int.reduceMul, Int.reduceAdd, Int.reduceSub, Int.reduceNeg, Nat.reduceAdd, Nat.reduceMul, Nat.reducePow, Int.reduceLT, Int.reduceLE, Int.reduceEq, Nat.reduceEqDiff, show capA .nilslice = some (.int .i64 0) from rfl, show jav h 1 .nilslice none (some (.int .i64 0)) none = some .nilslice from rfl, jgh, jn1, Int.sub_zero, es]
 exact ⟨HSub.push1 _ _, by simp [ints], by simp, .inr ⟨h.size, List.replicate n (.int .i64 0), Nat.le_refl _, rfl, by rw [jaf rfl]; simp [ints]⟩⟩
def flatP (ps : List (AV × List Int)) : List Int := (ps.map (·.2)).flatten
theorem jeH {ps : List (AV × List Int)} {i : Nat} (h : i < ps.length) : flatP (ps.take (i + 1)) = flatP (ps.take i) ++ (ps.getD i default).2 := by
 unfold flatP
 rw [List.take_add_one, List.getElem?_eq_getElem h, Option.toList_some, List.map_append, List.flatten_append, List.getD_eq_getElem?_getD, List.getElem?_eq_getElem h]
 simp
theorem jht {ps : List (AV × List Int)} (i : Nat) : (flatP (ps.take i)).length ≤ (flatP ps).length := by
 have : flatP ps = flatP (ps.take i) ++ flatP (ps.drop i) := by
  unfold flatP; rw [← List.flatten_append, ← List.map_append, List.take_append_drop]
 rw [this, List.length_append]; omega
theorem jjP (hC : Has C T47) {ps : List (AV × List Int)} {j u : Nat} {wr : Bool} {c : Cap} {h : Heap} (hg : h.get j = some (.cells (ps.map (·.1)) wr u)) (hp : ∀ p ∈ ps, RI h p.1 p.2 ∧ 1 ≤ p.2.length) (hl : 1 ≤ ps.length ∧ ps.length ≤ 1000000) (hb : (flatP ps).length ≤ 1073741824) :
  ACalls C 47 [.slice j 0 ps.length c] h (fun r h' => GrwI h h' r (flatP ps)) := by
 have gp : ∀ i, i < ps.length → ps.getD i default ∈ ps := fun i hi => by rw [List.getD_eq_getElem?_getD, List.getElem?_eq_getElem hi]; exact List.getElem_mem hi
 have gi : ∀ i, i < ps.length → (ps.map (·.1))[i]? = some (ps.getD i default).1 := fun i hi => by simp [hi]
 have hj := Heap.lt_of_get hg
 have hpos : 1 ≤ (flatP ps).length := by
  have h1 := jeH (ps := ps) (i := 0) (by omega)
  have h2 := jht (ps := ps) 1
  have h3 := (hp _ (gp 0 (by omega))).2
  rw [h1, List.length_append] at h2; omega
 refine zf hC tab47 ?_; simp only [B47]; refine zs ?_
 refine jab (fun m t h' => h' = h ∧ t 0 = .slice j 0 ps.length c ∧ t 9 = .slice j 0 ps.length c ∧ t 10 = .int .i64 ps.length ∧ ∃ i : Nat, t 3 = .int .i64 (flatP (ps.take i)).length ∧ t 11 = .int .i64 (i : Nat) ∧ i ≤ ps.length ∧ m = ps.length - i) (j0 := ps.length) ⟨rfl, rfl, rfl, rfl, 0, by simp [flatP, argT, upd], rfl, by omega, rfl⟩ ?_
 rintro m t h' ⟨hh, e0, e9, e10, i, e3, e11, hi, hm⟩
 subst hh
 refine zs2 @e10 @e11 ?_
 refine Br.by (fun c1 => ?_) (fun c1 => ?_)
 ·have hi' : i < ps.length := by omega
  have H := hp _ (gp i hi')
  have hs := jeH hi'
  have hle := jht (ps := ps) (i + 1)
  rw [hs, List.length_append] at hle
  refine zs6 @e9 @e11 @hg @gi @H.1.len @e3 ?_
  refine zs4 @e0 @e9 @e10 @e11 ?_
  refine ⟨_, ⟨i + 1, by rw [hs, List.length_append]; simp, by simp, by omega, rfl⟩, by omega⟩
 ·have : i = ps.length := by omega
  subst this
  rw [List.take_length] at e3
  refine zs1 @e3 ?_
  refine jaa.of (jn2 (zu hC T56) ⟨hpos, hb⟩) ?_
  rintro r h1 A
  refine zs1 @e0 ?_
  refine jab (fun m t hx => t 25 = .slice j 0 ps.length c ∧ t 26 = .int .i64 ps.length ∧ ∃ (i : Nat), GrwI h' hx (t 6) (flatP (ps.take i)) ∧ t 27 = .int .i64 (i : Nat) ∧ i ≤ ps.length ∧ m = ps.length - i) (j0 := ps.length) ⟨rfl, rfl, 0, A, rfl, by omega, rfl⟩ ?_
  rintro m t h2 ⟨e25, e26, i, A2, e27, hi, hm⟩
  refine zs2 @e26 @e27 ?_
  refine Br.by (fun c1 => ?_) (fun c1 => ?_)
  ·have hi' : i < ps.length := by omega
   have H := hp _ (gp i hi')
   have hs := jeH hi'
   have hle := jht (ps := ps) (i + 1)
   rw [hs, List.length_append] at hle
   have hc := (H.1.mono A2.sub).content
   have hg2 := (A2.sub.get j hj).trans hg
   have ha := Grw.app (bytes := 8) (m := (ps.getD i default).2.length) (news := ints (ps.getD i default).2) A2 (HSub.refl _) (by omega) (by omega) jhj
   refine zs7 @e25 @e26 @e27 @hg2 @gi @hc @ha ?_
   have hsn := Grw.snoc (m := (ps.getD i default).2.length) (news := ints (ps.getD i default).2) A2 (HSub.refl _) (by simp [ints]) (by omega)
   rw [jdK, ← hs] at hsn
   rw [jdK, ← hs]
   refine ⟨_, ⟨i + 1, ?_, by simp, by omega, rfl⟩, by omega⟩
   unfold GrwI
   rw [hs, List.length_append, ← hs]; exact hsn
  ·have : i = ps.length := by omega
   subst this
   rw [List.take_length] at A2
   refine zs ?_
   exact A2
end
end Go.Ae
namespace Go.Ae
/-! ### Sums of bits -/
def bsum (f : Nat → Nat) : Nat → Nat
 | 0 => 0
 | n + 1 => bsum f n + f n
theorem jeI {f g : Nat → Nat} : ∀ n, (∀ i, i < n → f i = g i) → bsum f n = bsum g n
 | 0, _ => rfl
 | n + 1, h => by simp only [bsum]; rw [jeI n (fun i hi => h i (by omega)), h n (by omega)]
theorem jkP (f : Nat → Nat) (a : Nat) : ∀ b, bsum f (a + b) = bsum f a + bsum (fun i => f (a + i)) b
 | 0 => rfl
 | b + 1 => by rw [← Nat.add_assoc]; simp only [bsum]; rw [jkP f a b]; omega
theorem jkQ {f g : Nat → Nat} {t d : Nat} : ∀ n, (∀ i, i < n → f i = g i + if i = t then d else 0) → bsum f n = bsum g n + if t < n then d else 0
 | 0, _ => by simp [bsum]
 | n + 1, h => by
  have ih := jkQ n (fun i hi => h i (by omega))
  have h1 := h n (by omega)
  simp only [bsum, ih, h1]
  by_cases c : t < n
  ·rw [if_pos c, if_neg (by omega), if_pos (by omega)]; omega
  ·by_cases c2 : n = t
   ·rw [if_neg c, if_pos c2, if_pos (by omega)]; omega
   ·rw [if_neg c, if_neg c2, if_neg (by omega)]; omega
def bitN (x i : Nat) : Nat := (x.testBit i).toNat
def pop (x n : Nat) : Nat := bsum (bitN x) n
theorem jjQ (x a b : Nat) : pop x (a + b) = pop x a + pop (x >>> a) b := by
 unfold pop
 rw [jkP]
 congr 1
 refine jeI _ fun i _ => ?_
 simp [bitN, Nat.testBit_shiftRight]
theorem jn3 (x n : Nat) : pop (x % 2 ^ n) n = pop x n := by
 refine jeI _ fun i hi => ?_
 simp [bitN, Nat.testBit_mod_two_pow, hi]
/-! ### Windows -/
def bit01 (l : List Int) : Prop := ∀ x ∈ l, x = 0 ∨ x = 1
theorem bit01.get {l : List Int} (h : bit01 l) (i : Nat) : l.getD i 0 = 0 ∨ l.getD i 0 = 1 := by
 by_cases hi : i < l.length
 ·exact h _ (jal hi)
 ·left; rw [List.getD_eq_getElem?_getD, List.getElem?_eq_none (by omega)]; rfl
def packL : List Int → Nat
 | [] => 0
 | b :: l => b.toNat + 2 * packL l
theorem jfm : ∀ {l : List Int}, bit01 l → packL l < 2 ^ l.length
 | [], _ => by simp [packL]
 | b :: l, h => by
  have ih := jfm (l := l) (fun x hx => h x (List.mem_cons_of_mem _ hx))
  have hb := h b List.mem_cons_self
  simp only [packL, List.length_cons, Nat.pow_succ]
  rcases hb with rfl | rfl <;> simp <;> omega
theorem jfP : ∀ {l : List Int}, bit01 l → ∀ i, bitN (packL l) i = (l.getD i 0).toNat
 | [], _, i => by simp [packL, bitN]
 | b :: l, h, 0 => by
  have hb := h b List.mem_cons_self
  simp only [packL, bitN, Nat.testBit_zero, List.getD_cons_zero]
  rcases hb with rfl | rfl <;> simp <;> omega
 | b :: l, h, i + 1 => by
  have ih := jfP (l := l) (fun x hx => h x (List.mem_cons_of_mem _ hx)) i
  have hb := h b List.mem_cons_self
  have e : (b.toNat + 2 * packL l) / 2 = packL l := by rcases hb with rfl | rfl <;> simp <;> omega
  simp only [packL, bitN, Nat.testBit_succ, List.getD_cons_succ]
  rw [e]; exact ih
theorem jeJ : ∀ (l : List Int) (x : Int), packL (l ++ [x]) = packL l + 2 ^ l.length * x.toNat
 | [], x => by simp [packL]
 | b :: l, x => by
  simp only [List.cons_append, packL, jeJ l x, List.length_cons, Nat.pow_succ]
  rw [Nat.mul_add, Nat.mul_comm _ 2, Nat.mul_assoc, ← Nat.add_assoc]
theorem jix : ∀ {a b : List Int}, a.length = b.length → bit01 a → bit01 b → packL a = packL b → a = b
 | [], [], _, _, _, _ => rfl
 | x :: a, y :: b, hl, ha, hb, he => by
  have hx := ha x List.mem_cons_self
  have hy := hb y List.mem_cons_self
  simp only [packL] at he
  have : x = y := by rcases hx with rfl | rfl <;> rcases hy with rfl | rfl <;> simp at he ⊢ <;> omega
  subst this
  rw [jix (by simpa using hl) (fun z hz => ha z (List.mem_cons_of_mem _ hz)) (fun z hz => hb z (List.mem_cons_of_mem _ hz)) (by omega)]
 | [], _ :: _, hl, _, _, _ => by simp at hl
 | _ :: _, [], hl, _, _, _ => by simp at hl
def xorT (ts : List Int) (w : List Int) : Int := ts.foldl (fun x t => (x + w.getD t.toNat 0) % 2) 0
def maskT (ts : List Int) : Nat := ts.foldl (fun m t => m ||| 2 ^ t.toNat) 0
theorem jiy (ts : List Int) (t : Int) (w : List Int) : xorT (ts ++ [t]) w = (xorT ts w + w.getD t.toNat 0) % 2 := by simp [xorT]
theorem jgK (ts : List Int) (t : Int) : maskT (ts ++ [t]) = maskT ts ||| 2 ^ t.toNat := by simp [maskT]
theorem jhu (ts : List Int) (w : List Int) : xorT ts w = 0 ∨ xorT ts w = 1 := by
 unfold xorT
 suffices ∀ a : Int, (a = 0 ∨ a = 1) → (ts.foldl (fun x t => (x + w.getD t.toNat 0) % 2) a = 0 ∨ ts.foldl (fun x t => (x + w.getD t.toNat 0) % 2) a = 1) from this 0 (.inl rfl)
 induction ts with
 | nil => intro a ha; exact ha
 | cons t ts ih => intro a ha; exact ih _ (by dsimp only; omega)
theorem jiz : ∀ (ts : List Int) (m j : Nat), (ts.foldl (fun m t => m ||| 2 ^ t.toNat) m).testBit j = (m.testBit j || ts.any fun t => t.toNat == j)
 | [], m, j => by simp
 | t :: ts, m, j => by
  simp only [List.foldl_cons, jiz ts, Nat.testBit_or, Nat.testBit_two_pow, List.any_cons]
  rw [Bool.or_assoc]; rfl
def tapOk (n : Int) (l : List Int) (j : Nat) : Prop := (if j = 0 then -1 else l.getD (j - 1) 0) < l.getD j 0 ∧ l.getD j 0 < n
instance (n : Int) (l : List Int) (j : Nat) : Decidable (tapOk n l j) := by unfold tapOk; infer_instance
theorem jhv {n : Int} {l : List Int} (h : ∀ j, j < l.length → tapOk n l j) : ∀ (j i : Nat), i < j → j < l.length → l.getD i 0 < l.getD j 0
 | 0, i, hi, _ => by omega
 | j + 1, i, hi, hj => by
  have h1 := (h (j + 1) hj).1
  rw [if_neg (by omega), show j + 1 - 1 = j by omega] at h1
  rcases Nat.lt_or_ge i j with x | x
  ·have := jhv h j i x (by omega); omega
  ·have : i = j := by omega
   subst this; exact h1
theorem jdj {n : Int} {l : List Int} (h : ∀ j, j < l.length → tapOk n l j) {j : Nat} (hj : j < l.length) : 0 ≤ l.getD j 0 := by
 have h0 := (h 0 (by omega)).1
 rw [if_pos rfl] at h0
 rcases Nat.eq_zero_or_pos j with e | e
 ·subst e; omega
 ·have := jhv h j 0 e hj; omega
theorem jn4 {n : Int} {l : List Int} (h : ∀ j, j < l.length → tapOk n l j) {i : Nat} (hi : i < l.length) : (maskT (l.take i)).testBit (l.getD i 0).toNat = false := by
 unfold maskT
 rw [jiz]
 simp only [Nat.zero_testBit, Bool.false_or]
 refine List.any_eq_false.2 fun t ht => ?_
 obtain ⟨j, hj, rfl⟩ := List.mem_take_iff_getElem.1 ht
 have hj' : j < l.length := by omega
 have e : l[j] = l.getD j 0 := by simp [hj']
 have h1 := jhv h i j (by omega) hi
 have h2 := jdj h hj'
 rw [e]; simp only [beq_iff_eq]; omega
theorem jhw {n : Nat} : ∀ (ts : List Int) (m : Nat), m < 2 ^ n → (∀ t ∈ ts, t.toNat < n) → ts.foldl (fun m t => m ||| 2 ^ t.toNat) m < 2 ^ n
 | [], m, h, _ => h
 | t :: ts, m, h, ht => jhw ts _ (Nat.or_lt_two_pow h (Nat.pow_lt_pow_right (by decide) (ht t List.mem_cons_self))) (fun x hx => ht x (List.mem_cons_of_mem _ hx))
theorem jkR {n : Int} {l w : List Int} (hn : n ≤ 32) (h : ∀ j, j < l.length → tapOk n l j) (hw : bit01 w) : ∀ i, i ≤ l.length → ((pop (packL w &&& maskT (l.take i)) 32 % 2 : Nat) : Int) = xorT (l.take i) w
 | 0, _ => by
  have e : packL w &&& 0 = 0 := Nat.and_zero _
  have : ∀ k, pop 0 k = 0 := fun k => by
   unfold pop
   induction k with
   | zero => rfl
   | succ k ih => simp [bsum, ih, bitN]
  simp [maskT, xorT, this]
 | i + 1, hi => by
  have ih := jkR hn h hw i (by omega)
  have hm := jn4 h (i := i) (by omega)
  have ht := (h i (by omega)).2
  have ht0 := jdj h (j := i) (by omega)
  have hb := jfP hw (l.getD i 0).toNat
  rw [jag (by omega), jgK, jiy]
  have key : pop (packL w &&& (maskT (l.take i) ||| 2 ^ (l.getD i 0).toNat)) 32 = pop (packL w &&& maskT (l.take i)) 32 + if (l.getD i 0).toNat < 32 then bitN (packL w) (l.getD i 0).toNat else 0 := by
   refine jkQ 32 fun j _ => ?_
   simp only [bitN, Nat.testBit_and, Nat.testBit_or, Nat.testBit_two_pow]
   by_cases e : j = (l.getD i 0).toNat
   ·rw [if_pos e, ← e, e, hm]; simp
   ·rw [if_neg e, decide_eq_false (Ne.symm e)]; simp
  rw [key, if_pos (by omega), hb]
  have hx := jhu (l.take i) w
  have hy := hw.get (l.getD i 0).toNat
  omega
/-! ### Sequences -/
def stepW (ts w : List Int) : List Int := w.tail ++ [xorT ts w]
def winW (ts w : List Int) : Nat → List Int
 | 0 => w
 | k + 1 => stepW ts (winW ts w k)
def seqB (ts w : List Int) (k : Nat) : Int := (winW ts w k).getD 0 0
def runL (ts w : List Int) (m : Nat) : List Int := (List.range m).map (seqB ts w)
theorem jbe (ts w : List Int) (m : Nat) : (runL ts w m).length = m := by simp [runL]
theorem jkS {ts w : List Int} {m k : Nat} (h : k < m) : (runL ts w m).getD k 0 = seqB ts w k := by simp [runL, h]
theorem jfQ (ts w : List Int) (m : Nat) : runL ts w (m + 1) = runL ts w m ++ [seqB ts w m] := by simp [runL, List.range_succ]
theorem jn5 {ts w : List Int} {m k : Nat} (h : k ≤ m) : (runL ts w m).take k = runL ts w k := by simp [runL, ← List.map_take, List.take_range, Nat.min_eq_left h]
theorem jbf {ts w : List Int} (h : 1 ≤ w.length) : ∀ k, (winW ts w k).length = w.length
 | 0 => rfl
 | k + 1 => by simp [winW, stepW, jbf h k]; omega
theorem jcI {ts w : List Int} (h : bit01 w) : ∀ k, bit01 (winW ts w k)
 | 0 => h
 | k + 1 => fun x hx => by
  simp only [winW, stepW, List.mem_append, List.mem_singleton] at hx
  rcases hx with hx | rfl
  ·exact jcI h k x (List.mem_of_mem_tail hx)
  ·exact jhu _ _
theorem jpH (w : List Int) (i : Nat) : w.tail.getD i 0 = w.getD (i + 1) 0 := by cases w <;> simp
theorem jfn {ts w : List Int} (h : 1 ≤ w.length) : ∀ (i k : Nat), i < w.length → (winW ts w k).getD i 0 = seqB ts w (k + i)
 | 0, k, _ => rfl
 | i + 1, k, hi => by
  have ih := jfn (ts := ts) h i (k + 1) (by omega)
  have e : (winW ts w (k + 1)).getD i 0 = (winW ts w k).getD (i + 1) 0 := by
   have hl := jbf (ts := ts) h k
   have ht : (winW ts w k).tail.length = w.length - 1 := by simp [hl]
   rw [← jpH]
   simp only [winW, stepW, List.getD_eq_getElem?_getD]
   rw [List.getElem?_append_left (by omega)]
  rw [← e, ih, show k + 1 + i = k + (i + 1) by omega]
theorem jn6 {ts w : List Int} (h : 1 ≤ w.length) (k : Nat) : seqB ts w (k + w.length) = xorT ts (winW ts w k) := by
 have h1 := jfn (ts := ts) h (w.length - 1) (k + 1) (by omega)
 rw [show k + 1 + (w.length - 1) = k + w.length by omega] at h1
 rw [← h1]
 have hl := jbf (ts := ts) h k
 simp only [winW, stepW, List.getD_eq_getElem?_getD]
 have ht : (winW ts w k).tail.length = w.length - 1 := by simp [hl]
 rw [List.getElem?_append_right (by omega), ht, Nat.sub_self]; rfl
theorem jjR {ts w : List Int} (h : bit01 w) (k : Nat) : seqB ts w k = 0 ∨ seqB ts w k = 1 := (jcI h k).get 0
theorem jrl {a b : List Int} (hl : a.length = b.length) (h : ∀ i, i < a.length → a.getD i 0 = b.getD i 0) : a = b := by
 refine List.ext_getElem hl fun i h1 h2 => ?_
 have := h i h1
 simpa [h1, h2] using this
theorem jlV {ts w : List Int} (h : 1 ≤ w.length) : runL ts w w.length = w := by
 refine jrl (by simp [runL]) fun i hi => ?_
 rw [jbe] at hi
 rw [jkS hi, ← Nat.zero_add i, ← jfn (ts := ts) h i 0 hi, Nat.zero_add]; rfl
theorem jlW {ts w : List Int} (h : 1 ≤ w.length) (hw : bit01 w) : packL (stepW ts w) = packL w / 2 + 2 ^ (w.length - 1) * (xorT ts w).toNat := by
 unfold stepW
 rw [jeJ]
 match w, h with
 | b :: w, _ =>
  have hb := hw b List.mem_cons_self
  simp only [List.tail_cons, List.length_cons, packL, Nat.add_sub_cancel]
  congr 1
  rcases hb with rfl | rfl <;> simp <;> omega
/-! ### Periods -/
def popTab : List Nat := [0, 1, 1, 2, 1, 2, 2, 3, 1, 2, 2, 3, 2, 3, 3, 4, 1, 2, 2, 3, 2, 3, 3, 4, 2, 3, 3, 4, 3, 4, 4, 5, 1, 2, 2, 3, 2, 3, 3, 4, 2, 3, 3, 4, 3, 4, 4, 5, 2, 3, 3, 4, 3, 4, 4, 5, 3, 4, 4, 5, 4, 5, 5, 6, 1, 2, 2, 3, 2, 3, 3, 4, 2, 3, 3, 4, 3, 4, 4, 5, 2, 3, 3, 4, 3, 4, 4, 5, 3, 4, 4, 5, 4, 5, 5, 6, 2, 3, 3, 4, 3, 4, 4, 5, 3, 4, 4, 5, 4, 5, 5, 6, 3, 4, 4, 5, 4, 5, 5, 6, 4, 5, 5, 6, 5, 6, 6, 7, 1, 2, 2, 3, 2, 3, 3, 4, 2, 3, 3, 4, 3, 4, 4, 5, 2, 3, 3, 4, 3, 4, 4, 5, 3, 4, 4, 5, 4, 5, 5, 6, 2, 3, 3, 4, 3, 4, 4, 5, 3, 4, 4, 5, 4, 5, 5, 6, 3, 4, 4, 5, 4, 5, 5, 6, 4, 5, 5, 6, 5, 6, 6, 7, 2, 3, 3, 4, 3, 4, 4, 5, 3, 4, 4, 5, 4, 5, 5, 6, 3, 4, 4, 5, 4, 5, 5, 6, 4, 5, 5, 6, 5, 6, 6, 7, 3, 4, 4, 5, 4, 5, 5, 6, 4, 5, 5, 6, 5, 6, 6, 7, 4, 5, 5, 6, 5, 6, 6, 7, 5, 6, 6, 7, 6, 7, 7, 8]
theorem jiA : ∀ i, i < 256 → popTab[i]? = some (pop i 8) ∧ pop i 8 ≤ 8 := by
 have h : ∀ i : Fin 256, popTab[i.val]? = some (pop i.val 8) ∧ pop i.val 8 ≤ 8 := by decide +kernel
 exact fun i hi => h ⟨i, hi⟩
theorem jhx (x : Nat) : pop x 8 ≤ 8 := by
 rw [← jn3]
 exact (jiA _ (Nat.mod_lt _ (by decide))).2
theorem jrm : B102 = ((.mk 1 21 [(.tmp 2)] (.seq (.region [⟨(some 2), (.mv (.const (.int .i64 0))), none⟩]) (.seq (.draw 0 [⟨0, false, [], ⟨(some 3), (.mv (.tmp 0)), none⟩⟩, ⟨1, false, [], ⟨(some 4), (.bin .shr (.tmp 3) (.const (.int .u64 24))), none⟩⟩, ⟨2, false, [], ⟨(some 5), (.strIdx (.const (.str popTab)) (.tmp 4)), none⟩⟩, ⟨3, false, [], ⟨(some 6), (.mv (.tmp 0)), none⟩⟩, ⟨4, false, [], ⟨(some 7), (.bin .shr (.tmp 6) (.const (.int .u64 16))), none⟩⟩, ⟨5, false, [], ⟨(some 8), (.bin .and (.tmp 7) (.const (.int .u32 255))), none⟩⟩, ⟨6, false, [], ⟨(some 9), (.strIdx (.const (.str popTab)) (.tmp 8)), none⟩⟩, ⟨7, false, [], ⟨(some 10), (.bin .add (.tmp 5) (.tmp 9)), none⟩⟩, ⟨8, false, [], ⟨(some 11), (.mv (.tmp 0)), none⟩⟩, ⟨9, false, [], ⟨(some 12), (.bin .shr (.tmp 11) (.const (.int .u64 8))), none⟩⟩, ⟨10, false, [], ⟨(some 13), (.bin .and (.tmp 12) (.const (.int .u32 255))), none⟩⟩, ⟨11, false, [], ⟨(some 14), (.strIdx (.const (.str popTab)) (.tmp 13)), none⟩⟩, ⟨12, false, [], ⟨(some 15), (.bin .add (.tmp 10) (.tmp 14)), none⟩⟩, ⟨13, false, [], ⟨(some 16), (.mv (.tmp 0)), none⟩⟩, ⟨14, false, [], ⟨(some 17), (.bin .and (.tmp 16) (.const (.int .u32 255))), none⟩⟩, ⟨15, false, [], ⟨(some 18), (.strIdx (.const (.str popTab)) (.tmp 17)), none⟩⟩, ⟨16, false, [], ⟨(some 19), (.bin .add (.tmp 15) (.tmp 18)), none⟩⟩, ⟨17, false, [], ⟨(some 20), (.conv .i64 (.tmp 19)), none⟩⟩, ⟨18, false, [], ⟨(some 2), (.mv (.tmp 20)), none⟩⟩]) .ret)))) := rfl
def strA (x i : AV) : Option AV :=
 match x, i with
 | .str bs, .int _ k => if 0 ≤ k then match bs[k.toNat]? with
   | some b => if b < 256 then some (.int .u8 b) else none
   | none => none
  else none
 | _, _ => none
theorem jlX {nid : Option Nat} {ev : AOpd → AV} {h : Heap} {K : AV → Heap → Prop} {x i} : @opR nid (.strIdx x i) ev h ⟨K⟩ = @opt1 (strA (ev x) (ev i)) h ⟨K⟩ := by
 simp only [opR, aOp, pureA, opt1]
 cases ev x <;> cases ev i <;> simp only [strA, Option.map_none]
 rename_i bs kk k
 by_cases c : 0 ≤ k
 ·simp only [if_pos c]
  cases bs[k.toNat]? with
  | none => rfl
  | some b =>
   by_cases c2 : b < 256
   ·simp only [if_pos c2]; rfl
   ·simp only [if_neg c2]; rfl
 ·simp only [if_neg c]; rfl
theorem jrn {i : Int} {k : IntKind} (h : 0 ≤ i ∧ i < 256) : strA (.str popTab) (.int k i) = some (.int .u8 (pop i.toNat 8 : Nat)) := by
 have h1 := jiA i.toNat (by omega)
 simp only [strA, if_pos h.1, h1.1]
 rw [if_pos (by omega)]
theorem nat32 {n : Nat} (h : n < 4294967296) : (BitVec.ofInt 32 (n : Int)).toNat = n := by
 rw [BitVec.toNat_ofInt]
 have : ((n : Int) % ((2 ^ 32 : Nat) : Int)).toNat = n := by
  rw [Int.emod_eq_of_lt (by omega) (by omega)]; simp
 exact this
theorem jjS {m n : Nat} (hm : m < 4294967296) (hn : n < 4294967296) : bitsA .and .u32 (m : Int) (n : Int) = ((m &&& n : Nat) : Int) := by
 show IntKind.u32.wrap ((BitVec.ofInt 32 (m : Int) &&& BitVec.ofInt 32 (n : Int)).toNat : Int) = _
 rw [BitVec.toNat_and, nat32 hm, nat32 hn]
 have : m &&& n ≤ m := Nat.and_le_left
 exact w_u32 (by omega)
theorem jn7 {m n : Nat} (hm : m < 4294967296) (hn : n < 4294967296) : bitsA .or .u32 (m : Int) (n : Int) = ((m ||| n : Nat) : Int) := by
 show IntKind.u32.wrap ((BitVec.ofInt 32 (m : Int) ||| BitVec.ofInt 32 (n : Int)).toNat : Int) = _
 rw [BitVec.toNat_or, nat32 hm, nat32 hn]
 have : m ||| n < 2 ^ 32 := Nat.or_lt_two_pow (by omega) (by omega)
 exact w_u32 (by omega)
theorem jr0 {a : Int} (h : 0 ≤ a ∧ a < 4294967296) : bitsA .and .u32 a 255 = a % 256 := by
 obtain ⟨n, rfl⟩ := Int.eq_ofNat_of_zero_le h.1
 have := jjS (m := n) (n := 255) (by omega) (by decide)
 have e : n &&& 255 = n % 256 := Nat.and_two_pow_sub_one_eq_mod n 8
 rw [e] at this
 rw [show ((255 : Nat) : Int) = 255 from rfl] at this
 rw [this]; omega
theorem pop32 (x : Nat) : pop x 32 = pop (x / 16777216) 8 + pop (x / 65536 % 256) 8 + pop (x / 256 % 256) 8 + pop (x % 256) 8 := by
 have e1 : pop x 32 = pop x 8 + pop (x >>> 8) 24 := jjQ x 8 24
 have e2 : pop (x >>> 8) 24 = pop (x >>> 8) 8 + pop (x >>> 8 >>> 8) 16 := jjQ _ 8 16
 have e3 : pop (x >>> 8 >>> 8) 16 = pop (x >>> 8 >>> 8) 8 + pop (x >>> 8 >>> 8 >>> 8) 8 := jjQ _ 8 8
 have m : ∀ y, pop (y % 256) 8 = pop y 8 := fun y => jn3 y 8
 rw [m, m, m, e1, e2, e3]
 simp only [Nat.shiftRight_eq_div_pow, Nat.div_div_eq_div_mul, Nat.reducePow, Nat.reduceMul]
 omega
section
variable {C : Ctx}
theorem jgi (hC : Has C T102) {x : Nat} {h : Heap} (hx : x < 4294967296) : ACalls C 102 [.int .u32 (x : Nat)] h (fun r h' => r = .int .i64 (pop x 32 : Nat) ∧ h' = h) := by
 rw [pop32]
 have a1 := jhx (x / 16777216)
 have a2 := jhx (x / 65536 % 256)
 have a3 := jhx (x / 256 % 256)
 have a4 := jhx (x % 256)
 have t1 : ((x : Int) / 16777216).toNat = x / 16777216 := by omega
 have t2 : ((x : Int) / 65536 % 256).toNat = x / 65536 % 256 := by omega
 have t3 : ((x : Int) / 256 % 256).toNat = x / 256 % 256 := by omega
 have t4 : ((x : Int) % 256).toNat = x % 256 := by omega
 refine jcC (hC.body (by decide) tab102) (Nat.le_of_ble_eq_true rfl) ?_
 show wp C _ none B102.code _ _
 simp only [jrm]
 refine zs7 @jlX @jrn @jr0 @t1 @t2 @t3 @t4 ?_
 omega
theorem jlY (hC : Has C T99) {v : AV} {l : List Int} {x : Int} {h : Heap} (hl : RI h v l) : ACalls C 99 [v, .int .i64 x] h (fun r h' => r = .int .i64 (idxI (fun y => x == y) l) ∧ h' = h) := by
 have hlt := hl.lt
 refine zf hC tab99 ?_; simp only [B99]; refine zs1 @hl.len ?_
 refine jab (fun j t h' => h' = h ∧ t 0 = v ∧ t 1 = .int .i64 x ∧ t 7 = .int .i64 l.length ∧ ∃ i : Nat, t 8 = .int .i64 (i : Nat) ∧ i ≤ l.length ∧ (l.take i).any (fun y => x == y) = false ∧ j = l.length - i) ⟨rfl, rfl, rfl, rfl, 0, rfl, by omega, by simp, rfl⟩ ?_
 rintro j t h' ⟨hh, e0, e1, e7, i, e8, hi, hp, hj⟩
 subst hh
 refine zs2 @e7 @e8 ?_
 refine Br.by (fun c1 => ?_) (fun c1 => ?_)
 ·have hi' : i < l.length := by omega
  refine zs5 @e0 @e1 @e8 @hl.idx @hl.load ?_
  refine Br.by (fun c2 => ?_) (fun c2 => ?_)
  ·have := jgJ hi' hp (by simpa using c2)
   simp -implicitDefEqProofs (disch := first | exact zd | fail) only [↓wpPre, jaq, jar, Int.reduceToNat, Int.reducePow, Int.reduceMul, Int.reduceAdd, Int.reduceSub, Int.reduceNeg, Nat.reduceAdd, Nat.reduceMul, Nat.reducePow, Int.reduceLT, Int.reduceLE, Int.reduceEq, Nat.reduceEqDiff, idxI, if_pos this.1, this.2]
  ·refine zs4 @e0 @e1 @e7 @e8 ?_
   exact ⟨_, ⟨i + 1, by simp, by omega, jeb hi' hp (by simpa using c2), rfl⟩, by omega⟩
 ·have : i = l.length := by omega
  subst this
  rw [List.take_of_length_le (Nat.le_refl _)] at hp
  refine zs2 @idxI.eq_1 @hp ?_
  simp
theorem jbs (hC : Has C T89) {v : AV} {l : List Int} {x : Int} {h : Heap} (hl : RI h v l) : ACalls C 89 [v, .int .i64 x] h (fun r h' => r = .bool (l.any fun y => x == y) ∧ h' = h) := by
 refine zf hC tab89 ?_; simp only [B89]; refine zs ?_
 refine jaa.eq (jlY (zu hC T99) hl) ?_
 refine zs ?_
 cases hx : l.any (fun y => x == y) with
 | true => simp [jcG, hx]
 | false => simp [jcG, hx]
end
end Go.Ae
namespace Go.Ae
def jdL (n : Int) (ts w : List Int) : Prop := (1 ≤ ts.length ∧ ts.getD 0 0 = 0 ∧ ∀ j, j < ts.length → tapOk n ts j) ∧ (w.length : Int) = n ∧ (w.any fun x => !(x == 0 || x == 1)) = false
instance (n : Int) (ts w : List Int) : Decidable (jdL n ts w) := by unfold jdL; infer_instance
def jcs (n : Int) (ts w : List Int) : Int := if n < 2 ∨ 16 < n then 2 else if jdL n ts w then 0 else 3
structure RegOk (n : Nat) (ts w : List Int) : Prop where
 n2 : 2 ≤ n
 n16 : n ≤ 16
 len : w.length = n
 bits : bit01 w
 t1 : 1 ≤ ts.length
 t0 : ts.getD 0 0 = 0
 taps : ∀ j, j < ts.length → tapOk n ts j
theorem jiB {n : Int} {ts w : List Int} (h : jcs n ts w = 0) : ∃ m : Nat, n = m ∧ RegOk m ts w := by
 unfold jcs at h
 split at h
 ·cases h
 ·split at h
  ·rename_i h1 h2
   refine ⟨w.length, h2.2.1.symm, ?_⟩
   obtain ⟨⟨a1, a2, a3⟩, b1, b2⟩ := h2
   refine ⟨by omega, by omega, rfl, fun x hx => ?_, a1, a2, by rw [b1]; exact a3⟩
   have := List.any_eq_false.1 b2 x hx
   simp only [Bool.not_eq_true, Bool.not_eq_false', Bool.or_eq_true, beq_iff_eq] at this
   exact this
  ·cases h
def madeR (n : Int) (ts w : List Int) : AV := if jcs n ts w = 0 then .tuple [.agg [.int .i64 n, .int .u32 (packL w), .int .u32 (maskT ts)], .int .i64 0] else .tuple [.agg [.int .i64 0, .int .u32 0, .int .u32 0], .int .i64 (jcs n ts w)]
theorem jee {k : Nat} (h : k ≤ 16) : 2 ^ k ≤ 65536 := Nat.pow_le_pow_right (by decide) h
theorem jhy (k : Nat) : (2 : Int) ^ k = ((2 ^ k : Nat) : Int) := by simp
theorem jhz {n : Nat} {ts : List Int} (h : ∀ j, j < ts.length → tapOk n ts j) (i : Nat) : maskT (ts.take i) < 2 ^ n := by
 refine jhw _ _ Nat.one_le_two_pow (fun t ht => ?_)
 obtain ⟨j, hj, rfl⟩ := List.mem_take_iff_getElem.1 ht
 have hj' : j < ts.length := by omega
 have h1 := (h j hj').2
 have h2 := jdj h hj'
 have e : ts[j] = ts.getD j 0 := by simp [hj']
 rw [e]; omega
section
variable {C : Ctx}
set_option maxHeartbeats 1000000 in
theorem jiC (hC : Has C T92) {n : Int} {v1 v2 : AV} {ts w : List Int} {h : Heap} (h1 : RI h v1 ts) (h2 : RI h v2 w) : ACalls C 92 [.int .i64 n, v1, v2] h (fun r h' => r = madeR n ts w ∧ h' = h) := by
 have l1 := h1.lt
 have l2 := h2.lt
 refine ACalls.gc0 (P := fun r h' => r = madeR n ts w ∧ HSub h h') ?_ (fun r h' hp => ⟨by rw [hp.1]; unfold madeR; split <;> exact jcn (by simp [AV.free, AV.bel, AV.bels]), hp.2, hp.1, rfl⟩)
 have pe : jcs n ts w = if n < 2 ∨ 16 < n then 2 else if jdL n ts w then 0 else 3 := rfl
 have fin : ∀ e, jcs n ts w = e → e ≠ 0 → AV.tuple [.agg [.int .i64 0, .int .u32 0, .int .u32 0], .int .i64 e] = madeR n ts w := fun e h0 he => by unfold madeR; rw [if_neg (by rw [h0]; exact he), h0]
 by_cases c0 : n < 2 ∨ 16 < n
 ·rw [if_pos c0] at pe
  refine zf hC tab92 ?_; simp only [B92]; refine zs ?_
  (repeat' (first | (refine Br.by (fun _ => ?_) (fun _ => ?_)) | (refine zs ?_)))
  all_goals first | exact ⟨fin 2 pe (by decide), (HSub.push1 _ _)⟩ | omega
 rw [if_neg c0] at pe
 by_cases c1 : ts.length = 0
 ·rw [if_neg (fun hg => by have := hg.1.1; omega)] at pe
  refine zf hC tab92 ?_; simp only [B92]; refine zs1 @h1.len ?_
  exact ⟨fin 3 pe (by decide), (HSub.push1 _ _)⟩
 by_cases c2 : ts.getD 0 0 ≠ 0
 ·rw [if_neg (fun hg => c2 hg.1.2.1)] at pe
  refine zf hC tab92 ?_; simp only [B92]; refine zs3 @h1.len @h1.idx @h1.loadC ?_
  exact ⟨fin 3 pe (by decide), (HSub.push1 _ _)⟩
 by_cases c3 : (w.length : Int) ≠ n
 ·rw [if_neg (fun hg => c3 hg.2.1)] at pe
  refine zf hC tab92 ?_; simp only [B92]; refine zs4 @h1.len @h1.idx @h1.loadC @h2.len ?_
  exact ⟨fin 3 pe (by decide), (HSub.push1 _ _)⟩
 have c2' : ts.getD 0 0 = 0 := Decidable.not_not.1 c2
 have c3' : (w.length : Int) = n := Decidable.not_not.1 c3
 have hz : RI (h.push (.cells [.int .i64 0, .int .u32 0, .int .u32 0] true 0)) v1 ts := h1.mono (HSub.push1 _ _)
 refine zf hC tab92 ?_; simp only [B92]; refine zs5 @h1.len @h1.idx @h1.loadC @h2.len @c2' ?_
 refine jab (fun j t h' => ∃ i : Nat, h' = (h.push (.cells [.int .i64 0, .int .u32 0, .int .u32 0] true 0)).push (.cells [.int .i64 n, .int .u32 0, .int .u32 (maskT (ts.take i) : Nat)] true 0) ∧ t 0 = .int .i64 n ∧ t 2 = v2 ∧ t 6 = .ptr h.size 0 ∧ t 8 = .ptr (h.size + 1) 0 ∧ t 9 = .int .i64 (if i = 0 then -1 else ts.getD (i - 1) 0) ∧
   t 39 = v1 ∧ t 40 = .int .i64 ts.length ∧ t 41 = .int .i64 (i : Nat) ∧ i ≤ ts.length ∧ (∀ q, q < i → tapOk n ts q) ∧ j = ts.length - i) (j0 := ts.length)
  ⟨0, rfl, rfl, rfl, rfl, rfl, rfl, rfl, rfl, rfl, by omega, by omega, rfl⟩ ?_
 rintro j t h' ⟨i, rfl, e0, e2, e6, e8, e9, e39, e40, e41, hi, hok, hj⟩
 refine zs2 @e40 @e41 ?_
 refine Br.by (fun c => ?_) (fun c => ?_)
 ·have hi' : i < ts.length := by omega
  have hsub : HSub h ((h.push (.cells [.int .i64 0, .int .u32 0, .int .u32 0] true 0)).push (.cells [.int .i64 n, .int .u32 0, .int .u32 (maskT (ts.take i) : Nat)] true 0)) := (HSub.push1 _ _).push _
  by_cases ct : tapOk n ts i
  ·have ct' := ct
   unfold tapOk at ct'
   have t0 : 0 ≤ ts.getD i 0 := by
    have h1 := ct'.1
    by_cases h0 : i = 0
    ·rw [if_pos h0] at h1; omega
    ·rw [if_neg h0] at h1
     have hp : ∀ j, j ≤ i - 1 → -1 < ts.getD j 0 := by
      intro j
      induction j with
      | zero => intro _; omega
      | succ j ih =>
       intro hj
       have := (hok (j + 1) (by omega)).1
       rw [if_neg (by omega), show j + 1 - 1 = j by omega] at this
       have := ih (by omega)
       omega
     have := hp (i - 1) (Nat.le_refl _)
     omega
   have hm : maskT (ts.take i) < 65536 := by
    have h1 := jhw (n := 16) (ts.take i) 0 (by decide) (fun x hx => by
     obtain ⟨q, hq, rfl⟩ := List.mem_take_iff_getElem.1 hx
     have hq' : q < ts.length := by omega
     have h2 := (hok q (by omega)).2
     have e : ts[q] = ts.getD q 0 := by simp [hq']
     rw [e]; omega)
    exact h1
   have hpw := jee (k := (ts.getD i 0).toNat) (by omega)
   have ec := jhy (ts.getD i 0).toNat
   have em : maskT (ts.take (i + 1)) = maskT (ts.take i) ||| 2 ^ (ts.getD i 0).toNat := by rw [jag hi', jgK]
   have hor := jn7 (m := maskT (ts.take i)) (n := 2 ^ (ts.getD i 0).toNat) (by omega) (by omega)
   rw [← em] at hor
   have hlast : ¬ ts.getD i 0 ≤ (if i = 0 then -1 else ts.getD (i - 1) 0) := by omega
   generalize hP : 2 ^ (ts.getD i 0).toNat = P at hpw ec hor
   simp -implicitDefEqProofs (disch := first | exact zd | fail) only [↓wpPre, jaq, jar, Int.reduceToNat, Int.reducePow, Int.reduceMul, Int.reduceAdd, Int.reduceSub, Int.reduceNeg, Nat.reduceAdd, Nat.reduceMul, Nat.reducePow, Int.reduceLT, Int.reduceLE, Int.reduceEq, Nat.reduceEqDiff, e0, e2, e6, e8, e9, e39, e40, e41, h1.idx, h1.loadC, Int.one_mul, ec, hor]
   exact ⟨_, ⟨i + 1, rfl, by simp, by simp, by omega, fun q hq => by
    by_cases e : q = i
    ·subst e; exact ct
    ·exact hok q (by omega), rfl⟩, by omega⟩
  ·have hbad : ¬ jdL n ts w := fun hg => ct (hg.1.2.2 i hi')
   rw [if_neg hbad] at pe
   unfold tapOk at ct
   by_cases cl : ts.getD i 0 ≤ (if i = 0 then -1 else ts.getD (i - 1) 0)
   ·refine zs7 @e0 @e6 @e9 @e39 @e41 @h1.idx @h1.loadC ?_
    exact ⟨fin 3 pe (by decide), (HSub.push1 _ _).push _⟩
   ·refine zs7 @e0 @e6 @e9 @e39 @e41 @h1.idx @h1.loadC ?_
    exact ⟨fin 3 pe (by decide), (HSub.push1 _ _).push _⟩
 ·have : i = ts.length := by omega
  subst this
  rw [List.take_length]
  have hmm : (maskT ts : Int) = (maskT ts : Int) := rfl
  refine zs2 @e2 @h2.len ?_
  refine jab (fun j u h' => ∃ i : Nat, h' = (h.push (.cells [.int .i64 0, .int .u32 0, .int .u32 0] true 0)).push (.cells [.int .i64 n, .int .u32 (packL (w.take i) : Nat), .int .u32 (maskT ts : Nat)] true 0) ∧ u 6 = .ptr h.size 0 ∧ u 8 = .ptr (h.size + 1) 0 ∧
   u 62 = v2 ∧ u 63 = .int .i64 w.length ∧ u 64 = .int .i64 (i : Nat) ∧ i ≤ w.length ∧ bit01 (w.take i) ∧ j = w.length - i) (j0 := w.length)
   ⟨0, rfl, e6, e8, rfl, rfl, rfl, by omega, fun x hx => by simp at hx, rfl⟩ ?_
  rintro j u h' ⟨i, rfl, f6, f8, f62, f63, f64, hi, hbt, hj⟩
  refine zs2 @f63 @f64 ?_
  refine Br.by (fun c => ?_) (fun c => ?_)
  ·have hi' : i < w.length := by omega
   by_cases cb : w.getD i 0 = 0 ∨ w.getD i 0 = 1
   ·have hlt := jfm hbt
    have hl : (w.take i).length = i := by simp; omega
    rw [hl] at hlt
    have hpw := jee (k := i) (by omega)
    have ec := jhy i
    have hb1 : bit01 (w.take (i + 1)) := fun x hx => by
     rw [jag hi'] at hx
     rcases List.mem_append.1 hx with hx | hx
     ·exact hbt x hx
     ·rw [List.mem_singleton.1 hx]; exact cb
    have es : packL (w.take i) ||| 2 ^ i * (w.getD i 0).toNat = packL (w.take (i + 1)) := by
     rw [jag hi', jeJ, hl, Nat.or_comm, ← Nat.two_pow_add_eq_or_of_lt hlt, Nat.add_comm]
    generalize hP : 2 ^ i = P at hlt hpw ec es
    have e4 : w.getD i 0 * (P : Int) = ((P * (w.getD i 0).toNat : Nat) : Int) := by rcases cb with e | e <;> rw [e] <;> simp
    have e5 : P * (w.getD i 0).toNat ≤ 65536 := by rcases cb with e | e <;> rw [e] <;> simp <;> omega
    have hor := jn7 (m := packL (w.take i)) (n := P * (w.getD i 0).toNat) (by omega) (by omega)
    rw [es] at hor
    have cb2 : ¬ (w.getD i 0 ≠ 0 ∧ w.getD i 0 ≠ 1) := by omega
    rcases cb with cb | cb
    ·refine zs10 @f6 @f8 @f62 @f63 @f64 @h2.idx @h2.loadC @ec @e4 @hor ?_
     exact ⟨_, ⟨i + 1, rfl, by simp, by omega, hb1, rfl⟩, by omega⟩
    ·refine zs10 @f6 @f8 @f62 @f63 @f64 @h2.idx @h2.loadC @ec @e4 @hor ?_
     exact ⟨_, ⟨i + 1, rfl, by simp, by omega, hb1, rfl⟩, by omega⟩
   ·have hbad : ¬ jdL n ts w := fun hg => by
     have := List.any_eq_false.1 hg.2.2 _ (jal hi')
     simp only [Bool.not_eq_true, Bool.not_eq_false', Bool.or_eq_true, beq_iff_eq] at this
     exact cb this
    rw [if_neg hbad] at pe
    refine zs5 @f6 @f62 @f64 @h2.idx @h2.loadC ?_
    exact ⟨fin 3 pe (by decide), (HSub.push1 _ _).push _⟩
  ·have : i = w.length := by omega
   subst this
   rw [List.take_length] at hbt ⊢
   have hgood : jdL n ts w := ⟨⟨by omega, c2', hok⟩, c3', List.any_eq_false.2 fun x hx => by
    simp only [Bool.not_eq_true, Bool.not_eq_false', Bool.or_eq_true, beq_iff_eq]; exact hbt x hx⟩
   rw [if_pos hgood] at pe
   refine zs2 @f6 @f8 ?_
   refine ⟨by unfold madeR; rw [if_pos pe], ?_⟩
   exact (HSub.push1 _ _).push _
end
end Go.Ae
namespace Go.Ae
theorem jqg (x : Nat) : ∀ n, pop x n ≤ n
 | 0 => Nat.le_refl _
 | n + 1 => by
  have := jqg x n
  have h2 : bitN x n ≤ 1 := by unfold bitN; cases x.testBit n <;> simp
  unfold pop at *
  simp only [bsum]; omega
theorem RegOk.w1 {n : Nat} {ts w : List Int} (R : RegOk n ts w) : 1 ≤ w.length := by have := R.n2; have := R.len; omega
theorem RegOk.pack_lt {n : Nat} {ts w : List Int} (R : RegOk n ts w) (k : Nat) : packL (winW ts w k) < 65536 := by
 have h1 := jfm (jcI (ts := ts) R.bits k)
 rw [jbf R.w1, R.len] at h1
 have := jee R.n16
 omega
theorem RegOk.mask_lt {n : Nat} {ts w : List Int} (R : RegOk n ts w) : maskT ts < 65536 := by
 have h1 := jhz R.taps ts.length
 rw [List.take_length] at h1
 have := jee R.n16
 omega
theorem RegOk.step {n : Nat} {ts w : List Int} (R : RegOk n ts w) (k : Nat) : packL (winW ts w k) / 2 ||| 2 ^ (n - 1) * (xorT ts (winW ts w k)).toNat = packL (winW ts w (k + 1)) := by
 have h1 := jlW (ts := ts) (w := winW ts w k) (by rw [jbf R.w1]; exact R.w1) (jcI R.bits k)
 have hlt := jfm (jcI (ts := ts) R.bits k)
 rw [jbf R.w1, R.len] at h1 hlt
 have hn := R.n2
 have e : 2 ^ n = 2 ^ (n - 1) * 2 := by rw [← Nat.pow_succ]; congr 1; omega
 have hlt2 : packL (winW ts w k) / 2 < 2 ^ (n - 1) := by omega
 rw [Nat.or_comm, ← Nat.two_pow_add_eq_or_of_lt hlt2, Nat.add_comm, ← h1]; rfl
theorem RegOk.par {n : Nat} {ts w : List Int} (R : RegOk n ts w) (k : Nat) : ((pop (packL (winW ts w k) &&& maskT ts) 32 : Nat) : Int) % 2 = xorT ts (winW ts w k) := by
 have h1 := jkR (n := n) (by have := R.n16; omega) R.taps (jcI (ts := ts) R.bits k) ts.length (Nat.le_refl _)
 rw [List.take_length] at h1
 rw [← h1]; omega
theorem RegOk.bit {n : Nat} {ts w : List Int} (R : RegOk n ts w) (k : Nat) : ((packL (winW ts w k) &&& 1 : Nat) : Int) = seqB ts w k := by
 have h1 := jfP (jcI (ts := ts) R.bits k) 0
 have h2 := jjR (ts := ts) R.bits k
 have h3 : packL (winW ts w k) &&& 1 = packL (winW ts w k) % 2 := Nat.and_one_is_mod _
 unfold seqB at *
 unfold bitN at h1
 rw [Nat.testBit_zero] at h1
 rw [h3]
 rcases h2 with h2 | h2
 ·rw [h2] at h1 ⊢
  have : ¬ packL (winW ts w k) % 2 = 1 := fun e => by simp [e] at h1
  omega
 ·rw [h2] at h1 ⊢
  have : packL (winW ts w k) % 2 = 1 := by
   by_cases e : packL (winW ts w k) % 2 = 1
   ·exact e
   ·simp [e] at h1
  omega
section
variable {C : Ctx}
theorem jn8 (hC : Has C T95) {a b c : AV} {h : Heap} : ACalls C 95 [.agg [a, b, c]] h (fun r h' => r = .func 101 [] [.ptr h.size 0] ∧ h' = h.push (.cells [a, b, c] true 0)) := by
 refine zf hC tab95 ?_; simp only [B95]; exact ze
def jkT (n : Nat) (ts w : List Int) (k : Nat) : ABlk := .cells [.int .i64 (n : Nat), .int .u32 (packL (winW ts w k) : Nat), .int .u32 (maskT ts : Nat)] true 0
theorem jlZ (hC : Has C T101) {l b n : Nat} {ts w : List Int} {h : Heap} (R : RegOk n ts w) (J : Nat → Heap → Prop) (D : Heap → Prop) (M : Nat) (h0 : J 0 h) (hb : ∀ k h', J k h' → h'.get b = some (jkT n ts w k)) (hM : ∀ k h', J k h' → k ≤ M)
  (hy : ∀ k h', J k h' → jeZ C l [.int .i64 (seqB ts w k), .int .u32 (packL (winW ts w (k + 1)) : Nat)] (h'.put b (jkT n ts w (k + 1))) (fun r h'' => (r = .bool true ∧ J (k + 1) h'') ∨ (r = .bool false ∧ D h''))) :
  ACalls C 101 [.yield l, .ptr b 0] h (fun _ h' => D h') := by
 refine zf hC tab101 ?_; simp only [B101]; refine zs ?_
 refine jab (fun j t h' => ∃ k : Nat, J k h' ∧ t 0 = .yield l ∧ t 1 = .ptr b 0 ∧ j = M - k) (j0 := M) ⟨0, h0, rfl, rfl, rfl⟩ ?_
 rintro j t h' ⟨k, hJ, e0, e1, hj⟩
 have hbx := hb k h' hJ
 have hbl := Heap.lt_of_get hbx
 have hm := hM k h' hJ
 have p1 := R.pack_lt k
 have p2 := R.mask_lt
 have p3 : packL (winW ts w k) &&& maskT ts < 65536 := Nat.lt_of_le_of_lt Nat.and_le_left p1
 have a1 : bitsA .and .u32 (packL (winW ts w k) : Nat) 1 = seqB ts w k := by
  have := jjS (m := packL (winW ts w k)) (n := 1) (by omega) (by decide)
  rw [R.bit k] at this; exact this
 have a2 := jjS (m := packL (winW ts w k)) (n := maskT ts) (by omega) (by omega)
 have sq := jjR (ts := ts) R.bits k
 have xq := jhu ts (winW ts w k)
 have hpar := R.par k
 have hpl := jqg (packL (winW ts w k) &&& maskT ts) 32
 have hpw := jee (k := n - 1) (by have := R.n16; omega)
 have ec := jhy (n - 1)
 have hst := R.step k
 have hn2 := R.n2
 have hn16 := R.n16
 have hor := jn7 (m := packL (winW ts w k) / 2) (n := 2 ^ (n - 1) * (xorT ts (winW ts w k)).toNat) (by omega) (by rcases xq with e | e <;> rw [e] <;> simp <;> omega)
 rw [hst] at hor
 have e4 : xorT ts (winW ts w k) * ((2 ^ (n - 1) : Nat) : Int) = ((2 ^ (n - 1) * (xorT ts (winW ts w k)).toNat : Nat) : Int) := by rcases xq with e | e <;> rw [e] <;> simp
 have e5 : (2 ^ (n - 1) * (xorT ts (winW ts w k)).toNat : Nat) ≤ 65536 := by rcases xq with e | e <;> rw [e] <;> simp <;> omega
 have e6 : ((n : Int) - 1).toNat = n - 1 := by omega
 have e7 : (packL (winW ts w k) : Int) / 2 = ((packL (winW ts w k) / 2 : Nat) : Int) := by omega
 have hb2 : h'.get b = some (.cells [.int .i64 (n : Nat), .int .u32 (packL (winW ts w k) : Nat), .int .u32 (maskT ts : Nat)] true 0) := hbx
 refine zs5 @e0 @e1 @hb2 @a1 @a2 ?_
 refine jaa.eq (jgi (zu hC T102) (by omega)) ?_
 refine zs9 @e0 @e1 @hb2 @hpar @e6 @ec @e4 @e7 @hor ?_
 refine jcE.of (hy k h' hJ) ?_
 rintro r h'' (⟨rfl, hJ'⟩ | ⟨rfl, hD⟩)
 ·refine zs2 @e0 @e1 ?_
  have := hM _ _ hJ'
  exact ⟨_, ⟨k + 1, hJ', rfl⟩, by omega⟩
 ·refine zs1 @e0 ?_
  exact hD
end
end Go.Ae
namespace Go.Ae
def je4 (ts w : List Int) (m k : Nat) : List Int := runL ts w k ++ List.replicate (m - k) 0
theorem jhA {ts w : List Int} {m k : Nat} (h : k ≤ m) : (je4 ts w m k).length = m := by simp [je4, jbe]; omega
theorem jl0 {ts w : List Int} {m k : Nat} (h : k < m) : (je4 ts w m k).set k (seqB ts w k) = je4 ts w m (k + 1) := by
 unfold je4
 have hl := jbe ts w k
 rw [List.set_append_right _ _ (by omega), hl, Nat.sub_self, show m - k = m - (k + 1) + 1 by omega, List.replicate_succ, List.set_cons_zero, jfQ, List.append_assoc]
 rfl
section
variable {C : Ctx}
set_option maxRecDepth 100000 in
set_option maxHeartbeats 2000000 in
theorem jl1 (hC : Has C T93) {n m : Nat} {ts w : List Int} {h : Heap} (R : RegOk n ts w) (hm : m ≤ 100000) :
  ACalls C 93 [.agg [.int .i64 (n : Nat), .int .u32 (packL w : Nat), .int .u32 (maskT ts : Nat)], .int .i64 (m : Nat)] h (fun r h' => Fresh h h' r (runL ts w m)) := by
 refine zf hC tab93 ?_; simp only [B93]; refine zs ?_
 refine jaa.hide (fun H hH => ?_)
 have N : H.size = h.size + 4 := by rw [hH]; exact ze
 have b3 : H.get (h.size + 1) = some (.cells [.int .i64 (m : Nat)] true 0) := by rw [hH]; exact ze
 have b5 : H.get (h.size + 3) = some (.cells [.slice (h.size + 2) 0 0 (.known m)] true 0) := by rw [hH]; exact ze
 have br : H.get (h.size + 2) = some (.cells (ints (List.replicate m 0)) true 0) := by rw [hH, ← jaz]; exact ze
 have hsH : HSub h H := by rw [hH]; exact (((HSub.push1 h _).push _).push _).push _
 clear hH
 refine jaa.eq (jn8 (zu hC T95)) ?_
 refine zs ?_
 refine jbC (D := fun h' => ∃ R, h'.get (H.size + 2) = some (.loop R) ∧ R.state = .done ∧ R.pend = some (.exit 0) ∧ HSub h h' ∧ h'.get (H.size + 1) = some (.defd true) ∧
   h'.get (h.size + 3) = some (.cells [.slice (h.size + 2) 0 m (.known m)] true 0) ∧ h'.get (h.size + 2) = some (.cells (ints (runL ts w m)) true 0) ∧ H.size + 3 ≤ h'.size) ?_ ?_
 ·refine ACalls.hideLoop (fun Q hR => ?_)
  show ACalls C 101 [.yield (H.size + 2), .ptr H.size 0] _ _
  have rs : Q.state = .ready := by rw [hR]
  have rp : Q.pend = none := by rw [hR]
  have rb := jc4 rs rp
  refine jlZ (zu hC T101) R (fun k h' => k ≤ m ∧ h'.get (H.size + 2) = some (.loop Q) ∧ h'.get H.size = some (jkT n ts w k) ∧ h'.get (H.size + 1) = some (.defd true) ∧ HSub h h' ∧ H.size + 3 ≤ h'.size ∧
   h'.get (h.size + 1) = some (.cells [.int .i64 (m : Nat)] true 0) ∧ h'.get (h.size + 3) = some (.cells [.slice (h.size + 2) 0 k (.known m)] true 0) ∧ h'.get (h.size + 2) = some (.cells (ints (je4 ts w m k)) true 0)) _ m ?_ ?_ ?_ ?_
  ·refine ⟨by omega, ?_, ?_, ?_, ?_, ?_, ?_, ?_, ?_⟩
   ·exact ze
   ·refine zs ?_
    rfl
   ·exact ze
   ·exact ((hsH.push _).push _).push _
   ·refine zs ?_
    omega
   ·exact ze1 @b3
   ·exact ze1 @b5
   ·refine zs1 @br ?_
    simp [je4, runL]
  ·rintro k h' ⟨_, _, q, _⟩
   exact q
  ·rintro k h' ⟨q, _⟩
   exact q
  ·rintro k h' ⟨hk, hl, hw1, hd, hsub, hsz, q3, q5, qr⟩
   have hfl := jhA (ts := ts) (w := w) hk
   have hl2 : (h'.put H.size (jkT n ts w (k + 1))).get (H.size + 2) = some (.loop Q) := (jae (by omega)).trans hl
   refine jby hl2 rs (by rw [hR]; rfl) ?_
   simp only [congrArg ALoop.nt hR, congrArg ALoop.t hR, congrArg ALoop.params hR, congrArg ALoop.assign hR, congrArg ALoop.body hR]
   refine zs4 @hl @rs @q3 @q5 ?_
   refine Br.by (fun c => ?_) (fun c => ?_)
   ·have : k = m := by omega
    subst this
    refine zs1 @hl ?_
    exact .inr ⟨_, rfl, rfl, rfl, ((hsub.put (by omega) _).put (by omega) _), hd, q5, by simpa [je4] using qr, by omega⟩
   ·have hk' : k < m := by omega
    refine zs7 @hl @rs @q3 @q5 @qr @jba @jbZ ?_
    exact .inl ⟨by omega, by rw [rb], hd, (((((hsub.put (by omega) _).put (by omega) _).put (by omega) _).put (by omega) _).put (by omega) _).push _, by omega, by rw [jl0 hk']⟩
 ·rintro h' ⟨Q, hl, hst, hpd, hsub, hd, q5, qr, hsz⟩
  refine ⟨Q, hl, by rw [hst]; decide, ?_⟩
  rw [hpd]
  show jbb _ _ (.exit 0) _
  refine zs2 @hd @q5 ?_
  have rl := jbe ts w m
  refine ⟨(hsub.put (by omega) _).put (by omega) _, by omega, h.size + 2, by omega, by rw [rl], ?_⟩
  exact ze1 @qr
def jgL (n : Int) (ts w : List Int) (m : Int) : Int := if jcs n ts w = 0 then (if m < 0 ∨ 100000 < m then 4 else 0) else jcs n ts w
theorem jpI (hC : Has C T81) {n m : Int} {v1 v2 : AV} {ts w : List Int} {h : Heap} (h1 : RI h v1 ts) (h2 : RI h v2 w) (hm : In64 m) :
  ACalls C 81 [.int .i64 n, v1, v2, .int .i64 m] h (fun r h' => ∃ v', r = jac v' (jgL n ts w m) ∧ HSub h h' ∧ RI h' v' (if jgL n ts w m = 0 then runL ts w m.toNat else []) ∧ (jgL n ts w m = 0 → Fresh h h' v' (runL ts w m.toNat))) := by
 have pe : jgL n ts w m = if jcs n ts w = 0 then (if m < 0 ∨ 100000 < m then 4 else 0) else jcs n ts w := rfl
 unfold In64 at hm
 by_cases c : jcs n ts w = 0
 ·rw [if_pos c] at pe
  obtain ⟨k, rfl, R⟩ := jiB c
  have eR : madeR k ts w = .tuple [.agg [.int .i64 (k : Nat), .int .u32 (packL w), .int .u32 (maskT ts)], .int .i64 0] := by unfold madeR; rw [if_pos c]
  refine zf hC tab81 ?_; simp only [B81]; refine zs ?_
  refine jaa.eq2 (jiC (zu hC T92) h1 h2) eR ?_
  by_cases c2 : m < 0 ∨ 100000 < m
  ·rw [if_pos c2] at pe
   refine zs ?_
   (repeat' (first | (refine Br.by (fun _ => ?_) (fun _ => ?_)) | (refine zs ?_)))
   all_goals first | exact ⟨.nilslice, by rw [pe, jac], HSub.push1 _ _, by rw [if_neg (by rw [pe]; decide)]; exact RI.nil, fun e => absurd e (by rw [pe]; decide)⟩ | omega
  ·rw [if_neg c2] at pe
   obtain ⟨q, rfl⟩ := Int.eq_ofNat_of_zero_le (show 0 ≤ m by omega)
   refine zs ?_
   refine jaa.of (jl1 (zu hC T93) R (by omega)) ?_
   rintro r h' F
   refine zs ?_
   exact ⟨r, by rw [pe, jac], (HSub.push1 _ _).trans F.sub, by rw [if_pos pe]; exact F.ri, fun _ => F.mono (HSub.push1 _ _)⟩
 ·rw [if_neg c] at pe
  have eR : madeR n ts w = .tuple [.agg [.int .i64 0, .int .u32 0, .int .u32 0], .int .i64 (jcs n ts w)] := by unfold madeR; rw [if_neg c]
  refine zf hC tab81 ?_; simp only [B81]; refine zs ?_
  refine jaa.eq2 (jiC (zu hC T92) h1 h2) eR ?_
  refine zs ?_
  exact ⟨.nilslice, by rw [pe, jac], HSub.push1 _ _, by rw [if_neg (by rw [pe]; exact c)]; exact RI.nil, fun e => absurd e (by rw [pe]; exact c)⟩
end
end Go.Ae
namespace Go.Ae
theorem RegOk.same {n : Nat} {ts w : List Int} (R : RegOk n ts w) (k : Nat) : packL (winW ts w k) = packL w ↔ winW ts w k = w :=
 ⟨fun h => jix (jbf R.w1 k) (jcI R.bits k) R.bits h, fun h => by rw [h]⟩
section
variable {C : Ctx}
end
end Go.Ae
namespace Go.Ae
theorem gV_u {w : Bool} {p q : Prop} : @gV .undef w ⟨p⟩ ⟨q⟩ = q := rfl
section
variable {C : Ctx}
end
end Go.Ae
namespace Go.Ae
theorem xor01 {a b : Int} (ha : a = 0 ∨ a = 1) (hb : b = 0 ∨ b = 1) : bitsA .xor .i64 a b = (a + b) % 2 := by
 rcases ha with rfl | rfl <;> rcases hb with rfl | rfl <;> decide
theorem jpJ {n : Nat} {ts w : List Int} (R : RegOk n ts w) {i t : Nat} (ht : t < n) : (runL ts w (n + i)).getD (i + t) 0 = (winW ts w i).getD t 0 := by
 rw [jkS (by omega), jfn R.w1 t i (by rw [R.len]; exact ht)]
section
variable {C : Ctx}
set_option maxRecDepth 100000 in
set_option maxHeartbeats 1000000 in
theorem jl2 (hC : Has C T91) {n : Nat} {m : Int} {v1 v2 : AV} {ts w : List Int} {h : Heap} (h1 : RI h v1 ts) (h2 : RI h v2 w) (R : RegOk n ts w) (hm : m ≤ 1000000) (hm2 : In64 m) :
  ACalls C 91 [.int .i64 (n : Nat), v1, v2, .int .i64 m] h (fun r h' => ∃ L : Nat, GrwI h h' r (runL ts w L) ∧ n ≤ L ∧ (m ≤ L) ∧ (L : Int) = max (n : Int) m) := by
 have hn2 := R.n2
 have hn16 := R.n16
 have hwl := R.len
 have l1 := h1.lt
 unfold In64 at hm2
 obtain ⟨i, o, q, cp, rfl⟩ : ∃ i o n cp, v2 = .slice i o n cp := by
  obtain ⟨_, _, ⟨rfl, h1⟩ | ⟨i, o, cp, vs, wr, u, rfl, _⟩⟩ := h2
  ·omega
  ·exact ⟨_, _, _, _, rfl⟩
 have hc' : jao (h.push (.cells [] true 0)) 1 (.slice i o q cp) = some (w.length, ints w) := (h2.mono (HSub.push1 _ _)).content
 have rs := jlV (ts := ts) R.w1
 rw [hwl] at rs
 refine zf hC tab91 ?_; simp only [B91]; refine zs1 @hc' ?_
 refine jab (fun j t h' => ∃ i : Nat, GrwI h h' (t 9) (runL ts w (n + i)) ∧ t 1 = v1 ∧ t 3 = .int .i64 m ∧ t 10 = .int .i64 (i : Nat) ∧ (i = 0 ∨ n + i ≤ m) ∧ j = (m - (n + i)).toNat) (j0 := (m - n).toNat)
  ⟨0, ?_, rfl, rfl, rfl, by omega, by omega⟩ ?_
 ·show GrwI h _ (.slice (h.size + 1) 0 w.length (.unk 0)) (runL ts w n)
  rw [rs]
  exact Grw.fresh ((HSub.push1 _ _).push _) (by omega) (by omega) (jaf rfl)
 rintro j t h' ⟨i, A, e1, e3, e10, hi, hj⟩
 have rl := jbe ts w (n + i)
 have RA := A.ri
 refine zs3 @e3 @RA.len @rl ?_
 refine Br.by (fun c => ?_) (fun c => ?_)
 ·refine zs ?_
  have h1' := h1.mono A.sub
  refine jab (fun j u hx => hx = h' ∧ ∃ k : Nat, u 9 = t 9 ∧ u 1 = v1 ∧ u 3 = .int .i64 m ∧ u 10 = .int .i64 (i : Nat) ∧ u 11 = .int .i64 (xorT (ts.take k) (winW ts w i)) ∧ u 12 = .int .i64 (k : Nat) ∧ k ≤ ts.length ∧ j = ts.length - k) (j0 := ts.length)
   ⟨rfl, 0, rfl, e1, e3, e10, rfl, rfl, by omega, rfl⟩ ?_
  rintro j u hx ⟨hh, k, f9, f1, f3, f10, f11, f12, hk, hj⟩
  subst hh
  refine zs3 @f1 @f12 @h1'.len ?_
  refine Br.by (fun c2 => ?_) (fun c2 => ?_)
  ·have hk' : k < ts.length := by omega
   have t0 := jdj R.taps hk'
   have t1 := (R.taps k hk').2
   have ei : ((i : Int) + ts.getD k 0).toNat = i + (ts.getD k 0).toNat := by omega
   have eg := jpJ R (i := i) (t := (ts.getD k 0).toNat) (by omega)
   have x1 := jhu (ts.take k) (winW ts w i)
   have x2 := (jcI (ts := ts) R.bits i).get (ts.getD k 0).toNat
   have ex := xor01 x1 x2
   have es : xorT (ts.take (k + 1)) (winW ts w i) = (xorT (ts.take k) (winW ts w i) + (winW ts w i).getD (ts.getD k 0).toNat 0) % 2 := by rw [jag hk', jiy]
   rw [← es] at ex
   simp -implicitDefEqProofs (disch := first | exact zd | fail) only [↓wpPre, jaq, jar, Int.reduceToNat, Int.reducePow, Int.reduceMul, Int.reduceAdd, Int.reduceSub, Int.reduceNeg, Nat.reduceAdd, Nat.reduceMul, Nat.reducePow, Int.reduceLT, Int.reduceLE, Int.reduceEq, Nat.reduceEqDiff, f1, f3, f9, f10, f11, f12, h1'.idx, h1'.load, RA.idx, RA.load, ei, eg, ex]
   exact ⟨_, ⟨k + 1, rfl, by simp, by omega, rfl⟩, by omega⟩
  ·have : k = ts.length := by omega
   subst this
   rw [List.take_length] at f11
   have ex : xorT ts (winW ts w i) = seqB ts w (n + i) := by
    have := jn6 (ts := ts) R.w1 i
    rw [hwl] at this
    rw [← this, Nat.add_comm]
   have A2 := A.snoc (x := seqB ts w (n + i)) (HSub.push1 hx (.cells [.int .i64 (seqB ts w (n + i))] true 0)) (by omega)
   rw [← jfQ, rl] at A2
   have ers := jfQ ts w (n + i)
   rw [ex] at f11
   simp -implicitDefEqProofs (disch := first | exact zd | fail) only [↓wpPre, jaq, jar, Int.reduceToNat, Int.reducePow, Int.reduceMul, Int.reduceAdd, Int.reduceSub, Int.reduceNeg, Nat.reduceAdd, Nat.reduceMul, Nat.reducePow, Int.reduceLT, Int.reduceLE, Int.reduceEq, Nat.reduceEqDiff, f1, f3, f9, f10, f11, jba, jbZ, A.app, rl, ← ers]
   exact ⟨_, ⟨i + 1, A2, by simp, by omega, rfl⟩, by omega⟩
 ·refine zs ?_
  exact ⟨n + i, A, by omega, by omega, by omega⟩
end
end Go.Ae
namespace Go.Ae
section
variable {C : Ctx}
end
end Go.Ae
namespace Go.Ae
def lenOk (d : Int) : Bool := [5, 6, 7, 9, 10].any fun y => d == y
theorem jaS {d : Int} (h : lenOk d = true) : d = 5 ∨ d = 6 ∨ d = 7 ∨ d = 9 ∨ d = 10 := by
 simp only [lenOk, List.any_cons, List.any_nil, Bool.or_false, Bool.or_eq_true, beq_iff_eq] at h; exact h
def lenN (d : Int) : Nat := 2 ^ d.toNat - 1
theorem jaQ {d : Int} (h : lenOk d = true) : 31 ≤ lenN d ∧ lenN d ≤ 1023 ∧ (2 : Int) ^ d.toNat = ((lenN d + 1 : Nat) : Int) := by
 rcases jaS h with rfl | rfl | rfl | rfl | rfl <;> decide
def lenE (d : Int) : AV := if lenOk d = true then tup2 (lenN d) 0 else tup2 0 2
def tapsL (d w : Int) : List Int :=
 if d = 5 then (if w = 1 then [0, 2] else [0, 2, 3, 4]) else if d = 6 then (if w = 1 then [0, 1] else [0, 1, 2, 5]) else if d = 7 then (if w = 1 then [0, 3] else [0, 1, 2, 3])
 else if d = 9 then (if w = 1 then [0, 4] else [0, 3, 4, 6]) else (if w = 1 then [0, 3] else [0, 2, 3, 8])
def jan (d w : Int) : Int := if lenOk d = true ∧ (w = 1 ∨ w = 2) then 0 else 2
theorem jax {agg : Bool} {sz len : Nat} {vs : List AV} {kk : IntKind} {k : Int} (h : 0 ≤ k ∧ k < len) : jfI agg sz len (.agg vs) (.int kk k) = partA agg vs (k.toNat * sz) sz := by simp [jfI, h]
section
variable {C : Ctx}
theorem jaC (hC : Has C T70) {d : Int} {h : Heap} (hd : In64 d) : ACalls C 70 [.int .i64 d] h (fun r h' => r = lenE d ∧ h' = h) := by
 unfold In64 at hd
 refine ACalls.gc0 (P := fun r h' => r = lenE d ∧ HSub h h') ?_ (fun r h' hp => ⟨by rw [hp.1]; unfold lenE tup2; split <;> exact jcn (by simp [AV.free, AV.bel]), hp.2, hp.1, rfl⟩)
 refine zf hC tab70 ?_; simp only [B70]; refine zs ?_
 refine jaa.eq (jbs (zu hC T89) (l := [5, 6, 7, 9, 10]) (RI.known (jaf rfl) ⟨rfl, by decide⟩ (by decide))) ?_
 by_cases c : lenOk d = true
 ·have hl := jaQ c
  have hc := jaS c
  have c' : ([5, 6, 7, 9, 10].any fun y => d == y) = true := c
  rw [c']
  refine zs2 @Int.one_mul @hl.2.2 ?_
  exact ⟨by unfold lenE tup2; rw [if_pos c]; simp, HSub.push1 _ _⟩
 ·have c' : ([5, 6, 7, 9, 10].any fun y => d == y) = false := Bool.eq_false_iff.2 c
  rw [c']
  refine zs ?_
  exact ⟨by unfold lenE tup2; rw [if_neg c], HSub.push1 _ _⟩
theorem jaw (hC : Has C T71) {d : Int} {h : Heap} (hd : In64 d) : ACalls C 71 [.int .i64 d] h (fun r h' => r = lenE d ∧ h' = h) := by
 unfold In64 at hd
 by_cases c : lenOk d = true
 ·have e : lenE d = tup2 (lenN d) 0 := by unfold lenE; rw [if_pos c]
  rw [e]
  have hl := jaQ c
  have e2 : ((lenN d + 1 : Nat) : Int) - 1 = lenN d := by omega
  rcases jaS c with rfl | rfl | rfl | rfl | rfl <;>
  ·refine zf hC tab71 ?_; simp only [B71]; refine zs ?_
   rfl
 ·have e : lenE d = tup2 0 2 := by unfold lenE; rw [if_neg c]
  rw [e]
  have h5 : d ≠ 5 := fun h => c (by rw [h]; decide)
  have h6 : d ≠ 6 := fun h => c (by rw [h]; decide)
  have h7 : d ≠ 7 := fun h => c (by rw [h]; decide)
  have h9 : d ≠ 9 := fun h => c (by rw [h]; decide)
  have h10 : d ≠ 10 := fun h => c (by rw [h]; decide)
  refine zf hC tab71 ?_; simp only [B71]; refine zs ?_
  rfl
end
end Go.Ae
namespace Go.Ae
def jhB (b : Nat) (h : Heap) : Prop :=
 h.get b = some (.cells (ints [0, 2]) true 0) ∧ h.get (b + 1) = some (.cells (ints [0, 2, 3, 4]) true 0) ∧ h.get (b + 2) = some (.cells (ints [0, 1]) true 0) ∧ h.get (b + 3) = some (.cells (ints [0, 1, 2, 5]) true 0) ∧
 h.get (b + 4) = some (.cells (ints [0, 3]) true 0) ∧ h.get (b + 5) = some (.cells (ints [0, 1, 2, 3]) true 0) ∧ h.get (b + 6) = some (.cells (ints [0, 4]) true 0) ∧ h.get (b + 7) = some (.cells (ints [0, 3, 4, 6]) true 0) ∧
 h.get (b + 8) = some (.cells (ints [0, 3]) true 0) ∧ h.get (b + 9) = some (.cells (ints [0, 2, 3, 8]) true 0)
theorem jhB.mono {b : Nat} {h h' : Heap} (T : jhB b h) (hs : HSub h h') : jhB b h' := by
 obtain ⟨a0, a1, a2, a3, a4, a5, a6, a7, a8, a9⟩ := T
 have k : ∀ {i x}, h.get i = some x → h'.get i = some x := fun e => (hs.get _ (Heap.lt_of_get e)).trans e
 exact ⟨k a0, k a1, k a2, k a3, k a4, k a5, k a6, k a7, k a8, k a9⟩
def jqh (b : Nat) : AV := .agg [.int .i64 5, .slice b 0 2 (.known 2), .slice (b + 1) 0 4 (.known 4), .int .i64 6, .slice (b + 2) 0 2 (.known 2), .slice (b + 3) 0 4 (.known 4), .int .i64 7, .slice (b + 4) 0 2 (.known 2), .slice (b + 5) 0 4 (.known 4),
 .int .i64 9, .slice (b + 6) 0 2 (.known 2), .slice (b + 7) 0 4 (.known 4), .int .i64 10, .slice (b + 8) 0 2 (.known 2), .slice (b + 9) 0 4 (.known 4)]
section
variable {C : Ctx}
set_option maxRecDepth 100000 in
set_option maxHeartbeats 4000000 in
theorem jiD (hC : Has C T72) {d w : Int} {h : Heap} (hd : In64 d) (hw : In64 w) : ACalls C 72 [.int .i64 d, .int .i64 w] h (fun r h' => ∃ v, r = jac v (jan d w) ∧ HSub h h' ∧ RI h' v (if jan d w = 0 then tapsL d w else [])) := by
 unfold In64 at hw
 by_cases c : lenOk d = true
 ·have e : lenE d = tup2 (lenN d) 0 := by unfold lenE; rw [if_pos c]
  by_cases cw : w = 1 ∨ w = 2
  ·have pe : jan d w = 0 := by unfold jan; rw [if_pos ⟨c, cw⟩]
   rw [pe]
   refine zf hC tab72 ?_; simp only [B72]; refine zs ?_
   refine jaa.eq2 (jaC (zu hC T70) hd) e ?_
   refine zs1 @tup2.eq_1 ?_
   refine jab (fun j t h' => ∃ i : Nat, i ≤ 4 ∧ HSub h h' ∧ jhB h.size h' ∧ t 0 = .int .i64 d ∧ t 1 = .int .i64 w ∧ t 46 = jqh h.size ∧ t 47 = .int .i64 (i : Nat) ∧ (∀ y ∈ ([5, 6, 7, 9, 10] : List Int).take i, d ≠ y) ∧ j = 5 - i) (j0 := 5)
    ⟨0, by omega, ?_, ?_, rfl, rfl, rfl, rfl, by simp, rfl⟩ ?_
   ·(repeat (first | exact HSub.refl _ | refine HSub.push ?_ _))
   ·refine ⟨?_, ?_, ?_, ?_, ?_, ?_, ?_, ?_, ?_, ?_⟩ <;> (refine zs ?_; try rfl)
   rintro j t h' ⟨i, hi, hs, T, e0, e1, e46, e47, hne, hj⟩
   unfold jqh at e46
   rcases (show i = 0 ∨ i = 1 ∨ i = 2 ∨ i = 3 ∨ i = 4 by omega) with rfl | rfl | rfl | rfl | rfl
   ·by_cases cd : d = 5
    ·subst cd
     rcases cw with rfl | rfl
     ·refine zs5 @e0 @e1 @e46 @e47 @jax ?_
      exact ⟨.slice (h.size + 0) 0 2 (.known 2), by simp [jac], hs.push _, RI.known ((jai (Heap.lt_of_get T.1)).trans T.1) ⟨rfl, by decide⟩ (by decide)⟩
     ·refine zs5 @e0 @e1 @e46 @e47 @jax ?_
      exact ⟨.slice (h.size + 1) 0 4 (.known 4), by simp [jac], hs.push _, RI.known ((jai (Heap.lt_of_get T.2.1)).trans T.2.1) ⟨rfl, by decide⟩ (by decide)⟩
    ·refine zs5 @e0 @e1 @e46 @e47 @jax ?_
     exact ⟨_, ⟨1, by omega, hs.push _, T.mono (HSub.push1 _ _), rfl, by simp, fun y hy => (by have hn := hne; simp at hn hy; omega), rfl⟩, by omega⟩
   ·by_cases cd : d = 6
    ·subst cd
     rcases cw with rfl | rfl
     ·refine zs5 @e0 @e1 @e46 @e47 @jax ?_
      exact ⟨.slice (h.size + 2) 0 2 (.known 2), by simp [jac], hs.push _, RI.known ((jai (Heap.lt_of_get T.2.2.1)).trans T.2.2.1) ⟨rfl, by decide⟩ (by decide)⟩
     ·refine zs5 @e0 @e1 @e46 @e47 @jax ?_
      exact ⟨.slice (h.size + 3) 0 4 (.known 4), by simp [jac], hs.push _, RI.known ((jai (Heap.lt_of_get T.2.2.2.1)).trans T.2.2.2.1) ⟨rfl, by decide⟩ (by decide)⟩
    ·refine zs5 @e0 @e1 @e46 @e47 @jax ?_
     exact ⟨_, ⟨2, by omega, hs.push _, T.mono (HSub.push1 _ _), rfl, by simp, fun y hy => (by have hn := hne; simp at hn hy; omega), rfl⟩, by omega⟩
   ·by_cases cd : d = 7
    ·subst cd
     rcases cw with rfl | rfl
     ·refine zs5 @e0 @e1 @e46 @e47 @jax ?_
      exact ⟨.slice (h.size + 4) 0 2 (.known 2), by simp [jac], hs.push _, RI.known ((jai (Heap.lt_of_get T.2.2.2.2.1)).trans T.2.2.2.2.1) ⟨rfl, by decide⟩ (by decide)⟩
     ·refine zs5 @e0 @e1 @e46 @e47 @jax ?_
      exact ⟨.slice (h.size + 5) 0 4 (.known 4), by simp [jac], hs.push _, RI.known ((jai (Heap.lt_of_get T.2.2.2.2.2.1)).trans T.2.2.2.2.2.1) ⟨rfl, by decide⟩ (by decide)⟩
    ·refine zs5 @e0 @e1 @e46 @e47 @jax ?_
     exact ⟨_, ⟨3, by omega, hs.push _, T.mono (HSub.push1 _ _), rfl, by simp, fun y hy => (by have hn := hne; simp at hn hy; omega), rfl⟩, by omega⟩
   ·by_cases cd : d = 9
    ·subst cd
     rcases cw with rfl | rfl
     ·refine zs5 @e0 @e1 @e46 @e47 @jax ?_
      exact ⟨.slice (h.size + 6) 0 2 (.known 2), by simp [jac], hs.push _, RI.known ((jai (Heap.lt_of_get T.2.2.2.2.2.2.1)).trans T.2.2.2.2.2.2.1) ⟨rfl, by decide⟩ (by decide)⟩
     ·refine zs5 @e0 @e1 @e46 @e47 @jax ?_
      exact ⟨.slice (h.size + 7) 0 4 (.known 4), by simp [jac], hs.push _, RI.known ((jai (Heap.lt_of_get T.2.2.2.2.2.2.2.1)).trans T.2.2.2.2.2.2.2.1) ⟨rfl, by decide⟩ (by decide)⟩
    ·refine zs5 @e0 @e1 @e46 @e47 @jax ?_
     exact ⟨_, ⟨4, by omega, hs.push _, T.mono (HSub.push1 _ _), rfl, by simp, fun y hy => (by have hn := hne; simp at hn hy; omega), rfl⟩, by omega⟩
   ·by_cases cd : d = 10
    ·subst cd
     rcases cw with rfl | rfl
     ·refine zs5 @e0 @e1 @e46 @e47 @jax ?_
      exact ⟨.slice (h.size + 8) 0 2 (.known 2), by simp [jac], hs.push _, RI.known ((jai (Heap.lt_of_get T.2.2.2.2.2.2.2.2.1)).trans T.2.2.2.2.2.2.2.2.1) ⟨rfl, by decide⟩ (by decide)⟩
     ·refine zs5 @e0 @e1 @e46 @e47 @jax ?_
      exact ⟨.slice (h.size + 9) 0 4 (.known 4), by simp [jac], hs.push _, RI.known ((jai (Heap.lt_of_get T.2.2.2.2.2.2.2.2.2)).trans T.2.2.2.2.2.2.2.2.2) ⟨rfl, by decide⟩ (by decide)⟩
    ·exfalso
     rcases jaS c with h | h | h | h | h <;> simp_all
  ·have pe : jan d w = 2 := by unfold jan; rw [if_neg (fun h => cw h.2)]
   rw [pe]
   refine zf hC tab72 ?_; simp only [B72]; refine zs ?_
   refine jaa.eq2 (jaC (zu hC T70) hd) e ?_
   refine zs1 @tup2.eq_1 ?_
   (repeat' (first | (refine Br.by (fun _ => ?_) (fun _ => ?_)) | (refine zs ?_)))
   all_goals first | exact ⟨.nilslice, by rw [jac], HSub.refl _, RI.nil⟩ | omega
 ·have e : lenE d = tup2 0 2 := by unfold lenE; rw [if_neg c]
  have pe : jan d w = 2 := by unfold jan; rw [if_neg (fun h => c h.1)]
  rw [pe]
  refine zf hC tab72 ?_; simp only [B72]; refine zs ?_
  refine jaa.eq2 (jaC (zu hC T70) hd) e ?_
  refine zs1 @tup2.eq_1 ?_
  exact ⟨.nilslice, by rw [jac], HSub.refl _, RI.nil⟩
end
end Go.Ae
namespace Go.Ae
section
variable {C : Ctx}
set_option maxRecDepth 100000 in
theorem jfR (hC : Has C T73) {d w : Int} {h : Heap} (hd : In64 d) (hw : In64 w) : ACalls C 73 [.int .i64 d, .int .i64 w] h (fun r h' => ∃ v, r = jac v (jan d w) ∧ HSub h h' ∧ RI h' v (if jan d w = 0 then tapsL d w else [])) := by
 have hw' := hw
 unfold In64 at hw'
 by_cases c : lenOk d = true
 ·have e : lenE d = tup2 (lenN d) 0 := by unfold lenE; rw [if_pos c]
  by_cases cw : w = 1 ∨ w = 2
  ·have pe : jan d w = 0 := by unfold jan; rw [if_pos ⟨c, cw⟩]
   rw [pe]
   have fin : ∀ {l : List Int}, l = tapsL d w → l.length < 9223372036854775808 → ∃ v, AV.tuple [.slice h.size 0 l.length (.known l.length), .int .i64 0] = jac v 0 ∧ HSub h (h.push (.cells (ints l) true 0)) ∧ RI (h.push (.cells (ints l) true 0)) v (if (0 : Int) = 0 then tapsL d w else []) := by
    rintro l rfl hl
    exact ⟨_, rfl, HSub.push1 _ _, by rw [if_pos rfl]; exact RI.known (jaf rfl) ⟨rfl, hl⟩ (Nat.le_refl _)⟩
   rcases jaS c with rfl | rfl | rfl | rfl | rfl <;> rcases cw with rfl | rfl <;>
   ·refine zf hC tab73 ?_; simp only [B73]; refine zs ?_
    refine jaa.eq2 (jaw (zu hC T71) hd) e ?_
    refine zs1 @tup2.eq_1 ?_
    exact fin (l := tapsL _ _) rfl (by decide)
  ·have pe : jan d w = 2 := by unfold jan; rw [if_neg (fun h => cw h.2)]
   rw [pe]
   refine zf hC tab73 ?_; simp only [B73]; refine zs ?_
   refine jaa.eq2 (jaw (zu hC T71) hd) e ?_
   refine zs1 @tup2.eq_1 ?_
   (repeat' (first | (refine Br.by (fun _ => ?_) (fun _ => ?_)) | ((refine zs ?_; try with_reducible trivial))))
   all_goals first | exact ⟨.nilslice, by rw [jac], HSub.refl _, RI.nil⟩ | omega
 ·have e : lenE d = tup2 0 2 := by unfold lenE; rw [if_neg c]
  have pe : jan d w = 2 := by unfold jan; rw [if_neg (fun h => c h.1)]
  rw [pe]
  refine zf hC tab73 ?_; simp only [B73]; refine zs ?_
  refine jaa.eq2 (jaw (zu hC T71) hd) e ?_
  refine zs1 @tup2.eq_1 ?_
  exact ⟨.nilslice, by rw [jac], HSub.refl _, RI.nil⟩
end
end Go.Ae
namespace Go.Ae
theorem nat64 {n : Nat} (h : n < 18446744073709551616) : (BitVec.ofInt 64 (n : Int)).toNat = n := by
 rw [BitVec.toNat_ofInt]
 have : ((n : Int) % ((2 ^ 64 : Nat) : Int)).toNat = n := by
  rw [Int.emod_eq_of_lt (by omega) (by omega)]; simp
 exact this
theorem jkU {a : Int} (h : 0 ≤ a ∧ a < 18446744073709551616) : bitsA .and .u64 a 4294967295 = a % 4294967296 := by
 obtain ⟨n, rfl⟩ := Int.eq_ofNat_of_zero_le h.1
 show IntKind.u64.wrap ((BitVec.ofInt 64 (n : Int) &&& BitVec.ofInt 64 ((4294967295 : Nat) : Int)).toNat : Int) = _
 rw [BitVec.toNat_and, nat64 (by omega), nat64 (by decide)]
 have e : n &&& 4294967295 = n % 4294967296 := Nat.and_two_pow_sub_one_eq_mod n 32
 rw [e, w_u64 (by omega)]; omega
theorem jeK {h : Heap} {i o n u : Nat} {c : Cap} {s : AV} {m : Nat} {cs vs : List AV} (hc : jao h 1 s = some (m, cs)) (hg : h.get i = some (.cells vs true u)) (hb : o + min m n ≤ vs.length) (h1 : (cs.take (min m n)).all AV.one = true) :
  copyA h 1 (.slice i o n c) s = some (.int .i64 (min m n : Nat), h.put i (.cells (splice vs o (cs.take (min m n))) true u)) := by
 simp only [copyA, hc, hg, Nat.mul_one]
 rw [if_pos ⟨hb, h1⟩]
def ones01 (x : Int) (n p : Nat) : List Int := List.replicate p x ++ List.replicate (n - p) 0
theorem jcJ {x : Int} {n p : Nat} (h : p ≤ n) : (ones01 x n p).length = n := by simp [ones01]; omega
theorem jgM {vs cs : List AV} {o : Nat} (h : o + cs.length ≤ vs.length) : splice vs o cs = vs.take o ++ cs ++ vs.drop (o + cs.length) := by
 match cs, h with
 | [], _ => rfl
 | [c], h =>
  rw [jgF, List.set_eq_take_append_cons_drop, if_pos (by simp at h; omega)]
  simp
 | x :: y :: cs, _ => rfl
theorem jef {x : Int} {n p k : Nat} (h : p + k ≤ n) : splice (ints (ones01 x n p)) p (ints (List.replicate k x)) = ints (ones01 x n (p + k)) := by
 rw [jgM (by rw [jaO, jaO, jcJ (by omega), List.length_replicate]; exact h)]
 unfold ones01 ints
 have e1 : (List.replicate p x ++ List.replicate (n - p) (0 : Int)).take p = List.replicate p x := by simp
 have e2 : (List.replicate p x ++ List.replicate (n - p) (0 : Int)).drop (p + k) = List.replicate (n - (p + k)) 0 := by
  rw [List.drop_append]; simp; omega
 have e3 : (List.map (AV.int .i64) (List.replicate k x)).length = k := by simp
 rw [e3, ← List.map_take, ← List.map_drop, e1, e2, ← List.map_append, ← List.map_append, List.replicate_append_replicate]
section
variable {C : Ctx}
theorem jl3 (hC : Has C T105) {a b : Int} {h : Heap} (ha : 0 ≤ a ∧ a < 4294967296) (hb : 0 ≤ b ∧ b < 4294967296) (hab : 0 ≤ a * b ∧ a * b < 4294967296) : ACalls C 105 [.int .u64 a, .int .u64 b] h (fun r h' => r = .tuple [.int .u64 0, .int .u64 (a * b)] ∧ h' = h) := by
 have e1 : a % 4294967296 = a := Int.emod_eq_of_lt ha.1 ha.2
 have e2 : b % 4294967296 = b := Int.emod_eq_of_lt hb.1 hb.2
 have e3 : a / 4294967296 = 0 := Int.ediv_eq_zero_of_lt ha.1 ha.2
 have e4 : b / 4294967296 = 0 := Int.ediv_eq_zero_of_lt hb.1 hb.2
 have e5 : a * b / 4294967296 = 0 := Int.ediv_eq_zero_of_lt hab.1 hab.2
 refine zf hC tab105 ?_; simp only [B105]; exact ze11 @jkU @e1 @e2 @e3 @e4 @e5 @Int.zero_mul @Int.mul_zero @Int.add_zero @Int.zero_ediv @Int.zero_emod
theorem jpK (hC : Has C T100) {a b : Int} {h : Heap} (ha : 0 ≤ a ∧ a < 4294967296) (hb : 0 ≤ b ∧ b < 4294967296) (hab : 0 ≤ a * b ∧ a * b < 4294967296) : ACalls C 100 [.int .u64 a, .int .u64 b] h (fun r h' => r = .tuple [.int .u64 0, .int .u64 (a * b)] ∧ h' = h) := by
 refine zf hC tab100 ?_; simp only [B100]; refine zs ?_
 refine jaa.eq (jl3 (zu hC T105) ha hb hab) ?_
 exact ze
set_option maxHeartbeats 1000000 in
theorem jfS (hC : Has C T90) {v : AV} {x : Int} {n : Nat} {h : Heap} (hv : RI h v [x]) (hn : 1 ≤ n ∧ n ≤ 1000000) : ACalls C 90 [v, .int .i64 (n : Nat)] h (fun r h' => Fresh h h' r (List.replicate n x)) := by
 have hcv := (hv.mono (HSub.push1 h (.cells (ints (List.replicate n 0)) true 0))).content
 have m1 : min 1 n = 1 := by omega
 have es : splice (ints (List.replicate n 0)) 0 ((ints [x]).take (min [x].length n)) = ints (ones01 x n 1) := by
  have h0 : ints (List.replicate n 0) = ints (ones01 x n 0) := by simp [ones01]
  have h1 : (ints [x]).take (min [x].length n) = ints (List.replicate 1 x) := by show (ints [x]).take (min 1 n) = _; rw [m1]; rfl
  rw [h1, h0, jef (by omega)]
 have hcp := jeK (h := h.push (.cells (ints (List.replicate n 0)) true 0)) (i := h.size) (o := 0) (n := n) (c := .known n) (u := 0) hcv (jaf rfl) (by simp [ints]; omega) (by show ((ints [x]).take (min 1 n)).all AV.one = true; rw [m1]; rfl)
 rw [es] at hcp
 have hcp : copyA (h.push (.cells (ints (List.replicate n 0)) true 0)) 1 (.slice h.size 0 n (.known n)) v = some (.int .i64 ((1 : Nat) : Int), (h.push (.cells (ints (List.replicate n 0)) true 0)).put h.size (.cells (ints (ones01 x n 1)) true 0)) := by
  have : min [x].length n = 1 := m1
  rw [this] at hcp; exact hcp
 have m3 : (1 : Int) * (n : Int) = (n : Int) := Int.one_mul _
 refine zf hC tab90 ?_; simp only [B90]; refine zs1 @hv.len ?_
 refine jaa.eq (jpK (zu hC T100) (a := 1) (b := (n : Int)) (by decide) (by omega) (by omega)) ?_
 refine zs3 @m3 @jaz @hcp ?_
 have s1 : ∀ (H : Heap) (p : Nat), p < n → jav H 1 (.slice h.size 0 n (.known n)) (some (.int .i64 p)) none none = some (.slice h.size p (n - p) (.known (n - p))) := by
  intro H p hp
  simp only [jav]
  rw [jbB (a := p) (b := n) (c := n) rfl rfl rfl (by omega)]
  simp only
  rw [if_neg (by omega)]; simp
 have s2 : ∀ (H : Heap) (p : Nat), p < n → jav H 1 (.slice h.size 0 n (.known n)) none (some (.int .i64 p)) none = some (.slice h.size 0 p (.known n)) := by
  intro H p hp
  simp only [jav]
  rw [jbB (a := 0) (b := p) (c := n) rfl rfl rfl (by omega)]
  simp only
  rw [if_neg (by omega)]; simp
 refine jab (fun j t h' => ∃ p : Nat, HSub h h' ∧ h'.get h.size = some (.cells (ints (ones01 x n p)) true 0) ∧ t 7 = .slice h.size 0 n (.known n) ∧ t 8 = .int .i64 (p : Nat) ∧ 1 ≤ p ∧ p ≤ n ∧ j = n - p) (j0 := n - 1)
  ⟨1, HSub.push1 _ _, jaf rfl, rfl, rfl, by omega, by omega, rfl⟩ ?_
 rintro j t h' ⟨p, hs, hg, e7, e8, hp1, hp2, hj⟩
 refine zs2 @e7 @e8 ?_
 refine Br.by (fun c => ?_) (fun c => ?_)
 ·have hp : p < n := by omega
  have hol := jcJ (x := x) (n := n) (p := p) hp2
  have hgr : (h'.reserve 10).get h.size = some (.cells (ints (ones01 x n p)) true 0) := hg
  have hc2 : jao (h'.reserve 10) 1 (.slice h.size 0 p (.known n)) = some (p, ints (List.replicate p x)) := by
   rw [jba, hgr, jlR (by rw [jaO, hol]; omega)]
   congr 2
   rw [Nat.mul_one, jkN]; congr 1
   simp [ones01]
  have hk : p + min p (n - p) ≤ n := by omega
  have h3 := jeK (h := h'.reserve 10) (i := h.size) (o := p) (n := n - p) (c := .known (n - p)) (u := 0) hc2 hgr (by rw [jaO, hol]; exact hk) (by unfold ints; rw [← List.map_take]; exact jhj)
  have h4 : (ints (List.replicate p x)).take (min p (n - p)) = ints (List.replicate (min p (n - p)) x) := by unfold ints; rw [← List.map_take, List.take_replicate]; congr 2; omega
  rw [h4, jef hk] at h3
  refine zs5 @e7 @e8 @s1 @s2 @h3 ?_
  refine ⟨_, ⟨p + min p (n - p), ?_, ?_, by omega, by omega, by omega, rfl⟩, by omega⟩
  ·exact (hs.reserve _).put (Nat.le_refl _) _
  ·exact jaP rfl (Heap.lt_of_get hgr)
 ·have : p = n := by omega
  subst this
  refine zs1 @e7 ?_
  have : ones01 x p p = List.replicate p x := by simp [ones01]
  rw [this] at hg
  exact ⟨hs, by simp; omega, h.size, Nat.le_refl _, by simp, hg⟩
end
end Go.Ae
namespace Go.Ae
def onesL (d : Int) : List Int := List.replicate d.toNat 1
def bitsL (d w : Int) : List Int := runL (tapsL d w) (onesL d) (lenN d)
theorem jaM (d w : Int) : (bitsL d w).length = lenN d := jbe _ _ _
theorem jqi {d w : Int} (hd : lenOk d = true) (hw : w = 1 ∨ w = 2) : jcs d (tapsL d w) (onesL d) = 0 := by
 rcases jaS hd with rfl | rfl | rfl | rfl | rfl <;> rcases hw with rfl | rfl <;> decide
theorem jcK {d w : Int} : ∀ x ∈ bitsL d w, x = 0 ∨ x = 1 := by
 intro x hx
 obtain ⟨k, _, rfl⟩ := List.mem_map.1 hx
 exact jjR (fun y hy => .inr (List.mem_replicate.1 hy).2) k
section
variable {C : Ctx}
set_option maxRecDepth 100000 in
theorem jn9 (hC : Has C T74) {d w : Int} {h : Heap} (hd : In64 d) (hw : In64 w) : ACalls C 74 [.int .i64 d, .int .i64 w] h (fun r h' => ∃ v, r = jac v (jan d w) ∧ HSub h h' ∧ RI h' v (if jan d w = 0 then bitsL d w else []) ∧ (jan d w = 0 → Fresh h h' v (bitsL d w))) := by
 by_cases c : lenOk d = true ∧ (w = 1 ∨ w = 2)
 ·have pe : jan d w = 0 := by unfold jan; rw [if_pos c]
  have hl := jaQ c.1
  have hr := jqi c.1 c.2
  have hd5 : 5 ≤ d ∧ d ≤ 10 := by have := jaS c.1; omega
  have hT := jiD (d := d) (w := w) (h := h) (zu hC T72) hd hw
  rw [pe, if_pos rfl] at hT
  rw [pe]
  obtain ⟨k, rfl⟩ := Int.eq_ofNat_of_zero_le (show 0 ≤ d by omega)
  have re : jgL (k : Nat) (tapsL (k : Nat) w) (onesL (k : Nat)) (lenN (k : Nat)) = 0 := by unfold jgL; rw [if_pos hr, if_neg (by omega)]
  refine zf hC tab74 ?_; simp only [B74]; refine zs ?_
  refine jaa.of hT ?_
  rintro r h1 ⟨v1, rfl, s1, R1⟩
  have h22 : (2 : Int) ^ k = ((lenN (k : Nat) + 1 : Nat) : Int) := by have := hl.2.2; rwa [Int.toNat_natCast] at this
  have e3 : ((lenN (k : Nat) + 1 : Nat) : Int) - 1 = lenN (k : Nat) := by omega
  refine zs5 @jac.eq_1 @Int.one_mul @h22 @e3 @Heap.wf ?_
  have eo : onesL ((k : Nat) : Int) = List.replicate k 1 := by simp [onesL]
  have hsH : HSub h1 ((h1.reserve 13).put (h1.size + 2) (.cells [.int .i64 1] true 0)) := ((HSub.refl _).reserve _).put (by omega) _
  refine jaa.of (jfS (zu hC T90) (x := 1) (n := k) (RI.known (jaP rfl (by simp)) ⟨rfl, by decide⟩ (by decide)) (by omega)) ?_
  rintro r h2 F
  have s2 := F.sub
  have s02 := s1.trans (hsH.trans s2)
  have hR := jpI (m := (lenN (k : Nat) : Int)) (h := h2) (zu hC T81) (R1.mono (hsH.trans s2)) (w := onesL (k : Nat)) (n := (k : Nat)) (by rw [eo]; exact F.ri) (by unfold In64; omega)
  rw [re] at hR
  refine zs3 @h22 @e3 @Int.one_mul ?_
  refine jaa.of hR ?_
  rintro r h3 ⟨v3, rfl, s3, R3, F3⟩
  refine zs1 @jac.eq_1 ?_
  have F3 := F3 rfl
  have : (lenN (k : Nat) : Int).toNat = lenN (k : Nat) := Int.toNat_natCast _
  rw [this] at F3
  exact ⟨v3, rfl, s02.trans s3, by rw [if_pos trivial]; exact F3.ri, fun _ => F3.mono s02⟩
 ·have pe : jan d w = 2 := by unfold jan; rw [if_neg c]
  have hT := jiD (d := d) (w := w) (h := h) (zu hC T72) hd hw
  rw [pe] at hT
  rw [pe]
  refine zf hC tab74 ?_; simp only [B74]; refine zs ?_
  refine jaa.of hT ?_
  rintro r h1 ⟨v1, rfl, s1, R1⟩
  refine zs1 @jac.eq_1 ?_
  exact ⟨.nilslice, rfl, s1, by rw [if_neg id]; exact RI.nil⟩
set_option maxRecDepth 100000 in
theorem jjT (hC : Has C T75) {d w : Int} {h : Heap} (hd : In64 d) (hw : In64 w) : ACalls C 75 [.int .i64 d, .int .i64 w] h (fun r h' => ∃ v, r = jac v (jan d w) ∧ HSub h h' ∧ RI h' v (if jan d w = 0 then bitsL d w else [])) := by
 by_cases c : lenOk d = true ∧ (w = 1 ∨ w = 2)
 ·have pe : jan d w = 0 := by unfold jan; rw [if_pos c]
  have hl := jaQ c.1
  have hr := jqi c.1 c.2
  have hd5 : 5 ≤ d ∧ d ≤ 10 := by have := jaS c.1; omega
  have hT := jfR (d := d) (w := w) (h := h) (zu hC T73) hd hw
  rw [pe, if_pos rfl] at hT
  have eL : lenE d = tup2 (lenN d) 0 := by unfold lenE; rw [if_pos c.1]
  rw [pe]
  obtain ⟨k, rfl⟩ := Int.eq_ofNat_of_zero_le (show 0 ≤ d by omega)
  obtain ⟨kk, hkk, R⟩ := jiB hr
  have : kk = k := by omega
  subst this
  refine zf hC tab75 ?_; simp only [B75]; refine zs ?_
  refine jaa.of hT ?_
  rintro r h1 ⟨v1, rfl, s1, R1⟩
  refine zs1 @jac.eq_1 ?_
  refine jaa.eq2 (jaw (zu hC T71) hd) eL ?_
  refine zs2 @tup2.eq_1 @jaz ?_
  have hol : ∀ p, p ≤ kk → (ones01 1 kk p).length = kk := fun p hp => jcJ hp
  refine jab (fun j t h' => ∃ p : Nat, h' = h1.push (.cells (ints (ones01 1 kk p)) true 0) ∧ t 0 = .int .i64 (kk : Nat) ∧ t 6 = v1 ∧ t 8 = .int .i64 (lenN (kk : Nat)) ∧ t 10 = .slice h1.size 0 kk (.known kk) ∧ t 11 = .int .i64 (p : Nat) ∧ p ≤ kk ∧ j = kk - p) (j0 := kk)
   ⟨0, by simp [ones01], rfl, rfl, rfl, rfl, rfl, by omega, rfl⟩ ?_
  rintro j t h' ⟨p, rfl, e0, e6, e8, e10, e11, hp, hj⟩
  have holp := hol p hp
  refine zs2 @e0 @e11 ?_
  refine Br.by (fun c1 => ?_) (fun c1 => ?_)
  ·have hset : (ones01 1 kk p).set p 1 = ones01 1 kk (p + 1) := by
    unfold ones01
    rw [List.set_append_right _ _ (by simp), List.length_replicate, Nat.sub_self, show kk - p = kk - (p + 1) + 1 by omega, List.replicate_succ, List.set_cons_zero]
    rw [show List.replicate (p + 1) (1 : Int) = List.replicate p 1 ++ [1] from List.replicate_succ', List.append_assoc]; rfl
   refine zs6 @e0 @e6 @e8 @e10 @e11 @hset ?_
   exact ⟨_, ⟨p + 1, rfl, by simp, by omega, rfl⟩, by omega⟩
  ·have : p = kk := by omega
   subst this
   have eo : ones01 1 p p = onesL (p : Nat) := by simp [ones01, onesL]
   rw [eo] at holp ⊢
   have RO : RI (h1.push (.cells (ints (onesL (p : Nat))) true 0)) (.slice h1.size 0 p (.known p)) (onesL (p : Nat)) := RI.known (jaf rfl) ⟨by rw [holp], by omega⟩ (by omega)
   refine zs4 @e0 @e6 @e8 @e10 ?_
   refine jaa.of (jl2 (zu hC T91) (m := (lenN (p : Nat) : Int)) (R1.mono (HSub.push1 _ _)) RO R (by omega) (by unfold In64; omega)) ?_
   rintro r h3 ⟨L, A, hL1, hL2, hL3⟩
   have RA := A.ri
   have rl := jbe (tapsL (p : Nat) w) (onesL (p : Nat)) L
   have Pa := RA.part_b (k2 := .i64) (b := (lenN (p : Nat) : Int)) (by omega)
   obtain ⟨wa, ea, Rwa⟩ := Pa
   refine zs2 @e8 @ea ?_
   refine ⟨wa, rfl, (s1.trans (HSub.push1 _ _)).trans A.sub, ?_⟩
   rw [Int.toNat_natCast, jn5 (by omega)] at Rwa
   rw [if_pos trivial]; exact Rwa
 ·have pe : jan d w = 2 := by unfold jan; rw [if_neg c]
  have hT := jfR (d := d) (w := w) (h := h) (zu hC T73) hd hw
  rw [pe] at hT
  rw [pe]
  refine zf hC tab75 ?_; simp only [B75]; refine zs ?_
  refine jaa.of hT ?_
  rintro r h1 ⟨v1, rfl, s1, R1⟩
  refine zs1 @jac.eq_1 ?_
  exact ⟨.nilslice, rfl, s1, by rw [if_neg id]; exact RI.nil⟩
end
end Go.Ae
namespace Go.Ae
def codeB (d p : Int) (i : Nat) : Int :=
 if p = 1 then (bitsL d 1).getD i 0 else if p = 2 then (bitsL d 2).getD i 0 else ((bitsL d 1).getD i 0 + (bitsL d 2).getD ((i + (p - 3).toNat) % lenN d) 0) % 2
def bitC (d p : Int) : List Int := (List.range (lenN d)).map (codeB d p)
def codeL (d p : Int) : List Int := (bitC d p).map fun b => 1 - 2 * b
def jap (d p : Int) : Int := if lenOk d = true ∧ 1 ≤ p ∧ p ≤ lenN d + 2 then 0 else 2
theorem jbz (d p : Int) : (bitC d p).length = lenN d := by simp [bitC]
theorem jas (d p : Int) : (codeL d p).length = lenN d := by simp [codeL, bitC]
theorem jbl {l : List Int} (h : ∀ x ∈ l, x = 0 ∨ x = 1) (i : Nat) : l.getD i 0 = 0 ∨ l.getD i 0 = 1 := bit01.get h i
theorem jfo (d p : Int) (i : Nat) : codeB d p i = 0 ∨ codeB d p i = 1 := by
 unfold codeB
 have h1 := jbl (jcK (d := d) (w := 1)) i
 have h2 := jbl (jcK (d := d) (w := 2)) i
 split
 ·exact h1
 ·split
  ·exact h2
  ·omega
theorem joa (d : Int) : bitC d 1 = bitsL d 1 := by
 refine seqx (by rw [jbz, jaM]) fun i hi => ?_
 rw [jbz] at hi
 simp [bitC, hi, codeB]
theorem job (d : Int) : bitC d 2 = bitsL d 2 := by
 refine seqx (by rw [jbz, jaM]) fun i hi => ?_
 rw [jbz] at hi
 simp [bitC, hi, codeB]
def codeP (d p : Int) (k : Nat) : List Int := (List.range (lenN d)).map fun i => if i < k then codeB d p i else (bitsL d 1).getD i 0
theorem codeP_length (d p : Int) (k : Nat) : (codeP d p k).length = lenN d := by simp [codeP]
theorem jc6 {d p : Int} {k i : Nat} (hi : i < lenN d) : (codeP d p k).getD i 0 = if i < k then codeB d p i else (bitsL d 1).getD i 0 := by simp [codeP, hi]
theorem jl4 (d p : Int) : codeP d p 0 = bitsL d 1 := by
 refine seqx (by rw [codeP_length, jaM]) fun i hi => ?_
 rw [codeP_length] at hi
 rw [jc6 hi, if_neg (by omega)]
theorem jl5 (d p : Int) : codeP d p (lenN d) = bitC d p := by
 refine seqx (by rw [codeP_length, jbz]) fun i hi => ?_
 rw [codeP_length] at hi
 rw [jc6 hi, if_pos hi]; simp [bitC, hi]
theorem joc {d p : Int} {k : Nat} (hk : k < lenN d) : (codeP d p k).set k (codeB d p k) = codeP d p (k + 1) := by
 refine seqx (by simp [codeP]) fun i hi => ?_
 simp only [List.length_set, codeP_length] at hi
 rw [jc6 hi]
 simp only [List.getD_eq_getElem?_getD, List.getElem?_set, codeP_length]
 by_cases e : k = i
 ·subst e; rw [if_pos rfl, if_pos hk, if_pos (by omega)]; rfl
 ·rw [if_neg e]
  have := jc6 (p := p) (k := k) hi
  rw [List.getD_eq_getElem?_getD] at this
  rw [this]
  by_cases c : i < k
  ·rw [if_pos c, if_pos (by omega)]
  ·rw [if_neg c, if_neg (by omega)]; simp
section
variable {C : Ctx}
set_option maxRecDepth 100000 in
set_option maxHeartbeats 2000000 in
theorem jod (hC : Has C T76) {d p : Int} {h : Heap} (hd : In64 d) (hp : In64 p) : ACalls C 76 [.int .i64 d, .int .i64 p] h (fun r h' => ∃ v, r = jac v (jap d p) ∧ HSub h h' ∧ RI h' v (if jap d p = 0 then codeL d p else []) ∧ (jap d p = 0 → Fresh h h' v (codeL d p))) := by
 have hp' := hp
 unfold In64 at hp'
 have pe : jap d p = if lenOk d = true ∧ 1 ≤ p ∧ p ≤ lenN d + 2 then 0 else 2 := rfl
 by_cases c : lenOk d = true
 ·have hl := jaQ c
  have eL : lenE d = tup2 (lenN d) 0 := by unfold lenE; rw [if_pos c]
  by_cases cp : 1 ≤ p ∧ p ≤ lenN d + 2
  ·rw [if_pos ⟨c, cp⟩] at pe
   rw [pe]
   have t1 : jan d 1 = 0 := by unfold jan; rw [if_pos ⟨c, .inl rfl⟩]
   have t2 : jan d 2 = 0 := by unfold jan; rw [if_pos ⟨c, .inr rfl⟩]
   have lb1 := jaM d 1
   have lb2 := jaM d 2
   have hB : ∀ {w : Int} {h : Heap}, jan d w = 0 → In64 w → ACalls C 74 [.int .i64 d, .int .i64 w] h (fun r h' => ∃ i, h.size ≤ i ∧ r = jac (.slice i 0 (lenN d) (.known (lenN d))) 0 ∧ HSub h h' ∧ h'.get i = some (.cells (ints (bitsL d w)) true 0)) := by
    intro w h e hw
    refine (jn9 (zu hC T74) hd hw).mono ?_
    rintro r h' ⟨v, h1, _, _, h4⟩
    obtain ⟨s, _, i, hi, hv, hg⟩ := h4 e
    rw [jaM] at hv
    exact ⟨i, hi, by rw [h1, e, hv], s, hg⟩
   have bC : ∀ k, (bitC d p).getD k 0 = 0 ∨ (bitC d p).getD k 0 = 1 := fun k => jbl (fun x hx => by
    obtain ⟨i, _, rfl⟩ := List.mem_map.1 hx
    exact jfo d p i) k
   have lC := jbz d p
   refine zf hC tab76 ?_; simp only [B76]; refine zs ?_
   refine jaa.eq2 (jaC (zu hC T70) hd) eL ?_
   refine zs1 @tup2.eq_1 ?_
   refine jaa.of (hB t1 (by unfold In64; omega)) ?_
   rintro r h1 ⟨i1, hi1, rfl, s1, g1⟩
   refine zs1 @jac.eq_1 ?_
   refine jaa.of (hB t2 (by unfold In64; omega)) ?_
   rintro r h2 ⟨i2, hi2, rfl, s2, g2⟩
   have hl1 := Heap.lt_of_get g1
   have hl2 := Heap.lt_of_get g2
   have g1' := (s2.get i1 hl1).trans g1
   have s12 := s1.trans s2
   have z2 := s2.size
   have z1 := s1.size
   by_cases p1 : p = 1
   ·have gi1 : h2.get i1 = some (.cells (ints (bitC d p)) true 0) := by rw [p1, joa]; exact g1'
    refine zs1 @jac.eq_1 ?_
    have gX : h2.get i1 = some (.cells (ints (jbk (fun b => 1 - 2 * b) (bitC d p) 0)) true 0) := by rw [jbX]; exact gi1
    refine jab (fun j t h' => ∃ k : Nat, HSub h h' ∧ i1 < h'.size ∧ h'.get i1 = some (.cells (ints (jbk (fun b => 1 - 2 * b) (bitC d p) k)) true 0) ∧ t 8 = .slice i1 0 (lenN d) (.known (lenN d)) ∧ t 68 = .slice i1 0 (lenN d) (.known (lenN d)) ∧ t 69 = .int .i64 (lenN d) ∧ t 70 = .int .i64 (k : Nat) ∧ k ≤ lenN d ∧ j = lenN d - k) (j0 := lenN d)
     ⟨0, s12, Heap.lt_of_get gi1, gX, rfl, rfl, rfl, rfl, by omega, rfl⟩ ?_
    rintro j t h' ⟨k, hs, hlt, hg, e8, e68, e69, e70, hk, hj⟩
    have hml := jbr (fun b => 1 - 2 * b) (bitC d p) k
    refine zs2 @e69 @e70 ?_
    refine Br.by (fun c1 => ?_) (fun c1 => ?_)
    ·have hk' : k < (bitC d p).length := by omega
     have hg2 := jcq (fun b => 1 - 2 * b) hk'
     have hst := jcr (fun b => 1 - 2 * b) hk'
     have b01 := bC k
     refine zs6 @e8 @e68 @e69 @e70 @hg @hg2 ?_
     exact ⟨_, ⟨k + 1, hs.put (by omega) _, hlt, by rw [← hst], by simp, by omega, rfl⟩, by omega⟩
    ·have : k = (bitC d p).length := by omega
     subst this
     rw [jbY] at hg
     refine zs1 @e8 ?_
     have cl := jas d p
     have F : Fresh h h' (.slice i1 0 (lenN d) (.known (lenN d))) (codeL d p) := ⟨hs, by omega, i1, by omega, by rw [cl], hg⟩
     exact ⟨_, rfl, hs, by rw [if_pos trivial]; exact F.ri, fun _ => F⟩
   by_cases p2 : p = 2
   ·have gi2 : h2.get i2 = some (.cells (ints (bitC d p)) true 0) := by rw [p2, job]; exact g2
    refine zs1 @jac.eq_1 ?_
    have gX : h2.get i2 = some (.cells (ints (jbk (fun b => 1 - 2 * b) (bitC d p) 0)) true 0) := by rw [jbX]; exact gi2
    refine jab (fun j t h' => ∃ k : Nat, HSub h h' ∧ i2 < h'.size ∧ h'.get i2 = some (.cells (ints (jbk (fun b => 1 - 2 * b) (bitC d p) k)) true 0) ∧ t 8 = .slice i2 0 (lenN d) (.known (lenN d)) ∧ t 68 = .slice i2 0 (lenN d) (.known (lenN d)) ∧ t 69 = .int .i64 (lenN d) ∧ t 70 = .int .i64 (k : Nat) ∧ k ≤ lenN d ∧ j = lenN d - k) (j0 := lenN d)
     ⟨0, s12, Heap.lt_of_get gi2, gX, rfl, rfl, rfl, rfl, by omega, rfl⟩ ?_
    rintro j t h' ⟨k, hs, hlt, hg, e8, e68, e69, e70, hk, hj⟩
    have hml := jbr (fun b => 1 - 2 * b) (bitC d p) k
    refine zs2 @e69 @e70 ?_
    refine Br.by (fun c1 => ?_) (fun c1 => ?_)
    ·have hk' : k < (bitC d p).length := by omega
     have hg2 := jcq (fun b => 1 - 2 * b) hk'
     have hst := jcr (fun b => 1 - 2 * b) hk'
     have b01 := bC k
     refine zs6 @e8 @e68 @e69 @e70 @hg @hg2 ?_
     exact ⟨_, ⟨k + 1, hs.put (by omega) _, hlt, by rw [← hst], by simp, by omega, rfl⟩, by omega⟩
    ·have : k = (bitC d p).length := by omega
     subst this
     rw [jbY] at hg
     refine zs1 @e8 ?_
     have cl := jas d p
     have F : Fresh h h' (.slice i2 0 (lenN d) (.known (lenN d))) (codeL d p) := ⟨hs, by omega, i2, by omega, by rw [cl], hg⟩
     exact ⟨_, rfl, hs, by rw [if_pos trivial]; exact F.ri, fun _ => F⟩
   have hp3 : 3 ≤ p := by omega
   have lP := codeP_length d p
   have g0 : h2.get i1 = some (.cells (ints (codeP d p 0)) true 0) := by rw [jl4]; exact g1'
   refine zs1 @jac.eq_1 ?_
   refine jab (fun j t h' => ∃ k : Nat, HSub h h' ∧ i1 < h'.size ∧ h'.get i1 = some (.cells (ints (codeP d p k)) true 0) ∧ h'.get i2 = some (.cells (ints (bitsL d 2)) true 0) ∧ t 1 = .int .i64 p ∧ t 6 = .int .i64 (lenN d) ∧ t 8 = .slice i1 0 (lenN d) (.known (lenN d)) ∧ t 10 = .slice i2 0 (lenN d) (.known (lenN d)) ∧
     t 42 = .slice i1 0 (lenN d) (.known (lenN d)) ∧ t 43 = .int .i64 (lenN d) ∧ t 44 = .int .i64 (k : Nat) ∧ k ≤ lenN d ∧ j = lenN d - k) (j0 := lenN d)
    ⟨0, s12, by omega, g0, g2, rfl, rfl, rfl, rfl, rfl, rfl, rfl, by omega, rfl⟩ ?_
   rintro j t h3 ⟨k, hs3, hlt3, hg1, hg2, e1, e6, e8, e10, e42, e43, e44, hk, hj⟩
   have lPk := lP k
   refine zs2 @e43 @e44 ?_
   refine Br.by (fun c1 => ?_) (fun c1 => ?_)
   ·have hk' : k < lenN d := by omega
    have gP : (codeP d p k).getD k 0 = (bitsL d 1).getD k 0 := by rw [jc6 hk', if_neg (by omega)]
    have em : ((k : Int) + p - 3) % (lenN d : Int) = (((k + (p - 3).toNat) % lenN d : Nat) : Int) := by
     rw [show (k : Int) + p - 3 = ((k + (p - 3).toNat : Nat) : Int) by omega]; exact (Int.natCast_emod _ _).symm
    have hm : (k + (p - 3).toNat) % lenN d < lenN d := Nat.mod_lt _ (by omega)
    have lb2 := jaM d 2
    have ex := xor01 (jbl (jcK (d := d) (w := 1)) k) (jbl (jcK (d := d) (w := 2)) ((k + (p - 3).toNat) % lenN d))
    have hcb : codeB d p k = ((bitsL d 1).getD k 0 + (bitsL d 2).getD ((k + (p - 3).toNat) % lenN d) 0) % 2 := by unfold codeB; rw [if_neg p1, if_neg p2]
    rw [← hcb] at ex
    have hst := joc (p := p) hk'
    simp -implicitDefEqProofs (disch := first | exact zd | fail) only [↓wpPre, jaq, jar, Int.reduceToNat, Int.reducePow, Int.reduceMul, Int.reduceAdd, Int.reduceSub, Int.reduceNeg, Nat.reduceAdd, Nat.reduceMul, Nat.reducePow, Int.reduceLT, Int.reduceLE, Int.reduceEq, Nat.reduceEqDiff, e1, e6, e8, e10, e42, e43, e44, hg1, hg2, gP, em, ex, hst]
    exact ⟨_, ⟨k + 1, hs3.put (by omega) _, hlt3, rfl, by simp, by omega, rfl⟩, by omega⟩
   ·have ek : k = lenN d := by omega
    rw [ek] at hg1
    have gi3 : h3.get i1 = some (.cells (ints (bitC d p)) true 0) := by rw [← jl5]; exact hg1
    refine zs1 @e8 ?_
    have gX : h3.get i1 = some (.cells (ints (jbk (fun b => 1 - 2 * b) (bitC d p) 0)) true 0) := by rw [jbX]; exact gi3
    refine jab (fun j t h' => ∃ k : Nat, HSub h h' ∧ i1 < h'.size ∧ h'.get i1 = some (.cells (ints (jbk (fun b => 1 - 2 * b) (bitC d p) k)) true 0) ∧ t 8 = .slice i1 0 (lenN d) (.known (lenN d)) ∧ t 68 = .slice i1 0 (lenN d) (.known (lenN d)) ∧ t 69 = .int .i64 (lenN d) ∧ t 70 = .int .i64 (k : Nat) ∧ k ≤ lenN d ∧ j = lenN d - k) (j0 := lenN d)
     ⟨0, hs3, Heap.lt_of_get gi3, gX, e8, rfl, rfl, rfl, by omega, rfl⟩ ?_
    rintro j u h' ⟨k, hs, hlt, hg, f8, e68, e69, e70, hk, hj⟩
    have hml := jbr (fun b => 1 - 2 * b) (bitC d p) k
    refine zs2 @e69 @e70 ?_
    refine Br.by (fun c1 => ?_) (fun c1 => ?_)
    ·have hk' : k < (bitC d p).length := by omega
     have hg2 := jcq (fun b => 1 - 2 * b) hk'
     have hst := jcr (fun b => 1 - 2 * b) hk'
     have b01 := bC k
     refine zs6 @f8 @e68 @e69 @e70 @hg @hg2 ?_
     exact ⟨_, ⟨k + 1, hs.put (by omega) _, hlt, by rw [← hst], by simp, by omega, rfl⟩, by omega⟩
    ·have : k = (bitC d p).length := by omega
     subst this
     rw [jbY] at hg
     refine zs1 @f8 ?_
     have cl := jas d p
     have F : Fresh h h' (.slice i1 0 (lenN d) (.known (lenN d))) (codeL d p) := ⟨hs, by omega, i1, by omega, by rw [cl], hg⟩
     exact ⟨_, rfl, hs, by rw [if_pos trivial]; exact F.ri, fun _ => F⟩
  ·have cp' : ¬ (lenOk d = true ∧ 1 ≤ p ∧ p ≤ lenN d + 2) := fun h => cp h.2
   rw [if_neg cp'] at pe
   rw [pe]
   refine zf hC tab76 ?_; simp only [B76]; refine zs ?_
   refine jaa.eq2 (jaC (zu hC T70) hd) eL ?_
   refine zs1 @tup2.eq_1 ?_
   (repeat' (first | (refine Br.by (fun _ => ?_) (fun _ => ?_)) | (refine zs ?_)))
   all_goals first | exact ⟨.nilslice, by rw [jac], HSub.refl _, by rw [if_neg id]; exact RI.nil⟩ | omega
 ·have eL : lenE d = tup2 0 2 := by unfold lenE; rw [if_neg c]
  have cp' : ¬ (lenOk d = true ∧ 1 ≤ p ∧ p ≤ lenN d + 2) := fun h => c h.1
  rw [if_neg cp'] at pe
  rw [pe]
  refine zf hC tab76 ?_; simp only [B76]; refine zs ?_
  refine jaa.eq2 (jaC (zu hC T70) hd) eL ?_
  refine zs1 @tup2.eq_1 ?_
  exact ⟨.nilslice, by rw [jac], HSub.refl _, by rw [if_neg id]; exact RI.nil⟩
end
end Go.Ae
