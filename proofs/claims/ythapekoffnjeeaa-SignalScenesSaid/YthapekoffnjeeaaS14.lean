/- Texts of the proof, part 14: a second reading of the lowered code, proved sound, and what the functions compute. -/
import Derived.OpenShut
import Derived.ChangeSlices
import Derived.ProofKit
import Derived.WalkKit
import Derived.Test.YthapekoffnjeeaaS13
set_option linter.unusedSimpArgs false
set_option linter.unusedVariables false
set_option maxRecDepth 20000
set_option maxHeartbeats 4000000
namespace Go.Ae
variable {C : Ctx} {h h' h0 : Heap} {v vp : AV} {w : World} {env : Env} {kp : Keep} {m sz c u g : Nat} {d a : Int} {cs vs args : List AV} {ts : List Int} {P : Program}
open Go.ChangeShapes Go.WideShapes Go.ChangeAt Go.RowKit
theorem trodAll_stays {H : Type} {enc : TypeId × Value -> H} {P : Program} (hl : laidOutB P = true) {W W' : World} (hb : Below W.heap.size W W') : ∀ {ts : List TypeId} {vs : List Value} {ds : List (DataW H)} {ps : List MemPlace},
  (ts.all fun t => P.readableRec t && decide (t < P.types.size)) = true -> DataW.TrodAll enc P W 0 (fun _ => true) true ts vs ds ps -> (∀ x ∈ ps, x.block < W.heap.size) ->
  DataW.TrodAll enc P W' 0 (fun b => decide (b < W.heap.size)) true ts vs ds ps
 | [], vs, ds, ps, _, h, _ => by
  obtain ⟨rfl, rfl, rfl⟩ := trodAll_nil h;exact trodAll_mk0
 | t :: ts, vs, ds, ps, ht, h, hlt => by
  obtain ⟨v, vs', d, ds', p, q, rfl, rfl, rfl, h1, h2⟩ := trodAll_cons h;simp only [List.all_cons, Bool.and_eq_true, decide_eq_true_eq] at ht;exact ⟨p, q, Below.trod hl ht.1.1 ht.1.2 h1 hb (fun x hx => hlt x (List.mem_append_left _ hx)), trodAll_stays hl hb (by simpa using ht.2) h2 (fun x hx => hlt x (List.mem_append_right _ hx)), rfl⟩
def argHeap (bs : List (Option (List AV))) : Heap := ⟨bs.length, fun i => match bs[i]? with | some (some vs) => some (.cells vs false 0) | _ => none, fun i hi => by rw [List.getElem?_eq_none hi]⟩
theorem jbO {bs : List (Option (List AV))} {i : Nat} (h : bs[i]? = some (some vs)) : (argHeap bs).get i = some (.cells vs false 0) := by simp only [argHeap, h]
theorem jb1 {bs : List (Option (List AV))} {i : Nat} {b : ABlk} (h : (argHeap bs).get i = some b) : ∃ vs, bs[i]? = some (some vs) /\ b = .cells vs false 0 := by
 simp only [argHeap] at h;split at h
 ·rename_i vs hv; cases h; exact ⟨vs, hv, rfl⟩
 ·cases h
theorem rel_args {C : Ctx} {env : Env} {w : World} (bs : List (Option (List AV))) (hlt : ∀ i vs, bs[i]? = some (some vs) -> (env i).blk < w.heap.size /\ (∀ v ∈ vs, v.bel (argHeap bs).ok) /\
  ∀ k v, vs[k]? = some v -> w.cell? ⟨(env i).blk, (env i).sh + k, none⟩ = some (v.val C.lk env)) : Rel C ⟨fun r => r < w.heap.size, fun _ => False⟩ env (argHeap bs) w := by
 refine ⟨?_, ?_, ?_, ?_, ?_, fun r hr => hr, ?_, fun r hr => hr.elim⟩
 ·intro i b hb;obtain ⟨vs, hv, rfl⟩ := jb1 hb;exact (hlt i vs hv).1
 ·intro i b hb;obtain ⟨vs, hv, rfl⟩ := jb1 hb;exact (hlt i vs hv).2.2
 ·intro i j b c hb hc hij hw;obtain ⟨vs, hv, rfl⟩ := jb1 hb;cases hw
 ·intro i b hb;obtain ⟨vs, hv, rfl⟩ := jb1 hb;exact (hlt i vs hv).2.1
 ·intro i b hb hw;obtain ⟨vs, hv, rfl⟩ := jb1 hb;cases hw
 ·intro i b hb hd hf;exact hf
structure InList where
 l : List Int
 nil : Bool
 blk : Nat
 off : Nat
 cap : Nat
def InList.val (x : InList) : Value := if x.nil then .slice none 0 0 else .slice (some ⟨x.blk, x.off, none⟩) x.l.length x.cap
def InList.av (x : InList) (i : Nat) : AV := if x.nil then .nilslice else .slice i 0 x.l.length (.known x.cap)
def InList.row (x : InList) : Option (List AV) := if x.nil then none else some (ints x.l)
def InList.eb (x : InList) : EB := ⟨x.blk, x.off, 0⟩
structure InList.ok (x : InList) (w : World) : Prop where
 isNil : x.nil = true -> x.l = []
 cap : x.nil = false -> x.l.length <= x.cap
 lt : x.l.length < 9223372036854775808
 blk : x.nil = false -> x.blk < w.heap.size
 cell : ∀ k n, x.l[k]? = some n -> w.cell? ⟨x.blk, x.off + k, none⟩ = some (.int .i64 n)
 num : ∀ n ∈ x.l, -9223372036854775808 <= n /\ n <= 9223372036854775807
theorem wf_i64 {n : Int} (h : (Lit.int .i64 n).wf = true) : -9223372036854775808 <= n /\ n <= 9223372036854775807 := by
 have : (decide (IntKind.i64.min <= n) && decide (n <= IntKind.i64.max)) = true := h;simp only [Bool.and_eq_true, decide_eq_true_eq] at this;exact this
theorem InList.ri {x : InList} {bs : List (Option (List AV))} {i : Nat} (hx : x.ok w) (hi : bs[i]? = some x.row) : RI (argHeap bs) (x.av i) x.l := by
 unfold InList.av;cases hn : x.nil with
 | true =>
  rw [hx.isNil hn, if_pos rfl]; exact kaA
 | false =>
  rw [if_neg (by simp)];refine kal (jbO (hi.trans ?_)) ⟨rfl, hx.lt⟩ (hx.cap hn);simp [InList.row, hn]
theorem InList.av_val {x : InList} {i : Nat} {lk : Nat -> FuncId} (he : env i = x.eb) : (x.av i).val lk env = x.val := by
 unfold InList.av InList.val;cases hn : x.nil with
 | true => rfl
 | false => simp [AV.val, he, InList.eb, Cap.at]
theorem InList.av_bel {x : InList} {w : World} {bs : List (Option (List AV))} {i : Nat} (hi : bs[i]? = some x.row) : (x.av i).bel (argHeap bs).ok := by
 unfold InList.av;cases hn : x.nil with
 | true => trivial
 | false =>
  show (argHeap bs).ok i;have : bs[i]? = some (some (ints x.l)) := hi.trans (by simp [InList.row, hn]);simp [Heap.ok, jbO this]
theorem InList.rowOk {C : Ctx} {x : InList} {w : World} {bs : List (Option (List AV))} {env : Env} {i : Nat} {vs : List AV} (hx : x.ok w) (he : env i = x.eb) (hv : x.row = some vs) : (env i).blk < w.heap.size /\ (∀ v ∈ vs, v.bel (argHeap bs).ok) /\
  ∀ k v, vs[k]? = some v -> w.cell? ⟨(env i).blk, (env i).sh + k, none⟩ = some (v.val C.lk env) := by
 unfold InList.row at hv;split at hv
 ·cases hv
 ·rename_i hn;cases hv;rw [he];refine ⟨hx.blk (by simpa using hn), ?_, ?_⟩
  ·intro v hv;obtain ⟨n, _, rfl⟩ := List.mem_map.1 hv;trivial
  ·intro k v hk;simp only [ints, List.getElem?_map, Option.map_eq_some_iff] at hk;obtain ⟨n, hn, rfl⟩ := hk;exact hx.cell k n hn
end Go.Ae
namespace Go.Ae
variable {C : Ctx} {h h' h0 : Heap} {v vp : AV} {w : World} {env : Env} {kp : Keep} {m sz c u g : Nat} {d a : Int} {cs vs args : List AV} {ts : List Int} {P : Program}
open Go.ChangeShapes Go.WideShapes Go.ChangeAt Go.RowKit
inductive Lf where
 | int (k : IntKind)
 | bool
 | ints
 deriving DecidableEq
def flatO (P : Program) (r : TypeId -> Option (List Lf)) : List (TypeId × Nat) -> Nat -> Option (List Lf)
 | [], _ => some []
 | (t, o) :: fs, off => if o = off then match r t with
  | some ls => if P.cellsOf t = ls.length then (flatO P r fs (off + ls.length)).map (ls ++ ·) else none
  | none => none
  else none
def lfOf (P : Program) : Nat -> TypeId -> Option (List Lf)
 | 0, _ => none
 | n + 1, t => match P.underlying t with
  | some (.int k) => some [.int k]
  | some .bool => some [.bool]
  | some (.slice e) => match P.underlying e with
   | some (.int .i64) => if P.cellsOf e = 1 then some [.ints] else none
   | _ => none
  | some (.struct fs) => match flatO P (lfOf P n) (fs.toList.map fun f => (f.type, f.offset)) 0 with
   | some ls => if P.cellsOf t = ls.length then some ls else none
   | none => none
  | some (.array m e) => match flatO P (lfOf P n) ((List.range m).map fun i => (e, i * P.cellsOf e)) 0 with
   | some ls => if P.cellsOf t = ls.length then some ls else none
   | none => none
  | _ => none
inductive InB where
 | nil
 | emp (a : Addr)
 | list (x : InList)
def InB.val : InB -> Value
 | .nil => .slice none 0 0
 | .emp a => .slice (some a) 0 0
 | .list x => x.val
def InB.av (i : Nat) : InB -> AV
 | .nil => .nilslice
 | .emp a => .emp a
 | .list x => x.av i
def InB.row : InB -> Option (List AV)
 | .list x => x.row
 | _ => none
def InB.eb : InB -> EB
 | .list x => x.eb
 | _ => default
def InB.l : InB -> List Int
 | .list x => x.l
 | _ => []
def InB.ok (w : World) : InB -> Prop
 | .list x => x.ok w
 | _ => True
theorem InB.num {x : InB} (hx : x.ok w) : ∀ n ∈ x.l, -9223372036854775808 <= n /\ n <= 9223372036854775807 := by
 cases x with
 | list x => exact InList.ok.num hx
 | _ => exact fun n hn => by cases hn
theorem kbo {x : InB} {bs : List (Option (List AV))} {i : Nat} (hx : x.ok w) (hi : bs[i]? = some x.row) : RI (argHeap bs) (x.av i) x.l := by
 cases x with
 | nil => exact kaA
 | emp a => exact ⟨rfl, (by show 0 < _; omega), .inl ⟨.inr ⟨_, rfl⟩, rfl⟩⟩
 | list x => exact InList.ri hx hi
theorem ka5 {x : InB} {i : Nat} {lk : Nat -> FuncId} (he : env i = x.eb) : (x.av i).val lk env = x.val := by
 cases x with
 | list x => exact InList.av_val he
 | _ => rfl
theorem ka4 {x : InB} {w : World} {bs : List (Option (List AV))} {i : Nat} (hi : bs[i]? = some x.row) : (x.av i).bel (argHeap bs).ok := by
 cases x with
 | list x => exact InList.av_bel (w := w) hi
 | _ => trivial
theorem InB.rowOk {C : Ctx} {x : InB} {w : World} {bs : List (Option (List AV))} {env : Env} {i : Nat} {vs : List AV} (hx : x.ok w) (he : env i = x.eb) (hv : x.row = some vs) : (env i).blk < w.heap.size /\ (∀ v ∈ vs, v.bel (argHeap bs).ok) /\
  ∀ k v, vs[k]? = some v -> w.cell? ⟨(env i).blk, (env i).sh + k, none⟩ = some (v.val C.lk env) := by
 cases x with
 | list x => exact InList.rowOk hx he hv
 | _ => cases hv
def FitsB (w : World) : List Lf -> List Value -> Prop
 | [], vs => vs = []
 | .int k :: ls, vs => ∃ n rest, vs = .int k n :: rest /\ (Lit.int k n).wf = true /\ FitsB w ls rest
 | .bool :: ls, vs => ∃ b rest, vs = .bool b :: rest /\ FitsB w ls rest
 | .ints :: ls, vs => ∃ (x : InB) (rest : List Value), vs = x.val :: rest /\ x.ok w /\ FitsB w ls rest
theorem FitsB.append {w : World} : ∀ {ls ms : List Lf} {vs us : List Value}, FitsB w ls vs -> FitsB w ms us -> FitsB w (ls ++ ms) (vs ++ us)
 | [], ms, vs, us, h, g => by cases h; exact g
 | .int k :: ls, ms, vs, us, ⟨n, rest, e, a, b⟩, g => ⟨n, rest ++ us, by rw [e]; rfl, a, b.append g⟩
 | .bool :: ls, ms, vs, us, ⟨n, rest, e, b⟩, g => ⟨n, rest ++ us, by rw [e]; rfl, b.append g⟩
 | .ints :: ls, ms, vs, us, ⟨n, rest, e, a, b⟩, g => ⟨n, rest ++ us, by rw [e]; rfl, a, b.append g⟩
def Fits (w : World) : List Lf -> List Value -> Prop
 | [], vs => vs = []
 | .int k :: ls, vs => ∃ n rest, vs = .int k n :: rest /\ (Lit.int k n).wf = true /\ Fits w ls rest
 | .bool :: ls, vs => ∃ b rest, vs = .bool b :: rest /\ Fits w ls rest
 | .ints :: ls, vs => ∃ (x : InList) (rest : List Value), vs = x.val :: rest /\ x.ok w /\ Fits w ls rest
def Side (w : World) (cs : List Value) : Prop := ∀ a len cap, Value.slice (some a) len cap ∈ cs -> a.spot = none /\ a.block < w.heap.size
theorem FitsB.side {w : World} : ∀ {ls : List Lf} {cs : List Value}, FitsB w ls cs -> (Lf.ints ∈ ls -> Side w cs) -> Fits w ls cs
 | [], _, h, _ => h
 | .int _ :: _, _, ⟨n, rest, e, a, b⟩, s => ⟨n, rest, e, a, b.side fun m x l c hm => s (List.mem_cons_of_mem _ m) x l c (by rw [e]; exact List.mem_cons_of_mem _ hm)⟩
 | .bool :: _, _, ⟨n, rest, e, b⟩, s => ⟨n, rest, e, b.side fun m x l c hm => s (List.mem_cons_of_mem _ m) x l c (by rw [e]; exact List.mem_cons_of_mem _ hm)⟩
 | .ints :: _, _, ⟨x, rest, e, a, b⟩, s => by
  have S := s List.mem_cons_self;have B := b.side fun _ x l c hm => S x l c (by rw [e]; exact List.mem_cons_of_mem _ hm);cases x with
  | nil => exact ⟨⟨[], true, 0, 0, 0⟩, rest, e, ⟨fun _ => rfl, fun h => (by cases h), by simp, fun h => (by cases h), by simp, by simp⟩, B⟩
  | list y => exact ⟨y, rest, e, a, B⟩
  | emp q =>
   obtain ⟨q1, q2⟩ := S q 0 0 (by rw [e]; exact List.mem_cons_self);obtain ⟨ab, ao, asp⟩ := q;simp only at q1;subst q1;exact ⟨⟨[], false, ab, ao, 0⟩, rest, e, ⟨fun _ => rfl, fun _ => Nat.le_refl _, by simp, fun _ => q2, by simp, by simp⟩, B⟩
section
variable {H : Type} {enc : TypeId × Value -> H} {P : Program} {w : World}
theorem jlk {t e : TypeId} {fuel : Nat} {cs : List Value} {x : DataW H × List MemPlace} (ht : P.underlying t = some (.slice e)) (he : P.underlying e = some (.int .i64)) (hc : P.cellsOf e = 1)
  (hf : DataW.trod enc P w 0 (fun _ => true) true fuel t cs = some x) : ∃ x : InB, cs = [x.val] /\ x.ok w := by
 rcases open_ints ht he hc hf with ⟨rfl, _⟩ | ⟨a, len', cap', zs, rfl, _, hl, hm, hz, _, hcell, hwz⟩
 ·exact ⟨.nil, rfl, trivial⟩
 ·have hlen : zs.length = cap' := by simpa using hz
  rcases Nat.eq_zero_or_pos cap' with h0 | h0
  ·subst h0;obtain rfl : len' = 0 := by omega
   exact ⟨.emp a, rfl, trivial⟩
  obtain ⟨ab, ao, asp⟩ := a;have c0 := hcell 0 (by omega);have hb : asp = none /\ ab < w.heap.size := by
   simp only [Addr.add, if_true] at c0;have h2 : ab < w.heap.size := by
    rcases Nat.lt_or_ge ab w.heap.size with h | h
    ·exact h
    ·simp [World.cell?, Array.getElem?_eq_none h] at c0
   refine ⟨?_, h2⟩;cases asp with
   | none => rfl
   | some _ =>
    unfold World.cell? at c0;split at c0 <;> simp at c0
  obtain ⟨rfl, hblk⟩ := hb;have hmax : cap' <= 9223372036854775807 := hm;have hlt : (zs.take len').length = len' := by simp; omega
  refine ⟨.list ⟨zs.take len', false, ab, ao, cap'⟩, ?_, ⟨fun h => (by cases h), fun _ => (by rw [hlt]; exact hl), (by rw [hlt]; omega), fun _ => hblk, ?_, ?_⟩⟩
  ·simp only [InB.val, InList.val, Bool.false_eq_true, if_false, hlt]
  ·intro k n hk;rw [List.getElem?_take] at hk;split at hk
   ·rename_i hkl;have h2 : k < zs.length := by omega
    have := hcell k h2;rw [List.getD_eq_getElem?_getD, hk] at this;by_cases hk0 : k = 0
    ·subst hk0; simpa [Addr.add] using this
    ·simpa [Addr.add, hk0] using this
   ·cases hk
  ·intro n hn;exact wf_i64 (hwz n (List.mem_of_mem_take hn))
theorem jfM {r : TypeId -> Option (List Lf)} {cs : List Value} {m : Nat}
  (hr : ∀ t ls cs' x, r t = some ls -> DataW.trod enc P w 0 (fun _ => true) true m t cs' = some x -> FitsB w ls cs') :
  ∀ (fs : List (TypeId × Nat)) (off : Nat) (ls : List Lf), flatO P r fs off = some ls ->
   (∀ f ∈ fs, ∃ x, DataW.trod enc P w 0 (fun _ => true) true m f.1 ((cs.drop f.2).take (P.cellsOf f.1)) = some x) -> FitsB w ls ((cs.drop off).take ls.length)
 | [], off, ls, h, _ => by cases h; rfl
 | (t, o) :: fs, off, ls, h, hx => by
  unfold flatO at h;split at h
  ·rename_i ho;subst ho;split at h
   ·rename_i l1 h1;split at h
    ·rename_i hc;simp only [Option.map_eq_some_iff] at h;obtain ⟨l2, h2, rfl⟩ := h;obtain ⟨x, hxx⟩ := hx (t, o) (by simp);have f1 := hr t l1 _ x h1 hxx;have f2 := jfM hr fs _ l2 h2 (fun f hf => hx f (by simp [hf]));have := f1.append f2;simp only at this;rw [hc, <- List.drop_drop, <- List.take_add] at this;rw [List.length_append];exact this
    ·cases h
   ·cases h
  ·cases h
theorem jfN : ∀ (n : Nat) (t : TypeId) (ls : List Lf) (cs : List Value) (fuel : Nat) (x : DataW H × List MemPlace), lfOf P n t = some ls -> DataW.trod enc P w 0 (fun _ => true) true fuel t cs = some x -> FitsB w ls cs
 | 0, t, ls, cs, fuel, x, h, _ => by cases h
 | n + 1, t, ls, cs, fuel, x, h, hx => by
  unfold lfOf at h;split at h
  ·rename_i k hk;cases h;obtain ⟨m, rfl, _, hw⟩ := DataW.trod_int hk hx;exact ⟨m, [], rfl, hw, rfl⟩
  ·rename_i hk;cases h;obtain ⟨b, rfl, _⟩ := DataW.trod_bool hk hx;exact ⟨b, [], rfl, rfl⟩
  ·rename_i e hk;split at h
   ·rename_i he;split at h
    ·rename_i hc;cases h;obtain ⟨y, rfl, hy⟩ := jlk hk he hc hx;exact ⟨y, [], rfl, hy, rfl⟩
    ·cases h
   ·cases h
  ·rename_i fs hk;obtain ⟨xs, m, _, _, hl, hn, hf⟩ := DataW.trod_struct hk hx;split at h
   ·rename_i l1 h1;split at h
    ·rename_i hc;cases h;have := jfM (m := m) (fun t ls cs' x => jfN n t ls cs' m x) _ 0 _ h1 (by
      intro f hfm;obtain ⟨g, hg, rfl⟩ := List.mem_map.1 hfm;obtain ⟨i, hi⟩ := List.getElem?_of_mem hg;have hi' : fs[i]? = some g := by simpa using hi
      have hlt : i < xs.length := by rw [hn]; exact (Array.getElem?_eq_some_iff.1 hi').1
      exact ⟨xs[i], (hf i g hi').trans (List.getElem?_eq_getElem hlt)⟩)
     rw [List.drop_zero, List.take_of_length_le (by omega)] at this;exact this
    ·cases h
   ·cases h
  ·rename_i k e hk;obtain ⟨xs, m, _, _, hl, hn, hf⟩ := DataW.trod_array hk hx;split at h
   ·rename_i l1 h1;split at h
    ·rename_i hc;cases h;have := jfM (m := m) (fun t ls cs' x => jfN n t ls cs' m x) _ 0 _ h1 (by
      intro f hfm;obtain ⟨i, hi, rfl⟩ := List.mem_map.1 hfm;have hi' : i < k := by simpa using hi
      have hlt : i < xs.length := by omega
      exact ⟨xs[i], (hf i hi').trans (List.getElem?_eq_getElem hlt)⟩)
     rw [List.drop_zero, List.take_of_length_le (by omega)] at this;exact this
    ·cases h
   ·cases h
  ·cases h
theorem jfO {t : TypeId} {a : Addr} {len cap b0 : Nat} (h : Cell.okWide P w .any b0 t (.slice (some a) len cap)) : a.spot = none /\ a.block < w.heap.size := by
 have key : ∀ e, World.has P w .any b0 a e cap -> a.spot = none /\ a.block < w.heap.size := by
  rintro e ⟨_, hsp, row, cells, hsh, _⟩;refine ⟨hsp, ?_⟩;unfold World.shape? at hsh;rcases Nat.lt_or_ge a.block w.heap.size with h | h
  ·exact h
  ·rw [Array.getElem?_eq_none h] at hsh; cases hsh
 unfold Cell.okWide at h;cases hu : P.underlying t with
 | none => rw [hu] at h; simp [Cell.ok, hu] at h
 | some u =>
  rw [hu] at h;cases u with
  | slice e => simp only [Cell.ok, hu] at h; exact key e h.2.2
  | _ => simp [Cell.ok, hu] at h
theorem open_struct {b0 n : Nat} {t : TypeId} {v : Value} {d : DataW H} {ps : List MemPlace} {ls : List Lf} {fs : Array Field} (hk : P.underlying t = some (.struct fs)) (hl : lfOf P n t = some ls)
  (hval : Value.okWide P w .any b0 t v) (hd : DataW.Trod enc P w 0 (fun _ => true) true t v d ps) : ∃ cs : List Value, v = .agg cs.toArray /\ Fits w ls cs := by
 obtain ⟨fuel, hf⟩ := hd;unfold Value.okWide at hval;rw [hk] at hval;obtain ⟨cs, rfl, _, ts, _, _, hrow⟩ := hval;refine ⟨cs.toList, by simp, ?_⟩;refine (jfN n t ls cs.toList fuel _ hl hf).side fun _ => ?_;intro a len cap hm;obtain ⟨i, hi⟩ := List.getElem?_of_mem hm;have hi' : cs[i]? = some (.slice (some a) len cap) := by simpa using hi
 obtain ⟨u, _, hu⟩ := hrow i _ hi';exact jfO hu
end
def smps (l : List (Int × Int)) : List AV := l.flatMap fun p => [.int .i64 p.1, .int .i64 p.2]
theorem jb2 {p : Int × Int} {l : List (Int × Int)} : smps (p :: l) = .int .i64 p.1 :: .int .i64 p.2 :: smps l := rfl
theorem ja7 {l : List (Int × Int)} : (smps l).length = l.length * 2 := by
 induction l with
 | nil => rfl
 | cons p l ih => rw [jb2, List.length_cons, List.length_cons, List.length_cons, ih]; omega
theorem jcP : ∀ {l : List (Int × Int)} {k : Nat}, (smps l)[k * 2]? = (l[k]?).map fun p => .int .i64 p.1
 | [], k => by simp [smps]
 | p :: l, 0 => rfl
 | p :: l, k + 1 => by rw [jb2, show (k + 1) * 2 = k * 2 + 1 + 1 by omega, List.getElem?_cons_succ, List.getElem?_cons_succ, List.getElem?_cons_succ]; exact jcP
theorem jcQ : ∀ {l : List (Int × Int)} {k : Nat}, (smps l)[k * 2 + 1]? = (l[k]?).map fun p => .int .i64 p.2
 | [], k => by simp [smps]
 | p :: l, 0 => rfl
 | p :: l, k + 1 => by rw [jb2, show (k + 1) * 2 + 1 = k * 2 + 1 + 1 + 1 by omega, List.getElem?_cons_succ, List.getElem?_cons_succ, List.getElem?_cons_succ]; exact jcQ
def SI (h : Heap) (v : AV) (l : List (Int × Int)) : Prop := SL h 2 v l.length (smps l)
structure InSmp where
 l : List (Int × Int)
 nil : Bool
 blk : Nat
 off : Nat
 cap : Nat
def InSmp.val (x : InSmp) : Value := if x.nil then .slice none 0 0 else .slice (some ⟨x.blk, x.off, none⟩) x.l.length x.cap
def InSmp.av (x : InSmp) (i : Nat) : AV := if x.nil then .nilslice else .slice i 0 x.l.length (.known x.cap)
def InSmp.row (x : InSmp) : Option (List AV) := if x.nil then none else some (smps x.l)
def InSmp.eb (x : InSmp) : EB := ⟨x.blk, x.off, 0⟩
structure InSmp.ok (x : InSmp) (w : World) : Prop where
 isNil : x.nil = true -> x.l = []
 cap : x.nil = false -> x.l.length <= x.cap
 lt : x.l.length < 9223372036854775808
 blk : x.nil = false -> x.blk < w.heap.size
 cell : ∀ k p, x.l[k]? = some p -> w.cell? ⟨x.blk, x.off + k * 2, none⟩ = some (.int .i64 p.1) /\ w.cell? ⟨x.blk, x.off + k * 2 + 1, none⟩ = some (.int .i64 p.2)
 num : ∀ p ∈ x.l, (-9223372036854775808 <= p.1 /\ p.1 <= 9223372036854775807) /\ (-9223372036854775808 <= p.2 /\ p.2 <= 9223372036854775807)
theorem jdW {α : Type} {Q : Nat -> α -> Prop} : ∀ (n : Nat), (∀ i, i < n -> ∃ a, Q i a) -> ∃ l : List α, l.length = n /\ ∀ i a, l[i]? = some a -> Q i a
 | 0, _ => ⟨[], rfl, by simp⟩
 | n + 1, h => by
  obtain ⟨l, hl, hq⟩ := jdW n (fun i hi => h i (by omega));obtain ⟨a, ha⟩ := h n (by omega);refine ⟨l ++ [a], by simp [hl], fun i b hb => ?_⟩;rcases Nat.lt_or_ge i n with x | x
  ·rw [List.getElem?_append_left (by omega)] at hb; exact hq i b hb
  ·have hi : i = n := by
    have := (List.getElem?_eq_some_iff.1 hb).1;rw [List.length_append, hl] at this;simp at this; omega
   subst hi;rw [List.getElem?_append_right (by omega), hl, Nat.sub_self] at hb;cases hb; exact ha
theorem jll {a : Addr} {cs : List Value} (h : w.cells? 0 a 2 = some cs) : ∃ x y, cs = [x, y] /\ w.cell? (a.add 0) = some x /\ w.cell? (a.add 1) = some y := by
 unfold World.cells? at h;rw [if_pos (Nat.zero_le _)] at h;simp only [List.range, List.range.loop, List.mapM_cons, List.mapM_nil, Option.bind_eq_bind, Option.bind_eq_some_iff] at h;obtain ⟨x, hx, z, ⟨y, hy, z', hz', e2⟩, e3⟩ := h;cases hz'; cases e2; cases e3;exact ⟨x, y, rfl, hx, hy⟩
section
variable {H : Type} {enc : TypeId × Value -> H} {P : Program} {w : World}
theorem open_smps {b0 n : Nat} {t e : TypeId} {v : Value} {d : DataW H} {ps : List MemPlace} (ht : P.underlying t = some (.slice e)) (he : lfOf P n e = some [.int .i64, .int .i64]) (hc : P.cellsOf e = 2)
  (hval : Value.okWide P w .any b0 t v) (hd : DataW.Trod enc P w 0 (fun _ => true) true t v d ps) : ∃ x : InSmp, v = x.val /\ x.ok w := by
 have hval' := hval;obtain ⟨a0, len, cap, rfl⟩ := okWide_slice ht hval;obtain ⟨fuel, hf⟩ := hd;rcases DataW.trod_slice ht hf with ⟨hcs, _⟩ | ⟨a, len', cap', elems, rest, m, _, hcs, _, _, hl, hm, hlen, hel, hsp, _⟩
 ·simp only [Value.cells, Array.toList] at hcs;cases hcs;exact ⟨⟨[], true, 0, 0, 0⟩, rfl, ⟨fun _ => rfl, fun h => (by cases h), by simp, fun h => (by cases h), by simp, by simp⟩⟩
 ·simp only [Value.cells, Array.toList] at hcs;cases hcs;unfold Value.okWide at hval';rw [ht] at hval';obtain ⟨hspot, hblk⟩ := jfO (P := P) (t := t) hval';have hmax : cap <= 9223372036854775807 := hm;obtain ⟨ab, ao, asp⟩ := a;simp only at hspot hblk;subst hspot;have hadd : ∀ o k, Addr.add ⟨ab, o, none⟩ k = ⟨ab, o + k, none⟩ := by intro o k; unfold Addr.add; split <;> simp_all
  have each : ∀ i, i < len -> ∃ p : Int × Int, (w.cell? ⟨ab, ao + i * 2, none⟩ = some (.int .i64 p.1) /\ w.cell? ⟨ab, ao + i * 2 + 1, none⟩ = some (.int .i64 p.2)) /\
    (-9223372036854775808 <= p.1 /\ p.1 <= 9223372036854775807) /\ (-9223372036854775808 <= p.2 /\ p.2 <= 9223372036854775807) := by
   intro i hi;have q := hel i hi;have hlt : i < elems.length := by omega
   rw [List.getElem?_eq_getElem hlt, hc, Option.bind_eq_some_iff] at q;obtain ⟨cs, hcs, htr⟩ := q;obtain ⟨x, y, rfl, hx, hy⟩ := jll hcs;rw [hadd, hadd] at hx hy;obtain ⟨u, _, e1, w1, z, _, e2, w2, e3⟩ := jfN n e _ _ _ _ he htr;cases e1; cases e2;exact ⟨(u, z), ⟨by simpa using hx, by simpa [Nat.add_assoc] using hy⟩, wf_i64 w1, wf_i64 w2⟩
  obtain ⟨l, hll, hq⟩ := jdW len each;refine ⟨⟨l, false, ab, ao, cap⟩, ?_, ⟨fun h => (by cases h), fun _ => (by rw [hll]; exact hl), (by rw [hll]; omega), fun _ => hblk, fun k p hk => (hq k p hk).1, ?_⟩⟩
  ·simp only [InSmp.val, Bool.false_eq_true, if_false, hll]
  ·intro p hp;obtain ⟨i, hi⟩ := List.getElem?_of_mem hp;exact (hq i p hi).2
end
theorem kaO {l : List (Int × Int)} {i : Nat} {wr : Bool} (hg : h.get i = some (.cells (smps l) wr u)) (hm : m = l.length /\ m < 9223372036854775808) (hc : m <= c) : SI h (.slice i 0 m (.known c)) l := by
 obtain ⟨rfl, hm⟩ := hm;refine ⟨ja7, hm, .inr ⟨i, 0, _, _, wr, u, rfl, hg, by rw [ja7]; omega, ?_, hc⟩⟩;exact jiR (by rw [ja7])
theorem kbi : SI h .nilslice [] := ⟨rfl, by decide, .inl ⟨.inl rfl, rfl⟩⟩
theorem InSmp.ri {x : InSmp} {bs : List (Option (List AV))} {i : Nat} (hx : x.ok w) (hi : bs[i]? = some x.row) : SI (argHeap bs) (x.av i) x.l := by
 unfold InSmp.av;cases hn : x.nil with
 | true =>
  rw [hx.isNil hn, if_pos rfl]; exact kbi
 | false =>
  rw [if_neg (by simp)];refine kaO (jbO (hi.trans ?_)) ⟨rfl, hx.lt⟩ (hx.cap hn);simp [InSmp.row, hn]
theorem InSmp.av_val {x : InSmp} {i : Nat} {lk : Nat -> FuncId} (he : env i = x.eb) : (x.av i).val lk env = x.val := by
 unfold InSmp.av InSmp.val;cases hn : x.nil with
 | true => rfl
 | false => simp [AV.val, he, InSmp.eb, Cap.at]
theorem InSmp.av_bel {x : InSmp} {w : World} {bs : List (Option (List AV))} {i : Nat} (hi : bs[i]? = some x.row) : (x.av i).bel (argHeap bs).ok := by
 unfold InSmp.av;cases hn : x.nil with
 | true => trivial
 | false =>
  show (argHeap bs).ok i;have : bs[i]? = some (some (smps x.l)) := hi.trans (by simp [InSmp.row, hn]);simp [Heap.ok, jbO this]
theorem InSmp.rowOk {C : Ctx} {x : InSmp} {w : World} {bs : List (Option (List AV))} {env : Env} {i : Nat} {vs : List AV} (hx : x.ok w) (he : env i = x.eb) (hv : x.row = some vs) : (env i).blk < w.heap.size /\ (∀ v ∈ vs, v.bel (argHeap bs).ok) /\
  ∀ k v, vs[k]? = some v -> w.cell? ⟨(env i).blk, (env i).sh + k, none⟩ = some (v.val C.lk env) := by
 unfold InSmp.row at hv;split at hv
 ·cases hv
 ·rename_i hn;cases hv;rw [he];refine ⟨hx.blk (by simpa using hn), ?_, ?_⟩
  ·intro v hv;obtain ⟨p, _, hp⟩ := List.mem_flatMap.1 hv;simp only [List.mem_cons, List.not_mem_nil, or_false] at hp;rcases hp with rfl | rfl <;> trivial
  ·intro k v hk;rcases Nat.mod_two_eq_zero_or_one k with e | e
   ·obtain ⟨j, rfl⟩ : ∃ j, k = j * 2 := ⟨k / 2, by omega⟩;rw [jcP, Option.map_eq_some_iff] at hk;obtain ⟨p, hp, rfl⟩ := hk;exact (hx.cell j p hp).1
   ·obtain ⟨j, rfl⟩ : ∃ j, k = j * 2 + 1 := ⟨k / 2, by omega⟩;rw [jcQ, Option.map_eq_some_iff] at hk;obtain ⟨p, hp, rfl⟩ := hk;exact (hx.cell j p hp).2
end Go.Ae
namespace Go.Ae
variable {C : Ctx} {h h' h0 : Heap} {v vp : AV} {w : World} {env : Env} {kp : Keep} {m sz c u g : Nat} {d a : Int} {cs vs args : List AV} {ts : List Int} {P : Program}
open Go.Conc
def permOf (kp0 : Keep) (w0 W : World) (sl : List WSt) : Nat -> Option Keep
 | 0 => some (cur kp0 w0 W)
 | j + 1 => (sl[j]?).bind (WSt.perm W)
def rec0 (c : Nat) (g0 : Goroutine) : Option Value -> Goroutine
 | none => g0
 | some z => parked g0 #[rcase c z] (.recv false)
structure CInv (P : Program) (c : Nat) (ps : List Prom) (kp0 : Keep) (g0 : Goroutine) (w0 : World) (pk : Option Value) (sl : List WSt) (gs : Array Goroutine) (W : World) (t : Trace) : Prop where
 size : gs.size = sl.length + 1
 zero : gs[0]? = some (rec0 c g0 pk)
 run0 : g0.status = .running
 rely0 : Rely kp0 w0 (cur kp0 w0 W) W
 slot : ∀ j x, sl[j]? = some x -> gs[j + 1]? = some (x.gor c) /\ x.ok P c W
 proms : ps = sl.filterMap WSt.prom?
 chan : ps ≠ [] -> (∃ s, W.heap[c]? = some (.chan 0 #[] false s s false)) /\ kp0.hide c
 pkps : pk ≠ none -> ps ≠ [] /\ ∀ x ∈ sl, ∀ Φ kp g w v z T n, x ≠ .wait Φ kp g w v z T n
 gnum : ∀ op ∈ t, op.g < gs.size
 trace : TInv t W.heap.size (permOf kp0 w0 W sl)
theorem jeI {W W' : World} (h1 : w.heap.size <= W.heap.size) (h2 : W.heap.size <= W'.heap.size) : (cur kp w W).wider W.heap.size W'.heap.size = cur kp w W' := kaF _ h1 h2
theorem JW.running {Φ : Prom} {g : Goroutine} (h : JW P c Φ kp g w) : g.status = .running := by
 cases h with
 | step h _ => exact (h _ _ (kap _ _)).1
 | send _ _ _ _ h => exact h
theorem JM.running {Fin : Value -> World -> Prop} {ps : List Prom} {g : Goroutine} (h : JM P Fin c ps kp g w) : g.status = .running := by
 cases h with
 | step h _ => exact (h _ _ (kap _ _)).1
 | spawn _ _ h => exact h
 | recv _ h => exact h
 | done h => exact (h _ _ (kap _ _)).1
section
variable {P : Program} {c : Nat} {ps : List Prom} {kp0 : Keep} {g0 : Goroutine} {w0 : World} {pk : Option Value} {sl : List WSt} {gs : Array Goroutine} {W : World} {t : Trace}
theorem ka6 {x : WSt} (h : x.ok P c W) : (x.gor c).status = .running \/ (x.gor c).status = .finished \/ ((x.gor c).status = .blocked /\ ∃ Φ kp g w v z T n, x = .wait Φ kp g w v z T n) := by
 cases x with
 | busy => exact .inl h.1.running
 | wait => exact .inr (.inr ⟨rfl, _, _, _, _, _, _, _, _, rfl⟩)
 | gone => exact h.status.imp id .inl
theorem CInv.get (I : CInv P c ps kp0 g0 w0 pk sl gs W t) {k : Nat} {y : Goroutine} (hy : gs[k]? = some y) : (k = 0 /\ y = rec0 c g0 pk) \/ ∃ j x, k = j + 1 /\ sl[j]? = some x /\ y = x.gor c /\ x.ok P c W := by
 cases k with
 | zero => rw [I.zero] at hy; exact .inl ⟨rfl, (Option.some.inj hy).symm⟩
 | succ j =>
  have hlt := (Array.getElem?_eq_some_iff.1 hy).1;have hj : j < sl.length := by have := I.size; omega
  have := I.slot j _ (List.getElem?_eq_getElem hj);rw [this.1] at hy;exact .inr ⟨j, _, rfl, List.getElem?_eq_getElem hj, (Option.some.inj hy).symm, this.2⟩
theorem jct {x : WSt} {Φ : Prom} (hx : x ∈ sl) (h : x.prom? = some Φ) : sl.filterMap WSt.prom? ≠ [] := by
 intro e;have : Φ ∈ sl.filterMap WSt.prom? := List.mem_filterMap.2 ⟨x, hx, h⟩;rw [e] at this; cases this
theorem CInv.awake (I : CInv P c ps kp0 g0 w0 pk sl gs W t) : ∀ g ∈ gs, awake g := by
 intro g hg;obtain ⟨k, hk, rfl⟩ := Array.mem_iff_getElem.1 hg;rcases I.get (Array.getElem?_eq_getElem hk) with ⟨_, e⟩ | ⟨j, x, _, _, e, hx⟩
 ·rw [e];cases pk with
  | none => exact fun t => by simp [rec0, I.run0]
  | some z => exact fun t => by simp [rec0, parked]
 ·rw [e];rcases ka6 hx with h | h | ⟨h, _⟩ <;> exact fun t => by rw [h]; simp
theorem CInv.fixed (I : CInv P c ps kp0 g0 w0 pk sl gs W t) {W' : World} (hc : ps ≠ [] -> W'.heap[c]? = W.heap[c]?) {k : Nat} {y a a' : Goroutine} (hy : gs[k]? = some y) : woken P a a' W' y = y := by
 have key : y.again W' = y := by
  rcases I.get hy with ⟨_, e⟩ | ⟨j, x, _, hx, e, hok⟩
  ·rw [e];cases hpk : pk with
   | none => exact again_running _ (.inl I.run0)
   | some z =>
    have hp := (I.pkps (by rw [hpk]; simp)).1;obtain ⟨⟨s, hs⟩, _⟩ := I.chan hp;exact again_recv_open (cap := 0) (buf := #[]) (s := s) (r := s) (tm := false) (by rw [hc hp]; exact hs)
  ·rw [e];cases x with
   | busy => exact again_running _ (.inl hok.1.running)
   | gone => exact again_running _ hok.status
   | wait Φ kp g w v z T n =>
    have hp : ps ≠ [] := by rw [I.proms]; exact jct (List.mem_of_getElem? hx) rfl
    obtain ⟨⟨s, hs⟩, _⟩ := I.chan hp;exact again_send_open (cap := 0) (buf := #[]) (s := s) (r := s) (tm := false) (by rw [hc hp]; exact hs)
 unfold woken;split
 ·exact key
 ·rfl
theorem kaD {x : WSt} {W' : World} (h : x.ok P c W) (hr : ∀ k, x.perm W = some k -> Rely k W (k.wider W.heap.size W'.heap.size) W') : x.ok P c W' := by
 cases x with
 | busy Φ kp g w =>
  have r := hr _ rfl;have := h.2.1.trans r;rw [jeI h.2.1.size r.size] at this;exact ⟨h.1, this, h.2.2⟩
 | wait Φ kp g w v z T n =>
  have r := hr _ rfl;have := h.1.trans r;rw [jeI h.1.size r.size] at this;exact ⟨this, h.2⟩
 | gone => exact h
theorem kaE {x : WSt} {W' : World} (h : x.ok P c W) (hW : W.heap.size <= W'.heap.size) : x.perm W' = (x.perm W).map fun k => k.wider W.heap.size W'.heap.size := by
 cases x with
 | busy Φ kp g w => simp only [WSt.perm, Option.map_some]; rw [jeI h.2.1.size hW]
 | wait Φ kp g w v z T n => simp only [WSt.perm, Option.map_some]; rw [jeI h.1.size hW]
 | gone => rfl
theorem ja2 {j : Nat} {x : WSt} (hx : sl[j]? = some x) : permOf kp0 w0 W sl (j + 1) = x.perm W := by simp [permOf, hx]
theorem CInv.at (I : CInv P c ps kp0 g0 w0 pk sl gs W t) (d : Nat) : CInv P c ps kp0 g0 w0 pk sl gs (W.at d) t := by
 refine ⟨I.size, I.zero, I.run0, I.rely0.at d, fun j x hx => ⟨(I.slot j x hx).1, ?_⟩, I.proms, I.chan, I.pkps, I.gnum, I.trace⟩;refine kaD (I.slot j x hx).2 fun k _ => ?_;exact ⟨Nat.le_refl _, rfl, rfl, rfl, fun _ _ _ => rfl, rfl⟩
theorem jlm {k kg : Keep} {W W' : World} (K : KeepW kg W W') (hex : ∀ b, b < W.heap.size -> ¬ kg.no b -> k.hide b) : Rely k W (k.wider W.heap.size W'.heap.size) W' :=
 ⟨K.size, K.os, K.tape, K.output, fun r hr hn => K.block r (.inl (Classical.byContradiction fun z => hn (hex r hr z))), rfl⟩
theorem jcR {f : Goroutine -> Goroutine} {i : Nat} {x : Goroutine} {k : Nat} {y : Goroutine} (hne : i ≠ k) (hy : gs[k]? = some y) (hf : f y = y) : ((gs.map f).setIfInBounds i x)[k]? = some y := by
 rw [Array.getElem?_setIfInBounds_ne hne, Array.getElem?_map, hy]; simp [hf]
theorem getElem?_mid {α : Type} (A : List α) (x : α) (B : List α) : (A ++ x :: B)[A.length]? = some x := by simp
theorem getElem?_mid_ne {α : Type} (A : List α) (x y : α) (B : List α) {j : Nat} (h : j ≠ A.length) : (A ++ y :: B)[j]? = (A ++ x :: B)[j]? := by
 rcases Nat.lt_or_ge j A.length with h1 | h1
 ·rw [List.getElem?_append_left h1, List.getElem?_append_left h1]
 ·rw [List.getElem?_append_right h1, List.getElem?_append_right h1];obtain ⟨m, hm⟩ : ∃ m, j - A.length = m + 1 := ⟨j - A.length - 1, by omega⟩;rw [hm]; simp
theorem jby (kp : Keep) (W : World) : cur kp W W = kp := kaw _ _
theorem CInv.sub0 (I : CInv P c ps kp0 g0 w0 pk sl gs W t) : (∀ r, (cur kp0 w0 W).hide r -> (cur kp0 w0 W).no r) /\ ∀ r, (cur kp0 w0 W).no r -> r < W.heap.size := I.trace.sub 0 _ rfl
theorem CInv.curHide (I : CInv P c ps kp0 g0 w0 pk sl gs W t) (h : ps ≠ []) : (cur kp0 w0 W).hide c := .inl (I.chan h).2
theorem jfd {n : Nat} {u : Trace} (h : ∀ op ∈ t, op.g < n) (hu : ∀ op ∈ u, op.g < n) : ∀ op ∈ t ++ u, op.g < n := fun op hop => (Array.mem_append.1 hop).elim (h op) (hu op)
theorem CInv.own0 (I : CInv P c ps kp0 g0 w0 none sl gs W t) {g' : Goroutine} {W' : World} {es : Array Event} (hrun : g'.status = .running) (K : KeepW (cur kp0 w0 W) W W') (hes : ∀ e ∈ es, EvIn (cur kp0 w0 W) W'.heap.size e) (a a' : Goroutine) (fn : FuncId) (pos : String) :
  CInv P c ps (cur kp0 w0 W) g' W' none sl ((gs.map (woken P a a' W')).setIfInBounds 0 g') W' (t ++ MemOp.ofEvents 0 fn pos es) := by
 have hc : ps ≠ [] -> W'.heap[c]? = W.heap[c]? := fun h => K.block c (.inl (I.sub0.1 _ (I.curHide h)));have hsz : ((gs.map (woken P a a' W')).setIfInBounds 0 g').size = gs.size := by simp
 have hex : ∀ (j : Nat) (x : WSt) (k : Keep), sl[j]? = some x -> x.perm W = some k -> ∀ b, b < W.heap.size -> ¬ (cur kp0 w0 W).no b -> k.hide b := fun j x k hx hk b hb hn =>
  I.trace.excl 0 (j + 1) _ _ (by omega) rfl (by rw [ja2 hx]; exact hk) b hb hn
 have hok : ∀ (j : Nat) (x : WSt), sl[j]? = some x -> x.ok P c W' := fun j x hx => kaD (I.slot j x hx).2 fun k hk => jlm K (hex j x k hx hk);refine ⟨hsz.trans I.size, ?_, hrun, ?_, fun j x hx => ⟨?_, hok j x hx⟩, I.proms, fun h => ⟨?_, ?_⟩, fun h => absurd rfl h, ?_, ?_⟩
 ·have hlt := (Array.getElem?_eq_some_iff.1 I.zero).1;rw [Array.getElem?_setIfInBounds_self_of_lt (by simpa using hlt)]; rfl
 ·rw [jby]; exact kap _ _
 ·exact jcR (by omega) (I.slot j x hx).1 (I.fixed hc (I.slot j x hx).1)
 ·rw [hc h]; exact (I.chan h).1
 ·exact I.curHide h
 ·rw [hsz];refine jfd I.gnum fun op hop => ?_;obtain ⟨e, _, rfl⟩ := Go.Conc.mem_ofEvents hop;have := I.size;show 0 < gs.size;omega
 ·refine I.trace.own (g := 0) (kp := cur kp0 w0 W) rfl K.size hes fun g' => ?_;cases g' with
  | zero => simp only [permOf, if_true, jby]
  | succ j =>
   rw [if_neg (by omega)];cases hx : sl[j]? with
   | none => simp [permOf, hx]
   | some x => rw [ja2 hx, ja2 hx, kaE (I.slot j x hx).2 K.size]
theorem CInv.ownJ {A B : List WSt} {Φ : Prom} {kp : Keep} {g : Goroutine} {w : World} (I : CInv P c ps kp0 g0 w0 pk (A ++ .busy Φ kp g w :: B) gs W t) {g' : Goroutine} {W' : World} {es : Array Event}
  (hj : JW P c Φ (cur kp w W) g' W') (K : KeepW (cur kp w W) W W') (hes : ∀ e ∈ es, EvIn (cur kp w W) W'.heap.size e) (a a' : Goroutine) (fn : FuncId) (pos : String) :
  CInv P c ps kp0 g0 w0 pk (A ++ .busy Φ (cur kp w W) g' W' :: B) ((gs.map (woken P a a' W')).setIfInBounds (A.length + 1) g') W' (t ++ MemOp.ofEvents (A.length + 1) fn pos es) := by
 have hme := getElem?_mid A (.busy Φ kp g w) B;have hS := I.slot _ _ hme;have hps : ps ≠ [] := by rw [I.proms]; exact jct (x := .busy Φ kp g w) (by simp) rfl
 have hmeP : permOf kp0 w0 W (A ++ .busy Φ kp g w :: B) (A.length + 1) = some (cur kp w W) := by rw [ja2 hme]; rfl
 have sj := I.trace.sub _ _ hmeP;have hhc : (cur kp w W).hide c := .inl hS.2.2.2;have hc : ps ≠ [] -> W'.heap[c]? = W.heap[c]? := fun _ => K.block c (.inl (sj.1 _ hhc));have hsz : ((gs.map (woken P a a' W')).setIfInBounds (A.length + 1) g').size = gs.size := by simp
 have hlt : A.length + 1 < gs.size := (Array.getElem?_eq_some_iff.1 hS.1).1;have hother : ∀ j, j ≠ A.length -> (A ++ .busy Φ (cur kp w W) g' W' :: B)[j]? = (A ++ .busy Φ kp g w :: B)[j]? := fun j h => getElem?_mid_ne _ _ _ _ h;have r0 : Rely (cur kp0 w0 W) W ((cur kp0 w0 W).wider W.heap.size W'.heap.size) W' := jlm K fun b hb hn => I.trace.excl (A.length + 1) 0 _ _ (by omega) hmeP rfl b hb hn;have R0 : Rely kp0 w0 (cur kp0 w0 W') W' := by
  have := I.rely0.trans r0
  rwa [jeI I.rely0.size K.size] at this
 refine ⟨by rw [hsz, I.size]; simp, ?_, I.run0, R0, fun j x hx => ?_, ?_, fun h => ⟨?_, (I.chan h).2⟩, fun h => ⟨hps, ?_⟩, ?_, ?_⟩
 ·exact jcR (by omega) I.zero (I.fixed hc I.zero)
 ·by_cases e : j = A.length
  ·subst e;rw [getElem?_mid] at hx;cases hx;refine ⟨by rw [Array.getElem?_setIfInBounds_self_of_lt (by simpa using hlt)]; rfl, hj, ?_, hhc⟩;rw [jby]; exact kap _ _
  ·rw [hother j e] at hx;have hxs := I.slot j x hx;refine ⟨jcR (by omega) hxs.1 (I.fixed hc hxs.1), kaD hxs.2 fun k hk => jlm K fun b hb hn => ?_⟩;exact I.trace.excl (A.length + 1) (j + 1) _ _ (by omega) hmeP (by rw [ja2 hx]; exact hk) b hb hn
 ·rw [I.proms]; simp [List.filterMap_append, List.filterMap_cons, WSt.prom?]
 ·rw [hc h]; exact (I.chan h).1
 ·intro x hx;rcases List.mem_append.1 hx with hx | hx
  ·exact (I.pkps h).2 x (List.mem_append.2 (.inl hx))
  ·rcases List.mem_cons.1 hx with rfl | hx
   ·intro _ _ _ _ _ _ _ _ e; cases e
   ·exact (I.pkps h).2 x (List.mem_append.2 (.inr (List.mem_cons_of_mem _ hx)))
 ·rw [hsz];refine jfd I.gnum fun op hop => ?_;obtain ⟨e, _, rfl⟩ := Go.Conc.mem_ofEvents hop;exact hlt
 ·refine I.trace.own (g := A.length + 1) (kp := cur kp w W) hmeP K.size hes fun g' => ?_;cases g' with
  | zero =>
   rw [if_neg (by omega)];simp only [permOf, Option.map_some];rw [jeI I.rely0.size K.size]
  | succ j =>
   by_cases e : j = A.length
   ·subst e;rw [if_pos rfl, ja2 (getElem?_mid A _ B)];simp only [WSt.perm, jby]
   ·rw [if_neg (by omega)];simp only [permOf, hother j e];cases hx : (A ++ WSt.busy Φ kp g w :: B)[j]? with
    | none => rfl
    | some x => simp only [Option.bind_some]; rw [kaE (I.slot j x hx).2 K.size]
theorem CInv.slip {A B : List WSt} {n : Nat} {g g' : Goroutine} (I : CInv P c ps kp0 g0 w0 pk (A ++ .gone (n + 1) g :: B) gs W t) (hq : QuitsIn P n g') (a a' : Goroutine) (fn : FuncId) (pos : String) :
  CInv P c ps kp0 g0 w0 pk (A ++ .gone n g' :: B) ((gs.map (woken P a a' W)).setIfInBounds (A.length + 1) g') W (t ++ MemOp.ofEvents (A.length + 1) fn pos #[]) := by
 have hme := getElem?_mid A (.gone (n + 1) g) B;have hS := I.slot _ _ hme;have hlt : A.length + 1 < gs.size := (Array.getElem?_eq_some_iff.1 hS.1).1;have hsz : ((gs.map (woken P a a' W)).setIfInBounds (A.length + 1) g').size = gs.size := by simp
 have hother : ∀ j, j ≠ A.length -> (A ++ .gone n g' :: B)[j]? = (A ++ .gone (n + 1) g :: B)[j]? := fun j h => getElem?_mid_ne _ _ _ _ h;have e0 : t ++ MemOp.ofEvents (A.length + 1) fn pos #[] = t := by simp [MemOp.ofEvents]
 rw [e0];refine ⟨by rw [hsz, I.size]; simp, ?_, I.run0, I.rely0, fun j x hx => ?_, ?_, I.chan, fun h => ⟨(I.pkps h).1, ?_⟩, by rw [hsz]; exact I.gnum, ?_⟩
 ·exact jcR (by omega) I.zero (I.fixed (fun _ => rfl) I.zero)
 ·by_cases e : j = A.length
  ·subst e;rw [getElem?_mid] at hx;cases hx;exact ⟨by rw [Array.getElem?_setIfInBounds_self_of_lt (by simpa using hlt)]; rfl, hq⟩
  ·rw [hother j e] at hx;have hxs := I.slot j x hx;exact ⟨jcR (by omega) hxs.1 (I.fixed (fun _ => rfl) hxs.1), hxs.2⟩
 ·rw [I.proms]; simp [List.filterMap_append, List.filterMap_cons, WSt.prom?]
 ·intro x hx;rcases List.mem_append.1 hx with hx | hx
  ·exact (I.pkps h).2 x (List.mem_append.2 (.inl hx))
  ·rcases List.mem_cons.1 hx with rfl | hx
   ·intro _ _ _ _ _ _ _ _ e; cases e
   ·exact (I.pkps h).2 x (List.mem_append.2 (.inr (List.mem_cons_of_mem _ hx)))
 ·have : permOf kp0 w0 W (A ++ .gone n g' :: B) = permOf kp0 w0 W (A ++ .gone (n + 1) g :: B) := by
   funext k;cases k with
   | zero => rfl
   | succ j =>
    by_cases e : j = A.length
    ·subst e;rw [ja2 (getElem?_mid A _ B), ja2 (getElem?_mid A _ B)]; rfl
    ·simp only [permOf, hother j e]
  rw [this]; exact I.trace
theorem CInv.park {A B : List WSt} {Φ : Prom} {kp : Keep} {g : Goroutine} {w : World} (I : CInv P c ps kp0 g0 w0 none (A ++ .busy Φ kp g w :: B) gs W t) {v z : Value} {T : Nat -> Prop} {n : Nat}
  (hΦ : ∀ kp1 w1, Rely kp w kp1 w1 -> Φ v w1 T) (hT : ∀ r, T r -> r < w.heap.size /\ ¬ kp.no r) (hq : QuitsIn P n (Conc.served g undef)) :
  CInv P c ps kp0 g0 w0 none (A ++ .wait Φ kp g w v z T n :: B) (gs.setIfInBounds (A.length + 1) (parked g #[scase c v z] .send)) W t := by
 have hme := getElem?_mid A (.busy Φ kp g w) B;have hS := I.slot _ _ hme;have hlt : A.length + 1 < gs.size := (Array.getElem?_eq_some_iff.1 hS.1).1;have hother : ∀ j, j ≠ A.length -> (A ++ .wait Φ kp g w v z T n :: B)[j]? = (A ++ .busy Φ kp g w :: B)[j]? := fun j h => getElem?_mid_ne _ _ _ _ h;refine ⟨by rw [Array.size_setIfInBounds, I.size]; simp, ?_, I.run0, I.rely0, fun j x hx => ?_, ?_, I.chan, fun h => absurd rfl h, by rw [Array.size_setIfInBounds]; exact I.gnum, ?_⟩
 ·rw [Array.getElem?_setIfInBounds_ne (by omega)]; exact I.zero
 ·by_cases e : j = A.length
  ·subst e;rw [getElem?_mid] at hx;cases hx;exact ⟨by rw [Array.getElem?_setIfInBounds_self_of_lt hlt]; rfl, hS.2.2.1, hS.2.2.2, hΦ, hT, hq⟩
  ·rw [hother j e] at hx;have hxs := I.slot j x hx;exact ⟨by rw [Array.getElem?_setIfInBounds_ne (by omega)]; exact hxs.1, hxs.2⟩
 ·rw [I.proms]; simp [List.filterMap_append, List.filterMap_cons, WSt.prom?]
 ·have : permOf kp0 w0 W (A ++ .wait Φ kp g w v z T n :: B) = permOf kp0 w0 W (A ++ .busy Φ kp g w :: B) := by
   funext k;cases k with
   | zero => rfl
   | succ j =>
    by_cases e : j = A.length
    ·subst e;rw [ja2 (getElem?_mid A _ B), ja2 (getElem?_mid A _ B)]; rfl
    ·simp only [permOf, hother j e]
  rw [this]; exact I.trace
theorem CInv.park0 (I : CInv P c ps kp0 g0 w0 none sl gs W t) (z : Value) (hps : ps ≠ []) (hno : ∀ x ∈ sl, ∀ Φ kp g w v z T n, x ≠ .wait Φ kp g w v z T n) :
  CInv P c ps kp0 g0 w0 (some z) sl (gs.setIfInBounds 0 (parked g0 #[rcase c z] (.recv false))) W t := by
 refine ⟨by rw [Array.size_setIfInBounds]; exact I.size, ?_, I.run0, I.rely0, fun j x hx => ?_, I.proms, I.chan, fun _ => ⟨hps, hno⟩, by rw [Array.size_setIfInBounds]; exact I.gnum, I.trace⟩
 ·have hlt := (Array.getElem?_eq_some_iff.1 I.zero).1;rw [Array.getElem?_setIfInBounds_self_of_lt hlt]; rfl
 ·have := I.slot j x hx;exact ⟨by rw [Array.getElem?_setIfInBounds_ne (by omega)]; exact this.1, this.2⟩
theorem jh5 (W : World) (c cap : Nat) (buf : Array Value) (cl : Bool) (s r : Nat) (tm : Bool) {k : Nat} (h : k ≠ c) : (W.setChan c cap buf cl s r tm).heap[k]? = W.heap[k]? := by
 simp only [World.setChan];rw [Array.getElem?_setIfInBounds_ne (Ne.symm h)]
theorem jml {k : Keep} {W : World} (hc : k.hide c) (d s r : Nat) : Rely k W (k.wider W.heap.size ((W.at d).setChan c 0 #[] false s r false).heap.size) ((W.at d).setChan c 0 #[] false s r false) := by
 have hs : ((W.at d).setChan c 0 #[] false s r false).heap.size = W.heap.size := by simp [World.setChan, World.at]
 refine ⟨by omega, rfl, rfl, rfl, fun q hq hn => ?_, rfl⟩;rw [jh5 _ _ _ _ _ _ _ _ (by rintro rfl; exact hn hc)]; rfl
theorem CInv.meet {A B : List WSt} {x : WSt} {Φ : Prom} {kp : Keep} {g : Goroutine} {w : World} {v : Value} {T : Nat -> Prop} {n : Nat} (I : CInv P c ps kp0 g0 w0 pk (A ++ x :: B) gs W t)
  (hx : (x = .busy Φ kp g w \/ ∃ z, x = .wait Φ kp g w v z T n)) (hΦ : ∀ kp1 w1, Rely kp w kp1 w1 -> Φ v w1 T) (hT : ∀ r, T r -> r < w.heap.size /\ ¬ kp.no r) (hq : QuitsIn P n (Conc.served g undef)) (hrel : Rely kp w (cur kp w W) W) (hkc : kp.hide c)
  (hothers : pk ≠ none \/ True) (d : Nat) {s : Nat} (hs : W.heap[c]? = some (.chan 0 #[] false s s false)) (f0 fj : FuncId) (p0 pj : String) {gs' : Array Goroutine} (hgs : ∀ k y, gs[k]? = some y -> k ≠ 0 -> k ≠ A.length + 1 -> gs'[k]? = some y)
  (hg0 : gs'[0]? = some (Conc.served g0 v)) (hgj : gs'[A.length + 1]? = some (Conc.served g undef)) (hgsz : gs'.size = gs.size) :
  ∃ PA PB, ps = PA ++ Φ :: PB /\ Φ v (W.at d) T /\ (∀ r, T r -> r < (W.at d).heap.size /\ (cur kp0 w0 W).hide r /\ r ≠ c) /\
   CInv P c (PA ++ PB) ((cur kp0 w0 W).take T (PA ++ PB = [])) (Conc.served g0 v) ((W.at d).setChan c 0 #[] false (s + 1) (s + 1) false) none (A ++ .gone n (Conc.served g undef) :: B) gs' ((W.at d).setChan c 0 #[] false (s + 1) (s + 1) false)
    (t ++ #[{ g := A.length + 1, fn := fj, pos := pj, act := .send c s }, { g := 0, fn := f0, pos := p0, act := .recv c s 0 }, { g := A.length + 1, fn := fj, pos := pj, act := .sendDone c s }, { g := 0, fn := f0, pos := p0, act := .recvDone c s }]) := by
 have hme := getElem?_mid A x B;have hS := I.slot _ _ hme;have hprom : x.prom? = some Φ := by rcases hx with rfl | ⟨z, rfl⟩ <;> rfl
 have hxp : x.perm W = some (cur kp w W) := by rcases hx with rfl | ⟨z, rfl⟩ <;> rfl
 have hmeP : permOf kp0 w0 W (A ++ x :: B) (A.length + 1) = some (cur kp w W) := by rw [ja2 hme]; exact hxp
 have hps : ps ≠ [] := by rw [I.proms]; exact jct (x := x) (by simp) hprom
 have hsplit : ps = A.filterMap WSt.prom? ++ Φ :: B.filterMap WSt.prom? := by rw [I.proms, List.filterMap_append, List.filterMap_cons, hprom]
 have hother : ∀ j, j ≠ A.length -> (A ++ .gone n (Conc.served g undef) :: B)[j]? = (A ++ x :: B)[j]? := fun j h => getElem?_mid_ne _ _ _ _ h;have hWs : ((W.at d).setChan c 0 #[] false (s + 1) (s + 1) false).heap.size = W.heap.size := by simp [World.setChan, World.at]
 have sj := I.trace.sub _ _ hmeP;have hT' : ∀ r, T r -> r < W.heap.size /\ ¬ (cur kp w W).no r := fun r hr => by
  obtain ⟨h1, h2⟩ := hT r hr;refine ⟨Nat.lt_of_lt_of_le h1 hrel.size, ?_⟩;rintro (h | ⟨h, _⟩)
  ·exact h2 h
  ·omega
 have hThide : ∀ r, T r -> (cur kp0 w0 W).hide r := fun r hr => I.trace.excl (A.length + 1) 0 _ _ (by omega) hmeP rfl r (hT' r hr).1 (hT' r hr).2;have hTc : ∀ r, T r -> r ≠ c := by
  rintro r hr rfl;exact (hT' r hr).2 (sj.1 _ (.inl hkc))
 have hperm : ∀ (j : Nat) (y : WSt), (A ++ x :: B)[j]? = some y -> ∀ k : Keep, y.perm W = some k -> k.hide c := by
  intro j y hy k hk;have ok := (I.slot j y hy).2;cases y with
  | busy => cases hk; exact .inl ok.2.2
  | wait => cases hk; exact .inl ok.2.1
  | gone => cases hk
 refine ⟨A.filterMap WSt.prom?, B.filterMap WSt.prom?, hsplit, hΦ _ _ (hrel.at d), fun r hr => ⟨(hT' r hr).1, hThide r hr, hTc r hr⟩, ?_⟩;refine ⟨by rw [hgsz, I.size]; simp, hg0, rfl, ?_, fun j y hy => ?_, ?_, fun h => ⟨⟨s + 1, ?_⟩, ?_⟩, fun h => absurd rfl h, ?_, ?_⟩
 ·rw [jby]; exact kap _ _
 ·by_cases e : j = A.length
  ·subst e;rw [getElem?_mid] at hy;cases hy;exact ⟨hgj, hq⟩
  ·rw [hother j e] at hy;have hys := I.slot j y hy;exact ⟨hgs _ _ hys.1 (by omega) (by omega), kaD hys.2 fun k hk => jml (hperm j y hy k hk) d _ _⟩
 ·simp [List.filterMap_append, List.filterMap_cons, WSt.prom?]
 ·simp only [World.setChan];rw [Array.getElem?_setIfInBounds_self_of_lt];exact (Array.getElem?_eq_some_iff.1 hs).1
 ·exact ⟨.inl (I.chan hps).2, fun h => hTc c h rfl⟩
 ·rw [hgsz];have h0 := (Array.getElem?_eq_some_iff.1 I.zero).1;have h1 := (Array.getElem?_eq_some_iff.1 hS.1).1;refine jfd I.gnum fun op hop => ?_;simp at hop;rcases hop with rfl | rfl | rfl | rfl <;> first | exact h1 | exact h0
 ·rw [hWs];refine I.trace.meet (kp := cur kp0 w0 W) (kj := cur kp w W) rfl (j := A.length + 1) (by omega) hmeP hT' (last := (A.filterMap WSt.prom? ++ B.filterMap WSt.prom? = [])) ?_ ?_
  ·intro hl k hk0 hkj;cases k with
   | zero => exact absurd rfl hk0
   | succ j =>
    have ej : j ≠ A.length := by omega
    simp only [permOf];cases hy : (A ++ x :: B)[j]? with
    | none => rfl
    | some y =>
     simp only [Option.bind_some];cases hyp : y.prom? with
     | none => cases y <;> first | rfl | cases hyp
     | some Ψ =>
      exfalso;rw [<- hother j ej] at hy;have hm : Ψ ∈ (A ++ .gone n (Conc.served g undef) :: B).filterMap WSt.prom? := List.mem_filterMap.2 ⟨y, List.mem_of_getElem? hy, hyp⟩;simp only [List.filterMap_append, List.filterMap_cons, WSt.prom?] at hm;rw [hl] at hm;cases hm
  ·intro k;cases k with
   | zero => simp only [permOf, if_true, jby]
   | succ j =>
    rw [if_neg (by omega)];by_cases e : j = A.length
    ·subst e;rw [if_pos rfl, ja2 (getElem?_mid A _ B)]; rfl
    ·rw [if_neg (by omega)];simp only [permOf, hother j e];cases hy : (A ++ x :: B)[j]? with
     | none => rfl
     | some y =>
      simp only [Option.bind_some];rw [kaE (I.slot j y hy).2 (by omega), hWs];cases y.perm W <;> simp [kaw]
theorem CInv.spawn (I : CInv P c ps kp0 g0 w0 none sl gs W t) {c' : Nat} {Φ : Prom} (hc' : (ps = [] /\ ¬ (cur kp0 w0 W).no c' /\ W.heap[c']? = some (.chan 0 #[] false 0 0 false)) \/ (ps ≠ [] /\ c' = c)) {g' ch : Goroutine} (hrun : g'.status = .running)
  (hj : JW P c' Φ ((cur kp0 w0 W).shared W.heap.size c') ch W) (fn fc : FuncId) (p p' : String) :
  CInv P c' (ps ++ [Φ]) ((cur kp0 w0 W).shared W.heap.size c') g' W none (sl ++ [.busy Φ ((cur kp0 w0 W).shared W.heap.size c') ch W]) ((gs.setIfInBounds 0 g').push ch) W
   (t ++ #[{ g := 0, fn := fn, pos := p, act := .go gs.size }, { g := gs.size, fn := fc, pos := p', act := .start }]) := by
 have h0 := (Array.getElem?_eq_some_iff.1 I.zero).1;have hlt : c' < W.heap.size := by
  rcases hc' with ⟨_, _, h⟩ | ⟨h, rfl⟩
  ·exact (Array.getElem?_eq_some_iff.1 h).1
  ·obtain ⟨⟨s, hs⟩, _⟩ := I.chan h;exact (Array.getElem?_eq_some_iff.1 hs).1
 have hold : ∀ (j : Nat) (x : WSt), sl[j]? = some x -> x.gor c' = x.gor c /\ x.ok P c' W := by
  intro j x hx;rcases hc' with ⟨hp, _⟩ | ⟨_, rfl⟩
  ·have hok := (I.slot j x hx).2;cases x with
   | gone => exact ⟨rfl, hok⟩
   | busy => exact absurd hp (by rw [I.proms]; exact jct (List.mem_of_getElem? hx) rfl)
   | wait => exact absurd hp (by rw [I.proms]; exact jct (List.mem_of_getElem? hx) rfl)
  ·exact ⟨rfl, (I.slot j x hx).2⟩
 have hhc : ((cur kp0 w0 W).shared W.heap.size c').hide c' := .inr rfl;have hsz : ((gs.setIfInBounds 0 g').push ch).size = gs.size + 1 := by simp
 have hn : gs.size = sl.length + 1 := I.size;refine ⟨by rw [hsz, hn]; simp, ?_, hrun, by rw [jby]; exact kap _ _, fun j x hx => ?_, ?_, fun _ => ⟨?_, hhc⟩, fun h => absurd rfl h, ?_, ?_⟩
 ·rw [Array.getElem?_push, if_neg (by simp; omega), Array.getElem?_setIfInBounds_self_of_lt h0]; rfl
 ·rcases Nat.lt_or_ge j sl.length with hl | hl
  ·rw [List.getElem?_append_left hl] at hx;have := I.slot j x hx;refine ⟨?_, (hold j x hx).2⟩;rw [(hold j x hx).1, Array.getElem?_push, if_neg (by simp; omega), Array.getElem?_setIfInBounds_ne (by omega)];exact this.1
  ·rw [List.getElem?_append_right hl] at hx;have hj0 : j - sl.length = 0 := by
    rcases Nat.eq_zero_or_pos (j - sl.length) with e | e
    ·exact e
    ·rw [List.getElem?_eq_none (by simp; omega)] at hx; cases hx
   rw [hj0] at hx;simp only [List.getElem?_cons_zero, Option.some.injEq] at hx;subst hx;have : j = sl.length := by omega
   subst this;refine ⟨?_, hj, ?_, hhc⟩
   ·rw [Array.getElem?_push, if_pos (by simp; omega)]; rfl
   ·rw [jby]; exact kap _ _
 ·rw [I.proms]; simp [List.filterMap_append, List.filterMap_cons, WSt.prom?]
 ·rcases hc' with ⟨_, _, h⟩ | ⟨h, rfl⟩
  ·exact ⟨0, h⟩
  ·exact (I.chan h).1
 ·rw [hsz];refine jfd (fun op hop => Nat.lt_succ_of_lt (I.gnum op hop)) fun op hop => ?_;simp at hop;rcases hop with rfl | rfl
  ·show 0 < gs.size + 1; omega
  ·show gs.size < gs.size + 1; omega
 ·refine I.trace.spawn (kp := cur kp0 w0 W) rfl (n := gs.size) (by omega) ?_ (fun op hop e => by have := I.gnum op hop; omega) hlt fun k => ?_
  ·rw [hn]; simp [permOf]
  ·cases k with
   | zero => simp only [permOf, true_or, if_true, jby]
   | succ j =>
    by_cases e : j = sl.length
    ·subst e;rw [if_pos (.inr hn.symm)];simp [permOf, WSt.perm, jby]
    ·rw [if_neg (by omega)];simp only [permOf];rcases Nat.lt_or_ge j sl.length with hl | hl
     ·rw [List.getElem?_append_left hl]
     ·rw [List.getElem?_append_right hl, List.getElem?_eq_none hl];rw [List.getElem?_eq_none (by simp; omega)]
end
end Go.Ae
namespace Go.Ae
variable {C : Ctx} {h h' h0 : Heap} {v vp : AV} {w : World} {env : Env} {kp : Keep} {m sz c u g : Nat} {d a : Int} {cs vs args : List AV} {ts : List Int} {P : Program}
open Go.Conc
def Ends (P : Program) (Fin : Value -> World -> Prop) (m : Machine) (t : Trace) : Prop :=
 ∃ N last o w' t', runNT P (N + 1) m t = (.ended o w', t') /\ runN P N m = .next last /\ step P last = .ended o w' /\ Conc.Good P Fin last o w' t'
theorem kaK {Fin : Value -> World -> Prop} {m m' : Machine} {t : Trace} {ops : Array MemOp} (h : stepT P m = (.next m', ops)) (k : Ends P Fin m' (t ++ ops)) : Ends P Fin m t := by
 obtain ⟨N, last, o, w', t', h1, h2, h3, h4⟩ := k;exact ⟨N + 1, last, o, w', t', by rw [runNT_succ_next h]; exact h1, by rw [runN_succ_next h]; exact h2, h3, h4⟩
section
variable {P : Program} {Fin : Value -> World -> Prop} {c : Nat} {ps : List Prom} {kp0 : Keep} {g0 : Goroutine} {w0 : World} {pk : Option Value} {sl : List WSt} {gs : Array Goroutine} {W : World} {t : Trace}
def Meets (P : Program) (Fin : Value -> World -> Prop) (c : Nat) (ps : List Prom) (kp0 : Keep) (g0 : Goroutine) (w0 : World) : Prop :=
 ∀ A Φ B v T kp1 w1 s r, ps = A ++ Φ :: B -> Rely kp0 w0 kp1 w1 -> Φ v w1 T -> (∀ r, T r -> r < w1.heap.size /\ kp1.hide r /\ r ≠ c) ->
  ∀ sl gs slc t, CInv P c (A ++ B) (kp1.take T (A ++ B = [])) (Conc.served g0 v) (w1.setChan c 0 #[] false s r false) none sl gs (w1.setChan c 0 #[] false s r false) t -> Ends P Fin (crowd gs (w1.setChan c 0 #[] false s r false) slc) t
theorem jfP {i k : Nat} {y : Goroutine} (h : (gs.setIfInBounds i ph)[k]? = some y) : y = ph \/ (k ≠ i /\ gs[k]? = some y) := by
 rcases getElem?_stand gs i k y h with ⟨_, e⟩ | h
 ·exact .inl e
 ·exact .inr h
theorem CInv.noRecv (I : CInv P c ps kp0 g0 w0 none sl gs W t) (i : Nat) : partners (gs.setIfInBounds i ph) c false = [] := by
 refine partners_nil fun k y hy => ?_;rcases jfP hy with rfl | ⟨_, hy⟩
 ·exact offersAt_ph _ _
 ·rcases I.get hy with ⟨_, e⟩ | ⟨j, x, _, _, e, hx⟩
  ·rw [e]; exact offersAt_of_not_blocked (by simp [rec0, I.run0]) _ _
  ·rw [e];cases x with
   | busy => exact offersAt_of_not_blocked (by simp [WSt.gor, hx.1.running]) _ _
   | gone n g => exact offersAt_of_not_blocked (by show g.status ≠ .blocked; rcases QuitsIn.status hx with h | h <;> rw [h] <;> simp) _ _
   | wait => exact offersAt_parked_send' _ _ _ _ _ _
theorem jln {gs : Array Goroutine} {i j : Nat} {x y : Goroutine} {k : Nat} {z : Goroutine} (hz : gs[k]? = some z) (hi : k ≠ i) (hj : k ≠ j) : ((gs.setIfInBounds j y).setIfInBounds i x)[k]? = some z := by
 rw [Array.getElem?_setIfInBounds_ne (Ne.symm hi), Array.getElem?_setIfInBounds_ne (Ne.symm hj)]; exact hz
theorem CInv.worker (I : CInv P c ps kp0 g0 w0 pk sl gs W t) {i : Nat} {g : Goroutine} (hi : gs[i]? = some g) (hrun : g.status = .running) (hi0 : i ≠ 0) (slc : Option (Nat × Nat))
  (ih : ∀ sl' gs' W' slc' t', LLt P sl' sl -> CInv P c ps kp0 g0 w0 pk sl' gs' W' t' -> Ends P Fin (crowd gs' W' slc') t') (hm : pk ≠ none -> Meets P Fin c ps kp0 g0 w0) :
  ∃ m' ops, runT P (crowd gs W slc) i = (.next m', ops) /\ Ends P Fin m' (t ++ ops) := by
 rcases I.get hi with ⟨h, _⟩ | ⟨j, x, rfl, hx, rfl, hok⟩
 ·exact absurd h hi0
 obtain ⟨A, B, rfl, rfl⟩ : ∃ A B, sl = A ++ x :: B /\ j = A.length := by
  have hlt := (List.getElem?_eq_some_iff.1 hx).1;refine ⟨sl.take j, sl.drop (j + 1), ?_, by simp; omega⟩;have : x = sl[j] := ((List.getElem?_eq_some_iff.1 hx).2).symm;rw [this]; simp
 have hi1 : (A.length + 1 == 0) = false := by simp
 cases x with
 | wait => simp [WSt.gor, parked] at hrun
 | gone n g =>
  cases n with
  | zero => have h : g.status = .finished := hok; have h2 : g.status = .running := hrun; rw [h] at h2; cases h2
  | succ n =>
   rcases hok with h | ⟨_, g', hst, hq⟩
   ·have h2 : g.status = .running := hrun; rw [h] at h2; cases h2
   ·refine ⟨_, _, runT_crowd_go (P := P) (i := A.length + 1) hi (by rw [hi1]; exact hst W), ?_⟩;exact ih _ _ _ _ _ ⟨A, _, _, B, rfl, rfl, .slip (Nat.lt_succ_self n)⟩ (I.slip hq _ _ _ _)
 | busy Φ kp g w =>
  obtain ⟨hjw, hrel, hkc⟩ := hok;have hps : ps ≠ [] := by rw [I.proms]; exact jct (x := .busy Φ kp g w) (by simp) rfl
  obtain ⟨⟨s, hs⟩, _⟩ := I.chan hps;cases hjw with
  | step hstep hnext =>
   obtain ⟨_, g', w', es, hst, hr', K, hes⟩ := hstep _ _ hrel;refine ⟨_, _, runT_crowd_go (P := P) (i := A.length + 1) hi (by rw [hi1]; exact hst), ?_⟩;exact ih _ _ _ _ _ ⟨A, _, _, B, rfl, rfl, .own hrel hst⟩ (I.ownJ (hnext _ _ _ _ _ hrel hst) K hes _ _ _ _)
  | send v z T n hrn hst hΦ hT hq =>
   have hs1 : stepG P (A.length + 1 == 0) g W = .comm g #[scase c v z] true .send W #[] := by rw [hi1]; exact hst _ _ hrel
   cases pk with
   | none =>
    refine ⟨_, _, crowd_waits hi hs1 (fun cc hcc => ?_), ?_⟩
    ·simp only [List.mem_toArray, List.mem_singleton] at hcc;subst hcc;exact ways_send_none hs (Nat.zero_le _) (I.noRecv _)
    ·have e0 : ∀ fn pos, t ++ MemOp.ofEvents (A.length + 1) fn pos #[] = t := fun fn pos => by simp [MemOp.ofEvents]
     rw [e0];exact ih _ _ _ _ _ ⟨A, _, _, B, rfl, rfl, .wait⟩ (I.park hΦ hT hq)
   | some z0 =>
    have h0 : gs[0]? = some (parked g0 #[rcase c z0] (.recv false)) := I.zero;have hp : partners (gs.setIfInBounds (A.length + 1) ph) c false = [(0, 0)] := by
     have := partners_one (gs := gs.setIfInBounds (A.length + 1) ph) (r := c) (send := false) (j := 0) (g := parked g0 #[rcase c z0] (.recv false)) (by rw [Array.getElem?_setIfInBounds_ne (by omega)]; exact h0) (by
      intro k y hk hy;rcases jfP hy with rfl | ⟨_, hy⟩
      ·exact offersAt_ph _ _
      ·rcases I.get hy with ⟨e, _⟩ | ⟨j, x, _, _, e, hx⟩
       ·exact absurd e hk
       ·rw [e];cases x with
        | busy => exact offersAt_of_not_blocked (by simp [WSt.gor, hx.1.running]) _ _
        | gone n g => exact offersAt_of_not_blocked (by show g.status ≠ .blocked; rcases QuitsIn.status hx with h | h <;> rw [h] <;> simp) _ _
        | wait => exact offersAt_parked_send' _ _ _ _ _ _)
     rw [this, offersAt_parked_recv];simp
    have hsm := crowd_send_meets (P := P) (sl := slc) hi hs1 hs (j := 0) (by omega) h0 hp;have e1 : g0.finishComm P #[rcase c z0] (.recv false) 0 v true = Conc.served g0 v := by rw [finishComm_recv]; rfl
    have e2 : g.finishComm P #[scase c v z] .send 0 undef false = Conc.served g undef := finishComm_send ..;rw [e1, e2] at hsm;refine ⟨_, _, hsm, ?_⟩;have hl0 := (Array.getElem?_eq_some_iff.1 h0).1;have hlj := (Array.getElem?_eq_some_iff.1 hi).1;obtain ⟨PA, PB, e, q1, q2, q3⟩ := I.meet (x := .busy Φ kp g w) (.inl rfl) hΦ hT hq hrel hkc (.inr trivial) W.drawn hs g0.frame.fn g.frame.fn g0.frame.place g.frame.place (gs' := (gs.setIfInBounds 0 (Conc.served g0 v)).setIfInBounds (A.length + 1) (Conc.served g undef))
     (fun k y hy h1 h2 => jln hy h2 h1) (by rw [Array.getElem?_setIfInBounds_ne (by omega), Array.getElem?_setIfInBounds_self_of_lt hl0]) (by rw [Array.getElem?_setIfInBounds_self_of_lt (by simpa using hlj)]) (by simp)
    have eat : W.at W.drawn = W := rfl;rw [eat] at q1 q2 q3;have := hm (by simp) PA Φ PB v T (cur kp0 w0 W) W (s + 1) (s + 1) e I.rely0 q1 q2 _ _ slc _ q3;simpa [MemOp.ofEvents] using this
theorem CInv.recv0 (I : CInv P c ps kp0 g0 w0 none sl gs W t) (hps : ps ≠ []) {z : Value} (hst : stepG P true g0 W = .comm g0 #[rcase c z] true (.recv false) W #[]) (slc : Option (Nat × Nat)) (hm : Meets P Fin c ps kp0 g0 w0)
  (hpark : ∀ gs' slc' t', CInv P c ps kp0 g0 w0 (some z) sl gs' W t' -> Ends P Fin (crowd gs' W slc') t') :
  ∃ m' ops, runT P (crowd gs W slc) 0 = (.next m', ops) /\ Ends P Fin m' (t ++ ops) := by
 obtain ⟨⟨s, hs⟩, _⟩ := I.chan hps;have h0 : gs[0]? = some g0 := I.zero;have hs1 : stepG P (0 == 0) g0 W = .comm g0 #[rcase c z] true (.recv false) W #[] := hst;have hl0 := (Array.getElem?_eq_some_iff.1 h0).1;have key : ∀ (j k : Nat), (j, k) ∈ partners (gs.setIfInBounds 0 ph) c true -> k = 0 /\ j ≠ 0 /\ ∃ A B Φ kp g w v z T n, sl = A ++ .wait Φ kp g w v z T n :: B /\ j = A.length + 1 /\ gs[j]? = some (parked g #[scase c v z] .send) := by
  intro j k hjk;obtain ⟨y, hy, hk⟩ := mem_partners.1 hjk;rcases jfP hy with rfl | ⟨hj0, hy⟩
  ·rw [offersAt_ph] at hk; cases hk
  ·rcases I.get hy with ⟨e, _⟩ | ⟨j, x, rfl, hx, e, hok⟩
   ·exact absurd e hj0
   ·rw [e] at hk;cases x with
    | busy => rw [offersAt_of_not_blocked (by simp [WSt.gor, hok.1.running])] at hk; cases hk
    | gone n g => rw [offersAt_of_not_blocked (by show g.status ≠ .blocked; rcases QuitsIn.status hok with h | h <;> rw [h] <;> simp)] at hk; cases hk
    | wait Φ kp g w v z' T n =>
     have hk' : k ∈ offersAt (parked g #[scase c v z'] .send) c true := hk;rw [offersAt_parked_send, if_pos rfl] at hk';have hlt := (List.getElem?_eq_some_iff.1 hx).1;refine ⟨by simpa using hk', hj0, sl.take j, sl.drop (j + 1), Φ, kp, g, w, v, z', T, n, ?_, by simp; omega, by rw [hy, e]; rfl⟩;have : WSt.wait Φ kp g w v z' T n = sl[j] := ((List.getElem?_eq_some_iff.1 hx).2).symm;rw [this]; simp
 cases hp : partners (gs.setIfInBounds 0 ph) c true with
 | nil =>
  refine ⟨_, _, crowd_waits h0 hs1 (fun cc hcc => ?_), ?_⟩
  ·simp only [List.mem_toArray, List.mem_singleton] at hcc;subst hcc;exact ways_recv_none hs hp
  ·have e0 : ∀ fn pos, t ++ MemOp.ofEvents 0 fn pos #[] = t := fun fn pos => by simp [MemOp.ofEvents]
   rw [e0];refine hpark _ _ _ (I.park0 z hps fun x hx Φ kp g w v z' T n e => ?_);subst e;obtain ⟨j, hj⟩ := List.getElem?_of_mem hx;have hg := (I.slot j _ hj).1;have : (j + 1, 0) ∈ partners (gs.setIfInBounds 0 ph) c true := mem_partners.2 ⟨_, by rw [Array.getElem?_setIfInBounds_ne (by omega)]; exact hg, by
    show (0 : Nat) ∈ offersAt (parked g #[scase c v z'] .send) c true;rw [offersAt_parked_send, if_pos rfl]; simp⟩
   rw [hp] at this; cases this
 | cons p pp =>
  obtain ⟨j, gj, vj, zj, shj, d, hj0, hgj, hr⟩ := crowd_recv_meets_some (P := P) (sl := slc) h0 hs1 hs (by rw [hp]; simp) (fun j k hjk => by
   obtain ⟨a, b, A, B, Φ, kp, g, w, v, z', T, n, _, _, hh⟩ := key j k hjk;exact ⟨a, b, g, v, z', .send, hh⟩)
  -- which slot
  rcases I.get hgj with ⟨e, _⟩ | ⟨m, x, rfl, hx, e, hok⟩
  ·exact absurd e hj0
  have hblk : (x.gor c).status = .blocked := by rw [<- e]; rfl
  cases x with
  | busy => simp [WSt.gor, hok.1.running] at hblk
  | gone n g => rcases QuitsIn.status hok with h | h <;> · have h2 : g.status = .blocked := hblk; rw [h] at h2; cases h2
  | wait Φ kp g w v z' T n =>
   obtain ⟨A, B, rfl, rfl⟩ : ∃ A B, sl = A ++ .wait Φ kp g w v z' T n :: B /\ m = A.length := by
    have hlt := (List.getElem?_eq_some_iff.1 hx).1;refine ⟨sl.take m, sl.drop (m + 1), ?_, by simp; omega⟩;have : WSt.wait Φ kp g w v z' T n = sl[m] := ((List.getElem?_eq_some_iff.1 hx).2).symm;rw [this]; simp
   have e' : parked gj #[scase c vj zj] shj = parked g #[scase c v z'] .send := e;have hoff := congrArg Goroutine.offers e';simp only [parked, scase, Option.some.injEq, Prod.mk.injEq] at hoff;obtain ⟨hcs, rfl⟩ := hoff;have hv : vj = v := by
    have := congrArg (fun a : Array CommCase => a[0]?) hcs;simp at this;exact this.1
   have hz : zj = z' := by
    have := congrArg (fun a : Array CommCase => a[0]?) hcs;simp at this;exact this.2
   subst hv hz;have e1 : gj.finishComm P #[scase c vj zj] .send 0 undef false = Conc.served g undef := by
    rw [finishComm_send];have hf := congrArg Goroutine.frame e';have hc := congrArg Goroutine.callers e';have hd := congrArg Goroutine.dying e';simp only [parked] at hf hc hd;simp only [Conc.served];cases g; cases gj;simp only at hf hc hd |-;subst hf hc hd;rfl
   have e2 : g0.finishComm P #[rcase c z] (.recv false) 0 vj true = Conc.served g0 vj := by rw [finishComm_recv]; rfl
   rw [e1, e2] at hr;refine ⟨_, _, hr, ?_⟩;obtain ⟨hrel, hkc, hΦ, hT, hq⟩ := hok;have hlj := (Array.getElem?_eq_some_iff.1 hgj).1;obtain ⟨PA, PB, ee, q1, q2, q3⟩ := I.meet (.inr ⟨zj, rfl⟩) hΦ hT hq hrel hkc (.inr trivial) d hs g0.frame.fn gj.frame.fn g0.frame.place gj.frame.place (gs' := (gs.setIfInBounds (A.length + 1) (Conc.served g undef)).setIfInBounds 0 (Conc.served g0 vj))
    (fun k y hy h1 h2 => jln hy h1 h2) (by rw [Array.getElem?_setIfInBounds_self_of_lt (by simpa using hl0)]) (by rw [Array.getElem?_setIfInBounds_ne (by omega), Array.getElem?_setIfInBounds_self_of_lt hlj]) (by simp)
   have := hm PA Φ PB vj T (cur kp0 w0 W) (W.at d) (s + 1) (s + 1) ee (I.rely0.at d) q1 q2 _ _ slc _ q3;simpa [MemOp.ofEvents] using this
theorem jno (h : JM P Fin c ps kp0 g0 w0) : ∀ (sl : List WSt) (gs : Array Goroutine) (W : World) (slc : Option (Nat × Nat)) (t : Trace), CInv P c ps kp0 g0 w0 none sl gs W t -> Ends P Fin (crowd gs W slc) t := by
 have body : ∀ {c : Nat} {ps : List Prom} {kp0 : Keep} {g0 : Goroutine} {w0 : World} {pk : Option Value}, (pk ≠ none -> Meets P Fin c ps kp0 g0 w0) ->
   (∀ (sl : List WSt) (gs : Array Goroutine) (W W0 : World) (slc slc0 : Option (Nat × Nat)) (t : Trace), pk = none -> CInv P c ps kp0 g0 w0 pk sl gs W t -> stepT P (crowd gs W0 slc0) = runT P (crowd gs W slc) 0 -> Ends P Fin (crowd gs W0 slc0) t) ->
   ∀ (sl : List WSt) (gs : Array Goroutine) (W : World) (slc : Option (Nat × Nat)) (t : Trace), CInv P c ps kp0 g0 w0 pk sl gs W t -> Ends P Fin (crowd gs W slc) t := by
  intro c ps kp0 g0 w0 pk hm hmain sl;by_cases hacc : _root_.Acc (LLt P) sl
  ·induction hacc with
   | intro sl _ ih =>
    intro gs W slc t I;have hsome : ∃ (i : Nat) (g : Goroutine), gs[i]? = some g /\ g.status = .running := by
     cases hpk : pk with
     | none => exact ⟨0, g0, by have := I.zero; rw [hpk] at this; exact this, I.run0⟩
     | some z =>
      obtain ⟨hne, hno⟩ := I.pkps (by rw [hpk]; simp);rw [I.proms] at hne;obtain ⟨Φ, hΦ⟩ := List.exists_mem_of_ne_nil _ hne;obtain ⟨x, hx, hxp⟩ := List.mem_filterMap.1 hΦ;obtain ⟨j, hj⟩ := List.getElem?_of_mem hx;have := I.slot j x hj;cases x with
      | busy => exact ⟨j + 1, _, this.1, this.2.1.running⟩
      | wait => exact absurd rfl (hno _ hx _ _ _ _ _ _ _ _)
      | gone => cases hxp
    obtain ⟨i, g, d, sl', hi, hg, hst⟩ := crowd_pick (P := P) (w := W) (sl := slc) I.awake hsome;rcases Nat.eq_zero_or_pos i with rfl | hpos
    ·cases hpk : pk with
     | none =>
      subst hpk;exact hmain sl gs (W.at d) W sl' slc t rfl (I.at d) hst
     | some z =>
      have := I.zero;rw [hi, hpk] at this;cases this;simp [rec0, parked] at hg
    ·obtain ⟨m', ops, h1, h2⟩ := (I.at d).worker hi hg (by omega) sl' (fun sl' gs' W' slc' t' hlt I' => ih sl' hlt gs' W' slc' t' I') hm;exact kaK (hst.trans h1) h2
  ·intro gs W slc t I;exact absurd (jji sl fun x hx => by
    obtain ⟨j, hj⟩ := List.getElem?_of_mem hx;exact kbm (I.slot j x hj).2) hacc
 induction h with
 | @step c ps kp0 g0 w0 hstep hnext ih =>
  refine body (fun h => absurd rfl h) fun sl gs W W0 slc slc0 t _ I hst => ?_;obtain ⟨_, g', w', es, hs, hr', K, hes⟩ := hstep _ _ I.rely0;have hz : gs[0]? = some g0 := I.zero;have hr := runT_crowd_go (P := P) (sl := slc) (i := 0) hz (show stepG P (0 == 0) g0 W = _ from hs);exact kaK (hst.trans hr) (ih _ _ _ _ _ I.rely0 hs _ _ _ _ _ (I.own0 hr' K hes _ _ _ _))
 | @spawn c ps kp0 g0 w0 c' Φ hrun hc' hst' hJ hM ih =>
  refine body (fun h => absurd rfl h) fun sl gs W W0 slc slc0 t _ I hst => ?_;obtain ⟨g', ch, hs, hr', hch⟩ := hst' _ _ I.rely0;have hz : gs[0]? = some g0 := I.zero;have hr := runT_crowd_spawn (P := P) (sl := slc) (i := 0) hz (show stepG P (0 == 0) g0 W = _ from hs);refine kaK (hst.trans hr) ?_;have hc2 : (ps = [] /\ ¬ (cur kp0 w0 W).no c' /\ W.heap[c']? = some (.chan 0 #[] false 0 0 false)) \/ (ps ≠ [] /\ c' = c) := by
   rcases hc' with ⟨e, hn, _, hh⟩ | h
   ·have hlt := (Array.getElem?_eq_some_iff.1 hh).1;have hnh : ¬ kp0.hide c' := fun x => by
     have := I.sub0.1 c' (.inl x);rcases this with y | ⟨y, _⟩
     ·exact hn y
     ·omega
    refine .inl ⟨e, ?_, by rw [I.rely0.row c' hlt hnh]; exact hh⟩;rintro (y | ⟨y, _⟩)
    ·exact hn y
    ·omega
   ·exact .inr h
  have := ih _ _ _ _ I.rely0 hs _ _ W slc _ (I.spawn hc2 hr' (hJ _ _ _ _ I.rely0 hs) g0.frame.fn ch.frame.fn g0.frame.place g0.frame.place);simpa [MemOp.ofEvents] using this
 | @recv c ps kp0 g0 w0 z hrun hps hst' hM ih =>
  have hm : Meets P Fin c ps kp0 g0 w0 := fun A Φ B v T kp1 w1 s r e hr hΦ hT sl gs slc t I => ih A Φ B v T kp1 w1 s r e hr hΦ hT sl gs _ slc t I;have parkedRun := body (c := c) (ps := ps) (kp0 := kp0) (g0 := g0) (w0 := w0) (pk := some z) (fun _ => hm) (fun _ _ _ _ _ _ _ h => by cases h);refine body (fun h => absurd rfl h) fun sl gs W W0 slc slc0 t _ I hst => ?_;obtain ⟨m', ops, h1, h2⟩ := I.recv0 hps (hst' _ _ I.rely0) slc hm fun gs' slc' t' I' => parkedRun _ _ _ _ _ I';exact kaK (hst.trans h1) h2
 | @done c kp0 g0 w0 hd =>
  refine body (fun h => absurd rfl h) fun sl gs W W0 slc slc0 t _ I hst => ?_;obtain ⟨_, v, es, hs, hes, hF⟩ := hd _ _ I.rely0;have hz : gs[0]? = some g0 := I.zero;have hr := runT_many_ended (P := P) (sl := slc) (i := 0) hz (show stepG P (0 == 0) g0 W = _ from hs);have hgone : ∀ x ∈ sl, ∃ n g, x = .gone n g := by
   intro x hx;cases x with
   | gone n g => exact ⟨n, g, rfl⟩
   | busy Φ kp g w => exact absurd I.proms.symm (jct hx (Φ := Φ) rfl)
   | wait Φ kp g w v z T n => exact absurd I.proms.symm (jct hx (Φ := Φ) rfl)
  have T1 : TInv (t ++ MemOp.ofEvents 0 g0.frame.fn g0.frame.place es) W.heap.size (permOf kp0 w0 W sl) := by
   refine I.trace.own (g := 0) (kp := cur kp0 w0 W) rfl (Nat.le_refl _) hes fun g' => ?_;cases g' with
   | zero => simp [permOf]
   | succ j =>
    rw [if_neg (by omega)];cases hx : permOf kp0 w0 W sl (j + 1) <;> simp [kaw]
  refine ⟨0, crowd gs W0 slc0, _, _, _, by simp only [runNT, hst, hr], rfl, by simp [step, hst, hr], v, rfl, hF, T1.clean, T1.over ?_, ⟨fun x hx => ?_, rfl⟩, fun i x hx hi => ?_⟩
  ·intro g hg;cases g with
   | zero => exact absurd rfl hg
   | succ j =>
    simp only [permOf];cases hx : sl[j]? with
    | none => rfl
    | some x =>
     obtain ⟨n, g, rfl⟩ := hgone x (List.mem_of_getElem? hx);rfl
  ·obtain ⟨j, hj⟩ := List.mem_iff_getElem?.1 hx;rw [List.getElem?_drop] at hj;have hj' : gs[1 + j]? = some x := by simpa [crowd] using hj
   rcases I.get hj' with ⟨e, _⟩ | ⟨m, y, _, hy, e, hok⟩
   ·omega
   ·obtain ⟨n, g, rfl⟩ := hgone y (List.mem_of_getElem? hy);rw [e];exact ⟨n, QuitsIn.leaves hok⟩
  ·have hx' : gs[i]? = some x := hx;rcases I.get hx' with ⟨e, _⟩ | ⟨m, y, _, hy, e, hok⟩
   ·exact absurd e hi
   ·obtain ⟨n, g, rfl⟩ := hgone y (List.mem_of_getElem? hy);rw [e];refine ⟨n, ?_⟩;rw [T1.words.deaf];exact QuitsD.hears _ (QuitsD.of_quitsIn hok)
theorem jlo (h : JM P Fin c [] ⟨fun _ => False, fun _ => False⟩ g0 w0) : Ends P Fin (crowd #[g0] w0 none) #[] := by
 refine jno h [] #[g0] w0 none #[] ⟨rfl, rfl, h.running, ?_, fun j x hx => (by cases hx), rfl, fun h => absurd rfl h, fun h => absurd rfl h, by simp, ?_⟩
 ·rw [jby]; exact kap _ _
 ·have hn : ∀ i a, touchAt (#[] : Trace) i = some a -> False := fun i a h => by simp [touchAt, Trace.act?] at h
  refine ⟨fun said => ?_, fun g => rfl, fun op hop => by simp at hop, fun i a h => (hn i a h).elim, fun g kp _ i a h => (hn i a h).elim, fun i a op h => (hn i a h).elim, fun g kp hg => ?_, fun g g' k k' hne hg hg' => ?_⟩
  ·rintro ⟨i, j, _, ⟨a, b, ha, _⟩, _⟩; simp [Trace.act?] at ha
  ·cases g with
   | zero =>
    simp only [permOf, jby, Option.some.injEq] at hg;subst hg;exact ⟨fun r hr => hr.elim, fun r hr => hr.elim⟩
   | succ j => simp [permOf] at hg
  ·cases g with
   | zero =>
    cases g' with
    | zero => exact absurd rfl hne
    | succ j => simp [permOf] at hg'
   | succ j => simp [permOf] at hg
end
end Go.Ae
namespace Go.Ae
variable {C : Ctx} {h h' h0 : Heap} {v vp : AV} {w : World} {env : Env} {kp : Keep} {m sz c u g : Nat} {d a : Int} {cs vs args : List AV} {ts : List Int} {P : Program}
open Go.Conc
def Keep.both (kp : Keep) : Keep := ⟨kp.hide, kp.hide⟩
section
variable {P : Program} {kp kp1 kq : Keep} {w w1 w' : World}
theorem kaX : kao.both = kao := rfl
theorem Rely.toBoth (h : Rely kp w kp1 w1) : Rely kp.both w kp1.both w1 := ⟨h.size, h.os, h.tape, h.output, h.row, by rw [h.eq]; rfl⟩
theorem Rely.ofBoth (h : Rely kp.both w kq w1) : Rely kp w (kp.wider w.heap.size w1.heap.size) w1 /\ kq = (kp.wider w.heap.size w1.heap.size).both := ⟨⟨h.size, h.os, h.tape, h.output, h.row, rfl⟩, h.eq⟩
theorem EvIn.toBoth {B : Nat} {e : Event} (h : EvIn kp B e) : EvIn kp.both B e := h.imp (fun ⟨a, b, c, d, _⟩ => ⟨a, b, c, d, fun _ => d⟩) id
theorem KeepW.toBoth (h : KeepW kp w w') : KeepW kp.both w w' := ⟨h.os, h.tape, h.output, h.size, fun r hr => h.block r (.inr (hr.elim id id))⟩
theorem jgq.toBoth {main : Bool} {g : Goroutine} (h : jgq P main kp g w) : jgq P main kp.both g w := by
 obtain ⟨a, g', w', es, b, c, d, e⟩ := h;exact ⟨a, g', w', es, b, c, d.toBoth, fun x hx => (e x hx).toBoth⟩
end
section
variable {P : Program} {Fin : Value -> World -> Prop} {p : Prop} {c : Nat} {ps : List Prom} {Φ : Prom}
theorem JM.idx {g : Goroutine} (h : JM P Fin c ps kp g w) (c' : Nat) (hps : ps = []) : JM P Fin c' ps kp g w := by
 induction h with
 | step a b ih => exact .step a fun kp1 w1 g' w' es r hs => ih _ _ _ _ _ r hs hps
 | spawn c2 Φ hrun hc hs hJ hM => 
  refine .spawn c2 Φ hrun ?_ hs hJ hM;rcases hc with h | ⟨h, _⟩
  ·exact .inl h
  ·exact absurd hps h
 | recv z hrun hne => exact absurd hps hne
 | done h => exact .done h
def MJ0 (P : Program) (Fin : Value -> World -> Prop) (p : Prop) : Keep -> Goroutine -> World -> Prop := fun kp g w => JM P Fin 0 [] kp.both g w \/ p
def MJ (P : Program) (Fin : Value -> World -> Prop) (p : Prop) (c : Nat) (ps : List Prom) : Keep -> Goroutine -> World -> Prop := fun kp g w => JM P Fin c ps kp g w \/ p
theorem jdA : Closed P true (MJ0 P Fin p) := by
 refine ⟨fun {kp g w} hs hn => ?_, fun {kp kp1 g w w1} h r => ?_⟩
 ·by_cases hp : p
  ·exact .inr hp
  refine .inl (.step (fun kq w1 r => ?_) fun kq w1 g' w' es r hst => ?_)
  ·obtain ⟨r1, rfl⟩ := r.ofBoth;exact (hs _ _ r1).toBoth
  ·obtain ⟨r1, rfl⟩ := r.ofBoth;exact (hn _ _ _ _ _ r1 hst).resolve_right hp
 ·exact h.imp (fun h => h.rely r.toBoth) id
theorem jh6 : Closed P true (MJ P Fin p c ps) := by
 refine ⟨fun {kp g w} hs hn => ?_, fun {kp kp1 g w w1} h r => h.imp (fun h => h.rely r) id⟩;by_cases hp : p
 ·exact .inr hp
 exact .inl (.step hs fun kq w1 g' w' es r hst => (hn _ _ _ _ _ r hst).resolve_right hp)
theorem Ends.fin {m : Machine} {t : Trace} (h : Ends P Fin m t) : ∃ v w, Fin v w := by
 obtain ⟨N, last, o, w', t', _, _, _, hG⟩ := h;obtain ⟨v, _, hf, _⟩ := hG;exact ⟨v, w', hf⟩
end
abbrev Phase := Option (Nat × List Prom)
def PJ (P : Program) (Fin : Value -> World -> Prop) (p : Prop) : Phase -> Keep -> Goroutine -> World -> Prop
 | none => MJ0 P Fin p
 | some x => MJ P Fin p x.1 x.2
theorem jb3 {P : Program} {Fin : Value -> World -> Prop} {p : Prop} : ∀ ph : Phase, Closed P true (PJ P Fin p ph)
 | none => jdA
 | some _ => jh6
def Ctx.main0 (C : Ctx) : Ctx := { C with
 main := true
 fam := fun J => ∃ Fin p, J = MJ0 C.P Fin p
 closed := by rintro J ⟨Fin, p, rfl⟩; exact jdA
 ends := fun p => ⟨_, ⟨fun _ _ => p, p, rfl⟩, fun kp g w hp => .inr hp, fun g w h => h.elim (fun h => by
  obtain ⟨_, _, hp⟩ := (jlo (by rw [kaX] at h; exact h)).fin; exact hp) id⟩ }
def Ctx.pend (C : Ctx) (x : Nat × List Prom) : Ctx := { C with
 main := true
 fam := fun J => (∃ Fin p, J = MJ C.P Fin p x.1 x.2) \/ ∃ p : Prop, J = fun _ _ _ => p
 closed := by
  rintro J (⟨Fin, p, rfl⟩ | ⟨p, rfl⟩)
  ·exact jh6
  ·exact kaz _ _ _
 ends := fun p => ⟨_, .inr ⟨p, rfl⟩, fun _ _ _ hp => hp, fun _ _ hp => hp⟩ }
def Ctx.work (C : Ctx) (c : Nat) (Φ : Prom) : Ctx := { C with
 main := false
 fam := fun J => J = JW C.P c Φ \/ ∃ p : Prop, J = fun _ _ _ => p
 closed := by
  rintro J (rfl | ⟨p, rfl⟩)
  ·exact jfm _ _ _
  ·exact kaz _ _ _
 ends := fun p => ⟨_, .inr ⟨p, rfl⟩, fun _ _ _ hp => hp, fun _ _ hp => hp⟩ }
def Ctx.at (C : Ctx) : Phase -> Ctx
 | none => C.main0
 | some x => C.pend x
theorem Ctx.at_fam (C : Ctx) (Fin : Value -> World -> Prop) (p : Prop) : ∀ ph : Phase, (C.at ph).fam (PJ C.P Fin p ph)
 | none => ⟨Fin, p, rfl⟩
 | some _ => .inl ⟨Fin, p, rfl⟩
end Go.Ae
namespace Go.Ae
variable {C : Ctx} {h h' h0 : Heap} {v vp : AV} {w : World} {env : Env} {kp : Keep} {m sz c u g : Nat} {d a : Int} {cs vs args : List AV} {ts : List Int} {P : Program}
open Go.Conc Go.RowKit
theorem ends_of {C : Ctx} {f : FuncId} {g : Nat} (hf : C.lk g = f) {args : List AV} {vals : List Value} {env : Env} {h : Heap} {w : World} (hc : ACalls C.main0 g args h (fun r _ => r = .bool true)) (R : Rel C ⟨fun r => r < w.heap.size, fun _ => False⟩ env h w)
  (hb : ∀ v ∈ args, v.bel h.ok) (hv : args.map (AV.val C.lk env) = vals) (hi : C.P.inits.idxOf? f = none) :
  Ends C.P (fun v w' => v = .bool true /\ Below w.heap.size w w') (crowd #[G (Frame.enter C.P f vals.toArray .normal) []] w none) #[] := by
 subst hf hv;have hk : kao.or ⟨fun r => r < w.heap.size, fun _ => False⟩ = ⟨fun r => r < w.heap.size, fun _ => False⟩ := kaS _;have R' : Rel C.main0 (kao.or ⟨fun r => r < w.heap.size, fun _ => False⟩) env h w := by rw [hk]; exact ⟨R.1, R.2, R.3, R.4, R.5, R.6, R.7, R.8⟩
 have H := hc.2 ⟨fun r => r < w.heap.size, fun _ => False⟩ kao env w R' hb (MJ0 C.P (fun v w' => v = .bool true /\ Below w.heap.size w w') False) ⟨_, _, rfl⟩ [] fun kp' v w' fr hB hl => by
  obtain ⟨env', r, h', rfl, rfl, R1, K, _, _, _⟩ := hB;refine .inl (.done fun kq w1 rq => ?_);obtain ⟨rq1, rfl⟩ := rq.ofBoth;obtain ⟨fn, hfn, hres⟩ := hl.res;obtain ⟨hr1, hr2⟩ := hres _ _ rq1;refine ⟨rfl, _, _, jmU hl.mode hl.kind hl.defers (by rw [hl.fn]; exact hfn) hr1 (by rw [hl.fn]; exact hi), fun e he => (hr2 e (mem_seen he)).toBoth, rfl, ?_⟩;have K2 := K.trans (rq1.keepJ _);exact ⟨K2.os, K2.tape, K2.output, K2.size, fun k hk => K2.block k hk hk fun x => x.elim⟩
 exact jlo (H.resolve_right id)
end Go.Ae
namespace Go.Ae
variable {C : Ctx} {h h' h0 : Heap} {v vp : AV} {w : World} {env : Env} {kp : Keep} {m sz c u g : Nat} {d a : Int} {cs vs args : List AV} {ts : List Int} {P : Program}
def wpPreX := PLift.up <| zI @wp_seq <| zI @wp_region <| zI @wp_draw <| zI @wp_cond <| zI @wp_block <| zI @wp_skip <| zI @wp_exit <| zI @wp_ret <| zI @wp_range <| zI @thenO_normal <| zI @thenO_exit <| zI @thenO_ret <| zI @blockO_same <| zI @blockO_other <| zI @blockO_normal <| zI @blockO_ret <| zI @wpOps_nil <| zI @wpOps_cons <| zI @wpOps_guard <| zI @wpOp_call <| zI @wpOp_op <| zI @put_some <| zI @put_none <| zI @wpDraw_zero <| zI @wpDraw_some <| zI @retO_marks <| zI @retO_marksN <| zI @beginO_normal <| zI @roundO_normal <| zI @roundO_exit <| zI @roundO_ret <| zI @wpD_nil <| zI @wpD_guard <| zI @wpD_op <| zI @wpD_opM <| @jmj
theorem wpPre : type_of% wpPreX.1 := wpPreX.1
def wpPostX := PLift.up <| zI @app_known <| zI @appKB_grow <| zI @appKB_room <| zI @app_unk <| zI @appUB_grow <| zI @app_nil <| zI @app_nil0 <| zI @appA_some <| zI @atDefd_some <| zI @retO_ret <| zI @retO_normal <| zI @chkP_nil <| zI @chkP_none <| zI @chkP_skip <| zI @chkP_take <| zI @chkS_nil <| zI @chkS_none <| zI @chkS_skip <| zI @chkS_take <| zI @noneIn_nil <| zI @noneIn_none <| zI @noneIn_cons <| zI @ids_ptr <| zI @ids_slice <| zI @ids_nil <| zI @ids_int <| zI @ids_bool <| zI @ids_agg <| zI @rids_known <| zI @rids_unk <| zI @rids_nil <| zI @foot_blind <| zI @wr_blind <| zI @foot_load <| zI @wr_load <| zI @foot_store <| zI @wr_store <| zI @foot_slice <| zI @wr_slice <| zI @foot_append <| zI @wr_append <| zI @foot_alloc <| zI @wr_alloc <| zI @foot_box <| zI @wr_box <| zI @foot_build <| zI @wr_build <| zI @foot_make <| zI @wr_make <| zI @foot_copy <| zI @wr_copy <| zI @false_implies <| zI @true_and <| zI @and_true <| zI @resA_nil <| zI @resA_tmp <| zI @resA_cell <| zI @retA_zero <| zI @retA_one <| zI @retA_two <| zI @retA_three <| zI @retA_four <| zI @ev_tmp <| zI @ev_const <| zI @evs_nil <| zI @evs_cons <| zI @upd_same <| zI @upd_ne <| zI @argT_app <| zI @condV_true <| zI @condV_false <| zI @condV_dec <| zI @condV_var <| zI @Br_not <| zI @Br_pos <| zI @Br_neg <| zI @gV_tt <| zI @gV_tf <| zI @gV_ft <| zI @gV_ff <| zI @gV_dt <| zI @gV_df <| zI @gV_vt <| zI @gV_vf <| zI @Call_func <| zI @Call_clo <| zI @Call_yield <| zI @opt1_some <| zI @opt2_some <| zI @opR_mv <| zI @opR_pick <| zI @opR_build <| zI @opR_load <| zI @opR_nilCheck <| zI @opR_bin <| zI @opR_eqb <| zI @opR_eqn <| zI @opR_eqs <| zI @opR_un <| zI @opR_conv <| zI @opR_mkfunc <| zI @opR_slice <| zI @opR_fieldAddr <| zI @opR_field <| zI @opR_indexAddr <| zI @opR_indexArr <| zI @opR_index <| zI @opR_extract <| zI @opR_len <| zI @opR_cap <| zI @opR_max <| zI @opR_min <| zI @opR_alloc <| zI @opR_box <| zI @opR_buildSlice <| zI @opR_store <| zI @opR_makeSlice <| zI @opR_append <| zI @opR_copy <| zI @bin_add <| zI @bin_sub <| zI @bin_mul <| zI @bin_quo <| zI @bin_rem <| zI @bin_and <| zI @bin_or <| zI @bin_xor <| zI @bin_andNot <| zI @bin_eql <| zI @bin_neq <| zI @bin_lss <| zI @bin_leq <| zI @bin_gtr <| zI @bin_geq <| zI @bin_shl <| zI @bin_shr <| zI @bits_and1 <| zI @un_neg <| zI @un_not <| zI @un_xor <| zI @conv_int <| zI @eqb_ff <| zI @eqb_tt <| zI @pick_tt <| zI @pick_ff <| zI @pick_dt <| zI @pick_df <| zI @pick_vt <| zI @pick_vf <| zI @ext_tuple <| zI @max_two <| zI @max_three <| zI @min_two <| zI @min_three <| zI @w_i64 <| zI @w_i32 <| zI @w_u8 <| zI @w_u32 <| zI @w_u64 <| zI @tdiv_nn <| zI @tmod_nn <| zI @fdiv_nn <| zI @bits_i64 <| zI @bits_u64 <| zI @bits_u32 <| zI @bits_i32 <| zI @bits_u8 <| zI @min_shift <| zI @get_push_eq <| zI @get_push_lt <| zI @get_put_eq <| zI @get_put_ne <| zI @put_put <| zI @push_put <| zI @push_put_lt <| zI @Heap.size_push <| zI @Heap.size_put <| zI @Heap.size_reserve <| zI @Heap.get_reserve <| zI @load_ptr <| zI @loadB_one <| zI @loadB_agg <| zI @store_ptr <| zI @storeB_int <| zI @storeB_bool <| zI @storeB_slice <| zI @storeB_nil <| zI @storeB_agg <| zI @storeB_var <| zI @splice_one <| zI @splice_two <| zI @cut_nil <| zI @cut_cons <| zI @cut_succ <| zI @fill_nil <| zI @fill_int <| zI @fill_bool <| zI @fill_ptr <| zI @fill_slice <| zI @fill_nilslice <| zI @fill_func <| zI @fill_agg <| zI @fill_one <| zI @storeO_some <| zI @alloc_none <| zI @alloc_some <| zI @kept_none <| zI @buildS_none <| zI @buildS_some <| zI @make_none <| zI @make_some <| zI @idx_slice <| zI @idxArr_ptr <| zI @fieldAddr_ptr <| zI @field_agg <| zI @part_one <| zI @part_agg <| zI @len_slice <| zI @len_nil <| zI @cells_int <| zI @cells_bool <| zI @cells_agg <| zI @cells_slice <| zI @cells_nil <| zI @cells_ptr <| zI @cells_func <| zI @cells_yield <| zI @ints_length <| zI @ints_get <| zI @ints_set <| zI @ints_snoc <| zI @elA_slice <| zI @zeros_one <| zI @atLoop_some <| zI @setParams_nil <| zI @setParams_cons <| zI @Nat.min_eq_left <| zI @Int.toNat_natCast <| zI @Nat.zero_add <| zI @Nat.add_zero <| zI @Nat.mul_one <| zI @Nat.zero_mul <| zI @decide_true <| zI @decide_false <| zI @Bool.not_true <| zI @Bool.not_false <| zI @decide_eq_true_eq <| @AV.int.injEq
theorem jb7 : type_of% wpPostX.1 := wpPostX.1
theorem jb8 :
  (∀ {α : Type} {l : List α}, l ++ [] = l) /\
  (∀ {α : Type} {a : α} {l m : List α}, (a :: l) ++ m = a :: (l ++ m)) /\
  (∀ {α : Type} {a : α} {l : List α} {i : Nat}, (a :: l).drop (i + 1) = l.drop i) /\
  (∀ {α : Type} {l : List α}, l.drop 0 = l) /\
  (∀ {α : Type} {p : α -> Prop} {a : α} {l : List α}, (∀ x ∈ a :: l, p x) = (p a /\ ∀ x ∈ l, p x)) /\
  (∀ {α : Type} {a d : α} {l : List α} {i : Nat}, (a :: l).getD (i + 1) d = l.getD i d) /\
  (∀ {α : Type} {a d : α} {l : List α}, (a :: l).getD 0 d = a) /\
  (∀ {α : Type} {d : α} {i : Nat}, ([] : List α).getD i d = d) /\
  (∀ {α : Type} {a : α} {l : List α} {i : Nat}, (a :: l)[i + 1]? = l[i]?) /\
  (∀ {α : Type} {a : α} {l : List α}, (a :: l)[0]? = some a) /\
  (∀ {α : Type} {a : α} {l : List α}, (a :: l).length = l.length + 1) /\
  (∀ {α : Type}, ([] : List α).length = 0) /\
  (∀ {α β : Type} {f : α -> β} {a : α} {l : List α}, (a :: l).map f = f a :: l.map f) /\
  (∀ {α β : Type} {f : α -> β}, ([] : List α).map f = []) /\
  (∀ {α : Type} {l : List α}, [] ++ l = l) /\
  (∀ {α : Type} {a : α}, (a ∈ ([] : List α)) = False) /\
  (∀ {α : Type} {a b : α} {l : List α} {i : Nat}, (a :: l).set (i + 1) b = a :: l.set i b) /\
  (∀ {α : Type} {a b : α} {l : List α}, (a :: l).set 0 b = b :: l) /\
  (∀ {α : Type} {a : α} {l : List α} {i : Nat}, (a :: l).take (i + 1) = a :: l.take i) /\
  (∀ {α : Type} {l : List α}, l.take 0 = []) /\
  (∀ {α β : Type} {f : α -> β}, (none : Option α).map f = none) /\
  (∀ {α β : Type} {f : α -> β} {a : α}, (some a).map f = some (f a)) /\
  (∀ {α : Type} {a : α}, (a = a) = True) /\
  (∀ {α : Type} {p : α -> Prop} {b : α}, (∃ a, a = b /\ p a) = p b) /\
  (∀ {α : Type} {p : α -> Prop} {b : α}, (∃ a, b = a /\ p a) = p b) /\
  (∀ {α : Type}, (α -> True) = True) /\
  (∀ {α : Prop}, (α -> True) = True) /\
  (∀ {α : Type} {a b : α}, (a ≠ b) = ¬ a = b) := by
 refine ⟨?_, ?_, ?_, ?_, ?_, ?_, ?_, ?_, ?_, ?_, ?_, ?_, ?_, ?_, ?_, ?_, ?_, ?_, ?_, ?_, ?_, ?_, ?_, ?_, ?_, ?_, ?_, ?_⟩ <;> intros <;> simp
theorem wpD1 :
  (∀ {h : Heap} {b : ABlk}, (h.push b).size = h.size + 1) /\
  (∀ {h : Heap} {i : Nat} {b : ABlk}, (h.put i b).size = h.size) /\
  (∀ {h : Heap} {k : Nat}, (h.reserve k).size = h.size + k) /\
  (∀ {l : List Int}, (ints l).length = l.length) /\
  (∀ {x y : Nat}, (x ∈ [y]) = (x = y)) /\
  (∀ {α : Type} {a : α} {l : List α}, (a :: l).length = l.length + 1) /\
  (∀ {α : Type}, ([] : List α).length = 0) /\
  (∀ {α : Type} {n : Nat} {a : α}, (List.replicate n a).length = n) /\
  (∀ {α : Type} {l : List α} {i : Nat} {a : α}, (l.set i a).length = l.length) :=
 ⟨rfl, rfl, rfl, ints_length, by simp, List.length_cons, List.length_nil, List.length_replicate, List.length_set⟩
theorem wpD2 :
  (∀ {k : IntKind} {n : Int}, (AV.int k n).one = true) /\ (∀ {b : Bool}, (AV.bool b).one = true) /\ (∀ {i o : Nat}, (AV.ptr i o).one = true) /\ (∀ {i o n : Nat} {c : Cap}, (AV.slice i o n c).one = true) /\ AV.nilslice.one = true /\
  (∀ {g : Nat} {f c : List AV}, (AV.func g f c).one = true) /\
  (∀ {α : Type} {p : α -> Bool} {a : α} {l : List α}, (a :: l).all p = (p a && l.all p)) /\ (∀ {α : Type} {p : α -> Bool}, ([] : List α).all p = true) /\
  (∀ {a b : Bool}, ((a && b) = true) = (a = true /\ b = true)) /\ (∀ {p : Prop}, (p /\ p) = p) /\ (∀ {p : Prop}, (True /\ p) = p) /\ (∀ {p : Prop}, (p /\ True) = p) /\ ((true = true) = True) := by
 refine ⟨?_, ?_, ?_, ?_, ?_, ?_, ?_, ?_, ?_, ?_, ?_, ?_, ?_⟩ <;> intros <;> first | rfl | simp
theorem zd {P : Prop} (h : P := by first | assumption | decide | omega | (simp only [wpD1] <;> omega) | (simp only [wpD2] <;> assumption) | solve_by_elim [zR, zP, zV] | fail) : P := h
theorem zs {P Q : Prop} (h : Q) (e : P = Q := by simp -implicitDefEqProofs (disch := first | exact zd | fail) only [↓wpPre, jb7, jb8, Int.reduceToNat, Int.reducePow, Int.reduceMul, Int.reduceAdd, Int.reduceSub, Int.reduceNeg, Nat.reduceAdd, Nat.reduceMul, Nat.reducePow, Int.reduceLT, Int.reduceLE, Int.reduceEq, Nat.reduceEqDiff]; rfl) : P := e ▸ h
theorem ze {P : Prop} (h : P := by simp -implicitDefEqProofs (disch := first | exact zd | fail) only [↓wpPre, jb7, jb8, Int.reduceToNat, Int.reducePow, Int.reduceMul, Int.reduceAdd, Int.reduceSub, Int.reduceNeg, Nat.reduceAdd, Nat.reduceMul, Nat.reducePow, Int.reduceLT, Int.reduceLE, Int.reduceEq, Nat.reduceEqDiff]) : P := h
theorem zs1 {P Q A1 : Prop} (a : A1) (hh : Q) (ee : A1 -> P = Q := by intro ya; simp -implicitDefEqProofs (disch := first | exact zd | fail) only [↓wpPre, jb7, jb8, Int.reduceToNat, Int.reducePow, Int.reduceMul, Int.reduceAdd, Int.reduceSub, Int.reduceNeg, Nat.reduceAdd, Nat.reduceMul, Nat.reducePow, Int.reduceLT, Int.reduceLE, Int.reduceEq, Nat.reduceEqDiff, ya]; rfl) : P := ee a ▸ hh
theorem ze1 {P A1 : Prop} (a : A1) (ee : A1 -> P := by intro ya; simp -implicitDefEqProofs (disch := first | exact zd | fail) only [↓wpPre, jb7, jb8, Int.reduceToNat, Int.reducePow, Int.reduceMul, Int.reduceAdd, Int.reduceSub, Int.reduceNeg, Nat.reduceAdd, Nat.reduceMul, Nat.reducePow, Int.reduceLT, Int.reduceLE, Int.reduceEq, Nat.reduceEqDiff, ya]) : P := ee a
theorem zs2 {P Q A1 B1 : Prop} (a : A1) (b : B1) (hh : Q) (ee : A1 -> B1 -> P = Q := by intro ya yb; simp -implicitDefEqProofs (disch := first | exact zd | fail) only [↓wpPre, jb7, jb8, Int.reduceToNat, Int.reducePow, Int.reduceMul, Int.reduceAdd, Int.reduceSub, Int.reduceNeg, Nat.reduceAdd, Nat.reduceMul, Nat.reducePow, Int.reduceLT, Int.reduceLE, Int.reduceEq, Nat.reduceEqDiff, ya, yb]; rfl) : P := ee a b ▸ hh
theorem ze2 {P A1 B1 : Prop} (a : A1) (b : B1) (ee : A1 -> B1 -> P := by intro ya yb; simp -implicitDefEqProofs (disch := first | exact zd | fail) only [↓wpPre, jb7, jb8, Int.reduceToNat, Int.reducePow, Int.reduceMul, Int.reduceAdd, Int.reduceSub, Int.reduceNeg, Nat.reduceAdd, Nat.reduceMul, Nat.reducePow, Int.reduceLT, Int.reduceLE, Int.reduceEq, Nat.reduceEqDiff, ya, yb]) : P := ee a b
theorem zs3 {P Q A1 B1 C1 : Prop} (a : A1) (b : B1) (c : C1) (hh : Q) (ee : A1 -> B1 -> C1 -> P = Q := by intro ya yb yc; simp -implicitDefEqProofs (disch := first | exact zd | fail) only [↓wpPre, jb7, jb8, Int.reduceToNat, Int.reducePow, Int.reduceMul, Int.reduceAdd, Int.reduceSub, Int.reduceNeg, Nat.reduceAdd, Nat.reduceMul, Nat.reducePow, Int.reduceLT, Int.reduceLE, Int.reduceEq, Nat.reduceEqDiff, ya, yb, yc]; rfl) : P := ee a b c ▸ hh
theorem zs4 {P Q A1 B1 C1 D1 : Prop} (a : A1) (b : B1) (c : C1) (d : D1) (hh : Q) (ee : A1 -> B1 -> C1 -> D1 -> P = Q := by intro ya yb yc yd; simp -implicitDefEqProofs (disch := first | exact zd | fail) only [↓wpPre, jb7, jb8, Int.reduceToNat, Int.reducePow, Int.reduceMul, Int.reduceAdd, Int.reduceSub, Int.reduceNeg, Nat.reduceAdd, Nat.reduceMul, Nat.reducePow, Int.reduceLT, Int.reduceLE, Int.reduceEq, Nat.reduceEqDiff, ya, yb, yc, yd]; rfl) : P := ee a b c d ▸ hh
theorem zs5 {P Q A1 B1 C1 D1 E1 : Prop} (a : A1) (b : B1) (c : C1) (d : D1) (e : E1) (hh : Q) (ee : A1 -> B1 -> C1 -> D1 -> E1 -> P = Q := by intro ya yb yc yd ye; simp -implicitDefEqProofs (disch := first | exact zd | fail) only [↓wpPre, jb7, jb8, Int.reduceToNat, Int.reducePow, Int.reduceMul, Int.reduceAdd, Int.reduceSub, Int.reduceNeg, Nat.reduceAdd, Nat.reduceMul, Nat.reducePow, Int.reduceLT, Int.reduceLE, Int.reduceEq, Nat.reduceEqDiff, ya, yb, yc, yd, ye]; rfl) : P := ee a b c d e ▸ hh
theorem zs6 {P Q A1 B1 C1 D1 E1 F1 : Prop} (a : A1) (b : B1) (c : C1) (d : D1) (e : E1) (f : F1) (hh : Q) (ee : A1 -> B1 -> C1 -> D1 -> E1 -> F1 -> P = Q := by intro ya yb yc yd ye yf; simp -implicitDefEqProofs (disch := first | exact zd | fail) only [↓wpPre, jb7, jb8, Int.reduceToNat, Int.reducePow, Int.reduceMul, Int.reduceAdd, Int.reduceSub, Int.reduceNeg, Nat.reduceAdd, Nat.reduceMul, Nat.reducePow, Int.reduceLT, Int.reduceLE, Int.reduceEq, Nat.reduceEqDiff, ya, yb, yc, yd, ye, yf]; rfl) : P := ee a b c d e f ▸ hh
theorem zs7 {P Q A1 B1 C1 D1 E1 F1 G1 : Prop} (a : A1) (b : B1) (c : C1) (d : D1) (e : E1) (f : F1) (g : G1) (hh : Q) (ee : A1 -> B1 -> C1 -> D1 -> E1 -> F1 -> G1 -> P = Q := by intro ya yb yc yd ye yf yg; simp -implicitDefEqProofs (disch := first | exact zd | fail) only [↓wpPre, jb7, jb8, Int.reduceToNat, Int.reducePow, Int.reduceMul, Int.reduceAdd, Int.reduceSub, Int.reduceNeg, Nat.reduceAdd, Nat.reduceMul, Nat.reducePow, Int.reduceLT, Int.reduceLE, Int.reduceEq, Nat.reduceEqDiff, ya, yb, yc, yd, ye, yf, yg]; rfl) : P := ee a b c d e f g ▸ hh
theorem ze7 {P A1 B1 C1 D1 E1 F1 G1 : Prop} (a : A1) (b : B1) (c : C1) (d : D1) (e : E1) (f : F1) (g : G1) (ee : A1 -> B1 -> C1 -> D1 -> E1 -> F1 -> G1 -> P := by intro ya yb yc yd ye yf yg; simp -implicitDefEqProofs (disch := first | exact zd | fail) only [↓wpPre, jb7, jb8, Int.reduceToNat, Int.reducePow, Int.reduceMul, Int.reduceAdd, Int.reduceSub, Int.reduceNeg, Nat.reduceAdd, Nat.reduceMul, Nat.reducePow, Int.reduceLT, Int.reduceLE, Int.reduceEq, Nat.reduceEqDiff, ya, yb, yc, yd, ye, yf, yg]) : P := ee a b c d e f g
theorem zh {h1 h2 h3 : Heap} (x : HSub h1 h2) (e : HSub h1 h2 -> HSub h h3 := by intro zx; repeat (first | exact zx | refine HSub.put ?_ (by (try simp only [Heap.size_put, Heap.size_push, Heap.size_reserve]); omega) _ | refine HSub.push ?_ _ | refine HSub.reserve ?_ _)) : HSub h h3 := e x
theorem zr {h3 : Heap} (e : HSub h h -> HSub h h3 := by intro zx; repeat (first | exact zx | refine HSub.put ?_ (by (try simp only [Heap.size_put, Heap.size_push, Heap.size_reserve]); omega) _ | refine HSub.push ?_ _ | refine HSub.reserve ?_ _)) : HSub h h3 := e (kak h)
theorem jkf (a b m : Int) : (a + b % m) % m = (a + b) % m := by rw [Int.add_emod, Int.emod_emod, <- Int.add_emod]
theorem jaN {l : List Int} {i : Nat} (h : i < l.length) : l.take (i + 1) = l.take i ++ [l.getD i 0] := by
 rw [List.take_add_one]; simp [h]
theorem jdB {l : List Int} {i : Nat} (h : i < l.length) : l.getD i 0 ∈ l := by
 have : l.getD i 0 = l[i] := by simp [h]
 rw [this]; exact List.getElem_mem h
def In64 (x : Int) : Prop := -9223372036854775808 <= x /\ x <= 9223372036854775807
def tup2 (a b : Int) : AV := .tuple [.int .i64 a, .int .i64 b]
def jau (v : AV) (e : Int) : AV := .tuple [v, .int .i64 e]
theorem kaf {r r' : AV} {K : AV -> Heap -> Prop} (hc : ACalls C g args h fun x h'' => x = r /\ h'' = h') (e : r = r') (hk : K r' h') : @jaa C g args h ⟨K⟩ := kaa (e ▸ hc) hk
def Fresh (h h' : Heap) (v : AV) (l : List Int) : Prop :=
 HSub h h' /\ l.length < 9223372036854775808 /\ ∃ i, h.size <= i /\ v = .slice i 0 l.length (.known l.length) /\ h'.get i = some (.cells (ints l) true 0)
theorem Fresh.ri {l : List Int} (H : Fresh h h' v l) : RI h' v l := by
 obtain ⟨hs, hl, i, hi, rfl, hg⟩ := H;exact kal hg ⟨rfl, hl⟩ (Nat.le_refl _)
theorem Fresh.sub {l : List Int} (H : Fresh h h' v l) : HSub h h' := H.1
theorem Fresh.mono {l : List Int} (H : Fresh h h' v l) (hs : HSub h0 h) : Fresh h0 h' v l := by
 obtain ⟨hs', hl, i, hi, r⟩ := H;exact ⟨hs.trans hs', hl, i, Nat.le_trans hs.size hi, r⟩
def jb4 (f : Int -> Int) (l : List Int) (i : Nat) : List Int := (l.take i).map f ++ l.drop i
theorem jdX (f : Int -> Int) (l : List Int) : jb4 f l 0 = l := by simp [jb4]
theorem jdY (f : Int -> Int) (l : List Int) : jb4 f l l.length = l.map f := by simp [jb4]
theorem jc6 (f : Int -> Int) (l : List Int) (i : Nat) : (jb4 f l i).length = l.length := by simp [jb4]; omega
theorem jeJ (f : Int -> Int) {l : List Int} {i : Nat} (h : i < l.length) : (jb4 f l i).getD i 0 = l.getD i 0 := by
 simp only [jb4, List.getD_eq_getElem?_getD];rw [List.getElem?_append_right (by simp; omega)];simp [Nat.min_eq_left (Nat.le_of_lt h)]
theorem jeK (f : Int -> Int) {l : List Int} {i : Nat} (h : i < l.length) : (jb4 f l i).set i (f (l.getD i 0)) = jb4 f l (i + 1) := by
 unfold jb4;have hl : ((l.take i).map f).length = i := by simp; omega
 rw [List.set_append_right _ _ (by omega), hl, Nat.sub_self, jaN h, List.map_append, List.append_assoc];congr 1;have : l.drop i = l.getD i 0 :: l.drop (i + 1) := by
  rw [List.drop_eq_getElem_cons h]; simp [h]
 rw [this]; rfl
def Asks (C : Ctx) (f : AV) (p : Int -> Bool) (l : List Int) (h : Heap) : Prop :=
 ∃ g c, f = .func g [] c /\ ∀ x ∈ l, ACalls C g ([] ++ [.int .i64 x] ++ c) h (fun r h' => r = .bool (p x) /\ h' = h)
def idxI (p : Int -> Bool) (l : List Int) : Int := if l.any p then l.findIdx p else -1
theorem jej {p : Int -> Bool} {l : List Int} {i : Nat} (hi : i < l.length) (h : (l.take i).any p = false) (hp : p (l.getD i 0) = false) : (l.take (i + 1)).any p = false := by
 rw [jaN hi, List.any_append, h]; simpa using hp
theorem jgG {p : Int -> Bool} {l : List Int} {i : Nat} (hi : i < l.length) (h : (l.take i).any p = false) (hp : p (l.getD i 0) = true) : l.any p = true /\ l.findIdx p = i := by
 have e : l.getD i 0 = l[i] := by simp [hi]
 refine ⟨List.any_eq_true.2 ⟨l.getD i 0, jdB hi, hp⟩, ?_⟩;rw [List.findIdx_eq hi];refine ⟨by rw [<- e]; exact hp, fun j hj => ?_⟩;have := List.any_eq_false.1 h (l[j]) (by rw [List.mem_take_iff_getElem]; exact ⟨j, by omega, rfl⟩);simpa using this
theorem jgj (hC : Has C TA) {f : AV} {l : List Int} {p : Int -> Bool} (hl : RI h v l) (hf : Asks C f p l h) : ACalls C 50 [v, f] h (fun r h' => r = .int .i64 (idxI p l) /\ h' = h) := by
 obtain ⟨g, c, rfl, hf⟩ := hf;have hlt := hl.lt;refine zf 50 B50 hC ?_; simp only [B50, zB]; refine zs1 @hl.len ?_;refine jam (fun j t h' => h' = h /\ t 0 = v /\ t 1 = .func g [] c /\ t 7 = .int .i64 l.length /\ ∃ i : Nat, t 8 = .int .i64 (i : Nat) /\ i <= l.length /\ (l.take i).any p = false /\ j = l.length - i) ⟨rfl, rfl, rfl, rfl, 0, rfl, by omega, by simp, rfl⟩ ?_;rintro j t h' ⟨rfl, e0, e1, e7, i, e8, hi, hp, hj⟩;refine zs4 e0 e1 e7 e8 ?_;refine kai (fun c1 => ?_) (fun c1 => ?_)
 ·have hi' : i < l.length := by omega
  refine zs6 e0 e1 e7 e8 @hl.idx @hl.load ?_;refine kaa (hf _ (jdB hi')) (zs ?_);refine kai (fun c2 => ?_) (fun c2 => ?_)
  ·have := jgG hi' hp c2;simp -implicitDefEqProofs (disch := first | exact zd | fail) only [↓wpPre, jb7, jb8, Int.reduceToNat, Int.reducePow, Int.reduceMul, Int.reduceAdd, Int.reduceSub, Int.reduceNeg, Nat.reduceAdd, Nat.reduceMul, Nat.reducePow, Int.reduceLT, Int.reduceLE, Int.reduceEq, Nat.reduceEqDiff, idxI, if_pos this.1, this.2]
  ·refine zs4 e0 e1 e7 e8 ?_;exact ⟨_, ⟨i + 1, by simp, by omega, jej hi' hp (by simpa using c2), rfl⟩, by omega⟩
 ·have : i = l.length := by omega
  subst this;rw [List.take_of_length_le (Nat.le_refl _)] at hp;refine zs2 @idxI.eq_1 hp ?_;simp
theorem jc7 {p : Int -> Bool} {l : List Int} : 0 <= idxI p l ↔ l.any p = true := by
 unfold idxI;split
 ·rename_i h; simp [h]
 ·rename_i h; simp [h]
theorem jeL (hC : Has C TA) {f : AV} {l : List Int} {p : Int -> Bool} (hl : RI h v l) (hf : Asks C f p l h) : ACalls C 37 [v, f] h (fun r h' => r = .bool (l.any p) /\ h' = h) := by
 refine zf 37 B37 hC ?_; simp only [B37, zB]; refine zs ?_;refine kaa (jgj hC hl hf) (zs ?_);cases hx : l.any p with
 | true => simp [jc7, hx]
 | false => simp [jc7, hx]
theorem seqx {a b : List Int} (hl : a.length = b.length) (h : ∀ i, i < a.length -> a.getD i 0 = b.getD i 0) : a = b := by
 refine List.ext_getElem hl fun i h1 h2 => ?_;have := h i h1;simpa [h1, h2] using this
def Grw (h0 h : Heap) (sz : Nat) (v : AV) (n : Nat) (cs : List AV) : Prop :=
 HSub h0 h /\ cs.length = n * sz /\ n < 9223372036854775808 /\ ((v = .nilslice /\ n = 0) \/ ∃ i ex, h0.size <= i /\ v = .slice i 0 n (.unk 0) /\ h.get i = some (.cells (cs ++ ex) true sz))
theorem jlp {ex : List AV} {k : Nat} (h : cs.length = k) : cut (cs ++ ex) 0 k = cs := by subst h; simp [cut]
def GrwI (h0 h : Heap) (v : AV) (l : List Int) : Prop := Grw h0 h 1 v l.length (ints l)
def snocH (H : Heap) (nid : Option Nat) (v : AV) (sz : Nat) (cs : List AV) : Heap :=
 match v with
 | .slice i _ _ _ => (H.put i .dead).new nid (.cells cs true sz)
 | _ => H.new nid (.cells cs true sz)
section
variable {h0 h H : Heap} {sz bytes n m k : Nat} {v : AV} {cs news : List AV} {l : List Int}
theorem Grw.sub (A : Grw h0 h sz v n cs) : HSub h0 h := A.1
theorem Grw.sl (A : Grw h0 h sz v n cs) : SL h sz v n cs := by
 obtain ⟨hs, hl, hn, ⟨rfl, rfl⟩ | ⟨i, ex, hi, rfl, hg⟩⟩ := A
 ·exact ⟨hl, hn, .inl ⟨.inl rfl, rfl⟩⟩
 ·exact ⟨hl, hn, .inr ⟨i, 0, _, _, true, sz, rfl, hg, by rw [List.length_append]; omega, jlp hl, by simp⟩⟩
theorem GrwI.ri (A : GrwI h0 h v l) : RI h v l := Grw.sl A
theorem GrwI.sub (A : GrwI h0 h v l) : HSub h0 h := A.1
theorem kbk (h : Heap) (sz : Nat) : Grw h h sz .nilslice 0 [] := ⟨kak _, by simp, by omega, .inl ⟨rfl, rfl⟩⟩
theorem kba (A : Grw h0 h sz v n cs) (hs : HSub h H) (hm : m ≠ 0) (hb : (n + m) * bytes <= 1099511627776) (h1 : news.all AV.one = true) :
  jaJ H none sz bytes v m news = some (.slice H.size 0 (n + m) (.unk 0), snocH H none v sz (cs ++ news)) := by
 obtain ⟨_, hl, hn, ⟨rfl, rfl⟩ | ⟨i, ex, hi, rfl, hg⟩⟩ := A
 ·have : cs = [] := List.eq_nil_of_length_eq_zero (by omega);subst this;rw [Nat.zero_add] at hb |-;rw [app_nil hm hb];simp [snocH, Heap.new]
 ·have e := (hs.get i (kac hg)).trans hg;rw [app_unk, e, appUB_grow (by rw [List.length_append]; omega) (by omega) hb h1, jlp hl];rfl
theorem ka2 (A : Grw h0 h sz v n cs) (hs : HSub h H) (hl : news.length = m * sz) (hn : n + m < 9223372036854775808) :
  Grw h0 (snocH H none v sz (cs ++ news)) sz (.slice H.size 0 (n + m) (.unk 0)) (n + m) (cs ++ news) := by
 obtain ⟨h1, hl', hn', ⟨rfl, rfl⟩ | ⟨i, ex, hi, rfl, hg⟩⟩ := A
 ·exact ⟨(h1.trans hs).push _, by rw [List.length_append, Nat.add_mul]; omega, hn, .inr ⟨H.size, [], (h1.trans hs).size, rfl, by rw [List.append_nil]; exact get_push_eq rfl⟩⟩
 ·exact ⟨((h1.trans hs).put hi _).push _, by rw [List.length_append, Nat.add_mul]; omega, hn, .inr ⟨H.size, [], (h1.trans hs).size, rfl, by rw [List.append_nil]; exact get_push_eq rfl⟩⟩
theorem GrwI.app {x : Int} (A : GrwI h0 h v l) : ∀ (H : Heap), HSub h H -> l.length + 1 <= 1073741824 -> jaJ H none 1 8 v 1 [.int .i64 x] = some (.slice H.size 0 (l.length + 1) (.unk 0), snocH H none v 1 (ints (l ++ [x]))) := by
 intro H hs hb;rw [kba A hs (by decide) (by omega) (by rfl), ints_snoc]
theorem GrwI.snoc {x : Int} (A : GrwI h0 h v l) (hs : HSub h H) (hb : l.length + 1 <= 1073741824) : GrwI h0 (snocH H none v 1 (ints (l ++ [x]))) (.slice H.size 0 (l.length + 1) (.unk 0)) (l ++ [x]) := by
 have := ka2 (news := [.int .i64 x]) (m := 1) A hs rfl (by omega);rw [ints_snoc] at this;unfold GrwI; rw [List.length_append]; exact this
theorem kbe {i : Nat} (hs : HSub h0 h) (hi : h0.size <= i) (hl : l.length < 9223372036854775808) (hg : h.get i = some (.cells (ints l) true 1)) : GrwI h0 h (.slice i 0 l.length (.unk 0)) l :=
 ⟨hs, by simp [ints], hl, .inr ⟨i, [], hi, rfl, by rw [List.append_nil]; exact hg⟩⟩
end
def contB (n sz o : Nat) : Option ABlk -> Option (Nat × List AV)
 | some (.cells vs _ _) => if o + n * sz <= vs.length then some (n, cut vs o (n * sz)) else none
 | _ => none
theorem jdC {h : Heap} {sz i o n : Nat} {c : Cap} : jao h sz (.slice i o n c) = contB n sz o (h.get i) := by
 simp only [jao, contB];cases h.get i with
 | none => rfl
 | some b => cases b <;> rfl
theorem jkg {n o : Nat} {wr : Bool} (h : o + n * sz <= vs.length) : contB n sz o (some (.cells vs wr u)) = some (n, cut vs o (n * sz)) := by simp only [contB, if_pos h]
theorem contB_one {x : AV} {u : Nat} {wr : Bool} : contB 1 1 0 (some (.cells [x] wr u)) = some (1, [x]) := rfl
def bsum (f : Nat -> Nat) : Nat -> Nat
 | 0 => 0
 | n + 1 => bsum f n + f n
theorem jeM {f g : Nat -> Nat} : ∀ n, (∀ i, i < n -> f i = g i) -> bsum f n = bsum g n
 | 0, _ => rfl
 | n + 1, h => by simp only [bsum]; rw [jeM n (fun i hi => h i (by omega)), h n (by omega)]
theorem jjz (f : Nat -> Nat) (a : Nat) : ∀ b, bsum f (a + b) = bsum f a + bsum (fun i => f (a + i)) b
 | 0 => rfl
 | b + 1 => by rw [<- Nat.add_assoc]; simp only [bsum]; rw [jjz f a b]; omega
theorem jjA {f g : Nat -> Nat} {t d : Nat} : ∀ n, (∀ i, i < n -> f i = g i + if i = t then d else 0) -> bsum f n = bsum g n + if t < n then d else 0
 | 0, _ => by simp [bsum]
 | n + 1, h => by
  have ih := jjA n (fun i hi => h i (by omega));have h1 := h n (by omega);simp only [bsum, ih, h1];by_cases c : t < n
  ·rw [if_pos c, if_neg (by omega), if_pos (by omega)]; omega
  ·by_cases c2 : n = t
   ·rw [if_neg c, if_pos c2, if_pos (by omega)]; omega
   ·rw [if_neg c, if_neg c2, if_neg (by omega)]; omega
def bitN (x i : Nat) : Nat := (x.testBit i).toNat
def pop (x n : Nat) : Nat := bsum (bitN x) n
theorem jiS (x a b : Nat) : pop x (a + b) = pop x a + pop (x >>> a) b := by
 unfold pop;rw [jjz];congr 1;refine jeM _ fun i _ => ?_;simp [bitN, Nat.testBit_shiftRight]
theorem jlq (x n : Nat) : pop (x % 2 ^ n) n = pop x n := by
 refine jeM _ fun i hi => ?_;simp [bitN, Nat.testBit_mod_two_pow, hi]
def bit01 (l : List Int) : Prop := ∀ x ∈ l, x = 0 \/ x = 1
theorem bit01.get {l : List Int} (h : bit01 l) (i : Nat) : l.getD i 0 = 0 \/ l.getD i 0 = 1 := by
 by_cases hi : i < l.length
 ·exact h _ (jdB hi)
 ·left; rw [List.getD_eq_getElem?_getD, List.getElem?_eq_none (by omega)]; rfl
def packL : List Int -> Nat
 | [] => 0
 | b :: l => b.toNat + 2 * packL l
theorem jfe : ∀ {l : List Int}, bit01 l -> packL l < 2 ^ l.length
 | [], _ => by simp [packL]
 | b :: l, h => by
  have ih := jfe (l := l) (fun x hx => h x (List.mem_cons_of_mem _ hx));have hb := h b List.mem_cons_self;simp only [packL, List.length_cons, Nat.pow_succ];rcases hb with rfl | rfl <;> simp <;> omega
theorem jfQ : ∀ {l : List Int}, bit01 l -> ∀ i, bitN (packL l) i = (l.getD i 0).toNat
 | [], _, i => by simp [packL, bitN]
 | b :: l, h, 0 => by
  have hb := h b List.mem_cons_self;simp only [packL, bitN, Nat.testBit_zero, List.getD_cons_zero];rcases hb with rfl | rfl <;> simp <;> omega
 | b :: l, h, i + 1 => by
  have ih := jfQ (l := l) (fun x hx => h x (List.mem_cons_of_mem _ hx)) i;have hb := h b List.mem_cons_self;have e : (b.toNat + 2 * packL l) / 2 = packL l := by rcases hb with rfl | rfl <;> simp <;> omega
  simp only [packL, bitN, Nat.testBit_succ, List.getD_cons_succ];rw [e]; exact ih
theorem jeN : ∀ (l : List Int) (x : Int), packL (l ++ [x]) = packL l + 2 ^ l.length * x.toNat
 | [], x => by simp [packL]
 | b :: l, x => by
  simp only [List.cons_append, packL, jeN l x, List.length_cons, Nat.pow_succ];rw [Nat.mul_add, Nat.mul_comm _ 2, Nat.mul_assoc, <- Nat.add_assoc]
def xorT (ts : List Int) (w : List Int) : Int := ts.foldl (fun x t => (x + w.getD t.toNat 0) % 2) 0
def maskT (ts : List Int) : Nat := ts.foldl (fun m t => m ||| 2 ^ t.toNat) 0
theorem jh7 (ts : List Int) (t : Int) (w : List Int) : xorT (ts ++ [t]) w = (xorT ts w + w.getD t.toNat 0) % 2 := by simp [xorT]
theorem jgH (ts : List Int) (t : Int) : maskT (ts ++ [t]) = maskT ts ||| 2 ^ t.toNat := by simp [maskT]
theorem jhc (ts : List Int) (w : List Int) : xorT ts w = 0 \/ xorT ts w = 1 := by
 unfold xorT
 suffices ∀ a : Int, (a = 0 \/ a = 1) -> (ts.foldl (fun x t => (x + w.getD t.toNat 0) % 2) a = 0 \/ ts.foldl (fun x t => (x + w.getD t.toNat 0) % 2) a = 1) from this 0 (.inl rfl)
 induction ts with
 | nil => intro a ha; exact ha
 | cons t ts ih => intro a ha; exact ih _ (by dsimp only; omega)
theorem jh8 : ∀ (ts : List Int) (m j : Nat), (ts.foldl (fun m t => m ||| 2 ^ t.toNat) m).testBit j = (m.testBit j || ts.any fun t => t.toNat == j)
 | [], m, j => by simp
 | t :: ts, m, j => by
  simp only [List.foldl_cons, jh8 ts, Nat.testBit_or, Nat.testBit_two_pow, List.any_cons];rw [Bool.or_assoc]; rfl
def tapOk (n : Int) (l : List Int) (j : Nat) : Prop := (if j = 0 then -1 else l.getD (j - 1) 0) < l.getD j 0 /\ l.getD j 0 < n
instance (n : Int) (l : List Int) (j : Nat) : Decidable (tapOk n l j) := by unfold tapOk; infer_instance
theorem jhd {n : Int} {l : List Int} (h : ∀ j, j < l.length -> tapOk n l j) : ∀ (j i : Nat), i < j -> j < l.length -> l.getD i 0 < l.getD j 0
 | 0, i, hi, _ => by omega
 | j + 1, i, hi, hj => by
  have h1 := (h (j + 1) hj).1;rw [if_neg (by omega), show j + 1 - 1 = j by omega] at h1;rcases Nat.lt_or_ge i j with x | x
  ·have := jhd h j i x (by omega); omega
  ·have : i = j := by omega
   subst this; exact h1
theorem jdD {n : Int} {l : List Int} (h : ∀ j, j < l.length -> tapOk n l j) {j : Nat} (hj : j < l.length) : 0 <= l.getD j 0 := by
 have h0 := (h 0 (by omega)).1;rw [if_pos rfl] at h0;rcases Nat.eq_zero_or_pos j with e | e
 ·subst e; omega
 ·have := jhd h j 0 e hj; omega
theorem jlr {n : Int} {l : List Int} (h : ∀ j, j < l.length -> tapOk n l j) {i : Nat} (hi : i < l.length) : (maskT (l.take i)).testBit (l.getD i 0).toNat = false := by
 unfold maskT;rw [jh8];simp only [Nat.zero_testBit, Bool.false_or];refine List.any_eq_false.2 fun t ht => ?_;obtain ⟨j, hj, rfl⟩ := List.mem_take_iff_getElem.1 ht;have hj' : j < l.length := by omega
 have e : l[j] = l.getD j 0 := by simp [hj']
 have h1 := jhd h i j (by omega) hi;have h2 := jdD h hj';rw [e]; simp only [beq_iff_eq]; omega
theorem jhe {n : Nat} : ∀ (ts : List Int) (m : Nat), m < 2 ^ n -> (∀ t ∈ ts, t.toNat < n) -> ts.foldl (fun m t => m ||| 2 ^ t.toNat) m < 2 ^ n
 | [], m, h, _ => h
 | t :: ts, m, h, ht => jhe ts _ (Nat.or_lt_two_pow h (Nat.pow_lt_pow_right (by decide) (ht t List.mem_cons_self))) (fun x hx => ht x (List.mem_cons_of_mem _ hx))
theorem jjB {n : Int} {l w : List Int} (hn : n <= 32) (h : ∀ j, j < l.length -> tapOk n l j) (hw : bit01 w) : ∀ i, i <= l.length -> ((pop (packL w &&& maskT (l.take i)) 32 % 2 : Nat) : Int) = xorT (l.take i) w
 | 0, _ => by
  have e : packL w &&& 0 = 0 := Nat.and_zero _;have : ∀ k, pop 0 k = 0 := fun k => by
   unfold pop
   induction k with
   | zero => rfl
   | succ k ih => simp [bsum, ih, bitN]
  simp [maskT, xorT, this]
 | i + 1, hi => by
  have ih := jjB hn h hw i (by omega);have hm := jlr h (i := i) (by omega);have ht := (h i (by omega)).2;have ht0 := jdD h (j := i) (by omega);have hb := jfQ hw (l.getD i 0).toNat;rw [jaN (by omega), jgH, jh7];have key : pop (packL w &&& (maskT (l.take i) ||| 2 ^ (l.getD i 0).toNat)) 32 = pop (packL w &&& maskT (l.take i)) 32 + if (l.getD i 0).toNat < 32 then bitN (packL w) (l.getD i 0).toNat else 0 := by
   refine jjA 32 fun j _ => ?_;simp only [bitN, Nat.testBit_and, Nat.testBit_or, Nat.testBit_two_pow];by_cases e : j = (l.getD i 0).toNat
   ·rw [if_pos e, <- e, e, hm]; simp
   ·rw [if_neg e, decide_eq_false (Ne.symm e)]; simp
  rw [key, if_pos (by omega), hb];have hx := jhc (l.take i) w;have hy := hw.get (l.getD i 0).toNat;omega
def stepW (ts w : List Int) : List Int := w.tail ++ [xorT ts w]
def winW (ts w : List Int) : Nat -> List Int
 | 0 => w
 | k + 1 => stepW ts (winW ts w k)
def seqB (ts w : List Int) (k : Nat) : Int := (winW ts w k).getD 0 0
def runL (ts w : List Int) (m : Nat) : List Int := (List.range m).map (seqB ts w)
theorem jbz (ts w : List Int) (m : Nat) : (runL ts w m).length = m := by simp [runL]
theorem jjC {w : List Int} {k : Nat} (h : k < m) : (runL ts w m).getD k 0 = seqB ts w k := by simp [runL, h]
theorem jfR (ts w : List Int) (m : Nat) : runL ts w (m + 1) = runL ts w m ++ [seqB ts w m] := by simp [runL, List.range_succ]
theorem jls {w : List Int} {k : Nat} (h : k <= m) : (runL ts w m).take k = runL ts w k := by simp [runL, <- List.map_take, List.take_range, Nat.min_eq_left h]
theorem jbP {ts w : List Int} (h : 1 <= w.length) : ∀ k, (winW ts w k).length = w.length
 | 0 => rfl
 | k + 1 => by simp [winW, stepW, jbP h k]; omega
theorem jds {ts w : List Int} (h : bit01 w) : ∀ k, bit01 (winW ts w k)
 | 0 => h
 | k + 1 => fun x hx => by
  simp only [winW, stepW, List.mem_append, List.mem_singleton] at hx;rcases hx with hx | rfl
  ·exact jds h k x (List.mem_of_mem_tail hx)
  ·exact jhc _ _
theorem jmm (w : List Int) (i : Nat) : w.tail.getD i 0 = w.getD (i + 1) 0 := by cases w <;> simp
theorem jff {ts w : List Int} (h : 1 <= w.length) : ∀ (i k : Nat), i < w.length -> (winW ts w k).getD i 0 = seqB ts w (k + i)
 | 0, k, _ => rfl
 | i + 1, k, hi => by
  have ih := jff (ts := ts) h i (k + 1) (by omega);have e : (winW ts w (k + 1)).getD i 0 = (winW ts w k).getD (i + 1) 0 := by
   have hl := jbP (ts := ts) h k;have ht : (winW ts w k).tail.length = w.length - 1 := by simp [hl]
   rw [<- jmm];simp only [winW, stepW, List.getD_eq_getElem?_getD];rw [List.getElem?_append_left (by omega)]
  rw [<- e, ih, show k + 1 + i = k + (i + 1) by omega]
theorem jlt {w : List Int} (h : 1 <= w.length) (k : Nat) : seqB ts w (k + w.length) = xorT ts (winW ts w k) := by
 have h1 := jff (ts := ts) h (w.length - 1) (k + 1) (by omega);rw [show k + 1 + (w.length - 1) = k + w.length by omega] at h1;rw [<- h1];have hl := jbP (ts := ts) h k;simp only [winW, stepW, List.getD_eq_getElem?_getD];have ht : (winW ts w k).tail.length = w.length - 1 := by simp [hl]
 rw [List.getElem?_append_right (by omega), ht, Nat.sub_self]; rfl
theorem jiT {w : List Int} (h : bit01 w) (k : Nat) : seqB ts w k = 0 \/ seqB ts w k = 1 := (jds h k).get 0
theorem jm2 {a b : List Int} (hl : a.length = b.length) (h : ∀ i, i < a.length -> a.getD i 0 = b.getD i 0) : a = b := by
 refine List.ext_getElem hl fun i h1 h2 => ?_;have := h i h1;simpa [h1, h2] using this
theorem jkh {w : List Int} (h : 1 <= w.length) : runL ts w w.length = w := by
 refine jm2 (by simp [runL]) fun i hi => ?_;rw [jbz] at hi;rw [jjC hi, <- Nat.zero_add i, <- jff (ts := ts) h i 0 hi, Nat.zero_add]; rfl
theorem jki {w : List Int} (h : 1 <= w.length) (hw : bit01 w) : packL (stepW ts w) = packL w / 2 + 2 ^ (w.length - 1) * (xorT ts w).toNat := by
 unfold stepW;rw [jeN]
 match w, h with
 | b :: w, _ =>
  have hb := hw b List.mem_cons_self;simp only [List.tail_cons, List.length_cons, packL, Nat.add_sub_cancel];congr 1;rcases hb with rfl | rfl <;> simp <;> omega
def popTab : List Nat := [0, 1, 1, 2, 1, 2, 2, 3, 1, 2, 2, 3, 2, 3, 3, 4, 1, 2, 2, 3, 2, 3, 3, 4, 2, 3, 3, 4, 3, 4, 4, 5, 1, 2, 2, 3, 2, 3, 3, 4, 2, 3, 3, 4, 3, 4, 4, 5, 2, 3, 3, 4, 3, 4, 4, 5, 3, 4, 4, 5, 4, 5, 5, 6, 1, 2, 2, 3, 2, 3, 3, 4, 2, 3, 3, 4, 3, 4, 4, 5, 2, 3, 3, 4, 3, 4, 4, 5, 3, 4, 4, 5, 4, 5, 5, 6, 2, 3, 3, 4, 3, 4, 4, 5, 3, 4, 4, 5, 4, 5, 5, 6, 3, 4, 4, 5, 4, 5, 5, 6, 4, 5, 5, 6, 5, 6, 6, 7, 1, 2, 2, 3, 2, 3, 3, 4, 2, 3, 3, 4, 3, 4, 4, 5, 2, 3, 3, 4, 3, 4, 4, 5, 3, 4, 4, 5, 4, 5, 5, 6, 2, 3, 3, 4, 3, 4, 4, 5, 3, 4, 4, 5, 4, 5, 5, 6, 3, 4, 4, 5, 4, 5, 5, 6, 4, 5, 5, 6, 5, 6, 6, 7, 2, 3, 3, 4, 3, 4, 4, 5, 3, 4, 4, 5, 4, 5, 5, 6, 3, 4, 4, 5, 4, 5, 5, 6, 4, 5, 5, 6, 5, 6, 6, 7, 3, 4, 4, 5, 4, 5, 5, 6, 4, 5, 5, 6, 5, 6, 6, 7, 4, 5, 5, 6, 5, 6, 6, 7, 5, 6, 6, 7, 6, 7, 7, 8]
theorem jh9 : ∀ i, i < 256 -> popTab[i]? = some (pop i 8) /\ pop i 8 <= 8 := by
 have h : ∀ i : Fin 256, popTab[i.val]? = some (pop i.val 8) /\ pop i.val 8 <= 8 := by decide +kernel
 exact fun i hi => h ⟨i, hi⟩
theorem jhf (x : Nat) : pop x 8 <= 8 := by
 rw [<- jlq];exact (jh9 _ (Nat.mod_lt _ (by decide))).2
theorem jm3 : B102 = ((.mk 1 21 [(.tmp 2)] (.seq (.region [⟨(some 2), (.mv (.const (.int .i64 0))), none⟩]) (.seq (.draw 0 [⟨0, false, [], ⟨(some 3), (.mv (.tmp 0)), none⟩⟩, ⟨1, false, [], ⟨(some 4), (.bin .shr (.tmp 3) (.const (.int .u64 24))), none⟩⟩, ⟨2, false, [], ⟨(some 5), (.strIdx (.const (.str popTab)) (.tmp 4)), none⟩⟩, ⟨3, false, [], ⟨(some 6), (.mv (.tmp 0)), none⟩⟩, ⟨4, false, [], ⟨(some 7), (.bin .shr (.tmp 6) (.const (.int .u64 16))), none⟩⟩, ⟨5, false, [], ⟨(some 8), (.bin .and (.tmp 7) (.const (.int .u32 255))), none⟩⟩, ⟨6, false, [], ⟨(some 9), (.strIdx (.const (.str popTab)) (.tmp 8)), none⟩⟩, ⟨7, false, [], ⟨(some 10), (.bin .add (.tmp 5) (.tmp 9)), none⟩⟩, ⟨8, false, [], ⟨(some 11), (.mv (.tmp 0)), none⟩⟩, ⟨9, false, [], ⟨(some 12), (.bin .shr (.tmp 11) (.const (.int .u64 8))), none⟩⟩, ⟨10, false, [], ⟨(some 13), (.bin .and (.tmp 12) (.const (.int .u32 255))), none⟩⟩, ⟨11, false, [], ⟨(some 14), (.strIdx (.const (.str popTab)) (.tmp 13)), none⟩⟩, ⟨12, false, [], ⟨(some 15), (.bin .add (.tmp 10) (.tmp 14)), none⟩⟩, ⟨13, false, [], ⟨(some 16), (.mv (.tmp 0)), none⟩⟩, ⟨14, false, [], ⟨(some 17), (.bin .and (.tmp 16) (.const (.int .u32 255))), none⟩⟩, ⟨15, false, [], ⟨(some 18), (.strIdx (.const (.str popTab)) (.tmp 17)), none⟩⟩, ⟨16, false, [], ⟨(some 19), (.bin .add (.tmp 15) (.tmp 18)), none⟩⟩, ⟨17, false, [], ⟨(some 20), (.conv .i64 (.tmp 19)), none⟩⟩, ⟨18, false, [], ⟨(some 2), (.mv (.tmp 20)), none⟩⟩]) .ret)))) := rfl
def strA (x i : AV) : Option AV :=
 match x, i with
 | .str bs, .int _ k => if 0 <= k then match bs[k.toNat]? with
   | some b => if b < 256 then some (.int .u8 b) else none
   | none => none
  else none
 | _, _ => none
theorem jkj {nid : Option Nat} {ev : AOpd -> AV} {h : Heap} {K : AV -> Heap -> Prop} {x i} : @opR nid (.strIdx x i) ev h ⟨K⟩ = @opt1 (strA (ev x) (ev i)) h ⟨K⟩ := by
 simp only [opR, aOp, pureA, opt1];cases ev x <;> cases ev i <;> simp only [strA, Option.map_none];rename_i bs kk k;by_cases c : 0 <= k
 ·simp only [if_pos c];cases bs[k.toNat]? with
  | none => rfl
  | some b =>
   by_cases c2 : b < 256
   ·simp only [if_pos c2]; rfl
   ·simp only [if_neg c2]; rfl
 ·simp only [if_neg c]; rfl
theorem jm4 {i : Int} {k : IntKind} (h : 0 <= i /\ i < 256) : strA (.str popTab) (.int k i) = some (.int .u8 (pop i.toNat 8 : Nat)) := by
 have h1 := jh9 i.toNat (by omega);simp only [strA, if_pos h.1, h1.1];rw [if_pos (by omega)]
theorem nat32 {n : Nat} (h : n < 4294967296) : (BitVec.ofInt 32 (n : Int)).toNat = n := by
 rw [BitVec.toNat_ofInt];have : ((n : Int) % ((2 ^ 32 : Nat) : Int)).toNat = n := by
  rw [Int.emod_eq_of_lt (by omega) (by omega)]; simp
 exact this
theorem jiU {n : Nat} (hm : m < 4294967296) (hn : n < 4294967296) : bitsA .and .u32 (m : Int) (n : Int) = ((m &&& n : Nat) : Int) := by
 show IntKind.u32.wrap ((BitVec.ofInt 32 (m : Int) &&& BitVec.ofInt 32 (n : Int)).toNat : Int) = _;rw [BitVec.toNat_and, nat32 hm, nat32 hn];have : m &&& n <= m := Nat.and_le_left;exact w_u32 (by omega)
theorem jlu {n : Nat} (hm : m < 4294967296) (hn : n < 4294967296) : bitsA .or .u32 (m : Int) (n : Int) = ((m ||| n : Nat) : Int) := by
 show IntKind.u32.wrap ((BitVec.ofInt 32 (m : Int) ||| BitVec.ofInt 32 (n : Int)).toNat : Int) = _;rw [BitVec.toNat_or, nat32 hm, nat32 hn];have : m ||| n < 2 ^ 32 := Nat.or_lt_two_pow (by omega) (by omega);exact w_u32 (by omega)
theorem jnp {a : Int} (h : 0 <= a /\ a < 4294967296) : bitsA .and .u32 a 255 = a % 256 := by
 obtain ⟨n, rfl⟩ := Int.eq_ofNat_of_zero_le h.1;have := jiU (m := n) (n := 255) (by omega) (by decide);have e : n &&& 255 = n % 256 := Nat.and_two_pow_sub_one_eq_mod n 8;rw [e] at this;rw [show ((255 : Nat) : Int) = 255 from rfl] at this;rw [this]; omega
theorem pop32 (x : Nat) : pop x 32 = pop (x / 16777216) 8 + pop (x / 65536 % 256) 8 + pop (x / 256 % 256) 8 + pop (x % 256) 8 := by
 have e1 : pop x 32 = pop x 8 + pop (x >>> 8) 24 := jiS x 8 24;have e2 : pop (x >>> 8) 24 = pop (x >>> 8) 8 + pop (x >>> 8 >>> 8) 16 := jiS _ 8 16;have e3 : pop (x >>> 8 >>> 8) 16 = pop (x >>> 8 >>> 8) 8 + pop (x >>> 8 >>> 8 >>> 8) 8 := jiS _ 8 8;have m : ∀ y, pop (y % 256) 8 = pop y 8 := fun y => jlq y 8;rw [m, m, m, e1, e2, e3];simp only [Nat.shiftRight_eq_div_pow, Nat.div_div_eq_div_mul, Nat.reducePow, Nat.reduceMul];omega
theorem jgk (hC : Has C TA) {x : Nat} (hx : x < 4294967296) : ACalls C 102 [.int .u32 (x : Nat)] h (fun r h' => r = .int .i64 (pop x 32 : Nat) /\ h' = h) := by
 rw [pop32];have a1 := jhf (x / 16777216);have a2 := jhf (x / 65536 % 256);have a3 := jhf (x / 256 % 256);have a4 := jhf (x % 256);have t1 : ((x : Int) / 16777216).toNat = x / 16777216 := by omega
 have t2 : ((x : Int) / 65536 % 256).toNat = x / 65536 % 256 := by omega
 have t3 : ((x : Int) / 256 % 256).toNat = x / 256 % 256 := by omega
 have t4 : ((x : Int) % 256).toNat = x % 256 := by omega
 refine jdV (hC.body (by decide) (by rfl : tab 102 = some B102)) (Nat.le_of_ble_eq_true rfl) ?_;show wp C _ none B102.code _ _;simp only [jm3];refine zs7 @jkj @jm4 @jnp t1 t2 t3 t4 ?_;omega
theorem jkk (hC : Has C TA) {l : List Int} {x : Int} (hl : RI h v l) : ACalls C 99 [v, .int .i64 x] h (fun r h' => r = .int .i64 (idxI (fun y => x == y) l) /\ h' = h) := by
 have hlt := hl.lt;refine zf 99 B99 hC ?_; simp only [B99, zB]; refine zs1 @hl.len ?_;refine jam (fun j t h' => h' = h /\ t 0 = v /\ t 1 = .int .i64 x /\ t 7 = .int .i64 l.length /\ ∃ i : Nat, t 8 = .int .i64 (i : Nat) /\ i <= l.length /\ (l.take i).any (fun y => x == y) = false /\ j = l.length - i) ⟨rfl, rfl, rfl, rfl, 0, rfl, by omega, by simp, rfl⟩ ?_;rintro j t h' ⟨hh, e0, e1, e7, i, e8, hi, hp, hj⟩;subst hh;refine zs2 e7 e8 ?_;refine kai (fun c1 => ?_) (fun c1 => ?_)
 ·have hi' : i < l.length := by omega
  refine zs5 e0 e1 e8 @hl.idx @hl.load ?_;refine kai (fun c2 => ?_) (fun c2 => ?_)
  ·have := jgG hi' hp (by simpa using c2);simp -implicitDefEqProofs (disch := first | exact zd | fail) only [↓wpPre, jb7, jb8, Int.reduceToNat, Int.reducePow, Int.reduceMul, Int.reduceAdd, Int.reduceSub, Int.reduceNeg, Nat.reduceAdd, Nat.reduceMul, Nat.reducePow, Int.reduceLT, Int.reduceLE, Int.reduceEq, Nat.reduceEqDiff, idxI, if_pos this.1, this.2]
  ·refine zs4 e0 e1 e7 e8 ?_;exact ⟨_, ⟨i + 1, by simp, by omega, jej hi' hp (by simpa using c2), rfl⟩, by omega⟩
 ·have : i = l.length := by omega
  subst this;rw [List.take_of_length_le (Nat.le_refl _)] at hp;refine zs2 @idxI.eq_1 hp ?_;simp
theorem jcc (hC : Has C TA) {l : List Int} {x : Int} (hl : RI h v l) : ACalls C 89 [v, .int .i64 x] h (fun r h' => r = .bool (l.any fun y => x == y) /\ h' = h) := by
 refine zf 89 B89 hC ?_; simp only [B89, zB]; refine zs ?_;refine kaa (jkk hC hl) (zs ?_);cases hx : l.any (fun y => x == y) with
 | true => simp [jc7, hx]
 | false => simp [jc7, hx]
def jdZ (n : Int) (ts w : List Int) : Prop := (1 <= ts.length /\ ts.getD 0 0 = 0 /\ ∀ j, j < ts.length -> tapOk n ts j) /\ (w.length : Int) = n /\ (w.any fun x => !(x == 0 || x == 1)) = false
instance (n : Int) (ts w : List Int) : Decidable (jdZ n ts w) := by unfold jdZ; infer_instance
def jcS (n : Int) (ts w : List Int) : Int := if n < 2 \/ 16 < n then 2 else if jdZ n ts w then 0 else 3
structure RegOk (n : Nat) (ts w : List Int) : Prop where
 n2 : 2 <= n
 n16 : n <= 16
 len : w.length = n
 bits : bit01 w
 t1 : 1 <= ts.length
 t0 : ts.getD 0 0 = 0
 taps : ∀ j, j < ts.length -> tapOk n ts j
theorem jia {n : Int} {w : List Int} (h : jcS n ts w = 0) : ∃ m : Nat, n = m /\ RegOk m ts w := by
 unfold jcS at h;split at h
 ·cases h
 ·split at h
  ·rename_i h1 h2;refine ⟨w.length, h2.2.1.symm, ?_⟩;obtain ⟨⟨a1, a2, a3⟩, b1, b2⟩ := h2;refine ⟨by omega, by omega, rfl, fun x hx => ?_, a1, a2, by rw [b1]; exact a3⟩;have := List.any_eq_false.1 b2 x hx;simp only [Bool.not_eq_true, Bool.not_eq_false', Bool.or_eq_true, beq_iff_eq] at this;exact this
  ·cases h
def madeR (n : Int) (ts w : List Int) : AV := if jcS n ts w = 0 then .tuple [.agg [.int .i64 n, .int .u32 (packL w), .int .u32 (maskT ts)], .int .i64 0] else .tuple [.agg [.int .i64 0, .int .u32 0, .int .u32 0], .int .i64 (jcS n ts w)]
theorem jek {k : Nat} (h : k <= 16) : 2 ^ k <= 65536 := Nat.pow_le_pow_right (by decide) h
theorem jhg (k : Nat) : (2 : Int) ^ k = ((2 ^ k : Nat) : Int) := by simp
theorem jhh {n : Nat} (h : ∀ j, j < ts.length -> tapOk n ts j) (i : Nat) : maskT (ts.take i) < 2 ^ n := by
 refine jhe _ _ Nat.one_le_two_pow (fun t ht => ?_);obtain ⟨j, hj, rfl⟩ := List.mem_take_iff_getElem.1 ht;have hj' : j < ts.length := by omega
 have h1 := (h j hj').2;have h2 := jdD h hj';have e : ts[j] = ts.getD j 0 := by simp [hj']
 rw [e]; omega
theorem jib (hC : Has C TA) {n : Int} {v1 v2 : AV} {w : List Int} (h1 : RI h v1 ts) (h2 : RI h v2 w) : ACalls C 92 [.int .i64 n, v1, v2] h (fun r h' => r = madeR n ts w /\ h' = h) := by
 have l1 := h1.lt;have l2 := h2.lt;refine kae (P := fun r h' => r = madeR n ts w /\ HSub h h') ?_ (fun r h' hp => ⟨by rw [hp.1]; unfold madeR; split <;> exact jcO (by simp [AV.free, AV.bel, kaq]), hp.2, hp.1, rfl⟩);have pe : jcS n ts w = if n < 2 \/ 16 < n then 2 else if jdZ n ts w then 0 else 3 := rfl
 have fin : ∀ e, jcS n ts w = e -> e ≠ 0 -> AV.tuple [.agg [.int .i64 0, .int .u32 0, .int .u32 0], .int .i64 e] = madeR n ts w := fun e h0 he => by unfold madeR; rw [if_neg (by rw [h0]; exact he), h0]
 by_cases c0 : n < 2 \/ 16 < n
 ·rw [if_pos c0] at pe;refine zf 92 B92 hC ?_; simp only [B92, zB]; refine zs ?_
  (repeat' (first | (refine kai (fun _ => ?_) (fun _ => ?_)) | (refine zs ?_)))
  all_goals first | exact ⟨fin 2 pe (by decide), (kab _ _)⟩ | omega
 rw [if_neg c0] at pe;by_cases c1 : ts.length = 0
 ·rw [if_neg (fun hg => by have := hg.1.1; omega)] at pe;refine zf 92 B92 hC ?_; simp only [B92, zB]; refine zs1 @h1.len ?_;exact ⟨fin 3 pe (by decide), (kab _ _)⟩
 by_cases c2 : ts.getD 0 0 ≠ 0
 ·rw [if_neg (fun hg => c2 hg.1.2.1)] at pe;refine zf 92 B92 hC ?_; simp only [B92, zB]; refine zs3 @h1.len @h1.idx @h1.loadC ?_;exact ⟨fin 3 pe (by decide), (kab _ _)⟩
 by_cases c3 : (w.length : Int) ≠ n
 ·rw [if_neg (fun hg => c3 hg.2.1)] at pe;refine zf 92 B92 hC ?_; simp only [B92, zB]; refine zs4 @h1.len @h1.idx @h1.loadC @h2.len ?_;exact ⟨fin 3 pe (by decide), (kab _ _)⟩
 have c2' : ts.getD 0 0 = 0 := Decidable.not_not.1 c2;have c3' : (w.length : Int) = n := Decidable.not_not.1 c3;have hz : RI (h.push (.cells [.int .i64 0, .int .u32 0, .int .u32 0] true 0)) v1 ts := h1.mono (kab _ _);refine zf 92 B92 hC ?_; simp only [B92, zB]; refine zs5 @h1.len @h1.idx @h1.loadC @h2.len c2' ?_;refine jam (fun j t h' => ∃ i : Nat, h' = (h.push (.cells [.int .i64 0, .int .u32 0, .int .u32 0] true 0)).push (.cells [.int .i64 n, .int .u32 0, .int .u32 (maskT (ts.take i) : Nat)] true 0) /\ t 0 = .int .i64 n /\ t 2 = v2 /\ t 6 = .ptr h.size 0 /\ t 8 = .ptr (h.size + 1) 0 /\ t 9 = .int .i64 (if i = 0 then -1 else ts.getD (i - 1) 0) /\
   t 39 = v1 /\ t 40 = .int .i64 ts.length /\ t 41 = .int .i64 (i : Nat) /\ i <= ts.length /\ (∀ q, q < i -> tapOk n ts q) /\ j = ts.length - i) (j0 := ts.length)
  ⟨0, rfl, rfl, rfl, rfl, rfl, rfl, rfl, rfl, rfl, by omega, by omega, rfl⟩ ?_
 rintro j t h' ⟨i, rfl, e0, e2, e6, e8, e9, e39, e40, e41, hi, hok, hj⟩;refine zs2 e40 e41 ?_;refine kai (fun c => ?_) (fun c => ?_)
 ·have hi' : i < ts.length := by omega
  have hsub : HSub h ((h.push (.cells [.int .i64 0, .int .u32 0, .int .u32 0] true 0)).push (.cells [.int .i64 n, .int .u32 0, .int .u32 (maskT (ts.take i) : Nat)] true 0)) := (kab _ _).push _;by_cases ct : tapOk n ts i
  ·have ct' := ct;unfold tapOk at ct';have t0 : 0 <= ts.getD i 0 := by
    have h1 := ct'.1;by_cases h0 : i = 0
    ·rw [if_pos h0] at h1; omega
    ·rw [if_neg h0] at h1;have hp : ∀ j, j <= i - 1 -> -1 < ts.getD j 0 := by
      intro j
      induction j with
      | zero => intro _; omega
      | succ j ih =>
       intro hj;have := (hok (j + 1) (by omega)).1;rw [if_neg (by omega), show j + 1 - 1 = j by omega] at this;have := ih (by omega);omega
     have := hp (i - 1) (Nat.le_refl _);omega
   have hm : maskT (ts.take i) < 65536 := by
    have h1 := jhe (n := 16) (ts.take i) 0 (by decide) (fun x hx => by
     obtain ⟨q, hq, rfl⟩ := List.mem_take_iff_getElem.1 hx;have hq' : q < ts.length := by omega
     have h2 := (hok q (by omega)).2;have e : ts[q] = ts.getD q 0 := by simp [hq']
     rw [e]; omega)
    exact h1
   have hpw := jek (k := (ts.getD i 0).toNat) (by omega);have ec := jhg (ts.getD i 0).toNat;have em : maskT (ts.take (i + 1)) = maskT (ts.take i) ||| 2 ^ (ts.getD i 0).toNat := by rw [jaN hi', jgH]
   have hor := jlu (m := maskT (ts.take i)) (n := 2 ^ (ts.getD i 0).toNat) (by omega) (by omega);rw [<- em] at hor;have hlast : ¬ ts.getD i 0 <= (if i = 0 then -1 else ts.getD (i - 1) 0) := by omega
   generalize hP : 2 ^ (ts.getD i 0).toNat = P at hpw ec hor;refine zs7 e0 e2 e6 e8 e9 e39 (zI e40 (zI e41 (zI @h1.idx (zI @h1.loadC (zI @Int.one_mul (zI ec hor)))))) ?_;exact ⟨_, ⟨i + 1, rfl, by simp, by simp, by omega, fun q hq => by
    by_cases e : q = i
    ·subst e; exact ct
    ·exact hok q (by omega), rfl⟩, by omega⟩
  ·have hbad : ¬ jdZ n ts w := fun hg => ct (hg.1.2.2 i hi');rw [if_neg hbad] at pe;unfold tapOk at ct;by_cases cl : ts.getD i 0 <= (if i = 0 then -1 else ts.getD (i - 1) 0)
   ·refine zs7 e0 e6 e9 e39 e41 @h1.idx @h1.loadC ?_;exact ⟨fin 3 pe (by decide), (kab _ _).push _⟩
   ·refine zs7 e0 e6 e9 e39 e41 @h1.idx @h1.loadC ?_;exact ⟨fin 3 pe (by decide), (kab _ _).push _⟩
 ·have : i = ts.length := by omega
  subst this;rw [List.take_length];have hmm : (maskT ts : Int) = (maskT ts : Int) := rfl;refine zs2 e2 @h2.len ?_;refine jam (fun j u h' => ∃ i : Nat, h' = (h.push (.cells [.int .i64 0, .int .u32 0, .int .u32 0] true 0)).push (.cells [.int .i64 n, .int .u32 (packL (w.take i) : Nat), .int .u32 (maskT ts : Nat)] true 0) /\ u 6 = .ptr h.size 0 /\ u 8 = .ptr (h.size + 1) 0 /\
   u 62 = v2 /\ u 63 = .int .i64 w.length /\ u 64 = .int .i64 (i : Nat) /\ i <= w.length /\ bit01 (w.take i) /\ j = w.length - i) (j0 := w.length)
   ⟨0, rfl, e6, e8, rfl, rfl, rfl, by omega, fun x hx => by simp at hx, rfl⟩ ?_
  rintro j u h' ⟨i, rfl, f6, f8, f62, f63, f64, hi, hbt, hj⟩;refine zs2 f63 f64 ?_;refine kai (fun c => ?_) (fun c => ?_)
  ·have hi' : i < w.length := by omega
   by_cases cb : w.getD i 0 = 0 \/ w.getD i 0 = 1
   ·have hlt := jfe hbt;have hl : (w.take i).length = i := by simp; omega
    rw [hl] at hlt;have hpw := jek (k := i) (by omega);have ec := jhg i;have hb1 : bit01 (w.take (i + 1)) := fun x hx => by
     rw [jaN hi'] at hx;rcases List.mem_append.1 hx with hx | hx
     ·exact hbt x hx
     ·rw [List.mem_singleton.1 hx]; exact cb
    have es : packL (w.take i) ||| 2 ^ i * (w.getD i 0).toNat = packL (w.take (i + 1)) := by
     rw [jaN hi', jeN, hl, Nat.or_comm, <- Nat.two_pow_add_eq_or_of_lt hlt, Nat.add_comm]
    generalize hP : 2 ^ i = P at hlt hpw ec es;have e4 : w.getD i 0 * (P : Int) = ((P * (w.getD i 0).toNat : Nat) : Int) := by rcases cb with e | e <;> rw [e] <;> simp
    have e5 : P * (w.getD i 0).toNat <= 65536 := by rcases cb with e | e <;> rw [e] <;> simp <;> omega
    have hor := jlu (m := packL (w.take i)) (n := P * (w.getD i 0).toNat) (by omega) (by omega);rw [es] at hor;have cb2 : ¬ (w.getD i 0 ≠ 0 /\ w.getD i 0 ≠ 1) := by omega
    rcases cb with cb | cb
    ·refine zs7 f6 f8 f62 f63 f64 @h2.idx (zI @h2.loadC (zI ec (zI e4 hor))) ?_;exact ⟨_, ⟨i + 1, rfl, by simp, by omega, hb1, rfl⟩, by omega⟩
    ·refine zs7 f6 f8 f62 f63 f64 @h2.idx (zI @h2.loadC (zI ec (zI e4 hor))) ?_;exact ⟨_, ⟨i + 1, rfl, by simp, by omega, hb1, rfl⟩, by omega⟩
   ·have hbad : ¬ jdZ n ts w := fun hg => by
     have := List.any_eq_false.1 hg.2.2 _ (jdB hi');simp only [Bool.not_eq_true, Bool.not_eq_false', Bool.or_eq_true, beq_iff_eq] at this;exact cb this
    rw [if_neg hbad] at pe;refine zs5 f6 f62 f64 @h2.idx @h2.loadC ?_;exact ⟨fin 3 pe (by decide), (kab _ _).push _⟩
  ·have : i = w.length := by omega
   subst this;rw [List.take_length] at hbt |-;have hgood : jdZ n ts w := ⟨⟨by omega, c2', hok⟩, c3', List.any_eq_false.2 fun x hx => by
    simp only [Bool.not_eq_true, Bool.not_eq_false', Bool.or_eq_true, beq_iff_eq]; exact hbt x hx⟩
   rw [if_pos hgood] at pe;refine zs2 f6 f8 ?_;refine ⟨by unfold madeR; rw [if_pos pe], ?_⟩;exact (kab _ _).push _
theorem jmI (x : Nat) : ∀ n, pop x n <= n
 | 0 => Nat.le_refl _
 | n + 1 => by
  have := jmI x n;have h2 : bitN x n <= 1 := by unfold bitN; cases x.testBit n <;> simp
  unfold pop at *;simp only [bsum]; omega
theorem RegOk.w1 {n : Nat} {w : List Int} (R : RegOk n ts w) : 1 <= w.length := by have := R.n2; have := R.len; omega
theorem RegOk.pack_lt {n : Nat} {w : List Int} (R : RegOk n ts w) (k : Nat) : packL (winW ts w k) < 65536 := by
 have h1 := jfe (jds (ts := ts) R.bits k);rw [jbP R.w1, R.len] at h1;have := jek R.n16;omega
theorem RegOk.mask_lt {n : Nat} {w : List Int} (R : RegOk n ts w) : maskT ts < 65536 := by
 have h1 := jhh R.taps ts.length;rw [List.take_length] at h1;have := jek R.n16;omega
theorem RegOk.step {n : Nat} {ts w : List Int} (R : RegOk n ts w) (k : Nat) : packL (winW ts w k) / 2 ||| 2 ^ (n - 1) * (xorT ts (winW ts w k)).toNat = packL (winW ts w (k + 1)) := by
 have h1 := jki (ts := ts) (w := winW ts w k) (by rw [jbP R.w1]; exact R.w1) (jds R.bits k);have hlt := jfe (jds (ts := ts) R.bits k);rw [jbP R.w1, R.len] at h1 hlt;have hn := R.n2;have e : 2 ^ n = 2 ^ (n - 1) * 2 := by rw [<- Nat.pow_succ]; congr 1; omega
 have hlt2 : packL (winW ts w k) / 2 < 2 ^ (n - 1) := by omega
 rw [Nat.or_comm, <- Nat.two_pow_add_eq_or_of_lt hlt2, Nat.add_comm, <- h1]; rfl
theorem RegOk.par {n : Nat} {w : List Int} (R : RegOk n ts w) (k : Nat) : ((pop (packL (winW ts w k) &&& maskT ts) 32 : Nat) : Int) % 2 = xorT ts (winW ts w k) := by
 have h1 := jjB (n := n) (by have := R.n16; omega) R.taps (jds (ts := ts) R.bits k) ts.length (Nat.le_refl _);rw [List.take_length] at h1;rw [<- h1]; omega
theorem RegOk.bit {n : Nat} {w : List Int} (R : RegOk n ts w) (k : Nat) : ((packL (winW ts w k) &&& 1 : Nat) : Int) = seqB ts w k := by
 have h1 := jfQ (jds (ts := ts) R.bits k) 0;have h2 := jiT (ts := ts) R.bits k;have h3 : packL (winW ts w k) &&& 1 = packL (winW ts w k) % 2 := Nat.and_one_is_mod _;unfold seqB at *;unfold bitN at h1;rw [Nat.testBit_zero] at h1;rw [h3];rcases h2 with h2 | h2
 ·rw [h2] at h1 |-;have : ¬ packL (winW ts w k) % 2 = 1 := fun e => by simp [e] at h1
  omega
 ·rw [h2] at h1 |-;have : packL (winW ts w k) % 2 = 1 := by
   by_cases e : packL (winW ts w k) % 2 = 1
   ·exact e
   ·simp [e] at h1
  omega
theorem jlv (hC : Has C TA) {a b c : AV} : ACalls C 95 [.agg [a, b, c]] h (fun r h' => r = .func 101 [] [.ptr h.size 0] /\ h' = h.push (.cells [a, b, c] true 0)) := by
 refine zf 95 B95 hC ?_; simp only [B95, zB]; exact ze
def jjD (n : Nat) (ts w : List Int) (k : Nat) : ABlk := .cells [.int .i64 (n : Nat), .int .u32 (packL (winW ts w k) : Nat), .int .u32 (maskT ts : Nat)] true 0
theorem jkl (hC : Has C TA) {l b n : Nat} {ts w : List Int} {h : Heap} (R : RegOk n ts w) (J : Nat -> Heap -> Prop) (D : Heap -> Prop) (M : Nat) (h0 : J 0 h) (hb : ∀ k h', J k h' -> h'.get b = some (jjD n ts w k)) (hM : ∀ k h', J k h' -> k <= M)
  (hy : ∀ k h', J k h' -> jgx C l [.int .i64 (seqB ts w k), .int .u32 (packL (winW ts w (k + 1)) : Nat)] (h'.put b (jjD n ts w (k + 1))) (fun r h'' => (r = .bool true /\ J (k + 1) h'') \/ (r = .bool false /\ D h''))) :
  ACalls C 101 [.yield l, .ptr b 0] h (fun _ h' => D h') := by
 refine zf 101 B101 hC ?_; simp only [B101, zB]; refine zs ?_;refine jam (fun j t h' => ∃ k : Nat, J k h' /\ t 0 = .yield l /\ t 1 = .ptr b 0 /\ j = M - k) (j0 := M) ⟨0, h0, rfl, rfl, rfl⟩ ?_;rintro j t h' ⟨k, hJ, e0, e1, hj⟩;have hbx := hb k h' hJ;have hbl := kac hbx;have hm := hM k h' hJ;have p1 := R.pack_lt k;have p2 := R.mask_lt;have p3 : packL (winW ts w k) &&& maskT ts < 65536 := Nat.lt_of_le_of_lt Nat.and_le_left p1;have a1 : bitsA .and .u32 (packL (winW ts w k) : Nat) 1 = seqB ts w k := by
  have := jiU (m := packL (winW ts w k)) (n := 1) (by omega) (by decide);rw [R.bit k] at this; exact this
 have a2 := jiU (m := packL (winW ts w k)) (n := maskT ts) (by omega) (by omega);have sq := jiT (ts := ts) R.bits k;have xq := jhc ts (winW ts w k);have hpar := R.par k;have hpl := jmI (packL (winW ts w k) &&& maskT ts) 32;have hpw := jek (k := n - 1) (by have := R.n16; omega);have ec := jhg (n - 1);have hst := R.step k;have hn2 := R.n2;have hn16 := R.n16;have hor := jlu (m := packL (winW ts w k) / 2) (n := 2 ^ (n - 1) * (xorT ts (winW ts w k)).toNat) (by omega) (by rcases xq with e | e <;> rw [e] <;> simp <;> omega);rw [hst] at hor;have e4 : xorT ts (winW ts w k) * ((2 ^ (n - 1) : Nat) : Int) = ((2 ^ (n - 1) * (xorT ts (winW ts w k)).toNat : Nat) : Int) := by rcases xq with e | e <;> rw [e] <;> simp
 have e5 : (2 ^ (n - 1) * (xorT ts (winW ts w k)).toNat : Nat) <= 65536 := by rcases xq with e | e <;> rw [e] <;> simp <;> omega
 have e6 : ((n : Int) - 1).toNat = n - 1 := by omega
 have e7 : (packL (winW ts w k) : Int) / 2 = ((packL (winW ts w k) / 2 : Nat) : Int) := by omega
 have hb2 : h'.get b = some (.cells [.int .i64 (n : Nat), .int .u32 (packL (winW ts w k) : Nat), .int .u32 (maskT ts : Nat)] true 0) := hbx;refine zs5 e0 e1 hb2 a1 a2 ?_;refine kaa (jgk hC (by omega)) (zs7 e0 e1 hb2 hpar e6 ec (zI e4 (zI e7 hor)) ?_);refine kaW (hy k h' hJ) ?_;rintro r h'' (⟨rfl, hJ'⟩ | ⟨rfl, hD⟩)
 ·refine zs2 e0 e1 ?_;have := hM _ _ hJ';exact ⟨_, ⟨k + 1, hJ', rfl⟩, by omega⟩
 ·refine zs1 e0 ?_;exact hD
def je1 (ts w : List Int) (m k : Nat) : List Int := runL ts w k ++ List.replicate (m - k) 0
theorem jhi {w : List Int} {k : Nat} (h : k <= m) : (je1 ts w m k).length = m := by simp [je1, jbz]; omega
theorem jkm {w : List Int} {k : Nat} (h : k < m) : (je1 ts w m k).set k (seqB ts w k) = je1 ts w m (k + 1) := by
 unfold je1;have hl := jbz ts w k;rw [List.set_append_right _ _ (by omega), hl, Nat.sub_self, show m - k = m - (k + 1) + 1 by omega, List.replicate_succ, List.set_cons_zero, jfR, List.append_assoc];rfl
theorem jkn (hC : Has C TA) {n m : Nat} {ts w : List Int} {h : Heap} (R : RegOk n ts w) (hm : m <= 100000) :
  ACalls C 93 [.agg [.int .i64 (n : Nat), .int .u32 (packL w : Nat), .int .u32 (maskT ts : Nat)], .int .i64 (m : Nat)] h (fun r h' => Fresh h h' r (runL ts w m)) := by
 refine zf 93 B93 hC ?_; simp only [B93, zB]; refine zs ?_;refine kaN (fun H hH => ?_);have N : H.size = h.size + 4 := by rw [hH]; exact ze
 have b3 : H.get (h.size + 1) = some (.cells [.int .i64 (m : Nat)] true 0) := by rw [hH]; exact ze
 have b5 : H.get (h.size + 3) = some (.cells [.slice (h.size + 2) 0 0 (.known m)] true 0) := by rw [hH]; exact ze
 have br : H.get (h.size + 2) = some (.cells (ints (List.replicate m 0)) true 0) := by rw [hH, <- jbW]; exact ze
 have hsH : HSub h H := by rw [hH]; exact (((kab h _).push _).push _).push _
 clear hH;refine kaa (jlv hC) (zs ?_);refine je0 (D := fun h' => ∃ R, h'.get (H.size + 2) = some (.loop R) /\ R.state = .done /\ R.pend = some (.exit 0) /\ HSub h h' /\ h'.get (H.size + 1) = some (.defd true) /\
   h'.get (h.size + 3) = some (.cells [.slice (h.size + 2) 0 m (.known m)] true 0) /\ h'.get (h.size + 2) = some (.cells (ints (runL ts w m)) true 0) /\ H.size + 3 <= h'.size) ?_ ?_
 ·refine kaH (fun Q hR => ?_);show ACalls C 101 [.yield (H.size + 2), .ptr H.size 0] _ _;have rs : Q.state = .ready := by rw [hR]
  have rp : Q.pend = none := by rw [hR]
  have rb := jh3 rs rp;refine jkl hC R (fun k h' => k <= m /\ h'.get (H.size + 2) = some (.loop Q) /\ h'.get H.size = some (jjD n ts w k) /\ h'.get (H.size + 1) = some (.defd true) /\ HSub h h' /\ H.size + 3 <= h'.size /\
   h'.get (h.size + 1) = some (.cells [.int .i64 (m : Nat)] true 0) /\ h'.get (h.size + 3) = some (.cells [.slice (h.size + 2) 0 k (.known m)] true 0) /\ h'.get (h.size + 2) = some (.cells (ints (je1 ts w m k)) true 0)) _ m ?_ ?_ ?_ ?_
  ·refine ⟨by omega, ?_, ?_, ?_, ?_, ?_, ?_, ?_, ?_⟩
   ·exact ze
   ·refine zs ?_;rfl
   ·exact ze
   ·exact ((hsH.push _).push _).push _
   ·refine zs ?_;omega
   ·exact ze1 b3
   ·exact ze1 b5
   ·refine zs1 br ?_;simp [je1, runL]
  ·rintro k h' ⟨_, _, q, _⟩;exact q
  ·rintro k h' ⟨q, _⟩;exact q
  ·rintro k h' ⟨hk, hl, hw1, hd, hsub, hsz, q3, q5, qr⟩;have hfl := jhi (ts := ts) (w := w) hk;have hl2 : (h'.put H.size (jjD n ts w (k + 1))).get (H.size + 2) = some (.loop Q) := (get_put_ne (by omega)).trans hl;refine jfH hl2 rs (by rw [hR]; rfl) ?_;simp only [congrArg ALoop.nt hR, congrArg ALoop.t hR, congrArg ALoop.params hR, congrArg ALoop.assign hR, congrArg ALoop.body hR];refine zs4 hl rs q3 q5 ?_;refine kai (fun c => ?_) (fun c => ?_)
   ·have : k = m := by omega
    subst this;refine zs1 hl ?_;exact .inr ⟨_, rfl, rfl, rfl, ((hsub.put (by omega) _).put (by omega) _), hd, q5, by simpa [je1] using qr, by omega⟩
   ·have hk' : k < m := by omega
    refine zs7 hl rs q3 q5 qr @jdC @contB_one ?_;exact .inl ⟨by omega, by rw [rb], hd, (((((hsub.put (by omega) _).put (by omega) _).put (by omega) _).put (by omega) _).put (by omega) _).push _, by omega, by rw [jkm hk']⟩
 ·rintro h' ⟨Q, hl, hst, hpd, hsub, hd, q5, qr, hsz⟩;refine ⟨Q, hl, by rw [hst]; decide, ?_⟩;rw [hpd];show jcH _ _ (.exit 0) _;refine zs2 hd q5 ?_;have rl := jbz ts w m;refine ⟨(hsub.put (by omega) _).put (by omega) _, by omega, h.size + 2, by omega, by rw [rl], ?_⟩;exact ze1 qr
def jgI (n : Int) (ts w : List Int) (m : Int) : Int := if jcS n ts w = 0 then (if m < 0 \/ 100000 < m then 4 else 0) else jcS n ts w
theorem jmn (hC : Has C TA) {n m : Int} {v1 v2 : AV} {ts w : List Int} {h : Heap} (h1 : RI h v1 ts) (h2 : RI h v2 w) (hm : In64 m) :
  ACalls C 81 [.int .i64 n, v1, v2, .int .i64 m] h (fun r h' => ∃ v', r = jau v' (jgI n ts w m) /\ HSub h h' /\ RI h' v' (if jgI n ts w m = 0 then runL ts w m.toNat else []) /\ (jgI n ts w m = 0 -> Fresh h h' v' (runL ts w m.toNat))) := by
 have pe : jgI n ts w m = if jcS n ts w = 0 then (if m < 0 \/ 100000 < m then 4 else 0) else jcS n ts w := rfl
 unfold In64 at hm;by_cases c : jcS n ts w = 0
 ·rw [if_pos c] at pe;obtain ⟨k, rfl, R⟩ := jia c;have eR : madeR k ts w = .tuple [.agg [.int .i64 (k : Nat), .int .u32 (packL w), .int .u32 (maskT ts)], .int .i64 0] := by unfold madeR; rw [if_pos c]
  refine zf 81 B81 hC ?_; simp only [B81, zB]; refine zs ?_;refine kaf (jib hC h1 h2) eR ?_;by_cases c2 : m < 0 \/ 100000 < m
  ·rw [if_pos c2] at pe;refine zs ?_
   (repeat' (first | (refine kai (fun _ => ?_) (fun _ => ?_)) | (refine zs ?_)))
   all_goals first | exact ⟨.nilslice, by rw [pe, jau], kab _ _, by rw [if_neg (by rw [pe]; decide)]; exact kaA, fun e => absurd e (by rw [pe]; decide)⟩ | omega
  ·rw [if_neg c2] at pe;obtain ⟨q, rfl⟩ := Int.eq_ofNat_of_zero_le (show 0 <= m by omega);refine zs ?_;refine kad (jkn hC R (by omega)) ?_;rintro r h' F;refine zs ?_;exact ⟨r, by rw [pe, jau], (kab _ _).trans F.sub, by rw [if_pos pe]; exact F.ri, fun _ => F.mono (kab _ _)⟩
 ·rw [if_neg c] at pe;have eR : madeR n ts w = .tuple [.agg [.int .i64 0, .int .u32 0, .int .u32 0], .int .i64 (jcS n ts w)] := by unfold madeR; rw [if_neg c]
  refine zf 81 B81 hC ?_; simp only [B81, zB]; refine zs ?_;refine kaf (jib hC h1 h2) eR (zs ?_);exact ⟨.nilslice, by rw [pe, jau], kab _ _, by rw [if_neg (by rw [pe]; exact c)]; exact kaA, fun e => absurd e (by rw [pe]; exact c)⟩
theorem gV_u {w : Bool} {p q : Prop} : @gV .undef w ⟨p⟩ ⟨q⟩ = q := rfl
theorem xor01 {b : Int} (ha : a = 0 \/ a = 1) (hb : b = 0 \/ b = 1) : bitsA .xor .i64 a b = (a + b) % 2 := by
 rcases ha with rfl | rfl <;> rcases hb with rfl | rfl <;> decide
theorem jmo {n : Nat} {w : List Int} (R : RegOk n ts w) {i t : Nat} (ht : t < n) : (runL ts w (n + i)).getD (i + t) 0 = (winW ts w i).getD t 0 := by
 rw [jjC (by omega), jff R.w1 t i (by rw [R.len]; exact ht)]
theorem jko (hC : Has C TA) {n : Nat} {m : Int} {v1 v2 : AV} {ts w : List Int} {h : Heap} (h1 : RI h v1 ts) (h2 : RI h v2 w) (R : RegOk n ts w) (hm : m <= 1000000) (hm2 : In64 m) :
  ACalls C 91 [.int .i64 (n : Nat), v1, v2, .int .i64 m] h (fun r h' => ∃ L : Nat, GrwI h h' r (runL ts w L) /\ n <= L /\ (m <= L) /\ (L : Int) = max (n : Int) m) := by
 have hn2 := R.n2;have hn16 := R.n16;have hwl := R.len;have l1 := h1.lt;unfold In64 at hm2;obtain ⟨i, o, q, cp, rfl⟩ : ∃ i o n cp, v2 = .slice i o n cp := by
  obtain ⟨_, _, ⟨rfl | ⟨za, rfl⟩, h1⟩ | ⟨i, o, cp, vs, wr, u, rfl, _⟩⟩ := h2
  ·omega
  ·omega
  ·exact ⟨_, _, _, _, rfl⟩
 have hc' : jao (h.push (.cells [] true 0)) 1 (.slice i o q cp) = some (w.length, ints w) := (h2.mono (kab _ _)).content;have rs := jkh (ts := ts) R.w1;rw [hwl] at rs;refine zf 91 B91 hC ?_; simp only [B91, zB]; refine zs1 @hc' ?_;refine jam (fun j t h' => ∃ i : Nat, GrwI h h' (t 9) (runL ts w (n + i)) /\ t 1 = v1 /\ t 3 = .int .i64 m /\ t 10 = .int .i64 (i : Nat) /\ (i = 0 \/ n + i <= m) /\ j = (m - (n + i)).toNat) (j0 := (m - n).toNat)
  ⟨0, ?_, rfl, rfl, rfl, by omega, by omega⟩ ?_
 ·show GrwI h _ (.slice (h.size + 1) 0 w.length (.unk 0)) (runL ts w n);rw [rs];exact kbe ((kab _ _).push _) (by omega) (by omega) (get_push_eq rfl)
 rintro j t h' ⟨i, A, e1, e3, e10, hi, hj⟩;have rl := jbz ts w (n + i);have RA := A.ri;refine zs3 e3 @RA.len rl ?_;refine kai (fun c => ?_) (fun c => ?_)
 ·refine zs ?_;have h1' := h1.mono A.sub;refine jam (fun j u hx => hx = h' /\ ∃ k : Nat, u 9 = t 9 /\ u 1 = v1 /\ u 3 = .int .i64 m /\ u 10 = .int .i64 (i : Nat) /\ u 11 = .int .i64 (xorT (ts.take k) (winW ts w i)) /\ u 12 = .int .i64 (k : Nat) /\ k <= ts.length /\ j = ts.length - k) (j0 := ts.length)
   ⟨rfl, 0, rfl, e1, e3, e10, rfl, rfl, by omega, rfl⟩ ?_
  rintro j u hx ⟨hh, k, f9, f1, f3, f10, f11, f12, hk, hj⟩;subst hh;refine zs3 f1 f12 @h1'.len ?_;refine kai (fun c2 => ?_) (fun c2 => ?_)
  ·have hk' : k < ts.length := by omega
   have t0 := jdD R.taps hk';have t1 := (R.taps k hk').2;have ei : ((i : Int) + ts.getD k 0).toNat = i + (ts.getD k 0).toNat := by omega
   have eg := jmo R (i := i) (t := (ts.getD k 0).toNat) (by omega);have x1 := jhc (ts.take k) (winW ts w i);have x2 := (jds (ts := ts) R.bits i).get (ts.getD k 0).toNat;have ex := xor01 x1 x2;have es : xorT (ts.take (k + 1)) (winW ts w i) = (xorT (ts.take k) (winW ts w i) + (winW ts w i).getD (ts.getD k 0).toNat 0) % 2 := by rw [jaN hk', jh7]
   rw [<- es] at ex;refine zs7 f1 f3 f9 f10 f11 f12 (zI @h1'.idx (zI @h1'.load (zI @RA.idx (zI @RA.load (zI ei (zI eg ex)))))) ?_;exact ⟨_, ⟨k + 1, rfl, by simp, by omega, rfl⟩, by omega⟩
  ·have : k = ts.length := by omega
   subst this;rw [List.take_length] at f11;have ex : xorT ts (winW ts w i) = seqB ts w (n + i) := by
    have := jlt (ts := ts) R.w1 i;rw [hwl] at this;rw [<- this, Nat.add_comm]
   have A2 := A.snoc (x := seqB ts w (n + i)) (kab hx (.cells [.int .i64 (seqB ts w (n + i))] true 0)) (by omega);rw [<- jfR, rl] at A2;have ers := jfR ts w (n + i);rw [ex] at f11;refine zs7 f1 f3 f9 f10 f11 @jdC (zI @contB_one (zI @A.app (zI rl (Eq.symm ers)))) ?_;exact ⟨_, ⟨i + 1, A2, by simp, by omega, rfl⟩, by omega⟩
 ·refine zs ?_;exact ⟨n + i, A, by omega, by omega, by omega⟩
def lenOk (d : Int) : Bool := [5, 6, 7, 9, 10].any fun y => d == y
theorem jbf (h : lenOk d = true) : d = 5 \/ d = 6 \/ d = 7 \/ d = 9 \/ d = 10 := by
 simp only [lenOk, List.any_cons, List.any_nil, Bool.or_false, Bool.or_eq_true, beq_iff_eq] at h; exact h
def lenN (d : Int) : Nat := 2 ^ d.toNat - 1
theorem jbL (h : lenOk d = true) : 31 <= lenN d /\ lenN d <= 1023 /\ (2 : Int) ^ d.toNat = ((lenN d + 1 : Nat) : Int) := by
 rcases jbf h with rfl | rfl | rfl | rfl | rfl <;> decide
def lenE (d : Int) : AV := if lenOk d = true then tup2 (lenN d) 0 else tup2 0 2
def tapsL (d w : Int) : List Int :=
 if d = 5 then (if w = 1 then [0, 2] else [0, 2, 3, 4]) else if d = 6 then (if w = 1 then [0, 1] else [0, 1, 2, 5]) else if d = 7 then (if w = 1 then [0, 3] else [0, 1, 2, 3])
 else if d = 9 then (if w = 1 then [0, 4] else [0, 3, 4, 6]) else (if w = 1 then [0, 3] else [0, 2, 3, 8])
def jaw (d w : Int) : Int := if lenOk d = true /\ (w = 1 \/ w = 2) then 0 else 2
theorem ja0 {agg : Bool} {sz len : Nat} {vs : List AV} {kk : IntKind} {k : Int} (h : 0 <= k /\ k < len) : jhb agg sz len (.agg vs) (.int kk k) = partA agg vs (k.toNat * sz) sz := by simp [jhb, h]
theorem jbA (hC : Has C TA) (hd : In64 d) : ACalls C 70 [.int .i64 d] h (fun r h' => r = lenE d /\ h' = h) := by
 unfold In64 at hd;refine kae (P := fun r h' => r = lenE d /\ HSub h h') ?_ (fun r h' hp => ⟨by rw [hp.1]; unfold lenE tup2; split <;> exact jcO (by simp [AV.free, AV.bel]), hp.2, hp.1, rfl⟩);refine zf 70 B70 hC ?_; simp only [B70, zB]; refine zs ?_;refine kaa (jcc hC (l := [5, 6, 7, 9, 10]) (kal (get_push_eq rfl) ⟨rfl, by decide⟩ (by decide))) ?_;by_cases c : lenOk d = true
 ·have hl := jbL c;have hc := jbf c;have c' : ([5, 6, 7, 9, 10].any fun y => d == y) = true := c;rw [c'];refine zs2 @Int.one_mul @hl.2.2 ?_;exact ⟨by unfold lenE tup2; rw [if_pos c]; simp, kab _ _⟩
 ·have c' : ([5, 6, 7, 9, 10].any fun y => d == y) = false := Bool.eq_false_iff.2 c;rw [c'];refine zs ?_;exact ⟨by unfold lenE tup2; rw [if_neg c], kab _ _⟩
theorem jbc (hC : Has C TA) (hd : In64 d) : ACalls C 71 [.int .i64 d] h (fun r h' => r = lenE d /\ h' = h) := by
 unfold In64 at hd;by_cases c : lenOk d = true
 ·have e : lenE d = tup2 (lenN d) 0 := by unfold lenE; rw [if_pos c]
  rw [e];have hl := jbL c;have e2 : ((lenN d + 1 : Nat) : Int) - 1 = lenN d := by omega
  rcases jbf c with rfl | rfl | rfl | rfl | rfl <;>
  ·refine zf 71 B71 hC ?_; simp only [B71, zB]; refine zs ?_;rfl
 ·have e : lenE d = tup2 0 2 := by unfold lenE; rw [if_neg c]
  rw [e];have h5 : d ≠ 5 := fun h => c (by rw [h]; decide);have h6 : d ≠ 6 := fun h => c (by rw [h]; decide);have h7 : d ≠ 7 := fun h => c (by rw [h]; decide);have h9 : d ≠ 9 := fun h => c (by rw [h]; decide);have h10 : d ≠ 10 := fun h => c (by rw [h]; decide);refine zf 71 B71 hC ?_; simp only [B71, zB]; refine zs ?_;rfl
def smp (p : Int × Int) : AV := .agg [.int .i64 p.1, .int .i64 p.2]
theorem jcu (p : Int × Int) : (smp p).free := by simp [smp, AV.free, AV.bel, kaq]
theorem jhj {l : List (Int × Int)} {k : Nat} (h : k < l.length) : l.getD k (0, 0) ∈ l := by
 rw [List.getD_eq_getElem?_getD, List.getElem?_eq_getElem h]; exact List.getElem_mem h
def elF (sz : Nat) (v : AV) (k off : Nat) : AV :=
 match v with
 | .slice i o _ _ => .ptr i (o + k * sz + off)
 | _ => .undef
section
variable {h h' h0 H : Heap} {v : AV} {l : List (Int × Int)} {n : Nat} {cs : List AV}
theorem SI.len (A : SI h v l) : lenA v = some (.int .i64 l.length) := SL.len A
theorem SI.one (A : SI h v l) : v.one = true := SL.one A
theorem SI.lt (A : SI h v l) : l.length < 9223372036854775808 := SL.lt A
theorem SI.mono (A : SI h v l) (hs : HSub h h') : SI h' v l := SL.mono A hs
theorem SI.content (A : SI h v l) : jao h 2 v = some (l.length, smps l) := kaU A
theorem SI.idx (A : SI h v l) {kk : IntKind} {k : Int} (hk : 0 <= k /\ k < l.length) : idxA 2 v (.int kk k) = some (elA 2 v k.toNat) := SL.idx A hk
theorem jmp {k : Nat} (hk : k < l.length) : cut (smps l) (k * 2) 2 = [.int .i64 (l.getD k (0, 0)).1, .int .i64 (l.getD k (0, 0)).2] := by
 have e : l[k]? = some (l.getD k (0, 0)) := by simp [hk]
 have h0 := jcP (l := l) (k := k);have h1 := jcQ (l := l) (k := k);rw [e] at h0 h1;unfold cut;obtain ⟨h0', e0⟩ := List.getElem?_eq_some_iff.1 h0;obtain ⟨h1', e1⟩ := List.getElem?_eq_some_iff.1 h1;rw [List.drop_eq_getElem_cons h0', List.drop_eq_getElem_cons h1', e0, e1]; rfl
theorem SI.loadA (A : SI h v l) {k : Nat} (hk : k < l.length) : Ae.loadA h true 2 (elA 2 v k) = some (smp (l.getD k (0, 0))) := by
 rw [SL.loadA A hk, jmp hk]; rfl
theorem SI.fld (A : SI h v l) : ∀ (k off : Nat), k < l.length -> jcf off (elA 2 v k) = some (elF 2 v k off) := by
 intro k off hk;obtain ⟨_, _, ⟨rfl | ⟨za, rfl⟩, h1⟩ | ⟨i, o, c, vs, wr, u, rfl, _⟩⟩ := A
 ·omega
 ·omega
 ·rfl
theorem SI.load0 (A : SI h v l) {k : Nat} (hk : k < l.length) : Ae.loadA h false 1 (elF 2 v k 0) = some (.int .i64 (l.getD k (0, 0)).1) := by
 have e : l[k]? = some (l.getD k (0, 0)) := by simp [hk]
 obtain ⟨hl, hlt, ⟨rfl | ⟨za, rfl⟩, h1⟩ | ⟨i, o, c, vs, wr, u, rfl, hg, hle, hc, _⟩⟩ := A
 ·omega
 ·omega
 ·have h2 := jcP (l := l) (k := k);rw [<- hc, cut, List.getElem?_take_of_lt (by omega), List.getElem?_drop, e] at h2;simp only [elF, Ae.loadA, hg, partA, Bool.false_eq_true, if_false];rw [Nat.add_zero, h2]; rfl
theorem SI.load1 (A : SI h v l) {k : Nat} (hk : k < l.length) : Ae.loadA h false 1 (elF 2 v k 1) = some (.int .i64 (l.getD k (0, 0)).2) := by
 have e : l[k]? = some (l.getD k (0, 0)) := by simp [hk]
 obtain ⟨hl, hlt, ⟨rfl | ⟨za, rfl⟩, h1⟩ | ⟨i, o, c, vs, wr, u, rfl, hg, hle, hc, _⟩⟩ := A
 ·omega
 ·omega
 ·have h2 := jcQ (l := l) (k := k);rw [<- hc, cut, List.getElem?_take_of_lt (by omega), List.getElem?_drop, e] at h2;simp only [elF, Ae.loadA, hg, partA, Bool.false_eq_true, if_false];rw [Nat.add_assoc, h2]; rfl
theorem jd0 {k : Nat} {p : Int × Int} (hk : k < l.length) : splice (smps l) (k * 2) [.int .i64 p.1, .int .i64 p.2] = smps (l.set k p) := by
 unfold splice
 induction l generalizing k with
 | nil => simp at hk
 | cons q l ih =>
  cases k with
  | zero => simp [jb2]
  | succ k =>
   have := ih (k := k) (by simpa using hk);simp only [List.length_cons, List.length_nil] at this |-;rw [jb2, List.set_cons_succ, jb2, <- this, show (k + 1) * 2 = k * 2 + 1 + 1 by omega];simp only [List.take_succ_cons, List.cons_append];rw [show k * 2 + 1 + 1 + (0 + 1 + 1) = k * 2 + (0 + 1 + 1) + 1 + 1 by omega, List.drop_succ_cons, List.drop_succ_cons]
theorem jlw {k : Nat} : (smps l).drop (k * 2) = smps (l.drop k) := by
 induction l generalizing k with
 | nil => simp [smps]
 | cons p l ih =>
  cases k with
  | zero => rfl
  | succ k => rw [jb2, List.drop_succ_cons, <- ih, show (k + 1) * 2 = k * 2 + 1 + 1 by omega]; rfl
theorem jcA {p : Int × Int} {n : Nat} : jbo n [.int .i64 p.1, .int .i64 p.2] = smps (List.replicate n p) := by
 induction n with
 | zero => rfl
 | succ n ih => rw [List.replicate_succ, jb2, <- ih]; simp [jbo, List.replicate_succ]
end
theorem jlx {k : IntKind} {a b c d : Int} : eqsA true [(0, false), (1, false)] (.agg [.int k a, .int k b]) (.agg [.int k c, .int k d]) = some (.bool (decide (¬(a = c /\ b = d)))) := by
 simp [eqsA, jav, Bool.beq_eq_decide_eq, Bool.decide_and]
theorem jly {k : IntKind} {a b c d : Int} : eqsA false [(0, false), (1, false)] (.agg [.int k a, .int k b]) (.agg [.int k c, .int k d]) = some (.bool (decide (a = c /\ b = d))) := by
 simp [eqsA, jav, Bool.beq_eq_decide_eq, Bool.decide_and]
theorem jgJ {l : List (Int × Int)} {i : Nat} (h : i < l.length) : l.take (i + 1) = l.take i ++ [l.getD i (0, 0)] := by
 rw [List.take_succ_eq_append_getElem h]; simp [h]
theorem jic (hC : Has C TA) {va vb : AV} {a b : List (Int × Int)} (ha : SI h va a) (hb : SI h vb b) : ACalls C 123 [va, vb] h (fun r h' => r = .bool (decide (a = b)) /\ h' = h) := by
 have l1 := ha.lt;have l2 := hb.lt;refine zf 123 B123 hC ?_; simp only [B123, zB]; refine zs2 @ha.len @hb.len ?_;refine kai (fun c => ?_) (fun c => ?_)
 ·refine zs ?_;have : a ≠ b := fun e => by subst e; omega
  simp [this]
 ·refine zs ?_;refine jam (fun j t h' => h' = h /\ t 0 = va /\ t 1 = vb /\ ∃ i : Nat, t 5 = .int .i64 (i : Nat) /\ i <= a.length /\ a.take i = b.take i /\ j = a.length - i) ⟨rfl, rfl, rfl, 0, rfl, by omega, by simp, rfl⟩ ?_;rintro j t h' ⟨rfl, e0, e1, i, e5, hi, hp, hj⟩;refine zs4 e0 e1 e5 @ha.len ?_;refine kai (fun c1 => ?_) (fun c1 => ?_)
  ·have i1 : i < a.length := by omega
   have i2 : i < b.length := by omega
   refine zs7 e0 e1 e5 @ha.idx @hb.idx @ha.loadA (zI @hb.loadA (zI @smp.eq_1 @jlx)) ?_;refine kai (fun c2 => ?_) (fun c2 => ?_)
   ·refine zs ?_;have : a ≠ b := fun e => c2 (by rw [e]; exact ⟨rfl, rfl⟩);simp [this]
   ·refine zs3 e0 e1 e5 ?_;have c3 := Decidable.not_not.1 c2;refine ⟨_, ⟨i + 1, by simp, by omega, ?_, rfl⟩, by omega⟩
    ·rw [jgJ i1, jgJ i2, hp, Prod.ext c3.1 c3.2]
  ·refine zs ?_;have e1 : i = a.length := by omega
   subst e1;rw [List.take_of_length_le (by omega), List.take_of_length_le (by omega)] at hp;simp [hp]
theorem jjE (x : Int) : IntKind.u32.wrap x = x % 4294967296 := by
 show IntKind.wrap .u32 x = _;simp [IntKind.wrap, IntKind.bits, IntKind.signed]
def jlz (t p : Int) : Prop := t < -1073741824 \/ 1073741824 < t \/ p < 1 \/ 1073741824 < p
instance (t p : Int) : Decidable (jlz t p) := by unfold jlz; infer_instance
def phI (a s n : Int) : Int := (a + s * (n % 4294967296)) % 4294967296
theorem jlA (a s n : Int) : 0 <= phI a s n /\ phI a s n < 4294967296 := ⟨Int.emod_nonneg _ (by decide), Int.emod_lt_of_pos _ (by decide)⟩
def U32 (x : Int) : Prop := 0 <= x /\ x <= 4294967295
theorem jmJ {n : Int} (h : (Lit.int .u32 n).wf = true) : U32 n := by
 have : (decide (IntKind.u32.min <= n) && decide (n <= IntKind.u32.max)) = true := h;simp only [Bool.and_eq_true, decide_eq_true_eq] at this;exact this
theorem jid (hC : Has C TA) {s n : Int} : ACalls C 143 [.int .u32 a, .int .u32 s, .int .i64 n] h (fun r h' => r = .int .u32 (phI a s n) /\ h' = h) := by
 refine zf 143 B143 hC ?_; simp only [B143, zB]; refine zs1 @jjE ?_;unfold phI;rw [jkf]
def quarterL : List Int := [127, 126, 125, 122, 117, 112, 106, 98, 90, 81, 71, 60, 49, 37, 25, 12, 0]
def carr (k : Nat) : Int × Int :=
 let a := quarterL.getD (k % 16) 0
 let b := quarterL.getD (16 - k % 16) 0
 match k / 16 with
 | 0 => (a, b)
 | 1 => (-b, a)
 | 2 => (-a, -b)
 | _ => (b, -a)
theorem jkp : (List.range 64).all (fun k => decide (-127 <= (carr k).1 /\ (carr k).1 <= 127 /\ -127 <= (carr k).2 /\ (carr k).2 <= 127)) = true := by decide +kernel
theorem jm5 {k : Nat} (h : k < 64) : -127 <= (carr k).1 /\ (carr k).1 <= 127 /\ -127 <= (carr k).2 /\ (carr k).2 <= 127 := by
 have := List.all_eq_true.1 jkp k (by simpa using h);simpa using this
def carP (ph : Int) : Int × Int := carr (ph / 67108864).toNat
theorem jhk {ph : Int} (h : U32 ph) : -127 <= (carP ph).1 /\ (carP ph).1 <= 127 /\ -127 <= (carP ph).2 /\ (carP ph).2 <= 127 := by
 unfold U32 at h;exact jm5 (by omega)
theorem jeO (a s n : Int) : U32 (phI a s n) := by have := jlA a s n; unfold U32; omega
def jmK (x : Int × Int) : Prop := (-70368744177664 <= x.1 /\ x.1 <= 70368744177664) /\ (-70368744177664 <= x.2 /\ x.2 <= 70368744177664)
instance (x : Int × Int) : Decidable (jmK x) := by unfold jmK; exact inferInstance
theorem jb5 {x t B : Int} (hx : -B <= x /\ x <= B) (ht : -127 <= t /\ t <= 127) : -(B * 127) <= x * t /\ x * t <= B * 127 := by
 have hB : 0 <= B := by omega
 constructor
 ·have h1 : 0 <= (B + x) * (127 + t) := Int.mul_nonneg (by omega) (by omega);have h2 : 0 <= (B - x) * (127 - t) := Int.mul_nonneg (by omega) (by omega);have e1 : (B + x) * (127 + t) = B * 127 + B * t + x * 127 + x * t := by grind
  have e2 : (B - x) * (127 - t) = B * 127 - B * t - x * 127 + x * t := by grind
  omega
 ·have h1 : 0 <= (B + x) * (127 - t) := Int.mul_nonneg (by omega) (by omega);have h2 : 0 <= (B - x) * (127 + t) := Int.mul_nonneg (by omega) (by omega);have e1 : (B + x) * (127 - t) = B * 127 - B * t + x * 127 - x * t := by grind
  have e2 : (B - x) * (127 + t) = B * 127 + B * t - x * 127 - x * t := by grind
  omega
structure PlanP where
 d : Int
 o : Int
 pb : Int
 w : Int
 mn : Int
 mx : Int
 nz : Int
 prns : List Int
def PlanP.ok64 (p : PlanP) : Prop := In64 p.d /\ In64 p.o /\ In64 p.pb /\ In64 p.w /\ In64 p.mn /\ In64 p.mx /\ In64 p.nz /\ ∀ x ∈ p.prns, In64 x
def PlI (h : Heap) (v : AV) (p : PlanP) : Prop := ∃ vp, v = .agg [.int .i64 p.d, .int .i64 p.o, .int .i64 p.pb, .int .i64 p.w, .int .i64 p.mn, .int .i64 p.mx, .int .i64 p.nz, vp] /\ RI h vp p.prns
theorem PlI.mono {p : PlanP} (H : PlI h v p) (hs : HSub h h') : PlI h' v p := by obtain ⟨vp, e, r⟩ := H; exact ⟨vp, e, r.mono hs⟩
def PlanP.numsOk (p : PlanP) : Prop := lenOk p.d = true /\ (1 <= p.o /\ p.o <= 8) /\ (1 <= p.pb /\ p.pb <= 20) /\ (2 <= p.w /\ p.w <= 10) /\ (1 <= p.mn /\ p.mn <= p.mx) /\ p.mx <= 1000 /\ (0 <= p.nz /\ p.nz <= 100000)
instance (p : PlanP) : Decidable p.numsOk := by unfold PlanP.numsOk; exact inferInstance
def jbm (n : Int) : List Int -> List Int -> Int
 | _, [] => 0
 | seen, x :: xs => if ¬(1 <= x /\ x <= n + 2) then 2 else if seen.any (fun y => x == y) = true then 8 else jbm n (seen ++ [x]) xs
def PlanP.err (p : PlanP) : Int := if p.numsOk then if p.prns.length = 0 then 3 else if 8 < p.prns.length then 4 else jbm (lenN p.d) [] p.prns else 2
theorem jel (n : Int) : ∀ (xs seen : List Int), jbm n seen xs = 0 \/ jbm n seen xs = 2 \/ jbm n seen xs = 8
 | [], _ => .inl rfl
 | x :: xs, seen => by
  unfold jbm;split
  ·exact .inr (.inl rfl)
  ·split
   ·exact .inr (.inr rfl)
   ·exact jel n xs _
structure EmitP where
 prn : Int
 dl : Int
 rt : Int
 st : Int
 ph : Int
 amp : Int
 ba : Int
 bits : List Int
def EmitP.ok64 (e : EmitP) : Prop := In64 e.prn /\ In64 e.dl /\ In64 e.rt /\ U32 e.st /\ U32 e.ph /\ In64 e.amp /\ In64 e.ba /\ ∀ x ∈ e.bits, In64 x
def EmI (h : Heap) (v : AV) (e : EmitP) : Prop := ∃ vb, v = .agg [.int .i64 e.prn, .int .i64 e.dl, .int .i64 e.rt, .int .u32 e.st, .int .u32 e.ph, .int .i64 e.amp, .int .i64 e.ba, vb] /\ RI h vb e.bits
theorem EmI.mono {p : EmitP} (H : EmI h v p) (hs : HSub h h') : EmI h' v p := by obtain ⟨vp, e, r⟩ := H; exact ⟨vp, e, r.mono hs⟩
def PlanP.size (p : PlanP) : Int := lenN p.d * p.o
def EmitP.numsOk (e : EmitP) (p : PlanP) : Prop := (0 <= e.dl /\ e.dl < p.size) /\ (-64 <= e.rt /\ e.rt <= 64) /\ (p.mn <= e.amp /\ e.amp <= p.mx) /\ (0 <= e.ba /\ e.ba < p.pb)
instance (e : EmitP) (p : PlanP) : Decidable (e.numsOk p) := by unfold EmitP.numsOk; exact inferInstance
def emitErr (p : PlanP) (e : EmitP) : Int := if p.err = 0 then if (p.prns.any fun y => e.prn == y) = true then if e.numsOk p then if 10000 < e.bits.length then 4 else if e.bits.any (fun b => b != 0 && b != 1) = true then 3 else 0 else 2 else 18 else p.err
def madeErr (p : PlanP) (e : EmitP) (n : Int) : Int := if emitErr p e = 0 then if n < -10000000 \/ 10000000 < n then 2 else 0 else emitErr p e
def stI (dl sz rt k : Int) : Int := dl + k * sz + k * rt / 1024
theorem st_le {dl sz rt k n : Int} (hd : 0 < 1024 * sz + rt) : stI dl sz rt k <= n ↔ k <= (1024 * (n - dl + 1) - 1) / (1024 * sz + rt) := by
 unfold stI;rw [Int.le_ediv_iff_mul_le hd];have e : k * (1024 * sz + rt) = 1024 * (k * sz) + k * rt := by grind
 rw [e];generalize k * sz = A;generalize k * rt = B;omega
def plI (dl sz rt n : Int) : Int := (1024 * (n - dl + 1) - 1) / (1024 * sz + rt)
theorem pl_lt {dl sz rt n : Int} (hd : 0 < 1024 * sz + rt) : n < stI dl sz rt (plI dl sz rt n + 1) := by
 have h := (st_le (dl := dl) (n := n) (k := plI dl sz rt n + 1) hd).1;rcases Int.lt_or_le n (stI dl sz rt (plI dl sz rt n + 1)) with x | x
 ·exact x
 ·have := h x;unfold plI at this;omega
theorem pl_of {dl sz rt n k : Int} (hd : 0 < 1024 * sz + rt) (h1 : stI dl sz rt k <= n) (h2 : n < stI dl sz rt (k + 1)) : k = plI dl sz rt n := by
 have a := (st_le hd).1 h1;have b : ¬ k + 1 <= plI dl sz rt n := fun x => by
  have := (st_le (dl := dl) (n := n) hd).2 x;omega
 unfold plI at b |-;omega
theorem jlB {dl sz rt k : Int} (hr : -64 <= rt /\ rt <= 64) : sz - 1 <= stI dl sz rt (k + 1) - stI dl sz rt k /\ stI dl sz rt (k + 1) - stI dl sz rt k <= sz + 1 := by
 unfold stI;have e1 : (k + 1) * sz = k * sz + sz := by grind
 have e2 : (k + 1) * rt = k * rt + rt := by grind
 rw [e1, e2];generalize k * sz = A;generalize k * rt = B;omega
def bitI (p : PlanP) (e : EmitP) (k : Int) : Int := if e.bits.length = 0 then 0 else e.bits.getD (((k - e.ba) / p.pb) % e.bits.length).toNat 0
def jhl (b : Nat) (h : Heap) : Prop :=
 h.get b = some (.cells (ints [0, 2]) true 0) /\ h.get (b + 1) = some (.cells (ints [0, 2, 3, 4]) true 0) /\ h.get (b + 2) = some (.cells (ints [0, 1]) true 0) /\ h.get (b + 3) = some (.cells (ints [0, 1, 2, 5]) true 0) /\
 h.get (b + 4) = some (.cells (ints [0, 3]) true 0) /\ h.get (b + 5) = some (.cells (ints [0, 1, 2, 3]) true 0) /\ h.get (b + 6) = some (.cells (ints [0, 4]) true 0) /\ h.get (b + 7) = some (.cells (ints [0, 3, 4, 6]) true 0) /\
 h.get (b + 8) = some (.cells (ints [0, 3]) true 0) /\ h.get (b + 9) = some (.cells (ints [0, 2, 3, 8]) true 0)
theorem jhl.mono {b : Nat} (T : jhl b h) (hs : HSub h h') : jhl b h' := by
 obtain ⟨a0, a1, a2, a3, a4, a5, a6, a7, a8, a9⟩ := T;have k : ∀ {i x}, h.get i = some x -> h'.get i = some x := fun e => (hs.get _ (kac e)).trans e;exact ⟨k a0, k a1, k a2, k a3, k a4, k a5, k a6, k a7, k a8, k a9⟩
def jmL (b : Nat) : AV := .agg [.int .i64 5, .slice b 0 2 (.known 2), .slice (b + 1) 0 4 (.known 4), .int .i64 6, .slice (b + 2) 0 2 (.known 2), .slice (b + 3) 0 4 (.known 4), .int .i64 7, .slice (b + 4) 0 2 (.known 2), .slice (b + 5) 0 4 (.known 4),
 .int .i64 9, .slice (b + 6) 0 2 (.known 2), .slice (b + 7) 0 4 (.known 4), .int .i64 10, .slice (b + 8) 0 2 (.known 2), .slice (b + 9) 0 4 (.known 4)]
theorem jie (hC : Has C TA) {w : Int} (hd : In64 d) (hw : In64 w) : ACalls C 72 [.int .i64 d, .int .i64 w] h (fun r h' => ∃ v, r = jau v (jaw d w) /\ HSub h h' /\ RI h' v (if jaw d w = 0 then tapsL d w else [])) := by
 unfold In64 at hw;by_cases c : lenOk d = true
 ·have e : lenE d = tup2 (lenN d) 0 := by unfold lenE; rw [if_pos c]
  by_cases cw : w = 1 \/ w = 2
  ·have pe : jaw d w = 0 := by unfold jaw; rw [if_pos ⟨c, cw⟩]
   rw [pe];refine zf 72 B72 hC ?_; simp only [B72, zB]; refine zs ?_;refine kaf (jbA hC hd) e (zs1 @tup2.eq_1 ?_);refine jam (fun j t h' => ∃ i : Nat, i <= 4 /\ HSub h h' /\ jhl h.size h' /\ t 0 = .int .i64 d /\ t 1 = .int .i64 w /\ t 46 = jmL h.size /\ t 47 = .int .i64 (i : Nat) /\ (∀ y ∈ ([5, 6, 7, 9, 10] : List Int).take i, d ≠ y) /\ j = 5 - i) (j0 := 5)
    ⟨0, by omega, ?_, ?_, rfl, rfl, rfl, rfl, by simp, rfl⟩ ?_
   ·(repeat (first | exact kak _ | refine HSub.push ?_ _))
   ·refine ⟨?_, ?_, ?_, ?_, ?_, ?_, ?_, ?_, ?_, ?_⟩ <;> (refine zs ?_; try rfl)
   rintro j t h' ⟨i, hi, hs, T, e0, e1, e46, e47, hne, hj⟩;unfold jmL at e46;rcases (show i = 0 \/ i = 1 \/ i = 2 \/ i = 3 \/ i = 4 by omega) with rfl | rfl | rfl | rfl | rfl
   ·by_cases cd : d = 5
    ·subst cd;rcases cw with rfl | rfl
     ·refine zs5 e0 e1 e46 e47 @ja0 ?_;exact ⟨.slice (h.size + 0) 0 2 (.known 2), by simp [jau], hs.push _, kal ((get_push_lt (kac T.1)).trans T.1) ⟨rfl, by decide⟩ (by decide)⟩
     ·refine zs5 e0 e1 e46 e47 @ja0 ?_;exact ⟨.slice (h.size + 1) 0 4 (.known 4), by simp [jau], hs.push _, kal ((get_push_lt (kac T.2.1)).trans T.2.1) ⟨rfl, by decide⟩ (by decide)⟩
    ·refine zs5 e0 e1 e46 e47 @ja0 ?_;exact ⟨_, ⟨1, by omega, hs.push _, T.mono (kab _ _), rfl, by simp, fun y hy => (by have hn := hne; simp at hn hy; omega), rfl⟩, by omega⟩
   ·by_cases cd : d = 6
    ·subst cd;rcases cw with rfl | rfl
     ·refine zs5 e0 e1 e46 e47 @ja0 ?_;exact ⟨.slice (h.size + 2) 0 2 (.known 2), by simp [jau], hs.push _, kal ((get_push_lt (kac T.2.2.1)).trans T.2.2.1) ⟨rfl, by decide⟩ (by decide)⟩
     ·refine zs5 e0 e1 e46 e47 @ja0 ?_;exact ⟨.slice (h.size + 3) 0 4 (.known 4), by simp [jau], hs.push _, kal ((get_push_lt (kac T.2.2.2.1)).trans T.2.2.2.1) ⟨rfl, by decide⟩ (by decide)⟩
    ·refine zs5 e0 e1 e46 e47 @ja0 ?_;exact ⟨_, ⟨2, by omega, hs.push _, T.mono (kab _ _), rfl, by simp, fun y hy => (by have hn := hne; simp at hn hy; omega), rfl⟩, by omega⟩
   ·by_cases cd : d = 7
    ·subst cd;rcases cw with rfl | rfl
     ·refine zs5 e0 e1 e46 e47 @ja0 ?_;exact ⟨.slice (h.size + 4) 0 2 (.known 2), by simp [jau], hs.push _, kal ((get_push_lt (kac T.2.2.2.2.1)).trans T.2.2.2.2.1) ⟨rfl, by decide⟩ (by decide)⟩
     ·refine zs5 e0 e1 e46 e47 @ja0 ?_;exact ⟨.slice (h.size + 5) 0 4 (.known 4), by simp [jau], hs.push _, kal ((get_push_lt (kac T.2.2.2.2.2.1)).trans T.2.2.2.2.2.1) ⟨rfl, by decide⟩ (by decide)⟩
    ·refine zs5 e0 e1 e46 e47 @ja0 ?_;exact ⟨_, ⟨3, by omega, hs.push _, T.mono (kab _ _), rfl, by simp, fun y hy => (by have hn := hne; simp at hn hy; omega), rfl⟩, by omega⟩
   ·by_cases cd : d = 9
    ·subst cd;rcases cw with rfl | rfl
     ·refine zs5 e0 e1 e46 e47 @ja0 ?_;exact ⟨.slice (h.size + 6) 0 2 (.known 2), by simp [jau], hs.push _, kal ((get_push_lt (kac T.2.2.2.2.2.2.1)).trans T.2.2.2.2.2.2.1) ⟨rfl, by decide⟩ (by decide)⟩
     ·refine zs5 e0 e1 e46 e47 @ja0 ?_;exact ⟨.slice (h.size + 7) 0 4 (.known 4), by simp [jau], hs.push _, kal ((get_push_lt (kac T.2.2.2.2.2.2.2.1)).trans T.2.2.2.2.2.2.2.1) ⟨rfl, by decide⟩ (by decide)⟩
    ·refine zs5 e0 e1 e46 e47 @ja0 ?_;exact ⟨_, ⟨4, by omega, hs.push _, T.mono (kab _ _), rfl, by simp, fun y hy => (by have hn := hne; simp at hn hy; omega), rfl⟩, by omega⟩
   ·by_cases cd : d = 10
    ·subst cd;rcases cw with rfl | rfl
     ·refine zs5 e0 e1 e46 e47 @ja0 ?_;exact ⟨.slice (h.size + 8) 0 2 (.known 2), by simp [jau], hs.push _, kal ((get_push_lt (kac T.2.2.2.2.2.2.2.2.1)).trans T.2.2.2.2.2.2.2.2.1) ⟨rfl, by decide⟩ (by decide)⟩
     ·refine zs5 e0 e1 e46 e47 @ja0 ?_;exact ⟨.slice (h.size + 9) 0 4 (.known 4), by simp [jau], hs.push _, kal ((get_push_lt (kac T.2.2.2.2.2.2.2.2.2)).trans T.2.2.2.2.2.2.2.2.2) ⟨rfl, by decide⟩ (by decide)⟩
    ·exfalso;rcases jbf c with h | h | h | h | h <;> simp_all
  ·have pe : jaw d w = 2 := by unfold jaw; rw [if_neg (fun h => cw h.2)]
   rw [pe];refine zf 72 B72 hC ?_; simp only [B72, zB]; refine zs ?_;refine kaf (jbA hC hd) e (zs1 @tup2.eq_1 ?_)
   (repeat' (first | (refine kai (fun _ => ?_) (fun _ => ?_)) | (refine zs ?_)))
   all_goals first | exact ⟨.nilslice, by rw [jau], kak _, kaA⟩ | omega
 ·have e : lenE d = tup2 0 2 := by unfold lenE; rw [if_neg c]
  have pe : jaw d w = 2 := by unfold jaw; rw [if_neg (fun h => c h.1)]
  rw [pe];refine zf 72 B72 hC ?_; simp only [B72, zB]; refine zs ?_;refine kaf (jbA hC hd) e (zs1 @tup2.eq_1 ?_);exact ⟨.nilslice, by rw [jau], kak _, kaA⟩
theorem jfS (hC : Has C TA) {w : Int} (hd : In64 d) (hw : In64 w) : ACalls C 73 [.int .i64 d, .int .i64 w] h (fun r h' => ∃ v, r = jau v (jaw d w) /\ HSub h h' /\ RI h' v (if jaw d w = 0 then tapsL d w else [])) := by
 have hw' := hw;unfold In64 at hw';by_cases c : lenOk d = true
 ·have e : lenE d = tup2 (lenN d) 0 := by unfold lenE; rw [if_pos c]
  by_cases cw : w = 1 \/ w = 2
  ·have pe : jaw d w = 0 := by unfold jaw; rw [if_pos ⟨c, cw⟩]
   rw [pe];have fin : ∀ {l : List Int}, l = tapsL d w -> l.length < 9223372036854775808 -> ∃ v, AV.tuple [.slice h.size 0 l.length (.known l.length), .int .i64 0] = jau v 0 /\ HSub h (h.push (.cells (ints l) true 0)) /\ RI (h.push (.cells (ints l) true 0)) v (if (0 : Int) = 0 then tapsL d w else []) := by
    rintro l rfl hl;exact ⟨_, rfl, kab _ _, by rw [if_pos rfl]; exact kal (get_push_eq rfl) ⟨rfl, hl⟩ (Nat.le_refl _)⟩
   rcases jbf c with rfl | rfl | rfl | rfl | rfl <;> rcases cw with rfl | rfl <;>
   ·refine zf 73 B73 hC ?_; simp only [B73, zB]; refine zs ?_;refine kaf (jbc hC hd) e (zs1 @tup2.eq_1 ?_);exact fin (l := tapsL _ _) rfl (by decide)
  ·have pe : jaw d w = 2 := by unfold jaw; rw [if_neg (fun h => cw h.2)]
   rw [pe];refine zf 73 B73 hC ?_; simp only [B73, zB]; refine zs ?_;refine kaf (jbc hC hd) e (zs1 @tup2.eq_1 ?_)
   (repeat' (first | (refine kai (fun _ => ?_) (fun _ => ?_)) | ((refine zs ?_; try with_reducible trivial))))
   all_goals first | exact ⟨.nilslice, by rw [jau], kak _, kaA⟩ | omega
 ·have e : lenE d = tup2 0 2 := by unfold lenE; rw [if_neg c]
  have pe : jaw d w = 2 := by unfold jaw; rw [if_neg (fun h => c h.1)]
  rw [pe];refine zf 73 B73 hC ?_; simp only [B73, zB]; refine zs ?_;refine kaf (jbc hC hd) e (zs1 @tup2.eq_1 ?_);exact ⟨.nilslice, by rw [jau], kak _, kaA⟩
theorem nat64 {n : Nat} (h : n < 18446744073709551616) : (BitVec.ofInt 64 (n : Int)).toNat = n := by
 rw [BitVec.toNat_ofInt];have : ((n : Int) % ((2 ^ 64 : Nat) : Int)).toNat = n := by
  rw [Int.emod_eq_of_lt (by omega) (by omega)]; simp
 exact this
theorem jmq {a : Int} (h : 0 <= a /\ a < 18446744073709551616) : bitsA .and .u64 a 4294967295 = a % 4294967296 := by
 obtain ⟨n, rfl⟩ := Int.eq_ofNat_of_zero_le h.1;show IntKind.u64.wrap ((BitVec.ofInt 64 (n : Int) &&& BitVec.ofInt 64 ((4294967295 : Nat) : Int)).toNat : Int) = _;rw [BitVec.toNat_and, nat64 (by omega), nat64 (by decide)];have e : n &&& 4294967295 = n % 4294967296 := Nat.and_two_pow_sub_one_eq_mod n 32;rw [e, w_u64 (by omega)]; omega
theorem jgK {h : Heap} {i o n u : Nat} {c : Cap} {s : AV} {m : Nat} {cs vs : List AV} (hc : jao h 1 s = some (m, cs)) (hg : h.get i = some (.cells vs true u)) (hb : o + min m n <= vs.length) (h1 : (cs.take (min m n)).all AV.one = true) :
  copyA h 1 (.slice i o n c) s = some (.int .i64 (min m n : Nat), h.put i (.cells (splice vs o (cs.take (min m n))) true u)) := by
 simp only [copyA, hc, hg, Nat.mul_one];rw [if_pos ⟨hb, h1⟩]
def ones01 (x : Int) (n p : Nat) : List Int := List.replicate p x ++ List.replicate (n - p) 0
theorem jc8 {x : Int} {n p : Nat} (h : p <= n) : (ones01 x n p).length = n := by simp [ones01]; omega
theorem jgL {o : Nat} (h : o + cs.length <= vs.length) : splice vs o cs = vs.take o ++ cs ++ vs.drop (o + cs.length) := by
 match cs, h with
 | [], _ => rfl
 | [c], h =>
  rw [splice_one, List.set_eq_take_append_cons_drop, if_pos (by simp at h; omega)];simp
 | x :: y :: cs, _ => rfl
theorem jem {x : Int} {n p k : Nat} (h : p + k <= n) : splice (ints (ones01 x n p)) p (ints (List.replicate k x)) = ints (ones01 x n (p + k)) := by
 rw [jgL (by rw [ints_length, ints_length, jc8 (by omega), List.length_replicate]; exact h)];unfold ones01 ints;have e1 : (List.replicate p x ++ List.replicate (n - p) (0 : Int)).take p = List.replicate p x := by simp
 have e2 : (List.replicate p x ++ List.replicate (n - p) (0 : Int)).drop (p + k) = List.replicate (n - (p + k)) 0 := by
  rw [List.drop_append]; simp; omega
 have e3 : (List.map (AV.int .i64) (List.replicate k x)).length = k := by simp
 rw [e3, <- List.map_take, <- List.map_drop, e1, e2, <- List.map_append, <- List.map_append, List.replicate_append_replicate]
theorem jkq (hC : Has C TA) {b : Int} (ha : 0 <= a /\ a < 4294967296) (hb : 0 <= b /\ b < 4294967296) (hab : 0 <= a * b /\ a * b < 4294967296) : ACalls C 105 [.int .u64 a, .int .u64 b] h (fun r h' => r = .tuple [.int .u64 0, .int .u64 (a * b)] /\ h' = h) := by
 have e1 : a % 4294967296 = a := Int.emod_eq_of_lt ha.1 ha.2;have e2 : b % 4294967296 = b := Int.emod_eq_of_lt hb.1 hb.2;have e3 : a / 4294967296 = 0 := Int.ediv_eq_zero_of_lt ha.1 ha.2;have e4 : b / 4294967296 = 0 := Int.ediv_eq_zero_of_lt hb.1 hb.2;have e5 : a * b / 4294967296 = 0 := Int.ediv_eq_zero_of_lt hab.1 hab.2;refine zf 105 B105 hC ?_; simp only [B105, zB]; exact ze7 @jmq e1 e2 e3 e4 e5 (zI @Int.zero_mul (zI @Int.mul_zero (zI @Int.add_zero (zI @Int.zero_ediv @Int.zero_emod))))
theorem jmr (hC : Has C TA) {b : Int} (ha : 0 <= a /\ a < 4294967296) (hb : 0 <= b /\ b < 4294967296) (hab : 0 <= a * b /\ a * b < 4294967296) : ACalls C 100 [.int .u64 a, .int .u64 b] h (fun r h' => r = .tuple [.int .u64 0, .int .u64 (a * b)] /\ h' = h) := by
 refine zf 100 B100 hC ?_; simp only [B100, zB]; refine zs ?_;refine kaa (jkq hC ha hb hab) ?_;exact ze
theorem jiV (hC : Has C TA) {x : Int} {n : Nat} (hv : RI h v [x]) (hn : 1 <= n /\ n <= 1000000) : ACalls C 90 [v, .int .i64 (n : Nat)] h (fun r h' => Fresh h h' r (List.replicate n x)) := by
 have hcv := (hv.mono (kab h (.cells (ints (List.replicate n 0)) true 0))).content;have m1 : min 1 n = 1 := by omega
 have es : splice (ints (List.replicate n 0)) 0 ((ints [x]).take (min [x].length n)) = ints (ones01 x n 1) := by
  have h0 : ints (List.replicate n 0) = ints (ones01 x n 0) := by simp [ones01]
  have h1 : (ints [x]).take (min [x].length n) = ints (List.replicate 1 x) := by show (ints [x]).take (min 1 n) = _; rw [m1]; rfl
  rw [h1, h0, jem (by omega)]
 have hcp := jgK (h := h.push (.cells (ints (List.replicate n 0)) true 0)) (i := h.size) (o := 0) (n := n) (c := .known n) (u := 0) hcv (get_push_eq rfl) (by simp [ints]; omega) (by show ((ints [x]).take (min 1 n)).all AV.one = true; rw [m1]; rfl);rw [es] at hcp;have hcp : copyA (h.push (.cells (ints (List.replicate n 0)) true 0)) 1 (.slice h.size 0 n (.known n)) v = some (.int .i64 ((1 : Nat) : Int), (h.push (.cells (ints (List.replicate n 0)) true 0)).put h.size (.cells (ints (ones01 x n 1)) true 0)) := by
  have : min [x].length n = 1 := m1;rw [this] at hcp; exact hcp
 have m3 : (1 : Int) * (n : Int) = (n : Int) := Int.one_mul _;refine zf 90 B90 hC ?_; simp only [B90, zB]; refine zs1 @hv.len ?_;refine kaa (jmr hC (a := 1) (b := (n : Int)) (by decide) (by omega) (by omega)) (zs3 m3 @jbW hcp ?_);have s1 : ∀ (H : Heap) (p : Nat), p < n -> ja6 H 1 (.slice h.size 0 n (.known n)) (some (.int .i64 p)) none none = some (.slice h.size p (n - p) (.known (n - p))) := by
  intro H p hp;simp only [ja6];rw [jb0 (a := p) (b := n) (c := n) rfl rfl rfl (by omega)];simp only;rw [if_neg (by omega)]; simp
 have s2 : ∀ (H : Heap) (p : Nat), p < n -> ja6 H 1 (.slice h.size 0 n (.known n)) none (some (.int .i64 p)) none = some (.slice h.size 0 p (.known n)) := by
  intro H p hp;simp only [ja6];rw [jb0 (a := 0) (b := p) (c := n) rfl rfl rfl (by omega)];simp only;rw [if_neg (by omega)]; simp
 refine jam (fun j t h' => ∃ p : Nat, HSub h h' /\ h'.get h.size = some (.cells (ints (ones01 x n p)) true 0) /\ t 7 = .slice h.size 0 n (.known n) /\ t 8 = .int .i64 (p : Nat) /\ 1 <= p /\ p <= n /\ j = n - p) (j0 := n - 1)
  ⟨1, kab _ _, get_push_eq rfl, rfl, rfl, by omega, by omega, rfl⟩ ?_
 rintro j t h' ⟨p, hs, hg, e7, e8, hp1, hp2, hj⟩;refine zs2 e7 e8 ?_;refine kai (fun c => ?_) (fun c => ?_)
 ·have hp : p < n := by omega
  have hol := jc8 (x := x) (n := n) (p := p) hp2;have hgr : (h'.reserve 10).get h.size = some (.cells (ints (ones01 x n p)) true 0) := hg;have hc2 : jao (h'.reserve 10) 1 (.slice h.size 0 p (.known n)) = some (p, ints (List.replicate p x)) := by
   rw [jdC, hgr, jkg (by rw [ints_length, hol]; omega)];congr 2;rw [Nat.mul_one, jjy]; congr 1;simp [ones01]
  have hk : p + min p (n - p) <= n := by omega
  have h3 := jgK (h := h'.reserve 10) (i := h.size) (o := p) (n := n - p) (c := .known (n - p)) (u := 0) hc2 hgr (by rw [ints_length, hol]; exact hk) (by unfold ints; rw [<- List.map_take]; exact jmk);have h4 : (ints (List.replicate p x)).take (min p (n - p)) = ints (List.replicate (min p (n - p)) x) := by unfold ints; rw [<- List.map_take, List.take_replicate]; congr 2; omega
  rw [h4, jem hk] at h3;refine zs5 e7 e8 s1 s2 h3 ?_;refine ⟨_, ⟨p + min p (n - p), ?_, ?_, by omega, by omega, by omega, rfl⟩, by omega⟩
  ·exact (hs.reserve _).put (Nat.le_refl _) _
  ·exact get_put_eq rfl (kac hgr)
 ·have : p = n := by omega
  subst this;refine zs1 e7 ?_;have : ones01 x p p = List.replicate p x := by simp [ones01]
  rw [this] at hg;exact ⟨hs, by simp; omega, h.size, Nat.le_refl _, by simp, hg⟩
def onesL (d : Int) : List Int := List.replicate d.toNat 1
def bitsL (d w : Int) : List Int := runL (tapsL d w) (onesL d) (lenN d)
theorem jbd (d w : Int) : (bitsL d w).length = lenN d := jbz _ _ _
theorem jmM {w : Int} (hd : lenOk d = true) (hw : w = 1 \/ w = 2) : jcS d (tapsL d w) (onesL d) = 0 := by
 rcases jbf hd with rfl | rfl | rfl | rfl | rfl <;> rcases hw with rfl | rfl <;> decide
theorem jc9 {w : Int} : ∀ x ∈ bitsL d w, x = 0 \/ x = 1 := by
 intro x hx;obtain ⟨k, _, rfl⟩ := List.mem_map.1 hx;exact jiT (fun y hy => .inr (List.mem_replicate.1 hy).2) k
theorem jlC (hC : Has C TA) {w : Int} (hd : In64 d) (hw : In64 w) : ACalls C 74 [.int .i64 d, .int .i64 w] h (fun r h' => ∃ v, r = jau v (jaw d w) /\ HSub h h' /\ RI h' v (if jaw d w = 0 then bitsL d w else []) /\ (jaw d w = 0 -> Fresh h h' v (bitsL d w))) := by
 by_cases c : lenOk d = true /\ (w = 1 \/ w = 2)
 ·have pe : jaw d w = 0 := by unfold jaw; rw [if_pos c]
  have hl := jbL c.1;have hr := jmM c.1 c.2;have hd5 : 5 <= d /\ d <= 10 := by have := jbf c.1; omega
  have hT := jie (d := d) (w := w) (h := h) hC hd hw;rw [pe, if_pos rfl] at hT;rw [pe];obtain ⟨k, rfl⟩ := Int.eq_ofNat_of_zero_le (show 0 <= d by omega);have re : jgI (k : Nat) (tapsL (k : Nat) w) (onesL (k : Nat)) (lenN (k : Nat)) = 0 := by unfold jgI; rw [if_pos hr, if_neg (by omega)]
  refine zf 74 B74 hC ?_; simp only [B74, zB]; refine zs ?_;refine kad hT ?_;rintro r h1 ⟨v1, rfl, s1, R1⟩;have h22 : (2 : Int) ^ k = ((lenN (k : Nat) + 1 : Nat) : Int) := by have := hl.2.2; rwa [Int.toNat_natCast] at this
  have e3 : ((lenN (k : Nat) + 1 : Nat) : Int) - 1 = lenN (k : Nat) := by omega
  refine zs5 @jau.eq_1 @Int.one_mul h22 e3 @Heap.wf ?_;have eo : onesL ((k : Nat) : Int) = List.replicate k 1 := by simp [onesL]
  have hsH : HSub h1 ((h1.reserve 13).put (h1.size + 2) (.cells [.int .i64 1] true 0)) := ((kak _).reserve _).put (by omega) _;refine kad (jiV hC (x := 1) (n := k) (kal (get_put_eq rfl (by simp)) ⟨rfl, by decide⟩ (by decide)) (by omega)) ?_;rintro r h2 F;have s2 := F.sub;have s02 := s1.trans (hsH.trans s2);have hR := jmn (m := (lenN (k : Nat) : Int)) (h := h2) hC (R1.mono (hsH.trans s2)) (w := onesL (k : Nat)) (n := (k : Nat)) (by rw [eo]; exact F.ri) (by unfold In64; omega);rw [re] at hR;refine zs3 h22 e3 @Int.one_mul ?_;refine kad hR ?_;rintro r h3 ⟨v3, rfl, s3, R3, F3⟩;refine zs1 @jau.eq_1 ?_
  have F3 := F3 rfl;have : (lenN (k : Nat) : Int).toNat = lenN (k : Nat) := Int.toNat_natCast _;rw [this] at F3;exact ⟨v3, rfl, s02.trans s3, by rw [if_pos trivial]; exact F3.ri, fun _ => F3.mono s02⟩
 ·have pe : jaw d w = 2 := by unfold jaw; rw [if_neg c]
  have hT := jie (d := d) (w := w) (h := h) hC hd hw;rw [pe] at hT;rw [pe];refine zf 74 B74 hC ?_; simp only [B74, zB]; refine zs ?_;refine kad hT ?_;rintro r h1 ⟨v1, rfl, s1, R1⟩;refine zs1 @jau.eq_1 ?_;exact ⟨.nilslice, rfl, s1, by rw [if_neg id]; exact kaA⟩
theorem jiW (hC : Has C TA) {w : Int} (hd : In64 d) (hw : In64 w) : ACalls C 75 [.int .i64 d, .int .i64 w] h (fun r h' => ∃ v, r = jau v (jaw d w) /\ HSub h h' /\ RI h' v (if jaw d w = 0 then bitsL d w else [])) := by
 by_cases c : lenOk d = true /\ (w = 1 \/ w = 2)
 ·have pe : jaw d w = 0 := by unfold jaw; rw [if_pos c]
  have hl := jbL c.1;have hr := jmM c.1 c.2;have hd5 : 5 <= d /\ d <= 10 := by have := jbf c.1; omega
  have hT := jfS (d := d) (w := w) (h := h) hC hd hw;rw [pe, if_pos rfl] at hT;have eL : lenE d = tup2 (lenN d) 0 := by unfold lenE; rw [if_pos c.1]
  rw [pe];obtain ⟨k, rfl⟩ := Int.eq_ofNat_of_zero_le (show 0 <= d by omega);obtain ⟨kk, hkk, R⟩ := jia hr;have : kk = k := by omega
  subst this;refine zf 75 B75 hC ?_; simp only [B75, zB]; refine zs ?_;refine kad hT ?_;rintro r h1 ⟨v1, rfl, s1, R1⟩;refine zs1 @jau.eq_1 ?_;refine kaf (jbc hC hd) eL (zs2 @tup2.eq_1 @jbW ?_);have hol : ∀ p, p <= kk -> (ones01 1 kk p).length = kk := fun p hp => jc8 hp;refine jam (fun j t h' => ∃ p : Nat, h' = h1.push (.cells (ints (ones01 1 kk p)) true 0) /\ t 0 = .int .i64 (kk : Nat) /\ t 6 = v1 /\ t 8 = .int .i64 (lenN (kk : Nat)) /\ t 10 = .slice h1.size 0 kk (.known kk) /\ t 11 = .int .i64 (p : Nat) /\ p <= kk /\ j = kk - p) (j0 := kk)
   ⟨0, by simp [ones01], rfl, rfl, rfl, rfl, rfl, by omega, rfl⟩ ?_
  rintro j t h' ⟨p, rfl, e0, e6, e8, e10, e11, hp, hj⟩;have holp := hol p hp;refine zs2 e0 e11 ?_;refine kai (fun c1 => ?_) (fun c1 => ?_)
  ·have hset : (ones01 1 kk p).set p 1 = ones01 1 kk (p + 1) := by
    unfold ones01;rw [List.set_append_right _ _ (by simp), List.length_replicate, Nat.sub_self, show kk - p = kk - (p + 1) + 1 by omega, List.replicate_succ, List.set_cons_zero];rw [show List.replicate (p + 1) (1 : Int) = List.replicate p 1 ++ [1] from List.replicate_succ', List.append_assoc]; rfl
   refine zs6 e0 e6 e8 e10 e11 hset ?_;exact ⟨_, ⟨p + 1, rfl, by simp, by omega, rfl⟩, by omega⟩
  ·have : p = kk := by omega
   subst this;have eo : ones01 1 p p = onesL (p : Nat) := by simp [ones01, onesL]
   rw [eo] at holp |-;have RO : RI (h1.push (.cells (ints (onesL (p : Nat))) true 0)) (.slice h1.size 0 p (.known p)) (onesL (p : Nat)) := kal (get_push_eq rfl) ⟨by rw [holp], by omega⟩ (by omega);refine zs4 e0 e6 e8 e10 ?_;refine kad (jko hC (m := (lenN (p : Nat) : Int)) (R1.mono (kab _ _)) RO R (by omega) (by unfold In64; omega)) ?_;rintro r h3 ⟨L, A, hL1, hL2, hL3⟩;have RA := A.ri;have rl := jbz (tapsL (p : Nat) w) (onesL (p : Nat)) L;have Pa := RA.part_b (k2 := .i64) (b := (lenN (p : Nat) : Int)) (by omega);obtain ⟨wa, ea, Rwa⟩ := Pa;refine zs2 e8 ea ?_;refine ⟨wa, rfl, (s1.trans (kab _ _)).trans A.sub, ?_⟩
   rw [Int.toNat_natCast, jls (by omega)] at Rwa;rw [if_pos trivial]; exact Rwa
 ·have pe : jaw d w = 2 := by unfold jaw; rw [if_neg c]
  have hT := jfS (d := d) (w := w) (h := h) hC hd hw;rw [pe] at hT;rw [pe];refine zf 75 B75 hC ?_; simp only [B75, zB]; refine zs ?_;refine kad hT ?_;rintro r h1 ⟨v1, rfl, s1, R1⟩;refine zs1 @jau.eq_1 ?_;exact ⟨.nilslice, rfl, s1, by rw [if_neg id]; exact kaA⟩
def codeB (d p : Int) (i : Nat) : Int :=
 if p = 1 then (bitsL d 1).getD i 0 else if p = 2 then (bitsL d 2).getD i 0 else ((bitsL d 1).getD i 0 + (bitsL d 2).getD ((i + (p - 3).toNat) % lenN d) 0) % 2
def bitC (d p : Int) : List Int := (List.range (lenN d)).map (codeB d p)
def codeL (d p : Int) : List Int := (bitC d p).map fun b => 1 - 2 * b
def jda (d p : Int) : Int := if lenOk d = true /\ 1 <= p /\ p <= lenN d + 2 then 0 else 2
theorem jbQ (d p : Int) : (bitC d p).length = lenN d := by simp [bitC]
theorem jbe (d p : Int) : (codeL d p).length = lenN d := by simp [codeL, bitC]
theorem jbE {l : List Int} (h : ∀ x ∈ l, x = 0 \/ x = 1) (i : Nat) : l.getD i 0 = 0 \/ l.getD i 0 = 1 := bit01.get h i
theorem jhm (d p : Int) (i : Nat) : codeB d p i = 0 \/ codeB d p i = 1 := by
 unfold codeB;have h1 := jbE (jc9 (d := d) (w := 1)) i;have h2 := jbE (jc9 (d := d) (w := 2)) i;split
 ·exact h1
 ·split
  ·exact h2
  ·omega
theorem jlD (d : Int) : bitC d 1 = bitsL d 1 := by
 refine seqx (by rw [jbQ, jbd]) fun i hi => ?_;rw [jbQ] at hi;simp [bitC, hi, codeB]
theorem jlE (d : Int) : bitC d 2 = bitsL d 2 := by
 refine seqx (by rw [jbQ, jbd]) fun i hi => ?_;rw [jbQ] at hi;simp [bitC, hi, codeB]
def codeP (d p : Int) (k : Nat) : List Int := (List.range (lenN d)).map fun i => if i < k then codeB d p i else (bitsL d 1).getD i 0
theorem codeP_length (d p : Int) (k : Nat) : (codeP d p k).length = lenN d := by simp [codeP]
theorem jdt {p : Int} {k i : Nat} (hi : i < lenN d) : (codeP d p k).getD i 0 = if i < k then codeB d p i else (bitsL d 1).getD i 0 := by simp [codeP, hi]
theorem jkr (d p : Int) : codeP d p 0 = bitsL d 1 := by
 refine seqx (by rw [codeP_length, jbd]) fun i hi => ?_;rw [codeP_length] at hi;rw [jdt hi, if_neg (by omega)]
theorem jks (d p : Int) : codeP d p (lenN d) = bitC d p := by
 refine seqx (by rw [codeP_length, jbQ]) fun i hi => ?_;rw [codeP_length] at hi;rw [jdt hi, if_pos hi]; simp [bitC, hi]
theorem jlF {p : Int} {k : Nat} (hk : k < lenN d) : (codeP d p k).set k (codeB d p k) = codeP d p (k + 1) := by
 refine seqx (by simp [codeP]) fun i hi => ?_;simp only [List.length_set, codeP_length] at hi;rw [jdt hi];simp only [List.getD_eq_getElem?_getD, List.getElem?_set, codeP_length];by_cases e : k = i
 ·subst e; rw [if_pos rfl, if_pos hk, if_pos (by omega)]; rfl
 ·rw [if_neg e];have := jdt (p := p) (k := k) hi;rw [List.getD_eq_getElem?_getD] at this;rw [this];by_cases c : i < k
  ·rw [if_pos c, if_pos (by omega)]
  ·rw [if_neg c, if_neg (by omega)]; simp
theorem jlG (hC : Has C TA) {p : Int} (hd : In64 d) (hp : In64 p) : ACalls C 76 [.int .i64 d, .int .i64 p] h (fun r h' => ∃ v, r = jau v (jda d p) /\ HSub h h' /\ RI h' v (if jda d p = 0 then codeL d p else []) /\ (jda d p = 0 -> Fresh h h' v (codeL d p))) := by
 have hp' := hp;unfold In64 at hp';have pe : jda d p = if lenOk d = true /\ 1 <= p /\ p <= lenN d + 2 then 0 else 2 := rfl
 by_cases c : lenOk d = true
 ·have hl := jbL c;have eL : lenE d = tup2 (lenN d) 0 := by unfold lenE; rw [if_pos c]
  by_cases cp : 1 <= p /\ p <= lenN d + 2
  ·rw [if_pos ⟨c, cp⟩] at pe;rw [pe];have t1 : jaw d 1 = 0 := by unfold jaw; rw [if_pos ⟨c, .inl rfl⟩]
   have t2 : jaw d 2 = 0 := by unfold jaw; rw [if_pos ⟨c, .inr rfl⟩]
   have lb1 := jbd d 1;have lb2 := jbd d 2;have hB : ∀ {w : Int} {h : Heap}, jaw d w = 0 -> In64 w -> ACalls C 74 [.int .i64 d, .int .i64 w] h (fun r h' => ∃ i, h.size <= i /\ r = jau (.slice i 0 (lenN d) (.known (lenN d))) 0 /\ HSub h h' /\ h'.get i = some (.cells (ints (bitsL d w)) true 0)) := by
    intro w h e hw;refine (jlC hC hd hw).mono ?_;rintro r h' ⟨v, h1, _, _, h4⟩;obtain ⟨s, _, i, hi, hv, hg⟩ := h4 e;rw [jbd] at hv;exact ⟨i, hi, by rw [h1, e, hv], s, hg⟩
   have bC : ∀ k, (bitC d p).getD k 0 = 0 \/ (bitC d p).getD k 0 = 1 := fun k => jbE (fun x hx => by
    obtain ⟨i, _, rfl⟩ := List.mem_map.1 hx;exact jhm d p i) k
   have lC := jbQ d p;refine zf 76 B76 hC ?_; simp only [B76, zB]; refine zs ?_;refine kaf (jbA hC hd) eL (zs1 @tup2.eq_1 ?_);refine kad (hB t1 (by unfold In64; omega)) ?_;rintro r h1 ⟨i1, hi1, rfl, s1, g1⟩;refine zs1 @jau.eq_1 ?_;refine kad (hB t2 (by unfold In64; omega)) ?_;rintro r h2 ⟨i2, hi2, rfl, s2, g2⟩;have hl1 := kac g1;have hl2 := kac g2;have g1' := (s2.get i1 hl1).trans g1;have s12 := s1.trans s2;have z2 := s2.size;have z1 := s1.size;by_cases p1 : p = 1
   ·have gi1 : h2.get i1 = some (.cells (ints (bitC d p)) true 0) := by rw [p1, jlD]; exact g1'
    refine zs1 @jau.eq_1 ?_;have gX : h2.get i1 = some (.cells (ints (jb4 (fun b => 1 - 2 * b) (bitC d p) 0)) true 0) := by rw [jdX]; exact gi1
    refine jam (fun j t h' => ∃ k : Nat, HSub h h' /\ i1 < h'.size /\ h'.get i1 = some (.cells (ints (jb4 (fun b => 1 - 2 * b) (bitC d p) k)) true 0) /\ t 8 = .slice i1 0 (lenN d) (.known (lenN d)) /\ t 68 = .slice i1 0 (lenN d) (.known (lenN d)) /\ t 69 = .int .i64 (lenN d) /\ t 70 = .int .i64 (k : Nat) /\ k <= lenN d /\ j = lenN d - k) (j0 := lenN d)
     ⟨0, s12, kac gi1, gX, rfl, rfl, rfl, rfl, by omega, rfl⟩ ?_
    rintro j t h' ⟨k, hs, hlt, hg, e8, e68, e69, e70, hk, hj⟩;have hml := jc6 (fun b => 1 - 2 * b) (bitC d p) k;refine zs2 e69 e70 ?_;refine kai (fun c1 => ?_) (fun c1 => ?_)
    ·have hk' : k < (bitC d p).length := by omega
     have hg2 := jeJ (fun b => 1 - 2 * b) hk';have hst := jeK (fun b => 1 - 2 * b) hk';have b01 := bC k;refine zs6 e8 e68 e69 e70 hg hg2 ?_;exact ⟨_, ⟨k + 1, hs.put (by omega) _, hlt, by rw [<- hst], by simp, by omega, rfl⟩, by omega⟩
    ·have : k = (bitC d p).length := by omega
     subst this;rw [jdY] at hg;refine zs1 e8 ?_;have cl := jbe d p;have F : Fresh h h' (.slice i1 0 (lenN d) (.known (lenN d))) (codeL d p) := ⟨hs, by omega, i1, by omega, by rw [cl], hg⟩;exact ⟨_, rfl, hs, by rw [if_pos trivial]; exact F.ri, fun _ => F⟩
   by_cases p2 : p = 2
   ·have gi2 : h2.get i2 = some (.cells (ints (bitC d p)) true 0) := by rw [p2, jlE]; exact g2
    refine zs1 @jau.eq_1 ?_;have gX : h2.get i2 = some (.cells (ints (jb4 (fun b => 1 - 2 * b) (bitC d p) 0)) true 0) := by rw [jdX]; exact gi2
    refine jam (fun j t h' => ∃ k : Nat, HSub h h' /\ i2 < h'.size /\ h'.get i2 = some (.cells (ints (jb4 (fun b => 1 - 2 * b) (bitC d p) k)) true 0) /\ t 8 = .slice i2 0 (lenN d) (.known (lenN d)) /\ t 68 = .slice i2 0 (lenN d) (.known (lenN d)) /\ t 69 = .int .i64 (lenN d) /\ t 70 = .int .i64 (k : Nat) /\ k <= lenN d /\ j = lenN d - k) (j0 := lenN d)
     ⟨0, s12, kac gi2, gX, rfl, rfl, rfl, rfl, by omega, rfl⟩ ?_
    rintro j t h' ⟨k, hs, hlt, hg, e8, e68, e69, e70, hk, hj⟩;have hml := jc6 (fun b => 1 - 2 * b) (bitC d p) k;refine zs2 e69 e70 ?_;refine kai (fun c1 => ?_) (fun c1 => ?_)
    ·have hk' : k < (bitC d p).length := by omega
     have hg2 := jeJ (fun b => 1 - 2 * b) hk';have hst := jeK (fun b => 1 - 2 * b) hk';have b01 := bC k;refine zs6 e8 e68 e69 e70 hg hg2 ?_;exact ⟨_, ⟨k + 1, hs.put (by omega) _, hlt, by rw [<- hst], by simp, by omega, rfl⟩, by omega⟩
    ·have : k = (bitC d p).length := by omega
     subst this;rw [jdY] at hg;refine zs1 e8 ?_;have cl := jbe d p;have F : Fresh h h' (.slice i2 0 (lenN d) (.known (lenN d))) (codeL d p) := ⟨hs, by omega, i2, by omega, by rw [cl], hg⟩;exact ⟨_, rfl, hs, by rw [if_pos trivial]; exact F.ri, fun _ => F⟩
   have hp3 : 3 <= p := by omega
   have lP := codeP_length d p;have g0 : h2.get i1 = some (.cells (ints (codeP d p 0)) true 0) := by rw [jkr]; exact g1'
   refine zs1 @jau.eq_1 ?_;refine jam (fun j t h' => ∃ k : Nat, HSub h h' /\ i1 < h'.size /\ h'.get i1 = some (.cells (ints (codeP d p k)) true 0) /\ h'.get i2 = some (.cells (ints (bitsL d 2)) true 0) /\ t 1 = .int .i64 p /\ t 6 = .int .i64 (lenN d) /\ t 8 = .slice i1 0 (lenN d) (.known (lenN d)) /\ t 10 = .slice i2 0 (lenN d) (.known (lenN d)) /\
     t 42 = .slice i1 0 (lenN d) (.known (lenN d)) /\ t 43 = .int .i64 (lenN d) /\ t 44 = .int .i64 (k : Nat) /\ k <= lenN d /\ j = lenN d - k) (j0 := lenN d)
    ⟨0, s12, by omega, g0, g2, rfl, rfl, rfl, rfl, rfl, rfl, rfl, by omega, rfl⟩ ?_
   rintro j t h3 ⟨k, hs3, hlt3, hg1, hg2, e1, e6, e8, e10, e42, e43, e44, hk, hj⟩;have lPk := lP k;refine zs2 e43 e44 ?_;refine kai (fun c1 => ?_) (fun c1 => ?_)
   ·have hk' : k < lenN d := by omega
    have gP : (codeP d p k).getD k 0 = (bitsL d 1).getD k 0 := by rw [jdt hk', if_neg (by omega)]
    have em : ((k : Int) + p - 3) % (lenN d : Int) = (((k + (p - 3).toNat) % lenN d : Nat) : Int) := by
     rw [show (k : Int) + p - 3 = ((k + (p - 3).toNat : Nat) : Int) by omega]; exact (Int.natCast_emod _ _).symm
    have hm : (k + (p - 3).toNat) % lenN d < lenN d := Nat.mod_lt _ (by omega);have lb2 := jbd d 2;have ex := xor01 (jbE (jc9 (d := d) (w := 1)) k) (jbE (jc9 (d := d) (w := 2)) ((k + (p - 3).toNat) % lenN d));have hcb : codeB d p k = ((bitsL d 1).getD k 0 + (bitsL d 2).getD ((k + (p - 3).toNat) % lenN d) 0) % 2 := by unfold codeB; rw [if_neg p1, if_neg p2]
    rw [<- hcb] at ex;have hst := jlF (p := p) hk';refine zs7 e1 e6 e8 e10 e42 e43 (zI e44 (zI hg1 (zI hg2 (zI gP (zI em (zI ex hst)))))) ?_;exact ⟨_, ⟨k + 1, hs3.put (by omega) _, hlt3, rfl, by simp, by omega, rfl⟩, by omega⟩
   ·have ek : k = lenN d := by omega
    rw [ek] at hg1;have gi3 : h3.get i1 = some (.cells (ints (bitC d p)) true 0) := by rw [<- jks]; exact hg1
    refine zs1 e8 ?_;have gX : h3.get i1 = some (.cells (ints (jb4 (fun b => 1 - 2 * b) (bitC d p) 0)) true 0) := by rw [jdX]; exact gi3
    refine jam (fun j t h' => ∃ k : Nat, HSub h h' /\ i1 < h'.size /\ h'.get i1 = some (.cells (ints (jb4 (fun b => 1 - 2 * b) (bitC d p) k)) true 0) /\ t 8 = .slice i1 0 (lenN d) (.known (lenN d)) /\ t 68 = .slice i1 0 (lenN d) (.known (lenN d)) /\ t 69 = .int .i64 (lenN d) /\ t 70 = .int .i64 (k : Nat) /\ k <= lenN d /\ j = lenN d - k) (j0 := lenN d)
     ⟨0, hs3, kac gi3, gX, e8, rfl, rfl, rfl, by omega, rfl⟩ ?_
    rintro j u h' ⟨k, hs, hlt, hg, f8, e68, e69, e70, hk, hj⟩;have hml := jc6 (fun b => 1 - 2 * b) (bitC d p) k;refine zs2 e69 e70 ?_;refine kai (fun c1 => ?_) (fun c1 => ?_)
    ·have hk' : k < (bitC d p).length := by omega
     have hg2 := jeJ (fun b => 1 - 2 * b) hk';have hst := jeK (fun b => 1 - 2 * b) hk';have b01 := bC k;refine zs6 f8 e68 e69 e70 hg hg2 ?_;exact ⟨_, ⟨k + 1, hs.put (by omega) _, hlt, by rw [<- hst], by simp, by omega, rfl⟩, by omega⟩
    ·have : k = (bitC d p).length := by omega
     subst this;rw [jdY] at hg;refine zs1 f8 ?_;have cl := jbe d p;have F : Fresh h h' (.slice i1 0 (lenN d) (.known (lenN d))) (codeL d p) := ⟨hs, by omega, i1, by omega, by rw [cl], hg⟩;exact ⟨_, rfl, hs, by rw [if_pos trivial]; exact F.ri, fun _ => F⟩
  ·have cp' : ¬ (lenOk d = true /\ 1 <= p /\ p <= lenN d + 2) := fun h => cp h.2;rw [if_neg cp'] at pe;rw [pe];refine zf 76 B76 hC ?_; simp only [B76, zB]; refine zs ?_;refine kaf (jbA hC hd) eL (zs1 @tup2.eq_1 ?_)
   (repeat' (first | (refine kai (fun _ => ?_) (fun _ => ?_)) | (refine zs ?_)))
   all_goals first | exact ⟨.nilslice, by rw [jau], kak _, by rw [if_neg id]; exact kaA⟩ | omega
 ·have eL : lenE d = tup2 0 2 := by unfold lenE; rw [if_neg c]
  have cp' : ¬ (lenOk d = true /\ 1 <= p /\ p <= lenN d + 2) := fun h => c h.1;rw [if_neg cp'] at pe;rw [pe];refine zf 76 B76 hC ?_; simp only [B76, zB]; refine zs ?_;refine kaf (jbA hC hd) eL (zs1 @tup2.eq_1 ?_);exact ⟨.nilslice, by rw [jau], kak _, by rw [if_neg id]; exact kaA⟩
def plA (p : PlanP) (vp : AV) : AV := .agg [.int .i64 p.d, .int .i64 p.o, .int .i64 p.pb, .int .i64 p.w, .int .i64 p.mn, .int .i64 p.mx, .int .i64 p.nz, vp]
theorem jif (n : Int) (l : List Int) (k : Nat) (hk : k < l.length) : jbm n (l.take k) (l.drop k) = if ¬(1 <= l.getD k 0 /\ l.getD k 0 <= n + 2) then 2 else if ((l.take k).any fun y => l.getD k 0 == y) = true then 8 else jbm n (l.take (k + 1)) (l.drop (k + 1)) := by
 rw [List.drop_eq_getElem_cons hk, jbm, jaN hk, List.getD_eq_getElem?_getD, List.getElem?_eq_getElem hk];rfl
theorem jgl (hC : Has C TA) {x lo hi : Int} : ACalls C 237 [.int .i64 x, .int .i64 lo, .int .i64 hi] h (fun r h' => r = .bool (decide (lo <= x /\ x <= hi)) /\ h' = h) := by
 refine zf 237 B237 hC ?_; simp only [B237, zB]; refine zs ?_;by_cases c : lo <= x
 ·exact ze2 @gV_u c
 ·refine zs2 @gV_u c ?_;simp
theorem jdN (hC : Has C TA) {p : PlanP} (hp : PlI h v p) (h64 : p.ok64) : ACalls C 219 [v] h (fun r h' => r = .int .i64 p.err /\ h' = h) := by
 refine kae (P := fun r h' => r = .int .i64 p.err /\ HSub h h') ?_ (fun r h' hp => ⟨by rw [hp.1]; trivial, hp.2, hp.1, rfl⟩);obtain ⟨vp, rfl, R⟩ := hp;have v1 := R.one;have hlt := R.lt;obtain ⟨i1, i2, i3, i4, i5, i6, i7, i8⟩ := h64;have W := fun x lo hi h => jgl (x := x) (lo := lo) (hi := hi) (h := h) hC;have L := fun h => jbA hC (h := h) i1;have e2 : ¬ p.numsOk -> p.err = 2 := fun q => by unfold PlanP.err; rw [if_neg q]
 have s1 : ∀ b, HSub h (h.push b) := kab h;have e3 : p.numsOk -> p.err = if p.prns.length = 0 then 3 else if 8 < p.prns.length then 4 else jbm (lenN p.d) [] p.prns := fun q => by unfold PlanP.err; rw [if_pos q]
 have eN : p.numsOk ↔ lenOk p.d = true /\ (1 <= p.o /\ p.o <= 8) /\ (1 <= p.pb /\ p.pb <= 20) /\ (2 <= p.w /\ p.w <= 10) /\ (1 <= p.mn /\ p.mn <= p.mx) /\ p.mx <= 1000 /\ (0 <= p.nz /\ p.nz <= 100000) := Iff.rfl;generalize p.err = E at *;generalize p.numsOk = Q at *;obtain ⟨d, o, pb, w, mn, mx, nz, prns⟩ := p;dsimp only at *;have q1 : ∀ b, Q -> False -> HSub h (h.push b) := fun b _ f => f.elim;by_cases c1 : lenOk d = true
 ·have el : lenE d = tup2 (lenN d) 0 := by unfold lenE; rw [if_pos c1]
  simp only [el] at L;have hN := jbL c1;refine zf 219 B219 hC ?_; simp only [B219, zB]; refine zs ?_;refine kaa (L _) (zs1 @tup2.eq_1 ?_);refine kaa (W _ _ _ _) ?_;by_cases c2 : 1 <= o /\ o <= 8
  ·refine zs1 c2 ?_;refine kaa (W _ _ _ _) ?_;by_cases c3 : 1 <= pb /\ pb <= 20
   ·refine zs1 c3 ?_;refine kaa (W _ _ _ _) ?_;by_cases c4 : 2 <= w /\ w <= 10
    ·refine zs1 c4 ?_;refine kaa (W _ _ _ _) ?_;by_cases c5 : 1 <= mn /\ mn <= mx
     ·refine zs1 c5 ?_;by_cases c6 : mx <= 1000
      ·refine zs1 c6 ?_;refine kaa (W _ _ _ _) ?_;by_cases c7 : 0 <= nz /\ nz <= 100000
       ·refine zs1 c7 ?_;have e := e3 (eN.2 ⟨c1, c2, c3, c4, c5, c6, c7⟩);by_cases c8 : prns.length = 0
        ·rw [if_pos c8] at e;refine zs2 @R.len @c8 ?_;exact ⟨e.symm, s1 _⟩
        ·rw [if_neg c8] at e;by_cases c9 : 8 < prns.length
         ·rw [if_pos c9] at e;refine zs3 @R.len @c8 @c9 ?_;exact ⟨e.symm, s1 _⟩
         ·rw [if_neg c9] at e;refine zs3 @R.len @c8 @c9 ?_;refine jam (fun j t h' => HSub h h' /\ h.size < h'.size /\ h'.get h.size = some (.cells [.int .i64 d, .int .i64 o, .int .i64 pb, .int .i64 w, .int .i64 mn, .int .i64 mx, .int .i64 nz, vp] true 0) /\ ∃ k : Nat, jbm (lenN d) (prns.take k) (prns.drop k) = E /\ t 1 = .ptr h.size 0 /\ t 3 = .int .i64 (lenN d) /\ t 5 = .func 237 [] [] /\ t 58 = vp /\ t 59 = .int .i64 (prns.length : Nat) /\ t 60 = .int .i64 (k : Nat) /\ k <= prns.length /\ j = prns.length - k) (j0 := prns.length)
           ⟨s1 _, by simp, by exact ze, 0, e.symm, rfl, rfl, rfl, rfl, rfl, rfl, by omega, rfl⟩ ?_
          rintro j t h1 ⟨t1, hz, gp, k, ek, e1, e3, e5, e58, e59, e60, hk, hj⟩;refine zs2 e59 e60 ?_;refine kai (fun d1 => ?_) (fun d1 => ?_)
          ·have hk' : k < prns.length := by omega
           have R1 := R.mono t1;have ld := R1.load hk';have st := jif (lenN d) prns k hk';rw [ek] at st;have hx := i8 _ (jdB hk');have pt := R1.part_b (k2 := .i64) (b := (k : Int)) ⟨by omega, by omega⟩;obtain ⟨v', hv', R'⟩ := pt;rw [Int.toNat_natCast] at R';have ct := jcc hC (x := prns.getD k 0) R';have ctn := fun h2 (q : HSub h1 h2) => jcc hC (x := prns.getD k 0) (R'.mono q);generalize prns.getD k 0 = x at *;refine zs7 e1 e3 e5 e58 e60 @R1.idx ld ?_;refine kaa (W _ _ _ _) ?_;by_cases d2 : 1 <= x /\ x <= (lenN d : Int) + 2
           ·rw [if_neg (fun q => q d2)] at st;refine zs5 @d2 e1 gp hv' e60 ?_;refine kaa (ctn _ zr) ?_;by_cases d3 : ((prns.take k).any fun y => x == y) = true
            ·rw [if_pos d3] at st;refine zs1 d3 ?_;exact ⟨st.symm, (zh t1)⟩
            ·rw [if_neg d3] at st;have d4 : ((prns.take k).any fun y => x == y) = false := Bool.eq_false_iff.2 d3;refine zs7 d4 e1 e3 e5 e58 e59 e60 ?_;exact ⟨_, ⟨t1, hz, gp, k + 1, st.symm, by simp, by omega, rfl⟩, by omega⟩
           ·rw [if_pos d2] at st;refine zs1 @d2 ?_;exact ⟨st.symm, (zh t1)⟩
          ·have ek2 : k = prns.length := by omega
           subst ek2;rw [List.drop_length, jbm] at ek;refine zs ?_;exact ⟨ek, t1⟩
       ·have e := e2 (fun q => c7 (eN.1 q).2.2.2.2.2.2);refine zs1 c7 ?_;exact ⟨e.symm, s1 _⟩
      ·have e := e2 (fun q => c6 (eN.1 q).2.2.2.2.2.1);refine zs1 c6 ?_;exact ⟨e.symm, s1 _⟩
     ·have e := e2 (fun q => c5 (eN.1 q).2.2.2.2.1);refine zs1 c5 ?_;exact ⟨e.symm, s1 _⟩
    ·have e := e2 (fun q => c4 (eN.1 q).2.2.2.1);refine zs1 c4 ?_;exact ⟨e.symm, s1 _⟩
   ·have e := e2 (fun q => c3 (eN.1 q).2.2.1);refine zs1 c3 ?_;exact ⟨e.symm, s1 _⟩
  ·have e := e2 (fun q => c2 (eN.1 q).2.1);refine zs1 c2 ?_;exact ⟨e.symm, s1 _⟩
 ·have el : lenE d = tup2 0 2 := by unfold lenE; rw [if_neg c1]
  simp only [el] at L;have e := e2 (fun q => c1 (eN.1 q).1);refine zf 219 B219 hC ?_; simp only [B219, zB]; refine zs ?_;refine kaa (L _) (zs1 @tup2.eq_1 ?_);exact ⟨e.symm, s1 _⟩
theorem jms {l : List Int} {k i : Nat} {x : Int} (hk : k <= l.length) (hi : i < k) (h : l.getD i 0 = x) : ((l.take k).any fun y => x == y) = true := by
 rw [List.any_eq_true];refine ⟨x, ?_, by simp⟩;rw [<- h, List.getD_eq_getElem?_getD, List.getElem?_eq_getElem (by omega)];exact List.mem_take_iff_getElem.2 ⟨i, by omega, rfl⟩
theorem jiX {l : List Int} {k : Nat} {x : Int} (hk : k <= l.length) (h : ∀ i, i < k -> l.getD i 0 ≠ x) : ((l.take k).any fun y => x == y) = false := by
 rw [List.any_eq_false];intro y hy;obtain ⟨i, hi, e⟩ := List.mem_take_iff_getElem.1 hy;have := h i (by omega);rw [List.getD_eq_getElem?_getD, List.getElem?_eq_getElem (by omega)] at this;simp only [Option.getD_some] at this;rw [e] at this;simp only [beq_iff_eq];exact fun q => this q.symm
theorem jdu (hC : Has C TA) {p : PlanP} (hp : PlI h v p) (h64 : p.ok64) : ACalls C 220 [v] h (fun r h' => r = .int .i64 p.err /\ h' = h) := by
 refine kae (P := fun r h' => r = .int .i64 p.err /\ HSub h h') ?_ (fun r h' hp => ⟨by rw [hp.1]; trivial, hp.2, hp.1, rfl⟩);obtain ⟨vp, rfl, R⟩ := hp;have v1 := R.one;have hlt := R.lt;obtain ⟨i1, i2, i3, i4, i5, i6, i7, i8⟩ := h64;have L := fun h => jbc hC (h := h) i1;have e2 : ¬ p.numsOk -> p.err = 2 := fun q => by unfold PlanP.err; rw [if_neg q]
 have s1 : ∀ b, HSub h (h.push b) := kab h;have e3 : p.numsOk -> p.err = if p.prns.length = 0 then 3 else if 8 < p.prns.length then 4 else jbm (lenN p.d) [] p.prns := fun q => by unfold PlanP.err; rw [if_pos q]
 have eN : p.numsOk ↔ lenOk p.d = true /\ (1 <= p.o /\ p.o <= 8) /\ (1 <= p.pb /\ p.pb <= 20) /\ (2 <= p.w /\ p.w <= 10) /\ (1 <= p.mn /\ p.mn <= p.mx) /\ p.mx <= 1000 /\ (0 <= p.nz /\ p.nz <= 100000) := Iff.rfl;generalize p.err = E at *;generalize p.numsOk = Q at *;obtain ⟨d, o, pb, w, mn, mx, nz, prns⟩ := p;dsimp only at *;by_cases c1 : lenOk d = true
 ·have el : lenE d = tup2 (lenN d) 0 := by unfold lenE; rw [if_pos c1]
  simp only [el] at L;have hN := jbL c1;by_cases cA : (1 <= o /\ o <= 8) /\ (1 <= pb /\ pb <= 20) /\ (2 <= w /\ w <= 10)
  ·have n1 : ¬ o < 1 := by omega
   have n2 : ¬ 8 < o := by omega
   have n3 : ¬ pb < 1 := by omega
   have n4 : ¬ 20 < pb := by omega
   have n5 : ¬ w < 2 := by omega
   have n6 : ¬ 10 < w := by omega
   by_cases cB : (1 <= mn /\ mn <= mx) /\ mx <= 1000 /\ (0 <= nz /\ nz <= 100000)
   ·have m1 : ¬ mn < 1 := by omega
    have m2 : ¬ mx < mn := by omega
    have m3 : ¬ 1000 < mx := by omega
    have m4 : ¬ nz < 0 := by omega
    have m5 : ¬ 100000 < nz := by omega
    have e := e3 (eN.2 ⟨c1, cA.1, cA.2.1, cA.2.2, cB.1, cB.2.1, cB.2.2⟩);by_cases c8 : prns.length = 0
    ·rw [if_pos c8] at e;refine zf 220 B220 hC ?_; simp only [B220, zB]; refine zs ?_;refine kaa (L _) (zs7 @tup2.eq_1 @gV_u n1 n2 n3 n4 (zI n5 (zI n6 (zI m1 (zI m2 (zI m3 (zI m4 (zI m5 (zI @R.len @c8)))))))) ?_);exact ⟨e.symm, s1 _⟩
    ·rw [if_neg c8] at e;by_cases c9 : 8 < prns.length
     ·rw [if_pos c9] at e;refine zf 220 B220 hC ?_; simp only [B220, zB]; refine zs ?_;refine kaa (L _) (zs7 @tup2.eq_1 @gV_u n1 n2 n3 n4 (zI n5 (zI n6 (zI m1 (zI m2 (zI m3 (zI m4 (zI m5 (zI @R.len (zI @c8 @c9))))))))) ?_);exact ⟨e.symm, s1 _⟩
     ·rw [if_neg c9] at e;refine zf 220 B220 hC ?_; simp only [B220, zB]; refine zs ?_;refine kaa (L _) (zs7 @tup2.eq_1 @gV_u n1 n2 n3 n4 (zI n5 (zI n6 (zI m1 (zI m2 (zI m3 (zI m4 (zI m5 (zI @R.len (zI @c8 @c9))))))))) ?_);refine jam (fun j t h' => h' = h.push (.cells [.int .i64 d, .int .i64 o, .int .i64 pb, .int .i64 w, .int .i64 mn, .int .i64 mx, .int .i64 nz, vp] true 0) /\ ∃ k : Nat, jbm (lenN d) (prns.take k) (prns.drop k) = E /\ t 1 = .ptr h.size 0 /\ t 3 = .int .i64 (lenN d) /\ t 5 = .int .i64 (k : Nat) /\ k <= prns.length /\ j = prns.length - k) (j0 := prns.length)
       ⟨rfl, 0, e.symm, rfl, rfl, rfl, by omega, rfl⟩ ?_
      rintro j t h1 ⟨hh, k, ek, e1, e3, e5, hk, hj⟩;have gp : h1.get h.size = some (.cells [.int .i64 d, .int .i64 o, .int .i64 pb, .int .i64 w, .int .i64 mn, .int .i64 mx, .int .i64 nz, vp] true 0) := by rw [hh]; exact get_push_eq rfl
      have t1 : HSub h h1 := by rw [hh]; exact s1 _
      have R1 := R.mono t1;refine zs4 e1 e5 gp @R1.len ?_;refine kai (fun d1 => ?_) (fun d1 => ?_)
      ·have hk' : k < prns.length := by omega
       have ld := R1.load hk';have st := jif (lenN d) prns k hk';rw [ek] at st;have at1 := fun i (hi : i < k) (q : prns.getD i 0 = prns.getD k 0) => jms (by omega) hi q;have at2 := fun (q : ∀ i, i < k -> prns.getD i 0 ≠ prns.getD k 0) => jiX (x := prns.getD k 0) (by omega) q;generalize hx : prns.getD k 0 = x at *;by_cases d2 : 1 <= x /\ x <= (lenN d : Int) + 2
       ·rw [if_neg (fun q => q d2)] at st;have d3 : ¬ x < 1 := by omega
        have d4 : ¬ (lenN d : Int) + 2 < x := by omega
        refine zs7 e1 e3 e5 gp @R1.idx ld (zI @gV_u (zI d3 d4)) ?_;refine jam (fun j t h' => h' = h1 /\ ∃ i : Nat, (∀ m, m < i -> prns.getD m 0 ≠ x) /\ t 1 = .ptr h.size 0 /\ t 3 = .int .i64 (lenN d) /\ t 5 = .int .i64 (k : Nat) /\ t 6 = .int .i64 (i : Nat) /\ i <= k /\ j = k - i) (j0 := k)
         ⟨rfl, 0, fun m hm => by omega, e1, e3, e5, rfl, by omega, rfl⟩ ?_
        rintro j t h2 ⟨rfl, i, hm, e1, e3, e5, e6, hi, hj2⟩;refine zs2 e5 e6 ?_;refine kai (fun d5 => ?_) (fun d5 => ?_)
        ·have hi' : i < k := by omega
         have ld2 := R1.load (k := i) (by omega);by_cases d6 : prns.getD i 0 = x
         ·rw [if_pos (at1 i hi' d6)] at st;refine zs7 e1 e5 e6 gp @R1.idx ld (zI ld2 @d6) ?_;exact ⟨st.symm, t1⟩
         ·refine zs7 e1 e3 e5 e6 gp @R1.idx (zI ld (zI ld2 @d6)) ?_;refine ⟨_, ⟨i + 1, fun m hm2 => ?_, by simp, by omega, rfl⟩, by omega⟩;rcases Nat.lt_or_ge m i with y | y
          ·exact hm m y
          ·have : m = i := by omega
           subst this; exact d6
        ·have ei : i = k := by omega
         subst ei;rw [if_neg (by rw [at2 hm]; simp)] at st;refine zs4 e1 e3 e5 hh ?_;exact ⟨_, ⟨i + 1, st.symm, by simp, by omega, rfl⟩, by omega⟩
       ·rw [if_pos d2] at st;by_cases d3 : x < 1
        ·refine zs7 e1 e3 e5 gp @R1.idx ld (zI @gV_u d3) ?_;exact ⟨st.symm, t1⟩
        ·have d4 : (lenN d : Int) + 2 < x := by omega
         refine zs7 e1 e3 e5 gp @R1.idx ld (zI @gV_u (zI d3 d4)) ?_;exact ⟨st.symm, t1⟩
      ·have ek2 : k = prns.length := by omega
       rw [ek2, List.drop_length, jbm] at ek;refine zs ?_;exact ⟨ek, t1⟩
   ·have e := e2 (fun q => cB (eN.1 q).2.2.2.2);refine zf 220 B220 hC ?_; simp only [B220, zB]; refine zs ?_;refine kaa (L _) (zs7 @tup2.eq_1 @gV_u n1 n2 n3 n4 (zI n5 n6) ?_)
    (repeat' (first | (refine kai (fun _ => ?_) (fun _ => ?_)) | (refine zs1 @gV_u ?_)))
    all_goals first
     | exact ⟨e.symm, s1 _⟩
     | (exfalso; omega)
  ·have e := e2 (fun q => cA ⟨(eN.1 q).2.1, (eN.1 q).2.2.1, (eN.1 q).2.2.2.1⟩);refine zf 220 B220 hC ?_; simp only [B220, zB]; refine zs ?_;refine kaa (L _) (zs2 @tup2.eq_1 @gV_u ?_)
   (repeat' (first | (refine kai (fun _ => ?_) (fun _ => ?_)) | (refine zs1 @gV_u ?_)))
   all_goals first
    | exact ⟨e.symm, s1 _⟩
    | (exfalso; omega)
 ·have el : lenE d = tup2 0 2 := by unfold lenE; rw [if_neg c1]
  simp only [el] at L;have e := e2 (fun q => c1 (eN.1 q).1);refine zf 220 B220 hC ?_; simp only [B220, zB]; refine zs ?_;refine kaa (L _) (zs2 @tup2.eq_1 @gV_u ?_);exact ⟨e.symm, s1 _⟩
theorem jiY {p : PlanP} (h : p.err = 0) : p.numsOk := by
 unfold PlanP.err at h;split at h
 ·assumption
 ·omega
theorem jbi {p : PlanP} (h : p.numsOk) : 31 <= p.size /\ p.size <= 8184 /\ p.size = ((lenN p.d * p.o.toNat : Nat) : Int) := by
 have hN := jbL h.1;have ho := h.2.1;obtain ⟨o, eo⟩ := Int.eq_ofNat_of_zero_le (show 0 <= p.o by omega);have e : p.size = ((lenN p.d * p.o.toNat : Nat) : Int) := by
  unfold PlanP.size;rw [eo, Int.toNat_natCast]; exact (Int.natCast_mul _ _).symm
 have a1 : lenN p.d * 1 <= lenN p.d * p.o.toNat := Nat.mul_le_mul_left _ (by omega);have a2 : lenN p.d * p.o.toNat <= 1023 * 8 := Nat.mul_le_mul (by omega) (by omega);omega
theorem jdE (p : PlanP) (e : EmitP) : emitErr p e = 0 \/ emitErr p e = 2 \/ emitErr p e = 3 \/ emitErr p e = 4 \/ emitErr p e = 8 \/ emitErr p e = 18 := by
 unfold emitErr;have hp : p.err = 0 \/ p.err = 2 \/ p.err = 3 \/ p.err = 4 \/ p.err = 8 := by
  unfold PlanP.err;split
  ·split
   ·simp
   ·split
    ·simp
    ·have := jel (lenN p.d) p.prns [];omega
  ·simp
 split
 ·repeat' split
  all_goals simp
 ·omega
theorem jdv (hC : Has C TA) {p : PlanP} (hn : p.numsOk) (v1 : vp.one = true) : ACalls C 242 [plA p vp] h (fun r h' => r = .int .i64 p.size /\ h' = h) := by
 refine kae (P := fun r h' => r = .int .i64 p.size /\ HSub h h') ?_ (fun r h' hp => ⟨by rw [hp.1]; trivial, hp.2, hp.1, rfl⟩);have sr := jbi hn;have hN := jbL hn.1;have hl := jbf hn.1;have ho := hn.2.1;have e1 : ((lenN p.d + 1 : Nat) : Int) - 1 = lenN p.d := by omega
 have es : p.size = (lenN p.d : Int) * p.o := rfl;rw [es] at sr |-;unfold plA;obtain ⟨d, o, pb, w, mn, mx, nz, prns⟩ := p;dsimp only at *;refine zf 242 B242 hC ?_; simp only [B242, zB]; refine zs3 @Int.one_mul @hN.2.2 e1 ?_;exact kab _ _
theorem jdw (hC : Has C TA) {p : PlanP} (hn : p.numsOk) (v1 : vp.one = true) : ACalls C 244 [plA p vp] h (fun r h' => r = .int .i64 p.size /\ h' = h) := by
 refine kae (P := fun r h' => r = .int .i64 p.size /\ HSub h h') ?_ (fun r h' hp => ⟨by rw [hp.1]; trivial, hp.2, hp.1, rfl⟩);have sr := jbi hn;have hN := jbL hn.1;have hl := jbf hn.1;have ho := hn.2.1;have e1 : ((lenN p.d + 1 : Nat) : Int) - 1 = lenN p.d := by omega
 have es : p.size = (lenN p.d : Int) * p.o := rfl;rw [es] at sr |-;unfold plA;obtain ⟨d, o, pb, w, mn, mx, nz, prns⟩ := p;dsimp only at *;refine zf 244 B244 hC ?_; simp only [B244, zB]; refine zs3 @Int.one_mul @hN.2.2 e1 ?_;exact kab _ _
theorem jiZ (hC : Has C TA) {x : Int} : ACalls C 243 [.int .i64 x] h (fun r h' => r = .bool (x != 0 && x != 1) /\ h' = h) := by
 by_cases c : x = 0
 ·subst c;refine zf 243 B243 hC ?_; simp only [B243, zB]; refine zs1 @gV_u ?_;rfl
 ·by_cases c2 : x = 1
  ·subst c2;refine zf 243 B243 hC ?_; simp only [B243, zB]; refine zs1 @gV_u ?_;simp
  ·refine zf 243 B243 hC ?_; simp only [B243, zB]; refine zs3 @gV_u c c2 ?_;simp [c, c2]
theorem jkt (hC : Has C TA) {w : AV} {p : PlanP} {e : EmitP} (hp : PlI h v p) (he : EmI h w e) (h64 : p.ok64) (h65 : e.ok64) : ACalls C 223 [v, w] h (fun r h' => r = .int .i64 (emitErr p e) /\ h' = h) := by
 refine kae (P := fun r h' => r = .int .i64 (emitErr p e) /\ HSub h h') ?_ (fun r h' hp => ⟨by rw [hp.1]; trivial, hp.2, hp.1, rfl⟩);have kc := fun h1 (q : HSub h h1) => jdN hC (hp.mono q) h64;have pr := jdE p e;obtain ⟨vp, rfl, R⟩ := hp;obtain ⟨vb, rfl, B⟩ := he;have v1 := R.one;have b1 := B.one;have hlt := R.lt;have blt := B.lt;have hE : emitErr p e = if p.err = 0 then if (p.prns.any fun y => e.prn == y) = true then if e.numsOk p then if 10000 < e.bits.length then 4 else if e.bits.any (fun b => b != 0 && b != 1) = true then 3 else 0 else 2 else 18 else p.err := rfl
 generalize emitErr p e = E at *;have kC := fun h1 (q : HSub h h1) => jcc hC (x := e.prn) (R.mono q);have kS := fun (q : p.numsOk) h1 => jdv hC (vp := vp) (h := h1) q v1;unfold plA at kS;by_cases c : p.err = 0
 ·have hn := jiY c;have kS := kS hn;rw [if_pos c] at hE;rw [c] at kc;have asks : ∀ h1 (q : HSub h h1), Asks C (.func 243 [] []) (fun b => b != 0 && b != 1) e.bits h1 := fun h1 q => ⟨243, [], rfl, fun x _ => jiZ hC⟩;have kF := fun h1 (q : HSub h h1) => jeL hC (B.mono q) (asks h1 q);have g1 : (p.prns.any fun y => e.prn == y) = false -> E = 18 := fun q => by rw [hE, if_neg (by rw [q]; decide)]
  have g2 : (p.prns.any fun y => e.prn == y) = true -> ¬ ((0 <= e.dl /\ e.dl < p.size) /\ (-64 <= e.rt /\ e.rt <= 64) /\ (p.mn <= e.amp /\ e.amp <= p.mx) /\ (0 <= e.ba /\ e.ba < p.pb)) -> E = 2 := fun q q2 => by rw [hE, if_pos q, if_neg (show ¬ e.numsOk p from q2)]
  have g3 : (p.prns.any fun y => e.prn == y) = true -> ((0 <= e.dl /\ e.dl < p.size) /\ (-64 <= e.rt /\ e.rt <= 64) /\ (p.mn <= e.amp /\ e.amp <= p.mx) /\ (0 <= e.ba /\ e.ba < p.pb)) -> E = if 10000 < e.bits.length then 4 else if e.bits.any (fun b => b != 0 && b != 1) = true then 3 else 0 := fun q q2 => by rw [hE, if_pos q, if_pos (show e.numsOk p from q2)]
  clear hE;generalize p.size = sz at *;obtain ⟨d, o, pb, wo, mn, mx, nz, prns⟩ := p;obtain ⟨prn, dl, rt, st, ph, amp, ba, bits⟩ := e;dsimp only at *;generalize (prns.any fun y => prn == y) = b at *;generalize (bits.any fun b => b != 0 && b != 1) = z at *;refine zf 223 B223 hC ?_; simp only [B223, zB]; refine zs ?_;refine kaa (kc _ ((kab _ _).push _)) (zs ?_);refine kaa (kC _ ((kab _ _).push _)) ?_;have sH : ∀ b c, HSub h ((h.push b).push c) := fun b c => (kab h b).push c;cases b
  ·have g := g1 rfl;refine zs ?_;exact ⟨g.symm, sH _ _⟩
  ·have g2 := g2 rfl;have g3 := g3 rfl;refine zs ?_;by_cases c1 : 0 <= dl
   ·have c1' : ¬ dl < 0 := by omega
    refine zs1 @c1' ?_;refine kaa (kS _) ?_;by_cases c2 : (dl < sz) /\ (-64 <= rt /\ rt <= 64) /\ (mn <= amp /\ amp <= mx) /\ (0 <= ba /\ ba < pb)
    ·have n1 : ¬ sz <= dl := by omega
     have n2 : ¬ rt < -64 := by omega
     have n3 : ¬ 64 < rt := by omega
     have n4 : ¬ amp < mn := by omega
     have n5 : ¬ mx < amp := by omega
     have n6 : ¬ ba < 0 := by omega
     have n7 : ¬ pb <= ba := by omega
     have g := g3 ⟨⟨c1, c2.1⟩, c2.2⟩;by_cases c3 : 10000 < bits.length
     ·rw [if_pos c3] at g;refine zs7 n1 n2 n3 n4 n5 n6 (zI n7 (zI @B.len @c3)) ?_;exact ⟨g.symm, sH _ _⟩
     ·rw [if_neg c3] at g;refine zs7 n1 n2 n3 n4 n5 n6 (zI n7 (zI @B.len @c3)) ?_;refine kaa (kF _ (sH _ _)) ?_;cases z
      ·refine zs ?_;exact ⟨g.symm, sH _ _⟩
      ·refine zs ?_;exact ⟨g.symm, sH _ _⟩
    ·have g := g2 (fun q => c2 ⟨q.1.2, q.2⟩)
     (repeat' (first | (refine kai (fun _ => ?_) (fun _ => ?_)) | (refine zs ?_)))
     all_goals first
      | exact ⟨g.symm, sH _ _⟩
      | (exfalso; omega)
   ·have g := g2 (fun q => c1 q.1.1);have c1' : dl < 0 := by omega
    refine zs1 @c1' ?_;exact ⟨g.symm, sH _ _⟩
 ·rw [if_neg c] at hE;subst hE;generalize p.err = E at *;obtain ⟨d, o, pb, wo, mn, mx, nz, prns⟩ := p;obtain ⟨prn, dl, rt, st, ph, amp, ba, bits⟩ := e;dsimp only at *;refine zf 223 B223 hC ?_; simp only [B223, zB]; refine zs ?_;refine kaa (kc _ ((kab _ _).push _)) (zs1 c ?_);exact ((kab _ _).push _)
end Go.Ae
