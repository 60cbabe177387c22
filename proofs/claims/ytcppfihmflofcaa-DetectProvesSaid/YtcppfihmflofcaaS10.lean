/- Texts of the proof, part 10: a second reading of the lowered code, proved sound, and what the functions compute. -/
import Derived.OpenShut
import Derived.ChangeSlices
import Derived.ProofKit
import Derived.Test.YtcppfihmflofcaaS9
/- A statement's arguments, as they come in, and the abstract heap that stands for them. -/
namespace Go.Ae
open Go.ChangeShapes Go.WideShapes Go.ChangeAt Go.RowKit
theorem trodAll_stays {H : Type} {enc : TypeId × Value → H} {P : Program} (hl : laidOutB P = true) {W W' : World} (hb : Below W.heap.size W W') : ∀ {ts : List TypeId} {vs : List Value} {ds : List (DataW H)} {ps : List MemPlace},
  (ts.all fun t => P.readableRec t && decide (t < P.types.size)) = true → DataW.TrodAll enc P W 0 (fun _ => true) true ts vs ds ps → (∀ x ∈ ps, x.block < W.heap.size) →
  DataW.TrodAll enc P W' 0 (fun b => decide (b < W.heap.size)) true ts vs ds ps
 | [], vs, ds, ps, _, h, _ => by
  obtain ⟨rfl, rfl, rfl⟩ := trodAll_nil h
  exact trodAll_mk0
 | t :: ts, vs, ds, ps, ht, h, hlt => by
  obtain ⟨v, vs', d, ds', p, q, rfl, rfl, rfl, h1, h2⟩ := trodAll_cons h
  simp only [List.all_cons, Bool.and_eq_true, decide_eq_true_eq] at ht
  exact ⟨p, q, Below.trod hl ht.1.1 ht.1.2 h1 hb (fun x hx => hlt x (List.mem_append_left _ hx)), trodAll_stays hl hb (by simpa using ht.2) h2 (fun x hx => hlt x (List.mem_append_right _ hx)), rfl⟩
def argHeap (bs : List (Option (List AV))) : Heap := ⟨bs.length, fun i => match bs[i]? with | some (some vs) => some (.cells vs false 0) | _ => none, fun i hi => by rw [List.getElem?_eq_none hi]⟩
theorem argHeap_get {bs : List (Option (List AV))} {i : Nat} {vs : List AV} (h : bs[i]? = some (some vs)) : (argHeap bs).get i = some (.cells vs false 0) := by simp only [argHeap, h]
theorem argHeap_some {bs : List (Option (List AV))} {i : Nat} {b : ABlk} (h : (argHeap bs).get i = some b) : ∃ vs, bs[i]? = some (some vs) ∧ b = .cells vs false 0 := by
 simp only [argHeap] at h
 split at h
 ·rename_i vs hv; cases h; exact ⟨vs, hv, rfl⟩
 ·cases h
theorem rel_args {C : Ctx} {env : Env} {w : World} (bs : List (Option (List AV))) (hlt : ∀ i vs, bs[i]? = some (some vs) → (env i).blk < w.heap.size ∧ (∀ v ∈ vs, v.bel (argHeap bs).ok) ∧
  ∀ k v, vs[k]? = some v → w.cell? ⟨(env i).blk, (env i).sh + k, none⟩ = some (v.val C.lk env)) : Rel C ⟨fun r => r < w.heap.size, fun _ => False⟩ env (argHeap bs) w := by
 refine ⟨?_, ?_, ?_, ?_, ?_, fun r hr => hr, ?_, fun r hr => hr.elim⟩
 ·intro i b hb
  obtain ⟨vs, hv, rfl⟩ := argHeap_some hb
  exact (hlt i vs hv).1
 ·intro i b hb
  obtain ⟨vs, hv, rfl⟩ := argHeap_some hb
  exact (hlt i vs hv).2.2
 ·intro i j b c hb hc hij hw
  obtain ⟨vs, hv, rfl⟩ := argHeap_some hb
  cases hw
 ·intro i b hb
  obtain ⟨vs, hv, rfl⟩ := argHeap_some hb
  exact (hlt i vs hv).2.1
 ·intro i b hb hw
  obtain ⟨vs, hv, rfl⟩ := argHeap_some hb
  cases hw
 ·intro i b hb hd hf
  exact hf
structure InList where
 l : List Int
 nil : Bool
 blk : Nat
 off : Nat
 cap : Nat
def InList.val (x : InList) : Value := if x.nil then .slice none 0 0 else .slice (some ⟨x.blk, x.off, none⟩) x.l.length x.cap
def InList.av (x : InList) (i : Nat) : AV := if x.nil then .nilslice else .slice i 0 x.l.length (.known x.cap)
def InList.row (x : InList) : Option (List AV) := if x.nil then none else some (ints x.l)
def InList.eb (x : InList) : EB := ⟨x.blk, x.off, 0⟩
structure InList.ok (x : InList) (w : World) : Prop where
 isNil : x.nil = true → x.l = []
 cap : x.nil = false → x.l.length ≤ x.cap
 lt : x.l.length < 9223372036854775808
 blk : x.nil = false → x.blk < w.heap.size
 cell : ∀ k n, x.l[k]? = some n → w.cell? ⟨x.blk, x.off + k, none⟩ = some (.int .i64 n)
 num : ∀ n ∈ x.l, -9223372036854775808 ≤ n ∧ n ≤ 9223372036854775807
theorem wf_i64 {n : Int} (h : (Lit.int .i64 n).wf = true) : -9223372036854775808 ≤ n ∧ n ≤ 9223372036854775807 := by
 have : (decide (IntKind.i64.min ≤ n) && decide (n ≤ IntKind.i64.max)) = true := h
 simp only [Bool.and_eq_true, decide_eq_true_eq] at this
 exact this
theorem open_list {H : Type} {enc : TypeId × Value → H} {P : Program} {w : World} {b0 : Nat} {t e : TypeId} {v : Value} {d : DataW H} {ps : List MemPlace} (ht : P.underlying t = some (.slice e)) (he : P.underlying e = some (.int .i64)) (hc : P.cellsOf e = 1)
  (hval : Value.okWide P w .any b0 t v) (hd : DataW.Trod enc P w 0 (fun _ => true) true t v d ps) : ∃ x : InList, v = x.val ∧ x.ok w := by
 have hval' := hval
 obtain ⟨a0, len, cap, rfl⟩ := okWide_slice ht hval
 obtain ⟨fuel, hf⟩ := hd
 rcases open_ints ht he hc hf with ⟨hcs, _⟩ | ⟨a, len', cap', zs, hcs, _, hl, hm, hz, _, hcell, hwz⟩
 ·simp only [Value.cells, Array.toList] at hcs
  cases hcs
  exact ⟨⟨[], true, 0, 0, 0⟩, rfl, ⟨fun _ => rfl, fun h => (by cases h), by simp, fun h => (by cases h), by simp, by simp⟩⟩
 ·simp only [Value.cells, Array.toList] at hcs
  cases hcs
  have hlen : zs.length = cap := by simpa using hz
  have hok : Cell.ok P w .any b0 t (.slice (some a) len cap) := by
   simp only [Value.okWide, ht, Cell.okWide] at hval'
   exact hval'
  simp only [Cell.ok, ht] at hok
  obtain ⟨_, _, _, hspot, row, cells, hsh, _⟩ := hok
  have hblk : a.block < w.heap.size := by
   unfold World.shape? at hsh
   rcases Nat.lt_or_ge a.block w.heap.size with h | h
   ·exact h
   ·rw [Array.getElem?_eq_none h] at hsh; cases hsh
  have hmax : cap ≤ 9223372036854775807 := hm
  obtain ⟨ab, ao, asp⟩ := a
  simp only at hspot hblk
  subst hspot
  have hlt : (zs.take len).length = len := by simp; omega
  refine ⟨⟨zs.take len, false, ab, ao, cap⟩, ?_, ⟨fun h => (by cases h), fun _ => (by rw [hlt]; exact hl), (by rw [hlt]; omega), fun _ => hblk, ?_, ?_⟩⟩
  ·simp only [InList.val, Bool.false_eq_true, if_false, hlt]
  ·intro k n hk
   rw [List.getElem?_take] at hk
   split at hk
   ·rename_i hkl
    have h2 : k < zs.length := by omega
    have := hcell k h2
    rw [List.getD_eq_getElem?_getD, hk] at this
    by_cases hk0 : k = 0
    ·subst hk0; simpa [Addr.add] using this
    ·simpa [Addr.add, hk0] using this
   ·cases hk
  ·intro n hn
   exact wf_i64 (hwz n (List.mem_of_mem_take hn))
theorem InList.ri {x : InList} {w : World} {bs : List (Option (List AV))} {i : Nat} (hx : x.ok w) (hi : bs[i]? = some x.row) : RI (argHeap bs) (x.av i) x.l := by
 unfold InList.av
 cases hn : x.nil with
 | true =>
  rw [hx.isNil hn, if_pos rfl]; exact RI.nil
 | false =>
  rw [if_neg (by simp)]
  refine RI.known (argHeap_get (hi.trans ?_)) ⟨rfl, hx.lt⟩ (hx.cap hn)
  simp [InList.row, hn]
theorem InList.av_val {x : InList} {i : Nat} {lk : Nat → FuncId} {env : Env} (he : env i = x.eb) : (x.av i).val lk env = x.val := by
 unfold InList.av InList.val
 cases hn : x.nil with
 | true => rfl
 | false => simp [AV.val, he, InList.eb, Cap.at]
theorem InList.av_bel {x : InList} {w : World} {bs : List (Option (List AV))} {i : Nat} (hi : bs[i]? = some x.row) : (x.av i).bel (argHeap bs).ok := by
 unfold InList.av
 cases hn : x.nil with
 | true => trivial
 | false =>
  show (argHeap bs).ok i
  have : bs[i]? = some (some (ints x.l)) := hi.trans (by simp [InList.row, hn])
  simp [Heap.ok, argHeap_get this]
theorem InList.rowOk {C : Ctx} {x : InList} {w : World} {bs : List (Option (List AV))} {env : Env} {i : Nat} {vs : List AV} (hx : x.ok w) (he : env i = x.eb) (hv : x.row = some vs) : (env i).blk < w.heap.size ∧ (∀ v ∈ vs, v.bel (argHeap bs).ok) ∧
  ∀ k v, vs[k]? = some v → w.cell? ⟨(env i).blk, (env i).sh + k, none⟩ = some (v.val C.lk env) := by
 unfold InList.row at hv
 split at hv
 ·cases hv
 ·rename_i hn
  cases hv
  rw [he]
  refine ⟨hx.blk (by simpa using hn), ?_, ?_⟩
  ·intro v hv
   obtain ⟨n, _, rfl⟩ := List.mem_map.1 hv
   trivial
  ·intro k v hk
   simp only [ints, List.getElem?_map, Option.map_eq_some_iff] at hk
   obtain ⟨n, hn, rfl⟩ := hk
   exact hx.cell k n hn
end Go.Ae
/- A statement's arguments: structures, and lists of samples. -/
namespace Go.Ae
open Go.ChangeShapes Go.WideShapes Go.ChangeAt Go.RowKit
inductive Lf where
 | int (k : IntKind)
 | bool
 | ints
 deriving DecidableEq
def Fits (w : World) : List Lf → List Value → Prop
 | [], vs => vs = []
 | .int k :: ls, vs => ∃ n rest, vs = .int k n :: rest ∧ (Lit.int k n).wf = true ∧ Fits w ls rest
 | .bool :: ls, vs => ∃ b rest, vs = .bool b :: rest ∧ Fits w ls rest
 | .ints :: ls, vs => ∃ (x : InList) (rest : List Value), vs = x.val :: rest ∧ x.ok w ∧ Fits w ls rest
theorem Fits.append {w : World} : ∀ {ls ms : List Lf} {vs us : List Value}, Fits w ls vs → Fits w ms us → Fits w (ls ++ ms) (vs ++ us)
 | [], ms, vs, us, h, g => by cases h; exact g
 | .int k :: ls, ms, vs, us, ⟨n, rest, e, a, b⟩, g => ⟨n, rest ++ us, by rw [e]; rfl, a, b.append g⟩
 | .bool :: ls, ms, vs, us, ⟨n, rest, e, b⟩, g => ⟨n, rest ++ us, by rw [e]; rfl, b.append g⟩
 | .ints :: ls, ms, vs, us, ⟨n, rest, e, a, b⟩, g => ⟨n, rest ++ us, by rw [e]; rfl, a, b.append g⟩
def Side (w : World) (cs : List Value) : Prop := ∀ a len cap, Value.slice (some a) len cap ∈ cs → a.spot = none ∧ a.block < w.heap.size
theorem Side.part {w : World} {cs : List Value} (h : Side w cs) (a b : Nat) : Side w ((cs.drop a).take b) := fun x len cap hx => h x len cap (List.mem_of_mem_drop (List.mem_of_mem_take hx))
section
variable {H : Type} {enc : TypeId × Value → H} {P : Program} {w : World}
end
/-! ### Lists of samples -/
def smps (l : List (Int × Int)) : List AV := l.flatMap fun p => [.int .i64 p.1, .int .i64 p.2]
theorem smps_cons {p : Int × Int} {l : List (Int × Int)} : smps (p :: l) = .int .i64 p.1 :: .int .i64 p.2 :: smps l := rfl
theorem smps_length {l : List (Int × Int)} : (smps l).length = l.length * 2 := by
 induction l with
 | nil => rfl
 | cons p l ih => rw [smps_cons, List.length_cons, List.length_cons, List.length_cons, ih]; omega
theorem smps_get0 : ∀ {l : List (Int × Int)} {k : Nat}, (smps l)[k * 2]? = (l[k]?).map fun p => .int .i64 p.1
 | [], k => by simp [smps]
 | p :: l, 0 => rfl
 | p :: l, k + 1 => by rw [smps_cons, show (k + 1) * 2 = k * 2 + 1 + 1 by omega, List.getElem?_cons_succ, List.getElem?_cons_succ, List.getElem?_cons_succ]; exact smps_get0
theorem smps_get1 : ∀ {l : List (Int × Int)} {k : Nat}, (smps l)[k * 2 + 1]? = (l[k]?).map fun p => .int .i64 p.2
 | [], k => by simp [smps]
 | p :: l, 0 => rfl
 | p :: l, k + 1 => by rw [smps_cons, show (k + 1) * 2 + 1 = k * 2 + 1 + 1 + 1 by omega, List.getElem?_cons_succ, List.getElem?_cons_succ, List.getElem?_cons_succ]; exact smps_get1
theorem smps_append {l m : List (Int × Int)} : smps l ++ smps m = smps (l ++ m) := by simp [smps]
theorem smps_snoc {l : List (Int × Int)} {x y : Int} : smps l ++ [.int .i64 x, .int .i64 y] = smps (l ++ [(x, y)]) := by rw [← smps_append]; rfl
def SI (h : Heap) (v : AV) (l : List (Int × Int)) : Prop := SL h 2 v l.length (smps l)
structure InSmp where
 l : List (Int × Int)
 nil : Bool
 blk : Nat
 off : Nat
 cap : Nat
def InSmp.val (x : InSmp) : Value := if x.nil then .slice none 0 0 else .slice (some ⟨x.blk, x.off, none⟩) x.l.length x.cap
def InSmp.av (x : InSmp) (i : Nat) : AV := if x.nil then .nilslice else .slice i 0 x.l.length (.known x.cap)
def InSmp.row (x : InSmp) : Option (List AV) := if x.nil then none else some (smps x.l)
def InSmp.eb (x : InSmp) : EB := ⟨x.blk, x.off, 0⟩
structure InSmp.ok (x : InSmp) (w : World) : Prop where
 isNil : x.nil = true → x.l = []
 cap : x.nil = false → x.l.length ≤ x.cap
 lt : x.l.length < 9223372036854775808
 blk : x.nil = false → x.blk < w.heap.size
 cell : ∀ k p, x.l[k]? = some p → w.cell? ⟨x.blk, x.off + k * 2, none⟩ = some (.int .i64 p.1) ∧ w.cell? ⟨x.blk, x.off + k * 2 + 1, none⟩ = some (.int .i64 p.2)
 num : ∀ p ∈ x.l, (-9223372036854775808 ≤ p.1 ∧ p.1 ≤ 9223372036854775807) ∧ (-9223372036854775808 ≤ p.2 ∧ p.2 ≤ 9223372036854775807)
section
variable {H : Type} {enc : TypeId × Value → H} {P : Program} {w : World}
end
theorem SI.known {h : Heap} {l : List (Int × Int)} {i : Nat} {wr : Bool} {u c m : Nat} (hg : h.get i = some (.cells (smps l) wr u)) (hm : m = l.length ∧ m < 9223372036854775808) (hc : m ≤ c) : SI h (.slice i 0 m (.known c)) l := by
 obtain ⟨rfl, hm⟩ := hm
 refine ⟨smps_length, hm, .inr ⟨i, 0, _, _, wr, u, rfl, hg, by rw [smps_length]; omega, ?_, hc⟩⟩
 exact cut_all (by rw [smps_length])
theorem SI.nil {h : Heap} : SI h .nilslice [] := ⟨rfl, by decide, .inl ⟨rfl, rfl⟩⟩
theorem InSmp.ri {x : InSmp} {w : World} {bs : List (Option (List AV))} {i : Nat} (hx : x.ok w) (hi : bs[i]? = some x.row) : SI (argHeap bs) (x.av i) x.l := by
 unfold InSmp.av
 cases hn : x.nil with
 | true =>
  rw [hx.isNil hn, if_pos rfl]; exact SI.nil
 | false =>
  rw [if_neg (by simp)]
  refine SI.known (argHeap_get (hi.trans ?_)) ⟨rfl, hx.lt⟩ (hx.cap hn)
  simp [InSmp.row, hn]
theorem InSmp.av_val {x : InSmp} {i : Nat} {lk : Nat → FuncId} {env : Env} (he : env i = x.eb) : (x.av i).val lk env = x.val := by
 unfold InSmp.av InSmp.val
 cases hn : x.nil with
 | true => rfl
 | false => simp [AV.val, he, InSmp.eb, Cap.at]
theorem InSmp.av_bel {x : InSmp} {w : World} {bs : List (Option (List AV))} {i : Nat} (hi : bs[i]? = some x.row) : (x.av i).bel (argHeap bs).ok := by
 unfold InSmp.av
 cases hn : x.nil with
 | true => trivial
 | false =>
  show (argHeap bs).ok i
  have : bs[i]? = some (some (smps x.l)) := hi.trans (by simp [InSmp.row, hn])
  simp [Heap.ok, argHeap_get this]
theorem InSmp.rowOk {C : Ctx} {x : InSmp} {w : World} {bs : List (Option (List AV))} {env : Env} {i : Nat} {vs : List AV} (hx : x.ok w) (he : env i = x.eb) (hv : x.row = some vs) : (env i).blk < w.heap.size ∧ (∀ v ∈ vs, v.bel (argHeap bs).ok) ∧
  ∀ k v, vs[k]? = some v → w.cell? ⟨(env i).blk, (env i).sh + k, none⟩ = some (v.val C.lk env) := by
 unfold InSmp.row at hv
 split at hv
 ·cases hv
 ·rename_i hn
  cases hv
  rw [he]
  refine ⟨hx.blk (by simpa using hn), ?_, ?_⟩
  ·intro v hv
   obtain ⟨p, _, hp⟩ := List.mem_flatMap.1 hv
   simp only [List.mem_cons, List.not_mem_nil, or_false] at hp
   rcases hp with rfl | rfl <;> trivial
  ·intro k v hk
   rcases Nat.mod_two_eq_zero_or_one k with e | e
   ·obtain ⟨j, rfl⟩ : ∃ j, k = j * 2 := ⟨k / 2, by omega⟩
    rw [smps_get0, Option.map_eq_some_iff] at hk
    obtain ⟨p, hp, rfl⟩ := hk
    exact (hx.cell j p hp).1
   ·obtain ⟨j, rfl⟩ : ∃ j, k = j * 2 + 1 := ⟨k / 2, by omega⟩
    rw [smps_get1, Option.map_eq_some_iff] at hk
    obtain ⟨p, hp, rfl⟩ := hk
    exact (hx.cell j p hp).2
end Go.Ae
/- The rules for the simplifier, bundled. Printed by a program. -/
namespace Go.Ae
theorem wpPre :
  (∀ {C : Ctx} {nt : Nat} {rd : Option Nat} {a b : ACode} {Q : Out → St → Prop} {st : St}, @Eq Prop (wp C nt rd (ACode.seq a b) Q st) (wp C nt rd a (thenO (wp C nt rd b Q) Q) st)) ∧
  (∀ {C : Ctx} {nt : Nat} {rd : Option Nat} {ops : List AOper} {Q : Out → St → Prop} {st : St}, @Eq Prop (wp C nt rd (ACode.region ops) Q st) (wpOps C ops (Q Out.normal) st)) ∧
  (∀ {C : Ctx} {nt : Nat} {rd : Option Nat} {n : Nat} {ds : List DItem} {Q : Out → St → Prop} {st : St}, @Eq Prop (wp C nt rd (ACode.draw n ds) Q st) (wpDraw C n ds (Q Out.normal) st)) ∧
  (∀ {C : Ctx} {nt : Nat} {rd : Option Nat} {c : AOpd} {a b : ACode} {Q : Out → St → Prop} {st : St}, @Eq Prop (wp C nt rd (ACode.cond c a b) Q st) (@condV (AOpd.ev (St.t st) c) (Hold.mk (wp C nt rd a Q st)) (Hold.mk (wp C nt rd b Q st)))) ∧
  (∀ {C : Ctx} {nt : Nat} {rd : Option Nat} {id : Nat} {c : ACode} {Q : Out → St → Prop} {st : St}, @Eq Prop (wp C nt rd (ACode.block id c) Q st) (wp C nt rd c (blockO id Q) st)) ∧
  (∀ {C : Ctx} {nt : Nat} {rd : Option Nat} {Q : Out → St → Prop} {st : St}, @Eq Prop (wp C nt rd ACode.skip Q st) (Q Out.normal st)) ∧
  (∀ {C : Ctx} {nt : Nat} {rd : Option Nat} {id : Nat} {Q : Out → St → Prop} {st : St}, @Eq Prop (wp C nt rd (ACode.exit id) Q st) (Q (Out.exit id) st)) ∧
  (∀ {C : Ctx} {nt : Nat} {rd : Option Nat} {Q : Out → St → Prop} {st : St}, @Eq Prop (wp C nt rd ACode.ret Q st) (Q Out.ret st)) ∧
  (∀ {C : Ctx} {nt : Nat} {rd : Option Nat} {f : AOpd} {ps : List Nat} {a b : ACode} {Q : Out → St → Prop} {st : St}, @Eq Prop (wp C nt rd (ACode.rangeFunc f ps a b) Q st) (wpRange C nt rd (AOpd.ev (St.t st) f) ps a b Q st)) ∧
  (∀ {K : St → Prop} {Q : Out → St → Prop} {st : St}, @Eq Prop (thenO K Q Out.normal st) (K st)) ∧
  (∀ {K : St → Prop} {Q : Out → St → Prop} {id : Nat} {st : St}, @Eq Prop (thenO K Q (Out.exit id) st) (Q (Out.exit id) st)) ∧
  (∀ {K : St → Prop} {Q : Out → St → Prop} {st : St}, @Eq Prop (thenO K Q Out.ret st) (Q Out.ret st)) ∧
  (∀ {i : Nat} {Q : Out → St → Prop} {st : St}, @Eq Prop (blockO i Q (Out.exit i) st) (Q Out.normal st)) ∧
  (∀ {i j : Nat} {Q : Out → St → Prop} {st : St}, @Eq Bool (@BEq.beq Nat (@instBEqOfDecidableEq Nat instDecidableEqNat) j i) false → @Eq Prop (blockO i Q (Out.exit j) st) (Q (Out.exit j) st)) ∧
  (∀ {i : Nat} {Q : Out → St → Prop} {st : St}, @Eq Prop (blockO i Q Out.normal st) (Q Out.normal st)) ∧
  (∀ {i : Nat} {Q : Out → St → Prop} {st : St}, @Eq Prop (blockO i Q Out.ret st) (Q Out.ret st)) ∧
  (∀ {C : Ctx} {K : St → Prop} {st : St}, @Eq Prop (wpOps C (@List.nil AOper) K st) (K st)) ∧
  (∀ {C : Ctx} {d : Option Nat} {op : AOp} {os : List AOper} {K : St → Prop} {st : St}, @Eq Prop (wpOps C (@List.cons AOper (AOper.mk d op (@none (Prod Nat Bool))) os) K st) (wpOp C (@none Nat) (AOper.mk d op (@none (Prod Nat Bool))) (wpOps C os K) st)) ∧
  (∀ {C : Ctx} {d : Option Nat} {op : AOp} {s : Nat} {w : Bool} {os : List AOper} {K : St → Prop} {st : St}, @Eq Prop (wpOps C (@List.cons AOper (AOper.mk d op (@some (Prod Nat Bool) (@Prod.mk Nat Bool s w))) os) K st) (@gV (St.t st s) w (Hold.mk (wpOp C (@none Nat) (AOper.mk d op (@some (Prod Nat Bool) (@Prod.mk Nat Bool s w))) (wpOps C os K) st)) (Hold.mk (wpOps C os K (St.put st d AV.undef))))) ∧
  (∀ {C : Ctx} {nid d : Option Nat} {f : AOpd} {args : List AOpd} {g : Option (Prod Nat Bool)} {K : St → Prop} {st : St}, @Eq Prop (wpOp C nid (AOper.mk d (AOp.call f args) g) K st) (@Call C (AOpd.ev (St.t st) f) (@List.map AOpd AV (AOpd.ev (St.t st)) args) (St.h st) (HoldR.mk fun r h' => K (St.put (St.mk (St.t st) h' (St.m st)) d r)))) ∧
  (∀ {C : Ctx} {nid d : Option Nat} {op : AOp} {g : Option (Prod Nat Bool)} {K : St → Prop} {st : St}, @Eq Bool (AOp.isCall op) false → @Eq Prop (wpOp C nid (AOper.mk d op g) K st) (@opR nid op (AOpd.ev (St.t st)) (St.h st) (HoldR.mk fun v h' => K (St.put (St.mk (St.t st) h' (St.m st)) d v)))) ∧
  (∀ {t : Nat → AV} {h : Heap} {m : List Nat} {s : Nat} {v : AV}, @Eq St (St.put (St.mk t h m) (@some Nat s) v) (St.mk (upd t s v) h m)) ∧
  (∀ {t : Nat → AV} {h : Heap} {m : List Nat} {v : AV}, @Eq St (St.put (St.mk t h m) (@none Nat) v) (St.mk t h m)) ∧
  (∀ {C : Ctx} {ds : List DItem} {K : St → Prop} {st : St}, @Eq Prop (wpDraw C (@OfNat.ofNat Nat (nat_lit 0) (instOfNatNat (nat_lit 0))) ds K st) (wpD C (Heap.size (St.h st)) ds (@List.nil (Prod Nat (Prod (List Nat) (List Nat)))) K st)) ∧
  (∀ {C : Ctx} {n : Nat} {ds : List DItem} {K : St → Prop} {t : Nat → AV} {h : Heap} {m : List Nat}, @Eq Bool (@BEq.beq Nat (@instBEqOfDecidableEq Nat instDecidableEqNat) n (@OfNat.ofNat Nat (nat_lit 0) (instOfNatNat (nat_lit 0)))) false → @Eq Prop (wpDraw C n ds K (St.mk t h m)) (wpD C (Heap.size h) ds (@List.nil (Prod Nat (Prod (List Nat) (List Nat)))) K (St.mk t (Heap.reserve h n) m))) ∧
  (∀ {res : List ARes} {Post : AV → Heap → Prop} {t : Nat → AV} {h : Heap} {i : Nat} {m : List Nat}, @Eq Prop (retO res Post Out.ret (St.mk t h (@List.cons Nat i m))) (@atDefd (Heap.get h i) (Hold.mk (retO res Post Out.ret (St.mk t (Heap.put h i (ABlk.defd false)) m))))) ∧
  (∀ {res : List ARes} {Post : AV → Heap → Prop} {t : Nat → AV} {h : Heap} {i : Nat} {m : List Nat}, @Eq Prop (retO res Post Out.normal (St.mk t h (@List.cons Nat i m))) (@atDefd (Heap.get h i) (Hold.mk (retO res Post Out.normal (St.mk t (Heap.put h i (ABlk.defd false)) m))))) ∧
  (∀ {C : Ctx} {nt l : Nat} {body : ACode} {Post : AV → Heap → Prop} {st : St}, @Eq Prop (beginO C nt l body Post Out.normal st) (@atLoop (Heap.get (St.h st) l) (HoldL.mk fun r => And (@Eq LoopState (ALoop.state r) LoopState.ready) (wp C nt (@some Nat l) body (roundO l Post) (St.mk (St.t st) (Heap.put (St.h st) l (ABlk.loop (ALoop.mk LoopState.busy (ALoop.pend r) (ALoop.t r) (ALoop.nt r) (ALoop.params r) (ALoop.assign r) (ALoop.body r) (ALoop.defers r)))) (St.m st)))))) ∧
  (∀ {l : Nat} {Post : AV → Heap → Prop} {st : St}, @Eq Prop (roundO l Post Out.normal st) (@atLoop (Heap.get (St.h st) l) (HoldL.mk fun r => Post (AV.bool true) (Heap.put (St.h st) l (ABlk.loop (ALoop.mk LoopState.ready (@none Out) (ALoop.t r) (ALoop.nt r) (ALoop.params r) (ALoop.assign r) (ALoop.body r) (ALoop.defers r))))))) ∧
  (∀ {l i : Nat} {Post : AV → Heap → Prop} {st : St}, @Eq Prop (roundO l Post (Out.exit i) st) (@atLoop (Heap.get (St.h st) l) (HoldL.mk fun r => Post (AV.bool false) (Heap.put (St.h st) l (ABlk.loop (ALoop.mk LoopState.done (@some Out (Out.exit i)) (ALoop.t r) (ALoop.nt r) (ALoop.params r) (ALoop.assign r) (ALoop.body r) (ALoop.defers r))))))) ∧
  (∀ {l : Nat} {Post : AV → Heap → Prop} {st : St}, @Eq Prop (roundO l Post Out.ret st) (@atLoop (Heap.get (St.h st) l) (HoldL.mk fun r => Post (AV.bool false) (Heap.put (St.h st) l (ABlk.loop (ALoop.mk LoopState.done (@some Out Out.ret) (ALoop.t r) (ALoop.nt r) (ALoop.params r) (ALoop.assign r) (ALoop.body r) (ALoop.defers r))))))) ∧
  (∀ {C : Ctx} {base : Nat} {acc : Acc} {K : St → Prop} {st : St}, @Eq Prop (wpD C base (@List.nil DItem) acc K st) (K st)) ∧
  (∀ {C : Ctx} {base k : Nat} {mem : Bool} {ck : List Nat} {d : Option Nat} {op : AOp} {s : Nat} {w : Bool} {ds : List DItem} {acc : Acc} {K : St → Prop} {st : St}, @Eq Prop (wpD C base (@List.cons DItem (DItem.mk k mem ck (AOper.mk d op (@some (Prod Nat Bool) (@Prod.mk Nat Bool s w)))) ds) acc K st) (@gV (St.t st s) w (Hold.mk (wpD C base (@List.cons DItem (DItem.mk k mem ck (AOper.mk d op (@none (Prod Nat Bool)))) ds) acc K st)) (Hold.mk (wpD C base ds acc K (St.put st d AV.undef))))) ∧
  (∀ {C : Ctx} {base k : Nat} {ck : List Nat} {d : Option Nat} {op : AOp} {ds : List DItem} {acc : Acc} {K : St → Prop} {st : St}, @Eq Bool (AOp.isCall op) false → @Eq Prop (wpD C base (@List.cons DItem (DItem.mk k false ck (AOper.mk d op (@none (Prod Nat Bool)))) ds) acc K st) (And (chkP acc ck op (AOpd.ev (St.t st)) (@HAdd.hAdd Nat Nat Nat (@instHAdd Nat instAddNat) base k)) (@opR (@some Nat (@HAdd.hAdd Nat Nat Nat (@instHAdd Nat instAddNat) base k)) op (AOpd.ev (St.t st)) (St.h st) (HoldR.mk fun v h' => wpD C base ds acc K (St.put (St.mk (St.t st) h' (St.m st)) d v))))) ∧
  (∀ {C : Ctx} {base k : Nat} {ck : List Nat} {d : Option Nat} {op : AOp} {ds : List DItem} {acc : Acc} {K : St → Prop} {st : St}, @Eq Bool (AOp.isCall op) false → @Eq Prop (wpD C base (@List.cons DItem (DItem.mk k true ck (AOper.mk d op (@none (Prod Nat Bool)))) ds) acc K st) (And (chkP acc ck op (AOpd.ev (St.t st)) (@HAdd.hAdd Nat Nat Nat (@instHAdd Nat instAddNat) base k)) (@opR (@some Nat (@HAdd.hAdd Nat Nat Nat (@instHAdd Nat instAddNat) base k)) op (AOpd.ev (St.t st)) (St.h st) (HoldR.mk fun v h' => wpD C base ds (@List.cons (Prod Nat (Prod (List Nat) (List Nat))) (@Prod.mk Nat (Prod (List Nat) (List Nat)) k (@Prod.mk (List Nat) (List Nat) (footA op (AOpd.ev (St.t st)) (@HAdd.hAdd Nat Nat Nat (@instHAdd Nat instAddNat) base k)) (wrA op (AOpd.ev (St.t st)) (@HAdd.hAdd Nat Nat Nat (@instHAdd Nat instAddNat) base k)))) acc) K (St.put (St.mk (St.t st) h' (St.m st)) d v))))) ∧
  (∀ {C : Ctx} {base k : Nat} {mem : Bool} {ck : List Nat} {d : Option Nat} {f : AOpd} {args : List AOpd} {ds : List DItem} {acc : Acc} {K : St → Prop} {st : St}, @Eq Prop (wpD C base (@List.cons DItem (DItem.mk k mem ck (AOper.mk d (AOp.call f args) (@none (Prod Nat Bool)))) ds) acc K st) (@Call C (AOpd.ev (St.t st) f) (@List.map AOpd AV (AOpd.ev (St.t st)) args) (St.h st) (HoldR.mk fun r h' => And (chkS acc ck (St.h st) h') (wpD C base ds acc K (St.put (St.mk (St.t st) h' (St.m st)) d r))))) :=
 ⟨@wp_seq,
   @wp_region,
   @wp_draw,
   @wp_cond,
   @wp_block,
   @wp_skip,
   @wp_exit,
   @wp_ret,
   @wp_range,
   @thenO_normal,
   @thenO_exit,
   @thenO_ret,
   @blockO_same,
   @blockO_other,
   @blockO_normal,
   @blockO_ret,
   @wpOps_nil,
   @wpOps_cons,
   @wpOps_guard,
   @wpOp_call,
   @wpOp_op,
   @put_some,
   @put_none,
   @wpDraw_zero,
   @wpDraw_some,
   @retO_marks,
   @retO_marksN,
   @beginO_normal,
   @roundO_normal,
   @roundO_exit,
   @roundO_ret,
   @wpD_nil,
   @wpD_guard,
   @wpD_op,
   @wpD_opM,
   @wpD_call⟩
theorem wpPost :
  (∀ {h : Heap} {nid : Option Nat} {sz bytes i o n c m : Nat} {news : List AV}, @Ne Nat m (@OfNat.ofNat Nat (nat_lit 0) (instOfNatNat (nat_lit 0))) → @Eq (Option (Prod AV Heap)) (appendA h nid sz bytes (AV.slice i o n (Cap.known c)) m news) (appKB h nid sz bytes i o n c m news (Heap.get h i))) ∧
  (∀ {h : Heap} {sz bytes i o n c m : Nat} {news vs : List AV} {u : Nat}, @LE.le Nat instLENat (@HAdd.hAdd Nat Nat Nat (@instHAdd Nat instAddNat) o (@HMul.hMul Nat Nat Nat (@instHMul Nat instMulNat) n sz)) (@List.length AV vs) → @LT.lt Nat instLTNat c (@HAdd.hAdd Nat Nat Nat (@instHAdd Nat instAddNat) n m) → @LE.le Nat instLENat (@HMul.hMul Nat Nat Nat (@instHMul Nat instMulNat) (@HAdd.hAdd Nat Nat Nat (@instHAdd Nat instAddNat) n m) bytes) (@OfNat.ofNat Nat (nat_lit 1099511627776) (instOfNatNat (nat_lit 1099511627776))) → @Eq (Option (Prod AV Heap)) (appKB h (@none Nat) sz bytes i o n c m news (@some ABlk (ABlk.cells vs true u))) (@some (Prod AV Heap) (@Prod.mk AV Heap (AV.slice (Heap.size h) (@OfNat.ofNat Nat (nat_lit 0) (instOfNatNat (nat_lit 0))) (@HAdd.hAdd Nat Nat Nat (@instHAdd Nat instAddNat) n m) (Cap.unk (@OfNat.ofNat Nat (nat_lit 0) (instOfNatNat (nat_lit 0))))) (Heap.push h (ABlk.cells (@HAppend.hAppend (List AV) (List AV) (List AV) (@instHAppendOfAppend (List AV) (@List.instAppend AV)) (cut vs o (@HMul.hMul Nat Nat Nat (@instHMul Nat instMulNat) n sz)) news) true sz))))) ∧
  (∀ {h : Heap} {nid : Option Nat} {sz bytes i o n c m : Nat} {news vs : List AV} {u : Nat}, @LE.le Nat instLENat (@HAdd.hAdd Nat Nat Nat (@instHAdd Nat instAddNat) o (@HMul.hMul Nat Nat Nat (@instHMul Nat instMulNat) n sz)) (@List.length AV vs) → @LE.le Nat instLENat (@HAdd.hAdd Nat Nat Nat (@instHAdd Nat instAddNat) n m) c → @LE.le Nat instLENat (@HAdd.hAdd Nat Nat Nat (@instHAdd Nat instAddNat) o (@HMul.hMul Nat Nat Nat (@instHMul Nat instMulNat) (@HAdd.hAdd Nat Nat Nat (@instHAdd Nat instAddNat) n m) sz)) (@List.length AV vs) → @Eq Bool (@List.all AV news AV.one) true → @Eq (Option (Prod AV Heap)) (appKB h nid sz bytes i o n c m news (@some ABlk (ABlk.cells vs true u))) (@some (Prod AV Heap) (@Prod.mk AV Heap (AV.slice i o (@HAdd.hAdd Nat Nat Nat (@instHAdd Nat instAddNat) n m) (Cap.known c)) (Heap.put h i (ABlk.cells (splice vs (@HAdd.hAdd Nat Nat Nat (@instHAdd Nat instAddNat) o (@HMul.hMul Nat Nat Nat (@instHMul Nat instMulNat) n sz)) news) true u))))) ∧
  (∀ {h : Heap} {nid : Option Nat} {sz bytes i o n l m : Nat} {news : List AV}, @Eq (Option (Prod AV Heap)) (appendA h nid sz bytes (AV.slice i o n (Cap.unk l)) m news) (appUB h nid sz bytes i o n l m news (Heap.get h i))) ∧
  (∀ {h : Heap} {sz bytes i n m : Nat} {news vs : List AV}, @LE.le Nat instLENat (@HMul.hMul Nat Nat Nat (@instHMul Nat instMulNat) n sz) (@List.length AV vs) → @LT.lt Nat instLTNat (@OfNat.ofNat Nat (nat_lit 0) (instOfNatNat (nat_lit 0))) m → @LE.le Nat instLENat (@HMul.hMul Nat Nat Nat (@instHMul Nat instMulNat) (@HAdd.hAdd Nat Nat Nat (@instHAdd Nat instAddNat) n m) bytes) (@OfNat.ofNat Nat (nat_lit 1099511627776) (instOfNatNat (nat_lit 1099511627776))) → @Eq Bool (@List.all AV news AV.one) true → @Eq (Option (Prod AV Heap)) (appUB h (@none Nat) sz bytes i (@OfNat.ofNat Nat (nat_lit 0) (instOfNatNat (nat_lit 0))) n (@OfNat.ofNat Nat (nat_lit 0) (instOfNatNat (nat_lit 0))) m news (@some ABlk (ABlk.cells vs true sz))) (@some (Prod AV Heap) (@Prod.mk AV Heap (AV.slice (Heap.size h) (@OfNat.ofNat Nat (nat_lit 0) (instOfNatNat (nat_lit 0))) (@HAdd.hAdd Nat Nat Nat (@instHAdd Nat instAddNat) n m) (Cap.unk (@OfNat.ofNat Nat (nat_lit 0) (instOfNatNat (nat_lit 0))))) (Heap.push (Heap.put h i ABlk.dead) (ABlk.cells (@HAppend.hAppend (List AV) (List AV) (List AV) (@instHAppendOfAppend (List AV) (@List.instAppend AV)) (cut vs (@OfNat.ofNat Nat (nat_lit 0) (instOfNatNat (nat_lit 0))) (@HMul.hMul Nat Nat Nat (@instHMul Nat instMulNat) n sz)) news) true sz))))) ∧
  (∀ {h : Heap} {sz bytes m : Nat} {news : List AV}, @Ne Nat m (@OfNat.ofNat Nat (nat_lit 0) (instOfNatNat (nat_lit 0))) → @LE.le Nat instLENat (@HMul.hMul Nat Nat Nat (@instHMul Nat instMulNat) m bytes) (@OfNat.ofNat Nat (nat_lit 1099511627776) (instOfNatNat (nat_lit 1099511627776))) → @Eq (Option (Prod AV Heap)) (appendA h (@none Nat) sz bytes AV.nilslice m news) (@some (Prod AV Heap) (@Prod.mk AV Heap (AV.slice (Heap.size h) (@OfNat.ofNat Nat (nat_lit 0) (instOfNatNat (nat_lit 0))) m (Cap.unk (@OfNat.ofNat Nat (nat_lit 0) (instOfNatNat (nat_lit 0))))) (Heap.push h (ABlk.cells news true sz))))) ∧
  (∀ {h : Heap} {nid : Option Nat} {sz bytes : Nat} {news : List AV}, @Eq (Option (Prod AV Heap)) (appendA h nid sz bytes AV.nilslice (@OfNat.ofNat Nat (nat_lit 0) (instOfNatNat (nat_lit 0))) news) (@some (Prod AV Heap) (@Prod.mk AV Heap AV.nilslice h))) ∧
  (∀ {nid : Option Nat} {sz bytes : Nat} {h : Heap} {s : AV} {m : Nat} {news : List AV}, @Eq (Option (Prod AV Heap)) (appA nid sz bytes h s (@some (Prod Nat (List AV)) (@Prod.mk Nat (List AV) m news))) (appendA h nid sz bytes s m news)) ∧
  (∀ {p : Prop}, @Eq Prop (@atDefd (@some ABlk (ABlk.defd true)) (Hold.mk p)) p) ∧
  (∀ {res : List ARes} {Post : AV → Heap → Prop} {t : Nat → AV} {h : Heap}, @Eq Prop (retO res Post Out.ret (St.mk t h (@List.nil Nat))) (retO_ret.match_1 (fun x => Prop) (resA t h res) (fun vs => Post (retA vs) h) fun _ => False)) ∧
  (∀ {res : List ARes} {Post : AV → Heap → Prop} {t : Nat → AV} {h : Heap}, @Eq Prop (retO res Post Out.normal (St.mk t h (@List.nil Nat))) (retO_ret.match_1 (fun x => Prop) (resA t h res) (fun vs => Post (retA vs) h) fun _ => False)) ∧
  (∀ {acc : Acc} {op : AOp} {ev : AOpd → AV} {n : Nat}, @Eq Prop (chkP acc (@List.nil Nat) op ev n) True) ∧
  (∀ {ck : List Nat} {op : AOp} {ev : AOpd → AV} {n : Nat}, @Eq Prop (chkP (@List.nil (Prod Nat (Prod (List Nat) (List Nat)))) ck op ev n) True) ∧
  (∀ {k : Nat} {f w : List Nat} {acc : List (Prod Nat (Prod (List Nat) (List Nat)))} {ck : List Nat} {op : AOp} {ev : AOpd → AV} {n : Nat}, @Eq Bool (@List.contains Nat (@instBEqOfDecidableEq Nat instDecidableEqNat) ck k) false → @Eq Prop (chkP (@List.cons (Prod Nat (Prod (List Nat) (List Nat))) (@Prod.mk Nat (Prod (List Nat) (List Nat)) k (@Prod.mk (List Nat) (List Nat) f w)) acc) ck op ev n) (chkP acc ck op ev n)) ∧
  (∀ {k : Nat} {f w : List Nat} {acc : List (Prod Nat (Prod (List Nat) (List Nat)))} {ck : List Nat} {op : AOp} {ev : AOpd → AV} {n : Nat}, @Eq Bool (@List.contains Nat (@instBEqOfDecidableEq Nat instDecidableEqNat) ck k) true → @Eq Prop (chkP (@List.cons (Prod Nat (Prod (List Nat) (List Nat))) (@Prod.mk Nat (Prod (List Nat) (List Nat)) k (@Prod.mk (List Nat) (List Nat) f w)) acc) ck op ev n) (And (And (NoneIn f (wrA op ev n)) (NoneIn w (footA op ev n))) (chkP acc ck op ev n))) ∧
  (∀ {acc : Acc} {h h' : Heap}, @Eq Prop (chkS acc (@List.nil Nat) h h') True) ∧
  (∀ {ck : List Nat} {h h' : Heap}, @Eq Prop (chkS (@List.nil (Prod Nat (Prod (List Nat) (List Nat)))) ck h h') True) ∧
  (∀ {k : Nat} {f w : List Nat} {acc : List (Prod Nat (Prod (List Nat) (List Nat)))} {ck : List Nat} {h h' : Heap}, @Eq Bool (@List.contains Nat (@instBEqOfDecidableEq Nat instDecidableEqNat) ck k) false → @Eq Prop (chkS (@List.cons (Prod Nat (Prod (List Nat) (List Nat))) (@Prod.mk Nat (Prod (List Nat) (List Nat)) k (@Prod.mk (List Nat) (List Nat) f w)) acc) ck h h') (chkS acc ck h h')) ∧
  (∀ {k : Nat} {f w : List Nat} {acc : List (Prod Nat (Prod (List Nat) (List Nat)))} {ck : List Nat} {h h' : Heap}, @Eq Bool (@List.contains Nat (@instBEqOfDecidableEq Nat instDecidableEqNat) ck k) true → @Eq Prop (chkS (@List.cons (Prod Nat (Prod (List Nat) (List Nat))) (@Prod.mk Nat (Prod (List Nat) (List Nat)) k (@Prod.mk (List Nat) (List Nat) f w)) acc) ck h h') (And (∀ (i : Nat), @Membership.mem Nat (List Nat) (@List.instMembership Nat) f i → @Eq (Option ABlk) (Heap.get h' i) (Heap.get h i)) (chkS acc ck h h'))) ∧
  (∀ {ys : List Nat}, @Eq Prop (NoneIn (@List.nil Nat) ys) True) ∧
  (∀ {xs : List Nat}, @Eq Prop (NoneIn xs (@List.nil Nat)) True) ∧
  (∀ {x : Nat} {xs ys : List Nat}, Not (@Membership.mem Nat (List Nat) (@List.instMembership Nat) ys x) → @Eq Prop (NoneIn (@List.cons Nat x xs) ys) (NoneIn xs ys)) ∧
  (∀ {i o : Nat}, @Eq (List Nat) (AV.ids (AV.ptr i o)) (@List.cons Nat i (@List.nil Nat))) ∧
  (∀ {i o n : Nat} {c : Cap}, @Eq (List Nat) (AV.ids (AV.slice i o n c)) (@List.cons Nat i (@List.nil Nat))) ∧
  (@Eq (List Nat) (AV.ids AV.nilslice) (@List.nil Nat)) ∧
  (∀ {k : IntKind} {n : Int}, @Eq (List Nat) (AV.ids (AV.int k n)) (@List.nil Nat)) ∧
  (∀ {b : Bool}, @Eq (List Nat) (AV.ids (AV.bool b)) (@List.nil Nat)) ∧
  (∀ {vs : List AV}, @Eq (List Nat) (AV.ids (AV.agg vs)) (@List.nil Nat)) ∧
  (∀ {i o n c : Nat}, @Eq (List Nat) (AV.rids (AV.slice i o n (Cap.known c))) (@List.nil Nat)) ∧
  (∀ {i o n l : Nat}, @Eq (List Nat) (AV.rids (AV.slice i o n (Cap.unk l))) (@List.cons Nat i (@List.nil Nat))) ∧
  (@Eq (List Nat) (AV.rids AV.nilslice) (@List.nil Nat)) ∧
  (∀ {op : AOp} {ev : AOpd → AV} {n : Nat}, @Eq Bool (AOp.blind op) true → @Eq (List Nat) (footA op ev n) (@List.nil Nat)) ∧
  (∀ {op : AOp} {ev : AOpd → AV} {n : Nat}, @Eq Bool (AOp.blind op) true → @Eq (List Nat) (wrA op ev n) (@List.nil Nat)) ∧
  (∀ {agg : Bool} {m : Nat} {x : AOpd} {ev : AOpd → AV} {n : Nat}, @Eq (List Nat) (footA (AOp.load agg m x) ev n) (AV.ids (ev x))) ∧
  (∀ {agg : Bool} {m : Nat} {x : AOpd} {ev : AOpd → AV} {n : Nat}, @Eq (List Nat) (wrA (AOp.load agg m x) ev n) (@List.nil Nat)) ∧
  (∀ {m : Nat} {x v : AOpd} {ev : AOpd → AV} {n : Nat}, @Eq (List Nat) (footA (AOp.store m x v) ev n) (AV.ids (ev x))) ∧
  (∀ {m : Nat} {x v : AOpd} {ev : AOpd → AV} {n : Nat}, @Eq (List Nat) (wrA (AOp.store m x v) ev n) (AV.ids (ev x))) ∧
  (∀ {sz : Nat} {x : AOpd} {lo hi mx : Option AOpd} {ev : AOpd → AV} {n : Nat}, @Eq (List Nat) (footA (AOp.slice sz x lo hi mx) ev n) (AV.rids (ev x))) ∧
  (∀ {sz : Nat} {x : AOpd} {lo hi mx : Option AOpd} {ev : AOpd → AV} {n : Nat}, @Eq (List Nat) (wrA (AOp.slice sz x lo hi mx) ev n) (@List.nil Nat)) ∧
  (∀ {sz b : Nat} {s x : AOpd} {ev : AOpd → AV} {n : Nat}, @Eq (List Nat) (footA (AOp.append sz b s x) ev n) (@HAppend.hAppend (List Nat) (List Nat) (List Nat) (@instHAppendOfAppend (List Nat) (@List.instAppend Nat)) (@HAppend.hAppend (List Nat) (List Nat) (List Nat) (@instHAppendOfAppend (List Nat) (@List.instAppend Nat)) (AV.ids (ev s)) (AV.ids (ev x))) (@List.cons Nat n (@List.nil Nat)))) ∧
  (∀ {sz b : Nat} {s x : AOpd} {ev : AOpd → AV} {n : Nat}, @Eq (List Nat) (wrA (AOp.append sz b s x) ev n) (@HAppend.hAppend (List Nat) (List Nat) (List Nat) (@instHAppendOfAppend (List Nat) (@List.instAppend Nat)) (AV.ids (ev s)) (@List.cons Nat n (@List.nil Nat)))) ∧
  (∀ {z : List AV} {ev : AOpd → AV} {n : Nat}, @Eq (List Nat) (footA (AOp.alloc z) ev n) (@List.cons Nat n (@List.nil Nat))) ∧
  (∀ {z : List AV} {ev : AOpd → AV} {n : Nat}, @Eq (List Nat) (wrA (AOp.alloc z) ev n) (@List.cons Nat n (@List.nil Nat))) ∧
  (∀ {x : AOpd} {ev : AOpd → AV} {n : Nat}, @Eq (List Nat) (footA (AOp.box x) ev n) (@List.cons Nat n (@List.nil Nat))) ∧
  (∀ {x : AOpd} {ev : AOpd → AV} {n : Nat}, @Eq (List Nat) (wrA (AOp.box x) ev n) (@List.cons Nat n (@List.nil Nat))) ∧
  (∀ {m : Nat} {z : List AV} {ps : List (Prod Nat (Prod Nat AOpd))} {ev : AOpd → AV} {n : Nat}, @Eq (List Nat) (footA (AOp.buildSlice m z ps) ev n) (@List.cons Nat n (@List.nil Nat))) ∧
  (∀ {m : Nat} {z : List AV} {ps : List (Prod Nat (Prod Nat AOpd))} {ev : AOpd → AV} {n : Nat}, @Eq (List Nat) (wrA (AOp.buildSlice m z ps) ev n) (@List.cons Nat n (@List.nil Nat))) ∧
  (∀ {z : List AV} {b : Nat} {l c : AOpd} {ev : AOpd → AV} {n : Nat}, @Eq (List Nat) (footA (AOp.makeSlice z b l c) ev n) (@List.cons Nat n (@List.nil Nat))) ∧
  (∀ {z : List AV} {b : Nat} {l c : AOpd} {ev : AOpd → AV} {n : Nat}, @Eq (List Nat) (wrA (AOp.makeSlice z b l c) ev n) (@List.cons Nat n (@List.nil Nat))) ∧
  (∀ {sz : Nat} {d s : AOpd} {ev : AOpd → AV} {n : Nat}, @Eq (List Nat) (footA (AOp.copy sz d s) ev n) (@HAppend.hAppend (List Nat) (List Nat) (List Nat) (@instHAppendOfAppend (List Nat) (@List.instAppend Nat)) (AV.ids (ev d)) (AV.ids (ev s)))) ∧
  (∀ {sz : Nat} {d s : AOpd} {ev : AOpd → AV} {n : Nat}, @Eq (List Nat) (wrA (AOp.copy sz d s) ev n) (AV.ids (ev d))) ∧
  (∀ (p : Prop), @Eq Prop (False → p) True) ∧
  (∀ (p : Prop), @Eq Prop (And True p) p) ∧
  (∀ (p : Prop), @Eq Prop (And p True) p) ∧
  (∀ {t : Nat → AV} {h : Heap}, @Eq (Option (List AV)) (resA t h (@List.nil ARes)) (@some (List AV) (@List.nil AV))) ∧
  (∀ {t : Nat → AV} {h : Heap} {s : Nat} {rs : List ARes}, @Eq (Option (List AV)) (resA t h (@List.cons ARes (ARes.tmp s) rs)) (retO_ret.match_1 (fun x => Option (List AV)) (resA t h rs) (fun vs => @some (List AV) (@List.cons AV (t s) vs)) fun _ => @none (List AV))) ∧
  (∀ {t : Nat → AV} {h : Heap} {s : Nat} {agg : Bool} {n : Nat} {rs : List ARes}, @Eq (Option (List AV)) (resA t h (@List.cons ARes (ARes.cell s agg n) rs)) (resA_cell.match_1 (fun x x_1 => Option (List AV)) (loadA h agg n (t s)) (resA t h rs) (fun v vs => @some (List AV) (@List.cons AV v vs)) fun x x_1 => @none (List AV))) ∧
  (@Eq AV (retA (@List.nil AV)) (AV.tuple (@List.nil AV))) ∧
  (∀ {v : AV}, @Eq AV (retA (@List.cons AV v (@List.nil AV))) v) ∧
  (∀ {u v : AV}, @Eq AV (retA (@List.cons AV u (@List.cons AV v (@List.nil AV)))) (AV.tuple (@List.cons AV u (@List.cons AV v (@List.nil AV))))) ∧
  (∀ {u v x : AV}, @Eq AV (retA (@List.cons AV u (@List.cons AV v (@List.cons AV x (@List.nil AV))))) (AV.tuple (@List.cons AV u (@List.cons AV v (@List.cons AV x (@List.nil AV)))))) ∧
  (∀ {u v x y : AV}, @Eq AV (retA (@List.cons AV u (@List.cons AV v (@List.cons AV x (@List.cons AV y (@List.nil AV)))))) (AV.tuple (@List.cons AV u (@List.cons AV v (@List.cons AV x (@List.cons AV y (@List.nil AV))))))) ∧
  (∀ {t : Nat → AV} {s : Nat}, @Eq AV (AOpd.ev t (AOpd.tmp s)) (t s)) ∧
  (∀ {t : Nat → AV} {v : AV}, @Eq AV (AOpd.ev t (AOpd.const v)) v) ∧
  (∀ {t : Nat → AV}, @Eq (List AV) (@List.map AOpd AV (AOpd.ev t) (@List.nil AOpd)) (@List.nil AV)) ∧
  (∀ {t : Nat → AV} {x : AOpd} {xs : List AOpd}, @Eq (List AV) (@List.map AOpd AV (AOpd.ev t) (@List.cons AOpd x xs)) (@List.cons AV (AOpd.ev t x) (@List.map AOpd AV (AOpd.ev t) xs))) ∧
  (∀ {t : Nat → AV} {s : Nat} {v : AV}, @Eq AV (upd t s v s) v) ∧
  (∀ {t : Nat → AV} {s : Nat} {v : AV} {i : Nat}, @Eq Bool (@BEq.beq Nat (@instBEqOfDecidableEq Nat instDecidableEqNat) i s) false → @Eq AV (upd t s v i) (t i)) ∧
  (∀ {args : List AV} {s : Nat}, @Eq AV (argT args s) (@List.getD AV args s AV.undef)) ∧
  (∀ {p q : Prop}, @Eq Prop (@condV (AV.bool true) (Hold.mk p) (Hold.mk q)) p) ∧
  (∀ {p q : Prop}, @Eq Prop (@condV (AV.bool false) (Hold.mk p) (Hold.mk q)) q) ∧
  (∀ {c : Prop} [inst : Decidable c] {p q : Prop}, @Eq Prop (@condV (AV.bool (@decide c inst)) (Hold.mk p) (Hold.mk q)) (@Br c (Hold.mk p) (Hold.mk q))) ∧
  (∀ {b : Bool} {p q : Prop}, @Eq Prop (@condV (AV.bool b) (Hold.mk p) (Hold.mk q)) (@Br (@Eq Bool b true) (Hold.mk p) (Hold.mk q))) ∧
  (∀ {b : Bool} {p q : Prop}, @Eq Prop (@Br (@Eq Bool (not b) true) (Hold.mk p) (Hold.mk q)) (@Br (@Eq Bool b true) (Hold.mk q) (Hold.mk p))) ∧
  (∀ {c p q : Prop}, c → @Eq Prop (@Br c (Hold.mk p) (Hold.mk q)) p) ∧
  (∀ {c p q : Prop}, Not c → @Eq Prop (@Br c (Hold.mk p) (Hold.mk q)) q) ∧
  (∀ {p q : Prop}, @Eq Prop (@gV (AV.bool true) true (Hold.mk p) (Hold.mk q)) p) ∧
  (∀ {p q : Prop}, @Eq Prop (@gV (AV.bool true) false (Hold.mk p) (Hold.mk q)) q) ∧
  (∀ {p q : Prop}, @Eq Prop (@gV (AV.bool false) true (Hold.mk p) (Hold.mk q)) q) ∧
  (∀ {p q : Prop}, @Eq Prop (@gV (AV.bool false) false (Hold.mk p) (Hold.mk q)) p) ∧
  (∀ {c : Prop} [inst : Decidable c] {p q : Prop}, @Eq Prop (@gV (AV.bool (@decide c inst)) true (Hold.mk p) (Hold.mk q)) (@Br c (Hold.mk p) (Hold.mk q))) ∧
  (∀ {c : Prop} [inst : Decidable c] {p q : Prop}, @Eq Prop (@gV (AV.bool (@decide c inst)) false (Hold.mk p) (Hold.mk q)) (@Br c (Hold.mk q) (Hold.mk p))) ∧
  (∀ {b : Bool} {p q : Prop}, @Eq Prop (@gV (AV.bool b) true (Hold.mk p) (Hold.mk q)) (@Br (@Eq Bool b true) (Hold.mk p) (Hold.mk q))) ∧
  (∀ {b : Bool} {p q : Prop}, @Eq Prop (@gV (AV.bool b) false (Hold.mk p) (Hold.mk q)) (@Br (@Eq Bool b true) (Hold.mk q) (Hold.mk p))) ∧
  (∀ {C : Ctx} {g : Nat} {args : List AV} {h : Heap} {K : AV → Heap → Prop}, @Eq Prop (@Call C (AV.func g (@List.nil AV) (@List.nil AV)) args h (HoldR.mk K)) (@ACallsK C g args h (HoldR.mk K))) ∧
  (∀ {C : Ctx} {g : Nat} {f c args : List AV} {h : Heap} {K : AV → Heap → Prop}, @Eq Prop (@Call C (AV.func g f c) args h (HoldR.mk K)) (@ACallsK C g (@HAppend.hAppend (List AV) (List AV) (List AV) (@instHAppendOfAppend (List AV) (@List.instAppend AV)) (@HAppend.hAppend (List AV) (List AV) (List AV) (@instHAppendOfAppend (List AV) (@List.instAppend AV)) f args) c) h (HoldR.mk K))) ∧
  (∀ {C : Ctx} {l : Nat} {args : List AV} {h : Heap} {K : AV → Heap → Prop}, @Eq Prop (@Call C (AV.yield l) args h (HoldR.mk K)) (@AYieldK C l args h (HoldR.mk K))) ∧
  (∀ {v : AV} {h : Heap} {K : AV → Heap → Prop}, @Eq Prop (@opt1 (@some AV v) h (HoldR.mk K)) (K v h)) ∧
  (∀ {v : AV} {h : Heap} {K : AV → Heap → Prop}, @Eq Prop (@opt2 (@some (Prod AV Heap) (@Prod.mk AV Heap v h)) (HoldR.mk K)) (K v h)) ∧
  (∀ {nid : Option Nat} {ev : AOpd → AV} {h : Heap} {K : AV → Heap → Prop} {x : AOpd}, @Eq Prop (@opR nid (AOp.mv x) ev h (HoldR.mk K)) (K (ev x) h)) ∧
  (∀ {nid : Option Nat} {ev : AOpd → AV} {h : Heap} {K : AV → Heap → Prop} {c a b : AOpd}, @Eq Prop (@opR nid (AOp.pick c a b) ev h (HoldR.mk K)) (@opt1 (pickA (ev a) (ev b) (ev c)) h (HoldR.mk K))) ∧
  (∀ {nid : Option Nat} {ev : AOpd → AV} {h : Heap} {K : AV → Heap → Prop} {z : List AV} {parts : List (Prod Nat (Prod Nat AOpd))}, @Eq Prop (@opR nid (AOp.build z parts) ev h (HoldR.mk K)) (@opt1 (@Option.map (List AV) AV AV.agg (fillA z (@List.map (Prod Nat (Prod Nat AOpd)) (Prod Nat (Prod Nat AV)) (fun p => @Prod.mk Nat (Prod Nat AV) (@Prod.fst Nat (Prod Nat AOpd) p) (@Prod.mk Nat AV (@Prod.fst Nat AOpd (@Prod.snd Nat (Prod Nat AOpd) p)) (ev (@Prod.snd Nat AOpd (@Prod.snd Nat (Prod Nat AOpd) p))))) parts))) h (HoldR.mk K))) ∧
  (∀ {nid : Option Nat} {ev : AOpd → AV} {h : Heap} {K : AV → Heap → Prop} {agg : Bool} {n : Nat} {x : AOpd}, @Eq Prop (@opR nid (AOp.load agg n x) ev h (HoldR.mk K)) (@opt1 (loadA h agg n (ev x)) h (HoldR.mk K))) ∧
  (∀ {nid : Option Nat} {ev : AOpd → AV} {h : Heap} {K : AV → Heap → Prop} {x : AOpd}, @Eq Prop (@opR nid (AOp.nilCheck x) ev h (HoldR.mk K)) (@opt1 (notNilA (ev x)) h (HoldR.mk K))) ∧
  (∀ {nid : Option Nat} {ev : AOpd → AV} {h : Heap} {K : AV → Heap → Prop} {op : BinOp} {x y : AOpd}, @Eq Prop (@opR nid (AOp.bin op x y) ev h (HoldR.mk K)) (@opt1 (binA op (ev x) (ev y)) h (HoldR.mk K))) ∧
  (∀ {nid : Option Nat} {ev : AOpd → AV} {h : Heap} {K : AV → Heap → Prop} {neg : Bool} {x y : AOpd}, @Eq Prop (@opR nid (AOp.eqb neg x y) ev h (HoldR.mk K)) (@opt1 (eqbA neg (ev x) (ev y)) h (HoldR.mk K))) ∧
  (∀ {nid : Option Nat} {ev : AOpd → AV} {h : Heap} {K : AV → Heap → Prop} {neg : Bool} {x : AOpd}, @Eq Prop (@opR nid (AOp.eqn neg x) ev h (HoldR.mk K)) (@opt1 (eqnA neg (ev x)) h (HoldR.mk K))) ∧
  (∀ {nid : Option Nat} {ev : AOpd → AV} {h : Heap} {K : AV → Heap → Prop} {neg : Bool} {ls : List (Prod Nat Bool)} {x y : AOpd}, @Eq Prop (@opR nid (AOp.eqs neg ls x y) ev h (HoldR.mk K)) (@opt1 (eqsA neg ls (ev x) (ev y)) h (HoldR.mk K))) ∧
  (∀ {nid : Option Nat} {ev : AOpd → AV} {h : Heap} {K : AV → Heap → Prop} {op : UnOp} {x : AOpd}, @Eq Prop (@opR nid (AOp.un op x) ev h (HoldR.mk K)) (@opt1 (unA op (ev x)) h (HoldR.mk K))) ∧
  (∀ {nid : Option Nat} {ev : AOpd → AV} {h : Heap} {K : AV → Heap → Prop} {k : IntKind} {x : AOpd}, @Eq Prop (@opR nid (AOp.conv k x) ev h (HoldR.mk K)) (@opt1 (convA k (ev x)) h (HoldR.mk K))) ∧
  (∀ {nid : Option Nat} {ev : AOpd → AV} {h : Heap} {K : AV → Heap → Prop} {g : Nat} {a c : List AOpd}, @Eq Prop (@opR nid (AOp.mkfunc g a c) ev h (HoldR.mk K)) (K (AV.func g (@List.map AOpd AV ev a) (@List.map AOpd AV ev c)) h)) ∧
  (∀ {nid : Option Nat} {ev : AOpd → AV} {h : Heap} {K : AV → Heap → Prop} {sz : Nat} {x : AOpd} {lo hi mx : Option AOpd}, @Eq Prop (@opR nid (AOp.slice sz x lo hi mx) ev h (HoldR.mk K)) (@opt1 (sliceA h sz (ev x) (@Option.map AOpd AV ev lo) (@Option.map AOpd AV ev hi) (@Option.map AOpd AV ev mx)) h (HoldR.mk K))) ∧
  (∀ {nid : Option Nat} {ev : AOpd → AV} {h : Heap} {K : AV → Heap → Prop} {off : Nat} {x : AOpd}, @Eq Prop (@opR nid (AOp.fieldAddr off x) ev h (HoldR.mk K)) (@opt1 (fieldAddrA off (ev x)) h (HoldR.mk K))) ∧
  (∀ {nid : Option Nat} {ev : AOpd → AV} {h : Heap} {K : AV → Heap → Prop} {agg : Bool} {off n : Nat} {x : AOpd}, @Eq Prop (@opR nid (AOp.field agg off n x) ev h (HoldR.mk K)) (@opt1 (fieldA agg off n (ev x)) h (HoldR.mk K))) ∧
  (∀ {nid : Option Nat} {ev : AOpd → AV} {h : Heap} {K : AV → Heap → Prop} {sz : Nat} {x i : AOpd}, @Eq Prop (@opR nid (AOp.indexAddr sz x i) ev h (HoldR.mk K)) (@opt1 (idxA sz (ev x) (ev i)) h (HoldR.mk K))) ∧
  (∀ {nid : Option Nat} {ev : AOpd → AV} {h : Heap} {K : AV → Heap → Prop} {sz len : Nat} {x i : AOpd}, @Eq Prop (@opR nid (AOp.indexArr sz len x i) ev h (HoldR.mk K)) (@opt1 (idxArrA sz len (ev x) (ev i)) h (HoldR.mk K))) ∧
  (∀ {nid : Option Nat} {ev : AOpd → AV} {h : Heap} {K : AV → Heap → Prop} {agg : Bool} {sz len : Nat} {x i : AOpd}, @Eq Prop (@opR nid (AOp.index agg sz len x i) ev h (HoldR.mk K)) (@opt1 (idxValA agg sz len (ev x) (ev i)) h (HoldR.mk K))) ∧
  (∀ {nid : Option Nat} {ev : AOpd → AV} {h : Heap} {K : AV → Heap → Prop} {x : AOpd} {i : Nat}, @Eq Prop (@opR nid (AOp.extract x i) ev h (HoldR.mk K)) (@opt1 (extA i (ev x)) h (HoldR.mk K))) ∧
  (∀ {nid : Option Nat} {ev : AOpd → AV} {h : Heap} {K : AV → Heap → Prop} {x : AOpd}, @Eq Prop (@opR nid (AOp.len x) ev h (HoldR.mk K)) (@opt1 (lenA (ev x)) h (HoldR.mk K))) ∧
  (∀ {nid : Option Nat} {ev : AOpd → AV} {h : Heap} {K : AV → Heap → Prop} {x : AOpd}, @Eq Prop (@opR nid (AOp.cap x) ev h (HoldR.mk K)) (@opt1 (capA (ev x)) h (HoldR.mk K))) ∧
  (∀ {nid : Option Nat} {ev : AOpd → AV} {h : Heap} {K : AV → Heap → Prop} {xs : List AOpd}, @Eq Prop (@opR nid (AOp.max xs) ev h (HoldR.mk K)) (@opt1 (maxA (@List.map AOpd AV ev xs)) h (HoldR.mk K))) ∧
  (∀ {nid : Option Nat} {ev : AOpd → AV} {h : Heap} {K : AV → Heap → Prop} {xs : List AOpd}, @Eq Prop (@opR nid (AOp.min xs) ev h (HoldR.mk K)) (@opt1 (minA (@List.map AOpd AV ev xs)) h (HoldR.mk K))) ∧
  (∀ {nid : Option Nat} {ev : AOpd → AV} {h : Heap} {K : AV → Heap → Prop} {z : List AV}, @Eq Prop (@opR nid (AOp.alloc z) ev h (HoldR.mk K)) (@opt2 (allocA nid z h) (HoldR.mk K))) ∧
  (∀ {nid : Option Nat} {ev : AOpd → AV} {h : Heap} {K : AV → Heap → Prop} {x : AOpd}, @Eq Prop (@opR nid (AOp.box x) ev h (HoldR.mk K)) (@opt2 (allocA nid (AV.cells (ev x)) h) (HoldR.mk K))) ∧
  (∀ {nid : Option Nat} {ev : AOpd → AV} {h : Heap} {K : AV → Heap → Prop} {n : Nat} {z : List AV} {parts : List (Prod Nat (Prod Nat AOpd))}, @Eq Prop (@opR nid (AOp.buildSlice n z parts) ev h (HoldR.mk K)) (@opt2 (buildSliceA nid n (fillA z (@List.map (Prod Nat (Prod Nat AOpd)) (Prod Nat (Prod Nat AV)) (fun p => @Prod.mk Nat (Prod Nat AV) (@Prod.fst Nat (Prod Nat AOpd) p) (@Prod.mk Nat AV (@Prod.fst Nat AOpd (@Prod.snd Nat (Prod Nat AOpd) p)) (ev (@Prod.snd Nat AOpd (@Prod.snd Nat (Prod Nat AOpd) p))))) parts)) h) (HoldR.mk K))) ∧
  (∀ {nid : Option Nat} {ev : AOpd → AV} {h : Heap} {K : AV → Heap → Prop} {n : Nat} {x v : AOpd}, @Eq Prop (@opR nid (AOp.store n x v) ev h (HoldR.mk K)) (@opt2 (storeOA (storeA h n (ev x) (ev v))) (HoldR.mk K))) ∧
  (∀ {nid : Option Nat} {ev : AOpd → AV} {h : Heap} {K : AV → Heap → Prop} {z : List AV} {bytes : Nat} {l c : AOpd}, @Eq Prop (@opR nid (AOp.makeSlice z bytes l c) ev h (HoldR.mk K)) (@opt2 (makeA nid z bytes h (ev l) (ev c)) (HoldR.mk K))) ∧
  (∀ {nid : Option Nat} {ev : AOpd → AV} {h : Heap} {K : AV → Heap → Prop} {sz bytes : Nat} {s x : AOpd}, @Eq Prop (@opR nid (AOp.append sz bytes s x) ev h (HoldR.mk K)) (@opt2 (appA nid sz bytes h (ev s) (contentA h sz (ev x))) (HoldR.mk K))) ∧
  (∀ {nid : Option Nat} {ev : AOpd → AV} {h : Heap} {K : AV → Heap → Prop} {sz : Nat} {d s : AOpd}, @Eq Prop (@opR nid (AOp.copy sz d s) ev h (HoldR.mk K)) (@opt2 (copyA h sz (ev d) (ev s)) (HoldR.mk K))) ∧
  (∀ {k : IntKind} {a b : Int}, @Eq (Option AV) (binA BinOp.add (AV.int k a) (AV.int k b)) (@some AV (AV.int k (IntKind.wrap k (@HAdd.hAdd Int Int Int (@instHAdd Int Int.instAdd) a b))))) ∧
  (∀ {k : IntKind} {a b : Int}, @Eq (Option AV) (binA BinOp.sub (AV.int k a) (AV.int k b)) (@some AV (AV.int k (IntKind.wrap k (@HSub.hSub Int Int Int (@instHSub Int Int.instSub) a b))))) ∧
  (∀ {k : IntKind} {a b : Int}, @Eq (Option AV) (binA BinOp.mul (AV.int k a) (AV.int k b)) (@some AV (AV.int k (IntKind.wrap k (@HMul.hMul Int Int Int (@instHMul Int Int.instMul) a b))))) ∧
  (∀ {k : IntKind} {a b : Int}, @Ne Int b (@OfNat.ofNat Int (nat_lit 0) (@instOfNat (nat_lit 0))) → @Eq (Option AV) (binA BinOp.quo (AV.int k a) (AV.int k b)) (@some AV (AV.int k (IntKind.wrap k (Int.tdiv a b))))) ∧
  (∀ {k : IntKind} {a b : Int}, @Ne Int b (@OfNat.ofNat Int (nat_lit 0) (@instOfNat (nat_lit 0))) → @Eq (Option AV) (binA BinOp.rem (AV.int k a) (AV.int k b)) (@some AV (AV.int k (Int.tmod a b)))) ∧
  (∀ {k : IntKind} {a b : Int}, @Eq (Option AV) (binA BinOp.and (AV.int k a) (AV.int k b)) (@some AV (AV.int k (bitsA BinOp.and k a b)))) ∧
  (∀ {k : IntKind} {a b : Int}, @Eq (Option AV) (binA BinOp.or (AV.int k a) (AV.int k b)) (@some AV (AV.int k (bitsA BinOp.or k a b)))) ∧
  (∀ {k : IntKind} {a b : Int}, @Eq (Option AV) (binA BinOp.xor (AV.int k a) (AV.int k b)) (@some AV (AV.int k (bitsA BinOp.xor k a b)))) ∧
  (∀ {k : IntKind} {a b : Int}, @Eq (Option AV) (binA BinOp.andNot (AV.int k a) (AV.int k b)) (@some AV (AV.int k (bitsA BinOp.andNot k a b)))) ∧
  (∀ {k : IntKind} {a b : Int}, @Eq (Option AV) (binA BinOp.eql (AV.int k a) (AV.int k b)) (@some AV (AV.bool (@decide (@Eq Int a b) (Int.instDecidableEq a b))))) ∧
  (∀ {k : IntKind} {a b : Int}, @Eq (Option AV) (binA BinOp.neq (AV.int k a) (AV.int k b)) (@some AV (AV.bool (@decide (@Ne Int a b) (@instDecidableNot (@Eq Int a b) (Int.instDecidableEq a b)))))) ∧
  (∀ {k : IntKind} {a b : Int}, @Eq (Option AV) (binA BinOp.lss (AV.int k a) (AV.int k b)) (@some AV (AV.bool (@decide (@LT.lt Int Int.instLTInt a b) (Int.decLt a b))))) ∧
  (∀ {k : IntKind} {a b : Int}, @Eq (Option AV) (binA BinOp.leq (AV.int k a) (AV.int k b)) (@some AV (AV.bool (@decide (@LE.le Int Int.instLEInt a b) (Int.decLe a b))))) ∧
  (∀ {k : IntKind} {a b : Int}, @Eq (Option AV) (binA BinOp.gtr (AV.int k a) (AV.int k b)) (@some AV (AV.bool (@decide (@LT.lt Int Int.instLTInt b a) (Int.decLt b a))))) ∧
  (∀ {k : IntKind} {a b : Int}, @Eq (Option AV) (binA BinOp.geq (AV.int k a) (AV.int k b)) (@some AV (AV.bool (@decide (@LE.le Int Int.instLEInt b a) (Int.decLe b a))))) ∧
  (∀ {k k' : IntKind} {a b : Int}, @LE.le Int Int.instLEInt (@OfNat.ofNat Int (nat_lit 0) (@instOfNat (nat_lit 0))) b → @Eq (Option AV) (binA BinOp.shl (AV.int k a) (AV.int k' b)) (@some AV (AV.int k (IntKind.wrap k (@HMul.hMul Int Int Int (@instHMul Int Int.instMul) a (@HPow.hPow Int Nat Int (@instHPow Int Nat (@instPowNat Int Int.instNatPow)) (@OfNat.ofNat Int (nat_lit 2) (@instOfNat (nat_lit 2))) (@min Nat instMinNat (Int.toNat b) (IntKind.bits k)))))))) ∧
  (∀ {k k' : IntKind} {a b : Int}, @LE.le Int Int.instLEInt (@OfNat.ofNat Int (nat_lit 0) (@instOfNat (nat_lit 0))) b → @Eq (Option AV) (binA BinOp.shr (AV.int k a) (AV.int k' b)) (@some AV (AV.int k (Int.fdiv a (@HPow.hPow Int Nat Int (@instHPow Int Nat (@instPowNat Int Int.instNatPow)) (@OfNat.ofNat Int (nat_lit 2) (@instOfNat (nat_lit 2))) (@min Nat instMinNat (Int.toNat b) (IntKind.bits k))))))) ∧
  (∀ {a : Int}, And (@LE.le Int Int.instLEInt (@OfNat.ofNat Int (nat_lit 0) (@instOfNat (nat_lit 0))) a) (@LE.le Int Int.instLEInt a (@OfNat.ofNat Int (nat_lit 9223372036854775807) (@instOfNat (nat_lit 9223372036854775807)))) → @Eq Int (bitsA BinOp.and IntKind.i64 a (@OfNat.ofNat Int (nat_lit 1) (@instOfNat (nat_lit 1)))) (@HMod.hMod Int Int Int (@instHMod Int Int.instMod) a (@OfNat.ofNat Int (nat_lit 2) (@instOfNat (nat_lit 2))))) ∧
  (∀ {k : IntKind} {a : Int}, @Eq (Option AV) (unA UnOp.neg (AV.int k a)) (@some AV (AV.int k (IntKind.wrap k (@HSub.hSub Int Int Int (@instHSub Int Int.instSub) (@OfNat.ofNat Int (nat_lit 0) (@instOfNat (nat_lit 0))) a))))) ∧
  (∀ {b : Bool}, @Eq (Option AV) (unA UnOp.not (AV.bool b)) (@some AV (AV.bool (not b)))) ∧
  (∀ {k : IntKind} {a : Int}, @Eq (Option AV) (unA UnOp.xor (AV.int k a)) (@some AV (AV.int k (bitsA BinOp.xor k (@ite Int (@Eq Bool (IntKind.signed k) true) (instDecidableEqBool (IntKind.signed k) true) (@Neg.neg Int Int.instNegInt (@OfNat.ofNat Int (nat_lit 1) (@instOfNat (nat_lit 1)))) (IntKind.max k)) a)))) ∧
  (∀ {k k' : IntKind} {a : Int}, @Eq (Option AV) (convA k (AV.int k' a)) (@some AV (AV.int k (IntKind.wrap k a)))) ∧
  (∀ {a b : Bool}, @Eq (Option AV) (eqbA false (AV.bool a) (AV.bool b)) (@some AV (AV.bool (@BEq.beq Bool (@instBEqOfDecidableEq Bool instDecidableEqBool) a b)))) ∧
  (∀ {a b : Bool}, @Eq (Option AV) (eqbA true (AV.bool a) (AV.bool b)) (@some AV (AV.bool (not (@BEq.beq Bool (@instBEqOfDecidableEq Bool instDecidableEqBool) a b))))) ∧
  (∀ {x y : AV}, @Eq (Option AV) (pickA x y (AV.bool true)) (@some AV x)) ∧
  (∀ {x y : AV}, @Eq (Option AV) (pickA x y (AV.bool false)) (@some AV y)) ∧
  (∀ {x y : AV} {c : Prop} [inst : Decidable c], c → @Eq (Option AV) (pickA x y (AV.bool (@decide c inst))) (@some AV x)) ∧
  (∀ {x y : AV} {c : Prop} [inst : Decidable c], Not c → @Eq (Option AV) (pickA x y (AV.bool (@decide c inst))) (@some AV y)) ∧
  (∀ {x y : AV} {b : Bool}, @Eq Bool b true → @Eq (Option AV) (pickA x y (AV.bool b)) (@some AV x)) ∧
  (∀ {x y : AV} {b : Bool}, Not (@Eq Bool b true) → @Eq (Option AV) (pickA x y (AV.bool b)) (@some AV y)) ∧
  (∀ {vs : List AV} {i : Nat}, @Eq (Option AV) (extA i (AV.tuple vs)) (@getElem? (List AV) Nat AV (fun xs i => @LT.lt Nat instLTNat i (@List.length AV xs)) (@List.instGetElem?NatLtLength AV) vs i)) ∧
  (∀ {k : IntKind} {a b : Int}, @Eq (Option AV) (maxA (@List.cons AV (AV.int k a) (@List.cons AV (AV.int k b) (@List.nil AV)))) (@some AV (AV.int k (@max Int Int.instMax a b)))) ∧
  (∀ {k : IntKind} {a b c : Int}, @Eq (Option AV) (maxA (@List.cons AV (AV.int k a) (@List.cons AV (AV.int k b) (@List.cons AV (AV.int k c) (@List.nil AV))))) (@some AV (AV.int k (@max Int Int.instMax (@max Int Int.instMax a b) c)))) ∧
  (∀ {k : IntKind} {a b : Int}, @Eq (Option AV) (minA (@List.cons AV (AV.int k a) (@List.cons AV (AV.int k b) (@List.nil AV)))) (@some AV (AV.int k (@min Int Int.instMin a b)))) ∧
  (∀ {k : IntKind} {a b c : Int}, @Eq (Option AV) (minA (@List.cons AV (AV.int k a) (@List.cons AV (AV.int k b) (@List.cons AV (AV.int k c) (@List.nil AV))))) (@some AV (AV.int k (@min Int Int.instMin (@min Int Int.instMin a b) c)))) ∧
  (∀ {x : Int}, And (@LE.le Int Int.instLEInt (@Neg.neg Int Int.instNegInt (@OfNat.ofNat Int (nat_lit 9223372036854775808) (@instOfNat (nat_lit 9223372036854775808)))) x) (@LE.le Int Int.instLEInt x (@OfNat.ofNat Int (nat_lit 9223372036854775807) (@instOfNat (nat_lit 9223372036854775807)))) → @Eq Int (IntKind.wrap IntKind.i64 x) x) ∧
  (∀ {x : Int}, And (@LE.le Int Int.instLEInt (@Neg.neg Int Int.instNegInt (@OfNat.ofNat Int (nat_lit 2147483648) (@instOfNat (nat_lit 2147483648)))) x) (@LE.le Int Int.instLEInt x (@OfNat.ofNat Int (nat_lit 2147483647) (@instOfNat (nat_lit 2147483647)))) → @Eq Int (IntKind.wrap IntKind.i32 x) x) ∧
  (∀ {x : Int}, And (@LE.le Int Int.instLEInt (@OfNat.ofNat Int (nat_lit 0) (@instOfNat (nat_lit 0))) x) (@LE.le Int Int.instLEInt x (@OfNat.ofNat Int (nat_lit 255) (@instOfNat (nat_lit 255)))) → @Eq Int (IntKind.wrap IntKind.u8 x) x) ∧
  (∀ {x : Int}, And (@LE.le Int Int.instLEInt (@OfNat.ofNat Int (nat_lit 0) (@instOfNat (nat_lit 0))) x) (@LE.le Int Int.instLEInt x (@OfNat.ofNat Int (nat_lit 4294967295) (@instOfNat (nat_lit 4294967295)))) → @Eq Int (IntKind.wrap IntKind.u32 x) x) ∧
  (∀ {x : Int}, And (@LE.le Int Int.instLEInt (@OfNat.ofNat Int (nat_lit 0) (@instOfNat (nat_lit 0))) x) (@LE.le Int Int.instLEInt x (@OfNat.ofNat Int (nat_lit 18446744073709551615) (@instOfNat (nat_lit 18446744073709551615)))) → @Eq Int (IntKind.wrap IntKind.u64 x) x) ∧
  (∀ {a b : Int}, @LE.le Int Int.instLEInt (@OfNat.ofNat Int (nat_lit 0) (@instOfNat (nat_lit 0))) a → @Eq Int (Int.tdiv a b) (@HDiv.hDiv Int Int Int (@instHDiv Int Int.instDiv) a b)) ∧
  (∀ {a b : Int}, @LE.le Int Int.instLEInt (@OfNat.ofNat Int (nat_lit 0) (@instOfNat (nat_lit 0))) a → @Eq Int (Int.tmod a b) (@HMod.hMod Int Int Int (@instHMod Int Int.instMod) a b)) ∧
  (∀ {a b : Int}, @LE.le Int Int.instLEInt (@OfNat.ofNat Int (nat_lit 0) (@instOfNat (nat_lit 0))) b → @Eq Int (Int.fdiv a b) (@HDiv.hDiv Int Int Int (@instHDiv Int Int.instDiv) a b)) ∧
  (@Eq Nat (IntKind.bits IntKind.i64) (@OfNat.ofNat Nat (nat_lit 64) (instOfNatNat (nat_lit 64)))) ∧
  (@Eq Nat (IntKind.bits IntKind.u64) (@OfNat.ofNat Nat (nat_lit 64) (instOfNatNat (nat_lit 64)))) ∧
  (@Eq Nat (IntKind.bits IntKind.u32) (@OfNat.ofNat Nat (nat_lit 32) (instOfNatNat (nat_lit 32)))) ∧
  (@Eq Nat (IntKind.bits IntKind.i32) (@OfNat.ofNat Nat (nat_lit 32) (instOfNatNat (nat_lit 32)))) ∧
  (@Eq Nat (IntKind.bits IntKind.u8) (@OfNat.ofNat Nat (nat_lit 8) (instOfNatNat (nat_lit 8)))) ∧
  (∀ {b : Int} {n : Nat}, @LE.le Int Int.instLEInt b (@Nat.cast Int instNatCastInt n) → @Eq Nat (@min Nat instMinNat (Int.toNat b) n) (Int.toNat b)) ∧
  (∀ {h : Heap} {b : ABlk} {i : Nat}, @Eq Nat i (Heap.size h) → @Eq (Option ABlk) (Heap.get (Heap.push h b) i) (@some ABlk b)) ∧
  (∀ {h : Heap} {b : ABlk} {i : Nat}, @LT.lt Nat instLTNat i (Heap.size h) → @Eq (Option ABlk) (Heap.get (Heap.push h b) i) (Heap.get h i)) ∧
  (∀ {h : Heap} {b : ABlk} {i j : Nat}, @Eq Nat j i → @LT.lt Nat instLTNat i (Heap.size h) → @Eq (Option ABlk) (Heap.get (Heap.put h i b) j) (@some ABlk b)) ∧
  (∀ {h : Heap} {b : ABlk} {i j : Nat}, @Ne Nat j i → @Eq (Option ABlk) (Heap.get (Heap.put h i b) j) (Heap.get h j)) ∧
  (∀ {h : Heap} {i : Nat} {b b' : ABlk}, @Eq Heap (Heap.put (Heap.put h i b) i b') (Heap.put h i b')) ∧
  (∀ {h : Heap} {i : Nat} {b b' : ABlk}, @Eq Nat i (Heap.size h) → @Eq Heap (Heap.put (Heap.push h b) i b') (Heap.push h b')) ∧
  (∀ {h : Heap} {i : Nat} {b b' : ABlk}, @LT.lt Nat instLTNat i (Heap.size h) → @Eq Heap (Heap.put (Heap.push h b) i b') (Heap.push (Heap.put h i b') b)) ∧
  (∀ (h : Heap) (b : ABlk), @Eq Nat (Heap.size (Heap.push h b)) (@HAdd.hAdd Nat Nat Nat (@instHAdd Nat instAddNat) (Heap.size h) (@OfNat.ofNat Nat (nat_lit 1) (instOfNatNat (nat_lit 1))))) ∧
  (∀ (h : Heap) (i : Nat) (b : ABlk), @Eq Nat (Heap.size (Heap.put h i b)) (Heap.size h)) ∧
  (∀ (h : Heap) (k : Nat), @Eq Nat (Heap.size (Heap.reserve h k)) (@HAdd.hAdd Nat Nat Nat (@instHAdd Nat instAddNat) (Heap.size h) k)) ∧
  (∀ (h : Heap) (k i : Nat), @Eq (Option ABlk) (Heap.get (Heap.reserve h k) i) (Heap.get h i)) ∧
  (∀ {h : Heap} {agg : Bool} {n i o : Nat}, @Eq (Option AV) (loadA h agg n (AV.ptr i o)) (loadB agg n o (Heap.get h i))) ∧
  (∀ {n o : Nat} {vs : List AV} {wr : Bool} {u : Nat}, @Eq (Option AV) (loadB false n o (@some ABlk (ABlk.cells vs wr u))) (@getElem? (List AV) Nat AV (fun xs i => @LT.lt Nat instLTNat i (@List.length AV xs)) (@List.instGetElem?NatLtLength AV) vs o)) ∧
  (∀ {n o : Nat} {vs : List AV} {wr : Bool} {u : Nat}, @LE.le Nat instLENat (@HAdd.hAdd Nat Nat Nat (@instHAdd Nat instAddNat) o n) (@List.length AV vs) → @Eq (Option AV) (loadB true n o (@some ABlk (ABlk.cells vs wr u))) (@some AV (AV.agg (cut vs o n)))) ∧
  (∀ {h : Heap} {n i o : Nat} {v : AV}, @Eq (Option Heap) (storeA h n (AV.ptr i o) v) (storeB h i n o v (Heap.get h i))) ∧
  (∀ {h : Heap} {i o : Nat} {k : IntKind} {x : Int} {vs : List AV} {u : Nat}, @LT.lt Nat instLTNat o (@List.length AV vs) → @Eq (Option Heap) (storeB h i (@OfNat.ofNat Nat (nat_lit 1) (instOfNatNat (nat_lit 1))) o (AV.int k x) (@some ABlk (ABlk.cells vs true u))) (@some Heap (Heap.put h i (ABlk.cells (@List.set AV vs o (AV.int k x)) true u)))) ∧
  (∀ {h : Heap} {i o : Nat} {x : Bool} {vs : List AV} {u : Nat}, @LT.lt Nat instLTNat o (@List.length AV vs) → @Eq (Option Heap) (storeB h i (@OfNat.ofNat Nat (nat_lit 1) (instOfNatNat (nat_lit 1))) o (AV.bool x) (@some ABlk (ABlk.cells vs true u))) (@some Heap (Heap.put h i (ABlk.cells (@List.set AV vs o (AV.bool x)) true u)))) ∧
  (∀ {h : Heap} {i o j p n : Nat} {c : Cap} {vs : List AV} {u : Nat}, @LT.lt Nat instLTNat o (@List.length AV vs) → @Eq (Option Heap) (storeB h i (@OfNat.ofNat Nat (nat_lit 1) (instOfNatNat (nat_lit 1))) o (AV.slice j p n c) (@some ABlk (ABlk.cells vs true u))) (@some Heap (Heap.put h i (ABlk.cells (@List.set AV vs o (AV.slice j p n c)) true u)))) ∧
  (∀ {h : Heap} {i o : Nat} {vs : List AV} {u : Nat}, @LT.lt Nat instLTNat o (@List.length AV vs) → @Eq (Option Heap) (storeB h i (@OfNat.ofNat Nat (nat_lit 1) (instOfNatNat (nat_lit 1))) o AV.nilslice (@some ABlk (ABlk.cells vs true u))) (@some Heap (Heap.put h i (ABlk.cells (@List.set AV vs o AV.nilslice) true u)))) ∧
  (∀ {h : Heap} {i o n : Nat} {xs vs : List AV} {u : Nat}, @Eq Nat (@List.length AV xs) n → @LE.le Nat instLENat (@HAdd.hAdd Nat Nat Nat (@instHAdd Nat instAddNat) o n) (@List.length AV vs) → @Eq Bool (@List.all AV xs AV.one) true → @Eq (Option Heap) (storeB h i n o (AV.agg xs) (@some ABlk (ABlk.cells vs true u))) (@some Heap (Heap.put h i (ABlk.cells (splice vs o xs) true u)))) ∧
  (∀ {h : Heap} {i o : Nat} {v : AV} {vs : List AV} {u : Nat}, @Eq (List AV) (AV.cells v) (@List.cons AV v (@List.nil AV)) → @Eq Bool (AV.one v) true → @LT.lt Nat instLTNat o (@List.length AV vs) → @Eq (Option Heap) (storeB h i (@OfNat.ofNat Nat (nat_lit 1) (instOfNatNat (nat_lit 1))) o v (@some ABlk (ABlk.cells vs true u))) (@some Heap (Heap.put h i (ABlk.cells (@List.set AV vs o v) true u)))) ∧
  (∀ {vs : List AV} {o : Nat} {c : AV}, @Eq (List AV) (splice vs o (@List.cons AV c (@List.nil AV))) (@List.set AV vs o c)) ∧
  (∀ {vs : List AV} {o : Nat} {x y : AV} {cs : List AV}, @Eq (List AV) (splice vs o (@List.cons AV x (@List.cons AV y cs))) (@HAppend.hAppend (List AV) (List AV) (List AV) (@instHAppendOfAppend (List AV) (@List.instAppend AV)) (@HAppend.hAppend (List AV) (List AV) (List AV) (@instHAppendOfAppend (List AV) (@List.instAppend AV)) (@List.take AV o vs) (@List.cons AV x (@List.cons AV y cs))) (@List.drop AV (@HAdd.hAdd Nat Nat Nat (@instHAdd Nat instAddNat) o (@HAdd.hAdd Nat Nat Nat (@instHAdd Nat instAddNat) (@List.length AV cs) (@OfNat.ofNat Nat (nat_lit 2) (instOfNatNat (nat_lit 2))))) vs))) ∧
  (∀ {vs : List AV} {o : Nat}, @Eq (List AV) (cut vs o (@OfNat.ofNat Nat (nat_lit 0) (instOfNatNat (nat_lit 0)))) (@List.nil AV)) ∧
  (∀ {x : AV} {vs : List AV} {n : Nat}, @Eq (List AV) (cut (@List.cons AV x vs) (@OfNat.ofNat Nat (nat_lit 0) (instOfNatNat (nat_lit 0))) (@HAdd.hAdd Nat Nat Nat (@instHAdd Nat instAddNat) n (@OfNat.ofNat Nat (nat_lit 1) (instOfNatNat (nat_lit 1))))) (@List.cons AV x (cut vs (@OfNat.ofNat Nat (nat_lit 0) (instOfNatNat (nat_lit 0))) n))) ∧
  (∀ {x : AV} {vs : List AV} {o n : Nat}, @Eq (List AV) (cut (@List.cons AV x vs) (@HAdd.hAdd Nat Nat Nat (@instHAdd Nat instAddNat) o (@OfNat.ofNat Nat (nat_lit 1) (instOfNatNat (nat_lit 1)))) n) (cut vs o n)) ∧
  (∀ {z : List AV}, @Eq (Option (List AV)) (fillA z (@List.nil (Prod Nat (Prod Nat AV)))) (@some (List AV) z)) ∧
  (∀ {z : List AV} {o : Nat} {k : IntKind} {n : Int} {rest : List (Prod Nat (Prod Nat AV))}, @LT.lt Nat instLTNat o (@List.length AV z) → @Eq (Option (List AV)) (fillA z (@List.cons (Prod Nat (Prod Nat AV)) (@Prod.mk Nat (Prod Nat AV) o (@Prod.mk Nat AV (@OfNat.ofNat Nat (nat_lit 1) (instOfNatNat (nat_lit 1))) (AV.int k n))) rest)) (fillA (@List.set AV z o (AV.int k n)) rest)) ∧
  (∀ {z : List AV} {o : Nat} {b : Bool} {rest : List (Prod Nat (Prod Nat AV))}, @LT.lt Nat instLTNat o (@List.length AV z) → @Eq (Option (List AV)) (fillA z (@List.cons (Prod Nat (Prod Nat AV)) (@Prod.mk Nat (Prod Nat AV) o (@Prod.mk Nat AV (@OfNat.ofNat Nat (nat_lit 1) (instOfNatNat (nat_lit 1))) (AV.bool b))) rest)) (fillA (@List.set AV z o (AV.bool b)) rest)) ∧
  (∀ {z : List AV} {o i p : Nat} {rest : List (Prod Nat (Prod Nat AV))}, @LT.lt Nat instLTNat o (@List.length AV z) → @Eq (Option (List AV)) (fillA z (@List.cons (Prod Nat (Prod Nat AV)) (@Prod.mk Nat (Prod Nat AV) o (@Prod.mk Nat AV (@OfNat.ofNat Nat (nat_lit 1) (instOfNatNat (nat_lit 1))) (AV.ptr i p))) rest)) (fillA (@List.set AV z o (AV.ptr i p)) rest)) ∧
  (∀ {z : List AV} {o i p n : Nat} {c : Cap} {rest : List (Prod Nat (Prod Nat AV))}, @LT.lt Nat instLTNat o (@List.length AV z) → @Eq (Option (List AV)) (fillA z (@List.cons (Prod Nat (Prod Nat AV)) (@Prod.mk Nat (Prod Nat AV) o (@Prod.mk Nat AV (@OfNat.ofNat Nat (nat_lit 1) (instOfNatNat (nat_lit 1))) (AV.slice i p n c))) rest)) (fillA (@List.set AV z o (AV.slice i p n c)) rest)) ∧
  (∀ {z : List AV} {o : Nat} {rest : List (Prod Nat (Prod Nat AV))}, @LT.lt Nat instLTNat o (@List.length AV z) → @Eq (Option (List AV)) (fillA z (@List.cons (Prod Nat (Prod Nat AV)) (@Prod.mk Nat (Prod Nat AV) o (@Prod.mk Nat AV (@OfNat.ofNat Nat (nat_lit 1) (instOfNatNat (nat_lit 1))) AV.nilslice)) rest)) (fillA (@List.set AV z o AV.nilslice) rest)) ∧
  (∀ {z : List AV} {o g : Nat} {f c : List AV} {rest : List (Prod Nat (Prod Nat AV))}, @LT.lt Nat instLTNat o (@List.length AV z) → @Eq (Option (List AV)) (fillA z (@List.cons (Prod Nat (Prod Nat AV)) (@Prod.mk Nat (Prod Nat AV) o (@Prod.mk Nat AV (@OfNat.ofNat Nat (nat_lit 1) (instOfNatNat (nat_lit 1))) (AV.func g f c))) rest)) (fillA (@List.set AV z o (AV.func g f c)) rest)) ∧
  (∀ {z : List AV} {o n : Nat} {xs : List AV} {rest : List (Prod Nat (Prod Nat AV))}, @Eq Nat (@List.length AV xs) n → @LE.le Nat instLENat (@HAdd.hAdd Nat Nat Nat (@instHAdd Nat instAddNat) o n) (@List.length AV z) → @Eq (Option (List AV)) (fillA z (@List.cons (Prod Nat (Prod Nat AV)) (@Prod.mk Nat (Prod Nat AV) o (@Prod.mk Nat AV n (AV.agg xs))) rest)) (fillA (@HAppend.hAppend (List AV) (List AV) (List AV) (@instHAppendOfAppend (List AV) (@List.instAppend AV)) (@HAppend.hAppend (List AV) (List AV) (List AV) (@instHAppendOfAppend (List AV) (@List.instAppend AV)) (@List.take AV o z) xs) (@List.drop AV (@HAdd.hAdd Nat Nat Nat (@instHAdd Nat instAddNat) o n) z)) rest)) ∧
  (∀ {z : List AV} {o : Nat} {v : AV} {rest : List (Prod Nat (Prod Nat AV))}, @Eq (List AV) (AV.cells v) (@List.cons AV v (@List.nil AV)) → @LT.lt Nat instLTNat o (@List.length AV z) → @Eq (Option (List AV)) (fillA z (@List.cons (Prod Nat (Prod Nat AV)) (@Prod.mk Nat (Prod Nat AV) o (@Prod.mk Nat AV (@OfNat.ofNat Nat (nat_lit 1) (instOfNatNat (nat_lit 1))) v)) rest)) (fillA (@List.set AV z o v) rest)) ∧
  (∀ {h : Heap}, @Eq (Option (Prod AV Heap)) (storeOA (@some Heap h)) (@some (Prod AV Heap) (@Prod.mk AV Heap AV.undef h))) ∧
  (∀ {z : List AV} {h : Heap}, @Eq (Option (Prod AV Heap)) (allocA (@none Nat) z h) (@some (Prod AV Heap) (@Prod.mk AV Heap (AV.ptr (Heap.size h) (@OfNat.ofNat Nat (nat_lit 0) (instOfNatNat (nat_lit 0)))) (Heap.push h (ABlk.cells z true (@OfNat.ofNat Nat (nat_lit 0) (instOfNatNat (nat_lit 0)))))))) ∧
  (∀ {z : List AV} {h : Heap} {n : Nat}, @Eq (Option (Prod AV Heap)) (allocA (@some Nat n) z h) (kept n h (Heap.get h n) fun n x p => @some (Prod AV Heap) (@Prod.mk AV Heap (AV.ptr n (@OfNat.ofNat Nat (nat_lit 0) (instOfNatNat (nat_lit 0)))) (p (ABlk.cells z true (@OfNat.ofNat Nat (nat_lit 0) (instOfNatNat (nat_lit 0)))))))) ∧
  (∀ {n : Nat} {h : Heap} {f : Nat → Heap → (ABlk → Heap) → Option (Prod AV Heap)}, @LT.lt Nat instLTNat n (Heap.size h) → @Eq (Option (Prod AV Heap)) (kept n h (@none ABlk) f) (f n h fun b => Heap.put h n b)) ∧
  (∀ {n : Nat} {cs : List AV} {h : Heap}, @Eq (Option (Prod AV Heap)) (buildSliceA (@none Nat) n (@some (List AV) cs) h) (@some (Prod AV Heap) (@Prod.mk AV Heap (AV.slice (Heap.size h) (@OfNat.ofNat Nat (nat_lit 0) (instOfNatNat (nat_lit 0))) n (Cap.known n)) (Heap.push h (ABlk.cells cs true (@OfNat.ofNat Nat (nat_lit 0) (instOfNatNat (nat_lit 0)))))))) ∧
  (∀ {n : Nat} {cs : List AV} {h : Heap} {i : Nat}, @Eq (Option (Prod AV Heap)) (buildSliceA (@some Nat i) n (@some (List AV) cs) h) (kept i h (Heap.get h i) fun i x p => @some (Prod AV Heap) (@Prod.mk AV Heap (AV.slice i (@OfNat.ofNat Nat (nat_lit 0) (instOfNatNat (nat_lit 0))) n (Cap.known n)) (p (ABlk.cells cs true (@OfNat.ofNat Nat (nat_lit 0) (instOfNatNat (nat_lit 0)))))))) ∧
  (∀ {z : List AV} {bytes : Nat} {h : Heap} {k k' : IntKind} {l c : Int}, And (@LE.le Int Int.instLEInt (@OfNat.ofNat Int (nat_lit 0) (@instOfNat (nat_lit 0))) l) (And (@LE.le Int Int.instLEInt l c) (And (@LE.le Int Int.instLEInt (@HMul.hMul Int Int Int (@instHMul Int Int.instMul) c (@Nat.cast Int instNatCastInt bytes)) (@OfNat.ofNat Int (nat_lit 140737488355328) (@instOfNat (nat_lit 140737488355328)))) (@LE.le Int Int.instLEInt c (@OfNat.ofNat Int (nat_lit 140737488355328) (@instOfNat (nat_lit 140737488355328)))))) → @Eq (Option (Prod AV Heap)) (makeA (@none Nat) z bytes h (AV.int k l) (AV.int k' c)) (@some (Prod AV Heap) (@Prod.mk AV Heap (AV.slice (Heap.size h) (@OfNat.ofNat Nat (nat_lit 0) (instOfNatNat (nat_lit 0))) (Int.toNat l) (Cap.known (Int.toNat c))) (Heap.push h (ABlk.cells (zerosA (Int.toNat c) z) true (@OfNat.ofNat Nat (nat_lit 0) (instOfNatNat (nat_lit 0)))))))) ∧
  (∀ {z : List AV} {bytes : Nat} {h : Heap} {k k' : IntKind} {l c : Int} {i : Nat}, And (@LE.le Int Int.instLEInt (@OfNat.ofNat Int (nat_lit 0) (@instOfNat (nat_lit 0))) l) (And (@LE.le Int Int.instLEInt l c) (And (@LE.le Int Int.instLEInt (@HMul.hMul Int Int Int (@instHMul Int Int.instMul) c (@Nat.cast Int instNatCastInt bytes)) (@OfNat.ofNat Int (nat_lit 140737488355328) (@instOfNat (nat_lit 140737488355328)))) (@LE.le Int Int.instLEInt c (@OfNat.ofNat Int (nat_lit 140737488355328) (@instOfNat (nat_lit 140737488355328)))))) → @Eq (Option (Prod AV Heap)) (makeA (@some Nat i) z bytes h (AV.int k l) (AV.int k' c)) (kept i h (Heap.get h i) fun i x p => @some (Prod AV Heap) (@Prod.mk AV Heap (AV.slice i (@OfNat.ofNat Nat (nat_lit 0) (instOfNatNat (nat_lit 0))) (Int.toNat l) (Cap.known (Int.toNat c))) (p (ABlk.cells (zerosA (Int.toNat c) z) true (@OfNat.ofNat Nat (nat_lit 0) (instOfNatNat (nat_lit 0)))))))) ∧
  (∀ {sz i o n : Nat} {c : Cap} {kk : IntKind} {k : Int}, And (@LE.le Int Int.instLEInt (@OfNat.ofNat Int (nat_lit 0) (@instOfNat (nat_lit 0))) k) (@LT.lt Int Int.instLTInt k (@Nat.cast Int instNatCastInt n)) → @Eq (Option AV) (idxA sz (AV.slice i o n c) (AV.int kk k)) (@some AV (AV.ptr i (@HAdd.hAdd Nat Nat Nat (@instHAdd Nat instAddNat) o (@HMul.hMul Nat Nat Nat (@instHMul Nat instMulNat) (Int.toNat k) sz))))) ∧
  (∀ {sz len i o : Nat} {kk : IntKind} {k : Int}, And (@LE.le Int Int.instLEInt (@OfNat.ofNat Int (nat_lit 0) (@instOfNat (nat_lit 0))) k) (@LT.lt Int Int.instLTInt k (@Nat.cast Int instNatCastInt len)) → @Eq (Option AV) (idxArrA sz len (AV.ptr i o) (AV.int kk k)) (@some AV (AV.ptr i (@HAdd.hAdd Nat Nat Nat (@instHAdd Nat instAddNat) o (@HMul.hMul Nat Nat Nat (@instHMul Nat instMulNat) (Int.toNat k) sz))))) ∧
  (∀ {off i o : Nat}, @Eq (Option AV) (fieldAddrA off (AV.ptr i o)) (@some AV (AV.ptr i (@HAdd.hAdd Nat Nat Nat (@instHAdd Nat instAddNat) o off)))) ∧
  (∀ {agg : Bool} {off n : Nat} {vs : List AV}, @Eq (Option AV) (fieldA agg off n (AV.agg vs)) (partA agg vs off n)) ∧
  (∀ {vs : List AV} {o n : Nat}, @Eq (Option AV) (partA false vs o n) (@getElem? (List AV) Nat AV (fun xs i => @LT.lt Nat instLTNat i (@List.length AV xs)) (@List.instGetElem?NatLtLength AV) vs o)) ∧
  (∀ {vs : List AV} {o n : Nat}, @LE.le Nat instLENat (@HAdd.hAdd Nat Nat Nat (@instHAdd Nat instAddNat) o n) (@List.length AV vs) → @Eq (Option AV) (partA true vs o n) (@some AV (AV.agg (cut vs o n)))) ∧
  (∀ {i o n : Nat} {c : Cap}, @Eq (Option AV) (lenA (AV.slice i o n c)) (@some AV (AV.int IntKind.i64 (@Nat.cast Int instNatCastInt n)))) ∧
  (@Eq (Option AV) (lenA AV.nilslice) (@some AV (AV.int IntKind.i64 (@OfNat.ofNat Int (nat_lit 0) (@instOfNat (nat_lit 0)))))) ∧
  (∀ {k : IntKind} {n : Int}, @Eq (List AV) (AV.cells (AV.int k n)) (@List.cons AV (AV.int k n) (@List.nil AV))) ∧
  (∀ {b : Bool}, @Eq (List AV) (AV.cells (AV.bool b)) (@List.cons AV (AV.bool b) (@List.nil AV))) ∧
  (∀ {vs : List AV}, @Eq (List AV) (AV.cells (AV.agg vs)) vs) ∧
  (∀ {i o n : Nat} {c : Cap}, @Eq (List AV) (AV.cells (AV.slice i o n c)) (@List.cons AV (AV.slice i o n c) (@List.nil AV))) ∧
  (@Eq (List AV) (AV.cells AV.nilslice) (@List.cons AV AV.nilslice (@List.nil AV))) ∧
  (∀ {i o : Nat}, @Eq (List AV) (AV.cells (AV.ptr i o)) (@List.cons AV (AV.ptr i o) (@List.nil AV))) ∧
  (∀ {g : Nat} {f c : List AV}, @Eq (List AV) (AV.cells (AV.func g f c)) (@List.cons AV (AV.func g f c) (@List.nil AV))) ∧
  (∀ {l : Nat}, @Eq (List AV) (AV.cells (AV.yield l)) (@List.cons AV (AV.yield l) (@List.nil AV))) ∧
  (∀ {l : List Int}, @Eq Nat (@List.length AV (ints l)) (@List.length Int l)) ∧
  (∀ {l : List Int} {k : Nat}, @LT.lt Nat instLTNat k (@List.length Int l) → @Eq (Option AV) (@getElem? (List AV) Nat AV (fun xs i => @LT.lt Nat instLTNat i (@List.length AV xs)) (@List.instGetElem?NatLtLength AV) (ints l) k) (@some AV (AV.int IntKind.i64 (@List.getD Int l k (@OfNat.ofNat Int (nat_lit 0) (@instOfNat (nat_lit 0))))))) ∧
  (∀ {l : List Int} {k : Nat} {x : Int}, @Eq (List AV) (@List.set AV (ints l) k (AV.int IntKind.i64 x)) (ints (@List.set Int l k x))) ∧
  (∀ {l : List Int} {x : Int}, @Eq (List AV) (@HAppend.hAppend (List AV) (List AV) (List AV) (@instHAppendOfAppend (List AV) (@List.instAppend AV)) (ints l) (@List.cons AV (AV.int IntKind.i64 x) (@List.nil AV))) (ints (@HAppend.hAppend (List Int) (List Int) (List Int) (@instHAppendOfAppend (List Int) (@List.instAppend Int)) l (@List.cons Int x (@List.nil Int))))) ∧
  (∀ {sz i o n : Nat} {c : Cap} {k : Nat}, @Eq AV (elA sz (AV.slice i o n c) k) (AV.ptr i (@HAdd.hAdd Nat Nat Nat (@instHAdd Nat instAddNat) o (@HMul.hMul Nat Nat Nat (@instHMul Nat instMulNat) k sz)))) ∧
  (∀ {n : Nat} {x : AV}, @Eq (List AV) (zerosA n (@List.cons AV x (@List.nil AV))) (@List.replicate AV n x)) ∧
  (∀ {r : ALoop} {K : ALoop → Prop}, @Eq Prop (@atLoop (@some ABlk (ABlk.loop r)) (HoldL.mk K)) (K r)) ∧
  (∀ {t : Nat → AV}, @Eq (Nat → AV) (setParams t (@List.nil Nat) (@List.nil AV)) t) ∧
  (∀ {t : Nat → AV} {p : Nat} {ps : List Nat} {a : AV} {xs : List AV}, @Eq (Nat → AV) (setParams t (@List.cons Nat p ps) (@List.cons AV a xs)) (setParams (upd t p a) ps xs)) ∧
  (∀ {a b : Nat}, @LE.le Nat instLENat a b → @Eq Nat (@min Nat instMinNat a b) a) ∧
  (∀ (n : Nat), @Eq Nat (Int.toNat (@Nat.cast Int instNatCastInt n)) n) ∧
  (∀ (n : Nat), @Eq Nat (@HAdd.hAdd Nat Nat Nat (@instHAdd Nat instAddNat) (@OfNat.ofNat Nat (nat_lit 0) (instOfNatNat (nat_lit 0))) n) n) ∧
  (∀ (n : Nat), @Eq Nat (@HAdd.hAdd Nat Nat Nat (@instHAdd Nat instAddNat) n (@OfNat.ofNat Nat (nat_lit 0) (instOfNatNat (nat_lit 0)))) n) ∧
  (∀ (n : Nat), @Eq Nat (@HMul.hMul Nat Nat Nat (@instHMul Nat instMulNat) n (@OfNat.ofNat Nat (nat_lit 1) (instOfNatNat (nat_lit 1)))) n) ∧
  (∀ (n : Nat), @Eq Nat (@HMul.hMul Nat Nat Nat (@instHMul Nat instMulNat) (@OfNat.ofNat Nat (nat_lit 0) (instOfNatNat (nat_lit 0))) n) (@OfNat.ofNat Nat (nat_lit 0) (instOfNatNat (nat_lit 0)))) ∧
  (∀ (h : Decidable True), @Eq Bool (@decide True h) true) ∧
  (∀ (h : Decidable False), @Eq Bool (@decide False h) false) ∧
  (@Eq Bool (not true) false) ∧
  (@Eq Bool (not false) true) ∧
  (∀ {p : Prop} [inst : Decidable p], @Eq Prop (@Eq Bool (@decide p inst) true) p) ∧
  (∀ (k : IntKind) (n : Int) (k_1 : IntKind) (n_1 : Int), @Eq Prop (@Eq AV (AV.int k n) (AV.int k_1 n_1)) (And (@Eq IntKind k k_1) (@Eq Int n n_1))) :=
 ⟨@app_known,
   @appKB_grow,
   @appKB_room,
   @app_unk,
   @appUB_grow,
   @app_nil,
   @app_nil0,
   @appA_some,
   @atDefd_some,
   @retO_ret,
   @retO_normal,
   @chkP_nil,
   @chkP_none,
   @chkP_skip,
   @chkP_take,
   @chkS_nil,
   @chkS_none,
   @chkS_skip,
   @chkS_take,
   @noneIn_nil,
   @noneIn_none,
   @noneIn_cons,
   @ids_ptr,
   @ids_slice,
   @ids_nil,
   @ids_int,
   @ids_bool,
   @ids_agg,
   @rids_known,
   @rids_unk,
   @rids_nil,
   @foot_blind,
   @wr_blind,
   @foot_load,
   @wr_load,
   @foot_store,
   @wr_store,
   @foot_slice,
   @wr_slice,
   @foot_append,
   @wr_append,
   @foot_alloc,
   @wr_alloc,
   @foot_box,
   @wr_box,
   @foot_build,
   @wr_build,
   @foot_make,
   @wr_make,
   @foot_copy,
   @wr_copy,
   @false_implies,
   @true_and,
   @and_true,
   @resA_nil,
   @resA_tmp,
   @resA_cell,
   @retA_zero,
   @retA_one,
   @retA_two,
   @retA_three,
   @retA_four,
   @ev_tmp,
   @ev_const,
   @evs_nil,
   @evs_cons,
   @upd_same,
   @upd_ne,
   @argT_app,
   @condV_true,
   @condV_false,
   @condV_dec,
   @condV_var,
   @Br_not,
   @Br_pos,
   @Br_neg,
   @gV_tt,
   @gV_tf,
   @gV_ft,
   @gV_ff,
   @gV_dt,
   @gV_df,
   @gV_vt,
   @gV_vf,
   @Call_func,
   @Call_clo,
   @Call_yield,
   @opt1_some,
   @opt2_some,
   @opR_mv,
   @opR_pick,
   @opR_build,
   @opR_load,
   @opR_nilCheck,
   @opR_bin,
   @opR_eqb,
   @opR_eqn,
   @opR_eqs,
   @opR_un,
   @opR_conv,
   @opR_mkfunc,
   @opR_slice,
   @opR_fieldAddr,
   @opR_field,
   @opR_indexAddr,
   @opR_indexArr,
   @opR_index,
   @opR_extract,
   @opR_len,
   @opR_cap,
   @opR_max,
   @opR_min,
   @opR_alloc,
   @opR_box,
   @opR_buildSlice,
   @opR_store,
   @opR_makeSlice,
   @opR_append,
   @opR_copy,
   @bin_add,
   @bin_sub,
   @bin_mul,
   @bin_quo,
   @bin_rem,
   @bin_and,
   @bin_or,
   @bin_xor,
   @bin_andNot,
   @bin_eql,
   @bin_neq,
   @bin_lss,
   @bin_leq,
   @bin_gtr,
   @bin_geq,
   @bin_shl,
   @bin_shr,
   @bits_and1,
   @un_neg,
   @un_not,
   @un_xor,
   @conv_int,
   @eqb_ff,
   @eqb_tt,
   @pick_tt,
   @pick_ff,
   @pick_dt,
   @pick_df,
   @pick_vt,
   @pick_vf,
   @ext_tuple,
   @max_two,
   @max_three,
   @min_two,
   @min_three,
   @w_i64,
   @w_i32,
   @w_u8,
   @w_u32,
   @w_u64,
   @tdiv_nn,
   @tmod_nn,
   @fdiv_nn,
   @bits_i64,
   @bits_u64,
   @bits_u32,
   @bits_i32,
   @bits_u8,
   @min_shift,
   @get_push_eq,
   @get_push_lt,
   @get_put_eq,
   @get_put_ne,
   @put_put,
   @push_put,
   @push_put_lt,
   @Heap.size_push,
   @Heap.size_put,
   @Heap.size_reserve,
   @Heap.get_reserve,
   @load_ptr,
   @loadB_one,
   @loadB_agg,
   @store_ptr,
   @storeB_int,
   @storeB_bool,
   @storeB_slice,
   @storeB_nil,
   @storeB_agg,
   @storeB_var,
   @splice_one,
   @splice_two,
   @cut_nil,
   @cut_cons,
   @cut_succ,
   @fill_nil,
   @fill_int,
   @fill_bool,
   @fill_ptr,
   @fill_slice,
   @fill_nilslice,
   @fill_func,
   @fill_agg,
   @fill_one,
   @storeO_some,
   @alloc_none,
   @alloc_some,
   @kept_none,
   @buildS_none,
   @buildS_some,
   @make_none,
   @make_some,
   @idx_slice,
   @idxArr_ptr,
   @fieldAddr_ptr,
   @field_agg,
   @part_one,
   @part_agg,
   @len_slice,
   @len_nil,
   @cells_int,
   @cells_bool,
   @cells_agg,
   @cells_slice,
   @cells_nil,
   @cells_ptr,
   @cells_func,
   @cells_yield,
   @ints_length,
   @ints_get,
   @ints_set,
   @ints_snoc,
   @elA_slice,
   @zeros_one,
   @atLoop_some,
   @setParams_nil,
   @setParams_cons,
   @Nat.min_eq_left,
   @Int.toNat_natCast,
   @Nat.zero_add,
   @Nat.add_zero,
   @Nat.mul_one,
   @Nat.zero_mul,
   @decide_true,
   @decide_false,
   @Bool.not_true,
   @Bool.not_false,
   @decide_eq_true_eq,
   @AV.int.injEq⟩
end Go.Ae
/- The rules of the simplifier that hold for every type, bundled. -/
namespace Go.Ae
theorem wpPoly :
  (∀ {α : Type} {l : List α}, l ++ [] = l) ∧
  (∀ {α : Type} {a : α} {l m : List α}, (a :: l) ++ m = a :: (l ++ m)) ∧
  (∀ {α : Type} {a : α} {l : List α} {i : Nat}, (a :: l).drop (i + 1) = l.drop i) ∧
  (∀ {α : Type} {l : List α}, l.drop 0 = l) ∧
  (∀ {α : Type} {p : α → Prop} {a : α} {l : List α}, (∀ x ∈ a :: l, p x) = (p a ∧ ∀ x ∈ l, p x)) ∧
  (∀ {α : Type} {a d : α} {l : List α} {i : Nat}, (a :: l).getD (i + 1) d = l.getD i d) ∧
  (∀ {α : Type} {a d : α} {l : List α}, (a :: l).getD 0 d = a) ∧
  (∀ {α : Type} {d : α} {i : Nat}, ([] : List α).getD i d = d) ∧
  (∀ {α : Type} {a : α} {l : List α} {i : Nat}, (a :: l)[i + 1]? = l[i]?) ∧
  (∀ {α : Type} {a : α} {l : List α}, (a :: l)[0]? = some a) ∧
  (∀ {α : Type} {a : α} {l : List α}, (a :: l).length = l.length + 1) ∧
  (∀ {α : Type}, ([] : List α).length = 0) ∧
  (∀ {α β : Type} {f : α → β} {a : α} {l : List α}, (a :: l).map f = f a :: l.map f) ∧
  (∀ {α β : Type} {f : α → β}, ([] : List α).map f = []) ∧
  (∀ {α : Type} {l : List α}, [] ++ l = l) ∧
  (∀ {α : Type} {a : α}, (a ∈ ([] : List α)) = False) ∧
  (∀ {α : Type} {a b : α} {l : List α} {i : Nat}, (a :: l).set (i + 1) b = a :: l.set i b) ∧
  (∀ {α : Type} {a b : α} {l : List α}, (a :: l).set 0 b = b :: l) ∧
  (∀ {α : Type} {a : α} {l : List α} {i : Nat}, (a :: l).take (i + 1) = a :: l.take i) ∧
  (∀ {α : Type} {l : List α}, l.take 0 = []) ∧
  (∀ {α β : Type} {f : α → β}, (none : Option α).map f = none) ∧
  (∀ {α β : Type} {f : α → β} {a : α}, (some a).map f = some (f a)) ∧
  (∀ {α : Type} {a : α}, (a = a) = True) ∧
  (∀ {α : Type} {p : α → Prop} {b : α}, (∃ a, a = b ∧ p a) = p b) ∧
  (∀ {α : Type} {p : α → Prop} {b : α}, (∃ a, b = a ∧ p a) = p b) ∧
  (∀ {α : Type}, (α → True) = True) ∧
  (∀ {α : Prop}, (α → True) = True) ∧
  (∀ {α : Type} {a b : α}, (a ≠ b) = ¬ a = b) := by
 refine ⟨?_, ?_, ?_, ?_, ?_, ?_, ?_, ?_, ?_, ?_, ?_, ?_, ?_, ?_, ?_, ?_, ?_, ?_, ?_, ?_, ?_, ?_, ?_, ?_, ?_, ?_, ?_, ?_⟩ <;> intros <;> simp
theorem wpD1 :
  (∀ {h : Heap} {b : ABlk}, (h.push b).size = h.size + 1) ∧
  (∀ {h : Heap} {i : Nat} {b : ABlk}, (h.put i b).size = h.size) ∧
  (∀ {h : Heap} {k : Nat}, (h.reserve k).size = h.size + k) ∧
  (∀ {l : List Int}, (ints l).length = l.length) ∧
  (∀ {x y : Nat}, (x ∈ [y]) = (x = y)) ∧
  (∀ {α : Type} {a : α} {l : List α}, (a :: l).length = l.length + 1) ∧
  (∀ {α : Type}, ([] : List α).length = 0) ∧
  (∀ {α : Type} {n : Nat} {a : α}, (List.replicate n a).length = n) ∧
  (∀ {α : Type} {l : List α} {i : Nat} {a : α}, (l.set i a).length = l.length) :=
 ⟨rfl, rfl, rfl, ints_length, by simp, List.length_cons, List.length_nil, List.length_replicate, List.length_set⟩
theorem wpD2 :
  (∀ {k : IntKind} {n : Int}, (AV.int k n).one = true) ∧ (∀ {b : Bool}, (AV.bool b).one = true) ∧ (∀ {i o : Nat}, (AV.ptr i o).one = true) ∧ (∀ {i o n : Nat} {c : Cap}, (AV.slice i o n c).one = true) ∧ AV.nilslice.one = true ∧
  (∀ {g : Nat} {f c : List AV}, (AV.func g f c).one = true) ∧
  (∀ {α : Type} {p : α → Bool} {a : α} {l : List α}, (a :: l).all p = (p a && l.all p)) ∧ (∀ {α : Type} {p : α → Bool}, ([] : List α).all p = true) ∧
  (∀ {a b : Bool}, ((a && b) = true) = (a = true ∧ b = true)) ∧ (∀ {p : Prop}, (p ∧ p) = p) ∧ (∀ {p : Prop}, (True ∧ p) = p) ∧ (∀ {p : Prop}, (p ∧ True) = p) ∧ ((true = true) = True) := by
 refine ⟨?_, ?_, ?_, ?_, ?_, ?_, ?_, ?_, ?_, ?_, ?_, ?_, ?_⟩ <;> intros <;> first | rfl | simp
theorem zd {P : Prop} (h : P := by first | assumption | decide | omega | (simp only [wpD1] <;> omega) | (simp only [wpD2] <;> assumption) | solve_by_elim [zR, zP, zV] | fail) : P := h
theorem zs {P Q : Prop} (h : Q) (e : P = Q := by simp -implicitDefEqProofs (disch := first | exact zd | fail) only [↓wpPre, wpPost, wpPoly, Int.reduceToNat, Int.reducePow, Int.reduceMul, Int.reduceAdd, Int.reduceSub, Int.reduceNeg, Nat.reduceAdd, Nat.reduceMul, Nat.reducePow, Int.reduceLT, Int.reduceLE, Int.reduceEq, Nat.reduceEqDiff]; rfl) : P := e ▸ h
theorem ze {P : Prop} (h : P := by simp -implicitDefEqProofs (disch := first | exact zd | fail) only [↓wpPre, wpPost, wpPoly, Int.reduceToNat, Int.reducePow, Int.reduceMul, Int.reduceAdd, Int.reduceSub, Int.reduceNeg, Nat.reduceAdd, Nat.reduceMul, Nat.reducePow, Int.reduceLT, Int.reduceLE, Int.reduceEq, Nat.reduceEqDiff]) : P := h
theorem zs1 {P Q A1 : Prop} (a : A1) (hh : Q) (ee : A1 → P = Q := by intro ya; simp -implicitDefEqProofs (disch := first | exact zd | fail) only [↓wpPre, wpPost, wpPoly, Int.reduceToNat, Int.reducePow, Int.reduceMul, Int.reduceAdd, Int.reduceSub, Int.reduceNeg, Nat.reduceAdd, Nat.reduceMul, Nat.reducePow, Int.reduceLT, Int.reduceLE, Int.reduceEq, Nat.reduceEqDiff, ya]; rfl) : P := ee a ▸ hh
theorem ze1 {P A1 : Prop} (a : A1) (ee : A1 → P := by intro ya; simp -implicitDefEqProofs (disch := first | exact zd | fail) only [↓wpPre, wpPost, wpPoly, Int.reduceToNat, Int.reducePow, Int.reduceMul, Int.reduceAdd, Int.reduceSub, Int.reduceNeg, Nat.reduceAdd, Nat.reduceMul, Nat.reducePow, Int.reduceLT, Int.reduceLE, Int.reduceEq, Nat.reduceEqDiff, ya]) : P := ee a
theorem zs2 {P Q A1 B1 : Prop} (a : A1) (b : B1) (hh : Q) (ee : A1 → B1 → P = Q := by intro ya yb; simp -implicitDefEqProofs (disch := first | exact zd | fail) only [↓wpPre, wpPost, wpPoly, Int.reduceToNat, Int.reducePow, Int.reduceMul, Int.reduceAdd, Int.reduceSub, Int.reduceNeg, Nat.reduceAdd, Nat.reduceMul, Nat.reducePow, Int.reduceLT, Int.reduceLE, Int.reduceEq, Nat.reduceEqDiff, ya, yb]; rfl) : P := ee a b ▸ hh
theorem ze2 {P A1 B1 : Prop} (a : A1) (b : B1) (ee : A1 → B1 → P := by intro ya yb; simp -implicitDefEqProofs (disch := first | exact zd | fail) only [↓wpPre, wpPost, wpPoly, Int.reduceToNat, Int.reducePow, Int.reduceMul, Int.reduceAdd, Int.reduceSub, Int.reduceNeg, Nat.reduceAdd, Nat.reduceMul, Nat.reducePow, Int.reduceLT, Int.reduceLE, Int.reduceEq, Nat.reduceEqDiff, ya, yb]) : P := ee a b
theorem zs3 {P Q A1 B1 C1 : Prop} (a : A1) (b : B1) (c : C1) (hh : Q) (ee : A1 → B1 → C1 → P = Q := by intro ya yb yc; simp -implicitDefEqProofs (disch := first | exact zd | fail) only [↓wpPre, wpPost, wpPoly, Int.reduceToNat, Int.reducePow, Int.reduceMul, Int.reduceAdd, Int.reduceSub, Int.reduceNeg, Nat.reduceAdd, Nat.reduceMul, Nat.reducePow, Int.reduceLT, Int.reduceLE, Int.reduceEq, Nat.reduceEqDiff, ya, yb, yc]; rfl) : P := ee a b c ▸ hh
theorem ze3 {P A1 B1 C1 : Prop} (a : A1) (b : B1) (c : C1) (ee : A1 → B1 → C1 → P := by intro ya yb yc; simp -implicitDefEqProofs (disch := first | exact zd | fail) only [↓wpPre, wpPost, wpPoly, Int.reduceToNat, Int.reducePow, Int.reduceMul, Int.reduceAdd, Int.reduceSub, Int.reduceNeg, Nat.reduceAdd, Nat.reduceMul, Nat.reducePow, Int.reduceLT, Int.reduceLE, Int.reduceEq, Nat.reduceEqDiff, ya, yb, yc]) : P := ee a b c
theorem zs4 {P Q A1 B1 C1 D1 : Prop} (a : A1) (b : B1) (c : C1) (d : D1) (hh : Q) (ee : A1 → B1 → C1 → D1 → P = Q := by intro ya yb yc yd; simp -implicitDefEqProofs (disch := first | exact zd | fail) only [↓wpPre, wpPost, wpPoly, Int.reduceToNat, Int.reducePow, Int.reduceMul, Int.reduceAdd, Int.reduceSub, Int.reduceNeg, Nat.reduceAdd, Nat.reduceMul, Nat.reducePow, Int.reduceLT, Int.reduceLE, Int.reduceEq, Nat.reduceEqDiff, ya, yb, yc, yd]; rfl) : P := ee a b c d ▸ hh
theorem zs5 {P Q A1 B1 C1 D1 E1 : Prop} (a : A1) (b : B1) (c : C1) (d : D1) (e : E1) (hh : Q) (ee : A1 → B1 → C1 → D1 → E1 → P = Q := by intro ya yb yc yd ye; simp -implicitDefEqProofs (disch := first | exact zd | fail) only [↓wpPre, wpPost, wpPoly, Int.reduceToNat, Int.reducePow, Int.reduceMul, Int.reduceAdd, Int.reduceSub, Int.reduceNeg, Nat.reduceAdd, Nat.reduceMul, Nat.reducePow, Int.reduceLT, Int.reduceLE, Int.reduceEq, Nat.reduceEqDiff, ya, yb, yc, yd, ye]; rfl) : P := ee a b c d e ▸ hh
theorem zs6 {P Q A1 B1 C1 D1 E1 F1 : Prop} (a : A1) (b : B1) (c : C1) (d : D1) (e : E1) (f : F1) (hh : Q) (ee : A1 → B1 → C1 → D1 → E1 → F1 → P = Q := by intro ya yb yc yd ye yf; simp -implicitDefEqProofs (disch := first | exact zd | fail) only [↓wpPre, wpPost, wpPoly, Int.reduceToNat, Int.reducePow, Int.reduceMul, Int.reduceAdd, Int.reduceSub, Int.reduceNeg, Nat.reduceAdd, Nat.reduceMul, Nat.reducePow, Int.reduceLT, Int.reduceLE, Int.reduceEq, Nat.reduceEqDiff, ya, yb, yc, yd, ye, yf]; rfl) : P := ee a b c d e f ▸ hh
theorem ze6 {P A1 B1 C1 D1 E1 F1 : Prop} (a : A1) (b : B1) (c : C1) (d : D1) (e : E1) (f : F1) (ee : A1 → B1 → C1 → D1 → E1 → F1 → P := by intro ya yb yc yd ye yf; simp -implicitDefEqProofs (disch := first | exact zd | fail) only [↓wpPre, wpPost, wpPoly, Int.reduceToNat, Int.reducePow, Int.reduceMul, Int.reduceAdd, Int.reduceSub, Int.reduceNeg, Nat.reduceAdd, Nat.reduceMul, Nat.reducePow, Int.reduceLT, Int.reduceLE, Int.reduceEq, Nat.reduceEqDiff, ya, yb, yc, yd, ye, yf]) : P := ee a b c d e f
theorem zs7 {P Q A1 B1 C1 D1 E1 F1 G1 : Prop} (a : A1) (b : B1) (c : C1) (d : D1) (e : E1) (f : F1) (g : G1) (hh : Q) (ee : A1 → B1 → C1 → D1 → E1 → F1 → G1 → P = Q := by intro ya yb yc yd ye yf yg; simp -implicitDefEqProofs (disch := first | exact zd | fail) only [↓wpPre, wpPost, wpPoly, Int.reduceToNat, Int.reducePow, Int.reduceMul, Int.reduceAdd, Int.reduceSub, Int.reduceNeg, Nat.reduceAdd, Nat.reduceMul, Nat.reducePow, Int.reduceLT, Int.reduceLE, Int.reduceEq, Nat.reduceEqDiff, ya, yb, yc, yd, ye, yf, yg]; rfl) : P := ee a b c d e f g ▸ hh
theorem zs8 {P Q A1 B1 C1 D1 E1 F1 G1 H1 : Prop} (a : A1) (b : B1) (c : C1) (d : D1) (e : E1) (f : F1) (g : G1) (h : H1) (hh : Q) (ee : A1 → B1 → C1 → D1 → E1 → F1 → G1 → H1 → P = Q := by intro ya yb yc yd ye yf yg yh; simp -implicitDefEqProofs (disch := first | exact zd | fail) only [↓wpPre, wpPost, wpPoly, Int.reduceToNat, Int.reducePow, Int.reduceMul, Int.reduceAdd, Int.reduceSub, Int.reduceNeg, Nat.reduceAdd, Nat.reduceMul, Nat.reducePow, Int.reduceLT, Int.reduceLE, Int.reduceEq, Nat.reduceEqDiff, ya, yb, yc, yd, ye, yf, yg, yh]; rfl) : P := ee a b c d e f g h ▸ hh
theorem zs9 {P Q A1 B1 C1 D1 E1 F1 G1 H1 I1 : Prop} (a : A1) (b : B1) (c : C1) (d : D1) (e : E1) (f : F1) (g : G1) (h : H1) (i : I1) (hh : Q) (ee : A1 → B1 → C1 → D1 → E1 → F1 → G1 → H1 → I1 → P = Q := by intro ya yb yc yd ye yf yg yh yi; simp -implicitDefEqProofs (disch := first | exact zd | fail) only [↓wpPre, wpPost, wpPoly, Int.reduceToNat, Int.reducePow, Int.reduceMul, Int.reduceAdd, Int.reduceSub, Int.reduceNeg, Nat.reduceAdd, Nat.reduceMul, Nat.reducePow, Int.reduceLT, Int.reduceLE, Int.reduceEq, Nat.reduceEqDiff, ya, yb, yc, yd, ye, yf, yg, yh, yi]; rfl) : P := ee a b c d e f g h i ▸ hh
theorem zs10 {P Q A1 B1 C1 D1 E1 F1 G1 H1 I1 J1 : Prop} (a : A1) (b : B1) (c : C1) (d : D1) (e : E1) (f : F1) (g : G1) (h : H1) (i : I1) (j : J1) (hh : Q) (ee : A1 → B1 → C1 → D1 → E1 → F1 → G1 → H1 → I1 → J1 → P = Q := by intro ya yb yc yd ye yf yg yh yi yj; simp -implicitDefEqProofs (disch := first | exact zd | fail) only [↓wpPre, wpPost, wpPoly, Int.reduceToNat, Int.reducePow, Int.reduceMul, Int.reduceAdd, Int.reduceSub, Int.reduceNeg, Nat.reduceAdd, Nat.reduceMul, Nat.reducePow, Int.reduceLT, Int.reduceLE, Int.reduceEq, Nat.reduceEqDiff, ya, yb, yc, yd, ye, yf, yg, yh, yi, yj]; rfl) : P := ee a b c d e f g h i j ▸ hh
theorem zs11 {P Q A1 B1 C1 D1 E1 F1 G1 H1 I1 J1 K1 : Prop} (a : A1) (b : B1) (c : C1) (d : D1) (e : E1) (f : F1) (g : G1) (h : H1) (i : I1) (j : J1) (k : K1) (hh : Q) (ee : A1 → B1 → C1 → D1 → E1 → F1 → G1 → H1 → I1 → J1 → K1 → P = Q := by intro ya yb yc yd ye yf yg yh yi yj yk; simp -implicitDefEqProofs (disch := first | exact zd | fail) only [↓wpPre, wpPost, wpPoly, Int.reduceToNat, Int.reducePow, Int.reduceMul, Int.reduceAdd, Int.reduceSub, Int.reduceNeg, Nat.reduceAdd, Nat.reduceMul, Nat.reducePow, Int.reduceLT, Int.reduceLE, Int.reduceEq, Nat.reduceEqDiff, ya, yb, yc, yd, ye, yf, yg, yh, yi, yj, yk]; rfl) : P := ee a b c d e f g h i j k ▸ hh
theorem ze11 {P A1 B1 C1 D1 E1 F1 G1 H1 I1 J1 K1 : Prop} (a : A1) (b : B1) (c : C1) (d : D1) (e : E1) (f : F1) (g : G1) (h : H1) (i : I1) (j : J1) (k : K1) (ee : A1 → B1 → C1 → D1 → E1 → F1 → G1 → H1 → I1 → J1 → K1 → P := by intro ya yb yc yd ye yf yg yh yi yj yk; simp -implicitDefEqProofs (disch := first | exact zd | fail) only [↓wpPre, wpPost, wpPoly, Int.reduceToNat, Int.reducePow, Int.reduceMul, Int.reduceAdd, Int.reduceSub, Int.reduceNeg, Nat.reduceAdd, Nat.reduceMul, Nat.reducePow, Int.reduceLT, Int.reduceLE, Int.reduceEq, Nat.reduceEqDiff, ya, yb, yc, yd, ye, yf, yg, yh, yi, yj, yk]) : P := ee a b c d e f g h i j k
theorem zs12 {P Q A1 B1 C1 D1 E1 F1 G1 H1 I1 J1 K1 L1 : Prop} (a : A1) (b : B1) (c : C1) (d : D1) (e : E1) (f : F1) (g : G1) (h : H1) (i : I1) (j : J1) (k : K1) (l : L1) (hh : Q) (ee : A1 → B1 → C1 → D1 → E1 → F1 → G1 → H1 → I1 → J1 → K1 → L1 → P = Q := by intro ya yb yc yd ye yf yg yh yi yj yk yl; simp -implicitDefEqProofs (disch := first | exact zd | fail) only [↓wpPre, wpPost, wpPoly, Int.reduceToNat, Int.reducePow, Int.reduceMul, Int.reduceAdd, Int.reduceSub, Int.reduceNeg, Nat.reduceAdd, Nat.reduceMul, Nat.reducePow, Int.reduceLT, Int.reduceLE, Int.reduceEq, Nat.reduceEqDiff, ya, yb, yc, yd, ye, yf, yg, yh, yi, yj, yk, yl]; rfl) : P := ee a b c d e f g h i j k l ▸ hh
theorem zh {h1 h2 h h3 : Heap} (x : HSub h1 h2) (e : HSub h1 h2 → HSub h h3 := by intro zx; repeat (first | exact zx | refine HSub.put ?_ (by (try simp only [Heap.size_put, Heap.size_push, Heap.size_reserve]); omega) _ | refine HSub.push ?_ _ | refine HSub.reserve ?_ _)) : HSub h h3 := e x
end Go.Ae
/- Sums of elements times powers: the plain facts about transforms. -/
namespace Go.Ae
abbrev pP : Int := 998244353
theorem take_succ_getD {l : List Int} {i : Nat} (h : i < l.length) : l.take (i + 1) = l.take i ++ [l.getD i 0] := by
 rw [List.take_add_one]; simp [h]
theorem getD_mem {l : List Int} {i : Nat} (h : i < l.length) : l.getD i 0 ∈ l := by
 have : l.getD i 0 = l[i] := by simp [h]
 rw [this]; exact List.getElem_mem h
def pe : List Int → Int → Int
 | [], _ => 0
 | x :: l, z => x + z * pe l z
def Cg (a b : Int) : Prop := a % pP = b % pP
theorem Cg.refl (a : Int) : Cg a a := rfl
theorem Cg.symm {a b : Int} (h : Cg a b) : Cg b a := Eq.symm h
theorem Cg.trans {a b c : Int} (h : Cg a b) (k : Cg b c) : Cg a c := Eq.trans h k
theorem Cg.add {a b c d : Int} (h : Cg a b) (k : Cg c d) : Cg (a + c) (b + d) := by unfold Cg at *; rw [Int.add_emod, h, k, ← Int.add_emod]
theorem Cg.sub {a b c d : Int} (h : Cg a b) (k : Cg c d) : Cg (a - c) (b - d) := by unfold Cg at *; rw [Int.sub_emod, h, k, ← Int.sub_emod]
theorem Cg.mul {a b c d : Int} (h : Cg a b) (k : Cg c d) : Cg (a * c) (b * d) := by unfold Cg at *; rw [Int.mul_emod, h, k, ← Int.mul_emod]
theorem Cg.neg {a b : Int} (h : Cg a b) : Cg (-a) (-b) := by have := (Cg.refl 0).sub h; simpa using this
theorem Cg.pe {a b : Int} (h : Cg a b) (l : List Int) : Cg (pe l a) (pe l b) := by
 induction l with
 | nil => exact Cg.refl _
 | cons x l ih => exact (Cg.refl x).add (h.mul ih)
theorem Cg.plus (a k : Int) : Cg (a + k * pP) a := by unfold Cg; rw [Int.add_mul_emod_self_right]
end Go.Ae
/- What the statements' helpers give. -/
set_option linter.unusedSimpArgs false
set_option linter.unusedVariables false
namespace Go.Ae
section
variable {C : Ctx}
def In64 (x : Int) : Prop := -9223372036854775808 ≤ x ∧ x ≤ 9223372036854775807
theorem emod_of_tmod {x n : Int} (hn : 1 ≤ n) : x % n = if x.tmod n < 0 then x.tmod n + n else x.tmod n := by
 have h1 : x.tmod n < n := Int.tmod_lt_of_pos x (by omega)
 have h2 : -n < x.tmod n := by have := Int.lt_tmod_of_pos x (b := n) (by omega); omega
 have h3 : x % n = x.tmod n % n := by
  have := Int.tmod_add_mul_tdiv x n
  rw [← this, Int.add_mul_emod_self_left]
  rw [Int.tmod_add_mul_tdiv]
 rw [h3]
 split
 ·rw [← Int.add_emod_right, Int.emod_eq_of_lt (by omega) (by omega)]
 ·rw [Int.emod_eq_of_lt (by omega) (by omega)]
theorem Turn_spec (hC : Has C T23) {x n : Int} {h : Heap} (hx : In64 x) (hn : 1 ≤ n ∧ n ≤ 9223372036854775807) : ACalls C 23 [.int .i64 x, .int .i64 n] h (fun r h' => r = .int .i64 (x % n) ∧ h' = h) := by
 unfold In64 at hx
 have h1 : x.tmod n < n := Int.tmod_lt_of_pos x (by omega)
 have h2 : -n < x.tmod n := by have := Int.lt_tmod_of_pos x (b := n) (by omega); omega
 rw [emod_of_tmod hn.1]
 refine zf hC tab23 ?_; simp only [B23]; refine zs ?_
 refine Br.by (fun c => ?_) (fun c => ?_)
 ·simp -implicitDefEqProofs (disch := first | exact zd | fail) only [↓wpPre, wpPost, wpPoly, Int.reduceToNat, Int.reducePow, Int.reduceMul, Int.reduceAdd, Int.reduceSub, Int.reduceNeg, Nat.reduceAdd, Nat.reduceMul, Nat.reducePow, Int.reduceLT, Int.reduceLE, Int.reduceEq, Nat.reduceEqDiff, if_pos c]
 ·simp -implicitDefEqProofs (disch := first | exact zd | fail) only [↓wpPre, wpPost, wpPoly, Int.reduceToNat, Int.reducePow, Int.reduceMul, Int.reduceAdd, Int.reduceSub, Int.reduceNeg, Nat.reduceAdd, Nat.reduceMul, Nat.reducePow, Int.reduceLT, Int.reduceLE, Int.reduceEq, Nat.reduceEqDiff, if_neg c]
def tup2 (a b : Int) : AV := .tuple [.int .i64 a, .int .i64 b]
def lstErr (v : AV) (e : Int) : AV := .tuple [v, .int .i64 e]
theorem ACallsK.eq2 {g : Nat} {args : List AV} {h h' : Heap} {r r' : AV} {K : AV → Heap → Prop} (hc : ACalls C g args h fun x h'' => x = r ∧ h'' = h') (e : r = r') (hk : K r' h') : @ACallsK C g args h ⟨K⟩ := ACallsK.eq (e ▸ hc) hk
def tabIn (L : List Nat) (g : Nat) : Option ABody := if L.contains g then tab g else none
theorem tabIn_ok {L : List Nat} (hC : Has C L) : ∀ g b, tabIn L g = some b → C.body g = some b := by
 intro g b h
 unfold tabIn at h
 split at h
 ·rename_i hg; exact hC g (by simpa using hg) b h
 ·cases h
end
end Go.Ae
/- What functions of Go's slices package give on lists of numbers. -/
set_option linter.unusedSimpArgs false
set_option linter.unusedVariables false
namespace Go.Ae
def Fresh (h h' : Heap) (v : AV) (l : List Int) : Prop :=
 HSub h h' ∧ l.length < 9223372036854775808 ∧ ∃ i, h.size ≤ i ∧ v = .slice i 0 l.length (.known l.length) ∧ h'.get i = some (.cells (ints l) true 0)
theorem Fresh.ri {h h' : Heap} {v : AV} {l : List Int} (H : Fresh h h' v l) : RI h' v l := by
 obtain ⟨hs, hl, i, hi, rfl, hg⟩ := H
 exact RI.known hg ⟨rfl, hl⟩ (Nat.le_refl _)
theorem Fresh.sub {h h' : Heap} {v : AV} {l : List Int} (H : Fresh h h' v l) : HSub h h' := H.1
theorem Fresh.mono {h0 h h' : Heap} {v : AV} {l : List Int} (H : Fresh h h' v l) (hs : HSub h0 h) : Fresh h0 h' v l := by
 obtain ⟨hs', hl, i, hi, r⟩ := H
 exact ⟨hs.trans hs', hl, i, Nat.le_trans hs.size hi, r⟩
def mapPre (f : Int → Int) (l : List Int) (i : Nat) : List Int := (l.take i).map f ++ l.drop i
theorem mapPre_zero (f : Int → Int) (l : List Int) : mapPre f l 0 = l := by simp [mapPre]
theorem mapPre_full (f : Int → Int) (l : List Int) : mapPre f l l.length = l.map f := by simp [mapPre]
theorem mapPre_length (f : Int → Int) (l : List Int) (i : Nat) : (mapPre f l i).length = l.length := by simp [mapPre]; omega
theorem mapPre_get (f : Int → Int) {l : List Int} {i : Nat} (h : i < l.length) : (mapPre f l i).getD i 0 = l.getD i 0 := by
 simp only [mapPre, List.getD_eq_getElem?_getD]
 rw [List.getElem?_append_right (by simp; omega)]
 simp [Nat.min_eq_left (Nat.le_of_lt h)]
theorem mapPre_set (f : Int → Int) {l : List Int} {i : Nat} (h : i < l.length) : (mapPre f l i).set i (f (l.getD i 0)) = mapPre f l (i + 1) := by
 unfold mapPre
 have hl : ((l.take i).map f).length = i := by simp; omega
 rw [List.set_append_right _ _ (by omega), hl, Nat.sub_self, take_succ_getD h, List.map_append, List.append_assoc]
 congr 1
 have : l.drop i = l.getD i 0 :: l.drop (i + 1) := by
  rw [List.drop_eq_getElem_cons h]; simp [h]
 rw [this]; rfl
section
variable {C : Ctx}
def idxI (p : Int → Bool) (l : List Int) : Int := if l.any p then l.findIdx p else -1
theorem any_take_succ {p : Int → Bool} {l : List Int} {i : Nat} (hi : i < l.length) (h : (l.take i).any p = false) (hp : p (l.getD i 0) = false) : (l.take (i + 1)).any p = false := by
 rw [take_succ_getD hi, List.any_append, h]; simpa using hp
theorem findIdx_of {p : Int → Bool} {l : List Int} {i : Nat} (hi : i < l.length) (h : (l.take i).any p = false) (hp : p (l.getD i 0) = true) : l.any p = true ∧ l.findIdx p = i := by
 have e : l.getD i 0 = l[i] := by simp [hi]
 refine ⟨List.any_eq_true.2 ⟨l.getD i 0, getD_mem hi, hp⟩, ?_⟩
 rw [List.findIdx_eq hi]
 refine ⟨by rw [← e]; exact hp, fun j hj => ?_⟩
 have := List.any_eq_false.1 h (l[j]) (by rw [List.mem_take_iff_getElem]; exact ⟨j, by omega, rfl⟩)
 simpa using this
theorem idxI_nonneg {p : Int → Bool} {l : List Int} : 0 ≤ idxI p l ↔ l.any p = true := by
 unfold idxI
 split
 ·rename_i h; simp [h]
 ·rename_i h; simp [h]
end
end Go.Ae
/- Lists that grow by append, one's own. -/
set_option linter.unusedSimpArgs false
set_option linter.unusedVariables false
namespace Go.Ae
theorem seqx {a b : List Int} (hl : a.length = b.length) (h : ∀ i, i < a.length → a.getD i 0 = b.getD i 0) : a = b := by
 refine List.ext_getElem hl fun i h1 h2 => ?_
 have := h i h1
 simpa [h1, h2] using this
def Grw (h0 h : Heap) (sz : Nat) (v : AV) (n : Nat) (cs : List AV) : Prop :=
 HSub h0 h ∧ cs.length = n * sz ∧ n < 9223372036854775808 ∧ ((v = .nilslice ∧ n = 0) ∨ ∃ i ex, h0.size ≤ i ∧ v = .slice i 0 n (.unk 0) ∧ h.get i = some (.cells (cs ++ ex) true sz))
theorem cut_pre {cs ex : List AV} {k : Nat} (h : cs.length = k) : cut (cs ++ ex) 0 k = cs := by subst h; simp [cut]
def GrwI (h0 h : Heap) (v : AV) (l : List Int) : Prop := Grw h0 h 1 v l.length (ints l)
def snocH (H : Heap) (nid : Option Nat) (v : AV) (sz : Nat) (cs : List AV) : Heap :=
 match v with
 | .slice i _ _ _ => (H.put i .dead).new nid (.cells cs true sz)
 | _ => H.new nid (.cells cs true sz)
section
variable {h0 h H : Heap} {sz bytes n m k : Nat} {v : AV} {cs news : List AV} {l : List Int}
theorem Grw.sub (A : Grw h0 h sz v n cs) : HSub h0 h := A.1
theorem Grw.sl (A : Grw h0 h sz v n cs) : SL h sz v n cs := by
 obtain ⟨hs, hl, hn, ⟨rfl, rfl⟩ | ⟨i, ex, hi, rfl, hg⟩⟩ := A
 ·exact ⟨hl, hn, .inl ⟨rfl, rfl⟩⟩
 ·exact ⟨hl, hn, .inr ⟨i, 0, _, _, true, sz, rfl, hg, by rw [List.length_append]; omega, cut_pre hl, by simp⟩⟩
theorem GrwI.ri (A : GrwI h0 h v l) : RI h v l := Grw.sl A
theorem GrwI.sub (A : GrwI h0 h v l) : HSub h0 h := A.1
theorem Grw.nil (h : Heap) (sz : Nat) : Grw h h sz .nilslice 0 [] := ⟨HSub.refl _, by simp, by omega, .inl ⟨rfl, rfl⟩⟩
theorem GrwI.nil (h : Heap) : GrwI h h .nilslice [] := Grw.nil h 1
theorem GrwI.nil' (hs : HSub h0 h) : GrwI h0 h .nilslice [] := ⟨hs, by simp [ints], by simp, .inl ⟨rfl, rfl⟩⟩
theorem Grw.mono (A : Grw h0 h sz v n cs) (hs : HSub h H) : Grw h0 H sz v n cs := by
 obtain ⟨h1, hl, hn, ⟨rfl, rfl⟩ | ⟨i, ex, hi, rfl, hg⟩⟩ := A
 ·exact ⟨h1.trans hs, hl, hn, .inl ⟨rfl, rfl⟩⟩
 ·exact ⟨h1.trans hs, hl, hn, .inr ⟨i, ex, hi, rfl, (hs.get i (Heap.lt_of_get hg)).trans hg⟩⟩
theorem GrwI.mono (A : GrwI h0 h v l) (hs : HSub h H) : GrwI h0 H v l := Grw.mono A hs
theorem Grw.base {h1' : Heap} (A : Grw h h1' sz v n cs) (hs : HSub h0 h) : Grw h0 h1' sz v n cs := by
 obtain ⟨h1, hl, hn, ⟨rfl, rfl⟩ | ⟨i, ex, hi, rfl, hg⟩⟩ := A
 ·exact ⟨hs.trans h1, hl, hn, .inl ⟨rfl, rfl⟩⟩
 ·exact ⟨hs.trans h1, hl, hn, .inr ⟨i, ex, Nat.le_trans hs.size hi, rfl, hg⟩⟩
theorem GrwI.base {h1 : Heap} (A : GrwI h h1 v l) (hs : HSub h0 h) : GrwI h0 h1 v l := Grw.base A hs
theorem Grw.app (A : Grw h0 h sz v n cs) (hs : HSub h H) (hm : m ≠ 0) (hb : (n + m) * bytes ≤ 1099511627776) (h1 : news.all AV.one = true) :
  appendA H none sz bytes v m news = some (.slice H.size 0 (n + m) (.unk 0), snocH H none v sz (cs ++ news)) := by
 obtain ⟨_, hl, hn, ⟨rfl, rfl⟩ | ⟨i, ex, hi, rfl, hg⟩⟩ := A
 ·have : cs = [] := List.eq_nil_of_length_eq_zero (by omega)
  subst this
  rw [Nat.zero_add] at hb ⊢
  rw [app_nil hm hb]
  simp [snocH, Heap.new]
 ·have e := (hs.get i (Heap.lt_of_get hg)).trans hg
  rw [app_unk, e, appUB_grow (by rw [List.length_append]; omega) (by omega) hb h1, cut_pre hl]
  rfl
def appK (n : Nat) (H : Heap) (v r : AV) (sz : Nat) (cs : List AV) : Option ABlk → Option (AV × Heap)
 | none => some (r, snocH H (some n) v sz cs)
 | _ => none
theorem appK_none {r : AV} : appK k H v r sz cs none = some (r, snocH H (some k) v sz cs) := rfl
theorem Grw.appS (A : Grw h0 h sz v n cs) (hs : HSub h H) (hk : h.size ≤ k ∧ k < H.size) (hm : m ≠ 0) (hb : (n + m) * bytes ≤ 1099511627776) (h1 : news.all AV.one = true) :
  appendA H (some k) sz bytes v m news = appK k H v (.slice k 0 (n + m) (.unk 0)) sz (cs ++ news) (H.get k) := by
 obtain ⟨_, hl, hn, ⟨rfl, rfl⟩ | ⟨i, ex, hi, rfl, hg⟩⟩ := A
 ·have : cs = [] := List.eq_nil_of_length_eq_zero (by omega)
  subst this
  rw [Nat.zero_add] at hb ⊢
  have hr : H.room (some k) = ((H.get k).isNone && decide (k < H.size)) := rfl
  simp only [appendA, if_neg hm]
  by_cases e : (H.get k).isNone = true
  ·have e' : H.get k = none := by simpa using e
   rw [if_pos ⟨hb, by rw [hr, e]; simpa using hk.2⟩]
   exact (congrArg (appK k H .nilslice (.slice k 0 m (.unk 0)) sz ([] ++ news)) e').symm
  ·rw [if_neg (by rw [hr]; simp [e])]
   obtain ⟨b, e'⟩ : ∃ b, H.get k = some b := by cases x : H.get k with | none => simp [x] at e | some b => exact ⟨b, rfl⟩
   exact (congrArg (appK k H .nilslice (.slice k 0 m (.unk 0)) sz ([] ++ news)) e').symm
 ·have e0 := (hs.get i (Heap.lt_of_get hg)).trans hg
  have hr : H.room (some k) = ((H.get k).isNone && decide (k < H.size)) := rfl
  simp only [appendA, e0]
  by_cases e : (H.get k).isNone = true
  ·have e' : H.get k = none := by simpa using e
   rw [if_pos ⟨trivial, by omega, by rw [List.length_append]; omega, h1, hb, by rw [hr, e]; simpa using hk.2, by omega⟩, cut_pre hl]
   exact (congrArg (appK k H (.slice i 0 n (.unk 0)) (.slice k 0 (n + m) (.unk 0)) sz (cs ++ news)) e').symm
  ·rw [if_neg (by rw [hr]; simp [e]), if_neg (by omega)]
   obtain ⟨b, e'⟩ : ∃ b, H.get k = some b := by cases x : H.get k with | none => simp [x] at e | some b => exact ⟨b, rfl⟩
   exact (congrArg (appK k H (.slice i 0 n (.unk 0)) (.slice k 0 (n + m) (.unk 0)) sz (cs ++ news)) e').symm
theorem Grw.snoc (A : Grw h0 h sz v n cs) (hs : HSub h H) (hl : news.length = m * sz) (hn : n + m < 9223372036854775808) :
  Grw h0 (snocH H none v sz (cs ++ news)) sz (.slice H.size 0 (n + m) (.unk 0)) (n + m) (cs ++ news) := by
 obtain ⟨h1, hl', hn', ⟨rfl, rfl⟩ | ⟨i, ex, hi, rfl, hg⟩⟩ := A
 ·exact ⟨(h1.trans hs).push _, by rw [List.length_append, Nat.add_mul]; omega, hn, .inr ⟨H.size, [], (h1.trans hs).size, rfl, by rw [List.append_nil]; exact get_push_eq rfl⟩⟩
 ·exact ⟨((h1.trans hs).put hi _).push _, by rw [List.length_append, Nat.add_mul]; omega, hn, .inr ⟨H.size, [], (h1.trans hs).size, rfl, by rw [List.append_nil]; exact get_push_eq rfl⟩⟩
theorem Grw.snocS (A : Grw h0 h sz v n cs) (hs : HSub h H) (hk : h.size ≤ k ∧ k < H.size) (hl : news.length = m * sz) (hn : n + m < 9223372036854775808) :
  Grw h0 (snocH H (some k) v sz (cs ++ news)) sz (.slice k 0 (n + m) (.unk 0)) (n + m) (cs ++ news) := by
 obtain ⟨h1, hl', hn', ⟨rfl, rfl⟩ | ⟨i, ex, hi, rfl, hg⟩⟩ := A
 ·have := h1.size
  exact ⟨(h1.trans hs).put (by omega) _, by rw [List.length_append, Nat.add_mul]; omega, hn, .inr ⟨k, [], by omega, rfl, by rw [List.append_nil]; exact get_put_eq rfl hk.2⟩⟩
 ·have := h1.size
  exact ⟨((h1.trans hs).put hi _).put (by omega) _, by rw [List.length_append, Nat.add_mul]; omega, hn, .inr ⟨k, [], by omega, rfl, by rw [List.append_nil]; exact get_put_eq rfl (by simpa using hk.2)⟩⟩
theorem GrwI.app {x : Int} (A : GrwI h0 h v l) : ∀ (H : Heap), HSub h H → l.length + 1 ≤ 1073741824 → appendA H none 1 8 v 1 [.int .i64 x] = some (.slice H.size 0 (l.length + 1) (.unk 0), snocH H none v 1 (ints (l ++ [x]))) := by
 intro H hs hb
 rw [Grw.app A hs (by decide) (by omega) (by rfl), ints_snoc]
theorem GrwI.appS {x : Int} (A : GrwI h0 h v l) : ∀ (H : Heap) (k : Nat), HSub h H → h.size ≤ k ∧ k < H.size → l.length + 1 ≤ 1073741824 → appendA H (some k) 1 8 v 1 [.int .i64 x] = appK k H v (.slice k 0 (l.length + 1) (.unk 0)) 1 (ints (l ++ [x])) (H.get k) := by
 intro H k hs hk hb
 rw [Grw.appS A hs hk (by decide) (by omega) (by rfl), ints_snoc]
theorem GrwI.snoc {x : Int} (A : GrwI h0 h v l) (hs : HSub h H) (hb : l.length + 1 ≤ 1073741824) : GrwI h0 (snocH H none v 1 (ints (l ++ [x]))) (.slice H.size 0 (l.length + 1) (.unk 0)) (l ++ [x]) := by
 have := Grw.snoc (news := [.int .i64 x]) (m := 1) A hs rfl (by omega)
 rw [ints_snoc] at this
 unfold GrwI; rw [List.length_append]; exact this
theorem GrwI.snocS {x : Int} (A : GrwI h0 h v l) (hs : HSub h H) (hk : h.size ≤ k ∧ k < H.size) (hb : l.length + 1 ≤ 1073741824) : GrwI h0 (snocH H (some k) v 1 (ints (l ++ [x]))) (.slice k 0 (l.length + 1) (.unk 0)) (l ++ [x]) := by
 have := Grw.snocS (news := [.int .i64 x]) (m := 1) A hs hk rfl (by omega)
 rw [ints_snoc] at this
 unfold GrwI; rw [List.length_append]; exact this
theorem Grw.fresh {i : Nat} (hs : HSub h0 h) (hi : h0.size ≤ i) (hl : l.length < 9223372036854775808) (hg : h.get i = some (.cells (ints l) true 1)) : GrwI h0 h (.slice i 0 l.length (.unk 0)) l :=
 ⟨hs, by simp [ints], hl, .inr ⟨i, [], hi, rfl, by rw [List.append_nil]; exact hg⟩⟩
theorem RI.snocH {w : AV} {L : List Int} (hw : RI h0 w L) (A : Grw h0 H sz v n cs) : RI H w L := hw.mono A.sub
end
def contB (n sz o : Nat) : Option ABlk → Option (Nat × List AV)
 | some (.cells vs _ _) => if o + n * sz ≤ vs.length then some (n, cut vs o (n * sz)) else none
 | _ => none
theorem cont_slice {h : Heap} {sz i o n : Nat} {c : Cap} : contentA h sz (.slice i o n c) = contB n sz o (h.get i) := by
 simp only [contentA, contB]
 cases h.get i with
 | none => rfl
 | some b => cases b <;> rfl
theorem contB_some {n sz o u : Nat} {vs : List AV} {wr : Bool} (h : o + n * sz ≤ vs.length) : contB n sz o (some (.cells vs wr u)) = some (n, cut vs o (n * sz)) := by simp only [contB, if_pos h]
theorem contB_one {x : AV} {u : Nat} {wr : Bool} : contB 1 1 0 (some (.cells [x] wr u)) = some (1, [x]) := rfl
section
variable {C : Ctx}
end
end Go.Ae
/- Grow and Concat of Go's slices package, on numbers. -/
set_option linter.unusedSimpArgs false
set_option linter.unusedVariables false
namespace Go.Ae
section
variable {C : Ctx}
end
end Go.Ae
/- Registers of layer 8: windows of a sequence, packed states, periods. -/
set_option linter.unusedSimpArgs false
set_option linter.unusedVariables false
namespace Go.Ae
/-! ### Sums of bits -/
def bsum (f : Nat → Nat) : Nat → Nat
 | 0 => 0
 | n + 1 => bsum f n + f n
theorem bsum_congr {f g : Nat → Nat} : ∀ n, (∀ i, i < n → f i = g i) → bsum f n = bsum g n
 | 0, _ => rfl
 | n + 1, h => by simp only [bsum]; rw [bsum_congr n (fun i hi => h i (by omega)), h n (by omega)]
theorem bsum_add (f : Nat → Nat) (a : Nat) : ∀ b, bsum f (a + b) = bsum f a + bsum (fun i => f (a + i)) b
 | 0 => rfl
 | b + 1 => by rw [← Nat.add_assoc]; simp only [bsum]; rw [bsum_add f a b]; omega
theorem bsum_one {f g : Nat → Nat} {t d : Nat} : ∀ n, (∀ i, i < n → f i = g i + if i = t then d else 0) → bsum f n = bsum g n + if t < n then d else 0
 | 0, _ => by simp [bsum]
 | n + 1, h => by
  have ih := bsum_one n (fun i hi => h i (by omega))
  have h1 := h n (by omega)
  simp only [bsum, ih, h1]
  by_cases c : t < n
  ·rw [if_pos c, if_neg (by omega), if_pos (by omega)]; omega
  ·by_cases c2 : n = t
   ·rw [if_neg c, if_pos c2, if_pos (by omega)]; omega
   ·rw [if_neg c, if_neg c2, if_neg (by omega)]; omega
def bitN (x i : Nat) : Nat := (x.testBit i).toNat
def pop (x n : Nat) : Nat := bsum (bitN x) n
theorem pop_add (x a b : Nat) : pop x (a + b) = pop x a + pop (x >>> a) b := by
 unfold pop
 rw [bsum_add]
 congr 1
 refine bsum_congr _ fun i _ => ?_
 simp [bitN, Nat.testBit_shiftRight]
theorem pop_mod (x n : Nat) : pop (x % 2 ^ n) n = pop x n := by
 refine bsum_congr _ fun i hi => ?_
 simp [bitN, Nat.testBit_mod_two_pow, hi]
/-! ### Windows -/
def bit01 (l : List Int) : Prop := ∀ x ∈ l, x = 0 ∨ x = 1
theorem bit01.get {l : List Int} (h : bit01 l) (i : Nat) : l.getD i 0 = 0 ∨ l.getD i 0 = 1 := by
 by_cases hi : i < l.length
 ·exact h _ (getD_mem hi)
 ·left; rw [List.getD_eq_getElem?_getD, List.getElem?_eq_none (by omega)]; rfl
def packL : List Int → Nat
 | [] => 0
 | b :: l => b.toNat + 2 * packL l
theorem packL_lt : ∀ {l : List Int}, bit01 l → packL l < 2 ^ l.length
 | [], _ => by simp [packL]
 | b :: l, h => by
  have ih := packL_lt (l := l) (fun x hx => h x (List.mem_cons_of_mem _ hx))
  have hb := h b List.mem_cons_self
  simp only [packL, List.length_cons, Nat.pow_succ]
  rcases hb with rfl | rfl <;> simp <;> omega
theorem packL_bit : ∀ {l : List Int}, bit01 l → ∀ i, bitN (packL l) i = (l.getD i 0).toNat
 | [], _, i => by simp [packL, bitN]
 | b :: l, h, 0 => by
  have hb := h b List.mem_cons_self
  simp only [packL, bitN, Nat.testBit_zero, List.getD_cons_zero]
  rcases hb with rfl | rfl <;> simp <;> omega
 | b :: l, h, i + 1 => by
  have ih := packL_bit (l := l) (fun x hx => h x (List.mem_cons_of_mem _ hx)) i
  have hb := h b List.mem_cons_self
  have e : (b.toNat + 2 * packL l) / 2 = packL l := by rcases hb with rfl | rfl <;> simp <;> omega
  simp only [packL, bitN, Nat.testBit_succ, List.getD_cons_succ]
  rw [e]; exact ih
theorem packL_snoc : ∀ (l : List Int) (x : Int), packL (l ++ [x]) = packL l + 2 ^ l.length * x.toNat
 | [], x => by simp [packL]
 | b :: l, x => by
  simp only [List.cons_append, packL, packL_snoc l x, List.length_cons, Nat.pow_succ]
  rw [Nat.mul_add, Nat.mul_comm _ 2, Nat.mul_assoc, ← Nat.add_assoc]
theorem packL_inj : ∀ {a b : List Int}, a.length = b.length → bit01 a → bit01 b → packL a = packL b → a = b
 | [], [], _, _, _, _ => rfl
 | x :: a, y :: b, hl, ha, hb, he => by
  have hx := ha x List.mem_cons_self
  have hy := hb y List.mem_cons_self
  simp only [packL] at he
  have : x = y := by rcases hx with rfl | rfl <;> rcases hy with rfl | rfl <;> simp at he ⊢ <;> omega
  subst this
  rw [packL_inj (by simpa using hl) (fun z hz => ha z (List.mem_cons_of_mem _ hz)) (fun z hz => hb z (List.mem_cons_of_mem _ hz)) (by omega)]
 | [], _ :: _, hl, _, _, _ => by simp at hl
 | _ :: _, [], hl, _, _, _ => by simp at hl
def xorT (ts : List Int) (w : List Int) : Int := ts.foldl (fun x t => (x + w.getD t.toNat 0) % 2) 0
def maskT (ts : List Int) : Nat := ts.foldl (fun m t => m ||| 2 ^ t.toNat) 0
theorem xorT_snoc (ts : List Int) (t : Int) (w : List Int) : xorT (ts ++ [t]) w = (xorT ts w + w.getD t.toNat 0) % 2 := by simp [xorT]
theorem maskT_snoc (ts : List Int) (t : Int) : maskT (ts ++ [t]) = maskT ts ||| 2 ^ t.toNat := by simp [maskT]
theorem xorT_01 (ts : List Int) (w : List Int) : xorT ts w = 0 ∨ xorT ts w = 1 := by
 unfold xorT
 suffices ∀ a : Int, (a = 0 ∨ a = 1) → (ts.foldl (fun x t => (x + w.getD t.toNat 0) % 2) a = 0 ∨ ts.foldl (fun x t => (x + w.getD t.toNat 0) % 2) a = 1) from this 0 (.inl rfl)
 induction ts with
 | nil => intro a ha; exact ha
 | cons t ts ih => intro a ha; exact ih _ (by dsimp only; omega)
theorem maskT_bit : ∀ (ts : List Int) (m j : Nat), (ts.foldl (fun m t => m ||| 2 ^ t.toNat) m).testBit j = (m.testBit j || ts.any fun t => t.toNat == j)
 | [], m, j => by simp
 | t :: ts, m, j => by
  simp only [List.foldl_cons, maskT_bit ts, Nat.testBit_or, Nat.testBit_two_pow, List.any_cons]
  rw [Bool.or_assoc]; rfl
def tapOk (n : Int) (l : List Int) (j : Nat) : Prop := (if j = 0 then -1 else l.getD (j - 1) 0) < l.getD j 0 ∧ l.getD j 0 < n
instance (n : Int) (l : List Int) (j : Nat) : Decidable (tapOk n l j) := by unfold tapOk; infer_instance
theorem tap_mono {n : Int} {l : List Int} (h : ∀ j, j < l.length → tapOk n l j) : ∀ (j i : Nat), i < j → j < l.length → l.getD i 0 < l.getD j 0
 | 0, i, hi, _ => by omega
 | j + 1, i, hi, hj => by
  have h1 := (h (j + 1) hj).1
  rw [if_neg (by omega), show j + 1 - 1 = j by omega] at h1
  rcases Nat.lt_or_ge i j with x | x
  ·have := tap_mono h j i x (by omega); omega
  ·have : i = j := by omega
   subst this; exact h1
theorem tap_nonneg {n : Int} {l : List Int} (h : ∀ j, j < l.length → tapOk n l j) {j : Nat} (hj : j < l.length) : 0 ≤ l.getD j 0 := by
 have h0 := (h 0 (by omega)).1
 rw [if_pos rfl] at h0
 rcases Nat.eq_zero_or_pos j with e | e
 ·subst e; omega
 ·have := tap_mono h j 0 e hj; omega
theorem maskT_new {n : Int} {l : List Int} (h : ∀ j, j < l.length → tapOk n l j) {i : Nat} (hi : i < l.length) : (maskT (l.take i)).testBit (l.getD i 0).toNat = false := by
 unfold maskT
 rw [maskT_bit]
 simp only [Nat.zero_testBit, Bool.false_or]
 refine List.any_eq_false.2 fun t ht => ?_
 obtain ⟨j, hj, rfl⟩ := List.mem_take_iff_getElem.1 ht
 have hj' : j < l.length := by omega
 have e : l[j] = l.getD j 0 := by simp [hj']
 have h1 := tap_mono h i j (by omega) hi
 have h2 := tap_nonneg h hj'
 rw [e]; simp only [beq_iff_eq]; omega
theorem maskT_lt {n : Nat} : ∀ (ts : List Int) (m : Nat), m < 2 ^ n → (∀ t ∈ ts, t.toNat < n) → ts.foldl (fun m t => m ||| 2 ^ t.toNat) m < 2 ^ n
 | [], m, h, _ => h
 | t :: ts, m, h, ht => maskT_lt ts _ (Nat.or_lt_two_pow h (Nat.pow_lt_pow_right (by decide) (ht t List.mem_cons_self))) (fun x hx => ht x (List.mem_cons_of_mem _ hx))
theorem pop_mask {n : Int} {l w : List Int} (hn : n ≤ 32) (h : ∀ j, j < l.length → tapOk n l j) (hw : bit01 w) : ∀ i, i ≤ l.length → ((pop (packL w &&& maskT (l.take i)) 32 % 2 : Nat) : Int) = xorT (l.take i) w
 | 0, _ => by
  have e : packL w &&& 0 = 0 := Nat.and_zero _
  have : ∀ k, pop 0 k = 0 := fun k => by
   unfold pop
   induction k with
   | zero => rfl
   | succ k ih => simp [bsum, ih, bitN]
  simp [maskT, xorT, this]
 | i + 1, hi => by
  have ih := pop_mask hn h hw i (by omega)
  have hm := maskT_new h (i := i) (by omega)
  have ht := (h i (by omega)).2
  have ht0 := tap_nonneg h (j := i) (by omega)
  have hb := packL_bit hw (l.getD i 0).toNat
  rw [take_succ_getD (by omega), maskT_snoc, xorT_snoc]
  have key : pop (packL w &&& (maskT (l.take i) ||| 2 ^ (l.getD i 0).toNat)) 32 = pop (packL w &&& maskT (l.take i)) 32 + if (l.getD i 0).toNat < 32 then bitN (packL w) (l.getD i 0).toNat else 0 := by
   refine bsum_one 32 fun j _ => ?_
   simp only [bitN, Nat.testBit_and, Nat.testBit_or, Nat.testBit_two_pow]
   by_cases e : j = (l.getD i 0).toNat
   ·rw [if_pos e, ← e, e, hm]; simp
   ·rw [if_neg e, decide_eq_false (Ne.symm e)]; simp
  rw [key, if_pos (by omega), hb]
  have hx := xorT_01 (l.take i) w
  have hy := hw.get (l.getD i 0).toNat
  omega
/-! ### Sequences -/
def stepW (ts w : List Int) : List Int := w.tail ++ [xorT ts w]
def winW (ts w : List Int) : Nat → List Int
 | 0 => w
 | k + 1 => stepW ts (winW ts w k)
def seqB (ts w : List Int) (k : Nat) : Int := (winW ts w k).getD 0 0
def runL (ts w : List Int) (m : Nat) : List Int := (List.range m).map (seqB ts w)
theorem runL_length (ts w : List Int) (m : Nat) : (runL ts w m).length = m := by simp [runL]
theorem runL_get {ts w : List Int} {m k : Nat} (h : k < m) : (runL ts w m).getD k 0 = seqB ts w k := by simp [runL, h]
theorem runL_succ (ts w : List Int) (m : Nat) : runL ts w (m + 1) = runL ts w m ++ [seqB ts w m] := by simp [runL, List.range_succ]
theorem runL_take {ts w : List Int} {m k : Nat} (h : k ≤ m) : (runL ts w m).take k = runL ts w k := by simp [runL, ← List.map_take, List.take_range, Nat.min_eq_left h]
theorem winW_length {ts w : List Int} (h : 1 ≤ w.length) : ∀ k, (winW ts w k).length = w.length
 | 0 => rfl
 | k + 1 => by simp [winW, stepW, winW_length h k]; omega
theorem winW_01 {ts w : List Int} (h : bit01 w) : ∀ k, bit01 (winW ts w k)
 | 0 => h
 | k + 1 => fun x hx => by
  simp only [winW, stepW, List.mem_append, List.mem_singleton] at hx
  rcases hx with hx | rfl
  ·exact winW_01 h k x (List.mem_of_mem_tail hx)
  ·exact xorT_01 _ _
theorem tail_get (w : List Int) (i : Nat) : w.tail.getD i 0 = w.getD (i + 1) 0 := by cases w <;> simp
theorem winW_get {ts w : List Int} (h : 1 ≤ w.length) : ∀ (i k : Nat), i < w.length → (winW ts w k).getD i 0 = seqB ts w (k + i)
 | 0, k, _ => rfl
 | i + 1, k, hi => by
  have ih := winW_get (ts := ts) h i (k + 1) (by omega)
  have e : (winW ts w (k + 1)).getD i 0 = (winW ts w k).getD (i + 1) 0 := by
   have hl := winW_length (ts := ts) h k
   have ht : (winW ts w k).tail.length = w.length - 1 := by simp [hl]
   rw [← tail_get]
   simp only [winW, stepW, List.getD_eq_getElem?_getD]
   rw [List.getElem?_append_left (by omega)]
  rw [← e, ih, show k + 1 + i = k + (i + 1) by omega]
theorem seqB_next {ts w : List Int} (h : 1 ≤ w.length) (k : Nat) : seqB ts w (k + w.length) = xorT ts (winW ts w k) := by
 have h1 := winW_get (ts := ts) h (w.length - 1) (k + 1) (by omega)
 rw [show k + 1 + (w.length - 1) = k + w.length by omega] at h1
 rw [← h1]
 have hl := winW_length (ts := ts) h k
 simp only [winW, stepW, List.getD_eq_getElem?_getD]
 have ht : (winW ts w k).tail.length = w.length - 1 := by simp [hl]
 rw [List.getElem?_append_right (by omega), ht, Nat.sub_self]; rfl
theorem seqB_01 {ts w : List Int} (h : bit01 w) (k : Nat) : seqB ts w k = 0 ∨ seqB ts w k = 1 := (winW_01 h k).get 0
theorem seq_ext {a b : List Int} (hl : a.length = b.length) (h : ∀ i, i < a.length → a.getD i 0 = b.getD i 0) : a = b := by
 refine List.ext_getElem hl fun i h1 h2 => ?_
 have := h i h1
 simpa [h1, h2] using this
theorem runL_start {ts w : List Int} (h : 1 ≤ w.length) : runL ts w w.length = w := by
 refine seq_ext (by simp [runL]) fun i hi => ?_
 rw [runL_length] at hi
 rw [runL_get hi, ← Nat.zero_add i, ← winW_get (ts := ts) h i 0 hi, Nat.zero_add]; rfl
theorem packL_step {ts w : List Int} (h : 1 ≤ w.length) (hw : bit01 w) : packL (stepW ts w) = packL w / 2 + 2 ^ (w.length - 1) * (xorT ts w).toNat := by
 unfold stepW
 rw [packL_snoc]
 match w, h with
 | b :: w, _ =>
  have hb := hw b List.mem_cons_self
  simp only [List.tail_cons, List.length_cons, packL, Nat.add_sub_cancel]
  congr 1
  rcases hb with rfl | rfl <;> simp <;> omega
/-! ### Periods -/
theorem fold_two (w : List Int) : ∀ (ts : List Int) (a : Int), (ts.foldl (fun x t => (x + w.getD t.toNat 0) % 2) a) % 2 = (a + (ts.map fun t => w.getD t.toNat 0).sum) % 2
 | [], a => by simp
 | t :: ts, a => by
  simp only [List.foldl_cons, fold_two w ts, List.map_cons, List.sum_cons]; omega
theorem xorT_eq (ts w : List Int) : xorT ts w = (ts.map fun t => w.getD t.toNat 0).sum % 2 := by
 have h1 := fold_two w ts 0
 have h2 := xorT_01 ts w
 unfold xorT at *
 omega
theorem pigeon : ∀ (N : Nat) (f : Nat → Nat), (∀ i, i ≤ N → f i < N) → ∃ i j, i < j ∧ j ≤ N ∧ f i = f j
 | 0, f, h => by have := h 0 (Nat.le_refl _); omega
 | N + 1, f, h => by
  by_cases c : ∃ i, i ≤ N ∧ f i = f (N + 1)
  ·obtain ⟨i, hi, he⟩ := c; exact ⟨i, N + 1, by omega, by omega, he⟩
  ·have c' : ∀ i, i ≤ N → f i ≠ f (N + 1) := fun i hi he => c ⟨i, hi, he⟩
   have ha := h (N + 1) (by omega)
   obtain ⟨i, j, hij, hj, he⟩ := pigeon N (fun i => if f i = N then f (N + 1) else f i) (fun i hi => by
    have h1 := h i (by omega)
    have h2 := c' i hi
    show (if f i = N then f (N + 1) else f i) < N
    split <;> omega)
   refine ⟨i, j, hij, by omega, ?_⟩
   have h1 := c' i (by omega)
   have h2 := c' j hj
   have he : (if f i = N then f (N + 1) else f i) = (if f j = N then f (N + 1) else f j) := he
   split at he <;> split at he <;> omega
theorem stepW_inj {ts a b : List Int} (ht : ∃ us, ts = 0 :: us ∧ ∀ u ∈ us, 0 < u) (hl : a.length = b.length) (h1 : 1 ≤ a.length) (ha : bit01 a) (hb : bit01 b) (h : stepW ts a = stepW ts b) : a = b := by
 obtain ⟨us, rfl, hu⟩ := ht
 match a, b, hl, h1 with
 | x :: a, y :: b, hl, _ =>
  simp only [stepW, List.tail_cons] at h
  have hll : a.length = b.length := by simpa using hl
  obtain ⟨e1, e2⟩ := List.append_inj h hll
  subst e1
  have e2 : xorT (0 :: us) (x :: a) = xorT (0 :: us) (y :: a) := by simpa using e2
  rw [xorT_eq, xorT_eq] at e2
  simp only [List.map_cons, List.sum_cons, Int.toNat_zero, List.getD_cons_zero] at e2
  have : us.map (fun t => (x :: a).getD t.toNat 0) = us.map (fun t => (y :: a).getD t.toNat 0) := by
   refine List.map_congr_left fun t ht => ?_
   have := hu t ht
   obtain ⟨k, hk⟩ : ∃ k, t.toNat = k + 1 := ⟨t.toNat - 1, by omega⟩
   rw [hk]; rfl
  rw [this] at e2
  have hx := ha x List.mem_cons_self
  have hy := hb y List.mem_cons_self
  have : x = y := by omega
  rw [this]
theorem winW_back {ts w : List Int} (ht : ∃ us, ts = 0 :: us ∧ ∀ u ∈ us, 0 < u) (h1 : 1 ≤ w.length) (hw : bit01 w) : ∀ i j, winW ts w i = winW ts w (i + j) → winW ts w j = w
 | 0, j, h => by rw [Nat.zero_add] at h; exact h.symm
 | i + 1, j, h => by
  have e : i + 1 + j = i + j + 1 := by omega
  rw [e] at h
  refine winW_back ht h1 hw i j (stepW_inj ht ?_ ?_ (winW_01 hw _) (winW_01 hw _) h)
  ·rw [winW_length h1, winW_length h1]
  ·rw [winW_length h1]; exact h1
theorem period_ex {ts w : List Int} (ht : ∃ us, ts = 0 :: us ∧ ∀ u ∈ us, 0 < u) (h1 : 1 ≤ w.length) (hw : bit01 w) : ∃ k, 1 ≤ k ∧ k ≤ 2 ^ w.length ∧ winW ts w k = w := by
 obtain ⟨i, j, hij, hj, he⟩ := pigeon (2 ^ w.length) (fun k => packL (winW ts w k)) (fun i _ => by
  have := packL_lt (winW_01 (ts := ts) hw i)
  rwa [winW_length h1] at this)
 refine ⟨j - i, by omega, by omega, winW_back ht h1 hw i (j - i) ?_⟩
 rw [show i + (j - i) = j by omega]
 exact packL_inj (by rw [winW_length h1, winW_length h1]) (winW_01 hw _) (winW_01 hw _) he
def IsPeriod (ts w : List Int) (k : Nat) : Prop := 1 ≤ k ∧ winW ts w k = w ∧ ∀ j, 1 ≤ j → j < k → winW ts w j ≠ w
end Go.Ae
/- The table of bit counts, under a name. Printed by a program. -/
namespace Go.Ae
def popTab : List Nat := [0, 1, 1, 2, 1, 2, 2, 3, 1, 2, 2, 3, 2, 3, 3, 4, 1, 2, 2, 3, 2, 3, 3, 4, 2, 3, 3, 4, 3, 4, 4, 5, 1, 2, 2, 3, 2, 3, 3, 4, 2, 3, 3, 4, 3, 4, 4, 5, 2, 3, 3, 4, 3, 4, 4, 5, 3, 4, 4, 5, 4, 5, 5, 6, 1, 2, 2, 3, 2, 3, 3, 4, 2, 3, 3, 4, 3, 4, 4, 5, 2, 3, 3, 4, 3, 4, 4, 5, 3, 4, 4, 5, 4, 5, 5, 6, 2, 3, 3, 4, 3, 4, 4, 5, 3, 4, 4, 5, 4, 5, 5, 6, 3, 4, 4, 5, 4, 5, 5, 6, 4, 5, 5, 6, 5, 6, 6, 7, 1, 2, 2, 3, 2, 3, 3, 4, 2, 3, 3, 4, 3, 4, 4, 5, 2, 3, 3, 4, 3, 4, 4, 5, 3, 4, 4, 5, 4, 5, 5, 6, 2, 3, 3, 4, 3, 4, 4, 5, 3, 4, 4, 5, 4, 5, 5, 6, 3, 4, 4, 5, 4, 5, 5, 6, 4, 5, 5, 6, 5, 6, 6, 7, 2, 3, 3, 4, 3, 4, 4, 5, 3, 4, 4, 5, 4, 5, 5, 6, 3, 4, 4, 5, 4, 5, 5, 6, 4, 5, 5, 6, 5, 6, 6, 7, 3, 4, 4, 5, 4, 5, 5, 6, 4, 5, 5, 6, 5, 6, 6, 7, 4, 5, 5, 6, 5, 6, 6, 7, 5, 6, 6, 7, 6, 7, 7, 8]
theorem popTab_ok : ∀ i, i < 256 → popTab[i]? = some (pop i 8) ∧ pop i 8 ≤ 8 := by
 have h : ∀ i : Fin 256, popTab[i.val]? = some (pop i.val 8) ∧ pop i.val 8 ≤ 8 := by decide +kernel
 exact fun i hi => h ⟨i, hi⟩
theorem pop8_le (x : Nat) : pop x 8 ≤ 8 := by
 rw [← pop_mod]
 exact (popTab_ok _ (Nat.mod_lt _ (by decide))).2
theorem B102_eq : B102 = ((.mk 1 21 [(.tmp 2)] (.seq (.region [⟨(some 2), (.mv (.const (.int .i64 0))), none⟩]) (.seq (.draw 0 [⟨0, false, [], ⟨(some 3), (.mv (.tmp 0)), none⟩⟩, ⟨1, false, [], ⟨(some 4), (.bin .shr (.tmp 3) (.const (.int .u64 24))), none⟩⟩, ⟨2, false, [], ⟨(some 5), (.strIdx (.const (.str popTab)) (.tmp 4)), none⟩⟩, ⟨3, false, [], ⟨(some 6), (.mv (.tmp 0)), none⟩⟩, ⟨4, false, [], ⟨(some 7), (.bin .shr (.tmp 6) (.const (.int .u64 16))), none⟩⟩, ⟨5, false, [], ⟨(some 8), (.bin .and (.tmp 7) (.const (.int .u32 255))), none⟩⟩, ⟨6, false, [], ⟨(some 9), (.strIdx (.const (.str popTab)) (.tmp 8)), none⟩⟩, ⟨7, false, [], ⟨(some 10), (.bin .add (.tmp 5) (.tmp 9)), none⟩⟩, ⟨8, false, [], ⟨(some 11), (.mv (.tmp 0)), none⟩⟩, ⟨9, false, [], ⟨(some 12), (.bin .shr (.tmp 11) (.const (.int .u64 8))), none⟩⟩, ⟨10, false, [], ⟨(some 13), (.bin .and (.tmp 12) (.const (.int .u32 255))), none⟩⟩, ⟨11, false, [], ⟨(some 14), (.strIdx (.const (.str popTab)) (.tmp 13)), none⟩⟩, ⟨12, false, [], ⟨(some 15), (.bin .add (.tmp 10) (.tmp 14)), none⟩⟩, ⟨13, false, [], ⟨(some 16), (.mv (.tmp 0)), none⟩⟩, ⟨14, false, [], ⟨(some 17), (.bin .and (.tmp 16) (.const (.int .u32 255))), none⟩⟩, ⟨15, false, [], ⟨(some 18), (.strIdx (.const (.str popTab)) (.tmp 17)), none⟩⟩, ⟨16, false, [], ⟨(some 19), (.bin .add (.tmp 15) (.tmp 18)), none⟩⟩, ⟨17, false, [], ⟨(some 20), (.conv .i64 (.tmp 19)), none⟩⟩, ⟨18, false, [], ⟨(some 2), (.mv (.tmp 20)), none⟩⟩]) .ret)))) := rfl
end Go.Ae
/- Counting bits, looking up numbers. -/
set_option linter.unusedSimpArgs false
set_option linter.unusedVariables false
namespace Go.Ae
def strA (x i : AV) : Option AV :=
 match x, i with
 | .str bs, .int _ k => if 0 ≤ k then match bs[k.toNat]? with
   | some b => if b < 256 then some (.int .u8 b) else none
   | none => none
  else none
 | _, _ => none
theorem opR_strIdx {nid : Option Nat} {ev : AOpd → AV} {h : Heap} {K : AV → Heap → Prop} {x i} : @opR nid (.strIdx x i) ev h ⟨K⟩ = @opt1 (strA (ev x) (ev i)) h ⟨K⟩ := by
 simp only [opR, aOp, pureA, opt1]
 cases ev x <;> cases ev i <;> simp only [strA, Option.map_none]
 rename_i bs kk k
 by_cases c : 0 ≤ k
 ·simp only [if_pos c]
  cases bs[k.toNat]? with
  | none => rfl
  | some b =>
   by_cases c2 : b < 256
   ·simp only [if_pos c2]; rfl
   ·simp only [if_neg c2]; rfl
 ·simp only [if_neg c]; rfl
theorem str_pop {i : Int} {k : IntKind} (h : 0 ≤ i ∧ i < 256) : strA (.str popTab) (.int k i) = some (.int .u8 (pop i.toNat 8 : Nat)) := by
 have h1 := popTab_ok i.toNat (by omega)
 simp only [strA, if_pos h.1, h1.1]
 rw [if_pos (by omega)]
theorem nat32 {n : Nat} (h : n < 4294967296) : (BitVec.ofInt 32 (n : Int)).toNat = n := by
 rw [BitVec.toNat_ofInt]
 have : ((n : Int) % ((2 ^ 32 : Nat) : Int)).toNat = n := by
  rw [Int.emod_eq_of_lt (by omega) (by omega)]; simp
 exact this
theorem and_u32 {m n : Nat} (hm : m < 4294967296) (hn : n < 4294967296) : bitsA .and .u32 (m : Int) (n : Int) = ((m &&& n : Nat) : Int) := by
 show IntKind.u32.wrap ((BitVec.ofInt 32 (m : Int) &&& BitVec.ofInt 32 (n : Int)).toNat : Int) = _
 rw [BitVec.toNat_and, nat32 hm, nat32 hn]
 have : m &&& n ≤ m := Nat.and_le_left
 exact w_u32 (by omega)
theorem or_u32 {m n : Nat} (hm : m < 4294967296) (hn : n < 4294967296) : bitsA .or .u32 (m : Int) (n : Int) = ((m ||| n : Nat) : Int) := by
 show IntKind.u32.wrap ((BitVec.ofInt 32 (m : Int) ||| BitVec.ofInt 32 (n : Int)).toNat : Int) = _
 rw [BitVec.toNat_or, nat32 hm, nat32 hn]
 have : m ||| n < 2 ^ 32 := Nat.or_lt_two_pow (by omega) (by omega)
 exact w_u32 (by omega)
theorem and255 {a : Int} (h : 0 ≤ a ∧ a < 4294967296) : bitsA .and .u32 a 255 = a % 256 := by
 obtain ⟨n, rfl⟩ := Int.eq_ofNat_of_zero_le h.1
 have := and_u32 (m := n) (n := 255) (by omega) (by decide)
 have e : n &&& 255 = n % 256 := Nat.and_two_pow_sub_one_eq_mod n 8
 rw [e] at this
 rw [show ((255 : Nat) : Int) = 255 from rfl] at this
 rw [this]; omega
theorem pop32 (x : Nat) : pop x 32 = pop (x / 16777216) 8 + pop (x / 65536 % 256) 8 + pop (x / 256 % 256) 8 + pop (x % 256) 8 := by
 have e1 : pop x 32 = pop x 8 + pop (x >>> 8) 24 := pop_add x 8 24
 have e2 : pop (x >>> 8) 24 = pop (x >>> 8) 8 + pop (x >>> 8 >>> 8) 16 := pop_add _ 8 16
 have e3 : pop (x >>> 8 >>> 8) 16 = pop (x >>> 8 >>> 8) 8 + pop (x >>> 8 >>> 8 >>> 8) 8 := pop_add _ 8 8
 have m : ∀ y, pop (y % 256) 8 = pop y 8 := fun y => pop_mod y 8
 rw [m, m, m, e1, e2, e3]
 simp only [Nat.shiftRight_eq_div_pow, Nat.div_div_eq_div_mul, Nat.reducePow, Nat.reduceMul]
 omega
section
variable {C : Ctx}
theorem OnesCount_spec (hC : Has C T102) {x : Nat} {h : Heap} (hx : x < 4294967296) : ACalls C 102 [.int .u32 (x : Nat)] h (fun r h' => r = .int .i64 (pop x 32 : Nat) ∧ h' = h) := by
 rw [pop32]
 have a1 := pop8_le (x / 16777216)
 have a2 := pop8_le (x / 65536 % 256)
 have a3 := pop8_le (x / 256 % 256)
 have a4 := pop8_le (x % 256)
 have t1 : ((x : Int) / 16777216).toNat = x / 16777216 := by omega
 have t2 : ((x : Int) / 65536 % 256).toNat = x / 65536 % 256 := by omega
 have t3 : ((x : Int) / 256 % 256).toNat = x / 256 % 256 := by omega
 have t4 : ((x : Int) % 256).toNat = x % 256 := by omega
 refine calls_intro (hC.body (by decide) tab102) (Nat.le_of_ble_eq_true rfl) ?_
 show wp C _ none B102.code _ _
 simp only [B102_eq]
 refine zs7 @opR_strIdx @str_pop @and255 @t1 @t2 @t3 @t4 ?_
 omega
theorem Index_spec (hC : Has C T99) {v : AV} {l : List Int} {x : Int} {h : Heap} (hl : RI h v l) : ACalls C 99 [v, .int .i64 x] h (fun r h' => r = .int .i64 (idxI (fun y => x == y) l) ∧ h' = h) := by
 have hlt := hl.lt
 refine zf hC tab99 ?_; simp only [B99]; refine zs1 @hl.len ?_
 refine wp_loopI (fun j t h' => h' = h ∧ t 0 = v ∧ t 1 = .int .i64 x ∧ t 7 = .int .i64 l.length ∧ ∃ i : Nat, t 8 = .int .i64 (i : Nat) ∧ i ≤ l.length ∧ (l.take i).any (fun y => x == y) = false ∧ j = l.length - i) ⟨rfl, rfl, rfl, rfl, 0, rfl, by omega, by simp, rfl⟩ ?_
 rintro j t h' ⟨hh, e0, e1, e7, i, e8, hi, hp, hj⟩
 subst hh
 refine zs2 @e7 @e8 ?_
 refine Br.by (fun c1 => ?_) (fun c1 => ?_)
 ·have hi' : i < l.length := by omega
  refine zs5 @e0 @e1 @e8 @hl.idx @hl.load ?_
  refine Br.by (fun c2 => ?_) (fun c2 => ?_)
  ·have := findIdx_of hi' hp (by simpa using c2)
   simp -implicitDefEqProofs (disch := first | exact zd | fail) only [↓wpPre, wpPost, wpPoly, Int.reduceToNat, Int.reducePow, Int.reduceMul, Int.reduceAdd, Int.reduceSub, Int.reduceNeg, Nat.reduceAdd, Nat.reduceMul, Nat.reducePow, Int.reduceLT, Int.reduceLE, Int.reduceEq, Nat.reduceEqDiff, idxI, if_pos this.1, this.2]
  ·refine zs4 @e0 @e1 @e7 @e8 ?_
   exact ⟨_, ⟨i + 1, by simp, by omega, any_take_succ hi' hp (by simpa using c2), rfl⟩, by omega⟩
 ·have : i = l.length := by omega
  subst this
  rw [List.take_of_length_le (Nat.le_refl _)] at hp
  refine zs2 @idxI.eq_1 @hp ?_
  simp
theorem Contains_spec (hC : Has C T89) {v : AV} {l : List Int} {x : Int} {h : Heap} (hl : RI h v l) : ACalls C 89 [v, .int .i64 x] h (fun r h' => r = .bool (l.any fun y => x == y) ∧ h' = h) := by
 refine zf hC tab89 ?_; simp only [B89]; refine zs ?_
 refine ACallsK.eq (Index_spec (zu hC T99) hl) ?_
 refine zs ?_
 cases hx : l.any (fun y => x == y) with
 | true => simp [idxI_nonneg, hx]
 | false => simp [idxI_nonneg, hx]
end
end Go.Ae
/- Registers of the program and checks of the reference. -/
set_option linter.unusedSimpArgs false
set_option linter.unusedVariables false
namespace Go.Ae
def RegGood (n : Int) (ts w : List Int) : Prop := (1 ≤ ts.length ∧ ts.getD 0 0 = 0 ∧ ∀ j, j < ts.length → tapOk n ts j) ∧ (w.length : Int) = n ∧ (w.any fun x => !(x == 0 || x == 1)) = false
instance (n : Int) (ts w : List Int) : Decidable (RegGood n ts w) := by unfold RegGood; infer_instance
def regErr (n : Int) (ts w : List Int) : Int := if n < 2 ∨ 16 < n then 2 else if RegGood n ts w then 0 else 3
structure RegOk (n : Nat) (ts w : List Int) : Prop where
 n2 : 2 ≤ n
 n16 : n ≤ 16
 len : w.length = n
 bits : bit01 w
 t1 : 1 ≤ ts.length
 t0 : ts.getD 0 0 = 0
 taps : ∀ j, j < ts.length → tapOk n ts j
theorem regErr_ok {n : Int} {ts w : List Int} (h : regErr n ts w = 0) : ∃ m : Nat, n = m ∧ RegOk m ts w := by
 unfold regErr at h
 split at h
 ·cases h
 ·split at h
  ·rename_i h1 h2
   refine ⟨w.length, h2.2.1.symm, ?_⟩
   obtain ⟨⟨a1, a2, a3⟩, b1, b2⟩ := h2
   refine ⟨by omega, by omega, rfl, fun x hx => ?_, a1, a2, by rw [b1]; exact a3⟩
   have := List.any_eq_false.1 b2 x hx
   simp only [Bool.not_eq_true, Bool.not_eq_false', Bool.or_eq_true, beq_iff_eq] at this
   exact this
  ·cases h
def madeR (n : Int) (ts w : List Int) : AV := if regErr n ts w = 0 then .tuple [.agg [.int .i64 n, .int .u32 (packL w), .int .u32 (maskT ts)], .int .i64 0] else .tuple [.agg [.int .i64 0, .int .u32 0, .int .u32 0], .int .i64 (regErr n ts w)]
theorem pow_le16 {k : Nat} (h : k ≤ 16) : 2 ^ k ≤ 65536 := Nat.pow_le_pow_right (by decide) h
theorem cast_pow (k : Nat) : (2 : Int) ^ k = ((2 ^ k : Nat) : Int) := by simp
theorem maskT_take_lt {n : Nat} {ts : List Int} (h : ∀ j, j < ts.length → tapOk n ts j) (i : Nat) : maskT (ts.take i) < 2 ^ n := by
 refine maskT_lt _ _ Nat.one_le_two_pow (fun t ht => ?_)
 obtain ⟨j, hj, rfl⟩ := List.mem_take_iff_getElem.1 ht
 have hj' : j < ts.length := by omega
 have h1 := (h j hj').2
 have h2 := tap_nonneg h hj'
 have e : ts[j] = ts.getD j 0 := by simp [hj']
 rw [e]; omega
section
variable {C : Ctx}
set_option maxHeartbeats 1000000 in
theorem made_spec (hC : Has C T92) {n : Int} {v1 v2 : AV} {ts w : List Int} {h : Heap} (h1 : RI h v1 ts) (h2 : RI h v2 w) : ACalls C 92 [.int .i64 n, v1, v2] h (fun r h' => r = madeR n ts w ∧ h' = h) := by
 have l1 := h1.lt
 have l2 := h2.lt
 refine ACalls.gc0 (P := fun r h' => r = madeR n ts w ∧ HSub h h') ?_ (fun r h' hp => ⟨by rw [hp.1]; unfold madeR; split <;> exact free_tuple (by simp [AV.free, AV.bel, AV.bels]), hp.2, hp.1, rfl⟩)
 have pe : regErr n ts w = if n < 2 ∨ 16 < n then 2 else if RegGood n ts w then 0 else 3 := rfl
 have fin : ∀ e, regErr n ts w = e → e ≠ 0 → AV.tuple [.agg [.int .i64 0, .int .u32 0, .int .u32 0], .int .i64 e] = madeR n ts w := fun e h0 he => by unfold madeR; rw [if_neg (by rw [h0]; exact he), h0]
 by_cases c0 : n < 2 ∨ 16 < n
 ·rw [if_pos c0] at pe
  refine zf hC tab92 ?_; simp only [B92]; refine zs ?_
  (repeat' (first | (refine Br.by (fun _ => ?_) (fun _ => ?_)) | (refine zs ?_)))
  all_goals first | exact ⟨fin 2 pe (by decide), (HSub.push1 _ _)⟩ | omega
 rw [if_neg c0] at pe
 by_cases c1 : ts.length = 0
 ·rw [if_neg (fun hg => by have := hg.1.1; omega)] at pe
  refine zf hC tab92 ?_; simp only [B92]; refine zs1 @h1.len ?_
  exact ⟨fin 3 pe (by decide), (HSub.push1 _ _)⟩
 by_cases c2 : ts.getD 0 0 ≠ 0
 ·rw [if_neg (fun hg => c2 hg.1.2.1)] at pe
  refine zf hC tab92 ?_; simp only [B92]; refine zs3 @h1.len @h1.idx @h1.loadC ?_
  exact ⟨fin 3 pe (by decide), (HSub.push1 _ _)⟩
 by_cases c3 : (w.length : Int) ≠ n
 ·rw [if_neg (fun hg => c3 hg.2.1)] at pe
  refine zf hC tab92 ?_; simp only [B92]; refine zs4 @h1.len @h1.idx @h1.loadC @h2.len ?_
  exact ⟨fin 3 pe (by decide), (HSub.push1 _ _)⟩
 have c2' : ts.getD 0 0 = 0 := Decidable.not_not.1 c2
 have c3' : (w.length : Int) = n := Decidable.not_not.1 c3
 have hz : RI (h.push (.cells [.int .i64 0, .int .u32 0, .int .u32 0] true 0)) v1 ts := h1.mono (HSub.push1 _ _)
 refine zf hC tab92 ?_; simp only [B92]; refine zs5 @h1.len @h1.idx @h1.loadC @h2.len @c2' ?_
 refine wp_loopI (fun j t h' => ∃ i : Nat, h' = (h.push (.cells [.int .i64 0, .int .u32 0, .int .u32 0] true 0)).push (.cells [.int .i64 n, .int .u32 0, .int .u32 (maskT (ts.take i) : Nat)] true 0) ∧ t 0 = .int .i64 n ∧ t 2 = v2 ∧ t 6 = .ptr h.size 0 ∧ t 8 = .ptr (h.size + 1) 0 ∧ t 9 = .int .i64 (if i = 0 then -1 else ts.getD (i - 1) 0) ∧
   t 39 = v1 ∧ t 40 = .int .i64 ts.length ∧ t 41 = .int .i64 (i : Nat) ∧ i ≤ ts.length ∧ (∀ q, q < i → tapOk n ts q) ∧ j = ts.length - i) (j0 := ts.length)
  ⟨0, rfl, rfl, rfl, rfl, rfl, rfl, rfl, rfl, rfl, by omega, by omega, rfl⟩ ?_
 rintro j t h' ⟨i, rfl, e0, e2, e6, e8, e9, e39, e40, e41, hi, hok, hj⟩
 refine zs2 @e40 @e41 ?_
 refine Br.by (fun c => ?_) (fun c => ?_)
 ·have hi' : i < ts.length := by omega
  have hsub : HSub h ((h.push (.cells [.int .i64 0, .int .u32 0, .int .u32 0] true 0)).push (.cells [.int .i64 n, .int .u32 0, .int .u32 (maskT (ts.take i) : Nat)] true 0)) := (HSub.push1 _ _).push _
  by_cases ct : tapOk n ts i
  ·have ct' := ct
   unfold tapOk at ct'
   have t0 : 0 ≤ ts.getD i 0 := by
    have h1 := ct'.1
    by_cases h0 : i = 0
    ·rw [if_pos h0] at h1; omega
    ·rw [if_neg h0] at h1
     have hp : ∀ j, j ≤ i - 1 → -1 < ts.getD j 0 := by
      intro j
      induction j with
      | zero => intro _; omega
      | succ j ih =>
       intro hj
       have := (hok (j + 1) (by omega)).1
       rw [if_neg (by omega), show j + 1 - 1 = j by omega] at this
       have := ih (by omega)
       omega
     have := hp (i - 1) (Nat.le_refl _)
     omega
   have hm : maskT (ts.take i) < 65536 := by
    have h1 := maskT_lt (n := 16) (ts.take i) 0 (by decide) (fun x hx => by
     obtain ⟨q, hq, rfl⟩ := List.mem_take_iff_getElem.1 hx
     have hq' : q < ts.length := by omega
     have h2 := (hok q (by omega)).2
     have e : ts[q] = ts.getD q 0 := by simp [hq']
     rw [e]; omega)
    exact h1
   have hpw := pow_le16 (k := (ts.getD i 0).toNat) (by omega)
   have ec := cast_pow (ts.getD i 0).toNat
   have em : maskT (ts.take (i + 1)) = maskT (ts.take i) ||| 2 ^ (ts.getD i 0).toNat := by rw [take_succ_getD hi', maskT_snoc]
   have hor := or_u32 (m := maskT (ts.take i)) (n := 2 ^ (ts.getD i 0).toNat) (by omega) (by omega)
   rw [← em] at hor
   have hlast : ¬ ts.getD i 0 ≤ (if i = 0 then -1 else ts.getD (i - 1) 0) := by omega
   generalize hP : 2 ^ (ts.getD i 0).toNat = P at hpw ec hor
   simp -implicitDefEqProofs (disch := first | exact zd | fail) only [↓wpPre, wpPost, wpPoly, Int.reduceToNat, Int.reducePow, Int.reduceMul, Int.reduceAdd, Int.reduceSub, Int.reduceNeg, Nat.reduceAdd, Nat.reduceMul, Nat.reducePow, Int.reduceLT, Int.reduceLE, Int.reduceEq, Nat.reduceEqDiff, e0, e2, e6, e8, e9, e39, e40, e41, h1.idx, h1.loadC, Int.one_mul, ec, hor]
   exact ⟨_, ⟨i + 1, rfl, by simp, by simp, by omega, fun q hq => by
    by_cases e : q = i
    ·subst e; exact ct
    ·exact hok q (by omega), rfl⟩, by omega⟩
  ·have hbad : ¬ RegGood n ts w := fun hg => ct (hg.1.2.2 i hi')
   rw [if_neg hbad] at pe
   unfold tapOk at ct
   by_cases cl : ts.getD i 0 ≤ (if i = 0 then -1 else ts.getD (i - 1) 0)
   ·refine zs7 @e0 @e6 @e9 @e39 @e41 @h1.idx @h1.loadC ?_
    exact ⟨fin 3 pe (by decide), (HSub.push1 _ _).push _⟩
   ·refine zs7 @e0 @e6 @e9 @e39 @e41 @h1.idx @h1.loadC ?_
    exact ⟨fin 3 pe (by decide), (HSub.push1 _ _).push _⟩
 ·have : i = ts.length := by omega
  subst this
  rw [List.take_length]
  have hmm : (maskT ts : Int) = (maskT ts : Int) := rfl
  refine zs2 @e2 @h2.len ?_
  refine wp_loopI (fun j u h' => ∃ i : Nat, h' = (h.push (.cells [.int .i64 0, .int .u32 0, .int .u32 0] true 0)).push (.cells [.int .i64 n, .int .u32 (packL (w.take i) : Nat), .int .u32 (maskT ts : Nat)] true 0) ∧ u 6 = .ptr h.size 0 ∧ u 8 = .ptr (h.size + 1) 0 ∧
   u 62 = v2 ∧ u 63 = .int .i64 w.length ∧ u 64 = .int .i64 (i : Nat) ∧ i ≤ w.length ∧ bit01 (w.take i) ∧ j = w.length - i) (j0 := w.length)
   ⟨0, rfl, e6, e8, rfl, rfl, rfl, by omega, fun x hx => by simp at hx, rfl⟩ ?_
  rintro j u h' ⟨i, rfl, f6, f8, f62, f63, f64, hi, hbt, hj⟩
  refine zs2 @f63 @f64 ?_
  refine Br.by (fun c => ?_) (fun c => ?_)
  ·have hi' : i < w.length := by omega
   by_cases cb : w.getD i 0 = 0 ∨ w.getD i 0 = 1
   ·have hlt := packL_lt hbt
    have hl : (w.take i).length = i := by simp; omega
    rw [hl] at hlt
    have hpw := pow_le16 (k := i) (by omega)
    have ec := cast_pow i
    have hb1 : bit01 (w.take (i + 1)) := fun x hx => by
     rw [take_succ_getD hi'] at hx
     rcases List.mem_append.1 hx with hx | hx
     ·exact hbt x hx
     ·rw [List.mem_singleton.1 hx]; exact cb
    have es : packL (w.take i) ||| 2 ^ i * (w.getD i 0).toNat = packL (w.take (i + 1)) := by
     rw [take_succ_getD hi', packL_snoc, hl, Nat.or_comm, ← Nat.two_pow_add_eq_or_of_lt hlt, Nat.add_comm]
    generalize hP : 2 ^ i = P at hlt hpw ec es
    have e4 : w.getD i 0 * (P : Int) = ((P * (w.getD i 0).toNat : Nat) : Int) := by rcases cb with e | e <;> rw [e] <;> simp
    have e5 : P * (w.getD i 0).toNat ≤ 65536 := by rcases cb with e | e <;> rw [e] <;> simp <;> omega
    have hor := or_u32 (m := packL (w.take i)) (n := P * (w.getD i 0).toNat) (by omega) (by omega)
    rw [es] at hor
    have cb2 : ¬ (w.getD i 0 ≠ 0 ∧ w.getD i 0 ≠ 1) := by omega
    rcases cb with cb | cb
    ·refine zs10 @f6 @f8 @f62 @f63 @f64 @h2.idx @h2.loadC @ec @e4 @hor ?_
     exact ⟨_, ⟨i + 1, rfl, by simp, by omega, hb1, rfl⟩, by omega⟩
    ·refine zs10 @f6 @f8 @f62 @f63 @f64 @h2.idx @h2.loadC @ec @e4 @hor ?_
     exact ⟨_, ⟨i + 1, rfl, by simp, by omega, hb1, rfl⟩, by omega⟩
   ·have hbad : ¬ RegGood n ts w := fun hg => by
     have := List.any_eq_false.1 hg.2.2 _ (getD_mem hi')
     simp only [Bool.not_eq_true, Bool.not_eq_false', Bool.or_eq_true, beq_iff_eq] at this
     exact cb this
    rw [if_neg hbad] at pe
    refine zs5 @f6 @f62 @f64 @h2.idx @h2.loadC ?_
    exact ⟨fin 3 pe (by decide), (HSub.push1 _ _).push _⟩
  ·have : i = w.length := by omega
   subst this
   rw [List.take_length] at hbt ⊢
   have hgood : RegGood n ts w := ⟨⟨by omega, c2', hok⟩, c3', List.any_eq_false.2 fun x hx => by
    simp only [Bool.not_eq_true, Bool.not_eq_false', Bool.or_eq_true, beq_iff_eq]; exact hbt x hx⟩
   rw [if_pos hgood] at pe
   refine zs2 @f6 @f8 ?_
   refine ⟨by unfold madeR; rw [if_pos pe], ?_⟩
   exact (HSub.push1 _ _).push _
end
end Go.Ae
/- Sequences of the program's registers. -/
set_option linter.unusedSimpArgs false
set_option linter.unusedVariables false
namespace Go.Ae
theorem pop_le (x : Nat) : ∀ n, pop x n ≤ n
 | 0 => Nat.le_refl _
 | n + 1 => by
  have := pop_le x n
  have h2 : bitN x n ≤ 1 := by unfold bitN; cases x.testBit n <;> simp
  unfold pop at *
  simp only [bsum]; omega
theorem RegOk.w1 {n : Nat} {ts w : List Int} (R : RegOk n ts w) : 1 ≤ w.length := by have := R.n2; have := R.len; omega
theorem RegOk.pack_lt {n : Nat} {ts w : List Int} (R : RegOk n ts w) (k : Nat) : packL (winW ts w k) < 65536 := by
 have h1 := packL_lt (winW_01 (ts := ts) R.bits k)
 rw [winW_length R.w1, R.len] at h1
 have := pow_le16 R.n16
 omega
theorem RegOk.mask_lt {n : Nat} {ts w : List Int} (R : RegOk n ts w) : maskT ts < 65536 := by
 have h1 := maskT_take_lt R.taps ts.length
 rw [List.take_length] at h1
 have := pow_le16 R.n16
 omega
theorem RegOk.step {n : Nat} {ts w : List Int} (R : RegOk n ts w) (k : Nat) : packL (winW ts w k) / 2 ||| 2 ^ (n - 1) * (xorT ts (winW ts w k)).toNat = packL (winW ts w (k + 1)) := by
 have h1 := packL_step (ts := ts) (w := winW ts w k) (by rw [winW_length R.w1]; exact R.w1) (winW_01 R.bits k)
 have hlt := packL_lt (winW_01 (ts := ts) R.bits k)
 rw [winW_length R.w1, R.len] at h1 hlt
 have hn := R.n2
 have e : 2 ^ n = 2 ^ (n - 1) * 2 := by rw [← Nat.pow_succ]; congr 1; omega
 have hlt2 : packL (winW ts w k) / 2 < 2 ^ (n - 1) := by omega
 rw [Nat.or_comm, ← Nat.two_pow_add_eq_or_of_lt hlt2, Nat.add_comm, ← h1]; rfl
theorem RegOk.par {n : Nat} {ts w : List Int} (R : RegOk n ts w) (k : Nat) : ((pop (packL (winW ts w k) &&& maskT ts) 32 : Nat) : Int) % 2 = xorT ts (winW ts w k) := by
 have h1 := pop_mask (n := n) (by have := R.n16; omega) R.taps (winW_01 (ts := ts) R.bits k) ts.length (Nat.le_refl _)
 rw [List.take_length] at h1
 rw [← h1]; omega
theorem RegOk.bit {n : Nat} {ts w : List Int} (R : RegOk n ts w) (k : Nat) : ((packL (winW ts w k) &&& 1 : Nat) : Int) = seqB ts w k := by
 have h1 := packL_bit (winW_01 (ts := ts) R.bits k) 0
 have h2 := seqB_01 (ts := ts) R.bits k
 have h3 : packL (winW ts w k) &&& 1 = packL (winW ts w k) % 2 := Nat.and_one_is_mod _
 unfold seqB at *
 unfold bitN at h1
 rw [Nat.testBit_zero] at h1
 rw [h3]
 rcases h2 with h2 | h2
 ·rw [h2] at h1 ⊢
  have : ¬ packL (winW ts w k) % 2 = 1 := fun e => by simp [e] at h1
  omega
 ·rw [h2] at h1 ⊢
  have : packL (winW ts w k) % 2 = 1 := by
   by_cases e : packL (winW ts w k) % 2 = 1
   ·exact e
   ·simp [e] at h1
  omega
section
variable {C : Ctx}
theorem bits_spec (hC : Has C T95) {a b c : AV} {h : Heap} : ACalls C 95 [.agg [a, b, c]] h (fun r h' => r = .func 101 [] [.ptr h.size 0] ∧ h' = h.push (.cells [a, b, c] true 0)) := by
 refine zf hC tab95 ?_; simp only [B95]; exact ze
def regBox (n : Nat) (ts w : List Int) (k : Nat) : ABlk := .cells [.int .i64 (n : Nat), .int .u32 (packL (winW ts w k) : Nat), .int .u32 (maskT ts : Nat)] true 0
theorem bits1_iter (hC : Has C T101) {l b n : Nat} {ts w : List Int} {h : Heap} (R : RegOk n ts w) (J : Nat → Heap → Prop) (D : Heap → Prop) (M : Nat) (h0 : J 0 h) (hb : ∀ k h', J k h' → h'.get b = some (regBox n ts w k)) (hM : ∀ k h', J k h' → k ≤ M)
  (hy : ∀ k h', J k h' → AYield C l [.int .i64 (seqB ts w k), .int .u32 (packL (winW ts w (k + 1)) : Nat)] (h'.put b (regBox n ts w (k + 1))) (fun r h'' => (r = .bool true ∧ J (k + 1) h'') ∨ (r = .bool false ∧ D h''))) :
  ACalls C 101 [.yield l, .ptr b 0] h (fun _ h' => D h') := by
 refine zf hC tab101 ?_; simp only [B101]; refine zs ?_
 refine wp_loopI (fun j t h' => ∃ k : Nat, J k h' ∧ t 0 = .yield l ∧ t 1 = .ptr b 0 ∧ j = M - k) (j0 := M) ⟨0, h0, rfl, rfl, rfl⟩ ?_
 rintro j t h' ⟨k, hJ, e0, e1, hj⟩
 have hbx := hb k h' hJ
 have hbl := Heap.lt_of_get hbx
 have hm := hM k h' hJ
 have p1 := R.pack_lt k
 have p2 := R.mask_lt
 have p3 : packL (winW ts w k) &&& maskT ts < 65536 := Nat.lt_of_le_of_lt Nat.and_le_left p1
 have a1 : bitsA .and .u32 (packL (winW ts w k) : Nat) 1 = seqB ts w k := by
  have := and_u32 (m := packL (winW ts w k)) (n := 1) (by omega) (by decide)
  rw [R.bit k] at this; exact this
 have a2 := and_u32 (m := packL (winW ts w k)) (n := maskT ts) (by omega) (by omega)
 have sq := seqB_01 (ts := ts) R.bits k
 have xq := xorT_01 ts (winW ts w k)
 have hpar := R.par k
 have hpl := pop_le (packL (winW ts w k) &&& maskT ts) 32
 have hpw := pow_le16 (k := n - 1) (by have := R.n16; omega)
 have ec := cast_pow (n - 1)
 have hst := R.step k
 have hn2 := R.n2
 have hn16 := R.n16
 have hor := or_u32 (m := packL (winW ts w k) / 2) (n := 2 ^ (n - 1) * (xorT ts (winW ts w k)).toNat) (by omega) (by rcases xq with e | e <;> rw [e] <;> simp <;> omega)
 rw [hst] at hor
 have e4 : xorT ts (winW ts w k) * ((2 ^ (n - 1) : Nat) : Int) = ((2 ^ (n - 1) * (xorT ts (winW ts w k)).toNat : Nat) : Int) := by rcases xq with e | e <;> rw [e] <;> simp
 have e5 : (2 ^ (n - 1) * (xorT ts (winW ts w k)).toNat : Nat) ≤ 65536 := by rcases xq with e | e <;> rw [e] <;> simp <;> omega
 have e6 : ((n : Int) - 1).toNat = n - 1 := by omega
 have e7 : (packL (winW ts w k) : Int) / 2 = ((packL (winW ts w k) / 2 : Nat) : Int) := by omega
 have hb2 : h'.get b = some (.cells [.int .i64 (n : Nat), .int .u32 (packL (winW ts w k) : Nat), .int .u32 (maskT ts : Nat)] true 0) := hbx
 refine zs5 @e0 @e1 @hb2 @a1 @a2 ?_
 refine ACallsK.eq (OnesCount_spec (zu hC T102) (by omega)) ?_
 refine zs9 @e0 @e1 @hb2 @hpar @e6 @ec @e4 @e7 @hor ?_
 refine AYieldK.of (hy k h' hJ) ?_
 rintro r h'' (⟨rfl, hJ'⟩ | ⟨rfl, hD⟩)
 ·refine zs2 @e0 @e1 ?_
  have := hM _ _ hJ'
  exact ⟨_, ⟨k + 1, hJ', rfl⟩, by omega⟩
 ·refine zs1 @e0 ?_
  exact hD
end
end Go.Ae
/- Run and Period of the program. -/
set_option linter.unusedSimpArgs false
set_option linter.unusedVariables false
namespace Go.Ae
def firstP (ts w : List Int) (m k : Nat) : List Int := runL ts w k ++ List.replicate (m - k) 0
theorem firstP_length {ts w : List Int} {m k : Nat} (h : k ≤ m) : (firstP ts w m k).length = m := by simp [firstP, runL_length]; omega
theorem firstP_set {ts w : List Int} {m k : Nat} (h : k < m) : (firstP ts w m k).set k (seqB ts w k) = firstP ts w m (k + 1) := by
 unfold firstP
 have hl := runL_length ts w k
 rw [List.set_append_right _ _ (by omega), hl, Nat.sub_self, show m - k = m - (k + 1) + 1 by omega, List.replicate_succ, List.set_cons_zero, runL_succ, List.append_assoc]
 rfl
section
variable {C : Ctx}
set_option maxRecDepth 100000 in
set_option maxHeartbeats 2000000 in
theorem first_spec (hC : Has C T93) {n m : Nat} {ts w : List Int} {h : Heap} (R : RegOk n ts w) (hm : m ≤ 100000) :
  ACalls C 93 [.agg [.int .i64 (n : Nat), .int .u32 (packL w : Nat), .int .u32 (maskT ts : Nat)], .int .i64 (m : Nat)] h (fun r h' => Fresh h h' r (runL ts w m)) := by
 refine zf hC tab93 ?_; simp only [B93]; refine zs ?_
 refine ACallsK.hide (fun H hH => ?_)
 have N : H.size = h.size + 4 := by rw [hH]; exact ze
 have b3 : H.get (h.size + 1) = some (.cells [.int .i64 (m : Nat)] true 0) := by rw [hH]; exact ze
 have b5 : H.get (h.size + 3) = some (.cells [.slice (h.size + 2) 0 0 (.known m)] true 0) := by rw [hH]; exact ze
 have br : H.get (h.size + 2) = some (.cells (ints (List.replicate m 0)) true 0) := by rw [hH, ← ints_replicate]; exact ze
 have hsH : HSub h H := by rw [hH]; exact (((HSub.push1 h _).push _).push _).push _
 clear hH
 refine ACallsK.eq (bits_spec (zu hC T95)) ?_
 refine zs ?_
 refine wpRange_none (D := fun h' => ∃ R, h'.get (H.size + 2) = some (.loop R) ∧ R.state = .done ∧ R.pend = some (.exit 0) ∧ HSub h h' ∧ h'.get (H.size + 1) = some (.defd true) ∧
   h'.get (h.size + 3) = some (.cells [.slice (h.size + 2) 0 m (.known m)] true 0) ∧ h'.get (h.size + 2) = some (.cells (ints (runL ts w m)) true 0) ∧ H.size + 3 ≤ h'.size) ?_ ?_
 ·refine ACalls.hideLoop (fun Q hR => ?_)
  show ACalls C 101 [.yield (H.size + 2), .ptr H.size 0] _ _
  have rs : Q.state = .ready := by rw [hR]
  have rp : Q.pend = none := by rw [hR]
  have rb := loop_back rs rp
  refine bits1_iter (zu hC T101) R (fun k h' => k ≤ m ∧ h'.get (H.size + 2) = some (.loop Q) ∧ h'.get H.size = some (regBox n ts w k) ∧ h'.get (H.size + 1) = some (.defd true) ∧ HSub h h' ∧ H.size + 3 ≤ h'.size ∧
   h'.get (h.size + 1) = some (.cells [.int .i64 (m : Nat)] true 0) ∧ h'.get (h.size + 3) = some (.cells [.slice (h.size + 2) 0 k (.known m)] true 0) ∧ h'.get (h.size + 2) = some (.cells (ints (firstP ts w m k)) true 0)) _ m ?_ ?_ ?_ ?_
  ·refine ⟨by omega, ?_, ?_, ?_, ?_, ?_, ?_, ?_, ?_⟩
   ·exact ze
   ·refine zs ?_
    rfl
   ·exact ze
   ·exact ((hsH.push _).push _).push _
   ·refine zs ?_
    omega
   ·exact ze1 @b3
   ·exact ze1 @b5
   ·refine zs1 @br ?_
    simp [firstP, runL]
  ·rintro k h' ⟨_, _, q, _⟩
   exact q
  ·rintro k h' ⟨q, _⟩
   exact q
  ·rintro k h' ⟨hk, hl, hw1, hd, hsub, hsz, q3, q5, qr⟩
   have hfl := firstP_length (ts := ts) (w := w) hk
   have hl2 : (h'.put H.size (regBox n ts w (k + 1))).get (H.size + 2) = some (.loop Q) := (get_put_ne (by omega)).trans hl
   refine yield_intro hl2 rs (by rw [hR]; rfl) ?_
   simp only [congrArg ALoop.nt hR, congrArg ALoop.t hR, congrArg ALoop.params hR, congrArg ALoop.assign hR, congrArg ALoop.body hR]
   refine zs4 @hl @rs @q3 @q5 ?_
   refine Br.by (fun c => ?_) (fun c => ?_)
   ·have : k = m := by omega
    subst this
    refine zs1 @hl ?_
    exact .inr ⟨_, rfl, rfl, rfl, ((hsub.put (by omega) _).put (by omega) _), hd, q5, by simpa [firstP] using qr, by omega⟩
   ·have hk' : k < m := by omega
    refine zs7 @hl @rs @q3 @q5 @qr @cont_slice @contB_one ?_
    exact .inl ⟨by omega, by rw [rb], hd, (((((hsub.put (by omega) _).put (by omega) _).put (by omega) _).put (by omega) _).put (by omega) _).push _, by omega, by rw [firstP_set hk']⟩
 ·rintro h' ⟨Q, hl, hst, hpd, hsub, hd, q5, qr, hsz⟩
  refine ⟨Q, hl, by rw [hst]; decide, ?_⟩
  rw [hpd]
  show blockO _ _ (.exit 0) _
  refine zs2 @hd @q5 ?_
  have rl := runL_length ts w m
  refine ⟨(hsub.put (by omega) _).put (by omega) _, by omega, h.size + 2, by omega, by rw [rl], ?_⟩
  exact ze1 @qr
def runErr (n : Int) (ts w : List Int) (m : Int) : Int := if regErr n ts w = 0 then (if m < 0 ∨ 100000 < m then 4 else 0) else regErr n ts w
theorem Run_spec (hC : Has C T81) {n m : Int} {v1 v2 : AV} {ts w : List Int} {h : Heap} (h1 : RI h v1 ts) (h2 : RI h v2 w) (hm : In64 m) :
  ACalls C 81 [.int .i64 n, v1, v2, .int .i64 m] h (fun r h' => ∃ v', r = lstErr v' (runErr n ts w m) ∧ HSub h h' ∧ RI h' v' (if runErr n ts w m = 0 then runL ts w m.toNat else []) ∧ (runErr n ts w m = 0 → Fresh h h' v' (runL ts w m.toNat))) := by
 have pe : runErr n ts w m = if regErr n ts w = 0 then (if m < 0 ∨ 100000 < m then 4 else 0) else regErr n ts w := rfl
 unfold In64 at hm
 by_cases c : regErr n ts w = 0
 ·rw [if_pos c] at pe
  obtain ⟨k, rfl, R⟩ := regErr_ok c
  have eR : madeR k ts w = .tuple [.agg [.int .i64 (k : Nat), .int .u32 (packL w), .int .u32 (maskT ts)], .int .i64 0] := by unfold madeR; rw [if_pos c]
  refine zf hC tab81 ?_; simp only [B81]; refine zs ?_
  refine ACallsK.eq2 (made_spec (zu hC T92) h1 h2) eR ?_
  by_cases c2 : m < 0 ∨ 100000 < m
  ·rw [if_pos c2] at pe
   refine zs ?_
   (repeat' (first | (refine Br.by (fun _ => ?_) (fun _ => ?_)) | (refine zs ?_)))
   all_goals first | exact ⟨.nilslice, by rw [pe, lstErr], HSub.push1 _ _, by rw [if_neg (by rw [pe]; decide)]; exact RI.nil, fun e => absurd e (by rw [pe]; decide)⟩ | omega
  ·rw [if_neg c2] at pe
   obtain ⟨q, rfl⟩ := Int.eq_ofNat_of_zero_le (show 0 ≤ m by omega)
   refine zs ?_
   refine ACallsK.of (first_spec (zu hC T93) R (by omega)) ?_
   rintro r h' F
   refine zs ?_
   exact ⟨r, by rw [pe, lstErr], (HSub.push1 _ _).trans F.sub, by rw [if_pos pe]; exact F.ri, fun _ => F.mono (HSub.push1 _ _)⟩
 ·rw [if_neg c] at pe
  have eR : madeR n ts w = .tuple [.agg [.int .i64 0, .int .u32 0, .int .u32 0], .int .i64 (regErr n ts w)] := by unfold madeR; rw [if_neg c]
  refine zf hC tab81 ?_; simp only [B81]; refine zs ?_
  refine ACallsK.eq2 (made_spec (zu hC T92) h1 h2) eR ?_
  refine zs ?_
  exact ⟨.nilslice, by rw [pe, lstErr], HSub.push1 _ _, by rw [if_neg (by rw [pe]; exact c)]; exact RI.nil, fun e => absurd e (by rw [pe]; exact c)⟩
end
end Go.Ae
/- Period of the program; the reference's registers. -/
set_option linter.unusedSimpArgs false
set_option linter.unusedVariables false
namespace Go.Ae
theorem RegOk.zero_tap {n : Nat} {ts w : List Int} (R : RegOk n ts w) : ∃ us, ts = 0 :: us ∧ ∀ u ∈ us, 0 < u := by
 match ts, R.t1, R.t0, R.taps with
 | t :: us, _, h0, ht =>
  rw [List.getD_cons_zero] at h0
  subst h0
  refine ⟨us, rfl, fun u hu => ?_⟩
  obtain ⟨i, hi, rfl⟩ := List.mem_iff_getElem.1 hu
  have h1 := tap_mono ht (i + 1) 0 (by omega) (by simp; omega)
  rw [List.getD_cons_zero, List.getD_cons_succ] at h1
  have e : us.getD i 0 = us[i] := by simp [hi]
  omega
theorem RegOk.period {n : Nat} {ts w : List Int} (R : RegOk n ts w) : ∃ K, IsPeriod ts w K ∧ K ≤ 2 ^ n := by
 obtain ⟨k, h1, h2, h3⟩ := period_ex R.zero_tap R.w1 R.bits
 rw [R.len] at h2
 have key : ∀ m, ∀ k, k ≤ m → 1 ≤ k → winW ts w k = w → ∃ K, IsPeriod ts w K ∧ K ≤ k := by
  intro m
  induction m with
  | zero => intro k hk h1; omega
  | succ m ih =>
   intro k hk h1 h3
   by_cases c : ∃ j, 1 ≤ j ∧ j < k ∧ winW ts w j = w
   ·obtain ⟨j, j1, j2, j3⟩ := c
    obtain ⟨K, hK, hle⟩ := ih j (by omega) j1 j3
    exact ⟨K, hK, by omega⟩
   ·exact ⟨k, ⟨h1, h3, fun j j1 j2 j3 => c ⟨j, j1, j2, j3⟩⟩, Nat.le_refl _⟩
 obtain ⟨K, hK, hle⟩ := key k k (Nat.le_refl _) h1 h3
 exact ⟨K, hK, by omega⟩
theorem RegOk.same {n : Nat} {ts w : List Int} (R : RegOk n ts w) (k : Nat) : packL (winW ts w k) = packL w ↔ winW ts w k = w :=
 ⟨fun h => packL_inj (winW_length R.w1 k) (winW_01 R.bits k) R.bits h, fun h => by rw [h]⟩
section
variable {C : Ctx}
end
end Go.Ae
/- The reference's registers. -/
set_option linter.unusedSimpArgs false
set_option linter.unusedVariables false
namespace Go.Ae
theorem gV_u {w : Bool} {p q : Prop} : @gV .undef w ⟨p⟩ ⟨q⟩ = q := rfl
section
variable {C : Ctx}
end
end Go.Ae
/- The reference's sequences and periods. -/
set_option linter.unusedSimpArgs false
set_option linter.unusedVariables false
namespace Go.Ae
theorem xor01 {a b : Int} (ha : a = 0 ∨ a = 1) (hb : b = 0 ∨ b = 1) : bitsA .xor .i64 a b = (a + b) % 2 := by
 rcases ha with rfl | rfl <;> rcases hb with rfl | rfl <;> decide
theorem runL_idx {n : Nat} {ts w : List Int} (R : RegOk n ts w) {i t : Nat} (ht : t < n) : (runL ts w (n + i)).getD (i + t) 0 = (winW ts w i).getD t 0 := by
 rw [runL_get (by omega), winW_get R.w1 t i (by rw [R.len]; exact ht)]
section
variable {C : Ctx}
set_option maxRecDepth 100000 in
set_option maxHeartbeats 1000000 in
theorem run08_spec (hC : Has C T91) {n : Nat} {m : Int} {v1 v2 : AV} {ts w : List Int} {h : Heap} (h1 : RI h v1 ts) (h2 : RI h v2 w) (R : RegOk n ts w) (hm : m ≤ 1000000) (hm2 : In64 m) :
  ACalls C 91 [.int .i64 (n : Nat), v1, v2, .int .i64 m] h (fun r h' => ∃ L : Nat, GrwI h h' r (runL ts w L) ∧ n ≤ L ∧ (m ≤ L) ∧ (L : Int) = max (n : Int) m) := by
 have hn2 := R.n2
 have hn16 := R.n16
 have hwl := R.len
 have l1 := h1.lt
 unfold In64 at hm2
 obtain ⟨i, o, q, cp, rfl⟩ : ∃ i o n cp, v2 = .slice i o n cp := by
  obtain ⟨_, _, ⟨rfl, h1⟩ | ⟨i, o, cp, vs, wr, u, rfl, _⟩⟩ := h2
  ·omega
  ·exact ⟨_, _, _, _, rfl⟩
 have hc' : contentA (h.push (.cells [] true 0)) 1 (.slice i o q cp) = some (w.length, ints w) := (h2.mono (HSub.push1 _ _)).content
 have rs := runL_start (ts := ts) R.w1
 rw [hwl] at rs
 refine zf hC tab91 ?_; simp only [B91]; refine zs1 @hc' ?_
 refine wp_loopI (fun j t h' => ∃ i : Nat, GrwI h h' (t 9) (runL ts w (n + i)) ∧ t 1 = v1 ∧ t 3 = .int .i64 m ∧ t 10 = .int .i64 (i : Nat) ∧ (i = 0 ∨ n + i ≤ m) ∧ j = (m - (n + i)).toNat) (j0 := (m - n).toNat)
  ⟨0, ?_, rfl, rfl, rfl, by omega, by omega⟩ ?_
 ·show GrwI h _ (.slice (h.size + 1) 0 w.length (.unk 0)) (runL ts w n)
  rw [rs]
  exact Grw.fresh ((HSub.push1 _ _).push _) (by omega) (by omega) (get_push_eq rfl)
 rintro j t h' ⟨i, A, e1, e3, e10, hi, hj⟩
 have rl := runL_length ts w (n + i)
 have RA := A.ri
 refine zs3 @e3 @RA.len @rl ?_
 refine Br.by (fun c => ?_) (fun c => ?_)
 ·refine zs ?_
  have h1' := h1.mono A.sub
  refine wp_loopI (fun j u hx => hx = h' ∧ ∃ k : Nat, u 9 = t 9 ∧ u 1 = v1 ∧ u 3 = .int .i64 m ∧ u 10 = .int .i64 (i : Nat) ∧ u 11 = .int .i64 (xorT (ts.take k) (winW ts w i)) ∧ u 12 = .int .i64 (k : Nat) ∧ k ≤ ts.length ∧ j = ts.length - k) (j0 := ts.length)
   ⟨rfl, 0, rfl, e1, e3, e10, rfl, rfl, by omega, rfl⟩ ?_
  rintro j u hx ⟨hh, k, f9, f1, f3, f10, f11, f12, hk, hj⟩
  subst hh
  refine zs3 @f1 @f12 @h1'.len ?_
  refine Br.by (fun c2 => ?_) (fun c2 => ?_)
  ·have hk' : k < ts.length := by omega
   have t0 := tap_nonneg R.taps hk'
   have t1 := (R.taps k hk').2
   have ei : ((i : Int) + ts.getD k 0).toNat = i + (ts.getD k 0).toNat := by omega
   have eg := runL_idx R (i := i) (t := (ts.getD k 0).toNat) (by omega)
   have x1 := xorT_01 (ts.take k) (winW ts w i)
   have x2 := (winW_01 (ts := ts) R.bits i).get (ts.getD k 0).toNat
   have ex := xor01 x1 x2
   have es : xorT (ts.take (k + 1)) (winW ts w i) = (xorT (ts.take k) (winW ts w i) + (winW ts w i).getD (ts.getD k 0).toNat 0) % 2 := by rw [take_succ_getD hk', xorT_snoc]
   rw [← es] at ex
   simp -implicitDefEqProofs (disch := first | exact zd | fail) only [↓wpPre, wpPost, wpPoly, Int.reduceToNat, Int.reducePow, Int.reduceMul, Int.reduceAdd, Int.reduceSub, Int.reduceNeg, Nat.reduceAdd, Nat.reduceMul, Nat.reducePow, Int.reduceLT, Int.reduceLE, Int.reduceEq, Nat.reduceEqDiff, f1, f3, f9, f10, f11, f12, h1'.idx, h1'.load, RA.idx, RA.load, ei, eg, ex]
   exact ⟨_, ⟨k + 1, rfl, by simp, by omega, rfl⟩, by omega⟩
  ·have : k = ts.length := by omega
   subst this
   rw [List.take_length] at f11
   have ex : xorT ts (winW ts w i) = seqB ts w (n + i) := by
    have := seqB_next (ts := ts) R.w1 i
    rw [hwl] at this
    rw [← this, Nat.add_comm]
   have A2 := A.snoc (x := seqB ts w (n + i)) (HSub.push1 hx (.cells [.int .i64 (seqB ts w (n + i))] true 0)) (by omega)
   rw [← runL_succ, rl] at A2
   have ers := runL_succ ts w (n + i)
   rw [ex] at f11
   simp -implicitDefEqProofs (disch := first | exact zd | fail) only [↓wpPre, wpPost, wpPoly, Int.reduceToNat, Int.reducePow, Int.reduceMul, Int.reduceAdd, Int.reduceSub, Int.reduceNeg, Nat.reduceAdd, Nat.reduceMul, Nat.reducePow, Int.reduceLT, Int.reduceLE, Int.reduceEq, Nat.reduceEqDiff, f1, f3, f9, f10, f11, cont_slice, contB_one, A.app, rl, ← ers]
   exact ⟨_, ⟨i + 1, A2, by simp, by omega, rfl⟩, by omega⟩
 ·refine zs ?_
  exact ⟨n + i, A, by omega, by omega, by omega⟩
end
end Go.Ae
/- The reference's periods; the statement on registers of layer 8. -/
set_option linter.unusedSimpArgs false
set_option linter.unusedVariables false
namespace Go.Ae
section
variable {C : Ctx}
end
end Go.Ae
/- Lengths and taps of codes, of the program and of the reference. -/
set_option linter.unusedSimpArgs false
set_option linter.unusedVariables false
namespace Go.Ae
def lenOk (d : Int) : Bool := [5, 6, 7, 9, 10].any fun y => d == y
theorem lenOk_cases {d : Int} (h : lenOk d = true) : d = 5 ∨ d = 6 ∨ d = 7 ∨ d = 9 ∨ d = 10 := by
 simp only [lenOk, List.any_cons, List.any_nil, Bool.or_false, Bool.or_eq_true, beq_iff_eq] at h; exact h
def lenN (d : Int) : Nat := 2 ^ d.toNat - 1
theorem lenN_eq {d : Int} (h : lenOk d = true) : 31 ≤ lenN d ∧ lenN d ≤ 1023 ∧ (2 : Int) ^ d.toNat = ((lenN d + 1 : Nat) : Int) := by
 rcases lenOk_cases h with rfl | rfl | rfl | rfl | rfl <;> decide
def lenE (d : Int) : AV := if lenOk d = true then tup2 (lenN d) 0 else tup2 0 2
def tapsL (d w : Int) : List Int :=
 if d = 5 then (if w = 1 then [0, 2] else [0, 2, 3, 4]) else if d = 6 then (if w = 1 then [0, 1] else [0, 1, 2, 5]) else if d = 7 then (if w = 1 then [0, 3] else [0, 1, 2, 3])
 else if d = 9 then (if w = 1 then [0, 4] else [0, 3, 4, 6]) else (if w = 1 then [0, 3] else [0, 2, 3, 8])
def tapsErr (d w : Int) : Int := if lenOk d = true ∧ (w = 1 ∨ w = 2) then 0 else 2
theorem idxVal_agg {agg : Bool} {sz len : Nat} {vs : List AV} {kk : IntKind} {k : Int} (h : 0 ≤ k ∧ k < len) : idxValA agg sz len (.agg vs) (.int kk k) = partA agg vs (k.toNat * sz) sz := by simp [idxValA, h]
section
variable {C : Ctx}
theorem Length_spec (hC : Has C T70) {d : Int} {h : Heap} (hd : In64 d) : ACalls C 70 [.int .i64 d] h (fun r h' => r = lenE d ∧ h' = h) := by
 unfold In64 at hd
 refine ACalls.gc0 (P := fun r h' => r = lenE d ∧ HSub h h') ?_ (fun r h' hp => ⟨by rw [hp.1]; unfold lenE tup2; split <;> exact free_tuple (by simp [AV.free, AV.bel]), hp.2, hp.1, rfl⟩)
 refine zf hC tab70 ?_; simp only [B70]; refine zs ?_
 refine ACallsK.eq (Contains_spec (zu hC T89) (l := [5, 6, 7, 9, 10]) (RI.known (get_push_eq rfl) ⟨rfl, by decide⟩ (by decide))) ?_
 by_cases c : lenOk d = true
 ·have hl := lenN_eq c
  have hc := lenOk_cases c
  have c' : ([5, 6, 7, 9, 10].any fun y => d == y) = true := c
  rw [c']
  refine zs2 @Int.one_mul @hl.2.2 ?_
  exact ⟨by unfold lenE tup2; rw [if_pos c]; simp, HSub.push1 _ _⟩
 ·have c' : ([5, 6, 7, 9, 10].any fun y => d == y) = false := Bool.eq_false_iff.2 c
  rw [c']
  refine zs ?_
  exact ⟨by unfold lenE tup2; rw [if_neg c], HSub.push1 _ _⟩
theorem Length08_spec (hC : Has C T71) {d : Int} {h : Heap} (hd : In64 d) : ACalls C 71 [.int .i64 d] h (fun r h' => r = lenE d ∧ h' = h) := by
 unfold In64 at hd
 by_cases c : lenOk d = true
 ·have e : lenE d = tup2 (lenN d) 0 := by unfold lenE; rw [if_pos c]
  rw [e]
  have hl := lenN_eq c
  have e2 : ((lenN d + 1 : Nat) : Int) - 1 = lenN d := by omega
  rcases lenOk_cases c with rfl | rfl | rfl | rfl | rfl <;>
  ·refine zf hC tab71 ?_; simp only [B71]; refine zs ?_
   rfl
 ·have e : lenE d = tup2 0 2 := by unfold lenE; rw [if_neg c]
  rw [e]
  have h5 : d ≠ 5 := fun h => c (by rw [h]; decide)
  have h6 : d ≠ 6 := fun h => c (by rw [h]; decide)
  have h7 : d ≠ 7 := fun h => c (by rw [h]; decide)
  have h9 : d ≠ 9 := fun h => c (by rw [h]; decide)
  have h10 : d ≠ 10 := fun h => c (by rw [h]; decide)
  refine zf hC tab71 ?_; simp only [B71]; refine zs ?_
  rfl
end
end Go.Ae
/- Lists of samples: read, grown, filled. -/
set_option linter.unusedSimpArgs false
set_option linter.unusedVariables false
namespace Go.Ae
def AV.sameC : AV → AV → Bool
 | .agg a, .agg b => samesB a b
 | a, b => a.sameB b
def samesC : List AV → List AV → Bool
 | [], [] => true
 | a :: xs, b :: ys => a.sameC b && samesC xs ys
 | _, _ => false
def AV.sameR : AV → AV → Bool
 | .tuple a, .tuple b => samesC a b
 | a, b => a.sameC b
theorem sameC_eq {a b : AV} (h : a.sameC b = true) : a = b := by
 unfold AV.sameC at h
 split at h
 ·rw [samesB_eq h]
 ·exact sameB_eq h
theorem samesC_eq : ∀ {xs ys : List AV}, samesC xs ys = true → xs = ys
 | [], [], _ => rfl
 | a :: xs, b :: ys, h => by
  simp only [samesC, Bool.and_eq_true] at h
  rw [sameC_eq h.1, samesC_eq h.2]
 | [], _ :: _, h => by cases h
 | _ :: _, [], h => by cases h
theorem sameR_eq {a b : AV} (h : a.sameR b = true) : a = b := by
 unfold AV.sameR at h
 split at h
 ·rw [samesC_eq h]
 ·exact sameC_eq h
def runsAs (T : Nat → Option ABody) (fuel depth g : Nat) (args : List AV) (v : AV) : Bool :=
 match runCall T fuel depth (.func g [] []) args Heap.empty with
 | some (r, _) => r.sameR v
 | _ => false
theorem runsAs_sound {C : Ctx} {T : Nat → Option ABody} (hT : ∀ g b, T g = some b → C.body g = some b) {fuel depth g : Nat} {args : List AV} {v : AV} (hargs : ∀ a ∈ args, a.free) (hv : v.free) (hr : runsAs T fuel depth g args v = true) (h : Heap) :
  ACalls C g args h (fun r h' => r = v ∧ h' = h) := by
 unfold runsAs at hr
 split at hr
 ·rename_i r h1 he
  have er := sameR_eq hr
  have := runCall_sound hT fuel depth _ _ _ _ _ he
  have h2 : ACalls C g args Heap.empty (fun r' h'' => r' = r ∧ h'' = h1) := by simpa [callP] using this
  exact (h2.mono fun r h' q => q.1.trans er).lift hargs hv h
 ·cases hr
def smp (p : Int × Int) : AV := .agg [.int .i64 p.1, .int .i64 p.2]
theorem smp_free (p : Int × Int) : (smp p).free := by simp [smp, AV.free, AV.bel, AV.bels]
theorem getP_mem {l : List (Int × Int)} {k : Nat} (h : k < l.length) : l.getD k (0, 0) ∈ l := by
 rw [List.getD_eq_getElem?_getD, List.getElem?_eq_getElem h]; exact List.getElem_mem h
def elF (sz : Nat) (v : AV) (k off : Nat) : AV :=
 match v with
 | .slice i o _ _ => .ptr i (o + k * sz + off)
 | _ => .undef
section
variable {h h' h0 H : Heap} {v : AV} {l : List (Int × Int)} {n : Nat} {cs : List AV}
theorem SI.len (A : SI h v l) : lenA v = some (.int .i64 l.length) := SL.len A
theorem SI.cells (A : SI h v l) : v.cells = [v] := SL.cells A
theorem SI.one (A : SI h v l) : v.one = true := SL.one A
theorem SI.lt (A : SI h v l) : l.length < 9223372036854775808 := SL.lt A
theorem SI.mono (A : SI h v l) (hs : HSub h h') : SI h' v l := SL.mono A hs
theorem SI.content (A : SI h v l) : contentA h 2 v = some (l.length, smps l) := SL.content A
theorem SI.contentC (A : SI h v l) : ∀ (h' : Heap), HSub h h' → contentA h' 2 v = some (l.length, smps l) := fun _ hs => (A.mono hs).content
theorem SI.idx (A : SI h v l) {kk : IntKind} {k : Int} (hk : 0 ≤ k ∧ k < l.length) : idxA 2 v (.int kk k) = some (elA 2 v k.toNat) := SL.idx A hk
theorem smps_cut {k : Nat} (hk : k < l.length) : cut (smps l) (k * 2) 2 = [.int .i64 (l.getD k (0, 0)).1, .int .i64 (l.getD k (0, 0)).2] := by
 have e : l[k]? = some (l.getD k (0, 0)) := by simp [hk]
 have h0 := smps_get0 (l := l) (k := k)
 have h1 := smps_get1 (l := l) (k := k)
 rw [e] at h0 h1
 unfold cut
 obtain ⟨h0', e0⟩ := List.getElem?_eq_some_iff.1 h0
 obtain ⟨h1', e1⟩ := List.getElem?_eq_some_iff.1 h1
 rw [List.drop_eq_getElem_cons h0', List.drop_eq_getElem_cons h1', e0, e1]; rfl
theorem SI.loadA (A : SI h v l) {k : Nat} (hk : k < l.length) : Ae.loadA h true 2 (elA 2 v k) = some (smp (l.getD k (0, 0))) := by
 rw [SL.loadA A hk, smps_cut hk]; rfl
theorem SI.fld (A : SI h v l) : ∀ (k off : Nat), k < l.length → fieldAddrA off (elA 2 v k) = some (elF 2 v k off) := by
 intro k off hk
 obtain ⟨_, _, ⟨rfl, h1⟩ | ⟨i, o, c, vs, wr, u, rfl, _⟩⟩ := A
 ·omega
 ·rfl
theorem SI.load0 (A : SI h v l) {k : Nat} (hk : k < l.length) : Ae.loadA h false 1 (elF 2 v k 0) = some (.int .i64 (l.getD k (0, 0)).1) := by
 have e : l[k]? = some (l.getD k (0, 0)) := by simp [hk]
 obtain ⟨hl, hlt, ⟨rfl, h1⟩ | ⟨i, o, c, vs, wr, u, rfl, hg, hle, hc, _⟩⟩ := A
 ·omega
 ·have h2 := smps_get0 (l := l) (k := k)
  rw [← hc, cut, List.getElem?_take_of_lt (by omega), List.getElem?_drop, e] at h2
  simp only [elF, Ae.loadA, hg, partA, Bool.false_eq_true, if_false]
  rw [Nat.add_zero, h2]; rfl
theorem SI.load1 (A : SI h v l) {k : Nat} (hk : k < l.length) : Ae.loadA h false 1 (elF 2 v k 1) = some (.int .i64 (l.getD k (0, 0)).2) := by
 have e : l[k]? = some (l.getD k (0, 0)) := by simp [hk]
 obtain ⟨hl, hlt, ⟨rfl, h1⟩ | ⟨i, o, c, vs, wr, u, rfl, hg, hle, hc, _⟩⟩ := A
 ·omega
 ·have h2 := smps_get1 (l := l) (k := k)
  rw [← hc, cut, List.getElem?_take_of_lt (by omega), List.getElem?_drop, e] at h2
  simp only [elF, Ae.loadA, hg, partA, Bool.false_eq_true, if_false]
  rw [Nat.add_assoc, h2]; rfl
theorem smps_splice {k : Nat} {p : Int × Int} (hk : k < l.length) : splice (smps l) (k * 2) [.int .i64 p.1, .int .i64 p.2] = smps (l.set k p) := by
 unfold splice
 induction l generalizing k with
 | nil => simp at hk
 | cons q l ih =>
  cases k with
  | zero => simp [smps_cons]
  | succ k =>
   have := ih (k := k) (by simpa using hk)
   simp only [List.length_cons, List.length_nil] at this ⊢
   rw [smps_cons, List.set_cons_succ, smps_cons, ← this, show (k + 1) * 2 = k * 2 + 1 + 1 by omega]
   simp only [List.take_succ_cons, List.cons_append]
   rw [show k * 2 + 1 + 1 + (0 + 1 + 1) = k * 2 + (0 + 1 + 1) + 1 + 1 by omega, List.drop_succ_cons, List.drop_succ_cons]
theorem smps_drop {k : Nat} : (smps l).drop (k * 2) = smps (l.drop k) := by
 induction l generalizing k with
 | nil => simp [smps]
 | cons p l ih =>
  cases k with
  | zero => rfl
  | succ k => rw [smps_cons, List.drop_succ_cons, ← ih, show (k + 1) * 2 = k * 2 + 1 + 1 by omega]; rfl
theorem smps_replicate {p : Int × Int} {n : Nat} : zerosA n [.int .i64 p.1, .int .i64 p.2] = smps (List.replicate n p) := by
 induction n with
 | zero => rfl
 | succ n ih => rw [List.replicate_succ, smps_cons, ← ih]; simp [zerosA, List.replicate_succ]
def GrwS (h0 h : Heap) (v : AV) (l : List (Int × Int)) : Prop := Grw h0 h 2 v l.length (smps l)
theorem GrwS.si (A : GrwS h0 h v l) : SI h v l := Grw.sl A
theorem GrwS.sub (A : GrwS h0 h v l) : HSub h0 h := A.1
theorem GrwS.nil (h : Heap) : GrwS h h .nilslice [] := Grw.nil h 2
theorem GrwS.nil' (hs : HSub h0 h) : GrwS h0 h .nilslice [] := ⟨hs, by simp [smps], by simp, .inl ⟨rfl, rfl⟩⟩
theorem GrwS.mono (A : GrwS h0 h v l) (hs : HSub h H) : GrwS h0 H v l := Grw.mono A hs
theorem GrwS.base {h1 : Heap} (A : GrwS h h1 v l) (hs : HSub h0 h) : GrwS h0 h1 v l := Grw.base A hs
theorem GrwS.app {x y : Int} (A : GrwS h0 h v l) : ∀ (H : Heap), HSub h H → l.length + 1 ≤ 1073741824 → appendA H none 2 16 v 1 [.int .i64 x, .int .i64 y] = some (.slice H.size 0 (l.length + 1) (.unk 0), snocH H none v 2 (smps (l ++ [(x, y)]))) := by
 intro H hs hb
 rw [Grw.app A hs (by decide) (by omega) (by rfl), smps_snoc]
theorem GrwS.snoc {x y : Int} (A : GrwS h0 h v l) (hs : HSub h H) (hb : l.length + 1 ≤ 1073741824) : GrwS h0 (snocH H none v 2 (smps (l ++ [(x, y)]))) (.slice H.size 0 (l.length + 1) (.unk 0)) (l ++ [(x, y)]) := by
 have := Grw.snoc (news := [.int .i64 x, .int .i64 y]) (m := 1) A hs rfl (by omega)
 rw [smps_snoc] at this
 unfold GrwS; rw [List.length_append]; exact this
end
theorem contB_two {x y : AV} {u : Nat} {wr : Bool} : contB 1 2 0 (some (.cells [x, y] wr u)) = some (1, [x, y]) := rfl
section
variable {C : Ctx}
end
end Go.Ae
/- Steps of oscillators. -/
set_option linter.unusedSimpArgs false
set_option linter.unusedVariables false
namespace Go.Ae
theorem wrap_u32 (x : Int) : IntKind.u32.wrap x = x % 4294967296 := by
 show IntKind.wrap .u32 x = _
 simp [IntKind.wrap, IntKind.bits, IntKind.signed]
def stepBad (t p : Int) : Prop := t < -1073741824 ∨ 1073741824 < t ∨ p < 1 ∨ 1073741824 < p
instance (t p : Int) : Decidable (stepBad t p) := by unfold stepBad; infer_instance
section
variable {C : Ctx}
end
end Go.Ae
/- The examples of layer 11, run. -/
set_option linter.unusedSimpArgs false
set_option linter.unusedVariables false
namespace Go.Ae
section
variable {C : Ctx}
end
end Go.Ae
/- Phases, later oscillators, differences. -/
set_option linter.unusedSimpArgs false
set_option linter.unusedVariables false
namespace Go.Ae
def phI (a s n : Int) : Int := (a + s * (n % 4294967296)) % 4294967296
theorem phI_range (a s n : Int) : 0 ≤ phI a s n ∧ phI a s n < 4294967296 := ⟨Int.emod_nonneg _ (by decide), Int.emod_lt_of_pos _ (by decide)⟩
def U32 (x : Int) : Prop := 0 ≤ x ∧ x ≤ 4294967295
section
variable {C : Ctx}
end
end Go.Ae
/- The carrier's table, waves and mixes, in plain numbers. -/
set_option linter.unusedSimpArgs false
set_option linter.unusedVariables false
namespace Go.Ae
def quarterL : List Int := [127, 126, 125, 122, 117, 112, 106, 98, 90, 81, 71, 60, 49, 37, 25, 12, 0]
def carr (k : Nat) : Int × Int :=
 let a := quarterL.getD (k % 16) 0
 let b := quarterL.getD (16 - k % 16) 0
 match k / 16 with
 | 0 => (a, b)
 | 1 => (-b, a)
 | 2 => (-a, -b)
 | _ => (b, -a)
theorem carr_bound : (List.range 64).all (fun k => decide (-127 ≤ (carr k).1 ∧ (carr k).1 ≤ 127 ∧ -127 ≤ (carr k).2 ∧ (carr k).2 ≤ 127)) = true := by decide +kernel
theorem carr_le {k : Nat} (h : k < 64) : -127 ≤ (carr k).1 ∧ (carr k).1 ≤ 127 ∧ -127 ≤ (carr k).2 ∧ (carr k).2 ≤ 127 := by
 have := List.all_eq_true.1 carr_bound k (by simpa using h)
 simpa using this
def carP (ph : Int) : Int × Int := carr (ph / 67108864).toNat
theorem carP_le {ph : Int} (h : U32 ph) : -127 ≤ (carP ph).1 ∧ (carP ph).1 ≤ 127 ∧ -127 ≤ (carP ph).2 ∧ (carP ph).2 ≤ 127 := by
 unfold U32 at h
 exact carr_le (by omega)
theorem phI_u32 (a s n : Int) : U32 (phI a s n) := by have := phI_range a s n; unfold U32; omega
def smallP (x : Int × Int) : Prop := (-70368744177664 ≤ x.1 ∧ x.1 ≤ 70368744177664) ∧ (-70368744177664 ≤ x.2 ∧ x.2 ≤ 70368744177664)
instance (x : Int × Int) : Decidable (smallP x) := by unfold smallP; exact inferInstance
theorem mul_le127 {x t B : Int} (hx : -B ≤ x ∧ x ≤ B) (ht : -127 ≤ t ∧ t ≤ 127) : -(B * 127) ≤ x * t ∧ x * t ≤ B * 127 := by
 have hB : 0 ≤ B := by omega
 constructor
 ·have h1 : 0 ≤ (B + x) * (127 + t) := Int.mul_nonneg (by omega) (by omega)
  have h2 : 0 ≤ (B - x) * (127 - t) := Int.mul_nonneg (by omega) (by omega)
  have e1 : (B + x) * (127 + t) = B * 127 + B * t + x * 127 + x * t := by grind
  have e2 : (B - x) * (127 - t) = B * 127 - B * t - x * 127 + x * t := by grind
  omega
 ·have h1 : 0 ≤ (B + x) * (127 - t) := Int.mul_nonneg (by omega) (by omega)
  have h2 : 0 ≤ (B - x) * (127 + t) := Int.mul_nonneg (by omega) (by omega)
  have e1 : (B + x) * (127 - t) = B * 127 - B * t + x * 127 - x * t := by grind
  have e2 : (B - x) * (127 + t) = B * 127 + B * t - x * 127 - x * t := by grind
  omega
end Go.Ae
/- Plans, emitters and periods, in plain numbers. -/
set_option linter.unusedSimpArgs false
set_option linter.unusedVariables false
namespace Go.Ae
structure PlanP where
 d : Int
 o : Int
 pb : Int
 w : Int
 mn : Int
 mx : Int
 nz : Int
 prns : List Int
def PlanP.ok64 (p : PlanP) : Prop := In64 p.d ∧ In64 p.o ∧ In64 p.pb ∧ In64 p.w ∧ In64 p.mn ∧ In64 p.mx ∧ In64 p.nz ∧ ∀ x ∈ p.prns, In64 x
def PlI (h : Heap) (v : AV) (p : PlanP) : Prop := ∃ vp, v = .agg [.int .i64 p.d, .int .i64 p.o, .int .i64 p.pb, .int .i64 p.w, .int .i64 p.mn, .int .i64 p.mx, .int .i64 p.nz, vp] ∧ RI h vp p.prns
theorem PlI.mono {h h' : Heap} {v : AV} {p : PlanP} (H : PlI h v p) (hs : HSub h h') : PlI h' v p := by obtain ⟨vp, e, r⟩ := H; exact ⟨vp, e, r.mono hs⟩
def PlanP.numsOk (p : PlanP) : Prop := lenOk p.d = true ∧ (1 ≤ p.o ∧ p.o ≤ 8) ∧ (1 ≤ p.pb ∧ p.pb ≤ 20) ∧ (2 ≤ p.w ∧ p.w ≤ 10) ∧ (1 ≤ p.mn ∧ p.mn ≤ p.mx) ∧ p.mx ≤ 1000 ∧ (0 ≤ p.nz ∧ p.nz ≤ 100000)
instance (p : PlanP) : Decidable p.numsOk := by unfold PlanP.numsOk; exact inferInstance
def prnsErr (n : Int) : List Int → List Int → Int
 | _, [] => 0
 | seen, x :: xs => if ¬(1 ≤ x ∧ x ≤ n + 2) then 2 else if seen.any (fun y => x == y) = true then 8 else prnsErr n (seen ++ [x]) xs
def PlanP.err (p : PlanP) : Int := if p.numsOk then if p.prns.length = 0 then 3 else if 8 < p.prns.length then 4 else prnsErr (lenN p.d) [] p.prns else 2
theorem prnsErr_range (n : Int) : ∀ (xs seen : List Int), prnsErr n seen xs = 0 ∨ prnsErr n seen xs = 2 ∨ prnsErr n seen xs = 8
 | [], _ => .inl rfl
 | x :: xs, seen => by
  unfold prnsErr
  split
  ·exact .inr (.inl rfl)
  ·split
   ·exact .inr (.inr rfl)
   ·exact prnsErr_range n xs _
structure EmitP where
 prn : Int
 dl : Int
 rt : Int
 st : Int
 ph : Int
 amp : Int
 ba : Int
 bits : List Int
def EmitP.ok64 (e : EmitP) : Prop := In64 e.prn ∧ In64 e.dl ∧ In64 e.rt ∧ U32 e.st ∧ U32 e.ph ∧ In64 e.amp ∧ In64 e.ba ∧ ∀ x ∈ e.bits, In64 x
def EmI (h : Heap) (v : AV) (e : EmitP) : Prop := ∃ vb, v = .agg [.int .i64 e.prn, .int .i64 e.dl, .int .i64 e.rt, .int .u32 e.st, .int .u32 e.ph, .int .i64 e.amp, .int .i64 e.ba, vb] ∧ RI h vb e.bits
theorem EmI.mono {h h' : Heap} {v : AV} {p : EmitP} (H : EmI h v p) (hs : HSub h h') : EmI h' v p := by obtain ⟨vp, e, r⟩ := H; exact ⟨vp, e, r.mono hs⟩
def PlanP.size (p : PlanP) : Int := lenN p.d * p.o
def EmitP.numsOk (e : EmitP) (p : PlanP) : Prop := (0 ≤ e.dl ∧ e.dl < p.size) ∧ (-64 ≤ e.rt ∧ e.rt ≤ 64) ∧ (p.mn ≤ e.amp ∧ e.amp ≤ p.mx) ∧ (0 ≤ e.ba ∧ e.ba < p.pb)
instance (e : EmitP) (p : PlanP) : Decidable (e.numsOk p) := by unfold EmitP.numsOk; exact inferInstance
def emitErr (p : PlanP) (e : EmitP) : Int := if p.err = 0 then if (p.prns.any fun y => e.prn == y) = true then if e.numsOk p then if 10000 < e.bits.length then 4 else if e.bits.any (fun b => b != 0 && b != 1) = true then 3 else 0 else 2 else 18 else p.err
def stI (dl sz rt k : Int) : Int := dl + k * sz + k * rt / 1024
theorem st_le {dl sz rt k n : Int} (hd : 0 < 1024 * sz + rt) : stI dl sz rt k ≤ n ↔ k ≤ (1024 * (n - dl + 1) - 1) / (1024 * sz + rt) := by
 unfold stI
 rw [Int.le_ediv_iff_mul_le hd]
 have e : k * (1024 * sz + rt) = 1024 * (k * sz) + k * rt := by grind
 rw [e]
 generalize k * sz = A
 generalize k * rt = B
 omega
def plI (dl sz rt n : Int) : Int := (1024 * (n - dl + 1) - 1) / (1024 * sz + rt)
theorem pl_le {dl sz rt n : Int} (hd : 0 < 1024 * sz + rt) : stI dl sz rt (plI dl sz rt n) ≤ n := (st_le hd).2 (Int.le_refl _)
theorem pl_lt {dl sz rt n : Int} (hd : 0 < 1024 * sz + rt) : n < stI dl sz rt (plI dl sz rt n + 1) := by
 have h := (st_le (dl := dl) (n := n) (k := plI dl sz rt n + 1) hd).1
 rcases Int.lt_or_le n (stI dl sz rt (plI dl sz rt n + 1)) with x | x
 ·exact x
 ·have := h x
  unfold plI at this
  omega
theorem pl_of {dl sz rt n k : Int} (hd : 0 < 1024 * sz + rt) (h1 : stI dl sz rt k ≤ n) (h2 : n < stI dl sz rt (k + 1)) : k = plI dl sz rt n := by
 have a := (st_le hd).1 h1
 have b : ¬ k + 1 ≤ plI dl sz rt n := fun x => by
  have := (st_le (dl := dl) (n := n) hd).2 x
  omega
 unfold plI at b ⊢
 omega
theorem st_step {dl sz rt k : Int} (hr : -64 ≤ rt ∧ rt ≤ 64) : sz - 1 ≤ stI dl sz rt (k + 1) - stI dl sz rt k ∧ stI dl sz rt (k + 1) - stI dl sz rt k ≤ sz + 1 := by
 unfold stI
 have e1 : (k + 1) * sz = k * sz + sz := by grind
 have e2 : (k + 1) * rt = k * rt + rt := by grind
 rw [e1, e2]
 generalize k * sz = A
 generalize k * rt = B
 omega
def bitI (p : PlanP) (e : EmitP) (k : Int) : Int := if e.bits.length = 0 then 0 else e.bits.getD (((k - e.ba) / p.pb) % e.bits.length).toNat 0
end Go.Ae
/- Taps of the program and of the reference. -/
set_option linter.unusedSimpArgs false
set_option linter.unusedVariables false
namespace Go.Ae
def TapRows (b : Nat) (h : Heap) : Prop :=
 h.get b = some (.cells (ints [0, 2]) true 0) ∧ h.get (b + 1) = some (.cells (ints [0, 2, 3, 4]) true 0) ∧ h.get (b + 2) = some (.cells (ints [0, 1]) true 0) ∧ h.get (b + 3) = some (.cells (ints [0, 1, 2, 5]) true 0) ∧
 h.get (b + 4) = some (.cells (ints [0, 3]) true 0) ∧ h.get (b + 5) = some (.cells (ints [0, 1, 2, 3]) true 0) ∧ h.get (b + 6) = some (.cells (ints [0, 4]) true 0) ∧ h.get (b + 7) = some (.cells (ints [0, 3, 4, 6]) true 0) ∧
 h.get (b + 8) = some (.cells (ints [0, 3]) true 0) ∧ h.get (b + 9) = some (.cells (ints [0, 2, 3, 8]) true 0)
theorem TapRows.mono {b : Nat} {h h' : Heap} (T : TapRows b h) (hs : HSub h h') : TapRows b h' := by
 obtain ⟨a0, a1, a2, a3, a4, a5, a6, a7, a8, a9⟩ := T
 have k : ∀ {i x}, h.get i = some x → h'.get i = some x := fun e => (hs.get _ (Heap.lt_of_get e)).trans e
 exact ⟨k a0, k a1, k a2, k a3, k a4, k a5, k a6, k a7, k a8, k a9⟩
def tapTab (b : Nat) : AV := .agg [.int .i64 5, .slice b 0 2 (.known 2), .slice (b + 1) 0 4 (.known 4), .int .i64 6, .slice (b + 2) 0 2 (.known 2), .slice (b + 3) 0 4 (.known 4), .int .i64 7, .slice (b + 4) 0 2 (.known 2), .slice (b + 5) 0 4 (.known 4),
 .int .i64 9, .slice (b + 6) 0 2 (.known 2), .slice (b + 7) 0 4 (.known 4), .int .i64 10, .slice (b + 8) 0 2 (.known 2), .slice (b + 9) 0 4 (.known 4)]
section
variable {C : Ctx}
set_option maxRecDepth 100000 in
set_option maxHeartbeats 4000000 in
theorem Taps_spec (hC : Has C T72) {d w : Int} {h : Heap} (hd : In64 d) (hw : In64 w) : ACalls C 72 [.int .i64 d, .int .i64 w] h (fun r h' => ∃ v, r = lstErr v (tapsErr d w) ∧ HSub h h' ∧ RI h' v (if tapsErr d w = 0 then tapsL d w else [])) := by
 unfold In64 at hw
 by_cases c : lenOk d = true
 ·have e : lenE d = tup2 (lenN d) 0 := by unfold lenE; rw [if_pos c]
  by_cases cw : w = 1 ∨ w = 2
  ·have pe : tapsErr d w = 0 := by unfold tapsErr; rw [if_pos ⟨c, cw⟩]
   rw [pe]
   refine zf hC tab72 ?_; simp only [B72]; refine zs ?_
   refine ACallsK.eq2 (Length_spec (zu hC T70) hd) e ?_
   refine zs1 @tup2.eq_1 ?_
   refine wp_loopI (fun j t h' => ∃ i : Nat, i ≤ 4 ∧ HSub h h' ∧ TapRows h.size h' ∧ t 0 = .int .i64 d ∧ t 1 = .int .i64 w ∧ t 46 = tapTab h.size ∧ t 47 = .int .i64 (i : Nat) ∧ (∀ y ∈ ([5, 6, 7, 9, 10] : List Int).take i, d ≠ y) ∧ j = 5 - i) (j0 := 5)
    ⟨0, by omega, ?_, ?_, rfl, rfl, rfl, rfl, by simp, rfl⟩ ?_
   ·(repeat (first | exact HSub.refl _ | refine HSub.push ?_ _))
   ·refine ⟨?_, ?_, ?_, ?_, ?_, ?_, ?_, ?_, ?_, ?_⟩ <;> (refine zs ?_; try rfl)
   rintro j t h' ⟨i, hi, hs, T, e0, e1, e46, e47, hne, hj⟩
   unfold tapTab at e46
   rcases (show i = 0 ∨ i = 1 ∨ i = 2 ∨ i = 3 ∨ i = 4 by omega) with rfl | rfl | rfl | rfl | rfl
   ·by_cases cd : d = 5
    ·subst cd
     rcases cw with rfl | rfl
     ·refine zs5 @e0 @e1 @e46 @e47 @idxVal_agg ?_
      exact ⟨.slice (h.size + 0) 0 2 (.known 2), by simp [lstErr], hs.push _, RI.known ((get_push_lt (Heap.lt_of_get T.1)).trans T.1) ⟨rfl, by decide⟩ (by decide)⟩
     ·refine zs5 @e0 @e1 @e46 @e47 @idxVal_agg ?_
      exact ⟨.slice (h.size + 1) 0 4 (.known 4), by simp [lstErr], hs.push _, RI.known ((get_push_lt (Heap.lt_of_get T.2.1)).trans T.2.1) ⟨rfl, by decide⟩ (by decide)⟩
    ·refine zs5 @e0 @e1 @e46 @e47 @idxVal_agg ?_
     exact ⟨_, ⟨1, by omega, hs.push _, T.mono (HSub.push1 _ _), rfl, by simp, fun y hy => (by have hn := hne; simp at hn hy; omega), rfl⟩, by omega⟩
   ·by_cases cd : d = 6
    ·subst cd
     rcases cw with rfl | rfl
     ·refine zs5 @e0 @e1 @e46 @e47 @idxVal_agg ?_
      exact ⟨.slice (h.size + 2) 0 2 (.known 2), by simp [lstErr], hs.push _, RI.known ((get_push_lt (Heap.lt_of_get T.2.2.1)).trans T.2.2.1) ⟨rfl, by decide⟩ (by decide)⟩
     ·refine zs5 @e0 @e1 @e46 @e47 @idxVal_agg ?_
      exact ⟨.slice (h.size + 3) 0 4 (.known 4), by simp [lstErr], hs.push _, RI.known ((get_push_lt (Heap.lt_of_get T.2.2.2.1)).trans T.2.2.2.1) ⟨rfl, by decide⟩ (by decide)⟩
    ·refine zs5 @e0 @e1 @e46 @e47 @idxVal_agg ?_
     exact ⟨_, ⟨2, by omega, hs.push _, T.mono (HSub.push1 _ _), rfl, by simp, fun y hy => (by have hn := hne; simp at hn hy; omega), rfl⟩, by omega⟩
   ·by_cases cd : d = 7
    ·subst cd
     rcases cw with rfl | rfl
     ·refine zs5 @e0 @e1 @e46 @e47 @idxVal_agg ?_
      exact ⟨.slice (h.size + 4) 0 2 (.known 2), by simp [lstErr], hs.push _, RI.known ((get_push_lt (Heap.lt_of_get T.2.2.2.2.1)).trans T.2.2.2.2.1) ⟨rfl, by decide⟩ (by decide)⟩
     ·refine zs5 @e0 @e1 @e46 @e47 @idxVal_agg ?_
      exact ⟨.slice (h.size + 5) 0 4 (.known 4), by simp [lstErr], hs.push _, RI.known ((get_push_lt (Heap.lt_of_get T.2.2.2.2.2.1)).trans T.2.2.2.2.2.1) ⟨rfl, by decide⟩ (by decide)⟩
    ·refine zs5 @e0 @e1 @e46 @e47 @idxVal_agg ?_
     exact ⟨_, ⟨3, by omega, hs.push _, T.mono (HSub.push1 _ _), rfl, by simp, fun y hy => (by have hn := hne; simp at hn hy; omega), rfl⟩, by omega⟩
   ·by_cases cd : d = 9
    ·subst cd
     rcases cw with rfl | rfl
     ·refine zs5 @e0 @e1 @e46 @e47 @idxVal_agg ?_
      exact ⟨.slice (h.size + 6) 0 2 (.known 2), by simp [lstErr], hs.push _, RI.known ((get_push_lt (Heap.lt_of_get T.2.2.2.2.2.2.1)).trans T.2.2.2.2.2.2.1) ⟨rfl, by decide⟩ (by decide)⟩
     ·refine zs5 @e0 @e1 @e46 @e47 @idxVal_agg ?_
      exact ⟨.slice (h.size + 7) 0 4 (.known 4), by simp [lstErr], hs.push _, RI.known ((get_push_lt (Heap.lt_of_get T.2.2.2.2.2.2.2.1)).trans T.2.2.2.2.2.2.2.1) ⟨rfl, by decide⟩ (by decide)⟩
    ·refine zs5 @e0 @e1 @e46 @e47 @idxVal_agg ?_
     exact ⟨_, ⟨4, by omega, hs.push _, T.mono (HSub.push1 _ _), rfl, by simp, fun y hy => (by have hn := hne; simp at hn hy; omega), rfl⟩, by omega⟩
   ·by_cases cd : d = 10
    ·subst cd
     rcases cw with rfl | rfl
     ·refine zs5 @e0 @e1 @e46 @e47 @idxVal_agg ?_
      exact ⟨.slice (h.size + 8) 0 2 (.known 2), by simp [lstErr], hs.push _, RI.known ((get_push_lt (Heap.lt_of_get T.2.2.2.2.2.2.2.2.1)).trans T.2.2.2.2.2.2.2.2.1) ⟨rfl, by decide⟩ (by decide)⟩
     ·refine zs5 @e0 @e1 @e46 @e47 @idxVal_agg ?_
      exact ⟨.slice (h.size + 9) 0 4 (.known 4), by simp [lstErr], hs.push _, RI.known ((get_push_lt (Heap.lt_of_get T.2.2.2.2.2.2.2.2.2)).trans T.2.2.2.2.2.2.2.2.2) ⟨rfl, by decide⟩ (by decide)⟩
    ·exfalso
     rcases lenOk_cases c with h | h | h | h | h <;> simp_all
  ·have pe : tapsErr d w = 2 := by unfold tapsErr; rw [if_neg (fun h => cw h.2)]
   rw [pe]
   refine zf hC tab72 ?_; simp only [B72]; refine zs ?_
   refine ACallsK.eq2 (Length_spec (zu hC T70) hd) e ?_
   refine zs1 @tup2.eq_1 ?_
   (repeat' (first | (refine Br.by (fun _ => ?_) (fun _ => ?_)) | (refine zs ?_)))
   all_goals first | exact ⟨.nilslice, by rw [lstErr], HSub.refl _, RI.nil⟩ | omega
 ·have e : lenE d = tup2 0 2 := by unfold lenE; rw [if_neg c]
  have pe : tapsErr d w = 2 := by unfold tapsErr; rw [if_neg (fun h => c h.1)]
  rw [pe]
  refine zf hC tab72 ?_; simp only [B72]; refine zs ?_
  refine ACallsK.eq2 (Length_spec (zu hC T70) hd) e ?_
  refine zs1 @tup2.eq_1 ?_
  exact ⟨.nilslice, by rw [lstErr], HSub.refl _, RI.nil⟩
end
end Go.Ae
/- Taps of the reference. -/
set_option linter.unusedSimpArgs false
set_option linter.unusedVariables false
namespace Go.Ae
section
variable {C : Ctx}
set_option maxRecDepth 100000 in
theorem Taps08_spec (hC : Has C T73) {d w : Int} {h : Heap} (hd : In64 d) (hw : In64 w) : ACalls C 73 [.int .i64 d, .int .i64 w] h (fun r h' => ∃ v, r = lstErr v (tapsErr d w) ∧ HSub h h' ∧ RI h' v (if tapsErr d w = 0 then tapsL d w else [])) := by
 have hw' := hw
 unfold In64 at hw'
 by_cases c : lenOk d = true
 ·have e : lenE d = tup2 (lenN d) 0 := by unfold lenE; rw [if_pos c]
  by_cases cw : w = 1 ∨ w = 2
  ·have pe : tapsErr d w = 0 := by unfold tapsErr; rw [if_pos ⟨c, cw⟩]
   rw [pe]
   have fin : ∀ {l : List Int}, l = tapsL d w → l.length < 9223372036854775808 → ∃ v, AV.tuple [.slice h.size 0 l.length (.known l.length), .int .i64 0] = lstErr v 0 ∧ HSub h (h.push (.cells (ints l) true 0)) ∧ RI (h.push (.cells (ints l) true 0)) v (if (0 : Int) = 0 then tapsL d w else []) := by
    rintro l rfl hl
    exact ⟨_, rfl, HSub.push1 _ _, by rw [if_pos rfl]; exact RI.known (get_push_eq rfl) ⟨rfl, hl⟩ (Nat.le_refl _)⟩
   rcases lenOk_cases c with rfl | rfl | rfl | rfl | rfl <;> rcases cw with rfl | rfl <;>
   ·refine zf hC tab73 ?_; simp only [B73]; refine zs ?_
    refine ACallsK.eq2 (Length08_spec (zu hC T71) hd) e ?_
    refine zs1 @tup2.eq_1 ?_
    exact fin (l := tapsL _ _) rfl (by decide)
  ·have pe : tapsErr d w = 2 := by unfold tapsErr; rw [if_neg (fun h => cw h.2)]
   rw [pe]
   refine zf hC tab73 ?_; simp only [B73]; refine zs ?_
   refine ACallsK.eq2 (Length08_spec (zu hC T71) hd) e ?_
   refine zs1 @tup2.eq_1 ?_
   (repeat' (first | (refine Br.by (fun _ => ?_) (fun _ => ?_)) | ((refine zs ?_; try with_reducible trivial))))
   all_goals first | exact ⟨.nilslice, by rw [lstErr], HSub.refl _, RI.nil⟩ | omega
 ·have e : lenE d = tup2 0 2 := by unfold lenE; rw [if_neg c]
  have pe : tapsErr d w = 2 := by unfold tapsErr; rw [if_neg (fun h => c h.1)]
  rw [pe]
  refine zf hC tab73 ?_; simp only [B73]; refine zs ?_
  refine ACallsK.eq2 (Length08_spec (zu hC T71) hd) e ?_
  refine zs1 @tup2.eq_1 ?_
  exact ⟨.nilslice, by rw [lstErr], HSub.refl _, RI.nil⟩
end
end Go.Ae
/- Repeat of Go's slices package, on one number; the sequences of the registers. -/
set_option linter.unusedSimpArgs false
set_option linter.unusedVariables false
namespace Go.Ae
theorem nat64 {n : Nat} (h : n < 18446744073709551616) : (BitVec.ofInt 64 (n : Int)).toNat = n := by
 rw [BitVec.toNat_ofInt]
 have : ((n : Int) % ((2 ^ 64 : Nat) : Int)).toNat = n := by
  rw [Int.emod_eq_of_lt (by omega) (by omega)]; simp
 exact this
theorem and_u64m {a : Int} (h : 0 ≤ a ∧ a < 18446744073709551616) : bitsA .and .u64 a 4294967295 = a % 4294967296 := by
 obtain ⟨n, rfl⟩ := Int.eq_ofNat_of_zero_le h.1
 show IntKind.u64.wrap ((BitVec.ofInt 64 (n : Int) &&& BitVec.ofInt 64 ((4294967295 : Nat) : Int)).toNat : Int) = _
 rw [BitVec.toNat_and, nat64 (by omega), nat64 (by decide)]
 have e : n &&& 4294967295 = n % 4294967296 := Nat.and_two_pow_sub_one_eq_mod n 32
 rw [e, w_u64 (by omega)]; omega
theorem copy_slice {h : Heap} {i o n u : Nat} {c : Cap} {s : AV} {m : Nat} {cs vs : List AV} (hc : contentA h 1 s = some (m, cs)) (hg : h.get i = some (.cells vs true u)) (hb : o + min m n ≤ vs.length) (h1 : (cs.take (min m n)).all AV.one = true) :
  copyA h 1 (.slice i o n c) s = some (.int .i64 (min m n : Nat), h.put i (.cells (splice vs o (cs.take (min m n))) true u)) := by
 simp only [copyA, hc, hg, Nat.mul_one]
 rw [if_pos ⟨hb, h1⟩]
def ones01 (x : Int) (n p : Nat) : List Int := List.replicate p x ++ List.replicate (n - p) 0
theorem ones01_length {x : Int} {n p : Nat} (h : p ≤ n) : (ones01 x n p).length = n := by simp [ones01]; omega
theorem splice_gen {vs cs : List AV} {o : Nat} (h : o + cs.length ≤ vs.length) : splice vs o cs = vs.take o ++ cs ++ vs.drop (o + cs.length) := by
 match cs, h with
 | [], _ => rfl
 | [c], h =>
  rw [splice_one, List.set_eq_take_append_cons_drop, if_pos (by simp at h; omega)]
  simp
 | x :: y :: cs, _ => rfl
theorem ones01_splice {x : Int} {n p k : Nat} (h : p + k ≤ n) : splice (ints (ones01 x n p)) p (ints (List.replicate k x)) = ints (ones01 x n (p + k)) := by
 rw [splice_gen (by rw [ints_length, ints_length, ones01_length (by omega), List.length_replicate]; exact h)]
 unfold ones01 ints
 have e1 : (List.replicate p x ++ List.replicate (n - p) (0 : Int)).take p = List.replicate p x := by simp
 have e2 : (List.replicate p x ++ List.replicate (n - p) (0 : Int)).drop (p + k) = List.replicate (n - (p + k)) 0 := by
  rw [List.drop_append]; simp; omega
 have e3 : (List.map (AV.int .i64) (List.replicate k x)).length = k := by simp
 rw [e3, ← List.map_take, ← List.map_drop, e1, e2, ← List.map_append, ← List.map_append, List.replicate_append_replicate]
section
variable {C : Ctx}
theorem Mul64_spec (hC : Has C T105) {a b : Int} {h : Heap} (ha : 0 ≤ a ∧ a < 4294967296) (hb : 0 ≤ b ∧ b < 4294967296) (hab : 0 ≤ a * b ∧ a * b < 4294967296) : ACalls C 105 [.int .u64 a, .int .u64 b] h (fun r h' => r = .tuple [.int .u64 0, .int .u64 (a * b)] ∧ h' = h) := by
 have e1 : a % 4294967296 = a := Int.emod_eq_of_lt ha.1 ha.2
 have e2 : b % 4294967296 = b := Int.emod_eq_of_lt hb.1 hb.2
 have e3 : a / 4294967296 = 0 := Int.ediv_eq_zero_of_lt ha.1 ha.2
 have e4 : b / 4294967296 = 0 := Int.ediv_eq_zero_of_lt hb.1 hb.2
 have e5 : a * b / 4294967296 = 0 := Int.ediv_eq_zero_of_lt hab.1 hab.2
 refine zf hC tab105 ?_; simp only [B105]; exact ze11 @and_u64m @e1 @e2 @e3 @e4 @e5 @Int.zero_mul @Int.mul_zero @Int.add_zero @Int.zero_ediv @Int.zero_emod
theorem Mul_spec (hC : Has C T100) {a b : Int} {h : Heap} (ha : 0 ≤ a ∧ a < 4294967296) (hb : 0 ≤ b ∧ b < 4294967296) (hab : 0 ≤ a * b ∧ a * b < 4294967296) : ACalls C 100 [.int .u64 a, .int .u64 b] h (fun r h' => r = .tuple [.int .u64 0, .int .u64 (a * b)] ∧ h' = h) := by
 refine zf hC tab100 ?_; simp only [B100]; refine zs ?_
 refine ACallsK.eq (Mul64_spec (zu hC T105) ha hb hab) ?_
 exact ze
set_option maxHeartbeats 1000000 in
theorem Repeat_spec (hC : Has C T90) {v : AV} {x : Int} {n : Nat} {h : Heap} (hv : RI h v [x]) (hn : 1 ≤ n ∧ n ≤ 1000000) : ACalls C 90 [v, .int .i64 (n : Nat)] h (fun r h' => Fresh h h' r (List.replicate n x)) := by
 have hcv := (hv.mono (HSub.push1 h (.cells (ints (List.replicate n 0)) true 0))).content
 have m1 : min 1 n = 1 := by omega
 have es : splice (ints (List.replicate n 0)) 0 ((ints [x]).take (min [x].length n)) = ints (ones01 x n 1) := by
  have h0 : ints (List.replicate n 0) = ints (ones01 x n 0) := by simp [ones01]
  have h1 : (ints [x]).take (min [x].length n) = ints (List.replicate 1 x) := by show (ints [x]).take (min 1 n) = _; rw [m1]; rfl
  rw [h1, h0, ones01_splice (by omega)]
 have hcp := copy_slice (h := h.push (.cells (ints (List.replicate n 0)) true 0)) (i := h.size) (o := 0) (n := n) (c := .known n) (u := 0) hcv (get_push_eq rfl) (by simp [ints]; omega) (by show ((ints [x]).take (min 1 n)).all AV.one = true; rw [m1]; rfl)
 rw [es] at hcp
 have hcp : copyA (h.push (.cells (ints (List.replicate n 0)) true 0)) 1 (.slice h.size 0 n (.known n)) v = some (.int .i64 ((1 : Nat) : Int), (h.push (.cells (ints (List.replicate n 0)) true 0)).put h.size (.cells (ints (ones01 x n 1)) true 0)) := by
  have : min [x].length n = 1 := m1
  rw [this] at hcp; exact hcp
 have m3 : (1 : Int) * (n : Int) = (n : Int) := Int.one_mul _
 refine zf hC tab90 ?_; simp only [B90]; refine zs1 @hv.len ?_
 refine ACallsK.eq (Mul_spec (zu hC T100) (a := 1) (b := (n : Int)) (by decide) (by omega) (by omega)) ?_
 refine zs3 @m3 @ints_replicate @hcp ?_
 have s1 : ∀ (H : Heap) (p : Nat), p < n → sliceA H 1 (.slice h.size 0 n (.known n)) (some (.int .i64 p)) none none = some (.slice h.size p (n - p) (.known (n - p))) := by
  intro H p hp
  simp only [sliceA]
  rw [bounds_ok (a := p) (b := n) (c := n) rfl rfl rfl (by omega)]
  simp only
  rw [if_neg (by omega)]; simp
 have s2 : ∀ (H : Heap) (p : Nat), p < n → sliceA H 1 (.slice h.size 0 n (.known n)) none (some (.int .i64 p)) none = some (.slice h.size 0 p (.known n)) := by
  intro H p hp
  simp only [sliceA]
  rw [bounds_ok (a := 0) (b := p) (c := n) rfl rfl rfl (by omega)]
  simp only
  rw [if_neg (by omega)]; simp
 refine wp_loopI (fun j t h' => ∃ p : Nat, HSub h h' ∧ h'.get h.size = some (.cells (ints (ones01 x n p)) true 0) ∧ t 7 = .slice h.size 0 n (.known n) ∧ t 8 = .int .i64 (p : Nat) ∧ 1 ≤ p ∧ p ≤ n ∧ j = n - p) (j0 := n - 1)
  ⟨1, HSub.push1 _ _, get_push_eq rfl, rfl, rfl, by omega, by omega, rfl⟩ ?_
 rintro j t h' ⟨p, hs, hg, e7, e8, hp1, hp2, hj⟩
 refine zs2 @e7 @e8 ?_
 refine Br.by (fun c => ?_) (fun c => ?_)
 ·have hp : p < n := by omega
  have hol := ones01_length (x := x) (n := n) (p := p) hp2
  have hgr : (h'.reserve 10).get h.size = some (.cells (ints (ones01 x n p)) true 0) := hg
  have hc2 : contentA (h'.reserve 10) 1 (.slice h.size 0 p (.known n)) = some (p, ints (List.replicate p x)) := by
   rw [cont_slice, hgr, contB_some (by rw [ints_length, hol]; omega)]
   congr 2
   rw [Nat.mul_one, ints_cut]; congr 1
   simp [ones01]
  have hk : p + min p (n - p) ≤ n := by omega
  have h3 := copy_slice (h := h'.reserve 10) (i := h.size) (o := p) (n := n - p) (c := .known (n - p)) (u := 0) hc2 hgr (by rw [ints_length, hol]; exact hk) (by unfold ints; rw [← List.map_take]; exact ints_one)
  have h4 : (ints (List.replicate p x)).take (min p (n - p)) = ints (List.replicate (min p (n - p)) x) := by unfold ints; rw [← List.map_take, List.take_replicate]; congr 2; omega
  rw [h4, ones01_splice hk] at h3
  refine zs5 @e7 @e8 @s1 @s2 @h3 ?_
  refine ⟨_, ⟨p + min p (n - p), ?_, ?_, by omega, by omega, by omega, rfl⟩, by omega⟩
  ·exact (hs.reserve _).put (Nat.le_refl _) _
  ·exact get_put_eq rfl (Heap.lt_of_get hgr)
 ·have : p = n := by omega
  subst this
  refine zs1 @e7 ?_
  have : ones01 x p p = List.replicate p x := by simp [ones01]
  rw [this] at hg
  exact ⟨hs, by simp; omega, h.size, Nat.le_refl _, by simp, hg⟩
end
end Go.Ae
/- The sequences of the degrees. -/
set_option linter.unusedSimpArgs false
set_option linter.unusedVariables false
namespace Go.Ae
def onesL (d : Int) : List Int := List.replicate d.toNat 1
def bitsL (d w : Int) : List Int := runL (tapsL d w) (onesL d) (lenN d)
theorem bitsL_length (d w : Int) : (bitsL d w).length = lenN d := runL_length _ _ _
theorem reg_ok {d w : Int} (hd : lenOk d = true) (hw : w = 1 ∨ w = 2) : regErr d (tapsL d w) (onesL d) = 0 := by
 rcases lenOk_cases hd with rfl | rfl | rfl | rfl | rfl <;> rcases hw with rfl | rfl <;> decide
theorem bitsL_01 {d w : Int} : ∀ x ∈ bitsL d w, x = 0 ∨ x = 1 := by
 intro x hx
 obtain ⟨k, _, rfl⟩ := List.mem_map.1 hx
 exact seqB_01 (fun y hy => .inr (List.mem_replicate.1 hy).2) k
section
variable {C : Ctx}
set_option maxRecDepth 100000 in
theorem Bits_spec (hC : Has C T74) {d w : Int} {h : Heap} (hd : In64 d) (hw : In64 w) : ACalls C 74 [.int .i64 d, .int .i64 w] h (fun r h' => ∃ v, r = lstErr v (tapsErr d w) ∧ HSub h h' ∧ RI h' v (if tapsErr d w = 0 then bitsL d w else []) ∧ (tapsErr d w = 0 → Fresh h h' v (bitsL d w))) := by
 by_cases c : lenOk d = true ∧ (w = 1 ∨ w = 2)
 ·have pe : tapsErr d w = 0 := by unfold tapsErr; rw [if_pos c]
  have hl := lenN_eq c.1
  have hr := reg_ok c.1 c.2
  have hd5 : 5 ≤ d ∧ d ≤ 10 := by have := lenOk_cases c.1; omega
  have hT := Taps_spec (d := d) (w := w) (h := h) (zu hC T72) hd hw
  rw [pe, if_pos rfl] at hT
  rw [pe]
  obtain ⟨k, rfl⟩ := Int.eq_ofNat_of_zero_le (show 0 ≤ d by omega)
  have re : runErr (k : Nat) (tapsL (k : Nat) w) (onesL (k : Nat)) (lenN (k : Nat)) = 0 := by unfold runErr; rw [if_pos hr, if_neg (by omega)]
  refine zf hC tab74 ?_; simp only [B74]; refine zs ?_
  refine ACallsK.of hT ?_
  rintro r h1 ⟨v1, rfl, s1, R1⟩
  have h22 : (2 : Int) ^ k = ((lenN (k : Nat) + 1 : Nat) : Int) := by have := hl.2.2; rwa [Int.toNat_natCast] at this
  have e3 : ((lenN (k : Nat) + 1 : Nat) : Int) - 1 = lenN (k : Nat) := by omega
  refine zs5 @lstErr.eq_1 @Int.one_mul @h22 @e3 @Heap.wf ?_
  have eo : onesL ((k : Nat) : Int) = List.replicate k 1 := by simp [onesL]
  have hsH : HSub h1 ((h1.reserve 13).put (h1.size + 2) (.cells [.int .i64 1] true 0)) := ((HSub.refl _).reserve _).put (by omega) _
  refine ACallsK.of (Repeat_spec (zu hC T90) (x := 1) (n := k) (RI.known (get_put_eq rfl (by simp)) ⟨rfl, by decide⟩ (by decide)) (by omega)) ?_
  rintro r h2 F
  have s2 := F.sub
  have s02 := s1.trans (hsH.trans s2)
  have hR := Run_spec (m := (lenN (k : Nat) : Int)) (h := h2) (zu hC T81) (R1.mono (hsH.trans s2)) (w := onesL (k : Nat)) (n := (k : Nat)) (by rw [eo]; exact F.ri) (by unfold In64; omega)
  rw [re] at hR
  refine zs3 @h22 @e3 @Int.one_mul ?_
  refine ACallsK.of hR ?_
  rintro r h3 ⟨v3, rfl, s3, R3, F3⟩
  refine zs1 @lstErr.eq_1 ?_
  have F3 := F3 rfl
  have : (lenN (k : Nat) : Int).toNat = lenN (k : Nat) := Int.toNat_natCast _
  rw [this] at F3
  exact ⟨v3, rfl, s02.trans s3, by rw [if_pos trivial]; exact F3.ri, fun _ => F3.mono s02⟩
 ·have pe : tapsErr d w = 2 := by unfold tapsErr; rw [if_neg c]
  have hT := Taps_spec (d := d) (w := w) (h := h) (zu hC T72) hd hw
  rw [pe] at hT
  rw [pe]
  refine zf hC tab74 ?_; simp only [B74]; refine zs ?_
  refine ACallsK.of hT ?_
  rintro r h1 ⟨v1, rfl, s1, R1⟩
  refine zs1 @lstErr.eq_1 ?_
  exact ⟨.nilslice, rfl, s1, by rw [if_neg id]; exact RI.nil⟩
set_option maxRecDepth 100000 in
theorem Bits08_spec (hC : Has C T75) {d w : Int} {h : Heap} (hd : In64 d) (hw : In64 w) : ACalls C 75 [.int .i64 d, .int .i64 w] h (fun r h' => ∃ v, r = lstErr v (tapsErr d w) ∧ HSub h h' ∧ RI h' v (if tapsErr d w = 0 then bitsL d w else [])) := by
 by_cases c : lenOk d = true ∧ (w = 1 ∨ w = 2)
 ·have pe : tapsErr d w = 0 := by unfold tapsErr; rw [if_pos c]
  have hl := lenN_eq c.1
  have hr := reg_ok c.1 c.2
  have hd5 : 5 ≤ d ∧ d ≤ 10 := by have := lenOk_cases c.1; omega
  have hT := Taps08_spec (d := d) (w := w) (h := h) (zu hC T73) hd hw
  rw [pe, if_pos rfl] at hT
  have eL : lenE d = tup2 (lenN d) 0 := by unfold lenE; rw [if_pos c.1]
  rw [pe]
  obtain ⟨k, rfl⟩ := Int.eq_ofNat_of_zero_le (show 0 ≤ d by omega)
  obtain ⟨kk, hkk, R⟩ := regErr_ok hr
  have : kk = k := by omega
  subst this
  refine zf hC tab75 ?_; simp only [B75]; refine zs ?_
  refine ACallsK.of hT ?_
  rintro r h1 ⟨v1, rfl, s1, R1⟩
  refine zs1 @lstErr.eq_1 ?_
  refine ACallsK.eq2 (Length08_spec (zu hC T71) hd) eL ?_
  refine zs2 @tup2.eq_1 @ints_replicate ?_
  have hol : ∀ p, p ≤ kk → (ones01 1 kk p).length = kk := fun p hp => ones01_length hp
  refine wp_loopI (fun j t h' => ∃ p : Nat, h' = h1.push (.cells (ints (ones01 1 kk p)) true 0) ∧ t 0 = .int .i64 (kk : Nat) ∧ t 6 = v1 ∧ t 8 = .int .i64 (lenN (kk : Nat)) ∧ t 10 = .slice h1.size 0 kk (.known kk) ∧ t 11 = .int .i64 (p : Nat) ∧ p ≤ kk ∧ j = kk - p) (j0 := kk)
   ⟨0, by simp [ones01], rfl, rfl, rfl, rfl, rfl, by omega, rfl⟩ ?_
  rintro j t h' ⟨p, rfl, e0, e6, e8, e10, e11, hp, hj⟩
  have holp := hol p hp
  refine zs2 @e0 @e11 ?_
  refine Br.by (fun c1 => ?_) (fun c1 => ?_)
  ·have hset : (ones01 1 kk p).set p 1 = ones01 1 kk (p + 1) := by
    unfold ones01
    rw [List.set_append_right _ _ (by simp), List.length_replicate, Nat.sub_self, show kk - p = kk - (p + 1) + 1 by omega, List.replicate_succ, List.set_cons_zero]
    rw [show List.replicate (p + 1) (1 : Int) = List.replicate p 1 ++ [1] from List.replicate_succ', List.append_assoc]; rfl
   refine zs6 @e0 @e6 @e8 @e10 @e11 @hset ?_
   exact ⟨_, ⟨p + 1, rfl, by simp, by omega, rfl⟩, by omega⟩
  ·have : p = kk := by omega
   subst this
   have eo : ones01 1 p p = onesL (p : Nat) := by simp [ones01, onesL]
   rw [eo] at holp ⊢
   have RO : RI (h1.push (.cells (ints (onesL (p : Nat))) true 0)) (.slice h1.size 0 p (.known p)) (onesL (p : Nat)) := RI.known (get_push_eq rfl) ⟨by rw [holp], by omega⟩ (by omega)
   refine zs4 @e0 @e6 @e8 @e10 ?_
   refine ACallsK.of (run08_spec (zu hC T91) (m := (lenN (p : Nat) : Int)) (R1.mono (HSub.push1 _ _)) RO R (by omega) (by unfold In64; omega)) ?_
   rintro r h3 ⟨L, A, hL1, hL2, hL3⟩
   have RA := A.ri
   have rl := runL_length (tapsL (p : Nat) w) (onesL (p : Nat)) L
   have Pa := RA.part_b (k2 := .i64) (b := (lenN (p : Nat) : Int)) (by omega)
   obtain ⟨wa, ea, Rwa⟩ := Pa
   refine zs2 @e8 @ea ?_
   refine ⟨wa, rfl, (s1.trans (HSub.push1 _ _)).trans A.sub, ?_⟩
   rw [Int.toNat_natCast, runL_take (by omega)] at Rwa
   rw [if_pos trivial]; exact Rwa
 ·have pe : tapsErr d w = 2 := by unfold tapsErr; rw [if_neg c]
  have hT := Taps08_spec (d := d) (w := w) (h := h) (zu hC T73) hd hw
  rw [pe] at hT
  rw [pe]
  refine zf hC tab75 ?_; simp only [B75]; refine zs ?_
  refine ACallsK.of hT ?_
  rintro r h1 ⟨v1, rfl, s1, R1⟩
  refine zs1 @lstErr.eq_1 ?_
  exact ⟨.nilslice, rfl, s1, by rw [if_neg id]; exact RI.nil⟩
end
end Go.Ae
/- The codes. -/
set_option linter.unusedSimpArgs false
set_option linter.unusedVariables false
namespace Go.Ae
def codeB (d p : Int) (i : Nat) : Int :=
 if p = 1 then (bitsL d 1).getD i 0 else if p = 2 then (bitsL d 2).getD i 0 else ((bitsL d 1).getD i 0 + (bitsL d 2).getD ((i + (p - 3).toNat) % lenN d) 0) % 2
def bitC (d p : Int) : List Int := (List.range (lenN d)).map (codeB d p)
def codeL (d p : Int) : List Int := (bitC d p).map fun b => 1 - 2 * b
def codeErr (d p : Int) : Int := if lenOk d = true ∧ 1 ≤ p ∧ p ≤ lenN d + 2 then 0 else 2
theorem bitC_length (d p : Int) : (bitC d p).length = lenN d := by simp [bitC]
theorem codeL_length (d p : Int) : (codeL d p).length = lenN d := by simp [codeL, bitC]
theorem bit01_getD {l : List Int} (h : ∀ x ∈ l, x = 0 ∨ x = 1) (i : Nat) : l.getD i 0 = 0 ∨ l.getD i 0 = 1 := bit01.get h i
theorem codeB_01 (d p : Int) (i : Nat) : codeB d p i = 0 ∨ codeB d p i = 1 := by
 unfold codeB
 have h1 := bit01_getD (bitsL_01 (d := d) (w := 1)) i
 have h2 := bit01_getD (bitsL_01 (d := d) (w := 2)) i
 split
 ·exact h1
 ·split
  ·exact h2
  ·omega
theorem codeB_one (d : Int) : bitC d 1 = bitsL d 1 := by
 refine seqx (by rw [bitC_length, bitsL_length]) fun i hi => ?_
 rw [bitC_length] at hi
 simp [bitC, hi, codeB]
theorem codeB_two (d : Int) : bitC d 2 = bitsL d 2 := by
 refine seqx (by rw [bitC_length, bitsL_length]) fun i hi => ?_
 rw [bitC_length] at hi
 simp [bitC, hi, codeB]
def codeP (d p : Int) (k : Nat) : List Int := (List.range (lenN d)).map fun i => if i < k then codeB d p i else (bitsL d 1).getD i 0
theorem codeP_length (d p : Int) (k : Nat) : (codeP d p k).length = lenN d := by simp [codeP]
theorem codeP_get {d p : Int} {k i : Nat} (hi : i < lenN d) : (codeP d p k).getD i 0 = if i < k then codeB d p i else (bitsL d 1).getD i 0 := by simp [codeP, hi]
theorem codeP_zero (d p : Int) : codeP d p 0 = bitsL d 1 := by
 refine seqx (by rw [codeP_length, bitsL_length]) fun i hi => ?_
 rw [codeP_length] at hi
 rw [codeP_get hi, if_neg (by omega)]
theorem codeP_full (d p : Int) : codeP d p (lenN d) = bitC d p := by
 refine seqx (by rw [codeP_length, bitC_length]) fun i hi => ?_
 rw [codeP_length] at hi
 rw [codeP_get hi, if_pos hi]; simp [bitC, hi]
theorem codeP_set {d p : Int} {k : Nat} (hk : k < lenN d) : (codeP d p k).set k (codeB d p k) = codeP d p (k + 1) := by
 refine seqx (by simp [codeP]) fun i hi => ?_
 simp only [List.length_set, codeP_length] at hi
 rw [codeP_get hi]
 simp only [List.getD_eq_getElem?_getD, List.getElem?_set, codeP_length]
 by_cases e : k = i
 ·subst e; rw [if_pos rfl, if_pos hk, if_pos (by omega)]; rfl
 ·rw [if_neg e]
  have := codeP_get (p := p) (k := k) hi
  rw [List.getD_eq_getElem?_getD] at this
  rw [this]
  by_cases c : i < k
  ·rw [if_pos c, if_pos (by omega)]
  ·rw [if_neg c, if_neg (by omega)]; simp
section
variable {C : Ctx}
set_option maxRecDepth 100000 in
set_option maxHeartbeats 2000000 in
theorem Code_spec (hC : Has C T76) {d p : Int} {h : Heap} (hd : In64 d) (hp : In64 p) : ACalls C 76 [.int .i64 d, .int .i64 p] h (fun r h' => ∃ v, r = lstErr v (codeErr d p) ∧ HSub h h' ∧ RI h' v (if codeErr d p = 0 then codeL d p else []) ∧ (codeErr d p = 0 → Fresh h h' v (codeL d p))) := by
 have hp' := hp
 unfold In64 at hp'
 have pe : codeErr d p = if lenOk d = true ∧ 1 ≤ p ∧ p ≤ lenN d + 2 then 0 else 2 := rfl
 by_cases c : lenOk d = true
 ·have hl := lenN_eq c
  have eL : lenE d = tup2 (lenN d) 0 := by unfold lenE; rw [if_pos c]
  by_cases cp : 1 ≤ p ∧ p ≤ lenN d + 2
  ·rw [if_pos ⟨c, cp⟩] at pe
   rw [pe]
   have t1 : tapsErr d 1 = 0 := by unfold tapsErr; rw [if_pos ⟨c, .inl rfl⟩]
   have t2 : tapsErr d 2 = 0 := by unfold tapsErr; rw [if_pos ⟨c, .inr rfl⟩]
   have lb1 := bitsL_length d 1
   have lb2 := bitsL_length d 2
   have hB : ∀ {w : Int} {h : Heap}, tapsErr d w = 0 → In64 w → ACalls C 74 [.int .i64 d, .int .i64 w] h (fun r h' => ∃ i, h.size ≤ i ∧ r = lstErr (.slice i 0 (lenN d) (.known (lenN d))) 0 ∧ HSub h h' ∧ h'.get i = some (.cells (ints (bitsL d w)) true 0)) := by
    intro w h e hw
    refine (Bits_spec (zu hC T74) hd hw).mono ?_
    rintro r h' ⟨v, h1, _, _, h4⟩
    obtain ⟨s, _, i, hi, hv, hg⟩ := h4 e
    rw [bitsL_length] at hv
    exact ⟨i, hi, by rw [h1, e, hv], s, hg⟩
   have bC : ∀ k, (bitC d p).getD k 0 = 0 ∨ (bitC d p).getD k 0 = 1 := fun k => bit01_getD (fun x hx => by
    obtain ⟨i, _, rfl⟩ := List.mem_map.1 hx
    exact codeB_01 d p i) k
   have lC := bitC_length d p
   refine zf hC tab76 ?_; simp only [B76]; refine zs ?_
   refine ACallsK.eq2 (Length_spec (zu hC T70) hd) eL ?_
   refine zs1 @tup2.eq_1 ?_
   refine ACallsK.of (hB t1 (by unfold In64; omega)) ?_
   rintro r h1 ⟨i1, hi1, rfl, s1, g1⟩
   refine zs1 @lstErr.eq_1 ?_
   refine ACallsK.of (hB t2 (by unfold In64; omega)) ?_
   rintro r h2 ⟨i2, hi2, rfl, s2, g2⟩
   have hl1 := Heap.lt_of_get g1
   have hl2 := Heap.lt_of_get g2
   have g1' := (s2.get i1 hl1).trans g1
   have s12 := s1.trans s2
   have z2 := s2.size
   have z1 := s1.size
   by_cases p1 : p = 1
   ·have gi1 : h2.get i1 = some (.cells (ints (bitC d p)) true 0) := by rw [p1, codeB_one]; exact g1'
    refine zs1 @lstErr.eq_1 ?_
    have gX : h2.get i1 = some (.cells (ints (mapPre (fun b => 1 - 2 * b) (bitC d p) 0)) true 0) := by rw [mapPre_zero]; exact gi1
    refine wp_loopI (fun j t h' => ∃ k : Nat, HSub h h' ∧ i1 < h'.size ∧ h'.get i1 = some (.cells (ints (mapPre (fun b => 1 - 2 * b) (bitC d p) k)) true 0) ∧ t 8 = .slice i1 0 (lenN d) (.known (lenN d)) ∧ t 68 = .slice i1 0 (lenN d) (.known (lenN d)) ∧ t 69 = .int .i64 (lenN d) ∧ t 70 = .int .i64 (k : Nat) ∧ k ≤ lenN d ∧ j = lenN d - k) (j0 := lenN d)
     ⟨0, s12, Heap.lt_of_get gi1, gX, rfl, rfl, rfl, rfl, by omega, rfl⟩ ?_
    rintro j t h' ⟨k, hs, hlt, hg, e8, e68, e69, e70, hk, hj⟩
    have hml := mapPre_length (fun b => 1 - 2 * b) (bitC d p) k
    refine zs2 @e69 @e70 ?_
    refine Br.by (fun c1 => ?_) (fun c1 => ?_)
    ·have hk' : k < (bitC d p).length := by omega
     have hg2 := mapPre_get (fun b => 1 - 2 * b) hk'
     have hst := mapPre_set (fun b => 1 - 2 * b) hk'
     have b01 := bC k
     refine zs6 @e8 @e68 @e69 @e70 @hg @hg2 ?_
     exact ⟨_, ⟨k + 1, hs.put (by omega) _, hlt, by rw [← hst], by simp, by omega, rfl⟩, by omega⟩
    ·have : k = (bitC d p).length := by omega
     subst this
     rw [mapPre_full] at hg
     refine zs1 @e8 ?_
     have cl := codeL_length d p
     have F : Fresh h h' (.slice i1 0 (lenN d) (.known (lenN d))) (codeL d p) := ⟨hs, by omega, i1, by omega, by rw [cl], hg⟩
     exact ⟨_, rfl, hs, by rw [if_pos trivial]; exact F.ri, fun _ => F⟩
   by_cases p2 : p = 2
   ·have gi2 : h2.get i2 = some (.cells (ints (bitC d p)) true 0) := by rw [p2, codeB_two]; exact g2
    refine zs1 @lstErr.eq_1 ?_
    have gX : h2.get i2 = some (.cells (ints (mapPre (fun b => 1 - 2 * b) (bitC d p) 0)) true 0) := by rw [mapPre_zero]; exact gi2
    refine wp_loopI (fun j t h' => ∃ k : Nat, HSub h h' ∧ i2 < h'.size ∧ h'.get i2 = some (.cells (ints (mapPre (fun b => 1 - 2 * b) (bitC d p) k)) true 0) ∧ t 8 = .slice i2 0 (lenN d) (.known (lenN d)) ∧ t 68 = .slice i2 0 (lenN d) (.known (lenN d)) ∧ t 69 = .int .i64 (lenN d) ∧ t 70 = .int .i64 (k : Nat) ∧ k ≤ lenN d ∧ j = lenN d - k) (j0 := lenN d)
     ⟨0, s12, Heap.lt_of_get gi2, gX, rfl, rfl, rfl, rfl, by omega, rfl⟩ ?_
    rintro j t h' ⟨k, hs, hlt, hg, e8, e68, e69, e70, hk, hj⟩
    have hml := mapPre_length (fun b => 1 - 2 * b) (bitC d p) k
    refine zs2 @e69 @e70 ?_
    refine Br.by (fun c1 => ?_) (fun c1 => ?_)
    ·have hk' : k < (bitC d p).length := by omega
     have hg2 := mapPre_get (fun b => 1 - 2 * b) hk'
     have hst := mapPre_set (fun b => 1 - 2 * b) hk'
     have b01 := bC k
     refine zs6 @e8 @e68 @e69 @e70 @hg @hg2 ?_
     exact ⟨_, ⟨k + 1, hs.put (by omega) _, hlt, by rw [← hst], by simp, by omega, rfl⟩, by omega⟩
    ·have : k = (bitC d p).length := by omega
     subst this
     rw [mapPre_full] at hg
     refine zs1 @e8 ?_
     have cl := codeL_length d p
     have F : Fresh h h' (.slice i2 0 (lenN d) (.known (lenN d))) (codeL d p) := ⟨hs, by omega, i2, by omega, by rw [cl], hg⟩
     exact ⟨_, rfl, hs, by rw [if_pos trivial]; exact F.ri, fun _ => F⟩
   have hp3 : 3 ≤ p := by omega
   have lP := codeP_length d p
   have g0 : h2.get i1 = some (.cells (ints (codeP d p 0)) true 0) := by rw [codeP_zero]; exact g1'
   refine zs1 @lstErr.eq_1 ?_
   refine wp_loopI (fun j t h' => ∃ k : Nat, HSub h h' ∧ i1 < h'.size ∧ h'.get i1 = some (.cells (ints (codeP d p k)) true 0) ∧ h'.get i2 = some (.cells (ints (bitsL d 2)) true 0) ∧ t 1 = .int .i64 p ∧ t 6 = .int .i64 (lenN d) ∧ t 8 = .slice i1 0 (lenN d) (.known (lenN d)) ∧ t 10 = .slice i2 0 (lenN d) (.known (lenN d)) ∧
     t 42 = .slice i1 0 (lenN d) (.known (lenN d)) ∧ t 43 = .int .i64 (lenN d) ∧ t 44 = .int .i64 (k : Nat) ∧ k ≤ lenN d ∧ j = lenN d - k) (j0 := lenN d)
    ⟨0, s12, by omega, g0, g2, rfl, rfl, rfl, rfl, rfl, rfl, rfl, by omega, rfl⟩ ?_
   rintro j t h3 ⟨k, hs3, hlt3, hg1, hg2, e1, e6, e8, e10, e42, e43, e44, hk, hj⟩
   have lPk := lP k
   refine zs2 @e43 @e44 ?_
   refine Br.by (fun c1 => ?_) (fun c1 => ?_)
   ·have hk' : k < lenN d := by omega
    have gP : (codeP d p k).getD k 0 = (bitsL d 1).getD k 0 := by rw [codeP_get hk', if_neg (by omega)]
    have em : ((k : Int) + p - 3) % (lenN d : Int) = (((k + (p - 3).toNat) % lenN d : Nat) : Int) := by
     rw [show (k : Int) + p - 3 = ((k + (p - 3).toNat : Nat) : Int) by omega]; exact (Int.natCast_emod _ _).symm
    have hm : (k + (p - 3).toNat) % lenN d < lenN d := Nat.mod_lt _ (by omega)
    have lb2 := bitsL_length d 2
    have ex := xor01 (bit01_getD (bitsL_01 (d := d) (w := 1)) k) (bit01_getD (bitsL_01 (d := d) (w := 2)) ((k + (p - 3).toNat) % lenN d))
    have hcb : codeB d p k = ((bitsL d 1).getD k 0 + (bitsL d 2).getD ((k + (p - 3).toNat) % lenN d) 0) % 2 := by unfold codeB; rw [if_neg p1, if_neg p2]
    rw [← hcb] at ex
    have hst := codeP_set (p := p) hk'
    simp -implicitDefEqProofs (disch := first | exact zd | fail) only [↓wpPre, wpPost, wpPoly, Int.reduceToNat, Int.reducePow, Int.reduceMul, Int.reduceAdd, Int.reduceSub, Int.reduceNeg, Nat.reduceAdd, Nat.reduceMul, Nat.reducePow, Int.reduceLT, Int.reduceLE, Int.reduceEq, Nat.reduceEqDiff, e1, e6, e8, e10, e42, e43, e44, hg1, hg2, gP, em, ex, hst]
    exact ⟨_, ⟨k + 1, hs3.put (by omega) _, hlt3, rfl, by simp, by omega, rfl⟩, by omega⟩
   ·have ek : k = lenN d := by omega
    rw [ek] at hg1
    have gi3 : h3.get i1 = some (.cells (ints (bitC d p)) true 0) := by rw [← codeP_full]; exact hg1
    refine zs1 @e8 ?_
    have gX : h3.get i1 = some (.cells (ints (mapPre (fun b => 1 - 2 * b) (bitC d p) 0)) true 0) := by rw [mapPre_zero]; exact gi3
    refine wp_loopI (fun j t h' => ∃ k : Nat, HSub h h' ∧ i1 < h'.size ∧ h'.get i1 = some (.cells (ints (mapPre (fun b => 1 - 2 * b) (bitC d p) k)) true 0) ∧ t 8 = .slice i1 0 (lenN d) (.known (lenN d)) ∧ t 68 = .slice i1 0 (lenN d) (.known (lenN d)) ∧ t 69 = .int .i64 (lenN d) ∧ t 70 = .int .i64 (k : Nat) ∧ k ≤ lenN d ∧ j = lenN d - k) (j0 := lenN d)
     ⟨0, hs3, Heap.lt_of_get gi3, gX, e8, rfl, rfl, rfl, by omega, rfl⟩ ?_
    rintro j u h' ⟨k, hs, hlt, hg, f8, e68, e69, e70, hk, hj⟩
    have hml := mapPre_length (fun b => 1 - 2 * b) (bitC d p) k
    refine zs2 @e69 @e70 ?_
    refine Br.by (fun c1 => ?_) (fun c1 => ?_)
    ·have hk' : k < (bitC d p).length := by omega
     have hg2 := mapPre_get (fun b => 1 - 2 * b) hk'
     have hst := mapPre_set (fun b => 1 - 2 * b) hk'
     have b01 := bC k
     refine zs6 @f8 @e68 @e69 @e70 @hg @hg2 ?_
     exact ⟨_, ⟨k + 1, hs.put (by omega) _, hlt, by rw [← hst], by simp, by omega, rfl⟩, by omega⟩
    ·have : k = (bitC d p).length := by omega
     subst this
     rw [mapPre_full] at hg
     refine zs1 @f8 ?_
     have cl := codeL_length d p
     have F : Fresh h h' (.slice i1 0 (lenN d) (.known (lenN d))) (codeL d p) := ⟨hs, by omega, i1, by omega, by rw [cl], hg⟩
     exact ⟨_, rfl, hs, by rw [if_pos trivial]; exact F.ri, fun _ => F⟩
  ·have cp' : ¬ (lenOk d = true ∧ 1 ≤ p ∧ p ≤ lenN d + 2) := fun h => cp h.2
   rw [if_neg cp'] at pe
   rw [pe]
   refine zf hC tab76 ?_; simp only [B76]; refine zs ?_
   refine ACallsK.eq2 (Length_spec (zu hC T70) hd) eL ?_
   refine zs1 @tup2.eq_1 ?_
   (repeat' (first | (refine Br.by (fun _ => ?_) (fun _ => ?_)) | (refine zs ?_)))
   all_goals first | exact ⟨.nilslice, by rw [lstErr], HSub.refl _, by rw [if_neg id]; exact RI.nil⟩ | omega
 ·have eL : lenE d = tup2 0 2 := by unfold lenE; rw [if_neg c]
  have cp' : ¬ (lenOk d = true ∧ 1 ≤ p ∧ p ≤ lenN d + 2) := fun h => c h.1
  rw [if_neg cp'] at pe
  rw [pe]
  refine zf hC tab76 ?_; simp only [B76]; refine zs ?_
  refine ACallsK.eq2 (Length_spec (zu hC T70) hd) eL ?_
  refine zs1 @tup2.eq_1 ?_
  exact ⟨.nilslice, by rw [lstErr], HSub.refl _, by rw [if_neg id]; exact RI.nil⟩
end
end Go.Ae
/- Plans are checked: the program and the reference. -/
set_option linter.unusedSimpArgs false
set_option linter.unusedVariables false
namespace Go.Ae
def plA (p : PlanP) (vp : AV) : AV := .agg [.int .i64 p.d, .int .i64 p.o, .int .i64 p.pb, .int .i64 p.w, .int .i64 p.mn, .int .i64 p.mx, .int .i64 p.nz, vp]
theorem prns_step (n : Int) (l : List Int) (k : Nat) (hk : k < l.length) : prnsErr n (l.take k) (l.drop k) = if ¬(1 ≤ l.getD k 0 ∧ l.getD k 0 ≤ n + 2) then 2 else if ((l.take k).any fun y => l.getD k 0 == y) = true then 8 else prnsErr n (l.take (k + 1)) (l.drop (k + 1)) := by
 rw [List.drop_eq_getElem_cons hk, prnsErr, take_succ_getD hk, List.getD_eq_getElem?_getD, List.getElem?_eq_getElem hk]
 rfl
section
variable {C : Ctx}
theorem within237_spec (hC : Has C T237) {x lo hi : Int} {h : Heap} : ACalls C 237 [.int .i64 x, .int .i64 lo, .int .i64 hi] h (fun r h' => r = .bool (decide (lo ≤ x ∧ x ≤ hi)) ∧ h' = h) := by
 refine zf hC tab237 ?_; simp only [B237]; refine zs ?_
 by_cases c : lo ≤ x
 ·exact ze2 @gV_u @c
 ·refine zs2 @gV_u @c ?_
  simp
set_option maxHeartbeats 1000000 in
theorem CheckPlan_spec (hC : Has C T219) {v : AV} {p : PlanP} {h : Heap} (hp : PlI h v p) (h64 : p.ok64) : ACalls C 219 [v] h (fun r h' => r = .int .i64 p.err ∧ h' = h) := by
 refine ACalls.gc0 (P := fun r h' => r = .int .i64 p.err ∧ HSub h h') ?_ (fun r h' hp => ⟨by rw [hp.1]; trivial, hp.2, hp.1, rfl⟩)
 obtain ⟨vp, rfl, R⟩ := hp
 have v1 := R.one
 have hlt := R.lt
 obtain ⟨i1, i2, i3, i4, i5, i6, i7, i8⟩ := h64
 have W := fun x lo hi h => within237_spec (x := x) (lo := lo) (hi := hi) (h := h) (zu hC T237)
 have L := fun h => Length_spec (zu hC T70) (h := h) i1
 have e2 : ¬ p.numsOk → p.err = 2 := fun q => by unfold PlanP.err; rw [if_neg q]
 have s1 : ∀ b, HSub h (h.push b) := HSub.push1 h
 have e3 : p.numsOk → p.err = if p.prns.length = 0 then 3 else if 8 < p.prns.length then 4 else prnsErr (lenN p.d) [] p.prns := fun q => by unfold PlanP.err; rw [if_pos q]
 have eN : p.numsOk ↔ lenOk p.d = true ∧ (1 ≤ p.o ∧ p.o ≤ 8) ∧ (1 ≤ p.pb ∧ p.pb ≤ 20) ∧ (2 ≤ p.w ∧ p.w ≤ 10) ∧ (1 ≤ p.mn ∧ p.mn ≤ p.mx) ∧ p.mx ≤ 1000 ∧ (0 ≤ p.nz ∧ p.nz ≤ 100000) := Iff.rfl
 generalize p.err = E at *
 generalize p.numsOk = Q at *
 obtain ⟨d, o, pb, w, mn, mx, nz, prns⟩ := p
 dsimp only at *
 have q1 : ∀ b, Q → False → HSub h (h.push b) := fun b _ f => f.elim
 by_cases c1 : lenOk d = true
 ·have el : lenE d = tup2 (lenN d) 0 := by unfold lenE; rw [if_pos c1]
  simp only [el] at L
  have hN := lenN_eq c1
  refine zf hC tab219 ?_; simp only [B219]; refine zs ?_
  refine ACallsK.eq (L _) ?_
  refine zs1 @tup2.eq_1 ?_
  refine ACallsK.eq (W _ _ _ _) ?_
  by_cases c2 : 1 ≤ o ∧ o ≤ 8
  ·refine zs1 @c2 ?_
   refine ACallsK.eq (W _ _ _ _) ?_
   by_cases c3 : 1 ≤ pb ∧ pb ≤ 20
   ·refine zs1 @c3 ?_
    refine ACallsK.eq (W _ _ _ _) ?_
    by_cases c4 : 2 ≤ w ∧ w ≤ 10
    ·refine zs1 @c4 ?_
     refine ACallsK.eq (W _ _ _ _) ?_
     by_cases c5 : 1 ≤ mn ∧ mn ≤ mx
     ·refine zs1 @c5 ?_
      by_cases c6 : mx ≤ 1000
      ·refine zs1 @c6 ?_
       refine ACallsK.eq (W _ _ _ _) ?_
       by_cases c7 : 0 ≤ nz ∧ nz ≤ 100000
       ·refine zs1 @c7 ?_
        have e := e3 (eN.2 ⟨c1, c2, c3, c4, c5, c6, c7⟩)
        by_cases c8 : prns.length = 0
        ·rw [if_pos c8] at e
         refine zs2 @R.len @c8 ?_
         exact ⟨e.symm, s1 _⟩
        ·rw [if_neg c8] at e
         by_cases c9 : 8 < prns.length
         ·rw [if_pos c9] at e
          refine zs3 @R.len @c8 @c9 ?_
          exact ⟨e.symm, s1 _⟩
         ·rw [if_neg c9] at e
          refine zs3 @R.len @c8 @c9 ?_
          refine wp_loopI (fun j t h' => HSub h h' ∧ h.size < h'.size ∧ h'.get h.size = some (.cells [.int .i64 d, .int .i64 o, .int .i64 pb, .int .i64 w, .int .i64 mn, .int .i64 mx, .int .i64 nz, vp] true 0) ∧ ∃ k : Nat, prnsErr (lenN d) (prns.take k) (prns.drop k) = E ∧ t 1 = .ptr h.size 0 ∧ t 3 = .int .i64 (lenN d) ∧ t 5 = .func 237 [] [] ∧ t 58 = vp ∧ t 59 = .int .i64 (prns.length : Nat) ∧ t 60 = .int .i64 (k : Nat) ∧ k ≤ prns.length ∧ j = prns.length - k) (j0 := prns.length)
           ⟨s1 _, by simp, by exact ze, 0, e.symm, rfl, rfl, rfl, rfl, rfl, rfl, by omega, rfl⟩ ?_
          rintro j t h1 ⟨t1, hz, gp, k, ek, e1, e3, e5, e58, e59, e60, hk, hj⟩
          refine zs2 @e59 @e60 ?_
          refine Br.by (fun d1 => ?_) (fun d1 => ?_)
          ·have hk' : k < prns.length := by omega
           have R1 := R.mono t1
           have ld := R1.load hk'
           have st := prns_step (lenN d) prns k hk'
           rw [ek] at st
           have hx := i8 _ (getD_mem hk')
           have pt := R1.part_b (k2 := .i64) (b := (k : Int)) ⟨by omega, by omega⟩
           obtain ⟨v', hv', R'⟩ := pt
           rw [Int.toNat_natCast] at R'
           have ct := Contains_spec (zu hC T89) (x := prns.getD k 0) R'
           have ctn := fun h2 (q : HSub h1 h2) => Contains_spec (zu hC T89) (x := prns.getD k 0) (R'.mono q)
           generalize prns.getD k 0 = x at *
           refine zs7 @e1 @e3 @e5 @e58 @e60 @R1.idx @ld ?_
           refine ACallsK.eq (W _ _ _ _) ?_
           by_cases d2 : 1 ≤ x ∧ x ≤ (lenN d : Int) + 2
           ·rw [if_neg (fun q => q d2)] at st
            refine zs5 @d2 @e1 @gp @hv' @e60 ?_
            refine ACallsK.eq (ctn _ (zh (HSub.refl h1))) ?_
            by_cases d3 : ((prns.take k).any fun y => x == y) = true
            ·rw [if_pos d3] at st
             refine zs1 @d3 ?_
             exact ⟨st.symm, (zh t1)⟩
            ·rw [if_neg d3] at st
             have d4 : ((prns.take k).any fun y => x == y) = false := Bool.eq_false_iff.2 d3
             refine zs7 @d4 @e1 @e3 @e5 @e58 @e59 @e60 ?_
             exact ⟨_, ⟨t1, hz, gp, k + 1, st.symm, by simp, by omega, rfl⟩, by omega⟩
           ·rw [if_pos d2] at st
            refine zs1 @d2 ?_
            exact ⟨st.symm, (zh t1)⟩
          ·have ek2 : k = prns.length := by omega
           subst ek2
           rw [List.drop_length, prnsErr] at ek
           refine zs ?_
           exact ⟨ek, t1⟩
       ·have e := e2 (fun q => c7 (eN.1 q).2.2.2.2.2.2)
        refine zs1 @c7 ?_
        exact ⟨e.symm, s1 _⟩
      ·have e := e2 (fun q => c6 (eN.1 q).2.2.2.2.2.1)
       refine zs1 @c6 ?_
       exact ⟨e.symm, s1 _⟩
     ·have e := e2 (fun q => c5 (eN.1 q).2.2.2.2.1)
      refine zs1 @c5 ?_
      exact ⟨e.symm, s1 _⟩
    ·have e := e2 (fun q => c4 (eN.1 q).2.2.2.1)
     refine zs1 @c4 ?_
     exact ⟨e.symm, s1 _⟩
   ·have e := e2 (fun q => c3 (eN.1 q).2.2.1)
    refine zs1 @c3 ?_
    exact ⟨e.symm, s1 _⟩
  ·have e := e2 (fun q => c2 (eN.1 q).2.1)
   refine zs1 @c2 ?_
   exact ⟨e.symm, s1 _⟩
 ·have el : lenE d = tup2 0 2 := by unfold lenE; rw [if_neg c1]
  simp only [el] at L
  have e := e2 (fun q => c1 (eN.1 q).1)
  refine zf hC tab219 ?_; simp only [B219]; refine zs ?_
  refine ACallsK.eq (L _) ?_
  refine zs1 @tup2.eq_1 ?_
  exact ⟨e.symm, s1 _⟩
theorem any_take {l : List Int} {k i : Nat} {x : Int} (hk : k ≤ l.length) (hi : i < k) (h : l.getD i 0 = x) : ((l.take k).any fun y => x == y) = true := by
 rw [List.any_eq_true]
 refine ⟨x, ?_, by simp⟩
 rw [← h, List.getD_eq_getElem?_getD, List.getElem?_eq_getElem (by omega)]
 exact List.mem_take_iff_getElem.2 ⟨i, by omega, rfl⟩
theorem any_take_no {l : List Int} {k : Nat} {x : Int} (hk : k ≤ l.length) (h : ∀ i, i < k → l.getD i 0 ≠ x) : ((l.take k).any fun y => x == y) = false := by
 rw [List.any_eq_false]
 intro y hy
 obtain ⟨i, hi, e⟩ := List.mem_take_iff_getElem.1 hy
 have := h i (by omega)
 rw [List.getD_eq_getElem?_getD, List.getElem?_eq_getElem (by omega)] at this
 simp only [Option.getD_some] at this
 rw [e] at this
 simp only [beq_iff_eq]
 exact fun q => this q.symm
set_option maxHeartbeats 2000000 in
set_option maxRecDepth 20000 in
theorem CheckPlanR_spec (hC : Has C T220) {v : AV} {p : PlanP} {h : Heap} (hp : PlI h v p) (h64 : p.ok64) : ACalls C 220 [v] h (fun r h' => r = .int .i64 p.err ∧ h' = h) := by
 refine ACalls.gc0 (P := fun r h' => r = .int .i64 p.err ∧ HSub h h') ?_ (fun r h' hp => ⟨by rw [hp.1]; trivial, hp.2, hp.1, rfl⟩)
 obtain ⟨vp, rfl, R⟩ := hp
 have v1 := R.one
 have hlt := R.lt
 obtain ⟨i1, i2, i3, i4, i5, i6, i7, i8⟩ := h64
 have L := fun h => Length08_spec (zu hC T71) (h := h) i1
 have e2 : ¬ p.numsOk → p.err = 2 := fun q => by unfold PlanP.err; rw [if_neg q]
 have s1 : ∀ b, HSub h (h.push b) := HSub.push1 h
 have e3 : p.numsOk → p.err = if p.prns.length = 0 then 3 else if 8 < p.prns.length then 4 else prnsErr (lenN p.d) [] p.prns := fun q => by unfold PlanP.err; rw [if_pos q]
 have eN : p.numsOk ↔ lenOk p.d = true ∧ (1 ≤ p.o ∧ p.o ≤ 8) ∧ (1 ≤ p.pb ∧ p.pb ≤ 20) ∧ (2 ≤ p.w ∧ p.w ≤ 10) ∧ (1 ≤ p.mn ∧ p.mn ≤ p.mx) ∧ p.mx ≤ 1000 ∧ (0 ≤ p.nz ∧ p.nz ≤ 100000) := Iff.rfl
 generalize p.err = E at *
 generalize p.numsOk = Q at *
 obtain ⟨d, o, pb, w, mn, mx, nz, prns⟩ := p
 dsimp only at *
 by_cases c1 : lenOk d = true
 ·have el : lenE d = tup2 (lenN d) 0 := by unfold lenE; rw [if_pos c1]
  simp only [el] at L
  have hN := lenN_eq c1
  by_cases cA : (1 ≤ o ∧ o ≤ 8) ∧ (1 ≤ pb ∧ pb ≤ 20) ∧ (2 ≤ w ∧ w ≤ 10)
  ·have n1 : ¬ o < 1 := by omega
   have n2 : ¬ 8 < o := by omega
   have n3 : ¬ pb < 1 := by omega
   have n4 : ¬ 20 < pb := by omega
   have n5 : ¬ w < 2 := by omega
   have n6 : ¬ 10 < w := by omega
   by_cases cB : (1 ≤ mn ∧ mn ≤ mx) ∧ mx ≤ 1000 ∧ (0 ≤ nz ∧ nz ≤ 100000)
   ·have m1 : ¬ mn < 1 := by omega
    have m2 : ¬ mx < mn := by omega
    have m3 : ¬ 1000 < mx := by omega
    have m4 : ¬ nz < 0 := by omega
    have m5 : ¬ 100000 < nz := by omega
    have e := e3 (eN.2 ⟨c1, cA.1, cA.2.1, cA.2.2, cB.1, cB.2.1, cB.2.2⟩)
    by_cases c8 : prns.length = 0
    ·rw [if_pos c8] at e
     refine zf hC tab220 ?_; simp only [B220]; refine zs ?_
     refine ACallsK.eq (L _) ?_
     simp -implicitDefEqProofs (disch := first | exact zd | fail) only [↓wpPre, wpPost, wpPoly, Int.reduceToNat, Int.reducePow, Int.reduceMul, Int.reduceAdd, Int.reduceSub, Int.reduceNeg, Nat.reduceAdd, Nat.reduceMul, Nat.reducePow, Int.reduceLT, Int.reduceLE, Int.reduceEq, Nat.reduceEqDiff, tup2, gV_u, n1, n2, n3, n4, n5, n6, m1, m2, m3, m4, m5, R.len, c8]
     exact ⟨e.symm, s1 _⟩
    ·rw [if_neg c8] at e
     by_cases c9 : 8 < prns.length
     ·rw [if_pos c9] at e
      refine zf hC tab220 ?_; simp only [B220]; refine zs ?_
      refine ACallsK.eq (L _) ?_
      simp -implicitDefEqProofs (disch := first | exact zd | fail) only [↓wpPre, wpPost, wpPoly, Int.reduceToNat, Int.reducePow, Int.reduceMul, Int.reduceAdd, Int.reduceSub, Int.reduceNeg, Nat.reduceAdd, Nat.reduceMul, Nat.reducePow, Int.reduceLT, Int.reduceLE, Int.reduceEq, Nat.reduceEqDiff, tup2, gV_u, n1, n2, n3, n4, n5, n6, m1, m2, m3, m4, m5, R.len, c8, c9]
      exact ⟨e.symm, s1 _⟩
     ·rw [if_neg c9] at e
      refine zf hC tab220 ?_; simp only [B220]; refine zs ?_
      refine ACallsK.eq (L _) ?_
      simp -implicitDefEqProofs (disch := first | exact zd | fail) only [↓wpPre, wpPost, wpPoly, Int.reduceToNat, Int.reducePow, Int.reduceMul, Int.reduceAdd, Int.reduceSub, Int.reduceNeg, Nat.reduceAdd, Nat.reduceMul, Nat.reducePow, Int.reduceLT, Int.reduceLE, Int.reduceEq, Nat.reduceEqDiff, tup2, gV_u, n1, n2, n3, n4, n5, n6, m1, m2, m3, m4, m5, R.len, c8, c9]
      refine wp_loopI (fun j t h' => h' = h.push (.cells [.int .i64 d, .int .i64 o, .int .i64 pb, .int .i64 w, .int .i64 mn, .int .i64 mx, .int .i64 nz, vp] true 0) ∧ ∃ k : Nat, prnsErr (lenN d) (prns.take k) (prns.drop k) = E ∧ t 1 = .ptr h.size 0 ∧ t 3 = .int .i64 (lenN d) ∧ t 5 = .int .i64 (k : Nat) ∧ k ≤ prns.length ∧ j = prns.length - k) (j0 := prns.length)
       ⟨rfl, 0, e.symm, rfl, rfl, rfl, by omega, rfl⟩ ?_
      rintro j t h1 ⟨hh, k, ek, e1, e3, e5, hk, hj⟩
      have gp : h1.get h.size = some (.cells [.int .i64 d, .int .i64 o, .int .i64 pb, .int .i64 w, .int .i64 mn, .int .i64 mx, .int .i64 nz, vp] true 0) := by rw [hh]; exact get_push_eq rfl
      have t1 : HSub h h1 := by rw [hh]; exact s1 _
      have R1 := R.mono t1
      refine zs4 @e1 @e5 @gp @R1.len ?_
      refine Br.by (fun d1 => ?_) (fun d1 => ?_)
      ·have hk' : k < prns.length := by omega
       have ld := R1.load hk'
       have st := prns_step (lenN d) prns k hk'
       rw [ek] at st
       have at1 := fun i (hi : i < k) (q : prns.getD i 0 = prns.getD k 0) => any_take (by omega) hi q
       have at2 := fun (q : ∀ i, i < k → prns.getD i 0 ≠ prns.getD k 0) => any_take_no (x := prns.getD k 0) (by omega) q
       generalize hx : prns.getD k 0 = x at *
       by_cases d2 : 1 ≤ x ∧ x ≤ (lenN d : Int) + 2
       ·rw [if_neg (fun q => q d2)] at st
        have d3 : ¬ x < 1 := by omega
        have d4 : ¬ (lenN d : Int) + 2 < x := by omega
        refine zs9 @e1 @e3 @e5 @gp @R1.idx @ld @gV_u @d3 @d4 ?_
        refine wp_loopI (fun j t h' => h' = h1 ∧ ∃ i : Nat, (∀ m, m < i → prns.getD m 0 ≠ x) ∧ t 1 = .ptr h.size 0 ∧ t 3 = .int .i64 (lenN d) ∧ t 5 = .int .i64 (k : Nat) ∧ t 6 = .int .i64 (i : Nat) ∧ i ≤ k ∧ j = k - i) (j0 := k)
         ⟨rfl, 0, fun m hm => by omega, e1, e3, e5, rfl, by omega, rfl⟩ ?_
        rintro j t h2 ⟨rfl, i, hm, e1, e3, e5, e6, hi, hj2⟩
        refine zs2 @e5 @e6 ?_
        refine Br.by (fun d5 => ?_) (fun d5 => ?_)
        ·have hi' : i < k := by omega
         have ld2 := R1.load (k := i) (by omega)
         by_cases d6 : prns.getD i 0 = x
         ·rw [if_pos (at1 i hi' d6)] at st
          refine zs8 @e1 @e5 @e6 @gp @R1.idx @ld @ld2 @d6 ?_
          exact ⟨st.symm, t1⟩
         ·refine zs9 @e1 @e3 @e5 @e6 @gp @R1.idx @ld @ld2 @d6 ?_
          refine ⟨_, ⟨i + 1, fun m hm2 => ?_, by simp, by omega, rfl⟩, by omega⟩
          rcases Nat.lt_or_ge m i with y | y
          ·exact hm m y
          ·have : m = i := by omega
           subst this; exact d6
        ·have ei : i = k := by omega
         subst ei
         rw [if_neg (by rw [at2 hm]; simp)] at st
         refine zs4 @e1 @e3 @e5 @hh ?_
         exact ⟨_, ⟨i + 1, st.symm, by simp, by omega, rfl⟩, by omega⟩
       ·rw [if_pos d2] at st
        by_cases d3 : x < 1
        ·refine zs8 @e1 @e3 @e5 @gp @R1.idx @ld @gV_u @d3 ?_
         exact ⟨st.symm, t1⟩
        ·have d4 : (lenN d : Int) + 2 < x := by omega
         refine zs9 @e1 @e3 @e5 @gp @R1.idx @ld @gV_u @d3 @d4 ?_
         exact ⟨st.symm, t1⟩
      ·have ek2 : k = prns.length := by omega
       rw [ek2, List.drop_length, prnsErr] at ek
       refine zs ?_
       exact ⟨ek, t1⟩
   ·have e := e2 (fun q => cB (eN.1 q).2.2.2.2)
    refine zf hC tab220 ?_; simp only [B220]; refine zs ?_
    refine ACallsK.eq (L _) ?_
    refine zs8 @tup2.eq_1 @gV_u @n1 @n2 @n3 @n4 @n5 @n6 ?_
    (repeat' (first | (refine Br.by (fun _ => ?_) (fun _ => ?_)) | (refine zs1 @gV_u ?_)))
    all_goals first
     | exact ⟨e.symm, s1 _⟩
     | (exfalso; omega)
  ·have e := e2 (fun q => cA ⟨(eN.1 q).2.1, (eN.1 q).2.2.1, (eN.1 q).2.2.2.1⟩)
   refine zf hC tab220 ?_; simp only [B220]; refine zs ?_
   refine ACallsK.eq (L _) ?_
   refine zs2 @tup2.eq_1 @gV_u ?_
   (repeat' (first | (refine Br.by (fun _ => ?_) (fun _ => ?_)) | (refine zs1 @gV_u ?_)))
   all_goals first
    | exact ⟨e.symm, s1 _⟩
    | (exfalso; omega)
 ·have el : lenE d = tup2 0 2 := by unfold lenE; rw [if_neg c1]
  simp only [el] at L
  have e := e2 (fun q => c1 (eN.1 q).1)
  refine zf hC tab220 ?_; simp only [B220]; refine zs ?_
  refine ACallsK.eq (L _) ?_
  refine zs2 @tup2.eq_1 @gV_u ?_
  exact ⟨e.symm, s1 _⟩
end
end Go.Ae
/- Emitters are checked: the program and the reference. -/
set_option linter.unusedSimpArgs false
set_option linter.unusedVariables false
namespace Go.Ae
theorem plan_ok {p : PlanP} (h : p.err = 0) : p.numsOk := by
 unfold PlanP.err at h
 split at h
 ·assumption
 ·omega
theorem size_range {p : PlanP} (h : p.numsOk) : 31 ≤ p.size ∧ p.size ≤ 8184 ∧ p.size = ((lenN p.d * p.o.toNat : Nat) : Int) := by
 have hN := lenN_eq h.1
 have ho := h.2.1
 obtain ⟨o, eo⟩ := Int.eq_ofNat_of_zero_le (show 0 ≤ p.o by omega)
 have e : p.size = ((lenN p.d * p.o.toNat : Nat) : Int) := by
  unfold PlanP.size
  rw [eo, Int.toNat_natCast]; exact (Int.natCast_mul _ _).symm
 have a1 : lenN p.d * 1 ≤ lenN p.d * p.o.toNat := Nat.mul_le_mul_left _ (by omega)
 have a2 : lenN p.d * p.o.toNat ≤ 1023 * 8 := Nat.mul_le_mul (by omega) (by omega)
 omega
theorem emit_range (p : PlanP) (e : EmitP) : emitErr p e = 0 ∨ emitErr p e = 2 ∨ emitErr p e = 3 ∨ emitErr p e = 4 ∨ emitErr p e = 8 ∨ emitErr p e = 18 := by
 unfold emitErr
 have hp : p.err = 0 ∨ p.err = 2 ∨ p.err = 3 ∨ p.err = 4 ∨ p.err = 8 := by
  unfold PlanP.err
  split
  ·split
   ·simp
   ·split
    ·simp
    ·have := prnsErr_range (lenN p.d) p.prns []
     omega
  ·simp
 split
 ·repeat' split
  all_goals simp
 ·omega
section
variable {C : Ctx}
theorem size244_spec (hC : Has C T244) {p : PlanP} {vp : AV} {h : Heap} (hn : p.numsOk) (v1 : vp.one = true) : ACalls C 244 [plA p vp] h (fun r h' => r = .int .i64 p.size ∧ h' = h) := by
 refine ACalls.gc0 (P := fun r h' => r = .int .i64 p.size ∧ HSub h h') ?_ (fun r h' hp => ⟨by rw [hp.1]; trivial, hp.2, hp.1, rfl⟩)
 have sr := size_range hn
 have hN := lenN_eq hn.1
 have hl := lenOk_cases hn.1
 have ho := hn.2.1
 have e1 : ((lenN p.d + 1 : Nat) : Int) - 1 = lenN p.d := by omega
 have es : p.size = (lenN p.d : Int) * p.o := rfl
 rw [es] at sr ⊢
 unfold plA
 obtain ⟨d, o, pb, w, mn, mx, nz, prns⟩ := p
 dsimp only at *
 refine zf hC tab244 ?_; simp only [B244]; refine zs3 @Int.one_mul @hN.2.2 @e1 ?_
 exact HSub.push1 _ _
end
end Go.Ae
