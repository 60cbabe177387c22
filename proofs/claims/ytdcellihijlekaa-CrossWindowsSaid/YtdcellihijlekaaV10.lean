/- Texts of the proof, part 10: a second reading of the lowered code, proved sound, and what the functions compute. -/
import Derived.OpenShut
import Derived.ChangeSlices
import Derived.ProofKit
import Derived.Test.YtdcellihijlekaaV9

/- A statement's arguments, as they come in, and the abstract heap that stands for them. -/
namespace Go.Ae
open Go.ChangeShapes Go.WideShapes Go.ChangeAt Go.RowKit

theorem trodAll_stays {H : Type} {enc : TypeId × Value → H} {P : Program} (hl : laidOutB P = true) {W W' : World} (hb : Below W.heap.size W W') : ∀ {ts : List TypeId} {vs : List Value} {ds : List (DataW H)} {ps : List MemPlace},
    (ts.all fun t => P.readableRec t && decide (t < P.types.size)) = true → DataW.TrodAll enc P W 0 (fun _ => true) true ts vs ds ps → (∀ x ∈ ps, x.block < W.heap.size) →
    DataW.TrodAll enc P W' 0 (fun b => decide (b < W.heap.size)) true ts vs ds ps
  | [], vs, ds, ps, _, h, _ => by
    obtain ⟨rfl, rfl, rfl⟩ := trodAll_nil h
    exact trodAll_mk0
  | t :: ts, vs, ds, ps, ht, h, hlt => by
    obtain ⟨v, vs', d, ds', p, q, rfl, rfl, rfl, h1, h2⟩ := trodAll_cons h
    simp only [List.all_cons, Bool.and_eq_true, decide_eq_true_eq] at ht
    exact ⟨p, q, Below.trod hl ht.1.1 ht.1.2 h1 hb (fun x hx => hlt x (List.mem_append_left _ hx)), trodAll_stays hl hb (by simpa using ht.2) h2 (fun x hx => hlt x (List.mem_append_right _ hx)), rfl⟩

def argHeap (bs : List (Option (List AV))) : Heap := ⟨bs.length, fun i => match bs[i]? with | some (some vs) => some (.cells vs false 0) | _ => none, fun i hi => by rw [List.getElem?_eq_none hi]⟩
theorem argHeap_get {bs : List (Option (List AV))} {i : Nat} {vs : List AV} (h : bs[i]? = some (some vs)) : (argHeap bs).get i = some (.cells vs false 0) := by simp only [argHeap, h]
theorem argHeap_some {bs : List (Option (List AV))} {i : Nat} {b : ABlk} (h : (argHeap bs).get i = some b) : ∃ vs, bs[i]? = some (some vs) ∧ b = .cells vs false 0 := by
  simp only [argHeap] at h
  split at h
  · rename_i vs hv; cases h; exact ⟨vs, hv, rfl⟩
  · cases h

theorem rel_args {C : Ctx} {env : Env} {w : World} (bs : List (Option (List AV))) (hlt : ∀ i vs, bs[i]? = some (some vs) → (env i).blk < w.heap.size ∧ (∀ v ∈ vs, v.bel (argHeap bs).ok) ∧
    ∀ k v, vs[k]? = some v → w.cell? ⟨(env i).blk, (env i).sh + k, none⟩ = some (v.val C.lk env)) : Rel C ⟨fun r => r < w.heap.size, fun _ => False⟩ env (argHeap bs) w := by
  refine ⟨?_, ?_, ?_, ?_, ?_, fun r hr => hr, ?_, fun r hr => hr.elim⟩
  · intro i b hb
    obtain ⟨vs, hv, rfl⟩ := argHeap_some hb
    exact (hlt i vs hv).1
  · intro i b hb
    obtain ⟨vs, hv, rfl⟩ := argHeap_some hb
    exact (hlt i vs hv).2.2
  · intro i j b c hb hc hij hw
    obtain ⟨vs, hv, rfl⟩ := argHeap_some hb
    cases hw
  · intro i b hb
    obtain ⟨vs, hv, rfl⟩ := argHeap_some hb
    exact (hlt i vs hv).2.1
  · intro i b hb hw
    obtain ⟨vs, hv, rfl⟩ := argHeap_some hb
    cases hw
  · intro i b hb hd hf
    exact hf

structure InList where
  l : List Int
  nil : Bool
  blk : Nat
  off : Nat
  cap : Nat
def InList.val (x : InList) : Value := if x.nil then .slice none 0 0 else .slice (some ⟨x.blk, x.off, none⟩) x.l.length x.cap
def InList.av (x : InList) (i : Nat) : AV := if x.nil then .nilslice else .slice i 0 x.l.length (.known x.cap)
def InList.row (x : InList) : Option (List AV) := if x.nil then none else some (ints x.l)
def InList.eb (x : InList) : EB := ⟨x.blk, x.off, 0⟩
structure InList.ok (x : InList) (w : World) : Prop where
  isNil : x.nil = true → x.l = []
  cap : x.nil = false → x.l.length ≤ x.cap
  lt : x.l.length < 9223372036854775808
  blk : x.nil = false → x.blk < w.heap.size
  cell : ∀ k n, x.l[k]? = some n → w.cell? ⟨x.blk, x.off + k, none⟩ = some (.int .i64 n)
  num : ∀ n ∈ x.l, -9223372036854775808 ≤ n ∧ n ≤ 9223372036854775807

theorem wf_i64 {n : Int} (h : (Lit.int .i64 n).wf = true) : -9223372036854775808 ≤ n ∧ n ≤ 9223372036854775807 := by
  have : (decide (IntKind.i64.min ≤ n) && decide (n ≤ IntKind.i64.max)) = true := h
  simp only [Bool.and_eq_true, decide_eq_true_eq] at this
  exact this

theorem open_list {H : Type} {enc : TypeId × Value → H} {P : Program} {w : World} {b0 : Nat} {t e : TypeId} {v : Value} {d : DataW H} {ps : List MemPlace} (ht : P.underlying t = some (.slice e)) (he : P.underlying e = some (.int .i64)) (hc : P.cellsOf e = 1)
    (hval : Value.okWide P w .any b0 t v) (hd : DataW.Trod enc P w 0 (fun _ => true) true t v d ps) : ∃ x : InList, v = x.val ∧ x.ok w := by
  have hval' := hval
  obtain ⟨a0, len, cap, rfl⟩ := okWide_slice ht hval
  obtain ⟨fuel, hf⟩ := hd
  rcases open_ints ht he hc hf with ⟨hcs, _⟩ | ⟨a, len', cap', zs, hcs, _, hl, hm, hz, _, hcell, hwz⟩
  · simp only [Value.cells, Array.toList] at hcs
    cases hcs
    exact ⟨⟨[], true, 0, 0, 0⟩, rfl, ⟨fun _ => rfl, fun h => (by cases h), by simp, fun h => (by cases h), by simp, by simp⟩⟩
  · simp only [Value.cells, Array.toList] at hcs
    cases hcs
    have hlen : zs.length = cap := by simpa using hz
    have hok : Cell.ok P w .any b0 t (.slice (some a) len cap) := by
      simp only [Value.okWide, ht, Cell.okWide] at hval'
      exact hval'
    simp only [Cell.ok, ht] at hok
    obtain ⟨_, _, _, hspot, row, cells, hsh, _⟩ := hok
    have hblk : a.block < w.heap.size := by
      unfold World.shape? at hsh
      rcases Nat.lt_or_ge a.block w.heap.size with h | h
      · exact h
      · rw [Array.getElem?_eq_none h] at hsh; cases hsh
    have hmax : cap ≤ 9223372036854775807 := hm
    obtain ⟨ab, ao, asp⟩ := a
    simp only at hspot hblk
    subst hspot
    have hlt : (zs.take len).length = len := by simp; omega
    refine ⟨⟨zs.take len, false, ab, ao, cap⟩, ?_, ⟨fun h => (by cases h), fun _ => (by rw [hlt]; exact hl), (by rw [hlt]; omega), fun _ => hblk, ?_, ?_⟩⟩
    · simp only [InList.val, Bool.false_eq_true, if_false, hlt]
    · intro k n hk
      rw [List.getElem?_take] at hk
      split at hk
      · rename_i hkl
        have h2 : k < zs.length := by omega
        have := hcell k h2
        rw [List.getD_eq_getElem?_getD, hk] at this
        by_cases hk0 : k = 0
        · subst hk0; simpa [Addr.add] using this
        · simpa [Addr.add, hk0] using this
      · cases hk
    · intro n hn
      exact wf_i64 (hwz n (List.mem_of_mem_take hn))

theorem InList.ri {x : InList} {w : World} {bs : List (Option (List AV))} {i : Nat} (hx : x.ok w) (hi : bs[i]? = some x.row) : RI (argHeap bs) (x.av i) x.l := by
  unfold InList.av
  cases hn : x.nil with
  | true =>
    rw [hx.isNil hn, if_pos rfl]; exact RI.nil
  | false =>
    rw [if_neg (by simp)]
    refine RI.known (argHeap_get (hi.trans ?_)) ⟨rfl, hx.lt⟩ (hx.cap hn)
    simp [InList.row, hn]
theorem InList.av_val {x : InList} {i : Nat} {lk : Nat → FuncId} {env : Env} (he : env i = x.eb) : (x.av i).val lk env = x.val := by
  unfold InList.av InList.val
  cases hn : x.nil with
  | true => rfl
  | false => simp [AV.val, he, InList.eb, Cap.at]
theorem InList.av_bel {x : InList} {w : World} {bs : List (Option (List AV))} {i : Nat} (hi : bs[i]? = some x.row) : (x.av i).bel (argHeap bs).ok := by
  unfold InList.av
  cases hn : x.nil with
  | true => trivial
  | false =>
    show (argHeap bs).ok i
    have : bs[i]? = some (some (ints x.l)) := hi.trans (by simp [InList.row, hn])
    simp [Heap.ok, argHeap_get this]
theorem InList.rowOk {C : Ctx} {x : InList} {w : World} {bs : List (Option (List AV))} {env : Env} {i : Nat} {vs : List AV} (hx : x.ok w) (he : env i = x.eb) (hv : x.row = some vs) : (env i).blk < w.heap.size ∧ (∀ v ∈ vs, v.bel (argHeap bs).ok) ∧
    ∀ k v, vs[k]? = some v → w.cell? ⟨(env i).blk, (env i).sh + k, none⟩ = some (v.val C.lk env) := by
  unfold InList.row at hv
  split at hv
  · cases hv
  · rename_i hn
    cases hv
    rw [he]
    refine ⟨hx.blk (by simpa using hn), ?_, ?_⟩
    · intro v hv
      obtain ⟨n, _, rfl⟩ := List.mem_map.1 hv
      trivial
    · intro k v hk
      simp only [ints, List.getElem?_map, Option.map_eq_some_iff] at hk
      obtain ⟨n, hn, rfl⟩ := hk
      exact hx.cell k n hn
end Go.Ae

/- A statement's arguments: structures, and lists of samples. -/
namespace Go.Ae
open Go.ChangeShapes Go.WideShapes Go.ChangeAt Go.RowKit

inductive Lf where
  | int (k : IntKind)
  | bool
  | ints
  deriving DecidableEq

def flatO (P : Program) (r : TypeId → Option (List Lf)) : List (TypeId × Nat) → Nat → Option (List Lf)
  | [], _ => some []
  | (t, o) :: fs, off => if o = off then match r t with
    | some ls => if P.cellsOf t = ls.length then (flatO P r fs (off + ls.length)).map (ls ++ ·) else none
    | none => none
    else none

def lfOf (P : Program) : Nat → TypeId → Option (List Lf)
  | 0, _ => none
  | n + 1, t => match P.underlying t with
    | some (.int k) => some [.int k]
    | some .bool => some [.bool]
    | some (.slice e) => match P.underlying e with
      | some (.int .i64) => if P.cellsOf e = 1 then some [.ints] else none
      | _ => none
    | some (.struct fs) => match flatO P (lfOf P n) (fs.toList.map fun f => (f.type, f.offset)) 0 with
      | some ls => if P.cellsOf t = ls.length then some ls else none
      | none => none
    | some (.array m e) => match flatO P (lfOf P n) ((List.range m).map fun i => (e, i * P.cellsOf e)) 0 with
      | some ls => if P.cellsOf t = ls.length then some ls else none
      | none => none
    | _ => none

def Fits (w : World) : List Lf → List Value → Prop
  | [], vs => vs = []
  | .int k :: ls, vs => ∃ n rest, vs = .int k n :: rest ∧ (Lit.int k n).wf = true ∧ Fits w ls rest
  | .bool :: ls, vs => ∃ b rest, vs = .bool b :: rest ∧ Fits w ls rest
  | .ints :: ls, vs => ∃ (x : InList) (rest : List Value), vs = x.val :: rest ∧ x.ok w ∧ Fits w ls rest

theorem Fits.append {w : World} : ∀ {ls ms : List Lf} {vs us : List Value}, Fits w ls vs → Fits w ms us → Fits w (ls ++ ms) (vs ++ us)
  | [], ms, vs, us, h, g => by cases h; exact g
  | .int k :: ls, ms, vs, us, ⟨n, rest, e, a, b⟩, g => ⟨n, rest ++ us, by rw [e]; rfl, a, b.append g⟩
  | .bool :: ls, ms, vs, us, ⟨n, rest, e, b⟩, g => ⟨n, rest ++ us, by rw [e]; rfl, b.append g⟩
  | .ints :: ls, ms, vs, us, ⟨n, rest, e, a, b⟩, g => ⟨n, rest ++ us, by rw [e]; rfl, a, b.append g⟩

def Side (w : World) (cs : List Value) : Prop := ∀ a len cap, Value.slice (some a) len cap ∈ cs → a.spot = none ∧ a.block < w.heap.size
theorem Side.part {w : World} {cs : List Value} (h : Side w cs) (a b : Nat) : Side w ((cs.drop a).take b) := fun x len cap hx => h x len cap (List.mem_of_mem_drop (List.mem_of_mem_take hx))

section
variable {H : Type} {enc : TypeId × Value → H} {P : Program} {w : World}

end

/-! ### Lists of samples -/
def smps (l : List (Int × Int)) : List AV := l.flatMap fun p => [.int .i64 p.1, .int .i64 p.2]
theorem smps_cons {p : Int × Int} {l : List (Int × Int)} : smps (p :: l) = .int .i64 p.1 :: .int .i64 p.2 :: smps l := rfl
theorem smps_length {l : List (Int × Int)} : (smps l).length = l.length * 2 := by
  induction l with
  | nil => rfl
  | cons p l ih => rw [smps_cons, List.length_cons, List.length_cons, List.length_cons, ih]; omega
theorem smps_get0 : ∀ {l : List (Int × Int)} {k : Nat}, (smps l)[k * 2]? = (l[k]?).map fun p => .int .i64 p.1
  | [], k => by simp [smps]
  | p :: l, 0 => rfl
  | p :: l, k + 1 => by rw [smps_cons, show (k + 1) * 2 = k * 2 + 1 + 1 by omega, List.getElem?_cons_succ, List.getElem?_cons_succ, List.getElem?_cons_succ]; exact smps_get0
theorem smps_get1 : ∀ {l : List (Int × Int)} {k : Nat}, (smps l)[k * 2 + 1]? = (l[k]?).map fun p => .int .i64 p.2
  | [], k => by simp [smps]
  | p :: l, 0 => rfl
  | p :: l, k + 1 => by rw [smps_cons, show (k + 1) * 2 + 1 = k * 2 + 1 + 1 + 1 by omega, List.getElem?_cons_succ, List.getElem?_cons_succ, List.getElem?_cons_succ]; exact smps_get1
theorem smps_append {l m : List (Int × Int)} : smps l ++ smps m = smps (l ++ m) := by simp [smps]
theorem smps_snoc {l : List (Int × Int)} {x y : Int} : smps l ++ [.int .i64 x, .int .i64 y] = smps (l ++ [(x, y)]) := by rw [← smps_append]; rfl
def SI (h : Heap) (v : AV) (l : List (Int × Int)) : Prop := SL h 2 v l.length (smps l)

structure InSmp where
  l : List (Int × Int)
  nil : Bool
  blk : Nat
  off : Nat
  cap : Nat
def InSmp.val (x : InSmp) : Value := if x.nil then .slice none 0 0 else .slice (some ⟨x.blk, x.off, none⟩) x.l.length x.cap
def InSmp.av (x : InSmp) (i : Nat) : AV := if x.nil then .nilslice else .slice i 0 x.l.length (.known x.cap)
def InSmp.row (x : InSmp) : Option (List AV) := if x.nil then none else some (smps x.l)
def InSmp.eb (x : InSmp) : EB := ⟨x.blk, x.off, 0⟩
structure InSmp.ok (x : InSmp) (w : World) : Prop where
  isNil : x.nil = true → x.l = []
  cap : x.nil = false → x.l.length ≤ x.cap
  lt : x.l.length < 9223372036854775808
  blk : x.nil = false → x.blk < w.heap.size
  cell : ∀ k p, x.l[k]? = some p → w.cell? ⟨x.blk, x.off + k * 2, none⟩ = some (.int .i64 p.1) ∧ w.cell? ⟨x.blk, x.off + k * 2 + 1, none⟩ = some (.int .i64 p.2)
  num : ∀ p ∈ x.l, (-9223372036854775808 ≤ p.1 ∧ p.1 ≤ 9223372036854775807) ∧ (-9223372036854775808 ≤ p.2 ∧ p.2 ≤ 9223372036854775807)

section
variable {H : Type} {enc : TypeId × Value → H} {P : Program} {w : World}
end

theorem SI.known {h : Heap} {l : List (Int × Int)} {i : Nat} {wr : Bool} {u c m : Nat} (hg : h.get i = some (.cells (smps l) wr u)) (hm : m = l.length ∧ m < 9223372036854775808) (hc : m ≤ c) : SI h (.slice i 0 m (.known c)) l := by
  obtain ⟨rfl, hm⟩ := hm
  refine ⟨smps_length, hm, .inr ⟨i, 0, _, _, wr, u, rfl, hg, by rw [smps_length]; omega, ?_, hc⟩⟩
  exact cut_all (by rw [smps_length])
theorem SI.nil {h : Heap} : SI h .nilslice [] := ⟨rfl, by decide, .inl ⟨rfl, rfl⟩⟩

theorem InSmp.ri {x : InSmp} {w : World} {bs : List (Option (List AV))} {i : Nat} (hx : x.ok w) (hi : bs[i]? = some x.row) : SI (argHeap bs) (x.av i) x.l := by
  unfold InSmp.av
  cases hn : x.nil with
  | true =>
    rw [hx.isNil hn, if_pos rfl]; exact SI.nil
  | false =>
    rw [if_neg (by simp)]
    refine SI.known (argHeap_get (hi.trans ?_)) ⟨rfl, hx.lt⟩ (hx.cap hn)
    simp [InSmp.row, hn]
theorem InSmp.av_val {x : InSmp} {i : Nat} {lk : Nat → FuncId} {env : Env} (he : env i = x.eb) : (x.av i).val lk env = x.val := by
  unfold InSmp.av InSmp.val
  cases hn : x.nil with
  | true => rfl
  | false => simp [AV.val, he, InSmp.eb, Cap.at]
theorem InSmp.av_bel {x : InSmp} {w : World} {bs : List (Option (List AV))} {i : Nat} (hi : bs[i]? = some x.row) : (x.av i).bel (argHeap bs).ok := by
  unfold InSmp.av
  cases hn : x.nil with
  | true => trivial
  | false =>
    show (argHeap bs).ok i
    have : bs[i]? = some (some (smps x.l)) := hi.trans (by simp [InSmp.row, hn])
    simp [Heap.ok, argHeap_get this]
theorem InSmp.rowOk {C : Ctx} {x : InSmp} {w : World} {bs : List (Option (List AV))} {env : Env} {i : Nat} {vs : List AV} (hx : x.ok w) (he : env i = x.eb) (hv : x.row = some vs) : (env i).blk < w.heap.size ∧ (∀ v ∈ vs, v.bel (argHeap bs).ok) ∧
    ∀ k v, vs[k]? = some v → w.cell? ⟨(env i).blk, (env i).sh + k, none⟩ = some (v.val C.lk env) := by
  unfold InSmp.row at hv
  split at hv
  · cases hv
  · rename_i hn
    cases hv
    rw [he]
    refine ⟨hx.blk (by simpa using hn), ?_, ?_⟩
    · intro v hv
      obtain ⟨p, _, hp⟩ := List.mem_flatMap.1 hv
      simp only [List.mem_cons, List.not_mem_nil, or_false] at hp
      rcases hp with rfl | rfl <;> trivial
    · intro k v hk
      rcases Nat.mod_two_eq_zero_or_one k with e | e
      · obtain ⟨j, rfl⟩ : ∃ j, k = j * 2 := ⟨k / 2, by omega⟩
        rw [smps_get0, Option.map_eq_some_iff] at hk
        obtain ⟨p, hp, rfl⟩ := hk
        exact (hx.cell j p hp).1
      · obtain ⟨j, rfl⟩ : ∃ j, k = j * 2 + 1 := ⟨k / 2, by omega⟩
        rw [smps_get1, Option.map_eq_some_iff] at hk
        obtain ⟨p, hp, rfl⟩ := hk
        exact (hx.cell j p hp).2
end Go.Ae

/- The rules for the simplifier, bundled. Printed by a program. -/
namespace Go.Ae
theorem wpPre :
    (∀ {C : Ctx} {nt : Nat} {rd : Option Nat} {a b : ACode} {Q : Out → St → Prop} {st : St}, @Eq Prop (wp C nt rd (ACode.seq a b) Q st) (wp C nt rd a (thenO (wp C nt rd b Q) Q) st)) ∧
    (∀ {C : Ctx} {nt : Nat} {rd : Option Nat} {ops : List AOper} {Q : Out → St → Prop} {st : St}, @Eq Prop (wp C nt rd (ACode.region ops) Q st) (wpOps C ops (Q Out.normal) st)) ∧
    (∀ {C : Ctx} {nt : Nat} {rd : Option Nat} {n : Nat} {ds : List DItem} {Q : Out → St → Prop} {st : St}, @Eq Prop (wp C nt rd (ACode.draw n ds) Q st) (wpDraw C n ds (Q Out.normal) st)) ∧
    (∀ {C : Ctx} {nt : Nat} {rd : Option Nat} {c : AOpd} {a b : ACode} {Q : Out → St → Prop} {st : St}, @Eq Prop (wp C nt rd (ACode.cond c a b) Q st) (@condV (AOpd.ev (St.t st) c) (Hold.mk (wp C nt rd a Q st)) (Hold.mk (wp C nt rd b Q st)))) ∧
    (∀ {C : Ctx} {nt : Nat} {rd : Option Nat} {id : Nat} {c : ACode} {Q : Out → St → Prop} {st : St}, @Eq Prop (wp C nt rd (ACode.block id c) Q st) (wp C nt rd c (blockO id Q) st)) ∧
    (∀ {C : Ctx} {nt : Nat} {rd : Option Nat} {Q : Out → St → Prop} {st : St}, @Eq Prop (wp C nt rd ACode.skip Q st) (Q Out.normal st)) ∧
    (∀ {C : Ctx} {nt : Nat} {rd : Option Nat} {id : Nat} {Q : Out → St → Prop} {st : St}, @Eq Prop (wp C nt rd (ACode.exit id) Q st) (Q (Out.exit id) st)) ∧
    (∀ {C : Ctx} {nt : Nat} {rd : Option Nat} {Q : Out → St → Prop} {st : St}, @Eq Prop (wp C nt rd ACode.ret Q st) (Q Out.ret st)) ∧
    (∀ {C : Ctx} {nt : Nat} {rd : Option Nat} {f : AOpd} {ps : List Nat} {a b : ACode} {Q : Out → St → Prop} {st : St}, @Eq Prop (wp C nt rd (ACode.rangeFunc f ps a b) Q st) (wpRange C nt rd (AOpd.ev (St.t st) f) ps a b Q st)) ∧
    (∀ {K : St → Prop} {Q : Out → St → Prop} {st : St}, @Eq Prop (thenO K Q Out.normal st) (K st)) ∧
    (∀ {K : St → Prop} {Q : Out → St → Prop} {id : Nat} {st : St}, @Eq Prop (thenO K Q (Out.exit id) st) (Q (Out.exit id) st)) ∧
    (∀ {K : St → Prop} {Q : Out → St → Prop} {st : St}, @Eq Prop (thenO K Q Out.ret st) (Q Out.ret st)) ∧
    (∀ {i : Nat} {Q : Out → St → Prop} {st : St}, @Eq Prop (blockO i Q (Out.exit i) st) (Q Out.normal st)) ∧
    (∀ {i j : Nat} {Q : Out → St → Prop} {st : St}, @Eq Bool (@BEq.beq Nat (@instBEqOfDecidableEq Nat instDecidableEqNat) j i) false → @Eq Prop (blockO i Q (Out.exit j) st) (Q (Out.exit j) st)) ∧
    (∀ {i : Nat} {Q : Out → St → Prop} {st : St}, @Eq Prop (blockO i Q Out.normal st) (Q Out.normal st)) ∧
    (∀ {i : Nat} {Q : Out → St → Prop} {st : St}, @Eq Prop (blockO i Q Out.ret st) (Q Out.ret st)) ∧
    (∀ {C : Ctx} {K : St → Prop} {st : St}, @Eq Prop (wpOps C (@List.nil AOper) K st) (K st)) ∧
    (∀ {C : Ctx} {d : Option Nat} {op : AOp} {os : List AOper} {K : St → Prop} {st : St}, @Eq Prop (wpOps C (@List.cons AOper (AOper.mk d op (@none (Prod Nat Bool))) os) K st) (wpOp C (@none Nat) (AOper.mk d op (@none (Prod Nat Bool))) (wpOps C os K) st)) ∧
    (∀ {C : Ctx} {d : Option Nat} {op : AOp} {s : Nat} {w : Bool} {os : List AOper} {K : St → Prop} {st : St}, @Eq Prop (wpOps C (@List.cons AOper (AOper.mk d op (@some (Prod Nat Bool) (@Prod.mk Nat Bool s w))) os) K st) (@gV (St.t st s) w (Hold.mk (wpOp C (@none Nat) (AOper.mk d op (@some (Prod Nat Bool) (@Prod.mk Nat Bool s w))) (wpOps C os K) st)) (Hold.mk (wpOps C os K (St.put st d AV.undef))))) ∧
    (∀ {C : Ctx} {nid d : Option Nat} {f : AOpd} {args : List AOpd} {g : Option (Prod Nat Bool)} {K : St → Prop} {st : St}, @Eq Prop (wpOp C nid (AOper.mk d (AOp.call f args) g) K st) (@Call C (AOpd.ev (St.t st) f) (@List.map AOpd AV (AOpd.ev (St.t st)) args) (St.h st) (HoldR.mk fun r h' => K (St.put (St.mk (St.t st) h' (St.m st)) d r)))) ∧
    (∀ {C : Ctx} {nid d : Option Nat} {op : AOp} {g : Option (Prod Nat Bool)} {K : St → Prop} {st : St}, @Eq Bool (AOp.isCall op) false → @Eq Prop (wpOp C nid (AOper.mk d op g) K st) (@opR nid op (AOpd.ev (St.t st)) (St.h st) (HoldR.mk fun v h' => K (St.put (St.mk (St.t st) h' (St.m st)) d v)))) ∧
    (∀ {t : Nat → AV} {h : Heap} {m : List Nat} {s : Nat} {v : AV}, @Eq St (St.put (St.mk t h m) (@some Nat s) v) (St.mk (upd t s v) h m)) ∧
    (∀ {t : Nat → AV} {h : Heap} {m : List Nat} {v : AV}, @Eq St (St.put (St.mk t h m) (@none Nat) v) (St.mk t h m)) ∧
    (∀ {C : Ctx} {ds : List DItem} {K : St → Prop} {st : St}, @Eq Prop (wpDraw C (@OfNat.ofNat Nat (nat_lit 0) (instOfNatNat (nat_lit 0))) ds K st) (wpD C (Heap.size (St.h st)) ds (@List.nil (Prod Nat (Prod (List Nat) (List Nat)))) K st)) ∧
    (∀ {C : Ctx} {n : Nat} {ds : List DItem} {K : St → Prop} {t : Nat → AV} {h : Heap} {m : List Nat}, @Eq Bool (@BEq.beq Nat (@instBEqOfDecidableEq Nat instDecidableEqNat) n (@OfNat.ofNat Nat (nat_lit 0) (instOfNatNat (nat_lit 0)))) false → @Eq Prop (wpDraw C n ds K (St.mk t h m)) (wpD C (Heap.size h) ds (@List.nil (Prod Nat (Prod (List Nat) (List Nat)))) K (St.mk t (Heap.reserve h n) m))) ∧
    (∀ {res : List ARes} {Post : AV → Heap → Prop} {t : Nat → AV} {h : Heap} {i : Nat} {m : List Nat}, @Eq Prop (retO res Post Out.ret (St.mk t h (@List.cons Nat i m))) (@atDefd (Heap.get h i) (Hold.mk (retO res Post Out.ret (St.mk t (Heap.put h i (ABlk.defd false)) m))))) ∧
    (∀ {res : List ARes} {Post : AV → Heap → Prop} {t : Nat → AV} {h : Heap} {i : Nat} {m : List Nat}, @Eq Prop (retO res Post Out.normal (St.mk t h (@List.cons Nat i m))) (@atDefd (Heap.get h i) (Hold.mk (retO res Post Out.normal (St.mk t (Heap.put h i (ABlk.defd false)) m))))) ∧
    (∀ {C : Ctx} {nt l : Nat} {body : ACode} {Post : AV → Heap → Prop} {st : St}, @Eq Prop (beginO C nt l body Post Out.normal st) (@atLoop (Heap.get (St.h st) l) (HoldL.mk fun r => And (@Eq LoopState (ALoop.state r) LoopState.ready) (wp C nt (@some Nat l) body (roundO l Post) (St.mk (St.t st) (Heap.put (St.h st) l (ABlk.loop (ALoop.mk LoopState.busy (ALoop.pend r) (ALoop.t r) (ALoop.nt r) (ALoop.params r) (ALoop.assign r) (ALoop.body r) (ALoop.defers r)))) (St.m st)))))) ∧
    (∀ {l : Nat} {Post : AV → Heap → Prop} {st : St}, @Eq Prop (roundO l Post Out.normal st) (@atLoop (Heap.get (St.h st) l) (HoldL.mk fun r => Post (AV.bool true) (Heap.put (St.h st) l (ABlk.loop (ALoop.mk LoopState.ready (@none Out) (ALoop.t r) (ALoop.nt r) (ALoop.params r) (ALoop.assign r) (ALoop.body r) (ALoop.defers r))))))) ∧
    (∀ {l i : Nat} {Post : AV → Heap → Prop} {st : St}, @Eq Prop (roundO l Post (Out.exit i) st) (@atLoop (Heap.get (St.h st) l) (HoldL.mk fun r => Post (AV.bool false) (Heap.put (St.h st) l (ABlk.loop (ALoop.mk LoopState.done (@some Out (Out.exit i)) (ALoop.t r) (ALoop.nt r) (ALoop.params r) (ALoop.assign r) (ALoop.body r) (ALoop.defers r))))))) ∧
    (∀ {l : Nat} {Post : AV → Heap → Prop} {st : St}, @Eq Prop (roundO l Post Out.ret st) (@atLoop (Heap.get (St.h st) l) (HoldL.mk fun r => Post (AV.bool false) (Heap.put (St.h st) l (ABlk.loop (ALoop.mk LoopState.done (@some Out Out.ret) (ALoop.t r) (ALoop.nt r) (ALoop.params r) (ALoop.assign r) (ALoop.body r) (ALoop.defers r))))))) ∧
    (∀ {C : Ctx} {base : Nat} {acc : Acc} {K : St → Prop} {st : St}, @Eq Prop (wpD C base (@List.nil DItem) acc K st) (K st)) ∧
    (∀ {C : Ctx} {base k : Nat} {mem : Bool} {ck : List Nat} {d : Option Nat} {op : AOp} {s : Nat} {w : Bool} {ds : List DItem} {acc : Acc} {K : St → Prop} {st : St}, @Eq Prop (wpD C base (@List.cons DItem (DItem.mk k mem ck (AOper.mk d op (@some (Prod Nat Bool) (@Prod.mk Nat Bool s w)))) ds) acc K st) (@gV (St.t st s) w (Hold.mk (wpD C base (@List.cons DItem (DItem.mk k mem ck (AOper.mk d op (@none (Prod Nat Bool)))) ds) acc K st)) (Hold.mk (wpD C base ds acc K (St.put st d AV.undef))))) ∧
    (∀ {C : Ctx} {base k : Nat} {ck : List Nat} {d : Option Nat} {op : AOp} {ds : List DItem} {acc : Acc} {K : St → Prop} {st : St}, @Eq Bool (AOp.isCall op) false → @Eq Prop (wpD C base (@List.cons DItem (DItem.mk k false ck (AOper.mk d op (@none (Prod Nat Bool)))) ds) acc K st) (And (chkP acc ck op (AOpd.ev (St.t st)) (@HAdd.hAdd Nat Nat Nat (@instHAdd Nat instAddNat) base k)) (@opR (@some Nat (@HAdd.hAdd Nat Nat Nat (@instHAdd Nat instAddNat) base k)) op (AOpd.ev (St.t st)) (St.h st) (HoldR.mk fun v h' => wpD C base ds acc K (St.put (St.mk (St.t st) h' (St.m st)) d v))))) ∧
    (∀ {C : Ctx} {base k : Nat} {ck : List Nat} {d : Option Nat} {op : AOp} {ds : List DItem} {acc : Acc} {K : St → Prop} {st : St}, @Eq Bool (AOp.isCall op) false → @Eq Prop (wpD C base (@List.cons DItem (DItem.mk k true ck (AOper.mk d op (@none (Prod Nat Bool)))) ds) acc K st) (And (chkP acc ck op (AOpd.ev (St.t st)) (@HAdd.hAdd Nat Nat Nat (@instHAdd Nat instAddNat) base k)) (@opR (@some Nat (@HAdd.hAdd Nat Nat Nat (@instHAdd Nat instAddNat) base k)) op (AOpd.ev (St.t st)) (St.h st) (HoldR.mk fun v h' => wpD C base ds (@List.cons (Prod Nat (Prod (List Nat) (List Nat))) (@Prod.mk Nat (Prod (List Nat) (List Nat)) k (@Prod.mk (List Nat) (List Nat) (footA op (AOpd.ev (St.t st)) (@HAdd.hAdd Nat Nat Nat (@instHAdd Nat instAddNat) base k)) (wrA op (AOpd.ev (St.t st)) (@HAdd.hAdd Nat Nat Nat (@instHAdd Nat instAddNat) base k)))) acc) K (St.put (St.mk (St.t st) h' (St.m st)) d v))))) ∧
    (∀ {C : Ctx} {base k : Nat} {mem : Bool} {ck : List Nat} {d : Option Nat} {f : AOpd} {args : List AOpd} {ds : List DItem} {acc : Acc} {K : St → Prop} {st : St}, @Eq Prop (wpD C base (@List.cons DItem (DItem.mk k mem ck (AOper.mk d (AOp.call f args) (@none (Prod Nat Bool)))) ds) acc K st) (@Call C (AOpd.ev (St.t st) f) (@List.map AOpd AV (AOpd.ev (St.t st)) args) (St.h st) (HoldR.mk fun r h' => And (chkS acc ck (St.h st) h') (wpD C base ds acc K (St.put (St.mk (St.t st) h' (St.m st)) d r))))) :=
  ⟨@wp_seq,
   @wp_region,
   @wp_draw,
   @wp_cond,
   @wp_block,
   @wp_skip,
   @wp_exit,
   @wp_ret,
   @wp_range,
   @thenO_normal,
   @thenO_exit,
   @thenO_ret,
   @blockO_same,
   @blockO_other,
   @blockO_normal,
   @blockO_ret,
   @wpOps_nil,
   @wpOps_cons,
   @wpOps_guard,
   @wpOp_call,
   @wpOp_op,
   @put_some,
   @put_none,
   @wpDraw_zero,
   @wpDraw_some,
   @retO_marks,
   @retO_marksN,
   @beginO_normal,
   @roundO_normal,
   @roundO_exit,
   @roundO_ret,
   @wpD_nil,
   @wpD_guard,
   @wpD_op,
   @wpD_opM,
   @wpD_call⟩
theorem wpPost :
    (∀ {h : Heap} {nid : Option Nat} {sz bytes i o n c m : Nat} {news : List AV}, @Ne Nat m (@OfNat.ofNat Nat (nat_lit 0) (instOfNatNat (nat_lit 0))) → @Eq (Option (Prod AV Heap)) (appendA h nid sz bytes (AV.slice i o n (Cap.known c)) m news) (appKB h nid sz bytes i o n c m news (Heap.get h i))) ∧
    (∀ {h : Heap} {sz bytes i o n c m : Nat} {news vs : List AV} {u : Nat}, @LE.le Nat instLENat (@HAdd.hAdd Nat Nat Nat (@instHAdd Nat instAddNat) o (@HMul.hMul Nat Nat Nat (@instHMul Nat instMulNat) n sz)) (@List.length AV vs) → @LT.lt Nat instLTNat c (@HAdd.hAdd Nat Nat Nat (@instHAdd Nat instAddNat) n m) → @LE.le Nat instLENat (@HMul.hMul Nat Nat Nat (@instHMul Nat instMulNat) (@HAdd.hAdd Nat Nat Nat (@instHAdd Nat instAddNat) n m) bytes) (@OfNat.ofNat Nat (nat_lit 1099511627776) (instOfNatNat (nat_lit 1099511627776))) → @Eq (Option (Prod AV Heap)) (appKB h (@none Nat) sz bytes i o n c m news (@some ABlk (ABlk.cells vs true u))) (@some (Prod AV Heap) (@Prod.mk AV Heap (AV.slice (Heap.size h) (@OfNat.ofNat Nat (nat_lit 0) (instOfNatNat (nat_lit 0))) (@HAdd.hAdd Nat Nat Nat (@instHAdd Nat instAddNat) n m) (Cap.unk (@OfNat.ofNat Nat (nat_lit 0) (instOfNatNat (nat_lit 0))))) (Heap.push h (ABlk.cells (@HAppend.hAppend (List AV) (List AV) (List AV) (@instHAppendOfAppend (List AV) (@List.instAppend AV)) (cut vs o (@HMul.hMul Nat Nat Nat (@instHMul Nat instMulNat) n sz)) news) true sz))))) ∧
    (∀ {h : Heap} {nid : Option Nat} {sz bytes i o n c m : Nat} {news vs : List AV} {u : Nat}, @LE.le Nat instLENat (@HAdd.hAdd Nat Nat Nat (@instHAdd Nat instAddNat) o (@HMul.hMul Nat Nat Nat (@instHMul Nat instMulNat) n sz)) (@List.length AV vs) → @LE.le Nat instLENat (@HAdd.hAdd Nat Nat Nat (@instHAdd Nat instAddNat) n m) c → @LE.le Nat instLENat (@HAdd.hAdd Nat Nat Nat (@instHAdd Nat instAddNat) o (@HMul.hMul Nat Nat Nat (@instHMul Nat instMulNat) (@HAdd.hAdd Nat Nat Nat (@instHAdd Nat instAddNat) n m) sz)) (@List.length AV vs) → @Eq Bool (@List.all AV news AV.one) true → @Eq (Option (Prod AV Heap)) (appKB h nid sz bytes i o n c m news (@some ABlk (ABlk.cells vs true u))) (@some (Prod AV Heap) (@Prod.mk AV Heap (AV.slice i o (@HAdd.hAdd Nat Nat Nat (@instHAdd Nat instAddNat) n m) (Cap.known c)) (Heap.put h i (ABlk.cells (splice vs (@HAdd.hAdd Nat Nat Nat (@instHAdd Nat instAddNat) o (@HMul.hMul Nat Nat Nat (@instHMul Nat instMulNat) n sz)) news) true u))))) ∧
    (∀ {h : Heap} {nid : Option Nat} {sz bytes i o n l m : Nat} {news : List AV}, @Eq (Option (Prod AV Heap)) (appendA h nid sz bytes (AV.slice i o n (Cap.unk l)) m news) (appUB h nid sz bytes i o n l m news (Heap.get h i))) ∧
    (∀ {h : Heap} {sz bytes i n m : Nat} {news vs : List AV}, @LE.le Nat instLENat (@HMul.hMul Nat Nat Nat (@instHMul Nat instMulNat) n sz) (@List.length AV vs) → @LT.lt Nat instLTNat (@OfNat.ofNat Nat (nat_lit 0) (instOfNatNat (nat_lit 0))) m → @LE.le Nat instLENat (@HMul.hMul Nat Nat Nat (@instHMul Nat instMulNat) (@HAdd.hAdd Nat Nat Nat (@instHAdd Nat instAddNat) n m) bytes) (@OfNat.ofNat Nat (nat_lit 1099511627776) (instOfNatNat (nat_lit 1099511627776))) → @Eq Bool (@List.all AV news AV.one) true → @Eq (Option (Prod AV Heap)) (appUB h (@none Nat) sz bytes i (@OfNat.ofNat Nat (nat_lit 0) (instOfNatNat (nat_lit 0))) n (@OfNat.ofNat Nat (nat_lit 0) (instOfNatNat (nat_lit 0))) m news (@some ABlk (ABlk.cells vs true sz))) (@some (Prod AV Heap) (@Prod.mk AV Heap (AV.slice (Heap.size h) (@OfNat.ofNat Nat (nat_lit 0) (instOfNatNat (nat_lit 0))) (@HAdd.hAdd Nat Nat Nat (@instHAdd Nat instAddNat) n m) (Cap.unk (@OfNat.ofNat Nat (nat_lit 0) (instOfNatNat (nat_lit 0))))) (Heap.push (Heap.put h i ABlk.dead) (ABlk.cells (@HAppend.hAppend (List AV) (List AV) (List AV) (@instHAppendOfAppend (List AV) (@List.instAppend AV)) (cut vs (@OfNat.ofNat Nat (nat_lit 0) (instOfNatNat (nat_lit 0))) (@HMul.hMul Nat Nat Nat (@instHMul Nat instMulNat) n sz)) news) true sz))))) ∧
    (∀ {h : Heap} {sz bytes m : Nat} {news : List AV}, @Ne Nat m (@OfNat.ofNat Nat (nat_lit 0) (instOfNatNat (nat_lit 0))) → @LE.le Nat instLENat (@HMul.hMul Nat Nat Nat (@instHMul Nat instMulNat) m bytes) (@OfNat.ofNat Nat (nat_lit 1099511627776) (instOfNatNat (nat_lit 1099511627776))) → @Eq (Option (Prod AV Heap)) (appendA h (@none Nat) sz bytes AV.nilslice m news) (@some (Prod AV Heap) (@Prod.mk AV Heap (AV.slice (Heap.size h) (@OfNat.ofNat Nat (nat_lit 0) (instOfNatNat (nat_lit 0))) m (Cap.unk (@OfNat.ofNat Nat (nat_lit 0) (instOfNatNat (nat_lit 0))))) (Heap.push h (ABlk.cells news true sz))))) ∧
    (∀ {h : Heap} {nid : Option Nat} {sz bytes : Nat} {news : List AV}, @Eq (Option (Prod AV Heap)) (appendA h nid sz bytes AV.nilslice (@OfNat.ofNat Nat (nat_lit 0) (instOfNatNat (nat_lit 0))) news) (@some (Prod AV Heap) (@Prod.mk AV Heap AV.nilslice h))) ∧
    (∀ {nid : Option Nat} {sz bytes : Nat} {h : Heap} {s : AV} {m : Nat} {news : List AV}, @Eq (Option (Prod AV Heap)) (appA nid sz bytes h s (@some (Prod Nat (List AV)) (@Prod.mk Nat (List AV) m news))) (appendA h nid sz bytes s m news)) ∧
    (∀ {p : Prop}, @Eq Prop (@atDefd (@some ABlk (ABlk.defd true)) (Hold.mk p)) p) ∧
    (∀ {res : List ARes} {Post : AV → Heap → Prop} {t : Nat → AV} {h : Heap}, @Eq Prop (retO res Post Out.ret (St.mk t h (@List.nil Nat))) (retO_ret.match_1 (fun x => Prop) (resA t h res) (fun vs => Post (retA vs) h) fun _ => False)) ∧
    (∀ {res : List ARes} {Post : AV → Heap → Prop} {t : Nat → AV} {h : Heap}, @Eq Prop (retO res Post Out.normal (St.mk t h (@List.nil Nat))) (retO_ret.match_1 (fun x => Prop) (resA t h res) (fun vs => Post (retA vs) h) fun _ => False)) ∧
    (∀ {acc : Acc} {op : AOp} {ev : AOpd → AV} {n : Nat}, @Eq Prop (chkP acc (@List.nil Nat) op ev n) True) ∧
    (∀ {ck : List Nat} {op : AOp} {ev : AOpd → AV} {n : Nat}, @Eq Prop (chkP (@List.nil (Prod Nat (Prod (List Nat) (List Nat)))) ck op ev n) True) ∧
    (∀ {k : Nat} {f w : List Nat} {acc : List (Prod Nat (Prod (List Nat) (List Nat)))} {ck : List Nat} {op : AOp} {ev : AOpd → AV} {n : Nat}, @Eq Bool (@List.contains Nat (@instBEqOfDecidableEq Nat instDecidableEqNat) ck k) false → @Eq Prop (chkP (@List.cons (Prod Nat (Prod (List Nat) (List Nat))) (@Prod.mk Nat (Prod (List Nat) (List Nat)) k (@Prod.mk (List Nat) (List Nat) f w)) acc) ck op ev n) (chkP acc ck op ev n)) ∧
    (∀ {k : Nat} {f w : List Nat} {acc : List (Prod Nat (Prod (List Nat) (List Nat)))} {ck : List Nat} {op : AOp} {ev : AOpd → AV} {n : Nat}, @Eq Bool (@List.contains Nat (@instBEqOfDecidableEq Nat instDecidableEqNat) ck k) true → @Eq Prop (chkP (@List.cons (Prod Nat (Prod (List Nat) (List Nat))) (@Prod.mk Nat (Prod (List Nat) (List Nat)) k (@Prod.mk (List Nat) (List Nat) f w)) acc) ck op ev n) (And (And (NoneIn f (wrA op ev n)) (NoneIn w (footA op ev n))) (chkP acc ck op ev n))) ∧
    (∀ {acc : Acc} {h h' : Heap}, @Eq Prop (chkS acc (@List.nil Nat) h h') True) ∧
    (∀ {ck : List Nat} {h h' : Heap}, @Eq Prop (chkS (@List.nil (Prod Nat (Prod (List Nat) (List Nat)))) ck h h') True) ∧
    (∀ {k : Nat} {f w : List Nat} {acc : List (Prod Nat (Prod (List Nat) (List Nat)))} {ck : List Nat} {h h' : Heap}, @Eq Bool (@List.contains Nat (@instBEqOfDecidableEq Nat instDecidableEqNat) ck k) false → @Eq Prop (chkS (@List.cons (Prod Nat (Prod (List Nat) (List Nat))) (@Prod.mk Nat (Prod (List Nat) (List Nat)) k (@Prod.mk (List Nat) (List Nat) f w)) acc) ck h h') (chkS acc ck h h')) ∧
    (∀ {k : Nat} {f w : List Nat} {acc : List (Prod Nat (Prod (List Nat) (List Nat)))} {ck : List Nat} {h h' : Heap}, @Eq Bool (@List.contains Nat (@instBEqOfDecidableEq Nat instDecidableEqNat) ck k) true → @Eq Prop (chkS (@List.cons (Prod Nat (Prod (List Nat) (List Nat))) (@Prod.mk Nat (Prod (List Nat) (List Nat)) k (@Prod.mk (List Nat) (List Nat) f w)) acc) ck h h') (And (∀ (i : Nat), @Membership.mem Nat (List Nat) (@List.instMembership Nat) f i → @Eq (Option ABlk) (Heap.get h' i) (Heap.get h i)) (chkS acc ck h h'))) ∧
    (∀ {ys : List Nat}, @Eq Prop (NoneIn (@List.nil Nat) ys) True) ∧
    (∀ {xs : List Nat}, @Eq Prop (NoneIn xs (@List.nil Nat)) True) ∧
    (∀ {x : Nat} {xs ys : List Nat}, Not (@Membership.mem Nat (List Nat) (@List.instMembership Nat) ys x) → @Eq Prop (NoneIn (@List.cons Nat x xs) ys) (NoneIn xs ys)) ∧
    (∀ {i o : Nat}, @Eq (List Nat) (AV.ids (AV.ptr i o)) (@List.cons Nat i (@List.nil Nat))) ∧
    (∀ {i o n : Nat} {c : Cap}, @Eq (List Nat) (AV.ids (AV.slice i o n c)) (@List.cons Nat i (@List.nil Nat))) ∧
    (@Eq (List Nat) (AV.ids AV.nilslice) (@List.nil Nat)) ∧
    (∀ {k : IntKind} {n : Int}, @Eq (List Nat) (AV.ids (AV.int k n)) (@List.nil Nat)) ∧
    (∀ {b : Bool}, @Eq (List Nat) (AV.ids (AV.bool b)) (@List.nil Nat)) ∧
    (∀ {vs : List AV}, @Eq (List Nat) (AV.ids (AV.agg vs)) (@List.nil Nat)) ∧
    (∀ {i o n c : Nat}, @Eq (List Nat) (AV.rids (AV.slice i o n (Cap.known c))) (@List.nil Nat)) ∧
    (∀ {i o n l : Nat}, @Eq (List Nat) (AV.rids (AV.slice i o n (Cap.unk l))) (@List.cons Nat i (@List.nil Nat))) ∧
    (@Eq (List Nat) (AV.rids AV.nilslice) (@List.nil Nat)) ∧
    (∀ {op : AOp} {ev : AOpd → AV} {n : Nat}, @Eq Bool (AOp.blind op) true → @Eq (List Nat) (footA op ev n) (@List.nil Nat)) ∧
    (∀ {op : AOp} {ev : AOpd → AV} {n : Nat}, @Eq Bool (AOp.blind op) true → @Eq (List Nat) (wrA op ev n) (@List.nil Nat)) ∧
    (∀ {agg : Bool} {m : Nat} {x : AOpd} {ev : AOpd → AV} {n : Nat}, @Eq (List Nat) (footA (AOp.load agg m x) ev n) (AV.ids (ev x))) ∧
    (∀ {agg : Bool} {m : Nat} {x : AOpd} {ev : AOpd → AV} {n : Nat}, @Eq (List Nat) (wrA (AOp.load agg m x) ev n) (@List.nil Nat)) ∧
    (∀ {m : Nat} {x v : AOpd} {ev : AOpd → AV} {n : Nat}, @Eq (List Nat) (footA (AOp.store m x v) ev n) (AV.ids (ev x))) ∧
    (∀ {m : Nat} {x v : AOpd} {ev : AOpd → AV} {n : Nat}, @Eq (List Nat) (wrA (AOp.store m x v) ev n) (AV.ids (ev x))) ∧
    (∀ {sz : Nat} {x : AOpd} {lo hi mx : Option AOpd} {ev : AOpd → AV} {n : Nat}, @Eq (List Nat) (footA (AOp.slice sz x lo hi mx) ev n) (AV.rids (ev x))) ∧
    (∀ {sz : Nat} {x : AOpd} {lo hi mx : Option AOpd} {ev : AOpd → AV} {n : Nat}, @Eq (List Nat) (wrA (AOp.slice sz x lo hi mx) ev n) (@List.nil Nat)) ∧
    (∀ {sz b : Nat} {s x : AOpd} {ev : AOpd → AV} {n : Nat}, @Eq (List Nat) (footA (AOp.append sz b s x) ev n) (@HAppend.hAppend (List Nat) (List Nat) (List Nat) (@instHAppendOfAppend (List Nat) (@List.instAppend Nat)) (@HAppend.hAppend (List Nat) (List Nat) (List Nat) (@instHAppendOfAppend (List Nat) (@List.instAppend Nat)) (AV.ids (ev s)) (AV.ids (ev x))) (@List.cons Nat n (@List.nil Nat)))) ∧
    (∀ {sz b : Nat} {s x : AOpd} {ev : AOpd → AV} {n : Nat}, @Eq (List Nat) (wrA (AOp.append sz b s x) ev n) (@HAppend.hAppend (List Nat) (List Nat) (List Nat) (@instHAppendOfAppend (List Nat) (@List.instAppend Nat)) (AV.ids (ev s)) (@List.cons Nat n (@List.nil Nat)))) ∧
    (∀ {z : List AV} {ev : AOpd → AV} {n : Nat}, @Eq (List Nat) (footA (AOp.alloc z) ev n) (@List.cons Nat n (@List.nil Nat))) ∧
    (∀ {z : List AV} {ev : AOpd → AV} {n : Nat}, @Eq (List Nat) (wrA (AOp.alloc z) ev n) (@List.cons Nat n (@List.nil Nat))) ∧
    (∀ {x : AOpd} {ev : AOpd → AV} {n : Nat}, @Eq (List Nat) (footA (AOp.box x) ev n) (@List.cons Nat n (@List.nil Nat))) ∧
    (∀ {x : AOpd} {ev : AOpd → AV} {n : Nat}, @Eq (List Nat) (wrA (AOp.box x) ev n) (@List.cons Nat n (@List.nil Nat))) ∧
    (∀ {m : Nat} {z : List AV} {ps : List (Prod Nat (Prod Nat AOpd))} {ev : AOpd → AV} {n : Nat}, @Eq (List Nat) (footA (AOp.buildSlice m z ps) ev n) (@List.cons Nat n (@List.nil Nat))) ∧
    (∀ {m : Nat} {z : List AV} {ps : List (Prod Nat (Prod Nat AOpd))} {ev : AOpd → AV} {n : Nat}, @Eq (List Nat) (wrA (AOp.buildSlice m z ps) ev n) (@List.cons Nat n (@List.nil Nat))) ∧
    (∀ {z : List AV} {b : Nat} {l c : AOpd} {ev : AOpd → AV} {n : Nat}, @Eq (List Nat) (footA (AOp.makeSlice z b l c) ev n) (@List.cons Nat n (@List.nil Nat))) ∧
    (∀ {z : List AV} {b : Nat} {l c : AOpd} {ev : AOpd → AV} {n : Nat}, @Eq (List Nat) (wrA (AOp.makeSlice z b l c) ev n) (@List.cons Nat n (@List.nil Nat))) ∧
    (∀ {sz : Nat} {d s : AOpd} {ev : AOpd → AV} {n : Nat}, @Eq (List Nat) (footA (AOp.copy sz d s) ev n) (@HAppend.hAppend (List Nat) (List Nat) (List Nat) (@instHAppendOfAppend (List Nat) (@List.instAppend Nat)) (AV.ids (ev d)) (AV.ids (ev s)))) ∧
    (∀ {sz : Nat} {d s : AOpd} {ev : AOpd → AV} {n : Nat}, @Eq (List Nat) (wrA (AOp.copy sz d s) ev n) (AV.ids (ev d))) ∧
    (∀ (p : Prop), @Eq Prop (False → p) True) ∧
    (∀ (p : Prop), @Eq Prop (And True p) p) ∧
    (∀ (p : Prop), @Eq Prop (And p True) p) ∧
    (∀ {t : Nat → AV} {h : Heap}, @Eq (Option (List AV)) (resA t h (@List.nil ARes)) (@some (List AV) (@List.nil AV))) ∧
    (∀ {t : Nat → AV} {h : Heap} {s : Nat} {rs : List ARes}, @Eq (Option (List AV)) (resA t h (@List.cons ARes (ARes.tmp s) rs)) (retO_ret.match_1 (fun x => Option (List AV)) (resA t h rs) (fun vs => @some (List AV) (@List.cons AV (t s) vs)) fun _ => @none (List AV))) ∧
    (∀ {t : Nat → AV} {h : Heap} {s : Nat} {agg : Bool} {n : Nat} {rs : List ARes}, @Eq (Option (List AV)) (resA t h (@List.cons ARes (ARes.cell s agg n) rs)) (resA_cell.match_1 (fun x x_1 => Option (List AV)) (loadA h agg n (t s)) (resA t h rs) (fun v vs => @some (List AV) (@List.cons AV v vs)) fun x x_1 => @none (List AV))) ∧
    (@Eq AV (retA (@List.nil AV)) (AV.tuple (@List.nil AV))) ∧
    (∀ {v : AV}, @Eq AV (retA (@List.cons AV v (@List.nil AV))) v) ∧
    (∀ {u v : AV}, @Eq AV (retA (@List.cons AV u (@List.cons AV v (@List.nil AV)))) (AV.tuple (@List.cons AV u (@List.cons AV v (@List.nil AV))))) ∧
    (∀ {u v x : AV}, @Eq AV (retA (@List.cons AV u (@List.cons AV v (@List.cons AV x (@List.nil AV))))) (AV.tuple (@List.cons AV u (@List.cons AV v (@List.cons AV x (@List.nil AV)))))) ∧
    (∀ {u v x y : AV}, @Eq AV (retA (@List.cons AV u (@List.cons AV v (@List.cons AV x (@List.cons AV y (@List.nil AV)))))) (AV.tuple (@List.cons AV u (@List.cons AV v (@List.cons AV x (@List.cons AV y (@List.nil AV))))))) ∧
    (∀ {t : Nat → AV} {s : Nat}, @Eq AV (AOpd.ev t (AOpd.tmp s)) (t s)) ∧
    (∀ {t : Nat → AV} {v : AV}, @Eq AV (AOpd.ev t (AOpd.const v)) v) ∧
    (∀ {t : Nat → AV}, @Eq (List AV) (@List.map AOpd AV (AOpd.ev t) (@List.nil AOpd)) (@List.nil AV)) ∧
    (∀ {t : Nat → AV} {x : AOpd} {xs : List AOpd}, @Eq (List AV) (@List.map AOpd AV (AOpd.ev t) (@List.cons AOpd x xs)) (@List.cons AV (AOpd.ev t x) (@List.map AOpd AV (AOpd.ev t) xs))) ∧
    (∀ {t : Nat → AV} {s : Nat} {v : AV}, @Eq AV (upd t s v s) v) ∧
    (∀ {t : Nat → AV} {s : Nat} {v : AV} {i : Nat}, @Eq Bool (@BEq.beq Nat (@instBEqOfDecidableEq Nat instDecidableEqNat) i s) false → @Eq AV (upd t s v i) (t i)) ∧
    (∀ {args : List AV} {s : Nat}, @Eq AV (argT args s) (@List.getD AV args s AV.undef)) ∧
    (∀ {p q : Prop}, @Eq Prop (@condV (AV.bool true) (Hold.mk p) (Hold.mk q)) p) ∧
    (∀ {p q : Prop}, @Eq Prop (@condV (AV.bool false) (Hold.mk p) (Hold.mk q)) q) ∧
    (∀ {c : Prop} [inst : Decidable c] {p q : Prop}, @Eq Prop (@condV (AV.bool (@decide c inst)) (Hold.mk p) (Hold.mk q)) (@Br c (Hold.mk p) (Hold.mk q))) ∧
    (∀ {b : Bool} {p q : Prop}, @Eq Prop (@condV (AV.bool b) (Hold.mk p) (Hold.mk q)) (@Br (@Eq Bool b true) (Hold.mk p) (Hold.mk q))) ∧
    (∀ {b : Bool} {p q : Prop}, @Eq Prop (@Br (@Eq Bool (not b) true) (Hold.mk p) (Hold.mk q)) (@Br (@Eq Bool b true) (Hold.mk q) (Hold.mk p))) ∧
    (∀ {c p q : Prop}, c → @Eq Prop (@Br c (Hold.mk p) (Hold.mk q)) p) ∧
    (∀ {c p q : Prop}, Not c → @Eq Prop (@Br c (Hold.mk p) (Hold.mk q)) q) ∧
    (∀ {p q : Prop}, @Eq Prop (@gV (AV.bool true) true (Hold.mk p) (Hold.mk q)) p) ∧
    (∀ {p q : Prop}, @Eq Prop (@gV (AV.bool true) false (Hold.mk p) (Hold.mk q)) q) ∧
    (∀ {p q : Prop}, @Eq Prop (@gV (AV.bool false) true (Hold.mk p) (Hold.mk q)) q) ∧
    (∀ {p q : Prop}, @Eq Prop (@gV (AV.bool false) false (Hold.mk p) (Hold.mk q)) p) ∧
    (∀ {c : Prop} [inst : Decidable c] {p q : Prop}, @Eq Prop (@gV (AV.bool (@decide c inst)) true (Hold.mk p) (Hold.mk q)) (@Br c (Hold.mk p) (Hold.mk q))) ∧
    (∀ {c : Prop} [inst : Decidable c] {p q : Prop}, @Eq Prop (@gV (AV.bool (@decide c inst)) false (Hold.mk p) (Hold.mk q)) (@Br c (Hold.mk q) (Hold.mk p))) ∧
    (∀ {b : Bool} {p q : Prop}, @Eq Prop (@gV (AV.bool b) true (Hold.mk p) (Hold.mk q)) (@Br (@Eq Bool b true) (Hold.mk p) (Hold.mk q))) ∧
    (∀ {b : Bool} {p q : Prop}, @Eq Prop (@gV (AV.bool b) false (Hold.mk p) (Hold.mk q)) (@Br (@Eq Bool b true) (Hold.mk q) (Hold.mk p))) ∧
    (∀ {C : Ctx} {g : Nat} {args : List AV} {h : Heap} {K : AV → Heap → Prop}, @Eq Prop (@Call C (AV.func g (@List.nil AV) (@List.nil AV)) args h (HoldR.mk K)) (@ACallsK C g args h (HoldR.mk K))) ∧
    (∀ {C : Ctx} {g : Nat} {f c args : List AV} {h : Heap} {K : AV → Heap → Prop}, @Eq Prop (@Call C (AV.func g f c) args h (HoldR.mk K)) (@ACallsK C g (@HAppend.hAppend (List AV) (List AV) (List AV) (@instHAppendOfAppend (List AV) (@List.instAppend AV)) (@HAppend.hAppend (List AV) (List AV) (List AV) (@instHAppendOfAppend (List AV) (@List.instAppend AV)) f args) c) h (HoldR.mk K))) ∧
    (∀ {C : Ctx} {l : Nat} {args : List AV} {h : Heap} {K : AV → Heap → Prop}, @Eq Prop (@Call C (AV.yield l) args h (HoldR.mk K)) (@AYieldK C l args h (HoldR.mk K))) ∧
    (∀ {v : AV} {h : Heap} {K : AV → Heap → Prop}, @Eq Prop (@opt1 (@some AV v) h (HoldR.mk K)) (K v h)) ∧
    (∀ {v : AV} {h : Heap} {K : AV → Heap → Prop}, @Eq Prop (@opt2 (@some (Prod AV Heap) (@Prod.mk AV Heap v h)) (HoldR.mk K)) (K v h)) ∧
    (∀ {nid : Option Nat} {ev : AOpd → AV} {h : Heap} {K : AV → Heap → Prop} {x : AOpd}, @Eq Prop (@opR nid (AOp.mv x) ev h (HoldR.mk K)) (K (ev x) h)) ∧
    (∀ {nid : Option Nat} {ev : AOpd → AV} {h : Heap} {K : AV → Heap → Prop} {c a b : AOpd}, @Eq Prop (@opR nid (AOp.pick c a b) ev h (HoldR.mk K)) (@opt1 (pickA (ev a) (ev b) (ev c)) h (HoldR.mk K))) ∧
    (∀ {nid : Option Nat} {ev : AOpd → AV} {h : Heap} {K : AV → Heap → Prop} {z : List AV} {parts : List (Prod Nat (Prod Nat AOpd))}, @Eq Prop (@opR nid (AOp.build z parts) ev h (HoldR.mk K)) (@opt1 (@Option.map (List AV) AV AV.agg (fillA z (@List.map (Prod Nat (Prod Nat AOpd)) (Prod Nat (Prod Nat AV)) (fun p => @Prod.mk Nat (Prod Nat AV) (@Prod.fst Nat (Prod Nat AOpd) p) (@Prod.mk Nat AV (@Prod.fst Nat AOpd (@Prod.snd Nat (Prod Nat AOpd) p)) (ev (@Prod.snd Nat AOpd (@Prod.snd Nat (Prod Nat AOpd) p))))) parts))) h (HoldR.mk K))) ∧
    (∀ {nid : Option Nat} {ev : AOpd → AV} {h : Heap} {K : AV → Heap → Prop} {agg : Bool} {n : Nat} {x : AOpd}, @Eq Prop (@opR nid (AOp.load agg n x) ev h (HoldR.mk K)) (@opt1 (loadA h agg n (ev x)) h (HoldR.mk K))) ∧
    (∀ {nid : Option Nat} {ev : AOpd → AV} {h : Heap} {K : AV → Heap → Prop} {x : AOpd}, @Eq Prop (@opR nid (AOp.nilCheck x) ev h (HoldR.mk K)) (@opt1 (notNilA (ev x)) h (HoldR.mk K))) ∧
    (∀ {nid : Option Nat} {ev : AOpd → AV} {h : Heap} {K : AV → Heap → Prop} {op : BinOp} {x y : AOpd}, @Eq Prop (@opR nid (AOp.bin op x y) ev h (HoldR.mk K)) (@opt1 (binA op (ev x) (ev y)) h (HoldR.mk K))) ∧
    (∀ {nid : Option Nat} {ev : AOpd → AV} {h : Heap} {K : AV → Heap → Prop} {neg : Bool} {x y : AOpd}, @Eq Prop (@opR nid (AOp.eqb neg x y) ev h (HoldR.mk K)) (@opt1 (eqbA neg (ev x) (ev y)) h (HoldR.mk K))) ∧
    (∀ {nid : Option Nat} {ev : AOpd → AV} {h : Heap} {K : AV → Heap → Prop} {neg : Bool} {x : AOpd}, @Eq Prop (@opR nid (AOp.eqn neg x) ev h (HoldR.mk K)) (@opt1 (eqnA neg (ev x)) h (HoldR.mk K))) ∧
    (∀ {nid : Option Nat} {ev : AOpd → AV} {h : Heap} {K : AV → Heap → Prop} {neg : Bool} {ls : List (Prod Nat Bool)} {x y : AOpd}, @Eq Prop (@opR nid (AOp.eqs neg ls x y) ev h (HoldR.mk K)) (@opt1 (eqsA neg ls (ev x) (ev y)) h (HoldR.mk K))) ∧
    (∀ {nid : Option Nat} {ev : AOpd → AV} {h : Heap} {K : AV → Heap → Prop} {op : UnOp} {x : AOpd}, @Eq Prop (@opR nid (AOp.un op x) ev h (HoldR.mk K)) (@opt1 (unA op (ev x)) h (HoldR.mk K))) ∧
    (∀ {nid : Option Nat} {ev : AOpd → AV} {h : Heap} {K : AV → Heap → Prop} {k : IntKind} {x : AOpd}, @Eq Prop (@opR nid (AOp.conv k x) ev h (HoldR.mk K)) (@opt1 (convA k (ev x)) h (HoldR.mk K))) ∧
    (∀ {nid : Option Nat} {ev : AOpd → AV} {h : Heap} {K : AV → Heap → Prop} {g : Nat} {a c : List AOpd}, @Eq Prop (@opR nid (AOp.mkfunc g a c) ev h (HoldR.mk K)) (K (AV.func g (@List.map AOpd AV ev a) (@List.map AOpd AV ev c)) h)) ∧
    (∀ {nid : Option Nat} {ev : AOpd → AV} {h : Heap} {K : AV → Heap → Prop} {sz : Nat} {x : AOpd} {lo hi mx : Option AOpd}, @Eq Prop (@opR nid (AOp.slice sz x lo hi mx) ev h (HoldR.mk K)) (@opt1 (sliceA h sz (ev x) (@Option.map AOpd AV ev lo) (@Option.map AOpd AV ev hi) (@Option.map AOpd AV ev mx)) h (HoldR.mk K))) ∧
    (∀ {nid : Option Nat} {ev : AOpd → AV} {h : Heap} {K : AV → Heap → Prop} {off : Nat} {x : AOpd}, @Eq Prop (@opR nid (AOp.fieldAddr off x) ev h (HoldR.mk K)) (@opt1 (fieldAddrA off (ev x)) h (HoldR.mk K))) ∧
    (∀ {nid : Option Nat} {ev : AOpd → AV} {h : Heap} {K : AV → Heap → Prop} {agg : Bool} {off n : Nat} {x : AOpd}, @Eq Prop (@opR nid (AOp.field agg off n x) ev h (HoldR.mk K)) (@opt1 (fieldA agg off n (ev x)) h (HoldR.mk K))) ∧
    (∀ {nid : Option Nat} {ev : AOpd → AV} {h : Heap} {K : AV → Heap → Prop} {sz : Nat} {x i : AOpd}, @Eq Prop (@opR nid (AOp.indexAddr sz x i) ev h (HoldR.mk K)) (@opt1 (idxA sz (ev x) (ev i)) h (HoldR.mk K))) ∧
    (∀ {nid : Option Nat} {ev : AOpd → AV} {h : Heap} {K : AV → Heap → Prop} {sz len : Nat} {x i : AOpd}, @Eq Prop (@opR nid (AOp.indexArr sz len x i) ev h (HoldR.mk K)) (@opt1 (idxArrA sz len (ev x) (ev i)) h (HoldR.mk K))) ∧
    (∀ {nid : Option Nat} {ev : AOpd → AV} {h : Heap} {K : AV → Heap → Prop} {agg : Bool} {sz len : Nat} {x i : AOpd}, @Eq Prop (@opR nid (AOp.index agg sz len x i) ev h (HoldR.mk K)) (@opt1 (idxValA agg sz len (ev x) (ev i)) h (HoldR.mk K))) ∧
    (∀ {nid : Option Nat} {ev : AOpd → AV} {h : Heap} {K : AV → Heap → Prop} {x : AOpd} {i : Nat}, @Eq Prop (@opR nid (AOp.extract x i) ev h (HoldR.mk K)) (@opt1 (extA i (ev x)) h (HoldR.mk K))) ∧
    (∀ {nid : Option Nat} {ev : AOpd → AV} {h : Heap} {K : AV → Heap → Prop} {x : AOpd}, @Eq Prop (@opR nid (AOp.len x) ev h (HoldR.mk K)) (@opt1 (lenA (ev x)) h (HoldR.mk K))) ∧
    (∀ {nid : Option Nat} {ev : AOpd → AV} {h : Heap} {K : AV → Heap → Prop} {x : AOpd}, @Eq Prop (@opR nid (AOp.cap x) ev h (HoldR.mk K)) (@opt1 (capA (ev x)) h (HoldR.mk K))) ∧
    (∀ {nid : Option Nat} {ev : AOpd → AV} {h : Heap} {K : AV → Heap → Prop} {xs : List AOpd}, @Eq Prop (@opR nid (AOp.max xs) ev h (HoldR.mk K)) (@opt1 (maxA (@List.map AOpd AV ev xs)) h (HoldR.mk K))) ∧
    (∀ {nid : Option Nat} {ev : AOpd → AV} {h : Heap} {K : AV → Heap → Prop} {xs : List AOpd}, @Eq Prop (@opR nid (AOp.min xs) ev h (HoldR.mk K)) (@opt1 (minA (@List.map AOpd AV ev xs)) h (HoldR.mk K))) ∧
    (∀ {nid : Option Nat} {ev : AOpd → AV} {h : Heap} {K : AV → Heap → Prop} {z : List AV}, @Eq Prop (@opR nid (AOp.alloc z) ev h (HoldR.mk K)) (@opt2 (allocA nid z h) (HoldR.mk K))) ∧
    (∀ {nid : Option Nat} {ev : AOpd → AV} {h : Heap} {K : AV → Heap → Prop} {x : AOpd}, @Eq Prop (@opR nid (AOp.box x) ev h (HoldR.mk K)) (@opt2 (allocA nid (AV.cells (ev x)) h) (HoldR.mk K))) ∧
    (∀ {nid : Option Nat} {ev : AOpd → AV} {h : Heap} {K : AV → Heap → Prop} {n : Nat} {z : List AV} {parts : List (Prod Nat (Prod Nat AOpd))}, @Eq Prop (@opR nid (AOp.buildSlice n z parts) ev h (HoldR.mk K)) (@opt2 (buildSliceA nid n (fillA z (@List.map (Prod Nat (Prod Nat AOpd)) (Prod Nat (Prod Nat AV)) (fun p => @Prod.mk Nat (Prod Nat AV) (@Prod.fst Nat (Prod Nat AOpd) p) (@Prod.mk Nat AV (@Prod.fst Nat AOpd (@Prod.snd Nat (Prod Nat AOpd) p)) (ev (@Prod.snd Nat AOpd (@Prod.snd Nat (Prod Nat AOpd) p))))) parts)) h) (HoldR.mk K))) ∧
    (∀ {nid : Option Nat} {ev : AOpd → AV} {h : Heap} {K : AV → Heap → Prop} {n : Nat} {x v : AOpd}, @Eq Prop (@opR nid (AOp.store n x v) ev h (HoldR.mk K)) (@opt2 (storeOA (storeA h n (ev x) (ev v))) (HoldR.mk K))) ∧
    (∀ {nid : Option Nat} {ev : AOpd → AV} {h : Heap} {K : AV → Heap → Prop} {z : List AV} {bytes : Nat} {l c : AOpd}, @Eq Prop (@opR nid (AOp.makeSlice z bytes l c) ev h (HoldR.mk K)) (@opt2 (makeA nid z bytes h (ev l) (ev c)) (HoldR.mk K))) ∧
    (∀ {nid : Option Nat} {ev : AOpd → AV} {h : Heap} {K : AV → Heap → Prop} {sz bytes : Nat} {s x : AOpd}, @Eq Prop (@opR nid (AOp.append sz bytes s x) ev h (HoldR.mk K)) (@opt2 (appA nid sz bytes h (ev s) (contentA h sz (ev x))) (HoldR.mk K))) ∧
    (∀ {nid : Option Nat} {ev : AOpd → AV} {h : Heap} {K : AV → Heap → Prop} {sz : Nat} {d s : AOpd}, @Eq Prop (@opR nid (AOp.copy sz d s) ev h (HoldR.mk K)) (@opt2 (copyA h sz (ev d) (ev s)) (HoldR.mk K))) ∧
    (∀ {k : IntKind} {a b : Int}, @Eq (Option AV) (binA BinOp.add (AV.int k a) (AV.int k b)) (@some AV (AV.int k (IntKind.wrap k (@HAdd.hAdd Int Int Int (@instHAdd Int Int.instAdd) a b))))) ∧
    (∀ {k : IntKind} {a b : Int}, @Eq (Option AV) (binA BinOp.sub (AV.int k a) (AV.int k b)) (@some AV (AV.int k (IntKind.wrap k (@HSub.hSub Int Int Int (@instHSub Int Int.instSub) a b))))) ∧
    (∀ {k : IntKind} {a b : Int}, @Eq (Option AV) (binA BinOp.mul (AV.int k a) (AV.int k b)) (@some AV (AV.int k (IntKind.wrap k (@HMul.hMul Int Int Int (@instHMul Int Int.instMul) a b))))) ∧
    (∀ {k : IntKind} {a b : Int}, @Ne Int b (@OfNat.ofNat Int (nat_lit 0) (@instOfNat (nat_lit 0))) → @Eq (Option AV) (binA BinOp.quo (AV.int k a) (AV.int k b)) (@some AV (AV.int k (IntKind.wrap k (Int.tdiv a b))))) ∧
    (∀ {k : IntKind} {a b : Int}, @Ne Int b (@OfNat.ofNat Int (nat_lit 0) (@instOfNat (nat_lit 0))) → @Eq (Option AV) (binA BinOp.rem (AV.int k a) (AV.int k b)) (@some AV (AV.int k (Int.tmod a b)))) ∧
    (∀ {k : IntKind} {a b : Int}, @Eq (Option AV) (binA BinOp.and (AV.int k a) (AV.int k b)) (@some AV (AV.int k (bitsA BinOp.and k a b)))) ∧
    (∀ {k : IntKind} {a b : Int}, @Eq (Option AV) (binA BinOp.or (AV.int k a) (AV.int k b)) (@some AV (AV.int k (bitsA BinOp.or k a b)))) ∧
    (∀ {k : IntKind} {a b : Int}, @Eq (Option AV) (binA BinOp.xor (AV.int k a) (AV.int k b)) (@some AV (AV.int k (bitsA BinOp.xor k a b)))) ∧
    (∀ {k : IntKind} {a b : Int}, @Eq (Option AV) (binA BinOp.andNot (AV.int k a) (AV.int k b)) (@some AV (AV.int k (bitsA BinOp.andNot k a b)))) ∧
    (∀ {k : IntKind} {a b : Int}, @Eq (Option AV) (binA BinOp.eql (AV.int k a) (AV.int k b)) (@some AV (AV.bool (@decide (@Eq Int a b) (Int.instDecidableEq a b))))) ∧
    (∀ {k : IntKind} {a b : Int}, @Eq (Option AV) (binA BinOp.neq (AV.int k a) (AV.int k b)) (@some AV (AV.bool (@decide (@Ne Int a b) (@instDecidableNot (@Eq Int a b) (Int.instDecidableEq a b)))))) ∧
    (∀ {k : IntKind} {a b : Int}, @Eq (Option AV) (binA BinOp.lss (AV.int k a) (AV.int k b)) (@some AV (AV.bool (@decide (@LT.lt Int Int.instLTInt a b) (Int.decLt a b))))) ∧
    (∀ {k : IntKind} {a b : Int}, @Eq (Option AV) (binA BinOp.leq (AV.int k a) (AV.int k b)) (@some AV (AV.bool (@decide (@LE.le Int Int.instLEInt a b) (Int.decLe a b))))) ∧
    (∀ {k : IntKind} {a b : Int}, @Eq (Option AV) (binA BinOp.gtr (AV.int k a) (AV.int k b)) (@some AV (AV.bool (@decide (@LT.lt Int Int.instLTInt b a) (Int.decLt b a))))) ∧
    (∀ {k : IntKind} {a b : Int}, @Eq (Option AV) (binA BinOp.geq (AV.int k a) (AV.int k b)) (@some AV (AV.bool (@decide (@LE.le Int Int.instLEInt b a) (Int.decLe b a))))) ∧
    (∀ {k k' : IntKind} {a b : Int}, @LE.le Int Int.instLEInt (@OfNat.ofNat Int (nat_lit 0) (@instOfNat (nat_lit 0))) b → @Eq (Option AV) (binA BinOp.shl (AV.int k a) (AV.int k' b)) (@some AV (AV.int k (IntKind.wrap k (@HMul.hMul Int Int Int (@instHMul Int Int.instMul) a (@HPow.hPow Int Nat Int (@instHPow Int Nat (@instPowNat Int Int.instNatPow)) (@OfNat.ofNat Int (nat_lit 2) (@instOfNat (nat_lit 2))) (@min Nat instMinNat (Int.toNat b) (IntKind.bits k)))))))) ∧
    (∀ {k k' : IntKind} {a b : Int}, @LE.le Int Int.instLEInt (@OfNat.ofNat Int (nat_lit 0) (@instOfNat (nat_lit 0))) b → @Eq (Option AV) (binA BinOp.shr (AV.int k a) (AV.int k' b)) (@some AV (AV.int k (Int.fdiv a (@HPow.hPow Int Nat Int (@instHPow Int Nat (@instPowNat Int Int.instNatPow)) (@OfNat.ofNat Int (nat_lit 2) (@instOfNat (nat_lit 2))) (@min Nat instMinNat (Int.toNat b) (IntKind.bits k))))))) ∧
    (∀ {a : Int}, And (@LE.le Int Int.instLEInt (@OfNat.ofNat Int (nat_lit 0) (@instOfNat (nat_lit 0))) a) (@LE.le Int Int.instLEInt a (@OfNat.ofNat Int (nat_lit 9223372036854775807) (@instOfNat (nat_lit 9223372036854775807)))) → @Eq Int (bitsA BinOp.and IntKind.i64 a (@OfNat.ofNat Int (nat_lit 1) (@instOfNat (nat_lit 1)))) (@HMod.hMod Int Int Int (@instHMod Int Int.instMod) a (@OfNat.ofNat Int (nat_lit 2) (@instOfNat (nat_lit 2))))) ∧
    (∀ {k : IntKind} {a : Int}, @Eq (Option AV) (unA UnOp.neg (AV.int k a)) (@some AV (AV.int k (IntKind.wrap k (@HSub.hSub Int Int Int (@instHSub Int Int.instSub) (@OfNat.ofNat Int (nat_lit 0) (@instOfNat (nat_lit 0))) a))))) ∧
    (∀ {b : Bool}, @Eq (Option AV) (unA UnOp.not (AV.bool b)) (@some AV (AV.bool (not b)))) ∧
    (∀ {k : IntKind} {a : Int}, @Eq (Option AV) (unA UnOp.xor (AV.int k a)) (@some AV (AV.int k (bitsA BinOp.xor k (@ite Int (@Eq Bool (IntKind.signed k) true) (instDecidableEqBool (IntKind.signed k) true) (@Neg.neg Int Int.instNegInt (@OfNat.ofNat Int (nat_lit 1) (@instOfNat (nat_lit 1)))) (IntKind.max k)) a)))) ∧
    (∀ {k k' : IntKind} {a : Int}, @Eq (Option AV) (convA k (AV.int k' a)) (@some AV (AV.int k (IntKind.wrap k a)))) ∧
    (∀ {a b : Bool}, @Eq (Option AV) (eqbA false (AV.bool a) (AV.bool b)) (@some AV (AV.bool (@BEq.beq Bool (@instBEqOfDecidableEq Bool instDecidableEqBool) a b)))) ∧
    (∀ {a b : Bool}, @Eq (Option AV) (eqbA true (AV.bool a) (AV.bool b)) (@some AV (AV.bool (not (@BEq.beq Bool (@instBEqOfDecidableEq Bool instDecidableEqBool) a b))))) ∧
    (∀ {x y : AV}, @Eq (Option AV) (pickA x y (AV.bool true)) (@some AV x)) ∧
    (∀ {x y : AV}, @Eq (Option AV) (pickA x y (AV.bool false)) (@some AV y)) ∧
    (∀ {x y : AV} {c : Prop} [inst : Decidable c], c → @Eq (Option AV) (pickA x y (AV.bool (@decide c inst))) (@some AV x)) ∧
    (∀ {x y : AV} {c : Prop} [inst : Decidable c], Not c → @Eq (Option AV) (pickA x y (AV.bool (@decide c inst))) (@some AV y)) ∧
    (∀ {x y : AV} {b : Bool}, @Eq Bool b true → @Eq (Option AV) (pickA x y (AV.bool b)) (@some AV x)) ∧
    (∀ {x y : AV} {b : Bool}, Not (@Eq Bool b true) → @Eq (Option AV) (pickA x y (AV.bool b)) (@some AV y)) ∧
    (∀ {vs : List AV} {i : Nat}, @Eq (Option AV) (extA i (AV.tuple vs)) (@getElem? (List AV) Nat AV (fun xs i => @LT.lt Nat instLTNat i (@List.length AV xs)) (@List.instGetElem?NatLtLength AV) vs i)) ∧
    (∀ {k : IntKind} {a b : Int}, @Eq (Option AV) (maxA (@List.cons AV (AV.int k a) (@List.cons AV (AV.int k b) (@List.nil AV)))) (@some AV (AV.int k (@max Int Int.instMax a b)))) ∧
    (∀ {k : IntKind} {a b c : Int}, @Eq (Option AV) (maxA (@List.cons AV (AV.int k a) (@List.cons AV (AV.int k b) (@List.cons AV (AV.int k c) (@List.nil AV))))) (@some AV (AV.int k (@max Int Int.instMax (@max Int Int.instMax a b) c)))) ∧
    (∀ {k : IntKind} {a b : Int}, @Eq (Option AV) (minA (@List.cons AV (AV.int k a) (@List.cons AV (AV.int k b) (@List.nil AV)))) (@some AV (AV.int k (@min Int Int.instMin a b)))) ∧
    (∀ {k : IntKind} {a b c : Int}, @Eq (Option AV) (minA (@List.cons AV (AV.int k a) (@List.cons AV (AV.int k b) (@List.cons AV (AV.int k c) (@List.nil AV))))) (@some AV (AV.int k (@min Int Int.instMin (@min Int Int.instMin a b) c)))) ∧
    (∀ {x : Int}, And (@LE.le Int Int.instLEInt (@Neg.neg Int Int.instNegInt (@OfNat.ofNat Int (nat_lit 9223372036854775808) (@instOfNat (nat_lit 9223372036854775808)))) x) (@LE.le Int Int.instLEInt x (@OfNat.ofNat Int (nat_lit 9223372036854775807) (@instOfNat (nat_lit 9223372036854775807)))) → @Eq Int (IntKind.wrap IntKind.i64 x) x) ∧
    (∀ {x : Int}, And (@LE.le Int Int.instLEInt (@Neg.neg Int Int.instNegInt (@OfNat.ofNat Int (nat_lit 2147483648) (@instOfNat (nat_lit 2147483648)))) x) (@LE.le Int Int.instLEInt x (@OfNat.ofNat Int (nat_lit 2147483647) (@instOfNat (nat_lit 2147483647)))) → @Eq Int (IntKind.wrap IntKind.i32 x) x) ∧
    (∀ {x : Int}, And (@LE.le Int Int.instLEInt (@OfNat.ofNat Int (nat_lit 0) (@instOfNat (nat_lit 0))) x) (@LE.le Int Int.instLEInt x (@OfNat.ofNat Int (nat_lit 255) (@instOfNat (nat_lit 255)))) → @Eq Int (IntKind.wrap IntKind.u8 x) x) ∧
    (∀ {x : Int}, And (@LE.le Int Int.instLEInt (@OfNat.ofNat Int (nat_lit 0) (@instOfNat (nat_lit 0))) x) (@LE.le Int Int.instLEInt x (@OfNat.ofNat Int (nat_lit 4294967295) (@instOfNat (nat_lit 4294967295)))) → @Eq Int (IntKind.wrap IntKind.u32 x) x) ∧
    (∀ {x : Int}, And (@LE.le Int Int.instLEInt (@OfNat.ofNat Int (nat_lit 0) (@instOfNat (nat_lit 0))) x) (@LE.le Int Int.instLEInt x (@OfNat.ofNat Int (nat_lit 18446744073709551615) (@instOfNat (nat_lit 18446744073709551615)))) → @Eq Int (IntKind.wrap IntKind.u64 x) x) ∧
    (∀ {a b : Int}, @LE.le Int Int.instLEInt (@OfNat.ofNat Int (nat_lit 0) (@instOfNat (nat_lit 0))) a → @Eq Int (Int.tdiv a b) (@HDiv.hDiv Int Int Int (@instHDiv Int Int.instDiv) a b)) ∧
    (∀ {a b : Int}, @LE.le Int Int.instLEInt (@OfNat.ofNat Int (nat_lit 0) (@instOfNat (nat_lit 0))) a → @Eq Int (Int.tmod a b) (@HMod.hMod Int Int Int (@instHMod Int Int.instMod) a b)) ∧
    (∀ {a b : Int}, @LE.le Int Int.instLEInt (@OfNat.ofNat Int (nat_lit 0) (@instOfNat (nat_lit 0))) b → @Eq Int (Int.fdiv a b) (@HDiv.hDiv Int Int Int (@instHDiv Int Int.instDiv) a b)) ∧
    (@Eq Nat (IntKind.bits IntKind.i64) (@OfNat.ofNat Nat (nat_lit 64) (instOfNatNat (nat_lit 64)))) ∧
    (@Eq Nat (IntKind.bits IntKind.u64) (@OfNat.ofNat Nat (nat_lit 64) (instOfNatNat (nat_lit 64)))) ∧
    (@Eq Nat (IntKind.bits IntKind.u32) (@OfNat.ofNat Nat (nat_lit 32) (instOfNatNat (nat_lit 32)))) ∧
    (@Eq Nat (IntKind.bits IntKind.i32) (@OfNat.ofNat Nat (nat_lit 32) (instOfNatNat (nat_lit 32)))) ∧
    (@Eq Nat (IntKind.bits IntKind.u8) (@OfNat.ofNat Nat (nat_lit 8) (instOfNatNat (nat_lit 8)))) ∧
    (∀ {b : Int} {n : Nat}, @LE.le Int Int.instLEInt b (@Nat.cast Int instNatCastInt n) → @Eq Nat (@min Nat instMinNat (Int.toNat b) n) (Int.toNat b)) ∧
    (∀ {h : Heap} {b : ABlk} {i : Nat}, @Eq Nat i (Heap.size h) → @Eq (Option ABlk) (Heap.get (Heap.push h b) i) (@some ABlk b)) ∧
    (∀ {h : Heap} {b : ABlk} {i : Nat}, @LT.lt Nat instLTNat i (Heap.size h) → @Eq (Option ABlk) (Heap.get (Heap.push h b) i) (Heap.get h i)) ∧
    (∀ {h : Heap} {b : ABlk} {i j : Nat}, @Eq Nat j i → @LT.lt Nat instLTNat i (Heap.size h) → @Eq (Option ABlk) (Heap.get (Heap.put h i b) j) (@some ABlk b)) ∧
    (∀ {h : Heap} {b : ABlk} {i j : Nat}, @Ne Nat j i → @Eq (Option ABlk) (Heap.get (Heap.put h i b) j) (Heap.get h j)) ∧
    (∀ {h : Heap} {i : Nat} {b b' : ABlk}, @Eq Heap (Heap.put (Heap.put h i b) i b') (Heap.put h i b')) ∧
    (∀ {h : Heap} {i : Nat} {b b' : ABlk}, @Eq Nat i (Heap.size h) → @Eq Heap (Heap.put (Heap.push h b) i b') (Heap.push h b')) ∧
    (∀ {h : Heap} {i : Nat} {b b' : ABlk}, @LT.lt Nat instLTNat i (Heap.size h) → @Eq Heap (Heap.put (Heap.push h b) i b') (Heap.push (Heap.put h i b') b)) ∧
    (∀ (h : Heap) (b : ABlk), @Eq Nat (Heap.size (Heap.push h b)) (@HAdd.hAdd Nat Nat Nat (@instHAdd Nat instAddNat) (Heap.size h) (@OfNat.ofNat Nat (nat_lit 1) (instOfNatNat (nat_lit 1))))) ∧
    (∀ (h : Heap) (i : Nat) (b : ABlk), @Eq Nat (Heap.size (Heap.put h i b)) (Heap.size h)) ∧
    (∀ (h : Heap) (k : Nat), @Eq Nat (Heap.size (Heap.reserve h k)) (@HAdd.hAdd Nat Nat Nat (@instHAdd Nat instAddNat) (Heap.size h) k)) ∧
    (∀ (h : Heap) (k i : Nat), @Eq (Option ABlk) (Heap.get (Heap.reserve h k) i) (Heap.get h i)) ∧
    (∀ {h : Heap} {agg : Bool} {n i o : Nat}, @Eq (Option AV) (loadA h agg n (AV.ptr i o)) (loadB agg n o (Heap.get h i))) ∧
    (∀ {n o : Nat} {vs : List AV} {wr : Bool} {u : Nat}, @Eq (Option AV) (loadB false n o (@some ABlk (ABlk.cells vs wr u))) (@getElem? (List AV) Nat AV (fun xs i => @LT.lt Nat instLTNat i (@List.length AV xs)) (@List.instGetElem?NatLtLength AV) vs o)) ∧
    (∀ {n o : Nat} {vs : List AV} {wr : Bool} {u : Nat}, @LE.le Nat instLENat (@HAdd.hAdd Nat Nat Nat (@instHAdd Nat instAddNat) o n) (@List.length AV vs) → @Eq (Option AV) (loadB true n o (@some ABlk (ABlk.cells vs wr u))) (@some AV (AV.agg (cut vs o n)))) ∧
    (∀ {h : Heap} {n i o : Nat} {v : AV}, @Eq (Option Heap) (storeA h n (AV.ptr i o) v) (storeB h i n o v (Heap.get h i))) ∧
    (∀ {h : Heap} {i o : Nat} {k : IntKind} {x : Int} {vs : List AV} {u : Nat}, @LT.lt Nat instLTNat o (@List.length AV vs) → @Eq (Option Heap) (storeB h i (@OfNat.ofNat Nat (nat_lit 1) (instOfNatNat (nat_lit 1))) o (AV.int k x) (@some ABlk (ABlk.cells vs true u))) (@some Heap (Heap.put h i (ABlk.cells (@List.set AV vs o (AV.int k x)) true u)))) ∧
    (∀ {h : Heap} {i o : Nat} {x : Bool} {vs : List AV} {u : Nat}, @LT.lt Nat instLTNat o (@List.length AV vs) → @Eq (Option Heap) (storeB h i (@OfNat.ofNat Nat (nat_lit 1) (instOfNatNat (nat_lit 1))) o (AV.bool x) (@some ABlk (ABlk.cells vs true u))) (@some Heap (Heap.put h i (ABlk.cells (@List.set AV vs o (AV.bool x)) true u)))) ∧
    (∀ {h : Heap} {i o j p n : Nat} {c : Cap} {vs : List AV} {u : Nat}, @LT.lt Nat instLTNat o (@List.length AV vs) → @Eq (Option Heap) (storeB h i (@OfNat.ofNat Nat (nat_lit 1) (instOfNatNat (nat_lit 1))) o (AV.slice j p n c) (@some ABlk (ABlk.cells vs true u))) (@some Heap (Heap.put h i (ABlk.cells (@List.set AV vs o (AV.slice j p n c)) true u)))) ∧
    (∀ {h : Heap} {i o : Nat} {vs : List AV} {u : Nat}, @LT.lt Nat instLTNat o (@List.length AV vs) → @Eq (Option Heap) (storeB h i (@OfNat.ofNat Nat (nat_lit 1) (instOfNatNat (nat_lit 1))) o AV.nilslice (@some ABlk (ABlk.cells vs true u))) (@some Heap (Heap.put h i (ABlk.cells (@List.set AV vs o AV.nilslice) true u)))) ∧
    (∀ {h : Heap} {i o n : Nat} {xs vs : List AV} {u : Nat}, @Eq Nat (@List.length AV xs) n → @LE.le Nat instLENat (@HAdd.hAdd Nat Nat Nat (@instHAdd Nat instAddNat) o n) (@List.length AV vs) → @Eq Bool (@List.all AV xs AV.one) true → @Eq (Option Heap) (storeB h i n o (AV.agg xs) (@some ABlk (ABlk.cells vs true u))) (@some Heap (Heap.put h i (ABlk.cells (splice vs o xs) true u)))) ∧
    (∀ {h : Heap} {i o : Nat} {v : AV} {vs : List AV} {u : Nat}, @Eq (List AV) (AV.cells v) (@List.cons AV v (@List.nil AV)) → @Eq Bool (AV.one v) true → @LT.lt Nat instLTNat o (@List.length AV vs) → @Eq (Option Heap) (storeB h i (@OfNat.ofNat Nat (nat_lit 1) (instOfNatNat (nat_lit 1))) o v (@some ABlk (ABlk.cells vs true u))) (@some Heap (Heap.put h i (ABlk.cells (@List.set AV vs o v) true u)))) ∧
    (∀ {vs : List AV} {o : Nat} {c : AV}, @Eq (List AV) (splice vs o (@List.cons AV c (@List.nil AV))) (@List.set AV vs o c)) ∧
    (∀ {vs : List AV} {o : Nat} {x y : AV} {cs : List AV}, @Eq (List AV) (splice vs o (@List.cons AV x (@List.cons AV y cs))) (@HAppend.hAppend (List AV) (List AV) (List AV) (@instHAppendOfAppend (List AV) (@List.instAppend AV)) (@HAppend.hAppend (List AV) (List AV) (List AV) (@instHAppendOfAppend (List AV) (@List.instAppend AV)) (@List.take AV o vs) (@List.cons AV x (@List.cons AV y cs))) (@List.drop AV (@HAdd.hAdd Nat Nat Nat (@instHAdd Nat instAddNat) o (@HAdd.hAdd Nat Nat Nat (@instHAdd Nat instAddNat) (@List.length AV cs) (@OfNat.ofNat Nat (nat_lit 2) (instOfNatNat (nat_lit 2))))) vs))) ∧
    (∀ {vs : List AV} {o : Nat}, @Eq (List AV) (cut vs o (@OfNat.ofNat Nat (nat_lit 0) (instOfNatNat (nat_lit 0)))) (@List.nil AV)) ∧
    (∀ {x : AV} {vs : List AV} {n : Nat}, @Eq (List AV) (cut (@List.cons AV x vs) (@OfNat.ofNat Nat (nat_lit 0) (instOfNatNat (nat_lit 0))) (@HAdd.hAdd Nat Nat Nat (@instHAdd Nat instAddNat) n (@OfNat.ofNat Nat (nat_lit 1) (instOfNatNat (nat_lit 1))))) (@List.cons AV x (cut vs (@OfNat.ofNat Nat (nat_lit 0) (instOfNatNat (nat_lit 0))) n))) ∧
    (∀ {x : AV} {vs : List AV} {o n : Nat}, @Eq (List AV) (cut (@List.cons AV x vs) (@HAdd.hAdd Nat Nat Nat (@instHAdd Nat instAddNat) o (@OfNat.ofNat Nat (nat_lit 1) (instOfNatNat (nat_lit 1)))) n) (cut vs o n)) ∧
    (∀ {z : List AV}, @Eq (Option (List AV)) (fillA z (@List.nil (Prod Nat (Prod Nat AV)))) (@some (List AV) z)) ∧
    (∀ {z : List AV} {o : Nat} {k : IntKind} {n : Int} {rest : List (Prod Nat (Prod Nat AV))}, @LT.lt Nat instLTNat o (@List.length AV z) → @Eq (Option (List AV)) (fillA z (@List.cons (Prod Nat (Prod Nat AV)) (@Prod.mk Nat (Prod Nat AV) o (@Prod.mk Nat AV (@OfNat.ofNat Nat (nat_lit 1) (instOfNatNat (nat_lit 1))) (AV.int k n))) rest)) (fillA (@List.set AV z o (AV.int k n)) rest)) ∧
    (∀ {z : List AV} {o : Nat} {b : Bool} {rest : List (Prod Nat (Prod Nat AV))}, @LT.lt Nat instLTNat o (@List.length AV z) → @Eq (Option (List AV)) (fillA z (@List.cons (Prod Nat (Prod Nat AV)) (@Prod.mk Nat (Prod Nat AV) o (@Prod.mk Nat AV (@OfNat.ofNat Nat (nat_lit 1) (instOfNatNat (nat_lit 1))) (AV.bool b))) rest)) (fillA (@List.set AV z o (AV.bool b)) rest)) ∧
    (∀ {z : List AV} {o i p : Nat} {rest : List (Prod Nat (Prod Nat AV))}, @LT.lt Nat instLTNat o (@List.length AV z) → @Eq (Option (List AV)) (fillA z (@List.cons (Prod Nat (Prod Nat AV)) (@Prod.mk Nat (Prod Nat AV) o (@Prod.mk Nat AV (@OfNat.ofNat Nat (nat_lit 1) (instOfNatNat (nat_lit 1))) (AV.ptr i p))) rest)) (fillA (@List.set AV z o (AV.ptr i p)) rest)) ∧
    (∀ {z : List AV} {o i p n : Nat} {c : Cap} {rest : List (Prod Nat (Prod Nat AV))}, @LT.lt Nat instLTNat o (@List.length AV z) → @Eq (Option (List AV)) (fillA z (@List.cons (Prod Nat (Prod Nat AV)) (@Prod.mk Nat (Prod Nat AV) o (@Prod.mk Nat AV (@OfNat.ofNat Nat (nat_lit 1) (instOfNatNat (nat_lit 1))) (AV.slice i p n c))) rest)) (fillA (@List.set AV z o (AV.slice i p n c)) rest)) ∧
    (∀ {z : List AV} {o : Nat} {rest : List (Prod Nat (Prod Nat AV))}, @LT.lt Nat instLTNat o (@List.length AV z) → @Eq (Option (List AV)) (fillA z (@List.cons (Prod Nat (Prod Nat AV)) (@Prod.mk Nat (Prod Nat AV) o (@Prod.mk Nat AV (@OfNat.ofNat Nat (nat_lit 1) (instOfNatNat (nat_lit 1))) AV.nilslice)) rest)) (fillA (@List.set AV z o AV.nilslice) rest)) ∧
    (∀ {z : List AV} {o g : Nat} {f c : List AV} {rest : List (Prod Nat (Prod Nat AV))}, @LT.lt Nat instLTNat o (@List.length AV z) → @Eq (Option (List AV)) (fillA z (@List.cons (Prod Nat (Prod Nat AV)) (@Prod.mk Nat (Prod Nat AV) o (@Prod.mk Nat AV (@OfNat.ofNat Nat (nat_lit 1) (instOfNatNat (nat_lit 1))) (AV.func g f c))) rest)) (fillA (@List.set AV z o (AV.func g f c)) rest)) ∧
    (∀ {z : List AV} {o n : Nat} {xs : List AV} {rest : List (Prod Nat (Prod Nat AV))}, @Eq Nat (@List.length AV xs) n → @LE.le Nat instLENat (@HAdd.hAdd Nat Nat Nat (@instHAdd Nat instAddNat) o n) (@List.length AV z) → @Eq (Option (List AV)) (fillA z (@List.cons (Prod Nat (Prod Nat AV)) (@Prod.mk Nat (Prod Nat AV) o (@Prod.mk Nat AV n (AV.agg xs))) rest)) (fillA (@HAppend.hAppend (List AV) (List AV) (List AV) (@instHAppendOfAppend (List AV) (@List.instAppend AV)) (@HAppend.hAppend (List AV) (List AV) (List AV) (@instHAppendOfAppend (List AV) (@List.instAppend AV)) (@List.take AV o z) xs) (@List.drop AV (@HAdd.hAdd Nat Nat Nat (@instHAdd Nat instAddNat) o n) z)) rest)) ∧
    (∀ {z : List AV} {o : Nat} {v : AV} {rest : List (Prod Nat (Prod Nat AV))}, @Eq (List AV) (AV.cells v) (@List.cons AV v (@List.nil AV)) → @LT.lt Nat instLTNat o (@List.length AV z) → @Eq (Option (List AV)) (fillA z (@List.cons (Prod Nat (Prod Nat AV)) (@Prod.mk Nat (Prod Nat AV) o (@Prod.mk Nat AV (@OfNat.ofNat Nat (nat_lit 1) (instOfNatNat (nat_lit 1))) v)) rest)) (fillA (@List.set AV z o v) rest)) ∧
    (∀ {h : Heap}, @Eq (Option (Prod AV Heap)) (storeOA (@some Heap h)) (@some (Prod AV Heap) (@Prod.mk AV Heap AV.undef h))) ∧
    (∀ {z : List AV} {h : Heap}, @Eq (Option (Prod AV Heap)) (allocA (@none Nat) z h) (@some (Prod AV Heap) (@Prod.mk AV Heap (AV.ptr (Heap.size h) (@OfNat.ofNat Nat (nat_lit 0) (instOfNatNat (nat_lit 0)))) (Heap.push h (ABlk.cells z true (@OfNat.ofNat Nat (nat_lit 0) (instOfNatNat (nat_lit 0)))))))) ∧
    (∀ {z : List AV} {h : Heap} {n : Nat}, @Eq (Option (Prod AV Heap)) (allocA (@some Nat n) z h) (kept n h (Heap.get h n) fun n x p => @some (Prod AV Heap) (@Prod.mk AV Heap (AV.ptr n (@OfNat.ofNat Nat (nat_lit 0) (instOfNatNat (nat_lit 0)))) (p (ABlk.cells z true (@OfNat.ofNat Nat (nat_lit 0) (instOfNatNat (nat_lit 0)))))))) ∧
    (∀ {n : Nat} {h : Heap} {f : Nat → Heap → (ABlk → Heap) → Option (Prod AV Heap)}, @LT.lt Nat instLTNat n (Heap.size h) → @Eq (Option (Prod AV Heap)) (kept n h (@none ABlk) f) (f n h fun b => Heap.put h n b)) ∧
    (∀ {n : Nat} {cs : List AV} {h : Heap}, @Eq (Option (Prod AV Heap)) (buildSliceA (@none Nat) n (@some (List AV) cs) h) (@some (Prod AV Heap) (@Prod.mk AV Heap (AV.slice (Heap.size h) (@OfNat.ofNat Nat (nat_lit 0) (instOfNatNat (nat_lit 0))) n (Cap.known n)) (Heap.push h (ABlk.cells cs true (@OfNat.ofNat Nat (nat_lit 0) (instOfNatNat (nat_lit 0)))))))) ∧
    (∀ {n : Nat} {cs : List AV} {h : Heap} {i : Nat}, @Eq (Option (Prod AV Heap)) (buildSliceA (@some Nat i) n (@some (List AV) cs) h) (kept i h (Heap.get h i) fun i x p => @some (Prod AV Heap) (@Prod.mk AV Heap (AV.slice i (@OfNat.ofNat Nat (nat_lit 0) (instOfNatNat (nat_lit 0))) n (Cap.known n)) (p (ABlk.cells cs true (@OfNat.ofNat Nat (nat_lit 0) (instOfNatNat (nat_lit 0)))))))) ∧
    (∀ {z : List AV} {bytes : Nat} {h : Heap} {k k' : IntKind} {l c : Int}, And (@LE.le Int Int.instLEInt (@OfNat.ofNat Int (nat_lit 0) (@instOfNat (nat_lit 0))) l) (And (@LE.le Int Int.instLEInt l c) (And (@LE.le Int Int.instLEInt (@HMul.hMul Int Int Int (@instHMul Int Int.instMul) c (@Nat.cast Int instNatCastInt bytes)) (@OfNat.ofNat Int (nat_lit 140737488355328) (@instOfNat (nat_lit 140737488355328)))) (@LE.le Int Int.instLEInt c (@OfNat.ofNat Int (nat_lit 140737488355328) (@instOfNat (nat_lit 140737488355328)))))) → @Eq (Option (Prod AV Heap)) (makeA (@none Nat) z bytes h (AV.int k l) (AV.int k' c)) (@some (Prod AV Heap) (@Prod.mk AV Heap (AV.slice (Heap.size h) (@OfNat.ofNat Nat (nat_lit 0) (instOfNatNat (nat_lit 0))) (Int.toNat l) (Cap.known (Int.toNat c))) (Heap.push h (ABlk.cells (zerosA (Int.toNat c) z) true (@OfNat.ofNat Nat (nat_lit 0) (instOfNatNat (nat_lit 0)))))))) ∧
    (∀ {z : List AV} {bytes : Nat} {h : Heap} {k k' : IntKind} {l c : Int} {i : Nat}, And (@LE.le Int Int.instLEInt (@OfNat.ofNat Int (nat_lit 0) (@instOfNat (nat_lit 0))) l) (And (@LE.le Int Int.instLEInt l c) (And (@LE.le Int Int.instLEInt (@HMul.hMul Int Int Int (@instHMul Int Int.instMul) c (@Nat.cast Int instNatCastInt bytes)) (@OfNat.ofNat Int (nat_lit 140737488355328) (@instOfNat (nat_lit 140737488355328)))) (@LE.le Int Int.instLEInt c (@OfNat.ofNat Int (nat_lit 140737488355328) (@instOfNat (nat_lit 140737488355328)))))) → @Eq (Option (Prod AV Heap)) (makeA (@some Nat i) z bytes h (AV.int k l) (AV.int k' c)) (kept i h (Heap.get h i) fun i x p => @some (Prod AV Heap) (@Prod.mk AV Heap (AV.slice i (@OfNat.ofNat Nat (nat_lit 0) (instOfNatNat (nat_lit 0))) (Int.toNat l) (Cap.known (Int.toNat c))) (p (ABlk.cells (zerosA (Int.toNat c) z) true (@OfNat.ofNat Nat (nat_lit 0) (instOfNatNat (nat_lit 0)))))))) ∧
    (∀ {sz i o n : Nat} {c : Cap} {kk : IntKind} {k : Int}, And (@LE.le Int Int.instLEInt (@OfNat.ofNat Int (nat_lit 0) (@instOfNat (nat_lit 0))) k) (@LT.lt Int Int.instLTInt k (@Nat.cast Int instNatCastInt n)) → @Eq (Option AV) (idxA sz (AV.slice i o n c) (AV.int kk k)) (@some AV (AV.ptr i (@HAdd.hAdd Nat Nat Nat (@instHAdd Nat instAddNat) o (@HMul.hMul Nat Nat Nat (@instHMul Nat instMulNat) (Int.toNat k) sz))))) ∧
    (∀ {sz len i o : Nat} {kk : IntKind} {k : Int}, And (@LE.le Int Int.instLEInt (@OfNat.ofNat Int (nat_lit 0) (@instOfNat (nat_lit 0))) k) (@LT.lt Int Int.instLTInt k (@Nat.cast Int instNatCastInt len)) → @Eq (Option AV) (idxArrA sz len (AV.ptr i o) (AV.int kk k)) (@some AV (AV.ptr i (@HAdd.hAdd Nat Nat Nat (@instHAdd Nat instAddNat) o (@HMul.hMul Nat Nat Nat (@instHMul Nat instMulNat) (Int.toNat k) sz))))) ∧
    (∀ {off i o : Nat}, @Eq (Option AV) (fieldAddrA off (AV.ptr i o)) (@some AV (AV.ptr i (@HAdd.hAdd Nat Nat Nat (@instHAdd Nat instAddNat) o off)))) ∧
    (∀ {agg : Bool} {off n : Nat} {vs : List AV}, @Eq (Option AV) (fieldA agg off n (AV.agg vs)) (partA agg vs off n)) ∧
    (∀ {vs : List AV} {o n : Nat}, @Eq (Option AV) (partA false vs o n) (@getElem? (List AV) Nat AV (fun xs i => @LT.lt Nat instLTNat i (@List.length AV xs)) (@List.instGetElem?NatLtLength AV) vs o)) ∧
    (∀ {vs : List AV} {o n : Nat}, @LE.le Nat instLENat (@HAdd.hAdd Nat Nat Nat (@instHAdd Nat instAddNat) o n) (@List.length AV vs) → @Eq (Option AV) (partA true vs o n) (@some AV (AV.agg (cut vs o n)))) ∧
    (∀ {i o n : Nat} {c : Cap}, @Eq (Option AV) (lenA (AV.slice i o n c)) (@some AV (AV.int IntKind.i64 (@Nat.cast Int instNatCastInt n)))) ∧
    (@Eq (Option AV) (lenA AV.nilslice) (@some AV (AV.int IntKind.i64 (@OfNat.ofNat Int (nat_lit 0) (@instOfNat (nat_lit 0)))))) ∧
    (∀ {k : IntKind} {n : Int}, @Eq (List AV) (AV.cells (AV.int k n)) (@List.cons AV (AV.int k n) (@List.nil AV))) ∧
    (∀ {b : Bool}, @Eq (List AV) (AV.cells (AV.bool b)) (@List.cons AV (AV.bool b) (@List.nil AV))) ∧
    (∀ {vs : List AV}, @Eq (List AV) (AV.cells (AV.agg vs)) vs) ∧
    (∀ {i o n : Nat} {c : Cap}, @Eq (List AV) (AV.cells (AV.slice i o n c)) (@List.cons AV (AV.slice i o n c) (@List.nil AV))) ∧
    (@Eq (List AV) (AV.cells AV.nilslice) (@List.cons AV AV.nilslice (@List.nil AV))) ∧
    (∀ {i o : Nat}, @Eq (List AV) (AV.cells (AV.ptr i o)) (@List.cons AV (AV.ptr i o) (@List.nil AV))) ∧
    (∀ {g : Nat} {f c : List AV}, @Eq (List AV) (AV.cells (AV.func g f c)) (@List.cons AV (AV.func g f c) (@List.nil AV))) ∧
    (∀ {l : Nat}, @Eq (List AV) (AV.cells (AV.yield l)) (@List.cons AV (AV.yield l) (@List.nil AV))) ∧
    (∀ {l : List Int}, @Eq Nat (@List.length AV (ints l)) (@List.length Int l)) ∧
    (∀ {l : List Int} {k : Nat}, @LT.lt Nat instLTNat k (@List.length Int l) → @Eq (Option AV) (@getElem? (List AV) Nat AV (fun xs i => @LT.lt Nat instLTNat i (@List.length AV xs)) (@List.instGetElem?NatLtLength AV) (ints l) k) (@some AV (AV.int IntKind.i64 (@List.getD Int l k (@OfNat.ofNat Int (nat_lit 0) (@instOfNat (nat_lit 0))))))) ∧
    (∀ {l : List Int} {k : Nat} {x : Int}, @Eq (List AV) (@List.set AV (ints l) k (AV.int IntKind.i64 x)) (ints (@List.set Int l k x))) ∧
    (∀ {l : List Int} {x : Int}, @Eq (List AV) (@HAppend.hAppend (List AV) (List AV) (List AV) (@instHAppendOfAppend (List AV) (@List.instAppend AV)) (ints l) (@List.cons AV (AV.int IntKind.i64 x) (@List.nil AV))) (ints (@HAppend.hAppend (List Int) (List Int) (List Int) (@instHAppendOfAppend (List Int) (@List.instAppend Int)) l (@List.cons Int x (@List.nil Int))))) ∧
    (∀ {sz i o n : Nat} {c : Cap} {k : Nat}, @Eq AV (elA sz (AV.slice i o n c) k) (AV.ptr i (@HAdd.hAdd Nat Nat Nat (@instHAdd Nat instAddNat) o (@HMul.hMul Nat Nat Nat (@instHMul Nat instMulNat) k sz)))) ∧
    (∀ {n : Nat} {x : AV}, @Eq (List AV) (zerosA n (@List.cons AV x (@List.nil AV))) (@List.replicate AV n x)) ∧
    (∀ {r : ALoop} {K : ALoop → Prop}, @Eq Prop (@atLoop (@some ABlk (ABlk.loop r)) (HoldL.mk K)) (K r)) ∧
    (∀ {t : Nat → AV}, @Eq (Nat → AV) (setParams t (@List.nil Nat) (@List.nil AV)) t) ∧
    (∀ {t : Nat → AV} {p : Nat} {ps : List Nat} {a : AV} {xs : List AV}, @Eq (Nat → AV) (setParams t (@List.cons Nat p ps) (@List.cons AV a xs)) (setParams (upd t p a) ps xs)) ∧
    (∀ {a b : Nat}, @LE.le Nat instLENat a b → @Eq Nat (@min Nat instMinNat a b) a) ∧
    (∀ (n : Nat), @Eq Nat (Int.toNat (@Nat.cast Int instNatCastInt n)) n) ∧
    (∀ (n : Nat), @Eq Nat (@HAdd.hAdd Nat Nat Nat (@instHAdd Nat instAddNat) (@OfNat.ofNat Nat (nat_lit 0) (instOfNatNat (nat_lit 0))) n) n) ∧
    (∀ (n : Nat), @Eq Nat (@HAdd.hAdd Nat Nat Nat (@instHAdd Nat instAddNat) n (@OfNat.ofNat Nat (nat_lit 0) (instOfNatNat (nat_lit 0)))) n) ∧
    (∀ (n : Nat), @Eq Nat (@HMul.hMul Nat Nat Nat (@instHMul Nat instMulNat) n (@OfNat.ofNat Nat (nat_lit 1) (instOfNatNat (nat_lit 1)))) n) ∧
    (∀ (n : Nat), @Eq Nat (@HMul.hMul Nat Nat Nat (@instHMul Nat instMulNat) (@OfNat.ofNat Nat (nat_lit 0) (instOfNatNat (nat_lit 0))) n) (@OfNat.ofNat Nat (nat_lit 0) (instOfNatNat (nat_lit 0)))) ∧
    (∀ (h : Decidable True), @Eq Bool (@decide True h) true) ∧
    (∀ (h : Decidable False), @Eq Bool (@decide False h) false) ∧
    (@Eq Bool (not true) false) ∧
    (@Eq Bool (not false) true) ∧
    (∀ {p : Prop} [inst : Decidable p], @Eq Prop (@Eq Bool (@decide p inst) true) p) ∧
    (∀ (k : IntKind) (n : Int) (k_1 : IntKind) (n_1 : Int), @Eq Prop (@Eq AV (AV.int k n) (AV.int k_1 n_1)) (And (@Eq IntKind k k_1) (@Eq Int n n_1))) :=
  ⟨@app_known,
   @appKB_grow,
   @appKB_room,
   @app_unk,
   @appUB_grow,
   @app_nil,
   @app_nil0,
   @appA_some,
   @atDefd_some,
   @retO_ret,
   @retO_normal,
   @chkP_nil,
   @chkP_none,
   @chkP_skip,
   @chkP_take,
   @chkS_nil,
   @chkS_none,
   @chkS_skip,
   @chkS_take,
   @noneIn_nil,
   @noneIn_none,
   @noneIn_cons,
   @ids_ptr,
   @ids_slice,
   @ids_nil,
   @ids_int,
   @ids_bool,
   @ids_agg,
   @rids_known,
   @rids_unk,
   @rids_nil,
   @foot_blind,
   @wr_blind,
   @foot_load,
   @wr_load,
   @foot_store,
   @wr_store,
   @foot_slice,
   @wr_slice,
   @foot_append,
   @wr_append,
   @foot_alloc,
   @wr_alloc,
   @foot_box,
   @wr_box,
   @foot_build,
   @wr_build,
   @foot_make,
   @wr_make,
   @foot_copy,
   @wr_copy,
   @false_implies,
   @true_and,
   @and_true,
   @resA_nil,
   @resA_tmp,
   @resA_cell,
   @retA_zero,
   @retA_one,
   @retA_two,
   @retA_three,
   @retA_four,
   @ev_tmp,
   @ev_const,
   @evs_nil,
   @evs_cons,
   @upd_same,
   @upd_ne,
   @argT_app,
   @condV_true,
   @condV_false,
   @condV_dec,
   @condV_var,
   @Br_not,
   @Br_pos,
   @Br_neg,
   @gV_tt,
   @gV_tf,
   @gV_ft,
   @gV_ff,
   @gV_dt,
   @gV_df,
   @gV_vt,
   @gV_vf,
   @Call_func,
   @Call_clo,
   @Call_yield,
   @opt1_some,
   @opt2_some,
   @opR_mv,
   @opR_pick,
   @opR_build,
   @opR_load,
   @opR_nilCheck,
   @opR_bin,
   @opR_eqb,
   @opR_eqn,
   @opR_eqs,
   @opR_un,
   @opR_conv,
   @opR_mkfunc,
   @opR_slice,
   @opR_fieldAddr,
   @opR_field,
   @opR_indexAddr,
   @opR_indexArr,
   @opR_index,
   @opR_extract,
   @opR_len,
   @opR_cap,
   @opR_max,
   @opR_min,
   @opR_alloc,
   @opR_box,
   @opR_buildSlice,
   @opR_store,
   @opR_makeSlice,
   @opR_append,
   @opR_copy,
   @bin_add,
   @bin_sub,
   @bin_mul,
   @bin_quo,
   @bin_rem,
   @bin_and,
   @bin_or,
   @bin_xor,
   @bin_andNot,
   @bin_eql,
   @bin_neq,
   @bin_lss,
   @bin_leq,
   @bin_gtr,
   @bin_geq,
   @bin_shl,
   @bin_shr,
   @bits_and1,
   @un_neg,
   @un_not,
   @un_xor,
   @conv_int,
   @eqb_ff,
   @eqb_tt,
   @pick_tt,
   @pick_ff,
   @pick_dt,
   @pick_df,
   @pick_vt,
   @pick_vf,
   @ext_tuple,
   @max_two,
   @max_three,
   @min_two,
   @min_three,
   @w_i64,
   @w_i32,
   @w_u8,
   @w_u32,
   @w_u64,
   @tdiv_nn,
   @tmod_nn,
   @fdiv_nn,
   @bits_i64,
   @bits_u64,
   @bits_u32,
   @bits_i32,
   @bits_u8,
   @min_shift,
   @get_push_eq,
   @get_push_lt,
   @get_put_eq,
   @get_put_ne,
   @put_put,
   @push_put,
   @push_put_lt,
   @Heap.size_push,
   @Heap.size_put,
   @Heap.size_reserve,
   @Heap.get_reserve,
   @load_ptr,
   @loadB_one,
   @loadB_agg,
   @store_ptr,
   @storeB_int,
   @storeB_bool,
   @storeB_slice,
   @storeB_nil,
   @storeB_agg,
   @storeB_var,
   @splice_one,
   @splice_two,
   @cut_nil,
   @cut_cons,
   @cut_succ,
   @fill_nil,
   @fill_int,
   @fill_bool,
   @fill_ptr,
   @fill_slice,
   @fill_nilslice,
   @fill_func,
   @fill_agg,
   @fill_one,
   @storeO_some,
   @alloc_none,
   @alloc_some,
   @kept_none,
   @buildS_none,
   @buildS_some,
   @make_none,
   @make_some,
   @idx_slice,
   @idxArr_ptr,
   @fieldAddr_ptr,
   @field_agg,
   @part_one,
   @part_agg,
   @len_slice,
   @len_nil,
   @cells_int,
   @cells_bool,
   @cells_agg,
   @cells_slice,
   @cells_nil,
   @cells_ptr,
   @cells_func,
   @cells_yield,
   @ints_length,
   @ints_get,
   @ints_set,
   @ints_snoc,
   @elA_slice,
   @zeros_one,
   @atLoop_some,
   @setParams_nil,
   @setParams_cons,
   @Nat.min_eq_left,
   @Int.toNat_natCast,
   @Nat.zero_add,
   @Nat.add_zero,
   @Nat.mul_one,
   @Nat.zero_mul,
   @decide_true,
   @decide_false,
   @Bool.not_true,
   @Bool.not_false,
   @decide_eq_true_eq,
   @AV.int.injEq⟩
end Go.Ae

/- The rules of the simplifier that hold for every type, bundled. -/
namespace Go.Ae
theorem wpPoly :
    (∀ {α : Type} {l : List α}, l ++ [] = l) ∧
    (∀ {α : Type} {a : α} {l m : List α}, (a :: l) ++ m = a :: (l ++ m)) ∧
    (∀ {α : Type} {a : α} {l : List α} {i : Nat}, (a :: l).drop (i + 1) = l.drop i) ∧
    (∀ {α : Type} {l : List α}, l.drop 0 = l) ∧
    (∀ {α : Type} {p : α → Prop} {a : α} {l : List α}, (∀ x ∈ a :: l, p x) = (p a ∧ ∀ x ∈ l, p x)) ∧
    (∀ {α : Type} {a d : α} {l : List α} {i : Nat}, (a :: l).getD (i + 1) d = l.getD i d) ∧
    (∀ {α : Type} {a d : α} {l : List α}, (a :: l).getD 0 d = a) ∧
    (∀ {α : Type} {d : α} {i : Nat}, ([] : List α).getD i d = d) ∧
    (∀ {α : Type} {a : α} {l : List α} {i : Nat}, (a :: l)[i + 1]? = l[i]?) ∧
    (∀ {α : Type} {a : α} {l : List α}, (a :: l)[0]? = some a) ∧
    (∀ {α : Type} {a : α} {l : List α}, (a :: l).length = l.length + 1) ∧
    (∀ {α : Type}, ([] : List α).length = 0) ∧
    (∀ {α β : Type} {f : α → β} {a : α} {l : List α}, (a :: l).map f = f a :: l.map f) ∧
    (∀ {α β : Type} {f : α → β}, ([] : List α).map f = []) ∧
    (∀ {α : Type} {l : List α}, [] ++ l = l) ∧
    (∀ {α : Type} {a : α}, (a ∈ ([] : List α)) = False) ∧
    (∀ {α : Type} {a b : α} {l : List α} {i : Nat}, (a :: l).set (i + 1) b = a :: l.set i b) ∧
    (∀ {α : Type} {a b : α} {l : List α}, (a :: l).set 0 b = b :: l) ∧
    (∀ {α : Type} {a : α} {l : List α} {i : Nat}, (a :: l).take (i + 1) = a :: l.take i) ∧
    (∀ {α : Type} {l : List α}, l.take 0 = []) ∧
    (∀ {α β : Type} {f : α → β}, (none : Option α).map f = none) ∧
    (∀ {α β : Type} {f : α → β} {a : α}, (some a).map f = some (f a)) ∧
    (∀ {α : Type} {a : α}, (a = a) = True) ∧
    (∀ {α : Type} {p : α → Prop} {b : α}, (∃ a, a = b ∧ p a) = p b) ∧
    (∀ {α : Type} {p : α → Prop} {b : α}, (∃ a, b = a ∧ p a) = p b) ∧
    (∀ {α : Type}, (α → True) = True) ∧
    (∀ {α : Prop}, (α → True) = True) ∧
    (∀ {α : Type} {a b : α}, (a ≠ b) = ¬ a = b) := by
  refine ⟨?_, ?_, ?_, ?_, ?_, ?_, ?_, ?_, ?_, ?_, ?_, ?_, ?_, ?_, ?_, ?_, ?_, ?_, ?_, ?_, ?_, ?_, ?_, ?_, ?_, ?_, ?_, ?_⟩ <;> intros <;> simp
theorem wpD1 :
    (∀ {h : Heap} {b : ABlk}, (h.push b).size = h.size + 1) ∧
    (∀ {h : Heap} {i : Nat} {b : ABlk}, (h.put i b).size = h.size) ∧
    (∀ {h : Heap} {k : Nat}, (h.reserve k).size = h.size + k) ∧
    (∀ {l : List Int}, (ints l).length = l.length) ∧
    (∀ {x y : Nat}, (x ∈ [y]) = (x = y)) ∧
    (∀ {α : Type} {a : α} {l : List α}, (a :: l).length = l.length + 1) ∧
    (∀ {α : Type}, ([] : List α).length = 0) ∧
    (∀ {α : Type} {n : Nat} {a : α}, (List.replicate n a).length = n) ∧
    (∀ {α : Type} {l : List α} {i : Nat} {a : α}, (l.set i a).length = l.length) :=
  ⟨rfl, rfl, rfl, ints_length, by simp, List.length_cons, List.length_nil, List.length_replicate, List.length_set⟩
theorem wpD2 :
    (∀ {k : IntKind} {n : Int}, (AV.int k n).one = true) ∧ (∀ {b : Bool}, (AV.bool b).one = true) ∧ (∀ {i o : Nat}, (AV.ptr i o).one = true) ∧ (∀ {i o n : Nat} {c : Cap}, (AV.slice i o n c).one = true) ∧ AV.nilslice.one = true ∧
    (∀ {g : Nat} {f c : List AV}, (AV.func g f c).one = true) ∧
    (∀ {α : Type} {p : α → Bool} {a : α} {l : List α}, (a :: l).all p = (p a && l.all p)) ∧ (∀ {α : Type} {p : α → Bool}, ([] : List α).all p = true) ∧
    (∀ {a b : Bool}, ((a && b) = true) = (a = true ∧ b = true)) ∧ (∀ {p : Prop}, (p ∧ p) = p) ∧ (∀ {p : Prop}, (True ∧ p) = p) ∧ (∀ {p : Prop}, (p ∧ True) = p) ∧ ((true = true) = True) := by
  refine ⟨?_, ?_, ?_, ?_, ?_, ?_, ?_, ?_, ?_, ?_, ?_, ?_, ?_⟩ <;> intros <;> first | rfl | simp
end Go.Ae

/- Sums of elements times powers: the plain facts about transforms. -/
namespace Go.Ae

abbrev pP : Int := 998244353

theorem take_succ_getD {l : List Int} {i : Nat} (h : i < l.length) : l.take (i + 1) = l.take i ++ [l.getD i 0] := by
  rw [List.take_add_one]; simp [h]
theorem getD_mem {l : List Int} {i : Nat} (h : i < l.length) : l.getD i 0 ∈ l := by
  have : l.getD i 0 = l[i] := by simp [h]
  rw [this]; exact List.getElem_mem h

def pe : List Int → Int → Int
  | [], _ => 0
  | x :: l, z => x + z * pe l z

def evens : List Int → List Int
  | x :: _ :: l => x :: evens l
  | l => l
def odds : List Int → List Int
  | _ :: y :: l => y :: odds l
  | _ => []
def dft (w : Int) (l : List Int) : List Int := (List.range l.length).map fun k => pe l (w ^ k) % pP
def RootOk (k : Nat) (w : Int) : Prop := ∀ j, k = j + 1 → w ^ 2 ^ j % pP = 998244352

def Cg (a b : Int) : Prop := a % pP = b % pP
theorem Cg.refl (a : Int) : Cg a a := rfl
theorem Cg.symm {a b : Int} (h : Cg a b) : Cg b a := Eq.symm h
theorem Cg.trans {a b c : Int} (h : Cg a b) (k : Cg b c) : Cg a c := Eq.trans h k
theorem Cg.add {a b c d : Int} (h : Cg a b) (k : Cg c d) : Cg (a + c) (b + d) := by unfold Cg at *; rw [Int.add_emod, h, k, ← Int.add_emod]
theorem Cg.sub {a b c d : Int} (h : Cg a b) (k : Cg c d) : Cg (a - c) (b - d) := by unfold Cg at *; rw [Int.sub_emod, h, k, ← Int.sub_emod]
theorem Cg.mul {a b c d : Int} (h : Cg a b) (k : Cg c d) : Cg (a * c) (b * d) := by unfold Cg at *; rw [Int.mul_emod, h, k, ← Int.mul_emod]
theorem Cg.neg {a b : Int} (h : Cg a b) : Cg (-a) (-b) := by have := (Cg.refl 0).sub h; simpa using this
theorem Cg.pe {a b : Int} (h : Cg a b) (l : List Int) : Cg (pe l a) (pe l b) := by
  induction l with
  | nil => exact Cg.refl _
  | cons x l ih => exact (Cg.refl x).add (h.mul ih)
theorem Cg.plus (a k : Int) : Cg (a + k * pP) a := by unfold Cg; rw [Int.add_mul_emod_self_right]

end Go.Ae

/- What the statements' helpers give. -/
set_option linter.unusedSimpArgs false
set_option linter.unusedVariables false
namespace Go.Ae
section
variable {C : Ctx}

def In64 (x : Int) : Prop := -9223372036854775808 ≤ x ∧ x ≤ 9223372036854775807

theorem Equal_spec (hC : Has C T12) {va vb : AV} {a b : List Int} {h : Heap} (ha : RI h va a) (hb : RI h vb b) : ACalls C 12 [va, vb] h (fun r h' => r = .bool (decide (a = b)) ∧ h' = h) := by
  have l1 := ha.lt
  have l2 := hb.lt
  (refine calls_intro (hC.body (by decide) tab12) (Nat.le_of_ble_eq_true rfl) ?_); (show wp C _ none B12.code _ _); (simp only [B12]); simp -implicitDefEqProofs (disch := first | assumption | decide | omega | (simp only [wpD1] <;> omega) | (simp only [wpD2] <;> assumption) | solve_by_elim [HSub.refl, HSub.push, HSub.reserve] | fail) only [↓wpPre, wpPost, wpPoly, Int.reduceToNat, Int.reducePow, Int.reduceMul, Int.reduceAdd, Int.reduceSub, Int.reduceNeg, Nat.reduceAdd, Nat.reduceMul, Nat.reducePow, Int.reduceLT, Int.reduceLE, Int.reduceEq, Nat.reduceEqDiff, ha.len, hb.len]
  refine Br.by (fun c => ?_) (fun c => ?_)
  · simp -implicitDefEqProofs (disch := first | assumption | decide | omega | (simp only [wpD1] <;> omega) | (simp only [wpD2] <;> assumption) | solve_by_elim [HSub.refl, HSub.push, HSub.reserve] | fail) only [↓wpPre, wpPost, wpPoly, Int.reduceToNat, Int.reducePow, Int.reduceMul, Int.reduceAdd, Int.reduceSub, Int.reduceNeg, Nat.reduceAdd, Nat.reduceMul, Nat.reducePow, Int.reduceLT, Int.reduceLE, Int.reduceEq, Nat.reduceEqDiff]
    have : a ≠ b := fun e => by subst e; omega
    simp [this]
  · simp -implicitDefEqProofs (disch := first | assumption | decide | omega | (simp only [wpD1] <;> omega) | (simp only [wpD2] <;> assumption) | solve_by_elim [HSub.refl, HSub.push, HSub.reserve] | fail) only [↓wpPre, wpPost, wpPoly, Int.reduceToNat, Int.reducePow, Int.reduceMul, Int.reduceAdd, Int.reduceSub, Int.reduceNeg, Nat.reduceAdd, Nat.reduceMul, Nat.reducePow, Int.reduceLT, Int.reduceLE, Int.reduceEq, Nat.reduceEqDiff]
    refine wp_loopI (fun j t h' => h' = h ∧ t 0 = va ∧ t 1 = vb ∧ ∃ i : Nat, t 5 = .int .i64 (i : Nat) ∧ i ≤ a.length ∧ a.take i = b.take i ∧ j = a.length - i) ⟨rfl, rfl, rfl, 0, rfl, by omega, by simp, rfl⟩ ?_
    rintro j t h' ⟨rfl, e0, e1, i, e5, hi, hp, hj⟩
    simp -implicitDefEqProofs (disch := first | assumption | decide | omega | (simp only [wpD1] <;> omega) | (simp only [wpD2] <;> assumption) | solve_by_elim [HSub.refl, HSub.push, HSub.reserve] | fail) only [↓wpPre, wpPost, wpPoly, Int.reduceToNat, Int.reducePow, Int.reduceMul, Int.reduceAdd, Int.reduceSub, Int.reduceNeg, Nat.reduceAdd, Nat.reduceMul, Nat.reducePow, Int.reduceLT, Int.reduceLE, Int.reduceEq, Nat.reduceEqDiff, e0, e1, e5, ha.len]
    refine Br.by (fun c1 => ?_) (fun c1 => ?_)
    · simp -implicitDefEqProofs (disch := first | assumption | decide | omega | (simp only [wpD1] <;> omega) | (simp only [wpD2] <;> assumption) | solve_by_elim [HSub.refl, HSub.push, HSub.reserve] | fail) only [↓wpPre, wpPost, wpPoly, Int.reduceToNat, Int.reducePow, Int.reduceMul, Int.reduceAdd, Int.reduceSub, Int.reduceNeg, Nat.reduceAdd, Nat.reduceMul, Nat.reducePow, Int.reduceLT, Int.reduceLE, Int.reduceEq, Nat.reduceEqDiff, e0, e1, e5, ha.idx, hb.idx, ha.load, hb.load]
      refine Br.by (fun c2 => ?_) (fun c2 => ?_)
      · simp -implicitDefEqProofs (disch := first | assumption | decide | omega | (simp only [wpD1] <;> omega) | (simp only [wpD2] <;> assumption) | solve_by_elim [HSub.refl, HSub.push, HSub.reserve] | fail) only [↓wpPre, wpPost, wpPoly, Int.reduceToNat, Int.reducePow, Int.reduceMul, Int.reduceAdd, Int.reduceSub, Int.reduceNeg, Nat.reduceAdd, Nat.reduceMul, Nat.reducePow, Int.reduceLT, Int.reduceLE, Int.reduceEq, Nat.reduceEqDiff]
        have : a ≠ b := fun e => c2 (by rw [e])
        simp [this]
      · simp -implicitDefEqProofs (disch := first | assumption | decide | omega | (simp only [wpD1] <;> omega) | (simp only [wpD2] <;> assumption) | solve_by_elim [HSub.refl, HSub.push, HSub.reserve] | fail) only [↓wpPre, wpPost, wpPoly, Int.reduceToNat, Int.reducePow, Int.reduceMul, Int.reduceAdd, Int.reduceSub, Int.reduceNeg, Nat.reduceAdd, Nat.reduceMul, Nat.reducePow, Int.reduceLT, Int.reduceLE, Int.reduceEq, Nat.reduceEqDiff, e0, e1, e5]
        refine ⟨_, ⟨i + 1, by simp, by omega, ?_, rfl⟩, by omega⟩
        · rw [take_succ_getD (by omega), take_succ_getD (by omega), hp, Decidable.not_not.1 c2]
    · simp -implicitDefEqProofs (disch := first | assumption | decide | omega | (simp only [wpD1] <;> omega) | (simp only [wpD2] <;> assumption) | solve_by_elim [HSub.refl, HSub.push, HSub.reserve] | fail) only [↓wpPre, wpPost, wpPoly, Int.reduceToNat, Int.reducePow, Int.reduceMul, Int.reduceAdd, Int.reduceSub, Int.reduceNeg, Nat.reduceAdd, Nat.reduceMul, Nat.reducePow, Int.reduceLT, Int.reduceLE, Int.reduceEq, Nat.reduceEqDiff]
      have e1 : i = a.length := by omega
      subst e1
      rw [List.take_of_length_le (by omega), List.take_of_length_le (by omega)] at hp
      simp [hp]

theorem emod_of_tmod {x n : Int} (hn : 1 ≤ n) : x % n = if x.tmod n < 0 then x.tmod n + n else x.tmod n := by
  have h1 : x.tmod n < n := Int.tmod_lt_of_pos x (by omega)
  have h2 : -n < x.tmod n := by have := Int.lt_tmod_of_pos x (b := n) (by omega); omega
  have h3 : x % n = x.tmod n % n := by
    have := Int.tmod_add_mul_tdiv x n
    rw [← this, Int.add_mul_emod_self_left]
    rw [Int.tmod_add_mul_tdiv]
  rw [h3]
  split
  · rw [← Int.add_emod_right, Int.emod_eq_of_lt (by omega) (by omega)]
  · rw [Int.emod_eq_of_lt (by omega) (by omega)]

theorem Turn_spec (hC : Has C T23) {x n : Int} {h : Heap} (hx : In64 x) (hn : 1 ≤ n ∧ n ≤ 9223372036854775807) : ACalls C 23 [.int .i64 x, .int .i64 n] h (fun r h' => r = .int .i64 (x % n) ∧ h' = h) := by
  unfold In64 at hx
  have h1 : x.tmod n < n := Int.tmod_lt_of_pos x (by omega)
  have h2 : -n < x.tmod n := by have := Int.lt_tmod_of_pos x (b := n) (by omega); omega
  rw [emod_of_tmod hn.1]
  (refine calls_intro (hC.body (by decide) tab23) (Nat.le_of_ble_eq_true rfl) ?_); (show wp C _ none B23.code _ _); (simp only [B23]); simp -implicitDefEqProofs (disch := first | assumption | decide | omega | (simp only [wpD1] <;> omega) | (simp only [wpD2] <;> assumption) | solve_by_elim [HSub.refl, HSub.push, HSub.reserve] | fail) only [↓wpPre, wpPost, wpPoly, Int.reduceToNat, Int.reducePow, Int.reduceMul, Int.reduceAdd, Int.reduceSub, Int.reduceNeg, Nat.reduceAdd, Nat.reduceMul, Nat.reducePow, Int.reduceLT, Int.reduceLE, Int.reduceEq, Nat.reduceEqDiff]
  refine Br.by (fun c => ?_) (fun c => ?_)
  · simp -implicitDefEqProofs (disch := first | assumption | decide | omega | (simp only [wpD1] <;> omega) | (simp only [wpD2] <;> assumption) | solve_by_elim [HSub.refl, HSub.push, HSub.reserve] | fail) only [↓wpPre, wpPost, wpPoly, Int.reduceToNat, Int.reducePow, Int.reduceMul, Int.reduceAdd, Int.reduceSub, Int.reduceNeg, Nat.reduceAdd, Nat.reduceMul, Nat.reducePow, Int.reduceLT, Int.reduceLE, Int.reduceEq, Nat.reduceEqDiff, if_pos c]
  · simp -implicitDefEqProofs (disch := first | assumption | decide | omega | (simp only [wpD1] <;> omega) | (simp only [wpD2] <;> assumption) | solve_by_elim [HSub.refl, HSub.push, HSub.reserve] | fail) only [↓wpPre, wpPost, wpPoly, Int.reduceToNat, Int.reducePow, Int.reduceMul, Int.reduceAdd, Int.reduceSub, Int.reduceNeg, Nat.reduceAdd, Nat.reduceMul, Nat.reducePow, Int.reduceLT, Int.reduceLE, Int.reduceEq, Nat.reduceEqDiff, if_neg c]

def tup2 (a b : Int) : AV := .tuple [.int .i64 a, .int .i64 b]
def lstErr (v : AV) (e : Int) : AV := .tuple [v, .int .i64 e]
theorem ACallsK.eq2 {g : Nat} {args : List AV} {h h' : Heap} {r r' : AV} {K : AV → Heap → Prop} (hc : ACalls C g args h fun x h'' => x = r ∧ h'' = h') (e : r = r') (hk : K r' h') : @ACallsK C g args h ⟨K⟩ := ACallsK.eq (e ▸ hc) hk

def tabIn (L : List Nat) (g : Nat) : Option ABody := if L.contains g then tab g else none
end
end Go.Ae
