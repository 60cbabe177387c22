/- Texts of the proof, part 14: a second reading of the lowered code, proved sound, and what the functions compute. -/
import Derived.OpenShut
import Derived.ChangeSlices
import Derived.ProofKit
import Derived.WalkKit
import Derived.Test.YthapekoffnjeeaaG13
set_option linter.unusedSimpArgs false
set_option linter.unusedVariables false
namespace Go.Ae
open Go.ChangeShapes Go.WideShapes Go.ChangeAt Go.RowKit
theorem trodAll_stays {H : Type} {enc : TypeId × Value → H} {P : Program} (hl : laidOutB P = true) {W W' : World} (hb : Below W.heap.size W W') : ∀ {ts : List TypeId} {vs : List Value} {ds : List (DataW H)} {ps : List MemPlace},
  (ts.all fun t => P.readableRec t && decide (t < P.types.size)) = true → DataW.TrodAll enc P W 0 (fun _ => true) true ts vs ds ps → (∀ x ∈ ps, x.block < W.heap.size) →
  DataW.TrodAll enc P W' 0 (fun b => decide (b < W.heap.size)) true ts vs ds ps
 | [], vs, ds, ps, _, h, _ => by
  obtain ⟨rfl, rfl, rfl⟩ := trodAll_nil h
  exact trodAll_mk0
 | t :: ts, vs, ds, ps, ht, h, hlt => by
  obtain ⟨v, vs', d, ds', p, q, rfl, rfl, rfl, h1, h2⟩ := trodAll_cons h
  simp only [List.all_cons, Bool.and_eq_true, decide_eq_true_eq] at ht
  exact ⟨p, q, Below.trod hl ht.1.1 ht.1.2 h1 hb (fun x hx => hlt x (List.mem_append_left _ hx)), trodAll_stays hl hb (by simpa using ht.2) h2 (fun x hx => hlt x (List.mem_append_right _ hx)), rfl⟩
def argHeap (bs : List (Option (List AV))) : Heap := ⟨bs.length, fun i => match bs[i]? with | some (some vs) => some (.cells vs false 0) | _ => none, fun i hi => by rw [List.getElem?_eq_none hi]⟩
theorem jdo {bs : List (Option (List AV))} {i : Nat} {vs : List AV} (h : bs[i]? = some (some vs)) : (argHeap bs).get i = some (.cells vs false 0) := by simp only [argHeap, h]
theorem jcg {bs : List (Option (List AV))} {i : Nat} {b : ABlk} (h : (argHeap bs).get i = some b) : ∃ vs, bs[i]? = some (some vs) ∧ b = .cells vs false 0 := by
 simp only [argHeap] at h
 split at h
 ·rename_i vs hv; cases h; exact ⟨vs, hv, rfl⟩
 ·cases h
theorem rel_args {C : Ctx} {env : Env} {w : World} (bs : List (Option (List AV))) (hlt : ∀ i vs, bs[i]? = some (some vs) → (env i).blk < w.heap.size ∧ (∀ v ∈ vs, v.bel (argHeap bs).ok) ∧
  ∀ k v, vs[k]? = some v → w.cell? ⟨(env i).blk, (env i).sh + k, none⟩ = some (v.val C.lk env)) : Rel C ⟨fun r => r < w.heap.size, fun _ => False⟩ env (argHeap bs) w := by
 refine ⟨?_, ?_, ?_, ?_, ?_, fun r hr => hr, ?_, fun r hr => hr.elim⟩
 ·intro i b hb
  obtain ⟨vs, hv, rfl⟩ := jcg hb
  exact (hlt i vs hv).1
 ·intro i b hb
  obtain ⟨vs, hv, rfl⟩ := jcg hb
  exact (hlt i vs hv).2.2
 ·intro i j b c hb hc hij hw
  obtain ⟨vs, hv, rfl⟩ := jcg hb
  cases hw
 ·intro i b hb
  obtain ⟨vs, hv, rfl⟩ := jcg hb
  exact (hlt i vs hv).2.1
 ·intro i b hb hw
  obtain ⟨vs, hv, rfl⟩ := jcg hb
  cases hw
 ·intro i b hb hd hf
  exact hf
structure InList where
 l : List Int
 nil : Bool
 blk : Nat
 off : Nat
 cap : Nat
def InList.val (x : InList) : Value := if x.nil then .slice none 0 0 else .slice (some ⟨x.blk, x.off, none⟩) x.l.length x.cap
def InList.av (x : InList) (i : Nat) : AV := if x.nil then .nilslice else .slice i 0 x.l.length (.known x.cap)
def InList.row (x : InList) : Option (List AV) := if x.nil then none else some (ints x.l)
def InList.eb (x : InList) : EB := ⟨x.blk, x.off, 0⟩
structure InList.ok (x : InList) (w : World) : Prop where
 isNil : x.nil = true → x.l = []
 cap : x.nil = false → x.l.length ≤ x.cap
 lt : x.l.length < 9223372036854775808
 blk : x.nil = false → x.blk < w.heap.size
 cell : ∀ k n, x.l[k]? = some n → w.cell? ⟨x.blk, x.off + k, none⟩ = some (.int .i64 n)
 num : ∀ n ∈ x.l, -9223372036854775808 ≤ n ∧ n ≤ 9223372036854775807
theorem wf_i64 {n : Int} (h : (Lit.int .i64 n).wf = true) : -9223372036854775808 ≤ n ∧ n ≤ 9223372036854775807 := by
 have : (decide (IntKind.i64.min ≤ n) && decide (n ≤ IntKind.i64.max)) = true := h
 simp only [Bool.and_eq_true, decide_eq_true_eq] at this
 exact this
theorem open_list {H : Type} {enc : TypeId × Value → H} {P : Program} {w : World} {b0 : Nat} {t e : TypeId} {v : Value} {d : DataW H} {ps : List MemPlace} (ht : P.underlying t = some (.slice e)) (he : P.underlying e = some (.int .i64)) (hc : P.cellsOf e = 1)
  (hval : Value.okWide P w .any b0 t v) (hd : DataW.Trod enc P w 0 (fun _ => true) true t v d ps) : ∃ x : InList, v = x.val ∧ x.ok w := by
 have hval' := hval
 obtain ⟨a0, len, cap, rfl⟩ := okWide_slice ht hval
 obtain ⟨fuel, hf⟩ := hd
 rcases open_ints ht he hc hf with ⟨hcs, _⟩ | ⟨a, len', cap', zs, hcs, _, hl, hm, hz, _, hcell, hwz⟩
 ·simp only [Value.cells, Array.toList] at hcs
  cases hcs
  exact ⟨⟨[], true, 0, 0, 0⟩, rfl, ⟨fun _ => rfl, fun h => (by cases h), by simp, fun h => (by cases h), by simp, by simp⟩⟩
 ·simp only [Value.cells, Array.toList] at hcs
  cases hcs
  have hlen : zs.length = cap := by simpa using hz
  have hok : Cell.ok P w .any b0 t (.slice (some a) len cap) := by
   simp only [Value.okWide, ht, Cell.okWide] at hval'
   exact hval'
  simp only [Cell.ok, ht] at hok
  obtain ⟨_, _, _, hspot, row, cells, hsh, _⟩ := hok
  have hblk : a.block < w.heap.size := by
   unfold World.shape? at hsh
   rcases Nat.lt_or_ge a.block w.heap.size with h | h
   ·exact h
   ·rw [Array.getElem?_eq_none h] at hsh; cases hsh
  have hmax : cap ≤ 9223372036854775807 := hm
  obtain ⟨ab, ao, asp⟩ := a
  simp only at hspot hblk
  subst hspot
  have hlt : (zs.take len).length = len := by simp; omega
  refine ⟨⟨zs.take len, false, ab, ao, cap⟩, ?_, ⟨fun h => (by cases h), fun _ => (by rw [hlt]; exact hl), (by rw [hlt]; omega), fun _ => hblk, ?_, ?_⟩⟩
  ·simp only [InList.val, Bool.false_eq_true, if_false, hlt]
  ·intro k n hk
   rw [List.getElem?_take] at hk
   split at hk
   ·rename_i hkl
    have h2 : k < zs.length := by omega
    have := hcell k h2
    rw [List.getD_eq_getElem?_getD, hk] at this
    by_cases hk0 : k = 0
    ·subst hk0; simpa [Addr.add] using this
    ·simpa [Addr.add, hk0] using this
   ·cases hk
  ·intro n hn
   exact wf_i64 (hwz n (List.mem_of_mem_take hn))
theorem InList.ri {x : InList} {w : World} {bs : List (Option (List AV))} {i : Nat} (hx : x.ok w) (hi : bs[i]? = some x.row) : RI (argHeap bs) (x.av i) x.l := by
 unfold InList.av
 cases hn : x.nil with
 | true =>
  rw [hx.isNil hn, if_pos rfl]; exact RI.nil
 | false =>
  rw [if_neg (by simp)]
  refine RI.known (jdo (hi.trans ?_)) ⟨rfl, hx.lt⟩ (hx.cap hn)
  simp [InList.row, hn]
theorem InList.av_val {x : InList} {i : Nat} {lk : Nat → FuncId} {env : Env} (he : env i = x.eb) : (x.av i).val lk env = x.val := by
 unfold InList.av InList.val
 cases hn : x.nil with
 | true => rfl
 | false => simp [AV.val, he, InList.eb, Cap.at]
theorem InList.av_bel {x : InList} {w : World} {bs : List (Option (List AV))} {i : Nat} (hi : bs[i]? = some x.row) : (x.av i).bel (argHeap bs).ok := by
 unfold InList.av
 cases hn : x.nil with
 | true => trivial
 | false =>
  show (argHeap bs).ok i
  have : bs[i]? = some (some (ints x.l)) := hi.trans (by simp [InList.row, hn])
  simp [Heap.ok, jdo this]
theorem InList.rowOk {C : Ctx} {x : InList} {w : World} {bs : List (Option (List AV))} {env : Env} {i : Nat} {vs : List AV} (hx : x.ok w) (he : env i = x.eb) (hv : x.row = some vs) : (env i).blk < w.heap.size ∧ (∀ v ∈ vs, v.bel (argHeap bs).ok) ∧
  ∀ k v, vs[k]? = some v → w.cell? ⟨(env i).blk, (env i).sh + k, none⟩ = some (v.val C.lk env) := by
 unfold InList.row at hv
 split at hv
 ·cases hv
 ·rename_i hn
  cases hv
  rw [he]
  refine ⟨hx.blk (by simpa using hn), ?_, ?_⟩
  ·intro v hv
   obtain ⟨n, _, rfl⟩ := List.mem_map.1 hv
   trivial
  ·intro k v hk
   simp only [ints, List.getElem?_map, Option.map_eq_some_iff] at hk
   obtain ⟨n, hn, rfl⟩ := hk
   exact hx.cell k n hn
end Go.Ae
namespace Go.Ae
open Go.ChangeShapes Go.WideShapes Go.ChangeAt Go.RowKit
inductive Lf where
 | int (k : IntKind)
 | bool
 | ints
 deriving DecidableEq
def Fits (w : World) : List Lf → List Value → Prop
 | [], vs => vs = []
 | .int k :: ls, vs => ∃ n rest, vs = .int k n :: rest ∧ (Lit.int k n).wf = true ∧ Fits w ls rest
 | .bool :: ls, vs => ∃ b rest, vs = .bool b :: rest ∧ Fits w ls rest
 | .ints :: ls, vs => ∃ (x : InList) (rest : List Value), vs = x.val :: rest ∧ x.ok w ∧ Fits w ls rest
theorem Fits.append {w : World} : ∀ {ls ms : List Lf} {vs us : List Value}, Fits w ls vs → Fits w ms us → Fits w (ls ++ ms) (vs ++ us)
 | [], ms, vs, us, h, g => by cases h; exact g
 | .int k :: ls, ms, vs, us, ⟨n, rest, e, a, b⟩, g => ⟨n, rest ++ us, by rw [e]; rfl, a, b.append g⟩
 | .bool :: ls, ms, vs, us, ⟨n, rest, e, b⟩, g => ⟨n, rest ++ us, by rw [e]; rfl, b.append g⟩
 | .ints :: ls, ms, vs, us, ⟨n, rest, e, a, b⟩, g => ⟨n, rest ++ us, by rw [e]; rfl, a, b.append g⟩
def Side (w : World) (cs : List Value) : Prop := ∀ a len cap, Value.slice (some a) len cap ∈ cs → a.spot = none ∧ a.block < w.heap.size
theorem Side.part {w : World} {cs : List Value} (h : Side w cs) (a b : Nat) : Side w ((cs.drop a).take b) := fun x len cap hx => h x len cap (List.mem_of_mem_drop (List.mem_of_mem_take hx))
section
variable {H : Type} {enc : TypeId × Value → H} {P : Program} {w : World}
end
/-! ### Lists of samples -/
def smps (l : List (Int × Int)) : List AV := l.flatMap fun p => [.int .i64 p.1, .int .i64 p.2]
theorem jbt {p : Int × Int} {l : List (Int × Int)} : smps (p :: l) = .int .i64 p.1 :: .int .i64 p.2 :: smps l := rfl
theorem jaW {l : List (Int × Int)} : (smps l).length = l.length * 2 := by
 induction l with
 | nil => rfl
 | cons p l ih => rw [jbt, List.length_cons, List.length_cons, List.length_cons, ih]; omega
theorem jeE : ∀ {l : List (Int × Int)} {k : Nat}, (smps l)[k * 2]? = (l[k]?).map fun p => .int .i64 p.1
 | [], k => by simp [smps]
 | p :: l, 0 => rfl
 | p :: l, k + 1 => by rw [jbt, show (k + 1) * 2 = k * 2 + 1 + 1 by omega, List.getElem?_cons_succ, List.getElem?_cons_succ, List.getElem?_cons_succ]; exact jeE
theorem jdM : ∀ {l : List (Int × Int)} {k : Nat}, (smps l)[k * 2 + 1]? = (l[k]?).map fun p => .int .i64 p.2
 | [], k => by simp [smps]
 | p :: l, 0 => rfl
 | p :: l, k + 1 => by rw [jbt, show (k + 1) * 2 + 1 = k * 2 + 1 + 1 + 1 by omega, List.getElem?_cons_succ, List.getElem?_cons_succ, List.getElem?_cons_succ]; exact jdM
theorem jkl {l m : List (Int × Int)} : smps l ++ smps m = smps (l ++ m) := by simp [smps]
theorem jgm {l : List (Int × Int)} {x y : Int} : smps l ++ [.int .i64 x, .int .i64 y] = smps (l ++ [(x, y)]) := by rw [← jkl]; rfl
def SI (h : Heap) (v : AV) (l : List (Int × Int)) : Prop := SL h 2 v l.length (smps l)
structure InSmp where
 l : List (Int × Int)
 nil : Bool
 blk : Nat
 off : Nat
 cap : Nat
def InSmp.val (x : InSmp) : Value := if x.nil then .slice none 0 0 else .slice (some ⟨x.blk, x.off, none⟩) x.l.length x.cap
def InSmp.av (x : InSmp) (i : Nat) : AV := if x.nil then .nilslice else .slice i 0 x.l.length (.known x.cap)
def InSmp.row (x : InSmp) : Option (List AV) := if x.nil then none else some (smps x.l)
def InSmp.eb (x : InSmp) : EB := ⟨x.blk, x.off, 0⟩
structure InSmp.ok (x : InSmp) (w : World) : Prop where
 isNil : x.nil = true → x.l = []
 cap : x.nil = false → x.l.length ≤ x.cap
 lt : x.l.length < 9223372036854775808
 blk : x.nil = false → x.blk < w.heap.size
 cell : ∀ k p, x.l[k]? = some p → w.cell? ⟨x.blk, x.off + k * 2, none⟩ = some (.int .i64 p.1) ∧ w.cell? ⟨x.blk, x.off + k * 2 + 1, none⟩ = some (.int .i64 p.2)
 num : ∀ p ∈ x.l, (-9223372036854775808 ≤ p.1 ∧ p.1 ≤ 9223372036854775807) ∧ (-9223372036854775808 ≤ p.2 ∧ p.2 ≤ 9223372036854775807)
section
variable {H : Type} {enc : TypeId × Value → H} {P : Program} {w : World}
end
theorem SI.known {h : Heap} {l : List (Int × Int)} {i : Nat} {wr : Bool} {u c m : Nat} (hg : h.get i = some (.cells (smps l) wr u)) (hm : m = l.length ∧ m < 9223372036854775808) (hc : m ≤ c) : SI h (.slice i 0 m (.known c)) l := by
 obtain ⟨rfl, hm⟩ := hm
 refine ⟨jaW, hm, .inr ⟨i, 0, _, _, wr, u, rfl, hg, by rw [jaW]; omega, ?_, hc⟩⟩
 exact jgk (by rw [jaW])
theorem SI.nil {h : Heap} : SI h .nilslice [] := ⟨rfl, by decide, .inl ⟨rfl, rfl⟩⟩
theorem InSmp.ri {x : InSmp} {w : World} {bs : List (Option (List AV))} {i : Nat} (hx : x.ok w) (hi : bs[i]? = some x.row) : SI (argHeap bs) (x.av i) x.l := by
 unfold InSmp.av
 cases hn : x.nil with
 | true =>
  rw [hx.isNil hn, if_pos rfl]; exact SI.nil
 | false =>
  rw [if_neg (by simp)]
  refine SI.known (jdo (hi.trans ?_)) ⟨rfl, hx.lt⟩ (hx.cap hn)
  simp [InSmp.row, hn]
theorem InSmp.av_val {x : InSmp} {i : Nat} {lk : Nat → FuncId} {env : Env} (he : env i = x.eb) : (x.av i).val lk env = x.val := by
 unfold InSmp.av InSmp.val
 cases hn : x.nil with
 | true => rfl
 | false => simp [AV.val, he, InSmp.eb, Cap.at]
theorem InSmp.av_bel {x : InSmp} {w : World} {bs : List (Option (List AV))} {i : Nat} (hi : bs[i]? = some x.row) : (x.av i).bel (argHeap bs).ok := by
 unfold InSmp.av
 cases hn : x.nil with
 | true => trivial
 | false =>
  show (argHeap bs).ok i
  have : bs[i]? = some (some (smps x.l)) := hi.trans (by simp [InSmp.row, hn])
  simp [Heap.ok, jdo this]
theorem InSmp.rowOk {C : Ctx} {x : InSmp} {w : World} {bs : List (Option (List AV))} {env : Env} {i : Nat} {vs : List AV} (hx : x.ok w) (he : env i = x.eb) (hv : x.row = some vs) : (env i).blk < w.heap.size ∧ (∀ v ∈ vs, v.bel (argHeap bs).ok) ∧
  ∀ k v, vs[k]? = some v → w.cell? ⟨(env i).blk, (env i).sh + k, none⟩ = some (v.val C.lk env) := by
 unfold InSmp.row at hv
 split at hv
 ·cases hv
 ·rename_i hn
  cases hv
  rw [he]
  refine ⟨hx.blk (by simpa using hn), ?_, ?_⟩
  ·intro v hv
   obtain ⟨p, _, hp⟩ := List.mem_flatMap.1 hv
   simp only [List.mem_cons, List.not_mem_nil, or_false] at hp
   rcases hp with rfl | rfl <;> trivial
  ·intro k v hk
   rcases Nat.mod_two_eq_zero_or_one k with e | e
   ·obtain ⟨j, rfl⟩ : ∃ j, k = j * 2 := ⟨k / 2, by omega⟩
    rw [jeE, Option.map_eq_some_iff] at hk
    obtain ⟨p, hp, rfl⟩ := hk
    exact (hx.cell j p hp).1
   ·obtain ⟨j, rfl⟩ : ∃ j, k = j * 2 + 1 := ⟨k / 2, by omega⟩
    rw [jdM, Option.map_eq_some_iff] at hk
    obtain ⟨p, hp, rfl⟩ := hk
    exact (hx.cell j p hp).2
end Go.Ae
namespace Go.Ae
open Go.Conc
def permOf (kp0 : Keep) (w0 W : World) (sl : List WSt) : Nat → Option Keep
 | 0 => some (cur kp0 w0 W)
 | j + 1 => (sl[j]?).bind (WSt.perm W)
def rec0 (c : Nat) (g0 : Goroutine) : Option Value → Goroutine
 | none => g0
 | some z => parked g0 #[rcase c z] (.recv false)
structure CInv (P : Program) (c : Nat) (ps : List Prom) (kp0 : Keep) (g0 : Goroutine) (w0 : World) (pk : Option Value) (sl : List WSt) (gs : Array Goroutine) (W : World) (t : Trace) : Prop where
 size : gs.size = sl.length + 1
 zero : gs[0]? = some (rec0 c g0 pk)
 run0 : g0.status = .running
 rely0 : Rely kp0 w0 (cur kp0 w0 W) W
 slot : ∀ j x, sl[j]? = some x → gs[j + 1]? = some (x.gor c) ∧ x.ok P c W
 proms : ps = sl.filterMap WSt.prom?
 chan : ps ≠ [] → (∃ s, W.heap[c]? = some (.chan 0 #[] false s s false)) ∧ kp0.hide c
 pkps : pk ≠ none → ps ≠ [] ∧ ∀ x ∈ sl, ∀ Φ kp g w v z T n, x ≠ .wait Φ kp g w v z T n
 gnum : ∀ op ∈ t, op.g < gs.size
 trace : TInv t W.heap.size (permOf kp0 w0 W sl)
theorem jfc {kp : Keep} {w W W' : World} (h1 : w.heap.size ≤ W.heap.size) (h2 : W.heap.size ≤ W'.heap.size) : (cur kp w W).wider W.heap.size W'.heap.size = cur kp w W' := Keep.wider_wider _ h1 h2
theorem JW.running {P : Program} {c : Nat} {Φ : Prom} {kp : Keep} {g : Goroutine} {w : World} (h : JW P c Φ kp g w) : g.status = .running := by
 cases h with
 | step h _ => exact (h _ _ (Rely.refl _ _)).1
 | send _ _ _ _ h => exact h
theorem JM.running {P : Program} {Fin : Value → World → Prop} {c : Nat} {ps : List Prom} {kp : Keep} {g : Goroutine} {w : World} (h : JM P Fin c ps kp g w) : g.status = .running := by
 cases h with
 | step h _ => exact (h _ _ (Rely.refl _ _)).1
 | spawn _ _ h => exact h
 | recv _ h => exact h
 | done h => exact (h _ _ (Rely.refl _ _)).1
section
variable {P : Program} {c : Nat} {ps : List Prom} {kp0 : Keep} {g0 : Goroutine} {w0 : World} {pk : Option Value} {sl : List WSt} {gs : Array Goroutine} {W : World} {t : Trace}
theorem WSt.status {x : WSt} (h : x.ok P c W) : (x.gor c).status = .running ∨ (x.gor c).status = .finished ∨ ((x.gor c).status = .blocked ∧ ∃ Φ kp g w v z T n, x = .wait Φ kp g w v z T n) := by
 cases x with
 | busy => exact .inl h.1.running
 | wait => exact .inr (.inr ⟨rfl, _, _, _, _, _, _, _, _, rfl⟩)
 | gone => exact h.status.imp id .inl
theorem CInv.get (I : CInv P c ps kp0 g0 w0 pk sl gs W t) {k : Nat} {y : Goroutine} (hy : gs[k]? = some y) : (k = 0 ∧ y = rec0 c g0 pk) ∨ ∃ j x, k = j + 1 ∧ sl[j]? = some x ∧ y = x.gor c ∧ x.ok P c W := by
 cases k with
 | zero => rw [I.zero] at hy; exact .inl ⟨rfl, (Option.some.inj hy).symm⟩
 | succ j =>
  have hlt := (Array.getElem?_eq_some_iff.1 hy).1
  have hj : j < sl.length := by have := I.size; omega
  have := I.slot j _ (List.getElem?_eq_getElem hj)
  rw [this.1] at hy
  exact .inr ⟨j, _, rfl, List.getElem?_eq_getElem hj, (Option.some.inj hy).symm, this.2⟩
theorem jcL {x : WSt} {Φ : Prom} (hx : x ∈ sl) (h : x.prom? = some Φ) : sl.filterMap WSt.prom? ≠ [] := by
 intro e
 have : Φ ∈ sl.filterMap WSt.prom? := List.mem_filterMap.2 ⟨x, hx, h⟩
 rw [e] at this; cases this
theorem CInv.awake (I : CInv P c ps kp0 g0 w0 pk sl gs W t) : ∀ g ∈ gs, awake g := by
 intro g hg
 obtain ⟨k, hk, rfl⟩ := Array.mem_iff_getElem.1 hg
 rcases I.get (Array.getElem?_eq_getElem hk) with ⟨_, e⟩ | ⟨j, x, _, _, e, hx⟩
 ·rw [e]
  cases pk with
  | none => exact fun t => by simp [rec0, I.run0]
  | some z => exact fun t => by simp [rec0, parked]
 ·rw [e]
  rcases WSt.status hx with h | h | ⟨h, _⟩ <;> exact fun t => by rw [h]; simp
theorem CInv.fixed (I : CInv P c ps kp0 g0 w0 pk sl gs W t) {W' : World} (hc : ps ≠ [] → W'.heap[c]? = W.heap[c]?) {k : Nat} {y a a' : Goroutine} (hy : gs[k]? = some y) : woken P a a' W' y = y := by
 have key : y.again W' = y := by
  rcases I.get hy with ⟨_, e⟩ | ⟨j, x, _, hx, e, hok⟩
  ·rw [e]
   cases hpk : pk with
   | none => exact again_running _ (.inl I.run0)
   | some z =>
    have hp := (I.pkps (by rw [hpk]; simp)).1
    obtain ⟨⟨s, hs⟩, _⟩ := I.chan hp
    exact again_recv_open (cap := 0) (buf := #[]) (s := s) (r := s) (tm := false) (by rw [hc hp]; exact hs)
  ·rw [e]
   cases x with
   | busy => exact again_running _ (.inl hok.1.running)
   | gone => exact again_running _ hok.status
   | wait Φ kp g w v z T n =>
    have hp : ps ≠ [] := by rw [I.proms]; exact jcL (List.mem_of_getElem? hx) rfl
    obtain ⟨⟨s, hs⟩, _⟩ := I.chan hp
    exact again_send_open (cap := 0) (buf := #[]) (s := s) (r := s) (tm := false) (by rw [hc hp]; exact hs)
 unfold woken
 split
 ·exact key
 ·rfl
theorem WSt.ok_next {x : WSt} {W' : World} (h : x.ok P c W) (hr : ∀ k, x.perm W = some k → Rely k W (k.wider W.heap.size W'.heap.size) W') : x.ok P c W' := by
 cases x with
 | busy Φ kp g w =>
  have r := hr _ rfl
  have := h.2.1.trans r
  rw [jfc h.2.1.size r.size] at this
  exact ⟨h.1, this, h.2.2⟩
 | wait Φ kp g w v z T n =>
  have r := hr _ rfl
  have := h.1.trans r
  rw [jfc h.1.size r.size] at this
  exact ⟨this, h.2⟩
 | gone => exact h
theorem WSt.perm_next {x : WSt} {W' : World} (h : x.ok P c W) (hW : W.heap.size ≤ W'.heap.size) : x.perm W' = (x.perm W).map fun k => k.wider W.heap.size W'.heap.size := by
 cases x with
 | busy Φ kp g w => simp only [WSt.perm, Option.map_some]; rw [jfc h.2.1.size hW]
 | wait Φ kp g w v z T n => simp only [WSt.perm, Option.map_some]; rw [jfc h.1.size hW]
 | gone => rfl
theorem ja6 {j : Nat} {x : WSt} (hx : sl[j]? = some x) : permOf kp0 w0 W sl (j + 1) = x.perm W := by simp [permOf, hx]
theorem CInv.at (I : CInv P c ps kp0 g0 w0 pk sl gs W t) (d : Nat) : CInv P c ps kp0 g0 w0 pk sl gs (W.at d) t := by
 refine ⟨I.size, I.zero, I.run0, I.rely0.at d, fun j x hx => ⟨(I.slot j x hx).1, ?_⟩, I.proms, I.chan, I.pkps, I.gnum, I.trace⟩
 refine WSt.ok_next (I.slot j x hx).2 fun k _ => ?_
 exact ⟨Nat.le_refl _, rfl, rfl, rfl, fun _ _ _ => rfl, rfl⟩
theorem jn9 {k kg : Keep} {W W' : World} (K : KeepW kg W W') (hex : ∀ b, b < W.heap.size → ¬ kg.no b → k.hide b) : Rely k W (k.wider W.heap.size W'.heap.size) W' :=
 ⟨K.size, K.os, K.tape, K.output, fun r hr hn => K.block r (.inl (Classical.byContradiction fun z => hn (hex r hr z))), rfl⟩
theorem jc6 {f : Goroutine → Goroutine} {i : Nat} {x : Goroutine} {k : Nat} {y : Goroutine} (hne : i ≠ k) (hy : gs[k]? = some y) (hf : f y = y) : ((gs.map f).setIfInBounds i x)[k]? = some y := by
 rw [Array.getElem?_setIfInBounds_ne hne, Array.getElem?_map, hy]; simp [hf]
theorem getElem?_mid {α : Type} (A : List α) (x : α) (B : List α) : (A ++ x :: B)[A.length]? = some x := by simp
theorem getElem?_mid_ne {α : Type} (A : List α) (x y : α) (B : List α) {j : Nat} (h : j ≠ A.length) : (A ++ y :: B)[j]? = (A ++ x :: B)[j]? := by
 rcases Nat.lt_or_ge j A.length with h1 | h1
 ·rw [List.getElem?_append_left h1, List.getElem?_append_left h1]
 ·rw [List.getElem?_append_right h1, List.getElem?_append_right h1]
  obtain ⟨m, hm⟩ : ∃ m, j - A.length = m + 1 := ⟨j - A.length - 1, by omega⟩
  rw [hm]; simp
theorem jbM (kp : Keep) (W : World) : cur kp W W = kp := Keep.wider_self _ _
theorem CInv.sub0 (I : CInv P c ps kp0 g0 w0 pk sl gs W t) : (∀ r, (cur kp0 w0 W).hide r → (cur kp0 w0 W).no r) ∧ ∀ r, (cur kp0 w0 W).no r → r < W.heap.size := I.trace.sub 0 _ rfl
theorem CInv.curHide (I : CInv P c ps kp0 g0 w0 pk sl gs W t) (h : ps ≠ []) : (cur kp0 w0 W).hide c := .inl (I.chan h).2
theorem jfM {n : Nat} {u : Trace} (h : ∀ op ∈ t, op.g < n) (hu : ∀ op ∈ u, op.g < n) : ∀ op ∈ t ++ u, op.g < n := fun op hop => (Array.mem_append.1 hop).elim (h op) (hu op)
theorem CInv.own0 (I : CInv P c ps kp0 g0 w0 none sl gs W t) {g' : Goroutine} {W' : World} {es : Array Event} (hrun : g'.status = .running) (K : KeepW (cur kp0 w0 W) W W') (hes : ∀ e ∈ es, EvIn (cur kp0 w0 W) W'.heap.size e) (a a' : Goroutine) (fn : FuncId) (pos : String) :
  CInv P c ps (cur kp0 w0 W) g' W' none sl ((gs.map (woken P a a' W')).setIfInBounds 0 g') W' (t ++ MemOp.ofEvents 0 fn pos es) := by
 have hc : ps ≠ [] → W'.heap[c]? = W.heap[c]? := fun h => K.block c (.inl (I.sub0.1 _ (I.curHide h)))
 have hsz : ((gs.map (woken P a a' W')).setIfInBounds 0 g').size = gs.size := by simp
 have hex : ∀ (j : Nat) (x : WSt) (k : Keep), sl[j]? = some x → x.perm W = some k → ∀ b, b < W.heap.size → ¬ (cur kp0 w0 W).no b → k.hide b := fun j x k hx hk b hb hn =>
  I.trace.excl 0 (j + 1) _ _ (by omega) rfl (by rw [ja6 hx]; exact hk) b hb hn
 have hok : ∀ (j : Nat) (x : WSt), sl[j]? = some x → x.ok P c W' := fun j x hx => WSt.ok_next (I.slot j x hx).2 fun k hk => jn9 K (hex j x k hx hk)
 refine ⟨hsz.trans I.size, ?_, hrun, ?_, fun j x hx => ⟨?_, hok j x hx⟩, I.proms, fun h => ⟨?_, ?_⟩, fun h => absurd rfl h, ?_, ?_⟩
 ·have hlt := (Array.getElem?_eq_some_iff.1 I.zero).1
  rw [Array.getElem?_setIfInBounds_self_of_lt (by simpa using hlt)]; rfl
 ·rw [jbM]; exact Rely.refl _ _
 ·exact jc6 (by omega) (I.slot j x hx).1 (I.fixed hc (I.slot j x hx).1)
 ·rw [hc h]; exact (I.chan h).1
 ·exact I.curHide h
 ·rw [hsz]
  refine jfM I.gnum fun op hop => ?_
  obtain ⟨e, _, rfl⟩ := Go.Conc.mem_ofEvents hop
  have := I.size
  show 0 < gs.size
  omega
 ·refine I.trace.own (g := 0) (kp := cur kp0 w0 W) rfl K.size hes fun g' => ?_
  cases g' with
  | zero => simp only [permOf, if_true, jbM]
  | succ j =>
   rw [if_neg (by omega)]
   cases hx : sl[j]? with
   | none => simp [permOf, hx]
   | some x => rw [ja6 hx, ja6 hx, WSt.perm_next (I.slot j x hx).2 K.size]
theorem CInv.ownJ {A B : List WSt} {Φ : Prom} {kp : Keep} {g : Goroutine} {w : World} (I : CInv P c ps kp0 g0 w0 pk (A ++ .busy Φ kp g w :: B) gs W t) {g' : Goroutine} {W' : World} {es : Array Event}
  (hj : JW P c Φ (cur kp w W) g' W') (K : KeepW (cur kp w W) W W') (hes : ∀ e ∈ es, EvIn (cur kp w W) W'.heap.size e) (a a' : Goroutine) (fn : FuncId) (pos : String) :
  CInv P c ps kp0 g0 w0 pk (A ++ .busy Φ (cur kp w W) g' W' :: B) ((gs.map (woken P a a' W')).setIfInBounds (A.length + 1) g') W' (t ++ MemOp.ofEvents (A.length + 1) fn pos es) := by
 have hme := getElem?_mid A (.busy Φ kp g w) B
 have hS := I.slot _ _ hme
 have hps : ps ≠ [] := by rw [I.proms]; exact jcL (x := .busy Φ kp g w) (by simp) rfl
 have hmeP : permOf kp0 w0 W (A ++ .busy Φ kp g w :: B) (A.length + 1) = some (cur kp w W) := by rw [ja6 hme]; rfl
 have sj := I.trace.sub _ _ hmeP
 have hhc : (cur kp w W).hide c := .inl hS.2.2.2
 have hc : ps ≠ [] → W'.heap[c]? = W.heap[c]? := fun _ => K.block c (.inl (sj.1 _ hhc))
 have hsz : ((gs.map (woken P a a' W')).setIfInBounds (A.length + 1) g').size = gs.size := by simp
 have hlt : A.length + 1 < gs.size := (Array.getElem?_eq_some_iff.1 hS.1).1
 have hother : ∀ j, j ≠ A.length → (A ++ .busy Φ (cur kp w W) g' W' :: B)[j]? = (A ++ .busy Φ kp g w :: B)[j]? := fun j h => getElem?_mid_ne _ _ _ _ h
 have r0 : Rely (cur kp0 w0 W) W ((cur kp0 w0 W).wider W.heap.size W'.heap.size) W' := jn9 K fun b hb hn => I.trace.excl (A.length + 1) 0 _ _ (by omega) hmeP rfl b hb hn
 have R0 : Rely kp0 w0 (cur kp0 w0 W') W' := by
  have := I.rely0.trans r0
  rwa [jfc I.rely0.size K.size] at this
 refine ⟨by rw [hsz, I.size]; simp, ?_, I.run0, R0, fun j x hx => ?_, ?_, fun h => ⟨?_, (I.chan h).2⟩, fun h => ⟨hps, ?_⟩, ?_, ?_⟩
 ·exact jc6 (by omega) I.zero (I.fixed hc I.zero)
 ·by_cases e : j = A.length
  ·subst e
   rw [getElem?_mid] at hx
   cases hx
   refine ⟨by rw [Array.getElem?_setIfInBounds_self_of_lt (by simpa using hlt)]; rfl, hj, ?_, hhc⟩
   rw [jbM]; exact Rely.refl _ _
  ·rw [hother j e] at hx
   have hxs := I.slot j x hx
   refine ⟨jc6 (by omega) hxs.1 (I.fixed hc hxs.1), WSt.ok_next hxs.2 fun k hk => jn9 K fun b hb hn => ?_⟩
   exact I.trace.excl (A.length + 1) (j + 1) _ _ (by omega) hmeP (by rw [ja6 hx]; exact hk) b hb hn
 ·rw [I.proms]; simp [List.filterMap_append, List.filterMap_cons, WSt.prom?]
 ·rw [hc h]; exact (I.chan h).1
 ·intro x hx
  rcases List.mem_append.1 hx with hx | hx
  ·exact (I.pkps h).2 x (List.mem_append.2 (.inl hx))
  ·rcases List.mem_cons.1 hx with rfl | hx
   ·intro _ _ _ _ _ _ _ _ e; cases e
   ·exact (I.pkps h).2 x (List.mem_append.2 (.inr (List.mem_cons_of_mem _ hx)))
 ·rw [hsz]
  refine jfM I.gnum fun op hop => ?_
  obtain ⟨e, _, rfl⟩ := Go.Conc.mem_ofEvents hop
  exact hlt
 ·refine I.trace.own (g := A.length + 1) (kp := cur kp w W) hmeP K.size hes fun g' => ?_
  cases g' with
  | zero =>
   rw [if_neg (by omega)]
   simp only [permOf, Option.map_some]
   rw [jfc I.rely0.size K.size]
  | succ j =>
   by_cases e : j = A.length
   ·subst e
    rw [if_pos rfl, ja6 (getElem?_mid A _ B)]
    simp only [WSt.perm, jbM]
   ·rw [if_neg (by omega)]
    simp only [permOf, hother j e]
    cases hx : (A ++ WSt.busy Φ kp g w :: B)[j]? with
    | none => rfl
    | some x => simp only [Option.bind_some]; rw [WSt.perm_next (I.slot j x hx).2 K.size]
theorem CInv.slip {A B : List WSt} {n : Nat} {g g' : Goroutine} (I : CInv P c ps kp0 g0 w0 pk (A ++ .gone (n + 1) g :: B) gs W t) (hq : QuitsIn P n g') (a a' : Goroutine) (fn : FuncId) (pos : String) :
  CInv P c ps kp0 g0 w0 pk (A ++ .gone n g' :: B) ((gs.map (woken P a a' W)).setIfInBounds (A.length + 1) g') W (t ++ MemOp.ofEvents (A.length + 1) fn pos #[]) := by
 have hme := getElem?_mid A (.gone (n + 1) g) B
 have hS := I.slot _ _ hme
 have hlt : A.length + 1 < gs.size := (Array.getElem?_eq_some_iff.1 hS.1).1
 have hsz : ((gs.map (woken P a a' W)).setIfInBounds (A.length + 1) g').size = gs.size := by simp
 have hother : ∀ j, j ≠ A.length → (A ++ .gone n g' :: B)[j]? = (A ++ .gone (n + 1) g :: B)[j]? := fun j h => getElem?_mid_ne _ _ _ _ h
 have e0 : t ++ MemOp.ofEvents (A.length + 1) fn pos #[] = t := by simp [MemOp.ofEvents]
 rw [e0]
 refine ⟨by rw [hsz, I.size]; simp, ?_, I.run0, I.rely0, fun j x hx => ?_, ?_, I.chan, fun h => ⟨(I.pkps h).1, ?_⟩, by rw [hsz]; exact I.gnum, ?_⟩
 ·exact jc6 (by omega) I.zero (I.fixed (fun _ => rfl) I.zero)
 ·by_cases e : j = A.length
  ·subst e
   rw [getElem?_mid] at hx
   cases hx
   exact ⟨by rw [Array.getElem?_setIfInBounds_self_of_lt (by simpa using hlt)]; rfl, hq⟩
  ·rw [hother j e] at hx
   have hxs := I.slot j x hx
   exact ⟨jc6 (by omega) hxs.1 (I.fixed (fun _ => rfl) hxs.1), hxs.2⟩
 ·rw [I.proms]; simp [List.filterMap_append, List.filterMap_cons, WSt.prom?]
 ·intro x hx
  rcases List.mem_append.1 hx with hx | hx
  ·exact (I.pkps h).2 x (List.mem_append.2 (.inl hx))
  ·rcases List.mem_cons.1 hx with rfl | hx
   ·intro _ _ _ _ _ _ _ _ e; cases e
   ·exact (I.pkps h).2 x (List.mem_append.2 (.inr (List.mem_cons_of_mem _ hx)))
 ·have : permOf kp0 w0 W (A ++ .gone n g' :: B) = permOf kp0 w0 W (A ++ .gone (n + 1) g :: B) := by
   funext k
   cases k with
   | zero => rfl
   | succ j =>
    by_cases e : j = A.length
    ·subst e
     rw [ja6 (getElem?_mid A _ B), ja6 (getElem?_mid A _ B)]; rfl
    ·simp only [permOf, hother j e]
  rw [this]; exact I.trace
theorem CInv.park {A B : List WSt} {Φ : Prom} {kp : Keep} {g : Goroutine} {w : World} (I : CInv P c ps kp0 g0 w0 none (A ++ .busy Φ kp g w :: B) gs W t) {v z : Value} {T : Nat → Prop} {n : Nat}
  (hΦ : ∀ kp1 w1, Rely kp w kp1 w1 → Φ v w1 T) (hT : ∀ r, T r → r < w.heap.size ∧ ¬ kp.no r) (hq : QuitsIn P n (Conc.served g undef)) :
  CInv P c ps kp0 g0 w0 none (A ++ .wait Φ kp g w v z T n :: B) (gs.setIfInBounds (A.length + 1) (parked g #[scase c v z] .send)) W t := by
 have hme := getElem?_mid A (.busy Φ kp g w) B
 have hS := I.slot _ _ hme
 have hlt : A.length + 1 < gs.size := (Array.getElem?_eq_some_iff.1 hS.1).1
 have hother : ∀ j, j ≠ A.length → (A ++ .wait Φ kp g w v z T n :: B)[j]? = (A ++ .busy Φ kp g w :: B)[j]? := fun j h => getElem?_mid_ne _ _ _ _ h
 refine ⟨by rw [Array.size_setIfInBounds, I.size]; simp, ?_, I.run0, I.rely0, fun j x hx => ?_, ?_, I.chan, fun h => absurd rfl h, by rw [Array.size_setIfInBounds]; exact I.gnum, ?_⟩
 ·rw [Array.getElem?_setIfInBounds_ne (by omega)]; exact I.zero
 ·by_cases e : j = A.length
  ·subst e
   rw [getElem?_mid] at hx
   cases hx
   exact ⟨by rw [Array.getElem?_setIfInBounds_self_of_lt hlt]; rfl, hS.2.2.1, hS.2.2.2, hΦ, hT, hq⟩
  ·rw [hother j e] at hx
   have hxs := I.slot j x hx
   exact ⟨by rw [Array.getElem?_setIfInBounds_ne (by omega)]; exact hxs.1, hxs.2⟩
 ·rw [I.proms]; simp [List.filterMap_append, List.filterMap_cons, WSt.prom?]
 ·have : permOf kp0 w0 W (A ++ .wait Φ kp g w v z T n :: B) = permOf kp0 w0 W (A ++ .busy Φ kp g w :: B) := by
   funext k
   cases k with
   | zero => rfl
   | succ j =>
    by_cases e : j = A.length
    ·subst e
     rw [ja6 (getElem?_mid A _ B), ja6 (getElem?_mid A _ B)]; rfl
    ·simp only [permOf, hother j e]
  rw [this]; exact I.trace
theorem CInv.park0 (I : CInv P c ps kp0 g0 w0 none sl gs W t) (z : Value) (hps : ps ≠ []) (hno : ∀ x ∈ sl, ∀ Φ kp g w v z T n, x ≠ .wait Φ kp g w v z T n) :
  CInv P c ps kp0 g0 w0 (some z) sl (gs.setIfInBounds 0 (parked g0 #[rcase c z] (.recv false))) W t := by
 refine ⟨by rw [Array.size_setIfInBounds]; exact I.size, ?_, I.run0, I.rely0, fun j x hx => ?_, I.proms, I.chan, fun _ => ⟨hps, hno⟩, by rw [Array.size_setIfInBounds]; exact I.gnum, I.trace⟩
 ·have hlt := (Array.getElem?_eq_some_iff.1 I.zero).1
  rw [Array.getElem?_setIfInBounds_self_of_lt hlt]; rfl
 ·have := I.slot j x hx
  exact ⟨by rw [Array.getElem?_setIfInBounds_ne (by omega)]; exact this.1, this.2⟩
theorem ji6 (W : World) (c cap : Nat) (buf : Array Value) (cl : Bool) (s r : Nat) (tm : Bool) {k : Nat} (h : k ≠ c) : (W.setChan c cap buf cl s r tm).heap[k]? = W.heap[k]? := by
 simp only [World.setChan]
 rw [Array.getElem?_setIfInBounds_ne (Ne.symm h)]
theorem jp6 {k : Keep} {W : World} {c : Nat} (hc : k.hide c) (d s r : Nat) : Rely k W (k.wider W.heap.size ((W.at d).setChan c 0 #[] false s r false).heap.size) ((W.at d).setChan c 0 #[] false s r false) := by
 have hs : ((W.at d).setChan c 0 #[] false s r false).heap.size = W.heap.size := by simp [World.setChan, World.at]
 refine ⟨by omega, rfl, rfl, rfl, fun q hq hn => ?_, rfl⟩
 rw [ji6 _ _ _ _ _ _ _ _ (by rintro rfl; exact hn hc)]; rfl
theorem CInv.meet {A B : List WSt} {x : WSt} {Φ : Prom} {kp : Keep} {g : Goroutine} {w : World} {v : Value} {T : Nat → Prop} {n : Nat} (I : CInv P c ps kp0 g0 w0 pk (A ++ x :: B) gs W t)
  (hx : (x = .busy Φ kp g w ∨ ∃ z, x = .wait Φ kp g w v z T n)) (hΦ : ∀ kp1 w1, Rely kp w kp1 w1 → Φ v w1 T) (hT : ∀ r, T r → r < w.heap.size ∧ ¬ kp.no r) (hq : QuitsIn P n (Conc.served g undef)) (hrel : Rely kp w (cur kp w W) W) (hkc : kp.hide c)
  (hothers : pk ≠ none ∨ True) (d : Nat) {s : Nat} (hs : W.heap[c]? = some (.chan 0 #[] false s s false)) (f0 fj : FuncId) (p0 pj : String) {gs' : Array Goroutine} (hgs : ∀ k y, gs[k]? = some y → k ≠ 0 → k ≠ A.length + 1 → gs'[k]? = some y)
  (hg0 : gs'[0]? = some (Conc.served g0 v)) (hgj : gs'[A.length + 1]? = some (Conc.served g undef)) (hgsz : gs'.size = gs.size) :
  ∃ PA PB, ps = PA ++ Φ :: PB ∧ Φ v (W.at d) T ∧ (∀ r, T r → r < (W.at d).heap.size ∧ (cur kp0 w0 W).hide r ∧ r ≠ c) ∧
   CInv P c (PA ++ PB) ((cur kp0 w0 W).take T (PA ++ PB = [])) (Conc.served g0 v) ((W.at d).setChan c 0 #[] false (s + 1) (s + 1) false) none (A ++ .gone n (Conc.served g undef) :: B) gs' ((W.at d).setChan c 0 #[] false (s + 1) (s + 1) false)
    (t ++ #[{ g := A.length + 1, fn := fj, pos := pj, act := .send c s }, { g := 0, fn := f0, pos := p0, act := .recv c s 0 }, { g := A.length + 1, fn := fj, pos := pj, act := .sendDone c s }, { g := 0, fn := f0, pos := p0, act := .recvDone c s }]) := by
 have hme := getElem?_mid A x B
 have hS := I.slot _ _ hme
 have hprom : x.prom? = some Φ := by rcases hx with rfl | ⟨z, rfl⟩ <;> rfl
 have hxp : x.perm W = some (cur kp w W) := by rcases hx with rfl | ⟨z, rfl⟩ <;> rfl
 have hmeP : permOf kp0 w0 W (A ++ x :: B) (A.length + 1) = some (cur kp w W) := by rw [ja6 hme]; exact hxp
 have hps : ps ≠ [] := by rw [I.proms]; exact jcL (x := x) (by simp) hprom
 have hsplit : ps = A.filterMap WSt.prom? ++ Φ :: B.filterMap WSt.prom? := by rw [I.proms, List.filterMap_append, List.filterMap_cons, hprom]
 have hother : ∀ j, j ≠ A.length → (A ++ .gone n (Conc.served g undef) :: B)[j]? = (A ++ x :: B)[j]? := fun j h => getElem?_mid_ne _ _ _ _ h
 have hWs : ((W.at d).setChan c 0 #[] false (s + 1) (s + 1) false).heap.size = W.heap.size := by simp [World.setChan, World.at]
 have sj := I.trace.sub _ _ hmeP
 have hT' : ∀ r, T r → r < W.heap.size ∧ ¬ (cur kp w W).no r := fun r hr => by
  obtain ⟨h1, h2⟩ := hT r hr
  refine ⟨Nat.lt_of_lt_of_le h1 hrel.size, ?_⟩
  rintro (h | ⟨h, _⟩)
  ·exact h2 h
  ·omega
 have hThide : ∀ r, T r → (cur kp0 w0 W).hide r := fun r hr => I.trace.excl (A.length + 1) 0 _ _ (by omega) hmeP rfl r (hT' r hr).1 (hT' r hr).2
 have hTc : ∀ r, T r → r ≠ c := by
  rintro r hr rfl
  exact (hT' r hr).2 (sj.1 _ (.inl hkc))
 have hperm : ∀ (j : Nat) (y : WSt), (A ++ x :: B)[j]? = some y → ∀ k : Keep, y.perm W = some k → k.hide c := by
  intro j y hy k hk
  have ok := (I.slot j y hy).2
  cases y with
  | busy => cases hk; exact .inl ok.2.2
  | wait => cases hk; exact .inl ok.2.1
  | gone => cases hk
 refine ⟨A.filterMap WSt.prom?, B.filterMap WSt.prom?, hsplit, hΦ _ _ (hrel.at d), fun r hr => ⟨(hT' r hr).1, hThide r hr, hTc r hr⟩, ?_⟩
 refine ⟨by rw [hgsz, I.size]; simp, hg0, rfl, ?_, fun j y hy => ?_, ?_, fun h => ⟨⟨s + 1, ?_⟩, ?_⟩, fun h => absurd rfl h, ?_, ?_⟩
 ·rw [jbM]; exact Rely.refl _ _
 ·by_cases e : j = A.length
  ·subst e
   rw [getElem?_mid] at hy
   cases hy
   exact ⟨hgj, hq⟩
  ·rw [hother j e] at hy
   have hys := I.slot j y hy
   exact ⟨hgs _ _ hys.1 (by omega) (by omega), WSt.ok_next hys.2 fun k hk => jp6 (hperm j y hy k hk) d _ _⟩
 ·simp [List.filterMap_append, List.filterMap_cons, WSt.prom?]
 ·simp only [World.setChan]
  rw [Array.getElem?_setIfInBounds_self_of_lt]
  exact (Array.getElem?_eq_some_iff.1 hs).1
 ·exact ⟨.inl (I.chan hps).2, fun h => hTc c h rfl⟩
 ·rw [hgsz]
  have h0 := (Array.getElem?_eq_some_iff.1 I.zero).1
  have h1 := (Array.getElem?_eq_some_iff.1 hS.1).1
  refine jfM I.gnum fun op hop => ?_
  simp at hop
  rcases hop with rfl | rfl | rfl | rfl <;> first | exact h1 | exact h0
 ·rw [hWs]
  refine I.trace.meet (kp := cur kp0 w0 W) (kj := cur kp w W) rfl (j := A.length + 1) (by omega) hmeP hT' (last := (A.filterMap WSt.prom? ++ B.filterMap WSt.prom? = [])) ?_ ?_
  ·intro hl k hk0 hkj
   cases k with
   | zero => exact absurd rfl hk0
   | succ j =>
    have ej : j ≠ A.length := by omega
    simp only [permOf]
    cases hy : (A ++ x :: B)[j]? with
    | none => rfl
    | some y =>
     simp only [Option.bind_some]
     cases hyp : y.prom? with
     | none => cases y <;> first | rfl | cases hyp
     | some Ψ =>
      exfalso
      rw [← hother j ej] at hy
      have hm : Ψ ∈ (A ++ .gone n (Conc.served g undef) :: B).filterMap WSt.prom? := List.mem_filterMap.2 ⟨y, List.mem_of_getElem? hy, hyp⟩
      simp only [List.filterMap_append, List.filterMap_cons, WSt.prom?] at hm
      rw [hl] at hm
      cases hm
  ·intro k
   cases k with
   | zero => simp only [permOf, if_true, jbM]
   | succ j =>
    rw [if_neg (by omega)]
    by_cases e : j = A.length
    ·subst e
     rw [if_pos rfl, ja6 (getElem?_mid A _ B)]; rfl
    ·rw [if_neg (by omega)]
     simp only [permOf, hother j e]
     cases hy : (A ++ x :: B)[j]? with
     | none => rfl
     | some y =>
      simp only [Option.bind_some]
      rw [WSt.perm_next (I.slot j y hy).2 (by omega), hWs]
      cases y.perm W <;> simp [Keep.wider_self]
theorem CInv.spawn (I : CInv P c ps kp0 g0 w0 none sl gs W t) {c' : Nat} {Φ : Prom} (hc' : (ps = [] ∧ ¬ (cur kp0 w0 W).no c' ∧ W.heap[c']? = some (.chan 0 #[] false 0 0 false)) ∨ (ps ≠ [] ∧ c' = c)) {g' ch : Goroutine} (hrun : g'.status = .running)
  (hj : JW P c' Φ ((cur kp0 w0 W).shared W.heap.size c') ch W) (fn fc : FuncId) (p p' : String) :
  CInv P c' (ps ++ [Φ]) ((cur kp0 w0 W).shared W.heap.size c') g' W none (sl ++ [.busy Φ ((cur kp0 w0 W).shared W.heap.size c') ch W]) ((gs.setIfInBounds 0 g').push ch) W
   (t ++ #[{ g := 0, fn := fn, pos := p, act := .go gs.size }, { g := gs.size, fn := fc, pos := p', act := .start }]) := by
 have h0 := (Array.getElem?_eq_some_iff.1 I.zero).1
 have hlt : c' < W.heap.size := by
  rcases hc' with ⟨_, _, h⟩ | ⟨h, rfl⟩
  ·exact (Array.getElem?_eq_some_iff.1 h).1
  ·obtain ⟨⟨s, hs⟩, _⟩ := I.chan h
   exact (Array.getElem?_eq_some_iff.1 hs).1
 have hold : ∀ (j : Nat) (x : WSt), sl[j]? = some x → x.gor c' = x.gor c ∧ x.ok P c' W := by
  intro j x hx
  rcases hc' with ⟨hp, _⟩ | ⟨_, rfl⟩
  ·have hok := (I.slot j x hx).2
   cases x with
   | gone => exact ⟨rfl, hok⟩
   | busy => exact absurd hp (by rw [I.proms]; exact jcL (List.mem_of_getElem? hx) rfl)
   | wait => exact absurd hp (by rw [I.proms]; exact jcL (List.mem_of_getElem? hx) rfl)
  ·exact ⟨rfl, (I.slot j x hx).2⟩
 have hhc : ((cur kp0 w0 W).shared W.heap.size c').hide c' := .inr rfl
 have hsz : ((gs.setIfInBounds 0 g').push ch).size = gs.size + 1 := by simp
 have hn : gs.size = sl.length + 1 := I.size
 refine ⟨by rw [hsz, hn]; simp, ?_, hrun, by rw [jbM]; exact Rely.refl _ _, fun j x hx => ?_, ?_, fun _ => ⟨?_, hhc⟩, fun h => absurd rfl h, ?_, ?_⟩
 ·rw [Array.getElem?_push, if_neg (by simp; omega), Array.getElem?_setIfInBounds_self_of_lt h0]; rfl
 ·rcases Nat.lt_or_ge j sl.length with hl | hl
  ·rw [List.getElem?_append_left hl] at hx
   have := I.slot j x hx
   refine ⟨?_, (hold j x hx).2⟩
   rw [(hold j x hx).1, Array.getElem?_push, if_neg (by simp; omega), Array.getElem?_setIfInBounds_ne (by omega)]
   exact this.1
  ·rw [List.getElem?_append_right hl] at hx
   have hj0 : j - sl.length = 0 := by
    rcases Nat.eq_zero_or_pos (j - sl.length) with e | e
    ·exact e
    ·rw [List.getElem?_eq_none (by simp; omega)] at hx; cases hx
   rw [hj0] at hx
   simp only [List.getElem?_cons_zero, Option.some.injEq] at hx
   subst hx
   have : j = sl.length := by omega
   subst this
   refine ⟨?_, hj, ?_, hhc⟩
   ·rw [Array.getElem?_push, if_pos (by simp; omega)]; rfl
   ·rw [jbM]; exact Rely.refl _ _
 ·rw [I.proms]; simp [List.filterMap_append, List.filterMap_cons, WSt.prom?]
 ·rcases hc' with ⟨_, _, h⟩ | ⟨h, rfl⟩
  ·exact ⟨0, h⟩
  ·exact (I.chan h).1
 ·rw [hsz]
  refine jfM (fun op hop => Nat.lt_succ_of_lt (I.gnum op hop)) fun op hop => ?_
  simp at hop
  rcases hop with rfl | rfl
  ·show 0 < gs.size + 1; omega
  ·show gs.size < gs.size + 1; omega
 ·refine I.trace.spawn (kp := cur kp0 w0 W) rfl (n := gs.size) (by omega) ?_ (fun op hop e => by have := I.gnum op hop; omega) hlt fun k => ?_
  ·rw [hn]; simp [permOf]
  ·cases k with
   | zero => simp only [permOf, true_or, if_true, jbM]
   | succ j =>
    by_cases e : j = sl.length
    ·subst e
     rw [if_pos (.inr hn.symm)]
     simp [permOf, WSt.perm, jbM]
    ·rw [if_neg (by omega)]
     simp only [permOf]
     rcases Nat.lt_or_ge j sl.length with hl | hl
     ·rw [List.getElem?_append_left hl]
     ·rw [List.getElem?_append_right hl, List.getElem?_eq_none hl]
      rw [List.getElem?_eq_none (by simp; omega)]
end
end Go.Ae
namespace Go.Ae
open Go.Conc
def Ends (P : Program) (Fin : Value → World → Prop) (m : Machine) (t : Trace) : Prop :=
 ∃ N last o w' t', runNT P (N + 1) m t = (.ended o w', t') ∧ runN P N m = .next last ∧ step P last = .ended o w' ∧ Conc.Good P Fin last o w' t'
theorem Ends.next {P : Program} {Fin : Value → World → Prop} {m m' : Machine} {t : Trace} {ops : Array MemOp} (h : stepT P m = (.next m', ops)) (k : Ends P Fin m' (t ++ ops)) : Ends P Fin m t := by
 obtain ⟨N, last, o, w', t', h1, h2, h3, h4⟩ := k
 exact ⟨N + 1, last, o, w', t', by rw [runNT_succ_next h]; exact h1, by rw [runN_succ_next h]; exact h2, h3, h4⟩
section
variable {P : Program} {Fin : Value → World → Prop} {c : Nat} {ps : List Prom} {kp0 : Keep} {g0 : Goroutine} {w0 : World} {pk : Option Value} {sl : List WSt} {gs : Array Goroutine} {W : World} {t : Trace}
def Meets (P : Program) (Fin : Value → World → Prop) (c : Nat) (ps : List Prom) (kp0 : Keep) (g0 : Goroutine) (w0 : World) : Prop :=
 ∀ A Φ B v T kp1 w1 s r, ps = A ++ Φ :: B → Rely kp0 w0 kp1 w1 → Φ v w1 T → (∀ r, T r → r < w1.heap.size ∧ kp1.hide r ∧ r ≠ c) →
  ∀ sl gs slc t, CInv P c (A ++ B) (kp1.take T (A ++ B = [])) (Conc.served g0 v) (w1.setChan c 0 #[] false s r false) none sl gs (w1.setChan c 0 #[] false s r false) t → Ends P Fin (crowd gs (w1.setChan c 0 #[] false s r false) slc) t
theorem jgn {i k : Nat} {y : Goroutine} (h : (gs.setIfInBounds i ph)[k]? = some y) : y = ph ∨ (k ≠ i ∧ gs[k]? = some y) := by
 rcases getElem?_stand gs i k y h with ⟨_, e⟩ | h
 ·exact .inl e
 ·exact .inr h
theorem CInv.noRecv (I : CInv P c ps kp0 g0 w0 none sl gs W t) (i : Nat) : partners (gs.setIfInBounds i ph) c false = [] := by
 refine partners_nil fun k y hy => ?_
 rcases jgn hy with rfl | ⟨_, hy⟩
 ·exact offersAt_ph _ _
 ·rcases I.get hy with ⟨_, e⟩ | ⟨j, x, _, _, e, hx⟩
  ·rw [e]; exact offersAt_of_not_blocked (by simp [rec0, I.run0]) _ _
  ·rw [e]
   cases x with
   | busy => exact offersAt_of_not_blocked (by simp [WSt.gor, hx.1.running]) _ _
   | gone n g => exact offersAt_of_not_blocked (by show g.status ≠ .blocked; rcases QuitsIn.status hx with h | h <;> rw [h] <;> simp) _ _
   | wait => exact offersAt_parked_send' _ _ _ _ _ _
theorem joa {gs : Array Goroutine} {i j : Nat} {x y : Goroutine} {k : Nat} {z : Goroutine} (hz : gs[k]? = some z) (hi : k ≠ i) (hj : k ≠ j) : ((gs.setIfInBounds j y).setIfInBounds i x)[k]? = some z := by
 rw [Array.getElem?_setIfInBounds_ne (Ne.symm hi), Array.getElem?_setIfInBounds_ne (Ne.symm hj)]; exact hz
theorem CInv.worker (I : CInv P c ps kp0 g0 w0 pk sl gs W t) {i : Nat} {g : Goroutine} (hi : gs[i]? = some g) (hrun : g.status = .running) (hi0 : i ≠ 0) (slc : Option (Nat × Nat))
  (ih : ∀ sl' gs' W' slc' t', LLt P sl' sl → CInv P c ps kp0 g0 w0 pk sl' gs' W' t' → Ends P Fin (crowd gs' W' slc') t') (hm : pk ≠ none → Meets P Fin c ps kp0 g0 w0) :
  ∃ m' ops, runT P (crowd gs W slc) i = (.next m', ops) ∧ Ends P Fin m' (t ++ ops) := by
 rcases I.get hi with ⟨h, _⟩ | ⟨j, x, rfl, hx, rfl, hok⟩
 ·exact absurd h hi0
 obtain ⟨A, B, rfl, rfl⟩ : ∃ A B, sl = A ++ x :: B ∧ j = A.length := by
  have hlt := (List.getElem?_eq_some_iff.1 hx).1
  refine ⟨sl.take j, sl.drop (j + 1), ?_, by simp; omega⟩
  have : x = sl[j] := ((List.getElem?_eq_some_iff.1 hx).2).symm
  rw [this]; simp
 have hi1 : (A.length + 1 == 0) = false := by simp
 cases x with
 | wait => simp [WSt.gor, parked] at hrun
 | gone n g =>
  cases n with
  | zero => have h : g.status = .finished := hok; have h2 : g.status = .running := hrun; rw [h] at h2; cases h2
  | succ n =>
   rcases hok with h | ⟨_, g', hst, hq⟩
   ·have h2 : g.status = .running := hrun; rw [h] at h2; cases h2
   ·refine ⟨_, _, runT_crowd_go (P := P) (i := A.length + 1) hi (by rw [hi1]; exact hst W), ?_⟩
    exact ih _ _ _ _ _ ⟨A, _, _, B, rfl, rfl, .slip (Nat.lt_succ_self n)⟩ (I.slip hq _ _ _ _)
 | busy Φ kp g w =>
  obtain ⟨hjw, hrel, hkc⟩ := hok
  have hps : ps ≠ [] := by rw [I.proms]; exact jcL (x := .busy Φ kp g w) (by simp) rfl
  obtain ⟨⟨s, hs⟩, _⟩ := I.chan hps
  cases hjw with
  | step hstep hnext =>
   obtain ⟨_, g', w', es, hst, hr', K, hes⟩ := hstep _ _ hrel
   refine ⟨_, _, runT_crowd_go (P := P) (i := A.length + 1) hi (by rw [hi1]; exact hst), ?_⟩
   exact ih _ _ _ _ _ ⟨A, _, _, B, rfl, rfl, .own hrel hst⟩ (I.ownJ (hnext _ _ _ _ _ hrel hst) K hes _ _ _ _)
  | send v z T n hrn hst hΦ hT hq =>
   have hs1 : stepG P (A.length + 1 == 0) g W = .comm g #[scase c v z] true .send W #[] := by rw [hi1]; exact hst _ _ hrel
   cases pk with
   | none =>
    refine ⟨_, _, crowd_waits hi hs1 (fun cc hcc => ?_), ?_⟩
    ·simp only [List.mem_toArray, List.mem_singleton] at hcc
     subst hcc
     exact ways_send_none hs (Nat.zero_le _) (I.noRecv _)
    ·have e0 : ∀ fn pos, t ++ MemOp.ofEvents (A.length + 1) fn pos #[] = t := fun fn pos => by simp [MemOp.ofEvents]
     rw [e0]
     exact ih _ _ _ _ _ ⟨A, _, _, B, rfl, rfl, .wait⟩ (I.park hΦ hT hq)
   | some z0 =>
    have h0 : gs[0]? = some (parked g0 #[rcase c z0] (.recv false)) := I.zero
    have hp : partners (gs.setIfInBounds (A.length + 1) ph) c false = [(0, 0)] := by
     have := partners_one (gs := gs.setIfInBounds (A.length + 1) ph) (r := c) (send := false) (j := 0) (g := parked g0 #[rcase c z0] (.recv false)) (by rw [Array.getElem?_setIfInBounds_ne (by omega)]; exact h0) (by
      intro k y hk hy
      rcases jgn hy with rfl | ⟨_, hy⟩
      ·exact offersAt_ph _ _
      ·rcases I.get hy with ⟨e, _⟩ | ⟨j, x, _, _, e, hx⟩
       ·exact absurd e hk
       ·rw [e]
        cases x with
        | busy => exact offersAt_of_not_blocked (by simp [WSt.gor, hx.1.running]) _ _
        | gone n g => exact offersAt_of_not_blocked (by show g.status ≠ .blocked; rcases QuitsIn.status hx with h | h <;> rw [h] <;> simp) _ _
        | wait => exact offersAt_parked_send' _ _ _ _ _ _)
     rw [this, offersAt_parked_recv]
     simp
    have hsm := crowd_send_meets (P := P) (sl := slc) hi hs1 hs (j := 0) (by omega) h0 hp
    have e1 : g0.finishComm P #[rcase c z0] (.recv false) 0 v true = Conc.served g0 v := by rw [finishComm_recv]; rfl
    have e2 : g.finishComm P #[scase c v z] .send 0 undef false = Conc.served g undef := finishComm_send ..
    rw [e1, e2] at hsm
    refine ⟨_, _, hsm, ?_⟩
    have hl0 := (Array.getElem?_eq_some_iff.1 h0).1
    have hlj := (Array.getElem?_eq_some_iff.1 hi).1
    obtain ⟨PA, PB, e, q1, q2, q3⟩ := I.meet (x := .busy Φ kp g w) (.inl rfl) hΦ hT hq hrel hkc (.inr trivial) W.drawn hs g0.frame.fn g.frame.fn g0.frame.place g.frame.place (gs' := (gs.setIfInBounds 0 (Conc.served g0 v)).setIfInBounds (A.length + 1) (Conc.served g undef))
     (fun k y hy h1 h2 => joa hy h2 h1) (by rw [Array.getElem?_setIfInBounds_ne (by omega), Array.getElem?_setIfInBounds_self_of_lt hl0]) (by rw [Array.getElem?_setIfInBounds_self_of_lt (by simpa using hlj)]) (by simp)
    have eat : W.at W.drawn = W := rfl
    rw [eat] at q1 q2 q3
    have := hm (by simp) PA Φ PB v T (cur kp0 w0 W) W (s + 1) (s + 1) e I.rely0 q1 q2 _ _ slc _ q3
    simpa [MemOp.ofEvents] using this
theorem CInv.recv0 (I : CInv P c ps kp0 g0 w0 none sl gs W t) (hps : ps ≠ []) {z : Value} (hst : stepG P true g0 W = .comm g0 #[rcase c z] true (.recv false) W #[]) (slc : Option (Nat × Nat)) (hm : Meets P Fin c ps kp0 g0 w0)
  (hpark : ∀ gs' slc' t', CInv P c ps kp0 g0 w0 (some z) sl gs' W t' → Ends P Fin (crowd gs' W slc') t') :
  ∃ m' ops, runT P (crowd gs W slc) 0 = (.next m', ops) ∧ Ends P Fin m' (t ++ ops) := by
 obtain ⟨⟨s, hs⟩, _⟩ := I.chan hps
 have h0 : gs[0]? = some g0 := I.zero
 have hs1 : stepG P (0 == 0) g0 W = .comm g0 #[rcase c z] true (.recv false) W #[] := hst
 have hl0 := (Array.getElem?_eq_some_iff.1 h0).1
 have key : ∀ (j k : Nat), (j, k) ∈ partners (gs.setIfInBounds 0 ph) c true → k = 0 ∧ j ≠ 0 ∧ ∃ A B Φ kp g w v z T n, sl = A ++ .wait Φ kp g w v z T n :: B ∧ j = A.length + 1 ∧ gs[j]? = some (parked g #[scase c v z] .send) := by
  intro j k hjk
  obtain ⟨y, hy, hk⟩ := mem_partners.1 hjk
  rcases jgn hy with rfl | ⟨hj0, hy⟩
  ·rw [offersAt_ph] at hk; cases hk
  ·rcases I.get hy with ⟨e, _⟩ | ⟨j, x, rfl, hx, e, hok⟩
   ·exact absurd e hj0
   ·rw [e] at hk
    cases x with
    | busy => rw [offersAt_of_not_blocked (by simp [WSt.gor, hok.1.running])] at hk; cases hk
    | gone n g => rw [offersAt_of_not_blocked (by show g.status ≠ .blocked; rcases QuitsIn.status hok with h | h <;> rw [h] <;> simp)] at hk; cases hk
    | wait Φ kp g w v z' T n =>
     have hk' : k ∈ offersAt (parked g #[scase c v z'] .send) c true := hk
     rw [offersAt_parked_send, if_pos rfl] at hk'
     have hlt := (List.getElem?_eq_some_iff.1 hx).1
     refine ⟨by simpa using hk', hj0, sl.take j, sl.drop (j + 1), Φ, kp, g, w, v, z', T, n, ?_, by simp; omega, by rw [hy, e]; rfl⟩
     have : WSt.wait Φ kp g w v z' T n = sl[j] := ((List.getElem?_eq_some_iff.1 hx).2).symm
     rw [this]; simp
 cases hp : partners (gs.setIfInBounds 0 ph) c true with
 | nil =>
  refine ⟨_, _, crowd_waits h0 hs1 (fun cc hcc => ?_), ?_⟩
  ·simp only [List.mem_toArray, List.mem_singleton] at hcc
   subst hcc
   exact ways_recv_none hs hp
  ·have e0 : ∀ fn pos, t ++ MemOp.ofEvents 0 fn pos #[] = t := fun fn pos => by simp [MemOp.ofEvents]
   rw [e0]
   refine hpark _ _ _ (I.park0 z hps fun x hx Φ kp g w v z' T n e => ?_)
   subst e
   obtain ⟨j, hj⟩ := List.getElem?_of_mem hx
   have hg := (I.slot j _ hj).1
   have : (j + 1, 0) ∈ partners (gs.setIfInBounds 0 ph) c true := mem_partners.2 ⟨_, by rw [Array.getElem?_setIfInBounds_ne (by omega)]; exact hg, by
    show (0 : Nat) ∈ offersAt (parked g #[scase c v z'] .send) c true
    rw [offersAt_parked_send, if_pos rfl]; simp⟩
   rw [hp] at this; cases this
 | cons p pp =>
  obtain ⟨j, gj, vj, zj, shj, d, hj0, hgj, hr⟩ := crowd_recv_meets_some (P := P) (sl := slc) h0 hs1 hs (by rw [hp]; simp) (fun j k hjk => by
   obtain ⟨a, b, A, B, Φ, kp, g, w, v, z', T, n, _, _, hh⟩ := key j k hjk
   exact ⟨a, b, g, v, z', .send, hh⟩)
  -- which slot
  rcases I.get hgj with ⟨e, _⟩ | ⟨m, x, rfl, hx, e, hok⟩
  ·exact absurd e hj0
  have hblk : (x.gor c).status = .blocked := by rw [← e]; rfl
  cases x with
  | busy => simp [WSt.gor, hok.1.running] at hblk
  | gone n g => rcases QuitsIn.status hok with h | h <;> · have h2 : g.status = .blocked := hblk; rw [h] at h2; cases h2
  | wait Φ kp g w v z' T n =>
   obtain ⟨A, B, rfl, rfl⟩ : ∃ A B, sl = A ++ .wait Φ kp g w v z' T n :: B ∧ m = A.length := by
    have hlt := (List.getElem?_eq_some_iff.1 hx).1
    refine ⟨sl.take m, sl.drop (m + 1), ?_, by simp; omega⟩
    have : WSt.wait Φ kp g w v z' T n = sl[m] := ((List.getElem?_eq_some_iff.1 hx).2).symm
    rw [this]; simp
   have e' : parked gj #[scase c vj zj] shj = parked g #[scase c v z'] .send := e
   have hoff := congrArg Goroutine.offers e'
   simp only [parked, scase, Option.some.injEq, Prod.mk.injEq] at hoff
   obtain ⟨hcs, rfl⟩ := hoff
   have hv : vj = v := by
    have := congrArg (fun a : Array CommCase => a[0]?) hcs
    simp at this
    exact this.1
   have hz : zj = z' := by
    have := congrArg (fun a : Array CommCase => a[0]?) hcs
    simp at this
    exact this.2
   subst hv hz
   have e1 : gj.finishComm P #[scase c vj zj] .send 0 undef false = Conc.served g undef := by
    rw [finishComm_send]
    have hf := congrArg Goroutine.frame e'
    have hc := congrArg Goroutine.callers e'
    have hd := congrArg Goroutine.dying e'
    simp only [parked] at hf hc hd
    simp only [Conc.served]
    cases g; cases gj
    simp only at hf hc hd ⊢
    subst hf hc hd
    rfl
   have e2 : g0.finishComm P #[rcase c z] (.recv false) 0 vj true = Conc.served g0 vj := by rw [finishComm_recv]; rfl
   rw [e1, e2] at hr
   refine ⟨_, _, hr, ?_⟩
   obtain ⟨hrel, hkc, hΦ, hT, hq⟩ := hok
   have hlj := (Array.getElem?_eq_some_iff.1 hgj).1
   obtain ⟨PA, PB, ee, q1, q2, q3⟩ := I.meet (.inr ⟨zj, rfl⟩) hΦ hT hq hrel hkc (.inr trivial) d hs g0.frame.fn gj.frame.fn g0.frame.place gj.frame.place (gs' := (gs.setIfInBounds (A.length + 1) (Conc.served g undef)).setIfInBounds 0 (Conc.served g0 vj))
    (fun k y hy h1 h2 => joa hy h1 h2) (by rw [Array.getElem?_setIfInBounds_self_of_lt (by simpa using hl0)]) (by rw [Array.getElem?_setIfInBounds_ne (by omega), Array.getElem?_setIfInBounds_self_of_lt hlj]) (by simp)
   have := hm PA Φ PB vj T (cur kp0 w0 W) (W.at d) (s + 1) (s + 1) ee (I.rely0.at d) q1 q2 _ _ slc _ q3
   simpa [MemOp.ofEvents] using this
theorem jst (h : JM P Fin c ps kp0 g0 w0) : ∀ (sl : List WSt) (gs : Array Goroutine) (W : World) (slc : Option (Nat × Nat)) (t : Trace), CInv P c ps kp0 g0 w0 none sl gs W t → Ends P Fin (crowd gs W slc) t := by
 have body : ∀ {c : Nat} {ps : List Prom} {kp0 : Keep} {g0 : Goroutine} {w0 : World} {pk : Option Value}, (pk ≠ none → Meets P Fin c ps kp0 g0 w0) →
   (∀ (sl : List WSt) (gs : Array Goroutine) (W W0 : World) (slc slc0 : Option (Nat × Nat)) (t : Trace), pk = none → CInv P c ps kp0 g0 w0 pk sl gs W t → stepT P (crowd gs W0 slc0) = runT P (crowd gs W slc) 0 → Ends P Fin (crowd gs W0 slc0) t) →
   ∀ (sl : List WSt) (gs : Array Goroutine) (W : World) (slc : Option (Nat × Nat)) (t : Trace), CInv P c ps kp0 g0 w0 pk sl gs W t → Ends P Fin (crowd gs W slc) t := by
  intro c ps kp0 g0 w0 pk hm hmain sl
  by_cases hacc : _root_.Acc (LLt P) sl
  ·induction hacc with
   | intro sl _ ih =>
    intro gs W slc t I
    have hsome : ∃ (i : Nat) (g : Goroutine), gs[i]? = some g ∧ g.status = .running := by
     cases hpk : pk with
     | none => exact ⟨0, g0, by have := I.zero; rw [hpk] at this; exact this, I.run0⟩
     | some z =>
      obtain ⟨hne, hno⟩ := I.pkps (by rw [hpk]; simp)
      rw [I.proms] at hne
      obtain ⟨Φ, hΦ⟩ := List.exists_mem_of_ne_nil _ hne
      obtain ⟨x, hx, hxp⟩ := List.mem_filterMap.1 hΦ
      obtain ⟨j, hj⟩ := List.getElem?_of_mem hx
      have := I.slot j x hj
      cases x with
      | busy => exact ⟨j + 1, _, this.1, this.2.1.running⟩
      | wait => exact absurd rfl (hno _ hx _ _ _ _ _ _ _ _)
      | gone => cases hxp
    obtain ⟨i, g, d, sl', hi, hg, hst⟩ := crowd_pick (P := P) (w := W) (sl := slc) I.awake hsome
    rcases Nat.eq_zero_or_pos i with rfl | hpos
    ·cases hpk : pk with
     | none =>
      subst hpk
      exact hmain sl gs (W.at d) W sl' slc t rfl (I.at d) hst
     | some z =>
      have := I.zero
      rw [hi, hpk] at this
      cases this
      simp [rec0, parked] at hg
    ·obtain ⟨m', ops, h1, h2⟩ := (I.at d).worker hi hg (by omega) sl' (fun sl' gs' W' slc' t' hlt I' => ih sl' hlt gs' W' slc' t' I') hm
     exact Ends.next (hst.trans h1) h2
  ·intro gs W slc t I
   exact absurd (jkM sl fun x hx => by
    obtain ⟨j, hj⟩ := List.getElem?_of_mem hx
    exact WSt.acc (I.slot j x hj).2) hacc
 induction h with
 | @step c ps kp0 g0 w0 hstep hnext ih =>
  refine body (fun h => absurd rfl h) fun sl gs W W0 slc slc0 t _ I hst => ?_
  obtain ⟨_, g', w', es, hs, hr', K, hes⟩ := hstep _ _ I.rely0
  have hz : gs[0]? = some g0 := I.zero
  have hr := runT_crowd_go (P := P) (sl := slc) (i := 0) hz (show stepG P (0 == 0) g0 W = _ from hs)
  exact Ends.next (hst.trans hr) (ih _ _ _ _ _ I.rely0 hs _ _ _ _ _ (I.own0 hr' K hes _ _ _ _))
 | @spawn c ps kp0 g0 w0 c' Φ hrun hc' hst' hJ hM ih =>
  refine body (fun h => absurd rfl h) fun sl gs W W0 slc slc0 t _ I hst => ?_
  obtain ⟨g', ch, hs, hr', hch⟩ := hst' _ _ I.rely0
  have hz : gs[0]? = some g0 := I.zero
  have hr := runT_crowd_spawn (P := P) (sl := slc) (i := 0) hz (show stepG P (0 == 0) g0 W = _ from hs)
  refine Ends.next (hst.trans hr) ?_
  have hc2 : (ps = [] ∧ ¬ (cur kp0 w0 W).no c' ∧ W.heap[c']? = some (.chan 0 #[] false 0 0 false)) ∨ (ps ≠ [] ∧ c' = c) := by
   rcases hc' with ⟨e, hn, _, hh⟩ | h
   ·have hlt := (Array.getElem?_eq_some_iff.1 hh).1
    have hnh : ¬ kp0.hide c' := fun x => by
     have := I.sub0.1 c' (.inl x)
     rcases this with y | ⟨y, _⟩
     ·exact hn y
     ·omega
    refine .inl ⟨e, ?_, by rw [I.rely0.row c' hlt hnh]; exact hh⟩
    rintro (y | ⟨y, _⟩)
    ·exact hn y
    ·omega
   ·exact .inr h
  have := ih _ _ _ _ I.rely0 hs _ _ W slc _ (I.spawn hc2 hr' (hJ _ _ _ _ I.rely0 hs) g0.frame.fn ch.frame.fn g0.frame.place g0.frame.place)
  simpa [MemOp.ofEvents] using this
 | @recv c ps kp0 g0 w0 z hrun hps hst' hM ih =>
  have hm : Meets P Fin c ps kp0 g0 w0 := fun A Φ B v T kp1 w1 s r e hr hΦ hT sl gs slc t I => ih A Φ B v T kp1 w1 s r e hr hΦ hT sl gs _ slc t I
  have parkedRun := body (c := c) (ps := ps) (kp0 := kp0) (g0 := g0) (w0 := w0) (pk := some z) (fun _ => hm) (fun _ _ _ _ _ _ _ h => by cases h)
  refine body (fun h => absurd rfl h) fun sl gs W W0 slc slc0 t _ I hst => ?_
  obtain ⟨m', ops, h1, h2⟩ := I.recv0 hps (hst' _ _ I.rely0) slc hm fun gs' slc' t' I' => parkedRun _ _ _ _ _ I'
  exact Ends.next (hst.trans h1) h2
 | @done c kp0 g0 w0 hd =>
  refine body (fun h => absurd rfl h) fun sl gs W W0 slc slc0 t _ I hst => ?_
  obtain ⟨_, v, es, hs, hes, hF⟩ := hd _ _ I.rely0
  have hz : gs[0]? = some g0 := I.zero
  have hr := runT_many_ended (P := P) (sl := slc) (i := 0) hz (show stepG P (0 == 0) g0 W = _ from hs)
  have hgone : ∀ x ∈ sl, ∃ n g, x = .gone n g := by
   intro x hx
   cases x with
   | gone n g => exact ⟨n, g, rfl⟩
   | busy Φ kp g w => exact absurd I.proms.symm (jcL hx (Φ := Φ) rfl)
   | wait Φ kp g w v z T n => exact absurd I.proms.symm (jcL hx (Φ := Φ) rfl)
  have T1 : TInv (t ++ MemOp.ofEvents 0 g0.frame.fn g0.frame.place es) W.heap.size (permOf kp0 w0 W sl) := by
   refine I.trace.own (g := 0) (kp := cur kp0 w0 W) rfl (Nat.le_refl _) hes fun g' => ?_
   cases g' with
   | zero => simp [permOf]
   | succ j =>
    rw [if_neg (by omega)]
    cases hx : permOf kp0 w0 W sl (j + 1) <;> simp [Keep.wider_self]
  refine ⟨0, crowd gs W0 slc0, _, _, _, by simp only [runNT, hst, hr], rfl, by simp [step, hst, hr], v, rfl, hF, T1.clean, T1.over ?_, ⟨fun x hx => ?_, rfl⟩, fun i x hx hi => ?_⟩
  ·intro g hg
   cases g with
   | zero => exact absurd rfl hg
   | succ j =>
    simp only [permOf]
    cases hx : sl[j]? with
    | none => rfl
    | some x =>
     obtain ⟨n, g, rfl⟩ := hgone x (List.mem_of_getElem? hx)
     rfl
  ·obtain ⟨j, hj⟩ := List.mem_iff_getElem?.1 hx
   rw [List.getElem?_drop] at hj
   have hj' : gs[1 + j]? = some x := by simpa [crowd] using hj
   rcases I.get hj' with ⟨e, _⟩ | ⟨m, y, _, hy, e, hok⟩
   ·omega
   ·obtain ⟨n, g, rfl⟩ := hgone y (List.mem_of_getElem? hy)
    rw [e]
    exact ⟨n, QuitsIn.leaves hok⟩
  ·have hx' : gs[i]? = some x := hx
   rcases I.get hx' with ⟨e, _⟩ | ⟨m, y, _, hy, e, hok⟩
   ·exact absurd e hi
   ·obtain ⟨n, g, rfl⟩ := hgone y (List.mem_of_getElem? hy)
    rw [e]
    refine ⟨n, ?_⟩
    rw [T1.words.deaf]
    exact QuitsD.hears _ (QuitsD.of_quitsIn hok)
theorem job (h : JM P Fin c [] ⟨fun _ => False, fun _ => False⟩ g0 w0) : Ends P Fin (crowd #[g0] w0 none) #[] := by
 refine jst h [] #[g0] w0 none #[] ⟨rfl, rfl, h.running, ?_, fun j x hx => (by cases hx), rfl, fun h => absurd rfl h, fun h => absurd rfl h, by simp, ?_⟩
 ·rw [jbM]; exact Rely.refl _ _
 ·have hn : ∀ i a, touchAt (#[] : Trace) i = some a → False := fun i a h => by simp [touchAt, Trace.act?] at h
  refine ⟨fun said => ?_, fun g => rfl, fun op hop => by simp at hop, fun i a h => (hn i a h).elim, fun g kp _ i a h => (hn i a h).elim, fun i a op h => (hn i a h).elim, fun g kp hg => ?_, fun g g' k k' hne hg hg' => ?_⟩
  ·rintro ⟨i, j, _, ⟨a, b, ha, _⟩, _⟩; simp [Trace.act?] at ha
  ·cases g with
   | zero =>
    simp only [permOf, jbM, Option.some.injEq] at hg
    subst hg
    exact ⟨fun r hr => hr.elim, fun r hr => hr.elim⟩
   | succ j => simp [permOf] at hg
  ·cases g with
   | zero =>
    cases g' with
    | zero => exact absurd rfl hne
    | succ j => simp [permOf] at hg'
   | succ j => simp [permOf] at hg
end
end Go.Ae
namespace Go.Ae
open Go.Conc
def Keep.both (kp : Keep) : Keep := ⟨kp.hide, kp.hide⟩
section
variable {P : Program} {kp kp1 kq : Keep} {w w1 w' : World}
theorem Keep.both_nil : Keep.nil.both = Keep.nil := rfl
theorem Rely.toBoth (h : Rely kp w kp1 w1) : Rely kp.both w kp1.both w1 := ⟨h.size, h.os, h.tape, h.output, h.row, by rw [h.eq]; rfl⟩
theorem Rely.ofBoth (h : Rely kp.both w kq w1) : Rely kp w (kp.wider w.heap.size w1.heap.size) w1 ∧ kq = (kp.wider w.heap.size w1.heap.size).both := ⟨⟨h.size, h.os, h.tape, h.output, h.row, rfl⟩, h.eq⟩
theorem EvIn.toBoth {B : Nat} {e : Event} (h : EvIn kp B e) : EvIn kp.both B e := h.imp (fun ⟨a, b, c, d, _⟩ => ⟨a, b, c, d, fun _ => d⟩) id
theorem KeepW.toBoth (h : KeepW kp w w') : KeepW kp.both w w' := ⟨h.os, h.tape, h.output, h.size, fun r hr => h.block r (.inr (hr.elim id id))⟩
theorem jgY.toBoth {main : Bool} {g : Goroutine} (h : jgY P main kp g w) : jgY P main kp.both g w := by
 obtain ⟨a, g', w', es, b, c, d, e⟩ := h
 exact ⟨a, g', w', es, b, c, d.toBoth, fun x hx => (e x hx).toBoth⟩
end
section
variable {P : Program} {Fin : Value → World → Prop} {p : Prop} {c : Nat} {ps : List Prom} {Φ : Prom}
theorem JM.idx {kp : Keep} {g : Goroutine} {w : World} (h : JM P Fin c ps kp g w) (c' : Nat) (hps : ps = []) : JM P Fin c' ps kp g w := by
 induction h with
 | step a b ih => exact .step a fun kp1 w1 g' w' es r hs => ih _ _ _ _ _ r hs hps
 | spawn c2 Φ hrun hc hs hJ hM => 
  refine .spawn c2 Φ hrun ?_ hs hJ hM
  rcases hc with h | ⟨h, _⟩
  ·exact .inl h
  ·exact absurd hps h
 | recv z hrun hne => exact absurd hps hne
 | done h => exact .done h
def MJ0 (P : Program) (Fin : Value → World → Prop) (p : Prop) : Keep → Goroutine → World → Prop := fun kp g w => JM P Fin 0 [] kp.both g w ∨ p
def MJ (P : Program) (Fin : Value → World → Prop) (p : Prop) (c : Nat) (ps : List Prom) : Keep → Goroutine → World → Prop := fun kp g w => JM P Fin c ps kp g w ∨ p
theorem jdY : Closed P true (MJ0 P Fin p) := by
 refine ⟨fun {kp g w} hs hn => ?_, fun {kp kp1 g w w1} h r => ?_⟩
 ·by_cases hp : p
  ·exact .inr hp
  refine .inl (.step (fun kq w1 r => ?_) fun kq w1 g' w' es r hst => ?_)
  ·obtain ⟨r1, rfl⟩ := r.ofBoth
   exact (hs _ _ r1).toBoth
  ·obtain ⟨r1, rfl⟩ := r.ofBoth
   exact (hn _ _ _ _ _ r1 hst).resolve_right hp
 ·exact h.imp (fun h => h.rely r.toBoth) id
theorem ji7 : Closed P true (MJ P Fin p c ps) := by
 refine ⟨fun {kp g w} hs hn => ?_, fun {kp kp1 g w w1} h r => h.imp (fun h => h.rely r) id⟩
 by_cases hp : p
 ·exact .inr hp
 exact .inl (.step hs fun kq w1 g' w' es r hst => (hn _ _ _ _ _ r hst).resolve_right hp)
theorem Ends.fin {m : Machine} {t : Trace} (h : Ends P Fin m t) : ∃ v w, Fin v w := by
 obtain ⟨N, last, o, w', t', _, _, _, hG⟩ := h
 obtain ⟨v, _, hf, _⟩ := hG
 exact ⟨v, w', hf⟩
end
abbrev Phase := Option (Nat × List Prom)
def PJ (P : Program) (Fin : Value → World → Prop) (p : Prop) : Phase → Keep → Goroutine → World → Prop
 | none => MJ0 P Fin p
 | some x => MJ P Fin p x.1 x.2
theorem jb0 {P : Program} {Fin : Value → World → Prop} {p : Prop} : ∀ ph : Phase, Closed P true (PJ P Fin p ph)
 | none => jdY
 | some _ => ji7
def Ctx.main0 (C : Ctx) : Ctx := { C with
 main := true
 fam := fun J => ∃ Fin p, J = MJ0 C.P Fin p
 closed := by rintro J ⟨Fin, p, rfl⟩; exact jdY
 ends := fun p => ⟨_, ⟨fun _ _ => p, p, rfl⟩, fun kp g w hp => .inr hp, fun g w h => h.elim (fun h => by
  obtain ⟨_, _, hp⟩ := (job (by rw [Keep.both_nil] at h; exact h)).fin; exact hp) id⟩ }
def Ctx.pend (C : Ctx) (x : Nat × List Prom) : Ctx := { C with
 main := true
 fam := fun J => (∃ Fin p, J = MJ C.P Fin p x.1 x.2) ∨ ∃ p : Prop, J = fun _ _ _ => p
 closed := by
  rintro J (⟨Fin, p, rfl⟩ | ⟨p, rfl⟩)
  ·exact ji7
  ·exact Closed.constant _ _ _
 ends := fun p => ⟨_, .inr ⟨p, rfl⟩, fun _ _ _ hp => hp, fun _ _ hp => hp⟩ }
def Ctx.work (C : Ctx) (c : Nat) (Φ : Prom) : Ctx := { C with
 main := false
 fam := fun J => J = JW C.P c Φ ∨ ∃ p : Prop, J = fun _ _ _ => p
 closed := by
  rintro J (rfl | ⟨p, rfl⟩)
  ·exact jdB _ _ _
  ·exact Closed.constant _ _ _
 ends := fun p => ⟨_, .inr ⟨p, rfl⟩, fun _ _ _ hp => hp, fun _ _ hp => hp⟩ }
def Ctx.at (C : Ctx) : Phase → Ctx
 | none => C.main0
 | some x => C.pend x
theorem Ctx.at_fam (C : Ctx) (Fin : Value → World → Prop) (p : Prop) : ∀ ph : Phase, (C.at ph).fam (PJ C.P Fin p ph)
 | none => ⟨Fin, p, rfl⟩
 | some _ => .inl ⟨Fin, p, rfl⟩
end Go.Ae
namespace Go.Ae
open Go.Conc Go.RowKit
theorem ends_of {C : Ctx} {f : FuncId} {g : Nat} (hf : C.lk g = f) {args : List AV} {vals : List Value} {env : Env} {h : Heap} {w : World} (hc : ACalls C.main0 g args h (fun r _ => r = .bool true)) (R : Rel C ⟨fun r => r < w.heap.size, fun _ => False⟩ env h w)
  (hb : ∀ v ∈ args, v.bel h.ok) (hv : args.map (AV.val C.lk env) = vals) (hi : C.P.inits.idxOf? f = none) :
  Ends C.P (fun v w' => v = .bool true ∧ Below w.heap.size w w') (crowd #[G (Frame.enter C.P f vals.toArray .normal) []] w none) #[] := by
 subst hf hv
 have hk : Keep.nil.or ⟨fun r => r < w.heap.size, fun _ => False⟩ = ⟨fun r => r < w.heap.size, fun _ => False⟩ := Keep.nil_or _
 have R' : Rel C.main0 (Keep.nil.or ⟨fun r => r < w.heap.size, fun _ => False⟩) env h w := by rw [hk]; exact ⟨R.1, R.2, R.3, R.4, R.5, R.6, R.7, R.8⟩
 have H := hc.2 ⟨fun r => r < w.heap.size, fun _ => False⟩ Keep.nil env w R' hb (MJ0 C.P (fun v w' => v = .bool true ∧ Below w.heap.size w w') False) ⟨_, _, rfl⟩ [] fun kp' v w' fr hB hl => by
  obtain ⟨env', r, h', rfl, rfl, R1, K, _, _, _⟩ := hB
  refine .inl (.done fun kq w1 rq => ?_)
  obtain ⟨rq1, rfl⟩ := rq.ofBoth
  obtain ⟨fn, hfn, hres⟩ := hl.res
  obtain ⟨hr1, hr2⟩ := hres _ _ rq1
  refine ⟨rfl, _, _, jqQ hl.mode hl.kind hl.defers (by rw [hl.fn]; exact hfn) hr1 (by rw [hl.fn]; exact hi), fun e he => (hr2 e (mem_seen he)).toBoth, rfl, ?_⟩
  have K2 := K.trans (rq1.keepJ _)
  exact ⟨K2.os, K2.tape, K2.output, K2.size, fun k hk => K2.block k hk hk fun x => x.elim⟩
 exact job (H.resolve_right id)
end Go.Ae
namespace Go.Ae
theorem wpPre :
  (∀ {C : Ctx} {nt : Nat} {rd : Option Nat} {a b : ACode} {Q : Out → St → Prop} {st : St}, @Eq Prop (wp C nt rd (ACode.seq a b) Q st) (wp C nt rd a (thenO (wp C nt rd b Q) Q) st)) ∧
  (∀ {C : Ctx} {nt : Nat} {rd : Option Nat} {ops : List AOper} {Q : Out → St → Prop} {st : St}, @Eq Prop (wp C nt rd (ACode.region ops) Q st) (wpOps C ops (Q Out.normal) st)) ∧
  (∀ {C : Ctx} {nt : Nat} {rd : Option Nat} {n : Nat} {ds : List DItem} {Q : Out → St → Prop} {st : St}, @Eq Prop (wp C nt rd (ACode.draw n ds) Q st) (jdG C n ds (Q Out.normal) st)) ∧
  (∀ {C : Ctx} {nt : Nat} {rd : Option Nat} {c : AOpd} {a b : ACode} {Q : Out → St → Prop} {st : St}, @Eq Prop (wp C nt rd (ACode.cond c a b) Q st) (@condV (AOpd.ev (St.t st) c) (Hold.mk (wp C nt rd a Q st)) (Hold.mk (wp C nt rd b Q st)))) ∧
  (∀ {C : Ctx} {nt : Nat} {rd : Option Nat} {id : Nat} {c : ACode} {Q : Out → St → Prop} {st : St}, @Eq Prop (wp C nt rd (ACode.block id c) Q st) (wp C nt rd c (jbX id Q) st)) ∧
  (∀ {C : Ctx} {nt : Nat} {rd : Option Nat} {Q : Out → St → Prop} {st : St}, @Eq Prop (wp C nt rd ACode.skip Q st) (Q Out.normal st)) ∧
  (∀ {C : Ctx} {nt : Nat} {rd : Option Nat} {id : Nat} {Q : Out → St → Prop} {st : St}, @Eq Prop (wp C nt rd (ACode.exit id) Q st) (Q (Out.exit id) st)) ∧
  (∀ {C : Ctx} {nt : Nat} {rd : Option Nat} {Q : Out → St → Prop} {st : St}, @Eq Prop (wp C nt rd ACode.ret Q st) (Q Out.ret st)) ∧
  (∀ {C : Ctx} {nt : Nat} {rd : Option Nat} {f : AOpd} {ps : List Nat} {a b : ACode} {Q : Out → St → Prop} {st : St}, @Eq Prop (wp C nt rd (ACode.rangeFunc f ps a b) Q st) (jdj C nt rd (AOpd.ev (St.t st) f) ps a b Q st)) ∧
  (∀ {K : St → Prop} {Q : Out → St → Prop} {st : St}, @Eq Prop (thenO K Q Out.normal st) (K st)) ∧
  (∀ {K : St → Prop} {Q : Out → St → Prop} {id : Nat} {st : St}, @Eq Prop (thenO K Q (Out.exit id) st) (Q (Out.exit id) st)) ∧
  (∀ {K : St → Prop} {Q : Out → St → Prop} {st : St}, @Eq Prop (thenO K Q Out.ret st) (Q Out.ret st)) ∧
  (∀ {i : Nat} {Q : Out → St → Prop} {st : St}, @Eq Prop (jbX i Q (Out.exit i) st) (Q Out.normal st)) ∧
  (∀ {i j : Nat} {Q : Out → St → Prop} {st : St}, @Eq Bool (@BEq.beq Nat (@instBEqOfDecidableEq Nat instDecidableEqNat) j i) false → @Eq Prop (jbX i Q (Out.exit j) st) (Q (Out.exit j) st)) ∧
  (∀ {i : Nat} {Q : Out → St → Prop} {st : St}, @Eq Prop (jbX i Q Out.normal st) (Q Out.normal st)) ∧
  (∀ {i : Nat} {Q : Out → St → Prop} {st : St}, @Eq Prop (jbX i Q Out.ret st) (Q Out.ret st)) ∧
  (∀ {C : Ctx} {K : St → Prop} {st : St}, @Eq Prop (wpOps C (@List.nil AOper) K st) (K st)) ∧
  (∀ {C : Ctx} {d : Option Nat} {op : AOp} {os : List AOper} {K : St → Prop} {st : St}, @Eq Prop (wpOps C (@List.cons AOper (AOper.mk d op (@none (Prod Nat Bool))) os) K st) (wpOp C (@none Nat) (AOper.mk d op (@none (Prod Nat Bool))) (wpOps C os K) st)) ∧
  (∀ {C : Ctx} {d : Option Nat} {op : AOp} {s : Nat} {w : Bool} {os : List AOper} {K : St → Prop} {st : St}, @Eq Prop (wpOps C (@List.cons AOper (AOper.mk d op (@some (Prod Nat Bool) (@Prod.mk Nat Bool s w))) os) K st) (@gV (St.t st s) w (Hold.mk (wpOp C (@none Nat) (AOper.mk d op (@some (Prod Nat Bool) (@Prod.mk Nat Bool s w))) (wpOps C os K) st)) (Hold.mk (wpOps C os K (St.put st d AV.undef))))) ∧
  (∀ {C : Ctx} {nid d : Option Nat} {f : AOpd} {args : List AOpd} {g : Option (Prod Nat Bool)} {K : St → Prop} {st : St}, @Eq Prop (wpOp C nid (AOper.mk d (AOp.call f args) g) K st) (@Call C (AOpd.ev (St.t st) f) (@List.map AOpd AV (AOpd.ev (St.t st)) args) (St.h st) (HoldR.mk fun r h' => K (St.put (St.mk (St.t st) h' (St.m st)) d r)))) ∧
  (∀ {C : Ctx} {nid d : Option Nat} {op : AOp} {g : Option (Prod Nat Bool)} {K : St → Prop} {st : St}, @Eq Bool (AOp.isCall op) false → @Eq Prop (wpOp C nid (AOper.mk d op g) K st) (@opR nid op (AOpd.ev (St.t st)) (St.h st) (HoldR.mk fun v h' => K (St.put (St.mk (St.t st) h' (St.m st)) d v)))) ∧
  (∀ {t : Nat → AV} {h : Heap} {m : List Nat} {s : Nat} {v : AV}, @Eq St (St.put (St.mk t h m) (@some Nat s) v) (St.mk (upd t s v) h m)) ∧
  (∀ {t : Nat → AV} {h : Heap} {m : List Nat} {v : AV}, @Eq St (St.put (St.mk t h m) (@none Nat) v) (St.mk t h m)) ∧
  (∀ {C : Ctx} {ds : List DItem} {K : St → Prop} {st : St}, @Eq Prop (jdG C (@OfNat.ofNat Nat (nat_lit 0) (instOfNatNat (nat_lit 0))) ds K st) (wpD C (Heap.size (St.h st)) ds (@List.nil (Prod Nat (Prod (List Nat) (List Nat)))) K st)) ∧
  (∀ {C : Ctx} {n : Nat} {ds : List DItem} {K : St → Prop} {t : Nat → AV} {h : Heap} {m : List Nat}, @Eq Bool (@BEq.beq Nat (@instBEqOfDecidableEq Nat instDecidableEqNat) n (@OfNat.ofNat Nat (nat_lit 0) (instOfNatNat (nat_lit 0)))) false → @Eq Prop (jdG C n ds K (St.mk t h m)) (wpD C (Heap.size h) ds (@List.nil (Prod Nat (Prod (List Nat) (List Nat)))) K (St.mk t (Heap.reserve h n) m))) ∧
  (∀ {res : List ARes} {Post : AV → Heap → Prop} {t : Nat → AV} {h : Heap} {i : Nat} {m : List Nat}, @Eq Prop (retO res Post Out.ret (St.mk t h (@List.cons Nat i m))) (@jfs (Heap.get h i) (Hold.mk (retO res Post Out.ret (St.mk t (Heap.put h i (ABlk.defd false)) m))))) ∧
  (∀ {res : List ARes} {Post : AV → Heap → Prop} {t : Nat → AV} {h : Heap} {i : Nat} {m : List Nat}, @Eq Prop (retO res Post Out.normal (St.mk t h (@List.cons Nat i m))) (@jfs (Heap.get h i) (Hold.mk (retO res Post Out.normal (St.mk t (Heap.put h i (ABlk.defd false)) m))))) ∧
  (∀ {C : Ctx} {nt l : Nat} {body : ACode} {Post : AV → Heap → Prop} {st : St}, @Eq Prop (jiU C nt l body Post Out.normal st) (@jc5 (Heap.get (St.h st) l) (HoldL.mk fun r => And (@Eq LoopState (ALoop.state r) LoopState.ready) (wp C nt (@some Nat l) body (jcK l Post) (St.mk (St.t st) (Heap.put (St.h st) l (ABlk.loop (ALoop.mk LoopState.busy (ALoop.pend r) (ALoop.t r) (ALoop.nt r) (ALoop.params r) (ALoop.assign r) (ALoop.body r) (ALoop.defers r)))) (St.m st)))))) ∧
  (∀ {l : Nat} {Post : AV → Heap → Prop} {st : St}, @Eq Prop (jcK l Post Out.normal st) (@jc5 (Heap.get (St.h st) l) (HoldL.mk fun r => Post (AV.bool true) (Heap.put (St.h st) l (ABlk.loop (ALoop.mk LoopState.ready (@none Out) (ALoop.t r) (ALoop.nt r) (ALoop.params r) (ALoop.assign r) (ALoop.body r) (ALoop.defers r))))))) ∧
  (∀ {l i : Nat} {Post : AV → Heap → Prop} {st : St}, @Eq Prop (jcK l Post (Out.exit i) st) (@jc5 (Heap.get (St.h st) l) (HoldL.mk fun r => Post (AV.bool false) (Heap.put (St.h st) l (ABlk.loop (ALoop.mk LoopState.done (@some Out (Out.exit i)) (ALoop.t r) (ALoop.nt r) (ALoop.params r) (ALoop.assign r) (ALoop.body r) (ALoop.defers r))))))) ∧
  (∀ {l : Nat} {Post : AV → Heap → Prop} {st : St}, @Eq Prop (jcK l Post Out.ret st) (@jc5 (Heap.get (St.h st) l) (HoldL.mk fun r => Post (AV.bool false) (Heap.put (St.h st) l (ABlk.loop (ALoop.mk LoopState.done (@some Out Out.ret) (ALoop.t r) (ALoop.nt r) (ALoop.params r) (ALoop.assign r) (ALoop.body r) (ALoop.defers r))))))) ∧
  (∀ {C : Ctx} {base : Nat} {acc : Acc} {K : St → Prop} {st : St}, @Eq Prop (wpD C base (@List.nil DItem) acc K st) (K st)) ∧
  (∀ {C : Ctx} {base k : Nat} {mem : Bool} {ck : List Nat} {d : Option Nat} {op : AOp} {s : Nat} {w : Bool} {ds : List DItem} {acc : Acc} {K : St → Prop} {st : St}, @Eq Prop (wpD C base (@List.cons DItem (DItem.mk k mem ck (AOper.mk d op (@some (Prod Nat Bool) (@Prod.mk Nat Bool s w)))) ds) acc K st) (@gV (St.t st s) w (Hold.mk (wpD C base (@List.cons DItem (DItem.mk k mem ck (AOper.mk d op (@none (Prod Nat Bool)))) ds) acc K st)) (Hold.mk (wpD C base ds acc K (St.put st d AV.undef))))) ∧
  (∀ {C : Ctx} {base k : Nat} {ck : List Nat} {d : Option Nat} {op : AOp} {ds : List DItem} {acc : Acc} {K : St → Prop} {st : St}, @Eq Bool (AOp.isCall op) false → @Eq Prop (wpD C base (@List.cons DItem (DItem.mk k false ck (AOper.mk d op (@none (Prod Nat Bool)))) ds) acc K st) (And (chkP acc ck op (AOpd.ev (St.t st)) (@HAdd.hAdd Nat Nat Nat (@instHAdd Nat instAddNat) base k)) (@opR (@some Nat (@HAdd.hAdd Nat Nat Nat (@instHAdd Nat instAddNat) base k)) op (AOpd.ev (St.t st)) (St.h st) (HoldR.mk fun v h' => wpD C base ds acc K (St.put (St.mk (St.t st) h' (St.m st)) d v))))) ∧
  (∀ {C : Ctx} {base k : Nat} {ck : List Nat} {d : Option Nat} {op : AOp} {ds : List DItem} {acc : Acc} {K : St → Prop} {st : St}, @Eq Bool (AOp.isCall op) false → @Eq Prop (wpD C base (@List.cons DItem (DItem.mk k true ck (AOper.mk d op (@none (Prod Nat Bool)))) ds) acc K st) (And (chkP acc ck op (AOpd.ev (St.t st)) (@HAdd.hAdd Nat Nat Nat (@instHAdd Nat instAddNat) base k)) (@opR (@some Nat (@HAdd.hAdd Nat Nat Nat (@instHAdd Nat instAddNat) base k)) op (AOpd.ev (St.t st)) (St.h st) (HoldR.mk fun v h' => wpD C base ds (@List.cons (Prod Nat (Prod (List Nat) (List Nat))) (@Prod.mk Nat (Prod (List Nat) (List Nat)) k (@Prod.mk (List Nat) (List Nat) (footA op (AOpd.ev (St.t st)) (@HAdd.hAdd Nat Nat Nat (@instHAdd Nat instAddNat) base k)) (wrA op (AOpd.ev (St.t st)) (@HAdd.hAdd Nat Nat Nat (@instHAdd Nat instAddNat) base k)))) acc) K (St.put (St.mk (St.t st) h' (St.m st)) d v))))) ∧
  (∀ {C : Ctx} {base k : Nat} {mem : Bool} {ck : List Nat} {d : Option Nat} {f : AOpd} {args : List AOpd} {ds : List DItem} {acc : Acc} {K : St → Prop} {st : St}, @Eq Prop (wpD C base (@List.cons DItem (DItem.mk k mem ck (AOper.mk d (AOp.call f args) (@none (Prod Nat Bool)))) ds) acc K st) (@Call C (AOpd.ev (St.t st) f) (@List.map AOpd AV (AOpd.ev (St.t st)) args) (St.h st) (HoldR.mk fun r h' => And (chkS acc ck (St.h st) h') (wpD C base ds acc K (St.put (St.mk (St.t st) h' (St.m st)) d r))))) :=
 ⟨@jsf,
   @jnk,
   @jqX,
   @jqY,
   @jpo,
   @jqZ,
   @jq0,
   @jsg,
   @jpp,
   @jiX,
   @jlO,
   @jnl,
   @jj1,
   @jiY,
   @jhT,
   @jlP,
   @jno,
   @jlR,
   @jj3,
   @jnr,
   @jq2,
   @jpu,
   @jpv,
   @jj4,
   @jj5,
   @jme,
   @jkk,
   @jh2,
   @jh3,
   @jki,
   @jmd,
   @jq3,
   @jns,
   @jsj,
   @jq4,
   @jpA⟩
theorem jbb :
  (∀ {h : Heap} {nid : Option Nat} {sz bytes i o n c m : Nat} {news : List AV}, @Ne Nat m (@OfNat.ofNat Nat (nat_lit 0) (instOfNatNat (nat_lit 0))) → @Eq (Option (Prod AV Heap)) (jas h nid sz bytes (AV.slice i o n (Cap.known c)) m news) (appKB h nid sz bytes i o n c m news (Heap.get h i))) ∧
  (∀ {h : Heap} {sz bytes i o n c m : Nat} {news vs : List AV} {u : Nat}, @LE.le Nat instLENat (@HAdd.hAdd Nat Nat Nat (@instHAdd Nat instAddNat) o (@HMul.hMul Nat Nat Nat (@instHMul Nat instMulNat) n sz)) (@List.length AV vs) → @LT.lt Nat instLTNat c (@HAdd.hAdd Nat Nat Nat (@instHAdd Nat instAddNat) n m) → @LE.le Nat instLENat (@HMul.hMul Nat Nat Nat (@instHMul Nat instMulNat) (@HAdd.hAdd Nat Nat Nat (@instHAdd Nat instAddNat) n m) bytes) (@OfNat.ofNat Nat (nat_lit 1099511627776) (instOfNatNat (nat_lit 1099511627776))) → @Eq (Option (Prod AV Heap)) (appKB h (@none Nat) sz bytes i o n c m news (@some ABlk (ABlk.cells vs true u))) (@some (Prod AV Heap) (@Prod.mk AV Heap (AV.slice (Heap.size h) (@OfNat.ofNat Nat (nat_lit 0) (instOfNatNat (nat_lit 0))) (@HAdd.hAdd Nat Nat Nat (@instHAdd Nat instAddNat) n m) (Cap.unk (@OfNat.ofNat Nat (nat_lit 0) (instOfNatNat (nat_lit 0))))) (Heap.push h (ABlk.cells (@HAppend.hAppend (List AV) (List AV) (List AV) (@instHAppendOfAppend (List AV) (@List.instAppend AV)) (cut vs o (@HMul.hMul Nat Nat Nat (@instHMul Nat instMulNat) n sz)) news) true sz))))) ∧
  (∀ {h : Heap} {nid : Option Nat} {sz bytes i o n c m : Nat} {news vs : List AV} {u : Nat}, @LE.le Nat instLENat (@HAdd.hAdd Nat Nat Nat (@instHAdd Nat instAddNat) o (@HMul.hMul Nat Nat Nat (@instHMul Nat instMulNat) n sz)) (@List.length AV vs) → @LE.le Nat instLENat (@HAdd.hAdd Nat Nat Nat (@instHAdd Nat instAddNat) n m) c → @LE.le Nat instLENat (@HAdd.hAdd Nat Nat Nat (@instHAdd Nat instAddNat) o (@HMul.hMul Nat Nat Nat (@instHMul Nat instMulNat) (@HAdd.hAdd Nat Nat Nat (@instHAdd Nat instAddNat) n m) sz)) (@List.length AV vs) → @Eq Bool (@List.all AV news AV.one) true → @Eq (Option (Prod AV Heap)) (appKB h nid sz bytes i o n c m news (@some ABlk (ABlk.cells vs true u))) (@some (Prod AV Heap) (@Prod.mk AV Heap (AV.slice i o (@HAdd.hAdd Nat Nat Nat (@instHAdd Nat instAddNat) n m) (Cap.known c)) (Heap.put h i (ABlk.cells (splice vs (@HAdd.hAdd Nat Nat Nat (@instHAdd Nat instAddNat) o (@HMul.hMul Nat Nat Nat (@instHMul Nat instMulNat) n sz)) news) true u))))) ∧
  (∀ {h : Heap} {nid : Option Nat} {sz bytes i o n l m : Nat} {news : List AV}, @Eq (Option (Prod AV Heap)) (jas h nid sz bytes (AV.slice i o n (Cap.unk l)) m news) (appUB h nid sz bytes i o n l m news (Heap.get h i))) ∧
  (∀ {h : Heap} {sz bytes i n m : Nat} {news vs : List AV}, @LE.le Nat instLENat (@HMul.hMul Nat Nat Nat (@instHMul Nat instMulNat) n sz) (@List.length AV vs) → @LT.lt Nat instLTNat (@OfNat.ofNat Nat (nat_lit 0) (instOfNatNat (nat_lit 0))) m → @LE.le Nat instLENat (@HMul.hMul Nat Nat Nat (@instHMul Nat instMulNat) (@HAdd.hAdd Nat Nat Nat (@instHAdd Nat instAddNat) n m) bytes) (@OfNat.ofNat Nat (nat_lit 1099511627776) (instOfNatNat (nat_lit 1099511627776))) → @Eq Bool (@List.all AV news AV.one) true → @Eq (Option (Prod AV Heap)) (appUB h (@none Nat) sz bytes i (@OfNat.ofNat Nat (nat_lit 0) (instOfNatNat (nat_lit 0))) n (@OfNat.ofNat Nat (nat_lit 0) (instOfNatNat (nat_lit 0))) m news (@some ABlk (ABlk.cells vs true sz))) (@some (Prod AV Heap) (@Prod.mk AV Heap (AV.slice (Heap.size h) (@OfNat.ofNat Nat (nat_lit 0) (instOfNatNat (nat_lit 0))) (@HAdd.hAdd Nat Nat Nat (@instHAdd Nat instAddNat) n m) (Cap.unk (@OfNat.ofNat Nat (nat_lit 0) (instOfNatNat (nat_lit 0))))) (Heap.push (Heap.put h i ABlk.dead) (ABlk.cells (@HAppend.hAppend (List AV) (List AV) (List AV) (@instHAppendOfAppend (List AV) (@List.instAppend AV)) (cut vs (@OfNat.ofNat Nat (nat_lit 0) (instOfNatNat (nat_lit 0))) (@HMul.hMul Nat Nat Nat (@instHMul Nat instMulNat) n sz)) news) true sz))))) ∧
  (∀ {h : Heap} {sz bytes m : Nat} {news : List AV}, @Ne Nat m (@OfNat.ofNat Nat (nat_lit 0) (instOfNatNat (nat_lit 0))) → @LE.le Nat instLENat (@HMul.hMul Nat Nat Nat (@instHMul Nat instMulNat) m bytes) (@OfNat.ofNat Nat (nat_lit 1099511627776) (instOfNatNat (nat_lit 1099511627776))) → @Eq (Option (Prod AV Heap)) (jas h (@none Nat) sz bytes AV.nilslice m news) (@some (Prod AV Heap) (@Prod.mk AV Heap (AV.slice (Heap.size h) (@OfNat.ofNat Nat (nat_lit 0) (instOfNatNat (nat_lit 0))) m (Cap.unk (@OfNat.ofNat Nat (nat_lit 0) (instOfNatNat (nat_lit 0))))) (Heap.push h (ABlk.cells news true sz))))) ∧
  (∀ {h : Heap} {nid : Option Nat} {sz bytes : Nat} {news : List AV}, @Eq (Option (Prod AV Heap)) (jas h nid sz bytes AV.nilslice (@OfNat.ofNat Nat (nat_lit 0) (instOfNatNat (nat_lit 0))) news) (@some (Prod AV Heap) (@Prod.mk AV Heap AV.nilslice h))) ∧
  (∀ {nid : Option Nat} {sz bytes : Nat} {h : Heap} {s : AV} {m : Nat} {news : List AV}, @Eq (Option (Prod AV Heap)) (appA nid sz bytes h s (@some (Prod Nat (List AV)) (@Prod.mk Nat (List AV) m news))) (jas h nid sz bytes s m news)) ∧
  (∀ {p : Prop}, @Eq Prop (@jfs (@some ABlk (ABlk.defd true)) (Hold.mk p)) p) ∧
  (∀ {res : List ARes} {Post : AV → Heap → Prop} {t : Nat → AV} {h : Heap}, @Eq Prop (retO res Post Out.ret (St.mk t h (@List.nil Nat))) (jfL.match_1 (fun x => Prop) (resA t h res) (fun vs => Post (retA vs) h) fun _ => False)) ∧
  (∀ {res : List ARes} {Post : AV → Heap → Prop} {t : Nat → AV} {h : Heap}, @Eq Prop (retO res Post Out.normal (St.mk t h (@List.nil Nat))) (jfL.match_1 (fun x => Prop) (resA t h res) (fun vs => Post (retA vs) h) fun _ => False)) ∧
  (∀ {acc : Acc} {op : AOp} {ev : AOpd → AV} {n : Nat}, @Eq Prop (chkP acc (@List.nil Nat) op ev n) True) ∧
  (∀ {ck : List Nat} {op : AOp} {ev : AOpd → AV} {n : Nat}, @Eq Prop (chkP (@List.nil (Prod Nat (Prod (List Nat) (List Nat)))) ck op ev n) True) ∧
  (∀ {k : Nat} {f w : List Nat} {acc : List (Prod Nat (Prod (List Nat) (List Nat)))} {ck : List Nat} {op : AOp} {ev : AOpd → AV} {n : Nat}, @Eq Bool (@List.contains Nat (@instBEqOfDecidableEq Nat instDecidableEqNat) ck k) false → @Eq Prop (chkP (@List.cons (Prod Nat (Prod (List Nat) (List Nat))) (@Prod.mk Nat (Prod (List Nat) (List Nat)) k (@Prod.mk (List Nat) (List Nat) f w)) acc) ck op ev n) (chkP acc ck op ev n)) ∧
  (∀ {k : Nat} {f w : List Nat} {acc : List (Prod Nat (Prod (List Nat) (List Nat)))} {ck : List Nat} {op : AOp} {ev : AOpd → AV} {n : Nat}, @Eq Bool (@List.contains Nat (@instBEqOfDecidableEq Nat instDecidableEqNat) ck k) true → @Eq Prop (chkP (@List.cons (Prod Nat (Prod (List Nat) (List Nat))) (@Prod.mk Nat (Prod (List Nat) (List Nat)) k (@Prod.mk (List Nat) (List Nat) f w)) acc) ck op ev n) (And (And (jcj f (wrA op ev n)) (jcj w (footA op ev n))) (chkP acc ck op ev n))) ∧
  (∀ {acc : Acc} {h h' : Heap}, @Eq Prop (chkS acc (@List.nil Nat) h h') True) ∧
  (∀ {ck : List Nat} {h h' : Heap}, @Eq Prop (chkS (@List.nil (Prod Nat (Prod (List Nat) (List Nat)))) ck h h') True) ∧
  (∀ {k : Nat} {f w : List Nat} {acc : List (Prod Nat (Prod (List Nat) (List Nat)))} {ck : List Nat} {h h' : Heap}, @Eq Bool (@List.contains Nat (@instBEqOfDecidableEq Nat instDecidableEqNat) ck k) false → @Eq Prop (chkS (@List.cons (Prod Nat (Prod (List Nat) (List Nat))) (@Prod.mk Nat (Prod (List Nat) (List Nat)) k (@Prod.mk (List Nat) (List Nat) f w)) acc) ck h h') (chkS acc ck h h')) ∧
  (∀ {k : Nat} {f w : List Nat} {acc : List (Prod Nat (Prod (List Nat) (List Nat)))} {ck : List Nat} {h h' : Heap}, @Eq Bool (@List.contains Nat (@instBEqOfDecidableEq Nat instDecidableEqNat) ck k) true → @Eq Prop (chkS (@List.cons (Prod Nat (Prod (List Nat) (List Nat))) (@Prod.mk Nat (Prod (List Nat) (List Nat)) k (@Prod.mk (List Nat) (List Nat) f w)) acc) ck h h') (And (∀ (i : Nat), @Membership.mem Nat (List Nat) (@List.instMembership Nat) f i → @Eq (Option ABlk) (Heap.get h' i) (Heap.get h i)) (chkS acc ck h h'))) ∧
  (∀ {ys : List Nat}, @Eq Prop (jcj (@List.nil Nat) ys) True) ∧
  (∀ {xs : List Nat}, @Eq Prop (jcj xs (@List.nil Nat)) True) ∧
  (∀ {x : Nat} {xs ys : List Nat}, Not (@Membership.mem Nat (List Nat) (@List.instMembership Nat) ys x) → @Eq Prop (jcj (@List.cons Nat x xs) ys) (jcj xs ys)) ∧
  (∀ {i o : Nat}, @Eq (List Nat) (AV.ids (AV.ptr i o)) (@List.cons Nat i (@List.nil Nat))) ∧
  (∀ {i o n : Nat} {c : Cap}, @Eq (List Nat) (AV.ids (AV.slice i o n c)) (@List.cons Nat i (@List.nil Nat))) ∧
  (@Eq (List Nat) (AV.ids AV.nilslice) (@List.nil Nat)) ∧
  (∀ {k : IntKind} {n : Int}, @Eq (List Nat) (AV.ids (AV.int k n)) (@List.nil Nat)) ∧
  (∀ {b : Bool}, @Eq (List Nat) (AV.ids (AV.bool b)) (@List.nil Nat)) ∧
  (∀ {vs : List AV}, @Eq (List Nat) (AV.ids (AV.agg vs)) (@List.nil Nat)) ∧
  (∀ {i o n c : Nat}, @Eq (List Nat) (AV.rids (AV.slice i o n (Cap.known c))) (@List.nil Nat)) ∧
  (∀ {i o n l : Nat}, @Eq (List Nat) (AV.rids (AV.slice i o n (Cap.unk l))) (@List.cons Nat i (@List.nil Nat))) ∧
  (@Eq (List Nat) (AV.rids AV.nilslice) (@List.nil Nat)) ∧
  (∀ {op : AOp} {ev : AOpd → AV} {n : Nat}, @Eq Bool (AOp.blind op) true → @Eq (List Nat) (footA op ev n) (@List.nil Nat)) ∧
  (∀ {op : AOp} {ev : AOpd → AV} {n : Nat}, @Eq Bool (AOp.blind op) true → @Eq (List Nat) (wrA op ev n) (@List.nil Nat)) ∧
  (∀ {agg : Bool} {m : Nat} {x : AOpd} {ev : AOpd → AV} {n : Nat}, @Eq (List Nat) (footA (AOp.load agg m x) ev n) (AV.ids (ev x))) ∧
  (∀ {agg : Bool} {m : Nat} {x : AOpd} {ev : AOpd → AV} {n : Nat}, @Eq (List Nat) (wrA (AOp.load agg m x) ev n) (@List.nil Nat)) ∧
  (∀ {m : Nat} {x v : AOpd} {ev : AOpd → AV} {n : Nat}, @Eq (List Nat) (footA (AOp.store m x v) ev n) (AV.ids (ev x))) ∧
  (∀ {m : Nat} {x v : AOpd} {ev : AOpd → AV} {n : Nat}, @Eq (List Nat) (wrA (AOp.store m x v) ev n) (AV.ids (ev x))) ∧
  (∀ {sz : Nat} {x : AOpd} {lo hi mx : Option AOpd} {ev : AOpd → AV} {n : Nat}, @Eq (List Nat) (footA (AOp.slice sz x lo hi mx) ev n) (AV.rids (ev x))) ∧
  (∀ {sz : Nat} {x : AOpd} {lo hi mx : Option AOpd} {ev : AOpd → AV} {n : Nat}, @Eq (List Nat) (wrA (AOp.slice sz x lo hi mx) ev n) (@List.nil Nat)) ∧
  (∀ {sz b : Nat} {s x : AOpd} {ev : AOpd → AV} {n : Nat}, @Eq (List Nat) (footA (AOp.append sz b s x) ev n) (@HAppend.hAppend (List Nat) (List Nat) (List Nat) (@instHAppendOfAppend (List Nat) (@List.instAppend Nat)) (@HAppend.hAppend (List Nat) (List Nat) (List Nat) (@instHAppendOfAppend (List Nat) (@List.instAppend Nat)) (AV.ids (ev s)) (AV.ids (ev x))) (@List.cons Nat n (@List.nil Nat)))) ∧
  (∀ {sz b : Nat} {s x : AOpd} {ev : AOpd → AV} {n : Nat}, @Eq (List Nat) (wrA (AOp.append sz b s x) ev n) (@HAppend.hAppend (List Nat) (List Nat) (List Nat) (@instHAppendOfAppend (List Nat) (@List.instAppend Nat)) (AV.ids (ev s)) (@List.cons Nat n (@List.nil Nat)))) ∧
  (∀ {z : List AV} {ev : AOpd → AV} {n : Nat}, @Eq (List Nat) (footA (AOp.alloc z) ev n) (@List.cons Nat n (@List.nil Nat))) ∧
  (∀ {z : List AV} {ev : AOpd → AV} {n : Nat}, @Eq (List Nat) (wrA (AOp.alloc z) ev n) (@List.cons Nat n (@List.nil Nat))) ∧
  (∀ {x : AOpd} {ev : AOpd → AV} {n : Nat}, @Eq (List Nat) (footA (AOp.box x) ev n) (@List.cons Nat n (@List.nil Nat))) ∧
  (∀ {x : AOpd} {ev : AOpd → AV} {n : Nat}, @Eq (List Nat) (wrA (AOp.box x) ev n) (@List.cons Nat n (@List.nil Nat))) ∧
  (∀ {m : Nat} {z : List AV} {ps : List (Prod Nat (Prod Nat AOpd))} {ev : AOpd → AV} {n : Nat}, @Eq (List Nat) (footA (AOp.buildSlice m z ps) ev n) (@List.cons Nat n (@List.nil Nat))) ∧
  (∀ {m : Nat} {z : List AV} {ps : List (Prod Nat (Prod Nat AOpd))} {ev : AOpd → AV} {n : Nat}, @Eq (List Nat) (wrA (AOp.buildSlice m z ps) ev n) (@List.cons Nat n (@List.nil Nat))) ∧
  (∀ {z : List AV} {b : Nat} {l c : AOpd} {ev : AOpd → AV} {n : Nat}, @Eq (List Nat) (footA (AOp.makeSlice z b l c) ev n) (@List.cons Nat n (@List.nil Nat))) ∧
  (∀ {z : List AV} {b : Nat} {l c : AOpd} {ev : AOpd → AV} {n : Nat}, @Eq (List Nat) (wrA (AOp.makeSlice z b l c) ev n) (@List.cons Nat n (@List.nil Nat))) ∧
  (∀ {sz : Nat} {d s : AOpd} {ev : AOpd → AV} {n : Nat}, @Eq (List Nat) (footA (AOp.copy sz d s) ev n) (@HAppend.hAppend (List Nat) (List Nat) (List Nat) (@instHAppendOfAppend (List Nat) (@List.instAppend Nat)) (AV.ids (ev d)) (AV.ids (ev s)))) ∧
  (∀ {sz : Nat} {d s : AOpd} {ev : AOpd → AV} {n : Nat}, @Eq (List Nat) (wrA (AOp.copy sz d s) ev n) (AV.ids (ev d))) ∧
  (∀ (p : Prop), @Eq Prop (False → p) True) ∧
  (∀ (p : Prop), @Eq Prop (And True p) p) ∧
  (∀ (p : Prop), @Eq Prop (And p True) p) ∧
  (∀ {t : Nat → AV} {h : Heap}, @Eq (Option (List AV)) (resA t h (@List.nil ARes)) (@some (List AV) (@List.nil AV))) ∧
  (∀ {t : Nat → AV} {h : Heap} {s : Nat} {rs : List ARes}, @Eq (Option (List AV)) (resA t h (@List.cons ARes (ARes.tmp s) rs)) (jfL.match_1 (fun x => Option (List AV)) (resA t h rs) (fun vs => @some (List AV) (@List.cons AV (t s) vs)) fun _ => @none (List AV))) ∧
  (∀ {t : Nat → AV} {h : Heap} {s : Nat} {agg : Bool} {n : Nat} {rs : List ARes}, @Eq (Option (List AV)) (resA t h (@List.cons ARes (ARes.cell s agg n) rs)) (jiZ.match_1 (fun x x_1 => Option (List AV)) (loadA h agg n (t s)) (resA t h rs) (fun v vs => @some (List AV) (@List.cons AV v vs)) fun x x_1 => @none (List AV))) ∧
  (@Eq AV (retA (@List.nil AV)) (AV.tuple (@List.nil AV))) ∧
  (∀ {v : AV}, @Eq AV (retA (@List.cons AV v (@List.nil AV))) v) ∧
  (∀ {u v : AV}, @Eq AV (retA (@List.cons AV u (@List.cons AV v (@List.nil AV)))) (AV.tuple (@List.cons AV u (@List.cons AV v (@List.nil AV))))) ∧
  (∀ {u v x : AV}, @Eq AV (retA (@List.cons AV u (@List.cons AV v (@List.cons AV x (@List.nil AV))))) (AV.tuple (@List.cons AV u (@List.cons AV v (@List.cons AV x (@List.nil AV)))))) ∧
  (∀ {u v x y : AV}, @Eq AV (retA (@List.cons AV u (@List.cons AV v (@List.cons AV x (@List.cons AV y (@List.nil AV)))))) (AV.tuple (@List.cons AV u (@List.cons AV v (@List.cons AV x (@List.cons AV y (@List.nil AV))))))) ∧
  (∀ {t : Nat → AV} {s : Nat}, @Eq AV (AOpd.ev t (AOpd.tmp s)) (t s)) ∧
  (∀ {t : Nat → AV} {v : AV}, @Eq AV (AOpd.ev t (AOpd.const v)) v) ∧
  (∀ {t : Nat → AV}, @Eq (List AV) (@List.map AOpd AV (AOpd.ev t) (@List.nil AOpd)) (@List.nil AV)) ∧
  (∀ {t : Nat → AV} {x : AOpd} {xs : List AOpd}, @Eq (List AV) (@List.map AOpd AV (AOpd.ev t) (@List.cons AOpd x xs)) (@List.cons AV (AOpd.ev t x) (@List.map AOpd AV (AOpd.ev t) xs))) ∧
  (∀ {t : Nat → AV} {s : Nat} {v : AV}, @Eq AV (upd t s v s) v) ∧
  (∀ {t : Nat → AV} {s : Nat} {v : AV} {i : Nat}, @Eq Bool (@BEq.beq Nat (@instBEqOfDecidableEq Nat instDecidableEqNat) i s) false → @Eq AV (upd t s v i) (t i)) ∧
  (∀ {args : List AV} {s : Nat}, @Eq AV (argT args s) (@List.getD AV args s AV.undef)) ∧
  (∀ {p q : Prop}, @Eq Prop (@condV (AV.bool true) (Hold.mk p) (Hold.mk q)) p) ∧
  (∀ {p q : Prop}, @Eq Prop (@condV (AV.bool false) (Hold.mk p) (Hold.mk q)) q) ∧
  (∀ {c : Prop} [inst : Decidable c] {p q : Prop}, @Eq Prop (@condV (AV.bool (@decide c inst)) (Hold.mk p) (Hold.mk q)) (@Br c (Hold.mk p) (Hold.mk q))) ∧
  (∀ {b : Bool} {p q : Prop}, @Eq Prop (@condV (AV.bool b) (Hold.mk p) (Hold.mk q)) (@Br (@Eq Bool b true) (Hold.mk p) (Hold.mk q))) ∧
  (∀ {b : Bool} {p q : Prop}, @Eq Prop (@Br (@Eq Bool (not b) true) (Hold.mk p) (Hold.mk q)) (@Br (@Eq Bool b true) (Hold.mk q) (Hold.mk p))) ∧
  (∀ {c p q : Prop}, c → @Eq Prop (@Br c (Hold.mk p) (Hold.mk q)) p) ∧
  (∀ {c p q : Prop}, Not c → @Eq Prop (@Br c (Hold.mk p) (Hold.mk q)) q) ∧
  (∀ {p q : Prop}, @Eq Prop (@gV (AV.bool true) true (Hold.mk p) (Hold.mk q)) p) ∧
  (∀ {p q : Prop}, @Eq Prop (@gV (AV.bool true) false (Hold.mk p) (Hold.mk q)) q) ∧
  (∀ {p q : Prop}, @Eq Prop (@gV (AV.bool false) true (Hold.mk p) (Hold.mk q)) q) ∧
  (∀ {p q : Prop}, @Eq Prop (@gV (AV.bool false) false (Hold.mk p) (Hold.mk q)) p) ∧
  (∀ {c : Prop} [inst : Decidable c] {p q : Prop}, @Eq Prop (@gV (AV.bool (@decide c inst)) true (Hold.mk p) (Hold.mk q)) (@Br c (Hold.mk p) (Hold.mk q))) ∧
  (∀ {c : Prop} [inst : Decidable c] {p q : Prop}, @Eq Prop (@gV (AV.bool (@decide c inst)) false (Hold.mk p) (Hold.mk q)) (@Br c (Hold.mk q) (Hold.mk p))) ∧
  (∀ {b : Bool} {p q : Prop}, @Eq Prop (@gV (AV.bool b) true (Hold.mk p) (Hold.mk q)) (@Br (@Eq Bool b true) (Hold.mk p) (Hold.mk q))) ∧
  (∀ {b : Bool} {p q : Prop}, @Eq Prop (@gV (AV.bool b) false (Hold.mk p) (Hold.mk q)) (@Br (@Eq Bool b true) (Hold.mk q) (Hold.mk p))) ∧
  (∀ {C : Ctx} {g : Nat} {args : List AV} {h : Heap} {K : AV → Heap → Prop}, @Eq Prop (@Call C (AV.func g (@List.nil AV) (@List.nil AV)) args h (HoldR.mk K)) (@jaa C g args h (HoldR.mk K))) ∧
  (∀ {C : Ctx} {g : Nat} {f c args : List AV} {h : Heap} {K : AV → Heap → Prop}, @Eq Prop (@Call C (AV.func g f c) args h (HoldR.mk K)) (@jaa C g (@HAppend.hAppend (List AV) (List AV) (List AV) (@instHAppendOfAppend (List AV) (@List.instAppend AV)) (@HAppend.hAppend (List AV) (List AV) (List AV) (@instHAppendOfAppend (List AV) (@List.instAppend AV)) f args) c) h (HoldR.mk K))) ∧
  (∀ {C : Ctx} {l : Nat} {args : List AV} {h : Heap} {K : AV → Heap → Prop}, @Eq Prop (@Call C (AV.yield l) args h (HoldR.mk K)) (@jfa C l args h (HoldR.mk K))) ∧
  (∀ {v : AV} {h : Heap} {K : AV → Heap → Prop}, @Eq Prop (@opt1 (@some AV v) h (HoldR.mk K)) (K v h)) ∧
  (∀ {v : AV} {h : Heap} {K : AV → Heap → Prop}, @Eq Prop (@opt2 (@some (Prod AV Heap) (@Prod.mk AV Heap v h)) (HoldR.mk K)) (K v h)) ∧
  (∀ {nid : Option Nat} {ev : AOpd → AV} {h : Heap} {K : AV → Heap → Prop} {x : AOpd}, @Eq Prop (@opR nid (AOp.mv x) ev h (HoldR.mk K)) (K (ev x) h)) ∧
  (∀ {nid : Option Nat} {ev : AOpd → AV} {h : Heap} {K : AV → Heap → Prop} {c a b : AOpd}, @Eq Prop (@opR nid (AOp.pick c a b) ev h (HoldR.mk K)) (@opt1 (pickA (ev a) (ev b) (ev c)) h (HoldR.mk K))) ∧
  (∀ {nid : Option Nat} {ev : AOpd → AV} {h : Heap} {K : AV → Heap → Prop} {z : List AV} {parts : List (Prod Nat (Prod Nat AOpd))}, @Eq Prop (@opR nid (AOp.build z parts) ev h (HoldR.mk K)) (@opt1 (@Option.map (List AV) AV AV.agg (fillA z (@List.map (Prod Nat (Prod Nat AOpd)) (Prod Nat (Prod Nat AV)) (fun p => @Prod.mk Nat (Prod Nat AV) (@Prod.fst Nat (Prod Nat AOpd) p) (@Prod.mk Nat AV (@Prod.fst Nat AOpd (@Prod.snd Nat (Prod Nat AOpd) p)) (ev (@Prod.snd Nat AOpd (@Prod.snd Nat (Prod Nat AOpd) p))))) parts))) h (HoldR.mk K))) ∧
  (∀ {nid : Option Nat} {ev : AOpd → AV} {h : Heap} {K : AV → Heap → Prop} {agg : Bool} {n : Nat} {x : AOpd}, @Eq Prop (@opR nid (AOp.load agg n x) ev h (HoldR.mk K)) (@opt1 (loadA h agg n (ev x)) h (HoldR.mk K))) ∧
  (∀ {nid : Option Nat} {ev : AOpd → AV} {h : Heap} {K : AV → Heap → Prop} {x : AOpd}, @Eq Prop (@opR nid (AOp.nilCheck x) ev h (HoldR.mk K)) (@opt1 (notNilA (ev x)) h (HoldR.mk K))) ∧
  (∀ {nid : Option Nat} {ev : AOpd → AV} {h : Heap} {K : AV → Heap → Prop} {op : BinOp} {x y : AOpd}, @Eq Prop (@opR nid (AOp.bin op x y) ev h (HoldR.mk K)) (@opt1 (binA op (ev x) (ev y)) h (HoldR.mk K))) ∧
  (∀ {nid : Option Nat} {ev : AOpd → AV} {h : Heap} {K : AV → Heap → Prop} {neg : Bool} {x y : AOpd}, @Eq Prop (@opR nid (AOp.eqb neg x y) ev h (HoldR.mk K)) (@opt1 (eqbA neg (ev x) (ev y)) h (HoldR.mk K))) ∧
  (∀ {nid : Option Nat} {ev : AOpd → AV} {h : Heap} {K : AV → Heap → Prop} {neg : Bool} {x : AOpd}, @Eq Prop (@opR nid (AOp.eqn neg x) ev h (HoldR.mk K)) (@opt1 (eqnA neg (ev x)) h (HoldR.mk K))) ∧
  (∀ {nid : Option Nat} {ev : AOpd → AV} {h : Heap} {K : AV → Heap → Prop} {neg : Bool} {ls : List (Prod Nat Bool)} {x y : AOpd}, @Eq Prop (@opR nid (AOp.eqs neg ls x y) ev h (HoldR.mk K)) (@opt1 (eqsA neg ls (ev x) (ev y)) h (HoldR.mk K))) ∧
  (∀ {nid : Option Nat} {ev : AOpd → AV} {h : Heap} {K : AV → Heap → Prop} {op : UnOp} {x : AOpd}, @Eq Prop (@opR nid (AOp.un op x) ev h (HoldR.mk K)) (@opt1 (unA op (ev x)) h (HoldR.mk K))) ∧
  (∀ {nid : Option Nat} {ev : AOpd → AV} {h : Heap} {K : AV → Heap → Prop} {k : IntKind} {x : AOpd}, @Eq Prop (@opR nid (AOp.conv k x) ev h (HoldR.mk K)) (@opt1 (convA k (ev x)) h (HoldR.mk K))) ∧
  (∀ {nid : Option Nat} {ev : AOpd → AV} {h : Heap} {K : AV → Heap → Prop} {g : Nat} {a c : List AOpd}, @Eq Prop (@opR nid (AOp.mkfunc g a c) ev h (HoldR.mk K)) (K (AV.func g (@List.map AOpd AV ev a) (@List.map AOpd AV ev c)) h)) ∧
  (∀ {nid : Option Nat} {ev : AOpd → AV} {h : Heap} {K : AV → Heap → Prop} {sz : Nat} {x : AOpd} {lo hi mx : Option AOpd}, @Eq Prop (@opR nid (AOp.slice sz x lo hi mx) ev h (HoldR.mk K)) (@opt1 (jaX h sz (ev x) (@Option.map AOpd AV ev lo) (@Option.map AOpd AV ev hi) (@Option.map AOpd AV ev mx)) h (HoldR.mk K))) ∧
  (∀ {nid : Option Nat} {ev : AOpd → AV} {h : Heap} {K : AV → Heap → Prop} {off : Nat} {x : AOpd}, @Eq Prop (@opR nid (AOp.fieldAddr off x) ev h (HoldR.mk K)) (@opt1 (jbF off (ev x)) h (HoldR.mk K))) ∧
  (∀ {nid : Option Nat} {ev : AOpd → AV} {h : Heap} {K : AV → Heap → Prop} {agg : Bool} {off n : Nat} {x : AOpd}, @Eq Prop (@opR nid (AOp.field agg off n x) ev h (HoldR.mk K)) (@opt1 (ji0 agg off n (ev x)) h (HoldR.mk K))) ∧
  (∀ {nid : Option Nat} {ev : AOpd → AV} {h : Heap} {K : AV → Heap → Prop} {sz : Nat} {x i : AOpd}, @Eq Prop (@opR nid (AOp.indexAddr sz x i) ev h (HoldR.mk K)) (@opt1 (idxA sz (ev x) (ev i)) h (HoldR.mk K))) ∧
  (∀ {nid : Option Nat} {ev : AOpd → AV} {h : Heap} {K : AV → Heap → Prop} {sz len : Nat} {x i : AOpd}, @Eq Prop (@opR nid (AOp.indexArr sz len x i) ev h (HoldR.mk K)) (@opt1 (jfb sz len (ev x) (ev i)) h (HoldR.mk K))) ∧
  (∀ {nid : Option Nat} {ev : AOpd → AV} {h : Heap} {K : AV → Heap → Prop} {agg : Bool} {sz len : Nat} {x i : AOpd}, @Eq Prop (@opR nid (AOp.index agg sz len x i) ev h (HoldR.mk K)) (@opt1 (jgj agg sz len (ev x) (ev i)) h (HoldR.mk K))) ∧
  (∀ {nid : Option Nat} {ev : AOpd → AV} {h : Heap} {K : AV → Heap → Prop} {x : AOpd} {i : Nat}, @Eq Prop (@opR nid (AOp.extract x i) ev h (HoldR.mk K)) (@opt1 (extA i (ev x)) h (HoldR.mk K))) ∧
  (∀ {nid : Option Nat} {ev : AOpd → AV} {h : Heap} {K : AV → Heap → Prop} {x : AOpd}, @Eq Prop (@opR nid (AOp.len x) ev h (HoldR.mk K)) (@opt1 (lenA (ev x)) h (HoldR.mk K))) ∧
  (∀ {nid : Option Nat} {ev : AOpd → AV} {h : Heap} {K : AV → Heap → Prop} {x : AOpd}, @Eq Prop (@opR nid (AOp.cap x) ev h (HoldR.mk K)) (@opt1 (capA (ev x)) h (HoldR.mk K))) ∧
  (∀ {nid : Option Nat} {ev : AOpd → AV} {h : Heap} {K : AV → Heap → Prop} {xs : List AOpd}, @Eq Prop (@opR nid (AOp.max xs) ev h (HoldR.mk K)) (@opt1 (maxA (@List.map AOpd AV ev xs)) h (HoldR.mk K))) ∧
  (∀ {nid : Option Nat} {ev : AOpd → AV} {h : Heap} {K : AV → Heap → Prop} {xs : List AOpd}, @Eq Prop (@opR nid (AOp.min xs) ev h (HoldR.mk K)) (@opt1 (minA (@List.map AOpd AV ev xs)) h (HoldR.mk K))) ∧
  (∀ {nid : Option Nat} {ev : AOpd → AV} {h : Heap} {K : AV → Heap → Prop} {z : List AV}, @Eq Prop (@opR nid (AOp.alloc z) ev h (HoldR.mk K)) (@opt2 (jdK nid z h) (HoldR.mk K))) ∧
  (∀ {nid : Option Nat} {ev : AOpd → AV} {h : Heap} {K : AV → Heap → Prop} {x : AOpd}, @Eq Prop (@opR nid (AOp.box x) ev h (HoldR.mk K)) (@opt2 (jdK nid (AV.cells (ev x)) h) (HoldR.mk K))) ∧
  (∀ {nid : Option Nat} {ev : AOpd → AV} {h : Heap} {K : AV → Heap → Prop} {n : Nat} {z : List AV} {parts : List (Prod Nat (Prod Nat AOpd))}, @Eq Prop (@opR nid (AOp.buildSlice n z parts) ev h (HoldR.mk K)) (@opt2 (jbz nid n (fillA z (@List.map (Prod Nat (Prod Nat AOpd)) (Prod Nat (Prod Nat AV)) (fun p => @Prod.mk Nat (Prod Nat AV) (@Prod.fst Nat (Prod Nat AOpd) p) (@Prod.mk Nat AV (@Prod.fst Nat AOpd (@Prod.snd Nat (Prod Nat AOpd) p)) (ev (@Prod.snd Nat AOpd (@Prod.snd Nat (Prod Nat AOpd) p))))) parts)) h) (HoldR.mk K))) ∧
  (∀ {nid : Option Nat} {ev : AOpd → AV} {h : Heap} {K : AV → Heap → Prop} {n : Nat} {x v : AOpd}, @Eq Prop (@opR nid (AOp.store n x v) ev h (HoldR.mk K)) (@opt2 (storeOA (jcH h n (ev x) (ev v))) (HoldR.mk K))) ∧
  (∀ {nid : Option Nat} {ev : AOpd → AV} {h : Heap} {K : AV → Heap → Prop} {z : List AV} {bytes : Nat} {l c : AOpd}, @Eq Prop (@opR nid (AOp.makeSlice z bytes l c) ev h (HoldR.mk K)) (@opt2 (makeA nid z bytes h (ev l) (ev c)) (HoldR.mk K))) ∧
  (∀ {nid : Option Nat} {ev : AOpd → AV} {h : Heap} {K : AV → Heap → Prop} {sz bytes : Nat} {s x : AOpd}, @Eq Prop (@opR nid (AOp.append sz bytes s x) ev h (HoldR.mk K)) (@opt2 (appA nid sz bytes h (ev s) (jan h sz (ev x))) (HoldR.mk K))) ∧
  (∀ {nid : Option Nat} {ev : AOpd → AV} {h : Heap} {K : AV → Heap → Prop} {sz : Nat} {d s : AOpd}, @Eq Prop (@opR nid (AOp.copy sz d s) ev h (HoldR.mk K)) (@opt2 (copyA h sz (ev d) (ev s)) (HoldR.mk K))) ∧
  (∀ {k : IntKind} {a b : Int}, @Eq (Option AV) (binA BinOp.add (AV.int k a) (AV.int k b)) (@some AV (AV.int k (IntKind.wrap k (@HAdd.hAdd Int Int Int (@instHAdd Int Int.instAdd) a b))))) ∧
  (∀ {k : IntKind} {a b : Int}, @Eq (Option AV) (binA BinOp.sub (AV.int k a) (AV.int k b)) (@some AV (AV.int k (IntKind.wrap k (@HSub.hSub Int Int Int (@instHSub Int Int.instSub) a b))))) ∧
  (∀ {k : IntKind} {a b : Int}, @Eq (Option AV) (binA BinOp.mul (AV.int k a) (AV.int k b)) (@some AV (AV.int k (IntKind.wrap k (@HMul.hMul Int Int Int (@instHMul Int Int.instMul) a b))))) ∧
  (∀ {k : IntKind} {a b : Int}, @Ne Int b (@OfNat.ofNat Int (nat_lit 0) (@instOfNat (nat_lit 0))) → @Eq (Option AV) (binA BinOp.quo (AV.int k a) (AV.int k b)) (@some AV (AV.int k (IntKind.wrap k (Int.tdiv a b))))) ∧
  (∀ {k : IntKind} {a b : Int}, @Ne Int b (@OfNat.ofNat Int (nat_lit 0) (@instOfNat (nat_lit 0))) → @Eq (Option AV) (binA BinOp.rem (AV.int k a) (AV.int k b)) (@some AV (AV.int k (Int.tmod a b)))) ∧
  (∀ {k : IntKind} {a b : Int}, @Eq (Option AV) (binA BinOp.and (AV.int k a) (AV.int k b)) (@some AV (AV.int k (bitsA BinOp.and k a b)))) ∧
  (∀ {k : IntKind} {a b : Int}, @Eq (Option AV) (binA BinOp.or (AV.int k a) (AV.int k b)) (@some AV (AV.int k (bitsA BinOp.or k a b)))) ∧
  (∀ {k : IntKind} {a b : Int}, @Eq (Option AV) (binA BinOp.xor (AV.int k a) (AV.int k b)) (@some AV (AV.int k (bitsA BinOp.xor k a b)))) ∧
  (∀ {k : IntKind} {a b : Int}, @Eq (Option AV) (binA BinOp.andNot (AV.int k a) (AV.int k b)) (@some AV (AV.int k (bitsA BinOp.andNot k a b)))) ∧
  (∀ {k : IntKind} {a b : Int}, @Eq (Option AV) (binA BinOp.eql (AV.int k a) (AV.int k b)) (@some AV (AV.bool (@decide (@Eq Int a b) (Int.instDecidableEq a b))))) ∧
  (∀ {k : IntKind} {a b : Int}, @Eq (Option AV) (binA BinOp.neq (AV.int k a) (AV.int k b)) (@some AV (AV.bool (@decide (@Ne Int a b) (@instDecidableNot (@Eq Int a b) (Int.instDecidableEq a b)))))) ∧
  (∀ {k : IntKind} {a b : Int}, @Eq (Option AV) (binA BinOp.lss (AV.int k a) (AV.int k b)) (@some AV (AV.bool (@decide (@LT.lt Int Int.instLTInt a b) (Int.decLt a b))))) ∧
  (∀ {k : IntKind} {a b : Int}, @Eq (Option AV) (binA BinOp.leq (AV.int k a) (AV.int k b)) (@some AV (AV.bool (@decide (@LE.le Int Int.instLEInt a b) (Int.decLe a b))))) ∧
  (∀ {k : IntKind} {a b : Int}, @Eq (Option AV) (binA BinOp.gtr (AV.int k a) (AV.int k b)) (@some AV (AV.bool (@decide (@LT.lt Int Int.instLTInt b a) (Int.decLt b a))))) ∧
  (∀ {k : IntKind} {a b : Int}, @Eq (Option AV) (binA BinOp.geq (AV.int k a) (AV.int k b)) (@some AV (AV.bool (@decide (@LE.le Int Int.instLEInt b a) (Int.decLe b a))))) ∧
  (∀ {k k' : IntKind} {a b : Int}, @LE.le Int Int.instLEInt (@OfNat.ofNat Int (nat_lit 0) (@instOfNat (nat_lit 0))) b → @Eq (Option AV) (binA BinOp.shl (AV.int k a) (AV.int k' b)) (@some AV (AV.int k (IntKind.wrap k (@HMul.hMul Int Int Int (@instHMul Int Int.instMul) a (@HPow.hPow Int Nat Int (@instHPow Int Nat (@instPowNat Int Int.instNatPow)) (@OfNat.ofNat Int (nat_lit 2) (@instOfNat (nat_lit 2))) (@min Nat instMinNat (Int.toNat b) (IntKind.bits k)))))))) ∧
  (∀ {k k' : IntKind} {a b : Int}, @LE.le Int Int.instLEInt (@OfNat.ofNat Int (nat_lit 0) (@instOfNat (nat_lit 0))) b → @Eq (Option AV) (binA BinOp.shr (AV.int k a) (AV.int k' b)) (@some AV (AV.int k (Int.fdiv a (@HPow.hPow Int Nat Int (@instHPow Int Nat (@instPowNat Int Int.instNatPow)) (@OfNat.ofNat Int (nat_lit 2) (@instOfNat (nat_lit 2))) (@min Nat instMinNat (Int.toNat b) (IntKind.bits k))))))) ∧
  (∀ {a : Int}, And (@LE.le Int Int.instLEInt (@OfNat.ofNat Int (nat_lit 0) (@instOfNat (nat_lit 0))) a) (@LE.le Int Int.instLEInt a (@OfNat.ofNat Int (nat_lit 9223372036854775807) (@instOfNat (nat_lit 9223372036854775807)))) → @Eq Int (bitsA BinOp.and IntKind.i64 a (@OfNat.ofNat Int (nat_lit 1) (@instOfNat (nat_lit 1)))) (@HMod.hMod Int Int Int (@instHMod Int Int.instMod) a (@OfNat.ofNat Int (nat_lit 2) (@instOfNat (nat_lit 2))))) ∧
  (∀ {k : IntKind} {a : Int}, @Eq (Option AV) (unA UnOp.neg (AV.int k a)) (@some AV (AV.int k (IntKind.wrap k (@HSub.hSub Int Int Int (@instHSub Int Int.instSub) (@OfNat.ofNat Int (nat_lit 0) (@instOfNat (nat_lit 0))) a))))) ∧
  (∀ {b : Bool}, @Eq (Option AV) (unA UnOp.not (AV.bool b)) (@some AV (AV.bool (not b)))) ∧
  (∀ {k : IntKind} {a : Int}, @Eq (Option AV) (unA UnOp.xor (AV.int k a)) (@some AV (AV.int k (bitsA BinOp.xor k (@ite Int (@Eq Bool (IntKind.signed k) true) (instDecidableEqBool (IntKind.signed k) true) (@Neg.neg Int Int.instNegInt (@OfNat.ofNat Int (nat_lit 1) (@instOfNat (nat_lit 1)))) (IntKind.max k)) a)))) ∧
  (∀ {k k' : IntKind} {a : Int}, @Eq (Option AV) (convA k (AV.int k' a)) (@some AV (AV.int k (IntKind.wrap k a)))) ∧
  (∀ {a b : Bool}, @Eq (Option AV) (eqbA false (AV.bool a) (AV.bool b)) (@some AV (AV.bool (@BEq.beq Bool (@instBEqOfDecidableEq Bool instDecidableEqBool) a b)))) ∧
  (∀ {a b : Bool}, @Eq (Option AV) (eqbA true (AV.bool a) (AV.bool b)) (@some AV (AV.bool (not (@BEq.beq Bool (@instBEqOfDecidableEq Bool instDecidableEqBool) a b))))) ∧
  (∀ {x y : AV}, @Eq (Option AV) (pickA x y (AV.bool true)) (@some AV x)) ∧
  (∀ {x y : AV}, @Eq (Option AV) (pickA x y (AV.bool false)) (@some AV y)) ∧
  (∀ {x y : AV} {c : Prop} [inst : Decidable c], c → @Eq (Option AV) (pickA x y (AV.bool (@decide c inst))) (@some AV x)) ∧
  (∀ {x y : AV} {c : Prop} [inst : Decidable c], Not c → @Eq (Option AV) (pickA x y (AV.bool (@decide c inst))) (@some AV y)) ∧
  (∀ {x y : AV} {b : Bool}, @Eq Bool b true → @Eq (Option AV) (pickA x y (AV.bool b)) (@some AV x)) ∧
  (∀ {x y : AV} {b : Bool}, Not (@Eq Bool b true) → @Eq (Option AV) (pickA x y (AV.bool b)) (@some AV y)) ∧
  (∀ {vs : List AV} {i : Nat}, @Eq (Option AV) (extA i (AV.tuple vs)) (@getElem? (List AV) Nat AV (fun xs i => @LT.lt Nat instLTNat i (@List.length AV xs)) (@List.instGetElem?NatLtLength AV) vs i)) ∧
  (∀ {k : IntKind} {a b : Int}, @Eq (Option AV) (maxA (@List.cons AV (AV.int k a) (@List.cons AV (AV.int k b) (@List.nil AV)))) (@some AV (AV.int k (@max Int Int.instMax a b)))) ∧
  (∀ {k : IntKind} {a b c : Int}, @Eq (Option AV) (maxA (@List.cons AV (AV.int k a) (@List.cons AV (AV.int k b) (@List.cons AV (AV.int k c) (@List.nil AV))))) (@some AV (AV.int k (@max Int Int.instMax (@max Int Int.instMax a b) c)))) ∧
  (∀ {k : IntKind} {a b : Int}, @Eq (Option AV) (minA (@List.cons AV (AV.int k a) (@List.cons AV (AV.int k b) (@List.nil AV)))) (@some AV (AV.int k (@min Int Int.instMin a b)))) ∧
  (∀ {k : IntKind} {a b c : Int}, @Eq (Option AV) (minA (@List.cons AV (AV.int k a) (@List.cons AV (AV.int k b) (@List.cons AV (AV.int k c) (@List.nil AV))))) (@some AV (AV.int k (@min Int Int.instMin (@min Int Int.instMin a b) c)))) ∧
  (∀ {x : Int}, And (@LE.le Int Int.instLEInt (@Neg.neg Int Int.instNegInt (@OfNat.ofNat Int (nat_lit 9223372036854775808) (@instOfNat (nat_lit 9223372036854775808)))) x) (@LE.le Int Int.instLEInt x (@OfNat.ofNat Int (nat_lit 9223372036854775807) (@instOfNat (nat_lit 9223372036854775807)))) → @Eq Int (IntKind.wrap IntKind.i64 x) x) ∧
  (∀ {x : Int}, And (@LE.le Int Int.instLEInt (@Neg.neg Int Int.instNegInt (@OfNat.ofNat Int (nat_lit 2147483648) (@instOfNat (nat_lit 2147483648)))) x) (@LE.le Int Int.instLEInt x (@OfNat.ofNat Int (nat_lit 2147483647) (@instOfNat (nat_lit 2147483647)))) → @Eq Int (IntKind.wrap IntKind.i32 x) x) ∧
  (∀ {x : Int}, And (@LE.le Int Int.instLEInt (@OfNat.ofNat Int (nat_lit 0) (@instOfNat (nat_lit 0))) x) (@LE.le Int Int.instLEInt x (@OfNat.ofNat Int (nat_lit 255) (@instOfNat (nat_lit 255)))) → @Eq Int (IntKind.wrap IntKind.u8 x) x) ∧
  (∀ {x : Int}, And (@LE.le Int Int.instLEInt (@OfNat.ofNat Int (nat_lit 0) (@instOfNat (nat_lit 0))) x) (@LE.le Int Int.instLEInt x (@OfNat.ofNat Int (nat_lit 4294967295) (@instOfNat (nat_lit 4294967295)))) → @Eq Int (IntKind.wrap IntKind.u32 x) x) ∧
  (∀ {x : Int}, And (@LE.le Int Int.instLEInt (@OfNat.ofNat Int (nat_lit 0) (@instOfNat (nat_lit 0))) x) (@LE.le Int Int.instLEInt x (@OfNat.ofNat Int (nat_lit 18446744073709551615) (@instOfNat (nat_lit 18446744073709551615)))) → @Eq Int (IntKind.wrap IntKind.u64 x) x) ∧
  (∀ {a b : Int}, @LE.le Int Int.instLEInt (@OfNat.ofNat Int (nat_lit 0) (@instOfNat (nat_lit 0))) a → @Eq Int (Int.tdiv a b) (@HDiv.hDiv Int Int Int (@instHDiv Int Int.instDiv) a b)) ∧
  (∀ {a b : Int}, @LE.le Int Int.instLEInt (@OfNat.ofNat Int (nat_lit 0) (@instOfNat (nat_lit 0))) a → @Eq Int (Int.tmod a b) (@HMod.hMod Int Int Int (@instHMod Int Int.instMod) a b)) ∧
  (∀ {a b : Int}, @LE.le Int Int.instLEInt (@OfNat.ofNat Int (nat_lit 0) (@instOfNat (nat_lit 0))) b → @Eq Int (Int.fdiv a b) (@HDiv.hDiv Int Int Int (@instHDiv Int Int.instDiv) a b)) ∧
  (@Eq Nat (IntKind.bits IntKind.i64) (@OfNat.ofNat Nat (nat_lit 64) (instOfNatNat (nat_lit 64)))) ∧
  (@Eq Nat (IntKind.bits IntKind.u64) (@OfNat.ofNat Nat (nat_lit 64) (instOfNatNat (nat_lit 64)))) ∧
  (@Eq Nat (IntKind.bits IntKind.u32) (@OfNat.ofNat Nat (nat_lit 32) (instOfNatNat (nat_lit 32)))) ∧
  (@Eq Nat (IntKind.bits IntKind.i32) (@OfNat.ofNat Nat (nat_lit 32) (instOfNatNat (nat_lit 32)))) ∧
  (@Eq Nat (IntKind.bits IntKind.u8) (@OfNat.ofNat Nat (nat_lit 8) (instOfNatNat (nat_lit 8)))) ∧
  (∀ {b : Int} {n : Nat}, @LE.le Int Int.instLEInt b (@Nat.cast Int instNatCastInt n) → @Eq Nat (@min Nat instMinNat (Int.toNat b) n) (Int.toNat b)) ∧
  (∀ {h : Heap} {b : ABlk} {i : Nat}, @Eq Nat i (Heap.size h) → @Eq (Option ABlk) (Heap.get (Heap.push h b) i) (@some ABlk b)) ∧
  (∀ {h : Heap} {b : ABlk} {i : Nat}, @LT.lt Nat instLTNat i (Heap.size h) → @Eq (Option ABlk) (Heap.get (Heap.push h b) i) (Heap.get h i)) ∧
  (∀ {h : Heap} {b : ABlk} {i j : Nat}, @Eq Nat j i → @LT.lt Nat instLTNat i (Heap.size h) → @Eq (Option ABlk) (Heap.get (Heap.put h i b) j) (@some ABlk b)) ∧
  (∀ {h : Heap} {b : ABlk} {i j : Nat}, @Ne Nat j i → @Eq (Option ABlk) (Heap.get (Heap.put h i b) j) (Heap.get h j)) ∧
  (∀ {h : Heap} {i : Nat} {b b' : ABlk}, @Eq Heap (Heap.put (Heap.put h i b) i b') (Heap.put h i b')) ∧
  (∀ {h : Heap} {i : Nat} {b b' : ABlk}, @Eq Nat i (Heap.size h) → @Eq Heap (Heap.put (Heap.push h b) i b') (Heap.push h b')) ∧
  (∀ {h : Heap} {i : Nat} {b b' : ABlk}, @LT.lt Nat instLTNat i (Heap.size h) → @Eq Heap (Heap.put (Heap.push h b) i b') (Heap.push (Heap.put h i b') b)) ∧
  (∀ (h : Heap) (b : ABlk), @Eq Nat (Heap.size (Heap.push h b)) (@HAdd.hAdd Nat Nat Nat (@instHAdd Nat instAddNat) (Heap.size h) (@OfNat.ofNat Nat (nat_lit 1) (instOfNatNat (nat_lit 1))))) ∧
  (∀ (h : Heap) (i : Nat) (b : ABlk), @Eq Nat (Heap.size (Heap.put h i b)) (Heap.size h)) ∧
  (∀ (h : Heap) (k : Nat), @Eq Nat (Heap.size (Heap.reserve h k)) (@HAdd.hAdd Nat Nat Nat (@instHAdd Nat instAddNat) (Heap.size h) k)) ∧
  (∀ (h : Heap) (k i : Nat), @Eq (Option ABlk) (Heap.get (Heap.reserve h k) i) (Heap.get h i)) ∧
  (∀ {h : Heap} {agg : Bool} {n i o : Nat}, @Eq (Option AV) (loadA h agg n (AV.ptr i o)) (loadB agg n o (Heap.get h i))) ∧
  (∀ {n o : Nat} {vs : List AV} {wr : Bool} {u : Nat}, @Eq (Option AV) (loadB false n o (@some ABlk (ABlk.cells vs wr u))) (@getElem? (List AV) Nat AV (fun xs i => @LT.lt Nat instLTNat i (@List.length AV xs)) (@List.instGetElem?NatLtLength AV) vs o)) ∧
  (∀ {n o : Nat} {vs : List AV} {wr : Bool} {u : Nat}, @LE.le Nat instLENat (@HAdd.hAdd Nat Nat Nat (@instHAdd Nat instAddNat) o n) (@List.length AV vs) → @Eq (Option AV) (loadB true n o (@some ABlk (ABlk.cells vs wr u))) (@some AV (AV.agg (cut vs o n)))) ∧
  (∀ {h : Heap} {n i o : Nat} {v : AV}, @Eq (Option Heap) (jcH h n (AV.ptr i o) v) (jbZ h i n o v (Heap.get h i))) ∧
  (∀ {h : Heap} {i o : Nat} {k : IntKind} {x : Int} {vs : List AV} {u : Nat}, @LT.lt Nat instLTNat o (@List.length AV vs) → @Eq (Option Heap) (jbZ h i (@OfNat.ofNat Nat (nat_lit 1) (instOfNatNat (nat_lit 1))) o (AV.int k x) (@some ABlk (ABlk.cells vs true u))) (@some Heap (Heap.put h i (ABlk.cells (@List.set AV vs o (AV.int k x)) true u)))) ∧
  (∀ {h : Heap} {i o : Nat} {x : Bool} {vs : List AV} {u : Nat}, @LT.lt Nat instLTNat o (@List.length AV vs) → @Eq (Option Heap) (jbZ h i (@OfNat.ofNat Nat (nat_lit 1) (instOfNatNat (nat_lit 1))) o (AV.bool x) (@some ABlk (ABlk.cells vs true u))) (@some Heap (Heap.put h i (ABlk.cells (@List.set AV vs o (AV.bool x)) true u)))) ∧
  (∀ {h : Heap} {i o j p n : Nat} {c : Cap} {vs : List AV} {u : Nat}, @LT.lt Nat instLTNat o (@List.length AV vs) → @Eq (Option Heap) (jbZ h i (@OfNat.ofNat Nat (nat_lit 1) (instOfNatNat (nat_lit 1))) o (AV.slice j p n c) (@some ABlk (ABlk.cells vs true u))) (@some Heap (Heap.put h i (ABlk.cells (@List.set AV vs o (AV.slice j p n c)) true u)))) ∧
  (∀ {h : Heap} {i o : Nat} {vs : List AV} {u : Nat}, @LT.lt Nat instLTNat o (@List.length AV vs) → @Eq (Option Heap) (jbZ h i (@OfNat.ofNat Nat (nat_lit 1) (instOfNatNat (nat_lit 1))) o AV.nilslice (@some ABlk (ABlk.cells vs true u))) (@some Heap (Heap.put h i (ABlk.cells (@List.set AV vs o AV.nilslice) true u)))) ∧
  (∀ {h : Heap} {i o n : Nat} {xs vs : List AV} {u : Nat}, @Eq Nat (@List.length AV xs) n → @LE.le Nat instLENat (@HAdd.hAdd Nat Nat Nat (@instHAdd Nat instAddNat) o n) (@List.length AV vs) → @Eq Bool (@List.all AV xs AV.one) true → @Eq (Option Heap) (jbZ h i n o (AV.agg xs) (@some ABlk (ABlk.cells vs true u))) (@some Heap (Heap.put h i (ABlk.cells (splice vs o xs) true u)))) ∧
  (∀ {h : Heap} {i o : Nat} {v : AV} {vs : List AV} {u : Nat}, @Eq (List AV) (AV.cells v) (@List.cons AV v (@List.nil AV)) → @Eq Bool (AV.one v) true → @LT.lt Nat instLTNat o (@List.length AV vs) → @Eq (Option Heap) (jbZ h i (@OfNat.ofNat Nat (nat_lit 1) (instOfNatNat (nat_lit 1))) o v (@some ABlk (ABlk.cells vs true u))) (@some Heap (Heap.put h i (ABlk.cells (@List.set AV vs o v) true u)))) ∧
  (∀ {vs : List AV} {o : Nat} {c : AV}, @Eq (List AV) (splice vs o (@List.cons AV c (@List.nil AV))) (@List.set AV vs o c)) ∧
  (∀ {vs : List AV} {o : Nat} {x y : AV} {cs : List AV}, @Eq (List AV) (splice vs o (@List.cons AV x (@List.cons AV y cs))) (@HAppend.hAppend (List AV) (List AV) (List AV) (@instHAppendOfAppend (List AV) (@List.instAppend AV)) (@HAppend.hAppend (List AV) (List AV) (List AV) (@instHAppendOfAppend (List AV) (@List.instAppend AV)) (@List.take AV o vs) (@List.cons AV x (@List.cons AV y cs))) (@List.drop AV (@HAdd.hAdd Nat Nat Nat (@instHAdd Nat instAddNat) o (@HAdd.hAdd Nat Nat Nat (@instHAdd Nat instAddNat) (@List.length AV cs) (@OfNat.ofNat Nat (nat_lit 2) (instOfNatNat (nat_lit 2))))) vs))) ∧
  (∀ {vs : List AV} {o : Nat}, @Eq (List AV) (cut vs o (@OfNat.ofNat Nat (nat_lit 0) (instOfNatNat (nat_lit 0)))) (@List.nil AV)) ∧
  (∀ {x : AV} {vs : List AV} {n : Nat}, @Eq (List AV) (cut (@List.cons AV x vs) (@OfNat.ofNat Nat (nat_lit 0) (instOfNatNat (nat_lit 0))) (@HAdd.hAdd Nat Nat Nat (@instHAdd Nat instAddNat) n (@OfNat.ofNat Nat (nat_lit 1) (instOfNatNat (nat_lit 1))))) (@List.cons AV x (cut vs (@OfNat.ofNat Nat (nat_lit 0) (instOfNatNat (nat_lit 0))) n))) ∧
  (∀ {x : AV} {vs : List AV} {o n : Nat}, @Eq (List AV) (cut (@List.cons AV x vs) (@HAdd.hAdd Nat Nat Nat (@instHAdd Nat instAddNat) o (@OfNat.ofNat Nat (nat_lit 1) (instOfNatNat (nat_lit 1)))) n) (cut vs o n)) ∧
  (∀ {z : List AV}, @Eq (Option (List AV)) (fillA z (@List.nil (Prod Nat (Prod Nat AV)))) (@some (List AV) z)) ∧
  (∀ {z : List AV} {o : Nat} {k : IntKind} {n : Int} {rest : List (Prod Nat (Prod Nat AV))}, @LT.lt Nat instLTNat o (@List.length AV z) → @Eq (Option (List AV)) (fillA z (@List.cons (Prod Nat (Prod Nat AV)) (@Prod.mk Nat (Prod Nat AV) o (@Prod.mk Nat AV (@OfNat.ofNat Nat (nat_lit 1) (instOfNatNat (nat_lit 1))) (AV.int k n))) rest)) (fillA (@List.set AV z o (AV.int k n)) rest)) ∧
  (∀ {z : List AV} {o : Nat} {b : Bool} {rest : List (Prod Nat (Prod Nat AV))}, @LT.lt Nat instLTNat o (@List.length AV z) → @Eq (Option (List AV)) (fillA z (@List.cons (Prod Nat (Prod Nat AV)) (@Prod.mk Nat (Prod Nat AV) o (@Prod.mk Nat AV (@OfNat.ofNat Nat (nat_lit 1) (instOfNatNat (nat_lit 1))) (AV.bool b))) rest)) (fillA (@List.set AV z o (AV.bool b)) rest)) ∧
  (∀ {z : List AV} {o i p : Nat} {rest : List (Prod Nat (Prod Nat AV))}, @LT.lt Nat instLTNat o (@List.length AV z) → @Eq (Option (List AV)) (fillA z (@List.cons (Prod Nat (Prod Nat AV)) (@Prod.mk Nat (Prod Nat AV) o (@Prod.mk Nat AV (@OfNat.ofNat Nat (nat_lit 1) (instOfNatNat (nat_lit 1))) (AV.ptr i p))) rest)) (fillA (@List.set AV z o (AV.ptr i p)) rest)) ∧
  (∀ {z : List AV} {o i p n : Nat} {c : Cap} {rest : List (Prod Nat (Prod Nat AV))}, @LT.lt Nat instLTNat o (@List.length AV z) → @Eq (Option (List AV)) (fillA z (@List.cons (Prod Nat (Prod Nat AV)) (@Prod.mk Nat (Prod Nat AV) o (@Prod.mk Nat AV (@OfNat.ofNat Nat (nat_lit 1) (instOfNatNat (nat_lit 1))) (AV.slice i p n c))) rest)) (fillA (@List.set AV z o (AV.slice i p n c)) rest)) ∧
  (∀ {z : List AV} {o : Nat} {rest : List (Prod Nat (Prod Nat AV))}, @LT.lt Nat instLTNat o (@List.length AV z) → @Eq (Option (List AV)) (fillA z (@List.cons (Prod Nat (Prod Nat AV)) (@Prod.mk Nat (Prod Nat AV) o (@Prod.mk Nat AV (@OfNat.ofNat Nat (nat_lit 1) (instOfNatNat (nat_lit 1))) AV.nilslice)) rest)) (fillA (@List.set AV z o AV.nilslice) rest)) ∧
  (∀ {z : List AV} {o g : Nat} {f c : List AV} {rest : List (Prod Nat (Prod Nat AV))}, @LT.lt Nat instLTNat o (@List.length AV z) → @Eq (Option (List AV)) (fillA z (@List.cons (Prod Nat (Prod Nat AV)) (@Prod.mk Nat (Prod Nat AV) o (@Prod.mk Nat AV (@OfNat.ofNat Nat (nat_lit 1) (instOfNatNat (nat_lit 1))) (AV.func g f c))) rest)) (fillA (@List.set AV z o (AV.func g f c)) rest)) ∧
  (∀ {z : List AV} {o n : Nat} {xs : List AV} {rest : List (Prod Nat (Prod Nat AV))}, @Eq Nat (@List.length AV xs) n → @LE.le Nat instLENat (@HAdd.hAdd Nat Nat Nat (@instHAdd Nat instAddNat) o n) (@List.length AV z) → @Eq (Option (List AV)) (fillA z (@List.cons (Prod Nat (Prod Nat AV)) (@Prod.mk Nat (Prod Nat AV) o (@Prod.mk Nat AV n (AV.agg xs))) rest)) (fillA (@HAppend.hAppend (List AV) (List AV) (List AV) (@instHAppendOfAppend (List AV) (@List.instAppend AV)) (@HAppend.hAppend (List AV) (List AV) (List AV) (@instHAppendOfAppend (List AV) (@List.instAppend AV)) (@List.take AV o z) xs) (@List.drop AV (@HAdd.hAdd Nat Nat Nat (@instHAdd Nat instAddNat) o n) z)) rest)) ∧
  (∀ {z : List AV} {o : Nat} {v : AV} {rest : List (Prod Nat (Prod Nat AV))}, @Eq (List AV) (AV.cells v) (@List.cons AV v (@List.nil AV)) → @LT.lt Nat instLTNat o (@List.length AV z) → @Eq (Option (List AV)) (fillA z (@List.cons (Prod Nat (Prod Nat AV)) (@Prod.mk Nat (Prod Nat AV) o (@Prod.mk Nat AV (@OfNat.ofNat Nat (nat_lit 1) (instOfNatNat (nat_lit 1))) v)) rest)) (fillA (@List.set AV z o v) rest)) ∧
  (∀ {h : Heap}, @Eq (Option (Prod AV Heap)) (storeOA (@some Heap h)) (@some (Prod AV Heap) (@Prod.mk AV Heap AV.undef h))) ∧
  (∀ {z : List AV} {h : Heap}, @Eq (Option (Prod AV Heap)) (jdK (@none Nat) z h) (@some (Prod AV Heap) (@Prod.mk AV Heap (AV.ptr (Heap.size h) (@OfNat.ofNat Nat (nat_lit 0) (instOfNatNat (nat_lit 0)))) (Heap.push h (ABlk.cells z true (@OfNat.ofNat Nat (nat_lit 0) (instOfNatNat (nat_lit 0)))))))) ∧
  (∀ {z : List AV} {h : Heap} {n : Nat}, @Eq (Option (Prod AV Heap)) (jdK (@some Nat n) z h) (kept n h (Heap.get h n) fun n x p => @some (Prod AV Heap) (@Prod.mk AV Heap (AV.ptr n (@OfNat.ofNat Nat (nat_lit 0) (instOfNatNat (nat_lit 0)))) (p (ABlk.cells z true (@OfNat.ofNat Nat (nat_lit 0) (instOfNatNat (nat_lit 0)))))))) ∧
  (∀ {n : Nat} {h : Heap} {f : Nat → Heap → (ABlk → Heap) → Option (Prod AV Heap)}, @LT.lt Nat instLTNat n (Heap.size h) → @Eq (Option (Prod AV Heap)) (kept n h (@none ABlk) f) (f n h fun b => Heap.put h n b)) ∧
  (∀ {n : Nat} {cs : List AV} {h : Heap}, @Eq (Option (Prod AV Heap)) (jbz (@none Nat) n (@some (List AV) cs) h) (@some (Prod AV Heap) (@Prod.mk AV Heap (AV.slice (Heap.size h) (@OfNat.ofNat Nat (nat_lit 0) (instOfNatNat (nat_lit 0))) n (Cap.known n)) (Heap.push h (ABlk.cells cs true (@OfNat.ofNat Nat (nat_lit 0) (instOfNatNat (nat_lit 0)))))))) ∧
  (∀ {n : Nat} {cs : List AV} {h : Heap} {i : Nat}, @Eq (Option (Prod AV Heap)) (jbz (@some Nat i) n (@some (List AV) cs) h) (kept i h (Heap.get h i) fun i x p => @some (Prod AV Heap) (@Prod.mk AV Heap (AV.slice i (@OfNat.ofNat Nat (nat_lit 0) (instOfNatNat (nat_lit 0))) n (Cap.known n)) (p (ABlk.cells cs true (@OfNat.ofNat Nat (nat_lit 0) (instOfNatNat (nat_lit 0)))))))) ∧
  (∀ {z : List AV} {bytes : Nat} {h : Heap} {k k' : IntKind} {l c : Int}, And (@LE.le Int Int.instLEInt (@OfNat.ofNat Int (nat_lit 0) (@instOfNat (nat_lit 0))) l) (And (@LE.le Int Int.instLEInt l c) (And (@LE.le Int Int.instLEInt (@HMul.hMul Int Int Int (@instHMul Int Int.instMul) c (@Nat.cast Int instNatCastInt bytes)) (@OfNat.ofNat Int (nat_lit 140737488355328) (@instOfNat (nat_lit 140737488355328)))) (@LE.le Int Int.instLEInt c (@OfNat.ofNat Int (nat_lit 140737488355328) (@instOfNat (nat_lit 140737488355328)))))) → @Eq (Option (Prod AV Heap)) (makeA (@none Nat) z bytes h (AV.int k l) (AV.int k' c)) (@some (Prod AV Heap) (@Prod.mk AV Heap (AV.slice (Heap.size h) (@OfNat.ofNat Nat (nat_lit 0) (instOfNatNat (nat_lit 0))) (Int.toNat l) (Cap.known (Int.toNat c))) (Heap.push h (ABlk.cells (jbl (Int.toNat c) z) true (@OfNat.ofNat Nat (nat_lit 0) (instOfNatNat (nat_lit 0)))))))) ∧
  (∀ {z : List AV} {bytes : Nat} {h : Heap} {k k' : IntKind} {l c : Int} {i : Nat}, And (@LE.le Int Int.instLEInt (@OfNat.ofNat Int (nat_lit 0) (@instOfNat (nat_lit 0))) l) (And (@LE.le Int Int.instLEInt l c) (And (@LE.le Int Int.instLEInt (@HMul.hMul Int Int Int (@instHMul Int Int.instMul) c (@Nat.cast Int instNatCastInt bytes)) (@OfNat.ofNat Int (nat_lit 140737488355328) (@instOfNat (nat_lit 140737488355328)))) (@LE.le Int Int.instLEInt c (@OfNat.ofNat Int (nat_lit 140737488355328) (@instOfNat (nat_lit 140737488355328)))))) → @Eq (Option (Prod AV Heap)) (makeA (@some Nat i) z bytes h (AV.int k l) (AV.int k' c)) (kept i h (Heap.get h i) fun i x p => @some (Prod AV Heap) (@Prod.mk AV Heap (AV.slice i (@OfNat.ofNat Nat (nat_lit 0) (instOfNatNat (nat_lit 0))) (Int.toNat l) (Cap.known (Int.toNat c))) (p (ABlk.cells (jbl (Int.toNat c) z) true (@OfNat.ofNat Nat (nat_lit 0) (instOfNatNat (nat_lit 0)))))))) ∧
  (∀ {sz i o n : Nat} {c : Cap} {kk : IntKind} {k : Int}, And (@LE.le Int Int.instLEInt (@OfNat.ofNat Int (nat_lit 0) (@instOfNat (nat_lit 0))) k) (@LT.lt Int Int.instLTInt k (@Nat.cast Int instNatCastInt n)) → @Eq (Option AV) (idxA sz (AV.slice i o n c) (AV.int kk k)) (@some AV (AV.ptr i (@HAdd.hAdd Nat Nat Nat (@instHAdd Nat instAddNat) o (@HMul.hMul Nat Nat Nat (@instHMul Nat instMulNat) (Int.toNat k) sz))))) ∧
  (∀ {sz len i o : Nat} {kk : IntKind} {k : Int}, And (@LE.le Int Int.instLEInt (@OfNat.ofNat Int (nat_lit 0) (@instOfNat (nat_lit 0))) k) (@LT.lt Int Int.instLTInt k (@Nat.cast Int instNatCastInt len)) → @Eq (Option AV) (jfb sz len (AV.ptr i o) (AV.int kk k)) (@some AV (AV.ptr i (@HAdd.hAdd Nat Nat Nat (@instHAdd Nat instAddNat) o (@HMul.hMul Nat Nat Nat (@instHMul Nat instMulNat) (Int.toNat k) sz))))) ∧
  (∀ {off i o : Nat}, @Eq (Option AV) (jbF off (AV.ptr i o)) (@some AV (AV.ptr i (@HAdd.hAdd Nat Nat Nat (@instHAdd Nat instAddNat) o off)))) ∧
  (∀ {agg : Bool} {off n : Nat} {vs : List AV}, @Eq (Option AV) (ji0 agg off n (AV.agg vs)) (partA agg vs off n)) ∧
  (∀ {vs : List AV} {o n : Nat}, @Eq (Option AV) (partA false vs o n) (@getElem? (List AV) Nat AV (fun xs i => @LT.lt Nat instLTNat i (@List.length AV xs)) (@List.instGetElem?NatLtLength AV) vs o)) ∧
  (∀ {vs : List AV} {o n : Nat}, @LE.le Nat instLENat (@HAdd.hAdd Nat Nat Nat (@instHAdd Nat instAddNat) o n) (@List.length AV vs) → @Eq (Option AV) (partA true vs o n) (@some AV (AV.agg (cut vs o n)))) ∧
  (∀ {i o n : Nat} {c : Cap}, @Eq (Option AV) (lenA (AV.slice i o n c)) (@some AV (AV.int IntKind.i64 (@Nat.cast Int instNatCastInt n)))) ∧
  (@Eq (Option AV) (lenA AV.nilslice) (@some AV (AV.int IntKind.i64 (@OfNat.ofNat Int (nat_lit 0) (@instOfNat (nat_lit 0)))))) ∧
  (∀ {k : IntKind} {n : Int}, @Eq (List AV) (AV.cells (AV.int k n)) (@List.cons AV (AV.int k n) (@List.nil AV))) ∧
  (∀ {b : Bool}, @Eq (List AV) (AV.cells (AV.bool b)) (@List.cons AV (AV.bool b) (@List.nil AV))) ∧
  (∀ {vs : List AV}, @Eq (List AV) (AV.cells (AV.agg vs)) vs) ∧
  (∀ {i o n : Nat} {c : Cap}, @Eq (List AV) (AV.cells (AV.slice i o n c)) (@List.cons AV (AV.slice i o n c) (@List.nil AV))) ∧
  (@Eq (List AV) (AV.cells AV.nilslice) (@List.cons AV AV.nilslice (@List.nil AV))) ∧
  (∀ {i o : Nat}, @Eq (List AV) (AV.cells (AV.ptr i o)) (@List.cons AV (AV.ptr i o) (@List.nil AV))) ∧
  (∀ {g : Nat} {f c : List AV}, @Eq (List AV) (AV.cells (AV.func g f c)) (@List.cons AV (AV.func g f c) (@List.nil AV))) ∧
  (∀ {l : Nat}, @Eq (List AV) (AV.cells (AV.yield l)) (@List.cons AV (AV.yield l) (@List.nil AV))) ∧
  (∀ {l : List Int}, @Eq Nat (@List.length AV (ints l)) (@List.length Int l)) ∧
  (∀ {l : List Int} {k : Nat}, @LT.lt Nat instLTNat k (@List.length Int l) → @Eq (Option AV) (@getElem? (List AV) Nat AV (fun xs i => @LT.lt Nat instLTNat i (@List.length AV xs)) (@List.instGetElem?NatLtLength AV) (ints l) k) (@some AV (AV.int IntKind.i64 (@List.getD Int l k (@OfNat.ofNat Int (nat_lit 0) (@instOfNat (nat_lit 0))))))) ∧
  (∀ {l : List Int} {k : Nat} {x : Int}, @Eq (List AV) (@List.set AV (ints l) k (AV.int IntKind.i64 x)) (ints (@List.set Int l k x))) ∧
  (∀ {l : List Int} {x : Int}, @Eq (List AV) (@HAppend.hAppend (List AV) (List AV) (List AV) (@instHAppendOfAppend (List AV) (@List.instAppend AV)) (ints l) (@List.cons AV (AV.int IntKind.i64 x) (@List.nil AV))) (ints (@HAppend.hAppend (List Int) (List Int) (List Int) (@instHAppendOfAppend (List Int) (@List.instAppend Int)) l (@List.cons Int x (@List.nil Int))))) ∧
  (∀ {sz i o n : Nat} {c : Cap} {k : Nat}, @Eq AV (elA sz (AV.slice i o n c) k) (AV.ptr i (@HAdd.hAdd Nat Nat Nat (@instHAdd Nat instAddNat) o (@HMul.hMul Nat Nat Nat (@instHMul Nat instMulNat) k sz)))) ∧
  (∀ {n : Nat} {x : AV}, @Eq (List AV) (jbl n (@List.cons AV x (@List.nil AV))) (@List.replicate AV n x)) ∧
  (∀ {r : ALoop} {K : ALoop → Prop}, @Eq Prop (@jc5 (@some ABlk (ABlk.loop r)) (HoldL.mk K)) (K r)) ∧
  (∀ {t : Nat → AV}, @Eq (Nat → AV) (jbh t (@List.nil Nat) (@List.nil AV)) t) ∧
  (∀ {t : Nat → AV} {p : Nat} {ps : List Nat} {a : AV} {xs : List AV}, @Eq (Nat → AV) (jbh t (@List.cons Nat p ps) (@List.cons AV a xs)) (jbh (upd t p a) ps xs)) ∧
  (∀ {a b : Nat}, @LE.le Nat instLENat a b → @Eq Nat (@min Nat instMinNat a b) a) ∧
  (∀ (n : Nat), @Eq Nat (Int.toNat (@Nat.cast Int instNatCastInt n)) n) ∧
  (∀ (n : Nat), @Eq Nat (@HAdd.hAdd Nat Nat Nat (@instHAdd Nat instAddNat) (@OfNat.ofNat Nat (nat_lit 0) (instOfNatNat (nat_lit 0))) n) n) ∧
  (∀ (n : Nat), @Eq Nat (@HAdd.hAdd Nat Nat Nat (@instHAdd Nat instAddNat) n (@OfNat.ofNat Nat (nat_lit 0) (instOfNatNat (nat_lit 0)))) n) ∧
  (∀ (n : Nat), @Eq Nat (@HMul.hMul Nat Nat Nat (@instHMul Nat instMulNat) n (@OfNat.ofNat Nat (nat_lit 1) (instOfNatNat (nat_lit 1)))) n) ∧
  (∀ (n : Nat), @Eq Nat (@HMul.hMul Nat Nat Nat (@instHMul Nat instMulNat) (@OfNat.ofNat Nat (nat_lit 0) (instOfNatNat (nat_lit 0))) n) (@OfNat.ofNat Nat (nat_lit 0) (instOfNatNat (nat_lit 0)))) ∧
  (∀ (h : Decidable True), @Eq Bool (@decide True h) true) ∧
  (∀ (h : Decidable False), @Eq Bool (@decide False h) false) ∧
  (@Eq Bool (not true) false) ∧
  (@Eq Bool (not false) true) ∧
  (∀ {p : Prop} [inst : Decidable p], @Eq Prop (@Eq Bool (@decide p inst) true) p) ∧
  (∀ (k : IntKind) (n : Int) (k_1 : IntKind) (n_1 : Int), @Eq Prop (@Eq AV (AV.int k n) (AV.int k_1 n_1)) (And (@Eq IntKind k k_1) (@Eq Int n n_1))) :=
 ⟨@jn6,
   @jhh,
   @jmc,
   @jn7,
   @jhi,
   @jh1,
   @jp5,
   @jn8,
   @jkj,
   @jfL,
   @jj2,
   @jpB,
   @jnt,
   @jnu,
   @jnv,
   @jpC,
   @jnw,
   @jnx,
   @jny,
   @jlS,
   @jj6,
   @jj7,
   @jq5,
   @jnz,
   @jq6,
   @jq7,
   @jpD,
   @jq8,
   @jlT,
   @jpE,
   @jpF,
   @jlU,
   @jpG,
   @jnA,
   @jq9,
   @jlV,
   @jpH,
   @jlW,
   @jpI,
   @jj8,
   @jnB,
   @jlX,
   @jpJ,
   @jpK,
   @jsk,
   @jlY,
   @jpL,
   @jnC,
   @jra,
   @jnD,
   @jrb,
   @false_implies,
   @true_and,
   @and_true,
   @jpq,
   @jpr,
   @jiZ,
   @jnn,
   @jps,
   @jpt,
   @jlQ,
   @jnm,
   @jsh,
   @jpw,
   @jq1,
   @jpx,
   @jpy,
   @jsi,
   @jpz,
   @jlM,
   @jj0,
   @jnh,
   @jni,
   @jse,
   @jsc,
   @jsd,
   @gV_tt,
   @gV_tf,
   @gV_ft,
   @gV_ff,
   @gV_dt,
   @gV_df,
   @gV_vt,
   @gV_vf,
   @jnj,
   @jpn,
   @jlN,
   @jnp,
   @jnq,
   @jsl,
   @jpM,
   @jnE,
   @jpN,
   @ji1,
   @jrc,
   @jrd,
   @jre,
   @jrf,
   @jsm,
   @jpO,
   @jlZ,
   @jnF,
   @jhU,
   @jnG,
   @jhV,
   @ji2,
   @jnH,
   @jj9,
   @jrg,
   @jrh,
   @jri,
   @jrj,
   @jnI,
   @jrk,
   @jgQ,
   @jnJ,
   @jhW,
   @jl0,
   @jpP,
   @jrp,
   @jrq,
   @jrr,
   @jrs,
   @jrt,
   @jru,
   @jsn,
   @jrv,
   @jl1,
   @jrw,
   @jrx,
   @jry,
   @jrz,
   @jrA,
   @jrB,
   @jrC,
   @jrD,
   @jnL,
   @jso,
   @jsp,
   @jsq,
   @jpU,
   @jsr,
   @jss,
   @jrE,
   @jrF,
   @jrG,
   @jrH,
   @jrI,
   @jrJ,
   @jnM,
   @jrK,
   @jnN,
   @jrL,
   @jnO,
   @w_i64,
   @w_i32,
   @w_u8,
   @w_u32,
   @w_u64,
   @jrl,
   @jrm,
   @jrn,
   @jpQ,
   @jpR,
   @jpS,
   @jpT,
   @jro,
   @jnK,
   @jaz,
   @jav,
   @jcr,
   @jaB,
   @jrM,
   @jhX,
   @jka,
   @Heap.size_push,
   @Heap.size_put,
   @Heap.size_reserve,
   @Heap.get_reserve,
   @jk3,
   @jnQ,
   @jnR,
   @jnS,
   @jl2,
   @jkb,
   @ji4,
   @jl3,
   @jhf,
   @jl4,
   @jhg,
   @jl5,
   @jrN,
   @jpX,
   @jpY,
   @jpZ,
   @jp0,
   @jnT,
   @jp1,
   @jl6,
   @jhZ,
   @jnU,
   @jp2,
   @jdn,
   @jkc,
   @jl7,
   @jl8,
   @jnV,
   @jkd,
   @jke,
   @jnW,
   @jnX,
   @jnY,
   @jl9,
   @jh0,
   @jnZ,
   @jp3,
   @jp4,
   @jn0,
   @jrO,
   @jn1,
   @jma,
   @jn2,
   @jkf,
   @jn3,
   @jn4,
   @jmb,
   @jkg,
   @jb4,
   @jhY,
   @jpV,
   @jdL,
   @ji3,
   @jnP,
   @jkh,
   @jh4,
   @jgR,
   @Nat.min_eq_left,
   @Int.toNat_natCast,
   @Nat.zero_add,
   @Nat.add_zero,
   @Nat.mul_one,
   @Nat.zero_mul,
   @decide_true,
   @decide_false,
   @Bool.not_true,
   @Bool.not_false,
   @decide_eq_true_eq,
   @AV.int.injEq⟩
theorem jbc :
  (∀ {α : Type} {l : List α}, l ++ [] = l) ∧
  (∀ {α : Type} {a : α} {l m : List α}, (a :: l) ++ m = a :: (l ++ m)) ∧
  (∀ {α : Type} {a : α} {l : List α} {i : Nat}, (a :: l).drop (i + 1) = l.drop i) ∧
  (∀ {α : Type} {l : List α}, l.drop 0 = l) ∧
  (∀ {α : Type} {p : α → Prop} {a : α} {l : List α}, (∀ x ∈ a :: l, p x) = (p a ∧ ∀ x ∈ l, p x)) ∧
  (∀ {α : Type} {a d : α} {l : List α} {i : Nat}, (a :: l).getD (i + 1) d = l.getD i d) ∧
  (∀ {α : Type} {a d : α} {l : List α}, (a :: l).getD 0 d = a) ∧
  (∀ {α : Type} {d : α} {i : Nat}, ([] : List α).getD i d = d) ∧
  (∀ {α : Type} {a : α} {l : List α} {i : Nat}, (a :: l)[i + 1]? = l[i]?) ∧
  (∀ {α : Type} {a : α} {l : List α}, (a :: l)[0]? = some a) ∧
  (∀ {α : Type} {a : α} {l : List α}, (a :: l).length = l.length + 1) ∧
  (∀ {α : Type}, ([] : List α).length = 0) ∧
  (∀ {α β : Type} {f : α → β} {a : α} {l : List α}, (a :: l).map f = f a :: l.map f) ∧
  (∀ {α β : Type} {f : α → β}, ([] : List α).map f = []) ∧
  (∀ {α : Type} {l : List α}, [] ++ l = l) ∧
  (∀ {α : Type} {a : α}, (a ∈ ([] : List α)) = False) ∧
  (∀ {α : Type} {a b : α} {l : List α} {i : Nat}, (a :: l).set (i + 1) b = a :: l.set i b) ∧
  (∀ {α : Type} {a b : α} {l : List α}, (a :: l).set 0 b = b :: l) ∧
  (∀ {α : Type} {a : α} {l : List α} {i : Nat}, (a :: l).take (i + 1) = a :: l.take i) ∧
  (∀ {α : Type} {l : List α}, l.take 0 = []) ∧
  (∀ {α β : Type} {f : α → β}, (none : Option α).map f = none) ∧
  (∀ {α β : Type} {f : α → β} {a : α}, (some a).map f = some (f a)) ∧
  (∀ {α : Type} {a : α}, (a = a) = True) ∧
  (∀ {α : Type} {p : α → Prop} {b : α}, (∃ a, a = b ∧ p a) = p b) ∧
  (∀ {α : Type} {p : α → Prop} {b : α}, (∃ a, b = a ∧ p a) = p b) ∧
  (∀ {α : Type}, (α → True) = True) ∧
  (∀ {α : Prop}, (α → True) = True) ∧
  (∀ {α : Type} {a b : α}, (a ≠ b) = ¬ a = b) := by
 refine ⟨?_, ?_, ?_, ?_, ?_, ?_, ?_, ?_, ?_, ?_, ?_, ?_, ?_, ?_, ?_, ?_, ?_, ?_, ?_, ?_, ?_, ?_, ?_, ?_, ?_, ?_, ?_, ?_⟩ <;> intros <;> simp
theorem wpD1 :
  (∀ {h : Heap} {b : ABlk}, (h.push b).size = h.size + 1) ∧
  (∀ {h : Heap} {i : Nat} {b : ABlk}, (h.put i b).size = h.size) ∧
  (∀ {h : Heap} {k : Nat}, (h.reserve k).size = h.size + k) ∧
  (∀ {l : List Int}, (ints l).length = l.length) ∧
  (∀ {x y : Nat}, (x ∈ [y]) = (x = y)) ∧
  (∀ {α : Type} {a : α} {l : List α}, (a :: l).length = l.length + 1) ∧
  (∀ {α : Type}, ([] : List α).length = 0) ∧
  (∀ {α : Type} {n : Nat} {a : α}, (List.replicate n a).length = n) ∧
  (∀ {α : Type} {l : List α} {i : Nat} {a : α}, (l.set i a).length = l.length) :=
 ⟨rfl, rfl, rfl, jb4, by simp, List.length_cons, List.length_nil, List.length_replicate, List.length_set⟩
theorem wpD2 :
  (∀ {k : IntKind} {n : Int}, (AV.int k n).one = true) ∧ (∀ {b : Bool}, (AV.bool b).one = true) ∧ (∀ {i o : Nat}, (AV.ptr i o).one = true) ∧ (∀ {i o n : Nat} {c : Cap}, (AV.slice i o n c).one = true) ∧ AV.nilslice.one = true ∧
  (∀ {g : Nat} {f c : List AV}, (AV.func g f c).one = true) ∧
  (∀ {α : Type} {p : α → Bool} {a : α} {l : List α}, (a :: l).all p = (p a && l.all p)) ∧ (∀ {α : Type} {p : α → Bool}, ([] : List α).all p = true) ∧
  (∀ {a b : Bool}, ((a && b) = true) = (a = true ∧ b = true)) ∧ (∀ {p : Prop}, (p ∧ p) = p) ∧ (∀ {p : Prop}, (True ∧ p) = p) ∧ (∀ {p : Prop}, (p ∧ True) = p) ∧ ((true = true) = True) := by
 refine ⟨?_, ?_, ?_, ?_, ?_, ?_, ?_, ?_, ?_, ?_, ?_, ?_, ?_⟩ <;> intros <;> first | rfl | simp
theorem zd {P : Prop} (h : P := by first | assumption | decide | omega | (simp only [wpD1] <;> omega) | (simp only [wpD2] <;> assumption) | solve_by_elim [zR, zP, zV] | fail) : P := h
theorem zs {P Q : Prop} (h : Q) (e : P = Q := by simp -implicitDefEqProofs (disch := first | exact zd | fail) only [↓wpPre, jbb, jbc, Int.reduceToNat, Int.reducePow, Int.reduceMul, Int.reduceAdd, Int.reduceSub, Int.reduceNeg, Nat.reduceAdd, Nat.reduceMul, Nat.reducePow, Int.reduceLT, Int.reduceLE, Int.reduceEq, Nat.reduceEqDiff]; rfl) : P := e ▸ h
theorem ze {P : Prop} (h : P := by simp -implicitDefEqProofs (disch := first | exact zd | fail) only [↓wpPre, jbb, jbc, Int.reduceToNat, Int.reducePow, Int.reduceMul, Int.reduceAdd, Int.reduceSub, Int.reduceNeg, Nat.reduceAdd, Nat.reduceMul, Nat.reducePow, Int.reduceLT, Int.reduceLE, Int.reduceEq, Nat.reduceEqDiff]) : P := h
theorem zs1 {P Q A1 : Prop} (a : A1) (hh : Q) (ee : A1 → P = Q := by intro ya; simp -implicitDefEqProofs (disch := first | exact zd | fail) only [↓wpPre, jbb, jbc, Int.reduceToNat, Int.reducePow, Int.reduceMul, Int.reduceAdd, Int.reduceSub, Int.reduceNeg, Nat.reduceAdd, Nat.reduceMul, Nat.reducePow, Int.reduceLT, Int.reduceLE, Int.reduceEq, Nat.reduceEqDiff, ya]; rfl) : P := ee a ▸ hh
theorem ze1 {P A1 : Prop} (a : A1) (ee : A1 → P := by intro ya; simp -implicitDefEqProofs (disch := first | exact zd | fail) only [↓wpPre, jbb, jbc, Int.reduceToNat, Int.reducePow, Int.reduceMul, Int.reduceAdd, Int.reduceSub, Int.reduceNeg, Nat.reduceAdd, Nat.reduceMul, Nat.reducePow, Int.reduceLT, Int.reduceLE, Int.reduceEq, Nat.reduceEqDiff, ya]) : P := ee a
theorem zs2 {P Q A1 B1 : Prop} (a : A1) (b : B1) (hh : Q) (ee : A1 → B1 → P = Q := by intro ya yb; simp -implicitDefEqProofs (disch := first | exact zd | fail) only [↓wpPre, jbb, jbc, Int.reduceToNat, Int.reducePow, Int.reduceMul, Int.reduceAdd, Int.reduceSub, Int.reduceNeg, Nat.reduceAdd, Nat.reduceMul, Nat.reducePow, Int.reduceLT, Int.reduceLE, Int.reduceEq, Nat.reduceEqDiff, ya, yb]; rfl) : P := ee a b ▸ hh
theorem ze2 {P A1 B1 : Prop} (a : A1) (b : B1) (ee : A1 → B1 → P := by intro ya yb; simp -implicitDefEqProofs (disch := first | exact zd | fail) only [↓wpPre, jbb, jbc, Int.reduceToNat, Int.reducePow, Int.reduceMul, Int.reduceAdd, Int.reduceSub, Int.reduceNeg, Nat.reduceAdd, Nat.reduceMul, Nat.reducePow, Int.reduceLT, Int.reduceLE, Int.reduceEq, Nat.reduceEqDiff, ya, yb]) : P := ee a b
theorem zs3 {P Q A1 B1 C1 : Prop} (a : A1) (b : B1) (c : C1) (hh : Q) (ee : A1 → B1 → C1 → P = Q := by intro ya yb yc; simp -implicitDefEqProofs (disch := first | exact zd | fail) only [↓wpPre, jbb, jbc, Int.reduceToNat, Int.reducePow, Int.reduceMul, Int.reduceAdd, Int.reduceSub, Int.reduceNeg, Nat.reduceAdd, Nat.reduceMul, Nat.reducePow, Int.reduceLT, Int.reduceLE, Int.reduceEq, Nat.reduceEqDiff, ya, yb, yc]; rfl) : P := ee a b c ▸ hh
theorem zs4 {P Q A1 B1 C1 D1 : Prop} (a : A1) (b : B1) (c : C1) (d : D1) (hh : Q) (ee : A1 → B1 → C1 → D1 → P = Q := by intro ya yb yc yd; simp -implicitDefEqProofs (disch := first | exact zd | fail) only [↓wpPre, jbb, jbc, Int.reduceToNat, Int.reducePow, Int.reduceMul, Int.reduceAdd, Int.reduceSub, Int.reduceNeg, Nat.reduceAdd, Nat.reduceMul, Nat.reducePow, Int.reduceLT, Int.reduceLE, Int.reduceEq, Nat.reduceEqDiff, ya, yb, yc, yd]; rfl) : P := ee a b c d ▸ hh
theorem zs5 {P Q A1 B1 C1 D1 E1 : Prop} (a : A1) (b : B1) (c : C1) (d : D1) (e : E1) (hh : Q) (ee : A1 → B1 → C1 → D1 → E1 → P = Q := by intro ya yb yc yd ye; simp -implicitDefEqProofs (disch := first | exact zd | fail) only [↓wpPre, jbb, jbc, Int.reduceToNat, Int.reducePow, Int.reduceMul, Int.reduceAdd, Int.reduceSub, Int.reduceNeg, Nat.reduceAdd, Nat.reduceMul, Nat.reducePow, Int.reduceLT, Int.reduceLE, Int.reduceEq, Nat.reduceEqDiff, ya, yb, yc, yd, ye]; rfl) : P := ee a b c d e ▸ hh
theorem zs6 {P Q A1 B1 C1 D1 E1 F1 : Prop} (a : A1) (b : B1) (c : C1) (d : D1) (e : E1) (f : F1) (hh : Q) (ee : A1 → B1 → C1 → D1 → E1 → F1 → P = Q := by intro ya yb yc yd ye yf; simp -implicitDefEqProofs (disch := first | exact zd | fail) only [↓wpPre, jbb, jbc, Int.reduceToNat, Int.reducePow, Int.reduceMul, Int.reduceAdd, Int.reduceSub, Int.reduceNeg, Nat.reduceAdd, Nat.reduceMul, Nat.reducePow, Int.reduceLT, Int.reduceLE, Int.reduceEq, Nat.reduceEqDiff, ya, yb, yc, yd, ye, yf]; rfl) : P := ee a b c d e f ▸ hh
theorem zs7 {P Q A1 B1 C1 D1 E1 F1 G1 : Prop} (a : A1) (b : B1) (c : C1) (d : D1) (e : E1) (f : F1) (g : G1) (hh : Q) (ee : A1 → B1 → C1 → D1 → E1 → F1 → G1 → P = Q := by intro ya yb yc yd ye yf yg; simp -implicitDefEqProofs (disch := first | exact zd | fail) only [↓wpPre, jbb, jbc, Int.reduceToNat, Int.reducePow, Int.reduceMul, Int.reduceAdd, Int.reduceSub, Int.reduceNeg, Nat.reduceAdd, Nat.reduceMul, Nat.reducePow, Int.reduceLT, Int.reduceLE, Int.reduceEq, Nat.reduceEqDiff, ya, yb, yc, yd, ye, yf, yg]; rfl) : P := ee a b c d e f g ▸ hh
theorem zs8 {P Q A1 B1 C1 D1 E1 F1 G1 H1 : Prop} (a : A1) (b : B1) (c : C1) (d : D1) (e : E1) (f : F1) (g : G1) (h : H1) (hh : Q) (ee : A1 → B1 → C1 → D1 → E1 → F1 → G1 → H1 → P = Q := by intro ya yb yc yd ye yf yg yh; simp -implicitDefEqProofs (disch := first | exact zd | fail) only [↓wpPre, jbb, jbc, Int.reduceToNat, Int.reducePow, Int.reduceMul, Int.reduceAdd, Int.reduceSub, Int.reduceNeg, Nat.reduceAdd, Nat.reduceMul, Nat.reducePow, Int.reduceLT, Int.reduceLE, Int.reduceEq, Nat.reduceEqDiff, ya, yb, yc, yd, ye, yf, yg, yh]; rfl) : P := ee a b c d e f g h ▸ hh
theorem zs9 {P Q A1 B1 C1 D1 E1 F1 G1 H1 I1 : Prop} (a : A1) (b : B1) (c : C1) (d : D1) (e : E1) (f : F1) (g : G1) (h : H1) (i : I1) (hh : Q) (ee : A1 → B1 → C1 → D1 → E1 → F1 → G1 → H1 → I1 → P = Q := by intro ya yb yc yd ye yf yg yh yi; simp -implicitDefEqProofs (disch := first | exact zd | fail) only [↓wpPre, jbb, jbc, Int.reduceToNat, Int.reducePow, Int.reduceMul, Int.reduceAdd, Int.reduceSub, Int.reduceNeg, Nat.reduceAdd, Nat.reduceMul, Nat.reducePow, Int.reduceLT, Int.reduceLE, Int.reduceEq, Nat.reduceEqDiff, ya, yb, yc, yd, ye, yf, yg, yh, yi]; rfl) : P := ee a b c d e f g h i ▸ hh
theorem zs10 {P Q A1 B1 C1 D1 E1 F1 G1 H1 I1 J1 : Prop} (a : A1) (b : B1) (c : C1) (d : D1) (e : E1) (f : F1) (g : G1) (h : H1) (i : I1) (j : J1) (hh : Q) (ee : A1 → B1 → C1 → D1 → E1 → F1 → G1 → H1 → I1 → J1 → P = Q := by intro ya yb yc yd ye yf yg yh yi yj; simp -implicitDefEqProofs (disch := first | exact zd | fail) only [↓wpPre, jbb, jbc, Int.reduceToNat, Int.reducePow, Int.reduceMul, Int.reduceAdd, Int.reduceSub, Int.reduceNeg, Nat.reduceAdd, Nat.reduceMul, Nat.reducePow, Int.reduceLT, Int.reduceLE, Int.reduceEq, Nat.reduceEqDiff, ya, yb, yc, yd, ye, yf, yg, yh, yi, yj]; rfl) : P := ee a b c d e f g h i j ▸ hh
theorem zs11 {P Q A1 B1 C1 D1 E1 F1 G1 H1 I1 J1 K1 : Prop} (a : A1) (b : B1) (c : C1) (d : D1) (e : E1) (f : F1) (g : G1) (h : H1) (i : I1) (j : J1) (k : K1) (hh : Q) (ee : A1 → B1 → C1 → D1 → E1 → F1 → G1 → H1 → I1 → J1 → K1 → P = Q := by intro ya yb yc yd ye yf yg yh yi yj yk; simp -implicitDefEqProofs (disch := first | exact zd | fail) only [↓wpPre, jbb, jbc, Int.reduceToNat, Int.reducePow, Int.reduceMul, Int.reduceAdd, Int.reduceSub, Int.reduceNeg, Nat.reduceAdd, Nat.reduceMul, Nat.reducePow, Int.reduceLT, Int.reduceLE, Int.reduceEq, Nat.reduceEqDiff, ya, yb, yc, yd, ye, yf, yg, yh, yi, yj, yk]; rfl) : P := ee a b c d e f g h i j k ▸ hh
theorem ze11 {P A1 B1 C1 D1 E1 F1 G1 H1 I1 J1 K1 : Prop} (a : A1) (b : B1) (c : C1) (d : D1) (e : E1) (f : F1) (g : G1) (h : H1) (i : I1) (j : J1) (k : K1) (ee : A1 → B1 → C1 → D1 → E1 → F1 → G1 → H1 → I1 → J1 → K1 → P := by intro ya yb yc yd ye yf yg yh yi yj yk; simp -implicitDefEqProofs (disch := first | exact zd | fail) only [↓wpPre, jbb, jbc, Int.reduceToNat, Int.reducePow, Int.reduceMul, Int.reduceAdd, Int.reduceSub, Int.reduceNeg, Nat.reduceAdd, Nat.reduceMul, Nat.reducePow, Int.reduceLT, Int.reduceLE, Int.reduceEq, Nat.reduceEqDiff, ya, yb, yc, yd, ye, yf, yg, yh, yi, yj, yk]) : P := ee a b c d e f g h i j k
theorem zs12 {P Q A1 B1 C1 D1 E1 F1 G1 H1 I1 J1 K1 L1 : Prop} (a : A1) (b : B1) (c : C1) (d : D1) (e : E1) (f : F1) (g : G1) (h : H1) (i : I1) (j : J1) (k : K1) (l : L1) (hh : Q) (ee : A1 → B1 → C1 → D1 → E1 → F1 → G1 → H1 → I1 → J1 → K1 → L1 → P = Q := by intro ya yb yc yd ye yf yg yh yi yj yk yl; simp -implicitDefEqProofs (disch := first | exact zd | fail) only [↓wpPre, jbb, jbc, Int.reduceToNat, Int.reducePow, Int.reduceMul, Int.reduceAdd, Int.reduceSub, Int.reduceNeg, Nat.reduceAdd, Nat.reduceMul, Nat.reducePow, Int.reduceLT, Int.reduceLE, Int.reduceEq, Nat.reduceEqDiff, ya, yb, yc, yd, ye, yf, yg, yh, yi, yj, yk, yl]; rfl) : P := ee a b c d e f g h i j k l ▸ hh
theorem zh {h1 h2 h h3 : Heap} (x : HSub h1 h2) (e : HSub h1 h2 → HSub h h3 := by intro zx; repeat (first | exact zx | refine HSub.put ?_ (by (try simp only [Heap.size_put, Heap.size_push, Heap.size_reserve]); omega) _ | refine HSub.push ?_ _ | refine HSub.reserve ?_ _)) : HSub h h3 := e x
abbrev pP : Int := 998244353
theorem jmf (a b m : Int) : (a + b % m) % m = (a + b) % m := by rw [Int.add_emod, Int.emod_emod, ← Int.add_emod]
theorem jp7 (a : Int) (n : Nat) (m : Int) : (a % m) ^ n % m = a ^ n % m := by
 induction n with
 | zero => simp
 | succ n ih => rw [Int.pow_succ, Int.pow_succ, Int.mul_emod, ih, Int.emod_emod, ← Int.mul_emod]
theorem jbi {l : List Int} {i : Nat} (h : i < l.length) : l.take (i + 1) = l.take i ++ [l.getD i 0] := by
 rw [List.take_add_one]; simp [h]
theorem jbq {l : List Int} {i : Nat} (h : i < l.length) : l.getD i 0 ∈ l := by
 have : l.getD i 0 = l[i] := by simp [h]
 rw [this]; exact List.getElem_mem h
def pe : List Int → Int → Int
 | [], _ => 0
 | x :: l, z => x + z * pe l z
def joc (k : Nat) (w : Int) : Prop := ∀ j, k = j + 1 → w ^ 2 ^ j % pP = 998244352
theorem joc.half {k : Nat} {w : Int} (h : joc (k + 1) w) : joc k (w * w % pP) := by
 rintro j rfl
 rw [jp7, ← h (j + 1) rfl, Nat.pow_succ, Nat.mul_comm, Int.pow_mul]
 congr 2; simp [Int.pow_succ]
def Cg (a b : Int) : Prop := a % pP = b % pP
theorem Cg.refl (a : Int) : Cg a a := rfl
theorem Cg.symm {a b : Int} (h : Cg a b) : Cg b a := Eq.symm h
theorem Cg.trans {a b c : Int} (h : Cg a b) (k : Cg b c) : Cg a c := Eq.trans h k
theorem Cg.add {a b c d : Int} (h : Cg a b) (k : Cg c d) : Cg (a + c) (b + d) := by unfold Cg at *; rw [Int.add_emod, h, k, ← Int.add_emod]
theorem Cg.sub {a b c d : Int} (h : Cg a b) (k : Cg c d) : Cg (a - c) (b - d) := by unfold Cg at *; rw [Int.sub_emod, h, k, ← Int.sub_emod]
theorem Cg.mul {a b c d : Int} (h : Cg a b) (k : Cg c d) : Cg (a * c) (b * d) := by unfold Cg at *; rw [Int.mul_emod, h, k, ← Int.mul_emod]
theorem Cg.neg {a b : Int} (h : Cg a b) : Cg (-a) (-b) := by have := (Cg.refl 0).sub h; simpa using this
theorem Cg.pe {a b : Int} (h : Cg a b) (l : List Int) : Cg (pe l a) (pe l b) := by
 induction l with
 | nil => exact Cg.refl _
 | cons x l ih => exact (Cg.refl x).add (h.mul ih)
theorem Cg.plus (a k : Int) : Cg (a + k * pP) a := by unfold Cg; rw [Int.add_mul_emod_self_right]
section
variable {C : Ctx}
def In64 (x : Int) : Prop := -9223372036854775808 ≤ x ∧ x ≤ 9223372036854775807
theorem ji8 {x n : Int} (hn : 1 ≤ n) : x % n = if x.tmod n < 0 then x.tmod n + n else x.tmod n := by
 have h1 : x.tmod n < n := Int.tmod_lt_of_pos x (by omega)
 have h2 : -n < x.tmod n := by have := Int.lt_tmod_of_pos x (b := n) (by omega); omega
 have h3 : x % n = x.tmod n % n := by
  have := Int.tmod_add_mul_tdiv x n
  rw [← this, Int.add_mul_emod_self_left]
  rw [Int.tmod_add_mul_tdiv]
 rw [h3]
 split
 ·rw [← Int.add_emod_right, Int.emod_eq_of_lt (by omega) (by omega)]
 ·rw [Int.emod_eq_of_lt (by omega) (by omega)]
theorem jdN (hC : Has C T23) {x n : Int} {h : Heap} (hx : In64 x) (hn : 1 ≤ n ∧ n ≤ 9223372036854775807) : ACalls C 23 [.int .i64 x, .int .i64 n] h (fun r h' => r = .int .i64 (x % n) ∧ h' = h) := by
 unfold In64 at hx
 have h1 : x.tmod n < n := Int.tmod_lt_of_pos x (by omega)
 have h2 : -n < x.tmod n := by have := Int.lt_tmod_of_pos x (b := n) (by omega); omega
 rw [ji8 hn.1]
 refine zf hC tab23 ?_; simp only [B23, zB.1]; refine zs ?_
 refine Br.by (fun c => ?_) (fun c => ?_)
 ·simp -implicitDefEqProofs (disch := first | exact zd | fail) only [↓wpPre, jbb, jbc, Int.reduceToNat, Int.reducePow, Int.reduceMul, Int.reduceAdd, Int.reduceSub, Int.reduceNeg, Nat.reduceAdd, Nat.reduceMul, Nat.reducePow, Int.reduceLT, Int.reduceLE, Int.reduceEq, Nat.reduceEqDiff, if_pos c]
 ·simp -implicitDefEqProofs (disch := first | exact zd | fail) only [↓wpPre, jbb, jbc, Int.reduceToNat, Int.reducePow, Int.reduceMul, Int.reduceAdd, Int.reduceSub, Int.reduceNeg, Nat.reduceAdd, Nat.reduceMul, Nat.reducePow, Int.reduceLT, Int.reduceLE, Int.reduceEq, Nat.reduceEqDiff, if_neg c]
def tup2 (a b : Int) : AV := .tuple [.int .i64 a, .int .i64 b]
def ja2 (v : AV) (e : Int) : AV := .tuple [v, .int .i64 e]
theorem jaa.eq2 {g : Nat} {args : List AV} {h h' : Heap} {r r' : AV} {K : AV → Heap → Prop} (hc : ACalls C g args h fun x h'' => x = r ∧ h'' = h') (e : r = r') (hk : K r' h') : @jaa C g args h ⟨K⟩ := jaa.eq (e ▸ hc) hk
def tabIn (L : List Nat) (g : Nat) : Option ABody := if L.contains g then tab g else none
theorem tabIn_ok {L : List Nat} (hC : Has C L) : ∀ g b, tabIn L g = some b → C.body g = some b := by
 intro g b h
 unfold tabIn at h
 split at h
 ·rename_i hg; exact hC g (by simpa using hg) b h
 ·cases h
end
end Go.Ae
namespace Go.Ae
def Fresh (h h' : Heap) (v : AV) (l : List Int) : Prop :=
 HSub h h' ∧ l.length < 9223372036854775808 ∧ ∃ i, h.size ≤ i ∧ v = .slice i 0 l.length (.known l.length) ∧ h'.get i = some (.cells (ints l) true 0)
theorem Fresh.ri {h h' : Heap} {v : AV} {l : List Int} (H : Fresh h h' v l) : RI h' v l := by
 obtain ⟨hs, hl, i, hi, rfl, hg⟩ := H
 exact RI.known hg ⟨rfl, hl⟩ (Nat.le_refl _)
theorem Fresh.sub {h h' : Heap} {v : AV} {l : List Int} (H : Fresh h h' v l) : HSub h h' := H.1
theorem Fresh.mono {h0 h h' : Heap} {v : AV} {l : List Int} (H : Fresh h h' v l) (hs : HSub h0 h) : Fresh h0 h' v l := by
 obtain ⟨hs', hl, i, hi, r⟩ := H
 exact ⟨hs.trans hs', hl, i, Nat.le_trans hs.size hi, r⟩
def jch (f : Int → Int) (l : List Int) (i : Nat) : List Int := (l.take i).map f ++ l.drop i
theorem jei (f : Int → Int) (l : List Int) : jch f l 0 = l := by simp [jch]
theorem jej (f : Int → Int) (l : List Int) : jch f l l.length = l.map f := by simp [jch]
theorem jdp (f : Int → Int) (l : List Int) (i : Nat) : (jch f l i).length = l.length := by simp [jch]; omega
theorem jfd (f : Int → Int) {l : List Int} {i : Nat} (h : i < l.length) : (jch f l i).getD i 0 = l.getD i 0 := by
 simp only [jch, List.getD_eq_getElem?_getD]
 rw [List.getElem?_append_right (by simp; omega)]
 simp [Nat.min_eq_left (Nat.le_of_lt h)]
theorem jfe (f : Int → Int) {l : List Int} {i : Nat} (h : i < l.length) : (jch f l i).set i (f (l.getD i 0)) = jch f l (i + 1) := by
 unfold jch
 have hl : ((l.take i).map f).length = i := by simp; omega
 rw [List.set_append_right _ _ (by omega), hl, Nat.sub_self, jbi h, List.map_append, List.append_assoc]
 congr 1
 have : l.drop i = l.getD i 0 :: l.drop (i + 1) := by
  rw [List.drop_eq_getElem_cons h]; simp [h]
 rw [this]; rfl
section
variable {C : Ctx}
def Asks (C : Ctx) (f : AV) (p : Int → Bool) (l : List Int) (h : Heap) : Prop :=
 ∃ g c, f = .func g [] c ∧ ∀ x ∈ l, ACalls C g ([] ++ [.int .i64 x] ++ c) h (fun r h' => r = .bool (p x) ∧ h' = h)
def idxI (p : Int → Bool) (l : List Int) : Int := if l.any p then l.findIdx p else -1
theorem jeF {p : Int → Bool} {l : List Int} {i : Nat} (hi : i < l.length) (h : (l.take i).any p = false) (hp : p (l.getD i 0) = false) : (l.take (i + 1)).any p = false := by
 rw [jbi hi, List.any_append, h]; simpa using hp
theorem jhj {p : Int → Bool} {l : List Int} {i : Nat} (hi : i < l.length) (h : (l.take i).any p = false) (hp : p (l.getD i 0) = true) : l.any p = true ∧ l.findIdx p = i := by
 have e : l.getD i 0 = l[i] := by simp [hi]
 refine ⟨List.any_eq_true.2 ⟨l.getD i 0, jbq hi, hp⟩, ?_⟩
 rw [List.findIdx_eq hi]
 refine ⟨by rw [← e]; exact hp, fun j hj => ?_⟩
 have := List.any_eq_false.1 h (l[j]) (by rw [List.mem_take_iff_getElem]; exact ⟨j, by omega, rfl⟩)
 simpa using this
theorem jgS (hC : Has C T50) {v f : AV} {l : List Int} {p : Int → Bool} {h : Heap} (hl : RI h v l) (hf : Asks C f p l h) : ACalls C 50 [v, f] h (fun r h' => r = .int .i64 (idxI p l) ∧ h' = h) := by
 obtain ⟨g, c, rfl, hf⟩ := hf
 have hlt := hl.lt
 refine zf hC tab50 ?_; simp only [B50, zB.1]; refine zs1 @hl.len ?_
 refine jaA (fun j t h' => h' = h ∧ t 0 = v ∧ t 1 = .func g [] c ∧ t 7 = .int .i64 l.length ∧ ∃ i : Nat, t 8 = .int .i64 (i : Nat) ∧ i ≤ l.length ∧ (l.take i).any p = false ∧ j = l.length - i) ⟨rfl, rfl, rfl, rfl, 0, rfl, by omega, by simp, rfl⟩ ?_
 rintro j t h' ⟨rfl, e0, e1, e7, i, e8, hi, hp, hj⟩
 refine zs4 @e0 @e1 @e7 @e8 ?_
 refine Br.by (fun c1 => ?_) (fun c1 => ?_)
 ·have hi' : i < l.length := by omega
  refine zs6 @e0 @e1 @e7 @e8 @hl.idx @hl.load ?_
  refine jaa.eq (hf _ (jbq hi')) ?_
  refine zs ?_
  refine Br.by (fun c2 => ?_) (fun c2 => ?_)
  ·have := jhj hi' hp c2
   simp -implicitDefEqProofs (disch := first | exact zd | fail) only [↓wpPre, jbb, jbc, Int.reduceToNat, Int.reducePow, Int.reduceMul, Int.reduceAdd, Int.reduceSub, Int.reduceNeg, Nat.reduceAdd, Nat.reduceMul, Nat.reducePow, Int.reduceLT, Int.reduceLE, Int.reduceEq, Nat.reduceEqDiff, idxI, if_pos this.1, this.2]
  ·refine zs4 @e0 @e1 @e7 @e8 ?_
   exact ⟨_, ⟨i + 1, by simp, by omega, jeF hi' hp (by simpa using c2), rfl⟩, by omega⟩
 ·have : i = l.length := by omega
  subst this
  rw [List.take_of_length_le (Nat.le_refl _)] at hp
  refine zs2 @idxI.eq_1 @hp ?_
  simp
theorem jdq {p : Int → Bool} {l : List Int} : 0 ≤ idxI p l ↔ l.any p = true := by
 unfold idxI
 split
 ·rename_i h; simp [h]
 ·rename_i h; simp [h]
theorem jff (hC : Has C T37) {v f : AV} {l : List Int} {p : Int → Bool} {h : Heap} (hl : RI h v l) (hf : Asks C f p l h) : ACalls C 37 [v, f] h (fun r h' => r = .bool (l.any p) ∧ h' = h) := by
 refine zf hC tab37 ?_; simp only [B37, zB.1]; refine zs ?_
 refine jaa.eq (jgS (zu hC T50) hl hf) ?_
 refine zs ?_
 cases hx : l.any p with
 | true => simp [jdq, hx]
 | false => simp [jdq, hx]
end
end Go.Ae
namespace Go.Ae
theorem seqx {a b : List Int} (hl : a.length = b.length) (h : ∀ i, i < a.length → a.getD i 0 = b.getD i 0) : a = b := by
 refine List.ext_getElem hl fun i h1 h2 => ?_
 have := h i h1
 simpa [h1, h2] using this
def Grw (h0 h : Heap) (sz : Nat) (v : AV) (n : Nat) (cs : List AV) : Prop :=
 HSub h0 h ∧ cs.length = n * sz ∧ n < 9223372036854775808 ∧ ((v = .nilslice ∧ n = 0) ∨ ∃ i ex, h0.size ≤ i ∧ v = .slice i 0 n (.unk 0) ∧ h.get i = some (.cells (cs ++ ex) true sz))
theorem jh5 {cs ex : List AV} {k : Nat} (h : cs.length = k) : cut (cs ++ ex) 0 k = cs := by subst h; simp [cut]
def GrwI (h0 h : Heap) (v : AV) (l : List Int) : Prop := Grw h0 h 1 v l.length (ints l)
def snocH (H : Heap) (nid : Option Nat) (v : AV) (sz : Nat) (cs : List AV) : Heap :=
 match v with
 | .slice i _ _ _ => (H.put i .dead).new nid (.cells cs true sz)
 | _ => H.new nid (.cells cs true sz)
section
variable {h0 h H : Heap} {sz bytes n m k : Nat} {v : AV} {cs news : List AV} {l : List Int}
theorem Grw.sub (A : Grw h0 h sz v n cs) : HSub h0 h := A.1
theorem Grw.sl (A : Grw h0 h sz v n cs) : SL h sz v n cs := by
 obtain ⟨hs, hl, hn, ⟨rfl, rfl⟩ | ⟨i, ex, hi, rfl, hg⟩⟩ := A
 ·exact ⟨hl, hn, .inl ⟨rfl, rfl⟩⟩
 ·exact ⟨hl, hn, .inr ⟨i, 0, _, _, true, sz, rfl, hg, by rw [List.length_append]; omega, jh5 hl, by simp⟩⟩
theorem GrwI.ri (A : GrwI h0 h v l) : RI h v l := Grw.sl A
theorem GrwI.sub (A : GrwI h0 h v l) : HSub h0 h := A.1
theorem Grw.nil (h : Heap) (sz : Nat) : Grw h h sz .nilslice 0 [] := ⟨HSub.refl _, by simp, by omega, .inl ⟨rfl, rfl⟩⟩
theorem GrwI.nil (h : Heap) : GrwI h h .nilslice [] := Grw.nil h 1
theorem GrwI.nil' (hs : HSub h0 h) : GrwI h0 h .nilslice [] := ⟨hs, by simp [ints], by simp, .inl ⟨rfl, rfl⟩⟩
theorem Grw.mono (A : Grw h0 h sz v n cs) (hs : HSub h H) : Grw h0 H sz v n cs := by
 obtain ⟨h1, hl, hn, ⟨rfl, rfl⟩ | ⟨i, ex, hi, rfl, hg⟩⟩ := A
 ·exact ⟨h1.trans hs, hl, hn, .inl ⟨rfl, rfl⟩⟩
 ·exact ⟨h1.trans hs, hl, hn, .inr ⟨i, ex, hi, rfl, (hs.get i (Heap.lt_of_get hg)).trans hg⟩⟩
theorem GrwI.mono (A : GrwI h0 h v l) (hs : HSub h H) : GrwI h0 H v l := Grw.mono A hs
theorem Grw.base {h1' : Heap} (A : Grw h h1' sz v n cs) (hs : HSub h0 h) : Grw h0 h1' sz v n cs := by
 obtain ⟨h1, hl, hn, ⟨rfl, rfl⟩ | ⟨i, ex, hi, rfl, hg⟩⟩ := A
 ·exact ⟨hs.trans h1, hl, hn, .inl ⟨rfl, rfl⟩⟩
 ·exact ⟨hs.trans h1, hl, hn, .inr ⟨i, ex, Nat.le_trans hs.size hi, rfl, hg⟩⟩
theorem GrwI.base {h1 : Heap} (A : GrwI h h1 v l) (hs : HSub h0 h) : GrwI h0 h1 v l := Grw.base A hs
theorem Grw.app (A : Grw h0 h sz v n cs) (hs : HSub h H) (hm : m ≠ 0) (hb : (n + m) * bytes ≤ 1099511627776) (h1 : news.all AV.one = true) :
  jas H none sz bytes v m news = some (.slice H.size 0 (n + m) (.unk 0), snocH H none v sz (cs ++ news)) := by
 obtain ⟨_, hl, hn, ⟨rfl, rfl⟩ | ⟨i, ex, hi, rfl, hg⟩⟩ := A
 ·have : cs = [] := List.eq_nil_of_length_eq_zero (by omega)
  subst this
  rw [Nat.zero_add] at hb ⊢
  rw [jh1 hm hb]
  simp [snocH, Heap.new]
 ·have e := (hs.get i (Heap.lt_of_get hg)).trans hg
  rw [jn7, e, jhi (by rw [List.length_append]; omega) (by omega) hb h1, jh5 hl]
  rfl
def appK (n : Nat) (H : Heap) (v r : AV) (sz : Nat) (cs : List AV) : Option ABlk → Option (AV × Heap)
 | none => some (r, snocH H (some n) v sz cs)
 | _ => none
theorem ji9 {r : AV} : appK k H v r sz cs none = some (r, snocH H (some k) v sz cs) := rfl
theorem Grw.appS (A : Grw h0 h sz v n cs) (hs : HSub h H) (hk : h.size ≤ k ∧ k < H.size) (hm : m ≠ 0) (hb : (n + m) * bytes ≤ 1099511627776) (h1 : news.all AV.one = true) :
  jas H (some k) sz bytes v m news = appK k H v (.slice k 0 (n + m) (.unk 0)) sz (cs ++ news) (H.get k) := by
 obtain ⟨_, hl, hn, ⟨rfl, rfl⟩ | ⟨i, ex, hi, rfl, hg⟩⟩ := A
 ·have : cs = [] := List.eq_nil_of_length_eq_zero (by omega)
  subst this
  rw [Nat.zero_add] at hb ⊢
  have hr : H.room (some k) = ((H.get k).isNone && decide (k < H.size)) := rfl
  simp only [jas, if_neg hm]
  by_cases e : (H.get k).isNone = true
  ·have e' : H.get k = none := by simpa using e
   rw [if_pos ⟨hb, by rw [hr, e]; simpa using hk.2⟩]
   exact (congrArg (appK k H .nilslice (.slice k 0 m (.unk 0)) sz ([] ++ news)) e').symm
  ·rw [if_neg (by rw [hr]; simp [e])]
   obtain ⟨b, e'⟩ : ∃ b, H.get k = some b := by cases x : H.get k with | none => simp [x] at e | some b => exact ⟨b, rfl⟩
   exact (congrArg (appK k H .nilslice (.slice k 0 m (.unk 0)) sz ([] ++ news)) e').symm
 ·have e0 := (hs.get i (Heap.lt_of_get hg)).trans hg
  have hr : H.room (some k) = ((H.get k).isNone && decide (k < H.size)) := rfl
  simp only [jas, e0]
  by_cases e : (H.get k).isNone = true
  ·have e' : H.get k = none := by simpa using e
   rw [if_pos ⟨trivial, by omega, by rw [List.length_append]; omega, h1, hb, by rw [hr, e]; simpa using hk.2, by omega⟩, jh5 hl]
   exact (congrArg (appK k H (.slice i 0 n (.unk 0)) (.slice k 0 (n + m) (.unk 0)) sz (cs ++ news)) e').symm
  ·rw [if_neg (by rw [hr]; simp [e]), if_neg (by omega)]
   obtain ⟨b, e'⟩ : ∃ b, H.get k = some b := by cases x : H.get k with | none => simp [x] at e | some b => exact ⟨b, rfl⟩
   exact (congrArg (appK k H (.slice i 0 n (.unk 0)) (.slice k 0 (n + m) (.unk 0)) sz (cs ++ news)) e').symm
theorem Grw.snoc (A : Grw h0 h sz v n cs) (hs : HSub h H) (hl : news.length = m * sz) (hn : n + m < 9223372036854775808) :
  Grw h0 (snocH H none v sz (cs ++ news)) sz (.slice H.size 0 (n + m) (.unk 0)) (n + m) (cs ++ news) := by
 obtain ⟨h1, hl', hn', ⟨rfl, rfl⟩ | ⟨i, ex, hi, rfl, hg⟩⟩ := A
 ·exact ⟨(h1.trans hs).push _, by rw [List.length_append, Nat.add_mul]; omega, hn, .inr ⟨H.size, [], (h1.trans hs).size, rfl, by rw [List.append_nil]; exact jaz rfl⟩⟩
 ·exact ⟨((h1.trans hs).put hi _).push _, by rw [List.length_append, Nat.add_mul]; omega, hn, .inr ⟨H.size, [], (h1.trans hs).size, rfl, by rw [List.append_nil]; exact jaz rfl⟩⟩
theorem Grw.snocS (A : Grw h0 h sz v n cs) (hs : HSub h H) (hk : h.size ≤ k ∧ k < H.size) (hl : news.length = m * sz) (hn : n + m < 9223372036854775808) :
  Grw h0 (snocH H (some k) v sz (cs ++ news)) sz (.slice k 0 (n + m) (.unk 0)) (n + m) (cs ++ news) := by
 obtain ⟨h1, hl', hn', ⟨rfl, rfl⟩ | ⟨i, ex, hi, rfl, hg⟩⟩ := A
 ·have := h1.size
  exact ⟨(h1.trans hs).put (by omega) _, by rw [List.length_append, Nat.add_mul]; omega, hn, .inr ⟨k, [], by omega, rfl, by rw [List.append_nil]; exact jcr rfl hk.2⟩⟩
 ·have := h1.size
  exact ⟨((h1.trans hs).put hi _).put (by omega) _, by rw [List.length_append, Nat.add_mul]; omega, hn, .inr ⟨k, [], by omega, rfl, by rw [List.append_nil]; exact jcr rfl (by simpa using hk.2)⟩⟩
theorem GrwI.app {x : Int} (A : GrwI h0 h v l) : ∀ (H : Heap), HSub h H → l.length + 1 ≤ 1073741824 → jas H none 1 8 v 1 [.int .i64 x] = some (.slice H.size 0 (l.length + 1) (.unk 0), snocH H none v 1 (ints (l ++ [x]))) := by
 intro H hs hb
 rw [Grw.app A hs (by decide) (by omega) (by rfl), jdL]
theorem GrwI.appS {x : Int} (A : GrwI h0 h v l) : ∀ (H : Heap) (k : Nat), HSub h H → h.size ≤ k ∧ k < H.size → l.length + 1 ≤ 1073741824 → jas H (some k) 1 8 v 1 [.int .i64 x] = appK k H v (.slice k 0 (l.length + 1) (.unk 0)) 1 (ints (l ++ [x])) (H.get k) := by
 intro H k hs hk hb
 rw [Grw.appS A hs hk (by decide) (by omega) (by rfl), jdL]
theorem GrwI.snoc {x : Int} (A : GrwI h0 h v l) (hs : HSub h H) (hb : l.length + 1 ≤ 1073741824) : GrwI h0 (snocH H none v 1 (ints (l ++ [x]))) (.slice H.size 0 (l.length + 1) (.unk 0)) (l ++ [x]) := by
 have := Grw.snoc (news := [.int .i64 x]) (m := 1) A hs rfl (by omega)
 rw [jdL] at this
 unfold GrwI; rw [List.length_append]; exact this
theorem GrwI.snocS {x : Int} (A : GrwI h0 h v l) (hs : HSub h H) (hk : h.size ≤ k ∧ k < H.size) (hb : l.length + 1 ≤ 1073741824) : GrwI h0 (snocH H (some k) v 1 (ints (l ++ [x]))) (.slice k 0 (l.length + 1) (.unk 0)) (l ++ [x]) := by
 have := Grw.snocS (news := [.int .i64 x]) (m := 1) A hs hk rfl (by omega)
 rw [jdL] at this
 unfold GrwI; rw [List.length_append]; exact this
theorem RI.snocH {w : AV} {L : List Int} (hw : RI h0 w L) (A : Grw h0 H sz v n cs) : RI H w L := hw.mono A.sub
end
def contB (n sz o : Nat) : Option ABlk → Option (Nat × List AV)
 | some (.cells vs _ _) => if o + n * sz ≤ vs.length then some (n, cut vs o (n * sz)) else none
 | _ => none
theorem jby {h : Heap} {sz i o n : Nat} {c : Cap} : jan h sz (.slice i o n c) = contB n sz o (h.get i) := by
 simp only [jan, contB]
 cases h.get i with
 | none => rfl
 | some b => cases b <;> rfl
theorem jmg {n sz o u : Nat} {vs : List AV} {wr : Bool} (h : o + n * sz ≤ vs.length) : contB n sz o (some (.cells vs wr u)) = some (n, cut vs o (n * sz)) := by simp only [contB, if_pos h]
theorem jgo {x : AV} {u : Nat} {wr : Bool} : contB 1 1 0 (some (.cells [x] wr u)) = some (1, [x]) := rfl
section
variable {C : Ctx}
end
end Go.Ae
namespace Go.Ae
section
variable {C : Ctx}
end
end Go.Ae
namespace Go.Ae
/-! ### Sums of bits -/
def bsum (f : Nat → Nat) : Nat → Nat
 | 0 => 0
 | n + 1 => bsum f n + f n
theorem jcs {f g : Nat → Nat} : ∀ n, (∀ i, i < n → f i = g i) → bsum f n = bsum g n
 | 0, _ => rfl
 | n + 1, h => by simp only [bsum]; rw [jcs n (fun i hi => h i (by omega)), h n (by omega)]
theorem jk4 (f : Nat → Nat) (a : Nat) : ∀ b, bsum f (a + b) = bsum f a + bsum (fun i => f (a + i)) b
 | 0 => rfl
 | b + 1 => by rw [← Nat.add_assoc]; simp only [bsum]; rw [jk4 f a b]; omega
theorem jk5 {f g : Nat → Nat} {t d : Nat} : ∀ n, (∀ i, i < n → f i = g i + if i = t then d else 0) → bsum f n = bsum g n + if t < n then d else 0
 | 0, _ => by simp [bsum]
 | n + 1, h => by
  have ih := jk5 n (fun i hi => h i (by omega))
  have h1 := h n (by omega)
  simp only [bsum, ih, h1]
  by_cases c : t < n
  ·rw [if_pos c, if_neg (by omega), if_pos (by omega)]; omega
  ·by_cases c2 : n = t
   ·rw [if_neg c, if_pos c2, if_pos (by omega)]; omega
   ·rw [if_neg c, if_neg c2, if_neg (by omega)]; omega
def bitN (x i : Nat) : Nat := (x.testBit i).toNat
def pop (x n : Nat) : Nat := bsum (bitN x) n
theorem jh6 (x a b : Nat) : pop x (a + b) = pop x a + pop (x >>> a) b := by
 unfold pop
 rw [jk4]
 congr 1
 refine jcs _ fun i _ => ?_
 simp [bitN, Nat.testBit_shiftRight]
theorem jod (x n : Nat) : pop (x % 2 ^ n) n = pop x n := by
 refine jcs _ fun i hi => ?_
 simp [bitN, Nat.testBit_mod_two_pow, hi]
/-! ### Windows -/
def bit01 (l : List Int) : Prop := ∀ x ∈ l, x = 0 ∨ x = 1
theorem bit01.get {l : List Int} (h : bit01 l) (i : Nat) : l.getD i 0 = 0 ∨ l.getD i 0 = 1 := by
 by_cases hi : i < l.length
 ·exact h _ (jbq hi)
 ·left; rw [List.getD_eq_getElem?_getD, List.getElem?_eq_none (by omega)]; rfl
def packL : List Int → Nat
 | [] => 0
 | b :: l => b.toNat + 2 * packL l
theorem jdZ : ∀ {l : List Int}, bit01 l → packL l < 2 ^ l.length
 | [], _ => by simp [packL]
 | b :: l, h => by
  have ih := jdZ (l := l) (fun x hx => h x (List.mem_cons_of_mem _ hx))
  have hb := h b List.mem_cons_self
  simp only [packL, List.length_cons, Nat.pow_succ]
  rcases hb with rfl | rfl <;> simp <;> omega
theorem jdO : ∀ {l : List Int}, bit01 l → ∀ i, bitN (packL l) i = (l.getD i 0).toNat
 | [], _, i => by simp [packL, bitN]
 | b :: l, h, 0 => by
  have hb := h b List.mem_cons_self
  simp only [packL, bitN, Nat.testBit_zero, List.getD_cons_zero]
  rcases hb with rfl | rfl <;> simp <;> omega
 | b :: l, h, i + 1 => by
  have ih := jdO (l := l) (fun x hx => h x (List.mem_cons_of_mem _ hx)) i
  have hb := h b List.mem_cons_self
  have e : (b.toNat + 2 * packL l) / 2 = packL l := by rcases hb with rfl | rfl <;> simp <;> omega
  simp only [packL, bitN, Nat.testBit_succ, List.getD_cons_succ]
  rw [e]; exact ih
theorem jfg : ∀ (l : List Int) (x : Int), packL (l ++ [x]) = packL l + 2 ^ l.length * x.toNat
 | [], x => by simp [packL]
 | b :: l, x => by
  simp only [List.cons_append, packL, jfg l x, List.length_cons, Nat.pow_succ]
  rw [Nat.mul_add, Nat.mul_comm _ 2, Nat.mul_assoc, ← Nat.add_assoc]
theorem jja : ∀ {a b : List Int}, a.length = b.length → bit01 a → bit01 b → packL a = packL b → a = b
 | [], [], _, _, _, _ => rfl
 | x :: a, y :: b, hl, ha, hb, he => by
  have hx := ha x List.mem_cons_self
  have hy := hb y List.mem_cons_self
  simp only [packL] at he
  have : x = y := by rcases hx with rfl | rfl <;> rcases hy with rfl | rfl <;> simp at he ⊢ <;> omega
  subst this
  rw [jja (by simpa using hl) (fun z hz => ha z (List.mem_cons_of_mem _ hz)) (fun z hz => hb z (List.mem_cons_of_mem _ hz)) (by omega)]
 | [], _ :: _, hl, _, _, _ => by simp at hl
 | _ :: _, [], hl, _, _, _ => by simp at hl
def xorT (ts : List Int) (w : List Int) : Int := ts.foldl (fun x t => (x + w.getD t.toNat 0) % 2) 0
def maskT (ts : List Int) : Nat := ts.foldl (fun m t => m ||| 2 ^ t.toNat) 0
theorem joe (ts : List Int) (t : Int) (w : List Int) : xorT (ts ++ [t]) w = (xorT ts w + w.getD t.toNat 0) % 2 := by simp [xorT]
theorem jhk (ts : List Int) (t : Int) : maskT (ts ++ [t]) = maskT ts ||| 2 ^ t.toNat := by simp [maskT]
theorem jkm (ts : List Int) (w : List Int) : xorT ts w = 0 ∨ xorT ts w = 1 := by
 unfold xorT
 suffices ∀ a : Int, (a = 0 ∨ a = 1) → (ts.foldl (fun x t => (x + w.getD t.toNat 0) % 2) a = 0 ∨ ts.foldl (fun x t => (x + w.getD t.toNat 0) % 2) a = 1) from this 0 (.inl rfl)
 induction ts with
 | nil => intro a ha; exact ha
 | cons t ts ih => intro a ha; exact ih _ (by dsimp only; omega)
theorem jjb : ∀ (ts : List Int) (m j : Nat), (ts.foldl (fun m t => m ||| 2 ^ t.toNat) m).testBit j = (m.testBit j || ts.any fun t => t.toNat == j)
 | [], m, j => by simp
 | t :: ts, m, j => by
  simp only [List.foldl_cons, jjb ts, Nat.testBit_or, Nat.testBit_two_pow, List.any_cons]
  rw [Bool.or_assoc]; rfl
def tapOk (n : Int) (l : List Int) (j : Nat) : Prop := (if j = 0 then -1 else l.getD (j - 1) 0) < l.getD j 0 ∧ l.getD j 0 < n
instance (n : Int) (l : List Int) (j : Nat) : Decidable (tapOk n l j) := by unfold tapOk; infer_instance
theorem jh7 {n : Int} {l : List Int} (h : ∀ j, j < l.length → tapOk n l j) : ∀ (j i : Nat), i < j → j < l.length → l.getD i 0 < l.getD j 0
 | 0, i, hi, _ => by omega
 | j + 1, i, hi, hj => by
  have h1 := (h (j + 1) hj).1
  rw [if_neg (by omega), show j + 1 - 1 = j by omega] at h1
  rcases Nat.lt_or_ge i j with x | x
  ·have := jh7 h j i x (by omega); omega
  ·have : i = j := by omega
   subst this; exact h1
theorem jfh {n : Int} {l : List Int} (h : ∀ j, j < l.length → tapOk n l j) {j : Nat} (hj : j < l.length) : 0 ≤ l.getD j 0 := by
 have h0 := (h 0 (by omega)).1
 rw [if_pos rfl] at h0
 rcases Nat.eq_zero_or_pos j with e | e
 ·subst e; omega
 ·have := jh7 h j 0 e hj; omega
theorem jof {n : Int} {l : List Int} (h : ∀ j, j < l.length → tapOk n l j) {i : Nat} (hi : i < l.length) : (maskT (l.take i)).testBit (l.getD i 0).toNat = false := by
 unfold maskT
 rw [jjb]
 simp only [Nat.zero_testBit, Bool.false_or]
 refine List.any_eq_false.2 fun t ht => ?_
 obtain ⟨j, hj, rfl⟩ := List.mem_take_iff_getElem.1 ht
 have hj' : j < l.length := by omega
 have e : l[j] = l.getD j 0 := by simp [hj']
 have h1 := jh7 h i j (by omega) hi
 have h2 := jfh h hj'
 rw [e]; simp only [beq_iff_eq]; omega
theorem jh8 {n : Nat} : ∀ (ts : List Int) (m : Nat), m < 2 ^ n → (∀ t ∈ ts, t.toNat < n) → ts.foldl (fun m t => m ||| 2 ^ t.toNat) m < 2 ^ n
 | [], m, h, _ => h
 | t :: ts, m, h, ht => jh8 ts _ (Nat.or_lt_two_pow h (Nat.pow_lt_pow_right (by decide) (ht t List.mem_cons_self))) (fun x hx => ht x (List.mem_cons_of_mem _ hx))
theorem jk6 {n : Int} {l w : List Int} (hn : n ≤ 32) (h : ∀ j, j < l.length → tapOk n l j) (hw : bit01 w) : ∀ i, i ≤ l.length → ((pop (packL w &&& maskT (l.take i)) 32 % 2 : Nat) : Int) = xorT (l.take i) w
 | 0, _ => by
  have e : packL w &&& 0 = 0 := Nat.and_zero _
  have : ∀ k, pop 0 k = 0 := fun k => by
   unfold pop
   induction k with
   | zero => rfl
   | succ k ih => simp [bsum, ih, bitN]
  simp [maskT, xorT, this]
 | i + 1, hi => by
  have ih := jk6 hn h hw i (by omega)
  have hm := jof h (i := i) (by omega)
  have ht := (h i (by omega)).2
  have ht0 := jfh h (j := i) (by omega)
  have hb := jdO hw (l.getD i 0).toNat
  rw [jbi (by omega), jhk, joe]
  have key : pop (packL w &&& (maskT (l.take i) ||| 2 ^ (l.getD i 0).toNat)) 32 = pop (packL w &&& maskT (l.take i)) 32 + if (l.getD i 0).toNat < 32 then bitN (packL w) (l.getD i 0).toNat else 0 := by
   refine jk5 32 fun j _ => ?_
   simp only [bitN, Nat.testBit_and, Nat.testBit_or, Nat.testBit_two_pow]
   by_cases e : j = (l.getD i 0).toNat
   ·rw [if_pos e, ← e, e, hm]; simp
   ·rw [if_neg e, decide_eq_false (Ne.symm e)]; simp
  rw [key, if_pos (by omega), hb]
  have hx := jkm (l.take i) w
  have hy := hw.get (l.getD i 0).toNat
  omega
/-! ### Sequences -/
def stepW (ts w : List Int) : List Int := w.tail ++ [xorT ts w]
def winW (ts w : List Int) : Nat → List Int
 | 0 => w
 | k + 1 => stepW ts (winW ts w k)
def seqB (ts w : List Int) (k : Nat) : Int := (winW ts w k).getD 0 0
def runL (ts w : List Int) (m : Nat) : List Int := (List.range m).map (seqB ts w)
theorem jdr (ts w : List Int) (m : Nat) : (runL ts w m).length = m := by simp [runL]
theorem jog (ts w : List Int) (m : Nat) : runL ts w (m + 1) = runL ts w m ++ [seqB ts w m] := by simp [runL, List.range_succ]
theorem jcE {ts w : List Int} (h : 1 ≤ w.length) : ∀ k, (winW ts w k).length = w.length
 | 0 => rfl
 | k + 1 => by simp [winW, stepW, jcE h k]; omega
theorem jdP {ts w : List Int} (h : bit01 w) : ∀ k, bit01 (winW ts w k)
 | 0 => h
 | k + 1 => fun x hx => by
  simp only [winW, stepW, List.mem_append, List.mem_singleton] at hx
  rcases hx with hx | rfl
  ·exact jdP h k x (List.mem_of_mem_tail hx)
  ·exact jkm _ _
theorem jkn {ts w : List Int} (h : bit01 w) (k : Nat) : seqB ts w k = 0 ∨ seqB ts w k = 1 := (jdP h k).get 0
theorem jmh {ts w : List Int} (h : 1 ≤ w.length) (hw : bit01 w) : packL (stepW ts w) = packL w / 2 + 2 ^ (w.length - 1) * (xorT ts w).toNat := by
 unfold stepW
 rw [jfg]
 match w, h with
 | b :: w, _ =>
  have hb := hw b List.mem_cons_self
  simp only [List.tail_cons, List.length_cons, packL, Nat.add_sub_cancel]
  congr 1
  rcases hb with rfl | rfl <;> simp <;> omega
/-! ### Periods -/
def popTab : List Nat := [0, 1, 1, 2, 1, 2, 2, 3, 1, 2, 2, 3, 2, 3, 3, 4, 1, 2, 2, 3, 2, 3, 3, 4, 2, 3, 3, 4, 3, 4, 4, 5, 1, 2, 2, 3, 2, 3, 3, 4, 2, 3, 3, 4, 3, 4, 4, 5, 2, 3, 3, 4, 3, 4, 4, 5, 3, 4, 4, 5, 4, 5, 5, 6, 1, 2, 2, 3, 2, 3, 3, 4, 2, 3, 3, 4, 3, 4, 4, 5, 2, 3, 3, 4, 3, 4, 4, 5, 3, 4, 4, 5, 4, 5, 5, 6, 2, 3, 3, 4, 3, 4, 4, 5, 3, 4, 4, 5, 4, 5, 5, 6, 3, 4, 4, 5, 4, 5, 5, 6, 4, 5, 5, 6, 5, 6, 6, 7, 1, 2, 2, 3, 2, 3, 3, 4, 2, 3, 3, 4, 3, 4, 4, 5, 2, 3, 3, 4, 3, 4, 4, 5, 3, 4, 4, 5, 4, 5, 5, 6, 2, 3, 3, 4, 3, 4, 4, 5, 3, 4, 4, 5, 4, 5, 5, 6, 3, 4, 4, 5, 4, 5, 5, 6, 4, 5, 5, 6, 5, 6, 6, 7, 2, 3, 3, 4, 3, 4, 4, 5, 3, 4, 4, 5, 4, 5, 5, 6, 3, 4, 4, 5, 4, 5, 5, 6, 4, 5, 5, 6, 5, 6, 6, 7, 3, 4, 4, 5, 4, 5, 5, 6, 4, 5, 5, 6, 5, 6, 6, 7, 4, 5, 5, 6, 5, 6, 6, 7, 5, 6, 6, 7, 6, 7, 7, 8]
theorem jjc : ∀ i, i < 256 → popTab[i]? = some (pop i 8) ∧ pop i 8 ≤ 8 := by
 have h : ∀ i : Fin 256, popTab[i.val]? = some (pop i.val 8) ∧ pop i.val 8 ≤ 8 := by decide +kernel
 exact fun i hi => h ⟨i, hi⟩
theorem jh9 (x : Nat) : pop x 8 ≤ 8 := by
 rw [← jod]
 exact (jjc _ (Nat.mod_lt _ (by decide))).2
theorem jrP : B102 = ((.mk 1 21 [(.tmp 2)] (.seq (.region [⟨(some 2), (.mv (.const (.int .i64 0))), none⟩]) (.seq (.draw 0 [⟨0, false, [], ⟨(some 3), (.mv (.tmp 0)), none⟩⟩, ⟨1, false, [], ⟨(some 4), (.bin .shr (.tmp 3) (.const (.int .u64 24))), none⟩⟩, ⟨2, false, [], ⟨(some 5), (.strIdx (.const (.str popTab)) (.tmp 4)), none⟩⟩, ⟨3, false, [], ⟨(some 6), (.mv (.tmp 0)), none⟩⟩, ⟨4, false, [], ⟨(some 7), (.bin .shr (.tmp 6) (.const (.int .u64 16))), none⟩⟩, ⟨5, false, [], ⟨(some 8), (.bin .and (.tmp 7) (.const (.int .u32 255))), none⟩⟩, ⟨6, false, [], ⟨(some 9), (.strIdx (.const (.str popTab)) (.tmp 8)), none⟩⟩, ⟨7, false, [], ⟨(some 10), (.bin .add (.tmp 5) (.tmp 9)), none⟩⟩, ⟨8, false, [], ⟨(some 11), (.mv (.tmp 0)), none⟩⟩, ⟨9, false, [], ⟨(some 12), (.bin .shr (.tmp 11) (.const (.int .u64 8))), none⟩⟩, ⟨10, false, [], ⟨(some 13), (.bin .and (.tmp 12) (.const (.int .u32 255))), none⟩⟩, ⟨11, false, [], ⟨(some 14), (.strIdx (.const (.str popTab)) (.tmp 13)), none⟩⟩, ⟨12, false, [], ⟨(some 15), (.bin .add (.tmp 10) (.tmp 14)), none⟩⟩, ⟨13, false, [], ⟨(some 16), (.mv (.tmp 0)), none⟩⟩, ⟨14, false, [], ⟨(some 17), (.bin .and (.tmp 16) (.const (.int .u32 255))), none⟩⟩, ⟨15, false, [], ⟨(some 18), (.strIdx (.const (.str popTab)) (.tmp 17)), none⟩⟩, ⟨16, false, [], ⟨(some 19), (.bin .add (.tmp 15) (.tmp 18)), none⟩⟩, ⟨17, false, [], ⟨(some 20), (.conv .i64 (.tmp 19)), none⟩⟩, ⟨18, false, [], ⟨(some 2), (.mv (.tmp 20)), none⟩⟩]) .ret)))) := rfl
def strA (x i : AV) : Option AV :=
 match x, i with
 | .str bs, .int _ k => if 0 ≤ k then match bs[k.toNat]? with
   | some b => if b < 256 then some (.int .u8 b) else none
   | none => none
  else none
 | _, _ => none
theorem jmi {nid : Option Nat} {ev : AOpd → AV} {h : Heap} {K : AV → Heap → Prop} {x i} : @opR nid (.strIdx x i) ev h ⟨K⟩ = @opt1 (strA (ev x) (ev i)) h ⟨K⟩ := by
 simp only [opR, aOp, pureA, opt1]
 cases ev x <;> cases ev i <;> simp only [strA, Option.map_none]
 rename_i bs kk k
 by_cases c : 0 ≤ k
 ·simp only [if_pos c]
  cases bs[k.toNat]? with
  | none => rfl
  | some b =>
   by_cases c2 : b < 256
   ·simp only [if_pos c2]; rfl
   ·simp only [if_neg c2]; rfl
 ·simp only [if_neg c]; rfl
theorem jrQ {i : Int} {k : IntKind} (h : 0 ≤ i ∧ i < 256) : strA (.str popTab) (.int k i) = some (.int .u8 (pop i.toNat 8 : Nat)) := by
 have h1 := jjc i.toNat (by omega)
 simp only [strA, if_pos h.1, h1.1]
 rw [if_pos (by omega)]
theorem nat32 {n : Nat} (h : n < 4294967296) : (BitVec.ofInt 32 (n : Int)).toNat = n := by
 rw [BitVec.toNat_ofInt]
 have : ((n : Int) % ((2 ^ 32 : Nat) : Int)).toNat = n := by
  rw [Int.emod_eq_of_lt (by omega) (by omega)]; simp
 exact this
theorem jko {m n : Nat} (hm : m < 4294967296) (hn : n < 4294967296) : bitsA .and .u32 (m : Int) (n : Int) = ((m &&& n : Nat) : Int) := by
 show IntKind.u32.wrap ((BitVec.ofInt 32 (m : Int) &&& BitVec.ofInt 32 (n : Int)).toNat : Int) = _
 rw [BitVec.toNat_and, nat32 hm, nat32 hn]
 have : m &&& n ≤ m := Nat.and_le_left
 exact w_u32 (by omega)
theorem joh {m n : Nat} (hm : m < 4294967296) (hn : n < 4294967296) : bitsA .or .u32 (m : Int) (n : Int) = ((m ||| n : Nat) : Int) := by
 show IntKind.u32.wrap ((BitVec.ofInt 32 (m : Int) ||| BitVec.ofInt 32 (n : Int)).toNat : Int) = _
 rw [BitVec.toNat_or, nat32 hm, nat32 hn]
 have : m ||| n < 2 ^ 32 := Nat.or_lt_two_pow (by omega) (by omega)
 exact w_u32 (by omega)
theorem jsu {a : Int} (h : 0 ≤ a ∧ a < 4294967296) : bitsA .and .u32 a 255 = a % 256 := by
 obtain ⟨n, rfl⟩ := Int.eq_ofNat_of_zero_le h.1
 have := jko (m := n) (n := 255) (by omega) (by decide)
 have e : n &&& 255 = n % 256 := Nat.and_two_pow_sub_one_eq_mod n 8
 rw [e] at this
 rw [show ((255 : Nat) : Int) = 255 from rfl] at this
 rw [this]; omega
theorem pop32 (x : Nat) : pop x 32 = pop (x / 16777216) 8 + pop (x / 65536 % 256) 8 + pop (x / 256 % 256) 8 + pop (x % 256) 8 := by
 have e1 : pop x 32 = pop x 8 + pop (x >>> 8) 24 := jh6 x 8 24
 have e2 : pop (x >>> 8) 24 = pop (x >>> 8) 8 + pop (x >>> 8 >>> 8) 16 := jh6 _ 8 16
 have e3 : pop (x >>> 8 >>> 8) 16 = pop (x >>> 8 >>> 8) 8 + pop (x >>> 8 >>> 8 >>> 8) 8 := jh6 _ 8 8
 have m : ∀ y, pop (y % 256) 8 = pop y 8 := fun y => jod y 8
 rw [m, m, m, e1, e2, e3]
 simp only [Nat.shiftRight_eq_div_pow, Nat.div_div_eq_div_mul, Nat.reducePow, Nat.reduceMul]
 omega
section
variable {C : Ctx}
theorem jgT (hC : Has C T102) {x : Nat} {h : Heap} (hx : x < 4294967296) : ACalls C 102 [.int .u32 (x : Nat)] h (fun r h' => r = .int .i64 (pop x 32 : Nat) ∧ h' = h) := by
 rw [pop32]
 have a1 := jh9 (x / 16777216)
 have a2 := jh9 (x / 65536 % 256)
 have a3 := jh9 (x / 256 % 256)
 have a4 := jh9 (x % 256)
 have t1 : ((x : Int) / 16777216).toNat = x / 16777216 := by omega
 have t2 : ((x : Int) / 65536 % 256).toNat = x / 65536 % 256 := by omega
 have t3 : ((x : Int) / 256 % 256).toNat = x / 256 % 256 := by omega
 have t4 : ((x : Int) % 256).toNat = x % 256 := by omega
 refine jcB (hC.body (by decide) tab102) (Nat.le_of_ble_eq_true rfl) ?_
 show wp C _ none B102.code _ _
 simp only [jrP]
 refine zs7 @jmi @jrQ @jsu @t1 @t2 @t3 @t4 ?_
 omega
theorem jmj (hC : Has C T99) {v : AV} {l : List Int} {x : Int} {h : Heap} (hl : RI h v l) : ACalls C 99 [v, .int .i64 x] h (fun r h' => r = .int .i64 (idxI (fun y => x == y) l) ∧ h' = h) := by
 have hlt := hl.lt
 refine zf hC tab99 ?_; simp only [B99, zB.1]; refine zs1 @hl.len ?_
 refine jaA (fun j t h' => h' = h ∧ t 0 = v ∧ t 1 = .int .i64 x ∧ t 7 = .int .i64 l.length ∧ ∃ i : Nat, t 8 = .int .i64 (i : Nat) ∧ i ≤ l.length ∧ (l.take i).any (fun y => x == y) = false ∧ j = l.length - i) ⟨rfl, rfl, rfl, rfl, 0, rfl, by omega, by simp, rfl⟩ ?_
 rintro j t h' ⟨hh, e0, e1, e7, i, e8, hi, hp, hj⟩
 subst hh
 refine zs2 @e7 @e8 ?_
 refine Br.by (fun c1 => ?_) (fun c1 => ?_)
 ·have hi' : i < l.length := by omega
  refine zs5 @e0 @e1 @e8 @hl.idx @hl.load ?_
  refine Br.by (fun c2 => ?_) (fun c2 => ?_)
  ·have := jhj hi' hp (by simpa using c2)
   simp -implicitDefEqProofs (disch := first | exact zd | fail) only [↓wpPre, jbb, jbc, Int.reduceToNat, Int.reducePow, Int.reduceMul, Int.reduceAdd, Int.reduceSub, Int.reduceNeg, Nat.reduceAdd, Nat.reduceMul, Nat.reducePow, Int.reduceLT, Int.reduceLE, Int.reduceEq, Nat.reduceEqDiff, idxI, if_pos this.1, this.2]
  ·refine zs4 @e0 @e1 @e7 @e8 ?_
   exact ⟨_, ⟨i + 1, by simp, by omega, jeF hi' hp (by simpa using c2), rfl⟩, by omega⟩
 ·have : i = l.length := by omega
  subst this
  rw [List.take_of_length_le (Nat.le_refl _)] at hp
  refine zs2 @idxI.eq_1 @hp ?_
  simp
theorem jcn (hC : Has C T89) {v : AV} {l : List Int} {x : Int} {h : Heap} (hl : RI h v l) : ACalls C 89 [v, .int .i64 x] h (fun r h' => r = .bool (l.any fun y => x == y) ∧ h' = h) := by
 refine zf hC tab89 ?_; simp only [B89, zB.1]; refine zs ?_
 refine jaa.eq (jmj (zu hC T99) hl) ?_
 refine zs ?_
 cases hx : l.any (fun y => x == y) with
 | true => simp [jdq, hx]
 | false => simp [jdq, hx]
end
end Go.Ae
namespace Go.Ae
def jek (n : Int) (ts w : List Int) : Prop := (1 ≤ ts.length ∧ ts.getD 0 0 = 0 ∧ ∀ j, j < ts.length → tapOk n ts j) ∧ (w.length : Int) = n ∧ (w.any fun x => !(x == 0 || x == 1)) = false
instance (n : Int) (ts w : List Int) : Decidable (jek n ts w) := by unfold jek; infer_instance
def jc7 (n : Int) (ts w : List Int) : Int := if n < 2 ∨ 16 < n then 2 else if jek n ts w then 0 else 3
structure RegOk (n : Nat) (ts w : List Int) : Prop where
 n2 : 2 ≤ n
 n16 : n ≤ 16
 len : w.length = n
 bits : bit01 w
 t1 : 1 ≤ ts.length
 t0 : ts.getD 0 0 = 0
 taps : ∀ j, j < ts.length → tapOk n ts j
theorem joi {n : Int} {ts w : List Int} (h : jc7 n ts w = 0) : ∃ m : Nat, n = m ∧ RegOk m ts w := by
 unfold jc7 at h
 split at h
 ·cases h
 ·split at h
  ·rename_i h1 h2
   refine ⟨w.length, h2.2.1.symm, ?_⟩
   obtain ⟨⟨a1, a2, a3⟩, b1, b2⟩ := h2
   refine ⟨by omega, by omega, rfl, fun x hx => ?_, a1, a2, by rw [b1]; exact a3⟩
   have := List.any_eq_false.1 b2 x hx
   simp only [Bool.not_eq_true, Bool.not_eq_false', Bool.or_eq_true, beq_iff_eq] at this
   exact this
  ·cases h
def madeR (n : Int) (ts w : List Int) : AV := if jc7 n ts w = 0 then .tuple [.agg [.int .i64 n, .int .u32 (packL w), .int .u32 (maskT ts)], .int .i64 0] else .tuple [.agg [.int .i64 0, .int .u32 0, .int .u32 0], .int .i64 (jc7 n ts w)]
theorem jeG {k : Nat} (h : k ≤ 16) : 2 ^ k ≤ 65536 := Nat.pow_le_pow_right (by decide) h
theorem jia (k : Nat) : (2 : Int) ^ k = ((2 ^ k : Nat) : Int) := by simp
theorem jib {n : Nat} {ts : List Int} (h : ∀ j, j < ts.length → tapOk n ts j) (i : Nat) : maskT (ts.take i) < 2 ^ n := by
 refine jh8 _ _ Nat.one_le_two_pow (fun t ht => ?_)
 obtain ⟨j, hj, rfl⟩ := List.mem_take_iff_getElem.1 ht
 have hj' : j < ts.length := by omega
 have h1 := (h j hj').2
 have h2 := jfh h hj'
 have e : ts[j] = ts.getD j 0 := by simp [hj']
 rw [e]; omega
section
variable {C : Ctx}
set_option maxHeartbeats 1000000 in
theorem jjd (hC : Has C T92) {n : Int} {v1 v2 : AV} {ts w : List Int} {h : Heap} (h1 : RI h v1 ts) (h2 : RI h v2 w) : ACalls C 92 [.int .i64 n, v1, v2] h (fun r h' => r = madeR n ts w ∧ h' = h) := by
 have l1 := h1.lt
 have l2 := h2.lt
 refine ACalls.gc0 (P := fun r h' => r = madeR n ts w ∧ HSub h h') ?_ (fun r h' hp => ⟨by rw [hp.1]; unfold madeR; split <;> exact jc4 (by simp [AV.free, AV.bel, AV.bels]), hp.2, hp.1, rfl⟩)
 have pe : jc7 n ts w = if n < 2 ∨ 16 < n then 2 else if jek n ts w then 0 else 3 := rfl
 have fin : ∀ e, jc7 n ts w = e → e ≠ 0 → AV.tuple [.agg [.int .i64 0, .int .u32 0, .int .u32 0], .int .i64 e] = madeR n ts w := fun e h0 he => by unfold madeR; rw [if_neg (by rw [h0]; exact he), h0]
 by_cases c0 : n < 2 ∨ 16 < n
 ·rw [if_pos c0] at pe
  refine zf hC tab92 ?_; simp only [B92, zB.1]; refine zs ?_
  (repeat' (first | (refine Br.by (fun _ => ?_) (fun _ => ?_)) | (refine zs ?_)))
  all_goals first | exact ⟨fin 2 pe (by decide), (HSub.push1 _ _)⟩ | omega
 rw [if_neg c0] at pe
 by_cases c1 : ts.length = 0
 ·rw [if_neg (fun hg => by have := hg.1.1; omega)] at pe
  refine zf hC tab92 ?_; simp only [B92, zB.1]; refine zs1 @h1.len ?_
  exact ⟨fin 3 pe (by decide), (HSub.push1 _ _)⟩
 by_cases c2 : ts.getD 0 0 ≠ 0
 ·rw [if_neg (fun hg => c2 hg.1.2.1)] at pe
  refine zf hC tab92 ?_; simp only [B92, zB.1]; refine zs3 @h1.len @h1.idx @h1.loadC ?_
  exact ⟨fin 3 pe (by decide), (HSub.push1 _ _)⟩
 by_cases c3 : (w.length : Int) ≠ n
 ·rw [if_neg (fun hg => c3 hg.2.1)] at pe
  refine zf hC tab92 ?_; simp only [B92, zB.1]; refine zs4 @h1.len @h1.idx @h1.loadC @h2.len ?_
  exact ⟨fin 3 pe (by decide), (HSub.push1 _ _)⟩
 have c2' : ts.getD 0 0 = 0 := Decidable.not_not.1 c2
 have c3' : (w.length : Int) = n := Decidable.not_not.1 c3
 have hz : RI (h.push (.cells [.int .i64 0, .int .u32 0, .int .u32 0] true 0)) v1 ts := h1.mono (HSub.push1 _ _)
 refine zf hC tab92 ?_; simp only [B92, zB.1]; refine zs5 @h1.len @h1.idx @h1.loadC @h2.len @c2' ?_
 refine jaA (fun j t h' => ∃ i : Nat, h' = (h.push (.cells [.int .i64 0, .int .u32 0, .int .u32 0] true 0)).push (.cells [.int .i64 n, .int .u32 0, .int .u32 (maskT (ts.take i) : Nat)] true 0) ∧ t 0 = .int .i64 n ∧ t 2 = v2 ∧ t 6 = .ptr h.size 0 ∧ t 8 = .ptr (h.size + 1) 0 ∧ t 9 = .int .i64 (if i = 0 then -1 else ts.getD (i - 1) 0) ∧
   t 39 = v1 ∧ t 40 = .int .i64 ts.length ∧ t 41 = .int .i64 (i : Nat) ∧ i ≤ ts.length ∧ (∀ q, q < i → tapOk n ts q) ∧ j = ts.length - i) (j0 := ts.length)
  ⟨0, rfl, rfl, rfl, rfl, rfl, rfl, rfl, rfl, rfl, by omega, by omega, rfl⟩ ?_
 rintro j t h' ⟨i, rfl, e0, e2, e6, e8, e9, e39, e40, e41, hi, hok, hj⟩
 refine zs2 @e40 @e41 ?_
 refine Br.by (fun c => ?_) (fun c => ?_)
 ·have hi' : i < ts.length := by omega
  have hsub : HSub h ((h.push (.cells [.int .i64 0, .int .u32 0, .int .u32 0] true 0)).push (.cells [.int .i64 n, .int .u32 0, .int .u32 (maskT (ts.take i) : Nat)] true 0)) := (HSub.push1 _ _).push _
  by_cases ct : tapOk n ts i
  ·have ct' := ct
   unfold tapOk at ct'
   have t0 : 0 ≤ ts.getD i 0 := by
    have h1 := ct'.1
    by_cases h0 : i = 0
    ·rw [if_pos h0] at h1; omega
    ·rw [if_neg h0] at h1
     have hp : ∀ j, j ≤ i - 1 → -1 < ts.getD j 0 := by
      intro j
      induction j with
      | zero => intro _; omega
      | succ j ih =>
       intro hj
       have := (hok (j + 1) (by omega)).1
       rw [if_neg (by omega), show j + 1 - 1 = j by omega] at this
       have := ih (by omega)
       omega
     have := hp (i - 1) (Nat.le_refl _)
     omega
   have hm : maskT (ts.take i) < 65536 := by
    have h1 := jh8 (n := 16) (ts.take i) 0 (by decide) (fun x hx => by
     obtain ⟨q, hq, rfl⟩ := List.mem_take_iff_getElem.1 hx
     have hq' : q < ts.length := by omega
     have h2 := (hok q (by omega)).2
     have e : ts[q] = ts.getD q 0 := by simp [hq']
     rw [e]; omega)
    exact h1
   have hpw := jeG (k := (ts.getD i 0).toNat) (by omega)
   have ec := jia (ts.getD i 0).toNat
   have em : maskT (ts.take (i + 1)) = maskT (ts.take i) ||| 2 ^ (ts.getD i 0).toNat := by rw [jbi hi', jhk]
   have hor := joh (m := maskT (ts.take i)) (n := 2 ^ (ts.getD i 0).toNat) (by omega) (by omega)
   rw [← em] at hor
   have hlast : ¬ ts.getD i 0 ≤ (if i = 0 then -1 else ts.getD (i - 1) 0) := by omega
   generalize hP : 2 ^ (ts.getD i 0).toNat = P at hpw ec hor
   simp -implicitDefEqProofs (disch := first | exact zd | fail) only [↓wpPre, jbb, jbc, Int.reduceToNat, Int.reducePow, Int.reduceMul, Int.reduceAdd, Int.reduceSub, Int.reduceNeg, Nat.reduceAdd, Nat.reduceMul, Nat.reducePow, Int.reduceLT, Int.reduceLE, Int.reduceEq, Nat.reduceEqDiff, e0, e2, e6, e8, e9, e39, e40, e41, h1.idx, h1.loadC, Int.one_mul, ec, hor]
   exact ⟨_, ⟨i + 1, rfl, by simp, by simp, by omega, fun q hq => by
    by_cases e : q = i
    ·subst e; exact ct
    ·exact hok q (by omega), rfl⟩, by omega⟩
  ·have hbad : ¬ jek n ts w := fun hg => ct (hg.1.2.2 i hi')
   rw [if_neg hbad] at pe
   unfold tapOk at ct
   by_cases cl : ts.getD i 0 ≤ (if i = 0 then -1 else ts.getD (i - 1) 0)
   ·refine zs7 @e0 @e6 @e9 @e39 @e41 @h1.idx @h1.loadC ?_
    exact ⟨fin 3 pe (by decide), (HSub.push1 _ _).push _⟩
   ·refine zs7 @e0 @e6 @e9 @e39 @e41 @h1.idx @h1.loadC ?_
    exact ⟨fin 3 pe (by decide), (HSub.push1 _ _).push _⟩
 ·have : i = ts.length := by omega
  subst this
  rw [List.take_length]
  have hmm : (maskT ts : Int) = (maskT ts : Int) := rfl
  refine zs2 @e2 @h2.len ?_
  refine jaA (fun j u h' => ∃ i : Nat, h' = (h.push (.cells [.int .i64 0, .int .u32 0, .int .u32 0] true 0)).push (.cells [.int .i64 n, .int .u32 (packL (w.take i) : Nat), .int .u32 (maskT ts : Nat)] true 0) ∧ u 6 = .ptr h.size 0 ∧ u 8 = .ptr (h.size + 1) 0 ∧
   u 62 = v2 ∧ u 63 = .int .i64 w.length ∧ u 64 = .int .i64 (i : Nat) ∧ i ≤ w.length ∧ bit01 (w.take i) ∧ j = w.length - i) (j0 := w.length)
   ⟨0, rfl, e6, e8, rfl, rfl, rfl, by omega, fun x hx => by simp at hx, rfl⟩ ?_
  rintro j u h' ⟨i, rfl, f6, f8, f62, f63, f64, hi, hbt, hj⟩
  refine zs2 @f63 @f64 ?_
  refine Br.by (fun c => ?_) (fun c => ?_)
  ·have hi' : i < w.length := by omega
   by_cases cb : w.getD i 0 = 0 ∨ w.getD i 0 = 1
   ·have hlt := jdZ hbt
    have hl : (w.take i).length = i := by simp; omega
    rw [hl] at hlt
    have hpw := jeG (k := i) (by omega)
    have ec := jia i
    have hb1 : bit01 (w.take (i + 1)) := fun x hx => by
     rw [jbi hi'] at hx
     rcases List.mem_append.1 hx with hx | hx
     ·exact hbt x hx
     ·rw [List.mem_singleton.1 hx]; exact cb
    have es : packL (w.take i) ||| 2 ^ i * (w.getD i 0).toNat = packL (w.take (i + 1)) := by
     rw [jbi hi', jfg, hl, Nat.or_comm, ← Nat.two_pow_add_eq_or_of_lt hlt, Nat.add_comm]
    generalize hP : 2 ^ i = P at hlt hpw ec es
    have e4 : w.getD i 0 * (P : Int) = ((P * (w.getD i 0).toNat : Nat) : Int) := by rcases cb with e | e <;> rw [e] <;> simp
    have e5 : P * (w.getD i 0).toNat ≤ 65536 := by rcases cb with e | e <;> rw [e] <;> simp <;> omega
    have hor := joh (m := packL (w.take i)) (n := P * (w.getD i 0).toNat) (by omega) (by omega)
    rw [es] at hor
    have cb2 : ¬ (w.getD i 0 ≠ 0 ∧ w.getD i 0 ≠ 1) := by omega
    rcases cb with cb | cb
    ·refine zs10 @f6 @f8 @f62 @f63 @f64 @h2.idx @h2.loadC @ec @e4 @hor ?_
     exact ⟨_, ⟨i + 1, rfl, by simp, by omega, hb1, rfl⟩, by omega⟩
    ·refine zs10 @f6 @f8 @f62 @f63 @f64 @h2.idx @h2.loadC @ec @e4 @hor ?_
     exact ⟨_, ⟨i + 1, rfl, by simp, by omega, hb1, rfl⟩, by omega⟩
   ·have hbad : ¬ jek n ts w := fun hg => by
     have := List.any_eq_false.1 hg.2.2 _ (jbq hi')
     simp only [Bool.not_eq_true, Bool.not_eq_false', Bool.or_eq_true, beq_iff_eq] at this
     exact cb this
    rw [if_neg hbad] at pe
    refine zs5 @f6 @f62 @f64 @h2.idx @h2.loadC ?_
    exact ⟨fin 3 pe (by decide), (HSub.push1 _ _).push _⟩
  ·have : i = w.length := by omega
   subst this
   rw [List.take_length] at hbt ⊢
   have hgood : jek n ts w := ⟨⟨by omega, c2', hok⟩, c3', List.any_eq_false.2 fun x hx => by
    simp only [Bool.not_eq_true, Bool.not_eq_false', Bool.or_eq_true, beq_iff_eq]; exact hbt x hx⟩
   rw [if_pos hgood] at pe
   refine zs2 @f6 @f8 ?_
   refine ⟨by unfold madeR; rw [if_pos pe], ?_⟩
   exact (HSub.push1 _ _).push _
end
end Go.Ae
namespace Go.Ae
theorem jqD (x : Nat) : ∀ n, pop x n ≤ n
 | 0 => Nat.le_refl _
 | n + 1 => by
  have := jqD x n
  have h2 : bitN x n ≤ 1 := by unfold bitN; cases x.testBit n <;> simp
  unfold pop at *
  simp only [bsum]; omega
theorem RegOk.w1 {n : Nat} {ts w : List Int} (R : RegOk n ts w) : 1 ≤ w.length := by have := R.n2; have := R.len; omega
theorem RegOk.pack_lt {n : Nat} {ts w : List Int} (R : RegOk n ts w) (k : Nat) : packL (winW ts w k) < 65536 := by
 have h1 := jdZ (jdP (ts := ts) R.bits k)
 rw [jcE R.w1, R.len] at h1
 have := jeG R.n16
 omega
theorem RegOk.mask_lt {n : Nat} {ts w : List Int} (R : RegOk n ts w) : maskT ts < 65536 := by
 have h1 := jib R.taps ts.length
 rw [List.take_length] at h1
 have := jeG R.n16
 omega
theorem RegOk.step {n : Nat} {ts w : List Int} (R : RegOk n ts w) (k : Nat) : packL (winW ts w k) / 2 ||| 2 ^ (n - 1) * (xorT ts (winW ts w k)).toNat = packL (winW ts w (k + 1)) := by
 have h1 := jmh (ts := ts) (w := winW ts w k) (by rw [jcE R.w1]; exact R.w1) (jdP R.bits k)
 have hlt := jdZ (jdP (ts := ts) R.bits k)
 rw [jcE R.w1, R.len] at h1 hlt
 have hn := R.n2
 have e : 2 ^ n = 2 ^ (n - 1) * 2 := by rw [← Nat.pow_succ]; congr 1; omega
 have hlt2 : packL (winW ts w k) / 2 < 2 ^ (n - 1) := by omega
 rw [Nat.or_comm, ← Nat.two_pow_add_eq_or_of_lt hlt2, Nat.add_comm, ← h1]; rfl
theorem RegOk.par {n : Nat} {ts w : List Int} (R : RegOk n ts w) (k : Nat) : ((pop (packL (winW ts w k) &&& maskT ts) 32 : Nat) : Int) % 2 = xorT ts (winW ts w k) := by
 have h1 := jk6 (n := n) (by have := R.n16; omega) R.taps (jdP (ts := ts) R.bits k) ts.length (Nat.le_refl _)
 rw [List.take_length] at h1
 rw [← h1]; omega
theorem RegOk.bit {n : Nat} {ts w : List Int} (R : RegOk n ts w) (k : Nat) : ((packL (winW ts w k) &&& 1 : Nat) : Int) = seqB ts w k := by
 have h1 := jdO (jdP (ts := ts) R.bits k) 0
 have h2 := jkn (ts := ts) R.bits k
 have h3 : packL (winW ts w k) &&& 1 = packL (winW ts w k) % 2 := Nat.and_one_is_mod _
 unfold seqB at *
 unfold bitN at h1
 rw [Nat.testBit_zero] at h1
 rw [h3]
 rcases h2 with h2 | h2
 ·rw [h2] at h1 ⊢
  have : ¬ packL (winW ts w k) % 2 = 1 := fun e => by simp [e] at h1
  omega
 ·rw [h2] at h1 ⊢
  have : packL (winW ts w k) % 2 = 1 := by
   by_cases e : packL (winW ts w k) % 2 = 1
   ·exact e
   ·simp [e] at h1
  omega
section
variable {C : Ctx}
theorem joj (hC : Has C T95) {a b c : AV} {h : Heap} : ACalls C 95 [.agg [a, b, c]] h (fun r h' => r = .func 101 [] [.ptr h.size 0] ∧ h' = h.push (.cells [a, b, c] true 0)) := by
 refine zf hC tab95 ?_; simp only [B95, zB.1]; exact ze
def jk7 (n : Nat) (ts w : List Int) (k : Nat) : ABlk := .cells [.int .i64 (n : Nat), .int .u32 (packL (winW ts w k) : Nat), .int .u32 (maskT ts : Nat)] true 0
theorem jmk (hC : Has C T101) {l b n : Nat} {ts w : List Int} {h : Heap} (R : RegOk n ts w) (J : Nat → Heap → Prop) (D : Heap → Prop) (M : Nat) (h0 : J 0 h) (hb : ∀ k h', J k h' → h'.get b = some (jk7 n ts w k)) (hM : ∀ k h', J k h' → k ≤ M)
  (hy : ∀ k h', J k h' → jg5 C l [.int .i64 (seqB ts w k), .int .u32 (packL (winW ts w (k + 1)) : Nat)] (h'.put b (jk7 n ts w (k + 1))) (fun r h'' => (r = .bool true ∧ J (k + 1) h'') ∨ (r = .bool false ∧ D h''))) :
  ACalls C 101 [.yield l, .ptr b 0] h (fun _ h' => D h') := by
 refine zf hC tab101 ?_; simp only [B101, zB.1]; refine zs ?_
 refine jaA (fun j t h' => ∃ k : Nat, J k h' ∧ t 0 = .yield l ∧ t 1 = .ptr b 0 ∧ j = M - k) (j0 := M) ⟨0, h0, rfl, rfl, rfl⟩ ?_
 rintro j t h' ⟨k, hJ, e0, e1, hj⟩
 have hbx := hb k h' hJ
 have hbl := Heap.lt_of_get hbx
 have hm := hM k h' hJ
 have p1 := R.pack_lt k
 have p2 := R.mask_lt
 have p3 : packL (winW ts w k) &&& maskT ts < 65536 := Nat.lt_of_le_of_lt Nat.and_le_left p1
 have a1 : bitsA .and .u32 (packL (winW ts w k) : Nat) 1 = seqB ts w k := by
  have := jko (m := packL (winW ts w k)) (n := 1) (by omega) (by decide)
  rw [R.bit k] at this; exact this
 have a2 := jko (m := packL (winW ts w k)) (n := maskT ts) (by omega) (by omega)
 have sq := jkn (ts := ts) R.bits k
 have xq := jkm ts (winW ts w k)
 have hpar := R.par k
 have hpl := jqD (packL (winW ts w k) &&& maskT ts) 32
 have hpw := jeG (k := n - 1) (by have := R.n16; omega)
 have ec := jia (n - 1)
 have hst := R.step k
 have hn2 := R.n2
 have hn16 := R.n16
 have hor := joh (m := packL (winW ts w k) / 2) (n := 2 ^ (n - 1) * (xorT ts (winW ts w k)).toNat) (by omega) (by rcases xq with e | e <;> rw [e] <;> simp <;> omega)
 rw [hst] at hor
 have e4 : xorT ts (winW ts w k) * ((2 ^ (n - 1) : Nat) : Int) = ((2 ^ (n - 1) * (xorT ts (winW ts w k)).toNat : Nat) : Int) := by rcases xq with e | e <;> rw [e] <;> simp
 have e5 : (2 ^ (n - 1) * (xorT ts (winW ts w k)).toNat : Nat) ≤ 65536 := by rcases xq with e | e <;> rw [e] <;> simp <;> omega
 have e6 : ((n : Int) - 1).toNat = n - 1 := by omega
 have e7 : (packL (winW ts w k) : Int) / 2 = ((packL (winW ts w k) / 2 : Nat) : Int) := by omega
 have hb2 : h'.get b = some (.cells [.int .i64 (n : Nat), .int .u32 (packL (winW ts w k) : Nat), .int .u32 (maskT ts : Nat)] true 0) := hbx
 refine zs5 @e0 @e1 @hb2 @a1 @a2 ?_
 refine jaa.eq (jgT (zu hC T102) (by omega)) ?_
 refine zs9 @e0 @e1 @hb2 @hpar @e6 @ec @e4 @e7 @hor ?_
 refine jfa.of (hy k h' hJ) ?_
 rintro r h'' (⟨rfl, hJ'⟩ | ⟨rfl, hD⟩)
 ·refine zs2 @e0 @e1 ?_
  have := hM _ _ hJ'
  exact ⟨_, ⟨k + 1, hJ', rfl⟩, by omega⟩
 ·refine zs1 @e0 ?_
  exact hD
end
end Go.Ae
namespace Go.Ae
def jfu (ts w : List Int) (m k : Nat) : List Int := runL ts w k ++ List.replicate (m - k) 0
theorem jic {ts w : List Int} {m k : Nat} (h : k ≤ m) : (jfu ts w m k).length = m := by simp [jfu, jdr]; omega
theorem jml {ts w : List Int} {m k : Nat} (h : k < m) : (jfu ts w m k).set k (seqB ts w k) = jfu ts w m (k + 1) := by
 unfold jfu
 have hl := jdr ts w k
 rw [List.set_append_right _ _ (by omega), hl, Nat.sub_self, show m - k = m - (k + 1) + 1 by omega, List.replicate_succ, List.set_cons_zero, jog, List.append_assoc]
 rfl
section
variable {C : Ctx}
set_option maxRecDepth 100000 in
set_option maxHeartbeats 2000000 in
theorem jmm (hC : Has C T93) {n m : Nat} {ts w : List Int} {h : Heap} (R : RegOk n ts w) (hm : m ≤ 100000) :
  ACalls C 93 [.agg [.int .i64 (n : Nat), .int .u32 (packL w : Nat), .int .u32 (maskT ts : Nat)], .int .i64 (m : Nat)] h (fun r h' => Fresh h h' r (runL ts w m)) := by
 refine zf hC tab93 ?_; simp only [B93, zB.1]; refine zs ?_
 refine jaa.hide (fun H hH => ?_)
 have N : H.size = h.size + 4 := by rw [hH]; exact ze
 have b3 : H.get (h.size + 1) = some (.cells [.int .i64 (m : Nat)] true 0) := by rw [hH]; exact ze
 have b5 : H.get (h.size + 3) = some (.cells [.slice (h.size + 2) 0 0 (.known m)] true 0) := by rw [hH]; exact ze
 have br : H.get (h.size + 2) = some (.cells (ints (List.replicate m 0)) true 0) := by rw [hH, ← jd8]; exact ze
 have hsH : HSub h H := by rw [hH]; exact (((HSub.push1 h _).push _).push _).push _
 clear hH
 refine jaa.eq (joj (zu hC T95)) ?_
 refine zs ?_
 refine jft (D := fun h' => ∃ R, h'.get (H.size + 2) = some (.loop R) ∧ R.state = .done ∧ R.pend = some (.exit 0) ∧ HSub h h' ∧ h'.get (H.size + 1) = some (.defd true) ∧
   h'.get (h.size + 3) = some (.cells [.slice (h.size + 2) 0 m (.known m)] true 0) ∧ h'.get (h.size + 2) = some (.cells (ints (runL ts w m)) true 0) ∧ H.size + 3 ≤ h'.size) ?_ ?_
 ·refine ACalls.hideLoop (fun Q hR => ?_)
  show ACalls C 101 [.yield (H.size + 2), .ptr H.size 0] _ _
  have rs : Q.state = .ready := by rw [hR]
  have rp : Q.pend = none := by rw [hR]
  have rb := ji5 rs rp
  refine jmk (zu hC T101) R (fun k h' => k ≤ m ∧ h'.get (H.size + 2) = some (.loop Q) ∧ h'.get H.size = some (jk7 n ts w k) ∧ h'.get (H.size + 1) = some (.defd true) ∧ HSub h h' ∧ H.size + 3 ≤ h'.size ∧
   h'.get (h.size + 1) = some (.cells [.int .i64 (m : Nat)] true 0) ∧ h'.get (h.size + 3) = some (.cells [.slice (h.size + 2) 0 k (.known m)] true 0) ∧ h'.get (h.size + 2) = some (.cells (ints (jfu ts w m k)) true 0)) _ m ?_ ?_ ?_ ?_
  ·refine ⟨by omega, ?_, ?_, ?_, ?_, ?_, ?_, ?_, ?_⟩
   ·exact ze
   ·refine zs ?_
    rfl
   ·exact ze
   ·exact ((hsH.push _).push _).push _
   ·refine zs ?_
    omega
   ·exact ze1 @b3
   ·exact ze1 @b5
   ·refine zs1 @br ?_
    simp [jfu, runL]
  ·rintro k h' ⟨_, _, q, _⟩
   exact q
  ·rintro k h' ⟨q, _⟩
   exact q
  ·rintro k h' ⟨hk, hl, hw1, hd, hsub, hsz, q3, q5, qr⟩
   have hfl := jic (ts := ts) (w := w) hk
   have hl2 : (h'.put H.size (jk7 n ts w (k + 1))).get (H.size + 2) = some (.loop Q) := (jaB (by omega)).trans hl
   refine jeh hl2 rs (by rw [hR]; rfl) ?_
   simp only [congrArg ALoop.nt hR, congrArg ALoop.t hR, congrArg ALoop.params hR, congrArg ALoop.assign hR, congrArg ALoop.body hR]
   refine zs4 @hl @rs @q3 @q5 ?_
   refine Br.by (fun c => ?_) (fun c => ?_)
   ·have : k = m := by omega
    subst this
    refine zs1 @hl ?_
    exact .inr ⟨_, rfl, rfl, rfl, ((hsub.put (by omega) _).put (by omega) _), hd, q5, by simpa [jfu] using qr, by omega⟩
   ·have hk' : k < m := by omega
    refine zs7 @hl @rs @q3 @q5 @qr @jby @jgo ?_
    exact .inl ⟨by omega, by rw [rb], hd, (((((hsub.put (by omega) _).put (by omega) _).put (by omega) _).put (by omega) _).put (by omega) _).push _, by omega, by rw [jml hk']⟩
 ·rintro h' ⟨Q, hl, hst, hpd, hsub, hd, q5, qr, hsz⟩
  refine ⟨Q, hl, by rw [hst]; decide, ?_⟩
  rw [hpd]
  show jbX _ _ (.exit 0) _
  refine zs2 @hd @q5 ?_
  have rl := jdr ts w m
  refine ⟨(hsub.put (by omega) _).put (by omega) _, by omega, h.size + 2, by omega, by rw [rl], ?_⟩
  exact ze1 @qr
def jhl (n : Int) (ts w : List Int) (m : Int) : Int := if jc7 n ts w = 0 then (if m < 0 ∨ 100000 < m then 4 else 0) else jc7 n ts w
theorem jp8 (hC : Has C T81) {n m : Int} {v1 v2 : AV} {ts w : List Int} {h : Heap} (h1 : RI h v1 ts) (h2 : RI h v2 w) (hm : In64 m) :
  ACalls C 81 [.int .i64 n, v1, v2, .int .i64 m] h (fun r h' => ∃ v', r = ja2 v' (jhl n ts w m) ∧ HSub h h' ∧ RI h' v' (if jhl n ts w m = 0 then runL ts w m.toNat else []) ∧ (jhl n ts w m = 0 → Fresh h h' v' (runL ts w m.toNat))) := by
 have pe : jhl n ts w m = if jc7 n ts w = 0 then (if m < 0 ∨ 100000 < m then 4 else 0) else jc7 n ts w := rfl
 unfold In64 at hm
 by_cases c : jc7 n ts w = 0
 ·rw [if_pos c] at pe
  obtain ⟨k, rfl, R⟩ := joi c
  have eR : madeR k ts w = .tuple [.agg [.int .i64 (k : Nat), .int .u32 (packL w), .int .u32 (maskT ts)], .int .i64 0] := by unfold madeR; rw [if_pos c]
  refine zf hC tab81 ?_; simp only [B81, zB.1]; refine zs ?_
  refine jaa.eq2 (jjd (zu hC T92) h1 h2) eR ?_
  by_cases c2 : m < 0 ∨ 100000 < m
  ·rw [if_pos c2] at pe
   refine zs ?_
   (repeat' (first | (refine Br.by (fun _ => ?_) (fun _ => ?_)) | (refine zs ?_)))
   all_goals first | exact ⟨.nilslice, by rw [pe, ja2], HSub.push1 _ _, by rw [if_neg (by rw [pe]; decide)]; exact RI.nil, fun e => absurd e (by rw [pe]; decide)⟩ | omega
  ·rw [if_neg c2] at pe
   obtain ⟨q, rfl⟩ := Int.eq_ofNat_of_zero_le (show 0 ≤ m by omega)
   refine zs ?_
   refine jaa.of (jmm (zu hC T93) R (by omega)) ?_
   rintro r h' F
   refine zs ?_
   exact ⟨r, by rw [pe, ja2], (HSub.push1 _ _).trans F.sub, by rw [if_pos pe]; exact F.ri, fun _ => F.mono (HSub.push1 _ _)⟩
 ·rw [if_neg c] at pe
  have eR : madeR n ts w = .tuple [.agg [.int .i64 0, .int .u32 0, .int .u32 0], .int .i64 (jc7 n ts w)] := by unfold madeR; rw [if_neg c]
  refine zf hC tab81 ?_; simp only [B81, zB.1]; refine zs ?_
  refine jaa.eq2 (jjd (zu hC T92) h1 h2) eR ?_
  refine zs ?_
  exact ⟨.nilslice, by rw [pe, ja2], HSub.push1 _ _, by rw [if_neg (by rw [pe]; exact c)]; exact RI.nil, fun e => absurd e (by rw [pe]; exact c)⟩
end
end Go.Ae
namespace Go.Ae
theorem RegOk.same {n : Nat} {ts w : List Int} (R : RegOk n ts w) (k : Nat) : packL (winW ts w k) = packL w ↔ winW ts w k = w :=
 ⟨fun h => jja (jcE R.w1 k) (jdP R.bits k) R.bits h, fun h => by rw [h]⟩
section
variable {C : Ctx}
end
end Go.Ae
namespace Go.Ae
theorem gV_u {w : Bool} {p q : Prop} : @gV .undef w ⟨p⟩ ⟨q⟩ = q := rfl
section
variable {C : Ctx}
end
end Go.Ae
namespace Go.Ae
theorem xor01 {a b : Int} (ha : a = 0 ∨ a = 1) (hb : b = 0 ∨ b = 1) : bitsA .xor .i64 a b = (a + b) % 2 := by
 rcases ha with rfl | rfl <;> rcases hb with rfl | rfl <;> decide
section
variable {C : Ctx}
end
end Go.Ae
namespace Go.Ae
section
variable {C : Ctx}
end
end Go.Ae
namespace Go.Ae
def lenOk (d : Int) : Bool := [5, 6, 7, 9, 10].any fun y => d == y
theorem jbO {d : Int} (h : lenOk d = true) : d = 5 ∨ d = 6 ∨ d = 7 ∨ d = 9 ∨ d = 10 := by
 simp only [lenOk, List.any_cons, List.any_nil, Bool.or_false, Bool.or_eq_true, beq_iff_eq] at h; exact h
def lenN (d : Int) : Nat := 2 ^ d.toNat - 1
theorem jcS {d : Int} (h : lenOk d = true) : 31 ≤ lenN d ∧ lenN d ≤ 1023 ∧ (2 : Int) ^ d.toNat = ((lenN d + 1 : Nat) : Int) := by
 rcases jbO h with rfl | rfl | rfl | rfl | rfl <;> decide
def lenE (d : Int) : AV := if lenOk d = true then tup2 (lenN d) 0 else tup2 0 2
def tapsL (d w : Int) : List Int :=
 if d = 5 then (if w = 1 then [0, 2] else [0, 2, 3, 4]) else if d = 6 then (if w = 1 then [0, 1] else [0, 1, 2, 5]) else if d = 7 then (if w = 1 then [0, 3] else [0, 1, 2, 3])
 else if d = 9 then (if w = 1 then [0, 4] else [0, 3, 4, 6]) else (if w = 1 then [0, 3] else [0, 2, 3, 8])
def jbm (d w : Int) : Int := if lenOk d = true ∧ (w = 1 ∨ w = 2) then 0 else 2
theorem ja4 {agg : Bool} {sz len : Nat} {vs : List AV} {kk : IntKind} {k : Int} (h : 0 ≤ k ∧ k < len) : jgj agg sz len (.agg vs) (.int kk k) = partA agg vs (k.toNat * sz) sz := by simp [jgj, h]
section
variable {C : Ctx}
theorem jbP (hC : Has C T70) {d : Int} {h : Heap} (hd : In64 d) : ACalls C 70 [.int .i64 d] h (fun r h' => r = lenE d ∧ h' = h) := by
 unfold In64 at hd
 refine ACalls.gc0 (P := fun r h' => r = lenE d ∧ HSub h h') ?_ (fun r h' hp => ⟨by rw [hp.1]; unfold lenE tup2; split <;> exact jc4 (by simp [AV.free, AV.bel]), hp.2, hp.1, rfl⟩)
 refine zf hC tab70 ?_; simp only [B70, zB.1]; refine zs ?_
 refine jaa.eq (jcn (zu hC T89) (l := [5, 6, 7, 9, 10]) (RI.known (jaz rfl) ⟨rfl, by decide⟩ (by decide))) ?_
 by_cases c : lenOk d = true
 ·have hl := jcS c
  have hc := jbO c
  have c' : ([5, 6, 7, 9, 10].any fun y => d == y) = true := c
  rw [c']
  refine zs2 @Int.one_mul @hl.2.2 ?_
  exact ⟨by unfold lenE tup2; rw [if_pos c]; simp, HSub.push1 _ _⟩
 ·have c' : ([5, 6, 7, 9, 10].any fun y => d == y) = false := Bool.eq_false_iff.2 c
  rw [c']
  refine zs ?_
  exact ⟨by unfold lenE tup2; rw [if_neg c], HSub.push1 _ _⟩
end
end Go.Ae
namespace Go.Ae
def AV.sameC : AV → AV → Bool
 | .agg a, .agg b => samesB a b
 | a, b => a.sameB b
def samesC : List AV → List AV → Bool
 | [], [] => true
 | a :: xs, b :: ys => a.sameC b && samesC xs ys
 | _, _ => false
def AV.sameR : AV → AV → Bool
 | .tuple a, .tuple b => samesC a b
 | a, b => a.sameC b
theorem jk8 {a b : AV} (h : a.sameC b = true) : a = b := by
 unfold AV.sameC at h
 split at h
 ·rw [jgi h]
 ·exact jk1 h
theorem jje : ∀ {xs ys : List AV}, samesC xs ys = true → xs = ys
 | [], [], _ => rfl
 | a :: xs, b :: ys, h => by
  simp only [samesC, Bool.and_eq_true] at h
  rw [jk8 h.1, jje h.2]
 | [], _ :: _, h => by cases h
 | _ :: _, [], h => by cases h
theorem jp9 {a b : AV} (h : a.sameR b = true) : a = b := by
 unfold AV.sameR at h
 split at h
 ·rw [jje h]
 ·exact jk8 h
def jok (T : Nat → Option ABody) (fuel depth g : Nat) (args : List AV) (v : AV) : Bool :=
 match jdI T fuel depth (.func g [] []) args Heap.empty with
 | some (r, _) => r.sameR v
 | _ => false
theorem jjf {C : Ctx} {T : Nat → Option ABody} (hT : ∀ g b, T g = some b → C.body g = some b) {fuel depth g : Nat} {args : List AV} {v : AV} (hargs : ∀ a ∈ args, a.free) (hv : v.free) (hr : jok T fuel depth g args v = true) (h : Heap) :
  ACalls C g args h (fun r h' => r = v ∧ h' = h) := by
 unfold jok at hr
 split at hr
 ·rename_i r h1 he
  have er := jp9 hr
  have := jhS hT fuel depth _ _ _ _ _ he
  have h2 : ACalls C g args Heap.empty (fun r' h'' => r' = r ∧ h'' = h1) := by simpa [callP] using this
  exact (h2.mono fun r h' q => q.1.trans er).lift hargs hv h
 ·cases hr
def smp (p : Int × Int) : AV := .agg [.int .i64 p.1, .int .i64 p.2]
theorem jid (p : Int × Int) : (smp p).free := by simp [smp, AV.free, AV.bel, AV.bels]
theorem jk9 {l : List (Int × Int)} {k : Nat} (h : k < l.length) : l.getD k (0, 0) ∈ l := by
 rw [List.getD_eq_getElem?_getD, List.getElem?_eq_getElem h]; exact List.getElem_mem h
def elF (sz : Nat) (v : AV) (k off : Nat) : AV :=
 match v with
 | .slice i o _ _ => .ptr i (o + k * sz + off)
 | _ => .undef
section
variable {h h' h0 H : Heap} {v : AV} {l : List (Int × Int)} {n : Nat} {cs : List AV}
theorem SI.len (A : SI h v l) : lenA v = some (.int .i64 l.length) := SL.len A
theorem SI.cells (A : SI h v l) : v.cells = [v] := SL.cells A
theorem SI.one (A : SI h v l) : v.one = true := SL.one A
theorem SI.lt (A : SI h v l) : l.length < 9223372036854775808 := SL.lt A
theorem SI.mono (A : SI h v l) (hs : HSub h h') : SI h' v l := SL.mono A hs
theorem SI.content (A : SI h v l) : jan h 2 v = some (l.length, smps l) := SL.content A
theorem SI.contentC (A : SI h v l) : ∀ (h' : Heap), HSub h h' → jan h' 2 v = some (l.length, smps l) := fun _ hs => (A.mono hs).content
theorem SI.idx (A : SI h v l) {kk : IntKind} {k : Int} (hk : 0 ≤ k ∧ k < l.length) : idxA 2 v (.int kk k) = some (elA 2 v k.toNat) := SL.idx A hk
theorem jqa {k : Nat} (hk : k < l.length) : cut (smps l) (k * 2) 2 = [.int .i64 (l.getD k (0, 0)).1, .int .i64 (l.getD k (0, 0)).2] := by
 have e : l[k]? = some (l.getD k (0, 0)) := by simp [hk]
 have h0 := jeE (l := l) (k := k)
 have h1 := jdM (l := l) (k := k)
 rw [e] at h0 h1
 unfold cut
 obtain ⟨h0', e0⟩ := List.getElem?_eq_some_iff.1 h0
 obtain ⟨h1', e1⟩ := List.getElem?_eq_some_iff.1 h1
 rw [List.drop_eq_getElem_cons h0', List.drop_eq_getElem_cons h1', e0, e1]; rfl
theorem SI.loadA (A : SI h v l) {k : Nat} (hk : k < l.length) : Ae.loadA h true 2 (elA 2 v k) = some (smp (l.getD k (0, 0))) := by
 rw [SL.loadA A hk, jqa hk]; rfl
theorem SI.load1 (A : SI h v l) {k : Nat} (hk : k < l.length) : Ae.loadA h false 1 (elF 2 v k 1) = some (.int .i64 (l.getD k (0, 0)).2) := by
 have e : l[k]? = some (l.getD k (0, 0)) := by simp [hk]
 obtain ⟨hl, hlt, ⟨rfl, h1⟩ | ⟨i, o, c, vs, wr, u, rfl, hg, hle, hc, _⟩⟩ := A
 ·omega
 ·have h2 := jdM (l := l) (k := k)
  rw [← hc, cut, List.getElem?_take_of_lt (by omega), List.getElem?_drop, e] at h2
  simp only [elF, Ae.loadA, hg, partA, Bool.false_eq_true, if_false]
  rw [Nat.add_assoc, h2]; rfl
theorem jgp {k : Nat} {p : Int × Int} (hk : k < l.length) : splice (smps l) (k * 2) [.int .i64 p.1, .int .i64 p.2] = smps (l.set k p) := by
 unfold splice
 induction l generalizing k with
 | nil => simp at hk
 | cons q l ih =>
  cases k with
  | zero => simp [jbt]
  | succ k =>
   have := ih (k := k) (by simpa using hk)
   simp only [List.length_cons, List.length_nil] at this ⊢
   rw [jbt, List.set_cons_succ, jbt, ← this, show (k + 1) * 2 = k * 2 + 1 + 1 by omega]
   simp only [List.take_succ_cons, List.cons_append]
   rw [show k * 2 + 1 + 1 + (0 + 1 + 1) = k * 2 + (0 + 1 + 1) + 1 + 1 by omega, List.drop_succ_cons, List.drop_succ_cons]
theorem jjg {k : Nat} : (smps l).drop (k * 2) = smps (l.drop k) := by
 induction l generalizing k with
 | nil => simp [smps]
 | cons p l ih =>
  cases k with
  | zero => rfl
  | succ k => rw [jbt, List.drop_succ_cons, ← ih, show (k + 1) * 2 = k * 2 + 1 + 1 by omega]; rfl
theorem jd9 {p : Int × Int} {n : Nat} : jbl n [.int .i64 p.1, .int .i64 p.2] = smps (List.replicate n p) := by
 induction n with
 | zero => rfl
 | succ n ih => rw [List.replicate_succ, jbt, ← ih]; simp [jbl, List.replicate_succ]
def GrwS (h0 h : Heap) (v : AV) (l : List (Int × Int)) : Prop := Grw h0 h 2 v l.length (smps l)
theorem GrwS.si (A : GrwS h0 h v l) : SI h v l := Grw.sl A
theorem GrwS.sub (A : GrwS h0 h v l) : HSub h0 h := A.1
theorem GrwS.nil (h : Heap) : GrwS h h .nilslice [] := Grw.nil h 2
theorem GrwS.nil' (hs : HSub h0 h) : GrwS h0 h .nilslice [] := ⟨hs, by simp [smps], by simp, .inl ⟨rfl, rfl⟩⟩
theorem GrwS.mono (A : GrwS h0 h v l) (hs : HSub h H) : GrwS h0 H v l := Grw.mono A hs
theorem GrwS.base {h1 : Heap} (A : GrwS h h1 v l) (hs : HSub h0 h) : GrwS h0 h1 v l := Grw.base A hs
theorem GrwS.app {x y : Int} (A : GrwS h0 h v l) : ∀ (H : Heap), HSub h H → l.length + 1 ≤ 1073741824 → jas H none 2 16 v 1 [.int .i64 x, .int .i64 y] = some (.slice H.size 0 (l.length + 1) (.unk 0), snocH H none v 2 (smps (l ++ [(x, y)]))) := by
 intro H hs hb
 rw [Grw.app A hs (by decide) (by omega) (by rfl), jgm]
theorem GrwS.snoc {x y : Int} (A : GrwS h0 h v l) (hs : HSub h H) (hb : l.length + 1 ≤ 1073741824) : GrwS h0 (snocH H none v 2 (smps (l ++ [(x, y)]))) (.slice H.size 0 (l.length + 1) (.unk 0)) (l ++ [(x, y)]) := by
 have := Grw.snoc (news := [.int .i64 x, .int .i64 y]) (m := 1) A hs rfl (by omega)
 rw [jgm] at this
 unfold GrwS; rw [List.length_append]; exact this
end
theorem jol {x y : AV} {u : Nat} {wr : Bool} : contB 1 2 0 (some (.cells [x, y] wr u)) = some (1, [x, y]) := rfl
theorem jom {k : IntKind} {a b c d : Int} : eqsA true [(0, false), (1, false)] (.agg [.int k a, .int k b]) (.agg [.int k c, .int k d]) = some (.bool (decide (¬(a = c ∧ b = d)))) := by
 simp [eqsA, jaw, Bool.beq_eq_decide_eq, Bool.decide_and]
theorem jjh {k : IntKind} {a b c d : Int} : eqsA false [(0, false), (1, false)] (.agg [.int k a, .int k b]) (.agg [.int k c, .int k d]) = some (.bool (decide (a = c ∧ b = d))) := by
 simp [eqsA, jaw, Bool.beq_eq_decide_eq, Bool.decide_and]
section
variable {C : Ctx}
end
end Go.Ae
namespace Go.Ae
theorem jqb (x : Int) : IntKind.u32.wrap x = x % 4294967296 := by
 show IntKind.wrap .u32 x = _
 simp [IntKind.wrap, IntKind.bits, IntKind.signed]
def jon (t p : Int) : Prop := t < -1073741824 ∨ 1073741824 < t ∨ p < 1 ∨ 1073741824 < p
instance (t p : Int) : Decidable (jon t p) := by unfold jon; infer_instance
section
variable {C : Ctx}
end
end Go.Ae
namespace Go.Ae
section
variable {C : Ctx}
end
end Go.Ae
namespace Go.Ae
def phI (a s n : Int) : Int := (a + s * (n % 4294967296)) % 4294967296
theorem joo (a s n : Int) : 0 ≤ phI a s n ∧ phI a s n < 4294967296 := ⟨Int.emod_nonneg _ (by decide), Int.emod_lt_of_pos _ (by decide)⟩
def U32 (x : Int) : Prop := 0 ≤ x ∧ x ≤ 4294967295
section
variable {C : Ctx}
theorem jji (hC : Has C T143) {a s n : Int} {h : Heap} : ACalls C 143 [.int .u32 a, .int .u32 s, .int .i64 n] h (fun r h' => r = .int .u32 (phI a s n) ∧ h' = h) := by
 refine zf hC tab143 ?_; simp only [B143, zB.1]; refine zs1 @jqb ?_
 unfold phI
 rw [jmf]
end
end Go.Ae
namespace Go.Ae
def quarterL : List Int := [127, 126, 125, 122, 117, 112, 106, 98, 90, 81, 71, 60, 49, 37, 25, 12, 0]
def carr (k : Nat) : Int × Int :=
 let a := quarterL.getD (k % 16) 0
 let b := quarterL.getD (16 - k % 16) 0
 match k / 16 with
 | 0 => (a, b)
 | 1 => (-b, a)
 | 2 => (-a, -b)
 | _ => (b, -a)
theorem jmn : (List.range 64).all (fun k => decide (-127 ≤ (carr k).1 ∧ (carr k).1 ≤ 127 ∧ -127 ≤ (carr k).2 ∧ (carr k).2 ≤ 127)) = true := by decide +kernel
theorem jrR {k : Nat} (h : k < 64) : -127 ≤ (carr k).1 ∧ (carr k).1 ≤ 127 ∧ -127 ≤ (carr k).2 ∧ (carr k).2 ≤ 127 := by
 have := List.all_eq_true.1 jmn k (by simpa using h)
 simpa using this
def carP (ph : Int) : Int × Int := carr (ph / 67108864).toNat
theorem jkp {ph : Int} (h : U32 ph) : -127 ≤ (carP ph).1 ∧ (carP ph).1 ≤ 127 ∧ -127 ≤ (carP ph).2 ∧ (carP ph).2 ≤ 127 := by
 unfold U32 at h
 exact jrR (by omega)
theorem jie (a s n : Int) : U32 (phI a s n) := by have := joo a s n; unfold U32; omega
def jqE (x : Int × Int) : Prop := (-70368744177664 ≤ x.1 ∧ x.1 ≤ 70368744177664) ∧ (-70368744177664 ≤ x.2 ∧ x.2 ≤ 70368744177664)
instance (x : Int × Int) : Decidable (jqE x) := by unfold jqE; exact inferInstance
theorem jeH {x t B : Int} (hx : -B ≤ x ∧ x ≤ B) (ht : -127 ≤ t ∧ t ≤ 127) : -(B * 127) ≤ x * t ∧ x * t ≤ B * 127 := by
 have hB : 0 ≤ B := by omega
 constructor
 ·have h1 : 0 ≤ (B + x) * (127 + t) := Int.mul_nonneg (by omega) (by omega)
  have h2 : 0 ≤ (B - x) * (127 - t) := Int.mul_nonneg (by omega) (by omega)
  have e1 : (B + x) * (127 + t) = B * 127 + B * t + x * 127 + x * t := by grind
  have e2 : (B - x) * (127 - t) = B * 127 - B * t - x * 127 + x * t := by grind
  omega
 ·have h1 : 0 ≤ (B + x) * (127 - t) := Int.mul_nonneg (by omega) (by omega)
  have h2 : 0 ≤ (B - x) * (127 + t) := Int.mul_nonneg (by omega) (by omega)
  have e1 : (B + x) * (127 - t) = B * 127 - B * t + x * 127 - x * t := by grind
  have e2 : (B - x) * (127 + t) = B * 127 + B * t - x * 127 - x * t := by grind
  omega
structure PlanP where
 d : Int
 o : Int
 pb : Int
 w : Int
 mn : Int
 mx : Int
 nz : Int
 prns : List Int
def PlanP.ok64 (p : PlanP) : Prop := In64 p.d ∧ In64 p.o ∧ In64 p.pb ∧ In64 p.w ∧ In64 p.mn ∧ In64 p.mx ∧ In64 p.nz ∧ ∀ x ∈ p.prns, In64 x
def PlI (h : Heap) (v : AV) (p : PlanP) : Prop := ∃ vp, v = .agg [.int .i64 p.d, .int .i64 p.o, .int .i64 p.pb, .int .i64 p.w, .int .i64 p.mn, .int .i64 p.mx, .int .i64 p.nz, vp] ∧ RI h vp p.prns
theorem PlI.mono {h h' : Heap} {v : AV} {p : PlanP} (H : PlI h v p) (hs : HSub h h') : PlI h' v p := by obtain ⟨vp, e, r⟩ := H; exact ⟨vp, e, r.mono hs⟩
def PlanP.numsOk (p : PlanP) : Prop := lenOk p.d = true ∧ (1 ≤ p.o ∧ p.o ≤ 8) ∧ (1 ≤ p.pb ∧ p.pb ≤ 20) ∧ (2 ≤ p.w ∧ p.w ≤ 10) ∧ (1 ≤ p.mn ∧ p.mn ≤ p.mx) ∧ p.mx ≤ 1000 ∧ (0 ≤ p.nz ∧ p.nz ≤ 100000)
instance (p : PlanP) : Decidable p.numsOk := by unfold PlanP.numsOk; exact inferInstance
def jbr (n : Int) : List Int → List Int → Int
 | _, [] => 0
 | seen, x :: xs => if ¬(1 ≤ x ∧ x ≤ n + 2) then 2 else if seen.any (fun y => x == y) = true then 8 else jbr n (seen ++ [x]) xs
def PlanP.err (p : PlanP) : Int := if p.numsOk then if p.prns.length = 0 then 3 else if 8 < p.prns.length then 4 else jbr (lenN p.d) [] p.prns else 2
theorem jeI (n : Int) : ∀ (xs seen : List Int), jbr n seen xs = 0 ∨ jbr n seen xs = 2 ∨ jbr n seen xs = 8
 | [], _ => .inl rfl
 | x :: xs, seen => by
  unfold jbr
  split
  ·exact .inr (.inl rfl)
  ·split
   ·exact .inr (.inr rfl)
   ·exact jeI n xs _
structure EmitP where
 prn : Int
 dl : Int
 rt : Int
 st : Int
 ph : Int
 amp : Int
 ba : Int
 bits : List Int
def EmitP.ok64 (e : EmitP) : Prop := In64 e.prn ∧ In64 e.dl ∧ In64 e.rt ∧ U32 e.st ∧ U32 e.ph ∧ In64 e.amp ∧ In64 e.ba ∧ ∀ x ∈ e.bits, In64 x
def EmI (h : Heap) (v : AV) (e : EmitP) : Prop := ∃ vb, v = .agg [.int .i64 e.prn, .int .i64 e.dl, .int .i64 e.rt, .int .u32 e.st, .int .u32 e.ph, .int .i64 e.amp, .int .i64 e.ba, vb] ∧ RI h vb e.bits
theorem EmI.mono {h h' : Heap} {v : AV} {p : EmitP} (H : EmI h v p) (hs : HSub h h') : EmI h' v p := by obtain ⟨vp, e, r⟩ := H; exact ⟨vp, e, r.mono hs⟩
def PlanP.size (p : PlanP) : Int := lenN p.d * p.o
def EmitP.numsOk (e : EmitP) (p : PlanP) : Prop := (0 ≤ e.dl ∧ e.dl < p.size) ∧ (-64 ≤ e.rt ∧ e.rt ≤ 64) ∧ (p.mn ≤ e.amp ∧ e.amp ≤ p.mx) ∧ (0 ≤ e.ba ∧ e.ba < p.pb)
instance (e : EmitP) (p : PlanP) : Decidable (e.numsOk p) := by unfold EmitP.numsOk; exact inferInstance
def emitErr (p : PlanP) (e : EmitP) : Int := if p.err = 0 then if (p.prns.any fun y => e.prn == y) = true then if e.numsOk p then if 10000 < e.bits.length then 4 else if e.bits.any (fun b => b != 0 && b != 1) = true then 3 else 0 else 2 else 18 else p.err
def madeErr (p : PlanP) (e : EmitP) (n : Int) : Int := if emitErr p e = 0 then if n < -10000000 ∨ 10000000 < n then 2 else 0 else emitErr p e
def stI (dl sz rt k : Int) : Int := dl + k * sz + k * rt / 1024
theorem st_le {dl sz rt k n : Int} (hd : 0 < 1024 * sz + rt) : stI dl sz rt k ≤ n ↔ k ≤ (1024 * (n - dl + 1) - 1) / (1024 * sz + rt) := by
 unfold stI
 rw [Int.le_ediv_iff_mul_le hd]
 have e : k * (1024 * sz + rt) = 1024 * (k * sz) + k * rt := by grind
 rw [e]
 generalize k * sz = A
 generalize k * rt = B
 omega
def plI (dl sz rt n : Int) : Int := (1024 * (n - dl + 1) - 1) / (1024 * sz + rt)
theorem pl_lt {dl sz rt n : Int} (hd : 0 < 1024 * sz + rt) : n < stI dl sz rt (plI dl sz rt n + 1) := by
 have h := (st_le (dl := dl) (n := n) (k := plI dl sz rt n + 1) hd).1
 rcases Int.lt_or_le n (stI dl sz rt (plI dl sz rt n + 1)) with x | x
 ·exact x
 ·have := h x
  unfold plI at this
  omega
theorem pl_of {dl sz rt n k : Int} (hd : 0 < 1024 * sz + rt) (h1 : stI dl sz rt k ≤ n) (h2 : n < stI dl sz rt (k + 1)) : k = plI dl sz rt n := by
 have a := (st_le hd).1 h1
 have b : ¬ k + 1 ≤ plI dl sz rt n := fun x => by
  have := (st_le (dl := dl) (n := n) hd).2 x
  omega
 unfold plI at b ⊢
 omega
theorem jop {dl sz rt k : Int} (hr : -64 ≤ rt ∧ rt ≤ 64) : sz - 1 ≤ stI dl sz rt (k + 1) - stI dl sz rt k ∧ stI dl sz rt (k + 1) - stI dl sz rt k ≤ sz + 1 := by
 unfold stI
 have e1 : (k + 1) * sz = k * sz + sz := by grind
 have e2 : (k + 1) * rt = k * rt + rt := by grind
 rw [e1, e2]
 generalize k * sz = A
 generalize k * rt = B
 omega
def bitI (p : PlanP) (e : EmitP) (k : Int) : Int := if e.bits.length = 0 then 0 else e.bits.getD (((k - e.ba) / p.pb) % e.bits.length).toNat 0
def jif (b : Nat) (h : Heap) : Prop :=
 h.get b = some (.cells (ints [0, 2]) true 0) ∧ h.get (b + 1) = some (.cells (ints [0, 2, 3, 4]) true 0) ∧ h.get (b + 2) = some (.cells (ints [0, 1]) true 0) ∧ h.get (b + 3) = some (.cells (ints [0, 1, 2, 5]) true 0) ∧
 h.get (b + 4) = some (.cells (ints [0, 3]) true 0) ∧ h.get (b + 5) = some (.cells (ints [0, 1, 2, 3]) true 0) ∧ h.get (b + 6) = some (.cells (ints [0, 4]) true 0) ∧ h.get (b + 7) = some (.cells (ints [0, 3, 4, 6]) true 0) ∧
 h.get (b + 8) = some (.cells (ints [0, 3]) true 0) ∧ h.get (b + 9) = some (.cells (ints [0, 2, 3, 8]) true 0)
theorem jif.mono {b : Nat} {h h' : Heap} (T : jif b h) (hs : HSub h h') : jif b h' := by
 obtain ⟨a0, a1, a2, a3, a4, a5, a6, a7, a8, a9⟩ := T
 have k : ∀ {i x}, h.get i = some x → h'.get i = some x := fun e => (hs.get _ (Heap.lt_of_get e)).trans e
 exact ⟨k a0, k a1, k a2, k a3, k a4, k a5, k a6, k a7, k a8, k a9⟩
def jqF (b : Nat) : AV := .agg [.int .i64 5, .slice b 0 2 (.known 2), .slice (b + 1) 0 4 (.known 4), .int .i64 6, .slice (b + 2) 0 2 (.known 2), .slice (b + 3) 0 4 (.known 4), .int .i64 7, .slice (b + 4) 0 2 (.known 2), .slice (b + 5) 0 4 (.known 4),
 .int .i64 9, .slice (b + 6) 0 2 (.known 2), .slice (b + 7) 0 4 (.known 4), .int .i64 10, .slice (b + 8) 0 2 (.known 2), .slice (b + 9) 0 4 (.known 4)]
section
variable {C : Ctx}
set_option maxRecDepth 100000 in
set_option maxHeartbeats 4000000 in
theorem jjj (hC : Has C T72) {d w : Int} {h : Heap} (hd : In64 d) (hw : In64 w) : ACalls C 72 [.int .i64 d, .int .i64 w] h (fun r h' => ∃ v, r = ja2 v (jbm d w) ∧ HSub h h' ∧ RI h' v (if jbm d w = 0 then tapsL d w else [])) := by
 unfold In64 at hw
 by_cases c : lenOk d = true
 ·have e : lenE d = tup2 (lenN d) 0 := by unfold lenE; rw [if_pos c]
  by_cases cw : w = 1 ∨ w = 2
  ·have pe : jbm d w = 0 := by unfold jbm; rw [if_pos ⟨c, cw⟩]
   rw [pe]
   refine zf hC tab72 ?_; simp only [B72, zB.1]; refine zs ?_
   refine jaa.eq2 (jbP (zu hC T70) hd) e ?_
   refine zs1 @tup2.eq_1 ?_
   refine jaA (fun j t h' => ∃ i : Nat, i ≤ 4 ∧ HSub h h' ∧ jif h.size h' ∧ t 0 = .int .i64 d ∧ t 1 = .int .i64 w ∧ t 46 = jqF h.size ∧ t 47 = .int .i64 (i : Nat) ∧ (∀ y ∈ ([5, 6, 7, 9, 10] : List Int).take i, d ≠ y) ∧ j = 5 - i) (j0 := 5)
    ⟨0, by omega, ?_, ?_, rfl, rfl, rfl, rfl, by simp, rfl⟩ ?_
   ·(repeat (first | exact HSub.refl _ | refine HSub.push ?_ _))
   ·refine ⟨?_, ?_, ?_, ?_, ?_, ?_, ?_, ?_, ?_, ?_⟩ <;> (refine zs ?_; try rfl)
   rintro j t h' ⟨i, hi, hs, T, e0, e1, e46, e47, hne, hj⟩
   unfold jqF at e46
   rcases (show i = 0 ∨ i = 1 ∨ i = 2 ∨ i = 3 ∨ i = 4 by omega) with rfl | rfl | rfl | rfl | rfl
   ·by_cases cd : d = 5
    ·subst cd
     rcases cw with rfl | rfl
     ·refine zs5 @e0 @e1 @e46 @e47 @ja4 ?_
      exact ⟨.slice (h.size + 0) 0 2 (.known 2), by simp [ja2], hs.push _, RI.known ((jav (Heap.lt_of_get T.1)).trans T.1) ⟨rfl, by decide⟩ (by decide)⟩
     ·refine zs5 @e0 @e1 @e46 @e47 @ja4 ?_
      exact ⟨.slice (h.size + 1) 0 4 (.known 4), by simp [ja2], hs.push _, RI.known ((jav (Heap.lt_of_get T.2.1)).trans T.2.1) ⟨rfl, by decide⟩ (by decide)⟩
    ·refine zs5 @e0 @e1 @e46 @e47 @ja4 ?_
     exact ⟨_, ⟨1, by omega, hs.push _, T.mono (HSub.push1 _ _), rfl, by simp, fun y hy => (by have hn := hne; simp at hn hy; omega), rfl⟩, by omega⟩
   ·by_cases cd : d = 6
    ·subst cd
     rcases cw with rfl | rfl
     ·refine zs5 @e0 @e1 @e46 @e47 @ja4 ?_
      exact ⟨.slice (h.size + 2) 0 2 (.known 2), by simp [ja2], hs.push _, RI.known ((jav (Heap.lt_of_get T.2.2.1)).trans T.2.2.1) ⟨rfl, by decide⟩ (by decide)⟩
     ·refine zs5 @e0 @e1 @e46 @e47 @ja4 ?_
      exact ⟨.slice (h.size + 3) 0 4 (.known 4), by simp [ja2], hs.push _, RI.known ((jav (Heap.lt_of_get T.2.2.2.1)).trans T.2.2.2.1) ⟨rfl, by decide⟩ (by decide)⟩
    ·refine zs5 @e0 @e1 @e46 @e47 @ja4 ?_
     exact ⟨_, ⟨2, by omega, hs.push _, T.mono (HSub.push1 _ _), rfl, by simp, fun y hy => (by have hn := hne; simp at hn hy; omega), rfl⟩, by omega⟩
   ·by_cases cd : d = 7
    ·subst cd
     rcases cw with rfl | rfl
     ·refine zs5 @e0 @e1 @e46 @e47 @ja4 ?_
      exact ⟨.slice (h.size + 4) 0 2 (.known 2), by simp [ja2], hs.push _, RI.known ((jav (Heap.lt_of_get T.2.2.2.2.1)).trans T.2.2.2.2.1) ⟨rfl, by decide⟩ (by decide)⟩
     ·refine zs5 @e0 @e1 @e46 @e47 @ja4 ?_
      exact ⟨.slice (h.size + 5) 0 4 (.known 4), by simp [ja2], hs.push _, RI.known ((jav (Heap.lt_of_get T.2.2.2.2.2.1)).trans T.2.2.2.2.2.1) ⟨rfl, by decide⟩ (by decide)⟩
    ·refine zs5 @e0 @e1 @e46 @e47 @ja4 ?_
     exact ⟨_, ⟨3, by omega, hs.push _, T.mono (HSub.push1 _ _), rfl, by simp, fun y hy => (by have hn := hne; simp at hn hy; omega), rfl⟩, by omega⟩
   ·by_cases cd : d = 9
    ·subst cd
     rcases cw with rfl | rfl
     ·refine zs5 @e0 @e1 @e46 @e47 @ja4 ?_
      exact ⟨.slice (h.size + 6) 0 2 (.known 2), by simp [ja2], hs.push _, RI.known ((jav (Heap.lt_of_get T.2.2.2.2.2.2.1)).trans T.2.2.2.2.2.2.1) ⟨rfl, by decide⟩ (by decide)⟩
     ·refine zs5 @e0 @e1 @e46 @e47 @ja4 ?_
      exact ⟨.slice (h.size + 7) 0 4 (.known 4), by simp [ja2], hs.push _, RI.known ((jav (Heap.lt_of_get T.2.2.2.2.2.2.2.1)).trans T.2.2.2.2.2.2.2.1) ⟨rfl, by decide⟩ (by decide)⟩
    ·refine zs5 @e0 @e1 @e46 @e47 @ja4 ?_
     exact ⟨_, ⟨4, by omega, hs.push _, T.mono (HSub.push1 _ _), rfl, by simp, fun y hy => (by have hn := hne; simp at hn hy; omega), rfl⟩, by omega⟩
   ·by_cases cd : d = 10
    ·subst cd
     rcases cw with rfl | rfl
     ·refine zs5 @e0 @e1 @e46 @e47 @ja4 ?_
      exact ⟨.slice (h.size + 8) 0 2 (.known 2), by simp [ja2], hs.push _, RI.known ((jav (Heap.lt_of_get T.2.2.2.2.2.2.2.2.1)).trans T.2.2.2.2.2.2.2.2.1) ⟨rfl, by decide⟩ (by decide)⟩
     ·refine zs5 @e0 @e1 @e46 @e47 @ja4 ?_
      exact ⟨.slice (h.size + 9) 0 4 (.known 4), by simp [ja2], hs.push _, RI.known ((jav (Heap.lt_of_get T.2.2.2.2.2.2.2.2.2)).trans T.2.2.2.2.2.2.2.2.2) ⟨rfl, by decide⟩ (by decide)⟩
    ·exfalso
     rcases jbO c with h | h | h | h | h <;> simp_all
  ·have pe : jbm d w = 2 := by unfold jbm; rw [if_neg (fun h => cw h.2)]
   rw [pe]
   refine zf hC tab72 ?_; simp only [B72, zB.1]; refine zs ?_
   refine jaa.eq2 (jbP (zu hC T70) hd) e ?_
   refine zs1 @tup2.eq_1 ?_
   (repeat' (first | (refine Br.by (fun _ => ?_) (fun _ => ?_)) | (refine zs ?_)))
   all_goals first | exact ⟨.nilslice, by rw [ja2], HSub.refl _, RI.nil⟩ | omega
 ·have e : lenE d = tup2 0 2 := by unfold lenE; rw [if_neg c]
  have pe : jbm d w = 2 := by unfold jbm; rw [if_neg (fun h => c h.1)]
  rw [pe]
  refine zf hC tab72 ?_; simp only [B72, zB.1]; refine zs ?_
  refine jaa.eq2 (jbP (zu hC T70) hd) e ?_
  refine zs1 @tup2.eq_1 ?_
  exact ⟨.nilslice, by rw [ja2], HSub.refl _, RI.nil⟩
end
end Go.Ae
namespace Go.Ae
section
variable {C : Ctx}
end
end Go.Ae
