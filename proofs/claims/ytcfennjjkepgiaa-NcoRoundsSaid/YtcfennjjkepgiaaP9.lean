/- Texts of the proof, part 9: a second reading of the lowered code, proved sound, and what the functions compute. -/
import Derived.OpenShut
import Derived.ChangeSlices
import Derived.ProofKit
import Derived.Test.YtcfennjjkepgiaaP8

/- A statement's arguments, as they come in, and the abstract heap that stands for them. -/
namespace Go.Ae
open Go.ChangeShapes Go.WideShapes Go.ChangeAt Go.RowKit

theorem trodAll_stays {H : Type} {enc : TypeId × Value → H} {P : Program} (hl : laidOutB P = true) {W W' : World} (hb : Below W.heap.size W W') : ∀ {ts : List TypeId} {vs : List Value} {ds : List (DataW H)} {ps : List MemPlace},
    (ts.all fun t => P.readableRec t && decide (t < P.types.size)) = true → DataW.TrodAll enc P W 0 (fun _ => true) true ts vs ds ps → (∀ x ∈ ps, x.block < W.heap.size) →
    DataW.TrodAll enc P W' 0 (fun b => decide (b < W.heap.size)) true ts vs ds ps
  | [], vs, ds, ps, _, h, _ => by
    obtain ⟨rfl, rfl, rfl⟩ := trodAll_nil h
    exact trodAll_mk0
  | t :: ts, vs, ds, ps, ht, h, hlt => by
    obtain ⟨v, vs', d, ds', p, q, rfl, rfl, rfl, h1, h2⟩ := trodAll_cons h
    simp only [List.all_cons, Bool.and_eq_true, decide_eq_true_eq] at ht
    exact ⟨p, q, Below.trod hl ht.1.1 ht.1.2 h1 hb (fun x hx => hlt x (List.mem_append_left _ hx)), trodAll_stays hl hb (by simpa using ht.2) h2 (fun x hx => hlt x (List.mem_append_right _ hx)), rfl⟩

/-- Rows that are only read. -/
def argHeap (bs : List (Option (List AV))) : Heap := ⟨bs.length, fun i => match bs[i]? with | some (some vs) => some (.cells vs false 0) | _ => none, fun i hi => by rw [List.getElem?_eq_none hi]⟩
theorem argHeap_get {bs : List (Option (List AV))} {i : Nat} {vs : List AV} (h : bs[i]? = some (some vs)) : (argHeap bs).get i = some (.cells vs false 0) := by simp only [argHeap, h]
theorem argHeap_some {bs : List (Option (List AV))} {i : Nat} {b : ABlk} (h : (argHeap bs).get i = some b) : ∃ vs, bs[i]? = some (some vs) ∧ b = .cells vs false 0 := by
  simp only [argHeap] at h
  split at h
  · rename_i vs hv; cases h; exact ⟨vs, hv, rfl⟩
  · cases h

theorem rel_args {C : Ctx} {env : Env} {w : World} (bs : List (Option (List AV))) (hlt : ∀ i vs, bs[i]? = some (some vs) → (env i).blk < w.heap.size ∧ (∀ v ∈ vs, v.bel (argHeap bs).ok) ∧
    ∀ k v, vs[k]? = some v → w.cell? ⟨(env i).blk, (env i).sh + k, none⟩ = some (v.val C.lk env)) : Rel C ⟨fun r => r < w.heap.size, fun _ => False⟩ env (argHeap bs) w := by
  refine ⟨?_, ?_, ?_, ?_, ?_, fun r hr => hr, ?_, fun r hr => hr.elim⟩
  · intro i b hb
    obtain ⟨vs, hv, rfl⟩ := argHeap_some hb
    exact (hlt i vs hv).1
  · intro i b hb
    obtain ⟨vs, hv, rfl⟩ := argHeap_some hb
    exact (hlt i vs hv).2.2
  · intro i j b c hb hc hij hw
    obtain ⟨vs, hv, rfl⟩ := argHeap_some hb
    cases hw
  · intro i b hb
    obtain ⟨vs, hv, rfl⟩ := argHeap_some hb
    exact (hlt i vs hv).2.1
  · intro i b hb hw
    obtain ⟨vs, hv, rfl⟩ := argHeap_some hb
    cases hw
  · intro i b hb hd hf
    exact hf

/-- A list of numbers that came in: the value, the row it lies in. -/
structure InList where
  l : List Int
  nil : Bool
  blk : Nat
  off : Nat
  cap : Nat
def InList.val (x : InList) : Value := if x.nil then .slice none 0 0 else .slice (some ⟨x.blk, x.off, none⟩) x.l.length x.cap
def InList.av (x : InList) (i : Nat) : AV := if x.nil then .nilslice else .slice i 0 x.l.length (.known x.cap)
def InList.row (x : InList) : Option (List AV) := if x.nil then none else some (ints x.l)
def InList.eb (x : InList) : EB := ⟨x.blk, x.off, 0⟩
structure InList.ok (x : InList) (w : World) : Prop where
  isNil : x.nil = true → x.l = []
  cap : x.nil = false → x.l.length ≤ x.cap
  lt : x.l.length < 9223372036854775808
  blk : x.nil = false → x.blk < w.heap.size
  cell : ∀ k n, x.l[k]? = some n → w.cell? ⟨x.blk, x.off + k, none⟩ = some (.int .i64 n)
  num : ∀ n ∈ x.l, -9223372036854775808 ≤ n ∧ n ≤ 9223372036854775807

theorem wf_i64 {n : Int} (h : (Lit.int .i64 n).wf = true) : -9223372036854775808 ≤ n ∧ n ≤ 9223372036854775807 := by
  have : (decide (IntKind.i64.min ≤ n) && decide (n ≤ IntKind.i64.max)) = true := h
  simp only [Bool.and_eq_true, decide_eq_true_eq] at this
  exact this

theorem open_list {H : Type} {enc : TypeId × Value → H} {P : Program} {w : World} {b0 : Nat} {t e : TypeId} {v : Value} {d : DataW H} {ps : List MemPlace} (ht : P.underlying t = some (.slice e)) (he : P.underlying e = some (.int .i64)) (hc : P.cellsOf e = 1)
    (hval : Value.okWide P w .any b0 t v) (hd : DataW.Trod enc P w 0 (fun _ => true) true t v d ps) : ∃ x : InList, v = x.val ∧ x.ok w := by
  have hval' := hval
  obtain ⟨a0, len, cap, rfl⟩ := okWide_slice ht hval
  obtain ⟨fuel, hf⟩ := hd
  rcases open_ints ht he hc hf with ⟨hcs, _⟩ | ⟨a, len', cap', zs, hcs, _, hl, hm, hz, _, hcell, hwz⟩
  · simp only [Value.cells, Array.toList] at hcs
    cases hcs
    exact ⟨⟨[], true, 0, 0, 0⟩, rfl, ⟨fun _ => rfl, fun h => (by cases h), by simp, fun h => (by cases h), by simp, by simp⟩⟩
  · simp only [Value.cells, Array.toList] at hcs
    cases hcs
    have hlen : zs.length = cap := by simpa using hz
    have hok : Cell.ok P w .any b0 t (.slice (some a) len cap) := by
      simp only [Value.okWide, ht, Cell.okWide] at hval'
      exact hval'
    simp only [Cell.ok, ht] at hok
    obtain ⟨_, _, _, hspot, row, cells, hsh, _⟩ := hok
    have hblk : a.block < w.heap.size := by
      unfold World.shape? at hsh
      rcases Nat.lt_or_ge a.block w.heap.size with h | h
      · exact h
      · rw [Array.getElem?_eq_none h] at hsh; cases hsh
    have hmax : cap ≤ 9223372036854775807 := hm
    obtain ⟨ab, ao, asp⟩ := a
    simp only at hspot hblk
    subst hspot
    have hlt : (zs.take len).length = len := by simp; omega
    refine ⟨⟨zs.take len, false, ab, ao, cap⟩, ?_, ⟨fun h => (by cases h), fun _ => (by rw [hlt]; exact hl), (by rw [hlt]; omega), fun _ => hblk, ?_, ?_⟩⟩
    · simp only [InList.val, Bool.false_eq_true, if_false, hlt]
    · intro k n hk
      rw [List.getElem?_take] at hk
      split at hk
      · rename_i hkl
        have h2 : k < zs.length := by omega
        have := hcell k h2
        rw [List.getD_eq_getElem?_getD, hk] at this
        by_cases hk0 : k = 0
        · subst hk0; simpa [Addr.add] using this
        · simpa [Addr.add, hk0] using this
      · cases hk
    · intro n hn
      exact wf_i64 (hwz n (List.mem_of_mem_take hn))

theorem InList.ri {x : InList} {w : World} {bs : List (Option (List AV))} {i : Nat} (hx : x.ok w) (hi : bs[i]? = some x.row) : RI (argHeap bs) (x.av i) x.l := by
  unfold InList.av
  cases hn : x.nil with
  | true =>
    rw [hx.isNil hn, if_pos rfl]; exact RI.nil
  | false =>
    rw [if_neg (by simp)]
    refine RI.known (argHeap_get (hi.trans ?_)) ⟨rfl, hx.lt⟩ (hx.cap hn)
    simp [InList.row, hn]
theorem InList.av_val {x : InList} {i : Nat} {lk : Nat → FuncId} {env : Env} (he : env i = x.eb) : (x.av i).val lk env = x.val := by
  unfold InList.av InList.val
  cases hn : x.nil with
  | true => rfl
  | false => simp [AV.val, he, InList.eb, Cap.at]
theorem InList.av_bel {x : InList} {w : World} {bs : List (Option (List AV))} {i : Nat} (hi : bs[i]? = some x.row) : (x.av i).bel (argHeap bs).ok := by
  unfold InList.av
  cases hn : x.nil with
  | true => trivial
  | false =>
    show (argHeap bs).ok i
    have : bs[i]? = some (some (ints x.l)) := hi.trans (by simp [InList.row, hn])
    simp [Heap.ok, argHeap_get this]
/-- The row of a list that came in. -/
theorem InList.rowOk {C : Ctx} {x : InList} {w : World} {bs : List (Option (List AV))} {env : Env} {i : Nat} {vs : List AV} (hx : x.ok w) (he : env i = x.eb) (hv : x.row = some vs) : (env i).blk < w.heap.size ∧ (∀ v ∈ vs, v.bel (argHeap bs).ok) ∧
    ∀ k v, vs[k]? = some v → w.cell? ⟨(env i).blk, (env i).sh + k, none⟩ = some (v.val C.lk env) := by
  unfold InList.row at hv
  split at hv
  · cases hv
  · rename_i hn
    cases hv
    rw [he]
    refine ⟨hx.blk (by simpa using hn), ?_, ?_⟩
    · intro v hv
      obtain ⟨n, _, rfl⟩ := List.mem_map.1 hv
      trivial
    · intro k v hk
      simp only [ints, List.getElem?_map, Option.map_eq_some_iff] at hk
      obtain ⟨n, hn, rfl⟩ := hk
      exact hx.cell k n hn
end Go.Ae

/- The rules for the simplifier, bundled. Printed by a program. -/
namespace Go.Ae
theorem wpPre :
    (∀ {C : Ctx} {nt : Nat} {rd : Option Nat} {a b : ACode} {Q : Out → St → Prop} {st : St}, @Eq Prop (wp C nt rd (ACode.seq a b) Q st) (wp C nt rd a (thenO (wp C nt rd b Q) Q) st)) ∧
    (∀ {C : Ctx} {nt : Nat} {rd : Option Nat} {ops : List AOper} {Q : Out → St → Prop} {st : St}, @Eq Prop (wp C nt rd (ACode.region ops) Q st) (wpOps C ops (Q Out.normal) st)) ∧
    (∀ {C : Ctx} {nt : Nat} {rd : Option Nat} {n : Nat} {ds : List DItem} {Q : Out → St → Prop} {st : St}, @Eq Prop (wp C nt rd (ACode.draw n ds) Q st) (wpDraw C n ds (Q Out.normal) st)) ∧
    (∀ {C : Ctx} {nt : Nat} {rd : Option Nat} {c : AOpd} {a b : ACode} {Q : Out → St → Prop} {st : St}, @Eq Prop (wp C nt rd (ACode.cond c a b) Q st) (@condV (AOpd.ev (St.t st) c) (Hold.mk (wp C nt rd a Q st)) (Hold.mk (wp C nt rd b Q st)))) ∧
    (∀ {C : Ctx} {nt : Nat} {rd : Option Nat} {id : Nat} {c : ACode} {Q : Out → St → Prop} {st : St}, @Eq Prop (wp C nt rd (ACode.block id c) Q st) (wp C nt rd c (blockO id Q) st)) ∧
    (∀ {C : Ctx} {nt : Nat} {rd : Option Nat} {Q : Out → St → Prop} {st : St}, @Eq Prop (wp C nt rd ACode.skip Q st) (Q Out.normal st)) ∧
    (∀ {C : Ctx} {nt : Nat} {rd : Option Nat} {id : Nat} {Q : Out → St → Prop} {st : St}, @Eq Prop (wp C nt rd (ACode.exit id) Q st) (Q (Out.exit id) st)) ∧
    (∀ {C : Ctx} {nt : Nat} {rd : Option Nat} {Q : Out → St → Prop} {st : St}, @Eq Prop (wp C nt rd ACode.ret Q st) (Q Out.ret st)) ∧
    (∀ {C : Ctx} {nt : Nat} {rd : Option Nat} {f : AOpd} {ps : List Nat} {a b : ACode} {Q : Out → St → Prop} {st : St}, @Eq Prop (wp C nt rd (ACode.rangeFunc f ps a b) Q st) (wpRange C nt rd (AOpd.ev (St.t st) f) ps a b Q st)) ∧
    (∀ {K : St → Prop} {Q : Out → St → Prop} {st : St}, @Eq Prop (thenO K Q Out.normal st) (K st)) ∧
    (∀ {K : St → Prop} {Q : Out → St → Prop} {id : Nat} {st : St}, @Eq Prop (thenO K Q (Out.exit id) st) (Q (Out.exit id) st)) ∧
    (∀ {K : St → Prop} {Q : Out → St → Prop} {st : St}, @Eq Prop (thenO K Q Out.ret st) (Q Out.ret st)) ∧
    (∀ {i : Nat} {Q : Out → St → Prop} {st : St}, @Eq Prop (blockO i Q (Out.exit i) st) (Q Out.normal st)) ∧
    (∀ {i j : Nat} {Q : Out → St → Prop} {st : St}, @Eq Bool (@BEq.beq Nat (@instBEqOfDecidableEq Nat instDecidableEqNat) j i) false → @Eq Prop (blockO i Q (Out.exit j) st) (Q (Out.exit j) st)) ∧
    (∀ {i : Nat} {Q : Out → St → Prop} {st : St}, @Eq Prop (blockO i Q Out.normal st) (Q Out.normal st)) ∧
    (∀ {i : Nat} {Q : Out → St → Prop} {st : St}, @Eq Prop (blockO i Q Out.ret st) (Q Out.ret st)) ∧
    (∀ {C : Ctx} {K : St → Prop} {st : St}, @Eq Prop (wpOps C (@List.nil AOper) K st) (K st)) ∧
    (∀ {C : Ctx} {d : Option Nat} {op : AOp} {os : List AOper} {K : St → Prop} {st : St}, @Eq Prop (wpOps C (@List.cons AOper (AOper.mk d op (@none (Prod Nat Bool))) os) K st) (wpOp C (@none Nat) (AOper.mk d op (@none (Prod Nat Bool))) (wpOps C os K) st)) ∧
    (∀ {C : Ctx} {d : Option Nat} {op : AOp} {s : Nat} {w : Bool} {os : List AOper} {K : St → Prop} {st : St}, @Eq Prop (wpOps C (@List.cons AOper (AOper.mk d op (@some (Prod Nat Bool) (@Prod.mk Nat Bool s w))) os) K st) (@gV (St.t st s) w (Hold.mk (wpOp C (@none Nat) (AOper.mk d op (@some (Prod Nat Bool) (@Prod.mk Nat Bool s w))) (wpOps C os K) st)) (Hold.mk (wpOps C os K (St.put st d AV.undef))))) ∧
    (∀ {C : Ctx} {nid d : Option Nat} {f : AOpd} {args : List AOpd} {g : Option (Prod Nat Bool)} {K : St → Prop} {st : St}, @Eq Prop (wpOp C nid (AOper.mk d (AOp.call f args) g) K st) (@Call C (AOpd.ev (St.t st) f) (@List.map AOpd AV (AOpd.ev (St.t st)) args) (St.h st) (HoldR.mk fun r h' => K (St.put (St.mk (St.t st) h' (St.m st)) d r)))) ∧
    (∀ {C : Ctx} {nid d : Option Nat} {op : AOp} {g : Option (Prod Nat Bool)} {K : St → Prop} {st : St}, @Eq Bool (AOp.isCall op) false → @Eq Prop (wpOp C nid (AOper.mk d op g) K st) (@opR nid op (AOpd.ev (St.t st)) (St.h st) (HoldR.mk fun v h' => K (St.put (St.mk (St.t st) h' (St.m st)) d v)))) ∧
    (∀ {t : Nat → AV} {h : Heap} {m : List Nat} {s : Nat} {v : AV}, @Eq St (St.put (St.mk t h m) (@some Nat s) v) (St.mk (upd t s v) h m)) ∧
    (∀ {t : Nat → AV} {h : Heap} {m : List Nat} {v : AV}, @Eq St (St.put (St.mk t h m) (@none Nat) v) (St.mk t h m)) ∧
    (∀ {C : Ctx} {ds : List DItem} {K : St → Prop} {st : St}, @Eq Prop (wpDraw C (@OfNat.ofNat Nat (nat_lit 0) (instOfNatNat (nat_lit 0))) ds K st) (wpD C (Heap.size (St.h st)) ds (@List.nil (Prod Nat (Prod (List Nat) (List Nat)))) K st)) ∧
    (∀ {C : Ctx} {n : Nat} {ds : List DItem} {K : St → Prop} {t : Nat → AV} {h : Heap} {m : List Nat}, @Eq Bool (@BEq.beq Nat (@instBEqOfDecidableEq Nat instDecidableEqNat) n (@OfNat.ofNat Nat (nat_lit 0) (instOfNatNat (nat_lit 0)))) false → @Eq Prop (wpDraw C n ds K (St.mk t h m)) (wpD C (Heap.size h) ds (@List.nil (Prod Nat (Prod (List Nat) (List Nat)))) K (St.mk t (Heap.reserve h n) m))) ∧
    (∀ {res : List ARes} {Post : AV → Heap → Prop} {t : Nat → AV} {h : Heap} {i : Nat} {m : List Nat}, @Eq Prop (retO res Post Out.ret (St.mk t h (@List.cons Nat i m))) (@atDefd (Heap.get h i) (Hold.mk (retO res Post Out.ret (St.mk t (Heap.put h i (ABlk.defd false)) m))))) ∧
    (∀ {res : List ARes} {Post : AV → Heap → Prop} {t : Nat → AV} {h : Heap} {i : Nat} {m : List Nat}, @Eq Prop (retO res Post Out.normal (St.mk t h (@List.cons Nat i m))) (@atDefd (Heap.get h i) (Hold.mk (retO res Post Out.normal (St.mk t (Heap.put h i (ABlk.defd false)) m))))) ∧
    (∀ {C : Ctx} {nt l : Nat} {body : ACode} {Post : AV → Heap → Prop} {st : St}, @Eq Prop (beginO C nt l body Post Out.normal st) (@atLoop (Heap.get (St.h st) l) (HoldL.mk fun r => And (@Eq LoopState (ALoop.state r) LoopState.ready) (wp C nt (@some Nat l) body (roundO l Post) (St.mk (St.t st) (Heap.put (St.h st) l (ABlk.loop (ALoop.mk LoopState.busy (ALoop.pend r) (ALoop.t r) (ALoop.nt r) (ALoop.params r) (ALoop.assign r) (ALoop.body r) (ALoop.defers r)))) (St.m st)))))) ∧
    (∀ {l : Nat} {Post : AV → Heap → Prop} {st : St}, @Eq Prop (roundO l Post Out.normal st) (@atLoop (Heap.get (St.h st) l) (HoldL.mk fun r => Post (AV.bool true) (Heap.put (St.h st) l (ABlk.loop (ALoop.mk LoopState.ready (@none Out) (ALoop.t r) (ALoop.nt r) (ALoop.params r) (ALoop.assign r) (ALoop.body r) (ALoop.defers r))))))) ∧
    (∀ {l i : Nat} {Post : AV → Heap → Prop} {st : St}, @Eq Prop (roundO l Post (Out.exit i) st) (@atLoop (Heap.get (St.h st) l) (HoldL.mk fun r => Post (AV.bool false) (Heap.put (St.h st) l (ABlk.loop (ALoop.mk LoopState.done (@some Out (Out.exit i)) (ALoop.t r) (ALoop.nt r) (ALoop.params r) (ALoop.assign r) (ALoop.body r) (ALoop.defers r))))))) ∧
    (∀ {l : Nat} {Post : AV → Heap → Prop} {st : St}, @Eq Prop (roundO l Post Out.ret st) (@atLoop (Heap.get (St.h st) l) (HoldL.mk fun r => Post (AV.bool false) (Heap.put (St.h st) l (ABlk.loop (ALoop.mk LoopState.done (@some Out Out.ret) (ALoop.t r) (ALoop.nt r) (ALoop.params r) (ALoop.assign r) (ALoop.body r) (ALoop.defers r))))))) ∧
    (∀ {C : Ctx} {base : Nat} {acc : Acc} {K : St → Prop} {st : St}, @Eq Prop (wpD C base (@List.nil DItem) acc K st) (K st)) ∧
    (∀ {C : Ctx} {base k : Nat} {mem : Bool} {ck : List Nat} {d : Option Nat} {op : AOp} {s : Nat} {w : Bool} {ds : List DItem} {acc : Acc} {K : St → Prop} {st : St}, @Eq Prop (wpD C base (@List.cons DItem (DItem.mk k mem ck (AOper.mk d op (@some (Prod Nat Bool) (@Prod.mk Nat Bool s w)))) ds) acc K st) (@gV (St.t st s) w (Hold.mk (wpD C base (@List.cons DItem (DItem.mk k mem ck (AOper.mk d op (@none (Prod Nat Bool)))) ds) acc K st)) (Hold.mk (wpD C base ds acc K (St.put st d AV.undef))))) ∧
    (∀ {C : Ctx} {base k : Nat} {ck : List Nat} {d : Option Nat} {op : AOp} {ds : List DItem} {acc : Acc} {K : St → Prop} {st : St}, @Eq Bool (AOp.isCall op) false → @Eq Prop (wpD C base (@List.cons DItem (DItem.mk k false ck (AOper.mk d op (@none (Prod Nat Bool)))) ds) acc K st) (And (chkP acc ck op (AOpd.ev (St.t st)) (@HAdd.hAdd Nat Nat Nat (@instHAdd Nat instAddNat) base k)) (@opR (@some Nat (@HAdd.hAdd Nat Nat Nat (@instHAdd Nat instAddNat) base k)) op (AOpd.ev (St.t st)) (St.h st) (HoldR.mk fun v h' => wpD C base ds acc K (St.put (St.mk (St.t st) h' (St.m st)) d v))))) ∧
    (∀ {C : Ctx} {base k : Nat} {ck : List Nat} {d : Option Nat} {op : AOp} {ds : List DItem} {acc : Acc} {K : St → Prop} {st : St}, @Eq Bool (AOp.isCall op) false → @Eq Prop (wpD C base (@List.cons DItem (DItem.mk k true ck (AOper.mk d op (@none (Prod Nat Bool)))) ds) acc K st) (And (chkP acc ck op (AOpd.ev (St.t st)) (@HAdd.hAdd Nat Nat Nat (@instHAdd Nat instAddNat) base k)) (@opR (@some Nat (@HAdd.hAdd Nat Nat Nat (@instHAdd Nat instAddNat) base k)) op (AOpd.ev (St.t st)) (St.h st) (HoldR.mk fun v h' => wpD C base ds (@List.cons (Prod Nat (Prod (List Nat) (List Nat))) (@Prod.mk Nat (Prod (List Nat) (List Nat)) k (@Prod.mk (List Nat) (List Nat) (footA op (AOpd.ev (St.t st)) (@HAdd.hAdd Nat Nat Nat (@instHAdd Nat instAddNat) base k)) (wrA op (AOpd.ev (St.t st)) (@HAdd.hAdd Nat Nat Nat (@instHAdd Nat instAddNat) base k)))) acc) K (St.put (St.mk (St.t st) h' (St.m st)) d v))))) ∧
    (∀ {C : Ctx} {base k : Nat} {mem : Bool} {ck : List Nat} {d : Option Nat} {f : AOpd} {args : List AOpd} {ds : List DItem} {acc : Acc} {K : St → Prop} {st : St}, @Eq Prop (wpD C base (@List.cons DItem (DItem.mk k mem ck (AOper.mk d (AOp.call f args) (@none (Prod Nat Bool)))) ds) acc K st) (@Call C (AOpd.ev (St.t st) f) (@List.map AOpd AV (AOpd.ev (St.t st)) args) (St.h st) (HoldR.mk fun r h' => And (chkS acc ck (St.h st) h') (wpD C base ds acc K (St.put (St.mk (St.t st) h' (St.m st)) d r))))) :=
  ⟨@wp_seq,
   @wp_region,
   @wp_draw,
   @wp_cond,
   @wp_block,
   @wp_skip,
   @wp_exit,
   @wp_ret,
   @wp_range,
   @thenO_normal,
   @thenO_exit,
   @thenO_ret,
   @blockO_same,
   @blockO_other,
   @blockO_normal,
   @blockO_ret,
   @wpOps_nil,
   @wpOps_cons,
   @wpOps_guard,
   @wpOp_call,
   @wpOp_op,
   @put_some,
   @put_none,
   @wpDraw_zero,
   @wpDraw_some,
   @retO_marks,
   @retO_marksN,
   @beginO_normal,
   @roundO_normal,
   @roundO_exit,
   @roundO_ret,
   @wpD_nil,
   @wpD_guard,
   @wpD_op,
   @wpD_opM,
   @wpD_call⟩
theorem wpPost :
    (∀ {h : Heap} {nid : Option Nat} {sz bytes i o n c m : Nat} {news : List AV}, @Ne Nat m (@OfNat.ofNat Nat (nat_lit 0) (instOfNatNat (nat_lit 0))) → @Eq (Option (Prod AV Heap)) (appendA h nid sz bytes (AV.slice i o n (Cap.known c)) m news) (appKB h nid sz bytes i o n c m news (Heap.get h i))) ∧
    (∀ {h : Heap} {sz bytes i o n c m : Nat} {news vs : List AV} {u : Nat}, @LE.le Nat instLENat (@HAdd.hAdd Nat Nat Nat (@instHAdd Nat instAddNat) o (@HMul.hMul Nat Nat Nat (@instHMul Nat instMulNat) n sz)) (@List.length AV vs) → @LT.lt Nat instLTNat c (@HAdd.hAdd Nat Nat Nat (@instHAdd Nat instAddNat) n m) → @LE.le Nat instLENat (@HMul.hMul Nat Nat Nat (@instHMul Nat instMulNat) (@HAdd.hAdd Nat Nat Nat (@instHAdd Nat instAddNat) n m) bytes) (@OfNat.ofNat Nat (nat_lit 1099511627776) (instOfNatNat (nat_lit 1099511627776))) → @Eq (Option (Prod AV Heap)) (appKB h (@none Nat) sz bytes i o n c m news (@some ABlk (ABlk.cells vs true u))) (@some (Prod AV Heap) (@Prod.mk AV Heap (AV.slice (Heap.size h) (@OfNat.ofNat Nat (nat_lit 0) (instOfNatNat (nat_lit 0))) (@HAdd.hAdd Nat Nat Nat (@instHAdd Nat instAddNat) n m) (Cap.unk (@OfNat.ofNat Nat (nat_lit 0) (instOfNatNat (nat_lit 0))))) (Heap.push h (ABlk.cells (@HAppend.hAppend (List AV) (List AV) (List AV) (@instHAppendOfAppend (List AV) (@List.instAppend AV)) (cut vs o (@HMul.hMul Nat Nat Nat (@instHMul Nat instMulNat) n sz)) news) true sz))))) ∧
    (∀ {h : Heap} {nid : Option Nat} {sz bytes i o n c m : Nat} {news vs : List AV} {u : Nat}, @LE.le Nat instLENat (@HAdd.hAdd Nat Nat Nat (@instHAdd Nat instAddNat) o (@HMul.hMul Nat Nat Nat (@instHMul Nat instMulNat) n sz)) (@List.length AV vs) → @LE.le Nat instLENat (@HAdd.hAdd Nat Nat Nat (@instHAdd Nat instAddNat) n m) c → @LE.le Nat instLENat (@HAdd.hAdd Nat Nat Nat (@instHAdd Nat instAddNat) o (@HMul.hMul Nat Nat Nat (@instHMul Nat instMulNat) (@HAdd.hAdd Nat Nat Nat (@instHAdd Nat instAddNat) n m) sz)) (@List.length AV vs) → @Eq Bool (@List.all AV news AV.one) true → @Eq (Option (Prod AV Heap)) (appKB h nid sz bytes i o n c m news (@some ABlk (ABlk.cells vs true u))) (@some (Prod AV Heap) (@Prod.mk AV Heap (AV.slice i o (@HAdd.hAdd Nat Nat Nat (@instHAdd Nat instAddNat) n m) (Cap.known c)) (Heap.put h i (ABlk.cells (splice vs (@HAdd.hAdd Nat Nat Nat (@instHAdd Nat instAddNat) o (@HMul.hMul Nat Nat Nat (@instHMul Nat instMulNat) n sz)) news) true u))))) ∧
    (∀ {h : Heap} {nid : Option Nat} {sz bytes i o n l m : Nat} {news : List AV}, @Eq (Option (Prod AV Heap)) (appendA h nid sz bytes (AV.slice i o n (Cap.unk l)) m news) (appUB h nid sz bytes i o n l m news (Heap.get h i))) ∧
    (∀ {h : Heap} {sz bytes i n m : Nat} {news vs : List AV}, @LE.le Nat instLENat (@HMul.hMul Nat Nat Nat (@instHMul Nat instMulNat) n sz) (@List.length AV vs) → @LT.lt Nat instLTNat (@OfNat.ofNat Nat (nat_lit 0) (instOfNatNat (nat_lit 0))) m → @LE.le Nat instLENat (@HMul.hMul Nat Nat Nat (@instHMul Nat instMulNat) (@HAdd.hAdd Nat Nat Nat (@instHAdd Nat instAddNat) n m) bytes) (@OfNat.ofNat Nat (nat_lit 1099511627776) (instOfNatNat (nat_lit 1099511627776))) → @Eq Bool (@List.all AV news AV.one) true → @Eq (Option (Prod AV Heap)) (appUB h (@none Nat) sz bytes i (@OfNat.ofNat Nat (nat_lit 0) (instOfNatNat (nat_lit 0))) n (@OfNat.ofNat Nat (nat_lit 0) (instOfNatNat (nat_lit 0))) m news (@some ABlk (ABlk.cells vs true sz))) (@some (Prod AV Heap) (@Prod.mk AV Heap (AV.slice (Heap.size h) (@OfNat.ofNat Nat (nat_lit 0) (instOfNatNat (nat_lit 0))) (@HAdd.hAdd Nat Nat Nat (@instHAdd Nat instAddNat) n m) (Cap.unk (@OfNat.ofNat Nat (nat_lit 0) (instOfNatNat (nat_lit 0))))) (Heap.push (Heap.put h i ABlk.dead) (ABlk.cells (@HAppend.hAppend (List AV) (List AV) (List AV) (@instHAppendOfAppend (List AV) (@List.instAppend AV)) (cut vs (@OfNat.ofNat Nat (nat_lit 0) (instOfNatNat (nat_lit 0))) (@HMul.hMul Nat Nat Nat (@instHMul Nat instMulNat) n sz)) news) true sz))))) ∧
    (∀ {h : Heap} {sz bytes m : Nat} {news : List AV}, @Ne Nat m (@OfNat.ofNat Nat (nat_lit 0) (instOfNatNat (nat_lit 0))) → @LE.le Nat instLENat (@HMul.hMul Nat Nat Nat (@instHMul Nat instMulNat) m bytes) (@OfNat.ofNat Nat (nat_lit 1099511627776) (instOfNatNat (nat_lit 1099511627776))) → @Eq (Option (Prod AV Heap)) (appendA h (@none Nat) sz bytes AV.nilslice m news) (@some (Prod AV Heap) (@Prod.mk AV Heap (AV.slice (Heap.size h) (@OfNat.ofNat Nat (nat_lit 0) (instOfNatNat (nat_lit 0))) m (Cap.unk (@OfNat.ofNat Nat (nat_lit 0) (instOfNatNat (nat_lit 0))))) (Heap.push h (ABlk.cells news true sz))))) ∧
    (∀ {h : Heap} {nid : Option Nat} {sz bytes : Nat} {news : List AV}, @Eq (Option (Prod AV Heap)) (appendA h nid sz bytes AV.nilslice (@OfNat.ofNat Nat (nat_lit 0) (instOfNatNat (nat_lit 0))) news) (@some (Prod AV Heap) (@Prod.mk AV Heap AV.nilslice h))) ∧
    (∀ {nid : Option Nat} {sz bytes : Nat} {h : Heap} {s : AV} {m : Nat} {news : List AV}, @Eq (Option (Prod AV Heap)) (appA nid sz bytes h s (@some (Prod Nat (List AV)) (@Prod.mk Nat (List AV) m news))) (appendA h nid sz bytes s m news)) ∧
    (∀ {p : Prop}, @Eq Prop (@atDefd (@some ABlk (ABlk.defd true)) (Hold.mk p)) p) ∧
    (∀ {res : List ARes} {Post : AV → Heap → Prop} {t : Nat → AV} {h : Heap}, @Eq Prop (retO res Post Out.ret (St.mk t h (@List.nil Nat))) (retO_ret.match_1 (fun x => Prop) (resA t h res) (fun vs => Post (retA vs) h) fun _ => False)) ∧
    (∀ {res : List ARes} {Post : AV → Heap → Prop} {t : Nat → AV} {h : Heap}, @Eq Prop (retO res Post Out.normal (St.mk t h (@List.nil Nat))) (retO_ret.match_1 (fun x => Prop) (resA t h res) (fun vs => Post (retA vs) h) fun _ => False)) ∧
    (∀ {acc : Acc} {op : AOp} {ev : AOpd → AV} {n : Nat}, @Eq Prop (chkP acc (@List.nil Nat) op ev n) True) ∧
    (∀ {ck : List Nat} {op : AOp} {ev : AOpd → AV} {n : Nat}, @Eq Prop (chkP (@List.nil (Prod Nat (Prod (List Nat) (List Nat)))) ck op ev n) True) ∧
    (∀ {k : Nat} {f w : List Nat} {acc : List (Prod Nat (Prod (List Nat) (List Nat)))} {ck : List Nat} {op : AOp} {ev : AOpd → AV} {n : Nat}, @Eq Bool (@List.contains Nat (@instBEqOfDecidableEq Nat instDecidableEqNat) ck k) false → @Eq Prop (chkP (@List.cons (Prod Nat (Prod (List Nat) (List Nat))) (@Prod.mk Nat (Prod (List Nat) (List Nat)) k (@Prod.mk (List Nat) (List Nat) f w)) acc) ck op ev n) (chkP acc ck op ev n)) ∧
    (∀ {k : Nat} {f w : List Nat} {acc : List (Prod Nat (Prod (List Nat) (List Nat)))} {ck : List Nat} {op : AOp} {ev : AOpd → AV} {n : Nat}, @Eq Bool (@List.contains Nat (@instBEqOfDecidableEq Nat instDecidableEqNat) ck k) true → @Eq Prop (chkP (@List.cons (Prod Nat (Prod (List Nat) (List Nat))) (@Prod.mk Nat (Prod (List Nat) (List Nat)) k (@Prod.mk (List Nat) (List Nat) f w)) acc) ck op ev n) (And (And (NoneIn f (wrA op ev n)) (NoneIn w (footA op ev n))) (chkP acc ck op ev n))) ∧
    (∀ {acc : Acc} {h h' : Heap}, @Eq Prop (chkS acc (@List.nil Nat) h h') True) ∧
    (∀ {ck : List Nat} {h h' : Heap}, @Eq Prop (chkS (@List.nil (Prod Nat (Prod (List Nat) (List Nat)))) ck h h') True) ∧
    (∀ {k : Nat} {f w : List Nat} {acc : List (Prod Nat (Prod (List Nat) (List Nat)))} {ck : List Nat} {h h' : Heap}, @Eq Bool (@List.contains Nat (@instBEqOfDecidableEq Nat instDecidableEqNat) ck k) false → @Eq Prop (chkS (@List.cons (Prod Nat (Prod (List Nat) (List Nat))) (@Prod.mk Nat (Prod (List Nat) (List Nat)) k (@Prod.mk (List Nat) (List Nat) f w)) acc) ck h h') (chkS acc ck h h')) ∧
    (∀ {k : Nat} {f w : List Nat} {acc : List (Prod Nat (Prod (List Nat) (List Nat)))} {ck : List Nat} {h h' : Heap}, @Eq Bool (@List.contains Nat (@instBEqOfDecidableEq Nat instDecidableEqNat) ck k) true → @Eq Prop (chkS (@List.cons (Prod Nat (Prod (List Nat) (List Nat))) (@Prod.mk Nat (Prod (List Nat) (List Nat)) k (@Prod.mk (List Nat) (List Nat) f w)) acc) ck h h') (And (∀ (i : Nat), @Membership.mem Nat (List Nat) (@List.instMembership Nat) f i → @Eq (Option ABlk) (Heap.get h' i) (Heap.get h i)) (chkS acc ck h h'))) ∧
    (∀ {ys : List Nat}, @Eq Prop (NoneIn (@List.nil Nat) ys) True) ∧
    (∀ {xs : List Nat}, @Eq Prop (NoneIn xs (@List.nil Nat)) True) ∧
    (∀ {x : Nat} {xs ys : List Nat}, Not (@Membership.mem Nat (List Nat) (@List.instMembership Nat) ys x) → @Eq Prop (NoneIn (@List.cons Nat x xs) ys) (NoneIn xs ys)) ∧
    (∀ {i o : Nat}, @Eq (List Nat) (AV.ids (AV.ptr i o)) (@List.cons Nat i (@List.nil Nat))) ∧
    (∀ {i o n : Nat} {c : Cap}, @Eq (List Nat) (AV.ids (AV.slice i o n c)) (@List.cons Nat i (@List.nil Nat))) ∧
    (@Eq (List Nat) (AV.ids AV.nilslice) (@List.nil Nat)) ∧
    (∀ {k : IntKind} {n : Int}, @Eq (List Nat) (AV.ids (AV.int k n)) (@List.nil Nat)) ∧
    (∀ {b : Bool}, @Eq (List Nat) (AV.ids (AV.bool b)) (@List.nil Nat)) ∧
    (∀ {vs : List AV}, @Eq (List Nat) (AV.ids (AV.agg vs)) (@List.nil Nat)) ∧
    (∀ {i o n c : Nat}, @Eq (List Nat) (AV.rids (AV.slice i o n (Cap.known c))) (@List.nil Nat)) ∧
    (∀ {i o n l : Nat}, @Eq (List Nat) (AV.rids (AV.slice i o n (Cap.unk l))) (@List.cons Nat i (@List.nil Nat))) ∧
    (@Eq (List Nat) (AV.rids AV.nilslice) (@List.nil Nat)) ∧
    (∀ {op : AOp} {ev : AOpd → AV} {n : Nat}, @Eq Bool (AOp.blind op) true → @Eq (List Nat) (footA op ev n) (@List.nil Nat)) ∧
    (∀ {op : AOp} {ev : AOpd → AV} {n : Nat}, @Eq Bool (AOp.blind op) true → @Eq (List Nat) (wrA op ev n) (@List.nil Nat)) ∧
    (∀ {agg : Bool} {m : Nat} {x : AOpd} {ev : AOpd → AV} {n : Nat}, @Eq (List Nat) (footA (AOp.load agg m x) ev n) (AV.ids (ev x))) ∧
    (∀ {agg : Bool} {m : Nat} {x : AOpd} {ev : AOpd → AV} {n : Nat}, @Eq (List Nat) (wrA (AOp.load agg m x) ev n) (@List.nil Nat)) ∧
    (∀ {m : Nat} {x v : AOpd} {ev : AOpd → AV} {n : Nat}, @Eq (List Nat) (footA (AOp.store m x v) ev n) (AV.ids (ev x))) ∧
    (∀ {m : Nat} {x v : AOpd} {ev : AOpd → AV} {n : Nat}, @Eq (List Nat) (wrA (AOp.store m x v) ev n) (AV.ids (ev x))) ∧
    (∀ {sz : Nat} {x : AOpd} {lo hi mx : Option AOpd} {ev : AOpd → AV} {n : Nat}, @Eq (List Nat) (footA (AOp.slice sz x lo hi mx) ev n) (AV.rids (ev x))) ∧
    (∀ {sz : Nat} {x : AOpd} {lo hi mx : Option AOpd} {ev : AOpd → AV} {n : Nat}, @Eq (List Nat) (wrA (AOp.slice sz x lo hi mx) ev n) (@List.nil Nat)) ∧
    (∀ {sz b : Nat} {s x : AOpd} {ev : AOpd → AV} {n : Nat}, @Eq (List Nat) (footA (AOp.append sz b s x) ev n) (@HAppend.hAppend (List Nat) (List Nat) (List Nat) (@instHAppendOfAppend (List Nat) (@List.instAppend Nat)) (@HAppend.hAppend (List Nat) (List Nat) (List Nat) (@instHAppendOfAppend (List Nat) (@List.instAppend Nat)) (AV.ids (ev s)) (AV.ids (ev x))) (@List.cons Nat n (@List.nil Nat)))) ∧
    (∀ {sz b : Nat} {s x : AOpd} {ev : AOpd → AV} {n : Nat}, @Eq (List Nat) (wrA (AOp.append sz b s x) ev n) (@HAppend.hAppend (List Nat) (List Nat) (List Nat) (@instHAppendOfAppend (List Nat) (@List.instAppend Nat)) (AV.ids (ev s)) (@List.cons Nat n (@List.nil Nat)))) ∧
    (∀ {z : List AV} {ev : AOpd → AV} {n : Nat}, @Eq (List Nat) (footA (AOp.alloc z) ev n) (@List.cons Nat n (@List.nil Nat))) ∧
    (∀ {z : List AV} {ev : AOpd → AV} {n : Nat}, @Eq (List Nat) (wrA (AOp.alloc z) ev n) (@List.cons Nat n (@List.nil Nat))) ∧
    (∀ {x : AOpd} {ev : AOpd → AV} {n : Nat}, @Eq (List Nat) (footA (AOp.box x) ev n) (@List.cons Nat n (@List.nil Nat))) ∧
    (∀ {x : AOpd} {ev : AOpd → AV} {n : Nat}, @Eq (List Nat) (wrA (AOp.box x) ev n) (@List.cons Nat n (@List.nil Nat))) ∧
    (∀ {m : Nat} {z : List AV} {ps : List (Prod Nat (Prod Nat AOpd))} {ev : AOpd → AV} {n : Nat}, @Eq (List Nat) (footA (AOp.buildSlice m z ps) ev n) (@List.cons Nat n (@List.nil Nat))) ∧
    (∀ {m : Nat} {z : List AV} {ps : List (Prod Nat (Prod Nat AOpd))} {ev : AOpd → AV} {n : Nat}, @Eq (List Nat) (wrA (AOp.buildSlice m z ps) ev n) (@List.cons Nat n (@List.nil Nat))) ∧
    (∀ {z : List AV} {b : Nat} {l c : AOpd} {ev : AOpd → AV} {n : Nat}, @Eq (List Nat) (footA (AOp.makeSlice z b l c) ev n) (@List.cons Nat n (@List.nil Nat))) ∧
    (∀ {z : List AV} {b : Nat} {l c : AOpd} {ev : AOpd → AV} {n : Nat}, @Eq (List Nat) (wrA (AOp.makeSlice z b l c) ev n) (@List.cons Nat n (@List.nil Nat))) ∧
    (∀ {sz : Nat} {d s : AOpd} {ev : AOpd → AV} {n : Nat}, @Eq (List Nat) (footA (AOp.copy sz d s) ev n) (@HAppend.hAppend (List Nat) (List Nat) (List Nat) (@instHAppendOfAppend (List Nat) (@List.instAppend Nat)) (AV.ids (ev d)) (AV.ids (ev s)))) ∧
    (∀ {sz : Nat} {d s : AOpd} {ev : AOpd → AV} {n : Nat}, @Eq (List Nat) (wrA (AOp.copy sz d s) ev n) (AV.ids (ev d))) ∧
    (∀ (p : Prop), @Eq Prop (False → p) True) ∧
    (∀ (p : Prop), @Eq Prop (And True p) p) ∧
    (∀ (p : Prop), @Eq Prop (And p True) p) ∧
    (∀ {t : Nat → AV} {h : Heap}, @Eq (Option (List AV)) (resA t h (@List.nil ARes)) (@some (List AV) (@List.nil AV))) ∧
    (∀ {t : Nat → AV} {h : Heap} {s : Nat} {rs : List ARes}, @Eq (Option (List AV)) (resA t h (@List.cons ARes (ARes.tmp s) rs)) (retO_ret.match_1 (fun x => Option (List AV)) (resA t h rs) (fun vs => @some (List AV) (@List.cons AV (t s) vs)) fun _ => @none (List AV))) ∧
    (∀ {t : Nat → AV} {h : Heap} {s : Nat} {agg : Bool} {n : Nat} {rs : List ARes}, @Eq (Option (List AV)) (resA t h (@List.cons ARes (ARes.cell s agg n) rs)) (resA_cell.match_1 (fun x x_1 => Option (List AV)) (loadA h agg n (t s)) (resA t h rs) (fun v vs => @some (List AV) (@List.cons AV v vs)) fun x x_1 => @none (List AV))) ∧
    (@Eq AV (retA (@List.nil AV)) (AV.tuple (@List.nil AV))) ∧
    (∀ {v : AV}, @Eq AV (retA (@List.cons AV v (@List.nil AV))) v) ∧
    (∀ {u v : AV}, @Eq AV (retA (@List.cons AV u (@List.cons AV v (@List.nil AV)))) (AV.tuple (@List.cons AV u (@List.cons AV v (@List.nil AV))))) ∧
    (∀ {u v x : AV}, @Eq AV (retA (@List.cons AV u (@List.cons AV v (@List.cons AV x (@List.nil AV))))) (AV.tuple (@List.cons AV u (@List.cons AV v (@List.cons AV x (@List.nil AV)))))) ∧
    (∀ {u v x y : AV}, @Eq AV (retA (@List.cons AV u (@List.cons AV v (@List.cons AV x (@List.cons AV y (@List.nil AV)))))) (AV.tuple (@List.cons AV u (@List.cons AV v (@List.cons AV x (@List.cons AV y (@List.nil AV))))))) ∧
    (∀ {t : Nat → AV} {s : Nat}, @Eq AV (AOpd.ev t (AOpd.tmp s)) (t s)) ∧
    (∀ {t : Nat → AV} {v : AV}, @Eq AV (AOpd.ev t (AOpd.const v)) v) ∧
    (∀ {t : Nat → AV}, @Eq (List AV) (@List.map AOpd AV (AOpd.ev t) (@List.nil AOpd)) (@List.nil AV)) ∧
    (∀ {t : Nat → AV} {x : AOpd} {xs : List AOpd}, @Eq (List AV) (@List.map AOpd AV (AOpd.ev t) (@List.cons AOpd x xs)) (@List.cons AV (AOpd.ev t x) (@List.map AOpd AV (AOpd.ev t) xs))) ∧
    (∀ {t : Nat → AV} {s : Nat} {v : AV}, @Eq AV (upd t s v s) v) ∧
    (∀ {t : Nat → AV} {s : Nat} {v : AV} {i : Nat}, @Eq Bool (@BEq.beq Nat (@instBEqOfDecidableEq Nat instDecidableEqNat) i s) false → @Eq AV (upd t s v i) (t i)) ∧
    (∀ {args : List AV} {s : Nat}, @Eq AV (argT args s) (@List.getD AV args s AV.undef)) ∧
    (∀ {p q : Prop}, @Eq Prop (@condV (AV.bool true) (Hold.mk p) (Hold.mk q)) p) ∧
    (∀ {p q : Prop}, @Eq Prop (@condV (AV.bool false) (Hold.mk p) (Hold.mk q)) q) ∧
    (∀ {c : Prop} [inst : Decidable c] {p q : Prop}, @Eq Prop (@condV (AV.bool (@decide c inst)) (Hold.mk p) (Hold.mk q)) (@Br c (Hold.mk p) (Hold.mk q))) ∧
    (∀ {b : Bool} {p q : Prop}, @Eq Prop (@condV (AV.bool b) (Hold.mk p) (Hold.mk q)) (@Br (@Eq Bool b true) (Hold.mk p) (Hold.mk q))) ∧
    (∀ {b : Bool} {p q : Prop}, @Eq Prop (@Br (@Eq Bool (not b) true) (Hold.mk p) (Hold.mk q)) (@Br (@Eq Bool b true) (Hold.mk q) (Hold.mk p))) ∧
    (∀ {c p q : Prop}, c → @Eq Prop (@Br c (Hold.mk p) (Hold.mk q)) p) ∧
    (∀ {c p q : Prop}, Not c → @Eq Prop (@Br c (Hold.mk p) (Hold.mk q)) q) ∧
    (∀ {p q : Prop}, @Eq Prop (@gV (AV.bool true) true (Hold.mk p) (Hold.mk q)) p) ∧
    (∀ {p q : Prop}, @Eq Prop (@gV (AV.bool true) false (Hold.mk p) (Hold.mk q)) q) ∧
    (∀ {p q : Prop}, @Eq Prop (@gV (AV.bool false) true (Hold.mk p) (Hold.mk q)) q) ∧
    (∀ {p q : Prop}, @Eq Prop (@gV (AV.bool false) false (Hold.mk p) (Hold.mk q)) p) ∧
    (∀ {c : Prop} [inst : Decidable c] {p q : Prop}, @Eq Prop (@gV (AV.bool (@decide c inst)) true (Hold.mk p) (Hold.mk q)) (@Br c (Hold.mk p) (Hold.mk q))) ∧
    (∀ {c : Prop} [inst : Decidable c] {p q : Prop}, @Eq Prop (@gV (AV.bool (@decide c inst)) false (Hold.mk p) (Hold.mk q)) (@Br c (Hold.mk q) (Hold.mk p))) ∧
    (∀ {b : Bool} {p q : Prop}, @Eq Prop (@gV (AV.bool b) true (Hold.mk p) (Hold.mk q)) (@Br (@Eq Bool b true) (Hold.mk p) (Hold.mk q))) ∧
    (∀ {b : Bool} {p q : Prop}, @Eq Prop (@gV (AV.bool b) false (Hold.mk p) (Hold.mk q)) (@Br (@Eq Bool b true) (Hold.mk q) (Hold.mk p))) ∧
    (∀ {C : Ctx} {g : Nat} {args : List AV} {h : Heap} {K : AV → Heap → Prop}, @Eq Prop (@Call C (AV.func g (@List.nil AV) (@List.nil AV)) args h (HoldR.mk K)) (@ACallsK C g args h (HoldR.mk K))) ∧
    (∀ {C : Ctx} {g : Nat} {f c args : List AV} {h : Heap} {K : AV → Heap → Prop}, @Eq Prop (@Call C (AV.func g f c) args h (HoldR.mk K)) (@ACallsK C g (@HAppend.hAppend (List AV) (List AV) (List AV) (@instHAppendOfAppend (List AV) (@List.instAppend AV)) (@HAppend.hAppend (List AV) (List AV) (List AV) (@instHAppendOfAppend (List AV) (@List.instAppend AV)) f args) c) h (HoldR.mk K))) ∧
    (∀ {C : Ctx} {l : Nat} {args : List AV} {h : Heap} {K : AV → Heap → Prop}, @Eq Prop (@Call C (AV.yield l) args h (HoldR.mk K)) (@AYieldK C l args h (HoldR.mk K))) ∧
    (∀ {v : AV} {h : Heap} {K : AV → Heap → Prop}, @Eq Prop (@opt1 (@some AV v) h (HoldR.mk K)) (K v h)) ∧
    (∀ {v : AV} {h : Heap} {K : AV → Heap → Prop}, @Eq Prop (@opt2 (@some (Prod AV Heap) (@Prod.mk AV Heap v h)) (HoldR.mk K)) (K v h)) ∧
    (∀ {nid : Option Nat} {ev : AOpd → AV} {h : Heap} {K : AV → Heap → Prop} {x : AOpd}, @Eq Prop (@opR nid (AOp.mv x) ev h (HoldR.mk K)) (K (ev x) h)) ∧
    (∀ {nid : Option Nat} {ev : AOpd → AV} {h : Heap} {K : AV → Heap → Prop} {c a b : AOpd}, @Eq Prop (@opR nid (AOp.pick c a b) ev h (HoldR.mk K)) (@opt1 (pickA (ev a) (ev b) (ev c)) h (HoldR.mk K))) ∧
    (∀ {nid : Option Nat} {ev : AOpd → AV} {h : Heap} {K : AV → Heap → Prop} {z : List AV} {parts : List (Prod Nat (Prod Nat AOpd))}, @Eq Prop (@opR nid (AOp.build z parts) ev h (HoldR.mk K)) (@opt1 (@Option.map (List AV) AV AV.agg (fillA z (@List.map (Prod Nat (Prod Nat AOpd)) (Prod Nat (Prod Nat AV)) (fun p => @Prod.mk Nat (Prod Nat AV) (@Prod.fst Nat (Prod Nat AOpd) p) (@Prod.mk Nat AV (@Prod.fst Nat AOpd (@Prod.snd Nat (Prod Nat AOpd) p)) (ev (@Prod.snd Nat AOpd (@Prod.snd Nat (Prod Nat AOpd) p))))) parts))) h (HoldR.mk K))) ∧
    (∀ {nid : Option Nat} {ev : AOpd → AV} {h : Heap} {K : AV → Heap → Prop} {agg : Bool} {n : Nat} {x : AOpd}, @Eq Prop (@opR nid (AOp.load agg n x) ev h (HoldR.mk K)) (@opt1 (loadA h agg n (ev x)) h (HoldR.mk K))) ∧
    (∀ {nid : Option Nat} {ev : AOpd → AV} {h : Heap} {K : AV → Heap → Prop} {x : AOpd}, @Eq Prop (@opR nid (AOp.nilCheck x) ev h (HoldR.mk K)) (@opt1 (notNilA (ev x)) h (HoldR.mk K))) ∧
    (∀ {nid : Option Nat} {ev : AOpd → AV} {h : Heap} {K : AV → Heap → Prop} {op : BinOp} {x y : AOpd}, @Eq Prop (@opR nid (AOp.bin op x y) ev h (HoldR.mk K)) (@opt1 (binA op (ev x) (ev y)) h (HoldR.mk K))) ∧
    (∀ {nid : Option Nat} {ev : AOpd → AV} {h : Heap} {K : AV → Heap → Prop} {neg : Bool} {x y : AOpd}, @Eq Prop (@opR nid (AOp.eqb neg x y) ev h (HoldR.mk K)) (@opt1 (eqbA neg (ev x) (ev y)) h (HoldR.mk K))) ∧
    (∀ {nid : Option Nat} {ev : AOpd → AV} {h : Heap} {K : AV → Heap → Prop} {neg : Bool} {x : AOpd}, @Eq Prop (@opR nid (AOp.eqn neg x) ev h (HoldR.mk K)) (@opt1 (eqnA neg (ev x)) h (HoldR.mk K))) ∧
    (∀ {nid : Option Nat} {ev : AOpd → AV} {h : Heap} {K : AV → Heap → Prop} {neg : Bool} {ls : List (Prod Nat Bool)} {x y : AOpd}, @Eq Prop (@opR nid (AOp.eqs neg ls x y) ev h (HoldR.mk K)) (@opt1 (eqsA neg ls (ev x) (ev y)) h (HoldR.mk K))) ∧
    (∀ {nid : Option Nat} {ev : AOpd → AV} {h : Heap} {K : AV → Heap → Prop} {op : UnOp} {x : AOpd}, @Eq Prop (@opR nid (AOp.un op x) ev h (HoldR.mk K)) (@opt1 (unA op (ev x)) h (HoldR.mk K))) ∧
    (∀ {nid : Option Nat} {ev : AOpd → AV} {h : Heap} {K : AV → Heap → Prop} {k : IntKind} {x : AOpd}, @Eq Prop (@opR nid (AOp.conv k x) ev h (HoldR.mk K)) (@opt1 (convA k (ev x)) h (HoldR.mk K))) ∧
    (∀ {nid : Option Nat} {ev : AOpd → AV} {h : Heap} {K : AV → Heap → Prop} {g : Nat} {a c : List AOpd}, @Eq Prop (@opR nid (AOp.mkfunc g a c) ev h (HoldR.mk K)) (K (AV.func g (@List.map AOpd AV ev a) (@List.map AOpd AV ev c)) h)) ∧
    (∀ {nid : Option Nat} {ev : AOpd → AV} {h : Heap} {K : AV → Heap → Prop} {sz : Nat} {x : AOpd} {lo hi mx : Option AOpd}, @Eq Prop (@opR nid (AOp.slice sz x lo hi mx) ev h (HoldR.mk K)) (@opt1 (sliceA h sz (ev x) (@Option.map AOpd AV ev lo) (@Option.map AOpd AV ev hi) (@Option.map AOpd AV ev mx)) h (HoldR.mk K))) ∧
    (∀ {nid : Option Nat} {ev : AOpd → AV} {h : Heap} {K : AV → Heap → Prop} {off : Nat} {x : AOpd}, @Eq Prop (@opR nid (AOp.fieldAddr off x) ev h (HoldR.mk K)) (@opt1 (fieldAddrA off (ev x)) h (HoldR.mk K))) ∧
    (∀ {nid : Option Nat} {ev : AOpd → AV} {h : Heap} {K : AV → Heap → Prop} {agg : Bool} {off n : Nat} {x : AOpd}, @Eq Prop (@opR nid (AOp.field agg off n x) ev h (HoldR.mk K)) (@opt1 (fieldA agg off n (ev x)) h (HoldR.mk K))) ∧
    (∀ {nid : Option Nat} {ev : AOpd → AV} {h : Heap} {K : AV → Heap → Prop} {sz : Nat} {x i : AOpd}, @Eq Prop (@opR nid (AOp.indexAddr sz x i) ev h (HoldR.mk K)) (@opt1 (idxA sz (ev x) (ev i)) h (HoldR.mk K))) ∧
    (∀ {nid : Option Nat} {ev : AOpd → AV} {h : Heap} {K : AV → Heap → Prop} {sz len : Nat} {x i : AOpd}, @Eq Prop (@opR nid (AOp.indexArr sz len x i) ev h (HoldR.mk K)) (@opt1 (idxArrA sz len (ev x) (ev i)) h (HoldR.mk K))) ∧
    (∀ {nid : Option Nat} {ev : AOpd → AV} {h : Heap} {K : AV → Heap → Prop} {agg : Bool} {sz len : Nat} {x i : AOpd}, @Eq Prop (@opR nid (AOp.index agg sz len x i) ev h (HoldR.mk K)) (@opt1 (idxValA agg sz len (ev x) (ev i)) h (HoldR.mk K))) ∧
    (∀ {nid : Option Nat} {ev : AOpd → AV} {h : Heap} {K : AV → Heap → Prop} {x : AOpd} {i : Nat}, @Eq Prop (@opR nid (AOp.extract x i) ev h (HoldR.mk K)) (@opt1 (extA i (ev x)) h (HoldR.mk K))) ∧
    (∀ {nid : Option Nat} {ev : AOpd → AV} {h : Heap} {K : AV → Heap → Prop} {x : AOpd}, @Eq Prop (@opR nid (AOp.len x) ev h (HoldR.mk K)) (@opt1 (lenA (ev x)) h (HoldR.mk K))) ∧
    (∀ {nid : Option Nat} {ev : AOpd → AV} {h : Heap} {K : AV → Heap → Prop} {x : AOpd}, @Eq Prop (@opR nid (AOp.cap x) ev h (HoldR.mk K)) (@opt1 (capA (ev x)) h (HoldR.mk K))) ∧
    (∀ {nid : Option Nat} {ev : AOpd → AV} {h : Heap} {K : AV → Heap → Prop} {xs : List AOpd}, @Eq Prop (@opR nid (AOp.max xs) ev h (HoldR.mk K)) (@opt1 (maxA (@List.map AOpd AV ev xs)) h (HoldR.mk K))) ∧
    (∀ {nid : Option Nat} {ev : AOpd → AV} {h : Heap} {K : AV → Heap → Prop} {xs : List AOpd}, @Eq Prop (@opR nid (AOp.min xs) ev h (HoldR.mk K)) (@opt1 (minA (@List.map AOpd AV ev xs)) h (HoldR.mk K))) ∧
    (∀ {nid : Option Nat} {ev : AOpd → AV} {h : Heap} {K : AV → Heap → Prop} {z : List AV}, @Eq Prop (@opR nid (AOp.alloc z) ev h (HoldR.mk K)) (@opt2 (allocA nid z h) (HoldR.mk K))) ∧
    (∀ {nid : Option Nat} {ev : AOpd → AV} {h : Heap} {K : AV → Heap → Prop} {x : AOpd}, @Eq Prop (@opR nid (AOp.box x) ev h (HoldR.mk K)) (@opt2 (allocA nid (AV.cells (ev x)) h) (HoldR.mk K))) ∧
    (∀ {nid : Option Nat} {ev : AOpd → AV} {h : Heap} {K : AV → Heap → Prop} {n : Nat} {z : List AV} {parts : List (Prod Nat (Prod Nat AOpd))}, @Eq Prop (@opR nid (AOp.buildSlice n z parts) ev h (HoldR.mk K)) (@opt2 (buildSliceA nid n (fillA z (@List.map (Prod Nat (Prod Nat AOpd)) (Prod Nat (Prod Nat AV)) (fun p => @Prod.mk Nat (Prod Nat AV) (@Prod.fst Nat (Prod Nat AOpd) p) (@Prod.mk Nat AV (@Prod.fst Nat AOpd (@Prod.snd Nat (Prod Nat AOpd) p)) (ev (@Prod.snd Nat AOpd (@Prod.snd Nat (Prod Nat AOpd) p))))) parts)) h) (HoldR.mk K))) ∧
    (∀ {nid : Option Nat} {ev : AOpd → AV} {h : Heap} {K : AV → Heap → Prop} {n : Nat} {x v : AOpd}, @Eq Prop (@opR nid (AOp.store n x v) ev h (HoldR.mk K)) (@opt2 (storeOA (storeA h n (ev x) (ev v))) (HoldR.mk K))) ∧
    (∀ {nid : Option Nat} {ev : AOpd → AV} {h : Heap} {K : AV → Heap → Prop} {z : List AV} {bytes : Nat} {l c : AOpd}, @Eq Prop (@opR nid (AOp.makeSlice z bytes l c) ev h (HoldR.mk K)) (@opt2 (makeA nid z bytes h (ev l) (ev c)) (HoldR.mk K))) ∧
    (∀ {nid : Option Nat} {ev : AOpd → AV} {h : Heap} {K : AV → Heap → Prop} {sz bytes : Nat} {s x : AOpd}, @Eq Prop (@opR nid (AOp.append sz bytes s x) ev h (HoldR.mk K)) (@opt2 (appA nid sz bytes h (ev s) (contentA h sz (ev x))) (HoldR.mk K))) ∧
    (∀ {nid : Option Nat} {ev : AOpd → AV} {h : Heap} {K : AV → Heap → Prop} {sz : Nat} {d s : AOpd}, @Eq Prop (@opR nid (AOp.copy sz d s) ev h (HoldR.mk K)) (@opt2 (copyA h sz (ev d) (ev s)) (HoldR.mk K))) ∧
    (∀ {k : IntKind} {a b : Int}, @Eq (Option AV) (binA BinOp.add (AV.int k a) (AV.int k b)) (@some AV (AV.int k (IntKind.wrap k (@HAdd.hAdd Int Int Int (@instHAdd Int Int.instAdd) a b))))) ∧
    (∀ {k : IntKind} {a b : Int}, @Eq (Option AV) (binA BinOp.sub (AV.int k a) (AV.int k b)) (@some AV (AV.int k (IntKind.wrap k (@HSub.hSub Int Int Int (@instHSub Int Int.instSub) a b))))) ∧
    (∀ {k : IntKind} {a b : Int}, @Eq (Option AV) (binA BinOp.mul (AV.int k a) (AV.int k b)) (@some AV (AV.int k (IntKind.wrap k (@HMul.hMul Int Int Int (@instHMul Int Int.instMul) a b))))) ∧
    (∀ {k : IntKind} {a b : Int}, @Ne Int b (@OfNat.ofNat Int (nat_lit 0) (@instOfNat (nat_lit 0))) → @Eq (Option AV) (binA BinOp.quo (AV.int k a) (AV.int k b)) (@some AV (AV.int k (IntKind.wrap k (Int.tdiv a b))))) ∧
    (∀ {k : IntKind} {a b : Int}, @Ne Int b (@OfNat.ofNat Int (nat_lit 0) (@instOfNat (nat_lit 0))) → @Eq (Option AV) (binA BinOp.rem (AV.int k a) (AV.int k b)) (@some AV (AV.int k (Int.tmod a b)))) ∧
    (∀ {k : IntKind} {a b : Int}, @Eq (Option AV) (binA BinOp.and (AV.int k a) (AV.int k b)) (@some AV (AV.int k (bitsA BinOp.and k a b)))) ∧
    (∀ {k : IntKind} {a b : Int}, @Eq (Option AV) (binA BinOp.or (AV.int k a) (AV.int k b)) (@some AV (AV.int k (bitsA BinOp.or k a b)))) ∧
    (∀ {k : IntKind} {a b : Int}, @Eq (Option AV) (binA BinOp.xor (AV.int k a) (AV.int k b)) (@some AV (AV.int k (bitsA BinOp.xor k a b)))) ∧
    (∀ {k : IntKind} {a b : Int}, @Eq (Option AV) (binA BinOp.andNot (AV.int k a) (AV.int k b)) (@some AV (AV.int k (bitsA BinOp.andNot k a b)))) ∧
    (∀ {k : IntKind} {a b : Int}, @Eq (Option AV) (binA BinOp.eql (AV.int k a) (AV.int k b)) (@some AV (AV.bool (@decide (@Eq Int a b) (Int.instDecidableEq a b))))) ∧
    (∀ {k : IntKind} {a b : Int}, @Eq (Option AV) (binA BinOp.neq (AV.int k a) (AV.int k b)) (@some AV (AV.bool (@decide (@Ne Int a b) (@instDecidableNot (@Eq Int a b) (Int.instDecidableEq a b)))))) ∧
    (∀ {k : IntKind} {a b : Int}, @Eq (Option AV) (binA BinOp.lss (AV.int k a) (AV.int k b)) (@some AV (AV.bool (@decide (@LT.lt Int Int.instLTInt a b) (Int.decLt a b))))) ∧
    (∀ {k : IntKind} {a b : Int}, @Eq (Option AV) (binA BinOp.leq (AV.int k a) (AV.int k b)) (@some AV (AV.bool (@decide (@LE.le Int Int.instLEInt a b) (Int.decLe a b))))) ∧
    (∀ {k : IntKind} {a b : Int}, @Eq (Option AV) (binA BinOp.gtr (AV.int k a) (AV.int k b)) (@some AV (AV.bool (@decide (@LT.lt Int Int.instLTInt b a) (Int.decLt b a))))) ∧
    (∀ {k : IntKind} {a b : Int}, @Eq (Option AV) (binA BinOp.geq (AV.int k a) (AV.int k b)) (@some AV (AV.bool (@decide (@LE.le Int Int.instLEInt b a) (Int.decLe b a))))) ∧
    (∀ {k k' : IntKind} {a b : Int}, @LE.le Int Int.instLEInt (@OfNat.ofNat Int (nat_lit 0) (@instOfNat (nat_lit 0))) b → @Eq (Option AV) (binA BinOp.shl (AV.int k a) (AV.int k' b)) (@some AV (AV.int k (IntKind.wrap k (@HMul.hMul Int Int Int (@instHMul Int Int.instMul) a (@HPow.hPow Int Nat Int (@instHPow Int Nat (@instPowNat Int Int.instNatPow)) (@OfNat.ofNat Int (nat_lit 2) (@instOfNat (nat_lit 2))) (@min Nat instMinNat (Int.toNat b) (IntKind.bits k)))))))) ∧
    (∀ {k k' : IntKind} {a b : Int}, @LE.le Int Int.instLEInt (@OfNat.ofNat Int (nat_lit 0) (@instOfNat (nat_lit 0))) b → @Eq (Option AV) (binA BinOp.shr (AV.int k a) (AV.int k' b)) (@some AV (AV.int k (Int.fdiv a (@HPow.hPow Int Nat Int (@instHPow Int Nat (@instPowNat Int Int.instNatPow)) (@OfNat.ofNat Int (nat_lit 2) (@instOfNat (nat_lit 2))) (@min Nat instMinNat (Int.toNat b) (IntKind.bits k))))))) ∧
    (∀ {a : Int}, And (@LE.le Int Int.instLEInt (@OfNat.ofNat Int (nat_lit 0) (@instOfNat (nat_lit 0))) a) (@LE.le Int Int.instLEInt a (@OfNat.ofNat Int (nat_lit 9223372036854775807) (@instOfNat (nat_lit 9223372036854775807)))) → @Eq Int (bitsA BinOp.and IntKind.i64 a (@OfNat.ofNat Int (nat_lit 1) (@instOfNat (nat_lit 1)))) (@HMod.hMod Int Int Int (@instHMod Int Int.instMod) a (@OfNat.ofNat Int (nat_lit 2) (@instOfNat (nat_lit 2))))) ∧
    (∀ {k : IntKind} {a : Int}, @Eq (Option AV) (unA UnOp.neg (AV.int k a)) (@some AV (AV.int k (IntKind.wrap k (@HSub.hSub Int Int Int (@instHSub Int Int.instSub) (@OfNat.ofNat Int (nat_lit 0) (@instOfNat (nat_lit 0))) a))))) ∧
    (∀ {b : Bool}, @Eq (Option AV) (unA UnOp.not (AV.bool b)) (@some AV (AV.bool (not b)))) ∧
    (∀ {k : IntKind} {a : Int}, @Eq (Option AV) (unA UnOp.xor (AV.int k a)) (@some AV (AV.int k (bitsA BinOp.xor k (@ite Int (@Eq Bool (IntKind.signed k) true) (instDecidableEqBool (IntKind.signed k) true) (@Neg.neg Int Int.instNegInt (@OfNat.ofNat Int (nat_lit 1) (@instOfNat (nat_lit 1)))) (IntKind.max k)) a)))) ∧
    (∀ {k k' : IntKind} {a : Int}, @Eq (Option AV) (convA k (AV.int k' a)) (@some AV (AV.int k (IntKind.wrap k a)))) ∧
    (∀ {a b : Bool}, @Eq (Option AV) (eqbA false (AV.bool a) (AV.bool b)) (@some AV (AV.bool (@BEq.beq Bool (@instBEqOfDecidableEq Bool instDecidableEqBool) a b)))) ∧
    (∀ {a b : Bool}, @Eq (Option AV) (eqbA true (AV.bool a) (AV.bool b)) (@some AV (AV.bool (not (@BEq.beq Bool (@instBEqOfDecidableEq Bool instDecidableEqBool) a b))))) ∧
    (∀ {x y : AV}, @Eq (Option AV) (pickA x y (AV.bool true)) (@some AV x)) ∧
    (∀ {x y : AV}, @Eq (Option AV) (pickA x y (AV.bool false)) (@some AV y)) ∧
    (∀ {x y : AV} {c : Prop} [inst : Decidable c], c → @Eq (Option AV) (pickA x y (AV.bool (@decide c inst))) (@some AV x)) ∧
    (∀ {x y : AV} {c : Prop} [inst : Decidable c], Not c → @Eq (Option AV) (pickA x y (AV.bool (@decide c inst))) (@some AV y)) ∧
    (∀ {x y : AV} {b : Bool}, @Eq Bool b true → @Eq (Option AV) (pickA x y (AV.bool b)) (@some AV x)) ∧
    (∀ {x y : AV} {b : Bool}, Not (@Eq Bool b true) → @Eq (Option AV) (pickA x y (AV.bool b)) (@some AV y)) ∧
    (∀ {vs : List AV} {i : Nat}, @Eq (Option AV) (extA i (AV.tuple vs)) (@getElem? (List AV) Nat AV (fun xs i => @LT.lt Nat instLTNat i (@List.length AV xs)) (@List.instGetElem?NatLtLength AV) vs i)) ∧
    (∀ {k : IntKind} {a b : Int}, @Eq (Option AV) (maxA (@List.cons AV (AV.int k a) (@List.cons AV (AV.int k b) (@List.nil AV)))) (@some AV (AV.int k (@max Int Int.instMax a b)))) ∧
    (∀ {k : IntKind} {a b c : Int}, @Eq (Option AV) (maxA (@List.cons AV (AV.int k a) (@List.cons AV (AV.int k b) (@List.cons AV (AV.int k c) (@List.nil AV))))) (@some AV (AV.int k (@max Int Int.instMax (@max Int Int.instMax a b) c)))) ∧
    (∀ {k : IntKind} {a b : Int}, @Eq (Option AV) (minA (@List.cons AV (AV.int k a) (@List.cons AV (AV.int k b) (@List.nil AV)))) (@some AV (AV.int k (@min Int Int.instMin a b)))) ∧
    (∀ {k : IntKind} {a b c : Int}, @Eq (Option AV) (minA (@List.cons AV (AV.int k a) (@List.cons AV (AV.int k b) (@List.cons AV (AV.int k c) (@List.nil AV))))) (@some AV (AV.int k (@min Int Int.instMin (@min Int Int.instMin a b) c)))) ∧
    (∀ {x : Int}, And (@LE.le Int Int.instLEInt (@Neg.neg Int Int.instNegInt (@OfNat.ofNat Int (nat_lit 9223372036854775808) (@instOfNat (nat_lit 9223372036854775808)))) x) (@LE.le Int Int.instLEInt x (@OfNat.ofNat Int (nat_lit 9223372036854775807) (@instOfNat (nat_lit 9223372036854775807)))) → @Eq Int (IntKind.wrap IntKind.i64 x) x) ∧
    (∀ {x : Int}, And (@LE.le Int Int.instLEInt (@Neg.neg Int Int.instNegInt (@OfNat.ofNat Int (nat_lit 2147483648) (@instOfNat (nat_lit 2147483648)))) x) (@LE.le Int Int.instLEInt x (@OfNat.ofNat Int (nat_lit 2147483647) (@instOfNat (nat_lit 2147483647)))) → @Eq Int (IntKind.wrap IntKind.i32 x) x) ∧
    (∀ {x : Int}, And (@LE.le Int Int.instLEInt (@OfNat.ofNat Int (nat_lit 0) (@instOfNat (nat_lit 0))) x) (@LE.le Int Int.instLEInt x (@OfNat.ofNat Int (nat_lit 255) (@instOfNat (nat_lit 255)))) → @Eq Int (IntKind.wrap IntKind.u8 x) x) ∧
    (∀ {x : Int}, And (@LE.le Int Int.instLEInt (@OfNat.ofNat Int (nat_lit 0) (@instOfNat (nat_lit 0))) x) (@LE.le Int Int.instLEInt x (@OfNat.ofNat Int (nat_lit 4294967295) (@instOfNat (nat_lit 4294967295)))) → @Eq Int (IntKind.wrap IntKind.u32 x) x) ∧
    (∀ {x : Int}, And (@LE.le Int Int.instLEInt (@OfNat.ofNat Int (nat_lit 0) (@instOfNat (nat_lit 0))) x) (@LE.le Int Int.instLEInt x (@OfNat.ofNat Int (nat_lit 18446744073709551615) (@instOfNat (nat_lit 18446744073709551615)))) → @Eq Int (IntKind.wrap IntKind.u64 x) x) ∧
    (∀ {a b : Int}, @LE.le Int Int.instLEInt (@OfNat.ofNat Int (nat_lit 0) (@instOfNat (nat_lit 0))) a → @Eq Int (Int.tdiv a b) (@HDiv.hDiv Int Int Int (@instHDiv Int Int.instDiv) a b)) ∧
    (∀ {a b : Int}, @LE.le Int Int.instLEInt (@OfNat.ofNat Int (nat_lit 0) (@instOfNat (nat_lit 0))) a → @Eq Int (Int.tmod a b) (@HMod.hMod Int Int Int (@instHMod Int Int.instMod) a b)) ∧
    (∀ {a b : Int}, @LE.le Int Int.instLEInt (@OfNat.ofNat Int (nat_lit 0) (@instOfNat (nat_lit 0))) b → @Eq Int (Int.fdiv a b) (@HDiv.hDiv Int Int Int (@instHDiv Int Int.instDiv) a b)) ∧
    (@Eq Nat (IntKind.bits IntKind.i64) (@OfNat.ofNat Nat (nat_lit 64) (instOfNatNat (nat_lit 64)))) ∧
    (@Eq Nat (IntKind.bits IntKind.u64) (@OfNat.ofNat Nat (nat_lit 64) (instOfNatNat (nat_lit 64)))) ∧
    (@Eq Nat (IntKind.bits IntKind.u32) (@OfNat.ofNat Nat (nat_lit 32) (instOfNatNat (nat_lit 32)))) ∧
    (@Eq Nat (IntKind.bits IntKind.i32) (@OfNat.ofNat Nat (nat_lit 32) (instOfNatNat (nat_lit 32)))) ∧
    (@Eq Nat (IntKind.bits IntKind.u8) (@OfNat.ofNat Nat (nat_lit 8) (instOfNatNat (nat_lit 8)))) ∧
    (∀ {b : Int} {n : Nat}, @LE.le Int Int.instLEInt b (@Nat.cast Int instNatCastInt n) → @Eq Nat (@min Nat instMinNat (Int.toNat b) n) (Int.toNat b)) ∧
    (∀ {h : Heap} {b : ABlk} {i : Nat}, @Eq Nat i (Heap.size h) → @Eq (Option ABlk) (Heap.get (Heap.push h b) i) (@some ABlk b)) ∧
    (∀ {h : Heap} {b : ABlk} {i : Nat}, @LT.lt Nat instLTNat i (Heap.size h) → @Eq (Option ABlk) (Heap.get (Heap.push h b) i) (Heap.get h i)) ∧
    (∀ {h : Heap} {b : ABlk} {i j : Nat}, @Eq Nat j i → @LT.lt Nat instLTNat i (Heap.size h) → @Eq (Option ABlk) (Heap.get (Heap.put h i b) j) (@some ABlk b)) ∧
    (∀ {h : Heap} {b : ABlk} {i j : Nat}, @Ne Nat j i → @Eq (Option ABlk) (Heap.get (Heap.put h i b) j) (Heap.get h j)) ∧
    (∀ {h : Heap} {i : Nat} {b b' : ABlk}, @Eq Heap (Heap.put (Heap.put h i b) i b') (Heap.put h i b')) ∧
    (∀ {h : Heap} {i : Nat} {b b' : ABlk}, @Eq Nat i (Heap.size h) → @Eq Heap (Heap.put (Heap.push h b) i b') (Heap.push h b')) ∧
    (∀ {h : Heap} {i : Nat} {b b' : ABlk}, @LT.lt Nat instLTNat i (Heap.size h) → @Eq Heap (Heap.put (Heap.push h b) i b') (Heap.push (Heap.put h i b') b)) ∧
    (∀ (h : Heap) (b : ABlk), @Eq Nat (Heap.size (Heap.push h b)) (@HAdd.hAdd Nat Nat Nat (@instHAdd Nat instAddNat) (Heap.size h) (@OfNat.ofNat Nat (nat_lit 1) (instOfNatNat (nat_lit 1))))) ∧
    (∀ (h : Heap) (i : Nat) (b : ABlk), @Eq Nat (Heap.size (Heap.put h i b)) (Heap.size h)) ∧
    (∀ (h : Heap) (k : Nat), @Eq Nat (Heap.size (Heap.reserve h k)) (@HAdd.hAdd Nat Nat Nat (@instHAdd Nat instAddNat) (Heap.size h) k)) ∧
    (∀ (h : Heap) (k i : Nat), @Eq (Option ABlk) (Heap.get (Heap.reserve h k) i) (Heap.get h i)) ∧
    (∀ {h : Heap} {agg : Bool} {n i o : Nat}, @Eq (Option AV) (loadA h agg n (AV.ptr i o)) (loadB agg n o (Heap.get h i))) ∧
    (∀ {n o : Nat} {vs : List AV} {wr : Bool} {u : Nat}, @Eq (Option AV) (loadB false n o (@some ABlk (ABlk.cells vs wr u))) (@getElem? (List AV) Nat AV (fun xs i => @LT.lt Nat instLTNat i (@List.length AV xs)) (@List.instGetElem?NatLtLength AV) vs o)) ∧
    (∀ {n o : Nat} {vs : List AV} {wr : Bool} {u : Nat}, @LE.le Nat instLENat (@HAdd.hAdd Nat Nat Nat (@instHAdd Nat instAddNat) o n) (@List.length AV vs) → @Eq (Option AV) (loadB true n o (@some ABlk (ABlk.cells vs wr u))) (@some AV (AV.agg (cut vs o n)))) ∧
    (∀ {h : Heap} {n i o : Nat} {v : AV}, @Eq (Option Heap) (storeA h n (AV.ptr i o) v) (storeB h i n o v (Heap.get h i))) ∧
    (∀ {h : Heap} {i o : Nat} {k : IntKind} {x : Int} {vs : List AV} {u : Nat}, @LT.lt Nat instLTNat o (@List.length AV vs) → @Eq (Option Heap) (storeB h i (@OfNat.ofNat Nat (nat_lit 1) (instOfNatNat (nat_lit 1))) o (AV.int k x) (@some ABlk (ABlk.cells vs true u))) (@some Heap (Heap.put h i (ABlk.cells (@List.set AV vs o (AV.int k x)) true u)))) ∧
    (∀ {h : Heap} {i o : Nat} {x : Bool} {vs : List AV} {u : Nat}, @LT.lt Nat instLTNat o (@List.length AV vs) → @Eq (Option Heap) (storeB h i (@OfNat.ofNat Nat (nat_lit 1) (instOfNatNat (nat_lit 1))) o (AV.bool x) (@some ABlk (ABlk.cells vs true u))) (@some Heap (Heap.put h i (ABlk.cells (@List.set AV vs o (AV.bool x)) true u)))) ∧
    (∀ {h : Heap} {i o j p n : Nat} {c : Cap} {vs : List AV} {u : Nat}, @LT.lt Nat instLTNat o (@List.length AV vs) → @Eq (Option Heap) (storeB h i (@OfNat.ofNat Nat (nat_lit 1) (instOfNatNat (nat_lit 1))) o (AV.slice j p n c) (@some ABlk (ABlk.cells vs true u))) (@some Heap (Heap.put h i (ABlk.cells (@List.set AV vs o (AV.slice j p n c)) true u)))) ∧
    (∀ {h : Heap} {i o : Nat} {vs : List AV} {u : Nat}, @LT.lt Nat instLTNat o (@List.length AV vs) → @Eq (Option Heap) (storeB h i (@OfNat.ofNat Nat (nat_lit 1) (instOfNatNat (nat_lit 1))) o AV.nilslice (@some ABlk (ABlk.cells vs true u))) (@some Heap (Heap.put h i (ABlk.cells (@List.set AV vs o AV.nilslice) true u)))) ∧
    (∀ {h : Heap} {i o n : Nat} {xs vs : List AV} {u : Nat}, @Eq Nat (@List.length AV xs) n → @LE.le Nat instLENat (@HAdd.hAdd Nat Nat Nat (@instHAdd Nat instAddNat) o n) (@List.length AV vs) → @Eq Bool (@List.all AV xs AV.one) true → @Eq (Option Heap) (storeB h i n o (AV.agg xs) (@some ABlk (ABlk.cells vs true u))) (@some Heap (Heap.put h i (ABlk.cells (splice vs o xs) true u)))) ∧
    (∀ {h : Heap} {i o : Nat} {v : AV} {vs : List AV} {u : Nat}, @Eq (List AV) (AV.cells v) (@List.cons AV v (@List.nil AV)) → @Eq Bool (AV.one v) true → @LT.lt Nat instLTNat o (@List.length AV vs) → @Eq (Option Heap) (storeB h i (@OfNat.ofNat Nat (nat_lit 1) (instOfNatNat (nat_lit 1))) o v (@some ABlk (ABlk.cells vs true u))) (@some Heap (Heap.put h i (ABlk.cells (@List.set AV vs o v) true u)))) ∧
    (∀ {vs : List AV} {o : Nat} {c : AV}, @Eq (List AV) (splice vs o (@List.cons AV c (@List.nil AV))) (@List.set AV vs o c)) ∧
    (∀ {vs : List AV} {o : Nat} {x y : AV} {cs : List AV}, @Eq (List AV) (splice vs o (@List.cons AV x (@List.cons AV y cs))) (@HAppend.hAppend (List AV) (List AV) (List AV) (@instHAppendOfAppend (List AV) (@List.instAppend AV)) (@HAppend.hAppend (List AV) (List AV) (List AV) (@instHAppendOfAppend (List AV) (@List.instAppend AV)) (@List.take AV o vs) (@List.cons AV x (@List.cons AV y cs))) (@List.drop AV (@HAdd.hAdd Nat Nat Nat (@instHAdd Nat instAddNat) o (@HAdd.hAdd Nat Nat Nat (@instHAdd Nat instAddNat) (@List.length AV cs) (@OfNat.ofNat Nat (nat_lit 2) (instOfNatNat (nat_lit 2))))) vs))) ∧
    (∀ {vs : List AV} {o : Nat}, @Eq (List AV) (cut vs o (@OfNat.ofNat Nat (nat_lit 0) (instOfNatNat (nat_lit 0)))) (@List.nil AV)) ∧
    (∀ {x : AV} {vs : List AV} {n : Nat}, @Eq (List AV) (cut (@List.cons AV x vs) (@OfNat.ofNat Nat (nat_lit 0) (instOfNatNat (nat_lit 0))) (@HAdd.hAdd Nat Nat Nat (@instHAdd Nat instAddNat) n (@OfNat.ofNat Nat (nat_lit 1) (instOfNatNat (nat_lit 1))))) (@List.cons AV x (cut vs (@OfNat.ofNat Nat (nat_lit 0) (instOfNatNat (nat_lit 0))) n))) ∧
    (∀ {x : AV} {vs : List AV} {o n : Nat}, @Eq (List AV) (cut (@List.cons AV x vs) (@HAdd.hAdd Nat Nat Nat (@instHAdd Nat instAddNat) o (@OfNat.ofNat Nat (nat_lit 1) (instOfNatNat (nat_lit 1)))) n) (cut vs o n)) ∧
    (∀ {z : List AV}, @Eq (Option (List AV)) (fillA z (@List.nil (Prod Nat (Prod Nat AV)))) (@some (List AV) z)) ∧
    (∀ {z : List AV} {o : Nat} {k : IntKind} {n : Int} {rest : List (Prod Nat (Prod Nat AV))}, @LT.lt Nat instLTNat o (@List.length AV z) → @Eq (Option (List AV)) (fillA z (@List.cons (Prod Nat (Prod Nat AV)) (@Prod.mk Nat (Prod Nat AV) o (@Prod.mk Nat AV (@OfNat.ofNat Nat (nat_lit 1) (instOfNatNat (nat_lit 1))) (AV.int k n))) rest)) (fillA (@List.set AV z o (AV.int k n)) rest)) ∧
    (∀ {z : List AV} {o : Nat} {b : Bool} {rest : List (Prod Nat (Prod Nat AV))}, @LT.lt Nat instLTNat o (@List.length AV z) → @Eq (Option (List AV)) (fillA z (@List.cons (Prod Nat (Prod Nat AV)) (@Prod.mk Nat (Prod Nat AV) o (@Prod.mk Nat AV (@OfNat.ofNat Nat (nat_lit 1) (instOfNatNat (nat_lit 1))) (AV.bool b))) rest)) (fillA (@List.set AV z o (AV.bool b)) rest)) ∧
    (∀ {z : List AV} {o i p : Nat} {rest : List (Prod Nat (Prod Nat AV))}, @LT.lt Nat instLTNat o (@List.length AV z) → @Eq (Option (List AV)) (fillA z (@List.cons (Prod Nat (Prod Nat AV)) (@Prod.mk Nat (Prod Nat AV) o (@Prod.mk Nat AV (@OfNat.ofNat Nat (nat_lit 1) (instOfNatNat (nat_lit 1))) (AV.ptr i p))) rest)) (fillA (@List.set AV z o (AV.ptr i p)) rest)) ∧
    (∀ {z : List AV} {o i p n : Nat} {c : Cap} {rest : List (Prod Nat (Prod Nat AV))}, @LT.lt Nat instLTNat o (@List.length AV z) → @Eq (Option (List AV)) (fillA z (@List.cons (Prod Nat (Prod Nat AV)) (@Prod.mk Nat (Prod Nat AV) o (@Prod.mk Nat AV (@OfNat.ofNat Nat (nat_lit 1) (instOfNatNat (nat_lit 1))) (AV.slice i p n c))) rest)) (fillA (@List.set AV z o (AV.slice i p n c)) rest)) ∧
    (∀ {z : List AV} {o : Nat} {rest : List (Prod Nat (Prod Nat AV))}, @LT.lt Nat instLTNat o (@List.length AV z) → @Eq (Option (List AV)) (fillA z (@List.cons (Prod Nat (Prod Nat AV)) (@Prod.mk Nat (Prod Nat AV) o (@Prod.mk Nat AV (@OfNat.ofNat Nat (nat_lit 1) (instOfNatNat (nat_lit 1))) AV.nilslice)) rest)) (fillA (@List.set AV z o AV.nilslice) rest)) ∧
    (∀ {z : List AV} {o g : Nat} {f c : List AV} {rest : List (Prod Nat (Prod Nat AV))}, @LT.lt Nat instLTNat o (@List.length AV z) → @Eq (Option (List AV)) (fillA z (@List.cons (Prod Nat (Prod Nat AV)) (@Prod.mk Nat (Prod Nat AV) o (@Prod.mk Nat AV (@OfNat.ofNat Nat (nat_lit 1) (instOfNatNat (nat_lit 1))) (AV.func g f c))) rest)) (fillA (@List.set AV z o (AV.func g f c)) rest)) ∧
    (∀ {z : List AV} {o n : Nat} {xs : List AV} {rest : List (Prod Nat (Prod Nat AV))}, @Eq Nat (@List.length AV xs) n → @LE.le Nat instLENat (@HAdd.hAdd Nat Nat Nat (@instHAdd Nat instAddNat) o n) (@List.length AV z) → @Eq (Option (List AV)) (fillA z (@List.cons (Prod Nat (Prod Nat AV)) (@Prod.mk Nat (Prod Nat AV) o (@Prod.mk Nat AV n (AV.agg xs))) rest)) (fillA (@HAppend.hAppend (List AV) (List AV) (List AV) (@instHAppendOfAppend (List AV) (@List.instAppend AV)) (@HAppend.hAppend (List AV) (List AV) (List AV) (@instHAppendOfAppend (List AV) (@List.instAppend AV)) (@List.take AV o z) xs) (@List.drop AV (@HAdd.hAdd Nat Nat Nat (@instHAdd Nat instAddNat) o n) z)) rest)) ∧
    (∀ {z : List AV} {o : Nat} {v : AV} {rest : List (Prod Nat (Prod Nat AV))}, @Eq (List AV) (AV.cells v) (@List.cons AV v (@List.nil AV)) → @LT.lt Nat instLTNat o (@List.length AV z) → @Eq (Option (List AV)) (fillA z (@List.cons (Prod Nat (Prod Nat AV)) (@Prod.mk Nat (Prod Nat AV) o (@Prod.mk Nat AV (@OfNat.ofNat Nat (nat_lit 1) (instOfNatNat (nat_lit 1))) v)) rest)) (fillA (@List.set AV z o v) rest)) ∧
    (∀ {h : Heap}, @Eq (Option (Prod AV Heap)) (storeOA (@some Heap h)) (@some (Prod AV Heap) (@Prod.mk AV Heap AV.undef h))) ∧
    (∀ {z : List AV} {h : Heap}, @Eq (Option (Prod AV Heap)) (allocA (@none Nat) z h) (@some (Prod AV Heap) (@Prod.mk AV Heap (AV.ptr (Heap.size h) (@OfNat.ofNat Nat (nat_lit 0) (instOfNatNat (nat_lit 0)))) (Heap.push h (ABlk.cells z true (@OfNat.ofNat Nat (nat_lit 0) (instOfNatNat (nat_lit 0)))))))) ∧
    (∀ {z : List AV} {h : Heap} {n : Nat}, @Eq (Option (Prod AV Heap)) (allocA (@some Nat n) z h) (kept n h (Heap.get h n) fun n x p => @some (Prod AV Heap) (@Prod.mk AV Heap (AV.ptr n (@OfNat.ofNat Nat (nat_lit 0) (instOfNatNat (nat_lit 0)))) (p (ABlk.cells z true (@OfNat.ofNat Nat (nat_lit 0) (instOfNatNat (nat_lit 0)))))))) ∧
    (∀ {n : Nat} {h : Heap} {f : Nat → Heap → (ABlk → Heap) → Option (Prod AV Heap)}, @LT.lt Nat instLTNat n (Heap.size h) → @Eq (Option (Prod AV Heap)) (kept n h (@none ABlk) f) (f n h fun b => Heap.put h n b)) ∧
    (∀ {n : Nat} {cs : List AV} {h : Heap}, @Eq (Option (Prod AV Heap)) (buildSliceA (@none Nat) n (@some (List AV) cs) h) (@some (Prod AV Heap) (@Prod.mk AV Heap (AV.slice (Heap.size h) (@OfNat.ofNat Nat (nat_lit 0) (instOfNatNat (nat_lit 0))) n (Cap.known n)) (Heap.push h (ABlk.cells cs true (@OfNat.ofNat Nat (nat_lit 0) (instOfNatNat (nat_lit 0)))))))) ∧
    (∀ {n : Nat} {cs : List AV} {h : Heap} {i : Nat}, @Eq (Option (Prod AV Heap)) (buildSliceA (@some Nat i) n (@some (List AV) cs) h) (kept i h (Heap.get h i) fun i x p => @some (Prod AV Heap) (@Prod.mk AV Heap (AV.slice i (@OfNat.ofNat Nat (nat_lit 0) (instOfNatNat (nat_lit 0))) n (Cap.known n)) (p (ABlk.cells cs true (@OfNat.ofNat Nat (nat_lit 0) (instOfNatNat (nat_lit 0)))))))) ∧
    (∀ {z : List AV} {bytes : Nat} {h : Heap} {k k' : IntKind} {l c : Int}, And (@LE.le Int Int.instLEInt (@OfNat.ofNat Int (nat_lit 0) (@instOfNat (nat_lit 0))) l) (And (@LE.le Int Int.instLEInt l c) (And (@LE.le Int Int.instLEInt (@HMul.hMul Int Int Int (@instHMul Int Int.instMul) c (@Nat.cast Int instNatCastInt bytes)) (@OfNat.ofNat Int (nat_lit 140737488355328) (@instOfNat (nat_lit 140737488355328)))) (@LE.le Int Int.instLEInt c (@OfNat.ofNat Int (nat_lit 140737488355328) (@instOfNat (nat_lit 140737488355328)))))) → @Eq (Option (Prod AV Heap)) (makeA (@none Nat) z bytes h (AV.int k l) (AV.int k' c)) (@some (Prod AV Heap) (@Prod.mk AV Heap (AV.slice (Heap.size h) (@OfNat.ofNat Nat (nat_lit 0) (instOfNatNat (nat_lit 0))) (Int.toNat l) (Cap.known (Int.toNat c))) (Heap.push h (ABlk.cells (zerosA (Int.toNat c) z) true (@OfNat.ofNat Nat (nat_lit 0) (instOfNatNat (nat_lit 0)))))))) ∧
    (∀ {z : List AV} {bytes : Nat} {h : Heap} {k k' : IntKind} {l c : Int} {i : Nat}, And (@LE.le Int Int.instLEInt (@OfNat.ofNat Int (nat_lit 0) (@instOfNat (nat_lit 0))) l) (And (@LE.le Int Int.instLEInt l c) (And (@LE.le Int Int.instLEInt (@HMul.hMul Int Int Int (@instHMul Int Int.instMul) c (@Nat.cast Int instNatCastInt bytes)) (@OfNat.ofNat Int (nat_lit 140737488355328) (@instOfNat (nat_lit 140737488355328)))) (@LE.le Int Int.instLEInt c (@OfNat.ofNat Int (nat_lit 140737488355328) (@instOfNat (nat_lit 140737488355328)))))) → @Eq (Option (Prod AV Heap)) (makeA (@some Nat i) z bytes h (AV.int k l) (AV.int k' c)) (kept i h (Heap.get h i) fun i x p => @some (Prod AV Heap) (@Prod.mk AV Heap (AV.slice i (@OfNat.ofNat Nat (nat_lit 0) (instOfNatNat (nat_lit 0))) (Int.toNat l) (Cap.known (Int.toNat c))) (p (ABlk.cells (zerosA (Int.toNat c) z) true (@OfNat.ofNat Nat (nat_lit 0) (instOfNatNat (nat_lit 0)))))))) ∧
    (∀ {sz i o n : Nat} {c : Cap} {kk : IntKind} {k : Int}, And (@LE.le Int Int.instLEInt (@OfNat.ofNat Int (nat_lit 0) (@instOfNat (nat_lit 0))) k) (@LT.lt Int Int.instLTInt k (@Nat.cast Int instNatCastInt n)) → @Eq (Option AV) (idxA sz (AV.slice i o n c) (AV.int kk k)) (@some AV (AV.ptr i (@HAdd.hAdd Nat Nat Nat (@instHAdd Nat instAddNat) o (@HMul.hMul Nat Nat Nat (@instHMul Nat instMulNat) (Int.toNat k) sz))))) ∧
    (∀ {sz len i o : Nat} {kk : IntKind} {k : Int}, And (@LE.le Int Int.instLEInt (@OfNat.ofNat Int (nat_lit 0) (@instOfNat (nat_lit 0))) k) (@LT.lt Int Int.instLTInt k (@Nat.cast Int instNatCastInt len)) → @Eq (Option AV) (idxArrA sz len (AV.ptr i o) (AV.int kk k)) (@some AV (AV.ptr i (@HAdd.hAdd Nat Nat Nat (@instHAdd Nat instAddNat) o (@HMul.hMul Nat Nat Nat (@instHMul Nat instMulNat) (Int.toNat k) sz))))) ∧
    (∀ {off i o : Nat}, @Eq (Option AV) (fieldAddrA off (AV.ptr i o)) (@some AV (AV.ptr i (@HAdd.hAdd Nat Nat Nat (@instHAdd Nat instAddNat) o off)))) ∧
    (∀ {agg : Bool} {off n : Nat} {vs : List AV}, @Eq (Option AV) (fieldA agg off n (AV.agg vs)) (partA agg vs off n)) ∧
    (∀ {vs : List AV} {o n : Nat}, @Eq (Option AV) (partA false vs o n) (@getElem? (List AV) Nat AV (fun xs i => @LT.lt Nat instLTNat i (@List.length AV xs)) (@List.instGetElem?NatLtLength AV) vs o)) ∧
    (∀ {vs : List AV} {o n : Nat}, @LE.le Nat instLENat (@HAdd.hAdd Nat Nat Nat (@instHAdd Nat instAddNat) o n) (@List.length AV vs) → @Eq (Option AV) (partA true vs o n) (@some AV (AV.agg (cut vs o n)))) ∧
    (∀ {i o n : Nat} {c : Cap}, @Eq (Option AV) (lenA (AV.slice i o n c)) (@some AV (AV.int IntKind.i64 (@Nat.cast Int instNatCastInt n)))) ∧
    (@Eq (Option AV) (lenA AV.nilslice) (@some AV (AV.int IntKind.i64 (@OfNat.ofNat Int (nat_lit 0) (@instOfNat (nat_lit 0)))))) ∧
    (∀ {k : IntKind} {n : Int}, @Eq (List AV) (AV.cells (AV.int k n)) (@List.cons AV (AV.int k n) (@List.nil AV))) ∧
    (∀ {b : Bool}, @Eq (List AV) (AV.cells (AV.bool b)) (@List.cons AV (AV.bool b) (@List.nil AV))) ∧
    (∀ {vs : List AV}, @Eq (List AV) (AV.cells (AV.agg vs)) vs) ∧
    (∀ {i o n : Nat} {c : Cap}, @Eq (List AV) (AV.cells (AV.slice i o n c)) (@List.cons AV (AV.slice i o n c) (@List.nil AV))) ∧
    (@Eq (List AV) (AV.cells AV.nilslice) (@List.cons AV AV.nilslice (@List.nil AV))) ∧
    (∀ {i o : Nat}, @Eq (List AV) (AV.cells (AV.ptr i o)) (@List.cons AV (AV.ptr i o) (@List.nil AV))) ∧
    (∀ {g : Nat} {f c : List AV}, @Eq (List AV) (AV.cells (AV.func g f c)) (@List.cons AV (AV.func g f c) (@List.nil AV))) ∧
    (∀ {l : Nat}, @Eq (List AV) (AV.cells (AV.yield l)) (@List.cons AV (AV.yield l) (@List.nil AV))) ∧
    (∀ {l : List Int}, @Eq Nat (@List.length AV (ints l)) (@List.length Int l)) ∧
    (∀ {l : List Int} {k : Nat}, @LT.lt Nat instLTNat k (@List.length Int l) → @Eq (Option AV) (@getElem? (List AV) Nat AV (fun xs i => @LT.lt Nat instLTNat i (@List.length AV xs)) (@List.instGetElem?NatLtLength AV) (ints l) k) (@some AV (AV.int IntKind.i64 (@List.getD Int l k (@OfNat.ofNat Int (nat_lit 0) (@instOfNat (nat_lit 0))))))) ∧
    (∀ {l : List Int} {k : Nat} {x : Int}, @Eq (List AV) (@List.set AV (ints l) k (AV.int IntKind.i64 x)) (ints (@List.set Int l k x))) ∧
    (∀ {l : List Int} {x : Int}, @Eq (List AV) (@HAppend.hAppend (List AV) (List AV) (List AV) (@instHAppendOfAppend (List AV) (@List.instAppend AV)) (ints l) (@List.cons AV (AV.int IntKind.i64 x) (@List.nil AV))) (ints (@HAppend.hAppend (List Int) (List Int) (List Int) (@instHAppendOfAppend (List Int) (@List.instAppend Int)) l (@List.cons Int x (@List.nil Int))))) ∧
    (∀ {sz i o n : Nat} {c : Cap} {k : Nat}, @Eq AV (elA sz (AV.slice i o n c) k) (AV.ptr i (@HAdd.hAdd Nat Nat Nat (@instHAdd Nat instAddNat) o (@HMul.hMul Nat Nat Nat (@instHMul Nat instMulNat) k sz)))) ∧
    (∀ {n : Nat} {x : AV}, @Eq (List AV) (zerosA n (@List.cons AV x (@List.nil AV))) (@List.replicate AV n x)) ∧
    (∀ {r : ALoop} {K : ALoop → Prop}, @Eq Prop (@atLoop (@some ABlk (ABlk.loop r)) (HoldL.mk K)) (K r)) ∧
    (∀ {t : Nat → AV}, @Eq (Nat → AV) (setParams t (@List.nil Nat) (@List.nil AV)) t) ∧
    (∀ {t : Nat → AV} {p : Nat} {ps : List Nat} {a : AV} {xs : List AV}, @Eq (Nat → AV) (setParams t (@List.cons Nat p ps) (@List.cons AV a xs)) (setParams (upd t p a) ps xs)) ∧
    (∀ {a b : Nat}, @LE.le Nat instLENat a b → @Eq Nat (@min Nat instMinNat a b) a) ∧
    (∀ (n : Nat), @Eq Nat (Int.toNat (@Nat.cast Int instNatCastInt n)) n) ∧
    (∀ (n : Nat), @Eq Nat (@HAdd.hAdd Nat Nat Nat (@instHAdd Nat instAddNat) (@OfNat.ofNat Nat (nat_lit 0) (instOfNatNat (nat_lit 0))) n) n) ∧
    (∀ (n : Nat), @Eq Nat (@HAdd.hAdd Nat Nat Nat (@instHAdd Nat instAddNat) n (@OfNat.ofNat Nat (nat_lit 0) (instOfNatNat (nat_lit 0)))) n) ∧
    (∀ (n : Nat), @Eq Nat (@HMul.hMul Nat Nat Nat (@instHMul Nat instMulNat) n (@OfNat.ofNat Nat (nat_lit 1) (instOfNatNat (nat_lit 1)))) n) ∧
    (∀ (n : Nat), @Eq Nat (@HMul.hMul Nat Nat Nat (@instHMul Nat instMulNat) (@OfNat.ofNat Nat (nat_lit 0) (instOfNatNat (nat_lit 0))) n) (@OfNat.ofNat Nat (nat_lit 0) (instOfNatNat (nat_lit 0)))) ∧
    (∀ (h : Decidable True), @Eq Bool (@decide True h) true) ∧
    (∀ (h : Decidable False), @Eq Bool (@decide False h) false) ∧
    (@Eq Bool (not true) false) ∧
    (@Eq Bool (not false) true) ∧
    (∀ {p : Prop} [inst : Decidable p], @Eq Prop (@Eq Bool (@decide p inst) true) p) ∧
    (∀ (k : IntKind) (n : Int) (k_1 : IntKind) (n_1 : Int), @Eq Prop (@Eq AV (AV.int k n) (AV.int k_1 n_1)) (And (@Eq IntKind k k_1) (@Eq Int n n_1))) :=
  ⟨@app_known,
   @appKB_grow,
   @appKB_room,
   @app_unk,
   @appUB_grow,
   @app_nil,
   @app_nil0,
   @appA_some,
   @atDefd_some,
   @retO_ret,
   @retO_normal,
   @chkP_nil,
   @chkP_none,
   @chkP_skip,
   @chkP_take,
   @chkS_nil,
   @chkS_none,
   @chkS_skip,
   @chkS_take,
   @noneIn_nil,
   @noneIn_none,
   @noneIn_cons,
   @ids_ptr,
   @ids_slice,
   @ids_nil,
   @ids_int,
   @ids_bool,
   @ids_agg,
   @rids_known,
   @rids_unk,
   @rids_nil,
   @foot_blind,
   @wr_blind,
   @foot_load,
   @wr_load,
   @foot_store,
   @wr_store,
   @foot_slice,
   @wr_slice,
   @foot_append,
   @wr_append,
   @foot_alloc,
   @wr_alloc,
   @foot_box,
   @wr_box,
   @foot_build,
   @wr_build,
   @foot_make,
   @wr_make,
   @foot_copy,
   @wr_copy,
   @false_implies,
   @true_and,
   @and_true,
   @resA_nil,
   @resA_tmp,
   @resA_cell,
   @retA_zero,
   @retA_one,
   @retA_two,
   @retA_three,
   @retA_four,
   @ev_tmp,
   @ev_const,
   @evs_nil,
   @evs_cons,
   @upd_same,
   @upd_ne,
   @argT_app,
   @condV_true,
   @condV_false,
   @condV_dec,
   @condV_var,
   @Br_not,
   @Br_pos,
   @Br_neg,
   @gV_tt,
   @gV_tf,
   @gV_ft,
   @gV_ff,
   @gV_dt,
   @gV_df,
   @gV_vt,
   @gV_vf,
   @Call_func,
   @Call_clo,
   @Call_yield,
   @opt1_some,
   @opt2_some,
   @opR_mv,
   @opR_pick,
   @opR_build,
   @opR_load,
   @opR_nilCheck,
   @opR_bin,
   @opR_eqb,
   @opR_eqn,
   @opR_eqs,
   @opR_un,
   @opR_conv,
   @opR_mkfunc,
   @opR_slice,
   @opR_fieldAddr,
   @opR_field,
   @opR_indexAddr,
   @opR_indexArr,
   @opR_index,
   @opR_extract,
   @opR_len,
   @opR_cap,
   @opR_max,
   @opR_min,
   @opR_alloc,
   @opR_box,
   @opR_buildSlice,
   @opR_store,
   @opR_makeSlice,
   @opR_append,
   @opR_copy,
   @bin_add,
   @bin_sub,
   @bin_mul,
   @bin_quo,
   @bin_rem,
   @bin_and,
   @bin_or,
   @bin_xor,
   @bin_andNot,
   @bin_eql,
   @bin_neq,
   @bin_lss,
   @bin_leq,
   @bin_gtr,
   @bin_geq,
   @bin_shl,
   @bin_shr,
   @bits_and1,
   @un_neg,
   @un_not,
   @un_xor,
   @conv_int,
   @eqb_ff,
   @eqb_tt,
   @pick_tt,
   @pick_ff,
   @pick_dt,
   @pick_df,
   @pick_vt,
   @pick_vf,
   @ext_tuple,
   @max_two,
   @max_three,
   @min_two,
   @min_three,
   @w_i64,
   @w_i32,
   @w_u8,
   @w_u32,
   @w_u64,
   @tdiv_nn,
   @tmod_nn,
   @fdiv_nn,
   @bits_i64,
   @bits_u64,
   @bits_u32,
   @bits_i32,
   @bits_u8,
   @min_shift,
   @get_push_eq,
   @get_push_lt,
   @get_put_eq,
   @get_put_ne,
   @put_put,
   @push_put,
   @push_put_lt,
   @Heap.size_push,
   @Heap.size_put,
   @Heap.size_reserve,
   @Heap.get_reserve,
   @load_ptr,
   @loadB_one,
   @loadB_agg,
   @store_ptr,
   @storeB_int,
   @storeB_bool,
   @storeB_slice,
   @storeB_nil,
   @storeB_agg,
   @storeB_var,
   @splice_one,
   @splice_two,
   @cut_nil,
   @cut_cons,
   @cut_succ,
   @fill_nil,
   @fill_int,
   @fill_bool,
   @fill_ptr,
   @fill_slice,
   @fill_nilslice,
   @fill_func,
   @fill_agg,
   @fill_one,
   @storeO_some,
   @alloc_none,
   @alloc_some,
   @kept_none,
   @buildS_none,
   @buildS_some,
   @make_none,
   @make_some,
   @idx_slice,
   @idxArr_ptr,
   @fieldAddr_ptr,
   @field_agg,
   @part_one,
   @part_agg,
   @len_slice,
   @len_nil,
   @cells_int,
   @cells_bool,
   @cells_agg,
   @cells_slice,
   @cells_nil,
   @cells_ptr,
   @cells_func,
   @cells_yield,
   @ints_length,
   @ints_get,
   @ints_set,
   @ints_snoc,
   @elA_slice,
   @zeros_one,
   @atLoop_some,
   @setParams_nil,
   @setParams_cons,
   @Nat.min_eq_left,
   @Int.toNat_natCast,
   @Nat.zero_add,
   @Nat.add_zero,
   @Nat.mul_one,
   @Nat.zero_mul,
   @decide_true,
   @decide_false,
   @Bool.not_true,
   @Bool.not_false,
   @decide_eq_true_eq,
   @AV.int.injEq⟩
end Go.Ae

/- The rules of the simplifier that hold for every type, bundled. -/
namespace Go.Ae
theorem wpPoly :
    (∀ {α : Type} {l : List α}, l ++ [] = l) ∧
    (∀ {α : Type} {a : α} {l m : List α}, (a :: l) ++ m = a :: (l ++ m)) ∧
    (∀ {α : Type} {a : α} {l : List α} {i : Nat}, (a :: l).drop (i + 1) = l.drop i) ∧
    (∀ {α : Type} {l : List α}, l.drop 0 = l) ∧
    (∀ {α : Type} {p : α → Prop} {a : α} {l : List α}, (∀ x ∈ a :: l, p x) = (p a ∧ ∀ x ∈ l, p x)) ∧
    (∀ {α : Type} {a d : α} {l : List α} {i : Nat}, (a :: l).getD (i + 1) d = l.getD i d) ∧
    (∀ {α : Type} {a d : α} {l : List α}, (a :: l).getD 0 d = a) ∧
    (∀ {α : Type} {d : α} {i : Nat}, ([] : List α).getD i d = d) ∧
    (∀ {α : Type} {a : α} {l : List α} {i : Nat}, (a :: l)[i + 1]? = l[i]?) ∧
    (∀ {α : Type} {a : α} {l : List α}, (a :: l)[0]? = some a) ∧
    (∀ {α : Type} {a : α} {l : List α}, (a :: l).length = l.length + 1) ∧
    (∀ {α : Type}, ([] : List α).length = 0) ∧
    (∀ {α β : Type} {f : α → β} {a : α} {l : List α}, (a :: l).map f = f a :: l.map f) ∧
    (∀ {α β : Type} {f : α → β}, ([] : List α).map f = []) ∧
    (∀ {α : Type} {l : List α}, [] ++ l = l) ∧
    (∀ {α : Type} {a : α}, (a ∈ ([] : List α)) = False) ∧
    (∀ {α : Type} {a b : α} {l : List α} {i : Nat}, (a :: l).set (i + 1) b = a :: l.set i b) ∧
    (∀ {α : Type} {a b : α} {l : List α}, (a :: l).set 0 b = b :: l) ∧
    (∀ {α : Type} {a : α} {l : List α} {i : Nat}, (a :: l).take (i + 1) = a :: l.take i) ∧
    (∀ {α : Type} {l : List α}, l.take 0 = []) ∧
    (∀ {α β : Type} {f : α → β}, (none : Option α).map f = none) ∧
    (∀ {α β : Type} {f : α → β} {a : α}, (some a).map f = some (f a)) ∧
    (∀ {α : Type} {a : α}, (a = a) = True) ∧
    (∀ {α : Type} {p : α → Prop} {b : α}, (∃ a, a = b ∧ p a) = p b) ∧
    (∀ {α : Type} {p : α → Prop} {b : α}, (∃ a, b = a ∧ p a) = p b) ∧
    (∀ {α : Type}, (α → True) = True) ∧
    (∀ {α : Prop}, (α → True) = True) ∧
    (∀ {α : Type} {a b : α}, (a ≠ b) = ¬ a = b) := by
  refine ⟨?_, ?_, ?_, ?_, ?_, ?_, ?_, ?_, ?_, ?_, ?_, ?_, ?_, ?_, ?_, ?_, ?_, ?_, ?_, ?_, ?_, ?_, ?_, ?_, ?_, ?_, ?_, ?_⟩ <;> intros <;> simp
theorem wpD1 :
    (∀ {h : Heap} {b : ABlk}, (h.push b).size = h.size + 1) ∧
    (∀ {h : Heap} {i : Nat} {b : ABlk}, (h.put i b).size = h.size) ∧
    (∀ {h : Heap} {k : Nat}, (h.reserve k).size = h.size + k) ∧
    (∀ {l : List Int}, (ints l).length = l.length) ∧
    (∀ {α : Type} {a : α} {l : List α}, (a :: l).length = l.length + 1) ∧
    (∀ {α : Type}, ([] : List α).length = 0) ∧
    (∀ {α : Type} {n : Nat} {a : α}, (List.replicate n a).length = n) ∧
    (∀ {α : Type} {l : List α} {i : Nat} {a : α}, (l.set i a).length = l.length) :=
  ⟨rfl, rfl, rfl, ints_length, List.length_cons, List.length_nil, List.length_replicate, List.length_set⟩
theorem wpD2 :
    (∀ {k : IntKind} {n : Int}, (AV.int k n).one = true) ∧ (∀ {b : Bool}, (AV.bool b).one = true) ∧ (∀ {i o : Nat}, (AV.ptr i o).one = true) ∧ (∀ {i o n : Nat} {c : Cap}, (AV.slice i o n c).one = true) ∧ AV.nilslice.one = true ∧
    (∀ {g : Nat} {f c : List AV}, (AV.func g f c).one = true) ∧
    (∀ {α : Type} {p : α → Bool} {a : α} {l : List α}, (a :: l).all p = (p a && l.all p)) ∧ (∀ {α : Type} {p : α → Bool}, ([] : List α).all p = true) ∧
    (∀ {a b : Bool}, ((a && b) = true) = (a = true ∧ b = true)) ∧ (∀ {p : Prop}, (p ∧ p) = p) ∧ (∀ {p : Prop}, (True ∧ p) = p) ∧ (∀ {p : Prop}, (p ∧ True) = p) ∧ ((true = true) = True) := by
  refine ⟨?_, ?_, ?_, ?_, ?_, ?_, ?_, ?_, ?_, ?_, ?_, ?_, ?_⟩ <;> intros <;> first | rfl | simp
end Go.Ae

/- Sums of elements times powers: the plain facts about transforms. -/
namespace Go.Ae

abbrev pP : Int := 998244353

theorem emod_mul_l (a b m : Int) : a % m * b % m = a * b % m := by rw [Int.mul_emod, Int.emod_emod, ← Int.mul_emod]
theorem emod_mul_r (a b m : Int) : a * (b % m) % m = a * b % m := by rw [Int.mul_emod, Int.emod_emod, ← Int.mul_emod]
theorem emod_add_l (a b m : Int) : (a % m + b) % m = (a + b) % m := by rw [Int.add_emod, Int.emod_emod, ← Int.add_emod]
theorem emod_add_r (a b m : Int) : (a + b % m) % m = (a + b) % m := by rw [Int.add_emod, Int.emod_emod, ← Int.add_emod]
theorem emod_sub_l (a b m : Int) : (a % m - b) % m = (a - b) % m := by rw [Int.sub_emod, Int.emod_emod, ← Int.sub_emod]
theorem emod_sub_r (a b m : Int) : (a - b % m) % m = (a - b) % m := by rw [Int.sub_emod, Int.emod_emod, ← Int.sub_emod]

theorem emod_pow (a : Int) (n : Nat) (m : Int) : (a % m) ^ n % m = a ^ n % m := by
  induction n with
  | zero => simp
  | succ n ih => rw [Int.pow_succ, Int.pow_succ, Int.mul_emod, ih, Int.emod_emod, ← Int.mul_emod]

theorem take_succ_getD {l : List Int} {i : Nat} (h : i < l.length) : l.take (i + 1) = l.take i ++ [l.getD i 0] := by
  rw [List.take_add_one]; simp [h]
theorem getD_mem {l : List Int} {i : Nat} (h : i < l.length) : l.getD i 0 ∈ l := by
  have : l.getD i 0 = l[i] := by simp [h]
  rw [this]; exact List.getElem_mem h

/-- The value of a list, taken as the coefficients of a polynomial, at a number. -/
def pe : List Int → Int → Int
  | [], _ => 0
  | x :: l, z => x + z * pe l z

theorem pe_append (l m : List Int) (z : Int) : pe (l ++ m) z = pe l z + z ^ l.length * pe m z := by
  induction l with
  | nil => simp [pe]
  | cons x l ih => simp only [List.cons_append, pe, ih, List.length_cons, Int.pow_succ, Int.mul_add, Int.add_assoc]; congr 2; rw [← Int.mul_assoc, Int.mul_comm z]
theorem pe_take_succ {l : List Int} {i : Nat} (h : i < l.length) (z : Int) : pe (l.take (i + 1)) z = pe (l.take i) z + l.getD i 0 * z ^ i := by
  rw [take_succ_getD h, pe_append, List.length_take, Nat.min_eq_left (by omega)]
  simp only [pe, Int.mul_zero, Int.add_zero]; rw [Int.mul_comm]
theorem pe_mod (l : List Int) (z : Int) : pe l (z % pP) % pP = pe l z % pP := by
  induction l with
  | nil => rfl
  | cons x l ih =>
    simp only [pe]
    rw [Int.add_emod, Int.mul_emod, ih, Int.emod_emod, ← Int.mul_emod, ← Int.add_emod]

/-- The elements at even and at odd places. -/
def evens : List Int → List Int
  | x :: _ :: l => x :: evens l
  | l => l
def odds : List Int → List Int
  | _ :: y :: l => y :: odds l
  | _ => []
theorem pe_halves : ∀ (l : List Int) (z : Int), pe l z = pe (evens l) (z * z) + z * pe (odds l) (z * z)
  | [], z => by simp [evens, odds, pe]
  | [x], z => by simp [evens, odds, pe]
  | x :: y :: l, z => by
    simp only [evens, odds, pe, pe_halves l z]
    simp only [Int.mul_add, Int.add_assoc, Int.mul_assoc, Int.mul_left_comm, Int.mul_comm]
    congr 1
    rw [← Int.add_assoc, ← Int.add_assoc]; congr 1
    rw [Int.add_comm]

/-- The transform of a list by a number. -/
def dft (w : Int) (l : List Int) : List Int := (List.range l.length).map fun k => pe l (w ^ k) % pP
theorem dft_length (w : Int) (l : List Int) : (dft w l).length = l.length := by simp [dft]
theorem dft_get {w : Int} {l : List Int} {k : Nat} (h : k < l.length) : (dft w l).getD k 0 = pe l (w ^ k) % pP := by simp [dft, h]
theorem dft_range {w : Int} {l : List Int} : ∀ x ∈ dft w l, 0 ≤ x ∧ x < 998244353 := by
  intro x hx
  obtain ⟨k, _, rfl⟩ := List.mem_map.1 hx
  exact ⟨Int.emod_nonneg _ (by decide), Int.emod_lt_of_pos _ (by decide)⟩
theorem evens_length : ∀ l : List Int, (evens l).length = (l.length + 1) / 2
  | [] => rfl
  | [x] => by simp [evens]
  | x :: y :: l => by simp only [evens, List.length_cons, evens_length l]; omega
theorem odds_length : ∀ l : List Int, (odds l).length = l.length / 2
  | [] => rfl
  | [x] => by simp [odds]
  | x :: y :: l => by simp only [odds, List.length_cons, odds_length l]; omega

/-- A root of n: its power n / 2 is -1. -/
def RootOk (k : Nat) (w : Int) : Prop := ∀ j, k = j + 1 → w ^ 2 ^ j % pP = 998244352

theorem RootOk.half {k : Nat} {w : Int} (h : RootOk (k + 1) w) : RootOk k (w * w % pP) := by
  rintro j rfl
  rw [emod_pow, ← h (j + 1) rfl, Nat.pow_succ, Nat.mul_comm, Int.pow_mul]
  congr 2; simp [Int.pow_succ]

/-- Two numbers with the same residue. -/
def Cg (a b : Int) : Prop := a % pP = b % pP
theorem Cg.refl (a : Int) : Cg a a := rfl
theorem Cg.symm {a b : Int} (h : Cg a b) : Cg b a := Eq.symm h
theorem Cg.trans {a b c : Int} (h : Cg a b) (k : Cg b c) : Cg a c := Eq.trans h k
theorem Cg.of_eq {a b : Int} (h : a = b) : Cg a b := by rw [h]; exact Cg.refl _
theorem Cg.emod {a b : Int} (h : Cg a b) : Cg (a % pP) b := by unfold Cg at *; rw [Int.emod_emod]; exact h
theorem Cg.add {a b c d : Int} (h : Cg a b) (k : Cg c d) : Cg (a + c) (b + d) := by unfold Cg at *; rw [Int.add_emod, h, k, ← Int.add_emod]
theorem Cg.sub {a b c d : Int} (h : Cg a b) (k : Cg c d) : Cg (a - c) (b - d) := by unfold Cg at *; rw [Int.sub_emod, h, k, ← Int.sub_emod]
theorem Cg.mul {a b c d : Int} (h : Cg a b) (k : Cg c d) : Cg (a * c) (b * d) := by unfold Cg at *; rw [Int.mul_emod, h, k, ← Int.mul_emod]
theorem Cg.neg {a b : Int} (h : Cg a b) : Cg (-a) (-b) := by have := (Cg.refl 0).sub h; simpa using this
theorem Cg.pow {a b : Int} (h : Cg a b) (n : Nat) : Cg (a ^ n) (b ^ n) := by
  induction n with
  | zero => simp only [Int.pow_zero]; exact Cg.refl _
  | succ n ih => rw [Int.pow_succ, Int.pow_succ]; exact ih.mul h
theorem Cg.pe {a b : Int} (h : Cg a b) (l : List Int) : Cg (pe l a) (pe l b) := by
  induction l with
  | nil => exact Cg.refl _
  | cons x l ih => exact (Cg.refl x).add (h.mul ih)
theorem Cg.plus (a k : Int) : Cg (a + k * pP) a := by unfold Cg; rw [Int.add_mul_emod_self_right]

/-- The first half of a transform from the transforms of both halves. -/
theorem dft_low {w : Int} {l : List Int} {k : Nat} {n : Nat} (hn : l.length = 2 * n) (hk : k < n) :
    (dft w l).getD k 0 = ((dft (w * w % pP) (evens l)).getD k 0 + (dft (w * w % pP) (odds l)).getD k 0 * (w ^ k % pP) % pP) % pP := by
  have e1 := evens_length l
  have e2 := odds_length l
  rw [dft_get (by omega), dft_get (by omega), dft_get (by omega), pe_halves]
  have hz : ∀ m : List Int, Cg (pe m ((w * w % pP) ^ k)) (pe m (w ^ k * w ^ k)) := fun m => by
    refine Cg.pe ?_ m
    rw [← Int.mul_pow]; exact (Cg.refl _).emod.pow k
  refine Cg.symm (Cg.trans (((hz _).emod.add (((hz _).emod.mul (Cg.refl (w ^ k)).emod).emod))) (Cg.of_eq ?_))
  rw [Int.mul_comm (w ^ k) (pe _ _)]

theorem dft_high {w : Int} {l : List Int} {k : Nat} {j : Nat} (hw : RootOk (j + 1) w) (hn : l.length = 2 * 2 ^ j) (hk : k < 2 ^ j) :
    (dft w l).getD (k + 2 ^ j) 0 = ((dft (w * w % pP) (evens l)).getD k 0 + pP - (dft (w * w % pP) (odds l)).getD k 0 * (w ^ k % pP) % pP) % pP := by
  have e1 := evens_length l
  have e2 := odds_length l
  have hw' := hw j rfl
  rw [dft_get (by omega), dft_get (by omega), dft_get (by omega), pe_halves]
  have hz : ∀ m : List Int, Cg (pe m ((w * w % pP) ^ k)) (pe m (w ^ k * w ^ k)) := fun m => by
    refine Cg.pe ?_ m
    rw [← Int.mul_pow]; exact (Cg.refl _).emod.pow k
  have hr : Cg (w ^ 2 ^ j) (-1) := by unfold Cg; rw [hw']; decide
  have hm : Cg (w ^ (k + 2 ^ j)) (-w ^ k) := by
    rw [Int.pow_add]
    refine ((Cg.refl _).mul hr).trans (Cg.of_eq ?_)
    rw [Int.mul_neg, Int.mul_one]
  have hs : ∀ m : List Int, Cg (pe m (w ^ (k + 2 ^ j) * w ^ (k + 2 ^ j))) (pe m (w ^ k * w ^ k)) := fun m => by
    refine Cg.pe ((hm.mul hm).trans (Cg.of_eq ?_)) m
    rw [Int.neg_mul_neg]
  refine Cg.trans ((hs _).add (hm.mul (hs _))) (Cg.symm ?_)
  refine Cg.trans (((hz _).emod.add (Cg.refl _)).sub (((hz _).emod.mul (Cg.refl (w ^ k)).emod).emod)) ?_
  refine Cg.trans (Cg.of_eq ?_) (Cg.plus _ 1)
  rw [Int.neg_mul, Int.mul_comm (w ^ k) (pe _ _)]; omega

end Go.Ae

/- What the statements' helpers give. -/
set_option linter.unusedSimpArgs false
set_option linter.unusedVariables false
namespace Go.Ae
section
variable {C : Ctx}

def In64 (x : Int) : Prop := -9223372036854775808 ≤ x ∧ x ≤ 9223372036854775807

theorem Equal_spec (hC : Has C T12) {va vb : AV} {a b : List Int} {h : Heap} (ha : RI h va a) (hb : RI h vb b) : ACalls C 12 [va, vb] h (fun r h' => r = .bool (decide (a = b)) ∧ h' = h) := by
  have l1 := ha.lt
  have l2 := hb.lt
  (refine calls_intro (hC.body (by decide) tab12) (Nat.le_of_ble_eq_true rfl) ?_); (show wp C _ none B12.code _ _); (simp only [B12]); simp -implicitDefEqProofs (disch := first | assumption | decide | omega | (simp -implicitDefEqProofs only [wpD1] <;> omega) | (refine not_in_one ?_; first | omega | (simp -implicitDefEqProofs only [wpD1] <;> omega) | fail) | (simp -implicitDefEqProofs only [wpD2] <;> assumption) | ((repeat (first | exact HSub.refl _ | assumption | refine HSub.push ?_ _ | refine HSub.reserve ?_ _ | refine HSub.put ?_ (by omega) _)); done) | fail) only [↓wpPre, wpPost, wpPoly, Int.reduceToNat, Int.reducePow, Int.reduceMul, Int.reduceAdd, Int.reduceSub, Int.reduceNeg, Nat.reduceAdd, Nat.reduceMul, Nat.reducePow, Int.reduceLT, Int.reduceLE, Int.reduceEq, Nat.reduceEqDiff, ha.len, hb.len]
  refine Br.by (fun c => ?_) (fun c => ?_)
  · simp -implicitDefEqProofs (disch := first | assumption | decide | omega | (simp -implicitDefEqProofs only [wpD1] <;> omega) | (refine not_in_one ?_; first | omega | (simp -implicitDefEqProofs only [wpD1] <;> omega) | fail) | (simp -implicitDefEqProofs only [wpD2] <;> assumption) | ((repeat (first | exact HSub.refl _ | assumption | refine HSub.push ?_ _ | refine HSub.reserve ?_ _ | refine HSub.put ?_ (by omega) _)); done) | fail) only [↓wpPre, wpPost, wpPoly, Int.reduceToNat, Int.reducePow, Int.reduceMul, Int.reduceAdd, Int.reduceSub, Int.reduceNeg, Nat.reduceAdd, Nat.reduceMul, Nat.reducePow, Int.reduceLT, Int.reduceLE, Int.reduceEq, Nat.reduceEqDiff]
    have : a ≠ b := fun e => by subst e; omega
    simp [this]
  · simp -implicitDefEqProofs (disch := first | assumption | decide | omega | (simp -implicitDefEqProofs only [wpD1] <;> omega) | (refine not_in_one ?_; first | omega | (simp -implicitDefEqProofs only [wpD1] <;> omega) | fail) | (simp -implicitDefEqProofs only [wpD2] <;> assumption) | ((repeat (first | exact HSub.refl _ | assumption | refine HSub.push ?_ _ | refine HSub.reserve ?_ _ | refine HSub.put ?_ (by omega) _)); done) | fail) only [↓wpPre, wpPost, wpPoly, Int.reduceToNat, Int.reducePow, Int.reduceMul, Int.reduceAdd, Int.reduceSub, Int.reduceNeg, Nat.reduceAdd, Nat.reduceMul, Nat.reducePow, Int.reduceLT, Int.reduceLE, Int.reduceEq, Nat.reduceEqDiff]
    refine wp_loopI (fun j t h' => h' = h ∧ t 0 = va ∧ t 1 = vb ∧ ∃ i : Nat, t 5 = .int .i64 (i : Nat) ∧ i ≤ a.length ∧ a.take i = b.take i ∧ j = a.length - i) ⟨rfl, rfl, rfl, 0, rfl, by omega, by simp, rfl⟩ ?_
    rintro j t h' ⟨rfl, e0, e1, i, e5, hi, hp, hj⟩
    simp -implicitDefEqProofs (disch := first | assumption | decide | omega | (simp -implicitDefEqProofs only [wpD1] <;> omega) | (refine not_in_one ?_; first | omega | (simp -implicitDefEqProofs only [wpD1] <;> omega) | fail) | (simp -implicitDefEqProofs only [wpD2] <;> assumption) | ((repeat (first | exact HSub.refl _ | assumption | refine HSub.push ?_ _ | refine HSub.reserve ?_ _ | refine HSub.put ?_ (by omega) _)); done) | fail) only [↓wpPre, wpPost, wpPoly, Int.reduceToNat, Int.reducePow, Int.reduceMul, Int.reduceAdd, Int.reduceSub, Int.reduceNeg, Nat.reduceAdd, Nat.reduceMul, Nat.reducePow, Int.reduceLT, Int.reduceLE, Int.reduceEq, Nat.reduceEqDiff, e0, e1, e5, ha.len]
    refine Br.by (fun c1 => ?_) (fun c1 => ?_)
    · simp -implicitDefEqProofs (disch := first | assumption | decide | omega | (simp -implicitDefEqProofs only [wpD1] <;> omega) | (refine not_in_one ?_; first | omega | (simp -implicitDefEqProofs only [wpD1] <;> omega) | fail) | (simp -implicitDefEqProofs only [wpD2] <;> assumption) | ((repeat (first | exact HSub.refl _ | assumption | refine HSub.push ?_ _ | refine HSub.reserve ?_ _ | refine HSub.put ?_ (by omega) _)); done) | fail) only [↓wpPre, wpPost, wpPoly, Int.reduceToNat, Int.reducePow, Int.reduceMul, Int.reduceAdd, Int.reduceSub, Int.reduceNeg, Nat.reduceAdd, Nat.reduceMul, Nat.reducePow, Int.reduceLT, Int.reduceLE, Int.reduceEq, Nat.reduceEqDiff, e0, e1, e5, ha.idx, hb.idx, ha.load, hb.load]
      refine Br.by (fun c2 => ?_) (fun c2 => ?_)
      · simp -implicitDefEqProofs (disch := first | assumption | decide | omega | (simp -implicitDefEqProofs only [wpD1] <;> omega) | (refine not_in_one ?_; first | omega | (simp -implicitDefEqProofs only [wpD1] <;> omega) | fail) | (simp -implicitDefEqProofs only [wpD2] <;> assumption) | ((repeat (first | exact HSub.refl _ | assumption | refine HSub.push ?_ _ | refine HSub.reserve ?_ _ | refine HSub.put ?_ (by omega) _)); done) | fail) only [↓wpPre, wpPost, wpPoly, Int.reduceToNat, Int.reducePow, Int.reduceMul, Int.reduceAdd, Int.reduceSub, Int.reduceNeg, Nat.reduceAdd, Nat.reduceMul, Nat.reducePow, Int.reduceLT, Int.reduceLE, Int.reduceEq, Nat.reduceEqDiff]
        have : a ≠ b := fun e => c2 (by rw [e])
        simp [this]
      · simp -implicitDefEqProofs (disch := first | assumption | decide | omega | (simp -implicitDefEqProofs only [wpD1] <;> omega) | (refine not_in_one ?_; first | omega | (simp -implicitDefEqProofs only [wpD1] <;> omega) | fail) | (simp -implicitDefEqProofs only [wpD2] <;> assumption) | ((repeat (first | exact HSub.refl _ | assumption | refine HSub.push ?_ _ | refine HSub.reserve ?_ _ | refine HSub.put ?_ (by omega) _)); done) | fail) only [↓wpPre, wpPost, wpPoly, Int.reduceToNat, Int.reducePow, Int.reduceMul, Int.reduceAdd, Int.reduceSub, Int.reduceNeg, Nat.reduceAdd, Nat.reduceMul, Nat.reducePow, Int.reduceLT, Int.reduceLE, Int.reduceEq, Nat.reduceEqDiff, e0, e1, e5]
        refine ⟨_, ⟨i + 1, by simp, by omega, ?_, rfl⟩, by omega⟩
        · rw [take_succ_getD (by omega), take_succ_getD (by omega), hp, Decidable.not_not.1 c2]
    · simp -implicitDefEqProofs (disch := first | assumption | decide | omega | (simp -implicitDefEqProofs only [wpD1] <;> omega) | (refine not_in_one ?_; first | omega | (simp -implicitDefEqProofs only [wpD1] <;> omega) | fail) | (simp -implicitDefEqProofs only [wpD2] <;> assumption) | ((repeat (first | exact HSub.refl _ | assumption | refine HSub.push ?_ _ | refine HSub.reserve ?_ _ | refine HSub.put ?_ (by omega) _)); done) | fail) only [↓wpPre, wpPost, wpPoly, Int.reduceToNat, Int.reducePow, Int.reduceMul, Int.reduceAdd, Int.reduceSub, Int.reduceNeg, Nat.reduceAdd, Nat.reduceMul, Nat.reducePow, Int.reduceLT, Int.reduceLE, Int.reduceEq, Nat.reduceEqDiff]
      have e1 : i = a.length := by omega
      subst e1
      rw [List.take_of_length_le (by omega), List.take_of_length_le (by omega)] at hp
      simp [hp]

theorem emod_of_tmod {x n : Int} (hn : 1 ≤ n) : x % n = if x.tmod n < 0 then x.tmod n + n else x.tmod n := by
  have h1 : x.tmod n < n := Int.tmod_lt_of_pos x (by omega)
  have h2 : -n < x.tmod n := by have := Int.lt_tmod_of_pos x (b := n) (by omega); omega
  have h3 : x % n = x.tmod n % n := by
    have := Int.tmod_add_mul_tdiv x n
    rw [← this, Int.add_mul_emod_self_left]
    rw [Int.tmod_add_mul_tdiv]
  rw [h3]
  split
  · rw [← Int.add_emod_right, Int.emod_eq_of_lt (by omega) (by omega)]
  · rw [Int.emod_eq_of_lt (by omega) (by omega)]

/-- The number from 0 to n - 1 that a number selects. -/
theorem Turn_spec (hC : Has C T23) {x n : Int} {h : Heap} (hx : In64 x) (hn : 1 ≤ n ∧ n ≤ 9223372036854775807) : ACalls C 23 [.int .i64 x, .int .i64 n] h (fun r h' => r = .int .i64 (x % n) ∧ h' = h) := by
  unfold In64 at hx
  have h1 : x.tmod n < n := Int.tmod_lt_of_pos x (by omega)
  have h2 : -n < x.tmod n := by have := Int.lt_tmod_of_pos x (b := n) (by omega); omega
  rw [emod_of_tmod hn.1]
  (refine calls_intro (hC.body (by decide) tab23) (Nat.le_of_ble_eq_true rfl) ?_); (show wp C _ none B23.code _ _); (simp only [B23]); simp -implicitDefEqProofs (disch := first | assumption | decide | omega | (simp -implicitDefEqProofs only [wpD1] <;> omega) | (refine not_in_one ?_; first | omega | (simp -implicitDefEqProofs only [wpD1] <;> omega) | fail) | (simp -implicitDefEqProofs only [wpD2] <;> assumption) | ((repeat (first | exact HSub.refl _ | assumption | refine HSub.push ?_ _ | refine HSub.reserve ?_ _ | refine HSub.put ?_ (by omega) _)); done) | fail) only [↓wpPre, wpPost, wpPoly, Int.reduceToNat, Int.reducePow, Int.reduceMul, Int.reduceAdd, Int.reduceSub, Int.reduceNeg, Nat.reduceAdd, Nat.reduceMul, Nat.reducePow, Int.reduceLT, Int.reduceLE, Int.reduceEq, Nat.reduceEqDiff]
  refine Br.by (fun c => ?_) (fun c => ?_)
  · simp -implicitDefEqProofs (disch := first | assumption | decide | omega | (simp -implicitDefEqProofs only [wpD1] <;> omega) | (refine not_in_one ?_; first | omega | (simp -implicitDefEqProofs only [wpD1] <;> omega) | fail) | (simp -implicitDefEqProofs only [wpD2] <;> assumption) | ((repeat (first | exact HSub.refl _ | assumption | refine HSub.push ?_ _ | refine HSub.reserve ?_ _ | refine HSub.put ?_ (by omega) _)); done) | fail) only [↓wpPre, wpPost, wpPoly, Int.reduceToNat, Int.reducePow, Int.reduceMul, Int.reduceAdd, Int.reduceSub, Int.reduceNeg, Nat.reduceAdd, Nat.reduceMul, Nat.reducePow, Int.reduceLT, Int.reduceLE, Int.reduceEq, Nat.reduceEqDiff, if_pos c]
  · simp -implicitDefEqProofs (disch := first | assumption | decide | omega | (simp -implicitDefEqProofs only [wpD1] <;> omega) | (refine not_in_one ?_; first | omega | (simp -implicitDefEqProofs only [wpD1] <;> omega) | fail) | (simp -implicitDefEqProofs only [wpD2] <;> assumption) | ((repeat (first | exact HSub.refl _ | assumption | refine HSub.push ?_ _ | refine HSub.reserve ?_ _ | refine HSub.put ?_ (by omega) _)); done) | fail) only [↓wpPre, wpPost, wpPoly, Int.reduceToNat, Int.reducePow, Int.reduceMul, Int.reduceAdd, Int.reduceSub, Int.reduceNeg, Nat.reduceAdd, Nat.reduceMul, Nat.reducePow, Int.reduceLT, Int.reduceLE, Int.reduceEq, Nat.reduceEqDiff, if_neg c]

/-- The number from 0 to n - 1 that an element of a list selects. -/
def someOf (l : List Int) (i : Nat) (n : Int) : Int := if i < l.length then l.getD i 0 % n else 0
theorem Some_spec (hC : Has C T45) {v : AV} {l : List Int} {i : Nat} {n : Int} {h : Heap} (hl : RI h v l) (hx : ∀ x ∈ l, In64 x) (hn : 1 ≤ n ∧ n ≤ 9223372036854775807) :
    ACalls C 45 [v, .int .i64 (i : Nat), .int .i64 n] h (fun r h' => r = .int .i64 (someOf l i n) ∧ h' = h) := by
  have hlt := hl.lt
  (refine calls_intro (hC.body (by decide) tab45) (Nat.le_of_ble_eq_true rfl) ?_); (show wp C _ none B45.code _ _); (simp only [B45]); simp -implicitDefEqProofs (disch := first | assumption | decide | omega | (simp -implicitDefEqProofs only [wpD1] <;> omega) | (refine not_in_one ?_; first | omega | (simp -implicitDefEqProofs only [wpD1] <;> omega) | fail) | (simp -implicitDefEqProofs only [wpD2] <;> assumption) | ((repeat (first | exact HSub.refl _ | assumption | refine HSub.push ?_ _ | refine HSub.reserve ?_ _ | refine HSub.put ?_ (by omega) _)); done) | fail) only [↓wpPre, wpPost, wpPoly, Int.reduceToNat, Int.reducePow, Int.reduceMul, Int.reduceAdd, Int.reduceSub, Int.reduceNeg, Nat.reduceAdd, Nat.reduceMul, Nat.reducePow, Int.reduceLT, Int.reduceLE, Int.reduceEq, Nat.reduceEqDiff, hl.len]
  refine Br.by (fun c => ?_) (fun c => ?_)
  · simp -implicitDefEqProofs (disch := first | assumption | decide | omega | (simp -implicitDefEqProofs only [wpD1] <;> omega) | (refine not_in_one ?_; first | omega | (simp -implicitDefEqProofs only [wpD1] <;> omega) | fail) | (simp -implicitDefEqProofs only [wpD2] <;> assumption) | ((repeat (first | exact HSub.refl _ | assumption | refine HSub.push ?_ _ | refine HSub.reserve ?_ _ | refine HSub.put ?_ (by omega) _)); done) | fail) only [↓wpPre, wpPost, wpPoly, Int.reduceToNat, Int.reducePow, Int.reduceMul, Int.reduceAdd, Int.reduceSub, Int.reduceNeg, Nat.reduceAdd, Nat.reduceMul, Nat.reducePow, Int.reduceLT, Int.reduceLE, Int.reduceEq, Nat.reduceEqDiff, someOf, if_neg (show ¬ i < l.length by omega)]
  · have hi : i < l.length := by omega
    simp -implicitDefEqProofs (disch := first | assumption | decide | omega | (simp -implicitDefEqProofs only [wpD1] <;> omega) | (refine not_in_one ?_; first | omega | (simp -implicitDefEqProofs only [wpD1] <;> omega) | fail) | (simp -implicitDefEqProofs only [wpD2] <;> assumption) | ((repeat (first | exact HSub.refl _ | assumption | refine HSub.push ?_ _ | refine HSub.reserve ?_ _ | refine HSub.put ?_ (by omega) _)); done) | fail) only [↓wpPre, wpPost, wpPoly, Int.reduceToNat, Int.reducePow, Int.reduceMul, Int.reduceAdd, Int.reduceSub, Int.reduceNeg, Nat.reduceAdd, Nat.reduceMul, Nat.reducePow, Int.reduceLT, Int.reduceLE, Int.reduceEq, Nat.reduceEqDiff, hl.idx, hl.load]
    refine ACallsK.eq (Turn_spec (hC.sub (T' := T23) (by decide)) (hx _ (getD_mem hi)) hn) ?_
    simp -implicitDefEqProofs (disch := first | assumption | decide | omega | (simp -implicitDefEqProofs only [wpD1] <;> omega) | (refine not_in_one ?_; first | omega | (simp -implicitDefEqProofs only [wpD1] <;> omega) | fail) | (simp -implicitDefEqProofs only [wpD2] <;> assumption) | ((repeat (first | exact HSub.refl _ | assumption | refine HSub.push ?_ _ | refine HSub.reserve ?_ _ | refine HSub.put ?_ (by omega) _)); done) | fail) only [↓wpPre, wpPost, wpPoly, Int.reduceToNat, Int.reducePow, Int.reduceMul, Int.reduceAdd, Int.reduceSub, Int.reduceNeg, Nat.reduceAdd, Nat.reduceMul, Nat.reducePow, Int.reduceLT, Int.reduceLE, Int.reduceEq, Nat.reduceEqDiff, someOf, if_pos hi]

def tup2 (a b : Int) : AV := .tuple [.int .i64 a, .int .i64 b]
/-- A list and an error. -/
def lstErr (v : AV) (e : Int) : AV := .tuple [v, .int .i64 e]
theorem ACallsK.eq2 {g : Nat} {args : List AV} {h h' : Heap} {r r' : AV} {K : AV → Heap → Prop} (hc : ACalls C g args h fun x h'' => x = r ∧ h'' = h') (e : r = r') (hk : K r' h') : @ACallsK C g args h ⟨K⟩ := ACallsK.eq (e ▸ hc) hk

/-- The table of some functions. -/
def tabIn (L : List Nat) (g : Nat) : Option ABody := if L.contains g then tab g else none
theorem tabIn_ok {L : List Nat} (hC : Has C L) : ∀ g b, tabIn L g = some b → C.body g = some b := by
  intro g b h
  unfold tabIn at h
  split at h
  · rename_i hg; exact hC g (by simpa using hg) b h
  · cases h

end
end Go.Ae

/- Steps of oscillators. -/
set_option linter.unusedSimpArgs false
set_option linter.unusedVariables false
namespace Go.Ae
theorem wrap_u32 (x : Int) : IntKind.u32.wrap x = x % 4294967296 := by
  show IntKind.wrap .u32 x = _
  simp [IntKind.wrap, IntKind.bits, IntKind.signed]
def stepQ (a p : Int) : Int := if p ≤ 2 * (a * 4294967296 % p) then a * 4294967296 / p + 1 else a * 4294967296 / p
def tupU (a b : Int) : AV := .tuple [.int .u32 a, .int .i64 b]
def stepBad (t p : Int) : Prop := t < -1073741824 ∨ 1073741824 < t ∨ p < 1 ∨ 1073741824 < p
instance (t p : Int) : Decidable (stepBad t p) := by unfold stepBad; infer_instance
def StepI (t p : Int) : AV := if stepBad t p then tupU 0 2 else tupU ((if t < 0 then -stepQ (-t) p else stepQ t p) % 4294967296) 0
theorem stepQ_range {a p : Int} (ha : 0 ≤ a ∧ a ≤ 1073741824) (hp : 1 ≤ p) : 0 ≤ a * 4294967296 / p ∧ a * 4294967296 / p ≤ 4611686018427387904 ∧ 0 ≤ a * 4294967296 % p ∧ a * 4294967296 % p < p := by
  refine ⟨Int.ediv_nonneg (by omega) (by omega), ?_, Int.emod_nonneg _ (by omega), Int.emod_lt_of_pos _ (by omega)⟩
  have := Int.ediv_le_self p (show 0 ≤ a * 4294967296 by omega)
  omega
section
variable {C : Ctx}
theorem awake11_run : runsTo (tabIn T116) 1000 60 116 [] = true := by kernel_rfl
theorem awake11_spec (hC : Has C T116) {h : Heap} : ACalls C 116 [] h (fun r h' => r = .bool true ∧ h' = h) :=
  runsTo_sound (tabIn_ok hC) (by simp) awake11_run h
theorem Step_pos (hC : Has C T114) {t p : Int} {h : Heap} (ht : 0 ≤ t ∧ t ≤ 1073741824) (hp : 1 ≤ p ∧ p ≤ 1073741824) : ACalls C 114 [.int .i64 t, .int .i64 p] h (fun r h' => r = tupU (stepQ t p % 4294967296) 0 ∧ h' = h) := by
  have hq := stepQ_range ht hp.1
  unfold stepQ
  (refine calls_intro (hC.body (by decide) tab114) (Nat.le_of_ble_eq_true rfl) ?_); (show wp C _ none B114.code _ _); (simp only [B114]); simp -implicitDefEqProofs (disch := first | assumption | decide | omega | (simp -implicitDefEqProofs only [wpD1] <;> omega) | (refine not_in_one ?_; first | omega | (simp -implicitDefEqProofs only [wpD1] <;> omega) | fail) | (simp -implicitDefEqProofs only [wpD2] <;> assumption) | ((repeat (first | exact HSub.refl _ | assumption | refine HSub.push ?_ _ | refine HSub.reserve ?_ _ | refine HSub.put ?_ (by omega) _)); done) | fail) only [↓wpPre, wpPost, wpPoly, Int.reduceToNat, Int.reducePow, Int.reduceMul, Int.reduceAdd, Int.reduceSub, Int.reduceNeg, Nat.reduceAdd, Nat.reduceMul, Nat.reducePow, Int.reduceLT, Int.reduceLE, Int.reduceEq, Nat.reduceEqDiff]
  refine Br.by (fun c => ?_) (fun c => ?_)
  · simp -implicitDefEqProofs (disch := first | assumption | decide | omega | (simp -implicitDefEqProofs only [wpD1] <;> omega) | (refine not_in_one ?_; first | omega | (simp -implicitDefEqProofs only [wpD1] <;> omega) | fail) | (simp -implicitDefEqProofs only [wpD2] <;> assumption) | ((repeat (first | exact HSub.refl _ | assumption | refine HSub.push ?_ _ | refine HSub.reserve ?_ _ | refine HSub.put ?_ (by omega) _)); done) | fail) only [↓wpPre, wpPost, wpPoly, Int.reduceToNat, Int.reducePow, Int.reduceMul, Int.reduceAdd, Int.reduceSub, Int.reduceNeg, Nat.reduceAdd, Nat.reduceMul, Nat.reducePow, Int.reduceLT, Int.reduceLE, Int.reduceEq, Nat.reduceEqDiff, if_pos c, wrap_u32]
    rfl
  · simp -implicitDefEqProofs (disch := first | assumption | decide | omega | (simp -implicitDefEqProofs only [wpD1] <;> omega) | (refine not_in_one ?_; first | omega | (simp -implicitDefEqProofs only [wpD1] <;> omega) | fail) | (simp -implicitDefEqProofs only [wpD2] <;> assumption) | ((repeat (first | exact HSub.refl _ | assumption | refine HSub.push ?_ _ | refine HSub.reserve ?_ _ | refine HSub.put ?_ (by omega) _)); done) | fail) only [↓wpPre, wpPost, wpPoly, Int.reduceToNat, Int.reducePow, Int.reduceMul, Int.reduceAdd, Int.reduceSub, Int.reduceNeg, Nat.reduceAdd, Nat.reduceMul, Nat.reducePow, Int.reduceLT, Int.reduceLE, Int.reduceEq, Nat.reduceEqDiff, if_neg c, wrap_u32]
    rfl
theorem Step_spec (hC : Has C T114) {t p : Int} {h : Heap} (ht : In64 t) (hp : In64 p) : ACalls C 114 [.int .i64 t, .int .i64 p] h (fun r h' => r = StepI t p ∧ h' = h) := by
  unfold In64 at ht hp
  by_cases cb : stepBad t p
  · have e : StepI t p = tupU 0 2 := by unfold StepI; rw [if_pos cb]
    rw [e]
    unfold stepBad at cb
    (refine calls_intro (hC.body (by decide) tab114) (Nat.le_of_ble_eq_true rfl) ?_); (show wp C _ none B114.code _ _); (simp only [B114]); simp -implicitDefEqProofs (disch := first | assumption | decide | omega | (simp -implicitDefEqProofs only [wpD1] <;> omega) | (refine not_in_one ?_; first | omega | (simp -implicitDefEqProofs only [wpD1] <;> omega) | fail) | (simp -implicitDefEqProofs only [wpD2] <;> assumption) | ((repeat (first | exact HSub.refl _ | assumption | refine HSub.push ?_ _ | refine HSub.reserve ?_ _ | refine HSub.put ?_ (by omega) _)); done) | fail) only [↓wpPre, wpPost, wpPoly, Int.reduceToNat, Int.reducePow, Int.reduceMul, Int.reduceAdd, Int.reduceSub, Int.reduceNeg, Nat.reduceAdd, Nat.reduceMul, Nat.reducePow, Int.reduceLT, Int.reduceLE, Int.reduceEq, Nat.reduceEqDiff]
    (repeat' (first | (refine Br.by (fun _ => ?_) (fun _ => ?_)) | (simp -implicitDefEqProofs (disch := first | assumption | decide | omega | (simp -implicitDefEqProofs only [wpD1] <;> omega) | (refine not_in_one ?_; first | omega | (simp -implicitDefEqProofs only [wpD1] <;> omega) | fail) | (simp -implicitDefEqProofs only [wpD2] <;> assumption) | ((repeat (first | exact HSub.refl _ | assumption | refine HSub.push ?_ _ | refine HSub.reserve ?_ _ | refine HSub.put ?_ (by omega) _)); done) | fail) only [↓wpPre, wpPost, wpPoly, Int.reduceToNat, Int.reducePow, Int.reduceMul, Int.reduceAdd, Int.reduceSub, Int.reduceNeg, Nat.reduceAdd, Nat.reduceMul, Nat.reducePow, Int.reduceLT, Int.reduceLE, Int.reduceEq, Nat.reduceEqDiff])))
    all_goals first | rfl | (exfalso; omega)
  · have cb' := cb
    unfold stepBad at cb'
    by_cases cn : t < 0
    · have e : StepI t p = tupU (-stepQ (-t) p % 4294967296) 0 := by unfold StepI; rw [if_neg cb, if_pos cn]
      rw [e]
      have hq := stepQ_range (a := -t) (p := p) (by omega) (by omega)
      have e0 : 0 - t = -t := by omega
      have m1 := Int.emod_nonneg (stepQ (-t) p) (show (4294967296 : Int) ≠ 0 by decide)
      have m2 := Int.emod_lt_of_pos (stepQ (-t) p) (show (0 : Int) < 4294967296 by decide)
      have e1 : (0 - stepQ (-t) p % 4294967296) % 4294967296 = -stepQ (-t) p % 4294967296 := by omega
      (refine calls_intro (hC.body (by decide) tab114) (Nat.le_of_ble_eq_true rfl) ?_); (show wp C _ none B114.code _ _); (simp only [B114]); simp -implicitDefEqProofs (disch := first | assumption | decide | omega | (simp -implicitDefEqProofs only [wpD1] <;> omega) | (refine not_in_one ?_; first | omega | (simp -implicitDefEqProofs only [wpD1] <;> omega) | fail) | (simp -implicitDefEqProofs only [wpD2] <;> assumption) | ((repeat (first | exact HSub.refl _ | assumption | refine HSub.push ?_ _ | refine HSub.reserve ?_ _ | refine HSub.put ?_ (by omega) _)); done) | fail) only [↓wpPre, wpPost, wpPoly, Int.reduceToNat, Int.reducePow, Int.reduceMul, Int.reduceAdd, Int.reduceSub, Int.reduceNeg, Nat.reduceAdd, Nat.reduceMul, Nat.reducePow, Int.reduceLT, Int.reduceLE, Int.reduceEq, Nat.reduceEqDiff]
      simp -implicitDefEqProofs (disch := first | assumption | decide | omega | (simp -implicitDefEqProofs only [wpD1] <;> omega) | (refine not_in_one ?_; first | omega | (simp -implicitDefEqProofs only [wpD1] <;> omega) | fail) | (simp -implicitDefEqProofs only [wpD2] <;> assumption) | ((repeat (first | exact HSub.refl _ | assumption | refine HSub.push ?_ _ | refine HSub.reserve ?_ _ | refine HSub.put ?_ (by omega) _)); done) | fail) only [↓wpPre, wpPost, wpPoly, Int.reduceToNat, Int.reducePow, Int.reduceMul, Int.reduceAdd, Int.reduceSub, Int.reduceNeg, Nat.reduceAdd, Nat.reduceMul, Nat.reducePow, Int.reduceLT, Int.reduceLE, Int.reduceEq, Nat.reduceEqDiff, e0]
      refine ACallsK.eq (Step_pos (hC.sub (T' := T114) (by decide)) (t := -t) (p := p) (by omega) (by omega)) ?_
      simp -implicitDefEqProofs (disch := first | assumption | decide | omega | (simp -implicitDefEqProofs only [wpD1] <;> omega) | (refine not_in_one ?_; first | omega | (simp -implicitDefEqProofs only [wpD1] <;> omega) | fail) | (simp -implicitDefEqProofs only [wpD2] <;> assumption) | ((repeat (first | exact HSub.refl _ | assumption | refine HSub.push ?_ _ | refine HSub.reserve ?_ _ | refine HSub.put ?_ (by omega) _)); done) | fail) only [↓wpPre, wpPost, wpPoly, Int.reduceToNat, Int.reducePow, Int.reduceMul, Int.reduceAdd, Int.reduceSub, Int.reduceNeg, Nat.reduceAdd, Nat.reduceMul, Nat.reducePow, Int.reduceLT, Int.reduceLE, Int.reduceEq, Nat.reduceEqDiff, tupU, wrap_u32, e1]
    · have e : StepI t p = tupU (stepQ t p % 4294967296) 0 := by unfold StepI; rw [if_neg cb, if_neg cn]
      rw [e]
      exact Step_pos hC (by omega) (by omega)
theorem StepR_spec (hC : Has C T115) {t p : Int} {h : Heap} (ht : In64 t) (hp : In64 p) : ACalls C 115 [.int .i64 t, .int .i64 p] h (fun r h' => r = StepI t p ∧ h' = h) := by
  unfold In64 at ht hp
  by_cases cb : stepBad t p
  · have e : StepI t p = tupU 0 2 := by unfold StepI; rw [if_pos cb]
    rw [e]
    unfold stepBad at cb
    (refine calls_intro (hC.body (by decide) tab115) (Nat.le_of_ble_eq_true rfl) ?_); (show wp C _ none B115.code _ _); (simp only [B115]); simp -implicitDefEqProofs (disch := first | assumption | decide | omega | (simp -implicitDefEqProofs only [wpD1] <;> omega) | (refine not_in_one ?_; first | omega | (simp -implicitDefEqProofs only [wpD1] <;> omega) | fail) | (simp -implicitDefEqProofs only [wpD2] <;> assumption) | ((repeat (first | exact HSub.refl _ | assumption | refine HSub.push ?_ _ | refine HSub.reserve ?_ _ | refine HSub.put ?_ (by omega) _)); done) | fail) only [↓wpPre, wpPost, wpPoly, Int.reduceToNat, Int.reducePow, Int.reduceMul, Int.reduceAdd, Int.reduceSub, Int.reduceNeg, Nat.reduceAdd, Nat.reduceMul, Nat.reducePow, Int.reduceLT, Int.reduceLE, Int.reduceEq, Nat.reduceEqDiff]
    (repeat' (first | (refine Br.by (fun _ => ?_) (fun _ => ?_)) | (simp -implicitDefEqProofs (disch := first | assumption | decide | omega | (simp -implicitDefEqProofs only [wpD1] <;> omega) | (refine not_in_one ?_; first | omega | (simp -implicitDefEqProofs only [wpD1] <;> omega) | fail) | (simp -implicitDefEqProofs only [wpD2] <;> assumption) | ((repeat (first | exact HSub.refl _ | assumption | refine HSub.push ?_ _ | refine HSub.reserve ?_ _ | refine HSub.put ?_ (by omega) _)); done) | fail) only [↓wpPre, wpPost, wpPoly, Int.reduceToNat, Int.reducePow, Int.reduceMul, Int.reduceAdd, Int.reduceSub, Int.reduceNeg, Nat.reduceAdd, Nat.reduceMul, Nat.reducePow, Int.reduceLT, Int.reduceLE, Int.reduceEq, Nat.reduceEqDiff])))
    all_goals first | rfl | (exfalso; omega)
  · have cb' := cb
    unfold stepBad at cb'
    by_cases cn : t < 0
    · have e : StepI t p = tupU (-stepQ (-t) p % 4294967296) 0 := by unfold StepI; rw [if_neg cb, if_pos cn]
      rw [e]
      have hq := stepQ_range (a := -t) (p := p) (by omega) (by omega)
      have e0 : max t (0 - t) = -t := by omega
      unfold stepQ
      (refine calls_intro (hC.body (by decide) tab115) (Nat.le_of_ble_eq_true rfl) ?_); (show wp C _ none B115.code _ _); (simp only [B115]); simp -implicitDefEqProofs (disch := first | assumption | decide | omega | (simp -implicitDefEqProofs only [wpD1] <;> omega) | (refine not_in_one ?_; first | omega | (simp -implicitDefEqProofs only [wpD1] <;> omega) | fail) | (simp -implicitDefEqProofs only [wpD2] <;> assumption) | ((repeat (first | exact HSub.refl _ | assumption | refine HSub.push ?_ _ | refine HSub.reserve ?_ _ | refine HSub.put ?_ (by omega) _)); done) | fail) only [↓wpPre, wpPost, wpPoly, Int.reduceToNat, Int.reducePow, Int.reduceMul, Int.reduceAdd, Int.reduceSub, Int.reduceNeg, Nat.reduceAdd, Nat.reduceMul, Nat.reducePow, Int.reduceLT, Int.reduceLE, Int.reduceEq, Nat.reduceEqDiff, e0]
      refine Br.by (fun c => ?_) (fun c => ?_)
      · simp -implicitDefEqProofs (disch := first | assumption | decide | omega | (simp -implicitDefEqProofs only [wpD1] <;> omega) | (refine not_in_one ?_; first | omega | (simp -implicitDefEqProofs only [wpD1] <;> omega) | fail) | (simp -implicitDefEqProofs only [wpD2] <;> assumption) | ((repeat (first | exact HSub.refl _ | assumption | refine HSub.push ?_ _ | refine HSub.reserve ?_ _ | refine HSub.put ?_ (by omega) _)); done) | fail) only [↓wpPre, wpPost, wpPoly, Int.reduceToNat, Int.reducePow, Int.reduceMul, Int.reduceAdd, Int.reduceSub, Int.reduceNeg, Nat.reduceAdd, Nat.reduceMul, Nat.reducePow, Int.reduceLT, Int.reduceLE, Int.reduceEq, Nat.reduceEqDiff, if_pos c, wrap_u32, Int.zero_sub]
        rfl
      · simp -implicitDefEqProofs (disch := first | assumption | decide | omega | (simp -implicitDefEqProofs only [wpD1] <;> omega) | (refine not_in_one ?_; first | omega | (simp -implicitDefEqProofs only [wpD1] <;> omega) | fail) | (simp -implicitDefEqProofs only [wpD2] <;> assumption) | ((repeat (first | exact HSub.refl _ | assumption | refine HSub.push ?_ _ | refine HSub.reserve ?_ _ | refine HSub.put ?_ (by omega) _)); done) | fail) only [↓wpPre, wpPost, wpPoly, Int.reduceToNat, Int.reducePow, Int.reduceMul, Int.reduceAdd, Int.reduceSub, Int.reduceNeg, Nat.reduceAdd, Nat.reduceMul, Nat.reducePow, Int.reduceLT, Int.reduceLE, Int.reduceEq, Nat.reduceEqDiff, if_neg c, wrap_u32, Int.zero_sub]
        rfl
    · have e : StepI t p = tupU (stepQ t p % 4294967296) 0 := by unfold StepI; rw [if_neg cb, if_neg cn]
      rw [e]
      have hq := stepQ_range (a := t) (p := p) (by omega) (by omega)
      have e0 : max t (0 - t) = t := by omega
      unfold stepQ
      (refine calls_intro (hC.body (by decide) tab115) (Nat.le_of_ble_eq_true rfl) ?_); (show wp C _ none B115.code _ _); (simp only [B115]); simp -implicitDefEqProofs (disch := first | assumption | decide | omega | (simp -implicitDefEqProofs only [wpD1] <;> omega) | (refine not_in_one ?_; first | omega | (simp -implicitDefEqProofs only [wpD1] <;> omega) | fail) | (simp -implicitDefEqProofs only [wpD2] <;> assumption) | ((repeat (first | exact HSub.refl _ | assumption | refine HSub.push ?_ _ | refine HSub.reserve ?_ _ | refine HSub.put ?_ (by omega) _)); done) | fail) only [↓wpPre, wpPost, wpPoly, Int.reduceToNat, Int.reducePow, Int.reduceMul, Int.reduceAdd, Int.reduceSub, Int.reduceNeg, Nat.reduceAdd, Nat.reduceMul, Nat.reducePow, Int.reduceLT, Int.reduceLE, Int.reduceEq, Nat.reduceEqDiff, e0]
      refine Br.by (fun c => ?_) (fun c => ?_)
      · simp -implicitDefEqProofs (disch := first | assumption | decide | omega | (simp -implicitDefEqProofs only [wpD1] <;> omega) | (refine not_in_one ?_; first | omega | (simp -implicitDefEqProofs only [wpD1] <;> omega) | fail) | (simp -implicitDefEqProofs only [wpD2] <;> assumption) | ((repeat (first | exact HSub.refl _ | assumption | refine HSub.push ?_ _ | refine HSub.reserve ?_ _ | refine HSub.put ?_ (by omega) _)); done) | fail) only [↓wpPre, wpPost, wpPoly, Int.reduceToNat, Int.reducePow, Int.reduceMul, Int.reduceAdd, Int.reduceSub, Int.reduceNeg, Nat.reduceAdd, Nat.reduceMul, Nat.reducePow, Int.reduceLT, Int.reduceLE, Int.reduceEq, Nat.reduceEqDiff, if_pos c, wrap_u32]
        rfl
      · simp -implicitDefEqProofs (disch := first | assumption | decide | omega | (simp -implicitDefEqProofs only [wpD1] <;> omega) | (refine not_in_one ?_; first | omega | (simp -implicitDefEqProofs only [wpD1] <;> omega) | fail) | (simp -implicitDefEqProofs only [wpD2] <;> assumption) | ((repeat (first | exact HSub.refl _ | assumption | refine HSub.push ?_ _ | refine HSub.reserve ?_ _ | refine HSub.put ?_ (by omega) _)); done) | fail) only [↓wpPre, wpPost, wpPoly, Int.reduceToNat, Int.reducePow, Int.reduceMul, Int.reduceAdd, Int.reduceSub, Int.reduceNeg, Nat.reduceAdd, Nat.reduceMul, Nat.reducePow, Int.reduceLT, Int.reduceLE, Int.reduceEq, Nat.reduceEqDiff, if_neg c, wrap_u32]
        rfl
theorem NcoSteps_law (hC : Has C T106) {t p : Int} {h : Heap} (ht : In64 t) (hp : In64 p) : ACalls C 106 [.int .i64 t, .int .i64 p] h (fun r _ => r = .bool true) := by
  have hex : ∃ a b, StepI t p = tupU a b := by unfold StepI; split <;> exact ⟨_, _, rfl⟩
  obtain ⟨a, b, e⟩ := hex
  (refine calls_intro (hC.body (by decide) tab106) (Nat.le_of_ble_eq_true rfl) ?_); (show wp C _ none B106.code _ _); (simp only [B106]); simp -implicitDefEqProofs (disch := first | assumption | decide | omega | (simp -implicitDefEqProofs only [wpD1] <;> omega) | (refine not_in_one ?_; first | omega | (simp -implicitDefEqProofs only [wpD1] <;> omega) | fail) | (simp -implicitDefEqProofs only [wpD2] <;> assumption) | ((repeat (first | exact HSub.refl _ | assumption | refine HSub.push ?_ _ | refine HSub.reserve ?_ _ | refine HSub.put ?_ (by omega) _)); done) | fail) only [↓wpPre, wpPost, wpPoly, Int.reduceToNat, Int.reducePow, Int.reduceMul, Int.reduceAdd, Int.reduceSub, Int.reduceNeg, Nat.reduceAdd, Nat.reduceMul, Nat.reducePow, Int.reduceLT, Int.reduceLE, Int.reduceEq, Nat.reduceEqDiff]
  refine ACallsK.eq2 (Step_spec (hC.sub (T' := T114) (by decide)) ht hp) e ?_
  simp -implicitDefEqProofs (disch := first | assumption | decide | omega | (simp -implicitDefEqProofs only [wpD1] <;> omega) | (refine not_in_one ?_; first | omega | (simp -implicitDefEqProofs only [wpD1] <;> omega) | fail) | (simp -implicitDefEqProofs only [wpD2] <;> assumption) | ((repeat (first | exact HSub.refl _ | assumption | refine HSub.push ?_ _ | refine HSub.reserve ?_ _ | refine HSub.put ?_ (by omega) _)); done) | fail) only [↓wpPre, wpPost, wpPoly, Int.reduceToNat, Int.reducePow, Int.reduceMul, Int.reduceAdd, Int.reduceSub, Int.reduceNeg, Nat.reduceAdd, Nat.reduceMul, Nat.reducePow, Int.reduceLT, Int.reduceLE, Int.reduceEq, Nat.reduceEqDiff, tupU]
  refine ACallsK.eq2 (StepR_spec (hC.sub (T' := T115) (by decide)) ht hp) e ?_
  simp -implicitDefEqProofs (disch := first | assumption | decide | omega | (simp -implicitDefEqProofs only [wpD1] <;> omega) | (refine not_in_one ?_; first | omega | (simp -implicitDefEqProofs only [wpD1] <;> omega) | fail) | (simp -implicitDefEqProofs only [wpD2] <;> assumption) | ((repeat (first | exact HSub.refl _ | assumption | refine HSub.push ?_ _ | refine HSub.reserve ?_ _ | refine HSub.put ?_ (by omega) _)); done) | fail) only [↓wpPre, wpPost, wpPoly, Int.reduceToNat, Int.reducePow, Int.reduceMul, Int.reduceAdd, Int.reduceSub, Int.reduceNeg, Nat.reduceAdd, Nat.reduceMul, Nat.reducePow, Int.reduceLT, Int.reduceLE, Int.reduceEq, Nat.reduceEqDiff, tupU]
  refine ACallsK.eq (awake11_spec (hC.sub (T' := T116) (by decide))) ?_
  simp -implicitDefEqProofs (disch := first | assumption | decide | omega | (simp -implicitDefEqProofs only [wpD1] <;> omega) | (refine not_in_one ?_; first | omega | (simp -implicitDefEqProofs only [wpD1] <;> omega) | fail) | (simp -implicitDefEqProofs only [wpD2] <;> assumption) | ((repeat (first | exact HSub.refl _ | assumption | refine HSub.push ?_ _ | refine HSub.reserve ?_ _ | refine HSub.put ?_ (by omega) _)); done) | fail) only [↓wpPre, wpPost, wpPoly, Int.reduceToNat, Int.reducePow, Int.reduceMul, Int.reduceAdd, Int.reduceSub, Int.reduceNeg, Nat.reduceAdd, Nat.reduceMul, Nat.reducePow, Int.reduceLT, Int.reduceLE, Int.reduceEq, Nat.reduceEqDiff]
end
end Go.Ae

/- The examples of layer 11, run. -/
set_option linter.unusedSimpArgs false
set_option linter.unusedVariables false
namespace Go.Ae
section
variable {C : Ctx}
theorem known11_run : runsTo (tabIn T108) 1000 60 108 [] = true := by kernel_rfl
theorem known11_spec (hC : Has C T108) {h : Heap} : ACalls C 108 [] h (fun r h' => r = .bool true ∧ h' = h) :=
  runsTo_sound (tabIn_ok hC) (by simp) known11_run h
theorem NcoKnown_law (hC : Has C T108) {h : Heap} : ACalls C 108 [] h (fun r _ => r = .bool true) := (known11_spec hC).mono fun _ _ q => q.1
end
end Go.Ae

/- Phases, later oscillators, differences. -/
set_option linter.unusedSimpArgs false
set_option linter.unusedVariables false
namespace Go.Ae

/-- The phase n samples later. -/
def phI (a s n : Int) : Int := (a + s * (n % 4294967296)) % 4294967296
theorem phI_range (a s n : Int) : 0 ≤ phI a s n ∧ phI a s n < 4294967296 := ⟨Int.emod_nonneg _ (by decide), Int.emod_lt_of_pos _ (by decide)⟩
def U32 (x : Int) : Prop := 0 ≤ x ∧ x ≤ 4294967295
theorem wf_u32 {n : Int} (h : (Lit.int .u32 n).wf = true) : U32 n := by
  have : (decide (IntKind.u32.min ≤ n) && decide (n ≤ IntKind.u32.max)) = true := h
  simp only [Bool.and_eq_true, decide_eq_true_eq] at this
  exact this
/-- The number from -2^31 on that a residue stands for. -/
def sg32 (x : Int) : Int := if x % 4294967296 < 2147483648 then x % 4294967296 else x % 4294967296 - 4294967296
theorem wrap_i32 (x : Int) : IntKind.i32.wrap x = sg32 x := by
  rw [IntKind.wrap_i32]
  unfold sg32
  split <;> omega
def nco (a s : Int) : AV := .agg [.int .u32 a, .int .u32 s]
section
variable {C : Ctx}
theorem Advance_spec (hC : Has C T143) {a s n : Int} {h : Heap} : ACalls C 143 [.int .u32 a, .int .u32 s, .int .i64 n] h (fun r h' => r = .int .u32 (phI a s n) ∧ h' = h) := by
  (refine calls_intro (hC.body (by decide) tab143) (Nat.le_of_ble_eq_true rfl) ?_); (show wp C _ none B143.code _ _); (simp only [B143]); simp -implicitDefEqProofs (disch := first | assumption | decide | omega | (simp -implicitDefEqProofs only [wpD1] <;> omega) | (refine not_in_one ?_; first | omega | (simp -implicitDefEqProofs only [wpD1] <;> omega) | fail) | (simp -implicitDefEqProofs only [wpD2] <;> assumption) | ((repeat (first | exact HSub.refl _ | assumption | refine HSub.push ?_ _ | refine HSub.reserve ?_ _ | refine HSub.put ?_ (by omega) _)); done) | fail) only [↓wpPre, wpPost, wpPoly, Int.reduceToNat, Int.reducePow, Int.reduceMul, Int.reduceAdd, Int.reduceSub, Int.reduceNeg, Nat.reduceAdd, Nat.reduceMul, Nat.reducePow, Int.reduceLT, Int.reduceLE, Int.reduceEq, Nat.reduceEqDiff, wrap_u32]
  unfold phI
  rw [emod_add_r]
theorem phase_spec (hC : Has C T132) {a s n : Int} {h : Heap} : ACalls C 132 [nco a s, .int .i64 n] h (fun r h' => r = .int .u32 (phI a s n) ∧ h' = h) := by
  refine ACalls.gc0 (P := fun r h' => r = .int .u32 (phI a s n) ∧ HSub h h') ?_ (fun r h' hp => ⟨by rw [hp.1]; trivial, hp.2, hp.1, rfl⟩)
  unfold nco
  (refine calls_intro (hC.body (by decide) tab132) (Nat.le_of_ble_eq_true rfl) ?_); (show wp C _ none B132.code _ _); (simp only [B132]); simp -implicitDefEqProofs (disch := first | assumption | decide | omega | (simp -implicitDefEqProofs only [wpD1] <;> omega) | (refine not_in_one ?_; first | omega | (simp -implicitDefEqProofs only [wpD1] <;> omega) | fail) | (simp -implicitDefEqProofs only [wpD2] <;> assumption) | ((repeat (first | exact HSub.refl _ | assumption | refine HSub.push ?_ _ | refine HSub.reserve ?_ _ | refine HSub.put ?_ (by omega) _)); done) | fail) only [↓wpPre, wpPost, wpPoly, Int.reduceToNat, Int.reducePow, Int.reduceMul, Int.reduceAdd, Int.reduceSub, Int.reduceNeg, Nat.reduceAdd, Nat.reduceMul, Nat.reducePow, Int.reduceLT, Int.reduceLE, Int.reduceEq, Nat.reduceEqDiff]
  refine ACallsK.eq (Advance_spec (hC.sub (T' := T143) (by decide))) ?_
  simp -implicitDefEqProofs (disch := first | assumption | decide | omega | (simp -implicitDefEqProofs only [wpD1] <;> omega) | (refine not_in_one ?_; first | omega | (simp -implicitDefEqProofs only [wpD1] <;> omega) | fail) | (simp -implicitDefEqProofs only [wpD2] <;> assumption) | ((repeat (first | exact HSub.refl _ | assumption | refine HSub.push ?_ _ | refine HSub.reserve ?_ _ | refine HSub.put ?_ (by omega) _)); done) | fail) only [↓wpPre, wpPost, wpPoly, Int.reduceToNat, Int.reducePow, Int.reduceMul, Int.reduceAdd, Int.reduceSub, Int.reduceNeg, Nat.reduceAdd, Nat.reduceMul, Nat.reducePow, Int.reduceLT, Int.reduceLE, Int.reduceEq, Nat.reduceEqDiff]
  exact HSub.push1 _ _
theorem Phase_spec (hC : Has C T119) {a s n : Int} {h : Heap} : ACalls C 119 [nco a s, .int .i64 n] h (fun r h' => r = .int .u32 (phI a s n) ∧ h' = h) := by
  refine ACalls.gc0 (P := fun r h' => r = .int .u32 (phI a s n) ∧ HSub h h') ?_ (fun r h' hp => ⟨by rw [hp.1]; trivial, hp.2, hp.1, rfl⟩)
  have hp := fun h => phase_spec (a := a) (s := s) (n := n) (h := h) (hC.sub (T' := T132) (by decide))
  unfold nco at hp ⊢
  (refine calls_intro (hC.body (by decide) tab119) (Nat.le_of_ble_eq_true rfl) ?_); (show wp C _ none B119.code _ _); (simp only [B119]); simp -implicitDefEqProofs (disch := first | assumption | decide | omega | (simp -implicitDefEqProofs only [wpD1] <;> omega) | (refine not_in_one ?_; first | omega | (simp -implicitDefEqProofs only [wpD1] <;> omega) | fail) | (simp -implicitDefEqProofs only [wpD2] <;> assumption) | ((repeat (first | exact HSub.refl _ | assumption | refine HSub.push ?_ _ | refine HSub.reserve ?_ _ | refine HSub.put ?_ (by omega) _)); done) | fail) only [↓wpPre, wpPost, wpPoly, Int.reduceToNat, Int.reducePow, Int.reduceMul, Int.reduceAdd, Int.reduceSub, Int.reduceNeg, Nat.reduceAdd, Nat.reduceMul, Nat.reducePow, Int.reduceLT, Int.reduceLE, Int.reduceEq, Nat.reduceEqDiff]
  refine ACallsK.eq (hp _) ?_
  simp -implicitDefEqProofs (disch := first | assumption | decide | omega | (simp -implicitDefEqProofs only [wpD1] <;> omega) | (refine not_in_one ?_; first | omega | (simp -implicitDefEqProofs only [wpD1] <;> omega) | fail) | (simp -implicitDefEqProofs only [wpD2] <;> assumption) | ((repeat (first | exact HSub.refl _ | assumption | refine HSub.push ?_ _ | refine HSub.reserve ?_ _ | refine HSub.put ?_ (by omega) _)); done) | fail) only [↓wpPre, wpPost, wpPoly, Int.reduceToNat, Int.reducePow, Int.reduceMul, Int.reduceAdd, Int.reduceSub, Int.reduceNeg, Nat.reduceAdd, Nat.reduceMul, Nat.reducePow, Int.reduceLT, Int.reduceLE, Int.reduceEq, Nat.reduceEqDiff]
  exact HSub.push1 _ _
theorem Delta_spec (hC : Has C T133) {a b : Int} {h : Heap} : ACalls C 133 [.int .u32 a, .int .u32 b] h (fun r h' => r = .int .i64 (sg32 ((a - b) % 4294967296)) ∧ h' = h) := by
  have h1 := Int.emod_nonneg ((a - b) % 4294967296) (show (4294967296 : Int) ≠ 0 by decide)
  have h2 := Int.emod_lt_of_pos ((a - b) % 4294967296) (show (0 : Int) < 4294967296 by decide)
  have h3 : -2147483648 ≤ sg32 ((a - b) % 4294967296) ∧ sg32 ((a - b) % 4294967296) ≤ 2147483647 := by unfold sg32; split <;> omega
  have h4 : IntKind.i64.wrap (sg32 ((a - b) % 4294967296)) = sg32 ((a - b) % 4294967296) := w_i64 (by omega)
  (refine calls_intro (hC.body (by decide) tab133) (Nat.le_of_ble_eq_true rfl) ?_); (show wp C _ none B133.code _ _); (simp only [B133]); simp -implicitDefEqProofs (disch := first | assumption | decide | omega | (simp -implicitDefEqProofs only [wpD1] <;> omega) | (refine not_in_one ?_; first | omega | (simp -implicitDefEqProofs only [wpD1] <;> omega) | fail) | (simp -implicitDefEqProofs only [wpD2] <;> assumption) | ((repeat (first | exact HSub.refl _ | assumption | refine HSub.push ?_ _ | refine HSub.reserve ?_ _ | refine HSub.put ?_ (by omega) _)); done) | fail) only [↓wpPre, wpPost, wpPoly, Int.reduceToNat, Int.reducePow, Int.reduceMul, Int.reduceAdd, Int.reduceSub, Int.reduceNeg, Nat.reduceAdd, Nat.reduceMul, Nat.reducePow, Int.reduceLT, Int.reduceLE, Int.reduceEq, Nat.reduceEqDiff, wrap_u32, wrap_i32, h4]
theorem Later_spec (hC : Has C T127) {a s n : Int} {h : Heap} : ACalls C 127 [nco a s, .int .i64 n] h (fun r h' => r = nco (phI a s n) s ∧ h' = h) := by
  refine ACalls.gc0 (P := fun r h' => r = nco (phI a s n) s ∧ HSub h h') ?_ (fun r h' hp => ⟨by rw [hp.1]; simp [nco, AV.free, AV.bel, AV.bels], hp.2, hp.1, rfl⟩)
  have hp := fun h => Phase_spec (a := a) (s := s) (n := n) (h := h) (hC.sub (T' := T119) (by decide))
  unfold nco at hp ⊢
  (refine calls_intro (hC.body (by decide) tab127) (Nat.le_of_ble_eq_true rfl) ?_); (show wp C _ none B127.code _ _); (simp only [B127]); simp -implicitDefEqProofs (disch := first | assumption | decide | omega | (simp -implicitDefEqProofs only [wpD1] <;> omega) | (refine not_in_one ?_; first | omega | (simp -implicitDefEqProofs only [wpD1] <;> omega) | fail) | (simp -implicitDefEqProofs only [wpD2] <;> assumption) | ((repeat (first | exact HSub.refl _ | assumption | refine HSub.push ?_ _ | refine HSub.reserve ?_ _ | refine HSub.put ?_ (by omega) _)); done) | fail) only [↓wpPre, wpPost, wpPoly, Int.reduceToNat, Int.reducePow, Int.reduceMul, Int.reduceAdd, Int.reduceSub, Int.reduceNeg, Nat.reduceAdd, Nat.reduceMul, Nat.reducePow, Int.reduceLT, Int.reduceLE, Int.reduceEq, Nat.reduceEqDiff]
  refine ACallsK.eq (hp _) ?_
  simp -implicitDefEqProofs (disch := first | assumption | decide | omega | (simp -implicitDefEqProofs only [wpD1] <;> omega) | (refine not_in_one ?_; first | omega | (simp -implicitDefEqProofs only [wpD1] <;> omega) | fail) | (simp -implicitDefEqProofs only [wpD2] <;> assumption) | ((repeat (first | exact HSub.refl _ | assumption | refine HSub.push ?_ _ | refine HSub.reserve ?_ _ | refine HSub.put ?_ (by omega) _)); done) | fail) only [↓wpPre, wpPost, wpPoly, Int.reduceToNat, Int.reducePow, Int.reduceMul, Int.reduceAdd, Int.reduceSub, Int.reduceNeg, Nat.reduceAdd, Nat.reduceMul, Nat.reducePow, Int.reduceLT, Int.reduceLE, Int.reduceEq, Nat.reduceEqDiff]
  exact (HSub.push1 _ _).push _
theorem Apart_spec (hC : Has C T120) {a s b t n : Int} {h : Heap} : ACalls C 120 [nco a s, nco b t, .int .i64 n] h (fun r h' => r = .int .i64 (sg32 ((phI a s n - phI b t n) % 4294967296)) ∧ h' = h) := by
  refine ACalls.gc0 (P := fun r h' => r = .int .i64 (sg32 ((phI a s n - phI b t n) % 4294967296)) ∧ HSub h h') ?_ (fun r h' hp => ⟨by rw [hp.1]; trivial, hp.2, hp.1, rfl⟩)
  have h1 := fun h => phase_spec (a := a) (s := s) (n := n) (h := h) (hC.sub (T' := T132) (by decide))
  have h2 := fun h => phase_spec (a := b) (s := t) (n := n) (h := h) (hC.sub (T' := T132) (by decide))
  unfold nco at h1 h2 ⊢
  (refine calls_intro (hC.body (by decide) tab120) (Nat.le_of_ble_eq_true rfl) ?_); (show wp C _ none B120.code _ _); (simp only [B120]); simp -implicitDefEqProofs (disch := first | assumption | decide | omega | (simp -implicitDefEqProofs only [wpD1] <;> omega) | (refine not_in_one ?_; first | omega | (simp -implicitDefEqProofs only [wpD1] <;> omega) | fail) | (simp -implicitDefEqProofs only [wpD2] <;> assumption) | ((repeat (first | exact HSub.refl _ | assumption | refine HSub.push ?_ _ | refine HSub.reserve ?_ _ | refine HSub.put ?_ (by omega) _)); done) | fail) only [↓wpPre, wpPost, wpPoly, Int.reduceToNat, Int.reducePow, Int.reduceMul, Int.reduceAdd, Int.reduceSub, Int.reduceNeg, Nat.reduceAdd, Nat.reduceMul, Nat.reducePow, Int.reduceLT, Int.reduceLE, Int.reduceEq, Nat.reduceEqDiff]
  refine ACallsK.eq (h1 _) ?_
  simp -implicitDefEqProofs (disch := first | assumption | decide | omega | (simp -implicitDefEqProofs only [wpD1] <;> omega) | (refine not_in_one ?_; first | omega | (simp -implicitDefEqProofs only [wpD1] <;> omega) | fail) | (simp -implicitDefEqProofs only [wpD2] <;> assumption) | ((repeat (first | exact HSub.refl _ | assumption | refine HSub.push ?_ _ | refine HSub.reserve ?_ _ | refine HSub.put ?_ (by omega) _)); done) | fail) only [↓wpPre, wpPost, wpPoly, Int.reduceToNat, Int.reducePow, Int.reduceMul, Int.reduceAdd, Int.reduceSub, Int.reduceNeg, Nat.reduceAdd, Nat.reduceMul, Nat.reducePow, Int.reduceLT, Int.reduceLE, Int.reduceEq, Nat.reduceEqDiff]
  refine ACallsK.eq (h2 _) ?_
  simp -implicitDefEqProofs (disch := first | assumption | decide | omega | (simp -implicitDefEqProofs only [wpD1] <;> omega) | (refine not_in_one ?_; first | omega | (simp -implicitDefEqProofs only [wpD1] <;> omega) | fail) | (simp -implicitDefEqProofs only [wpD2] <;> assumption) | ((repeat (first | exact HSub.refl _ | assumption | refine HSub.push ?_ _ | refine HSub.reserve ?_ _ | refine HSub.put ?_ (by omega) _)); done) | fail) only [↓wpPre, wpPost, wpPoly, Int.reduceToNat, Int.reducePow, Int.reduceMul, Int.reduceAdd, Int.reduceSub, Int.reduceNeg, Nat.reduceAdd, Nat.reduceMul, Nat.reducePow, Int.reduceLT, Int.reduceLE, Int.reduceEq, Nat.reduceEqDiff]
  refine ACallsK.eq (Delta_spec (hC.sub (T' := T133) (by decide))) ?_
  simp -implicitDefEqProofs (disch := first | assumption | decide | omega | (simp -implicitDefEqProofs only [wpD1] <;> omega) | (refine not_in_one ?_; first | omega | (simp -implicitDefEqProofs only [wpD1] <;> omega) | fail) | (simp -implicitDefEqProofs only [wpD2] <;> assumption) | ((repeat (first | exact HSub.refl _ | assumption | refine HSub.push ?_ _ | refine HSub.reserve ?_ _ | refine HSub.put ?_ (by omega) _)); done) | fail) only [↓wpPre, wpPost, wpPoly, Int.reduceToNat, Int.reducePow, Int.reduceMul, Int.reduceAdd, Int.reduceSub, Int.reduceNeg, Nat.reduceAdd, Nat.reduceMul, Nat.reducePow, Int.reduceLT, Int.reduceLE, Int.reduceEq, Nat.reduceEqDiff]
  exact (HSub.push1 _ _).push _
end
end Go.Ae

/- The statement on rounds of layer 11. -/
set_option linter.unusedSimpArgs false
set_option linter.unusedVariables false
namespace Go.Ae
theorem stepQ_err {a p : Int} (hp : 1 ≤ p) : -p ≤ 2 * (stepQ a p * p - a * 4294967296) ∧ 2 * (stepQ a p * p - a * 4294967296) ≤ p := by
  have h1 := Int.mul_ediv_add_emod (a * 4294967296) p
  have h2 := Int.emod_nonneg (a * 4294967296) (show p ≠ 0 by omega)
  have h3 := Int.emod_lt_of_pos (a * 4294967296) (show 0 < p by omega)
  unfold stepQ
  split
  · rw [Int.add_mul, Int.one_mul, Int.mul_comm (a * 4294967296 / p) p]; omega
  · rw [Int.mul_comm (a * 4294967296 / p) p]; omega
/-- The rounded step, not yet a residue. -/
def stepZ (t p : Int) : Int := if t < 0 then -stepQ (-t) p else stepQ t p
theorem stepZ_err {t p : Int} (hp : 1 ≤ p) : -p ≤ 2 * (stepZ t p * p - t * 4294967296) ∧ 2 * (stepZ t p * p - t * 4294967296) ≤ p := by
  unfold stepZ
  split
  · have := stepQ_err (a := -t) hp
    rw [Int.neg_mul]
    have e : -t * 4294967296 = -(t * 4294967296) := Int.neg_mul _ _
    omega
  · exact stepQ_err hp
theorem resid_mul (Q p t : Int) : ∃ z, Q % 4294967296 * p - t * 4294967296 = (Q * p - t * 4294967296) + z * (p * 4294967296) := by
  refine ⟨-(Q / 4294967296), ?_⟩
  have h := Int.mul_ediv_add_emod Q 4294967296
  have h2 : Q * p = 4294967296 * (Q / 4294967296) * p + Q % 4294967296 * p := by rw [← Int.add_mul, h]
  have h3 : -(Q / 4294967296) * (p * 4294967296) = -(4294967296 * (Q / 4294967296) * p) := by
    rw [Int.neg_mul]; congr 1
    simp only [Int.mul_comm, Int.mul_left_comm]
  rw [h3]; omega
section
variable {C : Ctx}
set_option maxHeartbeats 1000000 in
theorem NcoRounds_law (hC : Has C T112) {t0 p0 ph : Int} {h : Heap} (ht0 : In64 t0) (hp0 : In64 p0) (hph : U32 ph) : ACalls C 112 [.int .i64 t0, .int .i64 p0, .int .u32 ph] h (fun r _ => r = .bool true) := by
  have ht1 := Int.emod_nonneg t0 (show (2001 : Int) ≠ 0 by decide)
  have ht2 := Int.emod_lt_of_pos t0 (show (0 : Int) < 2001 by decide)
  have hp1 := Int.emod_nonneg p0 (show (1000000 : Int) ≠ 0 by decide)
  have hp2 := Int.emod_lt_of_pos p0 (show (0 : Int) < 1000000 by decide)
  obtain ⟨T, hT⟩ : ∃ T, T = t0 % 2001 - 1000 := ⟨_, rfl⟩
  obtain ⟨p, hp⟩ : ∃ p, p = 1 + p0 % 1000000 := ⟨_, rfl⟩
  have hTr : -1000 ≤ T ∧ T ≤ 1000 := by omega
  have hpr : 1 ≤ p ∧ p ≤ 1000000 := by omega
  have eS : StepI T p = tupU (stepZ T p % 4294967296) 0 := by unfold StepI stepZ; rw [if_neg (by unfold stepBad; omega)]
  have St := fun h => Step_spec (t := T) (p := p) (h := h) (hC.sub (T' := T114) (by decide)) (by unfold In64; omega) (by unfold In64; omega)
  rw [eS] at St
  have herr := stepZ_err (t := T) (p := p) hpr.1
  have hres := resid_mul (stepZ T p) p T
  obtain ⟨z, hz⟩ := hres
  have s1 := Int.emod_nonneg (stepZ T p) (show (4294967296 : Int) ≠ 0 by decide)
  have s2 := Int.emod_lt_of_pos (stepZ T p) (show (0 : Int) < 4294967296 by decide)
  obtain ⟨e, he⟩ : ∃ e, e = stepZ T p * p - T * 4294967296 := ⟨_, rfl⟩
  rw [← he] at hz herr
  obtain ⟨s, hs⟩ : ∃ s, s = stepZ T p % 4294967296 := ⟨_, rfl⟩
  rw [← hs] at hz s1 s2 St
  have hsp : 0 ≤ s * p := Int.mul_nonneg s1 (by omega)
  have hsp2 : s * p ≤ 4294967295 * 1000000 := Int.mul_le_mul (by omega) hpr.2 (by omega) (by omega)
  have hTp : -4294967296000 ≤ T * 4294967296 ∧ T * 4294967296 ≤ 4294967296000 := by omega
  have hd : (s * p - T * 4294967296) % (p * 4294967296) = if 0 ≤ e then e else e + p * 4294967296 := by
    rw [hz, Int.add_mul_emod_self_right]
    split
    · exact Int.emod_eq_of_lt (by omega) (by omega)
    · rw [← Int.add_emod_right]; exact Int.emod_eq_of_lt (by omega) (by omega)
  have Td := fun h => Turn_spec (x := s * p - T * 4294967296) (n := p * 4294967296) (h := h) (hC.sub (T' := T23) (by decide)) (by unfold In64; omega) (by omega)
  rw [hd] at Td
  have T1 := fun h => Turn_spec (x := t0) (n := 2001) (h := h) (hC.sub (T' := T23) (by decide)) ht0 (by decide)
  have T2 := fun h => Turn_spec (x := p0) (n := 1000000) (h := h) (hC.sub (T' := T23) (by decide)) hp0 (by decide)
  have hLa := fun h => Later_spec (a := ph) (s := s) (n := p) (h := h) (hC.sub (T' := T127) (by decide))
  have hAp := fun h => Apart_spec (a := phI ph s p) (s := s) (b := ph) (t := 0) (n := 0) (h := h) (hC.sub (T' := T120) (by decide))
  have hval : sg32 ((phI (phI ph s p) s 0 - phI ph 0 0) % 4294967296) = e := by
    have h1 : (phI (phI ph s p) s 0 - phI ph 0 0) % 4294967296 = e % 4294967296 := by
      unfold phI
      rw [show (0 : Int) % 4294967296 = 0 by decide, Int.mul_zero, Int.mul_zero, Int.add_zero, Int.add_zero, Int.emod_emod, ← Int.sub_emod, Int.emod_eq_of_lt (a := p) (by omega) (by omega)]
      have : s * p = e + T * 4294967296 + z * p * 4294967296 := by rw [Int.mul_assoc]; omega
      rw [this, show ph + (e + T * 4294967296 + z * p * 4294967296) - ph = e + (T + z * p) * 4294967296 by rw [Int.add_mul]; omega, Int.add_mul_emod_self_right]
    unfold sg32
    rw [Int.emod_emod, h1]
    by_cases c : 0 ≤ e
    · rw [Int.emod_eq_of_lt c (by omega), if_pos (by omega)]
    · have : e % 4294967296 = e + 4294967296 := by rw [← Int.add_emod_right]; exact Int.emod_eq_of_lt (by omega) (by omega)
      rw [this, if_neg (by omega)]; omega
  rw [hval] at hAp
  unfold nco at hLa hAp
  (refine calls_intro (hC.body (by decide) tab112) (Nat.le_of_ble_eq_true rfl) ?_); (show wp C _ none B112.code _ _); (simp only [B112]); simp -implicitDefEqProofs (disch := first | assumption | decide | omega | (simp -implicitDefEqProofs only [wpD1] <;> omega) | (refine not_in_one ?_; first | omega | (simp -implicitDefEqProofs only [wpD1] <;> omega) | fail) | (simp -implicitDefEqProofs only [wpD2] <;> assumption) | ((repeat (first | exact HSub.refl _ | assumption | refine HSub.push ?_ _ | refine HSub.reserve ?_ _ | refine HSub.put ?_ (by omega) _)); done) | fail) only [↓wpPre, wpPost, wpPoly, Int.reduceToNat, Int.reducePow, Int.reduceMul, Int.reduceAdd, Int.reduceSub, Int.reduceNeg, Nat.reduceAdd, Nat.reduceMul, Nat.reducePow, Int.reduceLT, Int.reduceLE, Int.reduceEq, Nat.reduceEqDiff]
  refine ACallsK.eq (known11_spec (hC.sub (T' := T108) (by decide))) ?_
  simp -implicitDefEqProofs (disch := first | assumption | decide | omega | (simp -implicitDefEqProofs only [wpD1] <;> omega) | (refine not_in_one ?_; first | omega | (simp -implicitDefEqProofs only [wpD1] <;> omega) | fail) | (simp -implicitDefEqProofs only [wpD2] <;> assumption) | ((repeat (first | exact HSub.refl _ | assumption | refine HSub.push ?_ _ | refine HSub.reserve ?_ _ | refine HSub.put ?_ (by omega) _)); done) | fail) only [↓wpPre, wpPost, wpPoly, Int.reduceToNat, Int.reducePow, Int.reduceMul, Int.reduceAdd, Int.reduceSub, Int.reduceNeg, Nat.reduceAdd, Nat.reduceMul, Nat.reducePow, Int.reduceLT, Int.reduceLE, Int.reduceEq, Nat.reduceEqDiff]
  refine ACallsK.eq (T1 _) ?_
  simp -implicitDefEqProofs (disch := first | assumption | decide | omega | (simp -implicitDefEqProofs only [wpD1] <;> omega) | (refine not_in_one ?_; first | omega | (simp -implicitDefEqProofs only [wpD1] <;> omega) | fail) | (simp -implicitDefEqProofs only [wpD2] <;> assumption) | ((repeat (first | exact HSub.refl _ | assumption | refine HSub.push ?_ _ | refine HSub.reserve ?_ _ | refine HSub.put ?_ (by omega) _)); done) | fail) only [↓wpPre, wpPost, wpPoly, Int.reduceToNat, Int.reducePow, Int.reduceMul, Int.reduceAdd, Int.reduceSub, Int.reduceNeg, Nat.reduceAdd, Nat.reduceMul, Nat.reducePow, Int.reduceLT, Int.reduceLE, Int.reduceEq, Nat.reduceEqDiff]
  refine ACallsK.eq (T2 _) ?_
  simp -implicitDefEqProofs (disch := first | assumption | decide | omega | (simp -implicitDefEqProofs only [wpD1] <;> omega) | (refine not_in_one ?_; first | omega | (simp -implicitDefEqProofs only [wpD1] <;> omega) | fail) | (simp -implicitDefEqProofs only [wpD2] <;> assumption) | ((repeat (first | exact HSub.refl _ | assumption | refine HSub.push ?_ _ | refine HSub.reserve ?_ _ | refine HSub.put ?_ (by omega) _)); done) | fail) only [↓wpPre, wpPost, wpPoly, Int.reduceToNat, Int.reducePow, Int.reduceMul, Int.reduceAdd, Int.reduceSub, Int.reduceNeg, Nat.reduceAdd, Nat.reduceMul, Nat.reducePow, Int.reduceLT, Int.reduceLE, Int.reduceEq, Nat.reduceEqDiff, ← hT, ← hp]
  refine ACallsK.eq (St _) ?_
  simp -implicitDefEqProofs (disch := first | assumption | decide | omega | (simp -implicitDefEqProofs only [wpD1] <;> omega) | (refine not_in_one ?_; first | omega | (simp -implicitDefEqProofs only [wpD1] <;> omega) | fail) | (simp -implicitDefEqProofs only [wpD2] <;> assumption) | ((repeat (first | exact HSub.refl _ | assumption | refine HSub.push ?_ _ | refine HSub.reserve ?_ _ | refine HSub.put ?_ (by omega) _)); done) | fail) only [↓wpPre, wpPost, wpPoly, Int.reduceToNat, Int.reducePow, Int.reduceMul, Int.reduceAdd, Int.reduceSub, Int.reduceNeg, Nat.reduceAdd, Nat.reduceMul, Nat.reducePow, Int.reduceLT, Int.reduceLE, Int.reduceEq, Nat.reduceEqDiff, tupU]
  refine ACallsK.eq (Td _) ?_
  by_cases c : 0 ≤ e
  · have hd1 : (if 0 ≤ e then e else e + p * 4294967296) = e := if_pos c
    simp -implicitDefEqProofs (disch := first | assumption | decide | omega | (simp -implicitDefEqProofs only [wpD1] <;> omega) | (refine not_in_one ?_; first | omega | (simp -implicitDefEqProofs only [wpD1] <;> omega) | fail) | (simp -implicitDefEqProofs only [wpD2] <;> assumption) | ((repeat (first | exact HSub.refl _ | assumption | refine HSub.push ?_ _ | refine HSub.reserve ?_ _ | refine HSub.put ?_ (by omega) _)); done) | fail) only [↓wpPre, wpPost, wpPoly, Int.reduceToNat, Int.reducePow, Int.reduceMul, Int.reduceAdd, Int.reduceSub, Int.reduceNeg, Nat.reduceAdd, Nat.reduceMul, Nat.reducePow, Int.reduceLT, Int.reduceLE, Int.reduceEq, Nat.reduceEqDiff, hd1]
    refine ACallsK.eq (hLa _) ?_
    simp -implicitDefEqProofs (disch := first | assumption | decide | omega | (simp -implicitDefEqProofs only [wpD1] <;> omega) | (refine not_in_one ?_; first | omega | (simp -implicitDefEqProofs only [wpD1] <;> omega) | fail) | (simp -implicitDefEqProofs only [wpD2] <;> assumption) | ((repeat (first | exact HSub.refl _ | assumption | refine HSub.push ?_ _ | refine HSub.reserve ?_ _ | refine HSub.put ?_ (by omega) _)); done) | fail) only [↓wpPre, wpPost, wpPoly, Int.reduceToNat, Int.reducePow, Int.reduceMul, Int.reduceAdd, Int.reduceSub, Int.reduceNeg, Nat.reduceAdd, Nat.reduceMul, Nat.reducePow, Int.reduceLT, Int.reduceLE, Int.reduceEq, Nat.reduceEqDiff]
    refine ACallsK.eq (hAp _) ?_
    simp -implicitDefEqProofs (disch := first | assumption | decide | omega | (simp -implicitDefEqProofs only [wpD1] <;> omega) | (refine not_in_one ?_; first | omega | (simp -implicitDefEqProofs only [wpD1] <;> omega) | fail) | (simp -implicitDefEqProofs only [wpD2] <;> assumption) | ((repeat (first | exact HSub.refl _ | assumption | refine HSub.push ?_ _ | refine HSub.reserve ?_ _ | refine HSub.put ?_ (by omega) _)); done) | fail) only [↓wpPre, wpPost, wpPoly, Int.reduceToNat, Int.reducePow, Int.reduceMul, Int.reduceAdd, Int.reduceSub, Int.reduceNeg, Nat.reduceAdd, Nat.reduceMul, Nat.reducePow, Int.reduceLT, Int.reduceLE, Int.reduceEq, Nat.reduceEqDiff]
    have hfin : max e (0 - e) ≤ (p + 1) / 2 := by omega
    rw [decide_eq_true hfin]
  · have hd1 : (if 0 ≤ e then e else e + p * 4294967296) = e + p * 4294967296 := if_neg c
    simp -implicitDefEqProofs (disch := first | assumption | decide | omega | (simp -implicitDefEqProofs only [wpD1] <;> omega) | (refine not_in_one ?_; first | omega | (simp -implicitDefEqProofs only [wpD1] <;> omega) | fail) | (simp -implicitDefEqProofs only [wpD2] <;> assumption) | ((repeat (first | exact HSub.refl _ | assumption | refine HSub.push ?_ _ | refine HSub.reserve ?_ _ | refine HSub.put ?_ (by omega) _)); done) | fail) only [↓wpPre, wpPost, wpPoly, Int.reduceToNat, Int.reducePow, Int.reduceMul, Int.reduceAdd, Int.reduceSub, Int.reduceNeg, Nat.reduceAdd, Nat.reduceMul, Nat.reducePow, Int.reduceLT, Int.reduceLE, Int.reduceEq, Nat.reduceEqDiff, hd1]
    refine ACallsK.eq (hLa _) ?_
    simp -implicitDefEqProofs (disch := first | assumption | decide | omega | (simp -implicitDefEqProofs only [wpD1] <;> omega) | (refine not_in_one ?_; first | omega | (simp -implicitDefEqProofs only [wpD1] <;> omega) | fail) | (simp -implicitDefEqProofs only [wpD2] <;> assumption) | ((repeat (first | exact HSub.refl _ | assumption | refine HSub.push ?_ _ | refine HSub.reserve ?_ _ | refine HSub.put ?_ (by omega) _)); done) | fail) only [↓wpPre, wpPost, wpPoly, Int.reduceToNat, Int.reducePow, Int.reduceMul, Int.reduceAdd, Int.reduceSub, Int.reduceNeg, Nat.reduceAdd, Nat.reduceMul, Nat.reducePow, Int.reduceLT, Int.reduceLE, Int.reduceEq, Nat.reduceEqDiff]
    refine ACallsK.eq (hAp _) ?_
    simp -implicitDefEqProofs (disch := first | assumption | decide | omega | (simp -implicitDefEqProofs only [wpD1] <;> omega) | (refine not_in_one ?_; first | omega | (simp -implicitDefEqProofs only [wpD1] <;> omega) | fail) | (simp -implicitDefEqProofs only [wpD2] <;> assumption) | ((repeat (first | exact HSub.refl _ | assumption | refine HSub.push ?_ _ | refine HSub.reserve ?_ _ | refine HSub.put ?_ (by omega) _)); done) | fail) only [↓wpPre, wpPost, wpPoly, Int.reduceToNat, Int.reducePow, Int.reduceMul, Int.reduceAdd, Int.reduceSub, Int.reduceNeg, Nat.reduceAdd, Nat.reduceMul, Nat.reducePow, Int.reduceLT, Int.reduceLE, Int.reduceEq, Nat.reduceEqDiff]
    have hfin : max e (0 - e) ≤ (p + 1) / 2 := by omega
    rw [decide_eq_true hfin]
end
end Go.Ae
