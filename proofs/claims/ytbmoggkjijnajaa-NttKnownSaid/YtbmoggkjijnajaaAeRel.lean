/- How an abstract heap stands for a world, and the steps that keep it so: a new block, a written row, a draw. -/
import Derived.Test.YtbmoggkjijnajaaAeLower
import Derived.WalkKit
namespace Go.Ae

structure Ctx where
  P : Program
  lk : Nat → FuncId
  inv : FuncId → Option Nat
  hinv : ∀ f g, inv f = some g → lk g = f
  mixed : P.follows .mixedOrders = true

def Ctx.body (C : Ctx) (g : Nat) : Option ABody := lowerFn C.P C.inv (C.lk g)

def Out.code : Out → Option Code
  | .normal => none
  | .exit id => some (.exit id)
  | .ret => some .ret

/-- What a block stands for. -/
def BlkRel (C : Ctx) (env : Env) (w : World) (e : EB) : ABlk → Prop
  | .cells vs false _ => ∀ k v, vs[k]? = some v → w.cell? ⟨e.blk, e.sh + k, none⟩ = some (v.val C.lk env)
  | .cells vs true u => ∃ cur t, w.heap[e.blk]? = some (.cells cur t (0, 0)) ∧ (∀ k v, vs[k]? = some v → cur[e.sh + k]? = some (v.val C.lk env)) ∧
      (0 < u → vs.length ≤ e.cap * u ∧ e.sh + e.cap * u ≤ cur.size)
  | .loop r => ∃ fn tmps params assign body, w.heap[e.blk]? = some (.loop { state := r.state, pending := r.pend.bind Out.code, fn, tmps, params, assign, body, defers := (env r.defers).blk }) ∧
      tmps.size = r.nt ∧ (∀ s, tmps.getD s undef = (r.t s).val C.lk env) ∧ params.toList = r.params ∧ (∀ p ∈ r.params, p < r.nt) ∧
      r.assign = lowerCode C.P C.inv r.nt assign ∧ r.body = lowerCode C.P C.inv r.nt body ∧ r.pend ≠ some .normal
  | .defd o => w.heap[e.blk]? = some (.deferred (if o then some [] else none))
  | .dead => True

/-- The rows that stay as they are; and those of them that no block stands for. -/
structure Keep where
  no : Nat → Prop
  hide : Nat → Prop

instance : CoeFun Keep (fun _ => Nat → Prop) := ⟨Keep.no⟩

structure Rel (C : Ctx) (keep : Keep) (env : Env) (h : Heap) (w : World) : Prop where
  lt : ∀ i b, h.get i = some b → (env i).blk < w.heap.size
  blk : ∀ i b, h.get i = some b → BlkRel C env w (env i) b
  disj : ∀ i j b c, h.get i = some b → h.get j = some c → i ≠ j → b.wr = true → c ≠ .dead → (env j).blk ≠ (env i).blk
  bel : ∀ i b, h.get i = some b → b.bel h.ok
  kept : ∀ i b, h.get i = some b → b.wr = true → ¬ keep (env i).blk
  keepLt : ∀ r, keep r → r < w.heap.size
  hid : ∀ i b, h.get i = some b → b ≠ .dead → ¬ keep.hide (env i).blk
  hidLt : ∀ r, keep.hide r → r < w.heap.size

structure KeepW (keep : Keep) (w w' : World) : Prop where
  os : w'.os = w.os
  tape : w'.tape = w.tape
  output : w'.output = w.output
  size : w.heap.size ≤ w'.heap.size
  block : ∀ r, keep r → w'.heap[r]? = w.heap[r]?

theorem KeepW.refl (keep : Keep) (w : World) : KeepW keep w w := ⟨rfl, rfl, rfl, Nat.le_refl _, fun _ _ => rfl⟩
theorem KeepW.trans {keep : Keep} {a b c : World} (h : KeepW keep a b) (k : KeepW keep b c) : KeepW keep a c :=
  ⟨k.os.trans h.os, k.tape.trans h.tape, k.output.trans h.output, Nat.le_trans h.size k.size, fun r hr => (k.block r hr).trans (h.block r hr)⟩

/-- The heap has grown: what was there is still there, what was kept free is still free. -/
structure HLe (h h' : Heap) : Prop where
  size : h.size ≤ h'.size
  same : ∀ i, i < h.size → (h'.get i).isSome = (h.get i).isSome

theorem HLe.refl (h : Heap) : HLe h h := ⟨Nat.le_refl _, fun _ _ => rfl⟩
theorem HLe.trans {a b c : Heap} (h : HLe a b) (k : HLe b c) : HLe a c :=
  ⟨Nat.le_trans h.size k.size, fun i hi => (k.same i (Nat.lt_of_lt_of_le hi h.size)).trans (h.same i hi)⟩
theorem HLe.ok {h h' : Heap} (hl : HLe h h') {i : Nat} (hi : h.ok i) : h'.ok i := by
  have := hl.same i (Heap.lt_of_ok hi); simp only [Heap.ok] at *; rw [this]; exact hi

def Ext (h : Heap) (env env' : Env) : Prop := ∀ i, h.ok i → env' i = env i
theorem Ext.refl (h : Heap) (env : Env) : Ext h env env := fun _ _ => rfl
theorem Ext.trans {h h' : Heap} {a b c : Env} (e : Ext h a b) (hl : HLe h h') (e' : Ext h' b c) : Ext h a c := fun i hi => (e' i (hl.ok hi)).trans (e i hi)
theorem Ext.val {C : Ctx} {h : Heap} {env env' : Env} (e : Ext h env env') {v : AV} (hv : v.bel h.ok) : v.val C.lk env' = v.val C.lk env := val_congr e v hv

/-- A block stands for the same thing in a later environment and world, where its row has not turned. -/
theorem BlkRel.mono {C : Ctx} {h : Heap} {env env' : Env} {w w' : World} {e : EB} {b : ABlk} (x : Ext h env env') (hb : b.bel h.ok)
    (hw : w'.heap[e.blk]? = w.heap[e.blk]?) (r : BlkRel C env w e b) : BlkRel C env' w' e b := by
  cases b with
  | cells vs wr u =>
    cases wr with
    | false =>
      intro k v hk
      rw [x.val (hb v (List.mem_of_getElem? hk)), World.cell?_of_block (w := w) (w' := w') (a := ⟨e.blk, e.sh + k, none⟩) hw]
      exact r k v hk
    | true =>
      obtain ⟨cur, t, h1, h2, h3⟩ := r
      refine ⟨cur, t, by rw [hw]; exact h1, fun k v hk => ?_, h3⟩
      rw [x.val (hb v (List.mem_of_getElem? hk))]
      exact h2 k v hk
  | loop r' =>
    obtain ⟨fn, tmps, params, assign, body, h1, h2, h3, h4⟩ := r
    refine ⟨fn, tmps, params, assign, body, ?_, h2, fun s => ?_, h4⟩
    · rw [hw, h1, x _ hb.2]
    · rw [h3, x.val (hb.1 s)]
  | defd o => exact hw.trans r
  | dead => trivial

theorem ok_push {h : Heap} {b : ABlk} {i : Nat} : (h.push b).ok i ↔ i = h.size ∨ h.ok i := by
  simp only [Heap.ok, Heap.get_push]
  by_cases e : i = h.size <;> simp [e]
theorem ok_put {h : Heap} {n : Nat} (hn : n < h.size) {b : ABlk} {i : Nat} : (h.put n b).ok i ↔ i = n ∨ h.ok i := by
  simp only [Heap.ok, Heap.get_put _ _ _ _ hn]
  by_cases e : i = n <;> simp [e]

theorem room_spec {h : Heap} {n : Option Nat} (hr : h.room n = true) : h.get (h.nid n) = none := by
  cases n with
  | none => exact h.wf _ (Nat.le_refl _)
  | some n => simp [Heap.room] at hr; exact hr.1
theorem get_new {h : Heap} {n : Option Nat} (hr : h.room n = true) (b : ABlk) (i : Nat) : (h.new n b).get i = if i = h.nid n then some b else h.get i := by
  cases n with
  | none => rfl
  | some n => simp [Heap.room] at hr; exact Heap.get_put _ _ _ _ hr.2
theorem ok_new {h : Heap} {n : Option Nat} (hr : h.room n = true) {b : ABlk} {i : Nat} : (h.new n b).ok i ↔ i = h.nid n ∨ h.ok i := by
  simp only [Heap.ok, get_new hr]
  by_cases e : i = h.nid n <;> simp [e]
theorem hle_new {h : Heap} {n : Option Nat} (hr : h.room n = true) (hn : n = none) (b : ABlk) : HLe h (h.new n b) := by
  subst hn
  refine ⟨Nat.le_succ _, fun i hi => ?_⟩
  rw [get_new hr, if_neg (by simp [Heap.nid]; omega)]

/-- At a place kept for it the new block comes up; all else as in 'HLe'. -/
structure HGrow (h h' : Heap) : Prop where
  size : h.size ≤ h'.size
  same : ∀ i, h.ok i → h'.ok i

theorem HGrow.refl (h : Heap) : HGrow h h := ⟨Nat.le_refl _, fun _ => id⟩
theorem HGrow.trans {a b c : Heap} (h : HGrow a b) (k : HGrow b c) : HGrow a c := ⟨Nat.le_trans h.size k.size, fun i hi => k.same i (h.same i hi)⟩
theorem HLe.grow {h h' : Heap} (hl : HLe h h') : HGrow h h' := ⟨hl.size, fun _ hi => hl.ok hi⟩
theorem grow_new {h : Heap} {n : Option Nat} (hr : h.room n = true) (b : ABlk) : HGrow h (h.new n b) :=
  ⟨by cases n <;> simp [Heap.new], fun i hi => (ok_new hr).2 (.inr hi)⟩
theorem Ext.trans' {h h' : Heap} {a b c : Env} (e : Ext h a b) (hl : HGrow h h') (e' : Ext h' b c) : Ext h a c := fun i hi => (e' i (hl.same i hi)).trans (e i hi)

def updE (env : Env) (n : Nat) (e : EB) : Env := fun i => if i = n then e else env i
theorem ext_updE {h : Heap} {n : Nat} (hn : h.get n = none) (env : Env) (e : EB) : Ext h env (updE env n e) := fun i hi => by
  unfold updE
  rw [if_neg]
  intro x; subst x; simp [Heap.ok, hn] at hi

theorem heap_alloc_get (w : World) (o : Obj) (r : Nat) : (w.alloc o).heap[r]? = if r = w.heap.size then some o else w.heap[r]? := by
  show (w.heap.push o)[r]? = _
  rw [Array.getElem?_push]

/-- A new object: whatever it stands for in the new world. -/
theorem Rel.alloc {C : Ctx} {keep : Keep} {env : Env} {h : Heap} {w : World} (R : Rel C keep env h w) {n : Option Nat} (hr : h.room n = true) {b : ABlk} (e : EB) (he : e.blk = w.heap.size)
    (o : Obj) (hbel : b.bel (h.new n b).ok) (hblk : BlkRel C (updE env (h.nid n) e) (w.alloc o) e b) :
    Rel C keep (updE env (h.nid n) e) (h.new n b) (w.alloc o) ∧ KeepW keep w (w.alloc o) := by
  have hn := room_spec hr
  have hx := ext_updE hn env e
  have hsz : (w.alloc o).heap.size = w.heap.size + 1 := by show (w.heap.push o).size = _; simp
  have hself : updE env (h.nid n) e (h.nid n) = e := by simp [updE]
  have hold : ∀ i c, h.get i = some c → updE env (h.nid n) e i = env i := fun i c hc => hx i (by simp [Heap.ok, hc])
  refine ⟨⟨?_, ?_, ?_, ?_, ?_, ?_, ?_, ?_⟩, ⟨rfl, rfl, rfl, by omega, ?_⟩⟩
  · intro i c hc
    rw [get_new hr] at hc
    by_cases ei : i = h.nid n
    · rw [ei, hself]; omega
    · rw [if_neg ei] at hc; rw [hold i c hc]; have := R.lt i c hc; omega
  · intro i c hc
    rw [get_new hr] at hc
    by_cases ei : i = h.nid n
    · rw [if_pos ei] at hc; cases hc; rw [ei, hself]; exact hblk
    · rw [if_neg ei] at hc; rw [hold i c hc]
      have hl := R.lt i c hc
      exact (R.blk i c hc).mono hx (R.bel i c hc) (by rw [heap_alloc_get, if_neg (by omega)])
  · intro i j c d hc hd hij hw hdd
    rw [get_new hr] at hc hd
    by_cases ei : i = h.nid n
    · have ej : j ≠ h.nid n := fun x => hij (ei.trans x.symm)
      rw [if_neg ej] at hd
      rw [ei, hself, hold j d hd, he]
      have := R.lt j d hd; omega
    · rw [if_neg ei] at hc
      by_cases ej : j = h.nid n
      · rw [ej, hself, hold i c hc, he]; have := R.lt i c hc; omega
      · rw [if_neg ej] at hd
        rw [hold i c hc, hold j d hd]
        exact R.disj i j c d hc hd hij hw hdd
  · intro i c hc
    rw [get_new hr] at hc
    by_cases ei : i = h.nid n
    · rw [if_pos ei] at hc; cases hc; exact hbel
    · rw [if_neg ei] at hc
      exact ABlk.bel_mono (fun j hj => (ok_new hr).2 (.inr hj)) (R.bel i c hc)
  · intro i c hc hw hk
    rw [get_new hr] at hc
    by_cases ei : i = h.nid n
    · rw [ei, hself, he] at hk; have := R.keepLt _ hk; omega
    · rw [if_neg ei] at hc; rw [hold i c hc] at hk; exact R.kept i c hc hw hk
  · intro r hk; have := R.keepLt r hk; omega
  · intro i c hc hd hk
    rw [get_new hr] at hc
    by_cases ei : i = h.nid n
    · rw [ei, hself, he] at hk; have := R.hidLt _ hk; omega
    · rw [if_neg ei] at hc; rw [hold i c hc] at hk; exact R.hid i c hc hd hk
  · intro r hk; have := R.hidLt r hk; omega
  · intro r hk; have := R.keepLt r hk; rw [heap_alloc_get, if_neg (by omega)]

/-- A block that is written: its row turns, no other. -/
theorem Rel.write {C : Ctx} {keep : Keep} {env : Env} {h : Heap} {w w' : World} (R : Rel C keep env h w) {i : Nat} {b b' : ABlk} (hi : h.get i = some b) (hw : b.wr = true)
    (hos : w'.os = w.os) (htp : w'.tape = w.tape) (hout : w'.output = w.output) (hsz : w'.heap.size = w.heap.size)
    (hother : ∀ r, r ≠ (env i).blk → w'.heap[r]? = w.heap[r]?) (hbel : b'.bel h.ok) (hblk : BlkRel C env w' (env i) b') :
    Rel C keep env (h.put i b') w' ∧ KeepW keep w w' := by
  have hlt := Heap.lt_of_get hi
  have hok : ∀ j, (h.put i b').ok j ↔ h.ok j := fun j => by
    rw [ok_put hlt]; constructor
    · rintro (rfl | x)
      · simp [Heap.ok, hi]
      · exact x
    · exact .inr
  have hg := fun j => Heap.get_put h i j b' hlt
  refine ⟨⟨?_, ?_, ?_, ?_, ?_, ?_, ?_, ?_⟩, ⟨hos, htp, hout, by omega, ?_⟩⟩
  · intro j c hc
    rw [hg] at hc
    by_cases ej : j = i
    · rw [ej]; have := R.lt i b hi; omega
    · rw [if_neg ej] at hc; have := R.lt j c hc; omega
  · intro j c hc
    rw [hg] at hc
    by_cases ej : j = i
    · rw [if_pos ej] at hc; cases hc; rw [ej]; exact hblk
    · rw [if_neg ej] at hc
      by_cases hd : c = .dead
      · subst hd; trivial
      · exact (R.blk j c hc).mono (Ext.refl h env) (R.bel j c hc) (hother _ (R.disj i j b c hi hc (Ne.symm ej) hw hd))
  · intro j k c d hc hd hjk hwr hdd
    rw [hg] at hc hd
    by_cases ej : j = i
    · have ek : k ≠ i := fun x => hjk (ej.trans x.symm)
      rw [if_neg ek] at hd
      rw [ej]
      exact R.disj i k b d hi hd (Ne.symm ek) hw hdd
    · rw [if_neg ej] at hc
      by_cases ek : k = i
      · rw [ek]
        exact R.disj j i c b hc hi ej hwr (by rintro rfl; simp [ABlk.wr] at hw)
      · rw [if_neg ek] at hd; exact R.disj j k c d hc hd hjk hwr hdd
  · intro j c hc
    rw [hg] at hc
    refine ABlk.bel_mono (fun j hj => (hok j).2 hj) ?_
    by_cases ej : j = i
    · rw [if_pos ej] at hc; cases hc; exact hbel
    · rw [if_neg ej] at hc; exact R.bel j c hc
  · intro j c hc hwr hk
    rw [hg] at hc
    by_cases ej : j = i
    · rw [ej] at hk; exact R.kept i b hi hw hk
    · rw [if_neg ej] at hc; exact R.kept j c hc hwr hk
  · intro r hk; have := R.keepLt r hk; omega
  · intro j c hc hd hk
    rw [hg] at hc
    by_cases ej : j = i
    · rw [ej] at hk; exact R.hid i b hi (by rintro rfl; simp [ABlk.wr] at hw) hk
    · rw [if_neg ej] at hc; exact R.hid j c hc hd hk
  · intro r hk; have := R.hidLt r hk; omega
  · intro r hk; exact hother r (fun x => R.kept i b hi hw (x ▸ hk))

theorem hle_put {h : Heap} {i : Nat} {b b' : ABlk} (hi : h.get i = some b) : HLe h (h.put i b') := by
  have hlt := Heap.lt_of_get hi
  refine ⟨Nat.le_refl _, fun j hj => ?_⟩
  rw [Heap.get_put _ _ _ _ hlt]
  by_cases e : j = i
  · simp [e, hi]
  · rw [if_neg e]

/-- A block is given up. -/
theorem Rel.dead {C : Ctx} {keep : Keep} {env : Env} {h : Heap} {w : World} (R : Rel C keep env h w) {i : Nat} {b : ABlk} (hi : h.get i = some b) :
    Rel C keep env (h.put i .dead) w := by
  have hlt := Heap.lt_of_get hi
  have hok : ∀ j, (h.put i .dead).ok j ↔ h.ok j := fun j => by
    rw [ok_put hlt]; constructor
    · rintro (rfl | x)
      · simp [Heap.ok, hi]
      · exact x
    · exact .inr
  have hg := fun j => Heap.get_put h i j .dead hlt
  refine ⟨?_, ?_, ?_, ?_, ?_, R.keepLt, ?_, R.hidLt⟩
  · intro j c hc
    rw [hg] at hc
    by_cases ej : j = i
    · rw [ej]; exact R.lt i b hi
    · rw [if_neg ej] at hc; exact R.lt j c hc
  · intro j c hc
    rw [hg] at hc
    by_cases ej : j = i
    · rw [if_pos ej] at hc; cases hc; trivial
    · rw [if_neg ej] at hc; exact R.blk j c hc
  · intro j k c d hc hd hjk hwr hdd
    rw [hg] at hc hd
    by_cases ej : j = i
    · rw [if_pos ej] at hc; cases hc; simp [ABlk.wr] at hwr
    · rw [if_neg ej] at hc
      by_cases ek : k = i
      · rw [if_pos ek] at hd; cases hd; exact absurd rfl hdd
      · rw [if_neg ek] at hd; exact R.disj j k c d hc hd hjk hwr hdd
  · intro j c hc
    rw [hg] at hc
    refine ABlk.bel_mono (fun j hj => (hok j).2 hj) ?_
    by_cases ej : j = i
    · rw [if_pos ej] at hc; cases hc; trivial
    · rw [if_neg ej] at hc; exact R.bel j c hc
  · intro j c hc hwr hk
    rw [hg] at hc
    by_cases ej : j = i
    · rw [if_pos ej] at hc; cases hc; simp [ABlk.wr] at hwr
    · rw [if_neg ej] at hc; exact R.kept j c hc hwr hk
  · intro j c hc hd hk
    rw [hg] at hc
    by_cases ej : j = i
    · rw [if_pos ej] at hc; cases hc; exact hd rfl
    · rw [if_neg ej] at hc; exact R.hid j c hc hd hk

/-- A world with the same blocks stands for the same heap. -/
theorem Rel.heap_eq {C : Ctx} {keep : Keep} {env : Env} {h : Heap} {w w' : World} (R : Rel C keep env h w) (hw : w'.heap = w.heap) : Rel C keep env h w' :=
  ⟨fun i b hb => by rw [hw]; exact R.lt i b hb, fun i b hb => (R.blk i b hb).mono (Ext.refl h env) (R.bel i b hb) (by rw [hw]), R.disj, R.bel, R.kept, fun r hr => by rw [hw]; exact R.keepLt r hr, R.hid, fun r hr => by rw [hw]; exact R.hidLt r hr⟩

theorem Rel.reserve {C : Ctx} {keep : Keep} {env : Env} {h : Heap} {w : World} (R : Rel C keep env h w) (k : Nat) : Rel C keep env (h.reserve k) w := R.casesOn fun a b c d e f g i => ⟨a, b, c, d, e, f, g, i⟩

/-- A cell of a block that is there. -/
theorem Rel.cell {C : Ctx} {keep : Keep} {env : Env} {h : Heap} {w : World} (R : Rel C keep env h w) {i : Nat} {vs : List AV} {wr : Bool} {u : Nat} (hi : h.get i = some (.cells vs wr u)) {k : Nat} {v : AV} (hk : vs[k]? = some v) :
    w.cell? ⟨(env i).blk, (env i).sh + k, none⟩ = some (v.val C.lk env) := by
  have r := R.blk i _ hi
  cases wr with
  | false => exact r k v hk
  | true =>
    obtain ⟨cur, t, h1, h2, _⟩ := r
    rw [cell_of_row w _ _ cur t (0, 0) h1]
    exact h2 k v hk

theorem Rel.belCell {C : Ctx} {keep : Keep} {env : Env} {h : Heap} {w : World} (R : Rel C keep env h w) {i : Nat} {vs : List AV} {wr : Bool} {u : Nat} (hi : h.get i = some (.cells vs wr u)) {v : AV} (hv : v ∈ vs) : v.bel h.ok := R.bel i _ hi v hv

end Go.Ae
