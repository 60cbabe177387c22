/- The abstract values, heaps and code of a second, simpler reading of the translated Go code, and how they stand for the model's values and worlds. -/
import Derived.CallsIn
import Derived.RangeFuncLeaves
import Derived.Below
namespace Go.Ae

inductive Cap where
  | known (c : Nat)
  | unk (l : Nat)
  deriving DecidableEq, Repr, Inhabited

inductive AV where
  | int (k : IntKind) (n : Int)
  | bool (b : Bool)
  | ptr (i off : Nat)
  | nilptr
  | slice (i off len : Nat) (cap : Cap)
  | nilslice
  | func (g : Nat) (first captured : List AV)
  | yield (l : Nat)
  | nilfunc
  | agg (vs : List AV)
  | tuple (vs : List AV)
  deriving Inhabited, Repr

/-- What an abstract block stands for: a block of the world, from a cell on, with room for so many elements. -/
structure EB where
  blk : Nat
  sh : Nat
  cap : Nat
  deriving Inhabited

abbrev Env := Nat → EB

def Cap.at : Cap → EB → Nat
  | .known c, _ => c
  | .unk l, e => e.cap - l

mutual
def AV.val (lk : Nat → FuncId) (env : Env) : AV → Value
  | .int k n => .int k n
  | .bool b => .bool b
  | .ptr i o => .pointer (some ⟨(env i).blk, (env i).sh + o, none⟩)
  | .nilptr => .pointer none
  | .slice i o n c => .slice (some ⟨(env i).blk, (env i).sh + o, none⟩) n (c.at (env i))
  | .nilslice => .slice none 0 0
  | .func g f c => .func (.func (lk g)) (AV.vals lk env f).toArray (AV.vals lk env c).toArray
  | .yield l => .func (.yield (env l).blk) #[] #[]
  | .nilfunc => .nilFunc
  | .agg vs => .agg (AV.vals lk env vs).toArray
  | .tuple vs => .tuple (AV.vals lk env vs).toArray
def AV.vals (lk : Nat → FuncId) (env : Env) : List AV → List Value
  | [] => []
  | v :: vs => v.val lk env :: AV.vals lk env vs
end

mutual
/-- Every block that the value names is one of those of p. -/
def AV.bel (p : Nat → Prop) : AV → Prop
  | .ptr i _ => p i
  | .slice i _ _ _ => p i
  | .yield i => p i
  | .func _ f c => AV.bels p f ∧ AV.bels p c
  | .agg vs => AV.bels p vs
  | .tuple vs => AV.bels p vs
  | _ => True
def AV.bels (p : Nat → Prop) : List AV → Prop
  | [] => True
  | v :: vs => v.bel p ∧ AV.bels p vs
end

theorem vals_eq (lk : Nat → FuncId) (env : Env) (vs : List AV) : AV.vals lk env vs = vs.map (AV.val lk env) := by
  induction vs with
  | nil => rfl
  | cons v vs ih => simp [AV.vals, ih]

theorem bels_iff (n : Nat → Prop) (vs : List AV) : AV.bels n vs ↔ ∀ v ∈ vs, v.bel n := by
  induction vs with
  | nil => simp [AV.bels]
  | cons v vs ih => simp [AV.bels, ih]

mutual
theorem val_congr {lk : Nat → FuncId} {env env' : Env} {p : Nat → Prop} (h : ∀ i, p i → env' i = env i) : (v : AV) → v.bel p → v.val lk env' = v.val lk env
  | .int _ _, _ => rfl
  | .bool _, _ => rfl
  | .ptr i o, b => by simp only [AV.val, h i b]
  | .nilptr, _ => rfl
  | .slice i o m c, b => by simp only [AV.val, h i b]
  | .nilslice, _ => rfl
  | .func g f c, b => by simp only [AV.val, vals_congr h f b.1, vals_congr h c b.2]
  | .yield l, b => by simp only [AV.val, h l b]
  | .nilfunc, _ => rfl
  | .agg vs, b => by simp only [AV.val, vals_congr h vs b]
  | .tuple vs, b => by simp only [AV.val, vals_congr h vs b]
theorem vals_congr {lk : Nat → FuncId} {env env' : Env} {p : Nat → Prop} (h : ∀ i, p i → env' i = env i) : (vs : List AV) → AV.bels p vs → AV.vals lk env' vs = AV.vals lk env vs
  | [], _ => rfl
  | v :: vs, b => by simp only [AV.vals, val_congr h v b.1, vals_congr h vs b.2]
end

mutual
theorem bel_mono {p q : Nat → Prop} (h : ∀ i, p i → q i) : (v : AV) → v.bel p → v.bel q
  | .int _ _, _ => trivial
  | .bool _, _ => trivial
  | .ptr _ _, b => h _ b
  | .nilptr, _ => trivial
  | .slice _ _ _ _, b => h _ b
  | .nilslice, _ => trivial
  | .func _ f c, b => ⟨bels_mono h f b.1, bels_mono h c b.2⟩
  | .yield _, b => h _ b
  | .nilfunc, _ => trivial
  | .agg vs, b => bels_mono h vs b
  | .tuple vs, b => bels_mono h vs b
theorem bels_mono {p q : Nat → Prop} (h : ∀ i, p i → q i) : (vs : List AV) → AV.bels p vs → AV.bels q vs
  | [], _ => trivial
  | v :: vs, b => ⟨bel_mono h v b.1, bels_mono h vs b.2⟩
end

def AV.cells : AV → List AV
  | .agg vs => vs
  | v => [v]

def AV.one : AV → Bool
  | .agg _ | .tuple _ => false
  | _ => true

abbrev AV.undef : AV := .tuple []

theorem cells_val (lk : Nat → FuncId) (env : Env) (v : AV) : (v.val lk env).cells = (v.cells.map (AV.val lk env)).toArray := by
  cases v <;> simp [AV.val, AV.cells, Value.cells, vals_eq]

theorem bel_cells {n : Nat → Prop} {v : AV} (h : v.bel n) : ∀ x ∈ v.cells, x.bel n := by
  cases v <;> simp only [AV.cells, List.mem_singleton, forall_eq] <;> first | exact h | exact (bels_iff _ _).1 h

/-! ### Code -/
inductive AOpd where
  | tmp (t : Nat)
  | const (v : AV)
  deriving Inhabited, Repr

inductive AOp where
  | mv (x : AOpd)
  | pick (c a b : AOpd)
  | alloc (z : List AV)
  | box (x : AOpd)
  | build (z : List AV) (parts : List (Nat × Nat × AOpd))
  | buildSlice (n : Nat) (z : List AV) (parts : List (Nat × Nat × AOpd))
  | load (agg : Bool) (n : Nat) (x : AOpd)
  | store (n : Nat) (x v : AOpd)
  | nilCheck (x : AOpd)
  | bin (op : BinOp) (x y : AOpd)
  | eqb (neg : Bool) (x y : AOpd)
  | eqs (neg : Bool) (leaves : List (Nat × Bool)) (x y : AOpd)
  | eqn (neg : Bool) (x : AOpd)
  | un (op : UnOp) (x : AOpd)
  | conv (k : IntKind) (x : AOpd)
  | mkfunc (g : Nat) (first captured : List AOpd)
  | makeSlice (z : List AV) (bytes : Nat) (l c : AOpd)
  | slice (sz : Nat) (x : AOpd) (lo hi mx : Option AOpd)
  | fieldAddr (off : Nat) (x : AOpd)
  | field (agg : Bool) (off n : Nat) (x : AOpd)
  | indexAddr (sz : Nat) (x i : AOpd)
  | indexArr (sz len : Nat) (x i : AOpd)
  | index (agg : Bool) (sz len : Nat) (x i : AOpd)
  | extract (x : AOpd) (i : Nat)
  | len (x : AOpd)
  | cap (x : AOpd)
  | append (sz bytes : Nat) (s x : AOpd)
  | appendMake (z : List AV) (bytes : Nat) (s x : AOpd)
  | copy (sz : Nat) (d s : AOpd)
  | max (xs : List AOpd)
  | min (xs : List AOpd)
  | call (f : AOpd) (args : List AOpd)
  | refuse (what : String)
  deriving Inhabited, Repr

structure AOper where
  dst : Option Nat
  op : AOp
  guard : Option (Nat × Bool)
  deriving Inhabited, Repr

/-- An operation of a region that draws its order: its number, whether what it touches is remembered, the numbers of the operations ahead of it that it must not meddle with. -/
structure DItem where
  k : Nat
  mem : Bool
  ck : List Nat
  o : AOper
  deriving Inhabited, Repr

inductive ACode where
  | skip
  | region (ops : List AOper)
  | draw (n : Nat) (ops : List DItem)
  | seq (a b : ACode)
  | cond (c : AOpd) (a b : ACode)
  | block (id : Nat) (body : ACode)
  | loop (body : ACode)
  | rangeFunc (f : AOpd) (params : List Nat) (assign body : ACode)
  | exit (id : Nat)
  | ret
  | refuse (what : String)
  deriving Inhabited, Repr

inductive ARes where
  | tmp (t : Nat)
  | cell (t : Nat) (agg : Bool) (n : Nat)
  deriving Inhabited, Repr

structure ABody where
  nparams : Nat
  ntmps : Nat
  res : List ARes
  code : ACode
  deriving Inhabited, Repr

inductive Out where
  | normal
  | exit (id : Nat)
  | ret
  deriving DecidableEq, Inhabited

/-! ### Heaps and states -/
structure ALoop where
  state : LoopState
  pend : Option Out
  t : Nat → AV
  nt : Nat
  params : List Nat
  assign : ACode
  body : ACode
  defers : Nat

inductive ABlk where
  | cells (vs : List AV) (wr : Bool) (unit : Nat)
  | loop (r : ALoop)
  | defd (opened : Bool)
  | dead

def ABlk.wr : ABlk → Bool
  | .cells _ wr _ => wr
  | .dead => false
  | _ => true

def ABlk.bel (p : Nat → Prop) : ABlk → Prop
  | .cells vs _ _ => ∀ v ∈ vs, v.bel p
  | .loop r => (∀ s, (r.t s).bel p) ∧ p r.defers
  | .defd _ => True
  | .dead => True

theorem ABlk.bel_mono {p q : Nat → Prop} (h : ∀ i, p i → q i) {b : ABlk} (hb : b.bel p) : b.bel q := by
  cases b with
  | cells vs wr u => exact fun v hv => Ae.bel_mono h v (hb v hv)
  | loop r => exact ⟨fun s => Ae.bel_mono h _ (hb.1 s), h _ hb.2⟩
  | defd o => trivial
  | dead => trivial

structure Heap where
  size : Nat
  get : Nat → Option ABlk
  wf : ∀ i, size ≤ i → get i = none

def Heap.ok (h : Heap) (i : Nat) : Prop := (h.get i).isSome = true

theorem Heap.lt_of_ok {h : Heap} {i : Nat} (hi : h.ok i) : i < h.size := by
  rcases Nat.lt_or_ge i h.size with x | x
  · exact x
  · simp [Heap.ok, h.wf i x] at hi
theorem Heap.lt_of_get {h : Heap} {i : Nat} {b : ABlk} (hi : h.get i = some b) : i < h.size := Heap.lt_of_ok (by simp [Heap.ok, hi])

def Heap.push (h : Heap) (b : ABlk) : Heap :=
  ⟨h.size + 1, fun i => if i = h.size then some b else h.get i, fun i hi => by rw [if_neg (by omega)]; exact h.wf i (by omega)⟩
def Heap.put (h : Heap) (i : Nat) (b : ABlk) : Heap :=
  ⟨h.size, fun j => if j = i then (if i < h.size then some b else none) else h.get j, fun j hj => by
    by_cases e : j = i
    · rw [if_pos e, if_neg (by omega)]
    · rw [if_neg e]; exact h.wf j hj⟩
def Heap.reserve (h : Heap) (k : Nat) : Heap := ⟨h.size + k, h.get, fun i hi => h.wf i (by omega)⟩
/-- A new block: at the end, or at a place that was kept for it. -/
def Heap.nid (h : Heap) : Option Nat → Nat
  | none => h.size
  | some n => n
def Heap.new (h : Heap) (n : Option Nat) (b : ABlk) : Heap :=
  match n with
  | none => h.push b
  | some n => h.put n b
def Heap.room (h : Heap) : Option Nat → Bool
  | none => true
  | some n => (h.get n).isNone && decide (n < h.size)

@[simp] theorem Heap.size_push (h : Heap) (b : ABlk) : (h.push b).size = h.size + 1 := rfl
@[simp] theorem Heap.size_put (h : Heap) (i : Nat) (b : ABlk) : (h.put i b).size = h.size := rfl
@[simp] theorem Heap.size_reserve (h : Heap) (k : Nat) : (h.reserve k).size = h.size + k := rfl
theorem Heap.get_push (h : Heap) (b : ABlk) (i : Nat) : (h.push b).get i = if i = h.size then some b else h.get i := rfl
theorem Heap.get_put (h : Heap) (i j : Nat) (b : ABlk) (hi : i < h.size) : (h.put i b).get j = if j = i then some b else h.get j := by
  show (if j = i then (if i < h.size then some b else none) else h.get j) = _
  rw [if_pos hi]
@[simp] theorem Heap.get_reserve (h : Heap) (k i : Nat) : (h.reserve k).get i = h.get i := rfl

structure St where
  t : Nat → AV
  h : Heap
  m : List Nat

def upd (t : Nat → AV) (s : Nat) (v : AV) : Nat → AV := fun i => if i = s then v else t i

def St.put (st : St) (d : Option Nat) (v : AV) : St :=
  match d with
  | none => st
  | some s => { st with t := upd st.t s v }

def AOpd.ev (t : Nat → AV) : AOpd → AV
  | .tmp s => t s
  | .const v => v

end Go.Ae
