/- What each lowered operation does to an abstract heap. -/
import Derived.Test.YtbmoggkjijnajaaAeRel
namespace Go.Ae

def bitsA (op : BinOp) (k : IntKind) (x y : Int) : Int :=
  let a := BitVec.ofInt k.bits x
  let b := BitVec.ofInt k.bits y
  match op with
  | .and => k.wrap (a &&& b).toNat
  | .or => k.wrap (a ||| b).toNat
  | .xor => k.wrap (a ^^^ b).toNat
  | _ => k.wrap (a &&& ~~~b).toNat

def arithA (op : BinOp) (k : IntKind) (a b : Int) : Option AV :=
  match op with
  | .add => some (.int k (k.wrap (a + b)))
  | .sub => some (.int k (k.wrap (a - b)))
  | .mul => some (.int k (k.wrap (a * b)))
  | .quo => if b = 0 then none else some (.int k (k.wrap (a.tdiv b)))
  | .rem => if b = 0 then none else some (.int k (a.tmod b))
  | .and => some (.int k (bitsA .and k a b))
  | .or => some (.int k (bitsA .or k a b))
  | .xor => some (.int k (bitsA .xor k a b))
  | .andNot => some (.int k (bitsA .andNot k a b))
  | .eql => some (.bool (a == b))
  | .neq => some (.bool (a != b))
  | .lss => some (.bool (decide (a < b)))
  | .leq => some (.bool (decide (a ≤ b)))
  | .gtr => some (.bool (decide (b < a)))
  | .geq => some (.bool (decide (b ≤ a)))
  | _ => none

def binA (op : BinOp) (x y : AV) : Option AV :=
  match op, x, y with
  | .shl, .int k a, .int _ b => if b < 0 then none else some (.int k (k.wrap (a * 2 ^ (min b.toNat k.bits))))
  | .shr, .int k a, .int _ b => if b < 0 then none else some (.int k (a.fdiv (2 ^ (min b.toNat k.bits))))
  | op, .int k a, .int k' b => if k = k' then arithA op k a b else none
  | _, _, _ => none

/-- Whether two rows hold the same at some places. -/
def eqCells (xs ys : List AV) : List (Nat × Bool) → Option Bool
  | [] => some true
  | (o, false) :: os => match xs[o]?, ys[o]?, eqCells xs ys os with
    | some (.int k a), some (.int k' b), some r => if k = k' then some (a == b && r) else none
    | _, _, _ => none
  | (o, true) :: os => match xs[o]?, ys[o]?, eqCells xs ys os with
    | some (.bool a), some (.bool b), some r => some (a == b && r)
    | _, _, _ => none

def unA (op : UnOp) (x : AV) : Option AV :=
  match op, x with
  | .neg, .int k n => some (.int k (k.wrap (0 - n)))
  | .xor, .int k n => some (.int k (bitsA .xor k (if k.signed then -1 else k.max) n))
  | .not, .bool b => some (.bool !b)
  | _, _ => none

/-- The cells of a part of a row. -/
def cut (vs : List AV) (o n : Nat) : List AV := (vs.drop o).take n

def splice (vs : List AV) (o : Nat) (cs : List AV) : List AV :=
  match cs with
  | [c] => vs.set o c
  | cs => vs.take o ++ cs ++ vs.drop (o + cs.length)

def fillA (z : List AV) : List (Nat × Nat × AV) → Option (List AV)
  | [] => some z
  | (o, n, v) :: rest => if v.cells.length = n ∧ o + n ≤ z.length then fillA (z.take o ++ v.cells ++ z.drop (o + n)) rest else none

def partA (agg : Bool) (vs : List AV) (o n : Nat) : Option AV :=
  if agg then (if o + n ≤ vs.length then some (.agg (cut vs o n)) else none) else vs[o]?

def zerosA (n : Nat) (z : List AV) : List AV :=
  match z with
  | [x] => List.replicate n x
  | z => (List.replicate n z).flatten

def loadA (h : Heap) (agg : Bool) (n : Nat) : AV → Option AV
  | .ptr i o => match h.get i with
    | some (.cells vs _ _) => partA agg vs o n
    | _ => none
  | _ => none

def storeA (h : Heap) (n : Nat) (a v : AV) : Option Heap :=
  match a with
  | .ptr i o => match h.get i with
    | some (.cells vs true u) => if v.cells.length = n ∧ o + n ≤ vs.length ∧ v.cells.all AV.one = true then some (h.put i (.cells (splice vs o v.cells) true u)) else none
    | _ => none
  | _ => none

def intA : AV → Option Int
  | .int _ n => some n
  | _ => none

/-- The bounds of a slice expression: low, high, the new capacity. -/
def boundsA (len cap : Nat) (lo hi mx : Option AV) : Option (Nat × Nat × Nat) :=
  match (match mx with | some v => intA v | none => some (cap : Int)), (match hi with | some v => intA v | none => if mx.isSome then none else some (len : Int)), (match lo with | some v => intA v | none => some (0 : Int)) with
  | some m, some hh, some l => if 0 ≤ l ∧ l ≤ hh ∧ hh ≤ m ∧ m ≤ cap then some (l.toNat, hh.toNat, m.toNat) else none
  | _, _, _ => none

def sliceA (h : Heap) (sz : Nat) (x : AV) (lo hi mx : Option AV) : Option AV :=
  match x with
  | .nilslice => match boundsA 0 0 lo hi mx with
    | some _ => some .nilslice
    | none => none
  | .slice i o n (.known c) => match boundsA n c lo hi mx with
    | some (l, hh, m) => some (.slice i (if m = l then o else o + l * sz) (hh - l) (.known (m - l)))
    | none => none
  | .slice i o n (.unk l0) => match h.get i with
    | some (.cells vs true u) => if u = sz ∧ o = l0 * sz ∧ o + n * sz ≤ vs.length then
        match boundsA n n lo hi mx with
        | some (l, hh, m) => if mx.isSome then some (.slice i (if m = l then o else o + l * sz) (hh - l) (.known (m - l)))
            else if l < hh ∨ l = 0 then some (.slice i (o + l * sz) (hh - l) (.unk (l0 + l))) else none
        | none => none
      else none
    | _ => none
  | _ => none

/-- The cells that a slice holds. -/
def contentA (h : Heap) (sz : Nat) : AV → Option (Nat × List AV)
  | .nilslice => some (0, [])
  | .slice i o n _ => match h.get i with
    | some (.cells vs _ _) => if o + n * sz ≤ vs.length then some (n, cut vs o (n * sz)) else none
    | _ => none
  | _ => none

/-- 'append(s, news..)', m new elements. -/
def appendA (h : Heap) (nid : Option Nat) (sz bytes : Nat) (s : AV) (m : Nat) (news : List AV) : Option (AV × Heap) :=
  match s with
  | .nilslice => if m = 0 then some (.nilslice, h) else
      if m * bytes ≤ 2 ^ 40 ∧ h.room nid = true then some (.slice (h.nid nid) 0 m (.unk 0), h.new nid (.cells news true sz)) else none
  | .slice i o n (.known c) => if m = 0 then (if n ≤ c ∧ (h.get i).isSome = true then some (.slice i o n (.known c), h) else none) else match h.get i with
    | some (.cells vs true u) => if o + n * sz ≤ vs.length then
        if n + m ≤ c then
          if o + (n + m) * sz ≤ vs.length ∧ news.all AV.one = true then some (.slice i o (n + m) (.known c), h.put i (.cells (splice vs (o + n * sz) news) true u)) else none
        else if (n + m) * bytes ≤ 2 ^ 40 ∧ h.room nid = true then some (.slice (h.nid nid) 0 (n + m) (.unk 0), h.new nid (.cells (cut vs o (n * sz) ++ news) true sz)) else none
      else none
    | some (.cells vs false _) => if o + n * sz ≤ vs.length ∧ c < n + m ∧ (n + m) * bytes ≤ 2 ^ 40 ∧ h.room nid = true then
        some (.slice (h.nid nid) 0 (n + m) (.unk 0), h.new nid (.cells (cut vs o (n * sz) ++ news) true sz)) else none
    | _ => none
  | .slice i o n (.unk l) => match h.get i with
    | some (.cells vs true u) => if u = sz ∧ o = l * sz ∧ o + n * sz ≤ vs.length ∧ news.all AV.one = true ∧ (n + m) * bytes ≤ 2 ^ 40 ∧ h.room nid = true ∧ 0 < m then
        some (.slice (h.nid nid) 0 (n + m) (.unk 0), (h.put i .dead).new nid (.cells (cut vs o (n * sz) ++ news) true sz))
      else if u = sz ∧ o = l * sz ∧ o + n * sz ≤ vs.length ∧ m = 0 then some (s, h) else none
    | _ => none
  | _ => none

def copyA (h : Heap) (sz : Nat) (d s : AV) : Option (AV × Heap) :=
  match d, contentA h sz s with
  | .nilslice, some _ => some (.int .i64 0, h)
  | .slice i o n _, some (m, cs) => match h.get i with
    | some (.cells vs true u) =>
      let k := min m n
      if o + k * sz ≤ vs.length ∧ (cs.take (k * sz)).all AV.one = true then some (.int .i64 k, h.put i (.cells (splice vs o (cs.take (k * sz))) true u)) else none
    | _ => none
  | _, _ => none

def maxStep (a : Option AV) (y : AV) : Option AV :=
  match a, y with
  | some (.int k a), .int k' b => if k = k' then some (.int k (if b > a then b else a)) else none
  | _, _ => none
def minStep (a : Option AV) (y : AV) : Option AV :=
  match a, y with
  | some (.int k a), .int k' b => if k = k' then some (.int k (if b < a then b else a)) else none
  | _, _ => none
def maxA : List AV → Option AV
  | .int k a :: xs => xs.foldl maxStep (some (.int k a))
  | _ => none
def minA : List AV → Option AV
  | .int k a :: xs => xs.foldl minStep (some (.int k a))
  | _ => none

/-- The value that an operation gives which does not touch the heap but for reading it. -/
def pureA (op : AOp) (ev : AOpd → AV) (h : Heap) : Option AV :=
  match op with
  | .mv x => some (ev x)
  | .pick c a b => match ev c with
    | .bool t => some (if t then ev a else ev b)
    | _ => none
  | .build z parts => (fillA z (parts.map fun p => (p.1, p.2.1, ev p.2.2))).map .agg
  | .load agg n x => loadA h agg n (ev x)
  | .nilCheck x => match ev x with
    | .ptr i o => some (.ptr i o)
    | .func g a c => some (.func g a c)
    | .yield l => some (.yield l)
    | _ => none
  | .bin op x y => binA op (ev x) (ev y)
  | .eqb neg x y => match ev x, ev y with
    | .bool a, .bool b => some (.bool (if neg then !(a == b) else a == b))
    | _, _ => none
  | .eqn neg x => match ev x with
    | .slice _ _ _ _ => some (.bool neg)
    | .nilslice => some (.bool !neg)
    | _ => none
  | .eqs neg ls x y => match ev x, ev y with
    | .agg xs, .agg ys => (eqCells xs ys ls).map fun r => .bool (if neg then !r else r)
    | _, _ => none
  | .un op x => unA op (ev x)
  | .conv k x => match ev x with
    | .int _ n => some (.int k (k.wrap n))
    | _ => none
  | .mkfunc g a c => some (.func g (a.map ev) (c.map ev))
  | .slice sz x lo hi mx => sliceA h sz (ev x) (lo.map ev) (hi.map ev) (mx.map ev)
  | .fieldAddr off x => match ev x with
    | .ptr i o => some (.ptr i (o + off))
    | _ => none
  | .field agg off n x => match ev x with
    | .agg vs => partA agg vs off n
    | _ => none
  | .indexAddr sz x i => match ev x, ev i with
    | .slice b o n _, .int _ k => if 0 ≤ k ∧ k < n then some (.ptr b (o + k.toNat * sz)) else none
    | _, _ => none
  | .indexArr sz len x i => match ev x, ev i with
    | .ptr b o, .int _ k => if 0 ≤ k ∧ k < len then some (.ptr b (o + k.toNat * sz)) else none
    | _, _ => none
  | .index agg sz len x i => match ev x, ev i with
    | .agg vs, .int _ k => if 0 ≤ k ∧ k < len then partA agg vs (k.toNat * sz) sz else none
    | _, _ => none
  | .extract x i => match ev x with
    | .tuple vs => vs[i]?
    | _ => none
  | .len x => match ev x with
    | .slice _ _ n _ => some (.int .i64 n)
    | .nilslice => some (.int .i64 0)
    | _ => none
  | .cap x => match ev x with
    | .slice _ _ _ (.known c) => some (.int .i64 c)
    | .nilslice => some (.int .i64 0)
    | _ => none
  | .max xs => maxA (xs.map ev)
  | .min xs => minA (xs.map ev)
  | _ => none

def aOp (nid : Option Nat) (op : AOp) (ev : AOpd → AV) (h : Heap) : Option (AV × Heap) :=
  match op with
  | .alloc z => if h.room nid = true then some (.ptr (h.nid nid) 0, h.new nid (.cells z true 0)) else none
  | .box x => if h.room nid = true then some (.ptr (h.nid nid) 0, h.new nid (.cells (ev x).cells true 0)) else none
  | .buildSlice n z parts => match fillA z (parts.map fun p => (p.1, p.2.1, ev p.2.2)) with
    | some cs => if h.room nid = true then some (.slice (h.nid nid) 0 n (.known n), h.new nid (.cells cs true 0)) else none
    | none => none
  | .store n x v => (storeA h n (ev x) (ev v)).map fun h' => (.undef, h')
  | .makeSlice z bytes l c => match ev l, ev c with
    | .int _ l, .int _ c => if 0 ≤ l ∧ l ≤ c ∧ c * bytes ≤ 2 ^ 47 ∧ c ≤ 2 ^ 47 ∧ h.room nid = true then some (.slice (h.nid nid) 0 l.toNat (.known c.toNat), h.new nid (.cells (zerosA c.toNat z) true 0)) else none
    | _, _ => none
  | .append sz bytes s x => match contentA h sz (ev x) with
    | some (m, news) => appendA h nid sz bytes (ev s) m news
    | none => none
  | .appendMake z bytes s x => match ev x with
    | .int _ m => if 0 ≤ m ∧ m ≤ 2 ^ 36 then appendA h nid z.length bytes (ev s) m.toNat (zerosA m.toNat z) else none
    | _ => none
  | .copy sz d s => copyA h sz (ev d) (ev s)
  | op => (pureA op ev h).map fun v => (v, h)

end Go.Ae
