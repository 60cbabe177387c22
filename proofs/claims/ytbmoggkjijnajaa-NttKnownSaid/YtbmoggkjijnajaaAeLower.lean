/- The translated code, lowered: types resolved into sizes and zero cells, functions named by numbers that do not hang on the seat. -/
import Derived.Test.YtbmoggkjijnajaaAeVal
namespace Go.Ae

def ofCell : Value → Option AV
  | .int k n => some (.int k n)
  | .bool b => some (.bool b)
  | .pointer none => some .nilptr
  | .slice none 0 0 => some .nilslice
  | .nilFunc => some .nilfunc
  | _ => none

def ofCells : List Value → Option (List AV)
  | [] => some []
  | v :: vs => match ofCell v, ofCells vs with
    | some a, some as => some (a :: as)
    | _, _ => none

def ofVal : Value → Option AV
  | .agg cs => (ofCells cs.toList).map .agg
  | v => ofCell v

theorem ofCell_spec {v : Value} {a : AV} (h : ofCell v = some a) (lk : Nat → FuncId) (env : Env) (p : Nat → Prop) : a.val lk env = v ∧ a.bel p ∧ a.one = true ∧ a.cells = [a] := by
  unfold ofCell at h
  split at h <;> first | (cases h; exact ⟨rfl, trivial, rfl, rfl⟩) | cases h

theorem ofCells_spec (lk : Nat → FuncId) (env : Env) (p : Nat → Prop) : ∀ {vs : List Value} {as : List AV}, ofCells vs = some as → as.map (AV.val lk env) = vs ∧ (∀ a ∈ as, a.bel p) ∧ ∀ a ∈ as, a.one = true
  | [], as, h => by cases h; simp
  | v :: vs, as, h => by
    unfold ofCells at h
    split at h
    · rename_i a as' h1 h2
      cases h
      have x := ofCell_spec h1 lk env p
      have y := ofCells_spec lk env p h2
      refine ⟨by simp [x.1, y.1], ?_, ?_⟩
      · intro b hb; rcases List.mem_cons.1 hb with rfl | hb
        · exact x.2.1
        · exact y.2.1 b hb
      · intro b hb; rcases List.mem_cons.1 hb with rfl | hb
        · exact x.2.2.1
        · exact y.2.2 b hb
    · cases h

theorem ofVal_spec {v : Value} {a : AV} (h : ofVal v = some a) (lk : Nat → FuncId) (env : Env) (p : Nat → Prop) : a.val lk env = v ∧ a.bel p := by
  unfold ofVal at h
  split at h
  · rename_i cs
    cases hc : ofCells cs.toList with
    | none => simp [hc] at h
    | some as =>
      simp [hc] at h
      subst h
      have x := ofCells_spec lk env p hc
      refine ⟨by simp [AV.val, vals_eq, x.1], ?_⟩
      exact (bels_iff _ _).2 x.2.1
  · have x := ofCell_spec h lk env p
    exact ⟨x.1, x.2.1⟩

section
variable (P : Program) (inv : FuncId → Option Nat)

def zcells (t : TypeId) : Option (List AV) :=
  match P.info? t with
  | some i => match i.zero with
    | some z => if z.cells.size = i.size then ofCells z.cells.toList else none
    | none => none
  | none => none

def aggT (t : TypeId) : Option Bool :=
  match P.underlying t with
  | some (.struct _) | some (.array _ _) => some true
  | some _ => some false
  | none => none

def sizeT (t : TypeId) : Option Nat := (P.info? t).map (·.size)
def bytesT (t : TypeId) : Option Nat := (P.info? t).map (·.bytes)

def lowerOpd : Operand → Option AOpd
  | .tmp t => some (.tmp t)
  | .const v => (ofVal v).map .const
  | .global _ => none
  | .func f => (inv f).map fun g => .const (.func g [] [])

def lowerOpds : List Operand → Option (List AOpd)
  | [] => some []
  | x :: xs => match lowerOpd inv x, lowerOpds xs with
    | some a, some as => some (a :: as)
    | _, _ => none

def lowerOpt : Option Operand → Option (Option AOpd)
  | none => some none
  | some x => (lowerOpd inv x).map some

/-- The parts of a literal: where each lies, how many cells it has. -/
def lowerParts (place : Nat → Option (Nat × Nat)) : List (Nat × Operand) → Option (List (Nat × Nat × AOpd))
  | [] => some []
  | (i, x) :: rest => match place i, lowerOpd inv x, lowerParts place rest with
    | some (o, n), some a, some as => some ((o, n, a) :: as)
    | _, _, _ => none

def fieldPlaces (fs : List Field) : Option (List (Nat × Nat)) :=
  match fs with
  | [] => some []
  | f :: rest => match sizeT P f.type, fieldPlaces rest with
    | some n, some r => some ((f.offset, n) :: r)
    | _, _ => none

def lowerBuild (t : TypeId) (parts : Array (Nat × Operand)) : Option AOp :=
  match zcells P t, P.underlying t with
  | some z, some (.struct fields) => match fieldPlaces P fields.toList with
    | some ps => (lowerParts inv (fun i => ps[i]?) parts.toList).map (.build z ·)
    | none => none
  | some z, some (.array _ e) => match sizeT P e with
    | some n => (lowerParts inv (fun i => some (i * n, n)) parts.toList).map (.build z ·)
    | none => none
  | _, _ => none

def lowerBuildSlice (t : TypeId) (len : Nat) (parts : Array (Nat × Operand)) : Option AOp :=
  match P.underlying t with
  | some (.slice e) => match zcells P e, sizeT P e with
    | some z, some n => if len * n ≤ 2 ^ 20 ∧ 0 < n then (lowerParts inv (fun i => some (i * n, n)) parts.toList).map (.buildSlice len (List.replicate len z).flatten ·) else none
    | _, _ => none
  | _ => none

def lowerBuiltin (b : Builtin) (args : List AOpd) (argTypes : Array TypeId) : Option AOp :=
  match b, args with
  | .len, [x] => match (argTypes[0]?).bind P.underlying with
    | some (.slice _) => some (.len x)
    | some (.array n _) => some (.mv (.const (.int .i64 n)))
    | _ => none
  | .cap, [x] => match (argTypes[0]?).bind P.underlying with
    | some (.slice _) => some (.cap x)
    | _ => none
  | .append, [s, x] => match (argTypes[0]?).bind P.underlying with
    | some (.slice e) => match zcells P e, bytesT P e, sizeT P e, argTypes[1]? with
      | some z, some by_, some n, some xt => match P.underlying xt with
        | some (.int _) => if 0 < n ∧ 0 < by_ ∧ by_ ≤ 4096 then some (.appendMake z by_ s x) else none
        | some _ => if 0 < n ∧ 0 < by_ ∧ by_ ≤ 4096 then some (.append n by_ s x) else none
        | none => none
      | _, _, _, _ => none
    | _ => none
  | .copy, [d, s] => match (argTypes[0]?).bind P.underlying with
    | some (.slice e) => (sizeT P e).map fun n => .copy n d s
    | _ => none
  | .max, xs => some (.max xs)
  | .min, xs => some (.min xs)
  | _, _ => none

def lowerCall (c : Call) : Option AOp :=
  match lowerOpds inv c.args.toList with
  | some args => match c.callee with
    | .value f => (lowerOpd inv f).map fun f => .call f args
    | .builtin b => lowerBuiltin P b args c.argTypes
    | .invoke _ _ => none
  | none => none

/-- Where the fields of a struct lie whose fields are all numbers and bools. -/
def leavesOf : List Field → Option (List (Nat × Bool))
  | [] => some []
  | f :: fs => if f.name = "_" then none else match P.underlying f.type, leavesOf fs with
    | some (.int _), some ls => some ((f.offset, false) :: ls)
    | some .bool, some ls => some ((f.offset, true) :: ls)
    | _, _ => none

def lowerOp : Op → Option AOp
  | .move x => (lowerOpd inv x).map .mv
  | .assign x => (lowerOpd inv x).map .mv
  | .pick c a b => match lowerOpd inv c, lowerOpd inv a, lowerOpd inv b with
    | some c, some a, some b => some (.pick c a b)
    | _, _, _ => none
  | .alloc e => (zcells P e).map .alloc
  | .box _ x => (lowerOpd inv x).map .box
  | .build t parts => lowerBuild P inv t parts
  | .buildSlice t len parts => lowerBuildSlice P inv t len parts
  | .load t a => match lowerOpd inv a, aggT P t, sizeT P t with
    | some a, some g, some n => some (.load g n a)
    | _, _, _ => none
  | .store t a x => match lowerOpd inv a, lowerOpd inv x, sizeT P t with
    | some a, some x, some n => some (.store n a x)
    | _, _, _ => none
  | .nilCheck x => (lowerOpd inv x).map .nilCheck
  | .binOp op xt x y _ => match lowerOpd inv x, lowerOpd inv y with
    | some x, some y => match op, P.underlying xt with
      | .eql, some (.int _) | .neq, some (.int _) => some (.bin op x y)
      | .eql, some .bool => some (.eqb false x y)
      | .neq, some .bool => some (.eqb true x y)
      | .eql, some (.struct fs) => if P.stoodInHeld xt = false ∧ P.eqGuardType P.depth xt = false then (leavesOf P fs.toList).map fun ls => .eqs false ls x y else none
      | .neq, some (.struct fs) => if P.stoodInHeld xt = false ∧ P.eqGuardType P.depth xt = false then (leavesOf P fs.toList).map fun ls => .eqs true ls x y else none
      | .eql, some (.slice _) => match y with
        | .const .nilslice => some (.eqn false x)
        | _ => none
      | .neq, some (.slice _) => match y with
        | .const .nilslice => some (.eqn true x)
        | _ => none
      | .eql, _ | .neq, _ => none
      | _, some (.int _) => some (.bin op x y)
      | _, _ => none
    | _, _ => none
  | .unOp op xt x => match lowerOpd inv x, P.underlying xt with
    | some x, some (.int _) | some x, some .bool => some (.un op x)
    | _, _ => none
  | .convert s d x => match lowerOpd inv x, P.underlying s, P.underlying d with
    | some x, some (.int _), some (.int k) => some (.conv k x)
    | _, _, _ => none
  | .makeFunc (.func f) first captured => match inv f, lowerOpds inv first.toList, lowerOpds inv captured.toList with
    | some g, some a, some c => some (.mkfunc g a c)
    | _, _, _ => none
  | .makeSlice t l c => match P.underlying t, lowerOpd inv l, lowerOpd inv c with
    | some (.slice e), some l, some c => match zcells P e, bytesT P e with
      | some z, some by_ => if 0 < z.length then some (.makeSlice z by_ l c) else none
      | _, _ => none
    | _, _, _ => none
  | .slice t x lo hi mx => match P.underlying t, lowerOpd inv x, lowerOpt inv lo, lowerOpt inv hi, lowerOpt inv mx with
    | some (.slice e), some x, some lo, some hi, some mx => match sizeT P e with
      | some n => if 0 < n then some (.slice n x lo hi mx) else none
      | none => none
    | _, _, _, _, _ => none
  | .fieldAddr s x f => match P.underlying s, lowerOpd inv x with
    | some (.struct fields), some x => match fields[f]? with
      | some fd => match sizeT P fd.type with
        | some n => if n = 0 then none else some (.fieldAddr fd.offset x)
        | none => none
      | none => none
    | _, _ => none
  | .field t x f => match P.underlying t, lowerOpd inv x with
    | some (.struct fields), some x => match fields[f]? with
      | some fd => match aggT P fd.type, sizeT P fd.type with
        | some g, some n => some (.field g fd.offset n x)
        | _, _ => none
      | none => none
    | _, _ => none
  | .indexAddr t x i => match P.underlying t, lowerOpd inv x, lowerOpd inv i with
    | some (.slice e), some x, some i => (sizeT P e).map fun n => .indexAddr n x i
    | some (.array len e), some x, some i => (sizeT P e).map fun n => .indexArr n len x i
    | _, _, _ => none
  | .index t x i => match P.underlying t, lowerOpd inv x, lowerOpd inv i with
    | some (.array len e), some x, some i => match aggT P e, sizeT P e with
      | some g, some n => some (.index g n len x i)
      | _, _ => none
    | _, _, _ => none
  | .extract x i => (lowerOpd inv x).map fun x => .extract x i
  | .call c => lowerCall P inv c
  | _ => none

/-- The name of an operation, for the place where one is refused. -/
def opName : Op → String
  | .call c => match c.callee with | .builtin _ => "builtin" | .invoke .. => "invoke" | _ => "call"
  | .binOp .. => "binOp" | .build .. => "build" | .buildSlice .. => "buildSlice" | .slice .. => "slice" | .makeFunc .. => "makeFunc"
  | .lookup .. => "lookup" | .mapUpdate .. => "mapUpdate" | .makeMap .. => "makeMap" | .go .. => "go" | .send .. => "send" | .recv .. => "recv" | .makeChan .. => "makeChan"
  | .convert .. => "convert" | .makeInterface .. => "makeInterface" | .typeAssert .. => "typeAssert" | .panic .. => "panic" | .defer .. => "defer"
  | .range .. => "range" | .next .. => "next" | .index .. => "index" | .load .. => "load" | .store .. => "store" | .move .. => "move" | .assign .. => "assign" | _ => "other"

def dstOk (nt : Nat) : Option Nat → Bool
  | none => true
  | some d => decide (d < nt)

def lowerGuard (ops : Array Oper) : Option (Nat × Bool) → Option (Option (Nat × Bool))
  | none => some none
  | some (j, want) => match (ops[j]?).bind (·.dst) with
    | some d => some (some (d, want))
    | none => none

def lowerOper (nt : Nat) (ops : Array Oper) (o : Oper) : AOper :=
  match lowerOp P inv o.op, dstOk nt o.dst, lowerGuard ops o.guard with
  | some a, true, some g => { dst := o.dst, op := a, guard := g }
  | _, _, _ => { dst := none, op := .refuse "", guard := none }

/-- The classes of operations: 0 reads no memory, 1 reads it, 2 calls, 3 stores, 4 appends or copies, 5 makes a block, 6 is refused. -/
def cls : AOp → Nat
  | .load .. | .slice .. => 1
  | .call .. => 2
  | .store .. => 3
  | .copy .. | .append .. | .appendMake .. => 4
  | .alloc .. | .box .. | .buildSlice .. | .makeSlice .. => 5
  | .refuse _ => 6
  | _ => 0

def AOpd.slots : AOpd → List Nat
  | .tmp t => [t]
  | .const _ => []

/-- The operands of an operation. -/
def AOp.opds : AOp → List AOpd
  | .mv x | .eqn _ x | .box x | .load _ _ x | .nilCheck x | .un _ x | .conv _ x | .fieldAddr _ x | .field _ _ _ x | .extract x _ | .len x | .cap x => [x]
  | .pick c a b => [c, a, b]
  | .alloc _ => []
  | .build _ ps | .buildSlice _ _ ps => ps.map (·.2.2)
  | .store _ x y | .bin _ x y | .eqb _ x y | .eqs _ _ x y | .makeSlice _ _ x y | .indexAddr _ x y | .indexArr _ _ x y | .index _ _ _ x y | .append _ _ x y | .appendMake _ _ x y | .copy _ x y => [x, y]
  | .mkfunc _ a c => a ++ c
  | .slice _ x lo hi mx => x :: (lo.toList ++ hi.toList ++ mx.toList)
  | .max xs | .min xs => xs
  | .call f xs => f :: xs
  | .refuse _ => []

/-- The slots that an operation reads. -/
def AOp.reads (op : AOp) : List Nat := op.opds.flatMap AOpd.slots

def AOper.looks (o : AOper) : List Nat := o.op.reads ++ (match o.guard with | some (s, _) => [s] | none => [])

/-- Slots of one's own: neither writes what the other reads or writes. -/
def apartB (x y : AOper) : Bool :=
  (match x.dst with | some d => !y.looks.contains d && y.dst != some d | none => true) && (match y.dst with | some d => !x.looks.contains d | none => true)

/-- Whether y, which stands behind x, may be carried out ahead of it: without a look at what they touch. -/
def autoB (cx cy : Nat) : Bool := (cx ≤ 1 && cy ≤ 1) || cx == 0 || cy == 0 || (cx != 2 && cy == 5)

def pairB (x y : AOper) : Bool :=
  let cx := cls x.op
  let cy := cls y.op
  apartB x y && cx != 6 && cy != 6 && (if cx == 2 then cy == 5 else if cy == 2 then cx ≤ 1 else true)

def maskStep (acc : List Nat) (o : Oper) : List Nat :=
  acc ++ [o.after.toList.foldl (fun s e => if Region.binds .any e then s ||| 2 ^ e.on ||| acc.getD e.on 0 else s) 0]

/-- Of each operation those that must come ahead of it. -/
def masks (ops : Array Oper) : List Nat := ops.toList.foldl maskStep []

/-- The operations with their numbers, their masks, their classes. -/
def tri : Nat → List Nat → List AOper → List (Nat × Nat × Nat)
  | i, m :: ms, o :: os => (i, m, cls o.op) :: tri (i + 1) ms os
  | _, _, _ => []

/-- Of those that may come up, the first one of the lowest class. -/
def best (listed : Nat) : List (Nat × Nat × Nat) → Option (Nat × Nat) → Option (Nat × Nat)
  | [], b => b
  | (i, m, c) :: rest, b => match listed.testBit i with
    | true => best listed rest b
    | false => match Nat.beq (m &&& listed) m with
      | false => best listed rest b
      | true => match b with
        | none => best listed rest (some (c, i))
        | some (c', j) => match Nat.blt c c' with
          | true => best listed rest (some (c, i))
          | false => best listed rest (some (c', j))

def greedy (ms : List Nat) (os : List AOper) : Nat → Nat → List Nat
  | 0, _ => []
  | fuel + 1, listed => match best listed (tri 0 ms os) none with
    | some (_, i) => i :: greedy ms os fuel (listed ||| 2 ^ i)
    | none => []

def pairsB (ms : List Nat) (os : List AOper) : List Nat → Bool
  | [] => true
  | x :: ys => ys.all (fun y => (ms.getD y 0).testBit x || pairB (os.getD x default) (os.getD y default)) && pairsB ms os ys

/-- The operations ahead of y that it is held against. -/
def checksOf (ms : List Nat) (os : List AOper) (ahead : List Nat) (y : Nat) : List Nat :=
  let cy := cls (os.getD y default).op
  ahead.filter fun x => let cx := cls (os.getD x default).op; !(ms.getD y 0).testBit x && (if cx == 2 then cy == 5 else if cy == 2 then cx == 1 else !autoB cx cy)

def itemsOf (ms : List Nat) (os : List AOper) : List Nat → List Nat → List (Nat × List Nat)
  | _, [] => []
  | ahead, y :: ys => (y, checksOf ms os ahead y) :: itemsOf ms os (ahead ++ [y]) ys

def backB (ops : Array Oper) : Bool := ops.toList.zipIdx.all fun (o, i) => o.after.toList.all fun e => !Region.binds .any e || decide (e.on < i)

def nodupB : List Nat → Bool
  | [] => true
  | x :: xs => !xs.contains x && nodupB xs

/-- The items of a region that draws its order, in the order in which they are carried out here. -/
def drawItems (nt : Nat) (ops : Array Oper) : Option (Nat × List DItem) :=
  let os := ops.toList.map (lowerOper P inv nt ops)
  let ms := masks ops
  let l := greedy ms os os.length 0
  if (List.range os.length).all (fun i => l.contains i) = true ∧ nodupB l = true ∧ l.all (fun i => decide (i < os.length)) = true ∧ backB ops = true ∧ pairsB ms os l = true then
    let its := itemsOf ms os [] l
    let cks := its.flatMap (·.2)
    some ((if os.any (fun o => decide (4 ≤ cls o.op)) then os.length else 0), its.map fun (k, ck) => { k, mem := cks.contains k, ck, o := os.getD k default })
  else none

def lowerCode (nt : Nat) : Code → ACode
  | .skip => .skip
  | .region _ ops false => .region (ops.toList.map (lowerOper P inv nt ops))
  | .region _ ops true => match drawItems P inv nt ops with
    | some (n, l) => .draw n l
    | none => .refuse ""
  | .seq a b => .seq (lowerCode nt a) (lowerCode nt b)
  | .cond c a b => match lowerOpd inv c with
    | some c => .cond c (lowerCode nt a) (lowerCode nt b)
    | none => .refuse ""
  | .block id b => .block id (lowerCode nt b)
  | .loop b => .loop (lowerCode nt b)
  | .rangeFunc f ps a b => match lowerOpd inv f with
    | some f => if ps.all (fun p => decide (p < nt)) then .rangeFunc f ps.toList (lowerCode nt a) (lowerCode nt b) else .refuse ""
    | none => .refuse ""
  | .exit id => .exit id
  | .ret => .ret
  | .label _ => .skip
  | .scope _ => .refuse ""
  | .goto _ => .refuse ""
  | .refuse _ => .refuse ""

def lowerRes : ResultVar → Option ARes
  | .tmp t => some (.tmp t)
  | .cell a t => match aggT P t, sizeT P t with
    | some g, some n => some (.cell a g n)
    | _, _ => none

def lowerRess : List ResultVar → Option (List ARes)
  | [] => some []
  | r :: rs => match lowerRes P r, lowerRess rs with
    | some a, some as => some (a :: as)
    | _, _ => none

def lowerFn (f : FuncId) : Option ABody :=
  match P.funcs[f]? with
  | some fn => if fn.name = "runtime.NumGoroutine" then none else match fn.body, lowerRess P fn.results.toList with
    | some c, some rs => some { nparams := fn.params.size, ntmps := fn.ntmps, res := rs, code := lowerCode P inv fn.ntmps c }
    | _, _ => none
  | none => none
end
end Go.Ae
