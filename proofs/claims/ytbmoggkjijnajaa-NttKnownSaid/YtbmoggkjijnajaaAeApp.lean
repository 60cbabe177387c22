/- append, copy, make, literals of slices. -/
import Derived.Test.YtbmoggkjijnajaaAeMem
namespace Go.Ae

section
variable {P : Program} {w : World}

def isIntD (d : TypeDesc) : Bool := d matches .int _

theorem isIntD_no {d : TypeDesc} (hne : ∀ k, d ≠ .int k) : isIntD d = false := by
  cases d <;> first | rfl | exact absurd rfl (hne _)

theorem zeros_at {d : TypeDesc} {b : Bool} (hb : isIntD d = b) (K : Bool → Sem Value) (w : World) :
    ((do let z ← pure (isIntD d); K z) : Sem Value).run P w = (K b).run P w := by
  rw [hb]; rfl

/-- What comes behind the reckoning of the length that is appended. -/
def appRest (e : TypeId) (size : Nat) (zeros : Bool) (base : Option Addr) (sLen sCap : Nat) (s x : Value) (n : Nat) : Sem Value := do
  let appended : Sem (Array Value) :=
    if !zeros then Builtin.firstCells size n x
    else if n * size = 0 then pure #[]
    else do pure (Builtin.zeroCells (← zeroValue e).cells n)
  let need := sLen + n
  if need ≤ sCap then
    let new ← appended
    if let some a := base then storeCells (a.add (sLen * size)) new.toList
    pure (.slice base need sCap)
  else
    if (need : Int) > IntKind.i64.max ∧ (zeros ∨ (← typeInfo e).bytes = 0) then runtimePanic (.error "growslice: len out of range")
    if Builtin.nextslicecap need sCap * (← typeInfo e).bytes > 2 ^ 48 then (if zeros then runtimePanic (.error "growslice: len out of range") else do
      if !(← Builtin.mayShare size sLen n base x) then mark .noRoom
      unsupported (.resourceLimit "append: a slice or a string whose bytes no memory bears"))
    let newCap ← choose (.appendCap need sCap e)
    askRoom (newCap * (← typeInfo e).bytes)
    let old ← Builtin.firstCells size sLen s
    let new ← appended
    let rest := Builtin.zeroCells (← zeroValue e).cells (newCap - need)
    pure (.slice (some (← newRow e (old ++ new ++ rest))) need newCap)

theorem run_append_no {argTypes : Array TypeId} {t ty e xt : TypeId} {i : TypeInfo} {d : TypeDesc} (h0 : argTypes[0]? = some t) (ht : P.underlying t = some (.slice e)) (hi : P.info? e = some i)
    (h1 : argTypes[1]? = some xt) (hd : P.underlying xt = some d) (hne : ∀ k, d ≠ .int k) {x : Value} {m : Nat} (hl : (Builtin.lenOf x).run P w = .ok m w) (base : Option Addr) (n c : Nat) :
    (Builtin.append_ argTypes ty #[.slice base n c, x]).run P w = (appRest e i.size false base n c (.slice base n c) x m).run P w := by
  unfold Builtin.append_
  simp only [h0, h1, List.getElem?_toArray, List.getElem?_cons_zero, List.getElem?_cons_succ]
  rw [Sem.run_bind, run_underlying ht, Result.andThen_ok]
  simp only
  rw [Sem.run_bind, show (sizeOf e).run P w = .ok i.size w from by simp [sizeOf, typeInfo, hi], Result.andThen_ok]
  rw [Sem.run_bind, run_underlying hd, Result.andThen_ok]
  refine (zeros_at (isIntD_no hne) _ w).trans ?_
  change (Builtin.lenOf x >>= fun k => appRest e i.size false base n c (.slice base n c) x k).run P w = _
  rw [Sem.run_bind, hl, Result.andThen_ok]

def zlen (e : TypeId) (l : Int) (K : Nat → Sem Value) : Sem Value := do
  if l * (← typeInfo e).bytes > 2 ^ 48 then
    let made ← choose (.extern "append.ofMake.carriedOut" 2)
    runtimePanic (.error (if made == 1 then "makeslice: len out of range" else "growslice: len out of range"))
  let n ← pure l.toNat
  K n

theorem run_append_zeros {argTypes : Array TypeId} {t ty e xt : TypeId} {i : TypeInfo} {k k' : IntKind} (h0 : argTypes[0]? = some t) (ht : P.underlying t = some (.slice e)) (hi : P.info? e = some i)
    (h1 : argTypes[1]? = some xt) (hd : P.underlying xt = some (.int k)) {m : Nat} (h63 : m ≤ 140737488355328) (h48 : m * i.bytes ≤ 281474976710656) (base : Option Addr) (n c : Nat) :
    (Builtin.append_ argTypes ty #[.slice base n c, .int k' m]).run P w = (appRest e i.size true base n c (.slice base n c) (.int k' m) m).run P w := by
  have wl : IntKind.i64.wrap (m : Int) = m := by rw [IntKind.wrap_i64]; omega
  have hno : ¬ ((281474976710656 : Int) < (m : Int) * i.bytes) := by
    have := Int.ofNat_le.2 h48
    rw [Int.natCast_mul] at this
    omega
  have hneg : ¬ ((m : Int) < 0) := by omega
  unfold Builtin.append_
  simp only [h0, h1, List.getElem?_toArray, List.getElem?_cons_zero, List.getElem?_cons_succ]
  rw [Sem.run_bind, run_underlying ht, Result.andThen_ok]
  simp only
  rw [Sem.run_bind, show (sizeOf e).run P w = .ok i.size w from by simp [sizeOf, typeInfo, hi], Result.andThen_ok]
  rw [Sem.run_bind, run_underlying hd, Result.andThen_ok]
  refine (zeros_at (d := .int k) (b := true) rfl _ w).trans ?_
  have e1 : (asInt (.int k' (m : Int))).run P w = .ok (m : Int) w := by simp [asInt, asIntOf]
  change (asInt (.int k' (m : Int)) >>= fun q => (if IntKind.i64.wrap q < 0 then runtimePanic (.error "makeslice: len out of range") >>= fun _ => zlen e (IntKind.i64.wrap q) (fun k => appRest e i.size true base n c (.slice base n c) (.int k' m) k)
    else zlen e (IntKind.i64.wrap q) (fun k => appRest e i.size true base n c (.slice base n c) (.int k' m) k))).run P w = _
  rw [Sem.run_bind, e1, Result.andThen_ok, wl, if_neg hneg]
  unfold zlen
  rw [Sem.run_bind, show (typeInfo e).run P w = .ok i w from by simp [typeInfo, hi], Result.andThen_ok, if_neg (show ¬ ((m : Int) * (i.bytes : Int) > 2 ^ 48) from hno), Int.toNat_natCast]
  rfl

/-- The cells that are appended. -/
def AppRuns (P : Program) (w : World) (e : TypeId) (i : TypeInfo) (zeros : Bool) (x : Value) (m : Nat) (news : List Value) : Prop :=
  ∀ w' : World, w'.heap = w.heap → ((if !zeros then Builtin.firstCells i.size m x else if m * i.size = 0 then pure #[] else do pure (Builtin.zeroCells (← zeroValue e).cells m) : Sem (Array Value))).run P w' = .ok news.toArray w'

theorem rest_room {e : TypeId} {i : TypeInfo} {zeros : Bool} {s x : Value} {m : Nat} {news : List Value} (A : AppRuns P w e i zeros x m news) {base : Option Addr} {n c : Nat} (hroom : n + m ≤ c) {w' : World}
    (hs : match base with | none => w' = w | some a => (storeCells (a.add (n * i.size)) news).run P w = .ok () w') :
    (appRest e i.size zeros base n c s x m).run P w = .ok (.slice base (n + m) c) w' := by
  unfold appRest
  simp only [hroom, if_true]
  rw [Sem.run_bind, A w rfl, Result.andThen_ok]
  cases base with
  | none => simp only at hs; subst hs; simp
  | some a => simp only at hs; simp [hs]

theorem rest_grow {e : TypeId} {i : TypeInfo} {z : Value} (hi : P.info? e = some i) (hz : i.zero = some z) {zeros : Bool} {s x : Value} {m : Nat} {news olds : List Value} (A : AppRuns P w e i zeros x m news) {base : Option Addr} {n c : Nat} (hroom : c < n + m)
    (h63 : n + m ≤ 2 ^ 47) (hby : (n + m) * i.bytes ≤ 2 ^ 47) (ho : ∀ w' : World, w'.heap = w.heap → (Builtin.firstCells i.size n s).run P w' = .ok olds.toArray w') :
    (appRest e i.size zeros base n c s x m).run P w =
      .ok (.slice (some ⟨w.heap.size, 0, none⟩) (n + m) (grownCap w (n + m) c e)) (w.drew.alloc (.cells (olds.toArray ++ news.toArray ++ Builtin.zeroCells z.cells (grownCap w (n + m) c e - (n + m))) e)) := by
  have hn : ¬ (n + m ≤ c) := by omega
  have h63' : ¬ ((((n + m : Nat) : Int) > IntKind.i64.max) ∧ (zeros = true ∨ i.bytes = 0)) := by
    rintro ⟨x, _⟩
    have : IntKind.i64.max = 9223372036854775807 := rfl
    rw [this] at x; omega
  have h48' : ¬ (Builtin.nextslicecap (n + m) c * i.bytes > 2 ^ 48) := Nat.not_lt.2 (growslice_fits hroom hby)
  have hfo := ho w.drew rfl
  have hA := A w.drew rfl
  unfold appRest
  simp only [hn, if_false]
  rw [Sem.run_bind]
  simp only [typeInfo, Sem.run_bind, run_program, hi, Result.andThen_ok, Sem.run_pure, h63', if_false, h48', run_choose, Question.forced, Bool.false_eq_true, run_askRoom]
  show Result.andThen (Sem.run P (Builtin.firstCells i.size n s) w.drew) _ = _
  rw [hfo, Result.andThen_ok, hA, Result.andThen_ok]
  simp only [zeroValue, typeInfo, Sem.run_bind, run_program, hi, Result.andThen_ok, Sem.run_pure, hz, newRow, run_newObj]
  rfl

end
end Go.Ae
