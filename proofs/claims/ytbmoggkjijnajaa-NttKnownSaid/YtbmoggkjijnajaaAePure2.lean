/- The operations that only read, all of them. -/
import Derived.Test.YtbmoggkjijnajaaAePure
namespace Go.Ae

section
variable {C : Ctx} {keep : Keep} {env : Env} {h : Heap} {w : World} {P : Program}

theorem arith_run (op : BinOp) (t : TypeId) (k : IntKind) (a b : Int) {v : AV} (h1 : op ≠ .shl) (h2 : op ≠ .shr) (hv : arithA op k a b = some v) (lk : Nat → FuncId) :
    (binOp op t (.int k a) (.int k b)).run P w = .ok (v.val lk env) w := by
  cases op
  case shl => exact absurd rfl h1
  case shr => exact absurd rfl h2
  case quo =>
    simp only [arithA] at hv
    split at hv
    · cases hv
    · rename_i hb; cases hv; simp [AV.val, binOp, Op.intDiv, hb]
  case rem =>
    simp only [arithA] at hv
    split at hv
    · cases hv
    · rename_i hb; cases hv; simp [AV.val, binOp, Op.intDiv, hb]
  all_goals first
    | (cases hv; simp [AV.val, binOp, Op.intArith]; done)
    | (cases hv; simp [AV.val, binOp, Op.intBits, bitsA]; done)
    | (cases hv; simp [AV.val, binOp, Op.intCmp]; done)
    | (cases hv; done)

theorem bin_run (op : BinOp) (t : TypeId) {x y v : AV} (hv : binA op x y = some v) (lk : Nat → FuncId) :
    (binOp op t (x.val lk env) (y.val lk env)).run P w = .ok (v.val lk env) w := by
  unfold binA at hv
  split at hv
  · split at hv
    · cases hv
    · rename_i hb; cases hv; simp [AV.val, binOp, Op.shift, hb]
  · split at hv
    · cases hv
    · rename_i hb; cases hv; simp [AV.val, binOp, Op.shift, hb]
  · rename_i h1 h2
    split at hv
    · rename_i hk
      subst hk
      exact arith_run _ t _ _ _ h1 h2 hv lk
    · cases hv
  · cases hv

theorem guard_run (op : BinOp) (t : TypeId) (x y : Operand) {a b v : AV} (hv : binA op a b = some v) (lk : Nat → FuncId) :
    (eqGuard op t x y (a.val lk env) (b.val lk env)).run P w = .ok () w := by
  have key : ∀ k m k' m', (eqGuard op t x y (.int k m) (.int k' m')).run P w = .ok () w := by
    intro k m k' m'; cases op <;> simp [eqGuard]
  unfold binA at hv
  split at hv <;> first | exact key _ _ _ _ | cases hv

theorem un_run (op : UnOp) {x v : AV} (hv : unA op x = some v) (lk : Nat → FuncId) : (Op.unary op (x.val lk env)).run P w = .ok (v.val lk env) w := by
  unfold unA at hv
  split at hv
  · cases hv; simp [AV.val, Op.unary, Op.intArith]
  · cases hv; simp [AV.val, Op.unary, Op.intBits, bitsA]
  · cases hv; simp [AV.val, Op.unary]
  · cases hv

theorem foldl_none {f : Option AV → AV → Option AV} (hf : ∀ y, f none y = none) : ∀ xs : List AV, xs.foldl f none = none
  | [] => rfl
  | y :: ys => by rw [List.foldl_cons, hf, foldl_none hf ys]

theorem max_run (lk : Nat → FuncId) : ∀ (xs : List AV) (k : IntKind) (n : Int) (v : AV), xs.foldl maxStep (some (.int k n)) = some v →
    ((xs.map (AV.val lk env)).foldlM Builtin.max2 (.int k n)).run P w = .ok (v.val lk env) w ∧ ∃ k m, v = .int k m
  | [], k, n, v, hv => by cases hv; exact ⟨by simp [AV.val], _, _, rfl⟩
  | y :: ys, k, n, v, hv => by
    rw [List.foldl_cons] at hv
    have hbad : maxStep (some (.int k n)) y = none → False := fun e => by rw [e, foldl_none (fun _ => rfl)] at hv; cases hv
    cases y with
    | int k' b =>
      by_cases hk : k = k'
      · subst hk
        have ih := max_run lk ys k (if b > n then b else n) v (by simpa [maxStep] using hv)
        refine ⟨?_, ih.2⟩
        simp only [List.map_cons, List.foldlM_cons, Sem.run_bind]
        rw [show (Builtin.max2 (.int k n) (AV.val lk env (.int k b))).run P w = .ok (.int k (if b > n then b else n)) w from by simp [AV.val, Builtin.max2]]
        exact ih.1
      · exact (hbad (by simp [maxStep, hk])).elim
    | _ => exact (hbad rfl).elim

theorem min_run (lk : Nat → FuncId) : ∀ (xs : List AV) (k : IntKind) (n : Int) (v : AV), xs.foldl minStep (some (.int k n)) = some v →
    ((xs.map (AV.val lk env)).foldlM Builtin.min2 (.int k n)).run P w = .ok (v.val lk env) w ∧ ∃ k m, v = .int k m
  | [], k, n, v, hv => by cases hv; exact ⟨by simp [AV.val], _, _, rfl⟩
  | y :: ys, k, n, v, hv => by
    rw [List.foldl_cons] at hv
    have hbad : minStep (some (.int k n)) y = none → False := fun e => by rw [e, foldl_none (fun _ => rfl)] at hv; cases hv
    cases y with
    | int k' b =>
      by_cases hk : k = k'
      · subst hk
        have ih := min_run lk ys k (if b < n then b else n) v (by simpa [minStep] using hv)
        refine ⟨?_, ih.2⟩
        simp only [List.map_cons, List.foldlM_cons, Sem.run_bind]
        rw [show (Builtin.min2 (.int k n) (AV.val lk env (.int k b))).run P w = .ok (.int k (if b < n then b else n)) w from by simp [AV.val, Builtin.min2]]
        exact ih.1
      · exact (hbad (by simp [minStep, hk])).elim
    | _ => exact (hbad rfl).elim

theorem maxA_run (lk : Nat → FuncId) (t : Array TypeId) (ty : TypeId) {xs : List AV} {v : AV} (hv : maxA xs = some v) :
    (Builtin.max_ t ty (xs.map (AV.val lk env)).toArray).run P w = .ok (v.val lk env) w ∧ ∃ k m, v = .int k m := by
  unfold maxA at hv
  split at hv
  · exact max_run lk _ _ _ v hv
  · cases hv

theorem minA_run (lk : Nat → FuncId) (t : Array TypeId) (ty : TypeId) {xs : List AV} {v : AV} (hv : minA xs = some v) :
    (Builtin.min_ t ty (xs.map (AV.val lk env)).toArray).run P w = .ok (v.val lk env) w ∧ ∃ k m, v = .int k m := by
  unfold minA at hv
  split at hv
  · exact min_run lk _ _ _ v hv
  · cases hv

theorem arithA_bel {p : Nat → Prop} {op : BinOp} {k : IntKind} {a b : Int} {v : AV} (hv : arithA op k a b = some v) : v.bel p := by
  cases op <;> simp only [arithA] at hv
  case quo => split at hv <;> cases hv; trivial
  case rem => split at hv <;> cases hv; trivial
  all_goals first
    | (cases hv; done)
    | (cases hv; trivial)

theorem binA_bel {p : Nat → Prop} {op : BinOp} {x y v : AV} (hv : binA op x y = some v) : v.bel p := by
  unfold binA at hv
  split at hv
  · split at hv <;> cases hv; trivial
  · split at hv <;> cases hv; trivial
  · split at hv
    · exact arithA_bel hv
    · cases hv
  · cases hv

theorem unA_bel {p : Nat → Prop} {op : UnOp} {x v : AV} (hv : unA op x = some v) : v.bel p := by
  unfold unA at hv
  split at hv <;> cases hv <;> trivial

/-- Equal rows, place by place. -/
theorem eqFields_run (lk : Nat → FuncId) (d : Nat) (xs ys : List AV) : ∀ (fs : List Field) (ls : List (Nat × Bool)) (r : Bool), leavesOf P fs = some ls → eqCells xs ys ls = some r →
    (Op.eqFields (d + 1) (xs.map (AV.val lk env)).toArray (ys.map (AV.val lk env)).toArray fs).run P w = .ok r w
  | [], ls, r, hl, he => by cases hl; cases he; simp [Op.eqFields]
  | f :: fs, ls, r, hl, he => by
    have hagg : ∀ dsc, P.underlying f.type = some dsc → (match dsc with | .struct _ | .array _ _ => true | _ => false) = false → aggT P f.type = some false := by
      intro dsc h1 h2
      unfold aggT; rw [h1]
      cases dsc <;> simp_all
    unfold leavesOf at hl
    split at hl
    · cases hl
    · rename_i hname
      have part1 : aggT P f.type = some false → ∀ (zs : List AV) (a : AV), zs[f.offset]? = some a → (part f.type (zs.map (AV.val lk env)).toArray f.offset).run P w = .ok (a.val lk env) w := by
        intro hg zs a ha
        simp [part, run_isAggT hg, ha]
      split at hl
      · rename_i k ls' hu hls
        cases hl
        simp only [eqCells] at he
        have hg := hagg _ hu rfl
        split at he
        · rename_i k1 a k2 b r' ha hb hr
          split at he
          · rename_i hk; cases he; subst hk
            have ih := eqFields_run lk d xs ys fs ls' r' hls hr
            simp only [Op.eqFields, if_pos hname, Sem.run_bind, part1 hg xs _ ha, part1 hg ys _ hb, Result.andThen_ok, AV.val, run_equalIn_int w d f.type k1 k a b hu]
            cases hab : (a == b) <;> simp [ih]
          · cases he
        · cases he
      · rename_i ls' hu hls
        cases hl
        simp only [eqCells] at he
        have hg := hagg _ hu rfl
        split at he
        · rename_i a b r' ha hb hr
          cases he
          have ih := eqFields_run lk d xs ys fs ls' r' hls hr
          simp only [Op.eqFields, if_pos hname, Sem.run_bind, part1 hg xs _ ha, part1 hg ys _ hb, Result.andThen_ok, AV.val, run_equalIn_bool' w d f.type a b hu]
          cases hab : (a == b) <;> simp [ih]
        · cases he
      · cases hl

end
end Go.Ae
