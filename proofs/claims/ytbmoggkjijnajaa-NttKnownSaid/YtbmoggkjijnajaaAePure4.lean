/- Every operation that only reads is carried out as the lowered one says. -/
import Derived.Test.YtbmoggkjijnajaaAePure3
namespace Go.Ae

theorem run_equal_nil {P : Program} (w : World) {t e : TypeId} (hu : P.underlying t = some (.slice e)) (b : Option Addr) (n c : Nat) : (Op.equal t (.slice b n c) (.slice none 0 0)).run P w = .ok b.isNone w := by
  have key : ∀ d, (Op.equalIn (d + 1) t (.slice b n c) (.slice none 0 0)).run P w = .ok b.isNone w := by
    intro d
    unfold Op.equalIn
    rw [Sem.run_bind, run_underlying hu, Result.andThen_ok]
    cases b <;> rfl
  exact key 9999

section
variable {C : Ctx} {keep : Keep} {env : Env} {h : Heap} {w : World}

theorem map_toArr {α β : Type} (f : α → β) (a : Array α) : a.map f = (a.toList.map f).toArray := by cases a; simp

theorem lens_run {b : Builtin} {args : List AOpd} {argTypes : Array TypeId} {aop : AOp} {ev : AOpd → AV} {v : AV} {ty : TypeId} {consts : Array Bool}
    (hl : lowerBuiltin C.P b args argTypes = some aop) (hb : ∀ a ∈ args.map ev, a.bel h.ok) (hc : ∀ v, ev (.const v) = v) (hv : pureA aop ev h = some v) :
    (builtin b argTypes ty consts ((args.map ev).map (AV.val C.lk env)).toArray).run C.P w = .ok (.value (v.val C.lk env)) w ∧ v.bel h.ok := by
  have hty : ∀ d, (argTypes[0]?).bind C.P.underlying = some d → ∃ t, argTypes[0]? = some t ∧ C.P.underlying t = some d := by
    intro d hd
    cases ht : argTypes[0]? with
    | none => simp [ht] at hd
    | some t => exact ⟨t, rfl, by simpa [ht] using hd⟩
  unfold lowerBuiltin at hl
  split at hl
  · -- len
    rename_i x
    split at hl
    · rename_i e hd
      obtain ⟨t, ht, hu⟩ := hty _ hd
      cases hl
      simp only [pureA] at hv
      split at hv
      · rename_i i o n c hx
        cases hv
        simp [builtin, Builtin.len_, ht, run_underlying hu, hx, AV.val, goInt, AV.bel]
      · rename_i hx
        cases hv
        simp [builtin, Builtin.len_, ht, run_underlying hu, hx, AV.val, goInt, AV.bel]
      · cases hv
    · rename_i n e hd
      obtain ⟨t, ht, hu⟩ := hty _ hd
      cases hl
      simp only [pureA, hc, Option.some.injEq] at hv
      subst hv
      simp [builtin, Builtin.len_, ht, run_underlying hu, AV.val, goInt, AV.bel]
    · cases hl
  · -- cap
    rename_i x
    split at hl
    · rename_i e hd
      obtain ⟨t, ht, hu⟩ := hty _ hd
      cases hl
      simp only [pureA] at hv
      split at hv
      · rename_i i o n c hx
        cases hv
        simp [builtin, Builtin.cap_, ht, run_underlying hu, hx, AV.val, goInt, AV.bel, Cap.at]
      · rename_i hx
        cases hv
        simp [builtin, Builtin.cap_, ht, run_underlying hu, hx, AV.val, goInt, AV.bel]
      · cases hv
    · cases hl
  · -- append
    repeat' split at hl
    all_goals first
      | (cases hl; done)
      | (cases hl; simp [pureA] at hv)
  · -- copy
    split at hl
    · simp only [Option.map_eq_some_iff] at hl
      obtain ⟨n, _, rfl⟩ := hl
      simp [pureA] at hv
    · cases hl
  · cases hl
    simp only [pureA] at hv
    obtain ⟨h1, k, m, rfl⟩ := maxA_run (P := C.P) (env := env) (w := w) C.lk argTypes ty hv
    exact ⟨by simp only [builtin, Sem.run_bind, h1, Result.andThen_ok, Sem.run_pure], trivial⟩
  · cases hl
    simp only [pureA] at hv
    obtain ⟨h1, k, m, rfl⟩ := minA_run (P := C.P) (env := env) (w := w) C.lk argTypes ty hv
    exact ⟨by simp only [builtin, Sem.run_bind, h1, Result.andThen_ok, Sem.run_pure], trivial⟩
  · cases hl

theorem pure_sound (R : Rel C keep env h w) {ρ : Operand → Value} {ev : AOpd → AV} (hρ : ∀ x ax, lowerOpd C.inv x = some ax → ρ x = (ev ax).val C.lk env ∧ (ev ax).bel h.ok)
    (hc : ∀ v, ev (.const v) = v) {o : Oper} {aop : AOp} (hl : lowerOp C.P C.inv o.op = some aop) {v : AV} (hv : pureA aop ev h = some v) : PureRun C env h w ρ o v := by
  unfold PureRun
  cases hop : o.op with
  | move x =>
    rw [hop] at hl
    simp only [lowerOp, Option.map_eq_some_iff] at hl
    obtain ⟨a, ha, rfl⟩ := hl
    cases hv
    simp [execOp, hop, (hρ x a ha).1, (hρ x a ha).2]
  | assign x =>
    rw [hop] at hl
    simp only [lowerOp, Option.map_eq_some_iff] at hl
    obtain ⟨a, ha, rfl⟩ := hl
    cases hv
    simp [execOp, hop, (hρ x a ha).1, (hρ x a ha).2]
  | pick c a b =>
    rw [hop] at hl
    simp only [lowerOp] at hl
    split at hl
    · rename_i c' a' b' h1 h2 h3
      cases hl
      simp only [pureA] at hv
      split at hv
      · rename_i t ht
        cases hv
        have e1 := (hρ c c' h1).1
        rw [ht] at e1
        cases t <;> simp [execOp, hop, e1, AV.val, asBool, (hρ a a' h2).1, (hρ b b' h3).1, (hρ a a' h2).2, (hρ b b' h3).2]
      · cases hv
    · cases hl
  | build t parts =>
    rw [hop] at hl
    obtain ⟨z, ps, rfl, hb⟩ := build_sound (w := w) hρ (show lowerBuild C.P C.inv t parts = some aop from hl)
    simp only [pureA, Option.map_eq_some_iff] at hv
    obtain ⟨out, hout, rfl⟩ := hv
    have := hb out hout
    exact ⟨by simp only [execOp, hop, Sem.run_bind, this.1, Result.andThen_ok, Sem.run_pure], this.2⟩
  | load t a =>
    rw [hop] at hl
    simp only [lowerOp] at hl
    split at hl
    · rename_i a' g n h1 h2 h3
      cases hl
      simp only [pureA] at hv
      have := load_sound R h2 h3 hv
      exact ⟨by simp only [execOp, hop, Sem.run_bind, (hρ a a' h1).1, this.1, Result.andThen_ok, Sem.run_pure], this.2⟩
    · cases hl
  | nilCheck x =>
    rw [hop] at hl
    simp only [lowerOp, Option.map_eq_some_iff] at hl
    obtain ⟨a, ha, rfl⟩ := hl
    simp only [pureA] at hv
    have hb := (hρ x a ha).2
    split at hv <;> first
      | (cases hv; done)
      | (rename_i e; cases hv; rw [e] at hb; refine ⟨?_, hb⟩; simp [execOp, hop, (hρ x a ha).1, e, AV.val])
  | binOp op xt x y yt =>
    rw [hop] at hl
    simp only [lowerOp] at hl
    split at hl
    · rename_i x' y' h1 h2
      have plain : aop = .bin op x' y' → (execOp ρ o).run C.P w = .ok (.value (v.val C.lk env)) w ∧ v.bel h.ok := by
        rintro rfl
        simp only [pureA] at hv
        exact ⟨by simp only [execOp, hop, Sem.run_bind, (hρ x x' h1).1, (hρ y y' h2).1, guard_run op xt x y hv C.lk, bin_run op xt hv C.lk, Result.andThen_ok, Sem.run_pure], binA_bel hv⟩
      have bools : ∀ neg, C.P.underlying xt = some .bool → op = (if neg then .neq else .eql) → aop = .eqb neg x' y' → (execOp ρ o).run C.P w = .ok (.value (v.val C.lk env)) w ∧ v.bel h.ok := by
        rintro neg hu hneg rfl
        simp only [pureA] at hv
        split at hv
        · rename_i a b ea eb
          cases hv
          refine ⟨?_, trivial⟩
          have q := run_equal_bool (P := C.P) w xt a b hu
          have e1 := (hρ x x' h1).1
          have e2 := (hρ y y' h2).1
          rw [ea] at e1; rw [eb] at e2
          cases neg
          · simp only [Bool.false_eq_true, if_false] at hneg
            subst hneg
            simp [execOp, hop, e1, e2, AV.val, eqGuard, binOp, q]
          · simp only [if_true] at hneg
            subst hneg
            simp [execOp, hop, e1, e2, AV.val, eqGuard, binOp, q]
        · cases hv
      have nils : ∀ neg e, C.P.underlying xt = some (.slice e) → op = (if neg then .neq else .eql) → y' = .const .nilslice → aop = .eqn neg x' → (execOp ρ o).run C.P w = .ok (.value (v.val C.lk env)) w ∧ v.bel h.ok := by
        rintro neg e hu hneg rfl rfl
        simp only [pureA] at hv
        have e1 := (hρ x x' h1).1
        have e2 := (hρ y _ h2).1
        rw [hc] at e2
        simp only [AV.val] at e2
        split at hv
        · rename_i i off n cp ea
          cases hv
          rw [ea] at e1
          simp only [AV.val] at e1
          have q := run_equal_nil (P := C.P) w hu (some ⟨(env i).blk, (env i).sh + off, none⟩) n (cp.at (env i))
          refine ⟨?_, trivial⟩
          cases neg
          · simp only [Bool.false_eq_true, if_false] at hneg
            subst hneg
            simp [execOp, hop, e1, e2, AV.val, eqGuard, binOp, q]
          · simp only [if_true] at hneg
            subst hneg
            simp [execOp, hop, e1, e2, AV.val, eqGuard, binOp, q]
        · rename_i ea
          cases hv
          rw [ea] at e1
          simp only [AV.val] at e1
          have q := run_equal_nil (P := C.P) w hu none 0 0
          refine ⟨?_, trivial⟩
          cases neg
          · simp only [Bool.false_eq_true, if_false] at hneg
            subst hneg
            simp [execOp, hop, e1, e2, AV.val, eqGuard, binOp, q]
          · simp only [if_true] at hneg
            subst hneg
            simp [execOp, hop, e1, e2, AV.val, eqGuard, binOp, q]
        · cases hv
      have structs : ∀ neg fs ls, C.P.underlying xt = some (.struct fs) → (C.P.stoodInHeld xt = false ∧ C.P.eqGuardType C.P.depth xt = false) → leavesOf C.P fs.toList = some ls →
          op = (if neg then .neq else .eql) → aop = .eqs neg ls x' y' → (execOp ρ o).run C.P w = .ok (.value (v.val C.lk env)) w ∧ v.bel h.ok := by
        rintro neg fs ls hu ⟨hst, hgt⟩ hls hneg rfl
        simp only [pureA] at hv
        split at hv
        · rename_i xs ys ea eb
          simp only [Option.map_eq_some_iff] at hv
          obtain ⟨r, hr, rfl⟩ := hv
          have e1 := (hρ x x' h1).1
          have e2 := (hρ y y' h2).1
          rw [ea] at e1; rw [eb] at e2
          simp only [AV.val, vals_eq] at e1 e2
          have hfo : C.P.fieldsOf xt = fs := by simp [Program.fieldsOf, hu]
          have q := run_equalIn_struct (P := C.P) w 9999 xt (xs.map (AV.val C.lk env)).toArray (ys.map (AV.val C.lk env)).toArray (by rw [hfo]; exact hu) hst
          rw [hfo, eqFields_run C.lk 9998 xs ys fs.toList ls r hls hr] at q
          have g := fun op' => run_eqGuard_agg (P := C.P) w op' xt x y (xs.map (AV.val C.lk env)).toArray (ys.map (AV.val C.lk env)).toArray hgt
          refine ⟨?_, trivial⟩
          cases neg
          · simp only [Bool.false_eq_true, if_false] at hneg
            subst hneg
            simp only [execOp, hop, e1, e2, Sem.run_bind, g, Result.andThen_ok, run_eql_struct, q, Sem.run_pure]
            simp [AV.val]
          · simp only [if_true] at hneg
            subst hneg
            simp only [execOp, hop, e1, e2, Sem.run_bind, g, Result.andThen_ok, run_neq_struct, q, Sem.run_pure]
            simp [AV.val]
        · cases hv
      split at hl
      · cases hl; exact plain rfl
      · cases hl; exact plain rfl
      · rename_i hu; cases hl; exact bools false hu rfl rfl
      · rename_i hu; cases hl; exact bools true hu rfl rfl
      · rename_i fs hu
        split at hl
        · rename_i hcond
          simp only [Option.map_eq_some_iff] at hl
          obtain ⟨ls, hls, rfl⟩ := hl
          exact structs false fs ls hu hcond hls rfl rfl
        · cases hl
      · rename_i fs hu
        split at hl
        · rename_i hcond
          simp only [Option.map_eq_some_iff] at hl
          obtain ⟨ls, hls, rfl⟩ := hl
          exact structs true fs ls hu hcond hls rfl rfl
        · cases hl
      · rename_i e hu
        split at hl
        · cases hl; exact nils false e hu rfl rfl rfl
        · cases hl
      · rename_i e hu
        split at hl
        · cases hl; exact nils true e hu rfl rfl rfl
        · cases hl
      · cases hl
      · cases hl
      · cases hl; exact plain rfl
      · cases hl
    · cases hl
  | unOp op xt x =>
    rw [hop] at hl
    simp only [lowerOp] at hl
    split at hl
    · rename_i x' k h1 h2
      cases hl
      simp only [pureA] at hv
      exact ⟨by simp only [execOp, hop, Sem.run_bind, (hρ x x' h1).1, un_run op hv C.lk, Result.andThen_ok, Sem.run_pure], unA_bel hv⟩
    · rename_i x' h1 h2
      cases hl
      simp only [pureA] at hv
      exact ⟨by simp only [execOp, hop, Sem.run_bind, (hρ x x' h1).1, un_run op hv C.lk, Result.andThen_ok, Sem.run_pure], unA_bel hv⟩
    · cases hl
  | convert s d x =>
    rw [hop] at hl
    simp only [lowerOp] at hl
    split at hl
    · rename_i x' k1 k h1 h2 h3
      cases hl
      simp only [pureA] at hv
      split at hv
      · rename_i k0 n e
        cases hv
        refine ⟨?_, trivial⟩
        have e1 := (hρ x x' h1).1
        rw [e] at e1
        simp [execOp, hop, e1, AV.val, convert, run_underlying h2, run_underlying h3, Conv.intToInt]
      · cases hv
    · cases hl
  | makeFunc fn first captured =>
    rw [hop] at hl
    cases fn with
    | func f =>
      simp only [lowerOp] at hl
      split at hl
      · rename_i g a c h1 h2 h3
        cases hl
        cases hv
        have q1 := lowerOpds_spec hρ h2
        have q2 := lowerOpds_spec hρ h3
        have e1 : first.map ρ = ((a.map ev).map (AV.val C.lk env)).toArray := by rw [← q1.1, ← map_toArr]
        have e2 : captured.map ρ = ((c.map ev).map (AV.val C.lk env)).toArray := by rw [← q2.1, ← map_toArr]
        refine ⟨?_, (bels_iff _ _).2 q1.2, (bels_iff _ _).2 q2.2⟩
        simp only [execOp, hop, Instr.makeFunc, Sem.run_bind, Sem.run_pure, Result.andThen_ok, AV.val, vals_eq, C.hinv _ _ h1, e1, e2]
      · cases hl
    | _ => simp [lowerOp] at hl
  | slice t x lo hi mx =>
    rw [hop] at hl
    simp only [lowerOp] at hl
    split at hl
    · rename_i e x' lo' hi' mx' h1 h2 h3 h4 h5
      split at hl
      · rename_i n hn
        split at hl
        · rename_i hpos
          cases hl
          simp only [pureA] at hv
          have q := slice_sound R h1 hn hpos (hρ x x' h2).2 hv
          refine ⟨?_, q.2⟩
          simp only [execOp, hop, Sem.run_bind, (hρ x x' h2).1, lowerOpt_spec hρ h3, lowerOpt_spec hρ h4, lowerOpt_spec hρ h5, q.1, Result.andThen_ok, Sem.run_pure]
        · cases hl
      · cases hl
    · cases hl
  | fieldAddr s x f =>
    rw [hop] at hl
    simp only [lowerOp] at hl
    split at hl
    · rename_i fields x' h1 h2
      split at hl
      · rename_i fd hfd
        split at hl
        · rename_i n hn
          split at hl
          · cases hl
          · rename_i hne
            cases hl
            simp only [pureA] at hv
            split at hv
            · rename_i i o e
              cases hv
              have e1 := hρ x x' h2
              rw [e] at e1
              refine ⟨?_, e1.2⟩
              simp [execOp, hop, e1.1, AV.val, Instr.fieldAt, run_underlying h1, hfd, Instr.sureAddr, fieldPlace, run_sizeT hn, hne, add_lit, Nat.add_assoc]
            · cases hv
        · cases hl
      · cases hl
    · cases hl
  | field t x f =>
    rw [hop] at hl
    simp only [lowerOp] at hl
    split at hl
    · rename_i fields x' h1 h2
      split at hl
      · rename_i fd hfd
        split at hl
        · rename_i g n h3 h4
          cases hl
          simp only [pureA] at hv
          split at hv
          · rename_i vs e
            have e1 := hρ x x' h2
            rw [e] at e1
            have q := partA_sound (w := w) (env := env) h3 h4 hv ((bels_iff _ _).1 e1.2)
            refine ⟨?_, q.2⟩
            simp only [AV.val, vals_eq] at e1
            simp [execOp, hop, e1.1, Instr.field, run_underlying h1, hfd, asAgg, q.1]
          · cases hv
        · cases hl
      · cases hl
    · cases hl
  | indexAddr t x i =>
    rw [hop] at hl
    simp only [lowerOp] at hl
    split at hl
    · rename_i e x' i' h1 h2 h3
      simp only [Option.map_eq_some_iff] at hl
      obtain ⟨n, hn, rfl⟩ := hl
      simp only [pureA] at hv
      split at hv
      · rename_i b o m c k j ex ei
        split at hv
        · rename_i hcond
          cases hv
          have e1 := hρ x x' h2
          have e2 := (hρ i i' h3).1
          rw [ex] at e1; rw [ei] at e2
          refine ⟨?_, e1.2⟩
          simp [execOp, hop, e1.1, e2, AV.val, Instr.indexAt, asIntOf, run_underlying h1, hcond, run_sizeT hn, add_lit, Nat.add_assoc]
        · cases hv
      · cases hv
    · rename_i len e x' i' h1 h2 h3
      simp only [Option.map_eq_some_iff] at hl
      obtain ⟨n, hn, rfl⟩ := hl
      simp only [pureA] at hv
      split at hv
      · rename_i b o k j ex ei
        split at hv
        · rename_i hcond
          cases hv
          have e1 := hρ x x' h2
          have e2 := (hρ i i' h3).1
          rw [ex] at e1; rw [ei] at e2
          refine ⟨?_, e1.2⟩
          simp [execOp, hop, e1.1, e2, AV.val, Instr.indexAt, asIntOf, run_underlying h1, hcond, run_sizeT hn, add_lit, Nat.add_assoc, Instr.sureAddr]
        · cases hv
      · cases hv
    · cases hl
  | index t x i =>
    rw [hop] at hl
    simp only [lowerOp] at hl
    split at hl
    · rename_i len e x' i' h1 h2 h3
      split at hl
      · rename_i g n h4 h5
        cases hl
        simp only [pureA] at hv
        split at hv
        · rename_i vs k j ex ei
          split at hv
          · rename_i hcond
            have e1 := hρ x x' h2
            have e2 := (hρ i i' h3).1
            rw [ex] at e1; rw [ei] at e2
            have q := partA_sound (w := w) (env := env) h4 h5 hv ((bels_iff _ _).1 e1.2)
            refine ⟨?_, q.2⟩
            simp only [AV.val, vals_eq] at e1
            simp [execOp, hop, e1.1, e2, AV.val, Instr.index, asIntOf, run_underlying h1, hcond, run_sizeT h5, q.1]
          · cases hv
        · cases hv
      · cases hl
    · cases hl
  | extract x i =>
    rw [hop] at hl
    simp only [lowerOp, Option.map_eq_some_iff] at hl
    obtain ⟨a, ha, rfl⟩ := hl
    simp only [pureA] at hv
    split at hv
    · rename_i vs e
      have e1 := hρ x a ha
      rw [e] at e1
      refine ⟨?_, mem_bel e1.2 hv⟩
      simp only [AV.val, vals_eq] at e1
      simp [execOp, hop, e1.1, Instr.extract, hv]
    · cases hv
  | call c =>
    rw [hop] at hl
    have hl' : lowerCall C.P C.inv c = some aop := hl
    unfold lowerCall at hl'
    split at hl'
    · rename_i args hargs
      have q := lowerOpds_spec hρ hargs
      have e1 : c.args.map ρ = ((args.map ev).map (AV.val C.lk env)).toArray := by rw [← q.1, ← map_toArr]
      split at hl'
      · simp only [Option.map_eq_some_iff] at hl'
        obtain ⟨f, _, rfl⟩ := hl'
        simp [pureA] at hv
      · rename_i b hcal
        have r := lens_run (env := env) (w := w) (ty := o.type) (consts := c.args.map fun | .const _ => true | _ => false) hl' q.2 hc hv
        refine ⟨?_, r.2⟩
        simp only [execOp, hop, resolve, hcal, Sem.run_bind, Sem.run_pure, Result.andThen_ok, invoke, e1]
        exact r.1
      · cases hl'
    · cases hl'
  | alloc e =>
    rw [hop] at hl
    simp only [lowerOp, Option.map_eq_some_iff] at hl
    obtain ⟨z, _, rfl⟩ := hl
    simp [pureA] at hv
  | box e x =>
    rw [hop] at hl
    simp only [lowerOp, Option.map_eq_some_iff] at hl
    obtain ⟨z, _, rfl⟩ := hl
    simp [pureA] at hv
  | buildSlice t n ps =>
    rw [hop] at hl
    have hl' : lowerBuildSlice C.P C.inv t n ps = some aop := hl
    unfold lowerBuildSlice at hl'
    repeat' split at hl'
    all_goals first
      | (cases hl'; done)
      | (simp only [Option.map_eq_some_iff] at hl'; obtain ⟨_, _, rfl⟩ := hl'; simp [pureA] at hv)
  | store t a x =>
    rw [hop] at hl
    simp only [lowerOp] at hl
    split at hl
    · cases hl; simp [pureA] at hv
    · cases hl
  | makeSlice t l c =>
    rw [hop] at hl
    simp only [lowerOp] at hl
    repeat' split at hl
    all_goals first
      | (cases hl; done)
      | (cases hl; simp [pureA] at hv)
  | _ => rw [hop] at hl; simp [lowerOp] at hl

end
end Go.Ae
