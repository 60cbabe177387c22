/- Texts of the proof, part 3: a second reading of the lowered code, proved sound, and what the functions compute. -/
import Derived.Great.BuildSlice
import Derived.Test.YtkcefboocpfgjaaGreatQ2
set_option linter.unusedSimpArgs false
set_option linter.unusedVariables false
namespace Go.Ae
section
variable {C : Ctx} {keep : Keep} {env : Env} {h : Heap} {w : World}
theorem VRun.op {nid : Option Nat} {run : Result Value} {v : AV} {h' : Heap} (V : VRun C keep env h w nid run v h') {r : Result Next} (hr : ∀ x w', run = .ok x w' → r = .ok (.value x) w') : OpRun C keep env h w nid r v h' := by
 obtain ⟨env', w', a, b, c, d, e, f, g⟩ := V
 exact ⟨env', w', _, hr _ _ a, .inl rfl, b, c, d, e, f, g⟩
theorem jcz (n : Nat) (z : List AV) : (jaH n z).length = n * z.length := by
 unfold jaH; split <;> simp
theorem jfA {α : Type} (z : List α) (hz : 0 < z.length) : ∀ (n k : Nat), k < n * z.length → (List.replicate n z).flatten[k]? = z[k % z.length]?
 | 0, k, hk => by omega
 | n + 1, k, hk => by
  rw [List.replicate_succ, List.flatten_cons, List.getElem?_append]
  by_cases h : k < z.length
  ·rw [if_pos h, Nat.mod_eq_of_lt h]
  ·rw [if_neg h, jfA z hz n (k - z.length) (by rw [Nat.add_mul] at hk; omega), ← Nat.mod_eq_sub_mod (by omega)]
theorem jld (n : Nat) (z : List AV) (hz : 0 < z.length) (k : Nat) (hk : k < n * z.length) : (jaH n z)[k]? = z[k % z.length]? := by
 unfold jaH
 split
 ·rename_i x
  simp only [List.length_singleton, Nat.mul_one] at hk
  simp [hk, Nat.mod_one]
 ·exact jfA z hz n k hk
theorem jew {n : Nat} {z : List AV} {v : AV} (hv : v ∈ jaH n z) : v ∈ z := by
 unfold jaH at hv
 split at hv
 ·have := List.eq_of_mem_replicate hv; simp [this]
 ·rw [List.mem_flatten] at hv
  obtain ⟨l, hl, hv⟩ := hv
  rw [List.eq_of_mem_replicate hl] at hv
  exact hv
theorem jjf (lk : Nat → FuncId) (env : Env) {z : List AV} {v : Value} (hzv : z.map (AV.val lk env) = v.cells.toList) (hz : 0 < z.length) (n : Nat) :
  ((jaH n z).map (AV.val lk env)).toArray = (Array.range (n * z.length)).map (v.cells[· % v.cells.size]!) := by
 have hsz : v.cells.size = z.length := by rw [← Array.length_toList, ← hzv]; simp
 apply Array.ext'
 apply List.ext_getElem?
 intro k
 simp only [List.getElem?_map, Array.toList_map, Array.toList_range]
 by_cases hk : k < n * z.length
 ·rw [jld n z hz k hk, List.getElem?_range hk]
  have hm : k % z.length < z.length := Nat.mod_lt _ hz
  have : v.cells[k % v.cells.size]! = (z[k % z.length]).val lk env := by
   rw [hsz, getElem!_pos v.cells (k % z.length) (by omega)]
   have := congrArg (fun l : List Value => l[k % z.length]?) hzv
   simp only [List.getElem?_map, Array.getElem?_toList, List.getElem?_eq_getElem hm, Array.getElem?_eq_getElem (show k % z.length < v.cells.size by omega), Option.map_some, Option.some.injEq] at this
   exact this.symm
  simp [List.getElem?_eq_getElem hm, this]
 ·have h1 : (jaH n z)[k]? = none := List.getElem?_eq_none (by rw [jcz]; omega)
  have h2 : (List.range (n * z.length))[k]? = none := List.getElem?_eq_none (by simp; omega)
  rw [h1, h2]; rfl
theorem jle (R : Rel C keep env h w) {t e : TypeId} (ht : C.P.underlying t = some (.slice e)) {z : List AV} (hz : zcells C.P e = some z) {by_ : Nat} (hb : jh3 C.P e = some by_) (hpos : 0 < z.length) {kl kc : IntKind} {l c : Int}
  (h0 : 0 ≤ l) (hlc : l ≤ c) (hby : c * by_ ≤ 2 ^ 47) (hc : c ≤ 2 ^ 47) {nid : Option Nat} (hr : h.room nid = true) :
  VRun C keep env h w nid ((Instr.makeSlice t (.int kl l) (.int kc c)).run C.P w) (.slice (h.nid nid) 0 l.toNat (.known c.toNat)) (h.new nid (.cells (jaH c.toNat z) true 0)) := by
 obtain ⟨i, v, hi, hv, hs, hzv, hzl, hzb, _⟩ := jbw hz C.lk env h.ok
 have hbi : i.bytes = by_ := by simpa [jh3, hi] using hb
 have hm := run_make (P := C.P) w t e i v ht hi hv kl kc l c h0 hlc (by rw [hbi, Int.mul_comm]; omega) (by omega)
 have hcells : madeCells v.cells (c.toNat * i.size) = ((jaH c.toNat z).map (AV.val C.lk env)).toArray := by
  rw [jjf C.lk env hzv hpos, hzl]; rfl
 rw [hcells] at hm
 have A := jdZ R hr (jaH c.toNat z) 0 0 ((jaH c.toNat z).map (AV.val C.lk env)).toArray e (jg2 C.lk env _) (fun x => by omega) (fun v hv => hzb v (jew hv))
 refine ⟨_, _, hm.trans ?_, A.1, A.2.1, A.2.2, jdd hr _, jde hr _, (jb4 hr).2 (.inl rfl)⟩
 simp [AV.val, updE, Cap.at]
theorem jcj (n : Nat) (z : List AV) : (List.replicate n z).flatten = jaH n z := by
 unfold jaH
 split
 ·simp
 ·rfl
theorem jff (R : Rel C keep env h w) {ρ : Operand → Value} {ev : AOpd → AV} (hρ : ∀ x ax, lowerOpd C.inv x = some ax → ρ x = (ev ax).val C.lk env ∧ (ev ax).bel h.ok)
  {t : TypeId} {n : Nat} {parts : Array (Nat × Operand)} {aop : AOp} (hl : jaA C.P C.inv t n parts = some aop) :
  ∃ z ps, aop = .buildSlice n z ps ∧ ∀ out nid, h.room nid = true → fillA z (ps.map fun p => (p.1, p.2.1, ev p.2.2)) = some out →
   VRun C keep env h w nid ((Instr.buildSlice t n (parts.map fun (i, x) => (i, ρ x))).run C.P w) (.slice (h.nid nid) 0 n (.known n)) (h.new nid (.cells out true 0)) := by
 have hparts : (parts.map fun (x : Nat × Operand) => (x.1, ρ x.2)).toList = parts.toList.map fun p => (p.1, ρ p.2) := by simp
 unfold jaA at hl
 split at hl
 ·rename_i e ht
  split at hl
  ·rename_i z sz hz hn
   split at hl
   ·rename_i hc
    simp only [Option.map_eq_some_iff] at hl
    obtain ⟨as, has, rfl⟩ := hl
    refine ⟨_, as, rfl, fun out nid hr hout => ?_⟩
    obtain ⟨i, v, hi, hv, hs, hzv, hzl, hzb, _⟩ := jbw hz C.lk env h.ok
    obtain ⟨i', hi', hsi⟩ := jes hn
    rw [hi] at hi'; cases hi'
    have hp := jbp hρ _ _ _ has
    have hfill := jdV C.lk env _ _ _ _ out hp.1 hout
    rw [jcj, jjf C.lk env hzv (by omega)] at hfill
    have hbel := jdW (p := fun v => v.bel h.ok) _ _ _ hout (fun v hv => by rw [jcj] at hv; exact hzb v (jew hv)) hp.2
    have A := jdZ R hr out 0 0 (out.map (AV.val C.lk env)).toArray e (jg2 C.lk env _) (fun x => by omega) hbel
    rw [hzl] at hfill
    by_cases hn0 : n = 0
    ·subst hn0
     have hlen : out.length = 0 := by rw [jeW _ _ _ hout]; simp
     have hout0 : out = [] := List.eq_nil_of_length_eq_zero hlen
     have hrun : (Instr.buildSlice t 0 (parts.map fun (x : Nat × Operand) => (x.1, ρ x.2))).run C.P w = .ok (.slice (some ⟨w.heap.size, 0, none⟩) 0 0) (w.alloc (.cells (out.map (AV.val C.lk env)).toArray e)) := by
      simp only [Nat.zero_mul, ← hsi] at hfill
      simp only [Instr.buildSlice, Sem.run_bind, run_underlying ht, Result.andThen_ok, sizeOf, typeInfo, run_program, hi, Sem.run_pure, Nat.zero_mul]
      simp only [Array.range_zero', List.map_toArray, List.map_nil] at hfill
      have e0 : Array.map (fun _ : Nat => (default : Value)) (Array.range 0) = #[] := by rw [Array.range_zero']; simp
      simp [e0, hfill, newRow]
     refine ⟨_, _, hrun.trans ?_, A.1, A.2.1, A.2.2, jdd hr _, jde hr _, (jb4 hr).2 (.inl rfl)⟩
     simp [AV.val, updE, Cap.at]
    ·have hrun := run_buildSlice (P := C.P) w t e n (parts.map fun (x : Nat × Operand) => (x.1, ρ x.2)) (out.map (AV.val C.lk env)).toArray i v ht hi hv (by rw [hsi]; omega)
      (by rw [hsi]; intro x; rcases Nat.mul_eq_zero.1 x with x | x <;> omega) (by rw [hparts, hsi]; rw [hsi] at hfill; exact hfill)
     refine ⟨_, _, hrun.trans ?_, A.1, A.2.1, A.2.2, jdd hr _, jde hr _, (jb4 hr).2 (.inl rfl)⟩
     simp [AV.val, updE, Cap.at]
   ·cases hl
  ·cases hl
 ·cases hl
theorem jjg (R : Rel C keep env h w) {argTypes : Array TypeId} {t ty e : TypeId} {sz : Nat} (h0 : argTypes[0]? = some t) (ht : C.P.underlying t = some (.slice e)) (hn : sizeT C.P e = some sz) {d s : AV} (hd : d.bel h.ok) {nid : Option Nat} {v : AV} {h' : Heap}
  (hc : copyA h sz d s = some (v, h')) : VRun C keep env h w nid ((Builtin.copy_ argTypes ty #[d.val C.lk env, s.val C.lk env]).run C.P w) v h' := by
 unfold copyA at hc
 split at hc
 ·rename_i mc hs
  obtain ⟨m, cs⟩ := mc
  cases hc
  obtain ⟨h1, h2, h3, h4⟩ := jbN R hs
  have hf := jbx R hs 0 (Nat.zero_le _)
  refine VRun.same R nid ?_ trivial
  simp only [AV.val]
  simp [Builtin.copy_, h0, run_underlying ht, h1, jaB hn, hf, goInt]
 ·rename_i i o n c m cs hs
  split at hc
  ·rename_i vs u hi
   dsimp only at hc
   split at hc
   ·rename_i hcond
    cases hc
    obtain ⟨h1, h2, h3, h4⟩ := jbN R hs
    have hle : min m n ≤ m := Nat.min_le_left _ _
    have hf := jbx R hs (min m n) hle
    have hlen : (cs.take (min m n * sz)).length = min m n * sz := by
     have := Nat.mul_le_mul_right sz hle
     simp; omega
    obtain ⟨w', hst, r1, r2⟩ := jg3 R hi (o := o) (cs := cs.take (min m n * sz)) (by rw [hlen]; exact hcond.1) hcond.2 (fun v hv => h2 v (List.mem_of_mem_take hv))
    refine VRun.put R nid hi r1 r2 ?_ trivial
    simp only [AV.val]
    have hmin : Nat.min m n = min m n := rfl
    simp only [Builtin.copy_, h0, List.getElem?_toArray, List.getElem?_cons_zero, List.getElem?_cons_succ, Sem.run_bind, run_underlying ht, Result.andThen_ok, h1, hmin, jaB hn, hf, hst, Sem.run_pure, goInt]
   ·cases hc
  ·cases hc
 ·cases hc
theorem jck {b : Builtin} {args : List AOpd} {argTypes : Array TypeId} {d : TypeDesc} (hd : (argTypes[0]?).bind C.P.underlying = some d) : ∃ t, argTypes[0]? = some t ∧ C.P.underlying t = some d := by
 cases ht : argTypes[0]? with
 | none => simp [ht] at hd
 | some t => exact ⟨t, rfl, by simpa [ht] using hd⟩
theorem jg5 (R : Rel C keep env h w) {b : Builtin} {args : List AOpd} {argTypes : Array TypeId} {aop : AOp} {ev : AOpd → AV} {ty : TypeId} {consts : Array Bool}
  (hl : ja2 C.P b args argTypes = some aop) (hb : ∀ a ∈ args.map ev, a.bel h.ok) (hc : ∀ v, ev (.const v) = v) {nid : Option Nat} {v : AV} {h' : Heap} (hv : aOp nid aop ev h = some (v, h')) :
  OpRun C keep env h w nid ((builtin b argTypes ty consts ((args.map ev).map (AV.val C.lk env)).toArray).run C.P w) v h' := by
 have pureCase : (aOp nid aop ev h = (pureA aop ev h).map fun v => (v, h)) → OpRun C keep env h w nid ((builtin b argTypes ty consts ((args.map ev).map (AV.val C.lk env)).toArray).run C.P w) v h' := by
  intro hp
  rw [hp] at hv
  simp only [Option.map_eq_some_iff, Prod.mk.injEq] at hv
  obtain ⟨v', hv', rfl, rfl⟩ := hv
  have := jkC (env := env) (w := w) (ty := ty) (consts := consts) hl hb hc hv'
  exact ⟨env, w, _, this.1, .inl rfl, R, KeepW.refl _ _, Ext.refl _ _, HGrow.refl _, fun _ _ _ => rfl, this.2⟩
 unfold ja2 at hl
 split at hl
 ·split at hl
  ·cases hl; exact pureCase rfl
  ·cases hl; exact pureCase rfl
  ·cases hl
 ·split at hl
  ·cases hl; exact pureCase rfl
  ·cases hl
 ·-- append
  rename_i s x
  split at hl
  ·rename_i e hd
   obtain ⟨t, ht, hu⟩ := jck (C := C) (b := .append) (args := []) hd
   split at hl
   ·rename_i z by_ n xt hz hby hn hxt
    obtain ⟨i, zv, hi, hzv, hzs, hzm, hzl, hzb, hz1⟩ := jbw hz C.lk env h.ok
    have hbi : i.bytes = by_ := by simpa [jh3, hi] using hby
    have hni : i.size = n := by simpa [sizeT, hi] using hn
    subst hbi; subst hni
    have hbs : (ev s).bel h.ok := hb _ (by simp)
    split at hl
    ·-- zeros
     rename_i k hd2
     split at hl
     ·rename_i hpos
      cases hl
      simp only [aOp] at hv
      split at hv
      ·rename_i k' m hx
       split at hv
       ·rename_i hm
        obtain ⟨q, rfl⟩ := Int.eq_ofNat_of_zero_le hm.1
        rw [Int.toNat_natCast, hzl] at hv
        have hq : q ≤ 2 ^ 36 := by have := hm.2; omega
        have A : AppOk C env h w e i true (.int k' q) q (jaH q z) argTypes ty :=
         ⟨fun base n c => jfe ht hu hi hxt hd2 (by omega) (by
           have : q * i.bytes ≤ 2 ^ 36 * 4096 := Nat.mul_le_mul hq hpos.2.2
           omega) base n c,
           fun w' _ => by
          by_cases hq0 : q * i.size = 0
          ·have : q = 0 := by rcases Nat.mul_eq_zero.1 hq0 with x | x <;> omega
           subst this
           have e0 : (jaH 0 z) = [] := List.eq_nil_of_length_eq_zero (by rw [jcz]; simp)
           simp [e0]
          ·simp only [Bool.not_true, Bool.false_eq_true, if_false, hq0]
           rw [jjf C.lk env hzm (by omega), hzl]
           simp [zeroValue, typeInfo, hi, hzv, Builtin.zeroCells, hzs],
           by rw [jcz, hzl], fun v hv => hzb v (jew hv)⟩
        have V := jd2 R hi hzv hzs hpos.1 hpos.2.1 A hbs hv
        refine V.op fun x' w' hr => ?_
        simp only [List.map_cons, List.map_nil, hx, AV.val]
        simp only [builtin, Sem.run_bind, hr, Result.andThen_ok, Sem.run_pure]
       ·cases hv
      ·cases hv
     ·cases hl
    ·-- a slice
     rename_i d hnot hd2
     split at hl
     ·rename_i hpos
      cases hl
      simp only [aOp] at hv
      split at hv
      ·rename_i m news hcon
       obtain ⟨h1, h2, h3, h4⟩ := jbN R hcon
       have A : AppOk C env h w e i false ((ev x).val C.lk env) m news argTypes ty :=
        ⟨fun base n c => jg4 ht hu hi hxt hd2 (fun k hk => by subst hk; exact hnot k rfl) h1 base n c,
          fun w' hw' => by
         have := jbx (R.heap_eq hw') hcon m (Nat.le_refl _)
         rw [List.take_of_length_le (by omega)] at this
         simpa using this,
          h3, h2⟩
       have V := jd2 R hi hzv hzs hpos.1 hpos.2.1 A hbs hv
       refine V.op fun x' w' hr => ?_
       simp only [List.map_cons, List.map_nil]
       simp only [builtin, Sem.run_bind, hr, Result.andThen_ok, Sem.run_pure]
      ·cases hv
     ·cases hl
    ·cases hl
   ·cases hl
  ·cases hl
 ·-- copy
  rename_i d s
  split at hl
  ·rename_i e hd
   obtain ⟨t, ht, hu⟩ := jck (C := C) (b := .append) (args := []) hd
   simp only [Option.map_eq_some_iff] at hl
   obtain ⟨n, hn, rfl⟩ := hl
   simp only [aOp] at hv
   have V := jjg R (ty := ty) ht hu hn (hb _ (by simp)) (nid := nid) hv
   refine V.op fun x' w' hr => ?_
   simp only [List.map_cons, List.map_nil]
   simp only [builtin, Sem.run_bind, hr, Result.andThen_ok, Sem.run_pure]
  ·cases hl
 ·cases hl; exact pureCase rfl
 ·cases hl; exact pureCase rfl
 ·cases hl
theorem jia (R : Rel C keep env h w) {ρ : Operand → Value} {ev : AOpd → AV} (hρ : ∀ x ax, lowerOpd C.inv x = some ax → ρ x = (ev ax).val C.lk env ∧ (ev ax).bel h.ok)
  (hc : ∀ v, ev (.const v) = v) {o : Oper} {aop : AOp} (hl : lowerOp C.P C.inv o.op = some aop) {nid : Option Nat} {v : AV} {h' : Heap} (hv : aOp nid aop ev h = some (v, h')) :
  OpRun C keep env h w nid ((execOp ρ o).run C.P w) v h' := by
 have pureCase : (aOp nid aop ev h = (pureA aop ev h).map fun v => (v, h)) → OpRun C keep env h w nid ((execOp ρ o).run C.P w) v h' := by
  intro hp
  rw [hp] at hv
  simp only [Option.map_eq_some_iff, Prod.mk.injEq] at hv
  obtain ⟨v', hv', rfl, rfl⟩ := hv
  have := jk9 R hρ hc hl hv'
  exact ⟨env, w, _, this.1, .inl rfl, R, KeepW.refl _ _, Ext.refl _ _, HGrow.refl _, fun _ _ _ => rfl, this.2⟩
 cases hop : o.op with
 | alloc e =>
  rw [hop] at hl
  simp only [lowerOp, Option.map_eq_some_iff] at hl
  obtain ⟨z, hz, rfl⟩ := hl
  simp only [aOp] at hv
  split at hv
  ·rename_i hr
   cases hv
   obtain ⟨i, zv, hi, hzv, hzs, hzm, hzl, hzb, hz1⟩ := jbw hz C.lk env h.ok
   have hcells : zv.cells = (z.map (AV.val C.lk env)).toArray := by rw [hzm]
   have := jfz R hr z hzb e
   rw [← hcells] at this
   have hrun : (execOp ρ o).run C.P w = .ok (.value (.pointer (some ⟨w.heap.size, 0, none⟩))) (w.alloc (.cells zv.cells e)) := by
    simp [execOp, hop, Instr.alloc, zeroValue, typeInfo, hi, hzv, newVar, newRow]
   rw [hrun]; exact this
  ·cases hv
 | box e x =>
  rw [hop] at hl
  simp only [lowerOp, Option.map_eq_some_iff] at hl
  obtain ⟨a, ha, rfl⟩ := hl
  simp only [aOp] at hv
  split at hv
  ·rename_i hr
   cases hv
   have hx := hρ x a ha
   have hcells := jdT C.lk env (ev a)
   have := jfz R hr (ev a).cells (jfu hx.2) e
   rw [← hcells] at this
   have hrun : (execOp ρ o).run C.P w = .ok (.value (.pointer (some ⟨w.heap.size, 0, none⟩))) (w.alloc (.cells ((ev a).val C.lk env).cells e)) := by
    simp [execOp, hop, Instr.box, newVar, newRow, hx.1]
   rw [hrun]; exact this
  ·cases hv
 | buildSlice t n ps =>
  rw [hop] at hl
  obtain ⟨z, as, rfl, hb⟩ := jff R hρ (show jaA C.P C.inv t n ps = some aop from hl)
  simp only [aOp] at hv
  split at hv
  ·rename_i cs hcs
   split at hv
   ·rename_i hr
    cases hv
    refine (hb cs nid hr hcs).op fun x w' hrun => ?_
    simp only [execOp, hop, Sem.run_bind, hrun, Result.andThen_ok, Sem.run_pure]
   ·cases hv
  ·cases hv
 | store t a x =>
  rw [hop] at hl
  simp only [lowerOp] at hl
  split at hl
  ·rename_i a' x' n h1 h2 h3
   cases hl
   simp only [aOp, Option.map_eq_some_iff, Prod.mk.injEq] at hv
   obtain ⟨h'', hs, rfl, rfl⟩ := hv
   obtain ⟨w', hrun, r1, r2, r3⟩ := jh9 R h3 (hρ x x' h2).2 hs nid
   refine ⟨env, w', .skip, ?_, .inr ⟨rfl, rfl⟩, r1, r2, Ext.refl _ _, r3.grow, fun i hi _ => r3.same i hi, trivial⟩
   simp only [execOp, hop, (hρ a a' h1).1, (hρ x x' h2).1, Sem.run_bind, hrun, Result.andThen_ok, Sem.run_pure]
  ·cases hl
 | makeMap t r =>
  rw [hop] at hl
  have hl' : lowerMap C.P C.inv (.makeMap t r) = some aop := hl
  cases r <;> simp only [lowerMap] at hl'
  ·split at hl'
   ·rename_i kt e ht
    cases hl'
    simp only [aOp] at hv
    split at hv
    ·rename_i hr
     cases hv
     obtain ⟨a1, a2, a3, a4⟩ := jg0 R ht hr
     refine ⟨_, _, .value (.map (some w.heap.size)), ?_, .inl ?_, a2, a3, a4, jdd hr _, jde hr _, (jb4 hr).2 (.inl rfl)⟩
     ·simp only [execOp, hop, Option.map_none, Sem.run_bind, a1, Result.andThen_ok, Sem.run_pure]
     ·simp [AV.val, updE]
    ·cases hv
   ·cases hl'
  ·cases hl'
 | mapUpdate t m k x =>
  rw [hop] at hl
  have hl' : lowerMap C.P C.inv (.mapUpdate t m k x) = some aop := hl
  simp only [lowerMap] at hl'
  split at hl'
  ·rename_i kt e m' k' x' h1 h2 h3 h4
   simp only [Option.map_eq_some_iff] at hl'
   obtain ⟨ks, hks, rfl⟩ := hl'
   simp only [aOp, Option.map_eq_some_iff, Prod.mk.injEq] at hv
   obtain ⟨h'', hs, rfl, rfl⟩ := hv
   obtain ⟨w', hrun, r1, r2, r3⟩ := jeY R h1 hks (hρ k k' h3).2 (hρ x x' h4).2 hs
   refine ⟨env, w', .skip, ?_, .inr ⟨rfl, rfl⟩, r1, r2, Ext.refl _ _, r3.grow, fun i hi _ => r3.same i hi, trivial⟩
   simp only [execOp, hop, (hρ m m' h2).1, (hρ k k' h3).1, (hρ x x' h4).1, Sem.run_bind, hrun, Result.andThen_ok, Sem.run_pure]
  ·cases hl'
 | insert t m k x =>
  rw [hop] at hl
  have hl' : lowerMap C.P C.inv (.insert t m k x) = some aop := hl
  simp only [lowerMap] at hl'
  split at hl'
  ·rename_i kt e m' k' x' h1 h2 h3 h4
   simp only [Option.map_eq_some_iff] at hl'
   obtain ⟨ks, hks, rfl⟩ := hl'
   simp only [aOp, Option.map_eq_some_iff, Prod.mk.injEq] at hv
   obtain ⟨h'', hs, rfl, rfl⟩ := hv
   obtain ⟨w', hrun, r1, r2, r3⟩ := jeY R h1 hks (hρ k k' h3).2 (hρ x x' h4).2 hs
   refine ⟨env, w', .skip, ?_, .inr ⟨rfl, rfl⟩, r1, r2, Ext.refl _ _, r3.grow, fun i hi _ => r3.same i hi, trivial⟩
   simp only [execOp, hop, (hρ m m' h2).1, (hρ k k' h3).1, (hρ x x' h4).1, Sem.run_bind, hrun, Result.andThen_ok, Sem.run_pure]
  ·cases hl'
 | lookup t m k comma =>
  apply pureCase
  rw [hop] at hl
  have hl' : lowerMap C.P C.inv (.lookup t m k comma) = some aop := hl
  simp only [lowerMap] at hl'
  repeat' split at hl'
  all_goals first
   | (cases hl'; done)
   | (cases hl'; rfl)
 | makeSlice t l c =>
  rw [hop] at hl
  simp only [lowerOp] at hl
  split at hl
  ·rename_i e l' c' h1 h2 h3
   split at hl
   ·rename_i z by_ h4 h5
    split at hl
    ·rename_i hpos
     cases hl
     simp only [aOp] at hv
     split at hv
     ·rename_i kl ll kc cc el ec
      split at hv
      ·rename_i hcond
       cases hv
       obtain ⟨c1, c2, c3, c4, c5⟩ := hcond
       have e1 := (hρ l l' h2).1
       have e2 := (hρ c c' h3).1
       rw [el] at e1; rw [ec] at e2
       refine (jle R h1 h4 h5 hpos (kl := kl) (kc := kc) c1 c2 c3 c4 c5).op fun x w' hrun => ?_
       simp only [AV.val] at e1 e2
       simp only [execOp, hop, e1, e2, Sem.run_bind, hrun, Result.andThen_ok, Sem.run_pure]
      ·cases hv
     ·cases hv
    ·cases hl
   ·cases hl
  ·cases hl
 | call c =>
  rw [hop] at hl
  have hl' : jbo C.P C.inv c = some aop := hl
  unfold jbo at hl'
  split at hl'
  ·rename_i args hargs
   have q := jaX hρ hargs
   have e1 : c.args.map ρ = ((args.map ev).map (AV.val C.lk env)).toArray := by rw [← q.1, ← jcY]
   split at hl'
   ·simp only [Option.map_eq_some_iff] at hl'
    obtain ⟨f, _, rfl⟩ := hl'
    simp [aOp, pureA] at hv
   ·rename_i b hcal
    have r := jg5 R (ty := o.type) (consts := c.args.map fun | .const _ => true | _ => false) hl' q.2 hc hv
    obtain ⟨env', w', V, a1, a2⟩ := r
    refine ⟨env', w', V, ?_, a2⟩
    simp only [execOp, hop, resolve, hcal, Sem.run_bind, Sem.run_pure, Result.andThen_ok, invoke, e1]
    exact a1
   ·cases hl'
  ·cases hl'
 | build t ps =>
  apply pureCase
  rw [hop] at hl
  obtain ⟨z, as, rfl, _⟩ := jfx (w := w) hρ (show jbv C.P C.inv t ps = some aop from hl)
  rfl
 | binOp op xt x y yt =>
  apply pureCase
  rw [hop] at hl
  simp only [lowerOp] at hl
  repeat' split at hl
  all_goals first
   | (cases hl; done)
   | (cases hl; rfl)
   | (simp only [Option.map_eq_some_iff] at hl; obtain ⟨_, _, rfl⟩ := hl; rfl)
 | makeFunc fn a b =>
  apply pureCase
  rw [hop] at hl
  cases fn <;> simp only [lowerOp] at hl
  all_goals repeat' split at hl
  all_goals first
   | (cases hl; done)
   | (cases hl; rfl)
 | _ =>
  apply pureCase
  rw [hop] at hl
  simp only [lowerOp] at hl
  all_goals repeat' split at hl
  all_goals first
   | (cases hl; done)
   | (cases hl; rfl)
   | (simp only [Option.map_eq_some_iff] at hl; obtain ⟨_, _, rfl⟩ := hl; rfl)
end
end Go.Ae
namespace Go.Ae
def Enters (P : Program) (f : FuncId) : Prop := ∀ (args : Array Value) (w : World), (callFunc f args).run P w = .ok (.enter f args) w
def Back (C : Ctx) (keep : Keep) (env : Env) (h : Heap) (w : World) (Post : AV → Heap → Prop) (e : Ending) (w' : World) : Prop :=
 ∃ env' r h', e = .returned (r.val C.lk env') ∧ Post r h' ∧ Rel C keep env' h' w' ∧ KeepW keep w w' ∧ Ext h env env' ∧ HLe h h' ∧ r.bel h'.ok
def ACalls (C : Ctx) (g : Nat) (args : List AV) (h : Heap) (Post : AV → Heap → Prop) : Prop :=
 Enters C.P (C.lk g) ∧ ∀ keep env w, Rel C keep env h w → (∀ v ∈ args, v.bel h.ok) → Calls C.P (C.lk g) (args.map (AV.val C.lk env)).toArray w (Back C keep env h w Post)
def jeZ (C : Ctx) (l : Nat) (args : List AV) (h : Heap) (Post : AV → Heap → Prop) : Prop :=
 ∀ keep env w, Rel C keep env h w → (∀ v ∈ args, v.bel h.ok) → ∃ fn tmps assign body, (Instr.yield (env l).blk (args.map (AV.val C.lk env)).toArray).run C.P w = .ok (.round (env l).blk fn tmps assign body) w ∧
  RoundIn Fence.wide 0 C.P (env l).blk fn tmps assign body w (Back C keep env h w Post)
def callP (C : Ctx) (f : AV) (args : List AV) (h : Heap) (Post : AV → Heap → Prop) : Prop :=
 match f with
 | .func g first captured => ACalls C g (first ++ args ++ captured) h Post
 | .yield l => jeZ C l args h Post
 | _ => False
def jcR (g : Option (Nat × Bool)) (t : Nat → AV) (p q : Prop) : Prop :=
 match g with
 | none => p
 | some (s, want) => match t s with
  | .bool c => (c = want → p) ∧ (c = !want → q)
  | _ => q
def wpOp (C : Ctx) (nid : Option Nat) (o : AOper) (K : St → Prop) (st : St) : Prop :=
 match o.op with
 | .call f args => callP C (f.ev st.t) (args.map (·.ev st.t)) st.h (fun r h' => K (St.put { st with h := h' } o.dst r))
 | op => match aOp nid op (·.ev st.t) st.h with
  | some (v, h') => K (St.put { st with h := h' } o.dst v)
  | none => False
def wpOps (C : Ctx) : List AOper → (St → Prop) → St → Prop
 | [], K, st => K st
 | o :: os, K, st => jcR o.guard st.t (wpOp C none o (wpOps C os K) st) (wpOps C os K (st.put o.dst .undef))
def writes : ACode → List Nat
 | .region ops => ops.filterMap (·.dst)
 | .draw _ ds => ds.filterMap (·.o.dst)
 | .seq a b => writes a ++ writes b
 | .cond _ a b => writes a ++ writes b
 | .block _ c => writes c
 | .loop c => writes c
 | _ => []
def mix (W : List Nat) (u t : Nat → AV) : Nat → AV := fun s => if W.contains s then u s else t s
def thenO (K : St → Prop) (Q : Out → St → Prop) : Out → St → Prop
 | .normal, st => K st
 | o, st => Q o st
def jbb (id : Nat) (Q : Out → St → Prop) : Out → St → Prop
 | .exit id', st => if id' = id then Q .normal st else Q (.exit id') st
 | o, st => Q o st
def condP (v : AV) (p q : Prop) : Prop :=
 match v with
 | .bool c => (c = true → p) ∧ (c = false → q)
 | _ => False
def jdp (C : Ctx) (f : AV) (l : Nat) (h : Heap) (Post : AV → Heap → Prop) : Prop :=
 match f with
 | .func g first captured => ACalls C g (first ++ [.yield l] ++ captured) h Post
 | _ => False
def jcA (C : Ctx) (nt : Nat) (rd : Option Nat) (f : AV) (ps : List Nat) (assign body : ACode) (Q : Out → St → Prop) (st : St) : Prop :=
 match rd with
 | none => jdp C f (st.h.size + 1) ((st.h.push (.defd true)).push (.loop { state := .ready, pend := none, t := st.t, nt, params := ps, assign, body, defers := st.h.size })) fun _ h' =>
   ∃ r, h'.get (st.h.size + 1) = some (.loop r) ∧ r.state ≠ .busy ∧ Q (r.pend.getD .normal) ⟨st.t, h'.put (st.h.size + 1) (.loop { r with state := .exhausted }), st.h.size :: st.m⟩
 | some l => ∃ r0, st.h.get l = some (.loop r0) ∧ jdp C f st.h.size (st.h.push (.loop { state := .ready, pend := none, t := st.t, nt, params := ps, assign, body, defers := r0.defers })) fun _ h' =>
   ∃ r, h'.get st.h.size = some (.loop r) ∧ r.state ≠ .busy ∧ Q (r.pend.getD .normal) ⟨st.t, h'.put st.h.size (.loop { r with state := .exhausted }), st.m⟩
def AV.ids : AV → List Nat
 | .ptr i _ => [i]
 | .slice i _ _ _ => [i]
 | .map i => [i]
 | _ => []
def AV.rids : AV → List Nat
 | .slice i _ _ (.unk _) => [i]
 | _ => []
def jfi (f : AV) (args : List AV) : List AV :=
 match f with
 | .func _ first captured => first ++ args ++ captured
 | _ => args
def gOn (g : Option (Nat × Bool)) (t : Nat → AV) : Bool :=
 match g with
 | none => true
 | some (s, want) => match t s with
  | .bool c => c == want
  | _ => false
def footA (op : AOp) (ev : AOpd → AV) (n : Nat) : List Nat :=
 match op with
 | .load _ _ x | .store _ x _ => (ev x).ids
 | .slice _ x _ _ _ => (ev x).rids
 | .append _ _ s x => (ev s).ids ++ (ev x).ids ++ [n]
 | .appendMake _ _ s _ => (ev s).ids ++ [n]
 | .copy _ d s => (ev d).ids ++ (ev s).ids
 | .lookup _ _ _ m _ | .mapUpd _ m _ _ => (ev m).ids
 | .alloc .. | .box .. | .buildSlice .. | .makeSlice .. | .makeMap => [n]
 | _ => []
def wrA (op : AOp) (ev : AOpd → AV) (n : Nat) : List Nat :=
 match op with
 | .store _ x _ => (ev x).ids
 | .append _ _ s _ | .appendMake _ _ s _ => (ev s).ids ++ [n]
 | .copy _ d _ => (ev d).ids
 | .mapUpd _ m _ _ => (ev m).ids
 | .alloc .. | .box .. | .buildSlice .. | .makeSlice .. | .makeMap => [n]
 | _ => []
abbrev Acc := List (Nat × List Nat × List Nat)
def chkP (acc : Acc) (ck : List Nat) (op : AOp) (ev : AOpd → AV) (n : Nat) : Prop :=
 ∀ e ∈ acc, e.1 ∈ ck → (∀ a ∈ e.2.1, a ∉ wrA op ev n) ∧ (∀ a ∈ e.2.2, a ∉ footA op ev n)
def chkS (acc : Acc) (ck : List Nat) (h h' : Heap) : Prop := ∀ e ∈ acc, e.1 ∈ ck → ∀ i ∈ e.2.1, h'.get i = h.get i
def jaV (d : DItem) (ev : AOpd → AV) (n : Nat) (acc : Acc) : Acc := if d.mem then (d.k, footA d.o.op ev n, wrA d.o.op ev n) :: acc else acc
def stepD (C : Ctx) (base : Nat) (d : DItem) (acc : Acc) (K : Acc → St → Prop) (st : St) : Prop :=
 jcR d.o.guard st.t
  (match d.o.op with
   | .call f args => callP C (f.ev st.t) (args.map (·.ev st.t)) st.h (fun r h' => chkS acc d.ck st.h h' ∧ K acc (St.put { st with h := h' } d.o.dst r))
   | op => chkP acc d.ck op (·.ev st.t) (base + d.k) ∧ match aOp (some (base + d.k)) op (·.ev st.t) st.h with
    | some (v, h') => K (jaV d (·.ev st.t) (base + d.k) acc) (St.put { st with h := h' } d.o.dst v)
    | none => False)
  (K acc (st.put d.o.dst .undef))
def wpD (C : Ctx) (base : Nat) : List DItem → Acc → (St → Prop) → St → Prop
 | [], _, K, st => K st
 | d :: ds, acc, K, st => stepD C base d acc (fun acc' st' => wpD C base ds acc' K st') st
def jd3 (C : Ctx) (n : Nat) (ds : List DItem) (K : St → Prop) (st : St) : Prop := wpD C st.h.size ds [] K (if n = 0 then st else { st with h := st.h.reserve n })
def wp (C : Ctx) (nt : Nat) (rd : Option Nat) : ACode → (Out → St → Prop) → St → Prop
 | .skip, Q, st => Q .normal st
 | .region ops, Q, st => wpOps C ops (Q .normal) st
 | .draw n ds, Q, st => jd3 C n ds (Q .normal) st
 | .seq a b, Q, st => wp C nt rd a (thenO (wp C nt rd b Q) Q) st
 | .cond c a b, Q, st => condP (c.ev st.t) (wp C nt rd a Q st) (wp C nt rd b Q st)
 | .block id c, Q, st => wp C nt rd c (jbb id Q) st
 | .loop c, Q, st => ∃ (I : (Nat → AV) → Heap → List Nat → Prop) (μ : (Nat → AV) → Heap → List Nat → Nat), I st.t st.h st.m ∧
   ∀ u h' m', HLe st.h h' → I (mix (writes c) u st.t) h' m' →
    wp C nt rd c (thenO (fun st' => I st'.t st'.h st'.m ∧ μ st'.t st'.h st'.m < μ (mix (writes c) u st.t) h' m') Q) ⟨mix (writes c) u st.t, h', m'⟩
 | .rangeFunc f ps a b, Q, st => jcA C nt rd (f.ev st.t) ps a b Q st
 | .exit id, Q, st => Q (.exit id) st
 | .ret, Q, st => Q .ret st
 | .refuse _, _, _ => False
/-! ### Soundness -/
structure Sim (C : Ctx) (keep : Keep) (nt : Nat) (env : Env) (st : St) (a : Act) (w : World) : Prop where
 size : a.tmps.size = nt
 tmps : ∀ s, a.tmps.getD s undef = (st.t s).val C.lk env
 bel : ∀ s, (st.t s).bel st.h.ok
 defers : a.defers = st.m.map fun i => { target := .collected (env i).blk, args := #[] }
 marks : ∀ i ∈ st.m, st.h.ok i
 rel : Rel C keep env st.h w
structure Far (C : Ctx) (keep : Keep) (nt : Nat) (env : Env) (st : St) (w : World) (env' : Env) (st' : St) (a' : Act) (w' : World) : Prop where
 sim : Sim C keep nt env' st' a' w'
 keepW : KeepW keep w w'
 ext : Ext st.h env env'
 grow : HGrow st.h st'.h
theorem Far.refl {C : Ctx} {keep : Keep} {nt : Nat} {env : Env} {st : St} {a : Act} {w : World} (S : Sim C keep nt env st a w) : Far C keep nt env st w env st a w :=
 ⟨S, KeepW.refl _ _, Ext.refl _ _, HGrow.refl _⟩
theorem Far.trans {C : Ctx} {keep : Keep} {nt : Nat} {env env1 env2 : Env} {st st1 st2 : St} {a1 a2 : Act} {w w1 w2 : World} (F : Far C keep nt env st w env1 st1 a1 w1) (G : Far C keep nt env1 st1 w1 env2 st2 a2 w2) : Far C keep nt env st w env2 st2 a2 w2 :=
 ⟨G.sim, F.keepW.trans G.keepW, F.ext.trans' F.grow G.ext, F.grow.trans G.grow⟩
section
variable {C : Ctx} {keep : Keep} {nt : Nat} {env : Env} {st : St} {a : Act} {w : World}
theorem jkG (t : Array Value) (d s : Nat) (v x : Value) (hd : d < t.size) : (t.setIfInBounds d v).getD s x = if s = d then v else t.getD s x := by
 simp only [Array.getD_eq_getD_getElem?, Array.getElem?_setIfInBounds]
 by_cases e : s = d
 ·subst e; simp [hd]
 ·rw [if_neg (fun x => e x.symm), if_neg e]
theorem Sim.opd (S : Sim C keep nt env st a w) : ∀ x ax, lowerOpd C.inv x = some ax → a.eval x = (ax.ev st.t).val C.lk env ∧ (ax.ev st.t).bel st.h.ok :=
 fun x ax hx => jgY x ax hx st.t a S.tmps S.bel
theorem Sim.put (S : Sim C keep nt env st a w) {d : Option Nat} (hd : dstOk nt d = true) {env' : Env} {h' : Heap} {w' : World} {v : AV} (R : Rel C keep env' h' w') (K : KeepW keep w w') (X : Ext st.h env env') (G : HGrow st.h h') (hv : v.bel h'.ok) :
  Far C keep nt env st w env' (St.put { st with h := h' } d v) (a.put d (v.val C.lk env')) w' := by
 have hbel : ∀ s, (st.t s).bel h'.ok := fun s => bel_mono (fun i hi => G.same i hi) _ (S.bel s)
 have hval : ∀ s, (st.t s).val C.lk env' = (st.t s).val C.lk env := fun s => X.val (S.bel s)
 have hdef : a.defers = st.m.map fun i => { target := .collected (env' i).blk, args := #[] } := by
  rw [S.defers]
  refine List.map_congr_left fun i hi => ?_
  rw [X i (S.marks i hi)]
 cases d with
 | none =>
  exact ⟨⟨S.size, fun s => (S.tmps s).trans (hval s).symm, hbel, hdef, fun i hi => G.same i (S.marks i hi), R⟩, K, X, G⟩
 | some d =>
  have hlt : d < nt := by simpa [dstOk] using hd
  refine ⟨⟨?_, fun s => ?_, fun s => ?_, hdef, fun i hi => G.same i (S.marks i hi), R⟩, K, X, G⟩
  ·simp [Act.put, S.size]
  ·simp only [Act.put, St.put, upd]
   rw [jkG _ _ _ _ _ (by rw [S.size]; exact hlt)]
   by_cases e : s = d
   ·rw [if_pos e, if_pos e]
   ·rw [if_neg e, if_neg e, S.tmps s, hval s]
  ·simp only [St.put, upd]
   by_cases e : s = d
   ·rw [if_pos e]; exact hv
   ·rw [if_neg e]; exact hbel s
def fen (env : Env) : Option Nat → Fence
 | none => Fence.wide
 | some l => Fence.wide.inRound (env l).blk
theorem jib (env : Env) (rd : Option Nat) (f : FuncId) : (fen env rd).fn f := by cases rd <;> exact trivial
theorem jd4 (env : Env) (rd : Option Nat) : (fen env rd).depth.isSome = true → 1 ≤ 0 := by cases rd <;> (intro h; cases h)
theorem jg6 {o : Oper} {aop : AOp} (hl : lowerOp C.P C.inv o.op = some aop) (ro : Option Nat) (ρ : Operand → Value) : o.semAt ro ρ = execOp ρ o := by
 unfold Oper.semAt
 cases ro with
 | none => rfl
 | some l =>
  cases hop : o.op with
  | defer c => rw [hop] at hl; simp [lowerOp] at hl
  | _ => rfl
theorem jex (fenv : Env) (rd : Option Nat) {F : Fence} (hF : F = fen fenv rd) {n : Nat} {P : Program} {f : FuncId} {args : Array Value} {w : World} {R : Ending → World → Prop} (h : Calls P f args w R) : CallsIn F n P f args w R := by
 subst hF
 cases rd with
 | none => exact callsIn_wide.2 h
 | some l =>
  have h' : CallsIn Fence.wide n P f args w R := callsIn_wide.2 h
  exact h'
theorem jjh (fenv : Env) (rd : Option Nat) {n : Nat} {P : Program} {l : Nat} {f : FuncId} {tmps : Array Value} {assign body : Code} {w : World} {R : Ending → World → Prop} (h : RoundIn Fence.wide n P l f tmps assign body w R) : RoundIn (fen fenv rd) n P l f tmps assign body w R := by
 cases rd with
 | none => exact h
 | some q => exact h
theorem jkH (S : Sim C keep nt env st a w) (fenv : Env) (rd : Option Nat) {ops : Array Oper} {o : Oper} {ao : AOper} (ha : jaD C.P C.inv nt ops o = ao) {nid : Option Nat} {K : St → Prop} {Q : Exit → Act → World → Prop} (hK : wpOp C nid ao K st) :
  o.wpIn (fen fenv rd) 0 C.P a w (fun a' w' => ∃ env' st', Far C keep nt env st w env' st' a' w' ∧ (∀ s, ao.dst ≠ some s → st'.t s = st.t s) ∧ (∀ i, i < st.h.size → nid ≠ some i → (st'.h.get i).isSome = (st.h.get i).isSome) ∧ K st') Q := by
 unfold jaD at ha
 split at ha
 ·rename_i aop g h1 h2 h3
  subst ha
  refine ⟨fun f _ => jib fenv rd f, ?_⟩
  rw [jg6 h1]
  have hput : ∀ (h' : Heap) (v : AV) s, o.dst ≠ some s → (St.put { st with h := h' } o.dst v).t s = st.t s := by
   intro h' v s hs
   cases hd : o.dst with
   | none => rfl
   | some d =>
    simp only [St.put, upd]
    rw [if_neg]
    intro e; subst e; exact hs hd
  have hph : ∀ (h' : Heap) (v : AV), (St.put { st with h := h' } o.dst v).h = h' := fun h' v => by cases o.dst <;> rfl
  have simple : (∀ f args, aop ≠ .call f args) → wpOp C nid { dst := o.dst, op := aop, guard := g } K st → Oper.uponIn (fen fenv rd) 0 C.P o a (fun a' w' => ∃ env' st', Far C keep nt env st w env' st' a' w' ∧ (∀ s, o.dst ≠ some s → st'.t s = st.t s) ∧ (∀ i, i < st.h.size → nid ≠ some i → (st'.h.get i).isSome = (st.h.get i).isSome) ∧ K st') Q ((execOp a.eval o).run C.P w) := by
   intro hne hK
   have hK' : match aOp nid aop (·.ev st.t) st.h with | some (v, h') => K (St.put { st with h := h' } o.dst v) | none => False := by
    unfold wpOp at hK
    dsimp only at hK
    split at hK
    ·exact absurd rfl (hne _ _)
    ·exact hK
   cases hv : aOp nid aop (·.ev st.t) st.h with
   | none => rw [hv] at hK'; exact hK'.elim
   | some p =>
    obtain ⟨v, h'⟩ := p
    rw [hv] at hK'
    obtain ⟨env', w', V, hrun, hV, hR, hW, hX, hG, hS, hB⟩ := jia S.rel S.opd (fun _ => rfl) h1 hv
    rw [hrun]
    have F := S.put h2 hR hW hX hG hB
    rcases hV with rfl | ⟨rfl, rfl⟩
    ·exact ⟨env', _, F, hput h' v, fun i hi hn => by rw [hph]; exact hS i hi hn, hK'⟩
    ·exact ⟨env', _, F, hput h' _, fun i hi hn => by rw [hph]; exact hS i hi hn, hK'⟩
  cases aop with
  | call f args =>
   -- a call
   have hK' : callP C (f.ev st.t) (args.map (·.ev st.t)) st.h (fun r h' => K (St.put { st with h := h' } o.dst r)) := hK
   cases hop : o.op with
   | call c =>
    rw [hop] at h1
    have h1' : jbo C.P C.inv c = some (.call f args) := h1
    unfold jbo at h1'
    split at h1'
    ·rename_i args' hargs
     split at h1'
     ·rename_i fo hcal
      simp only [Option.map_eq_some_iff] at h1'
      obtain ⟨f', hf', he⟩ := h1'
      cases he
      have q := jaX S.opd hargs
      have e1 : c.args.map a.eval = ((args.map (·.ev st.t)).map (AV.val C.lk env)).toArray := by rw [← q.1, ← jcY]
      have e2 := S.opd fo f hf'
      have back : ∀ e w', Back C keep env st.h w (fun r h' => K (St.put { st with h := h' } o.dst r)) e w' → ∃ v, e = .returned v ∧ (∃ env' st', Far C keep nt env st w env' st' (a.put o.dst v) w' ∧ (∀ s, o.dst ≠ some s → st'.t s = st.t s) ∧ (∀ i, i < st.h.size → nid ≠ some i → (st'.h.get i).isSome = (st.h.get i).isSome) ∧ K st') := by
       rintro e w' ⟨env', r, h', rfl, hP, hR, hW, hX, hL, hB⟩
       exact ⟨_, rfl, env', _, S.put h2 hR hW hX hL.grow hB, hput h' r, fun i hi _ => by rw [hph]; exact hL.same i hi, hP⟩
      unfold callP at hK'
      split at hK'
      ·rename_i gg first cap hfv
       obtain ⟨hent, hcall⟩ := hK'
       rw [hfv] at e2
       have hbels : ∀ v ∈ first ++ args.map (·.ev st.t) ++ cap, v.bel st.h.ok := by
        intro v hv
        rcases List.mem_append.1 hv with hv | hv
        ·rcases List.mem_append.1 hv with hv | hv
         ·exact (jaE _ _).1 e2.2.1 v hv
         ·exact q.2 v hv
        ·exact (jaE _ _).1 e2.2.2 v hv
       have hc := hcall keep env w S.rel hbels
       have hrun : (execOp a.eval o).run C.P w = .ok (.enter (C.lk gg) ((first ++ args.map (·.ev st.t) ++ cap).map (AV.val C.lk env)).toArray) w := by
        have e3 := e2.1
        simp only [AV.val, ja0] at e3
        have hent' := hent ((first ++ args.map (·.ev st.t) ++ cap).map (AV.val C.lk env)).toArray w
        simp only [execOp, hop, resolve, hcal, Deferred.ofValue, e1, e3, Sem.run_bind, Sem.run_pure, Result.andThen_ok, invoke]
        rw [← hent']
        simp
       rw [hrun]
       refine ⟨jd4 fenv rd, ?_⟩
       refine (jex fenv rd rfl hc).mono ?_
       intro e w' hb
       obtain ⟨v, rfl, hh⟩ := back e w' hb
       exact hh
      ·rename_i l hfv
       rw [hfv] at e2
       obtain ⟨fn, tmps, assign, body, hy, hR⟩ := hK' keep env w S.rel q.2
       have hrun : (execOp a.eval o).run C.P w = .ok (.round (env l).blk fn tmps assign body) w := by
        have e3 := e2.1
        simp only [AV.val] at e3
        simp only [execOp, hop, resolve, hcal, Deferred.ofValue, e1, e3, Sem.run_bind, Sem.run_pure, Result.andThen_ok, invoke]
        rw [← hy]
        simp
       rw [hrun]
       refine ⟨jd4 fenv rd, ?_⟩
       refine (jjh fenv rd hR).mono ?_
       intro e w' hb
       obtain ⟨v, rfl, hh⟩ := back e w' hb
       exact hh
      ·exact hK'.elim
     ·rename_i b hcal
      unfold ja2 at h1'
      repeat' split at h1'
      all_goals first
       | (cases h1'; done)
       | (simp only [Option.map_eq_some_iff] at h1'; obtain ⟨_, _, h1'⟩ := h1'; cases h1'; done)
     ·cases h1'
    ·cases h1'
   | makeFunc fn x y =>
    exfalso
    rw [hop] at h1
    cases fn <;> simp only [lowerOp] at h1
    all_goals first | (cases h1; done) | ((repeat' split at h1) <;> cases h1; done)
   | makeMap _ _ => exact (jaJ (P := C.P) (inv := C.inv) (op := o.op) (by rw [hop]; rw [hop] at h1; exact h1)).elim
   | mapUpdate _ _ _ _ => exact (jaJ (P := C.P) (inv := C.inv) (op := o.op) (by rw [hop]; rw [hop] at h1; exact h1)).elim
   | insert _ _ _ _ => exact (jaJ (P := C.P) (inv := C.inv) (op := o.op) (by rw [hop]; rw [hop] at h1; exact h1)).elim
   | lookup _ _ _ _ => exact (jaJ (P := C.P) (inv := C.inv) (op := o.op) (by rw [hop]; rw [hop] at h1; exact h1)).elim
   | _ =>
    exfalso
    rw [hop] at h1
    first
     | (simp only [lowerOp] at h1; (repeat' split at h1) <;> first | (cases h1; done) | (simp only [Option.map_eq_some_iff] at h1; obtain ⟨_, _, h1⟩ := h1; cases h1; done))
     | (unfold lowerOp at h1; simp only [jbv, jaA] at h1; (repeat' split at h1) <;> first | (cases h1; done) | (simp only [Option.map_eq_some_iff] at h1; obtain ⟨_, _, h1⟩ := h1; cases h1; done))
  | _ => exact simple (by intro f args h; cases h) hK
 ·subst ha
  unfold wpOp at hK
  simp [aOp, pureA] at hK
end
end Go.Ae
