/- Functions and rounds: their contracts from their bodies. -/
import Derived.Test.YtbmoggkjijnajaaAeRange
import Derived.Test.YtbmoggkjijnajaaAeDraw2
namespace Go.Ae

/-- The blocks for the rounds' deferred calls are shut. -/
def closeMarks (h : Heap) : List Nat → Option Heap
  | [] => some h
  | i :: is => match h.get i with
    | some (.defd true) => closeMarks (h.put i (.defd false)) is
    | _ => none

def resA (t : Nat → AV) (h : Heap) : List ARes → Option (List AV)
  | [] => some []
  | .tmp s :: rs => (resA t h rs).map (t s :: ·)
  | .cell s agg n :: rs => match loadA h agg n (t s), resA t h rs with
    | some v, some vs => some (v :: vs)
    | _, _ => none

def retA : List AV → AV
  | [v] => v
  | vs => .tuple vs

def argT (args : List AV) : Nat → AV := fun s => args.getD s .undef

/-- What a body must come to. -/
def retO (res : List ARes) (Post : AV → Heap → Prop) (o : Out) (st : St) : Prop :=
  match o with
  | .exit _ => False
  | _ => match closeMarks st.h st.m with
    | some h1 => match resA st.t h1 res with
      | some vs => Post (retA vs) h1
      | none => False
    | none => False

section
variable {C : Ctx} {keep : Keep} {nt : Nat}


theorem closeMarks_le : ∀ (m : List Nat) (h h1 : Heap), closeMarks h m = some h1 → HLe h h1
  | [], h, h1, hc => by cases hc; exact HLe.refl _
  | i :: is, h, h1, hc => by
    unfold closeMarks at hc
    split at hc
    · rename_i hi
      exact (hle_put hi).trans (closeMarks_le is _ h1 hc)
    · cases hc

def resF (tmps : Array Value) : ResultVar → Sem Value
  | .tmp t => pure (tmps.getD t undef)
  | .cell a t => do loadVar t (← asAddr (tmps.getD a undef))

theorem resA_sound {env : Env} {h : Heap} {w : World} (R : Rel C keep env h w) {t : Nat → AV} {tmps : Array Value} (hA : ∀ s, tmps.getD s undef = (t s).val C.lk env) (hb : ∀ s, (t s).bel h.ok) :
    ∀ (rs : List ResultVar) (as : List ARes) (vs : List AV), lowerRess C.P rs = some as → resA t h as = some vs →
      (rs.mapM (m := Sem) (resF tmps)).run C.P w = .ok (vs.map (AV.val C.lk env)) w ∧ ∀ v ∈ vs, v.bel h.ok
  | [], as, vs, hl, hr => by cases hl; cases hr; exact ⟨rfl, by simp⟩
  | r :: rs, as, vs, hl, hr => by
    unfold lowerRess at hl
    split at hl
    · rename_i a as' h1 h2
      cases hl
      cases r with
      | tmp s =>
        cases h1
        simp only [resA, Option.map_eq_some_iff] at hr
        obtain ⟨vs', hvs, rfl⟩ := hr
        have ih := resA_sound R hA hb rs as' vs' h2 hvs
        refine ⟨?_, ?_⟩
        · rw [List.mapM_cons, Sem.run_bind, show (resF tmps (.tmp s)).run C.P w = .ok ((t s).val C.lk env) w from by rw [← hA s]; rfl, Result.andThen_ok, Sem.run_bind, ih.1]
          rfl
        · intro v hv
          rcases List.mem_cons.1 hv with rfl | hv
          · exact hb s
          · exact ih.2 v hv
      | cell s ty =>
        simp only [lowerRes] at h1
        split at h1
        · rename_i g n hg hn
          cases h1
          simp only [resA] at hr
          split at hr
          · rename_i v vs' hv hvs
            cases hr
            have ih := resA_sound R hA hb rs as' vs' h2 hvs
            have q := load_sound R hg hn hv
            have hptr : ∃ i o, t s = .ptr i o := by
              unfold loadA at hv
              split at hv
              · exact ⟨_, _, by assumption⟩
              · cases hv
            obtain ⟨i, o, hp⟩ := hptr
            have q1 := q.1
            rw [hp] at q1
            simp only [AV.val, Instr.loadAt, Instr.sureAddr, Sem.run_bind, Sem.run_pure, Result.andThen_ok] at q1
            refine ⟨?_, ?_⟩
            · have e1 := hA s
              rw [hp] at e1
              simp only [AV.val] at e1
              have e2 : (resF tmps (.cell s ty)).run C.P w = .ok (v.val C.lk env) w := by
                change (do loadVar ty (← asAddr (tmps.getD s undef)) : Sem Value).run C.P w = _
                rw [e1]
                simp only [asAddr, Sem.run_bind, Sem.run_pure, Result.andThen_ok]
                exact q1
              rw [List.mapM_cons, Sem.run_bind, e2, Result.andThen_ok, Sem.run_bind, ih.1]
              rfl
            · intro x hx
              rcases List.mem_cons.1 hx with rfl | hx
              · exact q.2
              · exact ih.2 x hx
          · cases hr
        · cases h1
    · cases hl

theorem results_sound {env : Env} {h : Heap} {w : World} (R : Rel C keep env h w) {t : Nat → AV} {tmps : Array Value} (hA : ∀ s, tmps.getD s undef = (t s).val C.lk env) (hb : ∀ s, (t s).bel h.ok) {fn : Func} {as : List ARes} {vs : List AV}
    (hl : lowerRess C.P fn.results.toList = some as) (hr : resA t h as = some vs) : (results fn tmps).run C.P w = .ok ((retA vs).val C.lk env) w ∧ (retA vs).bel h.ok := by
  have q := resA_sound R hA hb _ _ _ hl hr
  refine ⟨?_, ?_⟩
  · have e : results fn tmps = (do let vs ← fn.results.mapM (resF tmps); pure (if h : vs.size = 1 then vs[0] else .tuple vs)) := rfl
    rw [e, Array.mapM_eq_mapM_toList]
    simp only [Sem.run_bind, map_eq_pure_bind, Sem.run_pure, q.1, Result.andThen_ok]
    congr 1
    match vs with
    | [] => rfl
    | [v] => rfl
    | v :: u :: vs => simp [retA, AV.val, vals_eq]
  · match vs, q.2 with
    | [], q2 => trivial
    | [v], q2 => exact q2 v (by simp)
    | v :: u :: vs, q2 => exact (bels_iff _ _).2 q2

theorem leaves_sound {fn : Func} {tmps : Array Value} {R : Ending → World → Prop} : ∀ (m : List Nat) {env : Env} {h h1 : Heap} {w : World}, Rel C keep env h w → closeMarks h m = some h1 →
    (∀ w1, Rel C keep env h1 w1 → KeepW keep w w1 → ∃ v, (results fn tmps).run C.P w1 = .ok v w1 ∧ R (.returned v) w1) →
    LeavesInM Fence.wide 0 C.P fn tmps R (m.map fun i => { target := .collected (env i).blk, args := #[] }) .returning w
  | [], env, h, h1, w, Rl, hc, hk => by
    cases hc
    obtain ⟨v, a, b⟩ := hk w Rl (KeepW.refl _ _)
    exact ⟨v, a, b⟩
  | i :: is, env, h, h1, w, Rl, hc, hk => by
    unfold closeMarks at hc
    split at hc
    · rename_i hi
      have hb := Rl.blk i _ hi
      have hrow : w.heap[(env i).blk]? = some (.deferred (some [])) := hb
      have htake := run_takeDeferred (P := C.P) hrow
      have A := Rl.write (w' := w.putObj (env i).blk (.deferred none)) (b' := .defd false) hi rfl rfl rfl rfl (by simp) (fun q hq => World.putObj_heap_other hq) trivial (World.putObj_heap_same (Rl.lt i _ hi))
      refine ⟨by simp, .inl ⟨(env i).blk, _, rfl, htake, ?_⟩⟩
      exact leaves_sound is A.1 hc fun w1 r1 k1 => hk w1 r1 (A.2.trans k1)
    · cases hc

/-- **A function's contract, from its body.** -/
theorem calls_intro {g : Nat} {b : ABody} (hbody : C.body g = some b) {args : List AV} (hargs : args.length ≤ b.ntmps) {h : Heap} {Post : AV → Heap → Prop}
    (hwp : wp C b.ntmps none b.code (retO b.res Post) ⟨argT args, h, []⟩) : ACalls C g args h Post := by
  unfold Ctx.body lowerFn at hbody
  split at hbody
  · rename_i fn hf
    split at hbody
    · cases hbody
    · rename_i hname
      split at hbody
      · rename_i c rs hc hrs
        cases hbody
        refine ⟨?_, ?_⟩
        · intro args w
          simp [callFunc, hf, hname, hc, mark]
        · intro keep env w R hbel
          refine (callsIn_wide (n := 0)).1 (callsIn_of_wp_marks hf hc trivial ?_ rfl)
          have S : Sim C keep fn.ntmps env ⟨argT args, h, []⟩ { tmps := (args.map (AV.val C.lk env)).toArray ++ Array.replicate (fn.ntmps - (args.map (AV.val C.lk env)).toArray.size) undef, defers := [] } w := by
            have hsz : (args.map (AV.val C.lk env)).toArray.size = args.length := by simp
            refine ⟨?_, ?_, ?_, rfl, by simp, R⟩
            · have : args.length ≤ fn.ntmps := hargs
              simp; omega
            · intro s
              rw [Array.getD_eq_getD_getElem?, Array.getElem?_append, hsz]
              simp only [argT, List.getD_eq_getElem?_getD]
              by_cases hs : s < args.length
              · rw [if_pos hs]; simp [hs]
              · rw [if_neg hs, List.getElem?_eq_none (by omega)]
                simp only [Option.getD_none, Array.getElem?_replicate]
                split <;> rfl
            · intro s
              simp only [argT, List.getD_eq_getElem?_getD]
              cases hs : args[s]? with
              | none => trivial
              | some v => exact hbel v (List.mem_of_getElem? hs)
          have H := wp_sound env none (range_sound env none) (draw_sound env none) c (retO rs Post) env ⟨argT args, h, []⟩ _ w hwp S (by intro l hl; cases hl)
          refine wpIn_mono H ?_
          rintro e a' w' ⟨o, rfl, env', st', F, _, hL, hret⟩
          have fin : (∃ h1 vs, closeMarks st'.h st'.m = some h1 ∧ resA st'.t h1 rs = some vs ∧ Post (retA vs) h1) → LeavesInM Fence.wide 0 C.P fn a'.tmps (Back C keep env h w Post) a'.defers .returning w' := by
            rintro ⟨h1, vs, hcm, hres, hP⟩
            rw [F.sim.defers]
            refine leaves_sound st'.m F.sim.rel hcm ?_
            intro w1 R1 K1
            have hl1 := closeMarks_le _ _ _ hcm
            have q := results_sound (tmps := a'.tmps) R1 F.sim.tmps (fun s => bel_mono (fun i hi => hl1.ok hi) _ (F.sim.bel s)) hrs hres
            exact ⟨_, q.1, env', _, h1, rfl, hP, R1, F.keepW.trans K1, F.ext, hL.trans hl1, q.2⟩
          have un : ∀ {o}, (∀ id, o ≠ .exit id) → retO rs Post o st' → ∃ h1 vs, closeMarks st'.h st'.m = some h1 ∧ resA st'.t h1 rs = some vs ∧ Post (retA vs) h1 := by
            intro o ho hr
            have hr' : match closeMarks st'.h st'.m with
              | some h1 => match resA st'.t h1 rs with
                | some vs => Post (retA vs) h1
                | none => False
              | none => False := by
              cases o with
              | exit id => exact absurd rfl (ho id)
              | normal => exact hr
              | ret => exact hr
            split at hr'
            · rename_i h1 e1
              split at hr'
              · rename_i vs e2; exact ⟨h1, vs, e1, e2, hr'⟩
              · exact hr'.elim
            · exact hr'.elim
          cases o with
          | normal => exact fin (un (by intro id h; cases h) hret)
          | ret => exact fin (un (by intro id h; cases h) hret)
          | exit id => exact hret.elim
      · cases hbody
  · cases hbody

def setParams (t : Nat → AV) : List Nat → List AV → Nat → AV
  | p :: ps, a :: as => setParams (upd t p a) ps as
  | _, _ => t

/-- The end of a round. -/
def roundO (l : Nat) (Post : AV → Heap → Prop) (o : Out) (st : St) : Prop :=
  ∃ r, st.h.get l = some (.loop r) ∧ (o = .normal → Post (.bool true) (st.h.put l (.loop { r with state := .ready, pend := none }))) ∧
    (o ≠ .normal → Post (.bool false) (st.h.put l (.loop { r with state := .done, pend := some o })))

/-- The beginning of a round's body. -/
def beginO (C : Ctx) (nt l : Nat) (body : ACode) (Post : AV → Heap → Prop) (o : Out) (st : St) : Prop :=
  o = .normal ∧ ∃ r, st.h.get l = some (.loop r) ∧ r.state = .ready ∧ wp C nt (some l) body (roundO l Post) { st with h := st.h.put l (.loop { r with state := .busy }) }

theorem params_sound (env : Env) : ∀ (ps : List Nat) (as : List AV) (t : Nat → AV) (tmps : Array Value), ps.length = as.length → (∀ p ∈ ps, p < tmps.size) → (∀ s, tmps.getD s undef = (t s).val C.lk env) →
    ((ps.zip (as.map (AV.val C.lk env))).foldl (fun tmps (x : Nat × Value) => tmps.setIfInBounds x.1 x.2) tmps).size = tmps.size ∧
    ∀ s, ((ps.zip (as.map (AV.val C.lk env))).foldl (fun tmps (x : Nat × Value) => tmps.setIfInBounds x.1 x.2) tmps).getD s undef = (setParams t ps as s).val C.lk env
  | [], as, t, tmps, hl, hp, ht => by
    cases as with
    | nil => exact ⟨rfl, ht⟩
    | cons a as => cases hl
  | p :: ps, as, t, tmps, hl, hp, ht => by
    cases as with
    | nil => cases hl
    | cons a as =>
      have hpl := hp p (by simp)
      have ih := params_sound env ps as (upd t p a) (tmps.setIfInBounds p (a.val C.lk env)) (by simpa using hl) (fun q hq => by simpa using hp q (by simp [hq])) (fun s => by
        rw [getD_set _ _ _ _ _ hpl]
        unfold upd
        by_cases e : s = p
        · rw [if_pos e, if_pos e]
        · rw [if_neg e, if_neg e, ht])
      refine ⟨?_, ?_⟩
      · simp only [List.map_cons, List.zip_cons_cons, List.foldl_cons]
        rw [ih.1]; simp
      · intro s
        simp only [List.map_cons, List.zip_cons_cons, List.foldl_cons, setParams]
        exact ih.2 s

theorem setParams_bel {p : Nat → Prop} : ∀ (ps : List Nat) (as : List AV) (t : Nat → AV), (∀ s, (t s).bel p) → (∀ a ∈ as, a.bel p) → ∀ s, (setParams t ps as s).bel p
  | [], as, t, ht, _ => by cases as <;> exact ht
  | q :: ps, [], t, ht, _ => ht
  | q :: ps, a :: as, t, ht, ha => by
    simp only [setParams]
    refine setParams_bel ps as _ ?_ (fun x hx => ha x (by simp [hx]))
    intro s
    unfold upd
    by_cases e : s = q
    · rw [if_pos e]; exact ha a (by simp)
    · rw [if_neg e]; exact ht s

/-- **A round's contract, from the loop's body.** -/
theorem yield_intro {l : Nat} {h : Heap} {r : ALoop} (hl : h.get l = some (.loop r)) (hready : r.state = .ready) {args : List AV} (hargs : r.params.length = args.length) {Post : AV → Heap → Prop}
    (hwp : wp C r.nt (some l) r.assign (beginO C r.nt l r.body Post) ⟨setParams r.t r.params args, h, []⟩) : AYield C l args h Post := by
  intro keep env w R hbel
  obtain ⟨fn, tmps, params, assign, body, q1, q2, q3, q4, q5, q6, q7, q8⟩ := R.blk l _ hl
  have hsz : ((args.map (AV.val C.lk env)).toArray).size = params.size := by
    have : params.size = r.params.length := by rw [← q4]; simp
    simp; omega
  have hy := run_yield (P := C.P) (w := w) (args := (args.map (AV.val C.lk env)).toArray) q1 hsz
  refine ⟨_, _, _, _, hy, ?_⟩
  have hfold : ((params.zip (args.map (AV.val C.lk env)).toArray).foldl (fun tmps (t, a) => tmps.setIfInBounds t a) tmps) =
      (r.params.zip (args.map (AV.val C.lk env))).foldl (fun tmps (x : Nat × Value) => tmps.setIfInBounds x.1 x.2) tmps := by
    rw [← Array.foldl_toList, Array.toList_zip, q4]
  rw [show (({ state := r.state, pending := r.pend.bind Out.code, fn, tmps, params, assign, body, defers := (env r.defers).blk } : Loop).params.zip (args.map (AV.val C.lk env)).toArray).foldl (fun tmps (t, a) => tmps.setIfInBounds t a) tmps =
    (r.params.zip (args.map (AV.val C.lk env))).foldl (fun tmps (x : Nat × Value) => tmps.setIfInBounds x.1 x.2) tmps from hfold]
  have hps := params_sound (C := C) env r.params args r.t tmps hargs (fun p hp => by rw [q2]; exact q5 p hp) q3
  have hokl : h.ok l := by simp [Heap.ok, hl]
  have S : Sim C keep r.nt env ⟨setParams r.t r.params args, h, []⟩ { tmps := (r.params.zip (args.map (AV.val C.lk env))).foldl (fun tmps (x : Nat × Value) => tmps.setIfInBounds x.1 x.2) tmps, defers := [] } w :=
    ⟨hps.1.trans q2, hps.2, setParams_bel _ _ _ (R.bel l _ hl).1 hbel, rfl, by simp, R⟩
  refine roundIn_of_wpIn trivial ?_
  have H := wp_sound (C := C) (keep := keep) (nt := r.nt) env (some l) (range_sound env (some l)) (draw_sound env (some l)) assign (beginO C r.nt l r.body Post) env _ _ w (by rw [← q6]; exact hwp) S (by intro l' hl'; cases hl'; exact ⟨hokl, rfl⟩)
  refine wpIn_mono H ?_
  rintro e a1 w1 ⟨o, rfl, env1, st1, F1, _, hL1, ho, r1, hr1, hst1, hwp1⟩
  subst ho
  have hb1 : (env1 l).blk = (env l).blk := by rw [F1.ext l hokl]
  have hp1 : r1.pend ≠ some .normal := by
    obtain ⟨_, _, _, _, _, _, _, _, _, _, _, _, h8⟩ := F1.sim.rel.blk l _ hr1
    exact h8
  obtain ⟨r1', e1, e2, e3, R2, K2⟩ := loop_write F1.sim.rel hr1 .busy r1.pend hp1
  rw [hb1] at e1 R2 K2
  have hbr := run_beginRound (P := C.P) (w := w1) e1 (by rw [e2]; exact hst1)
  rw [← e3] at R2 K2
  refine ⟨_, hbr, ?_⟩
  have hput : HLe st1.h (st1.h.put l (.loop { r1 with state := .busy, pend := r1.pend })) := hle_put hr1
  have S2 : Sim C keep r.nt env1 { st1 with h := st1.h.put l (.loop { r1 with state := .busy }) } a1 (w1.putObj (env l).blk (.loop { r1' with state := .busy })) :=
    ⟨F1.sim.size, F1.sim.tmps, fun s => bel_mono (fun i hi => hput.ok hi) _ (F1.sim.bel s), F1.sim.defers, fun i hi => hput.ok (F1.sim.marks i hi), R2⟩
  have H2 := wp_sound (C := C) (keep := keep) (nt := r.nt) env (some l) (range_sound env (some l)) (draw_sound env (some l)) body (roundO l Post) env1 _ a1 _ (by rw [← q7]; exact hwp1) S2 (by
    intro l' hl'; cases hl'; exact ⟨hput.ok (F1.grow.same _ hokl), F1.ext l hokl⟩)
  refine wpIn_mono H2 ?_
  rintro e a2 w2 ⟨o, rfl, env2, st2, F2, _, hL2, r2, hr2, hp1', hp2'⟩
  have hok1 : (st1.h.put l (.loop { r1 with state := .busy })).ok l := hput.ok (F1.grow.same _ hokl)
  have hb2 : (env2 l).blk = (env l).blk := by rw [F2.ext l hok1, F1.ext l hokl]
  have fin : ∀ (s : LoopState) (pend : Option Out) (v : Bool), pend ≠ some .normal → Post (.bool v) (st2.h.put l (.loop { r2 with state := s, pend := pend })) → (s = if (pend.bind Out.code).isNone then .ready else .done) → v = (pend.bind Out.code).isNone →
      ∃ x w', (Instr.endRound (env l).blk (pend.bind Out.code)).run C.P w2 = .ok x w' ∧ Back C keep env h w Post (.returned x) w' := by
    intro s pend v hpn hP hs hv
    obtain ⟨r2', f1, f2, f3, R3, K3⟩ := loop_write F2.sim.rel hr2 s pend hpn
    rw [hb2] at f1 R3 K3
    have he := run_endRound (P := C.P) (w := w2) (pend.bind Out.code) f1
    rw [← hs, ← hv] at he
    refine ⟨_, _, he, env2, .bool v, _, rfl, hP, R3, ((F1.keepW.trans K2).trans F2.keepW).trans K3, (F1.ext.trans hL1 (Ext.refl _ _)).trans' (hL1.trans hput).grow F2.ext, ((hL1.trans hput).trans hL2).trans (hle_put hr2), trivial⟩
  cases o with
  | normal => exact fin .ready none true (by simp) (hp1' rfl) rfl rfl
  | exit id => exact fin .done (some (.exit id)) false (by simp) (hp2' (by simp)) rfl rfl
  | ret => exact fin .done (some .ret) false (by simp) (hp2' (by simp)) rfl rfl

end
end Go.Ae
