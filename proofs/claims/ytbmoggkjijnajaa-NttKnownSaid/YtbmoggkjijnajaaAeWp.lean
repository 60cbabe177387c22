/- Weakest preconditions over abstract states. -/
import Derived.Test.YtbmoggkjijnajaaAeSound
namespace Go.Ae

def Enters (P : Program) (f : FuncId) : Prop := ∀ (args : Array Value) (w : World), (callFunc f args).run P w = .ok (.enter f args) w

/-- What a call comes back with. -/
def Back (C : Ctx) (keep : Keep) (env : Env) (h : Heap) (w : World) (Post : AV → Heap → Prop) (e : Ending) (w' : World) : Prop :=
  ∃ env' r h', e = .returned (r.val C.lk env') ∧ Post r h' ∧ Rel C keep env' h' w' ∧ KeepW keep w w' ∧ Ext h env env' ∧ HLe h h' ∧ r.bel h'.ok

/-- A call of a function. -/
def ACalls (C : Ctx) (g : Nat) (args : List AV) (h : Heap) (Post : AV → Heap → Prop) : Prop :=
  Enters C.P (C.lk g) ∧ ∀ keep env w, Rel C keep env h w → (∀ v ∈ args, v.bel h.ok) → Calls C.P (C.lk g) (args.map (AV.val C.lk env)).toArray w (Back C keep env h w Post)

/-- A call of yield: a round of a range over a function. -/
def AYield (C : Ctx) (l : Nat) (args : List AV) (h : Heap) (Post : AV → Heap → Prop) : Prop :=
  ∀ keep env w, Rel C keep env h w → (∀ v ∈ args, v.bel h.ok) → ∃ fn tmps assign body, (Instr.yield (env l).blk (args.map (AV.val C.lk env)).toArray).run C.P w = .ok (.round (env l).blk fn tmps assign body) w ∧
    RoundIn Fence.wide 0 C.P (env l).blk fn tmps assign body w (Back C keep env h w Post)

def callP (C : Ctx) (f : AV) (args : List AV) (h : Heap) (Post : AV → Heap → Prop) : Prop :=
  match f with
  | .func g first captured => ACalls C g (first ++ args ++ captured) h Post
  | .yield l => AYield C l args h Post
  | _ => False

def guardP (g : Option (Nat × Bool)) (t : Nat → AV) (p q : Prop) : Prop :=
  match g with
  | none => p
  | some (s, want) => match t s with
    | .bool c => (c = want → p) ∧ (c = !want → q)
    | _ => q

def wpOp (C : Ctx) (nid : Option Nat) (o : AOper) (K : St → Prop) (st : St) : Prop :=
  match o.op with
  | .call f args => callP C (f.ev st.t) (args.map (·.ev st.t)) st.h (fun r h' => K (St.put { st with h := h' } o.dst r))
  | op => match aOp nid op (·.ev st.t) st.h with
    | some (v, h') => K (St.put { st with h := h' } o.dst v)
    | none => False

def wpOps (C : Ctx) : List AOper → (St → Prop) → St → Prop
  | [], K, st => K st
  | o :: os, K, st => guardP o.guard st.t (wpOp C none o (wpOps C os K) st) (wpOps C os K (st.put o.dst .undef))

def writes : ACode → List Nat
  | .region ops => ops.filterMap (·.dst)
  | .draw _ ds => ds.filterMap (·.o.dst)
  | .seq a b => writes a ++ writes b
  | .cond _ a b => writes a ++ writes b
  | .block _ c => writes c
  | .loop c => writes c
  | _ => []

def mix (W : List Nat) (u t : Nat → AV) : Nat → AV := fun s => if W.contains s then u s else t s

def thenO (K : St → Prop) (Q : Out → St → Prop) : Out → St → Prop
  | .normal, st => K st
  | o, st => Q o st

def blockO (id : Nat) (Q : Out → St → Prop) : Out → St → Prop
  | .exit id', st => if id' = id then Q .normal st else Q (.exit id') st
  | o, st => Q o st

def condP (v : AV) (p q : Prop) : Prop :=
  match v with
  | .bool c => (c = true → p) ∧ (c = false → q)
  | _ => False

/-- The function that is ranged over: a closure, called with yield. -/
def rangeP (C : Ctx) (f : AV) (l : Nat) (h : Heap) (Post : AV → Heap → Prop) : Prop :=
  match f with
  | .func g first captured => ACalls C g (first ++ [.yield l] ++ captured) h Post
  | _ => False

/-- Entering a range over a function. -/
def wpRange (C : Ctx) (nt : Nat) (rd : Option Nat) (f : AV) (ps : List Nat) (assign body : ACode) (Q : Out → St → Prop) (st : St) : Prop :=
  match rd with
  | none => rangeP C f (st.h.size + 1) ((st.h.push (.defd true)).push (.loop { state := .ready, pend := none, t := st.t, nt, params := ps, assign, body, defers := st.h.size })) fun _ h' =>
      ∃ r, h'.get (st.h.size + 1) = some (.loop r) ∧ r.state ≠ .busy ∧ Q (r.pend.getD .normal) ⟨st.t, h'.put (st.h.size + 1) (.loop { r with state := .exhausted }), st.h.size :: st.m⟩
  | some l => ∃ r0, st.h.get l = some (.loop r0) ∧ rangeP C f st.h.size (st.h.push (.loop { state := .ready, pend := none, t := st.t, nt, params := ps, assign, body, defers := r0.defers })) fun _ h' =>
      ∃ r, h'.get st.h.size = some (.loop r) ∧ r.state ≠ .busy ∧ Q (r.pend.getD .normal) ⟨st.t, h'.put st.h.size (.loop { r with state := .exhausted }), st.m⟩

def AV.ids : AV → List Nat
  | .ptr i _ => [i]
  | .slice i _ _ _ => [i]
  | _ => []

def AV.rids : AV → List Nat
  | .slice i _ _ (.unk _) => [i]
  | _ => []

def callVals (f : AV) (args : List AV) : List AV :=
  match f with
  | .func _ first captured => first ++ args ++ captured
  | _ => args

def gOn (g : Option (Nat × Bool)) (t : Nat → AV) : Bool :=
  match g with
  | none => true
  | some (s, want) => match t s with
    | .bool c => c == want
    | _ => false

/-- The blocks that an operation looks at or writes; n is the place kept for a new one. -/
def footA (op : AOp) (ev : AOpd → AV) (n : Nat) : List Nat :=
  match op with
  | .load _ _ x | .store _ x _ => (ev x).ids
  | .slice _ x _ _ _ => (ev x).rids
  | .append _ _ s x => (ev s).ids ++ (ev x).ids ++ [n]
  | .appendMake _ _ s _ => (ev s).ids ++ [n]
  | .copy _ d s => (ev d).ids ++ (ev s).ids
  | .alloc .. | .box .. | .buildSlice .. | .makeSlice .. => [n]
  | _ => []

def wrA (op : AOp) (ev : AOpd → AV) (n : Nat) : List Nat :=
  match op with
  | .store _ x _ => (ev x).ids
  | .append _ _ s _ | .appendMake _ _ s _ => (ev s).ids ++ [n]
  | .copy _ d _ => (ev d).ids
  | .alloc .. | .box .. | .buildSlice .. | .makeSlice .. => [n]
  | _ => []

abbrev Acc := List (Nat × List Nat × List Nat)

def chkP (acc : Acc) (ck : List Nat) (op : AOp) (ev : AOpd → AV) (n : Nat) : Prop :=
  ∀ e ∈ acc, e.1 ∈ ck → (∀ a ∈ e.2.1, a ∉ wrA op ev n) ∧ (∀ a ∈ e.2.2, a ∉ footA op ev n)

/-- What the operations ahead have looked at is as it was. -/
def chkS (acc : Acc) (ck : List Nat) (h h' : Heap) : Prop := ∀ e ∈ acc, e.1 ∈ ck → ∀ i ∈ e.2.1, h'.get i = h.get i

def accAdd (d : DItem) (ev : AOpd → AV) (n : Nat) (acc : Acc) : Acc := if d.mem then (d.k, footA d.o.op ev n, wrA d.o.op ev n) :: acc else acc

def stepD (C : Ctx) (base : Nat) (d : DItem) (acc : Acc) (K : Acc → St → Prop) (st : St) : Prop :=
  guardP d.o.guard st.t
    (match d.o.op with
      | .call f args => callP C (f.ev st.t) (args.map (·.ev st.t)) st.h (fun r h' => chkS acc d.ck st.h h' ∧ K acc (St.put { st with h := h' } d.o.dst r))
      | op => chkP acc d.ck op (·.ev st.t) (base + d.k) ∧ match aOp (some (base + d.k)) op (·.ev st.t) st.h with
        | some (v, h') => K (accAdd d (·.ev st.t) (base + d.k) acc) (St.put { st with h := h' } d.o.dst v)
        | none => False)
    (K acc (st.put d.o.dst .undef))

def wpD (C : Ctx) (base : Nat) : List DItem → Acc → (St → Prop) → St → Prop
  | [], _, K, st => K st
  | d :: ds, acc, K, st => stepD C base d acc (fun acc' st' => wpD C base ds acc' K st') st

def wpDraw (C : Ctx) (n : Nat) (ds : List DItem) (K : St → Prop) (st : St) : Prop := wpD C st.h.size ds [] K (if n = 0 then st else { st with h := st.h.reserve n })

def wp (C : Ctx) (nt : Nat) (rd : Option Nat) : ACode → (Out → St → Prop) → St → Prop
  | .skip, Q, st => Q .normal st
  | .region ops, Q, st => wpOps C ops (Q .normal) st
  | .draw n ds, Q, st => wpDraw C n ds (Q .normal) st
  | .seq a b, Q, st => wp C nt rd a (thenO (wp C nt rd b Q) Q) st
  | .cond c a b, Q, st => condP (c.ev st.t) (wp C nt rd a Q st) (wp C nt rd b Q st)
  | .block id c, Q, st => wp C nt rd c (blockO id Q) st
  | .loop c, Q, st => ∃ (I : (Nat → AV) → Heap → List Nat → Prop) (μ : (Nat → AV) → Heap → List Nat → Nat), I st.t st.h st.m ∧
      ∀ u h' m', HLe st.h h' → I (mix (writes c) u st.t) h' m' →
        wp C nt rd c (thenO (fun st' => I st'.t st'.h st'.m ∧ μ st'.t st'.h st'.m < μ (mix (writes c) u st.t) h' m') Q) ⟨mix (writes c) u st.t, h', m'⟩
  | .rangeFunc f ps a b, Q, st => wpRange C nt rd (f.ev st.t) ps a b Q st
  | .exit id, Q, st => Q (.exit id) st
  | .ret, Q, st => Q .ret st
  | .refuse _, _, _ => False

/-! ### Soundness -/
structure Sim (C : Ctx) (keep : Keep) (nt : Nat) (env : Env) (st : St) (a : Act) (w : World) : Prop where
  size : a.tmps.size = nt
  tmps : ∀ s, a.tmps.getD s undef = (st.t s).val C.lk env
  bel : ∀ s, (st.t s).bel st.h.ok
  defers : a.defers = st.m.map fun i => { target := .collected (env i).blk, args := #[] }
  marks : ∀ i ∈ st.m, st.h.ok i
  rel : Rel C keep env st.h w

/-- How far a step has come. -/
structure Far (C : Ctx) (keep : Keep) (nt : Nat) (env : Env) (st : St) (w : World) (env' : Env) (st' : St) (a' : Act) (w' : World) : Prop where
  sim : Sim C keep nt env' st' a' w'
  keepW : KeepW keep w w'
  ext : Ext st.h env env'
  grow : HGrow st.h st'.h

theorem Far.refl {C : Ctx} {keep : Keep} {nt : Nat} {env : Env} {st : St} {a : Act} {w : World} (S : Sim C keep nt env st a w) : Far C keep nt env st w env st a w :=
  ⟨S, KeepW.refl _ _, Ext.refl _ _, HGrow.refl _⟩
theorem Far.trans {C : Ctx} {keep : Keep} {nt : Nat} {env env1 env2 : Env} {st st1 st2 : St} {a1 a2 : Act} {w w1 w2 : World} (F : Far C keep nt env st w env1 st1 a1 w1) (G : Far C keep nt env1 st1 w1 env2 st2 a2 w2) : Far C keep nt env st w env2 st2 a2 w2 :=
  ⟨G.sim, F.keepW.trans G.keepW, F.ext.trans' F.grow G.ext, F.grow.trans G.grow⟩

section
variable {C : Ctx} {keep : Keep} {nt : Nat} {env : Env} {st : St} {a : Act} {w : World}

theorem getD_set (t : Array Value) (d s : Nat) (v x : Value) (hd : d < t.size) : (t.setIfInBounds d v).getD s x = if s = d then v else t.getD s x := by
  simp only [Array.getD_eq_getD_getElem?, Array.getElem?_setIfInBounds]
  by_cases e : s = d
  · subst e; simp [hd]
  · rw [if_neg (fun x => e x.symm), if_neg e]

theorem Sim.opd (S : Sim C keep nt env st a w) : ∀ x ax, lowerOpd C.inv x = some ax → a.eval x = (ax.ev st.t).val C.lk env ∧ (ax.ev st.t).bel st.h.ok :=
  fun x ax hx => lowerOpd_spec x ax hx st.t a S.tmps S.bel

/-- A result that is put into its place. -/
theorem Sim.put (S : Sim C keep nt env st a w) {d : Option Nat} (hd : dstOk nt d = true) {env' : Env} {h' : Heap} {w' : World} {v : AV} (R : Rel C keep env' h' w') (K : KeepW keep w w') (X : Ext st.h env env') (G : HGrow st.h h') (hv : v.bel h'.ok) :
    Far C keep nt env st w env' (St.put { st with h := h' } d v) (a.put d (v.val C.lk env')) w' := by
  have hbel : ∀ s, (st.t s).bel h'.ok := fun s => bel_mono (fun i hi => G.same i hi) _ (S.bel s)
  have hval : ∀ s, (st.t s).val C.lk env' = (st.t s).val C.lk env := fun s => X.val (S.bel s)
  have hdef : a.defers = st.m.map fun i => { target := .collected (env' i).blk, args := #[] } := by
    rw [S.defers]
    refine List.map_congr_left fun i hi => ?_
    rw [X i (S.marks i hi)]
  cases d with
  | none =>
    exact ⟨⟨S.size, fun s => (S.tmps s).trans (hval s).symm, hbel, hdef, fun i hi => G.same i (S.marks i hi), R⟩, K, X, G⟩
  | some d =>
    have hlt : d < nt := by simpa [dstOk] using hd
    refine ⟨⟨?_, fun s => ?_, fun s => ?_, hdef, fun i hi => G.same i (S.marks i hi), R⟩, K, X, G⟩
    · simp [Act.put, S.size]
    · simp only [Act.put, St.put, upd]
      rw [getD_set _ _ _ _ _ (by rw [S.size]; exact hlt)]
      by_cases e : s = d
      · rw [if_pos e, if_pos e]
      · rw [if_neg e, if_neg e, S.tmps s, hval s]
    · simp only [St.put, upd]
      by_cases e : s = d
      · rw [if_pos e]; exact hv
      · rw [if_neg e]; exact hbel s

def fen (env : Env) : Option Nat → Fence
  | none => Fence.wide
  | some l => Fence.wide.inRound (env l).blk

theorem fen_fn (env : Env) (rd : Option Nat) (f : FuncId) : (fen env rd).fn f := by cases rd <;> exact trivial
theorem fen_depth (env : Env) (rd : Option Nat) : (fen env rd).depth.isSome = true → 1 ≤ 0 := by cases rd <;> (intro h; cases h)

theorem semAt_lowered {o : Oper} {aop : AOp} (hl : lowerOp C.P C.inv o.op = some aop) (ro : Option Nat) (ρ : Operand → Value) : o.semAt ro ρ = execOp ρ o := by
  unfold Oper.semAt
  cases ro with
  | none => rfl
  | some l =>
    cases hop : o.op with
    | defer c => rw [hop] at hl; simp [lowerOp] at hl
    | _ => rfl

theorem rounds_run (fenv : Env) (rd : Option Nat) {F : Fence} (hF : F = fen fenv rd) {n : Nat} {P : Program} {f : FuncId} {args : Array Value} {w : World} {R : Ending → World → Prop} (h : Calls P f args w R) : CallsIn F n P f args w R := by
  subst hF
  cases rd with
  | none => exact callsIn_wide.2 h
  | some l =>
    have h' : CallsIn Fence.wide n P f args w R := callsIn_wide.2 h
    exact h'

theorem roundIn_fen (fenv : Env) (rd : Option Nat) {n : Nat} {P : Program} {l : Nat} {f : FuncId} {tmps : Array Value} {assign body : Code} {w : World} {R : Ending → World → Prop} (h : RoundIn Fence.wide n P l f tmps assign body w R) : RoundIn (fen fenv rd) n P l f tmps assign body w R := by
  cases rd with
  | none => exact h
  | some q => exact h

/-- **One operation.** -/
theorem op_sound (S : Sim C keep nt env st a w) (fenv : Env) (rd : Option Nat) {ops : Array Oper} {o : Oper} {ao : AOper} (ha : lowerOper C.P C.inv nt ops o = ao) {nid : Option Nat} {K : St → Prop} {Q : Exit → Act → World → Prop} (hK : wpOp C nid ao K st) :
    o.wpIn (fen fenv rd) 0 C.P a w (fun a' w' => ∃ env' st', Far C keep nt env st w env' st' a' w' ∧ (∀ s, ao.dst ≠ some s → st'.t s = st.t s) ∧ (∀ i, i < st.h.size → nid ≠ some i → (st'.h.get i).isSome = (st.h.get i).isSome) ∧ K st') Q := by
  unfold lowerOper at ha
  split at ha
  · rename_i aop g h1 h2 h3
    subst ha
    refine ⟨fun f _ => fen_fn fenv rd f, ?_⟩
    rw [semAt_lowered h1]
    have hput : ∀ (h' : Heap) (v : AV) s, o.dst ≠ some s → (St.put { st with h := h' } o.dst v).t s = st.t s := by
      intro h' v s hs
      cases hd : o.dst with
      | none => rfl
      | some d =>
        simp only [St.put, upd]
        rw [if_neg]
        intro e; subst e; exact hs hd
    have hph : ∀ (h' : Heap) (v : AV), (St.put { st with h := h' } o.dst v).h = h' := fun h' v => by cases o.dst <;> rfl
    have simple : (∀ f args, aop ≠ .call f args) → wpOp C nid { dst := o.dst, op := aop, guard := g } K st → Oper.uponIn (fen fenv rd) 0 C.P o a (fun a' w' => ∃ env' st', Far C keep nt env st w env' st' a' w' ∧ (∀ s, o.dst ≠ some s → st'.t s = st.t s) ∧ (∀ i, i < st.h.size → nid ≠ some i → (st'.h.get i).isSome = (st.h.get i).isSome) ∧ K st') Q ((execOp a.eval o).run C.P w) := by
      intro hne hK
      have hK' : match aOp nid aop (·.ev st.t) st.h with | some (v, h') => K (St.put { st with h := h' } o.dst v) | none => False := by
        unfold wpOp at hK
        dsimp only at hK
        split at hK
        · exact absurd rfl (hne _ _)
        · exact hK
      cases hv : aOp nid aop (·.ev st.t) st.h with
      | none => rw [hv] at hK'; exact hK'.elim
      | some p =>
        obtain ⟨v, h'⟩ := p
        rw [hv] at hK'
        obtain ⟨env', w', V, hrun, hV, hR, hW, hX, hG, hS, hB⟩ := aOp_sound S.rel S.opd (fun _ => rfl) h1 hv
        rw [hrun]
        have F := S.put h2 hR hW hX hG hB
        rcases hV with rfl | ⟨rfl, rfl⟩
        · exact ⟨env', _, F, hput h' v, fun i hi hn => by rw [hph]; exact hS i hi hn, hK'⟩
        · exact ⟨env', _, F, hput h' _, fun i hi hn => by rw [hph]; exact hS i hi hn, hK'⟩
    cases aop with
    | call f args =>
      -- a call
      have hK' : callP C (f.ev st.t) (args.map (·.ev st.t)) st.h (fun r h' => K (St.put { st with h := h' } o.dst r)) := hK
      cases hop : o.op with
      | call c =>
        rw [hop] at h1
        have h1' : lowerCall C.P C.inv c = some (.call f args) := h1
        unfold lowerCall at h1'
        split at h1'
        · rename_i args' hargs
          split at h1'
          · rename_i fo hcal
            simp only [Option.map_eq_some_iff] at h1'
            obtain ⟨f', hf', he⟩ := h1'
            cases he
            have q := lowerOpds_spec S.opd hargs
            have e1 : c.args.map a.eval = ((args.map (·.ev st.t)).map (AV.val C.lk env)).toArray := by rw [← q.1, ← map_toArr]
            have e2 := S.opd fo f hf'
            have back : ∀ e w', Back C keep env st.h w (fun r h' => K (St.put { st with h := h' } o.dst r)) e w' → ∃ v, e = .returned v ∧ (∃ env' st', Far C keep nt env st w env' st' (a.put o.dst v) w' ∧ (∀ s, o.dst ≠ some s → st'.t s = st.t s) ∧ (∀ i, i < st.h.size → nid ≠ some i → (st'.h.get i).isSome = (st.h.get i).isSome) ∧ K st') := by
              rintro e w' ⟨env', r, h', rfl, hP, hR, hW, hX, hL, hB⟩
              exact ⟨_, rfl, env', _, S.put h2 hR hW hX hL.grow hB, hput h' r, fun i hi _ => by rw [hph]; exact hL.same i hi, hP⟩
            unfold callP at hK'
            split at hK'
            · rename_i gg first cap hfv
              obtain ⟨hent, hcall⟩ := hK'
              rw [hfv] at e2
              have hbels : ∀ v ∈ first ++ args.map (·.ev st.t) ++ cap, v.bel st.h.ok := by
                intro v hv
                rcases List.mem_append.1 hv with hv | hv
                · rcases List.mem_append.1 hv with hv | hv
                  · exact (bels_iff _ _).1 e2.2.1 v hv
                  · exact q.2 v hv
                · exact (bels_iff _ _).1 e2.2.2 v hv
              have hc := hcall keep env w S.rel hbels
              have hrun : (execOp a.eval o).run C.P w = .ok (.enter (C.lk gg) ((first ++ args.map (·.ev st.t) ++ cap).map (AV.val C.lk env)).toArray) w := by
                have e3 := e2.1
                simp only [AV.val, vals_eq] at e3
                have hent' := hent ((first ++ args.map (·.ev st.t) ++ cap).map (AV.val C.lk env)).toArray w
                simp only [execOp, hop, resolve, hcal, Deferred.ofValue, e1, e3, Sem.run_bind, Sem.run_pure, Result.andThen_ok, invoke]
                rw [← hent']
                simp
              rw [hrun]
              refine ⟨fen_depth fenv rd, ?_⟩
              refine (rounds_run fenv rd rfl hc).mono ?_
              intro e w' hb
              obtain ⟨v, rfl, hh⟩ := back e w' hb
              exact hh
            · rename_i l hfv
              rw [hfv] at e2
              obtain ⟨fn, tmps, assign, body, hy, hR⟩ := hK' keep env w S.rel q.2
              have hrun : (execOp a.eval o).run C.P w = .ok (.round (env l).blk fn tmps assign body) w := by
                have e3 := e2.1
                simp only [AV.val] at e3
                simp only [execOp, hop, resolve, hcal, Deferred.ofValue, e1, e3, Sem.run_bind, Sem.run_pure, Result.andThen_ok, invoke]
                rw [← hy]
                simp
              rw [hrun]
              refine ⟨fen_depth fenv rd, ?_⟩
              refine (roundIn_fen fenv rd hR).mono ?_
              intro e w' hb
              obtain ⟨v, rfl, hh⟩ := back e w' hb
              exact hh
            · exact hK'.elim
          · rename_i b hcal
            unfold lowerBuiltin at h1'
            repeat' split at h1'
            all_goals first
              | (cases h1'; done)
              | (simp only [Option.map_eq_some_iff] at h1'; obtain ⟨_, _, h1'⟩ := h1'; cases h1'; done)
          · cases h1'
        · cases h1'
      | makeFunc fn x y =>
        exfalso
        rw [hop] at h1
        cases fn <;> simp only [lowerOp] at h1
        all_goals first | (cases h1; done) | ((repeat' split at h1) <;> cases h1; done)
      | _ =>
        exfalso
        rw [hop] at h1
        first
          | (simp only [lowerOp] at h1; (repeat' split at h1) <;> first | (cases h1; done) | (simp only [Option.map_eq_some_iff] at h1; obtain ⟨_, _, h1⟩ := h1; cases h1; done))
          | (unfold lowerOp at h1; simp only [lowerBuild, lowerBuildSlice] at h1; (repeat' split at h1) <;> first | (cases h1; done) | (simp only [Option.map_eq_some_iff] at h1; obtain ⟨_, _, h1⟩ := h1; cases h1; done))
    | _ => exact simple (by intro f args h; cases h) hK
  · subst ha
    unfold wpOp at hK
    simp [aOp, pureA] at hK

end
end Go.Ae
