/- Regions that draw their order: one order is looked at, the others follow. -/
import Derived.Test.YtbmoggkjijnajaaAeFrame
namespace Go.Ae

section
variable {C : Ctx} {base : Nat} {nt : Nat} {ops : Array Oper}

/-- The item stands for an operation of the region. -/
def Src (C : Ctx) (nt : Nat) (ops : Array Oper) (d : DItem) : Prop := ∃ o, ops[d.k]? = some o ∧ lowerOper C.P C.inv nt ops o = d.o

/-- There is a world for the state. -/
def Can (C : Ctx) (st : St) : Prop := (∃ keep env w, Rel C keep env st.h w) ∧ ∀ s, (st.t s).bel st.h.ok

theorem opd_bel {x : Operand} {ax : AOpd} (hx : lowerOpd C.inv x = some ax) {t : Nat → AV} {p : Nat → Prop} (hb : ∀ s, (t s).bel p) : (ax.ev t).bel p := by
  cases x with
  | tmp s => cases hx; exact hb s
  | const v =>
    simp only [lowerOpd, Option.map_eq_some_iff] at hx
    obtain ⟨b, h1, rfl⟩ := hx
    exact (ofVal_spec h1 C.lk (fun _ => default) p).2
  | global g => cases hx
  | func f =>
    simp only [lowerOpd, Option.map_eq_some_iff] at hx
    obtain ⟨b, h1, rfl⟩ := hx
    exact ⟨trivial, trivial⟩

theorem opds_bel {t : Nat → AV} {p : Nat → Prop} (hb : ∀ s, (t s).bel p) : ∀ {xs : List Operand} {as : List AOpd}, lowerOpds C.inv xs = some as → ∀ v ∈ as.map (·.ev t), v.bel p
  | [], as, hx => by cases hx; simp
  | x :: xs, as, hx => by
    unfold lowerOpds at hx
    split at hx
    · rename_i a as' h1 h2
      cases hx
      intro v hv
      simp only [List.map_cons, List.mem_cons] at hv
      rcases hv with rfl | hv
      · exact opd_bel h1 hb
      · exact opds_bel hb h2 v hv
    · cases hx

theorem lowerCall_spec {op : Op} {f : AOpd} {args : List AOpd} (h1 : lowerOp C.P C.inv op = some (.call f args)) : ∃ fo xs, lowerOpd C.inv fo = some f ∧ lowerOpds C.inv xs = some args := by
  cases op with
  | call c =>
    have h1' : lowerCall C.P C.inv c = some (.call f args) := h1
    unfold lowerCall at h1'
    split at h1'
    · rename_i args' hargs
      split at h1'
      · rename_i fo hcal
        simp only [Option.map_eq_some_iff] at h1'
        obtain ⟨f', hf', he⟩ := h1'
        cases he
        exact ⟨fo, _, hf', hargs⟩
      · rename_i b hcal
        unfold lowerBuiltin at h1'
        repeat' split at h1'
        all_goals first
          | (cases h1'; done)
          | (simp only [Option.map_eq_some_iff] at h1'; obtain ⟨_, _, h1'⟩ := h1'; cases h1'; done)
      · cases h1'
    · cases h1'
  | makeFunc fn x y =>
    exfalso
    cases fn <;> simp only [lowerOp] at h1
    all_goals first | (cases h1; done) | ((repeat' split at h1) <;> cases h1; done)
  | _ =>
    exfalso
    first
      | (simp only [lowerOp] at h1; (repeat' split at h1) <;> first | (cases h1; done) | (simp only [Option.map_eq_some_iff] at h1; obtain ⟨_, _, h1⟩ := h1; cases h1; done))
      | (unfold lowerOp at h1; simp only [lowerBuild, lowerBuildSlice] at h1; (repeat' split at h1) <;> first | (cases h1; done) | (simp only [Option.map_eq_some_iff] at h1; obtain ⟨_, _, h1⟩ := h1; cases h1; done))

theorem Src.op {d : DItem} (hs : Src C nt ops d) : (∃ s, d.o.op = .refuse s) ∨ ∃ o : Oper, lowerOp C.P C.inv o.op = some d.o.op := by
  obtain ⟨o, _, h⟩ := hs
  unfold lowerOper at h
  split at h
  · rename_i aop g h1 h2 h3
    rw [← h]
    exact .inr ⟨o, h1⟩
  · rw [← h]; exact .inl ⟨_, rfl⟩

theorem Src.vals {d : DItem} (hs : Src C nt ops d) {f : AOpd} {args : List AOpd} (ho : d.o.op = .call f args) {t : Nat → AV} {p : Nat → Prop} (hb : ∀ s, (t s).bel p) :
    ∀ v ∈ callVals (f.ev t) (args.map (·.ev t)), v.bel p := by
  rcases hs.op with ⟨s, h⟩ | ⟨o, h⟩
  · rw [ho] at h; cases h
  · rw [ho] at h
    obtain ⟨fo, xs, hf, hx⟩ := lowerCall_spec h
    have h1 := opd_bel (t := t) (p := p) hf hb
    have h2 := opds_bel (t := t) (p := p) hb hx
    intro v hv
    unfold callVals at hv
    split at hv
    · rename_i g first captured hfe
      rw [hfe] at h1
      rcases List.mem_append.1 hv with hv | hv
      · rcases List.mem_append.1 hv with hv | hv
        · exact (bels_iff _ _).1 h1.1 v hv
        · exact h2 v hv
      · exact (bels_iff _ _).1 h1.2 v hv
    · exact h2 v hv

theorem Can.put {st : St} (hc : Can C st) {h' : Heap} {v : AV} {d : Option Nat} (hr : ∃ keep env w, Rel C keep env h' w) (hg : HGrow st.h h') (hv : v.bel h'.ok) : Can C ⟨updO st.t d v, h', st.m⟩ := by
  refine ⟨hr, fun s => ?_⟩
  have h0 : (st.t s).bel h'.ok := bel_mono (fun i hi => hg.same i hi) _ (hc.2 s)
  cases d with
  | none => exact h0
  | some q =>
    simp only [updO, upd]
    split
    · exact hv
    · exact h0

theorem Can.op {st : St} (hc : Can C st) {d : DItem} (hs : Src C nt ops d) {nid : Option Nat} {v : AV} {h' : Heap} (hv : aOp nid d.o.op (·.ev st.t) st.h = some (v, h')) (ds : Option Nat) : Can C ⟨updO st.t ds v, h', st.m⟩ ∧ st.h.size ≤ h'.size := by
  rcases hs.op with ⟨s, h⟩ | ⟨o, h⟩
  · rw [h] at hv; simp [aOp, pureA] at hv
  · obtain ⟨keep, env, w, R⟩ := hc.1
    obtain ⟨env', w', V, _, _, R', _, _, hG, _, hb⟩ := aOp_sound R (ρ := fun x => match lowerOpd C.inv x with | some ax => (ax.ev st.t).val C.lk env | none => undef) (ev := (·.ev st.t))
      (fun x ax hx => ⟨by simp only [hx], opd_bel hx hc.2⟩) (fun _ => rfl) h hv
    exact ⟨hc.put ⟨keep, env', w', R'⟩ hG hb, hG.size⟩

theorem stepD_more {d : DItem} (hs : Src C nt ops d) {a b : Acc} {K K' : Acc → St → Prop} {st : St} (hc : Can C st) (hab : AccLe a b)
    (hK : ∀ a b v h', AccLe a b → st.h.size ≤ h'.size → Can C ⟨updO st.t d.o.dst v, h', st.m⟩ → K b ⟨updO st.t d.o.dst v, h', st.m⟩ → K' a ⟨updO st.t d.o.dst v, h', st.m⟩)
    (h : stepD C base d b K st) : stepD C base d a K' st := by
  cases hg : gOn d.o.guard st.t with
  | false =>
    rw [stepD_off hg] at h ⊢
    exact hK _ _ _ _ hab (Nat.le_refl _) (hc.put hc.1 (HGrow.refl _) trivial) h
  | true =>
    by_cases h2 : cls d.o.op = 2
    · cases hop : d.o.op <;> rw [hop] at h2 <;> simp [cls] at h2
      rw [stepD_call hop hg] at h ⊢
      refine callP_mono (fun r h' q => ?_) (callP_more h)
      obtain ⟨⟨q1, q2⟩, q3, q4, q5⟩ := q
      exact ⟨chkS_le hab q1, hK _ _ _ _ hab q3.size (hc.put q5 q3.grow q4) q2⟩
    · rw [stepD_op h2 hg] at h ⊢
      obtain ⟨v, h', h1, h2, h3⟩ := h
      have := hc.op hs h2 d.o.dst
      exact ⟨v, h', chkP_le hab h1, h2, hK _ _ _ _ (accAdd_le hab _ _ _) this.2 this.1 h3⟩

/-- A slot is written ahead of a step that does not look at it. -/
theorem stepD_shift {x : DItem} {y : AOper} (A : Apart y x.o) {acc : Acc} {K : Acc → St → Prop} {t : Nat → AV} {h : Heap} {m : List Nat} (v : AV) :
    stepD C base x acc K ⟨updO t y.dst v, h, m⟩ ↔ stepD C base x acc (fun a st' => K a ⟨updO st'.t y.dst v, st'.h, st'.m⟩) ⟨t, h, m⟩ := by
  have comm : ∀ r, updO (updO t y.dst v) x.o.dst r = updO (updO t x.o.dst r) y.dst v := fun r => updO_comm A.b
  have hon := A.on t v
  have hev := A.ev t v
  cases hg : gOn x.o.guard t with
  | false => rw [stepD_off (by rw [hon]; exact hg), stepD_off hg]; dsimp only; rw [comm]
  | true =>
    by_cases h2 : cls x.o.op = 2
    · cases hop : x.o.op <;> rw [hop] at h2 <;> simp [cls] at h2
      rename_i f args
      rw [stepD_call hop (by rw [hon]; exact hg), stepD_call hop hg]
      rw [hop] at hev
      have e1 : f.ev (updO t y.dst v) = f.ev t := hev f (by simp [AOp.opds])
      have e2 : args.map (·.ev (updO t y.dst v)) = args.map (·.ev t) := List.map_congr_left fun o ho => hev o (by simp [AOp.opds, ho])
      unfold stepC
      dsimp only
      rw [e1, e2]
      simp only [comm]
    · rw [stepD_op h2 (by rw [hon]; exact hg), stepD_op h2 hg]
      have e1 := opds_congr (op := x.o.op) (ev := (·.ev t)) (ev' := (·.ev (updO t y.dst v))) hev (some (base + x.k)) h
      have e2 := foot_congr (op := x.o.op) (ev := (·.ev t)) (ev' := (·.ev (updO t y.dst v))) hev (base + x.k)
      unfold stepO chkP accAdd
      dsimp only
      rw [e1, e2.1, e2.2]
      simp only [comm]

structure SwapOk (x y : DItem) : Prop where
  apart : Apart x.o y.o
  ne : x.k ≠ y.k
  nck : y.k ∉ x.ck
  cls : (cls x.o.op ≠ 2 ∧ cls y.o.op ≠ 2 ∧ (autoB (cls x.o.op) (cls y.o.op) = true ∨ (x.k ∈ y.ck ∧ x.mem = true))) ∨
    (cls y.o.op = 2 ∧ cls x.o.op ≤ 1 ∧ (cls x.o.op = 1 → x.k ∈ y.ck ∧ x.mem = true)) ∨ (cls x.o.op = 2 ∧ cls y.o.op = 5)

theorem accAdd_swap {a : Acc} {x y : DItem} {ex ey ex' ey' : AOpd → AV} {nx ny : Nat} (hx : ∀ o ∈ x.o.op.opds, ex' o = ex o) (hy : ∀ o ∈ y.o.op.opds, ey' o = ey o) :
    AccLe (accAdd x ex' nx (accAdd y ey' ny a)) (accAdd y ey ny (accAdd x ex nx a)) := by
  have q1 := foot_congr hx nx
  have q2 := foot_congr hy ny
  intro e he
  unfold accAdd at he ⊢
  rw [q1.1, q1.2, q2.1, q2.2] at he
  cases hxm : x.mem <;> cases hym : y.mem <;> simp only [hxm, hym, if_true, if_false, Bool.false_eq_true, List.mem_cons] at he ⊢
  · exact he
  · exact he
  · exact he
  · rcases he with he | he | he
    · exact .inr (.inl he)
    · exact .inl he
    · exact .inr (.inr he)

theorem chk_add {a : Acc} {x y : DItem} {ey ex : AOpd → AV} {nx ny : Nat} (h : chkP a x.ck x.o.op ex nx) (hn : y.k ∉ x.ck) : chkP (accAdd y ey ny a) x.ck x.o.op ex nx := by
  intro e he hm
  unfold accAdd at he
  split at he
  · rcases List.mem_cons.1 he with rfl | he
    · exact absurd hm hn
    · exact h e he hm
  · exact h e he hm

theorem accLe_add (a : Acc) (x : DItem) (ex : AOpd → AV) (nx : Nat) : AccLe a (accAdd x ex nx a) := by
  intro e he
  unfold accAdd
  split
  · exact List.mem_cons_of_mem _ he
  · exact he

theorem chk_of_add {a : Acc} {x y : DItem} {ey ex : AOpd → AV} {nx ny : Nat} (h : chkP (accAdd y ey ny a) x.ck x.o.op ex nx) : chkP a x.ck x.o.op ex nx := by
  intro e he hm
  refine h e ?_ hm
  unfold accAdd
  split
  · exact List.mem_cons_of_mem _ he
  · exact he

/-- Two operations, none of them a call. -/
theorem swap_ops {x y : DItem} (S : SwapOk x y) (hx2 : cls x.o.op ≠ 2) (hy2 : cls y.o.op ≠ 2) {acc : Acc} {K : Acc → St → Prop} {st : St} (hK : ∀ a b st', AccLe a b → K b st' → K a st')
    (h : stepO base x acc (fun a st' => stepO base y a K st') st) : stepO base y acc (fun a st' => stepO base x a K st') st := by
  obtain ⟨v, h1, cx, ex, u, h2, cy, ey, hk⟩ := h
  dsimp only at cy ey hk
  have hevy := S.apart.ev st.t v
  have hevx := S.apart.symm.ev st.t u
  have ey' := ey
  rw [opds_congr (op := y.o.op) (ev := (·.ev st.t)) (ev' := (·.ev (updO st.t x.o.dst v))) hevy] at ey'
  have fy := foot_congr (op := y.o.op) (ev := (·.ev st.t)) (ev' := (·.ev (updO st.t x.o.dst v))) hevy (base + y.k)
  have fx := foot_congr (op := x.o.op) (ev := (·.ev st.t)) (ev' := (·.ev (updO st.t y.o.dst u))) hevx (base + x.k)
  have Lx := aOp_local hx2 ex
  have Ly := aOp_local hy2 ey'
  have disj : (∀ a ∈ wrA x.o.op (·.ev st.t) (base + x.k), a ∉ footA y.o.op (·.ev st.t) (base + y.k)) ∧ (∀ a ∈ footA x.o.op (·.ev st.t) (base + x.k), a ∉ wrA y.o.op (·.ev st.t) (base + y.k)) := by
    rcases S.cls with ⟨_, _, hc⟩ | ⟨hc, _⟩ | ⟨hc, _⟩
    · rcases hc with hc | ⟨hc, hm⟩
      · simp only [autoB, Bool.or_eq_true, Bool.and_eq_true, decide_eq_true_eq, beq_iff_eq, bne_iff_ne] at hc
        rcases hc with ((hc | hc) | hc) | hc
        · simp [wr1 hc.1, wr1 hc.2]
        · simp [wr1 (show cls x.o.op ≤ 1 by omega), foot0 hc]
        · simp [wr1 (show cls y.o.op ≤ 1 by omega), foot0 hc]
        · obtain ⟨hn, hlt, _⟩ := aOp_new hc.2 ey'
          have key : base + y.k ∉ footA x.o.op (·.ev st.t) (base + x.k) := by
            intro hm
            rcases Lx.live _ hm with e | e
            · exact S.ne (by omega)
            · exact Lx.grow _ e hn
          refine ⟨fun a ha => ?_, fun a ha => ?_⟩
          · rw [foot5 hc.2]; simp only [List.mem_singleton]; rintro rfl; exact key (Lx.sub _ ha)
          · rw [wr5 hc.2]; simp only [List.mem_singleton]; rintro rfl; exact key ha
      · have q := cy (x.k, footA x.o.op (·.ev st.t) (base + x.k), wrA x.o.op (·.ev st.t) (base + x.k)) (by simp [accAdd, hm]) hc
        rw [fy.1, fy.2] at q
        exact ⟨q.2, q.1⟩
    · exact absurd hc hy2
    · exact absurd hc hx2
  obtain ⟨D1, D2⟩ := disj
  have agy : ∀ i ∈ footA y.o.op (·.ev st.t) (base + y.k), st.h.get i = h1.get i := fun i hi => (Lx.off i fun hw => D1 i hw hi).symm
  obtain ⟨h1', e1, s1, g1, o1⟩ := Ly.re st.h Lx.size.symm agy
  have agx : ∀ i ∈ footA x.o.op (·.ev st.t) (base + x.k), h1'.get i = st.h.get i := fun i hi => o1 i (D2 i hi)
  obtain ⟨h2', e2, s2, g2, o2⟩ := Lx.re h1' (by rw [s1, Lx.size]) agx
  have heq : h2' = h2 := by
    refine Heap.ext' (by rw [s2, Ly.size, Lx.size]) fun i => ?_
    by_cases hix : i ∈ wrA x.o.op (·.ev st.t) (base + x.k)
    · rw [g2 i hix]
      exact (Ly.off i fun hw => D1 i hix (Ly.sub i hw)).symm
    · rw [o2 i hix]
      by_cases hiy : i ∈ wrA y.o.op (·.ev st.t) (base + y.k)
      · exact g1 i hiy
      · rw [o1 i hiy, Ly.off i hiy, Lx.off i hix]
  subst heq
  refine ⟨u, h1', ?_, e1, v, h2', ?_, ?_, ?_⟩
  · have := chk_of_add cy
    intro e he hm
    have := this e he hm
    rw [fy.1, fy.2] at this
    exact this
  · refine chk_add ?_ S.nck
    intro e he hm
    have := cx e he hm
    dsimp only
    rw [fx.1, fx.2]
    exact this
  · dsimp only
    rw [opds_congr (op := x.o.op) (ev := (·.ev st.t)) (ev' := (·.ev (updO st.t y.o.dst u))) hevx]
    exact e2
  · dsimp only
    rw [← updO_comm S.apart.b]
    refine hK _ _ _ ?_ hk
    exact accAdd_swap (ex := (·.ev st.t)) (ex' := (·.ev (updO st.t y.o.dst u))) (ey := (·.ev (updO st.t x.o.dst v))) (ey' := (·.ev st.t)) hevx (fun o ho => (hevy o ho).symm)

theorem swap_step {x y : DItem} (hx : Src C nt ops x) (hy : Src C nt ops y) (S : SwapOk x y) {acc : Acc} {K : Acc → St → Prop} {st : St} (hc : Can C st) (hroom : cls y.o.op = 5 → base + y.k < st.h.size) (hK : ∀ a b st', AccLe a b → K b st' → K a st')
    (h : stepD C base x acc (fun a st' => stepD C base y a K st') st) : stepD C base y acc (fun a st' => stepD C base x a K st') st := by
  have A := S.apart
  have A' := A.symm
  cases gx : gOn x.o.guard st.t with
  | false =>
    rw [stepD_off gx] at h
    have h' := (stepD_shift (C := C) (base := base) (x := y) A (t := st.t) (h := st.h) (m := st.m) (K := K) (acc := acc) .undef).1 h
    refine stepD_more hy hc (AccLe.refl _) (fun a b v h1 hab _ _ hq => ?_) h'
    rw [stepD_off (by show gOn x.o.guard (updO st.t y.o.dst v) = false; rw [A'.on]; exact gx)]
    exact hK _ _ _ hab hq
  | true =>
    cases gy : gOn y.o.guard st.t with
    | false =>
      rw [stepD_off gy]
      refine (stepD_shift (C := C) (base := base) (x := x) A' (t := st.t) (h := st.h) (m := st.m) (K := K) (acc := acc) .undef).2 ?_
      refine stepD_more hx hc (AccLe.refl _) (fun a b v h1 hab _ _ hq => ?_) h
      rw [stepD_off (by show gOn y.o.guard (updO st.t x.o.dst v) = false; rw [A.on]; exact gy)] at hq
      exact hK _ _ _ hab hq
    | true =>
      by_cases hx2 : cls x.o.op = 2
      · -- a call, and behind it a new block
        have hy5 : cls y.o.op = 5 := by
          rcases S.cls with ⟨q, _⟩ | ⟨q1, q2, _⟩ | ⟨_, q⟩
          · exact absurd hx2 q
          · omega
          · exact q
        have hy2 : cls y.o.op ≠ 2 := by omega
        cases hop : x.o.op <;> rw [hop] at hx2 <;> simp [cls] at hx2
        rename_i f args
        rw [stepD_call hop gx] at h
        have hvals := hx.vals hop hc.2
        have hm := callP_more h
        obtain ⟨keep0, env0, w0, R0⟩ := hc.1
        obtain ⟨r0, h0, ⟨_, hq0⟩, hL0, _⟩ := callP_some hm R0 hvals
        have hony : ∀ r h', gOn y.o.guard (St.t ⟨updO st.t x.o.dst r, h', st.m⟩) = true := fun r h' => by show gOn y.o.guard (updO st.t x.o.dst r) = true; rw [A.on]; exact gy
        rw [stepD_op hy2 (hony r0 h0)] at hq0
        obtain ⟨u, h2, _, ey0, _⟩ := hq0
        dsimp only at ey0
        have cong : ∀ r h', aOp (some (base + y.k)) y.o.op (·.ev (updO st.t x.o.dst r)) h' = aOp (some (base + y.k)) y.o.op (·.ev st.t) h' := fun r h' =>
          opds_congr (op := y.o.op) (ev := (·.ev st.t)) (ev' := (·.ev (updO st.t x.o.dst r))) (A.ev st.t r) _ h'
        rw [cong] at ey0
        obtain ⟨hn0, hlt0, cs, _, hre⟩ := aOp_new hy5 ey0
        have hlt := hroom hy5
        have hback : ∀ h' : Heap, HLe st.h h' → h'.get (base + y.k) = none → st.h.get (base + y.k) = none := by
          intro h' hL hn
          have := hL.same _ hlt
          rw [hn] at this
          cases hg : st.h.get (base + y.k) with
          | none => rfl
          | some b => rw [hg] at this; cases this
        have hn := hback h0 hL0 hn0
        have ey := hre st.h hlt hn
        rw [stepD_op hy2 gy]
        -- the checks of y do not hang on the call
        obtain ⟨q1, q2⟩ := callP_some hm R0 hvals
        have hchk : chkP acc y.ck y.o.op (·.ev st.t) (base + y.k) := by
          obtain ⟨h', ⟨_, hq⟩, _⟩ := q2
          rw [stepD_op hy2 (hony q1 h')] at hq
          obtain ⟨_, _, hch, _, _⟩ := hq
          have fy := foot_congr (op := y.o.op) (ev := (·.ev st.t)) (ev' := (·.ev (updO st.t x.o.dst q1))) (A.ev st.t q1) (base + y.k)
          intro e he hmm
          have := hch e he hmm
          dsimp only at this
          rw [fy.1, fy.2] at this
          exact this
        refine ⟨u, _, hchk, ey, ?_⟩
        show stepD C base x _ K _
        rw [stepD_call hop (by show gOn x.o.guard (updO st.t y.o.dst u) = true; rw [A'.on]; exact gx)]
        have hevx := A'.ev st.t u
        rw [hop] at hevx
        have e1 : f.ev (updO st.t y.o.dst u) = f.ev st.t := hevx f (by simp [AOp.opds])
        have e2 : args.map (·.ev (updO st.t y.o.dst u)) = args.map (·.ev st.t) := List.map_congr_left fun o ho => hevx o (by simp [AOp.opds, ho])
        unfold stepC
        dsimp only
        rw [e1, e2]
        refine callP_mono (fun r h'' q => ?_) (callP_frame (cs := cs) (u := 0) hm hn hlt (fun i b hi => R0.bel i b hi) hvals)
        obtain ⟨h', ⟨⟨hsame, hq⟩, hL, _⟩, _, rfl⟩ := q
        refine ⟨fun e he hm i hi => ?_, ?_⟩
        · rw [Heap.get_put _ _ _ _ hlt, Heap.get_put _ _ _ _ (Nat.lt_of_lt_of_le hlt hL.size)]
          by_cases ei : i = base + y.k
          · rw [if_pos ei, if_pos ei]
          · rw [if_neg ei, if_neg ei]
            refine hsame e ?_ hm i hi
            unfold accAdd at he
            split at he
            · rcases List.mem_cons.1 he with rfl | he
              · exact absurd hm S.nck
              · exact he
            · exact he
        · rw [stepD_op hy2 (hony r h')] at hq
          obtain ⟨u', h3, _, ey3, hk⟩ := hq
          dsimp only at ey3 hk
          rw [cong] at ey3
          obtain ⟨hn3, hlt3, _⟩ := aOp_new hy5 ey3
          rw [hre h' hlt3 hn3] at ey3
          cases ey3
          rw [← updO_comm A.b]
          refine hK _ _ _ ?_ hk
          unfold accAdd
          have fy := foot_congr (op := y.o.op) (ev := (·.ev st.t)) (ev' := (·.ev (updO st.t x.o.dst r))) (A.ev st.t r) (base + y.k)
          rw [fy.1, fy.2]
          exact AccLe.refl _
      · by_cases hy2 : cls y.o.op = 2
        · -- a look, and behind it a call
          have hq : cls x.o.op ≤ 1 ∧ (cls x.o.op = 1 → x.k ∈ y.ck ∧ x.mem = true) := by
            rcases S.cls with ⟨_, q, _⟩ | ⟨_, q⟩ | ⟨q, _⟩
            · exact absurd hy2 q
            · exact q
            · exact absurd q hx2
          rw [stepD_op hx2 gx] at h
          obtain ⟨v, h1, cx, ex, h⟩ := h
          rw [aOp_pure hq.1] at ex
          simp only [Option.map_eq_some_iff, Prod.mk.injEq] at ex
          obtain ⟨v', ex, rfl, rfl⟩ := ex
          cases hop : y.o.op <;> rw [hop] at hy2 <;> simp [cls] at hy2
          rename_i f args
          rw [stepD_call hop (by show gOn y.o.guard (updO st.t x.o.dst v') = true; rw [A.on]; exact gy)] at h
          rw [stepD_call hop gy]
          have hevy := A.ev st.t v'
          rw [hop] at hevy
          have e1 : f.ev (updO st.t x.o.dst v') = f.ev st.t := hevy f (by simp [AOp.opds])
          have e2 : args.map (·.ev (updO st.t x.o.dst v')) = args.map (·.ev st.t) := List.map_congr_left fun o ho => hevy o (by simp [AOp.opds, ho])
          unfold stepC at h ⊢
          dsimp only at h
          rw [e1, e2] at h
          refine callP_mono (fun r h' q => ⟨chkS_le (accLe_add _ _ _ _) q.1, ?_⟩) h
          show stepD C base x _ K _
          rw [stepD_op hx2 (by show gOn x.o.guard (updO st.t y.o.dst r) = true; rw [A'.on]; exact gx)]
          have hevx := A'.ev st.t r
          have fx := foot_congr (op := x.o.op) (ev := (·.ev st.t)) (ev' := (·.ev (updO st.t y.o.dst r))) hevx (base + x.k)
          have agree : ∀ i ∈ footA x.o.op (·.ev st.t) (base + x.k), h'.get i = st.h.get i := by
            intro i hi
            rcases Nat.lt_or_ge (cls x.o.op) 1 with h01 | h01
            · rw [foot0 (by omega)] at hi; cases hi
            · have hx := hq.2 (by omega)
              exact q.1 (x.k, footA x.o.op (·.ev st.t) (base + x.k), wrA x.o.op (·.ev st.t) (base + x.k)) (by simp [accAdd, hx.2]) hx.1 i hi
          refine ⟨v', h', ?_, ?_, ?_⟩
          · intro e he hmm
            have := cx e he hmm
            dsimp only
            rw [fx.1, fx.2]
            exact this
          · dsimp only
            rw [opds_congr (op := x.o.op) (ev := (·.ev st.t)) (ev' := (·.ev (updO st.t y.o.dst r))) hevx, aOp_pure hq.1, (pureA_foot (h2 := h') hq.1 ex).2 agree]
            rfl
          · dsimp only
            rw [← updO_comm A.b]
            refine hK _ _ _ ?_ q.2
            unfold accAdd
            rw [fx.1, fx.2]
            exact AccLe.refl _
        · have e1 : stepO base x acc (fun a st' => stepO base y a K st') st := by
            rw [stepD_op hx2 gx] at h
            obtain ⟨v, h1, cx, ex, h⟩ := h
            rw [stepD_op hy2 (by show gOn y.o.guard (updO st.t x.o.dst v) = true; rw [A.on]; exact gy)] at h
            exact ⟨v, h1, cx, ex, h⟩
          obtain ⟨u, h1, cy, ey, q⟩ := swap_ops S hx2 hy2 hK e1
          rw [stepD_op hy2 gy]
          refine ⟨u, h1, cy, ey, ?_⟩
          show stepD C base x _ K _
          rw [stepD_op hx2 (by show gOn x.o.guard (updO st.t y.o.dst u) = true; rw [A'.on]; exact gx)]
          exact q

/-- An operation is carried out ahead of those that stand ahead of it. -/
theorem bubble {y : DItem} (hy : Src C nt ops y) {post : List DItem} {K : St → Prop} : ∀ (pre : List DItem) (acc : Acc) (st : St), (∀ x ∈ pre, Src C nt ops x ∧ SwapOk x y) → Can C st → (cls y.o.op = 5 → base + y.k < st.h.size) →
    wpD C base (pre ++ y :: post) acc K st → wpD C base (y :: (pre ++ post)) acc K st
  | [], _, _, _, _, _, h => h
  | x :: pre, acc, st, hp, hc, hr, h => by
    have h' : stepD C base x acc (fun a st' => wpD C base (pre ++ y :: post) a K st') st := h
    have hxp := hp x (by simp)
    have h2 : stepD C base x acc (fun a st' => stepD C base y a (fun a' st'' => wpD C base (pre ++ post) a' K st'') st') st :=
      stepD_more hxp.1 hc (AccLe.refl _) (fun a b v h1 hab hsz hcan hq =>
        bubble hy pre a _ (fun z hz => hp z (by simp [hz])) hcan (fun e => Nat.lt_of_lt_of_le (hr e) hsz) (wpD_acc _ hab hq)) h'
    exact swap_step hxp.1 hy hxp.2 hc hr (fun a b st' hab => wpD_acc _ hab) h2

end
end Go.Ae
