/- The lowered code, run: for calls whose arguments are given. -/
import Derived.Test.YtbmoggkjijnajaaAeFn
namespace Go.Ae

/-- Least number with a property. -/
noncomputable def least (p : Nat → Prop) : Nat := Classical.epsilon fun k => p k ∧ ∀ i, i < k → ¬ p i

theorem least_spec {p : Nat → Prop} (h : ∃ k, p k) : p (least p) ∧ ∀ i, i < least p → ¬ p i := by
  have : ∃ k, p k ∧ ∀ i, i < k → ¬ p i := by
    obtain ⟨k, hk⟩ := h
    induction k using Nat.strongRecOn with
    | _ k ih =>
      by_cases hx : ∃ i, i < k ∧ p i
      · obtain ⟨i, hi, hp⟩ := hx; exact ih i hi hp
      · exact ⟨k, hk, fun i hi hp => hx ⟨i, hi, hp⟩⟩
  exact Classical.epsilon_spec (p := fun k => p k ∧ ∀ i, i < k → ¬ p i) this

section
variable {C : Ctx} {nt : Nat} {rd : Option Nat}

/-- A loop by a relation to a number that falls. -/
theorem wp_loop {c : ACode} {Q : Out → St → Prop} {st : St} (I : Nat → St → Prop) {j0 : Nat} (h0 : I j0 st)
    (step : ∀ j u h' m', HLe st.h h' → I j ⟨mix (writes c) u st.t, h', m'⟩ → wp C nt rd c (thenO (fun st' => ∃ i, i < j ∧ I i st') Q) ⟨mix (writes c) u st.t, h', m'⟩)
    (mono : ∀ {Q Q' : Out → St → Prop} {st : St}, (∀ o st, Q o st → Q' o st) → wp C nt rd c Q st → wp C nt rd c Q' st) : wp C nt rd (.loop c) Q st := by
  refine ⟨fun t h m => ∃ j, I j ⟨t, h, m⟩, fun t h m => least fun j => I j ⟨t, h, m⟩, ⟨j0, h0⟩, fun u h' m' hle hI => ?_⟩
  have hl := least_spec hI
  refine mono ?_ (step _ u h' m' hle hl.1)
  intro o st' hq
  cases o with
  | normal =>
    obtain ⟨i, hi, hi2⟩ := hq
    refine ⟨⟨i, hi2⟩, ?_⟩
    have hl' := least_spec (p := fun j => I j st') ⟨i, hi2⟩
    have : ¬ i < least fun j => I j st' := fun hlt => hl'.2 i hlt hi2
    show (least fun j => I j st') < least fun j => I j _
    omega
  | exit id => exact hq
  | ret => exact hq

theorem wpOp_mono {nid : Option Nat} {o : AOper} {K K' : St → Prop} {st : St} (hK : ∀ st, K st → K' st) (h : wpOp C nid o K st) : wpOp C nid o K' st := by
  unfold wpOp at h ⊢
  split at h
  · exact callP_mono (fun r h' => hK _) h
  · split at h
    · rename_i v h' hv
      exact hK _ h
    · exact h.elim

theorem wpOps_mono : ∀ {os : List AOper} {K K' : St → Prop} {st : St}, (∀ st, K st → K' st) → wpOps C os K st → wpOps C os K' st
  | [], K, K', st, hK, h => hK _ h
  | o :: os, K, K', st, hK, h => by
    unfold wpOps at h ⊢
    rw [guardP_iff] at h ⊢
    by_cases hg : gOn o.guard st.t = true
    · rw [if_pos hg] at h ⊢; exact wpOp_mono (fun st => wpOps_mono hK) h
    · rw [if_neg hg] at h ⊢; exact wpOps_mono hK h

theorem wpD_mono {base : Nat} {K K' : St → Prop} (hK : ∀ st, K st → K' st) : ∀ (ds : List DItem) {acc : Acc} {st : St}, wpD C base ds acc K st → wpD C base ds acc K' st
  | [], _, _, h => hK _ h
  | d :: ds, acc, st, h => by
    have h' : stepD C base d acc (fun acc' st' => wpD C base ds acc' K st') st := h
    exact stepD_mono (C := C) (base := base) (d := d) (K := fun acc' st' => wpD C base ds acc' K st') (K' := fun acc' st' => wpD C base ds acc' K' st') (AccLe.refl _) (fun x y st' hxy q => wpD_acc ds hxy (wpD_mono hK ds q)) h'

theorem ACalls.mono {g : Nat} {args : List AV} {h : Heap} {P Q : AV → Heap → Prop} (hPQ : ∀ r h', P r h' → Q r h') (hc : ACalls C g args h P) : ACalls C g args h Q := by
  have : callP C (.func g [] []) args h P := by simpa [callP] using hc
  simpa [callP] using callP_mono hPQ this

theorem rangeP_mono {f : AV} {l : Nat} {h : Heap} {P Q : AV → Heap → Prop} (hPQ : ∀ r h', P r h' → Q r h') (hc : rangeP C f l h P) : rangeP C f l h Q := by
  unfold rangeP at hc ⊢
  cases f with
  | func g first captured => exact ACalls.mono hPQ hc
  | _ => exact hc

theorem wp_mono : ∀ {c : ACode} {Q Q' : Out → St → Prop} {st : St}, (∀ o st, Q o st → Q' o st) → wp C nt rd c Q st → wp C nt rd c Q' st := by
  intro c
  induction c with
  | skip => intro Q Q' st hQ h; exact hQ _ _ h
  | region ops => intro Q Q' st hQ h; exact wpOps_mono (fun st => hQ _ st) h
  | draw n ds => intro Q Q' st hQ h; exact wpD_mono (fun st => hQ _ st) ds h
  | seq a b iha ihb =>
    intro Q Q' st hQ h
    refine iha ?_ h
    intro o st' hq
    cases o with
    | normal => exact ihb hQ hq
    | exit id => exact hQ _ _ hq
    | ret => exact hQ _ _ hq
  | cond c a b iha ihb =>
    intro Q Q' st hQ h
    have h' : condP (c.ev st.t) (wp C nt rd a Q st) (wp C nt rd b Q st) := h
    show condP (c.ev st.t) (wp C nt rd a Q' st) (wp C nt rd b Q' st)
    unfold condP at h' ⊢
    split at h'
    · exact ⟨fun e => iha hQ (h'.1 e), fun e => ihb hQ (h'.2 e)⟩
    · exact h'
  | block id b ih =>
    intro Q Q' st hQ h
    refine ih ?_ h
    intro o st' hq
    cases o with
    | normal => exact hQ _ _ hq
    | ret => exact hQ _ _ hq
    | exit id' =>
      simp only [blockO] at hq ⊢
      split at hq
      · rename_i e; rw [if_pos e]; exact hQ _ _ hq
      · rename_i e; rw [if_neg e]; exact hQ _ _ hq
  | loop b ih =>
    intro Q Q' st hQ h
    obtain ⟨I, μ, h0, hs⟩ := h
    refine ⟨I, μ, h0, fun u h' m' hl hI => ih ?_ (hs u h' m' hl hI)⟩
    intro o st' hq
    cases o with
    | normal => exact hq
    | exit id => exact hQ _ _ hq
    | ret => exact hQ _ _ hq
  | rangeFunc f ps a b iha ihb =>
    intro Q Q' st hQ h
    have h' : wpRange C nt rd (f.ev st.t) ps a b Q st := h
    show wpRange C nt rd (f.ev st.t) ps a b Q' st
    unfold wpRange at h' ⊢
    cases rd with
    | none => exact rangeP_mono (fun r h2 ⟨q, q1, q2, q3⟩ => ⟨q, q1, q2, hQ _ _ q3⟩) h'
    | some l =>
      obtain ⟨r0, hr0, h'⟩ := h'
      exact ⟨r0, hr0, rangeP_mono (fun r h2 ⟨q, q1, q2, q3⟩ => ⟨q, q1, q2, hQ _ _ q3⟩) h'⟩
  | exit id => intro Q Q' st hQ h; exact hQ _ _ h
  | ret => intro Q Q' st hQ h; exact hQ _ _ h
  | refuse s => intro Q Q' st hQ h; exact h.elim

end

/-! ### The runner -/
/-- Numbers are reckoned out. -/
def frc {α : Type} (v : AV) (K : AV → α) : α :=
  match v with
  | .int k (.ofNat 0) => K (.int k (.ofNat 0))
  | .int k (.ofNat (m + 1)) => K (.int k (.ofNat (m + 1)))
  | .int k (.negSucc 0) => K (.int k (.negSucc 0))
  | .int k (.negSucc (m + 1)) => K (.int k (.negSucc (m + 1)))
  | .bool true => K (.bool true)
  | .bool false => K (.bool false)
  | v => K v

theorem frc_eq {α : Type} (v : AV) (K : AV → α) : frc v K = K v := by
  unfold frc
  split <;> rfl

abbrev CallF := AV → List AV → Heap → Option (AV × Heap)

def AV.sameB : AV → AV → Bool
  | .int k n, .int k' m => decide (k = k') && n == m
  | .bool a, .bool b => a == b
  | .ptr i o, .ptr j p => i == j && o == p
  | .nilptr, .nilptr => true
  | .slice i o n c, .slice j p m d => i == j && o == p && n == m && decide (c = d)
  | .nilslice, .nilslice => true
  | .nilfunc, .nilfunc => true
  | _, _ => false

def samesB : List AV → List AV → Bool
  | [], [] => true
  | a :: as, b :: bs => a.sameB b && samesB as bs
  | _, _ => false

def blkSameB : Option ABlk → Option ABlk → Bool
  | none, none => true
  | some .dead, some .dead => true
  | some (.cells vs wr u), some (.cells vs' wr' u') => samesB vs vs' && wr == wr' && u == u'
  | some (.defd a), some (.defd b) => a == b
  | _, _ => false

theorem sameB_eq {a b : AV} (h : a.sameB b = true) : a = b := by
  unfold AV.sameB at h
  split at h <;> simp_all

theorem samesB_eq : ∀ {as bs : List AV}, samesB as bs = true → as = bs
  | [], [], _ => rfl
  | a :: as, b :: bs, h => by
    simp only [samesB, Bool.and_eq_true] at h
    rw [sameB_eq h.1, samesB_eq h.2]
  | [], _ :: _, h => by cases h
  | _ :: _, [], h => by cases h

def chkSB (acc : Acc) (ck : List Nat) (h h' : Heap) : Bool :=
  acc.all fun e => !ck.contains e.1 || e.2.1.all fun i => blkSameB (h.get i) (h'.get i)

theorem blkSameB_eq {a b : Option ABlk} (h : blkSameB a b = true) : b = a := by
  unfold blkSameB at h
  split at h
  · rfl
  · rfl
  · rename_i vs wr u vs' wr' u'
    simp only [Bool.and_eq_true, beq_iff_eq] at h
    rw [samesB_eq h.1.1, h.1.2, h.2]
  · rename_i a b
    simp only [beq_iff_eq] at h
    rw [h]
  · cases h

theorem chkSB_spec {acc : Acc} {ck : List Nat} {h h' : Heap} (hs : chkSB acc ck h h' = true) : chkS acc ck h h' := by
  intro e he hm i hi
  have := List.all_eq_true.1 hs e he
  simp only [List.contains_eq_mem, hm, decide_true, Bool.not_true, Bool.false_or, List.all_eq_true] at this
  exact blkSameB_eq (this i hi)

def chkB (acc : Acc) (ck : List Nat) (op : AOp) (ev : AOpd → AV) (n : Nat) : Bool :=
  acc.all fun e => !ck.contains e.1 || (e.2.1.all (fun a => !(wrA op ev n).contains a) && e.2.2.all (fun a => !(footA op ev n).contains a))

theorem chkB_spec {acc : Acc} {ck : List Nat} {op : AOp} {ev : AOpd → AV} {n : Nat} (h : chkB acc ck op ev n = true) : chkP acc ck op ev n := by
  intro e he hm
  have := List.all_eq_true.1 h e he
  simp only [List.contains_eq_mem, hm, decide_true, Bool.not_true, Bool.false_or, Bool.and_eq_true, List.all_eq_true, Bool.not_eq_true', decide_eq_false_iff_not] at this
  exact this

def runOp (call : CallF) (o : AOper) (st : St) : Option St :=
  match o.op with
  | .call f args => match call (f.ev st.t) (args.map (·.ev st.t)) st.h with
    | some (r, h') => some (St.put { st with h := h' } o.dst r)
    | none => none
  | op => match aOp none op (·.ev st.t) st.h with
    | some (v, h') => frc v fun v => some (St.put { st with h := h' } o.dst v)
    | none => none

def runOps (call : CallF) : List AOper → St → Option St
  | [], st => some st
  | o :: os, st => match gOn o.guard st.t with
    | true => match runOp call o st with
      | some st' => runOps call os st'
      | none => none
    | false => runOps call os (st.put o.dst .undef)

def runD (call : CallF) (base : Nat) : List DItem → Acc → St → Option St
  | [], _, st => some st
  | d :: ds, acc, st => match gOn d.o.guard st.t with
    | true => match d.o.op with
      | .call f args => match call (f.ev st.t) (args.map (·.ev st.t)) st.h with
        | some (r, h') => match chkSB acc d.ck st.h h' with
          | true => runD call base ds acc (St.put { st with h := h' } d.o.dst r)
          | false => none
        | none => none
      | op => match chkB acc d.ck op (·.ev st.t) (base + d.k) with
        | true => match aOp (some (base + d.k)) op (·.ev st.t) st.h with
          | some (v, h') => frc v fun v => runD call base ds (accAdd d (·.ev st.t) (base + d.k) acc) (St.put { st with h := h' } d.o.dst v)
          | none => none
        | false => none
    | false => runD call base ds acc (st.put d.o.dst .undef)

def iter (f : St → Option (Out × St)) : Nat → St → Option (Out × St)
  | 0, _ => none
  | n + 1, st => match f st with
    | some (.normal, st') => iter f n st'
    | r => r

def runRange (call : CallF) (nt : Nat) (rd : Option Nat) (f : AV) (ps : List Nat) (assign body : ACode) (st : St) : Option (Out × St) :=
  match f with
  | .func g first captured => match rd with
    | none => match call (.func g first captured) [.yield (st.h.size + 1)] ((st.h.push (.defd true)).push (.loop { state := .ready, pend := none, t := st.t, nt, params := ps, assign, body, defers := st.h.size })) with
      | some (_, h') => match h'.get (st.h.size + 1) with
        | some (.loop r) => match r.state with
          | .busy => none
          | _ => some (r.pend.getD .normal, ⟨st.t, h'.put (st.h.size + 1) (.loop { r with state := .exhausted }), st.h.size :: st.m⟩)
        | _ => none
      | none => none
    | some l => match st.h.get l with
      | some (.loop r0) => match call (.func g first captured) [.yield st.h.size] (st.h.push (.loop { state := .ready, pend := none, t := st.t, nt, params := ps, assign, body, defers := r0.defers })) with
        | some (_, h') => match h'.get st.h.size with
          | some (.loop r) => match r.state with
            | .busy => none
            | _ => some (r.pend.getD .normal, ⟨st.t, h'.put st.h.size (.loop { r with state := .exhausted }), st.m⟩)
          | _ => none
        | none => none
      | _ => none
  | _ => none

def exec (call : CallF) (nt : Nat) (rd : Option Nat) (fuel : Nat) : ACode → St → Option (Out × St)
  | .skip, st => some (.normal, st)
  | .region ops, st => match runOps call ops st with
    | some st' => some (.normal, st')
    | none => none
  | .draw n ds, st => match runD call st.h.size ds [] (if n = 0 then st else { st with h := st.h.reserve n }) with
    | some st' => some (.normal, st')
    | none => none
  | .seq a b, st => match exec call nt rd fuel a st with
    | some (.normal, st') => exec call nt rd fuel b st'
    | r => r
  | .cond c a b, st => match c.ev st.t with
    | .bool true => exec call nt rd fuel a st
    | .bool false => exec call nt rd fuel b st
    | _ => none
  | .block id c, st => match exec call nt rd fuel c st with
    | some (.exit id', st') => if id' = id then some (.normal, st') else some (.exit id', st')
    | r => r
  | .loop c, st => iter (exec call nt rd fuel c) fuel st
  | .rangeFunc f ps a b, st => runRange call nt rd (f.ev st.t) ps a b st
  | .exit id, st => some (.exit id, st)
  | .ret, st => some (.ret, st)
  | .refuse _, _ => none

def finish (res : List ARes) : Option (Out × St) → Option (AV × Heap)
  | some (.exit _, _) => none
  | some (_, st) => match closeMarks st.h st.m with
    | some h1 => match resA st.t h1 res with
      | some vs => some (retA vs, h1)
      | none => none
    | none => none
  | none => none

def endRound (l : Nat) : Option (Out × St) → Option (AV × Heap)
  | some (o, st) => match st.h.get l with
    | some (.loop r) => match o with
      | .normal => some (.bool true, st.h.put l (.loop { r with state := .ready, pend := none }))
      | o => some (.bool false, st.h.put l (.loop { r with state := .done, pend := some o }))
    | _ => none
  | none => none

def runCall (T : Nat → Option ABody) (fuel : Nat) : Nat → CallF
  | 0, _, _, _ => none
  | n + 1, f, args, h => match f with
    | .func g first captured => match T g with
      | some b => match decide ((first ++ args ++ captured).length ≤ b.ntmps) with
        | true => finish b.res (exec (runCall T fuel n) b.ntmps none fuel b.code ⟨argT (first ++ args ++ captured), h, []⟩)
        | false => none
      | none => none
    | .yield l => match h.get l with
      | some (.loop r) => match r.state with
        | .ready => match decide (r.params.length = args.length) with
          | true => match exec (runCall T fuel n) r.nt (some l) fuel r.assign ⟨setParams r.t r.params args, h, []⟩ with
            | some (.normal, st) => match st.h.get l with
              | some (.loop r1) => match r1.state with
                | .ready => endRound l (exec (runCall T fuel n) r.nt (some l) fuel r.body { st with h := st.h.put l (.loop { r1 with state := .busy }) })
                | _ => none
              | _ => none
            | _ => none
          | false => none
        | _ => none
      | _ => none
    | _ => none

section
variable {C : Ctx} {nt : Nat} {rd : Option Nat}

def CallOk (C : Ctx) (call : CallF) : Prop := ∀ f args h r h', call f args h = some (r, h') → callP C f args h (fun r' h'' => r' = r ∧ h'' = h')

theorem runOp_sound {call : CallF} (hcall : CallOk C call) {o : AOper} {st st' : St} (h : runOp call o st = some st') {K : St → Prop} (hK : K st') : wpOp C none o K st := by
  unfold runOp at h
  unfold wpOp
  split
  · rename_i f args hop
    simp only [hop] at h
    split at h
    · rename_i r h' hr
      cases h
      refine callP_mono ?_ (hcall _ _ _ _ _ hr)
      rintro r' h'' ⟨rfl, rfl⟩
      exact hK
    · cases h
  · rename_i hne
    split at h
    · rename_i f args hop; exact absurd hop (hne f args)
    · split at h
      · rename_i v h' hv
        rw [frc_eq] at h
        cases h
        rw [hv]
        exact hK
      · cases h

theorem runOps_sound {call : CallF} (hcall : CallOk C call) : ∀ {os : List AOper} {st st' : St}, runOps call os st = some st' → ∀ {K : St → Prop}, K st' → wpOps C os K st
  | [], st, st', h, K, hK => by cases h; exact hK
  | o :: os, st, st', h, K, hK => by
    unfold runOps at h
    unfold wpOps
    rw [guardP_iff]
    split at h
    · rename_i hg
      rw [if_pos hg]
      split at h
      · rename_i st1 h1
        exact runOp_sound hcall h1 (runOps_sound hcall h hK)
      · cases h
    · rename_i hg
      rw [if_neg (by rw [hg]; simp)]
      exact runOps_sound hcall h hK

theorem runD_sound {call : CallF} (hcall : CallOk C call) {base : Nat} : ∀ {ds : List DItem} {acc : Acc} {st st' : St}, runD call base ds acc st = some st' → ∀ {K : St → Prop}, K st' → wpD C base ds acc K st
  | [], acc, st, st', h, K, hK => by cases h; exact hK
  | d :: ds, acc, st, st', h, K, hK => by
    unfold runD at h
    show stepD C base d acc (fun acc' st' => wpD C base ds acc' K st') st
    split at h
    · rename_i hg
      split at h
      · rename_i f args hop
        rw [stepD_call hop hg]
        split at h
        · rename_i r h' hr
          split at h
          · rename_i hs
            refine callP_mono ?_ (hcall _ _ _ _ _ hr)
            rintro r' h'' ⟨rfl, rfl⟩
            refine ⟨chkSB_spec hs, ?_⟩
            · rw [put_eq] at h
              exact runD_sound hcall h hK
          · cases h
        · cases h
      · rename_i hne
        have h2 : cls d.o.op ≠ 2 := by
          intro h2
          cases hop : d.o.op <;> rw [hop] at h2 <;> simp [cls] at h2
          exact hne _ _ hop
        rw [stepD_op h2 hg]
        split at h
        · rename_i hc
          split at h
          · rename_i v h' hv
            rw [frc_eq, put_eq] at h
            exact ⟨v, h', chkB_spec hc, hv, runD_sound hcall h hK⟩
          · cases h
        · cases h
    · rename_i hg
      rw [stepD_off hg]
      rw [put_eq'] at h
      exact runD_sound hcall h hK

theorem runRange_sound {call : CallF} (hcall : CallOk C call) {f : AV} {ps : List Nat} {a b : ACode} {st : St} {o : Out} {st' : St} (h : runRange call nt rd f ps a b st = some (o, st')) {Q : Out → St → Prop} (hQ : Q o st') : wpRange C nt rd f ps a b Q st := by
  unfold runRange at h
  split at h
  · rename_i g first captured
    split at h
    · split at h
      · rename_i v h' hc
        split at h
        · rename_i r hr
          have hst : r.state ≠ .busy ∧ (o, st') = (r.pend.getD .normal, ⟨st.t, h'.put (st.h.size + 1) (.loop { r with state := .exhausted }), st.h.size :: st.m⟩) := by
            split at h
            · cases h
            · rename_i hne; exact ⟨hne, by cases h; rfl⟩
          cases hst.2
          have := hcall _ _ _ _ _ hc
          refine rangeP_mono (f := .func g first captured) ?_ (show rangeP C (.func g first captured) _ _ _ from this)
          rintro r' h'' ⟨rfl, rfl⟩
          exact ⟨r, hr, hst.1, hQ⟩
        · cases h
      · cases h
    · rename_i l
      split at h
      · rename_i r0 hr0
        split at h
        · rename_i v h' hc
          split at h
          · rename_i r hr
            have hst : r.state ≠ .busy ∧ (o, st') = (r.pend.getD .normal, ⟨st.t, h'.put st.h.size (.loop { r with state := .exhausted }), st.m⟩) := by
              split at h
              · cases h
              · rename_i hne; exact ⟨hne, by cases h; rfl⟩
            cases hst.2
            have := hcall _ _ _ _ _ hc
            refine ⟨r0, hr0, rangeP_mono (f := .func g first captured) ?_ (show rangeP C (.func g first captured) _ _ _ from this)⟩
            rintro r' h'' ⟨rfl, rfl⟩
            exact ⟨r, hr, hst.1, hQ⟩
          · cases h
        · cases h
      · cases h
  · cases h

theorem exec_sound {call : CallF} (hcall : CallOk C call) {fuel : Nat} : ∀ {c : ACode} {st : St} {o : Out} {st' : St}, exec call nt rd fuel c st = some (o, st') → ∀ {Q : Out → St → Prop}, Q o st' → wp C nt rd c Q st := by
  intro c
  induction c with
  | skip => intro st o st' h Q hQ; cases h; exact hQ
  | region ops =>
    intro st o st' h Q hQ
    simp only [exec] at h
    split at h
    · rename_i st1 h1; cases h; exact runOps_sound hcall h1 hQ
    · cases h
  | draw n ds =>
    intro st o st' h Q hQ
    simp only [exec] at h
    split at h
    · rename_i st1 h1; cases h; exact runD_sound hcall h1 hQ
    · cases h
  | seq a b iha ihb =>
    intro st o st' h Q hQ
    simp only [exec] at h
    split at h
    · rename_i st1 h1; exact iha h1 (ihb h hQ)
    · rename_i r hne
      refine iha h ?_
      cases o with
      | normal => exact absurd h (hne st')
      | exit id => exact hQ
      | ret => exact hQ
  | cond c a b iha ihb =>
    intro st o st' h Q hQ
    simp only [exec] at h
    show condP (c.ev st.t) (wp C nt rd a Q st) (wp C nt rd b Q st)
    split at h
    · rename_i hc; rw [hc]; exact ⟨fun _ => iha h hQ, fun e => by cases e⟩
    · rename_i hc; rw [hc]; exact ⟨fun e => (by cases e), fun _ => ihb h hQ⟩
    · cases h
  | block id b ih =>
    intro st o st' h Q hQ
    simp only [exec] at h
    split at h
    · rename_i id' st1 h1
      refine ih h1 ?_
      simp only [blockO]
      split at h
      · rename_i e; cases h; rw [if_pos e]; exact hQ
      · rename_i e; cases h; rw [if_neg e]; exact hQ
    · rename_i r hne
      refine ih h ?_
      cases o with
      | normal => exact hQ
      | exit id' => exact absurd h (hne id' st')
      | ret => exact hQ
  | loop b ih =>
    intro st o st' h Q hQ
    simp only [exec] at h
    refine wp_loop (fun j s => iter (exec call nt rd fuel b) j s = some (o, st')) h (fun j u h' m' _ hI => ?_) wp_mono
    cases j with
    | zero => cases hI
    | succ j =>
      simp only [iter] at hI
      split at hI
      · rename_i st1 h1
        exact ih h1 ⟨j, Nat.lt_succ_self j, hI⟩
      · rename_i r hne
        refine ih hI ?_
        cases o with
        | normal => exact absurd hI (hne st')
        | exit id => exact hQ
        | ret => exact hQ
  | rangeFunc f ps a b iha ihb =>
    intro st o st' h Q hQ
    exact runRange_sound hcall h hQ
  | exit id => intro st o st' h Q hQ; cases h; exact hQ
  | ret => intro st o st' h Q hQ; cases h; exact hQ
  | refuse s => intro st o st' h Q hQ; cases h

theorem finish_sound {res : List ARes} {o : Out} {st : St} {r : AV} {h' : Heap} (h : finish res (some (o, st)) = some (r, h')) : retO res (fun r' h'' => r' = r ∧ h'' = h') o st := by
  cases o with
  | exit id => cases h
  | normal =>
    simp only [finish] at h
    simp only [retO]
    split at h
    · rename_i h1 e1
      rw [e1]
      dsimp only
      split at h
      · rename_i vs e2
        cases h
        rw [e2]
        exact ⟨rfl, rfl⟩
      · cases h
    · cases h
  | ret =>
    simp only [finish] at h
    simp only [retO]
    split at h
    · rename_i h1 e1
      rw [e1]
      dsimp only
      split at h
      · rename_i vs e2
        cases h
        rw [e2]
        exact ⟨rfl, rfl⟩
      · cases h
    · cases h

theorem endRound_sound {l : Nat} {o : Out} {st : St} {r : AV} {h' : Heap} (h : endRound l (some (o, st)) = some (r, h')) : roundO l (fun r' h'' => r' = r ∧ h'' = h') o st := by
  simp only [endRound] at h
  split at h
  · rename_i q hq
    refine ⟨q, hq, ?_, ?_⟩
    · rintro rfl; cases h; exact ⟨rfl, rfl⟩
    · intro hne
      cases o with
      | normal => exact absurd rfl hne
      | exit id => cases h; exact ⟨rfl, rfl⟩
      | ret => cases h; exact ⟨rfl, rfl⟩
  · cases h

/-- **What the runner gives, a call comes back with.** -/
theorem runCall_sound {T : Nat → Option ABody} (hT : ∀ g b, T g = some b → C.body g = some b) (fuel : Nat) : ∀ n, CallOk C (runCall T fuel n) := by
  intro n
  induction n with
  | zero => intro f args h r h' hr; cases hr
  | succ n ih =>
    intro f args h r h' hr
    unfold runCall at hr
    split at hr
    · rename_i g first captured
      split at hr
      · rename_i b hb
        split at hr
        · rename_i hlen
          generalize he : exec (runCall T fuel n) b.ntmps none fuel b.code ⟨argT (first ++ args ++ captured), h, []⟩ = e at hr
          cases e with
          | none => cases hr
          | some q =>
            obtain ⟨o, st⟩ := q
            exact calls_intro (hT g b hb) (of_decide_eq_true hlen) (exec_sound ih he (finish_sound hr))
        · cases hr
      · cases hr
    · rename_i l
      split at hr
      · rename_i q hq
        split at hr
        · rename_i hst
          split at hr
          · rename_i hlen
            split at hr
            · rename_i st he
              split at hr
              · rename_i r1 hr1
                split at hr
                · rename_i hst1
                  generalize he2 : exec (runCall T fuel n) q.nt (some l) fuel q.body { st with h := st.h.put l (.loop { r1 with state := .busy }) } = e at hr
                  cases e with
                  | none => cases hr
                  | some z =>
                    obtain ⟨o, st2⟩ := z
                    refine yield_intro hq hst (of_decide_eq_true hlen) (exec_sound ih he ⟨rfl, r1, hr1, hst1, exec_sound ih he2 (endRound_sound hr)⟩)
                · cases hr
              · cases hr
            · cases hr
          · cases hr
        · cases hr
      · cases hr
    · cases hr

end
end Go.Ae
