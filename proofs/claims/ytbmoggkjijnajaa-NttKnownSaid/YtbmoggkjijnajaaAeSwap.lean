/- Two operations of a region in the other order. -/
import Derived.Test.YtbmoggkjijnajaaAeLocal
namespace Go.Ae

/-! ### Values hang on the operands alone -/
theorem opds_congr {op : AOp} {ev ev' : AOpd → AV} (h : ∀ x ∈ op.opds, ev' x = ev x) (nid : Option Nat) (hp : Heap) : aOp nid op ev' hp = aOp nid op ev hp := by
  have parts : ∀ ps : List (Nat × Nat × AOpd), (∀ x ∈ ps.map (·.2.2), ev' x = ev x) → (ps.map fun p => (p.1, p.2.1, ev' p.2.2)) = ps.map fun p => (p.1, p.2.1, ev p.2.2) := by
    intro ps hx
    refine List.map_congr_left fun p hm => ?_
    rw [hx _ (List.mem_map.2 ⟨p, hm, rfl⟩)]
  have lists : ∀ xs : List AOpd, (∀ x ∈ xs, ev' x = ev x) → xs.map ev' = xs.map ev := fun xs hx => List.map_congr_left hx
  have opts : ∀ o : Option AOpd, (∀ x ∈ o.toList, ev' x = ev x) → o.map ev' = o.map ev := by
    intro o hx
    cases o with
    | none => rfl
    | some x => simp [hx x (by simp)]
  cases op with
  | build z ps => simp only [aOp, pureA, parts ps h]
  | buildSlice k z ps => simp only [aOp, parts ps h]
  | mkfunc g a c =>
    simp only [AOp.opds, List.mem_append] at h
    simp only [aOp, pureA, lists a fun x hx => h x (.inl hx), lists c fun x hx => h x (.inr hx)]
  | slice sz x lo hi mx =>
    simp only [AOp.opds, List.mem_cons, List.mem_append] at h
    simp only [aOp, pureA, h x (.inl rfl), opts lo fun x hx => h x (.inr (.inl (.inl hx))), opts hi fun x hx => h x (.inr (.inl (.inr hx))), opts mx fun x hx => h x (.inr (.inr hx))]
  | max xs => simp only [aOp, pureA, lists xs h]
  | min xs => simp only [aOp, pureA, lists xs h]
  | call f xs => rfl
  | _ => simp [AOp.opds] at h <;> simp [aOp, pureA, h] <;> rfl

theorem foot_congr {op : AOp} {ev ev' : AOpd → AV} (h : ∀ x ∈ op.opds, ev' x = ev x) (n : Nat) : footA op ev' n = footA op ev n ∧ wrA op ev' n = wrA op ev n := by
  cases op with
  | slice sz x lo hi mx =>
    simp only [AOp.opds, List.mem_cons] at h
    simp only [footA, wrA, h x (.inl rfl), and_self]
  | load a k x => simp [AOp.opds] at h; simp [footA, wrA, h]
  | store k x y => simp [AOp.opds] at h; simp [footA, wrA, h]
  | append _ _ x y => simp [AOp.opds] at h; simp [footA, wrA, h]
  | appendMake _ _ x y => simp [AOp.opds] at h; simp [footA, wrA, h]
  | copy _ x y => simp [AOp.opds] at h; simp [footA, wrA, h]
  | _ => exact ⟨rfl, rfl⟩

def updO (t : Nat → AV) (d : Option Nat) (v : AV) : Nat → AV :=
  match d with
  | none => t
  | some s => upd t s v

theorem put_eq (st : St) (h : Heap) (d : Option Nat) (v : AV) : St.put { st with h := h } d v = ⟨updO st.t d v, h, st.m⟩ := by cases d <;> rfl
theorem put_eq' (st : St) (d : Option Nat) (v : AV) : St.put st d v = ⟨updO st.t d v, st.h, st.m⟩ := by cases d <;> rfl

theorem updO_other {t : Nat → AV} {d : Option Nat} {v : AV} {s : Nat} (h : d ≠ some s) : updO t d v s = t s := by
  cases d with
  | none => rfl
  | some q => simp only [updO, upd]; rw [if_neg]; intro e; subst e; exact h rfl

theorem updO_comm {t : Nat → AV} {d e : Option Nat} {v u : AV} (h : ∀ s, d = some s → e ≠ some s) : updO (updO t d v) e u = updO (updO t e u) d v := by
  cases d with
  | none => rfl
  | some p =>
    cases e with
    | none => rfl
    | some q =>
      funext s
      simp only [updO, upd]
      have : p ≠ q := fun x => h p rfl (by rw [x])
      by_cases a : s = q
      · subst a; rw [if_pos rfl, if_neg (Ne.symm this), if_pos rfl]
      · rw [if_neg a]
        by_cases b : s = p
        · rw [if_pos b, if_pos b]
        · rw [if_neg b, if_neg b, if_neg a]

theorem ev_updO {op : AOp} {t : Nat → AV} {d : Option Nat} {v : AV} (h : ∀ s, d = some s → s ∉ op.reads) : ∀ x ∈ op.opds, x.ev (updO t d v) = x.ev t := by
  intro x hx
  cases x with
  | const c => rfl
  | tmp s =>
    refine updO_other fun e => h s e ?_
    simp only [AOp.reads, List.mem_flatMap]
    exact ⟨_, hx, by simp [AOpd.slots]⟩

/-- Slots of one's own. -/
structure Apart (x y : AOper) : Prop where
  a : ∀ s, x.dst = some s → s ∉ y.looks
  b : ∀ s, x.dst = some s → y.dst ≠ some s
  c : ∀ s, y.dst = some s → s ∉ x.looks

theorem apartB_spec {x y : AOper} (h : apartB x y = true) : Apart x y := by
  unfold apartB at h
  simp only [Bool.and_eq_true] at h
  obtain ⟨h1, h2⟩ := h
  refine ⟨fun s e => ?_, fun s e => ?_, fun s e => ?_⟩
  · rw [e] at h1; simp at h1; exact h1.1
  · rw [e] at h1; simp at h1; exact h1.2
  · rw [e] at h2; simpa using h2

theorem Apart.symm {x y : AOper} (h : Apart x y) : Apart y x := ⟨h.c, fun s e f => h.b s f e, h.a⟩

theorem Apart.ev {x y : AOper} (h : Apart x y) (t : Nat → AV) (v : AV) : ∀ o ∈ y.op.opds, o.ev (updO t x.dst v) = o.ev t :=
  ev_updO fun s e hs => h.a s e (by simp only [AOper.looks, List.mem_append]; exact .inl hs)

theorem Apart.on {x y : AOper} (h : Apart x y) (t : Nat → AV) (v : AV) : gOn y.guard (updO t x.dst v) = gOn y.guard t := by
  unfold gOn
  cases hg : y.guard with
  | none => rfl
  | some p =>
    obtain ⟨s, want⟩ := p
    have : x.dst ≠ some s := fun e => h.a s e (by simp [AOper.looks, hg])
    simp only [updO_other this]

theorem guardP_iff (g : Option (Nat × Bool)) (t : Nat → AV) (p q : Prop) : guardP g t p q ↔ if gOn g t = true then p else q := by
  cases g with
  | none => simp [guardP, gOn]
  | some a =>
    obtain ⟨s, want⟩ := a
    cases hb : gOn (some (s, want)) t <;> revert hb <;> unfold guardP gOn <;> dsimp only <;> cases t s <;> simp
    all_goals (rename_i c; cases c <;> cases want <;> simp)

/-! ### One step of a region that draws -/
section
variable {C : Ctx} {base : Nat}

def stepC (C : Ctx) (d : DItem) (f : AOpd) (args : List AOpd) (acc : Acc) (K : Acc → St → Prop) (st : St) : Prop :=
  callP C (f.ev st.t) (args.map (·.ev st.t)) st.h (fun r h' => chkS acc d.ck st.h h' ∧ K acc ⟨updO st.t d.o.dst r, h', st.m⟩)

def stepO (base : Nat) (d : DItem) (acc : Acc) (K : Acc → St → Prop) (st : St) : Prop :=
  ∃ v h', chkP acc d.ck d.o.op (·.ev st.t) (base + d.k) ∧ aOp (some (base + d.k)) d.o.op (·.ev st.t) st.h = some (v, h') ∧ K (accAdd d (·.ev st.t) (base + d.k) acc) ⟨updO st.t d.o.dst v, h', st.m⟩

theorem stepD_off {d : DItem} {acc : Acc} {K : Acc → St → Prop} {st : St} (hg : gOn d.o.guard st.t = false) : stepD C base d acc K st ↔ K acc ⟨updO st.t d.o.dst .undef, st.h, st.m⟩ := by
  unfold stepD
  rw [guardP_iff, if_neg (by rw [hg]; simp), put_eq']

theorem stepD_call {d : DItem} {f : AOpd} {args : List AOpd} (ho : d.o.op = .call f args) {acc : Acc} {K : Acc → St → Prop} {st : St} (hg : gOn d.o.guard st.t = true) : stepD C base d acc K st ↔ stepC C d f args acc K st := by
  unfold stepD stepC
  rw [guardP_iff, if_pos hg]
  simp only [ho, put_eq]

theorem stepD_op {d : DItem} (ho : cls d.o.op ≠ 2) {acc : Acc} {K : Acc → St → Prop} {st : St} (hg : gOn d.o.guard st.t = true) : stepD C base d acc K st ↔ stepO base d acc K st := by
  unfold stepD stepO
  rw [guardP_iff, if_pos hg]
  obtain ⟨k, mem, ck, ⟨dst, op, g⟩⟩ := d
  dsimp only at ho ⊢
  cases op
  case call f args => exact absurd rfl ho
  all_goals
    clear ho
    dsimp only
    constructor
    · rintro ⟨h1, h2⟩
      split at h2
      · rename_i v h' hv
        rw [put_eq] at h2
        exact ⟨v, h', h1, hv, h2⟩
      · exact h2.elim
    · rintro ⟨v, h', h1, h2, h3⟩
      refine ⟨h1, ?_⟩
      rw [h2]
      simp only [put_eq]
      exact h3

theorem callP_mono {f : AV} {args : List AV} {h : Heap} {P Q : AV → Heap → Prop} (hPQ : ∀ r h', P r h' → Q r h') (hc : callP C f args h P) : callP C f args h Q := by
  have hb : ∀ keep env w e w', Back C keep env h w P e w' → Back C keep env h w Q e w' := by
    rintro keep env w e w' ⟨env', r, h', a, b, c⟩
    exact ⟨env', r, h', a, hPQ _ _ b, c⟩
  unfold callP at hc ⊢
  cases f with
  | func g first captured => exact ⟨hc.1, fun keep env w R hv => (hc.2 keep env w R hv).mono fun e w' => hb keep env w e w'⟩
  | yield l =>
    intro keep env w R hv
    obtain ⟨fn, tmps, assign, body, h1, h2⟩ := hc keep env w R hv
    exact ⟨fn, tmps, assign, body, h1, h2.mono fun e w' => hb keep env w e w'⟩
  | _ => exact hc

/-- Fewer things to mind. -/
def AccLe (a b : Acc) : Prop := ∀ e ∈ a, e ∈ b

theorem accAdd_le {a b : Acc} (h : AccLe a b) (d : DItem) (ev : AOpd → AV) (n : Nat) : AccLe (accAdd d ev n a) (accAdd d ev n b) := by
  unfold accAdd
  split
  · intro e he
    rcases List.mem_cons.1 he with rfl | he
    · simp
    · exact List.mem_cons_of_mem _ (h e he)
  · exact h

theorem chkP_le {a b : Acc} (h : AccLe a b) {ck : List Nat} {op : AOp} {ev : AOpd → AV} {n : Nat} (hc : chkP b ck op ev n) : chkP a ck op ev n := fun e he => hc e (h e he)

theorem chkS_le {a b : Acc} (h : AccLe a b) {ck : List Nat} {h1 h2 : Heap} (hc : chkS b ck h1 h2) : chkS a ck h1 h2 := fun e he => hc e (h e he)

theorem stepD_mono {d : DItem} {a b : Acc} {K K' : Acc → St → Prop} (hab : AccLe a b) (hK : ∀ x y st, AccLe x y → K y st → K' x st) {st : St} (h : stepD C base d b K st) : stepD C base d a K' st := by
  cases hg : gOn d.o.guard st.t with
  | false => rw [stepD_off hg] at h ⊢; exact hK _ _ _ hab h
  | true =>
    by_cases h2 : cls d.o.op = 2
    · cases hop : d.o.op <;> rw [hop] at h2 <;> simp [cls] at h2
      rw [stepD_call hop hg] at h ⊢
      exact callP_mono (fun r h' q => ⟨chkS_le hab q.1, hK _ _ _ hab q.2⟩) h
    · rw [stepD_op h2 hg] at h ⊢
      obtain ⟨v, h', h1, h2, h3⟩ := h
      exact ⟨v, h', chkP_le hab h1, h2, hK _ _ _ (accAdd_le hab _ _ _) h3⟩

theorem wpD_acc : ∀ (ds : List DItem) {a b : Acc} {K : St → Prop} {st : St}, AccLe a b → wpD C base ds b K st → wpD C base ds a K st
  | [], _, _, _, _, _, h => h
  | d :: ds, a, b, K, st, hab, h => by
    have h' : stepD C base d b (fun acc' st' => wpD C base ds acc' K st') st := h
    exact stepD_mono (C := C) (base := base) (d := d) (K := fun acc' st' => wpD C base ds acc' K st') (K' := fun acc' st' => wpD C base ds acc' K st') hab (fun x y st hxy q => wpD_acc ds hxy q) h'

theorem AccLe.refl (a : Acc) : AccLe a a := fun _ => id

theorem wpD_tail {d : DItem} {ds ds' : List DItem} {K : St → Prop} (h : ∀ acc st, wpD C base ds acc K st → wpD C base ds' acc K st) {acc : Acc} {st : St} (hd : wpD C base (d :: ds) acc K st) : wpD C base (d :: ds') acc K st := by
  have h' : stepD C base d acc (fun acc' st' => wpD C base ds acc' K st') st := hd
  exact stepD_mono (C := C) (base := base) (d := d) (K := fun acc' st' => wpD C base ds acc' K st') (K' := fun acc' st' => wpD C base ds' acc' K st') (AccLe.refl _) (fun x y st' hxy q => wpD_acc ds' hxy (h _ st' q)) h'

end
end Go.Ae
