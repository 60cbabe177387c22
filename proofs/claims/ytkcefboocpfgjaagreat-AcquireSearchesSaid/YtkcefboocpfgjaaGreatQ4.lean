/- Texts of the proof, part 4: a second reading of the lowered code, proved sound, and what the functions compute. -/
import Derived.OrdersIn
import Derived.Test.YtkcefboocpfgjaaGreatQ3
set_option linter.unusedSimpArgs false
set_option linter.unusedVariables false
namespace Go.Ae
section
variable {C : Ctx} {keep : Keep} {nt : Nat} {env : Env} {st : St} {a : Act} {w : World}
theorem jg7 (S : Sim C keep nt env st a w) {ops : Array Oper} {j d : Nat} (hd : (ops[j]?).bind (·.dst) = some d) :
  yielded ops a.tmps j = match st.t d with | .bool c => some c | _ => none := by
 have h1 := S.tmps d
 rw [Array.getD_eq_getD_getElem?] at h1
 unfold yielded
 rw [hd]
 simp only [Option.bind_some]
 cases ht : a.tmps[d]? with
 | none =>
  rw [ht] at h1
  simp only [Option.getD_none] at h1
  cases hs : st.t d <;> first | rfl | (rw [hs] at h1; cases h1)
 | some v =>
  rw [ht] at h1
  simp only [Option.getD_some] at h1
  subst h1
  cases hs : st.t d <;> rfl
theorem jfB (S : Sim C keep nt env st a w) {ops : Array Oper} {o : Oper} {g : Option (Nat × Bool)} (hg : jdc ops o.guard = some g) {p q : Prop} (h : jcR g st.t p q) :
  (Region.wanted o (yielded ops a.tmps) = true ∧ p) ∨ (Region.wanted o (yielded ops a.tmps) = false ∧ q) := by
 unfold Region.wanted
 cases ho : o.guard with
 | none =>
  rw [ho] at hg
  cases hg
  exact .inl ⟨rfl, h⟩
 | some jw =>
  obtain ⟨j, want⟩ := jw
  rw [ho] at hg
  simp only [jdc] at hg
  split at hg
  ·rename_i d hd
   cases hg
   dsimp only
   rw [jg7 S hd]
   unfold jcR at h
   dsimp only at h
   split at h
   ·rename_i c hc
    by_cases e : c = want
    ·left; exact ⟨by simp [hc, e], h.1 e⟩
    ·right
     refine ⟨by simp [hc, e], h.2 ?_⟩
     cases c <;> cases want <;> simp_all
   ·rename_i hne
    right
    refine ⟨?_, h⟩
    first
     | rfl
     | (split
        ·rename_i c hc; exact absurd hc (hne c)
        ·rfl)
  ·cases hg
theorem jdq {P : Program} {inv : FuncId → Option Nat} {ops : Array Oper} {o : Oper} : (∃ s, (jaD P inv nt ops o) = { dst := none, op := .refuse s, guard := none }) ∨
  (∃ g, jdc ops o.guard = some g ∧ (jaD P inv nt ops o).guard = g ∧ (jaD P inv nt ops o).dst = o.dst ∧ dstOk nt o.dst = true) := by
 unfold jaD
 split
 ·rename_i aop g h1 h2 h3
  exact .inr ⟨_, h3, rfl, rfl, h2⟩
 ·exact .inl ⟨_, rfl⟩
theorem jmL {nid : Option Nat} {s : String} {K : St → Prop} (h : wpOp C nid { dst := none, op := .refuse s, guard := none } K st) : False := by
 unfold wpOp at h
 simp [aOp, pureA] at h
def Reached (C : Ctx) (keep : Keep) (nt : Nat) (env : Env) (st : St) (w : World) (W : List Nat) (Q : Out → St → Prop) (o : Out) (a' : Act) (w' : World) : Prop :=
 ∃ env' st', Far C keep nt env st w env' st' a' w' ∧ (∀ s, s ∉ W → st'.t s = st.t s) ∧ HLe st.h st'.h ∧ Q o st'
def Out.toExit : Out → Exit
 | .normal => .normal
 | .exit id => .exit id
 | .ret => .ret
def PostQ (C : Ctx) (keep : Keep) (nt : Nat) (env : Env) (st : St) (w : World) (W : List Nat) (Q : Out → St → Prop) (e : Exit) (a' : Act) (w' : World) : Prop :=
 ∃ o : Out, e = o.toExit ∧ Reached C keep nt env st w W Q o a' w'
theorem Reached.step {env1 : Env} {st1 : St} {w1 : World} {a1 : Act} {W W' : List Nat} {Q : Out → St → Prop} {o : Out} {a' : Act} {w' : World} (F : Far C keep nt env st w env1 st1 a1 w1) (hW : ∀ s, s ∉ W → st1.t s = st.t s) (hL : HLe st.h st1.h)
  (R : Reached C keep nt env1 st1 w1 W' Q o a' w') (hsub : ∀ s, s ∉ W → s ∉ W') : Reached C keep nt env st w W Q o a' w' := by
 obtain ⟨env', st', G, h1, h2, h3⟩ := R
 exact ⟨env', st', F.trans G, fun s hs => (h1 s (hsub s hs)).trans (hW s hs), hL.trans h2, h3⟩
theorem jic (fenv : Env) (rd : Option Nat) (ops : Array Oper) (W : List Nat) (hW : ∀ o ∈ ops.toList, ∀ d, (jaD C.P C.inv nt ops o).dst = some d → d ∈ W) (K : St → Prop) (Q : Exit → Act → World → Prop) :
  ∀ (k : Nat) (env : Env) (st : St) (a : Act) (w : World), k ≤ ops.size → wpOps C ((ops.toList.drop k).map (jaD C.P C.inv nt ops)) K st → Sim C keep nt env st a w →
   (∀ a' w', Reached C keep nt env st w W (fun _ => K) .normal a' w' → Q .normal a' w') → wpOpsIn (fen fenv rd) 0 C.P ops Q (List.range' k (ops.size - k)) a w := by
 intro k
 induction hn : ops.size - k generalizing k with
 | zero =>
  intro env st a w hk h S hQ
  rw [List.drop_of_length_le (by simp; omega)] at h
  exact hQ a w ⟨env, st, Far.refl S, fun _ _ => rfl, HLe.refl _, h⟩
 | succ n ih =>
  intro env st a w hk h S hQ
  have hlt : k < ops.size := by omega
  rw [List.range'_succ]
  rw [List.drop_eq_getElem_cons (by simpa using hlt), List.map_cons] at h
  have hmem : ops[k] ∈ ops.toList := by simp
  simp only [Array.getElem_toList] at h
  simp only [wpOps] at h
  simp only [wpOpsIn, Array.getElem?_eq_getElem hlt]
  rcases jdq (P := C.P) (inv := C.inv) (nt := nt) (ops := ops) (o := ops[k]) with ⟨s, hs⟩ | ⟨g, hg, hge, hde, hdo⟩
  ·rw [hs] at h
   have h' : wpOp C none { dst := none, op := .refuse s, guard := none } (wpOps C ((ops.toList.drop (k + 1)).map (jaD C.P C.inv nt ops)) K) st := h
   exact (jmL h').elim
  ·rw [hge] at h
   rcases jfB S hg h with ⟨hw, hp⟩ | ⟨hw, hq⟩
   ·rw [if_pos hw]
    refine Oper.wpIn_mono ?_ (jkH S fenv rd rfl hp)
    rintro a' w' ⟨env', st', F, h1, h2, h3⟩
    have hL : HLe st.h st'.h := ⟨F.grow.size, fun i hi => h2 i hi (by simp)⟩
    have hagree : ∀ s, s ∉ W → st'.t s = st.t s := fun s hs => h1 s fun hd => hs (hW _ hmem s hd)
    refine ih (k + 1) (by omega) env' st' a' w' (by omega) h3 F.sim ?_
    exact fun a2 w2 R2 => hQ a2 w2 (R2.step F hagree hL fun _ hs => hs)
   ·rw [if_neg (by rw [hw]; simp)]
    refine ⟨fun f _ => jib fenv rd f, ?_⟩
    rw [hde] at hq
    have F := S.put (v := AV.undef) hdo S.rel (KeepW.refl _ _) (Ext.refl _ _) (HGrow.refl _) trivial
    have hph : (st.put ops[k].dst AV.undef).h = st.h := by cases ops[k].dst <;> rfl
    have hst : St.put { st with h := st.h } ops[k].dst AV.undef = st.put ops[k].dst AV.undef := rfl
    rw [hst] at F
    have hagree : ∀ s, s ∉ W → (st.put ops[k].dst AV.undef).t s = st.t s := by
     intro s hs
     cases hd : ops[k].dst with
     | none => rfl
     | some d =>
      simp only [St.put, upd]
      rw [if_neg]
      intro e; subst e; exact hs (hW _ hmem s (by rw [hde, hd]))
    refine ih (k + 1) (by omega) env _ _ w (by omega) hq F.sim ?_
    exact fun a2 w2 R2 => hQ a2 w2 (R2.step F hagree (by rw [hph]; exact HLe.refl _) fun _ hs => hs)
theorem jji {F : Fence} {n : Nat} {P : Program} {c : Code} {Q : Exit → Act → World → Prop} (I : Nat → Act → World → Prop) {j0 : Nat} {a : Act} {w : World} (h₀ : I j0 a w)
  (round : ∀ j a w, I j a w → c.wpIn F n P (Exit.then (fun a' w' => ∃ i, i < j ∧ I i a' w') Q) a w) : (Code.loop c).wpIn F n P Q a w := by
 intro b k cs hro hb hr
 have key : ∀ j a w, I j a w → ∃ e a' w', Q e a' w' ∧ ArrivesIn (Machine.fenced P F) P (lone (b.atR a (.code c :: .inLoop c :: k)) cs w) b k cs e a' w' := by
  intro j
  induction j using Nat.strongRecOn with
  | _ j ih =>
   intro a w hI
   obtain ⟨e, a₁, w₁, hq, harr⟩ := round j a w hI b (.inLoop c :: k) cs hro hb hr
   cases e with
   | normal =>
    obtain ⟨i, hlt, hI₁⟩ := hq
    obtain ⟨e₂, a₂, w₂, hq₂, harr₂⟩ := ih i hlt a₁ w₁ hI₁
    exact ⟨e₂, a₂, w₂, hq₂, .of_steps (StepsIn.trans harr (.one (fenced_calm hb hr rfl) stepR_inLoop)) harr₂⟩
   | exit id => exact ⟨_, a₁, w₁, hq, .pass (x := .inLoop c) rfl (fun _ _ => .inl (by simp)) harr⟩
   | goto l => exact ⟨_, a₁, w₁, hq, .pass (x := .inLoop c) rfl (fun _ _ => .inl (by simp)) harr⟩
   | ret => exact ⟨_, a₁, w₁, hq, .pass (x := .inLoop c) rfl (fun _ _ => .inl (by simp)) harr⟩
   | panic ch => exact ⟨_, a₁, w₁, hq, .pass (x := .inLoop c) rfl (fun _ _ => .inl (by simp)) harr⟩
   | outgrown => exact ⟨_, a₁, w₁, hq, .pass (x := .inLoop c) rfl (fun _ _ => .inl (by simp)) harr⟩
 obtain ⟨e, a', w', hq, harr⟩ := key _ a w h₀
 exact ⟨e, a', w', hq, .of_steps (.one (fenced_calm hb hr rfl) stepR_loop) harr⟩
theorem joP (W : List Nat) (u t : Nat → AV) (h : ∀ s, s ∉ W → u s = t s) : mix W u t = u := by
 funext s
 unfold mix
 by_cases hs : s ∈ W
 ·rw [if_pos (by simpa using hs)]
 ·rw [if_neg (by simpa using hs)]; exact (h s hs).symm
end
end Go.Ae
namespace Go.Ae
section
variable {C : Ctx} {keep : Keep} {nt : Nat}
def jmM (C : Ctx) (keep : Keep) (nt : Nat) (fenv : Env) (rd : Option Nat) : Prop :=
 ∀ (g : Operand) (g' : AOpd) (ps : Array Nat) (x y : Code) (Q : Out → St → Prop) (env : Env) (st : St) (a : Act) (w : World), lowerOpd C.inv g = some g' → (∀ p ∈ ps.toList, p < nt) →
  jcA C nt rd (g'.ev st.t) ps.toList (jad C.P C.inv nt x) (jad C.P C.inv nt y) Q st → Sim C keep nt env st a w → (∀ l, rd = some l → st.h.ok l ∧ env l = fenv l) →
  (Code.rangeFunc g ps x y).wpIn (fen fenv rd) 0 C.P (PostQ C keep nt env st w [] Q) a w
def jqd (C : Ctx) (keep : Keep) (nt : Nat) (fenv : Env) (rd : Option Nat) : Prop :=
 ∀ (id : Nat) (ops : Array Oper) (n : Nat) (l : List DItem) (K : St → Prop) (env : Env) (st : St) (a : Act) (w : World), jcW C.P C.inv nt ops = some (n, l) →
  jd3 C n l K st → Sim C keep nt env st a w → (∀ l, rd = some l → st.h.ok l ∧ env l = fenv l) →
  (Code.region id ops true).wpIn (fen fenv rd) 0 C.P (PostQ C keep nt env st w (l.filterMap (·.o.dst)) (fun o st' => o = .normal ∧ K st')) a w
theorem jg8 (fenv : Env) (rd : Option Nat) (hrange : jmM C keep nt fenv rd) (hdraw : jqd C keep nt fenv rd) : ∀ (c : Code) (Q : Out → St → Prop) (env : Env) (st : St) (a : Act) (w : World),
  wp C nt rd (jad C.P C.inv nt c) Q st → Sim C keep nt env st a w → (∀ l, rd = some l → st.h.ok l ∧ env l = fenv l) →
  c.wpIn (fen fenv rd) 0 C.P (PostQ C keep nt env st w (writes (jad C.P C.inv nt c)) Q) a w := by
 intro c
 induction c with
 | skip =>
  intro Q env st a w h S hrd
  exact wpIn_skip ⟨.normal, rfl, env, st, Far.refl S, fun _ _ => rfl, HLe.refl _, h⟩
 | label l =>
  intro Q env st a w h S hrd
  exact wpIn_label ⟨.normal, rfl, env, st, Far.refl S, fun _ _ => rfl, HLe.refl _, h⟩
 | exit id =>
  intro Q env st a w h S hrd
  exact wpIn_exit ⟨.exit id, rfl, env, st, Far.refl S, fun _ _ => rfl, HLe.refl _, h⟩
 | ret =>
  intro Q env st a w h S hrd
  exact wpIn_ret ⟨.ret, rfl, env, st, Far.refl S, fun _ _ => rfl, HLe.refl _, h⟩
 | refuse s => intro Q env st a w h S hrd; exact h.elim
 | goto l => intro Q env st a w h S hrd; exact h.elim
 | scope b => intro Q env st a w h S hrd; exact h.elim
 | region id ops draw =>
  intro Q env st a w h S hrd
  cases draw with
  | false =>
   refine wpIn_region ?_
   rw [List.range_eq_range']
   have hh : wpOps C ((ops.toList.drop 0).map (jaD C.P C.inv nt ops)) (Q .normal) st := by simpa [jad, wp] using h
   have := jic (C := C) (keep := keep) fenv rd ops (writes (jad C.P C.inv nt (.region id ops false)))
    (by intro o ho d hd; simp only [jad, writes, List.mem_filterMap, List.mem_map]; exact ⟨_, ⟨o, ho, rfl⟩, hd⟩) (Q .normal)
    (PostQ C keep nt env st w (writes (jad C.P C.inv nt (.region id ops false))) Q) 0 env st a w (Nat.zero_le _) hh S
    (by rintro a' w' ⟨env', st', F, h1, h2, h3⟩; exact ⟨.normal, rfl, env', st', F, h1, h2, h3⟩)
   exact this
  | true =>
   simp only [jad] at h ⊢
   cases hd : jcW C.P C.inv nt ops with
   | none => rw [hd] at h; exact h.elim
   | some nl =>
    obtain ⟨n, l⟩ := nl
    rw [hd] at h
    refine wpIn_mono (hdraw id ops n l (Q .normal) env st a w hd h S hrd) ?_
    rintro e a' w' ⟨o, rfl, env', st', F, h1, h2, rfl, h3⟩
    exact ⟨.normal, rfl, env', st', F, h1, h2, h3⟩
 | seq x y ihx ihy =>
  intro Q env st a w h S hrd
  have h' : wp C nt rd (jad C.P C.inv nt x) (thenO (wp C nt rd (jad C.P C.inv nt y) Q) Q) st := h
  refine wpIn_seq (wpIn_mono (ihx _ env st a w h' S hrd) ?_)
  rintro e a1 w1 ⟨o, rfl, env1, st1, F1, h1, h2, h3⟩
  have hsub1 : ∀ s, s ∉ writes (jad C.P C.inv nt (.seq x y)) → s ∉ writes (jad C.P C.inv nt x) := by
   intro s hs hx; exact hs (by simp only [jad, writes]; exact List.mem_append.2 (.inl hx))
  have hsub2 : ∀ s, s ∉ writes (jad C.P C.inv nt (.seq x y)) → s ∉ writes (jad C.P C.inv nt y) := by
   intro s hs hx; exact hs (by simp only [jad, writes]; exact List.mem_append.2 (.inr hx))
  cases o with
  | normal =>
   have := ihy Q env1 st1 a1 w1 h3 F1.sim (fun l hl => ⟨F1.grow.same _ (hrd l hl).1, (F1.ext _ (hrd l hl).1).trans (hrd l hl).2⟩)
   refine wpIn_mono this ?_
   rintro e a2 w2 ⟨o2, rfl, R2⟩
   exact ⟨o2, rfl, R2.step F1 (fun s hs => h1 s (hsub1 s hs)) h2 hsub2⟩
  | exit id => exact ⟨.exit id, rfl, env1, st1, F1, fun s hs => h1 s (hsub1 s hs), h2, h3⟩
  | ret => exact ⟨.ret, rfl, env1, st1, F1, fun s hs => h1 s (hsub1 s hs), h2, h3⟩
 | cond c x y ihx ihy =>
  intro Q env st a w h S hrd
  simp only [jad] at h ⊢
  cases hc : lowerOpd C.inv c with
  | none => rw [hc] at h; exact h.elim
  | some c' =>
   rw [hc] at h
   have e := S.opd c c' hc
   have h' : condP (c'.ev st.t) (wp C nt rd (jad C.P C.inv nt x) Q st) (wp C nt rd (jad C.P C.inv nt y) Q st) := h
   unfold condP at h'
   split at h'
   ·rename_i t ht
    rw [ht] at e
    refine wpIn_cond_split (t := t) e.1 (fun ht => ?_) (fun ht => ?_)
    ·refine wpIn_mono (ihx Q env st a w (h'.1 ht) S hrd) ?_
     rintro e a2 w2 ⟨o2, rfl, env', st', F, h1, h2, h3⟩
     exact ⟨o2, rfl, env', st', F, fun s hs => h1 s (fun hx => hs (by simp only [writes]; exact List.mem_append.2 (.inl hx))), h2, h3⟩
    ·refine wpIn_mono (ihy Q env st a w (h'.2 ht) S hrd) ?_
     rintro e a2 w2 ⟨o2, rfl, env', st', F, h1, h2, h3⟩
     exact ⟨o2, rfl, env', st', F, fun s hs => h1 s (fun hx => hs (by simp only [writes]; exact List.mem_append.2 (.inr hx))), h2, h3⟩
   ·exact h'.elim
 | block id b ih =>
  intro Q env st a w h S hrd
  have h' : wp C nt rd (jad C.P C.inv nt b) (jbb id Q) st := h
  refine wpIn_block (wpIn_mono (ih _ env st a w h' S hrd) ?_)
  rintro e a1 w1 ⟨o, rfl, env1, st1, F1, h1, h2, h3⟩
  cases o with
  | normal => exact ⟨.normal, rfl, env1, st1, F1, h1, h2, h3⟩
  | ret => exact ⟨.ret, rfl, env1, st1, F1, h1, h2, h3⟩
  | exit id' =>
   simp only [Out.toExit, Exit.inBlock]
   simp only [jbb] at h3
   by_cases e : id' = id
   ·rw [if_pos e] at h3 ⊢
    exact ⟨.normal, rfl, env1, st1, F1, h1, h2, h3⟩
   ·rw [if_neg e] at h3 ⊢
    exact ⟨.exit id', rfl, env1, st1, F1, h1, h2, h3⟩
 | loop b ih =>
  intro Q env st a w h S hrd
  obtain ⟨I, μ, h0, hround⟩ := h
  refine jji (fun j a' w' => ∃ env' st', Far C keep nt env st w env' st' a' w' ∧ (∀ s, s ∉ writes (jad C.P C.inv nt b) → st'.t s = st.t s) ∧ HLe st.h st'.h ∧ I st'.t st'.h st'.m ∧ μ st'.t st'.h st'.m = j)
   ⟨env, st, Far.refl S, fun _ _ => rfl, HLe.refl _, h0, rfl⟩ ?_
  rintro j a1 w1 ⟨env1, st1, F1, g1, g2, hI, rfl⟩
  have hm := joP (writes (jad C.P C.inv nt b)) st1.t st.t g1
  have hr := hround st1.t st1.h st1.m g2 (by rw [hm]; exact hI)
  rw [hm] at hr
  have := ih _ env1 st1 a1 w1 hr F1.sim (fun l hl => ⟨F1.grow.same _ (hrd l hl).1, (F1.ext _ (hrd l hl).1).trans (hrd l hl).2⟩)
  refine wpIn_mono this ?_
  rintro e a2 w2 ⟨o, rfl, env2, st2, F2, k1, k2, k3⟩
  have hag : ∀ s, s ∉ writes (jad C.P C.inv nt b) → st2.t s = st.t s := fun s hs => (k1 s hs).trans (g1 s hs)
  cases o with
  | normal => exact ⟨_, k3.2, env2, st2, F1.trans F2, hag, g2.trans k2, k3.1, rfl⟩
  | exit id => exact ⟨.exit id, rfl, env2, st2, F1.trans F2, hag, g2.trans k2, k3⟩
  | ret => exact ⟨.ret, rfl, env2, st2, F1.trans F2, hag, g2.trans k2, k3⟩
 | rangeFunc g ps x y ihx ihy =>
  intro Q env st a w h S hrd
  simp only [jad] at h ⊢
  cases hg : lowerOpd C.inv g with
  | none => rw [hg] at h; exact h.elim
  | some g' =>
   rw [hg] at h
   dsimp only at h ⊢
   split at h
   ·rename_i hps
    rw [if_pos hps]
    have hps' : ∀ p ∈ ps.toList, p < nt := by
     intro p hp
     have := Array.all_eq_true'.1 hps p (by simpa using hp)
     simpa using this
    exact hrange g g' ps x y Q env st a w hg hps' h S hrd
   ·exact h.elim
end
end Go.Ae
