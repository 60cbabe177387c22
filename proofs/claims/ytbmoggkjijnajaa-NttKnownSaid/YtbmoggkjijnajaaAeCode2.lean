/- The main theorem: code, but for ranges over functions, which come in as a hypothesis. -/
import Derived.Test.YtbmoggkjijnajaaAeCode
namespace Go.Ae

section
variable {C : Ctx} {keep : Keep} {nt : Nat}

theorem PostQ.mk' {env : Env} {st : St} {w : World} {W : List Nat} {Q : Out → St → Prop} {o : Out} {a' : Act} {w' : World} (R : Reached C keep nt env st w W Q o a' w') : PostQ C keep nt env st w W Q o.toExit a' w' := ⟨o, rfl, R⟩

/-- What is owed for a range over a function. -/
def RangeOk (C : Ctx) (keep : Keep) (nt : Nat) (fenv : Env) (rd : Option Nat) : Prop :=
  ∀ (g : Operand) (g' : AOpd) (ps : Array Nat) (x y : Code) (Q : Out → St → Prop) (env : Env) (st : St) (a : Act) (w : World), lowerOpd C.inv g = some g' → (∀ p ∈ ps.toList, p < nt) →
    wpRange C nt rd (g'.ev st.t) ps.toList (lowerCode C.P C.inv nt x) (lowerCode C.P C.inv nt y) Q st → Sim C keep nt env st a w → (∀ l, rd = some l → st.h.ok l ∧ env l = fenv l) →
    (Code.rangeFunc g ps x y).wpIn (fen fenv rd) 0 C.P (PostQ C keep nt env st w [] Q) a w

/-- What is owed for a region that draws its order. -/
def DrawOk (C : Ctx) (keep : Keep) (nt : Nat) (fenv : Env) (rd : Option Nat) : Prop :=
  ∀ (id : Nat) (ops : Array Oper) (n : Nat) (l : List DItem) (K : St → Prop) (env : Env) (st : St) (a : Act) (w : World), drawItems C.P C.inv nt ops = some (n, l) →
    wpDraw C n l K st → Sim C keep nt env st a w → (∀ l, rd = some l → st.h.ok l ∧ env l = fenv l) →
    (Code.region id ops true).wpIn (fen fenv rd) 0 C.P (PostQ C keep nt env st w (l.filterMap (·.o.dst)) (fun o st' => o = .normal ∧ K st')) a w

theorem wp_sound (fenv : Env) (rd : Option Nat) (hrange : RangeOk C keep nt fenv rd) (hdraw : DrawOk C keep nt fenv rd) : ∀ (c : Code) (Q : Out → St → Prop) (env : Env) (st : St) (a : Act) (w : World),
    wp C nt rd (lowerCode C.P C.inv nt c) Q st → Sim C keep nt env st a w → (∀ l, rd = some l → st.h.ok l ∧ env l = fenv l) →
    c.wpIn (fen fenv rd) 0 C.P (PostQ C keep nt env st w (writes (lowerCode C.P C.inv nt c)) Q) a w := by
  intro c
  induction c with
  | skip =>
    intro Q env st a w h S hrd
    exact wpIn_skip ⟨.normal, rfl, env, st, Far.refl S, fun _ _ => rfl, HLe.refl _, h⟩
  | label l =>
    intro Q env st a w h S hrd
    exact wpIn_label ⟨.normal, rfl, env, st, Far.refl S, fun _ _ => rfl, HLe.refl _, h⟩
  | exit id =>
    intro Q env st a w h S hrd
    exact wpIn_exit ⟨.exit id, rfl, env, st, Far.refl S, fun _ _ => rfl, HLe.refl _, h⟩
  | ret =>
    intro Q env st a w h S hrd
    exact wpIn_ret ⟨.ret, rfl, env, st, Far.refl S, fun _ _ => rfl, HLe.refl _, h⟩
  | refuse s => intro Q env st a w h S hrd; exact h.elim
  | goto l => intro Q env st a w h S hrd; exact h.elim
  | scope b => intro Q env st a w h S hrd; exact h.elim
  | region id ops draw =>
    intro Q env st a w h S hrd
    cases draw with
    | false =>
      refine wpIn_region ?_
      rw [List.range_eq_range']
      have hh : wpOps C ((ops.toList.drop 0).map (lowerOper C.P C.inv nt ops)) (Q .normal) st := by simpa [lowerCode, wp] using h
      have := region_sound (C := C) (keep := keep) fenv rd ops (writes (lowerCode C.P C.inv nt (.region id ops false)))
        (by intro o ho d hd; simp only [lowerCode, writes, List.mem_filterMap, List.mem_map]; exact ⟨_, ⟨o, ho, rfl⟩, hd⟩) (Q .normal)
        (PostQ C keep nt env st w (writes (lowerCode C.P C.inv nt (.region id ops false))) Q) 0 env st a w (Nat.zero_le _) hh S
        (by rintro a' w' ⟨env', st', F, h1, h2, h3⟩; exact ⟨.normal, rfl, env', st', F, h1, h2, h3⟩)
      exact this
    | true =>
      simp only [lowerCode] at h ⊢
      cases hd : drawItems C.P C.inv nt ops with
      | none => rw [hd] at h; exact h.elim
      | some nl =>
        obtain ⟨n, l⟩ := nl
        rw [hd] at h
        refine wpIn_mono (hdraw id ops n l (Q .normal) env st a w hd h S hrd) ?_
        rintro e a' w' ⟨o, rfl, env', st', F, h1, h2, rfl, h3⟩
        exact ⟨.normal, rfl, env', st', F, h1, h2, h3⟩
  | seq x y ihx ihy =>
    intro Q env st a w h S hrd
    have h' : wp C nt rd (lowerCode C.P C.inv nt x) (thenO (wp C nt rd (lowerCode C.P C.inv nt y) Q) Q) st := h
    refine wpIn_seq (wpIn_mono (ihx _ env st a w h' S hrd) ?_)
    rintro e a1 w1 ⟨o, rfl, env1, st1, F1, h1, h2, h3⟩
    have hsub1 : ∀ s, s ∉ writes (lowerCode C.P C.inv nt (.seq x y)) → s ∉ writes (lowerCode C.P C.inv nt x) := by
      intro s hs hx; exact hs (by simp only [lowerCode, writes]; exact List.mem_append.2 (.inl hx))
    have hsub2 : ∀ s, s ∉ writes (lowerCode C.P C.inv nt (.seq x y)) → s ∉ writes (lowerCode C.P C.inv nt y) := by
      intro s hs hx; exact hs (by simp only [lowerCode, writes]; exact List.mem_append.2 (.inr hx))
    cases o with
    | normal =>
      have := ihy Q env1 st1 a1 w1 h3 F1.sim (fun l hl => ⟨F1.grow.same _ (hrd l hl).1, (F1.ext _ (hrd l hl).1).trans (hrd l hl).2⟩)
      refine wpIn_mono this ?_
      rintro e a2 w2 ⟨o2, rfl, R2⟩
      exact ⟨o2, rfl, R2.step F1 (fun s hs => h1 s (hsub1 s hs)) h2 hsub2⟩
    | exit id => exact ⟨.exit id, rfl, env1, st1, F1, fun s hs => h1 s (hsub1 s hs), h2, h3⟩
    | ret => exact ⟨.ret, rfl, env1, st1, F1, fun s hs => h1 s (hsub1 s hs), h2, h3⟩
  | cond c x y ihx ihy =>
    intro Q env st a w h S hrd
    simp only [lowerCode] at h ⊢
    cases hc : lowerOpd C.inv c with
    | none => rw [hc] at h; exact h.elim
    | some c' =>
      rw [hc] at h
      have e := S.opd c c' hc
      have h' : condP (c'.ev st.t) (wp C nt rd (lowerCode C.P C.inv nt x) Q st) (wp C nt rd (lowerCode C.P C.inv nt y) Q st) := h
      unfold condP at h'
      split at h'
      · rename_i t ht
        rw [ht] at e
        refine wpIn_cond_split (t := t) e.1 (fun ht => ?_) (fun ht => ?_)
        · refine wpIn_mono (ihx Q env st a w (h'.1 ht) S hrd) ?_
          rintro e a2 w2 ⟨o2, rfl, env', st', F, h1, h2, h3⟩
          exact ⟨o2, rfl, env', st', F, fun s hs => h1 s (fun hx => hs (by simp only [writes]; exact List.mem_append.2 (.inl hx))), h2, h3⟩
        · refine wpIn_mono (ihy Q env st a w (h'.2 ht) S hrd) ?_
          rintro e a2 w2 ⟨o2, rfl, env', st', F, h1, h2, h3⟩
          exact ⟨o2, rfl, env', st', F, fun s hs => h1 s (fun hx => hs (by simp only [writes]; exact List.mem_append.2 (.inr hx))), h2, h3⟩
      · exact h'.elim
  | block id b ih =>
    intro Q env st a w h S hrd
    have h' : wp C nt rd (lowerCode C.P C.inv nt b) (blockO id Q) st := h
    refine wpIn_block (wpIn_mono (ih _ env st a w h' S hrd) ?_)
    rintro e a1 w1 ⟨o, rfl, env1, st1, F1, h1, h2, h3⟩
    cases o with
    | normal => exact ⟨.normal, rfl, env1, st1, F1, h1, h2, h3⟩
    | ret => exact ⟨.ret, rfl, env1, st1, F1, h1, h2, h3⟩
    | exit id' =>
      simp only [Out.toExit, Exit.inBlock]
      simp only [blockO] at h3
      by_cases e : id' = id
      · rw [if_pos e] at h3 ⊢
        exact ⟨.normal, rfl, env1, st1, F1, h1, h2, h3⟩
      · rw [if_neg e] at h3 ⊢
        exact ⟨.exit id', rfl, env1, st1, F1, h1, h2, h3⟩
  | loop b ih =>
    intro Q env st a w h S hrd
    obtain ⟨I, μ, h0, hround⟩ := h
    refine loop_ranked (fun j a' w' => ∃ env' st', Far C keep nt env st w env' st' a' w' ∧ (∀ s, s ∉ writes (lowerCode C.P C.inv nt b) → st'.t s = st.t s) ∧ HLe st.h st'.h ∧ I st'.t st'.h st'.m ∧ μ st'.t st'.h st'.m = j)
      ⟨env, st, Far.refl S, fun _ _ => rfl, HLe.refl _, h0, rfl⟩ ?_
    rintro j a1 w1 ⟨env1, st1, F1, g1, g2, hI, rfl⟩
    have hm := mix_self (writes (lowerCode C.P C.inv nt b)) st1.t st.t g1
    have hr := hround st1.t st1.h st1.m g2 (by rw [hm]; exact hI)
    rw [hm] at hr
    have := ih _ env1 st1 a1 w1 hr F1.sim (fun l hl => ⟨F1.grow.same _ (hrd l hl).1, (F1.ext _ (hrd l hl).1).trans (hrd l hl).2⟩)
    refine wpIn_mono this ?_
    rintro e a2 w2 ⟨o, rfl, env2, st2, F2, k1, k2, k3⟩
    have hag : ∀ s, s ∉ writes (lowerCode C.P C.inv nt b) → st2.t s = st.t s := fun s hs => (k1 s hs).trans (g1 s hs)
    cases o with
    | normal => exact ⟨_, k3.2, env2, st2, F1.trans F2, hag, g2.trans k2, k3.1, rfl⟩
    | exit id => exact ⟨.exit id, rfl, env2, st2, F1.trans F2, hag, g2.trans k2, k3⟩
    | ret => exact ⟨.ret, rfl, env2, st2, F1.trans F2, hag, g2.trans k2, k3⟩
  | rangeFunc g ps x y ihx ihy =>
    intro Q env st a w h S hrd
    simp only [lowerCode] at h ⊢
    cases hg : lowerOpd C.inv g with
    | none => rw [hg] at h; exact h.elim
    | some g' =>
      rw [hg] at h
      dsimp only at h ⊢
      split at h
      · rename_i hps
        rw [if_pos hps]
        have hps' : ∀ p ∈ ps.toList, p < nt := by
          intro p hp
          have := Array.all_eq_true'.1 hps p (by simpa using hp)
          simpa using this
        exact hrange g g' ps x y Q env st a w hg hps' h S hrd
      · exact h.elim

end
end Go.Ae
