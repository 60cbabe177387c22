/- A call does not see a block that it was not handed. -/
import Derived.Test.YtbmoggkjijnajaaAeSwap
namespace Go.Ae

section
variable {C : Ctx} {keep : Keep} {env : Env} {h : Heap} {w : World}

def Keep.plus (keep : Keep) (b : Nat) : Keep := ⟨fun r => keep.no r ∨ r = b, fun r => keep.hide r ∨ r = b⟩

theorem rel_hide {n : Nat} {cs : List AV} {u : Nat} (R : Rel C keep env (h.put n (.cells cs true u)) w) (hn : h.get n = none) (hlt : n < h.size) (hb : ∀ i b, h.get i = some b → b.bel h.ok) :
    Rel C (keep.plus (env n).blk) env h w := by
  have hput : ∀ i c, h.get i = some c → (h.put n (.cells cs true u)).get i = some c := by
    intro i c hc
    rw [Heap.get_put _ _ _ _ hlt, if_neg]
    · exact hc
    · intro e; subst e; rw [hn] at hc; cases hc
  have hnn : (h.put n (.cells cs true u)).get n = some (.cells cs true u) := by rw [Heap.get_put _ _ _ _ hlt, if_pos rfl]
  have hne : ∀ i c, h.get i = some c → n ≠ i := by
    intro i c hc e; subst e; rw [hn] at hc; cases hc
  refine ⟨fun i b hi => R.lt i b (hput i b hi), fun i b hi => R.blk i b (hput i b hi), fun i j b c hi hj => R.disj i j b c (hput i b hi) (hput j c hj), hb, ?_, ?_, ?_, ?_⟩
  · rintro i b hi hw (hk | hk)
    · exact R.kept i b (hput i b hi) hw hk
    · exact R.disj n i _ b hnn (hput i b hi) (hne i b hi) rfl (by rintro rfl; cases hw) hk
  · rintro r (hk | rfl)
    · exact R.keepLt r hk
    · exact R.lt n _ hnn
  · rintro i b hi hd (hk | hk)
    · exact R.hid i b (hput i b hi) hd hk
    · exact R.disj n i _ b hnn (hput i b hi) (hne i b hi) rfl hd hk
  · rintro r (hk | rfl)
    · exact R.hidLt r hk
    · exact R.lt n _ hnn

theorem back_frame {n : Nat} {cs : List AV} {u : Nat} (R0 : Rel C keep env (h.put n (.cells cs true u)) w) (hn : h.get n = none) (hlt : n < h.size) {Post : AV → Heap → Prop} {e : Ending} {w' : World}
    (B : Back C (keep.plus (env n).blk) env h w Post e w') :
    Back C keep env (h.put n (.cells cs true u)) w (fun r h'' => ∃ h', Post r h' ∧ HLe h h' ∧ h'' = h'.put n (.cells cs true u)) e w' := by
  obtain ⟨env1, r, h', rfl, hP, R1, K1, X, hL, hr⟩ := B
  have hlt0 : n < h.size := hlt
  have hnn : (h.put n (.cells cs true u)).get n = some (.cells cs true u) := by rw [Heap.get_put _ _ _ _ hlt, if_pos rfl]
  have hn' : h'.get n = none := by
    have := hL.same n hlt
    rw [hn] at this
    cases hx : h'.get n with
    | none => rfl
    | some b => rw [hx] at this; cases this
  have hlt' : n < h'.size := Nat.lt_of_lt_of_le hlt hL.size
  have hX2 : Ext h' env1 (updE env1 n (env n)) := ext_updE hn' env1 _
  have hself : updE env1 n (env n) n = env n := by simp [updE]
  have hold : ∀ i, i ≠ n → updE env1 n (env n) i = env1 i := fun i hi => by simp [updE, hi]
  have hX : Ext (h.put n (.cells cs true u)) env (updE env1 n (env n)) := by
    intro i hi
    rcases (ok_put hlt).1 hi with rfl | hi
    · exact hself
    · exact (hX2 i (hL.ok hi)).trans (X i hi)
  have hsz := K1.size
  have hrow : w'.heap[(env n).blk]? = w.heap[(env n).blk]? := K1.block _ (.inr rfl)
  have hLe : HLe (h.put n (.cells cs true u)) (h'.put n (.cells cs true u)) := by
    refine ⟨hL.size, fun i hi => ?_⟩
    rw [Heap.get_put _ _ _ _ hlt, Heap.get_put _ _ _ _ hlt']
    by_cases e : i = n
    · rw [if_pos e, if_pos e]
    · rw [if_neg e, if_neg e]; exact hL.same i hi
  have hg := fun j => Heap.get_put h' n j (.cells cs true u) hlt'
  have hokm : ∀ i, h'.ok i → (h'.put n (.cells cs true u)).ok i := fun i hi => (ok_put hlt').2 (.inr hi)
  refine ⟨updE env1 n (env n), r, h'.put n (.cells cs true u), ?_, ⟨h', hP, hL, rfl⟩, ⟨?_, ?_, ?_, ?_, ?_, ?_, ?_, ?_⟩, ⟨K1.os, K1.tape, K1.output, K1.size, fun q hq => K1.block q (.inl hq)⟩, hX, hLe, bel_mono hokm r hr⟩
  · rw [hX2.val hr]
  · intro i c hc
    rw [hg] at hc
    by_cases e : i = n
    · rw [e, hself]; have := R0.lt n _ hnn; omega
    · rw [if_neg e] at hc; rw [hold i e]; exact R1.lt i c hc
  · intro i c hc
    rw [hg] at hc
    by_cases e : i = n
    · rw [if_pos e] at hc; cases hc; rw [e, hself]
      exact (R0.blk n _ hnn).mono hX (R0.bel n _ hnn) hrow
    · rw [if_neg e] at hc; rw [hold i e]
      exact (R1.blk i c hc).mono hX2 (R1.bel i c hc) rfl
  · intro i j c d hc hd hij hw hdd
    rw [hg] at hc hd
    by_cases ei : i = n
    · have ej : j ≠ n := fun x => hij (ei.trans x.symm)
      rw [if_neg ej] at hd
      rw [ei, hself, hold j ej]
      exact fun x => R1.hid j d hd hdd (.inr x)
    · rw [if_neg ei] at hc
      by_cases ej : j = n
      · rw [ej, hself, hold i ei]
        exact fun x => R1.hid i c hc (by rintro rfl; cases hw) (.inr x.symm)
      · rw [if_neg ej] at hd
        rw [hold i ei, hold j ej]
        exact R1.disj i j c d hc hd hij hw hdd
  · intro i c hc
    rw [hg] at hc
    by_cases e : i = n
    · rw [if_pos e] at hc; cases hc
      exact ABlk.bel_mono (fun j hj => hLe.ok hj) (R0.bel n _ hnn)
    · rw [if_neg e] at hc; exact ABlk.bel_mono hokm (R1.bel i c hc)
  · intro i c hc hw hk
    rw [hg] at hc
    by_cases e : i = n
    · rw [e, hself] at hk; exact R0.kept n _ hnn rfl hk
    · rw [if_neg e] at hc; rw [hold i e] at hk; exact R1.kept i c hc hw (.inl hk)
  · exact fun q hq => R1.keepLt q (.inl hq)
  · intro i c hc hd hk
    rw [hg] at hc
    by_cases e : i = n
    · rw [e, hself] at hk; exact R0.hid n _ hnn (by intro x; cases x) hk
    · rw [if_neg e] at hc; rw [hold i e] at hk; exact R1.hid i c hc hd (.inl hk)
  · exact fun q hq => R1.hidLt q (.inl hq)

theorem callP_frame {f : AV} {args : List AV} {n : Nat} {cs : List AV} {u : Nat} {Post : AV → Heap → Prop} (hc : callP C f args h Post) (hn : h.get n = none) (hlt : n < h.size) (hb : ∀ i b, h.get i = some b → b.bel h.ok)
    (ha : ∀ v ∈ callVals f args, v.bel h.ok) : callP C f args (h.put n (.cells cs true u)) (fun r h'' => ∃ h', Post r h' ∧ HLe h h' ∧ h'' = h'.put n (.cells cs true u)) := by
  unfold callP at hc ⊢
  cases f with
  | func g first captured =>
    refine ⟨hc.1, fun keep env w R hv => ?_⟩
    exact (hc.2 _ env w (rel_hide R hn hlt hb) ha).mono fun e w' B => back_frame R hn hlt B
  | yield l =>
    intro keep env w R hv
    obtain ⟨fn, tmps, assign, body, h1, h2⟩ := hc _ env w (rel_hide R hn hlt hb) ha
    exact ⟨fn, tmps, assign, body, h1, h2.mono fun e w' B => back_frame R hn hlt B⟩
  | _ => exact hc

/-- More is known of what a call comes back with. -/
theorem callP_more {f : AV} {args : List AV} {Post : AV → Heap → Prop} (hc : callP C f args h Post) : callP C f args h (fun r h' => Post r h' ∧ HLe h h' ∧ r.bel h'.ok ∧ ∃ keep env w, Rel C keep env h' w) := by
  have hb : ∀ keep env w e w', Back C keep env h w Post e w' → Back C keep env h w (fun r h' => Post r h' ∧ HLe h h' ∧ r.bel h'.ok ∧ ∃ keep env w, Rel C keep env h' w) e w' := by
    rintro keep env w e w' ⟨env', r, h', a, b, c, d, e1, f1, g1⟩
    exact ⟨env', r, h', a, ⟨b, f1, g1, keep, env', w', c⟩, c, d, e1, f1, g1⟩
  unfold callP at hc ⊢
  cases f with
  | func g first captured => exact ⟨hc.1, fun keep env w R hv => (hc.2 keep env w R hv).mono fun e w' => hb keep env w e w'⟩
  | yield l =>
    intro keep env w R hv
    obtain ⟨fn, tmps, assign, body, h1, h2⟩ := hc keep env w R hv
    exact ⟨fn, tmps, assign, body, h1, h2.mono fun e w' => hb keep env w e w'⟩
  | _ => exact hc

/-- A call comes back. -/
theorem callP_some {f : AV} {args : List AV} {Post : AV → Heap → Prop} (hc : callP C f args h Post) (R : Rel C keep env h w) (ha : ∀ v ∈ callVals f args, v.bel h.ok) : ∃ r h', Post r h' := by
  unfold callP at hc
  cases f with
  | func g first captured =>
    obtain ⟨e, w', fr, ⟨env', r, h', _, hP, _⟩, _⟩ := hc.2 keep env w R ha []
    exact ⟨r, h', hP⟩
  | yield l =>
    obtain ⟨fn, tmps, assign, body, h1, h2⟩ := hc keep env w R ha
    obtain ⟨e, w', ⟨env', r, h', _, hP, _⟩, _⟩ := h2.2 (Frame.enter C.P fn #[] .normal) [] (by simp [Fence.room, Fence.wide])
    exact ⟨r, h', hP⟩
  | _ => exact hc.elim

end
end Go.Ae
