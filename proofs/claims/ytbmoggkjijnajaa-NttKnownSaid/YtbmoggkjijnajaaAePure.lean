/- The operations that only read: they are carried out as the lowered ones say. -/
import Derived.Test.YtbmoggkjijnajaaAeOp
namespace Go.Ae

section
variable {C : Ctx} {keep : Keep} {env : Env} {h : Heap} {w : World}

theorem add_lit (b s j : Nat) : (⟨b, s, none⟩ : Addr).add j = ⟨b, s + j, none⟩ := by
  unfold Addr.add; split <;> simp_all

theorem run_isAggT {P : Program} {t : TypeId} {g : Bool} (hg : aggT P t = some g) (w : World) : (isAgg t).run P w = .ok g w := by
  unfold aggT at hg
  split at hg
  · rename_i fs hd; cases hg; simp [isAgg, run_underlying hd]
  · rename_i n e hd; cases hg; simp [isAgg, run_underlying hd]
  · rename_i d hn1 hn2 hd
    cases hg
    simp only [isAgg, Sem.run_bind, run_underlying hd, Result.andThen_ok]
    rfl
  · cases hg

theorem run_sizeT {P : Program} {t : TypeId} {n : Nat} (hn : sizeT P t = some n) (w : World) : (sizeOf t).run P w = .ok n w := by
  unfold sizeT at hn
  cases hi : P.info? t with
  | none => simp [hi] at hn
  | some i => simp [hi] at hn; simp [sizeOf, typeInfo, hi, hn]

theorem sizeT_info {P : Program} {t : TypeId} {n : Nat} (hn : sizeT P t = some n) : ∃ i, P.info? t = some i ∧ i.size = n := by
  unfold sizeT at hn
  cases hi : P.info? t with
  | none => simp [hi] at hn
  | some i => simp [hi] at hn; exact ⟨i, rfl, hn⟩

theorem zcells_info {P : Program} {t : TypeId} {z : List AV} (hz : zcells P t = some z) (lk : Nat → FuncId) (env : Env) (p : Nat → Prop) :
    ∃ i v, P.info? t = some i ∧ i.zero = some v ∧ v.cells.size = i.size ∧ z.map (AV.val lk env) = v.cells.toList ∧ z.length = i.size ∧ (∀ a ∈ z, a.bel p) ∧ ∀ a ∈ z, a.one = true := by
  unfold zcells at hz
  cases hi : P.info? t with
  | none => simp [hi] at hz
  | some i =>
    simp only [hi] at hz
    cases hv : i.zero with
    | none => simp [hv] at hz
    | some v =>
      simp only [hv] at hz
      split at hz
      · rename_i hs
        have x := ofCells_spec lk env p hz
        exact ⟨i, v, rfl, hv, hs, x.1, by rw [← hs, ← List.length_map (f := AV.val lk env), x.1]; simp, x.2⟩
      · cases hz

theorem lowerOpd_spec (x : Operand) (ax : AOpd) (hx : lowerOpd C.inv x = some ax) (t : Nat → AV) (a : Act) (hA : ∀ s, a.tmps.getD s undef = (t s).val C.lk env) (hb : ∀ s, (t s).bel h.ok) :
    a.eval x = (ax.ev t).val C.lk env ∧ (ax.ev t).bel h.ok := by
  cases x with
  | tmp s => cases hx; exact ⟨hA s, hb s⟩
  | const v =>
    simp only [lowerOpd, Option.map_eq_some_iff] at hx
    obtain ⟨b, h1, rfl⟩ := hx
    have := ofVal_spec h1 C.lk env h.ok
    exact ⟨this.1.symm, this.2⟩
  | global g => cases hx
  | func f =>
    simp only [lowerOpd, Option.map_eq_some_iff] at hx
    obtain ⟨b, h1, rfl⟩ := hx
    refine ⟨?_, trivial, trivial⟩
    simp [AOpd.ev, AV.val, AV.vals, Act.eval, C.hinv f b h1]

theorem lowerOpds_spec {ρ : Operand → Value} {ev : AOpd → AV} (hρ : ∀ x ax, lowerOpd C.inv x = some ax → ρ x = (ev ax).val C.lk env ∧ (ev ax).bel h.ok) :
    ∀ {xs : List Operand} {as : List AOpd}, lowerOpds C.inv xs = some as → xs.map ρ = (as.map ev).map (AV.val C.lk env) ∧ ∀ v ∈ as.map ev, v.bel h.ok
  | [], as, hx => by cases hx; simp
  | x :: xs, as, hx => by
    unfold lowerOpds at hx
    split at hx
    · rename_i a as' h1 h2
      cases hx
      have p := hρ x a h1
      have q := lowerOpds_spec hρ h2
      refine ⟨by simp [p.1, q.1], ?_⟩
      intro v hv
      rcases List.mem_cons.1 hv with rfl | hv
      · exact p.2
      · exact q.2 v hv
    · cases hx

variable (R : Rel C keep env h w)
include R

theorem cut_cells {i : Nat} {vs : List AV} {wr : Bool} {u : Nat} (hi : h.get i = some (.cells vs wr u)) (o n : Nat) (j : Nat) (v : Value)
    (hj : ((cut vs o n).map (AV.val C.lk env))[j]? = some v) : w.cell? ((⟨(env i).blk, (env i).sh + o, none⟩ : Addr).add j) = some v := by
  simp only [List.getElem?_map, Option.map_eq_some_iff, cut] at hj
  obtain ⟨a, ha, rfl⟩ := hj
  rw [List.getElem?_take] at ha
  split at ha
  · rw [List.getElem?_drop] at ha
    rw [add_lit, Nat.add_assoc]
    exact R.cell hi ha
  · cases ha

theorem cut_bel {i : Nat} {vs : List AV} {wr : Bool} {u : Nat} (hi : h.get i = some (.cells vs wr u)) (o n : Nat) : ∀ v ∈ cut vs o n, v.bel h.ok :=
  fun v hv => R.bel i _ hi v (List.mem_of_mem_drop (List.mem_of_mem_take hv))

theorem load_sound {t : TypeId} {g : Bool} {n : Nat} (hg : aggT C.P t = some g) (hn : sizeT C.P t = some n) {x v : AV} (hl : loadA h g n x = some v) :
    (Instr.loadAt t (x.val C.lk env)).run C.P w = .ok (v.val C.lk env) w ∧ v.bel h.ok := by
  unfold loadA at hl
  split at hl
  · rename_i i o
    split at hl
    · rename_i vs wr u hi
      unfold partA at hl
      cases g with
      | true =>
        simp only [if_true] at hl
        split at hl
        · rename_i hle
          cases hl
          have hc := run_loadCells_list (P := C.P) w ⟨(env i).blk, (env i).sh + o, none⟩ ((cut vs o n).map (AV.val C.lk env)) (cut_cells R hi o n)
          have hlen : ((cut vs o n).map (AV.val C.lk env)).length = n := by simp [cut]; omega
          rw [hlen] at hc
          refine ⟨?_, (bels_iff _ _).2 (cut_bel R hi o n)⟩
          simp [Instr.loadAt, Instr.sureAddr, AV.val, loadVar, run_isAggT hg, run_sizeT hn, hc, vals_eq]
        · cases hl
      | false =>
        simp only [Bool.false_eq_true, if_false] at hl
        refine ⟨?_, R.bel i _ hi v (List.mem_of_getElem? hl)⟩
        simp [Instr.loadAt, Instr.sureAddr, AV.val, loadVar, run_isAggT hg, Nat.add_assoc, R.cell hi hl]
    · cases hl
  · cases hl

omit R in
theorem partA_sound {t : TypeId} {g : Bool} {n : Nat} (hg : aggT C.P t = some g) (hn : sizeT C.P t = some n) {vs : List AV} {o : Nat} {v : AV} (hv : partA g vs o n = some v) (hb : ∀ x ∈ vs, x.bel h.ok) :
    (part t (vs.map (AV.val C.lk env)).toArray o).run C.P w = .ok (v.val C.lk env) w ∧ v.bel h.ok := by
  unfold partA at hv
  cases g with
  | true =>
    simp only [if_true] at hv
    split at hv
    · cases hv
      refine ⟨?_, (bels_iff _ _).2 fun v hv => hb v (List.mem_of_mem_drop (List.mem_of_mem_take hv))⟩
      simp [part, run_isAggT hg, run_sizeT hn, AV.val, vals_eq, cut, List.map_drop, List.map_take]
    · cases hv
  | false =>
    simp only [Bool.false_eq_true, if_false] at hv
    refine ⟨?_, hb v (List.mem_of_getElem? hv)⟩
    simp [part, run_isAggT hg, hv]

omit R in
theorem intA_val {v : AV} {n : Int} (hv : intA v = some n) : ∃ k, v.val C.lk env = .int k n := by
  unfold intA at hv
  split at hv
  · cases hv; exact ⟨_, rfl⟩
  · cases hv

omit R in
theorem bound_run {v : AV} {n : Int} (hv : intA v = some n) (y : Nat) (code : BoundsCode) (h0 : 0 ≤ n) (h1 : n ≤ y) :
    (Instr.sliceBound (v.val C.lk env) y code).run C.P w = .ok n.toNat w := by
  obtain ⟨k, hk⟩ := intA_val (C := C) (env := env) hv
  rw [hk]
  simp [Instr.sliceBound, asIntOf, h0, h1]

omit R in
/-- The bounds, at a capacity that is at least the one that the abstract bounds were held against. -/
theorem bounds_run {len cap cap' : Nat} {lo hi mx : Option AV} {l hh m : Nat} (hb : boundsA len cap lo hi mx = some (l, hh, m)) (hc : cap ≤ cap') :
    ∃ m', (Instr.sliceBounds true len cap' (lo.map (AV.val C.lk env)) (hi.map (AV.val C.lk env)) (mx.map (AV.val C.lk env))).run C.P w = .ok (l, hh, m') w ∧
      l ≤ hh ∧ hh ≤ m' ∧ m' ≤ cap' ∧ hh ≤ cap ∧ (mx.isSome = true → m' = m ∧ m ≤ cap) ∧ (mx = none → m' = cap' ∧ m = cap) := by
  unfold boundsA at hb
  split at hb
  · rename_i mi hi' li hm hhh hl
    split at hb
    · rename_i hcond
      cases hb
      obtain ⟨b1, b2, b3, b4⟩ := hcond
      cases mx with
      | some vm =>
        simp only at hm
        cases hi with
        | none => simp at hhh
        | some vh =>
          simp only at hhh
          refine ⟨mi.toNat, ?_, by omega, by omega, by omega, by omega, (fun _ => ⟨rfl, by omega⟩), (fun hx => by cases hx)⟩
          have r1 := bound_run (C := C) (env := env) (w := w) hm cap' .slice3Acap (by omega) (by omega)
          have r2 := bound_run (C := C) (env := env) (w := w) hhh mi.toNat .slice3B (by omega) (by omega)
          cases lo with
          | none => simp only at hl; cases hl; simp [Instr.sliceBounds, r1, r2]
          | some vl =>
            simp only at hl
            have r3 := bound_run (C := C) (env := env) (w := w) hl hi'.toNat .slice3C (by omega) (by omega)
            simp [Instr.sliceBounds, r1, r2, r3]
      | none =>
        simp only at hm
        cases hm
        refine ⟨cap', ?_, by omega, by omega, by omega, by omega, (fun hx => by cases hx), (fun _ => ⟨rfl, by omega⟩)⟩
        cases hi with
        | none =>
          simp at hhh
          cases lo with
          | none => simp only at hl; cases hl; simp [Instr.sliceBounds]; omega
          | some vl =>
            simp only at hl
            have r3 := bound_run (C := C) (env := env) (w := w) hl len .sliceB (by omega) (by omega)
            simp [Instr.sliceBounds, r3]; omega
        | some vh =>
          simp only at hhh
          have r2 := bound_run (C := C) (env := env) (w := w) hhh cap' .sliceAcap (by omega) (by omega)
          cases lo with
          | none => simp only at hl; cases hl; simp [Instr.sliceBounds, r2]
          | some vl =>
            simp only at hl
            have r3 := bound_run (C := C) (env := env) (w := w) hl hi'.toNat .sliceB (by omega) (by omega)
            simp [Instr.sliceBounds, r2, r3]
    · cases hb
  · cases hb

/-- A slice with room that is not known has as much room as it has elements. -/
theorem unk_cap {i : Nat} {vs : List AV} {u l0 n o : Nat} (hi : h.get i = some (.cells vs true u)) (hsz : 0 < u) (ho : o = l0 * u) (hle : o + n * u ≤ vs.length) :
    n ≤ (env i).cap - l0 ∧ l0 ≤ (env i).cap := by
  obtain ⟨cur, t, h1, h2, h3⟩ := R.blk i _ hi
  obtain ⟨h4, h5⟩ := h3 hsz
  have : (l0 + n) * u ≤ (env i).cap * u := by rw [Nat.add_mul]; omega
  have := Nat.le_of_mul_le_mul_right this hsz
  omega

theorem slice_sound {t e : TypeId} {sz : Nat} (ht : C.P.underlying t = some (.slice e)) (hn : sizeT C.P e = some sz) (hsz : 0 < sz) {x v : AV} {lo hi mx : Option AV}
    (hx : x.bel h.ok) (hs : sliceA h sz x lo hi mx = some v) :
    (Instr.sliceAt t (x.val C.lk env) (lo.map (AV.val C.lk env)) (hi.map (AV.val C.lk env)) (mx.map (AV.val C.lk env))).run C.P w = .ok (v.val C.lk env) w ∧ v.bel h.ok := by
  unfold sliceA at hs
  split at hs
  · -- nil
    split at hs
    · rename_i b hb
      cases hs
      obtain ⟨l, hh, m⟩ := b
      obtain ⟨m', hr, h1, h2, h3, h4, h5, h6⟩ := bounds_run (w := w) (C := C) (env := env) hb (Nat.le_refl 0)
      refine ⟨?_, trivial⟩
      obtain rfl : m' = 0 := by omega
      obtain rfl : hh = 0 := by omega
      obtain rfl : l = 0 := by omega
      simp [Instr.sliceAt, Instr.slice, run_underlying ht, AV.val, hr, run_sizeT hn]
    · cases hs
  · -- known
    rename_i i o n c
    split at hs
    · rename_i l hh m hb
      cases hs
      obtain ⟨m', hr, h1, h2, h3, h4, h5, h6⟩ := bounds_run (w := w) (C := C) (env := env) hb (Nat.le_refl c)
      have hm : m' = m := by
        cases mx with
        | none => have := h6 rfl; omega
        | some _ => exact (h5 rfl).1
      subst hm
      refine ⟨?_, hx⟩
      by_cases hml : m' = l
      · simp [Instr.sliceAt, Instr.slice, run_underlying ht, AV.val, Cap.at, hr, run_sizeT hn, hml]
      · simp [Instr.sliceAt, Instr.slice, run_underlying ht, AV.val, Cap.at, hr, run_sizeT hn, hml, add_lit, Nat.add_assoc]
    · cases hs
  · -- unknown
    rename_i i o n l0
    split at hs
    · rename_i vs u hi'
      split at hs
      · rename_i hcond
        obtain ⟨rfl, ho, hle⟩ := hcond
        have hcap := unk_cap R hi' hsz ho hle
        split at hs
        · rename_i l hh m hb
          obtain ⟨m', hr, h1, h2, h3, h4, h5, h6⟩ := bounds_run (w := w) (C := C) (env := env) hb hcap.1
          cases mx with
          | some vm =>
            simp at hs
            obtain ⟨rfl, _⟩ := h5 rfl
            subst hs
            refine ⟨?_, hx⟩
            by_cases hml : m' = l
            · simp only [Option.map_some] at hr
              simp [Instr.sliceAt, Instr.slice, run_underlying ht, AV.val, Cap.at, hr, run_sizeT hn, hml]
            · simp only [Option.map_some] at hr
              simp [Instr.sliceAt, Instr.slice, run_underlying ht, AV.val, Cap.at, hr, run_sizeT hn, hml, add_lit, Nat.add_assoc]
          | none =>
            simp at hs
            obtain ⟨hlh, rfl⟩ := hs
            obtain ⟨rfl, _⟩ := h6 rfl
            refine ⟨?_, hx⟩
            simp only [Option.map_none] at hr
            have hsub : (env i).cap - (l0 + l) = (env i).cap - l0 - l := by omega
            rcases hlh with hlh | rfl
            · have hne : ¬ ((env i).cap - l0 = l) := by omega
              simp [Instr.sliceAt, Instr.slice, run_underlying ht, AV.val, Cap.at, hr, run_sizeT hn, hne, add_lit, Nat.add_assoc, hsub]
            · simp [Instr.sliceAt, Instr.slice, run_underlying ht, AV.val, Cap.at, hr, run_sizeT hn, add_lit]
        · cases hs
      · cases hs
    · cases hs
  · cases hs

end
end Go.Ae
