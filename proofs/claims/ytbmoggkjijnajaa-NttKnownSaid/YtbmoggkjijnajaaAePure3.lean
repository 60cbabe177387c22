/- Literals of structs and arrays; then the theorem on all operations that only read. -/
import Derived.Test.YtbmoggkjijnajaaAePure2
namespace Go.Ae

theorem setMany (off : Nat) : ∀ (cs : List Value) (k : Nat) (A : Array Value), off + k + cs.length ≤ A.size →
    (cs.zipIdx k).foldl (fun a p => a.setIfInBounds (off + p.2) p.1) A = (A.toList.take (off + k) ++ cs ++ A.toList.drop (off + k + cs.length)).toArray
  | [], k, A, _ => by simp
  | c :: cs, k, A, hk => by
    have ih := setMany off cs (k + 1) (A.setIfInBounds (off + k) c) (by simp at hk ⊢; omega)
    simp only [List.zipIdx_cons, List.foldl_cons]
    rw [ih]
    congr 1
    have e := list_seg_step A.toList (off + k) c cs (by simp at hk ⊢; omega)
    simpa [Array.toList_setIfInBounds, Nat.add_assoc] using e

inductive Parts (lk : Nat → FuncId) (env : Env) (place : Nat → Option (Nat × Nat)) : List (Nat × Value) → List (Nat × Nat × AV) → Prop
  | nil : Parts lk env place [] []
  | cons {i o n : Nat} {v : Value} {a : AV} {ps : List (Nat × Value)} {as : List (Nat × Nat × AV)} (h1 : place i = some (o, n)) (h2 : v = a.val lk env) (h3 : Parts lk env place ps as) : Parts lk env place ((i, v) :: ps) ((o, n, a) :: as)

theorem fill_spec (lk : Nat → FuncId) (env : Env) (place : Nat → Option (Nat × Nat)) : ∀ (ps : List (Nat × Value)) (as : List (Nat × Nat × AV)) (z out : List AV),
    Parts lk env place ps as → fillA z as = some out →
    Instr.fill place (z.map (AV.val lk env)).toArray ps = some (out.map (AV.val lk env)).toArray
  | [], as, z, out, hf, ho => by cases hf; cases ho; rfl
  | (i, v) :: ps, as, z, out, hf, ho => by
    cases hf with
    | cons hp1 hp2 hrest =>
      rename_i o n x as'
      simp only [fillA] at ho
      split at ho
      · rename_i hc
        have ih := fill_spec lk env place ps as' _ out hrest ho
        have hcs : v.cells.size = n := by rw [hp2, cells_val]; simp [hc.1]
        simp only [Instr.fill, hp1]
        rw [if_neg (by simp [hcs]; omega)]
        have hm := setMany o v.cells.toList 0 (z.map (AV.val lk env)).toArray (by simp [hcs]; omega)
        have hfold : v.cells.zipIdx.foldl (fun cs (p : Value × Nat) => cs.setIfInBounds (o + p.2) p.1) (z.map (AV.val lk env)).toArray =
            (v.cells.toList.zipIdx 0).foldl (fun a p => a.setIfInBounds (o + p.2) p.1) (z.map (AV.val lk env)).toArray := by
          rw [← Array.foldl_toList, Array.toList_zipIdx]
        rw [show (v.cells.zipIdx.foldl (fun cs x => match x with | (c, j) => cs.setIfInBounds (o + j) c) (z.map (AV.val lk env)).toArray) =
          v.cells.zipIdx.foldl (fun cs (p : Value × Nat) => cs.setIfInBounds (o + p.2) p.1) (z.map (AV.val lk env)).toArray from rfl, hfold, hm]
        rw [← ih]
        congr 2
        rw [hp2, cells_val]
        simp [hc.1, List.map_take, List.map_drop]
      · cases ho

theorem fillA_length : ∀ (as : List (Nat × Nat × AV)) (z out : List AV), fillA z as = some out → out.length = z.length
  | [], z, out, h => by cases h; rfl
  | (o, n, v) :: as, z, out, h => by
    simp only [fillA] at h
    split at h
    · rename_i hc
      rw [fillA_length as _ out h]
      simp; omega
    · cases h

theorem fillA_mem {p : AV → Prop} : ∀ (as : List (Nat × Nat × AV)) (z out : List AV), fillA z as = some out → (∀ x ∈ z, p x) → (∀ a ∈ as, ∀ x ∈ a.2.2.cells, p x) → ∀ x ∈ out, p x
  | [], z, out, h, hz, _ => by cases h; exact hz
  | (o, n, v) :: as, z, out, h, hz, ha => by
    simp only [fillA] at h
    split at h
    · refine fillA_mem as _ out h ?_ (fun a h' => ha a (List.mem_cons_of_mem _ h'))
      intro x hx
      rw [List.mem_append, List.mem_append] at hx
      rcases hx with (hx | hx) | hx
      · exact hz x (List.mem_of_mem_take hx)
      · exact ha _ (List.mem_cons_self ..) x hx
      · exact hz x (List.mem_of_mem_drop hx)
    · cases h

section
variable {C : Ctx} {keep : Keep} {env : Env} {h : Heap} {w : World}

theorem lowerParts_spec {ρ : Operand → Value} {ev : AOpd → AV} (hρ : ∀ x ax, lowerOpd C.inv x = some ax → ρ x = (ev ax).val C.lk env ∧ (ev ax).bel h.ok) (place : Nat → Option (Nat × Nat)) :
    ∀ (ps : List (Nat × Operand)) (as : List (Nat × Nat × AOpd)), lowerParts C.inv place ps = some as →
      Parts C.lk env place (ps.map fun p => (p.1, ρ p.2)) (as.map fun p => (p.1, p.2.1, ev p.2.2)) ∧
      ∀ a ∈ as.map (fun p => (p.1, p.2.1, ev p.2.2)), ∀ x ∈ a.2.2.cells, x.bel h.ok
  | [], as, hl => by cases hl; exact ⟨.nil, by simp⟩
  | (i, x) :: ps, as, hl => by
    unfold lowerParts at hl
    split at hl
    · rename_i o n a as' h1 h2 h3
      cases hl
      have ih := lowerParts_spec hρ place ps as' h3
      have hx := hρ x a h2
      refine ⟨.cons h1 hx.1 ih.1, ?_⟩
      intro b hb y hy
      rcases List.mem_cons.1 hb with rfl | hb
      · exact bel_cells hx.2 y hy
      · exact ih.2 b hb y hy
    · cases hl

theorem fieldPlaces_spec {P : Program} : ∀ (fs : List Field) (ps : List (Nat × Nat)), fieldPlaces P fs = some ps →
    fs.mapM (fun f => (P.info? f.type).map fun i => (f.offset, i.size)) = some ps
  | [], ps, hp => by cases hp; rfl
  | f :: fs, ps, hp => by
    unfold fieldPlaces at hp
    split at hp
    · rename_i n r h1 h2
      cases hp
      obtain ⟨i, hi, hs⟩ := sizeT_info h1
      simp [List.mapM_cons, hi, hs, fieldPlaces_spec fs r h2]
    · cases hp

theorem build_sound {ρ : Operand → Value} {ev : AOpd → AV} (hρ : ∀ x ax, lowerOpd C.inv x = some ax → ρ x = (ev ax).val C.lk env ∧ (ev ax).bel h.ok)
    {t : TypeId} {parts : Array (Nat × Operand)} {aop : AOp} (hl : lowerBuild C.P C.inv t parts = some aop) :
    ∃ z ps, aop = .build z ps ∧ ∀ out, fillA z (ps.map fun p => (p.1, p.2.1, ev p.2.2)) = some out →
      (Instr.build t (parts.map fun (i, x) => (i, ρ x))).run C.P w = .ok ((AV.agg out).val C.lk env) w ∧ (AV.agg out).bel h.ok := by
  have hparts : (parts.map fun (x : Nat × Operand) => (x.1, ρ x.2)).toList = parts.toList.map fun p => (p.1, ρ p.2) := by simp
  unfold lowerBuild at hl
  split at hl
  · rename_i z fields hz hd
    obtain ⟨i, v, hi, hv, hs, hzv, hzl, hzb, _⟩ := zcells_info hz C.lk env h.ok
    have hzc : v.cells = (z.map (AV.val C.lk env)).toArray := by rw [hzv]
    split at hl
    · rename_i ps hps
      simp only [Option.map_eq_some_iff] at hl
      obtain ⟨as, has, rfl⟩ := hl
      refine ⟨z, as, rfl, fun out hout => ?_⟩
      have hp := lowerParts_spec hρ _ _ _ has
      have hfill := fill_spec C.lk env _ _ _ z out hp.1 hout
      refine ⟨?_, (bels_iff _ _).2 (fillA_mem _ _ _ hout hzb hp.2)⟩
      have hplace : (fun (i : Nat) => ps.toArray[i]?) = fun (i : Nat) => ps[i]? := by funext i; simp
      have hb : C.P.built t (parts.map fun (x : Nat × Operand) => (x.1, ρ x.2)).toList = some (out.map (AV.val C.lk env)).toArray := by
        unfold Program.built
        rw [hi, hd]
        simp only [hv, fieldPlaces_spec _ _ hps, hzc, hparts, hplace, hfill]
      rw [show (parts.map fun (i, x) => (i, ρ x)) = parts.map fun (x : Nat × Operand) => (x.1, ρ x.2) from rfl, run_build w t _ _ hb]
      simp [AV.val, vals_eq]
    · cases hl
  · rename_i z ln e hz hd
    obtain ⟨i, v, hi, hv, hs, hzv, hzl, hzb, _⟩ := zcells_info hz C.lk env h.ok
    have hzc : v.cells = (z.map (AV.val C.lk env)).toArray := by rw [hzv]
    split at hl
    · rename_i n hn
      simp only [Option.map_eq_some_iff] at hl
      obtain ⟨as, has, rfl⟩ := hl
      refine ⟨z, as, rfl, fun out hout => ?_⟩
      have hp := lowerParts_spec hρ _ _ _ has
      have hfill := fill_spec C.lk env _ _ _ z out hp.1 hout
      refine ⟨?_, (bels_iff _ _).2 (fillA_mem _ _ _ hout hzb hp.2)⟩
      obtain ⟨ie, hie, hse⟩ := sizeT_info hn
      have hb : C.P.built t (parts.map fun (x : Nat × Operand) => (x.1, ρ x.2)).toList = some (out.map (AV.val C.lk env)).toArray := by
        unfold Program.built
        rw [hi, hd]
        simp only [hv, hie, hse, hzc, hparts, hfill]
      rw [show (parts.map fun (i, x) => (i, ρ x)) = parts.map fun (x : Nat × Operand) => (x.1, ρ x.2) from rfl, run_build w t _ _ hb]
      simp [AV.val, vals_eq]
    · cases hl
  · cases hl

/-- What is asked of an operation's run: it gives the value, in the same world. -/
def PureRun (C : Ctx) (env : Env) (h : Heap) (w : World) (ρ : Operand → Value) (o : Oper) (v : AV) : Prop :=
  (execOp ρ o).run C.P w = .ok (.value (v.val C.lk env)) w ∧ v.bel h.ok

theorem mem_bel {h : Heap} {vs : List AV} (hb : AV.bels h.ok vs) {i : Nat} {v : AV} (hv : vs[i]? = some v) : v.bel h.ok := (bels_iff _ _).1 hb v (List.mem_of_getElem? hv)

theorem lowerOpt_spec {ρ : Operand → Value} {ev : AOpd → AV} (hρ : ∀ x ax, lowerOpd C.inv x = some ax → ρ x = (ev ax).val C.lk env ∧ (ev ax).bel h.ok)
    {x : Option Operand} {ax : Option AOpd} (hx : lowerOpt C.inv x = some ax) : x.map ρ = (ax.map ev).map (AV.val C.lk env) := by
  cases x with
  | none => cases hx; rfl
  | some x =>
    simp only [lowerOpt, Option.map_eq_some_iff] at hx
    obtain ⟨a, ha, rfl⟩ := hx
    simp [(hρ x a ha).1]

end
end Go.Ae
