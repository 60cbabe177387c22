/- What an operation looks at and writes: it hangs on no other block. -/
import Derived.Test.YtbmoggkjijnajaaAeRange
namespace Go.Ae

theorem Heap.ext' {a b : Heap} (hs : a.size = b.size) (hg : ∀ i, a.get i = b.get i) : a = b := by
  cases a; cases b
  simp only at hs hg
  subst hs
  have : (fun i => _) = _ := funext hg
  congr

/-- How an operation stands to the heap. -/
structure Local (op : AOp) (ev : AOpd → AV) (n : Nat) (h : Heap) (v : AV) (h' : Heap) : Prop where
  size : h'.size = h.size
  live : ∀ i ∈ footA op ev n, i = n ∨ h.get i ≠ none
  sub : ∀ i ∈ wrA op ev n, i ∈ footA op ev n
  off : ∀ i, i ∉ wrA op ev n → h'.get i = h.get i
  grow : ∀ i, h.get i ≠ none → h'.get i ≠ none
  re : ∀ h2 : Heap, h2.size = h.size → (∀ i ∈ footA op ev n, h2.get i = h.get i) →
    ∃ h2', aOp (some n) op ev h2 = some (v, h2') ∧ h2'.size = h.size ∧ (∀ i ∈ wrA op ev n, h2'.get i = h'.get i) ∧ (∀ i, i ∉ wrA op ev n → h2'.get i = h2.get i)

theorem get_putE (h : Heap) (i j : Nat) (b : ABlk) : (h.put i b).get j = if j = i then (if i < h.size then some b else none) else h.get j := rfl

theorem put_grow {h : Heap} {i : Nat} {b : ABlk} {j : Nat} (hj : h.get j ≠ none) : (h.put i b).get j ≠ none := by
  have hlt : j < h.size := by
    rcases Nat.lt_or_ge j h.size with x | x
    · exact x
    · exact absurd (h.wf j x) hj
  rw [get_putE]
  by_cases e : j = i
  · subst e; rw [if_pos rfl, if_pos hlt]; simp
  · rw [if_neg e]; exact hj

theorem room_same {h h2 : Heap} {n : Nat} (hs : h2.size = h.size) (hg : h2.get n = h.get n) : h2.room (some n) = h.room (some n) := by
  simp [Heap.room, hs, hg]

/-- An operation that puts one block. -/
theorem Local.one {op : AOp} {ev : AOpd → AV} {n i : Nat} {h : Heap} {v : AV} {b : ABlk} (hw : wrA op ev n = [i]) (hsub : i ∈ footA op ev n) (hlive : ∀ j ∈ footA op ev n, j = n ∨ h.get j ≠ none)
    (hre : ∀ h2 : Heap, h2.size = h.size → (∀ j ∈ footA op ev n, h2.get j = h.get j) → aOp (some n) op ev h2 = some (v, h2.put i b)) : Local op ev n h v (h.put i b) := by
  refine ⟨rfl, hlive, fun j hj => ?_, fun j hj => ?_, fun j hj => put_grow hj, fun h2 hs hg => ⟨h2.put i b, hre h2 hs hg, hs, fun j hj => ?_, fun j hj => ?_⟩⟩
  · rw [hw] at hj; simp at hj; subst hj; exact hsub
  · rw [hw] at hj; simp at hj; rw [get_putE, if_neg hj]
  · rw [hw] at hj; simp at hj; subst hj; simp [get_putE, hs]
  · rw [hw] at hj; simp at hj; rw [get_putE, if_neg hj]

/-- An operation that leaves the heap as it is. -/
theorem Local.none {op : AOp} {ev : AOpd → AV} {n : Nat} {h : Heap} {v : AV} (hsub : ∀ i ∈ wrA op ev n, i ∈ footA op ev n) (hlive : ∀ j ∈ footA op ev n, j = n ∨ h.get j ≠ .none)
    (hre : ∀ h2 : Heap, h2.size = h.size → (∀ j ∈ footA op ev n, h2.get j = h.get j) → aOp (some n) op ev h2 = some (v, h2)) : Local op ev n h v h :=
  ⟨rfl, hlive, hsub, fun _ _ => rfl, fun _ => id, fun h2 hs hg => ⟨h2, hre h2 hs hg, hs, fun j hj => hg j (hsub j hj), fun _ _ => rfl⟩⟩

theorem loadA_foot {h h2 : Heap} {agg : Bool} {k : Nat} {x v : AV} (h1 : loadA h agg k x = some v) : (∀ i ∈ x.ids, h.get i ≠ none) ∧ ((∀ i ∈ x.ids, h2.get i = h.get i) → loadA h2 agg k x = some v) := by
  unfold loadA at h1
  split at h1
  · rename_i i o
    split at h1
    · rename_i vs wr u hi
      refine ⟨by simp [AV.ids, hi], fun hg => ?_⟩
      have := hg i (by simp [AV.ids])
      simp only [loadA, this, hi]; exact h1
    · cases h1
  · cases h1

theorem sliceA_foot {h h2 : Heap} {sz : Nat} {x v : AV} {lo hi mx : Option AV} (h1 : sliceA h sz x lo hi mx = some v) : (∀ i ∈ x.rids, h.get i ≠ none) ∧ ((∀ i ∈ x.rids, h2.get i = h.get i) → sliceA h2 sz x lo hi mx = some v) := by
  unfold sliceA at h1
  split at h1
  · exact ⟨by simp [AV.rids], fun _ => h1⟩
  · exact ⟨by simp [AV.rids], fun _ => h1⟩
  · rename_i i o n l0
    split at h1
    · rename_i vs u hii
      refine ⟨by simp [AV.rids, hii], fun hg => ?_⟩
      have := hg i (by simp [AV.rids])
      simp only [sliceA, this, hii]; exact h1
    · cases h1
  · cases h1

theorem contentA_foot {h h2 : Heap} {sz : Nat} {x : AV} {r : Nat × List AV} (h1 : contentA h sz x = some r) : (∀ i ∈ x.ids, h.get i ≠ none) ∧ ((∀ i ∈ x.ids, h2.get i = h.get i) → contentA h2 sz x = some r) := by
  unfold contentA at h1
  split at h1
  · exact ⟨by simp [AV.ids], fun _ => h1⟩
  · rename_i i o n c
    split at h1
    · rename_i vs wr u hi
      refine ⟨by simp [AV.ids, hi], fun hg => ?_⟩
      have := hg i (by simp [AV.ids])
      simp only [contentA, this, hi]; exact h1
    · cases h1
  · cases h1

theorem pureA_foot {op : AOp} {ev : AOpd → AV} {n : Nat} {h h2 : Heap} {v : AV} (hc : cls op ≤ 1) (h1 : pureA op ev h = some v) : (∀ i ∈ footA op ev n, h.get i ≠ none) ∧ ((∀ i ∈ footA op ev n, h2.get i = h.get i) → pureA op ev h2 = some v) := by
  cases op with
  | load agg k x => exact loadA_foot h1
  | slice sz x lo hi mx => exact sliceA_foot h1
  | _ => exact ⟨by simp [footA] <;> simp [cls] at hc, fun _ => h1⟩

theorem aOp_pure {op : AOp} (hc : cls op ≤ 1) (nid : Option Nat) (ev : AOpd → AV) (h : Heap) : aOp nid op ev h = (pureA op ev h).map fun v => (v, h) := by
  cases op <;> first | rfl | (simp [cls] at hc)

theorem foot0 {op : AOp} (hc : cls op = 0) (ev : AOpd → AV) (n : Nat) : footA op ev n = [] := by cases op <;> first | rfl | (simp [cls] at hc)
theorem wr1 {op : AOp} (hc : cls op ≤ 1) (ev : AOpd → AV) (n : Nat) : wrA op ev n = [] := by cases op <;> first | rfl | (simp [cls] at hc)
theorem foot5 {op : AOp} (hc : cls op = 5) (ev : AOpd → AV) (n : Nat) : footA op ev n = [n] := by cases op <;> first | rfl | (simp [cls] at hc)
theorem wr5 {op : AOp} (hc : cls op = 5) (ev : AOpd → AV) (n : Nat) : wrA op ev n = [n] := by cases op <;> first | rfl | (simp [cls] at hc)

theorem room_none {h : Heap} {n : Nat} (hr : h.room (some n) = true) : h.get n = none ∧ n < h.size := by simpa [Heap.room] using hr

/-- A new block: what it holds hangs on nothing. -/
theorem aOp_new {op : AOp} (hc : cls op = 5) {ev : AOpd → AV} {n : Nat} {h : Heap} {v : AV} {h' : Heap} (h1 : aOp (some n) op ev h = some (v, h')) :
    h.get n = none ∧ n < h.size ∧ ∃ cs, h' = h.put n (.cells cs true 0) ∧ ∀ h2 : Heap, n < h2.size → h2.get n = none → aOp (some n) op ev h2 = some (v, h2.put n (.cells cs true 0)) := by
  have hroom : ∀ h2 : Heap, n < h2.size → h2.get n = none → h2.room (some n) = true := by
    intro h2 a b; simp [Heap.room, a, b]
  cases op <;> simp [cls] at hc
  case alloc z =>
    simp only [aOp] at h1
    split at h1
    · rename_i hr
      cases h1
      have q := room_none hr
      exact ⟨q.1, q.2, _, rfl, fun h2 a b => by simp [aOp, hroom h2 a b]; exact ⟨rfl, rfl⟩⟩
    · cases h1
  case box x =>
    simp only [aOp] at h1
    split at h1
    · rename_i hr
      cases h1
      have q := room_none hr
      exact ⟨q.1, q.2, _, rfl, fun h2 a b => by simp [aOp, hroom h2 a b]; exact ⟨rfl, rfl⟩⟩
    · cases h1
  case buildSlice k z parts =>
    simp only [aOp] at h1
    split at h1
    · rename_i cs hcs
      split at h1
      · rename_i hr
        cases h1
        have q := room_none hr
        exact ⟨q.1, q.2, _, rfl, fun h2 a b => by simp [aOp, hcs, hroom h2 a b]; exact ⟨rfl, rfl⟩⟩
      · cases h1
    · cases h1
  case makeSlice z by_ l c =>
    simp only [aOp] at h1
    split at h1
    · rename_i l' c' hl hcc
      split at h1
      · rename_i hr
        cases h1
        have q := room_none hr.2.2.2.2
        refine ⟨q.1, q.2, _, rfl, fun h2 a b => ?_⟩
        simp only [aOp, hl, hcc]
        rw [if_pos ⟨hr.1, hr.2.1, hr.2.2.1, hr.2.2.2.1, hroom h2 a b⟩]; rfl
      · cases h1
    · cases h1

theorem storeA_foot {ev : AOpd → AV} {n k : Nat} {x y : AOpd} {h h' : Heap} {v : AV} (h1 : aOp (some n) (.store k x y) ev h = some (v, h')) : Local (.store k x y) ev n h v h' := by
  simp only [aOp, Option.map_eq_some_iff, Prod.mk.injEq] at h1
  obtain ⟨h'', h1, rfl, rfl⟩ := h1
  unfold storeA at h1
  split at h1
  · rename_i i o hx
    split at h1
    · rename_i vs u hi
      split at h1
      · rename_i hcond
        cases h1
        refine Local.one (by simp [wrA, hx, AV.ids]) (by simp [footA, hx, AV.ids]) (by simp [footA, hx, AV.ids, hi]) fun h2 hs hg => ?_
        have := hg i (by simp [footA, hx, AV.ids])
        simp only [aOp, storeA, hx, this, hi, if_pos hcond]; rfl
      · cases h1
    · cases h1
  · cases h1

theorem copyA_foot {ev : AOpd → AV} {n k : Nat} {x y : AOpd} {h h' : Heap} {v : AV} (h1 : aOp (some n) (.copy k x y) ev h = some (v, h')) : Local (.copy k x y) ev n h v h' := by
  simp only [aOp] at h1
  unfold copyA at h1
  split at h1
  · rename_i mc hx hy
    cases h1
    have q := contentA_foot (h2 := h) hy
    refine Local.none (by simp [wrA, hx, AV.ids]) (fun j hj => .inr (q.1 j (by simpa [footA, hx, AV.ids] using hj))) fun h2 hs hg => ?_
    have := (contentA_foot (h2 := h2) hy).2 fun j hj => hg j (by simpa [footA, hx, AV.ids] using hj)
    simp only [aOp, copyA, hx, this]
  · rename_i i o m c mm cs hx hy
    split at h1
    · rename_i vs u hi
      dsimp only at h1
      split at h1
      · rename_i hcond
        cases h1
        have q := contentA_foot (h2 := h) hy
        refine Local.one (by simp [wrA, hx, AV.ids]) (by simp [footA, hx, AV.ids]) (fun j hj => .inr ?_) fun h2 hs hg => ?_
        · simp only [footA, hx, AV.ids, List.singleton_append, List.mem_cons] at hj
          rcases hj with rfl | hj
          · simp [hi]
          · exact q.1 j hj
        · have e1 := hg i (by simp [footA, hx, AV.ids])
          have e2 := (contentA_foot (h2 := h2) hy).2 fun j hj => hg j (by simp only [footA, hx, AV.ids, List.singleton_append, List.mem_cons]; exact .inr hj)
          simp only [aOp, copyA, hx, e2, e1, hi, if_pos hcond]
      · cases h1
    · cases h1
  · cases h1


/-- What 'append' does to the heap: by the blocks of the slice and of the place kept. -/
theorem appendA_foot {n sz bytes m : Nat} {s v : AV} {news : List AV} {h h' : Heap} (h1 : appendA h (some n) sz bytes s m news = some (v, h')) :
    h'.size = h.size ∧ (∀ i ∈ s.ids, h.get i ≠ none) ∧ (∀ i, i ∉ s.ids ++ [n] → h'.get i = h.get i) ∧ (∀ i, h.get i ≠ none → h'.get i ≠ none) ∧
    ∀ h2 : Heap, h2.size = h.size → (∀ i ∈ s.ids ++ [n], h2.get i = h.get i) → ∃ h2', appendA h2 (some n) sz bytes s m news = some (v, h2') ∧ h2'.size = h.size ∧ (∀ i ∈ s.ids ++ [n], h2'.get i = h'.get i) ∧ (∀ i, i ∉ s.ids ++ [n] → h2'.get i = h2.get i) := by
  have keepit : ∀ (h2 : Heap), h2.size = h.size → (∀ i ∈ s.ids ++ [n], h2.get i = h.get i) → h' = h → (appendA h2 (some n) sz bytes s m news = some (v, h2)) → ∃ h2', appendA h2 (some n) sz bytes s m news = some (v, h2') ∧ h2'.size = h.size ∧ (∀ i ∈ s.ids ++ [n], h2'.get i = h'.get i) ∧ (∀ i, i ∉ s.ids ++ [n] → h2'.get i = h2.get i) := by
    intro h2 hs hg he hr
    subst he
    exact ⟨h2, hr, hs, hg, fun _ _ => rfl⟩
  have puts : ∀ (b : ABlk) (h2 : Heap) (j : Nat), j ∈ s.ids ++ [n] → h2.size = h.size → (∀ i ∈ s.ids ++ [n], h2.get i = h.get i) → h' = h.put j b → (appendA h2 (some n) sz bytes s m news = some (v, h2.put j b)) → ∃ h2', appendA h2 (some n) sz bytes s m news = some (v, h2') ∧ h2'.size = h.size ∧ (∀ i ∈ s.ids ++ [n], h2'.get i = h'.get i) ∧ (∀ i, i ∉ s.ids ++ [n] → h2'.get i = h2.get i) := by
    intro b h2 j hj hs hg he hr
    subst he
    refine ⟨_, hr, hs, fun i hi => ?_, fun i hi => ?_⟩
    · rw [get_putE, get_putE, hs, hg i hi]
    · rw [get_putE, if_neg]; intro e; subst e; exact hi hj
  have off1 : ∀ (b : ABlk) (j : Nat), j ∈ s.ids ++ [n] → h' = h.put j b → ∀ i, i ∉ s.ids ++ [n] → h'.get i = h.get i := by
    intro b j hj he i hi
    subst he
    rw [get_putE, if_neg]; intro e; subst e; exact hi hj
  have hnn : n ∈ s.ids ++ [n] := by simp
  unfold appendA at h1
  split at h1
  · split at h1
    · rename_i hm
      cases h1
      exact ⟨rfl, by simp [AV.ids], fun _ _ => rfl, fun _ => id, fun h2 hs hg => keepit h2 hs hg rfl (by simp [appendA, hm])⟩
    · rename_i hm
      split at h1
      · rename_i hc
        cases h1
        refine ⟨rfl, by simp [AV.ids], off1 _ n hnn rfl, fun _ => put_grow, fun h2 hs hg => puts _ h2 n hnn hs hg rfl ?_⟩
        simp only [appendA, if_neg hm, room_same hs (hg n hnn), if_pos hc]; rfl
      · cases h1
  · rename_i i o k c
    split at h1
    · rename_i hm
      split at h1
      · rename_i hc
        cases h1
        have hi : i ∈ (AV.slice i o k (.known c)).ids ++ [n] := by simp [AV.ids]
        refine ⟨rfl, fun j hj => ?_, fun _ _ => rfl, fun _ => id, fun h2 hs hg => keepit h2 hs hg rfl ?_⟩
        · simp [AV.ids] at hj; subst hj; intro e; simp [e] at hc
        · simp only [appendA, if_pos hm, hg i hi, if_pos hc]
      · cases h1
    · rename_i hm
      have hi : i ∈ (AV.slice i o k (.known c)).ids ++ [n] := by simp [AV.ids]
      split at h1
      · rename_i vs u hb
        have hl : ∀ j ∈ (AV.slice i o k (.known c)).ids, h.get j ≠ none := by intro j hj; simp [AV.ids] at hj; subst hj; simp [hb]
        split at h1
        · rename_i hle
          split at h1
          · rename_i hroom
            split at h1
            · rename_i hc
              cases h1
              refine ⟨rfl, hl, off1 _ i hi rfl, fun _ => put_grow, fun h2 hs hg => puts _ h2 i hi hs hg rfl ?_⟩
              simp only [appendA, if_neg hm, hg i hi, hb, if_pos hle, if_pos hroom, if_pos hc]
            · cases h1
          · rename_i hroom
            split at h1
            · rename_i hc
              cases h1
              refine ⟨rfl, hl, off1 _ n hnn rfl, fun _ => put_grow, fun h2 hs hg => puts _ h2 n hnn hs hg rfl ?_⟩
              simp only [appendA, if_neg hm, hg i hi, hb, if_pos hle, if_neg hroom, room_same hs (hg n hnn), if_pos hc]; rfl
            · cases h1
        · cases h1
      · rename_i vs u hb
        have hl : ∀ j ∈ (AV.slice i o k (.known c)).ids, h.get j ≠ none := by intro j hj; simp [AV.ids] at hj; subst hj; simp [hb]
        split at h1
        · rename_i hc
          cases h1
          refine ⟨rfl, hl, off1 _ n hnn rfl, fun _ => put_grow, fun h2 hs hg => puts _ h2 n hnn hs hg rfl ?_⟩
          simp only [appendA, if_neg hm, hg i hi, hb, room_same hs (hg n hnn), if_pos hc]; rfl
        · cases h1
      · cases h1
  · rename_i i o k l
    have hi : i ∈ (AV.slice i o k (.unk l)).ids ++ [n] := by simp [AV.ids]
    split at h1
    · rename_i vs u hb
      have hl : ∀ j ∈ (AV.slice i o k (.unk l)).ids, h.get j ≠ none := by intro j hj; simp [AV.ids] at hj; subst hj; simp [hb]
      split at h1
      · rename_i hc
        cases h1
        refine ⟨rfl, hl, fun j hj => ?_, fun _ hj => put_grow (put_grow hj), fun h2 hs hg => ⟨(h2.put i .dead).put n (.cells (cut vs o (k * sz) ++ news) true sz), ?_, hs, fun j hj => ?_, fun j hj => ?_⟩⟩
        · have h1 : j ≠ i := by intro e; subst e; exact hj hi
          have h2 : j ≠ n := by intro e; subst e; exact hj hnn
          show ((h.put i .dead).put n _).get j = _
          rw [get_putE, if_neg h2, get_putE, if_neg h1]
        · simp only [appendA, hg i hi, hb, room_same hs (hg n hnn), if_pos hc]; rfl
        · show _ = ((h.put i .dead).put n _).get j
          simp only [get_putE, Heap.size_put, hs, hg j hj]; rfl
        · have h1 : j ≠ i := by intro e; subst e; exact hj hi
          have h2 : j ≠ n := by intro e; subst e; exact hj hnn
          rw [get_putE, if_neg h2, get_putE, if_neg h1]
      · rename_i hn
        split at h1
        · rename_i hc
          cases h1
          refine ⟨rfl, hl, fun _ _ => rfl, fun _ => id, fun h2 hs hg => keepit h2 hs hg rfl ?_⟩
          simp only [appendA, hg i hi, hb, room_same hs (hg n hnn), if_neg hn, if_pos hc]
        · cases h1
    · cases h1
  · cases h1

theorem aOp_local {op : AOp} (hc : cls op ≠ 2) {ev : AOpd → AV} {n : Nat} {h h' : Heap} {v : AV} (h1 : aOp (some n) op ev h = some (v, h')) : Local op ev n h v h' := by
  by_cases h01 : cls op ≤ 1
  · rw [aOp_pure h01] at h1
    simp only [Option.map_eq_some_iff, Prod.mk.injEq] at h1
    obtain ⟨v', h1, rfl, rfl⟩ := h1
    refine Local.none (by simp [wr1 h01]) (fun j hj => .inr ((pureA_foot (h2 := h) h01 h1).1 j hj)) fun h2 hs hg => ?_
    rw [aOp_pure h01, (pureA_foot (n := n) (h2 := h2) h01 h1).2 hg]; rfl
  by_cases h5 : cls op = 5
  · obtain ⟨hn, hlt, cs, rfl, hre⟩ := aOp_new h5 h1
    refine Local.one (wr5 h5 ev n) (by simp [foot5 h5]) (by simp [foot5 h5]) fun h2 hs hg => hre h2 (by rw [hs]; exact hlt) ?_
    rw [hg n (by simp [foot5 h5]), hn]
  cases op <;> simp [cls] at hc h01 h5
  case store k x y => exact storeA_foot h1
  case copy k x y => exact copyA_foot h1
  case append sz by_ s x =>
    simp only [aOp] at h1
    split at h1
    · rename_i m news hcon
      obtain ⟨a1, a2, a3, a5, a4⟩ := appendA_foot h1
      have q := contentA_foot (h2 := h) hcon
      refine ⟨a1, fun i hi => ?_, fun i hi => ?_, fun i hi => a3 i hi, a5, fun h2 hs hg => ?_⟩
      · simp only [footA, List.mem_append, List.mem_singleton] at hi
        rcases hi with (hi | hi) | hi
        · exact .inr (a2 i hi)
        · exact .inr (q.1 i hi)
        · exact .inl hi
      · simp only [wrA, footA, List.mem_append, List.mem_singleton] at hi ⊢
        rcases hi with hi | hi
        · exact .inl (.inl hi)
        · exact .inr hi
      · obtain ⟨h2', b1, b2, b3, b4⟩ := a4 h2 hs fun i hi => hg i (by
          simp only [footA, List.mem_append, List.mem_singleton] at hi ⊢
          rcases hi with hi | hi
          · exact .inl (.inl hi)
          · exact .inr hi)
        refine ⟨h2', ?_, b2, b3, b4⟩
        simp only [aOp, (contentA_foot (h2 := h2) hcon).2 fun i hi => hg i (by simp only [footA, List.mem_append, List.mem_singleton]; exact .inl (.inr hi)), b1]
    · cases h1
  case appendMake z by_ s x =>
    simp only [aOp] at h1
    split at h1
    · rename_i k m hx
      split at h1
      · rename_i hm
        obtain ⟨a1, a2, a3, a5, a4⟩ := appendA_foot h1
        refine ⟨a1, fun i hi => ?_, fun i hi => hi, fun i hi => a3 i hi, a5, fun h2 hs hg => ?_⟩
        · simp only [footA, List.mem_append, List.mem_singleton] at hi
          rcases hi with hi | hi
          · exact .inr (a2 i hi)
          · exact .inl hi
        · obtain ⟨h2', b1, b2, b3, b4⟩ := a4 h2 hs fun i hi => hg i hi
          exact ⟨h2', by simp only [aOp, hx, if_pos hm, b1], b2, b3, b4⟩
      · cases h1
    · cases h1
  case refuse s => simp [aOp, pureA] at h1

end Go.Ae
