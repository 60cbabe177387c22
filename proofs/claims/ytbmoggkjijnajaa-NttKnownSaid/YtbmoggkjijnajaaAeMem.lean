/- The operations that make or write memory. -/
import Derived.Test.YtbmoggkjijnajaaAePure4
namespace Go.Ae

theorem seg_get {α : Type} (l cs : List α) (o k : Nat) (h : o + cs.length ≤ l.length) : (l.take o ++ cs ++ l.drop (o + cs.length))[k]? = if k < o then l[k]? else if k < o + cs.length then cs[k - o]? else l[k]? := by
  rw [List.append_assoc, List.getElem?_append, List.length_take, Nat.min_eq_left (by omega)]
  by_cases h1 : k < o
  · simp [h1]
  · simp only [h1, if_false]
    rw [List.getElem?_append]
    by_cases h2 : k < o + cs.length
    · rw [if_pos (by omega), if_pos h2]
    · rw [if_neg (by omega), if_neg h2, List.getElem?_drop]
      congr 1; omega

theorem splice_get (vs cs : List AV) (o k : Nat) (h : o + cs.length ≤ vs.length) : (splice vs o cs)[k]? = if k < o then vs[k]? else if k < o + cs.length then cs[k - o]? else vs[k]? := by
  unfold splice
  split
  · rename_i c
    simp only [List.length_singleton] at h ⊢
    rw [List.getElem?_set]
    by_cases h1 : k < o
    · rw [if_neg (by omega), if_pos h1]
    · rw [if_neg h1]
      by_cases h2 : k < o + 1
      · obtain rfl : k = o := by omega
        rw [if_pos rfl, if_pos (by omega), if_pos (by omega)]
        simp
      · rw [if_neg (by omega), if_neg h2]
  · exact seg_get vs cs o k h

theorem splice_length (vs cs : List AV) (o : Nat) (h : o + cs.length ≤ vs.length) : (splice vs o cs).length = vs.length := by
  unfold splice
  split
  · simp
  · simp; omega

theorem splice_mem {vs cs : List AV} {o : Nat} {v : AV} (hv : v ∈ splice vs o cs) : v ∈ vs ∨ v ∈ cs := by
  unfold splice at hv
  split at hv
  · rcases List.mem_or_eq_of_mem_set hv with x | x
    · exact .inl x
    · exact .inr (by simp [x])
  · rw [List.mem_append, List.mem_append] at hv
    rcases hv with (x | x) | x
    · exact .inl (List.mem_of_mem_take x)
    · exact .inr x
    · exact .inl (List.mem_of_mem_drop x)

theorem one_val' (lk : Nat → FuncId) (env : Env) (v : AV) : (v.val lk env).oneCell' = v.one := by
  cases v <;> rfl

section
variable {C : Ctx} {keep : Keep} {env : Env} {h : Heap} {w : World}

/-- What is asked of an operation's run, memory and all. -/
def OpRun (C : Ctx) (keep : Keep) (env : Env) (h : Heap) (w : World) (nid : Option Nat) (run : Result Next) (v : AV) (h' : Heap) : Prop :=
  ∃ env' w' V, run = .ok V w' ∧ (V = .value (v.val C.lk env') ∨ (V = .skip ∧ v = .undef)) ∧ Rel C keep env' h' w' ∧ KeepW keep w w' ∧ Ext h env env' ∧ HGrow h h' ∧
    (∀ i, i < h.size → nid ≠ some i → (h'.get i).isSome = (h.get i).isSome) ∧ v.bel h'.ok

theorem same_new {nid : Option Nat} (hr : h.room nid = true) (b : ABlk) (i : Nat) (hi : i < h.size) (hn : nid ≠ some i) : ((h.new nid b).get i).isSome = (h.get i).isSome := by
  rw [get_new hr, if_neg]
  intro e
  cases nid with
  | none => simp [Heap.nid] at e; omega
  | some n => simp [Heap.nid] at e; exact hn (by rw [e])

theorem keepW_drew (keep : Keep) (w : World) : KeepW keep w w.drew := ⟨rfl, rfl, rfl, Nat.le_refl _, fun _ _ => rfl⟩

/-- A new row of cells. -/
theorem newRow_ok (R : Rel C keep env h w) {nid : Option Nat} (hr : h.room nid = true) (vs : List AV) (u cap : Nat) (cur : Array Value) (t : TypeId)
    (hcur : ∀ (k : Nat) (v : AV), vs[k]? = some v → cur[k]? = some (v.val C.lk env)) (hcap : 0 < u → vs.length ≤ cap * u ∧ cap * u ≤ cur.size) (hb : ∀ v ∈ vs, v.bel h.ok) :
    Rel C keep (updE env (h.nid nid) ⟨w.heap.size, 0, cap⟩) (h.new nid (.cells vs true u)) (w.alloc (.cells cur t)) ∧ KeepW keep w (w.alloc (.cells cur t)) ∧ Ext h env (updE env (h.nid nid) ⟨w.heap.size, 0, cap⟩) := by
  have hn := room_spec hr
  have hx := ext_updE (h := h) hn env ⟨w.heap.size, 0, cap⟩
  have hok : ∀ j, h.ok j → (h.new nid (.cells vs true u)).ok j := fun j hj => (ok_new hr).2 (.inr hj)
  have A := R.alloc hr (b := .cells vs true u) ⟨w.heap.size, 0, cap⟩ rfl (.cells cur t) (fun v hv => Ae.bel_mono hok v (hb v hv))
    ⟨cur, t, by rw [heap_alloc_get, if_pos rfl], fun k v hk => by rw [hx.val (hb v (List.mem_of_getElem? hk)), Nat.zero_add]; exact hcur k v hk, fun hu => by simpa using hcap hu⟩
  exact ⟨A.1, A.2, hx⟩

theorem map_get (lk : Nat → FuncId) (env : Env) (vs : List AV) (k : Nat) (v : AV) (hk : vs[k]? = some v) : (vs.map (AV.val lk env)).toArray[k]? = some (v.val lk env) := by
  simp [hk]

theorem alloc_sound (R : Rel C keep env h w) {nid : Option Nat} (hr : h.room nid = true) (vs : List AV) (hb : ∀ v ∈ vs, v.bel h.ok) (t : TypeId) :
    OpRun C keep env h w nid (.ok (.value (.pointer (some ⟨w.heap.size, 0, none⟩))) (w.alloc (.cells (vs.map (AV.val C.lk env)).toArray t))) (.ptr (h.nid nid) 0) (h.new nid (.cells vs true 0)) := by
  have A := newRow_ok R hr vs 0 0 (vs.map (AV.val C.lk env)).toArray t (map_get C.lk env vs) (fun x => by omega) hb
  refine ⟨_, _, _, rfl, .inl ?_, A.1, A.2.1, A.2.2, grow_new hr _, same_new hr _, ?_⟩
  · simp [AV.val, updE]
  · exact (ok_new hr).2 (.inl rfl)

/-- Writing a segment of a row. -/
theorem write_ok (R : Rel C keep env h w) {i : Nat} {vs : List AV} {u : Nat} (hi : h.get i = some (.cells vs true u)) {o : Nat} {cs : List AV} (hle : o + cs.length ≤ vs.length)
    (hone : cs.all AV.one = true) (hb : ∀ v ∈ cs, v.bel h.ok) :
    ∃ w', (storeCells ⟨(env i).blk, (env i).sh + o, none⟩ (cs.map (AV.val C.lk env)) 0).run C.P w = .ok () w' ∧
      Rel C keep env (h.put i (.cells (splice vs o cs) true u)) w' ∧ KeepW keep w w' := by
  obtain ⟨cur, t, h1, h2, h3⟩ := R.blk i _ hi
  by_cases hcs : cs = []
  · subst hcs
    have hsp : splice vs o [] = vs := by simp [splice]
    rw [hsp]
    exact ⟨w, rfl, R.write hi rfl rfl rfl rfl rfl (fun _ _ => rfl) (R.bel i _ hi) (R.blk i _ hi)⟩
  have hfit : (env i).sh + vs.length ≤ cur.size := by
    cases hv : vs.length with
    | zero => 
      have : cs.length ≠ 0 := by simp [hcs]
      omega
    | succ m =>
      have hm : m < vs.length := by omega
      have := h2 m vs[m] (List.getElem?_eq_getElem hm)
      have := (Array.getElem?_eq_some_iff.1 this).1
      omega
  have hst := run_storeCells_at C.P (env i).blk ((env i).sh + o) t (cs.map (AV.val C.lk env)) 0 cur w h1 (by simp; omega) (by
    intro v hv
    obtain ⟨a, ha, rfl⟩ := List.mem_map.1 hv
    rw [one_val']
    exact List.all_eq_true.1 hone a ha)
  refine ⟨_, hst, ?_⟩
  refine R.write hi rfl rfl rfl rfl (by simp) (fun r hr => setRow_other w _ r _ hr) ?_ ?_
  · intro v hv
    rcases splice_mem hv with x | x
    · exact R.bel i _ hi v x
    · exact hb v x
  · refine ⟨_, t, setRow_heap w _ cur _ t (0, 0) h1, fun k v hk => ?_, fun hu => ?_⟩
    · rw [splice_get _ _ _ _ hle] at hk
      simp only [List.getElem?_toArray, Nat.add_zero]
      have hl : (env i).sh + o + (cs.map (AV.val C.lk env)).length ≤ cur.toList.length := by simp; omega
      rw [seg_get _ _ _ _ hl]
      simp only [List.length_map]
      split at hk
      · rw [if_pos (by omega)]
        have := h2 k v hk
        simpa using this
      · split at hk
        · rw [if_neg (by omega), if_pos (by omega), List.getElem?_map, show (env i).sh + k - ((env i).sh + o) = k - o from by omega, hk]
          rfl
        · rw [if_neg (by omega), if_neg (by omega)]
          have := h2 k v hk
          simpa using this
    · obtain ⟨a, b⟩ := h3 hu
      rw [splice_length _ _ _ hle]
      refine ⟨a, ?_⟩
      simp only [List.size_toArray, List.length_append, List.length_take, List.length_drop, Array.length_toList, List.length_map, Nat.add_zero]
      omega

theorem storeA_sound (R : Rel C keep env h w) {t : TypeId} {n : Nat} (hn : sizeT C.P t = some n) {a v : AV} (hbv : v.bel h.ok) {h' : Heap} (hs : storeA h n a v = some h') (nid : Option Nat) :
    ∃ w', (Instr.storeAt t (a.val C.lk env) (v.val C.lk env)).run C.P w = .ok () w' ∧ Rel C keep env h' w' ∧ KeepW keep w w' ∧ HLe h h' := by
  unfold storeA at hs
  split at hs
  · rename_i i o
    split at hs
    · rename_i vs u hi
      split at hs
      · rename_i hc
        cases hs
        obtain ⟨h1, h2, h3⟩ := hc
        obtain ⟨w', hst, r1, r2⟩ := write_ok R hi (o := o) (cs := v.cells) (by omega) h3 (bel_cells hbv)
        refine ⟨w', ?_, r1, r2, hle_put hi⟩
        have hcv := cells_val C.lk env v
        have hsz : (v.val C.lk env).cells.size = n := by rw [hcv]; simp [h1]
        simp [Instr.storeAt, Instr.sureAddr, AV.val, storeVar, run_sizeT hn, hsz, hcv, hst, h1]
      · cases hs
    · cases hs
  · cases hs

theorem content_sound (R : Rel C keep env h w) {sz : Nat} {x : AV} {m : Nat} {cs : List AV} (hx : contentA h sz x = some (m, cs)) :
    (Builtin.lenOf (x.val C.lk env)).run C.P w = .ok m w ∧ (∀ v ∈ cs, v.bel h.ok) ∧ cs.length = m * sz ∧
    ((x = .nilslice ∧ m = 0 ∧ cs = []) ∨ ∃ a c, x.val C.lk env = .slice (some a) m c ∧ ∀ (j : Nat) (u : Value), (cs.map (AV.val C.lk env))[j]? = some u → w.cell? (a.add j) = some u) := by
  unfold contentA at hx
  split at hx
  · cases hx
    exact ⟨by simp [AV.val, Builtin.lenOf], by simp, by simp, .inl ⟨rfl, rfl, rfl⟩⟩
  · rename_i i o n c
    split at hx
    · rename_i vs wr u hi
      split at hx
      · rename_i hle
        cases hx
        refine ⟨by simp [AV.val, Builtin.lenOf], cut_bel R hi o (m * sz), ?_, .inr ⟨_, _, rfl, cut_cells R hi o (m * sz)⟩⟩
        simp [cut]; omega
      · cases hx
    · cases hx
  · cases hx

theorem first_sound (R : Rel C keep env h w) {sz : Nat} {x : AV} {m : Nat} {cs : List AV} (hx : contentA h sz x = some (m, cs)) (k : Nat) (hk : k ≤ m) :
    (Builtin.firstCells sz k (x.val C.lk env)).run C.P w = .ok ((cs.take (k * sz)).map (AV.val C.lk env)).toArray w := by
  obtain ⟨h1, h2, h3, h4⟩ := content_sound R hx
  rcases h4 with ⟨rfl, rfl, rfl⟩ | ⟨a, c, ha, hc⟩
  · simp [AV.val, Builtin.firstCells]
  · rw [ha]
    have hlen : ((cs.take (k * sz)).map (AV.val C.lk env)).length = k * sz := by
      have := Nat.mul_le_mul_right sz hk
      simp; omega
    have := run_loadCells_list (P := C.P) w a ((cs.take (k * sz)).map (AV.val C.lk env)) (fun j u hj => hc j u (by
      rw [List.getElem?_map] at hj ⊢
      rw [List.getElem?_take] at hj
      split at hj
      · exact hj
      · cases hj))
    rw [hlen] at this
    simp [Builtin.firstCells, this]

end
end Go.Ae
