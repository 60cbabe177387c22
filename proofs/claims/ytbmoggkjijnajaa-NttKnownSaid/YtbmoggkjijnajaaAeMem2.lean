/- append, copy, make and the literals, over abstract heaps. -/
import Derived.Test.YtbmoggkjijnajaaAeApp
namespace Go.Ae

section
variable {C : Ctx} {keep : Keep} {env : Env} {h : Heap} {w : World}

/-- As 'OpRun', for an operation that gives a value. -/
def VRun (C : Ctx) (keep : Keep) (env : Env) (h : Heap) (w : World) (nid : Option Nat) (run : Result Value) (v : AV) (h' : Heap) : Prop :=
  ∃ env' w', run = .ok (v.val C.lk env') w' ∧ Rel C keep env' h' w' ∧ KeepW keep w w' ∧ Ext h env env' ∧ HGrow h h' ∧
    (∀ i, i < h.size → nid ≠ some i → (h'.get i).isSome = (h.get i).isSome) ∧ v.bel h'.ok

theorem VRun.same (R : Rel C keep env h w) (nid : Option Nat) {run : Result Value} {v : AV} (hr : run = .ok (v.val C.lk env) w) (hb : v.bel h.ok) : VRun C keep env h w nid run v h :=
  ⟨env, w, hr, R, KeepW.refl _ _, Ext.refl _ _, HGrow.refl _, fun _ _ _ => rfl, hb⟩

theorem VRun.put (R : Rel C keep env h w) (nid : Option Nat) {i : Nat} {b b' : ABlk} (hi : h.get i = some b) {w' : World} (R' : Rel C keep env (h.put i b') w') (K : KeepW keep w w') {run : Result Value} {v : AV}
    (hr : run = .ok (v.val C.lk env) w') (hb : v.bel h.ok) : VRun C keep env h w nid run v (h.put i b') :=
  have hl : HLe h (h.put i b') := hle_put hi
  ⟨env, w', hr, R', K, Ext.refl _ _, hl.grow, fun j hj _ => hl.same j hj, bel_mono (fun j hj => hl.ok hj) v hb⟩

/-- The row that an append makes anew. -/
theorem grown_run (R : Rel C keep env h w) {nid : Option Nat} (hr : h.room nid = true) {e : TypeId} {i : TypeInfo} {z : Value} (hzs : z.cells.size = i.size) (hsz : 0 < i.size) {olds news : List AV} {n m c : Nat}
    (hlo : olds.length = n * i.size) (hln : news.length = m * i.size) (hbo : ∀ v ∈ olds, v.bel h.ok) (hbn : ∀ v ∈ news, v.bel h.ok) {run : Result Value}
    (hrun : run = .ok (.slice (some ⟨w.heap.size, 0, none⟩) (n + m) (grownCap w (n + m) c e))
      (w.drew.alloc (.cells ((olds.map (AV.val C.lk env)).toArray ++ (news.map (AV.val C.lk env)).toArray ++ Builtin.zeroCells z.cells (grownCap w (n + m) c e - (n + m))) e))) :
    VRun C keep env h w nid run (.slice (h.nid nid) 0 (n + m) (.unk 0)) (h.new nid (.cells (olds ++ news) true i.size)) := by
  have hge := grownCap_ge w (n + m) c e
  have R' : Rel C keep env h w.drew := R.heap_eq rfl
  have A := newRow_ok R' hr (olds ++ news) i.size (grownCap w (n + m) c e) ((olds.map (AV.val C.lk env)).toArray ++ (news.map (AV.val C.lk env)).toArray ++ Builtin.zeroCells z.cells (grownCap w (n + m) c e - (n + m))) e
    (fun k v hk => by
      have hlt : k < (olds ++ news).length := (List.getElem?_eq_some_iff.1 hk).1
      rw [show (olds.map (AV.val C.lk env)).toArray ++ (news.map (AV.val C.lk env)).toArray = ((olds ++ news).map (AV.val C.lk env)).toArray from by simp, Array.getElem?_append_left (by simpa using hlt)]
      exact map_get C.lk env _ k v hk)
    (fun _ => by
      simp only [List.length_append, hlo, hln, ← Nat.add_mul, Array.size_append, List.size_toArray, List.length_map, size_zeroCells, hzs]
      exact ⟨Nat.mul_le_mul_right _ hge, by apply Nat.le_of_eq; congr 1; omega⟩)
    (fun v hv => by rcases List.mem_append.1 hv with x | x; exact hbo v x; exact hbn v x)
  refine ⟨_, _, hrun.trans ?_, A.1, (keepW_drew keep w).trans A.2.1, A.2.2, grow_new hr _, same_new hr _, (ok_new hr).2 (.inl rfl)⟩
  simp only [AV.val, updE, if_true, Cap.at, Nat.sub_zero]
  rfl

/-- An operation over a heap in which a block has been given up. -/
theorem VRun.afterDead {i : Nat} {b : ABlk} (hi : h.get i = some b) {nid : Option Nat} {run : Result Value} {v : AV} {h' : Heap} (V : VRun C keep env (h.put i .dead) w nid run v h') : VRun C keep env h w nid run v h' := by
  obtain ⟨env', w', a, b', c, d, e, f, g⟩ := V
  have hl : HLe h (h.put i .dead) := hle_put hi
  exact ⟨env', w', a, b', c, fun j hj => d j (hl.ok hj), hl.grow.trans e, fun j hj hn => (f j hj hn).trans (hl.same j hj), g⟩

theorem room_put {i : Nat} {b b' : ABlk} (hi : h.get i = some b) {nid : Option Nat} (hr : h.room nid = true) : (h.put i b').room nid = true := by
  cases nid with
  | none => rfl
  | some n =>
    simp only [Heap.room, Bool.and_eq_true, decide_eq_true_eq, Option.isNone_iff_eq_none] at hr ⊢
    refine ⟨?_, hr.2⟩
    rw [Heap.get_put _ _ _ _ (Heap.lt_of_get hi), if_neg]
    · exact hr.1
    · intro e; subst e; rw [hi] at hr; cases hr.1

/-- A row given up, its cells written from a place on: the new slice lies in the old row. -/
theorem reuse_ok (R : Rel C keep env h w) {i : Nat} {vs : List AV} {u : Nat} (hi : h.get i = some (.cells vs true u)) (hu : 0 < u) {l n m : Nat} {news : List AV} (hle : l * u + n * u ≤ vs.length) (hln : news.length = m * u)
    (hroom : n + m ≤ (env i).cap - l) (hone : news.all AV.one = true) (hbn : ∀ v ∈ news, v.bel h.ok) {nid : Option Nat} (hr : h.room nid = true) :
    ∃ w', (storeCells ((⟨(env i).blk, (env i).sh + l * u, none⟩ : Addr).add (n * u)) (news.map (AV.val C.lk env))).run C.P w = .ok () w' ∧
      ∀ run : Result Value, run = .ok (.slice (some ⟨(env i).blk, (env i).sh + l * u, none⟩) (n + m) ((env i).cap - l)) w' →
        VRun C keep env h w nid run (.slice (h.nid nid) 0 (n + m) (.unk 0)) ((h.put i .dead).new nid (.cells (cut vs (l * u) (n * u) ++ news) true u)) := by
  obtain ⟨cur, t, h1, h2, h3⟩ := R.blk i _ hi
  obtain ⟨h4, h5⟩ := h3 hu
  have hcap := unk_cap R hi hu rfl hle
  have hfit : (env i).sh + l * u + n * u + m * u ≤ cur.size := by
    have : (l + n + m) * u ≤ (env i).cap * u := Nat.mul_le_mul_right _ (by omega)
    rw [Nat.add_mul, Nat.add_mul] at this
    omega
  have hst := run_storeCells_at C.P (env i).blk ((env i).sh + l * u + n * u) t (news.map (AV.val C.lk env)) 0 cur w h1 (by simp [hln]; omega) (by
    intro v hv
    obtain ⟨a, ha, rfl⟩ := List.mem_map.1 hv
    rw [one_val']
    exact List.all_eq_true.1 hone a ha)
  refine ⟨_, by rw [add_lit]; exact hst, ?_⟩
  intro run hrun
  -- the world in which the row is written
  generalize hw' : w.setRow (env i).blk (cur.toList.take ((env i).sh + l * u + n * u + 0) ++ news.map (AV.val C.lk env) ++ cur.toList.drop ((env i).sh + l * u + n * u + 0 + (news.map (AV.val C.lk env)).length)).toArray = w' at *
  have hrow : w'.heap[(env i).blk]? = some (.cells (cur.toList.take ((env i).sh + l * u + n * u + 0) ++ news.map (AV.val C.lk env) ++ cur.toList.drop ((env i).sh + l * u + n * u + 0 + (news.map (AV.val C.lk env)).length)).toArray t (0, 0)) := by
    rw [← hw']; exact setRow_heap w _ cur _ t (0, 0) h1
  have hoth : ∀ r, r ≠ (env i).blk → w'.heap[r]? = w.heap[r]? := fun r hr => by rw [← hw']; exact setRow_other w _ r _ hr
  have hsize : w'.heap.size = w.heap.size := by rw [← hw']; simp
  have hos : w'.os = w.os ∧ w'.tape = w.tape ∧ w'.output = w.output := by rw [← hw']; exact ⟨rfl, rfl, rfl⟩
  clear hst
  have hdead := R.dead hi
  have hlt := Heap.lt_of_get hi
  have hgd := fun j => Heap.get_put h i j .dead hlt
  have hr' : (h.put i .dead).room nid = true := room_put hi hr
  have hn := room_spec hr'
  have hnid : (h.put i .dead).nid nid = h.nid nid := by cases nid <;> rfl
  rw [hnid] at hn
  have hni : h.nid nid ≠ i := by
    intro e; rw [e, hgd, if_pos rfl] at hn; cases hn
  have hnh : h.get (h.nid nid) = none := by rw [hgd, if_neg hni] at hn; exact hn
  let E : EB := ⟨(env i).blk, (env i).sh + l * u, (env i).cap - l⟩
  have hx : Ext h env (updE env (h.nid nid) E) := ext_updE hnh env E
  have hself : updE env (h.nid nid) E (h.nid nid) = E := by simp [updE]
  have hgn : ∀ j, ((h.put i .dead).new nid (.cells (cut vs (l * u) (n * u) ++ news) true u)).get j = if j = h.nid nid then some (.cells (cut vs (l * u) (n * u) ++ news) true u) else if j = i then some .dead else h.get j := by
    intro j; rw [get_new hr', hnid, hgd]
  have hokn : ∀ j, h.ok j → ((h.put i .dead).new nid (.cells (cut vs (l * u) (n * u) ++ news) true u)).ok j := by
    intro j hj
    simp only [Heap.ok, hgn]
    by_cases e1 : j = h.nid nid
    · simp [e1]
    · by_cases e2 : j = i
      · simp [e2, Ne.symm hni]
      · simpa [Heap.ok, e1, e2] using hj
  have hold : ∀ j c, h.get j = some c → updE env (h.nid nid) E j = env j := fun j c hc => hx j (by simp [Heap.ok, hc])
  have hlive : ∀ j c, j ≠ i → h.get j = some c → c ≠ .dead → (env j).blk ≠ (env i).blk := fun j c hj hc hd => R.disj i j _ c hi hc (Ne.symm hj) rfl hd
  have hlcut : (cut vs (l * u) (n * u)).length = n * u := by simp [cut]; omega
  refine ⟨updE env (h.nid nid) E, w', hrun.trans ?_, ⟨?_, ?_, ?_, ?_, ?_, ?_, ?_, ?_⟩, ⟨hos.1, hos.2.1, hos.2.2, by omega, fun r hr => hoth r (fun x => R.kept i _ hi rfl (x ▸ hr))⟩, hx, ⟨?_, hokn⟩, ?_, ?_⟩
  · simp only [AV.val, hself, Cap.at, E, Nat.sub_zero, Nat.add_zero]
  · intro j c hc
    rw [hgn] at hc
    by_cases e1 : j = h.nid nid
    · rw [e1, hself]; have := R.lt i _ hi; show (env i).blk < _; omega
    · rw [if_neg e1] at hc
      by_cases e2 : j = i
      · rw [e2, hold i _ hi]; have := R.lt i _ hi; omega
      · rw [if_neg e2] at hc; rw [hold j c hc]; have := R.lt j c hc; omega
  · intro j c hc
    rw [hgn] at hc
    by_cases e1 : j = h.nid nid
    · rw [if_pos e1] at hc; cases hc
      rw [e1, hself]
      refine ⟨_, t, hrow, fun k v hk => ?_, fun _ => ⟨?_, ?_⟩⟩
      · have hb : v.bel h.ok := by
          rcases List.mem_append.1 (List.mem_of_getElem? hk) with x | x
          · exact cut_bel R hi _ _ v x
          · exact hbn v x
        rw [hx.val hb]
        simp only [List.getElem?_toArray, Nat.add_zero]
        rw [seg_get _ _ _ _ (by simp [hln]; omega)]
        simp only [List.length_map, hln, E]
        rw [List.getElem?_append, hlcut] at hk
        by_cases hkn : k < n * u
        · rw [if_pos hkn] at hk
          rw [if_pos (by omega)]
          simp only [cut, List.getElem?_take, hkn, if_true, List.getElem?_drop] at hk
          have := h2 (l * u + k) v hk
          rw [← Nat.add_assoc] at this
          simpa using this
        · rw [if_neg hkn] at hk
          have hkm : k - n * u < m * u := by rw [← hln]; exact (List.getElem?_eq_some_iff.1 hk).1
          rw [if_neg (by omega), if_pos (by omega), List.getElem?_map, show (env i).sh + l * u + k - ((env i).sh + l * u + n * u) = k - n * u from by omega, hk]
          rfl
      · rw [List.length_append, hlcut, hln, ← Nat.add_mul]
        exact Nat.mul_le_mul_right _ hroom
      · have e1 : ((env i).cap - l) * u = (env i).cap * u - l * u := Nat.mul_sub_right_distrib ..
        have e2 : l * u ≤ (env i).cap * u := Nat.mul_le_mul_right _ hcap.2
        simp only [E, List.size_toArray, List.length_append, List.length_take, List.length_drop, Array.length_toList, List.length_map, Nat.add_zero, hln]
        omega
    · rw [if_neg e1] at hc
      by_cases e2 : j = i
      · rw [if_pos e2] at hc; cases hc; trivial
      · rw [if_neg e2] at hc
        rw [hold j c hc]
        by_cases hd : c = .dead
        · subst hd; trivial
        · exact (R.blk j c hc).mono hx (R.bel j c hc) (hoth _ (hlive j c e2 hc hd))
  · intro j k c d hc hd hjk hwr hdd
    rw [hgn] at hc hd
    by_cases e1 : j = h.nid nid
    · have e2 : k ≠ h.nid nid := fun x => hjk (e1.trans x.symm)
      rw [if_neg e2] at hd
      by_cases e3 : k = i
      · rw [if_pos e3] at hd; cases hd; exact absurd rfl hdd
      · rw [if_neg e3] at hd
        rw [e1, hself, hold k d hd]
        exact hlive k d e3 hd hdd
    · rw [if_neg e1] at hc
      by_cases e2 : j = i
      · rw [if_pos e2] at hc; cases hc; cases hwr
      · rw [if_neg e2] at hc
        have hcd : c ≠ .dead := by rintro rfl; cases hwr
        by_cases e3 : k = h.nid nid
        · rw [e3, hself, hold j c hc]
          exact Ne.symm (hlive j c e2 hc hcd)
        · rw [if_neg e3] at hd
          by_cases e4 : k = i
          · rw [if_pos e4] at hd; cases hd; exact absurd rfl hdd
          · rw [if_neg e4] at hd
            rw [hold j c hc, hold k d hd]
            exact R.disj j k c d hc hd hjk hwr hdd
  · intro j c hc
    rw [hgn] at hc
    by_cases e1 : j = h.nid nid
    · rw [if_pos e1] at hc; cases hc
      intro v hv
      refine Ae.bel_mono hokn v ?_
      rcases List.mem_append.1 hv with x | x
      · exact cut_bel R hi _ _ v x
      · exact hbn v x
    · rw [if_neg e1] at hc
      by_cases e2 : j = i
      · rw [if_pos e2] at hc; cases hc; trivial
      · rw [if_neg e2] at hc
        exact ABlk.bel_mono hokn (R.bel j c hc)
  · intro j c hc hwr
    rw [hgn] at hc
    by_cases e1 : j = h.nid nid
    · rw [e1, hself]; exact R.kept i _ hi rfl
    · rw [if_neg e1] at hc
      by_cases e2 : j = i
      · rw [if_pos e2] at hc; cases hc; cases hwr
      · rw [if_neg e2] at hc; rw [hold j c hc]; exact R.kept j c hc hwr
  · intro r hr; have := R.keepLt r hr; omega
  · intro j c hc hd
    rw [hgn] at hc
    by_cases e1 : j = h.nid nid
    · rw [e1, hself]; exact R.hid i _ hi (by intro x; cases x)
    · rw [if_neg e1] at hc
      by_cases e2 : j = i
      · rw [if_pos e2] at hc; cases hc; exact absurd rfl hd
      · rw [if_neg e2] at hc; rw [hold j c hc]; exact R.hid j c hc hd
  · intro r hr; have := R.hidLt r hr; omega
  · cases nid <;> simp [Heap.new]
  · intro j hj hne
    rw [hgn, if_neg (by
      intro e; cases nid with
      | none => simp [Heap.nid] at e; omega
      | some q => simp [Heap.nid] at e; exact hne (by rw [e]))]
    by_cases e2 : j = i
    · rw [if_pos e2, e2, hi]; rfl
    · rw [if_neg e2]
  · simp only [AV.bel, Heap.ok, hgn, if_true, Option.isSome_some]

/-- What the append's first part has come to: the rest, with the cells that are appended. -/
structure AppOk (C : Ctx) (env : Env) (h : Heap) (w : World) (e : TypeId) (i : TypeInfo) (zeros : Bool) (x : Value) (m : Nat) (news : List AV) (argTypes : Array TypeId) (ty : TypeId) : Prop where
  eq : ∀ base n c, (Builtin.append_ argTypes ty #[.slice base n c, x]).run C.P w = (appRest e i.size zeros base n c (.slice base n c) x m).run C.P w
  runs : AppRuns C.P w e i zeros x m (news.map (AV.val C.lk env))
  len : news.length = m * i.size
  bel : ∀ v ∈ news, v.bel h.ok

theorem appendA_sound (R : Rel C keep env h w) {e ty : TypeId} {i : TypeInfo} {z : Value} (hi : C.P.info? e = some i) (hz : i.zero = some z) (hzs : z.cells.size = i.size) (hsz : 0 < i.size) (hby : 0 < i.bytes) {zeros : Bool} {x : Value} {m : Nat} {news : List AV} {argTypes : Array TypeId}
    (A : AppOk C env h w e i zeros x m news argTypes ty) {s : AV} (hs : s.bel h.ok) {nid : Option Nat} {v : AV} {h' : Heap} (ha : appendA h nid i.size i.bytes s m news = some (v, h')) :
    VRun C keep env h w nid ((Builtin.append_ argTypes ty #[s.val C.lk env, x]).run C.P w) v h' := by
  have hbnd : ∀ q : Nat, q * i.bytes ≤ 2 ^ 40 → q ≤ 2 ^ 47 ∧ q * i.bytes ≤ 2 ^ 47 := by
    intro q hq
    have : q * 1 ≤ q * i.bytes := Nat.mul_le_mul_left _ hby
    omega
  have news0 : m = 0 → news = [] := fun e => List.eq_nil_of_length_eq_zero (by rw [A.len, e]; simp)
  unfold appendA at ha
  split at ha
  · -- nil
    split at ha
    · rename_i hm
      cases ha
      subst hm
      refine VRun.same R nid ?_ trivial
      simp only [AV.val]
      rw [A.eq, rest_room A.runs (base := none) (by omega) (w' := w) rfl]
    · rename_i hm
      split at ha
      · rename_i hc
        cases ha
        have hb := hbnd m hc.1
        have := grown_run R hc.2 (e := e) (z := z) (i := i) hzs hsz (olds := []) (news := news) (n := 0) (m := m) (c := 0) (by simp) A.len (by simp) A.bel
          (run := (Builtin.append_ argTypes ty #[AV.nilslice.val C.lk env, x]).run C.P w) (by
            simp only [AV.val]
            rw [A.eq, rest_grow hi hz A.runs (olds := []) (by omega) (by omega) (by rw [Nat.zero_add]; exact hb.2) (fun w' _ => by simp [Builtin.firstCells])]
            simp)
        simpa using this
      · cases ha
  · -- known
    rename_i b o n c
    split at ha
    · rename_i hm
      split at ha
      · rename_i hnc
        cases ha
        subst hm
        refine VRun.same R nid ?_ hs
        simp only [AV.val, Cap.at]
        rw [A.eq, rest_room A.runs (by have := hnc.1; omega) (w' := w) (by rw [news0 rfl]; rfl)]
        rfl
      · cases ha
    · split at ha
      · rename_i hm vs u hb
        split at ha
        · rename_i hle
          split at ha
          · rename_i hroom
            split at ha
            · rename_i hc
              cases ha
              have hl2 : o + n * i.size + news.length ≤ vs.length := by rw [A.len, Nat.add_assoc, ← Nat.add_mul]; exact hc.1
              obtain ⟨w', hst, r1, r2⟩ := write_ok R hb (o := o + n * i.size) (cs := news) hl2 hc.2 A.bel
              refine VRun.put R nid hb r1 r2 ?_ hs
              simp only [AV.val, Cap.at]
              rw [A.eq, rest_room A.runs hroom (w' := w') (by simp only; rw [add_lit, Nat.add_assoc]; exact hst)]
            · cases ha
          · rename_i hroom
            split at ha
            · rename_i hc
              cases ha
              have hb2 := hbnd (n + m) hc.1
              have hcon : contentA h i.size (.slice b o n (.known c)) = some (n, cut vs o (n * i.size)) := by simp [contentA, hb, hle]
              refine grown_run R hc.2 (e := e) (z := z) (i := i) (c := c) hzs hsz (by simp [cut]; omega) A.len (cut_bel R hb _ _) A.bel ?_
              simp only [AV.val, Cap.at]
              rw [A.eq, rest_grow hi hz A.runs (olds := (cut vs o (n * i.size)).map (AV.val C.lk env)) (by omega) hb2.1 hb2.2 (fun w' hw' => by
                have := first_sound (R.heap_eq hw') hcon n (Nat.le_refl _)
                rw [List.take_of_length_le (by simp [cut]; omega)] at this
                exact this)]
            · cases ha
        · cases ha
      · rename_i hm vs u hb
        split at ha
        · rename_i hc
          cases ha
          obtain ⟨hle, hroom, hby2, hr⟩ := hc
          have hb2 := hbnd (n + m) hby2
          have hcon : contentA h i.size (.slice b o n (.known c)) = some (n, cut vs o (n * i.size)) := by simp [contentA, hb, hle]
          refine grown_run R hr (e := e) (z := z) (i := i) (c := c) hzs hsz (by simp [cut]; omega) A.len (cut_bel R hb _ _) A.bel ?_
          simp only [AV.val, Cap.at]
          rw [A.eq, rest_grow hi hz A.runs (olds := (cut vs o (n * i.size)).map (AV.val C.lk env)) (by omega) hb2.1 hb2.2 (fun w' hw' => by
            have := first_sound (R.heap_eq hw') hcon n (Nat.le_refl _)
            rw [List.take_of_length_le (by simp [cut]; omega)] at this
            exact this)]
        · cases ha
      · cases ha
  · -- unknown
    rename_i b o n l
    split at ha
    · rename_i vs u hb
      split at ha
      · rename_i hc
        cases ha
        obtain ⟨rfl, rfl, hle, hone, hby2, hr, hm⟩ := hc
        have hb2 := hbnd (n + m) hby2
        have hcap := unk_cap R hb hsz rfl hle
        by_cases hroom : n + m ≤ (env b).cap - l
        · obtain ⟨w', hst, hV⟩ := reuse_ok R hb hsz hle A.len hroom hone A.bel hr
          refine hV _ ?_
          simp only [AV.val, Cap.at]
          rw [A.eq, rest_room A.runs hroom (w' := w') hst]
        · have hcon : contentA h i.size (.slice b (l * i.size) n (.unk l)) = some (n, cut vs (l * i.size) (n * i.size)) := by simp [contentA, hb, hle]
          have hd := R.dead hb
          have hbel : ∀ v : AV, v.bel h.ok → v.bel (h.put b .dead).ok := fun v hv => bel_mono (fun j hj => (hle_put hb).ok hj) v hv
          have hnid : (h.put b .dead).nid nid = h.nid nid := by cases nid <;> rfl
          have := grown_run hd (room_put hb hr) (e := e) (z := z) (i := i) (c := (env b).cap - l) (olds := cut vs (l * i.size) (n * i.size)) (news := news) (n := n) (m := m) hzs hsz (by simp [cut]; omega) A.len (fun v hv => hbel v (cut_bel R hb _ _ v hv)) (fun v hv => hbel v (A.bel v hv))
            (run := (Builtin.append_ argTypes ty #[(AV.slice b (l * i.size) n (.unk l)).val C.lk env, x]).run C.P w) (by
              simp only [AV.val, Cap.at]
              rw [A.eq, rest_grow hi hz A.runs (olds := (cut vs (l * i.size) (n * i.size)).map (AV.val C.lk env)) (by omega) hb2.1 hb2.2 (fun w' hw' => by
                have := first_sound (R.heap_eq hw') hcon n (Nat.le_refl _)
                rw [List.take_of_length_le (by simp [cut]; omega)] at this
                exact this)])
          rw [hnid] at this
          exact this.afterDead hb
      · split at ha
        · rename_i hc
          cases ha
          obtain ⟨rfl, rfl, hle, rfl⟩ := hc
          have hcap := unk_cap R hb hsz rfl hle
          refine VRun.same R nid ?_ hs
          simp only [AV.val, Cap.at]
          rw [A.eq, rest_room A.runs (by omega) (w' := w) (by rw [news0 rfl]; rfl)]
          rfl
        · cases ha
    · cases ha
  · cases ha

end
end Go.Ae
