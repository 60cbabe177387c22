/- Ranges over functions: the statement, and a round. -/
import Derived.Test.YtbmoggkjijnajaaAeCode2
import Derived.RangeFuncRecord
import Derived.RangeFuncSeq
namespace Go.Ae

section
variable {C : Ctx} {keep : Keep} {nt : Nat}

/-- The record of a loop is written. -/
theorem loop_write {env : Env} {h : Heap} {w : World} (R : Rel C keep env h w) {i : Nat} {r : ALoop} (hi : h.get i = some (.loop r)) (s : LoopState) (pend : Option Out) (hp : pend ≠ some .normal) :
    ∃ r' : Loop, w.heap[(env i).blk]? = some (.loop r') ∧ r'.state = r.state ∧ r'.pending = r.pend.bind Out.code ∧
      Rel C keep env (h.put i (.loop { r with state := s, pend := pend })) (w.putObj (env i).blk (.loop { r' with state := s, pending := pend.bind Out.code })) ∧
      KeepW keep w (w.putObj (env i).blk (.loop { r' with state := s, pending := pend.bind Out.code })) := by
  obtain ⟨fn, tmps, params, assign, body, h1, h2, h3, h4, h5, h6, h7, h8⟩ := R.blk i _ hi
  refine ⟨_, h1, rfl, rfl, ?_⟩
  refine R.write hi rfl rfl rfl rfl (by simp) (fun q hq => World.putObj_heap_other hq) (show ABlk.bel h.ok (.loop r) from R.bel i _ hi) ?_
  exact ⟨fn, tmps, params, assign, body, World.putObj_heap_same (R.lt i _ hi), h2, h3, h4, h5, h6, h7, hp⟩

theorem range_post (fenv : Env) (rd : Option Nat) {env env2 : Env} {st : St} {a : Act} {w w2 : World} (S : Sim C keep nt env st a w) {h2 : Heap} (hh2 : HLe st.h h2) (X2 : Ext st.h env env2) (K2 : KeepW keep w w2) {l : Nat} (hl : h2.ok l) {ms : List Nat} {mark : List Deferred}
    (hmark : mark = ms.map fun i => { target := .collected (env2 i).blk, args := #[] }) (hms : ∀ i ∈ ms, h2.ok i) {Q : Out → St → Prop} {lb : Nat} (hlb : lb = (env2 l).blk) :
    ∀ e w', Back C keep env2 h2 w2 (fun _ h' => ∃ r, h'.get l = some (.loop r) ∧ r.state ≠ .busy ∧ Q (r.pend.getD .normal) ⟨st.t, h'.put l (.loop { r with state := .exhausted }), ms ++ st.m⟩) e w' →
      rangePost (fen fenv rd) 0 C.P lb (PostQ C keep nt env st w [] Q) { a with defers := mark ++ a.defers } e w' := by
  subst hlb
  rintro e w3 ⟨env3, rv, h3, rfl, ⟨r, hr, hbusy, hQ⟩, R3, K3, X3, L3, hB⟩
  have hle := R3.blk l _ hr
  have hpend : r.pend ≠ some .normal := by
    obtain ⟨fn, tmps, params, assign, body, _, _, _, _, _, _, _, h8⟩ := hle
    exact h8
  obtain ⟨r', hr1, hr2, hr3, R4, K4⟩ := loop_write R3 hr .exhausted r.pend hpend
  have hble : (env3 l).blk = (env2 l).blk := by rw [X3 l hl]
  rw [hble] at hr1 R4 K4
  have hend := run_endLoop (P := C.P) (w := w3) hr1 (by rw [hr2]; exact hbusy)
  rw [← hr3] at R4 K4
  generalize hW : w3.putObj (env2 l).blk (.loop { r' with state := .exhausted }) = W4 at hend R4 K4
  refine ⟨r'.pending, W4, hend, ?_⟩
  clear hend hW
  have hput : HLe h3 (h3.put l (.loop { r with state := .exhausted, pend := r.pend })) := hle_put hr
  have hall : HLe st.h (h3.put l (.loop { r with state := .exhausted, pend := r.pend })) := (hh2.trans L3).trans hput
  have X : Ext st.h env env3 := X2.trans hh2 X3
  have F : Far C keep nt env st w env3 ⟨st.t, h3.put l (.loop { r with state := .exhausted }), ms ++ st.m⟩ { a with defers := mark ++ a.defers } W4 := by
    refine ⟨⟨S.size, fun s => ?_, fun s => bel_mono (fun i hi => hall.ok hi) _ (S.bel s), ?_, ?_, R4⟩, (K2.trans K3).trans K4, X, hall.grow⟩
    · rw [S.tmps s, X.val (S.bel s)]
    · simp only [List.map_append]
      rw [hmark, S.defers]
      congr 1
      · refine List.map_congr_left fun i hi => ?_
        rw [X3 i (hms i hi)]
      · refine List.map_congr_left fun i hi => ?_
        rw [X i (S.marks i hi)]
    · intro i hi
      rcases List.mem_append.1 hi with hi | hi
      · exact (L3.trans hput).ok (hms i hi)
      · exact hall.ok (S.marks i hi)
  have reach : ∀ o, r.pend.getD .normal = o → Reached C keep nt env st w [] Q o { a with defers := mark ++ a.defers } W4 := by
    intro o ho
    subst ho
    exact ⟨env3, _, F, fun _ _ => rfl, hall, hQ⟩
  rw [hr3]
  cases hp : r.pend with
  | none => exact ⟨.normal, rfl, reach _ (by rw [hp]; rfl)⟩
  | some o =>
    cases o with
    | normal => exact absurd hp hpend
    | exit id => exact wpIn_exit ⟨.exit id, rfl, reach _ (by rw [hp]; rfl)⟩
    | ret => exact wpIn_ret ⟨.ret, rfl, reach _ (by rw [hp]; rfl)⟩

theorem range_call {env env2 : Env} {st : St} {a : Act} {w w2 : World} (S : Sim C keep nt env st a w) {g : Operand} {g' : AOpd} (hg : lowerOpd C.inv g = some g') {h2 : Heap} (hh2 : HLe st.h h2) (X2 : Ext st.h env env2) (R2 : Rel C keep env2 h2 w2) {l : Nat} (hl : h2.ok l) {Post : AV → Heap → Prop}
    (hP : rangeP C (g'.ev st.t) l h2 Post) : ∃ d f args, (resolve a.eval (rangeCall g (env2 l).blk) 0).run C.P w2 = .ok d w2 ∧ (invoke d.target d.args).run C.P w2 = .ok (.enter f args) w2 ∧ Calls C.P f args w2 (Back C keep env2 h2 w2 Post) := by
  unfold rangeP at hP
  split at hP
  · rename_i gg first cap hfv
    obtain ⟨hent, hcall⟩ := hP
    have e := S.opd g g' hg
    rw [hfv] at e
    have hb2 : (AV.func gg first cap).bel h2.ok := bel_mono (fun i hi => hh2.ok hi) _ e.2
    have e1 : a.eval g = (AV.func gg first cap).val C.lk env2 := by rw [e.1, X2.val e.2]
    simp only [AV.val, vals_eq] at e1
    have hbels : ∀ v ∈ first ++ [.yield l] ++ cap, v.bel h2.ok := by
      intro v hv
      rcases List.mem_append.1 hv with hv | hv
      · rcases List.mem_append.1 hv with hv | hv
        · exact (bels_iff _ _).1 hb2.1 v hv
        · rw [List.mem_singleton] at hv; subst hv; exact hl
      · exact (bels_iff _ _).1 hb2.2 v hv
    have hent' := hent ((first ++ [AV.yield l] ++ cap).map (AV.val C.lk env2)).toArray w2
    refine ⟨{ target := .fn (.func (C.lk gg)) (cap.map (AV.val C.lk env2)).toArray, args := (first.map (AV.val C.lk env2)).toArray ++ #[.func (.yield (env2 l).blk) #[] #[]] }, _, _, ?_, ?_, hcall keep env2 w2 R2 hbels⟩
    · simp only [resolve, rangeCall, Sem.run_bind, Deferred.ofValue, e1]
      simp [Act.eval]
    · simp only [invoke]
      rw [← hent']
      simp [AV.val]
  · exact hP.elim

theorem range_sound (fenv : Env) (rd : Option Nat) : RangeOk C keep nt fenv rd := by
  intro g g' ps x y Q env st a w hg hps h S hrd
  have hnt := S.size
  cases rd with
  | none =>
    have h' : rangeP C (g'.ev st.t) (st.h.size + 1) ((st.h.push (.defd true)).push (.loop { state := .ready, pend := none, t := st.t, nt, params := ps.toList, assign := lowerCode C.P C.inv nt x, body := lowerCode C.P C.inv nt y, defers := st.h.size })) fun _ h' =>
      ∃ r, h'.get (st.h.size + 1) = some (.loop r) ∧ r.state ≠ .busy ∧ Q (r.pend.getD .normal) ⟨st.t, h'.put (st.h.size + 1) (.loop { r with state := .exhausted }), st.h.size :: st.m⟩ := h
    refine wpIn_rangeFunc fun fn _ => ?_
    -- the two new blocks
    have A1 := S.rel.alloc (n := none) rfl (b := .defd true) ⟨w.heap.size, 0, 0⟩ rfl (.deferred (some [])) trivial (by show (w.alloc _).heap[w.heap.size]? = _; rw [heap_alloc_get, if_pos rfl]; rfl)
    have X1 : Ext st.h env (updE env st.h.size ⟨w.heap.size, 0, 0⟩) := ext_updE (st.h.wf _ (Nat.le_refl _)) env _
    have L1 : HLe st.h (st.h.push (.defd true)) := hle_new (n := none) rfl rfl _
    have hsz : (w.alloc (.deferred (some []))).heap.size = w.heap.size + 1 := by show (w.heap.push _).size = _; simp
    have A2 := A1.1.alloc (n := none) rfl (b := .loop { state := .ready, pend := none, t := st.t, nt, params := ps.toList, assign := lowerCode C.P C.inv nt x, body := lowerCode C.P C.inv nt y, defers := st.h.size })
      ⟨w.heap.size + 1, 0, 0⟩ hsz.symm (.loop { state := .ready, pending := none, fn, tmps := a.tmps, params := ps, assign := x, body := y, defers := w.heap.size })
      ⟨fun s => bel_mono (fun i hi => (ok_new (n := none) rfl).2 (.inr (L1.ok hi))) _ (S.bel s), (ok_new (n := none) rfl).2 (.inr ((ok_new (n := none) rfl).2 (.inl rfl)))⟩
      ⟨fn, a.tmps, ps, x, y, by
        rw [heap_alloc_get, if_pos hsz.symm]
        show _ = some (Obj.loop { state := .ready, pending := none, fn, tmps := a.tmps, params := ps, assign := x, body := y, defers := _ })
        simp [updE, Heap.nid, Heap.new], S.size, fun s => by
          rw [S.tmps s]
          have X2 : Ext (st.h.push (.defd true)) (updE env st.h.size ⟨w.heap.size, 0, 0⟩) (updE (updE env st.h.size ⟨w.heap.size, 0, 0⟩) (st.h.size + 1) ⟨w.heap.size + 1, 0, 0⟩) := ext_updE (Heap.wf _ _ (Nat.le_refl _)) _ _
          exact ((X1.trans L1 X2).val (S.bel s)).symm, rfl, hps, rfl, rfl, by simp⟩
    have L2 : HLe (st.h.push (.defd true)) _ := hle_new (n := none) rfl rfl (.loop { state := .ready, pend := none, t := st.t, nt, params := ps.toList, assign := lowerCode C.P C.inv nt x, body := lowerCode C.P C.inv nt y, defers := st.h.size })
    have X2 : Ext (st.h.push (.defd true)) (updE env st.h.size ⟨w.heap.size, 0, 0⟩) (updE (updE env st.h.size ⟨w.heap.size, 0, 0⟩) (st.h.size + 1) ⟨w.heap.size + 1, 0, 0⟩) := ext_updE (Heap.wf _ _ (Nat.le_refl _)) _ _
    have hl2 : ((st.h.push (.defd true)).push (.loop { state := .ready, pend := none, t := st.t, nt, params := ps.toList, assign := lowerCode C.P C.inv nt x, body := lowerCode C.P C.inv nt y, defers := st.h.size })).ok (st.h.size + 1) := ok_push.2 (.inl rfl)
    have hm2 : ((st.h.push (.defd true)).push (.loop { state := .ready, pend := none, t := st.t, nt, params := ps.toList, assign := lowerCode C.P C.inv nt x, body := lowerCode C.P C.inv nt y, defers := st.h.size })).ok st.h.size := ok_push.2 (.inr (ok_push.2 (.inl rfl)))
    have K2 := A1.2.trans A2.2
    obtain ⟨d, f, args, hres, hinv, hcall⟩ := range_call S hg (L1.trans L2) (X1.trans L1 X2) A2.1 hl2 h'
    have hblk : (updE (updE env st.h.size ⟨w.heap.size, 0, 0⟩) (st.h.size + 1) ⟨w.heap.size + 1, 0, 0⟩ (st.h.size + 1)).blk = w.heap.size + 1 := by simp [updE]
    have hblk0 : (updE (updE env st.h.size ⟨w.heap.size, 0, 0⟩) (st.h.size + 1) ⟨w.heap.size + 1, 0, 0⟩ st.h.size).blk = w.heap.size := by simp [updE]
    rw [hblk] at hres
    refine ⟨w.heap.size + 1, _, _, d, _, f, args, _, run_enterLoop_outer fn a.tmps ps x y, hres, fun f' _ => fen_fn fenv none f', hinv, fen_depth fenv none, ?_⟩
    refine (rounds_run fenv none rfl hcall).mono ?_
    refine range_post fenv none S (L1.trans L2) (X1.trans L1 X2) K2 hl2 (ms := [st.h.size]) (mark := [{ target := .collected w.heap.size, args := #[] }]) (by simp [updE]) (by intro i hi; rw [List.mem_singleton] at hi; subst hi; exact hm2) hblk.symm
  | some l0 =>
    obtain ⟨r0, hr0, h'⟩ := h
    obtain ⟨hok0, hfe⟩ := hrd l0 rfl
    refine wpIn_rangeFunc fun fn _ => ?_
    obtain ⟨fn0, tmps0, params0, assign0, body0, q1, _⟩ := S.rel.blk l0 _ hr0
    have X1 : Ext st.h env (updE env st.h.size ⟨w.heap.size, 0, 0⟩) := ext_updE (st.h.wf _ (Nat.le_refl _)) env _
    have hd0 : st.h.ok r0.defers := (S.rel.bel l0 _ hr0).2
    have A2 := S.rel.alloc (n := none) rfl (b := .loop { state := .ready, pend := none, t := st.t, nt, params := ps.toList, assign := lowerCode C.P C.inv nt x, body := lowerCode C.P C.inv nt y, defers := r0.defers })
      ⟨w.heap.size, 0, 0⟩ rfl (.loop { state := .ready, pending := none, fn, tmps := a.tmps, params := ps, assign := x, body := y, defers := (env r0.defers).blk })
      ⟨fun s => bel_mono (fun i hi => (ok_new (n := none) rfl).2 (.inr hi)) _ (S.bel s), (ok_new (n := none) rfl).2 (.inr hd0)⟩
      ⟨fn, a.tmps, ps, x, y, by
        rw [heap_alloc_get, if_pos rfl]
        show _ = some (Obj.loop { state := .ready, pending := none, fn, tmps := a.tmps, params := ps, assign := x, body := y, defers := _ })
        rw [show updE env (st.h.nid none) ⟨w.heap.size, 0, 0⟩ r0.defers = env r0.defers from X1 _ hd0], S.size, fun s => by
          rw [S.tmps s]
          exact (X1.val (S.bel s)).symm, rfl, hps, rfl, rfl, by simp⟩
    have L2 : HLe st.h _ := hle_new (n := none) rfl rfl (.loop { state := .ready, pend := none, t := st.t, nt, params := ps.toList, assign := lowerCode C.P C.inv nt x, body := lowerCode C.P C.inv nt y, defers := r0.defers })
    have hl2 : (st.h.push (.loop { state := .ready, pend := none, t := st.t, nt, params := ps.toList, assign := lowerCode C.P C.inv nt x, body := lowerCode C.P C.inv nt y, defers := r0.defers })).ok st.h.size := ok_push.2 (.inl rfl)
    obtain ⟨d, f, args, hres, hinv, hcall⟩ := range_call S hg L2 X1 A2.1 hl2 h'
    have hblk : (updE env st.h.size ⟨w.heap.size, 0, 0⟩ st.h.size).blk = w.heap.size := by simp [updE]
    rw [hblk] at hres
    have hent : (Instr.enterLoop fn a.tmps ps x y (fen fenv (some l0)).round).run C.P w =
        .ok (w.heap.size, []) (w.alloc (.loop { state := .ready, pending := none, fn, tmps := a.tmps, params := ps, assign := x, body := y, defers := (env r0.defers).blk })) := by
      have : (fen fenv (some l0)).round = some (env l0).blk := by simp [fen, hfe]
      rw [this]
      unfold Instr.enterLoop
      simp only [Sem.run_bind, run_getLoop q1, Result.andThen_ok, Sem.run_pure, run_newObj_alloc]
    refine ⟨w.heap.size, _, _, d, _, f, args, _, hent, hres, fun f' _ => fen_fn fenv _ f', hinv, fen_depth fenv _, ?_⟩
    refine (rounds_run fenv (some l0) rfl hcall).mono ?_
    refine range_post fenv (some l0) S L2 X1 A2.2 hl2 (ms := []) (mark := []) (by simp) (by simp) hblk.symm

end
end Go.Ae
