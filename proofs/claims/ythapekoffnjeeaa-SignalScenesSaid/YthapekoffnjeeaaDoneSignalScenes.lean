/- SignalScenes, for every input that the statement speaks of: the law returns true. No condition. -/
import Derived.Test.YthapekoffnjeeaaRows
import Derived.WalkKit
import Derived.ProofKit
import Derived.OpenShut
import Derived.Conc.Holds
import Derived.Conc.LeavingOf
import Derived.Leaving
import Derived.Test.YthapekoffnjeeaaS16
namespace Go.Proofs.Ythapekoffnjeeaa.signalScenesDone
open Go.ChangeShapes Go.WideShapes Go.ChangeAt Go.RowKit Go.Ae

theorem own : ownKnob Try.prog.godebug = none := by kernel_rfl
theorem laidOut : laidOutB Try.prog = true := by kernel_rfl
theorem cellsI : Try.prog.cellsOf 3 = 1 := by kernel_rfl
theorem leaves24 : lfOf Try.prog 6 24 = some [.int .i64, .int .i64, .int .i64, .int .i64, .int .i64, .int .i64, .int .i64, .ints] := by kernel_rfl
theorem leaves40 : lfOf Try.prog 6 40 = some [.int .i64, .int .i64] := by kernel_rfl
theorem cells40 : Try.prog.cellsOf 40 = 2 := by kernel_rfl
theorem leaves32 : lfOf Try.prog 6 32 = some [.int .i64, .int .i64, .int .i64, .int .u32, .int .u32, .int .i64, .int .i64, .ints] := by kernel_rfl
theorem cells32 : Try.prog.cellsOf 32 = 8 := by kernel_rfl

set_option maxRecDepth 100000 in
theorem lifted (os : Os) (started : os.Started) (H : Type) (enc : TypeId × Value → H) :
    ReturnsInLeavingWide {} Try.checked os 5 .any (Rows.signalScenesSpec.pre6 enc Try.prog Try.f5 Rows.signalScenesRow.domain false) (Rows.signalScenesSpec.post enc Try.prog Try.f5 false true false false) := by
  refine returnsInLeavingWide_of_change_sized (C := Try.checked) own started Try.func5
    (ChangeSpec.witness6 (enc := enc) (C := Try.checked) false ⟨#[], #[.agg #[.int .i64 0, .int .i64 0, .int .i64 0, .int .i64 0, .int .i64 0, .int .i64 0, .int .i64 0, .slice none 0 0], .slice none 0 0, .slice none 0 0, .int .i64 0], []⟩ 8 (by kernel_rfl) (by kernel_rfl) (by kernel_rfl) (by kernel_rfl)) ?_
  intro W base args ds gs before hval0 hW hcnd _ _
  have hval : ∀ (j : Nat) t v, Try.f5.params[j]? = some t → args[j]? = some v → Value.okWide Try.prog W .any base t v := hval0
  have hW' := hW
  obtain ⟨p, q, hA0, hV, rfl, hfz, hnd⟩ := hW
  have hA : DataW.TrodAll enc Try.prog W 0 (fun _ => true) true Try.f5.params.toList args.toList ds p := hA0
  rw [Try.params5] at hA hval
  obtain ⟨rfl, rfl⟩ := trodVars_none hV
  have hlt : ∀ x ∈ p, x.block < W.heap.size := fun x hx => by simpa using hW'.lt x (by simp [hx])
  have hstay := fun W' (hb : Below W.heap.size W W') => trodAll_stays laidOut hb (by kernel_rfl) hA hlt
  obtain ⟨v0, w0, d0, e0, p0, q0, ha0, rfl, rfl, h0, r0⟩ := trodAll_cons hA
  obtain ⟨v1, w1, d1, e1, p1, q1, ha1, rfl, rfl, h1, r1⟩ := trodAll_cons r0
  obtain ⟨v2, w2, d2, e2, p2, q2, ha2, rfl, rfl, h2, r2⟩ := trodAll_cons r1
  obtain ⟨v3, w3, d3, e3, p3, q3, ha3, rfl, rfl, h3, r3⟩ := trodAll_cons r2
  obtain ⟨hz, rfl, rfl⟩ := trodAll_nil r3
  obtain rfl : args = #[v0, v1, v2, v3] := by cases args; simp_all
  clear hA0 hval0
  obtain ⟨cs0, rfl, F0⟩ := open_struct Try.underlying24 leaves24 (hval 0 24 v0 rfl rfl) h0
  obtain ⟨n0_0, _, rfl, g0_0, n0_1, _, rfl, g0_1, n0_2, _, rfl, g0_2, n0_3, _, rfl, g0_3, n0_4, _, rfl, g0_4, n0_5, _, rfl, g0_5, n0_6, _, rfl, g0_6, x0_7, _, rfl, g0_7, rfl⟩ := F0
  have g0_0 := wf_i64 g0_0
  have g0_1 := wf_i64 g0_1
  have g0_2 := wf_i64 g0_2
  have g0_3 := wf_i64 g0_3
  have g0_4 := wf_i64 g0_4
  have g0_5 := wf_i64 g0_5
  have g0_6 := wf_i64 g0_6
  obtain ⟨x1, rfl, g1⟩ := open_ems Try.underlying33 leaves32 cells32 (hval 1 33 v1 rfl rfl) h1
  obtain ⟨x2, rfl, g2⟩ := open_smps Try.underlying44 leaves40 cells40 (hval 2 44 v2 rfl rfl) h2
  obtain ⟨n3, rfl, -, -, g3⟩ := open_int Try.underlying3 (hval 3 3 v3 rfl rfl) h3
  have g3 := wf_i64 g3
  let env : Env := fun i => ([x0_7.eb, x1.eb, x2.eb] ++ x1.l.map fun q => q.2.eb : List EB).getD i default
  have hB : ∀ (k : Nat) q, x1.l[k]? = some q → ([x0_7.row, x1.row 3, x2.row] ++ x1.l.map fun q => q.2.row)[3 + k]? = some q.2.row ∧ env (3 + k) = q.2.eb := by
    intro k q hq
    refine ⟨?_, ?_⟩
    · rw [List.getElem?_append_right (by simp)]
      simp [hq]
    · show (([x0_7.eb, x1.eb, x2.eb] : List EB) ++ _).getD (3 + k) default = _
      rw [List.getD_eq_getElem?_getD, List.getElem?_append_right (by simp)]
      simp [hq]
  have R : Rel ctx ⟨fun r => r < W.heap.size, fun _ => False⟩ env (argHeap ([x0_7.row, x1.row 3, x2.row] ++ x1.l.map fun q => q.2.row)) W := by
    refine rel_args _ (fun i vs hi => ?_)
    match i, hi with
    | 0, hi => exact InList.rowOk g0_7 rfl (by simpa using hi)
    | 1, hi => exact InEms.rowOk (b := 3) g1 rfl (by simpa using hi) hB
    | 2, hi => exact InSmp.rowOk g2 rfl (by simpa using hi)
    | i + 3, hi =>
      rw [Nat.add_comm, List.getElem?_append_right (by simp)] at hi
      simp only [List.length_cons, List.length_nil, Nat.add_sub_cancel_left, List.getElem?_map, Option.map_eq_some_iff] at hi
      obtain ⟨q, hq, hr⟩ := hi
      have e := (hB i q hq).2
      rw [Nat.add_comm] at e
      exact InB.rowOk (g1.each q (List.mem_of_getElem? hq)).2.1 e hr
  have y0_7 : RI (argHeap ([x0_7.row, x1.row 3, x2.row] ++ x1.l.map fun q => q.2.row)) (x0_7.av 0) x0_7.l := InList.ri g0_7 rfl
  have y1 : EmsI (argHeap ([x0_7.row, x1.row 3, x2.row] ++ x1.l.map fun q => q.2.row)) (x1.av 1) x1.es := InEms.ri (b := 3) g1 rfl fun k q hq => (hB k q hq).1
  have y2 : SI (argHeap ([x0_7.row, x1.row 3, x2.row] ++ x1.l.map fun q => q.2.row)) (x2.av 2) x2.l := InSmp.ri g2 rfl
  have hc : ACalls ctx.main0 211 [.agg [.int .i64 n0_0, .int .i64 n0_1, .int .i64 n0_2, .int .i64 n0_3, .int .i64 n0_4, .int .i64 n0_5, .int .i64 n0_6, x0_7.av 0], x1.av 1, x2.av 2, .int .i64 n3] (argHeap ([x0_7.row, x1.row 3, x2.row] ++ x1.l.map fun q => q.2.row)) (fun r _ => r = .bool true) := SignalScenes_law (p := ⟨n0_0, n0_1, n0_2, n0_3, n0_4, n0_5, n0_6, x0_7.l⟩) has y0_7 ⟨g0_0, g0_1, g0_2, g0_3, g0_4, g0_5, g0_6, fun n hn => g0_7.num n hn⟩ y1 (InEms.h65 g1) y2 g3
  have hw := ends_of (f := 5) (vals := [.agg [.int .i64 n0_0, .int .i64 n0_1, .int .i64 n0_2, .int .i64 n0_3, .int .i64 n0_4, .int .i64 n0_5, .int .i64 n0_6, x0_7.val].toArray, x1.val, x2.val, .int .i64 n3]) (env := env) rfl hc R ?_ ?_ (by kernel_rfl)
  · obtain ⟨M, last, o, w2, t2, r1, r2, r3, r4⟩ := hw
    refine ⟨M, last, o, w2, t2, r1, r2, r3, r4.mono fun v ⟨he, bel⟩ => ?_⟩
    subst he
    exact ⟨_, _, _, _, _, [], hW', trodAll_mk1 (shut_bool Try.underlying4 _), hstay w2 bel, rfl, bel.frame _, fun h => by cases h⟩
  · intro v hv
    simp only [List.mem_cons, List.not_mem_nil, or_false] at hv
    rcases hv with rfl | rfl | rfl | rfl
    · exact ⟨trivial, trivial, trivial, trivial, trivial, trivial, trivial, InList.av_bel (w := W) (i := 0) rfl, trivial⟩
    · exact InEms.av_bel (b := 3) (i := 1) rfl
    · exact InSmp.av_bel (w := W) (i := 2) rfl
    · exact trivial
  · simp only [List.map_cons, List.map_nil, AV.val, AV.vals]
    rw [InList.av_val (x := x0_7) (i := 0) (env := env) rfl, InEms.av_val (x := x1) (i := 1) (env := env) rfl, InSmp.av_val (x := x2) (i := 2) (env := env) rfl]
    try rfl

theorem over : Rows.signalScenesRow.holds Try.pinned (OpenSpec.ofChange Rows.signalScenesSpec) :=
  OpenClaim.holds_of_wide_leaving 5 Try.f5 rfl rfl rfl rfl rfl rfl rfl ⟨rfl, rfl, rfl, rfl, rfl⟩ rfl rfl rfl rfl rfl (by kernel_rfl) Try.func5 (by kernel_rfl)
    (of_decide_eq_true (by kernel_rfl)) (by unfold Func.isWrapper; first | (rw [if_pos (by decide +kernel)]; kernel_rfl) | (rw [if_neg (by decide +kernel)]; exact ⟨rfl, rfl⟩))
    (fun os started H enc _ => lifted os started H enc)

theorem proved : Rows.SignalScenesSaid := over
#print axioms proved
end Go.Proofs.Ythapekoffnjeeaa.signalScenesDone
