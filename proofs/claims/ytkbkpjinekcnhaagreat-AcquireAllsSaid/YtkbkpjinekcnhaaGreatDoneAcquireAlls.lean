/- AcquireAlls, for every input that the statement speaks of: the law returns true. No condition. -/
import Derived.Test.YtkbkpjinekcnhaaGreatRows
import Derived.WalkKit
import Derived.ProofKit
import Derived.OpenShut
import Derived.Conc.Holds
import Derived.Conc.LeavingOf
import Derived.Leaving
import Derived.Test.YtkbkpjinekcnhaaGreatA18
namespace Go.Proofs.YtkbkpjinekcnhaaGreat.acquireAllsDone
open Go.ChangeShapes Go.WideShapes Go.ChangeAt Go.RowKit Go.Ae

theorem own : ownKnob Tryz.prog.godebug = none := by kernel_rfl
theorem laidOut : laidOutB Tryz.prog = true := by kernel_rfl
theorem cellsI : Tryz.prog.cellsOf 3 = 1 := by kernel_rfl
theorem kcS {x : InSmp} {i : Nat} : KnownCap (x.av i) := by
  unfold InSmp.av
  split
  · exact .inl rfl
  · exact .inr ⟨_, _, _, _, rfl⟩
theorem kc {x : InList} {i : Nat} : KnownCap (x.av i) := by
  unfold InList.av
  split
  · exact .inl rfl
  · exact .inr ⟨_, _, _, _, rfl⟩
theorem leaves64 : lfOf Tryz.prog 6 64 = some [.int .i64, .int .i64] := by kernel_rfl
theorem cells64 : Tryz.prog.cellsOf 64 = 2 := by kernel_rfl
theorem leaves25 : lfOf Tryz.prog 6 25 = some [.int .i64, .int .i64, .int .i64, .int .i64, .int .i64, .int .i64, .int .i64, .ints] := by kernel_rfl
theorem leaves27 : lfOf Tryz.prog 6 27 = some [.int .i64, .int .i64] := by kernel_rfl
theorem leaves29 : lfOf Tryz.prog 6 29 = some [.int .i64, .int .i64, .int .i64, .int .i64] := by kernel_rfl

set_option maxRecDepth 100000 in
theorem lifted (os : Os) (started : os.Started) (H : Type) (enc : TypeId × Value → H) :
    ReturnsInLeavingWide {} Tryz.checked os 3 .any (Rows.acquireAllsSpec.pre6 enc Tryz.prog Tryz.f3 Rows.acquireAllsRow.domain false) (Rows.acquireAllsSpec.post enc Tryz.prog Tryz.f3 false true false false) := by
  refine returnsInLeavingWide_of_change_sized (C := Tryz.checked) own started Tryz.func3
    (ChangeSpec.witness6 (enc := enc) (C := Tryz.checked) false ⟨#[], #[.slice none 0 0, .agg #[.int .i64 0, .int .i64 0, .int .i64 0, .int .i64 0, .int .i64 0, .int .i64 0, .int .i64 0, .slice none 0 0], .agg #[.int .i64 0, .int .i64 0], .int .i64 0, .agg #[.int .i64 0, .int .i64 0, .int .i64 0, .int .i64 0], .int .i64 0, .int .i64 0], []⟩ 8 (by kernel_rfl) (by kernel_rfl) (by kernel_rfl) (by kernel_rfl)) ?_
  intro W base args ds gs before hval0 hW hcnd _ _
  have hval : ∀ (j : Nat) t v, Tryz.f3.params[j]? = some t → args[j]? = some v → Value.okWide Tryz.prog W .any base t v := hval0
  have hW' := hW
  obtain ⟨p, q, hA0, hV, rfl, hfz, hnd⟩ := hW
  have hA : DataW.TrodAll enc Tryz.prog W 0 (fun _ => true) true Tryz.f3.params.toList args.toList ds p := hA0
  rw [Tryz.params3] at hA hval
  obtain ⟨rfl, rfl⟩ := trodVars_none hV
  have hlt : ∀ x ∈ p, x.block < W.heap.size := fun x hx => by simpa using hW'.lt x (by simp [hx])
  have hstay := fun W' (hb : Below W.heap.size W W') => trodAll_stays laidOut hb (by kernel_rfl) hA hlt
  obtain ⟨v0, w0, d0, e0, p0, q0, ha0, rfl, rfl, h0, r0⟩ := trodAll_cons hA
  obtain ⟨v1, w1, d1, e1, p1, q1, ha1, rfl, rfl, h1, r1⟩ := trodAll_cons r0
  obtain ⟨v2, w2, d2, e2, p2, q2, ha2, rfl, rfl, h2, r2⟩ := trodAll_cons r1
  obtain ⟨v3, w3, d3, e3, p3, q3, ha3, rfl, rfl, h3, r3⟩ := trodAll_cons r2
  obtain ⟨v4, w4, d4, e4, p4, q4, ha4, rfl, rfl, h4, r4⟩ := trodAll_cons r3
  obtain ⟨v5, w5, d5, e5, p5, q5, ha5, rfl, rfl, h5, r5⟩ := trodAll_cons r4
  obtain ⟨v6, w6, d6, e6, p6, q6, ha6, rfl, rfl, h6, r6⟩ := trodAll_cons r5
  obtain ⟨hz, rfl, rfl⟩ := trodAll_nil r6
  obtain rfl : args = #[v0, v1, v2, v3, v4, v5, v6] := by cases args; simp_all
  clear hA0 hval0
  obtain ⟨x0, rfl, g0⟩ := open_smps Tryz.underlying22 leaves64 cells64 (hval 0 22 v0 rfl rfl) h0
  obtain ⟨cs1, rfl, F1⟩ := open_struct Tryz.underlying25 leaves25 (hval 1 25 v1 rfl rfl) h1
  obtain ⟨n1_0, _, rfl, g1_0, n1_1, _, rfl, g1_1, n1_2, _, rfl, g1_2, n1_3, _, rfl, g1_3, n1_4, _, rfl, g1_4, n1_5, _, rfl, g1_5, n1_6, _, rfl, g1_6, x1_7, _, rfl, g1_7, rfl⟩ := F1
  have g1_0 := wf_i64 g1_0
  have g1_1 := wf_i64 g1_1
  have g1_2 := wf_i64 g1_2
  have g1_3 := wf_i64 g1_3
  have g1_4 := wf_i64 g1_4
  have g1_5 := wf_i64 g1_5
  have g1_6 := wf_i64 g1_6
  obtain ⟨cs2, rfl, F2⟩ := open_struct Tryz.underlying27 leaves27 (hval 2 27 v2 rfl rfl) h2
  obtain ⟨n2_0, _, rfl, g2_0, n2_1, _, rfl, g2_1, rfl⟩ := F2
  have g2_0 := wf_i64 g2_0
  have g2_1 := wf_i64 g2_1
  obtain ⟨n3, rfl, -, -, g3⟩ := open_int Tryz.underlying3 (hval 3 3 v3 rfl rfl) h3
  have g3 := wf_i64 g3
  obtain ⟨cs4, rfl, F4⟩ := open_struct Tryz.underlying29 leaves29 (hval 4 29 v4 rfl rfl) h4
  obtain ⟨n4_0, _, rfl, g4_0, n4_1, _, rfl, g4_1, n4_2, _, rfl, g4_2, n4_3, _, rfl, g4_3, rfl⟩ := F4
  have g4_0 := wf_i64 g4_0
  have g4_1 := wf_i64 g4_1
  have g4_2 := wf_i64 g4_2
  have g4_3 := wf_i64 g4_3
  obtain ⟨n5, rfl, -, -, g5⟩ := open_int Tryz.underlying3 (hval 5 3 v5 rfl rfl) h5
  have g5 := wf_i64 g5
  obtain ⟨n6, rfl, -, -, g6⟩ := open_int Tryz.underlying3 (hval 6 3 v6 rfl rfl) h6
  have g6 := wf_i64 g6
  let env : Env := fun i => ([x0.eb, x1_7.eb] : List EB).getD i default
  have R : Rel ctx ⟨fun r => r < W.heap.size, fun _ => False⟩ env (argHeap [x0.row, x1_7.row]) W := by
    refine rel_args _ (fun i vs hi => ?_)
    match i, hi with
    | 0, hi => exact InSmp.rowOk g0 rfl (by simpa using hi)
    | 1, hi => exact InList.rowOk g1_7 rfl (by simpa using hi)
    | i + 2, hi => simp at hi
  have y0 : SI (argHeap [x0.row, x1_7.row]) (x0.av 0) x0.l := InSmp.ri g0 rfl
  have y1_7 : RI (argHeap [x0.row, x1_7.row]) (x1_7.av 1) x1_7.l := InList.ri g1_7 rfl
  have hc : ACalls ctx.main0 392 [x0.av 0, .agg [.int .i64 n1_0, .int .i64 n1_1, .int .i64 n1_2, .int .i64 n1_3, .int .i64 n1_4, .int .i64 n1_5, .int .i64 n1_6, x1_7.av 1], .agg [.int .i64 n2_0, .int .i64 n2_1], .int .i64 n3, .agg [.int .i64 n4_0, .int .i64 n4_1, .int .i64 n4_2, .int .i64 n4_3], .int .i64 n5, .int .i64 n6] (argHeap [x0.row, x1_7.row]) (fun r _ => r = .bool true) := AcquireAlls_law has y0 g1_0 g1_1 g1_2 g1_3 g1_4 g1_5 g1_6 y1_7 g2_0 g2_1 g3 g4_0 g4_1 g4_2 g4_3 g5 g6 (fun n hn => g0.num n hn) (fun n hn => g1_7.num n hn) kcS kc
  have hw := ends_of (f := 3) (vals := [x0.val, .agg [.int .i64 n1_0, .int .i64 n1_1, .int .i64 n1_2, .int .i64 n1_3, .int .i64 n1_4, .int .i64 n1_5, .int .i64 n1_6, x1_7.val].toArray, .agg [.int .i64 n2_0, .int .i64 n2_1].toArray, .int .i64 n3, .agg [.int .i64 n4_0, .int .i64 n4_1, .int .i64 n4_2, .int .i64 n4_3].toArray, .int .i64 n5, .int .i64 n6]) (env := env) rfl hc R ?_ ?_ (by kernel_rfl)
  · obtain ⟨M, last, o, w2, t2, r1, r2, r3, r4⟩ := hw
    refine ⟨M, last, o, w2, t2, r1, r2, r3, r4.mono fun v ⟨he, bel⟩ => ?_⟩
    subst he
    exact ⟨_, _, _, _, _, [], hW', trodAll_mk1 (shut_bool Tryz.underlying4 _), hstay w2 bel, rfl, bel.frame _, fun h => by cases h⟩
  · intro v hv
    simp only [List.mem_cons, List.not_mem_nil, or_false] at hv
    rcases hv with rfl | rfl | rfl | rfl | rfl | rfl | rfl
    · exact InSmp.av_bel (w := W) (i := 0) rfl
    · exact ⟨trivial, trivial, trivial, trivial, trivial, trivial, trivial, InList.av_bel (w := W) (i := 1) rfl, trivial⟩
    · exact ⟨trivial, trivial, trivial⟩
    · exact trivial
    · exact ⟨trivial, trivial, trivial, trivial, trivial⟩
    · exact trivial
    · exact trivial
  · simp only [List.map_cons, List.map_nil, AV.val, AV.vals]
    rw [InSmp.av_val (x := x0) (i := 0) (env := env) rfl, InList.av_val (x := x1_7) (i := 1) (env := env) rfl]
    try rfl

theorem over : Rows.acquireAllsRow.holds Tryz.pinned (OpenSpec.ofChange Rows.acquireAllsSpec) :=
  OpenClaim.holds_of_wide_leaving 3 Tryz.f3 rfl rfl rfl rfl rfl rfl rfl ⟨rfl, rfl, rfl, rfl, rfl⟩ rfl rfl rfl rfl rfl (by kernel_rfl) Tryz.func3 (by kernel_rfl)
    (of_decide_eq_true (by kernel_rfl)) (by unfold Func.isWrapper; first | (rw [if_pos (by decide +kernel)]; kernel_rfl) | (rw [if_neg (by decide +kernel)]; exact ⟨rfl, rfl⟩))
    (fun os started H enc _ => lifted os started H enc)

theorem proved : Rows.AcquireAllsSaid := over
#print axioms proved
end Go.Proofs.YtkbkpjinekcnhaaGreat.acquireAllsDone
