/- DetectBounds, for every input that the statement speaks of: the law returns true. No condition. -/
import Derived.Test.YtcppfihmflofcaaRows
import Derived.WalkKit
import Derived.ProofKit
import Derived.OpenShut
import Derived.Test.YtcppfihmflofcaaQ13
namespace Go.Proofs.Ytcppfihmflofcaa.detectBoundsDone
open Go.ChangeShapes Go.WideShapes Go.ChangeAt Go.RowKit Go.Ae

theorem own : ownKnob Try.prog.godebug = none := by kernel_rfl
theorem laidOut : laidOutB Try.prog = true := by kernel_rfl
theorem cellsI : Try.prog.cellsOf 3 = 1 := by kernel_rfl
theorem leaves24 : lfOf Try.prog 6 24 = some [.int .i64, .int .i64, .int .i64, .int .i64, .int .i64, .int .i64, .int .i64, .ints] := by kernel_rfl
theorem leaves26 : lfOf Try.prog 6 26 = some [.int .i64, .int .i64] := by kernel_rfl

set_option maxRecDepth 100000 in
theorem lifted (os : Os) (started : os.Started) (H : Type) (enc : TypeId × Value → H) :
    ReturnsInHanded {} Try.checked os 4 .any (Rows.detectBoundsSpec.pre6 enc Try.prog Try.f4 Rows.detectBoundsRow.domain false) (Rows.detectBoundsSpec.post enc Try.prog Try.f4 false true false false) := by
  refine returnsInHanded_of_change (C := Try.checked) own started (by kernel_rfl) Try.func4
    (ChangeSpec.witness6 (enc := enc) (C := Try.checked) false ⟨#[], #[.agg #[.int .i64 0, .int .i64 0, .int .i64 0, .int .i64 0, .int .i64 0, .int .i64 0, .int .i64 0, .slice none 0 0], .agg #[.int .i64 0, .int .i64 0], .int .i64 0], []⟩ 8 (by kernel_rfl) (by kernel_rfl) (by kernel_rfl) (by kernel_rfl)) ?_
  intro W base args ds gs before hval0 hW hcnd _
  have hval : ∀ (j : Nat) t v, Try.f4.params[j]? = some t → args[j]? = some v → Value.okWide Try.prog W .any base t v := hval0
  have hW' := hW
  obtain ⟨p, q, hA0, hV, rfl, hfz, hnd⟩ := hW
  have hA : DataW.TrodAll enc Try.prog W 0 (fun _ => true) true Try.f4.params.toList args.toList ds p := hA0
  rw [Try.params4] at hA hval
  obtain ⟨rfl, rfl⟩ := trodVars_none hV
  have hlt : ∀ x ∈ p, x.block < W.heap.size := fun x hx => by simpa using hW'.lt x (by simp [hx])
  have hstay := fun W' (hb : Below W.heap.size W W') => trodAll_stays laidOut hb (by kernel_rfl) hA hlt
  obtain ⟨v0, w0, d0, e0, p0, q0, ha0, rfl, rfl, h0, r0⟩ := trodAll_cons hA
  obtain ⟨v1, w1, d1, e1, p1, q1, ha1, rfl, rfl, h1, r1⟩ := trodAll_cons r0
  obtain ⟨v2, w2, d2, e2, p2, q2, ha2, rfl, rfl, h2, r2⟩ := trodAll_cons r1
  obtain ⟨hz, rfl, rfl⟩ := trodAll_nil r2
  obtain rfl : args = #[v0, v1, v2] := by cases args; simp_all
  clear hA0 hval0
  obtain ⟨cs0, rfl, F0⟩ := open_struct Try.underlying24 leaves24 (hval 0 24 v0 rfl rfl) h0
  obtain ⟨n0_0, _, rfl, g0_0, n0_1, _, rfl, g0_1, n0_2, _, rfl, g0_2, n0_3, _, rfl, g0_3, n0_4, _, rfl, g0_4, n0_5, _, rfl, g0_5, n0_6, _, rfl, g0_6, x0_7, _, rfl, g0_7, rfl⟩ := F0
  have g0_0 := wf_i64 g0_0
  have g0_1 := wf_i64 g0_1
  have g0_2 := wf_i64 g0_2
  have g0_3 := wf_i64 g0_3
  have g0_4 := wf_i64 g0_4
  have g0_5 := wf_i64 g0_5
  have g0_6 := wf_i64 g0_6
  obtain ⟨cs1, rfl, F1⟩ := open_struct Try.underlying26 leaves26 (hval 1 26 v1 rfl rfl) h1
  obtain ⟨n1_0, _, rfl, g1_0, n1_1, _, rfl, g1_1, rfl⟩ := F1
  have g1_0 := wf_i64 g1_0
  have g1_1 := wf_i64 g1_1
  obtain ⟨n2, rfl, -, -, g2⟩ := open_int Try.underlying3 (hval 2 3 v2 rfl rfl) h2
  have g2 := wf_i64 g2
  let env : Env := fun i => ([x0_7.eb] : List EB).getD i default
  have R : Rel ctx ⟨fun r => r < W.heap.size, fun _ => False⟩ env (argHeap [x0_7.row]) W := by
    refine rel_args _ (fun i vs hi => ?_)
    match i, hi with
    | 0, hi => exact InList.rowOk g0_7 rfl (by simpa using hi)
    | i + 1, hi => simp at hi
  have y0_7 : RI (argHeap [x0_7.row]) (x0_7.av 0) x0_7.l := InList.ri g0_7 rfl
  have hc : ACalls ctx 306 [.agg [.int .i64 n0_0, .int .i64 n0_1, .int .i64 n0_2, .int .i64 n0_3, .int .i64 n0_4, .int .i64 n0_5, .int .i64 n0_6, x0_7.av 0], .agg [.int .i64 n1_0, .int .i64 n1_1], .int .i64 n2] (argHeap [x0_7.row]) (fun r _ => r = .bool true) := DetectBounds_law (has.sub (by decide)) g0_0 g0_1 g0_2 g0_3 g0_4 g0_5 g0_6 y0_7 g1_0 g1_1 g2 (fun n hn => g0_7.num n hn)
  have hw := walk_of (f := 4) (vals := [.agg [.int .i64 n0_0, .int .i64 n0_1, .int .i64 n0_2, .int .i64 n0_3, .int .i64 n0_4, .int .i64 n0_5, .int .i64 n0_6, x0_7.val].toArray, .agg [.int .i64 n1_0, .int .i64 n1_1].toArray, .int .i64 n2]) (env := env) rfl hc R ?_ ?_
  · refine hw.mono fun e W' ⟨he, bel⟩ => ?_
    subst he
    exact ⟨_, rfl, _, _, _, _, _, [], hW', trodAll_mk1 (shut_bool Try.underlying4 _), hstay W' bel, rfl, bel.frame _, fun h => by cases h⟩
  · intro v hv
    simp only [List.mem_cons, List.not_mem_nil, or_false] at hv
    rcases hv with rfl | rfl | rfl
    · exact ⟨trivial, trivial, trivial, trivial, trivial, trivial, trivial, InList.av_bel (w := W) (i := 0) rfl, trivial⟩
    · exact ⟨trivial, trivial, trivial⟩
    · exact trivial
  · simp only [List.map_cons, List.map_nil, AV.val, AV.vals]
    rw [InList.av_val (x := x0_7) (i := 0) (env := env) rfl]
    try rfl

theorem over : Rows.detectBoundsRow.holds Try.pinned (OpenSpec.ofChange Rows.detectBoundsSpec) :=
  OpenClaim.holds_of_wide 4 Try.f4 rfl rfl rfl rfl rfl rfl rfl ⟨rfl, rfl, rfl, rfl, rfl⟩ rfl rfl rfl rfl rfl (by kernel_rfl) Try.func4 (by kernel_rfl)
    (of_decide_eq_true (by kernel_rfl)) (by unfold Func.isWrapper; first | (rw [if_pos (by decide +kernel)]; kernel_rfl) | (rw [if_neg (by decide +kernel)]; exact ⟨rfl, rfl⟩))
    (fun os started H enc _ => lifted os started H enc)

theorem proved : Rows.DetectBoundsSaid := over
#print axioms proved
end Go.Proofs.Ytcppfihmflofcaa.detectBoundsDone
