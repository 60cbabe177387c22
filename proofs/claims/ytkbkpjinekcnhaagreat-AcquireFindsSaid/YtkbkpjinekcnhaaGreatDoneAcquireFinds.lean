/- AcquireFinds, for every input that the statement speaks of: the law returns true. No condition. -/
import Derived.Test.YtkbkpjinekcnhaaGreatRows
import Derived.WalkKit
import Derived.ProofKit
import Derived.OpenShut
import Derived.Conc.Holds
import Derived.Conc.LeavingOf
import Derived.Leaving
import Derived.Test.YtkbkpjinekcnhaaGreatF19
namespace Go.Proofs.YtkbkpjinekcnhaaGreat.acquireFindsDone
open Go.ChangeShapes Go.WideShapes Go.ChangeAt Go.RowKit Go.Ae

theorem own : ownKnob Tryz.prog.godebug = none := by kernel_rfl
theorem laidOut : laidOutB Tryz.prog = true := by kernel_rfl
theorem cellsI : Tryz.prog.cellsOf 3 = 1 := by kernel_rfl
theorem kc {x : InList} {i : Nat} : KnownCap (x.av i) := by
  unfold InList.av
  split
  · exact .inl rfl
  · exact .inr ⟨_, _, _, _, rfl⟩

set_option maxRecDepth 100000 in
theorem lifted (os : Os) (started : os.Started) (H : Type) (enc : TypeId × Value → H) :
    ReturnsInLeavingWide {} Tryz.checked os 6 .any (Rows.acquireFindsSpec.pre6 enc Tryz.prog Tryz.f6 Rows.acquireFindsRow.domain false) (Rows.acquireFindsSpec.post enc Tryz.prog Tryz.f6 false true false false) := by
  refine returnsInLeavingWide_of_change_sized (C := Tryz.checked) own started Tryz.func6
    (ChangeSpec.witness6 (enc := enc) (C := Tryz.checked) false ⟨#[], #[.slice none 0 0, .slice none 0 0, .slice none 0 0, .int .i64 0, .int .i64 0], []⟩ 8 (by kernel_rfl) (by kernel_rfl) (by kernel_rfl) (by kernel_rfl)) ?_
  intro W base args ds gs before hval0 hW hcnd _ _
  have hval : ∀ (j : Nat) t v, Tryz.f6.params[j]? = some t → args[j]? = some v → Value.okWide Tryz.prog W .any base t v := hval0
  have hW' := hW
  obtain ⟨p, q, hA0, hV, rfl, hfz, hnd⟩ := hW
  have hA : DataW.TrodAll enc Tryz.prog W 0 (fun _ => true) true Tryz.f6.params.toList args.toList ds p := hA0
  rw [Tryz.params6] at hA hval
  obtain ⟨rfl, rfl⟩ := trodVars_none hV
  have hlt : ∀ x ∈ p, x.block < W.heap.size := fun x hx => by simpa using hW'.lt x (by simp [hx])
  have hstay := fun W' (hb : Below W.heap.size W W') => trodAll_stays laidOut hb (by kernel_rfl) hA hlt
  obtain ⟨v0, w0, d0, e0, p0, q0, ha0, rfl, rfl, h0, r0⟩ := trodAll_cons hA
  obtain ⟨v1, w1, d1, e1, p1, q1, ha1, rfl, rfl, h1, r1⟩ := trodAll_cons r0
  obtain ⟨v2, w2, d2, e2, p2, q2, ha2, rfl, rfl, h2, r2⟩ := trodAll_cons r1
  obtain ⟨v3, w3, d3, e3, p3, q3, ha3, rfl, rfl, h3, r3⟩ := trodAll_cons r2
  obtain ⟨v4, w4, d4, e4, p4, q4, ha4, rfl, rfl, h4, r4⟩ := trodAll_cons r3
  obtain ⟨hz, rfl, rfl⟩ := trodAll_nil r4
  obtain rfl : args = #[v0, v1, v2, v3, v4] := by cases args; simp_all
  clear hA0 hval0
  obtain ⟨x0, rfl, g0⟩ := open_list Tryz.underlying23 Tryz.underlying3 cellsI (hval 0 23 v0 rfl rfl) h0
  obtain ⟨x1, rfl, g1⟩ := open_list Tryz.underlying23 Tryz.underlying3 cellsI (hval 1 23 v1 rfl rfl) h1
  obtain ⟨x2, rfl, g2⟩ := open_list Tryz.underlying23 Tryz.underlying3 cellsI (hval 2 23 v2 rfl rfl) h2
  obtain ⟨n3, rfl, -, -, g3⟩ := open_int Tryz.underlying3 (hval 3 3 v3 rfl rfl) h3
  have g3 := wf_i64 g3
  obtain ⟨n4, rfl, -, -, g4⟩ := open_int Tryz.underlying3 (hval 4 3 v4 rfl rfl) h4
  have g4 := wf_i64 g4
  let env : Env := fun i => ([x0.eb, x1.eb, x2.eb] : List EB).getD i default
  have R : Rel ctx ⟨fun r => r < W.heap.size, fun _ => False⟩ env (argHeap [x0.row, x1.row, x2.row]) W := by
    refine rel_args _ (fun i vs hi => ?_)
    match i, hi with
    | 0, hi => exact InList.rowOk g0 rfl (by simpa using hi)
    | 1, hi => exact InList.rowOk g1 rfl (by simpa using hi)
    | 2, hi => exact InList.rowOk g2 rfl (by simpa using hi)
    | i + 3, hi => simp at hi
  have y0 : RI (argHeap [x0.row, x1.row, x2.row]) (x0.av 0) x0.l := InList.ri g0 rfl
  have y1 : RI (argHeap [x0.row, x1.row, x2.row]) (x1.av 1) x1.l := InList.ri g1 rfl
  have y2 : RI (argHeap [x0.row, x1.row, x2.row]) (x2.av 2) x2.l := InList.ri g2 rfl
  have hc : ACalls ctx.main0 395 [x0.av 0, x1.av 1, x2.av 2, .int .i64 n3, .int .i64 n4] (argHeap [x0.row, x1.row, x2.row]) (fun r _ => r = .bool true) := AcquireFinds_law has y0 y1 y2 g3 g4 (fun n hn => g0.num n hn) (fun n hn => g1.num n hn) (fun n hn => g2.num n hn) kc
  have hw := ends_of (f := 6) (vals := [x0.val, x1.val, x2.val, .int .i64 n3, .int .i64 n4]) (env := env) rfl hc R ?_ ?_ (by kernel_rfl)
  · obtain ⟨M, last, o, w2, t2, r1, r2, r3, r4⟩ := hw
    refine ⟨M, last, o, w2, t2, r1, r2, r3, r4.mono fun v ⟨he, bel⟩ => ?_⟩
    subst he
    exact ⟨_, _, _, _, _, [], hW', trodAll_mk1 (shut_bool Tryz.underlying4 _), hstay w2 bel, rfl, bel.frame _, fun h => by cases h⟩
  · intro v hv
    simp only [List.mem_cons, List.not_mem_nil, or_false] at hv
    rcases hv with rfl | rfl | rfl | rfl | rfl
    · exact InList.av_bel (w := W) (i := 0) rfl
    · exact InList.av_bel (w := W) (i := 1) rfl
    · exact InList.av_bel (w := W) (i := 2) rfl
    · exact trivial
    · exact trivial
  · simp only [List.map_cons, List.map_nil, AV.val, AV.vals]
    rw [InList.av_val (x := x0) (i := 0) (env := env) rfl, InList.av_val (x := x1) (i := 1) (env := env) rfl, InList.av_val (x := x2) (i := 2) (env := env) rfl]
    try rfl

theorem over : Rows.acquireFindsRow.holds Tryz.pinned (OpenSpec.ofChange Rows.acquireFindsSpec) :=
  OpenClaim.holds_of_wide_leaving 6 Tryz.f6 rfl rfl rfl rfl rfl rfl rfl ⟨rfl, rfl, rfl, rfl, rfl⟩ rfl rfl rfl rfl rfl (by kernel_rfl) Tryz.func6 (by kernel_rfl)
    (of_decide_eq_true (by kernel_rfl)) (by unfold Func.isWrapper; first | (rw [if_pos (by decide +kernel)]; kernel_rfl) | (rw [if_neg (by decide +kernel)]; exact ⟨rfl, rfl⟩))
    (fun os started H enc _ => lifted os started H enc)

theorem proved : Rows.AcquireFindsSaid := over
#print axioms proved
end Go.Proofs.YtkbkpjinekcnhaaGreat.acquireFindsDone
