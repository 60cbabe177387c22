/- GoldFinds, for every input that the statement speaks of: the law returns true. No condition. -/
import Derived.Test.YtcmdajkkhghgdaaRows
import Derived.WalkKit
import Derived.ProofKit
import Derived.OpenShut
import Derived.Test.YtcmdajkkhghgdaaP11
namespace Go.Proofs.Ytcmdajkkhghgdaa.goldFindsDone
open Go.ChangeShapes Go.WideShapes Go.ChangeAt Go.RowKit Go.Ae

theorem own : ownKnob Try.prog.godebug = none := by kernel_rfl
theorem laidOut : laidOutB Try.prog = true := by kernel_rfl
theorem cellsI : Try.prog.cellsOf 3 = 1 := by kernel_rfl

set_option maxRecDepth 100000 in
theorem lifted (os : Os) (started : os.Started) (H : Type) (enc : TypeId × Value → H) :
    ReturnsInHanded {} Try.checked os 5 .any (Rows.goldFindsSpec.pre6 enc Try.prog Try.f5 Rows.goldFindsRow.domain false) (Rows.goldFindsSpec.post enc Try.prog Try.f5 false true false false) := by
  refine returnsInHanded_of_change (C := Try.checked) own started (by kernel_rfl) Try.func5
    (ChangeSpec.witness6 (enc := enc) (C := Try.checked) false ⟨#[], #[.int .i64 0, .slice none 0 0], []⟩ 8 (by kernel_rfl) (by kernel_rfl) (by kernel_rfl) (by kernel_rfl)) ?_
  intro W base args ds gs before hval0 hW hcnd _
  have hval : ∀ (j : Nat) t v, Try.f5.params[j]? = some t → args[j]? = some v → Value.okWide Try.prog W .any base t v := hval0
  have hW' := hW
  obtain ⟨p, q, hA0, hV, rfl, hfz, hnd⟩ := hW
  have hA : DataW.TrodAll enc Try.prog W 0 (fun _ => true) true Try.f5.params.toList args.toList ds p := hA0
  rw [Try.params5] at hA hval
  obtain ⟨rfl, rfl⟩ := trodVars_none hV
  have hlt : ∀ x ∈ p, x.block < W.heap.size := fun x hx => by simpa using hW'.lt x (by simp [hx])
  have hstay := fun W' (hb : Below W.heap.size W W') => trodAll_stays laidOut hb (by kernel_rfl) hA hlt
  obtain ⟨v0, w0, d0, e0, p0, q0, ha0, rfl, rfl, h0, r0⟩ := trodAll_cons hA
  obtain ⟨v1, w1, d1, e1, p1, q1, ha1, rfl, rfl, h1, r1⟩ := trodAll_cons r0
  obtain ⟨hz, rfl, rfl⟩ := trodAll_nil r1
  obtain rfl : args = #[v0, v1] := by cases args; simp_all
  clear hA0 hval0
  obtain ⟨n0, rfl, -, -, g0⟩ := open_int Try.underlying3 (hval 0 3 v0 rfl rfl) h0
  have g0 := wf_i64 g0
  obtain ⟨x1, rfl, g1⟩ := open_list Try.underlying25 Try.underlying3 cellsI (hval 1 25 v1 rfl rfl) h1
  let env : Env := fun i => ([x1.eb] : List EB).getD i default
  have R : Rel ctx ⟨fun r => r < W.heap.size, fun _ => False⟩ env (argHeap [x1.row]) W := by
    refine rel_args _ (fun i vs hi => ?_)
    match i, hi with
    | 0, hi => exact InList.rowOk g1 rfl (by simpa using hi)
    | i + 1, hi => simp at hi
  have y1 : RI (argHeap [x1.row]) (x1.av 0) x1.l := InList.ri g1 rfl
  have hc : ACalls ctx 64 [.int .i64 n0, x1.av 0] (argHeap [x1.row]) (fun r _ => r = .bool true) := GoldFinds_law (has.sub (by decide)) g0 y1 (fun n hn => g1.num n hn)
  have hw := walk_of (f := 5) (vals := [.int .i64 n0, x1.val]) (env := env) rfl hc R ?_ ?_
  · refine hw.mono fun e W' ⟨he, bel⟩ => ?_
    subst he
    exact ⟨_, rfl, _, _, _, _, _, [], hW', trodAll_mk1 (shut_bool Try.underlying4 _), hstay W' bel, rfl, bel.frame _, fun h => by cases h⟩
  · intro v hv
    simp only [List.mem_cons, List.not_mem_nil, or_false] at hv
    rcases hv with rfl | rfl
    · trivial
    · exact InList.av_bel (w := W) (i := 0) rfl
  · simp only [List.map_cons, List.map_nil]
    rw [InList.av_val (x := x1) (i := 0) (env := env) rfl]
    try rfl

theorem over : Rows.goldFindsRow.holds Try.pinned (OpenSpec.ofChange Rows.goldFindsSpec) :=
  OpenClaim.holds_of_wide 5 Try.f5 rfl rfl rfl rfl rfl rfl rfl ⟨rfl, rfl, rfl, rfl, rfl⟩ rfl rfl rfl rfl rfl (by kernel_rfl) Try.func5 (by kernel_rfl)
    (of_decide_eq_true (by kernel_rfl)) (by unfold Func.isWrapper; first | (rw [if_pos (by decide +kernel)]; kernel_rfl) | (rw [if_neg (by decide +kernel)]; exact ⟨rfl, rfl⟩))
    (fun os started H enc _ => lifted os started H enc)

theorem proved : Rows.GoldFindsSaid := over
#print axioms proved
end Go.Proofs.Ytcmdajkkhghgdaa.goldFindsDone
