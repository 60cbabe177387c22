/- AcquireKnown, for every input that the statement speaks of: the law returns true. No condition. -/
import Derived.Test.YtkbkpjinekcnhaaGreatRows
import Derived.WalkKit
import Derived.ProofKit
import Derived.OpenShut
import Derived.Conc.Holds
import Derived.Conc.LeavingOf
import Derived.Leaving
import Derived.Test.YtkbkpjinekcnhaaGreatK17
namespace Go.Proofs.YtkbkpjinekcnhaaGreat.acquireKnownDone
open Go.ChangeShapes Go.WideShapes Go.ChangeAt Go.RowKit Go.Ae

theorem own : ownKnob Tryz.prog.godebug = none := by kernel_rfl
theorem laidOut : laidOutB Tryz.prog = true := by kernel_rfl

set_option maxRecDepth 100000 in
theorem lifted (os : Os) (started : os.Started) (H : Type) (enc : TypeId × Value → H) :
    ReturnsInLeavingWide {} Tryz.checked os 4 .any (Rows.acquireKnownSpec.pre6 enc Tryz.prog Tryz.f4 Rows.acquireKnownRow.domain false) (Rows.acquireKnownSpec.post enc Tryz.prog Tryz.f4 false true false false) := by
  refine returnsInLeavingWide_of_change_sized (C := Tryz.checked) own started Tryz.func4
    (ChangeSpec.witness6 (enc := enc) (C := Tryz.checked) false ⟨#[], #[], []⟩ 8 (by kernel_rfl) (by kernel_rfl) (by kernel_rfl) (by kernel_rfl)) ?_
  intro W base args ds gs before hval0 hW hcnd _ _
  have hval : ∀ (j : Nat) t v, Tryz.f4.params[j]? = some t → args[j]? = some v → Value.okWide Tryz.prog W .any base t v := hval0
  have hW' := hW
  obtain ⟨p, q, hA0, hV, rfl, hfz, hnd⟩ := hW
  have hA : DataW.TrodAll enc Tryz.prog W 0 (fun _ => true) true Tryz.f4.params.toList args.toList ds p := hA0
  rw [Tryz.params4] at hA hval
  obtain ⟨rfl, rfl⟩ := trodVars_none hV
  have hlt : ∀ x ∈ p, x.block < W.heap.size := fun x hx => by simpa using hW'.lt x (by simp [hx])
  have hstay := fun W' (hb : Below W.heap.size W W') => trodAll_stays laidOut hb (by kernel_rfl) hA hlt
  obtain ⟨hz, rfl, rfl⟩ := trodAll_nil hA
  obtain rfl : args = #[] := by cases args; simp_all
  clear hA0 hval0
  let env : Env := fun i => ([] : List EB).getD i default
  have R : Rel ctx ⟨fun r => r < W.heap.size, fun _ => False⟩ env (argHeap []) W := by
    refine rel_args _ (fun i vs hi => ?_)
    simp at hi
  have hc : ACalls ctx.main0 393 [] (argHeap []) (fun r _ => r = .bool true) := AcquireKnown_law has 
  have hw := ends_of (f := 4) (vals := []) (env := env) rfl hc R ?_ ?_ (by kernel_rfl)
  · obtain ⟨M, last, o, w2, t2, r1, r2, r3, r4⟩ := hw
    refine ⟨M, last, o, w2, t2, r1, r2, r3, r4.mono fun v ⟨he, bel⟩ => ?_⟩
    subst he
    exact ⟨_, _, _, _, _, [], hW', trodAll_mk1 (shut_bool Tryz.underlying4 _), hstay w2 bel, rfl, bel.frame _, fun h => by cases h⟩
  · intro v hv
    simp only [List.mem_cons, List.not_mem_nil, or_false] at hv
  · simp only [List.map_cons, List.map_nil, AV.val, AV.vals]

theorem over : Rows.acquireKnownRow.holds Tryz.pinned (OpenSpec.ofChange Rows.acquireKnownSpec) :=
  OpenClaim.holds_of_wide_leaving 4 Tryz.f4 rfl rfl rfl rfl rfl rfl rfl ⟨rfl, rfl, rfl, rfl, rfl⟩ rfl rfl rfl rfl rfl (by kernel_rfl) Tryz.func4 (by kernel_rfl)
    (of_decide_eq_true (by kernel_rfl)) (by unfold Func.isWrapper; first | (rw [if_pos (by decide +kernel)]; kernel_rfl) | (rw [if_neg (by decide +kernel)]; exact ⟨rfl, rfl⟩))
    (fun os started H enc _ => lifted os started H enc)

theorem proved : Rows.AcquireKnownSaid := over
#print axioms proved
end Go.Proofs.YtkbkpjinekcnhaaGreat.acquireKnownDone
