/- From the lowered code's contracts to what a walk must show. -/
import Derived.Test.YtbmoggkjijnajaaAeLift
import Derived.WalkKit
import Derived.ProofKit
namespace Go.Ae
open Go.RowKit

section
variable {C : Ctx}

theorem walk_of {f : FuncId} {g : Nat} (hf : C.lk g = f) {args : List AV} {vals : List Value} {env : Env} {h : Heap} {w : World} (hc : ACalls C g args h (fun r _ => r = .bool true)) (R : Rel C ⟨fun r => r < w.heap.size, fun _ => False⟩ env h w)
    (hb : ∀ v ∈ args, v.bel h.ok) (hv : args.map (AV.val C.lk env) = vals) : Calls C.P f vals.toArray w fun e w' => e = .returned (.bool true) ∧ Below w.heap.size w w' := by
  subst hf hv
  refine (hc.2 _ env w R hb).mono ?_
  rintro e w' ⟨env', r, h', rfl, rfl, _, K, _, _, _⟩
  exact ⟨rfl, K.os, K.tape, K.output, K.size, fun k hk => K.block k hk⟩

theorem rel_empty (w : World) (env : Env) : Rel C ⟨fun r => r < w.heap.size, fun _ => False⟩ env Heap.empty w :=
  ⟨fun i b hi => (by cases hi), fun i b hi => (by cases hi), fun i j b c hi => (by cases hi), fun i b hi => (by cases hi), fun i b hi => (by cases hi), fun r hr => hr, fun i b hi => (by cases hi), fun r hr => hr.elim⟩

end
end Go.Ae
