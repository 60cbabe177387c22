/-
  No cell of these rows narrows 'for every input' (looked for: loops, veiled, ifaces, maps, wideKeys, modest, calm, conditions, laid).
  DERIVED. THE GIVEN ROWS OF THIS SEAT. 8 by the template 'for every input the law returns true; each argument reads behind the call as it read before'; 0 by the template 'total and deterministic' (their statements: YthapekoffnjeeaaTotals.lean).
  GIVEN WITH THE SEED: the statements are not yours to turn. If you find one false, say at which input.
  Laid BY PROGRAM, IN A SANDBOX (cutbox-rows.mjs): the forced cells as the released guide's own fill.sh prints them over the translation a390ea436fc5bf7a… (all of the seat's roots in one cut). By AI agents, Wed Nov 11 2026. No macro, syntax, notation, axiom, sorry.
-/
import Derived.Test.YthapekoffnjeeaaChecked
import GoSem.Claim
import GoSem.ClaimJoined
import GoSem.ClaimMapViews
import Derived.JoinedTies
import Derived.KernelRfl
namespace Go.Proofs.Ythapekoffnjeeaa
/- THE CELL 'sum', in the pinned program and in every row, IS THE sha256 OF THE DUMP (.gsa) THAT YthapekoffnjeeaaProg.lean LOADS. Nothing in Lean hashes anything: it is a label: what it is worth is what the hold of that sum in a sandbox is worth. -/
noncomputable def Try.pinned : Pinned := { name := "ythapekoffnjeeaa", sum := "a390ea436fc5bf7a23eb84aa884893d271cb85645e7cc5b1c8c364145e28811f", checked := Try.checked }
namespace Rows
def none {H : Type} : Left H := { results := [], args := [] }

/-- 'skyfixlaw12.SignalPlans': WHATEVER THE INPUT: true; the input reads as it did. -/
def signalPlansSpec : ChangeSpec := { name := "signalPlans", fn := fun _ => fun
  | [d] => { results := [.lit (.bool true)], args := [d] }
  | _ => none }
def signalPlansRow : OpenClaim := { program := "ythapekoffnjeeaa", sum := "a390ea436fc5bf7a23eb84aa884893d271cb85645e7cc5b1c8c364145e28811f", func := "skyfix/skyfixlaw12.SignalPlans", spec := "signalPlans", unfollowed := true, recurses := true, leaving := true, apart := false }
def SignalPlansSaid : Prop := signalPlansRow.holds Try.pinned (OpenSpec.ofChange signalPlansSpec)

/-- ITS FALSE NEIGHBOUR: 'it returns false'. Refute it at one input. -/
def signalPlansWrong : ChangeSpec := { name := "signalPlans", fn := fun _ => fun
  | [d] => { results := [.lit (.bool false)], args := [d] }
  | _ => none }
def SignalPlansWrongFalsely : Prop := signalPlansRow.holds Try.pinned (OpenSpec.ofChange signalPlansWrong)

/-- 'skyfixlaw12.SignalEmitters': WHATEVER THE INPUT: true; the input reads as it did. -/
def signalEmittersSpec : ChangeSpec := { name := "signalEmitters", fn := fun _ => fun
  | [d1, d2, d3] => { results := [.lit (.bool true)], args := [d1, d2, d3] }
  | _ => none }
def signalEmittersRow : OpenClaim := { program := "ythapekoffnjeeaa", sum := "a390ea436fc5bf7a23eb84aa884893d271cb85645e7cc5b1c8c364145e28811f", func := "skyfix/skyfixlaw12.SignalEmitters", spec := "signalEmitters", unfollowed := true, recurses := true, leaving := true, apart := false }
def SignalEmittersSaid : Prop := signalEmittersRow.holds Try.pinned (OpenSpec.ofChange signalEmittersSpec)

/-- ITS FALSE NEIGHBOUR: 'it returns false'. Refute it at one input. -/
def signalEmittersWrong : ChangeSpec := { name := "signalEmitters", fn := fun _ => fun
  | [d1, d2, d3] => { results := [.lit (.bool false)], args := [d1, d2, d3] }
  | _ => none }
def SignalEmittersWrongFalsely : Prop := signalEmittersRow.holds Try.pinned (OpenSpec.ofChange signalEmittersWrong)

/-- 'skyfixlaw12.SignalScenes': WHATEVER THE INPUT: true; the input reads as it did. -/
def signalScenesSpec : ChangeSpec := { name := "signalScenes", fn := fun _ => fun
  | [d1, d2, d3, d4] => { results := [.lit (.bool true)], args := [d1, d2, d3, d4] }
  | _ => none }
def signalScenesRow : OpenClaim := { program := "ythapekoffnjeeaa", sum := "a390ea436fc5bf7a23eb84aa884893d271cb85645e7cc5b1c8c364145e28811f", func := "skyfix/skyfixlaw12.SignalScenes", spec := "signalScenes", unfollowed := true, recurses := true, leaving := true, apart := false }
def SignalScenesSaid : Prop := signalScenesRow.holds Try.pinned (OpenSpec.ofChange signalScenesSpec)

/-- ITS FALSE NEIGHBOUR: 'it returns false'. Refute it at one input. -/
def signalScenesWrong : ChangeSpec := { name := "signalScenes", fn := fun _ => fun
  | [d1, d2, d3, d4] => { results := [.lit (.bool false)], args := [d1, d2, d3, d4] }
  | _ => none }
def SignalScenesWrongFalsely : Prop := signalScenesRow.holds Try.pinned (OpenSpec.ofChange signalScenesWrong)

/-- 'skyfixlaw12.SignalKnown': WHATEVER THE INPUT: true; the input reads as it did. -/
def signalKnownSpec : ChangeSpec := { name := "signalKnown", fn := fun _ => fun
  | [] => { results := [.lit (.bool true)], args := [] }
  | _ => none }
def signalKnownRow : OpenClaim := { program := "ythapekoffnjeeaa", sum := "a390ea436fc5bf7a23eb84aa884893d271cb85645e7cc5b1c8c364145e28811f", func := "skyfix/skyfixlaw12.SignalKnown", spec := "signalKnown", unfollowed := true, recurses := true, leaving := true, apart := false }
def SignalKnownSaid : Prop := signalKnownRow.holds Try.pinned (OpenSpec.ofChange signalKnownSpec)

/-- ITS FALSE NEIGHBOUR: 'it returns false'. Refute it at one input. -/
def signalKnownWrong : ChangeSpec := { name := "signalKnown", fn := fun _ => fun
  | [] => { results := [.lit (.bool false)], args := [] }
  | _ => none }
def SignalKnownWrongFalsely : Prop := signalKnownRow.holds Try.pinned (OpenSpec.ofChange signalKnownWrong)

/-- 'skyfixlaw12.SignalPeriods': WHATEVER THE INPUT: true; the input reads as it did. -/
def signalPeriodsSpec : ChangeSpec := { name := "signalPeriods", fn := fun _ => fun
  | [d1, d2, d3] => { results := [.lit (.bool true)], args := [d1, d2, d3] }
  | _ => none }
def signalPeriodsRow : OpenClaim := { program := "ythapekoffnjeeaa", sum := "a390ea436fc5bf7a23eb84aa884893d271cb85645e7cc5b1c8c364145e28811f", func := "skyfix/skyfixlaw12.SignalPeriods", spec := "signalPeriods", unfollowed := true, recurses := true, leaving := true, apart := false }
def SignalPeriodsSaid : Prop := signalPeriodsRow.holds Try.pinned (OpenSpec.ofChange signalPeriodsSpec)

/-- ITS FALSE NEIGHBOUR: 'it returns false'. Refute it at one input. -/
def signalPeriodsWrong : ChangeSpec := { name := "signalPeriods", fn := fun _ => fun
  | [d1, d2, d3] => { results := [.lit (.bool false)], args := [d1, d2, d3] }
  | _ => none }
def SignalPeriodsWrongFalsely : Prop := signalPeriodsRow.holds Try.pinned (OpenSpec.ofChange signalPeriodsWrong)

/-- 'skyfixlaw12.SignalAdds': WHATEVER THE INPUT: true; the input reads as it did. -/
def signalAddsSpec : ChangeSpec := { name := "signalAdds", fn := fun _ => fun
  | [d1, d2, d3, d4, d5] => { results := [.lit (.bool true)], args := [d1, d2, d3, d4, d5] }
  | _ => none }
def signalAddsRow : OpenClaim := { program := "ythapekoffnjeeaa", sum := "a390ea436fc5bf7a23eb84aa884893d271cb85645e7cc5b1c8c364145e28811f", func := "skyfix/skyfixlaw12.SignalAdds", spec := "signalAdds", unfollowed := true, recurses := true, leaving := true, apart := false }
def SignalAddsSaid : Prop := signalAddsRow.holds Try.pinned (OpenSpec.ofChange signalAddsSpec)

/-- ITS FALSE NEIGHBOUR: 'it returns false'. Refute it at one input. -/
def signalAddsWrong : ChangeSpec := { name := "signalAdds", fn := fun _ => fun
  | [d1, d2, d3, d4, d5] => { results := [.lit (.bool false)], args := [d1, d2, d3, d4, d5] }
  | _ => none }
def SignalAddsWrongFalsely : Prop := signalAddsRow.holds Try.pinned (OpenSpec.ofChange signalAddsWrong)

/-- 'skyfixlaw12.SignalRepeats': WHATEVER THE INPUT: true; the input reads as it did. -/
def signalRepeatsSpec : ChangeSpec := { name := "signalRepeats", fn := fun _ => fun
  | [d1, d2, d3] => { results := [.lit (.bool true)], args := [d1, d2, d3] }
  | _ => none }
def signalRepeatsRow : OpenClaim := { program := "ythapekoffnjeeaa", sum := "a390ea436fc5bf7a23eb84aa884893d271cb85645e7cc5b1c8c364145e28811f", func := "skyfix/skyfixlaw12.SignalRepeats", spec := "signalRepeats", unfollowed := true, recurses := true, leaving := true, apart := false }
def SignalRepeatsSaid : Prop := signalRepeatsRow.holds Try.pinned (OpenSpec.ofChange signalRepeatsSpec)

/-- ITS FALSE NEIGHBOUR: 'it returns false'. Refute it at one input. -/
def signalRepeatsWrong : ChangeSpec := { name := "signalRepeats", fn := fun _ => fun
  | [d1, d2, d3] => { results := [.lit (.bool false)], args := [d1, d2, d3] }
  | _ => none }
def SignalRepeatsWrongFalsely : Prop := signalRepeatsRow.holds Try.pinned (OpenSpec.ofChange signalRepeatsWrong)

/-- 'skyfixlaw12.SignalBounds': WHATEVER THE INPUT: true; the input reads as it did. -/
def signalBoundsSpec : ChangeSpec := { name := "signalBounds", fn := fun _ => fun
  | [d1, d2, d3, d4] => { results := [.lit (.bool true)], args := [d1, d2, d3, d4] }
  | _ => none }
def signalBoundsRow : OpenClaim := { program := "ythapekoffnjeeaa", sum := "a390ea436fc5bf7a23eb84aa884893d271cb85645e7cc5b1c8c364145e28811f", func := "skyfix/skyfixlaw12.SignalBounds", spec := "signalBounds", unfollowed := true, recurses := true, leaving := true, apart := false }
def SignalBoundsSaid : Prop := signalBoundsRow.holds Try.pinned (OpenSpec.ofChange signalBoundsSpec)

/-- ITS FALSE NEIGHBOUR: 'it returns false'. Refute it at one input. -/
def signalBoundsWrong : ChangeSpec := { name := "signalBounds", fn := fun _ => fun
  | [d1, d2, d3, d4] => { results := [.lit (.bool false)], args := [d1, d2, d3, d4] }
  | _ => none }
def SignalBoundsWrongFalsely : Prop := signalBoundsRow.holds Try.pinned (OpenSpec.ofChange signalBoundsWrong)

/- THE SECOND FORM. 'bulk': how many values and letters a reading holds, each counted each time it is reached (what is shared counts as often as it is met; a slice's spare places count too). A statement '..UptoSaid' is the law's where the arguments, and the package variables that the reading takes, are together of bulk at most 1048576: NARROWER than '..Said'. Prove '..Said' where nothing that the law and all that it calls make is longer than what came in: it says more and counts as full. Else prove '..UptoSaid'. A law counts once. -/
mutual
def uptoBulk {H : Type} : DataW H → Nat
  | .lit (.string bytes) => bytes.length + 1
  | .lit _ => 1
  | .nil => 1
  | .ptr d => uptoBulk d + 1
  | .slice elems spare => uptoBulkAll elems + uptoBulkAll spare + 1
  | .agg parts => uptoBulkAll parts + 1
  | .iface _ d => uptoBulk d + 1
  | .map entries => uptoBulkEntries entries + 1
  | .held _ => 1
def uptoBulkAll {H : Type} : List (DataW H) → Nat
  | [] => 0
  | d :: r => uptoBulk d + uptoBulkAll r
def uptoBulkEntries {H : Type} : List (Lit × DataW H) → Nat
  | [] => 0
  | x :: r => uptoBulkEntry x + uptoBulkEntries r
def uptoBulkEntry {H : Type} : Lit × DataW H → Nat
  | (.string bytes, d) => bytes.length + uptoBulk d + 1
  | (_, d) => uptoBulk d + 1
 end
def uptoSmall : (H : Type) → List (DataW H) → Bool := fun _ ds => decide (uptoBulkAll ds ≤ 1048576)
def OpenSpec.upto (s : _root_.Go.ChangeSpec) : _root_.Go.OpenSpec := { _root_.Go.OpenSpec.ofChange s with cond := some uptoSmall }

/-- 'skyfixlaw12.SignalPlans', WHERE WHAT IT READS IS OF BULK AT MOST 1048576: true; the input reads as it did. -/
def signalPlansUptoRow : OpenClaim := { program := "ythapekoffnjeeaa", sum := "a390ea436fc5bf7a23eb84aa884893d271cb85645e7cc5b1c8c364145e28811f", func := "skyfix/skyfixlaw12.SignalPlans", spec := "signalPlans", unfollowed := true, recurses := true, leaving := true, apart := false, narrowed := true }
def SignalPlansUptoSaid : Prop := signalPlansUptoRow.holds Try.pinned (OpenSpec.upto signalPlansSpec)

/-- 'skyfixlaw12.SignalEmitters', WHERE WHAT IT READS IS OF BULK AT MOST 1048576: true; the input reads as it did. -/
def signalEmittersUptoRow : OpenClaim := { program := "ythapekoffnjeeaa", sum := "a390ea436fc5bf7a23eb84aa884893d271cb85645e7cc5b1c8c364145e28811f", func := "skyfix/skyfixlaw12.SignalEmitters", spec := "signalEmitters", unfollowed := true, recurses := true, leaving := true, apart := false, narrowed := true }
def SignalEmittersUptoSaid : Prop := signalEmittersUptoRow.holds Try.pinned (OpenSpec.upto signalEmittersSpec)

/-- 'skyfixlaw12.SignalScenes', WHERE WHAT IT READS IS OF BULK AT MOST 1048576: true; the input reads as it did. -/
def signalScenesUptoRow : OpenClaim := { program := "ythapekoffnjeeaa", sum := "a390ea436fc5bf7a23eb84aa884893d271cb85645e7cc5b1c8c364145e28811f", func := "skyfix/skyfixlaw12.SignalScenes", spec := "signalScenes", unfollowed := true, recurses := true, leaving := true, apart := false, narrowed := true }
def SignalScenesUptoSaid : Prop := signalScenesUptoRow.holds Try.pinned (OpenSpec.upto signalScenesSpec)

/-- 'skyfixlaw12.SignalKnown', WHERE WHAT IT READS IS OF BULK AT MOST 1048576: true; the input reads as it did. -/
def signalKnownUptoRow : OpenClaim := { program := "ythapekoffnjeeaa", sum := "a390ea436fc5bf7a23eb84aa884893d271cb85645e7cc5b1c8c364145e28811f", func := "skyfix/skyfixlaw12.SignalKnown", spec := "signalKnown", unfollowed := true, recurses := true, leaving := true, apart := false, narrowed := true }
def SignalKnownUptoSaid : Prop := signalKnownUptoRow.holds Try.pinned (OpenSpec.upto signalKnownSpec)

/-- 'skyfixlaw12.SignalPeriods', WHERE WHAT IT READS IS OF BULK AT MOST 1048576: true; the input reads as it did. -/
def signalPeriodsUptoRow : OpenClaim := { program := "ythapekoffnjeeaa", sum := "a390ea436fc5bf7a23eb84aa884893d271cb85645e7cc5b1c8c364145e28811f", func := "skyfix/skyfixlaw12.SignalPeriods", spec := "signalPeriods", unfollowed := true, recurses := true, leaving := true, apart := false, narrowed := true }
def SignalPeriodsUptoSaid : Prop := signalPeriodsUptoRow.holds Try.pinned (OpenSpec.upto signalPeriodsSpec)

/-- 'skyfixlaw12.SignalAdds', WHERE WHAT IT READS IS OF BULK AT MOST 1048576: true; the input reads as it did. -/
def signalAddsUptoRow : OpenClaim := { program := "ythapekoffnjeeaa", sum := "a390ea436fc5bf7a23eb84aa884893d271cb85645e7cc5b1c8c364145e28811f", func := "skyfix/skyfixlaw12.SignalAdds", spec := "signalAdds", unfollowed := true, recurses := true, leaving := true, apart := false, narrowed := true }
def SignalAddsUptoSaid : Prop := signalAddsUptoRow.holds Try.pinned (OpenSpec.upto signalAddsSpec)

/-- 'skyfixlaw12.SignalRepeats', WHERE WHAT IT READS IS OF BULK AT MOST 1048576: true; the input reads as it did. -/
def signalRepeatsUptoRow : OpenClaim := { program := "ythapekoffnjeeaa", sum := "a390ea436fc5bf7a23eb84aa884893d271cb85645e7cc5b1c8c364145e28811f", func := "skyfix/skyfixlaw12.SignalRepeats", spec := "signalRepeats", unfollowed := true, recurses := true, leaving := true, apart := false, narrowed := true }
def SignalRepeatsUptoSaid : Prop := signalRepeatsUptoRow.holds Try.pinned (OpenSpec.upto signalRepeatsSpec)

/-- 'skyfixlaw12.SignalBounds', WHERE WHAT IT READS IS OF BULK AT MOST 1048576: true; the input reads as it did. -/
def signalBoundsUptoRow : OpenClaim := { program := "ythapekoffnjeeaa", sum := "a390ea436fc5bf7a23eb84aa884893d271cb85645e7cc5b1c8c364145e28811f", func := "skyfix/skyfixlaw12.SignalBounds", spec := "signalBounds", unfollowed := true, recurses := true, leaving := true, apart := false, narrowed := true }
def SignalBoundsUptoSaid : Prop := signalBoundsUptoRow.holds Try.pinned (OpenSpec.upto signalBoundsSpec)

end Rows
end Go.Proofs.Ythapekoffnjeeaa
