/-
  No cell of these rows narrows 'for every input' (looked for: loops, veiled, ifaces, maps, wideKeys, modest, calm, conditions, laid).
  DERIVED. THE GIVEN ROWS OF THIS SEAT. 8 by the template 'for every input the law returns true; each argument reads behind the call as it read before'; 0 by the template 'total and deterministic' (their statements: YtdcellihijlekaaTotals.lean).
  GIVEN WITH THE SEED: the statements are not yours to turn. If you find one false, say at which input.
  Laid BY PROGRAM, IN A SANDBOX (cutbox-rows.mjs): the forced cells as the released guide's own fill.sh prints them over the translation a932772403438460… (all of the seat's roots in one cut). By AI agents, Wed Nov 11 2026. No macro, syntax, notation, axiom, sorry.
-/
import Derived.Test.YtdcellihijlekaaChecked
import GoSem.Claim
import GoSem.ClaimJoined
import GoSem.ClaimMapViews
import Derived.JoinedTies
import Derived.KernelRfl
namespace Go.Proofs.Ytdcellihijlekaa
/- THE CELL 'sum', in the pinned program and in every row, IS THE sha256 OF THE DUMP (.gsa) THAT YtdcellihijlekaaProg.lean LOADS. Nothing in Lean hashes anything: it is a label: what it is worth is what the hold of that sum in a sandbox is worth. -/
noncomputable def Try.pinned : Pinned := { name := "ytdcellihijlekaa", sum := "a932772403438460cdc0fdd0acc2b108277a6d2baa682dd3675cf72a1103d8ba", checked := Try.checked }
namespace Rows
def none {H : Type} : Left H := { results := [], args := [] }

/-- 'skyfixlaw09.CrossSums': WHATEVER THE INPUT: true; the input reads as it did. -/
def crossSumsSpec : ChangeSpec := { name := "crossSums", fn := fun _ => fun
  | [d1, d2, d3, d4, d5] => { results := [.lit (.bool true)], args := [d1, d2, d3, d4, d5] }
  | _ => none }
def crossSumsRow : OpenClaim := { program := "ytdcellihijlekaa", sum := "a932772403438460cdc0fdd0acc2b108277a6d2baa682dd3675cf72a1103d8ba", func := "skyfix/skyfixlaw09.CrossSums", spec := "crossSums", unfollowed := true, recurses := true, apart := false }
def CrossSumsSaid : Prop := crossSumsRow.holds Try.pinned (OpenSpec.ofChange crossSumsSpec)

/-- ITS FALSE NEIGHBOUR: 'it returns false'. Refute it at one input. -/
def crossSumsWrong : ChangeSpec := { name := "crossSums", fn := fun _ => fun
  | [d1, d2, d3, d4, d5] => { results := [.lit (.bool false)], args := [d1, d2, d3, d4, d5] }
  | _ => none }
def CrossSumsWrongFalsely : Prop := crossSumsRow.holds Try.pinned (OpenSpec.ofChange crossSumsWrong)

/-- 'skyfixlaw09.CrossParts': WHATEVER THE INPUT: true; the input reads as it did. -/
def crossPartsSpec : ChangeSpec := { name := "crossParts", fn := fun _ => fun
  | [d1, d2, d3, d4, d5, d6] => { results := [.lit (.bool true)], args := [d1, d2, d3, d4, d5, d6] }
  | _ => none }
def crossPartsRow : OpenClaim := { program := "ytdcellihijlekaa", sum := "a932772403438460cdc0fdd0acc2b108277a6d2baa682dd3675cf72a1103d8ba", func := "skyfix/skyfixlaw09.CrossParts", spec := "crossParts", unfollowed := true, recurses := true, apart := false }
def CrossPartsSaid : Prop := crossPartsRow.holds Try.pinned (OpenSpec.ofChange crossPartsSpec)

/-- ITS FALSE NEIGHBOUR: 'it returns false'. Refute it at one input. -/
def crossPartsWrong : ChangeSpec := { name := "crossParts", fn := fun _ => fun
  | [d1, d2, d3, d4, d5, d6] => { results := [.lit (.bool false)], args := [d1, d2, d3, d4, d5, d6] }
  | _ => none }
def CrossPartsWrongFalsely : Prop := crossPartsRow.holds Try.pinned (OpenSpec.ofChange crossPartsWrong)

/-- 'skyfixlaw09.CrossKnown': WHATEVER THE INPUT: true; the input reads as it did. -/
def crossKnownSpec : ChangeSpec := { name := "crossKnown", fn := fun _ => fun
  | [] => { results := [.lit (.bool true)], args := [] }
  | _ => none }
def crossKnownRow : OpenClaim := { program := "ytdcellihijlekaa", sum := "a932772403438460cdc0fdd0acc2b108277a6d2baa682dd3675cf72a1103d8ba", func := "skyfix/skyfixlaw09.CrossKnown", spec := "crossKnown", unfollowed := true, recurses := true, apart := false }
def CrossKnownSaid : Prop := crossKnownRow.holds Try.pinned (OpenSpec.ofChange crossKnownSpec)

/-- ITS FALSE NEIGHBOUR: 'it returns false'. Refute it at one input. -/
def crossKnownWrong : ChangeSpec := { name := "crossKnown", fn := fun _ => fun
  | [] => { results := [.lit (.bool false)], args := [] }
  | _ => none }
def CrossKnownWrongFalsely : Prop := crossKnownRow.holds Try.pinned (OpenSpec.ofChange crossKnownWrong)

/-- 'skyfixlaw09.CrossBounds': WHATEVER THE INPUT: true; the input reads as it did. -/
def crossBoundsSpec : ChangeSpec := { name := "crossBounds", fn := fun _ => fun
  | [d1, d2, d3] => { results := [.lit (.bool true)], args := [d1, d2, d3] }
  | _ => none }
def crossBoundsRow : OpenClaim := { program := "ytdcellihijlekaa", sum := "a932772403438460cdc0fdd0acc2b108277a6d2baa682dd3675cf72a1103d8ba", func := "skyfix/skyfixlaw09.CrossBounds", spec := "crossBounds", unfollowed := true, recurses := true, apart := false }
def CrossBoundsSaid : Prop := crossBoundsRow.holds Try.pinned (OpenSpec.ofChange crossBoundsSpec)

/-- ITS FALSE NEIGHBOUR: 'it returns false'. Refute it at one input. -/
def crossBoundsWrong : ChangeSpec := { name := "crossBounds", fn := fun _ => fun
  | [d1, d2, d3] => { results := [.lit (.bool false)], args := [d1, d2, d3] }
  | _ => none }
def CrossBoundsWrongFalsely : Prop := crossBoundsRow.holds Try.pinned (OpenSpec.ofChange crossBoundsWrong)

/-- 'skyfixlaw09.CrossTotals': WHATEVER THE INPUT: true; the input reads as it did. -/
def crossTotalsSpec : ChangeSpec := { name := "crossTotals", fn := fun _ => fun
  | [d1, d2, d3] => { results := [.lit (.bool true)], args := [d1, d2, d3] }
  | _ => none }
def crossTotalsRow : OpenClaim := { program := "ytdcellihijlekaa", sum := "a932772403438460cdc0fdd0acc2b108277a6d2baa682dd3675cf72a1103d8ba", func := "skyfix/skyfixlaw09.CrossTotals", spec := "crossTotals", unfollowed := true, recurses := true, apart := false }
def CrossTotalsSaid : Prop := crossTotalsRow.holds Try.pinned (OpenSpec.ofChange crossTotalsSpec)

/-- ITS FALSE NEIGHBOUR: 'it returns false'. Refute it at one input. -/
def crossTotalsWrong : ChangeSpec := { name := "crossTotals", fn := fun _ => fun
  | [d1, d2, d3] => { results := [.lit (.bool false)], args := [d1, d2, d3] }
  | _ => none }
def CrossTotalsWrongFalsely : Prop := crossTotalsRow.holds Try.pinned (OpenSpec.ofChange crossTotalsWrong)

/-- 'skyfixlaw09.CrossSpectra': WHATEVER THE INPUT: true; the input reads as it did. -/
def crossSpectraSpec : ChangeSpec := { name := "crossSpectra", fn := fun _ => fun
  | [d1, d2, d3] => { results := [.lit (.bool true)], args := [d1, d2, d3] }
  | _ => none }
def crossSpectraRow : OpenClaim := { program := "ytdcellihijlekaa", sum := "a932772403438460cdc0fdd0acc2b108277a6d2baa682dd3675cf72a1103d8ba", func := "skyfix/skyfixlaw09.CrossSpectra", spec := "crossSpectra", unfollowed := true, recurses := true, apart := false }
def CrossSpectraSaid : Prop := crossSpectraRow.holds Try.pinned (OpenSpec.ofChange crossSpectraSpec)

/-- ITS FALSE NEIGHBOUR: 'it returns false'. Refute it at one input. -/
def crossSpectraWrong : ChangeSpec := { name := "crossSpectra", fn := fun _ => fun
  | [d1, d2, d3] => { results := [.lit (.bool false)], args := [d1, d2, d3] }
  | _ => none }
def CrossSpectraWrongFalsely : Prop := crossSpectraRow.holds Try.pinned (OpenSpec.ofChange crossSpectraWrong)

/-- 'skyfixlaw09.CrossWindows': WHATEVER THE INPUT: true; the input reads as it did. -/
def crossWindowsSpec : ChangeSpec := { name := "crossWindows", fn := fun _ => fun
  | [d1, d2, d3, d4, d5, d6, d7] => { results := [.lit (.bool true)], args := [d1, d2, d3, d4, d5, d6, d7] }
  | _ => none }
def crossWindowsRow : OpenClaim := { program := "ytdcellihijlekaa", sum := "a932772403438460cdc0fdd0acc2b108277a6d2baa682dd3675cf72a1103d8ba", func := "skyfix/skyfixlaw09.CrossWindows", spec := "crossWindows", unfollowed := true, recurses := true, apart := false }
def CrossWindowsSaid : Prop := crossWindowsRow.holds Try.pinned (OpenSpec.ofChange crossWindowsSpec)

/-- ITS FALSE NEIGHBOUR: 'it returns false'. Refute it at one input. -/
def crossWindowsWrong : ChangeSpec := { name := "crossWindows", fn := fun _ => fun
  | [d1, d2, d3, d4, d5, d6, d7] => { results := [.lit (.bool false)], args := [d1, d2, d3, d4, d5, d6, d7] }
  | _ => none }
def CrossWindowsWrongFalsely : Prop := crossWindowsRow.holds Try.pinned (OpenSpec.ofChange crossWindowsWrong)

/-- 'skyfixlaw09.CrossReached': WHATEVER THE INPUT: true; the input reads as it did. -/
def crossReachedSpec : ChangeSpec := { name := "crossReached", fn := fun _ => fun
  | [d1, d2, d3] => { results := [.lit (.bool true)], args := [d1, d2, d3] }
  | _ => none }
def crossReachedRow : OpenClaim := { program := "ytdcellihijlekaa", sum := "a932772403438460cdc0fdd0acc2b108277a6d2baa682dd3675cf72a1103d8ba", func := "skyfix/skyfixlaw09.CrossReached", spec := "crossReached", unfollowed := true, recurses := true, apart := false }
def CrossReachedSaid : Prop := crossReachedRow.holds Try.pinned (OpenSpec.ofChange crossReachedSpec)

/-- ITS FALSE NEIGHBOUR: 'it returns false'. Refute it at one input. -/
def crossReachedWrong : ChangeSpec := { name := "crossReached", fn := fun _ => fun
  | [d1, d2, d3] => { results := [.lit (.bool false)], args := [d1, d2, d3] }
  | _ => none }
def CrossReachedWrongFalsely : Prop := crossReachedRow.holds Try.pinned (OpenSpec.ofChange crossReachedWrong)

/- THE SECOND FORM. 'bulk': how many values and letters a reading holds, each counted each time it is reached (what is shared counts as often as it is met; a slice's spare places count too). A statement '..UptoSaid' is the law's where the arguments, and the package variables that the reading takes, are together of bulk at most 1048576: NARROWER than '..Said'. Prove '..Said' where nothing that the law and all that it calls make is longer than what came in: it says more and counts as full. Else prove '..UptoSaid'. A law counts once. -/
mutual
def uptoBulk {H : Type} : DataW H → Nat
  | .lit (.string bytes) => bytes.length + 1
  | .lit _ => 1
  | .nil => 1
  | .ptr d => uptoBulk d + 1
  | .slice elems spare => uptoBulkAll elems + uptoBulkAll spare + 1
  | .agg parts => uptoBulkAll parts + 1
  | .iface _ d => uptoBulk d + 1
  | .map entries => uptoBulkEntries entries + 1
  | .held _ => 1
def uptoBulkAll {H : Type} : List (DataW H) → Nat
  | [] => 0
  | d :: r => uptoBulk d + uptoBulkAll r
def uptoBulkEntries {H : Type} : List (Lit × DataW H) → Nat
  | [] => 0
  | x :: r => uptoBulkEntry x + uptoBulkEntries r
def uptoBulkEntry {H : Type} : Lit × DataW H → Nat
  | (.string bytes, d) => bytes.length + uptoBulk d + 1
  | (_, d) => uptoBulk d + 1
 end
def uptoSmall : (H : Type) → List (DataW H) → Bool := fun _ ds => decide (uptoBulkAll ds ≤ 1048576)
def OpenSpec.upto (s : _root_.Go.ChangeSpec) : _root_.Go.OpenSpec := { _root_.Go.OpenSpec.ofChange s with cond := some uptoSmall }

/-- 'skyfixlaw09.CrossSums', WHERE WHAT IT READS IS OF BULK AT MOST 1048576: true; the input reads as it did. -/
def crossSumsUptoRow : OpenClaim := { program := "ytdcellihijlekaa", sum := "a932772403438460cdc0fdd0acc2b108277a6d2baa682dd3675cf72a1103d8ba", func := "skyfix/skyfixlaw09.CrossSums", spec := "crossSums", unfollowed := true, recurses := true, apart := false, narrowed := true }
def CrossSumsUptoSaid : Prop := crossSumsUptoRow.holds Try.pinned (OpenSpec.upto crossSumsSpec)

/-- 'skyfixlaw09.CrossParts', WHERE WHAT IT READS IS OF BULK AT MOST 1048576: true; the input reads as it did. -/
def crossPartsUptoRow : OpenClaim := { program := "ytdcellihijlekaa", sum := "a932772403438460cdc0fdd0acc2b108277a6d2baa682dd3675cf72a1103d8ba", func := "skyfix/skyfixlaw09.CrossParts", spec := "crossParts", unfollowed := true, recurses := true, apart := false, narrowed := true }
def CrossPartsUptoSaid : Prop := crossPartsUptoRow.holds Try.pinned (OpenSpec.upto crossPartsSpec)

/-- 'skyfixlaw09.CrossKnown', WHERE WHAT IT READS IS OF BULK AT MOST 1048576: true; the input reads as it did. -/
def crossKnownUptoRow : OpenClaim := { program := "ytdcellihijlekaa", sum := "a932772403438460cdc0fdd0acc2b108277a6d2baa682dd3675cf72a1103d8ba", func := "skyfix/skyfixlaw09.CrossKnown", spec := "crossKnown", unfollowed := true, recurses := true, apart := false, narrowed := true }
def CrossKnownUptoSaid : Prop := crossKnownUptoRow.holds Try.pinned (OpenSpec.upto crossKnownSpec)

/-- 'skyfixlaw09.CrossBounds', WHERE WHAT IT READS IS OF BULK AT MOST 1048576: true; the input reads as it did. -/
def crossBoundsUptoRow : OpenClaim := { program := "ytdcellihijlekaa", sum := "a932772403438460cdc0fdd0acc2b108277a6d2baa682dd3675cf72a1103d8ba", func := "skyfix/skyfixlaw09.CrossBounds", spec := "crossBounds", unfollowed := true, recurses := true, apart := false, narrowed := true }
def CrossBoundsUptoSaid : Prop := crossBoundsUptoRow.holds Try.pinned (OpenSpec.upto crossBoundsSpec)

/-- 'skyfixlaw09.CrossTotals', WHERE WHAT IT READS IS OF BULK AT MOST 1048576: true; the input reads as it did. -/
def crossTotalsUptoRow : OpenClaim := { program := "ytdcellihijlekaa", sum := "a932772403438460cdc0fdd0acc2b108277a6d2baa682dd3675cf72a1103d8ba", func := "skyfix/skyfixlaw09.CrossTotals", spec := "crossTotals", unfollowed := true, recurses := true, apart := false, narrowed := true }
def CrossTotalsUptoSaid : Prop := crossTotalsUptoRow.holds Try.pinned (OpenSpec.upto crossTotalsSpec)

/-- 'skyfixlaw09.CrossSpectra', WHERE WHAT IT READS IS OF BULK AT MOST 1048576: true; the input reads as it did. -/
def crossSpectraUptoRow : OpenClaim := { program := "ytdcellihijlekaa", sum := "a932772403438460cdc0fdd0acc2b108277a6d2baa682dd3675cf72a1103d8ba", func := "skyfix/skyfixlaw09.CrossSpectra", spec := "crossSpectra", unfollowed := true, recurses := true, apart := false, narrowed := true }
def CrossSpectraUptoSaid : Prop := crossSpectraUptoRow.holds Try.pinned (OpenSpec.upto crossSpectraSpec)

/-- 'skyfixlaw09.CrossWindows', WHERE WHAT IT READS IS OF BULK AT MOST 1048576: true; the input reads as it did. -/
def crossWindowsUptoRow : OpenClaim := { program := "ytdcellihijlekaa", sum := "a932772403438460cdc0fdd0acc2b108277a6d2baa682dd3675cf72a1103d8ba", func := "skyfix/skyfixlaw09.CrossWindows", spec := "crossWindows", unfollowed := true, recurses := true, apart := false, narrowed := true }
def CrossWindowsUptoSaid : Prop := crossWindowsUptoRow.holds Try.pinned (OpenSpec.upto crossWindowsSpec)

/-- 'skyfixlaw09.CrossReached', WHERE WHAT IT READS IS OF BULK AT MOST 1048576: true; the input reads as it did. -/
def crossReachedUptoRow : OpenClaim := { program := "ytdcellihijlekaa", sum := "a932772403438460cdc0fdd0acc2b108277a6d2baa682dd3675cf72a1103d8ba", func := "skyfix/skyfixlaw09.CrossReached", spec := "crossReached", unfollowed := true, recurses := true, apart := false, narrowed := true }
def CrossReachedUptoSaid : Prop := crossReachedUptoRow.holds Try.pinned (OpenSpec.upto crossReachedSpec)

end Rows
end Go.Proofs.Ytdcellihijlekaa
