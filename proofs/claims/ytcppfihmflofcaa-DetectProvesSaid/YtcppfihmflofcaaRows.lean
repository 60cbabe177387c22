/-
  No cell of these rows narrows 'for every input' (looked for: loops, veiled, ifaces, maps, wideKeys, modest, calm, conditions, laid).
  DERIVED. THE GIVEN ROWS OF THIS SEAT. 6 by the template 'for every input the law returns true; each argument reads behind the call as it read before'; 0 by the template 'total and deterministic' (their statements: YtcppfihmflofcaaTotals.lean).
  GIVEN WITH THE SEED: the statements are not yours to turn. If you find one false, say at which input.
  Laid BY PROGRAM, IN A SANDBOX (cutbox-rows.mjs): the forced cells as the released guide's own fill.sh prints them over the translation 5a7b56bfe917c1a2… (all of the seat's roots in one cut). By AI agents, Wed Nov 11 2026. No macro, syntax, notation, axiom, sorry.
-/
import Derived.Test.YtcppfihmflofcaaChecked
import GoSem.Claim
import GoSem.ClaimJoined
import GoSem.ClaimMapViews
import Derived.JoinedTies
import Derived.KernelRfl
namespace Go.Proofs.Ytcppfihmflofcaa
/- THE CELL 'sum', in the pinned program and in every row, IS THE sha256 OF THE DUMP (.gsa) THAT YtcppfihmflofcaaProg.lean LOADS. Nothing in Lean hashes anything: it is a label: what it is worth is what the hold of that sum in a sandbox is worth. -/
noncomputable def Try.pinned : Pinned := { name := "ytcppfihmflofcaa", sum := "5a7b56bfe917c1a2d998e82e8213cffa830db08ab3451e8594aa3b296cc61dcb", checked := Try.checked }
namespace Rows
def none {H : Type} : Left H := { results := [], args := [] }

/-- 'skyfixlaw15.DetectClaims': WHATEVER THE INPUT: true; the input reads as it did. -/
def detectClaimsSpec : ChangeSpec := { name := "detectClaims", fn := fun _ => fun
  | [d1, d2, d3, d4, d5] => { results := [.lit (.bool true)], args := [d1, d2, d3, d4, d5] }
  | _ => none }
def detectClaimsRow : OpenClaim := { program := "ytcppfihmflofcaa", sum := "5a7b56bfe917c1a2d998e82e8213cffa830db08ab3451e8594aa3b296cc61dcb", func := "skyfix/skyfixlaw15.DetectClaims", spec := "detectClaims", unfollowed := true, recurses := true, plainKeys := false, apart := false }
def DetectClaimsSaid : Prop := detectClaimsRow.holds Try.pinned (OpenSpec.ofChange detectClaimsSpec)

/-- ITS FALSE NEIGHBOUR: 'it returns false'. Refute it at one input. -/
def detectClaimsWrong : ChangeSpec := { name := "detectClaims", fn := fun _ => fun
  | [d1, d2, d3, d4, d5] => { results := [.lit (.bool false)], args := [d1, d2, d3, d4, d5] }
  | _ => none }
def DetectClaimsWrongFalsely : Prop := detectClaimsRow.holds Try.pinned (OpenSpec.ofChange detectClaimsWrong)

/-- 'skyfixlaw15.DetectBounds': WHATEVER THE INPUT: true; the input reads as it did. -/
def detectBoundsSpec : ChangeSpec := { name := "detectBounds", fn := fun _ => fun
  | [d1, d2, d3] => { results := [.lit (.bool true)], args := [d1, d2, d3] }
  | _ => none }
def detectBoundsRow : OpenClaim := { program := "ytcppfihmflofcaa", sum := "5a7b56bfe917c1a2d998e82e8213cffa830db08ab3451e8594aa3b296cc61dcb", func := "skyfix/skyfixlaw15.DetectBounds", spec := "detectBounds", unfollowed := true, recurses := true, plainKeys := false, apart := false }
def DetectBoundsSaid : Prop := detectBoundsRow.holds Try.pinned (OpenSpec.ofChange detectBoundsSpec)

/-- ITS FALSE NEIGHBOUR: 'it returns false'. Refute it at one input. -/
def detectBoundsWrong : ChangeSpec := { name := "detectBounds", fn := fun _ => fun
  | [d1, d2, d3] => { results := [.lit (.bool false)], args := [d1, d2, d3] }
  | _ => none }
def DetectBoundsWrongFalsely : Prop := detectBoundsRow.holds Try.pinned (OpenSpec.ofChange detectBoundsWrong)

/-- 'skyfixlaw15.DetectKnown': WHATEVER THE INPUT: true; the input reads as it did. -/
def detectKnownSpec : ChangeSpec := { name := "detectKnown", fn := fun _ => fun
  | [] => { results := [.lit (.bool true)], args := [] }
  | _ => none }
def detectKnownRow : OpenClaim := { program := "ytcppfihmflofcaa", sum := "5a7b56bfe917c1a2d998e82e8213cffa830db08ab3451e8594aa3b296cc61dcb", func := "skyfix/skyfixlaw15.DetectKnown", spec := "detectKnown", unfollowed := true, recurses := true, plainKeys := false, apart := false }
def DetectKnownSaid : Prop := detectKnownRow.holds Try.pinned (OpenSpec.ofChange detectKnownSpec)

/-- ITS FALSE NEIGHBOUR: 'it returns false'. Refute it at one input. -/
def detectKnownWrong : ChangeSpec := { name := "detectKnown", fn := fun _ => fun
  | [] => { results := [.lit (.bool false)], args := [] }
  | _ => none }
def DetectKnownWrongFalsely : Prop := detectKnownRow.holds Try.pinned (OpenSpec.ofChange detectKnownWrong)

/-- 'skyfixlaw15.DetectProves': WHATEVER THE INPUT: true; the input reads as it did. -/
def detectProvesSpec : ChangeSpec := { name := "detectProves", fn := fun _ => fun
  | [d1, d2, d3, d4, d5, d6] => { results := [.lit (.bool true)], args := [d1, d2, d3, d4, d5, d6] }
  | _ => none }
def detectProvesRow : OpenClaim := { program := "ytcppfihmflofcaa", sum := "5a7b56bfe917c1a2d998e82e8213cffa830db08ab3451e8594aa3b296cc61dcb", func := "skyfix/skyfixlaw15.DetectProves", spec := "detectProves", unfollowed := true, recurses := true, plainKeys := false, apart := false }
def DetectProvesSaid : Prop := detectProvesRow.holds Try.pinned (OpenSpec.ofChange detectProvesSpec)

/-- ITS FALSE NEIGHBOUR: 'it returns false'. Refute it at one input. -/
def detectProvesWrong : ChangeSpec := { name := "detectProves", fn := fun _ => fun
  | [d1, d2, d3, d4, d5, d6] => { results := [.lit (.bool false)], args := [d1, d2, d3, d4, d5, d6] }
  | _ => none }
def DetectProvesWrongFalsely : Prop := detectProvesRow.holds Try.pinned (OpenSpec.ofChange detectProvesWrong)

/-- 'skyfixlaw15.DetectFinds': WHATEVER THE INPUT: true; the input reads as it did. -/
def detectFindsSpec : ChangeSpec := { name := "detectFinds", fn := fun _ => fun
  | [d1, d2, d3, d4] => { results := [.lit (.bool true)], args := [d1, d2, d3, d4] }
  | _ => none }
def detectFindsRow : OpenClaim := { program := "ytcppfihmflofcaa", sum := "5a7b56bfe917c1a2d998e82e8213cffa830db08ab3451e8594aa3b296cc61dcb", func := "skyfix/skyfixlaw15.DetectFinds", spec := "detectFinds", unfollowed := true, recurses := true, plainKeys := false, apart := false }
def DetectFindsSaid : Prop := detectFindsRow.holds Try.pinned (OpenSpec.ofChange detectFindsSpec)

/-- ITS FALSE NEIGHBOUR: 'it returns false'. Refute it at one input. -/
def detectFindsWrong : ChangeSpec := { name := "detectFinds", fn := fun _ => fun
  | [d1, d2, d3, d4] => { results := [.lit (.bool false)], args := [d1, d2, d3, d4] }
  | _ => none }
def DetectFindsWrongFalsely : Prop := detectFindsRow.holds Try.pinned (OpenSpec.ofChange detectFindsWrong)

/-- 'skyfixlaw15.DetectGrows': WHATEVER THE INPUT: true; the input reads as it did. -/
def detectGrowsSpec : ChangeSpec := { name := "detectGrows", fn := fun _ => fun
  | [d1, d2, d3, d4, d5] => { results := [.lit (.bool true)], args := [d1, d2, d3, d4, d5] }
  | _ => none }
def detectGrowsRow : OpenClaim := { program := "ytcppfihmflofcaa", sum := "5a7b56bfe917c1a2d998e82e8213cffa830db08ab3451e8594aa3b296cc61dcb", func := "skyfix/skyfixlaw15.DetectGrows", spec := "detectGrows", unfollowed := true, recurses := true, plainKeys := false, apart := false }
def DetectGrowsSaid : Prop := detectGrowsRow.holds Try.pinned (OpenSpec.ofChange detectGrowsSpec)

/-- ITS FALSE NEIGHBOUR: 'it returns false'. Refute it at one input. -/
def detectGrowsWrong : ChangeSpec := { name := "detectGrows", fn := fun _ => fun
  | [d1, d2, d3, d4, d5] => { results := [.lit (.bool false)], args := [d1, d2, d3, d4, d5] }
  | _ => none }
def DetectGrowsWrongFalsely : Prop := detectGrowsRow.holds Try.pinned (OpenSpec.ofChange detectGrowsWrong)

/- THE SECOND FORM. 'bulk': how many values and letters a reading holds, each counted each time it is reached (what is shared counts as often as it is met; a slice's spare places count too). A statement '..UptoSaid' is the law's where the arguments, and the package variables that the reading takes, are together of bulk at most 1048576: NARROWER than '..Said'. Prove '..Said' where nothing that the law and all that it calls make is longer than what came in: it says more and counts as full. Else prove '..UptoSaid'. A law counts once. -/
mutual
def uptoBulk {H : Type} : DataW H → Nat
  | .lit (.string bytes) => bytes.length + 1
  | .lit _ => 1
  | .nil => 1
  | .ptr d => uptoBulk d + 1
  | .slice elems spare => uptoBulkAll elems + uptoBulkAll spare + 1
  | .agg parts => uptoBulkAll parts + 1
  | .iface _ d => uptoBulk d + 1
  | .map entries => uptoBulkEntries entries + 1
  | .held _ => 1
def uptoBulkAll {H : Type} : List (DataW H) → Nat
  | [] => 0
  | d :: r => uptoBulk d + uptoBulkAll r
def uptoBulkEntries {H : Type} : List (Lit × DataW H) → Nat
  | [] => 0
  | x :: r => uptoBulkEntry x + uptoBulkEntries r
def uptoBulkEntry {H : Type} : Lit × DataW H → Nat
  | (.string bytes, d) => bytes.length + uptoBulk d + 1
  | (_, d) => uptoBulk d + 1
 end
def uptoSmall : (H : Type) → List (DataW H) → Bool := fun _ ds => decide (uptoBulkAll ds ≤ 1048576)
def OpenSpec.upto (s : _root_.Go.ChangeSpec) : _root_.Go.OpenSpec := { _root_.Go.OpenSpec.ofChange s with cond := some uptoSmall }

/-- 'skyfixlaw15.DetectClaims', WHERE WHAT IT READS IS OF BULK AT MOST 1048576: true; the input reads as it did. -/
def detectClaimsUptoRow : OpenClaim := { program := "ytcppfihmflofcaa", sum := "5a7b56bfe917c1a2d998e82e8213cffa830db08ab3451e8594aa3b296cc61dcb", func := "skyfix/skyfixlaw15.DetectClaims", spec := "detectClaims", unfollowed := true, recurses := true, plainKeys := false, apart := false, narrowed := true }
def DetectClaimsUptoSaid : Prop := detectClaimsUptoRow.holds Try.pinned (OpenSpec.upto detectClaimsSpec)

/-- 'skyfixlaw15.DetectBounds', WHERE WHAT IT READS IS OF BULK AT MOST 1048576: true; the input reads as it did. -/
def detectBoundsUptoRow : OpenClaim := { program := "ytcppfihmflofcaa", sum := "5a7b56bfe917c1a2d998e82e8213cffa830db08ab3451e8594aa3b296cc61dcb", func := "skyfix/skyfixlaw15.DetectBounds", spec := "detectBounds", unfollowed := true, recurses := true, plainKeys := false, apart := false, narrowed := true }
def DetectBoundsUptoSaid : Prop := detectBoundsUptoRow.holds Try.pinned (OpenSpec.upto detectBoundsSpec)

/-- 'skyfixlaw15.DetectKnown', WHERE WHAT IT READS IS OF BULK AT MOST 1048576: true; the input reads as it did. -/
def detectKnownUptoRow : OpenClaim := { program := "ytcppfihmflofcaa", sum := "5a7b56bfe917c1a2d998e82e8213cffa830db08ab3451e8594aa3b296cc61dcb", func := "skyfix/skyfixlaw15.DetectKnown", spec := "detectKnown", unfollowed := true, recurses := true, plainKeys := false, apart := false, narrowed := true }
def DetectKnownUptoSaid : Prop := detectKnownUptoRow.holds Try.pinned (OpenSpec.upto detectKnownSpec)

/-- 'skyfixlaw15.DetectProves', WHERE WHAT IT READS IS OF BULK AT MOST 1048576: true; the input reads as it did. -/
def detectProvesUptoRow : OpenClaim := { program := "ytcppfihmflofcaa", sum := "5a7b56bfe917c1a2d998e82e8213cffa830db08ab3451e8594aa3b296cc61dcb", func := "skyfix/skyfixlaw15.DetectProves", spec := "detectProves", unfollowed := true, recurses := true, plainKeys := false, apart := false, narrowed := true }
def DetectProvesUptoSaid : Prop := detectProvesUptoRow.holds Try.pinned (OpenSpec.upto detectProvesSpec)

/-- 'skyfixlaw15.DetectFinds', WHERE WHAT IT READS IS OF BULK AT MOST 1048576: true; the input reads as it did. -/
def detectFindsUptoRow : OpenClaim := { program := "ytcppfihmflofcaa", sum := "5a7b56bfe917c1a2d998e82e8213cffa830db08ab3451e8594aa3b296cc61dcb", func := "skyfix/skyfixlaw15.DetectFinds", spec := "detectFinds", unfollowed := true, recurses := true, plainKeys := false, apart := false, narrowed := true }
def DetectFindsUptoSaid : Prop := detectFindsUptoRow.holds Try.pinned (OpenSpec.upto detectFindsSpec)

/-- 'skyfixlaw15.DetectGrows', WHERE WHAT IT READS IS OF BULK AT MOST 1048576: true; the input reads as it did. -/
def detectGrowsUptoRow : OpenClaim := { program := "ytcppfihmflofcaa", sum := "5a7b56bfe917c1a2d998e82e8213cffa830db08ab3451e8594aa3b296cc61dcb", func := "skyfix/skyfixlaw15.DetectGrows", spec := "detectGrows", unfollowed := true, recurses := true, plainKeys := false, apart := false, narrowed := true }
def DetectGrowsUptoSaid : Prop := detectGrowsUptoRow.holds Try.pinned (OpenSpec.upto detectGrowsSpec)

end Rows
end Go.Proofs.Ytcppfihmflofcaa
