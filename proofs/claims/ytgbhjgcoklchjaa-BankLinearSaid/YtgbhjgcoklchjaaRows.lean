/-
  No cell of these rows narrows 'for every input' (looked for: loops, veiled, ifaces, maps, wideKeys, modest, calm, conditions, laid).
  DERIVED. THE GIVEN ROWS OF THIS SEAT. 4 by the template 'for every input the law returns true; each argument reads behind the call as it read before'; 0 by the template 'total and deterministic' (their statements: YtgbhjgcoklchjaaTotals.lean).
  GIVEN WITH THE SEED: the statements are not yours to turn. If you find one false, say at which input.
  Laid BY PROGRAM, IN A SANDBOX (cutbox-rows.mjs): the forced cells as the released guide's own fill.sh prints them over the translation 9de8c277c3761676… (all of the seat's roots in one cut). By AI agents, Wed Nov 11 2026. No macro, syntax, notation, axiom, sorry.
-/
import Derived.Test.YtgbhjgcoklchjaaChecked
import GoSem.Claim
import GoSem.ClaimJoined
import GoSem.ClaimMapViews
import Derived.JoinedTies
import Derived.KernelRfl
namespace Go.Proofs.Ytgbhjgcoklchjaa
/- THE CELL 'sum', in the pinned program and in every row, IS THE sha256 OF THE DUMP (.gsa) THAT YtgbhjgcoklchjaaProg.lean LOADS. Nothing in Lean hashes anything: it is a label: what it is worth is what the hold of that sum in a sandbox is worth. -/
noncomputable def Try.pinned : Pinned := { name := "ytgbhjgcoklchjaa", sum := "9de8c277c376167633a2422f98e13796f03224a8898e150d632c4b125ba6890c", checked := Try.checked }
namespace Rows
def none {H : Type} : Left H := { results := [], args := [] }

/-- 'skyfixlaw14.BankSpins': WHATEVER THE INPUT: true; the input reads as it did. -/
def bankSpinsSpec : ChangeSpec := { name := "bankSpins", fn := fun _ => fun
  | [d1, d2, d3] => { results := [.lit (.bool true)], args := [d1, d2, d3] }
  | _ => none }
def bankSpinsRow : OpenClaim := { program := "ytgbhjgcoklchjaa", sum := "9de8c277c376167633a2422f98e13796f03224a8898e150d632c4b125ba6890c", func := "skyfix/skyfixlaw14.BankSpins", spec := "bankSpins", unfollowed := true, recurses := true, apart := false }
def BankSpinsSaid : Prop := bankSpinsRow.holds Try.pinned (OpenSpec.ofChange bankSpinsSpec)

/-- ITS FALSE NEIGHBOUR: 'it returns false'. Refute it at one input. -/
def bankSpinsWrong : ChangeSpec := { name := "bankSpins", fn := fun _ => fun
  | [d1, d2, d3] => { results := [.lit (.bool false)], args := [d1, d2, d3] }
  | _ => none }
def BankSpinsWrongFalsely : Prop := bankSpinsRow.holds Try.pinned (OpenSpec.ofChange bankSpinsWrong)

/-- 'skyfixlaw14.BankSums': WHATEVER THE INPUT: true; the input reads as it did. -/
def bankSumsSpec : ChangeSpec := { name := "bankSums", fn := fun _ => fun
  | [d1, d2, d3, d4, d5, d6, d7] => { results := [.lit (.bool true)], args := [d1, d2, d3, d4, d5, d6, d7] }
  | _ => none }
def bankSumsRow : OpenClaim := { program := "ytgbhjgcoklchjaa", sum := "9de8c277c376167633a2422f98e13796f03224a8898e150d632c4b125ba6890c", func := "skyfix/skyfixlaw14.BankSums", spec := "bankSums", unfollowed := true, recurses := true, apart := false }
def BankSumsSaid : Prop := bankSumsRow.holds Try.pinned (OpenSpec.ofChange bankSumsSpec)

/-- ITS FALSE NEIGHBOUR: 'it returns false'. Refute it at one input. -/
def bankSumsWrong : ChangeSpec := { name := "bankSums", fn := fun _ => fun
  | [d1, d2, d3, d4, d5, d6, d7] => { results := [.lit (.bool false)], args := [d1, d2, d3, d4, d5, d6, d7] }
  | _ => none }
def BankSumsWrongFalsely : Prop := bankSumsRow.holds Try.pinned (OpenSpec.ofChange bankSumsWrong)

/-- 'skyfixlaw14.BankKnown': WHATEVER THE INPUT: true; the input reads as it did. -/
def bankKnownSpec : ChangeSpec := { name := "bankKnown", fn := fun _ => fun
  | [] => { results := [.lit (.bool true)], args := [] }
  | _ => none }
def bankKnownRow : OpenClaim := { program := "ytgbhjgcoklchjaa", sum := "9de8c277c376167633a2422f98e13796f03224a8898e150d632c4b125ba6890c", func := "skyfix/skyfixlaw14.BankKnown", spec := "bankKnown", unfollowed := true, recurses := true, apart := false }
def BankKnownSaid : Prop := bankKnownRow.holds Try.pinned (OpenSpec.ofChange bankKnownSpec)

/-- ITS FALSE NEIGHBOUR: 'it returns false'. Refute it at one input. -/
def bankKnownWrong : ChangeSpec := { name := "bankKnown", fn := fun _ => fun
  | [] => { results := [.lit (.bool false)], args := [] }
  | _ => none }
def BankKnownWrongFalsely : Prop := bankKnownRow.holds Try.pinned (OpenSpec.ofChange bankKnownWrong)

/-- 'skyfixlaw14.BankLinear': WHATEVER THE INPUT: true; the input reads as it did. -/
def bankLinearSpec : ChangeSpec := { name := "bankLinear", fn := fun _ => fun
  | [d1, d2, d3, d4, d5, d6] => { results := [.lit (.bool true)], args := [d1, d2, d3, d4, d5, d6] }
  | _ => none }
def bankLinearRow : OpenClaim := { program := "ytgbhjgcoklchjaa", sum := "9de8c277c376167633a2422f98e13796f03224a8898e150d632c4b125ba6890c", func := "skyfix/skyfixlaw14.BankLinear", spec := "bankLinear", unfollowed := true, recurses := true, apart := false }
def BankLinearSaid : Prop := bankLinearRow.holds Try.pinned (OpenSpec.ofChange bankLinearSpec)

/-- ITS FALSE NEIGHBOUR: 'it returns false'. Refute it at one input. -/
def bankLinearWrong : ChangeSpec := { name := "bankLinear", fn := fun _ => fun
  | [d1, d2, d3, d4, d5, d6] => { results := [.lit (.bool false)], args := [d1, d2, d3, d4, d5, d6] }
  | _ => none }
def BankLinearWrongFalsely : Prop := bankLinearRow.holds Try.pinned (OpenSpec.ofChange bankLinearWrong)

/- THE SECOND FORM. 'bulk': how many values and letters a reading holds, each counted each time it is reached (what is shared counts as often as it is met; a slice's spare places count too). A statement '..UptoSaid' is the law's where the arguments, and the package variables that the reading takes, are together of bulk at most 1048576: NARROWER than '..Said'. Prove '..Said' where nothing that the law and all that it calls make is longer than what came in: it says more and counts as full. Else prove '..UptoSaid'. A law counts once. -/
mutual
def uptoBulk {H : Type} : DataW H → Nat
  | .lit (.string bytes) => bytes.length + 1
  | .lit _ => 1
  | .nil => 1
  | .ptr d => uptoBulk d + 1
  | .slice elems spare => uptoBulkAll elems + uptoBulkAll spare + 1
  | .agg parts => uptoBulkAll parts + 1
  | .iface _ d => uptoBulk d + 1
  | .map entries => uptoBulkEntries entries + 1
  | .held _ => 1
def uptoBulkAll {H : Type} : List (DataW H) → Nat
  | [] => 0
  | d :: r => uptoBulk d + uptoBulkAll r
def uptoBulkEntries {H : Type} : List (Lit × DataW H) → Nat
  | [] => 0
  | x :: r => uptoBulkEntry x + uptoBulkEntries r
def uptoBulkEntry {H : Type} : Lit × DataW H → Nat
  | (.string bytes, d) => bytes.length + uptoBulk d + 1
  | (_, d) => uptoBulk d + 1
 end
def uptoSmall : (H : Type) → List (DataW H) → Bool := fun _ ds => decide (uptoBulkAll ds ≤ 1048576)
def OpenSpec.upto (s : _root_.Go.ChangeSpec) : _root_.Go.OpenSpec := { _root_.Go.OpenSpec.ofChange s with cond := some uptoSmall }

/-- 'skyfixlaw14.BankSpins', WHERE WHAT IT READS IS OF BULK AT MOST 1048576: true; the input reads as it did. -/
def bankSpinsUptoRow : OpenClaim := { program := "ytgbhjgcoklchjaa", sum := "9de8c277c376167633a2422f98e13796f03224a8898e150d632c4b125ba6890c", func := "skyfix/skyfixlaw14.BankSpins", spec := "bankSpins", unfollowed := true, recurses := true, apart := false, narrowed := true }
def BankSpinsUptoSaid : Prop := bankSpinsUptoRow.holds Try.pinned (OpenSpec.upto bankSpinsSpec)

/-- 'skyfixlaw14.BankSums', WHERE WHAT IT READS IS OF BULK AT MOST 1048576: true; the input reads as it did. -/
def bankSumsUptoRow : OpenClaim := { program := "ytgbhjgcoklchjaa", sum := "9de8c277c376167633a2422f98e13796f03224a8898e150d632c4b125ba6890c", func := "skyfix/skyfixlaw14.BankSums", spec := "bankSums", unfollowed := true, recurses := true, apart := false, narrowed := true }
def BankSumsUptoSaid : Prop := bankSumsUptoRow.holds Try.pinned (OpenSpec.upto bankSumsSpec)

/-- 'skyfixlaw14.BankKnown', WHERE WHAT IT READS IS OF BULK AT MOST 1048576: true; the input reads as it did. -/
def bankKnownUptoRow : OpenClaim := { program := "ytgbhjgcoklchjaa", sum := "9de8c277c376167633a2422f98e13796f03224a8898e150d632c4b125ba6890c", func := "skyfix/skyfixlaw14.BankKnown", spec := "bankKnown", unfollowed := true, recurses := true, apart := false, narrowed := true }
def BankKnownUptoSaid : Prop := bankKnownUptoRow.holds Try.pinned (OpenSpec.upto bankKnownSpec)

/-- 'skyfixlaw14.BankLinear', WHERE WHAT IT READS IS OF BULK AT MOST 1048576: true; the input reads as it did. -/
def bankLinearUptoRow : OpenClaim := { program := "ytgbhjgcoklchjaa", sum := "9de8c277c376167633a2422f98e13796f03224a8898e150d632c4b125ba6890c", func := "skyfix/skyfixlaw14.BankLinear", spec := "bankLinear", unfollowed := true, recurses := true, apart := false, narrowed := true }
def BankLinearUptoSaid : Prop := bankLinearUptoRow.holds Try.pinned (OpenSpec.upto bankLinearSpec)

end Rows
end Go.Proofs.Ytgbhjgcoklchjaa
