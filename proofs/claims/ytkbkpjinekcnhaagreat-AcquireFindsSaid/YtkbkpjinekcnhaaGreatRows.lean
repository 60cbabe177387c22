/-
  No cell of these rows narrows 'for every input' (looked for: loops, veiled, ifaces, maps, wideKeys, modest, calm, conditions, laid).
  DERIVED. THE GIVEN ROWS OF THIS SEAT. 5 by the template 'for every input the law returns true; each argument reads behind the call as it read before'; 0 by the template 'total and deterministic' (their statements: YtkbkpjinekcnhaaGreatTotals.lean).
  GIVEN WITH THE SEED: the statements are not yours to turn. If you find one false, say at which input.
  Laid BY PROGRAM, IN A SANDBOX (cutbox-rows.mjs): the forced cells as the released guide's own fill.sh prints them over the translation 92e927ff8024ac61… (all of the seat's roots in one cut). By AI agents, Wed Nov 11 2026. No macro, syntax, notation, axiom, sorry.
-/
import Derived.Test.YtkbkpjinekcnhaaGreatChecked
import GoSem.Claim
import GoSem.ClaimJoined
import GoSem.ClaimMapViews
import Derived.JoinedTies
import Derived.KernelRfl
namespace Go.Proofs.YtkbkpjinekcnhaaGreat
/- THE CELL 'sum', in the pinned program and in every row, IS THE sha256 OF THE DUMP (.gsa) THAT YtkbkpjinekcnhaaGreatProg.lean LOADS. Nothing in Lean hashes anything: it is a label: what it is worth is what the hold of that sum in a sandbox is worth. -/
noncomputable def Tryz.pinned : Pinned := { name := "ytkbkpjinekcnhaagreat", sum := "92e927ff8024ac619dc7c3cefb18300bd1954744ae8f1fcb367390b41c97b704", checked := Tryz.checked }
namespace Rows
def none {H : Type} : Left H := { results := [], args := [] }

/-- 'skyfixlaw16.AcquireAlls': WHATEVER THE INPUT: true; the input reads as it did. -/
def acquireAllsSpec : ChangeSpec := { name := "acquireAlls", fn := fun _ => fun
  | [d1, d2, d3, d4, d5, d6, d7] => { results := [.lit (.bool true)], args := [d1, d2, d3, d4, d5, d6, d7] }
  | _ => none }
def acquireAllsRow : OpenClaim := { program := "ytkbkpjinekcnhaagreat", sum := "92e927ff8024ac619dc7c3cefb18300bd1954744ae8f1fcb367390b41c97b704", func := "skyfix/skyfixlaw16.AcquireAlls", spec := "acquireAlls", unfollowed := true, recurses := true, plainKeys := false, leaving := true, apart := false }
def AcquireAllsSaid : Prop := acquireAllsRow.holds Tryz.pinned (OpenSpec.ofChange acquireAllsSpec)

/-- ITS FALSE NEIGHBOUR: 'it returns false'. Refute it at one input. -/
def acquireAllsWrong : ChangeSpec := { name := "acquireAlls", fn := fun _ => fun
  | [d1, d2, d3, d4, d5, d6, d7] => { results := [.lit (.bool false)], args := [d1, d2, d3, d4, d5, d6, d7] }
  | _ => none }
def AcquireAllsWrongFalsely : Prop := acquireAllsRow.holds Tryz.pinned (OpenSpec.ofChange acquireAllsWrong)

/-- 'skyfixlaw16.AcquireKnown': WHATEVER THE INPUT: true; the input reads as it did. -/
def acquireKnownSpec : ChangeSpec := { name := "acquireKnown", fn := fun _ => fun
  | [] => { results := [.lit (.bool true)], args := [] }
  | _ => none }
def acquireKnownRow : OpenClaim := { program := "ytkbkpjinekcnhaagreat", sum := "92e927ff8024ac619dc7c3cefb18300bd1954744ae8f1fcb367390b41c97b704", func := "skyfix/skyfixlaw16.AcquireKnown", spec := "acquireKnown", unfollowed := true, recurses := true, plainKeys := false, leaving := true, apart := false }
def AcquireKnownSaid : Prop := acquireKnownRow.holds Tryz.pinned (OpenSpec.ofChange acquireKnownSpec)

/-- ITS FALSE NEIGHBOUR: 'it returns false'. Refute it at one input. -/
def acquireKnownWrong : ChangeSpec := { name := "acquireKnown", fn := fun _ => fun
  | [] => { results := [.lit (.bool false)], args := [] }
  | _ => none }
def AcquireKnownWrongFalsely : Prop := acquireKnownRow.holds Tryz.pinned (OpenSpec.ofChange acquireKnownWrong)

/-- 'skyfixlaw16.AcquireProves': WHATEVER THE INPUT: true; the input reads as it did. -/
def acquireProvesSpec : ChangeSpec := { name := "acquireProves", fn := fun _ => fun
  | [d1, d2, d3, d4, d5, d6] => { results := [.lit (.bool true)], args := [d1, d2, d3, d4, d5, d6] }
  | _ => none }
def acquireProvesRow : OpenClaim := { program := "ytkbkpjinekcnhaagreat", sum := "92e927ff8024ac619dc7c3cefb18300bd1954744ae8f1fcb367390b41c97b704", func := "skyfix/skyfixlaw16.AcquireProves", spec := "acquireProves", unfollowed := true, recurses := true, plainKeys := false, leaving := true, apart := false }
def AcquireProvesSaid : Prop := acquireProvesRow.holds Tryz.pinned (OpenSpec.ofChange acquireProvesSpec)

/-- ITS FALSE NEIGHBOUR: 'it returns false'. Refute it at one input. -/
def acquireProvesWrong : ChangeSpec := { name := "acquireProves", fn := fun _ => fun
  | [d1, d2, d3, d4, d5, d6] => { results := [.lit (.bool false)], args := [d1, d2, d3, d4, d5, d6] }
  | _ => none }
def AcquireProvesWrongFalsely : Prop := acquireProvesRow.holds Tryz.pinned (OpenSpec.ofChange acquireProvesWrong)

/-- 'skyfixlaw16.AcquireFinds': WHATEVER THE INPUT: true; the input reads as it did. -/
def acquireFindsSpec : ChangeSpec := { name := "acquireFinds", fn := fun _ => fun
  | [d1, d2, d3, d4, d5] => { results := [.lit (.bool true)], args := [d1, d2, d3, d4, d5] }
  | _ => none }
def acquireFindsRow : OpenClaim := { program := "ytkbkpjinekcnhaagreat", sum := "92e927ff8024ac619dc7c3cefb18300bd1954744ae8f1fcb367390b41c97b704", func := "skyfix/skyfixlaw16.AcquireFinds", spec := "acquireFinds", unfollowed := true, recurses := true, plainKeys := false, leaving := true, apart := false }
def AcquireFindsSaid : Prop := acquireFindsRow.holds Tryz.pinned (OpenSpec.ofChange acquireFindsSpec)

/-- ITS FALSE NEIGHBOUR: 'it returns false'. Refute it at one input. -/
def acquireFindsWrong : ChangeSpec := { name := "acquireFinds", fn := fun _ => fun
  | [d1, d2, d3, d4, d5] => { results := [.lit (.bool false)], args := [d1, d2, d3, d4, d5] }
  | _ => none }
def AcquireFindsWrongFalsely : Prop := acquireFindsRow.holds Tryz.pinned (OpenSpec.ofChange acquireFindsWrong)

/-- 'skyfixlaw16.AcquireSigns': WHATEVER THE INPUT: true; the input reads as it did. -/
def acquireSignsSpec : ChangeSpec := { name := "acquireSigns", fn := fun _ => fun
  | [d1, d2] => { results := [.lit (.bool true)], args := [d1, d2] }
  | _ => none }
def acquireSignsRow : OpenClaim := { program := "ytkbkpjinekcnhaagreat", sum := "92e927ff8024ac619dc7c3cefb18300bd1954744ae8f1fcb367390b41c97b704", func := "skyfix/skyfixlaw16.AcquireSigns", spec := "acquireSigns", unfollowed := true, recurses := true, plainKeys := false, leaving := true, apart := false }
def AcquireSignsSaid : Prop := acquireSignsRow.holds Tryz.pinned (OpenSpec.ofChange acquireSignsSpec)

/-- ITS FALSE NEIGHBOUR: 'it returns false'. Refute it at one input. -/
def acquireSignsWrong : ChangeSpec := { name := "acquireSigns", fn := fun _ => fun
  | [d1, d2] => { results := [.lit (.bool false)], args := [d1, d2] }
  | _ => none }
def AcquireSignsWrongFalsely : Prop := acquireSignsRow.holds Tryz.pinned (OpenSpec.ofChange acquireSignsWrong)

/- THE SECOND FORM. 'bulk': how many values and letters a reading holds, each counted each time it is reached (what is shared counts as often as it is met; a slice's spare places count too). A statement '..UptoSaid' is the law's where the arguments, and the package variables that the reading takes, are together of bulk at most 1048576: NARROWER than '..Said'. Prove '..Said' where nothing that the law and all that it calls make is longer than what came in: it says more and counts as full. Else prove '..UptoSaid'. A law counts once. -/
mutual
def uptoBulk {H : Type} : DataW H → Nat
  | .lit (.string bytes) => bytes.length + 1
  | .lit _ => 1
  | .nil => 1
  | .ptr d => uptoBulk d + 1
  | .slice elems spare => uptoBulkAll elems + uptoBulkAll spare + 1
  | .agg parts => uptoBulkAll parts + 1
  | .iface _ d => uptoBulk d + 1
  | .map entries => uptoBulkEntries entries + 1
  | .held _ => 1
def uptoBulkAll {H : Type} : List (DataW H) → Nat
  | [] => 0
  | d :: r => uptoBulk d + uptoBulkAll r
def uptoBulkEntries {H : Type} : List (Lit × DataW H) → Nat
  | [] => 0
  | x :: r => uptoBulkEntry x + uptoBulkEntries r
def uptoBulkEntry {H : Type} : Lit × DataW H → Nat
  | (.string bytes, d) => bytes.length + uptoBulk d + 1
  | (_, d) => uptoBulk d + 1
 end
def uptoSmall : (H : Type) → List (DataW H) → Bool := fun _ ds => decide (uptoBulkAll ds ≤ 1048576)
def OpenSpec.upto (s : _root_.Go.ChangeSpec) : _root_.Go.OpenSpec := { _root_.Go.OpenSpec.ofChange s with cond := some uptoSmall }

/-- 'skyfixlaw16.AcquireAlls', WHERE WHAT IT READS IS OF BULK AT MOST 1048576: true; the input reads as it did. -/
def acquireAllsUptoRow : OpenClaim := { program := "ytkbkpjinekcnhaagreat", sum := "92e927ff8024ac619dc7c3cefb18300bd1954744ae8f1fcb367390b41c97b704", func := "skyfix/skyfixlaw16.AcquireAlls", spec := "acquireAlls", unfollowed := true, recurses := true, plainKeys := false, leaving := true, apart := false, narrowed := true }
def AcquireAllsUptoSaid : Prop := acquireAllsUptoRow.holds Tryz.pinned (OpenSpec.upto acquireAllsSpec)

/-- 'skyfixlaw16.AcquireKnown', WHERE WHAT IT READS IS OF BULK AT MOST 1048576: true; the input reads as it did. -/
def acquireKnownUptoRow : OpenClaim := { program := "ytkbkpjinekcnhaagreat", sum := "92e927ff8024ac619dc7c3cefb18300bd1954744ae8f1fcb367390b41c97b704", func := "skyfix/skyfixlaw16.AcquireKnown", spec := "acquireKnown", unfollowed := true, recurses := true, plainKeys := false, leaving := true, apart := false, narrowed := true }
def AcquireKnownUptoSaid : Prop := acquireKnownUptoRow.holds Tryz.pinned (OpenSpec.upto acquireKnownSpec)

/-- 'skyfixlaw16.AcquireProves', WHERE WHAT IT READS IS OF BULK AT MOST 1048576: true; the input reads as it did. -/
def acquireProvesUptoRow : OpenClaim := { program := "ytkbkpjinekcnhaagreat", sum := "92e927ff8024ac619dc7c3cefb18300bd1954744ae8f1fcb367390b41c97b704", func := "skyfix/skyfixlaw16.AcquireProves", spec := "acquireProves", unfollowed := true, recurses := true, plainKeys := false, leaving := true, apart := false, narrowed := true }
def AcquireProvesUptoSaid : Prop := acquireProvesUptoRow.holds Tryz.pinned (OpenSpec.upto acquireProvesSpec)

/-- 'skyfixlaw16.AcquireFinds', WHERE WHAT IT READS IS OF BULK AT MOST 1048576: true; the input reads as it did. -/
def acquireFindsUptoRow : OpenClaim := { program := "ytkbkpjinekcnhaagreat", sum := "92e927ff8024ac619dc7c3cefb18300bd1954744ae8f1fcb367390b41c97b704", func := "skyfix/skyfixlaw16.AcquireFinds", spec := "acquireFinds", unfollowed := true, recurses := true, plainKeys := false, leaving := true, apart := false, narrowed := true }
def AcquireFindsUptoSaid : Prop := acquireFindsUptoRow.holds Tryz.pinned (OpenSpec.upto acquireFindsSpec)

/-- 'skyfixlaw16.AcquireSigns', WHERE WHAT IT READS IS OF BULK AT MOST 1048576: true; the input reads as it did. -/
def acquireSignsUptoRow : OpenClaim := { program := "ytkbkpjinekcnhaagreat", sum := "92e927ff8024ac619dc7c3cefb18300bd1954744ae8f1fcb367390b41c97b704", func := "skyfix/skyfixlaw16.AcquireSigns", spec := "acquireSigns", unfollowed := true, recurses := true, plainKeys := false, leaving := true, apart := false, narrowed := true }
def AcquireSignsUptoSaid : Prop := acquireSignsUptoRow.holds Tryz.pinned (OpenSpec.upto acquireSignsSpec)

end Rows
end Go.Proofs.YtkbkpjinekcnhaaGreat
