/- CrossSpectra, for every input that the statement speaks of: the law returns true. No condition. -/
import Derived.Test.YtdcellihijlekaaRows
import Derived.WalkKit
import Derived.ProofKit
import Derived.OpenShut
import Derived.Shelf.Sort.Plain
import Derived.Shelf.Lay
import Derived.Test.YtdcellihijlekaaU12
namespace Go.Proofs
open Go.Shelf
shelf_lay Lays.n189 Nm 189 at Try as Try.laysSort
end Go.Proofs
namespace Go.Proofs.Ytdcellihijlekaa
open Go.Ae
theorem sortOk : SortOk ctx 178 := ⟨enters_of_body L178, fun blk off cap zs w hH hb hl => Any.slices_Sort_int Try.laysSort blk off cap zs w hH hb hl⟩
end Go.Proofs.Ytdcellihijlekaa
namespace Go.Proofs.Ytdcellihijlekaa.crossSpectraDone
open Go.ChangeShapes Go.WideShapes Go.ChangeAt Go.RowKit Go.Ae

theorem own : ownKnob Try.prog.godebug = none := by kernel_rfl
theorem laidOut : laidOutB Try.prog = true := by kernel_rfl

set_option maxRecDepth 100000 in
theorem lifted (os : Os) (started : os.Started) (H : Type) (enc : TypeId × Value → H) :
    ReturnsInHanded {} Try.checked os 8 .any (Rows.crossSpectraSpec.pre6 enc Try.prog Try.f8 Rows.crossSpectraRow.domain false) (Rows.crossSpectraSpec.post enc Try.prog Try.f8 false true false false) := by
  refine returnsInHanded_of_change (C := Try.checked) own started (by kernel_rfl) Try.func8
    (ChangeSpec.witness6 (enc := enc) (C := Try.checked) false ⟨#[], #[.int .i64 0, .int .i64 0, .int .i64 0], []⟩ 8 (by kernel_rfl) (by kernel_rfl) (by kernel_rfl) (by kernel_rfl)) ?_
  intro W base args ds gs before hval0 hW hcnd _
  have hval : ∀ (j : Nat) t v, Try.f8.params[j]? = some t → args[j]? = some v → Value.okWide Try.prog W .any base t v := hval0
  have hW' := hW
  obtain ⟨p, q, hA0, hV, rfl, hfz, hnd⟩ := hW
  have hA : DataW.TrodAll enc Try.prog W 0 (fun _ => true) true Try.f8.params.toList args.toList ds p := hA0
  rw [Try.params8] at hA hval
  obtain ⟨rfl, rfl⟩ := trodVars_none hV
  have hlt : ∀ x ∈ p, x.block < W.heap.size := fun x hx => by simpa using hW'.lt x (by simp [hx])
  have hstay := fun W' (hb : Below W.heap.size W W') => trodAll_stays laidOut hb (by kernel_rfl) hA hlt
  obtain ⟨v0, w0, d0, e0, p0, q0, ha0, rfl, rfl, h0, r0⟩ := trodAll_cons hA
  obtain ⟨v1, w1, d1, e1, p1, q1, ha1, rfl, rfl, h1, r1⟩ := trodAll_cons r0
  obtain ⟨v2, w2, d2, e2, p2, q2, ha2, rfl, rfl, h2, r2⟩ := trodAll_cons r1
  obtain ⟨hz, rfl, rfl⟩ := trodAll_nil r2
  obtain rfl : args = #[v0, v1, v2] := by cases args; simp_all
  clear hA0 hval0
  obtain ⟨n0, rfl, -, -, g0⟩ := open_int Try.underlying3 (hval 0 3 v0 rfl rfl) h0
  have g0 := wf_i64 g0
  obtain ⟨n1, rfl, -, -, g1⟩ := open_int Try.underlying3 (hval 1 3 v1 rfl rfl) h1
  have g1 := wf_i64 g1
  obtain ⟨n2, rfl, -, -, g2⟩ := open_int Try.underlying3 (hval 2 3 v2 rfl rfl) h2
  have g2 := wf_i64 g2
  let env : Env := fun i => ([] : List EB).getD i default
  have R : Rel ctx ⟨fun r => r < W.heap.size, fun _ => False⟩ env (argHeap []) W := by
    refine rel_args _ (fun i vs hi => ?_)
    simp at hi
  have hc : ACalls ctx 160 [.int .i64 n0, .int .i64 n1, .int .i64 n2] (argHeap []) (fun r _ => r = .bool true) := CrossSpectra_law (has.sub (by decide)) sortOk g0 g1 g2
  have hw := walk_of (f := 8) (vals := [.int .i64 n0, .int .i64 n1, .int .i64 n2]) (env := env) rfl hc R ?_ ?_
  · refine hw.mono fun e W' ⟨he, bel⟩ => ?_
    subst he
    exact ⟨_, rfl, _, _, _, _, _, [], hW', trodAll_mk1 (shut_bool Try.underlying4 _), hstay W' bel, rfl, bel.frame _, fun h => by cases h⟩
  · intro v hv
    simp only [List.mem_cons, List.not_mem_nil, or_false] at hv
    rcases hv with rfl | rfl | rfl
    · exact trivial
    · exact trivial
    · exact trivial
  · simp only [List.map_cons, List.map_nil, AV.val, AV.vals]

theorem over : Rows.crossSpectraRow.holds Try.pinned (OpenSpec.ofChange Rows.crossSpectraSpec) :=
  OpenClaim.holds_of_wide 8 Try.f8 rfl rfl rfl rfl rfl rfl rfl ⟨rfl, rfl, rfl, rfl, rfl⟩ rfl rfl rfl rfl rfl (by kernel_rfl) Try.func8 (by kernel_rfl)
    (of_decide_eq_true (by kernel_rfl)) (by unfold Func.isWrapper; first | (rw [if_pos (by decide +kernel)]; kernel_rfl) | (rw [if_neg (by decide +kernel)]; exact ⟨rfl, rfl⟩))
    (fun os started H enc _ => lifted os started H enc)

theorem proved : Rows.CrossSpectraSaid := over
#print axioms proved
end Go.Proofs.Ytdcellihijlekaa.crossSpectraDone
