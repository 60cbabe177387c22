/- Calls that neither get nor give blocks: what holds over no blocks holds over any. -/
import Derived.Test.YtbmoggkjijnajaaAeRun
namespace Go.Ae

def Heap.empty : Heap := ⟨0, fun _ => none, fun _ _ => rfl⟩

def AV.free (v : AV) : Prop := v.bel fun _ => False

section
variable {C : Ctx}

theorem rel_same {keep : Keep} {env : Env} {h : Heap} {w w' : World} (R : Rel C keep env h w) (hsz : w.heap.size ≤ w'.heap.size) (hrow : ∀ r, r < w.heap.size → w'.heap[r]? = w.heap[r]?) : Rel C keep env h w' :=
  ⟨fun i b hb => Nat.lt_of_lt_of_le (R.lt i b hb) hsz, fun i b hb => (R.blk i b hb).mono (Ext.refl h env) (R.bel i b hb) (hrow _ (R.lt i b hb)), R.disj, R.bel, R.kept, fun r hr => Nat.lt_of_lt_of_le (R.keepLt r hr) hsz, R.hid,
    fun r hr => Nat.lt_of_lt_of_le (R.hidLt r hr) hsz⟩

theorem free_vals {lk : Nat → FuncId} {env env' : Env} {args : List AV} (h : ∀ a ∈ args, a.free) : args.map (AV.val lk env') = args.map (AV.val lk env) :=
  List.map_congr_left fun a ha => val_congr (fun _ h => h.elim) a (h a ha)

theorem ACalls.lift {g : Nat} {args : List AV} {v : AV} (hargs : ∀ a ∈ args, a.free) (hv : v.free) (hc : ACalls C g args Heap.empty (fun r _ => r = v)) (h : Heap) : ACalls C g args h (fun r h' => r = v ∧ h' = h) := by
  refine ⟨hc.1, fun keep env w R hb => ?_⟩
  have R0 : Rel C ⟨fun r => r < w.heap.size, fun r => r < w.heap.size⟩ env Heap.empty w :=
    ⟨fun i b hi => (by cases hi), fun i b hi => (by cases hi), fun i j b c hi => (by cases hi), fun i b hi => (by cases hi), fun i b hi => (by cases hi), fun r hr => hr, fun i b hi => (by cases hi), fun r hr => hr⟩
  refine (hc.2 _ env w R0 (fun a ha => bel_mono (fun _ h => h.elim) a (hargs a ha))).mono ?_
  rintro e w' ⟨env1, r, h1, rfl, rfl, R1, K1, _, _, _⟩
  refine ⟨env, r, h, by rw [val_congr (fun _ h => h.elim) r hv], ⟨rfl, rfl⟩, rel_same R K1.size fun q hq => K1.block q hq, ⟨K1.os, K1.tape, K1.output, K1.size, fun q hq => K1.block q (R.keepLt q hq)⟩, Ext.refl _ _, HLe.refl _, bel_mono (fun _ h => h.elim) r hv⟩

/-- A run over no blocks that gives a bool. -/
def runsTo (T : Nat → Option ABody) (fuel depth g : Nat) (args : List AV) : Bool :=
  match runCall T fuel depth (.func g [] []) args Heap.empty with
  | some (.bool true, _) => true
  | _ => false

theorem runsTo_sound {T : Nat → Option ABody} (hT : ∀ g b, T g = some b → C.body g = some b) {fuel depth g : Nat} {args : List AV} (hargs : ∀ a ∈ args, a.free) (hr : runsTo T fuel depth g args = true) (h : Heap) :
    ACalls C g args h (fun r h' => r = .bool true ∧ h' = h) := by
  unfold runsTo at hr
  split at hr
  · rename_i h1 he
    have := runCall_sound hT fuel depth _ _ _ _ _ he
    have h2 : ACalls C g args Heap.empty (fun r' h'' => r' = .bool true ∧ h'' = h1) := by simpa [callP] using this
    exact (h2.mono fun r h' q => q.1).lift hargs (v := .bool true) trivial h
  · cases hr

end
end Go.Ae
