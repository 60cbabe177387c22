/- Texts of the proof, part 1: a second reading of the lowered code, proved sound, and what the functions compute. -/
import Derived.WalkKit
set_option linter.unusedSimpArgs false
set_option linter.unusedVariables false
set_option maxRecDepth 20000
set_option maxHeartbeats 4000000
namespace Go.Ae
structure Keep where
 no:Nat->Prop
 hide:Nat->Prop
instance:CoeFun Keep (fun _=>Nat->Prop):=⟨Keep.no⟩
structure KeepW (keep:Keep) (w w':World):Prop where
 os:w'.os=w.os
 tape:w'.tape=w.tape
 output:w'.output=w.output
 size:w.heap.size<=w'.heap.size
 block:∀r,keep r\/keep.hide r->w'.heap[r]? =w.heap[r]?
theorem kaz(keep:Keep)(w:World):KeepW keep w w:=⟨rfl,rfl,rfl,Nat.le_refl _,fun _ _=>rfl⟩
theorem KeepW.trans{keep:Keep}{a b c:World}(h:KeepW keep a b)(k:KeepW keep b c):KeepW keep a c:=
 ⟨k.os.trans h.os,k.tape.trans h.tape,k.output.trans h.output,Nat.le_trans h.size k.size,fun r hr=>(k.block r hr).trans (h.block r hr)⟩
def Keep.or(a b:Keep):Keep:=⟨fun r=>a.no r\/b.no r,fun r=>a.hide r\/b.hide r⟩
end Go.Ae
