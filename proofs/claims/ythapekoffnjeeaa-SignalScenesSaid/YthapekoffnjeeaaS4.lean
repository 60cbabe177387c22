/- Texts of the proof, part 4: a second reading of the lowered code, proved sound, and what the functions compute. -/
import GoSem.Dispatch
import Derived.Test.YthapekoffnjeeaaS3
set_option linter.unusedSimpArgs false
set_option linter.unusedVariables false
set_option maxRecDepth 20000
set_option maxHeartbeats 4000000
namespace Go.Ae
open Go.Conc
section
variable {P : Program} {w : World} {α β : Type}
theorem jad (a : α) : jaf P (pure a : Sem α) w := trivial
theorem jba (h : Halt) : jaf P (Sem.halt h : Sem α) w := trivial
theorem jap (s : String) : jaf P (stuck s : Sem α) w := trivial
theorem jai (u : Unsupported) : jaf P (unsupported u : Sem α) w := trivial
theorem jaE (v : Value) : jaf P (goPanic v : Sem α) w := trivial
theorem jaq : jaf P program w := trivial
theorem jaz (q : Question) : jaf P (choose q) w := by
 unfold choose jaf; split <;> trivial
theorem ja3 (a : Addr) : jaf P (load a) w := ⟨rfl, fun _ _ => trivial⟩
theorem jaS (a : Addr) (v : Value) : jaf P (store a v) w := ⟨rfl, fun _ _ _ => trivial⟩
theorem jcU {o : Obj} (h : isView o = false) : jaf P (newObj o) w := ⟨h, trivial⟩
theorem jfi (r : Nat) {o : Obj} (h : isView o = false) (hc : o.isChan = false) : jaf P (setObj r o) w := ⟨h, hc, fun _ _ _ => trivial⟩
theorem jbg {s : Sem α} {f : α -> β} (h : jaf P s w) : jaf P (Functor.map f s) w := jfh h fun _ _ _ => trivial
theorem jae (t : TypeId) : jaf P (underlying t) w := by
 refine jac jaq fun p w' _ => ?_;split <;> trivial
theorem jaj (t : TypeId) : jaf P (typeInfo t) w := by
 refine jac jaq fun p w' _ => ?_;split <;> trivial
theorem jak (t : TypeId) : jaf P (zeroValue t) w := by
 refine jac (jaj t) fun p w' _ => ?_;split <;> trivial
theorem jat (t : TypeId) : jaf P (sizeOf t) w := jac (jaj t) fun _ _ _ => trivial
theorem jaP (t : TypeId) : jaf P (isAgg t) w := by
 refine jac (jae t) fun p w' _ => ?_;split <;> trivial
theorem jaG (t : TypeId) : jaf P (elemOf t) w := by
 refine jac (jae t) fun p w' _ => ?_;split <;> trivial
theorem jaD (t : TypeId) (c : Array Value) : jaf P (newRow t c) w := jac (jcU rfl) fun _ _ _ => trivial
theorem jaA (t : TypeId) (v : Value) : jaf P (newVar t v) w := jaD _ _
theorem jag (e : RuntimeError) : jaf P (runtimePanic e : Sem α) w := by
 refine jac jaq fun p w' _ => ?_;cases e <;> first
  | exact trivial
  | exact jac (jaG _) fun _ _ _ => jac (jaA _ _) fun _ _ _ => trivial
theorem jaB (v : Value) : jaf P (asIntOf v) w := by unfold asIntOf; split <;> trivial
theorem jaQ (v : Value) : jaf P (asInt v) w := jac (jaB v) fun _ _ _ => trivial
theorem jaH (v : Value) : jaf P (asBool v) w := by unfold asBool; split <;> trivial
theorem jaY (v : Value) : jaf P (asAgg v) w := by unfold asAgg; split <;> trivial
theorem jaI (v : Value) : jaf P (asAddr v) w := by
 unfold asAddr; split <;> first | trivial | exact jag _
theorem jar (v : Value) : jaf P (Instr.sureAddr v) w := by unfold Instr.sureAddr; split <;> trivial
theorem jas (k : IntKind) (x y : Int) (c : BoundsCode) : jaf P (boundsPanic k x y c : Sem α) w := by
 unfold boundsPanic
 repeat' (with_reducible first | exact jad _ | exact jba _ | exact jae .. | exact jaj .. | exact jak .. | exact jat .. | exact jaP .. | exact jaG .. | exact jaD .. | exact jaA .. | exact jag .. | exact jaB .. | exact jaQ .. | exact jaH .. | exact jaY .. | exact jaI .. | exact jar .. | exact jaz .. | exact ja3 .. | exact jaS .. | exact jai .. | exact jap .. | exact jaq .. | exact jaE .. | refine jbg ?_ | refine jac ?_ (fun _ _ _ => ?_) | split | (dsimp only))
theorem jaK (n : Nat) : jaf P (askRoom n) w := by
 unfold askRoom; split
 ·exact ⟨rfl, trivial⟩
 ·trivial
theorem jcq (a : Addr) : ∀ (n i : Nat) (acc : Array Value) (w : World), jaf P (loadCellsFrom a i n acc) w
 | 0, _, _, _ => trivial
 | n + 1, i, acc, w => jac (ja3 _) fun _ w' _ => jcq a n (i + 1) _ w'
theorem jay (a : Addr) (n : Nat) : jaf P (loadCells a n) w := jcq a n 0 _ w
theorem jan (a : Addr) : ∀ (vs : List Value) (i : Nat) (w : World), jaf P (storeCells a vs i) w
 | [], _, _ => trivial
 | v :: vs, i, w => jac (jaS _ _) fun _ w' _ => jan a vs (i + 1) w'
theorem jaL (t : TypeId) (a : Addr) : jaf P (loadVar t a) w := by
 refine jac (jaP t) fun b w' _ => ?_;split
 ·exact jac (jat _) fun _ _ _ => jbg (jay _ _)
 ·exact ja3 _
theorem jaF (t : TypeId) (a : Addr) (v : Value) : jaf P (storeVar t a v) w := by
 refine jac (jat t) fun b w' _ => ?_;split
 ·exact jac (jap _) fun _ _ _ => jan _ _ _ _
 ·exact jan _ _ _ _
theorem jaO (t : TypeId) (cs : Array Value) (o : Nat) : jaf P (part t cs o) w := by
 refine jac (jaP t) fun b w' _ => ?_;split
 ·exact jac (jat _) fun _ _ _ => trivial
 ·split <;> trivial
theorem jiy (t : TypeId) (a : Value) : jaf P (Instr.loadAt t a) w := jac (jar a) fun _ _ _ => jaL _ _
theorem jhz (t : TypeId) (a v : Value) : jaf P (Instr.storeAt t a v) w := jac (jar a) fun _ _ _ => jaF _ _ _
theorem ja9 (v : Value) : jaf P (Builtin.lenOf v) w := by unfold Builtin.lenOf; split <;> trivial
theorem jax (s n : Nat) (v : Value) : jaf P (Builtin.firstCells s n v) w := by
 unfold Builtin.firstCells; split <;> first | trivial | exact jay _ _
theorem jl0 (t : TypeId) (v : Value) : jaf P (Instr.box t v) w := jac (jaA _ _) fun _ _ _ => trivial
theorem jjW (t : TypeId) : jaf P (Instr.alloc t true (.tuple #[])) w := by
 refine jac (jak t) fun z w' _ => ?_;exact jac (jaA _ _) fun _ _ _ => trivial
theorem jdI {f : α -> Sem β} (hf : ∀ a w, jaf P (f a) w) : ∀ (l : List α) (w : World), jaf P (l.mapM f) w
 | [], _ => trivial
 | a :: l, w => by
  rw [List.mapM_cons];exact jac (hf a w) fun _ w' _ => jac (jdI hf l w') fun _ _ _ => trivial
theorem jhA {f : α -> Sem β} (hf : ∀ a w, jaf P (f a) w) (l : Array α) : jaf P (l.mapM f) w := by
 rw [Array.mapM_eq_mapM_toList];exact jbg (jdI hf _ _)
theorem jjX (t : TypeId) (ps : Array (Nat × Value)) : jaf P (Instr.build t ps) w := by
 unfold Instr.build
 repeat' (with_reducible first | exact jad _ | exact jba _ | exact jae .. | exact jaj .. | exact jak .. | exact jat .. | exact jaP .. | exact jaG .. | exact jaD .. | exact jaA .. | exact jag .. | exact jaB .. | exact jaQ .. | exact jaH .. | exact jaY .. | exact jaI .. | exact jar .. | exact jaz .. | exact ja3 .. | exact jaS .. | exact jai .. | exact jap .. | exact jaq .. | exact jaE .. | exact jas .. | exact jaK .. | exact jay .. | exact jan .. | exact jaL .. | exact jaF .. | exact jaO .. | exact ja9 .. | exact jax .. | exact jhA (fun _ _ => jac (jat _) fun _ _ _ => jad _) _ | refine jbg ?_ | refine jac ?_ (fun _ _ _ => ?_) | split | (dsimp only))
theorem jfj (t : TypeId) (n : Nat) (ps : Array (Nat × Value)) : jaf P (Instr.buildSlice t n ps) w := by
 unfold Instr.buildSlice
 repeat' (with_reducible first | exact jad _ | exact jba _ | exact jae .. | exact jaj .. | exact jak .. | exact jat .. | exact jaP .. | exact jaG .. | exact jaD .. | exact jaA .. | exact jag .. | exact jaB .. | exact jaQ .. | exact jaH .. | exact jaY .. | exact jaI .. | exact jar .. | exact jaz .. | exact ja3 .. | exact jaS .. | exact jai .. | exact jap .. | exact jaq .. | exact jaE .. | exact jas .. | exact jaK .. | exact jay .. | exact jan .. | exact jaL .. | exact jaF .. | exact jaO .. | exact ja9 .. | exact jax .. | refine jbg ?_ | refine jac ?_ (fun _ _ _ => ?_) | split | (dsimp only))
theorem jf8 (t : TypeId) (l c : Value) : jaf P (Instr.makeSlice t l c) w := by
 unfold Instr.makeSlice
 repeat' (with_reducible first | exact jad _ | exact jba _ | exact jae .. | exact jaj .. | exact jak .. | exact jat .. | exact jaP .. | exact jaG .. | exact jaD .. | exact jaA .. | exact jag .. | exact jaB .. | exact jaQ .. | exact jaH .. | exact jaY .. | exact jaI .. | exact jar .. | exact jaz .. | exact ja3 .. | exact jaS .. | exact jai .. | exact jap .. | exact jaq .. | exact jaE .. | exact jas .. | exact jaK .. | exact jay .. | exact jan .. | exact jaL .. | exact jaF .. | exact jaO .. | exact ja9 .. | exact jax .. | refine jbg ?_ | refine jac ?_ (fun _ _ _ => ?_) | split | (dsimp only))
theorem jaW (x : Value) (y : Nat) (c : BoundsCode) : jaf P (Instr.sliceBound x y c) w := by
 unfold Instr.sliceBound
 repeat' (with_reducible first | exact jad _ | exact jba _ | exact jae .. | exact jaj .. | exact jak .. | exact jat .. | exact jaP .. | exact jaG .. | exact jaD .. | exact jaA .. | exact jag .. | exact jaB .. | exact jaQ .. | exact jaH .. | exact jaY .. | exact jaI .. | exact jar .. | exact jaz .. | exact ja3 .. | exact jaS .. | exact jai .. | exact jap .. | exact jaq .. | exact jaE .. | exact jas .. | exact jaK .. | refine jbg ?_ | refine jac ?_ (fun _ _ _ => ?_) | split | (dsimp only))
theorem ja1 (b : Bool) (l c : Nat) (lo hi mx : Option Value) : jaf P (Instr.sliceBounds b l c lo hi mx) w := by
 unfold Instr.sliceBounds
 repeat' (with_reducible first | exact jad _ | exact jba _ | exact jae .. | exact jaj .. | exact jak .. | exact jat .. | exact jaP .. | exact jaG .. | exact jaD .. | exact jaA .. | exact jag .. | exact jaB .. | exact jaQ .. | exact jaH .. | exact jaY .. | exact jaI .. | exact jar .. | exact jaz .. | exact ja3 .. | exact jaS .. | exact jai .. | exact jap .. | exact jaq .. | exact jaE .. | exact jaW .. | refine jbg ?_ | refine jac ?_ (fun _ _ _ => ?_) | split | (dsimp only))
theorem jhB (t : TypeId) (x : Value) (lo hi mx : Option Value) : jaf P (Instr.sliceAt t x lo hi mx) w := by
 unfold Instr.sliceAt Instr.slice
 repeat' (with_reducible first | exact jad _ | exact jba _ | exact jae .. | exact jaj .. | exact jak .. | exact jat .. | exact jaP .. | exact jaG .. | exact jaD .. | exact jaA .. | exact jag .. | exact jaB .. | exact jaQ .. | exact jaH .. | exact jaY .. | exact jaI .. | exact jar .. | exact jaz .. | exact ja3 .. | exact jaS .. | exact jai .. | exact jap .. | exact jaq .. | exact jaE .. | exact jas .. | exact jaK .. | exact jay .. | exact jan .. | exact jaL .. | exact jaF .. | exact jaO .. | exact ja9 .. | exact jax .. | exact jaW .. | exact ja1 .. | refine jbg ?_ | refine jac ?_ (fun _ _ _ => ?_) | split | (dsimp only))
theorem jjY (t : TypeId) (x : Value) (f : Nat) : jaf P (Instr.field t x f) w := by
 unfold Instr.field
 repeat' (with_reducible first | exact jad _ | exact jba _ | exact jae .. | exact jaj .. | exact jak .. | exact jat .. | exact jaP .. | exact jaG .. | exact jaD .. | exact jaA .. | exact jag .. | exact jaB .. | exact jaQ .. | exact jaH .. | exact jaY .. | exact jaI .. | exact jar .. | exact jaz .. | exact ja3 .. | exact jaS .. | exact jai .. | exact jap .. | exact jaq .. | exact jaE .. | exact jas .. | exact jaK .. | exact jay .. | exact jan .. | exact jaL .. | exact jaF .. | exact jaO .. | exact ja9 .. | exact jax .. | exact jaW .. | exact ja1 .. | refine jbg ?_ | refine jac ?_ (fun _ _ _ => ?_) | split | (dsimp only))
theorem jjZ (t : TypeId) (x i : Value) : jaf P (Instr.index t x i) w := by
 unfold Instr.index
 repeat' (with_reducible first | exact jad _ | exact jba _ | exact jae .. | exact jaj .. | exact jak .. | exact jat .. | exact jaP .. | exact jaG .. | exact jaD .. | exact jaA .. | exact jag .. | exact jaB .. | exact jaQ .. | exact jaH .. | exact jaY .. | exact jaI .. | exact jar .. | exact jaz .. | exact ja3 .. | exact jaS .. | exact jai .. | exact jap .. | exact jaq .. | exact jaE .. | exact jas .. | exact jaK .. | exact jay .. | exact jan .. | exact jaL .. | exact jaF .. | exact jaO .. | exact ja9 .. | exact jax .. | exact jaW .. | exact ja1 .. | refine jbg ?_ | refine jac ?_ (fun _ _ _ => ?_) | split | (dsimp only))
theorem jhC (t : TypeId) (x i : Value) : jaf P (Instr.indexAt t x i) w := by
 unfold Instr.indexAt
 repeat' (with_reducible first | exact jad _ | exact jba _ | exact jae .. | exact jaj .. | exact jak .. | exact jat .. | exact jaP .. | exact jaG .. | exact jaD .. | exact jaA .. | exact jag .. | exact jaB .. | exact jaQ .. | exact jaH .. | exact jaY .. | exact jaI .. | exact jar .. | exact jaz .. | exact ja3 .. | exact jaS .. | exact jai .. | exact jap .. | exact jaq .. | exact jaE .. | exact jas .. | exact jaK .. | exact jay .. | exact jan .. | exact jaL .. | exact jaF .. | exact jaO .. | exact ja9 .. | exact jax .. | exact jaW .. | exact ja1 .. | refine jbg ?_ | refine jac ?_ (fun _ _ _ => ?_) | split | (dsimp only))
theorem jhD (t : Value) (i : Nat) : jaf P (Instr.extract t i) w := by
 unfold Instr.extract
 repeat' (with_reducible first | exact jad _ | exact jba _ | exact jae .. | exact jaj .. | exact jak .. | exact jat .. | exact jaP .. | exact jaG .. | exact jaD .. | exact jaA .. | exact jag .. | exact jaB .. | exact jaQ .. | exact jaH .. | exact jaY .. | exact jaI .. | exact jar .. | exact jaz .. | exact ja3 .. | exact jaS .. | exact jai .. | exact jap .. | exact jaq .. | exact jaE .. | exact jas .. | exact jaK .. | exact jay .. | exact jan .. | exact jaL .. | exact jaF .. | exact jaO .. | exact ja9 .. | exact jax .. | exact jaW .. | exact ja1 .. | refine jbg ?_ | refine jac ?_ (fun _ _ _ => ?_) | split | (dsimp only))
theorem jj0 (op : UnOp) (x : Value) : jaf P (Op.unary op x) w := by
 unfold Op.unary Op.intArith Op.intBits
 repeat' (with_reducible first | exact jad _ | exact jba _ | exact jae .. | exact jaj .. | exact jak .. | exact jat .. | exact jaP .. | exact jaG .. | exact jaD .. | exact jaA .. | exact jag .. | exact jaB .. | exact jaQ .. | exact jaH .. | exact jaY .. | exact jaI .. | exact jar .. | exact jaz .. | exact ja3 .. | exact jaS .. | exact jai .. | exact jap .. | exact jaq .. | exact jaE .. | exact jas .. | exact jaK .. | exact jay .. | exact jan .. | exact jaL .. | exact jaF .. | exact jaO .. | exact ja9 .. | exact jax .. | exact jaW .. | exact ja1 .. | refine jbg ?_ | refine jac ?_ (fun _ _ _ => ?_) | split | (dsimp only))
theorem jkO (ts : Array TypeId) (t : TypeId) (zas : Array Value) : jaf P (Builtin.copy_ ts t zas) w := by
 unfold Builtin.copy_
 repeat' (with_reducible first | exact jad _ | exact jba _ | exact jae .. | exact jaj .. | exact jak .. | exact jat .. | exact jaP .. | exact jaG .. | exact jaD .. | exact jaA .. | exact jag .. | exact jaB .. | exact jaQ .. | exact jaH .. | exact jaY .. | exact jaI .. | exact jar .. | exact jaz .. | exact ja3 .. | exact jaS .. | exact jai .. | exact jap .. | exact jaq .. | exact jaE .. | exact jas .. | exact jaK .. | exact jay .. | exact jan .. | exact jaL .. | exact jaF .. | exact jaO .. | exact ja9 .. | exact jax .. | exact jaW .. | exact ja1 .. | refine jbg ?_ | refine jac ?_ (fun _ _ _ => ?_) | split | (dsimp only))
end
end Go.Ae
