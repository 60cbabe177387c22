/- Texts of the proof, part 4: a second reading of the lowered code, proved sound, and what the functions compute. -/
import GoSem.Dispatch
import Derived.Test.YtkbkpjinekcnhaaGreatG3
set_option linter.unusedSimpArgs false
set_option linter.unusedVariables false
set_option maxRecDepth 20000
set_option maxHeartbeats 4000000
namespace Go.Ae
open Go.Conc
section
variable {P : Program} {w : World} {α β : Type}
theorem jac (a : α) : jaf P (pure a : Sem α) w := trivial
theorem jbo (h : Halt) : jaf P (Sem.halt h : Sem α) w := trivial
theorem jar (s : String) : jaf P (stuck s : Sem α) w := trivial
theorem jak (u : Unsupported) : jaf P (unsupported u : Sem α) w := trivial
theorem jaL (v : Value) : jaf P (goPanic v : Sem α) w := trivial
theorem jas : jaf P program w := trivial
theorem jaG (q : Question) : jaf P (choose q) w := by
 unfold choose jaf; split <;> trivial
theorem jbg (a : Addr) : jaf P (load a) w := ⟨rfl, fun _ _ => trivial⟩
theorem ja5 (a : Addr) (v : Value) : jaf P (store a v) w := ⟨rfl, fun _ _ _ => trivial⟩
theorem jdP {o : Obj} (h : isView o = false) : jaf P (newObj o) w := ⟨h, trivial⟩
theorem jhe (r : Nat) {o : Obj} (h : isView o = false) (hc : o.isChan = false) : jaf P (setObj r o) w := ⟨h, hc, fun _ _ _ => trivial⟩
theorem jbu {s : Sem α} {f : α -> β} (h : jaf P s w) : jaf P (Functor.map f s) w := jhd h fun _ _ _ => trivial
theorem jae (t : TypeId) : jaf P (underlying t) w := by
 refine jab jas fun p w' _ => ?_;split <;> trivial
theorem jal (t : TypeId) : jaf P (typeInfo t) w := by
 refine jab jas fun p w' _ => ?_;split <;> trivial
theorem jan (t : TypeId) : jaf P (zeroValue t) w := by
 refine jab (jal t) fun p w' _ => ?_;split <;> trivial
theorem jaz (t : TypeId) : jaf P (sizeOf t) w := jab (jal t) fun _ _ _ => trivial
theorem ja1 (t : TypeId) : jaf P (isAgg t) w := by
 refine jab (jae t) fun p w' _ => ?_;split <;> trivial
theorem jaQ (t : TypeId) : jaf P (elemOf t) w := by
 refine jab (jae t) fun p w' _ => ?_;split <;> trivial
theorem jaK (t : TypeId) (c : Array Value) : jaf P (newRow t c) w := jab (jdP rfl) fun _ _ _ => trivial
theorem jaH (t : TypeId) (v : Value) : jaf P (newVar t v) w := jaK _ _
theorem jai (e : RuntimeError) : jaf P (runtimePanic e : Sem α) w := by
 refine jab jas fun p w' _ => ?_;cases e <;> first
  | exact trivial
  | exact jab (jaQ _) fun _ _ _ => jab (jaH _ _) fun _ _ _ => trivial
theorem jaI (v : Value) : jaf P (asIntOf v) w := by unfold asIntOf; split <;> trivial
theorem ja2 (v : Value) : jaf P (asInt v) w := jab (jaI v) fun _ _ _ => trivial
theorem jaR (v : Value) : jaf P (asBool v) w := by unfold asBool; split <;> trivial
theorem jba (v : Value) : jaf P (asAgg v) w := by unfold asAgg; split <;> trivial
theorem jaS (v : Value) : jaf P (asAddr v) w := by
 unfold asAddr; split <;> first | trivial | exact jai _
theorem jau (v : Value) : jaf P (Instr.sureAddr v) w := by unfold Instr.sureAddr; split <;> trivial
theorem jay (k : IntKind) (x y : Int) (c : BoundsCode) : jaf P (boundsPanic k x y c : Sem α) w := by
 unfold boundsPanic
 repeat' (with_reducible first | exact jac _ | exact jbo _ | exact jae .. | exact jal .. | exact jan .. | exact jaz .. | exact ja1 .. | exact jaQ .. | exact jaK .. | exact jaH .. | exact jai .. | exact jaI .. | exact ja2 .. | exact jaR .. | exact jba .. | exact jaS .. | exact jau .. | exact jaG .. | exact jbg .. | exact ja5 .. | exact jak .. | exact jar .. | exact jas .. | exact jaL .. | refine jbu ?_ | refine jab ?_ (fun _ _ _ => ?_) | split | (dsimp only))
theorem jaT (n : Nat) : jaf P (askRoom n) w := by
 unfold askRoom; split
 ·exact ⟨rfl, trivial⟩
 ·trivial
theorem jc9 (a : Addr) : ∀ (n i : Nat) (acc : Array Value) (w : World), jaf P (loadCellsFrom a i n acc) w
 | 0, _, _, _ => trivial
 | n + 1, i, acc, w => jab (jbg _) fun _ w' _ => jc9 a n (i + 1) _ w'
theorem jaD (a : Addr) (n : Nat) : jaf P (loadCells a n) w := jc9 a n 0 _ w
theorem jaq (a : Addr) : ∀ (vs : List Value) (i : Nat) (w : World), jaf P (storeCells a vs i) w
 | [], _, _ => trivial
 | v :: vs, i, w => jab (ja5 _ _) fun _ w' _ => jaq a vs (i + 1) w'
theorem jaU (t : TypeId) (a : Addr) : jaf P (loadVar t a) w := by
 refine jab (ja1 t) fun b w' _ => ?_;split
 ·exact jab (jaz _) fun _ _ _ => jbu (jaD _ _)
 ·exact jbg _
theorem jaP (t : TypeId) (a : Addr) (v : Value) : jaf P (storeVar t a v) w := by
 refine jab (jaz t) fun b w' _ => ?_;split
 ·exact jab (jar _) fun _ _ _ => jaq _ _ _ _
 ·exact jaq _ _ _ _
theorem jaY (t : TypeId) (cs : Array Value) (o : Nat) : jaf P (part t cs o) w := by
 refine jab (ja1 t) fun b w' _ => ?_;split
 ·exact jab (jaz _) fun _ _ _ => trivial
 ·split <;> trivial
theorem jlH (t : TypeId) (a : Value) : jaf P (Instr.loadAt t a) w := jab (jau a) fun _ _ _ => jaU _ _
theorem jkr (t : TypeId) (a v : Value) : jaf P (Instr.storeAt t a v) w := jab (jau a) fun _ _ _ => jaP _ _ _
theorem jbm (v : Value) : jaf P (Builtin.lenOf v) w := by unfold Builtin.lenOf; split <;> trivial
theorem jaC (s n : Nat) (v : Value) : jaf P (Builtin.firstCells s n v) w := by
 unfold Builtin.firstCells; split <;> first | trivial | exact jaD _ _
theorem jqy (t : TypeId) (v : Value) : jaf P (Instr.box t v) w := jab (jaH _ _) fun _ _ _ => trivial
theorem jnA (t : TypeId) : jaf P (Instr.alloc t true (.tuple #[])) w := by
 refine jab (jan t) fun z w' _ => ?_;exact jab (jaH _ _) fun _ _ _ => trivial
theorem jeV {f : α -> Sem β} (hf : ∀ a w, jaf P (f a) w) : ∀ (l : List α) (w : World), jaf P (l.mapM f) w
 | [], _ => trivial
 | a :: l, w => by
  rw [List.mapM_cons];exact jab (hf a w) fun _ w' _ => jab (jeV hf l w') fun _ _ _ => trivial
theorem jks {f : α -> Sem β} (hf : ∀ a w, jaf P (f a) w) (l : Array α) : jaf P (l.mapM f) w := by
 rw [Array.mapM_eq_mapM_toList];exact jbu (jeV hf _ _)
theorem jnB (t : TypeId) (ps : Array (Nat × Value)) : jaf P (Instr.build t ps) w := by
 unfold Instr.build
 repeat' (with_reducible first | exact jac _ | exact jbo _ | exact jae .. | exact jal .. | exact jan .. | exact jaz .. | exact ja1 .. | exact jaQ .. | exact jaK .. | exact jaH .. | exact jai .. | exact jaI .. | exact ja2 .. | exact jaR .. | exact jba .. | exact jaS .. | exact jau .. | exact jaG .. | exact jbg .. | exact ja5 .. | exact jak .. | exact jar .. | exact jas .. | exact jaL .. | exact jay .. | exact jaT .. | exact jaD .. | exact jaq .. | exact jaU .. | exact jaP .. | exact jaY .. | exact jbm .. | exact jaC .. | exact jks (fun _ _ => jab (jaz _) fun _ _ _ => jac _) _ | refine jbu ?_ | refine jab ?_ (fun _ _ _ => ?_) | split | (dsimp only))
theorem jhf (t : TypeId) (n : Nat) (ps : Array (Nat × Value)) : jaf P (Instr.buildSlice t n ps) w := by
 unfold Instr.buildSlice
 repeat' (with_reducible first | exact jac _ | exact jbo _ | exact jae .. | exact jal .. | exact jan .. | exact jaz .. | exact ja1 .. | exact jaQ .. | exact jaK .. | exact jaH .. | exact jai .. | exact jaI .. | exact ja2 .. | exact jaR .. | exact jba .. | exact jaS .. | exact jau .. | exact jaG .. | exact jbg .. | exact ja5 .. | exact jak .. | exact jar .. | exact jas .. | exact jaL .. | exact jay .. | exact jaT .. | exact jaD .. | exact jaq .. | exact jaU .. | exact jaP .. | exact jaY .. | exact jbm .. | exact jaC .. | refine jbu ?_ | refine jab ?_ (fun _ _ _ => ?_) | split | (dsimp only))
theorem jiq (t : TypeId) (l c : Value) : jaf P (Instr.makeSlice t l c) w := by
 unfold Instr.makeSlice
 repeat' (with_reducible first | exact jac _ | exact jbo _ | exact jae .. | exact jal .. | exact jan .. | exact jaz .. | exact ja1 .. | exact jaQ .. | exact jaK .. | exact jaH .. | exact jai .. | exact jaI .. | exact ja2 .. | exact jaR .. | exact jba .. | exact jaS .. | exact jau .. | exact jaG .. | exact jbg .. | exact ja5 .. | exact jak .. | exact jar .. | exact jas .. | exact jaL .. | exact jay .. | exact jaT .. | exact jaD .. | exact jaq .. | exact jaU .. | exact jaP .. | exact jaY .. | exact jbm .. | exact jaC .. | refine jbu ?_ | refine jab ?_ (fun _ _ _ => ?_) | split | (dsimp only))
theorem ja8 (x : Value) (y : Nat) (c : BoundsCode) : jaf P (Instr.sliceBound x y c) w := by
 unfold Instr.sliceBound
 repeat' (with_reducible first | exact jac _ | exact jbo _ | exact jae .. | exact jal .. | exact jan .. | exact jaz .. | exact ja1 .. | exact jaQ .. | exact jaK .. | exact jaH .. | exact jai .. | exact jaI .. | exact ja2 .. | exact jaR .. | exact jba .. | exact jaS .. | exact jau .. | exact jaG .. | exact jbg .. | exact ja5 .. | exact jak .. | exact jar .. | exact jas .. | exact jaL .. | exact jay .. | exact jaT .. | refine jbu ?_ | refine jab ?_ (fun _ _ _ => ?_) | split | (dsimp only))
theorem jbc (b : Bool) (l c : Nat) (lo hi mx : Option Value) : jaf P (Instr.sliceBounds b l c lo hi mx) w := by
 unfold Instr.sliceBounds
 repeat' (with_reducible first | exact jac _ | exact jbo _ | exact jae .. | exact jal .. | exact jan .. | exact jaz .. | exact ja1 .. | exact jaQ .. | exact jaK .. | exact jaH .. | exact jai .. | exact jaI .. | exact ja2 .. | exact jaR .. | exact jba .. | exact jaS .. | exact jau .. | exact jaG .. | exact jbg .. | exact ja5 .. | exact jak .. | exact jar .. | exact jas .. | exact jaL .. | exact ja8 .. | refine jbu ?_ | refine jab ?_ (fun _ _ _ => ?_) | split | (dsimp only))
theorem jkt (t : TypeId) (x : Value) (lo hi mx : Option Value) : jaf P (Instr.sliceAt t x lo hi mx) w := by
 unfold Instr.sliceAt Instr.slice
 repeat' (with_reducible first | exact jac _ | exact jbo _ | exact jae .. | exact jal .. | exact jan .. | exact jaz .. | exact ja1 .. | exact jaQ .. | exact jaK .. | exact jaH .. | exact jai .. | exact jaI .. | exact ja2 .. | exact jaR .. | exact jba .. | exact jaS .. | exact jau .. | exact jaG .. | exact jbg .. | exact ja5 .. | exact jak .. | exact jar .. | exact jas .. | exact jaL .. | exact jay .. | exact jaT .. | exact jaD .. | exact jaq .. | exact jaU .. | exact jaP .. | exact jaY .. | exact jbm .. | exact jaC .. | exact ja8 .. | exact jbc .. | refine jbu ?_ | refine jab ?_ (fun _ _ _ => ?_) | split | (dsimp only))
theorem jnC (t : TypeId) (x : Value) (f : Nat) : jaf P (Instr.field t x f) w := by
 unfold Instr.field
 repeat' (with_reducible first | exact jac _ | exact jbo _ | exact jae .. | exact jal .. | exact jan .. | exact jaz .. | exact ja1 .. | exact jaQ .. | exact jaK .. | exact jaH .. | exact jai .. | exact jaI .. | exact ja2 .. | exact jaR .. | exact jba .. | exact jaS .. | exact jau .. | exact jaG .. | exact jbg .. | exact ja5 .. | exact jak .. | exact jar .. | exact jas .. | exact jaL .. | exact jay .. | exact jaT .. | exact jaD .. | exact jaq .. | exact jaU .. | exact jaP .. | exact jaY .. | exact jbm .. | exact jaC .. | exact ja8 .. | exact jbc .. | refine jbu ?_ | refine jab ?_ (fun _ _ _ => ?_) | split | (dsimp only))
theorem jnD (t : TypeId) (x i : Value) : jaf P (Instr.index t x i) w := by
 unfold Instr.index
 repeat' (with_reducible first | exact jac _ | exact jbo _ | exact jae .. | exact jal .. | exact jan .. | exact jaz .. | exact ja1 .. | exact jaQ .. | exact jaK .. | exact jaH .. | exact jai .. | exact jaI .. | exact ja2 .. | exact jaR .. | exact jba .. | exact jaS .. | exact jau .. | exact jaG .. | exact jbg .. | exact ja5 .. | exact jak .. | exact jar .. | exact jas .. | exact jaL .. | exact jay .. | exact jaT .. | exact jaD .. | exact jaq .. | exact jaU .. | exact jaP .. | exact jaY .. | exact jbm .. | exact jaC .. | exact ja8 .. | exact jbc .. | refine jbu ?_ | refine jab ?_ (fun _ _ _ => ?_) | split | (dsimp only))
theorem jku (t : TypeId) (x i : Value) : jaf P (Instr.indexAt t x i) w := by
 unfold Instr.indexAt
 repeat' (with_reducible first | exact jac _ | exact jbo _ | exact jae .. | exact jal .. | exact jan .. | exact jaz .. | exact ja1 .. | exact jaQ .. | exact jaK .. | exact jaH .. | exact jai .. | exact jaI .. | exact ja2 .. | exact jaR .. | exact jba .. | exact jaS .. | exact jau .. | exact jaG .. | exact jbg .. | exact ja5 .. | exact jak .. | exact jar .. | exact jas .. | exact jaL .. | exact jay .. | exact jaT .. | exact jaD .. | exact jaq .. | exact jaU .. | exact jaP .. | exact jaY .. | exact jbm .. | exact jaC .. | exact ja8 .. | exact jbc .. | refine jbu ?_ | refine jab ?_ (fun _ _ _ => ?_) | split | (dsimp only))
theorem jkv (t : Value) (i : Nat) : jaf P (Instr.extract t i) w := by
 unfold Instr.extract
 repeat' (with_reducible first | exact jac _ | exact jbo _ | exact jae .. | exact jal .. | exact jan .. | exact jaz .. | exact ja1 .. | exact jaQ .. | exact jaK .. | exact jaH .. | exact jai .. | exact jaI .. | exact ja2 .. | exact jaR .. | exact jba .. | exact jaS .. | exact jau .. | exact jaG .. | exact jbg .. | exact ja5 .. | exact jak .. | exact jar .. | exact jas .. | exact jaL .. | exact jay .. | exact jaT .. | exact jaD .. | exact jaq .. | exact jaU .. | exact jaP .. | exact jaY .. | exact jbm .. | exact jaC .. | exact ja8 .. | exact jbc .. | refine jbu ?_ | refine jab ?_ (fun _ _ _ => ?_) | split | (dsimp only))
theorem jnE (op : UnOp) (x : Value) : jaf P (Op.unary op x) w := by
 unfold Op.unary Op.intArith Op.intBits
 repeat' (with_reducible first | exact jac _ | exact jbo _ | exact jae .. | exact jal .. | exact jan .. | exact jaz .. | exact ja1 .. | exact jaQ .. | exact jaK .. | exact jaH .. | exact jai .. | exact jaI .. | exact ja2 .. | exact jaR .. | exact jba .. | exact jaS .. | exact jau .. | exact jaG .. | exact jbg .. | exact ja5 .. | exact jak .. | exact jar .. | exact jas .. | exact jaL .. | exact jay .. | exact jaT .. | exact jaD .. | exact jaq .. | exact jaU .. | exact jaP .. | exact jaY .. | exact jbm .. | exact jaC .. | exact ja8 .. | exact jbc .. | refine jbu ?_ | refine jab ?_ (fun _ _ _ => ?_) | split | (dsimp only))
theorem joO (ts : Array TypeId) (t : TypeId) (zas : Array Value) : jaf P (Builtin.copy_ ts t zas) w := by
 unfold Builtin.copy_
 repeat' (with_reducible first | exact jac _ | exact jbo _ | exact jae .. | exact jal .. | exact jan .. | exact jaz .. | exact ja1 .. | exact jaQ .. | exact jaK .. | exact jaH .. | exact jai .. | exact jaI .. | exact ja2 .. | exact jaR .. | exact jba .. | exact jaS .. | exact jau .. | exact jaG .. | exact jbg .. | exact ja5 .. | exact jak .. | exact jar .. | exact jas .. | exact jaL .. | exact jay .. | exact jaT .. | exact jaD .. | exact jaq .. | exact jaU .. | exact jaP .. | exact jaY .. | exact jbm .. | exact jaC .. | exact ja8 .. | exact jbc .. | refine jbu ?_ | refine jab ?_ (fun _ _ _ => ?_) | split | (dsimp only))
end
end Go.Ae
