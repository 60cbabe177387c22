/- Texts of the proof, part 4: a second reading of the lowered code, proved sound, and what the functions compute. -/
import GoSem.Dispatch
import Derived.Test.YthapekoffnjeeaaG3
set_option linter.unusedSimpArgs false
set_option linter.unusedVariables false
namespace Go.Ae
open Go.Conc
section
variable {P : Program} {w : World} {α β : Type}
theorem jad (a : α) : jaf P (pure a : Sem α) w := trivial
theorem jbe (h : Halt) : jaf P (Sem.halt h : Sem α) w := trivial
theorem jap (s : String) : jaf P (stuck s : Sem α) w := trivial
theorem jak (u : Unsupported) : jaf P (unsupported u : Sem α) w := trivial
theorem jaH (v : Value) : jaf P (goPanic v : Sem α) w := trivial
theorem jaq : jaf P program w := trivial
theorem jaC (q : Question) : jaf P (choose q) w := by
 unfold choose jaf; split <;> trivial
theorem ja7 (a : Addr) : jaf P (load a) w := ⟨rfl, fun _ _ => trivial⟩
theorem jaU (a : Addr) (v : Value) : jaf P (store a v) w := ⟨rfl, fun _ _ _ => trivial⟩
theorem jc9 {o : Obj} (h : isView o = false) : jaf P (newObj o) w := ⟨h, trivial⟩
theorem jfQ (r : Nat) {o : Obj} (h : isView o = false) (hc : o.isChan = false) : jaf P (setObj r o) w := ⟨h, hc, fun _ _ _ => trivial⟩
theorem jbk {s : Sem α} {f : α → β} (h : jaf P s w) : jaf P (Functor.map f s) w := jfP h fun _ _ _ => trivial
theorem jae (t : TypeId) : jaf P (underlying t) w := by
 refine jac jaq fun p w' _ => ?_
 split <;> trivial
theorem jal (t : TypeId) : jaf P (typeInfo t) w := by
 refine jac jaq fun p w' _ => ?_
 split <;> trivial
theorem jam (t : TypeId) : jaf P (zeroValue t) w := by
 refine jac (jal t) fun p w' _ => ?_
 split <;> trivial
theorem jau (t : TypeId) : jaf P (sizeOf t) w := jac (jal t) fun _ _ _ => trivial
theorem jaR (t : TypeId) : jaf P (isAgg t) w := by
 refine jac (jae t) fun p w' _ => ?_
 split <;> trivial
theorem jaJ (t : TypeId) : jaf P (elemOf t) w := by
 refine jac (jae t) fun p w' _ => ?_
 split <;> trivial
theorem jaG (t : TypeId) (c : Array Value) : jaf P (newRow t c) w := jac (jc9 rfl) fun _ _ _ => trivial
theorem jaD (t : TypeId) (v : Value) : jaf P (newVar t v) w := jaG _ _
theorem jah (e : RuntimeError) : jaf P (runtimePanic e : Sem α) w := by
 refine jac jaq fun p w' _ => ?_
 cases e <;> first
  | exact trivial
  | exact jac (jaJ _) fun _ _ _ => jac (jaD _ _) fun _ _ _ => trivial
theorem jaE (v : Value) : jaf P (asIntOf v) w := by unfold asIntOf; split <;> trivial
theorem jaS (v : Value) : jaf P (asInt v) w := jac (jaE v) fun _ _ _ => trivial
theorem jaK (v : Value) : jaf P (asBool v) w := by unfold asBool; split <;> trivial
theorem ja3 (v : Value) : jaf P (asAgg v) w := by unfold asAgg; split <;> trivial
theorem jaL (v : Value) : jaf P (asAddr v) w := by
 unfold asAddr; split <;> first | trivial | exact jah _
theorem jar (v : Value) : jaf P (Instr.sureAddr v) w := by unfold Instr.sureAddr; split <;> trivial
theorem jat (k : IntKind) (x y : Int) (c : BoundsCode) : jaf P (boundsPanic k x y c : Sem α) w := by
 unfold boundsPanic
 repeat' (with_reducible first | exact jad _ | exact jbe _ | exact jae .. | exact jal .. | exact jam .. | exact jau .. | exact jaR .. | exact jaJ .. | exact jaG .. | exact jaD .. | exact jah .. | exact jaE .. | exact jaS .. | exact jaK .. | exact ja3 .. | exact jaL .. | exact jar .. | exact jaC .. | exact ja7 .. | exact jaU .. | exact jak .. | exact jap .. | exact jaq .. | exact jaH .. | refine jbk ?_ | refine jac ?_ (fun _ _ _ => ?_) | split | (dsimp only))
theorem jaM (n : Nat) : jaf P (askRoom n) w := by
 unfold askRoom; split
 ·exact ⟨rfl, trivial⟩
 ·trivial
theorem jcG (a : Addr) : ∀ (n i : Nat) (acc : Array Value) (w : World), jaf P (loadCellsFrom a i n acc) w
 | 0, _, _, _ => trivial
 | n + 1, i, acc, w => jac (ja7 _) fun _ w' _ => jcG a n (i + 1) _ w'
theorem jay (a : Addr) (n : Nat) : jaf P (loadCells a n) w := jcG a n 0 _ w
theorem jao (a : Addr) : ∀ (vs : List Value) (i : Nat) (w : World), jaf P (storeCells a vs i) w
 | [], _, _ => trivial
 | v :: vs, i, w => jac (jaU _ _) fun _ w' _ => jao a vs (i + 1) w'
theorem jaN (t : TypeId) (a : Addr) : jaf P (loadVar t a) w := by
 refine jac (jaR t) fun b w' _ => ?_
 split
 ·exact jac (jau _) fun _ _ _ => jbk (jay _ _)
 ·exact ja7 _
theorem jaI (t : TypeId) (a : Addr) (v : Value) : jaf P (storeVar t a v) w := by
 refine jac (jau t) fun b w' _ => ?_
 split
 ·exact jac (jap _) fun _ _ _ => jao _ _ _ _
 ·exact jao _ _ _ _
theorem jaP (t : TypeId) (cs : Array Value) (o : Nat) : jaf P (part t cs o) w := by
 refine jac (jaR t) fun b w' _ => ?_
 split
 ·exact jac (jau _) fun _ _ _ => trivial
 ·split <;> trivial
theorem jjG (t : TypeId) (a : Value) : jaf P (Instr.loadAt t a) w := jac (jar a) fun _ _ _ => jaN _ _
theorem jit (t : TypeId) (a v : Value) : jaf P (Instr.storeAt t a v) w := jac (jar a) fun _ _ _ => jaI _ _ _
theorem jbd (v : Value) : jaf P (Builtin.lenOf v) w := by unfold Builtin.lenOf; split <;> trivial
theorem jax (s n : Nat) (v : Value) : jaf P (Builtin.firstCells s n v) w := by
 unfold Builtin.firstCells; split <;> first | trivial | exact jay _ _
theorem jo4 (t : TypeId) (v : Value) : jaf P (Instr.box t v) w := jac (jaD _ _) fun _ _ _ => trivial
theorem jls (t : TypeId) : jaf P (Instr.alloc t true (.tuple #[])) w := by
 refine jac (jam t) fun z w' _ => ?_
 exact jac (jaD _ _) fun _ _ _ => trivial
theorem jd3 {f : α → Sem β} (hf : ∀ a w, jaf P (f a) w) : ∀ (l : List α) (w : World), jaf P (l.mapM f) w
 | [], _ => trivial
 | a :: l, w => by
  rw [List.mapM_cons]
  exact jac (hf a w) fun _ w' _ => jac (jd3 hf l w') fun _ _ _ => trivial
theorem jiu {f : α → Sem β} (hf : ∀ a w, jaf P (f a) w) (l : Array α) : jaf P (l.mapM f) w := by
 rw [Array.mapM_eq_mapM_toList]
 exact jbk (jd3 hf _ _)
theorem jlt (t : TypeId) (ps : Array (Nat × Value)) : jaf P (Instr.build t ps) w := by
 unfold Instr.build
 repeat' (with_reducible first | exact jad _ | exact jbe _ | exact jae .. | exact jal .. | exact jam .. | exact jau .. | exact jaR .. | exact jaJ .. | exact jaG .. | exact jaD .. | exact jah .. | exact jaE .. | exact jaS .. | exact jaK .. | exact ja3 .. | exact jaL .. | exact jar .. | exact jaC .. | exact ja7 .. | exact jaU .. | exact jak .. | exact jap .. | exact jaq .. | exact jaH .. | exact jat .. | exact jaM .. | exact jay .. | exact jao .. | exact jaN .. | exact jaI .. | exact jaP .. | exact jbd .. | exact jax .. | exact jiu (fun _ _ => jac (jau _) fun _ _ _ => jad _) _ | refine jbk ?_ | refine jac ?_ (fun _ _ _ => ?_) | split | (dsimp only))
theorem jfR (t : TypeId) (n : Nat) (ps : Array (Nat × Value)) : jaf P (Instr.buildSlice t n ps) w := by
 unfold Instr.buildSlice
 repeat' (with_reducible first | exact jad _ | exact jbe _ | exact jae .. | exact jal .. | exact jam .. | exact jau .. | exact jaR .. | exact jaJ .. | exact jaG .. | exact jaD .. | exact jah .. | exact jaE .. | exact jaS .. | exact jaK .. | exact ja3 .. | exact jaL .. | exact jar .. | exact jaC .. | exact ja7 .. | exact jaU .. | exact jak .. | exact jap .. | exact jaq .. | exact jaH .. | exact jat .. | exact jaM .. | exact jay .. | exact jao .. | exact jaN .. | exact jaI .. | exact jaP .. | exact jbd .. | exact jax .. | refine jbk ?_ | refine jac ?_ (fun _ _ _ => ?_) | split | (dsimp only))
theorem jgD (t : TypeId) (l c : Value) : jaf P (Instr.makeSlice t l c) w := by
 unfold Instr.makeSlice
 repeat' (with_reducible first | exact jad _ | exact jbe _ | exact jae .. | exact jal .. | exact jam .. | exact jau .. | exact jaR .. | exact jaJ .. | exact jaG .. | exact jaD .. | exact jah .. | exact jaE .. | exact jaS .. | exact jaK .. | exact ja3 .. | exact jaL .. | exact jar .. | exact jaC .. | exact ja7 .. | exact jaU .. | exact jak .. | exact jap .. | exact jaq .. | exact jaH .. | exact jat .. | exact jaM .. | exact jay .. | exact jao .. | exact jaN .. | exact jaI .. | exact jaP .. | exact jbd .. | exact jax .. | refine jbk ?_ | refine jac ?_ (fun _ _ _ => ?_) | split | (dsimp only))
theorem ja0 (x : Value) (y : Nat) (c : BoundsCode) : jaf P (Instr.sliceBound x y c) w := by
 unfold Instr.sliceBound
 repeat' (with_reducible first | exact jad _ | exact jbe _ | exact jae .. | exact jal .. | exact jam .. | exact jau .. | exact jaR .. | exact jaJ .. | exact jaG .. | exact jaD .. | exact jah .. | exact jaE .. | exact jaS .. | exact jaK .. | exact ja3 .. | exact jaL .. | exact jar .. | exact jaC .. | exact ja7 .. | exact jaU .. | exact jak .. | exact jap .. | exact jaq .. | exact jaH .. | exact jat .. | exact jaM .. | refine jbk ?_ | refine jac ?_ (fun _ _ _ => ?_) | split | (dsimp only))
theorem ja5 (b : Bool) (l c : Nat) (lo hi mx : Option Value) : jaf P (Instr.sliceBounds b l c lo hi mx) w := by
 unfold Instr.sliceBounds
 repeat' (with_reducible first | exact jad _ | exact jbe _ | exact jae .. | exact jal .. | exact jam .. | exact jau .. | exact jaR .. | exact jaJ .. | exact jaG .. | exact jaD .. | exact jah .. | exact jaE .. | exact jaS .. | exact jaK .. | exact ja3 .. | exact jaL .. | exact jar .. | exact jaC .. | exact ja7 .. | exact jaU .. | exact jak .. | exact jap .. | exact jaq .. | exact jaH .. | exact ja0 .. | refine jbk ?_ | refine jac ?_ (fun _ _ _ => ?_) | split | (dsimp only))
theorem jiv (t : TypeId) (x : Value) (lo hi mx : Option Value) : jaf P (Instr.sliceAt t x lo hi mx) w := by
 unfold Instr.sliceAt Instr.slice
 repeat' (with_reducible first | exact jad _ | exact jbe _ | exact jae .. | exact jal .. | exact jam .. | exact jau .. | exact jaR .. | exact jaJ .. | exact jaG .. | exact jaD .. | exact jah .. | exact jaE .. | exact jaS .. | exact jaK .. | exact ja3 .. | exact jaL .. | exact jar .. | exact jaC .. | exact ja7 .. | exact jaU .. | exact jak .. | exact jap .. | exact jaq .. | exact jaH .. | exact jat .. | exact jaM .. | exact jay .. | exact jao .. | exact jaN .. | exact jaI .. | exact jaP .. | exact jbd .. | exact jax .. | exact ja0 .. | exact ja5 .. | refine jbk ?_ | refine jac ?_ (fun _ _ _ => ?_) | split | (dsimp only))
theorem jlu (t : TypeId) (x : Value) (f : Nat) : jaf P (Instr.field t x f) w := by
 unfold Instr.field
 repeat' (with_reducible first | exact jad _ | exact jbe _ | exact jae .. | exact jal .. | exact jam .. | exact jau .. | exact jaR .. | exact jaJ .. | exact jaG .. | exact jaD .. | exact jah .. | exact jaE .. | exact jaS .. | exact jaK .. | exact ja3 .. | exact jaL .. | exact jar .. | exact jaC .. | exact ja7 .. | exact jaU .. | exact jak .. | exact jap .. | exact jaq .. | exact jaH .. | exact jat .. | exact jaM .. | exact jay .. | exact jao .. | exact jaN .. | exact jaI .. | exact jaP .. | exact jbd .. | exact jax .. | exact ja0 .. | exact ja5 .. | refine jbk ?_ | refine jac ?_ (fun _ _ _ => ?_) | split | (dsimp only))
theorem jlv (t : TypeId) (x i : Value) : jaf P (Instr.index t x i) w := by
 unfold Instr.index
 repeat' (with_reducible first | exact jad _ | exact jbe _ | exact jae .. | exact jal .. | exact jam .. | exact jau .. | exact jaR .. | exact jaJ .. | exact jaG .. | exact jaD .. | exact jah .. | exact jaE .. | exact jaS .. | exact jaK .. | exact ja3 .. | exact jaL .. | exact jar .. | exact jaC .. | exact ja7 .. | exact jaU .. | exact jak .. | exact jap .. | exact jaq .. | exact jaH .. | exact jat .. | exact jaM .. | exact jay .. | exact jao .. | exact jaN .. | exact jaI .. | exact jaP .. | exact jbd .. | exact jax .. | exact ja0 .. | exact ja5 .. | refine jbk ?_ | refine jac ?_ (fun _ _ _ => ?_) | split | (dsimp only))
theorem jiw (t : TypeId) (x i : Value) : jaf P (Instr.indexAt t x i) w := by
 unfold Instr.indexAt
 repeat' (with_reducible first | exact jad _ | exact jbe _ | exact jae .. | exact jal .. | exact jam .. | exact jau .. | exact jaR .. | exact jaJ .. | exact jaG .. | exact jaD .. | exact jah .. | exact jaE .. | exact jaS .. | exact jaK .. | exact ja3 .. | exact jaL .. | exact jar .. | exact jaC .. | exact ja7 .. | exact jaU .. | exact jak .. | exact jap .. | exact jaq .. | exact jaH .. | exact jat .. | exact jaM .. | exact jay .. | exact jao .. | exact jaN .. | exact jaI .. | exact jaP .. | exact jbd .. | exact jax .. | exact ja0 .. | exact ja5 .. | refine jbk ?_ | refine jac ?_ (fun _ _ _ => ?_) | split | (dsimp only))
theorem jix (t : Value) (i : Nat) : jaf P (Instr.extract t i) w := by
 unfold Instr.extract
 repeat' (with_reducible first | exact jad _ | exact jbe _ | exact jae .. | exact jal .. | exact jam .. | exact jau .. | exact jaR .. | exact jaJ .. | exact jaG .. | exact jaD .. | exact jah .. | exact jaE .. | exact jaS .. | exact jaK .. | exact ja3 .. | exact jaL .. | exact jar .. | exact jaC .. | exact ja7 .. | exact jaU .. | exact jak .. | exact jap .. | exact jaq .. | exact jaH .. | exact jat .. | exact jaM .. | exact jay .. | exact jao .. | exact jaN .. | exact jaI .. | exact jaP .. | exact jbd .. | exact jax .. | exact ja0 .. | exact ja5 .. | refine jbk ?_ | refine jac ?_ (fun _ _ _ => ?_) | split | (dsimp only))
theorem jlw (op : UnOp) (x : Value) : jaf P (Op.unary op x) w := by
 unfold Op.unary Op.intArith Op.intBits
 repeat' (with_reducible first | exact jad _ | exact jbe _ | exact jae .. | exact jal .. | exact jam .. | exact jau .. | exact jaR .. | exact jaJ .. | exact jaG .. | exact jaD .. | exact jah .. | exact jaE .. | exact jaS .. | exact jaK .. | exact ja3 .. | exact jaL .. | exact jar .. | exact jaC .. | exact ja7 .. | exact jaU .. | exact jak .. | exact jap .. | exact jaq .. | exact jaH .. | exact jat .. | exact jaM .. | exact jay .. | exact jao .. | exact jaN .. | exact jaI .. | exact jaP .. | exact jbd .. | exact jax .. | exact ja0 .. | exact ja5 .. | refine jbk ?_ | refine jac ?_ (fun _ _ _ => ?_) | split | (dsimp only))
theorem jmI (ts : Array TypeId) (t : TypeId) (zas : Array Value) : jaf P (Builtin.copy_ ts t zas) w := by
 unfold Builtin.copy_
 repeat' (with_reducible first | exact jad _ | exact jbe _ | exact jae .. | exact jal .. | exact jam .. | exact jau .. | exact jaR .. | exact jaJ .. | exact jaG .. | exact jaD .. | exact jah .. | exact jaE .. | exact jaS .. | exact jaK .. | exact ja3 .. | exact jaL .. | exact jar .. | exact jaC .. | exact ja7 .. | exact jaU .. | exact jak .. | exact jap .. | exact jaq .. | exact jaH .. | exact jat .. | exact jaM .. | exact jay .. | exact jao .. | exact jaN .. | exact jaI .. | exact jaP .. | exact jbd .. | exact jax .. | exact ja0 .. | exact ja5 .. | refine jbk ?_ | refine jac ?_ (fun _ _ _ => ?_) | split | (dsimp only))
end
end Go.Ae
