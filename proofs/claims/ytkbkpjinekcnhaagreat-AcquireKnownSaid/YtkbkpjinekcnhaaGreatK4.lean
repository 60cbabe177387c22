/- Texts of the proof, part 4: a second reading of the lowered code, proved sound, and what the functions compute. -/
import GoSem.Dispatch
import Derived.Test.YtkbkpjinekcnhaaGreatK3
set_option linter.unusedSimpArgs false
set_option linter.unusedVariables false
set_option maxRecDepth 20000
set_option maxHeartbeats 4000000
namespace Go.Ae
open Go.Conc
section
variable {P : Program} {w : World} {α β : Type}
theorem jac (a : α) : jaf P (pure a : Sem α) w := trivial
theorem jbm (h : Halt) : jaf P (Sem.halt h : Sem α) w := trivial
theorem jaq (s : String) : jaf P (stuck s : Sem α) w := trivial
theorem jak (u : Unsupported) : jaf P (unsupported u : Sem α) w := trivial
theorem jaK (v : Value) : jaf P (goPanic v : Sem α) w := trivial
theorem jar : jaf P program w := trivial
theorem jaF (q : Question) : jaf P (choose q) w := by
 unfold choose jaf; split <;> trivial
theorem jbe (a : Addr) : jaf P (load a) w := ⟨rfl, fun _ _ => trivial⟩
theorem ja2 (a : Addr) (v : Value) : jaf P (store a v) w := ⟨rfl, fun _ _ _ => trivial⟩
theorem jdJ {o : Obj} (h : isView o = false) : jaf P (newObj o) w := ⟨h, trivial⟩
theorem jg3 (r : Nat) {o : Obj} (h : isView o = false) (hc : o.isChan = false) : jaf P (setObj r o) w := ⟨h, hc, fun _ _ _ => trivial⟩
theorem jbq {s : Sem α} {f : α -> β} (h : jaf P s w) : jaf P (f <$> s) w := jg2 h fun _ _ _ => trivial
theorem jae (t : TypeId) : jaf P (underlying t) w := by
 refine jab jar fun p w' _ => ?_;split <;> trivial
theorem jal (t : TypeId) : jaf P (typeInfo t) w := by
 refine jab jar fun p w' _ => ?_;split <;> trivial
theorem jan (t : TypeId) : jaf P (zeroValue t) w := by
 refine jab (jal t) fun p w' _ => ?_;split <;> trivial
theorem jaw (t : TypeId) : jaf P (sizeOf t) w := jab (jal t) fun _ _ _ => trivial
theorem jaY (t : TypeId) : jaf P (isAgg t) w := by
 refine jab (jae t) fun p w' _ => ?_;split <;> trivial
theorem jaO (t : TypeId) : jaf P (elemOf t) w := by
 refine jab (jae t) fun p w' _ => ?_;split <;> trivial
theorem jaJ (t : TypeId) (c : Array Value) : jaf P (newRow t c) w := jab (jdJ rfl) fun _ _ _ => trivial
theorem jaG (t : TypeId) (v : Value) : jaf P (newVar t v) w := jaJ _ _
theorem jah (e : RuntimeError) : jaf P (runtimePanic e : Sem α) w := by
 refine jab jar fun p w' _ => ?_;cases e <;> first
  | exact trivial
  | exact jab (jaO _) fun _ _ _ => jab (jaG _ _) fun _ _ _ => trivial
theorem jaH (v : Value) : jaf P (asIntOf v) w := by unfold asIntOf; split <;> trivial
theorem jaZ (v : Value) : jaf P (asInt v) w := jab (jaH v) fun _ _ _ => trivial
theorem jaP (v : Value) : jaf P (asBool v) w := by unfold asBool; split <;> trivial
theorem ja9 (v : Value) : jaf P (asAgg v) w := by unfold asAgg; split <;> trivial
theorem jaQ (v : Value) : jaf P (asAddr v) w := by
 unfold asAddr; split <;> first | trivial | exact jah _
theorem jas (v : Value) : jaf P (Instr.sureAddr v) w := by unfold Instr.sureAddr; split <;> trivial
theorem jav (k : IntKind) (x y : Int) (c : BoundsCode) : jaf P (boundsPanic k x y c : Sem α) w := by
 unfold boundsPanic
 repeat' (with_reducible first | exact jac _ | exact jbm _ | exact jae .. | exact jal .. | exact jan .. | exact jaw .. | exact jaY .. | exact jaO .. | exact jaJ .. | exact jaG .. | exact jah .. | exact jaH .. | exact jaZ .. | exact jaP .. | exact ja9 .. | exact jaQ .. | exact jas .. | exact jaF .. | exact jbe .. | exact ja2 .. | exact jak .. | exact jaq .. | exact jar .. | exact jaK .. | refine jbq ?_ | refine jab ?_ (fun _ _ _ => ?_) | split | (dsimp only))
theorem jaR (n : Nat) : jaf P (askRoom n) w := by
 unfold askRoom; split
 ·exact ⟨rfl, trivial⟩
 ·trivial
theorem jc3 (a : Addr) : ∀ (n i : Nat) (acc : Array Value) (w : World), jaf P (loadCellsFrom a i n acc) w
 | 0, _, _, _ => trivial
 | n + 1, i, acc, w => jab (jbe _) fun _ w' _ => jc3 a n (i + 1) _ w'
theorem jaC (a : Addr) (n : Nat) : jaf P (loadCells a n) w := jc3 a n 0 _ w
theorem jap (a : Addr) : ∀ (vs : List Value) (i : Nat) (w : World), jaf P (storeCells a vs i) w
 | [], _, _ => trivial
 | v :: vs, i, w => jab (ja2 _ _) fun _ w' _ => jap a vs (i + 1) w'
theorem jaS (t : TypeId) (a : Addr) : jaf P (loadVar t a) w := by
 refine jab (jaY t) fun b w' _ => ?_;split
 ·exact jab (jaw _) fun _ _ _ => jbq (jaC _ _)
 ·exact jbe _
theorem jaN (t : TypeId) (a : Addr) (v : Value) : jaf P (storeVar t a v) w := by
 refine jab (jaw t) fun b w' _ => ?_;split
 ·exact jab (jaq _) fun _ _ _ => jap _ _ _ _
 ·exact jap _ _ _ _
theorem jaV (t : TypeId) (cs : Array Value) (o : Nat) : jaf P (part t cs o) w := by
 refine jab (jaY t) fun b w' _ => ?_;split
 ·exact jab (jaw _) fun _ _ _ => trivial
 ·split <;> trivial
theorem jlh (t : TypeId) (a : Value) : jaf P (Instr.loadAt t a) w := jab (jas a) fun _ _ _ => jaS _ _
theorem jj5 (t : TypeId) (a v : Value) : jaf P (Instr.storeAt t a v) w := jab (jas a) fun _ _ _ => jaN _ _ _
theorem jbk (v : Value) : jaf P (Builtin.lenOf v) w := by unfold Builtin.lenOf; split <;> trivial
theorem jaB (s n : Nat) (v : Value) : jaf P (Builtin.firstCells s n v) w := by
 unfold Builtin.firstCells; split <;> first | trivial | exact jaC _ _
theorem jpY (t : TypeId) (v : Value) : jaf P (Instr.box t v) w := jab (jaG _ _) fun _ _ _ => trivial
theorem jm6 (t : TypeId) : jaf P (Instr.alloc t true (.tuple #[])) w := by
 refine jab (jan t) fun z w' _ => ?_;exact jab (jaG _ _) fun _ _ _ => trivial
theorem jeG {f : α -> Sem β} (hf : ∀ a w, jaf P (f a) w) : ∀ (l : List α) (w : World), jaf P (l.mapM f) w
 | [], _ => trivial
 | a :: l, w => by
  rw [List.mapM_cons];exact jab (hf a w) fun _ w' _ => jab (jeG hf l w') fun _ _ _ => trivial
theorem jj6 {f : α -> Sem β} (hf : ∀ a w, jaf P (f a) w) (l : Array α) : jaf P (l.mapM f) w := by
 rw [Array.mapM_eq_mapM_toList];exact jbq (jeG hf _ _)
theorem jm7 (t : TypeId) (ps : Array (Nat × Value)) : jaf P (Instr.build t ps) w := by
 unfold Instr.build
 repeat' (with_reducible first | exact jac _ | exact jbm _ | exact jae .. | exact jal .. | exact jan .. | exact jaw .. | exact jaY .. | exact jaO .. | exact jaJ .. | exact jaG .. | exact jah .. | exact jaH .. | exact jaZ .. | exact jaP .. | exact ja9 .. | exact jaQ .. | exact jas .. | exact jaF .. | exact jbe .. | exact ja2 .. | exact jak .. | exact jaq .. | exact jar .. | exact jaK .. | exact jav .. | exact jaR .. | exact jaC .. | exact jap .. | exact jaS .. | exact jaN .. | exact jaV .. | exact jbk .. | exact jaB .. | exact jj6 (fun _ _ => jab (jaw _) fun _ _ _ => jac _) _ | refine jbq ?_ | refine jab ?_ (fun _ _ _ => ?_) | split | (dsimp only))
theorem jg4 (t : TypeId) (n : Nat) (ps : Array (Nat × Value)) : jaf P (Instr.buildSlice t n ps) w := by
 unfold Instr.buildSlice
 repeat' (with_reducible first | exact jac _ | exact jbm _ | exact jae .. | exact jal .. | exact jan .. | exact jaw .. | exact jaY .. | exact jaO .. | exact jaJ .. | exact jaG .. | exact jah .. | exact jaH .. | exact jaZ .. | exact jaP .. | exact ja9 .. | exact jaQ .. | exact jas .. | exact jaF .. | exact jbe .. | exact ja2 .. | exact jak .. | exact jaq .. | exact jar .. | exact jaK .. | exact jav .. | exact jaR .. | exact jaC .. | exact jap .. | exact jaS .. | exact jaN .. | exact jaV .. | exact jbk .. | exact jaB .. | refine jbq ?_ | refine jab ?_ (fun _ _ _ => ?_) | split | (dsimp only))
theorem jia (t : TypeId) (l c : Value) : jaf P (Instr.makeSlice t l c) w := by
 unfold Instr.makeSlice
 repeat' (with_reducible first | exact jac _ | exact jbm _ | exact jae .. | exact jal .. | exact jan .. | exact jaw .. | exact jaY .. | exact jaO .. | exact jaJ .. | exact jaG .. | exact jah .. | exact jaH .. | exact jaZ .. | exact jaP .. | exact ja9 .. | exact jaQ .. | exact jas .. | exact jaF .. | exact jbe .. | exact ja2 .. | exact jak .. | exact jaq .. | exact jar .. | exact jaK .. | exact jav .. | exact jaR .. | exact jaC .. | exact jap .. | exact jaS .. | exact jaN .. | exact jaV .. | exact jbk .. | exact jaB .. | refine jbq ?_ | refine jab ?_ (fun _ _ _ => ?_) | split | (dsimp only))
theorem ja7 (x : Value) (y : Nat) (c : BoundsCode) : jaf P (Instr.sliceBound x y c) w := by
 unfold Instr.sliceBound
 repeat' (with_reducible first | exact jac _ | exact jbm _ | exact jae .. | exact jal .. | exact jan .. | exact jaw .. | exact jaY .. | exact jaO .. | exact jaJ .. | exact jaG .. | exact jah .. | exact jaH .. | exact jaZ .. | exact jaP .. | exact ja9 .. | exact jaQ .. | exact jas .. | exact jaF .. | exact jbe .. | exact ja2 .. | exact jak .. | exact jaq .. | exact jar .. | exact jaK .. | exact jav .. | exact jaR .. | refine jbq ?_ | refine jab ?_ (fun _ _ _ => ?_) | split | (dsimp only))
theorem jbb (b : Bool) (l c : Nat) (lo hi mx : Option Value) : jaf P (Instr.sliceBounds b l c lo hi mx) w := by
 unfold Instr.sliceBounds
 repeat' (with_reducible first | exact jac _ | exact jbm _ | exact jae .. | exact jal .. | exact jan .. | exact jaw .. | exact jaY .. | exact jaO .. | exact jaJ .. | exact jaG .. | exact jah .. | exact jaH .. | exact jaZ .. | exact jaP .. | exact ja9 .. | exact jaQ .. | exact jas .. | exact jaF .. | exact jbe .. | exact ja2 .. | exact jak .. | exact jaq .. | exact jar .. | exact jaK .. | exact ja7 .. | refine jbq ?_ | refine jab ?_ (fun _ _ _ => ?_) | split | (dsimp only))
theorem jj7 (t : TypeId) (x : Value) (lo hi mx : Option Value) : jaf P (Instr.sliceAt t x lo hi mx) w := by
 unfold Instr.sliceAt Instr.slice
 repeat' (with_reducible first | exact jac _ | exact jbm _ | exact jae .. | exact jal .. | exact jan .. | exact jaw .. | exact jaY .. | exact jaO .. | exact jaJ .. | exact jaG .. | exact jah .. | exact jaH .. | exact jaZ .. | exact jaP .. | exact ja9 .. | exact jaQ .. | exact jas .. | exact jaF .. | exact jbe .. | exact ja2 .. | exact jak .. | exact jaq .. | exact jar .. | exact jaK .. | exact jav .. | exact jaR .. | exact jaC .. | exact jap .. | exact jaS .. | exact jaN .. | exact jaV .. | exact jbk .. | exact jaB .. | exact ja7 .. | exact jbb .. | refine jbq ?_ | refine jab ?_ (fun _ _ _ => ?_) | split | (dsimp only))
theorem jm8 (t : TypeId) (x : Value) (f : Nat) : jaf P (Instr.field t x f) w := by
 unfold Instr.field
 repeat' (with_reducible first | exact jac _ | exact jbm _ | exact jae .. | exact jal .. | exact jan .. | exact jaw .. | exact jaY .. | exact jaO .. | exact jaJ .. | exact jaG .. | exact jah .. | exact jaH .. | exact jaZ .. | exact jaP .. | exact ja9 .. | exact jaQ .. | exact jas .. | exact jaF .. | exact jbe .. | exact ja2 .. | exact jak .. | exact jaq .. | exact jar .. | exact jaK .. | exact jav .. | exact jaR .. | exact jaC .. | exact jap .. | exact jaS .. | exact jaN .. | exact jaV .. | exact jbk .. | exact jaB .. | exact ja7 .. | exact jbb .. | refine jbq ?_ | refine jab ?_ (fun _ _ _ => ?_) | split | (dsimp only))
theorem jm9 (t : TypeId) (x i : Value) : jaf P (Instr.index t x i) w := by
 unfold Instr.index
 repeat' (with_reducible first | exact jac _ | exact jbm _ | exact jae .. | exact jal .. | exact jan .. | exact jaw .. | exact jaY .. | exact jaO .. | exact jaJ .. | exact jaG .. | exact jah .. | exact jaH .. | exact jaZ .. | exact jaP .. | exact ja9 .. | exact jaQ .. | exact jas .. | exact jaF .. | exact jbe .. | exact ja2 .. | exact jak .. | exact jaq .. | exact jar .. | exact jaK .. | exact jav .. | exact jaR .. | exact jaC .. | exact jap .. | exact jaS .. | exact jaN .. | exact jaV .. | exact jbk .. | exact jaB .. | exact ja7 .. | exact jbb .. | refine jbq ?_ | refine jab ?_ (fun _ _ _ => ?_) | split | (dsimp only))
theorem jj8 (t : TypeId) (x i : Value) : jaf P (Instr.indexAt t x i) w := by
 unfold Instr.indexAt
 repeat' (with_reducible first | exact jac _ | exact jbm _ | exact jae .. | exact jal .. | exact jan .. | exact jaw .. | exact jaY .. | exact jaO .. | exact jaJ .. | exact jaG .. | exact jah .. | exact jaH .. | exact jaZ .. | exact jaP .. | exact ja9 .. | exact jaQ .. | exact jas .. | exact jaF .. | exact jbe .. | exact ja2 .. | exact jak .. | exact jaq .. | exact jar .. | exact jaK .. | exact jav .. | exact jaR .. | exact jaC .. | exact jap .. | exact jaS .. | exact jaN .. | exact jaV .. | exact jbk .. | exact jaB .. | exact ja7 .. | exact jbb .. | refine jbq ?_ | refine jab ?_ (fun _ _ _ => ?_) | split | (dsimp only))
theorem jj9 (t : Value) (i : Nat) : jaf P (Instr.extract t i) w := by
 unfold Instr.extract
 repeat' (with_reducible first | exact jac _ | exact jbm _ | exact jae .. | exact jal .. | exact jan .. | exact jaw .. | exact jaY .. | exact jaO .. | exact jaJ .. | exact jaG .. | exact jah .. | exact jaH .. | exact jaZ .. | exact jaP .. | exact ja9 .. | exact jaQ .. | exact jas .. | exact jaF .. | exact jbe .. | exact ja2 .. | exact jak .. | exact jaq .. | exact jar .. | exact jaK .. | exact jav .. | exact jaR .. | exact jaC .. | exact jap .. | exact jaS .. | exact jaN .. | exact jaV .. | exact jbk .. | exact jaB .. | exact ja7 .. | exact jbb .. | refine jbq ?_ | refine jab ?_ (fun _ _ _ => ?_) | split | (dsimp only))
theorem jna (op : UnOp) (x : Value) : jaf P (Op.unary op x) w := by
 unfold Op.unary Op.intArith Op.intBits
 repeat' (with_reducible first | exact jac _ | exact jbm _ | exact jae .. | exact jal .. | exact jan .. | exact jaw .. | exact jaY .. | exact jaO .. | exact jaJ .. | exact jaG .. | exact jah .. | exact jaH .. | exact jaZ .. | exact jaP .. | exact ja9 .. | exact jaQ .. | exact jas .. | exact jaF .. | exact jbe .. | exact ja2 .. | exact jak .. | exact jaq .. | exact jar .. | exact jaK .. | exact jav .. | exact jaR .. | exact jaC .. | exact jap .. | exact jaS .. | exact jaN .. | exact jaV .. | exact jbk .. | exact jaB .. | exact ja7 .. | exact jbb .. | refine jbq ?_ | refine jab ?_ (fun _ _ _ => ?_) | split | (dsimp only))
theorem joh (ts : Array TypeId) (t : TypeId) (zas : Array Value) : jaf P (Builtin.copy_ ts t zas) w := by
 unfold Builtin.copy_
 repeat' (with_reducible first | exact jac _ | exact jbm _ | exact jae .. | exact jal .. | exact jan .. | exact jaw .. | exact jaY .. | exact jaO .. | exact jaJ .. | exact jaG .. | exact jah .. | exact jaH .. | exact jaZ .. | exact jaP .. | exact ja9 .. | exact jaQ .. | exact jas .. | exact jaF .. | exact jbe .. | exact ja2 .. | exact jak .. | exact jaq .. | exact jar .. | exact jaK .. | exact jav .. | exact jaR .. | exact jaC .. | exact jap .. | exact jaS .. | exact jaN .. | exact jaV .. | exact jbk .. | exact jaB .. | exact ja7 .. | exact jbb .. | refine jbq ?_ | refine jab ?_ (fun _ _ _ => ?_) | split | (dsimp only))
end
end Go.Ae
