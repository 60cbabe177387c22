/- Texts of the proof, part 4: a second reading of the lowered code, proved sound, and what the functions compute. -/
import GoSem.Dispatch
import Derived.Test.YtkbkpjinekcnhaaGreatA3
set_option linter.unusedSimpArgs false
set_option linter.unusedVariables false
set_option maxRecDepth 20000
set_option maxHeartbeats 4000000
namespace Go.Ae
open Go.Conc
section
variable {P : Program} {w : World} {α β : Type}
theorem jac(a:α):jag P (pure a:Sem α) w:=trivial
theorem jbn(h:Halt):jag P (Sem.halt h:Sem α) w:=trivial
theorem jaq(s:String):jag P (stuck s:Sem α) w:=trivial
theorem jak(u:Unsupported):jag P (unsupported u:Sem α) w:=trivial
theorem jaL(v:Value):jag P (goPanic v:Sem α) w:=trivial
theorem jar:jag P program w:=trivial
theorem jaF(q:Question):jag P (choose q) w:=by
 unfold choose jag;split<;>trivial
theorem jbf(a:Addr):jag P (load a) w:=⟨rfl,fun _ _=>trivial⟩
theorem ja3(a:Addr)(v:Value):jag P (store a v) w:=⟨rfl,fun _ _ _=>trivial⟩
theorem jdK{o:Obj}(h:isView o=false):jag P (newObj o) w:=⟨h,trivial⟩
theorem jhc(r:Nat){o:Obj}(h:isView o=false)(hc:o.isChan=false):jag P (setObj r o) w:=⟨h,hc,fun _ _ _=>trivial⟩
theorem jbt{s:Sem α}{f:α->β}(h:jag P s w):jag P (f<$>s) w:=jhb h fun _ _ _=>trivial
theorem jaf(t:TypeId):jag P (underlying t) w:=by
 refine jab jar fun p w' _=>?_;split<;>trivial
theorem jal(t:TypeId):jag P (typeInfo t) w:=by
 refine jab jar fun p w' _=>?_;split<;>trivial
theorem jam(t:TypeId):jag P (zeroValue t) w:=by
 refine jab (jal t) fun p w' _=>?_;split<;>trivial
theorem jay(t:TypeId):jag P (sizeOf t) w:=jab (jal t) fun _ _ _=>trivial
theorem jaZ(t:TypeId):jag P (isAgg t) w:=by
 refine jab (jaf t) fun p w' _=>?_;split<;>trivial
theorem jaP(t:TypeId):jag P (elemOf t) w:=by
 refine jab (jaf t) fun p w' _=>?_;split<;>trivial
theorem jaK(t:TypeId)(c:Array Value):jag P (newRow t c) w:=jab (jdK rfl) fun _ _ _=>trivial
theorem jaG(t:TypeId)(v:Value):jag P (newVar t v) w:=jaK _ _
theorem jai(e:RuntimeError):jag P (runtimePanic e:Sem α) w:=by
 refine jab jar fun p w' _=>?_;cases e<;>first
  |exact trivial
  |exact jab (jaP _) fun _ _ _=>jab (jaG _ _) fun _ _ _=>trivial
theorem jaH(v:Value):jag P (asIntOf v) w:=by unfold asIntOf;split<;>trivial
theorem ja0(v:Value):jag P (asInt v) w:=jab (jaH v) fun _ _ _=>trivial
theorem jaQ(v:Value):jag P (asBool v) w:=by unfold asBool;split<;>trivial
theorem jba(v:Value):jag P (asAgg v) w:=by unfold asAgg;split<;>trivial
theorem jaR(v:Value):jag P (asAddr v) w:=by
 unfold asAddr;split<;>first|trivial|exact jai _
theorem jat(v:Value):jag P (Instr.sureAddr v) w:=by unfold Instr.sureAddr;split<;>trivial
theorem jax(k:IntKind)(x y:Int)(c:BoundsCode):jag P (boundsPanic k x y c:Sem α) w:=by
 unfold boundsPanic
 repeat' (with_reducible first|exact jac _|exact jbn _|exact jaf .. |exact jal .. |exact jam .. |exact jay .. |exact jaZ .. |exact jaP .. |exact jaK .. |exact jaG .. |exact jai .. |exact jaH .. |exact ja0 .. |exact jaQ .. |exact jba .. |exact jaR .. |exact jat .. |exact jaF .. |exact jbf .. |exact ja3 .. |exact jak .. |exact jaq .. |exact jar .. |exact jaL .. |refine jbt ?_|refine jab ?_ (fun _ _ _=>?_)|split|(dsimp only))
theorem jaS(n:Nat):jag P (askRoom n) w:=by
 unfold askRoom;split
 ·exact⟨rfl,trivial⟩
 ·trivial
theorem jdc(a:Addr):∀(n i:Nat) (acc:Array Value) (w:World),jag P (loadCellsFrom a i n acc) w
 |0,_,_,_=>trivial
 |n+1,i,acc,w=>jab (jbf _) fun _ w' _=>jdc a n (i+1) _ w'
theorem jaD(a:Addr)(n:Nat):jag P (loadCells a n) w:=jdc a n 0 _ w
theorem jap(a:Addr):∀(vs:List Value) (i:Nat) (w:World),jag P (storeCells a vs i) w
 |[],_,_=>trivial
 |v::vs,i,w=>jab (ja3 _ _) fun _ w' _=>jap a vs (i+1) w'
theorem jaT(t:TypeId)(a:Addr):jag P (loadVar t a) w:=by
 refine jab (jaZ t) fun b w' _=>?_;split
 ·exact jab (jay _) fun _ _ _=>jbt (jaD _ _)
 ·exact jbf _
theorem jaO(t:TypeId)(a:Addr)(v:Value):jag P (storeVar t a v) w:=by
 refine jab (jay t) fun b w' _=>?_;split
 ·exact jab (jaq _) fun _ _ _=>jap _ _ _ _
 ·exact jap _ _ _ _
theorem jaW(t:TypeId)(cs:Array Value)(o:Nat):jag P (part t cs o) w:=by
 refine jab (jaZ t) fun b w' _=>?_;split
 ·exact jab (jay _) fun _ _ _=>trivial
 ·split<;>trivial
theorem jlG(t:TypeId)(a:Value):jag P (Instr.loadAt t a) w:=jab (jat a) fun _ _ _=>jaT _ _
theorem jkk(t:TypeId)(a v:Value):jag P (Instr.storeAt t a v) w:=jab (jat a) fun _ _ _=>jaO _ _ _
theorem jbl(v:Value):jag P (Builtin.lenOf v) w:=by unfold Builtin.lenOf;split<;>trivial
theorem jaC(s n:Nat)(v:Value):jag P (Builtin.firstCells s n v) w:=by
 unfold Builtin.firstCells;split<;>first|trivial|exact jaD _ _
theorem jqr(t:TypeId)(v:Value):jag P (Instr.box t v) w:=jab (jaG _ _) fun _ _ _=>trivial
theorem jnB(t:TypeId):jag P (Instr.alloc t true (.tuple #[])) w:=by
 refine jab (jam t) fun z w' _=>?_;exact jab (jaG _ _) fun _ _ _=>trivial
theorem jeN{f:α->Sem β}(hf:∀a w,jag P (f a) w):∀(l:List α) (w:World),jag P (l.mapM f) w
 |[],_=>trivial
 |a::l,w=>by
  rw[List.mapM_cons];exact jab (hf a w) fun _ w' _=>jab (jeN hf l w') fun _ _ _=>trivial
theorem jkl{f:α->Sem β}(hf:∀a w,jag P (f a) w)(l:Array α):jag P (l.mapM f) w:=by
 rw[Array.mapM_eq_mapM_toList];exact jbt (jeN hf _ _)
theorem jnC(t:TypeId)(ps:Array (Nat×Value)):jag P (Instr.build t ps) w:=by
 unfold Instr.build
 repeat' (with_reducible first|exact jac _|exact jbn _|exact jaf .. |exact jal .. |exact jam .. |exact jay .. |exact jaZ .. |exact jaP .. |exact jaK .. |exact jaG .. |exact jai .. |exact jaH .. |exact ja0 .. |exact jaQ .. |exact jba .. |exact jaR .. |exact jat .. |exact jaF .. |exact jbf .. |exact ja3 .. |exact jak .. |exact jaq .. |exact jar .. |exact jaL .. |exact jax .. |exact jaS .. |exact jaD .. |exact jap .. |exact jaT .. |exact jaO .. |exact jaW .. |exact jbl .. |exact jaC .. |exact jkl (fun _ _=>jab (jay _) fun _ _ _=>jac _) _|refine jbt ?_|refine jab ?_ (fun _ _ _=>?_)|split|(dsimp only))
theorem jhd(t:TypeId)(n:Nat)(ps:Array (Nat×Value)):jag P (Instr.buildSlice t n ps) w:=by
 unfold Instr.buildSlice
 repeat' (with_reducible first|exact jac _|exact jbn _|exact jaf .. |exact jal .. |exact jam .. |exact jay .. |exact jaZ .. |exact jaP .. |exact jaK .. |exact jaG .. |exact jai .. |exact jaH .. |exact ja0 .. |exact jaQ .. |exact jba .. |exact jaR .. |exact jat .. |exact jaF .. |exact jbf .. |exact ja3 .. |exact jak .. |exact jaq .. |exact jar .. |exact jaL .. |exact jax .. |exact jaS .. |exact jaD .. |exact jap .. |exact jaT .. |exact jaO .. |exact jaW .. |exact jbl .. |exact jaC .. |refine jbt ?_|refine jab ?_ (fun _ _ _=>?_)|split|(dsimp only))
theorem jik(t:TypeId)(l c:Value):jag P (Instr.makeSlice t l c) w:=by
 unfold Instr.makeSlice
 repeat' (with_reducible first|exact jac _|exact jbn _|exact jaf .. |exact jal .. |exact jam .. |exact jay .. |exact jaZ .. |exact jaP .. |exact jaK .. |exact jaG .. |exact jai .. |exact jaH .. |exact ja0 .. |exact jaQ .. |exact jba .. |exact jaR .. |exact jat .. |exact jaF .. |exact jbf .. |exact ja3 .. |exact jak .. |exact jaq .. |exact jar .. |exact jaL .. |exact jax .. |exact jaS .. |exact jaD .. |exact jap .. |exact jaT .. |exact jaO .. |exact jaW .. |exact jbl .. |exact jaC .. |refine jbt ?_|refine jab ?_ (fun _ _ _=>?_)|split|(dsimp only))
theorem ja7(x:Value)(y:Nat)(c:BoundsCode):jag P (Instr.sliceBound x y c) w:=by
 unfold Instr.sliceBound
 repeat' (with_reducible first|exact jac _|exact jbn _|exact jaf .. |exact jal .. |exact jam .. |exact jay .. |exact jaZ .. |exact jaP .. |exact jaK .. |exact jaG .. |exact jai .. |exact jaH .. |exact ja0 .. |exact jaQ .. |exact jba .. |exact jaR .. |exact jat .. |exact jaF .. |exact jbf .. |exact ja3 .. |exact jak .. |exact jaq .. |exact jar .. |exact jaL .. |exact jax .. |exact jaS .. |refine jbt ?_|refine jab ?_ (fun _ _ _=>?_)|split|(dsimp only))
theorem jbc(b:Bool)(l c:Nat)(lo hi mx:Option Value):jag P (Instr.sliceBounds b l c lo hi mx) w:=by
 unfold Instr.sliceBounds
 repeat' (with_reducible first|exact jac _|exact jbn _|exact jaf .. |exact jal .. |exact jam .. |exact jay .. |exact jaZ .. |exact jaP .. |exact jaK .. |exact jaG .. |exact jai .. |exact jaH .. |exact ja0 .. |exact jaQ .. |exact jba .. |exact jaR .. |exact jat .. |exact jaF .. |exact jbf .. |exact ja3 .. |exact jak .. |exact jaq .. |exact jar .. |exact jaL .. |exact ja7 .. |refine jbt ?_|refine jab ?_ (fun _ _ _=>?_)|split|(dsimp only))
theorem jkm(t:TypeId)(x:Value)(lo hi mx:Option Value):jag P (Instr.sliceAt t x lo hi mx) w:=by
 unfold Instr.sliceAt Instr.slice
 repeat' (with_reducible first|exact jac _|exact jbn _|exact jaf .. |exact jal .. |exact jam .. |exact jay .. |exact jaZ .. |exact jaP .. |exact jaK .. |exact jaG .. |exact jai .. |exact jaH .. |exact ja0 .. |exact jaQ .. |exact jba .. |exact jaR .. |exact jat .. |exact jaF .. |exact jbf .. |exact ja3 .. |exact jak .. |exact jaq .. |exact jar .. |exact jaL .. |exact jax .. |exact jaS .. |exact jaD .. |exact jap .. |exact jaT .. |exact jaO .. |exact jaW .. |exact jbl .. |exact jaC .. |exact ja7 .. |exact jbc .. |refine jbt ?_|refine jab ?_ (fun _ _ _=>?_)|split|(dsimp only))
theorem jnD(t:TypeId)(x:Value)(f:Nat):jag P (Instr.field t x f) w:=by
 unfold Instr.field
 repeat' (with_reducible first|exact jac _|exact jbn _|exact jaf .. |exact jal .. |exact jam .. |exact jay .. |exact jaZ .. |exact jaP .. |exact jaK .. |exact jaG .. |exact jai .. |exact jaH .. |exact ja0 .. |exact jaQ .. |exact jba .. |exact jaR .. |exact jat .. |exact jaF .. |exact jbf .. |exact ja3 .. |exact jak .. |exact jaq .. |exact jar .. |exact jaL .. |exact jax .. |exact jaS .. |exact jaD .. |exact jap .. |exact jaT .. |exact jaO .. |exact jaW .. |exact jbl .. |exact jaC .. |exact ja7 .. |exact jbc .. |refine jbt ?_|refine jab ?_ (fun _ _ _=>?_)|split|(dsimp only))
theorem jnE(t:TypeId)(x i:Value):jag P (Instr.index t x i) w:=by
 unfold Instr.index
 repeat' (with_reducible first|exact jac _|exact jbn _|exact jaf .. |exact jal .. |exact jam .. |exact jay .. |exact jaZ .. |exact jaP .. |exact jaK .. |exact jaG .. |exact jai .. |exact jaH .. |exact ja0 .. |exact jaQ .. |exact jba .. |exact jaR .. |exact jat .. |exact jaF .. |exact jbf .. |exact ja3 .. |exact jak .. |exact jaq .. |exact jar .. |exact jaL .. |exact jax .. |exact jaS .. |exact jaD .. |exact jap .. |exact jaT .. |exact jaO .. |exact jaW .. |exact jbl .. |exact jaC .. |exact ja7 .. |exact jbc .. |refine jbt ?_|refine jab ?_ (fun _ _ _=>?_)|split|(dsimp only))
theorem jkn(t:TypeId)(x i:Value):jag P (Instr.indexAt t x i) w:=by
 unfold Instr.indexAt
 repeat' (with_reducible first|exact jac _|exact jbn _|exact jaf .. |exact jal .. |exact jam .. |exact jay .. |exact jaZ .. |exact jaP .. |exact jaK .. |exact jaG .. |exact jai .. |exact jaH .. |exact ja0 .. |exact jaQ .. |exact jba .. |exact jaR .. |exact jat .. |exact jaF .. |exact jbf .. |exact ja3 .. |exact jak .. |exact jaq .. |exact jar .. |exact jaL .. |exact jax .. |exact jaS .. |exact jaD .. |exact jap .. |exact jaT .. |exact jaO .. |exact jaW .. |exact jbl .. |exact jaC .. |exact ja7 .. |exact jbc .. |refine jbt ?_|refine jab ?_ (fun _ _ _=>?_)|split|(dsimp only))
theorem jko(t:Value)(i:Nat):jag P (Instr.extract t i) w:=by
 unfold Instr.extract
 repeat' (with_reducible first|exact jac _|exact jbn _|exact jaf .. |exact jal .. |exact jam .. |exact jay .. |exact jaZ .. |exact jaP .. |exact jaK .. |exact jaG .. |exact jai .. |exact jaH .. |exact ja0 .. |exact jaQ .. |exact jba .. |exact jaR .. |exact jat .. |exact jaF .. |exact jbf .. |exact ja3 .. |exact jak .. |exact jaq .. |exact jar .. |exact jaL .. |exact jax .. |exact jaS .. |exact jaD .. |exact jap .. |exact jaT .. |exact jaO .. |exact jaW .. |exact jbl .. |exact jaC .. |exact ja7 .. |exact jbc .. |refine jbt ?_|refine jab ?_ (fun _ _ _=>?_)|split|(dsimp only))
theorem jnF(op:UnOp)(x:Value):jag P (Op.unary op x) w:=by
 unfold Op.unary Op.intArith Op.intBits
 repeat' (with_reducible first|exact jac _|exact jbn _|exact jaf .. |exact jal .. |exact jam .. |exact jay .. |exact jaZ .. |exact jaP .. |exact jaK .. |exact jaG .. |exact jai .. |exact jaH .. |exact ja0 .. |exact jaQ .. |exact jba .. |exact jaR .. |exact jat .. |exact jaF .. |exact jbf .. |exact ja3 .. |exact jak .. |exact jaq .. |exact jar .. |exact jaL .. |exact jax .. |exact jaS .. |exact jaD .. |exact jap .. |exact jaT .. |exact jaO .. |exact jaW .. |exact jbl .. |exact jaC .. |exact ja7 .. |exact jbc .. |refine jbt ?_|refine jab ?_ (fun _ _ _=>?_)|split|(dsimp only))
theorem joM(ts:Array TypeId)(t:TypeId)(zas:Array Value):jag P (Builtin.copy_ ts t zas) w:=by
 unfold Builtin.copy_
 repeat' (with_reducible first|exact jac _|exact jbn _|exact jaf .. |exact jal .. |exact jam .. |exact jay .. |exact jaZ .. |exact jaP .. |exact jaK .. |exact jaG .. |exact jai .. |exact jaH .. |exact ja0 .. |exact jaQ .. |exact jba .. |exact jaR .. |exact jat .. |exact jaF .. |exact jbf .. |exact ja3 .. |exact jak .. |exact jaq .. |exact jar .. |exact jaL .. |exact jax .. |exact jaS .. |exact jaD .. |exact jap .. |exact jaT .. |exact jaO .. |exact jaW .. |exact jbl .. |exact jaC .. |exact ja7 .. |exact jbc .. |refine jbt ?_|refine jab ?_ (fun _ _ _=>?_)|split|(dsimp only))
end
end Go.Ae
