/- Texts of the proof, part 4: a second reading of the lowered code, proved sound, and what the functions compute. -/
import GoSem.Dispatch
import Derived.Test.YtkbkpjinekcnhaaGreatP3
set_option linter.unusedSimpArgs false
set_option linter.unusedVariables false
set_option maxRecDepth 20000
set_option maxHeartbeats 4000000
namespace Go.Ae
open Go.Conc
section
variable {P : Program} {w : World} {α β : Type}
theorem jac(a:α):jag P (pure a:Sem α) w:=trivial
theorem jbt(h:Halt):jag P (Sem.halt h:Sem α) w:=trivial
theorem jat(s:String):jag P (stuck s:Sem α) w:=trivial
theorem jal(u:Unsupported):jag P (unsupported u:Sem α) w:=trivial
theorem jaP(v:Value):jag P (goPanic v:Sem α) w:=trivial
theorem jau:jag P program w:=trivial
theorem jaH(q:Question):jag P (choose q) w:=by
 unfold choose jag;split<;>trivial
theorem jbj(a:Addr):jag P (load a) w:=⟨rfl,fun _ _=>trivial⟩
theorem ja7(a:Addr)(v:Value):jag P (store a v) w:=⟨rfl,fun _ _ _=>trivial⟩
theorem jdR{o:Obj}(h:isView o=false):jag P (newObj o) w:=⟨h,trivial⟩
theorem jhv(r:Nat){o:Obj}(h:isView o=false)(hc:o.isChan=false):jag P (setObj r o) w:=⟨h,hc,fun _ _ _=>trivial⟩
theorem jbz{s:Sem α}{f:α->β}(h:jag P s w):jag P (Functor.map f s) w:=jhu h fun _ _ _=>trivial
theorem jaf(t:TypeId):jag P (underlying t) w:=by
 refine jab jau fun p w' _=>?_;split<;>trivial
theorem jam(t:TypeId):jag P (typeInfo t) w:=by
 refine jab jau fun p w' _=>?_;split<;>trivial
theorem jaq(t:TypeId):jag P (zeroValue t) w:=by
 refine jab (jam t) fun p w' _=>?_;split<;>trivial
theorem jaz(t:TypeId):jag P (sizeOf t) w:=jab (jam t) fun _ _ _=>trivial
theorem ja2(t:TypeId):jag P (isAgg t) w:=by
 refine jab (jaf t) fun p w' _=>?_;split<;>trivial
theorem jaR(t:TypeId):jag P (elemOf t) w:=by
 refine jab (jaf t) fun p w' _=>?_;split<;>trivial
theorem jaO(t:TypeId)(c:Array Value):jag P (newRow t c) w:=jab (jdR rfl) fun _ _ _=>trivial
theorem jaI(t:TypeId)(v:Value):jag P (newVar t v) w:=jaO _ _
theorem jaj(e:RuntimeError):jag P (runtimePanic e:Sem α) w:=by
 refine jab jau fun p w' _=>?_;cases e<;>first
  |exact trivial
  |exact jab (jaR _) fun _ _ _=>jab (jaI _ _) fun _ _ _=>trivial
theorem jaJ(v:Value):jag P (asIntOf v) w:=by unfold asIntOf;split<;>trivial
theorem ja3(v:Value):jag P (asInt v) w:=jab (jaJ v) fun _ _ _=>trivial
theorem jaS(v:Value):jag P (asBool v) w:=by unfold asBool;split<;>trivial
theorem jbd(v:Value):jag P (asAgg v) w:=by unfold asAgg;split<;>trivial
theorem jaT(v:Value):jag P (asAddr v) w:=by
 unfold asAddr;split<;>first|trivial|exact jaj _
theorem jaw(v:Value):jag P (Instr.sureAddr v) w:=by unfold Instr.sureAddr;split<;>trivial
theorem jay(k:IntKind)(x y:Int)(c:BoundsCode):jag P (boundsPanic k x y c:Sem α) w:=by
 unfold boundsPanic
 repeat' (with_reducible first|exact jac _|exact jbt _|exact jaf .. |exact jam .. |exact jaq .. |exact jaz .. |exact ja2 .. |exact jaR .. |exact jaO .. |exact jaI .. |exact jaj .. |exact jaJ .. |exact ja3 .. |exact jaS .. |exact jbd .. |exact jaT .. |exact jaw .. |exact jaH .. |exact jbj .. |exact ja7 .. |exact jal .. |exact jat .. |exact jau .. |exact jaP .. |refine jbz ?_|refine jab ?_ (fun _ _ _=>?_)|split|(dsimp only))
theorem jaV(n:Nat):jag P (askRoom n) w:=by
 unfold askRoom;split
 ·exact⟨rfl,trivial⟩
 ·trivial
theorem jde(a:Addr):∀(n i:Nat) (acc:Array Value) (w:World),jag P (loadCellsFrom a i n acc) w
 |0,_,_,_=>trivial
 |n+1,i,acc,w=>jab (jbj _) fun _ w' _=>jde a n (i+1) _ w'
theorem jaE(a:Addr)(n:Nat):jag P (loadCells a n) w:=jde a n 0 _ w
theorem jas(a:Addr):∀(vs:List Value) (i:Nat) (w:World),jag P (storeCells a vs i) w
 |[],_,_=>trivial
 |v::vs,i,w=>jab (ja7 _ _) fun _ w' _=>jas a vs (i+1) w'
theorem jaW(t:TypeId)(a:Addr):jag P (loadVar t a) w:=by
 refine jab (ja2 t) fun b w' _=>?_;split
 ·exact jab (jaz _) fun _ _ _=>jbz (jaE _ _)
 ·exact jbj _
theorem jaQ(t:TypeId)(a:Addr)(v:Value):jag P (storeVar t a v) w:=by
 refine jab (jaz t) fun b w' _=>?_;split
 ·exact jab (jat _) fun _ _ _=>jas _ _ _ _
 ·exact jas _ _ _ _
theorem jaZ(t:TypeId)(cs:Array Value)(o:Nat):jag P (part t cs o) w:=by
 refine jab (ja2 t) fun b w' _=>?_;split
 ·exact jab (jaz _) fun _ _ _=>trivial
 ·split<;>trivial
theorem jmb(t:TypeId)(a:Value):jag P (Instr.loadAt t a) w:=jab (jaw a) fun _ _ _=>jaW _ _
theorem jkN(t:TypeId)(a v:Value):jag P (Instr.storeAt t a v) w:=jab (jaw a) fun _ _ _=>jaQ _ _ _
theorem jbr(v:Value):jag P (Builtin.lenOf v) w:=by unfold Builtin.lenOf;split<;>trivial
theorem jaD(s n:Nat)(v:Value):jag P (Builtin.firstCells s n v) w:=by
 unfold Builtin.firstCells;split<;>first|trivial|exact jaE _ _
theorem jru(t:TypeId)(v:Value):jag P (Instr.box t v) w:=jab (jaI _ _) fun _ _ _=>trivial
theorem joe(t:TypeId):jag P (Instr.alloc t true (.tuple #[])) w:=by
 refine jab (jaq t) fun z w' _=>?_;exact jab (jaI _ _) fun _ _ _=>trivial
theorem jeZ{f:α->Sem β}(hf:∀a w,jag P (f a) w):∀(l:List α) (w:World),jag P (l.mapM f) w
 |[],_=>trivial
 |a::l,w=>by
  rw[List.mapM_cons];exact jab (hf a w) fun _ w' _=>jab (jeZ hf l w') fun _ _ _=>trivial
theorem jkO{f:α->Sem β}(hf:∀a w,jag P (f a) w)(l:Array α):jag P (l.mapM f) w:=by
 rw[Array.mapM_eq_mapM_toList];exact jbz (jeZ hf _ _)
theorem jof(t:TypeId)(ps:Array (Nat×Value)):jag P (Instr.build t ps) w:=by
 unfold Instr.build
 repeat' (with_reducible first|exact jac _|exact jbt _|exact jaf .. |exact jam .. |exact jaq .. |exact jaz .. |exact ja2 .. |exact jaR .. |exact jaO .. |exact jaI .. |exact jaj .. |exact jaJ .. |exact ja3 .. |exact jaS .. |exact jbd .. |exact jaT .. |exact jaw .. |exact jaH .. |exact jbj .. |exact ja7 .. |exact jal .. |exact jat .. |exact jau .. |exact jaP .. |exact jay .. |exact jaV .. |exact jaE .. |exact jas .. |exact jaW .. |exact jaQ .. |exact jaZ .. |exact jbr .. |exact jaD .. |exact jkO (fun _ _=>jab (jaz _) fun _ _ _=>jac _) _|refine jbz ?_|refine jab ?_ (fun _ _ _=>?_)|split|(dsimp only))
theorem jhw(t:TypeId)(n:Nat)(ps:Array (Nat×Value)):jag P (Instr.buildSlice t n ps) w:=by
 unfold Instr.buildSlice
 repeat' (with_reducible first|exact jac _|exact jbt _|exact jaf .. |exact jam .. |exact jaq .. |exact jaz .. |exact ja2 .. |exact jaR .. |exact jaO .. |exact jaI .. |exact jaj .. |exact jaJ .. |exact ja3 .. |exact jaS .. |exact jbd .. |exact jaT .. |exact jaw .. |exact jaH .. |exact jbj .. |exact ja7 .. |exact jal .. |exact jat .. |exact jau .. |exact jaP .. |exact jay .. |exact jaV .. |exact jaE .. |exact jas .. |exact jaW .. |exact jaQ .. |exact jaZ .. |exact jbr .. |exact jaD .. |refine jbz ?_|refine jab ?_ (fun _ _ _=>?_)|split|(dsimp only))
theorem jiH(t:TypeId)(l c:Value):jag P (Instr.makeSlice t l c) w:=by
 unfold Instr.makeSlice
 repeat' (with_reducible first|exact jac _|exact jbt _|exact jaf .. |exact jam .. |exact jaq .. |exact jaz .. |exact ja2 .. |exact jaR .. |exact jaO .. |exact jaI .. |exact jaj .. |exact jaJ .. |exact ja3 .. |exact jaS .. |exact jbd .. |exact jaT .. |exact jaw .. |exact jaH .. |exact jbj .. |exact ja7 .. |exact jal .. |exact jat .. |exact jau .. |exact jaP .. |exact jay .. |exact jaV .. |exact jaE .. |exact jas .. |exact jaW .. |exact jaQ .. |exact jaZ .. |exact jbr .. |exact jaD .. |refine jbz ?_|refine jab ?_ (fun _ _ _=>?_)|split|(dsimp only))
theorem jba(x:Value)(y:Nat)(c:BoundsCode):jag P (Instr.sliceBound x y c) w:=by
 unfold Instr.sliceBound
 repeat' (with_reducible first|exact jac _|exact jbt _|exact jaf .. |exact jam .. |exact jaq .. |exact jaz .. |exact ja2 .. |exact jaR .. |exact jaO .. |exact jaI .. |exact jaj .. |exact jaJ .. |exact ja3 .. |exact jaS .. |exact jbd .. |exact jaT .. |exact jaw .. |exact jaH .. |exact jbj .. |exact ja7 .. |exact jal .. |exact jat .. |exact jau .. |exact jaP .. |exact jay .. |exact jaV .. |refine jbz ?_|refine jab ?_ (fun _ _ _=>?_)|split|(dsimp only))
theorem jbf(b:Bool)(l c:Nat)(lo hi mx:Option Value):jag P (Instr.sliceBounds b l c lo hi mx) w:=by
 unfold Instr.sliceBounds
 repeat' (with_reducible first|exact jac _|exact jbt _|exact jaf .. |exact jam .. |exact jaq .. |exact jaz .. |exact ja2 .. |exact jaR .. |exact jaO .. |exact jaI .. |exact jaj .. |exact jaJ .. |exact ja3 .. |exact jaS .. |exact jbd .. |exact jaT .. |exact jaw .. |exact jaH .. |exact jbj .. |exact ja7 .. |exact jal .. |exact jat .. |exact jau .. |exact jaP .. |exact jba .. |refine jbz ?_|refine jab ?_ (fun _ _ _=>?_)|split|(dsimp only))
theorem jkP(t:TypeId)(x:Value)(lo hi mx:Option Value):jag P (Instr.sliceAt t x lo hi mx) w:=by
 unfold Instr.sliceAt Instr.slice
 repeat' (with_reducible first|exact jac _|exact jbt _|exact jaf .. |exact jam .. |exact jaq .. |exact jaz .. |exact ja2 .. |exact jaR .. |exact jaO .. |exact jaI .. |exact jaj .. |exact jaJ .. |exact ja3 .. |exact jaS .. |exact jbd .. |exact jaT .. |exact jaw .. |exact jaH .. |exact jbj .. |exact ja7 .. |exact jal .. |exact jat .. |exact jau .. |exact jaP .. |exact jay .. |exact jaV .. |exact jaE .. |exact jas .. |exact jaW .. |exact jaQ .. |exact jaZ .. |exact jbr .. |exact jaD .. |exact jba .. |exact jbf .. |refine jbz ?_|refine jab ?_ (fun _ _ _=>?_)|split|(dsimp only))
theorem jog(t:TypeId)(x:Value)(f:Nat):jag P (Instr.field t x f) w:=by
 unfold Instr.field
 repeat' (with_reducible first|exact jac _|exact jbt _|exact jaf .. |exact jam .. |exact jaq .. |exact jaz .. |exact ja2 .. |exact jaR .. |exact jaO .. |exact jaI .. |exact jaj .. |exact jaJ .. |exact ja3 .. |exact jaS .. |exact jbd .. |exact jaT .. |exact jaw .. |exact jaH .. |exact jbj .. |exact ja7 .. |exact jal .. |exact jat .. |exact jau .. |exact jaP .. |exact jay .. |exact jaV .. |exact jaE .. |exact jas .. |exact jaW .. |exact jaQ .. |exact jaZ .. |exact jbr .. |exact jaD .. |exact jba .. |exact jbf .. |refine jbz ?_|refine jab ?_ (fun _ _ _=>?_)|split|(dsimp only))
theorem joh(t:TypeId)(x i:Value):jag P (Instr.index t x i) w:=by
 unfold Instr.index
 repeat' (with_reducible first|exact jac _|exact jbt _|exact jaf .. |exact jam .. |exact jaq .. |exact jaz .. |exact ja2 .. |exact jaR .. |exact jaO .. |exact jaI .. |exact jaj .. |exact jaJ .. |exact ja3 .. |exact jaS .. |exact jbd .. |exact jaT .. |exact jaw .. |exact jaH .. |exact jbj .. |exact ja7 .. |exact jal .. |exact jat .. |exact jau .. |exact jaP .. |exact jay .. |exact jaV .. |exact jaE .. |exact jas .. |exact jaW .. |exact jaQ .. |exact jaZ .. |exact jbr .. |exact jaD .. |exact jba .. |exact jbf .. |refine jbz ?_|refine jab ?_ (fun _ _ _=>?_)|split|(dsimp only))
theorem jkQ(t:TypeId)(x i:Value):jag P (Instr.indexAt t x i) w:=by
 unfold Instr.indexAt
 repeat' (with_reducible first|exact jac _|exact jbt _|exact jaf .. |exact jam .. |exact jaq .. |exact jaz .. |exact ja2 .. |exact jaR .. |exact jaO .. |exact jaI .. |exact jaj .. |exact jaJ .. |exact ja3 .. |exact jaS .. |exact jbd .. |exact jaT .. |exact jaw .. |exact jaH .. |exact jbj .. |exact ja7 .. |exact jal .. |exact jat .. |exact jau .. |exact jaP .. |exact jay .. |exact jaV .. |exact jaE .. |exact jas .. |exact jaW .. |exact jaQ .. |exact jaZ .. |exact jbr .. |exact jaD .. |exact jba .. |exact jbf .. |refine jbz ?_|refine jab ?_ (fun _ _ _=>?_)|split|(dsimp only))
theorem jkR(t:Value)(i:Nat):jag P (Instr.extract t i) w:=by
 unfold Instr.extract
 repeat' (with_reducible first|exact jac _|exact jbt _|exact jaf .. |exact jam .. |exact jaq .. |exact jaz .. |exact ja2 .. |exact jaR .. |exact jaO .. |exact jaI .. |exact jaj .. |exact jaJ .. |exact ja3 .. |exact jaS .. |exact jbd .. |exact jaT .. |exact jaw .. |exact jaH .. |exact jbj .. |exact ja7 .. |exact jal .. |exact jat .. |exact jau .. |exact jaP .. |exact jay .. |exact jaV .. |exact jaE .. |exact jas .. |exact jaW .. |exact jaQ .. |exact jaZ .. |exact jbr .. |exact jaD .. |exact jba .. |exact jbf .. |refine jbz ?_|refine jab ?_ (fun _ _ _=>?_)|split|(dsimp only))
theorem joi(op:UnOp)(x:Value):jag P (Op.unary op x) w:=by
 unfold Op.unary Op.intArith Op.intBits
 repeat' (with_reducible first|exact jac _|exact jbt _|exact jaf .. |exact jam .. |exact jaq .. |exact jaz .. |exact ja2 .. |exact jaR .. |exact jaO .. |exact jaI .. |exact jaj .. |exact jaJ .. |exact ja3 .. |exact jaS .. |exact jbd .. |exact jaT .. |exact jaw .. |exact jaH .. |exact jbj .. |exact ja7 .. |exact jal .. |exact jat .. |exact jau .. |exact jaP .. |exact jay .. |exact jaV .. |exact jaE .. |exact jas .. |exact jaW .. |exact jaQ .. |exact jaZ .. |exact jbr .. |exact jaD .. |exact jba .. |exact jbf .. |refine jbz ?_|refine jab ?_ (fun _ _ _=>?_)|split|(dsimp only))
theorem jpu(ts:Array TypeId)(t:TypeId)(zas:Array Value):jag P (Builtin.copy_ ts t zas) w:=by
 unfold Builtin.copy_
 repeat' (with_reducible first|exact jac _|exact jbt _|exact jaf .. |exact jam .. |exact jaq .. |exact jaz .. |exact ja2 .. |exact jaR .. |exact jaO .. |exact jaI .. |exact jaj .. |exact jaJ .. |exact ja3 .. |exact jaS .. |exact jbd .. |exact jaT .. |exact jaw .. |exact jaH .. |exact jbj .. |exact ja7 .. |exact jal .. |exact jat .. |exact jau .. |exact jaP .. |exact jay .. |exact jaV .. |exact jaE .. |exact jas .. |exact jaW .. |exact jaQ .. |exact jaZ .. |exact jbr .. |exact jaD .. |exact jba .. |exact jbf .. |refine jbz ?_|refine jab ?_ (fun _ _ _=>?_)|split|(dsimp only))
end
end Go.Ae
