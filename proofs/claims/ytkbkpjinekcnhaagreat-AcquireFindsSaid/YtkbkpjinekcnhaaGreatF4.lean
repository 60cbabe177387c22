/- Texts of the proof, part 4: a second reading of the lowered code, proved sound, and what the functions compute. -/
import GoSem.Dispatch
import Derived.Test.YtkbkpjinekcnhaaGreatF3
set_option linter.unusedSimpArgs false
set_option linter.unusedVariables false
set_option maxRecDepth 20000
set_option maxHeartbeats 4000000
namespace Go.Ae
open Go.Conc
section
variable {P : Program} {w : World} {α β : Type}
theorem jac(a:α):jag P (pure a:Sem α) w:=trivial
theorem jbs(h:Halt):jag P (Sem.halt h:Sem α) w:=trivial
theorem jat(s:String):jag P (stuck s:Sem α) w:=trivial
theorem jan(u:Unsupported):jag P (unsupported u:Sem α) w:=trivial
theorem jaQ(v:Value):jag P (goPanic v:Sem α) w:=trivial
theorem jau:jag P program w:=trivial
theorem jaI(q:Question):jag P (choose q) w:=by
 unfold choose jag;split<;>trivial
theorem jbj(a:Addr):jag P (load a) w:=⟨rfl,fun _ _=>trivial⟩
theorem ja8(a:Addr)(v:Value):jag P (store a v) w:=⟨rfl,fun _ _ _=>trivial⟩
theorem jdV{o:Obj}(h:isView o=false):jag P (newObj o) w:=⟨h,trivial⟩
theorem jhD(r:Nat){o:Obj}(h:isView o=false)(hc:o.isChan=false):jag P (setObj r o) w:=⟨h,hc,fun _ _ _=>trivial⟩
theorem jbz{s:Sem α}{f:α->β}(h:jag P s w):jag P (Functor.map f s) w:=jhC h fun _ _ _=>trivial
theorem jaf(t:TypeId):jag P (underlying t) w:=by
 refine jab jau fun p w' _=>?_;split<;>trivial
theorem jao(t:TypeId):jag P (typeInfo t) w:=by
 refine jab jau fun p w' _=>?_;split<;>trivial
theorem jaq(t:TypeId):jag P (zeroValue t) w:=by
 refine jab (jao t) fun p w' _=>?_;split<;>trivial
theorem jaz(t:TypeId):jag P (sizeOf t) w:=jab (jao t) fun _ _ _=>trivial
theorem ja4(t:TypeId):jag P (isAgg t) w:=by
 refine jab (jaf t) fun p w' _=>?_;split<;>trivial
theorem jaS(t:TypeId):jag P (elemOf t) w:=by
 refine jab (jaf t) fun p w' _=>?_;split<;>trivial
theorem jaP(t:TypeId)(c:Array Value):jag P (newRow t c) w:=jab (jdV rfl) fun _ _ _=>trivial
theorem jaJ(t:TypeId)(v:Value):jag P (newVar t v) w:=jaP _ _
theorem jaj(e:RuntimeError):jag P (runtimePanic e:Sem α) w:=by
 refine jab jau fun p w' _=>?_;cases e<;>first
  |exact trivial
  |exact jab (jaS _) fun _ _ _=>jab (jaJ _ _) fun _ _ _=>trivial
theorem jaK(v:Value):jag P (asIntOf v) w:=by unfold asIntOf;split<;>trivial
theorem ja5(v:Value):jag P (asInt v) w:=jab (jaK v) fun _ _ _=>trivial
theorem jaT(v:Value):jag P (asBool v) w:=by unfold asBool;split<;>trivial
theorem jbd(v:Value):jag P (asAgg v) w:=by unfold asAgg;split<;>trivial
theorem jaU(v:Value):jag P (asAddr v) w:=by
 unfold asAddr;split<;>first|trivial|exact jaj _
theorem jaw(v:Value):jag P (Instr.sureAddr v) w:=by unfold Instr.sureAddr;split<;>trivial
theorem jay(k:IntKind)(x y:Int)(c:BoundsCode):jag P (boundsPanic k x y c:Sem α) w:=by
 unfold boundsPanic
 repeat' (with_reducible first|exact jac _|exact jbs _|exact jaf .. |exact jao .. |exact jaq .. |exact jaz .. |exact ja4 .. |exact jaS .. |exact jaP .. |exact jaJ .. |exact jaj .. |exact jaK .. |exact ja5 .. |exact jaT .. |exact jbd .. |exact jaU .. |exact jaw .. |exact jaI .. |exact jbj .. |exact ja8 .. |exact jan .. |exact jat .. |exact jau .. |exact jaQ .. |refine jbz ?_|refine jab ?_ (fun _ _ _=>?_)|split|(dsimp only))
theorem jaW(n:Nat):jag P (askRoom n) w:=by
 unfold askRoom;split
 ·exact⟨rfl,trivial⟩
 ·trivial
theorem jdg(a:Addr):∀(n i:Nat) (acc:Array Value) (w:World),jag P (loadCellsFrom a i n acc) w
 |0,_,_,_=>trivial
 |n+1,i,acc,w=>jab (jbj _) fun _ w' _=>jdg a n (i+1) _ w'
theorem jaE(a:Addr)(n:Nat):jag P (loadCells a n) w:=jdg a n 0 _ w
theorem jas(a:Addr):∀(vs:List Value) (i:Nat) (w:World),jag P (storeCells a vs i) w
 |[],_,_=>trivial
 |v::vs,i,w=>jab (ja8 _ _) fun _ w' _=>jas a vs (i+1) w'
theorem jaX(t:TypeId)(a:Addr):jag P (loadVar t a) w:=by
 refine jab (ja4 t) fun b w' _=>?_;split
 ·exact jab (jaz _) fun _ _ _=>jbz (jaE _ _)
 ·exact jbj _
theorem jaR(t:TypeId)(a:Addr)(v:Value):jag P (storeVar t a v) w:=by
 refine jab (jaz t) fun b w' _=>?_;split
 ·exact jab (jat _) fun _ _ _=>jas _ _ _ _
 ·exact jas _ _ _ _
theorem ja1(t:TypeId)(cs:Array Value)(o:Nat):jag P (part t cs o) w:=by
 refine jab (ja4 t) fun b w' _=>?_;split
 ·exact jab (jaz _) fun _ _ _=>trivial
 ·split<;>trivial
theorem jmo(t:TypeId)(a:Value):jag P (Instr.loadAt t a) w:=jab (jaw a) fun _ _ _=>jaX _ _
theorem jk2(t:TypeId)(a v:Value):jag P (Instr.storeAt t a v) w:=jab (jaw a) fun _ _ _=>jaR _ _ _
theorem jbq(v:Value):jag P (Builtin.lenOf v) w:=by unfold Builtin.lenOf;split<;>trivial
theorem jaD(s n:Nat)(v:Value):jag P (Builtin.firstCells s n v) w:=by
 unfold Builtin.firstCells;split<;>first|trivial|exact jaE _ _
theorem jrO(t:TypeId)(v:Value):jag P (Instr.box t v) w:=jab (jaJ _ _) fun _ _ _=>trivial
theorem jor(t:TypeId):jag P (Instr.alloc t true (.tuple #[])) w:=by
 refine jab (jaq t) fun z w' _=>?_;exact jab (jaJ _ _) fun _ _ _=>trivial
theorem je1{f:α->Sem β}(hf:∀a w,jag P (f a) w):∀(l:List α) (w:World),jag P (l.mapM f) w
 |[],_=>trivial
 |a::l,w=>by
  rw[List.mapM_cons];exact jab (hf a w) fun _ w' _=>jab (je1 hf l w') fun _ _ _=>trivial
theorem jk3{f:α->Sem β}(hf:∀a w,jag P (f a) w)(l:Array α):jag P (l.mapM f) w:=by
 rw[Array.mapM_eq_mapM_toList];exact jbz (je1 hf _ _)
theorem jos(t:TypeId)(ps:Array (Nat×Value)):jag P (Instr.build t ps) w:=by
 unfold Instr.build
 repeat' (with_reducible first|exact jac _|exact jbs _|exact jaf .. |exact jao .. |exact jaq .. |exact jaz .. |exact ja4 .. |exact jaS .. |exact jaP .. |exact jaJ .. |exact jaj .. |exact jaK .. |exact ja5 .. |exact jaT .. |exact jbd .. |exact jaU .. |exact jaw .. |exact jaI .. |exact jbj .. |exact ja8 .. |exact jan .. |exact jat .. |exact jau .. |exact jaQ .. |exact jay .. |exact jaW .. |exact jaE .. |exact jas .. |exact jaX .. |exact jaR .. |exact ja1 .. |exact jbq .. |exact jaD .. |exact jk3 (fun _ _=>jab (jaz _) fun _ _ _=>jac _) _|refine jbz ?_|refine jab ?_ (fun _ _ _=>?_)|split|(dsimp only))
theorem jhE(t:TypeId)(n:Nat)(ps:Array (Nat×Value)):jag P (Instr.buildSlice t n ps) w:=by
 unfold Instr.buildSlice
 repeat' (with_reducible first|exact jac _|exact jbs _|exact jaf .. |exact jao .. |exact jaq .. |exact jaz .. |exact ja4 .. |exact jaS .. |exact jaP .. |exact jaJ .. |exact jaj .. |exact jaK .. |exact ja5 .. |exact jaT .. |exact jbd .. |exact jaU .. |exact jaw .. |exact jaI .. |exact jbj .. |exact ja8 .. |exact jan .. |exact jat .. |exact jau .. |exact jaQ .. |exact jay .. |exact jaW .. |exact jaE .. |exact jas .. |exact jaX .. |exact jaR .. |exact ja1 .. |exact jbq .. |exact jaD .. |refine jbz ?_|refine jab ?_ (fun _ _ _=>?_)|split|(dsimp only))
theorem jiT(t:TypeId)(l c:Value):jag P (Instr.makeSlice t l c) w:=by
 unfold Instr.makeSlice
 repeat' (with_reducible first|exact jac _|exact jbs _|exact jaf .. |exact jao .. |exact jaq .. |exact jaz .. |exact ja4 .. |exact jaS .. |exact jaP .. |exact jaJ .. |exact jaj .. |exact jaK .. |exact ja5 .. |exact jaT .. |exact jbd .. |exact jaU .. |exact jaw .. |exact jaI .. |exact jbj .. |exact ja8 .. |exact jan .. |exact jat .. |exact jau .. |exact jaQ .. |exact jay .. |exact jaW .. |exact jaE .. |exact jas .. |exact jaX .. |exact jaR .. |exact ja1 .. |exact jbq .. |exact jaD .. |refine jbz ?_|refine jab ?_ (fun _ _ _=>?_)|split|(dsimp only))
theorem jbb(x:Value)(y:Nat)(c:BoundsCode):jag P (Instr.sliceBound x y c) w:=by
 unfold Instr.sliceBound
 repeat' (with_reducible first|exact jac _|exact jbs _|exact jaf .. |exact jao .. |exact jaq .. |exact jaz .. |exact ja4 .. |exact jaS .. |exact jaP .. |exact jaJ .. |exact jaj .. |exact jaK .. |exact ja5 .. |exact jaT .. |exact jbd .. |exact jaU .. |exact jaw .. |exact jaI .. |exact jbj .. |exact ja8 .. |exact jan .. |exact jat .. |exact jau .. |exact jaQ .. |exact jay .. |exact jaW .. |refine jbz ?_|refine jab ?_ (fun _ _ _=>?_)|split|(dsimp only))
theorem jbf(b:Bool)(l c:Nat)(lo hi mx:Option Value):jag P (Instr.sliceBounds b l c lo hi mx) w:=by
 unfold Instr.sliceBounds
 repeat' (with_reducible first|exact jac _|exact jbs _|exact jaf .. |exact jao .. |exact jaq .. |exact jaz .. |exact ja4 .. |exact jaS .. |exact jaP .. |exact jaJ .. |exact jaj .. |exact jaK .. |exact ja5 .. |exact jaT .. |exact jbd .. |exact jaU .. |exact jaw .. |exact jaI .. |exact jbj .. |exact ja8 .. |exact jan .. |exact jat .. |exact jau .. |exact jaQ .. |exact jbb .. |refine jbz ?_|refine jab ?_ (fun _ _ _=>?_)|split|(dsimp only))
theorem jk4(t:TypeId)(x:Value)(lo hi mx:Option Value):jag P (Instr.sliceAt t x lo hi mx) w:=by
 unfold Instr.sliceAt Instr.slice
 repeat' (with_reducible first|exact jac _|exact jbs _|exact jaf .. |exact jao .. |exact jaq .. |exact jaz .. |exact ja4 .. |exact jaS .. |exact jaP .. |exact jaJ .. |exact jaj .. |exact jaK .. |exact ja5 .. |exact jaT .. |exact jbd .. |exact jaU .. |exact jaw .. |exact jaI .. |exact jbj .. |exact ja8 .. |exact jan .. |exact jat .. |exact jau .. |exact jaQ .. |exact jay .. |exact jaW .. |exact jaE .. |exact jas .. |exact jaX .. |exact jaR .. |exact ja1 .. |exact jbq .. |exact jaD .. |exact jbb .. |exact jbf .. |refine jbz ?_|refine jab ?_ (fun _ _ _=>?_)|split|(dsimp only))
theorem jot(t:TypeId)(x:Value)(f:Nat):jag P (Instr.field t x f) w:=by
 unfold Instr.field
 repeat' (with_reducible first|exact jac _|exact jbs _|exact jaf .. |exact jao .. |exact jaq .. |exact jaz .. |exact ja4 .. |exact jaS .. |exact jaP .. |exact jaJ .. |exact jaj .. |exact jaK .. |exact ja5 .. |exact jaT .. |exact jbd .. |exact jaU .. |exact jaw .. |exact jaI .. |exact jbj .. |exact ja8 .. |exact jan .. |exact jat .. |exact jau .. |exact jaQ .. |exact jay .. |exact jaW .. |exact jaE .. |exact jas .. |exact jaX .. |exact jaR .. |exact ja1 .. |exact jbq .. |exact jaD .. |exact jbb .. |exact jbf .. |refine jbz ?_|refine jab ?_ (fun _ _ _=>?_)|split|(dsimp only))
theorem jou(t:TypeId)(x i:Value):jag P (Instr.index t x i) w:=by
 unfold Instr.index
 repeat' (with_reducible first|exact jac _|exact jbs _|exact jaf .. |exact jao .. |exact jaq .. |exact jaz .. |exact ja4 .. |exact jaS .. |exact jaP .. |exact jaJ .. |exact jaj .. |exact jaK .. |exact ja5 .. |exact jaT .. |exact jbd .. |exact jaU .. |exact jaw .. |exact jaI .. |exact jbj .. |exact ja8 .. |exact jan .. |exact jat .. |exact jau .. |exact jaQ .. |exact jay .. |exact jaW .. |exact jaE .. |exact jas .. |exact jaX .. |exact jaR .. |exact ja1 .. |exact jbq .. |exact jaD .. |exact jbb .. |exact jbf .. |refine jbz ?_|refine jab ?_ (fun _ _ _=>?_)|split|(dsimp only))
theorem jk5(t:TypeId)(x i:Value):jag P (Instr.indexAt t x i) w:=by
 unfold Instr.indexAt
 repeat' (with_reducible first|exact jac _|exact jbs _|exact jaf .. |exact jao .. |exact jaq .. |exact jaz .. |exact ja4 .. |exact jaS .. |exact jaP .. |exact jaJ .. |exact jaj .. |exact jaK .. |exact ja5 .. |exact jaT .. |exact jbd .. |exact jaU .. |exact jaw .. |exact jaI .. |exact jbj .. |exact ja8 .. |exact jan .. |exact jat .. |exact jau .. |exact jaQ .. |exact jay .. |exact jaW .. |exact jaE .. |exact jas .. |exact jaX .. |exact jaR .. |exact ja1 .. |exact jbq .. |exact jaD .. |exact jbb .. |exact jbf .. |refine jbz ?_|refine jab ?_ (fun _ _ _=>?_)|split|(dsimp only))
theorem jk6(t:Value)(i:Nat):jag P (Instr.extract t i) w:=by
 unfold Instr.extract
 repeat' (with_reducible first|exact jac _|exact jbs _|exact jaf .. |exact jao .. |exact jaq .. |exact jaz .. |exact ja4 .. |exact jaS .. |exact jaP .. |exact jaJ .. |exact jaj .. |exact jaK .. |exact ja5 .. |exact jaT .. |exact jbd .. |exact jaU .. |exact jaw .. |exact jaI .. |exact jbj .. |exact ja8 .. |exact jan .. |exact jat .. |exact jau .. |exact jaQ .. |exact jay .. |exact jaW .. |exact jaE .. |exact jas .. |exact jaX .. |exact jaR .. |exact ja1 .. |exact jbq .. |exact jaD .. |exact jbb .. |exact jbf .. |refine jbz ?_|refine jab ?_ (fun _ _ _=>?_)|split|(dsimp only))
theorem jov(op:UnOp)(x:Value):jag P (Op.unary op x) w:=by
 unfold Op.unary Op.intArith Op.intBits
 repeat' (with_reducible first|exact jac _|exact jbs _|exact jaf .. |exact jao .. |exact jaq .. |exact jaz .. |exact ja4 .. |exact jaS .. |exact jaP .. |exact jaJ .. |exact jaj .. |exact jaK .. |exact ja5 .. |exact jaT .. |exact jbd .. |exact jaU .. |exact jaw .. |exact jaI .. |exact jbj .. |exact ja8 .. |exact jan .. |exact jat .. |exact jau .. |exact jaQ .. |exact jay .. |exact jaW .. |exact jaE .. |exact jas .. |exact jaX .. |exact jaR .. |exact ja1 .. |exact jbq .. |exact jaD .. |exact jbb .. |exact jbf .. |refine jbz ?_|refine jab ?_ (fun _ _ _=>?_)|split|(dsimp only))
theorem jpI(ts:Array TypeId)(t:TypeId)(zas:Array Value):jag P (Builtin.copy_ ts t zas) w:=by
 unfold Builtin.copy_
 repeat' (with_reducible first|exact jac _|exact jbs _|exact jaf .. |exact jao .. |exact jaq .. |exact jaz .. |exact ja4 .. |exact jaS .. |exact jaP .. |exact jaJ .. |exact jaj .. |exact jaK .. |exact ja5 .. |exact jaT .. |exact jbd .. |exact jaU .. |exact jaw .. |exact jaI .. |exact jbj .. |exact ja8 .. |exact jan .. |exact jat .. |exact jau .. |exact jaQ .. |exact jay .. |exact jaW .. |exact jaE .. |exact jas .. |exact jaX .. |exact jaR .. |exact ja1 .. |exact jbq .. |exact jaD .. |exact jbb .. |exact jbf .. |refine jbz ?_|refine jab ?_ (fun _ _ _=>?_)|split|(dsimp only))
end
end Go.Ae
