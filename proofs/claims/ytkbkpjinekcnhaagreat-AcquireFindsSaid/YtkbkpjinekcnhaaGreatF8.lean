/- Texts of the proof, part 8: a second reading of the lowered code, proved sound, and what the functions compute. -/
import Derived.CallsIn
import Derived.RangeFuncRecord
import Derived.RangeFuncIn
import Derived.Conc.Own2
import Derived.Test.YtkbkpjinekcnhaaGreatF7
set_option linter.unusedSimpArgs false
set_option linter.unusedVariables false
set_option maxRecDepth 20000
set_option maxHeartbeats 4000000
namespace Go.Ae
variable {C : Ctx} {w w' : World} {kp : Keep} {ops : Array Oper} {i : Nat}
open Go.Conc
section
variable {P : Program} {main : Bool} {b : Frame} {a : Act} {k : List Item} {cs : List Frame} {w : World}
theorem jtB:stepG P main (G (b.atR a (.code .skip::k)) cs) w=.go (G (b.atR a k) cs) w #[]:=by simp[G,stepG,stepG.exec,Frame.atR]
theorem jrV{l:Nat}:stepG P main (G (b.atR a (.code (.label l)::k)) cs) w=.go (G (b.atR a k) cs) w #[]:=by simp[G,stepG,stepG.exec,Frame.atR]
theorem jji{id:Nat}:stepG P main (G (b.atR a (.inBlock id::k)) cs) w=.go (G (b.atR a k) cs) w #[]:=by simp[G,stepG,stepG.exec,Frame.atR]
theorem jpW{x y:Code}:stepG P main (G (b.atR a (.code (.seq x y)::k)) cs) w=.go (G (b.atR a (.code x:: .code y::k)) cs) w #[]:=by simp[G,stepG,stepG.exec,Frame.atR]
theorem jtC{c:Operand}{x y:Code}{t:Bool}(h:a.eval c=.bool t):stepG P main (G (b.atR a (.code (.cond c x y)::k)) cs) w=.go (G (b.atR a (.code (if t then x else y)::k)) cs) w #[]:=by
 have h':=congrFun (Frame.eval_atR b a (.code (.cond c x y)::k)) c;simp only[Frame.atR]at h';rw[h]at h';simp[G,stepG,stepG.exec,Frame.atR,h']
theorem jnN{id:Nat}{c:Code}:stepG P main (G (b.atR a (.code (.block id c)::k)) cs) w=.go (G (b.atR a (.code c:: .inBlock id::k)) cs) w #[]:=by simp[G,stepG,stepG.exec,Frame.atR]
theorem jpX{c:Code}:stepG P main (G (b.atR a (.code (.loop c)::k)) cs) w=.go (G (b.atR a (.code c:: .inLoop c::k)) cs) w #[]:=by simp[G,stepG,stepG.exec,Frame.atR]
theorem jlg{c:Code}:stepG P main (G (b.atR a (.inLoop c::k)) cs) w=.go (G (b.atR a (.code c:: .inLoop c::k)) cs) w #[]:=by simp[G,stepG,stepG.exec,Frame.atR]
theorem jpY{id:Nat}{k':List Item}(h:exitTo id k=some k'):stepG P main (G (b.atR a (.code (.exit id)::k)) cs) w=.go (G (b.atR a k') cs) w #[]:=by simp[G,stepG,stepG.exec,Frame.atR,h]
theorem jhU{id:Nat}:stepG P main (G (b.atR a (.code (.region id ops false)::k)) cs) w=.go (G (b.atR a (.inRegion ops (List.range ops.size)::k)) cs) w #[]:=by simp[G,stepG,stepG.exec,Frame.atR]
theorem jiY{id:Nat}{ops:Array Oper}:stepG P main (G (b.atR a (.code (.region id ops true)::k)) cs) w=
  .go (G (b.atR a (.inRegion ops (Region.schedule (P.follows .mixedOrders) ops (w.tape w.drawn (.order b.fn id)))::k)) cs) (w.at (w.drawn+1)) #[]:=by
 simp[G,stepG,stepG.exec,Frame.atR,choose,Sem.run,Question.forced,Question.cut,World.at]
theorem jd4:stepG P main (G (b.atR a (.inRegion ops []::k)) cs) w=.go (G (b.atR a k) cs) w #[]:=by simp[G,stepG,stepG.exec,Frame.atR]
theorem jpZ(h:b.roundOf=none):stepG P main (G (b.atR a []) cs) w=.go (G {b.atR a []with mode:=.returning} cs) w #[]:=by simp[G,stepG,stepG.exec,Frame.atR,h]
theorem jtd(h:b.roundOf=none):stepG P main (G (b.atR a (.code .ret::k)) cs) w=.go (G {b.atR a (.code .ret::k)with mode:=.returning} cs) w #[]:=by simp[G,stepG,stepG.exec,Frame.atR,h]
def evs(P:Program)(fn:FuncId)(s:Sem Next)(w:World):Array Event:=seen P fn (s.events P w #[])
theorem jgm{ops:Array Oper}{i:Nat}{rest:List Nat}{o:Oper}(ho:ops[i]? =some o)(hw:Region.wanted o (yielded ops a.tmps)=true)(hd:∀c,o.op≠.defer c):
  stepG P main (G (b.atR a (.inRegion ops (i::rest)::k)) cs) w=stepG.apply P true (b.atR a (.inRegion ops (i::rest)::k)) cs none (execOp a.eval o) w:=by
 have he:=Frame.eval_atR b a (.inRegion ops (i::rest)::k);simp only[Frame.atR]at he;have h1:stepG P main (G (b.atR a (.inRegion ops (i::rest)::k)) cs) w=stepG.oper P true (b.atR a (.inRegion ops (i::rest)::k)) cs none w:=by
  simp[G,stepG,stepG.exec,Frame.atR,ho,hw]
 rw[h1];unfold stepG.oper;have ho':(b.atR a (.inRegion ops (i::rest)::k)).oper?=some o:=by simp[Frame.oper?,Frame.atR,ho]
 rw[ho'];have hev:(b.atR a (.inRegion ops (i::rest)::k)).eval=a.eval:=Frame.eval_atR ..;dsimp only;rw[hev];split
 ·rename_i c _ hc;exact absurd hc (hd c)
 ·rfl
theorem jrW{ops:Array Oper}{i:Nat}{rest:List Nat}{o:Oper}{v:Value}{w':World}(ho:ops[i]? =some o)(hw:Region.wanted o (yielded ops a.tmps)=true)(hd:∀c,o.op≠.defer c)
  (hk:b.kind≠.early) (hr:(execOp a.eval o).run P w=.ok (.value v) w'):
  stepG P main (G (b.atR a (.inRegion ops (i::rest)::k)) cs) w=.go (G (b.atR (a.put o.dst v) (.inRegion ops rest::k)) cs) w' (evs P b.fn (execOp a.eval o) w):=by
 have hfin:(b.atR a (.inRegion ops (i::rest)::k)).finish v=b.atR (a.put o.dst v) (.inRegion ops rest::k):=by rw[Frame.finish_atR,ho];rfl
 have hk':(b.kind==CallKind.early)=false:=by simpa using hk
 rw[jgm ho hw hd,<-hfin];simp[stepG.apply,hr,G,Frame.atR,hk',GStep.after,evs]
theorem jtD{ops:Array Oper}{i:Nat}{rest:List Nat}{o:Oper}{w':World}(ho:ops[i]? =some o)(hw:Region.wanted o (yielded ops a.tmps)=true)(hd:∀c,o.op≠.defer c)
  (hk:b.kind≠.early) (hr:(execOp a.eval o).run P w=.ok .skip w'):
  stepG P main (G (b.atR a (.inRegion ops (i::rest)::k)) cs) w=.go (G (b.atR (a.put o.dst undef) (.inRegion ops rest::k)) cs) w' (evs P b.fn (execOp a.eval o) w):=by
 have hfin:(b.atR a (.inRegion ops (i::rest)::k)).finish undef=b.atR (a.put o.dst undef) (.inRegion ops rest::k):=by rw[Frame.finish_atR,ho];rfl
 have hk':(b.kind==CallKind.early)=false:=by simpa using hk
 rw[jgm ho hw hd,<-hfin];simp[stepG.apply,hr,G,Frame.atR,hk',GStep.after,evs]
theorem jrX{ops:Array Oper}{i:Nat}{rest:List Nat}{o:Oper}{f:FuncId}{args:Array Value}{w':World}(ho:ops[i]? =some o)(hw:Region.wanted o (yielded ops a.tmps)=true)(hd:∀c,o.op≠.defer c)
  (hk:b.kind≠.early) (hr:(execOp a.eval o).run P w=.ok (.enter f args) w'):
  stepG P main (G (b.atR a (.inRegion ops (i::rest)::k)) cs) w=.go (G (Frame.enter P f args .normal) (b.atR a (.inRegion ops (i::rest)::k)::cs)) w' (evs P b.fn (execOp a.eval o) w):=by
 have hk':(b.kind==CallKind.early)=false:=by simpa using hk
 rw[jgm ho hw hd];simp[stepG.apply,hr,G,Frame.atR,hk',GStep.after,evs]
theorem jrY{ops:Array Oper}{i:Nat}{rest:List Nat}{o:Oper}{l:Nat}{f:FuncId}{tmps:Array Value}{assign body:Code}{w':World}(ho:ops[i]? =some o)(hw:Region.wanted o (yielded ops a.tmps)=true)(hd:∀c,o.op≠.defer c)
  (hk:b.kind≠.early) (hr:(execOp a.eval o).run P w=.ok (.round l f tmps assign body) w'):
  stepG P main (G (b.atR a (.inRegion ops (i::rest)::k)) cs) w=.go (G (Frame.round l f tmps assign body .normal) (b.atR a (.inRegion ops (i::rest)::k)::cs)) w' (evs P b.fn (execOp a.eval o) w):=by
 have hk':(b.kind==CallKind.early)=false:=by simpa using hk
 rw[jgm ho hw hd];simp[stepG.apply,hr,G,Frame.atR,hk',GStep.after,evs]
theorem jp0{ops:Array Oper}{i:Nat}{rest:List Nat}{o:Oper}{cases:Array CommCase}{bl:Bool}{sh:CommShape}{w':World}(ho:ops[i]? =some o)(hw:Region.wanted o (yielded ops a.tmps)=true)(hd:∀c,o.op≠.defer c)
  (hk:b.kind≠.early) (hr:(execOp a.eval o).run P w=.ok (.comm cases bl sh) w'):
  stepG P main (G (b.atR a (.inRegion ops (i::rest)::k)) cs) w=.comm (G (b.atR a (.inRegion ops (i::rest)::k)) cs) cases bl sh w' (evs P b.fn (execOp a.eval o) w):=by
 have hk':(b.kind==CallKind.early)=false:=by simpa using hk
 rw[jgm ho hw hd];simp[stepG.apply,hr,G,Frame.atR,hk',GStep.after,evs]
theorem jrZ{ops:Array Oper}{i:Nat}{rest:List Nat}{o:Oper}{d:Deferred}{w':World}{f:Fn}{c:Array Value}(ho:ops[i]? =some o)(hw:Region.wanted o (yielded ops a.tmps)=true)(hd:∀c,o.op≠.defer c)
  (hk:b.kind≠.early) (hr:(execOp a.eval o).run P w=.ok (.spawn d) w') (ht:d.target=.fn f c):
  stepG P main (G (b.atR a (.inRegion ops (i::rest)::k)) cs) w=.spawn (G (b.atR (a.put o.dst undef) (.inRegion ops rest::k)) cs) (born P d) w' (evs P b.fn (execOp a.eval o) w):=by
 have hfin:(b.atR a (.inRegion ops (i::rest)::k)).finish undef=b.atR (a.put o.dst undef) (.inRegion ops rest::k):=by rw[Frame.finish_atR,ho];rfl
 have hk':(b.kind==CallKind.early)=false:=by simpa using hk
 rw[jgm ho hw hd,<-hfin];simp[stepG.apply,hr,G,Frame.atR,hk',GStep.after,evs,born,ht]
theorem jmy{ops:Array Oper}{i:Nat}{rest:List Nat}{o:Oper}(ho:ops[i]? =some o)(hw:Region.wanted o (yielded ops a.tmps)=false):
  stepG P main (G (b.atR a (.inRegion ops (i::rest)::k)) cs) w=.go (G (b.atR (a.put o.dst undef) (.inRegion ops rest::k)) cs) w #[]:=by
 have hfin:(b.atR a (.inRegion ops (i::rest)::k)).finish undef=b.atR (a.put o.dst undef) (.inRegion ops rest::k):=by rw[Frame.finish_atR,ho];rfl
 rw[<-hfin];simp[G,stepG,stepG.exec,Frame.atR,ho,hw]
theorem jgX{g:Operand}{ps:Array Tmp}{assign body:Code}{l:Nat}{mark:List Deferred}{w₁ w₁' w₂:World}{d:Deferred}{f:FuncId}{args:Array Value}(hk:b.kind≠.early)
  (he:(Instr.enterLoop b.fn a.tmps ps assign body b.roundOf).run P w=.ok (l,mark) w₁)
  (hres:(resolve a.eval (rangeCall g l) 0).run P w₁=.ok d w₁') (hinv:(invoke d.target d.args).run P w₁'=.ok (.enter f args) w₂):
  ∃es,stepG P main (G (b.atR a (.code (.rangeFunc g ps assign body)::k)) cs) w=.go (G (Frame.enter P f args .normal) (b.atR {a with defers:=mark++a.defers} (.inRangeFunc l::k)::cs)) w₂ es/\
   ∀e∈es,e∈(Instr.enterLoop b.fn a.tmps ps assign body b.roundOf).events P w #[]\/e∈(invoke d.target d.args).events P w₁' ((resolve a.eval (rangeCall g l) 0).events P w₁ #[]):=by
 have hk':(b.kind==CallKind.early)=false:=by simpa using hk
 have hev:=Frame.eval_atR b {a with defers:=mark++a.defers} (.inRangeFunc l::k);simp only[Frame.atR]at hev;have hres':Sem.run P (resolve ({tmps:=a.tmps,defers:=mark++a.defers}:Act).eval {callee:=.value g,args:= #[.const (.func (.yield l) #[] #[])],argTypes:= #[]} 0) w₁=.ok d w₁':=hres;refine⟨seen P b.fn ((Instr.enterLoop b.fn a.tmps ps assign body b.roundOf).events P w #[])++seen P b.fn ((invoke d.target d.args).events P w₁' ((resolve a.eval (rangeCall g l) 0).events P w₁ #[])),?_,fun e he=>?_⟩
 ·simp[G,stepG,stepG.exec,Frame.atR,Sem.runT_eq,he,GStep.after,stepG.apply,hev,Sem.run_bind,hres',hinv,Result.andThen,hk'];rfl
 ·rcases Array.mem_append.1 he with h|h
  ·exact .inl (mem_seen h)
  ·exact .inr (mem_seen h)
theorem jhV{l:Nat}{jump:Option Code}{w':World}(h:(Instr.endLoop l).run P w=.ok jump w'):
  stepG P main (G (b.atR a (.endRangeFunc l::k)) cs) w=.go (G (b.atR a ((jump.map Item.code).toList++k)) cs) w' (seen P b.fn ((Instr.endLoop l).events P w #[])):=by
 simp[G,stepG,stepG.exec,Frame.atR,Sem.runT_eq,h,GStep.after]
theorem jj4{l:Nat}{w':World}(hl:b.roundOf=some l)(hk:b.kind≠.early)(h:(Instr.beginRound l).run P w=.ok () w'):
  stepG P main (G (b.atR a (.beginRound::k)) cs) w=.go (G (b.atR a k) cs) w' (seen P b.fn ((Instr.beginRound l).events P w #[])):=by
 have hk':(b.kind==CallKind.early)=false:=by simpa using hk
 simp[G,stepG,stepG.exec,Frame.atR,hl,stepG.apply,Sem.run_bind,h,Result.andThen,hk',GStep.after,Frame.finish]
theorem jlh{l:Nat}{v:Value}{w':World}{c:Frame}(hl:b.roundOf=some l)(hn:b.kind=.normal)(h:(Instr.endRound l none).run P w=.ok v w'):
  stepG P main (G (b.atR a []) (c::cs)) w=.go (G (c.finish v) cs) w' (seen P b.fn ((Instr.endRound l none).events P w #[])):=by
 simp[G,stepG,stepG.exec,Frame.atR,hl,Sem.runT_eq,h,GStep.after,doReturn,hn]
theorem jli{l:Nat}{v:Value}{w':World}{c:Frame}(hl:b.roundOf=some l)(hn:b.kind=.normal)(h:(Instr.endRound l (some .ret)).run P w=.ok v w'):
  stepG P main (G (b.atR a (.code .ret::k)) (c::cs)) w=.go (G (c.finish v) cs) w' (seen P b.fn ((Instr.endRound l (some .ret)).events P w #[])):=by
 simp[G,stepG,stepG.exec,Frame.atR,hl,Sem.runT_eq,h,GStep.after,doReturn,hn]
theorem jj5{l id:Nat}{v:Value}{w':World}{c:Frame}(hl:b.roundOf=some l)(hn:b.kind=.normal)(hk:exitTo id k=none)(h:(Instr.endRound l (some (.exit id))).run P w=.ok v w'):
  stepG P main (G (b.atR a (.code (.exit id)::k)) (c::cs)) w=.go (G (c.finish v) cs) w' (seen P b.fn ((Instr.endRound l (some (.exit id))).events P w #[])):=by
 simp[G,stepG,stepG.exec,Frame.atR,hl,hk,Sem.runT_eq,h,GStep.after,doReturn,hn]
variable {fr : Frame}
theorem jlj{d:Deferred}{r:Nat}{ds calls:List Deferred}{w':World}(hm:fr.mode=.returning)(hd:fr.defers=d::ds)(ht:d.target=.collected r)(hk:(Instr.takeDeferred r).run P w=.ok calls w'):
  stepG P main (G fr cs) w=.go (G {fr with defers:=calls++ds} cs) w' (seen P fr.fn ((Instr.takeDeferred r).events P w #[])):=by
 obtain⟨t,ar⟩:=d;simp only at ht;subst ht;simp[G,stepG,unwind,hm,hd,Sem.runT_eq,hk,GStep.after]
theorem jr0{fn:Func}{c:Frame}{v:Value}(hm:fr.mode=.returning)(hn:fr.kind=.normal)(hd:fr.defers=[])(hf:P.funcs[fr.fn]? =some fn)(hr:(results fn fr.tmps).run P w=.ok v w):
  stepG P main (G fr (c::cs)) w=.go (G (c.finish v) cs) w (seen P fr.fn ((results fn fr.tmps).events P w #[])):=by
 simp[G,stepG,unwind,doReturn,hm,hn,hd,hf,hr,Sem.runT_eq,GStep.after]
theorem jtE{fn:Func}{v:Value}(hm:fr.mode=.returning)(hn:fr.kind=.normal)(hd:fr.defers=[])(hf:P.funcs[fr.fn]? =some fn)(hr:(results fn fr.tmps).run P w=.ok v w)(hi:P.inits.idxOf? fr.fn=none):
  stepG P true (G fr []) w=.ended (.done v) w (seen P fr.fn ((results fn fr.tmps).events P w #[])):=by
 simp[G,stepG,unwind,doReturn,hm,hn,hd,hf,hr,Sem.runT_eq,GStep.after,hi]
end
end Go.Ae
namespace Go.Ae
variable {C : Ctx} {w w' : World} {kp : Keep} {ops : Array Oper} {i : Nat}
open Go.Conc
def Enters(P:Program)(f:FuncId):Prop:=∀(args:Array Value) (w:World),(callFunc f args).run P w=.ok (.enter f args) w/\∀es,(callFunc f args).events P w es=es
structure LeavingJ (P:Program) (f:FuncId) (kp:Keep) (fr:Frame) (v:Value) (w:World):Prop where
 fn:fr.fn=f
 mode:fr.mode=.returning
 defers:fr.defers=[]
 kind:fr.kind=.normal
 res:∃fn,P.funcs[f]? =some fn/\∀kp1 w1,Rely kp w kp1 w1->(results fn fr.tmps).run P w1=.ok v w1/\∀e∈(results fn fr.tmps).events P w1 #[],EvIn kp1 w1.heap.size e
def Back(C:Ctx)(extra kp:Keep)(env:Env)(h:Heap)(w:World)(Post:AV->Heap->Prop)(kp':Keep)(v:Value)(w':World):Prop:=
 ∃env' r h',v=r.val C.lk env'/\Post r h'/\Rel C (kp'.or extra) env' h' w'/\KeepJ kp extra w kp' w'/\Ext h env env'/\HLe h h'/\r.bel h'.ok
def jlk(C:Ctx)(f:FuncId)(args:Array Value)(kp:Keep)(w:World)(R:Keep->Value->World->Prop):Prop:=
 ∀J,C.fam J->∀cs,(∀kp' v w' fr,R kp' v w'->LeavingJ C.P f kp' fr v w'->J kp' (G fr cs) w')->J kp (G (Frame.enter C.P f args .normal) cs) w
def jnO(C:Ctx)(l:Nat)(f:FuncId)(tmps:Array Value)(assign body:Code)(kp:Keep)(w:World)(R:Keep->Value->World->Prop):Prop:=
 ∀J,C.fam J->∀c cs,(∀kp' v w',R kp' v w'->J kp' (G (c.finish v) cs) w')->J kp (G (Frame.round l f tmps assign body .normal) (c::cs)) w
theorem jlk.mono{f:FuncId}{args:Array Value}{R R':Keep->Value->World->Prop}(h:jlk C f args kp w R)(hR:∀kp' v w',R kp' v w'->R' kp' v w'):jlk C f args kp w R':=
 fun J hJ cs k=>h J hJ cs fun kp' v w' fr hr hl=>k kp' v w' fr (hR _ _ _ hr) hl
theorem jnO.mono{l:Nat}{f:FuncId}{tmps:Array Value}{assign body:Code}{R R':Keep->Value->World->Prop}(h:jnO C l f tmps assign body kp w R)(hR:∀kp' v w',R kp' v w'->R' kp' v w'):jnO C l f tmps assign body kp w R':=
 fun J hJ c cs k=>h J hJ c cs fun kp' v w' hr=>k kp' v w' (hR _ _ _ hr)
def ACalls(C:Ctx)(g:Nat)(args:List AV)(h:Heap)(Post:AV->Heap->Prop):Prop:=
 Enters C.P (C.lk g)/\∀extra kp env w,Rel C (kp.or extra) env h w->(∀v∈args,v.bel h.ok)->jlk C (C.lk g) (args.map (AV.val C.lk env)).toArray kp w (Back C extra kp env h w Post)
def jfR(C:Ctx)(l:Nat)(args:List AV)(h:Heap)(Post:AV->Heap->Prop):Prop:=
 ∀extra kp env w,Rel C (kp.or extra) env h w->(∀v∈args,v.bel h.ok)->∃fn tmps assign body,(Instr.yield (env l).blk (args.map (AV.val C.lk env)).toArray).run C.P w=.ok (.round (env l).blk fn tmps assign body) w/\
  (∀e∈(Instr.yield (env l).blk (args.map (AV.val C.lk env)).toArray).events C.P w #[],EvIn kp w.heap.size e)/\
  jnO C (env l).blk fn tmps assign body kp w (Back C extra kp env h w Post)
def callP(C:Ctx)(f:AV)(args:List AV)(h:Heap)(Post:AV->Heap->Prop):Prop:=
 match f with
 |.func g first captured=>ACalls C g (first++args++captured) h Post
 |.yield l=>jfR C l args h Post
 |_=>False
def jeo(g:Option (Nat×Bool))(t:Nat->AV)(p q:Prop):Prop:=
 match g with
 |none=>p
 |some (s,want)=>match t s with
  |.bool c=>(c=want->p)/\(c= !want->q)
  |_=>q
def wpOp(C:Ctx)(nid:Option Nat)(o:AOper)(K:St->Prop)(st:St):Prop:=
 match o.op with
 |.call f args=>callP C (f.ev st.t) (args.map (·.ev st.t)) st.h (fun r h'=>K (St.put {st with h:=h'} o.dst r))
 |op=>match aOp nid op (·.ev st.t) st.h with
  |some (v,h')=>K (St.put {st with h:=h'} o.dst v)
  |none=>False
def wpOps(C:Ctx):List AOper->(St->Prop)->St->Prop
 |[],K,st=>K st
 |o::os,K,st=>jeo o.guard st.t (wpOp C none o (wpOps C os K) st) (wpOps C os K (st.put o.dst .undef))
def writes:ACode->List Nat
 |.region ops=>ops.filterMap (·.dst)
 |.draw _ ds=>ds.filterMap (·.o.dst)
 |.seq a b=>writes a++writes b
 |.cond _ a b=>writes a++writes b
 |.block _ c=>writes c
 |.loop c=>writes c
 |_=>[]
def mix(W:List Nat)(u t:Nat->AV):Nat->AV:=fun s=>if W.contains s then u s else t s
def thenO(K:St->Prop)(Q:Out->St->Prop):Out->St->Prop
 |.normal,st=>K st
 |o,st=>Q o st
def jcD(id:Nat)(Q:Out->St->Prop):Out->St->Prop
 |.exit id',st=>if id'=id then Q .normal st else Q (.exit id') st
 |o,st=>Q o st
def condP(v:AV)(p q:Prop):Prop:=
 match v with
 |.bool c=>(c=true->p)/\(c=false->q)
 |_=>False
def jgY(C:Ctx)(f:AV)(l:Nat)(h:Heap)(Post:AV->Heap->Prop):Prop:=
 match f with
 |.func g first captured=>ACalls C g (first++[.yield l]++captured) h Post
 |_=>False
def jfk(C:Ctx)(nt:Nat)(rd:Option Nat)(f:AV)(ps:List Nat)(assign body:ACode)(Q:Out->St->Prop)(st:St):Prop:=
 match rd with
 | none => jgY C f (st.h.size + 1) ((st.h.push (.defd true)).push (.loop { state := .ready, pend := none, t := st.t, nt, params := ps, assign, body, defers := st.h.size })) fun _ h' =>
   ∃r,h'.get (st.h.size+1)=some (.loop r)/\r.state≠.busy/\Q (r.pend.getD .normal) ⟨st.t,h'.put (st.h.size+1) (.loop {r with state:=.exhausted}),st.h.size::st.m⟩
 | some l => ∃ r0, st.h.get l = some (.loop r0) /\ jgY C f st.h.size (st.h.push (.loop { state := .ready, pend := none, t := st.t, nt, params := ps, assign, body, defers := r0.defers })) fun _ h' =>
   ∃r,h'.get st.h.size=some (.loop r)/\r.state≠.busy/\Q (r.pend.getD .normal) ⟨st.t,h'.put st.h.size (.loop {r with state:=.exhausted}),st.m⟩
def AV.ids:AV->List Nat
 |.ptr i _=>[i]
 |.slice i _ _ _=>[i]
 |.map i=>[i]
 |_=>[]
def AV.rids:AV->List Nat
 |.slice i _ _ (.unk _)=>[i]
 |_=>[]
def jhm(f:AV)(args:List AV):List AV:=
 match f with
 |.func _ first captured=>first++args++captured
 |_=>args
def gOn(g:Option (Nat×Bool))(t:Nat->AV):Bool:=
 match g with
 |none=>true
 |some (s,want)=>match t s with
  |.bool c=>c==want
  |_=>false
def footA(op:AOp)(ev:AOpd->AV)(n:Nat):List Nat:=
 match op with
 |.load _ _ x|.store _ x _=>(ev x).ids
 |.slice _ x _ _ _=>(ev x).rids
 |.append _ _ s x=>(ev s).ids++(ev x).ids++[n]
 |.appendMake _ _ s _=>(ev s).ids++[n]
 |.copy _ d s=>(ev d).ids++(ev s).ids
 |.lookup _ _ _ m _|.mapUpd _ m _ _=>(ev m).ids
 |.alloc .. |.box .. |.buildSlice .. |.makeSlice .. |.makeMap|.makeChan=>[n]
 |_=>[]
def wrA(op:AOp)(ev:AOpd->AV)(n:Nat):List Nat:=
 match op with
 |.store _ x _=>(ev x).ids
 |.append _ _ s _|.appendMake _ _ s _=>(ev s).ids++[n]
 |.copy _ d _=>(ev d).ids
 |.mapUpd _ m _ _=>(ev m).ids
 |.alloc .. |.box .. |.buildSlice .. |.makeSlice .. |.makeMap|.makeChan=>[n]
 |_=>[]
abbrev Acc:=List (Nat×List Nat×List Nat)
def chkP(acc:Acc)(ck:List Nat)(op:AOp)(ev:AOpd->AV)(n:Nat):Prop:=
 ∀e∈acc,e.1∈ck->(∀a∈e.2.1,a∉wrA op ev n)/\(∀a∈e.2.2,a∉footA op ev n)
def chkS(acc:Acc)(ck:List Nat)(h h':Heap):Prop:=∀e∈acc,e.1∈ck->∀i∈e.2.1,h'.get i=h.get i
def jbK(d:DItem)(ev:AOpd->AV)(n:Nat)(acc:Acc):Acc:=if d.mem then(d.k,footA d.o.op ev n,wrA d.o.op ev n)::acc else acc
def stepD(C:Ctx)(base:Nat)(d:DItem)(acc:Acc)(K:Acc->St->Prop)(st:St):Prop:=
 jeo d.o.guard st.t
  (match d.o.op with
   |.call f args=>callP C (f.ev st.t) (args.map (·.ev st.t)) st.h (fun r h'=>chkS acc d.ck st.h h'/\K acc (St.put {st with h:=h'} d.o.dst r))
   |op=>chkP acc d.ck op (·.ev st.t) (base+d.k)/\match aOp (some (base+d.k)) op (·.ev st.t) st.h with
    |some (v,h')=>K (jbK d (·.ev st.t) (base+d.k) acc) (St.put {st with h:=h'} d.o.dst v)
    |none=>False)
  (K acc (st.put d.o.dst .undef))
def wpD(C:Ctx)(base:Nat):List DItem->Acc->(St->Prop)->St->Prop
 |[],_,K,st=>K st
 |d::ds,acc,K,st=>stepD C base d acc (fun acc' st'=>wpD C base ds acc' K st') st
def jhW(C:Ctx)(n:Nat)(ds:List DItem)(K:St->Prop)(st:St):Prop:=wpD C st.h.size ds [] K (if n=0 then st else{st with h:=st.h.reserve n})
def wp(C:Ctx)(nt:Nat)(rd:Option Nat):ACode->(Out->St->Prop)->St->Prop
 |.skip,Q,st=>Q .normal st
 |.region ops,Q,st=>wpOps C ops (Q .normal) st
 |.draw n ds,Q,st=>jhW C n ds (Q .normal) st
 |.seq a b,Q,st=>wp C nt rd a (thenO (wp C nt rd b Q) Q) st
 |.cond c a b,Q,st=>condP (c.ev st.t) (wp C nt rd a Q st) (wp C nt rd b Q st)
 |.block id c,Q,st=>wp C nt rd c (jcD id Q) st
 | .loop c, Q, st => ∃ (I : (Nat -> AV) -> Heap -> List Nat -> Prop) (μ : (Nat -> AV) -> Heap -> List Nat -> Nat), I st.t st.h st.m /\
   ∀u h' m',HLe st.h h'->I (mix (writes c) u st.t) h' m'->
    wp C nt rd c (thenO (fun st'=>I st'.t st'.h st'.m/\μ st'.t st'.h st'.m<μ (mix (writes c) u st.t) h' m') Q) ⟨mix (writes c) u st.t,h',m'⟩
 |.rangeFunc f ps a b,Q,st=>jfk C nt rd (f.ev st.t) ps a b Q st
 |.exit id,Q,st=>Q (.exit id) st
 |.ret,Q,st=>Q .ret st
 |.refuse _,_,_=>False
structure Sim (C:Ctx) (keep:Keep) (nt:Nat) (env:Env) (st:St) (a:Act) (w:World):Prop where
 size:a.tmps.size=nt
 tmps:∀s,a.tmps.getD s undef=(st.t s).val C.lk env
 bel:∀s,(st.t s).bel st.h.ok
 defers:a.defers=st.m.map fun i=>{target:=.collected (env i).blk,args:= #[]}
 marks:∀i∈st.m,st.h.ok i
 rel:Rel C keep env st.h w
structure Far (C:Ctx) (extra:Keep) (nt:Nat) (kp:Keep) (env:Env) (st:St) (w:World) (kp':Keep) (env':Env) (st':St) (a':Act) (w':World):Prop where
 sim:Sim C (kp'.or extra) nt env' st' a' w'
 keepJ:KeepJ kp extra w kp' w'
 ext:Ext st.h env env'
 grow:HGrow st.h st'.h
section
variable {C : Ctx} {extra kp kp1 : Keep} {nt : Nat} {env : Env} {h : Heap} {st : St} {a : Act} {w w1 : World}
theorem kaC(S:Sim C (kp.or extra) nt env st a w):Far C extra nt kp env st w kp env st a w:=
 ⟨S,kaI _ _ _,kam _ _,kay _⟩
theorem Far.trans{kp2:Keep}{env1 env2:Env}{st1 st2:St}{a1 a2:Act}{w1 w2:World}(F:Far C extra nt kp env st w kp1 env1 st1 a1 w1)(G:Far C extra nt kp1 env1 st1 w1 kp2 env2 st2 a2 w2):Far C extra nt kp env st w kp2 env2 st2 a2 w2:=
 ⟨G.sim,F.keepJ.trans G.keepJ,F.ext.trans' F.grow G.ext,F.grow.trans G.grow⟩
theorem Rel.rely(R:Rel C (kp.or extra) env h w)(r:Rely kp w kp1 w1):Rel C (kp1.or extra) env h w1:=by
 have out:∀{p:Nat->Prop} {q:Nat},q<w.heap.size->(p q\/(w.heap.size<=q/\q<w1.heap.size))->p q:=fun hq x=>x.elim id fun y=>by omega
 refine⟨fun i b hi=>Nat.lt_of_lt_of_le (R.lt i b hi) r.size,fun i b hi=>?_,R.disj,R.bel,fun i b hi hw x=>?_,fun q x=>?_,fun i b hi hd x=>?_,fun q x=>?_⟩
 ·by_cases hd:b=.dead
  ·subst hd;trivial
  ·exact(R.blk i b hi).mono (kam h env) (R.bel i b hi) (r.row _ (R.lt i b hi) fun x=>R.hid i b hi hd (.inl x))
 ·refine R.kept i b hi hw ?_;rcases x with x|x
  ·rw[r.eq]at x;exact .inl (out (R.lt i b hi) x)
  ·exact .inr x
 ·rcases x with x|x
  ·rw[r.eq]at x;rcases x with x|x
   ·exact Nat.lt_of_lt_of_le (R.keepLt q (.inl x)) r.size
   ·exact x.2
  ·exact Nat.lt_of_lt_of_le (R.keepLt q (.inr x)) r.size
 ·refine R.hid i b hi hd ?_;rcases x with x|x
  ·rw[r.eq]at x;exact .inl (out (R.lt i b hi) x)
  ·exact .inr x
 ·rcases x with x|x
  ·rw[r.eq]at x;rcases x with x|x
   ·exact Nat.lt_of_lt_of_le (R.hidLt q (.inl x)) r.size
   ·exact x.2
  ·exact Nat.lt_of_lt_of_le (R.hidLt q (.inr x)) r.size
theorem Sim.rely(S:Sim C (kp.or extra) nt env st a w)(r:Rely kp w kp1 w1):Sim C (kp1.or extra) nt env st a w1:=⟨S.size,S.tmps,S.bel,S.defers,S.marks,S.rel.rely r⟩
theorem kbo(S:Sim C (kp.or extra) nt env st a w)(r:Rely kp w kp1 w1):Far C extra nt kp env st w kp1 env st a w1:=⟨S.rely r,r.keepJ extra,kam _ _,kay _⟩
end
section
variable {C : Ctx} {extra kp : Keep} {keep : Keep} {nt : Nat} {env : Env} {st : St} {a : Act} {w : World}
theorem jnP(t:Array Value)(d s:Nat)(v x:Value)(hd:d<t.size):(t.setIfInBounds d v).getD s x=if s=d then v else t.getD s x:=by
 simp only[Array.getD_eq_getD_getElem?,Array.getElem?_setIfInBounds];by_cases e:s=d
 ·subst e;simp[hd]
 ·rw[if_neg (fun x=>e x.symm),if_neg e]
theorem Sim.opd(S:Sim C keep nt env st a w):∀x ax,lowerOpd C.inv x=some ax->a.eval x=(ax.ev st.t).val C.lk env/\(ax.ev st.t).bel st.h.ok:=
 fun x ax hx=>jjQ x ax hx st.t a S.tmps S.bel
theorem Sim.put'(S:Sim C keep nt env st a w){keep':Keep}{d:Option Nat}(hd:dstOk nt d=true){env':Env}{h':Heap}{w':World}{v:AV}(R:Rel C keep' env' h' w')(X:Ext st.h env env')(G:HGrow st.h h')(hv:v.bel h'.ok):
  Sim C keep' nt env' (St.put {st with h:=h'} d v) (a.put d (v.val C.lk env')) w':=by
 have hbel:∀s,(st.t s).bel h'.ok:=fun s=>bel_mono (fun i hi=>G.same i hi) _ (S.bel s);have hval:∀s,(st.t s).val C.lk env'=(st.t s).val C.lk env:=fun s=>X.val (S.bel s);have hdef:a.defers=st.m.map fun i=>{target:=.collected (env' i).blk,args:= #[]}:=by
  rw[S.defers];refine List.map_congr_left fun i hi=>?_;rw[X i (S.marks i hi)]
 cases d with
 |none=>exact⟨S.size,fun s=>(S.tmps s).trans (hval s).symm,hbel,hdef,fun i hi=>G.same i (S.marks i hi),R⟩
 | some d =>
  have hlt:d<nt:=by simpa[dstOk]using hd
  refine⟨?_,fun s=>?_,fun s=>?_,hdef,fun i hi=>G.same i (S.marks i hi),R⟩
  ·simp[Act.put,S.size]
  ·simp only[Act.put,St.put,upd];rw[jnP _ _ _ _ _ (by rw[S.size];exact hlt)];by_cases e:s=d
   ·rw[if_pos e,if_pos e]
   ·rw[if_neg e,if_neg e,S.tmps s,hval s]
  ·simp only[St.put,upd];by_cases e:s=d
   ·rw[if_pos e];exact hv
   ·rw[if_neg e];exact hbel s
theorem Sim.put(S:Sim C (kp.or extra) nt env st a w){kp':Keep}{d:Option Nat}(hd:dstOk nt d=true){env':Env}{h':Heap}{w':World}{v:AV}(R:Rel C (kp'.or extra) env' h' w')(K:KeepJ kp extra w kp' w')(X:Ext st.h env env')(G:HGrow st.h h')(hv:v.bel h'.ok):
  Far C extra nt kp env st w kp' env' (St.put {st with h:=h'} d v) (a.put d (v.val C.lk env')) w':=by
 refine⟨S.put' hd R X G hv,K,X,?_⟩;cases d<;>exact G
def OpJ(C:Ctx)(ro:Option Nat)(ops:Array Oper)(i:Nat)(K:Keep->Act->World->Prop)(kp:Keep)(a:Act)(w:World):Prop:=
 ∀J,C.fam J->∀(b:Frame) (rest:List Nat) (k:List Item) (cs:List Frame),b.roundOf=ro->b.kind≠.early->(∀kp' a' w',K kp' a' w'->J kp' (G (b.atR a' (.inRegion ops rest::k)) cs) w')->J kp (G (b.atR a (.inRegion ops (i::rest)::k)) cs) w
theorem OpJ.mono{ro:Option Nat}{K K':Keep->Act->World->Prop}(h:OpJ C ro ops i K kp a w)(hK:∀kp' a' w',K kp' a' w'->K' kp' a' w'):OpJ C ro ops i K' kp a w:=
 fun J hJ b rest k cs hro hb hk=>h J hJ b rest k cs hro hb fun kp' a' w' x=>hk kp' a' w' (hK _ _ _ x)
theorem jr1{o:Oper}{aop:AOp}(hl:lowerOp C.P C.inv o.op=some aop):∀c,o.op≠.defer c:=by
 intro c e;rw[e]at hl;simp[lowerOp]at hl
theorem jhX{ro:Option Nat}{o:Oper}(ho:ops[i]? =some o)(hw:Region.wanted o (yielded ops a.tmps)=false){K:Keep->Act->World->Prop}(hK:K kp (a.put o.dst undef) w):OpJ C ro ops i K kp a w:=
 fun J hJ b rest k cs hro hb hk=>(C.closed J hJ).ctl rfl rfl (fun w=>jmy ho hw) (hk _ _ _ hK)
theorem jgn{J:Keep->Goroutine->World->Prop}(hJ:C.fam J){f:FuncId}{kp':Keep}{v:Value}{fr c:Frame}{cs:List Frame}(hl:LeavingJ C.P f kp' fr v w')(hk:J kp' (G (c.finish v) cs) w'):J kp' (G fr (c::cs)) w':=by
 obtain⟨fn,hf,hr⟩:=hl.res;refine(C.closed J hJ).go rfl fun kp1 w1 r=>?_;obtain⟨h1,h2⟩:=hr kp1 w1 r;exact⟨_,_,_,jr0 hl.mode hl.kind hl.defers (by rw[hl.fn];exact hf) h1,rfl,kaz _ _,fun e he=>h2 e (mem_seen he),(C.closed J hJ).rely hk r⟩
theorem jfS(S:Sim C (kp.or extra) nt env st a w)(ro:Option Nat){ops:Array Oper}{i:Nat}{o:Oper}(ho:ops[i]? =some o)(hw:Region.wanted o (yielded ops a.tmps)=true){ao:AOper}(ha:jar C.P C.inv nt ops o=ao){nid:Option Nat}{K:St->Prop}(hK:wpOp C nid ao K st):
  OpJ C ro ops i (fun kp' a' w'=>∃env' st',Far C extra nt kp env st w kp' env' st' a' w'/\(∀s,ao.dst≠some s->st'.t s=st.t s)/\(∀i,i<st.h.size->nid≠some i->(st'.h.get i).isSome=(st.h.get i).isSome)/\K st') kp a w:=by
 unfold jar at ha;split at ha
 ·rename_i aop g h1 h2 h3;subst ha;have hput:∀(h':Heap) (v:AV) s,o.dst≠some s->(St.put {st with h:=h'} o.dst v).t s=st.t s:=by
   intro h' v s hs;cases hd:o.dst with
   |none=>rfl
   |some d=>
    simp only[St.put,upd];rw[if_neg];intro e;subst e;exact hs hd
  have hph:∀(h':Heap) (v:AV),(St.put {st with h:=h'} o.dst v).h=h':=fun h' v=>by cases o.dst<;>rfl
  intro J hJ b rest k cs hro hb hk;have hnd:=jr1 h1;have simple:(∀f args,aop≠.call f args)->wpOp C nid {dst:=o.dst,op:=aop,guard:=g} K st->J kp (G (b.atR a (.inRegion ops (i::rest)::k)) cs) w:=by
   intro hne hK;have hK':match aOp nid aop (·.ev st.t) st.h with|some (v,h')=>K (St.put {st with h:=h'} o.dst v)|none=>False:=by
    unfold wpOp at hK;dsimp only at hK;split at hK
    ·exact absurd rfl (hne _ _)
    ·exact hK
   cases hv:aOp nid aop (·.ev st.t) st.h with
   |none=>rw[hv]at hK';exact hK'.elim
   |some p=>
    obtain⟨v,h'⟩:=p;rw[hv]at hK';refine(C.closed J hJ).go rfl fun kp1 w1 r=>?_;have S1:=S.rely r;obtain⟨env',w',V,hrun,hV,hR,hW,hX,hG,hS,hB⟩:=jhM S1.rel S1.opd (fun _=>rfl) h1 hv;have hev:=jpV S1.rel S1.opd (fun _=>rfl) h1 hv hrun;have F:=(kbo S r).trans (S1.put (extra:=extra) h2 hR (KeepW.keepJ hW) hX hG hB);rcases hV with rfl|⟨rfl,rfl⟩
    ·exact⟨_,_,_,jrW ho hw hnd hb hrun,rfl,hW.part,fun e he=>(hev e (mem_seen he)).part,hk _ _ _ ⟨env',_,F,hput h' v,fun i hi hn=>by rw[hph];exact hS i hi hn,hK'⟩⟩
    ·exact⟨_,_,_,jtD ho hw hnd hb hrun,rfl,hW.part,fun e he=>(hev e (mem_seen he)).part,hk _ _ _ ⟨env',_,F,hput h' _,fun i hi hn=>by rw[hph];exact hS i hi hn,hK'⟩⟩
  cases aop with
  | call f args =>
   -- a call
   have hK':callP C (f.ev st.t) (args.map (·.ev st.t)) st.h (fun r h'=>K (St.put {st with h:=h'} o.dst r)):=hK;cases hop:o.op with
   | call c =>
    rw[hop]at h1;have h1':jbc C.P C.inv c=some (.call f args):=h1;unfold jbc at h1';split at h1'
    ·rename_i args' hargs;split at h1'
     ·rename_i fo hcal;simp only[Option.map_eq_some_iff]at h1';obtain⟨f',hf',he⟩:=h1';cases he;refine(C.closed J hJ).go rfl fun kp1 w1 r=>?_;have S1:=S.rely r;have q:=jba S1.opd hargs;have e1:c.args.map a.eval=((args.map (·.ev st.t)).map (AV.val C.lk env)).toArray:=by rw[<-q.1,<-jc3]
      have e2:=S1.opd fo f hf';have hfin:∀v,(b.atR a (.inRegion ops (i::rest)::k)).finish v=b.atR (a.put o.dst v) (.inRegion ops rest::k):=fun v=>by rw[Frame.finish_atR,ho];rfl
      have back:∀kp' v w',Back C extra kp1 env st.h w1 (fun r h'=>K (St.put {st with h:=h'} o.dst r)) kp' v w'->J kp' (G ((b.atR a (.inRegion ops (i::rest)::k)).finish v) cs) w':=by
       rintro kp' v w' ⟨env',rr,h',rfl,hP,hR,hW,hX,hL,hB⟩;rw[hfin];exact hk _ _ _ ⟨env',_,(kbo S r).trans (S1.put h2 hR hW hX hL.grow hB),hput h' rr,fun i hi _=>by rw[hph];exact hL.same i hi,hP⟩
      unfold callP at hK';split at hK'
      ·rename_i gg first cap hfv
       obtain⟨hent,hcall⟩:=hK';rw[hfv]at e2;have hbels:∀v∈first++args.map (·.ev st.t)++cap,v.bel st.h.ok:=by
        intro v hv;rcases List.mem_append.1 hv with hv|hv
        ·rcases List.mem_append.1 hv with hv|hv
         ·exact(ja9 _ _).1 e2.2.1 v hv
         ·exact q.2 v hv
        ·exact(ja9 _ _).1 e2.2.2 v hv
       have hc:=hcall extra kp1 env w1 S1.rel hbels;have e3:=e2.1;simp only[AV.val,jbn]at e3;have hent':=hent ((first++args.map (·.ev st.t)++cap).map (AV.val C.lk env)).toArray w1;have hrun:(execOp a.eval o).run C.P w1=.ok (.enter (C.lk gg) ((first++args.map (·.ev st.t)++cap).map (AV.val C.lk env)).toArray) w1:=by
        simp only[execOp,hop,resolve,hcal,Deferred.ofValue,e1,e3,Sem.run_bind,Sem.run_pure,Result.andThen_ok,invoke];rw[<-hent'.1];simp
       have hevs:(execOp a.eval o).events C.P w1 #[]= #[]:=by
        simp only[execOp,hop,resolve,hcal,Deferred.ofValue,e1,e3,Sem.run_bind,Sem.run_pure,Sem.events_bind,Sem.events_pure,Result.evThen_ok,invoke];have:=hent'.2 #[];simpa using this
       refine⟨_,_,_,jrX ho hw (fun c' e=>by rw[hop]at e;cases e) hb hrun,rfl,kaz _ _,fun e he=>?_,?_⟩
       ·have:=mem_seen he;rw[hevs]at this;simp at this
       ·exact hc J hJ _ fun kp' v w' fr hB hl=>jgn hJ hl (back kp' v w' hB)
      ·rename_i l hfv;rw[hfv]at e2;obtain⟨fn,tmps,assign,body,hy,hye,hR⟩:=hK' extra kp1 env w1 S1.rel q.2;have e3:=e2.1;simp only[AV.val]at e3;have hrun:(execOp a.eval o).run C.P w1=.ok (.round (env l).blk fn tmps assign body) w1:=by
        simp only[execOp,hop,resolve,hcal,Deferred.ofValue,e1,e3,Sem.run_bind,Sem.run_pure,Result.andThen_ok,invoke];rw[<-hy];simp
       have hevs:(execOp a.eval o).events C.P w1 #[]=(Instr.yield (env l).blk ((args.map (·.ev st.t)).map (AV.val C.lk env)).toArray).events C.P w1 #[]:=by
        simp only[execOp,hop,resolve,hcal,Deferred.ofValue,e1,e3,Sem.run_bind,Sem.run_pure,Sem.events_bind,Sem.events_pure,Result.evThen_ok,invoke];simp
       refine⟨_,_,_,jrY ho hw (fun c' e=>by rw[hop]at e;cases e) hb hrun,rfl,kaz _ _,fun e he=>?_,?_⟩
       ·have:=mem_seen he;rw[hevs]at this;exact hye e this
       ·exact hR J hJ _ _ back
      ·exact hK'.elim
     ·rename_i b hcal;unfold ja7 at h1'
      repeat' split at h1'
      all_goals first
       |(cases h1';done)
       |(simp only[Option.map_eq_some_iff]at h1';obtain⟨_,_,h1'⟩:=h1';cases h1';done)
     ·cases h1'
    ·cases h1'
   |makeFunc fn x y=>
    exfalso;rw[hop]at h1;cases fn<;>simp only[lowerOp]at h1;all_goals first|(cases h1;done)|((repeat' split at h1)<;>cases h1;done)
   |makeMap _ _=>exact(jbt (P:=C.P) (inv:=C.inv) (op:=o.op) (by rw[hop];rw[hop]at h1;exact h1)).elim
   |mapUpdate _ _ _ _=>exact(jbt (P:=C.P) (inv:=C.inv) (op:=o.op) (by rw[hop];rw[hop]at h1;exact h1)).elim
   |insert _ _ _ _=>exact(jbt (P:=C.P) (inv:=C.inv) (op:=o.op) (by rw[hop];rw[hop]at h1;exact h1)).elim
   |lookup _ _ _ _=>exact(jbt (P:=C.P) (inv:=C.inv) (op:=o.op) (by rw[hop];rw[hop]at h1;exact h1)).elim
   | _ =>
    exfalso;rw[hop]at h1
    first
     |(simp only[lowerOp]at h1;(repeat' split at h1)<;>first|(cases h1;done)|(simp only[Option.map_eq_some_iff]at h1;obtain⟨_,_,h1⟩:=h1;cases h1;done))
     |(unfold lowerOp at h1;simp only[jbF,jaL]at h1;(repeat' split at h1)<;>first|(cases h1;done)|(simp only[Option.map_eq_some_iff]at h1;obtain⟨_,_,h1⟩:=h1;cases h1;done))
  |_=>exact simple (by intro f args h;cases h) hK
 ·subst ha;unfold wpOp at hK;simp[aOp,pureA]at hK
end
end Go.Ae
