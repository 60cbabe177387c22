/- Texts of the proof, part 10: a second reading of the lowered code, proved sound, and what the functions compute. -/
import Derived.RangeFuncRecord
import Derived.RangeFuncSeq
import Derived.Test.YtkbkpjinekcnhaaGreatF9
set_option linter.unusedSimpArgs false
set_option linter.unusedVariables false
set_option maxRecDepth 20000
set_option maxHeartbeats 4000000
namespace Go.Ae
variable {C : Ctx} {h h' : Heap} {w : World} {env : Env} {st : St} {n k j sz g : Nat} {nid : Option Nat} {args : List AV} {P : Program}
open Go.Conc
section
variable {P : Program} {w : World} {es : Array Event}
theorem jfT{l:Nat}{r:Loop}(h:w.heap[l]? =some (.loop r)):(getObj l).events P w es=es.push ⟨.obj l,false,false⟩:=by
 simp[getObj,Sem.events,Sem.runT,h,Obj.isChan,-Sem.runT_eq]
theorem jcd{l:Nat}{r r':Loop}(h:w.heap[l]? =some (.loop r)):(setObj l (.loop r')).events P w es=es.push ⟨.obj l,true,false⟩:=by
 simp[setObj,Sem.events,Sem.runT,h,Obj.isChan,-Sem.runT_eq]
theorem jbV{l:Nat}{r:Loop}(h:w.heap[l]? =some (.loop r)):(Instr.getLoop l).events P w es=es.push ⟨.obj l,false,false⟩:=by
 simp[Instr.getLoop,Sem.events_bind,run_getObj_loop h,Result.evThen,jfT h]
theorem jgo{l:Nat}{r:Loop}(h:w.heap[l]? =some (.loop r))(hr:r.state=.ready):(Instr.beginRound l).events P w #[]= #[⟨.obj l,false,false⟩,⟨.obj l,true,false⟩]:=by
 simp[Instr.beginRound,Sem.events_bind,run_getLoop h,run_setObj_loop _ h,Result.evThen,jbV h,jcd h,hr]
theorem jh0{l:Nat}{r:Loop}(jump:Option Code)(h:w.heap[l]? =some (.loop r)):(Instr.endRound l jump).events P w #[]= #[⟨.obj l,false,false⟩,⟨.obj l,true,false⟩]:=by
 simp[Instr.endRound,Sem.events_bind,run_getLoop h,run_setObj_loop _ h,Result.evThen,jbV h,jcd h]
theorem ji0{l:Nat}{r:Loop}(h:w.heap[l]? =some (.loop r))(hb:r.state≠.busy):(Instr.endLoop l).events P w #[]= #[⟨.obj l,false,false⟩,⟨.obj l,true,false⟩]:=by
 simp[Instr.endLoop,Sem.events_bind,run_getLoop h,run_setObj_loop _ h,Result.evThen,jbV h,jcd h,hb]
theorem jlm{l:Nat}{r:Loop}{args:Array Value}(h:w.heap[l]? =some (.loop r))(hs:args.size=r.params.size):(Instr.yield l args).events P w #[]= #[⟨.obj l,false,false⟩]:=by
 simp[Instr.yield,Sem.events_bind,run_getLoop h,Result.evThen,jbV h,hs]
theorem ji1{b:Nat}{o:Option (List Deferred)}(h:w.heap[b]? =some (.deferred o)):(getObj b).run P w=.ok (.deferred o) w:=by simp[getObj,Sem.run,h]
theorem jgp{b:Nat}{o:Option (List Deferred)}(h:w.heap[b]? =some (.deferred o)):(getObj b).events P w es=es.push ⟨.obj b,false,false⟩:=by
 simp[getObj,Sem.events,Sem.runT,h,Obj.isChan,-Sem.runT_eq]
theorem ji2{b:Nat}{o o':Option (List Deferred)}(h:w.heap[b]? =some (.deferred o)):(setObj b (.deferred o')).run P w=.ok () (w.putObj b (.deferred o')):=by simp[setObj,Sem.run,h,World.putObj]
theorem jgq{b:Nat}{o o':Option (List Deferred)}(h:w.heap[b]? =some (.deferred o)):(setObj b (.deferred o')).events P w es=es.push ⟨.obj b,true,false⟩:=by
 simp[setObj,Sem.events,Sem.runT,h,Obj.isChan,-Sem.runT_eq]
theorem jfm{b:Nat}{ds:List Deferred}(h:w.heap[b]? =some (.deferred (some ds))):(Instr.takeDeferred b).events P w #[]= #[⟨.obj b,false,false⟩,⟨.obj b,true,false⟩]:=by
 simp only[Instr.takeDeferred,Sem.events_bind,ji1 h,jgp h,Result.evThen,ji2 h,jgq h,Sem.events_pure];rfl
theorem jeq(fn:FuncId)(tmps:Array Value)(ps:Array Tmp)(assign body:Code):(Instr.enterLoop fn tmps ps assign body none).events P w #[]= #[]:=by
 simp[Instr.enterLoop,Sem.events_bind,Result.evThen,run_newObj_alloc]
theorem jer{l:Nat}{r:Loop}(fn:FuncId)(tmps:Array Value)(ps:Array Tmp)(assign body:Code)(h:w.heap[l]? =some (.loop r)):(Instr.enterLoop fn tmps ps assign body (some l)).events P w #[]= #[⟨.obj l,false,false⟩]:=by
 simp[Instr.enterLoop,Sem.events_bind,Result.evThen,run_newObj_alloc,run_getLoop h,jbV h]
theorem kbd{keep:Keep}{B l:Nat}(hB:l<B)(hh:¬keep.hide l):∀e∈(#[⟨.obj l,false,false⟩]:Array Event),EvIn keep B e:=by
 intro e he;simp at he;subst he;exact .inl ⟨rfl,rfl,hB,hh,by simp⟩
theorem kbf{keep:Keep}{B l:Nat}(hB:l<B)(hh:¬keep.hide l)(hn:¬keep.no l):∀e∈(#[⟨.obj l,false,false⟩,⟨.obj l,true,false⟩]:Array Event),EvIn keep B e:=by
 intro e he;simp at he;rcases he with rfl|rfl
 ·exact .inl ⟨rfl,rfl,hB,hh,by simp⟩
 ·exact .inl ⟨rfl,rfl,hB,hh,fun _=>hn⟩
end
section
variable {C : Ctx} {extra kp kp1 kp2 : Keep} {keep : Keep} {nt : Nat}
theorem jgr{env:Env}{h:Heap}{w:World}(R:Rel C keep env h w){i:Nat}{r:ALoop}(hi:h.get i=some (.loop r))(s:LoopState)(pend:Option Out)(hp:pend≠some .normal):
  ∃r':Loop,w.heap[(env i).blk]? =some (.loop r')/\r'.state=r.state/\r'.pending=r.pend.bind kau/\
   Rel C keep env (h.put i (.loop {r with state:=s,pend:=pend})) (w.putObj (env i).blk (.loop {r' with state:=s,pending:=pend.bind kau}))/\
   KeepW keep w (w.putObj (env i).blk (.loop {r' with state:=s,pending:=pend.bind kau})):=by
 obtain⟨fn,tmps,params,assign,body,h1,h2,h3,h4,h5,h6,h7,h8⟩:=R.blk i _ hi;refine⟨_,h1,rfl,rfl,?_⟩;refine R.write hi rfl rfl rfl rfl (by simp) (fun q hq=>World.putObj_heap_other hq) (show ABlk.bel h.ok (.loop r)from R.bel i _ hi) ?_;exact⟨fn,tmps,params,assign,body,World.putObj_heap_same (R.lt i _ hi),h2,h3,h4,h5,h6,h7,hp⟩
theorem jh1(R:Rel C (kp.or extra) env h w){i:Nat}{r:ALoop}(hi:h.get i=some (.loop r)){B:Nat}(hB:w.heap.size<=B):∀e∈(#[⟨.obj (env i).blk,false,false⟩,⟨.obj (env i).blk,true,false⟩]:Array Event),EvIn kp B e:=
 kbf (Nat.lt_of_lt_of_le (R.lt i _ hi) hB) (fun x=>R.hid i _ hi (by simp) (.inl x)) (fun x=>R.kept i _ hi rfl (.inl x))
theorem jjj{J:Keep->Goroutine->World->Prop}(hJ:C.fam J){b:Frame}{k:List Item}{cs:List Frame}{env env2:Env}{st:St}{a:Act}{w w2:World}(S:Sim C (kp.or extra) nt env st a w){h2:Heap}(hh2:HLe st.h h2)(X2:Ext st.h env env2)(K2:KeepJ kp extra w kp2 w2){l:Nat}(hl:h2.ok l){ms:List Nat}{mark:List Deferred}
  (hmark:mark=ms.map fun i=>{target:=.collected (env2 i).blk,args:= #[]}) (hms:∀i∈ms,h2.ok i) {Q:Out->St->Prop} {lb:Nat} (hlb:lb=(env2 l).blk)
  (hk:∀o kp' a' w',Reached C extra nt kp env st w [] Q o kp' a' w'->jp1 J b k cs o kp' a' w'):
  ∀kp' v w',Back C extra kp2 env2 h2 w2 (fun _ h'=>∃r,h'.get l=some (.loop r)/\r.state≠.busy/\Q (r.pend.getD .normal) ⟨st.t,h'.put l (.loop {r with state:=.exhausted}),ms++st.m⟩) kp' v w'->
   J kp' (G (b.atR {a with defers:=mark++a.defers} (.endRangeFunc lb::k)) cs) w':=by
 subst hlb;rintro kp3 v w3 ⟨env3,rv,h3,rfl,⟨r,hr,hbusy,hQ⟩,R3,K3,X3,L3,hB⟩;refine(C.closed J hJ).go rfl fun kp4 w4 r4=>?_;have R4:=R3.rely r4;have hle:=R4.blk l _ hr;have hpend:r.pend≠some .normal:=by
  obtain⟨fn,tmps,params,assign,body,_,_,_,_,_,_,_,h8⟩:=hle;exact h8
 obtain⟨r',hr1,hr2,hr3,R5,K5⟩:=jgr R4 hr .exhausted r.pend hpend;have hev:=jh1 R4 hr (Nat.le_of_eq (World.putObj_size (w:=w4) (r:=(env3 l).blk) (o:=.loop {r' with state:=.exhausted,pending:=r.pend.bind kau})).symm);have hble:(env3 l).blk=(env2 l).blk:=by rw[X3 l hl]
 rw[hble]at hr1 R5 K5 hev;have hend:=run_endLoop (P:=C.P) (w:=w4) hr1 (by rw[hr2];exact hbusy);have hende:=ji0 (P:=C.P) (w:=w4) hr1 (by rw[hr2];exact hbusy);rw[<-hr3]at R5 K5 hev;generalize hW:w4.putObj (env2 l).blk (.loop {r' with state:=.exhausted})=W4 at hend R5 K5 hev;refine⟨_,W4,_,jhV hend,rfl,K5.part,fun e he=>?_,?_⟩
 ·have:=mem_seen he;rw[hende]at this;exact hev e this
 clear hend hW hev hende;have hput:HLe h3 (h3.put l (.loop {r with state:=.exhausted,pend:=r.pend})):=jds hr;have hall:HLe st.h (h3.put l (.loop {r with state:=.exhausted,pend:=r.pend})):=(hh2.trans L3).trans hput;have X:Ext st.h env env3:=X2.trans hh2 X3;have F:Far C extra nt kp env st w kp4 env3 ⟨st.t,h3.put l (.loop {r with state:=.exhausted}),ms++st.m⟩ {a with defers:=mark++a.defers} W4:=by
  refine⟨⟨S.size,fun s=>?_,fun s=>bel_mono (fun i hi=>hall.ok hi) _ (S.bel s),?_,?_,R5⟩,((K2.trans K3).trans (r4.keepJ extra)).trans K5.keepJ,X,hall.grow⟩
  ·rw[S.tmps s,X.val (S.bel s)]
  ·simp only[List.map_append];rw[hmark,S.defers];congr 1
   ·refine List.map_congr_left fun i hi=>?_;rw[X3 i (hms i hi)]
   ·refine List.map_congr_left fun i hi=>?_;rw[X i (S.marks i hi)]
  ·intro i hi;rcases List.mem_append.1 hi with hi|hi
   ·exact(L3.trans hput).ok (hms i hi)
   ·exact hall.ok (S.marks i hi)
 have reach:∀o,r.pend.getD .normal=o->Reached C extra nt kp env st w [] Q o kp4 {a with defers:=mark++a.defers} W4:=by
  intro o ho;subst ho;exact⟨env3,_,F,fun _ _=>rfl,hall,hQ⟩
 rw[hr3];cases hp:r.pend with
 |none=>exact hk _ _ _ _ (reach .normal (by rw[hp];rfl))
 |some o=>
  cases o with
  |normal=>exact absurd hp hpend
  |exit id=>exact hk _ _ _ _ (reach (.exit id) (by rw[hp];rfl)) k rfl
  |ret=>exact hk _ _ _ _ (reach .ret (by rw[hp];rfl)) k
theorem jjk{env env2:Env}{st:St}{a:Act}{w w2:World}(S:Sim C keep nt env st a w){g:Operand}{g':AOpd}(hg:lowerOpd C.inv g=some g'){h2:Heap}(hh2:HLe st.h h2)(X2:Ext st.h env env2)(R2:Rel C (kp2.or extra) env2 h2 w2){l:Nat}(hl:h2.ok l){Post:AV->Heap->Prop}
  (hP:jgY C (g'.ev st.t) l h2 Post):∃d f args,(resolve a.eval (rangeCall g (env2 l).blk) 0).run C.P w2=.ok d w2/\(invoke d.target d.args).run C.P w2=.ok (.enter f args) w2/\
   (invoke d.target d.args).events C.P w2 ((resolve a.eval (rangeCall g (env2 l).blk) 0).events C.P w2 #[])= #[]/\jlk C f args kp2 w2 (Back C extra kp2 env2 h2 w2 Post):=by
 unfold jgY at hP;split at hP
 ·rename_i gg first cap hfv
  obtain⟨hent,hcall⟩:=hP;have e:=S.opd g g' hg;rw[hfv]at e;have hb2:(AV.func gg first cap).bel h2.ok:=bel_mono (fun i hi=>hh2.ok hi) _ e.2;have e1:a.eval g=(AV.func gg first cap).val C.lk env2:=by rw[e.1,X2.val e.2]
  simp only[AV.val,jbn]at e1;have hbels:∀v∈first++[.yield l]++cap,v.bel h2.ok:=by
   intro v hv;rcases List.mem_append.1 hv with hv|hv
   ·rcases List.mem_append.1 hv with hv|hv
    ·exact(ja9 _ _).1 hb2.1 v hv
    ·rw[List.mem_singleton]at hv;subst hv;exact hl
   ·exact(ja9 _ _).1 hb2.2 v hv
  have hent':=hent ((first++[AV.yield l]++cap).map (AV.val C.lk env2)).toArray w2;refine⟨{target:=.fn (.func (C.lk gg)) (cap.map (AV.val C.lk env2)).toArray,args:=(first.map (AV.val C.lk env2)).toArray++ #[.func (.yield (env2 l).blk) #[] #[]]},_,_,?_,?_,?_,hcall extra kp2 env2 w2 R2 hbels⟩
  ·simp only[resolve,rangeCall,Sem.run_bind,Deferred.ofValue,e1];simp[Act.eval]
  ·simp only[invoke];rw[<-hent'.1];simp[AV.val]
  ·have h1:(resolve a.eval (rangeCall g (env2 l).blk) 0).events C.P w2 #[]= #[]:=by
    simp only[resolve,rangeCall,Sem.events_bind,Deferred.ofValue,e1];simp[Act.eval]
   rw[h1];simp only[invoke];have:=hent'.2 #[];simpa[AV.val]using this
 ·exact hP.elim
theorem jco(fenv:Env)(rd:Option Nat):jp5 C extra nt fenv rd:=by
 intro g g' ps x y Q kp env st a w hg hps h S0 hrd J hJ b k cs hro hb hk;cases rd with
 | none =>
  have h':jgY C (g'.ev st.t) (st.h.size+1) ((st.h.push (.defd true)).push (.loop {state:=.ready,pend:=none,t:=st.t,nt,params:=ps.toList,assign:=jad C.P C.inv nt x,body:=jad C.P C.inv nt y,defers:=st.h.size})) fun _ h'=>
   ∃r,h'.get (st.h.size+1)=some (.loop r)/\r.state≠.busy/\Q (r.pend.getD .normal) ⟨st.t,h'.put (st.h.size+1) (.loop {r with state:=.exhausted}),st.h.size::st.m⟩:=h
  refine(C.closed J hJ).go rfl fun kp1 w1 r1=>?_;have S:=S0.rely r1
  -- the two new blocks
  have A1:=S.rel.alloc (n:=none) rfl (b:=.defd true) ⟨w1.heap.size,0,0⟩ rfl (.deferred (some [])) trivial (by show(w1.alloc _).heap[w1.heap.size]? =_;rw[jbl,if_pos rfl];rfl);have X1:Ext st.h env (updE env st.h.size ⟨w1.heap.size,0,0⟩):=jbY (st.h.wf _ (Nat.le_refl _)) env _;have L1:HLe st.h (st.h.push (.defd true)):=jjP (n:=none) rfl rfl _;have hsz:(w1.alloc (.deferred (some []))).heap.size=w1.heap.size+1:=by show(w1.heap.push _).size=_;simp
  have A2:=A1.1.alloc (n:=none) rfl (b:=.loop {state:=.ready,pend:=none,t:=st.t,nt,params:=ps.toList,assign:=jad C.P C.inv nt x,body:=jad C.P C.inv nt y,defers:=st.h.size})
   ⟨w1.heap.size+1,0,0⟩ hsz.symm (.loop {state:=.ready,pending:=none,fn:=b.fn,tmps:=a.tmps,params:=ps,assign:=x,body:=y,defers:=w1.heap.size})
   ⟨fun s=>bel_mono (fun i hi=>(jc0 (n:=none) rfl).2 (.inr (L1.ok hi))) _ (S.bel s),(jc0 (n:=none) rfl).2 (.inr ((jc0 (n:=none) rfl).2 (.inl rfl)))⟩
   ⟨b.fn,a.tmps,ps,x,y,by
    rw[jbl,if_pos hsz.symm];show _=some (Obj.loop {state:=.ready,pending:=none,fn:=b.fn,tmps:=a.tmps,params:=ps,assign:=x,body:=y,defers:=_});simp[updE,Heap.nid,Heap.new],S.size,fun s=>by
     rw[S.tmps s];have X2:Ext (st.h.push (.defd true)) (updE env st.h.size ⟨w1.heap.size,0,0⟩) (updE (updE env st.h.size ⟨w1.heap.size,0,0⟩) (st.h.size+1) ⟨w1.heap.size+1,0,0⟩):=jbY (Heap.wf _ _ (Nat.le_refl _)) _ _;exact((X1.trans L1 X2).val (S.bel s)).symm,rfl,hps,rfl,rfl,by simp⟩
  have L2:HLe (st.h.push (.defd true)) _:=jjP (n:=none) rfl rfl (.loop {state:=.ready,pend:=none,t:=st.t,nt,params:=ps.toList,assign:=jad C.P C.inv nt x,body:=jad C.P C.inv nt y,defers:=st.h.size});have X2:Ext (st.h.push (.defd true)) (updE env st.h.size ⟨w1.heap.size,0,0⟩) (updE (updE env st.h.size ⟨w1.heap.size,0,0⟩) (st.h.size+1) ⟨w1.heap.size+1,0,0⟩):=jbY (Heap.wf _ _ (Nat.le_refl _)) _ _;have hl2:((st.h.push (.defd true)).push (.loop {state:=.ready,pend:=none,t:=st.t,nt,params:=ps.toList,assign:=jad C.P C.inv nt x,body:=jad C.P C.inv nt y,defers:=st.h.size})).ok (st.h.size+1):=jgg.2 (.inl rfl)
  have hm2:((st.h.push (.defd true)).push (.loop {state:=.ready,pend:=none,t:=st.t,nt,params:=ps.toList,assign:=jad C.P C.inv nt x,body:=jad C.P C.inv nt y,defers:=st.h.size})).ok st.h.size:=jgg.2 (.inr (jgg.2 (.inl rfl)));have K2:=A1.2.trans A2.2;obtain⟨d,f,args,hres,hinv,hie,hcall⟩:=jjk S hg (L1.trans L2) (X1.trans L1 X2) A2.1 hl2 h';have hblk:(updE (updE env st.h.size ⟨w1.heap.size,0,0⟩) (st.h.size+1) ⟨w1.heap.size+1,0,0⟩ (st.h.size+1)).blk=w1.heap.size+1:=by simp[updE]
  have hblk0:(updE (updE env st.h.size ⟨w1.heap.size,0,0⟩) (st.h.size+1) ⟨w1.heap.size+1,0,0⟩ st.h.size).blk=w1.heap.size:=by simp[updE]
  rw[hblk]at hres hie;have hent:=run_enterLoop_outer (P:=C.P) (w:=w1) b.fn a.tmps ps x y;have hee:=jeq (P:=C.P) (w:=w1) b.fn a.tmps ps x y;have hro':b.roundOf=none:=hro;rw[<-hro']at hent hee;obtain⟨es,hstep,hes⟩:=jgX (main:=C.main) (k:=k) (cs:=cs) (g:=g) hb hent hres hinv;refine⟨_,_,es,hstep,rfl,K2.part,fun e he=>?_,?_⟩
  ·rcases hes e he with h|h
   ·rw[hee]at h;simp at h
   ·rw[hie]at h;simp at h
  ·refine hcall J hJ _ fun kp' v w' fr hB hl=>jgn hJ hl ?_;rw[finish_atR_inRangeFunc];refine jjj hJ S0 (L1.trans L2) (X1.trans L1 X2) ((r1.keepJ extra).trans K2.keepJ) hl2 (ms:=[st.h.size]) (mark:=[{target:=.collected w1.heap.size,args:= #[]}]) (by simp[updE]) (by intro i hi;rw[List.mem_singleton]at hi;subst hi;exact hm2) hblk.symm hk kp' v w' hB
 | some l0 =>
  obtain⟨r0,hr0,h'⟩:=h;obtain⟨hok0,hfe⟩:=hrd l0 rfl;refine(C.closed J hJ).go rfl fun kp1 w1 r1=>?_;have S:=S0.rely r1;obtain⟨fn0,tmps0,params0,assign0,body0,q1,_⟩:=S.rel.blk l0 _ hr0;have X1:Ext st.h env (updE env st.h.size ⟨w1.heap.size,0,0⟩):=jbY (st.h.wf _ (Nat.le_refl _)) env _;have hd0:st.h.ok r0.defers:=(S.rel.bel l0 _ hr0).2;have A2:=S.rel.alloc (n:=none) rfl (b:=.loop {state:=.ready,pend:=none,t:=st.t,nt,params:=ps.toList,assign:=jad C.P C.inv nt x,body:=jad C.P C.inv nt y,defers:=r0.defers})
   ⟨w1.heap.size,0,0⟩ rfl (.loop {state:=.ready,pending:=none,fn:=b.fn,tmps:=a.tmps,params:=ps,assign:=x,body:=y,defers:=(env r0.defers).blk})
   ⟨fun s=>bel_mono (fun i hi=>(jc0 (n:=none) rfl).2 (.inr hi)) _ (S.bel s),(jc0 (n:=none) rfl).2 (.inr hd0)⟩
   ⟨b.fn,a.tmps,ps,x,y,by
    rw[jbl,if_pos rfl];show _=some (Obj.loop {state:=.ready,pending:=none,fn:=b.fn,tmps:=a.tmps,params:=ps,assign:=x,body:=y,defers:=_});rw[show updE env (st.h.nid none) ⟨w1.heap.size,0,0⟩ r0.defers=env r0.defers from X1 _ hd0],S.size,fun s=>by
     rw[S.tmps s];exact(X1.val (S.bel s)).symm,rfl,hps,rfl,rfl,by simp⟩
  have L2:HLe st.h _:=jjP (n:=none) rfl rfl (.loop {state:=.ready,pend:=none,t:=st.t,nt,params:=ps.toList,assign:=jad C.P C.inv nt x,body:=jad C.P C.inv nt y,defers:=r0.defers});have hl2:(st.h.push (.loop {state:=.ready,pend:=none,t:=st.t,nt,params:=ps.toList,assign:=jad C.P C.inv nt x,body:=jad C.P C.inv nt y,defers:=r0.defers})).ok st.h.size:=jgg.2 (.inl rfl);obtain⟨d,f,args,hres,hinv,hie,hcall⟩:=jjk S hg L2 X1 A2.1 hl2 h';have hblk:(updE env st.h.size ⟨w1.heap.size,0,0⟩ st.h.size).blk=w1.heap.size:=by simp[updE]
  rw[hblk]at hres hie;have hro':b.roundOf=some (env l0).blk:=by rw[hro,roOf,Option.map_some,hfe]
  have hent:(Instr.enterLoop b.fn a.tmps ps x y b.roundOf).run C.P w1=
    .ok (w1.heap.size,[]) (w1.alloc (.loop {state:=.ready,pending:=none,fn:=b.fn,tmps:=a.tmps,params:=ps,assign:=x,body:=y,defers:=(env r0.defers).blk})):=by
   rw[hro'];unfold Instr.enterLoop;simp only[Sem.run_bind,run_getLoop q1,Result.andThen_ok,Sem.run_pure,run_newObj_alloc]
  have hee:=jer (P:=C.P) (w:=w1) b.fn a.tmps ps x y q1;rw[<-hro']at hee;obtain⟨es,hstep,hes⟩:=jgX (main:=C.main) (k:=k) (cs:=cs) (g:=g) hb hent hres hinv;refine⟨_,_,es,hstep,rfl,A2.2.part,fun e he=>?_,?_⟩
  ·rcases hes e he with h|h
   ·rw[hee]at h;exact kbd (Nat.lt_of_lt_of_le (S.rel.lt l0 _ hr0) A2.2.size) (fun x=>S.rel.hid l0 _ hr0 (by simp) (.inl x)) e h
   ·rw[hie]at h;simp at h
  ·refine hcall J hJ _ fun kp' v w' fr hB hl=>jgn hJ hl ?_;rw[finish_atR_inRangeFunc];exact jjj hJ S0 L2 X1 ((r1.keepJ extra).trans A2.2.keepJ) hl2 (ms:=[]) (mark:=[]) (by simp) (by simp) hblk.symm hk kp' v w' hB
end
end Go.Ae
namespace Go.Ae
variable {C : Ctx} {h h' : Heap} {w : World} {env : Env} {st : St} {n k j sz g : Nat} {nid : Option Nat} {args : List AV} {P : Program}
theorem kbz{a b:Heap}(hs:a.size=b.size)(hg:∀i,a.get i=b.get i):a=b:=by
 cases a;cases b;simp only at hs hg;subst hs;have:(fun i=>_)=_:=funext hg;congr
structure Local (op:AOp) (ev:AOpd->AV) (n:Nat) (h:Heap) (v:AV) (h':Heap):Prop where
 size:h'.size=h.size
 live:∀i∈footA op ev n,i=n\/h.get i≠none
 sub:∀i∈wrA op ev n,i∈footA op ev n
 off:∀i,i∉wrA op ev n->h'.get i=h.get i
 grow:∀i,h.get i≠none->h'.get i≠none
 re:∀h2:Heap,h2.size=h.size->(∀i∈footA op ev n,h2.get i=h.get i)->
  ∃h2',aOp (some n) op ev h2=some (v,h2')/\h2'.size=h.size/\(∀i∈wrA op ev n,h2'.get i=h'.get i)/\(∀i,i∉wrA op ev n->h2'.get i=h2.get i)
theorem jbP(h:Heap)(i j:Nat)(b:ABlk):(h.put i b).get j=if j=i then(if i<h.size then some b else none)else h.get j:=rfl
theorem jd5{i:Nat}{b:ABlk}(hj:h.get j≠none):(h.put i b).get j≠none:=by
 have hlt:j<h.size:=by
  rcases Nat.lt_or_ge j h.size with x|x
  ·exact x
  ·exact absurd (h.wf j x) hj
 rw[jbP];by_cases e:j=i
 ·subst e;rw[if_pos rfl,if_pos hlt];simp
 ·rw[if_neg e];exact hj
theorem jc4{h2:Heap}(hs:h2.size=h.size)(hg:h2.get n=h.get n):h2.room (some n)=h.room (some n):=by
 simp[Heap.room,hs,hg]
theorem kaJ{op:AOp}{ev:AOpd->AV}{n i:Nat}{h:Heap}{v:AV}{b:ABlk}(hw:wrA op ev n=[i])(hsub:i∈footA op ev n)(hlive:∀j∈footA op ev n,j=n\/h.get j≠none)
  (hre:∀h2:Heap,h2.size=h.size->(∀j∈footA op ev n,h2.get j=h.get j)->aOp (some n) op ev h2=some (v,h2.put i b)):Local op ev n h v (h.put i b):=by
 refine⟨rfl,hlive,fun j hj=>?_,fun j hj=>?_,fun j hj=>jd5 hj,fun h2 hs hg=>⟨h2.put i b,hre h2 hs hg,hs,fun j hj=>?_,fun j hj=>?_⟩⟩
 ·rw[hw]at hj;simp at hj;subst hj;exact hsub
 ·rw[hw]at hj;simp at hj;rw[jbP,if_neg hj]
 ·rw[hw]at hj;simp at hj;subst hj;simp[jbP,hs]
 ·rw[hw]at hj;simp at hj;rw[jbP,if_neg hj]
theorem kba{op:AOp}{ev:AOpd->AV}{n:Nat}{h:Heap}{v:AV}(hsub:∀i∈wrA op ev n,i∈footA op ev n)(hlive:∀j∈footA op ev n,j=n\/h.get j≠.none)
  (hre:∀h2:Heap,h2.size=h.size->(∀j∈footA op ev n,h2.get j=h.get j)->aOp (some n) op ev h2=some (v,h2)):Local op ev n h v h:=
 ⟨rfl,hlive,hsub,fun _ _=>rfl,fun _=>id,fun h2 hs hg=>⟨h2,hre h2 hs hg,hs,fun j hj=>hg j (hsub j hj),fun _ _=>rfl⟩⟩
theorem joE{h2:Heap}{agg:Bool}{x v:AV}(h1:loadA h agg k x=some v):(∀i∈x.ids,h.get i≠none)/\((∀i∈x.ids,h2.get i=h.get i)->loadA h2 agg k x=some v):=by
 unfold loadA at h1;split at h1
 ·rename_i i o;split at h1
  ·rename_i vs wr u hi;refine⟨by simp[AV.ids,hi],fun hg=>?_⟩;have:=hg i (by simp[AV.ids]);simp only[loadA,this,hi];exact h1
  ·cases h1
 ·cases h1
theorem jmz{h2:Heap}{x v:AV}{lo hi mx:Option AV}(h1:jaO h sz x lo hi mx=some v):(∀i∈x.rids,h.get i≠none)/\((∀i∈x.rids,h2.get i=h.get i)->jaO h2 sz x lo hi mx=some v):=by
 unfold jaO at h1;split at h1
 ·exact⟨by simp[AV.rids],fun _=>h1⟩
 ·exact⟨by simp[AV.rids],fun _=>h1⟩
 ·rename_i i o n l0;split at h1
  ·rename_i vs u hii;refine⟨by simp[AV.rids,hii],fun hg=>?_⟩;have:=hg i (by simp[AV.rids]);simp only[jaO,this,hii];exact h1
  ·cases h1
 ·cases h1
theorem joF{h2:Heap}{ks:AKey}{z:AV}{comma:Bool}{m k v:AV}(h1:lookA h ks z comma m k=some v):(∀i∈m.ids,h.get i≠none)/\((∀i∈m.ids,h2.get i=h.get i)->lookA h2 ks z comma m k=some v):=by
 unfold lookA at h1;split at h1
 ·exact⟨by simp[AV.ids],fun _=>h1⟩
 ·rename_i i;split at h1
  ·rename_i es hi;refine⟨by simp[AV.ids,hi],fun hg=>?_⟩;have:=hg i (by simp[AV.ids]);simp only[lookA,this,hi];exact h1
  ·cases h1
 ·cases h1
theorem jbQ{h2:Heap}{x:AV}{r:Nat×List AV}(h1:jaH h sz x=some r):(∀i∈x.ids,h.get i≠none)/\((∀i∈x.ids,h2.get i=h.get i)->jaH h2 sz x=some r):=by
 unfold jaH at h1;split at h1
 ·exact⟨by simp[AV.ids],fun _=>h1⟩
 ·rename_i i o n c;split at h1
  ·rename_i vs wr u hi;refine⟨by simp[AV.ids,hi],fun hg=>?_⟩;have:=hg i (by simp[AV.ids]);simp only[jaH,this,hi];exact h1
  ·cases h1
 ·cases h1
theorem jgs{op:AOp}{ev:AOpd->AV}{h2:Heap}{v:AV}(hc:cls op<=1)(h1:pureA op ev h=some v):(∀i∈footA op ev n,h.get i≠none)/\((∀i∈footA op ev n,h2.get i=h.get i)->pureA op ev h2=some v):=by
 cases op with
 |load agg k x=>exact joE h1
 |slice sz x lo hi mx=>exact jmz h1
 |lookup ks z comma m k=>exact joF h1
 |_=>exact⟨by simp[footA]<;>simp[cls]at hc,fun _=>h1⟩
theorem jhn{op:AOp}(hc:cls op<=1)(nid:Option Nat)(ev:AOpd->AV)(h:Heap):aOp nid op ev h=(pureA op ev h).map fun v=>(v,h):=by
 cases op<;>first|rfl|(simp[cls]at hc)
theorem foot0{op:AOp}(hc:cls op=0)(ev:AOpd->AV)(n:Nat):footA op ev n=[]:=by cases op<;>first|rfl|(simp[cls]at hc)
theorem wr1{op:AOp}(hc:cls op<=1)(ev:AOpd->AV)(n:Nat):wrA op ev n=[]:=by cases op<;>first|rfl|(simp[cls]at hc)
theorem foot5{op:AOp}(hc:cls op=5)(ev:AOpd->AV)(n:Nat):footA op ev n=[n]:=by cases op<;>first|rfl|(simp[cls]at hc)
theorem wr5{op:AOp}(hc:cls op=5)(ev:AOpd->AV)(n:Nat):wrA op ev n=[n]:=by cases op<;>first|rfl|(simp[cls]at hc)
theorem jdC(hr:h.room (some n)=true):h.get n=none/\n<h.size:=by simpa[Heap.room]using hr
theorem jj7{op:AOp}(hc:cls op=5){ev:AOpd->AV}{n:Nat}{h:Heap}{v:AV}{h':Heap}(h1:aOp (some n) op ev h=some (v,h')):
  h.get n=none/\n<h.size/\∃cs,h'=h.put n (.cells cs true 0)/\∀h2:Heap,n<h2.size->h2.get n=none->aOp (some n) op ev h2=some (v,h2.put n (.cells cs true 0)):=by
 have hroom:∀h2:Heap,n<h2.size->h2.get n=none->h2.room (some n)=true:=by
  intro h2 a b;simp[Heap.room,a,b]
 cases op<;>simp[cls]at hc
 case alloc z=>
  simp only[aOp]at h1;split at h1
  ·rename_i hr;cases h1;have q:=jdC hr;exact⟨q.1,q.2,_,rfl,fun h2 a b=>by simp[aOp,hroom h2 a b];exact⟨rfl,rfl⟩⟩
  ·cases h1
 case box x=>
  simp only[aOp]at h1;split at h1
  ·rename_i hr;cases h1;have q:=jdC hr;exact⟨q.1,q.2,_,rfl,fun h2 a b=>by simp[aOp,hroom h2 a b];exact⟨rfl,rfl⟩⟩
  ·cases h1
 case buildSlice k z parts=>
  simp only[aOp]at h1;split at h1
  ·rename_i cs hcs;split at h1
   ·rename_i hr;cases h1;have q:=jdC hr;exact⟨q.1,q.2,_,rfl,fun h2 a b=>by simp[aOp,hcs,hroom h2 a b];exact⟨rfl,rfl⟩⟩
   ·cases h1
  ·cases h1
 case makeSlice z by_ l c=>
  simp only[aOp]at h1;split at h1
  ·rename_i l' c' hl hcc;split at h1
   ·rename_i hr;cases h1;have q:=jdC hr.2.2.2.2;refine⟨q.1,q.2,_,rfl,fun h2 a b=>?_⟩;simp only[aOp,hl,hcc];rw[if_pos ⟨hr.1,hr.2.1,hr.2.2.1,hr.2.2.2.1,hroom h2 a b⟩];rfl
   ·cases h1
  ·cases h1
theorem jmA{ev:AOpd->AV}{x y:AOpd}{v:AV}(h1:aOp (some n) (.store k x y) ev h=some (v,h')):Local (.store k x y) ev n h v h':=by
 simp only[aOp,Option.map_eq_some_iff,Prod.mk.injEq]at h1;obtain⟨h'',h1,rfl,rfl⟩:=h1;unfold jem at h1;split at h1
 ·rename_i i o hx;split at h1
  ·rename_i vs u hi;split at h1
   ·rename_i hcond;cases h1;refine kaJ (by simp[wrA,hx,AV.ids]) (by simp[footA,hx,AV.ids]) (by simp[footA,hx,AV.ids,hi]) fun h2 hs hg=>?_;have:=hg i (by simp[footA,hx,AV.ids]);simp only[aOp,jem,hx,this,hi,if_pos hcond];rfl
   ·cases h1
  ·cases h1
 ·cases h1
theorem joG{ev:AOpd->AV}{x y:AOpd}{v:AV}(h1:aOp (some n) (.copy k x y) ev h=some (v,h')):Local (.copy k x y) ev n h v h':=by
 simp only[aOp]at h1;unfold copyA at h1;split at h1
 ·rename_i mc hx hy;cases h1;have q:=jbQ (h2:=h) hy;refine kba (by simp[wrA,hx,AV.ids]) (fun j hj=>.inr (q.1 j (by simpa[footA,hx,AV.ids]using hj))) fun h2 hs hg=>?_;have:=(jbQ (h2:=h2) hy).2 fun j hj=>hg j (by simpa[footA,hx,AV.ids]using hj);simp only[aOp,copyA,hx,this]
 ·rename_i i o m c mm cs hx hy;split at h1
  ·rename_i vs u hi;dsimp only at h1;split at h1
   ·rename_i hcond;cases h1;have q:=jbQ (h2:=h) hy;refine kaJ (by simp[wrA,hx,AV.ids]) (by simp[footA,hx,AV.ids]) (fun j hj=>.inr ?_) fun h2 hs hg=>?_
    ·simp only[footA,hx,AV.ids,List.singleton_append,List.mem_cons]at hj;rcases hj with rfl|hj
     ·simp[hi]
     ·exact q.1 j hj
    ·have e1:=hg i (by simp[footA,hx,AV.ids]);have e2:=(jbQ (h2:=h2) hy).2 fun j hj=>hg j (by simp only[footA,hx,AV.ids,List.singleton_append,List.mem_cons];exact .inr hj);simp only[aOp,copyA,hx,e2,e1,hi,if_pos hcond]
   ·cases h1
  ·cases h1
 ·cases h1
theorem jgZ{n sz bytes m:Nat}{s v:AV}{news:List AV}{h h':Heap}(h1:jav h (some n) sz bytes s m news=some (v,h')):
  h'.size=h.size/\(∀i∈s.ids,h.get i≠none)/\(∀i,i∉s.ids++[n]->h'.get i=h.get i)/\(∀i,h.get i≠none->h'.get i≠none)/\
  ∀h2:Heap,h2.size=h.size->(∀i∈s.ids++[n],h2.get i=h.get i)->∃h2',jav h2 (some n) sz bytes s m news=some (v,h2')/\h2'.size=h.size/\(∀i∈s.ids++[n],h2'.get i=h'.get i)/\(∀i,i∉s.ids++[n]->h2'.get i=h2.get i):=by
 have keepit:∀(h2:Heap),h2.size=h.size->(∀i∈s.ids++[n],h2.get i=h.get i)->h'=h->(jav h2 (some n) sz bytes s m news=some (v,h2))->∃h2',jav h2 (some n) sz bytes s m news=some (v,h2')/\h2'.size=h.size/\(∀i∈s.ids++[n],h2'.get i=h'.get i)/\(∀i,i∉s.ids++[n]->h2'.get i=h2.get i):=by
  intro h2 hs hg he hr;subst he;exact⟨h2,hr,hs,hg,fun _ _=>rfl⟩
 have puts:∀(b:ABlk) (h2:Heap) (j:Nat),j∈s.ids++[n]->h2.size=h.size->(∀i∈s.ids++[n],h2.get i=h.get i)->h'=h.put j b->(jav h2 (some n) sz bytes s m news=some (v,h2.put j b))->∃h2',jav h2 (some n) sz bytes s m news=some (v,h2')/\h2'.size=h.size/\(∀i∈s.ids++[n],h2'.get i=h'.get i)/\(∀i,i∉s.ids++[n]->h2'.get i=h2.get i):=by
  intro b h2 j hj hs hg he hr;subst he;refine⟨_,hr,hs,fun i hi=>?_,fun i hi=>?_⟩
  ·rw[jbP,jbP,hs,hg i hi]
  ·rw[jbP,if_neg];intro e;subst e;exact hi hj
 have off1:∀(b:ABlk) (j:Nat),j∈s.ids++[n]->h'=h.put j b->∀i,i∉s.ids++[n]->h'.get i=h.get i:=by
  intro b j hj he i hi;subst he;rw[jbP,if_neg];intro e;subst e;exact hi hj
 have hnn:n∈s.ids++[n]:=by simp
 unfold jav at h1;split at h1
 ·split at h1
  ·rename_i hm;cases h1;exact⟨rfl,by simp[AV.ids],fun _ _=>rfl,fun _=>id,fun h2 hs hg=>keepit h2 hs hg rfl (by simp[jav,hm])⟩
  ·rename_i hm;split at h1
   ·rename_i hc;cases h1;refine⟨rfl,by simp[AV.ids],off1 _ n hnn rfl,fun _=>jd5,fun h2 hs hg=>puts _ h2 n hnn hs hg rfl ?_⟩;simp only[jav,if_neg hm,jc4 hs (hg n hnn),if_pos hc];rfl
   ·cases h1
 ·rename_i i o k c;split at h1
  ·rename_i hm;split at h1
   ·rename_i hc;cases h1;have hi:i∈(AV.slice i o k (.known c)).ids++[n]:=by simp[AV.ids]
    refine⟨rfl,fun j hj=>?_,fun _ _=>rfl,fun _=>id,fun h2 hs hg=>keepit h2 hs hg rfl ?_⟩
    ·simp[AV.ids]at hj;subst hj;intro e;simp[e]at hc
    ·simp only[jav,if_pos hm,hg i hi,if_pos hc]
   ·cases h1
  ·rename_i hm;have hi:i∈(AV.slice i o k (.known c)).ids++[n]:=by simp[AV.ids]
   split at h1
   ·rename_i vs u hb;have hl:∀j∈(AV.slice i o k (.known c)).ids,h.get j≠none:=by intro j hj;simp[AV.ids]at hj;subst hj;simp[hb]
    split at h1
    ·rename_i hle;split at h1
     ·rename_i hroom;split at h1
      ·rename_i hc;cases h1;refine⟨rfl,hl,off1 _ i hi rfl,fun _=>jd5,fun h2 hs hg=>puts _ h2 i hi hs hg rfl ?_⟩;simp only[jav,if_neg hm,hg i hi,hb,if_pos hle,if_pos hroom,if_pos hc]
      ·cases h1
     ·rename_i hroom;split at h1
      ·rename_i hc;cases h1;refine⟨rfl,hl,off1 _ n hnn rfl,fun _=>jd5,fun h2 hs hg=>puts _ h2 n hnn hs hg rfl ?_⟩;simp only[jav,if_neg hm,hg i hi,hb,if_pos hle,if_neg hroom,jc4 hs (hg n hnn),if_pos hc];rfl
      ·cases h1
    ·cases h1
   ·rename_i vs u hb;have hl:∀j∈(AV.slice i o k (.known c)).ids,h.get j≠none:=by intro j hj;simp[AV.ids]at hj;subst hj;simp[hb]
    split at h1
    ·rename_i hc;cases h1;refine⟨rfl,hl,off1 _ n hnn rfl,fun _=>jd5,fun h2 hs hg=>puts _ h2 n hnn hs hg rfl ?_⟩;simp only[jav,if_neg hm,hg i hi,hb,jc4 hs (hg n hnn),if_pos hc];rfl
    ·cases h1
   ·cases h1
 ·rename_i i o k l;have hi:i∈(AV.slice i o k (.unk l)).ids++[n]:=by simp[AV.ids]
  split at h1
  ·rename_i vs u hb;have hl:∀j∈(AV.slice i o k (.unk l)).ids,h.get j≠none:=by intro j hj;simp[AV.ids]at hj;subst hj;simp[hb]
   split at h1
   ·rename_i hc;cases h1;refine⟨rfl,hl,fun j hj=>?_,fun _ hj=>jd5 (jd5 hj),fun h2 hs hg=>⟨(h2.put i .dead).put n (.cells (cut vs o (k*sz)++news) true sz),?_,hs,fun j hj=>?_,fun j hj=>?_⟩⟩
    ·have h1:j≠i:=by intro e;subst e;exact hj hi
     have h2:j≠n:=by intro e;subst e;exact hj hnn
     show((h.put i .dead).put n _).get j=_;rw[jbP,if_neg h2,jbP,if_neg h1]
    ·simp only[jav,hg i hi,hb,jc4 hs (hg n hnn),if_pos hc];rfl
    ·show _=((h.put i .dead).put n _).get j;simp only[jbP,Heap.size_put,hs,hg j hj];rfl
    ·have h1:j≠i:=by intro e;subst e;exact hj hi
     have h2:j≠n:=by intro e;subst e;exact hj hnn
     rw[jbP,if_neg h2,jbP,if_neg h1]
   ·rename_i hn;split at h1
    ·rename_i hc;cases h1;refine⟨rfl,hl,fun _ _=>rfl,fun _=>id,fun h2 hs hg=>keepit h2 hs hg rfl ?_⟩;simp only[jav,hg i hi,hb,jc4 hs (hg n hnn),if_neg hn,if_pos hc]
    ·cases h1
  ·cases h1
 ·cases h1
theorem jln{op:AOp}(hc:cls op≠2){ev:AOpd->AV}{v:AV}(h1:aOp (some n) op ev h=some (v,h')):Local op ev n h v h':=by
 by_cases h01:cls op<=1
 ·rw[jhn h01]at h1;simp only[Option.map_eq_some_iff,Prod.mk.injEq]at h1;obtain⟨v',h1,rfl,rfl⟩:=h1;refine kba (by simp[wr1 h01]) (fun j hj=>.inr ((jgs (h2:=h) h01 h1).1 j hj)) fun h2 hs hg=>?_;rw[jhn h01,(jgs (n:=n) (h2:=h2) h01 h1).2 hg];rfl
 by_cases h5:cls op=5
 ·obtain⟨hn,hlt,cs,rfl,hre⟩:=jj7 h5 h1;refine kaJ (wr5 h5 ev n) (by simp[foot5 h5]) (by simp[foot5 h5]) fun h2 hs hg=>hre h2 (by rw[hs];exact hlt) ?_;rw[hg n (by simp[foot5 h5]),hn]
 cases op<;>simp[cls]at hc h01 h5
 case store k x y=>exact jmA h1
 case copy k x y=>exact joG h1
 case append sz by_ s x=>
  simp only[aOp]at h1;split at h1
  ·rename_i m news hcon;obtain⟨a1,a2,a3,a5,a4⟩:=jgZ h1;have q:=jbQ (h2:=h) hcon;refine⟨a1,fun i hi=>?_,fun i hi=>?_,fun i hi=>a3 i hi,a5,fun h2 hs hg=>?_⟩
   ·simp only[footA,List.mem_append,List.mem_singleton]at hi;rcases hi with(hi|hi)|hi
    ·exact .inr (a2 i hi)
    ·exact .inr (q.1 i hi)
    ·exact .inl hi
   ·simp only[wrA,footA,List.mem_append,List.mem_singleton]at hi|-;rcases hi with hi|hi
    ·exact .inl (.inl hi)
    ·exact .inr hi
   ·obtain⟨h2',b1,b2,b3,b4⟩:=a4 h2 hs fun i hi=>hg i (by
     simp only[footA,List.mem_append,List.mem_singleton]at hi|-;rcases hi with hi|hi
     ·exact .inl (.inl hi)
     ·exact .inr hi)
    refine⟨h2',?_,b2,b3,b4⟩;simp only[aOp,(jbQ (h2:=h2) hcon).2 fun i hi=>hg i (by simp only[footA,List.mem_append,List.mem_singleton];exact .inl (.inr hi)),b1]
  ·cases h1
 case appendMake z by_ s x=>
  simp only[aOp]at h1;split at h1
  ·rename_i k m hx;split at h1
   ·rename_i hm;obtain⟨a1,a2,a3,a5,a4⟩:=jgZ h1;refine⟨a1,fun i hi=>?_,fun i hi=>hi,fun i hi=>a3 i hi,a5,fun h2 hs hg=>?_⟩
    ·simp only[footA,List.mem_append,List.mem_singleton]at hi;rcases hi with hi|hi
     ·exact .inr (a2 i hi)
     ·exact .inl hi
    ·obtain⟨h2',b1,b2,b3,b4⟩:=a4 h2 hs fun i hi=>hg i hi;exact⟨h2',by simp only[aOp,hx,if_pos hm,b1],b2,b3,b4⟩
   ·cases h1
  ·cases h1
 case makeMap=>
  simp only[aOp]at h1;split at h1
  ·rename_i hr;cases h1;have q:=jdC hr;refine kaJ (by simp[wrA,Heap.nid]) (by simp[footA,Heap.nid]) (by simp[footA]) fun h2 hs hg=>?_;have hr2:h2.room (some n)=true:=by rw[jc4 hs (hg n (by simp[footA]))];exact hr
   simp only[aOp,hr2,if_true];rfl
  ·cases h1
 case makeChan=>
  simp only[aOp]at h1;split at h1
  ·rename_i hr;cases h1;have q:=jdC hr;refine kaJ (by simp[wrA,Heap.nid]) (by simp[footA,Heap.nid]) (by simp[footA]) fun h2 hs hg=>?_;have hr2:h2.room (some n)=true:=by rw[jc4 hs (hg n (by simp[footA]))];exact hr
   simp only[aOp,hr2,if_true];rfl
  ·cases h1
 case mapUpd ks m k x=>
  simp only[aOp,Option.map_eq_some_iff,Prod.mk.injEq]at h1;obtain⟨h'',h1,rfl,rfl⟩:=h1;unfold jcl at h1;split at h1
  ·rename_i i hm;split at h1
   ·rename_i es hi;split at h1
    ·rename_i hk;simp only[Option.map_eq_some_iff]at h1;obtain⟨es',hs',rfl⟩:=h1;refine kaJ (by simp[wrA,hm,AV.ids]) (by simp[footA,hm,AV.ids]) (by simp[footA,hm,AV.ids,hi]) fun h2 hs hg=>?_;have:=hg i (by simp[footA,hm,AV.ids]);simp only[aOp,jcl,hm,this,hi,if_pos hk,hs'];rfl
    ·cases h1
   ·cases h1
  ·cases h1
 case refuse s=>simp[aOp,pureA]at h1
 case comm k xs=>simp[aOp,pureA]at h1
theorem jdD{op:AOp}{ev ev':AOpd->AV}(h:∀x∈op.opds,ev' x=ev x)(nid:Option Nat)(hp:Heap):aOp nid op ev' hp=aOp nid op ev hp:=by
 have parts:∀ps:List (Nat×Nat×AOpd),(∀x∈ps.map (·.2.2),ev' x=ev x)->(ps.map fun p=>(p.1,p.2.1,ev' p.2.2))=ps.map fun p=>(p.1,p.2.1,ev p.2.2):=by
  intro ps hx;refine List.map_congr_left fun p hm=>?_;rw[hx _ (List.mem_map.2 ⟨p,hm,rfl⟩)]
 have lists:∀xs:List AOpd,(∀x∈xs,ev' x=ev x)->xs.map ev'=xs.map ev:=fun xs hx=>List.map_congr_left hx;have opts:∀o:Option AOpd,(∀x∈o.toList,ev' x=ev x)->o.map ev'=o.map ev:=by
  intro o hx;cases o with
  |none=>rfl
  |some x=>simp[hx x (by simp)]
 cases op with
 |build z ps=>simp only[aOp,pureA,parts ps h]
 |buildSlice k z ps=>simp only[aOp,parts ps h]
 |mkfunc g a c=>
  simp only[AOp.opds,List.mem_append]at h;simp only[aOp,pureA,lists a fun x hx=>h x (.inl hx),lists c fun x hx=>h x (.inr hx)]
 |slice sz x lo hi mx=>
  simp only[AOp.opds,List.mem_cons,List.mem_append]at h;simp only[aOp,pureA,h x (.inl rfl),opts lo fun x hx=>h x (.inr (.inl (.inl hx))),opts hi fun x hx=>h x (.inr (.inl (.inr hx))),opts mx fun x hx=>h x (.inr (.inr hx))]
 |max xs=>simp only[aOp,pureA,lists xs h]
 |min xs=>simp only[aOp,pureA,lists xs h]
 |call f xs=>rfl
 |_=>simp[AOp.opds]at h<;>simp[aOp,pureA,h]<;>rfl
theorem jb2{op:AOp}{ev ev':AOpd->AV}(h:∀x∈op.opds,ev' x=ev x)(n:Nat):footA op ev' n=footA op ev n/\wrA op ev' n=wrA op ev n:=by
 cases op with
 |slice sz x lo hi mx=>
  simp only[AOp.opds,List.mem_cons]at h;simp only[footA,wrA,h x (.inl rfl),and_self]
 |load a k x=>simp[AOp.opds]at h;simp[footA,wrA,h]
 |store k x y=>simp[AOp.opds]at h;simp[footA,wrA,h]
 |append _ _ x y=>simp[AOp.opds]at h;simp[footA,wrA,h]
 |appendMake _ _ x y=>simp[AOp.opds]at h;simp[footA,wrA,h]
 |copy _ x y=>simp[AOp.opds]at h;simp[footA,wrA,h]
 |mapUpd _ m k v=>simp[AOp.opds]at h;simp[footA,wrA,h]
 |lookup _ _ _ m k=>simp[AOp.opds]at h;simp[footA,wrA,h]
 |_=>exact⟨rfl,rfl⟩
def updO(t:Nat->AV)(d:Option Nat)(v:AV):Nat->AV:=
 match d with
 |none=>t
 |some s=>upd t s v
theorem jlo(st:St)(h:Heap)(d:Option Nat)(v:AV):St.put {st with h:=h} d v=⟨updO st.t d v,h,st.m⟩:=by cases d<;>rfl
theorem jj8(st:St)(d:Option Nat)(v:AV):St.put st d v=⟨updO st.t d v,st.h,st.m⟩:=by cases d<;>rfl
theorem jgt{t:Nat->AV}{d:Option Nat}{v:AV}{s:Nat}(h:d≠some s):updO t d v s=t s:=by
 cases d with
 |none=>rfl
 |some q=>simp only[updO,upd];rw[if_neg];intro e;subst e;exact h rfl
theorem jfU{t:Nat->AV}{d e:Option Nat}{v u:AV}(h:∀s,d=some s->e≠some s):updO (updO t d v) e u=updO (updO t e u) d v:=by
 cases d with
 |none=>rfl
 | some p =>
  cases e with
  |none=>rfl
  | some q =>
   funext s;simp only[updO,upd];have:p≠q:=fun x=>h p rfl (by rw[x]);by_cases a:s=q
   ·subst a;rw[if_pos rfl,if_neg (Ne.symm this),if_pos rfl]
   ·rw[if_neg a];by_cases b:s=p
    ·rw[if_pos b,if_pos b]
    ·rw[if_neg b,if_neg b,if_neg a]
theorem jtJ{op:AOp}{t:Nat->AV}{d:Option Nat}{v:AV}(h:∀s,d=some s->s∉op.reads):∀x∈op.opds,x.ev (updO t d v)=x.ev t:=by
 intro x hx;cases x with
 |const c=>rfl
 |tmp s=>
  refine jgt fun e=>h s e ?_;simp only[AOp.reads,List.mem_flatMap];exact⟨_,hx,by simp[ka9]⟩
structure Apart (x y:AOper):Prop where
 a:∀s,x.dst=some s->s∉y.looks
 b:∀s,x.dst=some s->y.dst≠some s
 c:∀s,y.dst=some s->s∉x.looks
theorem jmB{x y:AOper}(h:jpJ x y=true):Apart x y:=by
 unfold jpJ at h;simp only[Bool.and_eq_true]at h;obtain⟨h1,h2⟩:=h;refine⟨fun s e=>?_,fun s e=>?_,fun s e=>?_⟩
 ·rw[e]at h1;simp at h1;exact h1.1
 ·rw[e]at h1;simp at h1;exact h1.2
 ·rw[e]at h2;simpa using h2
theorem Apart.symm{x y:AOper}(h:Apart x y):Apart y x:=⟨h.c,fun s e f=>h.b s f e,h.a⟩
theorem Apart.ev{x y:AOper}(h:Apart x y)(t:Nat->AV)(v:AV):∀o∈y.op.opds,o.ev (updO t x.dst v)=o.ev t:=
 jtJ fun s e hs=>h.a s e (by simp only[AOper.looks,List.mem_append];exact .inl hs)
theorem Apart.on{x y:AOper}(h:Apart x y)(t:Nat->AV)(v:AV):gOn y.guard (updO t x.dst v)=gOn y.guard t:=by
 unfold gOn;cases hg:y.guard with
 |none=>rfl
 |some p=>
  obtain⟨s,want⟩:=p;have:x.dst≠some s:=fun e=>h.a s e (by simp[AOper.looks,hg]);simp only[jgt this]
theorem jdE(g:Option (Nat×Bool))(t:Nat->AV)(p q:Prop):jeo g t p q↔if gOn g t=true then p else q:=by
 cases g with
 |none=>simp[jeo,gOn]
 |some a=>
  obtain⟨s,want⟩:=a;cases hb:gOn (some (s,want)) t<;>revert hb<;>unfold jeo gOn<;>dsimp only<;>cases t s<;>simp;all_goals(rename_i c;cases c<;>cases want<;>simp)
section
variable {C : Ctx} {base : Nat}
def stepC(C:Ctx)(d:DItem)(f:AOpd)(args:List AOpd)(acc:Acc)(K:Acc->St->Prop)(st:St):Prop:=
 callP C (f.ev st.t) (args.map (·.ev st.t)) st.h (fun r h'=>chkS acc d.ck st.h h'/\K acc ⟨updO st.t d.o.dst r,h',st.m⟩)
def stepO(base:Nat)(d:DItem)(acc:Acc)(K:Acc->St->Prop)(st:St):Prop:=
 ∃v h',chkP acc d.ck d.o.op (·.ev st.t) (base+d.k)/\aOp (some (base+d.k)) d.o.op (·.ev st.t) st.h=some (v,h')/\K (jbK d (·.ev st.t) (base+d.k) acc) ⟨updO st.t d.o.dst v,h',st.m⟩
theorem jce{d:DItem}{acc:Acc}{K:Acc->St->Prop}(hg:gOn d.o.guard st.t=false):stepD C base d acc K st↔K acc ⟨updO st.t d.o.dst .undef,st.h,st.m⟩:=by
 unfold stepD;rw[jdE,if_neg (by rw[hg];simp),jj8]
theorem jbR{d:DItem}{f:AOpd}{args:List AOpd}(ho:d.o.op=.call f args){acc:Acc}{K:Acc->St->Prop}(hg:gOn d.o.guard st.t=true):stepD C base d acc K st↔stepC C d f args acc K st:=by
 unfold stepD stepC;rw[jdE,if_pos hg];simp only[ho,jlo]
theorem jbA{d:DItem}(ho:cls d.o.op≠2){acc:Acc}{K:Acc->St->Prop}(hg:gOn d.o.guard st.t=true):stepD C base d acc K st↔stepO base d acc K st:=by
 unfold stepD stepO;rw[jdE,if_pos hg];obtain⟨k,mem,ck,⟨dst,op,g⟩⟩:=d;dsimp only at ho|-;cases op
 case call f args=>exact absurd rfl ho
 all_goals
  clear ho;dsimp only;constructor
  ·rintro⟨h1,h2⟩;split at h2
   ·rename_i v h' hv;rw[jlo]at h2;exact⟨v,h',h1,hv,h2⟩
   ·exact h2.elim
  ·rintro⟨v,h',h1,h2,h3⟩;refine⟨h1,?_⟩;rw[h2];simp only[jlo];exact h3
theorem jb3{f:AV}{P Q:AV->Heap->Prop}(hPQ:∀r h',P r h'->Q r h')(hc:callP C f args h P):callP C f args h Q:=by
 have hb:∀extra kp env w kp' v w',Back C extra kp env h w P kp' v w'->Back C extra kp env h w Q kp' v w':=by
  rintro extra kp env w kp' v w' ⟨env',r,h',a,b,c⟩;exact⟨env',r,h',a,hPQ _ _ b,c⟩
 unfold callP at hc|-;cases f with
 |func g first captured=>exact⟨hc.1,fun extra kp env w R hv=>(hc.2 extra kp env w R hv).mono fun kp' v w'=>hb extra kp env w kp' v w'⟩
 |yield l=>
  intro extra kp env w R hv;obtain⟨fn,tmps,assign,body,h1,h1e,h2⟩:=hc extra kp env w R hv;exact⟨fn,tmps,assign,body,h1,h1e,h2.mono fun kp' v w'=>hb extra kp env w kp' v w'⟩
 |_=>exact hc
def AccLe(a b:Acc):Prop:=∀e∈a,e∈b
theorem jlp{a b:Acc}(h:AccLe a b)(d:DItem)(ev:AOpd->AV)(n:Nat):AccLe (jbK d ev n a) (jbK d ev n b):=by
 unfold jbK;split
 ·intro e he;rcases List.mem_cons.1 he with rfl|he
  ·simp
  ·exact List.mem_cons_of_mem _ (h e he)
 ·exact h
theorem jp6{a b:Acc}(h:AccLe a b){ck:List Nat}{op:AOp}{ev:AOpd->AV}(hc:chkP b ck op ev n):chkP a ck op ev n:=fun e he=>hc e (h e he)
theorem jmC{a b:Acc}(h:AccLe a b){ck:List Nat}{h1 h2:Heap}(hc:chkS b ck h1 h2):chkS a ck h1 h2:=fun e he=>hc e (h e he)
theorem jjl{d:DItem}{a b:Acc}{K K':Acc->St->Prop}(hab:AccLe a b)(hK:∀x y st,AccLe x y->K y st->K' x st)(h:stepD C base d b K st):stepD C base d a K' st:=by
 cases hg:gOn d.o.guard st.t with
 |false=>rw[jce hg]at h|-;exact hK _ _ _ hab h
 |true=>
  by_cases h2:cls d.o.op=2
  ·cases hop:d.o.op<;>rw[hop]at h2<;>simp[cls]at h2;rw[jbR hop hg]at h|-;exact jb3 (fun r h' q=>⟨jmC hab q.1,hK _ _ _ hab q.2⟩) h
  ·rw[jbA h2 hg]at h|-;obtain⟨v,h',h1,h2,h3⟩:=h;exact⟨v,h',jp6 hab h1,h2,hK _ _ _ (jlp hab _ _ _) h3⟩
theorem jj9:∀(ds:List DItem) {a b:Acc} {K:St->Prop} {st:St},AccLe a b->wpD C base ds b K st->wpD C base ds a K st
 |[],_,_,_,_,_,h=>h
 |d::ds,a,b,K,st,hab,h=>by
  have h':stepD C base d b (fun acc' st'=>wpD C base ds acc' K st') st:=h;exact jjl (C:=C) (base:=base) (d:=d) (K:=fun acc' st'=>wpD C base ds acc' K st') (K':=fun acc' st'=>wpD C base ds acc' K st') hab (fun x y st hxy q=>jj9 ds hxy q) h'
theorem kaD(a:Acc):AccLe a a:=fun _=>id
end
section
variable {C : Ctx} {keep kp kp' extra : Keep} {env : Env} {h : Heap} {w : World}
def Keep.plus(keep:Keep)(b:Nat):Keep:=⟨fun r=>keep.no r\/r=b,fun r=>keep.hide r\/r=b⟩
theorem kaP(kp extra:Keep)(b:Nat):kp.or (extra.plus b)=(kp.or extra).plus b:=
 kaT (fun r=>by simp only[Keep.or,Keep.plus,or_assoc]) (fun r=>by simp only[Keep.or,Keep.plus,or_assoc])
theorem jnQ{n:Nat}{cs:List AV}{u:Nat}(R:Rel C keep env (h.put n (.cells cs true u)) w)(hn:h.get n=none)(hlt:n<h.size)(hb:∀i b,h.get i=some b->b.bel h.ok):
  Rel C (keep.plus (env n).blk) env h w:=by
 have hput:∀i c,h.get i=some c->(h.put n (.cells cs true u)).get i=some c:=by
  intro i c hc;rw[kaj _ _ _ _ hlt,if_neg]
  ·exact hc
  ·intro e;subst e;rw[hn]at hc;cases hc
 have hnn:(h.put n (.cells cs true u)).get n=some (.cells cs true u):=by rw[kaj _ _ _ _ hlt,if_pos rfl]
 have hne:∀i c,h.get i=some c->n≠i:=by
  intro i c hc e;subst e;rw[hn]at hc;cases hc
 refine⟨fun i b hi=>R.lt i b (hput i b hi),fun i b hi=>R.blk i b (hput i b hi),fun i j b c hi hj=>R.disj i j b c (hput i b hi) (hput j c hj),hb,?_,?_,?_,?_⟩
 ·rintro i b hi hw (hk|hk)
  ·exact R.kept i b (hput i b hi) hw hk
  ·exact R.disj n i _ b hnn (hput i b hi) (hne i b hi) rfl (by rintro rfl;cases hw) hk
 ·rintro r (hk|rfl)
  ·exact R.keepLt r hk
  ·exact R.lt n _ hnn
 ·rintro i b hi hd (hk|hk)
  ·exact R.hid i b (hput i b hi) hd hk
  ·exact R.disj n i _ b hnn (hput i b hi) (hne i b hi) rfl hd hk
 ·rintro r (hk|rfl)
  ·exact R.hidLt r hk
  ·exact R.lt n _ hnn
theorem jjm{n:Nat}{cs:List AV}{u:Nat}(R0:Rel C (kp.or extra) env (h.put n (.cells cs true u)) w)(hn:h.get n=none)(hlt:n<h.size){Post:AV->Heap->Prop}{v':Value}{w':World}
  (B:Back C (extra.plus (env n).blk) kp env h w Post kp' v' w'):
  Back C extra kp env (h.put n (.cells cs true u)) w (fun r h''=>∃h',Post r h'/\HLe h h'/\h''=h'.put n (.cells cs true u)) kp' v' w':=by
 obtain⟨env1,r,h',rfl,hP,R1,K1,X,hL,hr⟩:=B;rw[kaP]at R1;have hlt0:n<h.size:=hlt;have hnn:(h.put n (.cells cs true u)).get n=some (.cells cs true u):=by rw[kaj _ _ _ _ hlt,if_pos rfl]
 have hn':h'.get n=none:=by
  have:=hL.same n hlt;rw[hn]at this;cases hx:h'.get n with
  |none=>rfl
  |some b=>rw[hx]at this;cases this
 have hlt':n<h'.size:=Nat.lt_of_lt_of_le hlt hL.size;have hX2:Ext h' env1 (updE env1 n (env n)):=jbY hn' env1 _;have hself:updE env1 n (env n) n=env n:=by simp[updE]
 have hold:∀i,i≠n->updE env1 n (env n) i=env1 i:=fun i hi=>by simp[updE,hi]
 have hX:Ext (h.put n (.cells cs true u)) env (updE env1 n (env n)):=by
  intro i hi;rcases(jnF hlt).1 hi with rfl|hi
  ·exact hself
  ·exact(hX2 i (hL.ok hi)).trans (X i hi)
 have hsz:=K1.size;have hltn:(env n).blk<w.heap.size:=R0.lt n _ hnn;have hrow:w'.heap[(env n).blk]? =w.heap[(env n).blk]? :=K1.block _ hltn (.inr rfl) fun x=>R0.hid n _ hnn (by intro x;cases x) (.inl x);have hLe:HLe (h.put n (.cells cs true u)) (h'.put n (.cells cs true u)):=by
  refine⟨hL.size,fun i hi=>?_⟩;rw[kaj _ _ _ _ hlt,kaj _ _ _ _ hlt'];by_cases e:i=n
  ·rw[if_pos e,if_pos e]
  ·rw[if_neg e,if_neg e];exact hL.same i hi
 have hg:=fun j=>kaj h' n j (.cells cs true u) hlt';have hokm:∀i,h'.ok i->(h'.put n (.cells cs true u)).ok i:=fun i hi=>(jnF hlt').2 (.inr hi);refine⟨updE env1 n (env n),r,h'.put n (.cells cs true u),?_,⟨h',hP,hL,rfl⟩,⟨?_,?_,?_,?_,?_,?_,?_,?_⟩,⟨K1.size,K1.os,K1.tape,K1.output,fun q hq he=>K1.block q hq (.inl he),K1.no,K1.no',K1.hide,fun q he=>K1.hide' q (.inl he)⟩,hX,hLe,bel_mono hokm r hr⟩
 ·rw[hX2.val hr]
 ·intro i c hc;rw[hg]at hc;by_cases e:i=n
  ·rw[e,hself];have:=R0.lt n _ hnn;omega
  ·rw[if_neg e]at hc;rw[hold i e];exact R1.lt i c hc
 ·intro i c hc;rw[hg]at hc;by_cases e:i=n
  ·rw[if_pos e]at hc;cases hc;rw[e,hself];exact(R0.blk n _ hnn).mono hX (R0.bel n _ hnn) hrow
  ·rw[if_neg e]at hc;rw[hold i e];exact(R1.blk i c hc).mono hX2 (R1.bel i c hc) rfl
 ·intro i j c d hc hd hij hw hdd;rw[hg]at hc hd;by_cases ei:i=n
  ·have ej:j≠n:=fun x=>hij (ei.trans x.symm);rw[if_neg ej]at hd;rw[ei,hself,hold j ej];exact fun x=>R1.hid j d hd hdd (.inr x)
  ·rw[if_neg ei]at hc;by_cases ej:j=n
   ·rw[ej,hself,hold i ei];exact fun x=>R1.hid i c hc (by rintro rfl;cases hw) (.inr x.symm)
   ·rw[if_neg ej]at hd;rw[hold i ei,hold j ej];exact R1.disj i j c d hc hd hij hw hdd
 ·intro i c hc;rw[hg]at hc;by_cases e:i=n
  ·rw[if_pos e]at hc;cases hc;exact kao (fun j hj=>hLe.ok hj) (R0.bel n _ hnn)
  ·rw[if_neg e]at hc;exact kao hokm (R1.bel i c hc)
 ·intro i c hc hw hk;rw[hg]at hc;by_cases e:i=n
  ·rw[e,hself]at hk;refine R0.kept n _ hnn rfl ?_;rcases hk with hk|hk
   ·exact(K1.no' _ hk).elim .inl fun y=>by omega
   ·exact .inr hk
  ·rw[if_neg e]at hc;rw[hold i e]at hk;exact R1.kept i c hc hw (.inl hk)
 ·exact fun q hq=>R1.keepLt q (.inl hq)
 ·intro i c hc hd hk;rw[hg]at hc;by_cases e:i=n
  ·rw[e,hself]at hk;refine R0.hid n _ hnn (by intro x;cases x) ?_;rcases hk with hk|hk
   ·exact(K1.hide' _ (.inr rfl) hk).elim .inl fun y=>by omega
   ·exact .inr hk
  ·rw[if_neg e]at hc;rw[hold i e]at hk;exact R1.hid i c hc hd (.inl hk)
 ·exact fun q hq=>R1.hidLt q (.inl hq)
theorem jmD{f:AV}{args:List AV}{n:Nat}{cs:List AV}{u:Nat}{Post:AV->Heap->Prop}(hc:callP C f args h Post)(hn:h.get n=none)(hlt:n<h.size)(hb:∀i b,h.get i=some b->b.bel h.ok)
  (ha:∀v∈jhm f args,v.bel h.ok):callP C f args (h.put n (.cells cs true u)) (fun r h''=>∃h',Post r h'/\HLe h h'/\h''=h'.put n (.cells cs true u)):=by
 unfold callP at hc|-;cases f with
 |func g first captured=>
  refine⟨hc.1,fun extra kp env w R hv=>?_⟩;exact(hc.2 _ kp env w (by rw[kaP];exact jnQ R hn hlt hb) ha).mono fun kp' v w' B=>jjm R hn hlt B
 |yield l=>
  intro extra kp env w R hv;obtain⟨fn,tmps,assign,body,h1,h1e,h2⟩:=hc _ kp env w (by rw[kaP];exact jnQ R hn hlt hb) ha;exact⟨fn,tmps,assign,body,h1,h1e,h2.mono fun kp' v w' B=>jjm R hn hlt B⟩
 |_=>exact hc
theorem jjn{f:AV}{Post:AV->Heap->Prop}(hc:callP C f args h Post):callP C f args h (fun r h'=>Post r h'/\HLe h h'/\r.bel h'.ok/\∃keep env w,Rel C keep env h' w):=by
 have hb:∀extra kp env w kp' v w',Back C extra kp env h w Post kp' v w'->Back C extra kp env h w (fun r h'=>Post r h'/\HLe h h'/\r.bel h'.ok/\∃keep env w,Rel C keep env h' w) kp' v w':=by
  rintro extra kp env w kp' v w' ⟨env',r,h',a,b,c,d,e1,f1,g1⟩;exact⟨env',r,h',a,⟨b,f1,g1,_,env',w',c⟩,c,d,e1,f1,g1⟩
 unfold callP at hc|-;cases f with
 |func g first captured=>exact⟨hc.1,fun extra kp env w R hv=>(hc.2 extra kp env w R hv).mono fun kp' v w'=>hb extra kp env w kp' v w'⟩
 |yield l=>
  intro extra kp env w R hv;obtain⟨fn,tmps,assign,body,h1,h1e,h2⟩:=hc extra kp env w R hv;exact⟨fn,tmps,assign,body,h1,h1e,h2.mono fun kp' v w'=>hb extra kp env w kp' v w'⟩
 |_=>exact hc
theorem jjo{f:AV}{Post:AV->Heap->Prop}(hc:callP C f args h Post)(R:Rel C keep env h w)(ha:∀v∈jhm f args,v.bel h.ok):∃r h',Post r h':=by
 rw[<-ka8 keep]at R;obtain⟨J,hJ,h1,h2⟩:=C.ends (∃r h',Post r h');unfold callP at hc;cases f with
 |func g first captured=>
  exact h2 _ _ (hc.2 keep kas env w R ha J hJ [] fun kp' v w' fr ⟨_,r,h',_,hP,_⟩ _=>h1 _ _ _ ⟨r,h',hP⟩)
 |yield l=>
  obtain⟨fn,tmps,assign,body,_,_,h3⟩:=hc keep kas env w R ha;exact h2 _ _ (h3 J hJ (Frame.enter C.P fn #[] .normal) [] fun kp' v w' ⟨_,r,h',_,hP,_⟩=>h1 _ _ _ ⟨r,h',hP⟩)
 |_=>exact hc.elim
end
section
variable {C : Ctx} {base : Nat} {nt : Nat} {ops : Array Oper}
def Src(C:Ctx)(nt:Nat)(ops:Array Oper)(d:DItem):Prop:=∃o,ops[d.k]? =some o/\jar C.P C.inv nt ops o=d.o
def Can(C:Ctx)(st:St):Prop:=(∃keep env w,Rel C keep env st.h w)/\∀s,(st.t s).bel st.h.ok
theorem jmE{x:Operand}{ax:AOpd}(hx:lowerOpd C.inv x=some ax){t:Nat->AV}{p:Nat->Prop}(hb:∀s,(t s).bel p):(ax.ev t).bel p:=by
 cases x with
 |tmp s=>cases hx;exact hb s
 |const v=>
  simp only[lowerOpd,Option.map_eq_some_iff]at hx;obtain⟨b,h1,rfl⟩:=hx;exact(jgf h1 C.lk (fun _=>default) p).2
 |global g=>cases hx
 |func f=>
  simp only[lowerOpd,Option.map_eq_some_iff]at hx;obtain⟨b,h1,rfl⟩:=hx;exact⟨trivial,trivial⟩
theorem jnR{t:Nat->AV}{p:Nat->Prop}(hb:∀s,(t s).bel p):∀{xs:List Operand} {zas:List AOpd},lowerOpds C.inv xs=some zas->∀v∈zas.map (·.ev t),v.bel p
 |[],zas,hx=>by cases hx;simp
 | x :: xs, zas, hx => by
  unfold lowerOpds at hx;split at hx
  ·rename_i a as' h1 h2;cases hx;intro v hv;simp only[List.map_cons,List.mem_cons]at hv;rcases hv with rfl|hv
   ·exact jmE h1 hb
   ·exact jnR hb h2 v hv
  ·cases hx
theorem ji3{op:Op}{f:AOpd}{args:List AOpd}(h1:lowerOp C.P C.inv op=some (.call f args)):∃fo xs,lowerOpd C.inv fo=some f/\lowerOpds C.inv xs=some args:=by
 cases op with
 | call c =>
  have h1':jbc C.P C.inv c=some (.call f args):=h1;unfold jbc at h1';split at h1'
  ·rename_i args' hargs;split at h1'
   ·rename_i fo hcal;simp only[Option.map_eq_some_iff]at h1';obtain⟨f',hf',he⟩:=h1';cases he;exact⟨fo,_,hf',hargs⟩
   ·rename_i b hcal;unfold ja7 at h1'
    repeat' split at h1'
    all_goals first
     |(cases h1';done)
     |(simp only[Option.map_eq_some_iff]at h1';obtain⟨_,_,h1'⟩:=h1';cases h1';done)
   ·cases h1'
  ·cases h1'
 |makeFunc fn x y=>
  exfalso;cases fn<;>simp only[lowerOp]at h1;all_goals first|(cases h1;done)|((repeat' split at h1)<;>cases h1;done)
 |makeMap _ _=>exact(jbt (P:=C.P) (inv:=C.inv) (op:=.makeMap _ _) h1).elim
 |mapUpdate _ _ _ _=>exact(jbt (P:=C.P) (inv:=C.inv) (op:=.mapUpdate _ _ _ _) h1).elim
 |insert _ _ _ _=>exact(jbt (P:=C.P) (inv:=C.inv) (op:=.insert _ _ _ _) h1).elim
 |lookup _ _ _ _=>exact(jbt (P:=C.P) (inv:=C.inv) (op:=.lookup _ _ _ _) h1).elim
 | _ =>
  exfalso
  first
   |(simp only[lowerOp]at h1;(repeat' split at h1)<;>first|(cases h1;done)|(simp only[Option.map_eq_some_iff]at h1;obtain⟨_,_,h1⟩:=h1;cases h1;done))
   |(unfold lowerOp at h1;simp only[jbF,jaL]at h1;(repeat' split at h1)<;>first|(cases h1;done)|(simp only[Option.map_eq_some_iff]at h1;obtain⟨_,_,h1⟩:=h1;cases h1;done))
theorem Src.op{d:DItem}(hs:Src C nt ops d):(∃s,d.o.op=.refuse s)\/∃o:Oper,lowerOp C.P C.inv o.op=some d.o.op:=by
 obtain⟨o,_,h⟩:=hs;unfold jar at h;split at h
 ·rename_i aop g h1 h2 h3;rw[<-h];exact .inr ⟨o,h1⟩
 ·rw[<-h];exact .inl ⟨_,rfl⟩
theorem Src.vals{d:DItem}(hs:Src C nt ops d){f:AOpd}{args:List AOpd}(ho:d.o.op=.call f args){t:Nat->AV}{p:Nat->Prop}(hb:∀s,(t s).bel p):
  ∀v∈jhm (f.ev t) (args.map (·.ev t)),v.bel p:=by
 rcases hs.op with⟨s,h⟩|⟨o,h⟩
 ·rw[ho]at h;cases h
 ·rw[ho]at h;obtain⟨fo,xs,hf,hx⟩:=ji3 h;have h1:=jmE (t:=t) (p:=p) hf hb;have h2:=jnR (t:=t) (p:=p) hb hx;intro v hv;unfold jhm at hv;split at hv
  ·rename_i g first captured hfe
   rw[hfe]at h1;rcases List.mem_append.1 hv with hv|hv
   ·rcases List.mem_append.1 hv with hv|hv
    ·exact(ja9 _ _).1 h1.1 v hv
    ·exact h2 v hv
   ·exact(ja9 _ _).1 h1.2 v hv
  ·exact h2 v hv
theorem Can.put(hc:Can C st){v:AV}{d:Option Nat}(hr:∃keep env w,Rel C keep env h' w)(hg:HGrow st.h h')(hv:v.bel h'.ok):Can C ⟨updO st.t d v,h',st.m⟩:=by
 refine⟨hr,fun s=>?_⟩;have h0:(st.t s).bel h'.ok:=bel_mono (fun i hi=>hg.same i hi) _ (hc.2 s);cases d with
 |none=>exact h0
 |some q=>
  simp only[updO,upd];split
  ·exact hv
  ·exact h0
theorem Can.op(hc:Can C st){d:DItem}(hs:Src C nt ops d){v:AV}(hv:aOp nid d.o.op (·.ev st.t) st.h=some (v,h'))(ds:Option Nat):Can C ⟨updO st.t ds v,h',st.m⟩/\st.h.size<=h'.size:=by
 rcases hs.op with⟨s,h⟩|⟨o,h⟩
 ·rw[h]at hv;simp[aOp,pureA]at hv
 ·obtain⟨keep,env,w,R⟩:=hc.1;obtain⟨env',w',V,_,_,R',_,_,hG,_,hb⟩:=jhM R (ρ:=fun x=>match lowerOpd C.inv x with|some ax=>(ax.ev st.t).val C.lk env|none=>undef) (ev:=(·.ev st.t))
   (fun x ax hx=>⟨by simp only[hx],jmE hx hc.2⟩) (fun _=>rfl) h hv
  exact⟨hc.put ⟨keep,env',w',R'⟩ hG hb,hG.size⟩
theorem jgu{d:DItem}(hs:Src C nt ops d){a b:Acc}{K K':Acc->St->Prop}{st:St}(hc:Can C st)(hab:AccLe a b)
  (hK:∀a b v h',AccLe a b->st.h.size<=h'.size->Can C ⟨updO st.t d.o.dst v,h',st.m⟩->K b ⟨updO st.t d.o.dst v,h',st.m⟩->K' a ⟨updO st.t d.o.dst v,h',st.m⟩)
  (h:stepD C base d b K st):stepD C base d a K' st:=by
 cases hg:gOn d.o.guard st.t with
 |false=>
  rw[jce hg]at h|-;exact hK _ _ _ _ hab (Nat.le_refl _) (hc.put hc.1 (kay _) trivial) h
 |true=>
  by_cases h2:cls d.o.op=2
  ·cases hop:d.o.op<;>rw[hop]at h2<;>simp[cls]at h2;rw[jbR hop hg]at h|-;refine jb3 (fun r h' q=>?_) (jjn h);obtain⟨⟨q1,q2⟩,q3,q4,q5⟩:=q;exact⟨jmC hab q1,hK _ _ _ _ hab q3.size (hc.put q5 q3.grow q4) q2⟩
  ·rw[jbA h2 hg]at h|-;obtain⟨v,h',h1,h2,h3⟩:=h;have:=hc.op hs h2 d.o.dst;exact⟨v,h',jp6 hab h1,h2,hK _ _ _ _ (jlp hab _ _ _) this.2 this.1 h3⟩
theorem jh2{x:DItem}{y:AOper}(A:Apart y x.o){acc:Acc}{K:Acc->St->Prop}{t:Nat->AV}{h:Heap}{m:List Nat}(v:AV):
  stepD C base x acc K ⟨updO t y.dst v,h,m⟩↔stepD C base x acc (fun a st'=>K a ⟨updO st'.t y.dst v,st'.h,st'.m⟩) ⟨t,h,m⟩:=by
 have comm:∀r,updO (updO t y.dst v) x.o.dst r=updO (updO t x.o.dst r) y.dst v:=fun r=>jfU A.b;have hon:=A.on t v;have hev:=A.ev t v;cases hg:gOn x.o.guard t with
 |false=>rw[jce (by rw[hon];exact hg),jce hg];dsimp only;rw[comm]
 |true=>
  by_cases h2:cls x.o.op=2
  ·cases hop:x.o.op<;>rw[hop]at h2<;>simp[cls]at h2;rename_i f args;rw[jbR hop (by rw[hon];exact hg),jbR hop hg];rw[hop]at hev;have e1:f.ev (updO t y.dst v)=f.ev t:=hev f (by simp[AOp.opds]);have e2:args.map (·.ev (updO t y.dst v))=args.map (·.ev t):=List.map_congr_left fun o ho=>hev o (by simp[AOp.opds,ho]);unfold stepC;dsimp only;rw[e1,e2];simp only[comm]
  ·rw[jbA h2 (by rw[hon];exact hg),jbA h2 hg];have e1:=jdD (op:=x.o.op) (ev:=(·.ev t)) (ev':=(·.ev (updO t y.dst v))) hev (some (base+x.k)) h;have e2:=jb2 (op:=x.o.op) (ev:=(·.ev t)) (ev':=(·.ev (updO t y.dst v))) hev (base+x.k);unfold stepO chkP jbK;dsimp only;rw[e1,e2.1,e2.2];simp only[comm]
structure SwapOk (x y:DItem):Prop where
 apart:Apart x.o y.o
 ne:x.k≠y.k
 nck:y.k∉x.ck
 cls:(cls x.o.op≠2/\cls y.o.op≠2/\(autoB (cls x.o.op) (cls y.o.op)=true\/(x.k∈y.ck/\x.mem=true)))\/
  (cls y.o.op=2/\cls x.o.op<=1/\(cls x.o.op=1->x.k∈y.ck/\x.mem=true))\/(cls x.o.op=2/\cls y.o.op=5)
theorem jmF{a:Acc}{x y:DItem}{ex ey ex' ey':AOpd->AV}{nx ny:Nat}(hx:∀o∈x.o.op.opds,ex' o=ex o)(hy:∀o∈y.o.op.opds,ey' o=ey o):
  AccLe (jbK x ex' nx (jbK y ey' ny a)) (jbK y ey ny (jbK x ex nx a)):=by
 have q1:=jb2 hx nx;have q2:=jb2 hy ny;intro e he;unfold jbK at he|-;rw[q1.1,q1.2,q2.1,q2.2]at he;cases hxm:x.mem<;>cases hym:y.mem<;>simp only[hxm,hym,if_true,if_false,Bool.false_eq_true,List.mem_cons]at he|-
 ·exact he
 ·exact he
 ·exact he
 ·rcases he with he|he|he
  ·exact .inr (.inl he)
  ·exact .inl he
  ·exact .inr (.inr he)
theorem jtK{a:Acc}{x y:DItem}{ey ex:AOpd->AV}{nx ny:Nat}(h:chkP a x.ck x.o.op ex nx)(hn:y.k∉x.ck):chkP (jbK y ey ny a) x.ck x.o.op ex nx:=by
 intro e he hm;unfold jbK at he;split at he
 ·rcases List.mem_cons.1 he with rfl|he
  ·exact absurd hm hn
  ·exact h e he hm
 ·exact h e he hm
theorem jp7(a:Acc)(x:DItem)(ex:AOpd->AV)(nx:Nat):AccLe a (jbK x ex nx a):=by
 intro e he;unfold jbK;split
 ·exact List.mem_cons_of_mem _ he
 ·exact he
theorem joH{a:Acc}{x y:DItem}{ey ex:AOpd->AV}{nx ny:Nat}(h:chkP (jbK y ey ny a) x.ck x.o.op ex nx):chkP a x.ck x.o.op ex nx:=by
 intro e he hm;refine h e ?_ hm;unfold jbK;split
 ·exact List.mem_cons_of_mem _ he
 ·exact he
theorem jr5{x y:DItem}(S:SwapOk x y)(hx2:cls x.o.op≠2)(hy2:cls y.o.op≠2){acc:Acc}{K:Acc->St->Prop}{st:St}(hK:∀a b st',AccLe a b->K b st'->K a st')
  (h:stepO base x acc (fun a st'=>stepO base y a K st') st):stepO base y acc (fun a st'=>stepO base x a K st') st:=by
 obtain⟨v,h1,cx,ex,u,h2,cy,ey,hk⟩:=h;dsimp only at cy ey hk;have hevy:=S.apart.ev st.t v;have hevx:=S.apart.symm.ev st.t u;have ey':=ey;rw[jdD (op:=y.o.op) (ev:=(·.ev st.t)) (ev':=(·.ev (updO st.t x.o.dst v))) hevy]at ey';have fy:=jb2 (op:=y.o.op) (ev:=(·.ev st.t)) (ev':=(·.ev (updO st.t x.o.dst v))) hevy (base+y.k);have fx:=jb2 (op:=x.o.op) (ev:=(·.ev st.t)) (ev':=(·.ev (updO st.t y.o.dst u))) hevx (base+x.k);have Lx:=jln hx2 ex;have Ly:=jln hy2 ey';have disj:(∀a∈wrA x.o.op (·.ev st.t) (base+x.k),a∉footA y.o.op (·.ev st.t) (base+y.k))/\(∀a∈footA x.o.op (·.ev st.t) (base+x.k),a∉wrA y.o.op (·.ev st.t) (base+y.k)):=by
  rcases S.cls with⟨_,_,hc⟩|⟨hc,_⟩|⟨hc,_⟩
  ·rcases hc with hc|⟨hc,hm⟩
   ·simp only[autoB,Bool.or_eq_true,Bool.and_eq_true,decide_eq_true_eq,beq_iff_eq,bne_iff_ne]at hc;rcases hc with((hc|hc)|hc)|hc
    ·simp[wr1 hc.1,wr1 hc.2]
    ·simp[wr1 (show cls x.o.op<=1 by omega),foot0 hc]
    ·simp[wr1 (show cls y.o.op<=1 by omega),foot0 hc]
    ·obtain⟨hn,hlt,_⟩:=jj7 hc.2 ey';have key:base+y.k∉footA x.o.op (·.ev st.t) (base+x.k):=by
      intro hm;rcases Lx.live _ hm with e|e
      ·exact S.ne (by omega)
      ·exact Lx.grow _ e hn
     refine⟨fun a ha=>?_,fun a ha=>?_⟩
     ·rw[foot5 hc.2];simp only[List.mem_singleton];rintro rfl;exact key (Lx.sub _ ha)
     ·rw[wr5 hc.2];simp only[List.mem_singleton];rintro rfl;exact key ha
   ·have q:=cy (x.k,footA x.o.op (·.ev st.t) (base+x.k),wrA x.o.op (·.ev st.t) (base+x.k)) (by simp[jbK,hm]) hc;rw[fy.1,fy.2]at q;exact⟨q.2,q.1⟩
  ·exact absurd hc hy2
  ·exact absurd hc hx2
 obtain⟨D1,D2⟩:=disj;have agy:∀i∈footA y.o.op (·.ev st.t) (base+y.k),st.h.get i=h1.get i:=fun i hi=>(Lx.off i fun hw=>D1 i hw hi).symm;obtain⟨h1',e1,s1,g1,o1⟩:=Ly.re st.h Lx.size.symm agy;have agx:∀i∈footA x.o.op (·.ev st.t) (base+x.k),h1'.get i=st.h.get i:=fun i hi=>o1 i (D2 i hi);obtain⟨h2',e2,s2,g2,o2⟩:=Lx.re h1' (by rw[s1,Lx.size]) agx;have heq:h2'=h2:=by
  refine kbz (by rw[s2,Ly.size,Lx.size]) fun i=>?_;by_cases hix:i∈wrA x.o.op (·.ev st.t) (base+x.k)
  ·rw[g2 i hix];exact(Ly.off i fun hw=>D1 i hix (Ly.sub i hw)).symm
  ·rw[o2 i hix];by_cases hiy:i∈wrA y.o.op (·.ev st.t) (base+y.k)
   ·exact g1 i hiy
   ·rw[o1 i hiy,Ly.off i hiy,Lx.off i hix]
 subst heq;refine⟨u,h1',?_,e1,v,h2',?_,?_,?_⟩
 ·have:=joH cy;intro e he hm;have:=this e he hm;rw[fy.1,fy.2]at this;exact this
 ·refine jtK ?_ S.nck;intro e he hm;have:=cx e he hm;dsimp only;rw[fx.1,fx.2];exact this
 ·dsimp only;rw[jdD (op:=x.o.op) (ev:=(·.ev st.t)) (ev':=(·.ev (updO st.t y.o.dst u))) hevx];exact e2
 ·dsimp only;rw[<-jfU S.apart.b];refine hK _ _ _ ?_ hk;exact jmF (ex:=(·.ev st.t)) (ex':=(·.ev (updO st.t y.o.dst u))) (ey:=(·.ev (updO st.t x.o.dst v))) (ey':=(·.ev st.t)) hevx (fun o ho=>(hevy o ho).symm)
theorem jp8{x y:DItem}(hx:Src C nt ops x)(hy:Src C nt ops y)(S:SwapOk x y){acc:Acc}{K:Acc->St->Prop}{st:St}(hc:Can C st)(hroom:cls y.o.op=5->base+y.k<st.h.size)(hK:∀a b st',AccLe a b->K b st'->K a st')
  (h:stepD C base x acc (fun a st'=>stepD C base y a K st') st):stepD C base y acc (fun a st'=>stepD C base x a K st') st:=by
 have A:=S.apart;have A':=A.symm;cases gx:gOn x.o.guard st.t with
 |false=>
  rw[jce gx]at h;have h':=(jh2 (C:=C) (base:=base) (x:=y) A (t:=st.t) (h:=st.h) (m:=st.m) (K:=K) (acc:=acc) .undef).1 h;refine jgu hy hc (kaD _) (fun a b v h1 hab _ _ hq=>?_) h';rw[jce (by show gOn x.o.guard (updO st.t y.o.dst v)=false;rw[A'.on];exact gx)];exact hK _ _ _ hab hq
 | true =>
  cases gy:gOn y.o.guard st.t with
  |false=>
   rw[jce gy];refine(jh2 (C:=C) (base:=base) (x:=x) A' (t:=st.t) (h:=st.h) (m:=st.m) (K:=K) (acc:=acc) .undef).2 ?_;refine jgu hx hc (kaD _) (fun a b v h1 hab _ _ hq=>?_) h;rw[jce (by show gOn y.o.guard (updO st.t x.o.dst v)=false;rw[A.on];exact gy)]at hq;exact hK _ _ _ hab hq
  | true =>
   by_cases hx2:cls x.o.op=2
   ·-- a call, and behind it a new block
    have hy5:cls y.o.op=5:=by
     rcases S.cls with⟨q,_⟩|⟨q1,q2,_⟩|⟨_,q⟩
     ·exact absurd hx2 q
     ·omega
     ·exact q
    have hy2:cls y.o.op≠2:=by omega
    cases hop:x.o.op<;>rw[hop]at hx2<;>simp[cls]at hx2;rename_i f args;rw[jbR hop gx]at h;have hvals:=hx.vals hop hc.2;have hm:=jjn h;obtain⟨keep0,env0,w0,R0⟩:=hc.1;obtain⟨r0,h0,⟨_,hq0⟩,hL0,_⟩:=jjo hm R0 hvals;have hony:∀r h',gOn y.o.guard (St.t ⟨updO st.t x.o.dst r,h',st.m⟩)=true:=fun r h'=>by show gOn y.o.guard (updO st.t x.o.dst r)=true;rw[A.on];exact gy
    rw[jbA hy2 (hony r0 h0)]at hq0;obtain⟨u,h2,_,ey0,_⟩:=hq0;dsimp only at ey0;have cong:∀r h',aOp (some (base+y.k)) y.o.op (·.ev (updO st.t x.o.dst r)) h'=aOp (some (base+y.k)) y.o.op (·.ev st.t) h':=fun r h'=>
     jdD (op:=y.o.op) (ev:=(·.ev st.t)) (ev':=(·.ev (updO st.t x.o.dst r))) (A.ev st.t r) _ h'
    rw[cong]at ey0;obtain⟨hn0,hlt0,cs,_,hre⟩:=jj7 hy5 ey0;have hlt:=hroom hy5;have hback:∀h':Heap,HLe st.h h'->h'.get (base+y.k)=none->st.h.get (base+y.k)=none:=by
     intro h' hL hn;have:=hL.same _ hlt;rw[hn]at this;cases hg:st.h.get (base+y.k)with
     |none=>rfl
     |some b=>rw[hg]at this;cases this
    have hn:=hback h0 hL0 hn0;have ey:=hre st.h hlt hn;rw[jbA hy2 gy]
    -- the checks of y do not hang on the call
    obtain⟨q1,q2⟩:=jjo hm R0 hvals;have hchk:chkP acc y.ck y.o.op (·.ev st.t) (base+y.k):=by
     obtain⟨h',⟨_,hq⟩,_⟩:=q2;rw[jbA hy2 (hony q1 h')]at hq;obtain⟨_,_,hch,_,_⟩:=hq;have fy:=jb2 (op:=y.o.op) (ev:=(·.ev st.t)) (ev':=(·.ev (updO st.t x.o.dst q1))) (A.ev st.t q1) (base+y.k);intro e he hmm;have:=hch e he hmm;dsimp only at this;rw[fy.1,fy.2]at this;exact this
    refine⟨u,_,hchk,ey,?_⟩;show stepD C base x _ K _;rw[jbR hop (by show gOn x.o.guard (updO st.t y.o.dst u)=true;rw[A'.on];exact gx)];have hevx:=A'.ev st.t u;rw[hop]at hevx;have e1:f.ev (updO st.t y.o.dst u)=f.ev st.t:=hevx f (by simp[AOp.opds]);have e2:args.map (·.ev (updO st.t y.o.dst u))=args.map (·.ev st.t):=List.map_congr_left fun o ho=>hevx o (by simp[AOp.opds,ho]);unfold stepC;dsimp only;rw[e1,e2];refine jb3 (fun r h'' q=>?_) (jmD (cs:=cs) (u:=0) hm hn hlt (fun i b hi=>R0.bel i b hi) hvals);obtain⟨h',⟨⟨hsame,hq⟩,hL,_⟩,_,rfl⟩:=q;refine⟨fun e he hm i hi=>?_,?_⟩
    ·rw[kaj _ _ _ _ hlt,kaj _ _ _ _ (Nat.lt_of_lt_of_le hlt hL.size)];by_cases ei:i=base+y.k
     ·rw[if_pos ei,if_pos ei]
     ·rw[if_neg ei,if_neg ei];refine hsame e ?_ hm i hi;unfold jbK at he;split at he
      ·rcases List.mem_cons.1 he with rfl|he
       ·exact absurd hm S.nck
       ·exact he
      ·exact he
    ·rw[jbA hy2 (hony r h')]at hq;obtain⟨u',h3,_,ey3,hk⟩:=hq;dsimp only at ey3 hk;rw[cong]at ey3;obtain⟨hn3,hlt3,_⟩:=jj7 hy5 ey3;rw[hre h' hlt3 hn3]at ey3;cases ey3;rw[<-jfU A.b];refine hK _ _ _ ?_ hk;unfold jbK;have fy:=jb2 (op:=y.o.op) (ev:=(·.ev st.t)) (ev':=(·.ev (updO st.t x.o.dst r))) (A.ev st.t r) (base+y.k);rw[fy.1,fy.2];exact kaD _
   ·by_cases hy2:cls y.o.op=2
    ·-- a look, and behind it a call
     have hq:cls x.o.op<=1/\(cls x.o.op=1->x.k∈y.ck/\x.mem=true):=by
      rcases S.cls with⟨_,q,_⟩|⟨_,q⟩|⟨q,_⟩
      ·exact absurd hy2 q
      ·exact q
      ·exact absurd q hx2
     rw[jbA hx2 gx]at h;obtain⟨v,h1,cx,ex,h⟩:=h;rw[jhn hq.1]at ex;simp only[Option.map_eq_some_iff,Prod.mk.injEq]at ex;obtain⟨v',ex,rfl,rfl⟩:=ex;cases hop:y.o.op<;>rw[hop]at hy2<;>simp[cls]at hy2;rename_i f args;rw[jbR hop (by show gOn y.o.guard (updO st.t x.o.dst v')=true;rw[A.on];exact gy)]at h;rw[jbR hop gy];have hevy:=A.ev st.t v';rw[hop]at hevy;have e1:f.ev (updO st.t x.o.dst v')=f.ev st.t:=hevy f (by simp[AOp.opds]);have e2:args.map (·.ev (updO st.t x.o.dst v'))=args.map (·.ev st.t):=List.map_congr_left fun o ho=>hevy o (by simp[AOp.opds,ho])
     unfold stepC at h|-;dsimp only at h;rw[e1,e2]at h;refine jb3 (fun r h' q=>⟨jmC (jp7 _ _ _ _) q.1,?_⟩) h;show stepD C base x _ K _;rw[jbA hx2 (by show gOn x.o.guard (updO st.t y.o.dst r)=true;rw[A'.on];exact gx)];have hevx:=A'.ev st.t r;have fx:=jb2 (op:=x.o.op) (ev:=(·.ev st.t)) (ev':=(·.ev (updO st.t y.o.dst r))) hevx (base+x.k);have agree:∀i∈footA x.o.op (·.ev st.t) (base+x.k),h'.get i=st.h.get i:=by
      intro i hi;rcases Nat.lt_or_ge (cls x.o.op) 1 with h01|h01
      ·rw[foot0 (by omega)]at hi;cases hi
      ·have hx:=hq.2 (by omega);exact q.1 (x.k,footA x.o.op (·.ev st.t) (base+x.k),wrA x.o.op (·.ev st.t) (base+x.k)) (by simp[jbK,hx.2]) hx.1 i hi
     refine⟨v',h',?_,?_,?_⟩
     ·intro e he hmm;have:=cx e he hmm;dsimp only;rw[fx.1,fx.2];exact this
     ·dsimp only;rw[jdD (op:=x.o.op) (ev:=(·.ev st.t)) (ev':=(·.ev (updO st.t y.o.dst r))) hevx,jhn hq.1,(jgs (h2:=h') hq.1 ex).2 agree];rfl
     ·dsimp only;rw[<-jfU A.b];refine hK _ _ _ ?_ q.2;unfold jbK;rw[fx.1,fx.2];exact kaD _
    ·have e1:stepO base x acc (fun a st'=>stepO base y a K st') st:=by
      rw[jbA hx2 gx]at h;obtain⟨v,h1,cx,ex,h⟩:=h;rw[jbA hy2 (by show gOn y.o.guard (updO st.t x.o.dst v)=true;rw[A.on];exact gy)]at h;exact⟨v,h1,cx,ex,h⟩
     obtain⟨u,h1,cy,ey,q⟩:=jr5 S hx2 hy2 hK e1;rw[jbA hy2 gy];refine⟨u,h1,cy,ey,?_⟩;show stepD C base x _ K _;rw[jbA hx2 (by show gOn x.o.guard (updO st.t y.o.dst u)=true;rw[A'.on];exact gx)];exact q
theorem bubble{y:DItem}(hy:Src C nt ops y){post:List DItem}{K:St->Prop}:∀(pre:List DItem) (acc:Acc) (st:St),(∀x∈pre,Src C nt ops x/\SwapOk x y)->Can C st->(cls y.o.op=5->base+y.k<st.h.size)->
  wpD C base (pre++y::post) acc K st->wpD C base (y::(pre++post)) acc K st
 |[],_,_,_,_,_,h=>h
 | x :: pre, acc, st, hp, hc, hr, h => by
  have h':stepD C base x acc (fun a st'=>wpD C base (pre++y::post) a K st') st:=h;have hxp:=hp x (by simp);have h2:stepD C base x acc (fun a st'=>stepD C base y a (fun a' st''=>wpD C base (pre++post) a' K st'') st') st:=
   jgu hxp.1 hc (kaD _) (fun a b v h1 hab hsz hcan hq=>
    bubble hy pre a _ (fun z hz=>hp z (by simp[hz])) hcan (fun e=>Nat.lt_of_lt_of_le (hr e) hsz) (jj9 _ hab hq)) h'
  exact jp8 hxp.1 hy hxp.2 hc hr (fun a b st' hab=>jj9 _ hab) h2
end
section
variable {C : Ctx} {extra kp : Keep} {base : Nat} {nt : Nat} {ops : Array Oper}
theorem jlq(f:Edge->Nat)(x:Nat):∀(l:List Edge) (s:Nat),(l.foldl (fun s e=>if Region.binds .any e then s|||2^e.on|||f e else s) s).testBit x=true->
  s.testBit x=true\/∃e∈l,Region.binds .any e=true/\(e.on=x\/(f e).testBit x=true)
 |[],s,h=>.inl h
 | e :: l, s, h => by
  rcases jlq f x l _ h with h|⟨e',he,hb,hx⟩
  ·dsimp only at h;split at h
   ·rename_i hb;simp only[Nat.testBit_or,Bool.or_eq_true,Nat.testBit_two_pow,decide_eq_true_eq]at h;rcases h with(h|h)|h
    ·exact .inl h
    ·exact .inr ⟨e,by simp,hb,.inl h⟩
    ·exact .inr ⟨e,by simp,hb,.inr h⟩
   ·exact .inl h
  ·exact .inr ⟨e',by simp[he],hb,hx⟩
theorem jh3:∀(os:List Oper) (acc:List Nat) (i:Nat),i<acc.length->(os.foldl jcw acc).getD i 0=acc.getD i 0
 |[],acc,i,h=>rfl
 |o::os,acc,i,h=>by
  simp only[List.foldl_cons];rw[jh3 os _ i (by simp[jcw];omega)];simp only[jcw,List.getD_eq_getElem?_getD];rw[List.getElem?_append_left h]
theorem jlr(x:Nat):∀(os:List Oper) (acc:List Nat) (j:Nat) (o:Oper),acc.length<=j->os[j-acc.length]? =some o->((os.foldl jcw acc).getD j 0).testBit x=true->
  ∃e∈o.after.toList,Region.binds .any e=true/\(e.on=x\/((os.foldl jcw acc).getD e.on 0).testBit x=true)
 |[],acc,j,o,hj,ho,h=>by simp at ho
 | p :: os, acc, j, o, hj, ho, h => by
  simp only[List.foldl_cons]at h|-;have hlen:(jcw acc p).length=acc.length+1:=by simp[jcw]
  rcases Nat.lt_or_ge acc.length j with hlt|hge
  ·refine jlr x os _ j o (by omega) ?_ h;rw[hlen];rw[show j-acc.length=(j-(acc.length+1))+1 from by omega]at ho;simpa using ho
  ·have hj':j=acc.length:=by omega
   subst hj';simp only[Nat.sub_self,List.getElem?_cons_zero,Option.some.injEq]at ho;subst ho;rw[jh3 os _ _ (by omega)]at h;simp only[jcw,List.getD_eq_getElem?_getD]at h;rw[List.getElem?_append_right (Nat.le_refl _)]at h;simp only[Nat.sub_self,List.getElem?_cons_zero,Option.getD_some]at h;rcases jlq _ x _ _ h with h|⟨e,he,hb,hx⟩
   ·simp at h
   ·refine⟨e,he,hb,?_⟩;rcases hx with hx|hx
    ·exact .inl hx
    ·right;have hlt:e.on<acc.length:=by
      rcases Nat.lt_or_ge e.on acc.length with q|q
      ·exact q
      ·simp[List.getElem?_eq_none q]at hx
     rw[jh3 os _ _ (by omega)];simp only[jcw,List.getD_eq_getElem?_getD];rw[List.getElem?_append_left hlt];simpa using hx
theorem joI{j x:Nat}{o:Oper}(ho:ops[j]? =some o)(h:((masks ops).getD j 0).testBit x=true):
  ∃e∈o.after,Region.binds .any e=true/\(e.on=x\/((masks ops).getD e.on 0).testBit x=true):=by
 obtain⟨e,he,hb,hx⟩:=jlr x ops.toList [] j o (Nat.zero_le _) (by simpa using ho) h;exact⟨e,by simpa using he,hb,hx⟩
def Row(ms:List Nat)(x y:DItem):Prop:=x.k≠y.k/\((ms.getD y.k 0).testBit x.k=true\/SwapOk x y)
theorem jfn{ms:List Nat}{os:List AOper}:∀{ys ahead:List Nat} {p:Nat×List Nat},p∈jcM ms os ahead ys->p.1∈ys/\∃ahead',(∀a∈ahead,a∈ahead')/\p.2=jhj ms os ahead' p.1
 |[],_,_,h=>by cases h
 |y::ys,ahead,p,h=>by
  simp only[jcM,List.mem_cons]at h;rcases h with rfl|h
  ·exact⟨by simp,ahead,fun _=>id,rfl⟩
  ·obtain⟨h1,a',h2,h3⟩:=jfn h;exact⟨by simp[h1],a',fun a ha=>h2 a (by simp[ha]),h3⟩
theorem jh4:∀{l:List Nat},nodupB l=true->l.Pairwise (· ≠ ·)
 |[],_=>.nil
 |x::xs,h=>by
  simp only[nodupB,Bool.and_eq_true,Bool.not_eq_true',List.contains_eq_mem,decide_eq_false_iff_not]at h;refine .cons (fun y hy e=>h.1 (e▸hy)) (jh4 h.2)
theorem jp9{ms:List Nat}{os:List AOper}{cks:List Nat}:∀(ys ahead:List Nat),jnD ms os ys=true->ys.Pairwise (· ≠ ·)->(∀a∈ahead,a∉ys)->(∀p∈jcM ms os ahead ys,∀c∈p.2,c∈cks)->
  ((jcM ms os ahead ys).map fun(p:Nat×List Nat)=>({k:=p.1,mem:=cks.contains p.1,ck:=p.2,o:=os.getD p.1 default}:DItem)).Pairwise (Row ms)
 |[],_,_,_,_,_=>.nil
 | y :: ys, ahead, hp, hn, ha, hc => by
  simp only[jnD,Bool.and_eq_true,List.all_eq_true]at hp;have hn1:=List.pairwise_cons.1 hn;simp only[jcM,List.map_cons];refine .cons ?_ (jp9 ys (ahead++[y]) hp.2 hn1.2 ?_ fun p hpp=>hc p (by simp[jcM,hpp]))
  ·intro d hd;obtain⟨p,hpm,rfl⟩:=List.mem_map.1 hd;obtain⟨h1,ahead',h2,h3⟩:=jfn hpm;have hya:y∈ahead':=h2 y (by simp);refine⟨hn1.1 _ h1,?_⟩;have hpair:=hp.1 _ h1;simp only[Bool.or_eq_true]at hpair;rcases hpair with hm|hpair
   ·exact .inl hm
   ·cases hmm:(ms.getD p.1 0).testBit y with
    |true=>exact .inl rfl
    | false =>
     right;simp only[pairB,Bool.and_eq_true,bne_iff_ne]at hpair;obtain⟨⟨⟨hap,_⟩,_⟩,hcl⟩:=hpair;have hck:(if cls (os.getD y default).op==2 then cls (os.getD p.1 default).op==5 else if cls (os.getD p.1 default).op==2 then cls (os.getD y default).op==1 else !autoB (cls (os.getD y default).op) (cls (os.getD p.1 default).op))=true->y∈p.2:=by
      intro hq;rw[h3];simp only[jhj,List.mem_filter,Bool.and_eq_true];exact⟨hya,by rw[hmm];rfl,hq⟩
     refine⟨jmB hap,hn1.1 _ h1,?_,?_⟩
     ·intro hz;simp only[jhj,List.mem_filter]at hz;exact ha _ hz.1 (by simp[h1])
     ·dsimp only;by_cases cx:cls (os.getD y default).op=2
      ·right;right;refine⟨cx,?_⟩;simp only[cx,beq_self_eq_true,if_true,beq_iff_eq]at hcl;exact hcl
      ·by_cases cy:cls (os.getD p.1 default).op=2
       ·right;left;refine⟨cy,?_,fun c1=>?_⟩
        ·have e1:(cls (os.getD y default).op==2)=false:=by simpa using cx
         simp only[e1,cy,beq_self_eq_true,if_true,Bool.false_eq_true,if_false,decide_eq_true_eq]at hcl;exact hcl
        ·have:=hck (by
          have e1:(cls (os.getD y default).op==2)=false:=by simpa using cx
          simp only[e1,cy,beq_self_eq_true,if_true,Bool.false_eq_true,if_false,c1];rfl)
         exact⟨this,by simpa using hc p (by simp[jcM,hpm]) y this⟩
       ·left;refine⟨cx,cy,?_⟩;cases hau:autoB (cls (os.getD y default).op) (cls (os.getD p.1 default).op)with
        |true=>exact .inl rfl
        | false =>
         right;have:=hck (by
          have e1:(cls (os.getD y default).op==2)=false:=by simpa using cx
          have e2:(cls (os.getD p.1 default).op==2)=false:=by simpa using cy
          simp only[e1,e2,Bool.false_eq_true,if_false,hau];rfl)
         refine⟨this,?_⟩;simpa using hc p (by simp[jcM,hpm]) y this
  ·intro a haa hay;rcases List.mem_append.1 haa with h|h
   ·exact ha a h (by simp[hay])
   ·simp only[List.mem_singleton]at h;subst h;exact hn1.1 _ hay rfl
structure Items (C:Ctx) (nt:Nat) (ops:Array Oper) (n:Nat) (l:List DItem):Prop where
 src:∀d∈l,Src C nt ops d
 rows:l.Pairwise (Row (masks ops))
 cover:∀k,k<ops.size->∃d∈l,d.k=k
 back:∀(i:Nat) o,ops[i]? =some o->∀e∈o.after,Region.binds .any e=true->e.on<i
 room:∀d∈l,4<=cls d.o.op->n=ops.size
 len:l.length<=ops.size
theorem jjp(ms:List Nat)(os:List AOper):∀(fuel listed:Nat),(greedy ms os fuel listed).length<=fuel
 |0,_=>Nat.le_refl _
 |fuel+1,listed=>by
  unfold greedy;split
  ·simp only[List.length_cons];exact Nat.succ_le_succ (jjp ms os fuel _)
  ·exact Nat.zero_le _
theorem ji4{l:List DItem}(h:jev C.P C.inv nt ops=some (n,l)):Items C nt ops n l:=by
 unfold jev at h;dsimp only at h;split at h
 ·rename_i hc;obtain⟨h1,h2,h3,h4,h5⟩:=hc;simp only[Option.some.injEq,Prod.mk.injEq]at h;obtain⟨hn,hl⟩:=h;generalize hos:ops.toList.map (jar C.P C.inv nt ops)=os at h1 h2 h3 h5 hn hl;generalize hord:greedy (masks ops) os os.length 0=ord at h1 h2 h3 h5 hl;have hlen:os.length=ops.size:=by rw[<-hos];simp
  have hget:∀k,k<ops.size->∃o,ops[k]? =some o/\jar C.P C.inv nt ops o=os.getD k default:=by
   intro k hk;refine⟨ops[k],by simp[hk],?_⟩;rw[<-hos];simp[hk]
  have keys:∀(ys ahead:List Nat),(jcM (masks ops) os ahead ys).map (·.1)=ys:=by
   intro ys
   induction ys with
   |nil=>intro a;rfl
   |cons y ys ih=>intro a;simp[jcM,ih]
  have hmem:∀d∈l,d.k∈ord/\d.o=os.getD d.k default:=by
   intro d hd;rw[<-hl]at hd;obtain⟨p,hp,rfl⟩:=List.mem_map.1 hd;exact⟨(jfn hp).1,rfl⟩
  have hle:ord.length<=os.length:=by rw[<-hord];exact jjp _ _ _ _
  refine⟨fun d hd=>?_,?_,fun k hk=>?_,fun i o ho e he hb=>?_,fun d hd hcl=>?_,?_⟩
  ·obtain⟨q1,q2⟩:=hmem d hd;have hlt:d.k<ops.size:=by
    have:=List.all_eq_true.1 h3 _ q1;rw[<-hlen];simpa using this
   obtain⟨o,ho,hlo⟩:=hget d.k hlt;exact⟨o,ho,by rw[hlo,q2]⟩
  ·rw[<-hl];refine jp9 ord [] h5 (jh4 h2) (by simp) fun p hp c hc=>?_;exact List.mem_flatMap.2 ⟨p,hp,hc⟩
  ·have:=List.all_eq_true.1 h1 k (by simp[hlen,hk]);have hk':k∈ord:=by simpa using this
   rw[<-keys ord []]at hk';obtain⟨p,hp,rfl⟩:=List.mem_map.1 hk';rw[<-hl];exact⟨_,List.mem_map.2 ⟨p,hp,rfl⟩,rfl⟩
  ·unfold backB at h4;have:=List.all_eq_true.1 h4 (o,i) (by
    rw[List.mem_zipIdx_iff_getElem?];simpa using ho)
   have:=List.all_eq_true.1 this e (by simpa using he);simpa[hb]using this
  ·rw[<-hn,if_pos]
   ·exact hlen
   ·obtain⟨q1,q2⟩:=hmem d hd;have hlt:d.k<os.length:=by simpa using List.all_eq_true.1 h3 _ q1
    refine List.any_eq_true.2 ⟨d.o,?_,by simpa using hcl⟩;rw[q2];simp[hlt]
  ·rw[<-hl,List.length_map,<-hlen];have:=congrArg List.length (keys ord []);rw[List.length_map]at this;omega
 ·cases h
theorem joJ{listed:Array Bool}(hback:∀(i:Nat) o,ops[i]? =some o->∀e∈o.after,Region.binds .any e=true->e.on<i)(hsz:listed.size=ops.size)(hr:Region.ready .any ops listed=[]):
  ∀k,k<ops.size->listed.getD k true=true:=by
 intro k
 induction k using Nat.strongRecOn with
 | _ k ih =>
  intro hk;cases hg:listed.getD k true with
  |true=>rfl
  | false =>
   exfalso;have:k∈Region.ready .any ops listed:=mem_ready.2 ⟨hg,ops[k],by simp[hk],fun e he hb=>by
    have hlt:=hback k ops[k] (by simp[hk]) e he hb;have:=ih e.on hlt (by omega);have hlt':e.on<listed.size:=by omega
    simp only[Array.getD_eq_getD_getElem?,hlt',Array.getElem?_eq_getElem,Option.getD_some]at this|-;exact this⟩
   rw[hr]at this;cases this
abbrev Doing:=Nat->(Keep->Act->World->Prop)->Keep->Act->World->Prop
def AnyJ(op:Doing)(tail:Option Nat)(ops:Array Oper)(Q:Keep->Act->World->Prop):Nat->Array Bool->Keep->Act->World->Prop
 |0,listed,kp,a,w=>Region.ready .any ops listed=[]/\Q kp a w
 |fuel+1,listed,kp,a,w=>
  (Region.ready .any ops listed=[]->Q kp a w)/\
  ∀i∈Region.ready .any ops listed,(tail=some i->Region.ready .any ops (listed.setIfInBounds i true)=[])/\op i (AnyJ op tail ops Q fuel (listed.setIfInBounds i true)) kp a w
theorem jh5(fuel t:Nat)(listed:Array Bool):(Region.ready .any ops listed=[]/\Region.linearise.go .any ops (fuel+1) t listed []=[])\/
  ∃i t',i∈Region.ready .any ops listed/\Region.linearise.go .any ops (fuel+1) t listed []=i::Region.linearise.go .any ops fuel t' (listed.setIfInBounds i true) []:=by
 have e:Region.linearise.go .any ops (fuel+1) t listed []=(match (Region.ready .any ops listed)[t% (Region.ready .any ops listed).length]? with
   |some i=>Region.linearise.go .any ops fuel (t/(Region.ready .any ops listed).length) (listed.setIfInBounds i true) [i]
   |none=>[].reverse):=rfl
 rw[e];cases hi:(Region.ready .any ops listed)[t% (Region.ready .any ops listed).length]? with
 | none =>
  have hnil:Region.ready .any ops listed=[]:=by
   cases hr:Region.ready .any ops listed with
   |nil=>rfl
   |cons x xs=>
    rw[hr]at hi;have hlt:t% (x::xs).length<(x::xs).length:=Nat.mod_lt _ (by simp);simp at hi;simp at hlt;omega
  exact .inl ⟨hnil,rfl⟩
 |some i=>
  refine .inr ⟨i,t/(Region.ready .any ops listed).length,List.mem_of_getElem? hi,?_⟩;simp only[];rw[linearise_go_acc,List.reverse_singleton,List.singleton_append]
theorem kbt{ro:Option Nat}{tail:Option Nat}{Q:Keep->Act->World->Prop}:∀(fuel t:Nat) (listed:Array Bool) (kp:Keep) (a:Act) (w:World),AnyJ (OpJ C ro ops) tail ops Q fuel listed kp a w->
  OpsJ C ro ops (Region.linearise.go .any ops fuel t listed []) Q kp a w:=by
 intro fuel
 induction fuel with
 |zero=>intro t listed kp a w h;simpa[Region.linearise.go]using jp3 h.2
 |succ fuel ih=>
  intro t listed kp a w h;obtain⟨h₀,h₁⟩:=h;rcases jh5 (ops:=ops) fuel t listed with⟨hr,e⟩|⟨i,t',hi,e⟩
  ·rw[e];exact jp3 (h₀ hr)
  ·rw[e];exact jp4 ((h₁ i hi).2.mono fun kp' a' w' q=>ih _ _ _ _ _ q)
theorem kbx{op:Doing}{tail:Option Nat}{Q:Keep->Act->World->Prop}{listed:Array Bool}(hr:Region.ready .any ops listed=[]){a:Act}{w:World}(h:Q kp a w):∀fuel,AnyJ op tail ops Q fuel listed kp a w
 |0=>⟨hr,h⟩
 |fuel+1=>⟨fun _=>h,fun i hi=>by rw[hr]at hi;cases hi⟩
def jtf(ops:Array Oper)(tail:Option Nat):Prop:=∀s,tail=some s->s<ops.size/\∀k,k<ops.size->k≠s->((masks ops).getD s 0).testBit k=true
theorem jr6(ro:Option Nat)(tail:Option Nat)(htail:jtf ops tail){op:Doing}(hop:∀i K kp a w,tail≠some i->OpJ C ro ops i K kp a w->op i K kp a w)(hmono:∀i K K' kp a w,(∀kp a w,K kp a w->K' kp a w)->op i K kp a w->op i K' kp a w){K:St->Prop}{Q:Keep->Act->World->Prop}{W:List Nat}(hback:∀(i:Nat) o,ops[i]? =some o->∀e∈o.after,Region.binds .any e=true->e.on<i):
  ∀ (fuel : Nat) (ds : List DItem) (listed : Array Bool) (acc : Acc) (kp : Keep) (env : Env) (st : St) (a : Act) (w : World), ds.length + tail.toList.length <= fuel -> (∀ d ∈ ds, tail ≠ some d.k /\ Src C nt ops d /\ ∀ q, d.o.dst = some q -> q ∈ W) -> ds.Pairwise (Row (masks ops)) ->
   (∀k,k<ops.size->(listed.getD k true=false↔(∃d∈ds,d.k=k)\/tail=some k))->listed.size=ops.size->
   (∀j,j<ops.size->listed.getD j false=true->∀x,((masks ops).getD j 0).testBit x=true->listed.getD x false=true)->(∀d∈ds,cls d.o.op=5->base+d.k<st.h.size)->
   wpD C base ds acc K st->Sim C (kp.or extra) nt env st a w->
   (∀kp' env' st' a' w',Far C extra nt kp env st w kp' env' st' a' w'->(∀s,s∉W->st'.t s=st.t s)->(∀i,i<base->i<st.h.size->(st'.h.get i).isSome=(st.h.get i).isSome)->K st'->
    (tail=none->Q kp' a' w')/\∀s,tail=some s->op s Q kp' a' w')->
   AnyJ op tail ops Q fuel listed kp a w:=by
 intro fuel
 induction fuel with
 | zero =>
  intro ds listed acc kp env st a w hf hsrc hrow hun hsz hdown hroom h S hQ;have hnil:ds=[]:=List.eq_nil_of_length_eq_zero (by omega);have htn:tail=none:=by
   cases tail with
   |none=>rfl
   |some s=>simp at hf
  subst hnil;refine⟨?_,(hQ kp env st a w (kaC S) (fun _ _=>rfl) (fun _ _ _=>rfl) h).1 htn⟩;cases hr:Region.ready .any ops listed with
  |nil=>rfl
  |cons i is=>
   have hi:i∈Region.ready .any ops listed:=by rw[hr];simp
   obtain⟨h1,o,ho,_⟩:=mem_ready.1 hi;rcases(hun i (Array.getElem?_eq_some_iff.1 ho).1).1 h1 with⟨d,hd,_⟩|he
   ·cases hd
   ·rw[htn]at he;cases he
 | succ fuel ih =>
  intro ds listed acc kp env st a w hf hsrc hrow hun hsz hdown hroom h S hQ;refine⟨fun hr=>?_,fun i hi=>?_⟩
  ·have hall:=joJ hback hsz hr;cases ds with
   | nil =>
    refine(hQ kp env st a w (kaC S) (fun _ _=>rfl) (fun _ _ _=>rfl) h).1 ?_;cases htl:tail with
    |none=>rfl
    |some s=>
     have hs:=(htail s htl).1;have:=(hun s hs).2 (.inr htl);rw[hall s hs]at this;cases this
   |cons d ds=>
    obtain⟨_,⟨o,ho,_⟩,_⟩:=hsrc d (by simp);have hlt:=(Array.getElem?_eq_some_iff.1 ho).1;have:=(hun d.k hlt).2 (.inl ⟨d,by simp,rfl⟩);rw[hall d.k hlt]at this;cases this
  ·obtain⟨hun1,o,ho,hafter⟩:=mem_ready.1 hi;have hlt:=(Array.getElem?_eq_some_iff.1 ho).1;have hlisted:∀x,((masks ops).getD i 0).testBit x=true->listed.getD x false=true:=by
    intro x hx;obtain⟨e,he,hb,hx⟩:=joI ho hx;have hl:=hafter e he hb;rcases hx with rfl|hx
    ·exact hl
    ·have:=hback i o ho e he hb;exact hdown e.on (by omega) hl x hx
   by_cases hti:tail=some i
   ·-- the last one
    have hnil:ds=[]:=by
     cases ds with
     |nil=>rfl
     |cons d ds=>
      exfalso;obtain⟨hne,⟨o',ho',_⟩,_⟩:=hsrc d (by simp);have hltd:=(Array.getElem?_eq_some_iff.1 ho').1;have h1:=hlisted d.k ((htail i hti).2 d.k hltd fun e=>hne (by rw[hti,e]));have h2:=(hun d.k hltd).2 (.inl ⟨d,by simp,rfl⟩);have hxl':d.k<listed.size:=by omega
      simp only[Array.getD_eq_getD_getElem?,hxl',Array.getElem?_eq_getElem,Option.getD_some]at h1 h2;rw[h1]at h2;cases h2
    subst hnil;have hover:Region.ready .any ops (listed.setIfInBounds i true)=[]:=by
     cases hr:Region.ready .any ops (listed.setIfInBounds i true)with
     |nil=>rfl
     | cons j js =>
      exfalso;have hj:j∈Region.ready .any ops (listed.setIfInBounds i true):=by rw[hr];simp
      obtain⟨h1,oj,hoj,_⟩:=mem_ready.1 hj;have hjl:=(Array.getElem?_eq_some_iff.1 hoj).1;by_cases e:j=i
      ·subst e;have hks:j<listed.size:=by omega
       simp[hks]at h1
      ·rw[getD_set_ne true (Ne.symm e)]at h1;rcases(hun j hjl).1 h1 with⟨d,hd,_⟩|he
       ·cases hd
       ·rw[hti]at he;cases he;exact e rfl
    exact⟨fun _=>hover,hmono _ _ _ _ _ _ (fun kp' a' w' q=>kbx hover q fuel) ((hQ kp env st a w (kaC S) (fun _ _=>rfl) (fun _ _ _=>rfl) h).2 i hti)⟩
   have hex:=((hun i hlt).1 hun1).resolve_right hti;obtain⟨d,hd,hdk⟩:=hex;obtain⟨pre,post,rfl⟩:=List.append_of_mem hd;have hpw:=List.pairwise_append.1 hrow;have hpost:=List.pairwise_cons.1 hpw.2.1;have hsd:=(hsrc d (by simp)).2;have hcan:Can C st:=⟨⟨kp.or extra,env,w,S.rel⟩,S.bel⟩;have hb:=bubble hsd.1 (post:=post) (K:=K) (base:=base) pre acc st (fun x hx=>by
    refine⟨(hsrc x (by simp[hx])).2.1,?_⟩;rcases(hpw.2.2 x hx d (by simp)).2 with hm|hs
    ·exfalso;rw[hdk]at hm;have h1:=hlisted _ hm;obtain⟨_,⟨ox,hox,_⟩,_⟩:=hsrc x (by simp[hx]);have hxl:=(Array.getElem?_eq_some_iff.1 hox).1;have h2:=(hun x.k hxl).2 (.inl ⟨x,by simp[hx],rfl⟩);have hxl':x.k<listed.size:=by omega
     simp only[Array.getD_eq_getD_getElem?,hxl',Array.getElem?_eq_getElem,Option.getD_some]at h1 h2;rw[h1]at h2;cases h2
    ·exact hs) hcan (hroom d (by simp)) h
   have hstep:stepD C base d acc (fun acc' st'=>wpD C base (pre++post) acc' K st') st:=hb;obtain⟨o',ho',hlo⟩:=hsd.1;rw[hdk,ho]at ho';cases ho'
   -- the rest
   have rest:∀kp' env' st' a' w' acc',Far C extra nt kp env st w kp' env' st' a' w'->(∀s,d.o.dst≠some s->st'.t s=st.t s)->(∀i,i<base->i<st.h.size->(st'.h.get i).isSome=(st.h.get i).isSome)->
     wpD C base (pre++post) acc' K st'->AnyJ op tail ops Q fuel (listed.setIfInBounds i true) kp' a' w':=by
    intro kp' env' st' a' w' acc' F hag hsame hw;refine ih (pre++post) _ acc' kp' env' st' a' w' ?_ ?_ ?_ ?_ (by simp[hsz]) ?_ ?_ hw F.sim ?_
    ·simp only[List.length_append,List.length_cons]at hf|-;omega
    ·intro x hx;refine hsrc x ?_;simp only[List.mem_append,List.mem_cons]at hx|-;rcases hx with hx|hx
     ·exact .inl hx
     ·exact .inr (.inr hx)
    ·refine List.pairwise_append.2 ⟨hpw.1,hpost.2,fun x hx z hz=>hpw.2.2 x hx z (by simp[hz])⟩
    ·intro k hk;by_cases e:k=i
     ·subst e;constructor
      ·intro hx;have hks:k<listed.size:=by omega
       simp[hks]at hx
      ·rintro(⟨d',hd',he⟩|he)
       ·exfalso;rcases List.mem_append.1 hd' with hm|hm
        ·exact(hpw.2.2 d' hm d (by simp)).1 (by rw[he,hdk])
        ·exact(hpost.1 d' hm).1 (by rw[he,hdk])
       ·exact absurd he hti
     ·rw[getD_set_ne true (Ne.symm e),hun k hk];constructor
      ·rintro(⟨d',hd',he⟩|he)
       ·left;simp only[List.mem_append,List.mem_cons]at hd'|-;rcases hd' with hm|rfl|hm
        ·exact⟨d',.inl hm,he⟩
        ·exact absurd (he.symm.trans hdk) e
        ·exact⟨d',.inr hm,he⟩
       ·exact .inr he
      ·rintro(⟨d',hd',he⟩|he)
       ·left;simp only[List.mem_append,List.mem_cons]at hd'|-;rcases hd' with hm|hm
        ·exact⟨d',.inl hm,he⟩
        ·exact⟨d',.inr (.inr hm),he⟩
       ·exact .inr he
    ·intro j hj hl x hx;by_cases e:j=i
     ·subst e;exact getD_set_true (hlisted x hx)
     ·rw[getD_set_ne false (Ne.symm e)]at hl;exact getD_set_true (hdown j hj hl x hx)
    ·intro x hx hcl;have:=hroom x (by simp only[List.mem_append,List.mem_cons]at hx|-;rcases hx with hx|hx;exact .inl hx;exact .inr (.inr hx)) hcl;exact Nat.lt_of_lt_of_le this F.grow.size
    ·intro kp2 env2 st2 a2 w2 F2 hag2 hs2 hk2;refine hQ kp2 env2 st2 a2 w2 (F.trans F2) (fun s hs=>?_) (fun q hq hq2=>?_) hk2
     ·rw[hag2 s hs,hag s];intro e;exact hs (hsd.2 s e)
     ·rw[hs2 q hq (Nat.lt_of_lt_of_le hq2 F.grow.size),hsame q hq hq2]
   refine⟨fun e=>absurd e hti,hop _ _ _ _ _ hti ?_⟩;rcases jcy (P:=C.P) (inv:=C.inv) (nt:=nt) (ops:=ops) (o:=o)with⟨s,hs⟩|⟨g,hg,hge,hde,hdo⟩
   ·exfalso;rw[hs]at hlo;have hgo:gOn d.o.guard st.t=true:=by rw[<-hlo];rfl
    rw[jbA (by rw[<-hlo];simp[cls]) hgo]at hstep;obtain⟨v,h',_,hv,_⟩:=hstep;rw[<-hlo]at hv;simp[aOp,pureA]at hv
   ·have hguard:jeo g st.t (wpOp C (some (base+d.k)) d.o (fun st'=>∃acc',wpD C base (pre++post) acc' K st') st) (wpD C base (pre++post) acc K (st.put d.o.dst .undef)):=by
     rw[hlo]at hge;rw[jdE,<-hge];cases hon:gOn d.o.guard st.t with
     |false=>
      rw[if_neg (by simp)];rw[jce hon]at hstep;rw[jj8];exact hstep
     | true =>
      rw[if_pos rfl];by_cases h2:cls d.o.op=2
      ·cases hop:d.o.op<;>rw[hop]at h2<;>simp[cls]at h2;rw[jbR hop hon]at hstep;unfold wpOp;simp only[hop,jlo];exact jb3 (fun r h' q=>⟨acc,q.2⟩) hstep
      ·rw[jbA h2 hon]at hstep;obtain⟨v,h',_,hv,hw⟩:=hstep;unfold wpOp;dsimp only;split
       ·rename_i f args hop;rw[hop]at h2;simp[cls]at h2
       ·rw[hv];simp only[jlo];exact⟨_,hw⟩
    rcases jhY S hg hguard with⟨hw,hp⟩|⟨hw,hq⟩
    ·refine OpJ.mono (jfS S ro ho hw hlo hp) ?_;rintro kp' a' w' ⟨env',st',F,h1,h2,acc',h3⟩;exact rest kp' env' st' a' w' acc' F h1 (fun q hq hq2=>h2 q hq2 (by intro e;cases e;omega)) h3
    ·refine jhX ho hw ?_;rw[hlo]at hde;rw[hde]at hq;have F:=S.put (v:=AV.undef) hdo S.rel (kaI _ _ _) (kam _ _) (kay _) trivial;have hst:St.put {st with h:=st.h} o.dst AV.undef=st.put o.dst AV.undef:=rfl;rw[hst]at F;refine rest kp env _ _ w acc F (fun s hs=>?_) (fun _ _ _=>?_) hq
     ·rw[jj8,hde]at*;exact jgt hs
     ·rw[jj8]
theorem jqa(ro:Option Nat)(tail:Option Nat)(htail:jtf ops tail){op:Doing}(hop:∀i K kp a w,tail≠some i->OpJ C ro ops i K kp a w->op i K kp a w)(hmono:∀i K K' kp a w,(∀kp a w,K kp a w->K' kp a w)->op i K kp a w->op i K' kp a w){n:Nat}{l l':List DItem}(I:Items C nt ops n l)(hl':l'.Sublist l)(hcov:∀d∈l,d∈l'\/tail=some d.k)(hno:∀d∈l',tail≠some d.k)(hlen:l'.length+tail.toList.length<=ops.size)
  {K:St->Prop} {env:Env} {st:St} {a:Act} {w:World} {Q:Keep->Act->World->Prop} (h:jhW C n l' K st) (S:Sim C (kp.or extra) nt env st a w)
  (hQ:∀kp' env' st' a' w',Far C extra nt kp env st w kp' env' st' a' w'->(∀s,s∉l'.filterMap (·.o.dst)->st'.t s=st.t s)->HLe st.h st'.h->K st'->
   (tail=none->Q kp' a' w')/\∀s,tail=some s->op s Q kp' a' w'):
  AnyJ op tail ops Q ops.size (Array.replicate ops.size false) kp a w:=by
 have hst:∃st0:St,(if n=0 then st else{st with h:=st.h.reserve n})=st0/\st0.t=st.t/\st0.m=st.m/\st0.h.get=st.h.get/\st0.h.size=st.h.size+n:=by
  by_cases hn:n=0
  ·exact⟨st,by rw[if_pos hn],rfl,rfl,rfl,by omega⟩
  ·exact⟨{st with h:=st.h.reserve n},by rw[if_neg hn],rfl,rfl,rfl,rfl⟩
 obtain⟨st0,e0,et,em,eg,es⟩:=hst;have h':wpD C st.h.size l' [] K st0:=by rw[<-e0];exact h
 have hok:∀i,st0.h.ok i↔st.h.ok i:=fun i=>by simp only[Heap.ok,eg]
 have hokE:st0.h.ok=st.h.ok:=funext fun i=>propext (hok i);have R0:Rel C (kp.or extra) env st0.h w:=by
  have R1:Rel C (kp.or extra) env st.h w:=S.rel;exact⟨fun i b hb=>R1.lt i b (by rw[<-eg];exact hb),fun i b hb=>R1.blk i b (by rw[<-eg];exact hb),fun i j b c hb hc=>R1.disj i j b c (by rw[<-eg];exact hb) (by rw[<-eg];exact hc),
   fun i b hb=>by rw[hokE];exact R1.bel i b (by rw[<-eg];exact hb),fun i b hb=>R1.kept i b (by rw[<-eg];exact hb),R1.keepLt,fun i b hb=>R1.hid i b (by rw[<-eg];exact hb),R1.hidLt⟩
 have S0:Sim C (kp.or extra) nt env st0 a w:=
  ⟨S.size,fun s=>by rw[et];exact S.tmps s,fun s=>by rw[et,hokE];exact S.bel s,by rw[em];exact S.defers,fun i hi=>(hok i).2 (S.marks i (by rw[<-em];exact hi)),R0⟩
 refine jr6 ro tail htail hop hmono (base:=st.h.size) (W:=l'.filterMap (·.o.dst)) I.back ops.size l' _ [] kp env st0 a w hlen ?_ (I.rows.sublist hl') ?_ (by simp) ?_ ?_ h' S0 ?_
 ·intro d hd;exact⟨hno d hd,I.src d (hl'.subset hd),fun q hq=>List.mem_filterMap.2 ⟨d,hd,hq⟩⟩
 ·intro k hk;simp only[Array.getD_eq_getD_getElem?,Array.getElem?_replicate,hk,if_true,Option.getD_some,true_iff];obtain⟨d,hd,e⟩:=I.cover k hk;rcases hcov d hd with q|q
  ·exact .inl ⟨d,q,e⟩
  ·exact .inr (by rw[q,e])
 ·intro j hj hl;simp[hj]at hl
 ·intro d hd hcl;have:=I.room d (hl'.subset hd) (by omega);obtain⟨o,ho,_⟩:=I.src d (hl'.subset hd);have hlt:=(Array.getElem?_eq_some_iff.1 ho).1;omega
 ·intro kp' env' st' a' w' F hag hsame hk;refine hQ kp' env' st' a' w' ⟨F.sim,F.keepJ,fun i hi=>F.ext i ((hok i).2 hi),⟨?_,fun i hi=>F.grow.same i ((hok i).2 hi)⟩⟩ (fun s hs=>by rw[hag s hs,et]) ⟨?_,fun i hi=>?_⟩ hk
  ·have:=F.grow.size;omega
  ·have:=F.grow.size;omega
  ·rw[hsame i hi (by omega),eg]
theorem jcV(fenv:Env)(rd:Option Nat):jte C extra nt fenv rd:=by
 intro id ops n l K kp env st a w hd h S hrd;have I:=ji4 hd;refine jiZ fun t=>?_;simp only[Region.schedule,C.mixed,Bool.true_or,if_true];refine kbt _ _ _ _ _ _ (jqa (roOf fenv rd) none (fun s e=>by cases e) (fun _ _ _ _ _ _ h=>h) (fun _ _ _ _ _ _ hm h=>h.mono hm) I (List.Sublist.refl _) (fun d hd=>.inl hd) (fun d hd e=>by cases e) (by simpa using I.len) h S ?_);intro kp' env' st' a' w' F hag hL hk;exact⟨fun _=>⟨env',st',F,hag,hL,rfl,hk⟩,fun s e=>by cases e⟩
end
open Go.Conc
def jbe(h:Heap):List Nat->Option Heap
 |[]=>some h
 |i::is=>match h.get i with
  |some (.defd true)=>jbe (h.put i (.defd false)) is
  |_=>none
def resA(t:Nat->AV)(h:Heap):List ARes->Option (List AV)
 |[]=>some []
 |.tmp s::rs=>(resA t h rs).map (t s:: ·)
 |.cell s agg n::rs=>match loadA h agg n (t s),resA t h rs with
  |some v,some vs=>some (v::vs)
  |_,_=>none
def retA:List AV->AV
 |[v]=>v
 |vs=>.tuple vs
def argT(args:List AV):Nat->AV:=fun s=>args.getD s .undef
def retO(res:List ARes)(Post:AV->Heap->Prop)(o:Out)(st:St):Prop:=
 match o with
 |.exit _=>False
 | _ => match jbe st.h st.m with
  |some h1=>match resA st.t h1 res with
   |some vs=>Post (retA vs) h1
   |none=>False
  |none=>False
section
variable {C : Ctx} {extra kp : Keep} {keep : Keep} {nt : Nat}
theorem jd6:∀(m:List Nat) (h h1:Heap),jbe h m=some h1->HLe h h1
 |[],h,h1,hc=>by cases hc;exact kax _
 |i::is,h,h1,hc=>by
  unfold jbe at hc;split at hc
  ·rename_i hi;exact(jds hi).trans (jd6 is _ h1 hc)
  ·cases hc
def resF(tmps:Array Value):ResultVar->Sem Value
 |.tmp t=>pure (tmps.getD t undef)
 |.cell a t=>do loadVar t (<-asAddr (tmps.getD a undef))
theorem jgv{env:Env}{h:Heap}{w:World}(R:Rel C keep env h w){t:Nat->AV}{tmps:Array Value}(hA:∀s,tmps.getD s undef=(t s).val C.lk env)(hb:∀s,(t s).bel h.ok):
  ∀(rs:List ResultVar) (zas:List ARes) (vs:List AV),lowerRess C.P rs=some zas->resA t h zas=some vs->
   (rs.mapM (m:=Sem) (resF tmps)).run C.P w=.ok (vs.map (AV.val C.lk env)) w/\∀v∈vs,v.bel h.ok
 |[],zas,vs,hl,hr=>by cases hl;cases hr;exact⟨rfl,by simp⟩
 | r :: rs, zas, vs, hl, hr => by
  unfold lowerRess at hl;split at hl
  ·rename_i a as' h1 h2;cases hl;cases r with
   | tmp s =>
    cases h1;simp only[resA,Option.map_eq_some_iff]at hr;obtain⟨vs',hvs,rfl⟩:=hr;have ih:=jgv R hA hb rs as' vs' h2 hvs;refine⟨?_,?_⟩
    ·rw[List.mapM_cons,Sem.run_bind,show(resF tmps (.tmp s)).run C.P w=.ok ((t s).val C.lk env) w from by rw[<-hA s];rfl,Result.andThen_ok,Sem.run_bind,ih.1];rfl
    ·intro v hv;rcases List.mem_cons.1 hv with rfl|hv
     ·exact hb s
     ·exact ih.2 v hv
   | cell s ty =>
    simp only[lowerRes]at h1;split at h1
    ·rename_i g n hg hn;cases h1;simp only[resA]at hr;split at hr
     ·rename_i v vs' hv hvs;cases hr;have ih:=jgv R hA hb rs as' vs' h2 hvs;have q:=jje R hg hn hv;have hptr:∃i o,t s=.ptr i o:=by
       unfold loadA at hv;split at hv
       ·exact⟨_,_,by assumption⟩
       ·cases hv
      obtain⟨i,o,hp⟩:=hptr;have q1:=q.1;rw[hp]at q1;simp only[AV.val,Instr.loadAt,Instr.sureAddr,Sem.run_bind,Sem.run_pure,Result.andThen_ok]at q1;refine⟨?_,?_⟩
      ·have e1:=hA s;rw[hp]at e1;simp only[AV.val]at e1;have e2:(resF tmps (.cell s ty)).run C.P w=.ok (v.val C.lk env) w:=by
        change (do loadVar ty (<-asAddr (tmps.getD s undef)):Sem Value).run C.P w=_;rw[e1];simp only[asAddr,Sem.run_bind,Sem.run_pure,Result.andThen_ok];exact q1
       rw[List.mapM_cons,Sem.run_bind,e2,Result.andThen_ok,Sem.run_bind,ih.1];rfl
      ·intro x hx;rcases List.mem_cons.1 hx with rfl|hx
       ·exact q.2
       ·exact ih.2 x hx
     ·cases hr
    ·cases h1
  ·cases hl
theorem jbS{env:Env}{h:Heap}{w:World}(R:Rel C keep env h w){t:Nat->AV}{tmps:Array Value}(hA:∀s,tmps.getD s undef=(t s).val C.lk env)(hb:∀s,(t s).bel h.ok){fn:Func}{zas:List ARes}{vs:List AV}
  (hl:lowerRess C.P fn.results.toList=some zas) (hr:resA t h zas=some vs):(results fn tmps).run C.P w=.ok ((retA vs).val C.lk env) w/\(retA vs).bel h.ok:=by
 have q:=jgv R hA hb _ _ _ hl hr;refine⟨?_,?_⟩
 ·have e:results fn tmps=(do let vs<-fn.results.mapM (resF tmps);pure (if h:vs.size=1 then vs[0]else .tuple vs)):=rfl;rw[e,Array.mapM_eq_mapM_toList];simp only[Sem.run_bind,map_eq_pure_bind,Sem.run_pure,q.1,Result.andThen_ok];congr 1
  match vs with
  |[]=>rfl
  |[v]=>rfl
  |v::u::vs=>simp[retA,AV.val,jbn]
 ·match vs,q.2 with
  |[],q2=>trivial
  |[v],q2=>exact q2 v (by simp)
  |v::u::vs,q2=>exact(ja9 _ _).2 q2
theorem Rel.evIn{env:Env}{h:Heap}{w:World}(R:Rel C keep env h w){B:Nat}(hB:w.heap.size<=B){e:Event}
  (x:Fine w.heap.size (fun r=>∃i b,h.get i=some b/\b.wr=true/\(env i).blk=r) (fun r=>(∃i b,h.get i=some b/\b≠.dead/\(env i).blk=r)/\∃c t fr,w.heap[r]? =some (.cells c t fr)) B e):EvIn keep B e:=by
 rcases x with⟨s,m,lt,where_⟩|x
 ·refine .inl ⟨s,m,lt,?_,fun hw=>?_⟩
  ·rcases where_ with⟨i,b,hi,hb,e⟩|hn|⟨⟨⟨i,b,hi,hb,e⟩,_⟩,_⟩
   ·rw[<-e];exact R.hid i b hi (by rintro rfl;cases hb)
   ·intro hh;have:=R.hidLt _ hh;omega
   ·rw[<-e];exact R.hid i b hi hb
  ·rcases where_ with⟨i,b,hi,hb,e⟩|hn|⟨_,hf⟩
   ·rw[<-e];exact R.kept i b hi hb
   ·intro hh;have:=R.keepLt _ hh;omega
   ·rw[hf]at hw;cases hw
 ·exact .inr x
theorem jqb(tmps:Array Value)(r:ResultVar)(w:World):jag P (resF tmps r) w:=by
 cases r with
 |tmp t=>exact jac _
 |cell a t=>
  have q:∀x w,jag P (loadVar t x) w:=fun x w=>jaX t x;exact jab (jaU _) fun x w' _=>q x w'
theorem jls(fn:Func)(tmps:Array Value)(w:World):jag P (results fn tmps) w:=by
 have e:results fn tmps=(do let vs<-fn.results.mapM (resF tmps);pure (if h:vs.size=1 then vs[0]else .tuple vs)):=rfl;rw[e];exact jab (jk3 (fun a w=>jqb tmps a w) _) fun _ _ _=>jac _
theorem je3{env:Env}{h:Heap}{w:World}(R:Rel C keep env h w){t:Nat->AV}{tmps:Array Value}(hA:∀s,tmps.getD s undef=(t s).val C.lk env)(hb:∀s,(t s).bel h.ok){fn:Func}{zas:List ARes}{vs:List AV}
  (hl:lowerRess C.P fn.results.toList=some zas) (hr:resA t h zas=some vs):∀e∈(results fn tmps).events C.P w #[],EvIn keep w.heap.size e:=by
 obtain⟨wg,A,Rg⟩:=jhT R;have T:=jls (P:=C.P) fn tmps w;have hg:=(jbS Rg hA hb hl hr).1;obtain⟨w1,h1,h2,h3⟩:=jk1 _ w wg #[] _ wg A T hg;rw[(jbS R hA hb hl hr).1]at h1;cases h1;intro e he;rcases h3 e he with x|x
 ·simp at x
 ·exact R.evIn (Nat.le_refl _) x
theorem jeA{J:Keep->Goroutine->World->Prop}(hJ:C.fam J){cs:List Frame}:∀(m:List Nat) {kp:Keep} {env:Env} {h h1:Heap} {w:World} {fr:Frame},fr.mode=.returning->fr.defers=(m.map fun i=>{target:=.collected (env i).blk,args:= #[]})->
  Rel C (kp.or extra) env h w->jbe h m=some h1->
  (∀kp' w1,Rel C (kp'.or extra) env h1 w1->KeepJ kp extra w kp' w1->J kp' (G {fr with defers:=[]} cs) w1)->J kp (G fr cs) w
 | [], kp, env, h, h1, w, fr, hm, hd, Rl, hc, hk => by
  cases hc;have e:{fr with defers:=[]}=fr:=by
   cases fr;simp only[List.map_nil]at hd;subst hd;rfl
  rw[<-e];exact hk kp w Rl (kaI _ _ _)
 | i :: is, kp, env, h, h1, w, fr, hm, hd, Rl, hc, hk => by
  unfold jbe at hc;split at hc
  ·rename_i hi;refine(C.closed J hJ).go rfl fun kp1 w1 r=>?_;have R1:=Rl.rely r;have hb:=R1.blk i _ hi;have hrow:w1.heap[(env i).blk]? =some (.deferred (some [])):=hb;have htake:=run_takeDeferred (P:=C.P) hrow;have hev:=jfm (P:=C.P) hrow;have A:=R1.write (w':=w1.putObj (env i).blk (.deferred none)) (b':=.defd false) hi rfl rfl rfl rfl (by simp) (fun q hq=>World.putObj_heap_other hq) trivial (World.putObj_heap_same (R1.lt i _ hi));refine⟨_,_,_,jlj hm (by rw[hd];rfl) rfl htake,rfl,A.2.part,fun e he=>?_,?_⟩
   ·have:=mem_seen he;rw[hev]at this;refine kbf ?_ (fun x=>R1.hid i _ hi (by simp) (.inl x)) (fun x=>R1.kept i _ hi rfl (.inl x)) e this;rw[World.putObj_size];exact R1.lt i _ hi
   ·refine jeA hJ is (fr:={fr with defers:=_}) hm (by simp) A.1 hc fun kp' w2 r2 k2=>?_;exact hk kp' w2 r2 (((r.keepJ extra).trans A.2.keepJ).trans k2)
  ·cases hc
theorem jd7{g:Nat}{b:ABody}(hbody:C.body g=some b){args:List AV}(hargs:args.length<=b.ntmps){h:Heap}{Post:AV->Heap->Prop}
  (hwp:wp C b.ntmps none b.code (retO b.res Post) ⟨argT args,h,[]⟩):ACalls C g args h Post:=by
 unfold Ctx.body jjN at hbody;split at hbody
 ·rename_i fn hf;split at hbody
  ·cases hbody
  ·rename_i hname;split at hbody
   ·rename_i c rs hc hrs;cases hbody;refine⟨?_,?_⟩
    ·intro args w;refine⟨by simp[callFunc,hf,hname,hc,mark],fun es=>?_⟩;simp[callFunc,Sem.events_bind,hf,hname,hc,Result.evThen]
    ·intro extra kp env w R hbel J hJ cs hk;have S:Sim C (kp.or extra) fn.ntmps env ⟨argT args,h,[]⟩ {tmps:=(args.map (AV.val C.lk env)).toArray++Array.replicate (fn.ntmps-(args.map (AV.val C.lk env)).toArray.size) undef,defers:=[]} w:=by
      have hsz:(args.map (AV.val C.lk env)).toArray.size=args.length:=by simp
      refine⟨?_,?_,?_,rfl,by simp,R⟩
      ·have:args.length<=fn.ntmps:=hargs;simp;omega
      ·intro s;rw[Array.getD_eq_getD_getElem?,Array.getElem?_append,hsz];simp only[argT,List.getD_eq_getElem?_getD];by_cases hs:s<args.length
       ·rw[if_pos hs];simp[hs]
       ·rw[if_neg hs,List.getElem?_eq_none (by omega)];simp only[Option.getD_none,Array.getElem?_replicate];split<;>rfl
      ·intro s;simp only[argT,List.getD_eq_getElem?_getD];cases hs:args[s]? with
       |none=>trivial
       |some v=>exact hbel v (List.mem_of_getElem? hs)
     let b:Frame:={(default:Frame)with fn:=C.lk g,kind:=.normal,roundOf:=none}
     have henter:Frame.enter C.P (C.lk g) (args.map (AV.val C.lk env)).toArray .normal=
       b.atR {tmps:=(args.map (AV.val C.lk env)).toArray++Array.replicate (fn.ntmps-(args.map (AV.val C.lk env)).toArray.size) undef,defers:=[]} [.code c]:=by
      simp[Frame.enter,Frame.atR,hf,hc,b]
     rw[henter];have H:=jeP env none (jco env none) (jcV env none) c (retO rs Post) kp env ⟨argT args,h,[]⟩ _ w hwp S (by intro l hl;cases hl);refine H J hJ b [] cs rfl (by simp[b]) ?_;rintro o kp' a' w' ⟨env',st',F,_,hL,hret⟩;have fin:∀todo,(∃h1 vs,jbe st'.h st'.m=some h1/\resA st'.t h1 rs=some vs/\Post (retA vs) h1)->J kp' (G {b.atR a' todo with mode:=.returning} cs) w':=by
      rintro todo ⟨h1,vs,hcm,hres,hP⟩;refine jeA hJ st'.m rfl F.sim.defers F.sim.rel hcm fun kp1 w1 R1 K1=>?_;have hl1:=jd6 _ _ _ hcm;have hbel1:∀s,(st'.t s).bel h1.ok:=fun s=>bel_mono (fun i hi=>hl1.ok hi) _ (F.sim.bel s);have q:=jbS (tmps:=a'.tmps) R1 F.sim.tmps hbel1 hrs hres;refine hk kp1 ((retA vs).val C.lk env') w1 _ ⟨env',_,h1,rfl,hP,R1,F.keepJ.trans K1,F.ext,hL.trans hl1,q.2⟩ ⟨rfl,rfl,rfl,rfl,fn,hf,fun kp2 w2 r2=>?_⟩;have R2:=R1.rely r2;exact⟨(jbS (tmps:=a'.tmps) R2 F.sim.tmps hbel1 hrs hres).1,fun e he=>(je3 (tmps:=a'.tmps) R2 F.sim.tmps hbel1 hrs hres e he).part⟩
     have un:∀{o},(∀id,o≠.exit id)->retO rs Post o st'->∃h1 vs,jbe st'.h st'.m=some h1/\resA st'.t h1 rs=some vs/\Post (retA vs) h1:=by
      intro o ho hr;have hr':match jbe st'.h st'.m with
       |some h1=>match resA st'.t h1 rs with
        |some vs=>Post (retA vs) h1
        |none=>False
       |none=>False:=by
       cases o with
       |exit id=>exact absurd rfl (ho id)
       |normal=>exact hr
       |ret=>exact hr
      split at hr'
      ·rename_i h1 e1;split at hr'
       ·rename_i vs e2;exact⟨h1,vs,e1,e2,hr'⟩
       ·exact hr'.elim
      ·exact hr'.elim
     cases o with
     |normal=>exact(C.closed J hJ).ctl rfl rfl (fun _=>jpZ rfl) (fin [] (un (by intro id h;cases h) hret))
     |ret=>exact fun k2=>(C.closed J hJ).ctl rfl rfl (fun _=>jtd rfl) (fin _ (un (by intro id h;cases h) hret))
     |exit id=>exact hret.elim
   ·cases hbody
 ·cases hbody
def jbW(t:Nat->AV):List Nat->List AV->Nat->AV
 |p::ps,a::zas=>jbW (upd t p a) ps zas
 |_,_=>t
def jfV(l:Nat)(Post:AV->Heap->Prop)(o:Out)(st:St):Prop:=
 ∃r,st.h.get l=some (.loop r)/\(o=.normal->Post (.bool true) (st.h.put l (.loop {r with state:=.ready,pend:=none})))/\
  (o≠.normal->Post (.bool false) (st.h.put l (.loop {r with state:=.done,pend:=some o})))
def jnS(C:Ctx)(nt l:Nat)(body:ACode)(Post:AV->Heap->Prop)(o:Out)(st:St):Prop:=
 o=.normal/\∃r,st.h.get l=some (.loop r)/\r.state=.ready/\wp C nt (some l) body (jfV l Post) {st with h:=st.h.put l (.loop {r with state:=.busy})}
theorem jg0(env:Env):∀(ps:List Nat) (zas:List AV) (t:Nat->AV) (tmps:Array Value),ps.length=zas.length->(∀p∈ps,p<tmps.size)->(∀s,tmps.getD s undef=(t s).val C.lk env)->
  ((ps.zip (zas.map (AV.val C.lk env))).foldl (fun tmps (x:Nat×Value)=>tmps.setIfInBounds x.1 x.2) tmps).size=tmps.size/\
  ∀s,((ps.zip (zas.map (AV.val C.lk env))).foldl (fun tmps (x:Nat×Value)=>tmps.setIfInBounds x.1 x.2) tmps).getD s undef=(jbW t ps zas s).val C.lk env
 |[],zas,t,tmps,hl,hp,ht=>by
  cases zas with
  |nil=>exact⟨rfl,ht⟩
  |cons a zas=>cases hl
 | p :: ps, zas, t, tmps, hl, hp, ht => by
  cases zas with
  |nil=>cases hl
  | cons a zas =>
   have hpl:=hp p (by simp);have ih:=jg0 env ps zas (upd t p a) (tmps.setIfInBounds p (a.val C.lk env)) (by simpa using hl) (fun q hq=>by simpa using hp q (by simp[hq])) (fun s=>by
    rw[jnP _ _ _ _ _ hpl];unfold upd;by_cases e:s=p
    ·rw[if_pos e,if_pos e]
    ·rw[if_neg e,if_neg e,ht])
   refine⟨?_,?_⟩
   ·simp only[List.map_cons,List.zip_cons_cons,List.foldl_cons];rw[ih.1];simp
   ·intro s;simp only[List.map_cons,List.zip_cons_cons,List.foldl_cons,jbW];exact ih.2 s
theorem jfW{p:Nat->Prop}:∀(ps:List Nat) (zas:List AV) (t:Nat->AV),(∀s,(t s).bel p)->(∀a∈zas,a.bel p)->∀s,(jbW t ps zas s).bel p
 |[],zas,t,ht,_=>by cases zas<;>exact ht
 |q::ps,[],t,ht,_=>ht
 |q::ps,a::zas,t,ht,ha=>by
  simp only[jbW];refine jfW ps zas _ ?_ (fun x hx=>ha x (by simp[hx]));intro s;unfold upd;by_cases e:s=q
  ·rw[if_pos e];exact ha a (by simp)
  ·rw[if_neg e];exact ht s
theorem jcp{l:Nat}{h:Heap}{r:ALoop}(hl:h.get l=some (.loop r))(hready:r.state=.ready){args:List AV}(hargs:r.params.length=args.length){Post:AV->Heap->Prop}
  (hwp:wp C r.nt (some l) r.assign (jnS C r.nt l r.body Post) ⟨jbW r.t r.params args,h,[]⟩):jfR C l args h Post:=by
 intro extra kp env w R hbel;obtain⟨fn,tmps,params,assign,body,q1,q2,q3,q4,q5,q6,q7,q8⟩:=R.blk l _ hl;have hsz:((args.map (AV.val C.lk env)).toArray).size=params.size:=by
  have:params.size=r.params.length:=by rw[<-q4];simp
  simp;omega
 have hy:=run_yield (P:=C.P) (w:=w) (args:=(args.map (AV.val C.lk env)).toArray) q1 hsz;have hye:=jlm (P:=C.P) (w:=w) (args:=(args.map (AV.val C.lk env)).toArray) q1 hsz;refine⟨_,_,_,_,hy,fun e he=>?_,?_⟩
 ·rw[hye]at he;exact kbd (R.lt l _ hl) (fun x=>R.hid l _ hl (by simp) (.inl x)) e he
 have hfold:((params.zip (args.map (AV.val C.lk env)).toArray).foldl (fun tmps (t,a)=>tmps.setIfInBounds t a) tmps)=
   (r.params.zip (args.map (AV.val C.lk env))).foldl (fun tmps (x:Nat×Value)=>tmps.setIfInBounds x.1 x.2) tmps:=by
  rw[<-Array.foldl_toList,Array.toList_zip,q4]
 rw[show(({state:=r.state,pending:=r.pend.bind kau,fn,tmps,params,assign,body,defers:=(env r.defers).blk}:Loop).params.zip (args.map (AV.val C.lk env)).toArray).foldl (fun tmps (t,a)=>tmps.setIfInBounds t a) tmps=
  (r.params.zip (args.map (AV.val C.lk env))).foldl (fun tmps (x:Nat×Value)=>tmps.setIfInBounds x.1 x.2) tmps from hfold]
 have hps:=jg0 (C:=C) env r.params args r.t tmps hargs (fun p hp=>by rw[q2];exact q5 p hp) q3;have hokl:h.ok l:=by simp[Heap.ok,hl]
 have S:Sim C (kp.or extra) r.nt env ⟨jbW r.t r.params args,h,[]⟩ {tmps:=(r.params.zip (args.map (AV.val C.lk env))).foldl (fun tmps (x:Nat×Value)=>tmps.setIfInBounds x.1 x.2) tmps,defers:=[]} w:=
  ⟨hps.1.trans q2,hps.2,jfW _ _ _ (R.bel l _ hl).1 hbel,rfl,by simp,R⟩
 intro J hJ c cs hk
 let b:Frame:={(default:Frame)with fn:=fn,kind:=.normal,roundOf:=some (env l).blk}
 have hb0:∀tm,Frame.round (env l).blk fn tm assign body .normal=b.atR {tmps:=tm,defers:=[]} [.code assign,.beginRound,.code body]:=fun tm=>by
  simp[Frame.round,Frame.atR,b]
 show J kp (G (Frame.round (env l).blk fn _ assign body .normal) (c::cs)) w;rw[hb0];have H:=jeP (C:=C) (extra:=extra) (nt:=r.nt) env (some l) (jco env (some l)) (jcV env (some l)) assign (jnS C r.nt l r.body Post) kp env _ _ w (by rw[<-q6];exact hwp) S (by intro l' hl';cases hl';exact⟨hokl,rfl⟩);refine H J hJ b [.beginRound,.code body] (c::cs) rfl (by simp[b]) ?_;rintro o kp1 a1 w1 ⟨env1,st1,F1,_,hL1,ho,r1,hr1,hst1,hwp1⟩;subst ho;have hb1:(env1 l).blk=(env l).blk:=by rw[F1.ext l hokl]
 refine(C.closed J hJ).go rfl fun kp2 w2 rl2=>?_;have R1:=F1.sim.rel.rely rl2;have hp1:r1.pend≠some .normal:=by
  obtain⟨_,_,_,_,_,_,_,_,_,_,_,_,h8⟩:=R1.blk l _ hr1;exact h8
 obtain⟨r1',e1,e2,e3,R2,K2⟩:=jgr R1 hr1 .busy r1.pend hp1;have hev:=jh1 R1 hr1 (Nat.le_of_eq (World.putObj_size (w:=w2) (r:=(env1 l).blk) (o:=.loop {r1' with state:=.busy,pending:=r1.pend.bind kau})).symm);rw[hb1]at e1 R2 K2 hev;have hbr:=run_beginRound (P:=C.P) (w:=w2) e1 (by rw[e2];exact hst1);have hbe:=jgo (P:=C.P) (w:=w2) e1 (by rw[e2];exact hst1);rw[<-e3]at R2 K2 hev;refine⟨_,_,_,jj4 rfl (by simp[b]) hbr,rfl,K2.part,fun e he=>?_,?_⟩
 ·have:=mem_seen he;rw[hbe]at this;exact hev e this
 have hput:HLe st1.h (st1.h.put l (.loop {r1 with state:=.busy,pend:=r1.pend})):=jds hr1;have S2:Sim C (kp2.or extra) r.nt env1 {st1 with h:=st1.h.put l (.loop {r1 with state:=.busy})} a1 (w2.putObj (env l).blk (.loop {r1' with state:=.busy})):=
  ⟨F1.sim.size,F1.sim.tmps,fun s=>bel_mono (fun i hi=>hput.ok hi) _ (F1.sim.bel s),F1.sim.defers,fun i hi=>hput.ok (F1.sim.marks i hi),R2⟩
 have H2:=jeP (C:=C) (extra:=extra) (nt:=r.nt) env (some l) (jco env (some l)) (jcV env (some l)) body (jfV l Post) kp2 env1 _ a1 _ (by rw[<-q7];exact hwp1) S2 (by
  intro l' hl';cases hl';exact⟨hput.ok (F1.grow.same _ hokl),F1.ext l hokl⟩)
 refine H2 J hJ b [] (c::cs) rfl (by simp[b]) ?_;rintro o kp3 a2 w3 ⟨env2,st2,F2,_,hL2,r2,hr2,hp1',hp2'⟩;have hok1:(st1.h.put l (.loop {r1 with state:=.busy})).ok l:=hput.ok (F1.grow.same _ hokl);have hb2:(env2 l).blk=(env l).blk:=by rw[F2.ext l hok1,F1.ext l hokl]
 have fin:∀(s:LoopState) (pend:Option Out) (v:Bool) (g0:Frame),pend≠some .normal->Post (.bool v) (st2.h.put l (.loop {r2 with state:=s,pend:=pend}))->(s=if(pend.bind kau).isNone then .ready else .done)->v=(pend.bind kau).isNone->
   (∀w v w',(Instr.endRound (env l).blk (pend.bind kau)).run C.P w=.ok v w'->stepG C.P C.main (G g0 (c::cs)) w=.go (G (c.finish v) cs) w' (seen C.P b.fn ((Instr.endRound (env l).blk (pend.bind kau)).events C.P w #[])))->
   J kp3 (G g0 (c::cs)) w3:=by
  intro s pend v g0 hpn hP hs hv hstep;refine(C.closed J hJ).go rfl fun kp4 w4 rl4=>?_;have R3:=F2.sim.rel.rely rl4;obtain⟨r2',f1,f2,f3,R4,K4⟩:=jgr R3 hr2 s pend hpn;have hev:=jh1 R3 hr2 (Nat.le_of_eq (World.putObj_size (w:=w4) (r:=(env2 l).blk) (o:=.loop {r2' with state:=s,pending:=pend.bind kau})).symm);rw[hb2]at f1 R4 K4 hev;have he:=run_endRound (P:=C.P) (w:=w4) (pend.bind kau) f1;have hee:=jh0 (P:=C.P) (w:=w4) (pend.bind kau) f1;rw[<-hs,<-hv]at he;refine⟨_,_,_,hstep _ _ _ he,rfl,K4.part,fun e hm=>?_,?_⟩
  ·have:=mem_seen hm;rw[hee]at this;exact hev e this
  ·exact hk _ _ _ ⟨env2,.bool v,_,rfl,hP,R4,((((F1.keepJ.trans (rl2.keepJ extra)).trans K2.keepJ).trans F2.keepJ).trans (rl4.keepJ extra)).trans K4.keepJ,(F1.ext.trans hL1 (kam _ _)).trans' (hL1.trans hput).grow F2.ext,((hL1.trans hput).trans hL2).trans (jds hr2),trivial⟩
 cases o with
 |normal=>exact fin .ready none true _ (by simp) (hp1' rfl) rfl rfl fun w v w' h=>jlh rfl rfl h
 |exit id=>exact fun k2 e=>fin .done (some (.exit id)) false _ (by simp) (hp2' (by simp)) rfl rfl fun w v w' h=>jj5 rfl rfl (by rw[e];rfl) h
 |ret=>exact fun k2=>fin .done (some .ret) false _ (by simp) (hp2' (by simp)) rfl rfl fun w v w' h=>jli rfl rfl h
end
end Go.Ae
namespace Go.Ae
variable {C : Ctx} {h h' : Heap} {w : World} {env : Env} {st : St} {n k j sz g : Nat} {nid : Option Nat} {args : List AV} {P : Program}
noncomputable def least(p:Nat->Prop):Nat:=Classical.epsilon fun k=>p k/\∀i,i<k->¬p i
theorem jjq{p:Nat->Prop}(h:∃k,p k):p (least p)/\∀i,i<least p->¬p i:=by
 have:∃k,p k/\∀i,i<k->¬p i:=by
  obtain⟨k,hk⟩:=h
  induction k using Nat.strongRecOn with
  |_ k ih=>
   by_cases hx:∃i,i<k/\p i
   ·obtain⟨i,hi,hp⟩:=hx;exact ih i hi hp
   ·exact⟨k,hk,fun i hi hp=>hx ⟨i,hi,hp⟩⟩
 exact Classical.epsilon_spec (p:=fun k=>p k/\∀i,i<k->¬p i) this
section
variable {C : Ctx} {nt : Nat} {rd : Option Nat}
theorem jtL{c:ACode}{Q:Out->St->Prop}{st:St}(I:Nat->St->Prop){j0:Nat}(h0:I j0 st)
  (step:∀j u h' m',HLe st.h h'->I j ⟨mix (writes c) u st.t,h',m'⟩->wp C nt rd c (thenO (fun st'=>∃i,i<j/\I i st') Q) ⟨mix (writes c) u st.t,h',m'⟩)
  (mono:∀{Q Q':Out->St->Prop} {st:St},(∀o st,Q o st->Q' o st)->wp C nt rd c Q st->wp C nt rd c Q' st):wp C nt rd (.loop c) Q st:=by
 refine⟨fun t h m=>∃j,I j ⟨t,h,m⟩,fun t h m=>least fun j=>I j ⟨t,h,m⟩,⟨j0,h0⟩,fun u h' m' hle hI=>?_⟩;have hl:=jjq hI;refine mono ?_ (step _ u h' m' hle hl.1);intro o st' hq;cases o with
 |normal=>
  obtain⟨i,hi,hi2⟩:=hq;refine⟨⟨i,hi2⟩,?_⟩;have hl':=jjq (p:=fun j=>I j st') ⟨i,hi2⟩;have:¬i<least fun j=>I j st':=fun hlt=>hl'.2 i hlt hi2;show(least fun j=>I j st')<least fun j=>I j _;omega
 |exit id=>exact hq
 |ret=>exact hq
theorem jqc{o:AOper}{K K':St->Prop}(hK:∀st,K st->K' st)(h:wpOp C nid o K st):wpOp C nid o K' st:=by
 unfold wpOp at h|-;split at h
 ·exact jb3 (fun r h'=>hK _) h
 ·split at h
  ·rename_i v h' hv;exact hK _ h
  ·exact h.elim
theorem jgw:∀{os:List AOper} {K K':St->Prop} {st:St},(∀st,K st->K' st)->wpOps C os K st->wpOps C os K' st
 |[],K,K',st,hK,h=>hK _ h
 |o::os,K,K',st,hK,h=>by
  unfold wpOps at h|-;rw[jdE]at h|-;by_cases hg:gOn o.guard st.t=true
  ·rw[if_pos hg]at h|-;exact jqc (fun st=>jgw hK) h
  ·rw[if_neg hg]at h|-;exact jgw hK h
theorem jnT{base:Nat}{K K':St->Prop}(hK:∀st,K st->K' st):∀(ds:List DItem) {acc:Acc} {st:St},wpD C base ds acc K st->wpD C base ds acc K' st
 |[],_,_,h=>hK _ h
 |d::ds,acc,st,h=>by
  have h':stepD C base d acc (fun acc' st'=>wpD C base ds acc' K st') st:=h;exact jjl (C:=C) (base:=base) (d:=d) (K:=fun acc' st'=>wpD C base ds acc' K st') (K':=fun acc' st'=>wpD C base ds acc' K' st') (kaD _) (fun x y st' hxy q=>jj9 ds hxy (jnT hK ds q)) h'
theorem ACalls.mono{P Q:AV->Heap->Prop}(hPQ:∀r h',P r h'->Q r h')(hc:ACalls C g args h P):ACalls C g args h Q:=by
 have:callP C (.func g [] []) args h P:=by simpa[callP]using hc
 simpa[callP]using jb3 hPQ this
theorem jh6{f:AV}{l:Nat}{P Q:AV->Heap->Prop}(hPQ:∀r h',P r h'->Q r h')(hc:jgY C f l h P):jgY C f l h Q:=by
 unfold jgY at hc|-;cases f with
 |func g first captured=>exact ACalls.mono hPQ hc
 |_=>exact hc
theorem jmG:∀{c:ACode} {Q Q':Out->St->Prop} {st:St},(∀o st,Q o st->Q' o st)->wp C nt rd c Q st->wp C nt rd c Q' st:=by
 intro c
 induction c with
 |skip=>intro Q Q' st hQ h;exact hQ _ _ h
 |region ops=>intro Q Q' st hQ h;exact jgw (fun st=>hQ _ st) h
 |draw n ds=>intro Q Q' st hQ h;exact jnT (fun st=>hQ _ st) ds h
 |seq a b iha ihb=>
  intro Q Q' st hQ h;refine iha ?_ h;intro o st' hq;cases o with
  |normal=>exact ihb hQ hq
  |exit id=>exact hQ _ _ hq
  |ret=>exact hQ _ _ hq
 |cond c a b iha ihb=>
  intro Q Q' st hQ h;have h':condP (c.ev st.t) (wp C nt rd a Q st) (wp C nt rd b Q st):=h;show condP (c.ev st.t) (wp C nt rd a Q' st) (wp C nt rd b Q' st);unfold condP at h'|-;split at h'
  ·exact⟨fun e=>iha hQ (h'.1 e),fun e=>ihb hQ (h'.2 e)⟩
  ·exact h'
 | block id b ih =>
  intro Q Q' st hQ h;refine ih ?_ h;intro o st' hq;cases o with
  |normal=>exact hQ _ _ hq
  |ret=>exact hQ _ _ hq
  |exit id'=>
   simp only[jcD]at hq|-;split at hq
   ·rename_i e;rw[if_pos e];exact hQ _ _ hq
   ·rename_i e;rw[if_neg e];exact hQ _ _ hq
 |loop b ih=>
  intro Q Q' st hQ h;obtain⟨I,μ,h0,hs⟩:=h;refine⟨I,μ,h0,fun u h' m' hl hI=>ih ?_ (hs u h' m' hl hI)⟩;intro o st' hq;cases o with
  |normal=>exact hq
  |exit id=>exact hQ _ _ hq
  |ret=>exact hQ _ _ hq
 | rangeFunc f ps a b iha ihb =>
  intro Q Q' st hQ h;have h':jfk C nt rd (f.ev st.t) ps a b Q st:=h;show jfk C nt rd (f.ev st.t) ps a b Q' st;unfold jfk at h'|-;cases rd with
  |none=>exact jh6 (fun r h2 ⟨q,q1,q2,q3⟩=>⟨q,q1,q2,hQ _ _ q3⟩) h'
  |some l=>
   obtain⟨r0,hr0,h'⟩:=h';exact⟨r0,hr0,jh6 (fun r h2 ⟨q,q1,q2,q3⟩=>⟨q,q1,q2,hQ _ _ q3⟩) h'⟩
 |exit id=>intro Q Q' st hQ h;exact hQ _ _ h
 |ret=>intro Q Q' st hQ h;exact hQ _ _ h
 |refuse s=>intro Q Q' st hQ h;exact h.elim
end
section
variable {C : Ctx} {nt : Nat} {rd : Option Nat}
end
def kaY:Heap:=⟨0,fun _=>none,fun _ _=>rfl⟩
def AV.free(v:AV):Prop:=v.bel fun _=>False
end Go.Ae
